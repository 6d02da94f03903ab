/-
  Parts of the proof of GuardEvalsUptoSaid, put together: the abstract evaluation and its contracts. Own work.
  What is proved: each lemma as it stands; no condition.
-/
import Derived.Test.YtkgkjngbfdnoiaaGreatZGuardEvalsM4

section
namespace Go.Proofs.YtkgkjngbfdnoiaaGreat
open Go.Av
theorem opsG_len (op : List UInt8) : (opsG op).length < 1099511627776 := by
 have : ∀ (l : List (List UInt8 × List Int)), (∀ p ∈ l, p.2.length ≤ 2) → (lookS op [] l).length ≤ 2 := by
  intro l
  induction l with
  | nil => intro _; simp [lookS]
  | cons p l ih =>
   intro h
   rw [lookS]
   cases op == p.1
   ·exact ih fun q hq => h q (by simp [hq])
   ·exact h p (by simp)
 have := this opsTab (by decide)
 unfold opsG
 omega
theorem all_of {V : List Int} {l : List Tm} (hlen : l.length < 1099511627776) (ih : ∀ x ∈ l, EVs (EV cfg) 152 [x.av, .sl (intsR V)] = some (.bool (isG V x))) :
  EVs (EV cfg) 230 [.sl (rowsT l), .sl (intsR V)] = some (.bool (allG V l)) := by
 have hin : ∀ x ∈ l, EVs (EV cfg) 290 [x.av, .cptr [.sl (intsR V)] 0] = some (.bool (!isG V x)) := by
  intro x hx
  have h := ih x hx
  apply Gets.get
  rw [Tm.av, Tm.cells_eq] at h ⊢
  refine allIn_run _ _ _ _ _ ?_
  rw [h]; exact ⟨_, rfl, rfl⟩
 have loop : ∀ d i : Nat, i + d = l.length → Gets (wt86_0 (rowsT l) (intsR V) i) (fun v => ∃ j : Int, v = .int .i64 j ∧ (0 ≤ j ↔ allG V (l.drop i) = false)) := by
  intro d
  induction d with
  | zero =>
   intro i hi
   refine wt86_0_step _ _ _ ?_
   rw [rowsT_length, decide_eq_false (by omega)]
   refine ⟨_, rfl, -1, rfl, ?_⟩
   rw [List.drop_eq_nil_of_le (by omega)]
   simp [allG]
  | succ d ihd =>
   intro i hi
   have hil : i < l.length := by omega
   refine wt86_0_step _ _ _ ?_
   have hx : l[i]? = some l[i] := List.getElem?_eq_getElem hil
   have hd : l.drop i = l[i] :: l.drop (i + 1) := List.drop_eq_getElem_cons hil
   have h1 := hin l[i] (List.mem_of_getElem? hx)
   have h2 := ihd (i + 1) (by omega)
   rw [rowsT_length, decide_eq_true (show (i : Int) < (l.length : Int) by omega), leInt_zero, ltInt_nat, decide_eq_true hil, rowsT_at hx, wrap_succ hil hlen]
   simp only [cond_true, Bool.and_self, length_cells, Nat.beq_refl, take_cells, kTmC_cells, show Nat.ble 4 4 = true from rfl, av_unf, h1, kOptSome, kBool_bool]
   cases hg : isG V l[i] with
   | false =>
    refine ⟨_, rfl, i, rfl, ?_⟩
    rw [hd, allG, hg]
    exact ⟨fun _ => rfl, fun _ => by omega⟩
   | true =>
    refine h2.mono ?_
    rintro _ ⟨j, rfl, hj⟩
    refine ⟨j, rfl, ?_⟩
    rw [hd, allG, hg, Bool.true_and]; exact hj
 obtain ⟨_, h1, j, rfl, hj⟩ := loop l.length 0 (by omega)
 rw [List.drop_zero] at hj
 have h2 : EVs (EV cfg) 124 [.sl (rowsT l), .fn (.func 290) [] [.cptr [.sl (intsR V)] 0]] = some (.int .i64 j) := by
  apply Gets.get
  exact indFunc_run _ _ ⟨_, h1, rfl⟩
 have h3 : EVs (EV cfg) 143 [.sl (rowsT l), .fn (.func 290) [] [.cptr [.sl (intsR V)] 0]] = some (.bool (decide (j ≥ 0))) := by
  apply Gets.get
  refine contFunc_run _ _ ?_
  rw [h2]; exact ⟨_, rfl, rfl⟩
 apply Gets.get
 refine guardAll_run _ _ ?_
 rw [h3]
 refine ⟨_, rfl, ?_⟩
 show AV.bool (!decide (j ≥ 0)) = _
 congr 1
 cases ha : allG V l with
 | false => rw [decide_eq_true (hj.2 ha)]; rfl
 | true =>
  have : ¬ j ≥ 0 := fun h => by have := hj.1 h; rw [ha] at this; cases this
  rw [decide_eq_false this]; rfl
theorem is_ev {V : List Int} (hV : V.length < 1099511627776) : ∀ (n : Nat) (t : Tm), t.w ≤ n → n < 1099511627776 → EVs (EV cfg) 152 [t.av, .sl (intsR V)] = some (.bool (isG V t)) := by
 intro n
 induction n with
 | zero => intro t h; have := w_pos t; omega
 | succ n ih =>
  intro t hw hn
  have hwe := t.w_eq
  have hwl := wL_len t.subs
  have allOf : ∀ l : List Tm, wL l ≤ n → EVs (EV cfg) 230 [.sl (rowsT l), .sl (intsR V)] = some (.bool (allG V l)) := fun l hl =>
   all_of (by have := wL_len l; omega) fun x hx => ih x (by have := wL_mem hx; omega) (by omega)
  have hvar := patVar_ev (t := t) (by omega)
  have hsub := allOf t.subs (by omega)
  apply Gets.get
  rw [Tm.av, Tm.cells_eq] at hvar ⊢
  refine guardIs_run _ _ _ _ _ ?_
  rw [hvar, hsub]
  simp only [beqI, kOptSome, kBool_bool]
  by_cases h2 : t.kind = 2
  ·rw [decide_eq_true h2, cond_true, isG_atom h2]
   simp only [varR, kTup, kCons, kInt_int, kBool_bool, kNil]
   cases hv : varT t with
   | none => exact ⟨_, rfl, rfl⟩
   | some x =>
    have hc := contains_ev V hV x
    simp only [Option.getD_some, Option.isSome_some, Bool.not_true, cond_false]
    rw [hc]; exact ⟨_, rfl, rfl⟩
  ·rw [decide_eq_false h2, cond_false]
   by_cases h9 : t.kind = 9
   ·rw [decide_eq_true h9, cond_true, isG_cons h9]; exact ⟨_, rfl, rfl⟩
   ·rw [decide_eq_false h9, cond_false]
    by_cases h7 : t.kind = 7
    ·rw [decide_eq_true h7, cond_true]
     cases hl : t.subs with
     | nil => rw [isG_nil h7 hl]; exact ⟨_, rfl, rfl⟩
     | cons f r =>
      rw [isG_tup h7 hl]
      rw [hl] at hwl hwe
      rw [wL_cons] at hwe
      have hfw := f.w_eq
      have hfs := allOf f.subs (by omega)
      have hr := allOf r (by omega)
      have c0 : (decide (((rowsT (f :: r)).length : Int) = 0)) = false := by rw [rowsT_length]; exact decide_eq_false (by simp; omega)
      have c1 : ltInt 0 ((rowsT (f :: r)).length : Int) = true := by rw [rowsT_length]; exact decide_eq_true (by simp)
      have c2 : leInt 1 ((rowsT (f :: r)).length : Int) = true := by rw [rowsT_length]; exact decide_eq_true (by simp; omega)
      have g0 : (rowsT (f :: r))[(0 : Int).toNat]? = some f.cells := by rw [rowsT_cons]; rfl
      have tk : List.take ((rowsT (f :: r)).length - 1) (List.drop 1 (rowsT (f :: r))) = rowsT r := by
       rw [rowsT_cons, List.drop_succ_cons, List.drop_zero, List.length_cons, Nat.add_sub_cancel, List.take_length]
      have g0' : (rowsT (f :: r))[0]? = some f.cells := g0
      rw [c0, c1, c2, tk]
      simp only [cond_false, cond_true, get?Internal_eq, g0, g0', kOptSome, length_cells, Nat.beq_refl, show Nat.ble 4 4 = true from rfl, take_cells, kTmC_cells, rowsOk_rowsT, rowsT_length, beqS]
      by_cases f7 : f.kind = 7
      ·rw [if_pos f7, decide_eq_true f7, cond_true, hfs]
       by_cases hrl : r.length = 0
       ·have : decide ((r.length : Int) = 0) = true := decide_eq_true (by omega)
        rw [this, decide_eq_true hrl]; exact ⟨_, rfl, rfl⟩
       ·have : decide ((r.length : Int) = 0) = false := decide_eq_false (by omega)
        rw [this, decide_eq_false hrl]; exact ⟨_, rfl, rfl⟩
      ·rw [if_neg f7, decide_eq_false f7, cond_false]
       by_cases f2 : f.kind = 2
       ·have : (f.kind != 2) = false := by rw [f2]; rfl
        rw [if_pos f2, this, cond_false]
        by_cases hc : f.str = [99, 111, 110, 115, 116]
        ·rw [if_pos hc, decide_eq_true hc]
         refine ⟨_, rfl, ?_⟩
         show AV.bool (decide ((r.length : Int) = 1)) = _
         congr 1
         exact decide_eq_decide.2 (by omega)
        ·rw [if_neg hc, decide_eq_false hc, cond_false, ops_ev]
         have hcn := contains_ev (opsG f.str) (opsG_len f.str) (r.length : Int)
         simp only [kOptSome, kSl_sl, hcn, kBool_bool, hr]
         cases decide ((r.length : Int) ∈ opsG f.str) <;> exact ⟨_, rfl, rfl⟩
       ·have : (f.kind != 2) = true := by simpa using f2
        rw [if_neg f2, this]; exact ⟨_, rfl, rfl⟩
    ·rw [decide_eq_false h7, isG_other h2 h9 h7]; exact ⟨_, rfl, rfl⟩
theorem guardCheck_ev {V : List Int} (hV : V.length < 1099511627776) {t : Tm} (h : t.w < 1099511627776) : EVs (EV cfg) 69 [t.av, .sl (intsR V)] = some (.int .i64 (checkG V t)) := by
 have hc := check_ev h
 have hi := is_ev hV t.w t (Nat.le_refl _) h
 apply Gets.get
 rw [Tm.av, Tm.cells_eq] at hc hi ⊢
 refine guardCheck_run _ _ _ _ _ ?_
 rw [hc, hi]
 unfold checkG
 simp only [kOptSome, kInt_int, kBool_bool]
 by_cases h0 : t.chk = 0
 ·have : (t.chk != 0) = false := by rw [h0]; rfl
  rw [this, if_pos h0]
  cases isG V t <;> exact ⟨_, rfl, rfl⟩
 ·have : (t.chk != 0) = true := by simpa using h0
  rw [this, if_neg h0]; exact ⟨_, rfl, rfl⟩
end Go.Proofs.YtkgkjngbfdnoiaaGreat
end

section
namespace Go.Proofs.YtkgkjngbfdnoiaaGreat
open Go.Av
set_option maxRecDepth 100000
set_option maxHeartbeats 0

noncomputable def Lz82_0 : Den := evC cfg (EV cfg) 311 none 6 (sub (bodyOf Tryz.f311) [0, 0])
noncomputable def Az82_0 : Ex × List AV × AH → Option (AV × List (List AV)) := kAft (Cfg.keepOut cfg 311 (firstRid (sub (bodyOf Tryz.f311) [0, 0]))) (kBlock 0 (kFinG cfg (Cfg.lift cfg 311 0) (fun (v : AV) (H : AH) => (fun (r : AV × AH) => kRangeEnd 1 5 (fx 37 [(0, AV.ptr 0 0 0), (5, AV.ptr 1 0 0), (6, AV.ptr 2 0 0), (7, AV.ptr 3 0 0)]) (kBlock 0 (kSeq (fun (fr : List AV) (H : AH) => kCutTo (Cfg.cut cfg 242 (firstRid (sub (bodyOf Tryz.f242) [1, 0, 1, 0, 0, 1, 1, 1]))) fr H fun (fr : List AV) (H : AH) => kCode cfg (EV cfg) (kfN cfg 6) 242 none 1 (sub (bodyOf Tryz.f242) [1, 0, 1, 0, 0, 1, 1, 1]) fr H (kScope (kSeq (fun (fr : List AV) (H : AH) => kCutTo (Cfg.cut cfg 242 (firstRid (sub (bodyOf Tryz.f242) [1, 1]))) fr H fun (fr : List AV) (H : AH) => kCode cfg (EV cfg) (kfN cfg 6) 242 none 1 (sub (bodyOf Tryz.f242) [1, 1]) fr H (kFinD cfg 7 (Cfg.lift cfg 242 0) (Array.toList (Func.results Tryz.f242)))) (kFinD cfg 7 (Cfg.lift cfg 242 0) (Array.toList (Func.results Tryz.f242)))))) (kScope (kSeq (fun (fr : List AV) (H : AH) => kCutTo (Cfg.cut cfg 242 (firstRid (sub (bodyOf Tryz.f242) [1, 1]))) fr H fun (fr : List AV) (H : AH) => kCode cfg (EV cfg) (kfN cfg 6) 242 none 1 (sub (bodyOf Tryz.f242) [1, 1]) fr H (kFinD cfg 7 (Cfg.lift cfg 242 0) (Array.toList (Func.results Tryz.f242)))) (kFinD cfg 7 (Cfg.lift cfg 242 0) (Array.toList (Func.results Tryz.f242))))))) (Prod.snd r)) (v, H)) (Array.toList (Func.results (Prod.snd (311, Tryz.f311))))))
noncomputable def Wz82_0 : List AV × AH → Option (AV × List (List AV)) := fun (p : List AV × AH) => kOpt (LOOP 6 (some [0, 1]) [] Lz82_0 p) Az82_0
noncomputable def Lz9_0 : Den := evC cfg (EV cfg) 14 none 0 (sub (bodyOf Tryz.f14) [1, 0, 1, 0, 0])
noncomputable def Az9_0 : Ex × List AV × AH → Option AV := kAft (Cfg.keepOut cfg 14 2) (kRun cfg (EV cfg) (kfN cfg 6) 14 none 0 (kFinS cfg (Cfg.lift cfg 14 0) Tryz.f14.results.toList) ([.block 0, .seq (sub (bodyOf Tryz.f14) [1, 1])]))
noncomputable def Wz9_0 : List AV × AH → Option AV := fun p => kOpt (LOOP 0 (some [0, 3, 5]) ([]) Lz9_0 p) Az9_0
noncomputable def Lz9_1 : Den := evC cfg (EV cfg) 14 none 0 (sub (bodyOf Tryz.f14) [1, 1, 0, 1, 0, 0])
noncomputable def Az9_1 : Ex × List AV × AH → Option AV := kAft (Cfg.keepOut cfg 14 7) (kRun cfg (EV cfg) (kfN cfg 6) 14 none 0 (kFinS cfg (Cfg.lift cfg 14 0) Tryz.f14.results.toList) ([.block 2, .seq (sub (bodyOf Tryz.f14) [1, 1, 1])]))
noncomputable def Wz9_1 : List AV × AH → Option AV := fun p => kOpt (LOOP 0 (some [0, 3, 6]) ([]) Lz9_1 p) Az9_1
noncomputable abbrev wz82_0 (h0 : List (List AV)) (c1_0 c1_1 : Int) (c1_2 : List UInt8) (c1_3 : List (List AV)) (c2_0 c2_1 : Int) (c2_2 : List UInt8) (c2_3 : List (List AV)) (c3_0 : Int) : Option (AV × List (List AV)) := Wz82_0  (((fx 25 [(0, .yld 5), (1, .ptr 4 0 0)]) : List AV), ([.rows true 7 h0, .rows false 4 [[.int .i64 c1_0, .int .i64 c1_1, .str c1_2, .sl c1_3]], .rows false 4 [[.int .i64 c2_0, .int .i64 c2_1, .str c2_2, .sl c2_3]], .rows false 1 [[.int .i64 c3_0]], .rows false 1 [[.ptr 1 0 0]], rngB Tryz.f242 242 [1, 0, 1, 0, 0, 1, 1, 0, 1, 0] (fx 37 [(7, .ptr 3 0 0)]) none LoopState.ready] : AH))
noncomputable abbrev wz9_0 (L : List (List AV)) (v5 c0_0 c0_1 : Int) (c0_2 : List UInt8) (c0_3 c0_4 : List (List AV)) (c0_5 : Int) : Option (AV) := Wz9_0  (((fx 54 [(0, .sl L), (3, .ptr 0 0 0), (5, .int .i64 v5)]) : List AV), ([.rows false 6 [[.int .i64 c0_0, .int .i64 c0_1, .str c0_2, .sl c0_3, .sl c0_4, .int .i64 c0_5]]] : AH))
noncomputable abbrev wz9_1 (L : List (List AV)) (v6 c0_0 c0_1 : Int) (c0_2 : List UInt8) (c0_3 c0_4 : List (List AV)) (c0_5 : Int) : Option (AV) := Wz9_1  (((fx 54 [(0, .sl L), (3, .ptr 0 0 0), (6, .int .i64 v6)]) : List AV), ([.rows false 6 [[.int .i64 c0_0, .int .i64 c0_1, .str c0_2, .sl c0_3, .sl c0_4, .int .i64 c0_5]]] : AH))
noncomputable abbrev zk0 (q : AV × List (List AV)) : Option (AV × List (List AV)) := kTmV q.1 fun n n_1 s rows => (some (.agg [AV.int .i64 n, .int .i64 n_1, .str s, .sl rows], q.2))
noncomputable abbrev zk1 (row : List AV) (ke ne : Int) (se : List UInt8) (le bd : List (List AV)) (self : Int) (bad : Bool) : Option (AV × List (List AV)) := bif Nat.beq (List.length row) 4 then bif Nat.ble 4 (List.length row) then kTmC (List.take 4 row) fun n n_1 s rows => (some (.agg [AV.int .i64 n, .int .i64 n_1, .str s, .sl rows], [[AV.int .i64 ke, .int .i64 ne, .str se, .sl le, .sl bd, .int .i64 self, .bool bad]])) else none else none
theorem mList_run (ke ne : Int) (se : List UInt8) (le bd : List (List AV)) (self : Int) (bad : Bool) (op : List UInt8) (kt nt : Int) (st : List UInt8) (lt : List (List AV)) {P : AV × List (List AV) → Prop} (h : Gets (bif op == [(108 : UInt8), (101 : UInt8), (110 : UInt8), (103 : UInt8), (116 : UInt8), (104 : UInt8)] then wz82_0 [[AV.int .i64 ke, .int .i64 ne, .str se, .sl le, .sl bd, .int .i64 self, .bool bad]] kt nt st lt 0 0 [] [] 0 else bif kt != 9 then kOpt (EVd (EV cfg) 233 [.ptr 0 0 0] 7 [[AV.int .i64 ke, .int .i64 ne, .str se, .sl le, .sl bd, .int .i64 self, .bool bad]]) fun q => zk0 q else bif op == [(104 : UInt8), (100 : UInt8)] then bif ltInt 0 (lt.length : Int) then kOpt (List.get?Internal lt 0) fun row => zk1 row ke ne se le bd self bad else none else bif ltInt 1 (↑ (List.length lt) : Int) then kOpt (List.get?Internal lt 1) fun row => zk1 row ke ne se le bd self bad else none) P) : Gets (EVd (EV cfg) 242 ([AV.ptr (0 : Nat) (0 : Nat) (0 : Nat), AV.str op, AV.agg [AV.int IntKind.i64 kt, AV.int IntKind.i64 nt, AV.str st, AV.sl lt]] : List AV) 7 [[AV.int .i64 ke, AV.int .i64 ne, AV.str se, AV.sl le, AV.sl bd, AV.int .i64 self, AV.bool bad]]) P :=
  Gets.ev (fun _ h => funD rfl rfl Tryz.func242 rfl h) (Gets.eq (by kernel_rfl) h)
theorem mul64_run (a b : Int) {P : AV → Prop} (h : Gets (kOpt (fromSem (Op.intBits BinOp.and .u64 a 4294967295)) fun v => kInt .u64 v fun n => kOpt (fromSem (Op.shift BinOp.shr .u64 a .u64 32)) fun v => kInt .u64 v fun n_1 => kOpt (fromSem (Op.intBits BinOp.and .u64 b 4294967295)) fun v => kInt .u64 v fun n_2 => kOpt (fromSem (Op.shift BinOp.shr .u64 b .u64 32)) fun v => kInt .u64 v fun n_3 => kOpt (fromSem (Op.shift BinOp.shr .u64 (IntKind.wrap .u64 (n * n_2)) .u64 32)) fun v => kInt .u64 v fun n_4 => kOpt (fromSem (Op.intBits BinOp.and .u64 (IntKind.wrap .u64 (IntKind.wrap .u64 (n_1 * n_2) + n_4)) 4294967295)) fun v => kInt .u64 v fun n_5 => kOpt (fromSem (Op.shift BinOp.shr .u64 (IntKind.wrap .u64 (IntKind.wrap .u64 (n_1 * n_2) + n_4)) .u64 32)) fun v => kInt .u64 v fun n_6 => kOpt (fromSem (Op.shift BinOp.shr .u64 (IntKind.wrap .u64 (n_5 + IntKind.wrap .u64 (n * n_3))) .u64 32)) fun v => kInt .u64 v fun n => some (AV.tup [AV.int .u64 (IntKind.wrap .u64 (IntKind.wrap .u64 (IntKind.wrap .u64 (n_1 * n_3) + n_6) + n)), .int .u64 (IntKind.wrap .u64 (a * b))])) P) : Gets (EVs (EV cfg) 312 ([AV.int IntKind.u64 a, AV.int IntKind.u64 b] : List AV)) P :=
  Gets.ev (fun _ h => funS rfl rfl Tryz.func312 rfl h) (Gets.eq (by kernel_rfl) h)
theorem law17Large_run (L : List (List AV)) (ke ne : Int) (se : List UInt8) (le bd : List (List AV)) (self : Int) {P : AV → Prop} (h : Gets (wz9_0 L 0 ke ne se le bd self) P) : Gets (EVs (EV cfg) 14 ([AV.sl L, AV.agg [AV.int IntKind.i64 ke, AV.int IntKind.i64 ne, AV.str se, AV.sl le, AV.sl bd, AV.int IntKind.i64 self]] : List AV)) P :=
  Gets.ev (fun _ h => funS rfl rfl Tryz.func14 rfl h) (Gets.eq (by kernel_rfl) h)
theorem wz82_0_step (h0 : List (List AV)) (c1_0 c1_1 : Int) (c1_2 : List UInt8) (c1_3 : List (List AV)) (c2_0 c2_1 : Int) (c2_2 : List UInt8) (c2_3 : List (List AV)) (c3_0 : Int) {P : AV × List (List AV) → Prop} (h : Gets (bif c1_0 == 9 then bif ltInt 0 (c1_3.length : Int) then kOpt (List.get?Internal c1_3 0) fun row => bif Nat.beq (List.length row) 4 then bif Nat.ble 4 (List.length row) then kTmC (List.take 4 row) fun n n s rows => (bif ltInt 1 (c1_3.length : Int) then kOpt (List.get?Internal c1_3 1) fun row => bif Nat.beq (List.length row) 4 then bif Nat.ble 4 (List.length row) then kTmC (List.take 4 row) fun n n_1 s rows => (wz82_0 h0 n n_1 s rows c2_0 c2_1 c2_2 c2_3 (IntKind.wrap .i64 (c3_0 + 1))) else none else none else none) else none else none else none else bif c1_0 != 8 then kOpt (EVd (EV cfg) 233 [.ptr 0 0 0] 7 h0) fun q => zk0 q else kOpt (EVd (EV cfg) 240 [.ptr 0 0 0, .int .i64 c3_0] 7 h0) fun q => zk0 q) P) : Gets (wz82_0 h0 c1_0 c1_1 c1_2 c1_3 c2_0 c2_1 c2_2 c2_3 c3_0) P :=
  Gets.ev (fun _ h => loop_step (cfg := cfg) (f := 311) (rd := none) (bs := 6) h) (Gets.eq (by kernel_rfl) h)
theorem wz9_0_step (L : List (List AV)) (v5 c0_0 c0_1 : Int) (c0_2 : List UInt8) (c0_3 c0_4 : List (List AV)) (c0_5 : Int) {P : AV → Prop} (h : Gets (bif decide (v5 < (L.length : Int)) then bif decide (v5 < 101) then bif leInt 0 v5 && ltInt v5 (L.length : Int) then kOpt (List.get?Internal L (Int.toNat v5)) fun row => bif Nat.beq (List.length row) 4 then bif Nat.ble 4 (List.length row) then kTmC (List.take 4 row) fun n n_1 s rows => (kOpt (EVs (EV cfg) 41 [.agg [AV.int .i64 n, .int .i64 n_1, .str s, .sl rows], .int .i64 300]) fun v => kBool v fun b => bif b then some (.bool true) else wz9_0 L (IntKind.wrap .i64 (v5 + 1)) c0_0 c0_1 c0_2 c0_3 c0_4 c0_5) else none else none else none else wz9_1 L 0 c0_0 c0_1 c0_2 c0_3 c0_4 c0_5 else wz9_1 L 0 c0_0 c0_1 c0_2 c0_3 c0_4 c0_5) P) : Gets (wz9_0 L v5 c0_0 c0_1 c0_2 c0_3 c0_4 c0_5) P :=
  Gets.ev (fun _ h => loop_step (cfg := cfg) (f := 14) (rd := none) (bs := 0) h) (Gets.eq (by kernel_rfl) h)
theorem wz9_1_step (L : List (List AV)) (v6 c0_0 c0_1 : Int) (c0_2 : List UInt8) (c0_3 c0_4 : List (List AV)) (c0_5 : Int) {P : AV → Prop} (h : Gets (bif decide (v6 < (c0_4.length : Int)) then bif decide (v6 < 61) then bif leInt 0 v6 && ltInt v6 (c0_4.length : Int) then kOpt (List.get?Internal c0_4 (v6.toNat)) fun row => bif Nat.beq (List.length row) 5 then bif Nat.ble 5 (List.length row) then kCons (List.take 4 (List.drop 1 row)) fun c cs => kInt .i64 c fun n => kCons cs fun c cs => kInt .i64 c fun n_1 => kCons cs fun c cs => kStr c fun s => kCons cs fun c cs => kSl c fun rows => kNil cs (kOpt (EVs (EV cfg) 41 [.agg [AV.int .i64 n, .int .i64 n_1, .str s, .sl rows], .int .i64 100]) fun v => kBool v fun b => bif b then some (.bool true) else wz9_1 L (IntKind.wrap .i64 (v6 + 1)) c0_0 c0_1 c0_2 c0_3 c0_4 c0_5) else none else none else none else bif decide ((L.length : Int) > 100) then some (.bool true) else bif decide ((c0_4.length : Int) > 60) then some (.bool true) else kOpt (EVs (EV cfg) 41 [.agg [AV.int .i64 c0_0, .int .i64 c0_1, .str c0_2, .sl c0_3], .int .i64 300]) fun v => kBool v fun b => some (.bool b) else bif decide ((L.length : Int) > (100 : Int)) then some (.bool true) else bif decide ((c0_4.length : Int) > 60) then some (.bool true) else kOpt (EVs (EV cfg) 41 [.agg [AV.int .i64 c0_0, .int .i64 c0_1, .str c0_2, .sl c0_3], .int .i64 300]) fun v => kBool v fun b => some (.bool b)) P) : Gets (wz9_1 L v6 c0_0 c0_1 c0_2 c0_3 c0_4 c0_5) P :=
  Gets.ev (fun _ h => loop_step (cfg := cfg) (f := 14) (rd := none) (bs := 0) h) (Gets.eq (by kernel_rfl) h)
end Go.Proofs.YtkgkjngbfdnoiaaGreat
end

section
namespace Go.Av
theorem xor_not {n : Int} (h1 : -9223372036854775808 ≤ n) (h2 : n < 9223372036854775808) : fromSem (Op.intBits .xor .i64 (-1) n) = some (.int .i64 (-1 - n)) := by
 have : fromSem (Op.intBits .xor .i64 (-1) n) = some (.int .i64 (IntKind.wrap .i64 (BitVec.ofInt 64 (-1) ^^^ BitVec.ofInt 64 n).toNat)) := rfl
 rw [this, wrap_toNat]
 have e : BitVec.ofInt 64 (-1) ^^^ BitVec.ofInt 64 n = ~~~(BitVec.ofInt 64 n) := by
  rw [show BitVec.ofInt 64 (-1) = BitVec.allOnes 64 from by decide, BitVec.allOnes_xor]
 have en : n = (BitVec.ofInt 64 n).toInt := by rw [BitVec.toInt_ofInt, Int.bmod_eq_of_le (by omega) (by omega)]
 have hn := BitVec.toNat_not (x := BitVec.ofInt 64 n)
 rw [e]
 congr 2
 rw [BitVec.toInt_eq_toNat_cond] at en ⊢
 have hl := (BitVec.ofInt 64 n).isLt
 rw [hn]
 generalize (BitVec.ofInt 64 n).toNat = U at *
 split at en <;> split <;> omega
theorem get0T (x : Tm) (l : List Tm) : List.get?Internal (rowsT (x :: l)) 0 = some x.cells := by rw [get?Internal_eq, rowsT_cons]; rfl
theorem get1T (x y : Tm) (l : List Tm) : List.get?Internal (rowsT (x :: y :: l)) 1 = some y.cells := by rw [get?Internal_eq, rowsT_cons, rowsT_cons]; rfl
theorem get2T (x y z : Tm) (l : List Tm) : List.get?Internal (rowsT (x :: y :: z :: l)) 2 = some z.cells := by rw [get?Internal_eq, rowsT_cons, rowsT_cons, rowsT_cons]; rfl
theorem lt0T (x : Tm) (l : List Tm) : ltInt 0 ((rowsT (x :: l)).length : Int) = true := by rw [rowsT_length]; exact decide_eq_true (by simp)
theorem lt1T (x y : Tm) (l : List Tm) : ltInt 1 ((rowsT (x :: y :: l)).length : Int) = true := by rw [rowsT_length]; exact decide_eq_true (by simp; omega)
theorem lt2T (x y z : Tm) (l : List Tm) : ltInt 2 ((rowsT (x :: y :: z :: l)).length : Int) = true := by rw [rowsT_length]; exact decide_eq_true (by simp; omega)
theorem ble44 : Nat.ble 4 4 = true := rfl
theorem num_chk {t : Tm} (h : t.chk = 0) : -576460752303423488 ≤ t.num ∧ t.num ≤ 576460752303423487 := by
 obtain ⟨h1, _⟩ := chk_zero.1 h
 rw [Tm.parts_eq, Bool.and_eq_true] at h1
 have h2 : soundB t.kind t.num t.str t.subs.length = true := h1.1
 generalize t.kind = k at h2
 generalize t.num = n at *
 unfold soundB at h2
 repeat' split at h2
 all_goals simp at h2
 all_goals omega
theorem ok_chk {t : Tm} (h : t.chk = 0) : t.Ok := ok_of_w t (by have := w_chk h; omega)
theorem inB_chk {t : Tm} (h : t.chk = 0) : t.kind = 1 → InB t.num := fun _ => num_chk h
end Go.Av
namespace Go.Proofs.YtkgkjngbfdnoiaaGreat
open Go.Av
theorem num_bad (e : Env) (n : Int) : ∃ t : Tm, EVd (EV cfg) 240 [.ptr 0 0 0, .int .i64 n] 7 (mR e true) = some (t.av, mR e true) := by
 rw [mNumber_ev]
 by_cases h : InB n
 ·exact ⟨numT n, by rw [if_pos h]⟩
 ·exact ⟨zeroT, by rw [if_neg h]⟩
theorem num_res {e : Env} {b : Bool} {n : Int} {k : Int} : Gets (kOpt (EVd (EV cfg) 240 [.ptr 0 0 0, .int .i64 n] 7 (mR e (false || decide (k ≠ 1)))) fun q => kTmV q.1 fun (n n_1 : Int) (s : List UInt8) (rows : List (List AV)) => some (AV.agg [.int .i64 n, .int .i64 n_1, .str s, .sl rows], q.2)) (Res e (if k = 1 then withinG n else none)) := by
 by_cases h : k = 1
 ·rw [if_pos h, decide_eq_false (by simpa using h)]
  exact Gets.bind (mNumber_within e n fun r h1 h2 => h1) fun r h => ret_res h (Res_tm h)
 ·rw [if_neg h, decide_eq_true (by simpa using h)]
  obtain ⟨t, ht⟩ := num_bad e n
  rw [Bool.or_true, ht]
  simp only [kOptSome, kTmV_av, av_unf]
  exact ret_true
theorem lenLoop (e : Env) {a b : Int} {s : List UInt8} {r : List (List AV)} : ∀ (n : Nat) (t : Tm) (c : Nat), t.w ≤ n → t.chk = 0 → c + n < 1099511627776 →
  Gets (wz82_0 (mR e false) t.kind t.num t.str (rowsT t.subs) a b s r c) (Res e ((lenG t).bind fun m => withinG ((c + m : Nat) : Int))) := by
 intro n
 induction n with
 | zero => intro t _ h; have := w_pos t; omega
 | succ n ih =>
  intro t c hw hc hn
  refine wz82_0_step _ _ _ _ _ _ _ _ _ _ ?_
  unfold zk0
  by_cases h9 : t.kind = 9
  ·obtain ⟨x, y, hs⟩ := cons_chk hc h9
   have hwe := t.w_eq
   rw [hs] at hwe
   simp only [wL_cons, wL_nil] at hwe
   have h := ih y (c + 1) (by omega) (chk_sub hc (by rw [hs]; simp)) (by omega)
   rw [lenG_cons h9 hs, hs, beqI, decide_eq_true h9]
   simp only [cond_true, lt0T, lt1T, get0T, get1T, kOptSome, length_cells, Nat.beq_refl, ble44, take_cells, kTmC_cells, wrap_succ (show c < c + 1 by omega) (by omega)]
   have e1 : ((lenG y).map (· + 1)).bind (fun m => withinG ((c + m : Nat) : Int)) = (lenG y).bind fun m => withinG ((c + 1 + m : Nat) : Int) := by
    cases lenG y with
    | none => rw [Option.map_none, Option.bind_none, Option.bind_none]
    | some m => rw [Option.map_some, Option.bind_some, Option.bind_some, show c + (m + 1) = c + 1 + m by omega]
   rw [e1]
   exact h
  ·rw [beqI, decide_eq_false h9, cond_false]
   by_cases h8 : t.kind = 8
   ·have : (t.kind != 8) = false := by rw [h8]; rfl
    have e0 : ((some 0).bind fun m => withinG ((c + m : Nat) : Int)) = withinG c := by rw [Option.bind_some, Nat.add_zero]
    rw [this, lenG_nil h8, e0]
    exact Gets.bind (mNumber_within e c fun r h1 h2 => h1) fun r h => ret_res h (Res_tm h)
   ·have : (t.kind != 8) = true := by simpa using h8
    rw [this, lenG_none h9 h8, mRaise_ev]
    simp only [cond_true, kOptSome, kTmV_av, av_unf]
    exact ret_true
def listOpG (op : List UInt8) (t : Tm) : Option Tm :=
 if op = [108, 101, 110, 103, 116, 104] then (lenG t).bind fun n => withinG n
 else if t.kind = 9 then (if op = [104, 100] then t.subs[0]? else t.subs[1]?)
 else none
theorem mList_ev (e : Env) (op : List UInt8) {t : Tm} (hc : t.chk = 0) : Gets (EVd (EV cfg) 242 [.ptr 0 0 0, .str op, t.av] 7 (mR e false)) (Res e (listOpG op t)) := by
 rw [Tm.av, Tm.cells_eq]
 refine mList_run _ _ _ _ _ _ _ _ _ _ _ _ ?_
 unfold zk1 zk0
 have hw := w_chk hc
 unfold listOpG
 rw [beqS]
 by_cases h1 : op = [108, 101, 110, 103, 116, 104]
 ·rw [if_pos h1, decide_eq_true h1, cond_true]
  have h := lenLoop e (a := 0) (b := 0) (s := []) (r := []) t.w t 0 (Nat.le_refl _) hc (by omega)
  simpa using h
 ·rw [if_neg h1, decide_eq_false h1, cond_false]
  by_cases h9 : t.kind = 9
  ·obtain ⟨x, y, hs⟩ := cons_chk hc h9
   have : (t.kind != 9) = false := by rw [h9]; rfl
   rw [this, if_pos h9, hs, beqS]
   simp only [cond_false, lt0T, lt1T, get0T, get1T, kOptSome, length_cells, Nat.beq_refl, ble44, take_cells, kTmC_cells, cond_true, av_unf]
   by_cases h2 : op = [104, 100]
   ·rw [if_pos h2, decide_eq_true h2]; exact ret_false
   ·rw [if_neg h2, decide_eq_false h2]; exact ret_false
  ·have : (t.kind != 9) = true := by simpa using h9
   rw [this, if_neg h9, mRaise_ev]
   simp only [cond_true, kOptSome, kTmV_av, av_unf]
   exact ret_true
theorem oneG_list {op : List UInt8} {t : Tm} : (if op = [108, 101, 110, 103, 116, 104] then (lenG t).bind fun n => withinG n else if t.kind = 9 then (if op = [104, 100] then t.subs[0]? else t.subs[1]?) else none) = listOpG op t := rfl
theorem mOne_ev (e : Env) (op : List UInt8) {t : Tm} (hc : t.chk = 0) : Gets (EVd (EV cfg) 172 [.ptr 0 0 0, .str op, t.av] 7 (mR e false)) (Res e (oneG op t)) := by
 have hl := mList_ev e op hc
 have hn := num_chk hc
 have hs := subs_chk hc
 have w1 : IntKind.wrap .i64 (0 - t.num) = -t.num := by rw [wrap64 (by omega) (by omega)]; omega
 rw [Tm.av, Tm.cells_eq] at hl ⊢
 refine mOne_run _ _ _ _ _ _ _ _ _ _ _ _ ?_
 unfold zi44 zi45 zi43 zi33 zi34 zi25 zi26 zi1 zi2 zi3
 simp only [av_unf, truth_ev, kOptSome, kTmV_av, beqS, beqI, w1, mRaise_ev, mBool_ev, mInt_ev, kMBool_bool, kMInt_int, xor_not (show -9223372036854775808 ≤ t.num by omega) (by omega), kInt_int]
 rw [av_unf] at hl
 unfold oneG
 by_cases h1 : op = [105, 115, 95, 97, 116, 111, 109]
 ·rw [if_pos h1, decide_eq_true h1, cond_true]; exact ret_false
 rw [if_neg h1, decide_eq_false h1, cond_false]
 by_cases h2 : op = [105, 115, 95, 105, 110, 116, 101, 103, 101, 114]
 ·rw [if_pos h2, decide_eq_true h2, cond_true]; exact ret_false
 rw [if_neg h2, decide_eq_false h2, cond_false]
 by_cases h3 : op = [105, 115, 95, 108, 105, 115, 116]
 ·rw [if_pos h3, decide_eq_true h3, cond_true]
  cases decide (t.kind = 9)
  ·exact ret_false
  ·exact ret_false
 rw [if_neg h3, decide_eq_false h3, cond_false]
 by_cases h4 : op = [105, 115, 95, 116, 117, 112, 108, 101]
 ·rw [if_pos h4, decide_eq_true h4, cond_true]; exact ret_false
 rw [if_neg h4, decide_eq_false h4, cond_false]
 by_cases h5 : op = [105, 115, 95, 112, 105, 100]
 ·rw [if_pos h5, decide_eq_true h5, cond_true]; exact ret_false
 rw [if_neg h5, decide_eq_false h5, cond_false]
 by_cases h6 : op = [105, 115, 95, 102, 117, 110, 99, 116, 105, 111, 110]
 ·rw [if_pos h6, decide_eq_true h6, cond_true]; exact ret_false
 rw [if_neg h6, decide_eq_false h6, cond_false]
 by_cases h7 : op = [105, 115, 95, 114, 101, 102, 101, 114, 101, 110, 99, 101]
 ·rw [if_pos h7, decide_eq_true h7, cond_true]
  cases decide (t.kind = 3)
  ·exact ret_false
  ·exact ret_false
 rw [if_neg h7, decide_eq_false h7, cond_false]
 by_cases h8 : op = [110, 111, 116]
 ·rw [if_pos h8, decide_eq_true h8, cond_true]
  cases hb : boolG t with
  | none => exact ret_true
  | some x => rw [boolG_some hb]; exact ret_false
 rw [if_neg h8, decide_eq_false h8, cond_false]
 by_cases h9 : op = [98, 110, 111, 116]
 ·rw [if_pos h9, decide_eq_true h9, cond_true]; exact num_res (b := false)
 rw [if_neg h9, decide_eq_false h9, cond_false]
 by_cases h10 : op = [43]
 ·rw [if_pos h10, decide_eq_true h10, cond_true]; exact num_res (b := false)
 rw [if_neg h10, decide_eq_false h10, cond_false]
 by_cases h11 : op = [45]
 ·rw [if_pos h11, decide_eq_true h11, cond_true]; exact num_res (b := false)
 rw [if_neg h11, decide_eq_false h11, cond_false]
 by_cases h12 : op = [97, 98, 115]
 ·rw [if_pos h12, decide_eq_true h12, cond_true]
  have e1 : (if decide (t.num < -t.num) = true then -t.num else t.num) = if t.num < 0 then -t.num else t.num := by
   by_cases h : t.num < 0
   ·rw [if_pos h, if_pos (decide_eq_true (by omega))]
   ·rw [if_neg h, if_neg (by rw [decide_eq_false (by omega)]; simp)]
  rw [e1]
  exact num_res (b := false)
 rw [if_neg h12, decide_eq_false h12, cond_false]
 have tup : Gets (bif t.kind != 7 then some (zeroT.av, mR e true) else kOpt (EVd (EV cfg) 240 [.ptr 0 0 0, .int .i64 ((rowsT t.subs).length : Int)] 7 (mR e false)) fun q => kTmV q.1 fun (n n_1 : Int) (s : List UInt8) (rows : List (List AV)) => some (AV.agg [.int .i64 n, .int .i64 n_1, .str s, .sl rows], q.2)) (Res e (if t.kind = 7 then withinG t.subs.length else none)) := by
  by_cases h : t.kind = 7
  ·have : (t.kind != 7) = false := by rw [h]; rfl
   rw [this, if_pos h, cond_false, rowsT_length]
   exact Gets.bind (mNumber_within e _ fun r h1 h2 => h1) fun r h => ret_res h (Res_tm h)
  ·have : (t.kind != 7) = true := by simpa using h
   rw [this, if_neg h, cond_true]
   exact ret_true
 by_cases h13 : op = [116, 117, 112, 108, 101, 95, 115, 105, 122, 101]
 ·rw [if_pos h13, decide_eq_true h13, cond_true]; exact tup
 rw [if_neg h13, decide_eq_false h13, cond_false]
 by_cases h14 : op = [115, 105, 122, 101]
 ·rw [if_pos h14, decide_eq_true h14, cond_true]; exact tup
 rw [if_neg h14, decide_eq_false h14, cond_false, oneG_list]
 exact Gets.bind hl fun r h => ret_res h (Res_tm h)
theorem mApply_ev (e : Env) (op : List UInt8) {l : List Tm} (hl : ∀ x ∈ l, x.chk = 0) (hlen : l.length ≤ 2) (hp : op = [42] → ProductOk) :
  Gets (EVd (EV cfg) 92 [.ptr 0 0 0, .str op, .sl (rowsT l)] 7 (mR e false)) (Res e (applyG op l e.self)) := by
 refine mApply_run _ _ _ _ _ _ _ _ _ ?_
 match l, hl, hlen with
 | [], _, _ =>
  simp only [rowsT_length, List.length_nil]
  refine ⟨_, rfl, ?_⟩
  show _ = (Tm.av _, mR e false)
  rw [Tm.av_mk, rowsT_nil]
 | [a], hl, _ =>
  have h1 := mOne_ev e op (hl a (by simp))
  have c1 : ((((rowsT [a]).length : Nat) : Int) == 1) = true := by rw [rowsT_length]; rfl
  rw [c1]
  simp only [cond_true, lt0T, get0T, kOptSome, length_cells, Nat.beq_refl, ble44, take_cells, kTmC_cells, av_unf]
  exact Gets.bind h1 fun r h => ret_res h (Res_tm h)
 | [a, b], hl, _ =>
  have ha := hl a (by simp)
  have hb := hl b (by simp)
  have h1 := mTwo_ev e op (ok_chk ha) (ok_chk hb) (inB_chk ha) (inB_chk hb) hp
  have c1 : ((((rowsT [a, b]).length : Nat) : Int) == 1) = false := by rw [rowsT_length]; rfl
  have c2 : ((((rowsT [a, b]).length : Nat) : Int) == 2) = true := by rw [rowsT_length]; rfl
  rw [c1, c2]
  simp only [cond_true, cond_false, lt0T, lt1T, get0T, get1T, kOptSome, length_cells, Nat.beq_refl, ble44, take_cells, kTmC_cells, av_unf]
  exact Gets.bind h1 fun r h => ret_res h (Res_tm h)
 | _ :: _ :: _ :: _, _, h => simp at h
end Go.Proofs.YtkgkjngbfdnoiaaGreat
end

section
namespace Go.Proofs.YtkgkjngbfdnoiaaGreat
open Go.Av
set_option maxRecDepth 100000
set_option maxHeartbeats 0

noncomputable def Lu57_0 : Den := evC cfg (EV cfg) 235 none 0 (sub (bodyOf Tryz.f235) [1, 0, 1, 0, 0])
noncomputable def Au57_0 : Ex × List AV × AH → Option AV := kAft (Cfg.keepOut cfg 235 2) (kRun cfg (EV cfg) (kfN cfg 6) 235 none 0 (kFinS cfg (Cfg.lift cfg 235 0) Tryz.f235.results.toList) ([.block 0, .seq (sub (bodyOf Tryz.f235) [1, 1])]))
noncomputable def Wu57_0 : List AV × AH → Option AV := fun p => kOpt (LOOP 0 (some [0, 1, 5]) ([]) Lu57_0 p) Au57_0
noncomputable def Lu58_0 : Den := evC cfg (EV cfg) 93 none 0 (sub (bodyOf Tryz.f93) [1, 1, 0, 1, 0, 0])
noncomputable def Au58_0 : Ex × List AV × AH → Option AV := kAft (Cfg.keepOut cfg 93 3) (kRun cfg (EV cfg) (kfN cfg 6) 93 none 0 (kFinS cfg (Cfg.lift cfg 93 0) Tryz.f93.results.toList) ([.block 0, .seq (sub (bodyOf Tryz.f93) [1, 1, 1])]))
noncomputable def Wu58_0 : List AV × AH → Option AV := fun p => kOpt (LOOP 0 (some [1, 5, 6]) ([]) Lu58_0 p) Au58_0
noncomputable def Lu56_0 : Den := evC cfg (EV cfg) 234 none 0 (sub (bodyOf Tryz.f234) [1, 0, 1, 0, 0])
noncomputable def Au56_0 : Ex × List AV × AH → Option AV := kAft (Cfg.keepOut cfg 234 2) (kRun cfg (EV cfg) (kfN cfg 6) 234 none 0 (kFinS cfg (Cfg.lift cfg 234 0) Tryz.f234.results.toList) ([.block 0, .seq (sub (bodyOf Tryz.f234) [1, 1])]))
noncomputable def Wu56_0 : List AV × AH → Option AV := fun p => kOpt (LOOP 0 (some [0, 1, 5]) ([]) Lu56_0 p) Au56_0
noncomputable def Lu55_0 : Den := evC cfg (EV cfg) 162 none 0 (sub (bodyOf Tryz.f162) [1, 1, 1, 0, 1, 0, 0])
noncomputable def Au55_0 : Ex × List AV × AH → Option AV := kAft (Cfg.keepOut cfg 162 5) (kRun cfg (EV cfg) (kfN cfg 6) 162 none 0 (kFinS cfg (Cfg.lift cfg 162 0) Tryz.f162.results.toList) ([.block 0, .seq (sub (bodyOf Tryz.f162) [1, 1, 1, 1])]))
noncomputable def Wu55_0 : List AV × AH → Option AV := fun p => kOpt (LOOP 0 (some [1, 4, 5]) ([]) Lu55_0 p) Au55_0
noncomputable def Lu53_0 : Den := evC cfg (EV cfg) 175 none 0 (sub (bodyOf Tryz.f175) [1, 1, 0, 1, 0, 0])
noncomputable def Au53_0 : Ex × List AV × AH → Option AV := kAft (Cfg.keepOut cfg 175 4) (kRun cfg (EV cfg) (kfN cfg 6) 175 none 0 (kFinS cfg (Cfg.lift cfg 175 0) Tryz.f175.results.toList) ([.block 0, .seq (sub (bodyOf Tryz.f175) [1, 1, 1])]))
noncomputable def Wu53_0 : List AV × AH → Option AV := fun p => kOpt (LOOP 0 (some [1, 3]) ([]) Lu53_0 p) Au53_0
noncomputable def Lu54_0 : Den := evC cfg (EV cfg) 176 none 0 (sub (bodyOf Tryz.f176) [1, 1, 1, 0, 1, 0, 1, 0, 0])
noncomputable def Au54_0 : Ex × List AV × AH → Option AV := kAft (Cfg.keepOut cfg 176 6) (kRun cfg (EV cfg) (kfN cfg 6) 176 none 0 (kFinS cfg (Cfg.lift cfg 176 0) Tryz.f176.results.toList) ([.block 0, .seq (sub (bodyOf Tryz.f176) [1, 1, 1, 1])]))
noncomputable def Wu54_0 : List AV × AH → Option AV := fun p => kOpt (LOOP 0 (some [1, 3, 4]) ([]) Lu54_0 p) Au54_0
noncomputable abbrev wu57_0 (L V : List (List AV)) (v5 : Int) : Option (AV) := Wu57_0  (((fx 19 [(0, .sl L), (1, .sl V), (5, .int .i64 v5)]) : List AV), ([] : AH))
noncomputable abbrev wu58_0 (n : Int) (rows : List (List AV)) (v6 : Int) : Option (AV) := Wu58_0  (((fx 21 [(1, .int .i64 n), (5, .sl rows), (6, .int .i64 v6)]) : List AV), ([] : AH))
noncomputable abbrev wu56_0 (L : List (List AV)) (n v5 : Int) : Option (AV) := Wu56_0  (((fx 18 [(0, .sl L), (1, .int .i64 n), (5, .int .i64 v5)]) : List AV), ([] : AH))
noncomputable abbrev wu55_0 (v4 v5 c0_0 c0_1 : Int) (c0_2 : List UInt8) (c0_3 : List (List AV)) : Option (AV) := Wu55_0  (((fx 73 [(1, .ptr 0 0 0), (4, .int .i64 v4), (5, .int .i64 v5)]) : List AV), ([.rows false 4 [[.int .i64 c0_0, .int .i64 c0_1, .str c0_2, .sl c0_3]]] : AH))
noncomputable abbrev wu53_0 (v3 c0_0 c0_1 : Int) (c0_2 : List UInt8) (c0_3 : List (List AV)) : Option (AV) := Wu53_0  (((fx 21 [(1, .ptr 0 0 0), (3, .int .i64 v3)]) : List AV), ([.rows false 4 [[.int .i64 c0_0, .int .i64 c0_1, .str c0_2, .sl c0_3]]] : AH))
noncomputable abbrev wu54_0 (v3 v4 c0_0 c0_1 : Int) (c0_2 : List UInt8) (c0_3 : List (List AV)) : Option (AV) := Wu54_0  (((fx 42 [(1, .ptr 0 0 0), (3, .int .i64 v3), (4, .int .i64 v4)]) : List AV), ([.rows false 4 [[.int .i64 c0_0, .int .i64 c0_1, .str c0_2, .sl c0_3]]] : AH))
theorem r17Check_run (kt nt : Int) (st : List UInt8) (lt V : List (List AV)) {P : AV → Prop} (h : Gets (kOpt (EVs (EV cfg) 95 [.agg [.int .i64 kt, .int .i64 nt, .str st, .sl lt]]) fun v => kInt .i64 v fun n => bif n != 0 then some (.int .i64 2) else kOpt (EVs (EV cfg) 161 [.agg [.int .i64 kt, .int .i64 nt, .str st, .sl lt], .sl V]) fun v => kBool v fun b => bif ! b then some (.int .i64 10) else some (.int .i64 0)) P) : Gets (EVs (EV cfg) 73 ([AV.agg [AV.int IntKind.i64 kt, AV.int IntKind.i64 nt, AV.str st, AV.sl lt], AV.sl V] : List AV)) P :=
  Gets.ev (fun _ h => funS rfl rfl Tryz.func73 rfl h) (Gets.eq (by kernel_rfl) h)
theorem r17Is_run (kt nt : Int) (st : List UInt8) (lt V : List (List AV)) {P : AV → Prop} (h : Gets (kOpt (EVs (EV cfg) 162 [.agg [.int .i64 kt, .int .i64 nt, .str st, .sl lt]]) fun v => kTup v fun cs => kCons cs fun c cs => kInt .i64 c fun n => kCons cs fun c cs => kBool c fun b => kNil cs (bif b then kOpt (EVs (EV cfg) 234 [.sl V, .int .i64 n]) fun v => kBool v fun b => some (.bool b) else bif kt == 9 then kOpt (EVs (EV cfg) 235 [.sl lt, .sl V]) fun v => kBool v fun b => some (.bool b) else bif kt != 7 then some (.bool true) else bif (lt.length : Int) == 0 then some (.bool false) else bif ltInt 0 (lt.length : Int) then kOpt (List.get?Internal lt 0) fun row => bif Nat.beq (List.length row) 4 then bif Nat.ble 4 (List.length row) then kTmC (List.take 4 row) fun n n_1 s rows => (bif (↑ (List.length lt) : Int) == 1 then bif n == 7 then kOpt (EVs (EV cfg) 235 [.sl rows, .sl V]) fun v => kBool v fun b => some (.bool b) else bif n != 2 then some (.bool false) else bif s == [(99 : UInt8), (111 : UInt8), (110 : UInt8), (115 : UInt8), (116 : UInt8)] then some (.bool ((lt.length : Int) == 2)) else kOpt (EVs (EV cfg) 93 [.str s, .int .i64 (IntKind.wrap .i64 ((lt.length : Int) - 1))]) fun v => kBool v fun b => bif b then bif leInt 1 (↑ (List.length lt) : Int) then bif rowsOk 4 lt then kOpt (EVs (EV cfg) 235 [.sl (List.take (List.length lt - 1) (List.drop 1 lt)), .sl V]) fun v => kBool v fun b => some (.bool b) else none else none else some (.bool false) else bif n != 2 then some (.bool false) else bif s == [(99 : UInt8), (111 : UInt8), (110 : UInt8), (115 : UInt8), (116 : UInt8)] then some (.bool ((lt.length : Int) == 2)) else kOpt (EVs (EV cfg) 93 [.str s, .int .i64 (IntKind.wrap .i64 ((lt.length : Int) - 1))]) fun v => kBool v fun b => bif b then bif leInt 1 (lt.length : Int) then bif rowsOk 4 lt then kOpt (EVs (EV cfg) 235 [.sl (List.take (List.length lt - 1) (List.drop 1 lt)), .sl V]) fun v => kBool v fun b => some (.bool b) else none else none else some (.bool false)) else none else none else none)) P) : Gets (EVs (EV cfg) 161 ([AV.agg [AV.int IntKind.i64 kt, AV.int IntKind.i64 nt, AV.str st, AV.sl lt], AV.sl V] : List AV)) P :=
  Gets.ev (fun _ h => funS rfl rfl Tryz.func161 rfl h) (Gets.eq (by kernel_rfl) h)
theorem r17All_run (L V : List (List AV)) {P : AV → Prop} (h : Gets (wu57_0 L V 0) P) : Gets (EVs (EV cfg) 235 ([AV.sl L, AV.sl V] : List AV)) P :=
  Gets.ev (fun _ h => funS rfl rfl Tryz.func235 rfl h) (Gets.eq (by kernel_rfl) h)
theorem r17May_run (op : List UInt8) (n : Int) {P : AV → Prop} (h : Gets (kOpt (EVf (EV cfg) 174 [.str op]) fun v => kSl v fun rows => wu58_0 n rows 0) P) : Gets (EVs (EV cfg) 93 ([AV.str op, AV.int IntKind.i64 n] : List AV)) P :=
  Gets.ev (fun _ h => funS rfl rfl Tryz.func93 rfl h) (Gets.eq (by kernel_rfl) h)
theorem r17In_run (L : List (List AV)) (n : Int) {P : AV → Prop} (h : Gets (wu56_0 L n 0) P) : Gets (EVs (EV cfg) 234 ([AV.sl L, AV.int IntKind.i64 n] : List AV)) P :=
  Gets.ev (fun _ h => funS rfl rfl Tryz.func234 rfl h) (Gets.eq (by kernel_rfl) h)
theorem r17Ops_run (op : List UInt8) {P : AV → Prop} (h : Gets (bif op == [(115 : UInt8), (101 : UInt8), (108 : UInt8), (102 : UInt8)] then some (.sl [[.int .i64 0]]) else bif op == [(105 : UInt8), (115 : UInt8), (95 : UInt8), (97 : UInt8), (116 : UInt8), (111 : UInt8), (109 : UInt8)] then some (.sl [[.int .i64 1]]) else bif op == [(105 : UInt8), (115 : UInt8), (95 : UInt8), (105 : UInt8), (110 : UInt8), (116 : UInt8), (101 : UInt8), (103 : UInt8), (101 : UInt8), (114 : UInt8)] then some (.sl [[.int .i64 1]]) else bif op == [(105 : UInt8), (115 : UInt8), (95 : UInt8), (108 : UInt8), (105 : UInt8), (115 : UInt8), (116 : UInt8)] then some (.sl [[.int .i64 1]]) else bif op == [(105 : UInt8), (115 : UInt8), (95 : UInt8), (116 : UInt8), (117 : UInt8), (112 : UInt8), (108 : UInt8), (101 : UInt8)] then some (.sl [[.int .i64 1]]) else bif op == [(105 : UInt8), (115 : UInt8), (95 : UInt8), (112 : UInt8), (105 : UInt8), (100 : UInt8)] then some (.sl [[.int .i64 1]]) else bif op == [(105 : UInt8), (115 : UInt8), (95 : UInt8), (102 : UInt8), (117 : UInt8), (110 : UInt8), (99 : UInt8), (116 : UInt8), (105 : UInt8), (111 : UInt8), (110 : UInt8)] then some (.sl [[.int .i64 1]]) else bif op == [(105 : UInt8), (115 : UInt8), (95 : UInt8), (114 : UInt8), (101 : UInt8), (102 : UInt8), (101 : UInt8), (114 : UInt8), (101 : UInt8), (110 : UInt8), (99 : UInt8), (101 : UInt8)] then some (.sl [[.int .i64 1]]) else bif op == [(110 : UInt8), (111 : UInt8), (116 : UInt8)] then some (.sl [[.int .i64 1]]) else bif op == [(98 : UInt8), (110 : UInt8), (111 : UInt8), (116 : UInt8)] then some (.sl [[.int .i64 1]]) else bif op == [(97 : UInt8), (98 : UInt8), (115 : UInt8)] then some (.sl [[.int .i64 1]]) else bif op == [(116 : UInt8), (117 : UInt8), (112 : UInt8), (108 : UInt8), (101 : UInt8), (95 : UInt8), (115 : UInt8), (105 : UInt8), (122 : UInt8), (101 : UInt8)] then some (.sl [[.int .i64 1]]) else bif op == [(115 : UInt8), (105 : UInt8), (122 : UInt8), (101 : UInt8)] then some (.sl [[.int .i64 1]]) else bif op == [(104 : UInt8), (100 : UInt8)] then some (.sl [[.int .i64 1]]) else bif op == [(116 : UInt8), (108 : UInt8)] then some (.sl [[.int .i64 1]]) else bif op == [(108 : UInt8), (101 : UInt8), (110 : UInt8), (103 : UInt8), (116 : UInt8), (104 : UInt8)] then some (.sl [[.int .i64 1]]) else bif op == [(43 : UInt8)] then some (.sl [[.int .i64 1], [.int .i64 2]]) else bif op == [(45 : UInt8)] then some (.sl [[.int .i64 1], [.int .i64 2]]) else bif op == [(61 : UInt8), (61 : UInt8)] then some (.sl [[.int .i64 2]]) else bif op == [(61 : UInt8), (58 : UInt8), (61 : UInt8)] then some (.sl [[.int .i64 2]]) else bif op == [(47 : UInt8), (61 : UInt8)] then some (.sl [[.int .i64 2]]) else bif op == [(61 : UInt8), (47 : UInt8), (61 : UInt8)] then some (.sl [[.int .i64 2]]) else bif op == [(60 : UInt8)] then some (.sl [[.int .i64 2]]) else bif op == [(61 : UInt8), (60 : UInt8)] then some (.sl [[.int .i64 2]]) else bif op == [(62 : UInt8)] then some (.sl [[.int .i64 2]]) else bif op == [(62 : UInt8), (61 : UInt8)] then some (.sl [[.int .i64 2]]) else bif op == [(97 : UInt8), (110 : UInt8), (100 : UInt8)] then some (.sl [[.int .i64 2]]) else bif op == [(111 : UInt8), (114 : UInt8)] then some (.sl [[.int .i64 2]]) else bif op == [(120 : UInt8), (111 : UInt8), (114 : UInt8)] then some (.sl [[.int .i64 2]]) else bif op == [(97 : UInt8), (110 : UInt8), (100 : UInt8), (97 : UInt8), (108 : UInt8), (115 : UInt8), (111 : UInt8)] then some (.sl [[.int .i64 2]]) else bif op == [(111 : UInt8), (114 : UInt8), (101 : UInt8), (108 : UInt8), (115 : UInt8), (101 : UInt8)] then some (.sl [[.int .i64 2]]) else bif op == [(42 : UInt8)] then some (.sl [[.int .i64 2]]) else bif op == [(100 : UInt8), (105 : UInt8), (118 : UInt8)] then some (.sl [[.int .i64 2]]) else bif op == [(114 : UInt8), (101 : UInt8), (109 : UInt8)] then some (.sl [[.int .i64 2]]) else bif op == [(98 : UInt8), (97 : UInt8), (110 : UInt8), (100 : UInt8)] then some (.sl [[.int .i64 2]]) else bif op == [(98 : UInt8), (111 : UInt8), (114 : UInt8)] then some (.sl [[.int .i64 2]]) else bif op == [(98 : UInt8), (120 : UInt8), (111 : UInt8), (114 : UInt8)] then some (.sl [[.int .i64 2]]) else bif op == [(101 : UInt8), (108 : UInt8), (101 : UInt8), (109 : UInt8), (101 : UInt8), (110 : UInt8), (116 : UInt8)] then some (.sl [[.int .i64 2]]) else some (.sl [])) P) : Gets (EVf (EV cfg) 174 ([AV.str op] : List AV)) P :=
  Gets.ev (fun _ h => funF rfl rfl Tryz.func174 rfl h) (Gets.eq (by kernel_rfl) h)
theorem r16Var_run (kt nt : Int) (st : List UInt8) (lt : List (List AV)) {P : AV → Prop} (h : Gets (kOpt (EVs (EV cfg) 95 [.agg [.int .i64 kt, .int .i64 nt, .str st, .sl lt]]) fun v => kInt .i64 v fun n => bif n != 0 then some (AV.tup [.int .i64 0, .bool false]) else bif kt != 2 then some (AV.tup [.int .i64 0, .bool false]) else bif decide ((st.length : Int) < 2) then some (AV.tup [.int .i64 0, .bool false]) else bif decide ((st.length : Int) > 3) then some (AV.tup [.int .i64 0, .bool false]) else kOpt (List.get?Internal st 0) fun b => bif (↑ (UInt8.toNat b) : Int) != 36 then some (AV.tup [.int .i64 0, .bool false]) else bif (st.length : Int) == 3 then kOpt (List.get?Internal st 1) fun b => bif (↑ (UInt8.toNat b) : Int) == 48 then some (AV.tup [.int .i64 0, .bool false]) else wu55_0 0 1 kt nt st lt else wu55_0 0 1 kt nt st lt) P) : Gets (EVs (EV cfg) 162 ([AV.agg [AV.int IntKind.i64 kt, AV.int IntKind.i64 nt, AV.str st, AV.sl lt]] : List AV)) P :=
  Gets.ev (fun _ h => funS rfl rfl Tryz.func162 rfl h) (Gets.eq (by kernel_rfl) h)
theorem r02Check_run (kt nt : Int) (st : List UInt8) (lt : List (List AV)) {P : AV → Prop} (h : Gets (kOpt (EVs (EV cfg) 175 [.agg [.int .i64 kt, .int .i64 nt, .str st, .sl lt]]) fun v => kBool v fun b => bif ! b then some (.int .i64 2) else kOpt (EVs (EV cfg) 176 [.agg [.int .i64 kt, .int .i64 nt, .str st, .sl lt]]) fun v => kInt .i64 v fun n => bif decide (n > 65536) then some (.int .i64 3) else some (.int .i64 0)) P) : Gets (EVs (EV cfg) 95 ([AV.agg [AV.int IntKind.i64 kt, AV.int IntKind.i64 nt, AV.str st, AV.sl lt]] : List AV)) P :=
  Gets.ev (fun _ h => funS rfl rfl Tryz.func95 rfl h) (Gets.eq (by kernel_rfl) h)
noncomputable abbrev zl0 (st : List UInt8) (lt : List (List AV)) : Option (AV) := bif st == [] then some (.bool ((lt.length : Int) == 0)) else some (.bool false)
noncomputable abbrev zl1 (nt : Int) (st : List UInt8) (lt : List (List AV)) : Option (AV) := kOpt (EVs (EV cfg) 295 [.int .i64 nt]) fun v => kBool v fun b => bif b then zl0 st lt else some (.bool false)
theorem r02Own_run (kt nt : Int) (st : List UInt8) (lt : List (List AV)) {P : AV → Prop} (h : Gets (bif kt == 1 then bif decide (nt ≥ (- 576460752303423488)) then bif decide (nt ≤ 576460752303423487) then zl0 st lt else some (.bool false) else some (.bool false) else bif kt == 2 then bif nt == 0 then bif decide ((st.length : Int) ≤ 64) then some (.bool ((lt.length : Int) == 0)) else some (.bool false) else some (.bool false) else bif kt == 3 then zl1 nt st lt else bif kt == 4 then kOpt (EVs (EV cfg) 295 [.int .i64 nt]) fun v => kBool v fun b => bif b then bif st == [] then some (.bool ((lt.length : Int) == (0 : Int))) else some (.bool false) else some (.bool false) else bif kt == 6 then zl1 nt st lt else bif kt == 5 then kOpt (EVs (EV cfg) 295 [.int .i64 nt]) fun v => kBool v fun b => bif b then bif st == [] then some (.bool (decide ((lt.length : Int) ≤ 64))) else some (.bool false) else some (.bool false) else bif kt == 7 then bif nt == 0 then bif st == [] then some (.bool (decide ((lt.length : Int) ≤ 64))) else some (.bool false) else some (.bool false) else bif kt == 8 then bif nt == 0 then zl0 st lt else some (.bool false) else bif kt == 9 then bif nt == 0 then bif st == [] then some (.bool ((lt.length : Int) == 2)) else some (.bool false) else some (.bool false) else some (.bool false)) P) : Gets (EVs (EV cfg) 244 ([AV.agg [AV.int IntKind.i64 kt, AV.int IntKind.i64 nt, AV.str st, AV.sl lt]] : List AV)) P :=
  Gets.ev (fun _ h => funS rfl rfl Tryz.func244 rfl h) (Gets.eq (by kernel_rfl) h)
theorem r02Parts_run (kt nt : Int) (st : List UInt8) (lt : List (List AV)) {P : AV → Prop} (h : Gets (kOpt (EVs (EV cfg) 244 [.agg [.int .i64 kt, .int .i64 nt, .str st, .sl lt]]) fun v => kBool v fun b => bif ! b then some (.bool false) else wu53_0 0 kt nt st lt) P) : Gets (EVs (EV cfg) 175 ([AV.agg [AV.int IntKind.i64 kt, AV.int IntKind.i64 nt, AV.str st, AV.sl lt]] : List AV)) P :=
  Gets.ev (fun _ h => funS rfl rfl Tryz.func175 rfl h) (Gets.eq (by kernel_rfl) h)
theorem r02Words_run (kt nt : Int) (st : List UInt8) (lt : List (List AV)) {P : AV → Prop} (h : Gets (bif kt == 5 then bif kt == 5 then wu54_0 2 0 kt nt st lt else bif kt == 7 then wu54_0 2 0 kt nt st lt else bif kt == 9 then wu54_0 2 0 kt nt st lt else some (.int .i64 2) else bif kt == 7 then bif kt == 5 then wu54_0 2 0 kt nt st lt else bif kt == 7 then wu54_0 2 0 kt nt st lt else bif kt == 9 then wu54_0 2 0 kt nt st lt else some (.int .i64 2) else bif kt == 5 then wu54_0 1 0 kt nt st lt else bif kt == 7 then wu54_0 1 0 kt nt st lt else bif kt == 9 then wu54_0 1 0 kt nt st lt else some (.int .i64 1)) P) : Gets (EVs (EV cfg) 176 ([AV.agg [AV.int IntKind.i64 kt, AV.int IntKind.i64 nt, AV.str st, AV.sl lt]] : List AV)) P :=
  Gets.ev (fun _ h => funS rfl rfl Tryz.func176 rfl h) (Gets.eq (by kernel_rfl) h)
theorem wu57_0_step (L V : List (List AV)) (v5 : Int) {P : AV → Prop} (h : Gets (bif decide (v5 < (L.length : Int)) then bif leInt 0 v5 && ltInt v5 (L.length : Int) then kOpt (List.get?Internal L (v5.toNat)) fun row => bif Nat.beq (List.length row) 4 then bif Nat.ble 4 (List.length row) then kTmC (List.take 4 row) fun n n_1 s rows => (kOpt (EVs (EV cfg) 161 [.agg [.int .i64 n, .int .i64 n_1, .str s, .sl rows], .sl V]) fun v => kBool v fun b => bif ! b then some (.bool false) else wu57_0 L V (IntKind.wrap .i64 (v5 + 1))) else none else none else none else some (.bool true)) P) : Gets (wu57_0 L V v5) P :=
  Gets.ev (fun _ h => loop_step (cfg := cfg) (f := 235) (rd := none) (bs := 0) h) (Gets.eq (by kernel_rfl) h)
theorem wu58_0_step (n : Int) (rows : List (List AV)) (v6 : Int) {P : AV → Prop} (h : Gets (bif decide (v6 < (rows.length : Int)) then bif leInt 0 v6 && ltInt v6 (rows.length : Int) then kOpt (List.get?Internal rows (v6.toNat)) fun row => bif Nat.beq (List.length row) 1 then kOpt (List.get?Internal row 0) fun v => kInt .i64 v fun n_1 => bif n_1 == n then some (.bool true) else wu58_0 n rows (IntKind.wrap .i64 (v6 + 1)) else none else none else some (.bool false)) P) : Gets (wu58_0 n rows v6) P :=
  Gets.ev (fun _ h => loop_step (cfg := cfg) (f := 93) (rd := none) (bs := 0) h) (Gets.eq (by kernel_rfl) h)
theorem wu56_0_step (L : List (List AV)) (n v5 : Int) {P : AV → Prop} (h : Gets (bif decide (v5 < (L.length : Int)) then bif leInt 0 v5 && ltInt v5 (L.length : Int) then kOpt (List.get?Internal L (v5.toNat)) fun row => bif Nat.beq (List.length row) 1 then kOpt (List.get?Internal row 0) fun v => kInt .i64 v fun n_1 => bif n_1 == n then some (.bool true) else wu56_0 L n (IntKind.wrap .i64 (v5 + 1)) else none else none else some (.bool false)) P) : Gets (wu56_0 L n v5) P :=
  Gets.ev (fun _ h => loop_step (cfg := cfg) (f := 234) (rd := none) (bs := 0) h) (Gets.eq (by kernel_rfl) h)
theorem wu55_0_step (v4 v5 c0_0 c0_1 : Int) (c0_2 : List UInt8) (c0_3 : List (List AV)) {P : AV → Prop} (h : Gets (bif decide (v5 < (c0_2.length : Int)) then bif leInt 0 v5 then kOpt (List.get?Internal c0_2 (v5.toNat)) fun b => bif decide ((↑ (UInt8.toNat b) : Int) < 48) then some (AV.tup [.int .i64 0, .bool false]) else bif leInt 0 v5 then kOpt (List.get?Internal c0_2 (v5.toNat)) fun b => bif decide ((↑ (UInt8.toNat b) : Int) > 57) then some (AV.tup [.int .i64 0, .bool false]) else bif leInt 0 v5 then kOpt (List.get?Internal c0_2 (v5.toNat)) fun b => wu55_0 (IntKind.wrap .i64 (IntKind.wrap .i64 (10 * v4) + IntKind.wrap .i64 (IntKind.wrap .u8 ((↑ (UInt8.toNat b) : Int) - 48)))) (IntKind.wrap .i64 (v5 + 1)) c0_0 c0_1 c0_2 c0_3 else none else none else none else some (AV.tup [.int .i64 v4, .bool true])) P) : Gets (wu55_0 v4 v5 c0_0 c0_1 c0_2 c0_3) P :=
  Gets.ev (fun _ h => loop_step (cfg := cfg) (f := 162) (rd := none) (bs := 0) h) (Gets.eq (by kernel_rfl) h)
theorem wu53_0_step (v3 c0_0 c0_1 : Int) (c0_2 : List UInt8) (c0_3 : List (List AV)) {P : AV → Prop} (h : Gets (bif decide (v3 < (c0_3.length : Int)) then bif leInt 0 v3 && ltInt v3 (c0_3.length : Int) then kOpt (List.get?Internal c0_3 (v3.toNat)) fun row => bif Nat.beq (List.length row) 4 then bif Nat.ble 4 (List.length row) then kTmC (List.take 4 row) fun n n_1 s rows => (kOpt (EVs (EV cfg) 175 [.agg [.int .i64 n, .int .i64 n_1, .str s, .sl rows]]) fun v => kBool v fun b => bif ! b then some (.bool false) else wu53_0 (IntKind.wrap .i64 (v3 + 1)) c0_0 c0_1 c0_2 c0_3) else none else none else none else some (.bool true)) P) : Gets (wu53_0 v3 c0_0 c0_1 c0_2 c0_3) P :=
  Gets.ev (fun _ h => loop_step (cfg := cfg) (f := 175) (rd := none) (bs := 0) h) (Gets.eq (by kernel_rfl) h)
theorem wu54_0_step (v3 v4 c0_0 c0_1 : Int) (c0_2 : List UInt8) (c0_3 : List (List AV)) {P : AV → Prop} (h : Gets (bif decide (v4 < (c0_3.length : Int)) then bif leInt 0 v4 && ltInt v4 (c0_3.length : Int) then kOpt (List.get?Internal c0_3 (v4.toNat)) fun row => bif Nat.beq (List.length row) 4 then bif Nat.ble 4 (List.length row) then kTmC (List.take 4 row) fun n n_1 s rows => (kOpt (EVs (EV cfg) 176 [.agg [.int .i64 n, .int .i64 n_1, .str s, .sl rows]]) fun v => kInt .i64 v fun n => wu54_0 (IntKind.wrap .i64 (v3 + n)) (IntKind.wrap .i64 (v4 + 1)) c0_0 c0_1 c0_2 c0_3) else none else none else none else some (.int .i64 v3)) P) : Gets (wu54_0 v3 v4 c0_0 c0_1 c0_2 c0_3) P :=
  Gets.ev (fun _ h => loop_step (cfg := cfg) (f := 176) (rd := none) (bs := 0) h) (Gets.eq (by kernel_rfl) h)
end Go.Proofs.YtkgkjngbfdnoiaaGreat
end

section
namespace Go.Proofs.YtkgkjngbfdnoiaaGreat
open Go.Av
set_option maxRecDepth 100000
set_option maxHeartbeats 0

theorem r02Numbered_run (n : Int) {P : AV → Prop} (h : Gets (bif decide (n ≥ 0) then some (.bool (decide (n ≤ 1073741824))) else some (.bool false)) P) : Gets (EVs (EV cfg) 295 ([AV.int IntKind.i64 n] : List AV)) P :=
  Gets.ev (fun _ h => funS rfl rfl Tryz.func295 rfl h) (Gets.eq (by kernel_rfl) h)
end Go.Proofs.YtkgkjngbfdnoiaaGreat
end

section
namespace Go.Proofs.YtkgkjngbfdnoiaaGreat
open Go.Av
theorem r02Numbered_ev (n : Int) : EVs (EV cfg) 295 [.int .i64 n] = some (.bool (decide (0 ≤ n) && decide (n ≤ 1073741824))) := by
 apply Gets.get
 refine r02Numbered_run _ ?_
 by_cases h : 0 ≤ n <;> simp [h]
theorem r02Own_ev (t : Tm) : EVs (EV cfg) 244 [t.av] = some (.bool t.sound) := by
 obtain ⟨k, n, s, l⟩ := t
 apply Gets.get
 rw [Tm.av_mk]
 refine r02Own_run _ _ _ _ ?_
 unfold zl1 zl0
 simp only [Tm.sound, Tm.kind_mk, Tm.num_mk, Tm.str_mk, Tm.subs_mk, rowsT_length, beqI, beqNil, soundB, r02Numbered_ev, kOptSome, kBool_bool]
 by_cases h1 : k = 1
 ·subst h1; simp [bif_some'] <;> (try rw [Bool.eq_iff_iff]) <;> (try simp) <;> first | omega | grind
 by_cases h2 : k = 2
 ·subst h2; simp [bif_some'] <;> (try rw [Bool.eq_iff_iff]) <;> (try simp) <;> first | omega | grind
 by_cases h3 : k = 3
 ·subst h3; simp [bif_some'] <;> (try rw [Bool.eq_iff_iff]) <;> (try simp) <;> first | omega | grind
 by_cases h4 : k = 4
 ·subst h4; simp [bif_some'] <;> (try rw [Bool.eq_iff_iff]) <;> (try simp) <;> first | omega | grind
 by_cases h6 : k = 6
 ·subst h6; simp [bif_some'] <;> (try rw [Bool.eq_iff_iff]) <;> (try simp) <;> first | omega | grind
 by_cases h5 : k = 5
 ·subst h5; simp [bif_some'] <;> (try rw [Bool.eq_iff_iff]) <;> (try simp) <;> first | omega | grind
 by_cases h7 : k = 7
 ·subst h7; simp [bif_some'] <;> (try rw [Bool.eq_iff_iff]) <;> (try simp) <;> first | omega | grind
 by_cases h8 : k = 8
 ·subst h8; simp [bif_some'] <;> (try rw [Bool.eq_iff_iff]) <;> (try simp) <;> first | omega | grind
 by_cases h9 : k = 9
 ·subst h9; simp [bif_some'] <;> (try rw [Bool.eq_iff_iff]) <;> (try simp) <;> first | omega | grind
 simp [h1, h2, h3, h4, h5, h6, h7, h8, h9]
theorem r02Parts_ev (t : Tm) : t.w < 1099511627776 → EVs (EV cfg) 175 [t.av] = some (.bool t.parts) := by
 induction t using Tm.ind with
 | _ k n s l ih =>
  intro hw
  rw [Tm.w_mk] at hw
  have hlen := wL_len l
  have loop : ∀ d i : Nat, i + d = l.length → Gets (wu53_0 i k n s (rowsT l)) (· = .bool (partsL (l.drop i))) := by
   intro d
   induction d with
   | zero =>
    intro i hi
    refine wu53_0_step _ _ _ _ _ ?_
    rw [rowsT_length, decide_eq_false (by omega), List.drop_eq_nil_of_le (by omega)]
    exact ⟨_, rfl, rfl⟩
   | succ d ihd =>
    intro i hi
    have hil : i < l.length := by omega
    refine wu53_0_step _ _ _ _ _ ?_
    have hx : l[i]? = some l[i] := List.getElem?_eq_getElem hil
    have hm := List.mem_of_getElem? hx
    have hd : l.drop i = l[i] :: l.drop (i + 1) := List.drop_eq_getElem_cons hil
    have h1 := ih l[i] hm (by have := wL_mem hm; omega)
    have h2 := ihd (i + 1) (by omega)
    rw [rowsT_length, decide_eq_true (show (i : Int) < (l.length : Int) by omega), leInt_zero, ltInt_nat, decide_eq_true hil, rowsT_at hx, wrap_succ hil (by omega), hd, partsL]
    simp only [cond_true, Bool.and_self, length_cells, Nat.beq_refl, take_cells, kTmC_cells, show Nat.ble 4 4 = true from rfl, av_unf, h1, kOptSome, kBool_bool]
    cases hg : l[i].parts with
    | false => exact ⟨_, rfl, rfl⟩
    | true => rw [Bool.true_and]; exact h2
  have ho := r02Own_ev (.mk k n s l)
  have h0 := loop l.length 0 (by omega)
  apply Gets.get
  rw [Tm.parts_eq]
  rw [Tm.av_mk] at ho ⊢
  refine r02Parts_run _ _ _ _ ?_
  rw [ho]
  simp only [kOptSome, kBool_bool, Tm.subs_mk]
  cases (Tm.mk k n s l).sound with
  | false => exact ⟨_, rfl, rfl⟩
  | true => rw [Bool.true_and]; exact h0
end Go.Proofs.YtkgkjngbfdnoiaaGreat
end

section
namespace Go.Proofs.YtkgkjngbfdnoiaaGreat
open Go.Av
theorem partsL_mem {l : List Tm} (h : partsL l = true) : ∀ x ∈ l, x.parts = true := by
 induction l with
 | nil => intro x hx; cases hx
 | cons y l ih =>
  rw [partsL, Bool.and_eq_true] at h
  intro x hx
  cases hx with
  | head => exact h.1
  | tail _ hx => exact ih h.2 x hx
theorem r02Words_ev (t : Tm) : t.w < 1099511627776 → t.parts = true → EVs (EV cfg) 176 [t.av] = some (.int .i64 (t.words : Int)) := by
 induction t using Tm.ind with
 | _ k n s l ih =>
  intro hw hp
  have hww := words_le (.mk k n s l)
  rw [Tm.w_mk] at hw hww
  have hlen := wL_len l
  rw [Tm.parts, Bool.and_eq_true] at hp
  obtain ⟨hp, hpl⟩ := hp
  have loop : ∀ d i acc : Nat, i + d = l.length → acc + wordsL (l.drop i) < 9007199254740992 → Gets (wu54_0 acc i k n s (rowsT l)) (· = .int .i64 ((acc + wordsL (l.drop i) : Nat) : Int)) := by
   intro d
   induction d with
   | zero =>
    intro i acc hi _
    refine wu54_0_step _ _ _ _ _ _ ?_
    rw [rowsT_length, decide_eq_false (by omega), List.drop_eq_nil_of_le (by omega)]
    exact ⟨_, rfl, rfl⟩
   | succ d ihd =>
    intro i acc hi hacc
    have hil : i < l.length := by omega
    refine wu54_0_step _ _ _ _ _ _ ?_
    have hx : l[i]? = some l[i] := List.getElem?_eq_getElem hil
    have hm := List.mem_of_getElem? hx
    have hd : l.drop i = l[i] :: l.drop (i + 1) := List.drop_eq_getElem_cons hil
    have h1 := ih l[i] hm (by have := wL_mem hm; omega) (partsL_mem hpl _ hm)
    rw [hd, wordsL] at hacc
    have h2 := ihd (i + 1) (acc + (l[i]).words) (by omega) (by omega)
    have w1 : IntKind.wrap .i64 ((acc : Int) + ((l[i]).words : Int)) = ((acc + (l[i]).words : Nat) : Int) := by rw [wrap64 (by omega) (by omega)]; omega
    rw [rowsT_length, decide_eq_true (show (i : Int) < (l.length : Int) by omega), leInt_zero, ltInt_nat, decide_eq_true hil, rowsT_at hx, wrap_succ hil (by omega), hd, wordsL]
    simp only [cond_true, Bool.and_self, length_cells, Nat.beq_refl, take_cells, kTmC_cells, show Nat.ble 4 4 = true from rfl, av_unf, h1, kOptSome, kInt_int, w1]
    rw [← Nat.add_assoc]
    exact h2
  have hwo : (Tm.mk k n s l).words = (Tm.mk k n s l).own + wordsL l := by rw [Tm.words]
  rw [hwo] at hww ⊢
  have ho := (Tm.mk k n s l).own_le
  have h0 := loop l.length 0 (Tm.mk k n s l).own (by omega) (by rw [List.drop_zero]; omega)
  rw [List.drop_zero] at h0
  apply Gets.get
  rw [Tm.av_mk]
  refine r02Words_run _ _ _ _ ?_
  by_cases h5 : k = 5
  ·subst h5
   have o2 : (Tm.mk 5 n s l).own = 2 := by simp [Tm.own]
   rw [o2] at h0 ⊢; exact h0
  by_cases h7 : k = 7
  ·subst h7
   have o2 : (Tm.mk 7 n s l).own = 2 := by simp [Tm.own]
   rw [o2] at h0 ⊢; exact h0
  have o1 : (Tm.mk k n s l).own = 1 := by simp [Tm.own, h5, h7]
  rw [o1] at h0 ⊢
  by_cases h9 : k = 9
  ·subst h9; exact h0
  have e5 : (k == 5) = false := by simpa using h5
  have e7 : (k == 7) = false := by simpa using h7
  have e9 : (k == 9) = false := by simpa using h9
  have hl : l = [] := by
   have : soundB k n s l.length = true → l.length = 0 := by
    unfold soundB
    rw [if_neg h5, if_neg h7, if_neg h9]
    intro h
    repeat' split at h
    all_goals simp at h
    all_goals simp [h]
   exact List.length_eq_zero_iff.1 (this hp)
  subst hl
  rw [e5, e7, e9]
  exact ⟨_, rfl, rfl⟩
theorem r02Check_ev {t : Tm} (h : t.w < 1099511627776) : EVs (EV cfg) 95 [t.av] = some (.int .i64 t.chk) := by
 have hp := r02Parts_ev t h
 have hw := r02Words_ev t h
 apply Gets.get
 rw [Tm.av, Tm.cells_eq] at hp hw ⊢
 refine r02Check_run _ _ _ _ ?_
 rw [hp]
 have hc : t.chk = if t.parts then (if 65536 < t.words then 3 else 0) else 2 := by
  unfold Tm.chk chkS
  simp [partsL, wordsL]
 rw [hc]
 simp only [kOptSome, kBool_bool]
 cases ht : t.parts with
 | false => exact ⟨_, rfl, rfl⟩
 | true =>
  rw [hw ht]
  simp only [kOptSome, kInt_int, Bool.not_true, cond_false, if_true]
  by_cases hg : 65536 < t.words
  ·rw [decide_eq_true (show ((t.words : Int) > 65536) by omega), if_pos hg]; exact ⟨_, rfl, rfl⟩
  ·rw [decide_eq_false (show ¬ ((t.words : Int) > 65536) by omega), if_neg hg]; exact ⟨_, rfl, rfl⟩
theorem r17In_ev (l : List Int) (hl : l.length < 1099511627776) (n : Int) : EVs (EV cfg) 234 [.sl (intsR l), .int .i64 n] = some (.bool (decide (n ∈ l))) := by
 have loop : ∀ d i : Nat, i + d = l.length → Gets (wu56_0 (intsR l) n i) (· = .bool (decide (n ∈ l.drop i))) := by
  intro d
  induction d with
  | zero =>
   intro i hi
   refine wu56_0_step _ _ _ ?_
   rw [intsR_len, decide_eq_false (by omega), List.drop_eq_nil_of_le (by omega)]
   exact ⟨_, rfl, by simp⟩
  | succ d ih =>
   intro i hi
   have hil : i < l.length := by omega
   refine wu56_0_step _ _ _ ?_
   have hx : l[i]? = some l[i] := List.getElem?_eq_getElem hil
   have hd : l.drop i = l[i] :: l.drop (i + 1) := List.drop_eq_getElem_cons hil
   have h := ih (i + 1) (by omega)
   rw [intsR_len, decide_eq_true (show (i : Int) < (l.length : Int) by omega), leInt_zero, ltInt_nat, decide_eq_true hil, get?Internal_eq, Int.toNat_natCast, intsR_get, hx, wrap_succ hil hl, hd]
   by_cases he : l[i] = n
   ·refine ⟨.bool true, ?_, ?_⟩
    ·simp [he]
    ·rw [he]; simp
   ·have hne : (l[i] == n) = false := by rw [beqI]; exact decide_eq_false he
    have hm : decide (n ∈ l[i] :: l.drop (i + 1)) = decide (n ∈ l.drop (i + 1)) := decide_eq_decide.2 (by rw [List.mem_cons]; exact ⟨fun h => h.resolve_left (fun e => he e.symm), Or.inr⟩)
    rw [hm]
    simpa [hne] using h
 apply Gets.get
 exact r17In_run _ _ (by simpa using loop l.length 0 (by omega))
theorem r17Ops_ev (op : List UInt8) : EVf (EV cfg) 174 [.str op] = some (.sl (intsR (opsG op))) := by
 apply Gets.get
 refine r17Ops_run _ ?_
 have h := lookS_map (fun l => some (AV.sl (intsR l))) op [] opsTab
 have : Gets (lookS op (some (AV.sl (intsR []))) (opsTab.map fun p => (p.1, some (AV.sl (intsR p.2))))) (· = .sl (intsR (opsG op))) := by
  rw [h]; exact ⟨_, rfl, rfl⟩
 exact this
end Go.Proofs.YtkgkjngbfdnoiaaGreat
end

section
namespace Go.Av
def tbR (o : Option Tm) : AV := .tup [(o.getD zeroT).av, .bool o.isSome]
def RB (o : Option Tm) (v : AV) : Prop := ∃ t : Tm, v = .tup [t.av, .bool o.isSome] ∧ ∀ x, o = some x → t = x
theorem RB.of {o : Option Tm} : RB o (tbR o) := ⟨_, rfl, fun x h => by rw [h]; rfl⟩
theorem RB.some {t : Tm} {v : AV} (h : RB (some t) v) : v = .tup [t.av, .bool true] := by
 obtain ⟨x, rfl, h⟩ := h
 rw [h t rfl]; rfl
theorem kTB {α : Type} (t : Tm) (b : Bool) (K : Int → Int → List UInt8 → List (List AV) → Bool → Option α) : (kTup (.tup [t.av, .bool b]) fun cs => kCons cs fun c cs => kAgg c fun cs_1 => kCons cs_1 fun c cs_2 => kInt .i64 c fun n => kCons cs_2 fun c cs_3 => kInt .i64 c fun n_1 => kCons cs_3 fun c cs_4 => kStr c fun s => kCons cs_4 fun c cs_5 => kSl c fun rows => kNil cs_5 (kCons cs fun c cs => kBool c fun b => kNil cs (K n n_1 s rows b))) = K t.kind t.num t.str (rowsT t.subs) b := by
 obtain ⟨k, n, s, l⟩ := t
 rw [Tm.av_mk]; rfl
theorem tbR_eq (o : Option Tm) : tbR o = .tup [(o.getD zeroT).av, .bool o.isSome] := rfl
theorem tb_none : (some (AV.tup [zeroT.av, .bool false])) = some (tbR none) := rfl
theorem ops1_in {op : List UInt8} (h : (1 : Int) ∈ opsG op) : op ∈ ([[105, 115, 95, 97, 116, 111, 109], [105, 115, 95, 105, 110, 116, 101, 103, 101, 114], [105, 115, 95, 108, 105, 115, 116], [105, 115, 95, 116, 117, 112, 108, 101], [105, 115, 95, 112, 105, 100], [105, 115, 95, 102, 117, 110, 99, 116, 105, 111, 110], [105, 115, 95, 114, 101, 102, 101, 114, 101, 110, 99, 101], [110, 111, 116], [98, 110, 111, 116], [97, 98, 115], [116, 117, 112, 108, 101, 95, 115, 105, 122, 101], [115, 105, 122, 101], [104, 100], [116, 108], [108, 101, 110, 103, 116, 104], [43], [45]] : List (List UInt8)) := by
 have : ∀ (l : List (List UInt8 × List Int)), (1 : Int) ∈ lookS op [] l → ∃ p ∈ l, p.1 = op ∧ (1 : Int) ∈ p.2 := by
  intro l
  induction l with
  | nil => intro h; simp [lookS] at h
  | cons p l ih =>
   intro h
   rw [lookS] at h
   cases hp : op == p.1
   ·rw [hp] at h
    obtain ⟨q, h1, h2⟩ := ih h
    exact ⟨q, List.mem_cons_of_mem _ h1, h2⟩
   ·rw [hp] at h
    rw [beqS, decide_eq_true_eq] at hp
    exact ⟨p, List.mem_cons_self, hp.symm, h⟩
 obtain ⟨p, h1, rfl, h2⟩ := this _ h
 clear this h
 revert p
 decide
theorem ops2_in {op : List UInt8} (h : (2 : Int) ∈ opsG op) : op ∈ ([[43], [45], [61, 61], [61, 58, 61], [47, 61], [61, 47, 61], [60], [61, 60], [62], [62, 61], [97, 110, 100], [111, 114], [120, 111, 114], [97, 110, 100, 97, 108, 115, 111], [111, 114, 101, 108, 115, 101], [42], [100, 105, 118], [114, 101, 109], [98, 97, 110, 100], [98, 111, 114], [98, 120, 111, 114], [101, 108, 101, 109, 101, 110, 116]] : List (List UInt8)) := by
 have : ∀ (l : List (List UInt8 × List Int)), (2 : Int) ∈ lookS op [] l → ∃ p ∈ l, p.1 = op ∧ (2 : Int) ∈ p.2 := by
  intro l
  induction l with
  | nil => intro h; simp [lookS] at h
  | cons p l ih =>
   intro h
   rw [lookS] at h
   cases hp : op == p.1
   ·rw [hp] at h
    obtain ⟨q, h1, h2⟩ := ih h
    exact ⟨q, List.mem_cons_of_mem _ h1, h2⟩
   ·rw [hp] at h
    rw [beqS, decide_eq_true_eq] at hp
    exact ⟨p, List.mem_cons_self, hp.symm, h⟩
 obtain ⟨p, h1, rfl, h2⟩ := this _ h
 clear this h
 revert p
 decide
end Go.Av
namespace Go.Proofs.YtkgkjngbfdnoiaaGreat
open Go.Av
theorem r17Truth_ev (b : Bool) : EVf (EV cfg) 245 [.bool b] = some (truthT b).av := by
 apply Gets.get
 refine r17Truth_run _ ?_
 rw [truthT, symT_av]
 cases b <;> exact ⟨_, rfl, rfl⟩
theorem r17Truths_ev (t : Tm) : EVs (EV cfg) 237 [t.av] = some (.tup [.bool ((boolG t).getD false), .bool (boolG t).isSome]) := by
 apply Gets.get
 rw [Tm.av, Tm.cells_eq]
 refine r17Truths_run _ _ _ _ ?_
 unfold boolG
 simp only [beqS, show ([116, 114, 117, 101] : List UInt8) = tru from rfl, show ([102, 97, 108, 115, 101] : List UInt8) = fal from rfl]
 by_cases h : t.kind = 2
 ·have e0 : (t.kind != 2) = false := by rw [h]; rfl
  rw [e0, cond_false]
  by_cases h1 : t.str = tru
  ·rw [if_pos ⟨h, h1⟩, decide_eq_true h1]; exact ⟨_, rfl, rfl⟩
  ·rw [if_neg (fun e => h1 e.2), decide_eq_false h1]
   by_cases h2 : t.str = fal
   ·rw [if_pos ⟨h, h2⟩, decide_eq_true h2]; exact ⟨_, rfl, rfl⟩
   ·rw [if_neg (fun e => h2 e.2), decide_eq_false h2]; exact ⟨_, rfl, rfl⟩
 ·have e0 : (t.kind != 2) = true := by simpa using h
  rw [e0, if_neg (fun e => h e.1), if_neg (fun e => h e.1)]; exact ⟨_, rfl, rfl⟩
theorem r17Within_ev (n : Int) : EVf (EV cfg) 247 [.int .i64 n] = some (tbR (withinG n)) := by
 apply Gets.get
 refine r17Within_run _ ?_
 unfold zd0
 unfold withinG
 rw [← zeroT_av, ← numT_av]
 by_cases h1 : n < -576460752303423488
 ·rw [decide_eq_true h1, if_neg (fun h : InB n => by obtain ⟨a, b⟩ := h; omega)]; exact ⟨_, rfl, rfl⟩
 ·rw [decide_eq_false h1, cond_false]
  by_cases h2 : n > 576460752303423487
  ·rw [decide_eq_true h2, if_neg (fun h : InB n => by obtain ⟨a, b⟩ := h; omega)]; exact ⟨_, rfl, rfl⟩
  ·rw [decide_eq_false h2, cond_false, if_pos (show InB n from ⟨by omega, by omega⟩)]; exact ⟨_, rfl, rfl⟩
theorem r17Compares_ev (op : List UInt8) (c : Int) : EVs (EV cfg) 249 [.str op, .int .i64 c] = some (.bool (
  if op = [61, 61] then decide (c = 0) else if op = [61, 58, 61] then decide (c = 0) else if op = [47, 61] then !decide (c = 0) else if op = [61, 47, 61] then !decide (c = 0)
  else if op = [60] then decide (c < 0) else if op = [61, 60] then decide (c ≤ 0) else if op = [62] then decide (c > 0) else decide (c ≥ 0))) := by
 apply Gets.get
 refine r17Compares_run _ _ ?_
 have hne : (c != 0) = !decide (c = 0) := by rw [bne, beqI]
 simp only [beqS, hne, beqI]
 repeat' first
  | exact ⟨_, rfl, rfl⟩
  | (split <;> rename_i h <;> simp only [h, decide_true, cond_true, decide_false, cond_false])
theorem within_step (n : Int) : Gets (kOpt (EVf (EV cfg) 247 [.int .i64 n]) fun (v : AV) => kTup v fun (cs : List AV) => kCons cs fun (c : AV) (cs : List AV) => kAgg c fun (cs_1 : List AV) => kCons cs_1 fun (c : AV) (cs_2 : List AV) => kInt .i64 c fun (n : Int) => kCons cs_2 fun (c : AV) (cs_3 : List AV) => kInt .i64 c fun (n_1 : Int) => kCons cs_3 fun (c : AV) (cs_4 : List AV) => kStr c fun (s : List UInt8) => kCons cs_4 fun (c : AV) (cs_5 : List AV) => kSl c fun (rows : List (List AV)) => kNil cs_5 (kCons cs fun (c : AV) (cs : List AV) => kBool c fun (b : Bool) => kNil cs (some (AV.tup [.agg [.int .i64 n, .int .i64 n_1, .str s, .sl rows], .bool b])))) (· = tbR (withinG n)) := by
 rw [r17Within_ev]
 simp only [kOptSome, tbR_eq, kTB, av_unf]
 exact ⟨_, rfl, rfl⟩
theorem r17Product_ev {a b : Int} (ha : InB a) (hb : InB b) : EVf (EV cfg) 296 [.int .i64 a, .int .i64 b] = some (tbR (withinG (a * b))) := by
 obtain ⟨a1, a2⟩ := ha
 obtain ⟨b1, b2⟩ := hb
 have no : ∀ {P : Prop}, ¬ InB (a * b) → (· = tbR (withinG (a * b))) (tbR none) := by
  intro P h
  show _ = _
  unfold withinG
  rw [if_neg h]
 have fin : InB (a * b) → Gets (kOpt (EVf (EV cfg) 247 [.int .i64 (IntKind.wrap .i64 (a * b))]) fun (v : AV) => kTup v fun (cs : List AV) => kCons cs fun (c : AV) (cs : List AV) => kAgg c fun (cs_1 : List AV) => kCons cs_1 fun (c : AV) (cs_2 : List AV) => kInt .i64 c fun (n : Int) => kCons cs_2 fun (c : AV) (cs_3 : List AV) => kInt .i64 c fun (n_1 : Int) => kCons cs_3 fun (c : AV) (cs_4 : List AV) => kStr c fun (s : List UInt8) => kCons cs_4 fun (c : AV) (cs_5 : List AV) => kSl c fun (rows : List (List AV)) => kNil cs_5 (kCons cs fun (c : AV) (cs : List AV) => kBool c fun (b : Bool) => kNil cs (some (AV.tup [.agg [.int .i64 n, .int .i64 n_1, .str s, .sl rows], .bool b])))) (· = tbR (withinG (a * b))) := by
  rintro ⟨h1, h2⟩
  rw [wrap64 (by omega) (by omega)]
  exact within_step _
 apply Gets.get
 refine r17Product_run _ _ ?_
 unfold zd35 zd36 zd37 zd30 zd31 zd32 zd33 zd34 zd24 zd25 zd26 zd27 zd28 zd29 zd18 zd19 zd20 zd21 zd22 zd23 zd1 zd2 zd3 zd4 zd5 zd6 zd7 zd8 zd9 zd10 zd11 zd12 zd13 zd14 zd15 zd16 zd17 zd0
 rw [← zeroT_av, tb_none]
 rw [beqI, beqI]
 by_cases z1 : a = 0
 ·rw [decide_eq_true z1, cond_true, z1, Int.zero_mul]; exact within_step _
 rw [decide_eq_false z1, cond_false]
 by_cases z2 : b = 0
 ·rw [decide_eq_true z2, cond_true, z2, Int.mul_zero]; exact within_step _
 rw [decide_eq_false z2, cond_false]
 have neg : ∀ {x : Int}, ¬ InB (a * b) → Gets (some (tbR none)) (· = tbR (withinG (a * b))) := fun {_} h => ⟨_, rfl, no (P := True) h⟩
 have q0 : ∀ M y : Int, 0 ≤ M → 0 < y → 0 ≤ M / y ∧ M / y ≤ M := fun M y hM hy => ⟨Int.ediv_nonneg hM (by omega), Int.ediv_le_self y hM⟩
 have q1 : ∀ M x y : Int, 0 < y → (x > M / y ↔ x * y > M) := fun M x y hy => by
  have := Int.le_ediv_iff_mul_le (a := x) (b := M) hy
  omega
 rcases Int.lt_or_gt_of_ne z1 with sa | sa
 ·have d1 : decide (a > 0) = false := decide_eq_false (by omega)
  have d2 : decide (a < 0) = true := decide_eq_true sa
  rcases Int.lt_or_gt_of_ne z2 with sb | sb
  ·have d3 : decide (b > 0) = false := decide_eq_false (by omega)
   have d4 : decide (b < 0) = true := decide_eq_true sb
   have e1 : (576460752303423487 : Int).tdiv b = -(576460752303423487 / (-b)) := by
    rw [show b = -(-b) by omega, Int.tdiv_neg, Int.neg_neg, Int.tdiv_eq_ediv_of_nonneg (by omega)]
   obtain ⟨h1, h2⟩ := q0 576460752303423487 (-b) (by omega) (by omega)
   have h3 := q1 576460752303423487 (-a) (-b) (by omega)
   have e2 : (-a) * (-b) = a * b := Int.neg_mul_neg a b
   rw [e2] at h3
   have hp : 0 < a * b := by rw [← e2]; exact Int.mul_pos (by omega) (by omega)
   rw [intDiv_quo z2, e1, wrap64 (by omega) (by omega)]
   simp only [d1, d2, d3, d4, cond_true, cond_false, kOptSome, kInt_int]
   by_cases h : a < -(576460752303423487 / (-b))
   ·rw [decide_eq_true h, cond_true]; exact neg (x := 0) fun ⟨_, g⟩ => by omega
   ·rw [decide_eq_false h, cond_false]; exact fin ⟨by omega, by omega⟩
  ·have d3 : decide (b > 0) = true := decide_eq_true sb
   have d4 : decide (b < 0) = false := decide_eq_false (by omega)
   have e1 : (-576460752303423488 : Int).tdiv b = -(576460752303423488 / b) := by
    rw [show (-576460752303423488 : Int) = -(576460752303423488) by omega, Int.neg_tdiv, Int.tdiv_eq_ediv_of_nonneg (by omega)]
   obtain ⟨h1, h2⟩ := q0 576460752303423488 b (by omega) (by omega)
   have h3 := q1 576460752303423488 (-a) b (by omega)
   have e2 : (-a) * b = -(a * b) := Int.neg_mul a b
   rw [e2] at h3
   have hp : 0 < -(a * b) := by rw [← e2]; exact Int.mul_pos (by omega) (by omega)
   rw [intDiv_quo z2, intDiv_quo z2, e1, wrap64 (x := -(576460752303423488 / b)) (by omega) (by omega)]
   simp only [d1, d2, d3, d4, cond_true, cond_false, kOptSome, kInt_int]
   by_cases h : a < -(576460752303423488 / b)
   ·rw [decide_eq_true h, cond_true]; exact neg (x := 0) fun ⟨g, _⟩ => by omega
   ·rw [decide_eq_false h, cond_false]; exact fin ⟨by omega, by omega⟩
 ·have d1 : decide (a > 0) = true := decide_eq_true sa
  have d2 : decide (a < 0) = false := decide_eq_false (by omega)
  rcases Int.lt_or_gt_of_ne z2 with sb | sb
  ·have d3 : decide (b > 0) = false := decide_eq_false (by omega)
   have d4 : decide (b < 0) = true := decide_eq_true sb
   have e1 : (-576460752303423488 : Int).tdiv a = -(576460752303423488 / a) := by
    rw [show (-576460752303423488 : Int) = -(576460752303423488) by omega, Int.neg_tdiv, Int.tdiv_eq_ediv_of_nonneg (by omega)]
   obtain ⟨h1, h2⟩ := q0 576460752303423488 a (by omega) (by omega)
   have h3 := q1 576460752303423488 (-b) a (by omega)
   have e2 : (-b) * a = -(a * b) := by rw [Int.neg_mul, Int.mul_comm]
   rw [e2] at h3
   have hp : 0 < -(a * b) := by rw [← e2]; exact Int.mul_pos (by omega) (by omega)
   rw [intDiv_quo z2, intDiv_quo z2, intDiv_quo z1, e1, wrap64 (x := -(576460752303423488 / a)) (by omega) (by omega)]
   simp only [d1, d2, d3, d4, cond_true, cond_false, kOptSome, kInt_int]
   by_cases h : b < -(576460752303423488 / a)
   ·rw [decide_eq_true h, cond_true]; exact neg (x := 0) fun ⟨g, _⟩ => by omega
   ·rw [decide_eq_false h, cond_false]; exact fin ⟨by omega, by omega⟩
  ·have d3 : decide (b > 0) = true := decide_eq_true sb
   have d4 : decide (b < 0) = false := decide_eq_false (by omega)
   have e1 : (576460752303423487 : Int).tdiv b = 576460752303423487 / b := Int.tdiv_eq_ediv_of_nonneg (by omega)
   obtain ⟨h1, h2⟩ := q0 576460752303423487 b (by omega) (by omega)
   have h3 := q1 576460752303423487 a b (by omega)
   have hp : 0 < a * b := Int.mul_pos (by omega) (by omega)
   rw [intDiv_quo z2, e1, wrap64 (x := 576460752303423487 / b) (by omega) (by omega)]
   simp only [d1, d2, d3, d4, cond_true, cond_false, kOptSome, kInt_int]
   by_cases h : a > 576460752303423487 / b
   ·rw [decide_eq_true h, cond_true]; exact neg (x := 0) fun ⟨_, g⟩ => by omega
   ·rw [decide_eq_false h, cond_false]; exact fin ⟨by omega, by omega⟩
theorem product_step {a b : Int} (ha : InB a) (hb : InB b) : Gets (kOpt (EVf (EV cfg) 296 [.int .i64 a, .int .i64 b]) fun (v : AV) => kTup v fun (cs : List AV) => kCons cs fun (c : AV) (cs : List AV) => kAgg c fun (cs_1 : List AV) => kCons cs_1 fun (c : AV) (cs_2 : List AV) => kInt .i64 c fun (n : Int) => kCons cs_2 fun (c : AV) (cs_3 : List AV) => kInt .i64 c fun (n_1 : Int) => kCons cs_3 fun (c : AV) (cs_4 : List AV) => kStr c fun (s : List UInt8) => kCons cs_4 fun (c : AV) (cs_5 : List AV) => kSl c fun (rows : List (List AV)) => kNil cs_5 (kCons cs fun (c : AV) (cs : List AV) => kBool c fun (b : Bool) => kNil cs (some (AV.tup [.agg [.int .i64 n, .int .i64 n_1, .str s, .sl rows], .bool b])))) (· = tbR (withinG (a * b))) := by
 rw [r17Product_ev ha hb]
 simp only [kOptSome, tbR_eq, kTB, av_unf]
 exact ⟨_, rfl, rfl⟩
theorem r17Numbers_ev {op : List UInt8} (h : op ∈ ([[43], [45], [42], [98, 97, 110, 100], [98, 111, 114], [98, 120, 111, 114], [100, 105, 118], [114, 101, 109]] : List (List UInt8))) {a b : Int} (ha : InB a) (hb : InB b) :
  EVf (EV cfg) 251 [.str op, .int .i64 a, .int .i64 b] = some (tbR (numbersG op a b)) := by
 obtain ⟨a1, a2⟩ := ha
 obtain ⟨b1, b2⟩ := hb
 have hp := product_step ⟨a1, a2⟩ ⟨b1, b2⟩
 have h1 := bvG_and (a := a) (b := b) ⟨a1, a2⟩ ⟨b1, b2⟩
 have h2 := bvG_or (a := a) (b := b) ⟨a1, a2⟩ ⟨b1, b2⟩
 have h3 := bvG_xor (a := a) (b := b) ⟨a1, a2⟩ ⟨b1, b2⟩
 have w1 : IntKind.wrap .i64 (a + b) = a + b := wrap64 (by omega) (by omega)
 have w2 : IntKind.wrap .i64 (a - b) = a - b := wrap64 (by omega) (by omega)
 apply Gets.get
 refine r17Numbers_run _ _ _ ?_
 unfold zd55 zd56 zd60 zd57 zd58 zd59 zd2 zd3 zd4 zd5 zd6 zd7 zd8 zd9 zd10 zd11 zd12 zd13 zd14 zd15 zd16 zd17 zd0
 rw [← zeroT_av, tb_none, w1, w2]
 simp only [beqS, beqI]
 simp only [List.mem_cons, List.not_mem_nil, or_false] at h
 rcases h with rfl | rfl | rfl | rfl | rfl | rfl | rfl | rfl
 ·exact within_step _
 ·exact within_step _
 ·exact hp
 ·simp only [h1, kOptSome, kInt_int]; exact within_step _
 ·simp only [h2, kOptSome, kInt_int]; exact within_step _
 ·simp only [h3, kOptSome, kInt_int]; exact within_step _
 ·by_cases z : b = 0
  ·rw [decide_eq_true z]
   unfold numbersG
   simp only [if_pos z]
   exact ⟨_, rfl, rfl⟩
  ·rw [decide_eq_false z]
   have := tdiv_abs (a := a) z
   rw [intDiv_quo z, wrap64 (by omega) (by omega)]
   unfold numbersG
   simp only [if_neg z]
   exact within_step _
 ·by_cases z : b = 0
  ·rw [decide_eq_true z]
   unfold numbersG
   simp only [if_pos z]
   exact ⟨_, rfl, rfl⟩
  ·rw [decide_eq_false z]
   rw [intDiv_rem z]
   unfold numbersG
   simp only [if_neg z]
   exact within_step _
end Go.Proofs.YtkgkjngbfdnoiaaGreat
end

section
namespace Go.Proofs.YtkgkjngbfdnoiaaGreat
open Go.Av
theorem r03Numbers_ev (a b : Int) : EVs (EV cfg) 227 [.int .i64 a, .int .i64 b] = some (.int .i64 (numC a b)) := by
 apply Gets.get
 refine r03Numbers_run _ _ ?_
 unfold numC
 by_cases h : a < b
 ·rw [decide_eq_true h, if_pos h]; exact ⟨_, rfl, rfl⟩
 ·rw [decide_eq_false h, if_neg h, cond_false]
  by_cases h : b < a
  ·rw [decide_eq_true (show a > b from h), if_pos h]; exact ⟨_, rfl, rfl⟩
  ·rw [decide_eq_false (show ¬ a > b from h), if_neg h]; exact ⟨_, rfl, rfl⟩
theorem r03Texts_ev (a b : List UInt8) : EVs (EV cfg) 228 [.str a, .str b] = some (.int .i64 (strC a b)) := by
 apply Gets.get
 refine r03Texts_run _ _ ?_
 unfold strC
 rw [beqS]
 by_cases h : a = b
 ·subst h
  rw [bytesLess_irrefl, if_pos rfl, decide_eq_true rfl]; exact ⟨_, rfl, rfl⟩
 ·rw [if_neg h, decide_eq_false h]
  cases Op.bytesLess a b <;> exact ⟨_, rfl, rfl⟩
theorem r03Lists_of (la lb : List Tm) (hlen : la.length < 1099511627776) (ih : ∀ a ∈ la, ∀ b ∈ lb, EVs (EV cfg) 151 [a.av, b.av] = some (.int .i64 (cmpT a b))) :
  EVs (EV cfg) 229 [.sl (rowsT la), .sl (rowsT lb)] = some (.int .i64 (cmpL la lb)) := by
 have stop : ∀ (c : Int) (i : Nat), c ≠ 0 → Gets (wy120_0 (rowsT la) (rowsT lb) c i) (· = .int .i64 c) := by
  intro c i hc
  refine wy120_0_step _ _ _ _ ?_
  rw [beqI, decide_eq_false hc]
  cases decide ((i : Int) < ((rowsT la).length : Int)) <;> exact ⟨_, rfl, rfl⟩
 have loop : la.length = lb.length → ∀ (d i : Nat), i + d = la.length → Gets (wy120_0 (rowsT la) (rowsT lb) 0 i) (· = .int .i64 (cmpE (la.drop i) (lb.drop i))) := by
  intro hl d
  induction d with
  | zero =>
   intro i hi
   refine wy120_0_step _ _ _ _ ?_
   rw [rowsT_length, decide_eq_false (by omega), List.drop_eq_nil_of_le (by omega), List.drop_eq_nil_of_le (by omega), cmpE_nil]
   exact ⟨_, rfl, rfl⟩
  | succ d ihd =>
   intro i hi
   have hil : i < la.length := by omega
   have hil' : i < lb.length := by omega
   have hx : la[i]? = some la[i] := List.getElem?_eq_getElem hil
   have hy : lb[i]? = some lb[i] := List.getElem?_eq_getElem hil'
   have h1 := ih _ (List.mem_of_getElem? hx) _ (List.mem_of_getElem? hy)
   refine wy120_0_step _ _ _ _ ?_
   rw [rowsT_length, rowsT_length, decide_eq_true (show (i : Int) < (la.length : Int) by omega), leInt_zero, ltInt_nat, ltInt_nat, decide_eq_true hil, decide_eq_true hil', rowsT_at hx, List.drop_eq_getElem_cons hil, List.drop_eq_getElem_cons hil', cmpE_cons, wrap_succ hil hlen]
   simp only [cond_true, Bool.and_self, length_cells, Nat.beq_refl, take_cells, kTmC_cells, ble44, beqI, decide_true, rowsT_at hy, av_unf, h1, kOptSome, kInt_int]
   by_cases h0 : cmpT la[i] lb[i] = 0
   ·rw [h0, if_neg (by omega)]; exact ihd (i + 1) (by omega)
   ·rw [if_pos h0]; exact stop _ _ h0
 apply Gets.get
 refine r03Lists_run _ _ ?_
 rw [r03Numbers_ev]
 simp only [kOptSome, kInt_int, rowsT_length]
 unfold cmpL
 by_cases h : numC la.length lb.length = 0
 ·have hl := numC_zero.1 h
  rw [h, if_neg (by omega)]
  simpa using loop (by omega) la.length 0 (by omega)
 ·rw [if_pos h]; exact stop _ 0 h
theorem r03Compare_ev : ∀ (n : Nat) (a b : Tm), a.w ≤ n → n < 1099511627776 → EVs (EV cfg) 151 [a.av, b.av] = some (.int .i64 (cmpT a b)) := by
 intro n
 induction n with
 | zero => intro a b h; have := w_pos a; omega
 | succ n ih =>
  intro a b hw hn
  obtain ⟨k, m, s, l⟩ := a
  obtain ⟨k', m', s', l'⟩ := b
  rw [Tm.w_mk] at hw
  have hlen := wL_len l
  have hl := r03Lists_of l l' (by omega) (fun x hx y _ => ih x y (by have := wL_mem hx; omega) (by omega))
  apply Gets.get
  rw [Tm.av_mk, Tm.av_mk]
  refine r03Compare_run _ _ _ _ _ _ _ _ ?_
  unfold zd132 zd131
  rw [cmpT_eq, r03Numbers_ev, r03Numbers_ev, r03Texts_ev, hl]
  simp only [kOptSome, kInt_int, beqI]
  have bne0 : ∀ z : Int, (z != 0) = !decide (z = 0) := fun z => by rw [bne, beqI]
  simp only [bne0]
  by_cases h : numC k k' = 0
  ·rw [if_neg (by omega), decide_eq_true h]
   simp only [Bool.not_true, cond_false]
   by_cases h1 : k = 1
   ·rw [if_pos (Or.inl h1), decide_eq_true h1]; exact ⟨_, rfl, rfl⟩
   rw [decide_eq_false h1, cond_false]
   by_cases h3 : k = 3
   ·rw [if_pos (Or.inr (Or.inl h3)), decide_eq_true h3]; exact ⟨_, rfl, rfl⟩
   rw [decide_eq_false h3, cond_false]
   by_cases h4 : k = 4
   ·rw [if_pos (Or.inr (Or.inr (Or.inl h4))), decide_eq_true h4]; exact ⟨_, rfl, rfl⟩
   rw [decide_eq_false h4, cond_false]
   by_cases h6 : k = 6
   ·rw [if_pos (Or.inr (Or.inr (Or.inr h6))), decide_eq_true h6]; exact ⟨_, rfl, rfl⟩
   rw [decide_eq_false h6, cond_false, if_neg (by omega)]
   by_cases h2 : k = 2
   ·rw [if_pos h2, decide_eq_true h2]; exact ⟨_, rfl, rfl⟩
   rw [decide_eq_false h2, cond_false, if_neg h2]
   by_cases h5 : k = 5
   ·rw [if_pos h5, decide_eq_true h5, cond_true]
    by_cases hm : numC m m' = 0
    ·rw [if_neg (by omega), decide_eq_true hm]; exact ⟨_, rfl, rfl⟩
    ·rw [if_pos hm, decide_eq_false hm]; exact ⟨_, rfl, rfl⟩
   rw [decide_eq_false h5, cond_false, if_neg h5]
   by_cases h7 : k = 7
   ·rw [if_pos (Or.inl h7), decide_eq_true h7]; exact ⟨_, rfl, rfl⟩
   rw [decide_eq_false h7, cond_false]
   by_cases h9 : k = 9
   ·rw [if_pos (Or.inr h9), decide_eq_true h9]; exact ⟨_, rfl, rfl⟩
   rw [decide_eq_false h9, if_neg (by omega)]; exact ⟨_, rfl, rfl⟩
  ·rw [if_pos h, decide_eq_false h]; exact ⟨_, rfl, rfl⟩
end Go.Proofs.YtkgkjngbfdnoiaaGreat
end

section
namespace Go.Proofs.YtkgkjngbfdnoiaaGreat
open Go.Av
theorem r17Kinds_ev {op : List UInt8} {t : Tm} {b : Bool} (h : (op, b) ∈ ([([105, 115, 95, 97, 116, 111, 109], decide (t.kind = 2)), ([105, 115, 95, 105, 110, 116, 101, 103, 101, 114], decide (t.kind = 1)), ([105, 115, 95, 108, 105, 115, 116], decide (t.kind = 9) || decide (t.kind = 8)), ([105, 115, 95, 116, 117, 112, 108, 101], decide (t.kind = 7)), ([105, 115, 95, 112, 105, 100], decide (t.kind = 6)), ([105, 115, 95, 102, 117, 110, 99, 116, 105, 111, 110], decide (t.kind = 5)), ([105, 115, 95, 114, 101, 102, 101, 114, 101, 110, 99, 101], decide (t.kind = 3) || decide (t.kind = 4))] : List (List UInt8 × Bool))) : EVs (EV cfg) 248 [.str op, t.av] = some (.bool b) := by
 apply Gets.get
 rw [Tm.av, Tm.cells_eq]
 refine r17Kinds_run _ _ _ _ _ ?_
 simp only [beqS, beqI]
 simp only [List.mem_cons, List.not_mem_nil, or_false, Prod.mk.injEq] at h
 rcases h with ⟨rfl, rfl⟩ | ⟨rfl, rfl⟩ | ⟨rfl, rfl⟩ | ⟨rfl, rfl⟩ | ⟨rfl, rfl⟩ | ⟨rfl, rfl⟩ | ⟨rfl, rfl⟩
 ·exact ⟨_, rfl, rfl⟩
 ·exact ⟨_, rfl, rfl⟩
 ·show Gets (bif decide (t.kind = 9) then some (AV.bool true) else some (AV.bool (decide (t.kind = 8)))) _
  cases decide (t.kind = 9) <;> exact ⟨_, rfl, rfl⟩
 ·exact ⟨_, rfl, rfl⟩
 ·exact ⟨_, rfl, rfl⟩
 ·exact ⟨_, rfl, rfl⟩
 ·show Gets (bif decide (t.kind = 3) then some (AV.bool true) else some (AV.bool (decide (t.kind = 4)))) _
  cases decide (t.kind = 3) <;> exact ⟨_, rfl, rfl⟩
theorem r17Length_loop : ∀ (n : Nat) (t : Tm) (c : Nat), t.w ≤ n → t.chk = 0 → c + n < 1099511627776 → Gets (wy99_0 c t.kind t.num t.str (rowsT t.subs)) (fun v => ∃ m : Int, v = .tup [.int .i64 m, .bool (lenG t).isSome] ∧ ∀ x, lenG t = some x → m = (c + x : Nat)) := by
 intro n
 induction n with
 | zero => intro t c h; have := w_pos t; omega
 | succ n ih =>
  intro t c hw hc hn
  refine wy99_0_step _ _ _ _ _ ?_
  rw [beqI, beqI]
  by_cases h9 : t.kind = 9
  ·obtain ⟨x, y, hs⟩ := cons_chk hc h9
   have hwe := t.w_eq
   rw [hs] at hwe
   simp only [wL_cons, wL_nil] at hwe
   have hy : y.chk = 0 := chk_sub hc (by rw [hs]; simp)
   have h := ih y (c + 1) (by omega) hy (by omega)
   rw [decide_eq_true h9, cond_true, hs, lt1T, get1T]
   simp only [cond_true, kOptSome, length_cells, Nat.beq_refl, take_cells, kTmC_cells, ble44]
   rw [wrap_succ (n := 1099511627775) (by omega) (by omega), lenG_cons h9 hs]
   refine Gets.mono h ?_
   rintro _ ⟨m, rfl, hm⟩
   refine ⟨m, by rw [Option.isSome_map], fun z hz => ?_⟩
   obtain ⟨q, hq, rfl⟩ := Option.map_eq_some_iff.1 hz
   rw [hm q hq]; omega
  ·rw [decide_eq_false h9, cond_false]
   by_cases h8 : t.kind = 8
   ·rw [decide_eq_true h8, lenG_nil h8]
    exact ⟨_, rfl, c, rfl, fun x hx => by cases hx; rfl⟩
   ·rw [decide_eq_false h8, lenG_none h9 h8]
    exact ⟨_, rfl, c, rfl, fun x hx => by cases hx⟩
theorem r17Length_ev {t : Tm} (hc : t.chk = 0) : Gets (EVs (EV cfg) 246 [t.av]) (fun v => ∃ m : Int, v = .tup [.int .i64 m, .bool (lenG t).isSome] ∧ ∀ x, lenG t = some x → m = x) := by
 have hw := w_chk hc
 rw [Tm.av, Tm.cells_eq]
 refine r17Length_run _ _ _ _ ?_
 refine Gets.mono (r17Length_loop t.w t 0 (Nat.le_refl _) hc (by omega)) ?_
 rintro _ ⟨m, rfl, hm⟩
 exact ⟨m, rfl, fun x hx => by rw [hm x hx]; omega⟩
theorem kinds_step {op : List UInt8} {t : Tm} {b : Bool} {o : Option Tm} (h : (op, b) ∈ ([([105, 115, 95, 97, 116, 111, 109], decide (t.kind = 2)), ([105, 115, 95, 105, 110, 116, 101, 103, 101, 114], decide (t.kind = 1)), ([105, 115, 95, 108, 105, 115, 116], decide (t.kind = 9) || decide (t.kind = 8)), ([105, 115, 95, 116, 117, 112, 108, 101], decide (t.kind = 7)), ([105, 115, 95, 112, 105, 100], decide (t.kind = 6)), ([105, 115, 95, 102, 117, 110, 99, 116, 105, 111, 110], decide (t.kind = 5)), ([105, 115, 95, 114, 101, 102, 101, 114, 101, 110, 99, 101], decide (t.kind = 3) || decide (t.kind = 4))] : List (List UInt8 × Bool))) (ho : o = some (truthT b)) :
  Gets (kOpt (EVs (EV cfg) 248 [.str op, t.av]) fun (v : AV) => kBool v fun (b : Bool) => kOpt (EVf (EV cfg) 245 [.bool b]) fun (v : AV) => kTmV v fun (n n_1 : Int) (s : List UInt8) (rows : List (List AV)) => (some (AV.tup [.agg [.int .i64 n, .int .i64 n_1, .str s, .sl rows], .bool true]))) (RB o) := by
 rw [r17Kinds_ev h, ho]
 simp only [kOptSome, kBool_bool, r17Truth_ev, kTmV_av, av_unf]
 exact ⟨_, rfl, RB.of⟩
theorem within_rb {n : Int} {o : Option Tm} (ho : o = withinG n) : Gets (kOpt (EVf (EV cfg) 247 [.int .i64 n]) fun (v : AV) => kTup v fun (cs : List AV) => kCons cs fun (c : AV) (cs : List AV) => kAgg c fun (cs_1 : List AV) => kCons cs_1 fun (c : AV) (cs_2 : List AV) => kInt .i64 c fun (n : Int) => kCons cs_2 fun (c : AV) (cs_3 : List AV) => kInt .i64 c fun (n_1 : Int) => kCons cs_3 fun (c : AV) (cs_4 : List AV) => kStr c fun (s : List UInt8) => kCons cs_4 fun (c : AV) (cs_5 : List AV) => kSl c fun (rows : List (List AV)) => kNil cs_5 (kCons cs fun (c : AV) (cs : List AV) => kBool c fun (b : Bool) => kNil cs (some (AV.tup [.agg [.int .i64 n, .int .i64 n_1, .str s, .sl rows], .bool b])))) (RB o) := by
 subst ho
 refine Gets.mono (within_step n) ?_
 rintro _ rfl
 exact RB.of
theorem r17One_ev {op : List UInt8} (ho : (1 : Int) ∈ opsG op) {t : Tm} (hc : t.chk = 0) : Gets (EVf (EV cfg) 177 [.str op, t.av]) (RB (oneG op t)) := by
 have hl := r17Length_ev hc
 have hn := num_chk hc
 have hs := subs_chk hc
 have hwithin : ∀ n : Nat, n ≤ 4259840 → withinG (n : Int) = some (numT n) := fun n h => by
  unfold withinG
  rw [if_pos (show InB (n : Int) from ⟨by omega, by omega⟩)]
 have w1 : IntKind.wrap .i64 (0 - t.num) = -t.num := by rw [wrap64 (by omega) (by omega)]; omega
 have w2 : IntKind.wrap .i64 (-1 - t.num) = -1 - t.num := wrap64 (by omega) (by omega)
 have raise : Gets (some (tbR none)) (RB none) := ⟨_, rfl, RB.of⟩
 rw [Tm.av, Tm.cells_eq] at hl ⊢
 refine r17One_run _ _ _ _ _ ?_
 unfold zd52 zd53 zd54 zd44 zd45 zd47 zd49 zd50 zd51 zd48 zd46 zd43 zd38 zd39 zd40 zd41 zd42 zd2 zd3 zd4 zd5 zd6 zd7 zd8 zd9 zd10 zd11 zd12 zd13 zd14 zd15 zd16 zd17 zd0
 rw [← zeroT_av, tb_none, w1, w2, rowsT_length]
 simp only [av_unf, beqS, beqI]
 rw [av_unf] at hl
 have bnd : ∀ z : Int, (z != 0) = !decide (z = 0) := fun z => by rw [bne, beqI]
 have b9 : (t.kind != 9) = !decide (t.kind = 9) := by rw [bne, beqI]
 have b1 : (t.kind != 1) = !decide (t.kind = 1) := by rw [bne, beqI]
 rw [b9, b1]
 have size : Gets (some (AV.tup [.agg [.int .i64 1, .int .i64 (t.subs.length : Int), .str [], .sl []], .bool (decide (t.kind = 7))])) (RB (if t.kind = 7 then withinG t.subs.length else none)) := by
  rw [← numT_av, hwithin _ (by omega)]
  by_cases h7 : t.kind = 7
  ·rw [if_pos h7, decide_eq_true h7]; exact ⟨_, rfl, _, rfl, fun x hx => by cases hx; rfl⟩
  ·rw [if_neg h7, decide_eq_false h7]; exact ⟨_, rfl, _, rfl, fun x hx => by cases hx⟩
 have hop := ops1_in ho
 simp only [List.mem_cons, List.not_mem_nil, or_false] at hop
 rcases hop with rfl | rfl | rfl | rfl | rfl | rfl | rfl | rfl | rfl | rfl | rfl | rfl | rfl | rfl | rfl | rfl | rfl
 ·exact kinds_step (b := decide (t.kind = 2)) (by simp) rfl
 ·exact kinds_step (b := decide (t.kind = 1)) (by simp) rfl
 ·exact kinds_step (b := decide (t.kind = 9) || decide (t.kind = 8)) (by simp) rfl
 ·exact kinds_step (b := decide (t.kind = 7)) (by simp) rfl
 ·exact kinds_step (b := decide (t.kind = 6)) (by simp) rfl
 ·exact kinds_step (b := decide (t.kind = 5)) (by simp) rfl
 ·exact kinds_step (b := decide (t.kind = 3) || decide (t.kind = 4)) (by simp) rfl
 ·show Gets (kOpt (EVs (EV cfg) 237 [t.av]) _) (RB ((boolG t).map fun b => truthT (!b)))
  rw [r17Truths_ev]
  simp only [kOptSome, kTup, kCons, kBool_bool, kNil, r17Truth_ev, kTmV_av, av_unf]
  refine ⟨_, rfl, _, by rw [Option.isSome_map], fun x hx => ?_⟩
  obtain ⟨b, hb, rfl⟩ := Option.map_eq_some_iff.1 hx
  rw [hb]; rfl
 ·show Gets (bif !decide (t.kind = 1) then some (tbR none) else kOpt (EVf (EV cfg) 247 [.int .i64 (-1 - t.num)]) fun (v : AV) => kTup v fun (cs : List AV) => kCons cs fun (c : AV) (cs : List AV) => kAgg c fun (cs_1 : List AV) => kCons cs_1 fun (c : AV) (cs_2 : List AV) => kInt .i64 c fun (n : Int) => kCons cs_2 fun (c : AV) (cs_3 : List AV) => kInt .i64 c fun (n_1 : Int) => kCons cs_3 fun (c : AV) (cs_4 : List AV) => kStr c fun (s : List UInt8) => kCons cs_4 fun (c : AV) (cs_5 : List AV) => kSl c fun (rows : List (List AV)) => kNil cs_5 (kCons cs fun (c : AV) (cs : List AV) => kBool c fun (b : Bool) => kNil cs (some (AV.tup [.agg [.int .i64 n, .int .i64 n_1, .str s, .sl rows], .bool b])))) (RB (if t.kind = 1 then withinG (-1 - t.num) else none))
  by_cases h : t.kind = 1
  ·rw [decide_eq_true h, if_pos h]; exact within_rb rfl
  ·rw [decide_eq_false h, if_neg h]; exact raise
 ·show Gets (bif !decide (t.kind = 1) then some (tbR none) else bif decide (t.num < 0) then kOpt (EVf (EV cfg) 247 [.int .i64 (-t.num)]) fun (v : AV) => kTup v fun (cs : List AV) => kCons cs fun (c : AV) (cs : List AV) => kAgg c fun (cs_1 : List AV) => kCons cs_1 fun (c : AV) (cs_2 : List AV) => kInt .i64 c fun (n : Int) => kCons cs_2 fun (c : AV) (cs_3 : List AV) => kInt .i64 c fun (n_1 : Int) => kCons cs_3 fun (c : AV) (cs_4 : List AV) => kStr c fun (s : List UInt8) => kCons cs_4 fun (c : AV) (cs_5 : List AV) => kSl c fun (rows : List (List AV)) => kNil cs_5 (kCons cs fun (c : AV) (cs : List AV) => kBool c fun (b : Bool) => kNil cs (some (AV.tup [.agg [.int .i64 n, .int .i64 n_1, .str s, .sl rows], .bool b]))) else some (AV.tup [t.av, .bool true])) (RB (if t.kind = 1 then withinG (if t.num < 0 then -t.num else t.num) else none))
  by_cases h : t.kind = 1
  ·obtain ⟨hi, he⟩ := int_chk hc h
   rw [decide_eq_true h, if_pos h]
   by_cases hz : t.num < 0
   ·rw [decide_eq_true hz, if_pos hz]; exact within_rb rfl
   ·rw [decide_eq_false hz, if_neg hz]
    unfold withinG
    rw [if_pos hi]
    exact ⟨_, rfl, _, rfl, fun x hx => by cases hx; exact he⟩
  ·rw [decide_eq_false h, if_neg h]; exact raise
 ·exact size
 ·exact size
 ·show Gets (bif !decide (t.kind = 9) then some (tbR none) else bif ltInt 0 (t.subs.length : Int) then kOpt (List.get?Internal (rowsT t.subs) 0) _ else none) (RB (if t.kind = 9 then t.subs[0]? else none))
  by_cases h : t.kind = 9
  ·obtain ⟨x, y, hs⟩ := cons_chk hc h
   rw [decide_eq_true h, if_pos h, ← rowsT_length t.subs, hs, lt0T, get0T]
   simp only [Bool.not_true, cond_true, cond_false, kOptSome, length_cells, Nat.beq_refl, take_cells, kTmC_cells, ble44, av_unf]
   exact ⟨_, rfl, _, rfl, fun x hx => by cases hx; rfl⟩
  ·rw [decide_eq_false h, if_neg h]; exact raise
 ·show Gets (bif !decide (t.kind = 9) then some (tbR none) else bif ltInt 1 (t.subs.length : Int) then kOpt (List.get?Internal (rowsT t.subs) 1) _ else none) (RB (if t.kind = 9 then t.subs[1]? else none))
  by_cases h : t.kind = 9
  ·obtain ⟨x, y, hs⟩ := cons_chk hc h
   rw [decide_eq_true h, if_pos h, ← rowsT_length t.subs, hs, lt1T, get1T]
   simp only [Bool.not_true, cond_true, cond_false, kOptSome, length_cells, Nat.beq_refl, take_cells, kTmC_cells, ble44, av_unf]
   exact ⟨_, rfl, _, rfl, fun x hx => by cases hx; rfl⟩
  ·rw [decide_eq_false h, if_neg h]; exact raise
 ·show Gets (kOpt (EVs (EV cfg) 246 [t.av]) _) (RB ((lenG t).bind fun n => withinG n))
  refine Gets.bind hl ?_
  rintro _ ⟨m, rfl, hm⟩
  simp only [kTup, kCons, kInt_int, kBool_bool, kNil]
  rw [← numT_av]
  cases hg : lenG t with
  | none => exact ⟨_, rfl, _, rfl, fun x hx => by cases hx⟩
  | some x =>
   have hx := lenG_le hg
   have hw := w_chk hc
   rw [Option.bind_some, hwithin x (by omega), hm x hg]
   exact ⟨_, rfl, _, rfl, fun x hx => by cases hx; rfl⟩
 ·show Gets (bif !decide (t.kind = 1) then some (tbR none) else some (AV.tup [t.av, .bool true])) (RB (if t.kind = 1 then withinG t.num else none))
  by_cases h : t.kind = 1
  ·obtain ⟨hi, he⟩ := int_chk hc h
   unfold withinG
   rw [decide_eq_true h, if_pos h, if_pos hi]
   exact ⟨_, rfl, _, rfl, fun x hx => by cases hx; exact he⟩
  ·rw [decide_eq_false h, if_neg h]; exact raise
 ·show Gets (bif !decide (t.kind = 1) then some (tbR none) else kOpt (EVf (EV cfg) 247 [.int .i64 (-t.num)]) fun (v : AV) => kTup v fun (cs : List AV) => kCons cs fun (c : AV) (cs : List AV) => kAgg c fun (cs_1 : List AV) => kCons cs_1 fun (c : AV) (cs_2 : List AV) => kInt .i64 c fun (n : Int) => kCons cs_2 fun (c : AV) (cs_3 : List AV) => kInt .i64 c fun (n_1 : Int) => kCons cs_3 fun (c : AV) (cs_4 : List AV) => kStr c fun (s : List UInt8) => kCons cs_4 fun (c : AV) (cs_5 : List AV) => kSl c fun (rows : List (List AV)) => kNil cs_5 (kCons cs fun (c : AV) (cs : List AV) => kBool c fun (b : Bool) => kNil cs (some (AV.tup [.agg [.int .i64 n, .int .i64 n_1, .str s, .sl rows], .bool b])))) (RB (if t.kind = 1 then withinG (-t.num) else none))
  by_cases h : t.kind = 1
  ·rw [decide_eq_true h, if_pos h]; exact within_rb rfl
  ·rw [decide_eq_false h, if_neg h]; exact raise
end Go.Proofs.YtkgkjngbfdnoiaaGreat
end

section
namespace Go.Proofs.YtkgkjngbfdnoiaaGreat
open Go.Av
theorem r17Bools_ev (op : List UInt8) (a b : Bool) : EVs (EV cfg) 250 [.str op, .bool a, .bool b] = some (.bool (
  if op = [97, 110, 100] then a && b else if op = [97, 110, 100, 97, 108, 115, 111] then a && b else if op = [111, 114] then a || b else if op = [111, 114, 101, 108, 115, 101] then a || b else a != b)) := by
 apply Gets.get
 refine r17Bools_run _ _ _ ?_
 simp only [beqS]
 repeat' first
  | exact ⟨_, rfl, rfl⟩
  | (split <;> rename_i h <;> simp only [h, decide_true, cond_true, decide_false, cond_false])
 all_goals cases a <;> cases b <;> exact ⟨_, rfl, rfl⟩
theorem cmp_stepR {op : List UInt8} {a b : Tm} {c : Bool} {o : Option Tm} (wa : a.w < 1099511627776) (hb : EVs (EV cfg) 249 [.str op, .int .i64 (cmpT a b)] = some (.bool c)) (ho : o = some (truthT c)) :
  Gets (kOpt (EVs (EV cfg) 151 [a.av, b.av]) fun (v : AV) => kInt .i64 v fun (n : Int) => kOpt (EVs (EV cfg) 249 [.str op, .int .i64 n]) fun (v : AV) => kBool v fun (b : Bool) => kOpt (EVf (EV cfg) 245 [.bool b]) fun (v : AV) => kTmV v fun (n n_1 : Int) (s : List UInt8) (rows : List (List AV)) => (some (AV.tup [.agg [.int .i64 n, .int .i64 n_1, .str s, .sl rows], .bool true]))) (RB o) := by
 rw [r03Compare_ev a.w a b (Nat.le_refl _) wa, ho]
 simp only [kOptSome, kInt_int, hb, kBool_bool, r17Truth_ev, kTmV_av, av_unf]
 exact ⟨_, rfl, RB.of⟩
theorem bool_stepR {op : List UInt8} {a b : Tm} {f : Bool → Bool → Bool} {o : Option Tm} (hf : ∀ x y, EVs (EV cfg) 250 [.str op, .bool x, .bool y] = some (.bool (f x y))) (ho : o = (boolG a).bind fun x => (boolG b).map fun y => truthT (f x y)) :
  Gets (kOpt (EVs (EV cfg) 237 [a.av]) fun (v : AV) => kTup v fun (cs : List AV) => kCons cs fun (c : AV) (cs : List AV) => kBool c fun (b_0 : Bool) => kCons cs fun (c : AV) (cs : List AV) => kBool c fun (b_1 : Bool) => kNil cs (kOpt (EVs (EV cfg) 237 [b.av]) fun (v : AV) => kTup v fun (cs : List AV) => kCons cs fun (c : AV) (cs : List AV) => kBool c fun (b_2 : Bool) => kCons cs fun (c : AV) (cs : List AV) => kBool c fun (b_3 : Bool) => kNil cs (kOpt (EVs (EV cfg) 250 [.str op, .bool b_0, .bool b_2]) fun (v : AV) => kBool v fun (b : Bool) => kOpt (EVf (EV cfg) 245 [.bool b]) fun (v : AV) => kTmV v fun (n n_1 : Int) (s : List UInt8) (rows : List (List AV)) => (bif b_1 then some (AV.tup [.agg [.int .i64 n, .int .i64 n_1, .str s, .sl rows], .bool b_3]) else some (AV.tup [.agg [.int .i64 n, .int .i64 n_1, .str s, .sl rows], .bool false]))))) (RB o) := by
 rw [r17Truths_ev, r17Truths_ev, ho]
 simp only [kOptSome, kTup, kCons, kBool_bool, kNil, hf, r17Truth_ev, kTmV_av, av_unf]
 cases boolG a with
 | none => exact ⟨_, rfl, _, rfl, fun x hx => by cases hx⟩
 | some x =>
  cases boolG b with
  | none => exact ⟨_, rfl, _, rfl, fun x hx => by cases hx⟩
  | some y => exact ⟨_, rfl, _, rfl, fun x hx => by cases hx; rfl⟩
theorem num_stepR {op : List UInt8} {a b : Tm} {o : Option Tm} (ha : a.chk = 0) (hb : b.chk = 0) (h : op ∈ ([[43], [45], [42], [98, 97, 110, 100], [98, 111, 114], [98, 120, 111, 114], [100, 105, 118], [114, 101, 109]] : List (List UInt8))) (ho : o = if a.kind = 1 ∧ b.kind = 1 then numbersG op a.num b.num else none) :
  Gets (bif !decide (a.kind = 1) then some (tbR none) else bif !decide (b.kind = 1) then some (tbR none) else kOpt (EVf (EV cfg) 251 [.str op, .int .i64 a.num, .int .i64 b.num]) fun (v : AV) => kTup v fun (cs : List AV) => kCons cs fun (c : AV) (cs : List AV) => kAgg c fun (cs_1 : List AV) => kCons cs_1 fun (c : AV) (cs_2 : List AV) => kInt .i64 c fun (n : Int) => kCons cs_2 fun (c : AV) (cs_3 : List AV) => kInt .i64 c fun (n_1 : Int) => kCons cs_3 fun (c : AV) (cs_4 : List AV) => kStr c fun (s : List UInt8) => kCons cs_4 fun (c : AV) (cs_5 : List AV) => kSl c fun (rows : List (List AV)) => kNil cs_5 (kCons cs fun (c : AV) (cs : List AV) => kBool c fun (b : Bool) => kNil cs (some (AV.tup [.agg [.int .i64 n, .int .i64 n_1, .str s, .sl rows], .bool b])))) (RB o) := by
 subst ho
 by_cases ka : a.kind = 1
 ·by_cases kb : b.kind = 1
  ·rw [decide_eq_true ka, decide_eq_true kb, if_pos ⟨ka, kb⟩, r17Numbers_ev h (inB_chk ha ka) (inB_chk hb kb)]
   simp only [Bool.not_true, cond_false, kOptSome, tbR_eq, kTB, av_unf]
   exact ⟨_, rfl, RB.of⟩
  ·rw [decide_eq_true ka, decide_eq_false kb, if_neg (fun e => kb e.2)]; exact ⟨_, rfl, RB.of⟩
 ·rw [decide_eq_false ka, if_neg (fun e => ka e.1)]; exact ⟨_, rfl, RB.of⟩
theorem r17Two_ev {op : List UInt8} (hop : (2 : Int) ∈ opsG op) {a b : Tm} (ha : a.chk = 0) (hb : b.chk = 0) : Gets (EVf (EV cfg) 178 [.str op, a.av, b.av]) (RB (twoG op a b)) := by
 have wa : a.w < 1099511627776 := by have := w_chk ha; omega
 have na := num_chk ha
 have sb := subs_chk hb
 rw [Tm.av, Tm.av, Tm.cells_eq a, Tm.cells_eq b]
 refine r17Two_run _ _ _ _ _ _ _ _ _ ?_
 unfold zd64 zd65 zd66 zd67 zd68 zd69 zd70 zd71 zd72 zd73 zd74 zd75 zd76 zd77 zd78 zd79 zd80 zd81 zd82 zd61 zd62 zd63 zd52 zd53 zd54 zd39 zd40 zd41 zd42 zd2 zd3 zd4 zd5 zd6 zd7 zd8 zd9 zd10 zd11 zd12 zd13 zd14 zd15 zd16 zd17 zd0
 have b1 : (a.kind != 1) = !decide (a.kind = 1) := by rw [bne, beqI]
 have b2 : (b.kind != 1) = !decide (b.kind = 1) := by rw [bne, beqI]
 have b7 : (b.kind != 7) = !decide (b.kind = 7) := by rw [bne, beqI]
 have w1 : IntKind.wrap .i64 (a.num - 1) = a.num - 1 := wrap64 (by omega) (by omega)
 rw [← zeroT_av, tb_none, b1, b2, b7, w1, rowsT_length]
 simp only [av_unf, beqS]
 have h := ops2_in hop
 simp only [List.mem_cons, List.not_mem_nil, or_false] at h
 rcases h with rfl | rfl | rfl | rfl | rfl | rfl | rfl | rfl | rfl | rfl | rfl | rfl | rfl | rfl | rfl | rfl | rfl | rfl | rfl | rfl | rfl | rfl
 ·exact num_stepR ha hb (by simp) rfl
 ·exact num_stepR ha hb (by simp) rfl
 ·exact cmp_stepR (c := decide (cmpT a b = 0)) wa (r17Compares_ev _ _) rfl
 ·exact cmp_stepR (c := decide (cmpT a b = 0)) wa (r17Compares_ev _ _) rfl
 ·exact cmp_stepR (c := !decide (cmpT a b = 0)) wa (r17Compares_ev _ _) rfl
 ·exact cmp_stepR (c := !decide (cmpT a b = 0)) wa (r17Compares_ev _ _) rfl
 ·exact cmp_stepR (c := decide (cmpT a b < 0)) wa (r17Compares_ev _ _) rfl
 ·exact cmp_stepR (c := decide (cmpT a b ≤ 0)) wa (r17Compares_ev _ _) rfl
 ·exact cmp_stepR (c := decide (cmpT a b > 0)) wa (r17Compares_ev _ _) rfl
 ·exact cmp_stepR (c := decide (cmpT a b ≥ 0)) wa (r17Compares_ev _ _) rfl
 ·exact bool_stepR (f := fun x y => x && y) (fun x y => r17Bools_ev _ _ _) rfl
 ·exact bool_stepR (f := fun x y => x || y) (fun x y => r17Bools_ev _ _ _) rfl
 ·exact bool_stepR (f := fun x y => x != y) (fun x y => r17Bools_ev _ _ _) rfl
 ·exact bool_stepR (f := fun x y => x && y) (fun x y => r17Bools_ev _ _ _) rfl
 ·exact bool_stepR (f := fun x y => x || y) (fun x y => r17Bools_ev _ _ _) rfl
 ·exact num_stepR ha hb (by simp) rfl
 ·exact num_stepR ha hb (by simp) rfl
 ·exact num_stepR ha hb (by simp) rfl
 ·exact num_stepR ha hb (by simp) rfl
 ·exact num_stepR ha hb (by simp) rfl
 ·exact num_stepR ha hb (by simp) rfl
 ·show Gets (bif !decide (a.kind = 1) then some (tbR none) else bif !decide (b.kind = 7) then some (tbR none) else bif decide (a.num < 1) then some (tbR none) else bif decide (a.num > (b.subs.length : Int)) then some (tbR none) else bif leInt 0 (a.num - 1) && ltInt (a.num - 1) (b.subs.length : Int) then kOpt (List.get?Internal (rowsT b.subs) (Int.toNat (a.num - 1))) _ else none) (RB (if a.kind = 1 ∧ 1 ≤ a.num ∧ b.kind = 7 ∧ a.num ≤ b.subs.length then b.subs[(a.num - 1).toNat]? else none))
  by_cases k1 : a.kind = 1
  ·by_cases k7 : b.kind = 7
   ·by_cases l1 : a.num < 1
    ·rw [decide_eq_true k1, decide_eq_true k7, decide_eq_true l1, if_neg (fun e => by omega)]; exact ⟨_, rfl, RB.of⟩
    ·by_cases l2 : a.num > (b.subs.length : Int)
     ·rw [decide_eq_true k1, decide_eq_true k7, decide_eq_false l1, decide_eq_true l2, if_neg (fun e => by omega)]; exact ⟨_, rfl, RB.of⟩
     ·have hi : (a.num - 1).toNat < b.subs.length := by omega
      have hx : b.subs[(a.num - 1).toNat]? = some b.subs[(a.num - 1).toNat] := List.getElem?_eq_getElem hi
      have e1 : leInt 0 (a.num - 1) = true := decide_eq_true (by omega)
      have e2 : ltInt (a.num - 1) (b.subs.length : Int) = true := decide_eq_true (by omega)
      rw [decide_eq_true k1, decide_eq_true k7, decide_eq_false l1, decide_eq_false l2, if_pos ⟨k1, by omega, k7, by omega⟩, e1, e2, hx, get?Internal_eq, rowsT_get, hx]
      simp only [Bool.not_true, cond_false, cond_true, Bool.and_self, Option.map_some, kOptSome, length_cells, Nat.beq_refl, take_cells, kTmC_cells, ble44, av_unf]
      exact ⟨_, rfl, RB.of⟩
   ·rw [decide_eq_true k1, decide_eq_false k7, if_neg (fun e => k7 e.2.2.1)]; exact ⟨_, rfl, RB.of⟩
  ·rw [decide_eq_false k1, if_neg (fun e => k1 e.1)]; exact ⟨_, rfl, RB.of⟩
theorem rb_norm {o : Option Tm} {v : AV} (h : RB o v) : Gets (kTup v fun (cs : List AV) => kCons cs fun (c : AV) (cs : List AV) => kAgg c fun (cs_1 : List AV) => kCons cs_1 fun (c : AV) (cs_2 : List AV) => kInt .i64 c fun (n : Int) => kCons cs_2 fun (c : AV) (cs_3 : List AV) => kInt .i64 c fun (n_2 : Int) => kCons cs_3 fun (c : AV) (cs_4 : List AV) => kStr c fun (s : List UInt8) => kCons cs_4 fun (c : AV) (cs_5 : List AV) => kSl c fun (rows : List (List AV)) => kNil cs_5 (kCons cs fun (c : AV) (cs : List AV) => kBool c fun (b : Bool) => kNil cs (bif !b then some (AV.tup [zeroT.av, .bool false]) else some (AV.tup [.agg [.int .i64 n, .int .i64 n_2, .str s, .sl rows], .bool true])))) (· = tbR o) := by
 obtain ⟨t, rfl, h⟩ := h
 rw [kTB, av_unf]
 cases o with
 | none => exact ⟨_, rfl, rfl⟩
 | some x => rw [h x rfl]; exact ⟨_, rfl, rfl⟩
theorem r17Apply_ev {op : List UInt8} {l : List Tm} (hop : (l.length : Int) ∈ opsG op) (hl : ∀ x ∈ l, x.chk = 0) (hlen : l.length ≤ 2) (self : Int) :
  EVf (EV cfg) 96 [.str op, .sl (rowsT l), .int .i64 self] = some (tbR (applyG op l self)) := by
 apply Gets.get
 refine r17Apply1_run _ _ _ ?_
 unfold zd83 zd51 zd0
 rw [← zeroT_av]
 match l, hop, hl, hlen with
 | [], _, _, _ =>
  refine ⟨_, rfl, ?_⟩
  show _ = AV.tup [(Tm.mk 6 self [] []).av, .bool true]
  rw [Tm.av_mk, rowsT_nil]
 | [a], hop, hl, _ =>
  have h1 := r17One_ev hop (hl a (by simp))
  rw [lt0T, get0T, rowsT_length]
  simp only [List.length_cons, List.length_nil, beqI, show decide (((0 + 1 : Nat) : Int) = 1) = true from rfl, cond_true, kOptSome, length_cells, Nat.beq_refl, take_cells, kTmC_cells, ble44, av_unf]
  exact Gets.bind h1 fun v h => rb_norm h
 | [a, b], hop, hl, _ =>
  have h1 := r17Two_ev hop (hl a (by simp)) (hl b (by simp))
  rw [lt0T, get0T, lt1T, get1T, rowsT_length]
  simp only [List.length_cons, List.length_nil, beqI, show decide (((0 + 1 + 1 : Nat) : Int) = 1) = false from rfl, show decide (((0 + 1 + 1 : Nat) : Int) = 2) = true from rfl, cond_true, cond_false, kOptSome, length_cells, Nat.beq_refl, take_cells, kTmC_cells, ble44, av_unf]
  exact Gets.bind h1 fun v h => rb_norm h
 | _ :: _ :: _ :: _, _, _, h => simp at h
end Go.Proofs.YtkgkjngbfdnoiaaGreat
end

section
namespace Go.Av
def pairG (x e : Tm) : Tm := .mk 9 0 [] [x, e]
def makeG (l : List Tm) (e : Tm) : Tm := l.foldr pairG e
end Go.Av
namespace Go.Proofs.YtkgkjngbfdnoiaaGreat
open Go.Av
theorem makeList_ev {l : List Tm} (hlen : l.length < 1099511627776) (e : Tm) : EVf (EV cfg) 122 [.sl (rowsT l), e.av] = some (makeG l e).av := by
 have loop : ∀ (j : Nat) (a : Tm), j ≤ l.length → Gets (ws78_0 ((j : Int) - 1) a.kind a.num a.str (rowsT a.subs) 0 0 [] [] (rowsT l)) (· = ((l.take j).foldr pairG a).av) := by
  intro j
  induction j with
  | zero =>
   intro a _
   refine ws78_0_step _ _ _ _ _ _ _ _ _ _ ?_
   refine ⟨_, rfl, ?_⟩
   rw [av_unf]; rfl
  | succ j ih =>
   intro a hj
   refine ws78_0_step _ _ _ _ _ _ _ _ _ _ ?_
   have hil : j < l.length := by omega
   have hx : l[j]? = some l[j] := List.getElem?_eq_getElem hil
   have h := ih (pairG l[j] a) (by omega)
   have e1 : l.take (j + 1) = l.take j ++ [l[j]] := by rw [List.take_add_one, hx]; rfl
   have e2 : (((j + 1 : Nat) : Int) - 1) = (j : Int) := by omega
   have w1 : IntKind.wrap .i64 ((j : Int) - 1) = (j : Int) - 1 := wrap64 (by omega) (by omega)
   rw [e2, w1, decide_eq_true (show (j : Int) ≥ 0 by omega), rowsT_length, leInt_zero, ltInt_nat, decide_eq_true hil, rowsT_at hx, e1, List.foldr_append]
   simp only [cond_true, Bool.and_self, length_cells, Nat.beq_refl, take_cells, kTmC_cells, show Nat.ble 4 4 = true from rfl, kOptSome]
   rw [← Tm.cells_eq, ← Tm.cells_eq]
   have e3 : rowsT (pairG l[j] a).subs = [l[j].cells, a.cells] := by show rowsT [l[j], a] = _; rw [rowsT_cons, rowsT_cons, rowsT_nil]
   rw [e3] at h
   exact h
 apply Gets.get
 rw [Tm.av, Tm.cells_eq]
 refine makeList_run _ _ _ _ _ ?_
 have h := loop l.length e (Nat.le_refl _)
 rw [List.take_length] at h
 rw [rowsT_length, wrap64 (by omega) (by omega)]
 exact h
end Go.Proofs.YtkgkjngbfdnoiaaGreat
end

section
namespace Go.Proofs.YtkgkjngbfdnoiaaGreat
open Go.Av
theorem setHas_ev {p : Nat → Bool} {r : List AV} (h : SetRow p r) {n : Nat} (hn : n < 100) : EVs (EV cfg) 232 [.cptr r 0, .int .i64 n] = some (.bool (p n)) := by
 obtain ⟨lo, hi, l, rfl, h1, h2, h3, h4⟩ := h
 have key : ∀ {a k : Nat}, a < 18446744073709551616 → k < 64 → ((((a / 2 ^ k % 2 : Nat) : Int)) == 1) = a.testBit k := by
  intro a k _ _
  rw [Nat.testBit_eq_decide_div_mod_eq]
  rw [beqI]
  exact decide_eq_decide.2 (by omega)
 apply Gets.get
 refine setHas_run _ _ ?_
 unfold zg2
 by_cases hs : n < 64
 ·have e : p n = lo.testBit n := (h3 n hs).symm
  have hd := Nat.div_le_self lo (2 ^ n)
  rw [decide_eq_true (show (n : Int) < 64 by omega), e]
  simp only [cond_true, get?Internal_eq, List.getElem?_cons_zero, kOptSome, kInt_int, shr_bit h1 hs, and_one (show lo / 2 ^ n < 18446744073709551616 by omega), key h1 hs]
  exact ⟨_, rfl, rfl⟩
 ·obtain ⟨k, rfl⟩ : ∃ k, n = k + 64 := ⟨n - 64, by omega⟩
  have hk : k < 64 := by omega
  have e : p (k + 64) = hi.testBit k := (h4 k hk).symm
  have hd := Nat.div_le_self hi (2 ^ k)
  have w : IntKind.wrap .i64 (((k + 64 : Nat) : Int) - 64) = (k : Int) := by rw [wrap64 (by omega) (by omega)]; omega
  rw [decide_eq_false (show ¬ ((k + 64 : Nat) : Int) < 64 by omega), w, e]
  simp only [cond_false, get?Internal_eq, List.getElem?_cons_succ, List.getElem?_cons_zero, kOptSome, kInt_int, shr_bit h2 hk, and_one (show hi / 2 ^ k < 18446744073709551616 by omega), key h2 hk]
  exact ⟨_, rfl, rfl⟩
theorem setAdd_ev {p : Nat → Bool} {r : List AV} (h : SetRow p r) {n : Nat} (hn : n < 100) : ∃ r', EVm (EV cfg) 291 [.ptr 0 0 0, .int .i64 n] 402 [r] = some (.unit, [r']) ∧
  SetRow (fun i => p i || decide (i = n)) r' ∧ r'.drop 2 = r.drop 2 ∧ r'.length = r.length ∧ (refsLtL 0 r = true → refsLtL 0 r' = true) := by
 obtain ⟨lo, hi, l, rfl, h1, h2, h3, h4⟩ := h
 have pw : ∀ {k : Nat}, k < 64 → 2 ^ k < 18446744073709551616 := by
  intro k hk
  have : 2 ^ k < 2 ^ 64 := Nat.pow_lt_pow_right (by omega) hk
  simpa using this
 have orlt : ∀ {a b : Nat}, a < 18446744073709551616 → b < 18446744073709551616 → a ||| b < 18446744073709551616 := by
  intro a b ha hb
  have := Nat.or_lt_two_pow (n := 64) (by simpa using ha) (by simpa using hb)
  simpa using this
 have bit : ∀ {a k i : Nat}, (a ||| 2 ^ k).testBit i = (a.testBit i || decide (i = k)) := by
  intro a k i
  rw [Nat.testBit_or, Nat.testBit_two_pow]
  congr 1
  exact decide_eq_decide.2 ⟨fun h => h.symm, fun h => h.symm⟩
 by_cases hs : n < 64
 ·refine ⟨.int .u64 ((lo ||| 2 ^ n : Nat) : Int) :: .int .u64 hi :: l, ?_, ⟨_, hi, l, rfl, orlt h1 (pw hs), h2, fun i hi => ?_, fun i hi => ?_⟩, rfl, rfl, fun h => h⟩
  ·apply Gets.get
   refine setAdd_run _ _ ?_
   rw [decide_eq_true (show (n : Int) < 64 by omega)]
   simp only [cond_true, get?Internal_eq, List.getElem?_cons_zero, kOptSome, kInt_int, shl_one hs, or_bits h1 (pw hs)]
   exact ⟨_, rfl, rfl⟩
  ·rw [bit, h3 i hi]
  ·have : decide (i + 64 = n) = false := decide_eq_false (by omega)
   rw [h4 i hi]
   show p (i + 64) = (p (i + 64) || decide (i + 64 = n))
   rw [this, Bool.or_false]
 ·obtain ⟨k, rfl⟩ : ∃ k, n = k + 64 := ⟨n - 64, by omega⟩
  have hk : k < 64 := by omega
  have w : IntKind.wrap .i64 (((k + 64 : Nat) : Int) - 64) = (k : Int) := by rw [wrap64 (by omega) (by omega)]; omega
  refine ⟨.int .u64 lo :: .int .u64 ((hi ||| 2 ^ k : Nat) : Int) :: l, ?_, ⟨lo, _, l, rfl, h1, orlt h2 (pw hk), fun i hi => ?_, fun i hi => ?_⟩, rfl, rfl, fun h => h⟩
  ·apply Gets.get
   refine setAdd_run _ _ ?_
   rw [decide_eq_false (show ¬ ((k + 64 : Nat) : Int) < 64 by omega), w]
   simp only [cond_false, get?Internal_eq, List.getElem?_cons_succ, List.getElem?_cons_zero, kOptSome, kInt_int, shl_one hk, or_bits h2 (pw hk)]
   exact ⟨_, rfl, rfl⟩
  ·have : decide (i = k + 64) = false := decide_eq_false (by omega)
   rw [h3 i hi]
   show p i = (p i || decide (i = k + 64))
   rw [this, Bool.or_false]
  ·rw [bit, h4 i hi]
   congr 1
   exact decide_eq_decide.2 (by omega)
end Go.Proofs.YtkgkjngbfdnoiaaGreat
end

section
namespace Go.Proofs.YtkgkjngbfdnoiaaGreat
open Go.Av
set_option maxRecDepth 100000
set_option maxHeartbeats 0

noncomputable def Lr59_0 : Den := evC cfg (EV cfg) 231 none 1 (sub (bodyOf Tryz.f231) [1, 1, 1, 0, 1, 0, 0])
noncomputable def Ar59_0 (B : List (List AV)) (n : Int) : Ex × List AV × AH → Option AV := kAft (Cfg.keepOut cfg 231 (firstRid (sub (bodyOf Tryz.f231) [1, 1, 1, 0, 1, 0, 0]))) (kBlock 0 (kSeq (fun (fr : List AV) (H : AH) => kCutTo (Cfg.cut cfg 231 (firstRid (sub (bodyOf Tryz.f231) [1, 1, 1, 1]))) fr H fun (fr : List AV) (H : AH) => kCode cfg (EV cfg) (kfN cfg (5)) 37 none 1 (sub (bodyOf Tryz.f231) [1, 1, 1, 1]) fr H (kFinG cfg (Cfg.lift cfg 231 0) (fun (v : AV) (H : AH) => (fun (r : AV × AH) => kOpt (impRes none 1 (Prod.fst r) (Prod.snd r)) fun (r : AV × AH) => kTy noTy cfg (Oper.type { dst := some 8, op := Op.call { callee := Callee.value (Operand.func 231), args := #[Operand.tmp 7], argTypes := #[25] }, type := 211, pos := "pattern.go:188", after := #[{ on := 0, ground := Ground.data }], guard := none }) (Prod.fst r) fun (v : AV) => (fun (v : AV) (H' : AH) => kOps cfg (EV cfg) (kfN cfg 6) 154 1 (opsOf (sub (bodyOf Tryz.f154) [1, 0])) (0 + 1 + 1) (List.drop 2 (Array.toList (opsOf (sub (bodyOf Tryz.f154) [1, 0])))) (put (fx 35 [(0, AV.sl B), (1, AV.int IntKind.i64 n), (4, AV.ptr 0 0 0), (5, AV.bool false), (7, AV.sl B)]) (some 8) v) H' fun (fr' : List AV) (H' : AH) => kSeq (fun (fr : List AV) (H : AH) => kCutTo (Cfg.cut cfg 154 (firstRid (sub (bodyOf Tryz.f154) [1, 1]))) fr H fun (fr : List AV) (H : AH) => kCode cfg (EV cfg) (kfN cfg 6) 154 none 0 (sub (bodyOf Tryz.f154) [1, 1]) fr H (kFinF cfg (Cfg.lift cfg 154 0) (Array.toList (Func.results Tryz.f154)))) (kFinF cfg (Cfg.lift cfg 154 0) (Array.toList (Func.results Tryz.f154))) Ex.normal fr' H') v (Prod.snd r)) (v, H)) (Array.toList (Func.results (Prod.snd (231, Tryz.f231)))))) (kFinG cfg (Cfg.lift cfg 231 0) (fun (v : AV) (H : AH) => (fun (r : AV × AH) => kOpt (impRes none 1 (Prod.fst r) (Prod.snd r)) fun (r : AV × AH) => kTy noTy cfg (Oper.type { dst := some 8, op := Op.call { callee := Callee.value (Operand.func 231), args := #[Operand.tmp 7], argTypes := #[25] }, type := 211, pos := "pattern.go:188", after := #[{ on := 0, ground := Ground.data }], guard := none }) (Prod.fst r) fun (v : AV) => (fun (v : AV) (H' : AH) => kOps cfg (EV cfg) (kfN cfg 6) 154 1 (opsOf (sub (bodyOf Tryz.f154) [1, 0])) (0 + 1 + 1) (List.drop 2 (Array.toList (opsOf (sub (bodyOf Tryz.f154) [1, 0])))) (put (fx 35 [(0, AV.sl B), (1, AV.int IntKind.i64 n), (4, AV.ptr 0 0 0), (5, AV.bool false), (7, AV.sl B)]) (some 8) v) H' fun (fr' : List AV) (H' : AH) => kSeq (fun (fr : List AV) (H : AH) => kCutTo (Cfg.cut cfg 154 (firstRid (sub (bodyOf Tryz.f154) [1, 1]))) fr H fun (fr : List AV) (H : AH) => kCode cfg (EV cfg) (kfN cfg 6) 154 none 0 (sub (bodyOf Tryz.f154) [1, 1]) fr H (kFinF cfg (Cfg.lift cfg 154 0) (Array.toList (Func.results Tryz.f154)))) (kFinF cfg (Cfg.lift cfg 154 0) (Array.toList (Func.results Tryz.f154))) Ex.normal fr' H') v (Prod.snd r)) (v, H)) (Array.toList (Func.results (Prod.snd (231, Tryz.f231)))))))
noncomputable def Wr59_0 (B : List (List AV)) (n : Int) : List AV × AH → Option AV := fun (p : List AV × AH) => kOpt (LOOP 1 (some [3, 4, 9, 10, 11]) [] Lr59_0 p) (Ar59_0 B n)
noncomputable abbrev wr59_0 (B : List (List AV)) (n v4 v11 c0_0 c0_1 : Int) (c0_2 : List UInt8) (c0_3 : List (List AV)) (c1r0 : List AV) : Option (AV) := Wr59_0 (B) (n) (((fx 48 [(3, .ptr 1 0 0), (4, .int .i64 v4), (9, .sl B), (10, .int .i64 (B.length : Int)), (11, .int .i64 v11)]) : List AV), ([.rows false 4 [[.int .i64 c0_0, .int .i64 c0_1, .str c0_2, .sl c0_3]], .rows true 402 [c1r0]] : AH))
noncomputable abbrev wr59_0a (B : List (List AV)) (n n' n'' n''' : Int) (s : List UInt8) (rows : List (List AV)) (q : MV × List (List AV)) (row : List AV) (v4 v11 c0_0 c0_1 : Int) (c0_2 : List UInt8) (c0_3 : List (List AV)) : Option (AV) := Wr59_0 (B) (n) (((fx 48 [(3, .ptr 1 0 0), (4, .int .i64 v4), (9, .sl B), (10, .int .i64 (B.length : Int)), (11, .int .i64 v11)]) : List AV), ([.rows false 4 [[.int .i64 c0_0, .int .i64 c0_1, .str c0_2, .sl c0_3]], .rows true 402 (List.set q.2 0 (List.append (List.append (List.take (2 + Int.toNat n' * 4) row) [.int .i64 n'', .int .i64 n''', .str s, .sl rows]) (List.drop (2 + Int.toNat n' * 4 + 4) row)))] : AH))
theorem patFind_run (B : List (List AV)) (n : Int) {P : AV → Prop} (h : Gets (wr59_0 B n (- 1) 0 0 0 [] [] [AV.int .u64 0, .int .u64 0, .int .i64 0, .int .i64 0, .str [], .nilS, .int .i64 0, .int .i64 0, .str [], .nilS, .int .i64 0, .int .i64 0, .str [], .nilS, .int .i64 0, .int .i64 0, .str [], .nilS, .int .i64 0, .int .i64 (0 : Int), .str [], .nilS, .int .i64 0, .int .i64 0, .str [], .nilS, .int .i64 0, .int .i64 0, .str [], .nilS, .int .i64 0, .int .i64 0, .str [], .nilS, .int .i64 0, .int .i64 0, .str [], .nilS, .int .i64 0, .int .i64 0, .str [], .nilS, .int .i64 0, .int .i64 0, .str [], .nilS, .int .i64 0, .int .i64 0, .str [], .nilS, .int .i64 0, .int .i64 0, .str [], .nilS, .int .i64 0, .int .i64 0, .str [], .nilS, .int .i64 0, .int .i64 0, .str [], .nilS, .int .i64 0, .int .i64 0, .str [], .nilS, .int .i64 0, .int .i64 0, .str [], .nilS, .int .i64 0, .int .i64 0, .str [], .nilS, .int .i64 0, .int .i64 0, .str [], .nilS, .int .i64 0, .int .i64 0, .str [], .nilS, .int .i64 0, .int .i64 0, .str [], .nilS, .int .i64 0, .int .i64 0, .str [], .nilS, .int .i64 0, .int .i64 0, .str [], .nilS, .int .i64 0, .int .i64 0, .str [], .nilS, .int .i64 0, .int .i64 0, .str [], .nilS, .int .i64 0, .int .i64 0, .str [], .nilS, .int .i64 0, .int .i64 0, .str [], .nilS, .int .i64 0, .int .i64 0, .str [], .nilS, .int .i64 0, .int .i64 0, .str [], .nilS, .int .i64 0, .int .i64 0, .str [], .nilS, .int .i64 0, .int .i64 0, .str [], .nilS, .int .i64 0, .int .i64 0, .str [], .nilS, .int .i64 0, .int .i64 0, .str [], .nilS, .int .i64 0, .int .i64 0, .str [], .nilS, .int .i64 0, .int .i64 0, .str [], .nilS, .int .i64 0, .int .i64 0, .str [], .nilS, .int .i64 0, .int .i64 0, .str [], .nilS, .int .i64 0, .int .i64 0, .str [], .nilS, .int .i64 0, .int .i64 0, .str [], .nilS, .int .i64 0, .int .i64 0, .str [], .nilS, .int .i64 0, .int .i64 0, .str [], .nilS, .int .i64 0, .int .i64 0, .str [], .nilS, .int .i64 0, .int .i64 0, .str [], .nilS, .int .i64 0, .int .i64 0, .str [], .nilS, .int .i64 0, .int .i64 0, .str [], .nilS, .int .i64 0, .int .i64 0, .str [], .nilS, .int .i64 0, .int .i64 0, .str [], .nilS, .int .i64 0, .int .i64 0, .str [], .nilS, .int .i64 0, .int .i64 0, .str [], .nilS, .int .i64 0, .int .i64 0, .str [], .nilS, .int .i64 0, .int .i64 0, .str [], .nilS, .int .i64 0, .int .i64 0, .str [], .nilS, .int .i64 0, .int .i64 0, .str [], .nilS, .int .i64 0, .int .i64 0, .str [], .nilS, .int .i64 0, .int .i64 0, .str [], .nilS, .int .i64 0, .int .i64 0, .str [], .nilS, .int .i64 0, .int .i64 0, .str [], .nilS, .int .i64 0, .int .i64 0, .str [], .nilS, .int .i64 0, .int .i64 0, .str [], .nilS, .int .i64 0, .int .i64 0, .str [], .nilS, .int .i64 0, .int .i64 0, .str [], .nilS, .int .i64 0, .int .i64 0, .str [], .nilS, .int .i64 0, .int .i64 0, .str [], .nilS, .int .i64 0, .int .i64 0, .str [], .nilS, .int .i64 0, .int .i64 0, .str [], .nilS, .int .i64 0, .int .i64 0, .str [], .nilS, .int .i64 0, .int .i64 0, .str [], .nilS, .int .i64 0, .int .i64 0, .str [], .nilS, .int .i64 0, .int .i64 0, .str [], .nilS, .int .i64 0, .int .i64 0, .str [], .nilS, .int .i64 0, .int .i64 0, .str [], .nilS, .int .i64 0, .int .i64 0, .str [], .nilS, .int .i64 0, .int .i64 0, .str [], .nilS, .int .i64 0, .int .i64 0, .str [], .nilS, .int .i64 0, .int .i64 0, .str [], .nilS, .int .i64 0, .int .i64 0, .str [], .nilS, .int .i64 0, .int .i64 0, .str [], .nilS, .int .i64 0, .int .i64 0, .str [], .nilS, .int .i64 0, .int .i64 0, .str [], .nilS, .int .i64 0, .int .i64 0, .str [], .nilS, .int .i64 0, .int .i64 0, .str [], .nilS, .int .i64 0, .int .i64 0, .str [], .nilS, .int .i64 0, .int .i64 0, .str [], .nilS, .int .i64 0, .int .i64 0, .str [], .nilS, .int .i64 0, .int .i64 0, .str [], .nilS, .int .i64 0, .int .i64 0, .str [], .nilS, .int .i64 0, .int .i64 0, .str [], .nilS, .int .i64 0, .int .i64 0, .str [], .nilS, .int .i64 0, .int .i64 0, .str [], .nilS, .int .i64 0, .int .i64 0, .str [], .nilS, .int .i64 0, .int .i64 0, .str [], .nilS, .int .i64 0, .int .i64 0, .str [], .nilS, .int .i64 0, .int .i64 0, .str [], .nilS, .int .i64 0, .int .i64 0, .str [], .nilS, .int .i64 0, .int .i64 0, .str [], .nilS, .int .i64 0, .int .i64 0, .str [], .nilS, .int .i64 0, .int .i64 0, .str [], .nilS, .int .i64 0, .int .i64 0, .str [], .nilS, .int .i64 0, .int .i64 0, .str [], .nilS, .int .i64 0, .int .i64 0, .str [], .nilS]) P) : Gets (EVf (EV cfg) 154 ([AV.sl B, AV.int IntKind.i64 n] : List AV)) P :=
  Gets.ev (fun _ h => funF rfl rfl Tryz.func154 rfl h) (Gets.eq (by kernel_rfl) h)
noncomputable abbrev zn0  : Option (AV) := some (AV.tup [.agg [AV.int .i64 0, .int .i64 0, .str [], .sl []], .bool false])
theorem wr59_0_step (B : List (List AV)) (n v4 v11 c0_0 c0_1 : Int) (c0_2 : List UInt8) (c0_3 : List (List AV)) (c1r0 : List AV) {P : AV → Prop} (h : Gets (bif decide (v11 < (B.length : Int)) then bif leInt 0 v11 && ltInt v11 (B.length : Int) then kOpt (List.get?Internal B (v11.toNat)) fun row => bif Nat.beq (List.length row) 5 then bif Nat.ble 5 (List.length row) then kCons (List.take 5 row) fun c cs => kInt .i64 c fun n_1 => kTmC cs fun n_2 n_3 s rows => (bif decide (n_1 ≤ v4) then some (AV.tup [.agg [AV.int .i64 0, .int .i64 0, .str [], .sl []], .bool false]) else bif decide (n_1 > 99) then some (AV.tup [.agg [AV.int .i64 0, .int .i64 0, .str [], .sl []], .bool false]) else kOpt (EVs (EV cfg) 208 [.agg [AV.int .i64 n_2, .int .i64 n_3, .str s, .sl rows]]) fun v => kBool v fun b => bif ! b then some (AV.tup [.agg [AV.int .i64 0, .int .i64 0, .str [], .sl []], .bool false]) else kOpt (EVm (EV cfg) 291 [.ptr 0 0 0, .int .i64 n_1] 402 [c1r0]) fun q => kMUnit q.1 (bif leInt 0 n_1 && ltInt n_1 100 then kOpt (List.get?Internal q.2 0) fun row => bif Nat.ble (2 + Int.toNat n_1 * 4 + 4) (List.length row) then wr59_0a B n n_1 n_2 n_3 s rows q row n_1 (IntKind.wrap .i64 (v11 + 1)) c0_0 c0_1 c0_2 c0_3 else none else none)) else none else none else none else bif decide (n < 0) then zn0 else bif decide (n > 99) then zn0 else bif refsLtL 0 c1r0 then bif refsLtL 0 [AV.cptr c1r0 0, .int .i64 n] then kOpt (EVs (EV cfg) 232 [AV.cptr c1r0 0, .int .i64 n]) fun v => kBool v fun b => bif ! b then zn0 else bif leInt 0 n && ltInt n 100 then bif Nat.ble (2 + Int.toNat n * 4 + 4) (List.length c1r0) then kCons (List.take 4 (List.drop (2 + Int.toNat n * 4) c1r0)) fun c cs => kInt .i64 c fun n => kCons cs fun c cs => kInt .i64 c fun n_1 => kCons cs fun c cs => kStr c fun s => kCons cs fun c cs => kSl c fun rows => kNil cs (kOpt (EVf (EV cfg) 71 [.agg [AV.int .i64 n, .int .i64 n_1, .str s, .sl rows]]) fun v => kTmV v fun n n_2 s rows => (some (AV.tup [.agg [AV.int .i64 n, .int .i64 n_2, .str s, .sl rows], .bool true]))) else none else none else none else none) P) : Gets (wr59_0 B n v4 v11 c0_0 c0_1 c0_2 c0_3 c1r0) P :=
  Gets.ev (fun _ h => loop_step (cfg := cfg) (f := 231) (rd := none) (bs := 1) h) (Gets.eq (by kernel_rfl) h)
end Go.Proofs.YtkgkjngbfdnoiaaGreat
end

section
namespace Go.Proofs.YtkgkjngbfdnoiaaGreat
open Go.Av
set_option maxRecDepth 100000
def findR (o : Option Tm) : AV := match o with | some t => .tup [t.av, .bool true] | none => .tup [zeroT.av, .bool false]
theorem find_end {L : List (Int × Tm)} {n last : Int} {r : List AV} (hm : mayB (-1) L = true) (hr : BRow L r) (hok : ∀ p ∈ L, p.2.Ok) : Gets (wr59_0 (bindsR L) n last L.length 0 0 [] [] r) (· = findR (findG n L)) := by
 have hz : AV.agg [.int .i64 0, .int .i64 0, .str [], .sl []] = zeroT.av := zeroT_av.symm
 unfold findG
 rw [if_pos hm]
 refine wr59_0_step _ _ _ _ _ _ _ _ _ ?_
 unfold zn0
 rw [bindsR_len, decide_eq_false (show ¬ (L.length : Int) < (L.length : Int) by omega), cond_false, hz]
 by_cases h1 : n < 0
 ·have : lookB n L = none := by
   cases hx : lookB n L with
   | none => rfl
   | some t => have := mayB_range hm _ (lookB_mem hx); simp at this; omega
  rw [decide_eq_true h1, this]; exact ⟨_, rfl, rfl⟩
 ·rw [decide_eq_false h1, cond_false]
  by_cases h2 : n > 99
  ·have : lookB n L = none := by
    cases hx : lookB n L with
    | none => rfl
    | some t => have := mayB_range hm _ (lookB_mem hx); simp at this; omega
   rw [decide_eq_true h2, this]; exact ⟨_, rfl, rfl⟩
  ·rw [decide_eq_false h2, cond_false]
   obtain ⟨k, rfl⟩ : ∃ k : Nat, n = k := ⟨n.toNat, by omega⟩
   have hk : k < 100 := by omega
   have hf2 : refsLtL 0 [AV.cptr r 0, .int .i64 (k : Int)] = true := by simp [refsLtL, AV.refsLt, hr.free]
   rw [hr.free, hf2, setHas_ev hr.set hk]
   simp only [cond_true, kOptSome, kBool_bool]
   cases hx : lookB (k : Int) L with
   | none => exact ⟨_, rfl, rfl⟩
   | some t =>
    have hc := hr.cells k hk t hx
    have hcopy := copy_ev (hok _ (lookB_mem hx))
    have hb : Nat.ble (2 + (k : Int).toNat * 4 + 4) r.length = true := by rw [Nat.ble_eq, hr.len]; omega
    have hl2 : ltInt (k : Int) 100 = true := by simp [ltInt]; omega
    rw [leInt_zero, hl2, hb, Int.toNat_natCast, hc, Tm.cells_eq]
    simp only [Option.isSome_some, Bool.not_true, cond_false, cond_true, Bool.and_self, kCons, kInt_int, kStr_str, kSl_sl, kNil, av_unf]
    rw [hcopy]
    simp only [kOptSome, kTmV_av, av_unf]
    exact ⟨_, rfl, rfl⟩
theorem find_loop {L : List (Int × Tm)} {n : Int} (hlen : L.length < 1099511627776) (hw : ∀ p ∈ L, p.2.w < 1099511627776) : ∀ (d i : Nat) (last : Int) (r : List AV), i + d = L.length → -1 ≤ last →
  (mayB (-1) L = mayB last (L.drop i)) → (∀ p ∈ L.take i, p.1 ≤ last) → BRow (L.take i) r → Gets (wr59_0 (bindsR L) n last i 0 0 [] [] r) (· = findR (findG n L)) := by
 have hok : ∀ p ∈ L, p.2.Ok := fun p hp => ok_of_w _ (hw p hp)
 have hz : AV.agg [.int .i64 0, .int .i64 0, .str [], .sl []] = zeroT.av := zeroT_av.symm
 intro d
 induction d with
 | zero =>
  intro i last r hi _ hm _ hr
  obtain rfl : i = L.length := by omega
  rw [List.take_of_length_le (Nat.le_refl _)] at hr
  have hm' : mayB (-1) L = true := by rw [hm, List.drop_eq_nil_of_le (Nat.le_refl _)]; rfl
  exact find_end hm' hr hok
 | succ d ih =>
  intro i last r hi hlast hm hkeys hr
  have hil : i < L.length := by omega
  have hx : L[i]? = some L[i] := List.getElem?_eq_getElem hil
  have hd : L.drop i = L[i] :: L.drop (i + 1) := List.drop_eq_getElem_cons hil
  have ht : L.take (i + 1) = L.take i ++ [L[i]] := by rw [List.take_add_one, hx]; rfl
  have hmem := List.mem_of_getElem? hx
  have hmay := patMay_ev (hw _ hmem)
  rw [hd] at hm
  generalize hp : L[i] = p at *
  obtain ⟨pn, pt⟩ := p
  simp only at hmay
  refine wr59_0_step _ _ _ _ _ _ _ _ _ ?_
  unfold zn0
  rw [bindsR_len, decide_eq_true (show (i : Int) < (L.length : Int) by omega), leInt_zero, ltInt_nat, decide_eq_true hil, get?Internal_eq, Int.toNat_natCast, bindsR_get, hx, wrap_succ hil hlen]
  simp only [cond_true, Bool.and_self, Option.map_some, kOptSome, List.length_cons, length_cells, Nat.beq_refl, show Nat.ble (4 + 1) (4 + 1) = true from rfl, show Nat.ble 5 (4 + 1) = true from rfl, show Nat.beq (4 + 1) 5 = true from rfl]
  have htk : List.take 5 (AV.int .i64 pn :: pt.cells) = AV.int .i64 pn :: pt.cells := List.take_of_length_le (by simp)
  rw [htk]
  simp only [kCons, kInt_int, kTmC_cells, av_unf]
  rw [hmay]
  have none_of : mayB (-1) L = false → findR (findG n L) = .tup [zeroT.av, .bool false] := fun h => by unfold findG; rw [h]; rfl
  rw [hz]
  by_cases h1 : pn ≤ last
  ·rw [decide_eq_true h1]
   refine ⟨_, rfl, (none_of ?_).symm⟩
   rw [hm, mayB, decide_eq_false (by show ¬ last < pn; omega), Bool.false_and]
  ·rw [decide_eq_false h1, cond_false]
   by_cases h2 : pn > 99
   ·rw [decide_eq_true h2]
    refine ⟨_, rfl, (none_of ?_).symm⟩
    rw [hm, mayB, decide_eq_false (show ¬ (pn, pt).1 ≤ 99 by show ¬ pn ≤ 99; omega), Bool.false_and, Bool.and_false]
   ·rw [decide_eq_false h2, cond_false]
    by_cases h3 : pt.chk = 0
    ·obtain ⟨k, rfl⟩ : ∃ k : Nat, pn = k := ⟨pn.toNat, by omega⟩
     have hk : k < 100 := by omega
     obtain ⟨r', e1, e2, e3, e4, e5⟩ := setAdd_ev hr.set hk
     have hnew : lookB (k : Int) (L.take i) = none := by
      cases hx : lookB (k : Int) (L.take i) with
      | none => rfl
      | some t => have := hkeys _ (lookB_mem hx); simp at this; omega
     have hadd := hr.add (t := pt) hk hnew e2 e3 e4 e5
     have hb : Nat.ble (2 + (k : Int).toNat * 4 + 4) r'.length = true := by rw [Nat.ble_eq, e4, hr.len]; omega
     have hl2 : ltInt (k : Int) 100 = true := by simp [ltInt]; omega
     have := ih (i + 1) k _ (by omega) (by omega) (by rw [hm, mayB, decide_eq_true (show last < (k : Int) by omega), decide_eq_true (show ((k : Int)) ≤ 99 by omega), decide_eq_true h3]; rfl)
      (fun p hpm => by
       rw [ht] at hpm
       rcases List.mem_append.1 hpm with h | h
       ·have := hkeys p h; omega
       ·simp at h; subst h; exact Int.le_refl _) (by rw [ht]; exact hadd)
     simp only [kOptSome, kBool_bool, decide_eq_true h3, Bool.not_true, cond_false, e1, kMUnit_unit, leInt_zero, hl2, Bool.and_self, cond_true, get?Internal_eq, List.getElem?_cons_zero, hb]
     rw [Tm.cells_eq] at this
     exact this
    ·simp only [kOptSome, kBool_bool, decide_eq_false h3, Bool.not_false, cond_true]
     refine ⟨_, rfl, (none_of ?_).symm⟩
     rw [hm, mayB, decide_eq_false (show ¬ (((pn, pt) : Int × Tm).2).chk = 0 from h3), Bool.false_and, Bool.and_false, Bool.and_false]
theorem zeroRow : BRow [] ([AV.int .u64 0, .int .u64 0] ++ (List.replicate 100 [AV.int .i64 0, .int .i64 0, .str [], .nilS]).flatten) where
 len := by decide +kernel
 set := ⟨0, 0, _, rfl, by omega, by omega, fun n _ => by simp [lookB], fun n _ => by simp [lookB]⟩
 cells := fun i _ t h => by simp [lookB] at h
 free := by decide +kernel
theorem patFind_ev {L : List (Int × Tm)} (hlen : L.length < 1099511627776) (hw : ∀ p ∈ L, p.2.w < 1099511627776) (n : Int) : EVf (EV cfg) 154 [.sl (bindsR L), .int .i64 n] = some (findR (findG n L)) := by
 apply Gets.get
 refine patFind_run _ _ ?_
 have h := find_loop (n := n) hlen hw L.length 0 (-1) _ (by omega) (by omega) rfl (fun p hp => by simp at hp) zeroRow
 refine Gets.eq ?_ h
 kernel_rfl
end Go.Proofs.YtkgkjngbfdnoiaaGreat
end

section
namespace Go.Proofs.YtkgkjngbfdnoiaaGreat
open Go.Av
def mayR (last : Int) (pre : List Int) (L : List (Int × Tm)) (o : Tm) (self : Int) : AV :=
 if mayB last L then .tup [.sl (intsR (pre ++ L.map (·.1))), .bool (decide (o.chk = 0) && selfG self)] else .tup [.sl [], .bool false]
def envR (o : Tm) (L : List (Int × Tm)) (self : Int) : AV := .agg [.int .i64 o.kind, .int .i64 o.num, .str o.str, .sl (rowsT o.subs), .sl (bindsR L), .int .i64 self]
theorem fits8 {n : Nat} (h : n ≤ 1099511627776) : fitsIn n 8 = true := by
 unfold fitsIn
 rw [Bool.and_eq_true, Nat.ble_eq, Nat.ble_eq]
 omega
theorem guardMay_ev {L : List (Int × Tm)} (hlen : L.length < 1099511627776) (hw : ∀ p ∈ L, p.2.w < 1099511627776) {o : Tm} (ho : o.w < 1099511627776) (self : Int) :
  EVf (EV cfg) 68 [envR o L self] = some (mayR (-1) [] L o self) := by
 have hco := check_ev ho
 rw [Tm.av, Tm.cells_eq] at hco
 have loop : ∀ (d i : Nat) (last : Int), i + d = L.length → Gets (ws41_0 (bindsR L) i last i o.kind o.num o.str (rowsT o.subs) (bindsR L) self (intsR ((L.take i).map (·.1)))) (· = mayR last ((L.take i).map (·.1)) (L.drop i) o self) := by
  intro d
  induction d with
  | zero =>
   intro i last hi
   refine ws41_0_step _ _ _ _ _ _ _ _ _ _ _ ?_
   obtain rfl : i = L.length := by omega
   have hb : Nat.ble (0 + L.length) (intsR ((L.take L.length).map (·.1))).length = true := by rw [Nat.ble_eq, intsR_len, List.length_map, List.length_take]; omega
   have ht : List.take L.length (intsR ((L.take L.length).map (·.1))) = intsR ((L.take L.length).map (·.1)) := List.take_of_length_le (by rw [intsR_len, List.length_map, List.length_take]; omega)
   rw [bindsR_len, decide_eq_false (by omega), List.drop_eq_nil_of_le (Nat.le_refl _), hco, self_ev]
   unfold mayR
   simp only [cond_false, kOptSome, kInt_int, kBool_bool, beqI, cond_true, mayB, if_true, List.map_nil, List.append_nil, hb, ht, Bool.and_true]
   by_cases hc : o.chk = 0
   ·rw [decide_eq_true hc]; exact ⟨_, rfl, rfl⟩
   ·rw [decide_eq_false hc]; exact ⟨_, rfl, rfl⟩
  | succ d ih =>
   intro i last hi
   refine ws41_0_step _ _ _ _ _ _ _ _ _ _ _ ?_
   have hil : i < L.length := by omega
   have hx : L[i]? = some L[i] := List.getElem?_eq_getElem hil
   have hd : L.drop i = L[i] :: L.drop (i + 1) := List.drop_eq_getElem_cons hil
   have hck := check_ev (hw L[i] (List.mem_of_getElem? hx))
   have h := ih (i + 1) L[i].1 (by omega)
   have e1 : (L.take (i + 1)).map (·.1) = (L.take i).map (·.1) ++ [L[i].1] := by
    have ht : L.take (i + 1) = L.take i ++ [L[i]] := by rw [List.take_add_one, hx]; rfl
    rw [ht, List.map_append]; rfl
   have hl0 : (intsR ((L.take i).map (·.1))).length = i := by rw [intsR_len, List.length_map, List.length_take]; omega
   have e2 : List.append (List.take i (intsR ((L.take i).map (·.1)))) [[AV.int .i64 L[i].1]] = intsR ((L.take (i + 1)).map (·.1)) := by
    rw [List.take_of_length_le (by omega), e1]; simp [intsR]
   have e3 : Nat.ble (0 + i) (intsR ((L.take i).map (·.1))).length = true := by rw [hl0, Nat.ble_eq]; omega
   rw [bindsR_len, decide_eq_true (show (i : Int) < (L.length : Int) by omega), leInt_zero, ltInt_nat, decide_eq_true hil, get?Internal_eq, Int.toNat_natCast, bindsR_get, hx, wrap_succ hil hlen, hd]
   simp only [Option.map_some, cond_true, Bool.and_self, kOptSome, List.length_cons, length_cells, show Nat.beq (4 + 1) 5 = true from rfl, show Nat.ble 5 (4 + 1) = true from rfl, List.take_succ_cons, take_cells, kCons, kInt_int, kTmC_cells, av_unf, hck, e2, e3, fits8 (show i + 1 ≤ 1099511627776 by omega)]
   unfold mayR at h ⊢
   rw [mayB]
   by_cases h1 : last < L[i].1
   ·rw [decide_eq_false (show ¬ L[i].1 ≤ last by omega), decide_eq_true h1, cond_false, Bool.true_and]
    by_cases h2 : L[i].1 ≤ 99
    ·rw [decide_eq_false (show ¬ L[i].1 > 99 by omega), decide_eq_true h2, cond_false, Bool.true_and]
     by_cases h3 : L[i].2.chk = 0
     ·have e0 : (L[i].2.chk != 0) = false := by rw [h3]; rfl
      rw [e0, decide_eq_true h3, cond_false, Bool.true_and]
      have e4 : (L.take (i + 1)).map (·.1) ++ (L.drop (i + 1)).map (·.1) = (L.take i).map (·.1) ++ (L[i] :: L.drop (i + 1)).map (·.1) := by rw [e1, List.append_assoc]; rfl
      rw [e4] at h
      exact h
     ·have e0 : (L[i].2.chk != 0) = true := by simpa using h3
      rw [e0, decide_eq_false h3]; exact ⟨_, rfl, rfl⟩
    ·rw [decide_eq_true (show L[i].1 > 99 by omega), decide_eq_false h2]; exact ⟨_, rfl, rfl⟩
   ·rw [decide_eq_true (show L[i].1 ≤ last by omega), decide_eq_false h1]; exact ⟨_, rfl, rfl⟩
 apply Gets.get
 refine guardMay_run _ _ _ _ _ _ ?_
 have h := loop L.length 0 (-1) (by omega)
 exact h
end Go.Proofs.YtkgkjngbfdnoiaaGreat
end

section
namespace Go.Proofs.YtkgkjngbfdnoiaaGreat
open Go.Av
def wholeG (b : Bool) (t : Tm) : Option Tm := if b then none else if t.chk = 0 then some t else none
theorem mWhole_ev (e : Env) (b : Bool) {t : Tm} (h : t.w < 1099511627776) : Gets (EVd (EV cfg) 155 [.ptr 0 0 0, t.av] 7 (mR e b)) (Res e (wholeG b t)) := by
 have hc := check_ev h
 have hr := mRaise_ev e b
 unfold wholeG
 rw [Tm.av, Tm.cells_eq] at hc ⊢
 refine mWhole_run _ _ _ _ _ _ _ _ _ _ _ ?_
 unfold ze0
 rw [hc]
 cases b with
 | true =>
  rw [if_pos rfl, cond_true, hr]
  simp only [kOptSome, kTmV_av]
  rw [av_unf]; exact ret_true
 | false =>
  rw [if_neg (by simp), cond_false]
  simp only [kOptSome, kInt_int]
  by_cases h0 : t.chk = 0
  ·have e0 : (t.chk != 0) = false := by rw [h0]; rfl
   rw [e0, if_pos h0, cond_false, av_unf]; exact ret_false
  ·have e0 : (t.chk != 0) = true := by simpa using h0
   rw [e0, if_neg h0, cond_true, hr]
   simp only [kOptSome, kTmV_av]
   rw [av_unf]; exact ret_true
theorem mBound_ev {e : Env} (hlen : e.binds.length < 1099511627776) (b : Bool) : EVd (EV cfg) 156 [.ptr 0 0 0] 7 (mR e b) = some ((makeG (e.binds.map (·.2)) (.mk 8 0 [] [])).av, mR e b) := by
 have loop : ∀ (d i : Nat), i + d = e.binds.length → Gets (ws61_0 (bindsR e.binds) i i (mR e b) 0 0 [] [] (rowsT ((e.binds.take i).map (·.2)))) (· = ((makeG (e.binds.map (·.2)) (.mk 8 0 [] [])).av, mR e b)) := by
  intro d
  induction d with
  | zero =>
   intro i hi
   refine ws61_0_step _ _ _ _ _ _ _ _ _ ?_
   obtain rfl : i = e.binds.length := by omega
   have hb : Nat.ble (0 + e.binds.length) (rowsT ((e.binds.take e.binds.length).map (·.2))).length = true := by rw [Nat.ble_eq, rowsT_length, List.length_map, List.length_take]; omega
   have ht : List.take e.binds.length (rowsT ((e.binds.take e.binds.length).map (·.2))) = rowsT (e.binds.map (·.2)) := by
    rw [List.take_of_length_le (by rw [rowsT_length, List.length_map, List.length_take]; omega), List.take_length]
   have hm := makeList_ev (l := e.binds.map (·.2)) (by rw [List.length_map]; exact hlen) (.mk 8 0 [] [])
   rw [Tm.av_mk, rowsT_nil] at hm
   rw [bindsR_len, decide_eq_false (by omega)]
   simp only [cond_false, hb, Bool.and_true, cond_true, ht, hm, kOptSome, kTmV_av, av_unf]
   exact ⟨_, rfl, rfl⟩
  | succ d ih =>
   intro i hi
   refine ws61_0_step _ _ _ _ _ _ _ _ _ ?_
   have hil : i < e.binds.length := by omega
   have hx : e.binds[i]? = some e.binds[i] := List.getElem?_eq_getElem hil
   have h := ih (i + 1) (by omega)
   have e1 : (e.binds.take (i + 1)).map (·.2) = (e.binds.take i).map (·.2) ++ [e.binds[i].2] := by
    have ht : e.binds.take (i + 1) = e.binds.take i ++ [e.binds[i]] := by rw [List.take_add_one, hx]; rfl
    rw [ht, List.map_append]; rfl
   have hl0 : (rowsT ((e.binds.take i).map (·.2))).length = i := by rw [rowsT_length, List.length_map, List.length_take]; omega
   have e2 : List.append (List.take i (rowsT ((e.binds.take i).map (·.2)))) [e.binds[i].2.cells] = rowsT ((e.binds.take (i + 1)).map (·.2)) := by
    rw [List.take_of_length_le (by omega), e1, rowsT_append, rowsT_cons, rowsT_nil]; rfl
   have e3 : Nat.ble (0 + i) (rowsT ((e.binds.take i).map (·.2))).length = true := by rw [hl0, Nat.ble_eq]; omega
   rw [bindsR_len, decide_eq_true (show (i : Int) < (e.binds.length : Int) by omega), leInt_zero, ltInt_nat, decide_eq_true hil, get?Internal_eq, Int.toNat_natCast, bindsR_get, hx, wrap_succ hil hlen]
   simp only [Option.map_some, cond_true, Bool.and_self, kOptSome, List.length_cons, length_cells, show Nat.beq (4 + 1) 5 = true from rfl, show Nat.ble 5 (4 + 1) = true from rfl, List.take_succ_cons, take_cells, kCons, kInt_int, kTmC_cells, e3, fits56 (show i + 1 ≤ 1099511627776 by omega)]
   rw [← Tm.cells_eq, e2]
   exact h
 apply Gets.get
 refine mBound_run _ _ _ _ _ _ _ ?_
 exact loop e.binds.length 0 (by omega)
end Go.Proofs.YtkgkjngbfdnoiaaGreat
end

section
namespace Go.Av
def valsG (f : Tm → Option Tm) : List Tm → Option (List Tm)
 | [] => some []
 | t :: l => (f t).bind fun x => (valsG f l).map (x :: ·)
def ResL (e : Env) (o : Option (List Tm)) (r : AV × List (List AV)) : Prop :=
 match o with
 | some ts => r = (.sl (rowsT ts), mR e false)
 | none => r.2 = mR e true ∧ ∃ ts : List Tm, r.1 = .sl (rowsT ts)
end Go.Av
namespace Go.Proofs.YtkgkjngbfdnoiaaGreat
open Go.Av
theorem values_bad {e : Env} {l acc : List Tm} {i : Nat} (hi : i ≤ l.length) (ha : acc.length = i) : Gets (ws62_0 (rowsT l) i i (mR e true) (rowsT acc)) (ResL e none) := by
 refine ws62_0_step _ _ _ _ _ ?_
 by_cases hil : i < l.length
 ·have hx : l[i]? = some l[i] := List.getElem?_eq_getElem hil
  rw [rowsT_length, decide_eq_true (show (i : Int) < (l.length : Int) by omega), leInt_zero, ltInt_nat, decide_eq_true hil, rowsT_at hx]
  simp only [cond_true, Bool.and_self, length_cells, Nat.beq_refl, take_cells, kTmC_cells, show Nat.ble 4 4 = true from rfl, kOptSome]
  exact ⟨_, rfl, rfl, [], by rw [rowsT_nil]⟩
 ·have e3 : (Nat.ble (0 + i) (rowsT acc).length && true) = true := by rw [Bool.and_true, Nat.ble_eq, rowsT_length]; omega
  rw [rowsT_length, decide_eq_false (by omega), cond_false, e3, cond_true, List.take_of_length_le (by rw [rowsT_length]; omega)]
  exact ⟨_, rfl, rfl, acc, rfl⟩
theorem mValues_of {e : Env} {f : Tm → Option Tm} {l : List Tm} (hlen : l.length < 1099511627776) (ih : ∀ x ∈ l, Gets (EVd (EV cfg) 70 [.ptr 0 0 0, x.av] 7 (mR e false)) (Res e (f x))) :
  Gets (EVd (EV cfg) 157 [.ptr 0 0 0, .sl (rowsT l)] 7 (mR e false)) (ResL e (valsG f l)) := by
 have loop : ∀ (d i : Nat) (acc : List Tm), i + d = l.length → acc.length = i → Gets (ws62_0 (rowsT l) i i (mR e false) (rowsT acc)) (ResL e ((valsG f (l.drop i)).map (acc ++ ·))) := by
  intro d
  induction d with
  | zero =>
   intro i acc hi ha
   refine ws62_0_step _ _ _ _ _ ?_
   have e3 : (Nat.ble (0 + i) (rowsT acc).length && true) = true := by rw [Bool.and_true, Nat.ble_eq, rowsT_length]; omega
   rw [rowsT_length, decide_eq_false (by omega), cond_false, e3, cond_true, List.take_of_length_le (by rw [rowsT_length]; omega), List.drop_eq_nil_of_le (by omega)]
   refine ⟨_, rfl, ?_⟩
   show _ = (AV.sl (rowsT (acc ++ [])), mR e false)
   rw [List.append_nil]
  | succ d ihd =>
   intro i acc hi ha
   refine ws62_0_step _ _ _ _ _ ?_
   have hil : i < l.length := by omega
   have hx : l[i]? = some l[i] := List.getElem?_eq_getElem hil
   have hd : l.drop i = l[i] :: l.drop (i + 1) := List.drop_eq_getElem_cons hil
   have h1 := ih l[i] (List.mem_of_getElem? hx)
   have e3 : (Nat.ble (0 + i) (rowsT acc).length && fitsIn (i + 1) 56) = true := by rw [fits56 (by omega), Bool.and_true, Nat.ble_eq, rowsT_length]; omega
   have e4 : ∀ t : Tm, List.append (List.take i (rowsT acc)) [[.int .i64 t.kind, .int .i64 t.num, .str t.str, .sl (rowsT t.subs)]] = rowsT (acc ++ [t]) := by
    intro t
    rw [List.take_of_length_le (by rw [rowsT_length]; omega), rowsT_append, rowsT_cons, rowsT_nil, Tm.cells_eq]; rfl
   rw [rowsT_length, decide_eq_true (show (i : Int) < (l.length : Int) by omega), leInt_zero, ltInt_nat, decide_eq_true hil, rowsT_at hx, wrap_succ hil hlen, hd, valsG]
   simp only [cond_true, Bool.and_self, length_cells, Nat.beq_refl, take_cells, kTmC_cells, show Nat.ble 4 4 = true from rfl, kOptSome, av_unf]
   show Gets (kOpt (EVd (EV cfg) _ _ 7 (mR e false)) _) _
   refine Gets.bind h1 ?_
   intro r hr
   cases hf : f l[i] with
   | none =>
    rw [hf] at hr
    obtain ⟨h2, t, h3⟩ := hr
    rw [h2, h3, kTmV_av, e3, e4, cond_true]
    exact values_bad (by omega) (by simp [ha])
   | some t =>
    rw [hf] at hr
    obtain rfl : r = (t.av, mR e false) := hr
    have h2 := ihd (i + 1) (acc ++ [t]) (by omega) (by simp [ha])
    rw [kTmV_av, e3, e4, cond_true]
    have e5 : ((some t).bind fun x => (valsG f (l.drop (i + 1))).map (x :: ·)).map (acc ++ ·) = (valsG f (l.drop (i + 1))).map (acc ++ [t] ++ ·) := by
     cases valsG f (l.drop (i + 1)) <;> simp
    rw [e5]
    exact h2
 refine mValues_run _ _ _ _ _ _ _ _ ?_
 have h := loop l.length 0 [] (by omega) rfl
 rw [List.drop_zero] at h
 have e6 : (valsG f l).map ([] ++ ·) = valsG f l := by cases valsG f l <;> simp
 rw [e6] at h
 exact h
end Go.Proofs.YtkgkjngbfdnoiaaGreat
end

section
namespace Go.Av
theorem seqO_valsG (e : Env) : ∀ l : List Tm, valsG (valG e) l = seqO (optsG e l)
 | [] => rfl
 | t :: l => by rw [valsG, optsG, seqO, seqO_valsG e l]
theorem listT_makeG (l : List Tm) : makeG l (.mk 8 0 [] []) = listT l := rfl
theorem mR_row (e : Env) (b : Bool) : List.get?Internal (mR e b) 0 = some [.int .i64 e.obj.kind, .int .i64 e.obj.num, .str e.obj.str, .sl (rowsT e.obj.subs), .sl (bindsR e.binds), .int .i64 e.self, .bool b] := rfl
theorem mR_bad (e : Env) (b : Bool) : List.get?Internal [AV.int .i64 e.obj.kind, .int .i64 e.obj.num, .str e.obj.str, .sl (rowsT e.obj.subs), .sl (bindsR e.binds), .int .i64 e.self, .bool b] 6 = some (.bool b) := rfl
theorem wL_bound {l : List Tm} (h : ∀ x ∈ l, x.chk = 0) : wL l ≤ l.length * 4259840 := by
 induction l with
 | nil => simp
 | cons x l ih =>
  have h1 := w_chk (h x (by simp))
  have h2 := ih fun y hy => h y (by simp [hy])
  rw [wL_cons, List.length_cons]; omega
theorem listT_w : ∀ l : List Tm, (listT l).w ≤ 1 + l.length + wL l
 | [] => by simp [listT, Tm.w_mk]
 | x :: l => by
  have h := listT_w l
  have : listT (x :: l) = .mk 9 0 [] [x, listT l] := rfl
  rw [this, Tm.w_mk, wL_cons, wL_cons, wL_cons, wL_nil, List.length_cons]
  simp only [List.length_nil]
  omega
theorem opsG_two (op : List UInt8) {n : Nat} (h : (n : Int) ∈ opsG op) : n ≤ 2 := by
 have : ∀ (l : List (List UInt8 × List Int)), (∀ p ∈ l, ∀ x ∈ p.2, x ≤ 2) → ∀ x ∈ lookS op [] l, x ≤ 2 := by
  intro l
  induction l with
  | nil => intro _ x hx; simp [lookS] at hx
  | cons p l ih =>
   intro h x hx
   rw [lookS] at hx
   cases hp : op == p.1
   ·rw [hp] at hx; exact ih (fun q hq => h q (by simp [hq])) x hx
   ·rw [hp] at hx; exact h p (by simp) x hx
 have := this opsTab (by decide) _ h
 omega
theorem cond_same {α : Type} (c : Bool) (x : α) : (bif c then x else x) = x := by cases c <;> rfl
theorem ite_w {c : Prop} [Decidable c] {x y : Option Tm} {P : Tm → Prop} (h1 : ∀ t, x = some t → P t) (h2 : ∀ t, y = some t → P t) : ∀ t, (if c then x else y) = some t → P t := by
 intro t h
 by_cases hc : c
 ·rw [if_pos hc] at h; exact h1 t h
 ·rw [if_neg hc] at h; exact h2 t h
theorem w_truthT (b : Bool) : (truthT b).w < 1099511627776 := by have := w_chk (truthT_chk b); omega
theorem w_withinG {n : Int} {v : Tm} (h : withinG n = some v) : v.w < 1099511627776 := by have := w_chk (withinG_chk h); omega
theorem oneG_w {op : List UInt8} {t : Tm} (hc : t.chk = 0) : ∀ v, oneG op t = some v → v.w < 1099511627776 := by
 have tr : ∀ b : Bool, ∀ v, some (truthT b) = some v → v.w < 1099511627776 := fun b v h => by cases h; exact w_truthT _
 have sub : ∀ i : Nat, ∀ v, t.subs[i]? = some v → v.w < 1099511627776 := fun i v h => by have := w_chk (chk_sub hc (List.mem_of_getElem? h)); omega
 have wi : ∀ n : Int, ∀ v, withinG n = some v → v.w < 1099511627776 := fun n v h => w_withinG h
 have no : ∀ v, (none : Option Tm) = some v → v.w < 1099511627776 := fun v h => by cases h
 have bo : ∀ v, ((boolG t).map fun b => truthT (!b)) = some v → v.w < 1099511627776 := fun v h => by obtain ⟨_, _, rfl⟩ := Option.map_eq_some_iff.1 h; exact w_truthT _
 have ln : ∀ v, ((lenG t).bind fun n => withinG n) = some v → v.w < 1099511627776 := fun v h => by obtain ⟨_, _, h⟩ := Option.bind_eq_some_iff.1 h; exact w_withinG h
 unfold oneG
 repeat' first
  | exact tr _
  | exact wi _
  | exact no
  | exact sub _
  | exact bo
  | exact ln
  | refine ite_w ?_ ?_
theorem numbersG_w {op : List UInt8} {a b : Int} {v : Tm} (h : numbersG op a b = some v) : v.w < 1099511627776 := by
 obtain ⟨_, n, rfl⟩ := numbersG_ok h
 rw [numT, Tm.w_mk]; simp
theorem twoG_w {op : List UInt8} {a b : Tm} (hb : b.chk = 0) : ∀ v, twoG op a b = some v → v.w < 1099511627776 := by
 have tr : ∀ c : Bool, ∀ v, some (truthT c) = some v → v.w < 1099511627776 := fun b v h => by cases h; exact w_truthT _
 have bo : ∀ f : Bool → Bool → Bool, ∀ v, ((boolG a).bind fun x => (boolG b).map fun y => truthT (f x y)) = some v → v.w < 1099511627776 := by
  intro f v h
  obtain ⟨_, _, h⟩ := Option.bind_eq_some_iff.1 h
  obtain ⟨_, _, rfl⟩ := Option.map_eq_some_iff.1 h
  exact w_truthT _
 have no : ∀ v, (none : Option Tm) = some v → v.w < 1099511627776 := fun v h => by cases h
 have sub : ∀ i : Nat, ∀ v, b.subs[i]? = some v → v.w < 1099511627776 := fun i v h => by have := w_chk (chk_sub hb (List.mem_of_getElem? h)); omega
 have nu : ∀ v, numbersG op a.num b.num = some v → v.w < 1099511627776 := fun v h => numbersG_w h
 unfold twoG
 repeat' first
  | exact tr _
  | exact bo (fun x y => x && y)
  | exact bo (fun x y => x || y)
  | exact bo (fun x y => x != y)
  | exact no
  | exact sub _
  | exact nu
  | refine ite_w ?_ ?_
theorem applyG_w {op : List UInt8} {l : List Tm} {self : Int} {v : Tm} (hl : ∀ x ∈ l, x.chk = 0) (hlen : l.length ≤ 2) (h : applyG op l self = some v) : v.w < 1099511627776 := by
 match l, hl, hlen with
 | [], _, _ => cases h; rw [Tm.w_mk]; simp
 | [a], hl, _ => exact oneG_w (hl a (by simp)) _ h
 | [a, b], hl, _ => exact twoG_w (hl b (by simp)) _ h
 | _ :: _ :: _ :: _, _, h => simp at h
end Go.Av
namespace Go.Proofs.YtkgkjngbfdnoiaaGreat
open Go.Av
theorem wholeG_O (t : Tm) : wholeG false t = wholeO t := by unfold wholeG wholeO; rfl
theorem mWhole_of {e : Env} {t : Tm} (h : t.w < 1099511627776) : Gets (kOpt (EVd (EV cfg) 155 [.ptr 0 0 0, t.av] 7 (mR e false)) fun q => kTmV q.1 fun (n n_1 : Int) (s : List UInt8) (rows : List (List AV)) => some (AV.agg [.int .i64 n, .int .i64 n_1, .str s, .sl rows], q.2)) (Res e (wholeO t)) := by
 have := mWhole_ev e false h
 rw [wholeG_O] at this
 exact Gets.bind this fun r h => ret_res h (Res_tm h)
theorem mWhole_bad {e : Env} (t : Tm) : Gets (kOpt (EVd (EV cfg) 155 [.ptr 0 0 0, t.av] 7 (mR e true)) fun q => kTmV q.1 fun (n n_1 : Int) (s : List UInt8) (rows : List (List AV)) => some (AV.agg [.int .i64 n, .int .i64 n_1, .str s, .sl rows], q.2)) (Res e none) := by
 have hr := mRaise_ev e true
 have h1 : EVd (EV cfg) 155 [.ptr 0 0 0, t.av] 7 (mR e true) = some (zeroT.av, mR e true) := by
  apply Gets.get
  rw [Tm.av, Tm.cells_eq]
  refine mWhole_run _ _ _ _ _ _ _ _ _ _ _ ?_
  unfold ze0
  rw [cond_true, hr]
  simp only [kOptSome, kTmV_av]
  rw [av_unf]; exact ⟨_, rfl, rfl⟩
 rw [h1]
 simp only [kOptSome, kTmV_av, av_unf]
 exact ret_true
theorem agg_mk (k : Int) (ts : List Tm) : (AV.agg [.int .i64 k, .int .i64 0, .str [], .sl (rowsT ts)]) = (Tm.mk k 0 [] ts).av := by rw [Tm.av_mk]
theorem vals_whole {e : Env} (he : EnvOk e) {l : List Tm} (k : Int) (hlen : l.length ≤ 64) (hl : ∀ x ∈ l, x.chk = 0 ∧ isG (namesG e) x = true)
  (hv : Gets (EVd (EV cfg) 157 [.ptr 0 0 0, .sl (rowsT l)] 7 (mR e false)) (ResL e (seqO (optsG e l)))) :
  Gets (kOpt (EVd (EV cfg) 157 [.ptr 0 0 0, .sl (rowsT l)] 7 (mR e false)) fun q => kSl q.1 fun (rows : List (List AV)) => kOpt (EVd (EV cfg) 155 [.ptr 0 0 0, .agg [.int .i64 k, .int .i64 0, .str [], .sl rows]] 7 q.2) fun q => kTmV q.1 fun (n n_1 : Int) (s : List UInt8) (rows : List (List AV)) => some (AV.agg [.int .i64 n, .int .i64 n_1, .str s, .sl rows], q.2)) (Res e ((seqO (optsG e l)).bind fun ts => wholeO (.mk k 0 [] ts))) := by
 refine Gets.bind hv ?_
 intro r hr
 cases ho : seqO (optsG e l) with
 | none =>
  rw [ho] at hr
  obtain ⟨h1, ts, h2⟩ := hr
  rw [h1, h2, kSl_sl, agg_mk]
  exact mWhole_bad _
 | some ts =>
  rw [ho] at hr
  obtain rfl : r = (.sl (rowsT ts), mR e false) := hr
  have h1 := wL_bound (seqO_chk he hl ho)
  have h2 := seqO_len ho
  simp only [kSl_sl, agg_mk]
  rw [Option.bind_some]
  have h3 : ts.length * 4259840 ≤ 64 * 4259840 := Nat.mul_le_mul_right _ (by omega)
  exact mWhole_of (by rw [Tm.w_mk]; simp only [List.length_nil]; omega)
theorem lazy_end {e : Env} {y : Tm} : Gets (kOpt (EVm (EV cfg) 158 [.ptr 0 0 0, y.av] 7 (mR e false)) fun (q : MV × List (List AV)) => kMBool q.1 fun (_ : Bool) => some (y.av, q.2)) (Res e ((boolG y).map fun _ => y)) := by
 rw [mBool_ev]
 simp only [kOptSome, kMBool_bool]
 cases boolG y with
 | none => exact ret_true
 | some b => exact ret_false
theorem mValue_ev {e : Env} (he : EnvOk e) (hp : ProductOk) : ∀ (n : Nat) (t : Tm), t.w ≤ n → t.chk = 0 → isG (namesG e) t = true →
  Gets (EVd (EV cfg) 70 [.ptr 0 0 0, t.av] 7 (mR e false)) (Res e (valG e t)) := by
 intro n
 induction n with
 | zero => intro t h; have := w_pos t; omega
 | succ n ih =>
  intro t hw hc hg
  have hwe := t.w_eq
  have hwc := w_chk hc
  have hvar := patVar_ev (t := t) (by omega)
  have hbl := he.len
  have hbw : ∀ p ∈ e.binds, p.2.w < 1099511627776 := fun p hp => by have := w_chk (mayB_chk he.may p hp); omega
  have vals : ∀ l : List Tm, l.length ≤ 64 → (∀ x ∈ l, x.w ≤ n ∧ x.chk = 0 ∧ isG (namesG e) x = true) → Gets (EVd (EV cfg) 157 [.ptr 0 0 0, .sl (rowsT l)] 7 (mR e false)) (ResL e (seqO (optsG e l))) := by
   intro l hlen hl
   rw [← seqO_valsG]
   exact mValues_of (by omega) fun x hx => ih x (hl x hx).1 (hl x hx).2.1 (hl x hx).2.2
  rw [Tm.av, Tm.cells_eq] at hvar ⊢
  refine mValue_run _ _ _ _ _ _ _ _ _ _ _ ?_
  unfold ze0
  rw [hvar]
  simp only [beqI, beqS, kOptSome]
  by_cases h2 : t.kind = 2
  ·rw [decide_eq_true h2, cond_true, valG_atom h2]
   rw [isG_atom h2] at hg
   simp only [varR, kTup, kCons, kInt_int, kBool_bool, kNil]
   cases hx : varT t with
   | some x =>
    rw [hx] at hg
    obtain ⟨y, hy⟩ := lookB_some (of_decide_eq_true hg)
    have hf := patFind_ev (L := e.binds) (by omega) hbw x
    have hfr : findR (findG x e.binds) = .tup [y.av, .bool true] := by
     unfold findG
     rw [if_pos he.may, hy]; rfl
    rw [hfr] at hf
    simp only [Option.isSome_some, Option.getD_some, cond_true, hf, kOptSome, hy]
    obtain ⟨ky, ny, sy, ly⟩ := y
    rw [Tm.av_mk]
    refine ⟨_, rfl, ?_⟩
    show _ = ((Tm.mk ky ny sy ly).av, mR e false)
    rw [Tm.av_mk]
   | none =>
    simp only [Option.isSome_none, cond_false]
    by_cases s1 : t.str = [36, 95]
    ·rw [if_pos s1, decide_eq_true s1, cond_true, av_unf]; exact ret_false
    rw [if_neg s1, decide_eq_false s1, cond_false]
    by_cases s2 : t.str = [36, 36]
    ·rw [if_pos s2, decide_eq_true s2, cond_true, mBound_ev (by omega)]
     simp only [kOptSome, kTmV_av, av_unf]
     rw [listT_makeG]
     refine mWhole_of ?_
     have h1 := listT_w (e.binds.map (·.2))
     have h3 := wL_bound (l := e.binds.map (·.2)) (fun x hx => by
      obtain ⟨p, hp, rfl⟩ := List.mem_map.1 hx
      exact mayB_chk he.may p hp)
     rw [List.length_map] at h1 h3
     have h4 : e.binds.length * 4259840 ≤ 100 * 4259840 := Nat.mul_le_mul_right _ hbl
     omega
    rw [if_neg s2, decide_eq_false s2, cond_false, av_unf]; exact ret_false
  rw [decide_eq_false h2, cond_false]
  have hsub : ∀ x ∈ t.subs, x.w ≤ n ∧ x.chk = 0 := fun x hx => by
   have := wL_mem hx
   exact ⟨by omega, chk_sub hc hx⟩
  by_cases h9 : t.kind = 9
  ·rw [decide_eq_true h9, cond_true, valG_cons h9]
   rw [isG_cons h9] at hg
   have hall := allG_mem hg
   exact vals_whole he 9 (subs_chk hc) (fun x hx => ⟨(hsub x hx).2, hall x hx⟩) (vals t.subs (subs_chk hc) fun x hx => ⟨(hsub x hx).1, (hsub x hx).2, hall x hx⟩)
  rw [decide_eq_false h9, cond_false]
  by_cases h7 : t.kind = 7
  ·rw [decide_eq_true h7, cond_true]
   cases hl : t.subs with
   | nil => rw [isG_nil h7 hl] at hg; cases hg
   | cons f r =>
    have hf := hsub f (by rw [hl]; simp)
    have hr : ∀ x ∈ r, x.w ≤ n ∧ x.chk = 0 := fun x hx => hsub x (by rw [hl]; simp [hx])
    have hlen := subs_chk hc
    rw [hl, List.length_cons] at hlen
    rw [valG_tup h7 hl]
    rw [isG_tup h7 hl] at hg
    have c2 : leInt 1 ((rowsT (f :: r)).length : Int) = true := by rw [rowsT_length]; exact decide_eq_true (by simp; omega)
    have tk : List.take ((rowsT (f :: r)).length - 1) (List.drop 1 (rowsT (f :: r))) = rowsT r := by
     rw [rowsT_cons, List.drop_succ_cons, List.drop_zero, List.length_cons, Nat.add_sub_cancel, List.take_length]
    rw [c2, tk]
    simp only [cond_true, lt0T, get0T, kOptSome, length_cells, Nat.beq_refl, ble44, take_cells, kTmC_cells, rowsOk_rowsT, beqI, beqS]
    by_cases f7 : f.kind = 7
    ·rw [if_pos f7] at hg ⊢
     rw [decide_eq_true f7, cond_true]
     rw [Bool.and_eq_true] at hg
     have hall := allG_mem hg.2
     have fs := subs_chk hf.2
     have hfs : ∀ x ∈ f.subs, x.w ≤ n ∧ x.chk = 0 := fun x hx => by
      have h1 := wL_mem hx
      have h2 := f.w_eq
      exact ⟨by have := hf.1; omega, chk_sub hf.2 hx⟩
     exact vals_whole he 7 fs (fun x hx => ⟨(hfs x hx).2, hall x hx⟩) (vals f.subs fs fun x hx => ⟨(hfs x hx).1, (hfs x hx).2, hall x hx⟩)
    rw [if_neg f7] at hg ⊢
    rw [decide_eq_false f7, cond_false]
    by_cases f2 : f.kind = 2
    ·rw [if_pos f2] at hg
     by_cases hk : f.str = [99, 111, 110, 115, 116]
     ·rw [if_pos hk] at hg ⊢
      rw [decide_eq_true hk, cond_true]
      match r, of_decide_eq_true hg with
      | [a], _ =>
       simp only [lt1T, get1T, cond_true, kOptSome, length_cells, Nat.beq_refl, ble44, take_cells, kTmC_cells, av_unf]
       exact ret_false
     rw [if_neg hk] at hg ⊢
     rw [decide_eq_false hk, cond_false]
     rw [Bool.and_eq_true] at hg
     have hrg := allG_mem hg.2
     have hop := of_decide_eq_true hg.1
     by_cases ha : f.str = [97, 110, 100, 97, 108, 115, 111]
     ·rw [if_pos ha, decide_eq_true ha]
      have hl2 : r.length = 2 := by
       rw [ha] at hop
       have : opsG [97, 110, 100, 97, 108, 115, 111] = [2] := by decide
       rw [this] at hop
       simp at hop; omega
      match r, hr, hrg with
      | [], _, _ => simp at hl2
      | [a], _, _ => simp at hl2
      | a :: b :: q, hr, hrg =>
       have ra := hr a (by simp)
       have rb := hr b (by simp)
       have iha := ih a ra.1 ra.2 (hrg a (by simp))
       have ihb := ih b rb.1 rb.2 (hrg b (by simp))
       simp only [cond_true, cond_false, lt1T, lt2T, get1T, get2T, kOptSome, length_cells, Nat.beq_refl, ble44, take_cells, kTmC_cells, av_unf, optsG, lazyG]
       refine Gets.bind iha ?_
       intro x hx
       cases hva : valG e a with
       | none =>
        rw [hva] at hx
        obtain ⟨h1, y, h2⟩ := hx
        rw [h1, h2]
        simp only [kTmV_av, mR_row, mR_bad, kOptSome, kBool_bool, cond_true, av_unf]
        exact ret_true
       | some y =>
        rw [hva] at hx
        obtain rfl : x = (y.av, mR e false) := hx
        simp only [kTmV_av, mR_row, mR_bad, kOptSome, kBool_bool, cond_false, av_unf, mBool_ev, kMBool_bool, Option.bind_some]
        cases hb : boolG y with
        | none =>
         simp only [Option.isNone_none, Bool.or_true, cond_true, Option.bind_none]
         rw [cond_same]; exact ret_true
        | some v =>
         rw [boolG_some hb]
         simp only [Option.isNone_some, Bool.or_false, cond_false, Option.bind_some]
         cases v with
         | false =>
          rw [if_neg (by simp)]; exact ret_false
         | true =>
          rw [if_pos rfl]
          change Gets (kOpt (EVd (EV cfg) _ _ 7 (mR e false)) _) _
          refine Gets.bind ihb ?_
          intro x hx
          cases hvb : valG e b with
          | none =>
           rw [hvb] at hx
           obtain ⟨h1, z, h2⟩ := hx
           rw [h1, h2]
           simp only [kTmV_av, mR_row, mR_bad, kOptSome, kBool_bool, Bool.not_true, cond_false, av_unf]
           exact ret_true
          | some z =>
           rw [hvb] at hx
           obtain rfl : x = (z.av, mR e false) := hx
           simp only [kTmV_av, mR_row, mR_bad, kOptSome, kBool_bool, Bool.not_false, cond_true, av_unf, Option.bind_some]
           exact lazy_end
     rw [if_neg ha, decide_eq_false ha]
     by_cases hb : f.str = [111, 114, 101, 108, 115, 101]
     ·rw [if_pos hb, decide_eq_true hb]
      have hl2 : r.length = 2 := by
       rw [hb] at hop
       have : opsG [111, 114, 101, 108, 115, 101] = [2] := by decide
       rw [this] at hop
       simp at hop; omega
      simp only [cond_false]
      match r, hr, hrg with
      | [], _, _ => simp at hl2
      | [a], _, _ => simp at hl2
      | a :: b :: q, hr, hrg =>
       have ra := hr a (by simp)
       have rb := hr b (by simp)
       have iha := ih a ra.1 ra.2 (hrg a (by simp))
       have ihb := ih b rb.1 rb.2 (hrg b (by simp))
       simp only [cond_true, cond_false, lt1T, lt2T, get1T, get2T, kOptSome, length_cells, Nat.beq_refl, ble44, take_cells, kTmC_cells, av_unf, optsG, lazyG]
       refine Gets.bind iha ?_
       intro x hx
       cases hva : valG e a with
       | none =>
        rw [hva] at hx
        obtain ⟨h1, y, h2⟩ := hx
        rw [h1, h2]
        simp only [kTmV_av, mR_row, mR_bad, kOptSome, kBool_bool, cond_true, av_unf]
        exact ret_true
       | some y =>
        rw [hva] at hx
        obtain rfl : x = (y.av, mR e false) := hx
        simp only [kTmV_av, mR_row, mR_bad, kOptSome, kBool_bool, cond_false, av_unf, mBool_ev, kMBool_bool, Option.bind_some]
        cases hb : boolG y with
        | none =>
         simp only [Option.isNone_none, Bool.or_true, cond_true, Option.bind_none]
         rw [cond_same]; exact ret_true
        | some v =>
         rw [boolG_some hb]
         simp only [Option.isNone_some, Bool.or_false, cond_false, Option.bind_some]
         cases v with
         | true =>
          rw [if_neg (by simp)]; exact ret_false
         | false =>
          rw [if_pos rfl]
          change Gets (kOpt (EVd (EV cfg) _ _ 7 (mR e false)) _) _
          refine Gets.bind ihb ?_
          intro x hx
          cases hvb : valG e b with
          | none =>
           rw [hvb] at hx
           obtain ⟨h1, z, h2⟩ := hx
           rw [h1, h2]
           simp only [kTmV_av, mR_row, mR_bad, kOptSome, kBool_bool, Bool.not_true, cond_false, av_unf]
           exact ret_true
          | some z =>
           rw [hvb] at hx
           obtain rfl : x = (z.av, mR e false) := hx
           simp only [kTmV_av, mR_row, mR_bad, kOptSome, kBool_bool, Bool.not_false, cond_true, av_unf, Option.bind_some]
           exact lazy_end
     rw [if_neg hb, decide_eq_false hb]
     simp only [cond_false]
     have hv := vals r (by omega) fun x hx => ⟨(hr x hx).1, (hr x hx).2, hrg x hx⟩
     refine Gets.bind hv ?_
     intro q hq
     cases ho : seqO (optsG e r) with
     | none =>
      rw [ho] at hq
      obtain ⟨h1, ts, h3⟩ := hq
      rw [h1, h3]
      simp only [kSl_sl, mR_row, mR_bad, kOptSome, kBool_bool, cond_true]
      exact ⟨_, rfl, rfl, zeroT, by rw [zeroT_av]⟩
     | some ts =>
      rw [ho] at hq
      obtain rfl : q = (.sl (rowsT ts), mR e false) := hq
      have hts := seqO_chk he (fun x hx => ⟨(hr x hx).2, hrg x hx⟩) ho
      have hlt := seqO_len ho
      have h2 := opsG_two _ hop
      simp only [kSl_sl, mR_row, mR_bad, kOptSome, kBool_bool, cond_false, Option.bind_some]
      refine Gets.bind (mApply_ev e f.str hts (by omega) (fun _ => hp)) ?_
      intro q hq
      cases hap : applyG f.str ts e.self with
      | none =>
       rw [hap] at hq
       obtain ⟨h1, z, h3⟩ := hq
       rw [h1, h3]
       simp only [kTmV_av, av_unf]
       exact mWhole_bad z
      | some z =>
       rw [hap] at hq
       obtain rfl : q = (z.av, mR e false) := hq
       simp only [kTmV_av, av_unf, Option.bind_some]
       exact mWhole_of (applyG_w hts (by omega) hap)
    ·rw [if_neg f2] at hg; cases hg
  ·rw [decide_eq_false h7, valG_other h2 h9 h7, cond_false, av_unf]; exact ret_false
end Go.Proofs.YtkgkjngbfdnoiaaGreat
end

section
namespace Go.Av
theorem kChain {α : Type} (t : Tm) (K : Int → Int → List UInt8 → List (List AV) → Option α) : (kCons t.cells fun (c : AV) (cs : List AV) => kInt .i64 c fun (n : Int) => kCons cs fun (c : AV) (cs : List AV) => kInt .i64 c fun (n_1 : Int) => kCons cs fun (c : AV) (cs : List AV) => kStr c fun (s : List UInt8) => kCons cs fun (c : AV) (cs : List AV) => kSl c fun (rows : List (List AV)) => kNil cs (K n n_1 s rows)) = K t.kind t.num t.str (rowsT t.subs) := kTmC_cells t K
end Go.Av
namespace Go.Proofs.YtkgkjngbfdnoiaaGreat
open Go.Av
theorem r17List_ev {l : List Tm} (hlen : l.length < 1099511627776) : EVf (EV cfg) 165 [.sl (rowsT l)] = some (makeG l (.mk 8 0 [] [])).av := by
 have loop : ∀ (j : Nat) (a : Tm), j ≤ l.length → Gets (wy64_0 (rowsT l) ((j : Int) - 1) 0 0 [] [] a.kind a.num a.str (rowsT a.subs)) (· = ((l.take j).foldr pairG a).av) := by
  intro j
  induction j with
  | zero =>
   intro a _
   refine wy64_0_step _ _ _ _ _ _ _ _ _ _ ?_
   refine ⟨_, rfl, ?_⟩
   rw [av_unf]; rfl
  | succ j ih =>
   intro a hj
   refine wy64_0_step _ _ _ _ _ _ _ _ _ _ ?_
   have hil : j < l.length := by omega
   have hx : l[j]? = some l[j] := List.getElem?_eq_getElem hil
   have h := ih (pairG l[j] a) (by omega)
   have e1 : l.take (j + 1) = l.take j ++ [l[j]] := by rw [List.take_add_one, hx]; rfl
   have e2 : (((j + 1 : Nat) : Int) - 1) = (j : Int) := by omega
   have w1 : IntKind.wrap .i64 ((j : Int) - 1) = (j : Int) - 1 := wrap64 (by omega) (by omega)
   rw [e2, w1, decide_eq_true (show (j : Int) ≥ 0 by omega), rowsT_length, leInt_zero, ltInt_nat, decide_eq_true hil, rowsT_at hx, e1, List.foldr_append]
   simp only [cond_true, Bool.and_self, length_cells, Nat.beq_refl, take_cells, kTmC_cells, show Nat.ble 4 4 = true from rfl, kOptSome]
   rw [← Tm.cells_eq, ← Tm.cells_eq]
   have e3 : rowsT (pairG l[j] a).subs = [l[j].cells, a.cells] := by show rowsT [l[j], a] = _; rw [rowsT_cons, rowsT_cons, rowsT_nil]
   rw [e3] at h
   exact h
 apply Gets.get
 refine r17List_run _ ?_
 rw [rowsT_length, wrap64 (by omega) (by omega)]
 have h := loop l.length (.mk 8 0 [] []) (Nat.le_refl _)
 rw [List.take_length, show rowsT (Tm.mk 8 0 [] []).subs = [] from rowsT_nil] at h
 exact h
theorem r17Whole_ev {t : Tm} {o : Option Tm} (h : ∀ x, o = some x → t = x) (hw : t.w < 1099511627776) : EVf (EV cfg) 164 [t.av, .bool o.isSome] = some (tbR (o.bind wholeO)) := by
 have hc := r02Check_ev hw
 apply Gets.get
 rw [Tm.av, Tm.cells_eq] at hc ⊢
 refine r17Whole_run _ _ _ _ _ ?_
 unfold zd51 zd0
 rw [hc, ← zeroT_av]
 simp only [kOptSome, kInt_int, av_unf]
 cases o with
 | none => exact ⟨_, rfl, rfl⟩
 | some x =>
  obtain rfl := h x rfl
  rw [Option.bind_some]
  unfold wholeO
  by_cases h0 : t.chk = 0
  ·have e0 : (t.chk != 0) = false := by rw [h0]; rfl
   rw [e0, if_pos h0]; exact ⟨_, rfl, rfl⟩
  ·have e0 : (t.chk != 0) = true := by simpa using h0
   rw [e0, if_neg h0]; exact ⟨_, rfl, rfl⟩
theorem r17Self_ev (n : Int) : EVs (EV cfg) 94 [.int .i64 n] = some (.bool (selfG n)) := by
 apply Gets.get
 refine r17Self_run _ ?_
 unfold selfG
 by_cases h : 1 ≤ n
 ·rw [decide_eq_true (show n ≥ 1 from h)]; exact ⟨_, rfl, rfl⟩
 ·rw [decide_eq_false (show ¬ n ≥ 1 from h)]; exact ⟨_, rfl, rfl⟩
theorem r17Names_ev {L : List (Int × Tm)} (hlen : L.length < 1099511627776) : EVf (EV cfg) 74 [.sl (bindsR L)] = some (.sl (intsR (L.map (·.1)))) := by
 have loop : ∀ (d i : Nat), i + d = L.length → Gets (wy28_0 (bindsR L) i i (intsR ((L.take i).map (·.1)))) (· = .sl (intsR (L.map (·.1)))) := by
  intro d
  induction d with
  | zero =>
   intro i hi
   refine wy28_0_step _ _ _ _ ?_
   obtain rfl : i = L.length := by omega
   have hb : Nat.ble (0 + L.length) (intsR ((L.take L.length).map (·.1))).length = true := by rw [Nat.ble_eq, intsR_len, List.length_map, List.length_take]; omega
   have ht : List.take L.length (intsR ((L.take L.length).map (·.1))) = intsR (L.map (·.1)) := by
    rw [List.take_of_length_le (by rw [intsR_len, List.length_map, List.length_take]; omega), List.take_length]
   rw [bindsR_len, decide_eq_false (by omega), hb, ht]
   exact ⟨_, rfl, rfl⟩
  | succ d ih =>
   intro i hi
   refine wy28_0_step _ _ _ _ ?_
   have hil : i < L.length := by omega
   have hx : L[i]? = some L[i] := List.getElem?_eq_getElem hil
   have h := ih (i + 1) (by omega)
   have e1 : (L.take (i + 1)).map (·.1) = (L.take i).map (·.1) ++ [L[i].1] := by
    have ht : L.take (i + 1) = L.take i ++ [L[i]] := by rw [List.take_add_one, hx]; rfl
    rw [ht, List.map_append]; rfl
   have hl0 : (intsR ((L.take i).map (·.1))).length = i := by rw [intsR_len, List.length_map, List.length_take]; omega
   have e2 : List.append (List.take i (intsR ((L.take i).map (·.1)))) [[AV.int .i64 L[i].1]] = intsR ((L.take (i + 1)).map (·.1)) := by
    rw [List.take_of_length_le (by omega), e1]; simp [intsR]
   have e3 : Nat.ble (0 + i) (intsR ((L.take i).map (·.1))).length = true := by rw [hl0, Nat.ble_eq]; omega
   rw [bindsR_len, decide_eq_true (show (i : Int) < (L.length : Int) by omega), leInt_zero, ltInt_nat, decide_eq_true hil, get?Internal_eq, Int.toNat_natCast, bindsR_get, hx, wrap_succ hil hlen]
   simp only [Option.map_some, cond_true, Bool.and_self, kOptSome, List.length_cons, length_cells, show Nat.beq (4 + 1) 5 = true from rfl, get?Internal_eq, List.getElem?_cons_zero, kInt_int, e2, e3, fits8 (show i + 1 ≤ 1099511627776 by omega)]
   exact h
 apply Gets.get
 refine r17Names_run _ ?_
 exact loop L.length 0 (by omega)
theorem r02Copy_ev (t : Tm) : t.w < 1099511627776 → EVf (EV cfg) 76 [t.av] = some t.av := by
 induction t using Tm.ind with
 | _ k n s l ih =>
  intro hw
  rw [Tm.w_mk] at hw
  have hlen := wL_len l
  have ih' : ∀ x ∈ l, EVf (EV cfg) 76 [x.av] = some x.av := fun x hx => ih x hx (by have := wL_mem hx; omega)
  have loop : ∀ d i : Nat, i + d = l.length → Gets (wy30_0 i i k n s (rowsT l) 0 0 [] [] (rowsT (l.take i))) (· = (Tm.mk k n s l).av) := by
   intro d
   induction d with
   | zero =>
    intro i hi
    refine wy30_0_step _ _ _ _ _ _ _ _ _ _ _ ?_
    obtain rfl : i = l.length := by omega
    have hb : Nat.ble (0 + l.length) (rowsT l).length = true := by rw [Nat.ble_eq, rowsT_length]; omega
    have ht : List.take l.length (rowsT l) = rowsT l := List.take_of_length_le (by rw [rowsT_length]; omega)
    rw [rowsT_length, decide_eq_false (by omega), List.take_length, hb, ht, Tm.av_mk]
    exact ⟨_, rfl, rfl⟩
   | succ d ihd =>
    intro i hi
    have hil : i < l.length := by omega
    refine wy30_0_step _ _ _ _ _ _ _ _ _ _ _ ?_
    have hx : l[i]? = some l[i] := List.getElem?_eq_getElem hil
    have h1 := ih' l[i] (List.mem_of_getElem? hx)
    have h2 := ihd (i + 1) (by omega)
    have e1 : l.take (i + 1) = l.take i ++ [l[i]] := by rw [List.take_add_one, hx]; rfl
    have ht : (rowsT (l.take i)).length = i := by rw [rowsT_length, List.length_take]; omega
    have e2 : List.append (List.take i (rowsT (l.take i))) [l[i].cells] = rowsT (l.take (i + 1)) := by
     rw [List.take_of_length_le (by omega), e1, rowsT_append, rowsT_cons, rowsT_nil]; rfl
    have e3 : Nat.ble (0 + i) (rowsT (l.take i)).length = true := by rw [ht, Nat.ble_eq]; omega
    rw [rowsT_length, decide_eq_true (show (i : Int) < (l.length : Int) by omega), leInt_zero, ltInt_nat, decide_eq_true hil, rowsT_at hx, wrap_succ (n := l.length) hil (by omega), e3, fits56 (by omega)]
    simp only [cond_true, Bool.and_self, length_cells, Nat.beq_refl, take_cells, kTmC_cells, show Nat.ble 4 4 = true from rfl, av_unf, h1, kOptSome, kTmV_av]
    rw [← Tm.cells_eq, e2]
    exact h2
  apply Gets.get
  rw [Tm.av_mk]
  refine r02Copy_run _ _ _ _ ?_
  rw [← Tm.av_mk]
  exact (by simpa [rowsT_nil] using loop l.length 0 (by omega))
theorem r16find_ev {L : List (Int × Tm)} (hlen : L.length < 1099511627776) (n : Int) : EVf (EV cfg) 236 [.sl (bindsR L), .int .i64 n] = some (tbR (lookB n L)) := by
 have loop : ∀ (d i : Nat), i + d = L.length → Gets (wy87_0 (bindsR L) n i 0 0 [] []) (· = tbR (lookB n (L.drop i))) := by
  intro d
  induction d with
  | zero =>
   intro i hi
   refine wy87_0_step _ _ _ _ _ _ _ ?_
   unfold zd51 zd0
   rw [bindsR_len, decide_eq_false (by omega), List.drop_eq_nil_of_le (by omega), ← zeroT_av]
   exact ⟨_, rfl, rfl⟩
  | succ d ih =>
   intro i hi
   refine wy87_0_step _ _ _ _ _ _ _ ?_
   unfold zd51 zd0
   have hil : i < L.length := by omega
   have hx : L[i]? = some L[i] := List.getElem?_eq_getElem hil
   have h := ih (i + 1) (by omega)
   rw [bindsR_len, decide_eq_true (show (i : Int) < (L.length : Int) by omega), leInt_zero, ltInt_nat, decide_eq_true hil, get?Internal_eq, Int.toNat_natCast, bindsR_get, hx, wrap_succ hil hlen, List.drop_eq_getElem_cons hil, lookB]
   simp only [Option.map_some, cond_true, Bool.and_self, kOptSome, List.length_cons, length_cells, show Nat.beq (4 + 1) 5 = true from rfl, show Nat.ble 5 (4 + 1) = true from rfl, get?Internal_eq, List.getElem?_cons_zero, kInt_int, List.drop_succ_cons, List.drop_zero, take_cells, kChain, beqI, av_unf]
   by_cases he : L[i].1 = n
   ·rw [decide_eq_true he, if_pos he]; exact ⟨_, rfl, rfl⟩
   ·rw [decide_eq_false he, if_neg he]; exact h
 apply Gets.get
 refine r16find_run _ _ ?_
 exact (by simpa using loop L.length 0 (by omega))
theorem r16May_ev {L : List (Int × Tm)} (hlen : L.length < 1099511627776) (hw : ∀ p ∈ L, p.2.w < 1099511627776) : EVs (EV cfg) 160 [.sl (bindsR L)] = some (.bool (mayB (-1) L)) := by
 have loop : ∀ (d i : Nat) (last : Int), i + d = L.length → (i = 0 → last = -1) → (∀ j p, i = j + 1 → L[j]? = some p → last = p.1 ∧ 0 ≤ p.1) → Gets (wy59_0 (bindsR L) i) (· = .bool (mayB last (L.drop i))) := by
  intro d
  induction d with
  | zero =>
   intro i last hi _ _
   refine wy59_0_step _ _ ?_
   unfold zd133 zd134 zd135 zd136 zd137 zd138 zd139 zd140 zd141 zd142
   rw [bindsR_len, decide_eq_false (by omega), List.drop_eq_nil_of_le (by omega)]
   exact ⟨_, rfl, rfl⟩
  | succ d ih =>
   intro i last hi h0 hs
   refine wy59_0_step _ _ ?_
   unfold zd133 zd134 zd135 zd136 zd137 zd138 zd139 zd140 zd141 zd142
   have hil : i < L.length := by omega
   have hx : L[i]? = some L[i] := List.getElem?_eq_getElem hil
   have hck := r02Check_ev (hw L[i] (List.mem_of_getElem? hx))
   have bne0 : ∀ z : Int, (z != 0) = !decide (z = 0) := fun z => by rw [bne, beqI]
   have h := ih (i + 1) L[i].1 (by omega) (fun e => by omega)
   have e0 : ∀ k : List AV → Option AV, kOpt (bindsR L)[Int.toNat (i : Int)]? k = k (.int .i64 L[i].1 :: L[i].2.cells) := fun k => by
    rw [Int.toNat_natCast, bindsR_get, hx]; rfl
   have fin : last < L[i].1 → 0 ≤ L[i].1 → L[i].1 ≤ 99 → Gets (kOpt (EVs (EV cfg) 95 [L[i].2.av]) fun (v : AV) => kInt .i64 v fun (n : Int) => bif n != 0 then some (.bool false) else wy59_0 (bindsR L) ((i + 1 : Nat) : Int)) (· = .bool (mayB last (L[i] :: L.drop (i + 1)))) := by
    intro g1 g2 g3
    have h := h (fun j p hj hp => by obtain rfl : i = j := (by omega); rw [hx] at hp; cases hp; exact ⟨rfl, g2⟩)
    rw [hck, mayB, decide_eq_true g1, decide_eq_true g3, Bool.true_and, Bool.true_and]
    simp only [kOptSome, kInt_int, bne0]
    by_cases hc : L[i].2.chk = 0
    ·rw [decide_eq_true hc]; exact h
    ·rw [decide_eq_false hc]; exact ⟨_, rfl, rfl⟩
   rw [bindsR_len, decide_eq_true (show (i : Int) < (L.length : Int) by omega), leInt_zero, ltInt_nat, decide_eq_true hil, wrap_succ hil hlen, List.drop_eq_getElem_cons hil]
   simp only [cond_true, Bool.and_self, e0, List.length_cons, length_cells, show Nat.beq (4 + 1) 5 = true from rfl, show Nat.ble 5 (4 + 1) = true from rfl, get?Internal_eq, List.getElem?_cons_zero, kOptSome, kInt_int, List.drop_succ_cons, List.drop_zero, take_cells, kChain, av_unf]
   have last0 : -1 ≤ last := by
    rcases Nat.eq_zero_or_pos i with h | h
    ·rw [h0 h]; omega
    ·have hj : i - 1 < L.length := by omega
     have := hs (i - 1) _ (by omega) (List.getElem?_eq_getElem hj); omega
   by_cases g1 : L[i].1 < 0
   ·rw [decide_eq_true g1, mayB, decide_eq_false (show ¬ last < L[i].1 by omega)]; exact ⟨_, rfl, rfl⟩
   rw [decide_eq_false g1, cond_false]
   by_cases g2 : L[i].1 > 99
   ·rw [decide_eq_true g2, mayB, decide_eq_false (show ¬ L[i].1 ≤ 99 by omega)]
    refine ⟨_, rfl, ?_⟩
    cases decide (last < L[i].1) <;> rfl
   rw [decide_eq_false g2, cond_false]
   by_cases g3 : (i : Int) > 0
   ·have hj : i - 1 < L.length := by omega
    have hy : L[i - 1]? = some L[i - 1] := List.getElem?_eq_getElem hj
    obtain ⟨hl1, hl2⟩ := hs (i - 1) _ (by omega) hy
    have w1 : IntKind.wrap .i64 ((i : Int) - 1) = ((i - 1 : Nat) : Int) := by rw [wrap64 (by omega) (by omega)]; omega
    have e1 : ∀ k : List AV → Option AV, kOpt (bindsR L)[Int.toNat ((i - 1 : Nat) : Int)]? k = k (.int .i64 L[i - 1].1 :: L[i - 1].2.cells) := fun k => by
     rw [Int.toNat_natCast, bindsR_get, hy]; rfl
    rw [decide_eq_true g3, cond_true, w1, leInt_zero, ltInt_nat, decide_eq_true hj]
    simp only [cond_true, Bool.and_self, e1, List.length_cons, length_cells, show Nat.beq (4 + 1) 5 = true from rfl, get?Internal_eq, List.getElem?_cons_zero, kOptSome, kInt_int]
    rw [← hl1]
    by_cases g4 : L[i].1 ≤ last
    ·rw [decide_eq_true g4, mayB, decide_eq_false (show ¬ last < L[i].1 by omega)]; exact ⟨_, rfl, rfl⟩
    ·rw [decide_eq_false g4, cond_false]
     exact fin (by omega) (by omega) (by omega)
   ·rw [decide_eq_false g3, cond_false]
    have := h0 (by omega)
    exact fin (by omega) (by omega) (by omega)
 apply Gets.get
 refine r16May_run _ ?_
 exact (by simpa using loop L.length 0 (-1) (by omega) (fun _ => rfl) (fun j p h => by omega))
theorem r16Find_ev {L : List (Int × Tm)} (hlen : L.length < 1099511627776) (hw : ∀ p ∈ L, p.2.w < 1099511627776) (hm : mayB (-1) L = true) (n : Int) : EVf (EV cfg) 163 [.sl (bindsR L), .int .i64 n] = some (tbR (lookB n L)) := by
 apply Gets.get
 refine r16Find_run _ _ ?_
 unfold zd54 zd42 zd0
 rw [r16May_ev hlen hw, hm, r16find_ev hlen, ← zeroT_av]
 simp only [kOptSome, kBool_bool, Bool.not_true, cond_false, tbR_eq, kTB, av_unf]
 cases hl : lookB n L with
 | none => exact ⟨_, rfl, rfl⟩
 | some t =>
  have hc := r02Copy_ev t (hw _ (lookB_mem hl))
  simp only [Option.getD_some, hc, kOptSome, kTmV_av, av_unf, Option.isSome_some, Bool.not_true, cond_false]
  exact ⟨_, rfl, rfl⟩
end Go.Proofs.YtkgkjngbfdnoiaaGreat
end

section
namespace Go.Av
theorem termRow_cells (t : Tm) : termRow t.cells = true := by obtain ⟨k, n, s, l⟩ := t; rw [Tm.cells_mk]; rfl
end Go.Av
namespace Go.Proofs.YtkgkjngbfdnoiaaGreat.R
open Go.Av
theorem overE_ev (k n : Int) (s : List UInt8) : EVz (EV cfg) 20 (.agg [.int .i64 k, .int .i64 n, .str s, .sl []]) = some () := by
 apply Gets.get
 refine overE_run k n s ?_
 refine wra20_0a_step _ _ _ _ _ ?_
 exact ⟨_, rfl, rfl⟩
theorem overT_ev (t : Tm) : t.Ok → EVz (EV cfg) 20 (avR 0 t) = some () := by
 induction t using Tm.ind with
 | _ k n s l ih =>
  intro hok
  have hlen := hok.len
  have loop : ∀ (d i : Nat), i + d = l.length → Gets (wra20_0 (rowsT l) i k n s) (· = ()) := by
   intro d
   induction d with
   | zero =>
    intro i hi
    refine wra20_0_step _ _ _ _ _ ?_
    rw [rowsT_length, decide_eq_false (by omega)]
    exact ⟨_, rfl, rfl⟩
   | succ d ihd =>
    intro i hi
    refine wra20_0_step _ _ _ _ _ ?_
    have hil : i < l.length := by omega
    have hx : l[i]? = some l[i] := List.getElem?_eq_getElem hil
    have h1 := ih l[i] (List.mem_of_getElem? hx) (hok.sub (List.mem_of_getElem? hx))
    unfold avR at h1
    have h := ihd (i + 1) (by omega)
    rw [rowsT_length, decide_eq_true (show (i : Int) < (l.length : Int) by omega), leInt_zero, ltInt_nat, decide_eq_true hil, rowsT_at hx, wrap_succ hil hlen]
    simp only [cond_true, Bool.and_self, length_cells, Nat.beq_refl, kChain, h1, overE_ev, kOptSome, rowsT_at hx, termRow_cells, Bool.and_true]
    exact h.mono fun _ _ => trivial
  apply Gets.get
  unfold avR
  exact overT_run k n s (rowsT l) (loop l.length 0 (by omega))
end Go.Proofs.YtkgkjngbfdnoiaaGreat.R
end

section
namespace Go.Proofs.YtkgkjngbfdnoiaaGreat.R
open Go.Av Go.ChangeShapes Go.WideShapes Go.ChangeAt Go.RowKit
set_option maxRecDepth 100000
theorem copy_ok [Lent] {args : List AV} {H H' : AH} {r : AV} {C : Claims} {μ : MMap} {w : World} {vs : Array Value} (hr : extCopy args H = some (r, H')) (ha : FrRep C μ args vs) (hw : Wld C μ H w) :
  CallR Tryz.prog (callFunc 71 vs) w (Post1 C μ H w r H') := by
 unfold extCopy at hr
 split at hr
 case h_2 => cases hr
 rename_i a b c rows
 split at hr
 case isFalse => cases hr
 rename_i hx
 obtain ⟨t, hok, ht⟩ := hx
 cases hr
 have hμ : μ = fun _ => none := by
  funext id
  cases hm : μ id with
  | none => rfl
  | some m => have := hw.dom id m hm; simp at this
 subst hμ
 have e2 : avR 0 t = .agg [a, b, c, .rsl 0 rows] := by
  obtain ⟨k, n, s, l⟩ := t
  rw [Tm.av_mk] at ht
  simp only [AV.agg.injEq, List.cons.injEq, AV.sl.injEq, and_true] at ht
  obtain ⟨rfl, rfl, rfl, rfl⟩ := ht
  rfl
 have h := copy_reg hok hw (by rw [ht]; exact ha)
 rw [e2] at h
 exact h
theorem cfg_ok [Lent] : CfgOk cfg where
 ty := ⟨fun t ti h => BT.all_look tys_ok h⟩
 mixed := mixed_ok
 named := fun f fn _ h => named_ok f fn h
 ext := fun f s h args H r H' hr C μ w vs ha hw => by
  have h : ext f = some s := h
  unfold ext at h
  split at h
  ·rename_i s' hs
   cases h
   unfold xL at hs
   rw [lookN] at hs
   split at hs
   ·rename_i e
    have e := Nat.eq_of_beq_eq_true e
    subst e
    cases hs
    exact copy_ok hr ha hw
   ·cases hs
  ·split at h
   ·cases h
    exact (EV_sound Go.Proofs.YtkgkjngbfdnoiaaGreat.cfg_ok).calls _ _ _ _ _ hr C μ w vs _ ha hw rfl
   ·exact Go.Proofs.YtkgkjngbfdnoiaaGreat.cfg_ok.ext f s h args H r H' hr C μ w vs ha hw
theorem row_calls {f : FuncId} {args : List AV} {vs : Array Value} {W : World} (hx : cfg.ext f = none) (he : EVs (EV cfg) f args = some (.bool true)) (ha : FrRep (C0 W) M0 args vs) :
  Calls Tryz.prog f vs W fun e W' => e = .returned (.bool true) ∧ (∀ b, b < W.heap.size → W'.heap[b]? = W.heap[b]?) ∧ W.heap.size ≤ W'.heap.size ∧ W'.os = W.os ∧ W'.output = W.output := by
 unfold EVs at he
 obtain ⟨q, h1, h2⟩ := Option.map_eq_some_iff.1 he
 have := EV_calls cfg_ok hx (r := q.1) (H' := q.2) h1 ha (wld0 W)
 refine this.mono fun e W' ⟨v, hv, C', μ', p1, p2, p3⟩ => ?_
 rw [h2] at p1
 cases p1
 refine ⟨hv, fun b hb => (p3.fr b hb not_live_nil).1, p3.size, p3.os, p3.output⟩
theorem copyR_ev {t : Tm} (h : t.Ok) : EVg (EV cfg) 71 [t.av] = some t.av := by
 obtain ⟨k, n, s, l⟩ := t
 have e : EV cfg (.f 71) [(Tm.mk k n s l).av] [] = some (avR 0 (.mk k n s l), [.reg]) := by
  refine EV_of ?_
  unfold evBody
  have hx : cfg.ext 71 = some extCopy := rfl
  simp only [hx]
  rw [Tm.av_mk]
  show extCopy [.agg [.int .i64 k, .int .i64 n, .str s, .sl (rowsT l)]] [] = _
  exact if_pos ⟨_, h, Tm.av_mk k n s l⟩
 unfold EVg
 rw [e, Tm.av_mk]
 rfl
end Go.Proofs.YtkgkjngbfdnoiaaGreat.R
end

section
namespace Go.Proofs.YtkgkjngbfdnoiaaGreat
open Go.Av
theorem r17May_ev (op : List UInt8) (n : Int) : EVs (EV cfg) 93 [.str op, .int .i64 n] = some (.bool (decide (n ∈ opsG op))) := by
 have hl := opsG_len op
 have loop : ∀ d i : Nat, i + d = (opsG op).length → Gets (wu58_0 n (intsR (opsG op)) i) (· = .bool (decide (n ∈ (opsG op).drop i))) := by
  generalize opsG op = l at hl
  intro d
  induction d with
  | zero =>
   intro i hi
   refine wu58_0_step _ _ _ ?_
   rw [intsR_len, decide_eq_false (by omega), List.drop_eq_nil_of_le (by omega)]
   exact ⟨_, rfl, by simp⟩
  | succ d ih =>
   intro i hi
   have hil : i < l.length := by omega
   refine wu58_0_step _ _ _ ?_
   have hx : l[i]? = some l[i] := List.getElem?_eq_getElem hil
   have hd : l.drop i = l[i] :: l.drop (i + 1) := List.drop_eq_getElem_cons hil
   have h := ih (i + 1) (by omega)
   rw [intsR_len, decide_eq_true (show (i : Int) < (l.length : Int) by omega), leInt_zero, ltInt_nat, decide_eq_true hil, get?Internal_eq, Int.toNat_natCast, intsR_get, hx, wrap_succ hil hl, hd]
   by_cases he : l[i] = n
   ·refine ⟨.bool true, ?_, ?_⟩
    ·simp [he]
    ·rw [he]; simp
   ·have hne : (l[i] == n) = false := by rw [beqI]; exact decide_eq_false he
    have hm : decide (n ∈ l[i] :: l.drop (i + 1)) = decide (n ∈ l.drop (i + 1)) := decide_eq_decide.2 (by rw [List.mem_cons]; exact ⟨fun h => h.resolve_left (fun e => he e.symm), Or.inr⟩)
    rw [hm]
    simpa [hne] using h
 apply Gets.get
 refine r17May_run _ _ ?_
 rw [r17Ops_ev]
 exact (by simpa using loop (opsG op).length 0 (by omega))
theorem var_step {k n : Int} {s : List UInt8} {l : List (List AV)} {b : UInt8} {v : Int} {i : Nat} {P : AV → Prop} (hv : 0 ≤ v ∧ v ≤ 9) (hl : s.length ≤ 3) (hb : s[i]? = some b)
  (h : Gets (match digitG b with | none => some (AV.tup [.int .i64 0, .bool false]) | some x => wu55_0 (v * 10 + x) ((i + 1 : Nat) : Int) k n s l) P) : Gets (wu55_0 v i k n s l) P := by
 have hi : i < s.length := (List.getElem?_eq_some_iff.1 hb).1
 refine wu55_0_step _ _ _ _ _ _ ?_
 have hbl := b.toNat_lt
 rw [decide_eq_true (show (i : Int) < (s.length : Int) by omega), leInt_zero]
 simp only [cond_true, get?Internal_eq, Int.toNat_natCast, hb, kOptSome]
 unfold digitG at h
 by_cases h1 : b.toNat < 48
 ·rw [if_pos h1] at h
  rw [decide_eq_true (show (b.toNat : Int) < 48 by omega)]; exact h
 ·rw [if_neg h1] at h
  rw [decide_eq_false (show ¬ (b.toNat : Int) < 48 by omega), cond_false]
  by_cases h2 : b.toNat > 57
  ·rw [if_pos h2] at h
   rw [decide_eq_true (show (b.toNat : Int) > 57 by omega)]; exact h
  ·rw [if_neg h2] at h
   rw [decide_eq_false (show ¬ (b.toNat : Int) > 57 by omega), cond_false]
   have w1 : IntKind.wrap .i64 (10 * v) = v * 10 := by rw [wrap64 (by omega) (by omega)]; omega
   have w2 : IntKind.wrap .u8 ((b.toNat : Int) - 48) = (b.toNat : Int) - 48 := by
    simp [IntKind.wrap, IntKind.bits, IntKind.signed]; omega
   have w3 : IntKind.wrap .i64 ((b.toNat : Int) - 48) = (b.toNat : Int) - 48 := wrap64 (by omega) (by omega)
   have w4 : IntKind.wrap .i64 (v * 10 + ((b.toNat : Int) - 48)) = v * 10 + ((b.toNat : Int) - 48) := wrap64 (by omega) (by omega)
   have w5 : IntKind.wrap .i64 ((i : Int) + 1) = ((i + 1 : Nat) : Int) := wrap_succ (n := 3) (by omega) (by omega)
   rw [w1, w2, w3, w4, w5]
   exact h
theorem var_end {k n : Int} {s : List UInt8} {l : List (List AV)} {v : Int} {i : Nat} (hi : i = s.length) : Gets (wu55_0 v i k n s l) (· = .tup [.int .i64 v, .bool true]) := by
 refine wu55_0_step _ _ _ _ _ _ ?_
 rw [decide_eq_false (by omega)]
 exact ⟨_, rfl, rfl⟩
theorem r16Var_ev {t : Tm} (h : t.w < 1099511627776) : EVs (EV cfg) 162 [t.av] = some (varR (varT t)) := by
 have hc := r02Check_ev h
 apply Gets.get
 rw [Tm.av, Tm.cells_eq] at hc ⊢
 refine r16Var_run _ _ _ _ ?_
 rw [hc]
 unfold varT
 simp only [kOptSome, kInt_int]
 by_cases h2 : t.chk = 0
 ·have e0 : (t.chk != 0) = false := by rw [h2]; rfl
  rw [e0, cond_false]
  by_cases h1 : t.kind = 2
  ·have e1 : (t.kind != 2) = false := by rw [h1]; rfl
   rw [e1, cond_false, if_pos ⟨h1, h2⟩]
   generalize t.str = s
   generalize t.kind = k
   generalize t.num = n
   generalize rowsT t.subs = l
   match s with
   | [] => exact ⟨_, rfl, rfl⟩
   | [a] => exact ⟨_, rfl, rfl⟩
   | a :: b :: c :: d :: l =>
    have h1 : ¬ ((a :: b :: c :: d :: l).length : Int) < 2 := by simp; omega
    have h2 : ((a :: b :: c :: d :: l).length : Int) > 3 := by simp; omega
    rw [decide_eq_false h1, decide_eq_true h2]
    exact ⟨_, rfl, rfl⟩
   | [a, b] =>
    by_cases h : a.toNat = 36
    ·have e : (((a.toNat : Int)) != 36) = false := by rw [h]; rfl
     have hs := var_step (k := k) (n := n) (l := l) (s := [a, b]) (b := b) (v := 0) (i := 1) (P := (· = varR (varG [a, b]))) (by omega) (by simp) rfl (by
      rw [varG2, if_pos h]
      cases hd : digitG b with
      | none => exact ⟨_, rfl, rfl⟩
      | some x =>
       refine (var_end (s := [a, b]) rfl).mono ?_
       rintro _ rfl
       show _ = varR (some x)
       simp [varR])
     show Gets (bif (((a.toNat : Int)) != 36) then _ else _) _
     rw [e]
     exact hs
    ·have e : (((a.toNat : Int)) != 36) = true := by simpa using fun h' => h (by omega)
     show Gets (bif (((a.toNat : Int)) != 36) then _ else _) _
     rw [e]
     refine ⟨_, rfl, ?_⟩
     rw [varG2, if_neg h]; rfl
   | [a, b, c] =>
    by_cases h : a.toNat = 36
    ·have e : (((a.toNat : Int)) != 36) = false := by rw [h]; rfl
     show Gets (bif (((a.toNat : Int)) != 36) then _ else bif (((b.toNat : Int)) == 48) then _ else _) _
     rw [e]
     by_cases hb : b.toNat = 48
     ·have e2 : (((b.toNat : Int)) == 48) = true := by rw [hb]; rfl
      rw [e2]
      refine ⟨_, rfl, ?_⟩
      rw [varG3, if_neg (fun h => h.2 hb)]; rfl
     ·have e2 : (((b.toNat : Int)) == 48) = false := by simpa using fun h' => hb (by omega)
      rw [e2]
      show Gets (wu55_0 0 1 k n [a, b, c] l) _
      refine var_step (s := [a, b, c]) (b := b) (v := 0) (i := 1) (by omega) (by simp) rfl ?_
      rw [varG3, if_pos ⟨h, hb⟩]
      cases hd : digitG b with
      | none => exact ⟨_, rfl, rfl⟩
      | some x =>
       have hx := digitG_in hd
       refine var_step (s := [a, b, c]) (b := c) (i := 2) (by omega) (by simp) rfl ?_
       cases hd2 : digitG c with
       | none => exact ⟨_, rfl, by simp [varR, hd2]⟩
       | some y =>
        refine (var_end (s := [a, b, c]) rfl).mono ?_
        rintro _ rfl
        simp [varR, hd2]
    ·have e : (((a.toNat : Int)) != 36) = true := by simpa using fun h' => h (by omega)
     show Gets (bif (((a.toNat : Int)) != 36) then _ else _) _
     rw [e]
     refine ⟨_, rfl, ?_⟩
     rw [varG3, if_neg (fun h' => h h'.1)]; rfl
  ·have e1 : (t.kind != 2) = true := by simpa using h1
   rw [e1, if_neg (fun h => h1 h.1)]
   exact ⟨_, rfl, rfl⟩
 ·have e0 : (t.chk != 0) = true := by simpa using h2
  rw [e0, if_neg (fun h => h2 h.2)]
  exact ⟨_, rfl, rfl⟩
end Go.Proofs.YtkgkjngbfdnoiaaGreat
end

section
namespace Go.Proofs.YtkgkjngbfdnoiaaGreat
open Go.Av
theorem r17All_of {V : List Int} {l : List Tm} (hlen : l.length < 1099511627776) (ih : ∀ x ∈ l, EVs (EV cfg) 161 [x.av, .sl (intsR V)] = some (.bool (isG V x))) :
  EVs (EV cfg) 235 [.sl (rowsT l), .sl (intsR V)] = some (.bool (allG V l)) := by
 have loop : ∀ d i : Nat, i + d = l.length → Gets (wu57_0 (rowsT l) (intsR V) i) (· = .bool (allG V (l.drop i))) := by
  intro d
  induction d with
  | zero =>
   intro i hi
   refine wu57_0_step _ _ _ ?_
   rw [rowsT_length, decide_eq_false (by omega), List.drop_eq_nil_of_le (by omega)]
   exact ⟨_, rfl, by rw [allG]⟩
  | succ d ihd =>
   intro i hi
   have hil : i < l.length := by omega
   refine wu57_0_step _ _ _ ?_
   have hx : l[i]? = some l[i] := List.getElem?_eq_getElem hil
   have hd : l.drop i = l[i] :: l.drop (i + 1) := List.drop_eq_getElem_cons hil
   have h1 := ih l[i] (List.mem_of_getElem? hx)
   have h2 := ihd (i + 1) (by omega)
   rw [rowsT_length, decide_eq_true (show (i : Int) < (l.length : Int) by omega), leInt_zero, ltInt_nat, decide_eq_true hil, rowsT_at hx, wrap_succ hil hlen, hd, allG]
   simp only [cond_true, Bool.and_self, length_cells, Nat.beq_refl, take_cells, kTmC_cells, show Nat.ble 4 4 = true from rfl, av_unf, h1, kOptSome, kBool_bool]
   cases hg : isG V l[i] with
   | false => exact ⟨_, rfl, rfl⟩
   | true => rw [Bool.true_and]; exact h2
 apply Gets.get
 exact r17All_run _ _ (by simpa using loop l.length 0 (by omega))
theorem r17Is_ev {V : List Int} (hV : V.length < 1099511627776) : ∀ (n : Nat) (t : Tm), t.w ≤ n → n < 1099511627776 → EVs (EV cfg) 161 [t.av, .sl (intsR V)] = some (.bool (isG V t)) := by
 intro n
 induction n with
 | zero => intro t h; have := w_pos t; omega
 | succ n ih =>
  intro t hw hn
  have hwe := t.w_eq
  have hwl := wL_len t.subs
  have allOf : ∀ l : List Tm, wL l ≤ n → EVs (EV cfg) 235 [.sl (rowsT l), .sl (intsR V)] = some (.bool (allG V l)) := fun l hl =>
   r17All_of (by have := wL_len l; omega) fun x hx => ih x (by have := wL_mem hx; omega) (by omega)
  have hvar := r16Var_ev (t := t) (by omega)
  have hsub := allOf t.subs (by omega)
  apply Gets.get
  rw [Tm.av, Tm.cells_eq] at hvar ⊢
  refine r17Is_run _ _ _ _ _ ?_
  rw [hvar, hsub]
  simp only [beqI, kOptSome, kBool_bool]
  simp only [varR, kTup, kCons, kInt_int, kBool_bool, kNil]
  cases hv : varT t with
  | some x =>
   have h2 : t.kind = 2 := by
    unfold varT at hv
    split at hv
    ·rename_i h; exact h.1
    ·cases hv
   have hc := r17In_ev V hV x
   simp only [Option.getD_some, Option.isSome_some, cond_true]
   rw [hc, isG_atom h2, hv]; exact ⟨_, rfl, rfl⟩
  | none =>
   simp only [Option.isSome_none, cond_false]
   by_cases h9 : t.kind = 9
   ·rw [decide_eq_true h9, cond_true, isG_cons h9]; exact ⟨_, rfl, rfl⟩
   ·rw [decide_eq_false h9, cond_false]
    by_cases h7 : t.kind = 7
    ·have e7 : (t.kind != 7) = false := by rw [h7]; rfl
     rw [e7, cond_false]
     cases hl : t.subs with
     | nil => rw [isG_nil h7 hl]; exact ⟨_, rfl, rfl⟩
     | cons f r =>
      rw [isG_tup h7 hl]
      rw [hl] at hwl hwe
      rw [wL_cons] at hwe
      have hfw := f.w_eq
      have hfs := allOf f.subs (by omega)
      have hr := allOf r (by omega)
      have hrl := wL_len r
      have c0 : (decide (((rowsT (f :: r)).length : Int) = 0)) = false := by rw [rowsT_length]; exact decide_eq_false (by simp; omega)
      have c1 : ltInt 0 ((rowsT (f :: r)).length : Int) = true := by rw [rowsT_length]; exact decide_eq_true (by simp)
      have c2 : leInt 1 ((rowsT (f :: r)).length : Int) = true := by rw [rowsT_length]; exact decide_eq_true (by simp; omega)
      have c3 : IntKind.wrap .i64 (((rowsT (f :: r)).length : Int) - 1) = (r.length : Int) := by
       rw [rowsT_length, List.length_cons, wrap64 (by omega) (by omega)]; omega
      have c4 : (decide (((rowsT (f :: r)).length : Int) = 1)) = decide (r.length = 0) := by rw [rowsT_length, List.length_cons]; exact decide_eq_decide.2 (by omega)
      have c5 : (decide (((rowsT (f :: r)).length : Int) = 2)) = decide (r.length = 1) := by rw [rowsT_length, List.length_cons]; exact decide_eq_decide.2 (by omega)
      have g0 : (rowsT (f :: r))[(0 : Int).toNat]? = some f.cells := by rw [rowsT_cons]; rfl
      have g0' : (rowsT (f :: r))[0]? = some f.cells := g0
      have tk : List.take ((rowsT (f :: r)).length - 1) (List.drop 1 (rowsT (f :: r))) = rowsT r := by
       rw [rowsT_cons, List.drop_succ_cons, List.drop_zero, List.length_cons, Nat.add_sub_cancel, List.take_length]
      have hm := r17May_ev f.str (r.length : Int)
      rw [c0, c1, c2, c3, c4, c5, tk]
      simp only [cond_false, cond_true, get?Internal_eq, g0, g0', kOptSome, length_cells, Nat.beq_refl, show Nat.ble 4 4 = true from rfl, take_cells, kTmC_cells, rowsOk_rowsT, beqS, hm, hfs, hr, kBool_bool]
      by_cases f7 : f.kind = 7
      ·have f2 : (f.kind != 2) = true := by rw [f7]; rfl
       rw [if_pos f7, decide_eq_true f7, f2]
       cases decide (r.length = 0) <;> exact ⟨_, rfl, rfl⟩
      ·rw [if_neg f7, decide_eq_false f7, cond_false]
       by_cases f2 : f.kind = 2
       ·have e2 : (f.kind != 2) = false := by rw [f2]; rfl
        rw [if_pos f2, e2, cond_false]
        by_cases hc : f.str = [99, 111, 110, 115, 116]
        ·rw [if_pos hc, decide_eq_true hc]
         cases decide (r.length = 0) <;> exact ⟨_, rfl, rfl⟩
        ·rw [if_neg hc, decide_eq_false hc, cond_false]
         cases decide (r.length = 0) <;> cases decide ((r.length : Int) ∈ opsG f.str) <;> exact ⟨_, rfl, rfl⟩
       ·have e2 : (f.kind != 2) = true := by simpa using f2
        rw [if_neg f2, e2]
        cases decide (r.length = 0) <;> exact ⟨_, rfl, rfl⟩
    ·have e7 : (t.kind != 7) = true := by simpa using h7
     rw [e7]
     by_cases h2 : t.kind = 2
     ·rw [isG_atom h2, hv]; exact ⟨_, rfl, rfl⟩
     ·rw [isG_other h2 h9 h7]; exact ⟨_, rfl, rfl⟩
theorem r17Check_ev {V : List Int} (hV : V.length < 1099511627776) {t : Tm} (h : t.w < 1099511627776) : EVs (EV cfg) 73 [t.av, .sl (intsR V)] = some (.int .i64 (checkG V t)) := by
 have hc := r02Check_ev h
 have hi := r17Is_ev hV t.w t (Nat.le_refl _) h
 apply Gets.get
 rw [Tm.av, Tm.cells_eq] at hc hi ⊢
 refine r17Check_run _ _ _ _ _ ?_
 rw [hc, hi]
 unfold checkG
 simp only [kOptSome, kInt_int, kBool_bool]
 by_cases h0 : t.chk = 0
 ·have : (t.chk != 0) = false := by rw [h0]; rfl
  rw [this, if_pos h0]
  cases isG V t <;> exact ⟨_, rfl, rfl⟩
 ·have : (t.chk != 0) = true := by simpa using h0
  rw [this, if_neg h0]; exact ⟨_, rfl, rfl⟩
end Go.Proofs.YtkgkjngbfdnoiaaGreat
end

section
namespace Go.Av
def evalR (r : Tm × Int) : AV := .tup [r.1.av, .int .i64 r.2]
theorem kEvalR {α : Type} (t : Tm) (x : Int) (K : Int → Int → List UInt8 → List (List AV) → Int → Option α) : (kTup (.tup [t.av, .int .i64 x]) fun cs => kCons cs fun c cs => kAgg c fun cs_1 => kCons cs_1 fun c cs_2 => kInt .i64 c fun n => kCons cs_2 fun c cs_3 => kInt .i64 c fun n_1 => kCons cs_3 fun c cs_4 => kStr c fun s => kCons cs_4 fun c cs_5 => kSl c fun rows => kNil cs_5 (kCons cs fun c cs => kInt .i64 c fun m => kNil cs (K n n_1 s rows m))) = K t.kind t.num t.str (rowsT t.subs) x := by
 obtain ⟨k, n, s, l⟩ := t
 rw [Tm.av_mk]; rfl
structure EnvW (e : Env) : Prop where
 obj : e.obj.w < 1099511627776
 len : e.binds.length < 1099511627776
 binds : ∀ p ∈ e.binds, p.2.w < 1099511627776
end Go.Av
namespace Go.Proofs.YtkgkjngbfdnoiaaGreat
open Go.Av
end Go.Proofs.YtkgkjngbfdnoiaaGreat
end

section
namespace Go.Av
def vlR (o : Option (List Tm)) : AV := .tup [.sl (rowsT (o.getD [])), .bool o.isSome]
theorem kVl {α : Type} (l : List Tm) (b : Bool) (K : List (List AV) → Bool → Option α) : (kTup (.tup [.sl (rowsT l), .bool b]) fun cs => kCons cs fun c cs => kSl c fun rows => kCons cs fun c cs => kBool c fun b => kNil cs (K rows b)) = K (rowsT l) b := rfl
theorem kBB {α : Type} (x y : Bool) (K : Bool → Bool → Option α) : (kTup (.tup [.bool x, .bool y]) fun cs => kCons cs fun c cs => kBool c fun b => kCons cs fun c cs => kBool c fun b' => kNil cs (K b b')) = K x y := rfl
end Go.Av
namespace Go.Proofs.YtkgkjngbfdnoiaaGreat
open Go.Av
theorem r17Values_of {e : Env} {l : List Tm} (hlen : l.length < 1099511627776) (ih : ∀ x ∈ l, Gets (EVf (EV cfg) 75 [x.av, envR e.obj e.binds e.self]) (RB (valG e x))) :
  EVf (EV cfg) 166 [.sl (rowsT l), envR e.obj e.binds e.self] = some (vlR (seqO (optsG e l))) := by
 have loop : ∀ (d i : Nat) (acc : List Tm), i + d = l.length → acc.length = i → Gets (wy65_0 (rowsT l) i i e.obj.kind e.obj.num e.obj.str (rowsT e.obj.subs) (bindsR e.binds) e.self (rowsT acc)) (· = vlR ((seqO (optsG e (l.drop i))).map (acc ++ ·))) := by
  intro d
  induction d with
  | zero =>
   intro i acc hi ha
   refine wy65_0_step _ _ _ _ _ _ _ _ _ _ ?_
   have hb : Nat.ble (0 + i) (rowsT acc).length = true := by rw [Nat.ble_eq, rowsT_length]; omega
   have ht : List.take i (rowsT acc) = rowsT acc := List.take_of_length_le (by rw [rowsT_length]; omega)
   rw [rowsT_length, decide_eq_false (by omega), List.drop_eq_nil_of_le (by omega), hb, ht]
   refine ⟨_, rfl, ?_⟩
   simp [optsG, seqO, vlR]
  | succ d ihd =>
   intro i acc hi ha
   have hil : i < l.length := by omega
   refine wy65_0_step _ _ _ _ _ _ _ _ _ _ ?_
   have hx : l[i]? = some l[i] := List.getElem?_eq_getElem hil
   have h1 := ih l[i] (List.mem_of_getElem? hx)
   have e3 : Nat.ble (0 + i) (rowsT acc).length = true := by rw [Nat.ble_eq, rowsT_length]; omega
   have ht : List.take i (rowsT acc) = rowsT acc := List.take_of_length_le (by rw [rowsT_length]; omega)
   rw [rowsT_length, decide_eq_true (show (i : Int) < (l.length : Int) by omega), leInt_zero, ltInt_nat, decide_eq_true hil, rowsT_at hx, wrap_succ hil hlen, e3, ht, fits56 (by omega), List.drop_eq_getElem_cons hil]
   simp only [cond_true, Bool.and_self, length_cells, Nat.beq_refl, take_cells, kTmC_cells, ble44, av_unf]
   refine Gets.bind h1 ?_
   rintro _ ⟨t, rfl, ht⟩
   simp only [kTB]
   rw [optsG, seqO]
   cases hv : valG e l[i] with
   | none =>
    refine ⟨_, rfl, ?_⟩
    simp [vlR]
   | some x =>
    rw [ht x hv, Option.bind_some]
    have h2 := ihd (i + 1) (acc ++ [x]) (by omega) (by simp; omega)
    have e2 : List.append (rowsT acc) [x.cells] = rowsT (acc ++ [x]) := by rw [rowsT_append, rowsT_cons, rowsT_nil]; rfl
    simp only [Option.isSome_some, Bool.not_true, cond_false]
    rw [← Tm.cells_eq, e2]
    refine Gets.mono h2 ?_
    rintro _ rfl
    cases seqO (optsG e (l.drop (i + 1))) <;> simp
 apply Gets.get
 unfold envR
 refine r17Values_run _ _ _ _ _ _ _ ?_
 have h := loop l.length 0 [] (by omega) rfl
 rw [rowsT_nil] at h
 refine Gets.mono h ?_
 rintro _ rfl
 rw [List.drop_zero]
 cases seqO (optsG e l) <;> simp
theorem whole_stepR {t : Tm} {o : Option Tm} (h : ∀ x, o = some x → t = x) (hw : t.w < 1099511627776) : Gets (kOpt (EVf (EV cfg) 164 [t.av, .bool o.isSome]) fun (v : AV) => kTup v fun (cs : List AV) => kCons cs fun (c : AV) (cs : List AV) => kAgg c fun (cs_1 : List AV) => kCons cs_1 fun (c : AV) (cs_2 : List AV) => kInt .i64 c fun (n : Int) => kCons cs_2 fun (c : AV) (cs_3 : List AV) => kInt .i64 c fun (n_1 : Int) => kCons cs_3 fun (c : AV) (cs_4 : List AV) => kStr c fun (s : List UInt8) => kCons cs_4 fun (c : AV) (cs_5 : List AV) => kSl c fun (rows : List (List AV)) => kNil cs_5 (kCons cs fun (c : AV) (cs : List AV) => kBool c fun (b : Bool) => kNil cs (some (AV.tup [.agg [.int .i64 n, .int .i64 n_1, .str s, .sl rows], .bool b])))) (RB (o.bind wholeO)) := by
 rw [r17Whole_ev h hw]
 simp only [kOptSome, tbR_eq, kTB, av_unf]
 exact ⟨_, rfl, RB.of⟩
theorem vals_wholeR {e : Env} (he : EnvOk e) {l : List Tm} (k : Int) (hlen : l.length ≤ 64) (hl : ∀ x ∈ l, x.chk = 0 ∧ isG (namesG e) x = true)
  (hv : EVf (EV cfg) 166 [.sl (rowsT l), envR e.obj e.binds e.self] = some (vlR (seqO (optsG e l)))) :
  Gets (kOpt (EVf (EV cfg) 166 [.sl (rowsT l), envR e.obj e.binds e.self]) fun (v : AV) => kTup v fun (cs : List AV) => kCons cs fun (c : AV) (cs : List AV) => kSl c fun (rows : List (List AV)) => kCons cs fun (c : AV) (cs : List AV) => kBool c fun (b : Bool) => kNil cs (kOpt (EVf (EV cfg) 164 [.agg [.int .i64 k, .int .i64 0, .str [], .sl rows], .bool b]) fun (v : AV) => kTup v fun (cs : List AV) => kCons cs fun (c : AV) (cs : List AV) => kAgg c fun (cs_1 : List AV) => kCons cs_1 fun (c : AV) (cs_2 : List AV) => kInt .i64 c fun (n : Int) => kCons cs_2 fun (c : AV) (cs_3 : List AV) => kInt .i64 c fun (n_1 : Int) => kCons cs_3 fun (c : AV) (cs_4 : List AV) => kStr c fun (s : List UInt8) => kCons cs_4 fun (c : AV) (cs_5 : List AV) => kSl c fun (rows : List (List AV)) => kNil cs_5 (kCons cs fun (c : AV) (cs : List AV) => kBool c fun (b : Bool) => kNil cs (some (AV.tup [.agg [.int .i64 n, .int .i64 n_1, .str s, .sl rows], .bool b]))))) (RB ((seqO (optsG e l)).bind fun ts => wholeO (.mk k 0 [] ts))) := by
 rw [hv]
 simp only [kOptSome, vlR, kVl, agg_mk]
 have hw : (Tm.mk k 0 [] ((seqO (optsG e l)).getD [])).w < 1099511627776 := by
  rw [Tm.w_mk]
  cases ho : seqO (optsG e l) with
  | none => simp
  | some ts =>
   have h1 := wL_bound (seqO_chk he hl ho)
   have h2 := seqO_len ho
   have h3 : ts.length * 4259840 ≤ 64 * 4259840 := Nat.mul_le_mul_right _ (by omega)
   simp only [Option.getD_some, List.length_nil]; omega
 have h := whole_stepR (o := (seqO (optsG e l)).map fun ts => .mk k 0 [] ts) (t := .mk k 0 [] ((seqO (optsG e l)).getD [])) (fun x hx => by
  obtain ⟨ts, h1, rfl⟩ := Option.map_eq_some_iff.1 hx
  rw [h1]; rfl) hw
 rw [Option.isSome_map] at h
 refine Gets.mono h ?_
 intro v hv
 cases hs : seqO (optsG e l) <;> rw [hs] at hv <;> exact hv
theorem r17Lazy_of {e : Env} {op : List UInt8} {a b : Tm} {q : List Tm} (iha : Gets (EVf (EV cfg) 75 [a.av, envR e.obj e.binds e.self]) (RB (valG e a))) (ihb : Gets (EVf (EV cfg) 75 [b.av, envR e.obj e.binds e.self]) (RB (valG e b))) :
  Gets (EVf (EV cfg) 167 [.str op, .sl (rowsT (a :: b :: q)), envR e.obj e.binds e.self]) (RB (lazyG (decide (op = [97, 110, 100, 97, 108, 115, 111])) (optsG e (a :: b :: q)))) := by
 unfold envR at *
 refine r17Lazy_run _ _ _ _ _ _ _ _ ?_
 unfold zd51 zd0
 rw [← zeroT_av, lt0T, get0T, lt1T, get1T]
 simp only [cond_true, kOptSome, length_cells, Nat.beq_refl, ble44, take_cells, kTmC_cells, av_unf, optsG, lazyG]
 refine Gets.bind iha ?_
 rintro _ ⟨x, rfl, hx⟩
 simp only [kTB, av_unf, r17Truths_ev, kOptSome, kBB, beqS]
 cases hva : valG e a with
 | none => exact ⟨_, rfl, _, rfl, fun y hy => by cases hy⟩
 | some y =>
  obtain rfl := hx y hva
  simp only [Option.isSome_some, Bool.not_true, cond_false, Option.bind_some]
  cases hb : boolG x with
  | none => exact ⟨_, rfl, _, rfl, fun y hy => by cases hy⟩
  | some v =>
   simp only [Option.isSome_some, Bool.not_true, cond_false, Option.getD_some, Option.bind_some]
   by_cases hd : v = decide (op = [97, 110, 100, 97, 108, 115, 111])
   ·rw [if_pos hd, ← hd, beq_self_eq_true]
    simp only [Bool.not_true, cond_false]
    refine Gets.bind ihb ?_
    rintro _ ⟨z, rfl, hz⟩
    simp only [kTB, av_unf, r17Truths_ev, kOptSome, kBB]
    cases hvb : valG e b with
    | none => exact ⟨_, rfl, _, rfl, fun y hy => by cases hy⟩
    | some y =>
     obtain rfl := hz y hvb
     simp only [Option.isSome_some, cond_true, Option.bind_some]
     refine ⟨_, rfl, z, by rw [Option.isSome_map], fun w hw => ?_⟩
     obtain ⟨_, _, rfl⟩ := Option.map_eq_some_iff.1 hw
     rfl
   ·rw [if_neg hd, beq_eq_false_iff_ne.2 hd]
    exact ⟨_, rfl, _, rfl, fun y hy => by cases hy; rfl⟩
end Go.Proofs.YtkgkjngbfdnoiaaGreat
end

section
namespace Go.Av
theorem kIB {α : Type} (x : Int) (y : Bool) (K : Int → Bool → Option α) : (kTup (.tup [.int .i64 x, .bool y]) fun cs => kCons cs fun c cs => kInt .i64 c fun n => kCons cs fun c cs => kBool c fun b => kNil cs (K n b)) = K x y := rfl
end Go.Av
namespace Go.Proofs.YtkgkjngbfdnoiaaGreat
open Go.Av
theorem boundR {e : Env} (he : EnvOk e) : Gets (wy29_0 0 0 e.obj.kind e.obj.num e.obj.str (rowsT e.obj.subs) (bindsR e.binds) e.self 0 0 [] [] []) (RB (wholeO (listT (e.binds.map (·.2))))) := by
 have hlen : e.binds.length < 1099511627776 := by have := he.len; omega
 have loop : ∀ (d i : Nat), i + d = e.binds.length → Gets (wy29_0 i i e.obj.kind e.obj.num e.obj.str (rowsT e.obj.subs) (bindsR e.binds) e.self 0 0 [] [] (rowsT ((e.binds.take i).map (·.2)))) (RB (wholeO (listT (e.binds.map (·.2))))) := by
  intro d
  induction d with
  | zero =>
   intro i hi
   refine wy29_0_step _ _ _ _ _ _ _ _ _ _ _ _ _ ?_
   unfold zd14 zd15 zd16 zd17
   obtain rfl : i = e.binds.length := by omega
   have hb : Nat.ble (0 + e.binds.length) (rowsT ((e.binds.take e.binds.length).map (·.2))).length = true := by rw [Nat.ble_eq, rowsT_length, List.length_map, List.length_take]; omega
   have ht : List.take e.binds.length (rowsT ((e.binds.take e.binds.length).map (·.2))) = rowsT (e.binds.map (·.2)) := by
    rw [List.take_of_length_le (by rw [rowsT_length, List.length_map, List.length_take]; omega), List.take_length]
   have hm := r17List_ev (l := e.binds.map (·.2)) (by rw [List.length_map]; exact hlen)
   rw [bindsR_len, decide_eq_false (by omega), hb, ht]
   simp only [cond_false, cond_true, Bool.and_true, hm, kOptSome, kTmV_av, av_unf]
   rw [listT_makeG]
   have h1 := listT_w (e.binds.map (·.2))
   have h3 := wL_bound (l := e.binds.map (·.2)) (fun x hx => by
    obtain ⟨p, hp, rfl⟩ := List.mem_map.1 hx
    exact mayB_chk he.may p hp)
   rw [List.length_map] at h1 h3
   have h4 : e.binds.length * 4259840 ≤ 100 * 4259840 := Nat.mul_le_mul_right _ he.len
   exact whole_stepR (o := some (listT (e.binds.map (·.2)))) (fun x hx => by cases hx; rfl) (by omega)
  | succ d ih =>
   intro i hi
   refine wy29_0_step _ _ _ _ _ _ _ _ _ _ _ _ _ ?_
   unfold zd14 zd15 zd16 zd17
   have hil : i < e.binds.length := by omega
   have hx : e.binds[i]? = some e.binds[i] := List.getElem?_eq_getElem hil
   have h := ih (i + 1) (by omega)
   have e1 : (e.binds.take (i + 1)).map (·.2) = (e.binds.take i).map (·.2) ++ [e.binds[i].2] := by
    have ht : e.binds.take (i + 1) = e.binds.take i ++ [e.binds[i]] := by rw [List.take_add_one, hx]; rfl
    rw [ht, List.map_append]; rfl
   have hl0 : (rowsT ((e.binds.take i).map (·.2))).length = i := by rw [rowsT_length, List.length_map, List.length_take]; omega
   have e2 : List.append (List.take i (rowsT ((e.binds.take i).map (·.2)))) [e.binds[i].2.cells] = rowsT ((e.binds.take (i + 1)).map (·.2)) := by
    rw [List.take_of_length_le (by omega), e1, rowsT_append, rowsT_cons, rowsT_nil]; rfl
   have e3 : Nat.ble (0 + i) (rowsT ((e.binds.take i).map (·.2))).length = true := by rw [hl0, Nat.ble_eq]; omega
   rw [bindsR_len, decide_eq_true (show (i : Int) < (e.binds.length : Int) by omega), leInt_zero, ltInt_nat, decide_eq_true hil, get?Internal_eq, Int.toNat_natCast, bindsR_get, hx, wrap_succ hil hlen]
   simp only [Option.map_some, cond_true, Bool.and_self, kOptSome, List.length_cons, length_cells, show Nat.beq (4 + 1) 5 = true from rfl, show Nat.ble 5 (4 + 1) = true from rfl, List.drop_succ_cons, List.drop_zero, take_cells, kChain, e3, fits56 (show i + 1 ≤ 1099511627776 by omega)]
   rw [← Tm.cells_eq, e2]
   exact h
 have h := loop e.binds.length 0 (by omega)
 rw [List.take_zero, List.map_nil, rowsT_nil] at h
 exact h
theorem r17Value_ev {e : Env} (he : EnvOk e) : ∀ (n : Nat) (t : Tm), t.w ≤ n → t.chk = 0 → isG (namesG e) t = true → Gets (EVf (EV cfg) 75 [t.av, envR e.obj e.binds e.self]) (RB (valG e t)) := by
 intro n
 induction n with
 | zero => intro t h; have := w_pos t; omega
 | succ n ih =>
  intro t hw hc hg
  have hwe := t.w_eq
  have hwc := w_chk hc
  have hvar := r16Var_ev (t := t) (by omega)
  have hbl := he.len
  have hbw : ∀ p ∈ e.binds, p.2.w < 1099511627776 := fun p hp => by have := w_chk (mayB_chk he.may p hp); omega
  have vals : ∀ l : List Tm, l.length ≤ 64 → (∀ x ∈ l, x.w ≤ n ∧ x.chk = 0 ∧ isG (namesG e) x = true) → EVf (EV cfg) 166 [.sl (rowsT l), envR e.obj e.binds e.self] = some (vlR (seqO (optsG e l))) := by
   intro l hlen hl
   exact r17Values_of (by omega) fun x hx => ih x (hl x hx).1 (hl x hx).2.1 (hl x hx).2.2
  have same : Gets (some (AV.tup [t.av, .bool true])) (RB (some t)) := ⟨_, rfl, RB.of⟩
  unfold envR at *
  rw [Tm.av, Tm.cells_eq] at hvar ⊢
  refine r17Value_run _ _ _ _ _ _ _ _ _ _ ?_
  unfold zd124 zd125 zd126 zd127 zd128 zd129 zd130 zd93 zd94 zd95 zd96 zd97 zd98 zd99 zd100 zd101 zd102 zd103 zd104 zd105 zd106 zd107 zd108 zd109 zd110 zd111 zd112 zd113 zd114 zd115 zd116 zd117 zd118 zd119 zd120 zd121 zd122 zd123 zd92 zd84 zd85 zd86 zd87 zd88 zd89 zd90 zd91 zd51 zd2 zd3 zd4 zd5 zd6 zd7 zd8 zd9 zd10 zd11 zd12 zd13 zd14 zd15 zd16 zd17 zd0
  rw [hvar, ← zeroT_av]
  have b7 : (t.kind != 7) = !decide (t.kind = 7) := by rw [bne, beqI]
  simp only [beqI, beqS, kOptSome, b7, varR, kIB]
  have hsub : ∀ x ∈ t.subs, x.w ≤ n ∧ x.chk = 0 := fun x hx => by
   have := wL_mem hx
   exact ⟨by omega, chk_sub hc hx⟩
  have hvk : ∀ x, varT t = some x → t.kind = 2 := by
   intro x hx
   unfold varT at hx
   split at hx
   ·rename_i h; exact h.1
   ·cases hx
  by_cases h2 : t.kind = 2
  ·rw [decide_eq_true h2, decide_eq_false (show ¬ t.kind = 9 by omega), decide_eq_false (show ¬ t.kind = 7 by omega), valG_atom h2]
   rw [isG_atom h2] at hg
   cases hx : varT t with
   | some x =>
    rw [hx] at hg
    obtain ⟨y, hy⟩ := lookB_some (of_decide_eq_true hg)
    have hf := r16Find_ev (L := e.binds) (by omega) hbw he.may x
    simp only [Option.isSome_some, Option.getD_some, cond_true, hf, kOptSome, hy, tbR_eq, kTB, av_unf]
    exact ⟨_, rfl, RB.of⟩
   | none =>
    simp only [Option.isSome_none, cond_false, cond_true]
    by_cases s1 : t.str = [36, 95]
    ·rw [if_pos s1, decide_eq_true s1, cond_true, av_unf]; exact ⟨_, rfl, RB.of⟩
    rw [if_neg s1, decide_eq_false s1, cond_false]
    by_cases s2 : t.str = [36, 36]
    ·rw [if_pos s2, decide_eq_true s2, cond_true]
     exact boundR he
    rw [if_neg s2, decide_eq_false s2, cond_false, av_unf]; exact same
  have hv0 : varT t = none := by
   cases hx : varT t with
   | none => rfl
   | some x => exact absurd (hvk x hx) h2
  rw [hv0, decide_eq_false h2]
  simp only [Option.isSome_none, cond_false]
  by_cases h9 : t.kind = 9
  ·rw [decide_eq_true h9, cond_true, valG_cons h9]
   rw [isG_cons h9] at hg
   have hall := allG_mem hg
   exact vals_wholeR he 9 (subs_chk hc) (fun x hx => ⟨(hsub x hx).2, hall x hx⟩) (vals t.subs (subs_chk hc) fun x hx => ⟨(hsub x hx).1, (hsub x hx).2, hall x hx⟩)
  rw [decide_eq_false h9, cond_false]
  by_cases h7 : t.kind = 7
  ·rw [decide_eq_true h7]
   simp only [Bool.not_true, cond_false]
   cases hl : t.subs with
   | nil => rw [isG_nil h7 hl] at hg; cases hg
   | cons f r =>
    have hf := hsub f (by rw [hl]; simp)
    have hr : ∀ x ∈ r, x.w ≤ n ∧ x.chk = 0 := fun x hx => hsub x (by rw [hl]; simp [hx])
    have hlen := subs_chk hc
    rw [hl, List.length_cons] at hlen
    rw [valG_tup h7 hl]
    rw [isG_tup h7 hl] at hg
    have c2 : leInt 1 ((rowsT (f :: r)).length : Int) = true := by rw [rowsT_length]; exact decide_eq_true (by simp; omega)
    have tk : List.take ((rowsT (f :: r)).length - 1) (List.drop 1 (rowsT (f :: r))) = rowsT r := by
     rw [rowsT_cons, List.drop_succ_cons, List.drop_zero, List.length_cons, Nat.add_sub_cancel, List.take_length]
    rw [c2, tk]
    simp only [cond_true, lt0T, get0T, kOptSome, length_cells, Nat.beq_refl, ble44, take_cells, kTmC_cells, rowsOk_rowsT, beqI, beqS]
    by_cases f7 : f.kind = 7
    ·rw [if_pos f7] at hg ⊢
     rw [decide_eq_true f7, cond_true]
     rw [Bool.and_eq_true] at hg
     have hall := allG_mem hg.2
     have fs := subs_chk hf.2
     have hfs : ∀ x ∈ f.subs, x.w ≤ n ∧ x.chk = 0 := fun x hx => by
      have h1 := wL_mem hx
      have h2 := f.w_eq
      exact ⟨by have := hf.1; omega, chk_sub hf.2 hx⟩
     exact vals_wholeR he 7 fs (fun x hx => ⟨(hfs x hx).2, hall x hx⟩) (vals f.subs fs fun x hx => ⟨(hfs x hx).1, (hfs x hx).2, hall x hx⟩)
    rw [if_neg f7] at hg ⊢
    rw [decide_eq_false f7, cond_false]
    by_cases f2 : f.kind = 2
    ·rw [if_pos f2] at hg
     by_cases hk : f.str = [99, 111, 110, 115, 116]
     ·rw [if_pos hk] at hg ⊢
      rw [decide_eq_true hk, cond_true]
      match r, of_decide_eq_true hg with
      | [a], _ =>
       simp only [lt1T, get1T, cond_true, kOptSome, length_cells, Nat.beq_refl, ble44, take_cells, kTmC_cells, av_unf]
       exact ⟨_, rfl, RB.of⟩
     rw [if_neg hk] at hg ⊢
     rw [decide_eq_false hk, cond_false]
     rw [Bool.and_eq_true] at hg
     have hrg := allG_mem hg.2
     have hop := of_decide_eq_true hg.1
     have lz : ∀ s : List UInt8, f.str = s → opsG s = [2] → Gets (kOpt (EVf (EV cfg) 167 [.str f.str, .sl (rowsT r), .agg [.int .i64 e.obj.kind, .int .i64 e.obj.num, .str e.obj.str, .sl (rowsT e.obj.subs), .sl (bindsR e.binds), .int .i64 e.self]]) fun (v : AV) => kTup v fun (cs : List AV) => kCons cs fun (c : AV) (cs : List AV) => kAgg c fun (cs_1 : List AV) => kCons cs_1 fun (c : AV) (cs_2 : List AV) => kInt .i64 c fun (n : Int) => kCons cs_2 fun (c : AV) (cs_3 : List AV) => kInt .i64 c fun (n_2 : Int) => kCons cs_3 fun (c : AV) (cs_4 : List AV) => kStr c fun (s : List UInt8) => kCons cs_4 fun (c : AV) (cs_5 : List AV) => kSl c fun (rows : List (List AV)) => kNil cs_5 (kCons cs fun (c : AV) (cs : List AV) => kBool c fun (b : Bool) => kNil cs (some (AV.tup [.agg [.int .i64 n, .int .i64 n_2, .str s, .sl rows], .bool b])))) (RB (lazyG (decide (f.str = [97, 110, 100, 97, 108, 115, 111])) (optsG e r))) := by
      intro s hs h2
      have hl2 : r.length = 2 := by
       rw [hs, h2] at hop
       simp at hop; omega
      match r, hr, hrg with
      | [], _, _ => simp at hl2
      | [a], _, _ => simp at hl2
      | a :: b :: q, hr, hrg =>
       have ra := hr a (by simp)
       have rb := hr b (by simp)
       refine Gets.bind (r17Lazy_of (q := q) (ih a ra.1 ra.2 (hrg a (by simp))) (ih b rb.1 rb.2 (hrg b (by simp)))) ?_
       rintro _ ⟨x, rfl, hx⟩
       simp only [kTB, av_unf]
       exact ⟨_, rfl, x, rfl, hx⟩
     by_cases ha : f.str = [97, 110, 100, 97, 108, 115, 111]
     ·have := lz _ ha (by decide)
      rw [if_pos ha, decide_eq_true ha]
      rw [decide_eq_true ha] at this
      exact this
     rw [if_neg ha]
     by_cases hb : f.str = [111, 114, 101, 108, 115, 101]
     ·have := lz _ hb (by decide)
      rw [decide_eq_false ha] at this
      rw [if_pos hb, decide_eq_false ha, decide_eq_true hb]
      exact this
     rw [if_neg hb, decide_eq_false ha, decide_eq_false hb]
     simp only [cond_false]
     rw [vals r (by omega) fun x hx => ⟨(hr x hx).1, (hr x hx).2, hrg x hx⟩]
     simp only [kOptSome, vlR, kVl]
     cases ho : seqO (optsG e r) with
     | none => exact ⟨_, rfl, RB.of⟩
     | some ts =>
      have hts := seqO_chk he (fun x hx => ⟨(hr x hx).2, hrg x hx⟩) ho
      have hlt := seqO_len ho
      have h2 := opsG_two _ hop
      rw [← hlt] at hop h2
      simp only [Option.isSome_some, Bool.not_true, cond_false, Option.getD_some, r17Apply_ev hop hts h2, kOptSome, tbR_eq, kTB, av_unf, Option.bind_some]
      refine whole_stepR (fun x hx => by rw [hx]; rfl) ?_
      cases hap : applyG f.str ts e.self with
      | none => simp [zeroT, Tm.w_mk]
      | some z => exact applyG_w hts h2 hap
    ·rw [if_neg f2] at hg; cases hg
  ·rw [decide_eq_false h7, valG_other h2 h9 h7]
   simp only [Bool.not_false, cond_true, av_unf]; exact same
theorem r17Env_ev {e : Env} (he : EnvW e) : EVs (EV cfg) 72 [envR e.obj e.binds e.self] = some (.bool (envG e)) := by
 have hc := r02Check_ev he.obj
 apply Gets.get
 unfold envR
 rw [Tm.av, Tm.cells_eq] at hc
 refine r17Env_run _ _ _ _ _ _ ?_
 rw [hc, r16May_ev he.len he.binds, r17Self_ev]
 simp only [kOptSome, kInt_int, kBool_bool, beqI]
 unfold envG
 cases decide (e.obj.chk = 0) <;> cases mayB (-1) e.binds <;> exact ⟨_, rfl, rfl⟩
theorem r17Eval_ev {e : Env} (he : EnvW e) {t : Tm} (ht : t.w < 1099511627776) : EVf (EV cfg) 18 [t.av, envR e.obj e.binds e.self] = some (evalR (evalG e t)) := by
 have hn := r17Names_ev he.len
 have hen := r17Env_ev he
 have hck := r17Check_ev (V := namesG e) (by unfold namesG; rw [List.length_map]; exact he.len) ht
 have hv : EnvOk e → t.chk = 0 → isG (namesG e) t = true → _ := fun h1 => r17Value_ev h1 t.w t (Nat.le_refl _)
 have bne0 : ∀ z : Int, (z != 0) = !decide (z = 0) := fun z => by rw [bne, beqI]
 apply Gets.get
 unfold evalR evalG
 unfold envR at *
 rw [Tm.av, Tm.cells_eq] at hck hv ⊢
 refine r17Eval_run _ _ _ _ _ _ _ _ _ _ ?_
 rw [hen, hn, ← zeroT_av]
 have hnn : e.binds.map (·.1) = namesG e := rfl
 simp only [kOptSome, kBool_bool, kSl_sl, hnn, hck, kInt_int, bne0]
 cases heg : envG e with
 | false => exact ⟨_, rfl, rfl⟩
 | true =>
  by_cases h0 : checkG (namesG e) t = 0
  ·obtain ⟨h1, h2⟩ := checkG_zero h0
   rw [decide_eq_true h0]
   simp only [Bool.not_true, cond_false, Bool.and_true, if_true]
   refine Gets.bind (hv (envG_ok.1 heg) h1 h2) ?_
   rintro _ ⟨x, rfl, hx⟩
   simp only [kTB, av_unf]
   cases hvv : valG e t with
   | none => exact ⟨_, rfl, rfl⟩
   | some v =>
    obtain rfl := hx v hvv
    have hcw := w_chk (valG_chk (envG_ok.1 heg) _ t (Nat.le_refl _) h1 h2 x hvv)
    simp only [Option.isSome_some, Bool.not_true, cond_false, r02Copy_ev x (by omega), kOptSome, kTmV_av, av_unf]
    exact ⟨_, rfl, rfl⟩
  ·rw [decide_eq_false h0]
   exact ⟨_, rfl, rfl⟩
end Go.Proofs.YtkgkjngbfdnoiaaGreat
end

section
namespace Go.Proofs.YtkgkjngbfdnoiaaGreat
open Go.Av
set_option maxRecDepth 100000
set_option maxHeartbeats 0

noncomputable def La31_0 : Den := evC cfg (EV cfg) 77 none 0 (sub (bodyOf Tryz.f77) [1, 1, 0, 1, 0, 0])
noncomputable def Aa31_0 : Ex × List AV × AH → Option AV := kAft (Cfg.keepOut cfg 77 4) (kRun cfg (EV cfg) (kfN cfg 6) 77 none 0 (kFinS cfg (Cfg.lift cfg 77 0) Tryz.f77.results.toList) ([.block 0, .seq (sub (bodyOf Tryz.f77) [1, 1, 1])]))
noncomputable def Wa31_0 : List AV × AH → Option AV := fun p => kOpt (LOOP 0 (some [0, 1, 5]) ([]) La31_0 p) Aa31_0
noncomputable abbrev wa31_0 (A B : List (List AV)) (v5 : Int) : Option (AV) := Wa31_0  (((fx 42 [(0, .sl A), (1, .sl B), (5, .int .i64 v5)]) : List AV), ([] : AH))
theorem law17Same_run (ke ne : Int) (se : List UInt8) (le bd : List (List AV)) (self ko no : Int) (so : List UInt8) (lo bo : List (List AV)) (sel : Int) {P : AV → Prop} (h : Gets (kOpt (EVs (EV cfg) 19 [.agg [AV.int .i64 ke, .int .i64 ne, .str se, .sl le], .agg [AV.int .i64 ko, .int .i64 no, .str so, .sl lo]]) fun v => kBool v fun b => bif b then kOpt (EVs (EV cfg) 77 [.sl bd, .sl bo]) fun v => kBool v fun b => bif b then some (.bool (self == sel)) else some (.bool false) else some (.bool false)) P) : Gets (EVs (EV cfg) 21 ([AV.agg [AV.int IntKind.i64 ke, AV.int IntKind.i64 ne, AV.str se, AV.sl le, AV.sl bd, AV.int IntKind.i64 self], AV.agg [AV.int IntKind.i64 ko, AV.int IntKind.i64 no, AV.str so, AV.sl lo, AV.sl bo, AV.int IntKind.i64 sel]] : List AV)) P :=
  Gets.ev (fun _ h => funS rfl rfl Tryz.func21 rfl h) (Gets.eq (by kernel_rfl) h)
theorem sameBinds_run (A B : List (List AV)) {P : AV → Prop} (h : Gets (bif (A.length : Int) != (B.length : Int) then some (.bool false) else wa31_0 A B 0) P) : Gets (EVs (EV cfg) 77 ([AV.sl A, AV.sl B] : List AV)) P :=
  Gets.ev (fun _ h => funS rfl rfl Tryz.func77 rfl h) (Gets.eq (by kernel_rfl) h)
theorem wa31_0_step (A B : List (List AV)) (v5 : Int) {P : AV → Prop} (h : Gets (bif decide (v5 < (A.length : Int)) then bif leInt 0 v5 && ltInt v5 (A.length : Int) then kOpt (List.get?Internal A (v5.toNat)) fun row => bif Nat.beq (List.length row) 5 then kOpt (List.get?Internal row 0) fun v => kInt .i64 v fun n => bif leInt 0 v5 && ltInt v5 (B.length : Int) then kOpt (List.get?Internal B (v5.toNat)) fun row => bif Nat.beq (List.length row) 5 then kOpt (List.get?Internal row 0) fun v => kInt .i64 v fun n_1 => bif n != n_1 then some (.bool false) else bif leInt 0 v5 && ltInt v5 (A.length : Int) then kOpt (List.get?Internal A (v5.toNat)) fun row => bif Nat.beq (List.length row) 5 then bif Nat.ble 5 (List.length row) then kCons (List.take 4 (List.drop 1 row)) fun c cs => kInt .i64 c fun n => kCons cs fun c cs => kInt .i64 c fun n_2 => kCons cs fun c cs => kStr c fun s => kCons cs fun c cs => kSl c fun rows => kNil cs (bif leInt 0 v5 && ltInt v5 (B.length : Int) then kOpt (List.get?Internal B (v5.toNat)) fun row => bif Nat.beq (List.length row) 5 then bif Nat.ble 5 (List.length row) then kCons (List.take 4 (List.drop 1 row)) fun c cs => kInt .i64 c fun n_3 => kCons cs fun c cs => kInt .i64 c fun n_4 => kCons cs fun c cs => kStr c fun s_1 => kCons cs fun c cs => kSl c fun rows_1 => kNil cs (kOpt (EVs (EV cfg) 19 [.agg [AV.int .i64 n, .int .i64 n_2, .str s, .sl rows], .agg [AV.int .i64 n_3, .int .i64 n_4, .str s_1, .sl rows_1]]) fun v => kBool v fun b => bif ! b then some (.bool false) else wa31_0 A B (IntKind.wrap .i64 (v5 + 1))) else none else none else none) else none else none else none else none else none else none else none else some (.bool true)) P) : Gets (wa31_0 A B v5) P :=
  Gets.ev (fun _ h => loop_step (cfg := cfg) (f := 77) (rd := none) (bs := 0) h) (Gets.eq (by kernel_rfl) h)
end Go.Proofs.YtkgkjngbfdnoiaaGreat
end

section
namespace Go.Proofs.YtkgkjngbfdnoiaaGreat
open Go.Av
set_option maxRecDepth 100000
set_option maxHeartbeats 0

noncomputable def Lc8_0 : Den := evC cfg (EV cfg) 16 none 0 (sub (bodyOf Tryz.f16) [1, 1, 0, 1, 0, 0])
noncomputable def Ac8_0 : Ex × List AV × AH → Option AV := kAft (Cfg.keepOut cfg 16 3) (kRun cfg (EV cfg) (kfN cfg 6) 16 none 0 (kFinF cfg (Cfg.lift cfg 16 0) Tryz.f16.results.toList) ([.block 0, .seq (sub (bodyOf Tryz.f16) [1, 1, 1])]))
noncomputable def Wc8_0 : List AV × AH → Option AV := fun p => kOpt (LOOP 0 (some [1, 2, 3, 4]) ([]) Lc8_0 p) Ac8_0
noncomputable abbrev wc8_0 (v4 c0_0 c0_1 : Int) (c0_2 : List UInt8) (c0_3 c0_4 : List (List AV)) (c0_5 c1_0 c1_1 : Int) (c1_2 : List UInt8) (c1_5 c2_0 c2_1 : Int) (c2_2 : List UInt8) (c2_3 : List (List AV)) (c2_5 : Int) : Option (AV) := Wc8_0  (((fx 38 [(1, .ptr 0 0 0), (2, .ptr 1 0 0), (3, .ptr 2 0 0), (4, .int .i64 v4)]) : List AV), ([.rows false 6 [[.int .i64 c0_0, .int .i64 c0_1, .str c0_2, .sl c0_3, .sl c0_4, .int .i64 c0_5]], .rows false 6 [[.int .i64 c1_0, .int .i64 c1_1, .str c1_2, .nilS, .nilS, .int .i64 c1_5]], .rows false 6 [[.int .i64 c2_0, .int .i64 c2_1, .str c2_2, .sl c2_3, .nilS, .int .i64 c2_5]]] : AH))
noncomputable abbrev wc8_0a (v4 c0_0 c0_1 : Int) (c0_2 : List UInt8) (c0_3 c0_4 : List (List AV)) (c0_5 c1_0 c1_1 : Int) (c1_2 : List UInt8) (c1_5 c2_0 c2_1 : Int) (c2_2 : List UInt8) (c2_3 : List (List AV)) (nc2_4 : Nat) (c2_5 : Int) (h3 : List (List AV)) : Option (AV) := Wc8_0  (((fx 38 [(1, .ptr 0 0 0), (2, .ptr 1 0 0), (3, .ptr 2 0 0), (4, .int .i64 v4)]) : List AV), ([.rows false 6 [[.int .i64 c0_0, .int .i64 c0_1, .str c0_2, .sl c0_3, .sl c0_4, .int .i64 c0_5]], .rows false 6 [[.int .i64 c1_0, .int .i64 c1_1, .str c1_2, .nilS, .nilS, .int .i64 c1_5]], .rows false 6 [[.int .i64 c2_0, .int .i64 c2_1, .str c2_2, .sl c2_3, .ms 3 0 nc2_4, .int .i64 c2_5]], .rows true 5 h3] : AH))
theorem law17Copied_run (ke ne : Int) (se : List UInt8) (le bd : List (List AV)) (self : Int) {P : AV → Prop} (h : Gets (kOpt (EVf (EV cfg) 15 [.agg [AV.int .i64 ke, .int .i64 ne, .str se, .sl le]]) fun v => kTmV v fun n n_1 s rows => (wc8_0 0 ke ne se le bd self 0 0 [] 0 n n_1 s rows self)) P) : Gets (EVf (EV cfg) 16 ([AV.agg [AV.int IntKind.i64 ke, AV.int IntKind.i64 ne, AV.str se, AV.sl le, AV.sl bd, AV.int IntKind.i64 self]] : List AV)) P :=
  Gets.ev (fun _ h => funF rfl rfl Tryz.func16 rfl h) (Gets.eq (by kernel_rfl) h)
theorem wc8_0_step (v4 c0_0 c0_1 : Int) (c0_2 : List UInt8) (c0_3 c0_4 : List (List AV)) (c0_5 c1_0 c1_1 : Int) (c1_2 : List UInt8) (c1_5 c2_0 c2_1 : Int) (c2_2 : List UInt8) (c2_3 : List (List AV)) (c2_5 : Int) {P : AV → Prop} (h : Gets (bif decide (v4 < (c0_4.length : Int)) then bif leInt 0 v4 && ltInt v4 (c0_4.length : Int) then kOpt (List.get?Internal c0_4 (v4.toNat)) fun row => bif Nat.beq (List.length row) 5 then kOpt (List.get?Internal row 0) fun v => kInt .i64 v fun n => bif leInt 0 v4 && ltInt v4 (c0_4.length : Int) then kOpt (List.get?Internal c0_4 (v4.toNat)) fun row => bif Nat.beq (List.length row) 5 then bif Nat.ble 5 (List.length row) then kCons (List.take 4 (List.drop 1 row)) fun c cs => kInt .i64 c fun n_1 => kCons cs fun c cs => kInt .i64 c fun n_2 => kCons cs fun c cs => kStr c fun s => kCons cs fun c cs => kSl c fun rows => kNil cs (kOpt (EVf (EV cfg) 15 [.agg [AV.int .i64 n_1, .int .i64 n_2, .str s, .sl rows]]) fun v => kTmV v fun n_3 n_4 s rows => (bif fitsIn 1 64 then wc8_0a (IntKind.wrap .i64 (v4 + 1)) c0_0 c0_1 c0_2 c0_3 c0_4 c0_5 c1_0 c1_1 c1_2 c1_5 c2_0 c2_1 c2_2 c2_3 1 c2_5 [[AV.int .i64 n, .int .i64 n_3, .int .i64 n_4, .str s, .sl rows]] else none)) else none else none else none else none else none else some (.agg [AV.int .i64 c2_0, .int .i64 c2_1, .str c2_2, .sl c2_3, .sl [], .int .i64 c2_5])) P) : Gets (wc8_0 v4 c0_0 c0_1 c0_2 c0_3 c0_4 c0_5 c1_0 c1_1 c1_2 c1_5 c2_0 c2_1 c2_2 c2_3 c2_5) P :=
  Gets.ev (fun _ h => loop_step (cfg := cfg) (f := 16) (rd := none) (bs := 0) h) (Gets.eq (by kernel_rfl) h)
theorem wc8_0a_step (v4 c0_0 c0_1 : Int) (c0_2 : List UInt8) (c0_3 c0_4 : List (List AV)) (c0_5 c1_0 c1_1 : Int) (c1_2 : List UInt8) (c1_5 c2_0 c2_1 : Int) (c2_2 : List UInt8) (c2_3 : List (List AV)) (nc2_4 : Nat) (c2_5 : Int) (h3 : List (List AV)) {P : AV → Prop} (h : Gets (bif decide (v4 < (c0_4.length : Int)) then bif leInt 0 v4 && ltInt v4 (c0_4.length : Int) then kOpt (List.get?Internal c0_4 (v4.toNat)) fun row => bif Nat.beq (List.length row) 5 then kOpt (List.get?Internal row 0) fun v => kInt .i64 v fun n => bif leInt 0 v4 && ltInt v4 (c0_4.length : Int) then kOpt (List.get?Internal c0_4 (v4.toNat)) fun row => bif Nat.beq (List.length row) 5 then bif Nat.ble 5 (List.length row) then kCons (List.take 4 (List.drop 1 row)) fun c cs => kInt .i64 c fun n_1 => kCons cs fun c cs => kInt .i64 c fun n_2 => kCons cs fun c cs => kStr c fun s => kCons cs fun c cs => kSl c fun rows => kNil cs (kOpt (EVf (EV cfg) 15 [.agg [AV.int .i64 n_1, .int .i64 n_2, .str s, .sl rows]]) fun v => kTmV v fun n_3 n_4 s rows => (bif Nat.ble (0 + nc2_4) (List.length h3) && fitsIn (nc2_4 + 1) 64 then wc8_0a (IntKind.wrap .i64 (v4 + 1)) c0_0 c0_1 c0_2 c0_3 c0_4 c0_5 c1_0 c1_1 c1_2 c1_5 c2_0 c2_1 c2_2 c2_3 (nc2_4 + 1) c2_5 (List.append (List.take nc2_4 h3) [[AV.int .i64 n, .int .i64 n_3, .int .i64 n_4, .str s, .sl rows]]) else none)) else none else none else none else none else none else bif Nat.ble (0 + nc2_4) (List.length h3) && true then some (.agg [AV.int .i64 c2_0, .int .i64 c2_1, .str c2_2, .sl c2_3, .sl (List.take nc2_4 h3), .int .i64 c2_5]) else none) P) : Gets (wc8_0a v4 c0_0 c0_1 c0_2 c0_3 c0_4 c0_5 c1_0 c1_1 c1_2 c1_5 c2_0 c2_1 c2_2 c2_3 nc2_4 c2_5 h3) P :=
  Gets.ev (fun _ h => loop_step (cfg := cfg) (f := 16) (rd := none) (bs := 0) h) (Gets.eq (by kernel_rfl) h)
end Go.Proofs.YtkgkjngbfdnoiaaGreat
end

section
namespace Go.Proofs.YtkgkjngbfdnoiaaGreat
open Go.Av
set_option maxRecDepth 100000
set_option maxHeartbeats 0

noncomputable def Lq67_0 : Den := evC cfg (EV cfg) 26 none 0 (sub (bodyOf Tryz.f26) [1, 1, 0, 1, 0, 0])
noncomputable def Aq67_0 : Ex × List AV × AH → Option AV := kAft (Cfg.keepOut cfg 26 4) (kRun cfg (EV cfg) (kfN cfg 6) 26 none 0 (kFinS cfg (Cfg.lift cfg 26 0) Tryz.f26.results.toList) ([.block 0, .seq (sub (bodyOf Tryz.f26) [1, 1, 1])]))
noncomputable def Wq67_0 : List AV × AH → Option AV := fun p => kOpt (LOOP 0 (some [0, 1, 5]) ([]) Lq67_0 p) Aq67_0
noncomputable def Lq59_0 : Den := evC cfg (EV cfg) 23 none 0 (sub (bodyOf Tryz.f23) [1, 1, 0, 1, 0, 0])
noncomputable def Aq59_0 : Ex × List AV × AH → Option OV := kAft (Cfg.keepOut cfg 23 3) (kRun cfg (EV cfg) (kfN cfg 6) 23 none 0 (kFinO cfg (Cfg.lift cfg 23 0) Tryz.f23.results.toList) ([.block 0, .seq (sub (bodyOf Tryz.f23) [1, 1, 1])]))
noncomputable def Wq59_0 : List AV × AH → Option OV := fun p => kOpt (LOOP 0 (some [0, 3, 4]) ([(3, 4)]) Lq59_0 p) Aq59_0
noncomputable abbrev wq67_0 (A B : List (List AV)) (v5 : Int) : Option (AV) := Wq67_0  (((fx 27 [(0, .sl A), (1, .sl B), (5, .int .i64 v5)]) : List AV), ([] : AH))
noncomputable abbrev wq59_0 (A : List (List AV)) (nv3 : Nat) (v4 : Int) (h0 : List (List AV)) : Option (OV) := Wq59_0  (((fx 20 [(0, .sl A), (3, .ms 0 0 nv3), (4, .int .i64 v4)]) : List AV), ([.rows true 4 h0] : AH))
theorem tenurekit_SameTerm_run (ka na : Int) (sa : List UInt8) (la : List (List AV)) (kb nb : Int) (sb : List UInt8) (lb : List (List AV)) {P : AV → Prop} (h : Gets (bif ka == kb then bif na == nb then bif sa == sb then kOpt (EVs (EV cfg) 26 [.sl la, .sl lb]) fun v => kBool v fun b => some (.bool b) else some (.bool false) else some (.bool false) else some (.bool false)) P) : Gets (EVs (EV cfg) 19 ([AV.agg [AV.int IntKind.i64 ka, AV.int IntKind.i64 na, AV.str sa, AV.sl la], AV.agg [AV.int IntKind.i64 kb, AV.int IntKind.i64 nb, AV.str sb, AV.sl lb]] : List AV)) P :=
  Gets.ev (fun _ h => funS rfl rfl Tryz.func19 rfl h) (Gets.eq (by kernel_rfl) h)
theorem tenurekit_SameTerms_run (A B : List (List AV)) {P : AV → Prop} (h : Gets (bif (A.length : Int) != (B.length : Int) then some (.bool false) else wq67_0 A B 0) P) : Gets (EVs (EV cfg) 26 ([AV.sl A, AV.sl B] : List AV)) P :=
  Gets.ev (fun _ h => funS rfl rfl Tryz.func26 rfl h) (Gets.eq (by kernel_rfl) h)
theorem tenurekit_CopyTerm_run (kt nt : Int) (st : List UInt8) (lt : List (List AV)) {P : AV → Prop} (h : Gets (kOpt (EVo (EV cfg) 23 [.sl lt]) fun o => kOwn o (some (.agg [.int .i64 kt, .int .i64 nt, .str st, .sl []])) fun sz rs off len => bif Nat.ble (off + len) (List.length rs) && true then some (.agg [.int .i64 kt, .int .i64 nt, .str st, .sl (List.take len (List.drop off rs))]) else none) P) : Gets (EVf (EV cfg) 15 ([AV.agg [AV.int IntKind.i64 kt, AV.int IntKind.i64 nt, AV.str st, AV.sl lt]] : List AV)) P :=
  Gets.ev (fun _ h => funF rfl rfl Tryz.func15 rfl h) (Gets.eq (by kernel_rfl) h)
theorem tenurekit_CopyTerms_run (A : List (List AV)) {P : OV → Prop} (h : Gets (wq59_0 A 0 0 []) P) : Gets (EVo (EV cfg) 23 ([AV.sl A] : List AV)) P :=
  Gets.ev (fun _ h => funO rfl rfl Tryz.func23 rfl h) (Gets.eq (by kernel_rfl) h)
theorem wq67_0_step (A B : List (List AV)) (v5 : Int) {P : AV → Prop} (h : Gets (bif decide (v5 < (A.length : Int)) then bif leInt 0 v5 && ltInt v5 (A.length : Int) then kOpt (List.get?Internal A (v5.toNat)) fun row => bif Nat.beq (List.length row) 4 then bif Nat.ble 4 (List.length row) then kTmC (List.take 4 row) fun n n_1 s rows => (bif leInt 0 v5 && ltInt v5 (B.length : Int) then kOpt (List.get?Internal B (v5.toNat)) fun row => bif Nat.beq (List.length row) 4 then bif Nat.ble 4 (List.length row) then kTmC (List.take 4 row) fun n_2 n_3 s_1 rows_1 => (kOpt (EVs (EV cfg) 19 [.agg [.int .i64 n, .int .i64 n_1, .str s, .sl rows], .agg [.int .i64 n_2, .int .i64 n_3, .str s_1, .sl rows_1]]) fun v => kBool v fun b => bif ! b then some (.bool false) else wq67_0 A B (IntKind.wrap .i64 (v5 + 1))) else none else none else none) else none else none else none else some (.bool true)) P) : Gets (wq67_0 A B v5) P :=
  Gets.ev (fun _ h => loop_step (cfg := cfg) (f := 26) (rd := none) (bs := 0) h) (Gets.eq (by kernel_rfl) h)
theorem wq59_0_step (A : List (List AV)) (nv3 : Nat) (v4 : Int) (h0 : List (List AV)) {P : OV → Prop} (h : Gets (bif decide (v4 < (A.length : Int)) then bif leInt 0 v4 && ltInt v4 (A.length : Int) then kOpt (List.get?Internal A (v4.toNat)) fun row => bif Nat.beq (List.length row) 4 then bif Nat.ble 4 (List.length row) then kTmC (List.take 4 row) fun n n_1 s rows => (kOpt (EVf (EV cfg) 15 [.agg [.int .i64 n, .int .i64 n_1, .str s, .sl rows]]) fun v => kTmV v fun n n_2 s rows => (bif Nat.ble (0 + nv3) (List.length h0) && fitsIn (nv3 + 1) 56 then wq59_0 A (nv3 + 1) (IntKind.wrap .i64 (v4 + 1)) (List.append (List.take nv3 h0) [[.int .i64 n, .int .i64 n_2, .str s, .sl rows]]) else none)) else none else none else none else some (OV.own 4 h0 0 nv3)) P) : Gets (wq59_0 A nv3 v4 h0) P :=
  Gets.ev (fun _ h => loop_step (cfg := cfg) (f := 23) (rd := none) (bs := 0) h) (Gets.eq (by kernel_rfl) h)
end Go.Proofs.YtkgkjngbfdnoiaaGreat
end

section
namespace Go.Proofs.YtkgkjngbfdnoiaaGreat
open Go.Av
theorem copyTerms_of {l : List Tm} (hlen : l.length < 1099511627776) (ih : ∀ x ∈ l, EVf (EV cfg) 15 [x.av] = some x.av) :
  EVo (EV cfg) 23 [.sl (rowsT l)] = some (OV.own 4 (rowsT l) 0 l.length) := by
 have loop : ∀ d i : Nat, i + d = l.length → Gets (wq59_0 (rowsT l) i i (rowsT (l.take i))) (· = OV.own 4 (rowsT l) 0 l.length) := by
  intro d
  induction d with
  | zero =>
   intro i hi
   refine wq59_0_step _ _ _ _ ?_
   obtain rfl : i = l.length := by omega
   rw [rowsT_length, decide_eq_false (by omega), List.take_length]
   exact ⟨_, rfl, rfl⟩
  | succ d ihd =>
   intro i hi
   have hil : i < l.length := by omega
   refine wq59_0_step _ _ _ _ ?_
   have hx : l[i]? = some l[i] := List.getElem?_eq_getElem hil
   have h1 := ih l[i] (List.mem_of_getElem? hx)
   have h2 := ihd (i + 1) (by omega)
   have e1 : l.take (i + 1) = l.take i ++ [l[i]] := by rw [List.take_add_one, hx]; rfl
   have ht : (rowsT (l.take i)).length = i := by rw [rowsT_length, List.length_take]; omega
   have e2 : List.append (List.take i (rowsT (l.take i))) [l[i].cells] = rowsT (l.take (i + 1)) := by
    rw [List.take_of_length_le (by omega), e1, rowsT_append, rowsT_cons, rowsT_nil]; rfl
   have e3 : Nat.ble (0 + i) (rowsT (l.take i)).length = true := by rw [ht, Nat.ble_eq]; omega
   rw [rowsT_length, decide_eq_true (show (i : Int) < (l.length : Int) by omega), leInt_zero, ltInt_nat, decide_eq_true hil, rowsT_at hx, wrap_succ hil hlen, e3, fits56 (by omega)]
   simp only [cond_true, Bool.and_self, length_cells, Nat.beq_refl, take_cells, kTmC_cells, show Nat.ble 4 4 = true from rfl, av_unf, h1, kOptSome, kTmV_av]
   rw [← Tm.cells_eq, e2]
   exact h2
 apply Gets.get
 exact tenurekit_CopyTerms_run _ (by simpa [rowsT_nil] using loop l.length 0 (by omega))
theorem copyTerm_ev (t : Tm) : t.w < 1099511627776 → EVf (EV cfg) 15 [t.av] = some t.av := by
 induction t using Tm.ind with
 | _ k n s l ih =>
  intro hw
  rw [Tm.w_mk] at hw
  have hlen := wL_len l
  have h := copyTerms_of (l := l) (by omega) fun x hx => ih x hx (by have := wL_mem hx; omega)
  apply Gets.get
  rw [Tm.av_mk]
  refine tenurekit_CopyTerm_run _ _ _ _ ?_
  rw [h]
  have e : (Nat.ble (0 + l.length) (rowsT l).length && true) = true := by rw [Bool.and_true, Nat.ble_eq, rowsT_length]; omega
  have e2 : List.take l.length (List.drop 0 (rowsT l)) = rowsT l := List.take_of_length_le (by simp)
  show Gets (bif (Nat.ble (0 + l.length) (rowsT l).length && true) then some (AV.agg [.int .i64 k, .int .i64 n, .str s, .sl (List.take l.length (List.drop 0 (rowsT l)))]) else none) _
  rw [e, e2]
  exact ⟨_, rfl, rfl⟩
end Go.Proofs.YtkgkjngbfdnoiaaGreat
end

section
namespace Go.Proofs.YtkgkjngbfdnoiaaGreat
open Go.Av
theorem sameL_of (la lb : List Tm) (hlen : la.length < 1099511627776) (ih : ∀ a ∈ la, ∀ b, Gets (EVs (EV cfg) 19 [a.av, b.av]) (Tells (a = b))) : Gets (EVs (EV cfg) 26 [.sl (rowsT la), .sl (rowsT lb)]) (Tells (la = lb)) := by
 have loop : la.length = lb.length → ∀ (d i : Nat), i + d = la.length → la.take i = lb.take i → Gets (wq67_0 (rowsT la) (rowsT lb) i) (Tells (la = lb)) := by
  intro hl d
  induction d with
  | zero =>
   intro i hi ht
   refine wq67_0_step _ _ _ ?_
   rw [List.take_of_length_le (by omega), List.take_of_length_le (by omega)] at ht
   have h1 : ¬ i < la.length := by omega
   simp [h1, tells_bool]
   exact ht
  | succ d ihd =>
   intro i hi ht
   refine wq67_0_step _ _ _ ?_
   have hlt1 : i < la.length := by omega
   have hlt2 : i < lb.length := by omega
   have hx : la[i]? = some la[i] := List.getElem?_eq_getElem hlt1
   have hy : lb[i]? = some lb[i] := List.getElem?_eq_getElem hlt2
   have hix := ih la[i] (List.mem_of_getElem? hx) lb[i]
   have hta : la.take (i + 1) = la.take i ++ [la[i]] := by rw [List.take_add_one, hx]; rfl
   have htb : lb.take (i + 1) = lb.take i ++ [lb[i]] := by rw [List.take_add_one, hy]; rfl
   have hih := ihd (i + 1) (by omega)
   have hne : la[i] ≠ lb[i] → la ≠ lb := by intro h e; subst e; exact h rfl
   rw [hta, htb, ht] at hih
   rw [wrap_succ (n := la.length) (by omega) hlen]
   simp [hlt1, hlt2, hx, hy]
   refine Gets.bind hix ?_
   rintro _ ⟨b, rfl, hb⟩
   cases b with
   | true => simp; exact hih (by rw [hb.1 rfl])
   | false =>
    have : la ≠ lb := hne (fun e => by cases hb.2 e)
    simp [tells_bool, this]
 refine tenurekit_SameTerms_run _ _ ?_
 by_cases hl : la.length = lb.length
 ·simp [hl]
  exact loop hl la.length 0 (by omega) (by simp)
 ·have : la ≠ lb := fun e => hl (by rw [e])
  have hl' : ¬ ((la.length : Int) = lb.length) := by omega
  simp [bneD, hl', tells_bool, this]
theorem sameT_ev (a : Tm) : a.Ok → ∀ b : Tm, Gets (EVs (EV cfg) 19 [a.av, b.av]) (Tells (a = b)) := by
 induction a using Tm.ind with
 | _ k n s l ih =>
  intro hok b
  obtain ⟨k', n', s', l'⟩ := b
  have hl := sameL_of l l' hok.len (fun a ha b => ih a ha (hok.sub ha) b)
  rw [Tm.av_mk, Tm.av_mk]
  refine tenurekit_SameTerm_run _ _ _ _ _ _ _ _ ?_
  by_cases h1 : k = k'
  ·by_cases h2 : n = n'
   ·by_cases h3 : s = s'
    ·subst h1 h2 h3
     simp
     refine Gets.bind hl ?_
     rintro _ ⟨b, rfl, hb⟩
     simp [tells_bool, hb]
    ·simp [h1, h2, beqD, h3, tells_bool]
   ·simp [h1, beqD, h2, tells_bool]
  ·simp [beqD, h1, tells_bool]
theorem sameT_dec {a b : Tm} (h : a.Ok) {c : Bool} (hc : c = true ↔ a = b) : EVs (EV cfg) 19 [a.av, b.av] = some (.bool c) := by
 obtain ⟨_, h1, b', rfl, h2⟩ := sameT_ev a h b
 rw [h1]
 have : b' = c := by rw [Bool.eq_iff_iff]; exact h2.trans hc.symm
 rw [this]
end Go.Proofs.YtkgkjngbfdnoiaaGreat
end

section
namespace Go.Proofs.YtkgkjngbfdnoiaaGreat
open Go.Av
theorem size_ev (t : Tm) : t.Ok → ∀ most : Int, Gets (EVs (EV cfg) 106 [t.av, .int .i64 most]) AV.IsInt := by
 induction t using Tm.ind with
 | _ k n s l ih =>
  intro hok most
  have loop : ∀ (d i : Nat) (m : Int), i + d = l.length → Gets (wh47_0 most m i k n s (rowsT l)) AV.IsInt := by
   intro d
   induction d with
   | zero =>
    intro i m hi
    refine wh47_0_step _ _ _ _ _ _ _ ?_
    rw [rowsT_length, decide_eq_false (by omega)]
    simp
   | succ d ihd =>
    intro i m hi
    refine wh47_0_step _ _ _ _ _ _ _ ?_
    have hil : i < l.length := by omega
    have hx : l[i]? = some l[i] := List.getElem?_eq_getElem hil
    have hxl := List.mem_of_getElem? hx
    have hix := ih l[i] hxl (hok.sub hxl)
    by_cases hm : m < most
    ·rw [wrap_succ hil hok.len]
     simp [hil, hx, hm]
     refine Gets.bind (hix _) ?_
     rintro _ ⟨n'', rfl⟩
     simpa using ihd (i + 1) _ (by omega)
    ·simp [hil, hm]
  rw [Tm.av_mk]
  refine kitSize_run _ _ _ _ _ ?_
  by_cases h1 : (s.length : Int) > 100
  ·rw [decide_eq_true h1]; simp
  ·rw [decide_eq_false h1]
   by_cases h2 : (l.length : Int) > most
   ·rw [rowsT_length, decide_eq_true h2]; simp
   ·rw [rowsT_length, decide_eq_false h2]
    exact loop l.length 0 1 (by omega)
theorem big_ev {t : Tm} (h : t.Ok) (most : Int) : Gets (EVs (EV cfg) 41 [t.av, .int .i64 most]) AV.IsBool := by
 have h1 := size_ev t h (IntKind.wrap .i64 (most + 1))
 rw [Tm.av, Tm.cells_eq] at h1 ⊢
 refine kitBig_run _ _ _ _ _ ?_
 refine Gets.bind h1 ?_
 rintro _ ⟨n, rfl⟩
 simp
end Go.Proofs.YtkgkjngbfdnoiaaGreat
end

section
namespace Go.Av
theorem kChainL {α : Type} (t : Tm) (K : Int → Int → List UInt8 → List (List AV) → Option α) : (kCons t.cells fun (c : AV) (cs : List AV) => kInt .i64 c fun (n : Int) => kCons cs fun (c : AV) (cs : List AV) => kInt .i64 c fun (n_1 : Int) => kCons cs fun (c : AV) (cs : List AV) => kStr c fun (s : List UInt8) => kCons cs fun (c : AV) (cs : List AV) => kSl c fun (rows : List (List AV)) => kNil cs (K n n_1 s rows)) = K t.kind t.num t.str (rowsT t.subs) := kTmC_cells t K
end Go.Av
namespace Go.Proofs.YtkgkjngbfdnoiaaGreat
open Go.Av
theorem largeE_ev {l : List Tm} (hl : OkL l) (hlen : l.length < 1099511627776) {e : Env} (he : EnvW e) : Gets (EVs (EV cfg) 14 [.sl (rowsT l), envR e.obj e.binds e.self]) AV.IsBool := by
 have hb := big_ev (ok_of_w _ he.obj) 300
 have fin : Gets (bif decide (((rowsT l).length : Int) > 100) then some (.bool true) else bif decide (((bindsR e.binds).length : Int) > 60) then some (.bool true) else kOpt (EVs (EV cfg) 41 [e.obj.av, .int .i64 300]) fun (v : AV) => kBool v fun (b : Bool) => some (.bool b)) AV.IsBool := by
  cases decide (((rowsT l).length : Int) > 100) with
  | true => exact ⟨_, rfl, _, rfl⟩
  | false =>
   cases decide (((bindsR e.binds).length : Int) > 60) with
   | true => exact ⟨_, rfl, _, rfl⟩
   | false =>
    refine Gets.bind hb ?_
    rintro _ ⟨b, rfl⟩
    exact ⟨_, rfl, _, rfl⟩
 have loop1 : ∀ (d i : Nat), i + d = e.binds.length → Gets (wz9_1 (rowsT l) i e.obj.kind e.obj.num e.obj.str (rowsT e.obj.subs) (bindsR e.binds) e.self) AV.IsBool := by
  intro d
  induction d with
  | zero =>
   intro i hi
   refine wz9_1_step _ _ _ _ _ _ _ _ ?_
   rw [decide_eq_false (show ¬ (i : Int) < ((bindsR e.binds).length : Int) by rw [bindsR_len]; omega), cond_false, av_unf]
   exact fin
  | succ d ih =>
   intro i hi
   refine wz9_1_step _ _ _ _ _ _ _ _ ?_
   have hil : i < e.binds.length := by omega
   have h := ih (i + 1) (by omega)
   rw [decide_eq_true (show (i : Int) < ((bindsR e.binds).length : Int) by rw [bindsR_len]; omega), cond_true, av_unf]
   cases decide ((i : Int) < 61) with
   | false => exact fin
   | true =>
    rw [show ltInt (i : Int) ((bindsR e.binds).length : Int) = true by rw [bindsR_len, ltInt_nat]; exact decide_eq_true hil, leInt_zero, wrap_succ hil he.len]
    simp only [get?Internal_eq, Int.toNat_natCast, bindsR_get, List.getElem?_eq_getElem hil, Option.map_some, cond_true, Bool.and_self, List.length_cons, length_cells, show Nat.beq (4 + 1) 5 = true from rfl, show Nat.ble 5 (4 + 1) = true from rfl, kOptSome, List.drop_succ_cons, List.drop_zero, take_cells, kChainL, av_unf]
    refine Gets.bind (big_ev (ok_of_w _ (he.binds _ (List.getElem_mem hil))) 100) ?_
    rintro _ ⟨b, rfl⟩
    cases b with
    | true => exact ⟨_, rfl, _, rfl⟩
    | false => exact h
 have loop0 : ∀ (d i : Nat), i + d = l.length → Gets (wz9_0 (rowsT l) i e.obj.kind e.obj.num e.obj.str (rowsT e.obj.subs) (bindsR e.binds) e.self) AV.IsBool := by
  intro d
  induction d with
  | zero =>
   intro i hi
   refine wz9_0_step _ _ _ _ _ _ _ _ ?_
   rw [rowsT_length, decide_eq_false (by omega)]
   exact loop1 e.binds.length 0 (by omega)
  | succ d ih =>
   intro i hi
   refine wz9_0_step _ _ _ _ _ _ _ _ ?_
   have hil : i < l.length := by omega
   have hx : l[i]? = some l[i] := List.getElem?_eq_getElem hil
   have h := ih (i + 1) (by omega)
   rw [rowsT_length, decide_eq_true (show (i : Int) < (l.length : Int) by omega), cond_true]
   cases decide ((i : Int) < 101) with
   | false => exact loop1 e.binds.length 0 (by omega)
   | true =>
    rw [leInt_zero, ltInt_nat, decide_eq_true hil, rowsT_at hx, wrap_succ hil hlen]
    simp only [cond_true, Bool.and_self, length_cells, Nat.beq_refl, take_cells, kTmC_cells, ble44, av_unf]
    refine Gets.bind (big_ev (hl.get (List.mem_of_getElem? hx)) 300) ?_
    rintro _ ⟨b, rfl⟩
    cases b with
    | true => exact ⟨_, rfl, _, rfl⟩
    | false => exact h
 unfold envR
 exact law17Large_run _ _ _ _ _ _ _ (loop0 l.length 0 (by omega))
end Go.Proofs.YtkgkjngbfdnoiaaGreat
end

section
namespace Go.Proofs.YtkgkjngbfdnoiaaGreat
open Go.Av
set_option maxRecDepth 1000000
theorem guardKnown_k0 : EVs (EV cfg) 91 [.agg [.int .i64 7, .int .i64 0, .str [], .sl [[.int .i64 2, .int .i64 0, .str [107], .sl []], [.int .i64 1, .int .i64 3, .str [], .sl []]]]] = some (.int .i64 0) := factS (.nil) 1000 1000 (by kernel_rfl)
theorem guardKnown_k1 : EVf (EV cfg) 68 [.agg [.int .i64 7, .int .i64 0, .str [], .sl [[.int .i64 2, .int .i64 0, .str [107], .sl []], [.int .i64 1, .int .i64 3, .str [], .sl []]], .sl [[.int .i64 1, .int .i64 2, .int .i64 0, .str [107], .sl []], [.int .i64 2, .int .i64 1, .int .i64 3, .str [], .sl []]], .int .i64 1]] = some (.tup [.sl [[.int .i64 1], [.int .i64 2]], .bool true]) := factF (.consS guardKnown_k0 (.nil)) 1000 1000 (by kernel_rfl)
theorem guardKnown_k3 : EVs (EV cfg) 153 [.agg [.int .i64 2, .int .i64 0, .str [36, 49], .sl []]] = some (.tup [.int .i64 1, .bool true]) := factS (.nil) 1000 1000 (by kernel_rfl)
theorem guardKnown_k4 : EVs (EV cfg) 153 [.agg [.int .i64 2, .int .i64 0, .str [36, 50], .sl []]] = some (.tup [.int .i64 2, .bool true]) := factS (.nil) 1000 1000 (by kernel_rfl)
theorem guardKnown_k5 : EVf (EV cfg) 154 [.sl [[.int .i64 1, .int .i64 2, .int .i64 0, .str [107], .sl []], [.int .i64 2, .int .i64 1, .int .i64 3, .str [], .sl []]], .int .i64 1] = some (.tup [.agg [.int .i64 2, .int .i64 0, .str [107], .sl []], .bool true]) := factF (.nil) 1000 1000 (by kernel_rfl)
theorem guardKnown_k6 : EVf (EV cfg) 154 [.sl [[.int .i64 1, .int .i64 2, .int .i64 0, .str [107], .sl []], [.int .i64 2, .int .i64 1, .int .i64 3, .str [], .sl []]], .int .i64 2] = some (.tup [.agg [.int .i64 1, .int .i64 3, .str [], .sl []], .bool true]) := factF (.nil) 1000 1000 (by kernel_rfl)
theorem guardKnown_k35 : EVs (EV cfg) 91 [.agg [.int .i64 7, .int .i64 0, .str [], .sl [[.int .i64 2, .int .i64 0, .str [61, 61], .sl []], [.int .i64 2, .int .i64 0, .str [36, 49], .sl []], [.int .i64 2, .int .i64 0, .str [107], .sl []]]]] = some (.int .i64 0) := factS (.nil) 1000 1000 (by kernel_rfl)
theorem guardKnown_k36 : EVs (EV cfg) 124 [.sl [[.int .i64 2, .int .i64 0, .str [36, 49], .sl []], [.int .i64 2, .int .i64 0, .str [107], .sl []]], .fn (.func 290) [] [.cptr [.sl [[.int .i64 1], [.int .i64 2]]] 0]] = some (.int .i64 (-1)) := factS (.consS guardKnown_k3 (.nil)) 1000 1000 (by kernel_rfl)
theorem guardKnown_k37 : EVf (EV cfg) 17 [.agg [.int .i64 7, .int .i64 0, .str [], .sl [[.int .i64 2, .int .i64 0, .str [61, 61], .sl []], [.int .i64 2, .int .i64 0, .str [36, 49], .sl []], [.int .i64 2, .int .i64 0, .str [107], .sl []]]], .agg [.int .i64 7, .int .i64 0, .str [], .sl [[.int .i64 2, .int .i64 0, .str [107], .sl []], [.int .i64 1, .int .i64 3, .str [], .sl []]], .sl [[.int .i64 1, .int .i64 2, .int .i64 0, .str [107], .sl []], [.int .i64 2, .int .i64 1, .int .i64 3, .str [], .sl []]], .int .i64 1]] = some (.tup [.agg [.int .i64 2, .int .i64 0, .str [116, 114, 117, 101], .sl []], .int .i64 0]) := factF (.consF guardKnown_k1 (.consS guardKnown_k35 (.consS guardKnown_k36 (.consS guardKnown_k3 (.consF guardKnown_k5 (.nil)))))) 1000 1000 (by kernel_rfl)
theorem guardKnown_k42 : EVs (EV cfg) 91 [.agg [.int .i64 7, .int .i64 0, .str [], .sl [[.int .i64 2, .int .i64 0, .str [43], .sl []], [.int .i64 2, .int .i64 0, .str [36, 50], .sl []], [.int .i64 1, .int .i64 4, .str [], .sl []]]]] = some (.int .i64 0) := factS (.nil) 1000 1000 (by kernel_rfl)
theorem guardKnown_k43 : EVs (EV cfg) 152 [.agg [.int .i64 7, .int .i64 0, .str [], .sl [[.int .i64 2, .int .i64 0, .str [43], .sl []], [.int .i64 2, .int .i64 0, .str [36, 50], .sl []], [.int .i64 1, .int .i64 4, .str [], .sl []]]], .sl [[.int .i64 1], [.int .i64 2]]] = some (.bool true) := factS (.consS guardKnown_k4 (.nil)) 1000 1000 (by kernel_rfl)
theorem guardKnown_k44 : EVf (EV cfg) 17 [.agg [.int .i64 7, .int .i64 0, .str [], .sl [[.int .i64 2, .int .i64 0, .str [43], .sl []], [.int .i64 2, .int .i64 0, .str [36, 50], .sl []], [.int .i64 1, .int .i64 4, .str [], .sl []]]], .agg [.int .i64 7, .int .i64 0, .str [], .sl [[.int .i64 2, .int .i64 0, .str [107], .sl []], [.int .i64 1, .int .i64 3, .str [], .sl []]], .sl [[.int .i64 1, .int .i64 2, .int .i64 0, .str [107], .sl []], [.int .i64 2, .int .i64 1, .int .i64 3, .str [], .sl []]], .int .i64 1]] = some (.tup [.agg [.int .i64 1, .int .i64 7, .str [], .sl []], .int .i64 0]) := factF (.consF guardKnown_k1 (.consS guardKnown_k42 (.consS guardKnown_k43 (.consS guardKnown_k4 (.consF guardKnown_k6 (.nil)))))) 1000 1000 (by kernel_rfl)
theorem guardKnown_k45 : EVs (EV cfg) 91 [.agg [.int .i64 7, .int .i64 0, .str [], .sl [[.int .i64 2, .int .i64 0, .str [104, 100], .sl []], [.int .i64 8, .int .i64 0, .str [], .sl []]]]] = some (.int .i64 0) := factS (.nil) 1000 1000 (by kernel_rfl)
theorem guardKnown_k46 : EVf (EV cfg) 17 [.agg [.int .i64 7, .int .i64 0, .str [], .sl [[.int .i64 2, .int .i64 0, .str [104, 100], .sl []], [.int .i64 8, .int .i64 0, .str [], .sl []]]], .agg [.int .i64 7, .int .i64 0, .str [], .sl [[.int .i64 2, .int .i64 0, .str [107], .sl []], [.int .i64 1, .int .i64 3, .str [], .sl []]], .sl [[.int .i64 1, .int .i64 2, .int .i64 0, .str [107], .sl []], [.int .i64 2, .int .i64 1, .int .i64 3, .str [], .sl []]], .int .i64 1]] = some (.tup [.agg [.int .i64 0, .int .i64 0, .str [], .sl []], .int .i64 10]) := factF (.consF guardKnown_k1 (.consS guardKnown_k45 (.nil))) 1000 1000 (by kernel_rfl)
theorem guardKnown_k47 : EVs (EV cfg) 22 [] = some (.bool true) := factS (.consF guardKnown_k44 (.consF guardKnown_k46 (.consF guardKnown_k1 (.consF guardKnown_k37 (.nil))))) 1000 1000 (by kernel_rfl)
end Go.Proofs.YtkgkjngbfdnoiaaGreat
end

section
namespace Go.Av
theorem and_mask {a : Nat} (ha : a < 18446744073709551616) : fromSem (Op.intBits .and .u64 (a : Int) 4294967295) = some (.int .u64 ((a % 4294967296 : Nat) : Int)) := by
 have : fromSem (Op.intBits .and .u64 (a : Int) 4294967295) = some (.int .u64 (IntKind.wrap .u64 (BitVec.ofInt 64 (a : Int) &&& BitVec.ofInt 64 4294967295).toNat)) := rfl
 rw [this]
 have ea : (BitVec.ofInt 64 (a : Int)).toNat = a := by simp [BitVec.toNat_ofInt]; omega
 have eb : (BitVec.ofInt 64 (4294967295 : Int)).toNat = 2 ^ 32 - 1 := by decide
 rw [BitVec.toNat_and, ea, eb, Nat.and_two_pow_sub_one_eq_mod, wrapU (by omega)]
theorem shr_32 {a : Nat} (_ha : a < 18446744073709551616) : fromSem (Op.shift .shr .u64 (a : Int) .u64 32) = some (.int .u64 ((a / 4294967296 : Nat) : Int)) := by
 have : fromSem (Op.shift .shr .u64 (a : Int) .u64 32) = some (.int .u64 (Int.fdiv a (2 ^ (min (32 : Int).toNat 64)))) := by
  unfold Op.shift
  rw [if_neg (by omega)]; rfl
 rw [this]
 have e : ((2 : Int) ^ (min (32 : Int).toNat 64)) = ((4294967296 : Nat) : Int) := by decide
 rw [e, Int.fdiv_eq_ediv_of_nonneg _ (Int.natCast_nonneg _)]
 rfl
theorem wrapU' {n : Int} {m : Nat} (h : n = (m : Int)) (hm : m < 18446744073709551616) : IntKind.wrap .u64 n = (m : Int) := by rw [h, wrapU hm]
theorem wrapU_mod (n : Nat) : IntKind.wrap .u64 (n : Int) = ((n % 18446744073709551616 : Nat) : Int) := by
 simp [IntKind.wrap, IntKind.bits, IntKind.signed]
theorem hi_parts {a b : Nat} (ha : a < 18446744073709551616) (hb : b < 18446744073709551616) :
  let p := a / 4294967296 * (b % 4294967296); let q := a % 4294967296 * (b / 4294967296); let r := a % 4294967296 * (b % 4294967296); let s := a / 4294967296 * (b / 4294967296)
  r < 18446744073709551616 ∧ p < 18446744073709551616 ∧ q < 18446744073709551616 ∧ s < 18446744073709551616 ∧ p + r / 4294967296 < 18446744073709551616 ∧ (p + r / 4294967296) % 4294967296 + q < 18446744073709551616 ∧ s + (p + r / 4294967296) / 4294967296 < 18446744073709551616 ∧
  s + (p + r / 4294967296) / 4294967296 + ((p + r / 4294967296) % 4294967296 + q) / 4294967296 = a * b / 18446744073709551616 ∧ a * b / 18446744073709551616 < 18446744073709551616 := by
 intro p q r s
 have ea : a = a / 4294967296 * 4294967296 + a % 4294967296 := by omega
 have eb : b = b / 4294967296 * 4294967296 + b % 4294967296 := by omega
 have e : a * b = s * 18446744073709551616 + (p + q) * 4294967296 + r := by
  show a * b = (a / 4294967296 * (b / 4294967296)) * 18446744073709551616 + (a / 4294967296 * (b % 4294967296) + a % 4294967296 * (b / 4294967296)) * 4294967296 + a % 4294967296 * (b % 4294967296)
  generalize a / 4294967296 = x1 at *
  generalize a % 4294967296 = x0 at *
  generalize b / 4294967296 = y1 at *
  generalize b % 4294967296 = y0 at *
  rw [ea, eb]
  have h1 : x1 * 4294967296 * (y1 * 4294967296) = x1 * y1 * 18446744073709551616 := by
   rw [Nat.mul_mul_mul_comm]
  have h2 : x1 * 4294967296 * y0 = x1 * y0 * 4294967296 := by rw [Nat.mul_right_comm]
  have h3 : x0 * (y1 * 4294967296) = x0 * y1 * 4294967296 := by rw [Nat.mul_assoc]
  rw [Nat.add_mul, Nat.mul_add, Nat.mul_add, h1, h2, h3]
  omega
 have bp : p ≤ 4294967295 * 4294967295 := Nat.mul_le_mul (by omega) (by omega)
 have bq : q ≤ 4294967295 * 4294967295 := Nat.mul_le_mul (by omega) (by omega)
 have br : r ≤ 4294967295 * 4294967295 := Nat.mul_le_mul (by omega) (by omega)
 have bs : s ≤ 4294967295 * 4294967295 := Nat.mul_le_mul (by omega) (by omega)
 have hab : a * b < 18446744073709551616 * 18446744073709551616 := Nat.mul_lt_mul'' ha hb
 clear_value p q r s
 rw [e] at hab ⊢
 clear e ea eb
 refine ⟨by omega, by omega, by omega, by omega, by omega, by omega, by omega, by omega, by omega⟩
end Go.Av
namespace Go.Proofs.YtkgkjngbfdnoiaaGreat
open Go.Av
theorem mul64_ev {a b : Nat} (ha : a < 18446744073709551616) (hb : b < 18446744073709551616) :
  EVs (EV cfg) 312 [.int .u64 (a : Int), .int .u64 (b : Int)] = some (.tup [.int .u64 ((a * b / 18446744073709551616 : Nat) : Int), .int .u64 ((a * b % 18446744073709551616 : Nat) : Int)]) := by
 obtain ⟨h1, h2, h3, h4, h5, h6, h7, h8, h9⟩ := hi_parts ha hb
 have w0 : IntKind.wrap .u64 (((a % 4294967296 : Nat) : Int) * ((b % 4294967296 : Nat) : Int)) = ((a % 4294967296 * (b % 4294967296) : Nat) : Int) := wrapU' (Int.natCast_mul _ _).symm h1
 have w1 : IntKind.wrap .u64 (((a / 4294967296 : Nat) : Int) * ((b % 4294967296 : Nat) : Int)) = ((a / 4294967296 * (b % 4294967296) : Nat) : Int) := wrapU' (Int.natCast_mul _ _).symm h2
 have w2 : IntKind.wrap .u64 (((a % 4294967296 : Nat) : Int) * ((b / 4294967296 : Nat) : Int)) = ((a % 4294967296 * (b / 4294967296) : Nat) : Int) := wrapU' (Int.natCast_mul _ _).symm h3
 have w3 : IntKind.wrap .u64 (((a / 4294967296 : Nat) : Int) * ((b / 4294967296 : Nat) : Int)) = ((a / 4294967296 * (b / 4294967296) : Nat) : Int) := wrapU' (Int.natCast_mul _ _).symm h4
 have w4 : IntKind.wrap .u64 ((a : Int) * (b : Int)) = ((a * b % 18446744073709551616 : Nat) : Int) := by rw [← Int.natCast_mul, wrapU_mod]
 apply Gets.get
 refine mul64_run _ _ ?_
 rw [and_mask ha, shr_32 ha, and_mask hb, shr_32 hb]
 simp only [kOptSome, kInt_int, w0, w1, w2, w3, w4]
 rw [shr_32 h1]
 simp only [kOptSome, kInt_int]
 rw [wrapU' (Int.natCast_add _ _).symm h5, and_mask h5, shr_32 h5]
 simp only [kOptSome, kInt_int]
 rw [wrapU' (Int.natCast_add _ _).symm h6, shr_32 h6]
 simp only [kOptSome, kInt_int]
 rw [wrapU' (Int.natCast_add _ _).symm h7, wrapU' (Int.natCast_add _ _).symm (by rw [h8]; exact h9), h8]
 exact ⟨_, rfl, rfl⟩
theorem product_ok : ProductOk := by
 intro e a b ha hb
 obtain ⟨a1, a2⟩ := ha
 obtain ⟨b1, b2⟩ := hb
 -- what follows the two signs
 have fin : ∀ (x y : Nat) (sg : Int), x ≤ 576460752303423488 → y ≤ 576460752303423488 → (sg = 1 ∨ sg = -1) → a * b = sg * (x * y : Nat) →
   Gets (kOpt (EVs (EV cfg) 312 [.int .u64 (x : Int), .int .u64 (y : Int)]) fun (v : AV) => kTup v fun (cs : List AV) => kCons cs fun (c : AV) (cs : List AV) => kInt .u64 c fun (n : Int) => kCons cs fun (c : AV) (cs : List AV) => kInt .u64 c fun (n_1 : Int) => kNil cs (bif decide (n > (0 : Int)) then kOpt (EVd (EV cfg) 233 [.ptr 0 0 0] 7 (mR e false)) fun (q : AV × List (List AV)) => kTmV q.1 fun (n n_2 : Int) (s : List UInt8) (rows : List (List AV)) => (some (.agg [.int .i64 n, .int .i64 n_2, .str s, .sl rows], q.2)) else bif decide (n_1 > (576460752303423488 : Int)) then kOpt (EVd (EV cfg) 233 [.ptr 0 0 0] 7 (mR e false)) fun (q : AV × List (List AV)) => kTmV q.1 fun (n n_2 : Int) (s : List UInt8) (rows : List (List AV)) => (some (.agg [.int .i64 n, .int .i64 n_2, .str s, .sl rows], q.2)) else kOpt (EVd (EV cfg) 240 [.ptr 0 0 0, .int .i64 (IntKind.wrap .i64 (sg * IntKind.wrap .i64 n_1))] 7 (mR e false)) fun (q : AV × List (List AV)) => kTmV q.1 fun (n n_2 : Int) (s : List UInt8) (rows : List (List AV)) => (some (.agg [.int .i64 n, .int .i64 n_2, .str s, .sl rows], q.2)))) (Res e (withinG (a * b))) := by
  intro x y sg hx hy hsg hab
  rw [mul64_ev (by omega) (by omega)]
  simp only [kOptSome, kTup, kCons, kInt_int, kNil, mRaise_ev, kTmV_av, av_unf]
  have hbad : (x * y : Nat) > 576460752303423488 → withinG (a * b) = none := by
   intro h
   unfold withinG
   rw [if_neg]
   rintro ⟨h1, h2⟩
   rw [hab] at h1 h2
   rcases hsg with rfl | rfl <;> omega
  rw [hab] at hbad ⊢
  generalize x * y = p at *
  by_cases c1 : p / 18446744073709551616 > 0
  ·rw [decide_eq_true (by omega), cond_true, hbad (by omega)]; exact ret_true
  ·rw [decide_eq_false (by omega), cond_false]
   have ep : p % 18446744073709551616 = p := by omega
   rw [ep]
   by_cases c2 : p > 576460752303423488
   ·rw [decide_eq_true (by omega), cond_true, hbad c2]; exact ret_true
   ·rw [decide_eq_false (by omega), cond_false, wrap64 (x := (p : Int)) (by omega) (by omega)]
    have : IntKind.wrap .i64 (sg * (p : Int)) = sg * p := by rcases hsg with rfl | rfl <;> exact wrap64 (by omega) (by omega)
    rw [this]
    exact Gets.bind (mNumber_within e _ fun r h1 h2 => h1) fun r h => ret_res h (Res_tm h)
 have wneg : ∀ z : Int, -576460752303423488 ≤ z → z < 0 → IntKind.wrap .u64 (IntKind.wrap .i64 (0 - z)) = ((-z).toNat : Int) := by
  intro z h1 h2
  rw [wrap64 (by omega) (by omega)]
  exact wrapU' (by omega) (by omega)
 have wpos : ∀ z : Int, 0 ≤ z → z ≤ 576460752303423488 → IntKind.wrap .u64 z = (z.toNat : Int) := fun z h1 h2 => wrapU' (by omega) (by omega)
 refine mProduct_run _ _ _ _ _ _ _ _ _ ?_
 unfold zi13 zi14 zi15 zi16 zi17 zi18 zi19 zi20 zi21 zi4 zi5 zi6 zi7 zi8 zi9 zi10 zi11 zi12 zi1 zi2 zi3
 by_cases ca : a < 0
 ·rw [decide_eq_true ca, cond_true]
  by_cases cb : b < 0
  ·rw [decide_eq_true cb, cond_true, wneg a a1 ca, wneg b b1 cb]
   refine fin (-a).toNat (-b).toNat 1 (by omega) (by omega) (Or.inl rfl) ?_
   rw [Int.natCast_mul, Int.toNat_of_nonneg (by omega), Int.toNat_of_nonneg (by omega), Int.neg_mul_neg, Int.one_mul]
  ·rw [decide_eq_false cb, cond_false, wneg a a1 ca, wpos b (by omega) (by omega)]
   refine fin (-a).toNat b.toNat (-1) (by omega) (by omega) (Or.inr rfl) ?_
   rw [Int.natCast_mul, Int.toNat_of_nonneg (by omega), Int.toNat_of_nonneg (by omega), Int.neg_mul, Int.one_mul, Int.neg_mul, Int.neg_neg]
 ·rw [decide_eq_false ca, cond_false]
  by_cases cb : b < 0
  ·rw [decide_eq_true cb, cond_true, wpos a (by omega) (by omega), wneg b b1 cb]
   refine fin a.toNat (-b).toNat (-1) (by omega) (by omega) (Or.inr rfl) ?_
   rw [Int.natCast_mul, Int.toNat_of_nonneg (by omega), Int.toNat_of_nonneg (by omega), Int.neg_mul, Int.one_mul, Int.mul_neg, Int.neg_neg]
  ·rw [decide_eq_false cb, cond_false, wpos a (by omega) (by omega), wpos b (by omega) (by omega)]
   refine fin a.toNat b.toNat 1 (by omega) (by omega) (Or.inl rfl) ?_
   rw [Int.natCast_mul, Int.toNat_of_nonneg (by omega), Int.toNat_of_nonneg (by omega), Int.one_mul]
end Go.Proofs.YtkgkjngbfdnoiaaGreat
end

section
namespace Go.Av
theorem fits64 {n : Nat} (h : n ≤ 1099511627776) : fitsIn n 64 = true := by
 unfold fitsIn
 rw [Bool.and_eq_true, Nat.ble_eq, Nat.ble_eq]
 omega
theorem kEnv {α : Type} (o : Tm) (bd : List (List AV)) (self : Int) (K : Int → Int → List UInt8 → List (List AV) → List (List AV) → Int → Option α) : (kAgg (.agg [.int .i64 o.kind, .int .i64 o.num, .str o.str, .sl (rowsT o.subs), .sl bd, .int .i64 self]) fun cs => kCons cs fun c cs => kInt .i64 c fun n => kCons cs fun c cs => kInt .i64 c fun n_1 => kCons cs fun c cs => kStr c fun s => kCons cs fun c cs => kSl c fun rows => kCons cs fun c cs => kSl c fun rows_1 => kCons cs fun c cs => kInt .i64 c fun n_2 => kNil cs (K n n_1 s rows rows_1 n_2)) = K o.kind o.num o.str (rowsT o.subs) bd self := rfl
end Go.Av
namespace Go.Proofs.YtkgkjngbfdnoiaaGreat
open Go.Av
theorem copied_ev {e : Env} (he : EnvW e) : EVf (EV cfg) 16 [envR e.obj e.binds e.self] = some (envR e.obj e.binds e.self) := by
 have hlen := he.len
 have hc := copyTerm_ev e.obj he.obj
 have e1 : ∀ {i : Nat} (h : i < e.binds.length), e.binds.take (i + 1) = e.binds.take i ++ [e.binds[i]] := fun {i} h => by rw [List.take_add_one, List.getElem?_eq_getElem h]; rfl
 have row : ∀ (i : Nat) (h : i < e.binds.length) (k : List AV → Option AV), kOpt (List.get?Internal (bindsR e.binds) (Int.toNat (i : Int))) k = k (.int .i64 e.binds[i].1 :: e.binds[i].2.cells) := fun i h k => by
  rw [get?Internal_eq, Int.toNat_natCast, bindsR_get, List.getElem?_eq_getElem h]; rfl
 have cp : ∀ (i : Nat) (h : i < e.binds.length), EVf (EV cfg) 15 [e.binds[i].2.av] = some e.binds[i].2.av := fun i h => copyTerm_ev _ (he.binds _ (List.getElem_mem h))
 have loop : ∀ (d i : Nat), i + d = e.binds.length → Gets (wc8_0a i e.obj.kind e.obj.num e.obj.str (rowsT e.obj.subs) (bindsR e.binds) e.self 0 0 [] 0 e.obj.kind e.obj.num e.obj.str (rowsT e.obj.subs) i e.self (bindsR (e.binds.take i))) (· = envR e.obj e.binds e.self) := by
  intro d
  induction d with
  | zero =>
   intro i hi
   refine wc8_0a_step _ _ _ _ _ _ _ _ _ _ _ _ _ _ _ _ _ _ ?_
   obtain rfl : i = e.binds.length := by omega
   have hb : Nat.ble (0 + e.binds.length) e.binds.length = true := by rw [Nat.ble_eq]; omega
   have ht : List.take e.binds.length (bindsR e.binds) = bindsR e.binds := List.take_of_length_le (by rw [bindsR_len]; omega)
   rw [bindsR_len, decide_eq_false (by omega), List.take_length, bindsR_len, hb, ht]
   exact ⟨_, rfl, rfl⟩
  | succ d ih =>
   intro i hi
   refine wc8_0a_step _ _ _ _ _ _ _ _ _ _ _ _ _ _ _ _ _ _ ?_
   have hil : i < e.binds.length := by omega
   have h := ih (i + 1) (by omega)
   have e3 : Nat.ble (0 + i) (bindsR (e.binds.take i)).length = true := by rw [bindsR_len, List.length_take, Nat.ble_eq]; omega
   have e2 : List.append (List.take i (bindsR (e.binds.take i))) [AV.int .i64 e.binds[i].1 :: e.binds[i].2.cells] = bindsR (e.binds.take (i + 1)) := by
    rw [List.take_of_length_le (by rw [bindsR_len, List.length_take]; omega), e1 hil]; unfold bindsR; rw [List.map_append]; rfl
   rw [bindsR_len, decide_eq_true (show (i : Int) < (e.binds.length : Int) by omega), leInt_zero, ltInt_nat, decide_eq_true hil, wrap_succ hil hlen]
   simp only [row i hil]
   rw [e3, fits64 (by omega)]
   simp only [cond_true, Bool.and_self, List.length_cons, length_cells, show Nat.beq (4 + 1) 5 = true from rfl, show Nat.ble 5 (4 + 1) = true from rfl, get?Internal_eq, List.getElem?_cons_zero, kOptSome, kInt_int, List.drop_succ_cons, List.drop_zero, take_cells, kChain, av_unf, cp i hil, kTmV_av]
   rw [← Tm.cells_eq, e2]
   exact h
 apply Gets.get
 unfold envR at *
 rw [Tm.av, Tm.cells_eq] at hc
 refine law17Copied_run _ _ _ _ _ _ ?_
 rw [hc]
 have e5 : (AV.agg [.int .i64 e.obj.kind, .int .i64 e.obj.num, .str e.obj.str, .sl (rowsT e.obj.subs)]) = e.obj.av := av_unf _
 rw [e5]
 simp only [kOptSome, kTmV_av]
 refine wc8_0_step _ _ _ _ _ _ _ _ _ _ _ _ _ _ _ _ ?_
 by_cases h0 : e.binds = []
 ·rw [h0]
  exact ⟨_, rfl, rfl⟩
 ·have hil : 0 < e.binds.length := List.length_pos_iff.2 h0
  have h := loop (e.binds.length - 1) 1 (by omega)
  have r0 := row 0 hil
  have w1 : IntKind.wrap .i64 (0 + 1) = ((1 : Nat) : Int) := wrap64 (by omega) (by omega)
  have e6 : bindsR (e.binds.take 1) = [AV.int .i64 e.binds[0].1 :: e.binds[0].2.cells] := by
   rw [e1 hil]; rfl
  have l0 : leInt 0 0 = true := rfl
  have l1 : ltInt 0 (e.binds.length : Int) = true := decide_eq_true (by omega)
  rw [bindsR_len, decide_eq_true (show (0 : Int) < (e.binds.length : Int) by omega), l0, l1, w1, fits64 (by omega)]
  have r0' : ∀ (k : List AV → Option AV), kOpt (List.get?Internal (bindsR e.binds) (Int.toNat 0)) k = k (.int .i64 e.binds[0].1 :: e.binds[0].2.cells) := r0
  simp only [r0']
  simp only [cond_true, Bool.and_self, List.length_cons, length_cells, show Nat.beq (4 + 1) 5 = true from rfl, show Nat.ble 5 (4 + 1) = true from rfl, get?Internal_eq, List.getElem?_cons_zero, kOptSome, kInt_int, List.drop_succ_cons, List.drop_zero, take_cells, kChain, av_unf, cp 0 hil, kTmV_av]
  rw [← Tm.cells_eq, ← e6]
  exact h
theorem sameBinds_ev {A B : List (Int × Tm)} (hlen : A.length < 1099511627776) (hw : ∀ p ∈ A, p.2.w < 1099511627776) : Gets (EVs (EV cfg) 77 [.sl (bindsR A), .sl (bindsR B)]) (Tells (A = B)) := by
 have loop : A.length = B.length → ∀ (d i : Nat), i + d = A.length → Gets (wa31_0 (bindsR A) (bindsR B) i) (Tells (A.drop i = B.drop i)) := by
  intro hl d
  induction d with
  | zero =>
   intro i hi
   refine wa31_0_step _ _ _ ?_
   rw [bindsR_len, decide_eq_false (by omega), List.drop_eq_nil_of_le (by omega), List.drop_eq_nil_of_le (by omega)]
   exact ⟨_, rfl, true, rfl, by simp⟩
  | succ d ih =>
   intro i hi
   have hil : i < A.length := by omega
   have hil' : i < B.length := by omega
   have hx : A[i]? = some A[i] := List.getElem?_eq_getElem hil
   have hy : B[i]? = some B[i] := List.getElem?_eq_getElem hil'
   have h := ih (i + 1) (by omega)
   have hs := sameT_ev A[i].2 (ok_of_w _ (hw _ (List.getElem_mem hil))) B[i].2
   refine wa31_0_step _ _ _ ?_
   rw [List.drop_eq_getElem_cons hil, List.drop_eq_getElem_cons hil', bindsR_len, bindsR_len, decide_eq_true (show (i : Int) < (A.length : Int) by omega), leInt_zero, ltInt_nat, ltInt_nat, decide_eq_true hil, decide_eq_true hil', wrap_succ hil hlen]
   simp only [get?Internal_eq, Int.toNat_natCast, bindsR_get, hx, hy, Option.map_some, cond_true, Bool.and_self, List.length_cons, length_cells, show Nat.beq (4 + 1) 5 = true from rfl, show Nat.ble 5 (4 + 1) = true from rfl, List.getElem?_cons_zero, kOptSome, kInt_int, List.drop_succ_cons, List.drop_zero, take_cells, kChain, av_unf]
   have bneI : (A[i].1 != B[i].1) = !decide (A[i].1 = B[i].1) := by rw [bne, beqI]
   rw [bneI]
   by_cases h1 : A[i].1 = B[i].1
   ·rw [decide_eq_true h1]
    refine Gets.bind hs ?_
    rintro _ ⟨b, rfl, hb⟩
    cases b with
    | true =>
     refine Gets.mono h ?_
     rintro _ ⟨c, rfl, hc⟩
     refine ⟨c, rfl, hc.trans ?_⟩
     have e : A[i] = B[i] := Prod.ext h1 (hb.1 rfl)
     exact ⟨fun h => by rw [e, h], fun h => (List.cons.inj h).2⟩
    | false =>
     refine ⟨_, rfl, false, rfl, ?_⟩
     simp only [Bool.false_eq_true, false_iff]
     intro e
     have := (List.cons.inj e).1
     have := hb.2 (by rw [this])
     cases this
   ·rw [decide_eq_false h1]
    refine ⟨_, rfl, false, rfl, ?_⟩
    simp only [Bool.false_eq_true, false_iff]
    intro e
    exact h1 (by rw [(List.cons.inj e).1])
 refine sameBinds_run _ _ ?_
 rw [bindsR_len, bindsR_len]
 have bneI : (((A.length : Nat) : Int) != ((B.length : Nat) : Int)) = !decide ((A.length : Int) = (B.length : Int)) := by rw [bne, beqI]
 rw [bneI]
 by_cases hl : A.length = B.length
 ·rw [decide_eq_true (by omega)]
  exact loop hl A.length 0 (by omega)
 ·rw [decide_eq_false (by omega)]
  exact ⟨_, rfl, false, rfl, by simp; intro e; exact hl (by rw [e])⟩
theorem same17_ev {e : Env} (he : EnvW e) : EVs (EV cfg) 21 [envR e.obj e.binds e.self, envR e.obj e.binds e.self] = some (.bool true) := by
 have h1 := sameT_dec (ok_of_w _ he.obj) (b := e.obj) (c := true) (by simp)
 have h2 : EVs (EV cfg) 77 [.sl (bindsR e.binds), .sl (bindsR e.binds)] = some (.bool true) := by
  obtain ⟨_, h1, b, rfl, h2⟩ := sameBinds_ev (B := e.binds) he.len he.binds
  rw [h1, h2.2 rfl]
 apply Gets.get
 unfold envR
 refine law17Same_run _ _ _ _ _ _ _ _ _ _ _ _ ?_
 have e5 : (AV.agg [.int .i64 e.obj.kind, .int .i64 e.obj.num, .str e.obj.str, .sl (rowsT e.obj.subs)]) = e.obj.av := av_unf _
 rw [e5, h1, h2]
 simp only [kOptSome, kBool_bool, cond_true, beq_self_eq_true]
 exact ⟨_, rfl, rfl⟩
end Go.Proofs.YtkgkjngbfdnoiaaGreat
end

section
namespace Go.Av
theorem bne0 (z : Int) : (z != 0) = !decide (z = 0) := by rw [bne, beqI]
theorem bneII (a b : Int) : (a != b) = !decide (a = b) := by rw [bne, beqI]
end Go.Av
namespace Go.Proofs.YtkgkjngbfdnoiaaGreat
open Go.Av
end Go.Proofs.YtkgkjngbfdnoiaaGreat
namespace Go.Proofs.YtkgkjngbfdnoiaaGreat.R
open Go.Av
theorem gEvalR_ev (hp : ProductOk) {e : Env} (he : EnvW e) {t : Tm} (ht : t.w < 1099511627776) : EVg (EV cfg) 17 [t.av, envR e.obj e.binds e.self] = some (evalR (evalG e t)) := by
 have hm := guardMay_ev he.len he.binds he.obj e.self
 have hz : AV.agg [.int .i64 0, .int .i64 0, .str [], .sl []] = zeroT.av := zeroT_av.symm
 apply Gets.get
 unfold envR at hm ⊢
 unfold evalR evalG envG
 rw [Tm.av, Tm.cells_eq]
 refine gEvalR_run _ _ _ _ _ _ _ _ _ _ ?_
 rw [evf_k _ rfl rfl, hm]
 unfold mayR
 cases hb : mayB (-1) e.binds with
 | false =>
  rw [if_neg (by simp)]
  simp only [kOptSome, kTup, kCons, kSl_sl, kBool_bool, kNil, Bool.not_false, cond_true, hz, Bool.false_and]
  exact ⟨_, rfl, by rw [if_neg (by simp)]⟩
 | true =>
  rw [if_pos rfl]
  simp only [kOptSome, kTup, kCons, kSl_sl, kBool_bool, kNil, hz, Bool.true_and, List.nil_append, av_unf]
  cases ho : (decide (e.obj.chk = 0) && selfG e.self) with
  | false =>
   simp only [Bool.not_false, cond_true, Bool.false_and]
   exact ⟨_, rfl, by rw [if_neg (by simp)]⟩
  | true =>
   have hok : EnvOk e := envG_ok.1 (by unfold envG; rw [hb, ho]; rfl)
   have hc := guardCheck_ev (V := namesG e) (by unfold namesG; rw [List.length_map]; exact he.len) ht
   have hn : e.binds.map (·.1) = namesG e := rfl
   simp only [Bool.not_true, cond_false, Bool.true_and, hn]
   rw [evs_k _ rfl rfl, hc]
   simp only [kOptSome, kInt_int]
   by_cases h0 : checkG (namesG e) t = 0
   ·obtain ⟨h1, h2⟩ := checkG_zero h0
    have hv := mValue_ev hok hp t.w t (Nat.le_refl _) h1 h2
    rw [if_pos (decide_eq_true h0), h0]
    simp only [show ((0 : Int) != 0) = false from rfl, cond_false]
    rw [evd_k _ _ _ rfl rfl]
    show Gets (kOpt (EVd (EV Go.Proofs.YtkgkjngbfdnoiaaGreat.cfg) _ _ 7 (mR e false)) _) _
    refine Gets.bind hv ?_
    intro r hr
    cases hvv : valG e t with
    | none =>
     rw [hvv] at hr
     obtain ⟨g1, z, g2⟩ := hr
     rw [g1, g2]
     simp only [kTmV_av, mR_row, mR_bad, kOptSome, kBool_bool, cond_true]
     exact ⟨_, rfl, rfl⟩
    | some v =>
     rw [hvv] at hr
     obtain rfl : r = (v.av, mR e false) := hr
     have hcp := copyR_ev (ok_chk (valG_chk hok _ t (Nat.le_refl _) h1 h2 v hvv))
     simp only [kTmV_av, mR_row, mR_bad, kOptSome, kBool_bool, cond_false, av_unf, hcp]
     exact ⟨_, rfl, rfl⟩
   ·have : (checkG (namesG e) t != 0) = true := by simpa using h0
    rw [this, if_neg (by simpa using h0)]
    exact ⟨_, rfl, rfl⟩
end Go.Proofs.YtkgkjngbfdnoiaaGreat.R
end

section
namespace Go.Av
theorem zeroT_w : zeroT.w < 1099511627776 := by unfold zeroT; rw [Tm.w_mk]; simp
theorem evalG_w {e : Env} {t : Tm} : (evalG e t).1.w < 1099511627776 := by
 unfold evalG
 split
 ·rename_i h
  rw [Bool.and_eq_true, decide_eq_true_eq] at h
  obtain ⟨h1, h2⟩ := checkG_zero h.2
  split
  ·rename_i v hv
   have := w_chk (valG_chk (envG_ok.1 h.1) _ t (Nat.le_refl _) h1 h2 v hv)
   simp only
   omega
  ·exact zeroT_w
 ·exact zeroT_w
end Go.Av
namespace Go.Proofs.YtkgkjngbfdnoiaaGreat.R
open Go.Av
theorem overAv_ev {t : Tm} (h : t.Ok) : EVz (EV cfg) 20 (.agg [.int .i64 t.kind, .int .i64 t.num, .str t.str, .rsl 0 (rowsT t.subs)]) = some () := overT_ev t h
theorem guardEvals_ev {e : Env} (he : EnvW e) {t : Tm} (ht : t.w < 1099511627776) : EVs (EV cfg) 3 [t.av, envR e.obj e.binds e.self] = some (.bool true) := by
 have hl : OkL [t] := okL_of_w (by rw [wL_cons, wL_nil]; omega)
 have h1 := largeE_ev hl (by simp) he
 have h2 := copyTerm_ev t ht
 have h3 := copied_ev he
 have h4 := gEvalR_ev product_ok he ht
 have h5 := r17Eval_ev he ht
 have h6 : EVs (EV Go.Proofs.YtkgkjngbfdnoiaaGreat.cfg) 19 [t.av, t.av] = some (.bool true) := sameT_dec (ok_of_w _ ht) (by simp)
 have h7 := same17_ev he
 have hv := @evalG_w e t
 generalize evalG e t = ev at *
 have h8 : EVs (EV Go.Proofs.YtkgkjngbfdnoiaaGreat.cfg) 19 [ev.1.av, ev.1.av] = some (.bool true) := sameT_dec (ok_of_w _ hv) (by simp)
 have h9 := overAv_ev (ok_of_w _ hv)
 rw [← evf_k _ rfl rfl] at h2 h3 h5
 rw [← evs_k _ rfl rfl] at h6 h7 h8
 have h10 := guardKnown_k47
 rw [← evs_k _ rfl rfl] at h10
 rw [← evs_k _ rfl rfl] at h1
 apply Gets.get
 unfold envR evalR at *
 rw [Tm.av, Tm.cells_eq]
 have hr : rowsT [t] = [[AV.int .i64 t.kind, .int .i64 t.num, .str t.str, .sl (rowsT t.subs)]] := by rw [rowsT_cons, rowsT_nil, Tm.cells_eq]
 rw [hr] at h1
 refine law17Evals_run _ _ _ _ _ _ _ _ _ _ ?_
 refine Gets.bind h1 ?_
 rintro _ ⟨b, rfl⟩
 cases b with
 | true => exact ⟨_, rfl, rfl⟩
 | false =>
  simp only [kBool_bool, cond_false, av_unf]
  rw [h2, h3]
  simp only [kOptSome, kTmV_av, kEnv, av_unf, h4, kEvalR, h5, bneII, decide_true, Bool.not_true, cond_false, h8, kBool_bool, h9, h6, h7, cond_true, h10]
  exact ⟨_, rfl, rfl⟩
end Go.Proofs.YtkgkjngbfdnoiaaGreat.R
end
