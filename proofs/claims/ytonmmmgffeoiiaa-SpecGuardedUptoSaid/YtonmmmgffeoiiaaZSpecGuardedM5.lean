/-
  Parts of the proof of SpecGuardedUptoSaid, put together: the abstract evaluation and its contracts. Own work.
  What is proved: each lemma as it stands; no condition.
-/
import Derived.Test.YtonmmmgffeoiiaaZSpecGuardedM4

section
namespace Go.Av
def lsR (r : List Tm × Bool) : AV := .tup [.sl (rowsT r.1), .bool r.2]
end Go.Av
namespace Go.Proofs.Ytonmmmgffeoiiaa
open Go.Av
theorem patAny_ev {t : Tm} (h : t.w < 1099511627776) : EVs (EV cfg) 65 [t.av] = some (.bool (anyT t)) := by
  have hm := patMay_ev h
  apply Gets.get
  rw [Tm.av, Tm.cells_eq] at hm ⊢
  refine patAny_run _ _ _ _ ?_
  rw [hm]
  simp only [beqI, beqS, kOptSome, kBool_bool]
  unfold anyT
  cases decide (t.kind = 2) <;> cases decide (t.str = [95]) <;> exact ⟨_, rfl, rfl⟩
theorem spHead_ev {t : Tm} (h : t.w < 1099511627776) : EVs (EV cfg) 56 [t.av] = some (.bool (headG t)) := by
  have hv := patVar_ev h
  have ha := patAny_ev h
  apply Gets.get
  rw [Tm.av, Tm.cells_eq] at hv ha ⊢
  refine spHead_run _ _ _ _ ?_
  rw [hv, ha]
  unfold headG varR
  simp only [beqI, kOptSome, kBool_bool, kTup, kCons, kInt_int, kNil]
  cases (varT t).isSome <;> cases decide (t.kind = 7) <;> exact ⟨_, rfl, rfl⟩
theorem cloneT_ev {x : Tm} {l : List Tm} (h : l.length < 1099511627775) : EVo (EV cfg) 44 [.sl (rowsT (x :: l))] = some (.own 4 (rowsT (x :: l)) 0 (x :: l).length) := by
  apply Gets.get
  rw [rowsT_cons]
  refine cloneT_run _ _ ?_
  rw [← rowsT_cons, rowsOk_rowsT]
  simp only [cond_true, rowsT_length, List.length_cons, Nat.zero_add, fits56 (show l.length + 1 ≤ 1099511627776 by omega)]
  exact ⟨_, rfl, rfl⟩
theorem makeTuple_ev {x : Tm} {l : List Tm} (h : l.length < 1099511627775) : EVf (EV cfg) 31 [.sl (rowsT (x :: l))] = some (tupT (x :: l)).av := by
  apply Gets.get
  refine makeTuple_run _ ?_
  rw [cloneT_ev h, tupT, Tm.av_mk]
  have hb : Nat.ble (0 + (x :: l).length) (rowsT (x :: l)).length = true := by rw [Nat.ble_eq, rowsT_length]; omega
  have ht : List.take (x :: l).length (List.drop 0 (rowsT (x :: l))) = rowsT (x :: l) := List.take_of_length_le (by simp)
  simp only [kOptSome, kOwn_own, hb, ht, Bool.and_true, cond_true]
  exact ⟨_, rfl, rfl⟩
theorem spCopies_ev {l : List Tm} (hlen : l.length < 1099511627776) (hc : ∀ x ∈ l, x.Ok) : EVf (EV cfg) 30 [.sl (rowsT l)] = some (.sl (rowsT l)) := by
  have loop : ∀ d i : Nat, i + d = l.length → Gets (we30_0 (rowsT l) i i (rowsT (l.take i))) (· = .sl (rowsT l)) := by
    intro d
    induction d with
    | zero =>
      intro i hi
      refine we30_0_step _ _ _ _ ?_
      obtain rfl : i = l.length := by omega
      have hb : Nat.ble (0 + l.length) (rowsT l).length = true := by rw [Nat.ble_eq, rowsT_length]; omega
      have ht : List.take l.length (rowsT l) = rowsT l := List.take_of_length_le (by simp)
      rw [List.take_length, hb, ht, rowsT_length, decide_eq_false (by omega)]
      exact ⟨_, rfl, rfl⟩
    | succ d ihd =>
      intro i hi
      have hil : i < l.length := by omega
      refine we30_0_step _ _ _ _ ?_
      have hx : l[i]? = some l[i] := List.getElem?_eq_getElem hil
      have h1 := copy_ev (hc l[i] (List.mem_of_getElem? hx))
      have h2 := ihd (i + 1) (by omega)
      have e1 : l.take (i + 1) = l.take i ++ [l[i]] := by rw [List.take_add_one, hx]; rfl
      have ht : (rowsT (l.take i)).length = i := by rw [rowsT_length, List.length_take]; omega
      have e2 : List.append (List.take i (rowsT (l.take i))) [l[i].cells] = rowsT (l.take (i + 1)) := by
        rw [List.take_of_length_le (by omega), e1, rowsT_append, rowsT_cons, rowsT_nil]; rfl
      have e3 : Nat.ble (0 + i) (rowsT (l.take i)).length = true := by rw [ht, Nat.ble_eq]; omega
      rw [rowsT_length, decide_eq_true (show (i : Int) < (l.length : Int) by omega), leInt_zero, ltInt_nat, decide_eq_true hil, rowsT_at hx, wrap_succ hil hlen, e3, fits56 (by omega)]
      simp only [cond_true, Bool.and_self, length_cells, Nat.beq_refl, take_cells, kTmC_cells, ble44, av_unf, h1, kOptSome, kTmV_av]
      rw [← Tm.cells_eq, e2]
      exact h2
  apply Gets.get
  refine spCopies_run _ ?_
  exact (by simpa [rowsT_nil] using loop l.length 0 (by omega))
theorem spList_loopA {c : Tm} {b : Bool} : ∀ (n : Nat) (t : Tm) (acc : List Tm), t.w ≤ n → t.chk = 0 → acc.length + n < 1099511627776 → Gets (we58_0a c.kind c.num c.str (rowsT c.subs) acc.length b t.kind t.num t.str (rowsT t.subs) (rowsT acc)) (· = lsR (acc ++ (itemsG t).1, (itemsG t).2)) := by
  intro n
  induction n with
  | zero => intro t acc h; have := w_pos t; omega
  | succ n ih =>
    intro t acc hw hc hn
    refine we58_0a_step _ _ _ _ _ _ _ _ _ _ _ ?_
    rw [beqI, beqI]
    by_cases h9 : t.kind = 9
    · obtain ⟨x, y, hs⟩ := cons_chk hc h9
      have hwe := t.w_eq
      rw [hs] at hwe
      simp only [wL_cons, wL_nil] at hwe
      have h := ih y (acc ++ [x]) (by omega) (chk_sub hc (by rw [hs]; simp)) (by simp; omega)
      have e1 : Nat.ble (0 + acc.length) (rowsT acc).length = true := by rw [Nat.ble_eq, rowsT_length]; omega
      have e2 : List.take acc.length (rowsT acc) = rowsT acc := List.take_of_length_le (by simp)
      have e3 : ltInt (acc.length : Int) ((acc.length + 1 : Nat) : Int) = true := decide_eq_true (by omega)
      have e4 : (List.append (rowsT acc) [[AV.int .i64 0, .int .i64 0, .str [], .nilS]])[0 + Int.toNat (acc.length : Int)]? = some [AV.int .i64 0, .int .i64 0, .str [], .nilS] := by
        rw [Int.toNat_natCast, Nat.zero_add]
        have := app_get0 (rowsT acc) [AV.int .i64 0, .int .i64 0, .str [], .nilS]
        rw [rowsT_length] at this
        exact this
      have e5 : List.set (List.append (rowsT acc) [[AV.int .i64 0, .int .i64 0, .str [], .nilS]]) (0 + Int.toNat (acc.length : Int)) x.cells = rowsT (acc ++ [x]) := by
        rw [Int.toNat_natCast, Nat.zero_add]
        have := app_set0 (rowsT acc) [AV.int .i64 0, .int .i64 0, .str [], .nilS] x.cells
        rw [rowsT_length] at this
        rw [rowsT_append, rowsT_cons, rowsT_nil]
        exact this
      rw [decide_eq_true h9, cond_true, hs, lt0T, get0T, lt1T, get1T, e1, e2, fits56 (by omega), leInt_zero, e3, get?Internal_eq, e4]
      simp only [cond_true, Bool.and_self, kOptSome, length_cells, Nat.beq_refl, take_cells, kTmC_cells, ble44, List.length_cons, List.length_nil, show Nat.ble 4 (0 + 1 + 1 + 1 + 1) = true from rfl, List.drop_succ_cons, List.drop_zero]
      rw [← Tm.cells_eq, e5, itemsG_cons h9 hs]
      rw [List.length_append] at h
      refine Gets.mono h ?_
      rintro _ rfl
      simp [lsR]
    · have e1 : Nat.ble (0 + acc.length) (rowsT acc).length = true := by rw [Nat.ble_eq, rowsT_length]; omega
      have e2 : List.take acc.length (rowsT acc) = rowsT acc := List.take_of_length_le (by simp)
      rw [decide_eq_false h9, cond_false, e1, e2, itemsG_end h9]
      exact ⟨_, rfl, by simp [lsR]⟩
theorem spList_loop {c : Tm} {b : Bool} : ∀ (n : Nat) (t : Tm) (acc : List Tm), t.w ≤ n → t.chk = 0 → acc.length + n < 1099511627776 → Gets (we58_0 c.kind c.num c.str (rowsT c.subs) acc.length b t.kind t.num t.str (rowsT t.subs) (rowsT acc)) (· = lsR (acc ++ (itemsG t).1, (itemsG t).2)) := by
  intro n
  induction n with
  | zero => intro t acc h; have := w_pos t; omega
  | succ n ih =>
    intro t acc hw hc hn
    refine we58_0_step _ _ _ _ _ _ _ _ _ _ _ ?_
    rw [beqI, beqI]
    by_cases h9 : t.kind = 9
    · obtain ⟨x, y, hs⟩ := cons_chk hc h9
      have hwe := t.w_eq
      rw [hs] at hwe
      simp only [wL_cons, wL_nil] at hwe
      have h := spList_loopA (c := c) (b := b) n y (acc ++ [x]) (by omega) (chk_sub hc (by rw [hs]; simp)) (by simp; omega)
      have e1 : Nat.ble (0 + acc.length) (rowsT acc).length = true := by rw [Nat.ble_eq, rowsT_length]; omega
      have e2 : List.take acc.length (rowsT acc) = rowsT acc := List.take_of_length_le (by simp)
      have e3 : ltInt (acc.length : Int) ((acc.length + 1 : Nat) : Int) = true := decide_eq_true (by omega)
      have e4 : (List.append (rowsT acc) [[AV.int .i64 0, .int .i64 0, .str [], .nilS]])[0 + Int.toNat (acc.length : Int)]? = some [AV.int .i64 0, .int .i64 0, .str [], .nilS] := by
        rw [Int.toNat_natCast, Nat.zero_add]
        have := app_get0 (rowsT acc) [AV.int .i64 0, .int .i64 0, .str [], .nilS]
        rw [rowsT_length] at this
        exact this
      have e5 : List.set (List.append (rowsT acc) [[AV.int .i64 0, .int .i64 0, .str [], .nilS]]) (0 + Int.toNat (acc.length : Int)) x.cells = rowsT (acc ++ [x]) := by
        rw [Int.toNat_natCast, Nat.zero_add]
        have := app_set0 (rowsT acc) [AV.int .i64 0, .int .i64 0, .str [], .nilS] x.cells
        rw [rowsT_length] at this
        rw [rowsT_append, rowsT_cons, rowsT_nil]
        exact this
      rw [decide_eq_true h9, cond_true, hs, lt0T, get0T, lt1T, get1T, e1, e2, fits56 (by omega), leInt_zero, e3, get?Internal_eq, e4]
      simp only [cond_true, Bool.and_self, kOptSome, length_cells, Nat.beq_refl, take_cells, kTmC_cells, ble44, List.length_cons, List.length_nil, show Nat.ble 4 (0 + 1 + 1 + 1 + 1) = true from rfl, List.drop_succ_cons, List.drop_zero]
      rw [← Tm.cells_eq, e5, itemsG_cons h9 hs]
      rw [List.length_append] at h
      refine Gets.mono h ?_
      rintro _ rfl
      simp [lsR]
    · have e1 : Nat.ble (0 + acc.length) (rowsT acc).length = true := by rw [Nat.ble_eq, rowsT_length]; omega
      have e2 : List.take acc.length (rowsT acc) = rowsT acc := List.take_of_length_le (by simp)
      rw [decide_eq_false h9, cond_false, e1, e2, itemsG_end h9]
      exact ⟨_, rfl, by simp [lsR]⟩
theorem spList_ev {t : Tm} (hc : t.chk = 0) : EVf (EV cfg) 58 [t.av] = some (lsR (itemsG t)) := by
  apply Gets.get
  rw [Tm.av, Tm.cells_eq]
  refine spList_run _ _ _ _ ?_
  have hw := w_chk hc
  have h := spList_loop (c := t) (b := false) t.w t [] (Nat.le_refl _) hc (by simp; omega)
  rw [rowsT_nil] at h
  exact h
end Go.Proofs.Ytonmmmgffeoiiaa
end

section
namespace Go.Proofs.Ytonmmmgffeoiiaa
open Go.Av
set_option maxRecDepth 100000
set_option maxHeartbeats 0

noncomputable def Lk57_0 : Den := evC cfg (EV cfg) 75 none 4 (sub (bodyOf Try.f75) [0, 1, 1, 0, 0])
noncomputable def Ak57_0 : Ex × List AV × AH → Option AV := kAft (Cfg.keepOut cfg 75 (firstRid (sub (bodyOf Try.f75) [0, 1, 1, 0, 0]))) (kBlock 0 (kScope (kFinG cfg (Cfg.lift cfg 75 0) (fun (v : AV) (H : AH) => (fun (r : AV × AH) => kRangeEnd 0 3 (fx 40 [(3, AV.ptr 1 0 0)]) (kBlock 0 (kSeq (fun (fr : List AV) (H : AH) => kCutTo (Cfg.cut cfg 57 (firstRid (sub (bodyOf Try.f57) [1, 1, 1, 1]))) fr H fun (fr : List AV) (H : AH) => kCode cfg (EV cfg) (kfN cfg 6) 57 none 0 (sub (bodyOf Try.f57) [1, 1, 1, 1]) fr H (kFinF cfg (Cfg.lift cfg 57 0) (Array.toList (Func.results Try.f57)))) (kFinF cfg (Cfg.lift cfg 57 0) (Array.toList (Func.results Try.f57))))) (Prod.snd r)) (v, H)) (Array.toList (Func.results (Prod.snd (75, Try.f75)))))))
noncomputable def Wk57_0 : List AV × AH → Option AV := fun (p : List AV × AH) => kOpt (LOOP 4 (some [0, 3]) [(3, 4)] Lk57_0 p) Ak57_0
noncomputable def Lk57_1 : Den := evC cfg (EV cfg) 57 none 0 (sub (bodyOf Try.f57) [1, 1, 1, 1, 1, 0, 1, 0, 0])
noncomputable def Ak57_1 : Ex × List AV × AH → Option AV := kAft (Cfg.keepOut cfg 57 11) (kRun cfg (EV cfg) (kfN cfg 6) 57 none 0 (kFinF cfg (Cfg.lift cfg 57 0) Try.f57.results.toList) ([.block 2, .seq (sub (bodyOf Try.f57) [1, 1, 1, 1, 1, 1])]))
noncomputable def Wk57_1 : List AV × AH → Option AV := fun p => kOpt (LOOP 0 (some [3, 7, 29]) ([(7, 1)]) Lk57_1 p) Ak57_1
noncomputable abbrev wk57_0 (nv3 : Nat) (c0_0 : Int) (c0_1 : Int) (c0_2 : List UInt8) (c0_3 : List (List AV)) (c1_0 : Int) (c1_1 : Int) (c2_0 : Int) (c2_1 : Int) (c2_2 : List UInt8) (c2_3 : List (List AV)) (h4 : List (List AV)) : Option (AV) := Wk57_0  (((fx 37 [(0, AV.yld (3 : Nat)), (3, AV.ms (4 : Nat) (0 : Nat) nv3)]) : List AV), ([ABlk.rows false (4 : Nat) [[AV.int IntKind.i64 c0_0, AV.int IntKind.i64 c0_1, AV.str c0_2, AV.sl c0_3]], ABlk.rows false (2 : Nat) [[AV.int IntKind.u64 c1_0, AV.int IntKind.u64 c1_1]], ABlk.rows false (4 : Nat) [[AV.int IntKind.i64 c2_0, AV.int IntKind.i64 c2_1, AV.str c2_2, AV.sl c2_3]], rngB Try.f57 (57 : Nat) [(1 : Nat), (1 : Nat), (1 : Nat), (0 : Nat), (1 : Nat), (0 : Nat)] (fx 40 [(3, AV.ptr (1 : Nat) (0 : Nat) (0 : Nat))]) none LoopState.ready, ABlk.rows true (4 : Nat) h4] : AH))
noncomputable abbrev wk57_0a (nv3 : Nat) (c0_0 : Int) (c0_1 : Int) (c0_2 : List UInt8) (c0_3 : List (List AV)) (h1 : List (List AV)) (c2_0 : Int) (c2_1 : Int) (c2_2 : List UInt8) (c2_3 : List (List AV)) (h4 : List (List AV)) : Option (AV) := Wk57_0  (((fx 37 [(0, AV.yld (3 : Nat)), (3, AV.ms (4 : Nat) (0 : Nat) nv3)]) : List AV), ([ABlk.rows false (4 : Nat) [[AV.int IntKind.i64 c0_0, AV.int IntKind.i64 c0_1, AV.str c0_2, AV.sl c0_3]], ABlk.rows true (2 : Nat) h1, ABlk.rows false (4 : Nat) [[AV.int IntKind.i64 c2_0, AV.int IntKind.i64 c2_1, AV.str c2_2, AV.sl c2_3]], rngB Try.f57 (57 : Nat) [(1 : Nat), (1 : Nat), (1 : Nat), (0 : Nat), (1 : Nat), (0 : Nat)] (fx 40 [(3, AV.ptr (1 : Nat) (0 : Nat) (0 : Nat))]) none LoopState.ready, ABlk.rows true (4 : Nat) h4] : AH))
noncomputable abbrev wk57_1 (nv7 : Nat) (v29 : Int) (c0_0 : Int) (c0_1 : Int) (h1 : List (List AV)) : Option (AV) := Wk57_1  (((fx 40 [(3, AV.ptr (0 : Nat) (0 : Nat) (0 : Nat)), (7, AV.ms (1 : Nat) (0 : Nat) nv7), (29, AV.int IntKind.i64 v29)]) : List AV), ([ABlk.rows false (2 : Nat) [[AV.int IntKind.u64 c0_0, AV.int IntKind.u64 c0_1]], ABlk.rows true (1 : Nat) h1] : AH))
noncomputable abbrev wk57_1a (nv7 : Nat) (v29 : Int) (h0 : List (List AV)) (h1 : List (List AV)) : Option (AV) := Wk57_1  (((fx 40 [(3, AV.ptr (0 : Nat) (0 : Nat) (0 : Nat)), (7, AV.ms (1 : Nat) (0 : Nat) nv7), (29, AV.int IntKind.i64 v29)]) : List AV), ([ABlk.rows true (2 : Nat) h0, ABlk.rows true (1 : Nat) h1] : AH))
theorem setAdd2_run (n : Int) (r : List AV) {P : MV × List (List AV) → Prop} (h : Gets (bif decide (n < (64 : Int)) then kOpt (List.get?Internal r 0) fun (v : AV) => kInt .u64 v fun (n_1 : Int) => kOpt (fromSem (Op.shift BinOp.shl .u64 (1 : Int) .i64 n)) fun (v : AV) => 
  kInt .u64 v fun (n : Int) => kOpt (fromSem (Op.intBits BinOp.or .u64 n_1 n)) fun (v : AV) => kInt .u64 v fun (n : Int) => bif Nat.ble 1 (List.length r) then some (MV.unit, [AV.int .u64 
  n :: List.drop 1 r]) else none else kOpt (List.get?Internal r 1) fun (v : AV) => kInt .u64 v fun (n_1 : Int) => kOpt (fromSem (Op.shift BinOp.shl .u64 (1 : Int) .i64 (IntKind.wrap .i64 
  (n - (64 : Int))))) fun (v : AV) => kInt .u64 v fun (n : Int) => kOpt (fromSem (Op.intBits BinOp.or .u64 n_1 n)) fun (v : AV) => kInt .u64 v fun (n : Int) => bif Nat.ble 2 (List.length 
  r) then some (MV.unit, [List.append (List.append (List.take 1 r) [AV.int .u64 n]) (List.drop 2 r)]) else none) P) : Gets (EVm (EV cfg) 51 ([AV.ptr (0 : Nat) (0 : Nat) (0 : Nat), AV.int IntKind.i64 n] : List AV) 2 [r]) P :=
  Gets.ev (fun _ h => funM rfl rfl Try.func51 rfl h) (Gets.eq (by kernel_rfl) h)
theorem patVars_run (kp : Int) (np : Int) (sp : List UInt8) (lp : List (List AV)) {P : AV → Prop} (h : Gets (kOpt (EVs (EV cfg) 38 [.agg [AV.int .i64 kp, .int .i64 np, .str sp, .sl lp]]) fun (v : AV) => kBool v fun (b : Bool) => bif !b then some (.sl []) else wk57_0 1 kp np sp lp (0 : Int) (0 
  : Int) kp np sp lp [[AV.int .i64 kp, .int .i64 np, .str sp, .sl lp]]) P) : Gets (EVf (EV cfg) 57 ([AV.agg [AV.int IntKind.i64 kp, AV.int IntKind.i64 np, AV.str sp, AV.sl lp]] : List AV)) P :=
  Gets.ev (fun _ h => funF rfl rfl Try.func57 rfl h) (Gets.eq (by kernel_rfl) h)
theorem wk57_0_step (nv3 : Nat) (c0_0 : Int) (c0_1 : Int) (c0_2 : List UInt8) (c0_3 : List (List AV)) (c1_0 : Int) (c1_1 : Int) (c2_0 : Int) (c2_1 : Int) (c2_2 : List UInt8) (c2_3 : List (List AV)) (h4 : List (List AV)) {P : AV → Prop} (h : Gets (bif decide ((↑nv3 : Int) > (0 : Int)) then bif leInt (0 : Int) (IntKind.wrap .i64 ((↑nv3 : Int) - (1 : Int))) && ltInt (IntKind.wrap .i64 ((↑nv3 : Int) - (1 : Int))) (↑nv3 : Int) then 
  kOpt (List.get?Internal h4 (0 + Int.toNat (IntKind.wrap .i64 ((↑nv3 : Int) - (1 : Int))))) fun (row : List AV) => bif Nat.ble 4 (List.length row) then kTmC (List.take 4 row) fun (n 
  n_1 : Int) (s : List UInt8) (rows : List (List AV)) => (bif leInt (0 : Int) (IntKind.wrap .i64 ((↑nv3 : Int) - (1 : Int))) && leInt (IntKind.wrap .i64 ((↑nv3 : Int) - (1 : Int))) (↑nv3 
  : Int) then bif n == (7 : Int) then bif rowsOk 4 rows then bif Nat.ble (0 + (Int.toNat (IntKind.wrap .i64 ((↑nv3 : Int) - (1 : Int))) - 0)) (List.length h4) && fitsIn (Int.toNat (IntKind.wrap 
  .i64 ((↑nv3 : Int) - (1 : Int))) - 0 + List.length rows) 56 then wk57_0 (Int.toNat (IntKind.wrap .i64 ((↑nv3 : Int) - (1 : Int))) - 0 + List.length rows) c0_0 c0_1 c0_2 c0_3 c1_0 c1_1 
  c2_0 c2_1 c2_2 c2_3 (List.append (List.take (Int.toNat (IntKind.wrap .i64 ((↑nv3 : Int) - (1 : Int))) - 0) h4) rows) else none else none else bif n == (9 : Int) then bif rowsOk 4 rows 
  then bif Nat.ble (0 + (Int.toNat (IntKind.wrap .i64 ((↑nv3 : Int) - (1 : Int))) - 0)) (List.length h4) && fitsIn (Int.toNat (IntKind.wrap .i64 ((↑nv3 : Int) - (1 : Int))) - 0 + List.length 
  rows) 56 then wk57_0 (Int.toNat (IntKind.wrap .i64 ((↑nv3 : Int) - (1 : Int))) - 0 + List.length rows) c0_0 c0_1 c0_2 c0_3 c1_0 c1_1 c2_0 c2_1 c2_2 c2_3 (List.append (List.take (Int.toNat 
  (IntKind.wrap .i64 ((↑nv3 : Int) - (1 : Int))) - 0) h4) rows) else none else none else kOpt (EVs (EV cfg) 52 [.str s]) fun (v : AV) => kTup v fun (cs : List AV) => kCons cs fun (c : 
  AV) (cs : List AV) => kInt .i64 c fun (n_2 : Int) => kCons cs fun (c : AV) (cs : List AV) => kBool c fun (b : Bool) => kNil cs (bif b then bif n == (2 : Int) then kOpt (EVm (EV cfg) 
  51 [.ptr 0 0 0, .int .i64 n_2] 2 [[AV.int .u64 c1_0, .int .u64 c1_1]]) fun (q : MV × List (List AV)) => kMUnit q.1 (wk57_0a (Int.toNat (IntKind.wrap .i64 ((↑nv3 : Int) - (1 : Int))) - 
  0) c0_0 c0_1 c0_2 c0_3 q.2 c2_0 c2_1 c2_2 c2_3 h4) else wk57_0 (Int.toNat (IntKind.wrap .i64 ((↑nv3 : Int) - (1 : Int))) - 0) c0_0 c0_1 c0_2 c0_3 c1_0 c1_1 c2_0 c2_1 c2_2 c2_3 h4 else 
  wk57_0 (Int.toNat (IntKind.wrap .i64 ((↑nv3 : Int) - (1 : Int))) - 0) c0_0 c0_1 c0_2 c0_3 c1_0 c1_1 c2_0 c2_1 c2_2 c2_3 h4) else none) else none else none else wk57_1 0 (0 : Int) c1_0 
  c1_1 []) P) : Gets (wk57_0 nv3 c0_0 c0_1 c0_2 c0_3 c1_0 c1_1 c2_0 c2_1 c2_2 c2_3 h4) P :=
  Gets.ev (fun _ h => loop_step (cfg := cfg) (f := 75) (rd := none) (bs := 4) h) (Gets.eq (by kernel_rfl) h)
theorem wk57_0a_step (nv3 : Nat) (c0_0 : Int) (c0_1 : Int) (c0_2 : List UInt8) (c0_3 : List (List AV)) (h1 : List (List AV)) (c2_0 : Int) (c2_1 : Int) (c2_2 : List UInt8) (c2_3 : List (List AV)) (h4 : List (List AV)) {P : AV → Prop} (h : Gets (bif decide ((↑nv3 : Int) > (0 : Int)) then bif leInt (0 : Int) (IntKind.wrap .i64 ((↑nv3 : Int) - (1 : Int))) && ltInt (IntKind.wrap .i64 ((↑nv3 : Int) - (1 : Int))) (↑nv3 : Int) then 
  kOpt (List.get?Internal h4 (0 + Int.toNat (IntKind.wrap .i64 ((↑nv3 : Int) - (1 : Int))))) fun (row : List AV) => bif Nat.ble 4 (List.length row) then kTmC (List.take 4 row) fun (n 
  n_1 : Int) (s : List UInt8) (rows : List (List AV)) => (bif leInt (0 : Int) (IntKind.wrap .i64 ((↑nv3 : Int) - (1 : Int))) && leInt (IntKind.wrap .i64 ((↑nv3 : Int) - (1 : Int))) (↑nv3 
  : Int) then bif n == (7 : Int) then bif rowsOk 4 rows then bif Nat.ble (0 + (Int.toNat (IntKind.wrap .i64 ((↑nv3 : Int) - (1 : Int))) - 0)) (List.length h4) && fitsIn (Int.toNat (IntKind.wrap 
  .i64 ((↑nv3 : Int) - (1 : Int))) - 0 + List.length rows) 56 then wk57_0a (Int.toNat (IntKind.wrap .i64 ((↑nv3 : Int) - (1 : Int))) - 0 + List.length rows) c0_0 c0_1 c0_2 c0_3 h1 c2_0 
  c2_1 c2_2 c2_3 (List.append (List.take (Int.toNat (IntKind.wrap .i64 ((↑nv3 : Int) - (1 : Int))) - 0) h4) rows) else none else none else bif n == (9 : Int) then bif rowsOk 4 rows then 
  bif Nat.ble (0 + (Int.toNat (IntKind.wrap .i64 ((↑nv3 : Int) - (1 : Int))) - 0)) (List.length h4) && fitsIn (Int.toNat (IntKind.wrap .i64 ((↑nv3 : Int) - (1 : Int))) - 0 + List.length 
  rows) 56 then wk57_0a (Int.toNat (IntKind.wrap .i64 ((↑nv3 : Int) - (1 : Int))) - 0 + List.length rows) c0_0 c0_1 c0_2 c0_3 h1 c2_0 c2_1 c2_2 c2_3 (List.append (List.take (Int.toNat 
  (IntKind.wrap .i64 ((↑nv3 : Int) - (1 : Int))) - 0) h4) rows) else none else none else kOpt (EVs (EV cfg) 52 [.str s]) fun (v : AV) => kTup v fun (cs : List AV) => kCons cs fun (c : 
  AV) (cs : List AV) => kInt .i64 c fun (n_2 : Int) => kCons cs fun (c : AV) (cs : List AV) => kBool c fun (b : Bool) => kNil cs (bif b then bif n == (2 : Int) then kOpt (EVm (EV cfg) 
  51 [.ptr 0 0 0, .int .i64 n_2] 2 h1) fun (q : MV × List (List AV)) => kMUnit q.1 (wk57_0a (Int.toNat (IntKind.wrap .i64 ((↑nv3 : Int) - (1 : Int))) - 0) c0_0 c0_1 c0_2 c0_3 q.2 c2_0 
  c2_1 c2_2 c2_3 h4) else wk57_0a (Int.toNat (IntKind.wrap .i64 ((↑nv3 : Int) - (1 : Int))) - 0) c0_0 c0_1 c0_2 c0_3 h1 c2_0 c2_1 c2_2 c2_3 h4 else wk57_0a (Int.toNat (IntKind.wrap .i64 
  ((↑nv3 : Int) - (1 : Int))) - 0) c0_0 c0_1 c0_2 c0_3 h1 c2_0 c2_1 c2_2 c2_3 h4) else none) else none else none else wk57_1a 0 (0 : Int) h1 []) P) : Gets (wk57_0a nv3 c0_0 c0_1 c0_2 c0_3 h1 c2_0 c2_1 c2_2 c2_3 h4) P :=
  Gets.ev (fun _ h => loop_step (cfg := cfg) (f := 75) (rd := none) (bs := 4) h) (Gets.eq (by kernel_rfl) h)
theorem wk57_1_step (nv7 : Nat) (v29 : Int) (c0_0 : Int) (c0_1 : Int) (h1 : List (List AV)) {P : AV → Prop} (h : Gets (bif decide (v29 < (100 : Int)) then kOpt (EVs (EV cfg) 53 [AV.cptr [AV.int .u64 c0_0, .int .u64 c0_1] 0, .int .i64 v29]) fun (v : AV) => kBool v fun (b : Bool) => bif b then bif Nat.ble 
  (0 + nv7) (List.length h1) && fitsIn (nv7 + 1) 8 then wk57_1 (nv7 + 1) (IntKind.wrap .i64 (v29 + (1 : Int))) c0_0 c0_1 (List.append (List.take nv7 h1) [[AV.int .i64 v29]]) else none else 
  wk57_1 nv7 (IntKind.wrap .i64 (v29 + (1 : Int))) c0_0 c0_1 h1 else bif Nat.ble (0 + nv7) (List.length h1) && true then some (.sl (List.take nv7 h1)) else none) P) : Gets (wk57_1 nv7 v29 c0_0 c0_1 h1) P :=
  Gets.ev (fun _ h => loop_step (cfg := cfg) (f := 57) (rd := none) (bs := 0) h) (Gets.eq (by kernel_rfl) h)
theorem wk57_1a_step (nv7 : Nat) (v29 : Int) (h0 : List (List AV)) (h1 : List (List AV)) {P : AV → Prop} (h : Gets (bif decide (v29 < (100 : Int)) then kOpt (List.get?Internal h0 0) fun (row : List AV) => bif refsLtL 0 row then bif refsLtL 0 [AV.cptr row 0, .int .i64 v29] then kOpt (EVs (EV cfg) 
  53 [AV.cptr row 0, .int .i64 v29]) fun (v : AV) => kBool v fun (b : Bool) => bif b then bif Nat.ble (0 + nv7) (List.length h1) && fitsIn (nv7 + 1) 8 then wk57_1a (nv7 + 1) (IntKind.wrap 
  .i64 (v29 + (1 : Int))) h0 (List.append (List.take nv7 h1) [[AV.int .i64 v29]]) else none else wk57_1a nv7 (IntKind.wrap .i64 (v29 + (1 : Int))) h0 h1 else none else none else bif Nat.ble 
  (0 + nv7) (List.length h1) && true then some (.sl (List.take nv7 h1)) else none) P) : Gets (wk57_1a nv7 v29 h0 h1) P :=
  Gets.ev (fun _ h => loop_step (cfg := cfg) (f := 57) (rd := none) (bs := 0) h) (Gets.eq (by kernel_rfl) h)
end Go.Proofs.Ytonmmmgffeoiiaa
end

section
namespace Go.Av
def varsV (q : Nat → Bool) : AV := .sl (intsR (((List.range 100).filter q).map Int.ofNat))
theorem len_wL : ∀ l : List Tm, l.length ≤ wL l
  | [] => Nat.le_refl _
  | t :: l => by rw [wL_cons, List.length_cons]; have := w_pos t; have := len_wL l; omega
theorem setZero : SetRow (fun _ => false) [.int .u64 0, .int .u64 0] := ⟨0, 0, [], rfl, by decide, by decide, fun n _ => Nat.zero_testBit n, fun n _ => Nat.zero_testBit n⟩
theorem rowsOk_of_cells (x : Tm) : rowsOk 4 (rowsT x.subs) = true := rowsOk_rowsT _
end Go.Av
namespace Go.Proofs.Ytonmmmgffeoiiaa
open Go.Av
theorem setAdd2_ev {p : Nat → Bool} {r : List AV} (h : SetRow p r) {n : Nat} (hn : n < 100) : ∃ r', EVm (EV cfg) 51 [.ptr 0 0 0, .int .i64 n] 2 [r] = some (.unit, [r']) ∧
    SetRow (fun i => p i || decide (i = n)) r' ∧ r'.drop 2 = r.drop 2 ∧ r'.length = r.length ∧ (refsLtL 0 r = true → refsLtL 0 r' = true) := by
  obtain ⟨lo, hi, l, rfl, h1, h2, h3, h4⟩ := h
  have pw : ∀ {k : Nat}, k < 64 → 2 ^ k < 18446744073709551616 := by
    intro k hk
    have : 2 ^ k < 2 ^ 64 := Nat.pow_lt_pow_right (by omega) hk
    simpa using this
  have orlt : ∀ {a b : Nat}, a < 18446744073709551616 → b < 18446744073709551616 → a ||| b < 18446744073709551616 := by
    intro a b ha hb
    have := Nat.or_lt_two_pow (n := 64) (by simpa using ha) (by simpa using hb)
    simpa using this
  have bit : ∀ {a k i : Nat}, (a ||| 2 ^ k).testBit i = (a.testBit i || decide (i = k)) := by
    intro a k i
    rw [Nat.testBit_or, Nat.testBit_two_pow]
    congr 1
    exact decide_eq_decide.2 ⟨fun h => h.symm, fun h => h.symm⟩
  by_cases hs : n < 64
  · refine ⟨.int .u64 ((lo ||| 2 ^ n : Nat) : Int) :: .int .u64 hi :: l, ?_, ⟨_, hi, l, rfl, orlt h1 (pw hs), h2, fun i hi => ?_, fun i hi => ?_⟩, rfl, rfl, fun h => h⟩
    · apply Gets.get
      refine setAdd2_run _ _ ?_
      rw [decide_eq_true (show (n : Int) < 64 by omega)]
      simp only [cond_true, get?Internal_eq, List.getElem?_cons_zero, kOptSome, kInt_int, shl_one hs, or_bits h1 (pw hs)]
      exact ⟨_, rfl, rfl⟩
    · rw [bit, h3 i hi]
    · have : decide (i + 64 = n) = false := decide_eq_false (by omega)
      rw [h4 i hi]
      show p (i + 64) = (p (i + 64) || decide (i + 64 = n))
      rw [this, Bool.or_false]
  · obtain ⟨k, rfl⟩ : ∃ k, n = k + 64 := ⟨n - 64, by omega⟩
    have hk : k < 64 := by omega
    have w : IntKind.wrap .i64 (((k + 64 : Nat) : Int) - 64) = (k : Int) := by rw [wrap64 (by omega) (by omega)]; omega
    refine ⟨.int .u64 lo :: .int .u64 ((hi ||| 2 ^ k : Nat) : Int) :: l, ?_, ⟨lo, _, l, rfl, h1, orlt h2 (pw hk), fun i hi => ?_, fun i hi => ?_⟩, rfl, rfl, fun h => h⟩
    · apply Gets.get
      refine setAdd2_run _ _ ?_
      rw [decide_eq_false (show ¬ ((k + 64 : Nat) : Int) < 64 by omega), w]
      simp only [cond_false, get?Internal_eq, List.getElem?_cons_succ, List.getElem?_cons_zero, kOptSome, kInt_int, shl_one hk, or_bits h2 (pw hk)]
      exact ⟨_, rfl, rfl⟩
    · have : decide (i = k + 64) = false := decide_eq_false (by omega)
      rw [h3 i hi]
      show p i = (p i || decide (i = k + 64))
      rw [this, Bool.or_false]
    · rw [bit, h4 i hi]
      congr 1
      exact decide_eq_decide.2 (by omega)
theorem vars_end {q : Nat → Bool} {s : List AV} (h : SetRow q s) (h2 : s.length = 2) : Gets (wk57_1a 0 0 [s] []) (· = varsV q) := by
  have hf : refsLtL 0 s = true := by
    obtain ⟨lo, hi, l, rfl, _⟩ := h
    cases l with
    | nil => rfl
    | cons a l => simp at h2
  have hg : ∀ n : Int, refsLtL 0 [AV.cptr s 0, .int .i64 n] = true := by
    intro n
    obtain ⟨lo, hi, l, rfl, _⟩ := h
    cases l with
    | nil => rfl
    | cons a l => simp at h2
  have loop : ∀ d i : Nat, i + d = 100 → Gets (wk57_1a ((List.range i).filter q).length i [s] (intsR (((List.range i).filter q).map Int.ofNat))) (· = varsV q) := by
    intro d
    induction d with
    | zero =>
      intro i hi
      obtain rfl : i = 100 := by omega
      refine wk57_1a_step _ _ _ _ ?_
      have e1 : Nat.ble (0 + ((List.range 100).filter q).length) (intsR (((List.range 100).filter q).map Int.ofNat)).length = true := by rw [Nat.ble_eq, intsR_len, List.length_map]; omega
      have e2 : List.take ((List.range 100).filter q).length (intsR (((List.range 100).filter q).map Int.ofNat)) = intsR (((List.range 100).filter q).map Int.ofNat) := List.take_of_length_le (by rw [intsR_len, List.length_map]; exact Nat.le_refl _)
      rw [show decide (((100 : Nat) : Int) < 100) = false from rfl, e1, e2]
      exact ⟨_, rfl, rfl⟩
    | succ d ih =>
      intro i hi
      have h1 := ih (i + 1) (by omega)
      rw [List.range_succ, List.filter_append] at h1
      refine wk57_1a_step _ _ _ _ ?_
      have hle : ((List.range i).filter q).length ≤ i := by have := List.length_filter_le q (List.range i); rw [List.length_range] at this; exact this
      have e1 : Nat.ble (0 + ((List.range i).filter q).length) (intsR (((List.range i).filter q).map Int.ofNat)).length = true := by rw [Nat.ble_eq, intsR_len, List.length_map]; omega
      have e2 : List.take ((List.range i).filter q).length (intsR (((List.range i).filter q).map Int.ofNat)) = intsR (((List.range i).filter q).map Int.ofNat) := List.take_of_length_le (by rw [intsR_len, List.length_map]; exact Nat.le_refl _)
      have e3 : IntKind.wrap .i64 ((i : Int) + 1) = ((i + 1 : Nat) : Int) := by rw [wrap64 (by omega) (by omega)]; omega
      rw [decide_eq_true (show (i : Int) < 100 by omega), get?Internal_eq, List.getElem?_cons_zero, e1, e2, e3, fits8 (by omega)]
      simp only [cond_true, kOptSome, kBool_bool, hf, hg, Bool.and_self, setHas_ev h (show i < 100 by omega)]
      cases hq : q i with
      | true =>
        rw [List.filter_cons_of_pos hq, List.filter_nil, List.map_append, List.length_append] at h1
        rw [cond_true]
        have e4 : intsR (((List.range i).filter q).map Int.ofNat ++ [i].map Int.ofNat) = List.append (intsR (((List.range i).filter q).map Int.ofNat)) [[AV.int .i64 i]] := by
          unfold intsR; rw [List.map_append]; rfl
        rw [e4] at h1
        exact h1
      | false =>
        rw [List.filter_cons_of_neg (by rw [hq]; decide), List.filter_nil, List.append_nil] at h1
        rw [cond_false]
        exact h1
  exact loop 100 0 rfl
theorem vars_end0 : Gets (wk57_1 0 0 0 0 []) (· = varsV fun i => ([] : List Tm).any (varIn (i : Nat))) := by
  have loop : ∀ d i : Nat, i + d = 100 → Gets (wk57_1 0 i 0 0 []) (· = varsV fun i => ([] : List Tm).any (varIn (i : Nat))) := by
    intro d
    induction d with
    | zero =>
      intro i hi
      obtain rfl : i = 100 := by omega
      refine wk57_1_step _ _ _ _ _ ?_
      rw [show decide (((100 : Nat) : Int) < 100) = false from rfl]
      exact ⟨_, rfl, rfl⟩
    | succ d ih =>
      intro i hi
      refine wk57_1_step _ _ _ _ _ ?_
      have e3 : IntKind.wrap .i64 ((i : Int) + 1) = ((i + 1 : Nat) : Int) := by rw [wrap64 (by omega) (by omega)]; omega
      rw [decide_eq_true (show (i : Int) < 100 by omega), setHas_ev setZero (show i < 100 by omega), e3]
      simp only [cond_true, kOptSome, kBool_bool, cond_false]
      exact ih (i + 1) (by omega)
  exact loop 100 0 rfl
theorem vars_loopa {p : Tm} : ∀ (n : Nat) (R : List Tm) (h4 : List (List AV)) (s : List AV) (q : Nat → Bool), wL R ≤ n → n < 1099511627776 → R.length ≤ h4.length → h4.take R.length = rowsT R → SetRow q s → s.length = 2 → 
    Gets (wk57_0a R.length p.kind p.num p.str (rowsT p.subs) [s] p.kind p.num p.str (rowsT p.subs) h4) (· = varsV fun i => q i || R.any (varIn (i : Nat))) := by
  intro n
  induction n with
  | zero =>
    intro R h4 s q hw hn hl ht hs hs2
    have hR : R = [] := by
      cases R with
      | nil => rfl
      | cons x l => rw [wL_cons] at hw; have := w_pos x; omega
    subst hR
    refine wk57_0a_step _ _ _ _ _ _ _ _ _ _ _ ?_
    have : decide (((([] : List Tm).length : Nat) : Int) > 0) = false := rfl
    rw [this, cond_false]
    exact vars_end (by simpa using hs) hs2
  | succ n ih =>
    intro R h4 s q hw hn hl ht hs hs2
    rcases List.eq_nil_or_concat R with rfl | ⟨R', x, hR⟩
    · refine wk57_0a_step _ _ _ _ _ _ _ _ _ _ _ ?_
      have : decide (((([] : List Tm).length : Nat) : Int) > 0) = false := rfl
      rw [this, cond_false]
      exact vars_end (by simpa using hs) hs2
    · obtain rfl : R = R' ++ [x] := by rw [hR]; simp
      clear hR
      rw [wL_append, wL_cons, wL_nil] at hw
      have hx := w_pos x
      have hwe := x.w_eq
      have hRl := len_wL R'
      rw [List.length_append, List.length_singleton] at hl ht ⊢
      refine wk57_0a_step _ _ _ _ _ _ _ _ _ _ _ ?_
      have g0 : decide (((R'.length + 1 : Nat) : Int) > 0) = true := decide_eq_true (by omega)
      have g1 : IntKind.wrap .i64 (((R'.length + 1 : Nat) : Int) - 1) = (R'.length : Int) := by rw [wrap64 (by omega) (by omega)]; omega
      have g2 : ltInt (R'.length : Int) ((R'.length + 1 : Nat) : Int) = true := decide_eq_true (by omega)
      have g3 : leInt (R'.length : Int) ((R'.length + 1 : Nat) : Int) = true := decide_eq_true (by omega)
      have g4 : h4[R'.length]? = some x.cells := by
        have : (h4.take (R'.length + 1))[R'.length]? = some x.cells := by
          rw [ht, rowsT_get]; simp
        rwa [List.getElem?_take, if_pos (by omega)] at this
      have g5 : h4.take R'.length = rowsT R' := by
        have : (h4.take (R'.length + 1)).take R'.length = rowsT R' := by
          rw [ht, rowsT_append]
          exact List.take_left' (rowsT_length R')
        rwa [List.take_take, Nat.min_eq_left (by omega)] at this
      have g6 : Nat.ble (0 + R'.length) h4.length = true := by rw [Nat.ble_eq]; omega
      rw [g0, g1, leInt_zero, g2, g3, get?Internal_eq, Int.toNat_natCast, Nat.zero_add, g4, Nat.sub_zero]
      simp only [cond_true, Bool.and_self, kOptSome, length_cells, take_cells, kTmC_cells, ble44, rowsT_length, g5, rowsOk_of_cells]
      have push : (x.kind = 7 ∨ x.kind = 9) → Gets (wk57_0a (R'.length + x.subs.length) p.kind p.num p.str (rowsT p.subs) [s] p.kind p.num p.str (rowsT p.subs) (List.append (rowsT R') (rowsT x.subs))) (· = varsV fun i => q i || (R' ++ [x]).any (varIn (i : Nat))) := by
        intro hk
        have hl := len_wL x.subs
        have h := ih (R' ++ x.subs) (rowsT (R' ++ x.subs)) s q (by rw [wL_append]; omega) (by omega) (by rw [rowsT_length]; exact Nat.le_refl _) (List.take_of_length_le (by simp)) hs hs2
        rw [List.length_append] at h
        rw [show List.append (rowsT R') (rowsT x.subs) = rowsT (R' ++ x.subs) from (rowsT_append _ _).symm]
        refine Gets.mono h ?_
        rintro _ rfl
        apply congrArg varsV
        funext i
        rw [List.any_append, List.any_append, List.any_cons, List.any_nil, Bool.or_false, varIn_eq _ x, if_pos hk]
      have drop : (¬ (x.kind = 7 ∨ x.kind = 9)) → ¬ (x.kind = 2 ∧ (varG x.str).isSome) → Gets (wk57_0a R'.length p.kind p.num p.str (rowsT p.subs) [s] p.kind p.num p.str (rowsT p.subs) h4) (· = varsV fun i => q i || (R' ++ [x]).any (varIn (i : Nat))) := by
        intro hk hv
        refine Gets.mono (ih R' h4 s q (by omega) (by omega) (by omega) g5 hs hs2) ?_
        rintro _ rfl
        apply congrArg varsV
        funext i
        have : varIn (i : Nat) x = false := by
          rw [varIn_eq, if_neg hk]
          by_cases h2 : x.kind = 2
          · rw [decide_eq_true h2, Bool.true_and, decide_eq_false]
            intro h
            exact hv ⟨h2, by rw [h]; rfl⟩
          · rw [decide_eq_false h2, Bool.false_and]
        rw [List.any_append, List.any_cons, List.any_nil, this, Bool.or_false, Bool.or_false]
      rw [beqI, beqI, beqI, patNumber_ev, g6]
      by_cases h7 : x.kind = 7
      · rw [decide_eq_true h7]
        simp only [cond_true, Bool.true_and, fits56 (show R'.length + x.subs.length ≤ 1099511627776 by have := len_wL x.subs; omega)]
        exact push (.inl h7)
      rw [decide_eq_false h7, cond_false]
      by_cases h9 : x.kind = 9
      · rw [decide_eq_true h9]
        simp only [cond_true, Bool.true_and, fits56 (show R'.length + x.subs.length ≤ 1099511627776 by have := len_wL x.subs; omega)]
        exact push (.inr h9)
      rw [decide_eq_false h9, cond_false]
      have hk : ¬ (x.kind = 7 ∨ x.kind = 9) := by omega
      unfold varR
      simp only [kOptSome, kTup, kCons, kInt_int, kBool_bool, kNil]
      cases hv : varG x.str with
      | none =>
        rw [hv] at drop
        exact drop hk (by simp)
      | some v =>
        by_cases h2 : x.kind = 2
        · rw [decide_eq_true h2]
          obtain ⟨hv0, hv9⟩ := varG_in hv
          obtain ⟨m, rfl⟩ : ∃ m : Nat, v = m := ⟨v.toNat, by omega⟩
          obtain ⟨r', hr1, hr2, hr3, hr4, hr5⟩ := setAdd2_ev hs (n := m) (by omega)
          simp only [Option.getD_some, Option.isSome_some, cond_true, hr1, kOptSome, kMUnit]
          refine Gets.mono (ih R' h4 r' _ (by omega) (by omega) (by omega) g5 hr2 (by rw [hr4]; exact hs2)) ?_
          rintro _ rfl
          apply congrArg varsV
          funext i
          have : varIn (i : Nat) x = decide (i = m) := by
            rw [varIn_eq, if_neg hk, decide_eq_true h2, Bool.true_and, hv]
            exact decide_eq_decide.2 ⟨fun h => by cases h; rfl, fun h => by rw [h]⟩
          rw [List.any_append, List.any_cons, List.any_nil, this, Bool.or_false]
          cases q i <;> cases decide (i = m) <;> cases R'.any (varIn (i : Nat)) <;> rfl
        · rw [decide_eq_false h2]
          exact drop hk (fun h => h2 h.1)
theorem vars_loop {p : Tm} : ∀ (n : Nat) (R : List Tm) (h4 : List (List AV)) , wL R ≤ n → n < 1099511627776 → R.length ≤ h4.length → h4.take R.length = rowsT R → 
    Gets (wk57_0 R.length p.kind p.num p.str (rowsT p.subs) 0 0 p.kind p.num p.str (rowsT p.subs) h4) (· = varsV fun i => R.any (varIn (i : Nat))) := by
  intro n
  induction n with
  | zero =>
    intro R h4  hw hn hl ht 
    have hR : R = [] := by
      cases R with
      | nil => rfl
      | cons x l => rw [wL_cons] at hw; have := w_pos x; omega
    subst hR
    refine wk57_0_step _ _ _ _ _ _ _ _ _ _ _ _ ?_
    have : decide (((([] : List Tm).length : Nat) : Int) > 0) = false := rfl
    rw [this, cond_false]
    exact vars_end0
  | succ n ih =>
    intro R h4  hw hn hl ht 
    rcases List.eq_nil_or_concat R with rfl | ⟨R', x, hR⟩
    · refine wk57_0_step _ _ _ _ _ _ _ _ _ _ _ _ ?_
      have : decide (((([] : List Tm).length : Nat) : Int) > 0) = false := rfl
      rw [this, cond_false]
      exact vars_end0
    · obtain rfl : R = R' ++ [x] := by rw [hR]; simp
      clear hR
      rw [wL_append, wL_cons, wL_nil] at hw
      have hx := w_pos x
      have hwe := x.w_eq
      have hRl := len_wL R'
      rw [List.length_append, List.length_singleton] at hl ht ⊢
      refine wk57_0_step _ _ _ _ _ _ _ _ _ _ _ _ ?_
      have g0 : decide (((R'.length + 1 : Nat) : Int) > 0) = true := decide_eq_true (by omega)
      have g1 : IntKind.wrap .i64 (((R'.length + 1 : Nat) : Int) - 1) = (R'.length : Int) := by rw [wrap64 (by omega) (by omega)]; omega
      have g2 : ltInt (R'.length : Int) ((R'.length + 1 : Nat) : Int) = true := decide_eq_true (by omega)
      have g3 : leInt (R'.length : Int) ((R'.length + 1 : Nat) : Int) = true := decide_eq_true (by omega)
      have g4 : h4[R'.length]? = some x.cells := by
        have : (h4.take (R'.length + 1))[R'.length]? = some x.cells := by
          rw [ht, rowsT_get]; simp
        rwa [List.getElem?_take, if_pos (by omega)] at this
      have g5 : h4.take R'.length = rowsT R' := by
        have : (h4.take (R'.length + 1)).take R'.length = rowsT R' := by
          rw [ht, rowsT_append]
          exact List.take_left' (rowsT_length R')
        rwa [List.take_take, Nat.min_eq_left (by omega)] at this
      have g6 : Nat.ble (0 + R'.length) h4.length = true := by rw [Nat.ble_eq]; omega
      rw [g0, g1, leInt_zero, g2, g3, get?Internal_eq, Int.toNat_natCast, Nat.zero_add, g4, Nat.sub_zero]
      simp only [cond_true, Bool.and_self, kOptSome, length_cells, take_cells, kTmC_cells, ble44, rowsT_length, g5, rowsOk_of_cells]
      have push : (x.kind = 7 ∨ x.kind = 9) → Gets (wk57_0 (R'.length + x.subs.length) p.kind p.num p.str (rowsT p.subs) 0 0 p.kind p.num p.str (rowsT p.subs) (List.append (rowsT R') (rowsT x.subs))) (· = varsV fun i => (R' ++ [x]).any (varIn (i : Nat))) := by
        intro hk
        have hl := len_wL x.subs
        have h := ih (R' ++ x.subs) (rowsT (R' ++ x.subs))  (by rw [wL_append]; omega) (by omega) (by rw [rowsT_length]; exact Nat.le_refl _) (List.take_of_length_le (by simp)) 
        rw [List.length_append] at h
        rw [show List.append (rowsT R') (rowsT x.subs) = rowsT (R' ++ x.subs) from (rowsT_append _ _).symm]
        refine Gets.mono h ?_
        rintro _ rfl
        apply congrArg varsV
        funext i
        rw [List.any_append, List.any_append, List.any_cons, List.any_nil, Bool.or_false, varIn_eq _ x, if_pos hk]
      have drop : (¬ (x.kind = 7 ∨ x.kind = 9)) → ¬ (x.kind = 2 ∧ (varG x.str).isSome) → Gets (wk57_0 R'.length p.kind p.num p.str (rowsT p.subs) 0 0 p.kind p.num p.str (rowsT p.subs) h4) (· = varsV fun i => (R' ++ [x]).any (varIn (i : Nat))) := by
        intro hk hv
        refine Gets.mono (ih R' h4  (by omega) (by omega) (by omega) g5 ) ?_
        rintro _ rfl
        apply congrArg varsV
        funext i
        have : varIn (i : Nat) x = false := by
          rw [varIn_eq, if_neg hk]
          by_cases h2 : x.kind = 2
          · rw [decide_eq_true h2, Bool.true_and, decide_eq_false]
            intro h
            exact hv ⟨h2, by rw [h]; rfl⟩
          · rw [decide_eq_false h2, Bool.false_and]
        rw [List.any_append, List.any_cons, List.any_nil, this, Bool.or_false, Bool.or_false]
      rw [beqI, beqI, beqI, patNumber_ev, g6]
      by_cases h7 : x.kind = 7
      · rw [decide_eq_true h7]
        simp only [cond_true, Bool.true_and, fits56 (show R'.length + x.subs.length ≤ 1099511627776 by have := len_wL x.subs; omega)]
        exact push (.inl h7)
      rw [decide_eq_false h7, cond_false]
      by_cases h9 : x.kind = 9
      · rw [decide_eq_true h9]
        simp only [cond_true, Bool.true_and, fits56 (show R'.length + x.subs.length ≤ 1099511627776 by have := len_wL x.subs; omega)]
        exact push (.inr h9)
      rw [decide_eq_false h9, cond_false]
      have hk : ¬ (x.kind = 7 ∨ x.kind = 9) := by omega
      unfold varR
      simp only [kOptSome, kTup, kCons, kInt_int, kBool_bool, kNil]
      cases hv : varG x.str with
      | none =>
        rw [hv] at drop
        exact drop hk (by simp)
      | some v =>
        by_cases h2 : x.kind = 2
        · rw [decide_eq_true h2]
          obtain ⟨hv0, hv9⟩ := varG_in hv
          obtain ⟨m, rfl⟩ : ∃ m : Nat, v = m := ⟨v.toNat, by omega⟩
          obtain ⟨r', hr1, hr2, hr3, hr4, hr5⟩ := setAdd2_ev setZero (n := m) (by omega)
          simp only [Option.getD_some, Option.isSome_some, cond_true, hr1, kOptSome, kMUnit]
          refine Gets.mono (vars_loopa n R' h4 r' _ (by omega) (by omega) (by omega) g5 hr2 (by rw [hr4]; rfl)) ?_
          rintro _ rfl
          apply congrArg varsV
          funext i
          have : varIn (i : Nat) x = decide (i = m) := by
            rw [varIn_eq, if_neg hk, decide_eq_true h2, Bool.true_and, hv]
            exact decide_eq_decide.2 ⟨fun h => by cases h; rfl, fun h => by rw [h]⟩
          rw [List.any_append, List.any_cons, List.any_nil, this, Bool.or_false]
          cases decide (i = m) <;> cases R'.any (varIn (i : Nat)) <;> rfl
        · rw [decide_eq_false h2]
          exact drop hk (fun h => h2 h.1)
theorem patVars_ev {t : Tm} (h : t.w < 1099511627776) : EVf (EV cfg) 57 [t.av] = some (.sl (intsR (varsG t))) := by
  have hm := patMay_ev h
  apply Gets.get
  rw [Tm.av, Tm.cells_eq] at hm ⊢
  refine patVars_run _ _ _ _ ?_
  rw [hm]
  simp only [kOptSome, kBool_bool]
  unfold varsG
  by_cases hc : t.chk = 0
  · rw [decide_eq_true hc, if_pos hc]
    have hl := vars_loop (p := t) t.w [t] [t.cells] (by rw [wL_cons, wL_nil]; exact Nat.le_refl _) h (Nat.le_refl _) rfl
    rw [Tm.cells_eq] at hl
    refine Gets.mono hl ?_
    rintro _ rfl
    unfold varsV
    have : (fun i : Nat => [t].any (varIn (i : Nat))) = fun i : Nat => varIn (i : Nat) t := by funext i; simp
    rw [this]
  · rw [decide_eq_false hc, if_neg hc]
    exact ⟨_, rfl, rfl⟩
end Go.Proofs.Ytonmmmgffeoiiaa
end

section
namespace Go.Proofs.Ytonmmmgffeoiiaa
open Go.Av
set_option maxRecDepth 100000
set_option maxHeartbeats 0

noncomputable def Lq34_0 : Den := evC cfg (EV cfg) 54 none 0 (sub (bodyOf Try.f54) [1, 0, 1, 1, 0, 0, 0])
noncomputable def Aq34_0 : Ex × List AV × AH → Option AV := kAft (Cfg.keepOut cfg 54 2) (kRun cfg (EV cfg) (kfN cfg 6) 54 none 0 (kFinS cfg (Cfg.lift cfg 54 0) Try.f54.results.toList) ([.block 0, .seq (sub (bodyOf Try.f54) [1, 0, 1, 1, 1]), .scope]))
noncomputable def Wq34_0 : List AV × AH → Option AV := fun p => kOpt (LOOP 0 (some [5]) ([(5, 8)]) Lq34_0 p) Aq34_0
noncomputable def Lq34_1 : Den := evC cfg (EV cfg) 54 none 0 (sub (bodyOf Try.f54) [1, 0, 1, 1, 0, 0, 0, 1, 0, 1, 1, 1, 1, 1, 0, 0])
noncomputable def Aq34_1 : Ex × List AV × AH → Option AV := kAft (Cfg.keepOut cfg 54 9) (kRun cfg (EV cfg) (kfN cfg 6) 54 none 0 (kLp 0 (some [5]) ([(5, 8)]) Lq34_0 Aq34_0) ([.block 2, .block 1]))
noncomputable def Wq34_1 : List AV × AH → Option AV := fun p => kOpt (LOOP 0 (some [5, 6, 70, 71]) ([(5, 8)]) Lq34_1 p) Aq34_1
noncomputable abbrev wq34_0 (nv5 : Nat) (h0 : List (List AV)) : Option (AV) := Wq34_0  (((fx 91 [(5, AV.ms (0 : Nat) (0 : Nat) nv5)]) : List AV), ([ABlk.rows true (8 : Nat) h0] : AH))
noncomputable abbrev wq34_1 (rows : List (List AV)) (nv5 : Nat) (v71 : Int) (h0 : List (List AV)) (c1_0 : Int) (c1_1 : Int) (c1_2 : List UInt8) (c1_3 : List (List AV)) (c1_4 : Int) (c1_5 : Int) (c1_6 : List UInt8) (c1_7 : List (List AV)) : Option (AV) := Wq34_1  (((fx 91 [(5, AV.ms (0 : Nat) (0 : Nat) nv5), (6, AV.ptr (1 : Nat) (0 : Nat) (0 : Nat)), (70, AV.int IntKind.i64 (↑(List.length rows) : Int)), (71, AV.int IntKind.i64 v71)]) : List AV), ([ABlk.rows true (8 : Nat) h0, ABlk.rows false (8 : Nat) [[AV.int IntKind.i64 c1_0, AV.int IntKind.i64 c1_1, AV.str c1_2, AV.sl c1_3, AV.int IntKind.i64 c1_4, AV.int IntKind.i64 c1_5, AV.str c1_6, AV.sl c1_7]]] : AH))
theorem term_Same_run (ka : Int) (na : Int) (sa : List UInt8) (la : List (List AV)) (kb : Int) (nb : Int) (sb : List UInt8) (lb : List (List AV)) {P : AV → Prop} (h : Gets (wq34_0 1 [[.int .i64 ka, .int .i64 na, .str sa, .sl la, .int .i64 kb, .int .i64 nb, .str sb, .sl lb]]) P) : Gets (EVs (EV cfg) 54 ([AV.agg [AV.int IntKind.i64 ka, AV.int IntKind.i64 na, AV.str sa, AV.sl la], AV.agg [AV.int IntKind.i64 kb, AV.int IntKind.i64 nb, AV.str sb, AV.sl lb]] : List AV)) P :=
  Gets.ev (fun _ h => funS rfl rfl Try.func54 rfl h) (Gets.eq (by kernel_rfl) h)
theorem wq34_0_step (nv5 : Nat) (h0 : List (List AV)) {P : AV → Prop} (h : Gets (bif decide ((↑nv5 : Int) > (0 : Int)) then bif leInt (0 : Int) (IntKind.wrap .i64 ((↑nv5 : Int) - (1 : Int))) && ltInt (IntKind.wrap .i64 ((↑nv5 : Int) - (1 : Int))) (↑nv5 : Int) then 
  kOpt (List.get?Internal h0 (0 + Int.toNat (IntKind.wrap .i64 ((↑nv5 : Int) - (1 : Int))))) fun (row : List AV) => bif Nat.ble 8 (List.length row) then kCons (List.take 8 row) fun (c 
  : AV) (cs : List AV) => kInt .i64 c fun (n : Int) => kCons cs fun (c : AV) (cs : List AV) => kInt .i64 c fun (n_1 : Int) => kCons cs fun (c : AV) (cs : List AV) => kStr c fun (s : List 
  UInt8) => kCons cs fun (c : AV) (cs : List AV) => kSl c fun (rows : List (List AV)) => kTmC cs fun (n_2 n_3 : Int) (s_1 : List UInt8) (rows_1 : List (List AV)) => (bif leInt (0 : Int) 
  (IntKind.wrap .i64 ((↑nv5 : Int) - (1 : Int))) && leInt (IntKind.wrap .i64 ((↑nv5 : Int) - (1 : Int))) (↑nv5 : Int) then bif n != n_2 then some (.bool false) else bif n_1 != n_3 then 
  some (.bool false) else bif !s == s_1 then some (.bool false) else bif (↑(List.length rows) : Int) != (↑(List.length rows_1) : Int) then some (.bool false) else bif (↑(List.length rows) 
  : Int) == (0 : Int) then wq34_0 (Int.toNat (IntKind.wrap .i64 ((↑nv5 : Int) - (1 : Int))) - 0) h0 else wq34_1 rows (Int.toNat (IntKind.wrap .i64 ((↑nv5 : Int) - (1 : Int))) - 0) (0 
  : Int) h0 n n_1 s rows n_2 n_3 s_1 rows_1 else none) else none else none else some (.bool true)) P) : Gets (wq34_0 nv5 h0) P :=
  Gets.ev (fun _ h => loop_step (cfg := cfg) (f := 54) (rd := none) (bs := 0) h) (Gets.eq (by kernel_rfl) h)
theorem wq34_1_step (rows : List (List AV)) (nv5 : Nat) (v71 : Int) (h0 : List (List AV)) (c1_0 : Int) (c1_1 : Int) (c1_2 : List UInt8) (c1_3 : List (List AV)) (c1_4 : Int) (c1_5 : Int) (c1_6 : List UInt8) (c1_7 : List (List AV)) {P : AV → Prop} (h : Gets (bif decide (v71 < (↑(List.length rows) : Int)) then bif leInt (0 : Int) v71 && ltInt v71 (↑(List.length c1_3) : Int) then kOpt (List.get?Internal c1_3 (Int.toNat v71)) fun (row : List 
  AV) => bif Nat.beq (List.length row) 4 then bif Nat.ble 4 (List.length row) then kTmC (List.take 4 row) fun (n n_1 : Int) (s : List UInt8) (rows_1 : List (List AV)) => (bif leInt (0 
  : Int) v71 && ltInt v71 (↑(List.length c1_7) : Int) then kOpt (List.get?Internal c1_7 (Int.toNat v71)) fun (row : List AV) => bif Nat.beq (List.length row) 4 then bif Nat.ble 4 (List.length 
  row) then kTmC (List.take 4 row) fun (n_2 n_3 : Int) (s_1 : List UInt8) (rows_2 : List (List AV)) => (bif Nat.ble (0 + nv5) (List.length h0) && fitsIn (nv5 + 1) 112 then wq34_1 rows 
  (nv5 + 1) (IntKind.wrap .i64 (v71 + (1 : Int))) (List.append (List.take nv5 h0) [[.int .i64 n, .int .i64 n_1, .str s, .sl rows_1, .int .i64 n_2, .int .i64 n_3, .str s_1, .sl rows_2]]) 
  c1_0 c1_1 c1_2 c1_3 c1_4 c1_5 c1_6 c1_7 else none) else none else none else none) else none else none else none else wq34_0 nv5 h0) P) : Gets (wq34_1 rows nv5 v71 h0 c1_0 c1_1 c1_2 c1_3 c1_4 c1_5 c1_6 c1_7) P :=
  Gets.ev (fun _ h => loop_step (cfg := cfg) (f := 54) (rd := none) (bs := 0) h) (Gets.eq (by kernel_rfl) h)
end Go.Proofs.Ytonmmmgffeoiiaa
end

section
namespace Go.Av
def pairsR (R : List (Tm × Tm)) : List (List AV) := R.map fun p => p.1.cells ++ p.2.cells
theorem pairsR_len (R : List (Tm × Tm)) : (pairsR R).length = R.length := by simp [pairsR]
theorem pairsR_append (R S : List (Tm × Tm)) : pairsR (R ++ S) = pairsR R ++ pairsR S := by simp [pairsR]
theorem pairsR_get (R : List (Tm × Tm)) (i : Nat) : (pairsR R)[i]? = (R[i]?).map fun p => p.1.cells ++ p.2.cells := by simp [pairsR]
theorem zip_eq : ∀ (a b : List Tm), a.length = b.length → ((∀ p ∈ a.zip b, p.1 = p.2) ↔ a = b)
  | [], [], _ => by simp
  | x :: a, y :: b, h => by
    have := zip_eq a b (by simpa using h)
    simp only [List.zip_cons_cons, List.mem_cons, forall_eq_or_imp, List.cons.injEq, this]
  | [], _ :: _, h => by simp at h
  | _ :: _, [], h => by simp at h
end Go.Av
namespace Go.Proofs.Ytonmmmgffeoiiaa
open Go.Av

theorem fits112 {n : Nat} (h : n ≤ 1099511627776) : fitsIn n 112 = true := by
  unfold fitsIn
  rw [Bool.and_eq_true, Nat.ble_eq, Nat.ble_eq]
  omega

theorem same_push {x y : Tm} (hxy : x.subs.length = y.subs.length) (hx : x.subs.length < 1099511627776) {P : AV → Prop} : ∀ (d i : Nat) (R : List (Tm × Tm)) (Z : List (List AV)), i + d = x.subs.length → R.length + d < 1099511627776 → (d = 0 → Z = []) →
    Gets (wq34_0 (R ++ (x.subs.zip y.subs).drop i).length (pairsR (R ++ (x.subs.zip y.subs).drop i))) P →
    Gets (wq34_1 (rowsT x.subs) R.length i (pairsR R ++ Z) x.kind x.num x.str (rowsT x.subs) y.kind y.num y.str (rowsT y.subs)) P
  | 0, i, R, Z, hi, _, hz, h => by
    refine wq34_1_step _ _ _ _ _ _ _ _ _ _ _ _ ?_
    obtain rfl := hz rfl
    rw [List.drop_eq_nil_of_le (by simp; omega)] at h
    simp at h
    have : ¬ i < x.subs.length := by omega
    simpa [this] using h
  | d + 1, i, R, Z, hi, hR, _, h => by
    refine wq34_1_step _ _ _ _ _ _ _ _ _ _ _ _ ?_
    have h1 : i < x.subs.length := by omega
    have h2 : i < y.subs.length := by omega
    have hzl : i < (x.subs.zip y.subs).length := by simp; omega
    have hd : (x.subs.zip y.subs).drop i = (x.subs[i], y.subs[i]) :: (x.subs.zip y.subs).drop (i + 1) := by
      rw [List.drop_eq_getElem_cons hzl, List.getElem_zip]
    have ih := same_push hxy hx (P := P) d (i + 1) (R ++ [(x.subs[i], y.subs[i])]) [] (by omega) (by simp; omega) (fun _ => rfl) (by
      rw [hd] at h
      simpa using h)
    have ht : List.take R.length (pairsR R ++ Z) = pairsR R := by rw [List.take_append_of_le_length (by rw [pairsR_len]; exact Nat.le_refl _), List.take_of_length_le (by rw [pairsR_len]; exact Nat.le_refl _)]
    have hp : pairsR (R ++ [(x.subs[i], y.subs[i])]) = pairsR R ++ [x.subs[i].cells ++ y.subs[i].cells] := by rw [pairsR_append]; rfl
    have hw := wrap_s h1 hx
    rw [List.append_nil, hp] at ih
    simp [h1, h2, hw, fits112 (show R.length + 1 ≤ 1099511627776 by omega), ht, pairsR_len] at ih ⊢
    rw [Tm.cells_eq x.subs[i]] at ih
    exact ih

theorem same_m : ∀ (n : Nat) (R : List (Tm × Tm)) (Z : List (List AV)), wL (R.map Prod.fst) ≤ n → n < 1099511627776 →
    Gets (wq34_0 R.length (pairsR R ++ Z)) (Tells (∀ p ∈ R, p.1 = p.2)) := by
  intro n
  induction n with
  | zero =>
    intro R Z hn _
    have : R = [] := by
      have := wL_len (R.map Prod.fst)
      exact List.length_eq_zero_iff.1 (by simp at this; omega)
    subst this
    refine wq34_0_step _ _ ?_
    simp [tells_bool]
  | succ n ih =>
    intro R Z hn hN
    rcases List.eq_nil_or_concat R with rfl | ⟨R0, p, rfl⟩
    · refine wq34_0_step _ _ ?_
      simp [tells_bool]
    · rw [List.concat_eq_append] at *
      obtain ⟨x, y⟩ := p
      have hwx := x.w_eq
      simp only [List.map_append, List.map_cons, List.map_nil, wL_append, wL_cons, wL_nil] at hn
      have hl0 := wL_len (R0.map Prod.fst)
      rw [List.length_map] at hl0
      have hls := wL_len x.subs
      refine wq34_0_step _ _ ?_
      have e1 : (R0 ++ [(x, y)]).length = R0.length + 1 := by simp
      have hw1 : IntKind.wrap .i64 (R0.length : Int) = R0.length := wrapN (by omega)
      have g : (pairsR (R0 ++ [(x, y)]) ++ Z)[R0.length]? = some (.int .i64 x.kind :: .int .i64 x.num :: .str x.str :: .sl (rowsT x.subs) :: y.cells) := by
        rw [List.getElem?_append_left (by rw [pairsR_len]; simp), pairsR_get]; simp; rw [Tm.cells_eq x]; rfl
      have e3 : pairsR (R0 ++ [(x, y)]) ++ Z = pairsR R0 ++ ((x.cells ++ y.cells) :: Z) := by rw [pairsR_append, List.append_assoc]; rfl
      have hq : (∀ p ∈ R0 ++ [(x, y)], p.1 = p.2) ↔ ((∀ p ∈ R0, p.1 = p.2) ∧ x = y) := by simp [or_imp, forall_and]
      have hxy : x = y ↔ (x.kind = y.kind ∧ x.num = y.num ∧ x.str = y.str ∧ x.subs = y.subs) := by
        constructor
        · rintro rfl; exact ⟨rfl, rfl, rfl, rfl⟩
        · rintro ⟨h1, h2, h3, h4⟩; rw [← Tm.eta x, ← Tm.eta y, h1, h2, h3, h4]
      rw [propext hq]
      have hno : ¬ (x.kind = y.kind ∧ x.num = y.num ∧ x.str = y.str ∧ x.subs = y.subs) → Tells ((∀ p ∈ R0, p.1 = p.2) ∧ x = y) (.bool false) := fun h => tells_bool.2 ⟨fun e => (by cases e), fun h' => absurd (hxy.1 h'.2) h⟩
      simp only [e3] at g ⊢
      simp [e1, hw1, g]
      by_cases h1 : x.kind = y.kind
      · by_cases h2 : x.num = y.num
        · by_cases h3 : x.str = y.str
          · by_cases h4 : x.subs.length = y.subs.length
            · have hsub : (∀ p ∈ x.subs.zip y.subs, p.1 = p.2) ↔ x = y := by
                rw [zip_eq _ _ h4, hxy]; simp [h1, h2, h3]
              have c1 : (x.kind != y.kind) = false := by simp [h1]
              have c2 : (x.num != y.num) = false := by simp [h2]
              have c3 : (x.str == y.str) = true := by simp [h3]
              have c4 : ((x.subs.length : Int) != (y.subs.length : Int)) = false := by simp [h4]
              have eall : (∀ (a b : Tm), (a, b) ∈ R0 → a = b) ↔ (∀ p ∈ R0, p.1 = p.2) := ⟨fun h p hp => h p.1 p.2 hp, fun h a b hp => h (a, b) hp⟩
              rw [c1, c2, c3, c4]
              simp only [cond_false, cond_true]
              rcases Nat.eq_zero_or_pos x.subs.length with hz | hp
              · have hr := ih R0 ((x.cells ++ y.cells) :: Z) (by omega) (by omega)
                have hx0 : x.subs = [] := List.length_eq_zero_iff.1 hz
                have hxy' : x = y := hsub.1 (by rw [hx0]; simp)
                have c5 : ((x.subs.length : Int) == 0) = true := by simp [hz]
                rw [c5, propext (show ((∀ (a b : Tm), (a, b) ∈ R0 → a = b) ∧ x = y) ↔ (∀ p ∈ R0, p.1 = p.2) from ⟨fun h => eall.1 h.1, fun h => ⟨eall.2 h, hxy'⟩⟩)]
                exact hr
              · have c5 : ((x.subs.length : Int) == 0) = false := by rw [beqD]; exact decide_eq_false (by omega)
                rw [c5]
                simp only [cond_false]
                have hm : (R0 ++ x.subs.zip y.subs).map Prod.fst = R0.map Prod.fst ++ x.subs := by rw [List.map_append, List.map_fst_zip (by omega)]
                have hr := ih (R0 ++ x.subs.zip y.subs) [] (by rw [hm, wL_append]; omega) (by omega)
                rw [List.append_nil] at hr
                have hP : (∀ p ∈ R0 ++ x.subs.zip y.subs, p.1 = p.2) ↔ ((∀ (a b : Tm), (a, b) ∈ R0 → a = b) ∧ x = y) := by
                  rw [← hsub, eall]; simp only [List.mem_append, or_imp, forall_and]
                rw [propext hP] at hr
                exact same_push h4 (by omega) x.subs.length 0 R0 _ (by omega) (by omega) (fun h => by omega) (by rw [List.drop_zero]; exact hr)
            · have h4' : ¬ ((x.subs.length : Int) = (y.subs.length : Int)) := by omega
              simp [h1, h2, h3, h4', bneD]
              simpa using hno fun h => h4 (by rw [h.2.2.2])
          · have h3' : (x.str == y.str) = false := by simpa using h3
            simp [h1, h2, h3', bneD]
            simpa using hno fun h => h3 h.2.2.1
        · simp [h1, h2, bneD]
          simpa using hno fun h => h2 h.2.1
      · simp [h1, bneD]
        simpa using hno fun h => h1 h.1

theorem same_ev {a : Tm} (h : a.w < 1099511627776) (b : Tm) : Gets (EVs (EV cfg) 54 [a.av, b.av]) (Tells (a = b)) := by
  have := same_m _ [(a, b)] [] (Nat.le_refl _) (by simpa using h)
  rw [List.append_nil] at this
  rw [Tm.av, Tm.av, Tm.cells_eq a, Tm.cells_eq b]
  refine term_Same_run _ _ _ _ _ _ _ _ ?_
  have e : pairsR [(a, b)] = [[AV.int .i64 a.kind, .int .i64 a.num, .str a.str, .sl (rowsT a.subs), .int .i64 b.kind, .int .i64 b.num, .str b.str, .sl (rowsT b.subs)]] := by
    simp only [pairsR, List.map_cons, List.map_nil, Tm.cells_eq]; rfl
  have e2 : (∀ p ∈ [(a, b)], p.1 = p.2) ↔ a = b := by simp
  rw [e, propext e2] at this
  exact this
end Go.Proofs.Ytonmmmgffeoiiaa
end

section
namespace Go.Proofs.Ytonmmmgffeoiiaa
open Go.Av
set_option maxRecDepth 100000
set_option maxHeartbeats 0

noncomputable def Li39_0 : Den := evC cfg (EV cfg) 39 none 1 (sub (bodyOf Try.f39) [1, 0, 1, 0, 1, 1, 1, 0, 1, 0, 1, 0, 0])
noncomputable def Ai39_0 : Ex × List AV × AH → Option (MV × List (List AV)) := kAft (Cfg.keepOut cfg 39 (firstRid (sub (bodyOf Try.f39) [1, 0, 1, 0, 1, 1, 1, 0, 1, 0, 1, 0, 0]))) (kBlock 2 (kSeq (fun (fr : List AV) (H : AH) => kCutTo (Cfg.cut cfg 39 (firstRid (sub (bodyOf Try.f39) [1, 0, 1, 0, 1, 1, 1, 0, 1, 1]))) fr H fun (fr : List AV) (H : AH) => kCode cfg (EV cfg) (kfN cfg 6) 39 none 1 (sub (bodyOf Try.f39) [1, 0, 1, 0, 1, 1, 1, 0, 1, 1]) fr H (kBlock 0 (kSeq (fun (fr : List AV) (H : AH) => kCutTo (Cfg.cut cfg 39 (firstRid (sub (bodyOf Try.f39) [1, 1]))) fr H fun (fr : List AV) (H : AH) => kCode cfg (EV cfg) (kfN cfg 6) 39 none 1 (sub (bodyOf Try.f39) [1, 1]) fr H (kFinM cfg 402 (Cfg.lift cfg 39 0) (Array.toList (Func.results Try.f39)))) (kFinM cfg 402 (Cfg.lift cfg 39 0) (Array.toList (Func.results Try.f39)))))) (kBlock 0 (kSeq (fun (fr : List AV) (H : AH) => kCutTo (Cfg.cut cfg 39 (firstRid (sub (bodyOf Try.f39) [1, 1]))) fr H fun (fr : List AV) (H : AH) => kCode cfg (EV cfg) (kfN cfg 6) 39 none 1 (sub (bodyOf Try.f39) [1, 1]) fr H (kFinM cfg 402 (Cfg.lift cfg 39 0) (Array.toList (Func.results Try.f39)))) (kFinM cfg 402 (Cfg.lift cfg 39 0) (Array.toList (Func.results Try.f39)))))))
noncomputable def Wi39_0 : List AV × AH → Option (MV × List (List AV)) := fun (p : List AV × AH) => kOpt (LOOP 1 (some [0, 4, 5, 70, 71]) [] Li39_0 p) Ai39_0
noncomputable def Li40_0 : Den := evC cfg (EV cfg) 40 none 1 (sub (bodyOf Try.f40) [1, 1, 0, 1, 0, 0])
noncomputable def Ai40_0 : Ex × List AV × AH → Option (AV × List (List AV)) := kAft (Cfg.keepOut cfg 40 (firstRid (sub (bodyOf Try.f40) [1, 1, 0, 1, 0, 0]))) (kBlock 0 (kSeq (fun (fr : List AV) (H : AH) => kCutTo (Cfg.cut cfg 40 (firstRid (sub (bodyOf Try.f40) [1, 1, 1]))) fr H fun (fr : List AV) (H : AH) => kCode cfg (EV cfg) (kfN cfg 6) 40 none 1 (sub (bodyOf Try.f40) [1, 1, 1]) fr H (kFinD cfg 402 (Cfg.lift cfg 40 0) (Array.toList (Func.results Try.f40)))) (kFinD cfg 402 (Cfg.lift cfg 40 0) (Array.toList (Func.results Try.f40)))))
noncomputable def Wi40_0 : List AV × AH → Option (AV × List (List AV)) := fun (p : List AV × AH) => kOpt (LOOP 1 (some [0, 3, 5]) [(3, 5)] Li40_0 p) Ai40_0
noncomputable abbrev wi39_0 (lp : List (List AV)) (v71 : Int) (c0r0 : List AV) (c1_0 : Int) (c1_1 : Int) (c1_2 : List UInt8) (c1_3 : List (List AV)) (c2_0 : Int) (c2_1 : Int) (c2_2 : List UInt8) (c2_3 : List (List AV)) : Option (MV × List (List AV)) := Wi39_0  (((fx 91 [(0, AV.ptr (0 : Nat) (0 : Nat) (0 : Nat)), (4, AV.ptr (1 : Nat) (0 : Nat) (0 : Nat)), (5, AV.ptr (2 : Nat) (0 : Nat) (0 : Nat)), (70, AV.int IntKind.i64 (↑(List.length lp) : Int)), (71, AV.int IntKind.i64 v71)]) : List AV), ([ABlk.rows true (402 : Nat) [c0r0], ABlk.rows false (4 : Nat) [[AV.int IntKind.i64 c1_0, AV.int IntKind.i64 c1_1, AV.str c1_2, AV.sl c1_3]], ABlk.rows false (4 : Nat) [[AV.int IntKind.i64 c2_0, AV.int IntKind.i64 c2_1, AV.str c2_2, AV.sl c2_3]]] : AH))
noncomputable abbrev wi40_0 (nv3 : Nat) (v5 : Int) (c0r0 : List AV) (h1 : List (List AV)) : Option (AV × List (List AV)) := Wi40_0  (((fx 27 [(0, AV.ptr (0 : Nat) (0 : Nat) (0 : Nat)), (3, AV.ms (1 : Nat) (0 : Nat) nv3), (5, AV.int IntKind.i64 v5)]) : List AV), ([ABlk.rows true (402 : Nat) [c0r0], ABlk.rows true (5 : Nat) h1] : AH))
noncomputable abbrev wi39_0a (lp : List (List AV)) (q : MV × List (List AV)) (v71 : Int) (c1_0 : Int) (c1_1 : Int) (c1_2 : List UInt8) (c1_3 : List (List AV)) (c2_0 : Int) (c2_1 : Int) (c2_2 : List UInt8) (c2_3 : List (List AV)) : Option (MV × List (List AV)) := Wi39_0  (((fx 91 [(0, AV.ptr (0 : Nat) (0 : Nat) (0 : Nat)), (4, AV.ptr (1 : Nat) (0 : Nat) (0 : Nat)), (5, AV.ptr (2 : Nat) (0 : Nat) (0 : Nat)), (70, AV.int IntKind.i64 (↑(List.length lp) : Int)), (71, AV.int IntKind.i64 v71)]) : List AV), ([ABlk.rows true (402 : Nat) q.2, ABlk.rows false (4 : Nat) [[AV.int IntKind.i64 c1_0, AV.int IntKind.i64 c1_1, AV.str c1_2, AV.sl c1_3]], ABlk.rows false (4 : Nat) [[AV.int IntKind.i64 c2_0, AV.int IntKind.i64 c2_1, AV.str c2_2, AV.sl c2_3]]] : AH))
theorem bMatch_run (kp : Int) (np : Int) (sp : List UInt8) (lp : List (List AV)) (kt : Int) (nt : Int) (st : List UInt8) (lt : List (List AV)) (r : List AV) {P : MV × List (List AV) → Prop} (h : Gets (bif kp == (2 : Int) then bif sp == [(95 : UInt8)] then some (MV.bool true, [r]) else kOpt (EVs (EV cfg) 52 [.str sp]) fun (v : AV) => kTup v fun (cs : List AV) => kCons cs fun (c : 
  AV) (cs : List AV) => kInt .i64 c fun (n : Int) => kCons cs fun (c : AV) (cs : List AV) => kBool c fun (b : Bool) => kNil cs (bif !b then kOpt (EVs (EV cfg) 54 [.agg [AV.int .i64 kp, 
  .int .i64 np, .str sp, .sl lp], .agg [AV.int .i64 kt, .int .i64 nt, .str st, .sl lt]]) fun (v : AV) => kBool v fun (b : Bool) => some (MV.bool b, [r]) else bif refsLtL 0 r then bif refsLtL 
  0 [AV.cptr r 0, .int .i64 n] then kOpt (EVs (EV cfg) 53 [AV.cptr r 0, .int .i64 n]) fun (v : AV) => kBool v fun (b : Bool) => bif b then bif leInt (0 : Int) n && ltInt n (100 : Int) 
  then bif Nat.ble (2 + Int.toNat n * 4 + 4) (List.length r) then kCons (List.take 4 (List.drop (2 + Int.toNat n * 4) r)) fun (c : AV) (cs : List AV) => kInt .i64 c fun (n : Int) => kCons 
  cs fun (c : AV) (cs : List AV) => kInt .i64 c fun (n_1 : Int) => kCons cs fun (c : AV) (cs : List AV) => kStr c fun (s : List UInt8) => kCons cs fun (c : AV) (cs : List AV) => kSl c 
  fun (rows : List (List AV)) => kNil cs (kOpt (EVs (EV cfg) 54 [.agg [AV.int .i64 n, .int .i64 n_1, .str s, .sl rows], .agg [AV.int .i64 kt, .int .i64 nt, .str st, .sl lt]]) fun (v : AV) 
  => kBool v fun (b : Bool) => some (MV.bool b, [r])) else none else none else kOpt (EVm (EV cfg) 51 [.ptr 0 0 0, .int .i64 n] 402 [r]) fun (q : MV × List (List AV)) => kMUnit q.1 (bif 
  leInt (0 : Int) n && ltInt n (100 : Int) then kOpt (List.get?Internal q.2 0) fun (row : List AV) => bif Nat.ble (2 + Int.toNat n * 4 + 4) (List.length row) then some (MV.bool true, 
  List.set q.2 0 (List.append (List.append (List.take (2 + Int.toNat n * 4) row) [AV.int .i64 kt, .int .i64 nt, .str st, .sl lt]) (List.drop (2 + Int.toNat n * 4 + 4) row))) else none else 
  none) else none else none) else bif kp == (7 : Int) then bif kt != kp then some (MV.bool false, [r]) else bif (↑(List.length lt) : Int) != (↑(List.length lp) : Int) then some (MV.bool 
  false, [r]) else wi39_0 lp (0 : Int) r kp np sp lp kt nt st lt else bif kp == (9 : Int) then bif kt != kp then some (MV.bool false, [r]) else bif (↑(List.length lt) : Int) != (↑(List.length 
  lp) : Int) then some (MV.bool false, [r]) else wi39_0 lp (0 : Int) r kp np sp lp kt nt st lt else kOpt (EVs (EV cfg) 54 [.agg [AV.int .i64 kp, .int .i64 np, .str sp, .sl lp], .agg [AV.int 
  .i64 kt, .int .i64 nt, .str st, .sl lt]]) fun (v : AV) => kBool v fun (b : Bool) => some (MV.bool b, [r])) P) : Gets (EVm (EV cfg) 39 ([AV.ptr (0 : Nat) (0 : Nat) (0 : Nat), AV.agg [AV.int IntKind.i64 kp, AV.int IntKind.i64 np, AV.str sp, AV.sl lp], AV.agg [AV.int IntKind.i64 kt, AV.int IntKind.i64 nt, AV.str st, AV.sl lt]] : List AV) 402 [r]) P :=
  Gets.ev (fun _ h => funM rfl rfl Try.func39 rfl h) (Gets.eq (by kernel_rfl) h)
theorem bTells_run (r : List AV) {P : AV × List (List AV) → Prop} (h : Gets (wi40_0 0 (0 : Int) r []) P) : Gets (EVd (EV cfg) 40 ([AV.ptr (0 : Nat) (0 : Nat) (0 : Nat)] : List AV) 402 [r]) P :=
  Gets.ev (fun _ h => funD rfl rfl Try.func40 rfl h) (Gets.eq (by kernel_rfl) h)
theorem wi39_0_step (lp : List (List AV)) (v71 : Int) (c0r0 : List AV) (c1_0 : Int) (c1_1 : Int) (c1_2 : List UInt8) (c1_3 : List (List AV)) (c2_0 : Int) (c2_1 : Int) (c2_2 : List UInt8) (c2_3 : List (List AV)) {P : MV × List (List AV) → Prop} (h : Gets (bif decide (v71 < (↑(List.length lp) : Int)) then bif leInt (0 : Int) v71 && ltInt v71 (↑(List.length c1_3) : Int) then kOpt (List.get?Internal c1_3 (Int.toNat v71)) fun (row : List 
  AV) => bif Nat.beq (List.length row) 4 then bif Nat.ble 4 (List.length row) then kTmC (List.take 4 row) fun (n n_1 : Int) (s : List UInt8) (rows : List (List AV)) => (bif leInt (0 : 
  Int) v71 && ltInt v71 (↑(List.length c2_3) : Int) then kOpt (List.get?Internal c2_3 (Int.toNat v71)) fun (row : List AV) => bif Nat.beq (List.length row) 4 then bif Nat.ble 4 (List.length 
  row) then kTmC (List.take 4 row) fun (n_2 n_3 : Int) (s_1 : List UInt8) (rows_1 : List (List AV)) => (kOpt (EVm (EV cfg) 39 [.ptr 0 0 0, .agg [AV.int .i64 n, .int .i64 n_1, .str s, .sl 
  rows], .agg [AV.int .i64 n_2, .int .i64 n_3, .str s_1, .sl rows_1]] 402 [c0r0]) fun (q : MV × List (List AV)) => kMBool q.1 fun (b : Bool) => bif !b then some (MV.bool false, q.2) else 
  wi39_0a lp q (IntKind.wrap .i64 (v71 + (1 : Int))) c1_0 c1_1 c1_2 c1_3 c2_0 c2_1 c2_2 c2_3) else none else none else none) else none else none else none else some (MV.bool true, [c0r0])) P) : Gets (wi39_0 lp v71 c0r0 c1_0 c1_1 c1_2 c1_3 c2_0 c2_1 c2_2 c2_3) P :=
  Gets.ev (fun _ h => loop_step (cfg := cfg) (f := 39) (rd := none) (bs := 1) h) (Gets.eq (by kernel_rfl) h)
theorem wi40_0_step (nv3 : Nat) (v5 : Int) (c0r0 : List AV) (h1 : List (List AV)) {P : AV × List (List AV) → Prop} (h : Gets (bif decide (v5 < (100 : Int)) then bif refsLtL 0 c0r0 then bif refsLtL 0 [AV.cptr c0r0 0, .int .i64 v5] then kOpt (EVs (EV cfg) 53 [AV.cptr c0r0 0, .int .i64 v5]) fun (v : AV) => kBool 
  v fun (b : Bool) => bif b then bif leInt (0 : Int) v5 && ltInt v5 (100 : Int) then bif Nat.ble (2 + Int.toNat v5 * 4 + 4) (List.length c0r0) then kCons (List.take 4 (List.drop (2 + 
  Int.toNat v5 * 4) c0r0)) fun (c : AV) (cs : List AV) => kInt .i64 c fun (n : Int) => kCons cs fun (c : AV) (cs : List AV) => kInt .i64 c fun (n_1 : Int) => kCons cs fun (c : AV) (cs 
  : List AV) => kStr c fun (s : List UInt8) => kCons cs fun (c : AV) (cs : List AV) => kSl c fun (rows : List (List AV)) => kNil cs (kOpt (EVf (EV cfg) 29 [.agg [AV.int .i64 n, .int .i64 
  n_1, .str s, .sl rows]]) fun (v : AV) => kTmV v fun (n n_2 : Int) (s : List UInt8) (rows : List (List AV)) => (bif Nat.ble (0 + nv3) (List.length h1) && fitsIn (nv3 + 1) 64 then wi40_0 
  (nv3 + 1) (IntKind.wrap .i64 (v5 + (1 : Int))) c0r0 (List.append (List.take nv3 h1) [[AV.int .i64 v5, .int .i64 n, .int .i64 n_2, .str s, .sl rows]]) else none)) else none else none else 
  wi40_0 nv3 (IntKind.wrap .i64 (v5 + (1 : Int))) c0r0 h1 else none else none else bif Nat.ble (0 + nv3) (List.length h1) && true then some (.sl (List.take nv3 h1), [c0r0]) else none) P) : Gets (wi40_0 nv3 v5 c0r0 h1) P :=
  Gets.ev (fun _ h => loop_step (cfg := cfg) (f := 40) (rd := none) (bs := 1) h) (Gets.eq (by kernel_rfl) h)
theorem wi39_0a_step (lp : List (List AV)) (q : MV × List (List AV)) (v71 : Int) (c1_0 : Int) (c1_1 : Int) (c1_2 : List UInt8) (c1_3 : List (List AV)) (c2_0 : Int) (c2_1 : Int) (c2_2 : List UInt8) (c2_3 : List (List AV)) {P : MV × List (List AV) → Prop} (h : Gets (bif decide (v71 < (↑(List.length lp) : Int)) then bif leInt (0 : Int) v71 && ltInt v71 (↑(List.length c1_3) : Int) then kOpt (List.get?Internal c1_3 (Int.toNat v71)) fun (row : List 
  AV) => bif Nat.beq (List.length row) 4 then bif Nat.ble 4 (List.length row) then kTmC (List.take 4 row) fun (n n_1 : Int) (s : List UInt8) (rows : List (List AV)) => (bif leInt (0 : 
  Int) v71 && ltInt v71 (↑(List.length c2_3) : Int) then kOpt (List.get?Internal c2_3 (Int.toNat v71)) fun (row : List AV) => bif Nat.beq (List.length row) 4 then bif Nat.ble 4 (List.length 
  row) then kTmC (List.take 4 row) fun (n_2 n_3 : Int) (s_1 : List UInt8) (rows_1 : List (List AV)) => (kOpt (EVm (EV cfg) 39 [.ptr 0 0 0, .agg [AV.int .i64 n, .int .i64 n_1, .str s, .sl 
  rows], .agg [AV.int .i64 n_2, .int .i64 n_3, .str s_1, .sl rows_1]] 402 q.2) fun (q : MV × List (List AV)) => kMBool q.1 fun (b : Bool) => bif !b then some (MV.bool false, q.2) else wi39_0a 
  lp q (IntKind.wrap .i64 (v71 + (1 : Int))) c1_0 c1_1 c1_2 c1_3 c2_0 c2_1 c2_2 c2_3) else none else none else none) else none else none else none else some (MV.bool true, q.2)) P) : Gets (wi39_0a lp q v71 c1_0 c1_1 c1_2 c1_3 c2_0 c2_1 c2_2 c2_3) P :=
  Gets.ev (fun _ h => loop_step (cfg := cfg) (f := 39) (rd := none) (bs := 1) h) (Gets.eq (by kernel_rfl) h)
end Go.Proofs.Ytonmmmgffeoiiaa
end

section
namespace Go.Proofs.Ytonmmmgffeoiiaa
open Go.Av
set_option maxRecDepth 100000
set_option maxHeartbeats 0

noncomputable def Lj25_0 : Den := evC cfg (EV cfg) 37 none 2 (sub (bodyOf Try.f37) [1, 1, 1, 0, 1, 0, 0])
noncomputable def Aj25_0 (kp : Int) (np : Int) (sp : List UInt8) (lp : List (List AV)) (kt : Int) (nt : Int) (st : List UInt8) (lt : List (List AV)) (B : List (List AV)) : Ex × List AV × AH → Option AV := kAft (Cfg.keepOut cfg 37 (firstRid (sub (bodyOf Try.f37) [1, 1, 1, 0, 1, 0, 0]))) (kBlock 0 (kSeq (fun (fr : List AV) (H : AH) => kCutTo (Cfg.cut cfg 37 (firstRid (sub (bodyOf Try.f37) [1, 1, 1, 1]))) fr H fun (fr : List AV) (H : AH) => kCode cfg (EV cfg) (kfN cfg (5)) 37 none 2 (sub (bodyOf Try.f37) [1, 1, 1, 1]) fr H (kFinG cfg (Cfg.lift cfg 37 0) (fun (v : AV) (H : AH) => (fun (r : AV × AH) => kOpt (impRes none 2 (Prod.fst r) (Prod.snd r)) fun (r : AV × AH) => kTy noTy cfg (Oper.type { dst := some 10, op := Op.call { callee := Callee.value (Operand.func 37), args := #[Operand.tmp 9], argTypes := #[32] }, type := 65, pos := "pattern.go:179", after := #[{ on := 0, ground := Ground.data }], guard := none }) (Prod.fst r) fun (v : AV) => (fun (v : AV) (H' : AH) => kOps cfg (EV cfg) (kfN cfg 6) 25 1 (opsOf (sub (bodyOf Try.f25) [1, 0])) (0 + 1 + 1) (List.drop 2 (Array.toList (opsOf (sub (bodyOf Try.f25) [1, 0])))) (put (fx 32 [(0, AV.agg [AV.int IntKind.i64 kp, AV.int IntKind.i64 np, AV.str sp, AV.sl lp]), (1, AV.agg [AV.int IntKind.i64 kt, AV.int IntKind.i64 nt, AV.str st, AV.sl lt]), (2, AV.sl B), (3, AV.ptr 0 0 0), (4, AV.ptr 1 0 0), (6, AV.nilS), (7, AV.bool false), (9, AV.sl B)]) (some 10) v) H' fun (fr' : List AV) (H' : AH) => kSeq (fun (fr : List AV) (H : AH) => kCutTo (Cfg.cut cfg 25 (firstRid (sub (bodyOf Try.f25) [1, 1]))) fr H fun (fr : List AV) (H : AH) => kCode cfg (EV cfg) (kfN cfg 6) 25 none 0 (sub (bodyOf Try.f25) [1, 1]) fr H (kFinF cfg (Cfg.lift cfg 25 0) (Array.toList (Func.results Try.f25)))) (kFinF cfg (Cfg.lift cfg 25 0) (Array.toList (Func.results Try.f25))) Ex.normal fr' H') v (Prod.snd r)) (v, H)) (Array.toList (Func.results (Prod.snd (37, Try.f37)))))) (kFinG cfg (Cfg.lift cfg 37 0) (fun (v : AV) (H : AH) => (fun (r : AV × AH) => kOpt (impRes none 2 (Prod.fst r) (Prod.snd r)) fun (r : AV × AH) => kTy noTy cfg (Oper.type { dst := some 10, op := Op.call { callee := Callee.value (Operand.func 37), args := #[Operand.tmp 9], argTypes := #[32] }, type := 65, pos := "pattern.go:179", after := #[{ on := 0, ground := Ground.data }], guard := none }) (Prod.fst r) fun (v : AV) => (fun (v : AV) (H' : AH) => kOps cfg (EV cfg) (kfN cfg 6) 25 1 (opsOf (sub (bodyOf Try.f25) [1, 0])) (0 + 1 + 1) (List.drop 2 (Array.toList (opsOf (sub (bodyOf Try.f25) [1, 0])))) (put (fx 32 [(0, AV.agg [AV.int IntKind.i64 kp, AV.int IntKind.i64 np, AV.str sp, AV.sl lp]), (1, AV.agg [AV.int IntKind.i64 kt, AV.int IntKind.i64 nt, AV.str st, AV.sl lt]), (2, AV.sl B), (3, AV.ptr 0 0 0), (4, AV.ptr 1 0 0), (6, AV.nilS), (7, AV.bool false), (9, AV.sl B)]) (some 10) v) H' fun (fr' : List AV) (H' : AH) => kSeq (fun (fr : List AV) (H : AH) => kCutTo (Cfg.cut cfg 25 (firstRid (sub (bodyOf Try.f25) [1, 1]))) fr H fun (fr : List AV) (H : AH) => kCode cfg (EV cfg) (kfN cfg 6) 25 none 0 (sub (bodyOf Try.f25) [1, 1]) fr H (kFinF cfg (Cfg.lift cfg 25 0) (Array.toList (Func.results Try.f25)))) (kFinF cfg (Cfg.lift cfg 25 0) (Array.toList (Func.results Try.f25))) Ex.normal fr' H') v (Prod.snd r)) (v, H)) (Array.toList (Func.results (Prod.snd (37, Try.f37)))))))
noncomputable def Wj25_0 (kp : Int) (np : Int) (sp : List UInt8) (lp : List (List AV)) (kt : Int) (nt : Int) (st : List UInt8) (lt : List (List AV)) (B : List (List AV)) : List AV × AH → Option AV := fun (p : List AV × AH) => kOpt (LOOP 2 (some [3, 4, 9, 10, 11]) [] Lj25_0 p) (Aj25_0 kp np sp lp kt nt st lt B)
noncomputable abbrev wj25_0 (kp : Int) (np : Int) (sp : List UInt8) (lp : List (List AV)) (kt : Int) (nt : Int) (st : List UInt8) (lt : List (List AV)) (B : List (List AV)) (v4 : Int) (v11 : Int) (c0_0 : Int) (c0_1 : Int) (c0_2 : List UInt8) (c0_3 : List (List AV)) (c1_0 : Int) (c1_1 : Int) (c1_2 : List UInt8) (c1_3 : List (List AV)) (c2r0 : List AV) : Option (AV) := Wj25_0 (kp) (np) (sp) (lp) (kt) (nt) (st) (lt) (B) (((fx 48 [(3, AV.ptr (2 : Nat) (0 : Nat) (0 : Nat)), (4, AV.int IntKind.i64 v4), (9, AV.sl B), (10, AV.int IntKind.i64 (↑(List.length B) : Int)), (11, AV.int IntKind.i64 v11)]) : List AV), ([ABlk.rows false (4 : Nat) [[AV.int IntKind.i64 c0_0, AV.int IntKind.i64 c0_1, AV.str c0_2, AV.sl c0_3]], ABlk.rows false (4 : Nat) [[AV.int IntKind.i64 c1_0, AV.int IntKind.i64 c1_1, AV.str c1_2, AV.sl c1_3]], ABlk.rows true (402 : Nat) [c2r0]] : AH))
noncomputable abbrev wj25_0a (kp : Int) (np : Int) (sp : List UInt8) (lp : List (List AV)) (kt : Int) (nt : Int) (st : List UInt8) (lt : List (List AV)) (B : List (List AV)) (n : Int) (n' : Int) (n'' : Int) (s : List UInt8) (rows : List (List AV)) (q : MV × List (List AV)) (row : List AV) (v4 : Int) (v11 : Int) (c0_0 : Int) (c0_1 : Int) (c0_2 : List UInt8) (c0_3 : List (List AV)) (c1_0 : Int) (c1_1 : Int) (c1_2 : List UInt8) (c1_3 : List (List AV)) : Option (AV) := Wj25_0 (kp) (np) (sp) (lp) (kt) (nt) (st) (lt) (B) (((fx 48 [(3, AV.ptr (2 : Nat) (0 : Nat) (0 : Nat)), (4, AV.int IntKind.i64 v4), (9, AV.sl B), (10, AV.int IntKind.i64 (↑(List.length B) : Int)), (11, AV.int IntKind.i64 v11)]) : List AV), ([ABlk.rows false (4 : Nat) [[AV.int IntKind.i64 c0_0, AV.int IntKind.i64 c0_1, AV.str c0_2, AV.sl c0_3]], ABlk.rows false (4 : Nat) [[AV.int IntKind.i64 c1_0, AV.int IntKind.i64 c1_1, AV.str c1_2, AV.sl c1_3]], ABlk.rows true (402 : Nat) (List.set q.2 (0 : Nat) (List.append (List.append (List.take ((2 : Nat) + Int.toNat n * (4 : Nat)) row) [AV.int IntKind.i64 n', AV.int IntKind.i64 n'', AV.str s, AV.sl rows]) (List.drop ((2 : Nat) + Int.toNat n * (4 : Nat) + (4 : Nat)) row)))] : AH))
theorem patMore_run (kp : Int) (np : Int) (sp : List UInt8) (lp : List (List AV)) (kt : Int) (nt : Int) (st : List UInt8) (lt : List (List AV)) (B : List (List AV)) {P : AV → Prop} (h : Gets (wj25_0 kp np sp lp kt nt st lt B (-1 : Int) (0 : Int) kp np sp lp kt nt st lt [AV.int .u64 (0 : Int), .int .u64 (0 : Int), .int .i64 (0 : Int), .int .i64 (0 : Int), .str [], .nilS, .int 
  .i64 (0 : Int), .int .i64 (0 : Int), .str [], .nilS, .int .i64 (0 : Int), .int .i64 (0 : Int), .str [], .nilS, .int .i64 (0 : Int), .int .i64 (0 : Int), .str [], .nilS, .int .i64 (0 
  : Int), .int .i64 (0 : Int), .str [], .nilS, .int .i64 (0 : Int), .int .i64 (0 : Int), .str [], .nilS, .int .i64 (0 : Int), .int .i64 (0 : Int), .str [], .nilS, .int .i64 (0 : Int), 
  .int .i64 (0 : Int), .str [], .nilS, .int .i64 (0 : Int), .int .i64 (0 : Int), .str [], .nilS, .int .i64 (0 : Int), .int .i64 (0 : Int), .str [], .nilS, .int .i64 (0 : Int), .int .i64 
  (0 : Int), .str [], .nilS, .int .i64 (0 : Int), .int .i64 (0 : Int), .str [], .nilS, .int .i64 (0 : Int), .int .i64 (0 : Int), .str [], .nilS, .int .i64 (0 : Int), .int .i64 (0 : Int), 
  .str [], .nilS, .int .i64 (0 : Int), .int .i64 (0 : Int), .str [], .nilS, .int .i64 (0 : Int), .int .i64 (0 : Int), .str [], .nilS, .int .i64 (0 : Int), .int .i64 (0 : Int), .str [], 
  .nilS, .int .i64 (0 : Int), .int .i64 (0 : Int), .str [], .nilS, .int .i64 (0 : Int), .int .i64 (0 : Int), .str [], .nilS, .int .i64 (0 : Int), .int .i64 (0 : Int), .str [], .nilS, 
  .int .i64 (0 : Int), .int .i64 (0 : Int), .str [], .nilS, .int .i64 (0 : Int), .int .i64 (0 : Int), .str [], .nilS, .int .i64 (0 : Int), .int .i64 (0 : Int), .str [], .nilS, .int .i64 
  (0 : Int), .int .i64 (0 : Int), .str [], .nilS, .int .i64 (0 : Int), .int .i64 (0 : Int), .str [], .nilS, .int .i64 (0 : Int), .int .i64 (0 : Int), .str [], .nilS, .int .i64 (0 : Int), 
  .int .i64 (0 : Int), .str [], .nilS, .int .i64 (0 : Int), .int .i64 (0 : Int), .str [], .nilS, .int .i64 (0 : Int), .int .i64 (0 : Int), .str [], .nilS, .int .i64 (0 : Int), .int .i64 
  (0 : Int), .str [], .nilS, .int .i64 (0 : Int), .int .i64 (0 : Int), .str [], .nilS, .int .i64 (0 : Int), .int .i64 (0 : Int), .str [], .nilS, .int .i64 (0 : Int), .int .i64 (0 : Int), 
  .str [], .nilS, .int .i64 (0 : Int), .int .i64 (0 : Int), .str [], .nilS, .int .i64 (0 : Int), .int .i64 (0 : Int), .str [], .nilS, .int .i64 (0 : Int), .int .i64 (0 : Int), .str [], 
  .nilS, .int .i64 (0 : Int), .int .i64 (0 : Int), .str [], .nilS, .int .i64 (0 : Int), .int .i64 (0 : Int), .str [], .nilS, .int .i64 (0 : Int), .int .i64 (0 : Int), .str [], .nilS, 
  .int .i64 (0 : Int), .int .i64 (0 : Int), .str [], .nilS, .int .i64 (0 : Int), .int .i64 (0 : Int), .str [], .nilS, .int .i64 (0 : Int), .int .i64 (0 : Int), .str [], .nilS, .int .i64 
  (0 : Int), .int .i64 (0 : Int), .str [], .nilS, .int .i64 (0 : Int), .int .i64 (0 : Int), .str [], .nilS, .int .i64 (0 : Int), .int .i64 (0 : Int), .str [], .nilS, .int .i64 (0 : Int), 
  .int .i64 (0 : Int), .str [], .nilS, .int .i64 (0 : Int), .int .i64 (0 : Int), .str [], .nilS, .int .i64 (0 : Int), .int .i64 (0 : Int), .str [], .nilS, .int .i64 (0 : Int), .int .i64 
  (0 : Int), .str [], .nilS, .int .i64 (0 : Int), .int .i64 (0 : Int), .str [], .nilS, .int .i64 (0 : Int), .int .i64 (0 : Int), .str [], .nilS, .int .i64 (0 : Int), .int .i64 (0 : Int), 
  .str [], .nilS, .int .i64 (0 : Int), .int .i64 (0 : Int), .str [], .nilS, .int .i64 (0 : Int), .int .i64 (0 : Int), .str [], .nilS, .int .i64 (0 : Int), .int .i64 (0 : Int), .str [], 
  .nilS, .int .i64 (0 : Int), .int .i64 (0 : Int), .str [], .nilS, .int .i64 (0 : Int), .int .i64 (0 : Int), .str [], .nilS, .int .i64 (0 : Int), .int .i64 (0 : Int), .str [], .nilS, 
  .int .i64 (0 : Int), .int .i64 (0 : Int), .str [], .nilS, .int .i64 (0 : Int), .int .i64 (0 : Int), .str [], .nilS, .int .i64 (0 : Int), .int .i64 (0 : Int), .str [], .nilS, .int .i64 
  (0 : Int), .int .i64 (0 : Int), .str [], .nilS, .int .i64 (0 : Int), .int .i64 (0 : Int), .str [], .nilS, .int .i64 (0 : Int), .int .i64 (0 : Int), .str [], .nilS, .int .i64 (0 : Int), 
  .int .i64 (0 : Int), .str [], .nilS, .int .i64 (0 : Int), .int .i64 (0 : Int), .str [], .nilS, .int .i64 (0 : Int), .int .i64 (0 : Int), .str [], .nilS, .int .i64 (0 : Int), .int .i64 
  (0 : Int), .str [], .nilS, .int .i64 (0 : Int), .int .i64 (0 : Int), .str [], .nilS, .int .i64 (0 : Int), .int .i64 (0 : Int), .str [], .nilS, .int .i64 (0 : Int), .int .i64 (0 : Int), 
  .str [], .nilS, .int .i64 (0 : Int), .int .i64 (0 : Int), .str [], .nilS, .int .i64 (0 : Int), .int .i64 (0 : Int), .str [], .nilS, .int .i64 (0 : Int), .int .i64 (0 : Int), .str [], 
  .nilS, .int .i64 (0 : Int), .int .i64 (0 : Int), .str [], .nilS, .int .i64 (0 : Int), .int .i64 (0 : Int), .str [], .nilS, .int .i64 (0 : Int), .int .i64 (0 : Int), .str [], .nilS, 
  .int .i64 (0 : Int), .int .i64 (0 : Int), .str [], .nilS, .int .i64 (0 : Int), .int .i64 (0 : Int), .str [], .nilS, .int .i64 (0 : Int), .int .i64 (0 : Int), .str [], .nilS, .int .i64 
  (0 : Int), .int .i64 (0 : Int), .str [], .nilS, .int .i64 (0 : Int), .int .i64 (0 : Int), .str [], .nilS, .int .i64 (0 : Int), .int .i64 (0 : Int), .str [], .nilS, .int .i64 (0 : Int), 
  .int .i64 (0 : Int), .str [], .nilS, .int .i64 (0 : Int), .int .i64 (0 : Int), .str [], .nilS, .int .i64 (0 : Int), .int .i64 (0 : Int), .str [], .nilS, .int .i64 (0 : Int), .int .i64 
  (0 : Int), .str [], .nilS, .int .i64 (0 : Int), .int .i64 (0 : Int), .str [], .nilS, .int .i64 (0 : Int), .int .i64 (0 : Int), .str [], .nilS, .int .i64 (0 : Int), .int .i64 (0 : Int), 
  .str [], .nilS, .int .i64 (0 : Int), .int .i64 (0 : Int), .str [], .nilS, .int .i64 (0 : Int), .int .i64 (0 : Int), .str [], .nilS, .int .i64 (0 : Int), .int .i64 (0 : Int), .str [], 
  .nilS, .int .i64 (0 : Int), .int .i64 (0 : Int), .str [], .nilS, .int .i64 (0 : Int), .int .i64 (0 : Int), .str [], .nilS, .int .i64 (0 : Int), .int .i64 (0 : Int), .str [], .nilS, 
  .int .i64 (0 : Int), .int .i64 (0 : Int), .str [], .nilS, .int .i64 (0 : Int), .int .i64 (0 : Int), .str [], .nilS, .int .i64 (0 : Int), .int .i64 (0 : Int), .str [], .nilS, .int .i64 
  (0 : Int), .int .i64 (0 : Int), .str [], .nilS]) P) : Gets (EVf (EV cfg) 25 ([AV.agg [AV.int IntKind.i64 kp, AV.int IntKind.i64 np, AV.str sp, AV.sl lp], AV.agg [AV.int IntKind.i64 kt, AV.int IntKind.i64 nt, AV.str st, AV.sl lt], AV.sl B] : List AV)) P :=
  Gets.ev (fun _ h => funF rfl rfl Try.func25 rfl h) (Gets.eq (by kernel_rfl) h)
theorem wj25_0_step (kp : Int) (np : Int) (sp : List UInt8) (lp : List (List AV)) (kt : Int) (nt : Int) (st : List UInt8) (lt : List (List AV)) (B : List (List AV)) (v4 : Int) (v11 : Int) (c0_0 : Int) (c0_1 : Int) (c0_2 : List UInt8) (c0_3 : List (List AV)) (c1_0 : Int) (c1_1 : Int) (c1_2 : List UInt8) (c1_3 : List (List AV)) (c2r0 : List AV) {P : AV → Prop} (h : Gets (bif decide (v11 < (↑(List.length B) : Int)) then bif leInt (0 : Int) v11 && ltInt v11 (↑(List.length B) : Int) then kOpt (List.get?Internal B (Int.toNat v11)) fun (row : List AV) => 
  bif Nat.beq (List.length row) 5 then bif Nat.ble 5 (List.length row) then kCons (List.take 5 row) fun (c : AV) (cs : List AV) => kInt .i64 c fun (n : Int) => kTmC cs fun (n_1 n_2 : 
  Int) (s : List UInt8) (rows : List (List AV)) => (bif decide (n ≤ v4) then some (AV.tup [.sl [], .bool false]) else bif decide (n > (99 : Int)) then some (AV.tup [.sl [], .bool false]) 
  else kOpt (EVs (EV cfg) 38 [.agg [AV.int .i64 n_1, .int .i64 n_2, .str s, .sl rows]]) fun (v : AV) => kBool v fun (b : Bool) => bif !b then some (AV.tup [.sl [], .bool false]) else kOpt 
  (EVm (EV cfg) 51 [.ptr 0 0 0, .int .i64 n] 402 [c2r0]) fun (q : MV × List (List AV)) => kMUnit q.1 (bif leInt (0 : Int) n && ltInt n (100 : Int) then kOpt (List.get?Internal q.2 0) 
  fun (row : List AV) => bif Nat.ble (2 + Int.toNat n * 4 + 4) (List.length row) then wj25_0a kp np sp lp kt nt st lt B n n_1 n_2 s rows q row n (IntKind.wrap .i64 (v11 + (1 : Int))) 
  c0_0 c0_1 c0_2 c0_3 c1_0 c1_1 c1_2 c1_3 else none else none)) else none else none else none else kOpt (EVs (EV cfg) 38 [.agg [AV.int .i64 c0_0, .int .i64 c0_1, .str c0_2, .sl c0_3]]) 
  fun (v : AV) => kBool v fun (b : Bool) => bif !b then some (AV.tup [.sl [], .bool false]) else kOpt (EVs (EV cfg) 38 [.agg [AV.int .i64 c1_0, .int .i64 c1_1, .str c1_2, .sl c1_3]]) fun 
  (v : AV) => kBool v fun (b : Bool) => bif !b then some (AV.tup [.sl [], .bool false]) else kOpt (EVm (EV cfg) 39 [.ptr 0 0 0, .agg [AV.int .i64 c0_0, .int .i64 c0_1, .str c0_2, .sl c0_3], 
  .agg [AV.int .i64 c1_0, .int .i64 c1_1, .str c1_2, .sl c1_3]] 402 [c2r0]) fun (q : MV × List (List AV)) => kMBool q.1 fun (b : Bool) => bif !b then some (AV.tup [.sl [], .bool false]) 
  else kOpt (EVd (EV cfg) 40 [.ptr 0 0 0] 402 q.2) fun (q : AV × List (List AV)) => kSl q.1 fun (rows : List (List AV)) => some (AV.tup [.sl rows, .bool true])) P) : Gets (wj25_0 kp np sp lp kt nt st lt B v4 v11 c0_0 c0_1 c0_2 c0_3 c1_0 c1_1 c1_2 c1_3 c2r0) P :=
  Gets.ev (fun _ h => loop_step (cfg := cfg) (f := 37) (rd := none) (bs := 2) h) (Gets.eq (by kernel_rfl) h)
end Go.Proofs.Ytonmmmgffeoiiaa
end

section
namespace Go.Av
theorem matchT_eq (p t : Tm) (m : List (Int × Tm)) : matchT p t m = if p.kind = 2 then
      (if p.str = [95] then some m else match varG p.str with
        | none => if p = t then some m else none
        | some v => match lookB v m with
          | some x => if x = t then some m else none
          | none => some (m ++ [(v, t)]))
    else if p.kind = 7 ∨ p.kind = 9 then (if t.kind ≠ p.kind ∨ t.subs.length ≠ p.subs.length then none else matchL p.subs t.subs m)
    else if p = t then some m else none := by
  obtain ⟨k, n, s, l⟩ := p
  rw [matchT]
  rfl
theorem matchL_cons (p t : Tm) (l l' : List Tm) (m : List (Int × Tm)) : matchL (p :: l) (t :: l') m = (matchT p t m).bind fun m' => matchL l l' m' := by rw [matchL]
theorem matchL_nil (l' : List Tm) (m : List (Int × Tm)) : matchL [] l' m = some m := by rw [matchL]; simp
theorem rowsT_at' {l : List Tm} {i : Nat} {t : Tm} (h : l[i]? = some t) : List.get?Internal (rowsT l) (Int.toNat (i : Int)) = some t.cells := by
  rw [get?Internal_eq, Int.toNat_natCast, rowsT_get, h]; rfl
def MOut (o : Option (List (Int × Tm))) (b : Bool) (r : List AV) : Prop := match o with
  | some m => b = true ∧ BRow m r ∧ ∀ q ∈ m, q.2.chk = 0
  | none => b = false
def QM (o : Option (List (Int × Tm))) (q : MV × List (List AV)) : Prop := ∃ b r, q = (MV.bool b, [r]) ∧ MOut o b r
theorem QM.same {p t : Tm} {m : List (Int × Tm)} {r : List AV} (h : BRow m r) (hm : ∀ q ∈ m, q.2.chk = 0) : QM (if p = t then some m else none) (MV.bool (decide (p = t)), [r]) := by
  refine ⟨_, r, rfl, ?_⟩
  by_cases h1 : p = t
  · rw [if_pos h1, decide_eq_true h1]; exact ⟨rfl, h, hm⟩
  · rw [if_neg h1, decide_eq_false h1]; exact rfl
def matchR (o : Option (List (Int × Tm))) : AV := match o with
  | some b => .tup [.sl (bindsR b), .bool true]
  | none => .tup [.sl [], .bool false]
end Go.Av
namespace Go.Proofs.Ytonmmmgffeoiiaa
open Go.Av
set_option maxRecDepth 100000
theorem fits64C {n : Nat} (h : n ≤ 1099511627776) : fitsIn n 64 = true := by
  unfold fitsIn; rw [Bool.and_eq_true, Nat.ble_eq, Nat.ble_eq]; omega
theorem same_dec {a b : Tm} (h : a.w < 1099511627776) : EVs (EV cfg) 54 [a.av, b.av] = some (.bool (decide (a = b))) := by
  obtain ⟨v, h1, c, rfl, h2⟩ := same_ev h b
  rw [h1]
  congr 2
  by_cases hab : a = b
  · rw [decide_eq_true hab, h2.2 hab]
  · rw [decide_eq_false hab]
    cases c with
    | false => rfl
    | true => exact absurd (h2.1 rfl) hab
theorem match_ev : ∀ (n : Nat) (p t : Tm) (m : List (Int × Tm)) (r : List AV), p.w ≤ n → p.chk = 0 → t.chk = 0 → (∀ q ∈ m, q.2.chk = 0) → BRow m r →
    Gets (EVm (EV cfg) 39 [.ptr 0 0 0, p.av, t.av] 402 [r]) (QM (matchT p t m)) := by
  intro n
  induction n with
  | zero => intro p t m r h; have := w_pos p; omega
  | succ n ih =>
    intro p t m r hw hp ht hm hr
    have hwp := w_chk hp
    have hwe := p.w_eq
    have step : ∀ (i : Nat) (m : List (Int × Tm)) (r : List AV), i < p.subs.length → p.subs.length = t.subs.length → (∀ q ∈ m, q.2.chk = 0) → BRow m r →
        ∃ x y, p.subs[i]? = some x ∧ t.subs[i]? = some y ∧ p.subs.drop i = x :: p.subs.drop (i + 1) ∧ t.subs.drop i = y :: t.subs.drop (i + 1) ∧ Gets (EVm (EV cfg) 39 [.ptr 0 0 0, x.av, y.av] 402 [r]) (QM (matchT x y m)) := by
      intro i m r hi hl hm hr
      have hj : i < t.subs.length := by omega
      have hx : p.subs[i]? = some p.subs[i] := List.getElem?_eq_getElem hi
      have hy : t.subs[i]? = some t.subs[i] := List.getElem?_eq_getElem hj
      have mx := List.mem_of_getElem? hx
      have my := List.mem_of_getElem? hy
      have := wL_mem mx
      exact ⟨_, _, hx, hy, List.drop_eq_getElem_cons hi, List.drop_eq_getElem_cons hj, ih _ _ m r (by omega) (chk_sub hp mx) (chk_sub ht my) hm hr⟩
    have hlen : p.subs.length < 1099511627776 := by have := len_wL p.subs; omega
    have loopA : p.subs.length = t.subs.length → ∀ (d i : Nat) (m : List (Int × Tm)) (r : List AV) (v : MV), i + d = p.subs.length → (∀ q ∈ m, q.2.chk = 0) → BRow m r →
        Gets (wi39_0a (rowsT p.subs) (v, [r]) i p.kind p.num p.str (rowsT p.subs) t.kind t.num t.str (rowsT t.subs)) (QM (matchL (p.subs.drop i) (t.subs.drop i) m)) := by
      intro hl d
      induction d with
      | zero =>
        intro i m r v hi hm hr
        obtain rfl : i = p.subs.length := by omega
        refine wi39_0a_step _ _ _ _ _ _ _ _ _ _ _ ?_
        rw [rowsT_length, decide_eq_false (by omega), List.drop_eq_nil_of_le (Nat.le_refl _), matchL_nil]
        exact ⟨_, rfl, _, _, rfl, rfl, hr, hm⟩
      | succ d ihd =>
        intro i m r v hi hm hr
        have hil : i < p.subs.length := by omega
        obtain ⟨x, y, hx, hy, dx, dy, hc⟩ := step i m r hil hl hm hr
        refine wi39_0a_step _ _ _ _ _ _ _ _ _ _ _ ?_
        obtain ⟨q, hq, b, r', rfl, ho⟩ := hc
        have gx : List.get?Internal (rowsT p.subs) (Int.toNat (i : Int)) = some x.cells := rowsT_at' hx
        have gy : List.get?Internal (rowsT t.subs) (Int.toNat (i : Int)) = some y.cells := rowsT_at' hy
        rw [rowsT_length, rowsT_length, decide_eq_true (show (i : Int) < (p.subs.length : Int) by omega), leInt_zero, ltInt_nat, ltInt_nat, ← hl, decide_eq_true hil, gx, gy, wrap_succ hil hlen, dx, dy, matchL_cons]
        simp only [cond_true, Bool.and_self, length_cells, Nat.beq_refl, take_cells, kTmC_cells, ble44, av_unf, kOptSome]
        rw [hq]
        simp only [kOptSome, kMBool_bool]
        cases hmt : matchT x y m with
        | none =>
          rw [hmt] at ho
          obtain rfl : b = false := ho
          exact ⟨_, rfl, _, _, rfl, rfl⟩
        | some m' =>
          rw [hmt] at ho
          obtain ⟨rfl, hb, hm'⟩ := ho
          exact ihd (i + 1) m' r' _ (by omega) hm' hb
    have loop : p.subs.length = t.subs.length → Gets (wi39_0 (rowsT p.subs) 0 r p.kind p.num p.str (rowsT p.subs) t.kind t.num t.str (rowsT t.subs)) (QM (matchL p.subs t.subs m)) := by
      intro hl
      by_cases h0 : p.subs.length = 0
      · refine wi39_0_step _ _ _ _ _ _ _ _ _ _ _ ?_
        have hn : p.subs = [] := List.length_eq_zero_iff.1 h0
        rw [rowsT_length, h0, hn, matchL_nil]
        exact ⟨_, rfl, _, _, rfl, rfl, hr, hm⟩
      · have hil : 0 < p.subs.length := by omega
        obtain ⟨x, y, hx, hy, dx, dy, hc⟩ := step 0 m r hil hl hm hr
        rw [List.drop_zero] at dx dy
        refine wi39_0_step _ _ _ _ _ _ _ _ _ _ _ ?_
        obtain ⟨q, hq, b, r', rfl, ho⟩ := hc
        have g1 : leInt 0 0 = true := rfl
        have g2 : ltInt 0 (p.subs.length : Int) = true := decide_eq_true (by omega)
        have g3 : IntKind.wrap .i64 (0 + 1) = ((0 + 1 : Nat) : Int) := rfl
        have gx : List.get?Internal (rowsT p.subs) (Int.toNat 0) = some x.cells := rowsT_at' (i := 0) hx
        have gy : List.get?Internal (rowsT t.subs) (Int.toNat 0) = some y.cells := rowsT_at' (i := 0) hy
        rw [rowsT_length, rowsT_length, decide_eq_true (show (0 : Int) < (p.subs.length : Int) by omega), g1, ← hl, g2, gx, gy, g3]
        have e : matchL p.subs t.subs m = (matchT x y m).bind fun m' => matchL (p.subs.drop (0 + 1)) (t.subs.drop (0 + 1)) m' := by
          rw [← matchL_cons, ← dx, ← dy]
        rw [e]
        simp only [cond_true, Bool.and_self, length_cells, Nat.beq_refl, take_cells, kTmC_cells, ble44, av_unf, kOptSome]
        rw [hq]
        simp only [kOptSome, kMBool_bool]
        cases hmt : matchT x y m with
        | none =>
          rw [hmt] at ho
          obtain rfl : b = false := ho
          exact ⟨_, rfl, _, _, rfl, rfl⟩
        | some m' =>
          rw [hmt] at ho
          obtain ⟨rfl, hb, hm'⟩ := ho
          exact loopA hl (p.subs.length - 1) 1 m' r' _ (by omega) hm' hb
    have same := same_dec (a := p) (b := t) (by omega)
    have hf1 := hr.free
    rw [Tm.av, Tm.av, Tm.cells_eq, Tm.cells_eq]
    refine bMatch_run _ _ _ _ _ _ _ _ _ ?_
    rw [beqI, beqI, beqI, beqS, patNumber_ev, av_unf, av_unf, same, matchT_eq, rowsT_length, rowsT_length]
    by_cases h2 : p.kind = 2
    · rw [decide_eq_true h2, if_pos h2, cond_true]
      by_cases h95 : p.str = [95]
      · rw [decide_eq_true h95, if_pos h95]
        exact ⟨_, rfl, _, _, rfl, rfl, hr, hm⟩
      · rw [decide_eq_false h95, if_neg h95, cond_false]
        unfold varR
        simp only [kOptSome, kTup, kCons, kInt_int, kBool_bool, kNil]
        cases hv : varG p.str with
        | none => exact ⟨_, rfl, QM.same hr hm⟩
        | some v =>
          obtain ⟨hv0, hv9⟩ := varG_in hv
          obtain ⟨k, rfl⟩ : ∃ k : Nat, v = k := ⟨v.toNat, by omega⟩
          have hk : k < 100 := by omega
          have hf2 : refsLtL 0 [AV.cptr r 0, .int .i64 (k : Int)] = true := by simp [refsLtL, AV.refsLt, hr.free]
          have hl2 : ltInt (k : Int) 100 = true := by simp [ltInt]; omega
          simp only [Option.getD_some, Option.isSome_some, Bool.not_true, cond_false, hf1, hf2, cond_true, setHas_ev hr.set hk, kOptSome, kBool_bool, leInt_zero, hl2, Bool.and_self, Int.toNat_natCast]
          cases hx : lookB (k : Int) m with
          | some x =>
            have hc := hr.cells k hk x hx
            have hb : Nat.ble (2 + k * 4 + 4) r.length = true := by rw [Nat.ble_eq, hr.len]; omega
            have hxc : x.chk = 0 := hm _ (lookB_mem hx)
            have hxw := w_chk hxc
            have hs := same_dec (a := x) (b := t) (by omega)
            rw [hb, hc, Tm.cells_eq]
            simp only [Option.isSome_some, cond_true, kCons, kInt_int, kStr_str, kSl_sl, kNil, av_unf, hs, kOptSome, kBool_bool]
            exact ⟨_, rfl, QM.same hr hm⟩
          | none =>
            obtain ⟨r', e1, e2, e3, e4, e5⟩ := setAdd_ev hr.set hk
            have hadd := hr.add (t := t) hk hx e2 e3 e4 e5
            have hb : Nat.ble (2 + k * 4 + 4) r'.length = true := by rw [Nat.ble_eq, e4, hr.len]; omega
            rw [Tm.cells_eq] at hadd
            simp only [Option.isSome_none, cond_false, e1, kOptSome, kMUnit_unit, get?Internal_eq, List.getElem?_cons_zero, hb, cond_true]
            refine ⟨_, rfl, true, _, rfl, rfl, hadd, ?_⟩
            intro q hq
            rcases List.mem_append.1 hq with h | h
            · exact hm q h
            · simp at h; subst h; exact ht
    · rw [decide_eq_false h2, if_neg h2, cond_false, bneD, bneD]
      have hlb : (p.kind = 7 ∨ p.kind = 9) → Gets (bif !decide (t.kind = p.kind) then some (MV.bool false, [r]) else bif !decide ((t.subs.length : Int) = (p.subs.length : Int)) then some (MV.bool false, [r]) else wi39_0 (rowsT p.subs) 0 r p.kind p.num p.str (rowsT p.subs) t.kind t.num t.str (rowsT t.subs)) (QM (if p.kind = 7 ∨ p.kind = 9 then (if t.kind ≠ p.kind ∨ t.subs.length ≠ p.subs.length then none else matchL p.subs t.subs m) else if p = t then some m else none)) := by
        intro h79
        rw [if_pos h79]
        by_cases hk : t.kind = p.kind
        · rw [decide_eq_true hk]
          by_cases hl : t.subs.length = p.subs.length
          · rw [decide_eq_true (show (t.subs.length : Int) = (p.subs.length : Int) by omega), if_neg (by simp [hk, hl])]
            exact loop hl.symm
          · rw [decide_eq_false (show ¬ (t.subs.length : Int) = (p.subs.length : Int) by omega), if_pos (.inr hl)]
            exact ⟨_, rfl, _, _, rfl, rfl⟩
        · rw [decide_eq_false hk, if_pos (.inl hk)]
          exact ⟨_, rfl, _, _, rfl, rfl⟩
      by_cases h7 : p.kind = 7
      · rw [decide_eq_true h7, cond_true]
        exact hlb (.inl h7)
      · rw [decide_eq_false h7, cond_false]
        by_cases h9 : p.kind = 9
        · rw [decide_eq_true h9, cond_true]
          exact hlb (.inr h9)
        · rw [decide_eq_false h9, cond_false, if_neg (by omega)]
          exact ⟨_, rfl, QM.same hr hm⟩
theorem tells_ev {m : List (Int × Tm)} {r : List AV} (hr : BRow m r) (hm : ∀ q ∈ m, q.2.chk = 0) : EVd (EV cfg) 40 [.ptr 0 0 0] 402 [r] = some (.sl (bindsR (tellB m)), [r]) := by
  have hf1 := hr.free
  have loop : ∀ d i : Nat, i + d = 100 → Gets (wi40_0 ((List.range i).filterMap fun n => (lookB (n : Nat) m).map fun t => ((n : Int), t)).length i r (bindsR ((List.range i).filterMap fun n => (lookB (n : Nat) m).map fun t => ((n : Int), t)))) (· = (AV.sl (bindsR (tellB m)), [r])) := by
    intro d
    induction d with
    | zero =>
      intro i hi
      obtain rfl : i = 100 := by omega
      refine wi40_0_step _ _ _ _ ?_
      have e1 : Nat.ble (0 + (tellB m).length) (bindsR (tellB m)).length = true := by rw [Nat.ble_eq, bindsR_len]; omega
      have e2 : List.take (tellB m).length (bindsR (tellB m)) = bindsR (tellB m) := List.take_of_length_le (by rw [bindsR_len]; exact Nat.le_refl _)
      unfold tellB at e1 e2
      rw [show decide (((100 : Nat) : Int) < 100) = false from rfl, e1, e2]
      exact ⟨_, rfl, rfl⟩
    | succ d ih =>
      intro i hi
      have hk : i < 100 := by omega
      have h1 := ih (i + 1) (by omega)
      rw [List.range_succ, List.filterMap_append] at h1
      generalize hacc : (List.range i).filterMap (fun n => (lookB (n : Nat) m).map fun t => ((n : Int), t)) = acc at h1 ⊢
      have hle : acc.length ≤ i := by
        rw [← hacc]
        have := List.length_filterMap_le (fun n => (lookB (n : Nat) m).map fun t => ((n : Int), t)) (List.range i)
        rw [List.length_range] at this; exact this
      refine wi40_0_step _ _ _ _ ?_
      have e1 : Nat.ble (0 + acc.length) (bindsR acc).length = true := by rw [Nat.ble_eq, bindsR_len]; omega
      have e2 : List.take acc.length (bindsR acc) = bindsR acc := List.take_of_length_le (by rw [bindsR_len]; exact Nat.le_refl _)
      have e3 : IntKind.wrap .i64 ((i : Int) + 1) = ((i + 1 : Nat) : Int) := by rw [wrap64 (by omega) (by omega)]; omega
      have hf2 : refsLtL 0 [AV.cptr r 0, .int .i64 (i : Int)] = true := by simp [refsLtL, AV.refsLt, hr.free]
      have hl2 : ltInt (i : Int) 100 = true := by simp [ltInt]; omega
      have hb : Nat.ble (2 + i * 4 + 4) r.length = true := by rw [Nat.ble_eq, hr.len]; omega
      rw [decide_eq_true (show (i : Int) < 100 by omega), e1, e2, e3]
      simp only [cond_true, kOptSome, kBool_bool, hf1, hf2, Bool.and_self, setHas_ev hr.set hk, leInt_zero, hl2, Int.toNat_natCast, hb]
      cases hx : lookB (i : Int) m with
      | none =>
        have : List.filterMap (fun n => (lookB (n : Nat) m).map fun t => ((n : Int), t)) [i] = [] := by simp [hx]
        rw [this, List.append_nil] at h1
        rw [Option.isSome_none, cond_false]
        exact h1
      | some x =>
        have hc := hr.cells i hk x hx
        have hxc : x.chk = 0 := hm _ (lookB_mem hx)
        have hcp := copy_ev (ok_chk hxc)
        have : List.filterMap (fun n => (lookB (n : Nat) m).map fun t => ((n : Int), t)) [i] = [((i : Int), x)] := by simp [hx]
        rw [this, List.length_append, List.length_singleton] at h1
        have e4 : bindsR (acc ++ [((i : Int), x)]) = List.append (bindsR acc) [.int .i64 i :: x.cells] := by unfold bindsR; rw [List.map_append]; rfl
        rw [e4, Tm.cells_eq] at h1
        rw [hc, Tm.cells_eq]
        simp only [Option.isSome_some, cond_true, kCons, kInt_int, kStr_str, kSl_sl, kNil, av_unf, hcp, kOptSome, kTmV_av, fits64C (show acc.length + 1 ≤ 1099511627776 by omega)]
        exact h1
  apply Gets.get
  refine bTells_run _ ?_
  exact loop 100 0 rfl
theorem patMore0_ev {p t : Tm} (wp : p.w < 1099511627776) (wt : t.w < 1099511627776) : EVf (EV cfg) 25 [p.av, t.av, .sl []] = some (matchR (matchG p t)) := by
  have mp := patMay_ev wp
  have mt := patMay_ev wt
  have hm := match_ev p.w p t [] ([AV.int .u64 0, AV.int .u64 0] ++ (List.replicate 100 [AV.int .i64 0, AV.int .i64 0, .str [], .nilS]).flatten) (Nat.le_refl _)
  apply Gets.get
  rw [Tm.av, Tm.av, Tm.cells_eq, Tm.cells_eq] at hm ⊢
  rw [Tm.av, Tm.cells_eq] at mp mt
  refine patMore_run _ _ _ _ _ _ _ _ _ ?_
  refine wj25_0_step _ _ _ _ _ _ _ _ _ _ _ _ _ _ _ _ _ _ _ _ ?_
  rw [mp, mt]
  simp only [kOptSome, kBool_bool, show decide ((0 : Int) < (([] : List (List AV)).length : Int)) = false from rfl, cond_false]
  unfold matchG
  by_cases hp : p.chk = 0
  · by_cases ht : t.chk = 0
    · rw [decide_eq_true hp, decide_eq_true ht, if_pos ⟨hp, ht⟩]
      obtain ⟨q, hq, b, r', rfl, ho⟩ := hm hp ht (by simp) zeroRow
      have h : Gets (kOpt (EVm (EV cfg) 39 [.ptr 0 0 0, .agg [AV.int .i64 p.kind, .int .i64 p.num, .str p.str, .sl (rowsT p.subs)], .agg [AV.int .i64 t.kind, .int .i64 t.num, .str t.str, .sl (rowsT t.subs)]] 402 [[AV.int .u64 0, AV.int .u64 0] ++ (List.replicate 100 [AV.int .i64 0, AV.int .i64 0, .str [], .nilS]).flatten]) fun (q : MV × List (List AV)) => kMBool q.1 fun (b : Bool) => bif !b then some (AV.tup [.sl [], .bool false]) else kOpt (EVd (EV cfg) 40 [.ptr 0 0 0] 402 q.2) fun (q : AV × List (List AV)) => kSl q.1 fun (rows : List (List AV)) => some (AV.tup [.sl rows, .bool true])) (· = matchR ((matchT p t []).map tellB)) := by
        rw [hq]
        simp only [kOptSome, kMBool_bool]
        cases hmt : matchT p t [] with
        | none =>
          rw [hmt] at ho
          obtain rfl : b = false := ho
          exact ⟨_, rfl, rfl⟩
        | some m' =>
          rw [hmt] at ho
          obtain ⟨rfl, hb, hm'⟩ := ho
          rw [tells_ev hb hm']
          exact ⟨_, rfl, rfl⟩
      refine Gets.eq ?_ h
      kernel_rfl
    · rw [decide_eq_true hp, decide_eq_false ht, if_neg (fun h => ht h.2)]
      exact ⟨_, rfl, rfl⟩
  · rw [decide_eq_false hp, if_neg (fun h => hp h.1)]
    exact ⟨_, rfl, rfl⟩
theorem patMatch_ev {p t : Tm} (wp : p.w < 1099511627776) (wt : t.w < 1099511627776) : EVf (EV cfg) 10 [p.av, t.av] = some (matchR (matchG p t)) := by
  have hm := patMore0_ev wp wt
  apply Gets.get
  rw [Tm.av, Tm.av, Tm.cells_eq, Tm.cells_eq] at hm ⊢
  refine patMatch_run _ _ _ _ _ _ _ _ ?_
  rw [hm]
  cases matchG p t <;> exact ⟨_, rfl, rfl⟩
end Go.Proofs.Ytonmmmgffeoiiaa
end

section
namespace Go.Proofs.Ytonmmmgffeoiiaa
open Go.Av
set_option maxRecDepth 100000
set_option maxHeartbeats 0

noncomputable def Lf28_0 : Den := evC cfg (EV cfg) 55 none 10 (sub (bodyOf Try.f55) [0, 0, 0])
noncomputable def Af28_0 : Ex × List AV × AH → Option (OV × AV) := kAft (Cfg.keepOut cfg 55 (firstRid (sub (bodyOf Try.f55) [0, 0, 0]))) (kBlock 0 (kSeq (fun (fr : List AV) (H : AH) => kCutTo (Cfg.cut cfg 55 (firstRid (sub (bodyOf Try.f55) [1]))) fr H fun (fr : List AV) (H : AH) => kCode cfg (EV cfg) (kfN cfg (5)) 55 none 10 (sub (bodyOf Try.f55) [1]) fr H (kFinG cfg (Cfg.lift cfg 55 0) (fun (v : AV) (H : AH) => (fun (r : AV × AH) => kRangeEnd 0 9 (fx 34 [(2, AV.ptr 1 0 0), (3, AV.ptr 2 0 0), (4, AV.ptr 3 0 0), (5, AV.ptr 4 0 0)]) (kBlock 0 (kSeq (fun (fr : List AV) (H : AH) => kCutTo (Cfg.cut cfg 28 (firstRid (sub (bodyOf Try.f28) [1, 1, 1, 1, 1]))) fr H fun (fr : List AV) (H : AH) => kCode cfg (EV cfg) (kfN cfg 6) 28 none 0 (sub (bodyOf Try.f28) [1, 1, 1, 1, 1]) fr H (kFinQ cfg (Cfg.lift cfg 28 0) (Array.toList (Func.results Try.f28)))) (kFinQ cfg (Cfg.lift cfg 28 0) (Array.toList (Func.results Try.f28))))) (Prod.snd r)) (v, H)) (Array.toList (Func.results (Prod.snd (55, Try.f55)))))) (kFinG cfg (Cfg.lift cfg 55 0) (fun (v : AV) (H : AH) => (fun (r : AV × AH) => kRangeEnd 0 9 (fx 34 [(2, AV.ptr 1 0 0), (3, AV.ptr 2 0 0), (4, AV.ptr 3 0 0), (5, AV.ptr 4 0 0)]) (kBlock 0 (kSeq (fun (fr : List AV) (H : AH) => kCutTo (Cfg.cut cfg 28 (firstRid (sub (bodyOf Try.f28) [1, 1, 1, 1, 1]))) fr H fun (fr : List AV) (H : AH) => kCode cfg (EV cfg) (kfN cfg 6) 28 none 0 (sub (bodyOf Try.f28) [1, 1, 1, 1, 1]) fr H (kFinQ cfg (Cfg.lift cfg 28 0) (Array.toList (Func.results Try.f28)))) (kFinQ cfg (Cfg.lift cfg 28 0) (Array.toList (Func.results Try.f28))))) (Prod.snd r)) (v, H)) (Array.toList (Func.results (Prod.snd (55, Try.f55)))))))
noncomputable def Wf28_0 : List AV × AH → Option (OV × AV) := fun (p : List AV × AH) => kOpt (LOOP 10 (some [0, 1, 2]) [] Lf28_0 p) Af28_0
noncomputable def Lf42_0 : Den := evC cfg (EV cfg) 42 none 0 (sub (bodyOf Try.f42) [1, 1, 1, 1, 1, 1, 1, 1, 0, 1, 0, 0])
noncomputable def Af42_0 : Ex × List AV × AH → Option AV := kAft (Cfg.keepOut cfg 42 11) (kRun cfg (EV cfg) (kfN cfg 6) 42 none 0 (kFinF cfg (Cfg.lift cfg 42 0) Try.f42.results.toList) ([.block 0, .seq (sub (bodyOf Try.f42) [1, 1, 1, 1, 1, 1, 1, 1, 1])]))
noncomputable def Wf42_0 : List AV × AH → Option AV := fun p => kOpt (LOOP 0 (some [2, 4, 5, 73, 74]) ([]) Lf42_0 p) Af42_0
noncomputable def Lf42_1 : Den := evC cfg (EV cfg) 42 none 0 (sub (bodyOf Try.f42) [1, 1, 1, 1, 1, 1, 1, 1, 0, 1, 0, 0, 1, 1, 0, 0, 1, 1, 0, 0])
noncomputable def Af42_1 : Ex × List AV × AH → Option AV := kAft (Cfg.keepOut cfg 42 14) (kRun cfg (EV cfg) (kfN cfg 6) 42 none 0 (kLp 0 (some [2, 4, 5, 73, 74]) ([]) Lf42_0 Af42_0) ([.block 2, .block 1, .seq (sub (bodyOf Try.f42) [1, 1, 1, 1, 1, 1, 1, 1, 0, 1, 0, 0, 1, 1, 1])]))
noncomputable def Wf42_1 : List AV × AH → Option AV := fun p => kOpt (LOOP 0 (some [2, 4, 5, 73, 74, 77, 78, 79]) ([]) Lf42_1 p) Af42_1
noncomputable abbrev wf28_0 (c0_0 : Int) (c0_1 : Int) (c0_2 : List UInt8) (c0_3 : List (List AV)) (nc1_0 : Nat) (c2_0 : Int) (nc3_0 : Nat) (c4_0 : Bool) (c5_0 : Int) (c5_1 : Int) (c5_2 : List UInt8) (c5_3 : List (List AV)) (h7 : List (List AV)) (h8 : List (List AV)) : Option (OV × AV) := Wf28_0  (((fx 23 [(0, AV.yld (9 : Nat)), (1, AV.ptr (5 : Nat) (0 : Nat) (0 : Nat)), (2, AV.ptr (6 : Nat) (0 : Nat) (0 : Nat))]) : List AV), ([ABlk.rows false (4 : Nat) [[AV.int IntKind.i64 c0_0, AV.int IntKind.i64 c0_1, AV.str c0_2, AV.sl c0_3]], ABlk.rows false (1 : Nat) [[AV.ms (7 : Nat) (0 : Nat) nc1_0]], ABlk.rows false (1 : Nat) [[AV.int IntKind.i64 c2_0]], ABlk.rows false (1 : Nat) [[AV.ms (8 : Nat) (0 : Nat) nc3_0]], ABlk.rows false (1 : Nat) [[AV.bool c4_0]], ABlk.rows false (4 : Nat) [[AV.int IntKind.i64 c5_0, AV.int IntKind.i64 c5_1, AV.str c5_2, AV.sl c5_3]], ABlk.rows false (1 : Nat) [[AV.ptr (4 : Nat) (0 : Nat) (0 : Nat)]], ABlk.rows true (6 : Nat) h7, ABlk.rows true (6 : Nat) h8, rngB Try.f28 (28 : Nat) [(1 : Nat), (1 : Nat), (1 : Nat), (1 : Nat), (0 : Nat), (1 : Nat), (0 : Nat)] (fx 34 [(2, AV.ptr (1 : Nat) (0 : Nat) (0 : Nat)), (3, AV.ptr (2 : Nat) (0 : Nat) (0 : Nat)), (4, AV.ptr (3 : Nat) (0 : Nat) (0 : Nat))]) none LoopState.ready] : AH))
noncomputable abbrev wf42_0 (n : Int) (n' : Int) (s : List UInt8) (rows : List (List AV)) (rows' : List (List AV)) (rows'' : List (List AV)) (rows''' : List (List AV)) : Option (AV) := Wf42_0  (((fx 91 [(2, AV.ptr (0 : Nat) (0 : Nat) (0 : Nat)), (4, AV.ptr (1 : Nat) (0 : Nat) (0 : Nat)), (5, AV.sl rows'), (73, AV.agg [AV.sl rows'', AV.sl rows''']), (74, AV.int IntKind.i64 (0 : Int))]) : List AV), ([ABlk.rows false (6 : Nat) [[AV.int IntKind.i64 (0 : Int), AV.int IntKind.i64 (0 : Int), AV.str [], AV.sl [], AV.sl [], AV.sl []]], ABlk.rows false (6 : Nat) [[AV.int IntKind.i64 n, AV.int IntKind.i64 n', AV.str s, AV.sl rows, AV.sl rows'', AV.sl rows''']]] : AH))
noncomputable abbrev wf28_0a (c0_0 : Int) (c0_1 : Int) (c0_2 : List UInt8) (c0_3 : List (List AV)) (nc1_0 : Nat) (c2_0 : Int) (nc3_0 : Nat) (c4_0 : Bool) (c5_0 : Int) (c5_1 : Int) (c5_2 : List UInt8) (c5_3 : List (List AV)) (h7 : List (List AV)) (h10 : List (List AV)) : Option (OV × AV) := Wf28_0  (((fx 23 [(0, AV.yld (9 : Nat)), (1, AV.ptr (5 : Nat) (0 : Nat) (0 : Nat)), (2, AV.ptr (6 : Nat) (0 : Nat) (0 : Nat))]) : List AV), ([ABlk.rows false (4 : Nat) [[AV.int IntKind.i64 c0_0, AV.int IntKind.i64 c0_1, AV.str c0_2, AV.sl c0_3]], ABlk.rows false (1 : Nat) [[AV.ms (7 : Nat) (0 : Nat) nc1_0]], ABlk.rows false (1 : Nat) [[AV.int IntKind.i64 c2_0]], ABlk.rows false (1 : Nat) [[AV.ms (10 : Nat) (0 : Nat) nc3_0]], ABlk.rows false (1 : Nat) [[AV.bool c4_0]], ABlk.rows false (4 : Nat) [[AV.int IntKind.i64 c5_0, AV.int IntKind.i64 c5_1, AV.str c5_2, AV.sl c5_3]], ABlk.rows false (1 : Nat) [[AV.ptr (4 : Nat) (0 : Nat) (0 : Nat)]], ABlk.rows true (6 : Nat) h7, ABlk.dead, rngB Try.f28 (28 : Nat) [(1 : Nat), (1 : Nat), (1 : Nat), (1 : Nat), (0 : Nat), (1 : Nat), (0 : Nat)] (fx 34 [(2, AV.ptr (1 : Nat) (0 : Nat) (0 : Nat)), (3, AV.ptr (2 : Nat) (0 : Nat) (0 : Nat)), (4, AV.ptr (3 : Nat) (0 : Nat) (0 : Nat))]) none LoopState.ready, ABlk.rows true (6 : Nat) h10] : AH))
noncomputable abbrev wf42_1 (rows' : List (List AV)) (rows'' : List (List AV)) (rows''' : List (List AV)) (v79 : Int) (c0_0 : Int) (c0_1 : Int) (c0_2 : List UInt8) (c0_3 : List (List AV)) (c0_4 : List (List AV)) (c0_5 : List (List AV)) (c1_0 : Int) (c1_1 : Int) (c1_2 : List UInt8) (c1_3 : List (List AV)) (c1_4 : List (List AV)) (c1_5 : List (List AV)) : Option (AV) := Wf42_1  (((fx 91 [(2, AV.ptr (0 : Nat) (0 : Nat) (0 : Nat)), (4, AV.ptr (1 : Nat) (0 : Nat) (0 : Nat)), (5, AV.sl rows'), (73, AV.agg [AV.sl rows'', AV.sl rows''']), (74, AV.int IntKind.i64 (0 : Int)), (77, AV.sl rows''), (78, AV.int IntKind.i64 (↑(List.length rows'') : Int)), (79, AV.int IntKind.i64 v79)]) : List AV), ([ABlk.rows false (6 : Nat) [[AV.int IntKind.i64 c0_0, AV.int IntKind.i64 c0_1, AV.str c0_2, AV.sl c0_3, AV.sl c0_4, AV.sl c0_5]], ABlk.rows false (6 : Nat) [[AV.int IntKind.i64 c1_0, AV.int IntKind.i64 c1_1, AV.str c1_2, AV.sl c1_3, AV.sl c1_4, AV.sl c1_5]]] : AH))
noncomputable abbrev wf42_0a (rows' : List (List AV)) (rows'' : List (List AV)) (rows''' : List (List AV)) (c0_0 : Int) (c0_1 : Int) (c0_2 : List UInt8) (c0_3 : List (List AV)) (c0_4 : List (List AV)) (c0_5 : List (List AV)) (c1_0 : Int) (c1_1 : Int) (c1_2 : List UInt8) (c1_3 : List (List AV)) (c1_4 : List (List AV)) (c1_5 : List (List AV)) : Option (AV) := Wf42_0  (((fx 91 [(2, AV.ptr (0 : Nat) (0 : Nat) (0 : Nat)), (4, AV.ptr (1 : Nat) (0 : Nat) (0 : Nat)), (5, AV.sl rows'), (73, AV.agg [AV.sl rows'', AV.sl rows''']), (74, AV.int IntKind.i64 (1 : Int))]) : List AV), ([ABlk.rows false (6 : Nat) [[AV.int IntKind.i64 c0_0, AV.int IntKind.i64 c0_1, AV.str c0_2, AV.sl c0_3, AV.sl c0_4, AV.sl c0_5]], ABlk.rows false (6 : Nat) [[AV.int IntKind.i64 c1_0, AV.int IntKind.i64 c1_1, AV.str c1_2, AV.sl c1_3, AV.sl c1_4, AV.sl c1_5]]] : AH))
noncomputable abbrev wf42_1a (rows' : List (List AV)) (rows'' : List (List AV)) (rows''' : List (List AV)) (v79 : Int) (c0_0 : Int) (c0_1 : Int) (c0_2 : List UInt8) (c0_3 : List (List AV)) (c0_4 : List (List AV)) (c0_5 : List (List AV)) (c1_0 : Int) (c1_1 : Int) (c1_2 : List UInt8) (c1_3 : List (List AV)) (c1_4 : List (List AV)) (c1_5 : List (List AV)) : Option (AV) := Wf42_1  (((fx 91 [(2, AV.ptr (0 : Nat) (0 : Nat) (0 : Nat)), (4, AV.ptr (1 : Nat) (0 : Nat) (0 : Nat)), (5, AV.sl rows'), (73, AV.agg [AV.sl rows'', AV.sl rows''']), (74, AV.int IntKind.i64 (1 : Int)), (77, AV.sl rows'''), (78, AV.int IntKind.i64 (↑(List.length rows''') : Int)), (79, AV.int IntKind.i64 v79)]) : List AV), ([ABlk.rows false (6 : Nat) [[AV.int IntKind.i64 c0_0, AV.int IntKind.i64 c0_1, AV.str c0_2, AV.sl c0_3, AV.sl c0_4, AV.sl c0_5]], ABlk.rows false (6 : Nat) [[AV.int IntKind.i64 c1_0, AV.int IntKind.i64 c1_1, AV.str c1_2, AV.sl c1_3, AV.sl c1_4, AV.sl c1_5]]] : AH))
noncomputable abbrev wf42_0b (rows' : List (List AV)) (rows'' : List (List AV)) (rows''' : List (List AV)) (c0_0 : Int) (c0_1 : Int) (c0_2 : List UInt8) (c0_3 : List (List AV)) (c0_4 : List (List AV)) (c0_5 : List (List AV)) (c1_0 : Int) (c1_1 : Int) (c1_2 : List UInt8) (c1_3 : List (List AV)) (c1_4 : List (List AV)) (c1_5 : List (List AV)) : Option (AV) := Wf42_0  (((fx 91 [(2, AV.ptr (0 : Nat) (0 : Nat) (0 : Nat)), (4, AV.ptr (1 : Nat) (0 : Nat) (0 : Nat)), (5, AV.sl rows'), (73, AV.agg [AV.sl rows'', AV.sl rows''']), (74, AV.int IntKind.i64 (2 : Int))]) : List AV), ([ABlk.rows false (6 : Nat) [[AV.int IntKind.i64 c0_0, AV.int IntKind.i64 c0_1, AV.str c0_2, AV.sl c0_3, AV.sl c0_4, AV.sl c0_5]], ABlk.rows false (6 : Nat) [[AV.int IntKind.i64 c1_0, AV.int IntKind.i64 c1_1, AV.str c1_2, AV.sl c1_3, AV.sl c1_4, AV.sl c1_5]]] : AH))
theorem spClauses1_run (kt : Int) (nt : Int) (st : List UInt8) (lt : List (List AV)) {P : OV × AV → Prop} (h : Gets (kOpt (EVs (EV cfg) 35 [.agg [AV.int .i64 kt, .int .i64 nt, .str st, .sl lt]]) fun (v : AV) => kInt .i64 v fun (n : Int) => bif n != (0 : Int) then some (OV.own 6 [] 0 0, .int .i64 (2 
  : Int)) else wf28_0 kt nt st lt 0 (0 : Int) 0 false kt nt st lt [] []) P) : Gets (EVq (EV cfg) 28 ([AV.agg [AV.int IntKind.i64 kt, AV.int IntKind.i64 nt, AV.str st, AV.sl lt]] : List AV)) P :=
  Gets.ev (fun _ h => funQ rfl rfl Try.func28 rfl h) (Gets.eq (by kernel_rfl) h)
theorem spClause_run (kt : Int) (nt : Int) (st : List UInt8) (lt : List (List AV)) {P : AV → Prop} (h : Gets (bif kt != (7 : Int) then some (AV.tup [.agg [AV.int .i64 (0 : Int), .int .i64 (0 : Int), .str [], .sl [], .sl [], .sl []], .bool false]) else bif (↑(List.length lt) : Int) != (3 : Int) 
  then some (AV.tup [.agg [AV.int .i64 (0 : Int), .int .i64 (0 : Int), .str [], .sl [], .sl [], .sl []], .bool false]) else bif ltInt (0 : Int) (↑(List.length lt) : Int) then kOpt (List.get?Internal 
  lt 0) fun (row : List AV) => bif Nat.beq (List.length row) 4 then bif Nat.ble 4 (List.length row) then kTmC (List.take 4 row) fun (n n_1 : Int) (s : List UInt8) (rows : List (List AV)) 
  => (kOpt (EVs (EV cfg) 56 [.agg [AV.int .i64 n, .int .i64 n_1, .str s, .sl rows]]) fun (v : AV) => kBool v fun (b : Bool) => bif !b then some (AV.tup [.agg [AV.int .i64 (0 : Int), .int 
  .i64 (0 : Int), .str [], .sl [], .sl [], .sl []], .bool false]) else bif ltInt (0 : Int) (↑(List.length lt) : Int) then kOpt (List.get?Internal lt 0) fun (row : List AV) => bif Nat.beq 
  (List.length row) 4 then bif Nat.ble 4 (List.length row) then kTmC (List.take 4 row) fun (n n_2 : Int) (s : List UInt8) (rows : List (List AV)) => (kOpt (EVf (EV cfg) 57 [.agg [AV.int 
  .i64 n, .int .i64 n_2, .str s, .sl rows]]) fun (v : AV) => kSl v fun (rows_1 : List (List AV)) => bif ltInt (1 : Int) (↑(List.length lt) : Int) then kOpt (List.get?Internal lt 1) fun 
  (row : List AV) => bif Nat.beq (List.length row) 4 then bif Nat.ble 4 (List.length row) then kTmC (List.take 4 row) fun (n_3 n_4 : Int) (s_1 : List UInt8) (rows_2 : List (List AV)) 
  => (kOpt (EVf (EV cfg) 58 [.agg [AV.int .i64 n_3, .int .i64 n_4, .str s_1, .sl rows_2]]) fun (v : AV) => kTup v fun (cs : List AV) => kCons cs fun (c : AV) (cs : List AV) => kSl c fun 
  (rows_3 : List (List AV)) => kCons cs fun (c : AV) (cs : List AV) => kBool c fun (b : Bool) => kNil cs (bif ltInt (2 : Int) (↑(List.length lt) : Int) then kOpt (List.get?Internal lt 
  2) fun (row : List AV) => bif Nat.beq (List.length row) 4 then bif Nat.ble 4 (List.length row) then kTmC (List.take 4 row) fun (n_5 n_6 : Int) (s_2 : List UInt8) (rows_4 : List (List 
  AV)) => (kOpt (EVf (EV cfg) 58 [AV.agg [AV.int .i64 n_5, .int .i64 n_6, .str s_2, .sl rows_4]]) fun (v : AV) => kTup v fun (cs : List AV) => kCons cs fun (c : AV) (cs : List AV) => kSl 
  c fun (rows_5 : List (List AV)) => kCons cs fun (c : AV) (cs : List AV) => kBool c fun (b_1 : Bool) => kNil cs (bif !b then some (AV.tup [AV.agg [AV.int .i64 (0 : Int), .int .i64 (0 : 
  Int), .str [], .sl [], .sl [], .sl []], .bool false]) else bif !b_1 then some (AV.tup [AV.agg [AV.int .i64 (0 : Int), .int .i64 (0 : Int), .str [], .sl [], .sl [], .sl []], .bool false]) 
  else bif (↑(List.length rows_5) : Int) == (0 : Int) then some (AV.tup [AV.agg [AV.int .i64 (0 : Int), .int .i64 (0 : Int), .str [], .sl [], .sl [], .sl []], .bool false]) else wf42_0 
  n n_2 s rows rows_1 rows_3 rows_5)) else none else none else none)) else none else none else none) else none else none else none) else none else none else none) P) : Gets (EVf (EV cfg) 42 ([AV.agg [AV.int IntKind.i64 kt, AV.int IntKind.i64 nt, AV.str st, AV.sl lt]] : List AV)) P :=
  Gets.ev (fun _ h => funF rfl rfl Try.func42 rfl h) (Gets.eq (by kernel_rfl) h)
theorem wf28_0_step (c0_0 : Int) (c0_1 : Int) (c0_2 : List UInt8) (c0_3 : List (List AV)) (nc1_0 : Nat) (c2_0 : Int) (nc3_0 : Nat) (c4_0 : Bool) (c5_0 : Int) (c5_1 : Int) (c5_2 : List UInt8) (c5_3 : List (List AV)) (h7 : List (List AV)) (h8 : List (List AV)) {P : OV × AV → Prop} (h : Gets (bif c5_0 == (9 : Int) then bif ltInt (0 : Int) (↑(List.length c5_3) : Int) then kOpt (List.get?Internal c5_3 0) fun (row : List AV) => bif Nat.beq (List.length row) 4 then bif Nat.ble 
  4 (List.length row) then kTmC (List.take 4 row) fun (n n_1 : Int) (s : List UInt8) (rows : List (List AV)) => (kOpt (EVf (EV cfg) 42 [.agg [AV.int .i64 n, .int .i64 n_1, .str s, .sl rows]]) 
  fun (v : AV) => kTup v fun (cs : List AV) => kCons cs fun (c : AV) (cs : List AV) => kAgg c fun (cs_1 : List AV) => kCons cs_1 fun (c : AV) (cs_2 : List AV) => kInt .i64 c fun (n : 
  Int) => kCons cs_2 fun (c : AV) (cs_3 : List AV) => kInt .i64 c fun (n_2 : Int) => kCons cs_3 fun (c : AV) (cs_4 : List AV) => kStr c fun (s : List UInt8) => kCons cs_4 fun (c : AV) 
  (cs_5 : List AV) => kSl c fun (rows : List (List AV)) => kCons cs_5 fun (c : AV) (cs_6 : List AV) => kSl c fun (rows_1 : List (List AV)) => kCons cs_6 fun (c : AV) (cs_7 : List AV) 
  => kSl c fun (rows_2 : List (List AV)) => kNil cs_7 (kCons cs fun (c : AV) (cs : List AV) => kBool c fun (b : Bool) => kNil cs (bif !b then some (OV.own 6 [] 0 0, .int .i64 (10 : Int)) 
  else bif Nat.ble (0 + nc3_0) (List.length h8) && fitsIn (nc3_0 + 1) 104 then bif ltInt (1 : Int) (↑(List.length c5_3) : Int) then kOpt (List.get?Internal c5_3 1) fun (row : List AV) 
  => bif Nat.beq (List.length row) 4 then bif Nat.ble 4 (List.length row) then kTmC (List.take 4 row) fun (n_3 n_4 : Int) (s_1 : List UInt8) (rows_3 : List (List AV)) => (wf28_0a c0_0 
  c0_1 c0_2 c0_3 nc1_0 c2_0 (nc3_0 + 1) c4_0 n_3 n_4 s_1 rows_3 h7 (List.append (List.take nc3_0 h8) [[AV.int .i64 n, .int .i64 n_2, .str s, .sl rows, .sl rows_1, .sl rows_2]])) else none 
  else none else none else none))) else none else none else none else bif !c5_0 == (8 : Int) then some (OV.own 6 [] 0 0, .int .i64 (10 : Int)) else bif (↑nc3_0 : Int) == (0 : Int) then 
  some (OV.own 6 [] 0 0, .int .i64 (10 : Int)) else some (OV.own 6 h8 0 nc3_0, .int .i64 (0 : Int))) P) : Gets (wf28_0 c0_0 c0_1 c0_2 c0_3 nc1_0 c2_0 nc3_0 c4_0 c5_0 c5_1 c5_2 c5_3 h7 h8) P :=
  Gets.ev (fun _ h => loop_step (cfg := cfg) (f := 55) (rd := none) (bs := 10) h) (Gets.eq (by kernel_rfl) h)
theorem wf42_0_step (n : Int) (n' : Int) (s : List UInt8) (rows : List (List AV)) (rows' : List (List AV)) (rows'' : List (List AV)) (rows''' : List (List AV)) {P : AV → Prop} (h : Gets (wf42_1 rows' rows'' rows''' (0 : Int) (0 : Int) (0 : Int) [] [] [] [] n n' s rows rows'' rows''') P) : Gets (wf42_0 n n' s rows rows' rows'' rows''') P :=
  Gets.ev (fun _ h => loop_step (cfg := cfg) (f := 42) (rd := none) (bs := 0) h) (Gets.eq (by kernel_rfl) h)
theorem wf28_0a_step (c0_0 : Int) (c0_1 : Int) (c0_2 : List UInt8) (c0_3 : List (List AV)) (nc1_0 : Nat) (c2_0 : Int) (nc3_0 : Nat) (c4_0 : Bool) (c5_0 : Int) (c5_1 : Int) (c5_2 : List UInt8) (c5_3 : List (List AV)) (h7 : List (List AV)) (h10 : List (List AV)) {P : OV × AV → Prop} (h : Gets (bif c5_0 == (9 : Int) then bif ltInt (0 : Int) (↑(List.length c5_3) : Int) then kOpt (List.get?Internal c5_3 0) fun (row : List AV) => bif Nat.beq (List.length row) 4 then bif Nat.ble 
  4 (List.length row) then kTmC (List.take 4 row) fun (n n_1 : Int) (s : List UInt8) (rows : List (List AV)) => (kOpt (EVf (EV cfg) 42 [.agg [AV.int .i64 n, .int .i64 n_1, .str s, .sl rows]]) 
  fun (v : AV) => kTup v fun (cs : List AV) => kCons cs fun (c : AV) (cs : List AV) => kAgg c fun (cs_1 : List AV) => kCons cs_1 fun (c : AV) (cs_2 : List AV) => kInt .i64 c fun (n : 
  Int) => kCons cs_2 fun (c : AV) (cs_3 : List AV) => kInt .i64 c fun (n_2 : Int) => kCons cs_3 fun (c : AV) (cs_4 : List AV) => kStr c fun (s : List UInt8) => kCons cs_4 fun (c : AV) 
  (cs_5 : List AV) => kSl c fun (rows : List (List AV)) => kCons cs_5 fun (c : AV) (cs_6 : List AV) => kSl c fun (rows_1 : List (List AV)) => kCons cs_6 fun (c : AV) (cs_7 : List AV) 
  => kSl c fun (rows_2 : List (List AV)) => kNil cs_7 (kCons cs fun (c : AV) (cs : List AV) => kBool c fun (b : Bool) => kNil cs (bif !b then some (OV.own 6 [] 0 0, .int .i64 (10 : Int)) 
  else bif Nat.ble (0 + nc3_0) (List.length h10) && fitsIn (nc3_0 + 1) 104 then bif ltInt (1 : Int) (↑(List.length c5_3) : Int) then kOpt (List.get?Internal c5_3 1) fun (row : List AV) 
  => bif Nat.beq (List.length row) 4 then bif Nat.ble 4 (List.length row) then kTmC (List.take 4 row) fun (n_3 n_4 : Int) (s_1 : List UInt8) (rows_3 : List (List AV)) => (wf28_0a c0_0 
  c0_1 c0_2 c0_3 nc1_0 c2_0 (nc3_0 + 1) c4_0 n_3 n_4 s_1 rows_3 h7 (List.append (List.take nc3_0 h10) [[AV.int .i64 n, .int .i64 n_2, .str s, .sl rows, .sl rows_1, .sl rows_2]])) else none 
  else none else none else none))) else none else none else none else bif !c5_0 == (8 : Int) then some (OV.own 6 [] 0 0, .int .i64 (10 : Int)) else bif (↑nc3_0 : Int) == (0 : Int) then 
  some (OV.own 6 [] 0 0, .int .i64 (10 : Int)) else some (OV.own 6 h10 0 nc3_0, .int .i64 (0 : Int))) P) : Gets (wf28_0a c0_0 c0_1 c0_2 c0_3 nc1_0 c2_0 nc3_0 c4_0 c5_0 c5_1 c5_2 c5_3 h7 h10) P :=
  Gets.ev (fun _ h => loop_step (cfg := cfg) (f := 55) (rd := none) (bs := 10) h) (Gets.eq (by kernel_rfl) h)
theorem wf42_1_step (rows' : List (List AV)) (rows'' : List (List AV)) (rows''' : List (List AV)) (v79 : Int) (c0_0 : Int) (c0_1 : Int) (c0_2 : List UInt8) (c0_3 : List (List AV)) (c0_4 : List (List AV)) (c0_5 : List (List AV)) (c1_0 : Int) (c1_1 : Int) (c1_2 : List UInt8) (c1_3 : List (List AV)) (c1_4 : List (List AV)) (c1_5 : List (List AV)) {P : AV → Prop} (h : Gets (bif decide (v79 < (↑(List.length rows'') : Int)) then bif leInt (0 : Int) v79 && ltInt v79 (↑(List.length rows'') : Int) then kOpt (List.get?Internal rows'' (Int.toNat v79)) fun (row 
  : List AV) => bif Nat.beq (List.length row) 4 then bif Nat.ble 4 (List.length row) then kTmC (List.take 4 row) fun (n n_1 : Int) (s : List UInt8) (rows : List (List AV)) => (kOpt (EVs 
  (EV cfg) 59 [.agg [AV.int .i64 n, .int .i64 n_1, .str s, .sl rows], .sl rows']) fun (v : AV) => kInt .i64 v fun (n : Int) => bif n != (0 : Int) then some (AV.tup [.agg [AV.int .i64 (0 : 
  Int), .int .i64 (0 : Int), .str [], .sl [], .sl [], .sl []], .bool false]) else wf42_1 rows' rows'' rows''' (IntKind.wrap .i64 (v79 + (1 : Int))) c0_0 c0_1 c0_2 c0_3 c0_4 c0_5 c1_0 
  c1_1 c1_2 c1_3 c1_4 c1_5) else none else none else none else wf42_0a rows' rows'' rows''' c0_0 c0_1 c0_2 c0_3 c0_4 c0_5 c1_0 c1_1 c1_2 c1_3 c1_4 c1_5) P) : Gets (wf42_1 rows' rows'' rows''' v79 c0_0 c0_1 c0_2 c0_3 c0_4 c0_5 c1_0 c1_1 c1_2 c1_3 c1_4 c1_5) P :=
  Gets.ev (fun _ h => loop_step (cfg := cfg) (f := 42) (rd := none) (bs := 0) h) (Gets.eq (by kernel_rfl) h)
theorem wf42_0a_step (rows' : List (List AV)) (rows'' : List (List AV)) (rows''' : List (List AV)) (c0_0 : Int) (c0_1 : Int) (c0_2 : List UInt8) (c0_3 : List (List AV)) (c0_4 : List (List AV)) (c0_5 : List (List AV)) (c1_0 : Int) (c1_1 : Int) (c1_2 : List UInt8) (c1_3 : List (List AV)) (c1_4 : List (List AV)) (c1_5 : List (List AV)) {P : AV → Prop} (h : Gets (wf42_1a rows' rows'' rows''' (0 : Int) c0_0 c0_1 c0_2 c0_3 c0_4 c0_5 c1_0 c1_1 c1_2 c1_3 c1_4 c1_5) P) : Gets (wf42_0a rows' rows'' rows''' c0_0 c0_1 c0_2 c0_3 c0_4 c0_5 c1_0 c1_1 c1_2 c1_3 c1_4 c1_5) P :=
  Gets.ev (fun _ h => loop_step (cfg := cfg) (f := 42) (rd := none) (bs := 0) h) (Gets.eq (by kernel_rfl) h)
theorem wf42_1a_step (rows' : List (List AV)) (rows'' : List (List AV)) (rows''' : List (List AV)) (v79 : Int) (c0_0 : Int) (c0_1 : Int) (c0_2 : List UInt8) (c0_3 : List (List AV)) (c0_4 : List (List AV)) (c0_5 : List (List AV)) (c1_0 : Int) (c1_1 : Int) (c1_2 : List UInt8) (c1_3 : List (List AV)) (c1_4 : List (List AV)) (c1_5 : List (List AV)) {P : AV → Prop} (h : Gets (bif decide (v79 < (↑(List.length rows''') : Int)) then bif leInt (0 : Int) v79 && ltInt v79 (↑(List.length rows''') : Int) then kOpt (List.get?Internal rows''' (Int.toNat v79)) fun 
  (row : List AV) => bif Nat.beq (List.length row) 4 then bif Nat.ble 4 (List.length row) then kTmC (List.take 4 row) fun (n n_1 : Int) (s : List UInt8) (rows : List (List AV)) => (kOpt 
  (EVs (EV cfg) 59 [.agg [AV.int .i64 n, .int .i64 n_1, .str s, .sl rows], .sl rows']) fun (v : AV) => kInt .i64 v fun (n : Int) => bif n != (0 : Int) then some (AV.tup [.agg [AV.int .i64 
  (0 : Int), .int .i64 (0 : Int), .str [], .sl [], .sl [], .sl []], .bool false]) else wf42_1a rows' rows'' rows''' (IntKind.wrap .i64 (v79 + (1 : Int))) c0_0 c0_1 c0_2 c0_3 c0_4 c0_5 
  c1_0 c1_1 c1_2 c1_3 c1_4 c1_5) else none else none else none else wf42_0b rows' rows'' rows''' c0_0 c0_1 c0_2 c0_3 c0_4 c0_5 c1_0 c1_1 c1_2 c1_3 c1_4 c1_5) P) : Gets (wf42_1a rows' rows'' rows''' v79 c0_0 c0_1 c0_2 c0_3 c0_4 c0_5 c1_0 c1_1 c1_2 c1_3 c1_4 c1_5) P :=
  Gets.ev (fun _ h => loop_step (cfg := cfg) (f := 42) (rd := none) (bs := 0) h) (Gets.eq (by kernel_rfl) h)
theorem wf42_0b_step (rows' : List (List AV)) (rows'' : List (List AV)) (rows''' : List (List AV)) (c0_0 : Int) (c0_1 : Int) (c0_2 : List UInt8) (c0_3 : List (List AV)) (c0_4 : List (List AV)) (c0_5 : List (List AV)) (c1_0 : Int) (c1_1 : Int) (c1_2 : List UInt8) (c1_3 : List (List AV)) (c1_4 : List (List AV)) (c1_5 : List (List AV)) {P : AV → Prop} (h : Gets (some (AV.tup [.agg [AV.int .i64 c1_0, .int .i64 c1_1, .str c1_2, .sl c1_3, .sl c1_4, .sl c1_5], .bool true])) P) : Gets (wf42_0b rows' rows'' rows''' c0_0 c0_1 c0_2 c0_3 c0_4 c0_5 c1_0 c1_1 c1_2 c1_3 c1_4 c1_5) P :=
  Gets.ev (fun _ h => loop_step (cfg := cfg) (f := 42) (rd := none) (bs := 0) h) (Gets.eq (by kernel_rfl) h)
end Go.Proofs.Ytonmmmgffeoiiaa
end

section
namespace Go.Proofs.Ytonmmmgffeoiiaa
open Go.Av
set_option maxRecDepth 100000
set_option maxHeartbeats 0

noncomputable def Lg13_0 : Den := evC cfg (EV cfg) 13 none 0 (sub (bodyOf Try.f13) [1, 1, 1, 0, 1, 0, 0])
noncomputable def Ag13_0 : Ex × List AV × AH → Option AV := kAft (Cfg.keepOut cfg 13 5) (kRun cfg (EV cfg) (kfN cfg 6) 13 none 0 (kFinF cfg (Cfg.lift cfg 13 0) Try.f13.results.toList) ([.block 0, .seq (sub (bodyOf Try.f13) [1, 1, 1, 1])]))
noncomputable def Wg13_0 : List AV × AH → Option AV := fun p => kOpt (LOOP 0 (some [4, 16, 17, 18]) ([]) Lg13_0 p) Ag13_0
noncomputable def Lg14_0 : Den := evC cfg (EV cfg) 14 none 0 (sub (bodyOf Try.f14) [1, 1, 1, 0, 1, 0, 0])
noncomputable def Ag14_0 : Ex × List AV × AH → Option AV := kAft (Cfg.keepOut cfg 14 4) (kRun cfg (EV cfg) (kfN cfg 6) 14 none 0 (kFinF cfg (Cfg.lift cfg 14 0) Try.f14.results.toList) ([.block 0, .seq (sub (bodyOf Try.f14) [1, 1, 1, 1])]))
noncomputable def Wg14_0 : List AV × AH → Option AV := fun p => kOpt (LOOP 0 (some [2, 4, 5, 11, 12, 13]) ([(5, 4)]) Lg14_0 p) Ag14_0
noncomputable abbrev wg13_0 (v18 : Int) : Option (AV) := Wg13_0  (((fx 38 [(4, AV.nilS), (16, AV.nilS), (17, AV.int IntKind.i64 (0 : Int)), (18, AV.int IntKind.i64 v18)]) : List AV), ([] : AH))
noncomputable abbrev wg13_0a (sz : Nat) (off : Nat) (len : Nat) (v18 : Int) (h0 : List (List AV)) : Option (AV) := Wg13_0  (((fx 38 [(4, AV.ms (0 : Nat) off len), (16, AV.ms (0 : Nat) off len), (17, AV.int IntKind.i64 (↑len : Int)), (18, AV.int IntKind.i64 v18)]) : List AV), ([ABlk.rows true sz h0] : AH))
noncomputable abbrev wg14_0 (L : List (List AV)) (nv5 : Nat) (v13 : Int) (c0_0 : Int) (c0_1 : Int) (c0_2 : List UInt8) (c0_3 : List (List AV)) (c1_0 : Int) (c1_1 : Int) (c1_2 : List UInt8) (c1_3 : List (List AV)) (h2 : List (List AV)) : Option (AV) := Wg14_0  (((fx 44 [(2, AV.ptr (0 : Nat) (0 : Nat) (0 : Nat)), (4, AV.ptr (1 : Nat) (0 : Nat) (0 : Nat)), (5, AV.ms (2 : Nat) (0 : Nat) nv5), (11, AV.sl L), (12, AV.int IntKind.i64 (↑(List.length L) : Int)), (13, AV.int IntKind.i64 v13)]) : List AV), ([ABlk.rows false (4 : Nat) [[AV.int IntKind.i64 c0_0, AV.int IntKind.i64 c0_1, AV.str c0_2, AV.sl c0_3]], ABlk.rows false (4 : Nat) [[AV.int IntKind.i64 c1_0, AV.int IntKind.i64 c1_1, AV.str c1_2, AV.sl c1_3]], ABlk.rows true (4 : Nat) h2] : AH))
theorem spClauses_run (kt : Int) (nt : Int) (st : List UInt8) (lt : List (List AV)) {P : AV → Prop} (h : Gets (kOpt (EVq (EV cfg) 28 [.agg [AV.int .i64 kt, .int .i64 nt, .str st, .sl lt]]) fun (q : OV × AV) => kInt .i64 q.2 fun (n : Int) => kOwn q.1 (bif n != (0 : Int) then some (AV.tup [.sl [], 
  .int .i64 n]) else wg13_0 (0 : Int)) fun (sz : Nat) (rs : List (List AV)) (off len : Nat) => bif n != (0 : Int) then some (AV.tup [.sl [], .int .i64 n]) else wg13_0a sz off len (0 : 
  Int) rs) P) : Gets (EVf (EV cfg) 13 ([AV.agg [AV.int IntKind.i64 kt, AV.int IntKind.i64 nt, AV.str st, AV.sl lt]] : List AV)) P :=
  Gets.ev (fun _ h => funF rfl rfl Try.func13 rfl h) (Gets.eq (by kernel_rfl) h)
theorem spOf_run (L : List (List AV)) {P : AV → Prop} (h : Gets (wg14_0 L 0 (0 : Int) (0 : Int) (0 : Int) [] [] (8 : Int) (0 : Int) [] [] []) P) : Gets (EVf (EV cfg) 14 ([AV.sl L] : List AV)) P :=
  Gets.ev (fun _ h => funF rfl rfl Try.func14 rfl h) (Gets.eq (by kernel_rfl) h)
theorem wg13_0a_step (sz : Nat) (off : Nat) (len : Nat) (v18 : Int) (h0 : List (List AV)) {P : AV → Prop} (h : Gets (bif decide (v18 < (↑len : Int)) then bif Nat.beq sz 6 && leInt (0 : Int) v18 && ltInt v18 (↑len : Int) then kOpt (List.get?Internal h0 (off + Int.toNat v18)) fun (row : List AV) => 
  bif Nat.ble 6 (List.length row) then kCons (List.take 6 row) fun (c : AV) (cs : List AV) => kInt .i64 c fun (n : Int) => kCons cs fun (c : AV) (cs : List AV) => kInt .i64 c fun (n_1 
  : Int) => kCons cs fun (c : AV) (cs : List AV) => kStr c fun (s : List UInt8) => kCons cs fun (c : AV) (cs : List AV) => kSl c fun (rows : List (List AV)) => kCons cs fun (c : AV) (cs 
  : List AV) => kSl c fun (rows_1 : List (List AV)) => kCons cs fun (c : AV) (cs : List AV) => kSl c fun (rows_2 : List (List AV)) => kNil cs (kOpt (EVf (EV cfg) 29 [.agg [AV.int .i64 n, 
  .int .i64 n_1, .str s, .sl rows]]) fun (v : AV) => kTmV v fun (n n_2 : Int) (s : List UInt8) (rows : List (List AV)) => (kOpt (EVf (EV cfg) 30 [.sl rows_1]) fun (v : AV) => kSl v fun 
  (rows_3 : List (List AV)) => kOpt (EVf (EV cfg) 30 [.sl rows_2]) fun (v : AV) => kSl v fun (rows_4 : List (List AV)) => bif Nat.beq sz 6 && leInt (0 : Int) v18 && ltInt v18 (↑len : 
  Int) then kOpt (List.get?Internal h0 (off + Int.toNat v18)) fun (row : List AV) => bif Nat.ble 6 (List.length row) then wg13_0a sz off len (IntKind.wrap .i64 (v18 + (1 : Int))) (List.set 
  h0 (off + Int.toNat v18) (.int .i64 n :: .int .i64 n_2 :: .str s :: .sl rows :: .sl rows_3 :: .sl rows_4 :: List.drop 6 row)) else none else none)) else none else none else bif Nat.ble 
  (off + len) (List.length h0) && true then some (AV.tup [.sl (List.take len (List.drop off h0)), .int .i64 (0 : Int)]) else none) P) : Gets (wg13_0a sz off len v18 h0) P :=
  Gets.ev (fun _ h => loop_step (cfg := cfg) (f := 13) (rd := none) (bs := 0) h) (Gets.eq (by kernel_rfl) h)
theorem wg14_0_step (L : List (List AV)) (nv5 : Nat) (v13 : Int) (c0_0 : Int) (c0_1 : Int) (c0_2 : List UInt8) (c0_3 : List (List AV)) (c1_0 : Int) (c1_1 : Int) (c1_2 : List UInt8) (c1_3 : List (List AV)) (h2 : List (List AV)) {P : AV → Prop} (h : Gets (bif decide (v13 < (↑(List.length L) : Int)) then bif leInt (0 : Int) v13 && ltInt v13 (↑(List.length L) : Int) then kOpt (List.get?Internal L (Int.toNat v13)) fun (row : List AV) => 
  bif Nat.beq (List.length row) 6 then bif Nat.ble 6 (List.length row) then kCons (List.take 6 row) fun (c : AV) (cs : List AV) => kInt .i64 c fun (n : Int) => kCons cs fun (c : AV) (cs 
  : List AV) => kInt .i64 c fun (n_1 : Int) => kCons cs fun (c : AV) (cs : List AV) => kStr c fun (s : List UInt8) => kCons cs fun (c : AV) (cs : List AV) => kSl c fun (rows : List (List 
  AV)) => kCons cs fun (c : AV) (cs : List AV) => kSl c fun (rows_1 : List (List AV)) => kCons cs fun (c : AV) (cs : List AV) => kSl c fun (rows_2 : List (List AV)) => kNil cs (kOpt (EVf 
  (EV cfg) 32 [.sl rows_1, .agg [AV.int .i64 c1_0, .int .i64 c1_1, .str c1_2, .sl c1_3]]) fun (v : AV) => kTmV v fun (n_2 n_3 : Int) (s_1 : List UInt8) (rows_3 : List (List AV)) => (kOpt 
  (EVf (EV cfg) 32 [.sl rows_2, .agg [AV.int .i64 c1_0, .int .i64 c1_1, .str c1_2, .sl c1_3]]) fun (v : AV) => kTmV v fun (n_4 n_5 : Int) (s_2 : List UInt8) (rows_4 : List (List AV)) => 
  (kOpt (EVf (EV cfg) 31 [AV.sl [[AV.int .i64 n, .int .i64 n_1, .str s, .sl rows], [AV.int .i64 n_2, .int .i64 n_3, .str s_1, .sl rows_3], [AV.int .i64 n_4, .int .i64 n_5, .str s_2, .sl rows_4]]]) 
  fun (v : AV) => kTmV v fun (n n_6 : Int) (s : List UInt8) (rows : List (List AV)) => (bif Nat.ble (0 + nv5) (List.length h2) && fitsIn (nv5 + 1) 56 then wg14_0 L (nv5 + 1) (IntKind.wrap 
  .i64 (v13 + (1 : Int))) c0_0 c0_1 c0_2 c0_3 c1_0 c1_1 c1_2 c1_3 (List.append (List.take nv5 h2) [[AV.int .i64 n, .int .i64 n_6, .str s, .sl rows]]) else none)))) else none else none else 
  none else bif Nat.ble (0 + nv5) (List.length h2) && true then kOpt (EVf (EV cfg) 32 [.sl (List.take nv5 h2), .agg [AV.int .i64 c1_0, .int .i64 c1_1, .str c1_2, .sl c1_3]]) fun (v : AV) 
  => kTmV v fun (n n_1 : Int) (s : List UInt8) (rows : List (List AV)) => (kOpt (EVs (EV cfg) 21 [.agg [AV.int .i64 n, .int .i64 n_1, .str s, .sl rows]]) fun (v : AV) => kInt .i64 v fun 
  (n_2 : Int) => bif n_2 != (0 : Int) then some (AV.tup [.agg [AV.int .i64 (0 : Int), .int .i64 (0 : Int), .str [], .sl []], .int .i64 n_2]) else kOpt (EVf (EV cfg) 29 [.agg [AV.int .i64 
  n, .int .i64 n_1, .str s, .sl rows]]) fun (v : AV) => kTmV v fun (n n_3 : Int) (s : List UInt8) (rows : List (List AV)) => (some (AV.tup [.agg [AV.int .i64 n, .int .i64 n_3, .str s, .sl 
  rows], .int .i64 (0 : Int)]))) else none) P) : Gets (wg14_0 L nv5 v13 c0_0 c0_1 c0_2 c0_3 c1_0 c1_1 c1_2 c1_3 h2) P :=
  Gets.ev (fun _ h => loop_step (cfg := cfg) (f := 14) (rd := none) (bs := 0) h) (Gets.eq (by kernel_rfl) h)
end Go.Proofs.Ytonmmmgffeoiiaa
end

section
namespace Go.Av
def clR (o : Option Cl) : AV := match o with
  | some c => .tup [c.av, .bool true]
  | none => .tup [zeroC.av, .bool false]
def clsQ (r : List Cl × Int) : OV × AV := (.own 6 (rowsC r.1) 0 r.1.length, .int .i64 r.2)
def clsA (acc : List Cl) (t : Tm) : List Cl × Int := match seqC (itemsG t).1 with
  | some l => if (itemsG t).2 && !(acc ++ l).isEmpty then (acc ++ l, 0) else ([], 10)
  | none => ([], 10)
def okV (V : List Int) (l : List Tm) : Bool := l.all fun e => decide (checkG V e = 0)
theorem okV_cons (V : List Int) (x : Tm) (l : List Tm) : okV V (x :: l) = (decide (checkG V x = 0) && okV V l) := rfl
theorem varsG_len (p : Tm) : (varsG p).length ≤ 100 := by
  unfold varsG
  by_cases h : p.chk = 0
  · rw [if_pos h, List.length_map]
    have := List.length_filter_le (fun n : Nat => varIn (n : Nat) p) (List.range 100)
    rw [List.length_range] at this
    exact this
  · rw [if_neg h]; exact Nat.zero_le _
theorem fits104 {n : Nat} (h : n ≤ 1099511627776) : fitsIn n 104 = true := by
  unfold fitsIn; rw [Bool.and_eq_true, Nat.ble_eq, Nat.ble_eq]; omega
def ClOk (c : Cl) : Prop := c.head.chk = 0 ∧ (∀ x ∈ c.gs, x.chk = 0) ∧ (∀ x ∈ c.bs, x.chk = 0) ∧ c.gs.length ≤ 8388608 ∧ c.bs.length ≤ 8388608
theorem clauseG_ok {t : Tm} (h : t.chk = 0) {c : Cl} (hc : clauseG t = some c) : ClOk c := by
  unfold clauseG at hc
  by_cases h7 : t.kind = 7
  · rw [if_pos h7] at hc
    have hw := w_chk h
    have hwe := t.w_eq
    cases hs : t.subs with
    | nil => rw [hs] at hc; cases hc
    | cons a l => cases l with
      | nil => rw [hs] at hc; cases hc
      | cons b l => cases l with
        | nil => rw [hs] at hc; cases hc
        | cons d l => cases l with
          | nil =>
            rw [hs] at hc hwe
            simp only [wL_cons, wL_nil] at hwe
            simp only [] at hc
            split at hc
            · cases hc
              have ha : a.chk = 0 := chk_sub h (by rw [hs]; simp)
              have hb : b.chk = 0 := chk_sub h (by rw [hs]; simp)
              have hd : d.chk = 0 := chk_sub h (by rw [hs]; simp)
              have lb := itemsG_w hb
              have ld := itemsG_w hd
              exact ⟨ha, itemsG_chk hb, itemsG_chk hd, by show (itemsG b).1.length ≤ _; omega, by show (itemsG d).1.length ≤ _; omega⟩
            · cases hc
          | cons e l => rw [hs] at hc; cases hc
  · rw [if_neg h7] at hc; cases hc
theorem seqC_ok : ∀ {l : List Tm} {cs : List Cl}, (∀ x ∈ l, x.chk = 0) → seqC l = some cs → ∀ c ∈ cs, ClOk c
  | [], cs, _, h => by cases h; intro c hc; cases hc
  | t :: l, cs, ho, h => by
    rw [seqC] at h
    obtain ⟨c, hc, h⟩ := Option.bind_eq_some_iff.1 h
    obtain ⟨r, hr, rfl⟩ := Option.map_eq_some_iff.1 h
    intro d hd
    rcases List.mem_cons.1 hd with rfl | hd
    · exact clauseG_ok (ho t List.mem_cons_self) hc
    · exact seqC_ok (fun x hx => ho x (List.mem_cons_of_mem _ hx)) hr d hd
theorem clsG_ok (t : Tm) : (∀ c ∈ (clsG t).1, ClOk c) ∧ (clsG t).1.length ≤ 8388608 := by
  unfold clsG
  by_cases hc : t.chk = 0
  · rw [if_pos hc]
    have hw := w_chk hc
    have hl := itemsG_w hc
    cases hs : seqC (itemsG t).1 with
    | none => exact ⟨fun c hc => (by cases hc), Nat.zero_le _⟩
    | some l =>
      simp only []
      have hn := seqC_len hs
      split
      · exact ⟨seqC_ok (itemsG_chk hc) hs, by show l.length ≤ _; omega⟩
      · exact ⟨fun c hc => (by cases hc), Nat.zero_le _⟩
  · rw [if_neg hc]; exact ⟨fun c hc => (by cases hc), Nat.zero_le _⟩
end Go.Av
namespace Go.Proofs.Ytonmmmgffeoiiaa
open Go.Av
set_option maxRecDepth 100000
theorem clause_loop2 {V : List Int} {h : Tm} {G B : List Tm} (hV : V.length < 1099511627776) (hB : B.length < 1099511627776) (wB : ∀ x ∈ B, x.w < 1099511627776) : ∀ d i : Nat, i + d = B.length →
    Gets (wf42_1a (intsR V) (rowsT G) (rowsT B) i 0 0 [] [] [] [] h.kind h.num h.str (rowsT h.subs) (rowsT G) (rowsT B)) (· = clR (if okV V (B.drop i) then some ⟨h, G, B⟩ else none)) := by
  intro d
  induction d with
  | zero =>
    intro i hi
    obtain rfl : i = B.length := by omega
    refine wf42_1a_step _ _ _ _ _ _ _ _ _ _ _ _ _ _ _ _ ?_
    rw [rowsT_length, decide_eq_false (by omega), cond_false, List.drop_eq_nil_of_le (Nat.le_refl _)]
    refine wf42_0b_step _ _ _ _ _ _ _ _ _ _ _ _ _ _ _ ?_
    exact ⟨_, rfl, rfl⟩
  | succ d ih =>
    intro i hi
    have hil : i < B.length := by omega
    have hx : B[i]? = some B[i] := List.getElem?_eq_getElem hil
    have hg := guardCheck_ev hV (wB _ (List.mem_of_getElem? hx))
    have h1 := ih (i + 1) (by omega)
    rw [List.drop_eq_getElem_cons hil, okV_cons]
    refine wf42_1a_step _ _ _ _ _ _ _ _ _ _ _ _ _ _ _ _ ?_
    have gx : List.get?Internal (rowsT B) (Int.toNat (i : Int)) = some B[i].cells := rowsT_at' hx
    rw [rowsT_length, decide_eq_true (show (i : Int) < (B.length : Int) by omega), leInt_zero, ltInt_nat, decide_eq_true hil, gx, wrap_succ hil hB]
    simp only [cond_true, Bool.and_self, kOptSome, length_cells, Nat.beq_refl, take_cells, kTmC_cells, ble44, av_unf, hg, kInt_int, bneD]
    by_cases h0 : checkG V B[i] = 0
    · rw [decide_eq_true h0, Bool.true_and]
      exact h1
    · rw [decide_eq_false h0]
      exact ⟨_, rfl, rfl⟩
theorem clause_loop1 {V : List Int} {h : Tm} {G B : List Tm} (hV : V.length < 1099511627776) (hG : G.length < 1099511627776) (wG : ∀ x ∈ G, x.w < 1099511627776) (hB : B.length < 1099511627776) (wB : ∀ x ∈ B, x.w < 1099511627776) : ∀ d i : Nat, i + d = G.length →
    Gets (wf42_1 (intsR V) (rowsT G) (rowsT B) i 0 0 [] [] [] [] h.kind h.num h.str (rowsT h.subs) (rowsT G) (rowsT B)) (· = clR (if okV V (G.drop i) && okV V B then some ⟨h, G, B⟩ else none)) := by
  intro d
  induction d with
  | zero =>
    intro i hi
    obtain rfl : i = G.length := by omega
    refine wf42_1_step _ _ _ _ _ _ _ _ _ _ _ _ _ _ _ _ ?_
    rw [rowsT_length, decide_eq_false (by omega), cond_false, List.drop_eq_nil_of_le (Nat.le_refl _)]
    refine wf42_0a_step _ _ _ _ _ _ _ _ _ _ _ _ _ _ _ ?_
    exact clause_loop2 (h := h) (G := G) hV hB wB B.length 0 (by omega)
  | succ d ih =>
    intro i hi
    have hil : i < G.length := by omega
    have hx : G[i]? = some G[i] := List.getElem?_eq_getElem hil
    have hg := guardCheck_ev hV (wG _ (List.mem_of_getElem? hx))
    have h1 := ih (i + 1) (by omega)
    rw [List.drop_eq_getElem_cons hil, okV_cons]
    refine wf42_1_step _ _ _ _ _ _ _ _ _ _ _ _ _ _ _ _ ?_
    have gx : List.get?Internal (rowsT G) (Int.toNat (i : Int)) = some G[i].cells := rowsT_at' hx
    rw [rowsT_length, decide_eq_true (show (i : Int) < (G.length : Int) by omega), leInt_zero, ltInt_nat, decide_eq_true hil, gx, wrap_succ hil hG]
    simp only [cond_true, Bool.and_self, kOptSome, length_cells, Nat.beq_refl, take_cells, kTmC_cells, ble44, av_unf, hg, kInt_int, bneD]
    by_cases h0 : checkG V G[i] = 0
    · rw [decide_eq_true h0, Bool.true_and]
      exact h1
    · rw [decide_eq_false h0]
      exact ⟨_, rfl, rfl⟩
theorem clause_ev {t : Tm} (hc : t.chk = 0) : EVf (EV cfg) 42 [t.av] = some (clR (clauseG t)) := by
  have hw := w_chk hc
  have hwe := t.w_eq
  have hz : AV.tup [.agg [AV.int .i64 (0 : Int), .int .i64 (0 : Int), .str [], .sl [], .sl [], .sl []], .bool false] = clR none := rfl
  apply Gets.get
  rw [Tm.av, Tm.cells_eq]
  refine spClause_run _ _ _ _ ?_
  rw [bneD, bneD, hz, rowsT_length]
  by_cases h7 : t.kind = 7
  · rw [decide_eq_true h7]
    by_cases h3 : t.subs.length = 3
    · obtain ⟨h, g, b, hs⟩ : ∃ h g b, t.subs = [h, g, b] := by
        cases hs : t.subs with
        | nil => rw [hs] at h3; simp at h3
        | cons a l => cases l with
          | nil => rw [hs] at h3; simp at h3
          | cons b l => cases l with
            | nil => rw [hs] at h3; simp at h3
            | cons d l => cases l with
              | nil => exact ⟨a, b, d, rfl⟩
              | cons e l => rw [hs] at h3; simp at h3
      have ch : h.chk = 0 := chk_sub hc (by rw [hs]; simp)
      have cg : g.chk = 0 := chk_sub hc (by rw [hs]; simp)
      have cb : b.chk = 0 := chk_sub hc (by rw [hs]; simp)
      rw [hs] at hwe
      simp only [wL_cons, wL_nil] at hwe
      have lg := itemsG_w cg
      have lb := itemsG_w cb
      have hh := spHead_ev (t := h) (by omega)
      have hv := patVars_ev (t := h) (by omega)
      have e1 := spList_ev cg
      have e2 := spList_ev cb
      have hl := clause_loop1 (V := varsG h) (h := h) (G := (itemsG g).1) (B := (itemsG b).1) (by have := varsG_len h; omega) (by omega) (fun x hx => by have := wL_mem hx; omega) (by omega) (fun x hx => by have := wL_mem hx; omega) (itemsG g).1.length 0 (by omega)
      have gh : clauseG t = if headG h && ((itemsG g).2 && ((itemsG b).2 && !(itemsG b).1.isEmpty)) && (okV (varsG h) (itemsG g).1 && okV (varsG h) (itemsG b).1) then some ⟨h, (itemsG g).1, (itemsG b).1⟩ else none := by
        unfold clauseG; rw [if_pos h7, hs]; rfl
      rw [decide_eq_true (show (t.subs.length : Int) = 3 by omega), hs, rowsT_cons, rowsT_cons, rowsT_cons, rowsT_nil, gh]
      have g0 : List.get?Internal [h.cells, g.cells, b.cells] 0 = some h.cells := rfl
      have g1 : List.get?Internal [h.cells, g.cells, b.cells] 1 = some g.cells := rfl
      have g2 : List.get?Internal [h.cells, g.cells, b.cells] 2 = some b.cells := rfl
      have l0 : ltInt 0 (([h, g, b].length : Nat) : Int) = true := rfl
      have l1 : ltInt 1 (([h, g, b].length : Nat) : Int) = true := rfl
      have l2 : ltInt 2 (([h, g, b].length : Nat) : Int) = true := rfl
      rw [g0, g1, g2]
      simp only [l0, l1, l2, Bool.not_true, cond_false, cond_true, Bool.and_self, kOptSome, length_cells, Nat.beq_refl, take_cells, kTmC_cells, ble44, av_unf, hh, kBool_bool]
      cases headG h with
      | false => exact ⟨_, rfl, rfl⟩
      | true =>
        simp only [Bool.not_true, cond_false, Bool.true_and, hv, e1, e2, lsR, kOptSome, kTup, kCons, kSl_sl, kBool_bool, kNil, rowsT_length, beqI]
        cases (itemsG g).2 with
        | false => exact ⟨_, rfl, rfl⟩
        | true =>
          cases (itemsG b).2 with
          | false => exact ⟨_, rfl, rfl⟩
          | true =>
            simp only [Bool.not_true, cond_false, Bool.true_and]
            cases hb : (itemsG b).1 with
            | nil => exact ⟨_, rfl, rfl⟩
            | cons x l =>
              rw [hb] at hl
              rw [decide_eq_false (show ¬ (((x :: l).length : Nat) : Int) = 0 by simp; omega)]
              refine wf42_0_step _ _ _ _ _ _ _ ?_
              exact hl
    · have : clauseG t = none := by
        unfold clauseG
        rw [if_pos h7]
        cases hs : t.subs with
        | nil => rfl
        | cons a l => cases l with
          | nil => rfl
          | cons b l => cases l with
            | nil => rfl
            | cons d l => cases l with
              | nil => rw [hs] at h3; simp at h3
              | cons e l => rfl
      rw [decide_eq_false (show ¬ (t.subs.length : Int) = 3 by omega), this]
      exact ⟨_, rfl, rfl⟩
  · have : clauseG t = none := by unfold clauseG; rw [if_neg h7]
    rw [decide_eq_false h7, this]
    exact ⟨_, rfl, rfl⟩
theorem clauses_loopa {c : Tm} : ∀ (n : Nat) (t : Tm) (acc : List Cl), t.w ≤ n → t.chk = 0 → acc.length + n < 1099511627776 →
    Gets (wf28_0a c.kind c.num c.str (rowsT c.subs) 0 0 acc.length false t.kind t.num t.str (rowsT t.subs) [] (rowsC acc)) (· = clsQ (clsA acc t)) := by
  intro n
  induction n with
  | zero => intro t acc h; have := w_pos t; omega
  | succ n ih =>
    intro t acc hw hc hn
    refine wf28_0a_step _ _ _ _ _ _ _ _ _ _ _ _ _ _ ?_
    rw [beqI, beqI, beqI]
    by_cases h9 : t.kind = 9
    · obtain ⟨x, y, hs⟩ := cons_chk hc h9
      have hwe := t.w_eq
      rw [hs] at hwe
      simp only [wL_cons, wL_nil] at hwe
      have hxc : x.chk = 0 := chk_sub hc (by rw [hs]; simp)
      have hyc : y.chk = 0 := chk_sub hc (by rw [hs]; simp)
      have hce := clause_ev hxc
      have e1 : Nat.ble (0 + acc.length) (rowsC acc).length = true := by rw [Nat.ble_eq, rowsC_len]; omega
      have e2 : List.take acc.length (rowsC acc) = rowsC acc := List.take_of_length_le (by rw [rowsC_len]; exact Nat.le_refl _)
      rw [decide_eq_true h9, cond_true, hs, lt0T, get0T, lt1T, get1T, e1, e2, fits104 (by omega)]
      simp only [cond_true, Bool.and_self, kOptSome, length_cells, Nat.beq_refl, take_cells, kTmC_cells, ble44, av_unf, hce]
      cases hcl : clauseG x with
      | none =>
        have : clsA acc t = ([], 10) := by unfold clsA; rw [itemsG_cons h9 hs, seqC, hcl]; rfl
        rw [this]
        exact ⟨_, rfl, rfl⟩
      | some d =>
        have : clsA acc t = clsA (acc ++ [d]) y := by
          unfold clsA
          rw [itemsG_cons h9 hs, seqC, hcl]
          cases seqC (itemsG y).1 with
          | none => rfl
          | some l => simp
        rw [this]
        have h := ih y (acc ++ [d]) (by omega) hyc (by rw [List.length_append, List.length_singleton]; omega)
        rw [List.length_append, List.length_singleton] at h
        have e3 : List.append (rowsC acc) [[AV.int .i64 d.head.kind, .int .i64 d.head.num, .str d.head.str, .sl (rowsT d.head.subs), .sl (rowsT d.gs), .sl (rowsT d.bs)]] = rowsC (acc ++ [d]) := (rowsC_append acc [d]).symm
        simp only [clR, Cl.av, Cl.cells, kTup, kCons, kAgg, kInt_int, kStr_str, kSl_sl, kNil, kBool_bool, Bool.not_true, cond_false, e3]
        exact h
    · rw [decide_eq_false h9, cond_false]
      have hi : clsA acc t = if t.kind = 8 ∧ acc ≠ [] then (acc, 0) else ([], 10) := by
        unfold clsA
        rw [itemsG_end h9, seqC]
        by_cases h8 : t.kind = 8
        · cases acc <;> simp [h8]
        · simp [h8]
      rw [hi]
      by_cases h8 : t.kind = 8
      · rw [decide_eq_true h8]
        cases acc with
        | nil => rw [if_neg (fun h => h.2 rfl)]; exact ⟨_, rfl, rfl⟩
        | cons a l =>
          rw [decide_eq_false (show ¬ (((a :: l).length : Nat) : Int) = 0 by simp; omega), if_pos ⟨h8, by simp⟩]
          exact ⟨_, rfl, rfl⟩
      · rw [decide_eq_false h8, if_neg (fun h => h8 h.1)]
        exact ⟨_, rfl, rfl⟩
theorem clauses_loop {c : Tm} : ∀ (n : Nat) (t : Tm) (acc : List Cl), t.w ≤ n → t.chk = 0 → acc.length + n < 1099511627776 →
    Gets (wf28_0 c.kind c.num c.str (rowsT c.subs) 0 0 acc.length false t.kind t.num t.str (rowsT t.subs) [] (rowsC acc)) (· = clsQ (clsA acc t)) := by
  intro n
  induction n with
  | zero => intro t acc h; have := w_pos t; omega
  | succ n ih =>
    intro t acc hw hc hn
    refine wf28_0_step _ _ _ _ _ _ _ _ _ _ _ _ _ _ ?_
    rw [beqI, beqI, beqI]
    by_cases h9 : t.kind = 9
    · obtain ⟨x, y, hs⟩ := cons_chk hc h9
      have hwe := t.w_eq
      rw [hs] at hwe
      simp only [wL_cons, wL_nil] at hwe
      have hxc : x.chk = 0 := chk_sub hc (by rw [hs]; simp)
      have hyc : y.chk = 0 := chk_sub hc (by rw [hs]; simp)
      have hce := clause_ev hxc
      have e1 : Nat.ble (0 + acc.length) (rowsC acc).length = true := by rw [Nat.ble_eq, rowsC_len]; omega
      have e2 : List.take acc.length (rowsC acc) = rowsC acc := List.take_of_length_le (by rw [rowsC_len]; exact Nat.le_refl _)
      rw [decide_eq_true h9, cond_true, hs, lt0T, get0T, lt1T, get1T, e1, e2, fits104 (by omega)]
      simp only [cond_true, Bool.and_self, kOptSome, length_cells, Nat.beq_refl, take_cells, kTmC_cells, ble44, av_unf, hce]
      cases hcl : clauseG x with
      | none =>
        have : clsA acc t = ([], 10) := by unfold clsA; rw [itemsG_cons h9 hs, seqC, hcl]; rfl
        rw [this]
        exact ⟨_, rfl, rfl⟩
      | some d =>
        have : clsA acc t = clsA (acc ++ [d]) y := by
          unfold clsA
          rw [itemsG_cons h9 hs, seqC, hcl]
          cases seqC (itemsG y).1 with
          | none => rfl
          | some l => simp
        rw [this]
        have h := clauses_loopa (c := c) n y (acc ++ [d]) (by omega) hyc (by rw [List.length_append, List.length_singleton]; omega)
        rw [List.length_append, List.length_singleton] at h
        have e3 : List.append (rowsC acc) [[AV.int .i64 d.head.kind, .int .i64 d.head.num, .str d.head.str, .sl (rowsT d.head.subs), .sl (rowsT d.gs), .sl (rowsT d.bs)]] = rowsC (acc ++ [d]) := (rowsC_append acc [d]).symm
        simp only [clR, Cl.av, Cl.cells, kTup, kCons, kAgg, kInt_int, kStr_str, kSl_sl, kNil, kBool_bool, Bool.not_true, cond_false, e3]
        exact h
    · rw [decide_eq_false h9, cond_false]
      have hi : clsA acc t = if t.kind = 8 ∧ acc ≠ [] then (acc, 0) else ([], 10) := by
        unfold clsA
        rw [itemsG_end h9, seqC]
        by_cases h8 : t.kind = 8
        · cases acc <;> simp [h8]
        · simp [h8]
      rw [hi]
      by_cases h8 : t.kind = 8
      · rw [decide_eq_true h8]
        cases acc with
        | nil => rw [if_neg (fun h => h.2 rfl)]; exact ⟨_, rfl, rfl⟩
        | cons a l =>
          rw [decide_eq_false (show ¬ (((a :: l).length : Nat) : Int) = 0 by simp; omega), if_pos ⟨h8, by simp⟩]
          exact ⟨_, rfl, rfl⟩
      · rw [decide_eq_false h8, if_neg (fun h => h8 h.1)]
        exact ⟨_, rfl, rfl⟩
theorem clauses_ev {t : Tm} (hw : t.w < 1099511627776) : EVq (EV cfg) 28 [t.av] = some (clsQ (clsG t)) := by
  have hk := check_ev hw
  apply Gets.get
  rw [Tm.av, Tm.cells_eq] at hk ⊢
  refine spClauses1_run _ _ _ _ ?_
  rw [hk]
  simp only [kOptSome, kInt_int, bneD]
  unfold clsG
  by_cases hc : t.chk = 0
  · rw [decide_eq_true hc, if_pos hc]
    exact clauses_loop (c := t) t.w t [] (Nat.le_refl _) hc (by have := w_chk hc; simp; omega)
  · rw [decide_eq_false hc, if_neg hc]
    exact ⟨_, rfl, rfl⟩
theorem spCheck_ev {t : Tm} (hw : t.w < 1099511627776) : EVs (EV cfg) 21 [t.av] = some (.int .i64 (clsG t).2) := by
  have hk := clauses_ev hw
  apply Gets.get
  rw [Tm.av, Tm.cells_eq] at hk ⊢
  refine spCheck_run _ _ _ _ ?_
  rw [hk]
  exact ⟨_, rfl, rfl⟩
theorem spClauses_ev {t : Tm} (hw : t.w < 1099511627776) : EVf (EV cfg) 13 [t.av] = some (.tup [.sl (rowsC (clsG t).1), .int .i64 (clsG t).2]) := by
  have hk := clauses_ev hw
  obtain ⟨ho, hn⟩ := clsG_ok t
  apply Gets.get
  rw [Tm.av, Tm.cells_eq] at hk ⊢
  refine spClauses_run _ _ _ _ ?_
  rw [hk]
  simp only [clsQ, kOptSome, kInt_int, kOwn_own, bneD]
  have hz : (clsG t).2 ≠ 0 → (clsG t).1 = [] := by
    unfold clsG
    by_cases hc : t.chk = 0
    · rw [if_pos hc]
      cases seqC (itemsG t).1 with
      | none => intro _; rfl
      | some l =>
        simp only []
        split
        · intro h; exact absurd rfl h
        · intro _; rfl
    · rw [if_neg hc]; intro _; rfl
  generalize hl : (clsG t).1 = l at *
  generalize he : (clsG t).2 = e at *
  by_cases h0 : e = 0
  · subst h0
    rw [decide_eq_true rfl]
    simp only [Bool.not_true, cond_false]
    have loop : ∀ d i : Nat, i + d = l.length → Gets (wg13_0a 6 0 l.length i (rowsC l)) (· = .tup [.sl (rowsC l), .int .i64 0]) := by
      intro d
      induction d with
      | zero =>
        intro i hi
        obtain rfl : i = l.length := by omega
        refine wg13_0a_step _ _ _ _ _ ?_
        have hb : Nat.ble (0 + l.length) (rowsC l).length = true := by rw [Nat.ble_eq, rowsC_len]; omega
        have ht : List.take l.length (List.drop 0 (rowsC l)) = rowsC l := List.take_of_length_le (by rw [List.drop_zero, rowsC_len]; exact Nat.le_refl _)
        rw [decide_eq_false (by omega), hb, ht]
        exact ⟨_, rfl, rfl⟩
      | succ d ih =>
        intro i hi
        have hil : i < l.length := by omega
        have hx : l[i]? = some l[i] := List.getElem?_eq_getElem hil
        obtain ⟨c1, c2, c3, c4, c5⟩ := ho _ (List.mem_of_getElem? hx)
        have k1 := copy_ev (ok_chk c1)
        have k2 := spCopies_ev (l := l[i].gs) (by omega) (fun x hx => ok_chk (c2 x hx))
        have k3 := spCopies_ev (l := l[i].bs) (by omega) (fun x hx => ok_chk (c3 x hx))
        have gx : List.get?Internal (rowsC l) (0 + Int.toNat (i : Int)) = some l[i].cells := by
          rw [Nat.zero_add, get?Internal_eq, Int.toNat_natCast, rowsC_get, hx]; rfl
        have gs : List.set (rowsC l) (0 + Int.toNat (i : Int)) l[i].cells = rowsC l := by
          rw [Nat.zero_add, Int.toNat_natCast, rowsC_set, List.set_getElem_self]
        have h1 := ih (i + 1) (by omega)
        refine wg13_0a_step _ _ _ _ _ ?_
        rw [decide_eq_true (show (i : Int) < (l.length : Int) by omega), leInt_zero, ltInt_nat, decide_eq_true hil, gx, wrap_succ hil (show l.length < 1099511627776 by omega)]
        have b6 : Nat.ble 6 l[i].cells.length = true := rfl
        have t6 : List.take 6 l[i].cells = l[i].cells := rfl
        have d6 : List.drop 6 l[i].cells = [] := rfl
        simp only [show Nat.beq 6 6 = true from rfl, cond_true, Bool.and_self, kOptSome, b6, t6, d6]
        unfold Cl.cells at gs ⊢
        simp only [kCons, kInt_int, kStr_str, kSl_sl, kNil, av_unf, k1, k2, k3, kOptSome, kTmV_av, gs]
        exact h1
    exact loop l.length 0 (by omega)
  · rw [decide_eq_false h0, hz h0]
    exact ⟨_, rfl, rfl⟩
end Go.Proofs.Ytonmmmgffeoiiaa
end

section
namespace Go.Av
def evalR (r : Tm × Int) : AV := .tup [r.1.av, .int .i64 r.2]
theorem kEvalR {α : Type} (t : Tm) (x : Int) (K : Int → Int → List UInt8 → List (List AV) → Int → Option α) : (kTup (.tup [t.av, .int .i64 x]) fun cs => kCons cs fun c cs => kAgg c fun cs_1 => kCons cs_1 fun c cs_2 => kInt .i64 c fun n => kCons cs_2 fun c cs_3 => kInt .i64 c fun n_1 => kCons cs_3 fun c cs_4 => kStr c fun s => kCons cs_4 fun c cs_5 => kSl c fun rows => kNil cs_5 (kCons cs fun c cs => kInt .i64 c fun m => kNil cs (K n n_1 s rows m))) = K t.kind t.num t.str (rowsT t.subs) x := by
  obtain ⟨k, n, s, l⟩ := t
  rw [Tm.av_mk]; rfl
structure EnvW (e : Env) : Prop where
  obj : e.obj.w < 1099511627776
  len : e.binds.length < 1099511627776
  binds : ∀ p ∈ e.binds, p.2.w < 1099511627776
end Go.Av
namespace Go.Proofs.Ytonmmmgffeoiiaa
open Go.Av
theorem eval_ev (hp : ProductOk) {e : Env} (he : EnvW e) {t : Tm} (ht : t.w < 1099511627776) : EVf (EV cfg) 50 [t.av, envR e.obj e.binds e.self] = some (evalR (evalG e t)) := by
  have hm := guardMay_ev he.len he.binds he.obj e.self
  have hz : AV.agg [.int .i64 0, .int .i64 0, .str [], .sl []] = zeroT.av := zeroT_av.symm
  apply Gets.get
  unfold envR at hm ⊢
  unfold evalR evalG envG
  rw [Tm.av, Tm.cells_eq]
  refine gEval_run _ _ _ _ _ _ _ _ _ _ ?_
  rw [hm]
  unfold mayR
  cases hb : mayB (-1) e.binds with
  | false =>
    rw [if_neg (by simp)]
    simp only [kOptSome, kTup, kCons, kSl_sl, kBool_bool, kNil, Bool.not_false, cond_true, hz, Bool.false_and]
    exact ⟨_, rfl, by rw [if_neg (by simp)]⟩
  | true =>
    rw [if_pos rfl]
    simp only [kOptSome, kTup, kCons, kSl_sl, kBool_bool, kNil, hz, Bool.true_and, List.nil_append, av_unf]
    cases ho : (decide (e.obj.chk = 0) && selfG e.self) with
    | false =>
      simp only [Bool.not_false, cond_true, Bool.false_and]
      exact ⟨_, rfl, by rw [if_neg (by simp)]⟩
    | true =>
      have hok : EnvOk e := envG_ok.1 (by unfold envG; rw [hb, ho]; rfl)
      have hc := guardCheck_ev (V := namesG e) (by unfold namesG; rw [List.length_map]; exact he.len) ht
      have hn : e.binds.map (·.1) = namesG e := rfl
      simp only [Bool.not_true, cond_false, Bool.true_and, hn, hc, kOptSome, kInt_int]
      by_cases h0 : checkG (namesG e) t = 0
      · obtain ⟨h1, h2⟩ := checkG_zero h0
        have hv := mValue_ev hok hp t.w t (Nat.le_refl _) h1 h2
        rw [if_pos (decide_eq_true h0), h0]
        simp only [show ((0 : Int) != 0) = false from rfl, cond_false]
        show Gets (kOpt (EVd (EV cfg) _ _ 7 (mR e false)) _) _
        refine Gets.bind hv ?_
        intro r hr
        cases hvv : valG e t with
        | none =>
          rw [hvv] at hr
          obtain ⟨g1, z, g2⟩ := hr
          rw [g1, g2]
          simp only [kTmV_av, mR_row, mR_bad, kOptSome, kBool_bool, cond_true]
          exact ⟨_, rfl, rfl⟩
        | some v =>
          rw [hvv] at hr
          obtain rfl : r = (v.av, mR e false) := hr
          have hcp := copy_ev (ok_chk (valG_chk hok _ t (Nat.le_refl _) h1 h2 v hvv))
          simp only [kTmV_av, mR_row, mR_bad, kOptSome, kBool_bool, cond_false, av_unf, hcp]
          exact ⟨_, rfl, rfl⟩
      · have : (checkG (namesG e) t != 0) = true := by simpa using h0
        rw [this, if_neg (by simpa using h0)]
        exact ⟨_, rfl, rfl⟩
theorem holds_ev (hp : ProductOk) {e : Env} (he : EnvW e) {l : List Tm} (hl : ∀ x ∈ l, x.w < 1099511627776) (hlen : l.length < 1099511627776) : EVs (EV cfg) 49 [.sl (rowsT l), envR e.obj e.binds e.self] = some (.bool (holdsG e l)) := by
  have loop : ∀ (d i : Nat) (b : Bool), i + d = l.length → Gets (ws25_0 (rowsT l) b i e.obj.kind e.obj.num e.obj.str (rowsT e.obj.subs) (bindsR e.binds) e.self) (· = .bool ((l.drop i).all (trueG e) && b)) := by
    intro d
    induction d with
    | zero =>
      intro i b hi
      refine ws25_0_step _ _ _ _ _ _ _ _ _ ?_
      rw [rowsT_length, decide_eq_false (by omega), List.drop_eq_nil_of_le (by omega)]
      exact ⟨_, rfl, rfl⟩
    | succ d ih =>
      intro i b hi
      refine ws25_0_step _ _ _ _ _ _ _ _ _ ?_
      have hil : i < l.length := by omega
      have hx : l[i]? = some l[i] := List.getElem?_eq_getElem hil
      have hd : l.drop i = l[i] :: l.drop (i + 1) := List.drop_eq_getElem_cons hil
      have h := ih (i + 1) b (by omega)
      have h1 := eval_ev hp he (hl l[i] (List.mem_of_getElem? hx))
      unfold envR at h1
      rw [rowsT_length, decide_eq_true (show (i : Int) < (l.length : Int) by omega), leInt_zero, ltInt_nat, decide_eq_true hil, rowsT_at hx, wrap_succ hil hlen, hd, List.all_cons]
      simp only [cond_true, Bool.and_self, length_cells, Nat.beq_refl, take_cells, kTmC_cells, ble44, av_unf, h1, kOptSome, evalR]
      rw [kEvalR]
      unfold trueG at h ⊢
      simp only [beqS, show ([116, 114, 117, 101] : List UInt8) = tru from rfl]
      by_cases h2 : (evalG e l[i]).2 = 0
      · have e0 : ((evalG e l[i]).2 != 0) = false := by rw [h2]; rfl
        rw [e0, decide_eq_true h2, cond_false, Bool.true_and]
        by_cases h3 : (evalG e l[i]).1.kind = 2
        · have e1 : ((evalG e l[i]).1.kind != 2) = false := by rw [h3]; rfl
          rw [e1, decide_eq_true h3, cond_false, Bool.true_and]
          by_cases h4 : (evalG e l[i]).1.str = tru
          · rw [decide_eq_true h4, Bool.true_and]; exact h
          · rw [decide_eq_false h4]; exact ⟨_, rfl, rfl⟩
        · have e1 : ((evalG e l[i]).1.kind != 2) = true := by simpa using h3
          rw [e1, decide_eq_false h3]; exact ⟨_, rfl, rfl⟩
      · have e0 : ((evalG e l[i]).2 != 0) = true := by simpa using h2
        rw [e0, decide_eq_false h2]; exact ⟨_, rfl, rfl⟩
  have hm := guardMay_ev he.len he.binds he.obj e.self
  apply Gets.get
  unfold envR at hm ⊢
  refine gHolds_run _ _ _ _ _ _ _ ?_
  rw [hm]
  unfold mayR holdsG envG
  cases hb : mayB (-1) e.binds with
  | false =>
    have h := loop l.length 0 false (by omega)
    rw [if_neg (by simp)]
    simp only [kOptSome, kTup, kCons, kSl_sl, kBool_bool, kNil, Bool.false_and]
    exact h
  | true =>
    have h := loop l.length 0 (decide (e.obj.chk = 0) && selfG e.self) (by omega)
    rw [if_pos rfl]
    simp only [kOptSome, kTup, kCons, kSl_sl, kBool_bool, kNil, Bool.true_and]
    exact h
end Go.Proofs.Ytonmmmgffeoiiaa
end

section
namespace Go.Proofs.Ytonmmmgffeoiiaa
open Go.Av
set_option maxRecDepth 100000
set_option maxHeartbeats 0

noncomputable def Lh36_0 : Den := evC cfg (EV cfg) 36 none 0 (sub (bodyOf Try.f36) [1, 1, 1, 1, 1, 0, 1, 0, 0])
noncomputable def Ah36_0 : Ex × List AV × AH → Option AV := kAft (Cfg.keepOut cfg 36 7) (kRun cfg (EV cfg) (kfN cfg 6) 36 none 0 (kFinF cfg (Cfg.lift cfg 36 0) Try.f36.results.toList) ([.block 0, .seq (sub (bodyOf Try.f36) [1, 1, 1, 1, 1, 1])]))
noncomputable def Wh36_0 : List AV × AH → Option AV := fun p => kOpt (LOOP 0 (some [6, 10, 11, 38, 39, 40]) ([]) Lh36_0 p) Ah36_0
noncomputable def Lh24_0 : Den := evC cfg (EV cfg) 24 none 0 (sub (bodyOf Try.f24) [1, 0, 1, 1, 1, 0, 1, 0, 0])
noncomputable def Ah24_0 : Ex × List AV × AH → Option AV := kAft (Cfg.keepOut cfg 24 7) (kRun cfg (EV cfg) (kfN cfg 6) 24 none 0 (kFinF cfg (Cfg.lift cfg 24 0) Try.f24.results.toList) ([.block 1, .seq (sub (bodyOf Try.f24) [1, 0, 1, 1, 1, 1]), .scope]))
noncomputable def Wh24_0 : List AV × AH → Option AV := fun p => kOpt (LOOP 0 (some [2, 4, 7, 43, 44, 45]) ([]) Lh24_0 p) Ah24_0
noncomputable abbrev wh36_0 (bo : List (List AV)) (v40 : Int) (c0_0 : Int) (c0_1 : Int) (c0_2 : List UInt8) (c0_3 : List (List AV)) (c1_0 : Int) (c1_1 : Int) (c1_2 : List UInt8) (c1_3 : List (List AV)) (c1_4 : List (List AV)) (c1_5 : Int) (c2_0 : Int) (c2_1 : Int) (c2_2 : List UInt8) (c2_3 : List (List AV)) : Option (AV) := Wh36_0  (((fx 56 [(6, AV.ptr (0 : Nat) (0 : Nat) (0 : Nat)), (10, AV.ptr (1 : Nat) (0 : Nat) (0 : Nat)), (11, AV.ptr (2 : Nat) (0 : Nat) (0 : Nat)), (38, AV.sl bo), (39, AV.int IntKind.i64 (↑(List.length bo) : Int)), (40, AV.int IntKind.i64 v40)]) : List AV), ([ABlk.rows false (4 : Nat) [[AV.int IntKind.i64 c0_0, AV.int IntKind.i64 c0_1, AV.str c0_2, AV.sl c0_3]], ABlk.rows false (6 : Nat) [[AV.int IntKind.i64 c1_0, AV.int IntKind.i64 c1_1, AV.str c1_2, AV.sl c1_3, AV.sl c1_4, AV.int IntKind.i64 c1_5]], ABlk.rows false (4 : Nat) [[AV.int IntKind.i64 c2_0, AV.int IntKind.i64 c2_1, AV.str c2_2, AV.sl c2_3]]] : AH))
noncomputable abbrev wh24_0 (self : Int) (v45 : Int) (c0_0 : Int) (c0_1 : Int) (c0_2 : List UInt8) (c0_3 : List (List AV)) (c1_0 : Int) (c1_1 : Int) (c1_2 : List UInt8) (c1_3 : List (List AV)) : Option (AV) := Wh24_0  (((fx 64 [(2, AV.int IntKind.i64 self), (4, AV.ptr (0 : Nat) (0 : Nat) (0 : Nat)), (7, AV.ptr (1 : Nat) (0 : Nat) (0 : Nat)), (43, AV.nilS), (44, AV.int IntKind.i64 (0 : Int)), (45, AV.int IntKind.i64 v45)]) : List AV), ([ABlk.rows false (4 : Nat) [[AV.int IntKind.i64 c0_0, AV.int IntKind.i64 c0_1, AV.str c0_2, AV.sl c0_3]], ABlk.rows false (4 : Nat) [[AV.int IntKind.i64 c1_0, AV.int IntKind.i64 c1_1, AV.str c1_2, AV.sl c1_3]]] : AH))
noncomputable abbrev wh24_0a (self : Int) (sz : Nat) (off : Nat) (len : Nat) (v45 : Int) (c0_0 : Int) (c0_1 : Int) (c0_2 : List UInt8) (c0_3 : List (List AV)) (c1_0 : Int) (c1_1 : Int) (c1_2 : List UInt8) (c1_3 : List (List AV)) (h2 : List (List AV)) : Option (AV) := Wh24_0  (((fx 64 [(2, AV.int IntKind.i64 self), (4, AV.ptr (0 : Nat) (0 : Nat) (0 : Nat)), (7, AV.ptr (1 : Nat) (0 : Nat) (0 : Nat)), (43, AV.ms (2 : Nat) off len), (44, AV.int IntKind.i64 (↑len : Int)), (45, AV.int IntKind.i64 v45)]) : List AV), ([ABlk.rows false (4 : Nat) [[AV.int IntKind.i64 c0_0, AV.int IntKind.i64 c0_1, AV.str c0_2, AV.sl c0_3]], ABlk.rows false (4 : Nat) [[AV.int IntKind.i64 c1_0, AV.int IntKind.i64 c1_1, AV.str c1_2, AV.sl c1_3]], ABlk.rows true sz h2] : AH))
theorem spTells_run (kh : Int) (nh : Int) (sh : List UInt8) (lh : List (List AV)) (gd : List (List AV)) (bo : List (List AV)) (ko : Int) (no : Int) (so : List UInt8) (lo : List (List AV)) (self : Int) {P : AV → Prop} (h : Gets (kOpt (EVf (EV cfg) 10 [.agg [AV.int .i64 kh, .int .i64 nh, .str sh, .sl lh], .agg [AV.int .i64 ko, .int .i64 no, .str so, .sl lo]]) fun (v : AV) => kTup v fun (cs : List AV) => kCons cs 
  fun (c : AV) (cs : List AV) => kSl c fun (rows : List (List AV)) => kCons cs fun (c : AV) (cs : List AV) => kBool c fun (b : Bool) => kNil cs (bif !b then some (AV.tup [.agg [AV.int .i64 
  (0 : Int), .int .i64 (0 : Int), .str [], .sl []], .bool false]) else kOpt (EVs (EV cfg) 49 [.sl gd, .agg [AV.int .i64 ko, .int .i64 no, .str so, .sl lo, .sl rows, .int .i64 self]]) fun 
  (v : AV) => kBool v fun (b : Bool) => bif !b then some (AV.tup [.agg [AV.int .i64 (0 : Int), .int .i64 (0 : Int), .str [], .sl []], .bool false]) else wh36_0 bo (0 : Int) (0 : Int) (0 
  : Int) [] [] ko no so lo rows self (0 : Int) (0 : Int) [] [])) P) : Gets (EVf (EV cfg) 36 ([AV.agg [AV.int IntKind.i64 kh, AV.int IntKind.i64 nh, AV.str sh, AV.sl lh, AV.sl gd, AV.sl bo], AV.agg [AV.int IntKind.i64 ko, AV.int IntKind.i64 no, AV.str so, AV.sl lo], AV.int IntKind.i64 self] : List AV)) P :=
  Gets.ev (fun _ h => funF rfl rfl Try.func36 rfl h) (Gets.eq (by kernel_rfl) h)
theorem spFirst_run (kt : Int) (nt : Int) (st : List UInt8) (lt : List (List AV)) (ko : Int) (no : Int) (so : List UInt8) (lo : List (List AV)) (self : Int) {P : AV → Prop} (h : Gets (kOpt (EVq (EV cfg) 28 [.agg [AV.int .i64 kt, .int .i64 nt, .str st, .sl lt]]) fun (q : OV × AV) => kInt .i64 q.2 fun (n : Int) => kOwn q.1 (bif n != (0 : Int) then some (AV.tup [AV.int 
  .i64 (0 : Int), .agg [AV.int .i64 (0 : Int), .int .i64 (0 : Int), .str [], .sl []], .int .i64 n]) else bif ko != (7 : Int) then some (AV.tup [AV.int .i64 (0 : Int), .agg [AV.int .i64 (0 : 
  Int), .int .i64 (0 : Int), .str [], .sl []], .int .i64 (2 : Int)]) else kOpt (EVs (EV cfg) 35 [.agg [AV.int .i64 ko, .int .i64 no, .str so, .sl lo]]) fun (v : AV) => kInt .i64 v fun (n 
  : Int) => bif n != (0 : Int) then some (AV.tup [AV.int .i64 (0 : Int), .agg [AV.int .i64 (0 : Int), .int .i64 (0 : Int), .str [], .sl []], .int .i64 (2 : Int)]) else bif decide (self < 
  (1 : Int)) then some (AV.tup [AV.int .i64 (0 : Int), .agg [AV.int .i64 (0 : Int), .int .i64 (0 : Int), .str [], .sl []], .int .i64 (2 : Int)]) else bif decide (self > (1073741824 : Int)) 
  then some (AV.tup [AV.int .i64 (0 : Int), .agg [AV.int .i64 (0 : Int), .int .i64 (0 : Int), .str [], .sl []], .int .i64 (2 : Int)]) else wh24_0 self (0 : Int) ko no so lo (0 : Int) (0 : 
  Int) [] []) fun (sz : Nat) (rs : List (List AV)) (off len : Nat) => bif n != (0 : Int) then some (AV.tup [AV.int .i64 (0 : Int), .agg [AV.int .i64 (0 : Int), .int .i64 (0 : Int), .str [], 
  .sl []], .int .i64 n]) else bif ko != (7 : Int) then some (AV.tup [AV.int .i64 (0 : Int), .agg [AV.int .i64 (0 : Int), .int .i64 (0 : Int), .str [], .sl []], .int .i64 (2 : Int)]) else 
  kOpt (EVs (EV cfg) 35 [.agg [AV.int .i64 ko, .int .i64 no, .str so, .sl lo]]) fun (v : AV) => kInt .i64 v fun (n : Int) => bif n != (0 : Int) then some (AV.tup [AV.int .i64 (0 : Int), .agg 
  [AV.int .i64 (0 : Int), .int .i64 (0 : Int), .str [], .sl []], .int .i64 (2 : Int)]) else bif decide (self < (1 : Int)) then some (AV.tup [AV.int .i64 (0 : Int), .agg [AV.int .i64 (0 : Int), 
  .int .i64 (0 : Int), .str [], .sl []], .int .i64 (2 : Int)]) else bif decide (self > (1073741824 : Int)) then some (AV.tup [AV.int .i64 (0 : Int), .agg [AV.int .i64 (0 : Int), .int .i64 
  (0 : Int), .str [], .sl []], .int .i64 (2 : Int)]) else wh24_0a self sz off len (0 : Int) ko no so lo (0 : Int) (0 : Int) [] [] rs) P) : Gets (EVf (EV cfg) 24 ([AV.agg [AV.int IntKind.i64 kt, AV.int IntKind.i64 nt, AV.str st, AV.sl lt], AV.agg [AV.int IntKind.i64 ko, AV.int IntKind.i64 no, AV.str so, AV.sl lo], AV.int IntKind.i64 self] : List AV)) P :=
  Gets.ev (fun _ h => funF rfl rfl Try.func24 rfl h) (Gets.eq (by kernel_rfl) h)
theorem wh36_0_step (bo : List (List AV)) (v40 : Int) (c0_0 : Int) (c0_1 : Int) (c0_2 : List UInt8) (c0_3 : List (List AV)) (c1_0 : Int) (c1_1 : Int) (c1_2 : List UInt8) (c1_3 : List (List AV)) (c1_4 : List (List AV)) (c1_5 : Int) (c2_0 : Int) (c2_1 : Int) (c2_2 : List UInt8) (c2_3 : List (List AV)) {P : AV → Prop} (h : Gets (bif decide (v40 < (↑(List.length bo) : Int)) then bif leInt (0 : Int) v40 && ltInt v40 (↑(List.length bo) : Int) then kOpt (List.get?Internal bo (Int.toNat v40)) fun (row : List AV) 
  => bif Nat.beq (List.length row) 4 then bif Nat.ble 4 (List.length row) then kTmC (List.take 4 row) fun (n n_1 : Int) (s : List UInt8) (rows : List (List AV)) => (kOpt (EVf (EV cfg) 
  50 [.agg [AV.int .i64 n, .int .i64 n_1, .str s, .sl rows], .agg [AV.int .i64 c1_0, .int .i64 c1_1, .str c1_2, .sl c1_3, .sl c1_4, .int .i64 c1_5]]) fun (v : AV) => kTup v fun (cs : List 
  AV) => kCons cs fun (c : AV) (cs : List AV) => kAgg c fun (cs_1 : List AV) => kCons cs_1 fun (c : AV) (cs_2 : List AV) => kInt .i64 c fun (n : Int) => kCons cs_2 fun (c : AV) (cs_3 
  : List AV) => kInt .i64 c fun (n_2 : Int) => kCons cs_3 fun (c : AV) (cs_4 : List AV) => kStr c fun (s : List UInt8) => kCons cs_4 fun (c : AV) (cs_5 : List AV) => kSl c fun (rows : 
  List (List AV)) => kNil cs_5 (kCons cs fun (c : AV) (cs : List AV) => kInt .i64 c fun (n_3 : Int) => kNil cs (bif n_3 != (0 : Int) then some (AV.tup [AV.agg [AV.int .i64 (2 : Int), .int 
  .i64 (0 : Int), .str [(69 : UInt8), (88 : UInt8), (73 : UInt8), (84 : UInt8)], .sl []], .bool true]) else wh36_0 bo (IntKind.wrap .i64 (v40 + (1 : Int))) c0_0 c0_1 c0_2 c0_3 c1_0 c1_1 
  c1_2 c1_3 c1_4 c1_5 n n_2 s rows))) else none else none else none else some (AV.tup [.agg [AV.int .i64 c2_0, .int .i64 c2_1, .str c2_2, .sl c2_3], .bool true])) P) : Gets (wh36_0 bo v40 c0_0 c0_1 c0_2 c0_3 c1_0 c1_1 c1_2 c1_3 c1_4 c1_5 c2_0 c2_1 c2_2 c2_3) P :=
  Gets.ev (fun _ h => loop_step (cfg := cfg) (f := 36) (rd := none) (bs := 0) h) (Gets.eq (by kernel_rfl) h)
theorem wh24_0a_step (self : Int) (sz : Nat) (off : Nat) (len : Nat) (v45 : Int) (c0_0 : Int) (c0_1 : Int) (c0_2 : List UInt8) (c0_3 : List (List AV)) (c1_0 : Int) (c1_1 : Int) (c1_2 : List UInt8) (c1_3 : List (List AV)) (h2 : List (List AV)) {P : AV → Prop} (h : Gets (bif decide (v45 < (↑len : Int)) then bif Nat.beq sz 6 && leInt (0 : Int) v45 && ltInt v45 (↑len : Int) then kOpt (List.get?Internal h2 (off + Int.toNat v45)) fun (row : List AV) => 
  bif Nat.ble 6 (List.length row) then kCons (List.take 6 row) fun (c : AV) (cs : List AV) => kInt .i64 c fun (n : Int) => kCons cs fun (c : AV) (cs : List AV) => kInt .i64 c fun (n_1 
  : Int) => kCons cs fun (c : AV) (cs : List AV) => kStr c fun (s : List UInt8) => kCons cs fun (c : AV) (cs : List AV) => kSl c fun (rows : List (List AV)) => kCons cs fun (c : AV) (cs 
  : List AV) => kSl c fun (rows_1 : List (List AV)) => kCons cs fun (c : AV) (cs : List AV) => kSl c fun (rows_2 : List (List AV)) => kNil cs (kOpt (EVf (EV cfg) 36 [.agg [AV.int .i64 n, 
  .int .i64 n_1, .str s, .sl rows, .sl rows_1, .sl rows_2], .agg [AV.int .i64 c0_0, .int .i64 c0_1, .str c0_2, .sl c0_3], .int .i64 self]) fun (v : AV) => kTup v fun (cs : List AV) => kCons 
  cs fun (c : AV) (cs : List AV) => kAgg c fun (cs_1 : List AV) => kCons cs_1 fun (c : AV) (cs_2 : List AV) => kInt .i64 c fun (n : Int) => kCons cs_2 fun (c : AV) (cs_3 : List AV) => 
  kInt .i64 c fun (n_2 : Int) => kCons cs_3 fun (c : AV) (cs_4 : List AV) => kStr c fun (s : List UInt8) => kCons cs_4 fun (c : AV) (cs_5 : List AV) => kSl c fun (rows : List (List AV)) 
  => kNil cs_5 (kCons cs fun (c : AV) (cs : List AV) => kBool c fun (b : Bool) => kNil cs (bif !b then wh24_0a self sz off len (IntKind.wrap .i64 (v45 + (1 : Int))) c0_0 c0_1 c0_2 c0_3 
  c1_0 c1_1 c1_2 c1_3 h2 else some (AV.tup [AV.int .i64 (IntKind.wrap .i64 (v45 + (1 : Int))), .agg [AV.int .i64 n, .int .i64 n_2, .str s, .sl rows], .int .i64 (0 : Int)])))) else none else 
  none else some (AV.tup [AV.int .i64 (0 : Int), .agg [AV.int .i64 (0 : Int), .int .i64 (0 : Int), .str [], .sl []], .int .i64 (0 : Int)])) P) : Gets (wh24_0a self sz off len v45 c0_0 c0_1 c0_2 c0_3 c1_0 c1_1 c1_2 c1_3 h2) P :=
  Gets.ev (fun _ h => loop_step (cfg := cfg) (f := 24) (rd := none) (bs := 0) h) (Gets.eq (by kernel_rfl) h)
end Go.Proofs.Ytonmmmgffeoiiaa
end

section
namespace Go.Av
theorem matchT_chk : ∀ (n : Nat) (p t : Tm) (m m' : List (Int × Tm)), p.w ≤ n → t.chk = 0 → (∀ q ∈ m, q.2.chk = 0) → matchT p t m = some m' → ∀ q ∈ m', q.2.chk = 0 := by
  intro n
  induction n with
  | zero => intro p t m m' h; have := w_pos p; omega
  | succ n ih =>
    intro p t m m' hw ht hm h
    have hwe := p.w_eq
    rw [matchT_eq] at h
    by_cases h2 : p.kind = 2
    · rw [if_pos h2] at h
      by_cases h95 : p.str = [95]
      · rw [if_pos h95] at h; cases h; exact hm
      · rw [if_neg h95] at h
        cases hv : varG p.str with
        | none =>
          rw [hv] at h
          simp only [] at h
          split at h
          · cases h; exact hm
          · cases h
        | some v =>
          rw [hv] at h
          simp only [] at h
          cases hx : lookB v m with
          | some x =>
            rw [hx] at h
            simp only [] at h
            split at h
            · cases h; exact hm
            · cases h
          | none =>
            rw [hx] at h
            cases h
            intro q hq
            rcases List.mem_append.1 hq with hq | hq
            · exact hm q hq
            · simp at hq; subst hq; exact ht
    · rw [if_neg h2] at h
      by_cases h79 : p.kind = 7 ∨ p.kind = 9
      · rw [if_pos h79] at h
        split at h
        · cases h
        · have main : ∀ (l l' : List Tm) (m m' : List (Int × Tm)), wL l ≤ n → (∀ x ∈ l', x.chk = 0) → (∀ q ∈ m, q.2.chk = 0) → matchL l l' m = some m' → ∀ q ∈ m', q.2.chk = 0 := by
            intro l
            induction l with
            | nil => intro l' m m' _ _ hm h; rw [matchL_nil] at h; cases h; exact hm
            | cons x l ihl =>
              intro l' m m' hw hl hm h
              rw [wL_cons] at hw
              cases l' with
              | nil =>
                have : matchL (x :: l) [] m = some m := by rw [matchL]; simp
                rw [this] at h; cases h; exact hm
              | cons y l' =>
                rw [matchL_cons] at h
                obtain ⟨m1, h1, h3⟩ := Option.bind_eq_some_iff.1 h
                have hm1 := ih x y m m1 (by omega) (hl y List.mem_cons_self) hm h1
                exact ihl l' m1 m' (by omega) (fun z hz => hl z (List.mem_cons_of_mem _ hz)) hm1 h3
          exact main p.subs t.subs m m' (by omega) (fun x hx => chk_sub ht hx) hm h
      · rw [if_neg h79] at h
        split at h
        · cases h; exact hm
        · cases h
theorem tellB_mem {m : List (Int × Tm)} {q : Int × Tm} (h : q ∈ tellB m) : q ∈ m ∧ 0 ≤ q.1 ∧ q.1 ≤ 99 := by
  unfold tellB at h
  obtain ⟨n, hn, h⟩ := List.mem_filterMap.1 h
  obtain ⟨t, ht, rfl⟩ := Option.map_eq_some_iff.1 h
  rw [List.mem_range] at hn
  exact ⟨lookB_mem ht, by show (0 : Int) ≤ (n : Int); omega, by show (n : Int) ≤ 99; omega⟩
theorem mayB_filterMap {f : Nat → Option Tm} (hf : ∀ n t, f n = some t → t.chk = 0) : ∀ (d i : Nat) (last : Int), i + d = 100 → last < i → mayB last ((List.range' i d).filterMap fun n => (f n).map fun t => ((n : Int), t)) = true := by
  intro d
  induction d with
  | zero => intro i last _ _; rfl
  | succ d ih =>
    intro i last hi hl
    rw [List.range'_succ, List.filterMap_cons]
    cases hx : f i with
    | none => exact ih (i + 1) last (by omega) (by omega)
    | some t =>
      have h1 := ih (i + 1) i (by omega) (by omega)
      simp only [Option.map_some, mayB, decide_eq_true hl, decide_eq_true (show (i : Int) ≤ 99 by omega), decide_eq_true (hf i t hx), Bool.true_and]
      exact h1
theorem matchG_may {p t : Tm} {b : List (Int × Tm)} (h : matchG p t = some b) : mayB (-1) b = true ∧ (∀ q ∈ b, q.2.chk = 0) ∧ t.chk = 0 ∧ p.chk = 0 := by
  unfold matchG at h
  split at h
  · rename_i hc
    obtain ⟨m, hm, rfl⟩ := Option.map_eq_some_iff.1 h
    have hk := matchT_chk _ p t [] m (Nat.le_refl _) hc.2 (by simp) hm
    refine ⟨?_, fun q hq => hk q (tellB_mem hq).1, hc.2, hc.1⟩
    unfold tellB
    rw [List.range_eq_range']
    exact mayB_filterMap (f := fun n => lookB (n : Nat) m) (fun n t ht => hk _ (lookB_mem ht)) 100 0 (-1) rfl (by omega)
  · cases h
theorem listT_wl : ∀ l : List Tm, wL l + l.length ≤ (listT l).w
  | [] => Nat.zero_le _
  | x :: l => by
    have h := listT_wl l
    have : (listT (x :: l)).w = 1 + 0 + (x.w + ((listT l).w + 0)) ∨ wL (x :: l) + (x :: l).length ≤ (listT (x :: l)).w := by
      right
      have e := (listT (x :: l)).w_eq
      have : (listT (x :: l)).subs = [x, listT l] := rfl
      rw [this] at e
      simp only [wL_cons, wL_nil, List.length_cons] at e ⊢
      omega
    rcases this with h1 | h1
    · simp only [wL_cons, List.length_cons]; omega
    · exact h1
theorem selT_parts {cs : List Cl} {c : Cl} (h : c ∈ cs) : c.head.w + wL c.gs + c.gs.length + wL c.bs + c.bs.length ≤ (selT cs).w := by
  have h1 := listT_wl (cs.map clT)
  have h2 : (clT c).w ≤ wL (cs.map clT) := wL_mem (List.mem_map.2 ⟨c, h, rfl⟩)
  have h3 := listT_wl c.gs
  have h4 := listT_wl c.bs
  have e := (clT c).w_eq
  have : (clT c).subs = [c.head, listT c.gs, listT c.bs] := rfl
  rw [this] at e
  simp only [wL_cons, wL_nil] at e
  have : selT cs = listT (cs.map clT) := rfl
  rw [this]
  omega
theorem selT_len (cs : List Cl) : cs.length ≤ (selT cs).w := by
  have h1 := listT_wl (cs.map clT)
  rw [List.length_map] at h1
  have : selT cs = listT (cs.map clT) := rfl
  rw [this]
  omega
end Go.Av
namespace Go.Proofs.Ytonmmmgffeoiiaa
open Go.Av
theorem agg_av (t : Tm) : t.av = .agg [.int .i64 t.kind, .int .i64 t.num, .str t.str, .sl (rowsT t.subs)] := by rw [Tm.av, Tm.cells_eq]
theorem spBody_loop (hp : ProductOk) {e : Env} (he : EnvW e) {B : List Tm} (hB : B.length < 1099511627776) (wB : ∀ x ∈ B, x.w < 1099511627776) : ∀ (d i : Nat) (out : Tm), i + d = B.length →
    Gets (wh36_0 (rowsT B) i 0 0 [] [] e.obj.kind e.obj.num e.obj.str (rowsT e.obj.subs) (bindsR e.binds) e.self out.kind out.num out.str (rowsT out.subs)) (· = .tup [(bodyG e out (B.drop i)).av, .bool true]) := by
  intro d
  induction d with
  | zero =>
    intro i out hi
    obtain rfl : i = B.length := by omega
    refine wh36_0_step _ _ _ _ _ _ _ _ _ _ _ _ _ _ _ _ ?_
    rw [rowsT_length, decide_eq_false (by omega), List.drop_eq_nil_of_le (Nat.le_refl _)]
    simp only [cond_false, av_unf]
    exact ⟨_, rfl, rfl⟩
  | succ d ih =>
    intro i out hi
    have hil : i < B.length := by omega
    have hx : B[i]? = some B[i] := List.getElem?_eq_getElem hil
    have hv := eval_ev hp he (wB _ (List.mem_of_getElem? hx))
    unfold envR evalR at hv
    rw [List.drop_eq_getElem_cons hil, bodyG]
    refine wh36_0_step _ _ _ _ _ _ _ _ _ _ _ _ _ _ _ _ ?_
    have gx : List.get?Internal (rowsT B) (Int.toNat (i : Int)) = some B[i].cells := rowsT_at' hx
    rw [rowsT_length, decide_eq_true (show (i : Int) < (B.length : Int) by omega), leInt_zero, ltInt_nat, decide_eq_true hil, gx, wrap_succ hil hB]
    simp only [cond_true, Bool.and_self, kOptSome, length_cells, Nat.beq_refl, take_cells, kTmC_cells, ble44, av_unf, hv, bneD]
    generalize evalG e B[i] = r
    have h1 := ih (i + 1) r.1 (by omega)
    rw [Tm.av, Tm.cells_eq]
    simp only [kTup, kCons, kAgg, kInt_int, kStr_str, kSl_sl, kNil]
    by_cases h0 : r.2 = 0
    · rw [decide_eq_true h0, if_pos h0]
      exact h1
    · rw [decide_eq_false h0, if_neg h0]
      exact ⟨_, rfl, rfl⟩
theorem spTells_ev (hp : ProductOk) {c : Cl} (hc : ClOk c) {o : Tm} (ho : o.w < 1099511627776) (self : Int) : EVf (EV cfg) 36 [c.av, o.av, .int .i64 self] = some (findR (tellG c o self)) := by
  obtain ⟨c1, c2, c3, c4, c5⟩ := hc
  have hm := patMatch_ev (p := c.head) (t := o) (by have := w_chk c1; omega) ho
  apply Gets.get
  unfold Cl.av Cl.cells tellG
  rw [Tm.av, Tm.av, Tm.cells_eq, Tm.cells_eq] at hm
  rw [Tm.av, Tm.cells_eq]
  refine spTells_run _ _ _ _ _ _ _ _ _ _ _ ?_
  rw [hm]
  cases hmg : matchG c.head o with
  | none => exact ⟨_, rfl, rfl⟩
  | some b =>
    obtain ⟨hmay, hbc, _, _⟩ := matchG_may hmg
    have he : EnvW ⟨o, b, self⟩ := ⟨ho, by have := mayB_len hmay; show b.length < _; omega, fun q hq => by have := w_chk (hbc q hq); omega⟩
    have hh := holds_ev hp he (l := c.gs) (fun x hx => by have := w_chk (c2 x hx); omega) (by omega)
    have hl := spBody_loop hp he (B := c.bs) (by omega) (fun x hx => by have := w_chk (c3 x hx); omega) c.bs.length 0 zeroT (by omega)
    unfold envR at hh
    simp only [matchR, kOptSome, kTup, kCons, kSl_sl, kBool_bool, kNil, Bool.not_true, cond_false, hh]
    cases holdsG ⟨o, b, self⟩ c.gs with
    | false => exact ⟨_, rfl, rfl⟩
    | true => exact hl
def firstR (r : Int × Tm × Int) : AV := .tup [.int .i64 r.1, r.2.1.av, .int .i64 r.2.2]
theorem spFirst_loop (hp : ProductOk) {o : Tm} (ho : o.w < 1099511627776) {self : Int} {l : List Cl} (hl : ∀ c ∈ l, ClOk c) (hlen : l.length ≤ 8388608) : ∀ d i : Nat, i + d = l.length →
    Gets (wh24_0a self 6 0 l.length i o.kind o.num o.str (rowsT o.subs) 0 0 [] [] (rowsC l)) (· = firstR ((firstC o self (l.drop i) i).1, (firstC o self (l.drop i) i).2, 0)) := by
  intro d
  induction d with
  | zero =>
    intro i hi
    obtain rfl : i = l.length := by omega
    refine wh24_0a_step _ _ _ _ _ _ _ _ _ _ _ _ _ _ ?_
    rw [decide_eq_false (by omega), List.drop_eq_nil_of_le (Nat.le_refl _)]
    exact ⟨_, rfl, rfl⟩
  | succ d ih =>
    intro i hi
    have hil : i < l.length := by omega
    have hx : l[i]? = some l[i] := List.getElem?_eq_getElem hil
    have ht := spTells_ev hp (hl _ (List.mem_of_getElem? hx)) ho self
    have h1 := ih (i + 1) (by omega)
    rw [List.drop_eq_getElem_cons hil, firstC]
    refine wh24_0a_step _ _ _ _ _ _ _ _ _ _ _ _ _ _ ?_
    have gx : List.get?Internal (rowsC l) (0 + Int.toNat (i : Int)) = some l[i].cells := by
      rw [Nat.zero_add, get?Internal_eq, Int.toNat_natCast, rowsC_get, hx]; rfl
    rw [decide_eq_true (show (i : Int) < (l.length : Int) by omega), leInt_zero, ltInt_nat, decide_eq_true hil, gx, wrap_succ hil (show l.length < 1099511627776 by omega)]
    have b6 : Nat.ble 6 l[i].cells.length = true := rfl
    have t6 : List.take 6 l[i].cells = l[i].cells := rfl
    simp only [show Nat.beq 6 6 = true from rfl, cond_true, Bool.and_self, kOptSome, b6, t6]
    unfold Cl.av at ht
    unfold Cl.cells at ht ⊢
    simp only [kCons, kInt_int, kStr_str, kSl_sl, kNil, av_unf, ht, kOptSome]
    cases tellG l[i] o self with
    | none => exact h1
    | some x =>
      simp only [findR]
      rw [Tm.av, Tm.cells_eq]
      refine ⟨_, rfl, ?_⟩
      unfold firstR
      rw [Tm.av, Tm.cells_eq]
      rfl
theorem spFirst_ev (hp : ProductOk) {t o : Tm} (ht : t.w < 1099511627776) (ho : o.w < 1099511627776) (self : Int) : EVf (EV cfg) 24 [t.av, o.av, .int .i64 self] = some (firstR (firstG t o self)) := by
  have hk := clauses_ev ht
  have hc := check_ev ho
  obtain ⟨hok, hlen⟩ := clsG_ok t
  have hl := spFirst_loop hp ho (self := self) hok hlen (clsG t).1.length 0 (by omega)
  apply Gets.get
  rw [Tm.av, Tm.cells_eq] at hk hc
  rw [Tm.av, Tm.av, Tm.cells_eq, Tm.cells_eq]
  refine spFirst_run _ _ _ _ _ _ _ _ _ ?_
  rw [hk, hc]
  unfold firstG
  simp only [clsQ, kOptSome, kInt_int, kOwn_own, bneD]
  by_cases h0 : (clsG t).2 = 0
  · rw [h0, decide_eq_true rfl, if_neg (by simp)]
    by_cases h7 : o.kind = 7
    · rw [decide_eq_true h7]
      by_cases hoc : o.chk = 0
      · rw [decide_eq_true hoc]
        by_cases h1 : self < 1
        · rw [decide_eq_true h1, if_pos (.inr (.inr (.inl h1)))]
          exact ⟨_, rfl, rfl⟩
        · rw [decide_eq_false h1]
          by_cases h2 : self > 1073741824
          · rw [decide_eq_true h2, if_pos (.inr (.inr (.inr h2)))]
            exact ⟨_, rfl, rfl⟩
          · rw [decide_eq_false h2, if_neg (fun h => h.elim (fun h => h h7) fun h => h.elim (fun h => h hoc) fun h => h.elim h1 h2)]
            exact hl
      · rw [decide_eq_false hoc, if_pos (.inr (.inl hoc))]
        exact ⟨_, rfl, rfl⟩
    · rw [decide_eq_false h7, if_pos (.inl h7)]
      exact ⟨_, rfl, rfl⟩
  · rw [decide_eq_false h0, if_pos h0]
    exact ⟨_, rfl, rfl⟩
theorem spRun_ev (hp : ProductOk) {t o : Tm} (ht : t.w < 1099511627776) (ho : o.w < 1099511627776) (self : Int) : EVf (EV cfg) 9 [t.av, o.av, .int .i64 self] = some (.tup [(firstG t o self).2.1.av, .bool (decide ((firstG t o self).1 > 0)), .int .i64 (firstG t o self).2.2]) := by
  have hk := spFirst_ev hp ht ho self
  apply Gets.get
  generalize firstG t o self = r at *
  obtain ⟨n, x, e⟩ := r
  unfold firstR at hk
  rw [agg_av t, agg_av o] at hk ⊢
  refine spRun_run _ _ _ _ _ _ _ _ _ ?_
  rw [hk]
  simp only []
  rw [Tm.av, Tm.cells_eq]
  exact ⟨_, rfl, rfl⟩
theorem spOf_loop {cs : List Cl} (hw : (selT cs).w < 1099511627775) : ∀ d i : Nat, i + d = cs.length →
    Gets (wg14_0 (rowsC cs) i i 0 0 [] [] 8 0 [] [] (rowsT ((cs.take i).map clT))) (· = .tup [(ofG cs).1.av, .int .i64 (ofG cs).2]) := by
  have hlen := selT_len cs
  have hend : AV.agg [.int .i64 8, .int .i64 0, .str [], .sl []] = (Tm.mk 8 0 [] []).av := by rw [Tm.av_mk]; rfl
  intro d
  induction d with
  | zero =>
    intro i hi
    obtain rfl : i = cs.length := by omega
    refine wg14_0_step _ _ _ _ _ _ _ _ _ _ _ _ ?_
    have hb : Nat.ble (0 + cs.length) (rowsT (cs.map clT)).length = true := by rw [Nat.ble_eq, rowsT_length, List.length_map]; omega
    have ht : List.take cs.length (rowsT (cs.map clT)) = rowsT (cs.map clT) := List.take_of_length_le (by rw [rowsT_length, List.length_map]; exact Nat.le_refl _)
    have hm := makeList_ev (l := cs.map clT) (by rw [List.length_map]; omega) (.mk 8 0 [] [])
    have hsel : makeG (cs.map clT) (.mk 8 0 [] []) = selT cs := rfl
    have hk := spCheck_ev (t := selT cs) (by omega)
    have hcp := copy_ev (t := selT cs) (ok_of_w _ (by omega))
    rw [rowsC_len, decide_eq_false (by omega), List.take_length, hb, ht, hend, hm, hsel]
    simp only [cond_false, Bool.and_self, cond_true, kOptSome, kTmV_av, av_unf, hk, kInt_int, bneD]
    unfold ofG
    by_cases h0 : (clsG (selT cs)).2 = 0
    · rw [decide_eq_true h0, if_pos h0, hcp]
      simp only [Bool.not_true, cond_false, kOptSome, kTmV_av, av_unf]
      exact ⟨_, rfl, rfl⟩
    · rw [decide_eq_false h0, if_neg h0]
      exact ⟨_, rfl, rfl⟩
  | succ d ih =>
    intro i hi
    have hil : i < cs.length := by omega
    have hx : cs[i]? = some cs[i] := List.getElem?_eq_getElem hil
    have hpt := selT_parts (List.mem_of_getElem? hx)
    have h1 := ih (i + 1) (by omega)
    refine wg14_0_step _ _ _ _ _ _ _ _ _ _ _ _ ?_
    have gx : List.get?Internal (rowsC cs) (Int.toNat (i : Int)) = some cs[i].cells := by
      rw [get?Internal_eq, Int.toNat_natCast, rowsC_get, hx]; rfl
    have hl : ((cs.take i).map clT).length = i := by rw [List.length_map, List.length_take]; omega
    have hb : Nat.ble (0 + i) (rowsT ((cs.take i).map clT)).length = true := by rw [Nat.ble_eq, rowsT_length, hl]; omega
    have ht : List.take i (rowsT ((cs.take i).map clT)) = rowsT ((cs.take i).map clT) := List.take_of_length_le (by rw [rowsT_length, hl]; exact Nat.le_refl _)
    rw [rowsC_len, decide_eq_true (show (i : Int) < (cs.length : Int) by omega), leInt_zero, ltInt_nat, decide_eq_true hil, gx, hb, ht, fits56 (by omega), wrap_succ hil (by omega), hend]
    have e1 : cs.take (i + 1) = cs.take i ++ [cs[i]] := by rw [List.take_add_one, hx]; rfl
    rw [e1, List.map_append, rowsT_append] at h1
    generalize cs[i] = c at *
    have b6 : Nat.ble 6 c.cells.length = true := rfl
    have b66 : Nat.beq c.cells.length 6 = true := rfl
    have t6 : List.take 6 c.cells = c.cells := rfl
    have k1 := makeList_ev (l := c.gs) (by omega) (.mk 8 0 [] [])
    have k2 := makeList_ev (l := c.bs) (by omega) (.mk 8 0 [] [])
    have k3 := makeTuple_ev (x := c.head) (l := [listT c.gs, listT c.bs]) (by simp)
    simp only [cond_true, Bool.and_self, kOptSome, b6, b66, t6]
    unfold Cl.cells
    simp only [kCons, kInt_int, kStr_str, kSl_sl, kNil, k1, k2, kOptSome, kTmV_av]
    have er : [[AV.int .i64 c.head.kind, .int .i64 c.head.num, .str c.head.str, .sl (rowsT c.head.subs)], [AV.int .i64 (makeG c.gs (.mk 8 0 [] [])).kind, .int .i64 (makeG c.gs (.mk 8 0 [] [])).num, .str (makeG c.gs (.mk 8 0 [] [])).str, .sl (rowsT (makeG c.gs (.mk 8 0 [] [])).subs)], [AV.int .i64 (makeG c.bs (.mk 8 0 [] [])).kind, .int .i64 (makeG c.bs (.mk 8 0 [] [])).num, .str (makeG c.bs (.mk 8 0 [] [])).str, .sl (rowsT (makeG c.bs (.mk 8 0 [] [])).subs)]] = rowsT [c.head, listT c.gs, listT c.bs] := by
      rw [rowsT_cons, rowsT_cons, rowsT_cons, rowsT_nil, Tm.cells_eq, Tm.cells_eq, Tm.cells_eq]; rfl
    rw [er, k3]
    simp only [kOptSome, kTmV_av]
    have ec : [[AV.int .i64 (tupT [c.head, listT c.gs, listT c.bs]).kind, .int .i64 (tupT [c.head, listT c.gs, listT c.bs]).num, .str (tupT [c.head, listT c.gs, listT c.bs]).str, .sl (rowsT (tupT [c.head, listT c.gs, listT c.bs]).subs)]] = rowsT ([c].map clT) := by
      show _ = rowsT [clT c]
      rw [rowsT_cons, rowsT_nil, Tm.cells_eq]; rfl
    rw [ec]
    exact h1
theorem spOf_ev {cs : List Cl} (hw : (selT cs).w < 1099511627775) : EVf (EV cfg) 14 [.sl (rowsC cs)] = some (.tup [(ofG cs).1.av, .int .i64 (ofG cs).2]) := by
  apply Gets.get
  refine spOf_run _ ?_
  exact spOf_loop hw cs.length 0 (by omega)
end Go.Proofs.Ytonmmmgffeoiiaa
end

section
namespace Go.Av
theorem symT_chk {s : List UInt8} (h : s.length ≤ 64) : (symT s).chk = 0 := by
  have h1 : (symT s).sound = true := by
    show soundB 2 0 s 0 = true
    unfold soundB
    rw [if_neg (by omega), if_pos rfl]
    simp [h]
  refine chk_zero.2 ⟨?_, ?_⟩
  · rw [Tm.parts_eq, h1]; rfl
  · rw [Tm.words_eq]
    show Tm.own (symT s) + wordsL [] ≤ 65536
    have := (symT s).own_le
    simp [wordsL]; omega
theorem symT_var {s : List UInt8} (h : s.length ≤ 64) : varT (symT s) = varG s := by
  unfold varT
  rw [if_pos ⟨rfl, symT_chk h⟩]; rfl
end Go.Av
end

section
namespace Go.Av
theorem evalG_tru {e : Env} (he : EnvOk e) : evalG e (symT tru) = (symT tru, 0) := by
  have hv : varT (symT tru) = none := by rw [symT_var (by simp [tru])]; rfl
  have hc : checkG (namesG e) (symT tru) = 0 := by
    unfold checkG
    rw [if_pos (symT_chk (by simp [tru])), isG_atom rfl, hv]
    rfl
  unfold evalG
  rw [if_pos (by rw [envG_ok.2 he, hc]; rfl), valG_atom rfl, hv]
  rfl
theorem trueG_tru {e : Env} (he : EnvOk e) : trueG e (symT tru) = true := by
  unfold trueG
  rw [evalG_tru he]; rfl
end Go.Av
end

section
namespace Go.Av
def okC (c : Cl) : Bool := headG c.head && !c.bs.isEmpty && (c.gs.all (fun e => decide (checkG (varsG c.head) e = 0)) && c.bs.all (fun e => decide (checkG (varsG c.head) e = 0)))
theorem clauseG_clT (c : Cl) : clauseG (clT c) = if okC c then some c else none := by
  unfold clauseG clT
  rw [if_pos (show (tupT [c.head, listT c.gs, listT c.bs]).kind = 7 from rfl)]
  show (if headG c.head && ((itemsG (listT c.gs)).2 && ((itemsG (listT c.bs)).2 && !(itemsG (listT c.bs)).1.isEmpty)) && ((itemsG (listT c.gs)).1.all (fun e => decide (checkG (varsG c.head) e = 0)) && (itemsG (listT c.bs)).1.all (fun e => decide (checkG (varsG c.head) e = 0))) then some (Cl.mk c.head (itemsG (listT c.gs)).1 (itemsG (listT c.bs)).1) else none) = _
  rw [itemsG_list, itemsG_list]
  simp only [Bool.true_and]
  rfl
theorem seqC_clT : ∀ cs : List Cl, seqC (cs.map clT) = if cs.all okC then some cs else none
  | [] => rfl
  | c :: cs => by
    rw [List.map_cons, seqC, clauseG_clT, seqC_clT cs, List.all_cons]
    cases okC c <;> cases cs.all okC <;> rfl
theorem clsG_selT (cs : List Cl) : clsG (selT cs) = if (selT cs).chk = 0 then (if cs.all okC && !cs.isEmpty then (cs, 0) else ([], 10)) else ([], 2) := by
  unfold clsG
  have h : itemsG (selT cs) = (cs.map clT, true) := itemsG_list _
  rw [h]
  simp only [seqC_clT, Bool.true_and]
  cases h1 : cs.all okC <;> cases cs <;> simp
structure SelOk (cs : List Cl) : Prop where
  chk : (selT cs).chk = 0
  ok : ∀ c ∈ cs, okC c = true
  ne : cs ≠ []
theorem clsG_zero {cs : List Cl} : (clsG (selT cs)).2 = 0 ↔ SelOk cs := by
  rw [clsG_selT]
  by_cases h : (selT cs).chk = 0
  · rw [if_pos h]
    cases h1 : cs.all okC && !cs.isEmpty with
    | true =>
      rw [Bool.and_eq_true, List.all_eq_true] at h1
      exact ⟨fun _ => ⟨h, h1.1, by rintro rfl; exact absurd h1.2 (by simp)⟩, fun _ => rfl⟩
    | false =>
      refine ⟨fun h => (by cases h), fun g => ?_⟩
      rw [List.all_eq_true.2 g.ok, Bool.true_and] at h1
      exact absurd (List.isEmpty_iff.1 (by simpa using h1)) g.ne
  · rw [if_neg h]
    exact ⟨fun h => (by cases h), fun g => absurd g.chk h⟩
theorem SelOk.cls {cs : List Cl} (h : SelOk cs) : clsG (selT cs) = (cs, 0) := by
  rw [clsG_selT, if_pos h.chk, List.all_eq_true.2 h.ok]
  cases cs with
  | nil => exact absurd rfl h.ne
  | cons c cs => rfl
theorem SelOk.of {cs : List Cl} (h : SelOk cs) : ofG cs = (selT cs, 0) := by
  unfold ofG
  rw [if_pos (clsG_zero.2 h)]
theorem ofG_zero {cs : List Cl} (h : (ofG cs).2 = 0) : SelOk cs := by
  unfold ofG at h
  split at h
  · rename_i h0; exact clsG_zero.1 h0
  · rename_i h0; exact absurd h h0
theorem cons_form {t a b : Tm} (hc : t.chk = 0) (hk : t.kind = 9) (hs : t.subs = [a, b]) : t = .mk 9 0 [] [a, b] := by
  obtain ⟨h1, _⟩ := chk_zero.1 hc
  obtain ⟨k, n, s, l⟩ := t
  simp only [Tm.kind_mk, Tm.subs_mk] at hk hs
  subst hk hs
  rw [Tm.parts_eq, Bool.and_eq_true] at h1
  have h2 : soundB 9 n s 2 = true := h1.1
  simp [soundB] at h2
  rw [h2.1, h2.2]
theorem nil_form {t : Tm} (hc : t.chk = 0) (hk : t.kind = 8) : t = .mk 8 0 [] [] := by
  obtain ⟨h1, _⟩ := chk_zero.1 hc
  obtain ⟨k, n, s, l⟩ := t
  simp only [Tm.kind_mk] at hk
  subst hk
  rw [Tm.parts_eq, Bool.and_eq_true] at h1
  have h2 : soundB 8 n s l.length = true := h1.1
  simp [soundB] at h2
  rw [h2.1, h2.2.1, h2.2.2]
theorem tup_form {t : Tm} (hc : t.chk = 0) (hk : t.kind = 7) : t = tupT t.subs := by
  obtain ⟨h1, _⟩ := chk_zero.1 hc
  obtain ⟨k, n, s, l⟩ := t
  simp only [Tm.kind_mk] at hk
  subst hk
  rw [Tm.parts_eq, Bool.and_eq_true] at h1
  have h2 : soundB 7 n s l.length = true := h1.1
  simp [soundB] at h2
  rw [h2.1, h2.2.1]; rfl
theorem listT_items {t : Tm} (hc : t.chk = 0) (h : (itemsG t).2 = true) : listT (itemsG t).1 = t := by
  refine consInd (P := fun t => (itemsG t).2 = true → t.chk = 0 → listT (itemsG t).1 = t) t hc (fun t a b hk hs hc ih h hc => ?_) (fun t hk hc h hc => ?_) h hc
  · rw [itemsG_cons hk hs] at h ⊢
    have h2 := ih h (chk_sub hc (by rw [hs]; simp))
    show Tm.mk 9 0 [] [a, listT (itemsG b).1] = t
    rw [h2, ← cons_form hc hk hs]
  · rw [itemsG_end hk] at h ⊢
    exact (nil_form hc (of_decide_eq_true h)).symm
theorem clT_clause {t : Tm} (hc : t.chk = 0) {c : Cl} (h : clauseG t = some c) : t = clT c := by
  unfold clauseG at h
  split at h
  · rename_i hk
    split at h
    · rename_i a g b hs
      split at h
      · rename_i hcond
        cases h
        simp only [Bool.and_eq_true] at hcond
        have hg := listT_items (chk_sub hc (x := g) (by rw [hs]; simp)) hcond.1.2.1
        have hb := listT_items (chk_sub hc (x := b) (by rw [hs]; simp)) hcond.1.2.2.1
        show t = tupT [a, listT (itemsG g).1, listT (itemsG b).1]
        rw [hg, hb, ← hs]
        exact tup_form hc hk
      · cases h
    · cases h
  · cases h
theorem seqC_back : ∀ {l : List Tm} {cs : List Cl}, (∀ x ∈ l, x.chk = 0) → seqC l = some cs → l = cs.map clT
  | [], cs, _, h => by cases h; rfl
  | t :: l, cs, hc, h => by
    rw [seqC] at h
    obtain ⟨c, h1, h⟩ := Option.bind_eq_some_iff.1 h
    obtain ⟨r, hr, rfl⟩ := Option.map_eq_some_iff.1 h
    rw [List.map_cons, ← clT_clause (hc t (by simp)) h1, seqC_back (fun x hx => hc x (by simp [hx])) hr]
theorem clsG_back {t : Tm} (h : (clsG t).2 = 0) : selT (clsG t).1 = t ∧ SelOk (clsG t).1 := by
  have key : selT (clsG t).1 = t := by
    unfold clsG at h ⊢
    by_cases hc : t.chk = 0
    · rw [if_pos hc] at h ⊢
      cases hs : seqC (itemsG t).1 with
      | none => rw [hs] at h; cases h
      | some l =>
        rw [hs] at h
        simp only [] at h ⊢
        split at h
        · rename_i h2
          rw [if_pos h2]
          rw [Bool.and_eq_true] at h2
          show listT (l.map clT) = t
          rw [← seqC_back (itemsG_chk hc) hs]
          exact listT_items hc h2.1
        · cases h
    · rw [if_neg hc] at h; cases h
  refine ⟨key, clsG_zero.1 ?_⟩
  rw [key]; exact h
theorem listT_words : ∀ l : List Tm, (listT l).words = 1 + l.length + wordsL l
  | [] => by decide
  | x :: l => by
    have h : (listT (x :: l)).words = 1 + (x.words + ((listT l).words + 0)) := by
      show (Tm.mk 9 0 [] [x, listT l]).words = _
      rw [Tm.words]; simp [wordsL, Tm.own]
    rw [h, listT_words l, wordsL, List.length_cons]; omega
theorem listT_parts : ∀ l : List Tm, (listT l).parts = partsL l
  | [] => by decide
  | x :: l => by
    have h : (listT (x :: l)).parts = (x.parts && ((listT l).parts && true)) := by
      show (Tm.mk 9 0 [] [x, listT l]).parts = _
      rw [Tm.parts]; simp [partsL, soundB]
    rw [h, listT_parts l, partsL, Bool.and_true]
theorem clT_words (c : Cl) : (clT c).words = 4 + c.head.words + (c.gs.length + wordsL c.gs) + (c.bs.length + wordsL c.bs) := by
  have h : (clT c).words = 2 + (c.head.words + ((listT c.gs).words + ((listT c.bs).words + 0))) := by
    show (Tm.mk 7 0 [] [c.head, listT c.gs, listT c.bs]).words = _
    rw [Tm.words]; simp [wordsL, Tm.own]
  rw [h, listT_words, listT_words]; omega
theorem clT_parts (c : Cl) : (clT c).parts = (c.head.parts && (partsL c.gs && partsL c.bs)) := by
  have h : (clT c).parts = (c.head.parts && ((listT c.gs).parts && ((listT c.bs).parts && true))) := by
    show (Tm.mk 7 0 [] [c.head, listT c.gs, listT c.bs]).parts = _
    rw [Tm.parts]; simp [partsL, soundB]
  rw [h, listT_parts, listT_parts, Bool.and_true]
theorem sel_one {c : Cl} : (selT [c]).chk = 0 ↔ (clT c).parts = true ∧ 2 + (clT c).words ≤ 65536 := by
  rw [chk_zero, selT, listT_words, listT_parts]
  simp [partsL, wordsL]
theorem SelOk.one {cs : List Cl} (h : SelOk cs) {c : Cl} (hc : c ∈ cs) : SelOk [c] := by
  obtain ⟨h1, h2⟩ := chk_zero.1 h.chk
  rw [selT, listT_parts] at h1
  rw [selT, listT_words] at h2
  have hm := List.mem_map_of_mem (f := clT) hc
  have := wordsL_mem hm
  have hl : 1 ≤ cs.length := List.length_pos_of_mem hc
  rw [List.length_map] at h2
  exact ⟨sel_one.2 ⟨partsL_mem h1 _ hm, by omega⟩, by simpa using h.ok c hc, by simp⟩
def Cl.more (x : Tm) (c : Cl) : Cl := ⟨c.head, x :: c.gs, c.bs⟩
theorem more_ok {c : Cl} (h : SelOk [c]) {x : Tm} (hx : checkG (varsG c.head) x = 0) (hw : (selT [c]).words + x.words < 65536) : SelOk [c.more x] := by
  obtain ⟨h1, _⟩ := sel_one.1 h.chk
  have hc := h.ok c (by simp)
  have hxp := (chk_zero.1 (checkG_zero hx).1).1
  rw [selT, listT_words] at hw
  simp only [List.map_cons, List.map_nil, List.length_cons, List.length_nil, wordsL, clT_words] at hw
  refine ⟨sel_one.2 ⟨?_, ?_⟩, ?_, by simp⟩
  · rw [clT_parts] at h1 ⊢
    simp only [Cl.more, partsL, hxp, Bool.true_and]
    exact h1
  · rw [clT_words]
    simp only [Cl.more, List.length_cons, wordsL]
    omega
  · intro c' hc'
    simp at hc'; subst hc'
    unfold okC at hc ⊢
    simp only [Cl.more, List.all_cons, hx, decide_true, Bool.true_and]
    exact hc
theorem firstG_sel {cs : List Cl} (h : SelOk cs) (o : Tm) (self : Int) : firstG (selT cs) o self = if o.kind ≠ 7 ∨ o.chk ≠ 0 ∨ self < 1 ∨ self > 1073741824 then (0, zeroT, 2) else ((firstC o self cs 0).1, (firstC o self cs 0).2, 0) := by
  unfold firstG
  rw [h.cls]
  simp only []
  rw [if_neg (by omega)]
theorem firstC_one (o : Tm) (self : Int) (c : Cl) : firstC o self [c] 0 = match tellG c o self with | some x => (1, x) | none => (0, zeroT) := by
  rw [firstC]
  cases tellG c o self with
  | none => rfl
  | some x => rfl
theorem matchG_env {p o : Tm} {b : List (Int × Tm)} (h : matchG p o = some b) {self : Int} (h1 : 1 ≤ self) (h2 : self ≤ 1073741824) : EnvOk ⟨o, b, self⟩ := by
  obtain ⟨h3, _, h4, _⟩ := matchG_may h
  refine ⟨h4, h3, ?_⟩
  show selfG self = true
  simp [selfG]; omega
theorem tellG_more {c : Cl} {x o : Tm} {self : Int} : tellG (c.more x) o self = match matchG c.head o with
    | none => none
    | some b => if trueG ⟨o, b, self⟩ x then tellG c o self else none := by
  unfold tellG
  show (match matchG c.head o with | none => none | some b => if holdsG ⟨o, b, self⟩ (x :: c.gs) then some (bodyG ⟨o, b, self⟩ zeroT c.bs) else none) = _
  cases h : matchG c.head o with
  | none => rfl
  | some b =>
    simp only []
    unfold holdsG
    rw [List.all_cons]
    cases trueG ⟨o, b, self⟩ x <;> simp
def hdN : Tm := tupT [symT [104, 100], .mk 8 0 [] []]
theorem hdN_check (V : List Int) : checkG V hdN = 0 := by
  unfold checkG
  rw [if_pos (by decide), hdN, isG_tup (f := symT [104, 100]) (r := [.mk 8 0 [] []]) rfl rfl]
  rfl
theorem tru_check (V : List Int) : checkG V (symT tru) = 0 := by
  unfold checkG
  rw [if_pos (symT_chk (by simp [tru])), isG_atom rfl, symT_var (by simp [tru])]
  rfl
theorem hdN_val (e : Env) : valG e hdN = none := by
  rw [hdN, valG_tup (f := symT [104, 100]) (r := [.mk 8 0 [] []]) rfl rfl]
  rw [if_neg (by decide), if_neg (by decide), if_neg (by decide), if_neg (by decide)]
  rw [optsG, optsG, valG_other (t := .mk 8 0 [] []) (by decide) (by decide) (by decide)]
  rfl
theorem hdN_false (e : Env) : trueG e hdN = false := by
  unfold trueG
  have : (evalG e hdN).2 ≠ 0 := by
    unfold evalG
    split
    · rw [hdN_val]; decide
    · decide
  rw [decide_eq_false this]; rfl
theorem tell_true {c : Cl} {o : Tm} {self : Int} (h1 : 1 ≤ self) (h2 : self ≤ 1073741824) : tellG (c.more (symT tru)) o self = tellG c o self := by
  rw [tellG_more]
  cases h : matchG c.head o with
  | none => simp only []; unfold tellG; rw [h]
  | some b =>
    simp only []
    rw [trueG_tru (matchG_env h h1 h2), if_pos rfl]
theorem tell_never {c : Cl} {o : Tm} {self : Int} : tellG (c.more hdN) o self = none := by
  rw [tellG_more]
  cases h : matchG c.head o with
  | none => rfl
  | some b => simp only []; rw [hdN_false]; rfl
theorem tell_some {c : Cl} {x o y : Tm} {self : Int} (h : tellG (c.more x) o self = some y) : tellG c o self = some y := by
  rw [tellG_more] at h
  cases hm : matchG c.head o with
  | none => rw [hm] at h; cases h
  | some b =>
    rw [hm] at h
    simp only [] at h
    split at h
    · exact h
    · cases h
end Go.Av
end

section
namespace Go.Proofs.Ytonmmmgffeoiiaa
open Go.Av
def SizeP (t : Tm) (most : Int) (v : AV) : Prop := ∃ n : Int, v = .int .i64 n ∧ 1 ≤ n ∧ n ≤ most ∧ (n < most → t.w ≤ 101 * n ∧ t.words ≤ 2 * n)
theorem sizeV_ev (t : Tm) : t.Ok → ∀ most : Int, 1 ≤ most → most ≤ 1073741824 → Gets (EVs (EV cfg) 27 [t.av, .int .i64 most]) (SizeP t most) := by
  induction t using Tm.ind with
  | _ k n s l ih =>
    intro hok most h1 hmx
    by_cases hs : s.length ≤ 100
    · have loop : ∀ (d i : Nat) (m : Int), i + d = l.length → 1 ≤ m → m ≤ most → (m < most → (1 + s.length : Nat) + wL (l.take i) ≤ 101 * m ∧ 2 + wordsL (l.take i) ≤ 2 * m) → Gets (wh47_0 most m i k n s (rowsT l)) (SizeP (.mk k n s l) most) := by
        intro d
        induction d with
        | zero =>
          intro i m hi hm1 hm2 hmw
          refine wh47_0_step _ _ _ _ _ _ _ ?_
          rw [rowsT_length, decide_eq_false (by omega)]
          refine ⟨_, rfl, m, rfl, hm1, hm2, fun hlt => ?_⟩
          have hmw := hmw hlt
          rw [List.take_of_length_le (by omega)] at hmw
          have := (Tm.mk k n s l).own_le
          rw [Tm.w_mk, Tm.words]
          omega
        | succ d ihd =>
          intro i m hi hm1 hm2 hmw
          refine wh47_0_step _ _ _ _ _ _ _ ?_
          have hil : i < l.length := by omega
          have hx : l[i]? = some l[i] := List.getElem?_eq_getElem hil
          have hxl := List.mem_of_getElem? hx
          have hix := ih l[i] hxl (hok.sub hxl)
          by_cases hm : m < most
          · have hmw := hmw hm
            rw [wrap_succ hil hok.len, wrap64 (x := most - m) (by omega) (by omega)]
            simp [hil, hx, hm]
            refine Gets.bind (hix (most - m) (by omega) (by omega)) ?_
            rintro _ ⟨n'', rfl, q1, q2, q3⟩
            have hg := ihd (i + 1) (m + n'') (by omega) (by omega) (by omega) (fun hlt => by
              have := q3 (by omega)
              rw [List.take_add_one, hx, Option.toList_some, wL_append, wordsL_append, wL_cons, wL_nil, wordsL, wordsL]
              omega)
            simp only [kInt_int]
            rw [wrap64 (x := m + n'') (by omega) (by omega)]
            simpa using hg
          · simp [hil, hm]
            exact ⟨m, rfl, hm1, hm2, fun h => absurd h hm⟩
      rw [Tm.av_mk]
      refine kitSize_run _ _ _ _ _ ?_
      rw [decide_eq_false (by omega)]
      by_cases h2 : (l.length : Int) > most
      · rw [rowsT_length, decide_eq_true h2]
        exact ⟨_, rfl, most, rfl, h1, Int.le_refl _, fun h => absurd h (by omega)⟩
      · rw [rowsT_length, decide_eq_false h2]
        exact loop l.length 0 1 (by omega) (by omega) (by omega) (fun _ => by simp [wordsL]; omega)
    · rw [Tm.av_mk]
      refine kitSize_run _ _ _ _ _ ?_
      rw [decide_eq_true (by omega)]
      exact ⟨_, rfl, most, rfl, h1, Int.le_refl _, fun h => absurd h (by omega)⟩
def BigP (t : Tm) (most : Int) (v : AV) : Prop := ∃ b : Bool, v = .bool b ∧ (b = false → t.w ≤ 101 * most ∧ t.words ≤ 2 * most)
theorem bigV_ev {t : Tm} (h : t.Ok) {most : Int} (h1 : 1 ≤ most) (h2 : most ≤ 1000000000) : Gets (EVs (EV cfg) 12 [t.av, .int .i64 most]) (BigP t most) := by
  have h1 := sizeV_ev t h (most + 1) (by omega) (by omega)
  rw [Tm.av, Tm.cells_eq] at h1 ⊢
  refine kitBig_run _ _ _ _ _ ?_
  rw [wrap64 (by omega) (by omega)]
  refine Gets.bind h1 ?_
  rintro _ ⟨n, rfl, q1, q2, q3⟩
  simp only [kInt_int]
  refine ⟨_, rfl, _, rfl, fun hb => ?_⟩
  have hb : ¬ n > most := of_decide_eq_false hb
  have := q3 (by omega)
  omega
end Go.Proofs.Ytonmmmgffeoiiaa
end

section
namespace Go.Av
theorem and_mask {a : Nat} (ha : a < 18446744073709551616) : fromSem (Op.intBits .and .u64 (a : Int) 4294967295) = some (.int .u64 ((a % 4294967296 : Nat) : Int)) := by
  have : fromSem (Op.intBits .and .u64 (a : Int) 4294967295) = some (.int .u64 (IntKind.wrap .u64 (BitVec.ofInt 64 (a : Int) &&& BitVec.ofInt 64 4294967295).toNat)) := rfl
  rw [this]
  have ea : (BitVec.ofInt 64 (a : Int)).toNat = a := by simp [BitVec.toNat_ofInt]; omega
  have eb : (BitVec.ofInt 64 (4294967295 : Int)).toNat = 2 ^ 32 - 1 := by decide
  rw [BitVec.toNat_and, ea, eb, Nat.and_two_pow_sub_one_eq_mod, wrapU (by omega)]
theorem shr_32 {a : Nat} (_ha : a < 18446744073709551616) : fromSem (Op.shift .shr .u64 (a : Int) .u64 32) = some (.int .u64 ((a / 4294967296 : Nat) : Int)) := by
  have : fromSem (Op.shift .shr .u64 (a : Int) .u64 32) = some (.int .u64 (Int.fdiv a (2 ^ (min (32 : Int).toNat 64)))) := by
    unfold Op.shift
    rw [if_neg (by omega)]; rfl
  rw [this]
  have e : ((2 : Int) ^ (min (32 : Int).toNat 64)) = ((4294967296 : Nat) : Int) := by decide
  rw [e, Int.fdiv_eq_ediv_of_nonneg _ (Int.natCast_nonneg _)]
  rfl
theorem wrapU' {n : Int} {m : Nat} (h : n = (m : Int)) (hm : m < 18446744073709551616) : IntKind.wrap .u64 n = (m : Int) := by rw [h, wrapU hm]
theorem wrapU_mod (n : Nat) : IntKind.wrap .u64 (n : Int) = ((n % 18446744073709551616 : Nat) : Int) := by
  simp [IntKind.wrap, IntKind.bits, IntKind.signed]
theorem hi_parts {a b : Nat} (ha : a < 18446744073709551616) (hb : b < 18446744073709551616) :
    let p := a / 4294967296 * (b % 4294967296); let q := a % 4294967296 * (b / 4294967296); let r := a % 4294967296 * (b % 4294967296); let s := a / 4294967296 * (b / 4294967296)
    r < 18446744073709551616 ∧ p < 18446744073709551616 ∧ q < 18446744073709551616 ∧ s < 18446744073709551616 ∧ p + r / 4294967296 < 18446744073709551616 ∧ (p + r / 4294967296) % 4294967296 + q < 18446744073709551616 ∧ s + (p + r / 4294967296) / 4294967296 < 18446744073709551616 ∧
    s + (p + r / 4294967296) / 4294967296 + ((p + r / 4294967296) % 4294967296 + q) / 4294967296 = a * b / 18446744073709551616 ∧ a * b / 18446744073709551616 < 18446744073709551616 := by
  intro p q r s
  have ea : a = a / 4294967296 * 4294967296 + a % 4294967296 := by omega
  have eb : b = b / 4294967296 * 4294967296 + b % 4294967296 := by omega
  have e : a * b = s * 18446744073709551616 + (p + q) * 4294967296 + r := by
    show a * b = (a / 4294967296 * (b / 4294967296)) * 18446744073709551616 + (a / 4294967296 * (b % 4294967296) + a % 4294967296 * (b / 4294967296)) * 4294967296 + a % 4294967296 * (b % 4294967296)
    generalize a / 4294967296 = x1 at *
    generalize a % 4294967296 = x0 at *
    generalize b / 4294967296 = y1 at *
    generalize b % 4294967296 = y0 at *
    rw [ea, eb]
    have h1 : x1 * 4294967296 * (y1 * 4294967296) = x1 * y1 * 18446744073709551616 := by
      rw [Nat.mul_mul_mul_comm]
    have h2 : x1 * 4294967296 * y0 = x1 * y0 * 4294967296 := by rw [Nat.mul_right_comm]
    have h3 : x0 * (y1 * 4294967296) = x0 * y1 * 4294967296 := by rw [Nat.mul_assoc]
    rw [Nat.add_mul, Nat.mul_add, Nat.mul_add, h1, h2, h3]
    omega
  have bp : p ≤ 4294967295 * 4294967295 := Nat.mul_le_mul (by omega) (by omega)
  have bq : q ≤ 4294967295 * 4294967295 := Nat.mul_le_mul (by omega) (by omega)
  have br : r ≤ 4294967295 * 4294967295 := Nat.mul_le_mul (by omega) (by omega)
  have bs : s ≤ 4294967295 * 4294967295 := Nat.mul_le_mul (by omega) (by omega)
  have hab : a * b < 18446744073709551616 * 18446744073709551616 := Nat.mul_lt_mul'' ha hb
  clear_value p q r s
  rw [e] at hab ⊢
  clear e ea eb
  refine ⟨by omega, by omega, by omega, by omega, by omega, by omega, by omega, by omega, by omega⟩
end Go.Av
namespace Go.Proofs.Ytonmmmgffeoiiaa
open Go.Av
theorem mul64_ev {a b : Nat} (ha : a < 18446744073709551616) (hb : b < 18446744073709551616) :
    EVs (EV cfg) 103 [.int .u64 (a : Int), .int .u64 (b : Int)] = some (.tup [.int .u64 ((a * b / 18446744073709551616 : Nat) : Int), .int .u64 ((a * b % 18446744073709551616 : Nat) : Int)]) := by
  obtain ⟨h1, h2, h3, h4, h5, h6, h7, h8, h9⟩ := hi_parts ha hb
  have w0 : IntKind.wrap .u64 (((a % 4294967296 : Nat) : Int) * ((b % 4294967296 : Nat) : Int)) = ((a % 4294967296 * (b % 4294967296) : Nat) : Int) := wrapU' (Int.natCast_mul _ _).symm h1
  have w1 : IntKind.wrap .u64 (((a / 4294967296 : Nat) : Int) * ((b % 4294967296 : Nat) : Int)) = ((a / 4294967296 * (b % 4294967296) : Nat) : Int) := wrapU' (Int.natCast_mul _ _).symm h2
  have w2 : IntKind.wrap .u64 (((a % 4294967296 : Nat) : Int) * ((b / 4294967296 : Nat) : Int)) = ((a % 4294967296 * (b / 4294967296) : Nat) : Int) := wrapU' (Int.natCast_mul _ _).symm h3
  have w3 : IntKind.wrap .u64 (((a / 4294967296 : Nat) : Int) * ((b / 4294967296 : Nat) : Int)) = ((a / 4294967296 * (b / 4294967296) : Nat) : Int) := wrapU' (Int.natCast_mul _ _).symm h4
  have w4 : IntKind.wrap .u64 ((a : Int) * (b : Int)) = ((a * b % 18446744073709551616 : Nat) : Int) := by rw [← Int.natCast_mul, wrapU_mod]
  apply Gets.get
  refine mul64_run _ _ ?_
  rw [and_mask ha, shr_32 ha, and_mask hb, shr_32 hb]
  simp only [kOptSome, kInt_int, w0, w1, w2, w3, w4]
  rw [shr_32 h1]
  simp only [kOptSome, kInt_int]
  rw [wrapU' (Int.natCast_add _ _).symm h5, and_mask h5, shr_32 h5]
  simp only [kOptSome, kInt_int]
  rw [wrapU' (Int.natCast_add _ _).symm h6, shr_32 h6]
  simp only [kOptSome, kInt_int]
  rw [wrapU' (Int.natCast_add _ _).symm h7, wrapU' (Int.natCast_add _ _).symm (by rw [h8]; exact h9), h8]
  exact ⟨_, rfl, rfl⟩
theorem product_ok : ProductOk := by
  intro e a b ha hb
  obtain ⟨a1, a2⟩ := ha
  obtain ⟨b1, b2⟩ := hb
  -- what follows the two signs
  have fin : ∀ (x y : Nat) (sg : Int), x ≤ 576460752303423488 → y ≤ 576460752303423488 → (sg = 1 ∨ sg = -1) → a * b = sg * (x * y : Nat) →
      Gets (kOpt (EVs (EV cfg) 103 [.int .u64 (x : Int), .int .u64 (y : Int)]) fun (v : AV) => kTup v fun (cs : List AV) => kCons cs fun (c : AV) (cs : List AV) => kInt .u64 c fun (n : Int) => kCons cs fun (c : AV) (cs : List AV) => kInt .u64 c fun (n_1 : Int) => kNil cs (bif decide (n > (0 : Int)) then kOpt (EVd (EV cfg) 79 [.ptr 0 0 0] 7 (mR e false)) fun (q : AV × List (List AV)) => kTmV q.1 fun (n n_2 : Int) (s : List UInt8) (rows : List (List AV)) => (some (.agg [.int .i64 n, .int .i64 n_2, .str s, .sl rows], q.2)) else bif decide (n_1 > (576460752303423488 : Int)) then kOpt (EVd (EV cfg) 79 [.ptr 0 0 0] 7 (mR e false)) fun (q : AV × List (List AV)) => kTmV q.1 fun (n n_2 : Int) (s : List UInt8) (rows : List (List AV)) => (some (.agg [.int .i64 n, .int .i64 n_2, .str s, .sl rows], q.2)) else kOpt (EVd (EV cfg) 86 [.ptr 0 0 0, .int .i64 (IntKind.wrap .i64 (sg * IntKind.wrap .i64 n_1))] 7 (mR e false)) fun (q : AV × List (List AV)) => kTmV q.1 fun (n n_2 : Int) (s : List UInt8) (rows : List (List AV)) => (some (.agg [.int .i64 n, .int .i64 n_2, .str s, .sl rows], q.2)))) (Res e (withinG (a * b))) := by
    intro x y sg hx hy hsg hab
    rw [mul64_ev (by omega) (by omega)]
    simp only [kOptSome, kTup, kCons, kInt_int, kNil, mRaise_ev, kTmV_av, av_unf]
    have hbad : (x * y : Nat) > 576460752303423488 → withinG (a * b) = none := by
      intro h
      unfold withinG
      rw [if_neg]
      rintro ⟨h1, h2⟩
      rw [hab] at h1 h2
      rcases hsg with rfl | rfl <;> omega
    rw [hab] at hbad ⊢
    generalize x * y = p at *
    by_cases c1 : p / 18446744073709551616 > 0
    · rw [decide_eq_true (by omega), cond_true, hbad (by omega)]; exact ret_true
    · rw [decide_eq_false (by omega), cond_false]
      have ep : p % 18446744073709551616 = p := by omega
      rw [ep]
      by_cases c2 : p > 576460752303423488
      · rw [decide_eq_true (by omega), cond_true, hbad c2]; exact ret_true
      · rw [decide_eq_false (by omega), cond_false, wrap64 (x := (p : Int)) (by omega) (by omega)]
        have : IntKind.wrap .i64 (sg * (p : Int)) = sg * p := by rcases hsg with rfl | rfl <;> exact wrap64 (by omega) (by omega)
        rw [this]
        exact Gets.bind (mNumber_within e _ fun r h1 h2 => h1) fun r h => ret_res h (Res_tm h)
  have wneg : ∀ z : Int, -576460752303423488 ≤ z → z < 0 → IntKind.wrap .u64 (IntKind.wrap .i64 (0 - z)) = ((-z).toNat : Int) := by
    intro z h1 h2
    rw [wrap64 (by omega) (by omega)]
    exact wrapU' (by omega) (by omega)
  have wpos : ∀ z : Int, 0 ≤ z → z ≤ 576460752303423488 → IntKind.wrap .u64 z = (z.toNat : Int) := fun z h1 h2 => wrapU' (by omega) (by omega)
  refine mProduct_run _ _ _ _ _ _ _ _ _ ?_
  by_cases ca : a < 0
  · rw [decide_eq_true ca, cond_true]
    by_cases cb : b < 0
    · rw [decide_eq_true cb, cond_true, wneg a a1 ca, wneg b b1 cb]
      refine fin (-a).toNat (-b).toNat 1 (by omega) (by omega) (Or.inl rfl) ?_
      rw [Int.natCast_mul, Int.toNat_of_nonneg (by omega), Int.toNat_of_nonneg (by omega), Int.neg_mul_neg, Int.one_mul]
    · rw [decide_eq_false cb, cond_false, wneg a a1 ca, wpos b (by omega) (by omega)]
      refine fin (-a).toNat b.toNat (-1) (by omega) (by omega) (Or.inr rfl) ?_
      rw [Int.natCast_mul, Int.toNat_of_nonneg (by omega), Int.toNat_of_nonneg (by omega), Int.neg_mul, Int.one_mul, Int.neg_mul, Int.neg_neg]
  · rw [decide_eq_false ca, cond_false]
    by_cases cb : b < 0
    · rw [decide_eq_true cb, cond_true, wpos a (by omega) (by omega), wneg b b1 cb]
      refine fin a.toNat (-b).toNat (-1) (by omega) (by omega) (Or.inr rfl) ?_
      rw [Int.natCast_mul, Int.toNat_of_nonneg (by omega), Int.toNat_of_nonneg (by omega), Int.neg_mul, Int.one_mul, Int.mul_neg, Int.neg_neg]
    · rw [decide_eq_false cb, cond_false, wpos a (by omega) (by omega), wpos b (by omega) (by omega)]
      refine fin a.toNat b.toNat 1 (by omega) (by omega) (Or.inl rfl) ?_
      rw [Int.natCast_mul, Int.toNat_of_nonneg (by omega), Int.toNat_of_nonneg (by omega), Int.one_mul]
end Go.Proofs.Ytonmmmgffeoiiaa
end

section
namespace Go.Proofs.Ytonmmmgffeoiiaa
open Go.Av
set_option maxRecDepth 1000000
theorem specAwake_k6 : EVs (EV cfg) 64 [.agg [.int .i64 2, .int .i64 0, .str [36, 49], .sl []]] = some (.tup [.int .i64 1, .bool true]) := factS (.nil) 1000 1000 (by kernel_rfl)
theorem specAwake_k31 : EVf (EV cfg) 19 [] = some (.agg [.int .i64 9, .int .i64 0, .str [], .sl [[.int .i64 7, .int .i64 0, .str [], .sl [[.int .i64 7, .int .i64 0, .str [], .sl [[.int .i64 2, .int .i64 0, .str [36, 49], .sl []], [.int .i64 2, .int .i64 0, .str [36, 50], .sl []]]], [.int .i64 9, .int .i64 0, .str [], .sl [[.int .i64 7, .int .i64 0, .str [], .sl [[.int .i64 2, .int .i64 0, .str [62], .sl []], [.int .i64 2, .int .i64 0, .str [36, 50], .sl []], [.int .i64 1, .int .i64 1, .str [], .sl []]]], [.int .i64 8, .int .i64 0, .str [], .sl []]]], [.int .i64 9, .int .i64 0, .str [], .sl [[.int .i64 2, .int .i64 0, .str [36, 49], .sl []], [.int .i64 8, .int .i64 0, .str [], .sl []]]]]], [.int .i64 8, .int .i64 0, .str [], .sl []]]]) := factF (.nil) 1000 1000 (by kernel_rfl)
theorem specAwake_k32 : EVs (EV cfg) 35 [.agg [.int .i64 9, .int .i64 0, .str [], .sl [[.int .i64 7, .int .i64 0, .str [], .sl [[.int .i64 7, .int .i64 0, .str [], .sl [[.int .i64 2, .int .i64 0, .str [36, 49], .sl []], [.int .i64 2, .int .i64 0, .str [36, 50], .sl []]]], [.int .i64 9, .int .i64 0, .str [], .sl [[.int .i64 7, .int .i64 0, .str [], .sl [[.int .i64 2, .int .i64 0, .str [62], .sl []], [.int .i64 2, .int .i64 0, .str [36, 50], .sl []], [.int .i64 1, .int .i64 1, .str [], .sl []]]], [.int .i64 8, .int .i64 0, .str [], .sl []]]], [.int .i64 9, .int .i64 0, .str [], .sl [[.int .i64 2, .int .i64 0, .str [36, 49], .sl []], [.int .i64 8, .int .i64 0, .str [], .sl []]]]]], [.int .i64 8, .int .i64 0, .str [], .sl []]]]] = some (.int .i64 0) := factS (.nil) 1000 1000 (by kernel_rfl)
theorem specAwake_k33 : EVs (EV cfg) 35 [.agg [.int .i64 7, .int .i64 0, .str [], .sl [[.int .i64 2, .int .i64 0, .str [36, 49], .sl []], [.int .i64 2, .int .i64 0, .str [36, 50], .sl []]]]] = some (.int .i64 0) := factS (.nil) 1000 1000 (by kernel_rfl)
theorem specAwake_k34 : EVf (EV cfg) 57 [.agg [.int .i64 7, .int .i64 0, .str [], .sl [[.int .i64 2, .int .i64 0, .str [36, 49], .sl []], [.int .i64 2, .int .i64 0, .str [36, 50], .sl []]]]] = some (.sl [[.int .i64 1], [.int .i64 2]]) := factF (.consS specAwake_k33 (.nil)) 1000 1000 (by kernel_rfl)
theorem specAwake_k35 : EVs (EV cfg) 35 [.agg [.int .i64 7, .int .i64 0, .str [], .sl [[.int .i64 2, .int .i64 0, .str [62], .sl []], [.int .i64 2, .int .i64 0, .str [36, 50], .sl []], [.int .i64 1, .int .i64 1, .str [], .sl []]]]] = some (.int .i64 0) := factS (.nil) 1000 1000 (by kernel_rfl)
theorem specAwake_k36 : EVs (EV cfg) 64 [.agg [.int .i64 2, .int .i64 0, .str [36, 50], .sl []]] = some (.tup [.int .i64 2, .bool true]) := factS (.nil) 1000 1000 (by kernel_rfl)
theorem specAwake_k37 : EVs (EV cfg) 67 [.agg [.int .i64 7, .int .i64 0, .str [], .sl [[.int .i64 2, .int .i64 0, .str [62], .sl []], [.int .i64 2, .int .i64 0, .str [36, 50], .sl []], [.int .i64 1, .int .i64 1, .str [], .sl []]]], .sl [[.int .i64 1], [.int .i64 2]]] = some (.bool true) := factS (.consS specAwake_k36 (.nil)) 1000 1000 (by kernel_rfl)
theorem specAwake_k38 : EVf (EV cfg) 42 [.agg [.int .i64 7, .int .i64 0, .str [], .sl [[.int .i64 7, .int .i64 0, .str [], .sl [[.int .i64 2, .int .i64 0, .str [36, 49], .sl []], [.int .i64 2, .int .i64 0, .str [36, 50], .sl []]]], [.int .i64 9, .int .i64 0, .str [], .sl [[.int .i64 7, .int .i64 0, .str [], .sl [[.int .i64 2, .int .i64 0, .str [62], .sl []], [.int .i64 2, .int .i64 0, .str [36, 50], .sl []], [.int .i64 1, .int .i64 1, .str [], .sl []]]], [.int .i64 8, .int .i64 0, .str [], .sl []]]], [.int .i64 9, .int .i64 0, .str [], .sl [[.int .i64 2, .int .i64 0, .str [36, 49], .sl []], [.int .i64 8, .int .i64 0, .str [], .sl []]]]]]] = some (.tup [.agg [.int .i64 7, .int .i64 0, .str [], .sl [[.int .i64 2, .int .i64 0, .str [36, 49], .sl []], [.int .i64 2, .int .i64 0, .str [36, 50], .sl []]], .sl [[.int .i64 7, .int .i64 0, .str [], .sl [[.int .i64 2, .int .i64 0, .str [62], .sl []], [.int .i64 2, .int .i64 0, .str [36, 50], .sl []], [.int .i64 1, .int .i64 1, .str [], .sl []]]]], .sl [[.int .i64 2, .int .i64 0, .str [36, 49], .sl []]]], .bool true]) := factF (.consF specAwake_k34 (.consS specAwake_k35 (.consS specAwake_k37 (.consS specAwake_k6 (.nil))))) 1000 1000 (by kernel_rfl)
theorem specAwake_k39 : EVs (EV cfg) 35 [.agg [.int .i64 7, .int .i64 0, .str [], .sl [[.int .i64 2, .int .i64 0, .str [107], .sl []], [.int .i64 1, .int .i64 1, .str [], .sl []]]]] = some (.int .i64 0) := factS (.nil) 1000 1000 (by kernel_rfl)
theorem specAwake_k40 : EVf (EV cfg) 25 [.agg [.int .i64 7, .int .i64 0, .str [], .sl [[.int .i64 2, .int .i64 0, .str [36, 49], .sl []], [.int .i64 2, .int .i64 0, .str [36, 50], .sl []]]], .agg [.int .i64 7, .int .i64 0, .str [], .sl [[.int .i64 2, .int .i64 0, .str [107], .sl []], [.int .i64 1, .int .i64 1, .str [], .sl []]]], .sl []] = some (.tup [.sl [[.int .i64 1, .int .i64 2, .int .i64 0, .str [107], .sl []], [.int .i64 2, .int .i64 1, .int .i64 1, .str [], .sl []]], .bool true]) := factF (.consS specAwake_k33 (.consS specAwake_k39 (.nil))) 1000 1000 (by kernel_rfl)
theorem specAwake_k41 : EVf (EV cfg) 62 [.agg [.int .i64 7, .int .i64 0, .str [], .sl [[.int .i64 2, .int .i64 0, .str [107], .sl []], [.int .i64 1, .int .i64 1, .str [], .sl []]], .sl [[.int .i64 1, .int .i64 2, .int .i64 0, .str [107], .sl []], [.int .i64 2, .int .i64 1, .int .i64 1, .str [], .sl []]], .int .i64 1]] = some (.tup [.sl [[.int .i64 1], [.int .i64 2]], .bool true]) := factF (.consS specAwake_k39 (.nil)) 1000 1000 (by kernel_rfl)
theorem specAwake_k42 : EVf (EV cfg) 69 [.sl [[.int .i64 1, .int .i64 2, .int .i64 0, .str [107], .sl []], [.int .i64 2, .int .i64 1, .int .i64 1, .str [], .sl []]], .int .i64 2] = some (.tup [.agg [.int .i64 1, .int .i64 1, .str [], .sl []], .bool true]) := factF (.nil) 1000 1000 (by kernel_rfl)
theorem specAwake_k43 : EVf (EV cfg) 50 [.agg [.int .i64 7, .int .i64 0, .str [], .sl [[.int .i64 2, .int .i64 0, .str [62], .sl []], [.int .i64 2, .int .i64 0, .str [36, 50], .sl []], [.int .i64 1, .int .i64 1, .str [], .sl []]]], .agg [.int .i64 7, .int .i64 0, .str [], .sl [[.int .i64 2, .int .i64 0, .str [107], .sl []], [.int .i64 1, .int .i64 1, .str [], .sl []]], .sl [[.int .i64 1, .int .i64 2, .int .i64 0, .str [107], .sl []], [.int .i64 2, .int .i64 1, .int .i64 1, .str [], .sl []]], .int .i64 1]] = some (.tup [.agg [.int .i64 2, .int .i64 0, .str [102, 97, 108, 115, 101], .sl []], .int .i64 0]) := factF (.consF specAwake_k41 (.consS specAwake_k35 (.consS specAwake_k37 (.consS specAwake_k36 (.consF specAwake_k42 (.nil)))))) 1000 1000 (by kernel_rfl)
theorem specAwake_k44 : EVf (EV cfg) 9 [.agg [.int .i64 9, .int .i64 0, .str [], .sl [[.int .i64 7, .int .i64 0, .str [], .sl [[.int .i64 7, .int .i64 0, .str [], .sl [[.int .i64 2, .int .i64 0, .str [36, 49], .sl []], [.int .i64 2, .int .i64 0, .str [36, 50], .sl []]]], [.int .i64 9, .int .i64 0, .str [], .sl [[.int .i64 7, .int .i64 0, .str [], .sl [[.int .i64 2, .int .i64 0, .str [62], .sl []], [.int .i64 2, .int .i64 0, .str [36, 50], .sl []], [.int .i64 1, .int .i64 1, .str [], .sl []]]], [.int .i64 8, .int .i64 0, .str [], .sl []]]], [.int .i64 9, .int .i64 0, .str [], .sl [[.int .i64 2, .int .i64 0, .str [36, 49], .sl []], [.int .i64 8, .int .i64 0, .str [], .sl []]]]]], [.int .i64 8, .int .i64 0, .str [], .sl []]]], .agg [.int .i64 7, .int .i64 0, .str [], .sl [[.int .i64 2, .int .i64 0, .str [107], .sl []], [.int .i64 1, .int .i64 1, .str [], .sl []]]], .int .i64 1] = some (.tup [.agg [.int .i64 0, .int .i64 0, .str [], .sl []], .bool false, .int .i64 0]) := factF (.consS specAwake_k32 (.consF specAwake_k38 (.consS specAwake_k39 (.consF specAwake_k40 (.consF specAwake_k41 (.consF specAwake_k43 (.nil))))))) 1000 1000 (by kernel_rfl)
theorem specAwake_k45 : EVs (EV cfg) 35 [.agg [.int .i64 7, .int .i64 0, .str [], .sl [[.int .i64 2, .int .i64 0, .str [107], .sl []], [.int .i64 1, .int .i64 3, .str [], .sl []]]]] = some (.int .i64 0) := factS (.nil) 1000 1000 (by kernel_rfl)
theorem specAwake_k46 : EVf (EV cfg) 25 [.agg [.int .i64 7, .int .i64 0, .str [], .sl [[.int .i64 2, .int .i64 0, .str [36, 49], .sl []], [.int .i64 2, .int .i64 0, .str [36, 50], .sl []]]], .agg [.int .i64 7, .int .i64 0, .str [], .sl [[.int .i64 2, .int .i64 0, .str [107], .sl []], [.int .i64 1, .int .i64 3, .str [], .sl []]]], .sl []] = some (.tup [.sl [[.int .i64 1, .int .i64 2, .int .i64 0, .str [107], .sl []], [.int .i64 2, .int .i64 1, .int .i64 3, .str [], .sl []]], .bool true]) := factF (.consS specAwake_k33 (.consS specAwake_k45 (.nil))) 1000 1000 (by kernel_rfl)
theorem specAwake_k47 : EVf (EV cfg) 62 [.agg [.int .i64 7, .int .i64 0, .str [], .sl [[.int .i64 2, .int .i64 0, .str [107], .sl []], [.int .i64 1, .int .i64 3, .str [], .sl []]], .sl [[.int .i64 1, .int .i64 2, .int .i64 0, .str [107], .sl []], [.int .i64 2, .int .i64 1, .int .i64 3, .str [], .sl []]], .int .i64 1]] = some (.tup [.sl [[.int .i64 1], [.int .i64 2]], .bool true]) := factF (.consS specAwake_k45 (.nil)) 1000 1000 (by kernel_rfl)
theorem specAwake_k48 : EVf (EV cfg) 69 [.sl [[.int .i64 1, .int .i64 2, .int .i64 0, .str [107], .sl []], [.int .i64 2, .int .i64 1, .int .i64 3, .str [], .sl []]], .int .i64 2] = some (.tup [.agg [.int .i64 1, .int .i64 3, .str [], .sl []], .bool true]) := factF (.nil) 1000 1000 (by kernel_rfl)
theorem specAwake_k49 : EVf (EV cfg) 50 [.agg [.int .i64 7, .int .i64 0, .str [], .sl [[.int .i64 2, .int .i64 0, .str [62], .sl []], [.int .i64 2, .int .i64 0, .str [36, 50], .sl []], [.int .i64 1, .int .i64 1, .str [], .sl []]]], .agg [.int .i64 7, .int .i64 0, .str [], .sl [[.int .i64 2, .int .i64 0, .str [107], .sl []], [.int .i64 1, .int .i64 3, .str [], .sl []]], .sl [[.int .i64 1, .int .i64 2, .int .i64 0, .str [107], .sl []], [.int .i64 2, .int .i64 1, .int .i64 3, .str [], .sl []]], .int .i64 1]] = some (.tup [.agg [.int .i64 2, .int .i64 0, .str [116, 114, 117, 101], .sl []], .int .i64 0]) := factF (.consF specAwake_k47 (.consS specAwake_k35 (.consS specAwake_k37 (.consS specAwake_k36 (.consF specAwake_k48 (.nil)))))) 1000 1000 (by kernel_rfl)
theorem specAwake_k50 : EVf (EV cfg) 69 [.sl [[.int .i64 1, .int .i64 2, .int .i64 0, .str [107], .sl []], [.int .i64 2, .int .i64 1, .int .i64 3, .str [], .sl []]], .int .i64 1] = some (.tup [.agg [.int .i64 2, .int .i64 0, .str [107], .sl []], .bool true]) := factF (.nil) 1000 1000 (by kernel_rfl)
theorem specAwake_k51 : EVf (EV cfg) 50 [.agg [.int .i64 2, .int .i64 0, .str [36, 49], .sl []], .agg [.int .i64 7, .int .i64 0, .str [], .sl [[.int .i64 2, .int .i64 0, .str [107], .sl []], [.int .i64 1, .int .i64 3, .str [], .sl []]], .sl [[.int .i64 1, .int .i64 2, .int .i64 0, .str [107], .sl []], [.int .i64 2, .int .i64 1, .int .i64 3, .str [], .sl []]], .int .i64 1]] = some (.tup [.agg [.int .i64 2, .int .i64 0, .str [107], .sl []], .int .i64 0]) := factF (.consF specAwake_k47 (.consS specAwake_k6 (.consF specAwake_k50 (.nil)))) 1000 1000 (by kernel_rfl)
theorem specAwake_k52 : EVf (EV cfg) 24 [.agg [.int .i64 9, .int .i64 0, .str [], .sl [[.int .i64 7, .int .i64 0, .str [], .sl [[.int .i64 7, .int .i64 0, .str [], .sl [[.int .i64 2, .int .i64 0, .str [36, 49], .sl []], [.int .i64 2, .int .i64 0, .str [36, 50], .sl []]]], [.int .i64 9, .int .i64 0, .str [], .sl [[.int .i64 7, .int .i64 0, .str [], .sl [[.int .i64 2, .int .i64 0, .str [62], .sl []], [.int .i64 2, .int .i64 0, .str [36, 50], .sl []], [.int .i64 1, .int .i64 1, .str [], .sl []]]], [.int .i64 8, .int .i64 0, .str [], .sl []]]], [.int .i64 9, .int .i64 0, .str [], .sl [[.int .i64 2, .int .i64 0, .str [36, 49], .sl []], [.int .i64 8, .int .i64 0, .str [], .sl []]]]]], [.int .i64 8, .int .i64 0, .str [], .sl []]]], .agg [.int .i64 7, .int .i64 0, .str [], .sl [[.int .i64 2, .int .i64 0, .str [107], .sl []], [.int .i64 1, .int .i64 3, .str [], .sl []]]], .int .i64 1] = some (.tup [.int .i64 1, .agg [.int .i64 2, .int .i64 0, .str [107], .sl []], .int .i64 0]) := factF (.consS specAwake_k32 (.consF specAwake_k38 (.consS specAwake_k45 (.consF specAwake_k46 (.consF specAwake_k47 (.consF specAwake_k49 (.consF specAwake_k51 (.nil)))))))) 1000 1000 (by kernel_rfl)
theorem specAwake_k53 : EVs (EV cfg) 6 [] = some (.bool true) := factS (.consF specAwake_k31 (.consF specAwake_k44 (.consS specAwake_k32 (.consF specAwake_k38 (.consF specAwake_k52 (.nil)))))) 1000 1000 (by kernel_rfl)
end Go.Proofs.Ytonmmmgffeoiiaa
end

section
namespace Go.Proofs.Ytonmmmgffeoiiaa
open Go.Av
set_option maxRecDepth 100000
set_option maxHeartbeats 0

noncomputable def Ll7_0 : Den := evC cfg (EV cfg) 7 none 0 (sub (bodyOf Try.f7) [1, 0, 1, 0, 0])
noncomputable def Al7_0 : Ex × List AV × AH → Option AV := kAft (Cfg.keepOut cfg 7 2) (kRun cfg (EV cfg) (kfN cfg 6) 7 none 0 (kFinS cfg (Cfg.lift cfg 7 0) Try.f7.results.toList) ([.block 0, .seq (sub (bodyOf Try.f7) [1, 1])]))
noncomputable def Wl7_0 : List AV × AH → Option AV := fun p => kOpt (LOOP 0 (some [0, 3]) ([]) Ll7_0 p) Al7_0
noncomputable abbrev wl7_0 (L : List (List AV)) (v3 : Int) : Option (AV) := Wl7_0  (((fx 15 [(0, AV.sl L), (3, AV.int IntKind.i64 v3)]) : List AV), ([] : AH))
theorem large18_run (L : List (List AV)) {P : AV → Prop} (h : Gets (wl7_0 L (0 : Int)) P) : Gets (EVs (EV cfg) 7 ([AV.sl L] : List AV)) P :=
  Gets.ev (fun _ h => funS rfl rfl Try.func7 rfl h) (Gets.eq (by kernel_rfl) h)
theorem wl7_0_step (L : List (List AV)) (v3 : Int) {P : AV → Prop} (h : Gets (bif decide (v3 < (↑(List.length L) : Int)) then bif leInt (0 : Int) v3 && ltInt v3 (↑(List.length L) : Int) then kOpt (List.get?Internal L (Int.toNat v3)) fun (row : List AV) => bif 
  Nat.beq (List.length row) 4 then bif Nat.ble 4 (List.length row) then kTmC (List.take 4 row) fun (n n_1 : Int) (s : List UInt8) (rows : List (List AV)) => (kOpt (EVs (EV cfg) 12 [.agg 
  [AV.int .i64 n, .int .i64 n_1, .str s, .sl rows], .int .i64 (400 : Int)]) fun (v : AV) => kBool v fun (b : Bool) => bif b then some (.bool true) else wl7_0 L (IntKind.wrap .i64 (v3 + 
  (1 : Int)))) else none else none else none else some (.bool false)) P) : Gets (wl7_0 L v3) P :=
  Gets.ev (fun _ h => loop_step (cfg := cfg) (f := 7) (rd := none) (bs := 0) h) (Gets.eq (by kernel_rfl) h)
end Go.Proofs.Ytonmmmgffeoiiaa
end

section
namespace Go.Proofs.Ytonmmmgffeoiiaa
open Go.Av
set_option maxRecDepth 100000
set_option maxHeartbeats 0

noncomputable def Lq67_0 : Den := evC cfg (EV cfg) 26 none 0 (sub (bodyOf Try.f26) [1, 1, 0, 1, 0, 0])
noncomputable def Aq67_0 : Ex × List AV × AH → Option AV := kAft (Cfg.keepOut cfg 26 4) (kRun cfg (EV cfg) (kfN cfg 6) 26 none 0 (kFinS cfg (Cfg.lift cfg 26 0) Try.f26.results.toList) ([.block 0, .seq (sub (bodyOf Try.f26) [1, 1, 1])]))
noncomputable def Wq67_0 : List AV × AH → Option AV := fun p => kOpt (LOOP 0 (some [0, 1, 5]) ([]) Lq67_0 p) Aq67_0
noncomputable abbrev wq67_0 (A : List (List AV)) (B : List (List AV)) (v5 : Int) : Option (AV) := Wq67_0  (((fx 27 [(0, AV.sl A), (1, AV.sl B), (5, AV.int IntKind.i64 v5)]) : List AV), ([] : AH))
theorem tenurekit_SameTerm_run (ka : Int) (na : Int) (sa : List UInt8) (la : List (List AV)) (kb : Int) (nb : Int) (sb : List UInt8) (lb : List (List AV)) {P : AV → Prop} (h : Gets (bif ka == kb then bif na == nb then bif sa == sb then kOpt (EVs (EV cfg) 26 [.sl la, .sl lb]) fun (v : AV) => kBool v fun (b : Bool) => some (.bool b) else some (.bool false) else some 
  (.bool false) else some (.bool false)) P) : Gets (EVs (EV cfg) 11 ([AV.agg [AV.int IntKind.i64 ka, AV.int IntKind.i64 na, AV.str sa, AV.sl la], AV.agg [AV.int IntKind.i64 kb, AV.int IntKind.i64 nb, AV.str sb, AV.sl lb]] : List AV)) P :=
  Gets.ev (fun _ h => funS rfl rfl Try.func11 rfl h) (Gets.eq (by kernel_rfl) h)
theorem tenurekit_SameTerms_run (A : List (List AV)) (B : List (List AV)) {P : AV → Prop} (h : Gets (bif (↑(List.length A) : Int) != (↑(List.length B) : Int) then some (.bool false) else wq67_0 A B (0 : Int)) P) : Gets (EVs (EV cfg) 26 ([AV.sl A, AV.sl B] : List AV)) P :=
  Gets.ev (fun _ h => funS rfl rfl Try.func26 rfl h) (Gets.eq (by kernel_rfl) h)
theorem wq67_0_step (A : List (List AV)) (B : List (List AV)) (v5 : Int) {P : AV → Prop} (h : Gets (bif decide (v5 < (↑(List.length A) : Int)) then bif leInt (0 : Int) v5 && ltInt v5 (↑(List.length A) : Int) then kOpt (List.get?Internal A (Int.toNat v5)) fun (row : List AV) => bif 
  Nat.beq (List.length row) 4 then bif Nat.ble 4 (List.length row) then kTmC (List.take 4 row) fun (n n_1 : Int) (s : List UInt8) (rows : List (List AV)) => (bif leInt (0 : Int) v5 && 
  ltInt v5 (↑(List.length B) : Int) then kOpt (List.get?Internal B (Int.toNat v5)) fun (row : List AV) => bif Nat.beq (List.length row) 4 then bif Nat.ble 4 (List.length row) then kTmC 
  (List.take 4 row) fun (n_2 n_3 : Int) (s_1 : List UInt8) (rows_1 : List (List AV)) => (kOpt (EVs (EV cfg) 11 [.agg [.int .i64 n, .int .i64 n_1, .str s, .sl rows], .agg [.int .i64 n_2, 
  .int .i64 n_3, .str s_1, .sl rows_1]]) fun (v : AV) => kBool v fun (b : Bool) => bif !b then some (.bool false) else wq67_0 A B (IntKind.wrap .i64 (v5 + (1 : Int)))) else none else 
  none else none) else none else none else none else some (.bool true)) P) : Gets (wq67_0 A B v5) P :=
  Gets.ev (fun _ h => loop_step (cfg := cfg) (f := 26) (rd := none) (bs := 0) h) (Gets.eq (by kernel_rfl) h)
end Go.Proofs.Ytonmmmgffeoiiaa
end

section
namespace Go.Proofs.Ytonmmmgffeoiiaa
open Go.Av
theorem sameL_of (la lb : List Tm) (hlen : la.length < 1099511627776) (ih : ∀ a ∈ la, ∀ b, Gets (EVs (EV cfg) 11 [a.av, b.av]) (Tells (a = b))) : Gets (EVs (EV cfg) 26 [.sl (rowsT la), .sl (rowsT lb)]) (Tells (la = lb)) := by
  have loop : la.length = lb.length → ∀ (d i : Nat), i + d = la.length → la.take i = lb.take i → Gets (wq67_0 (rowsT la) (rowsT lb) i) (Tells (la = lb)) := by
    intro hl d
    induction d with
    | zero =>
      intro i hi ht
      refine wq67_0_step _ _ _ ?_
      rw [List.take_of_length_le (by omega), List.take_of_length_le (by omega)] at ht
      have h1 : ¬ i < la.length := by omega
      simp [h1, tells_bool]
      exact ht
    | succ d ihd =>
      intro i hi ht
      refine wq67_0_step _ _ _ ?_
      have hlt1 : i < la.length := by omega
      have hlt2 : i < lb.length := by omega
      have hx : la[i]? = some la[i] := List.getElem?_eq_getElem hlt1
      have hy : lb[i]? = some lb[i] := List.getElem?_eq_getElem hlt2
      have hix := ih la[i] (List.mem_of_getElem? hx) lb[i]
      have hta : la.take (i + 1) = la.take i ++ [la[i]] := by rw [List.take_add_one, hx]; rfl
      have htb : lb.take (i + 1) = lb.take i ++ [lb[i]] := by rw [List.take_add_one, hy]; rfl
      have hih := ihd (i + 1) (by omega)
      have hne : la[i] ≠ lb[i] → la ≠ lb := by intro h e; subst e; exact h rfl
      rw [hta, htb, ht] at hih
      rw [wrap_succ (n := la.length) (by omega) hlen]
      simp [hlt1, hlt2, hx, hy]
      refine Gets.bind hix ?_
      rintro _ ⟨b, rfl, hb⟩
      cases b with
      | true => simp; exact hih (by rw [hb.1 rfl])
      | false =>
        have : la ≠ lb := hne (fun e => by cases hb.2 e)
        simp [tells_bool, this]
  refine tenurekit_SameTerms_run _ _ ?_
  by_cases hl : la.length = lb.length
  · simp [hl]
    exact loop hl la.length 0 (by omega) (by simp)
  · have : la ≠ lb := fun e => hl (by rw [e])
    have hl' : ¬ ((la.length : Int) = lb.length) := by omega
    simp [bneD, hl', tells_bool, this]
theorem sameT_ev (a : Tm) : a.Ok → ∀ b : Tm, Gets (EVs (EV cfg) 11 [a.av, b.av]) (Tells (a = b)) := by
  induction a using Tm.ind with
  | _ k n s l ih =>
    intro hok b
    obtain ⟨k', n', s', l'⟩ := b
    have hl := sameL_of l l' hok.len (fun a ha b => ih a ha (hok.sub ha) b)
    rw [Tm.av_mk, Tm.av_mk]
    refine tenurekit_SameTerm_run _ _ _ _ _ _ _ _ ?_
    by_cases h1 : k = k'
    · by_cases h2 : n = n'
      · by_cases h3 : s = s'
        · subst h1 h2 h3
          simp
          refine Gets.bind hl ?_
          rintro _ ⟨b, rfl, hb⟩
          simp [tells_bool, hb]
        · simp [h1, h2, beqD, h3, tells_bool]
      · simp [h1, beqD, h2, tells_bool]
    · simp [beqD, h1, tells_bool]
theorem sameT_dec {a b : Tm} (h : a.Ok) {c : Bool} (hc : c = true ↔ a = b) : EVs (EV cfg) 11 [a.av, b.av] = some (.bool c) := by
  obtain ⟨_, h1, b', rfl, h2⟩ := sameT_ev a h b
  rw [h1]
  have : b' = c := by rw [Bool.eq_iff_iff]; exact h2.trans hc.symm
  rw [this]
end Go.Proofs.Ytonmmmgffeoiiaa
end

section
namespace Go.Av
theorem clT_w (c : Cl) : (clT c).w ≤ 3 + c.head.w + (c.gs.length + wL c.gs) + (c.bs.length + wL c.bs) := by
  have h1 := listT_w c.gs
  have h2 := listT_w c.bs
  have : (clT c).w = 1 + (c.head.w + ((listT c.gs).w + ((listT c.bs).w + 0))) := by
    rw [Tm.w_eq]
    show 1 + 0 + wL [c.head, listT c.gs, listT c.bs] = _
    simp only [wL_cons, wL_nil]
  omega
theorem sel1_w (c : Cl) : (selT [c]).w ≤ 5 + c.head.w + (c.gs.length + wL c.gs) + (c.bs.length + wL c.bs) := by
  have h1 := listT_w [clT c]
  have h2 := clT_w c
  simp only [List.length_cons, List.length_nil, wL_cons, wL_nil] at h1
  show (listT [clT c]).w ≤ _
  omega
theorem kRunR {α : Type} (t : Tm) (b : Bool) (x : Int) (K : Int → Int → List UInt8 → List (List AV) → Bool → Int → Option α) : (kTup (.tup [t.av, .bool b, .int .i64 x]) fun cs => kCons cs fun c cs => kAgg c fun cs_1 => kCons cs_1 fun c cs_2 => kInt .i64 c fun n => kCons cs_2 fun c cs_3 => kInt .i64 c fun n_1 => kCons cs_3 fun c cs_4 => kStr c fun s => kCons cs_4 fun c cs_5 => kSl c fun rows => kNil cs_5 (kCons cs fun c cs => kBool c fun b => kCons cs fun c cs => kInt .i64 c fun m => kNil cs (K n n_1 s rows b m))) = K t.kind t.num t.str (rowsT t.subs) b x := by
  obtain ⟨k, n, s, l⟩ := t
  rw [Tm.av_mk]; rfl
theorem okT_w {t : Tm} (h : t.w ≤ 1048576) : t.Ok := ok_of_w t (by omega)
end Go.Av
namespace Go.Proofs.Ytonmmmgffeoiiaa
open Go.Av
set_option maxRecDepth 100000
def LargeP (l : List Tm) (v : AV) : Prop := ∃ b : Bool, v = .bool b ∧ (b = false → ∀ x ∈ l, x.w ≤ 40400 ∧ x.words ≤ 800)
theorem large18_ev {l : List Tm} (hl : OkL l) (hlen : l.length < 1099511627776) : Gets (EVs (EV cfg) 7 [.sl (rowsT l)]) (LargeP l) := by
  have loop : ∀ (d i : Nat), i + d = l.length → (∀ x ∈ l.take i, x.w ≤ 40400 ∧ x.words ≤ 800) → Gets (wl7_0 (rowsT l) i) (LargeP l) := by
    intro d
    induction d with
    | zero =>
      intro i hi hx
      refine wl7_0_step _ _ ?_
      rw [rowsT_length, decide_eq_false (by omega)]
      rw [List.take_of_length_le (by omega)] at hx
      exact ⟨_, rfl, _, rfl, fun _ => hx⟩
    | succ d ihd =>
      intro i hi hx
      refine wl7_0_step _ _ ?_
      have hil : i < l.length := by omega
      have hxi : l[i]? = some l[i] := List.getElem?_eq_getElem hil
      have hb := bigV_ev (hl.get (List.mem_of_getElem? hxi)) (most := 400) (by omega) (by omega)
      rw [wrap_succ hil hlen]
      simp [hil, hxi]
      refine Gets.bind hb ?_
      rintro _ ⟨b, rfl, hbw⟩
      cases b with
      | true => exact ⟨_, rfl, _, rfl, fun h => by cases h⟩
      | false =>
        have := hbw rfl
        have hg := ihd (i + 1) (by omega) (fun x hxx => by
          rw [List.take_add_one, hxi, Option.toList_some, List.mem_append] at hxx
          rcases hxx with h | h
          · exact hx x h
          · simp at h; subst h; omega)
        simpa using hg
  exact large18_run _ (loop l.length 0 (by omega) (by simp))
theorem rows2 (p o : Tm) : ([[AV.int .i64 p.kind, .int .i64 p.num, .str p.str, .sl (rowsT p.subs)], [AV.int .i64 o.kind, .int .i64 o.num, .str o.str, .sl (rowsT o.subs)]] : List (List AV)) = rowsT [p, o] := by
  rw [rowsT_cons, rowsT_cons, rowsT_nil, Tm.cells_eq, Tm.cells_eq]
end Go.Proofs.Ytonmmmgffeoiiaa
end

section
namespace Go.Av
theorem kSlIntR {α : Type} (r : List (List AV)) (x : Int) (K : List (List AV) → Int → Option α) : (kTup (.tup [.sl r, .int .i64 x]) fun cs => kCons cs fun c cs => kSl c fun rows => kCons cs fun c cs => kInt .i64 c fun n => kNil cs (K rows n)) = K r x := rfl
theorem bodyG_ok (e : Env) : ∀ (l : List Tm) (out : Tm), out.Ok → (bodyG e out l).Ok
  | [], out, h => h
  | x :: l, out, h => by
    rw [bodyG]
    split
    · exact bodyG_ok e l _ (evalG_ok e x)
    · exact ok_of_w _ (by decide)
theorem zeroT_ok : zeroT.Ok := ok_of_w _ (by decide)
theorem tellG_ok {c : Cl} {o x : Tm} {self : Int} (h : tellG c o self = some x) : x.Ok := by
  unfold tellG at h
  cases hm : matchG c.head o with
  | none => rw [hm] at h; cases h
  | some b =>
    rw [hm] at h
    simp only [] at h
    split at h
    · cases h; exact bodyG_ok _ _ _ zeroT_ok
    · cases h
theorem SelOk.w {cs : List Cl} (h : SelOk cs) : (selT cs).w ≤ 4259840 := w_chk h.chk
theorem clsG_both {t : Tm} (h : (clsG t).2 = 0) : ∃ l, t = selT l ∧ SelOk l ∧ clsG t = (l, 0) := by
  obtain ⟨h1, h2⟩ := clsG_back h
  refine ⟨(clsG t).1, h1.symm, h2, ?_⟩
  rw [← h]
end Go.Av
namespace Go.Proofs.Ytonmmmgffeoiiaa
open Go.Av
set_option maxRecDepth 100000
end Go.Proofs.Ytonmmmgffeoiiaa
end

section
namespace Go.Proofs.Ytonmmmgffeoiiaa
open Go.Av
theorem kitA_ev (s : List UInt8) : EVf (EV cfg) 15 [.str s] = some (symT s).av := by
  apply Gets.get
  refine kitA_run _ ?_
  rw [symT_av]; simp
end Go.Proofs.Ytonmmmgffeoiiaa
end
