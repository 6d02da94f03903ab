/-
  Parts of the proof of CodeTextsUptoCardSaid, put together: the abstract evaluation and its contracts. Own work.
  What is proved: each lemma as it stands; no condition.
-/
import Derived.Test.YtnjonahoheopnaaGreatDoorZCodeTextsM4
open Bool renaming and_eq_true → qqi, false_eq_true → qqq, not_eq_true → qqK
open List renaming getElem?_eq_some_iff → qqj, getElem?_eq_getElem → qqm, length → qqp, length_cons → qqr, getElem?_append_left → qqs, getElem?_set → qqu, length_append → qqv, getElem?_append_right → qqw, mem_of_getElem? → qqx, get?Internal → qqy, length_nil → qqA, append → qqE, getElem?_cons_succ → qqF, replicate → qqG, mem_cons → qqH, mem_append → qqI, take → qqM, append_eq → qqO
open Option renaming bind_eq_some_iff → qqk, map_eq_some_iff → qql, bind_some → qqt, map_some → qqD
open Nat renaming eq_of_beq_eq_true → qqn, le_refl → qqo, beq → qqz, ble → qqB, mul_le_mul_right → qqC, blt_eq → qqL
open Array renaming getElem?_toList → qqJ
open Int renaming toNat → qqN
set_option maxRecDepth 1000000
set_option maxHeartbeats 0
section
namespace Go.Proofs.YtnjonahoheopnaaGreatDoor
open Go.Av
theorem qqf {n : Int} (h0 : -576460752303423488 ≤ n) (h1 : n ≤ 576460752303423487) : EVs (EV cfg) 73 [.int .i64 n] = some (.str (vC n)) := by
 by_cases hn : 0 ≤ n
 ·exact qo6 hn h1
 ·have hn : n < 0 := by omega
  obtain ⟨m, hm⟩ := Int.eq_ofNat_of_zero_le (show 0 ≤ -n by omega)
  apply Gets.get
  refine qha _ ?_
  have e : IntKind.wrap .i64 ((0 : Int) - n) = (m : Int) := by rw [vZ (by omega) (by omega)]; omega
  have hl : (Go.Lib.decDigits m).length ≤ 21 := by
   have := xV (m : Int)
   rw [qa3 (by omega) (by omega)] at this
   unfold Go.Lib.itoa at this
   rw [if_neg (by omega)] at this
   simpa using this
  rw [decide_eq_true hn, e]
  simp only [cond_true]
  rw [qkU m (by omega)]
  simp only [qa, qd]
  rw [qm (by omega)]
  simp only [cond_true, qa, qd, qW]
  rw [qa3 (by omega) (by omega)]
  unfold Go.Lib.itoa
  rw [if_pos hn, show n.natAbs = m by omega]
def Ok5 (t : Tm) : Prop := 290 * t.words + 40 ≤ 10000000000000 → EVs (EV cfg) 74 [t.av] = some (.str (qK t))
def qoO (t : Tm) : Prop := ∀ (k n : Int) (s : List UInt8) (l : List Tm), t = .mk k n s l → ∀ b : List UInt8, b.length + 290 * t.words + 60 ≤ 10000000000000 →
 Gets (qdV b k n s (qh l)) (fun r => r = .str (b ++ yo t))
theorem qj5 (k0 n0 : Int) (s0 : List UInt8) (l : List Tm) (hl : ∀ t ∈ l, Ok5 t) (hle : l.length < 1099511627776) (hp : ∀ t ∈ l, (qK t).length ≤ 290 * t.words) : ∀ (k i : Nat) (b : List UInt8), l.length - i = k → i ≤ l.length → b.length + 290 * qp (l.drop i) + (l.length - i) + 50 ≤ 10000000000000 →
  Gets (qdW b (i : Int) k0 n0 s0 (qh l)) (fun r => r = .str (b ++ comL ((qG (l.drop i)).map (·.1)) ++ [62])) := by
 intro k
 induction k with
 | zero =>
  intro i b hk hi hb
  refine qc3 _ _ _ _ _ _ ?_
  unfold zb1
  have : i = l.length := by omega
  subst this
  rw [qy, decide_eq_false (show ¬ ((l.length : Int) < (l.length : Int)) by omega)]
  simp only [cond_false]
  rw [qm (by omega)]
  simp [qG, comL]
 | succ k ih =>
  intro i b hk hi hb
  refine qc3 _ _ _ _ _ _ ?_
  unfold zb1
  have hlt : i < l.length := by omega
  obtain ⟨t, ht⟩ : ∃ t, l[i]? = some t := ⟨l[i], qqm hlt⟩
  have htm := qqx ht
  have hdrop : l.drop i = t :: l.drop (i + 1) := by
   rw [List.drop_eq_getElem_cons hlt]
   rw [qqm hlt] at ht
   cases ht; rfl
  rw [hdrop] at hb ⊢
  rw [qp] at hb
  rw [qy, decide_eq_true (show (i : Int) < (l.length : Int) by omega), qP, xU, decide_eq_true hlt]
  rw [qm (show b.length + 1 ≤ 9223372036854775807 by omega)]
  simp only [cond_true, Bool.and_true, qa, qd]
  rw [ze ht]
  obtain ⟨kt, nt, st, lt⟩ := t
  rw [Tm.cells_mk]
  simp only [qqr, qqA, show qqz (0 + 1 + 1 + 1 + 1) 4 = true from rfl, show qqB 4 (0 + 1 + 1 + 1 + 1) = true from rfl, cond_true, qqM, kTmC, qE, qq, qd, zz, qV]
  have h1 := hl _ htm (by omega)
  have h2 := hp _ htm
  rw [← Tm.av_mk, h1]
  simp only [qa, qd, q9 hlt hle, qqO]
  have hx : (b ++ [44]).length + (qK (.mk kt nt st lt)).length ≤ 9223372036854775807 := by simp only [qqv, qqr, qqA]; omega
  rw [qm hx]
  simp only [cond_true, qa, qd]
  refine (ih (i + 1) _ (by omega) hlt (by simp only [qqv, qqr, qqA]; omega)).mono fun r hr => ?_
  rw [hr]
  simp [qG, comL, qK]
theorem qng (l : List Tm) (hl : ∀ t ∈ l, Ok5 t) (hle : l.length < 1099511627776) (hp : ∀ t ∈ l, (qK t).length ≤ 290 * t.words) : ∀ (k i : Nat) (b : List UInt8), l.length - i = k → i ≤ l.length → b.length + 290 * qp (l.drop i) + (l.length - i) + 50 ≤ 10000000000000 →
  Gets (qcj (qh l) b (i : Int)) (fun r => r = .str (b ++ (if i = 0 then sepL else comL) ((qG (l.drop i)).map (·.1)))) := by
 intro k
 induction k with
 | zero =>
  intro i b hk hi hb
  refine qcO _ _ _ ?_
  unfold zb6 zb7 zb8 zb9 zb10 zb11
  have : i = l.length := by omega
  subst this
  rw [qy, decide_eq_false (show ¬ ((l.length : Int) < (l.length : Int)) by omega)]
  simp only [cond_false, qW, List.drop_length, qG, List.map_nil]
  split <;> simp [comL, sepL]
 | succ k ih =>
  intro i b hk hi hb
  refine qcO _ _ _ ?_
  unfold zb6 zb7 zb8 zb9 zb10 zb11
  have hlt : i < l.length := by omega
  obtain ⟨t, ht⟩ : ∃ t, l[i]? = some t := ⟨l[i], qqm hlt⟩
  have htm := qqx ht
  have hdrop : l.drop i = t :: l.drop (i + 1) := by
   rw [List.drop_eq_getElem_cons hlt]
   rw [qqm hlt] at ht
   cases ht; rfl
  rw [hdrop] at hb ⊢
  rw [qp] at hb
  rw [qy, decide_eq_true (show (i : Int) < (l.length : Int) by omega), qP, xU, decide_eq_true hlt]
  obtain ⟨kt, nt, st, lt⟩ := t
  have h1 := hl _ htm (by omega)
  have h2 := hp _ htm
  simp only [cond_true, Bool.and_true]
  by_cases h0 : i = 0
  ·subst h0
   rw [decide_eq_false (show ¬ (((0 : Nat) : Int) > 0) by omega)]
   simp only [cond_false]
   rw [ze ht, Tm.cells_mk]
   simp only [qqr, qqA, show qqz (0 + 1 + 1 + 1 + 1) 4 = true from rfl, show qqB 4 (0 + 1 + 1 + 1 + 1) = true from rfl, cond_true, qqM, kTmC, qE, qq, qd, zz, qV]
   rw [← Tm.av_mk, h1]
   simp only [qa, qd, q9 hlt hle, qqO]
   rw [qm (show b.length + (qK (.mk kt nt st lt)).length ≤ 9223372036854775807 by omega)]
   simp only [cond_true, qa, qd]
   refine (ih (0 + 1) _ (by omega) hlt (by simp only [qqv, qqr, qqA]; omega)).mono fun r hr => ?_
   rw [hr]
   simp [qG, sepL, qK]
  ·rw [decide_eq_true (show ((i : Int) > 0) by omega), qm (show b.length + 1 ≤ 9223372036854775807 by omega)]
   simp only [cond_true, qa, qd]
   rw [ze ht, Tm.cells_mk]
   simp only [qqr, qqA, show qqz (0 + 1 + 1 + 1 + 1) 4 = true from rfl, show qqB 4 (0 + 1 + 1 + 1 + 1) = true from rfl, cond_true, qqM, kTmC, qE, qq, qd, zz, qV]
   rw [← Tm.av_mk, h1]
   simp only [qa, qd, q9 hlt hle, qqO]
   have hx : (b ++ [44]).length + (qK (.mk kt nt st lt)).length ≤ 9223372036854775807 := by simp only [qqv, qqr, qqA]; omega
   rw [qm hx]
   simp only [cond_true, qa, qd]
   refine (ih (i + 1) _ (by omega) hlt (by simp only [qqv, qqr, qqA]; omega)).mono fun r hr => ?_
   rw [hr, if_neg h0, if_neg (by omega)]
   simp [qG, comL, qK]
theorem qk9 (t : Tm) : t.parts = true → Ok5 t ∧ qoO t := by
 induction t using Tm.ind with
 | _ k n s l ih =>
  intro hp
  have hp0 := hp
  rw [Tm.parts, qqi] at hp
  obtain ⟨a1, a2⟩ := hp
  have a3 : ∀ t ∈ l, t.parts = true := by
   clear ih a1 hp0
   induction l with
   | nil => simp
   | cons x l ih => simp only [qR, qqi] at a2; intro t ht; rcases qqH.1 ht with rfl | ht; exact a2.1; exact ih a2.2 t ht
  have i1 : ∀ t ∈ l, Ok5 t := fun t ht => (ih t ht (a3 t ht)).1
  have i2 : ∀ t ∈ l, qoO t := fun t ht => (ih t ht (a3 t ht)).2
  have i3 : ∀ t ∈ l, (qK t).length ≤ 290 * t.words := fun t ht => (zM t (a3 t ht)).1
  have hw : (Tm.mk k n s l).words = (Tm.mk k n s l).own + qp l := by rw [Tm.words]
  have ho := (Tm.mk k n s l).own_le
  have hn := qhb a1
  have hi := xV n
  have P : Ok5 (.mk k n s l) := by
   intro hb
   rw [hw] at hb
   apply Gets.get
   rw [Tm.av_mk]
   refine qk4 _ _ _ _ ?_
   unfold zb0 zb1
   rw [qqf (by omega) (by omega)]
   unfold qK
   rw [yK]
   unfold mkP
   simp only [qa, qd]
   by_cases k1 : k = 1
   ·subst k1
    simp
   have b1 : (k == 1) = false := by simpa using k1
   by_cases k2 : k = 2
   ·subst k2
    simp [q7] at a1
    simp only [b1, cond_false, beq_self_eq_true, cond_true, qmL s (by omega), qa, qY, qlr s (by omega), qd]
    cases qaf s <;> simp
   have b2 : (k == 2) = false := by simpa using k2
   by_cases k3 : k = 3
   ·subst k3
    simp only [b1, b2, cond_false, beq_self_eq_true, cond_true]
    rw [qm (show 5 + (vC n).length ≤ 9223372036854775807 by omega)]
    simp only [cond_true, qa, qd, qqr]
    rw [qm (by omega)]
    simp
   have b3 : (k == 3) = false := by simpa using k3
   by_cases k4 : k = 4
   ·subst k4
    simp only [b1, b2, b3, cond_false, beq_self_eq_true, cond_true]
    rw [qm (show 5 + (vC n).length ≤ 9223372036854775807 by omega)]
    simp only [cond_true, qa, qd, qqr]
    rw [qm (by omega)]
    simp
   have b4 : (k == 4) = false := by simpa using k4
   by_cases k6 : k = 6
   ·subst k6
    simp only [b1, b2, b3, b4, cond_false, beq_self_eq_true, cond_true]
    rw [qm (show 3 + (vC n).length ≤ 9223372036854775807 by omega)]
    simp only [cond_true, qa, qd, qqr]
    rw [qm (by omega)]
    simp
   have b6 : (k == 6) = false := by simpa using k6
   by_cases k5 : k = 5
   ·subst k5
    have how : (Tm.mk 5 n s l).own = 2 := by simp [Tm.own, Tm.kind]
    simp [q7] at a1
    simp only [b1, b2, b3, b4, b6, cond_false, beq_self_eq_true, cond_true]
    rw [qm (show 5 + (vC n).length ≤ 9223372036854775807 by omega)]
    simp only [cond_true, qa, qd]
    refine (qj5 _ _ _ l i1 (by omega) i3 _ 0 _ rfl (by omega) (by simp; omega)).mono fun r hr => ?_
    rw [hr]
    simp
   have b5 : (k == 5) = false := by simpa using k5
   by_cases k7 : k = 7
   ·subst k7
    have how : (Tm.mk 7 n s l).own = 2 := by simp [Tm.own, Tm.kind]
    simp [q7] at a1
    have hcl := qcK l i3
    have hsl := qeM ((qG l).map (·.1))
    simp only [b1, b2, b3, b4, b5, b6, cond_false, beq_self_eq_true, cond_true]
    have hall : EVs (EV cfg) 122 [.sl (qh l)] = some (.str (sepL ((qG l).map (·.1)))) := by
     apply Gets.get
     refine qmn _ ?_
     refine (qng l i1 (by omega) i3 _ 0 _ rfl (by omega) (by simp; omega)).mono fun r hr => ?_
     rw [hr]
     simp
    rw [hall]
    simp only [qa, qd]
    rw [qm (show 1 + (sepL ((qG l).map (·.1))).length ≤ 9223372036854775807 by omega)]
    simp only [cond_true, qa, qd, qqr]
    rw [qm (by omega)]
    simp
   have b7 : (k == 7) = false := by simpa using k7
   by_cases k8 : k = 8
   ·subst k8
    simp
   have b8 : (k == 8) = false := by simpa using k8
   by_cases k9 : k = 9
   ·subst k9
    simp [q7] at a1
    match l, a1.2.2, i1, i2, i3, hb with
    | [a, d], _, i1, i2, i3, hb =>
     simp only [qp] at hb
     obtain ⟨ka, na, sa, la⟩ := a
     obtain ⟨kd, nd, sd, ld⟩ := d
     simp only [b1, b2, b3, b4, b5, b6, b7, b8, cond_false]
     have r0 : (qh [Tm.mk ka na sa la, Tm.mk kd nd sd ld]) = [(Tm.mk ka na sa la).cells, (Tm.mk kd nd sd ld).cells] := by rw [vA, vA, xr]
     have q1 := i3 (.mk ka na sa la) (List.mem_cons_self ..)
     have e1 := i1 (.mk ka na sa la) (by simp) (by omega)
     rw [Tm.av_mk] at e1
     rw [r0, Tm.cells_mk, Tm.cells_mk]
     simp only [qqr, qqA, show qz 0 (((0 + 1 + 1 : Nat)) : Int) = true from rfl, show qz 1 (((0 + 1 + 1 : Nat)) : Int) = true from rfl, cond_true, qB, List.getElem?_cons_zero, qqF, qa, show qqz (0 + 1 + 1 + 1 + 1) 4 = true from rfl, show qqB 4 (0 + 1 + 1 + 1 + 1) = true from rfl, qqM, kTmC, qE, qq, qd, zz, qV, e1]
     rw [qm (show 1 + (qK (.mk ka na sa la)).length ≤ 9223372036854775807 by omega)]
     simp only [cond_true, qa, qd]
     refine (i2 (.mk kd nd sd ld) (by simp) kd nd sd ld rfl _ (by simp; omega)).mono fun r hr => ?_
     rw [hr]
     simp [qG, qK, yo]
   ·simp [q7, k1, k2, k3, k4, k5, k6, k7, k8, k9] at a1
  refine ⟨P, ?_⟩
  intro k' n' s' l' ht b hb
  cases ht
  refine qh6 _ _ _ _ _ ?_
  unfold zb12
  unfold yo
  rw [yK]
  by_cases k9 : k = 9
  ·subst k9
   rw [hw] at hb
   simp [q7] at a1
   match l, a1.2.2, i1, i2, i3, hb with
   | [a, d], _, i1, i2, i3, hb =>
    simp only [qp] at hb
    obtain ⟨ka, na, sa, la⟩ := a
    obtain ⟨kd, nd, sd, ld⟩ := d
    simp only [beq_self_eq_true, cond_true]
    rw [qm (show b.length + 1 ≤ 9223372036854775807 by omega)]
    have r0 : (qh [Tm.mk ka na sa la, Tm.mk kd nd sd ld]) = [(Tm.mk ka na sa la).cells, (Tm.mk kd nd sd ld).cells] := by rw [vA, vA, xr]
    have q1 := i3 (.mk ka na sa la) (List.mem_cons_self ..)
    have e1 := i1 (.mk ka na sa la) (by simp) (by omega)
    rw [Tm.av_mk] at e1
    rw [r0, Tm.cells_mk, Tm.cells_mk]
    simp only [qqr, qqA, show qz 0 (((0 + 1 + 1 : Nat)) : Int) = true from rfl, show qz 1 (((0 + 1 + 1 : Nat)) : Int) = true from rfl, cond_true, qB, List.getElem?_cons_zero, qqF, qa, show qqz (0 + 1 + 1 + 1 + 1) 4 = true from rfl, show qqB 4 (0 + 1 + 1 + 1 + 1) = true from rfl, qqM, kTmC, qE, qq, qd, zz, qV, e1, qqO]
    have hx : (b ++ [44]).length + (qK (.mk ka na sa la)).length ≤ 9223372036854775807 := by simp only [qqv, qqr, qqA]; omega
    rw [qm hx]
    simp only [cond_true, qa, qd]
    refine (i2 (.mk kd nd sd ld) (by simp) kd nd sd ld rfl _ (by simp; omega)).mono fun r hr => ?_
    rw [hr]
    simp [mkP, qG, qK, yo]
  ·have b9 : (k == 9) = false := by simpa using k9
   simp only [b9, cond_false]
   rw [qm (show b.length + 1 ≤ 9223372036854775807 by omega)]
   by_cases k8 : k = 8
   ·subst k8
    simp [mkP]
   ·have b8 : (k == 8) = false := by simpa using k8
    have e1 := P (by omega)
    have q1 := (zM _ hp0).1
    rw [Tm.av_mk] at e1
    simp only [b8, cond_false, cond_true, qa, qd, e1, qqO]
    rw [qm (by simp only [qqv, qqr, qqA]; omega)]
    simp only [cond_true, qa, qd]
    rw [qm (by simp only [qqv, qqr, qqA]; omega)]
    simp only [cond_true, qa, qd, qW]
    unfold qK
    rw [yK]
    simp [mkP, k9, k8]
noncomputable def qpT : Den := evC cfg (EV cfg) 127 none 0 (sub (qn Tryz.f127) [1, 1, 0, 1, 0, 0])
noncomputable def qpZ : Ex × List AV × AH → Option AV := kAft (Cfg.keepOut cfg 127 4) (kRun cfg (EV cfg) (kfN cfg 6) 127 none 0 (x7 cfg (Cfg.lift cfg 127 0) Tryz.f127.results.toList) ([.block 0, .seq (sub (qn Tryz.f127) [1, 1, 1])]))
noncomputable def qpP : List AV × AH → Option AV := fun p => kOpt (LOOP 0 (some [1, 3]) ([]) qpT p) qpZ
noncomputable def qpS : Den := evC cfg (EV cfg) 128 none 0 (sub (qn Tryz.f128) [1, 1, 1, 0, 1, 0, 1, 0, 0])
noncomputable def qpY : Ex × List AV × AH → Option AV := kAft (Cfg.keepOut cfg 128 6) (kRun cfg (EV cfg) (kfN cfg 6) 128 none 0 (x7 cfg (Cfg.lift cfg 128 0) Tryz.f128.results.toList) ([.block 0, .seq (sub (qn Tryz.f128) [1, 1, 1, 1])]))
noncomputable def qpO : List AV × AH → Option AV := fun p => kOpt (LOOP 0 (some [1, 3, 4]) ([]) qpS p) qpY
noncomputable abbrev qfg (v3 c0_0 c0_1 : Int) (c0_2 : Bz) (c0_3 : Rz) : Option (AV) := qpP  (((fx 21 [(1, .ptr 0 0 0), (3, .int .i64 v3)]) : List AV), ([.rows false 4 [[.int .i64 c0_0, .int .i64 c0_1, .str c0_2, .sl c0_3]]] : AH))
noncomputable abbrev ye (v3 v4 c0_0 c0_1 : Int) (c0_2 : Bz) (c0_3 : Rz) : Option (AV) := qpO  (((fx 42 [(1, .ptr 0 0 0), (3, .int .i64 v3), (4, .int .i64 v4)]) : List AV), ([.rows false 4 [[.int .i64 c0_0, .int .i64 c0_1, .str c0_2, .sl c0_3]]] : AH))
theorem qiE (kt nt : Int) (st : Bz) (lt : Rz) {P : AV → Prop} (h : Gets (kOpt (EVs (EV cfg) 127 [.agg [.int .i64 kt, .int .i64 nt, .str st, .sl lt]]) fun v => q6 v fun b => bif ! b then some (.int .i64 2) else kOpt (EVs (EV cfg) 128 [.agg [.int .i64 kt, .int .i64 nt, .str st, .sl lt]]) fun v => kInt .i64 v fun n => bif decide (n > 65536) then some (.int .i64 3) else some (.int .i64 0)) P) : Gets (EVs (EV cfg) 87 [.agg [.int .i64 kt, .int .i64 nt, .str st, .sl lt]]) P :=
  gE (fun _ => funS rfl rfl Tryz.func87 rfl) (by kernel_rfl) h
noncomputable abbrev zf0 (st : Bz) (lt : Rz) : Option (AV) := bif st == [] then some (.bool ((lt.length : Int) == 0)) else some (.bool false)
noncomputable abbrev zf1 (nt : Int) (st : Bz) (lt : Rz) : Option (AV) := kOpt (EVs (EV cfg) 186 [.int .i64 nt]) fun v => q6 v fun b => bif b then zf0 st lt else some (.bool false)
theorem qlq (kt nt : Int) (st : Bz) (lt : Rz) {P : AV → Prop} (h : Gets (bif kt == 1 then bif decide (nt ≥ (- 576460752303423488)) then bif decide (nt ≤ 576460752303423487) then zf0 st lt else some (.bool false) else some (.bool false) else bif kt == 2 then bif nt == 0 then bif decide ((st.length : Int) ≤ 64) then some (.bool ((lt.length : Int) == 0)) else some (.bool false) else some (.bool false) else bif kt == 3 then zf1 nt st lt else bif kt == 4 then kOpt (EVs (EV cfg) 186 [.int .i64 nt]) fun v => q6 v fun b => bif b then bif st == [] then some (.bool ((lt.length : Int) == (0 : Int))) else some (.bool false) else some (.bool false) else bif kt == 6 then zf1 nt st lt else bif kt == 5 then kOpt (EVs (EV cfg) 186 [.int .i64 nt]) fun v => q6 v fun b => bif b then bif st == [] then some (.bool (decide ((lt.length : Int) ≤ 64))) else some (.bool false) else some (.bool false) else bif kt == 7 then bif nt == 0 then bif st == [] then some (.bool (decide ((lt.length : Int) ≤ 64))) else some (.bool false) else some (.bool false) else bif kt == 8 then bif nt == 0 then zf0 st lt else some (.bool false) else bif kt == 9 then bif nt == 0 then bif st == [] then some (.bool ((lt.length : Int) == 2)) else some (.bool false) else some (.bool false) else some (.bool false)) P) : Gets (EVs (EV cfg) 161 [.agg [.int .i64 kt, .int .i64 nt, .str st, .sl lt]]) P :=
  gE (fun _ => funS rfl rfl Tryz.func161 rfl) (by kernel_rfl) h
theorem qiD (kt nt : Int) (st : Bz) (lt : Rz) {P : AV → Prop} (h : Gets (kOpt (EVs (EV cfg) 161 [.agg [.int .i64 kt, .int .i64 nt, .str st, .sl lt]]) fun v => q6 v fun b => bif ! b then some (.bool false) else qfg 0 kt nt st lt) P) : Gets (EVs (EV cfg) 127 [.agg [.int .i64 kt, .int .i64 nt, .str st, .sl lt]]) P :=
  gE (fun _ => funS rfl rfl Tryz.func127 rfl) (by kernel_rfl) h
theorem qiC (kt nt : Int) (st : Bz) (lt : Rz) {P : AV → Prop} (h : Gets (bif kt == 5 then bif kt == 5 then ye 2 0 kt nt st lt else bif kt == 7 then ye 2 0 kt nt st lt else bif kt == 9 then ye 2 0 kt nt st lt else some (.int .i64 2) else bif kt == 7 then bif kt == 5 then ye 2 0 kt nt st lt else bif kt == 7 then ye 2 0 kt nt st lt else bif kt == 9 then ye 2 0 kt nt st lt else some (.int .i64 2) else bif kt == 5 then ye 1 0 kt nt st lt else bif kt == 7 then ye 1 0 kt nt st lt else bif kt == 9 then ye 1 0 kt nt st lt else some (.int .i64 1)) P) : Gets (EVs (EV cfg) 128 [.agg [.int .i64 kt, .int .i64 nt, .str st, .sl lt]]) P :=
  gE (fun _ => funS rfl rfl Tryz.func128 rfl) (by kernel_rfl) h
theorem qel (v3 c0_0 c0_1 : Int) (c0_2 : Bz) (c0_3 : Rz) {P : AV → Prop} (h : Gets (bif decide (v3 < (c0_3.length : Int)) then bif qg 0 v3 && qz v3 (c0_3.length : Int) then kOpt (qqy c0_3 (v3.toNat)) fun row => bif qqz (qqp row) 4 then bif qqB 4 (qqp row) then kTmC (qqM 4 row) fun n n_1 s rows => (kOpt (EVs (EV cfg) 127 [.agg [.int .i64 n, .int .i64 n_1, .str s, .sl rows]]) fun v => q6 v fun b => bif ! b then some (.bool false) else qfg (IntKind.wrap .i64 (v3 + 1)) c0_0 c0_1 c0_2 c0_3) else none else none else none else some (.bool true)) P) : Gets (qfg v3 c0_0 c0_1 c0_2 c0_3) P :=
  gE (fun _ => qS (cfg := cfg) (f := 127) (rd := none) (bs := 0)) (by kernel_rfl) h
theorem qek (v3 v4 c0_0 c0_1 : Int) (c0_2 : Bz) (c0_3 : Rz) {P : AV → Prop} (h : Gets (bif decide (v4 < (c0_3.length : Int)) then bif qg 0 v4 && qz v4 (c0_3.length : Int) then kOpt (qqy c0_3 (v4.toNat)) fun row => bif qqz (qqp row) 4 then bif qqB 4 (qqp row) then kTmC (qqM 4 row) fun n n_1 s rows => (kOpt (EVs (EV cfg) 128 [.agg [.int .i64 n, .int .i64 n_1, .str s, .sl rows]]) fun v => kInt .i64 v fun n => ye (IntKind.wrap .i64 (v3 + n)) (IntKind.wrap .i64 (v4 + 1)) c0_0 c0_1 c0_2 c0_3) else none else none else none else some (.int .i64 v3)) P) : Gets (ye v3 v4 c0_0 c0_1 c0_2 c0_3) P :=
  gE (fun _ => qS (cfg := cfg) (f := 128) (rd := none) (bs := 0)) (by kernel_rfl) h
theorem qfC (n : Int) {P : AV → Prop} (h : Gets (bif decide (n ≥ 0) then some (.bool (decide (n ≤ 1073741824))) else some (.bool false)) P) : Gets (EVs (EV cfg) 186 [.int .i64 n]) P :=
  gE (fun _ => funS rfl rfl Tryz.func186 rfl) (by kernel_rfl) h
end Go.Proofs.YtnjonahoheopnaaGreatDoor
end
section
namespace Go.Av
def InB (a : Int) : Prop := -576460752303423488 ≤ a ∧ a ≤ 576460752303423487
instance (a : Int) : Decidable (InB a) := inferInstanceAs (Decidable (_ ∧ _))
structure Env where
 obj : Tm
 binds : List (Int × Tm)
 self : Int
theorem Tm.Ok.subs {t : Tm} (h : t.Ok) {x : Tm} (hx : x ∈ t.subs) : x.Ok := by
 obtain ⟨k, n, s, l⟩ := t
 exact h.sub hx
def qnm (p : Nat → Bool) (r : List AV) : Prop := ∃ (lo hi : Nat) (l : List AV), r = .int .u64 lo :: .int .u64 hi :: l ∧ lo < 18446744073709551616 ∧ hi < 18446744073709551616 ∧ (∀ n, n < 64 → lo.testBit n = p n) ∧ ∀ n, n < 64 → hi.testBit n = p (n + 64)
theorem qmx {r cs : List AV} {o k : Nat} (hc : cs.length = 4) (h : o + 4 ≤ r.length) (hk : k < o ∨ o + 4 ≤ k) : (qqE (qqE (r.take o) cs) (r.drop (o + 4)))[k]? = r[k]? := by
 show ((r.take o ++ cs) ++ r.drop (o + 4))[k]? = r[k]?
 have hl : (r.take o).length = o := by simp; omega
 rcases hk with hk | hk
 ·rw [qqs (by simp; omega), qqs (by omega), List.getElem?_take, if_pos hk]
 ·rw [qqw (by simp; omega), List.getElem?_drop]
  congr 1
  simp [hc]
  omega
theorem qmw {r cs : List AV} {o : Nat} (hc : cs.length = 4) (h : o + 4 ≤ r.length) : (qqE (qqE (r.take o) cs) (r.drop (o + 4))).length = r.length := by
 show ((r.take o ++ cs) ++ r.drop (o + 4)).length = r.length
 simp [hc]; omega
theorem qlc {r cs : List AV} {o : Nat} (hc : cs.length = 4) (h : o + 4 ≤ r.length) : ((qqE (qqE (r.take o) cs) (r.drop (o + 4))).drop o).take 4 = cs := by
 show (((r.take o ++ cs) ++ r.drop (o + 4)).drop o).take 4 = cs
 have hl : (r.take o).length = o := by simp; omega
 rw [List.append_assoc, List.drop_append_of_le_length (by omega), List.drop_of_length_le (by omega), List.nil_append, List.take_append_of_le_length (by omega), List.take_of_length_le (by omega)]
theorem qjS {r cs : List AV} {o o' : Nat} (hc : cs.length = 4) (h : o + 4 ≤ r.length) (hd : o' + 4 ≤ o ∨ o + 4 ≤ o') : ((qqE (qqE (r.take o) cs) (r.drop (o + 4))).drop o').take 4 = (r.drop o').take 4 := by
 apply List.ext_getElem?
 intro j
 by_cases hj : j < 4
 ·rw [List.getElem?_take, List.getElem?_take, if_pos hj, if_pos hj, List.getElem?_drop, List.getElem?_drop, qmx hc h (by omega)]
 ·rw [List.getElem?_take, List.getElem?_take, if_neg hj, if_neg hj]
def yp (n : Int) : List (Int × Tm) → Option Tm
 | [] => none
 | p :: l => if p.1 = n then some p.2 else yp n l
structure BRow (m : List (Int × Tm)) (r : List AV) : Prop where
 len : r.length = 402
 set : qnm (fun i => (yp i m).isSome) r
 cells : ∀ i : Nat, i < 100 → ∀ t, yp i m = some t → (r.drop (2 + i * 4)).take 4 = t.cells
 free : qk 0 r = true
theorem qcs (n : Int) (p : Int × Tm) : ∀ m : List (Int × Tm), yp n (m ++ [p]) = match yp n m with | some t => some t | none => if p.1 = n then some p.2 else none
 | [] => by simp [yp]
 | q :: m => by
  rw [List.cons_append, yp, yp]
  by_cases h : q.1 = n
  ·rw [if_pos h, if_pos h]
  ·rw [if_neg h, if_neg h]; exact qcs n p m
theorem BRow.add {m : List (Int × Tm)} {r r' : List AV} {n : Nat} {t : Tm} (h : BRow m r) (hn : n < 100) (hnew : yp n m = none)
  (h1 : qnm (fun i => (fun i : Nat => (yp i m).isSome) i || decide (i = n)) r') (h2 : r'.drop 2 = r.drop 2) (h3 : r'.length = r.length) (h4 : qk 0 r = true → qk 0 r' = true) :
  BRow (m ++ [((n : Int), t)]) (qqE (qqE (r'.take (2 + n * 4)) t.cells) (r'.drop (2 + n * 4 + 4))) := by
 have hl : r'.length = 402 := by rw [h3, h.len]
 have hc : t.cells.length = 4 := zx t
 have ho : 2 + n * 4 + 4 ≤ r'.length := by omega
 have hd : ∀ j, (r'.drop (2 + j)) = r.drop (2 + j) := by
  intro j
  rw [← List.drop_drop, ← List.drop_drop, h2]
 refine ⟨by rw [qmw hc ho, hl], ?_, fun i hi t' ht' => ?_, ?_⟩
 ·obtain ⟨lo, hi, l, rfl, a1, a2, a3, a4⟩ := h1
  obtain ⟨o, ho'⟩ : ∃ o, 2 + n * 4 = o + 2 := ⟨n * 4, by omega⟩
  have lk : ∀ i : Nat, (yp i (m ++ [((n : Int), t)])).isSome = ((yp i m).isSome || decide (i = n)) := by
   intro i
   rw [qcs]
   cases hx : yp (i : Int) m with
   | some x => rfl
   | none =>
    by_cases hi : i = n
    ·subst hi; simp
    ·have : ¬ ((n : Int) = (i : Int)) := by omega
     simp [this, hi]
  refine ⟨lo, hi, (l.take o ++ t.cells) ++ l.drop (o + 4), ?_, a1, a2, fun i hi => ?_, fun i hi => ?_⟩
  ·rw [ho']; rfl
  ·exact (a3 i hi).trans (lk i).symm
  ·exact (a4 i hi).trans (lk (i + 64)).symm
 ·rw [qcs] at ht'
  by_cases hin : i = n
  ·subst hin
   rw [hnew] at ht'
   simp at ht'
   subst ht'
   exact qlc hc ho
  ·cases hx : yp (i : Int) m with
   | none =>
    rw [hx] at ht'
    have : ¬ ((n : Int) = (i : Int)) := by omega
    simp [this] at ht'
   | some x =>
    rw [hx] at ht'
    cases ht'
    rw [qjS hc ho (by omega), hd]
    exact h.cells i hi _ hx
 ·show qk 0 ((r'.take (2 + n * 4) ++ t.cells) ++ r'.drop (2 + n * 4 + 4)) = true
  have hf := h4 h.free
  exact yV (yV (qdg hf) (qgt t)) (qdh hf)
end Go.Av
end
section
namespace Go.Proofs.YtnjonahoheopnaaGreatDoor
open Go.Av
noncomputable def qpV : Den := evC cfg (EV cfg) 86 none 0 (sub (qn Tryz.f86) [1, 1, 1, 0, 1, 0, 0])
noncomputable def qp1 : Ex × List AV × AH → Option AV := kAft (Cfg.keepOut cfg 86 5) (kRun cfg (EV cfg) (kfN cfg 6) 86 none 0 (x7 cfg (Cfg.lift cfg 86 0) Tryz.f86.results.toList) ([.block 0, .seq (sub (qn Tryz.f86) [1, 1, 1, 1])]))
noncomputable def qpR : List AV × AH → Option AV := fun p => kOpt (LOOP 0 (some [1, 2, 5, 6]) ([]) qpV p) qp1
noncomputable abbrev qfj (most v5 v6 c0_0 c0_1 : Int) (c0_2 : Bz) (c0_3 : Rz) : Option (AV) := qpR  (((fx 43 [(1, .int .i64 most), (2, .ptr 0 0 0), (5, .int .i64 v5), (6, .int .i64 v6)]) : List AV), ([.rows false 4 [[.int .i64 c0_0, .int .i64 c0_1, .str c0_2, .sl c0_3]]] : AH))
theorem qlB (kt nt : Int) (st : Bz) (lt : Rz) (most : Int) {P : AV → Prop} (h : Gets (kOpt (EVs (EV cfg) 86 [.agg [.int .i64 kt, .int .i64 nt, .str st, .sl lt], .int .i64 (IntKind.wrap .i64 (most + 1))]) fun v => kInt .i64 v fun n => some (.bool (decide (n > most)))) P) : Gets (EVs (EV cfg) 39 [.agg [.int .i64 kt, .int .i64 nt, .str st, .sl lt], .int .i64 most]) P :=
  gE (fun _ => funS rfl rfl Tryz.func39 rfl) (by kernel_rfl) h
theorem qke (kt nt : Int) (st : Bz) (lt : Rz) (most : Int) {P : AV → Prop} (h : Gets (bif decide ((st.length : Int) > 100) then some (.int .i64 most) else bif decide ((lt.length : Int) > most) then some (.int .i64 most) else qfj most 1 0 kt nt st lt) P) : Gets (EVs (EV cfg) 86 [.agg [.int .i64 kt, .int .i64 nt, .str st, .sl lt], .int .i64 most]) P :=
  gE (fun _ => funS rfl rfl Tryz.func86 rfl) (by kernel_rfl) h
theorem qem (most v5 v6 c0_0 c0_1 : Int) (c0_2 : Bz) (c0_3 : Rz) {P : AV → Prop} (h : Gets (bif decide (v6 < (c0_3.length : Int)) then bif decide (v5 < most) then bif qg 0 v6 && qz v6 (c0_3.length : Int) then kOpt (qqy c0_3 (qqN v6)) fun row => bif qqz (qqp row) 4 then bif qqB 4 (qqp row) then kTmC (qqM 4 row) fun n n_1 s rows => (kOpt (EVs (EV cfg) 86 [.agg [.int .i64 n, .int .i64 n_1, .str s, .sl rows], .int .i64 (IntKind.wrap .i64 (most - v5))]) fun v => kInt .i64 v fun n => qfj most (IntKind.wrap .i64 (v5 + n)) (IntKind.wrap .i64 (v6 + 1)) c0_0 c0_1 c0_2 c0_3) else none else none else none else some (.int .i64 v5) else some (.int .i64 v5)) P) : Gets (qfj most v5 v6 c0_0 c0_1 c0_2 c0_3) P :=
  gE (fun _ => qS (cfg := cfg) (f := 86) (rd := none) (bs := 0)) (by kernel_rfl) h
theorem qgQ (n : Int) : EVs (EV cfg) 186 [.int .i64 n] = some (.bool (decide (0 ≤ n) && decide (n ≤ 1073741824))) := by
 apply Gets.get
 refine qfC _ ?_
 by_cases h : 0 ≤ n <;> simp [h]
theorem qmH (t : Tm) : EVs (EV cfg) 161 [t.av] = some (.bool t.sound) := by
 obtain ⟨k, n, s, l⟩ := t
 apply Gets.get
 rw [Tm.av_mk]
 refine qlq _ _ _ _ ?_
 unfold zf1 zf0
 simp only [Tm.sound, Tm.kind_mk, Tm.num_mk, Tm.str_mk, Tm.subs_mk, qy, beqI, qnb, q7, qgQ, qa, qY]
 by_cases h1 : k = 1
 ·subst h1; simp [qQ] <;> (try rw [Bool.eq_iff_iff]) <;> (try simp) <;> first | omega | grind
 by_cases h2 : k = 2
 ·subst h2; simp [qQ] <;> (try rw [Bool.eq_iff_iff]) <;> (try simp) <;> first | omega | grind
 by_cases h3 : k = 3
 ·subst h3; simp [qQ] <;> (try rw [Bool.eq_iff_iff]) <;> (try simp) <;> first | omega | grind
 by_cases h4 : k = 4
 ·subst h4; simp [qQ] <;> (try rw [Bool.eq_iff_iff]) <;> (try simp) <;> first | omega | grind
 by_cases h6 : k = 6
 ·subst h6; simp [qQ] <;> (try rw [Bool.eq_iff_iff]) <;> (try simp) <;> first | omega | grind
 by_cases h5 : k = 5
 ·subst h5; simp [qQ] <;> (try rw [Bool.eq_iff_iff]) <;> (try simp) <;> first | omega | grind
 by_cases h7 : k = 7
 ·subst h7; simp [qQ] <;> (try rw [Bool.eq_iff_iff]) <;> (try simp) <;> first | omega | grind
 by_cases h8 : k = 8
 ·subst h8; simp [qQ] <;> (try rw [Bool.eq_iff_iff]) <;> (try simp) <;> first | omega | grind
 by_cases h9 : k = 9
 ·subst h9; simp [qQ] <;> (try rw [Bool.eq_iff_iff]) <;> (try simp) <;> first | omega | grind
 simp [h1, h2, h3, h4, h5, h6, h7, h8, h9]
theorem qj2 (t : Tm) : t.w < 1099511627776 → EVs (EV cfg) 127 [t.av] = some (.bool t.parts) := by
 induction t using Tm.ind with
 | _ k n s l ih =>
  intro hw
  rw [Tm.w_mk] at hw
  have hlen := qbQ l
  have loop : ∀ d i : Nat, i + d = l.length → Gets (qfg i k n s (qh l)) (· = .bool (qR (l.drop i))) := by
   intro d
   induction d with
   | zero =>
    intro i hi
    refine qel _ _ _ _ _ ?_
    rw [qy, decide_eq_false (by omega), List.drop_eq_nil_of_le (by omega)]
    exact ⟨_, rfl, rfl⟩
   | succ d ihd =>
    intro i hi
    have hil : i < l.length := by omega
    refine qel _ _ _ _ _ ?_
    have hx : l[i]? = some l[i] := qqm hil
    have hm := qqx hx
    have hd : l.drop i = l[i] :: l.drop (i + 1) := List.drop_eq_getElem_cons hil
    have h1 := ih l[i] hm (by have := qid hm; omega)
    have h2 := ihd (i + 1) (by omega)
    rw [qy, decide_eq_true (show (i : Int) < (l.length : Int) by omega), qP, xU, decide_eq_true hil, ze hx, q9 hil (by omega), hd, qR]
    simp only [cond_true, Bool.and_self, zx, Nat.beq_refl, qfp, qfR, show qqB 4 4 = true from rfl, qne, h1, qa, qY]
    cases hg : l[i].parts with
    | false => exact ⟨_, rfl, rfl⟩
    | true => rw [Bool.true_and]; exact h2
  have ho := qmH (.mk k n s l)
  have h0 := loop l.length 0 (by omega)
  apply Gets.get
  rw [Tm.parts_eq]
  rw [Tm.av_mk] at ho ⊢
  refine qiD _ _ _ _ ?_
  rw [ho]
  simp only [qa, qY, Tm.subs_mk]
  cases (Tm.mk k n s l).sound with
  | false => exact ⟨_, rfl, rfl⟩
  | true => rw [Bool.true_and]; exact h0
theorem qlv {l : List Tm} (h : qR l = true) : ∀ x ∈ l, x.parts = true := by
 induction l with
 | nil => intro x hx; cases hx
 | cons y l ih =>
  rw [qR, qqi] at h
  intro x hx
  cases hx with
  | head => exact h.1
  | tail _ hx => exact ih h.2 x hx
theorem qj1 (t : Tm) : t.w < 1099511627776 → t.parts = true → EVs (EV cfg) 128 [t.av] = some (.int .i64 (t.words : Int)) := by
 induction t using Tm.ind with
 | _ k n s l ih =>
  intro hw hp
  have hww := qnw (.mk k n s l)
  rw [Tm.w_mk] at hw hww
  have hlen := qbQ l
  rw [Tm.parts, qqi] at hp
  obtain ⟨hp, hpl⟩ := hp
  have loop : ∀ d i acc : Nat, i + d = l.length → acc + qp (l.drop i) < 9007199254740992 → Gets (ye acc i k n s (qh l)) (· = .int .i64 ((acc + qp (l.drop i) : Nat) : Int)) := by
   intro d
   induction d with
   | zero =>
    intro i acc hi _
    refine qek _ _ _ _ _ _ ?_
    rw [qy, decide_eq_false (by omega), List.drop_eq_nil_of_le (by omega)]
    exact ⟨_, rfl, rfl⟩
   | succ d ihd =>
    intro i acc hi hacc
    have hil : i < l.length := by omega
    refine qek _ _ _ _ _ _ ?_
    have hx : l[i]? = some l[i] := qqm hil
    have hm := qqx hx
    have hd : l.drop i = l[i] :: l.drop (i + 1) := List.drop_eq_getElem_cons hil
    have h1 := ih l[i] hm (by have := qid hm; omega) (qlv hpl _ hm)
    rw [hd, qp] at hacc
    have h2 := ihd (i + 1) (acc + (l[i]).words) (by omega) (by omega)
    have w1 : IntKind.wrap .i64 ((acc : Int) + ((l[i]).words : Int)) = ((acc + (l[i]).words : Nat) : Int) := by rw [vZ (by omega) (by omega)]; omega
    rw [qy, decide_eq_true (show (i : Int) < (l.length : Int) by omega), qP, xU, decide_eq_true hil, ze hx, q9 hil (by omega), hd, qp]
    simp only [cond_true, Bool.and_self, zx, Nat.beq_refl, qfp, qfR, show qqB 4 4 = true from rfl, qne, h1, qa, qq, w1]
    rw [← Nat.add_assoc]
    exact h2
  have hwo : (Tm.mk k n s l).words = (Tm.mk k n s l).own + qp l := by rw [Tm.words]
  rw [hwo] at hww ⊢
  have ho := (Tm.mk k n s l).own_le
  have h0 := loop l.length 0 (Tm.mk k n s l).own (by omega) (by rw [List.drop_zero]; omega)
  rw [List.drop_zero] at h0
  apply Gets.get
  rw [Tm.av_mk]
  refine qiC _ _ _ _ ?_
  by_cases h5 : k = 5
  ·subst h5
   have o2 : (Tm.mk 5 n s l).own = 2 := by simp [Tm.own]
   rw [o2] at h0 ⊢; exact h0
  by_cases h7 : k = 7
  ·subst h7
   have o2 : (Tm.mk 7 n s l).own = 2 := by simp [Tm.own]
   rw [o2] at h0 ⊢; exact h0
  have o1 : (Tm.mk k n s l).own = 1 := by simp [Tm.own, h5, h7]
  rw [o1] at h0 ⊢
  by_cases h9 : k = 9
  ·subst h9; exact h0
  have e5 : (k == 5) = false := by simpa using h5
  have e7 : (k == 7) = false := by simpa using h7
  have e9 : (k == 9) = false := by simpa using h9
  have hl : l = [] := by
   have : q7 k n s l.length = true → l.length = 0 := by
    unfold q7
    rw [if_neg h5, if_neg h7, if_neg h9]
    intro h
    repeat' split at h
    all_goals simp at h
    all_goals simp [h]
   exact List.length_eq_zero_iff.1 (this hp)
  subst hl
  rw [e5, e7, e9]
  exact ⟨_, rfl, rfl⟩
theorem qj3 {t : Tm} (h : t.w < 1099511627776) : EVs (EV cfg) 87 [t.av] = some (.int .i64 t.chk) := by
 have hp := qj2 t h
 have hw := qj1 t h
 apply Gets.get
 rw [Tm.av, Tm.cells_eq] at hp hw ⊢
 refine qiE _ _ _ _ ?_
 rw [hp]
 have hc : t.chk = if t.parts then (if 65536 < t.words then 3 else 0) else 2 := by
  unfold Tm.chk chkS
  simp [qR, qp]
 rw [hc]
 simp only [qa, qY]
 cases ht : t.parts with
 | false => exact ⟨_, rfl, rfl⟩
 | true =>
  rw [hw ht]
  simp only [qa, qq, Bool.not_true, cond_false, if_true]
  by_cases hg : 65536 < t.words
  ·rw [decide_eq_true (show ((t.words : Int) > 65536) by omega), if_pos hg]; exact ⟨_, rfl, rfl⟩
  ·rw [decide_eq_false (show ¬ ((t.words : Int) > 65536) by omega), if_neg hg]; exact ⟨_, rfl, rfl⟩
theorem dlen {u : Nat} (hu : u < 10 ^ 19) : (Go.Lib.decDigits u).length ≤ 20 := by
 rw [← qb9 19 u (by omega)]
 exact qcJ 20 u
theorem qe1 (m : Nat) : m < 9223372036854775808 → EVs (EV cfg) 42 [.int .i64 (m : Int)] = some (.str (Go.Lib.decDigits m)) := by
 induction m using Nat.strongRecOn with
 | _ m ih =>
  intro hm
  apply Gets.get
  refine qht _ ?_
  unfold za0 za1
  rw [decide_eq_false (show ¬ (m : Int) < 0 by omega)]
  simp only [cond_false]
  by_cases h10 : m < 10
  ·rw [decide_eq_true (show (m : Int) < 10 by omega)]
   have hw : IntKind.wrap .i64 ((m : Int) + 1) = ((m + 1 : Nat) : Int) := by rw [vZ (by omega) (by omega)]; rfl
   have hle : qg ((m + 1 : Nat) : Int) 10 = true := by simp [qg]; omega
   simp only [cond_true, hw, qP, hle, Bool.true_and, qds, Int.toNat_natCast, qkT h10, qW]
   rw [Go.Lib.decDigits, dif_pos h10]
  ·rw [decide_eq_false (show ¬ (m : Int) < 10 by omega)]
   simp only [cond_false]
   rw [rquo (by decide), rrem (by decide)]
   have hd : IntKind.wrap .i64 ((m : Int).tdiv 10) = ((m / 10 : Nat) : Int) := by
    rw [Int.tdiv_eq_ediv_of_nonneg (by omega), vZ (by omega) (by omega)]; omega
   have hr : (m : Int).tmod 10 = ((m % 10 : Nat) : Int) := by
    rw [Int.tmod_eq_emod_of_nonneg (by omega)]; omega
   rw [hd, hr]
   have i1 := ih (m / 10) (by omega) (by omega)
   have i2 := ih (m % 10) (by omega) (by omega)
   simp only [qa, qq]
   rw [i1]
   simp only [qa, qd, qq]
   rw [i2]
   have l1 := dlen (u := m / 10) (by omega)
   have l2 := dlen (u := m % 10) (by omega)
   simp only [qa, qd]
   rw [bleN (by omega)]
   simp only [cond_true, qa, qd, qW, qqO]
   conv => rhs; rw [Go.Lib.decDigits, dif_neg h10]
   have h9 : m % 10 < 10 := by omega
   rw [show Go.Lib.decDigits (m % 10) = [UInt8.ofNat (48 + m % 10)] by rw [Go.Lib.decDigits, dif_pos h9]]
theorem qn3 (m : Nat) : 0 < m → m ≤ 9223372036854775808 → EVs (EV cfg) 42 [.int .i64 (-(m : Int))] = some (.str (45 :: Go.Lib.decDigits m)) := by
 induction m using Nat.strongRecOn with
 | _ m ih =>
  intro h0 hm
  apply Gets.get
  refine qht _ ?_
  unfold za0 za1
  rw [decide_eq_true (show (-(m : Int)) < 0 by omega)]
  simp only [cond_true]
  by_cases h10 : m < 10
  ·rw [decide_eq_true (show (-(m : Int)) > -10 by omega)]
   have hw : IntKind.wrap .i64 (0 - -(m : Int)) = (m : Int) := by rw [vZ (by omega) (by omega)]; omega
   have l1 := dlen (u := m) (by omega)
   simp only [cond_true, hw]
   rw [qe1 m (by omega)]
   simp only [qa, qd]
   rw [bleN (by omega)]
   simp
  ·rw [decide_eq_false (show ¬ (-(m : Int)) > -10 by omega)]
   simp only [cond_false]
   rw [rquo (by decide), rrem (by decide)]
   have hd : IntKind.wrap .i64 ((-(m : Int)).tdiv 10) = -((m / 10 : Nat) : Int) := by
    rw [Int.neg_tdiv, Int.tdiv_eq_ediv_of_nonneg (by omega), vZ (by omega) (by omega)]; omega
   have hr : (-(m : Int)).tmod 10 = -((m % 10 : Nat) : Int) := by
    rw [Int.neg_tmod, Int.tmod_eq_emod_of_nonneg (by omega)]; omega
   rw [hd, hr]
   have hr2 : IntKind.wrap .i64 (0 - -((m % 10 : Nat) : Int)) = ((m % 10 : Nat) : Int) := by rw [vZ (by omega) (by omega)]; omega
   have i1 := ih (m / 10) (by omega) (by omega) (by omega)
   simp only [qa, qq]
   rw [i1]
   simp only [qa, qd, qq, hr2]
   rw [qe1 (m % 10) (by omega)]
   have l1 := dlen (u := m / 10) (by omega)
   have l2 := dlen (u := m % 10) (by omega)
   simp only [qa, qd]
   rw [bleN (by simp only [qqr]; omega)]
   simp only [cond_true, qa, qd, qW, qqO]
   conv => rhs; rw [Go.Lib.decDigits, dif_neg h10]
   have h9 : m % 10 < 10 := by omega
   rw [show Go.Lib.decDigits (m % 10) = [UInt8.ofNat (48 + m % 10)] by rw [Go.Lib.decDigits, dif_pos h9]]
   rfl
theorem qkV {n : Int} (h0 : -9223372036854775808 ≤ n) (h1 : n ≤ 9223372036854775807) : EVs (EV cfg) 42 [.int .i64 n] = some (.str (vC n)) := by
 rw [qa3 h0 h1]
 unfold Go.Lib.itoa
 by_cases hn : n < 0
 ·obtain ⟨m, hm⟩ := Int.eq_ofNat_of_zero_le (show 0 ≤ -n by omega)
  have e : n = -(m : Int) := by omega
  rw [if_pos hn, e, qn3 m (by omega) (by omega)]
  congr 3
  simp
 ·obtain ⟨m, rfl⟩ := Int.eq_ofNat_of_zero_le (show 0 ≤ n by omega)
  rw [if_neg hn, qe1 m (by omega)]
  rfl
theorem qml (t : Tm) (hw : t.w < 1099511627776) : EVf (EV cfg) 43 [t.av] = some (qbP t) := by
 have hc := qj3 hw
 have ht := fun hp => (qk9 t hp).1
 obtain ⟨k, n, s, l⟩ := t
 apply Gets.get
 rw [Tm.av_mk] at hc ⊢
 refine qjK _ _ _ _ ?_
 rw [hc]
 simp only [qa, qq]
 unfold qbP
 by_cases h0 : (Tm.mk k n s l).chk = 0
 ·obtain ⟨hp, hwd⟩ := qe2 h0
  have h5 := ht hp (by omega)
  rw [Tm.av_mk] at h5
  rw [if_pos h0, h0]
  have e0 : ((0 : Int) != 0) = false := rfl
  rw [e0]
  simp only [cond_false]
  rw [h5]
  simp
 ·rw [if_neg h0]
  have e0 : ((Tm.mk k n s l).chk != 0) = true := by simpa using h0
  rw [e0]
  simp
def qlj : List (List AV) := [[.str []], [.str [116, 117, 112, 108, 101]], [.str [99, 111, 110, 115]], [.str [98, 105, 110, 100]], [.str [118, 97, 114]], [.str [97, 110, 121]], [.str [115, 97, 109, 101]], [.str [99, 111, 110, 115, 116]], [.str [108, 111, 97, 100]], [.str [111, 98, 106, 101, 99, 116]], [.str [97, 108, 108]], [.str [109, 97, 107, 101]], [.str [106, 111, 105, 110]], [.str [99, 97, 108, 108]], [.str [116, 114, 117, 101]], [.str [97, 110, 100]], [.str [111, 114]], [.str [98, 111, 111, 108]], [.str [98, 111, 100, 121]], [.str [100, 114, 111, 112]], [.str [116, 101, 108, 108]]]
theorem qnx : EVf (EV cfg) 40 [] = some (.sl qlj) := qgc (.nil) 1000 1000 (by kernel_rfl)
theorem qoT (t : Tm) : t.Ok → ∀ most : Int, Gets (EVs (EV cfg) 86 [t.av, .int .i64 most]) AV.IsInt := by
 induction t using Tm.ind with
 | _ k n s l ih =>
  intro hok most
  have loop : ∀ (d i : Nat) (m : Int), i + d = l.length → Gets (qfj most m i k n s (qh l)) AV.IsInt := by
   intro d
   induction d with
   | zero =>
    intro i m hi
    refine qem _ _ _ _ _ _ _ ?_
    rw [qy, decide_eq_false (by omega)]
    simp
   | succ d ihd =>
    intro i m hi
    refine qem _ _ _ _ _ _ _ ?_
    have hil : i < l.length := by omega
    have hx : l[i]? = some l[i] := qqm hil
    have hxl := qqx hx
    have hix := ih l[i] hxl (hok.sub hxl)
    by_cases hm : m < most
    ·rw [q9 hil hok.len]
     simp [hil, hx, hm]
     refine Gets.bind (hix _) ?_
     rintro _ ⟨n'', rfl⟩
     simpa using ihd (i + 1) _ (by omega)
    ·simp [hil, hm]
  rw [Tm.av_mk]
  refine qke _ _ _ _ _ ?_
  by_cases h1 : (s.length : Int) > 100
  ·rw [decide_eq_true h1]; simp
  ·rw [decide_eq_false h1]
   by_cases h2 : (l.length : Int) > most
   ·rw [qy, decide_eq_true h2]; simp
   ·rw [qy, decide_eq_false h2]
    exact loop l.length 0 1 (by omega)
theorem qpM {t : Tm} (h : t.Ok) (most : Int) : Gets (EVs (EV cfg) 39 [t.av, .int .i64 most]) AV.IsBool := by
 have h1 := qoT t h (IntKind.wrap .i64 (most + 1))
 rw [Tm.av, Tm.cells_eq] at h1 ⊢
 refine qlB _ _ _ _ _ ?_
 refine Gets.bind h1 ?_
 rintro _ ⟨n, rfl⟩
 simp
end Go.Proofs.YtnjonahoheopnaaGreatDoor
end
section
namespace Go.Av
mutual
def AV.wt : AV → Nat
 | .str s => s.length + 1
 | .sl rows => wtR rows + 1
 | _ => 1
def wtL : List AV → Nat
 | [] => 0
 | a :: l => a.wt + wtL l
def wtR : List (List AV) → Nat
 | [] => 0
 | a :: l => wtL a + wtR l
end
@[simp] theorem qkJ : wtL [] = 0 := by rw [wtL]
@[simp] theorem qh7 (a : AV) (l : List AV) : wtL (a :: l) = a.wt + wtL l := by rw [wtL]
@[simp] theorem wtR_nil : wtR [] = 0 := by rw [wtR]
@[simp] theorem qnv (a : List AV) (l : List (List AV)) : wtR (a :: l) = wtL a + wtR l := by rw [wtR]
@[simp] theorem qpt (k : IntKind) (n : Int) : (AV.int k n).wt = 1 := by rw [AV.wt] <;> simp
@[simp] theorem wt_bool (b : Bool) : (AV.bool b).wt = 1 := by rw [AV.wt] <;> simp
@[simp] theorem qps (s : List UInt8) : (AV.str s).wt = s.length + 1 := by rw [AV.wt]
@[simp] theorem qoE (r : List (List AV)) : (AV.sl r).wt = wtR r + 1 := by rw [AV.wt]
theorem qkY (a b : List AV) : wtL (a ++ b) = wtL a + wtL b := by
 induction a with
 | nil => simp
 | cons x l ih => simp [ih]; omega
end Go.Av
namespace Go.Proofs.YtnjonahoheopnaaGreatDoor
open Go.Av Go.WideShapes
def qfn (P : Program) : Nat → List Field → Option Nat
 | off, [] => some off
 | off, f :: fs => if f.offset = off then qfn P (off + P.cellsOf f.type) fs else none
def qdH (P : Program) (ts : List TypeId) (t : TypeId) : Bool :=
 match P.underlying t with
 | some (.int _) | some .bool | some .string => decide (P.cellsOf t = 1)
 | some (.struct fs) => decide (qfn P 0 fs.toList = some (P.cellsOf t)) && fs.toList.all (fun f => decide (f.type ∈ ts))
 | some (.slice e) => decide (P.cellsOf t = 1) && (decide (e ∈ ts) && decide (0 < P.cellsOf e))
 | _ => false
def Lay (P : Program) : Nat → TypeId → List AV → Prop
 | 0, _, _ => False
 | n + 1, t, cz =>
  match P.underlying t with
  | some (.int k) => ∃ m, cz = [.int k m] ∧ (Lit.int k m).wf = true
  | some .bool => ∃ b, cz = [.bool b]
  | some .string => ∃ s, cz = [.str s]
  | some (.struct fs) => cz.length = P.cellsOf t ∧ ∀ (i : Nat) f, fs[i]? = some f → Lay P n f.type ((cz.drop f.offset).take (P.cellsOf f.type))
  | some (.slice e) => ∃ rows, cz = [.sl rows] ∧ ∀ row ∈ rows, row.length = P.cellsOf e ∧ Lay P n e row
  | _ => False
def vN (W : World) (cs : List Value) (cz : List AV) : Prop := cz.length = cs.length ∧ ∀ (j : Nat) a v, cz[j]? = some a → cs[j]? = some v → a.isCell = true ∧ Rep (C0 W) M0 a v
theorem vN.nil {W : World} : vN W [] [] := ⟨rfl, fun j a v h => by simp at h⟩
theorem vN.one {W : World} {a : AV} {v : Value} (h1 : a.isCell = true) (h2 : Rep (C0 W) M0 a v) : vN W [v] [a] := ⟨rfl, fun j a' v' ha hv => by
 match j, ha, hv with
 | 0, ha, hv => simp at ha hv; subst ha hv; exact ⟨h1, h2⟩
 | j + 1, ha, hv => simp at ha⟩
theorem vN.append {W : World} {cs cs' : List Value} {cz cz' : List AV} (h : vN W cs cz) (h' : vN W cs' cz') : vN W (cs ++ cs') (cz ++ cz') := by
 refine ⟨by simp [h.1, h'.1], fun j a v ha hv => ?_⟩
 by_cases hj : j < cz.length
 ·rw [qqs hj] at ha
  rw [qqs (by rw [← h.1]; exact hj)] at hv
  exact h.2 j a v ha hv
 ·rw [qqw (by omega)] at ha
  rw [qqw (by rw [← h.1]; omega), ← h.1] at hv
  exact h'.2 _ a v ha hv
section
variable {H : Type} {enc : TypeId × Value → H} {P : Program} {W : World}
def qoQ (enc : TypeId × Value → H) (P : Program) (W : World) (n : Nat) (t : TypeId) : Prop :=
 ∀ cs x, DataW.trod enc P W 0 (fun _ => true) true n t cs = some x → ∃ cz, vN W cs cz ∧ cs.length = P.cellsOf t ∧ Lay P n t cz ∧ wtL cz ≤ Rows.uptoBulk x.1 ∧ qk 0 cz = true ∧
  ∀ (W' : World) (sp : Nat → Bool), (∀ p ∈ x.2, W.sameAt W' p) → (∀ p ∈ x.2, sp p.block = true) → DataW.trod enc P W' 0 sp true n t cs = some x
theorem qj7 {n : Nat} {ts : List TypeId} (ih : ∀ t ∈ ts, qoQ enc P W n t) {cs : List Value} : ∀ (fs : List Field) (off : Nat), qfn P off fs = some cs.length → (∀ f ∈ fs, f.type ∈ ts) →
  ∀ xs, (fs.mapM fun f => DataW.trod enc P W 0 (fun _ => true) true n f.type ((cs.drop f.offset).take (P.cellsOf f.type))) = some xs →
  ∃ cz, vN W (cs.drop off) cz ∧ (∀ f ∈ fs, off ≤ f.offset ∧ Lay P n f.type ((cz.drop (f.offset - off)).take (P.cellsOf f.type))) ∧ wtL cz ≤ Rows.uptoBulkAll (xs.map (·.1)) ∧ qk 0 cz = true ∧
   ∀ (W' : World) (sp : Nat → Bool), (∀ p ∈ xs.flatMap (·.2), W.sameAt W' p) → (∀ p ∈ xs.flatMap (·.2), sp p.block = true) →
    (fs.mapM fun f => DataW.trod enc P W' 0 sp true n f.type ((cs.drop f.offset).take (P.cellsOf f.type))) = some xs := by
 intro fs
 induction fs with
 | nil =>
  intro off ht _ xs hx
  rw [qfn] at ht
  cases ht
  simp at hx
  subst hx
  refine ⟨[], ?_, fun f hf => by simp at hf, by simp, rfl, fun W' sp _ _ => by simp⟩
  rw [List.drop_length]; exact vN.nil
 | cons f fs ihf =>
  intro off ht hin xs hx
  rw [qfn] at ht
  split at ht
  ·rename_i ho
   rw [List.mapM_cons] at hx
   obtain ⟨x, h1, hx⟩ := qqk.1 hx
   obtain ⟨ys, h2, hx⟩ := qqk.1 hx
   cases hx
   obtain ⟨a1, c1, l1, y1, w1, r1, b1⟩ := ih f.type (hin f (by simp)) _ _ h1
   obtain ⟨a2, c2, y2, w2, r2, b2⟩ := ihf (off + P.cellsOf f.type) ht (fun g hg => hin g (by simp [hg])) ys h2
   have hlen : a1.length = P.cellsOf f.type := by rw [c1.1, l1]
   refine ⟨a1 ++ a2, ?_, fun g hg => ?_, ?_, yV r1 r2, fun W' sp hs hp => ?_⟩
   ·have := c1.append c2
    rw [ho, ← List.drop_drop, List.take_append_drop] at this
    exact this
   ·rcases qqH.1 hg with rfl | hg
    ·refine ⟨by omega, ?_⟩
     rw [ho, Nat.sub_self, List.drop_zero, ← hlen, List.take_append_of_le_length (qqo _), List.take_length]
     exact y1
    ·obtain ⟨g1, g2⟩ := y2 g hg
     refine ⟨by omega, ?_⟩
     have : List.drop (g.offset - off) (a1 ++ a2) = List.drop (g.offset - (off + P.cellsOf f.type)) a2 := by
      have e : g.offset - off = a1.length + (g.offset - (off + P.cellsOf f.type)) := by omega
      rw [e, ← List.drop_drop, List.drop_left]
     rw [this]
     exact g2
   ·rw [qkY]
    simp only [List.map_cons, Rows.uptoBulkAll]
    omega
   ·rw [List.mapM_cons, b1 W' sp (fun p hpp => hs p (by simp [hpp])) (fun p hpp => hp p (by simp [hpp]))]
    have b3 := b2 W' sp (fun p hpp => hs p (by rw [List.flatMap_cons]; exact List.mem_append_right _ hpp)) (fun p hpp => hp p (by rw [List.flatMap_cons]; exact List.mem_append_right _ hpp))
    show Option.bind _ _ = _
    rw [qqt]
    show Option.bind _ _ = _
    rw [b3]; rfl
  ·cases ht
theorem qhu {e : Nat} : ∀ (rows : List (List AV)) (ds : List (DataW H)), rows.length = ds.length → (∀ (i : Nat) row d, rows[i]? = some row → ds[i]? = some d → wtL row ≤ Rows.uptoBulk d) → wtR rows ≤ Rows.uptoBulkAll ds
 | [], [], _, _ => by simp [Rows.uptoBulkAll]
 | t :: l, d :: ds, hl, h => by
  have h0 := h 0 t d rfl rfl
  have := qhu (e := e) l ds (by simpa using hl) (fun i t d ht hd => h (i + 1) t d (by simpa using ht) (by simpa using hd))
  simp only [qnv, Rows.uptoBulkAll]
  omega
theorem qnN {ts : List TypeId} (hts : ∀ t ∈ ts, qdH P ts t = true) : ∀ (n : Nat), ∀ t ∈ ts, qoQ enc P W n t := by
 intro n
 induction n with
 | zero => intro t _ cs x h; simp [DataW.trod] at h
 | succ n ih =>
  intro t ht cs x h
  have hg := hts t ht
  unfold qdH at hg
  split at hg
  ·rename_i k hu
   obtain ⟨m, rfl, rfl, hw⟩ := DataW.trod_int hu h
   refine ⟨[.int k m], vN.one rfl (.int _ _), (of_decide_eq_true hg).symm, by unfold Lay; rw [hu]; exact ⟨m, rfl, hw⟩, by simp [Rows.uptoBulk], rfl, fun W' sp _ _ => ?_⟩
   simp [DataW.trod, hu, hw]
  ·rename_i hu
   obtain ⟨b, rfl, rfl⟩ := DataW.trod_bool hu h
   refine ⟨[.bool b], vN.one rfl (.bool _), (of_decide_eq_true hg).symm, by unfold Lay; rw [hu]; exact ⟨b, rfl⟩, by simp [Rows.uptoBulk], rfl, fun W' sp _ _ => ?_⟩
   simp [DataW.trod, hu]
  ·rename_i hu
   obtain ⟨s, rfl, rfl, hw⟩ := DataW.trod_string hu h
   refine ⟨[.str s.data.toList], vN.one rfl ?_, (of_decide_eq_true hg).symm, by unfold Lay; rw [hu]; exact ⟨_, rfl⟩, by simp [Rows.uptoBulk], rfl, fun W' sp _ _ => ?_⟩
   ·have := Rep.str (C := C0 W) (μ := M0) s.data.toList
    simpa using this
   ·simp [DataW.trod, hu, hw]
  ·rename_i fs hu
   rw [qqi, decide_eq_true_eq, List.all_eq_true] at hg
   have h' := h
   unfold DataW.trod at h'
   rw [hu] at h'
   simp only [] at h'
   split at h'
   ·rename_i hl
    obtain ⟨xs, hx, rfl⟩ := qql.1 h'
    rw [← hl] at hg
    obtain ⟨cz, c, y, w, r, b⟩ := qj7 ih fs.toList 0 hg.1 (fun f hf => of_decide_eq_true (hg.2 f hf)) xs hx
    rw [List.drop_zero] at c
    refine ⟨cz, c, hl, ?_, ?_, r, fun W' sp hs hp => ?_⟩
    ·unfold Lay
     rw [hu]
     refine ⟨by rw [c.1, hl], fun i f hf => ?_⟩
     have := y f (by rw [← qqJ] at hf; exact qqx hf)
     rw [Nat.sub_zero] at this
     exact this.2
    ·simp only [Rows.uptoBulk]; omega
    ·unfold DataW.trod
     rw [hu]
     simp only []
     rw [if_pos hl, b W' sp hs hp]; rfl
   ·cases h'
  ·rename_i e hu
   rw [qqi, qqi, decide_eq_true_eq, decide_eq_true_eq, decide_eq_true_eq] at hg
   obtain ⟨hc1, he, hpos⟩ := hg
   rcases DataW.trod_slice hu h with ⟨rfl, rfl⟩ | ⟨a, len, cap, elems, rest, n', e', rfl, rfl, hb, hlc, hmx, hel, hg, hsp, _⟩
   ·refine ⟨[.sl []], vN.one rfl .slNil, hc1.symm, by unfold Lay; rw [hu]; exact ⟨[], rfl, fun r hr => by simp at hr⟩, by simp [Rows.uptoBulk], rfl, fun W' sp _ _ => ?_⟩
    simp [DataW.trod, hu]
   ·obtain rfl : n' = n := by omega
    obtain ⟨hrl, hrg⟩ := hsp rfl
    have ihe := ih e he
    have tms : ∃ f : Nat → List AV, ∀ (i : Nat) y, elems[i]? = some y → ∃ cs', W.cells? 0 (a.add (i * P.cellsOf e)) (P.cellsOf e) = some cs' ∧ vN W cs' (f i) ∧ cs'.length = P.cellsOf e ∧ Lay P n' e (f i) ∧ wtL (f i) ≤ Rows.uptoBulk y.1 ∧ qk 0 (f i) = true := by
     have : ∀ i : Nat, ∃ t : List AV, ∀ y, elems[i]? = some y → ∃ cs', W.cells? 0 (a.add (i * P.cellsOf e)) (P.cellsOf e) = some cs' ∧ vN W cs' t ∧ cs'.length = P.cellsOf e ∧ Lay P n' e t ∧ wtL t ≤ Rows.uptoBulk y.1 ∧ qk 0 t = true := by
      intro i
      cases hy : elems[i]? with
      | none => exact ⟨default, fun y h => by cases h⟩
      | some y =>
       have hi : i < len := by rw [← hel]; exact (qqj.1 hy).1
       obtain ⟨cs', h1, h2⟩ := qqk.1 ((hg i hi).trans hy)
       obtain ⟨t, h3, h4, h5, h6, h7, _⟩ := ihe _ _ h2
       exact ⟨t, fun y' hy' => by cases hy'; exact ⟨cs', h1, h3, h4, h5, h6, h7⟩⟩
     exact ⟨fun i => Classical.choose (this i), fun i => Classical.choose_spec (this i)⟩
    obtain ⟨f, hf⟩ := tms
    have hget : ∀ (i : Nat) (row : List AV), ((List.range len).map f)[i]? = some row → i < len ∧ row = f i := by
     intro i row hi
     have hil : i < len := by have := (qqj.1 hi).1; simpa using this
     refine ⟨hil, ?_⟩
     rw [List.getElem?_map, List.getElem?_range hil] at hi
     simpa using hi.symm
    have hrow : ∀ (i : Nat) (row : List AV), ((List.range len).map f)[i]? = some row → row.length = P.cellsOf e ∧ Lay P n' e row ∧ qk 0 row = true := by
     intro i row hi
     obtain ⟨hil, rfl⟩ := hget i row hi
     obtain ⟨cs', h1, h2, h3, h4, h5, h6⟩ := hf i _ (qqm (by omega))
     exact ⟨by rw [h2.1, h3], h4, h6⟩
    have hspot : ((List.range len).map f) ≠ [] → a.spot = none := by
     intro hne
     have hl0 : 0 < len := by
      rcases Nat.eq_zero_or_pos len with h0 | h0
      ·subst h0; exact absurd (by simp) hne
      ·exact h0
     obtain ⟨cs0, q1, _⟩ := hf 0 _ (qqm (by omega))
     have := (qeC q1 (by omega)).1
     simpa [Addr.add] using this
    have hcell : ∀ (i j : Nat) (row : List AV) x, ((List.range len).map f)[i]? = some row → row[j]? = some x → x.isCell = true ∧ ∃ v, W.cell? ⟨a.block, a.off + i * P.cellsOf e + j, none⟩ = some v ∧ Rep (C0 W) M0 x v := by
     intro i j row x hi hj
     have hs := hspot (by intro h0; rw [h0] at hi; simp at hi)
     obtain ⟨hil, rfl⟩ := hget i row hi
     obtain ⟨cs', h1, h2, h3, _⟩ := hf i _ (qqm (by omega))
     obtain ⟨s1, s2, s3⟩ := qeC h1 (by omega)
     have hjl : j < cs'.length := by
      rw [← h2.1]
      exact (qqj.1 hj).1
     have h4 := h2.2 j x _ hj (qqm hjl)
     refine ⟨h4.1, _, ?_, h4.2⟩
     have := s3 j _ (qqm hjl)
     rw [xz _ _ hs] at this
     exact this
    have hfree : ql 0 ((List.range len).map f) = true := by
     have : ∀ l : List (List AV), (∀ r ∈ l, qk 0 r = true) → ql 0 l = true := by
      intro l
      induction l with
      | nil => intro _; rfl
      | cons r l ih => intro h; rw [ql, h r (by simp), ih fun q hq => h q (by simp [hq])]; rfl
     refine this _ fun r hr => ?_
     obtain ⟨i, hi⟩ := List.getElem?_of_mem hr
     exact (hrow i r hi).2.2
    refine ⟨[.sl ((List.range len).map f)], vN.one rfl ?_, hc1.symm, ?_, ?_, rfl, fun W' sp hs hp => ?_⟩
    ·have := Rep.sl (C := C0 W) (μ := M0) ((List.range len).map f) a cap (P.cellsOf e) (fun i j => (W.cell? ⟨a.block, a.off + i * P.cellsOf e + j, none⟩).getD undef) hspot (fun i row hi => (hrow i row hi).1) (fun i j row x hi hj => ?_) (fun i j row x hi hj => ?_) (fun i j row x hi hj => ?_) (by simpa using hlc) hfree
     ·simpa using this
     ·obtain ⟨_, v, h1, _⟩ := hcell i j row x hi hj
      show W.cell? _ = _
      rw [h1]; rfl
     ·obtain ⟨_, v, h1, h2⟩ := hcell i j row x hi hj
      rw [h1]; exact h2
     ·exact (hcell i j row x hi hj).1
    ·unfold Lay
     rw [hu]
     refine ⟨_, rfl, fun row hr => ?_⟩
     obtain ⟨i, hi⟩ := List.getElem?_of_mem hr
     exact ⟨(hrow i row hi).1, (hrow i row hi).2.1⟩
    ·simp only [Rows.uptoBulk, qh7, qkJ, qoE]
     have := qhu (e := 0) ((List.range len).map f) (elems.map (·.1)) (by simp [hel]) (fun i t d ht hd => by
      rw [List.getElem?_map] at ht hd
      obtain ⟨j, hj, rfl⟩ := qql.1 ht
      obtain ⟨y, hy, rfl⟩ := qql.1 hd
      have hil : i < len := by have := (qqj.1 hj).1; simpa using this
      rw [List.getElem?_range hil] at hj
      cases hj
      obtain ⟨_, _, _, _, _, h5, _⟩ := hf i y hy
      exact h5)
     omega
    ·have hrow' : 0 < (elems.length + rest.length) → sp a.block = true := fun hps => hp (.cell a.block (a.off + 0)) (by
      rw [qqI]
      exact .inl (MemPlace.mem_row.2 ⟨0, Nat.mul_pos hps hpos, rfl⟩))
     unfold DataW.trod at h ⊢
     rw [hu] at h ⊢
     simp only [if_true] at h ⊢
     rw [if_pos ⟨hb, hlc, hmx⟩] at h ⊢
     simp only [qql, qqk] at h ⊢
     obtain ⟨elems', he, rest', hr, hx⟩ := h
     have hlen : elems'.length = len := by simpa using mapM_some_length he
     have hrl' : rest'.length = cap - len := by simpa using mapM_some_length hr
     simp only [Prod.mk.injEq, DataW.slice.injEq] at hx
     have one' : ∀ (i : Nat) (y : DataW H × List MemPlace), i < elems'.length + rest'.length → y ∈ elems' ++ rest' →
       (W.cells? 0 (a.add (i * P.cellsOf e)) (P.cellsOf e)).bind (DataW.trod enc P W 0 (fun _ => true) true n' e) = some y → (W'.cells? 0 (a.add (i * P.cellsOf e)) (P.cellsOf e)).bind (DataW.trod enc P W' 0 sp true n' e) = some y := by
      intro i y hi hy hv
      simp only [qqk] at hv ⊢
      obtain ⟨cs', hc', hy'⟩ := hv
      obtain ⟨_, _, _, _, _, _, hbk⟩ := ihe _ _ hy'
      refine ⟨cs', World.cells?_carry hc' (fun p hpp => hs p ?_), hbk W' sp (fun p hpp => hs p ?_) (fun p hpp => hp p ?_)⟩
      ·rw [← hx.2]
       obtain ⟨j, hj, rfl⟩ := MemPlace.mem_row.1 hpp
       simp only [qqI]
       left
       refine MemPlace.mem_row.2 ⟨i * P.cellsOf e + j, ?_, ?_⟩
       ·calc i * P.cellsOf e + j < i * P.cellsOf e + P.cellsOf e := by omega
         _ = (i + 1) * P.cellsOf e := by rw [Nat.add_mul, Nat.one_mul]
         _ ≤ (elems'.length + rest'.length) * P.cellsOf e := qqC _ hi
       ·unfold Addr.add
        split
        ·rename_i h0
         simp [h0]
        ·simp [Nat.add_assoc]
      ·rw [← hx.2]
       simp only [qqI, List.mem_flatMap]
       right
       exact ⟨y, by simpa using hy, hpp⟩
      ·rw [← hx.2]
       simp only [qqI, List.mem_flatMap]
       right
       exact ⟨y, by simpa using hy, hpp⟩
     refine ⟨elems', mapM_carry he (fun i y hi hy => one' i y (by have : i < len := (by simpa using hi); omega) (by simp [hy])), rest', ?_, by simp only [Prod.mk.injEq, DataW.slice.injEq]; exact hx⟩
     by_cases h0 : 0 < elems.length + rest.length
     ·rw [if_pos (hrow' h0)]
      exact mapM_carry hr (fun j y hj hy => one' (len + j) y (by have : j < cap - len := (by simpa using hj); omega) (by simp [hy]))
     ·have hc0 : cap - len = 0 := by omega
      rw [hc0] at hr ⊢
      simp at hr
      subst hr
      split <;> rfl
  ·cases hg
theorem qj6 {ts : List TypeId} (hts : ∀ t ∈ ts, qdH P ts t = true) {t : TypeId} (ht : t ∈ ts) {fs : Array Field} (hu : P.underlying t = some (.struct fs)) {r : Reach} {b0 : Nat} {v : Value} {d : DataW H} {ps : List MemPlace}
  (hval : Value.okWide P W r b0 t v) (hd : DataW.Trod enc P W 0 (fun _ => true) true t v d ps) :
  ∃ (cz : List AV) (n : Nat), Opened enc P W t v d ps (.agg cz) ∧ Lay P n t cz ∧ wtL cz ≤ Rows.uptoBulk d := by
 obtain ⟨cs, rfl, hsz⟩ := okWide_struct hu hval
 obtain ⟨n, hn⟩ := hd
 obtain ⟨cz, h1, h2, h3, h4, h5, h6⟩ := qnN hts n t ht _ _ hn
 refine ⟨cz, n, ⟨?_, fun W' sp hs hp => ⟨n, h6 W' sp hs hp⟩⟩, h3, h4⟩
 have := Rep.agg (C := C0 W) (μ := M0) cz cs.toList (by
  have := h1.1
  simpa [Value.cells] using this) (fun i a v ha hv => (h1.2 i a v ha (by simpa [Value.cells] using hv)).2)
 simpa using this
end
theorem qmS {P : Program} {tT tL tI tS : TypeId} (T : TermTys P tT tL tI tS) : ∀ (n : Nat),
  (∀ cz, Lay P n tT cz → ∃ t : Tm, cz = t.cells ∧ t.w < wtL cz) ∧ (∀ cz, Lay P n tL cz → ∃ l : List Tm, cz = [.sl (qh l)] ∧ wL l < wtL cz) := by
 intro n
 induction n with
 | zero => exact ⟨fun cz h => absurd h (by unfold Lay; exact id), fun cz h => absurd h (by unfold Lay; exact id)⟩
 | succ n ih =>
  refine ⟨fun cz h => ?_, fun cz h => ?_⟩
  ·obtain ⟨f0, f1, f2, f3, hu, t0, o0, t1, o1, t2, o2, t3, o3⟩ := T.uT
   unfold Lay at h
   rw [hu] at h
   obtain ⟨hl, hf⟩ := h
   rw [T.cT] at hl
   obtain ⟨c0, c1, c2, c3, rfl⟩ : ∃ c0 c1 c2 c3, cz = [c0, c1, c2, c3] := by
    match cz, hl with
    | [a, b, c, d], _ => exact ⟨a, b, c, d, rfl⟩
   have h0 := hf 0 f0 rfl
   have h1 := hf 1 f1 rfl
   have h2 := hf 2 f2 rfl
   have h3 := hf 3 f3 rfl
   rw [t0, o0, T.cI] at h0
   rw [t1, o1, T.cI] at h1
   rw [t2, o2, T.cS] at h2
   rw [t3, o3, T.cL] at h3
   simp at h0 h1 h2 h3
   cases n with
   | zero => exact absurd h0 (by unfold Lay; exact id)
   | succ n =>
    obtain ⟨l, e3, w3⟩ := ih.2 _ h3
    unfold Lay at h0 h1 h2
    rw [T.uI] at h0 h1
    rw [T.uS] at h2
    obtain ⟨k, e0, _⟩ := h0
    obtain ⟨m, e1, _⟩ := h1
    obtain ⟨s, e2⟩ := h2
    simp at e0 e1 e2 e3
    subst e0 e1 e2 e3
    refine ⟨.mk k m s l, by rw [Tm.cells_mk], ?_⟩
    rw [Tm.w_mk]
    simp only [qh7, qkJ, qpt, qps, qoE] at w3 ⊢
    omega
  ·unfold Lay at h
   rw [T.uL] at h
   obtain ⟨rows, rfl, hr⟩ := h
   have : ∀ rows : List (List AV), (∀ row ∈ rows, row.length = P.cellsOf tT ∧ Lay P n tT row) → ∃ l : List Tm, rows = qh l ∧ wL l ≤ wtR rows := by
    intro rows
    induction rows with
    | nil => intro _; exact ⟨[], by rw [xr], by simp⟩
    | cons r rows ihr =>
     intro h
     obtain ⟨t, e1, w1⟩ := ih.1 r (h r (by simp)).2
     obtain ⟨l, e2, w2⟩ := ihr fun q hq => h q (by simp [hq])
     refine ⟨t :: l, by rw [vA, ← e1, ← e2], ?_⟩
     simp; omega
   obtain ⟨l, rfl, w⟩ := this rows hr
   exact ⟨l, rfl, by simp; omega⟩
structure InsA where
 o : Int
 a : Int
 b : Int
 t : Tm
def InsA.av (x : InsA) : AV := .agg (.int .i64 x.o :: .int .i64 x.a :: .int .i64 x.b :: x.t.cells)
structure InsA.Ok (x : InsA) : Prop where
 o1 : -9223372036854775808 ≤ x.o
 o2 : x.o ≤ 9223372036854775807
 a1 : -9223372036854775808 ≤ x.a
 a2 : x.a ≤ 9223372036854775807
 b1 : -9223372036854775808 ≤ x.b
 b2 : x.b ≤ 9223372036854775807
 w : x.t.w < 1099511627776
def qdE : List TypeId := [39, 37, 35, 3, 9]
theorem qkm : ∀ t ∈ qdE, qdH Tryz.prog qdE t = true := by
 have : qdE.all (qdH Tryz.prog qdE) = true := by kernel_rfl
 exact List.all_eq_true.1 this
theorem qeS {n : Nat} {cz : List AV} (h : Lay Tryz.prog n 3 cz) : ∃ m : Int, cz = [.int .i64 m] ∧ -9223372036854775808 ≤ m ∧ m ≤ 9223372036854775807 := by
 cases n with
 | zero => exact absurd h (by unfold Lay; exact id)
 | succ n =>
  unfold Lay at h
  rw [Tryz.underlying3] at h
  obtain ⟨m, rfl, hm⟩ := h
  unfold Lit.wf at hm
  rw [qqi, decide_eq_true_eq, decide_eq_true_eq] at hm
  exact ⟨m, rfl, hm.1, hm.2⟩
theorem qmT {n : Nat} {cz : List AV} (h : Lay Tryz.prog n 37 cz) : ∃ t : Tm, cz = t.cells ∧ t.w < wtL cz := (qmS qnB n).1 cz h
theorem qo2 {n : Nat} {cz : List AV} (h : Lay Tryz.prog n 39 cz) : ∃ x : InsA, .agg cz = x.av ∧ x.t.w < wtL cz ∧ (x.t.w < 1099511627776 → x.Ok) := by
 cases n with
 | zero => exact absurd h (by unfold Lay; exact id)
 | succ n =>
  unfold Lay at h
  rw [Tryz.underlying39] at h
  obtain ⟨hl, hf⟩ := h
  have hl : cz.length = 7 := by rw [hl]; kernel_rfl
  match cz, hl with
  | [a, b, c, d, e, f, g], _ =>
   have h0 : Lay Tryz.prog n 3 ((([a, b, c, d, e, f, g] : List AV).drop 0).take (Tryz.prog.cellsOf 3)) := hf 0 _ rfl
   have h1 : Lay Tryz.prog n 3 ((([a, b, c, d, e, f, g] : List AV).drop 1).take (Tryz.prog.cellsOf 3)) := hf 1 _ rfl
   have h2 : Lay Tryz.prog n 3 ((([a, b, c, d, e, f, g] : List AV).drop 2).take (Tryz.prog.cellsOf 3)) := hf 2 _ rfl
   have h3 : Lay Tryz.prog n 37 ((([a, b, c, d, e, f, g] : List AV).drop 3).take (Tryz.prog.cellsOf 37)) := hf 3 _ rfl
   rw [show Tryz.prog.cellsOf 3 = 1 by kernel_rfl] at h0 h1 h2
   rw [show Tryz.prog.cellsOf 37 = 4 by kernel_rfl] at h3
   obtain ⟨x0, e0, r0⟩ := qeS h0
   obtain ⟨x1, e1, r1⟩ := qeS h1
   obtain ⟨x2, e2, r2⟩ := qeS h2
   obtain ⟨t, e3, w3⟩ := qmT h3
   simp at e0 e1 e2
   have hc3 : [d, e, f, g] = t.cells := e3
   have hw3 : t.w < wtL [d, e, f, g] := w3
   subst e0 e1 e2
   refine ⟨⟨x0, x1, x2, t⟩, ?_, ?_, fun hw => ⟨r0.1, r0.2, r1.1, r1.2, r2.1, r2.2, hw⟩⟩
   ·show AV.agg [AV.int IntKind.i64 x0, AV.int IntKind.i64 x1, AV.int IntKind.i64 x2, d, e, f, g] = AV.agg (AV.int IntKind.i64 x0 :: AV.int IntKind.i64 x1 :: AV.int IntKind.i64 x2 :: t.cells)
    rw [← hc3]
   ·simp at hw3 ⊢
    omega
theorem qnM {H : Type} {enc : TypeId × Value → H} {W : World} {r : Reach} {b0 : Nat} {v : Value} {d : DataW H} {ps : List MemPlace} (hval : Value.okWide Tryz.prog W r b0 39 v) (hd : DataW.Trod enc Tryz.prog W 0 (fun _ => true) true 39 v d ps) :
  ∃ x : InsA, Opened enc Tryz.prog W 39 v d ps x.av ∧ (Rows.uptoBulk d < 1099511627776 → x.Ok) := by
 obtain ⟨cz, n, h1, h2, h3⟩ := qj6 qkm (by simp [qdE]) Tryz.underlying39 hval hd
 obtain ⟨x, he, w0, ok⟩ := qo2 h2
 rw [he] at h1
 exact ⟨x, h1, fun hb => ok (by omega)⟩
theorem qjk : EVf (EV cfg) 164 [.agg [.int .i64 7, .int .i64 0, .str [], .sl [[.int .i64 2, .int .i64 0, .str [36, 49], .sl []], [.int .i64 2, .int .i64 0, .str [97], .sl []]]]] = some (.sl [[.int .i64 1]]) := qgc (.nil) 1000 1000 (by kernel_rfl)
theorem qjj : EVf (EV cfg) 45 [.agg [.int .i64 9, .int .i64 0, .str [], .sl [[.int .i64 7, .int .i64 0, .str [], .sl [[.int .i64 7, .int .i64 0, .str [], .sl [[.int .i64 2, .int .i64 0, .str [36, 49], .sl []], [.int .i64 2, .int .i64 0, .str [97], .sl []]]], [.int .i64 8, .int .i64 0, .str [], .sl []], [.int .i64 9, .int .i64 0, .str [], .sl [[.int .i64 2, .int .i64 0, .str [36, 49], .sl []], [.int .i64 8, .int .i64 0, .str [], .sl []]]]]], [.int .i64 8, .int .i64 0, .str [], .sl []]]]] = some (.tup [.sl [[.int .i64 7, .int .i64 0, .str [], .sl [[.int .i64 2, .int .i64 0, .str [36, 49], .sl []], [.int .i64 2, .int .i64 0, .str [97], .sl []]], .sl [], .sl [[.int .i64 2, .int .i64 0, .str [36, 49], .sl []]]]], .int .i64 0]) := qgc (.consF qjk (.nil)) 1000 1000 (by kernel_rfl)
theorem qji : EVf (EV cfg) 19 [.agg [.int .i64 9, .int .i64 0, .str [], .sl [[.int .i64 7, .int .i64 0, .str [], .sl [[.int .i64 7, .int .i64 0, .str [], .sl [[.int .i64 2, .int .i64 0, .str [36, 49], .sl []], [.int .i64 2, .int .i64 0, .str [97], .sl []]]], [.int .i64 8, .int .i64 0, .str [], .sl []], [.int .i64 9, .int .i64 0, .str [], .sl [[.int .i64 2, .int .i64 0, .str [36, 49], .sl []], [.int .i64 8, .int .i64 0, .str [], .sl []]]]]], [.int .i64 8, .int .i64 0, .str [], .sl []]]]] = some (.tup [.sl [[.int .i64 1, .int .i64 2, .int .i64 6, .int .i64 0, .int .i64 0, .str [], .sl []], [.int .i64 3, .int .i64 1, .int .i64 0, .int .i64 0, .int .i64 0, .str [], .sl []], [.int .i64 6, .int .i64 0, .int .i64 6, .int .i64 2, .int .i64 0, .str [97], .sl []], [.int .i64 18, .int .i64 0, .int .i64 0, .int .i64 0, .int .i64 0, .str [], .sl []], [.int .i64 8, .int .i64 1, .int .i64 0, .int .i64 0, .int .i64 0, .str [], .sl []], [.int .i64 20, .int .i64 0, .int .i64 0, .int .i64 0, .int .i64 0, .str [], .sl []]], .int .i64 0]) := qgc (.consF qjj (.nil)) 1000 1000 (by kernel_rfl)
theorem qjh : EVf (EV cfg) 21 [.sl [[.int .i64 1, .int .i64 2, .int .i64 6, .int .i64 0, .int .i64 0, .str [], .sl []], [.int .i64 3, .int .i64 1, .int .i64 0, .int .i64 0, .int .i64 0, .str [], .sl []], [.int .i64 6, .int .i64 0, .int .i64 6, .int .i64 2, .int .i64 0, .str [97], .sl []], [.int .i64 18, .int .i64 0, .int .i64 0, .int .i64 0, .int .i64 0, .str [], .sl []], [.int .i64 8, .int .i64 1, .int .i64 0, .int .i64 0, .int .i64 0, .str [], .sl []], [.int .i64 20, .int .i64 0, .int .i64 0, .int .i64 0, .int .i64 0, .str [], .sl []]], .agg [.int .i64 7, .int .i64 0, .str [], .sl [[.int .i64 2, .int .i64 0, .str [107], .sl []], [.int .i64 2, .int .i64 0, .str [97], .sl []]]], .int .i64 1] = some (.tup [.agg [.int .i64 2, .int .i64 0, .str [107], .sl []], .bool true, .int .i64 6, .int .i64 0]) := qgc (.nil) 1000 1000 (by kernel_rfl)
theorem qjl : EVs (EV cfg) 18 [] = some (.bool true) := qqd (.consF qji (.consF qjh (.nil))) 1000 1000 (by kernel_rfl)
def zi : List Bz := [[116, 117, 112, 108, 101], [99, 111, 110, 115], [98, 105, 110, 100], [118, 97, 114], [97, 110, 121], [115, 97, 109, 101], [99, 111, 110, 115, 116], [108, 111, 97, 100], [111, 98, 106, 101, 99, 116], [97, 108, 108], [109, 97, 107, 101], [106, 111, 105, 110], [99, 97, 108, 108], [116, 114, 117, 101], [97, 110, 100], [111, 114], [98, 111, 111, 108], [98, 111, 100, 121], [100, 114, 111, 112], [116, 101, 108, 108]]
theorem qim {l : List (List UInt8)} {i : Nat} {s : List UInt8} (h : l[i]? = some s) : (strR l)[i]? = some [AV.str s] := by simp [strR, h]
def xX (o : Int) : Bz := if 1 ≤ o ∧ o ≤ 20 then zi.getD (o - 1).toNat [] else [63]
theorem qjF {m : Nat} {s : Bz} (h : zi[m]? = some s) : s.length ≤ 6 := by
 have : ∀ s ∈ zi, s.length ≤ 6 := by decide
 exact this s (qqx h)
theorem qg8 (o : Int) : (xX o).length ≤ 6 := by
 unfold xX
 split
 ·rw [List.getD_eq_getElem?_getD]
  cases h : zi[(o - 1).toNat]? with
  | none => simp
  | some s => exact qjF h
 ·simp
theorem qib {m : Nat} (hm : m < 20) : zi[m]? = some (xX ((m : Int) + 1)) := by
 unfold xX
 rw [if_pos (by omega), show ((m : Int) + 1 - 1).toNat = m by omega, List.getD_eq_getElem?_getD]
 have : m < zi.length := hm
 rw [qqm this]
 rfl
theorem qny (o : Int) : EVs (EV cfg) 41 [.int .i64 o] = some (.str (xX o)) := by
 apply Gets.get
 refine ql3 _ ?_
 by_cases h1 : o < 1
 ·rw [decide_eq_true h1]
  unfold xX
  rw [if_neg (by omega)]
  simp
 by_cases h2 : o > 20
 ·rw [decide_eq_false h1, decide_eq_true h2]
  unfold xX
  rw [if_neg (by omega)]
  simp
 obtain ⟨m, hm⟩ := Int.eq_ofNat_of_zero_le (show 0 ≤ o - 1 by omega)
 obtain rfl : o = (m : Int) + 1 := by omega
 have hlt : m < 20 := by omega
 have hw : IntKind.wrap .i64 ((m : Int) + 1 - 1) = (m : Int) := by rw [vZ (by omega) (by omega)]; omega
 rw [decide_eq_false h1, decide_eq_false h2, hw, qP, show qz (m : Int) 20 = true by simp [qz]; omega]
 simp only [cond_false, cond_true, Bool.and_true]
 show Gets (kOpt (qqy (strR zi) (0 + qqN (m : Int))) _) _
 rw [qB, Nat.zero_add, Int.toNat_natCast, qim (qib hlt)]
 simp
def qb3 (x : InsA) : Bz := xX x.o ++ ([32] ++ vC x.a ++ [32] ++ vC x.b) ++ (if x.t.chk = 0 then 32 :: qK x.t else [])
theorem qdF {t : Tm} (h : t.chk = 0) : (qK t).length ≤ 20000000 := by
 obtain ⟨hp, hw⟩ := qe2 h
 have := (zM t hp).1
 omega
theorem qiA (x : InsA) (h : x.Ok) : EVs (EV cfg) 17 [x.av] = some (.str (qb3 x)) := by
 have hw := qml x.t h.w
 obtain ⟨o, a, b, t⟩ := x
 obtain ⟨k, n, s, l⟩ := t
 have l1 := qg8 o
 have l2 := xV a
 have l3 := xV b
 apply Gets.get
 unfold InsA.av
 simp only [Tm.cells_mk] at *
 rw [Tm.av_mk] at hw
 refine ql4 _ _ _ _ _ _ _ ?_
 unfold za1
 rw [qny, qkV h.a1 h.a2, qkV h.b1 h.b2, hw]
 simp only [qa, qd, qqO]
 rw [qm (by omega)]
 simp only [cond_true, qa, qd]
 rw [qm (by simp only [qqv, qqr, qqA]; omega)]
 simp only [cond_true, qa, qd]
 rw [qm (by simp only [qqv, qqr, qqA]; omega)]
 simp only [cond_true, qa, qd]
 rw [qm (by simp only [qqv, qqr, qqA]; omega)]
 simp only [cond_true, qa, qd]
 unfold qbP qb3
 by_cases h0 : (Tm.mk k n s l).chk = 0
 ·have l4 := qdF h0
  rw [if_pos h0, if_pos h0]
  simp only [kTup, qE, qd, qq, qV, beq_self_eq_true, cond_true]
  rw [qm (by simp only [qqv, qqr, qqA]; omega)]
  simp only [cond_true, qa, qd]
  rw [qm (by simp only [qqv, qqr, qqA]; omega)]
  simp
 ·rw [if_neg h0, if_neg h0]
  have e0 : ((Tm.mk k n s l).chk == 0) = false := by simpa using h0
  simp [kTup, e0]
theorem qkw (x : InsA) (h : x.Ok) : EVs (EV cfg) 16 [x.av] = some (.str (qb3 x)) := by
 have hw := qij x.t h.w
 obtain ⟨o, a, b, t⟩ := x
 obtain ⟨k, n, s, l⟩ := t
 have l1 := qg8 o
 have l2 := xV a
 have l3 := xV b
 apply Gets.get
 unfold InsA.av
 simp only [Tm.cells_mk] at *
 rw [Tm.av_mk] at hw
 refine ql0 _ _ _ _ _ _ _ ?_
 unfold za12 za13 za14 za15 za16 za17 za18 za19 za20 za21 za22 za2 za3 za4 za5 za6 za7 za8 za9 za10 za11 za0 za1
 rw [qnx]
 have fin : Gets (kOpt (EVs (EV cfg) 29 [AV.int .i64 a]) fun (v : AV) => kStr v fun (s_1 : List UInt8) => kOpt (bif qqB (1 + qqp s_1) 9223372036854775807 then some (AV.str ((32 : UInt8) :: s_1)) else none) fun (v : AV) => kStr v fun (s_2 : List UInt8) => kOpt (bif qqB (qqp s_2 + 1) 9223372036854775807 then some (AV.str (qqE s_2 [(32 : UInt8)])) else none) fun (v : AV) => kStr v fun (s_3 : List UInt8) => kOpt (EVs (EV cfg) 29 [AV.int .i64 b]) fun (v : AV) => kStr v fun (s_4 : List UInt8) => kOpt (bif qqB (qqp s_3 + qqp s_4) 9223372036854775807 then some (AV.str (qqE s_3 s_4)) else none) fun (v : AV) => kStr v fun (s_5 : List UInt8) => kOpt (bif qqB (qqp (xX o) + qqp s_5) 9223372036854775807 then some (AV.str (qqE (xX o) s_5)) else none) fun (v : AV) => kStr v fun (s_6 : List UInt8) => kOpt (EVf (EV cfg) 30 [AV.agg [AV.int .i64 k, AV.int .i64 n, AV.str s, AV.sl (qh l)]]) fun (v : AV) => kTup v fun (cs : List AV) => q8 cs fun (c : AV) (cs : List AV) => kStr c fun (s : List UInt8) => q8 cs fun (c : AV) (cs : List AV) => kInt .i64 c fun (n : Int) => kNil cs (bif n == (0 : Int) then kOpt (bif qqB (1 + qqp s) 9223372036854775807 then some (AV.str ((32 : UInt8) :: s)) else none) fun (v : AV) => kStr v fun (s : List UInt8) => kOpt (bif qqB (qqp s_6 + qqp s) 9223372036854775807 then some (AV.str (qqE s_6 s)) else none) fun (v : AV) => kStr v fun (s : List UInt8) => some (AV.str s) else some (AV.str s_6))) (fun r => r = AV.str (qb3 ⟨o, a, b, .mk k n s l⟩)) := by
  rw [qgX h.a1 h.a2, qgX h.b1 h.b2, hw]
  simp only [qa, qd, qqO]
  rw [qm (by omega)]
  simp only [cond_true, qa, qd]
  rw [qm (by simp only [qqv, qqr, qqA]; omega)]
  simp only [cond_true, qa, qd]
  rw [qm (by simp only [qqv, qqr, qqA]; omega)]
  simp only [cond_true, qa, qd]
  rw [qm (by simp only [qqv, qqr, qqA]; omega)]
  simp only [cond_true, qa, qd]
  unfold qbP qb3
  by_cases h0 : (Tm.mk k n s l).chk = 0
  ·have l4 := qdF h0
   rw [if_pos h0, if_pos h0]
   simp only [kTup, qE, qd, qq, qV, beq_self_eq_true, cond_true]
   rw [qm (by omega)]
   simp only [cond_true, qa, qd]
   rw [qm (by simp only [qqv, qqr, qqA]; omega)]
   simp
  ·rw [if_neg h0, if_neg h0]
   have e0 : ((Tm.mk k n s l).chk == 0) = false := by simpa using h0
   simp [kTup, e0]
 simp only [qa, zz, show (qlj.length : Int) = 21 from rfl]
 by_cases h1 : o > 0
 ·rw [decide_eq_true h1]
  simp only [cond_true]
  by_cases h2 : o < 21
  ·obtain ⟨m, hm⟩ := Int.eq_ofNat_of_zero_le (show 0 ≤ o - 1 by omega)
   obtain rfl : o = (m : Int) + 1 := by omega
   have hlt : m < 20 := by omega
   rw [decide_eq_true h2, show qg 0 ((m : Int) + 1) = true by (simp only [qg, decide_eq_true_eq]; omega), show qz ((m : Int) + 1) 21 = true by simp [qz]; omega]
   simp only [cond_true, Bool.and_true]
   have hrow : qqy qlj (qqN ((m : Int) + 1)) = some [AV.str (xX ((m : Int) + 1))] := by
    rw [qB, show qqN ((m : Int) + 1) = m + 1 by omega]
    show (strR ([] :: zi))[m + 1]? = _
    exact qim (by simpa using qib hlt)
   rw [hrow]
   simp only [qa, qqr, qqA, show qqz (0 + 1) 1 = true from rfl, cond_true, qB, List.getElem?_cons_zero, qd]
   exact fin
  ·rw [decide_eq_false h2]
   simp only [cond_false]
   have e : xX o = [63] := by unfold xX; rw [if_neg (by omega)]
   rw [e] at fin
   exact fin
 ·rw [decide_eq_false h1]
  simp only [cond_false]
  have e : xX o = [63] := by unfold xX; rw [if_neg (by omega)]
  rw [e] at fin
  exact fin
theorem qlA {l : List Tm} (hl : OkL l) (hlen : l.length < 1099511627776) : Gets (EVs (EV cfg) 15 [.sl (qh l)]) AV.IsBool := by
 have loop : ∀ (d i : Nat), i + d = l.length → Gets (qbf (qh l) i) AV.IsBool := by
  intro d
  induction d with
  | zero =>
   intro i hi
   refine qbM _ _ ?_
   rw [qy, decide_eq_false (by omega)]
   exact ⟨_, rfl, _, rfl⟩
  | succ d ihd =>
   intro i hi
   refine qbM _ _ ?_
   have hil : i < l.length := by omega
   have hxi : l[i]? = some l[i] := qqm hil
   have hb := qpM (hl.get (qqx hxi)) 400
   rw [q9 hil hlen]
   simp [hil, hxi]
   refine Gets.bind hb ?_
   rintro _ ⟨b, rfl⟩
   cases b with
   | true => exact ⟨_, rfl, _, rfl⟩
   | false => simpa using ihd (i + 1) (by omega)
 exact qiN _ (loop l.length 0 (by omega))
theorem qjg {x : InsA} (h : x.Ok) : EVs (EV cfg) 5 [x.av] = some (.bool true) := by
 have e1 := qkw x h
 have e2 := qiA x h
 have hl := qlA (l := [x.t]) (by simp only [OkL]; exact ⟨qoY x.t h.w, trivial⟩) (by simp)
 apply Gets.get
 obtain ⟨o, a, b, t⟩ := x
 obtain ⟨k, n, s, l⟩ := t
 unfold InsA.av at e1 e2 ⊢
 simp only [Tm.cells_mk, vA, xr] at e1 e2 hl ⊢
 refine qiM _ _ _ _ _ _ _ ?_
 refine Gets.bind hl ?_
 rintro _ ⟨c, rfl⟩
 cases c with
 | true => simp
 | false =>
  simp only [qY, cond_false]
  rw [e1, e2, qjl]
  simp
end Go.Proofs.YtnjonahoheopnaaGreatDoor
end
