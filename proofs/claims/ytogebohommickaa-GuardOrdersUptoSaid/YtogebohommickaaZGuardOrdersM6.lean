/-
  Parts of the proof of GuardOrdersUptoSaid, put together: the abstract evaluation and its contracts. Own work.
  What is proved: each lemma as it stands; no condition.
-/
import Derived.Test.YtogebohommickaaZGuardOrdersM5

section
/-
  GuardOrders answers true. Own work.
  What is proved: a contract of the abstract evaluation; no condition but on terms' weights.
-/
namespace Go.Av
theorem truthT_inj {a b : Bool} : truthT a = truthT b ↔ a = b := by
  constructor
  · cases a <;> cases b <;> simp [truthT, symT, tru, fal]
  · intro h; rw [h]
theorem cnd3 {β : Type} (c : Bool) (x y : β) : (bif !c then bif !!c then x else y else y) = y := by cases c <;> rfl
theorem chk_parts' {t : Tm} (h : t.chk = 0) : t.parts = true := by
  unfold Tm.chk chkS at h
  split at h
  · rename_i hp; simpa [partsL] using hp
  · cases h
end Go.Av
namespace Go.Proofs.Ytogebohommickaa
open Go.Av
set_option maxRecDepth 100000
theorem same_tru (c : Bool) : EVs (EV cfg) 17 [(truthT c).av, (symT [116, 114, 117, 101]).av] = some (.bool c) :=
  sameT_dec (truthT_ok c) (b := symT [116, 114, 117, 101]) (by rw [show symT [116, 114, 117, 101] = truthT true from rfl, truthT_inj])
theorem same_fal (c : Bool) : EVs (EV cfg) 17 [(truthT c).av, (symT [102, 97, 108, 115, 101]).av] = some (.bool (!c)) :=
  sameT_dec (truthT_ok c) (b := symT [102, 97, 108, 115, 101]) (by rw [show symT [102, 97, 108, 115, 101] = truthT false from rfl, truthT_inj]; cases c <;> simp)
theorem apply_truth {op : List UInt8} {a b : Tm} {c : Bool} (h2 : (2 : Int) ∈ opsG op) (h3 : op ≠ [42]) (wa : a.w < 1099511627776) (wb : b.w < 1099511627776) (ha : a.chk = 0) (hb : b.chk = 0) (ht : twoG op a b = some (truthT c)) :
    EVf (EV cfg) 33 [.str op, .sl (rowsT [a, b]), .int .i64 1] = some (.tup [(truthT c).av, .int .i64 0]) := by
  have := gApply2_ev op (a := a) (b := b) (pid := 1) h2 rfl wa wb (fun e => absurd e h3)
  rw [this]
  unfold apply2R
  rw [if_pos ⟨ha, hb⟩, ht]
theorem tell_step {o : Option AV} {t : Tm} {e : Int} {K : Int → Int → List UInt8 → List (List AV) → Int → Option AV} (h : o = some (.tup [t.av, .int .i64 e])) :
    (kOpt o fun (v : AV) => kTup v fun (cs : List AV) => kCons cs fun (c : AV) (cs : List AV) => kAgg c fun (cs_1 : List AV) => kCons cs_1 fun (c : AV) (cs_2 : List AV) => kInt .i64 c fun (n : Int) => kCons cs_2 fun (c : AV) (cs_3 : List AV) => kInt .i64 c fun (n_1 : Int) => kCons cs_3 fun (c : AV) (cs_4 : List AV) => kStr c fun (s : List UInt8) => kCons cs_4 fun (c : AV) (cs_5 : List AV) => kSl c fun (rows : List (List AV)) => kNil cs_5 (kCons cs fun (c : AV) (cs : List AV) => kInt .i64 c fun (n_2 : Int) => kNil cs (K n n_1 s rows n_2))) = K t.kind t.num t.str (rowsT t.subs) e := by
  subst h
  rw [Tm.av, Tm.cells_eq]
  simp only [kOptSome, kTup, kCons, kAgg, kInt_int, kStr_str, kSl_sl, kNil]
theorem orders_last {a b : Tm} {c0 c1 c2 c3 c4 : Bool} (hS : EVs (EV cfg) 17 [a.av, b.av] = some (.bool c1))
    (cs : (c0 = true ∧ c1 = false ∧ c2 = false ∧ c3 = true ∧ c4 = false) ∨ (c0 = false ∧ c1 = true ∧ c2 = false ∧ c3 = true ∧ c4 = true) ∨ (c0 = false ∧ c1 = false ∧ c2 = true ∧ c3 = false ∧ c4 = true)) :
    Gets (wj8_1 true 0 0 0 a.kind a.num a.str (rowsT a.subs) b.kind b.num b.str (rowsT b.subs) c0 c1 c2 c3 c4 (!c1) c1 (!c1) (truthT c2).kind (truthT c2).num (truthT c2).str (rowsT (truthT c2).subs)) (· = .bool true) := by
  have w0 : IntKind.wrap .i64 (0 + 1) = 1 := wrap64 (by omega) (by omega)
  have w1 : IntKind.wrap .i64 (1 + 1) = 2 := wrap64 (by omega) (by omega)
  have w2 : IntKind.wrap .i64 (2 + 1) = 3 := wrap64 (by omega) (by omega)
  have d0 : decide ((0 : Int) < 3) = true := rfl
  have d1 : decide ((1 : Int) < 3) = true := rfl
  have d2 : decide ((2 : Int) < 3) = true := rfl
  have l0 : (leInt 0 0 && ltInt 0 8) = true := rfl
  have l1 : (leInt 0 1 && ltInt 1 8) = true := rfl
  have l2 : (leInt 0 2 && ltInt 2 8) = true := rfl
  have g0 : ∀ x0 x1 x2 x3 x4 x5 x6 x7 : AV, List.get?Internal [x0, x1, x2, x3, x4, x5, x6, x7] (0 + Int.toNat 0 * 1) = some x0 := fun _ _ _ _ _ _ _ _ => rfl
  have g1 : ∀ x0 x1 x2 x3 x4 x5 x6 x7 : AV, List.get?Internal [x0, x1, x2, x3, x4, x5, x6, x7] (0 + Int.toNat 1 * 1) = some x1 := fun _ _ _ _ _ _ _ _ => rfl
  have g2 : ∀ x0 x1 x2 x3 x4 x5 x6 x7 : AV, List.get?Internal [x0, x1, x2, x3, x4, x5, x6, x7] (0 + Int.toNat 2 * 1) = some x2 := fun _ _ _ _ _ _ _ _ => rfl
  rcases cs with ⟨rfl, rfl, rfl, rfl, rfl⟩ | ⟨rfl, rfl, rfl, rfl, rfl⟩ | ⟨rfl, rfl, rfl, rfl, rfl⟩
  all_goals
    refine wj8_1_step _ _ _ _ _ _ _ _ _ _ _ _ _ _ _ _ _ _ _ _ _ _ _ _ ?_
    simp only [d0, l0, g0, cond_true, cond_false, kOptSome, kBool_bool, w0]
    refine wj8_1_step _ _ _ _ _ _ _ _ _ _ _ _ _ _ _ _ _ _ _ _ _ _ _ _ ?_
    simp only [d1, l1, g1, cond_true, cond_false, kOptSome, kBool_bool, w0, w1]
    refine wj8_1_step _ _ _ _ _ _ _ _ _ _ _ _ _ _ _ _ _ _ _ _ _ _ _ _ ?_
    simp only [d2, l2, g2, cond_true, cond_false, kOptSome, kBool_bool, w0, w1, w2]
    refine wj8_1_step _ _ _ _ _ _ _ _ _ _ _ _ _ _ _ _ _ _ _ _ _ _ _ _ ?_
    simp [kitA_ev, av_unf, same_tru, hS]
theorem guardOrders_ev {a b : Tm} (wa : a.w < 1099511627776) (wb : b.w < 1099511627776) : EVs (EV cfg) 8 [a.av, b.av] = some (.bool true) := by
  have oa := ok_of_w a wa
  have ob := ok_of_w b wb
  have hl := large17_ev (l := [a, b]) (OkL_iff.2 fun t ht => by simp at ht; rcases ht with rfl | rfl <;> assumption) (by simp) (o := zeroT) (by simp [zeroT, Tm.Ok, OkL]) 0
  have aw := guardKnown_k47
  have e2 : [[AV.int .i64 a.kind, .int .i64 a.num, .str a.str, .sl (rowsT a.subs)], [.int .i64 b.kind, .int .i64 b.num, .str b.str, .sl (rowsT b.subs)]] = rowsT [a, b] := by
    rw [rowsT_cons, rowsT_cons, rowsT_nil, Tm.cells_eq, Tm.cells_eq]
  have e3 : [[AV.int .i64 b.kind, .int .i64 b.num, .str b.str, .sl (rowsT b.subs)], [.int .i64 a.kind, .int .i64 a.num, .str a.str, .sl (rowsT a.subs)]] = rowsT [b, a] := by
    rw [rowsT_cons, rowsT_cons, rowsT_nil, Tm.cells_eq, Tm.cells_eq]
  apply Gets.get
  rw [Tm.av, Tm.av, Tm.cells_eq a, Tm.cells_eq b]
  refine tenurelaw17_GuardOrders_run _ _ _ _ _ _ _ _ ?_
  rw [aw, e2]
  simp only [kOptSome, kBool_bool]
  have ez : AV.agg [.int .i64 0, .int .i64 0, .str [], .sl [], .sl [], .int .i64 0] = AV.agg [.int .i64 zeroT.kind, .int .i64 zeroT.num, .str zeroT.str, .sl (rowsT zeroT.subs), .sl [], .int .i64 0] := by simp [zeroT]
  rw [ez]
  refine Gets.bind hl ?_
  rintro _ ⟨bl, rfl⟩
  cases bl
  case true => simp
  simp only [kBool_bool, cond_false]
  by_cases hch : a.chk = 0 ∧ b.chk = 0
  case neg =>
    refine wj8_0_step _ _ _ _ _ _ _ _ _ ?_
    rw [e2]
    have := gApply2_ev [60] (a := a) (b := b) (pid := 1) (by decide) rfl wa wb (fun e => by cases e)
    unfold apply2R at this
    rw [if_neg hch] at this
    rw [tell_step this]
    exact ⟨_, rfl, rfl⟩
  obtain ⟨ha, hb⟩ := hch
  have hneg := cmpT_neg a b
  have hal : cmpT a b = 0 ↔ a = b := ⟨cmpT_alike a (chk_parts' ha) b (chk_parts' hb), fun h => by rw [h, cmpT_self]⟩
  have A0 := apply_truth (op := [60]) (c := decide (cmpT a b < 0)) (by decide) (by decide) wa wb ha hb (by simp [twoG])
  have A1 := apply_truth (op := [61, 61]) (c := decide (cmpT a b = 0)) (by decide) (by decide) wa wb ha hb (by simp [twoG])
  have A2 := apply_truth (op := [62]) (c := decide (cmpT a b > 0)) (by decide) (by decide) wa wb ha hb (by simp [twoG])
  have A3 := apply_truth (op := [61, 60]) (c := decide (cmpT a b ≤ 0)) (by decide) (by decide) wa wb ha hb (by simp [twoG])
  have A4 := apply_truth (op := [62, 61]) (c := decide (cmpT a b ≥ 0)) (by decide) (by decide) wa wb ha hb (by simp [twoG])
  have A5 := apply_truth (op := [47, 61]) (c := !decide (cmpT a b = 0)) (by decide) (by decide) wa wb ha hb (by simp [twoG])
  have A6 := apply_truth (op := [61, 58, 61]) (c := decide (cmpT a b = 0)) (by decide) (by decide) wa wb ha hb (by simp [twoG])
  have A7 := apply_truth (op := [61, 47, 61]) (c := !decide (cmpT a b = 0)) (by decide) (by decide) wa wb ha hb (by simp [twoG])
  have AB := apply_truth (op := [60]) (c := decide (cmpT b a < 0)) (by decide) (by decide) wb wa hb ha (by simp [twoG])
  have hS : EVs (EV cfg) 17 [a.av, b.av] = some (.bool (decide (cmpT a b = 0))) := sameT_dec oa (by simpa using hal)
  have hab : decide (cmpT b a < 0) = decide (cmpT a b > 0) := decide_eq_decide.2 (by omega)
  rw [hab] at AB
  obtain ⟨c0, h0⟩ : ∃ c, decide (cmpT a b < 0) = c := ⟨_, rfl⟩
  obtain ⟨c1, h1⟩ : ∃ c, decide (cmpT a b = 0) = c := ⟨_, rfl⟩
  obtain ⟨c2, h2⟩ : ∃ c, decide (cmpT a b > 0) = c := ⟨_, rfl⟩
  obtain ⟨c3, h3⟩ : ∃ c, decide (cmpT a b ≤ 0) = c := ⟨_, rfl⟩
  obtain ⟨c4, h4⟩ : ∃ c, decide (cmpT a b ≥ 0) = c := ⟨_, rfl⟩
  rw [h0] at A0
  rw [h1] at A1 A5 A6 A7 hS
  rw [h2] at A2 AB
  rw [h3] at A3
  rw [h4] at A4
  have cs : (c0 = true ∧ c1 = false ∧ c2 = false ∧ c3 = true ∧ c4 = false) ∨ (c0 = false ∧ c1 = true ∧ c2 = false ∧ c3 = true ∧ c4 = true) ∨ (c0 = false ∧ c1 = false ∧ c2 = true ∧ c3 = false ∧ c4 = true) := by
    subst h0 h1 h2 h3 h4
    rcases Int.lt_trichotomy (cmpT a b) 0 with h | h | h
    · exact .inl ⟨decide_eq_true h, decide_eq_false (by omega), decide_eq_false (by omega), decide_eq_true (by omega), decide_eq_false (by omega)⟩
    · exact .inr (.inl ⟨decide_eq_false (by omega), decide_eq_true h, decide_eq_false (by omega), decide_eq_true (by omega), decide_eq_true (by omega)⟩)
    · exact .inr (.inr ⟨decide_eq_false (by omega), decide_eq_false (by omega), decide_eq_true h, decide_eq_false (by omega), decide_eq_true (by omega)⟩)
  clear h0 h1 h2 h3 h4 hab
  have z0 : ((0 : Int) != 0) = false := rfl
  have last := orders_last hS cs
  refine wj8_0_step _ _ _ _ _ _ _ _ _ ?_
  rw [e2, tell_step A0]
  simp only [z0, cond_false, kitA_ev, kOptSome, kTmV_av, av_unf, same_tru, same_fal, kBool_bool, cnd3]
  refine wj8_0a_step _ _ _ _ _ _ _ _ _ _ ?_
  rw [e2, tell_step A1]
  simp only [z0, cond_false, kitA_ev, kOptSome, kTmV_av, av_unf, same_tru, same_fal, kBool_bool, cnd3]
  refine wj8_0b_step _ _ _ _ _ _ _ _ _ _ _ ?_
  rw [e2, tell_step A2]
  simp only [z0, cond_false, kitA_ev, kOptSome, kTmV_av, av_unf, same_tru, same_fal, kBool_bool, cnd3]
  refine wj8_0c_step _ _ _ _ _ _ _ _ _ _ _ _ ?_
  rw [e2, tell_step A3]
  simp only [z0, cond_false, kitA_ev, kOptSome, kTmV_av, av_unf, same_tru, same_fal, kBool_bool, cnd3]
  refine wj8_0d_step _ _ _ _ _ _ _ _ _ _ _ _ _ ?_
  rw [e2, tell_step A4]
  simp only [z0, cond_false, kitA_ev, kOptSome, kTmV_av, av_unf, same_tru, same_fal, kBool_bool, cnd3]
  refine wj8_0e_step _ _ _ _ _ _ _ _ _ _ _ _ _ _ ?_
  rw [e2, tell_step A5]
  simp only [z0, cond_false, kitA_ev, kOptSome, kTmV_av, av_unf, same_tru, same_fal, kBool_bool, cnd3]
  refine wj8_0f_step _ _ _ _ _ _ _ _ _ _ _ _ _ _ _ ?_
  rw [e2, tell_step A6]
  simp only [z0, cond_false, kitA_ev, kOptSome, kTmV_av, av_unf, same_tru, same_fal, kBool_bool, cnd3]
  refine wj8_0g_step _ _ _ _ _ _ _ _ _ _ _ _ _ _ _ _ ?_
  rw [e2, tell_step A7]
  simp only [z0, cond_false, kitA_ev, kOptSome, kTmV_av, av_unf, same_tru, same_fal, kBool_bool, cnd3]
  refine wj8_0h_step _ _ _ _ _ _ _ _ _ _ _ _ _ _ _ _ _ ?_
  rw [e3, tell_step AB]
  exact last
end Go.Proofs.Ytogebohommickaa
end
