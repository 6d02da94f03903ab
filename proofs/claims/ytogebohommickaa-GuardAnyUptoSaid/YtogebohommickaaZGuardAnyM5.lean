/-
  Parts of the proof of GuardAnyUptoSaid, put together: the abstract evaluation and its contracts. Own work.
  What is proved: each lemma as it stands; no condition.
-/
import Derived.Test.YtogebohommickaaZGuardAnyM4

section
namespace Go.Av
theorem and_mask {a : Nat} (ha : a < 18446744073709551616) : fromSem (Op.intBits .and .u64 (a : Int) 4294967295) = some (.int .u64 ((a % 4294967296 : Nat) : Int)) := by
  have : fromSem (Op.intBits .and .u64 (a : Int) 4294967295) = some (.int .u64 (IntKind.wrap .u64 (BitVec.ofInt 64 (a : Int) &&& BitVec.ofInt 64 4294967295).toNat)) := rfl
  rw [this]
  have ea : (BitVec.ofInt 64 (a : Int)).toNat = a := by simp [BitVec.toNat_ofInt]; omega
  have eb : (BitVec.ofInt 64 (4294967295 : Int)).toNat = 2 ^ 32 - 1 := by decide
  rw [BitVec.toNat_and, ea, eb, Nat.and_two_pow_sub_one_eq_mod, wrapU (by omega)]
theorem shr_32 {a : Nat} (_ha : a < 18446744073709551616) : fromSem (Op.shift .shr .u64 (a : Int) .u64 32) = some (.int .u64 ((a / 4294967296 : Nat) : Int)) := by
  have : fromSem (Op.shift .shr .u64 (a : Int) .u64 32) = some (.int .u64 (Int.fdiv a (2 ^ (min (32 : Int).toNat 64)))) := by
    unfold Op.shift
    rw [if_neg (by omega)]; rfl
  rw [this]
  have e : ((2 : Int) ^ (min (32 : Int).toNat 64)) = ((4294967296 : Nat) : Int) := by decide
  rw [e, Int.fdiv_eq_ediv_of_nonneg _ (Int.natCast_nonneg _)]
  rfl
theorem wrapU' {n : Int} {m : Nat} (h : n = (m : Int)) (hm : m < 18446744073709551616) : IntKind.wrap .u64 n = (m : Int) := by rw [h, wrapU hm]
theorem wrapU_mod (n : Nat) : IntKind.wrap .u64 (n : Int) = ((n % 18446744073709551616 : Nat) : Int) := by
  simp [IntKind.wrap, IntKind.bits, IntKind.signed]
theorem hi_parts {a b : Nat} (ha : a < 18446744073709551616) (hb : b < 18446744073709551616) :
    let p := a / 4294967296 * (b % 4294967296); let q := a % 4294967296 * (b / 4294967296); let r := a % 4294967296 * (b % 4294967296); let s := a / 4294967296 * (b / 4294967296)
    r < 18446744073709551616 ∧ p < 18446744073709551616 ∧ q < 18446744073709551616 ∧ s < 18446744073709551616 ∧ p + r / 4294967296 < 18446744073709551616 ∧ (p + r / 4294967296) % 4294967296 + q < 18446744073709551616 ∧ s + (p + r / 4294967296) / 4294967296 < 18446744073709551616 ∧
    s + (p + r / 4294967296) / 4294967296 + ((p + r / 4294967296) % 4294967296 + q) / 4294967296 = a * b / 18446744073709551616 ∧ a * b / 18446744073709551616 < 18446744073709551616 := by
  intro p q r s
  have ea : a = a / 4294967296 * 4294967296 + a % 4294967296 := by omega
  have eb : b = b / 4294967296 * 4294967296 + b % 4294967296 := by omega
  have e : a * b = s * 18446744073709551616 + (p + q) * 4294967296 + r := by
    show a * b = (a / 4294967296 * (b / 4294967296)) * 18446744073709551616 + (a / 4294967296 * (b % 4294967296) + a % 4294967296 * (b / 4294967296)) * 4294967296 + a % 4294967296 * (b % 4294967296)
    generalize a / 4294967296 = x1 at *
    generalize a % 4294967296 = x0 at *
    generalize b / 4294967296 = y1 at *
    generalize b % 4294967296 = y0 at *
    rw [ea, eb]
    have h1 : x1 * 4294967296 * (y1 * 4294967296) = x1 * y1 * 18446744073709551616 := by
      rw [Nat.mul_mul_mul_comm]
    have h2 : x1 * 4294967296 * y0 = x1 * y0 * 4294967296 := by rw [Nat.mul_right_comm]
    have h3 : x0 * (y1 * 4294967296) = x0 * y1 * 4294967296 := by rw [Nat.mul_assoc]
    rw [Nat.add_mul, Nat.mul_add, Nat.mul_add, h1, h2, h3]
    omega
  have bp : p ≤ 4294967295 * 4294967295 := Nat.mul_le_mul (by omega) (by omega)
  have bq : q ≤ 4294967295 * 4294967295 := Nat.mul_le_mul (by omega) (by omega)
  have br : r ≤ 4294967295 * 4294967295 := Nat.mul_le_mul (by omega) (by omega)
  have bs : s ≤ 4294967295 * 4294967295 := Nat.mul_le_mul (by omega) (by omega)
  have hab : a * b < 18446744073709551616 * 18446744073709551616 := Nat.mul_lt_mul'' ha hb
  clear_value p q r s
  rw [e] at hab ⊢
  clear e ea eb
  refine ⟨by omega, by omega, by omega, by omega, by omega, by omega, by omega, by omega, by omega⟩
end Go.Av
namespace Go.Proofs.Ytogebohommickaa
open Go.Av
theorem mul64_ev {a b : Nat} (ha : a < 18446744073709551616) (hb : b < 18446744073709551616) :
    EVs (EV cfg) 100 [.int .u64 (a : Int), .int .u64 (b : Int)] = some (.tup [.int .u64 ((a * b / 18446744073709551616 : Nat) : Int), .int .u64 ((a * b % 18446744073709551616 : Nat) : Int)]) := by
  obtain ⟨h1, h2, h3, h4, h5, h6, h7, h8, h9⟩ := hi_parts ha hb
  have w0 : IntKind.wrap .u64 (((a % 4294967296 : Nat) : Int) * ((b % 4294967296 : Nat) : Int)) = ((a % 4294967296 * (b % 4294967296) : Nat) : Int) := wrapU' (Int.natCast_mul _ _).symm h1
  have w1 : IntKind.wrap .u64 (((a / 4294967296 : Nat) : Int) * ((b % 4294967296 : Nat) : Int)) = ((a / 4294967296 * (b % 4294967296) : Nat) : Int) := wrapU' (Int.natCast_mul _ _).symm h2
  have w2 : IntKind.wrap .u64 (((a % 4294967296 : Nat) : Int) * ((b / 4294967296 : Nat) : Int)) = ((a % 4294967296 * (b / 4294967296) : Nat) : Int) := wrapU' (Int.natCast_mul _ _).symm h3
  have w3 : IntKind.wrap .u64 (((a / 4294967296 : Nat) : Int) * ((b / 4294967296 : Nat) : Int)) = ((a / 4294967296 * (b / 4294967296) : Nat) : Int) := wrapU' (Int.natCast_mul _ _).symm h4
  have w4 : IntKind.wrap .u64 ((a : Int) * (b : Int)) = ((a * b % 18446744073709551616 : Nat) : Int) := by rw [← Int.natCast_mul, wrapU_mod]
  apply Gets.get
  refine mul64_run _ _ ?_
  rw [and_mask ha, shr_32 ha, and_mask hb, shr_32 hb]
  simp only [kOptSome, kInt_int, w0, w1, w2, w3, w4]
  rw [shr_32 h1]
  simp only [kOptSome, kInt_int]
  rw [wrapU' (Int.natCast_add _ _).symm h5, and_mask h5, shr_32 h5]
  simp only [kOptSome, kInt_int]
  rw [wrapU' (Int.natCast_add _ _).symm h6, shr_32 h6]
  simp only [kOptSome, kInt_int]
  rw [wrapU' (Int.natCast_add _ _).symm h7, wrapU' (Int.natCast_add _ _).symm (by rw [h8]; exact h9), h8]
  exact ⟨_, rfl, rfl⟩
theorem product_ok : ProductOk := by
  intro e a b ha hb
  obtain ⟨a1, a2⟩ := ha
  obtain ⟨b1, b2⟩ := hb
  -- what follows the two signs
  have fin : ∀ (x y : Nat) (sg : Int), x ≤ 576460752303423488 → y ≤ 576460752303423488 → (sg = 1 ∨ sg = -1) → a * b = sg * (x * y : Nat) →
      Gets (kOpt (EVs (EV cfg) 100 [.int .u64 (x : Int), .int .u64 (y : Int)]) fun (v : AV) => kTup v fun (cs : List AV) => kCons cs fun (c : AV) (cs : List AV) => kInt .u64 c fun (n : Int) => kCons cs fun (c : AV) (cs : List AV) => kInt .u64 c fun (n_1 : Int) => kNil cs (bif decide (n > (0 : Int)) then kOpt (EVd (EV cfg) 77 [.ptr 0 0 0] 7 (mR e false)) fun (q : AV × List (List AV)) => kTmV q.1 fun (n n_2 : Int) (s : List UInt8) (rows : List (List AV)) => (some (.agg [.int .i64 n, .int .i64 n_2, .str s, .sl rows], q.2)) else bif decide (n_1 > (576460752303423488 : Int)) then kOpt (EVd (EV cfg) 77 [.ptr 0 0 0] 7 (mR e false)) fun (q : AV × List (List AV)) => kTmV q.1 fun (n n_2 : Int) (s : List UInt8) (rows : List (List AV)) => (some (.agg [.int .i64 n, .int .i64 n_2, .str s, .sl rows], q.2)) else kOpt (EVd (EV cfg) 80 [.ptr 0 0 0, .int .i64 (IntKind.wrap .i64 (sg * IntKind.wrap .i64 n_1))] 7 (mR e false)) fun (q : AV × List (List AV)) => kTmV q.1 fun (n n_2 : Int) (s : List UInt8) (rows : List (List AV)) => (some (.agg [.int .i64 n, .int .i64 n_2, .str s, .sl rows], q.2)))) (Res e (withinG (a * b))) := by
    intro x y sg hx hy hsg hab
    rw [mul64_ev (by omega) (by omega)]
    simp only [kOptSome, kTup, kCons, kInt_int, kNil, mRaise_ev, kTmV_av, av_unf]
    have hbad : (x * y : Nat) > 576460752303423488 → withinG (a * b) = none := by
      intro h
      unfold withinG
      rw [if_neg]
      rintro ⟨h1, h2⟩
      rw [hab] at h1 h2
      rcases hsg with rfl | rfl <;> omega
    rw [hab] at hbad ⊢
    generalize x * y = p at *
    by_cases c1 : p / 18446744073709551616 > 0
    · rw [decide_eq_true (by omega), cond_true, hbad (by omega)]; exact ret_true
    · rw [decide_eq_false (by omega), cond_false]
      have ep : p % 18446744073709551616 = p := by omega
      rw [ep]
      by_cases c2 : p > 576460752303423488
      · rw [decide_eq_true (by omega), cond_true, hbad c2]; exact ret_true
      · rw [decide_eq_false (by omega), cond_false, wrap64 (x := (p : Int)) (by omega) (by omega)]
        have : IntKind.wrap .i64 (sg * (p : Int)) = sg * p := by rcases hsg with rfl | rfl <;> exact wrap64 (by omega) (by omega)
        rw [this]
        exact Gets.bind (mNumber_within e _ fun r h1 h2 => h1) fun r h => ret_res h (Res_tm h)
  have wneg : ∀ z : Int, -576460752303423488 ≤ z → z < 0 → IntKind.wrap .u64 (IntKind.wrap .i64 (0 - z)) = ((-z).toNat : Int) := by
    intro z h1 h2
    rw [wrap64 (by omega) (by omega)]
    exact wrapU' (by omega) (by omega)
  have wpos : ∀ z : Int, 0 ≤ z → z ≤ 576460752303423488 → IntKind.wrap .u64 z = (z.toNat : Int) := fun z h1 h2 => wrapU' (by omega) (by omega)
  refine mProduct_run _ _ _ _ _ _ _ _ _ ?_
  by_cases ca : a < 0
  · rw [decide_eq_true ca, cond_true]
    by_cases cb : b < 0
    · rw [decide_eq_true cb, cond_true, wneg a a1 ca, wneg b b1 cb]
      refine fin (-a).toNat (-b).toNat 1 (by omega) (by omega) (Or.inl rfl) ?_
      rw [Int.natCast_mul, Int.toNat_of_nonneg (by omega), Int.toNat_of_nonneg (by omega), Int.neg_mul_neg, Int.one_mul]
    · rw [decide_eq_false cb, cond_false, wneg a a1 ca, wpos b (by omega) (by omega)]
      refine fin (-a).toNat b.toNat (-1) (by omega) (by omega) (Or.inr rfl) ?_
      rw [Int.natCast_mul, Int.toNat_of_nonneg (by omega), Int.toNat_of_nonneg (by omega), Int.neg_mul, Int.one_mul, Int.neg_mul, Int.neg_neg]
  · rw [decide_eq_false ca, cond_false]
    by_cases cb : b < 0
    · rw [decide_eq_true cb, cond_true, wpos a (by omega) (by omega), wneg b b1 cb]
      refine fin a.toNat (-b).toNat (-1) (by omega) (by omega) (Or.inr rfl) ?_
      rw [Int.natCast_mul, Int.toNat_of_nonneg (by omega), Int.toNat_of_nonneg (by omega), Int.neg_mul, Int.one_mul, Int.mul_neg, Int.neg_neg]
    · rw [decide_eq_false cb, cond_false, wpos a (by omega) (by omega), wpos b (by omega) (by omega)]
      refine fin a.toNat b.toNat 1 (by omega) (by omega) (Or.inl rfl) ?_
      rw [Int.natCast_mul, Int.toNat_of_nonneg (by omega), Int.toNat_of_nonneg (by omega), Int.one_mul]
end Go.Proofs.Ytogebohommickaa
end

section
namespace Go.Proofs.Ytogebohommickaa
open Go.Av
set_option maxRecDepth 1000000
theorem guardKnown_k0 : EVs (EV cfg) 36 [.agg [.int .i64 7, .int .i64 0, .str [], .sl [[.int .i64 2, .int .i64 0, .str [107], .sl []], [.int .i64 1, .int .i64 3, .str [], .sl []]]]] = some (.int .i64 0) := factS (.nil) 1000 1000 (by kernel_rfl)
theorem guardKnown_k1 : EVf (EV cfg) 41 [.agg [.int .i64 7, .int .i64 0, .str [], .sl [[.int .i64 2, .int .i64 0, .str [107], .sl []], [.int .i64 1, .int .i64 3, .str [], .sl []]], .sl [[.int .i64 1, .int .i64 2, .int .i64 0, .str [107], .sl []], [.int .i64 2, .int .i64 1, .int .i64 3, .str [], .sl []]], .int .i64 1]] = some (.tup [.sl [[.int .i64 1], [.int .i64 2]], .bool true]) := factF (.consS guardKnown_k0 (.nil)) 1000 1000 (by kernel_rfl)
theorem guardKnown_k3 : EVs (EV cfg) 51 [.agg [.int .i64 2, .int .i64 0, .str [36, 49], .sl []]] = some (.tup [.int .i64 1, .bool true]) := factS (.nil) 1000 1000 (by kernel_rfl)
theorem guardKnown_k4 : EVs (EV cfg) 51 [.agg [.int .i64 2, .int .i64 0, .str [36, 50], .sl []]] = some (.tup [.int .i64 2, .bool true]) := factS (.nil) 1000 1000 (by kernel_rfl)
theorem guardKnown_k5 : EVf (EV cfg) 59 [.sl [[.int .i64 1, .int .i64 2, .int .i64 0, .str [107], .sl []], [.int .i64 2, .int .i64 1, .int .i64 3, .str [], .sl []]], .int .i64 1] = some (.tup [.agg [.int .i64 2, .int .i64 0, .str [107], .sl []], .bool true]) := factF (.nil) 1000 1000 (by kernel_rfl)
theorem guardKnown_k6 : EVf (EV cfg) 59 [.sl [[.int .i64 1, .int .i64 2, .int .i64 0, .str [107], .sl []], [.int .i64 2, .int .i64 1, .int .i64 3, .str [], .sl []]], .int .i64 2] = some (.tup [.agg [.int .i64 1, .int .i64 3, .str [], .sl []], .bool true]) := factF (.nil) 1000 1000 (by kernel_rfl)
theorem guardKnown_k35 : EVs (EV cfg) 36 [.agg [.int .i64 7, .int .i64 0, .str [], .sl [[.int .i64 2, .int .i64 0, .str [61, 61], .sl []], [.int .i64 2, .int .i64 0, .str [36, 49], .sl []], [.int .i64 2, .int .i64 0, .str [107], .sl []]]]] = some (.int .i64 0) := factS (.nil) 1000 1000 (by kernel_rfl)
theorem guardKnown_k36 : EVs (EV cfg) 86 [.sl [[.int .i64 2, .int .i64 0, .str [36, 49], .sl []], [.int .i64 2, .int .i64 0, .str [107], .sl []]], .fn (.func 73) [] [.cptr [.sl [[.int .i64 1], [.int .i64 2]]] 0]] = some (.int .i64 (-1)) := factS (.consS guardKnown_k3 (.nil)) 1000 1000 (by kernel_rfl)
theorem guardKnown_k37 : EVf (EV cfg) 20 [.agg [.int .i64 7, .int .i64 0, .str [], .sl [[.int .i64 2, .int .i64 0, .str [61, 61], .sl []], [.int .i64 2, .int .i64 0, .str [36, 49], .sl []], [.int .i64 2, .int .i64 0, .str [107], .sl []]]], .agg [.int .i64 7, .int .i64 0, .str [], .sl [[.int .i64 2, .int .i64 0, .str [107], .sl []], [.int .i64 1, .int .i64 3, .str [], .sl []]], .sl [[.int .i64 1, .int .i64 2, .int .i64 0, .str [107], .sl []], [.int .i64 2, .int .i64 1, .int .i64 3, .str [], .sl []]], .int .i64 1]] = some (.tup [.agg [.int .i64 2, .int .i64 0, .str [116, 114, 117, 101], .sl []], .int .i64 0]) := factF (.consF guardKnown_k1 (.consS guardKnown_k35 (.consS guardKnown_k36 (.consS guardKnown_k3 (.consF guardKnown_k5 (.nil)))))) 1000 1000 (by kernel_rfl)
theorem guardKnown_k42 : EVs (EV cfg) 36 [.agg [.int .i64 7, .int .i64 0, .str [], .sl [[.int .i64 2, .int .i64 0, .str [43], .sl []], [.int .i64 2, .int .i64 0, .str [36, 50], .sl []], [.int .i64 1, .int .i64 4, .str [], .sl []]]]] = some (.int .i64 0) := factS (.nil) 1000 1000 (by kernel_rfl)
theorem guardKnown_k43 : EVs (EV cfg) 37 [.agg [.int .i64 7, .int .i64 0, .str [], .sl [[.int .i64 2, .int .i64 0, .str [43], .sl []], [.int .i64 2, .int .i64 0, .str [36, 50], .sl []], [.int .i64 1, .int .i64 4, .str [], .sl []]]], .sl [[.int .i64 1], [.int .i64 2]]] = some (.bool true) := factS (.consS guardKnown_k4 (.nil)) 1000 1000 (by kernel_rfl)
theorem guardKnown_k44 : EVf (EV cfg) 20 [.agg [.int .i64 7, .int .i64 0, .str [], .sl [[.int .i64 2, .int .i64 0, .str [43], .sl []], [.int .i64 2, .int .i64 0, .str [36, 50], .sl []], [.int .i64 1, .int .i64 4, .str [], .sl []]]], .agg [.int .i64 7, .int .i64 0, .str [], .sl [[.int .i64 2, .int .i64 0, .str [107], .sl []], [.int .i64 1, .int .i64 3, .str [], .sl []]], .sl [[.int .i64 1, .int .i64 2, .int .i64 0, .str [107], .sl []], [.int .i64 2, .int .i64 1, .int .i64 3, .str [], .sl []]], .int .i64 1]] = some (.tup [.agg [.int .i64 1, .int .i64 7, .str [], .sl []], .int .i64 0]) := factF (.consF guardKnown_k1 (.consS guardKnown_k42 (.consS guardKnown_k43 (.consS guardKnown_k4 (.consF guardKnown_k6 (.nil)))))) 1000 1000 (by kernel_rfl)
theorem guardKnown_k45 : EVs (EV cfg) 36 [.agg [.int .i64 7, .int .i64 0, .str [], .sl [[.int .i64 2, .int .i64 0, .str [104, 100], .sl []], [.int .i64 8, .int .i64 0, .str [], .sl []]]]] = some (.int .i64 0) := factS (.nil) 1000 1000 (by kernel_rfl)
theorem guardKnown_k46 : EVf (EV cfg) 20 [.agg [.int .i64 7, .int .i64 0, .str [], .sl [[.int .i64 2, .int .i64 0, .str [104, 100], .sl []], [.int .i64 8, .int .i64 0, .str [], .sl []]]], .agg [.int .i64 7, .int .i64 0, .str [], .sl [[.int .i64 2, .int .i64 0, .str [107], .sl []], [.int .i64 1, .int .i64 3, .str [], .sl []]], .sl [[.int .i64 1, .int .i64 2, .int .i64 0, .str [107], .sl []], [.int .i64 2, .int .i64 1, .int .i64 3, .str [], .sl []]], .int .i64 1]] = some (.tup [.agg [.int .i64 0, .int .i64 0, .str [], .sl []], .int .i64 10]) := factF (.consF guardKnown_k1 (.consS guardKnown_k45 (.nil))) 1000 1000 (by kernel_rfl)
theorem guardKnown_k47 : EVs (EV cfg) 19 [] = some (.bool true) := factS (.consF guardKnown_k44 (.consF guardKnown_k46 (.consF guardKnown_k1 (.consF guardKnown_k37 (.nil))))) 1000 1000 (by kernel_rfl)
end Go.Proofs.Ytogebohommickaa
end

section
namespace Go.Proofs.Ytogebohommickaa
open Go.Av
set_option maxRecDepth 100000
set_option maxHeartbeats 0

theorem kitPick_run (a : Int) (n : Int) {P : AV → Prop} (h : Gets (bif decide (n < (1 : Int)) then some (.int .i64 (0 : Int)) else kOpt (fromSem (Op.intDiv BinOp.rem .i64 a n)) fun (v : AV) => kInt .i64 v fun (n_1 : Int) => bif decide (n_1 < (0 : Int)) 
  then some (.int .i64 (IntKind.wrap .i64 (n_1 + n))) else some (.int .i64 n_1)) P) : Gets (EVs (EV cfg) 24 ([AV.int IntKind.i64 a, AV.int IntKind.i64 n] : List AV)) P :=
  Gets.ev (fun _ h => funS rfl rfl Try.func24 rfl h) (Gets.eq (by kernel_rfl) h)

end Go.Proofs.Ytogebohommickaa
end

section
namespace Go.Av
theorem symT_chk {s : List UInt8} (h : s.length ≤ 64) : (symT s).chk = 0 := by
  have h1 : (symT s).sound = true := by
    show soundB 2 0 s 0 = true
    unfold soundB
    rw [if_neg (by omega), if_pos rfl]
    simp [h]
  refine chk_zero.2 ⟨?_, ?_⟩
  · rw [Tm.parts_eq, h1]; rfl
  · rw [Tm.words_eq]
    show Tm.own (symT s) + wordsL [] ≤ 65536
    have := (symT s).own_le
    simp [wordsL]; omega
theorem symT_var {s : List UInt8} (h : s.length ≤ 64) : varT (symT s) = varG s := by
  unfold varT
  rw [if_pos ⟨rfl, symT_chk h⟩]; rfl
end Go.Av
namespace Go.Proofs.Ytogebohommickaa
open Go.Av
end Go.Proofs.Ytogebohommickaa
end

section
namespace Go.Proofs.Ytogebohommickaa
open Go.Av
set_option maxRecDepth 100000
set_option maxHeartbeats 0

noncomputable def Jb5_0 : List AV × AH → Option AV := fun p => kOpt (CUT p) fun p => kCode cfg (EV cfg) (kfN cfg 6) 5 none 0 (sub (bodyOf Try.f5) [1, 1, 1]) p.1 p.2 (kRun cfg (EV cfg) (kfN cfg 6) 5 none 0 (kFinS cfg (Cfg.lift cfg 5 0) Try.f5.results.toList) ([]))
noncomputable def Jb5_1 : List AV × AH → Option AV := fun p => kOpt (CUT p) fun p => kCode cfg (EV cfg) (kfN cfg 6) 5 none 0 (sub (bodyOf Try.f5) [1, 1, 1, 1, 1]) p.1 p.2 (kRun cfg (EV cfg) (kfN cfg 6) 5 none 0 (kFinS cfg (Cfg.lift cfg 5 0) Try.f5.results.toList) ([]))
noncomputable def Lb5_0 : Den := evC cfg (EV cfg) 5 none 0 (sub (bodyOf Try.f5) [1, 1, 1, 1, 1, 1, 0, 1, 0, 0])
noncomputable def Ab5_0 : Ex × List AV × AH → Option AV := kAft (Cfg.keepOut cfg 5 8) (kRun cfg (EV cfg) (kfN cfg 6) 5 none 0 (kFinS cfg (Cfg.lift cfg 5 0) Try.f5.results.toList) ([.block 0, .seq (sub (bodyOf Try.f5) [1, 1, 1, 1, 1, 1, 1])]))
noncomputable def Wb5_0 : List AV × AH → Option AV := fun p => kOpt (LOOP 0 (some [0, 4, 7, 9, 10, 11]) ([(9, 4)]) Lb5_0 p) Ab5_0
noncomputable def Jb5_2 : List AV × AH → Option AV := fun p => kOpt (CUT p) fun p => kCode cfg (EV cfg) (kfN cfg 6) 5 none 0 (sub (bodyOf Try.f5) [1, 1, 1, 1, 1, 1, 1]) p.1 p.2 (kRun cfg (EV cfg) (kfN cfg 6) 5 none 0 (kFinS cfg (Cfg.lift cfg 5 0) Try.f5.results.toList) ([]))
noncomputable def Jb5_3 : List AV × AH → Option AV := fun p => kOpt (CUT p) fun p => kCode cfg (EV cfg) (kfN cfg 6) 5 none 0 (sub (bodyOf Try.f5) [1, 1, 1, 1, 1, 1, 1, 1]) p.1 p.2 (kRun cfg (EV cfg) (kfN cfg 6) 5 none 0 (kFinS cfg (Cfg.lift cfg 5 0) Try.f5.results.toList) ([]))
noncomputable abbrev jb5_0 (v0 : List (List AV)) (v2 : Int) (v7 : Bool) (c0_0 : Int) (c0_1 : Int) (c0_2 : List UInt8) (c0_3 : List (List AV)) (c0_4 : List (List AV)) (c0_5 : Int) : Option (AV) := Jb5_0  (((fx 78 [(0, AV.sl v0), (2, AV.int IntKind.i64 v2), (4, AV.ptr (0 : Nat) (0 : Nat) (0 : Nat)), (7, AV.bool v7)]) : List AV), ([ABlk.rows false (6 : Nat) [[AV.int IntKind.i64 c0_0, AV.int IntKind.i64 c0_1, AV.str c0_2, AV.sl c0_3, AV.sl c0_4, AV.int IntKind.i64 c0_5]]] : AH))
noncomputable abbrev jb5_1 (v0 : List (List AV)) (v7 : Bool) (nv9 : Nat) (c0_0 : Int) (c0_1 : Int) (c0_2 : List UInt8) (c0_3 : List (List AV)) (c0_4 : List (List AV)) (c0_5 : Int) (h3 : List (List AV)) : Option (AV) := Jb5_1  (((fx 78 [(0, AV.sl v0), (4, AV.ptr (0 : Nat) (0 : Nat) (0 : Nat)), (7, AV.bool v7), (9, AV.ms (3 : Nat) (0 : Nat) nv9)]) : List AV), ([ABlk.rows false (6 : Nat) [[AV.int IntKind.i64 c0_0, AV.int IntKind.i64 c0_1, AV.str c0_2, AV.sl c0_3, AV.sl c0_4, AV.int IntKind.i64 c0_5]], ABlk.dead, ABlk.dead, ABlk.rows true (4 : Nat) h3] : AH))
noncomputable abbrev wb5_0 (v0 : List (List AV)) (v7 : Bool) (nv9 : Nat) (v10 : Bool) (v11 : Int) (c0_0 : Int) (c0_1 : Int) (c0_2 : List UInt8) (c0_3 : List (List AV)) (c0_4 : List (List AV)) (c0_5 : Int) (h1 : List (List AV)) : Option (AV) := Wb5_0  (((fx 78 [(0, AV.sl v0), (4, AV.ptr (0 : Nat) (0 : Nat) (0 : Nat)), (7, AV.bool v7), (9, AV.ms (1 : Nat) (0 : Nat) nv9), (10, AV.bool v10), (11, AV.int IntKind.i64 v11)]) : List AV), ([ABlk.rows false (6 : Nat) [[AV.int IntKind.i64 c0_0, AV.int IntKind.i64 c0_1, AV.str c0_2, AV.sl c0_3, AV.sl c0_4, AV.int IntKind.i64 c0_5]], ABlk.rows true (4 : Nat) h1] : AH))
noncomputable abbrev jb5_2 (v0 : List (List AV)) (v7 : Bool) (nv9 : Nat) (v10 : Bool) (c0_0 : Int) (c0_1 : Int) (c0_2 : List UInt8) (c0_3 : List (List AV)) (c0_4 : List (List AV)) (c0_5 : Int) (h1 : List (List AV)) : Option (AV) := Jb5_2  (((fx 78 [(0, AV.sl v0), (4, AV.ptr (0 : Nat) (0 : Nat) (0 : Nat)), (7, AV.bool v7), (9, AV.ms (1 : Nat) (0 : Nat) nv9), (10, AV.bool v10)]) : List AV), ([ABlk.rows false (6 : Nat) [[AV.int IntKind.i64 c0_0, AV.int IntKind.i64 c0_1, AV.str c0_2, AV.sl c0_3, AV.sl c0_4, AV.int IntKind.i64 c0_5]], ABlk.rows true (4 : Nat) h1] : AH))
noncomputable abbrev jb5_3 (v7 : Bool) (nv9 : Nat) (v10 : Bool) (v12 : Bool) (c0_0 : Int) (c0_1 : Int) (c0_2 : List UInt8) (c0_3 : List (List AV)) (c0_4 : List (List AV)) (c0_5 : Int) (h1 : List (List AV)) : Option (AV) := Jb5_3  (((fx 78 [(4, AV.ptr (0 : Nat) (0 : Nat) (0 : Nat)), (7, AV.bool v7), (9, AV.ms (1 : Nat) (0 : Nat) nv9), (10, AV.bool v10), (12, AV.bool v12)]) : List AV), ([ABlk.rows false (6 : Nat) [[AV.int IntKind.i64 c0_0, AV.int IntKind.i64 c0_1, AV.str c0_2, AV.sl c0_3, AV.sl c0_4, AV.int IntKind.i64 c0_5]], ABlk.rows true (4 : Nat) h1] : AH))
theorem law17Any_run (L : List (List AV)) (ke : Int) (ne : Int) (se : List UInt8) (le : List (List AV)) (bd : List (List AV)) (self : Int) (turn : Int) {P : AV → Prop} (h : Gets (kOpt (EVs (EV cfg) 19 []) fun (v : AV) => kBool v fun (b : Bool) => kOpt (EVs (EV cfg) 9 [.sl L, .agg [AV.int .i64 ke, .int .i64 ne, .str se, .sl le, .sl bd, .int .i64 self]]) fun (v 
  : AV) => kBool v fun (b_1 : Bool) => bif b_1 then some (.bool b) else bif (↑(List.length L) : Int) == (0 : Int) then some (.bool b) else jb5_0 L turn b ke ne se le bd self) P) : Gets (EVs (EV cfg) 5 ([AV.sl L, AV.agg [AV.int IntKind.i64 ke, AV.int IntKind.i64 ne, AV.str se, AV.sl le, AV.sl bd, AV.int IntKind.i64 self], AV.int IntKind.i64 turn] : List AV)) P :=
  Gets.ev (fun _ h => funS rfl rfl Try.func5 rfl h) (Gets.eq (by kernel_rfl) h)
theorem jb5_0_step (v0 : List (List AV)) (v2 : Int) (v7 : Bool) (c0_0 : Int) (c0_1 : Int) (c0_2 : List UInt8) (c0_3 : List (List AV)) (c0_4 : List (List AV)) (c0_5 : Int) {P : AV → Prop} (h : Gets (kOpt (EVs (EV cfg) 24 [AV.int .i64 v2, .int .i64 (↑(List.length v0) : Int)]) fun (v : AV) => kInt .i64 v fun (n : Int) => bif leInt (0 : Int) n && leInt n (↑(List.length v0) : Int) then 
  bif rowsOk 4 v0 then bif rowsOk 4 (List.take (List.length v0 - Int.toNat n) (List.drop (Int.toNat n) v0)) then bif fitsIn (0 + List.length (List.take (List.length v0 - Int.toNat n) 
  (List.drop (Int.toNat n) v0))) 56 then bif leInt (0 : Int) n && leInt n (↑(List.length v0) : Int) then bif rowsOk 4 v0 then bif rowsOk 4 (List.take (Int.toNat n - 0) v0) then bif Nat.ble 
  (0 + (0 + List.length (List.take (List.length v0 - Int.toNat n) (List.drop (Int.toNat n) v0)))) (List.length (List.take (List.length v0 - Int.toNat n) (List.drop (Int.toNat n) v0))) 
  && fitsIn (0 + List.length (List.take (List.length v0 - Int.toNat n) (List.drop (Int.toNat n) v0)) + List.length (List.take (Int.toNat n - 0) v0)) 56 then jb5_1 v0 v7 (0 + List.length 
  (List.take (List.length v0 - Int.toNat n) (List.drop (Int.toNat n) v0)) + List.length (List.take (Int.toNat n - 0) v0)) c0_0 c0_1 c0_2 c0_3 c0_4 c0_5 (List.append (List.take (0 + List.length 
  (List.take (List.length v0 - Int.toNat n) (List.drop (Int.toNat n) v0))) (List.take (List.length v0 - Int.toNat n) (List.drop (Int.toNat n) v0))) (List.take (Int.toNat n - 0) v0)) else 
  none else none else none else none else none else none else none else none) P) : Gets (jb5_0 v0 v2 v7 c0_0 c0_1 c0_2 c0_3 c0_4 c0_5) P :=
  Gets.ev (fun _ h => cut_step h) (Gets.eq (by kernel_rfl) h)
theorem jb5_1_step (v0 : List (List AV)) (v7 : Bool) (nv9 : Nat) (c0_0 : Int) (c0_1 : Int) (c0_2 : List UInt8) (c0_3 : List (List AV)) (c0_4 : List (List AV)) (c0_5 : Int) (h3 : List (List AV)) {P : AV → Prop} (h : Gets (wb5_0 v0 v7 nv9 true (0 : Int) c0_0 c0_1 c0_2 c0_3 c0_4 c0_5 h3) P) : Gets (jb5_1 v0 v7 nv9 c0_0 c0_1 c0_2 c0_3 c0_4 c0_5 h3) P :=
  Gets.ev (fun _ h => cut_step h) (Gets.eq (by kernel_rfl) h)
theorem wb5_0_step (v0 : List (List AV)) (v7 : Bool) (nv9 : Nat) (v10 : Bool) (v11 : Int) (c0_0 : Int) (c0_1 : Int) (c0_2 : List UInt8) (c0_3 : List (List AV)) (c0_4 : List (List AV)) (c0_5 : Int) (h1 : List (List AV)) {P : AV → Prop} (h : Gets (bif decide (v11 < (↑(List.length v0) : Int)) then bif v10 then bif leInt (0 : Int) (IntKind.wrap .i64 (v11 + (1 : Int))) && leInt (IntKind.wrap .i64 (v11 + (1 : Int))) (↑(List.length 
  v0) : Int) then bif leInt (0 : Int) v11 && leInt v11 (↑(Int.toNat (IntKind.wrap .i64 (v11 + (1 : Int)))) : Int) then bif rowsOk 4 v0 then kOpt (EVs (EV cfg) 25 [.sl (List.take (Int.toNat 
  (IntKind.wrap .i64 (v11 + (1 : Int))) - Int.toNat v11) (List.drop (Int.toNat v11) v0)), .agg [AV.int .i64 c0_0, .int .i64 c0_1, .str c0_2, .sl c0_3, .sl c0_4, .int .i64 c0_5]]) fun (v 
  : AV) => kBool v fun (b : Bool) => wb5_0 v0 v7 nv9 b (IntKind.wrap .i64 (v11 + (1 : Int))) c0_0 c0_1 c0_2 c0_3 c0_4 c0_5 h1 else none else none else none else wb5_0 v0 v7 nv9 false 
  (IntKind.wrap .i64 (v11 + (1 : Int))) c0_0 c0_1 c0_2 c0_3 c0_4 c0_5 h1 else jb5_2 v0 v7 nv9 v10 c0_0 c0_1 c0_2 c0_3 c0_4 c0_5 h1) P) : Gets (wb5_0 v0 v7 nv9 v10 v11 c0_0 c0_1 c0_2 c0_3 c0_4 c0_5 h1) P :=
  Gets.ev (fun _ h => loop_step (cfg := cfg) (f := 5) (rd := none) (bs := 0) h) (Gets.eq (by kernel_rfl) h)
theorem jb5_2_step (v0 : List (List AV)) (v7 : Bool) (nv9 : Nat) (v10 : Bool) (c0_0 : Int) (c0_1 : Int) (c0_2 : List UInt8) (c0_3 : List (List AV)) (c0_4 : List (List AV)) (c0_5 : Int) (h1 : List (List AV)) {P : AV → Prop} (h : Gets (kOpt (EVs (EV cfg) 25 [.sl v0, .agg [AV.int .i64 c0_0, .int .i64 c0_1, .str c0_2, .sl c0_3, .sl c0_4, .int .i64 c0_5]]) fun (v : AV) => kBool v fun (b : Bool) => jb5_3 v7 nv9 v10 b c0_0 
  c0_1 c0_2 c0_3 c0_4 c0_5 h1) P) : Gets (jb5_2 v0 v7 nv9 v10 c0_0 c0_1 c0_2 c0_3 c0_4 c0_5 h1) P :=
  Gets.ev (fun _ h => cut_step h) (Gets.eq (by kernel_rfl) h)
theorem jb5_3_step (v7 : Bool) (nv9 : Nat) (v10 : Bool) (v12 : Bool) (c0_0 : Int) (c0_1 : Int) (c0_2 : List UInt8) (c0_3 : List (List AV)) (c0_4 : List (List AV)) (c0_5 : Int) (h1 : List (List AV)) {P : AV → Prop} (h : Gets (bif v7 then bif Nat.ble (0 + nv9) (List.length h1) && true then kOpt (EVs (EV cfg) 25 [.sl (List.take nv9 h1), .agg [AV.int .i64 c0_0, .int .i64 c0_1, .str c0_2, .sl c0_3, .sl c0_4, .int 
  .i64 c0_5]]) fun (v : AV) => kBool v fun (b : Bool) => bif v12 == b then bif v12 == v10 then kOpt (EVf (EV cfg) 21 [.str [(116 : UInt8), (114 : UInt8), (117 : UInt8), (101 : UInt8)]]) 
  fun (v : AV) => kTmV v fun (n n_1 : Int) (s : List UInt8) (rows : List (List AV)) => (bif Nat.ble (0 + nv9) (List.length h1) && fitsIn (nv9 + 1) 56 then bif Nat.ble (0 + (nv9 + 1)) 
  (List.length (List.append (List.take nv9 h1) [[AV.int .i64 n, .int .i64 n_1, .str s, .sl rows]])) && true then kOpt (EVs (EV cfg) 25 [.sl (List.take (nv9 + 1) (List.append (List.take 
  nv9 h1) [[AV.int .i64 n, .int .i64 n_1, .str s, .sl rows]])), .agg [AV.int .i64 c0_0, .int .i64 c0_1, .str c0_2, .sl c0_3, .sl c0_4, .int .i64 c0_5]]) fun (v : AV) => kBool v fun (b : Bool) 
  => some (.bool (v12 == b)) else none else none) else some (.bool false) else some (.bool false) else none else some (.bool false)) P) : Gets (jb5_3 v7 nv9 v10 v12 c0_0 c0_1 c0_2 c0_3 c0_4 c0_5 h1) P :=
  Gets.ev (fun _ h => cut_step h) (Gets.eq (by kernel_rfl) h)

end Go.Proofs.Ytogebohommickaa
end

section
namespace Go.Av
theorem rowsOk_T (l : List Tm) : rowsOk 4 (rowsT l) = true := by
  cases l with
  | nil => rw [rowsT_nil]; rfl
  | cons t l => rw [rowsT_cons]; simp [rowsOk]
theorem evalG_tru {e : Env} (he : EnvOk e) : evalG e (symT tru) = (symT tru, 0) := by
  have hv : varT (symT tru) = none := by rw [symT_var (by simp [tru])]; rfl
  have hc : checkG (namesG e) (symT tru) = 0 := by
    unfold checkG
    rw [if_pos (symT_chk (by simp [tru])), isG_atom rfl, hv]
    rfl
  unfold evalG
  rw [if_pos (by rw [envG_ok.2 he, hc]; rfl), valG_atom rfl, hv]
  rfl
theorem trueG_tru {e : Env} (he : EnvOk e) : trueG e (symT tru) = true := by
  unfold trueG
  rw [evalG_tru he]; rfl
theorem holdsG_turn (e : Env) (l : List Tm) (k : Nat) : holdsG e (l.drop k ++ l.take k) = holdsG e l := by
  unfold holdsG
  have h : l.all (trueG e) = ((l.take k).all (trueG e) && (l.drop k).all (trueG e)) := by rw [← List.all_append, List.take_append_drop]
  rw [List.all_append, h, Bool.and_comm ((l.drop k).all _)]
theorem holdsG_more (e : Env) (l : List Tm) : holdsG e (l ++ [symT tru]) = holdsG e l := by
  unfold holdsG
  rw [List.all_append]
  cases h : envG e with
  | false => simp
  | true => simp [trueG_tru (envG_ok.1 h)]
end Go.Av
namespace Go.Proofs.Ytogebohommickaa
open Go.Av
theorem kitPick_ev (a : Int) {n : Nat} (h : 0 < n) (hn : n < 1099511627776) : ∃ k : Nat, k < n ∧ EVs (EV cfg) 24 [.int .i64 a, .int .i64 n] = some (.int .i64 (k : Int)) := by
  have h1 : a.tmod n < n := Int.tmod_lt_of_pos a (by omega)
  have h2 : -(n : Int) < a.tmod n := by
    have := Int.tmod_lt_of_pos (-a) (b := (n : Int)) (by omega)
    rw [Int.neg_tmod] at this; omega
  refine ⟨(if a.tmod n < 0 then a.tmod n + n else a.tmod n).toNat, by split <;> omega, ?_⟩
  apply Gets.get
  refine kitPick_run _ _ ?_
  rw [decide_eq_false (by omega), intDiv_rem (by omega)]
  simp only [cond_false, kOptSome, kInt_int]
  by_cases hz : a.tmod n < 0
  · rw [decide_eq_true hz, if_pos hz, wrap64 (by omega) (by omega)]
    exact ⟨_, rfl, by rw [Int.toNat_of_nonneg (by omega)]⟩
  · rw [decide_eq_false hz, if_neg hz]
    exact ⟨_, rfl, by rw [Int.toNat_of_nonneg (by omega)]⟩
theorem guardAny_ev {e : Env} (he : EnvW e) {l : List Tm} (hl : wL l ≤ 1048576) (turn : Int) : EVs (EV cfg) 5 [.sl (rowsT l), envR e.obj e.binds e.self, .int .i64 turn] = some (.bool true) := by
  have hlen := wL_len l
  have hlw : ∀ x ∈ l, x.w < 1099511627776 := fun x hx => by have := wL_mem hx; omega
  have hlg := largeE_ev (l := l) (okL_of_w (by omega)) (by omega) he
  have H : ∀ m : List Tm, (∀ x ∈ m, x.w < 1099511627776) → m.length < 1099511627776 → _ := fun m h1 h2 => holds_ev product_ok he h1 h2
  unfold envR at *
  have bw : ∀ b : Bool, (b == b) = true := fun b => beq_self_eq_true b
  -- the end
  have fin : ∀ k : Nat, k < l.length → Gets (jb5_3 true l.length (holdsG e l) (holdsG e l) e.obj.kind e.obj.num e.obj.str (rowsT e.obj.subs) (bindsR e.binds) e.self (rowsT (l.drop k ++ l.take k))) (· = .bool true) := by
    intro k hk
    have hml : (l.drop k ++ l.take k).length = l.length := by simp; omega
    have hmw : ∀ x ∈ l.drop k ++ l.take k, x.w < 1099511627776 := fun x hx => by
      rcases List.mem_append.1 hx with h | h
      · exact hlw x (List.mem_of_mem_drop h)
      · exact hlw x (List.mem_of_mem_take h)
    have h1 := H _ hmw (by omega)
    have h2 := H ((l.drop k ++ l.take k) ++ [symT tru]) (fun x hx => by
      rcases List.mem_append.1 hx with h | h
      · exact hmw x h
      · simp at h; subst h; rw [symT, Tm.w_mk]; simp [tru]) (by rw [List.length_append, hml]; simp; omega)
    rw [holdsG_turn] at h1
    rw [holdsG_more, holdsG_turn] at h2
    have b1 : Nat.ble (0 + l.length) (rowsT (l.drop k ++ l.take k)).length = true := by rw [Nat.ble_eq, rowsT_length, hml]; omega
    have t1 : List.take l.length (rowsT (l.drop k ++ l.take k)) = rowsT (l.drop k ++ l.take k) := List.take_of_length_le (by rw [rowsT_length, hml]; omega)
    have a1 : List.append (rowsT (l.drop k ++ l.take k)) [(symT tru).cells] = rowsT ((l.drop k ++ l.take k) ++ [symT tru]) := by rw [rowsT_append _ [symT tru], rowsT_cons, rowsT_nil]; rfl
    have b2 : Nat.ble (0 + (l.length + 1)) (rowsT ((l.drop k ++ l.take k) ++ [symT tru])).length = true := by rw [Nat.ble_eq, rowsT_length, List.length_append, hml]; simp
    have t2 : List.take (l.length + 1) (rowsT ((l.drop k ++ l.take k) ++ [symT tru])) = rowsT ((l.drop k ++ l.take k) ++ [symT tru]) := List.take_of_length_le (by rw [rowsT_length, List.length_append, hml]; simp)
    refine jb5_3_step _ _ _ _ _ _ _ _ _ _ _ ?_
    rw [t1, b1, show ([116, 114, 117, 101] : List UInt8) = tru from rfl, kitA_ev]
    simp only [cond_true, Bool.and_true, h1, kOptSome, kBool_bool, bw, kTmV_av, fits56 (show l.length + 1 ≤ 1099511627776 by omega)]
    rw [← Tm.cells_eq, a1, b2, t2, h2]
    simp only [cond_true, kOptSome, kBool_bool, bw]
    exact ⟨_, rfl, rfl⟩
  -- each by itself
  have loop : ∀ k : Nat, k < l.length → ∀ (d i : Nat) (b : Bool), i + d = l.length → (b && ((l.drop i).all (trueG e) && (decide (d = 0) || envG e))) = holdsG e l →
      Gets (wb5_0 (rowsT l) true l.length b i e.obj.kind e.obj.num e.obj.str (rowsT e.obj.subs) (bindsR e.binds) e.self (rowsT (l.drop k ++ l.take k))) (· = .bool true) := by
    intro k hk d
    induction d with
    | zero =>
      intro i b hi hb
      refine wb5_0_step _ _ _ _ _ _ _ _ _ _ _ _ ?_
      rw [rowsT_length, decide_eq_false (by omega), cond_false]
      refine jb5_2_step _ _ _ _ _ _ _ _ _ _ _ ?_
      rw [List.drop_eq_nil_of_le (by omega)] at hb
      simp at hb
      rw [H l hlw (by omega)]
      simp only [kOptSome, kBool_bool]
      rw [hb]
      exact fin k hk
    | succ d ih =>
      intro i b hi hb
      refine wb5_0_step _ _ _ _ _ _ _ _ _ _ _ _ ?_
      have hil : i < l.length := by omega
      have hx : l[i]? = some l[i] := List.getElem?_eq_getElem hil
      have hd : l.drop i = l[i] :: l.drop (i + 1) := List.drop_eq_getElem_cons hil
      have hn : decide (d + 1 = 0) = false := decide_eq_false (by omega)
      rw [hd, List.all_cons, hn, Bool.false_or] at hb
      rw [rowsT_length, decide_eq_true (show (i : Int) < (l.length : Int) by omega), wrap_succ hil (by omega)]
      cases b with
      | false =>
        simp only [cond_true, cond_false]
        refine ih (i + 1) false (by omega) ?_
        simpa using hb
      | true =>
        have l1 : leInt 0 ((i + 1 : Nat) : Int) = true := leInt_zero _
        have l2 : leInt ((i + 1 : Nat) : Int) (l.length : Int) = true := decide_eq_true (by omega)
        have l3 : leInt (i : Int) (((Int.toNat ((i + 1 : Nat) : Int)) : Nat) : Int) = true := decide_eq_true (by rw [Int.toNat_natCast]; omega)
        have e1 : List.take (Int.toNat ((i + 1 : Nat) : Int) - Int.toNat (i : Int)) (List.drop (Int.toNat (i : Int)) (rowsT l)) = rowsT [l[i]] := by
          rw [Int.toNat_natCast, Int.toNat_natCast, show i + 1 - i = 1 by omega, rowsT_drop, hd, rowsT_take]; rfl
        have h1 := H [l[i]] (fun x hx => by simp at hx; subst hx; exact hlw _ (List.getElem_mem hil)) (by simp)
        have e2 : holdsG e [l[i]] = (trueG e l[i] && envG e) := by unfold holdsG; simp
        rw [e2] at h1
        simp only [cond_true, l1, l2, l3, leInt_zero, Bool.and_self, rowsOk_T, e1, h1, kOptSome, kBool_bool]
        refine ih (i + 1) _ (by omega) ?_
        rw [← hb]
        cases trueG e l[i] <;> cases envG e <;> simp
  apply Gets.get
  refine law17Any_run _ _ _ _ _ _ _ _ ?_
  rw [guardKnown_k47]
  simp only [kOptSome, kBool_bool]
  refine Gets.bind hlg ?_
  rintro _ ⟨b, rfl⟩
  cases b with
  | true => exact ⟨_, rfl, rfl⟩
  | false =>
    simp only [kBool_bool, cond_false, rowsT_length, beqI]
    by_cases h0 : l.length = 0
    · rw [decide_eq_true (by omega)]; exact ⟨_, rfl, rfl⟩
    · rw [decide_eq_false (by omega), cond_false]
      refine jb5_0_step _ _ _ _ _ _ _ _ _ ?_
      obtain ⟨k, hk, hp⟩ := kitPick_ev turn (n := l.length) (by omega) (by omega)
      rw [rowsT_length, hp]
      have q1 : leInt (k : Int) (l.length : Int) = true := decide_eq_true (by omega)
      have e1 : List.take (l.length - Int.toNat (k : Int)) (List.drop (Int.toNat (k : Int)) (rowsT l)) = rowsT (l.drop k) := by
        rw [Int.toNat_natCast, List.take_of_length_le (by simp), rowsT_drop]
      have e2 : List.take (Int.toNat (k : Int) - 0) (rowsT l) = rowsT (l.take k) := by rw [Int.toNat_natCast, Nat.sub_zero, rowsT_take]
      have d1 : (rowsT (l.drop k)).length = l.length - k := by rw [rowsT_length, List.length_drop]
      have d2 : (rowsT (l.take k)).length = k := by rw [rowsT_length, List.length_take]; omega
      have e3 : List.take (0 + (l.length - k)) (rowsT (l.drop k)) = rowsT (l.drop k) := List.take_of_length_le (by rw [d1]; omega)
      have e4 : List.append (rowsT (l.drop k)) (rowsT (l.take k)) = rowsT (l.drop k ++ l.take k) := (rowsT_append _ _).symm
      have b1 : Nat.ble (0 + (0 + (l.length - k))) (l.length - k) = true := by rw [Nat.ble_eq]; omega
      have n1 : 0 + (l.length - k) + k = l.length := by omega
      simp only [kOptSome, kInt_int, leInt_zero, q1, Bool.and_self, cond_true, rowsOk_T, e1, e2, d1, d2, e3, e4, b1, n1, fits56 (show 0 + (l.length - k) ≤ 1099511627776 by omega), fits56 (show l.length ≤ 1099511627776 by omega)]
      refine jb5_1_step _ _ _ _ _ _ _ _ _ _ ?_
      refine loop k hk l.length 0 true (by omega) ?_
      rw [List.drop_zero, decide_eq_false h0, Bool.false_or, Bool.true_and]; rfl
end Go.Proofs.Ytogebohommickaa
end

section
namespace Go.Av
mutual
def AV.wt : AV → Nat
  | .str s => s.length + 1
  | .sl rows => wtR rows + 1
  | _ => 1
def wtL : List AV → Nat
  | [] => 0
  | a :: l => a.wt + wtL l
def wtR : List (List AV) → Nat
  | [] => 0
  | a :: l => wtL a + wtR l
end
@[simp] theorem wtL_nil : wtL [] = 0 := by rw [wtL]
@[simp] theorem wtL_cons (a : AV) (l : List AV) : wtL (a :: l) = a.wt + wtL l := by rw [wtL]
@[simp] theorem wtR_nil : wtR [] = 0 := by rw [wtR]
@[simp] theorem wtR_cons (a : List AV) (l : List (List AV)) : wtR (a :: l) = wtL a + wtR l := by rw [wtR]
@[simp] theorem wt_int (k : IntKind) (n : Int) : (AV.int k n).wt = 1 := by rw [AV.wt] <;> simp
@[simp] theorem wt_bool (b : Bool) : (AV.bool b).wt = 1 := by rw [AV.wt] <;> simp
@[simp] theorem wt_str (s : List UInt8) : (AV.str s).wt = s.length + 1 := by rw [AV.wt]
@[simp] theorem wt_sl (r : List (List AV)) : (AV.sl r).wt = wtR r + 1 := by rw [AV.wt]
theorem wtL_append (a b : List AV) : wtL (a ++ b) = wtL a + wtL b := by
  induction a with
  | nil => simp
  | cons x l ih => simp [ih]; omega
end Go.Av
namespace Go.Proofs.Ytogebohommickaa
open Go.Av Go.WideShapes
def tiled (P : Program) : Nat → List Field → Option Nat
  | off, [] => some off
  | off, f :: fs => if f.offset = off then tiled P (off + P.cellsOf f.type) fs else none
def goodTy (P : Program) (ts : List TypeId) (t : TypeId) : Bool :=
  match P.underlying t with
  | some (.int _) | some .bool | some .string => decide (P.cellsOf t = 1)
  | some (.struct fs) => decide (tiled P 0 fs.toList = some (P.cellsOf t)) && fs.toList.all (fun f => decide (f.type ∈ ts))
  | some (.slice e) => decide (P.cellsOf t = 1) && (decide (e ∈ ts) && decide (0 < P.cellsOf e))
  | _ => false
def Lay (P : Program) : Nat → TypeId → List AV → Prop
  | 0, _, _ => False
  | n + 1, t, cz =>
    match P.underlying t with
    | some (.int k) => ∃ m, cz = [.int k m] ∧ (Lit.int k m).wf = true
    | some .bool => ∃ b, cz = [.bool b]
    | some .string => ∃ s, cz = [.str s]
    | some (.struct fs) => cz.length = P.cellsOf t ∧ ∀ (i : Nat) f, fs[i]? = some f → Lay P n f.type ((cz.drop f.offset).take (P.cellsOf f.type))
    | some (.slice e) => ∃ rows, cz = [.sl rows] ∧ ∀ row ∈ rows, row.length = P.cellsOf e ∧ Lay P n e row
    | _ => False
def CellsR (W : World) (cs : List Value) (cz : List AV) : Prop := cz.length = cs.length ∧ ∀ (j : Nat) a v, cz[j]? = some a → cs[j]? = some v → a.isCell = true ∧ Rep (C0 W) M0 a v
theorem CellsR.nil {W : World} : CellsR W [] [] := ⟨rfl, fun j a v h => by simp at h⟩
theorem CellsR.one {W : World} {a : AV} {v : Value} (h1 : a.isCell = true) (h2 : Rep (C0 W) M0 a v) : CellsR W [v] [a] := ⟨rfl, fun j a' v' ha hv => by
  match j, ha, hv with
  | 0, ha, hv => simp at ha hv; subst ha hv; exact ⟨h1, h2⟩
  | j + 1, ha, hv => simp at ha⟩
theorem CellsR.append {W : World} {cs cs' : List Value} {cz cz' : List AV} (h : CellsR W cs cz) (h' : CellsR W cs' cz') : CellsR W (cs ++ cs') (cz ++ cz') := by
  refine ⟨by simp [h.1, h'.1], fun j a v ha hv => ?_⟩
  by_cases hj : j < cz.length
  · rw [List.getElem?_append_left hj] at ha
    rw [List.getElem?_append_left (by rw [← h.1]; exact hj)] at hv
    exact h.2 j a v ha hv
  · rw [List.getElem?_append_right (by omega)] at ha
    rw [List.getElem?_append_right (by rw [← h.1]; omega), ← h.1] at hv
    exact h'.2 _ a v ha hv
section
variable {H : Type} {enc : TypeId × Value → H} {P : Program} {W : World}
def Opens (enc : TypeId × Value → H) (P : Program) (W : World) (n : Nat) (t : TypeId) : Prop :=
  ∀ cs x, DataW.trod enc P W 0 (fun _ => true) true n t cs = some x → ∃ cz, CellsR W cs cz ∧ cs.length = P.cellsOf t ∧ Lay P n t cz ∧ wtL cz ≤ Rows.uptoBulk x.1 ∧ refsLtL 0 cz = true ∧
    ∀ (W' : World) (sp : Nat → Bool), (∀ p ∈ x.2, W.sameAt W' p) → (∀ p ∈ x.2, sp p.block = true) → DataW.trod enc P W' 0 sp true n t cs = some x
theorem open_fields {n : Nat} {ts : List TypeId} (ih : ∀ t ∈ ts, Opens enc P W n t) {cs : List Value} : ∀ (fs : List Field) (off : Nat), tiled P off fs = some cs.length → (∀ f ∈ fs, f.type ∈ ts) →
    ∀ xs, (fs.mapM fun f => DataW.trod enc P W 0 (fun _ => true) true n f.type ((cs.drop f.offset).take (P.cellsOf f.type))) = some xs →
    ∃ cz, CellsR W (cs.drop off) cz ∧ (∀ f ∈ fs, off ≤ f.offset ∧ Lay P n f.type ((cz.drop (f.offset - off)).take (P.cellsOf f.type))) ∧ wtL cz ≤ Rows.uptoBulkAll (xs.map (·.1)) ∧ refsLtL 0 cz = true ∧
      ∀ (W' : World) (sp : Nat → Bool), (∀ p ∈ xs.flatMap (·.2), W.sameAt W' p) → (∀ p ∈ xs.flatMap (·.2), sp p.block = true) →
        (fs.mapM fun f => DataW.trod enc P W' 0 sp true n f.type ((cs.drop f.offset).take (P.cellsOf f.type))) = some xs := by
  intro fs
  induction fs with
  | nil =>
    intro off ht _ xs hx
    rw [tiled] at ht
    cases ht
    simp at hx
    subst hx
    refine ⟨[], ?_, fun f hf => by simp at hf, by simp, rfl, fun W' sp _ _ => by simp⟩
    rw [List.drop_length]; exact CellsR.nil
  | cons f fs ihf =>
    intro off ht hin xs hx
    rw [tiled] at ht
    split at ht
    · rename_i ho
      rw [List.mapM_cons] at hx
      obtain ⟨x, h1, hx⟩ := Option.bind_eq_some_iff.1 hx
      obtain ⟨ys, h2, hx⟩ := Option.bind_eq_some_iff.1 hx
      cases hx
      obtain ⟨a1, c1, l1, y1, w1, r1, b1⟩ := ih f.type (hin f (by simp)) _ _ h1
      obtain ⟨a2, c2, y2, w2, r2, b2⟩ := ihf (off + P.cellsOf f.type) ht (fun g hg => hin g (by simp [hg])) ys h2
      have hlen : a1.length = P.cellsOf f.type := by rw [c1.1, l1]
      refine ⟨a1 ++ a2, ?_, fun g hg => ?_, ?_, refsLtL_app r1 r2, fun W' sp hs hp => ?_⟩
      · have := c1.append c2
        rw [ho, ← List.drop_drop, List.take_append_drop] at this
        exact this
      · rcases List.mem_cons.1 hg with rfl | hg
        · refine ⟨by omega, ?_⟩
          rw [ho, Nat.sub_self, List.drop_zero, ← hlen, List.take_append_of_le_length (Nat.le_refl _), List.take_length]
          exact y1
        · obtain ⟨g1, g2⟩ := y2 g hg
          refine ⟨by omega, ?_⟩
          have : List.drop (g.offset - off) (a1 ++ a2) = List.drop (g.offset - (off + P.cellsOf f.type)) a2 := by
            have e : g.offset - off = a1.length + (g.offset - (off + P.cellsOf f.type)) := by omega
            rw [e, ← List.drop_drop, List.drop_left]
          rw [this]
          exact g2
      · rw [wtL_append]
        simp only [List.map_cons, Rows.uptoBulkAll]
        omega
      · rw [List.mapM_cons, b1 W' sp (fun p hpp => hs p (by simp [hpp])) (fun p hpp => hp p (by simp [hpp]))]
        have b3 := b2 W' sp (fun p hpp => hs p (by rw [List.flatMap_cons]; exact List.mem_append_right _ hpp)) (fun p hpp => hp p (by rw [List.flatMap_cons]; exact List.mem_append_right _ hpp))
        show Option.bind _ _ = _
        rw [Option.bind_some]
        show Option.bind _ _ = _
        rw [b3]; rfl
    · cases ht
theorem bulk_rows {e : Nat} : ∀ (rows : List (List AV)) (ds : List (DataW H)), rows.length = ds.length → (∀ (i : Nat) row d, rows[i]? = some row → ds[i]? = some d → wtL row ≤ Rows.uptoBulk d) → wtR rows ≤ Rows.uptoBulkAll ds
  | [], [], _, _ => by simp [Rows.uptoBulkAll]
  | t :: l, d :: ds, hl, h => by
    have h0 := h 0 t d rfl rfl
    have := bulk_rows (e := e) l ds (by simpa using hl) (fun i t d ht hd => h (i + 1) t d (by simpa using ht) (by simpa using hd))
    simp only [wtR_cons, Rows.uptoBulkAll]
    omega
theorem open_gen {ts : List TypeId} (hts : ∀ t ∈ ts, goodTy P ts t = true) : ∀ (n : Nat), ∀ t ∈ ts, Opens enc P W n t := by
  intro n
  induction n with
  | zero => intro t _ cs x h; simp [DataW.trod] at h
  | succ n ih =>
    intro t ht cs x h
    have hg := hts t ht
    unfold goodTy at hg
    split at hg
    · rename_i k hu
      obtain ⟨m, rfl, rfl, hw⟩ := DataW.trod_int hu h
      refine ⟨[.int k m], CellsR.one rfl (.int _ _), (of_decide_eq_true hg).symm, by unfold Lay; rw [hu]; exact ⟨m, rfl, hw⟩, by simp [Rows.uptoBulk], rfl, fun W' sp _ _ => ?_⟩
      simp [DataW.trod, hu, hw]
    · rename_i hu
      obtain ⟨b, rfl, rfl⟩ := DataW.trod_bool hu h
      refine ⟨[.bool b], CellsR.one rfl (.bool _), (of_decide_eq_true hg).symm, by unfold Lay; rw [hu]; exact ⟨b, rfl⟩, by simp [Rows.uptoBulk], rfl, fun W' sp _ _ => ?_⟩
      simp [DataW.trod, hu]
    · rename_i hu
      obtain ⟨s, rfl, rfl, hw⟩ := DataW.trod_string hu h
      refine ⟨[.str s.data.toList], CellsR.one rfl ?_, (of_decide_eq_true hg).symm, by unfold Lay; rw [hu]; exact ⟨_, rfl⟩, by simp [Rows.uptoBulk], rfl, fun W' sp _ _ => ?_⟩
      · have := Rep.str (C := C0 W) (μ := M0) s.data.toList
        simpa using this
      · simp [DataW.trod, hu, hw]
    · rename_i fs hu
      rw [Bool.and_eq_true, decide_eq_true_eq, List.all_eq_true] at hg
      have h' := h
      unfold DataW.trod at h'
      rw [hu] at h'
      simp only [] at h'
      split at h'
      · rename_i hl
        obtain ⟨xs, hx, rfl⟩ := Option.map_eq_some_iff.1 h'
        rw [← hl] at hg
        obtain ⟨cz, c, y, w, r, b⟩ := open_fields ih fs.toList 0 hg.1 (fun f hf => of_decide_eq_true (hg.2 f hf)) xs hx
        rw [List.drop_zero] at c
        refine ⟨cz, c, hl, ?_, ?_, r, fun W' sp hs hp => ?_⟩
        · unfold Lay
          rw [hu]
          refine ⟨by rw [c.1, hl], fun i f hf => ?_⟩
          have := y f (by rw [← Array.getElem?_toList] at hf; exact List.mem_of_getElem? hf)
          rw [Nat.sub_zero] at this
          exact this.2
        · simp only [Rows.uptoBulk]; omega
        · unfold DataW.trod
          rw [hu]
          simp only []
          rw [if_pos hl, b W' sp hs hp]; rfl
      · cases h'
    · rename_i e hu
      rw [Bool.and_eq_true, Bool.and_eq_true, decide_eq_true_eq, decide_eq_true_eq, decide_eq_true_eq] at hg
      obtain ⟨hc1, he, hpos⟩ := hg
      rcases DataW.trod_slice hu h with ⟨rfl, rfl⟩ | ⟨a, len, cap, elems, rest, n', e', rfl, rfl, hb, hlc, hmx, hel, hg, hsp, _⟩
      · refine ⟨[.sl []], CellsR.one rfl .slNil, hc1.symm, by unfold Lay; rw [hu]; exact ⟨[], rfl, fun r hr => by simp at hr⟩, by simp [Rows.uptoBulk], rfl, fun W' sp _ _ => ?_⟩
        simp [DataW.trod, hu]
      · obtain rfl : n' = n := by omega
        obtain ⟨hrl, hrg⟩ := hsp rfl
        have ihe := ih e he
        have tms : ∃ f : Nat → List AV, ∀ (i : Nat) y, elems[i]? = some y → ∃ cs', W.cells? 0 (a.add (i * P.cellsOf e)) (P.cellsOf e) = some cs' ∧ CellsR W cs' (f i) ∧ cs'.length = P.cellsOf e ∧ Lay P n' e (f i) ∧ wtL (f i) ≤ Rows.uptoBulk y.1 ∧ refsLtL 0 (f i) = true := by
          have : ∀ i : Nat, ∃ t : List AV, ∀ y, elems[i]? = some y → ∃ cs', W.cells? 0 (a.add (i * P.cellsOf e)) (P.cellsOf e) = some cs' ∧ CellsR W cs' t ∧ cs'.length = P.cellsOf e ∧ Lay P n' e t ∧ wtL t ≤ Rows.uptoBulk y.1 ∧ refsLtL 0 t = true := by
            intro i
            cases hy : elems[i]? with
            | none => exact ⟨default, fun y h => by cases h⟩
            | some y =>
              have hi : i < len := by rw [← hel]; exact (List.getElem?_eq_some_iff.1 hy).1
              obtain ⟨cs', h1, h2⟩ := Option.bind_eq_some_iff.1 ((hg i hi).trans hy)
              obtain ⟨t, h3, h4, h5, h6, h7, _⟩ := ihe _ _ h2
              exact ⟨t, fun y' hy' => by cases hy'; exact ⟨cs', h1, h3, h4, h5, h6, h7⟩⟩
          exact ⟨fun i => Classical.choose (this i), fun i => Classical.choose_spec (this i)⟩
        obtain ⟨f, hf⟩ := tms
        have hget : ∀ (i : Nat) (row : List AV), ((List.range len).map f)[i]? = some row → i < len ∧ row = f i := by
          intro i row hi
          have hil : i < len := by have := (List.getElem?_eq_some_iff.1 hi).1; simpa using this
          refine ⟨hil, ?_⟩
          rw [List.getElem?_map, List.getElem?_range hil] at hi
          simpa using hi.symm
        have hrow : ∀ (i : Nat) (row : List AV), ((List.range len).map f)[i]? = some row → row.length = P.cellsOf e ∧ Lay P n' e row ∧ refsLtL 0 row = true := by
          intro i row hi
          obtain ⟨hil, rfl⟩ := hget i row hi
          obtain ⟨cs', h1, h2, h3, h4, h5, h6⟩ := hf i _ (List.getElem?_eq_getElem (by omega))
          exact ⟨by rw [h2.1, h3], h4, h6⟩
        have hspot : ((List.range len).map f) ≠ [] → a.spot = none := by
          intro hne
          have hl0 : 0 < len := by
            rcases Nat.eq_zero_or_pos len with h0 | h0
            · subst h0; exact absurd (by simp) hne
            · exact h0
          obtain ⟨cs0, q1, _⟩ := hf 0 _ (List.getElem?_eq_getElem (by omega))
          have := (cells?_some q1 (by omega)).1
          simpa [Addr.add] using this
        have hcell : ∀ (i j : Nat) (row : List AV) x, ((List.range len).map f)[i]? = some row → row[j]? = some x → x.isCell = true ∧ ∃ v, W.cell? ⟨a.block, a.off + i * P.cellsOf e + j, none⟩ = some v ∧ Rep (C0 W) M0 x v := by
          intro i j row x hi hj
          have hs := hspot (by intro h0; rw [h0] at hi; simp at hi)
          obtain ⟨hil, rfl⟩ := hget i row hi
          obtain ⟨cs', h1, h2, h3, _⟩ := hf i _ (List.getElem?_eq_getElem (by omega))
          obtain ⟨s1, s2, s3⟩ := cells?_some h1 (by omega)
          have hjl : j < cs'.length := by
            rw [← h2.1]
            exact (List.getElem?_eq_some_iff.1 hj).1
          have h4 := h2.2 j x _ hj (List.getElem?_eq_getElem hjl)
          refine ⟨h4.1, _, ?_, h4.2⟩
          have := s3 j _ (List.getElem?_eq_getElem hjl)
          rw [addr_add' _ _ hs] at this
          exact this
        have hfree : refsLtR 0 ((List.range len).map f) = true := by
          have : ∀ l : List (List AV), (∀ r ∈ l, refsLtL 0 r = true) → refsLtR 0 l = true := by
            intro l
            induction l with
            | nil => intro _; rfl
            | cons r l ih => intro h; rw [refsLtR, h r (by simp), ih fun q hq => h q (by simp [hq])]; rfl
          refine this _ fun r hr => ?_
          obtain ⟨i, hi⟩ := List.getElem?_of_mem hr
          exact (hrow i r hi).2.2
        refine ⟨[.sl ((List.range len).map f)], CellsR.one rfl ?_, hc1.symm, ?_, ?_, rfl, fun W' sp hs hp => ?_⟩
        · have := Rep.sl (C := C0 W) (μ := M0) ((List.range len).map f) a cap (P.cellsOf e) (fun i j => (W.cell? ⟨a.block, a.off + i * P.cellsOf e + j, none⟩).getD undef) hspot (fun i row hi => (hrow i row hi).1) (fun i j row x hi hj => ?_) (fun i j row x hi hj => ?_) (fun i j row x hi hj => ?_) (by simpa using hlc) hfree
          · simpa using this
          · obtain ⟨_, v, h1, _⟩ := hcell i j row x hi hj
            show W.cell? _ = _
            rw [h1]; rfl
          · obtain ⟨_, v, h1, h2⟩ := hcell i j row x hi hj
            rw [h1]; exact h2
          · exact (hcell i j row x hi hj).1
        · unfold Lay
          rw [hu]
          refine ⟨_, rfl, fun row hr => ?_⟩
          obtain ⟨i, hi⟩ := List.getElem?_of_mem hr
          exact ⟨(hrow i row hi).1, (hrow i row hi).2.1⟩
        · simp only [Rows.uptoBulk, wtL_cons, wtL_nil, wt_sl]
          have := bulk_rows (e := 0) ((List.range len).map f) (elems.map (·.1)) (by simp [hel]) (fun i t d ht hd => by
            rw [List.getElem?_map] at ht hd
            obtain ⟨j, hj, rfl⟩ := Option.map_eq_some_iff.1 ht
            obtain ⟨y, hy, rfl⟩ := Option.map_eq_some_iff.1 hd
            have hil : i < len := by have := (List.getElem?_eq_some_iff.1 hj).1; simpa using this
            rw [List.getElem?_range hil] at hj
            cases hj
            obtain ⟨_, _, _, _, _, h5, _⟩ := hf i y hy
            exact h5)
          omega
        · have hrow' : 0 < (elems.length + rest.length) → sp a.block = true := fun hps => hp (.cell a.block (a.off + 0)) (by
            rw [List.mem_append]
            exact .inl (MemPlace.mem_row.2 ⟨0, Nat.mul_pos hps hpos, rfl⟩))
          unfold DataW.trod at h ⊢
          rw [hu] at h ⊢
          simp only [if_true] at h ⊢
          rw [if_pos ⟨hb, hlc, hmx⟩] at h ⊢
          simp only [Option.map_eq_some_iff, Option.bind_eq_some_iff] at h ⊢
          obtain ⟨elems', he, rest', hr, hx⟩ := h
          have hlen : elems'.length = len := by simpa using mapM_some_length he
          have hrl' : rest'.length = cap - len := by simpa using mapM_some_length hr
          simp only [Prod.mk.injEq, DataW.slice.injEq] at hx
          have one' : ∀ (i : Nat) (y : DataW H × List MemPlace), i < elems'.length + rest'.length → y ∈ elems' ++ rest' →
              (W.cells? 0 (a.add (i * P.cellsOf e)) (P.cellsOf e)).bind (DataW.trod enc P W 0 (fun _ => true) true n' e) = some y → (W'.cells? 0 (a.add (i * P.cellsOf e)) (P.cellsOf e)).bind (DataW.trod enc P W' 0 sp true n' e) = some y := by
            intro i y hi hy hv
            simp only [Option.bind_eq_some_iff] at hv ⊢
            obtain ⟨cs', hc', hy'⟩ := hv
            obtain ⟨_, _, _, _, _, _, hbk⟩ := ihe _ _ hy'
            refine ⟨cs', World.cells?_carry hc' (fun p hpp => hs p ?_), hbk W' sp (fun p hpp => hs p ?_) (fun p hpp => hp p ?_)⟩
            · rw [← hx.2]
              obtain ⟨j, hj, rfl⟩ := MemPlace.mem_row.1 hpp
              simp only [List.mem_append]
              left
              refine MemPlace.mem_row.2 ⟨i * P.cellsOf e + j, ?_, ?_⟩
              · calc i * P.cellsOf e + j < i * P.cellsOf e + P.cellsOf e := by omega
                  _ = (i + 1) * P.cellsOf e := by rw [Nat.add_mul, Nat.one_mul]
                  _ ≤ (elems'.length + rest'.length) * P.cellsOf e := Nat.mul_le_mul_right _ hi
              · unfold Addr.add
                split
                · rename_i h0
                  simp [h0]
                · simp [Nat.add_assoc]
            · rw [← hx.2]
              simp only [List.mem_append, List.mem_flatMap]
              right
              exact ⟨y, by simpa using hy, hpp⟩
            · rw [← hx.2]
              simp only [List.mem_append, List.mem_flatMap]
              right
              exact ⟨y, by simpa using hy, hpp⟩
          refine ⟨elems', mapM_carry he (fun i y hi hy => one' i y (by have : i < len := (by simpa using hi); omega) (by simp [hy])), rest', ?_, by simp only [Prod.mk.injEq, DataW.slice.injEq]; exact hx⟩
          by_cases h0 : 0 < elems.length + rest.length
          · rw [if_pos (hrow' h0)]
            exact mapM_carry hr (fun j y hj hy => one' (len + j) y (by have : j < cap - len := (by simpa using hj); omega) (by simp [hy]))
          · have hc0 : cap - len = 0 := by omega
            rw [hc0] at hr ⊢
            simp at hr
            subst hr
            split <;> rfl
    · cases hg
theorem open_struct {ts : List TypeId} (hts : ∀ t ∈ ts, goodTy P ts t = true) {t : TypeId} (ht : t ∈ ts) {fs : Array Field} (hu : P.underlying t = some (.struct fs)) {r : Reach} {b0 : Nat} {v : Value} {d : DataW H} {ps : List MemPlace}
    (hval : Value.okWide P W r b0 t v) (hd : DataW.Trod enc P W 0 (fun _ => true) true t v d ps) :
    ∃ (cz : List AV) (n : Nat), Opened enc P W t v d ps (.agg cz) ∧ Lay P n t cz ∧ wtL cz ≤ Rows.uptoBulk d := by
  obtain ⟨cs, rfl, hsz⟩ := okWide_struct hu hval
  obtain ⟨n, hn⟩ := hd
  obtain ⟨cz, h1, h2, h3, h4, h5, h6⟩ := open_gen hts n t ht _ _ hn
  refine ⟨cz, n, ⟨?_, fun W' sp hs hp => ⟨n, h6 W' sp hs hp⟩⟩, h3, h4⟩
  have := Rep.agg (C := C0 W) (μ := M0) cz cs.toList (by
    have := h1.1
    simpa [Value.cells] using this) (fun i a v ha hv => (h1.2 i a v ha (by simpa [Value.cells] using hv)).2)
  simpa using this
end
theorem lay_terms {P : Program} {tT tL tI tS : TypeId} (T : TermTys P tT tL tI tS) : ∀ (n : Nat),
    (∀ cz, Lay P n tT cz → ∃ t : Tm, cz = t.cells ∧ t.w < wtL cz) ∧ (∀ cz, Lay P n tL cz → ∃ l : List Tm, cz = [.sl (rowsT l)] ∧ wL l < wtL cz) := by
  intro n
  induction n with
  | zero => exact ⟨fun cz h => absurd h (by unfold Lay; exact id), fun cz h => absurd h (by unfold Lay; exact id)⟩
  | succ n ih =>
    refine ⟨fun cz h => ?_, fun cz h => ?_⟩
    · obtain ⟨f0, f1, f2, f3, hu, t0, o0, t1, o1, t2, o2, t3, o3⟩ := T.uT
      unfold Lay at h
      rw [hu] at h
      obtain ⟨hl, hf⟩ := h
      rw [T.cT] at hl
      obtain ⟨c0, c1, c2, c3, rfl⟩ : ∃ c0 c1 c2 c3, cz = [c0, c1, c2, c3] := by
        match cz, hl with
        | [a, b, c, d], _ => exact ⟨a, b, c, d, rfl⟩
      have h0 := hf 0 f0 rfl
      have h1 := hf 1 f1 rfl
      have h2 := hf 2 f2 rfl
      have h3 := hf 3 f3 rfl
      rw [t0, o0, T.cI] at h0
      rw [t1, o1, T.cI] at h1
      rw [t2, o2, T.cS] at h2
      rw [t3, o3, T.cL] at h3
      simp at h0 h1 h2 h3
      cases n with
      | zero => exact absurd h0 (by unfold Lay; exact id)
      | succ n =>
        obtain ⟨l, e3, w3⟩ := ih.2 _ h3
        unfold Lay at h0 h1 h2
        rw [T.uI] at h0 h1
        rw [T.uS] at h2
        obtain ⟨k, e0, _⟩ := h0
        obtain ⟨m, e1, _⟩ := h1
        obtain ⟨s, e2⟩ := h2
        simp at e0 e1 e2 e3
        subst e0 e1 e2 e3
        refine ⟨.mk k m s l, by rw [Tm.cells_mk], ?_⟩
        rw [Tm.w_mk]
        simp only [wtL_cons, wtL_nil, wt_int, wt_str, wt_sl] at w3 ⊢
        omega
    · unfold Lay at h
      rw [T.uL] at h
      obtain ⟨rows, rfl, hr⟩ := h
      have : ∀ rows : List (List AV), (∀ row ∈ rows, row.length = P.cellsOf tT ∧ Lay P n tT row) → ∃ l : List Tm, rows = rowsT l ∧ wL l ≤ wtR rows := by
        intro rows
        induction rows with
        | nil => intro _; exact ⟨[], by rw [rowsT_nil], by simp⟩
        | cons r rows ihr =>
          intro h
          obtain ⟨t, e1, w1⟩ := ih.1 r (h r (by simp)).2
          obtain ⟨l, e2, w2⟩ := ihr fun q hq => h q (by simp [hq])
          refine ⟨t :: l, by rw [rowsT_cons, ← e1, ← e2], ?_⟩
          simp; omega
      obtain ⟨l, rfl, w⟩ := this rows hr
      exact ⟨l, rfl, by simp; omega⟩
theorem lay_rows {α : Type} {P : Program} {n : Nat} {e : TypeId} {f : α → List AV} {w : α → Nat} (h : ∀ cz, Lay P n e cz → ∃ x : α, cz = f x ∧ w x < wtL cz) : ∀ rows : List (List AV), (∀ row ∈ rows, row.length = P.cellsOf e ∧ Lay P n e row) →
    ∃ l : List α, rows = l.map f ∧ (∀ x ∈ l, w x < wtR rows) ∧ l.length ≤ wtR rows := by
  intro rows
  induction rows with
  | nil => intro _; exact ⟨[], rfl, fun x hx => by simp at hx, by simp⟩
  | cons r rows ih =>
    intro hr
    obtain ⟨x, e1, w1⟩ := h r (hr r (by simp)).2
    obtain ⟨l, e2, w2, w3⟩ := ih fun q hq => hr q (by simp [hq])
    refine ⟨x :: l, by rw [List.map_cons, ← e1, ← e2], fun y hy => ?_, by simp; omega⟩
    rcases List.mem_cons.1 hy with rfl | hy
    · simp; omega
    · have := w2 y hy; simp; omega
theorem bulk_le {H : Type} {l : List (DataW H)} (hk : Rows.uptoSmall H l = true) {d : DataW H} (hd : d ∈ l) : Rows.uptoBulk d ≤ 1048576 := by
  have h : Rows.uptoBulkAll l ≤ 1048576 := of_decide_eq_true hk
  have := bulk_part hd
  omega
end Go.Proofs.Ytogebohommickaa
end

section
namespace Go.Proofs.Ytogebohommickaa
open Go.Av
set_option maxRecDepth 100000
def envTys : List TypeId := [29, 24, 22, 27, 44, 3, 9]
theorem envTys_good : ∀ t ∈ envTys, goodTy Try.prog envTys t = true := by
  have : envTys.all (goodTy Try.prog envTys) = true := by kernel_rfl
  exact List.all_eq_true.1 this
theorem lay_int {n : Nat} {cz : List AV} (h : Lay Try.prog n 3 cz) : ∃ m, cz = [.int .i64 m] := by
  cases n with
  | zero => exact absurd h (by unfold Lay; exact id)
  | succ n =>
    unfold Lay at h
    rw [Try.underlying3] at h
    obtain ⟨m, h, _⟩ := h
    exact ⟨m, h⟩
theorem lay_term {n : Nat} {cz : List AV} (h : Lay Try.prog n 24 cz) : ∃ t : Tm, cz = t.cells ∧ t.w < wtL cz := (lay_terms term_tys n).1 cz h
theorem lay_bind {n : Nat} {cz : List AV} (h : Lay Try.prog n 44 cz) : ∃ p : Int × Tm, cz = .int .i64 p.1 :: p.2.cells ∧ p.2.w < wtL cz := by
  cases n with
  | zero => exact absurd h (by unfold Lay; exact id)
  | succ n =>
    unfold Lay at h
    rw [Try.underlying44] at h
    obtain ⟨hl, hf⟩ := h
    have hl : cz.length = 5 := by rw [hl]; kernel_rfl
    match cz, hl with
    | [a, b, c, d, e], _ =>
      have h0 : Lay Try.prog n 3 ((([a, b, c, d, e] : List AV).drop 0).take (Try.prog.cellsOf 3)) := hf 0 _ rfl
      have h1 : Lay Try.prog n 24 ((([a, b, c, d, e] : List AV).drop 1).take (Try.prog.cellsOf 24)) := hf 1 _ rfl
      rw [show Try.prog.cellsOf 3 = 1 by kernel_rfl] at h0
      rw [show Try.prog.cellsOf 24 = 4 by kernel_rfl] at h1
      obtain ⟨m, e0⟩ := lay_int h0
      obtain ⟨t, e1, w1⟩ := lay_term h1
      simp at e0 e1 w1
      subst e0
      refine ⟨(m, t), by rw [← e1], ?_⟩
      simp
      omega
theorem lay_binds {n : Nat} {cz : List AV} (h : Lay Try.prog n 27 cz) : ∃ L : List (Int × Tm), cz = [.sl (bindsR L)] ∧ (∀ p ∈ L, p.2.w < wtL cz) ∧ L.length < wtL cz := by
  cases n with
  | zero => exact absurd h (by unfold Lay; exact id)
  | succ n =>
    unfold Lay at h
    rw [Try.underlying27] at h
    obtain ⟨rows, rfl, hr⟩ := h
    obtain ⟨L, rfl, w1, w2⟩ := lay_rows (w := fun p : Int × Tm => p.2.w) (fun cz h => lay_bind h) rows hr
    refine ⟨L, rfl, fun p hp => ?_, ?_⟩
    · have := w1 p hp; simp; omega
    · simp; omega
theorem lay_env {n : Nat} {cz : List AV} (h : Lay Try.prog n 29 cz) : ∃ e : Env, .agg cz = envR e.obj e.binds e.self ∧ e.obj.w < wtL cz ∧ (∀ p ∈ e.binds, p.2.w < wtL cz) ∧ e.binds.length < wtL cz := by
  cases n with
  | zero => exact absurd h (by unfold Lay; exact id)
  | succ n =>
    unfold Lay at h
    rw [Try.underlying29] at h
    obtain ⟨hl, hf⟩ := h
    have hl : cz.length = 6 := by rw [hl]; kernel_rfl
    match cz, hl with
    | [a, b, c, d, e, f], _ =>
      have h0 : Lay Try.prog n 24 ((([a, b, c, d, e, f] : List AV).drop 0).take (Try.prog.cellsOf 24)) := hf 0 _ rfl
      have h1 : Lay Try.prog n 27 ((([a, b, c, d, e, f] : List AV).drop 4).take (Try.prog.cellsOf 27)) := hf 1 _ rfl
      have h2 : Lay Try.prog n 3 ((([a, b, c, d, e, f] : List AV).drop 5).take (Try.prog.cellsOf 3)) := hf 2 _ rfl
      rw [show Try.prog.cellsOf 24 = 4 by kernel_rfl] at h0
      rw [show Try.prog.cellsOf 27 = 1 by kernel_rfl] at h1
      rw [show Try.prog.cellsOf 3 = 1 by kernel_rfl] at h2
      obtain ⟨t, e0, w0⟩ := lay_term h0
      obtain ⟨L, e1, w1, w2⟩ := lay_binds h1
      obtain ⟨m, e2⟩ := lay_int h2
      simp at e0 e1 e2 w0
      subst e1 e2
      simp at w1 w2
      obtain ⟨k, q, s, l⟩ := t
      rw [Tm.cells_mk] at e0
      cases e0
      refine ⟨⟨.mk k q s l, L, m⟩, rfl, ?_, fun p hp => ?_, ?_⟩
      · simp at w0 ⊢; omega
      · have := w1 p.1 p.2 hp; simp; omega
      · simp; omega
theorem open_env {H : Type} {enc : TypeId × Value → H} {W : World} {r : Reach} {b0 : Nat} {v : Value} {d : DataW H} {ps : List MemPlace} (hval : Value.okWide Try.prog W r b0 29 v) (hd : DataW.Trod enc Try.prog W 0 (fun _ => true) true 29 v d ps) :
    ∃ e : Env, Opened enc Try.prog W 29 v d ps (envR e.obj e.binds e.self) ∧ (Rows.uptoBulk d < 1099511627776 → EnvW e) := by
  obtain ⟨cz, n, h1, h2, h3⟩ := open_struct envTys_good (by simp [envTys]) Try.underlying29 hval hd
  obtain ⟨e, he, w0, w1, w2⟩ := lay_env h2
  rw [he] at h1
  exact ⟨e, h1, fun hb => ⟨by omega, by omega, fun p hp => by have := w1 p hp; omega⟩⟩
end Go.Proofs.Ytogebohommickaa
end
