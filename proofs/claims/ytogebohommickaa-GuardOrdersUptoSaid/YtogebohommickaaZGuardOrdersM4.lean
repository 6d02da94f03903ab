/-
  Parts of the proof of GuardOrdersUptoSaid, put together: the abstract evaluation and its contracts. Own work.
  What is proved: each lemma as it stands; no condition.
-/
import Derived.Test.YtogebohommickaaZGuardOrdersM3

section
/-
  Terms kept whole while an evaluation is simplified. Own work.
  What is proved: rules for the simplifier; no condition.
-/
namespace Go.Av
@[simp] theorem Tm.kind_mk (k n : Int) (s : List UInt8) (l : List Tm) : (Tm.mk k n s l).kind = k := rfl
@[simp] theorem Tm.num_mk (k n : Int) (s : List UInt8) (l : List Tm) : (Tm.mk k n s l).num = n := rfl
@[simp] theorem Tm.str_mk (k n : Int) (s : List UInt8) (l : List Tm) : (Tm.mk k n s l).str = s := rfl
@[simp] theorem Tm.subs_mk (k n : Int) (s : List UInt8) (l : List Tm) : (Tm.mk k n s l).subs = l := rfl
@[simp] theorem Tm.eta (t : Tm) : Tm.mk t.kind t.num t.str t.subs = t := by cases t; rfl
theorem Tm.cells_eq (t : Tm) : t.cells = [.int .i64 t.kind, .int .i64 t.num, .str t.str, .sl (rowsT t.subs)] := by cases t; rw [Tm.cells_mk]; rfl
@[simp] theorem cells_fold (k n : Int) (s : List UInt8) (l : List Tm) : [AV.int .i64 k, AV.int .i64 n, AV.str s, AV.sl (rowsT l)] = (Tm.mk k n s l).cells := (Tm.cells_mk k n s l).symm
@[simp] theorem cells_fold0 (k n : Int) (s : List UInt8) : [AV.int .i64 k, AV.int .i64 n, AV.str s, AV.sl []] = (Tm.mk k n s []).cells := by rw [Tm.cells_mk, rowsT_nil]
@[simp] theorem agg_cells (t : Tm) : AV.agg t.cells = t.av := rfl
@[simp] theorem rowsT_one (t : Tm) : [t.cells] = rowsT [t] := by rw [rowsT_cons, rowsT_nil]
@[simp] theorem rowsT_cons' (t : Tm) (l : List Tm) : t.cells :: rowsT l = rowsT (t :: l) := (rowsT_cons t l).symm
@[simp] theorem rowsT_append' (a b : List Tm) : rowsT a ++ rowsT b = rowsT (a ++ b) := (rowsT_append a b).symm
@[simp] theorem rowsT_app (a b : List Tm) : List.append (rowsT a) (rowsT b) = rowsT (a ++ b) := (rowsT_append a b).symm
@[simp] theorem rowsT_take' (n : Nat) (a : List Tm) : (rowsT a).take n = rowsT (a.take n) := rowsT_take n a
@[simp] theorem rowsT_drop' (n : Nat) (a : List Tm) : (rowsT a).drop n = rowsT (a.drop n) := rowsT_drop n a
@[simp] theorem rowsT_set' (l : List Tm) (i : Nat) (t : Tm) : (rowsT l).set i t.cells = rowsT (l.set i t) := rowsT_set l i t
@[simp] theorem rowsT_get' (l : List Tm) (i : Nat) : (rowsT l)[i]? = (l[i]?).map Tm.cells := rowsT_get l i
@[simp] theorem rowsT_getElem (l : List Tm) (i : Nat) (h : i < (rowsT l).length) : (rowsT l)[i] = (l[i]'(by simpa using h)).cells := by
  have h1 := rowsT_get l i
  rw [List.getElem?_eq_getElem h, List.getElem?_eq_getElem (by simpa using h)] at h1
  exact Option.some.inj h1
@[simp] theorem kOpt_map {α β γ : Type} (o : Option β) (g : β → γ) (k : γ → Option α) : kOpt (o.map g) k = kOpt o fun x => k (g x) := by cases o <;> rfl
@[simp] theorem length_cells (t : Tm) : t.cells.length = 4 := by rw [Tm.cells_eq]; rfl
@[simp] theorem take_cells (t : Tm) : t.cells.take 4 = t.cells := by rw [Tm.cells_eq]; rfl
@[simp] theorem drop_cells (t : Tm) : t.cells.drop 4 = [] := by rw [Tm.cells_eq]; rfl
@[simp] theorem cells_0 (t : Tm) : t.cells[0]? = some (.int .i64 t.kind) := by rw [Tm.cells_eq]; rfl
@[simp] theorem cells_1 (t : Tm) : t.cells[1]? = some (.int .i64 t.num) := by rw [Tm.cells_eq]; rfl
@[simp] theorem cells_2 (t : Tm) : t.cells[2]? = some (.str t.str) := by rw [Tm.cells_eq]; rfl
@[simp] theorem cells_3 (t : Tm) : t.cells[3]? = some (.sl (rowsT t.subs)) := by rw [Tm.cells_eq]; rfl
@[simp] theorem refs_cells (n : Nat) (t : Tm) : refsLtL n t.cells = true := by rw [Tm.cells_eq]; rfl
@[simp] theorem allCells_cells (t : Tm) : allCells t.cells = true := by rw [Tm.cells_eq]; rfl
@[simp] theorem rowsT_free' (l : List Tm) : refsLtR 0 (rowsT l) = true := rowsT_free l
@[simp] theorem rowsOk_rowsT (l : List Tm) : rowsOk 4 (rowsT l) = true := by
  cases l with
  | nil => rw [rowsT_nil]; rfl
  | cons t l => rw [rowsT_cons, rowsOk, length_cells]; rfl
@[simp] theorem kTmC_cells {α : Type} (t : Tm) (k : Int → Int → List UInt8 → List (List AV) → Option α) : kTmC t.cells k = k t.kind t.num t.str (rowsT t.subs) := by rw [Tm.cells_eq]; rfl
@[simp] theorem kTmV_av {α : Type} (t : Tm) (k : Int → Int → List UInt8 → List (List AV) → Option α) : kTmV t.av k = k t.kind t.num t.str (rowsT t.subs) := by rw [Tm.av, Tm.cells_eq]; rfl

/-! ### from the end back -/
theorem upTo {n : Nat} {Q : Nat → Prop} (h0 : Q n) (hs : ∀ i, i < n → Q (i + 1) → Q i) : ∀ i, i ≤ n → Q i := by
  have : ∀ d i, i + d = n → Q i := by
    intro d
    induction d with
    | zero => intro i hi; have : i = n := by omega
              subst this; exact h0
    | succ d ih => intro i hi; exact hs i (by omega) (ih (i + 1) (by omega))
  intro i hi
  exact this (n - i) i (by omega)
/-- .. where the number stands as Go's, too -/
theorem upTo2 {n : Nat} {Q : Nat → Int → Prop} (h0 : Q n n) (hs : ∀ i : Nat, i < n → Q (i + 1) ((i : Int) + 1) → Q i i) : ∀ i : Nat, i ≤ n → Q i i :=
  upTo (Q := fun i => Q i i) h0 hs
theorem wrap_s {i n : Nat} (h : i < n) (hn : n < 1099511627776) : IntKind.wrap .i64 ((i : Int) + 1) = (i : Int) + 1 := wrap64 (by omega) (by omega)
theorem wrap_p {i n : Nat} (h : i < n) (hn : n < 1099511627776) : IntKind.wrap .i64 ((i : Int) - 1) = (i : Int) - 1 := wrap64 (by omega) (by omega)
@[simp] theorem cast_nn (q : Nat) : (0 ≤ (q : Int) + 1) = True := eq_true (by omega)
@[simp] theorem cast_le1 (q n : Nat) : ((q : Int) + 1 ≤ (n : Int)) = (q + 1 ≤ n) := propext (by omega)
@[simp] theorem cast_lt1 (q n : Nat) : ((q : Int) + 1 < (n : Int)) = (q + 1 < n) := propext (by omega)
@[simp] theorem cast_nn' (q : Nat) : (0 < (q : Int) + 1) = True := eq_true (by omega)
@[simp] theorem cast_ne0 (q : Nat) : ((q : Int) + 1 == 0) = false := by rw [beqD]; exact decide_eq_false (by omega)
@[simp] theorem cast_lt_s (q : Nat) : ((q : Int) < (q : Int) + 1) = True := eq_true (by omega)
@[simp] theorem cast_le_s (q : Nat) : ((q : Int) ≤ (q : Int) + 1) = True := eq_true (by omega)
theorem wrapN {n : Nat} (hn : n < 4398046511104) : IntKind.wrap .i64 (n : Int) = n := wrap64 (by omega) (by omega)
end Go.Av
end

section
/-
  The order of terms as plain Lean functions. Own work.
  What is proved: elementary facts; no condition.
-/
namespace Go.Av

def numC (a b : Int) : Int := if a < b then -1 else if b < a then 1 else 0
def strC (a b : List UInt8) : Int := if a = b then 0 else if Op.bytesLess a b then -1 else 1

mutual
def cmpT : Tm → Tm → Int
  | .mk k n s l, b =>
    if numC k b.kind ≠ 0 then numC k b.kind
    else if k = 1 ∨ k = 3 ∨ k = 4 ∨ k = 6 then numC n b.num
    else if k = 2 then strC s b.str
    else if k = 5 then (if numC n b.num ≠ 0 then numC n b.num else if numC l.length b.subs.length ≠ 0 then numC l.length b.subs.length else cmpE l b.subs)
    else if k = 7 ∨ k = 9 then (if numC l.length b.subs.length ≠ 0 then numC l.length b.subs.length else cmpE l b.subs)
    else 0
def cmpE : List Tm → List Tm → Int
  | [], [] => 0
  | [], _ :: _ => -1
  | _ :: _, [] => 1
  | a :: l, b :: l' => if cmpT a b ≠ 0 then cmpT a b else cmpE l l'
end

def cmpL (l l' : List Tm) : Int := if numC l.length l'.length ≠ 0 then numC l.length l'.length else cmpE l l'

theorem numC_zero {a b : Int} : numC a b = 0 ↔ a = b := by unfold numC; split <;> (try split) <;> omega
theorem numC_self (a : Int) : numC a a = 0 := numC_zero.2 rfl

theorem cmpT_eq (k n : Int) (s : List UInt8) (l : List Tm) (k' n' : Int) (s' : List UInt8) (l' : List Tm) : cmpT (.mk k n s l) (.mk k' n' s' l') =
    if numC k k' ≠ 0 then numC k k' else if k = 1 ∨ k = 3 ∨ k = 4 ∨ k = 6 then numC n n' else if k = 2 then strC s s'
    else if k = 5 then (if numC n n' ≠ 0 then numC n n' else cmpL l l') else if k = 7 ∨ k = 9 then cmpL l l' else 0 := by
  rw [cmpT]; rfl
theorem cmpE_cons (a b : Tm) (l l' : List Tm) : cmpE (a :: l) (b :: l') = if cmpT a b ≠ 0 then cmpT a b else cmpE l l' := by rw [cmpE]
theorem cmpE_nil : cmpE [] [] = 0 := by rw [cmpE]
theorem cmpE_nil_cons (b : Tm) (l' : List Tm) : cmpE [] (b :: l') = -1 := by rw [cmpE]
theorem cmpE_cons_nil (a : Tm) (l : List Tm) : cmpE (a :: l) [] = 1 := by rw [cmpE]

theorem bytesLess_irrefl : ∀ a : List UInt8, Op.bytesLess a a = false
  | [] => rfl
  | a :: l => by rw [Op.bytesLess, bytesLess_irrefl l]; simp
theorem bytesLess_total : ∀ a b : List UInt8, Op.bytesLess a b = false → a ≠ b → Op.bytesLess b a = true
  | [], [], _, h => absurd rfl h
  | [], _ :: _, h, _ => by simp [Op.bytesLess] at h
  | _ :: _, [], _, _ => by simp [Op.bytesLess]
  | a :: l, b :: m, h, hne => by
    simp only [Op.bytesLess, Bool.or_eq_false_iff, Bool.and_eq_false_iff, decide_eq_false_iff_not, Bool.or_eq_true, Bool.and_eq_true, decide_eq_true_eq, beq_iff_eq] at *
    obtain ⟨h1, h2⟩ := h
    by_cases hab : a = b
    · subst hab
      refine .inr ⟨rfl, bytesLess_total l m ?_ (fun e => hne (by rw [e]))⟩
      rcases h2 with h2 | h2
      · simp at h2
      · exact h2
    · left
      have : ¬ a.toNat < b.toNat := h1
      have : a.toNat ≠ b.toNat := fun e => hab (UInt8.toNat.inj e)
      show b.toNat < a.toNat
      omega
theorem strC_eq (a b : List UInt8) : strC a b = if Op.bytesLess a b then -1 else if !(Op.bytesLess a b || a == b) then 1 else 0 := by
  unfold strC
  by_cases h : a = b
  · subst h; simp [bytesLess_irrefl]
  · rw [if_neg h]
    have : (a == b) = false := by simpa using h
    rw [this]
    cases Op.bytesLess a b <;> rfl
end Go.Av
end

section
/-
  The order of terms is total: plain Lean. Own work.
  What is proved: antisymmetry and transitivity of cmpT; no condition.
-/
namespace Go.Av

/-- three numbers that compare three things: x to y, y to z, x to z -/
def C3 (p q r : Int) : Prop := (p ≤ 0 → q ≤ 0 → r ≤ 0) ∧ (p < 0 → q ≤ 0 → r < 0) ∧ (p ≤ 0 → q < 0 → r < 0) ∧ (0 ≤ p → 0 ≤ q → 0 ≤ r) ∧ (0 < p → 0 ≤ q → 0 < r) ∧ (0 ≤ p → 0 < q → 0 < r)

def lexI (a b : Int) : Int := if a ≠ 0 then a else b

theorem C3.neg3 {p q r : Int} (hp : p < 0) (_hq : q ≤ 0) (hr : r < 0) : C3 p q r := by
  refine ⟨?_, ?_, ?_, ?_, ?_, ?_⟩ <;> intros <;> omega
theorem C3.neg3' {p q r : Int} (hp : p ≤ 0) (hq : q < 0) (hr : r < 0) : C3 p q r := by
  refine ⟨?_, ?_, ?_, ?_, ?_, ?_⟩ <;> intros <;> omega
theorem C3.pos3 {p q r : Int} (hp : 0 < p) (_hq : 0 ≤ q) (hr : 0 < r) : C3 p q r := by
  refine ⟨?_, ?_, ?_, ?_, ?_, ?_⟩ <;> intros <;> omega
theorem C3.pos3' {p q r : Int} (hp : 0 ≤ p) (hq : 0 < q) (hr : 0 < r) : C3 p q r := by
  refine ⟨?_, ?_, ?_, ?_, ?_, ?_⟩ <;> intros <;> omega
theorem C3.mix {p q r : Int} (hp : p < 0) (hq : 0 < q) : C3 p q r := by
  refine ⟨?_, ?_, ?_, ?_, ?_, ?_⟩ <;> intros <;> omega
theorem C3.mix' {p q r : Int} (hp : 0 < p) (hq : q < 0) : C3 p q r := by
  refine ⟨?_, ?_, ?_, ?_, ?_, ?_⟩ <;> intros <;> omega
theorem lexI_ne {a b : Int} (h : a ≠ 0) : lexI a b = a := if_pos h
theorem lexI_zero (b : Int) : lexI 0 b = b := rfl

theorem C3.lex {p q r p' q' r' : Int} (h : C3 p q r) (h' : p = 0 → q = 0 → C3 p' q' r') : C3 (lexI p p') (lexI q q') (lexI r r') := by
  obtain ⟨h1, h2, h3, h4, h5, h6⟩ := h
  rcases Int.lt_trichotomy p 0 with hp | hp | hp
  · rw [lexI_ne (a := p) (by omega)]
    rcases Int.lt_trichotomy q 0 with hq | hq | hq
    · have hr := h2 hp (by omega)
      rw [lexI_ne (a := q) (by omega), lexI_ne (a := r) (by omega)]
      exact C3.neg3 hp (by omega) hr
    · have hr := h2 hp (by omega)
      rw [hq, lexI_zero, lexI_ne (a := r) (by omega)]
      rcases Int.lt_trichotomy q' 0 with h | h | h
      · exact C3.neg3 hp (by omega) hr
      · exact C3.neg3 hp (by omega) hr
      · exact C3.mix hp h
    · rw [lexI_ne (a := q) (by omega)]
      exact C3.mix hp hq
  · subst hp
    rw [lexI_zero]
    rcases Int.lt_trichotomy q 0 with hq | hq | hq
    · have hr := h3 (by omega) hq
      rw [lexI_ne (a := q) (by omega), lexI_ne (a := r) (by omega)]
      rcases Int.lt_trichotomy p' 0 with h | h | h
      · exact C3.neg3' (by omega) hq hr
      · exact C3.neg3' (by omega) hq hr
      · exact C3.mix' h hq
    · subst hq
      have ha := h1 (by omega) (by omega)
      have hb := h4 (by omega) (by omega)
      obtain rfl : r = 0 := by omega
      exact h' rfl rfl
    · have hr := h6 (by omega) hq
      rw [lexI_ne (a := q) (by omega), lexI_ne (a := r) (by omega)]
      rcases Int.lt_trichotomy p' 0 with h | h | h
      · exact C3.mix h hq
      · exact C3.pos3' (by omega) hq hr
      · exact C3.pos3' (by omega) hq hr
  · rw [lexI_ne (a := p) (by omega)]
    rcases Int.lt_trichotomy q 0 with hq | hq | hq
    · rw [lexI_ne (a := q) (by omega)]
      exact C3.mix' hp hq
    · have hr := h5 hp (by omega)
      rw [hq, lexI_zero, lexI_ne (a := r) (by omega)]
      rcases Int.lt_trichotomy q' 0 with h | h | h
      · exact C3.mix' hp h
      · exact C3.pos3 hp (by omega) hr
      · exact C3.pos3 hp (by omega) hr
    · have hr := h5 hp (by omega)
      rw [lexI_ne (a := q) (by omega), lexI_ne (a := r) (by omega)]
      exact C3.pos3 hp (by omega) hr

theorem lexI_neg (a b : Int) : lexI (-a) (-b) = - lexI a b := by unfold lexI; split <;> split <;> omega

theorem numC_neg (a b : Int) : numC b a = - numC a b := by unfold numC; split <;> split <;> (try split) <;> omega
theorem numC_le (a b : Int) : numC a b ≤ 0 ↔ a ≤ b := by unfold numC; split <;> (try split) <;> omega
theorem numC_lt (a b : Int) : numC a b < 0 ↔ a < b := by unfold numC; split <;> (try split) <;> omega
theorem numC_ge (a b : Int) : 0 ≤ numC a b ↔ b ≤ a := by unfold numC; split <;> (try split) <;> omega
theorem numC_gt (a b : Int) : 0 < numC a b ↔ b < a := by unfold numC; split <;> (try split) <;> omega
theorem numC_C3 (a b c : Int) : C3 (numC a b) (numC b c) (numC a c) := by
  unfold C3
  simp only [numC_le, numC_lt, numC_ge, numC_gt]
  refine ⟨?_, ?_, ?_, ?_, ?_, ?_⟩ <;> intros <;> omega

theorem strC_nil : strC [] [] = 0 := by simp [strC]
theorem strC_nil_cons (b : UInt8) (m : List UInt8) : strC [] (b :: m) = -1 := by simp [strC, Op.bytesLess]
theorem strC_cons_nil (b : UInt8) (m : List UInt8) : strC (b :: m) [] = 1 := by simp [strC, Op.bytesLess]
theorem strC_cons (a b : UInt8) (l m : List UInt8) : strC (a :: l) (b :: m) = lexI (numC a.toNat b.toNat) (strC l m) := by
  unfold strC lexI numC
  by_cases h : a = b
  · subst h
    by_cases h2 : l = m
    · subst h2; simp
    · simp [h2, Op.bytesLess]
  · have hne : a.toNat ≠ b.toNat := fun e => h (UInt8.toNat.inj e)
    have h3 : (a :: l = b :: m) = False := by simp [h]
    have h4 : (a == b) = false := by simpa using h
    rw [if_neg (by simp [h])]
    simp only [Op.bytesLess, h4, Bool.false_and, Bool.or_false]
    by_cases hlt : a.toNat < b.toNat
    · have : a < b := hlt
      have h5 : (a.toNat : Int) < b.toNat := by omega
      simp [this, h5]
    · have : ¬ a < b := hlt
      have h5 : ¬ (a.toNat : Int) < b.toNat := by omega
      have h6 : (b.toNat : Int) < a.toNat := by omega
      simp [this, h5, h6]
theorem strC_neg : ∀ a b : List UInt8, strC b a = - strC a b
  | [], [] => by simp [strC_nil]
  | [], b :: m => by rw [strC_nil_cons, strC_cons_nil]; rfl
  | a :: l, [] => by rw [strC_nil_cons, strC_cons_nil]
  | a :: l, b :: m => by rw [strC_cons, strC_cons, numC_neg, strC_neg l m, lexI_neg]
theorem strC_C3 : ∀ a b c : List UInt8, C3 (strC a b) (strC b c) (strC a c)
  | [], [], [] => by simp [strC_nil, C3]
  | [], [], c :: n => by simp [strC_nil, strC_nil_cons, C3]
  | [], b :: m, [] => by simp [strC_nil, strC_nil_cons, strC_cons_nil, C3]
  | [], b :: m, c :: n => by
    rw [strC_nil_cons, strC_nil_cons]
    unfold C3
    refine ⟨?_, ?_, ?_, ?_, ?_, ?_⟩ <;> intros <;> omega
  | a :: l, [], [] => by simp [strC_nil, strC_cons_nil, C3]
  | a :: l, [], c :: n => by
    rw [strC_nil_cons, strC_cons_nil]
    unfold C3
    refine ⟨?_, ?_, ?_, ?_, ?_, ?_⟩ <;> intros <;> omega
  | a :: l, b :: m, [] => by
    rw [strC_cons_nil, strC_cons_nil]
    unfold C3
    refine ⟨?_, ?_, ?_, ?_, ?_, ?_⟩ <;> intros <;> omega
  | a :: l, b :: m, c :: n => by
    rw [strC_cons, strC_cons, strC_cons]
    exact (numC_C3 _ _ _).lex fun _ _ => strC_C3 l m n

theorem cmpT_lex (k n : Int) (s : List UInt8) (l : List Tm) (k' n' : Int) (s' : List UInt8) (l' : List Tm) : cmpT (.mk k n s l) (.mk k' n' s' l') =
    lexI (numC k k') (if k = 1 ∨ k = 3 ∨ k = 4 ∨ k = 6 then numC n n' else if k = 2 then strC s s'
    else if k = 5 then lexI (numC n n') (lexI (numC l.length l'.length) (cmpE l l')) else if k = 7 ∨ k = 9 then lexI (numC l.length l'.length) (cmpE l l') else 0) := by
  rw [cmpT_eq]; rfl

theorem cmpE_lex (a b : Tm) (l l' : List Tm) : cmpE (a :: l) (b :: l') = lexI (cmpT a b) (cmpE l l') := by rw [cmpE_cons]; rfl

theorem cmpE_neg_of : ∀ (l : List Tm), (∀ a ∈ l, ∀ b, cmpT b a = - cmpT a b) → ∀ l', cmpE l' l = - cmpE l l'
  | [], _, [] => by rw [cmpE_nil]; rfl
  | [], _, b :: l' => by rw [cmpE_nil_cons, cmpE_cons_nil]; rfl
  | a :: l, _, [] => by rw [cmpE_nil_cons, cmpE_cons_nil]
  | a :: l, h, b :: l' => by rw [cmpE_lex, cmpE_lex, h a (by simp), cmpE_neg_of l (fun a ha => h a (by simp [ha])) l', lexI_neg]

theorem cmpT_neg (a b : Tm) : cmpT b a = - cmpT a b := by
  induction a using Tm.ind generalizing b with
  | _ k n s l ih =>
    obtain ⟨k', n', s', l'⟩ := b
    rw [cmpT_lex, cmpT_lex, numC_neg, cmpE_neg_of l ih, numC_neg n n', numC_neg l.length l'.length, strC_neg]
    by_cases h : k = k'
    · subst h
      rw [← lexI_neg, numC_self]
      simp only [lexI_neg]
      congr 1
      split
      · rfl
      · split
        · rfl
        · split
          · rfl
          · split
            · rfl
            · rfl
    · have : numC k k' ≠ 0 := fun e => h (numC_zero.1 e)
      unfold lexI
      rw [if_pos (by omega), if_pos this]

theorem cmpE_C3_of : ∀ (l : List Tm), (∀ a ∈ l, ∀ b c, C3 (cmpT a b) (cmpT b c) (cmpT a c)) → ∀ m n, C3 (cmpE l m) (cmpE m n) (cmpE l n)
  | [], _, [], [] => by simp [cmpE_nil, C3]
  | [], _, [], c :: n => by simp [cmpE_nil, cmpE_nil_cons, C3]
  | [], _, b :: m, [] => by simp [cmpE_nil, cmpE_nil_cons, cmpE_cons_nil, C3]
  | [], _, b :: m, c :: n => by
    rw [cmpE_nil_cons, cmpE_nil_cons]
    unfold C3
    refine ⟨?_, ?_, ?_, ?_, ?_, ?_⟩ <;> intros <;> omega
  | a :: l, _, [], [] => by simp [cmpE_nil, cmpE_cons_nil, C3]
  | a :: l, _, [], c :: n => by
    rw [cmpE_nil_cons, cmpE_cons_nil]
    unfold C3
    refine ⟨?_, ?_, ?_, ?_, ?_, ?_⟩ <;> intros <;> omega
  | a :: l, _, b :: m, [] => by
    rw [cmpE_cons_nil, cmpE_cons_nil]
    unfold C3
    refine ⟨?_, ?_, ?_, ?_, ?_, ?_⟩ <;> intros <;> omega
  | a :: l, h, b :: m, c :: n => by
    rw [cmpE_lex, cmpE_lex, cmpE_lex]
    exact (h a (by simp) b c).lex fun _ _ => cmpE_C3_of l (fun a ha => h a (by simp [ha])) m n

theorem cmpT_C3 (a b c : Tm) : C3 (cmpT a b) (cmpT b c) (cmpT a c) := by
  induction a using Tm.ind generalizing b c with
  | _ k n s l ih =>
    obtain ⟨k', n', s', l'⟩ := b
    obtain ⟨k'', n'', s'', l''⟩ := c
    rw [cmpT_lex, cmpT_lex, cmpT_lex]
    refine (numC_C3 _ _ _).lex fun h1 h2 => ?_
    have e1 := numC_zero.1 h1
    have e2 := numC_zero.1 h2
    subst e1 e2
    have hE := cmpE_C3_of l ih l' l''
    have hL := (numC_C3 l.length l'.length l''.length).lex fun _ _ => hE
    split
    · exact numC_C3 _ _ _
    · split
      · exact strC_C3 _ _ _
      · split
        · exact (numC_C3 _ _ _).lex fun _ _ => hL
        · split
          · exact hL
          · simp [C3]

theorem cmpT_self (a : Tm) : cmpT a a = 0 := by have := cmpT_neg a a; omega
theorem cmpT_trans {a b c : Tm} (h1 : cmpT a b ≤ 0) (h2 : cmpT b c ≤ 0) : cmpT a c ≤ 0 := (cmpT_C3 a b c).1 h1 h2
theorem cmpT_lt_le {a b c : Tm} (h1 : cmpT a b < 0) (h2 : cmpT b c ≤ 0) : cmpT a c < 0 := (cmpT_C3 a b c).2.1 h1 h2
theorem cmpT_le_lt {a b c : Tm} (h1 : cmpT a b ≤ 0) (h2 : cmpT b c < 0) : cmpT a c < 0 := (cmpT_C3 a b c).2.2.1 h1 h2
end Go.Av
end

section
/-
  Which terms may be, as plain Lean; of terms that may be those that the order tells alike are the same. Own work.
  What is proved: laws on terms; no condition.
-/
namespace Go.Av
/-- may a term be, but for its parts? -/
def soundB (k n : Int) (s : List UInt8) (m : Nat) : Bool :=
  if k = 1 then decide (-576460752303423488 ≤ n) && (decide (n ≤ 576460752303423487) && (decide (s = []) && decide (m = 0)))
  else if k = 2 then decide (n = 0) && (decide (s.length ≤ 64) && decide (m = 0))
  else if k = 3 then decide (0 ≤ n) && (decide (n ≤ 1073741824) && (decide (s = []) && decide (m = 0)))
  else if k = 4 then decide (0 ≤ n) && (decide (n ≤ 1073741824) && (decide (s = []) && decide (m = 0)))
  else if k = 6 then decide (0 ≤ n) && (decide (n ≤ 1073741824) && (decide (s = []) && decide (m = 0)))
  else if k = 5 then decide (0 ≤ n) && (decide (n ≤ 1073741824) && (decide (s = []) && decide (m ≤ 64)))
  else if k = 7 then decide (n = 0) && (decide (s = []) && decide (m ≤ 64))
  else if k = 8 then decide (n = 0) && (decide (s = []) && decide (m = 0))
  else if k = 9 then decide (n = 0) && (decide (s = []) && decide (m = 2))
  else false
def Tm.sound (t : Tm) : Bool := soundB t.kind t.num t.str t.subs.length
def Tm.own (t : Tm) : Nat := if t.kind = 7 ∨ t.kind = 5 then 2 else 1
theorem bif_and {β : Type} (a b : Bool) (x y : β) : (bif a then (bif b then x else y) else y) = bif (a && b) then x else y := by cases a <;> rfl
theorem bif_some (a : Bool) : (bif a then some (AV.bool true) else some (AV.bool false)) = some (.bool a) := by cases a <;> rfl
theorem bif_some' (a b : Bool) : (bif a then some (AV.bool b) else some (AV.bool false)) = some (.bool (a && b)) := by cases a <;> rfl
theorem beqNil (s : List UInt8) : (s == []) = decide (s = []) := by cases s <;> simp
theorem beqI (a b : Int) : (a == b) = decide (a = b) := by simp [beqD]
theorem castZ (n : Nat) : ((n : Int) = 0) = (n = 0) := propext (by omega)
mutual
/-- may all parts of a term be? -/
def Tm.parts : Tm → Bool
  | .mk k n s l => soundB k n s l.length && partsL l
def partsL : List Tm → Bool
  | [] => true
  | t :: l => t.parts && partsL l
end
mutual
/-- how many words all parts have -/
def Tm.words : Tm → Nat
  | .mk k n s l => (Tm.mk k n s l).own + wordsL l
def wordsL : List Tm → Nat
  | [] => 0
  | t :: l => t.words + wordsL l
end
theorem Tm.parts_eq (t : Tm) : t.parts = (t.sound && partsL t.subs) := by cases t; rw [Tm.parts]; rfl
theorem Tm.words_eq (t : Tm) : t.words = t.own + wordsL t.subs := by cases t; rw [Tm.words]; rfl
theorem partsL_append (a b : List Tm) : partsL (a ++ b) = (partsL a && partsL b) := by
  induction a with
  | nil => simp [partsL]
  | cons x l ih => simp [partsL, ih, Bool.and_assoc]
theorem wordsL_append (a b : List Tm) : wordsL (a ++ b) = wordsL a + wordsL b := by
  induction a with
  | nil => simp [wordsL]
  | cons x l ih => simp [wordsL, ih]; omega
theorem partsL_rev (a : List Tm) : partsL a.reverse = partsL a := by
  induction a with
  | nil => rfl
  | cons x l ih => simp [partsL_append, partsL, ih, Bool.and_comm]
theorem wordsL_rev (a : List Tm) : wordsL a.reverse = wordsL a := by
  induction a with
  | nil => rfl
  | cons x l ih => simp [wordsL_append, wordsL, ih]; omega
theorem Tm.own_le (t : Tm) : t.own ≤ 2 ∧ 1 ≤ t.own := by unfold Tm.own; split <;> omega
theorem words_le (t : Tm) : t.words ≤ 2 * t.w := by
  induction t using Tm.ind with
  | _ k n s l ih =>
    have h1 : wordsL l ≤ 2 * wL l := by
      clear n s
      induction l with
      | nil => simp [wordsL]
      | cons x l ih2 =>
        have := ih x (by simp)
        have := ih2 (fun t ht => ih t (by simp [ht]))
        simp [wordsL]; omega
    have := (Tm.mk k n s l).own_le
    rw [Tm.words, Tm.w_mk]; omega
theorem wordsL_le (l : List Tm) : wordsL l ≤ 2 * wL l := by
  induction l with
  | nil => simp [wordsL]
  | cons x l ih => have := words_le x; simp [wordsL]; omega
/-- of terms that are still to be looked at, words counted so far -/
def chkS (R : List Tm) (wd : Nat) : Int := if partsL R then (if 65536 < wd + wordsL R then 3 else 0) else 2
/-- why may a term not be? -/
def Tm.chk (t : Tm) : Int := chkS [t] 0
theorem chkS_bad {R : List Tm} {x : Tm} {wd : Nat} (h : x.sound = false) : chkS (R ++ [x]) wd = 2 := by
  unfold chkS
  rw [partsL_append]
  simp [partsL, Tm.parts_eq, h]
theorem chkS_step {R : List Tm} {x : Tm} {wd : Nat} (h : x.sound = true) : chkS (R ++ x.subs.reverse) (wd + x.own) = chkS (R ++ [x]) wd := by
  unfold chkS
  simp only [partsL_append, partsL_rev, wordsL_append, wordsL_rev, partsL, wordsL, Tm.parts_eq, Tm.words_eq, h, Bool.true_and, Bool.and_true]
  have : wd + x.own + (wordsL R + wordsL x.subs) = wd + (wordsL R + (x.own + wordsL x.subs + 0)) := by omega
  rw [this]

theorem cmpE_alike (l : List Tm) (h : ∀ a ∈ l, a.parts = true → ∀ b : Tm, b.parts = true → cmpT a b = 0 → a = b) : ∀ l', partsL l = true → partsL l' = true → cmpE l l' = 0 → l = l' := by
  induction l with
  | nil =>
    intro l' _ _ hc
    cases l' with
    | nil => rfl
    | cons b m => rw [cmpE_nil_cons] at hc; cases hc
  | cons a l ih =>
    intro l' h1 h2 hc
    cases l' with
    | nil => rw [cmpE_cons_nil] at hc; cases hc
    | cons b m =>
      rw [cmpE_cons] at hc
      simp only [partsL, Bool.and_eq_true] at h1 h2
      split at hc
      · rename_i hne; exact absurd hc hne
      · rename_i he
        have he : cmpT a b = 0 := Decidable.not_not.1 he
        rw [h a (by simp) h1.1 b h2.1 he, ih (fun t ht => h t (by simp [ht])) m h1.2 h2.2 hc]
theorem cmpL_alike {l l' : List Tm} (h : ∀ a ∈ l, a.parts = true → ∀ b : Tm, b.parts = true → cmpT a b = 0 → a = b) (h1 : partsL l = true) (h2 : partsL l' = true) (hc : cmpL l l' = 0) : l = l' := by
  unfold cmpL at hc
  split at hc
  · rename_i hne; exact absurd hc hne
  · exact cmpE_alike l h l' h1 h2 hc
theorem strC_zero {a b : List UInt8} (h : strC a b = 0) : a = b := by
  unfold strC at h
  split at h
  · assumption
  · split at h <;> cases h
theorem cmpT_alike (a : Tm) : a.parts = true → ∀ b : Tm, b.parts = true → cmpT a b = 0 → a = b := by
  induction a using Tm.ind with
  | _ k n s l ih =>
    intro ha b hb hc
    obtain ⟨k', n', s', l'⟩ := b
    rw [Tm.parts, Bool.and_eq_true] at ha hb
    obtain ⟨a1, a2⟩ := ha
    obtain ⟨b1, b2⟩ := hb
    have hl := fun h : cmpL l l' = 0 => cmpL_alike ih a2 b2 h
    rw [cmpT_eq] at hc
    split at hc
    · rename_i hne; exact absurd hc hne
    · rename_i he
      have hk : k = k' := numC_zero.1 (Decidable.not_not.1 he)
      subst hk
      clear he ih a2 b2
      by_cases k1 : k = 1
      · subst k1
        simp [soundB] at a1 b1
        simp at hc
        rw [numC_zero.1 hc, a1.2.2.1, b1.2.2.1, a1.2.2.2, b1.2.2.2]
      by_cases k2 : k = 2
      · subst k2
        simp [soundB] at a1 b1
        simp at hc
        rw [strC_zero hc, a1.1, b1.1, a1.2.2, b1.2.2]
      by_cases k3 : k = 3
      · subst k3
        simp [soundB] at a1 b1
        simp at hc
        rw [numC_zero.1 hc, a1.2.2.1, b1.2.2.1, a1.2.2.2, b1.2.2.2]
      by_cases k4 : k = 4
      · subst k4
        simp [soundB] at a1 b1
        simp at hc
        rw [numC_zero.1 hc, a1.2.2.1, b1.2.2.1, a1.2.2.2, b1.2.2.2]
      by_cases k6 : k = 6
      · subst k6
        simp [soundB] at a1 b1
        simp at hc
        rw [numC_zero.1 hc, a1.2.2.1, b1.2.2.1, a1.2.2.2, b1.2.2.2]
      by_cases k5 : k = 5
      · subst k5
        simp [soundB] at a1 b1
        simp at hc
        split at hc
        · rename_i he
          rw [numC_zero.1 he, a1.2.2.1, b1.2.2.1, hl hc]
        · rename_i hne; exact absurd hc hne
      by_cases k7 : k = 7
      · subst k7
        simp [soundB] at a1 b1
        simp at hc
        rw [a1.1, b1.1, a1.2.1, b1.2.1, hl hc]
      by_cases k8 : k = 8
      · subst k8
        simp [soundB] at a1 b1
        rw [a1.1, b1.1, a1.2.1, b1.2.1, a1.2.2, b1.2.2]
      by_cases k9 : k = 9
      · subst k9
        simp [soundB] at a1 b1
        simp at hc
        rw [a1.1, b1.1, a1.2.1, b1.2.1, hl hc]
      · simp [soundB, k1, k2, k3, k4, k5, k6, k7, k8, k9] at a1
end Go.Av
end

section
/-
  What operations make of values, as plain Lean. Own work.
  What is proved: laws on numbers of 60 bits; no condition.
-/
namespace Go.Av
def numT (i : Int) : Tm := .mk 1 i [] []
def symT (s : List UInt8) : Tm := .mk 2 0 s []
def noneT : Tm := .mk 8 0 [] []
def tupT (l : List Tm) : Tm := .mk 7 0 [] l
def zeroT : Tm := .mk 0 0 [] []
theorem numT_av (i : Int) : (numT i).av = .agg [.int .i64 1, .int .i64 i, .str [], .sl []] := by rw [numT, Tm.av_mk, rowsT_nil]
theorem symT_av (s : List UInt8) : (symT s).av = .agg [.int .i64 2, .int .i64 0, .str s, .sl []] := by rw [symT, Tm.av_mk, rowsT_nil]
theorem zeroT_av : zeroT.av = .agg [.int .i64 0, .int .i64 0, .str [], .sl []] := by rw [zeroT, Tm.av_mk, rowsT_nil]
def InB (a : Int) : Prop := -576460752303423488 ≤ a ∧ a ≤ 576460752303423487
instance (a : Int) : Decidable (InB a) := inferInstanceAs (Decidable (_ ∧ _))
theorem numT_chk {a : Int} (h : InB a) : (numT a).chk = 0 := by
  obtain ⟨h1, h2⟩ := h
  simp [numT, Tm.chk, chkS, partsL, Tm.parts, soundB, wordsL, Tm.words, Tm.own, Tm.kind, h1, h2]
/-- a number, if it is within bounds -/
def withinG (n : Int) : Option Tm := if InB n then some (numT n) else none
/-! ### bit by bit -/
theorem nat_and_add_or : ∀ x y : Nat, (x &&& y) + (x ||| y) = x + y := by
  intro x
  induction x using Nat.strongRecOn with
  | _ x ih =>
    intro y
    by_cases hx : x = 0
    · subst hx; simp
    · have h := ih (x / 2) (by omega) (y / 2)
      have a2 : (x &&& y) / 2 = (x / 2) &&& (y / 2) := Nat.and_div_two
      have o2 : (x ||| y) / 2 = (x / 2) ||| (y / 2) := Nat.or_div_two
      have am : (x &&& y) % 2 = (x % 2) &&& (y % 2) := by simpa using Nat.and_mod_two_pow (a := x) (b := y) (n := 1)
      have om : (x ||| y) % 2 = (x % 2) ||| (y % 2) := by simpa using Nat.or_mod_two_pow (a := x) (b := y) (n := 1)
      have hs : ((x % 2) &&& (y % 2)) + ((x % 2) ||| (y % 2)) = x % 2 + y % 2 := by
        rcases Nat.mod_two_eq_zero_or_one x with e | e <;> rcases Nat.mod_two_eq_zero_or_one y with e' | e' <;> rw [e, e'] <;> rfl
      omega
theorem nat_or_xor : ∀ x y : Nat, (x ||| y) = (x ^^^ y) + (x &&& y) := by
  intro x
  induction x using Nat.strongRecOn with
  | _ x ih =>
    intro y
    by_cases hx : x = 0
    · subst hx; simp
    · have h := ih (x / 2) (by omega) (y / 2)
      have a2 : (x &&& y) / 2 = (x / 2) &&& (y / 2) := Nat.and_div_two
      have o2 : (x ||| y) / 2 = (x / 2) ||| (y / 2) := Nat.or_div_two
      have e2 : (x ^^^ y) / 2 = (x / 2) ^^^ (y / 2) := Nat.xor_div_two
      have am : (x &&& y) % 2 = (x % 2) &&& (y % 2) := by simpa using Nat.and_mod_two_pow (a := x) (b := y) (n := 1)
      have om : (x ||| y) % 2 = (x % 2) ||| (y % 2) := by simpa using Nat.or_mod_two_pow (a := x) (b := y) (n := 1)
      have em : (x ^^^ y) % 2 = (x % 2) ^^^ (y % 2) := by simpa using Nat.xor_mod_two_pow (a := x) (b := y) (n := 1)
      have hs : ((x % 2) ||| (y % 2)) = ((x % 2) ^^^ (y % 2)) + ((x % 2) &&& (y % 2)) := by
        rcases Nat.mod_two_eq_zero_or_one x with e | e <;> rcases Nat.mod_two_eq_zero_or_one y with e' | e' <;> rw [e, e'] <;> rfl
      omega
/-- a number of 60 bits as one of 64 -/
theorem ofInt_ext {a : Int} (h : InB a) : BitVec.ofInt 64 a = (BitVec.ofInt 60 a).signExtend 64 := by
  obtain ⟨h1, h2⟩ := h
  apply BitVec.eq_of_toInt_eq
  rw [BitVec.toInt_signExtend_of_le (by omega), BitVec.toInt_ofInt, BitVec.toInt_ofInt]
  rw [Int.bmod_eq_of_le (by omega) (by omega), Int.bmod_eq_of_le (by omega) (by omega)]
theorem wrap_toNat (r : BitVec 64) : IntKind.wrap .i64 r.toNat = r.toInt := by
  have h := r.isLt
  rw [BitVec.toInt_eq_toNat_cond]
  simp [IntKind.wrap, IntKind.bits, IntKind.signed]
  omega
def bvG (op : BinOp) (a b : Int) : Int :=
  match op with
  | .and => (BitVec.ofInt 60 a &&& BitVec.ofInt 60 b).toInt
  | .or => (BitVec.ofInt 60 a ||| BitVec.ofInt 60 b).toInt
  | _ => (BitVec.ofInt 60 a ^^^ BitVec.ofInt 60 b).toInt
theorem bvG_and {a b : Int} (ha : InB a) (hb : InB b) : fromSem (Op.intBits .and .i64 a b) = some (.int .i64 (bvG .and a b)) := by
  have : fromSem (Op.intBits .and .i64 a b) = some (.int .i64 (IntKind.wrap .i64 (BitVec.ofInt 64 a &&& BitVec.ofInt 64 b).toNat)) := rfl
  rw [this, wrap_toNat, ofInt_ext ha, ofInt_ext hb, ← BitVec.signExtend_and, BitVec.toInt_signExtend_of_le (by omega)]; rfl
theorem bvG_or {a b : Int} (ha : InB a) (hb : InB b) : fromSem (Op.intBits .or .i64 a b) = some (.int .i64 (bvG .or a b)) := by
  have : fromSem (Op.intBits .or .i64 a b) = some (.int .i64 (IntKind.wrap .i64 (BitVec.ofInt 64 a ||| BitVec.ofInt 64 b).toNat)) := rfl
  rw [this, wrap_toNat, ofInt_ext ha, ofInt_ext hb, ← BitVec.signExtend_or, BitVec.toInt_signExtend_of_le (by omega)]; rfl
theorem bvG_xor {a b : Int} (ha : InB a) (hb : InB b) : fromSem (Op.intBits .xor .i64 a b) = some (.int .i64 (bvG .xor a b)) := by
  have : fromSem (Op.intBits .xor .i64 a b) = some (.int .i64 (IntKind.wrap .i64 (BitVec.ofInt 64 a ^^^ BitVec.ofInt 64 b).toNat)) := rfl
  rw [this, wrap_toNat, ofInt_ext ha, ofInt_ext hb, ← BitVec.signExtend_xor, BitVec.toInt_signExtend_of_le (by omega)]; rfl
theorem bv60 (x : BitVec 60) : InB x.toInt := by
  have h1 := BitVec.toInt_lt (x := x)
  have h2 := BitVec.le_toInt (x := x)
  exact ⟨by omega, by omega⟩
theorem bvG_in (op : BinOp) (a b : Int) : InB (bvG op a b) := by
  unfold bvG
  split <;> exact bv60 _
theorem toInt64 (x : BitVec 60) : (x.signExtend 64).toInt = x.toInt := BitVec.toInt_signExtend_of_le (by omega)
/-- both and either together are the sum; either less both is just one -/
theorem bvG_sum {a b : Int} (ha : InB a) (hb : InB b) : bvG .and a b + bvG .or a b = a + b ∧ bvG .or a b - bvG .and a b = bvG .xor a b := by
  have i1 := bvG_in .and a b
  have i2 := bvG_in .or a b
  have i3 := bvG_in .xor a b
  have e1 : bvG .and a b = (BitVec.ofInt 64 a &&& BitVec.ofInt 64 b).toInt := by
    rw [ofInt_ext ha, ofInt_ext hb, ← BitVec.signExtend_and, toInt64]; rfl
  have e2 : bvG .or a b = (BitVec.ofInt 64 a ||| BitVec.ofInt 64 b).toInt := by
    rw [ofInt_ext ha, ofInt_ext hb, ← BitVec.signExtend_or, toInt64]; rfl
  have e3 : bvG .xor a b = (BitVec.ofInt 64 a ^^^ BitVec.ofInt 64 b).toInt := by
    rw [ofInt_ext ha, ofInt_ext hb, ← BitVec.signExtend_xor, toInt64]; rfl
  have ea : a = (BitVec.ofInt 64 a).toInt := by
    obtain ⟨h1, h2⟩ := ha
    rw [BitVec.toInt_ofInt, Int.bmod_eq_of_le (by omega) (by omega)]
  have eb : b = (BitVec.ofInt 64 b).toInt := by
    obtain ⟨h1, h2⟩ := hb
    rw [BitVec.toInt_ofInt, Int.bmod_eq_of_le (by omega) (by omega)]
  have n1 := nat_and_add_or (BitVec.ofInt 64 a).toNat (BitVec.ofInt 64 b).toNat
  have n2 := nat_or_xor (BitVec.ofInt 64 a).toNat (BitVec.ofInt 64 b).toNat
  rw [BitVec.toInt_eq_toNat_cond] at e1 e2 e3 ea eb
  rw [BitVec.toNat_and] at e1
  rw [BitVec.toNat_or] at e2
  rw [BitVec.toNat_xor] at e3
  generalize (BitVec.ofInt 64 a).toNat &&& (BitVec.ofInt 64 b).toNat = A at *
  generalize (BitVec.ofInt 64 a).toNat ||| (BitVec.ofInt 64 b).toNat = O at *
  generalize (BitVec.ofInt 64 a).toNat ^^^ (BitVec.ofInt 64 b).toNat = X at *
  have la := (BitVec.ofInt 64 a).isLt
  have lb := (BitVec.ofInt 64 b).isLt
  generalize (BitVec.ofInt 64 a).toNat = U at *
  generalize (BitVec.ofInt 64 b).toNat = V at *
  obtain ⟨_, _⟩ := i1
  obtain ⟨_, _⟩ := i2
  obtain ⟨_, _⟩ := i3
  obtain ⟨_, _⟩ := ha
  obtain ⟨_, _⟩ := hb
  constructor
  · split at e1 <;> split at e2 <;> split at ea <;> split at eb <;> omega
  · split at e1 <;> split at e2 <;> split at e3 <;> omega
end Go.Av
namespace Go.Av
/-! ### what an operation makes of two numbers -/
def numbersG (op : List UInt8) (a b : Int) : Option Tm :=
  if op = [43] then withinG (a + b)
  else if op = [45] then withinG (a - b)
  else if op = [42] then withinG (a * b)
  else if op = [98, 97, 110, 100] then withinG (bvG .and a b)
  else if op = [98, 111, 114] then withinG (bvG .or a b)
  else if op = [98, 120, 111, 114] then withinG (bvG .xor a b)
  else if b = 0 then none
  else if op = [100, 105, 118] then withinG (a.tdiv b)
  else withinG (a.tmod b)
theorem beqS (a b : List UInt8) : (a == b) = decide (a = b) := by by_cases h : a = b <;> simp [h]
theorem intDiv_quo {a b : Int} (h : b ≠ 0) : fromSem (Op.intDiv .quo .i64 a b) = some (.int .i64 (IntKind.wrap .i64 (a.tdiv b))) := by
  unfold Op.intDiv; rw [if_neg h]; rfl
theorem intDiv_rem {a b : Int} (h : b ≠ 0) : fromSem (Op.intDiv .rem .i64 a b) = some (.int .i64 (a.tmod b)) := by
  unfold Op.intDiv; rw [if_neg h]; rfl
theorem tdiv_abs {a b : Int} (_h : b ≠ 0) : (a.tdiv b).natAbs ≤ a.natAbs := by
  rw [Int.natAbs_tdiv]; exact Nat.div_le_self _ _
/-- what an evaluation is done around -/
structure Env where
  obj : Tm
  binds : List (Int × Tm)
  self : Int
def bindsR (l : List (Int × Tm)) : List (List AV) := l.map fun p => .int .i64 p.1 :: p.2.cells
theorem bindsR_nil : bindsR [] = [] := rfl
theorem bindsR_len (l : List (Int × Tm)) : (bindsR l).length = l.length := by simp [bindsR]
theorem bindsR_get (l : List (Int × Tm)) (i : Nat) : (bindsR l)[i]? = (l[i]?).map fun p => .int .i64 p.1 :: p.2.cells := by simp [bindsR]
abbrev mR (e : Env) (b : Bool) : List (List AV) := [[.int .i64 e.obj.kind, .int .i64 e.obj.num, .str e.obj.str, .sl (rowsT e.obj.subs), .sl (bindsR e.binds), .int .i64 e.self, .bool b]]
/-- the value, or that it raised -/
def Res (e : Env) (o : Option Tm) (r : AV × List (List AV)) : Prop :=
  match o with
  | some t => r = (t.av, mR e false)
  | none => r.2 = mR e true ∧ ∃ t : Tm, r.1 = t.av
end Go.Av
namespace Go.Av
def tru : List UInt8 := [116, 114, 117, 101]
def fal : List UInt8 := [102, 97, 108, 115, 101]
def truthT (b : Bool) : Tm := symT (if b then tru else fal)
/-- which of true and false a value is -/
def boolG (t : Tm) : Option Bool := if t.kind = 2 ∧ t.str = tru then some true else if t.kind = 2 ∧ t.str = fal then some false else none
/-- what an operation makes of two values -/
def twoG (op : List UInt8) (a b : Tm) : Option Tm :=
  if op = [61, 61] then some (truthT (decide (cmpT a b = 0)))
  else if op = [61, 58, 61] then some (truthT (decide (cmpT a b = 0)))
  else if op = [47, 61] then some (truthT (!decide (cmpT a b = 0)))
  else if op = [61, 47, 61] then some (truthT (!decide (cmpT a b = 0)))
  else if op = [60] then some (truthT (decide (cmpT a b < 0)))
  else if op = [61, 60] then some (truthT (decide (cmpT a b ≤ 0)))
  else if op = [62] then some (truthT (decide (cmpT a b > 0)))
  else if op = [62, 61] then some (truthT (decide (cmpT a b ≥ 0)))
  else if op = [97, 110, 100] ∨ op = [97, 110, 100, 97, 108, 115, 111] then (boolG a).bind fun x => (boolG b).map fun y => truthT (x && y)
  else if op = [111, 114] ∨ op = [111, 114, 101, 108, 115, 101] then (boolG a).bind fun x => (boolG b).map fun y => truthT (x || y)
  else if op = [120, 111, 114] then (boolG a).bind fun x => (boolG b).map fun y => truthT (x != y)
  else if op = [101, 108, 101, 109, 101, 110, 116] then (if a.kind = 1 ∧ 1 ≤ a.num ∧ b.kind = 7 ∧ a.num ≤ b.subs.length then b.subs[(a.num - 1).toNat]? else none)
  else if a.kind = 1 ∧ b.kind = 1 then numbersG op a.num b.num else none
end Go.Av
namespace Go.Av
/-! ### how many arguments operations may have -/
def opsTab : List (List UInt8 × List Int) := [
  ([115, 101, 108, 102], [0]),
  ([105, 115, 95, 97, 116, 111, 109], [1]),
  ([105, 115, 95, 105, 110, 116, 101, 103, 101, 114], [1]),
  ([105, 115, 95, 108, 105, 115, 116], [1]),
  ([105, 115, 95, 116, 117, 112, 108, 101], [1]),
  ([105, 115, 95, 112, 105, 100], [1]),
  ([105, 115, 95, 102, 117, 110, 99, 116, 105, 111, 110], [1]),
  ([105, 115, 95, 114, 101, 102, 101, 114, 101, 110, 99, 101], [1]),
  ([110, 111, 116], [1]),
  ([98, 110, 111, 116], [1]),
  ([97, 98, 115], [1]),
  ([116, 117, 112, 108, 101, 95, 115, 105, 122, 101], [1]),
  ([115, 105, 122, 101], [1]),
  ([104, 100], [1]),
  ([116, 108], [1]),
  ([108, 101, 110, 103, 116, 104], [1]),
  ([43], [1, 2]),
  ([45], [1, 2]),
  ([61, 61], [2]),
  ([61, 58, 61], [2]),
  ([47, 61], [2]),
  ([61, 47, 61], [2]),
  ([60], [2]),
  ([61, 60], [2]),
  ([62], [2]),
  ([62, 61], [2]),
  ([97, 110, 100], [2]),
  ([111, 114], [2]),
  ([120, 111, 114], [2]),
  ([97, 110, 100, 97, 108, 115, 111], [2]),
  ([111, 114, 101, 108, 115, 101], [2]),
  ([42], [2]),
  ([100, 105, 118], [2]),
  ([114, 101, 109], [2]),
  ([98, 97, 110, 100], [2]),
  ([98, 111, 114], [2]),
  ([98, 120, 111, 114], [2]),
  ([101, 108, 101, 109, 101, 110, 116], [2])]
def lookS {β : Type} (op : List UInt8) (d : β) : List (List UInt8 × β) → β
  | [] => d
  | p :: l => bif op == p.1 then p.2 else lookS op d l
theorem lookS_map {β γ : Type} (g : β → γ) (op : List UInt8) (d : β) : ∀ l : List (List UInt8 × β), lookS op (g d) (l.map fun p => (p.1, g p.2)) = g (lookS op d l)
  | [] => rfl
  | p :: l => by
    rw [List.map_cons, lookS, lookS, lookS_map g op d l]
    cases op == p.1 <;> rfl
def opsG (op : List UInt8) : List Int := lookS op [] opsTab
def intsR (l : List Int) : List (List AV) := l.map fun n => [.int .i64 n]
theorem intsR_len (l : List Int) : (intsR l).length = l.length := by simp [intsR]
theorem intsR_get (l : List Int) (i : Nat) : (intsR l)[i]? = (l[i]?).map fun n => [AV.int .i64 n] := by simp [intsR]
def selfG (n : Int) : Bool := decide (1 ≤ n) && decide (n ≤ 1073741824)
theorem truthT_ok (b : Bool) : (truthT b).Ok := by
  cases b <;> simp [truthT, symT, Tm.Ok, OkL, tru, fal]
theorem numT_ok (n : Int) : (numT n).Ok := by simp [numT, Tm.Ok, OkL]
theorem within_ok {n : Int} {t : Tm} (h : withinG n = some t) : t.Ok ∧ t = numT n := by
  unfold withinG at h
  split at h
  · cases h; exact ⟨numT_ok n, rfl⟩
  · cases h
theorem numbersG_ok {op : List UInt8} {a b : Int} {t : Tm} (h : numbersG op a b = some t) : t.Ok ∧ ∃ n, t = numT n := by
  unfold numbersG at h
  repeat' split at h
  all_goals first | (cases h; done) | exact ⟨(within_ok h).1, _, (within_ok h).2⟩
theorem Tm.Ok.subs {t : Tm} (h : t.Ok) {x : Tm} (hx : x ∈ t.subs) : x.Ok := by
  obtain ⟨k, n, s, l⟩ := t
  exact h.sub hx
theorem bools_ok {a b : Tm} {f : Bool → Bool → Bool} {t : Tm} (h : ((boolG a).bind fun x => (boolG b).map fun y => truthT (f x y)) = some t) : t.Ok := by
  obtain ⟨x, _, h2⟩ := Option.bind_eq_some_iff.1 h
  obtain ⟨y, _, h3⟩ := Option.map_eq_some_iff.1 h2
  rw [← h3]; exact truthT_ok _
theorem ite_ok {c : Prop} [Decidable c] {x y : Option Tm} (h1 : ∀ t, x = some t → t.Ok) (h2 : ∀ t, y = some t → t.Ok) : ∀ t, (if c then x else y) = some t → t.Ok := by
  intro t h
  by_cases hc : c
  · rw [if_pos hc] at h; exact h1 t h
  · rw [if_neg hc] at h; exact h2 t h
theorem twoG_ok {op : List UInt8} {a b : Tm} (hb : b.Ok) : ∀ t, twoG op a b = some t → t.Ok := by
  have tr : ∀ c : Bool, ∀ t, some (truthT c) = some t → t.Ok := fun c t h => by cases h; exact truthT_ok _
  unfold twoG
  refine ite_ok (tr _) (ite_ok (tr _) (ite_ok (tr _) (ite_ok (tr _) (ite_ok (tr _) (ite_ok (tr _) (ite_ok (tr _) (ite_ok (tr _)
    (ite_ok (fun t h => bools_ok (f := fun x y => x && y) h) (ite_ok (fun t h => bools_ok (f := fun x y => x || y) h) (ite_ok (fun t h => bools_ok (f := fun x y => x != y) h)
    (ite_ok (ite_ok (fun t h => hb.subs (List.mem_of_getElem? h)) (fun t h => by cases h)) (ite_ok (fun t h => (numbersG_ok h).1) (fun t h => by cases h)))))))))))))
theorem chk_num {t : Tm} (h : t.chk = 0) (hk : t.kind = 1) : InB t.num := by
  have hp : t.parts = true := by
    unfold Tm.chk chkS at h
    split at h
    · rename_i hp; simpa [partsL] using hp
    · cases h
  obtain ⟨k, n, s, l⟩ := t
  rw [Tm.parts, Bool.and_eq_true] at hp
  have := hp.1
  simp only [Tm.kind_mk] at hk
  subst hk
  simp [soundB] at this
  exact ⟨this.1, this.2.1⟩
end Go.Av
end

section
/-
  What the contracts have in common. Own work.
  What is proved: lemmas on lists and numbers; no condition.
-/
namespace Go.Av
/-- the value tells whether that is so -/
def Tells (p : Prop) (v : AV) : Prop := ∃ b : Bool, v = .bool b ∧ (b = true ↔ p)
theorem tells_bool {p : Prop} {b : Bool} : Tells p (.bool b) ↔ (b = true ↔ p) := ⟨fun ⟨_, h1, h2⟩ => by cases h1; exact h2, fun h => ⟨b, rfl, h⟩⟩
end Go.Av
namespace Go.Proofs.Ytogebohommickaa
open Go.Av

theorem fits56 {n : Nat} (h : n ≤ 1099511627776) : fitsIn n 56 = true := by
  unfold fitsIn
  rw [Bool.and_eq_true, Nat.ble_eq, Nat.ble_eq]
  omega

/-- a list of terms in memory of its own -/
def ownL (l : List Tm) : OV := match l with | [] => .nil | l => .own 4 (rowsT l) 0 l.length

end Go.Proofs.Ytogebohommickaa
end

section
/-
  What the machine that reckons values does with numbers. Own work.
  What is proved: contracts of the abstract evaluation; no condition but that numbers are within bounds.
-/
namespace Go.Proofs.Ytogebohommickaa
open Go.Av
theorem mRaise_ev (e : Env) (b : Bool) : EVd (EV cfg) 77 [.ptr 0 0 0] 7 (mR e b) = some (zeroT.av, mR e true) := by
  apply Gets.get
  refine mRaise_run _ _ _ _ _ _ _ ?_
  rw [zeroT_av]
  simp
theorem mNumber_ev (e : Env) (b : Bool) (n : Int) : EVd (EV cfg) 80 [.ptr 0 0 0, .int .i64 n] 7 (mR e b) = some (if InB n then ((numT n).av, mR e b) else (zeroT.av, mR e true)) := by
  have hr := mRaise_ev e b
  apply Gets.get
  refine mNumber_run _ _ _ _ _ _ _ _ ?_
  simp only [hr]
  unfold InB
  rw [numT_av]
  by_cases h1 : n < -576460752303423488
  · have : ¬ (-576460752303423488 ≤ n ∧ n ≤ 576460752303423487) := by omega
    simp [h1, this]
  · by_cases h2 : n > 576460752303423487
    · have : ¬ (-576460752303423488 ≤ n ∧ n ≤ 576460752303423487) := by omega
      simp [h1, h2, this]
    · have : (-576460752303423488 ≤ n ∧ n ≤ 576460752303423487) := by omega
      simp [h1, h2, this]
theorem mNumber_within (e : Env) (n : Int) {P : AV × List (List AV) → Prop} (h : ∀ r, Res e (withinG n) r → (∃ t : Tm, r.1 = t.av) → P r) : Gets (EVd (EV cfg) 80 [.ptr 0 0 0, .int .i64 n] 7 (mR e false)) P := by
  rw [mNumber_ev]
  refine ⟨_, rfl, h _ ?_ ?_⟩
  · unfold withinG Res
    by_cases hb : InB n
    · simp [hb]
    · simp [hb]; exact ⟨_, rfl⟩
  · by_cases hb : InB n
    · exact ⟨numT n, by simp [hb]⟩
    · exact ⟨zeroT, by simp [hb]⟩
theorem mNumbers_bad (e : Env) (op : List UInt8) (a b : Int) : EVd (EV cfg) 84 [.ptr 0 0 0, .str op, .int .i64 a, .int .i64 b] 7 (mR e true) = some (zeroT.av, mR e true) := by
  apply Gets.get
  refine mNumbers_run _ _ _ _ _ _ _ _ _ _ ?_
  rw [zeroT_av]; simp
/-- what a product's contract says -/
def ProductOk : Prop := ∀ (e : Env) (a b : Int), InB a → InB b → Gets (EVd (EV cfg) 95 [.ptr 0 0 0, .int .i64 a, .int .i64 b] 7 (mR e false)) (Res e (withinG (a * b)))
theorem ret_res {e : Env} {o : Option Tm} {r : AV × List (List AV)} (h : Res e o r) (ht : ∃ t : Tm, r.1 = t.av) : Gets (kTmV r.1 fun (n n_1 : Int) (s : List UInt8) (rows : List (List AV)) => some (AV.agg [.int .i64 n, .int .i64 n_1, .str s, .sl rows], r.2)) (Res e o) := by
  obtain ⟨t, ht⟩ := ht
  rw [ht, kTmV_av]
  refine ⟨_, rfl, ?_⟩
  have : (AV.agg [.int .i64 t.kind, .int .i64 t.num, .str t.str, .sl (rowsT t.subs)], r.2) = r := by
    rw [← Tm.cells_eq]; exact Prod.ext ht.symm rfl
  rw [this]; exact h
theorem Res_tm {e : Env} {o : Option Tm} {r : AV × List (List AV)} (h : Res e o r) : ∃ t : Tm, r.1 = t.av := by
  unfold Res at h
  split at h
  · exact ⟨_, by rw [h]⟩
  · exact h.2
theorem mNumbers_ev (e : Env) (op : List UInt8) {a b : Int} (ha : InB a) (hb : InB b) (hp : op = [42] → ProductOk) : Gets (EVd (EV cfg) 84 [.ptr 0 0 0, .str op, .int .i64 a, .int .i64 b] 7 (mR e false)) (Res e (numbersG op a b)) := by
  have num : ∀ n, Gets (kOpt (EVd (EV cfg) 80 [.ptr 0 0 0, .int .i64 n] 7 (mR e false)) fun q => kTmV q.1 fun (n n_1 : Int) (s : List UInt8) (rows : List (List AV)) => some (AV.agg [.int .i64 n, .int .i64 n_1, .str s, .sl rows], q.2)) (Res e (withinG n)) :=
    fun n => Gets.bind (mNumber_within e n fun r h1 h2 => h1) fun r h => ret_res h (Res_tm h)
  refine mNumbers_run _ _ _ _ _ _ _ _ _ _ ?_
  have ha' := ha
  have hb' := hb
  obtain ⟨a1, a2⟩ := ha
  obtain ⟨b1, b2⟩ := hb
  simp only [beqS, beqD, cond_false]
  unfold numbersG
  by_cases h1 : op = [43]
  · rw [if_pos h1, decide_eq_true h1, cond_true, wrap64 (by omega) (by omega)]; exact num _
  rw [if_neg h1, decide_eq_false h1, cond_false]
  by_cases h2 : op = [45]
  · rw [if_pos h2, decide_eq_true h2, cond_true, wrap64 (by omega) (by omega)]; exact num _
  rw [if_neg h2, decide_eq_false h2, cond_false]
  by_cases h3 : op = [42]
  · rw [if_pos h3, decide_eq_true h3, cond_true]
    exact Gets.bind (hp h3 e a b ha' hb') fun r h => ret_res h (Res_tm h)
  rw [if_neg h3, decide_eq_false h3, cond_false]
  by_cases h4 : op = [98, 97, 110, 100]
  · rw [if_pos h4, decide_eq_true h4, cond_true, bvG_and ha' hb']; simp only [kOptSome, kInt_int]; exact num _
  rw [if_neg h4, decide_eq_false h4, cond_false]
  by_cases h5 : op = [98, 111, 114]
  · rw [if_pos h5, decide_eq_true h5, cond_true, bvG_or ha' hb']; simp only [kOptSome, kInt_int]; exact num _
  rw [if_neg h5, decide_eq_false h5, cond_false]
  by_cases h6 : op = [98, 120, 111, 114]
  · rw [if_pos h6, decide_eq_true h6, cond_true, bvG_xor ha' hb']; simp only [kOptSome, kInt_int]; exact num _
  rw [if_neg h6, decide_eq_false h6, cond_false]
  by_cases h7 : b = 0
  · rw [if_pos h7, decide_eq_true h7, cond_true, mRaise_ev]
    simp only [kOptSome, kTmV_av]
    exact ⟨_, rfl, rfl, zeroT, by rw [Tm.av, Tm.cells_eq]⟩
  rw [if_neg h7, decide_eq_false h7, cond_false, intDiv_quo h7, intDiv_rem h7]
  by_cases h8 : op = [100, 105, 118]
  · have := tdiv_abs (a := a) h7
    rw [if_pos h8, decide_eq_true h8, cond_true, wrap64 (by omega) (by omega)]; simp only [kOptSome, kInt_int]; exact num _
  · rw [if_neg h8, decide_eq_false h8, cond_false]; simp only [kOptSome, kInt_int]; exact num _
end Go.Proofs.Ytogebohommickaa
end

section
/-
  What is left of the functions' evaluation at arguments with variables, printed by a program of ours (resid2.py) and checked by the kernel.
  What is proved: each equation as it stands; no condition.
-/
namespace Go.Proofs.Ytogebohommickaa
open Go.Av
set_option maxRecDepth 100000
set_option maxHeartbeats 0

noncomputable def Lq62_0 : Den := evC cfg (EV cfg) 93 none 0 (sub (bodyOf Try.f93) [1, 1, 0, 1, 0, 0])
noncomputable def Aq62_0 : Ex × List AV × AH → Option AV := kAft (Cfg.keepOut cfg 93 3) (kRun cfg (EV cfg) (kfN cfg 6) 93 none 0 (kFinS cfg (Cfg.lift cfg 93 0) Try.f93.results.toList) ([.block 0, .seq (sub (bodyOf Try.f93) [1, 1, 1])]))
noncomputable def Wq62_0 : List AV × AH → Option AV := fun p => kOpt (LOOP 0 (some [3, 6, 7, 8]) ([]) Lq62_0 p) Aq62_0
noncomputable def Lq97_0 : Den := evC cfg (EV cfg) 99 none 0 (sub (bodyOf Try.f99) [1, 0, 1, 0, 0])
noncomputable def Aq97_0 : Ex × List AV × AH → Option AV := kAft (Cfg.keepOut cfg 99 2) (kRun cfg (EV cfg) (kfN cfg 6) 99 none 0 (kFinS cfg (Cfg.lift cfg 99 0) Try.f99.results.toList) ([.block 0, .seq (sub (bodyOf Try.f99) [1, 1])]))
noncomputable def Wq97_0 : List AV × AH → Option AV := fun p => kOpt (LOOP 0 (some [0, 1, 2, 11, 12, 13]) ([]) Lq97_0 p) Aq97_0
noncomputable def Lq15_0 : Den := evC cfg (EV cfg) 83 none 0 (sub (bodyOf Try.f83) [1, 0, 1, 0, 0])
noncomputable def Aq15_0 : Ex × List AV × AH → Option AV := kAft (Cfg.keepOut cfg 83 1) (kRun cfg (EV cfg) (kfN cfg 6) 83 none 0 (kFinS cfg (Cfg.lift cfg 83 0) Try.f83.results.toList) ([.block 0, .scope]))
noncomputable def Wq15_0 : List AV × AH → Option AV := fun p => kOpt (LOOP 0 (some [2, 3]) ([]) Lq15_0 p) Aq15_0
noncomputable abbrev wq62_0 (a : Int) (b : Int) (c : Int) (v8 : Int) : Option (AV) := Wq62_0  (((fx 18 [(3, AV.int IntKind.i64 (0 : Int)), (6, AV.sl [[AV.int IntKind.i64 a], [AV.int IntKind.i64 b], [AV.int IntKind.i64 c]]), (7, AV.int IntKind.i64 (3 : Int)), (8, AV.int IntKind.i64 v8)]) : List AV), ([] : AH))
noncomputable abbrev wq62_0a (a : Int) (b : Int) (v8 : Int) : Option (AV) := Wq62_0  (((fx 18 [(3, AV.int IntKind.i64 (0 : Int)), (6, AV.sl [[AV.int IntKind.i64 a], [AV.int IntKind.i64 b]]), (7, AV.int IntKind.i64 (2 : Int)), (8, AV.int IntKind.i64 v8)]) : List AV), ([] : AH))
noncomputable abbrev wq97_0 (A : List (List AV)) (B : List (List AV)) (v13 : Int) : Option (AV) := Wq97_0  (((fx 39 [(0, AV.sl A), (1, AV.sl B), (2, AV.fn (Fn.func 83) [] []), (11, AV.sl A), (12, AV.int IntKind.i64 (↑(List.length A) : Int)), (13, AV.int IntKind.i64 v13)]) : List AV), ([] : AH))
noncomputable abbrev wq15_0 (c0_0 : Int) (c0_1 : Int) (c0_2 : List UInt8) (c0_3 : List (List AV)) (c1_0 : Int) (c1_1 : Int) (c1_2 : List UInt8) (c1_3 : List (List AV)) : Option (AV) := Wq15_0  (((fx 117 [(2, AV.ptr (0 : Nat) (0 : Nat) (0 : Nat)), (3, AV.ptr (1 : Nat) (0 : Nat) (0 : Nat))]) : List AV), ([ABlk.rows false (4 : Nat) [[AV.int IntKind.i64 c0_0, AV.int IntKind.i64 c0_1, AV.str c0_2, AV.sl c0_3]], ABlk.rows false (4 : Nat) [[AV.int IntKind.i64 c1_0, AV.int IntKind.i64 c1_1, AV.str c1_2, AV.sl c1_3]]] : AH))
theorem cmpI_run (a : Int) (b : Int) {P : AV → Prop} (h : Gets (kOpt (EVs (EV cfg) 97 [.int .i64 a]) fun (v : AV) => kBool v fun (b_1 : Bool) => kOpt (EVs (EV cfg) 97 [.int .i64 b]) fun (v : AV) => kBool v fun (b_2 : Bool) => bif b_1 then bif b_2 
  then some (.int .i64 (0 : Int)) else some (.int .i64 (-1 : Int)) else bif b_2 then some (.int .i64 (1 : Int)) else bif decide (a < b) then some (.int .i64 (-1 : Int)) else bif decide 
  (a > b) then some (.int .i64 (1 : Int)) else some (.int .i64 (0 : Int))) P) : Gets (EVs (EV cfg) 91 ([AV.int IntKind.i64 a, AV.int IntKind.i64 b] : List AV)) P :=
  Gets.ev (fun _ h => funS rfl rfl Try.func91 rfl h) (Gets.eq (by kernel_rfl) h)
theorem cmpSt_run (a : List UInt8) (b : List UInt8) {P : AV → Prop} (h : Gets (kOpt (EVs (EV cfg) 98 [.str a, .str b]) fun (v : AV) => kInt .i64 v fun (n : Int) => some (.int .i64 n)) P) : Gets (EVs (EV cfg) 92 ([AV.str a, AV.str b] : List AV)) P :=
  Gets.ev (fun _ h => funS rfl rfl Try.func92 rfl h) (Gets.eq (by kernel_rfl) h)
theorem or3_run (a : Int) (b : Int) (c : Int) {P : AV → Prop} (h : Gets (wq62_0 a b c (0 : Int)) P) : Gets (EVs (EV cfg) 93 ([AV.sl [[AV.int IntKind.i64 a], [AV.int IntKind.i64 b], [AV.int IntKind.i64 c]]] : List AV)) P :=
  Gets.ev (fun _ h => funS rfl rfl Try.func93 rfl h) (Gets.eq (by kernel_rfl) h)
theorem or2_run (a : Int) (b : Int) {P : AV → Prop} (h : Gets (wq62_0a a b (0 : Int)) P) : Gets (EVs (EV cfg) 93 ([AV.sl [[AV.int IntKind.i64 a], [AV.int IntKind.i64 b]]] : List AV)) P :=
  Gets.ev (fun _ h => funS rfl rfl Try.func93 rfl h) (Gets.eq (by kernel_rfl) h)
theorem cmpFunc_run (A : List (List AV)) (B : List (List AV)) {P : AV → Prop} (h : Gets (wq97_0 A B (0 : Int)) P) : Gets (EVs (EV cfg) 99 ([AV.sl A, AV.sl B, AV.fn (Fn.func 83) [] []] : List AV)) P :=
  Gets.ev (fun _ h => funS rfl rfl Try.func99 rfl h) (Gets.eq (by kernel_rfl) h)
theorem isNaNI_run (a : Int) {P : AV → Prop} (h : Gets (some (.bool (a != a))) P) : Gets (EVs (EV cfg) 97 ([AV.int IntKind.i64 a] : List AV)) P :=
  Gets.ev (fun _ h => funS rfl rfl Try.func97 rfl h) (Gets.eq (by kernel_rfl) h)
theorem cmpStr_run (a : List UInt8) (b : List UInt8) {P : AV → Prop} (h : Gets (kOpt (EVs (EV cfg) 101 [.str a, .str b]) fun (v : AV) => kInt .i64 v fun (n : Int) => some (.int .i64 n)) P) : Gets (EVs (EV cfg) 98 ([AV.str a, AV.str b] : List AV)) P :=
  Gets.ev (fun _ h => funS rfl rfl Try.func98 rfl h) (Gets.eq (by kernel_rfl) h)
theorem order_lists_run (A : List (List AV)) (B : List (List AV)) {P : AV → Prop} (h : Gets (kOpt (EVs (EV cfg) 99 [.sl A, .sl B, AV.fn (Fn.func 83) [] []]) fun (v : AV) => kInt .i64 v fun (n : Int) => some (.int .i64 n)) P) : Gets (EVs (EV cfg) 94 ([AV.sl A, AV.sl B] : List AV)) P :=
  Gets.ev (fun _ h => funS rfl rfl Try.func94 rfl h) (Gets.eq (by kernel_rfl) h)
theorem oCompare_run (ka : Int) (na : Int) (sa : List UInt8) (la : List (List AV)) (kb : Int) (nb : Int) (sb : List UInt8) (lb : List (List AV)) {P : AV → Prop} (h : Gets (wq15_0 ka na sa la kb nb sb lb) P) : Gets (EVs (EV cfg) 83 ([AV.agg [AV.int IntKind.i64 ka, AV.int IntKind.i64 na, AV.str sa, AV.sl la], AV.agg [AV.int IntKind.i64 kb, AV.int IntKind.i64 nb, AV.str sb, AV.sl lb]] : List AV)) P :=
  Gets.ev (fun _ h => funS rfl rfl Try.func83 rfl h) (Gets.eq (by kernel_rfl) h)
theorem wq62_0_step (a : Int) (b : Int) (c : Int) (v8 : Int) {P : AV → Prop} (h : Gets (bif decide (v8 < (3 : Int)) then bif leInt (0 : Int) v8 && ltInt v8 (↑3 : Int) then kOpt (List.get?Internal [[.int .i64 a], [.int .i64 b], [.int .i64 c]] (Int.toNat v8)) fun (row : 
  List AV) => bif Nat.beq (List.length row) 1 then kOpt (List.get?Internal row 0) fun (v : AV) => kInt .i64 v fun (n : Int) => bif n != (0 : Int) then some (.int .i64 n) else wq62_0 a 
  b c (IntKind.wrap .i64 (v8 + (1 : Int))) else none else none else some (.int .i64 (0 : Int))) P) : Gets (wq62_0 a b c v8) P :=
  Gets.ev (fun _ h => loop_step (cfg := cfg) (f := 93) (rd := none) (bs := 0) h) (Gets.eq (by kernel_rfl) h)
theorem wq62_0a_step (a : Int) (b : Int) (v8 : Int) {P : AV → Prop} (h : Gets (bif decide (v8 < (2 : Int)) then bif leInt (0 : Int) v8 && ltInt v8 (↑2 : Int) then kOpt (List.get?Internal [[.int .i64 a], [.int .i64 b]] (Int.toNat v8)) fun (row : List AV) => bif 
  Nat.beq (List.length row) 1 then kOpt (List.get?Internal row 0) fun (v : AV) => kInt .i64 v fun (n : Int) => bif n != (0 : Int) then some (.int .i64 n) else wq62_0a a b (IntKind.wrap 
  .i64 (v8 + (1 : Int))) else none else none else some (.int .i64 (0 : Int))) P) : Gets (wq62_0a a b v8) P :=
  Gets.ev (fun _ h => loop_step (cfg := cfg) (f := 93) (rd := none) (bs := 0) h) (Gets.eq (by kernel_rfl) h)
theorem wq97_0_step (A : List (List AV)) (B : List (List AV)) (v13 : Int) {P : AV → Prop} (h : Gets (bif decide (v13 < (↑(List.length A) : Int)) then bif leInt (0 : Int) v13 && ltInt v13 (↑(List.length A) : Int) then kOpt (List.get?Internal A (Int.toNat v13)) fun (row : List AV) => 
  bif Nat.beq (List.length row) 4 then bif Nat.ble 4 (List.length row) then kTmC (List.take 4 row) fun (n n_1 : Int) (s : List UInt8) (rows : List (List AV)) => (bif decide (v13 ≥ (↑(List.length 
  B) : Int)) then some (.int .i64 (1 : Int)) else bif leInt (0 : Int) v13 && ltInt v13 (↑(List.length B) : Int) then kOpt (List.get?Internal B (Int.toNat v13)) fun (row : List AV) => 
  bif Nat.beq (List.length row) 4 then bif Nat.ble 4 (List.length row) then kTmC (List.take 4 row) fun (n_2 n_3 : Int) (s_1 : List UInt8) (rows_1 : List (List AV)) => (kOpt (EVs (EV cfg) 
  83 [.agg [.int .i64 n, .int .i64 n_1, .str s, .sl rows], .agg [.int .i64 n_2, .int .i64 n_3, .str s_1, .sl rows_1]]) fun (v : AV) => kInt .i64 v fun (n : Int) => bif n != (0 : Int) 
  then some (.int .i64 n) else wq97_0 A B (IntKind.wrap .i64 (v13 + (1 : Int)))) else none else none else none) else none else none else none else bif decide ((↑(List.length A) : Int) 
  < (↑(List.length B) : Int)) then some (.int .i64 (-1 : Int)) else some (.int .i64 (0 : Int))) P) : Gets (wq97_0 A B v13) P :=
  Gets.ev (fun _ h => loop_step (cfg := cfg) (f := 99) (rd := none) (bs := 0) h) (Gets.eq (by kernel_rfl) h)
theorem wq15_0_step (c0_0 : Int) (c0_1 : Int) (c0_2 : List UInt8) (c0_3 : List (List AV)) (c1_0 : Int) (c1_1 : Int) (c1_2 : List UInt8) (c1_3 : List (List AV)) {P : AV → Prop} (h : Gets (kOpt (EVs (EV cfg) 91 [.int .i64 c0_0, .int .i64 c1_0]) fun (v : AV) => kInt .i64 v fun (n : Int) => bif n != (0 : Int) then some (.int .i64 n) else bif c0_0 == (1 : Int) then kOpt 
  (EVs (EV cfg) 91 [.int .i64 c0_1, .int .i64 c1_1]) fun (v : AV) => kInt .i64 v fun (n : Int) => some (.int .i64 n) else bif c0_0 == (3 : Int) then kOpt (EVs (EV cfg) 91 [.int .i64 c0_1, 
  .int .i64 c1_1]) fun (v : AV) => kInt .i64 v fun (n : Int) => some (.int .i64 n) else bif c0_0 == (4 : Int) then kOpt (EVs (EV cfg) 91 [.int .i64 c0_1, .int .i64 c1_1]) fun (v : AV) 
  => kInt .i64 v fun (n : Int) => some (.int .i64 n) else bif c0_0 == (6 : Int) then kOpt (EVs (EV cfg) 91 [.int .i64 c0_1, .int .i64 c1_1]) fun (v : AV) => kInt .i64 v fun (n : Int) 
  => some (.int .i64 n) else bif c0_0 == (2 : Int) then kOpt (EVs (EV cfg) 92 [.str c0_2, .str c1_2]) fun (v : AV) => kInt .i64 v fun (n : Int) => some (.int .i64 n) else bif c0_0 == 
  (5 : Int) then kOpt (EVs (EV cfg) 91 [.int .i64 c0_1, .int .i64 c1_1]) fun (v : AV) => kInt .i64 v fun (n : Int) => kOpt (EVs (EV cfg) 91 [.int .i64 (↑(List.length c0_3) : Int), .int 
  .i64 (↑(List.length c1_3) : Int)]) fun (v : AV) => kInt .i64 v fun (n_1 : Int) => kOpt (EVs (EV cfg) 94 [.sl c0_3, .sl c1_3]) fun (v : AV) => kInt .i64 v fun (n_2 : Int) => kOpt (EVs 
  (EV cfg) 93 [.sl [[.int .i64 n], [.int .i64 n_1], [.int .i64 n_2]]]) fun (v : AV) => kInt .i64 v fun (n : Int) => some (.int .i64 n) else bif c0_0 == (9 : Int) then bif (↑(List.length 
  c0_3) : Int) == (2 : Int) then bif (↑(List.length c1_3) : Int) == (2 : Int) then bif ltInt (0 : Int) (↑(List.length c0_3) : Int) then kOpt (List.get?Internal c0_3 0) fun (row : List 
  AV) => bif Nat.beq (List.length row) 4 then bif Nat.ble 4 (List.length row) then kTmC (List.take 4 row) fun (n n_1 : Int) (s : List UInt8) (rows : List (List AV)) => (bif ltInt (0 : 
  Int) (↑(List.length c1_3) : Int) then kOpt (List.get?Internal c1_3 0) fun (row : List AV) => bif Nat.beq (List.length row) 4 then bif Nat.ble 4 (List.length row) then kTmC (List.take 
  4 row) fun (n_2 n_3 : Int) (s_1 : List UInt8) (rows_1 : List (List AV)) => (kOpt (EVs (EV cfg) 83 [.agg [.int .i64 n, .int .i64 n_1, .str s, .sl rows], .agg [.int .i64 n_2, .int .i64 
  n_3, .str s_1, .sl rows_1]]) fun (v : AV) => kInt .i64 v fun (n : Int) => bif n != (0 : Int) then some (.int .i64 n) else bif ltInt (1 : Int) (↑(List.length c0_3) : Int) then kOpt (List.get?Internal 
  c0_3 1) fun (row : List AV) => bif Nat.beq (List.length row) 4 then bif Nat.ble 4 (List.length row) then kTmC (List.take 4 row) fun (n n_4 : Int) (s : List UInt8) (rows : List (List 
  AV)) => (bif ltInt (1 : Int) (↑(List.length c1_3) : Int) then kOpt (List.get?Internal c1_3 1) fun (row : List AV) => bif Nat.beq (List.length row) 4 then bif Nat.ble 4 (List.length 
  row) then kTmC (List.take 4 row) fun (n_5 n_6 : Int) (s_2 : List UInt8) (rows_2 : List (List AV)) => (wq15_0 n n_4 s rows n_5 n_6 s_2 rows_2) else none else none else none) else none 
  else none else none) else none else none else none) else none else none else none else kOpt (EVs (EV cfg) 91 [.int .i64 (↑(List.length c0_3) : Int), .int .i64 (↑(List.length c1_3) : 
  Int)]) fun (v : AV) => kInt .i64 v fun (n : Int) => kOpt (EVs (EV cfg) 94 [.sl c0_3, .sl c1_3]) fun (v : AV) => kInt .i64 v fun (n_1 : Int) => kOpt (EVs (EV cfg) 93 [.sl [[.int .i64 
  n], [.int .i64 n_1]]]) fun (v : AV) => kInt .i64 v fun (n : Int) => some (.int .i64 n) else kOpt (EVs (EV cfg) 91 [.int .i64 (↑(List.length c0_3) : Int), .int .i64 (↑(List.length c1_3) 
  : Int)]) fun (v : AV) => kInt .i64 v fun (n : Int) => kOpt (EVs (EV cfg) 94 [.sl c0_3, .sl c1_3]) fun (v : AV) => kInt .i64 v fun (n_1 : Int) => kOpt (EVs (EV cfg) 93 [.sl [[.int .i64 
  n], [.int .i64 n_1]]]) fun (v : AV) => kInt .i64 v fun (n : Int) => some (.int .i64 n) else bif c0_0 == (7 : Int) then kOpt (EVs (EV cfg) 91 [.int .i64 (↑(List.length c0_3) : Int), 
  .int .i64 (↑(List.length c1_3) : Int)]) fun (v : AV) => kInt .i64 v fun (n : Int) => kOpt (EVs (EV cfg) 94 [.sl c0_3, .sl c1_3]) fun (v : AV) => kInt .i64 v fun (n_1 : Int) => kOpt 
  (EVs (EV cfg) 93 [.sl [[.int .i64 n], [.int .i64 n_1]]]) fun (v : AV) => kInt .i64 v fun (n : Int) => some (.int .i64 n) else some (.int .i64 (0 : Int))) P) : Gets (wq15_0 c0_0 c0_1 c0_2 c0_3 c1_0 c1_1 c1_2 c1_3) P :=
  Gets.ev (fun _ h => loop_step (cfg := cfg) (f := 83) (rd := none) (bs := 0) h) (Gets.eq (by kernel_rfl) h)
end Go.Proofs.Ytogebohommickaa
end

section
/-
  The order of terms: order.Compare tells cmpT. Own work.
  What is proved: contracts of the abstract evaluation; no condition but on a term's size.
-/
namespace Go.Proofs.Ytogebohommickaa
open Go.Av
set_option maxRecDepth 100000

theorem isNaN_ev (a : Int) : EVs (EV cfg) 97 [.int .i64 a] = some (.bool false) := by
  apply Gets.get
  refine isNaNI_run _ ?_
  simp
theorem cmp_ev (a b : Int) : EVs (EV cfg) 91 [.int .i64 a, .int .i64 b] = some (.int .i64 (numC a b)) := by
  apply Gets.get
  refine cmpI_run _ _ ?_
  rw [isNaN_ev, isNaN_ev]
  unfold numC
  by_cases h1 : a < b
  · simp [h1]
  · by_cases h2 : b < a
    · simp [h1, h2]
    · simp [h1, h2]
theorem cmpstr_ev (a b : List UInt8) : EVs (EV cfg) 101 [.str a, .str b] = some (.int .i64 (strC a b)) := by
  refine EVs_of (H := []) (EV_of ?_)
  have hx : cfg.ext 101 = some extCmp := rfl
  unfold evBody
  simp only [hx]
  unfold extCmp strC
  by_cases h : a = b
  · simp [h]
  · simp [h]
theorem strCmp_ev (a b : List UInt8) : EVs (EV cfg) 92 [.str a, .str b] = some (.int .i64 (strC a b)) := by
  have h96 : EVs (EV cfg) 98 [.str a, .str b] = some (.int .i64 (strC a b)) := by
    apply Gets.get
    refine cmpStr_run _ _ ?_
    rw [cmpstr_ev]; simp
  apply Gets.get
  refine cmpSt_run _ _ ?_
  rw [h96]; simp
theorem or3_ev (a b c : Int) : EVs (EV cfg) 93 [.sl [[.int .i64 a], [.int .i64 b], [.int .i64 c]]] = some (.int .i64 (if a ≠ 0 then a else if b ≠ 0 then b else c)) := by
  apply Gets.get
  refine or3_run _ _ _ ?_
  have w1 : IntKind.wrap .i64 (0 + 1) = 1 := wrap64 (by omega) (by omega)
  have w2 : IntKind.wrap .i64 (1 + 1) = 2 := wrap64 (by omega) (by omega)
  have w3 : IntKind.wrap .i64 (2 + 1) = 3 := wrap64 (by omega) (by omega)
  have s3 : Gets (wq62_0 a b c 3) (· = .int .i64 0) := by
    refine wq62_0_step _ _ _ _ ?_
    simp
  have s2 : Gets (wq62_0 a b c 2) (· = .int .i64 c) := by
    refine wq62_0_step _ _ _ _ ?_
    rw [w3]
    by_cases h : c = 0
    · subst h; simp; exact s3
    · simp [bneD, h]
  have s1 : Gets (wq62_0 a b c 1) (· = .int .i64 (if b ≠ 0 then b else c)) := by
    refine wq62_0_step _ _ _ _ ?_
    rw [w2]
    by_cases h : b = 0
    · subst h; simp; exact s2
    · simp [bneD, h]
  refine wq62_0_step _ _ _ _ ?_
  rw [w1]
  by_cases h : a = 0
  · subst h; simp only [ne_eq, ite_not] at s1; simp; exact s1
  · simp [bneD, h]
theorem or2_ev (a b : Int) : EVs (EV cfg) 93 [.sl [[.int .i64 a], [.int .i64 b]]] = some (.int .i64 (if a ≠ 0 then a else b)) := by
  apply Gets.get
  refine or2_run _ _ ?_
  have w1 : IntKind.wrap .i64 (0 + 1) = 1 := wrap64 (by omega) (by omega)
  have w2 : IntKind.wrap .i64 (1 + 1) = 2 := wrap64 (by omega) (by omega)
  have s2 : Gets (wq62_0a a b 2) (· = .int .i64 0) := by
    refine wq62_0a_step _ _ _ ?_
    simp
  have s1 : Gets (wq62_0a a b 1) (· = .int .i64 b) := by
    refine wq62_0a_step _ _ _ ?_
    rw [w2]
    by_cases h : b = 0
    · subst h; simp; exact s2
    · simp [bneD, h]
  refine wq62_0a_step _ _ _ ?_
  rw [w1]
  by_cases h : a = 0
  · subst h; simp; exact s1
  · simp [bneD, h]
theorem drop_get {β : Type} {l : List β} {i : Nat} {x : β} (h : l[i]? = some x) : l.drop i = x :: l.drop (i + 1) := by
  obtain ⟨h1, h2⟩ := List.getElem?_eq_some_iff.1 h
  rw [← h2]; exact List.drop_eq_getElem_cons h1

theorem dropNil {β : Type} {l : List β} {i : Nat} (h : l.length ≤ i) : l.drop i = [] := List.drop_eq_nil_of_le h

theorem listsE_of (la lb : List Tm) (hlen : la.length < 1099511627776) (ih : ∀ a ∈ la, ∀ b ∈ lb, EVs (EV cfg) 83 [a.av, b.av] = some (.int .i64 (cmpT a b))) :
    EVs (EV cfg) 99 [.sl (rowsT la), .sl (rowsT lb), .fn (.func 83) [] []] = some (.int .i64 (cmpE la lb)) := by
  have loop : ∀ (d i : Nat), i + d = la.length → Gets (wq97_0 (rowsT la) (rowsT lb) i) (· = .int .i64 (cmpE (la.drop i) (lb.drop i))) := by
    intro d
    induction d with
    | zero =>
      intro i hi
      refine wq97_0_step _ _ _ ?_
      rw [dropNil (l := la) (by omega)]
      by_cases h : i < lb.length
      · obtain ⟨y, hy⟩ : ∃ y, lb[i]? = some y := ⟨_, List.getElem?_eq_getElem h⟩
        rw [drop_get hy, cmpE_nil_cons]
        simp [show ¬ i < la.length by omega, show la.length < lb.length by omega]
      · rw [dropNil (l := lb) (by omega), cmpE_nil]
        simp [show ¬ i < la.length by omega, show ¬ la.length < lb.length by omega]
    | succ d ihd =>
      intro i hi
      refine wq97_0_step _ _ _ ?_
      obtain ⟨x, hx⟩ : ∃ x, la[i]? = some x := ⟨_, List.getElem?_eq_getElem (by omega)⟩
      rw [drop_get hx]
      by_cases h : i < lb.length
      · obtain ⟨y, hy⟩ : ∃ y, lb[i]? = some y := ⟨_, List.getElem?_eq_getElem h⟩
        have hix := ih x (List.mem_of_getElem? hx) y (List.mem_of_getElem? hy)
        have hih := ihd (i + 1) (by omega)
        rw [drop_get hy, cmpE_cons]
        obtain ⟨k, n, s, l⟩ := x
        obtain ⟨k', n', s', l'⟩ := y
        simp only [get?Internal_eq, Int.toNat_natCast, rowsT_some hx, rowsT_some hy]
        simp [show i < la.length by omega, h, show ¬ lb.length ≤ i by omega, hix, bneD]
        by_cases hc : cmpT (.mk k n s l) (.mk k' n' s' l') = 0
        · simp [hc]; rw [wrap_succ (n := la.length) (by omega) hlen]; exact hih
        · simp [hc]
      · rw [dropNil (l := lb) (by omega), cmpE_cons_nil]
        obtain ⟨k, n, s, l⟩ := x
        simp only [get?Internal_eq, Int.toNat_natCast, rowsT_some hx]
        simp [show i < la.length by omega, show lb.length ≤ i by omega]
  apply Gets.get
  refine cmpFunc_run _ _ ?_
  exact loop la.length 0 (by omega)

theorem lists_of (la lb : List Tm) (hlen : la.length < 1099511627776) (ih : ∀ a ∈ la, ∀ b ∈ lb, EVs (EV cfg) 83 [a.av, b.av] = some (.int .i64 (cmpT a b))) :
    EVs (EV cfg) 94 [.sl (rowsT la), .sl (rowsT lb)] = some (.int .i64 (cmpE la lb)) := by
  apply Gets.get
  refine order_lists_run _ _ ?_
  rw [listsE_of la lb hlen ih]
  simp

theorem compare_loop (a : Tm) : a.Ok → ∀ (kb nb : Int) (sb : List UInt8) (lb : List Tm), (Tm.mk kb nb sb lb).Ok → Gets (wq15_0 a.kind a.num a.str (rowsT a.subs) kb nb sb (rowsT lb)) (· = .int .i64 (cmpT a (.mk kb nb sb lb))) := by
  induction a using Tm.ind with
  | _ k n s l ih =>
    intro hok kb nb sb lb hokb
    have ihe : ∀ a ∈ l, ∀ b ∈ lb, EVs (EV cfg) 83 [a.av, b.av] = some (.int .i64 (cmpT a b)) := by
      intro a ha b hb
      have := ih a ha (hok.sub ha)
      have hob := hokb.sub hb
      obtain ⟨k1, n1, s1, l1⟩ := a
      obtain ⟨k2, n2, s2, l2⟩ := b
      rw [Tm.av_mk, Tm.av_mk]
      apply Gets.get
      exact oCompare_run _ _ _ _ _ _ _ _ (this k2 n2 s2 l2 hob)
    have hlists := lists_of l lb hok.len ihe
    rw [cmpT_eq]
    refine wq15_0_step _ _ _ _ _ _ _ _ ?_
    simp only [Tm.kind, Tm.num, Tm.str, Tm.subs, cmp_ev, strCmp_ev, hlists, or2_ev, or3_ev, rowsT_length, kOptSome, kInt_int, bneD, beqD]
    by_cases h0 : ¬ numC k kb = 0
    · simp [h0]
    have h0 : numC k kb = 0 := Classical.not_not.1 h0
    simp [h0]
    by_cases h1 : k = 1
    · simp [h1]
    by_cases h3 : k = 3
    · simp [h3]
    by_cases h4 : k = 4
    · simp [h4]
    by_cases h6 : k = 6
    · simp [h6]
    by_cases h2 : k = 2
    · simp [h2]
    by_cases h5 : k = 5
    · simp [h5, cmpL]
    by_cases h9 : k = 9
    · subst h9
      by_cases hl : l.length = 2
      · by_cases hl' : lb.length = 2
        · obtain ⟨x, y, rfl⟩ : ∃ x y, l = [x, y] := by
            match l, hl with
            | [x, y], _ => exact ⟨x, y, rfl⟩
          obtain ⟨x', y', rfl⟩ : ∃ x y, lb = [x, y] := by
            match lb, hl' with
            | [x, y], _ => exact ⟨x, y, rfl⟩
          have hx := ihe x (by simp) x' (by simp)
          have hy := ih y (by simp) (hok.sub (by simp))
          have hoy := hokb.sub (t := y') (by simp)
          have hcl : cmpL [x, y] [x', y'] = if cmpT x x' ≠ 0 then cmpT x x' else cmpT y y' := by
            unfold cmpL
            rw [cmpE_cons, cmpE_cons, cmpE_nil]
            by_cases e1 : cmpT x x' = 0 <;> by_cases e2 : cmpT y y' = 0 <;> simp [numC_self, e1, e2]
          obtain ⟨k1, n1, s1, l1⟩ := x
          obtain ⟨k2, n2, s2, l2⟩ := y
          obtain ⟨k1', n1', s1', l1'⟩ := x'
          obtain ⟨k2', n2', s2', l2'⟩ := y'
          have hyy := hy k2' n2' s2' l2' hoy
          simp only [rowsT_cons, rowsT_nil, Tm.cells_mk]
          simp [hcl, hx]
          by_cases hc : cmpT (.mk k1 n1 s1 l1) (.mk k1' n1' s1' l1') = 0
          · simp [hc]; exact hyy
          · simp [hc]
        · have : ¬ ((lb.length : Int) = 2) := by omega
          simp [hl, this, cmpL]
      · have : ¬ ((l.length : Int) = 2) := by omega
        simp [this, cmpL]
    by_cases h7 : k = 7
    · simp [h7, cmpL]
    simp [h1, h2, h3, h4, h5, h6, h7, h9]

theorem compare_ev {a b : Tm} (ha : a.Ok) (hb : b.Ok) : EVs (EV cfg) 83 [a.av, b.av] = some (.int .i64 (cmpT a b)) := by
  have := compare_loop a ha
  obtain ⟨k1, n1, s1, l1⟩ := a
  obtain ⟨k2, n2, s2, l2⟩ := b
  rw [Tm.av_mk, Tm.av_mk]
  apply Gets.get
  exact oCompare_run _ _ _ _ _ _ _ _ (this k2 n2 s2 l2 hb)

/-! ### by the document -/
end Go.Proofs.Ytogebohommickaa
end

section
/-
  What operations make of two values. Own work.
  What is proved: contracts of the abstract evaluation; no condition but on sizes and bounds.
-/
namespace Go.Proofs.Ytogebohommickaa
open Go.Av
theorem truth_ev (b : Bool) : EVf (EV cfg) 79 [.bool b] = some (truthT b).av := by
  have ha : ∀ s, EVf (EV cfg) 89 [.str s] = some (symT s).av := by
    intro s
    apply Gets.get
    refine guard_atom_run _ ?_
    rw [symT_av]; simp
  apply Gets.get
  refine guard_truth_run _ ?_
  rw [ha, ha]
  cases b <;> simp [truthT, tru, fal]
theorem mInt_ev (e : Env) (b : Bool) (t : Tm) : EVm (EV cfg) 81 [.ptr 0 0 0, t.av] 7 (mR e b) = some (.int .i64 t.num, mR e (b || decide (t.kind ≠ 1))) := by
  have hr := mRaise_ev e b
  apply Gets.get
  rw [Tm.av, Tm.cells_eq]
  refine mInt_run _ _ _ _ _ _ _ _ _ _ _ ?_
  rw [hr, bneD]
  by_cases h : t.kind = 1
  · simp [h]
  · simp [h]
theorem mBool_ev (e : Env) (b : Bool) (t : Tm) : EVm (EV cfg) 63 [.ptr 0 0 0, t.av] 7 (mR e b) = some (.bool (decide (t.str = tru)), mR e (b || (boolG t).isNone)) := by
  have hr := mRaise_ev e b
  apply Gets.get
  rw [Tm.av, Tm.cells_eq]
  refine mBool_run _ _ _ _ _ _ _ _ _ _ _ ?_
  rw [hr, bneD]
  unfold boolG
  simp only [beqS, show ([116, 114, 117, 101] : List UInt8) = tru from rfl, show ([102, 97, 108, 115, 101] : List UInt8) = fal from rfl]
  by_cases h : t.kind = 2
  · by_cases h1 : t.str = tru
    · simp [h, h1]
    · by_cases h2 : t.str = fal
      · simp [h, h1, h2]
        have : ¬ fal = tru := by decide
        simp [this]
      · simp [h, h1, h2]
  · simp [h]
theorem boolG_some {t : Tm} {x : Bool} (h : boolG t = some x) : decide (t.str = tru) = x := by
  unfold boolG at h
  split at h
  · rename_i h1; cases h; exact decide_eq_true h1.2
  · split at h
    · rename_i h1; cases h; rw [h1.2]; decide
    · cases h
theorem ret_true {e : Env} {t : Tm} : Gets (some (t.av, mR e true)) (Res e none) := ⟨_, rfl, rfl, t, rfl⟩
theorem ret_false {e : Env} {t : Tm} : Gets (some (t.av, mR e false)) (Res e (some t)) := ⟨_, rfl, rfl⟩
theorem av_unf (t : Tm) : (AV.agg [.int .i64 t.kind, .int .i64 t.num, .str t.str, .sl (rowsT t.subs)]) = t.av := by rw [Tm.av, Tm.cells_eq]
/-- the end of an operation that asks for two of true and false -/
theorem two_end {e : Env} {a b : Tm} (f : Bool → Bool → Bool) {o : Option (AV × List (List AV))} (h : o = some ((truthT (f (decide (a.str = tru)) (decide (b.str = tru)))).av, mR e (false || (boolG a).isNone || (boolG b).isNone))) :
    Gets o (Res e ((boolG a).bind fun x => (boolG b).map fun y => truthT (f x y))) := by
  subst h
  cases ha : boolG a with
  | none => exact ret_true
  | some x =>
    cases hb : boolG b with
    | none => exact ret_true
    | some y =>
      rw [boolG_some ha, boolG_some hb]
      exact ret_false
theorem mTwo_ev (e : Env) (op : List UInt8) {a b : Tm} (ha : a.Ok) (hb : b.Ok) (ia : a.kind = 1 → InB a.num) (ib : b.kind = 1 → InB b.num) (hp : op = [42] → ProductOk) :
    Gets (EVd (EV cfg) 67 [.ptr 0 0 0, .str op, a.av, b.av] 7 (mR e false)) (Res e (twoG op a b)) := by
  have hc := compare_ev ha hb
  rw [Tm.av, Tm.av, Tm.cells_eq a, Tm.cells_eq b]
  refine mTwo_run _ _ _ _ _ _ _ _ _ _ _ _ _ _ _ _ ?_
  simp only [av_unf, hc, kOptSome, kInt_int, truth_ev, kTmV_av, beqS, beqD, bneD]
  unfold twoG
  by_cases h1 : op = [61, 61]
  · rw [if_pos h1, decide_eq_true h1, cond_true]; exact ret_false
  rw [if_neg h1, decide_eq_false h1, cond_false]
  by_cases h2 : op = [61, 58, 61]
  · rw [if_pos h2, decide_eq_true h2, cond_true]; exact ret_false
  rw [if_neg h2, decide_eq_false h2, cond_false]
  by_cases h3 : op = [47, 61]
  · rw [if_pos h3, decide_eq_true h3, cond_true]; exact ret_false
  rw [if_neg h3, decide_eq_false h3, cond_false]
  by_cases h4 : op = [61, 47, 61]
  · rw [if_pos h4, decide_eq_true h4, cond_true]; exact ret_false
  rw [if_neg h4, decide_eq_false h4, cond_false]
  by_cases h5 : op = [60]
  · rw [if_pos h5, decide_eq_true h5, cond_true]; exact ret_false
  rw [if_neg h5, decide_eq_false h5, cond_false]
  by_cases h6 : op = [61, 60]
  · rw [if_pos h6, decide_eq_true h6, cond_true]; exact ret_false
  rw [if_neg h6, decide_eq_false h6, cond_false]
  by_cases h7 : op = [62]
  · rw [if_pos h7, decide_eq_true h7, cond_true]; exact ret_false
  rw [if_neg h7, decide_eq_false h7, cond_false]
  by_cases h8 : op = [62, 61]
  · rw [if_pos h8, decide_eq_true h8, cond_true]; exact ret_false
  rw [if_neg h8, decide_eq_false h8, cond_false]
  by_cases h9 : op = [97, 110, 100]
  · rw [if_pos (Or.inl h9), decide_eq_true h9, cond_true]
    refine two_end (fun x y => x && y) ?_
    simp only [mBool_ev, kOptSome, kMBool_bool]
    cases decide (a.str = tru) <;> cases decide (b.str = tru) <;> rfl
  rw [decide_eq_false h9, cond_false]
  by_cases h10 : op = [97, 110, 100, 97, 108, 115, 111]
  · rw [if_pos (Or.inr h10), decide_eq_true h10, cond_true]
    refine two_end (fun x y => x && y) ?_
    simp only [mBool_ev, kOptSome, kMBool_bool]
    cases decide (a.str = tru) <;> cases decide (b.str = tru) <;> rfl
  rw [if_neg (fun h => h.elim h9 h10), decide_eq_false h10, cond_false]
  by_cases h11 : op = [111, 114]
  · rw [if_pos (Or.inl h11), decide_eq_true h11, cond_true]
    refine two_end (fun x y => x || y) ?_
    simp only [mBool_ev, kOptSome, kMBool_bool]
    cases decide (a.str = tru) <;> cases decide (b.str = tru) <;> rfl
  rw [decide_eq_false h11, cond_false]
  by_cases h12 : op = [111, 114, 101, 108, 115, 101]
  · rw [if_pos (Or.inr h12), decide_eq_true h12, cond_true]
    refine two_end (fun x y => x || y) ?_
    simp only [mBool_ev, kOptSome, kMBool_bool]
    cases decide (a.str = tru) <;> cases decide (b.str = tru) <;> rfl
  rw [if_neg (fun h => h.elim h11 h12), decide_eq_false h12, cond_false]
  by_cases h13 : op = [120, 111, 114]
  · rw [if_pos h13, decide_eq_true h13, cond_true]
    refine two_end (fun x y => x != y) ?_
    simp only [mBool_ev, kOptSome, kMBool_bool]
    cases decide (a.str = tru) <;> cases decide (b.str = tru) <;> rfl
  rw [if_neg h13, decide_eq_false h13, cond_false]
  by_cases h14 : op = [101, 108, 101, 109, 101, 110, 116]
  · rw [if_pos h14, decide_eq_true h14, cond_true]
    simp only [mInt_ev, kOptSome, kMInt_int, mRaise_ev, kTmV_av, av_unf]
    by_cases g1 : 1 ≤ a.num
    · rw [decide_eq_true (show a.num ≥ 1 from g1), cond_true]
      by_cases g2 : b.kind = 7
      · rw [decide_eq_true g2, cond_true]
        by_cases g3 : a.num ≤ b.subs.length
        · have hl : (a.num - 1).toNat < b.subs.length := by omega
          obtain ⟨j, hj⟩ : ∃ j : Nat, a.num = (j : Int) + 1 := ⟨(a.num - 1).toNat, by omega⟩
          have hjl : j < b.subs.length := by omega
          have hbl := hb
          have hw : IntKind.wrap .i64 (a.num - 1) = (j : Int) := by
            have : b.subs.length < 1099511627776 := by
              obtain ⟨kb, nb, sb, lb⟩ := b
              exact hb.len
            rw [wrap64 (by omega) (by omega)]; omega
          have hx : b.subs[j]? = some b.subs[j] := List.getElem?_eq_getElem hjl
          have e1 : (a.num - 1).toNat = j := by omega
          rw [rowsT_length, decide_eq_true g3, cond_true, hw, leInt_zero, ltInt_nat, decide_eq_true hjl, rowsT_at hx, e1, hx]
          simp only [Bool.and_true, cond_true, length_cells, Nat.beq_refl, Nat.ble_eq, take_cells, kTmC_cells, av_unf]
          by_cases g0 : a.kind = 1
          · rw [if_pos ⟨g0, g1, g2, g3⟩]; simp only [g0]; exact ret_false
          · rw [if_neg (fun h => g0 h.1), decide_eq_true g0]; exact ret_true
        · rw [rowsT_length, decide_eq_false g3, cond_false, if_neg (fun h => g3 h.2.2.2)]; exact ret_true
      · rw [decide_eq_false g2, cond_false, if_neg (fun h => g2 h.2.2.1)]; exact ret_true
    · rw [decide_eq_false g1, cond_false, if_neg (fun h => g1 h.2.1)]; exact ret_true
  rw [if_neg h14, decide_eq_false h14, cond_false]
  simp only [mInt_ev, kOptSome, kMInt_int]
  by_cases ga : a.kind = 1
  · by_cases gb : b.kind = 1
    · rw [if_pos ⟨ga, gb⟩]
      simp only [ga, gb]
      exact Gets.bind (mNumbers_ev e op (ia ga) (ib gb) hp) fun r h => ret_res h (Res_tm h)
    · rw [if_neg (fun h => gb h.2), decide_eq_true gb, Bool.or_true, mNumbers_bad]
      simp only [kOptSome, kTmV_av, av_unf]; exact ret_true
  · rw [if_neg (fun h => ga h.1), decide_eq_true ga, Bool.or_true, Bool.true_or, mNumbers_bad]
    simp only [kOptSome, kTmV_av, av_unf]; exact ret_true
end Go.Proofs.Ytogebohommickaa
end

section
/-
  What is left of the functions' evaluation at arguments with variables, printed by a program of ours (resid2.py) and checked by the kernel.
  What is proved: each equation as it stands; no condition.
-/
namespace Go.Proofs.Ytogebohommickaa
open Go.Av
set_option maxRecDepth 100000
set_option maxHeartbeats 0

noncomputable def Lh64_0 : Den := evC cfg (EV cfg) 64 none 1 (sub (bodyOf Try.f64) [1, 1, 1, 0, 1, 0, 0])
noncomputable def Ah64_0 : Ex × List AV × AH → Option (AV × List (List AV)) := kAft (Cfg.keepOut cfg 64 6) (kRun cfg (EV cfg) (kfN cfg 6) 64 none 1 (kFinX cfg 1 (Cfg.lift cfg 64 0) Try.f64.results.toList) ([.block 0, .seq (sub (bodyOf Try.f64) [1, 1, 1, 1])]))
noncomputable def Wh64_0 : List AV × AH → Option (AV × List (List AV)) := fun p => kOpt (LOOP 1 (some [1, 2, 3, 4, 18, 19, 20]) ([]) Lh64_0 p) Ah64_0
noncomputable def Lh47_0 : Den := evC cfg (EV cfg) 47 none 0 (sub (bodyOf Try.f47) [1, 1, 1, 0, 1, 0, 0])
noncomputable def Ah47_0 : Ex × List AV × AH → Option AV := kAft (Cfg.keepOut cfg 47 5) (kRun cfg (EV cfg) (kfN cfg 6) 47 none 0 (kFinS cfg (Cfg.lift cfg 47 0) Try.f47.results.toList) ([.block 0, .seq (sub (bodyOf Try.f47) [1, 1, 1, 1])]))
noncomputable def Wh47_0 : List AV × AH → Option AV := fun p => kOpt (LOOP 0 (some [1, 2, 5, 6]) ([]) Lh47_0 p) Ah47_0
noncomputable abbrev wh64_0 (lt : List (List AV)) (v20 : Int) (c1_0 : Int) (c1_1 : Int) (c1_2 : List UInt8) (c1_3 : List (List AV)) (c2_0 : Int) (c2_1 : Int) (c2_2 : List UInt8) (c2_3 : List (List AV)) (h3 : List (List AV)) : Option (AV × List (List AV)) := Wh64_0  (((fx 35 [(1, AV.ptr (0 : Nat) (0 : Nat) (0 : Nat)), (2, AV.ptr (1 : Nat) (0 : Nat) (0 : Nat)), (3, AV.ptr (2 : Nat) (0 : Nat) (0 : Nat)), (4, AV.ms (3 : Nat) (0 : Nat) (Int.toNat (↑(List.length lt) : Int))), (18, AV.sl lt), (19, AV.int IntKind.i64 (↑(List.length lt) : Int)), (20, AV.int IntKind.i64 v20)]) : List AV), ([ABlk.rows false (1 : Nat) [[AV.fn (Fn.func (64 : Nat)) [] [AV.ptr (0 : Nat) (0 : Nat) (0 : Nat)]]], ABlk.rows false (4 : Nat) [[AV.int IntKind.i64 c1_0, AV.int IntKind.i64 c1_1, AV.str c1_2, AV.sl c1_3]], ABlk.rows false (4 : Nat) [[AV.int IntKind.i64 c2_0, AV.int IntKind.i64 c2_1, AV.str c2_2, AV.sl c2_3]], ABlk.rows true (4 : Nat) h3] : AH))
noncomputable abbrev wh47_0 (most : Int) (v5 : Int) (v6 : Int) (c0_0 : Int) (c0_1 : Int) (c0_2 : List UInt8) (c0_3 : List (List AV)) : Option (AV) := Wh47_0  (((fx 43 [(1, AV.int IntKind.i64 most), (2, AV.ptr (0 : Nat) (0 : Nat) (0 : Nat)), (5, AV.int IntKind.i64 v5), (6, AV.int IntKind.i64 v6)]) : List AV), ([ABlk.rows false (4 : Nat) [[AV.int IntKind.i64 c0_0, AV.int IntKind.i64 c0_1, AV.str c0_2, AV.sl c0_3]]] : AH))
theorem term_Copy_run (kt : Int) (nt : Int) (st : List UInt8) (lt : List (List AV)) {P : AV → Prop} (h : Gets (kOpt (EVk (EV cfg) 64 [.agg [.int .i64 kt, .int .i64 nt, .str st, .sl lt], .ptr 0 0 0] 1 [[AV.fn (Fn.func 64) [] [.ptr 0 0 0]]]) fun (q : AV) => kTmV q fun (n n_1 : Int) (s : List UInt8) 
  (rows : List (List AV)) => (some (.agg [.int .i64 n, .int .i64 n_1, .str s, .sl rows]))) P) : Gets (EVf (EV cfg) 43 ([AV.agg [AV.int IntKind.i64 kt, AV.int IntKind.i64 nt, AV.str st, AV.sl lt]] : List AV)) P :=
  Gets.ev (fun _ h => funF rfl rfl Try.func43 rfl h) (Gets.eq (by kernel_rfl) h)
theorem copyIn_run (kt : Int) (nt : Int) (st : List UInt8) (lt : List (List AV)) {P : AV × List (List AV) → Prop} (h : Gets (bif (↑(List.length lt) : Int) == (0 : Int) then bif AV.refsLt 0 (.agg [.int .i64 kt, .int .i64 nt, .str st, .sl []]) then some (.agg [.int .i64 kt, .int .i64 nt, .str st, .sl []], [[AV.fn 
  (Fn.func 64) [] [.ptr 0 0 0]]]) else none else bif leInt (0 : Int) (↑(List.length lt) : Int) && leInt (↑(List.length lt) : Int) (↑(List.length lt) : Int) && leInt ((↑(List.length lt) 
  : Int) * (56 : Int)) (140737488355328 : Int) && leInt (↑(List.length lt) : Int) (9223372036854775807 : Int) then wh64_0 lt (0 : Int) kt nt st lt (0 : Int) (0 : Int) [] [] (List.replicate 
  (Int.toNat (↑(List.length lt) : Int)) [.int .i64 (0 : Int), .int .i64 (0 : Int), .str [], .nilS]) else none) P) : Gets (EVx (EV cfg) 64 ([AV.agg [AV.int IntKind.i64 kt, AV.int IntKind.i64 nt, AV.str st, AV.sl lt], AV.ptr (0 : Nat) (0 : Nat) (0 : Nat)] : List AV) 1 [[(AV.fn (Fn.func 64) [] [AV.ptr 0 0 0])]]) P :=
  Gets.ev (fun _ h => funX rfl rfl Try.func64 rfl h) (Gets.eq (by kernel_rfl) h)
theorem kitI_run (n : Int) {P : AV → Prop} (h : Gets (some (.agg [.int .i64 (1 : Int), .int .i64 n, .str [], .sl []])) P) : Gets (EVf (EV cfg) 27 ([AV.int IntKind.i64 n] : List AV)) P :=
  Gets.ev (fun _ h => funF rfl rfl Try.func27 rfl h) (Gets.eq (by kernel_rfl) h)
theorem kitA_run (s : List UInt8) {P : AV → Prop} (h : Gets (some (.agg [.int .i64 (2 : Int), .int .i64 (0 : Int), .str s, .sl []])) P) : Gets (EVf (EV cfg) 21 ([AV.str s] : List AV)) P :=
  Gets.ev (fun _ h => funF rfl rfl Try.func21 rfl h) (Gets.eq (by kernel_rfl) h)
theorem kitT_run (A : List (List AV)) {P : AV → Prop} (h : Gets (some (.agg [.int .i64 (7 : Int), .int .i64 (0 : Int), .str [], .sl A])) P) : Gets (EVf (EV cfg) 28 ([AV.sl A] : List AV)) P :=
  Gets.ev (fun _ h => funF rfl rfl Try.func28 rfl h) (Gets.eq (by kernel_rfl) h)
theorem kitBig_run (kt : Int) (nt : Int) (st : List UInt8) (lt : List (List AV)) (most : Int) {P : AV → Prop} (h : Gets (kOpt (EVs (EV cfg) 47 [.agg [.int .i64 kt, .int .i64 nt, .str st, .sl lt], .int .i64 (IntKind.wrap .i64 (most + (1 : Int)))]) fun (v : AV) => kInt .i64 v fun (n : Int) => some (.bool 
  (decide (n > most)))) P) : Gets (EVs (EV cfg) 34 ([AV.agg [AV.int IntKind.i64 kt, AV.int IntKind.i64 nt, AV.str st, AV.sl lt], AV.int IntKind.i64 most] : List AV)) P :=
  Gets.ev (fun _ h => funS rfl rfl Try.func34 rfl h) (Gets.eq (by kernel_rfl) h)
theorem kitSize_run (kt : Int) (nt : Int) (st : List UInt8) (lt : List (List AV)) (most : Int) {P : AV → Prop} (h : Gets (bif decide ((↑(List.length st) : Int) > (100 : Int)) then some (.int .i64 most) else bif decide ((↑(List.length lt) : Int) > most) then some (.int .i64 most) else wh47_0 most (1 : Int) 
  (0 : Int) kt nt st lt) P) : Gets (EVs (EV cfg) 47 ([AV.agg [AV.int IntKind.i64 kt, AV.int IntKind.i64 nt, AV.str st, AV.sl lt], AV.int IntKind.i64 most] : List AV)) P :=
  Gets.ev (fun _ h => funS rfl rfl Try.func47 rfl h) (Gets.eq (by kernel_rfl) h)
theorem wh64_0_step (lt : List (List AV)) (v20 : Int) (c1_0 : Int) (c1_1 : Int) (c1_2 : List UInt8) (c1_3 : List (List AV)) (c2_0 : Int) (c2_1 : Int) (c2_2 : List UInt8) (c2_3 : List (List AV)) (h3 : List (List AV)) {P : AV × List (List AV) → Prop} (h : Gets (bif decide (v20 < (↑(List.length lt) : Int)) then bif leInt (0 : Int) v20 && ltInt v20 (↑(List.length lt) : Int) then kOpt (List.get?Internal lt (Int.toNat v20)) fun (row : List AV) 
  => bif Nat.beq (List.length row) 4 then bif Nat.ble 4 (List.length row) then kTmC (List.take 4 row) fun (n n_1 : Int) (s : List UInt8) (rows : List (List AV)) => (kOpt (EVk (EV cfg) 
  64 [.agg [.int .i64 n, .int .i64 n_1, .str s, .sl rows], .ptr 0 0 0] 1 [[AV.fn (Fn.func 64) [] [.ptr 0 0 0]]]) fun (q : AV) => kTmV q fun (n n_2 : Int) (s : List UInt8) (rows : List 
  (List AV)) => (bif leInt (0 : Int) v20 && ltInt v20 (↑(Int.toNat (↑(List.length lt) : Int)) : Int) then kOpt (List.get?Internal h3 (0 + Int.toNat v20)) fun (row : List AV) => bif Nat.ble 
  4 (List.length row) then wh64_0 lt (IntKind.wrap .i64 (v20 + (1 : Int))) c1_0 c1_1 c1_2 c1_3 c2_0 c2_1 c2_2 c2_3 (List.set h3 (0 + Int.toNat v20) (.int .i64 n :: .int .i64 n_2 :: .str 
  s :: .sl rows :: List.drop 4 row)) else none else none)) else none else none else none else bif Nat.ble (0 + Int.toNat (↑(List.length lt) : Int)) (List.length h3) && true then some 
  (.agg [.int .i64 c1_0, .int .i64 c1_1, .str c1_2, .sl (List.take (Int.toNat (↑(List.length lt) : Int)) h3)], [[AV.fn (Fn.func 64) [] [.ptr 0 0 0]]]) else none) P) : Gets (wh64_0 lt v20 c1_0 c1_1 c1_2 c1_3 c2_0 c2_1 c2_2 c2_3 h3) P :=
  Gets.ev (fun _ h => loop_step (cfg := cfg) (f := 64) (rd := none) (bs := 1) h) (Gets.eq (by kernel_rfl) h)
theorem wh47_0_step (most : Int) (v5 : Int) (v6 : Int) (c0_0 : Int) (c0_1 : Int) (c0_2 : List UInt8) (c0_3 : List (List AV)) {P : AV → Prop} (h : Gets (bif decide (v6 < (↑(List.length c0_3) : Int)) then bif decide (v5 < most) then bif leInt (0 : Int) v6 && ltInt v6 (↑(List.length c0_3) : Int) then kOpt (List.get?Internal c0_3 (Int.toNat 
  v6)) fun (row : List AV) => bif Nat.beq (List.length row) 4 then bif Nat.ble 4 (List.length row) then kTmC (List.take 4 row) fun (n n_1 : Int) (s : List UInt8) (rows : List (List AV)) 
  => (kOpt (EVs (EV cfg) 47 [.agg [.int .i64 n, .int .i64 n_1, .str s, .sl rows], .int .i64 (IntKind.wrap .i64 (most - v5))]) fun (v : AV) => kInt .i64 v fun (n : Int) => wh47_0 most 
  (IntKind.wrap .i64 (v5 + n)) (IntKind.wrap .i64 (v6 + (1 : Int))) c0_0 c0_1 c0_2 c0_3) else none else none else none else some (.int .i64 v5) else some (.int .i64 v5)) P) : Gets (wh47_0 most v5 v6 c0_0 c0_1 c0_2 c0_3) P :=
  Gets.ev (fun _ h => loop_step (cfg := cfg) (f := 47) (rd := none) (bs := 0) h) (Gets.eq (by kernel_rfl) h)
end Go.Proofs.Ytogebohommickaa
end

section
/-
  term.Copy tells the same term. Own work.
  What is proved: contracts of the abstract evaluation; no condition but on a term's size.
-/
namespace Go.Proofs.Ytogebohommickaa
open Go.Av
/-- the cell in which the inner function stands -/
def copyCell : List (List AV) := [[AV.fn (Fn.func 64) [] [AV.ptr 0 0 0]]]
theorem copyIn_ev (t : Tm) : t.Ok → EVx (EV cfg) 64 [t.av, .ptr 0 0 0] 1 copyCell = some (t.av, copyCell) := by
  induction t using Tm.ind with
  | _ k n s l ih =>
    intro hok
    have hlen := hok.len
    have loop : ∀ (d i : Nat), i + d = l.length → Gets (wh64_0 (rowsT l) i k n s (rowsT l) 0 0 [] [] (rowsT (l.take i) ++ List.replicate d [.int .i64 0, .int .i64 0, .str [], .nilS])) (· = ((Tm.mk k n s l).av, copyCell)) := by
      intro d
      induction d with
      | zero =>
        intro i hi
        refine wh64_0_step _ _ _ _ _ _ _ _ _ _ _ ?_
        obtain rfl : i = l.length := by omega
        have e : l.take l.length = l := List.take_of_length_le (Nat.le_refl _)
        rw [e]
        simp
        rfl
      | succ d ihd =>
        intro i hi
        refine wh64_0_step _ _ _ _ _ _ _ _ _ _ _ ?_
        have hil : i < l.length := by omega
        have hx : l[i]? = some l[i] := List.getElem?_eq_getElem hil
        have hxl := List.mem_of_getElem? hx
        have hix := EVk_of (ih l[i] hxl (hok.sub hxl))
        have hih := ihd (i + 1) (by omega)
        have hw := wrap_s hil hlen
        have e1 : l.take (i + 1) = l.take i ++ [l[i]] := by rw [List.take_add_one, hx]; rfl
        have ht : (rowsT (l.take i)).length = i := by rw [rowsT_length, List.length_take]; omega
        have g : (rowsT (l.take i) ++ List.replicate (d + 1) [AV.int .i64 0, .int .i64 0, .str [], .nilS])[i]? = some [AV.int .i64 0, .int .i64 0, .str [], .nilS] := by
          rw [List.getElem?_append_right (by omega), ht, Nat.sub_self]; rfl
        have g2 : (rowsT (l.take i) ++ List.replicate (d + 1) [AV.int .i64 0, .int .i64 0, .str [], .nilS]).set i l[i].cells = rowsT (l.take (i + 1)) ++ List.replicate d [AV.int .i64 0, .int .i64 0, .str [], .nilS] := by
          rw [List.set_append_right _ _ (by omega), e1, rowsT_append, rowsT_cons, rowsT_nil]
          have e3 : i - (rowsT (l.take i)).length = 0 := by omega
          rw [e3, List.replicate_succ, List.set_cons_zero, List.append_assoc]; rfl
        simp only [copyCell] at hix
        simp [hil, hx, hix, g, hw]
        rw [g2]
        simpa using hih
    apply Gets.get
    rw [Tm.av_mk]
    refine copyIn_run _ _ _ _ ?_
    rw [rowsT_length]
    by_cases hl : l.length = 0
    · have : l = [] := List.length_eq_zero_iff.1 hl
      subst this
      simp [copyCell, AV.refsLt, refsLtL]
    · have hl' : ((l.length : Int) == 0) = false := by rw [beqD]; exact decide_eq_false (by omega)
      have h56 : leInt ((l.length : Int) * 56) 140737488355328 = true := by simp [leInt]; omega
      have hm : leInt (l.length : Int) 9223372036854775807 = true := by simp [leInt]; omega
      have hz : leInt 0 (l.length : Int) = true := leInt_zero _
      have hs : leInt (l.length : Int) (l.length : Int) = true := by simp [leInt]
      rw [hl', h56, hm, hz, hs]
      have := loop l.length 0 (by omega)
      rw [Tm.av_mk] at this
      simpa using this
theorem copy_ev {t : Tm} (h : t.Ok) : EVf (EV cfg) 43 [t.av] = some t.av := by
  have h1 := EVk_of (copyIn_ev t h)
  obtain ⟨k, n, s, l⟩ := t
  rw [Tm.av_mk] at h1 ⊢
  apply Gets.get
  refine term_Copy_run _ _ _ _ ?_
  simp only [copyCell] at h1
  rw [h1]
  simp [← Tm.av_mk]
end Go.Proofs.Ytogebohommickaa
end

section
/-
  What is left of the functions' evaluation at arguments with variables, printed by a program of ours (resid2.py) and checked by the kernel.
  What is proved: each equation as it stands; no condition.
-/
namespace Go.Proofs.Ytogebohommickaa
open Go.Av
set_option maxRecDepth 100000
set_option maxHeartbeats 0

noncomputable def Lq33_0 : Den := evC cfg (EV cfg) 68 none 5 (sub (bodyOf Try.f68) [1, 0, 0])
noncomputable def Aq33_0 : Ex × List AV × AH → Option AV := kAft (Cfg.keepOut cfg 68 (firstRid (sub (bodyOf Try.f68) [1, 0, 0]))) (kBlock 0 (kFinG cfg (Cfg.lift cfg 68 0) (fun (v : AV) (H : AH) => (fun (r : AV × AH) => kRangeEnd 0 4 (fx 17 [(2, AV.ptr 1 0 0), (3, AV.ptr 2 0 0)]) (kBlock 0 (kSeq (fun (fr : List AV) (H : AH) => kCutTo (Cfg.cut cfg 36 (firstRid (sub (bodyOf Try.f36) [1, 1, 1]))) fr H fun (fr : List AV) (H : AH) => kCode cfg (EV cfg) (kfN cfg 6) 36 none 0 (sub (bodyOf Try.f36) [1, 1, 1]) fr H (kFinS cfg (Cfg.lift cfg 36 0) (Array.toList (Func.results Try.f36)))) (kFinS cfg (Cfg.lift cfg 36 0) (Array.toList (Func.results Try.f36))))) (Prod.snd r)) (v, H)) (Array.toList (Func.results (Prod.snd (68, Try.f68))))))
noncomputable def Wq33_0 : List AV × AH → Option AV := fun (p : List AV × AH) => kOpt (LOOP 5 (some [0, 3]) [(3, 4)] Lq33_0 p) Aq33_0
noncomputable def Lq33_1 : Den := evC cfg (EV cfg) 85 none 10 (sub (bodyOf Try.f85) [1, 0, 0])
noncomputable def Aq33_1 : Ex × List AV × AH → Option AV := kAft (Cfg.keepOut cfg 85 (firstRid (sub (bodyOf Try.f85) [1, 0, 0]))) (kBlock 0 (kFinG cfg (Cfg.lift cfg 85 0) (fun (v : AV) (H : AH) => (fun (r : AV × AH) => kRangeEnd 5 9 (fx 38 [(0, AV.yld 4), (3, AV.ptr 5 0 0)]) (kBlock 2 (kBlock 1 (kLp 5 (some [0, 3]) [(3, 4)] Lq33_0 Aq33_0))) (Prod.snd r)) (v, H)) (Array.toList (Func.results (Prod.snd (85, Try.f85))))))
noncomputable def Wq33_1 : List AV × AH → Option AV := fun (p : List AV × AH) => kOpt (LOOP 10 (some [0, 1, 3]) [] Lq33_1 p) Aq33_1
noncomputable abbrev wq33_0 (c0_0 : Int) (c0_1 : Int) (c0_2 : List UInt8) (c0_3 : List (List AV)) (c1_0 : Int) (c2_0 : Int) (c3_0 : Int) (c3_1 : Int) (c3_2 : List UInt8) (c3_3 : List (List AV)) (nc5_0 : Nat) (h6 : List (List AV)) : Option (AV) := Wq33_0  (((fx 38 [(0, AV.yld (4 : Nat)), (3, AV.ptr (5 : Nat) (0 : Nat) (0 : Nat))]) : List AV), ([ABlk.rows false (4 : Nat) [[AV.int IntKind.i64 c0_0, AV.int IntKind.i64 c0_1, AV.str c0_2, AV.sl c0_3]], ABlk.rows false (1 : Nat) [[AV.int IntKind.i64 c1_0]], ABlk.rows false (1 : Nat) [[AV.int IntKind.i64 c2_0]], ABlk.rows false (4 : Nat) [[AV.int IntKind.i64 c3_0, AV.int IntKind.i64 c3_1, AV.str c3_2, AV.sl c3_3]], rngB Try.f36 (36 : Nat) [(1 : Nat), (1 : Nat), (0 : Nat), (1 : Nat), (0 : Nat)] (fx 17 [(2, AV.ptr (1 : Nat) (0 : Nat) (0 : Nat)), (3, AV.ptr (2 : Nat) (0 : Nat) (0 : Nat))]) none LoopState.ready, ABlk.rows false (1 : Nat) [[AV.ms (6 : Nat) (0 : Nat) nc5_0]], ABlk.rows true (4 : Nat) h6] : AH))
noncomputable abbrev wq33_1 (v3 : Int) (c0_0 : Int) (c0_1 : Int) (c0_2 : List UInt8) (c0_3 : List (List AV)) (c1_0 : Int) (c2_0 : Int) (c3_0 : Int) (c3_1 : Int) (c3_2 : List UInt8) (c3_3 : List (List AV)) (nc5_0 : Nat) (h6 : List (List AV)) (c7_0 : Int) (c7_1 : Int) (c7_2 : List UInt8) (c7_3 : List (List AV)) (c8_0 : List (List AV)) : Option (AV) := Wq33_1  (((fx 19 [(0, AV.yld (9 : Nat)), (1, AV.ptr (8 : Nat) (0 : Nat) (0 : Nat)), (3, AV.int IntKind.i64 v3)]) : List AV), ([ABlk.rows false (4 : Nat) [[AV.int IntKind.i64 c0_0, AV.int IntKind.i64 c0_1, AV.str c0_2, AV.sl c0_3]], ABlk.rows false (1 : Nat) [[AV.int IntKind.i64 c1_0]], ABlk.rows false (1 : Nat) [[AV.int IntKind.i64 c2_0]], ABlk.rows false (4 : Nat) [[AV.int IntKind.i64 c3_0, AV.int IntKind.i64 c3_1, AV.str c3_2, AV.sl c3_3]], rngB Try.f36 (36 : Nat) [(1 : Nat), (1 : Nat), (0 : Nat), (1 : Nat), (0 : Nat)] (fx 17 [(2, AV.ptr (1 : Nat) (0 : Nat) (0 : Nat)), (3, AV.ptr (2 : Nat) (0 : Nat) (0 : Nat))]) none LoopState.ready, ABlk.rows false (1 : Nat) [[AV.ms (6 : Nat) (0 : Nat) nc5_0]], ABlk.rows true (4 : Nat) h6, ABlk.rows false (4 : Nat) [[AV.int IntKind.i64 c7_0, AV.int IntKind.i64 c7_1, AV.str c7_2, AV.sl c7_3]], ABlk.rows false (1 : Nat) [[AV.sl c8_0]], rngB Try.f68 (68 : Nat) [(1 : Nat), (0 : Nat), (0 : Nat), (1 : Nat), (0 : Nat), (1 : Nat), (1 : Nat), (1 : Nat), (1 : Nat), (0 : Nat)] (fx 38 [(3, AV.ptr (5 : Nat) (0 : Nat) (0 : Nat))]) none LoopState.ready] : AH))
noncomputable abbrev wq33_1a (v3 : Int) (c0_0 : Int) (c0_1 : Int) (c0_2 : List UInt8) (c0_3 : List (List AV)) (c1_0 : Int) (c2_0 : Int) (c3_0 : Int) (c3_1 : Int) (c3_2 : List UInt8) (c3_3 : List (List AV)) (nc5_0 : Nat) (c7_0 : Int) (c7_1 : Int) (c7_2 : List UInt8) (c7_3 : List (List AV)) (c8_0 : List (List AV)) (h10 : List (List AV)) : Option (AV) := Wq33_1  (((fx 19 [(0, AV.yld (9 : Nat)), (1, AV.ptr (8 : Nat) (0 : Nat) (0 : Nat)), (3, AV.int IntKind.i64 v3)]) : List AV), ([ABlk.rows false (4 : Nat) [[AV.int IntKind.i64 c0_0, AV.int IntKind.i64 c0_1, AV.str c0_2, AV.sl c0_3]], ABlk.rows false (1 : Nat) [[AV.int IntKind.i64 c1_0]], ABlk.rows false (1 : Nat) [[AV.int IntKind.i64 c2_0]], ABlk.rows false (4 : Nat) [[AV.int IntKind.i64 c3_0, AV.int IntKind.i64 c3_1, AV.str c3_2, AV.sl c3_3]], rngB Try.f36 (36 : Nat) [(1 : Nat), (1 : Nat), (0 : Nat), (1 : Nat), (0 : Nat)] (fx 17 [(2, AV.ptr (1 : Nat) (0 : Nat) (0 : Nat)), (3, AV.ptr (2 : Nat) (0 : Nat) (0 : Nat))]) none LoopState.ready, ABlk.rows false (1 : Nat) [[AV.ms (10 : Nat) (0 : Nat) nc5_0]], ABlk.dead, ABlk.rows false (4 : Nat) [[AV.int IntKind.i64 c7_0, AV.int IntKind.i64 c7_1, AV.str c7_2, AV.sl c7_3]], ABlk.rows false (1 : Nat) [[AV.sl c8_0]], rngB Try.f68 (68 : Nat) [(1 : Nat), (0 : Nat), (0 : Nat), (1 : Nat), (0 : Nat), (1 : Nat), (1 : Nat), (1 : Nat), (1 : Nat), (0 : Nat)] (fx 38 [(3, AV.ptr (5 : Nat) (0 : Nat) (0 : Nat))]) none LoopState.ready, ABlk.rows true (4 : Nat) h10] : AH))
theorem term_sound_run (kt : Int) (nt : Int) (st : List UInt8) (lt : List (List AV)) {P : AV → Prop} (h : Gets (bif kt == (1 : Int) then bif decide (nt ≥ (-576460752303423488 : Int)) then bif decide (nt ≤ (576460752303423487 : Int)) then bif st == [] then some (.bool ((↑(List.length lt) : Int) 
  == (0 : Int))) else some (.bool false) else some (.bool false) else some (.bool false) else bif kt == (2 : Int) then bif nt == (0 : Int) then bif decide ((↑(List.length st) : Int) ≤ 
  (64 : Int)) then some (.bool ((↑(List.length lt) : Int) == (0 : Int))) else some (.bool false) else some (.bool false) else bif kt == (3 : Int) then bif decide (nt ≥ (0 : Int)) then 
  bif decide (nt ≤ (1073741824 : Int)) then bif st == [] then bif (↑(List.length lt) : Int) == (0 : Int) then some (.bool true) else bif kt == (5 : Int) then some (.bool (decide ((↑(List.length 
  lt) : Int) ≤ (64 : Int)))) else some (.bool false) else some (.bool false) else some (.bool false) else some (.bool false) else bif kt == (4 : Int) then bif decide (nt ≥ (0 : Int)) 
  then bif decide (nt ≤ (1073741824 : Int)) then bif st == [] then bif (↑(List.length lt) : Int) == (0 : Int) then some (.bool true) else bif kt == (5 : Int) then some (.bool (decide 
  ((↑(List.length lt) : Int) ≤ (64 : Int)))) else some (.bool false) else some (.bool false) else some (.bool false) else some (.bool false) else bif kt == (6 : Int) then bif decide (nt 
  ≥ (0 : Int)) then bif decide (nt ≤ (1073741824 : Int)) then bif st == [] then bif (↑(List.length lt) : Int) == (0 : Int) then some (.bool true) else bif kt == (5 : Int) then some (.bool 
  (decide ((↑(List.length lt) : Int) ≤ (64 : Int)))) else some (.bool false) else some (.bool false) else some (.bool false) else some (.bool false) else bif kt == (5 : Int) then bif 
  decide (nt ≥ (0 : Int)) then bif decide (nt ≤ (1073741824 : Int)) then bif st == [] then bif (↑(List.length lt) : Int) == (0 : Int) then some (.bool true) else bif kt == (5 : Int) then 
  some (.bool (decide ((↑(List.length lt) : Int) ≤ (64 : Int)))) else some (.bool false) else some (.bool false) else some (.bool false) else some (.bool false) else bif kt == (7 : Int) 
  then bif nt == (0 : Int) then bif st == [] then some (.bool (decide ((↑(List.length lt) : Int) ≤ (64 : Int)))) else some (.bool false) else some (.bool false) else bif kt == (8 : Int) 
  then bif nt == (0 : Int) then bif st == [] then some (.bool ((↑(List.length lt) : Int) == (0 : Int))) else some (.bool false) else some (.bool false) else bif kt == (9 : Int) then bif 
  nt == (0 : Int) then bif st == [] then some (.bool ((↑(List.length lt) : Int) == (2 : Int))) else some (.bool false) else some (.bool false) else some (.bool false)) P) : Gets (EVs (EV cfg) 49 ([AV.agg [AV.int IntKind.i64 kt, AV.int IntKind.i64 nt, AV.str st, AV.sl lt]] : List AV)) P :=
  Gets.ev (fun _ h => funS rfl rfl Try.func49 rfl h) (Gets.eq (by kernel_rfl) h)
theorem term_own_run (kt : Int) (nt : Int) (st : List UInt8) (lt : List (List AV)) {P : AV → Prop} (h : Gets (bif kt == (7 : Int) then some (.int .i64 (2 : Int)) else bif kt == (5 : Int) then some (.int .i64 (2 : Int)) else some (.int .i64 (1 : Int))) P) : Gets (EVs (EV cfg) 50 ([AV.agg [AV.int IntKind.i64 kt, AV.int IntKind.i64 nt, AV.str st, AV.sl lt]] : List AV)) P :=
  Gets.ev (fun _ h => funS rfl rfl Try.func50 rfl h) (Gets.eq (by kernel_rfl) h)
theorem term_Check_run (kt : Int) (nt : Int) (st : List UInt8) (lt : List (List AV)) {P : AV → Prop} (h : Gets (wq33_0 kt nt st lt (0 : Int) (0 : Int) kt nt st lt 1 [[.int .i64 kt, .int .i64 nt, .str st, .sl lt]]) P) : Gets (EVs (EV cfg) 36 ([AV.agg [AV.int IntKind.i64 kt, AV.int IntKind.i64 nt, AV.str st, AV.sl lt]] : List AV)) P :=
  Gets.ev (fun _ h => funS rfl rfl Try.func36 rfl h) (Gets.eq (by kernel_rfl) h)
theorem wq33_0_step (c0_0 : Int) (c0_1 : Int) (c0_2 : List UInt8) (c0_3 : List (List AV)) (c1_0 : Int) (c2_0 : Int) (c3_0 : Int) (c3_1 : Int) (c3_2 : List UInt8) (c3_3 : List (List AV)) (nc5_0 : Nat) (h6 : List (List AV)) {P : AV → Prop} (h : Gets (bif decide ((↑nc5_0 : Int) > (0 : Int)) then bif leInt (0 : Int) (IntKind.wrap .i64 ((↑nc5_0 : Int) - (1 : Int))) && ltInt (IntKind.wrap .i64 ((↑nc5_0 : Int) - (1 : Int))) (↑nc5_0 : 
  Int) then kOpt (List.get?Internal h6 (0 + Int.toNat (IntKind.wrap .i64 ((↑nc5_0 : Int) - (1 : Int))))) fun (row : List AV) => bif Nat.ble 4 (List.length row) then kTmC (List.take 4 
  row) fun (n n_1 : Int) (s : List UInt8) (rows : List (List AV)) => (bif leInt (0 : Int) (IntKind.wrap .i64 ((↑nc5_0 : Int) - (1 : Int))) && leInt (IntKind.wrap .i64 ((↑nc5_0 : Int) 
  - (1 : Int))) (↑nc5_0 : Int) then kOpt (EVs (EV cfg) 49 [.agg [.int .i64 n, .int .i64 n_1, .str s, .sl rows]]) fun (v : AV) => kBool v fun (b : Bool) => bif !b then some (.int .i64 
  (2 : Int)) else kOpt (EVs (EV cfg) 50 [.agg [.int .i64 n, .int .i64 n_1, .str s, .sl rows]]) fun (v : AV) => kInt .i64 v fun (n_2 : Int) => wq33_1 (IntKind.wrap .i64 ((↑(List.length 
  rows) : Int) - (1 : Int))) c0_0 c0_1 c0_2 c0_3 c1_0 (IntKind.wrap .i64 (c2_0 + n_2)) c3_0 c3_1 c3_2 c3_3 (Int.toNat (IntKind.wrap .i64 ((↑nc5_0 : Int) - (1 : Int))) - 0) h6 n n_1 s 
  rows rows else none) else none else none else bif decide (c2_0 > (65536 : Int)) then some (.int .i64 (3 : Int)) else some (.int .i64 (0 : Int))) P) : Gets (wq33_0 c0_0 c0_1 c0_2 c0_3 c1_0 c2_0 c3_0 c3_1 c3_2 c3_3 nc5_0 h6) P :=
  Gets.ev (fun _ h => loop_step (cfg := cfg) (f := 68) (rd := none) (bs := 5) h) (Gets.eq (by kernel_rfl) h)
theorem wq33_1_step (v3 : Int) (c0_0 : Int) (c0_1 : Int) (c0_2 : List UInt8) (c0_3 : List (List AV)) (c1_0 : Int) (c2_0 : Int) (c3_0 : Int) (c3_1 : Int) (c3_2 : List UInt8) (c3_3 : List (List AV)) (nc5_0 : Nat) (h6 : List (List AV)) (c7_0 : Int) (c7_1 : Int) (c7_2 : List UInt8) (c7_3 : List (List AV)) (c8_0 : List (List AV)) {P : AV → Prop} (h : Gets (bif decide (v3 ≥ (0 : Int)) then bif leInt (0 : Int) v3 && ltInt v3 (↑(List.length c8_0) : Int) then kOpt (List.get?Internal c8_0 (Int.toNat v3)) fun (row : List AV) => bif Nat.beq 
  (List.length row) 4 then bif Nat.ble 4 (List.length row) then kTmC (List.take 4 row) fun (n n_1 : Int) (s : List UInt8) (rows : List (List AV)) => (bif Nat.ble (0 + nc5_0) (List.length 
  h6) && fitsIn (nc5_0 + 1) 56 then bif leInt (0 : Int) (↑nc5_0 : Int) && ltInt (↑nc5_0 : Int) (↑(nc5_0 + 1) : Int) then kOpt (List.get?Internal (List.append (List.take nc5_0 h6) [[.int 
  .i64 (0 : Int), .int .i64 (0 : Int), .str [], .nilS]]) (0 + Int.toNat (↑nc5_0 : Int))) fun (row : List AV) => bif Nat.ble 4 (List.length row) then wq33_1a (IntKind.wrap .i64 (v3 - (1 
  : Int))) c0_0 c0_1 c0_2 c0_3 c1_0 c2_0 c3_0 c3_1 c3_2 c3_3 (nc5_0 + 1) c7_0 c7_1 c7_2 c7_3 c8_0 (List.set (List.append (List.take nc5_0 h6) [[.int .i64 (0 : Int), .int .i64 (0 : Int), 
  .str [], .nilS]]) (0 + Int.toNat (↑nc5_0 : Int)) (.int .i64 n :: .int .i64 n_1 :: .str s :: .sl rows :: List.drop 4 row)) else none else none else none) else none else none else none 
  else wq33_0 c0_0 c0_1 c0_2 c0_3 c1_0 c2_0 c3_0 c3_1 c3_2 c3_3 nc5_0 h6) P) : Gets (wq33_1 v3 c0_0 c0_1 c0_2 c0_3 c1_0 c2_0 c3_0 c3_1 c3_2 c3_3 nc5_0 h6 c7_0 c7_1 c7_2 c7_3 c8_0) P :=
  Gets.ev (fun _ h => loop_step (cfg := cfg) (f := 85) (rd := none) (bs := 10) h) (Gets.eq (by kernel_rfl) h)
theorem wq33_1a_step (v3 : Int) (c0_0 : Int) (c0_1 : Int) (c0_2 : List UInt8) (c0_3 : List (List AV)) (c1_0 : Int) (c2_0 : Int) (c3_0 : Int) (c3_1 : Int) (c3_2 : List UInt8) (c3_3 : List (List AV)) (nc5_0 : Nat) (c7_0 : Int) (c7_1 : Int) (c7_2 : List UInt8) (c7_3 : List (List AV)) (c8_0 : List (List AV)) (h10 : List (List AV)) {P : AV → Prop} (h : Gets (bif decide (v3 ≥ (0 : Int)) then bif leInt (0 : Int) v3 && ltInt v3 (↑(List.length c8_0) : Int) then kOpt (List.get?Internal c8_0 (Int.toNat v3)) fun (row : List AV) => bif Nat.beq 
  (List.length row) 4 then bif Nat.ble 4 (List.length row) then kTmC (List.take 4 row) fun (n n_1 : Int) (s : List UInt8) (rows : List (List AV)) => (bif Nat.ble (0 + nc5_0) (List.length 
  h10) && fitsIn (nc5_0 + 1) 56 then bif leInt (0 : Int) (↑nc5_0 : Int) && ltInt (↑nc5_0 : Int) (↑(nc5_0 + 1) : Int) then kOpt (List.get?Internal (List.append (List.take nc5_0 h10) [[.int 
  .i64 (0 : Int), .int .i64 (0 : Int), .str [], .nilS]]) (0 + Int.toNat (↑nc5_0 : Int))) fun (row : List AV) => bif Nat.ble 4 (List.length row) then wq33_1a (IntKind.wrap .i64 (v3 - (1 
  : Int))) c0_0 c0_1 c0_2 c0_3 c1_0 c2_0 c3_0 c3_1 c3_2 c3_3 (nc5_0 + 1) c7_0 c7_1 c7_2 c7_3 c8_0 (List.set (List.append (List.take nc5_0 h10) [[.int .i64 (0 : Int), .int .i64 (0 : Int), 
  .str [], .nilS]]) (0 + Int.toNat (↑nc5_0 : Int)) (.int .i64 n :: .int .i64 n_1 :: .str s :: .sl rows :: List.drop 4 row)) else none else none else none) else none else none else none 
  else wq33_0 c0_0 c0_1 c0_2 c0_3 c1_0 c2_0 c3_0 c3_1 c3_2 c3_3 nc5_0 h10) P) : Gets (wq33_1a v3 c0_0 c0_1 c0_2 c0_3 c1_0 c2_0 c3_0 c3_1 c3_2 c3_3 nc5_0 c7_0 c7_1 c7_2 c7_3 c8_0 h10) P :=
  Gets.ev (fun _ h => loop_step (cfg := cfg) (f := 85) (rd := none) (bs := 10) h) (Gets.eq (by kernel_rfl) h)
end Go.Proofs.Ytogebohommickaa
end

section
/-
  term.sound, term.own. Own work.
  What is proved: contracts of the abstract evaluation; no condition.
-/
namespace Go.Proofs.Ytogebohommickaa
open Go.Av

theorem sound_ev (t : Tm) : EVs (EV cfg) 49 [t.av] = some (.bool t.sound) := by
  obtain ⟨k, n, s, l⟩ := t
  apply Gets.get
  rw [Tm.av_mk]
  refine term_sound_run _ _ _ _ ?_
  simp only [Tm.sound, Tm.kind_mk, Tm.num_mk, Tm.str_mk, Tm.subs_mk, rowsT_length, beqI, beqNil, soundB]
  by_cases h1 : k = 1
  · subst h1; simp [bif_some'] <;> (try rw [Bool.eq_iff_iff]) <;> (try simp) <;> first | omega | grind
  by_cases h2 : k = 2
  · subst h2; simp [bif_some'] <;> (try rw [Bool.eq_iff_iff]) <;> (try simp) <;> first | omega | grind
  by_cases h3 : k = 3
  · subst h3; simp [bif_some'] <;> (try rw [Bool.eq_iff_iff]) <;> (try simp) <;> first | omega | grind
  by_cases h4 : k = 4
  · subst h4; simp [bif_some'] <;> (try rw [Bool.eq_iff_iff]) <;> (try simp) <;> first | omega | grind
  by_cases h6 : k = 6
  · subst h6; simp [bif_some'] <;> (try rw [Bool.eq_iff_iff]) <;> (try simp) <;> first | omega | grind
  by_cases h5 : k = 5
  · subst h5
    cases l with
    | nil => simp [bif_some'] <;> (try rw [Bool.eq_iff_iff]) <;> (try simp) <;> first | omega | grind
    | cons x l =>
      have hx : ¬ ((l.length : Int) + 1 = 0) := by omega
      simp [hx, bif_some'] <;> (try rw [Bool.eq_iff_iff]) <;> (try simp) <;> first | omega | grind
  by_cases h7 : k = 7
  · subst h7; simp [bif_some'] <;> (try rw [Bool.eq_iff_iff]) <;> (try simp) <;> first | omega | grind
  by_cases h8 : k = 8
  · subst h8; simp [bif_some'] <;> (try rw [Bool.eq_iff_iff]) <;> (try simp) <;> first | omega | grind
  by_cases h9 : k = 9
  · subst h9; simp [bif_some'] <;> (try rw [Bool.eq_iff_iff]) <;> (try simp) <;> first | omega | grind
  simp [h1, h2, h3, h4, h5, h6, h7, h8, h9]
theorem own_ev (t : Tm) : EVs (EV cfg) 50 [t.av] = some (.int .i64 t.own) := by
  obtain ⟨k, n, s, l⟩ := t
  apply Gets.get
  rw [Tm.av_mk]
  refine term_own_run _ _ _ _ ?_
  simp only [Tm.own, Tm.kind_mk, beqI]
  by_cases h7 : k = 7
  · simp [h7]
  · by_cases h5 : k = 5
    · simp [h5]
    · simp [h7, h5]
end Go.Proofs.Ytogebohommickaa
end

section
/-
  term.Check tells why a term may not be. Own work.
  What is proved: contracts of the abstract evaluation; no condition but on a term's weight.
-/
namespace Go.Proofs.Ytogebohommickaa
open Go.Av

theorem app_get0 (l : List (List AV)) (z : List AV) : (l ++ [z])[l.length]? = some z := by simp
theorem app_set0 (l : List (List AV)) (z c : List AV) : (l ++ [z]).set l.length c = l ++ [c] := by simp

theorem push_a {t x : Tm} (hx : x.subs.length < 1099511627776) {wd : Int} {P : AV → Prop} : ∀ (j : Nat) (R : List Tm), j ≤ x.subs.length → R.length + j < 1099511627776 →
    Gets (wq33_0 t.kind t.num t.str (rowsT t.subs) 0 wd t.kind t.num t.str (rowsT t.subs) (R.length + j) (rowsT (R ++ (x.subs.take j).reverse))) P →
    Gets (wq33_1a ((j : Int) - 1) t.kind t.num t.str (rowsT t.subs) 0 wd t.kind t.num t.str (rowsT t.subs) R.length x.kind x.num x.str (rowsT x.subs) (rowsT x.subs) (rowsT R)) P
  | 0, R, _, _, h => by
    refine wq33_1a_step _ _ _ _ _ _ _ _ _ _ _ _ _ _ _ _ _ _ ?_
    simpa using h
  | j + 1, R, hj, hR, h => by
    have ih := push_a (t := t) hx (wd := wd) (P := P) j (R ++ [x.subs[j]]) (by omega) (by simp; omega)
    have e1 : x.subs.take (j + 1) = x.subs.take j ++ [x.subs[j]] := by rw [List.take_add_one, List.getElem?_eq_getElem (by omega)]; rfl
    have e4 : R ++ (x.subs.take j ++ [x.subs[j]]).reverse = R ++ x.subs[j] :: (x.subs.take j).reverse := by rw [List.reverse_append]; rfl
    rw [e1, e4, show R.length + (j + 1) = R.length + 1 + j by omega] at h
    refine wq33_1a_step _ _ _ _ _ _ _ _ _ _ _ _ _ _ _ _ _ _ ?_
    have hw : IntKind.wrap .i64 ((j : Int) - 1) = (j : Int) - 1 := wrap64 (by omega) (by omega)
    have hjl : j < x.subs.length := by omega
    have e2 : ((j + 1 : Nat) : Int) - 1 = j := by omega
    rw [e2]
    have ht : List.take R.length (rowsT R) = rowsT R := List.take_of_length_le (by simp)
    have g0 := app_get0 (rowsT R) [.int .i64 0, .int .i64 0, .str [], .nilS]
    have s0 := app_set0 (rowsT R) [.int .i64 0, .int .i64 0, .str [], .nilS] x.subs[j].cells
    rw [rowsT_length] at g0 s0
    simp [hjl, hw, fits56 (show R.length + 1 ≤ 1099511627776 by omega), ht] at ih ⊢
    exact ih h

/-- the same from rows of which the last ones are not read any more -/
theorem push_m {t x : Tm} (hx : x.subs.length < 1099511627776) {wd : Int} {P : AV → Prop} {R : List Tm} {Z : List (List AV)} (hR : R.length + x.subs.length < 1099511627776)
    (h0 : x.subs = [] → Gets (wq33_0 t.kind t.num t.str (rowsT t.subs) 0 wd t.kind t.num t.str (rowsT t.subs) R.length (rowsT R ++ Z)) P)
    (h : x.subs ≠ [] → Gets (wq33_0 t.kind t.num t.str (rowsT t.subs) 0 wd t.kind t.num t.str (rowsT t.subs) (R ++ x.subs.reverse).length (rowsT (R ++ x.subs.reverse))) P) :
    Gets (wq33_1 ((x.subs.length : Int) - 1) t.kind t.num t.str (rowsT t.subs) 0 wd t.kind t.num t.str (rowsT t.subs) R.length (rowsT R ++ Z) x.kind x.num x.str (rowsT x.subs) (rowsT x.subs)) P := by
  refine wq33_1_step _ _ _ _ _ _ _ _ _ _ _ _ _ _ _ _ _ _ ?_
  rcases Nat.eq_zero_or_pos x.subs.length with hz | hp
  · have hz' : x.subs = [] := List.length_eq_zero_iff.1 hz
    have := h0 hz'
    simpa [hz'] using this
  · obtain ⟨j, hj⟩ : ∃ j, x.subs.length = j + 1 := ⟨x.subs.length - 1, by omega⟩
    have hne : x.subs ≠ [] := by intro e; rw [e] at hp; simp at hp
    have hjl : j < x.subs.length := by omega
    have e2 : (x.subs.length : Int) - 1 = j := by omega
    have hw : IntKind.wrap .i64 ((j : Int) - 1) = (j : Int) - 1 := wrap64 (by omega) (by omega)
    have ht : List.take R.length (rowsT R ++ Z) = rowsT R := by rw [List.take_append_of_le_length (by simp), List.take_of_length_le (by simp)]
    have e5 : x.subs = x.subs.take j ++ [x.subs[j]] := by
      have : x.subs.take (j + 1) = x.subs := List.take_of_length_le (by omega)
      rw [List.take_add_one, List.getElem?_eq_getElem hjl] at this
      exact this.symm
    have e6 : R ++ x.subs.reverse = R ++ [x.subs[j]] ++ (x.subs.take j).reverse := by
      conv => lhs; rw [e5]
      rw [List.reverse_append, List.append_assoc]; rfl
    have := push_a (t := t) hx (wd := wd) (P := P) j (R ++ [x.subs[j]]) (by omega) (by simp; omega) (by
      have h := h hne
      rw [e6] at h
      have e7 : (R ++ [x.subs[j]] ++ (x.subs.take j).reverse).length = (R ++ [x.subs[j]]).length + j := by
        rw [List.length_append, List.length_reverse, List.length_take]; omega
      rw [e7] at h
      exact h)
    rw [e2]
    simp at this
    simp [hjl, hw, fits56 (show R.length + 1 ≤ 1099511627776 by omega), ht]
    exact this

theorem check_m {t : Tm} : ∀ (n : Nat) (R : List Tm) (Z : List (List AV)) (wd : Nat), wL R ≤ n → n < 1099511627776 → wd + 2 * wL R < 9007199254740992 →
    Gets (wq33_0 t.kind t.num t.str (rowsT t.subs) 0 (wd : Int) t.kind t.num t.str (rowsT t.subs) R.length (rowsT R ++ Z)) (· = .int .i64 (chkS R wd)) := by
  intro n
  induction n with
  | zero =>
    intro R Z wd hn _ _
    have : R = [] := by
      have := wL_len R
      exact List.length_eq_zero_iff.1 (by omega)
    subst this
    refine wq33_0_step _ _ _ _ _ _ _ _ _ _ _ _ ?_
    by_cases h : 65536 < wd
    · have h' : (65536 : Int) < wd := by omega
      simp [h, h', chkS, partsL, wordsL]
    · have h' : ¬ (65536 : Int) < wd := by omega
      simp [h, h', chkS, partsL, wordsL]
  | succ n ih =>
    intro R Z wd hn hN hw
    rcases List.eq_nil_or_concat R with rfl | ⟨R0, x, rfl⟩
    · refine wq33_0_step _ _ _ _ _ _ _ _ _ _ _ _ ?_
      by_cases h : 65536 < wd
      · have h' : (65536 : Int) < wd := by omega
        simp [h, h', chkS, partsL, wordsL]
      · have h' : ¬ (65536 : Int) < wd := by omega
        simp [h, h', chkS, partsL, wordsL]
    · rw [List.concat_eq_append] at *
      have hwx := x.w_eq
      have ho := x.own_le
      simp only [wL_append, wL_cons, wL_nil] at hn hw
      have hl0 := wL_len R0
      have hls := wL_len x.subs
      have hsd := sound_ev x
      have how := own_ev x
      refine wq33_0_step _ _ _ _ _ _ _ _ _ _ _ _ ?_
      have e1 : (R0 ++ [x]).length = R0.length + 1 := by simp
      have hw1 : IntKind.wrap .i64 (R0.length : Int) = R0.length := wrapN (by omega)
      have hw2 : IntKind.wrap .i64 ((wd : Int) + x.own) = ((wd + x.own : Nat) : Int) := by rw [wrap64 (by omega) (by omega)]; omega
      have hw3 : IntKind.wrap .i64 ((x.subs.length : Int) - 1) = (x.subs.length : Int) - 1 := wrap64 (by omega) (by omega)
      have g : (rowsT (R0 ++ [x]) ++ Z)[R0.length]? = some x.cells := by
        rw [List.getElem?_append_left (by simp), rowsT_get]; simp
      cases hs : x.sound with
      | false =>
        rw [hs] at hsd
        simp [e1, hw1, g, hsd, chkS_bad hs]
      | true =>
        rw [hs] at hsd
        have e3 : rowsT (R0 ++ [x]) ++ Z = rowsT R0 ++ (x.cells :: Z) := by rw [rowsT_append, List.append_assoc, rowsT_cons, rowsT_nil]; rfl
        have := push_m (t := t) (x := x) (R := R0) (Z := x.cells :: Z) (wd := ((wd + x.own : Nat) : Int)) (P := (· = .int .i64 (chkS (R0 ++ [x]) wd))) (by omega) (by omega)
          (fun hz => by
            have := ih R0 (x.cells :: Z) (wd + x.own) (by omega) (by omega) (by omega)
            rw [← chkS_step hs, hz, List.reverse_nil, List.append_nil]
            exact this)
          (fun hz => by
            have := ih (R0 ++ x.subs.reverse) [] (wd + x.own) (by rw [wL_append, wL_rev]; omega) (by omega) (by rw [wL_append, wL_rev]; omega)
            rw [← chkS_step hs]
            rw [List.append_nil] at this
            exact this)
        simp only [e1, e3] at g ⊢
        simp only [Int.natCast_add] at hw2 this
        simp [hw1, g, hsd, how, hw2, hw3]
        exact this

theorem check_ev {t : Tm} (h : t.w < 1099511627776) : EVs (EV cfg) 36 [t.av] = some (.int .i64 t.chk) := by
  have := check_m (t := t) _ [t] [] 0 (Nat.le_refl _) (by simpa using h) (by simp; omega)
  apply Gets.get
  rw [Tm.av, Tm.cells_eq]
  refine term_Check_run _ _ _ _ ?_
  rw [← Tm.cells_eq, rowsT_one, Tm.chk]
  simpa using this
end Go.Proofs.Ytogebohommickaa
end

section
/-
  What guard.Apply tells of two values. Own work.
  What is proved: contracts of the abstract evaluation; no condition but on sizes.
-/
namespace Go.Proofs.Ytogebohommickaa
open Go.Av
theorem ops_ev (op : List UInt8) : EVf (EV cfg) 15 [.str op] = some (.sl (intsR (opsG op))) := by
  apply Gets.get
  refine guard_Ops_run _ ?_
  have h := lookS_map (fun l => some (AV.sl (intsR l))) op [] opsTab
  have : Gets (lookS op (some (AV.sl (intsR []))) (opsTab.map fun p => (p.1, some (AV.sl (intsR p.2))))) (· = .sl (intsR (opsG op))) := by
    rw [h]; exact ⟨_, rfl, rfl⟩
  exact this
theorem index_ev (l : List Int) (hl : l.length < 1099511627776) (n : Int) : ∀ d i : Nat, i + d = l.length → Gets (wg65_0 (intsR l) n i) (fun v => ∃ j : Int, v = .int .i64 j ∧ (0 ≤ j ↔ n ∈ l.drop i)) := by
  intro d
  induction d with
  | zero =>
    intro i hi
    refine wg65_0_step _ _ _ ?_
    rw [intsR_len, decide_eq_false (by omega)]
    refine ⟨_, rfl, -1, rfl, ?_⟩
    rw [List.drop_eq_nil_of_le (by omega)]
    simp
  | succ d ih =>
    intro i hi
    have hil : i < l.length := by omega
    refine wg65_0_step _ _ _ ?_
    have hx : l[i]? = some l[i] := List.getElem?_eq_getElem hil
    have hd : l.drop i = l[i] :: l.drop (i + 1) := List.drop_eq_getElem_cons hil
    have h := ih (i + 1) (by omega)
    rw [intsR_len, decide_eq_true (show (i : Int) < (l.length : Int) by omega), leInt_zero, ltInt_nat, decide_eq_true hil, get?Internal_eq, Int.toNat_natCast, intsR_get, hx, wrap_succ hil hl]
    by_cases he : n = l[i]
    · refine ⟨.int .i64 i, ?_, i, rfl, ?_⟩
      · simp [he]
      · rw [hd, he]; exact ⟨fun _ => List.mem_cons_self, fun _ => by omega⟩
    · have hne : (n == l[i]) = false := by rw [beqI]; exact decide_eq_false he
      simp [hne]
      refine Gets.mono (by simpa using h) ?_
      rintro _ ⟨j, rfl, hj⟩
      exact ⟨j, rfl, by rw [hj, hd, List.mem_cons]; exact ⟨Or.inr, fun h => h.resolve_left he⟩⟩
theorem contains_ev (l : List Int) (hl : l.length < 1099511627776) (n : Int) : EVs (EV cfg) 44 [.sl (intsR l), .int .i64 n] = some (.bool (decide (n ∈ l))) := by
  obtain ⟨_, h1, j, rfl, hj⟩ := index_ev l hl n l.length 0 (by omega)
  have h2 : EVs (EV cfg) 65 [.sl (intsR l), .int .i64 n] = some (.int .i64 j) := by
    apply Gets.get
    exact indexI_run _ _ ⟨_, h1, rfl⟩
  apply Gets.get
  refine containsI_run _ _ ?_
  rw [h2]
  rw [List.drop_zero] at hj
  refine ⟨_, rfl, ?_⟩
  show AV.bool (decide (j ≥ 0)) = _
  congr 1
  exact decide_eq_decide.2 hj
theorem self_ev (n : Int) : EVs (EV cfg) 45 [.int .i64 n] = some (.bool (selfG n)) := by
  apply Gets.get
  refine guard_self_run _ ?_
  unfold selfG
  by_cases h : 1 ≤ n
  · simp [h]
  · simp [h]
theorem apply2_ev (e : Env) (op : List UInt8) {a b : Tm} (ha : a.Ok) (hb : b.Ok) (ia : a.kind = 1 → InB a.num) (ib : b.kind = 1 → InB b.num) (hp : op = [42] → ProductOk) :
    Gets (EVd (EV cfg) 46 [.ptr 0 0 0, .str op, .sl (rowsT [a, b])] 7 (mR e false)) (Res e (twoG op a b)) := by
  refine mApply_run _ _ _ _ _ _ _ _ _ ?_
  have g0 : (rowsT [a, b])[0]? = some a.cells := by rw [rowsT_cons]; rfl
  have g1 : (rowsT [a, b])[1]? = some b.cells := by rw [rowsT_cons, rowsT_cons]; rfl
  simp only [rowsT_length, get?Internal_eq, g0, g1]
  simp
  exact Gets.bind (mTwo_ev e op ha hb ia ib hp) fun r h => ret_res h (Res_tm h)
/-- what is told of two values: a value, or why there is none -/
def apply2R (op : List UInt8) (a b : Tm) : Tm × Int :=
  if a.chk = 0 ∧ b.chk = 0 then (match twoG op a b with | some t => (t, 0) | none => (zeroT, 10)) else (zeroT, 2)
theorem gApply2_ev (op : List UInt8) {a b : Tm} {pid : Int} (h2 : (2 : Int) ∈ opsG op) (hpid : selfG pid = true) (wa : a.w < 1099511627776) (wb : b.w < 1099511627776) (hp : op = [42] → ProductOk) :
    EVf (EV cfg) 33 [.str op, .sl (rowsT [a, b]), .int .i64 pid] = some (.tup [(apply2R op a b).1.av, .int .i64 (apply2R op a b).2]) := by
  have ca := check_ev wa
  have cb := check_ev wb
  have oa := ok_of_w a wa
  have ob := ok_of_w b wb
  have g0 : (rowsT [a, b])[0]? = some a.cells := by rw [rowsT_cons]; rfl
  have g1 : (rowsT [a, b])[1]? = some b.cells := by rw [rowsT_cons, rowsT_cons]; rfl
  have w1 : IntKind.wrap .i64 (0 + 1) = 1 := wrap64 (by omega) (by omega)
  have w2 : IntKind.wrap .i64 (1 + 1) = 2 := wrap64 (by omega) (by omega)
  have hz : AV.agg [.int .i64 0, .int .i64 0, .str [], .sl []] = zeroT.av := zeroT_av.symm
  have fin : a.chk = 0 → b.chk = 0 → Gets (wg33_0 op (rowsT [a, b]) pid 2 0 0 [] []) (· = .tup [(apply2R op a b).1.av, .int .i64 (apply2R op a b).2]) := by
    intro ha hb
    refine wg33_0_step _ _ _ _ _ _ _ _ ?_
    have hm := apply2_ev ⟨zeroT, [], pid⟩ op oa ob (chk_num ha) (chk_num hb) hp
    have e0 : mR ⟨zeroT, [], pid⟩ false = [[.int .i64 0, .int .i64 0, .str [], .sl [], .sl [], .int .i64 pid, .bool false]] := by simp [mR, zeroT, bindsR]
    rw [e0] at hm
    simp only [rowsT_length, List.length_cons, List.length_nil]
    simp
    refine Gets.bind hm ?_
    intro r hr
    unfold apply2R
    rw [if_pos ⟨ha, hb⟩]
    unfold Res at hr
    split at hr
    · rename_i t ht
      rw [hr]
      simp only [kTmV_av, av_unf]
      have := copy_ev (twoG_ok ob t ht)
      simp [this, ht]
    · rename_i ht
      obtain ⟨h1, t, h3⟩ := hr
      rw [h3, h1]
      simp [zeroT, ht]
  have s1 : a.chk = 0 → Gets (wg33_0 op (rowsT [a, b]) pid 1 0 0 [] []) (· = .tup [(apply2R op a b).1.av, .int .i64 (apply2R op a b).2]) := by
    intro ha
    refine wg33_0_step _ _ _ _ _ _ _ _ ?_
    simp only [rowsT_length, get?Internal_eq, List.length_cons, List.length_nil, w2, show (1 : Int).toNat = 1 from rfl, g1]
    simp [cb, bneD]
    by_cases hb : b.chk = 0
    · simp [hb]; exact fin ha hb
    · unfold apply2R
      simp [hb, ha, zeroT]
  apply Gets.get
  refine gApply_run _ _ _ ?_
  have hlen : (opsG op).length < 1099511627776 := by
    have : ∀ (l : List (List UInt8 × List Int)), (∀ p ∈ l, p.2.length ≤ 2) → (lookS op [] l).length ≤ 2 := by
      intro l
      induction l with
      | nil => intro _; simp [lookS]
      | cons p l ih =>
        intro h
        rw [lookS]
        cases op == p.1
        · exact ih fun q hq => h q (by simp [hq])
        · exact h p (by simp)
    have := this opsTab (by decide)
    unfold opsG
    omega
  rw [ops_ev, rowsT_length]
  simp only [kOptSome, kSl_sl, List.length_cons, List.length_nil]
  rw [contains_ev _ hlen, self_ev, hpid]
  simp [h2]
  refine wg33_0_step _ _ _ _ _ _ _ _ ?_
  simp only [rowsT_length, get?Internal_eq, List.length_cons, List.length_nil, w1, show (0 : Int).toNat = 0 from rfl, g0]
  simp [ca, bneD]
  by_cases ha : a.chk = 0
  · simp [ha]; exact s1 ha
  · unfold apply2R
    simp [ha, zeroT]
end Go.Proofs.Ytogebohommickaa
end

section
/-
  What is left of the functions' evaluation at arguments with variables, printed by a program of ours (resid2.py) and checked by the kernel.
  What is proved: each equation as it stands; no condition.
-/
namespace Go.Proofs.Ytogebohommickaa
open Go.Av
set_option maxRecDepth 100000
set_option maxHeartbeats 0

noncomputable def Ll9_0 : Den := evC cfg (EV cfg) 9 none 0 (sub (bodyOf Try.f9) [1, 0, 1, 0, 0])
noncomputable def Al9_0 : Ex × List AV × AH → Option AV := kAft (Cfg.keepOut cfg 9 2) (kRun cfg (EV cfg) (kfN cfg 6) 9 none 0 (kFinS cfg (Cfg.lift cfg 9 0) Try.f9.results.toList) ([.block 0, .seq (sub (bodyOf Try.f9) [1, 1])]))
noncomputable def Wl9_0 : List AV × AH → Option AV := fun p => kOpt (LOOP 0 (some [0, 3, 5]) ([]) Ll9_0 p) Al9_0
noncomputable def Ll9_1 : Den := evC cfg (EV cfg) 9 none 0 (sub (bodyOf Try.f9) [1, 1, 0, 1, 0, 0])
noncomputable def Al9_1 : Ex × List AV × AH → Option AV := kAft (Cfg.keepOut cfg 9 7) (kRun cfg (EV cfg) (kfN cfg 6) 9 none 0 (kFinS cfg (Cfg.lift cfg 9 0) Try.f9.results.toList) ([.block 2, .seq (sub (bodyOf Try.f9) [1, 1, 1])]))
noncomputable def Wl9_1 : List AV × AH → Option AV := fun p => kOpt (LOOP 0 (some [0, 3, 6]) ([]) Ll9_1 p) Al9_1
noncomputable abbrev wl9_0 (L : List (List AV)) (v5 : Int) (c0_0 : Int) (c0_1 : Int) (c0_2 : List UInt8) (c0_3 : List (List AV)) (c0_4 : List (List AV)) (c0_5 : Int) : Option (AV) := Wl9_0  (((fx 54 [(0, AV.sl L), (3, AV.ptr (0 : Nat) (0 : Nat) (0 : Nat)), (5, AV.int IntKind.i64 v5)]) : List AV), ([ABlk.rows false (6 : Nat) [[AV.int IntKind.i64 c0_0, AV.int IntKind.i64 c0_1, AV.str c0_2, AV.sl c0_3, AV.sl c0_4, AV.int IntKind.i64 c0_5]]] : AH))
noncomputable abbrev wl9_1 (L : List (List AV)) (v6 : Int) (c0_0 : Int) (c0_1 : Int) (c0_2 : List UInt8) (c0_3 : List (List AV)) (c0_4 : List (List AV)) (c0_5 : Int) : Option (AV) := Wl9_1  (((fx 54 [(0, AV.sl L), (3, AV.ptr (0 : Nat) (0 : Nat) (0 : Nat)), (6, AV.int IntKind.i64 v6)]) : List AV), ([ABlk.rows false (6 : Nat) [[AV.int IntKind.i64 c0_0, AV.int IntKind.i64 c0_1, AV.str c0_2, AV.sl c0_3, AV.sl c0_4, AV.int IntKind.i64 c0_5]]] : AH))
theorem law17_large_run (L : List (List AV)) (ko : Int) (no : Int) (so : List UInt8) (lo : List (List AV)) (bd : List (List AV)) (self : Int) {P : AV → Prop} (h : Gets (wl9_0 L (0 : Int) ko no so lo bd self) P) : Gets (EVs (EV cfg) 9 ([AV.sl L, AV.agg [AV.int IntKind.i64 ko, AV.int IntKind.i64 no, AV.str so, AV.sl lo, AV.sl bd, AV.int IntKind.i64 self]] : List AV)) P :=
  Gets.ev (fun _ h => funS rfl rfl Try.func9 rfl h) (Gets.eq (by kernel_rfl) h)
theorem wl9_0_step (L : List (List AV)) (v5 : Int) (c0_0 : Int) (c0_1 : Int) (c0_2 : List UInt8) (c0_3 : List (List AV)) (c0_4 : List (List AV)) (c0_5 : Int) {P : AV → Prop} (h : Gets (bif decide (v5 < (↑(List.length L) : Int)) then bif decide (v5 < (101 : Int)) then bif leInt (0 : Int) v5 && ltInt v5 (↑(List.length L) : Int) then kOpt (List.get?Internal L (Int.toNat 
  v5)) fun (row : List AV) => bif Nat.beq (List.length row) 4 then bif Nat.ble 4 (List.length row) then kTmC (List.take 4 row) fun (n n_1 : Int) (s : List UInt8) (rows : List (List AV)) 
  => (kOpt (EVs (EV cfg) 34 [.agg [.int .i64 n, .int .i64 n_1, .str s, .sl rows], .int .i64 (300 : Int)]) fun (v : AV) => kBool v fun (b : Bool) => bif b then some (.bool true) else wl9_0 
  L (IntKind.wrap .i64 (v5 + (1 : Int))) c0_0 c0_1 c0_2 c0_3 c0_4 c0_5) else none else none else none else wl9_1 L (0 : Int) c0_0 c0_1 c0_2 c0_3 c0_4 c0_5 else wl9_1 L (0 : Int) c0_0 
  c0_1 c0_2 c0_3 c0_4 c0_5) P) : Gets (wl9_0 L v5 c0_0 c0_1 c0_2 c0_3 c0_4 c0_5) P :=
  Gets.ev (fun _ h => loop_step (cfg := cfg) (f := 9) (rd := none) (bs := 0) h) (Gets.eq (by kernel_rfl) h)
theorem wl9_1_step (L : List (List AV)) (v6 : Int) (c0_0 : Int) (c0_1 : Int) (c0_2 : List UInt8) (c0_3 : List (List AV)) (c0_4 : List (List AV)) (c0_5 : Int) {P : AV → Prop} (h : Gets (bif decide (v6 < (↑(List.length c0_4) : Int)) then bif decide (v6 < (61 : Int)) then bif leInt (0 : Int) v6 && ltInt v6 (↑(List.length c0_4) : Int) then kOpt (List.get?Internal c0_4 
  (Int.toNat v6)) fun (row : List AV) => bif Nat.beq (List.length row) 5 then bif Nat.ble 5 (List.length row) then kCons (List.take 4 (List.drop 1 row)) fun (c : AV) (cs : List AV) => 
  kInt .i64 c fun (n : Int) => kCons cs fun (c : AV) (cs : List AV) => kInt .i64 c fun (n_1 : Int) => kCons cs fun (c : AV) (cs : List AV) => kStr c fun (s : List UInt8) => kCons cs fun 
  (c : AV) (cs : List AV) => kSl c fun (rows : List (List AV)) => kNil cs (kOpt (EVs (EV cfg) 34 [.agg [.int .i64 n, .int .i64 n_1, .str s, .sl rows], .int .i64 (100 : Int)]) fun (v : 
  AV) => kBool v fun (b : Bool) => bif b then some (.bool true) else wl9_1 L (IntKind.wrap .i64 (v6 + (1 : Int))) c0_0 c0_1 c0_2 c0_3 c0_4 c0_5) else none else none else none else bif 
  decide ((↑(List.length L) : Int) > (100 : Int)) then some (.bool true) else bif decide ((↑(List.length c0_4) : Int) > (60 : Int)) then some (.bool true) else kOpt (EVs (EV cfg) 34 [.agg 
  [.int .i64 c0_0, .int .i64 c0_1, .str c0_2, .sl c0_3], .int .i64 (300 : Int)]) fun (v : AV) => kBool v fun (b : Bool) => some (.bool b) else bif decide ((↑(List.length L) : Int) > (100 
  : Int)) then some (.bool true) else bif decide ((↑(List.length c0_4) : Int) > (60 : Int)) then some (.bool true) else kOpt (EVs (EV cfg) 34 [.agg [.int .i64 c0_0, .int .i64 c0_1, .str 
  c0_2, .sl c0_3], .int .i64 (300 : Int)]) fun (v : AV) => kBool v fun (b : Bool) => some (.bool b)) P) : Gets (wl9_1 L v6 c0_0 c0_1 c0_2 c0_3 c0_4 c0_5) P :=
  Gets.ev (fun _ h => loop_step (cfg := cfg) (f := 9) (rd := none) (bs := 0) h) (Gets.eq (by kernel_rfl) h)
end Go.Proofs.Ytogebohommickaa
end

section
/-
  How much terms are, by the statements of chapter 17. Own work.
  What is proved: contracts of the abstract evaluation; no condition but on a term's size.
-/
namespace Go.Proofs.Ytogebohommickaa
open Go.Av
theorem kitA_ev (s : List UInt8) : EVf (EV cfg) 21 [.str s] = some (symT s).av := by
  apply Gets.get
  refine kitA_run _ ?_
  rw [symT_av]; simp
theorem size_ev (t : Tm) : t.Ok → ∀ most : Int, Gets (EVs (EV cfg) 47 [t.av, .int .i64 most]) AV.IsInt := by
  induction t using Tm.ind with
  | _ k n s l ih =>
    intro hok most
    have loop : ∀ (d i : Nat) (m : Int), i + d = l.length → Gets (wh47_0 most m i k n s (rowsT l)) AV.IsInt := by
      intro d
      induction d with
      | zero =>
        intro i m hi
        refine wh47_0_step _ _ _ _ _ _ _ ?_
        rw [rowsT_length, decide_eq_false (by omega)]
        simp
      | succ d ihd =>
        intro i m hi
        refine wh47_0_step _ _ _ _ _ _ _ ?_
        have hil : i < l.length := by omega
        have hx : l[i]? = some l[i] := List.getElem?_eq_getElem hil
        have hxl := List.mem_of_getElem? hx
        have hix := ih l[i] hxl (hok.sub hxl)
        by_cases hm : m < most
        · rw [wrap_succ hil hok.len]
          simp [hil, hx, hm]
          refine Gets.bind (hix _) ?_
          rintro _ ⟨n'', rfl⟩
          simpa using ihd (i + 1) _ (by omega)
        · simp [hil, hm]
    rw [Tm.av_mk]
    refine kitSize_run _ _ _ _ _ ?_
    by_cases h1 : (s.length : Int) > 100
    · rw [decide_eq_true h1]; simp
    · rw [decide_eq_false h1]
      by_cases h2 : (l.length : Int) > most
      · rw [rowsT_length, decide_eq_true h2]; simp
      · rw [rowsT_length, decide_eq_false h2]
        exact loop l.length 0 1 (by omega)
theorem big_ev {t : Tm} (h : t.Ok) (most : Int) : Gets (EVs (EV cfg) 34 [t.av, .int .i64 most]) AV.IsBool := by
  have h1 := size_ev t h (IntKind.wrap .i64 (most + 1))
  rw [Tm.av, Tm.cells_eq] at h1 ⊢
  refine kitBig_run _ _ _ _ _ ?_
  refine Gets.bind h1 ?_
  rintro _ ⟨n, rfl⟩
  simp
theorem large17_ev {l : List Tm} (hl : OkL l) (hlen : l.length < 1099511627776) {o : Tm} (ho : o.Ok) (self : Int) :
    Gets (EVs (EV cfg) 9 [.sl (rowsT l), .agg [.int .i64 o.kind, .int .i64 o.num, .str o.str, .sl (rowsT o.subs), .sl [], .int .i64 self]]) AV.IsBool := by
  have h1 : Gets (wl9_1 (rowsT l) 0 o.kind o.num o.str (rowsT o.subs) [] self) AV.IsBool := by
    refine wl9_1_step _ _ _ _ _ _ _ _ ?_
    have hb := big_ev ho 300
    by_cases h2 : (l.length : Int) > 100
    · simp [h2]
    · simp [h2]
      refine Gets.bind hb ?_
      rintro _ ⟨b, rfl⟩
      simp
  have loop : ∀ (d i : Nat), i + d = l.length → Gets (wl9_0 (rowsT l) i o.kind o.num o.str (rowsT o.subs) [] self) AV.IsBool := by
    intro d
    induction d with
    | zero =>
      intro i hi
      refine wl9_0_step _ _ _ _ _ _ _ _ ?_
      rw [rowsT_length, decide_eq_false (by omega)]
      simpa using h1
    | succ d ihd =>
      intro i hi
      refine wl9_0_step _ _ _ _ _ _ _ _ ?_
      have hil : i < l.length := by omega
      have hx : l[i]? = some l[i] := List.getElem?_eq_getElem hil
      have hb := big_ev (hl.get (List.mem_of_getElem? hx)) 300
      by_cases hm : (i : Int) < 101
      · rw [wrap_succ hil hlen]
        simp [hil, hx, hm]
        refine Gets.bind hb ?_
        rintro _ ⟨b, rfl⟩
        cases b with
        | true => simp
        | false => simpa using ihd (i + 1) (by omega)
      · simp [hil, hm]
        simpa using h1
  exact law17_large_run _ _ _ _ _ _ _ (loop l.length 0 (by omega))
end Go.Proofs.Ytogebohommickaa
end

section
/-
  What is left of the functions' evaluation at arguments with variables, printed by a program of ours (resid2.py) and checked by the kernel.
  What is proved: each equation as it stands; no condition.
-/
namespace Go.Proofs.Ytogebohommickaa
open Go.Av
set_option maxRecDepth 100000
set_option maxHeartbeats 0

noncomputable def Lq67_0 : Den := evC cfg (EV cfg) 40 none 0 (sub (bodyOf Try.f40) [1, 1, 0, 1, 0, 0])
noncomputable def Aq67_0 : Ex × List AV × AH → Option AV := kAft (Cfg.keepOut cfg 40 4) (kRun cfg (EV cfg) (kfN cfg 6) 40 none 0 (kFinS cfg (Cfg.lift cfg 40 0) Try.f40.results.toList) ([.block 0, .seq (sub (bodyOf Try.f40) [1, 1, 1])]))
noncomputable def Wq67_0 : List AV × AH → Option AV := fun p => kOpt (LOOP 0 (some [0, 1, 5]) ([]) Lq67_0 p) Aq67_0
noncomputable def Lq59_0 : Den := evC cfg (EV cfg) 35 none 0 (sub (bodyOf Try.f35) [1, 1, 0, 1, 0, 0])
noncomputable def Aq59_0 : Ex × List AV × AH → Option OV := kAft (Cfg.keepOut cfg 35 3) (kRun cfg (EV cfg) (kfN cfg 6) 35 none 0 (kFinO cfg (Cfg.lift cfg 35 0) Try.f35.results.toList) ([.block 0, .seq (sub (bodyOf Try.f35) [1, 1, 1])]))
noncomputable def Wq59_0 : List AV × AH → Option OV := fun p => kOpt (LOOP 0 (some [0, 3, 4]) ([(3, 4)]) Lq59_0 p) Aq59_0
noncomputable abbrev wq67_0 (A : List (List AV)) (B : List (List AV)) (v5 : Int) : Option (AV) := Wq67_0  (((fx 27 [(0, AV.sl A), (1, AV.sl B), (5, AV.int IntKind.i64 v5)]) : List AV), ([] : AH))
noncomputable abbrev wq59_0 (A : List (List AV)) (nv3 : Nat) (v4 : Int) (h0 : List (List AV)) : Option (OV) := Wq59_0  (((fx 20 [(0, AV.sl A), (3, AV.ms (0 : Nat) (0 : Nat) nv3), (4, AV.int IntKind.i64 v4)]) : List AV), ([ABlk.rows true (4 : Nat) h0] : AH))
theorem tenurekit_SameTerm_run (ka : Int) (na : Int) (sa : List UInt8) (la : List (List AV)) (kb : Int) (nb : Int) (sb : List UInt8) (lb : List (List AV)) {P : AV → Prop} (h : Gets (bif ka == kb then bif na == nb then bif sa == sb then kOpt (EVs (EV cfg) 40 [.sl la, .sl lb]) fun (v : AV) => kBool v fun (b : Bool) => some (.bool b) else some (.bool false) else some 
  (.bool false) else some (.bool false)) P) : Gets (EVs (EV cfg) 17 ([AV.agg [AV.int IntKind.i64 ka, AV.int IntKind.i64 na, AV.str sa, AV.sl la], AV.agg [AV.int IntKind.i64 kb, AV.int IntKind.i64 nb, AV.str sb, AV.sl lb]] : List AV)) P :=
  Gets.ev (fun _ h => funS rfl rfl Try.func17 rfl h) (Gets.eq (by kernel_rfl) h)
theorem tenurekit_SameTerms_run (A : List (List AV)) (B : List (List AV)) {P : AV → Prop} (h : Gets (bif (↑(List.length A) : Int) != (↑(List.length B) : Int) then some (.bool false) else wq67_0 A B (0 : Int)) P) : Gets (EVs (EV cfg) 40 ([AV.sl A, AV.sl B] : List AV)) P :=
  Gets.ev (fun _ h => funS rfl rfl Try.func40 rfl h) (Gets.eq (by kernel_rfl) h)
theorem tenurekit_CopyTerm_run (kt : Int) (nt : Int) (st : List UInt8) (lt : List (List AV)) {P : AV → Prop} (h : Gets (kOpt (EVo (EV cfg) 35 [.sl lt]) fun (o : OV) => kOwn o (some (.agg [.int .i64 kt, .int .i64 nt, .str st, .sl []])) fun (sz : Nat) (rs : List (List AV)) (off len : Nat) => bif Nat.ble 
  (off + len) (List.length rs) && true then some (.agg [.int .i64 kt, .int .i64 nt, .str st, .sl (List.take len (List.drop off rs))]) else none) P) : Gets (EVf (EV cfg) 10 ([AV.agg [AV.int IntKind.i64 kt, AV.int IntKind.i64 nt, AV.str st, AV.sl lt]] : List AV)) P :=
  Gets.ev (fun _ h => funF rfl rfl Try.func10 rfl h) (Gets.eq (by kernel_rfl) h)
theorem tenurekit_CopyTerms_run (A : List (List AV)) {P : OV → Prop} (h : Gets (wq59_0 A 0 (0 : Int) []) P) : Gets (EVo (EV cfg) 35 ([AV.sl A] : List AV)) P :=
  Gets.ev (fun _ h => funO rfl rfl Try.func35 rfl h) (Gets.eq (by kernel_rfl) h)
theorem wq67_0_step (A : List (List AV)) (B : List (List AV)) (v5 : Int) {P : AV → Prop} (h : Gets (bif decide (v5 < (↑(List.length A) : Int)) then bif leInt (0 : Int) v5 && ltInt v5 (↑(List.length A) : Int) then kOpt (List.get?Internal A (Int.toNat v5)) fun (row : List AV) => bif 
  Nat.beq (List.length row) 4 then bif Nat.ble 4 (List.length row) then kTmC (List.take 4 row) fun (n n_1 : Int) (s : List UInt8) (rows : List (List AV)) => (bif leInt (0 : Int) v5 && 
  ltInt v5 (↑(List.length B) : Int) then kOpt (List.get?Internal B (Int.toNat v5)) fun (row : List AV) => bif Nat.beq (List.length row) 4 then bif Nat.ble 4 (List.length row) then kTmC 
  (List.take 4 row) fun (n_2 n_3 : Int) (s_1 : List UInt8) (rows_1 : List (List AV)) => (kOpt (EVs (EV cfg) 17 [.agg [.int .i64 n, .int .i64 n_1, .str s, .sl rows], .agg [.int .i64 n_2, 
  .int .i64 n_3, .str s_1, .sl rows_1]]) fun (v : AV) => kBool v fun (b : Bool) => bif !b then some (.bool false) else wq67_0 A B (IntKind.wrap .i64 (v5 + (1 : Int)))) else none else 
  none else none) else none else none else none else some (.bool true)) P) : Gets (wq67_0 A B v5) P :=
  Gets.ev (fun _ h => loop_step (cfg := cfg) (f := 40) (rd := none) (bs := 0) h) (Gets.eq (by kernel_rfl) h)
theorem wq59_0_step (A : List (List AV)) (nv3 : Nat) (v4 : Int) (h0 : List (List AV)) {P : OV → Prop} (h : Gets (bif decide (v4 < (↑(List.length A) : Int)) then bif leInt (0 : Int) v4 && ltInt v4 (↑(List.length A) : Int) then kOpt (List.get?Internal A (Int.toNat v4)) fun (row : List AV) => bif 
  Nat.beq (List.length row) 4 then bif Nat.ble 4 (List.length row) then kTmC (List.take 4 row) fun (n n_1 : Int) (s : List UInt8) (rows : List (List AV)) => (kOpt (EVf (EV cfg) 10 [.agg 
  [.int .i64 n, .int .i64 n_1, .str s, .sl rows]]) fun (v : AV) => kTmV v fun (n n_2 : Int) (s : List UInt8) (rows : List (List AV)) => (bif Nat.ble (0 + nv3) (List.length h0) && fitsIn 
  (nv3 + 1) 56 then wq59_0 A (nv3 + 1) (IntKind.wrap .i64 (v4 + (1 : Int))) (List.append (List.take nv3 h0) [[.int .i64 n, .int .i64 n_2, .str s, .sl rows]]) else none)) else none else 
  none else none else some (OV.own 4 h0 0 nv3)) P) : Gets (wq59_0 A nv3 v4 h0) P :=
  Gets.ev (fun _ h => loop_step (cfg := cfg) (f := 35) (rd := none) (bs := 0) h) (Gets.eq (by kernel_rfl) h)
end Go.Proofs.Ytogebohommickaa
end

section
/-
  tenurekit.SameTerm tells whether two terms are the same. Own work.
  What is proved: contracts of the abstract evaluation; no condition but on a term's size.
-/
namespace Go.Proofs.Ytogebohommickaa
open Go.Av
theorem sameL_of (la lb : List Tm) (hlen : la.length < 1099511627776) (ih : ∀ a ∈ la, ∀ b, Gets (EVs (EV cfg) 17 [a.av, b.av]) (Tells (a = b))) : Gets (EVs (EV cfg) 40 [.sl (rowsT la), .sl (rowsT lb)]) (Tells (la = lb)) := by
  have loop : la.length = lb.length → ∀ (d i : Nat), i + d = la.length → la.take i = lb.take i → Gets (wq67_0 (rowsT la) (rowsT lb) i) (Tells (la = lb)) := by
    intro hl d
    induction d with
    | zero =>
      intro i hi ht
      refine wq67_0_step _ _ _ ?_
      rw [List.take_of_length_le (by omega), List.take_of_length_le (by omega)] at ht
      have h1 : ¬ i < la.length := by omega
      simp [h1, tells_bool]
      exact ht
    | succ d ihd =>
      intro i hi ht
      refine wq67_0_step _ _ _ ?_
      have hlt1 : i < la.length := by omega
      have hlt2 : i < lb.length := by omega
      have hx : la[i]? = some la[i] := List.getElem?_eq_getElem hlt1
      have hy : lb[i]? = some lb[i] := List.getElem?_eq_getElem hlt2
      have hix := ih la[i] (List.mem_of_getElem? hx) lb[i]
      have hta : la.take (i + 1) = la.take i ++ [la[i]] := by rw [List.take_add_one, hx]; rfl
      have htb : lb.take (i + 1) = lb.take i ++ [lb[i]] := by rw [List.take_add_one, hy]; rfl
      have hih := ihd (i + 1) (by omega)
      have hne : la[i] ≠ lb[i] → la ≠ lb := by intro h e; subst e; exact h rfl
      rw [hta, htb, ht] at hih
      rw [wrap_succ (n := la.length) (by omega) hlen]
      simp [hlt1, hlt2, hx, hy]
      refine Gets.bind hix ?_
      rintro _ ⟨b, rfl, hb⟩
      cases b with
      | true => simp; exact hih (by rw [hb.1 rfl])
      | false =>
        have : la ≠ lb := hne (fun e => by cases hb.2 e)
        simp [tells_bool, this]
  refine tenurekit_SameTerms_run _ _ ?_
  by_cases hl : la.length = lb.length
  · simp [hl]
    exact loop hl la.length 0 (by omega) (by simp)
  · have : la ≠ lb := fun e => hl (by rw [e])
    have hl' : ¬ ((la.length : Int) = lb.length) := by omega
    simp [bneD, hl', tells_bool, this]
theorem sameT_ev (a : Tm) : a.Ok → ∀ b : Tm, Gets (EVs (EV cfg) 17 [a.av, b.av]) (Tells (a = b)) := by
  induction a using Tm.ind with
  | _ k n s l ih =>
    intro hok b
    obtain ⟨k', n', s', l'⟩ := b
    have hl := sameL_of l l' hok.len (fun a ha b => ih a ha (hok.sub ha) b)
    rw [Tm.av_mk, Tm.av_mk]
    refine tenurekit_SameTerm_run _ _ _ _ _ _ _ _ ?_
    by_cases h1 : k = k'
    · by_cases h2 : n = n'
      · by_cases h3 : s = s'
        · subst h1 h2 h3
          simp
          refine Gets.bind hl ?_
          rintro _ ⟨b, rfl, hb⟩
          simp [tells_bool, hb]
        · simp [h1, h2, beqD, h3, tells_bool]
      · simp [h1, beqD, h2, tells_bool]
    · simp [beqD, h1, tells_bool]
theorem sameL_ev {la : List Tm} (h : OkL la) (hlen : la.length < 1099511627776) (lb : List Tm) : Gets (EVs (EV cfg) 40 [.sl (rowsT la), .sl (rowsT lb)]) (Tells (la = lb)) := sameL_of la lb hlen (fun a ha b => sameT_ev a (h.get ha) b)
theorem sameT_dec {a b : Tm} (h : a.Ok) {c : Bool} (hc : c = true ↔ a = b) : EVs (EV cfg) 17 [a.av, b.av] = some (.bool c) := by
  obtain ⟨_, h1, b', rfl, h2⟩ := sameT_ev a h b
  rw [h1]
  have : b' = c := by rw [Bool.eq_iff_iff]; exact h2.trans hc.symm
  rw [this]
end Go.Proofs.Ytogebohommickaa
end

section
/-
  What is left of the functions' evaluation at arguments with variables, printed by a program of ours (resid2.py) and checked by the kernel.
  What is proved: each equation as it stands; no condition.
-/
namespace Go.Proofs.Ytogebohommickaa
open Go.Av
set_option maxRecDepth 100000
set_option maxHeartbeats 0

noncomputable def Lj8_0 : Den := evC cfg (EV cfg) 8 none 0 (sub (bodyOf Try.f8) [1, 1, 1, 1, 1, 0, 1, 0, 0])
noncomputable def Aj8_0 : Ex × List AV × AH → Option AV := kAft (Cfg.keepOut cfg 8 7) (kRun cfg (EV cfg) (kfN cfg 6) 8 none 0 (kFinS cfg (Cfg.lift cfg 8 0) Try.f8.results.toList) ([.block 0, .seq (sub (bodyOf Try.f8) [1, 1, 1, 1, 1, 1])]))
noncomputable def Wj8_0 : List AV × AH → Option AV := fun p => kOpt (LOOP 0 (some [2, 3, 5, 6, 7, 8]) ([]) Lj8_0 p) Aj8_0
noncomputable def Lj8_1 : Den := evC cfg (EV cfg) 8 none 0 (sub (bodyOf Try.f8) [1, 1, 1, 1, 1, 1, 1, 1, 0, 1, 0, 0])
noncomputable def Aj8_1 : Ex × List AV × AH → Option AV := kAft (Cfg.keepOut cfg 8 18) (kRun cfg (EV cfg) (kfN cfg 6) 8 none 0 (kFinS cfg (Cfg.lift cfg 8 0) Try.f8.results.toList) ([.block 2, .seq (sub (bodyOf Try.f8) [1, 1, 1, 1, 1, 1, 1, 1, 1])]))
noncomputable def Wj8_1 : List AV × AH → Option AV := fun p => kOpt (LOOP 0 (some [2, 3, 5, 7, 11, 12, 13, 14]) ([]) Lj8_1 p) Aj8_1
noncomputable abbrev wj8_0 (ka : Int) (na : Int) (sa : List UInt8) (la : List (List AV)) (kb : Int) (nb : Int) (sb : List UInt8) (lb : List (List AV)) (b : Bool) : Option (AV) := Wj8_0  (((fx 148 [(2, AV.ptr (0 : Nat) (0 : Nat) (0 : Nat)), (3, AV.ptr (1 : Nat) (0 : Nat) (0 : Nat)), (5, AV.bool b), (6, AV.ms (2 : Nat) (0 : Nat) (8 : Nat)), (7, AV.ptr (3 : Nat) (0 : Nat) (0 : Nat)), (8, AV.int IntKind.i64 (0 : Int))]) : List AV), ([ABlk.rows false (4 : Nat) [[AV.int IntKind.i64 ka, AV.int IntKind.i64 na, AV.str sa, AV.sl la]], ABlk.rows false (4 : Nat) [[AV.int IntKind.i64 kb, AV.int IntKind.i64 nb, AV.str sb, AV.sl lb]], ABlk.rows true (1 : Nat) [[AV.str [(60 : UInt8)]], [AV.str [(61 : UInt8), (61 : UInt8)]], [AV.str [(62 : UInt8)]], [AV.str [(61 : UInt8), (60 : UInt8)]], [AV.str [(62 : UInt8), (61 : UInt8)]], [AV.str [(47 : UInt8), (61 : UInt8)]], [AV.str [(61 : UInt8), (58 : UInt8), (61 : UInt8)]], [AV.str [(61 : UInt8), (47 : UInt8), (61 : UInt8)]]], ABlk.rows false (8 : Nat) [[AV.bool false, AV.bool false, AV.bool false, AV.bool false, AV.bool false, AV.bool false, AV.bool false, AV.bool false]]] : AH))
noncomputable abbrev wj8_0a (ka : Int) (na : Int) (sa : List UInt8) (la : List (List AV)) (kb : Int) (nb : Int) (sb : List UInt8) (lb : List (List AV)) (b : Bool) (b' : Bool) : Option (AV) := Wj8_0  (((fx 148 [(2, AV.ptr (0 : Nat) (0 : Nat) (0 : Nat)), (3, AV.ptr (1 : Nat) (0 : Nat) (0 : Nat)), (5, AV.bool b), (6, AV.ms (2 : Nat) (0 : Nat) (8 : Nat)), (7, AV.ptr (3 : Nat) (0 : Nat) (0 : Nat)), (8, AV.int IntKind.i64 (1 : Int))]) : List AV), ([ABlk.rows false (4 : Nat) [[AV.int IntKind.i64 ka, AV.int IntKind.i64 na, AV.str sa, AV.sl la]], ABlk.rows false (4 : Nat) [[AV.int IntKind.i64 kb, AV.int IntKind.i64 nb, AV.str sb, AV.sl lb]], ABlk.rows true (1 : Nat) [[AV.str [(60 : UInt8)]], [AV.str [(61 : UInt8), (61 : UInt8)]], [AV.str [(62 : UInt8)]], [AV.str [(61 : UInt8), (60 : UInt8)]], [AV.str [(62 : UInt8), (61 : UInt8)]], [AV.str [(47 : UInt8), (61 : UInt8)]], [AV.str [(61 : UInt8), (58 : UInt8), (61 : UInt8)]], [AV.str [(61 : UInt8), (47 : UInt8), (61 : UInt8)]]], ABlk.rows false (8 : Nat) [[AV.bool b', AV.bool false, AV.bool false, AV.bool false, AV.bool false, AV.bool false, AV.bool false, AV.bool false]]] : AH))
noncomputable abbrev wj8_0b (ka : Int) (na : Int) (sa : List UInt8) (la : List (List AV)) (kb : Int) (nb : Int) (sb : List UInt8) (lb : List (List AV)) (b : Bool) (b' : Bool) (b'' : Bool) : Option (AV) := Wj8_0  (((fx 148 [(2, AV.ptr (0 : Nat) (0 : Nat) (0 : Nat)), (3, AV.ptr (1 : Nat) (0 : Nat) (0 : Nat)), (5, AV.bool b), (6, AV.ms (2 : Nat) (0 : Nat) (8 : Nat)), (7, AV.ptr (3 : Nat) (0 : Nat) (0 : Nat)), (8, AV.int IntKind.i64 (2 : Int))]) : List AV), ([ABlk.rows false (4 : Nat) [[AV.int IntKind.i64 ka, AV.int IntKind.i64 na, AV.str sa, AV.sl la]], ABlk.rows false (4 : Nat) [[AV.int IntKind.i64 kb, AV.int IntKind.i64 nb, AV.str sb, AV.sl lb]], ABlk.rows true (1 : Nat) [[AV.str [(60 : UInt8)]], [AV.str [(61 : UInt8), (61 : UInt8)]], [AV.str [(62 : UInt8)]], [AV.str [(61 : UInt8), (60 : UInt8)]], [AV.str [(62 : UInt8), (61 : UInt8)]], [AV.str [(47 : UInt8), (61 : UInt8)]], [AV.str [(61 : UInt8), (58 : UInt8), (61 : UInt8)]], [AV.str [(61 : UInt8), (47 : UInt8), (61 : UInt8)]]], ABlk.rows false (8 : Nat) [[AV.bool b', AV.bool b'', AV.bool false, AV.bool false, AV.bool false, AV.bool false, AV.bool false, AV.bool false]]] : AH))
noncomputable abbrev wj8_0c (ka : Int) (na : Int) (sa : List UInt8) (la : List (List AV)) (kb : Int) (nb : Int) (sb : List UInt8) (lb : List (List AV)) (b : Bool) (b' : Bool) (b'' : Bool) (b''' : Bool) : Option (AV) := Wj8_0  (((fx 148 [(2, AV.ptr (0 : Nat) (0 : Nat) (0 : Nat)), (3, AV.ptr (1 : Nat) (0 : Nat) (0 : Nat)), (5, AV.bool b), (6, AV.ms (2 : Nat) (0 : Nat) (8 : Nat)), (7, AV.ptr (3 : Nat) (0 : Nat) (0 : Nat)), (8, AV.int IntKind.i64 (3 : Int))]) : List AV), ([ABlk.rows false (4 : Nat) [[AV.int IntKind.i64 ka, AV.int IntKind.i64 na, AV.str sa, AV.sl la]], ABlk.rows false (4 : Nat) [[AV.int IntKind.i64 kb, AV.int IntKind.i64 nb, AV.str sb, AV.sl lb]], ABlk.rows true (1 : Nat) [[AV.str [(60 : UInt8)]], [AV.str [(61 : UInt8), (61 : UInt8)]], [AV.str [(62 : UInt8)]], [AV.str [(61 : UInt8), (60 : UInt8)]], [AV.str [(62 : UInt8), (61 : UInt8)]], [AV.str [(47 : UInt8), (61 : UInt8)]], [AV.str [(61 : UInt8), (58 : UInt8), (61 : UInt8)]], [AV.str [(61 : UInt8), (47 : UInt8), (61 : UInt8)]]], ABlk.rows false (8 : Nat) [[AV.bool b', AV.bool b'', AV.bool b''', AV.bool false, AV.bool false, AV.bool false, AV.bool false, AV.bool false]]] : AH))
noncomputable abbrev wj8_0d (ka : Int) (na : Int) (sa : List UInt8) (la : List (List AV)) (kb : Int) (nb : Int) (sb : List UInt8) (lb : List (List AV)) (b : Bool) (b' : Bool) (b'' : Bool) (b''' : Bool) (b'''' : Bool) : Option (AV) := Wj8_0  (((fx 148 [(2, AV.ptr (0 : Nat) (0 : Nat) (0 : Nat)), (3, AV.ptr (1 : Nat) (0 : Nat) (0 : Nat)), (5, AV.bool b), (6, AV.ms (2 : Nat) (0 : Nat) (8 : Nat)), (7, AV.ptr (3 : Nat) (0 : Nat) (0 : Nat)), (8, AV.int IntKind.i64 (4 : Int))]) : List AV), ([ABlk.rows false (4 : Nat) [[AV.int IntKind.i64 ka, AV.int IntKind.i64 na, AV.str sa, AV.sl la]], ABlk.rows false (4 : Nat) [[AV.int IntKind.i64 kb, AV.int IntKind.i64 nb, AV.str sb, AV.sl lb]], ABlk.rows true (1 : Nat) [[AV.str [(60 : UInt8)]], [AV.str [(61 : UInt8), (61 : UInt8)]], [AV.str [(62 : UInt8)]], [AV.str [(61 : UInt8), (60 : UInt8)]], [AV.str [(62 : UInt8), (61 : UInt8)]], [AV.str [(47 : UInt8), (61 : UInt8)]], [AV.str [(61 : UInt8), (58 : UInt8), (61 : UInt8)]], [AV.str [(61 : UInt8), (47 : UInt8), (61 : UInt8)]]], ABlk.rows false (8 : Nat) [[AV.bool b', AV.bool b'', AV.bool b''', AV.bool b'''', AV.bool false, AV.bool false, AV.bool false, AV.bool false]]] : AH))
noncomputable abbrev wj8_0e (ka : Int) (na : Int) (sa : List UInt8) (la : List (List AV)) (kb : Int) (nb : Int) (sb : List UInt8) (lb : List (List AV)) (b : Bool) (b' : Bool) (b'' : Bool) (b''' : Bool) (b'''' : Bool) (b''''' : Bool) : Option (AV) := Wj8_0  (((fx 148 [(2, AV.ptr (0 : Nat) (0 : Nat) (0 : Nat)), (3, AV.ptr (1 : Nat) (0 : Nat) (0 : Nat)), (5, AV.bool b), (6, AV.ms (2 : Nat) (0 : Nat) (8 : Nat)), (7, AV.ptr (3 : Nat) (0 : Nat) (0 : Nat)), (8, AV.int IntKind.i64 (5 : Int))]) : List AV), ([ABlk.rows false (4 : Nat) [[AV.int IntKind.i64 ka, AV.int IntKind.i64 na, AV.str sa, AV.sl la]], ABlk.rows false (4 : Nat) [[AV.int IntKind.i64 kb, AV.int IntKind.i64 nb, AV.str sb, AV.sl lb]], ABlk.rows true (1 : Nat) [[AV.str [(60 : UInt8)]], [AV.str [(61 : UInt8), (61 : UInt8)]], [AV.str [(62 : UInt8)]], [AV.str [(61 : UInt8), (60 : UInt8)]], [AV.str [(62 : UInt8), (61 : UInt8)]], [AV.str [(47 : UInt8), (61 : UInt8)]], [AV.str [(61 : UInt8), (58 : UInt8), (61 : UInt8)]], [AV.str [(61 : UInt8), (47 : UInt8), (61 : UInt8)]]], ABlk.rows false (8 : Nat) [[AV.bool b', AV.bool b'', AV.bool b''', AV.bool b'''', AV.bool b''''', AV.bool false, AV.bool false, AV.bool false]]] : AH))
noncomputable abbrev wj8_0f (ka : Int) (na : Int) (sa : List UInt8) (la : List (List AV)) (kb : Int) (nb : Int) (sb : List UInt8) (lb : List (List AV)) (b : Bool) (b' : Bool) (b'' : Bool) (b''' : Bool) (b'''' : Bool) (b''''' : Bool) (b'''''' : Bool) : Option (AV) := Wj8_0  (((fx 148 [(2, AV.ptr (0 : Nat) (0 : Nat) (0 : Nat)), (3, AV.ptr (1 : Nat) (0 : Nat) (0 : Nat)), (5, AV.bool b), (6, AV.ms (2 : Nat) (0 : Nat) (8 : Nat)), (7, AV.ptr (3 : Nat) (0 : Nat) (0 : Nat)), (8, AV.int IntKind.i64 (6 : Int))]) : List AV), ([ABlk.rows false (4 : Nat) [[AV.int IntKind.i64 ka, AV.int IntKind.i64 na, AV.str sa, AV.sl la]], ABlk.rows false (4 : Nat) [[AV.int IntKind.i64 kb, AV.int IntKind.i64 nb, AV.str sb, AV.sl lb]], ABlk.rows true (1 : Nat) [[AV.str [(60 : UInt8)]], [AV.str [(61 : UInt8), (61 : UInt8)]], [AV.str [(62 : UInt8)]], [AV.str [(61 : UInt8), (60 : UInt8)]], [AV.str [(62 : UInt8), (61 : UInt8)]], [AV.str [(47 : UInt8), (61 : UInt8)]], [AV.str [(61 : UInt8), (58 : UInt8), (61 : UInt8)]], [AV.str [(61 : UInt8), (47 : UInt8), (61 : UInt8)]]], ABlk.rows false (8 : Nat) [[AV.bool b', AV.bool b'', AV.bool b''', AV.bool b'''', AV.bool b''''', AV.bool b'''''', AV.bool false, AV.bool false]]] : AH))
noncomputable abbrev wj8_0g (ka : Int) (na : Int) (sa : List UInt8) (la : List (List AV)) (kb : Int) (nb : Int) (sb : List UInt8) (lb : List (List AV)) (b : Bool) (b' : Bool) (b'' : Bool) (b''' : Bool) (b'''' : Bool) (b''''' : Bool) (b'''''' : Bool) (b''''''' : Bool) : Option (AV) := Wj8_0  (((fx 148 [(2, AV.ptr (0 : Nat) (0 : Nat) (0 : Nat)), (3, AV.ptr (1 : Nat) (0 : Nat) (0 : Nat)), (5, AV.bool b), (6, AV.ms (2 : Nat) (0 : Nat) (8 : Nat)), (7, AV.ptr (3 : Nat) (0 : Nat) (0 : Nat)), (8, AV.int IntKind.i64 (7 : Int))]) : List AV), ([ABlk.rows false (4 : Nat) [[AV.int IntKind.i64 ka, AV.int IntKind.i64 na, AV.str sa, AV.sl la]], ABlk.rows false (4 : Nat) [[AV.int IntKind.i64 kb, AV.int IntKind.i64 nb, AV.str sb, AV.sl lb]], ABlk.rows true (1 : Nat) [[AV.str [(60 : UInt8)]], [AV.str [(61 : UInt8), (61 : UInt8)]], [AV.str [(62 : UInt8)]], [AV.str [(61 : UInt8), (60 : UInt8)]], [AV.str [(62 : UInt8), (61 : UInt8)]], [AV.str [(47 : UInt8), (61 : UInt8)]], [AV.str [(61 : UInt8), (58 : UInt8), (61 : UInt8)]], [AV.str [(61 : UInt8), (47 : UInt8), (61 : UInt8)]]], ABlk.rows false (8 : Nat) [[AV.bool b', AV.bool b'', AV.bool b''', AV.bool b'''', AV.bool b''''', AV.bool b'''''', AV.bool b''''''', AV.bool false]]] : AH))
noncomputable abbrev wj8_0h (ka : Int) (na : Int) (sa : List UInt8) (la : List (List AV)) (kb : Int) (nb : Int) (sb : List UInt8) (lb : List (List AV)) (b : Bool) (b' : Bool) (b'' : Bool) (b''' : Bool) (b'''' : Bool) (b''''' : Bool) (b'''''' : Bool) (b''''''' : Bool) (b'''''''' : Bool) : Option (AV) := Wj8_0  (((fx 148 [(2, AV.ptr (0 : Nat) (0 : Nat) (0 : Nat)), (3, AV.ptr (1 : Nat) (0 : Nat) (0 : Nat)), (5, AV.bool b), (6, AV.ms (2 : Nat) (0 : Nat) (8 : Nat)), (7, AV.ptr (3 : Nat) (0 : Nat) (0 : Nat)), (8, AV.int IntKind.i64 (8 : Int))]) : List AV), ([ABlk.rows false (4 : Nat) [[AV.int IntKind.i64 ka, AV.int IntKind.i64 na, AV.str sa, AV.sl la]], ABlk.rows false (4 : Nat) [[AV.int IntKind.i64 kb, AV.int IntKind.i64 nb, AV.str sb, AV.sl lb]], ABlk.rows true (1 : Nat) [[AV.str [(60 : UInt8)]], [AV.str [(61 : UInt8), (61 : UInt8)]], [AV.str [(62 : UInt8)]], [AV.str [(61 : UInt8), (60 : UInt8)]], [AV.str [(62 : UInt8), (61 : UInt8)]], [AV.str [(47 : UInt8), (61 : UInt8)]], [AV.str [(61 : UInt8), (58 : UInt8), (61 : UInt8)]], [AV.str [(61 : UInt8), (47 : UInt8), (61 : UInt8)]]], ABlk.rows false (8 : Nat) [[AV.bool b', AV.bool b'', AV.bool b''', AV.bool b'''', AV.bool b''''', AV.bool b'''''', AV.bool b''''''', AV.bool b'''''''']]] : AH))
noncomputable abbrev wj8_1 (b : Bool) (n : Int) (v13 : Int) (v14 : Int) (c0_0 : Int) (c0_1 : Int) (c0_2 : List UInt8) (c0_3 : List (List AV)) (c1_0 : Int) (c1_1 : Int) (c1_2 : List UInt8) (c1_3 : List (List AV)) (c2_0 : Bool) (c2_1 : Bool) (c2_2 : Bool) (c2_3 : Bool) (c2_4 : Bool) (c2_5 : Bool) (c2_6 : Bool) (c2_7 : Bool) (c3_0 : Int) (c3_1 : Int) (c3_2 : List UInt8) (c3_3 : List (List AV)) : Option (AV) := Wj8_1  (((fx 148 [(2, AV.ptr (0 : Nat) (0 : Nat) (0 : Nat)), (3, AV.ptr (1 : Nat) (0 : Nat) (0 : Nat)), (5, AV.bool b), (7, AV.ptr (2 : Nat) (0 : Nat) (0 : Nat)), (11, AV.ptr (3 : Nat) (0 : Nat) (0 : Nat)), (12, AV.int IntKind.i64 n), (13, AV.int IntKind.i64 v13), (14, AV.int IntKind.i64 v14)]) : List AV), ([ABlk.rows false (4 : Nat) [[AV.int IntKind.i64 c0_0, AV.int IntKind.i64 c0_1, AV.str c0_2, AV.sl c0_3]], ABlk.rows false (4 : Nat) [[AV.int IntKind.i64 c1_0, AV.int IntKind.i64 c1_1, AV.str c1_2, AV.sl c1_3]], ABlk.rows false (8 : Nat) [[AV.bool c2_0, AV.bool c2_1, AV.bool c2_2, AV.bool c2_3, AV.bool c2_4, AV.bool c2_5, AV.bool c2_6, AV.bool c2_7]], ABlk.rows false (4 : Nat) [[AV.int IntKind.i64 c3_0, AV.int IntKind.i64 c3_1, AV.str c3_2, AV.sl c3_3]]] : AH))
theorem tenurelaw17_GuardOrders_run (ka : Int) (na : Int) (sa : List UInt8) (la : List (List AV)) (kb : Int) (nb : Int) (sb : List UInt8) (lb : List (List AV)) {P : AV → Prop} (h : Gets (kOpt (EVs (EV cfg) 19 []) fun (v : AV) => kBool v fun (b : Bool) => kOpt (EVs (EV cfg) 9 [.sl [[.int .i64 ka, .int .i64 na, .str sa, .sl la], [.int .i64 kb, .int .i64 nb, .str sb, .sl 
  lb]], .agg [.int .i64 (0 : Int), .int .i64 (0 : Int), .str [], .sl [], .sl [], .int .i64 (0 : Int)]]) fun (v : AV) => kBool v fun (b_1 : Bool) => bif b_1 then some (.bool b) else wj8_0 
  ka na sa la kb nb sb lb b) P) : Gets (EVs (EV cfg) 8 ([AV.agg [AV.int IntKind.i64 ka, AV.int IntKind.i64 na, AV.str sa, AV.sl la], AV.agg [AV.int IntKind.i64 kb, AV.int IntKind.i64 nb, AV.str sb, AV.sl lb]] : List AV)) P :=
  Gets.ev (fun _ h => funS rfl rfl Try.func8 rfl h) (Gets.eq (by kernel_rfl) h)
theorem wj8_0_step (ka : Int) (na : Int) (sa : List UInt8) (la : List (List AV)) (kb : Int) (nb : Int) (sb : List UInt8) (lb : List (List AV)) (b : Bool) {P : AV → Prop} (h : Gets (kOpt (EVf (EV cfg) 33 [.str [(60 : UInt8)], .sl [[.int .i64 ka, .int .i64 na, .str sa, .sl la], [.int .i64 kb, .int .i64 nb, .str sb, .sl lb]], .int .i64 (1 : Int)]) fun (v : AV) => 
  kTup v fun (cs : List AV) => kCons cs fun (c : AV) (cs : List AV) => kAgg c fun (cs_1 : List AV) => kCons cs_1 fun (c : AV) (cs_2 : List AV) => kInt .i64 c fun (n : Int) => kCons cs_2 
  fun (c : AV) (cs_3 : List AV) => kInt .i64 c fun (n_1 : Int) => kCons cs_3 fun (c : AV) (cs_4 : List AV) => kStr c fun (s : List UInt8) => kCons cs_4 fun (c : AV) (cs_5 : List AV) => 
  kSl c fun (rows : List (List AV)) => kNil cs_5 (kCons cs fun (c : AV) (cs : List AV) => kInt .i64 c fun (n_2 : Int) => kNil cs (bif n_2 != (0 : Int) then bif b then bif n_2 == (2 : 
  Int) then some (.bool true) else some (.bool false) else some (.bool false) else kOpt (EVf (EV cfg) 21 [.str [(116 : UInt8), (114 : UInt8), (117 : UInt8), (101 : UInt8)]]) fun (v : 
  AV) => kTmV v fun (n_3 n_4 : Int) (s_1 : List UInt8) (rows_1 : List (List AV)) => (kOpt (EVs (EV cfg) 17 [.agg [.int .i64 n, .int .i64 n_1, .str s, .sl rows], .agg [.int .i64 n_3, .int 
  .i64 n_4, .str s_1, .sl rows_1]]) fun (v : AV) => kBool v fun (b_1 : Bool) => bif !b_1 then kOpt (EVf (EV cfg) 21 [.str [(102 : UInt8), (97 : UInt8), (108 : UInt8), (115 : UInt8), (101 
  : UInt8)]]) fun (v : AV) => kTmV v fun (n_5 n_6 : Int) (s_2 : List UInt8) (rows_2 : List (List AV)) => (kOpt (EVs (EV cfg) 17 [.agg [.int .i64 n, .int .i64 n_1, .str s, .sl rows], .agg 
  [.int .i64 n_5, .int .i64 n_6, .str s_2, .sl rows_2]]) fun (v : AV) => kBool v fun (b_2 : Bool) => bif !b_2 then some (.bool false) else wj8_0a ka na sa la kb nb sb lb b b_1) else wj8_0a 
  ka na sa la kb nb sb lb b b_1)))) P) : Gets (wj8_0 ka na sa la kb nb sb lb b) P :=
  Gets.ev (fun _ h => loop_step (cfg := cfg) (f := 8) (rd := none) (bs := 0) h) (Gets.eq (by kernel_rfl) h)
theorem wj8_0a_step (ka : Int) (na : Int) (sa : List UInt8) (la : List (List AV)) (kb : Int) (nb : Int) (sb : List UInt8) (lb : List (List AV)) (b : Bool) (b' : Bool) {P : AV → Prop} (h : Gets (kOpt (EVf (EV cfg) 33 [.str [(61 : UInt8), (61 : UInt8)], .sl [[.int .i64 ka, .int .i64 na, .str sa, .sl la], [.int .i64 kb, .int .i64 nb, .str sb, .sl lb]], .int .i64 (1 : Int)]) fun 
  (v : AV) => kTup v fun (cs : List AV) => kCons cs fun (c : AV) (cs : List AV) => kAgg c fun (cs_1 : List AV) => kCons cs_1 fun (c : AV) (cs_2 : List AV) => kInt .i64 c fun (n : Int) 
  => kCons cs_2 fun (c : AV) (cs_3 : List AV) => kInt .i64 c fun (n_1 : Int) => kCons cs_3 fun (c : AV) (cs_4 : List AV) => kStr c fun (s : List UInt8) => kCons cs_4 fun (c : AV) (cs_5 
  : List AV) => kSl c fun (rows : List (List AV)) => kNil cs_5 (kCons cs fun (c : AV) (cs : List AV) => kInt .i64 c fun (n_2 : Int) => kNil cs (bif n_2 != (0 : Int) then bif b then bif 
  n_2 == (2 : Int) then some (.bool false) else some (.bool false) else some (.bool false) else kOpt (EVf (EV cfg) 21 [.str [(116 : UInt8), (114 : UInt8), (117 : UInt8), (101 : UInt8)]]) 
  fun (v : AV) => kTmV v fun (n_3 n_4 : Int) (s_1 : List UInt8) (rows_1 : List (List AV)) => (kOpt (EVs (EV cfg) 17 [.agg [.int .i64 n, .int .i64 n_1, .str s, .sl rows], .agg [.int .i64 
  n_3, .int .i64 n_4, .str s_1, .sl rows_1]]) fun (v : AV) => kBool v fun (b_1 : Bool) => bif !b_1 then kOpt (EVf (EV cfg) 21 [.str [(102 : UInt8), (97 : UInt8), (108 : UInt8), (115 : 
  UInt8), (101 : UInt8)]]) fun (v : AV) => kTmV v fun (n_5 n_6 : Int) (s_2 : List UInt8) (rows_2 : List (List AV)) => (kOpt (EVs (EV cfg) 17 [.agg [.int .i64 n, .int .i64 n_1, .str s, 
  .sl rows], .agg [.int .i64 n_5, .int .i64 n_6, .str s_2, .sl rows_2]]) fun (v : AV) => kBool v fun (b_2 : Bool) => bif !b_2 then some (.bool false) else wj8_0b ka na sa la kb nb sb 
  lb b b' b_1) else wj8_0b ka na sa la kb nb sb lb b b' b_1)))) P) : Gets (wj8_0a ka na sa la kb nb sb lb b b') P :=
  Gets.ev (fun _ h => loop_step (cfg := cfg) (f := 8) (rd := none) (bs := 0) h) (Gets.eq (by kernel_rfl) h)
theorem wj8_0b_step (ka : Int) (na : Int) (sa : List UInt8) (la : List (List AV)) (kb : Int) (nb : Int) (sb : List UInt8) (lb : List (List AV)) (b : Bool) (b' : Bool) (b'' : Bool) {P : AV → Prop} (h : Gets (kOpt (EVf (EV cfg) 33 [.str [(62 : UInt8)], .sl [[.int .i64 ka, .int .i64 na, .str sa, .sl la], [.int .i64 kb, .int .i64 nb, .str sb, .sl lb]], .int .i64 (1 : Int)]) fun (v : AV) => 
  kTup v fun (cs : List AV) => kCons cs fun (c : AV) (cs : List AV) => kAgg c fun (cs_1 : List AV) => kCons cs_1 fun (c : AV) (cs_2 : List AV) => kInt .i64 c fun (n : Int) => kCons cs_2 
  fun (c : AV) (cs_3 : List AV) => kInt .i64 c fun (n_1 : Int) => kCons cs_3 fun (c : AV) (cs_4 : List AV) => kStr c fun (s : List UInt8) => kCons cs_4 fun (c : AV) (cs_5 : List AV) => 
  kSl c fun (rows : List (List AV)) => kNil cs_5 (kCons cs fun (c : AV) (cs : List AV) => kInt .i64 c fun (n_2 : Int) => kNil cs (bif n_2 != (0 : Int) then bif b then bif n_2 == (2 : 
  Int) then some (.bool false) else some (.bool false) else some (.bool false) else kOpt (EVf (EV cfg) 21 [.str [(116 : UInt8), (114 : UInt8), (117 : UInt8), (101 : UInt8)]]) fun (v : 
  AV) => kTmV v fun (n_3 n_4 : Int) (s_1 : List UInt8) (rows_1 : List (List AV)) => (kOpt (EVs (EV cfg) 17 [.agg [.int .i64 n, .int .i64 n_1, .str s, .sl rows], .agg [.int .i64 n_3, .int 
  .i64 n_4, .str s_1, .sl rows_1]]) fun (v : AV) => kBool v fun (b_1 : Bool) => bif !b_1 then kOpt (EVf (EV cfg) 21 [.str [(102 : UInt8), (97 : UInt8), (108 : UInt8), (115 : UInt8), (101 
  : UInt8)]]) fun (v : AV) => kTmV v fun (n_5 n_6 : Int) (s_2 : List UInt8) (rows_2 : List (List AV)) => (kOpt (EVs (EV cfg) 17 [.agg [.int .i64 n, .int .i64 n_1, .str s, .sl rows], .agg 
  [.int .i64 n_5, .int .i64 n_6, .str s_2, .sl rows_2]]) fun (v : AV) => kBool v fun (b_2 : Bool) => bif !b_2 then some (.bool false) else wj8_0c ka na sa la kb nb sb lb b b' b'' b_1) 
  else wj8_0c ka na sa la kb nb sb lb b b' b'' b_1)))) P) : Gets (wj8_0b ka na sa la kb nb sb lb b b' b'') P :=
  Gets.ev (fun _ h => loop_step (cfg := cfg) (f := 8) (rd := none) (bs := 0) h) (Gets.eq (by kernel_rfl) h)
theorem wj8_0c_step (ka : Int) (na : Int) (sa : List UInt8) (la : List (List AV)) (kb : Int) (nb : Int) (sb : List UInt8) (lb : List (List AV)) (b : Bool) (b' : Bool) (b'' : Bool) (b''' : Bool) {P : AV → Prop} (h : Gets (kOpt (EVf (EV cfg) 33 [.str [(61 : UInt8), (60 : UInt8)], .sl [[.int .i64 ka, .int .i64 na, .str sa, .sl la], [.int .i64 kb, .int .i64 nb, .str sb, .sl lb]], .int .i64 (1 : Int)]) fun 
  (v : AV) => kTup v fun (cs : List AV) => kCons cs fun (c : AV) (cs : List AV) => kAgg c fun (cs_1 : List AV) => kCons cs_1 fun (c : AV) (cs_2 : List AV) => kInt .i64 c fun (n : Int) 
  => kCons cs_2 fun (c : AV) (cs_3 : List AV) => kInt .i64 c fun (n_1 : Int) => kCons cs_3 fun (c : AV) (cs_4 : List AV) => kStr c fun (s : List UInt8) => kCons cs_4 fun (c : AV) (cs_5 
  : List AV) => kSl c fun (rows : List (List AV)) => kNil cs_5 (kCons cs fun (c : AV) (cs : List AV) => kInt .i64 c fun (n_2 : Int) => kNil cs (bif n_2 != (0 : Int) then bif b then bif 
  n_2 == (2 : Int) then some (.bool false) else some (.bool false) else some (.bool false) else kOpt (EVf (EV cfg) 21 [.str [(116 : UInt8), (114 : UInt8), (117 : UInt8), (101 : UInt8)]]) 
  fun (v : AV) => kTmV v fun (n_3 n_4 : Int) (s_1 : List UInt8) (rows_1 : List (List AV)) => (kOpt (EVs (EV cfg) 17 [.agg [.int .i64 n, .int .i64 n_1, .str s, .sl rows], .agg [.int .i64 
  n_3, .int .i64 n_4, .str s_1, .sl rows_1]]) fun (v : AV) => kBool v fun (b_1 : Bool) => bif !b_1 then kOpt (EVf (EV cfg) 21 [.str [(102 : UInt8), (97 : UInt8), (108 : UInt8), (115 : 
  UInt8), (101 : UInt8)]]) fun (v : AV) => kTmV v fun (n_5 n_6 : Int) (s_2 : List UInt8) (rows_2 : List (List AV)) => (kOpt (EVs (EV cfg) 17 [.agg [.int .i64 n, .int .i64 n_1, .str s, 
  .sl rows], .agg [.int .i64 n_5, .int .i64 n_6, .str s_2, .sl rows_2]]) fun (v : AV) => kBool v fun (b_2 : Bool) => bif !b_2 then some (.bool false) else wj8_0d ka na sa la kb nb sb 
  lb b b' b'' b''' b_1) else wj8_0d ka na sa la kb nb sb lb b b' b'' b''' b_1)))) P) : Gets (wj8_0c ka na sa la kb nb sb lb b b' b'' b''') P :=
  Gets.ev (fun _ h => loop_step (cfg := cfg) (f := 8) (rd := none) (bs := 0) h) (Gets.eq (by kernel_rfl) h)
theorem wj8_0d_step (ka : Int) (na : Int) (sa : List UInt8) (la : List (List AV)) (kb : Int) (nb : Int) (sb : List UInt8) (lb : List (List AV)) (b : Bool) (b' : Bool) (b'' : Bool) (b''' : Bool) (b'''' : Bool) {P : AV → Prop} (h : Gets (kOpt (EVf (EV cfg) 33 [.str [(62 : UInt8), (61 : UInt8)], .sl [[.int .i64 ka, .int .i64 na, .str sa, .sl la], [.int .i64 kb, .int .i64 nb, .str sb, .sl lb]], .int .i64 (1 : Int)]) fun 
  (v : AV) => kTup v fun (cs : List AV) => kCons cs fun (c : AV) (cs : List AV) => kAgg c fun (cs_1 : List AV) => kCons cs_1 fun (c : AV) (cs_2 : List AV) => kInt .i64 c fun (n : Int) 
  => kCons cs_2 fun (c : AV) (cs_3 : List AV) => kInt .i64 c fun (n_1 : Int) => kCons cs_3 fun (c : AV) (cs_4 : List AV) => kStr c fun (s : List UInt8) => kCons cs_4 fun (c : AV) (cs_5 
  : List AV) => kSl c fun (rows : List (List AV)) => kNil cs_5 (kCons cs fun (c : AV) (cs : List AV) => kInt .i64 c fun (n_2 : Int) => kNil cs (bif n_2 != (0 : Int) then bif b then bif 
  n_2 == (2 : Int) then some (.bool false) else some (.bool false) else some (.bool false) else kOpt (EVf (EV cfg) 21 [.str [(116 : UInt8), (114 : UInt8), (117 : UInt8), (101 : UInt8)]]) 
  fun (v : AV) => kTmV v fun (n_3 n_4 : Int) (s_1 : List UInt8) (rows_1 : List (List AV)) => (kOpt (EVs (EV cfg) 17 [.agg [.int .i64 n, .int .i64 n_1, .str s, .sl rows], .agg [.int .i64 
  n_3, .int .i64 n_4, .str s_1, .sl rows_1]]) fun (v : AV) => kBool v fun (b_1 : Bool) => bif !b_1 then kOpt (EVf (EV cfg) 21 [.str [(102 : UInt8), (97 : UInt8), (108 : UInt8), (115 : 
  UInt8), (101 : UInt8)]]) fun (v : AV) => kTmV v fun (n_5 n_6 : Int) (s_2 : List UInt8) (rows_2 : List (List AV)) => (kOpt (EVs (EV cfg) 17 [.agg [.int .i64 n, .int .i64 n_1, .str s, 
  .sl rows], .agg [.int .i64 n_5, .int .i64 n_6, .str s_2, .sl rows_2]]) fun (v : AV) => kBool v fun (b_2 : Bool) => bif !b_2 then some (.bool false) else wj8_0e ka na sa la kb nb sb 
  lb b b' b'' b''' b'''' b_1) else wj8_0e ka na sa la kb nb sb lb b b' b'' b''' b'''' b_1)))) P) : Gets (wj8_0d ka na sa la kb nb sb lb b b' b'' b''' b'''') P :=
  Gets.ev (fun _ h => loop_step (cfg := cfg) (f := 8) (rd := none) (bs := 0) h) (Gets.eq (by kernel_rfl) h)
theorem wj8_0e_step (ka : Int) (na : Int) (sa : List UInt8) (la : List (List AV)) (kb : Int) (nb : Int) (sb : List UInt8) (lb : List (List AV)) (b : Bool) (b' : Bool) (b'' : Bool) (b''' : Bool) (b'''' : Bool) (b''''' : Bool) {P : AV → Prop} (h : Gets (kOpt (EVf (EV cfg) 33 [.str [(47 : UInt8), (61 : UInt8)], .sl [[.int .i64 ka, .int .i64 na, .str sa, .sl la], [.int .i64 kb, .int .i64 nb, .str sb, .sl lb]], .int .i64 (1 : Int)]) fun 
  (v : AV) => kTup v fun (cs : List AV) => kCons cs fun (c : AV) (cs : List AV) => kAgg c fun (cs_1 : List AV) => kCons cs_1 fun (c : AV) (cs_2 : List AV) => kInt .i64 c fun (n : Int) 
  => kCons cs_2 fun (c : AV) (cs_3 : List AV) => kInt .i64 c fun (n_1 : Int) => kCons cs_3 fun (c : AV) (cs_4 : List AV) => kStr c fun (s : List UInt8) => kCons cs_4 fun (c : AV) (cs_5 
  : List AV) => kSl c fun (rows : List (List AV)) => kNil cs_5 (kCons cs fun (c : AV) (cs : List AV) => kInt .i64 c fun (n_2 : Int) => kNil cs (bif n_2 != (0 : Int) then bif b then bif 
  n_2 == (2 : Int) then some (.bool false) else some (.bool false) else some (.bool false) else kOpt (EVf (EV cfg) 21 [.str [(116 : UInt8), (114 : UInt8), (117 : UInt8), (101 : UInt8)]]) 
  fun (v : AV) => kTmV v fun (n_3 n_4 : Int) (s_1 : List UInt8) (rows_1 : List (List AV)) => (kOpt (EVs (EV cfg) 17 [.agg [.int .i64 n, .int .i64 n_1, .str s, .sl rows], .agg [.int .i64 
  n_3, .int .i64 n_4, .str s_1, .sl rows_1]]) fun (v : AV) => kBool v fun (b_1 : Bool) => bif !b_1 then kOpt (EVf (EV cfg) 21 [.str [(102 : UInt8), (97 : UInt8), (108 : UInt8), (115 : 
  UInt8), (101 : UInt8)]]) fun (v : AV) => kTmV v fun (n_5 n_6 : Int) (s_2 : List UInt8) (rows_2 : List (List AV)) => (kOpt (EVs (EV cfg) 17 [.agg [.int .i64 n, .int .i64 n_1, .str s, 
  .sl rows], .agg [.int .i64 n_5, .int .i64 n_6, .str s_2, .sl rows_2]]) fun (v : AV) => kBool v fun (b_2 : Bool) => bif !b_2 then some (.bool false) else wj8_0f ka na sa la kb nb sb 
  lb b b' b'' b''' b'''' b''''' b_1) else wj8_0f ka na sa la kb nb sb lb b b' b'' b''' b'''' b''''' b_1)))) P) : Gets (wj8_0e ka na sa la kb nb sb lb b b' b'' b''' b'''' b''''') P :=
  Gets.ev (fun _ h => loop_step (cfg := cfg) (f := 8) (rd := none) (bs := 0) h) (Gets.eq (by kernel_rfl) h)
theorem wj8_0f_step (ka : Int) (na : Int) (sa : List UInt8) (la : List (List AV)) (kb : Int) (nb : Int) (sb : List UInt8) (lb : List (List AV)) (b : Bool) (b' : Bool) (b'' : Bool) (b''' : Bool) (b'''' : Bool) (b''''' : Bool) (b'''''' : Bool) {P : AV → Prop} (h : Gets (kOpt (EVf (EV cfg) 33 [.str [(61 : UInt8), (58 : UInt8), (61 : UInt8)], .sl [[.int .i64 ka, .int .i64 na, .str sa, .sl la], [.int .i64 kb, .int .i64 nb, .str sb, .sl lb]], .int .i64 
  (1 : Int)]) fun (v : AV) => kTup v fun (cs : List AV) => kCons cs fun (c : AV) (cs : List AV) => kAgg c fun (cs_1 : List AV) => kCons cs_1 fun (c : AV) (cs_2 : List AV) => kInt .i64 
  c fun (n : Int) => kCons cs_2 fun (c : AV) (cs_3 : List AV) => kInt .i64 c fun (n_1 : Int) => kCons cs_3 fun (c : AV) (cs_4 : List AV) => kStr c fun (s : List UInt8) => kCons cs_4 fun 
  (c : AV) (cs_5 : List AV) => kSl c fun (rows : List (List AV)) => kNil cs_5 (kCons cs fun (c : AV) (cs : List AV) => kInt .i64 c fun (n_2 : Int) => kNil cs (bif n_2 != (0 : Int) then 
  bif b then bif n_2 == (2 : Int) then some (.bool false) else some (.bool false) else some (.bool false) else kOpt (EVf (EV cfg) 21 [.str [(116 : UInt8), (114 : UInt8), (117 : UInt8), 
  (101 : UInt8)]]) fun (v : AV) => kTmV v fun (n_3 n_4 : Int) (s_1 : List UInt8) (rows_1 : List (List AV)) => (kOpt (EVs (EV cfg) 17 [.agg [.int .i64 n, .int .i64 n_1, .str s, .sl rows], 
  .agg [.int .i64 n_3, .int .i64 n_4, .str s_1, .sl rows_1]]) fun (v : AV) => kBool v fun (b_1 : Bool) => bif !b_1 then kOpt (EVf (EV cfg) 21 [.str [(102 : UInt8), (97 : UInt8), (108 
  : UInt8), (115 : UInt8), (101 : UInt8)]]) fun (v : AV) => kTmV v fun (n_5 n_6 : Int) (s_2 : List UInt8) (rows_2 : List (List AV)) => (kOpt (EVs (EV cfg) 17 [.agg [.int .i64 n, .int 
  .i64 n_1, .str s, .sl rows], .agg [.int .i64 n_5, .int .i64 n_6, .str s_2, .sl rows_2]]) fun (v : AV) => kBool v fun (b_2 : Bool) => bif !b_2 then some (.bool false) else wj8_0g ka 
  na sa la kb nb sb lb b b' b'' b''' b'''' b''''' b'''''' b_1) else wj8_0g ka na sa la kb nb sb lb b b' b'' b''' b'''' b''''' b'''''' b_1)))) P) : Gets (wj8_0f ka na sa la kb nb sb lb b b' b'' b''' b'''' b''''' b'''''') P :=
  Gets.ev (fun _ h => loop_step (cfg := cfg) (f := 8) (rd := none) (bs := 0) h) (Gets.eq (by kernel_rfl) h)
theorem wj8_0g_step (ka : Int) (na : Int) (sa : List UInt8) (la : List (List AV)) (kb : Int) (nb : Int) (sb : List UInt8) (lb : List (List AV)) (b : Bool) (b' : Bool) (b'' : Bool) (b''' : Bool) (b'''' : Bool) (b''''' : Bool) (b'''''' : Bool) (b''''''' : Bool) {P : AV → Prop} (h : Gets (kOpt (EVf (EV cfg) 33 [.str [(61 : UInt8), (47 : UInt8), (61 : UInt8)], .sl [[.int .i64 ka, .int .i64 na, .str sa, .sl la], [.int .i64 kb, .int .i64 nb, .str sb, .sl lb]], .int .i64 
  (1 : Int)]) fun (v : AV) => kTup v fun (cs : List AV) => kCons cs fun (c : AV) (cs : List AV) => kAgg c fun (cs_1 : List AV) => kCons cs_1 fun (c : AV) (cs_2 : List AV) => kInt .i64 
  c fun (n : Int) => kCons cs_2 fun (c : AV) (cs_3 : List AV) => kInt .i64 c fun (n_1 : Int) => kCons cs_3 fun (c : AV) (cs_4 : List AV) => kStr c fun (s : List UInt8) => kCons cs_4 fun 
  (c : AV) (cs_5 : List AV) => kSl c fun (rows : List (List AV)) => kNil cs_5 (kCons cs fun (c : AV) (cs : List AV) => kInt .i64 c fun (n_2 : Int) => kNil cs (bif n_2 != (0 : Int) then 
  bif b then bif n_2 == (2 : Int) then some (.bool false) else some (.bool false) else some (.bool false) else kOpt (EVf (EV cfg) 21 [.str [(116 : UInt8), (114 : UInt8), (117 : UInt8), 
  (101 : UInt8)]]) fun (v : AV) => kTmV v fun (n_3 n_4 : Int) (s_1 : List UInt8) (rows_1 : List (List AV)) => (kOpt (EVs (EV cfg) 17 [.agg [.int .i64 n, .int .i64 n_1, .str s, .sl rows], 
  .agg [.int .i64 n_3, .int .i64 n_4, .str s_1, .sl rows_1]]) fun (v : AV) => kBool v fun (b_1 : Bool) => bif !b_1 then kOpt (EVf (EV cfg) 21 [.str [(102 : UInt8), (97 : UInt8), (108 
  : UInt8), (115 : UInt8), (101 : UInt8)]]) fun (v : AV) => kTmV v fun (n_5 n_6 : Int) (s_2 : List UInt8) (rows_2 : List (List AV)) => (kOpt (EVs (EV cfg) 17 [.agg [.int .i64 n, .int 
  .i64 n_1, .str s, .sl rows], .agg [.int .i64 n_5, .int .i64 n_6, .str s_2, .sl rows_2]]) fun (v : AV) => kBool v fun (b_2 : Bool) => bif !b_2 then some (.bool false) else wj8_0h ka 
  na sa la kb nb sb lb b b' b'' b''' b'''' b''''' b'''''' b''''''' b_1) else wj8_0h ka na sa la kb nb sb lb b b' b'' b''' b'''' b''''' b'''''' b''''''' b_1)))) P) : Gets (wj8_0g ka na sa la kb nb sb lb b b' b'' b''' b'''' b''''' b'''''' b''''''') P :=
  Gets.ev (fun _ h => loop_step (cfg := cfg) (f := 8) (rd := none) (bs := 0) h) (Gets.eq (by kernel_rfl) h)
theorem wj8_0h_step (ka : Int) (na : Int) (sa : List UInt8) (la : List (List AV)) (kb : Int) (nb : Int) (sb : List UInt8) (lb : List (List AV)) (b : Bool) (b' : Bool) (b'' : Bool) (b''' : Bool) (b'''' : Bool) (b''''' : Bool) (b'''''' : Bool) (b''''''' : Bool) (b'''''''' : Bool) {P : AV → Prop} (h : Gets (kOpt (EVf (EV cfg) 33 [.str [(60 : UInt8)], .sl [[.int .i64 kb, .int .i64 nb, .str sb, .sl lb], [.int .i64 ka, .int .i64 na, .str sa, .sl la]], .int .i64 (1 : Int)]) fun (v : AV) => 
  kTup v fun (cs : List AV) => kCons cs fun (c : AV) (cs : List AV) => kAgg c fun (cs_1 : List AV) => kCons cs_1 fun (c : AV) (cs_2 : List AV) => kInt .i64 c fun (n : Int) => kCons cs_2 
  fun (c : AV) (cs_3 : List AV) => kInt .i64 c fun (n_1 : Int) => kCons cs_3 fun (c : AV) (cs_4 : List AV) => kStr c fun (s : List UInt8) => kCons cs_4 fun (c : AV) (cs_5 : List AV) => 
  kSl c fun (rows : List (List AV)) => kNil cs_5 (kCons cs fun (c : AV) (cs : List AV) => kInt .i64 c fun (n_2 : Int) => kNil cs (wj8_1 b n_2 (0 : Int) (0 : Int) ka na sa la kb nb sb 
  lb b' b'' b''' b'''' b''''' b'''''' b''''''' b'''''''' n n_1 s rows))) P) : Gets (wj8_0h ka na sa la kb nb sb lb b b' b'' b''' b'''' b''''' b'''''' b''''''' b'''''''') P :=
  Gets.ev (fun _ h => loop_step (cfg := cfg) (f := 8) (rd := none) (bs := 0) h) (Gets.eq (by kernel_rfl) h)
theorem wj8_1_step (b : Bool) (n : Int) (v13 : Int) (v14 : Int) (c0_0 : Int) (c0_1 : Int) (c0_2 : List UInt8) (c0_3 : List (List AV)) (c1_0 : Int) (c1_1 : Int) (c1_2 : List UInt8) (c1_3 : List (List AV)) (c2_0 : Bool) (c2_1 : Bool) (c2_2 : Bool) (c2_3 : Bool) (c2_4 : Bool) (c2_5 : Bool) (c2_6 : Bool) (c2_7 : Bool) (c3_0 : Int) (c3_1 : Int) (c3_2 : List UInt8) (c3_3 : List (List AV)) {P : AV → Prop} (h : Gets (bif decide (v14 < (3 : Int)) then bif leInt (0 : Int) v14 && ltInt v14 (8 : Int) then kOpt (List.get?Internal [.bool c2_0, .bool c2_1, .bool c2_2, .bool c2_3, .bool c2_4, .bool c2_5, 
  .bool c2_6, .bool c2_7] (0 + Int.toNat v14 * 1)) fun (v : AV) => kBool v fun (b_1 : Bool) => bif b_1 then wj8_1 b n (IntKind.wrap .i64 (v13 + (1 : Int))) (IntKind.wrap .i64 (v14 + (1 
  : Int))) c0_0 c0_1 c0_2 c0_3 c1_0 c1_1 c1_2 c1_3 c2_0 c2_1 c2_2 c2_3 c2_4 c2_5 c2_6 c2_7 c3_0 c3_1 c3_2 c3_3 else wj8_1 b n v13 (IntKind.wrap .i64 (v14 + (1 : Int))) c0_0 c0_1 c0_2 
  c0_3 c1_0 c1_1 c1_2 c1_3 c2_0 c2_1 c2_2 c2_3 c2_4 c2_5 c2_6 c2_7 c3_0 c3_1 c3_2 c3_3 else none else bif v13 != (1 : Int) then some (.bool false) else bif n != (0 : Int) then some (.bool 
  false) else kOpt (EVf (EV cfg) 21 [.str [(116 : UInt8), (114 : UInt8), (117 : UInt8), (101 : UInt8)]]) fun (v : AV) => kTmV v fun (n n_1 : Int) (s : List UInt8) (rows : List (List AV)) 
  => (kOpt (EVs (EV cfg) 17 [.agg [.int .i64 c3_0, .int .i64 c3_1, .str c3_2, .sl c3_3], .agg [.int .i64 n, .int .i64 n_1, .str s, .sl rows]]) fun (v : AV) => kBool v fun (b_1 : Bool) 
  => bif !c2_2 == b_1 then some (.bool false) else bif b then bif c2_0 then bif c2_3 == true then bif c2_2 then bif c2_4 == true then bif c2_5 == !c2_1 then bif c2_6 == c2_1 then bif 
  c2_7 == !c2_1 then kOpt (EVs (EV cfg) 17 [.agg [.int .i64 c0_0, .int .i64 c0_1, .str c0_2, .sl c0_3], .agg [.int .i64 c1_0, .int .i64 c1_1, .str c1_2, .sl c1_3]]) fun (v : AV) => kBool 
  v fun (b : Bool) => some (.bool (c2_1 == b)) else some (.bool false) else some (.bool false) else some (.bool false) else some (.bool false) else bif c2_4 == c2_1 then bif c2_5 == !c2_1 
  then bif c2_6 == c2_1 then bif c2_7 == !c2_1 then kOpt (EVs (EV cfg) 17 [.agg [.int .i64 c0_0, .int .i64 c0_1, .str c0_2, .sl c0_3], .agg [.int .i64 c1_0, .int .i64 c1_1, .str c1_2, 
  .sl c1_3]]) fun (v : AV) => kBool v fun (b : Bool) => some (.bool (c2_1 == b)) else some (.bool false) else some (.bool false) else some (.bool false) else some (.bool false) else some 
  (.bool false) else bif c2_3 == c2_1 then bif c2_2 then bif c2_4 == true then bif c2_5 == !c2_1 then bif c2_6 == c2_1 then bif c2_7 == !c2_1 then kOpt (EVs (EV cfg) 17 [.agg [.int .i64 
  c0_0, .int .i64 c0_1, .str c0_2, .sl c0_3], .agg [.int .i64 c1_0, .int .i64 c1_1, .str c1_2, .sl c1_3]]) fun (v : AV) => kBool v fun (b : Bool) => some (.bool (c2_1 == b)) else some 
  (.bool false) else some (.bool false) else some (.bool false) else some (.bool false) else bif c2_4 == c2_1 then bif c2_5 == !c2_1 then bif c2_6 == c2_1 then bif c2_7 == !c2_1 then 
  kOpt (EVs (EV cfg) 17 [.agg [.int .i64 c0_0, .int .i64 c0_1, .str c0_2, .sl c0_3], .agg [.int .i64 c1_0, .int .i64 c1_1, .str c1_2, .sl c1_3]]) fun (v : AV) => kBool v fun (b : Bool) 
  => some (.bool (c2_1 == b)) else some (.bool false) else some (.bool false) else some (.bool false) else some (.bool false) else some (.bool false) else some (.bool false))) P) : Gets (wj8_1 b n v13 v14 c0_0 c0_1 c0_2 c0_3 c1_0 c1_1 c1_2 c1_3 c2_0 c2_1 c2_2 c2_3 c2_4 c2_5 c2_6 c2_7 c3_0 c3_1 c3_2 c3_3) P :=
  Gets.ev (fun _ h => loop_step (cfg := cfg) (f := 8) (rd := none) (bs := 0) h) (Gets.eq (by kernel_rfl) h)
end Go.Proofs.Ytogebohommickaa
end
