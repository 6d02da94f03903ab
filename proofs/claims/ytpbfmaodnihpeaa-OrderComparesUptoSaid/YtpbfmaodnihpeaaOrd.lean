/-
  The order of terms as plain Lean functions. Own work.
  What is proved: elementary facts; no condition.
-/
import Derived.Test.YtpbfmaodnihpeaaTm
namespace Go.Av

def numC (a b : Int) : Int := if a < b then -1 else if b < a then 1 else 0
def strC (a b : List UInt8) : Int := if a = b then 0 else if Op.bytesLess a b then -1 else 1

mutual
def cmpT : Tm → Tm → Int
  | .mk k n s l, b =>
    if numC k b.kind ≠ 0 then numC k b.kind
    else if k = 1 ∨ k = 3 ∨ k = 4 ∨ k = 6 then numC n b.num
    else if k = 2 then strC s b.str
    else if k = 5 then (if numC n b.num ≠ 0 then numC n b.num else if numC l.length b.subs.length ≠ 0 then numC l.length b.subs.length else cmpE l b.subs)
    else if k = 7 ∨ k = 9 then (if numC l.length b.subs.length ≠ 0 then numC l.length b.subs.length else cmpE l b.subs)
    else 0
def cmpE : List Tm → List Tm → Int
  | [], [] => 0
  | [], _ :: _ => -1
  | _ :: _, [] => 1
  | a :: l, b :: l' => if cmpT a b ≠ 0 then cmpT a b else cmpE l l'
end

def cmpL (l l' : List Tm) : Int := if numC l.length l'.length ≠ 0 then numC l.length l'.length else cmpE l l'

theorem numC_zero {a b : Int} : numC a b = 0 ↔ a = b := by unfold numC; split <;> (try split) <;> omega
theorem numC_self (a : Int) : numC a a = 0 := numC_zero.2 rfl

theorem cmpT_eq (k n : Int) (s : List UInt8) (l : List Tm) (k' n' : Int) (s' : List UInt8) (l' : List Tm) : cmpT (.mk k n s l) (.mk k' n' s' l') =
    if numC k k' ≠ 0 then numC k k' else if k = 1 ∨ k = 3 ∨ k = 4 ∨ k = 6 then numC n n' else if k = 2 then strC s s'
    else if k = 5 then (if numC n n' ≠ 0 then numC n n' else cmpL l l') else if k = 7 ∨ k = 9 then cmpL l l' else 0 := by
  rw [cmpT]; rfl
theorem cmpE_cons (a b : Tm) (l l' : List Tm) : cmpE (a :: l) (b :: l') = if cmpT a b ≠ 0 then cmpT a b else cmpE l l' := by rw [cmpE]
theorem cmpE_nil : cmpE [] [] = 0 := by rw [cmpE]
theorem cmpE_nil_cons (b : Tm) (l' : List Tm) : cmpE [] (b :: l') = -1 := by rw [cmpE]
theorem cmpE_cons_nil (a : Tm) (l : List Tm) : cmpE (a :: l) [] = 1 := by rw [cmpE]

theorem bytesLess_irrefl : ∀ a : List UInt8, Op.bytesLess a a = false
  | [] => rfl
  | a :: l => by rw [Op.bytesLess, bytesLess_irrefl l]; simp
theorem bytesLess_total : ∀ a b : List UInt8, Op.bytesLess a b = false → a ≠ b → Op.bytesLess b a = true
  | [], [], _, h => absurd rfl h
  | [], _ :: _, h, _ => by simp [Op.bytesLess] at h
  | _ :: _, [], _, _ => by simp [Op.bytesLess]
  | a :: l, b :: m, h, hne => by
    simp only [Op.bytesLess, Bool.or_eq_false_iff, Bool.and_eq_false_iff, decide_eq_false_iff_not, Bool.or_eq_true, Bool.and_eq_true, decide_eq_true_eq, beq_iff_eq] at *
    obtain ⟨h1, h2⟩ := h
    by_cases hab : a = b
    · subst hab
      refine .inr ⟨rfl, bytesLess_total l m ?_ (fun e => hne (by rw [e]))⟩
      rcases h2 with h2 | h2
      · simp at h2
      · exact h2
    · left
      have : ¬ a.toNat < b.toNat := h1
      have : a.toNat ≠ b.toNat := fun e => hab (UInt8.toNat.inj e)
      show b.toNat < a.toNat
      omega
theorem strC_eq (a b : List UInt8) : strC a b = if Op.bytesLess a b then -1 else if !(Op.bytesLess a b || a == b) then 1 else 0 := by
  unfold strC
  by_cases h : a = b
  · subst h; simp [bytesLess_irrefl]
  · rw [if_neg h]
    have : (a == b) = false := by simpa using h
    rw [this]
    cases Op.bytesLess a b <;> rfl
end Go.Av
