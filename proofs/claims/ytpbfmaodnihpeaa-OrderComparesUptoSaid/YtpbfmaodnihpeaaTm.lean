/-
  Terms as plain Lean data, and how they stand as abstract values. Own work.
  What is proved: how lists of terms stand as rows; no condition.
-/
import Derived.Test.YtpbfmaodnihpeaaAvW
namespace Go.Av

inductive Tm where
  | mk (k n : Int) (s : List UInt8) (l : List Tm)
  deriving Inhabited

namespace Tm
def kind : Tm → Int | mk k _ _ _ => k
def num : Tm → Int | mk _ n _ _ => n
def str : Tm → List UInt8 | mk _ _ s _ => s
def subs : Tm → List Tm | mk _ _ _ l => l
end Tm

mutual
def Tm.cells : Tm → List AV
  | .mk k n s l => [.int .i64 k, .int .i64 n, .str s, .sl (rowsT l)]
def rowsT : List Tm → List (List AV)
  | [] => []
  | t :: l => t.cells :: rowsT l
end

def Tm.av (t : Tm) : AV := .agg t.cells

theorem Tm.cells_mk (k n : Int) (s : List UInt8) (l : List Tm) : (Tm.mk k n s l).cells = [.int .i64 k, .int .i64 n, .str s, .sl (rowsT l)] := by rw [Tm.cells]
theorem Tm.av_mk (k n : Int) (s : List UInt8) (l : List Tm) : (Tm.mk k n s l).av = .agg [.int .i64 k, .int .i64 n, .str s, .sl (rowsT l)] := by rw [Tm.av, Tm.cells_mk]
theorem rowsT_map : ∀ l : List Tm, rowsT l = l.map Tm.cells
  | [] => by rw [rowsT]; rfl
  | t :: l => by rw [rowsT, rowsT_map l]; rfl
@[simp] theorem rowsT_length (l : List Tm) : (rowsT l).length = l.length := by rw [rowsT_map]; simp
@[simp] theorem rowsT_nil : rowsT [] = [] := by rw [rowsT]
theorem rowsT_cons (t : Tm) (l : List Tm) : rowsT (t :: l) = t.cells :: rowsT l := by rw [rowsT]
theorem rowsT_append (a b : List Tm) : rowsT (a ++ b) = rowsT a ++ rowsT b := by simp [rowsT_map]
theorem rowsT_take (n : Nat) (a : List Tm) : (rowsT a).take n = rowsT (a.take n) := by simp [rowsT_map, List.map_take]
theorem rowsT_drop (n : Nat) (a : List Tm) : (rowsT a).drop n = rowsT (a.drop n) := by simp [rowsT_map, List.map_drop]
theorem rowsT_get (l : List Tm) (i : Nat) : (rowsT l)[i]? = (l[i]?).map Tm.cells := by rw [rowsT_map]; simp
theorem rowsT_some {l : List Tm} {i : Nat} {k n : Int} {s : List UInt8} {l' : List Tm} (h : l[i]? = some (.mk k n s l')) : (rowsT l)[i]? = some [.int .i64 k, .int .i64 n, .str s, .sl (rowsT l')] := by rw [rowsT_get, h, ← Tm.cells_mk]; rfl
theorem rowsT_set (l : List Tm) (i : Nat) (t : Tm) : (rowsT l).set i t.cells = rowsT (l.set i t) := by simp [rowsT_map, List.map_set]

theorem cells_free (t : Tm) : refsLtL 0 t.cells = true := by
  obtain ⟨k, n, s, l⟩ := t
  rw [Tm.cells_mk]; rfl
theorem rowsT_free (l : List Tm) : refsLtR 0 (rowsT l) = true := by
  induction l with
  | nil => rw [rowsT]; rfl
  | cons t l ih => rw [rowsT, refsLtR, ih, cells_free]; rfl

mutual
/-- no list is longer than is counted here, no text -/
def Tm.Ok : Tm → Prop
  | .mk _ _ s l => s.length < 1099511627776 ∧ l.length < 1099511627776 ∧ OkL l
def OkL : List Tm → Prop
  | [] => True
  | t :: l => t.Ok ∧ OkL l
end
theorem OkL_iff {l : List Tm} : OkL l ↔ ∀ t ∈ l, t.Ok := by
  induction l with
  | nil => simp [OkL]
  | cons t l ih => simp [OkL, ih]
theorem Tm.Ok.str {k n : Int} {s : List UInt8} {l : List Tm} (h : (Tm.mk k n s l).Ok) : s.length < 1099511627776 := by rw [Tm.Ok] at h; exact h.1
theorem Tm.Ok.len {k n : Int} {s : List UInt8} {l : List Tm} (h : (Tm.mk k n s l).Ok) : l.length < 1099511627776 := by rw [Tm.Ok] at h; exact h.2.1
theorem Tm.Ok.sub {k n : Int} {s : List UInt8} {l : List Tm} (h : (Tm.mk k n s l).Ok) {t : Tm} (ht : t ∈ l) : t.Ok := by rw [Tm.Ok] at h; exact OkL_iff.1 h.2.2 t ht
theorem OkL.get {l : List Tm} (h : OkL l) {t : Tm} (ht : t ∈ l) : t.Ok := OkL_iff.1 h t ht

theorem Tm.ind {P : Tm → Prop} (h : ∀ k n s l, (∀ t ∈ l, P t) → P (.mk k n s l)) : ∀ t, P t
  | .mk k n s l => h k n s l (fun t _ => Tm.ind h t)

/-! ### numbers -/
theorem wrap64 {x : Int} (h1 : -9223372036854775808 ≤ x) (h2 : x < 9223372036854775808) : IntKind.wrap .i64 x = x := by
  simp [IntKind.wrap, IntKind.bits, IntKind.signed]; omega
theorem wrap_succ {i n : Nat} (h : i < n) (hn : n < 1099511627776) : IntKind.wrap .i64 ((i : Int) + 1) = ((i + 1 : Nat) : Int) := by
  rw [wrap64 (by omega) (by omega)]; rfl
theorem leInt_zero (i : Nat) : leInt 0 (i : Int) = true := by simp [leInt]
theorem ltInt_nat (i n : Nat) : ltInt (i : Int) (n : Int) = decide (i < n) := by simp [ltInt]

/-- a row of a list of terms -/
theorem rowsT_at {α : Type} {l : List Tm} {i : Nat} {t : Tm} (h : l[i]? = some t) (k : List AV → Option α) : kOpt (List.get?Internal (rowsT l) (Int.toNat (i : Int))) k = k t.cells := by
  rw [get?Internal_eq, Int.toNat_natCast, rowsT_get, h]; rfl
end Go.Av
