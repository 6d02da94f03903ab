/-
  Parts of the proof of GuardEvalsUptoSaid, put together: the abstract evaluation and its contracts. Own work.
  What is proved: each lemma as it stands; no condition.
-/
import Derived.Test.YtkgkjngbfdnoiaaGreatZGuardEvalsM3

section
namespace Go.Av
@[simp] theorem Tm.kind_mk (k n : Int) (s : List UInt8) (l : List Tm) : (Tm.mk k n s l).kind = k := rfl
@[simp] theorem Tm.num_mk (k n : Int) (s : List UInt8) (l : List Tm) : (Tm.mk k n s l).num = n := rfl
@[simp] theorem Tm.str_mk (k n : Int) (s : List UInt8) (l : List Tm) : (Tm.mk k n s l).str = s := rfl
@[simp] theorem Tm.subs_mk (k n : Int) (s : List UInt8) (l : List Tm) : (Tm.mk k n s l).subs = l := rfl
@[simp] theorem Tm.eta (t : Tm) : Tm.mk t.kind t.num t.str t.subs = t := by cases t; rfl
theorem Tm.cells_eq (t : Tm) : t.cells = [.int .i64 t.kind, .int .i64 t.num, .str t.str, .sl (rowsT t.subs)] := by cases t; rw [Tm.cells_mk]; rfl
@[simp] theorem cells_fold (k n : Int) (s : List UInt8) (l : List Tm) : [AV.int .i64 k, AV.int .i64 n, AV.str s, AV.sl (rowsT l)] = (Tm.mk k n s l).cells := (Tm.cells_mk k n s l).symm
@[simp] theorem cells_fold0 (k n : Int) (s : List UInt8) : [AV.int .i64 k, AV.int .i64 n, AV.str s, AV.sl []] = (Tm.mk k n s []).cells := by rw [Tm.cells_mk, rowsT_nil]
@[simp] theorem agg_cells (t : Tm) : AV.agg t.cells = t.av := rfl
@[simp] theorem rowsT_one (t : Tm) : [t.cells] = rowsT [t] := by rw [rowsT_cons, rowsT_nil]
@[simp] theorem rowsT_cons' (t : Tm) (l : List Tm) : t.cells :: rowsT l = rowsT (t :: l) := (rowsT_cons t l).symm
@[simp] theorem rowsT_append' (a b : List Tm) : rowsT a ++ rowsT b = rowsT (a ++ b) := (rowsT_append a b).symm
@[simp] theorem rowsT_app (a b : List Tm) : List.append (rowsT a) (rowsT b) = rowsT (a ++ b) := (rowsT_append a b).symm
@[simp] theorem rowsT_take' (n : Nat) (a : List Tm) : (rowsT a).take n = rowsT (a.take n) := rowsT_take n a
@[simp] theorem rowsT_drop' (n : Nat) (a : List Tm) : (rowsT a).drop n = rowsT (a.drop n) := rowsT_drop n a
@[simp] theorem rowsT_set' (l : List Tm) (i : Nat) (t : Tm) : (rowsT l).set i t.cells = rowsT (l.set i t) := rowsT_set l i t
@[simp] theorem rowsT_get' (l : List Tm) (i : Nat) : (rowsT l)[i]? = (l[i]?).map Tm.cells := rowsT_get l i
@[simp] theorem rowsT_getElem (l : List Tm) (i : Nat) (h : i < (rowsT l).length) : (rowsT l)[i] = (l[i]'(by simpa using h)).cells := by
 have h1 := rowsT_get l i
 rw [List.getElem?_eq_getElem h, List.getElem?_eq_getElem (by simpa using h)] at h1
 exact Option.some.inj h1
@[simp] theorem kOpt_map {α β γ : Type} (o : Option β) (g : β → γ) (k : γ → Option α) : kOpt (o.map g) k = kOpt o fun x => k (g x) := by cases o <;> rfl
@[simp] theorem length_cells (t : Tm) : t.cells.length = 4 := by rw [Tm.cells_eq]; rfl
@[simp] theorem take_cells (t : Tm) : t.cells.take 4 = t.cells := by rw [Tm.cells_eq]; rfl
@[simp] theorem drop_cells (t : Tm) : t.cells.drop 4 = [] := by rw [Tm.cells_eq]; rfl
@[simp] theorem cells_0 (t : Tm) : t.cells[0]? = some (.int .i64 t.kind) := by rw [Tm.cells_eq]; rfl
@[simp] theorem cells_1 (t : Tm) : t.cells[1]? = some (.int .i64 t.num) := by rw [Tm.cells_eq]; rfl
@[simp] theorem cells_2 (t : Tm) : t.cells[2]? = some (.str t.str) := by rw [Tm.cells_eq]; rfl
@[simp] theorem cells_3 (t : Tm) : t.cells[3]? = some (.sl (rowsT t.subs)) := by rw [Tm.cells_eq]; rfl
@[simp] theorem refs_cells (n : Nat) (t : Tm) : refsLtL n t.cells = true := by rw [Tm.cells_eq]; rfl
@[simp] theorem allCells_cells (t : Tm) : allCells t.cells = true := by rw [Tm.cells_eq]; rfl
@[simp] theorem rowsT_free' (l : List Tm) : refsLtR 0 (rowsT l) = true := rowsT_free l
@[simp] theorem rowsOk_rowsT (l : List Tm) : rowsOk 4 (rowsT l) = true := by
 cases l with
 | nil => rw [rowsT_nil]; rfl
 | cons t l => rw [rowsT_cons, rowsOk, length_cells]; rfl
@[simp] theorem kTmC_cells {α : Type} (t : Tm) (k : Int → Int → List UInt8 → List (List AV) → Option α) : kTmC t.cells k = k t.kind t.num t.str (rowsT t.subs) := by rw [Tm.cells_eq]; rfl
@[simp] theorem kTmV_av {α : Type} (t : Tm) (k : Int → Int → List UInt8 → List (List AV) → Option α) : kTmV t.av k = k t.kind t.num t.str (rowsT t.subs) := by rw [Tm.av, Tm.cells_eq]; rfl

theorem wrap_s {i n : Nat} (h : i < n) (hn : n < 1099511627776) : IntKind.wrap .i64 ((i : Int) + 1) = (i : Int) + 1 := wrap64 (by omega) (by omega)
@[simp] theorem cast_nn (q : Nat) : (0 ≤ (q : Int) + 1) = True := eq_true (by omega)
@[simp] theorem cast_le1 (q n : Nat) : ((q : Int) + 1 ≤ (n : Int)) = (q + 1 ≤ n) := propext (by omega)
@[simp] theorem cast_lt1 (q n : Nat) : ((q : Int) + 1 < (n : Int)) = (q + 1 < n) := propext (by omega)
@[simp] theorem cast_nn' (q : Nat) : (0 < (q : Int) + 1) = True := eq_true (by omega)
@[simp] theorem cast_ne0 (q : Nat) : ((q : Int) + 1 == 0) = false := by rw [beqD]; exact decide_eq_false (by omega)
@[simp] theorem cast_lt_s (q : Nat) : ((q : Int) < (q : Int) + 1) = True := eq_true (by omega)
@[simp] theorem cast_le_s (q : Nat) : ((q : Int) ≤ (q : Int) + 1) = True := eq_true (by omega)
theorem wrapN {n : Nat} (hn : n < 4398046511104) : IntKind.wrap .i64 (n : Int) = n := wrap64 (by omega) (by omega)
end Go.Av
end

section
namespace Go.Av

def numC (a b : Int) : Int := if a < b then -1 else if b < a then 1 else 0
def strC (a b : List UInt8) : Int := if a = b then 0 else if Op.bytesLess a b then -1 else 1

mutual
def cmpT : Tm → Tm → Int
 | .mk k n s l, b =>
  if numC k b.kind ≠ 0 then numC k b.kind
  else if k = 1 ∨ k = 3 ∨ k = 4 ∨ k = 6 then numC n b.num
  else if k = 2 then strC s b.str
  else if k = 5 then (if numC n b.num ≠ 0 then numC n b.num else if numC l.length b.subs.length ≠ 0 then numC l.length b.subs.length else cmpE l b.subs)
  else if k = 7 ∨ k = 9 then (if numC l.length b.subs.length ≠ 0 then numC l.length b.subs.length else cmpE l b.subs)
  else 0
def cmpE : List Tm → List Tm → Int
 | [], [] => 0
 | [], _ :: _ => -1
 | _ :: _, [] => 1
 | a :: l, b :: l' => if cmpT a b ≠ 0 then cmpT a b else cmpE l l'
end

def cmpL (l l' : List Tm) : Int := if numC l.length l'.length ≠ 0 then numC l.length l'.length else cmpE l l'

theorem numC_zero {a b : Int} : numC a b = 0 ↔ a = b := by unfold numC; split <;> (try split) <;> omega
theorem numC_self (a : Int) : numC a a = 0 := numC_zero.2 rfl

theorem cmpT_eq (k n : Int) (s : List UInt8) (l : List Tm) (k' n' : Int) (s' : List UInt8) (l' : List Tm) : cmpT (.mk k n s l) (.mk k' n' s' l') =
  if numC k k' ≠ 0 then numC k k' else if k = 1 ∨ k = 3 ∨ k = 4 ∨ k = 6 then numC n n' else if k = 2 then strC s s'
  else if k = 5 then (if numC n n' ≠ 0 then numC n n' else cmpL l l') else if k = 7 ∨ k = 9 then cmpL l l' else 0 := by
 rw [cmpT]; rfl
theorem cmpE_cons (a b : Tm) (l l' : List Tm) : cmpE (a :: l) (b :: l') = if cmpT a b ≠ 0 then cmpT a b else cmpE l l' := by rw [cmpE]
theorem cmpE_nil : cmpE [] [] = 0 := by rw [cmpE]
theorem cmpE_nil_cons (b : Tm) (l' : List Tm) : cmpE [] (b :: l') = -1 := by rw [cmpE]
theorem cmpE_cons_nil (a : Tm) (l : List Tm) : cmpE (a :: l) [] = 1 := by rw [cmpE]

theorem bytesLess_irrefl : ∀ a : List UInt8, Op.bytesLess a a = false
 | [] => rfl
 | a :: l => by rw [Op.bytesLess, bytesLess_irrefl l]; simp
end Go.Av
end

section
namespace Go.Av

def C3 (p q r : Int) : Prop := (p ≤ 0 → q ≤ 0 → r ≤ 0) ∧ (p < 0 → q ≤ 0 → r < 0) ∧ (p ≤ 0 → q < 0 → r < 0) ∧ (0 ≤ p → 0 ≤ q → 0 ≤ r) ∧ (0 < p → 0 ≤ q → 0 < r) ∧ (0 ≤ p → 0 < q → 0 < r)

end Go.Av
end

section
namespace Go.Av
def soundB (k n : Int) (s : List UInt8) (m : Nat) : Bool :=
 if k = 1 then decide (-576460752303423488 ≤ n) && (decide (n ≤ 576460752303423487) && (decide (s = []) && decide (m = 0)))
 else if k = 2 then decide (n = 0) && (decide (s.length ≤ 64) && decide (m = 0))
 else if k = 3 then decide (0 ≤ n) && (decide (n ≤ 1073741824) && (decide (s = []) && decide (m = 0)))
 else if k = 4 then decide (0 ≤ n) && (decide (n ≤ 1073741824) && (decide (s = []) && decide (m = 0)))
 else if k = 6 then decide (0 ≤ n) && (decide (n ≤ 1073741824) && (decide (s = []) && decide (m = 0)))
 else if k = 5 then decide (0 ≤ n) && (decide (n ≤ 1073741824) && (decide (s = []) && decide (m ≤ 64)))
 else if k = 7 then decide (n = 0) && (decide (s = []) && decide (m ≤ 64))
 else if k = 8 then decide (n = 0) && (decide (s = []) && decide (m = 0))
 else if k = 9 then decide (n = 0) && (decide (s = []) && decide (m = 2))
 else false
def Tm.sound (t : Tm) : Bool := soundB t.kind t.num t.str t.subs.length
def Tm.own (t : Tm) : Nat := if t.kind = 7 ∨ t.kind = 5 then 2 else 1
theorem bif_some' (a b : Bool) : (bif a then some (AV.bool b) else some (AV.bool false)) = some (.bool (a && b)) := by cases a <;> rfl
theorem beqNil (s : List UInt8) : (s == []) = decide (s = []) := by cases s <;> simp
theorem beqI (a b : Int) : (a == b) = decide (a = b) := by simp [beqD]
mutual
/-- may all parts of a term be? -/
def Tm.parts : Tm → Bool
 | .mk k n s l => soundB k n s l.length && partsL l
def partsL : List Tm → Bool
 | [] => true
 | t :: l => t.parts && partsL l
end
mutual
/-- how many words all parts have -/
def Tm.words : Tm → Nat
 | .mk k n s l => (Tm.mk k n s l).own + wordsL l
def wordsL : List Tm → Nat
 | [] => 0
 | t :: l => t.words + wordsL l
end
theorem Tm.parts_eq (t : Tm) : t.parts = (t.sound && partsL t.subs) := by cases t; rw [Tm.parts]; rfl
theorem Tm.words_eq (t : Tm) : t.words = t.own + wordsL t.subs := by cases t; rw [Tm.words]; rfl
theorem partsL_append (a b : List Tm) : partsL (a ++ b) = (partsL a && partsL b) := by
 induction a with
 | nil => simp [partsL]
 | cons x l ih => simp [partsL, ih, Bool.and_assoc]
theorem wordsL_append (a b : List Tm) : wordsL (a ++ b) = wordsL a + wordsL b := by
 induction a with
 | nil => simp [wordsL]
 | cons x l ih => simp [wordsL, ih]; omega
theorem partsL_rev (a : List Tm) : partsL a.reverse = partsL a := by
 induction a with
 | nil => rfl
 | cons x l ih => simp [partsL_append, partsL, ih, Bool.and_comm]
theorem wordsL_rev (a : List Tm) : wordsL a.reverse = wordsL a := by
 induction a with
 | nil => rfl
 | cons x l ih => simp [wordsL_append, wordsL, ih]; omega
theorem Tm.own_le (t : Tm) : t.own ≤ 2 ∧ 1 ≤ t.own := by unfold Tm.own; split <;> omega
theorem words_le (t : Tm) : t.words ≤ 2 * t.w := by
 induction t using Tm.ind with
 | _ k n s l ih =>
  have h1 : wordsL l ≤ 2 * wL l := by
   clear n s
   induction l with
   | nil => simp [wordsL]
   | cons x l ih2 =>
    have := ih x (by simp)
    have := ih2 (fun t ht => ih t (by simp [ht]))
    simp [wordsL]; omega
  have := (Tm.mk k n s l).own_le
  rw [Tm.words, Tm.w_mk]; omega
def chkS (R : List Tm) (wd : Nat) : Int := if partsL R then (if 65536 < wd + wordsL R then 3 else 0) else 2
def Tm.chk (t : Tm) : Int := chkS [t] 0
theorem chkS_bad {R : List Tm} {x : Tm} {wd : Nat} (h : x.sound = false) : chkS (R ++ [x]) wd = 2 := by
 unfold chkS
 rw [partsL_append]
 simp [partsL, Tm.parts_eq, h]
theorem chkS_step {R : List Tm} {x : Tm} {wd : Nat} (h : x.sound = true) : chkS (R ++ x.subs.reverse) (wd + x.own) = chkS (R ++ [x]) wd := by
 unfold chkS
 simp only [partsL_append, partsL_rev, wordsL_append, wordsL_rev, partsL, wordsL, Tm.parts_eq, Tm.words_eq, h, Bool.true_and, Bool.and_true]
 have : wd + x.own + (wordsL R + wordsL x.subs) = wd + (wordsL R + (x.own + wordsL x.subs + 0)) := by omega
 rw [this]

end Go.Av
end

section
namespace Go.Av
def Tells (p : Prop) (v : AV) : Prop := ∃ b : Bool, v = .bool b ∧ (b = true ↔ p)
theorem tells_bool {p : Prop} {b : Bool} : Tells p (.bool b) ↔ (b = true ↔ p) := ⟨fun ⟨_, h1, h2⟩ => by cases h1; exact h2, fun h => ⟨b, rfl, h⟩⟩
end Go.Av
namespace Go.Proofs.YtkgkjngbfdnoiaaGreat
open Go.Av

theorem fits56 {n : Nat} (h : n ≤ 1099511627776) : fitsIn n 56 = true := by
 unfold fitsIn
 rw [Bool.and_eq_true, Nat.ble_eq, Nat.ble_eq]
 omega

theorem av_unf (t : Tm) : (AV.agg [.int .i64 t.kind, .int .i64 t.num, .str t.str, .sl (rowsT t.subs)]) = t.av := by rw [Tm.av, Tm.cells_eq]
end Go.Proofs.YtkgkjngbfdnoiaaGreat
end

section
namespace Go.Proofs.YtkgkjngbfdnoiaaGreat
open Go.Av
def copyCell : List (List AV) := [[AV.fn (Fn.func 159) [] [AV.ptr 0 0 0]]]
theorem copyIn_ev (t : Tm) : t.Ok → EVx (EV cfg) 159 [t.av, .ptr 0 0 0] 1 copyCell = some (t.av, copyCell) := by
 induction t using Tm.ind with
 | _ k n s l ih =>
  intro hok
  have hlen := hok.len
  have loop : ∀ (d i : Nat), i + d = l.length → Gets (wh64_0 (rowsT l) i k n s (rowsT l) 0 0 [] [] (rowsT (l.take i) ++ List.replicate d [.int .i64 0, .int .i64 0, .str [], .nilS])) (· = ((Tm.mk k n s l).av, copyCell)) := by
   intro d
   induction d with
   | zero =>
    intro i hi
    refine wh64_0_step _ _ _ _ _ _ _ _ _ _ _ ?_
    obtain rfl : i = l.length := by omega
    have e : l.take l.length = l := List.take_of_length_le (Nat.le_refl _)
    rw [e]
    simp
    rfl
   | succ d ihd =>
    intro i hi
    refine wh64_0_step _ _ _ _ _ _ _ _ _ _ _ ?_
    have hil : i < l.length := by omega
    have hx : l[i]? = some l[i] := List.getElem?_eq_getElem hil
    have hxl := List.mem_of_getElem? hx
    have hix := EVk_of (ih l[i] hxl (hok.sub hxl))
    have hih := ihd (i + 1) (by omega)
    have hw := wrap_s hil hlen
    have e1 : l.take (i + 1) = l.take i ++ [l[i]] := by rw [List.take_add_one, hx]; rfl
    have ht : (rowsT (l.take i)).length = i := by rw [rowsT_length, List.length_take]; omega
    have g : (rowsT (l.take i) ++ List.replicate (d + 1) [AV.int .i64 0, .int .i64 0, .str [], .nilS])[i]? = some [AV.int .i64 0, .int .i64 0, .str [], .nilS] := by
     rw [List.getElem?_append_right (by omega), ht, Nat.sub_self]; rfl
    have g2 : (rowsT (l.take i) ++ List.replicate (d + 1) [AV.int .i64 0, .int .i64 0, .str [], .nilS]).set i l[i].cells = rowsT (l.take (i + 1)) ++ List.replicate d [AV.int .i64 0, .int .i64 0, .str [], .nilS] := by
     rw [List.set_append_right _ _ (by omega), e1, rowsT_append, rowsT_cons, rowsT_nil]
     have e3 : i - (rowsT (l.take i)).length = 0 := by omega
     rw [e3, List.replicate_succ, List.set_cons_zero, List.append_assoc]; rfl
    simp only [copyCell] at hix
    simp [hil, hx, hix, g, hw]
    rw [g2]
    simpa using hih
  apply Gets.get
  rw [Tm.av_mk]
  refine copyIn_run _ _ _ _ ?_
  rw [rowsT_length]
  by_cases hl : l.length = 0
  ·have : l = [] := List.length_eq_zero_iff.1 hl
   subst this
   simp [copyCell, AV.refsLt, refsLtL]
  ·have hl' : ((l.length : Int) == 0) = false := by rw [beqD]; exact decide_eq_false (by omega)
   have h56 : leInt ((l.length : Int) * 56) 140737488355328 = true := by simp [leInt]; omega
   have hm : leInt (l.length : Int) 9223372036854775807 = true := by simp [leInt]; omega
   have hz : leInt 0 (l.length : Int) = true := leInt_zero _
   have hs : leInt (l.length : Int) (l.length : Int) = true := by simp [leInt]
   rw [hl', h56, hm, hz, hs]
   have := loop l.length 0 (by omega)
   rw [Tm.av_mk] at this
   simpa using this
theorem copy_ev {t : Tm} (h : t.Ok) : EVf (EV cfg) 71 [t.av] = some t.av := by
 have h1 := EVk_of (copyIn_ev t h)
 obtain ⟨k, n, s, l⟩ := t
 rw [Tm.av_mk] at h1 ⊢
 apply Gets.get
 refine term_Copy_run _ _ _ _ ?_
 simp only [copyCell] at h1
 rw [h1]
 simp [← Tm.av_mk]
end Go.Proofs.YtkgkjngbfdnoiaaGreat
end

section
namespace Go.Proofs.YtkgkjngbfdnoiaaGreat
open Go.Av
def avL (t : Tm) : AV := .agg [.int .i64 t.kind, .int .i64 t.num, .str t.str, .lsl (rowsT t.subs)]
theorem avL_mk (k n : Int) (s : List UInt8) (l : List Tm) : avL (Tm.mk k n s l) = .agg [.int .i64 k, .int .i64 n, .str s, .lsl (rowsT l)] := rfl
theorem copyInL_ev (t : Tm) : t.Ok → EVx (EV cfg) 159 [avL t, .ptr 0 0 0] 1 copyCell = some (t.av, copyCell) := by
 induction t using Tm.ind with
 | _ k n s l ih =>
  intro hok
  have hlen := hok.len
  have loop : ∀ (d i : Nat), i + d = l.length → Gets (whc63_0 (rowsT l) i k n s 0 0 [] [] (rowsT (l.take i) ++ List.replicate d [.int .i64 0, .int .i64 0, .str [], .nilS])) (· = ((Tm.mk k n s l).av, copyCell)) := by
   intro d
   induction d with
   | zero =>
    intro i hi
    refine whc63_0_step _ _ _ _ _ _ _ _ _ _ ?_
    obtain rfl : i = l.length := by omega
    have e : l.take l.length = l := List.take_of_length_le (Nat.le_refl _)
    rw [e]
    simp
    rfl
   | succ d ihd =>
    intro i hi
    refine whc63_0_step _ _ _ _ _ _ _ _ _ _ ?_
    have hil : i < l.length := by omega
    have hx : l[i]? = some l[i] := List.getElem?_eq_getElem hil
    have hxl := List.mem_of_getElem? hx
    have hix := EVk_of (ih l[i] hxl (hok.sub hxl))
    have hih := ihd (i + 1) (by omega)
    have hw := wrap_s hil hlen
    have e1 : l.take (i + 1) = l.take i ++ [l[i]] := by rw [List.take_add_one, hx]; rfl
    have ht : (rowsT (l.take i)).length = i := by rw [rowsT_length, List.length_take]; omega
    have g : (rowsT (l.take i) ++ List.replicate (d + 1) [AV.int .i64 0, .int .i64 0, .str [], .nilS])[i]? = some [AV.int .i64 0, .int .i64 0, .str [], .nilS] := by
     rw [List.getElem?_append_right (by omega), ht, Nat.sub_self]; rfl
    have g2 : (rowsT (l.take i) ++ List.replicate (d + 1) [AV.int .i64 0, .int .i64 0, .str [], .nilS]).set i l[i].cells = rowsT (l.take (i + 1)) ++ List.replicate d [AV.int .i64 0, .int .i64 0, .str [], .nilS] := by
     rw [List.set_append_right _ _ (by omega), e1, rowsT_append, rowsT_cons, rowsT_nil]
     have e3 : i - (rowsT (l.take i)).length = 0 := by omega
     rw [e3, List.replicate_succ, List.set_cons_zero, List.append_assoc]; rfl
    simp only [copyCell, avL] at hix
    simp [hil, hx, hix, g, hw]
    rw [g2]
    simpa using hih
  apply Gets.get
  rw [Tm.av_mk, avL_mk]
  refine copyInL_run _ _ _ _ ?_
  rw [rowsT_length]
  by_cases hl : l.length = 0
  ·have : l = [] := List.length_eq_zero_iff.1 hl
   subst this
   simp [copyCell, AV.refsLt, refsLtL]
  ·have hl' : ((l.length : Int) == 0) = false := by rw [beqD]; exact decide_eq_false (by omega)
   have h56 : leInt ((l.length : Int) * 56) 140737488355328 = true := by simp [leInt]; omega
   have hm : leInt (l.length : Int) 9223372036854775807 = true := by simp [leInt]; omega
   have hz : leInt 0 (l.length : Int) = true := leInt_zero _
   have hs : leInt (l.length : Int) (l.length : Int) = true := by simp [leInt]
   rw [hl', h56, hm, hz, hs]
   have := loop l.length 0 (by omega)
   rw [Tm.av_mk] at this
   simpa using this
theorem copyL_ev {t : Tm} (h : t.Ok) : EVf (EV cfg) 71 [avL t] = some t.av := by
 have h1 := EVk_of (copyInL_ev t h)
 obtain ⟨k, n, s, l⟩ := t
 rw [Tm.av_mk, avL_mk] at h1 ⊢
 apply Gets.get
 refine term_Copy_runL _ _ _ _ ?_
 simp only [copyCell] at h1
 rw [h1]
 simp [← Tm.av_mk]
end Go.Proofs.YtkgkjngbfdnoiaaGreat
end

section
namespace Go.Proofs.YtkgkjngbfdnoiaaGreat
open Go.Av
set_option maxRecDepth 20000
def avR (id : Nat) (t : Tm) : AV := .agg [.int .i64 t.kind, .int .i64 t.num, .str t.str, .rsl id (rowsT t.subs)]

theorem rep0_rows {L : Lent} {C : Claims} {μ : MMap} (l : List Tm) (ih : ∀ t ∈ l, ∀ v, @Rep L C μ (.sl (rowsT t.subs)) v → Rep0 C (.sl (rowsT t.subs)) v) {v : Value} (h : @Rep L C μ (.sl (rowsT l)) v) : Rep0 C (.sl (rowsT l)) v := by
 generalize hR : rowsT l = R at h
 cases h with
 | slNil => exact .slNil
 | sl _ a cap sz vals hs hsz hc hr hcell hcap hfree =>
  refine .sl R a cap sz vals hs hsz hc (fun i j row x h1 h2 => ?_) hcell hcap hfree
  have hrep := hr i j row x h1 h2
  rw [← hR, rowsT_get] at h1
  cases hl : l[i]? with
  | none => rw [hl] at h1; cases h1
  | some t =>
   rw [hl] at h1
   cases h1
   obtain ⟨k, n, s, l'⟩ := t
   rw [Tm.cells_mk] at h2
   match j, h2 with
   | 0, h2 => cases h2; generalize vals i 0 = u at hrep ⊢; cases hrep; exact .int _ _
   | 1, h2 => cases h2; generalize vals i 1 = u at hrep ⊢; cases hrep; exact .int _ _
   | 2, h2 => cases h2; generalize vals i 2 = u at hrep ⊢; cases hrep; exact .str _
   | 3, h2 => cases h2; exact ih _ (List.mem_of_getElem? hl) _ hrep
   | j + 4, h2 => simp at h2
theorem rep0_tm {L : Lent} {C : Claims} {μ : MMap} (t : Tm) : ∀ v, @Rep L C μ (.sl (rowsT t.subs)) v → Rep0 C (.sl (rowsT t.subs)) v := by
 induction t using Tm.ind with
 | _ k n s l ih => exact fun v h => rep0_rows l ih h
theorem Rep0.claims {D D' : Claims} {a : AV} {v : Value} (hD : ∀ b o v, D b o = some v → D' b o = some v) (h : Rep0 D a v) : Rep0 D' a v := by
 induction h with
 | int k n => exact .int k n
 | bool b => exact .bool b
 | str s => exact .str s
 | nilS => exact .nilS
 | slNil => exact .slNil
 | em a cap => exact .em a cap
 | sl rows a cap sz vals hs hsz hc _ hcell hcap hfree ih => exact .sl rows a cap sz vals hs hsz (fun i j row x h1 h2 => hD _ _ _ (hc i j row x h1 h2)) ih hcell hcap hfree

@[reducible] def lentAll (L : Lent) (C : Claims) : Lent := ⟨fun b o => match C b o with | some v => some v | none => L.l b o, True⟩
theorem rows_claim {D : Claims} {l : List Tm} {v : Value} (h : Rep0 D (.sl (rowsT l)) v) (hl : rowsT l ≠ []) : ∃ b o, D b o ≠ none := by
 generalize hR : rowsT l = R at h
 cases h with
 | slNil => exact absurd hR hl
 | sl _ a cap sz vals hs hsz hc hr hcell hcap hfree =>
  cases l with
  | nil => exact absurd (by rw [rowsT]) hl
  | cons t l =>
   obtain ⟨k, n, s, l'⟩ := t
   have h1 : R[0]? = some [.int .i64 k, .int .i64 n, .str s, .sl (rowsT l')] := by rw [← hR, rowsT_get]; exact congrArg some (Tm.cells_mk k n s l')
   exact ⟨_, _, by rw [hc 0 0 _ _ h1 rfl]; simp⟩

theorem EVf_get {cf : Orac} {f : Nat} {al : List AV} {v : AV} (h : EVf cf f al = some v) : ∃ r H, cf (.f f) al [] = some (r, H) ∧ (r.frz r.msIds H).fg = v := by
 unfold EVf at h
 cases hc : cf (.f f) al [] with
 | none => rw [hc] at h; cases h
 | some q => rw [hc] at h; exact ⟨q.1, q.2, rfl, Option.some.inj h⟩
theorem lent_call [Lent] (hu : Lent.u) {f : FuncId} {al : List AV} {k n : Int} {s : List UInt8} {l : List Tm} (he : EVf (EV cfg) f al = some (Tm.mk k n s l).av) {w : World} {vs : Array Value} (hw : Wld (fun _ => fun _ => none) (fun _ => none) [] w) (ha : FrRep (fun _ => fun _ => none) (fun _ => none) al vs) :
  CallR Tryz.prog (callFunc f vs) w (fun v w1 => ∃ (D : Claims) (v3 : Value), v = .agg [.int .i64 k, .int .i64 n, .string ⟨s.toArray⟩, v3].toArray ∧ Rep0 D (.sl (rowsT l)) v3 ∧ (∀ b o u, D b o = some u → w1.cell? ⟨b, o, none⟩ = some u ∧ w1.frozen? ⟨b, o, none⟩ = false ∧ w.heap.size ≤ b) ∧
   (∀ b, b < w.heap.size → w1.heap[b]? = w.heap[b]?) ∧ w.heap.size ≤ w1.heap.size ∧ w1.os = w.os ∧ w1.tape = w.tape ∧ w1.output = w.output) := by
 have he2 := EVf_get he
 clear he
 obtain ⟨qr, qH, hq, hqe⟩ := he2
 have hO := EV_sound cfg_ok
 have hcall := hO.calls _ _ _ _ _ hq (fun _ => fun _ => none) (fun _ => none) w vs _ ha hw rfl
 refine hcall.mono fun v w1 ⟨C2, μ2, e1, e2, e3⟩ => ?_
 obtain ⟨C3, a1, a2, a3⟩ := frzBlks_sound qr.msIds e2
 have x := e3.trans (a3 0 (Nat.zero_le _)) (Nat.le_refl _)
 have r1 : Rep C3 μ2 (Tm.mk k n s l).av v := by
  rw [← hqe]
  exact ((e1.mono a1 (fun _ _ h => h)).frzA (AllFrz.of a2)).fgA
 rw [Tm.av_mk] at r1
 cases r1 with
 | agg _ us hl hh =>
 match us, hl, hh with
 | [u0, u1, u2, u3], _, hh =>
 have h0 : Rep0 C3 (.sl (rowsT l)) u3 := rep0_tm (.mk k n s l) u3 (hh 3 _ _ rfl rfl)
 have q0 := hh 0 _ _ rfl rfl
 have q1 := hh 1 _ _ rfl rfl
 have q2 := hh 2 _ _ rfl rfl
 cases q0; cases q1; cases q2
 refine ⟨C3, u3, rfl, h0, fun b o u h => ⟨a2.cl b o u h, a2.lnt.2 hu b o u h, ?_⟩, fun b hb => (x.fr b hb not_live_nil).1, x.size, x.os, x.tape, x.output⟩
 rcases Nat.lt_or_ge b w.heap.size with hb | hb
 ·have h5 := (x.fr b hb not_live_nil).2.2
  rw [h5] at h; cases h
 ·exact hb
theorem reg_call [L : Lent] {f : FuncId} {al : List AV} {t : Tm} (he : EVf (EV cfg) f al = some t.av) {C : Claims} {w : World} {vs : Array Value} (hw : Wld C (fun _ => none) [] w) (ha' : @FrRep (lentAll L C) (fun _ => fun _ => none) (fun _ => none) al vs) :
  CallR Tryz.prog (callFunc f vs) w (Post1 C (fun _ => none) [] w (avR 0 t) [.reg]) := by
 have hlent : ∀ b o v, (lentAll L C).l b o = some v → w.cell? ⟨b, o, none⟩ = some v := fun b o v h => by
  have h : (match C b o with | some v => some v | none => L.l b o) = some v := h
  split at h
  ·rename_i u hu; cases h; exact hw.cl _ _ _ hu
  ·exact hw.lnt.1 _ _ _ h
 have hw' : @Wld (lentAll L C) (fun _ => fun _ => none) (fun _ => none) [] w :=
  @Wld.mk (lentAll L C) _ _ _ _ (fun b o v h => (nomatch h)) (fun id m hm => (nomatch hm)) (fun id hi => rfl) (fun id blk h1 => (by simp at h1)) (fun id d sz rs h1 => (by simp at h1)) (fun i i' b b' m m' h1 => (by simp at h1)) FreeH.nil ⟨hlent, fun _ b o v h => (nomatch h)⟩
 obtain ⟨k, n, s, l⟩ := t
 refine (@lent_call (lentAll L C) trivial _ _ _ _ _ _ he _ _ hw' ha').mono fun v w1 ⟨C3, u3, hv, h0, hD, old, hsz, hos, htp, hou⟩ => ?_
 subst hv
 have hw1 : Wld C (fun _ => none) [] w1 := hw.world hsz old
 have fin : ∀ μ' : MMap, (rowsT l ≠ [] → ∃ m, μ' 0 = some m ∧ m.D = C3) → Rep C μ' (avR 0 (.mk k n s l)) (.agg [.int .i64 k, .int .i64 n, .string ⟨s.toArray⟩, u3].toArray) := by
  intro μ' hm
  refine Rep.agg _ [.int .i64 k, .int .i64 n, .string ⟨s.toArray⟩, u3] rfl (fun i a v h1 h2 => ?_)
  match i, h1, h2 with
  | 0, h1, h2 => cases h1; cases h2; exact .int _ _
  | 1, h1, h2 => cases h1; cases h2; exact .int _ _
  | 2, h1, h2 => cases h1; cases h2; exact .str _
  | 3, h1, h2 => cases h1; cases h2; exact .rsl 0 _ _ C3 hm h0
  | i + 4, h1, h2 => simp at h1
 by_cases hex : ∃ b o, C3 b o ≠ none
 ·obtain ⟨b0, o0, hb0⟩ := hex
  have hhas : ∀ b, (MI.mk b0 0 0 0 C3).has b → ∃ o u, C3 b o = some u := by
   rintro b (h | ⟨o, h⟩)
   ·have : b0 = b := h
    subst this
    cases hc : C3 b0 o0 with
    | none => exact absurd hc hb0
    | some u => exact ⟨o0, u, hc⟩
   ·cases hc : C3 b o with
    | none => exact absurd hc h
    | some u => exact ⟨o, u, hc⟩
  have hge : ∀ b, (MI.mk b0 0 0 0 C3).has b → w.heap.size ≤ b := fun b hb => by
   obtain ⟨o, u, hc⟩ := hhas b hb
   exact (hD b o u hc).2.2
  have hlt : ∀ b, (MI.mk b0 0 0 0 C3).has b → b < w1.heap.size := fun b hb => by
   obtain ⟨o, u, hc⟩ := hhas b hb
   exact World.block_lt_of_cell? w1 ⟨b, o, none⟩ ((hD b o u hc).1)
  obtain ⟨n1, n2, n3, n4, n5⟩ := hw1.new (nid := none) (k := 0) (H' := [.reg]) (blk := .reg) (m := MI.mk b0 0 0 0 C3) rfl (fun b hb => not_live_nil) hlt
   (fun b hb o => by
    cases hc : C b o with
    | none => rfl
    | some u => have h5 := hw.block_lt hc; have h6 := hge b hb; omega)
   (fun b hb => hw.lent_none (hge b hb)) rfl (fun b o u hd => ⟨(hD b o u hd).1, (hD b o u hd).2.1⟩)
  refine ⟨C, _, fin _ (fun _ => ⟨_, by unfold upd; rw [if_pos rfl], rfl⟩), n1, ⟨hos, htp, hou, hsz, fun _ _ _ h => h, fun id m _ hm => (nomatch hm), fun b hb hnl => ⟨old b hb, fun hl => ?_, rfl⟩, Nat.zero_le _⟩⟩
  rcases n4 b hl with h | h
  ·exact not_live_nil h
  ·have := hge b h; omega
 ·obtain ⟨n1, n2⟩ := hw1.newV (nid := none) (k := 0) (H' := [.reg]) (blk := .reg) rfl rfl rfl trivial
  have n3 := n2 0 (Nat.zero_le _)
  refine ⟨C, _, fin (fun _ => none) (fun hne => absurd (rows_claim h0 hne) hex), n1, ⟨hos, htp, hou, hsz, fun _ _ _ h => h, fun id m _ hm => (nomatch hm), fun b hb hnl => ⟨old b hb, fun hl => ?_, rfl⟩, Nat.zero_le _⟩⟩
  obtain ⟨i, bi, mi, h1, h2, h3, h4⟩ := hl
  cases h3
theorem copy_reg [L : Lent] {t : Tm} (hok : t.Ok) {C : Claims} {w : World} {vs : Array Value} (hw : Wld C (fun _ => none) [] w) (ha : FrRep C (fun _ => none) [t.av] vs) :
  CallR Tryz.prog (callFunc 71 vs) w (Post1 C (fun _ => none) [] w (avR 0 t) [.reg]) := by
 have ha' : @FrRep (lentAll L C) (fun _ => fun _ => none) (fun _ => none) [avL t] vs := by
  obtain ⟨h1, h2⟩ := ha
  refine ⟨by simpa using h1, fun i a v hi hv => ?_⟩
  match i, hi with
  | 0, hi =>
   cases hi
   have h3 := h2 0 t.av v rfl hv
   obtain ⟨k, n, s, l⟩ := t
   rw [Tm.av_mk] at h3
   rw [avL_mk]
   cases h3 with
   | agg _ us hl hh =>
    refine @Rep.agg (lentAll L C) _ _ _ us hl (fun i a v h1 h2 => ?_)
    match i, h1 with
    | 0, h1 => cases h1; have h4 := hh 0 _ v rfl h2; cases h4; exact @Rep.int (lentAll L C) _ _ _ _
    | 1, h1 => cases h1; have h4 := hh 1 _ v rfl h2; cases h4; exact @Rep.int (lentAll L C) _ _ _ _
    | 2, h1 => cases h1; have h4 := hh 2 _ v rfl h2; cases h4; exact @Rep.str (lentAll L C) _ _ _
    | 3, h1 =>
     cases h1
     have h4 := hh 3 _ v rfl h2
     exact @Rep.lsl (lentAll L C) _ _ _ _ (Rep0.claims (fun b o v h => by show (match C b o with | some v => some v | none => L.l b o) = some v; rw [h]) (rep0_tm (.mk k n s l) v h4))
    | i + 4, h1 => simp at h1
  | i + 1, hi => simp at hi
 exact reg_call (f := 71) (al := [avL t]) (copyL_ev hok) hw ha'
end Go.Proofs.YtkgkjngbfdnoiaaGreat
end

section
namespace Go.Proofs.YtkgkjngbfdnoiaaGreat
open Go.Av
set_option maxRecDepth 100000
set_option maxHeartbeats 0

noncomputable def Ly99_0 : Den := evC cfg (EV cfg) 246 none 0 (sub (bodyOf Tryz.f246) [1, 1, 0, 0, 0])
noncomputable def Ay99_0 : Ex × List AV × AH → Option AV := kAft (Cfg.keepOut cfg 246 2) (kRun cfg (EV cfg) (kfN cfg 6) 246 none 0 (kFinS cfg (Cfg.lift cfg 246 0) Tryz.f246.results.toList) ([.block 0, .seq (sub (bodyOf Tryz.f246) [1, 1, 1])]))
noncomputable def Wy99_0 : List AV × AH → Option AV := fun p => kOpt (LOOP 0 (some [1, 4]) ([]) Ly99_0 p) Ay99_0
noncomputable def Ly64_0 : Den := evC cfg (EV cfg) 165 none 0 (sub (bodyOf Tryz.f165) [1, 1, 0, 1, 0, 0])
noncomputable def Ay64_0 : Ex × List AV × AH → Option AV := kAft (Cfg.keepOut cfg 165 3) (kRun cfg (EV cfg) (kfN cfg 6) 165 none 0 (kFinF cfg (Cfg.lift cfg 165 0) Tryz.f165.results.toList) ([.block 0, .seq (sub (bodyOf Tryz.f165) [1, 1, 1])]))
noncomputable def Wy64_0 : List AV × AH → Option AV := fun p => kOpt (LOOP 0 (some [0, 2, 3, 4]) ([]) Ly64_0 p) Ay64_0
noncomputable def Ly65_0 : Den := evC cfg (EV cfg) 166 none 0 (sub (bodyOf Tryz.f166) [1, 1, 0, 1, 0, 0])
noncomputable def Ay65_0 : Ex × List AV × AH → Option AV := kAft (Cfg.keepOut cfg 166 3) (kRun cfg (EV cfg) (kfN cfg 6) 166 none 0 (kFinF cfg (Cfg.lift cfg 166 0) Tryz.f166.results.toList) ([.block 0, .seq (sub (bodyOf Tryz.f166) [1, 1, 1])]))
noncomputable def Wy65_0 : List AV × AH → Option AV := fun p => kOpt (LOOP 0 (some [0, 3, 6, 7]) ([(6, 4)]) Ly65_0 p) Ay65_0
noncomputable def Ly29_0 : Den := evC cfg (EV cfg) 75 none 0 (sub (bodyOf Tryz.f75) [1, 1, 1, 0, 0, 1, 1, 1, 0, 1, 0, 1, 0, 0])
noncomputable def Ay29_0 : Ex × List AV × AH → Option AV := kAft (Cfg.keepOut cfg 75 9) (kRun cfg (EV cfg) (kfN cfg 6) 75 none 0 (kFinF cfg (Cfg.lift cfg 75 0) Tryz.f75.results.toList) ([.block 1, .seq (sub (bodyOf Tryz.f75) [1, 1, 1, 0, 0, 1, 1, 1, 0, 1, 1]), .block 0, .seq (sub (bodyOf Tryz.f75) [1, 1, 1, 1])]))
noncomputable def Wy29_0 : List AV × AH → Option AV := fun p => kOpt (LOOP 0 (some [3, 4, 8, 9]) ([(8, 4)]) Ly29_0 p) Ay29_0
noncomputable def Ly28_0 : Den := evC cfg (EV cfg) 74 none 0 (sub (bodyOf Tryz.f74) [1, 1, 0, 1, 0, 0])
noncomputable def Ay28_0 : Ex × List AV × AH → Option AV := kAft (Cfg.keepOut cfg 74 3) (kRun cfg (EV cfg) (kfN cfg 6) 74 none 0 (kFinF cfg (Cfg.lift cfg 74 0) Tryz.f74.results.toList) ([.block 0, .seq (sub (bodyOf Tryz.f74) [1, 1, 1])]))
noncomputable def Wy28_0 : List AV × AH → Option AV := fun p => kOpt (LOOP 0 (some [0, 3, 4]) ([(3, 1)]) Ly28_0 p) Ay28_0
noncomputable def Ly87_0 : Den := evC cfg (EV cfg) 236 none 0 (sub (bodyOf Tryz.f236) [1, 0, 1, 0, 0])
noncomputable def Ay87_0 : Ex × List AV × AH → Option AV := kAft (Cfg.keepOut cfg 236 2) (kRun cfg (EV cfg) (kfN cfg 6) 236 none 0 (kFinF cfg (Cfg.lift cfg 236 0) Tryz.f236.results.toList) ([.block 0, .seq (sub (bodyOf Tryz.f236) [1, 1])]))
noncomputable def Wy87_0 : List AV × AH → Option AV := fun p => kOpt (LOOP 0 (some [0, 1, 4, 6]) ([]) Ly87_0 p) Ay87_0
noncomputable def Ly59_0 : Den := evC cfg (EV cfg) 160 none 0 (sub (bodyOf Tryz.f160) [1, 0, 1, 0, 0])
noncomputable def Ay59_0 : Ex × List AV × AH → Option AV := kAft (Cfg.keepOut cfg 160 2) (kRun cfg (EV cfg) (kfN cfg 6) 160 none 0 (kFinS cfg (Cfg.lift cfg 160 0) Tryz.f160.results.toList) ([.block 0, .seq (sub (bodyOf Tryz.f160) [1, 1])]))
noncomputable def Wy59_0 : List AV × AH → Option AV := fun p => kOpt (LOOP 0 (some [0, 3]) ([]) Ly59_0 p) Ay59_0
noncomputable def Ly30_0 : Den := evC cfg (EV cfg) 76 none 0 (sub (bodyOf Tryz.f76) [1, 1, 0, 1, 0, 0])
noncomputable def Ay30_0 : Ex × List AV × AH → Option AV := kAft (Cfg.keepOut cfg 76 3) (kRun cfg (EV cfg) (kfN cfg 6) 76 none 0 (kFinF cfg (Cfg.lift cfg 76 0) Tryz.f76.results.toList) ([.block 0, .seq (sub (bodyOf Tryz.f76) [1, 1, 1])]))
noncomputable def Wy30_0 : List AV × AH → Option AV := fun p => kOpt (LOOP 0 (some [1, 2, 3, 4]) ([(3, 4)]) Ly30_0 p) Ay30_0
noncomputable def Ly120_0 : Den := evC cfg (EV cfg) 229 none 0 (sub (bodyOf Tryz.f229) [1, 1, 0, 1, 0, 0])
noncomputable def Ay120_0 : Ex × List AV × AH → Option AV := kAft (Cfg.keepOut cfg 229 3) (kRun cfg (EV cfg) (kfN cfg 6) 229 none 0 (kFinS cfg (Cfg.lift cfg 229 0) Tryz.f229.results.toList) ([.block 0, .seq (sub (bodyOf Tryz.f229) [1, 1, 1])]))
noncomputable def Wy120_0 : List AV × AH → Option AV := fun p => kOpt (LOOP 0 (some [0, 1, 5, 6]) ([]) Ly120_0 p) Ay120_0
noncomputable abbrev wy99_0 (v4 c0_0 c0_1 : Int) (c0_2 : List UInt8) (c0_3 : List (List AV)) : Option (AV) := Wy99_0  (((fx 18 [(1, .ptr 0 0 0), (4, .int .i64 v4)]) : List AV), ([.rows false 4 [[.int .i64 c0_0, .int .i64 c0_1, .str c0_2, .sl c0_3]]] : AH))
noncomputable abbrev wy64_0 (L : List (List AV)) (v4 c0_0 c0_1 : Int) (c0_2 : List UInt8) (c0_3 : List (List AV)) (c1_0 c1_1 : Int) (c1_2 : List UInt8) (c1_3 : List (List AV)) : Option (AV) := Wy64_0  (((fx 21 [(0, .sl L), (2, .ptr 0 0 0), (3, .ptr 1 0 0), (4, .int .i64 v4)]) : List AV), ([.rows false 4 [[.int .i64 c0_0, .int .i64 c0_1, .str c0_2, .sl c0_3]], .rows false 4 [[.int .i64 c1_0, .int .i64 c1_1, .str c1_2, .sl c1_3]]] : AH))
noncomputable abbrev wy65_0 (L : List (List AV)) (nv6 : Nat) (v7 c0_0 c0_1 : Int) (c0_2 : List UInt8) (c0_3 c0_4 : List (List AV)) (c0_5 : Int) (h1 : List (List AV)) : Option (AV) := Wy65_0  (((fx 32 [(0, .sl L), (3, .ptr 0 0 0), (6, .ms 1 0 nv6), (7, .int .i64 v7)]) : List AV), ([.rows false 6 [[.int .i64 c0_0, .int .i64 c0_1, .str c0_2, .sl c0_3, .sl c0_4, .int .i64 c0_5]], .rows true 4 h1] : AH))
noncomputable abbrev wy29_0 (nv8 : Nat) (v9 c0_0 c0_1 : Int) (c0_2 : List UInt8) (c0_3 c0_4 : List (List AV)) (c0_5 c1_0 c1_1 : Int) (c1_2 : List UInt8) (c1_3 h2 : List (List AV)) : Option (AV) := Wy29_0  (((fx 159 [(3, .ptr 0 0 0), (4, .ptr 1 0 0), (8, .ms 2 0 nv8), (9, .int .i64 v9)]) : List AV), ([.rows false 6 [[.int .i64 c0_0, .int .i64 c0_1, .str c0_2, .sl c0_3, .sl c0_4, .int .i64 c0_5]], .rows false 4 [[.int .i64 c1_0, .int .i64 c1_1, .str c1_2, .sl c1_3]], .rows true 4 h2] : AH))
noncomputable abbrev wy28_0 (bd : List (List AV)) (nv3 : Nat) (v4 : Int) (h0 : List (List AV)) : Option (AV) := Wy28_0  (((fx 20 [(0, .sl bd), (3, .ms 0 0 nv3), (4, .int .i64 v4)]) : List AV), ([.rows true 1 h0] : AH))
noncomputable abbrev wy87_0 (bd : List (List AV)) (n v6 c0_0 c0_1 : Int) (c0_2 : List UInt8) (c0_3 : List (List AV)) : Option (AV) := Wy87_0  (((fx 26 [(0, .sl bd), (1, .int .i64 n), (4, .ptr 0 0 0), (6, .int .i64 v6)]) : List AV), ([.rows false 4 [[.int .i64 c0_0, .int .i64 c0_1, .str c0_2, .sl c0_3]]] : AH))
noncomputable abbrev wy59_0 (bd : List (List AV)) (v3 : Int) : Option (AV) := Wy59_0  (((fx 51 [(0, .sl bd), (3, .int .i64 v3)]) : List AV), ([] : AH))
noncomputable abbrev wy30_0 (nv3 : Nat) (v4 c0_0 c0_1 : Int) (c0_2 : List UInt8) (c0_3 : List (List AV)) (c1_0 c1_1 : Int) (c1_2 : List UInt8) (c1_3 h2 : List (List AV)) : Option (AV) := Wy30_0  (((fx 24 [(1, .ptr 0 0 0), (2, .ptr 1 0 0), (3, .ms 2 0 nv3), (4, .int .i64 v4)]) : List AV), ([.rows false 4 [[.int .i64 c0_0, .int .i64 c0_1, .str c0_2, .sl c0_3]], .rows false 4 [[.int .i64 c1_0, .int .i64 c1_1, .str c1_2, .sl c1_3]], .rows true 4 h2] : AH))
noncomputable abbrev wy120_0 (A B : List (List AV)) (v5 v6 : Int) : Option (AV) := Wy120_0  (((fx 32 [(0, .sl A), (1, .sl B), (5, .int .i64 v5), (6, .int .i64 v6)]) : List AV), ([] : AH))
theorem r17Truth_run (b : Bool) {P : AV → Prop} (h : Gets (bif b then some (.agg [AV.int .i64 2, .int .i64 0, .str [(116 : UInt8), (114 : UInt8), (117 : UInt8), (101 : UInt8)], .sl []]) else some (.agg [AV.int .i64 2, .int .i64 0, .str [(102 : UInt8), (97 : UInt8), (108 : UInt8), (115 : UInt8), (101 : UInt8)], .sl []])) P) : Gets (EVf (EV cfg) 245 ([AV.bool b] : List AV)) P :=
  Gets.ev (fun _ h => funF rfl rfl Tryz.func245 rfl h) (Gets.eq (by kernel_rfl) h)
theorem r17Truths_run (kt nt : Int) (st : List UInt8) (lt : List (List AV)) {P : AV → Prop} (h : Gets (bif kt != 2 then some (AV.tup [.bool false, .bool false]) else bif ! st == [(116 : UInt8), (114 : UInt8), (117 : UInt8), (101 : UInt8)] then bif ! st == [(102 : UInt8), (97 : UInt8), (108 : UInt8), (115 : UInt8), (101 : UInt8)] then some (AV.tup [.bool false, .bool false]) else some (AV.tup [.bool (st == [(116 : UInt8), (114 : UInt8), (117 : UInt8), (101 : UInt8)]), .bool true]) else some (AV.tup [.bool (st == [(116 : UInt8), (114 : UInt8), (117 : UInt8), (101 : UInt8)]), .bool true])) P) : Gets (EVs (EV cfg) 237 ([AV.agg [AV.int IntKind.i64 kt, AV.int IntKind.i64 nt, AV.str st, AV.sl lt]] : List AV)) P :=
  Gets.ev (fun _ h => funS rfl rfl Tryz.func237 rfl h) (Gets.eq (by kernel_rfl) h)
noncomputable abbrev zd0  : Option (AV) := some (AV.tup [.agg [AV.int .i64 0, .int .i64 0, .str [], .sl []], .bool false])
theorem r17Within_run (n : Int) {P : AV → Prop} (h : Gets (bif decide (n < (- 576460752303423488)) then zd0 else bif decide (n > (576460752303423487 : Int)) then zd0 else some (AV.tup [.agg [AV.int .i64 1, .int .i64 n, .str [], .sl []], .bool true])) P) : Gets (EVf (EV cfg) 247 ([AV.int IntKind.i64 n] : List AV)) P :=
  Gets.ev (fun _ h => funF rfl rfl Tryz.func247 rfl h) (Gets.eq (by kernel_rfl) h)
noncomputable abbrev zd17 (n n_1 : Int) (s : List UInt8) (rows : List (List AV)) (b : Bool) : Option (AV) := some (AV.tup [.agg [AV.int .i64 n, .int .i64 n_1, .str s, .sl rows], .bool b])
noncomputable abbrev zd16 (cs : List AV) (n n_1 : Int) (s : List UInt8) (rows : List (List AV)) (b : Bool) : Option (AV) := kNil cs (zd17 n n_1 s rows b)
noncomputable abbrev zd15 (c : AV) (cs : List AV) (n n_1 : Int) (s : List UInt8) (rows : List (List AV)) : Option (AV) := kBool c fun b => zd16 cs n n_1 s rows b
noncomputable abbrev zd14 (cs : List AV) (n n_1 : Int) (s : List UInt8) (rows : List (List AV)) : Option (AV) := kCons cs fun c cs => zd15 c cs n n_1 s rows
noncomputable abbrev zd13 (cs_5 cs : List AV) (n n_1 : Int) (s : List UInt8) (rows : List (List AV)) : Option (AV) := kNil cs_5 (zd14 cs n n_1 s rows)
noncomputable abbrev zd12 (c : AV) (cs_5 cs : List AV) (n n_1 : Int) (s : List UInt8) : Option (AV) := kSl c fun rows => zd13 cs_5 cs n n_1 s rows
noncomputable abbrev zd11 (cs_4 cs : List AV) (n n_1 : Int) (s : List UInt8) : Option (AV) := kCons cs_4 fun c cs_5 => zd12 c cs_5 cs n n_1 s
noncomputable abbrev zd10 (c : AV) (cs_4 cs : List AV) (n n_1 : Int) : Option (AV) := kStr c fun s => zd11 cs_4 cs n n_1 s
noncomputable abbrev zd9 (cs_3 cs : List AV) (n n_1 : Int) : Option (AV) := kCons cs_3 fun c cs_4 => zd10 c cs_4 cs n n_1
noncomputable abbrev zd8 (c : AV) (cs_3 cs : List AV) (n : Int) : Option (AV) := kInt .i64 c fun n_1 => zd9 cs_3 cs n n_1
noncomputable abbrev zd7 (cs_2 cs : List AV) (n : Int) : Option (AV) := kCons cs_2 fun c cs_3 => zd8 c cs_3 cs n
noncomputable abbrev zd6 (c : AV) (cs_2 cs : List AV) : Option (AV) := kInt .i64 c fun n => zd7 cs_2 cs n
noncomputable abbrev zd5 (cs_1 cs : List AV) : Option (AV) := kCons cs_1 fun c cs_2 => zd6 c cs_2 cs
noncomputable abbrev zd4 (c : AV) (cs : List AV) : Option (AV) := kAgg c fun cs_1 => zd5 cs_1 cs
noncomputable abbrev zd3 (cs : List AV) : Option (AV) := kCons cs fun c cs => zd4 c cs
noncomputable abbrev zd2 (v : AV) : Option (AV) := kTup v fun cs => zd3 cs
noncomputable abbrev zd1  : Option (AV) := kOpt (EVf (EV cfg) 247 [AV.int .i64 0]) fun v => zd2 v
noncomputable abbrev zd23 (a b : Int) : Option (AV) := kOpt (EVf (EV cfg) 247 [AV.int .i64 (IntKind.wrap .i64 (a * b))]) fun v => zd2 v
noncomputable abbrev zd22 (a n b : Int) : Option (AV) := bif decide (a < n) then zd0 else zd23 a b
noncomputable abbrev zd21 (v : AV) (a b : Int) : Option (AV) := kInt .i64 v fun n => zd22 a n b
noncomputable abbrev zd20 (b a : Int) : Option (AV) := kOpt (fromSem (Op.intDiv BinOp.quo .i64 (- 576460752303423488) b)) fun v => zd21 v a b
noncomputable abbrev zd19 (b a : Int) : Option (AV) := bif decide (b > 0) then zd20 b a else zd23 a b
noncomputable abbrev zd18 (a b : Int) : Option (AV) := bif decide (a < 0) then zd19 b a else zd23 a b
noncomputable abbrev zd29  : Option (AV) := some (AV.tup [.agg [AV.int .i64 (0 : Int), .int .i64 0, .str [], .sl []], .bool false])
noncomputable abbrev zd28 (a n b : Int) : Option (AV) := bif decide (a < n) then zd29 else zd23 a b
noncomputable abbrev zd27 (v : AV) (a b : Int) : Option (AV) := kInt .i64 v fun n => zd28 a n b
noncomputable abbrev zd26 (b a : Int) : Option (AV) := kOpt (fromSem (Op.intDiv BinOp.quo .i64 (- 576460752303423488) b)) fun v => zd27 v a b
noncomputable abbrev zd25 (b a : Int) : Option (AV) := bif decide (b > 0) then zd26 b a else zd23 a b
noncomputable abbrev zd24 (a b : Int) : Option (AV) := bif decide (a < 0) then zd25 b a else zd23 a b
noncomputable abbrev zd34 (b n a : Int) : Option (AV) := bif decide (b < n) then zd0 else zd18 a b
noncomputable abbrev zd33 (v : AV) (b a : Int) : Option (AV) := kInt .i64 v fun n => zd34 b n a
noncomputable abbrev zd32 (a b : Int) : Option (AV) := kOpt (fromSem (Op.intDiv BinOp.quo .i64 (- 576460752303423488) a)) fun v => zd33 v b a
noncomputable abbrev zd31 (b a : Int) : Option (AV) := bif decide (b < 0) then zd32 a b else zd18 a b
noncomputable abbrev zd30 (a b : Int) : Option (AV) := bif decide (a > 0) then zd31 b a else zd18 a b
noncomputable abbrev zd37 (b a : Int) : Option (AV) := kOpt (fromSem (Op.intDiv BinOp.quo .i64 (- 576460752303423488 : Int) b)) fun v => zd21 v a b
noncomputable abbrev zd36 (b a : Int) : Option (AV) := bif decide (b > 0) then zd37 b a else zd23 a b
noncomputable abbrev zd35 (a b : Int) : Option (AV) := bif decide (a < 0) then zd36 b a else zd23 a b
theorem r17Product_run (a b : Int) {P : AV → Prop} (h : Gets (bif a == 0 then zd1 else bif b == 0 then zd1 else bif decide (a > 0) then bif decide (b > 0) then kOpt (fromSem (Op.intDiv BinOp.quo .i64 576460752303423487 b)) fun v => kInt .i64 v fun n => bif decide (a > n) then zd0 else bif decide (a < 0) then bif decide (b < 0) then kOpt (fromSem (Op.intDiv BinOp.quo .i64 576460752303423487 b)) fun v => kInt .i64 v fun n => bif decide (a < n) then zd0 else bif decide (a > 0) then bif decide (b < 0) then kOpt (fromSem (Op.intDiv BinOp.quo .i64 (- 576460752303423488) a)) fun v => kInt .i64 v fun n => bif decide (b < n) then some (AV.tup [.agg [AV.int .i64 0, .int .i64 (0 : Int), .str [], .sl []], .bool false]) else zd18 a b else zd24 a b else zd18 a b else zd30 a b else bif decide (a > 0) then bif decide (b < 0) then kOpt (fromSem (Op.intDiv BinOp.quo .i64 (- 576460752303423488 : Int) a)) fun v => zd33 v b a else zd18 a b else zd18 a b else bif decide (a < 0) then bif decide (b < 0) then kOpt (fromSem (Op.intDiv BinOp.quo .i64 576460752303423487 b)) fun v => kInt .i64 v fun n => bif decide (a < n) then zd0 else bif decide (a > 0) then zd31 b a else zd35 a b else bif decide (a > 0) then bif decide (b < 0) then kOpt (fromSem (Op.intDiv BinOp.quo .i64 (- 576460752303423488) a)) fun v => kInt .i64 v fun n => bif decide (b < n) then zd0 else zd35 a b else zd18 a b else zd18 a b else bif decide (a > 0) then bif decide (b < 0) then zd32 a b else zd24 a b else zd18 a b else bif decide (a < 0) then bif decide (b < 0) then kOpt (fromSem (Op.intDiv BinOp.quo .i64 576460752303423487 b)) fun v => kInt .i64 v fun n => bif decide (a < n) then zd0 else zd30 a b else bif decide (a > 0) then bif decide (b < 0) then kOpt (fromSem (Op.intDiv BinOp.quo .i64 (- 576460752303423488) a)) fun v => kInt .i64 v fun n => bif decide (b < n) then zd0 else zd24 a b else zd18 a b else zd18 a b else bif decide (a > (0 : Int)) then zd31 b a else zd35 a b) P) : Gets (EVf (EV cfg) 296 ([AV.int IntKind.i64 a, AV.int IntKind.i64 b] : List AV)) P :=
  Gets.ev (fun _ h => funF rfl rfl Tryz.func296 rfl h) (Gets.eq (by kernel_rfl) h)
theorem r17Kinds_run (op : List UInt8) (kt nt : Int) (st : List UInt8) (lt : List (List AV)) {P : AV → Prop} (h : Gets (bif op == [(105 : UInt8), (115 : UInt8), (95 : UInt8), (97 : UInt8), (116 : UInt8), (111 : UInt8), (109 : UInt8)] then some (.bool (kt == 2)) else bif op == [(105 : UInt8), (115 : UInt8), (95 : UInt8), (105 : UInt8), (110 : UInt8), (116 : UInt8), (101 : UInt8), (103 : UInt8), (101 : UInt8), (114 : UInt8)] then some (.bool (kt == 1)) else bif op == [(105 : UInt8), (115 : UInt8), (95 : UInt8), (108 : UInt8), (105 : UInt8), (115 : UInt8), (116 : UInt8)] then bif kt == 9 then some (.bool true) else some (.bool (kt == (8 : Int))) else bif op == [(105 : UInt8), (115 : UInt8), (95 : UInt8), (116 : UInt8), (117 : UInt8), (112 : UInt8), (108 : UInt8), (101 : UInt8)] then some (.bool (kt == 7)) else bif op == [(105 : UInt8), (115 : UInt8), (95 : UInt8), (112 : UInt8), (105 : UInt8), (100 : UInt8)] then some (.bool (kt == 6)) else bif op == [(105 : UInt8), (115 : UInt8), (95 : UInt8), (102 : UInt8), (117 : UInt8), (110 : UInt8), (99 : UInt8), (116 : UInt8), (105 : UInt8), (111 : UInt8), (110 : UInt8)] then some (.bool (kt == 5)) else bif kt == 3 then some (.bool true) else some (.bool (kt == 4))) P) : Gets (EVs (EV cfg) 248 ([AV.str op, AV.agg [AV.int IntKind.i64 kt, AV.int IntKind.i64 nt, AV.str st, AV.sl lt]] : List AV)) P :=
  Gets.ev (fun _ h => funS rfl rfl Tryz.func248 rfl h) (Gets.eq (by kernel_rfl) h)
theorem r17Length_run (kt nt : Int) (st : List UInt8) (lt : List (List AV)) {P : AV → Prop} (h : Gets (wy99_0 0 kt nt st lt) P) : Gets (EVs (EV cfg) 246 ([AV.agg [AV.int IntKind.i64 kt, AV.int IntKind.i64 nt, AV.str st, AV.sl lt]] : List AV)) P :=
  Gets.ev (fun _ h => funS rfl rfl Tryz.func246 rfl h) (Gets.eq (by kernel_rfl) h)
noncomputable abbrev zd42 (n n_1 : Int) (s : List UInt8) (rows : List (List AV)) : Option (AV) := (some (AV.tup [.agg [AV.int .i64 n, .int .i64 n_1, .str s, .sl rows], .bool true]))
noncomputable abbrev zd41 (row : List AV) : Option (AV) := kTmC (List.take 4 row) fun n n_1 s rows => zd42 n n_1 s rows
noncomputable abbrev zd40 (row : List AV) : Option (AV) := bif Nat.ble 4 (List.length row) then zd41 row else none
noncomputable abbrev zd39 (row : List AV) : Option (AV) := bif Nat.beq (List.length row) 4 then zd40 row else none
noncomputable abbrev zd38 (lt : List (List AV)) : Option (AV) := kOpt (List.get?Internal lt 0) fun row => zd39 row
noncomputable abbrev zd43 (lt : List (List AV)) : Option (AV) := kOpt (List.get?Internal lt 1) fun row => zd39 row
noncomputable abbrev zd46 (nt : Int) : Option (AV) := kOpt (EVf (EV cfg) 247 [AV.int .i64 (IntKind.wrap .i64 ((- 1) - nt))]) fun v => zd2 v
noncomputable abbrev zd48 (nt : Int) : Option (AV) := kOpt (EVf (EV cfg) 247 [AV.int .i64 (IntKind.wrap .i64 (0 - nt))]) fun v => zd2 v
noncomputable abbrev zd51 (kt nt : Int) (st : List UInt8) (lt : List (List AV)) : Option (AV) := some (AV.tup [.agg [AV.int .i64 kt, .int .i64 nt, .str st, .sl lt], .bool true])
noncomputable abbrev zd50 (nt kt : Int) (st : List UInt8) (lt : List (List AV)) : Option (AV) := bif decide (nt < 0) then zd48 nt else zd51 kt nt st lt
noncomputable abbrev zd49 (op : List UInt8) (nt kt : Int) (st : List UInt8) (lt : List (List AV)) : Option (AV) := bif op == [(97 : UInt8), (98 : UInt8), (115 : UInt8)] then zd50 nt kt st lt else zd51 kt nt st lt
noncomputable abbrev zd47 (op : List UInt8) (nt kt : Int) (st : List UInt8) (lt : List (List AV)) : Option (AV) := bif op == [(45 : UInt8)] then zd48 nt else zd49 op nt kt st lt
noncomputable abbrev zd45 (op : List UInt8) (nt kt : Int) (st : List UInt8) (lt : List (List AV)) : Option (AV) := bif op == [(98 : UInt8), (110 : UInt8), (111 : UInt8), (116 : UInt8)] then zd46 nt else zd47 op nt kt st lt
noncomputable abbrev zd44 (kt : Int) (op : List UInt8) (nt : Int) (st : List UInt8) (lt : List (List AV)) : Option (AV) := bif kt != 1 then zd0 else zd45 op nt kt st lt
noncomputable abbrev zd54 (v : AV) : Option (AV) := kTmV v fun n n_1 s rows => zd42 n n_1 s rows
noncomputable abbrev zd53 (b : Bool) : Option (AV) := kOpt (EVf (EV cfg) 245 [.bool b]) fun v => zd54 v
noncomputable abbrev zd52 (v : AV) : Option (AV) := kBool v fun b => zd53 b
theorem r17One_run (op : List UInt8) (kt nt : Int) (st : List UInt8) (lt : List (List AV)) {P : AV → Prop} (h : Gets (bif op == [(110 : UInt8), (111 : UInt8), (116 : UInt8)] then kOpt (EVs (EV cfg) 237 [.agg [AV.int .i64 kt, .int .i64 nt, .str st, .sl lt]]) fun v => kTup v fun cs => kCons cs fun c cs => kBool c fun b => kCons cs fun c cs => kBool c fun b_1 => kNil cs (kOpt (EVf (EV cfg) 245 [.bool ! b]) fun v => kTmV v fun n n_1 s rows => (some (AV.tup [.agg [AV.int .i64 n, .int .i64 n_1, .str s, .sl rows], .bool b_1]))) else bif op == [(116 : UInt8), (117 : UInt8), (112 : UInt8), (108 : UInt8), (101 : UInt8), (95 : UInt8), (115 : UInt8), (105 : UInt8), (122 : UInt8), (101 : UInt8)] then some (AV.tup [.agg [AV.int .i64 (1 : Int), .int .i64 (lt.length : Int), .str [], .sl []], .bool (kt == 7)]) else bif op == [(115 : UInt8), (105 : UInt8), (122 : UInt8), (101 : UInt8)] then some (AV.tup [.agg [AV.int .i64 1, .int .i64 (lt.length : Int), .str [], .sl []], .bool (kt == 7)]) else bif op == [(104 : UInt8), (100 : UInt8)] then bif kt != 9 then zd0 else bif op == [(104 : UInt8), (100 : UInt8)] then bif ltInt 0 (↑ (List.length lt) : Int) then zd38 lt else none else bif ltInt 1 (↑ (List.length lt) : Int) then zd43 lt else none else bif op == [(116 : UInt8), (108 : UInt8)] then bif kt != 9 then zd0 else bif op == [(104 : UInt8), (100 : UInt8)] then bif ltInt 0 (lt.length : Int) then zd38 lt else none else bif ltInt 1 (lt.length : Int) then zd43 lt else none else bif op == [(108 : UInt8), (101 : UInt8), (110 : UInt8), (103 : UInt8), (116 : UInt8), (104 : UInt8)] then kOpt (EVs (EV cfg) 246 [.agg [AV.int .i64 kt, .int .i64 nt, .str st, .sl lt]]) fun v => kTup v fun cs => kCons cs fun c cs => kInt .i64 c fun n => kCons cs fun c cs => kBool c fun b => kNil cs (some (AV.tup [.agg [AV.int .i64 1, .int .i64 n, .str [], .sl []], .bool b])) else bif op == [(98 : UInt8), (110 : UInt8), (111 : UInt8), (116 : UInt8)] then zd44 kt op nt st lt else bif op == [(97 : UInt8), (98 : UInt8), (115 : UInt8)] then zd44 kt op nt st lt else bif op == [(43 : UInt8)] then bif kt != 1 then zd0 else bif op == [(98 : UInt8), (110 : UInt8), (111 : UInt8), (116 : UInt8)] then zd46 nt else bif op == [(45 : UInt8)] then zd48 nt else bif op == [(97 : UInt8), (98 : UInt8), (115 : UInt8)] then bif decide (nt < 0) then kOpt (EVf (EV cfg) 247 [AV.int .i64 (IntKind.wrap .i64 ((0 : Int) - nt))]) fun v => zd2 v else zd51 kt nt st lt else zd51 kt nt st lt else bif op == [(45 : UInt8)] then zd44 kt op nt st lt else kOpt (EVs (EV cfg) 248 [.str op, .agg [AV.int .i64 kt, .int .i64 nt, .str st, .sl lt]]) fun v => zd52 v) P) : Gets (EVf (EV cfg) 177 ([AV.str op, AV.agg [AV.int IntKind.i64 kt, AV.int IntKind.i64 nt, AV.str st, AV.sl lt]] : List AV)) P :=
  Gets.ev (fun _ h => funF rfl rfl Tryz.func177 rfl h) (Gets.eq (by kernel_rfl) h)
theorem r17Compares_run (op : List UInt8) (c : Int) {P : AV → Prop} (h : Gets (bif op == [(61 : UInt8), (61 : UInt8)] then some (.bool (c == 0)) else bif op == [(61 : UInt8), (58 : UInt8), (61 : UInt8)] then some (.bool (c == 0)) else bif op == [(47 : UInt8), (61 : UInt8)] then some (.bool (c != 0)) else bif op == [(61 : UInt8), (47 : UInt8), (61 : UInt8)] then some (.bool (c != 0)) else bif op == [(60 : UInt8)] then some (.bool (decide (c < 0))) else bif op == [(61 : UInt8), (60 : UInt8)] then some (.bool (decide (c ≤ 0))) else bif op == [(62 : UInt8)] then some (.bool (decide (c > 0))) else some (.bool (decide (c ≥ 0)))) P) : Gets (EVs (EV cfg) 249 ([AV.str op, AV.int IntKind.i64 c] : List AV)) P :=
  Gets.ev (fun _ h => funS rfl rfl Tryz.func249 rfl h) (Gets.eq (by kernel_rfl) h)
theorem r17Bools_run (op : List UInt8) (a b : Bool) {P : AV → Prop} (h : Gets (bif op == [(97 : UInt8), (110 : UInt8), (100 : UInt8)] then bif a then some (.bool b) else some (.bool false) else bif op == [(97 : UInt8), (110 : UInt8), (100 : UInt8), (97 : UInt8), (108 : UInt8), (115 : UInt8), (111 : UInt8)] then bif a then some (.bool b) else some (.bool false) else bif op == [(111 : UInt8), (114 : UInt8)] then bif a then some (.bool true) else some (.bool b) else bif op == [(111 : UInt8), (114 : UInt8), (101 : UInt8), (108 : UInt8), (115 : UInt8), (101 : UInt8)] then bif a then some (.bool true) else some (.bool b) else some (.bool ! a == b)) P) : Gets (EVs (EV cfg) 250 ([AV.str op, AV.bool a, AV.bool b] : List AV)) P :=
  Gets.ev (fun _ h => funS rfl rfl Tryz.func250 rfl h) (Gets.eq (by kernel_rfl) h)
noncomputable abbrev zd59 (n : Int) : Option (AV) := kOpt (EVf (EV cfg) 247 [AV.int .i64 n]) fun v => zd2 v
noncomputable abbrev zd58 (v : AV) : Option (AV) := kInt .i64 v fun n => zd59 n
noncomputable abbrev zd57 (a b : Int) : Option (AV) := kOpt (fromSem (Op.intDiv BinOp.quo .i64 a b)) fun v => zd58 v
noncomputable abbrev zd60 (a b : Int) : Option (AV) := kOpt (fromSem (Op.intDiv BinOp.rem .i64 a b)) fun v => zd58 v
noncomputable abbrev zd56 (op : List UInt8) (a b : Int) : Option (AV) := bif op == [(100 : UInt8), (105 : UInt8), (118 : UInt8)] then zd57 a b else zd60 a b
noncomputable abbrev zd55 (b : Int) (op : List UInt8) (a : Int) : Option (AV) := bif b == 0 then zd0 else zd56 op a b
theorem r17Numbers_run (op : List UInt8) (a b : Int) {P : AV → Prop} (h : Gets (bif op == [(43 : UInt8)] then kOpt (EVf (EV cfg) 247 [AV.int .i64 (IntKind.wrap .i64 (a + b))]) fun v => zd2 v else bif op == [(45 : UInt8)] then kOpt (EVf (EV cfg) 247 [AV.int .i64 (IntKind.wrap .i64 (a - b))]) fun v => zd2 v else bif op == [(42 : UInt8)] then kOpt (EVf (EV cfg) 296 [AV.int .i64 a, .int .i64 b]) fun v => zd2 v else bif op == [(100 : UInt8), (105 : UInt8), (118 : UInt8)] then zd55 b op a else bif op == [(114 : UInt8), (101 : UInt8), (109 : UInt8)] then zd55 b op a else bif op == [(98 : UInt8), (97 : UInt8), (110 : UInt8), (100 : UInt8)] then kOpt (fromSem (Op.intBits BinOp.and .i64 a b)) fun v => zd58 v else bif op == [(98 : UInt8), (111 : UInt8), (114 : UInt8)] then kOpt (fromSem (Op.intBits BinOp.or .i64 a b)) fun v => zd58 v else kOpt (fromSem (Op.intBits BinOp.xor .i64 a b)) fun v => zd58 v) P) : Gets (EVf (EV cfg) 251 ([AV.str op, AV.int IntKind.i64 a, AV.int IntKind.i64 b] : List AV)) P :=
  Gets.ev (fun _ h => funF rfl rfl Tryz.func251 rfl h) (Gets.eq (by kernel_rfl) h)
noncomputable abbrev zd63 (op : List UInt8) (n : Int) : Option (AV) := kOpt (EVs (EV cfg) 249 [.str op, .int .i64 n]) fun v => zd52 v
noncomputable abbrev zd62 (v : AV) (op : List UInt8) : Option (AV) := kInt .i64 v fun n => zd63 op n
noncomputable abbrev zd61 (ka na : Int) (sa : List UInt8) (la : List (List AV)) (kb nb : Int) (sb : List UInt8) (lb : List (List AV)) (op : List UInt8) : Option (AV) := kOpt (EVs (EV cfg) 151 [.agg [AV.int .i64 ka, .int .i64 na, .str sa, .sl la], .agg [AV.int .i64 kb, .int .i64 nb, .str sb, .sl lb]]) fun v => zd62 v op
noncomputable abbrev zd82 (b_1 : Bool) (n n_1 : Int) (s : List UInt8) (rows : List (List AV)) (b_3 : Bool) : Option (AV) := (bif b_1 then some (AV.tup [.agg [AV.int .i64 n, .int .i64 n_1, .str s, .sl rows], .bool b_3]) else some (AV.tup [.agg [AV.int .i64 n, .int .i64 n_1, .str s, .sl rows], .bool false]))
noncomputable abbrev zd81 (v : AV) (b_1 b_3 : Bool) : Option (AV) := kTmV v fun n n_1 s rows => zd82 b_1 n n_1 s rows b_3
noncomputable abbrev zd80 (b b_1 b_3 : Bool) : Option (AV) := kOpt (EVf (EV cfg) 245 [.bool b]) fun v => zd81 v b_1 b_3
noncomputable abbrev zd79 (v : AV) (b_1 b_3 : Bool) : Option (AV) := kBool v fun b => zd80 b b_1 b_3
noncomputable abbrev zd78 (op : List UInt8) (b b_2 b_1 b_3 : Bool) : Option (AV) := kOpt (EVs (EV cfg) 250 [.str op, .bool b, .bool b_2]) fun v => zd79 v b_1 b_3
noncomputable abbrev zd77 (cs : List AV) (op : List UInt8) (b b_2 b_1 b_3 : Bool) : Option (AV) := kNil cs (zd78 op b b_2 b_1 b_3)
noncomputable abbrev zd76 (c : AV) (cs : List AV) (op : List UInt8) (b b_2 b_1 : Bool) : Option (AV) := kBool c fun b_3 => zd77 cs op b b_2 b_1 b_3
noncomputable abbrev zd75 (cs : List AV) (op : List UInt8) (b b_2 b_1 : Bool) : Option (AV) := kCons cs fun c cs => zd76 c cs op b b_2 b_1
noncomputable abbrev zd74 (c : AV) (cs : List AV) (op : List UInt8) (b b_1 : Bool) : Option (AV) := kBool c fun b_2 => zd75 cs op b b_2 b_1
noncomputable abbrev zd73 (cs : List AV) (op : List UInt8) (b b_1 : Bool) : Option (AV) := kCons cs fun c cs => zd74 c cs op b b_1
noncomputable abbrev zd72 (v : AV) (op : List UInt8) (b b_1 : Bool) : Option (AV) := kTup v fun cs => zd73 cs op b b_1
noncomputable abbrev zd71 (kb nb : Int) (sb : List UInt8) (lb : List (List AV)) (op : List UInt8) (b b_1 : Bool) : Option (AV) := kOpt (EVs (EV cfg) 237 [.agg [AV.int .i64 kb, .int .i64 nb, .str sb, .sl lb]]) fun v => zd72 v op b b_1
noncomputable abbrev zd70 (cs : List AV) (kb nb : Int) (sb : List UInt8) (lb : List (List AV)) (op : List UInt8) (b b_1 : Bool) : Option (AV) := kNil cs (zd71 kb nb sb lb op b b_1)
noncomputable abbrev zd69 (c : AV) (cs : List AV) (kb nb : Int) (sb : List UInt8) (lb : List (List AV)) (op : List UInt8) (b : Bool) : Option (AV) := kBool c fun b_1 => zd70 cs kb nb sb lb op b b_1
noncomputable abbrev zd68 (cs : List AV) (kb nb : Int) (sb : List UInt8) (lb : List (List AV)) (op : List UInt8) (b : Bool) : Option (AV) := kCons cs fun c cs => zd69 c cs kb nb sb lb op b
noncomputable abbrev zd67 (c : AV) (cs : List AV) (kb nb : Int) (sb : List UInt8) (lb : List (List AV)) (op : List UInt8) : Option (AV) := kBool c fun b => zd68 cs kb nb sb lb op b
noncomputable abbrev zd66 (cs : List AV) (kb nb : Int) (sb : List UInt8) (lb : List (List AV)) (op : List UInt8) : Option (AV) := kCons cs fun c cs => zd67 c cs kb nb sb lb op
noncomputable abbrev zd65 (v : AV) (kb nb : Int) (sb : List UInt8) (lb : List (List AV)) (op : List UInt8) : Option (AV) := kTup v fun cs => zd66 cs kb nb sb lb op
noncomputable abbrev zd64 (ka na : Int) (sa : List UInt8) (la : List (List AV)) (kb nb : Int) (sb : List UInt8) (lb : List (List AV)) (op : List UInt8) : Option (AV) := kOpt (EVs (EV cfg) 237 [.agg [AV.int .i64 ka, .int .i64 na, .str sa, .sl la]]) fun v => zd65 v kb nb sb lb op
theorem r17Two_run (op : List UInt8) (ka na : Int) (sa : List UInt8) (la : List (List AV)) (kb nb : Int) (sb : List UInt8) (lb : List (List AV)) {P : AV → Prop} (h : Gets (bif op == [(61 : UInt8), (61 : UInt8)] then zd61 ka na sa la kb nb sb lb op else bif op == [(61 : UInt8), (58 : UInt8), (61 : UInt8)] then zd61 ka na sa la kb nb sb lb op else bif op == [(47 : UInt8), (61 : UInt8)] then zd61 ka na sa la kb nb sb lb op else bif op == [(61 : UInt8), (47 : UInt8), (61 : UInt8)] then zd61 ka na sa la kb nb sb lb op else bif op == [(60 : UInt8)] then zd61 ka na sa la kb nb sb lb op else bif op == [(61 : UInt8), (60 : UInt8)] then zd61 ka na sa la kb nb sb lb op else bif op == [(62 : UInt8)] then zd61 ka na sa la kb nb sb lb op else bif op == [(62 : UInt8), (61 : UInt8)] then zd61 ka na sa la kb nb sb lb op else bif op == [(97 : UInt8), (110 : UInt8), (100 : UInt8)] then zd64 ka na sa la kb nb sb lb op else bif op == [(111 : UInt8), (114 : UInt8)] then zd64 ka na sa la kb nb sb lb op else bif op == [(120 : UInt8), (111 : UInt8), (114 : UInt8)] then zd64 ka na sa la kb nb sb lb op else bif op == [(97 : UInt8), (110 : UInt8), (100 : UInt8), (97 : UInt8), (108 : UInt8), (115 : UInt8), (111 : UInt8)] then zd64 ka na sa la kb nb sb lb op else bif op == [(111 : UInt8), (114 : UInt8), (101 : UInt8), (108 : UInt8), (115 : UInt8), (101 : UInt8)] then zd64 ka na sa la kb nb sb lb op else bif op == [(101 : UInt8), (108 : UInt8), (101 : UInt8), (109 : UInt8), (101 : UInt8), (110 : UInt8), (116 : UInt8)] then bif ka != 1 then zd0 else bif kb != 7 then zd0 else bif decide (na < 1) then zd0 else bif decide (na > (lb.length : Int)) then zd0 else bif leInt 0 (IntKind.wrap .i64 (na - 1)) && ltInt (IntKind.wrap .i64 (na - 1)) (lb.length : Int) then kOpt (List.get?Internal lb (Int.toNat (IntKind.wrap .i64 (na - 1)))) fun row => zd39 row else none else bif ka != 1 then zd0 else bif kb != 1 then zd0 else kOpt (EVf (EV cfg) 251 [.str op, .int .i64 na, .int .i64 nb]) fun v => zd2 v) P) : Gets (EVf (EV cfg) 178 ([AV.str op, AV.agg [AV.int IntKind.i64 ka, AV.int IntKind.i64 na, AV.str sa, AV.sl la], AV.agg [AV.int IntKind.i64 kb, AV.int IntKind.i64 nb, AV.str sb, AV.sl lb]] : List AV)) P :=
  Gets.ev (fun _ h => funF rfl rfl Tryz.func178 rfl h) (Gets.eq (by kernel_rfl) h)
noncomputable abbrev zd83 (cs : List AV) (n n_2 : Int) (s : List UInt8) (rows : List (List AV)) : Option (AV) := kCons cs fun c cs => kBool c fun b => kNil cs (bif ! b then zd0 else zd51 n n_2 s rows)
theorem r17Apply1_run (op : List UInt8) (L : List (List AV)) (self : Int) {P : AV → Prop} (h : Gets (bif (L.length : Int) == 1 then bif ltInt 0 (L.length : Int) then kOpt (List.get?Internal L 0) fun row => bif Nat.beq (List.length row) 4 then bif Nat.ble 4 (List.length row) then kTmC (List.take 4 row) fun n n_1 s rows => (kOpt (EVf (EV cfg) 177 [.str op, .agg [AV.int .i64 n, .int .i64 n_1, .str s, .sl rows]]) fun v => kTup v fun cs => kCons cs fun c cs => kAgg c fun cs_1 => kCons cs_1 fun c cs_2 => kInt .i64 c fun n => kCons cs_2 fun c cs_3 => kInt .i64 c fun n_2 => kCons cs_3 fun c cs_4 => kStr c fun s => kCons cs_4 fun c cs_5 => kSl c fun rows => kNil cs_5 (zd83 cs n n_2 s rows)) else none else none else none else bif (L.length : Int) == 2 then bif ltInt 0 (L.length : Int) then kOpt (List.get?Internal L 0) fun row => bif Nat.beq (List.length row) 4 then bif Nat.ble 4 (List.length row) then kTmC (List.take 4 row) fun n n_1 s rows => (bif ltInt 1 (L.length : Int) then kOpt (List.get?Internal L 1) fun row => bif Nat.beq (List.length row) 4 then bif Nat.ble 4 (List.length row) then kTmC (List.take 4 row) fun n_2 n_3 s_1 rows_1 => (kOpt (EVf (EV cfg) 178 [.str op, .agg [AV.int .i64 n, .int .i64 n_1, .str s, .sl rows], .agg [AV.int .i64 n_2, .int .i64 n_3, .str s_1, .sl rows_1]]) fun v => kTup v fun cs => kCons cs fun c cs => kAgg c fun cs_1 => kCons cs_1 fun c cs_2 => kInt .i64 c fun n => kCons cs_2 fun c cs_3 => kInt .i64 c fun n_4 => kCons cs_3 fun c cs_4 => kStr c fun s => kCons cs_4 fun c cs_5 => kSl c fun rows => kNil cs_5 (zd83 cs n n_4 s rows)) else none else none else none) else none else none else none else some (AV.tup [.agg [AV.int .i64 6, .int .i64 self, .str [], .sl []], .bool true])) P) : Gets (EVf (EV cfg) 96 ([AV.str op, AV.sl L, AV.int IntKind.i64 self] : List AV)) P :=
  Gets.ev (fun _ h => funF rfl rfl Tryz.func96 rfl h) (Gets.eq (by kernel_rfl) h)
theorem r17List_run (L : List (List AV)) {P : AV → Prop} (h : Gets (wy64_0 L (IntKind.wrap .i64 ((L.length : Int) - 1)) 0 0 [] [] 8 0 [] []) P) : Gets (EVf (EV cfg) 165 ([AV.sl L] : List AV)) P :=
  Gets.ev (fun _ h => funF rfl rfl Tryz.func165 rfl h) (Gets.eq (by kernel_rfl) h)
theorem r17Whole_run (kt nt : Int) (st : List UInt8) (lt : List (List AV)) (ok : Bool) {P : AV → Prop} (h : Gets (bif ! ok then zd0 else kOpt (EVs (EV cfg) 95 [.agg [AV.int .i64 kt, .int .i64 nt, .str st, .sl lt]]) fun v => kInt .i64 v fun n => bif n != 0 then zd0 else zd51 kt nt st lt) P) : Gets (EVf (EV cfg) 164 ([AV.agg [AV.int IntKind.i64 kt, AV.int IntKind.i64 nt, AV.str st, AV.sl lt], AV.bool ok] : List AV)) P :=
  Gets.ev (fun _ h => funF rfl rfl Tryz.func164 rfl h) (Gets.eq (by kernel_rfl) h)
theorem r17Values_run (L : List (List AV)) (ke ne : Int) (se : List UInt8) (le bd : List (List AV)) (self : Int) {P : AV → Prop} (h : Gets (wy65_0 L 0 0 ke ne se le bd self []) P) : Gets (EVf (EV cfg) 166 ([AV.sl L, AV.agg [AV.int IntKind.i64 ke, AV.int IntKind.i64 ne, AV.str se, AV.sl le, AV.sl bd, AV.int IntKind.i64 self]] : List AV)) P :=
  Gets.ev (fun _ h => funF rfl rfl Tryz.func166 rfl h) (Gets.eq (by kernel_rfl) h)
theorem r17Lazy_run (op : List UInt8) (L : List (List AV)) (ke ne : Int) (se : List UInt8) (le bd : List (List AV)) (self : Int) {P : AV → Prop} (h : Gets (bif ltInt 0 (L.length : Int) then kOpt (List.get?Internal L 0) fun row => bif Nat.beq (List.length row) 4 then bif Nat.ble 4 (List.length row) then kTmC (List.take 4 row) fun n n_1 s rows => (kOpt (EVf (EV cfg) 75 [.agg [AV.int .i64 n, .int .i64 n_1, .str s, .sl rows], .agg [AV.int .i64 ke, .int .i64 ne, .str se, .sl le, .sl bd, .int .i64 self]]) fun v => kTup v fun cs => kCons cs fun c cs => kAgg c fun cs_1 => kCons cs_1 fun c cs_2 => kInt .i64 c fun n => kCons cs_2 fun c cs_3 => kInt .i64 c fun n_2 => kCons cs_3 fun c cs_4 => kStr c fun s => kCons cs_4 fun c cs_5 => kSl c fun rows => kNil cs_5 (kCons cs fun c cs => kBool c fun b => kNil cs (kOpt (EVs (EV cfg) 237 [.agg [AV.int .i64 n, .int .i64 n_2, .str s, .sl rows]]) fun v => kTup v fun cs => kCons cs fun c cs => kBool c fun b_1 => kCons cs fun c cs => kBool c fun b_2 => kNil cs (bif ! b then zd0 else bif ! b_2 then zd0 else bif ! b_1 == (op == [(97 : UInt8), (110 : UInt8), (100 : UInt8), (97 : UInt8), (108 : UInt8), (115 : UInt8), (111 : UInt8)]) then zd51 n n_2 s rows else bif ltInt 1 (L.length : Int) then kOpt (List.get?Internal L 1) fun row => bif Nat.beq (List.length row) 4 then bif Nat.ble 4 (List.length row) then kTmC (List.take 4 row) fun n n_3 s rows => (kOpt (EVf (EV cfg) 75 [.agg [AV.int .i64 n, .int .i64 n_3, .str s, .sl rows], AV.agg [AV.int .i64 ke, .int .i64 ne, .str se, .sl le, .sl bd, .int .i64 self]]) fun v => kTup v fun cs => kCons cs fun c cs => kAgg c fun cs_6 => kCons cs_6 fun c cs_7 => kInt .i64 c fun n => kCons cs_7 fun c cs_8 => kInt .i64 c fun n_4 => kCons cs_8 fun c cs_9 => kStr c fun s => kCons cs_9 fun c cs_10 => kSl c fun rows => kNil cs_10 (kCons cs fun c cs => kBool c fun b => kNil cs (kOpt (EVs (EV cfg) 237 [AV.agg [AV.int .i64 n, .int .i64 n_4, .str s, .sl rows]]) fun v => kTup v fun cs => kCons cs fun c cs => kBool c fun b_3 => kCons cs fun c cs => kBool c fun b_4 => kNil cs (bif b then some (AV.tup [AV.agg [AV.int .i64 n, .int .i64 n_4, .str s, .sl rows], .bool b_4]) else some (AV.tup [AV.agg [AV.int .i64 n, .int .i64 n_4, .str s, .sl rows], .bool false]))))) else none else none else none)))) else none else none else none) P) : Gets (EVf (EV cfg) 167 ([AV.str op, AV.sl L, AV.agg [AV.int IntKind.i64 ke, AV.int IntKind.i64 ne, AV.str se, AV.sl le, AV.sl bd, AV.int IntKind.i64 self]] : List AV)) P :=
  Gets.ev (fun _ h => funF rfl rfl Tryz.func167 rfl h) (Gets.eq (by kernel_rfl) h)
noncomputable abbrev zd91 (rows : List (List AV)) (b : Bool) : Option (AV) := kOpt (EVf (EV cfg) 164 [.agg [AV.int .i64 9, .int .i64 0, .str [], .sl rows], .bool b]) fun v => zd2 v
noncomputable abbrev zd90 (cs : List AV) (rows : List (List AV)) (b : Bool) : Option (AV) := kNil cs (zd91 rows b)
noncomputable abbrev zd89 (c : AV) (cs : List AV) (rows : List (List AV)) : Option (AV) := kBool c fun b => zd90 cs rows b
noncomputable abbrev zd88 (cs : List AV) (rows : List (List AV)) : Option (AV) := kCons cs fun c cs => zd89 c cs rows
noncomputable abbrev zd87 (c : AV) (cs : List AV) : Option (AV) := kSl c fun rows => zd88 cs rows
noncomputable abbrev zd86 (cs : List AV) : Option (AV) := kCons cs fun c cs => zd87 c cs
noncomputable abbrev zd85 (v : AV) : Option (AV) := kTup v fun cs => zd86 cs
noncomputable abbrev zd84 (lt : List (List AV)) (ke ne : Int) (se : List UInt8) (le bd : List (List AV)) (self : Int) : Option (AV) := kOpt (EVf (EV cfg) 166 [.sl lt, .agg [AV.int .i64 ke, .int .i64 ne, .str se, .sl le, .sl bd, .int .i64 self]]) fun v => zd85 v
noncomputable abbrev zd92 (rows : List (List AV)) (b : Bool) : Option (AV) := kOpt (EVf (EV cfg) 164 [.agg [AV.int .i64 7, .int .i64 0, .str [], .sl rows], .bool b]) fun v => zd2 v
noncomputable abbrev zd123 (cs : List AV) (n n_3 : Int) (s : List UInt8) (rows : List (List AV)) : Option (AV) := kCons cs fun c cs => kBool c fun b => kNil cs (some (AV.tup [AV.agg [AV.int .i64 n, .int .i64 n_3, .str s, .sl rows], .bool b]))
noncomputable abbrev zd122 (cs_10 cs : List AV) (n n_3 : Int) (s : List UInt8) (rows : List (List AV)) : Option (AV) := kNil cs_10 (zd123 cs n n_3 s rows)
noncomputable abbrev zd121 (c : AV) (cs_10 cs : List AV) (n n_3 : Int) (s : List UInt8) : Option (AV) := kSl c fun rows => zd122 cs_10 cs n n_3 s rows
noncomputable abbrev zd120 (cs_9 cs : List AV) (n n_3 : Int) (s : List UInt8) : Option (AV) := kCons cs_9 fun c cs_10 => zd121 c cs_10 cs n n_3 s
noncomputable abbrev zd119 (c : AV) (cs_9 cs : List AV) (n n_3 : Int) : Option (AV) := kStr c fun s => zd120 cs_9 cs n n_3 s
noncomputable abbrev zd118 (cs_8 cs : List AV) (n n_3 : Int) : Option (AV) := kCons cs_8 fun c cs_9 => zd119 c cs_9 cs n n_3
noncomputable abbrev zd117 (c : AV) (cs_8 cs : List AV) (n : Int) : Option (AV) := kInt .i64 c fun n_3 => zd118 cs_8 cs n n_3
noncomputable abbrev zd116 (cs_7 cs : List AV) (n : Int) : Option (AV) := kCons cs_7 fun c cs_8 => zd117 c cs_8 cs n
noncomputable abbrev zd115 (c : AV) (cs_7 cs : List AV) : Option (AV) := kInt .i64 c fun n => zd116 cs_7 cs n
noncomputable abbrev zd114 (cs_6 cs : List AV) : Option (AV) := kCons cs_6 fun c cs_7 => zd115 c cs_7 cs
noncomputable abbrev zd113 (c : AV) (cs : List AV) : Option (AV) := kAgg c fun cs_6 => zd114 cs_6 cs
noncomputable abbrev zd112 (cs : List AV) : Option (AV) := kCons cs fun c cs => zd113 c cs
noncomputable abbrev zd111 (v : AV) : Option (AV) := kTup v fun cs => zd112 cs
noncomputable abbrev zd110 (n n_2 : Int) (s : List UInt8) (rows : List (List AV)) (b : Bool) : Option (AV) := kOpt (EVf (EV cfg) 164 [.agg [AV.int .i64 n, .int .i64 n_2, .str s, .sl rows], .bool b]) fun v => zd111 v
noncomputable abbrev zd109 (cs : List AV) (n n_2 : Int) (s : List UInt8) (rows : List (List AV)) (b : Bool) : Option (AV) := kNil cs (zd110 n n_2 s rows b)
noncomputable abbrev zd108 (c : AV) (cs : List AV) (n n_2 : Int) (s : List UInt8) (rows : List (List AV)) : Option (AV) := kBool c fun b => zd109 cs n n_2 s rows b
noncomputable abbrev zd107 (cs : List AV) (n n_2 : Int) (s : List UInt8) (rows : List (List AV)) : Option (AV) := kCons cs fun c cs => zd108 c cs n n_2 s rows
noncomputable abbrev zd106 (cs_5 cs : List AV) (n n_2 : Int) (s : List UInt8) (rows : List (List AV)) : Option (AV) := kNil cs_5 (zd107 cs n n_2 s rows)
noncomputable abbrev zd105 (c : AV) (cs_5 cs : List AV) (n n_2 : Int) (s : List UInt8) : Option (AV) := kSl c fun rows => zd106 cs_5 cs n n_2 s rows
noncomputable abbrev zd104 (cs_4 cs : List AV) (n n_2 : Int) (s : List UInt8) : Option (AV) := kCons cs_4 fun c cs_5 => zd105 c cs_5 cs n n_2 s
noncomputable abbrev zd103 (c : AV) (cs_4 cs : List AV) (n n_2 : Int) : Option (AV) := kStr c fun s => zd104 cs_4 cs n n_2 s
noncomputable abbrev zd102 (cs_3 cs : List AV) (n n_2 : Int) : Option (AV) := kCons cs_3 fun c cs_4 => zd103 c cs_4 cs n n_2
noncomputable abbrev zd101 (c : AV) (cs_3 cs : List AV) (n : Int) : Option (AV) := kInt .i64 c fun n_2 => zd102 cs_3 cs n n_2
noncomputable abbrev zd100 (cs_2 cs : List AV) (n : Int) : Option (AV) := kCons cs_2 fun c cs_3 => zd101 c cs_3 cs n
noncomputable abbrev zd99 (c : AV) (cs_2 cs : List AV) : Option (AV) := kInt .i64 c fun n => zd100 cs_2 cs n
noncomputable abbrev zd98 (cs_1 cs : List AV) : Option (AV) := kCons cs_1 fun c cs_2 => zd99 c cs_2 cs
noncomputable abbrev zd97 (c : AV) (cs : List AV) : Option (AV) := kAgg c fun cs_1 => zd98 cs_1 cs
noncomputable abbrev zd96 (cs : List AV) : Option (AV) := kCons cs fun c cs => zd97 c cs
noncomputable abbrev zd95 (v : AV) : Option (AV) := kTup v fun cs => zd96 cs
noncomputable abbrev zd94 (s : List UInt8) (rows : List (List AV)) (self : Int) : Option (AV) := kOpt (EVf (EV cfg) 96 [.str s, .sl rows, .int .i64 self]) fun v => zd95 v
noncomputable abbrev zd93 (b : Bool) (s : List UInt8) (rows : List (List AV)) (self : Int) : Option (AV) := bif ! b then zd0 else zd94 s rows self
noncomputable abbrev zd130 (n : Int) (rows : List (List AV)) (ke ne : Int) (se : List UInt8) (le bd : List (List AV)) (self : Int) (s : List UInt8) (lt : List (List AV)) : Option (AV) := (bif n == 7 then kOpt (EVf (EV cfg) 166 [.sl rows, .agg [AV.int .i64 ke, .int .i64 ne, .str se, .sl le, .sl bd, .int .i64 self]]) fun v => kTup v fun cs => kCons cs fun c cs => kSl c fun rows => kCons cs fun c cs => kBool c fun b => kNil cs (zd92 rows b) else bif s == [(99 : UInt8), (111 : UInt8), (110 : UInt8), (115 : UInt8), (116 : UInt8)] then bif ltInt 1 (lt.length : Int) then kOpt (List.get?Internal lt 1) fun row => bif Nat.beq (List.length row) 4 then bif Nat.ble 4 (List.length row) then kTmC (List.take 4 row) fun n n_2 s rows => (some (AV.tup [.agg [AV.int .i64 n, .int .i64 n_2, .str s, .sl rows], .bool true])) else none else none else none else bif s == [(97 : UInt8), (110 : UInt8), (100 : UInt8), (97 : UInt8), (108 : UInt8), (115 : UInt8), (111 : UInt8)] then bif leInt 1 (lt.length : Int) then bif rowsOk 4 lt then kOpt (EVf (EV cfg) 167 [.str s, .sl (List.take (List.length lt - 1) (List.drop 1 lt)), .agg [AV.int .i64 ke, .int .i64 ne, .str se, .sl le, .sl bd, .int .i64 self]]) fun v => kTup v fun cs => kCons cs fun c cs => kAgg c fun cs_1 => kCons cs_1 fun c cs_2 => kInt .i64 c fun n => kCons cs_2 fun c cs_3 => kInt .i64 c fun n_2 => kCons cs_3 fun c cs_4 => kStr c fun s => kCons cs_4 fun c cs_5 => kSl c fun rows => kNil cs_5 (zd14 cs n n_2 s rows) else none else none else bif s == [(111 : UInt8), (114 : UInt8), (101 : UInt8), (108 : UInt8), (115 : UInt8), (101 : UInt8)] then bif leInt 1 (lt.length : Int) then bif rowsOk 4 lt then kOpt (EVf (EV cfg) 167 [.str s, .sl (List.take (List.length lt - 1) (List.drop 1 lt)), .agg [AV.int .i64 ke, .int .i64 ne, .str se, .sl le, .sl bd, .int .i64 self]]) fun v => kTup v fun cs => kCons cs fun c cs => kAgg c fun cs_1 => kCons cs_1 fun c cs_2 => kInt .i64 c fun n => kCons cs_2 fun c cs_3 => kInt .i64 c fun n_2 => kCons cs_3 fun c cs_4 => kStr c fun s => kCons cs_4 fun c cs_5 => kSl c fun rows => kNil cs_5 (zd14 cs n n_2 s rows) else none else none else bif leInt 1 (lt.length : Int) then bif rowsOk 4 lt then kOpt (EVf (EV cfg) 166 [.sl (List.take (List.length lt - 1) (List.drop 1 lt)), .agg [AV.int .i64 ke, .int .i64 ne, .str se, .sl le, .sl bd, .int .i64 self]]) fun v => kTup v fun cs => kCons cs fun c cs => kSl c fun rows => kCons cs fun c cs => kBool c fun b => kNil cs (zd93 b s rows self) else none else none)
noncomputable abbrev zd129 (row : List AV) (ke ne : Int) (se : List UInt8) (le bd : List (List AV)) (self : Int) (lt : List (List AV)) : Option (AV) := kTmC (List.take 4 row) fun n n_1 s rows => zd130 n rows ke ne se le bd self s lt
noncomputable abbrev zd128 (row : List AV) (ke ne : Int) (se : List UInt8) (le bd : List (List AV)) (self : Int) (lt : List (List AV)) : Option (AV) := bif Nat.ble 4 (List.length row) then zd129 row ke ne se le bd self lt else none
noncomputable abbrev zd127 (row : List AV) (ke ne : Int) (se : List UInt8) (le bd : List (List AV)) (self : Int) (lt : List (List AV)) : Option (AV) := bif Nat.beq (List.length row) 4 then zd128 row ke ne se le bd self lt else none
noncomputable abbrev zd126 (lt : List (List AV)) (ke ne : Int) (se : List UInt8) (le bd : List (List AV)) (self : Int) : Option (AV) := kOpt (List.get?Internal lt 0) fun row => zd127 row ke ne se le bd self lt
noncomputable abbrev zd125 (lt : List (List AV)) (ke ne : Int) (se : List UInt8) (le bd : List (List AV)) (self : Int) : Option (AV) := bif ltInt 0 (lt.length : Int) then zd126 lt ke ne se le bd self else none
noncomputable abbrev zd124 (kt nt : Int) (st : List UInt8) (lt : List (List AV)) (ke ne : Int) (se : List UInt8) (le bd : List (List AV)) (self : Int) : Option (AV) := bif kt != 7 then zd51 kt nt st lt else zd125 lt ke ne se le bd self
theorem r17Value_run (kt nt : Int) (st : List UInt8) (lt : List (List AV)) (ke ne : Int) (se : List UInt8) (le bd : List (List AV)) (self : Int) {P : AV → Prop} (h : Gets (kOpt (EVs (EV cfg) 162 [.agg [AV.int .i64 kt, .int .i64 nt, .str st, .sl lt]]) fun v => kTup v fun cs => kCons cs fun c cs => kInt .i64 c fun n => kCons cs fun c cs => kBool c fun b => kNil cs (bif b then kOpt (EVf (EV cfg) 163 [.sl bd, .int .i64 n]) fun v => zd2 v else bif kt == 2 then bif st == [(36 : UInt8), (95 : UInt8)] then zd51 ke ne se le else bif kt == 2 then bif st == [(36 : UInt8), (36 : UInt8)] then wy29_0 0 0 ke ne se le bd self 0 0 [] [] [] else bif kt == 9 then zd84 lt ke ne se le bd self else bif kt != 7 then zd51 kt nt st lt else bif ltInt 0 (↑ (List.length lt) : Int) then kOpt (List.get?Internal lt 0) fun row => bif Nat.beq (List.length row) 4 then bif Nat.ble 4 (List.length row) then kTmC (List.take 4 row) fun n n_1 s rows => (bif n == 7 then kOpt (EVf (EV cfg) 166 [.sl rows, .agg [AV.int .i64 ke, .int .i64 ne, .str se, .sl le, .sl bd, .int .i64 self]]) fun v => kTup v fun cs => kCons cs fun c cs => kSl c fun rows => kCons cs fun c cs => kBool c fun b => kNil cs (zd92 rows b) else bif s == [(99 : UInt8), (111 : UInt8), (110 : UInt8), (115 : UInt8), (116 : UInt8)] then bif ltInt 1 (lt.length : Int) then kOpt (List.get?Internal lt 1) fun row => bif Nat.beq (List.length row) 4 then bif Nat.ble 4 (List.length row) then kTmC (List.take 4 row) fun n n_2 s rows => (some (AV.tup [.agg [AV.int .i64 n, .int .i64 n_2, .str s, .sl rows], .bool true])) else none else none else none else bif s == [(97 : UInt8), (110 : UInt8), (100 : UInt8), (97 : UInt8), (108 : UInt8), (115 : UInt8), (111 : UInt8)] then bif leInt 1 (lt.length : Int) then bif rowsOk 4 lt then kOpt (EVf (EV cfg) 167 [.str s, .sl (List.take (List.length lt - 1) (List.drop 1 lt)), .agg [AV.int .i64 ke, .int .i64 ne, .str se, .sl le, .sl bd, .int .i64 self]]) fun v => kTup v fun cs => kCons cs fun c cs => kAgg c fun cs_1 => kCons cs_1 fun c cs_2 => kInt .i64 c fun n => kCons cs_2 fun c cs_3 => kInt .i64 c fun n_2 => kCons cs_3 fun c cs_4 => kStr c fun s => kCons cs_4 fun c cs_5 => kSl c fun rows => kNil cs_5 (zd14 cs n n_2 s rows) else none else none else bif s == [(111 : UInt8), (114 : UInt8), (101 : UInt8), (108 : UInt8), (115 : UInt8), (101 : UInt8)] then bif leInt 1 (lt.length : Int) then bif rowsOk 4 lt then kOpt (EVf (EV cfg) 167 [.str s, .sl (List.take (List.length lt - 1) (List.drop 1 lt)), .agg [AV.int .i64 ke, .int .i64 ne, .str se, .sl le, .sl bd, .int .i64 self]]) fun v => kTup v fun cs => kCons cs fun c cs => kAgg c fun cs_1 => kCons cs_1 fun c cs_2 => kInt .i64 c fun n => kCons cs_2 fun c cs_3 => kInt .i64 c fun n_2 => kCons cs_3 fun c cs_4 => kStr c fun s => kCons cs_4 fun c cs_5 => kSl c fun rows => kNil cs_5 (zd14 cs n n_2 s rows) else none else none else bif leInt 1 (↑ (List.length lt) : Int) then bif rowsOk 4 lt then kOpt (EVf (EV cfg) 166 [.sl (List.take (List.length lt - 1) (List.drop 1 lt)), .agg [AV.int .i64 ke, .int .i64 ne, .str se, .sl le, .sl bd, .int .i64 self]]) fun v => kTup v fun cs => kCons cs fun c cs => kSl c fun rows => kCons cs fun c cs => kBool c fun b => kNil cs (zd93 b s rows self) else none else none) else none else none else none else bif kt == 9 then kOpt (EVf (EV cfg) 166 [.sl lt, .agg [AV.int .i64 ke, .int .i64 ne, .str se, .sl le, .sl bd, .int .i64 self]]) fun v => kTup v fun cs => kCons cs fun c cs => kSl c fun rows => kCons cs fun c cs => kBool c fun b => kNil cs (kOpt (EVf (EV cfg) 164 [.agg [AV.int .i64 9, .int .i64 (0 : Int), .str [], .sl rows], .bool b]) fun v => zd2 v) else zd124 kt nt st lt ke ne se le bd self else bif kt == 2 then bif st == [(36 : UInt8), (36 : UInt8)] then wy29_0 0 0 ke ne se le bd self 0 0 [] [] [] else bif kt == (9 : Int) then zd84 lt ke ne se le bd self else zd124 kt nt st lt ke ne se le bd self else bif kt == 9 then zd84 lt ke ne se le bd self else bif kt != 7 then zd51 kt nt st lt else bif ltInt 0 (lt.length : Int) then kOpt (List.get?Internal lt 0) fun row => bif Nat.beq (List.length row) 4 then bif Nat.ble 4 (List.length row) then kTmC (List.take 4 row) fun n n_1 s rows => (bif n == 7 then kOpt (EVf (EV cfg) 166 [.sl rows, .agg [AV.int .i64 ke, .int .i64 ne, .str se, .sl le, .sl bd, .int .i64 self]]) fun v => kTup v fun cs => kCons cs fun c cs => kSl c fun rows => kCons cs fun c cs => kBool c fun b => kNil cs (zd92 rows b) else bif s == [(99 : UInt8), (111 : UInt8), (110 : UInt8), (115 : UInt8), (116 : UInt8)] then bif ltInt 1 (↑ (List.length lt) : Int) then kOpt (List.get?Internal lt 1) fun row => bif Nat.beq (List.length row) 4 then bif Nat.ble 4 (List.length row) then kTmC (List.take 4 row) fun n n_2 s rows => (some (AV.tup [.agg [AV.int .i64 n, .int .i64 n_2, .str s, .sl rows], .bool true])) else none else none else none else bif s == [(97 : UInt8), (110 : UInt8), (100 : UInt8), (97 : UInt8), (108 : UInt8), (115 : UInt8), (111 : UInt8)] then bif leInt 1 (lt.length : Int) then bif rowsOk 4 lt then kOpt (EVf (EV cfg) 167 [.str s, .sl (List.take (List.length lt - 1) (List.drop 1 lt)), .agg [AV.int .i64 ke, .int .i64 ne, .str se, .sl le, .sl bd, .int .i64 self]]) fun v => kTup v fun cs => kCons cs fun c cs => kAgg c fun cs_1 => kCons cs_1 fun c cs_2 => kInt .i64 c fun n => kCons cs_2 fun c cs_3 => kInt .i64 c fun n_2 => kCons cs_3 fun c cs_4 => kStr c fun s => kCons cs_4 fun c cs_5 => kSl c fun rows => kNil cs_5 (zd14 cs n n_2 s rows) else none else none else bif s == [(111 : UInt8), (114 : UInt8), (101 : UInt8), (108 : UInt8), (115 : UInt8), (101 : UInt8)] then bif leInt 1 (lt.length : Int) then bif rowsOk 4 lt then kOpt (EVf (EV cfg) 167 [.str s, .sl (List.take (List.length lt - 1) (List.drop 1 lt)), .agg [AV.int .i64 ke, .int .i64 ne, .str se, .sl le, .sl bd, .int .i64 self]]) fun v => kTup v fun cs => kCons cs fun c cs => kAgg c fun cs_1 => kCons cs_1 fun c cs_2 => kInt .i64 c fun n => kCons cs_2 fun c cs_3 => kInt .i64 c fun n_2 => kCons cs_3 fun c cs_4 => kStr c fun s => kCons cs_4 fun c cs_5 => kSl c fun rows => kNil cs_5 (zd14 cs n n_2 s rows) else none else none else bif leInt 1 (lt.length : Int) then bif rowsOk 4 lt then kOpt (EVf (EV cfg) 166 [.sl (List.take (List.length lt - 1) (List.drop 1 lt)), .agg [AV.int .i64 ke, .int .i64 ne, .str se, .sl le, .sl bd, .int .i64 self]]) fun v => kTup v fun cs => kCons cs fun c cs => kSl c fun rows => kCons cs fun c cs => kBool c fun b => kNil cs (zd93 b s rows self) else none else none) else none else none else none)) P) : Gets (EVf (EV cfg) 75 ([AV.agg [AV.int IntKind.i64 kt, AV.int IntKind.i64 nt, AV.str st, AV.sl lt], AV.agg [AV.int IntKind.i64 ke, AV.int IntKind.i64 ne, AV.str se, AV.sl le, AV.sl bd, AV.int IntKind.i64 self]] : List AV)) P :=
  Gets.ev (fun _ h => funF rfl rfl Tryz.func75 rfl h) (Gets.eq (by kernel_rfl) h)
theorem r17Self_run (n : Int) {P : AV → Prop} (h : Gets (bif decide (n ≥ 1) then some (.bool (decide (n ≤ 1073741824))) else some (.bool false)) P) : Gets (EVs (EV cfg) 94 ([AV.int IntKind.i64 n] : List AV)) P :=
  Gets.ev (fun _ h => funS rfl rfl Tryz.func94 rfl h) (Gets.eq (by kernel_rfl) h)
theorem r17Names_run (bd : List (List AV)) {P : AV → Prop} (h : Gets (wy28_0 bd 0 0 []) P) : Gets (EVf (EV cfg) 74 ([AV.sl bd] : List AV)) P :=
  Gets.ev (fun _ h => funF rfl rfl Tryz.func74 rfl h) (Gets.eq (by kernel_rfl) h)
theorem r17Env_run (ke ne : Int) (se : List UInt8) (le bd : List (List AV)) (self : Int) {P : AV → Prop} (h : Gets (kOpt (EVs (EV cfg) 95 [.agg [AV.int .i64 ke, .int .i64 ne, .str se, .sl le]]) fun v => kInt .i64 v fun n => bif n == 0 then kOpt (EVs (EV cfg) 160 [.sl bd]) fun v => kBool v fun b => bif b then kOpt (EVs (EV cfg) 94 [AV.int .i64 self]) fun v => kBool v fun b => some (.bool b) else some (.bool false) else some (.bool false)) P) : Gets (EVs (EV cfg) 72 ([AV.agg [AV.int IntKind.i64 ke, AV.int IntKind.i64 ne, AV.str se, AV.sl le, AV.sl bd, AV.int IntKind.i64 self]] : List AV)) P :=
  Gets.ev (fun _ h => funS rfl rfl Tryz.func72 rfl h) (Gets.eq (by kernel_rfl) h)
theorem r17Eval_run (kt nt : Int) (st : List UInt8) (lt : List (List AV)) (ke ne : Int) (se : List UInt8) (le bd : List (List AV)) (self : Int) {P : AV → Prop} (h : Gets (kOpt (EVs (EV cfg) 72 [.agg [AV.int .i64 ke, .int .i64 ne, .str se, .sl le, .sl bd, .int .i64 self]]) fun v => kBool v fun b => bif ! b then some (AV.tup [.agg [AV.int .i64 0, .int .i64 0, .str [], .sl []], .int .i64 2]) else kOpt (EVf (EV cfg) 74 [.sl bd]) fun v => kSl v fun rows => kOpt (EVs (EV cfg) 73 [.agg [AV.int .i64 kt, .int .i64 nt, .str st, .sl lt], .sl rows]) fun v => kInt .i64 v fun n => bif n != 0 then some (AV.tup [.agg [AV.int .i64 0, .int .i64 0, .str [], .sl []], .int .i64 2]) else kOpt (EVf (EV cfg) 75 [.agg [AV.int .i64 kt, .int .i64 nt, .str st, .sl lt], .agg [AV.int .i64 ke, .int .i64 ne, .str se, .sl le, .sl bd, .int .i64 self]]) fun v => kTup v fun cs => kCons cs fun c cs => kAgg c fun cs_1 => kCons cs_1 fun c cs_2 => kInt .i64 c fun n => kCons cs_2 fun c cs_3 => kInt .i64 c fun n_1 => kCons cs_3 fun c cs_4 => kStr c fun s => kCons cs_4 fun c cs_5 => kSl c fun rows => kNil cs_5 (kCons cs fun c cs => kBool c fun b => kNil cs (bif ! b then some (AV.tup [.agg [AV.int .i64 0, .int .i64 0, .str [], .sl []], .int .i64 10]) else kOpt (EVf (EV cfg) 76 [.agg [AV.int .i64 n, .int .i64 n_1, .str s, .sl rows]]) fun v => kTmV v fun n n_2 s rows => (some (AV.tup [.agg [AV.int .i64 n, .int .i64 n_2, .str s, .sl rows], .int .i64 0]))))) P) : Gets (EVf (EV cfg) 18 ([AV.agg [AV.int IntKind.i64 kt, AV.int IntKind.i64 nt, AV.str st, AV.sl lt], AV.agg [AV.int IntKind.i64 ke, AV.int IntKind.i64 ne, AV.str se, AV.sl le, AV.sl bd, AV.int IntKind.i64 self]] : List AV)) P :=
  Gets.ev (fun _ h => funF rfl rfl Tryz.func18 rfl h) (Gets.eq (by kernel_rfl) h)
theorem r16Find_run (bd : List (List AV)) (n : Int) {P : AV → Prop} (h : Gets (kOpt (EVs (EV cfg) 160 [.sl bd]) fun v => kBool v fun b => bif ! b then zd0 else kOpt (EVf (EV cfg) 236 [.sl bd, .int .i64 n]) fun v => kTup v fun cs => kCons cs fun c cs => kAgg c fun cs_1 => kCons cs_1 fun c cs_2 => kInt .i64 c fun n => kCons cs_2 fun c cs_3 => kInt .i64 c fun n_1 => kCons cs_3 fun c cs_4 => kStr c fun s => kCons cs_4 fun c cs_5 => kSl c fun rows => kNil cs_5 (kCons cs fun c cs => kBool c fun b => kNil cs (bif ! b then zd0 else kOpt (EVf (EV cfg) 76 [.agg [AV.int .i64 n, .int .i64 n_1, .str s, .sl rows]]) fun v => zd54 v))) P) : Gets (EVf (EV cfg) 163 ([AV.sl bd, AV.int IntKind.i64 n] : List AV)) P :=
  Gets.ev (fun _ h => funF rfl rfl Tryz.func163 rfl h) (Gets.eq (by kernel_rfl) h)
theorem r16find_run (bd : List (List AV)) (n : Int) {P : AV → Prop} (h : Gets (wy87_0 bd n 0 0 0 [] []) P) : Gets (EVf (EV cfg) 236 ([AV.sl bd, AV.int IntKind.i64 n] : List AV)) P :=
  Gets.ev (fun _ h => funF rfl rfl Tryz.func236 rfl h) (Gets.eq (by kernel_rfl) h)
theorem r16May_run (bd : List (List AV)) {P : AV → Prop} (h : Gets (wy59_0 bd 0) P) : Gets (EVs (EV cfg) 160 ([AV.sl bd] : List AV)) P :=
  Gets.ev (fun _ h => funS rfl rfl Tryz.func160 rfl h) (Gets.eq (by kernel_rfl) h)
theorem r02Copy_run (kt nt : Int) (st : List UInt8) (lt : List (List AV)) {P : AV → Prop} (h : Gets (wy30_0 0 0 kt nt st lt 0 0 [] [] []) P) : Gets (EVf (EV cfg) 76 ([AV.agg [AV.int IntKind.i64 kt, AV.int IntKind.i64 nt, AV.str st, AV.sl lt]] : List AV)) P :=
  Gets.ev (fun _ h => funF rfl rfl Tryz.func76 rfl h) (Gets.eq (by kernel_rfl) h)
theorem r03Numbers_run (a b : Int) {P : AV → Prop} (h : Gets (bif decide (a < b) then some (.int .i64 (- 1)) else bif decide (a > b) then some (.int .i64 1) else some (.int .i64 0)) P) : Gets (EVs (EV cfg) 227 ([AV.int IntKind.i64 a, AV.int IntKind.i64 b] : List AV)) P :=
  Gets.ev (fun _ h => funS rfl rfl Tryz.func227 rfl h) (Gets.eq (by kernel_rfl) h)
theorem r03Texts_run (a b : List UInt8) {P : AV → Prop} (h : Gets (bif Op.bytesLess a b then some (.int .i64 (- 1)) else bif ! (Op.bytesLess a b || a == b) then some (.int .i64 1) else some (.int .i64 0)) P) : Gets (EVs (EV cfg) 228 ([AV.str a, AV.str b] : List AV)) P :=
  Gets.ev (fun _ h => funS rfl rfl Tryz.func228 rfl h) (Gets.eq (by kernel_rfl) h)
theorem r03Lists_run (A B : List (List AV)) {P : AV → Prop} (h : Gets (kOpt (EVs (EV cfg) 227 [AV.int .i64 (A.length : Int), .int .i64 (B.length : Int)]) fun v => kInt .i64 v fun n => wy120_0 A B n 0) P) : Gets (EVs (EV cfg) 229 ([AV.sl A, AV.sl B] : List AV)) P :=
  Gets.ev (fun _ h => funS rfl rfl Tryz.func229 rfl h) (Gets.eq (by kernel_rfl) h)
noncomputable abbrev zd131 (na nb : Int) : Option (AV) := kOpt (EVs (EV cfg) 227 [AV.int .i64 na, .int .i64 nb]) fun v => kInt .i64 v fun n => some (.int .i64 n)
noncomputable abbrev zd132 (la lb : List (List AV)) : Option (AV) := kOpt (EVs (EV cfg) 229 [.sl la, .sl lb]) fun v => kInt .i64 v fun n => some (.int .i64 n)
theorem r03Compare_run (ka na : Int) (sa : List UInt8) (la : List (List AV)) (kb nb : Int) (sb : List UInt8) (lb : List (List AV)) {P : AV → Prop} (h : Gets (kOpt (EVs (EV cfg) 227 [AV.int .i64 ka, .int .i64 kb]) fun v => kInt .i64 v fun n => bif n != 0 then some (.int .i64 n) else bif ka == 1 then zd131 na nb else bif ka == 3 then zd131 na nb else bif ka == 4 then zd131 na nb else bif ka == 6 then zd131 na nb else bif ka == 2 then kOpt (EVs (EV cfg) 228 [.str sa, .str sb]) fun v => kInt .i64 v fun n => some (.int .i64 n) else bif ka == 5 then kOpt (EVs (EV cfg) 227 [AV.int .i64 na, .int .i64 nb]) fun v => kInt .i64 v fun n => bif n != 0 then some (.int .i64 n) else zd132 la lb else bif ka == 7 then zd132 la lb else bif ka == 9 then zd132 la lb else some (.int .i64 0)) P) : Gets (EVs (EV cfg) 151 ([AV.agg [AV.int IntKind.i64 ka, AV.int IntKind.i64 na, AV.str sa, AV.sl la], AV.agg [AV.int IntKind.i64 kb, AV.int IntKind.i64 nb, AV.str sb, AV.sl lb]] : List AV)) P :=
  Gets.ev (fun _ h => funS rfl rfl Tryz.func151 rfl h) (Gets.eq (by kernel_rfl) h)
theorem wy99_0_step (v4 c0_0 c0_1 : Int) (c0_2 : List UInt8) (c0_3 : List (List AV)) {P : AV → Prop} (h : Gets (bif c0_0 == 9 then bif ltInt 1 (c0_3.length : Int) then kOpt (List.get?Internal c0_3 1) fun row => bif Nat.beq (List.length row) 4 then bif Nat.ble 4 (List.length row) then kTmC (List.take 4 row) fun n n_1 s rows => (wy99_0 (IntKind.wrap .i64 (v4 + 1)) n n_1 s rows) else none else none else none else some (AV.tup [AV.int .i64 v4, .bool (c0_0 == 8)])) P) : Gets (wy99_0 v4 c0_0 c0_1 c0_2 c0_3) P :=
  Gets.ev (fun _ h => loop_step (cfg := cfg) (f := 246) (rd := none) (bs := 0) h) (Gets.eq (by kernel_rfl) h)
theorem wy64_0_step (L : List (List AV)) (v4 c0_0 c0_1 : Int) (c0_2 : List UInt8) (c0_3 : List (List AV)) (c1_0 c1_1 : Int) (c1_2 : List UInt8) (c1_3 : List (List AV)) {P : AV → Prop} (h : Gets (bif decide (v4 ≥ 0) then bif leInt 0 v4 && ltInt v4 (L.length : Int) then kOpt (List.get?Internal L (v4.toNat)) fun row => bif Nat.beq (List.length row) 4 then bif Nat.ble 4 (List.length row) then kTmC (List.take 4 row) fun n n_1 s rows => (wy64_0 L (IntKind.wrap .i64 (v4 - 1)) c0_0 c0_1 c0_2 c0_3 9 0 [] [[AV.int .i64 n, .int .i64 n_1, .str s, .sl rows], [AV.int .i64 c1_0, .int .i64 c1_1, .str c1_2, .sl c1_3]]) else none else none else none else some (.agg [AV.int .i64 c1_0, .int .i64 c1_1, .str c1_2, .sl c1_3])) P) : Gets (wy64_0 L v4 c0_0 c0_1 c0_2 c0_3 c1_0 c1_1 c1_2 c1_3) P :=
  Gets.ev (fun _ h => loop_step (cfg := cfg) (f := 165) (rd := none) (bs := 0) h) (Gets.eq (by kernel_rfl) h)
theorem wy65_0_step (L : List (List AV)) (nv6 : Nat) (v7 c0_0 c0_1 : Int) (c0_2 : List UInt8) (c0_3 c0_4 : List (List AV)) (c0_5 : Int) (h1 : List (List AV)) {P : AV → Prop} (h : Gets (bif decide (v7 < (L.length : Int)) then bif leInt 0 v7 && ltInt v7 (L.length : Int) then kOpt (List.get?Internal L (v7.toNat)) fun row => bif Nat.beq (List.length row) 4 then bif Nat.ble 4 (List.length row) then kTmC (List.take 4 row) fun n n_1 s rows => (kOpt (EVf (EV cfg) 75 [.agg [AV.int .i64 n, .int .i64 n_1, .str s, .sl rows], .agg [AV.int .i64 c0_0, .int .i64 c0_1, .str c0_2, .sl c0_3, .sl c0_4, .int .i64 c0_5]]) fun v => kTup v fun cs => kCons cs fun c cs => kAgg c fun cs_1 => kCons cs_1 fun c cs_2 => kInt .i64 c fun n => kCons cs_2 fun c cs_3 => kInt .i64 c fun n_2 => kCons cs_3 fun c cs_4 => kStr c fun s => kCons cs_4 fun c cs_5 => kSl c fun rows => kNil cs_5 (kCons cs fun c cs => kBool c fun b => kNil cs (bif ! b then some (AV.tup [.sl [], .bool false]) else bif Nat.ble (0 + nv6) (List.length h1) && fitsIn (nv6 + 1) 56 then wy65_0 L (nv6 + 1) (IntKind.wrap .i64 (v7 + 1)) c0_0 c0_1 c0_2 c0_3 c0_4 c0_5 (List.append (List.take nv6 h1) [[AV.int .i64 n, .int .i64 n_2, .str s, .sl rows]]) else none))) else none else none else none else bif Nat.ble (0 + nv6) (List.length h1) && true then some (AV.tup [.sl (List.take nv6 h1), .bool true]) else none) P) : Gets (wy65_0 L nv6 v7 c0_0 c0_1 c0_2 c0_3 c0_4 c0_5 h1) P :=
  Gets.ev (fun _ h => loop_step (cfg := cfg) (f := 166) (rd := none) (bs := 0) h) (Gets.eq (by kernel_rfl) h)
theorem wy29_0_step (nv8 : Nat) (v9 c0_0 c0_1 : Int) (c0_2 : List UInt8) (c0_3 c0_4 : List (List AV)) (c0_5 c1_0 c1_1 : Int) (c1_2 : List UInt8) (c1_3 h2 : List (List AV)) {P : AV → Prop} (h : Gets (bif decide (v9 < (c0_4.length : Int)) then bif leInt 0 v9 && ltInt v9 (c0_4.length : Int) then kOpt (List.get?Internal c0_4 (v9.toNat)) fun row => bif Nat.beq (List.length row) 5 then bif Nat.ble 5 (List.length row) then kCons (List.take 4 (List.drop 1 row)) fun c cs => kInt .i64 c fun n => kCons cs fun c cs => kInt .i64 c fun n_1 => kCons cs fun c cs => kStr c fun s => kCons cs fun c cs => kSl c fun rows => kNil cs (bif Nat.ble (0 + nv8) (List.length h2) && fitsIn (nv8 + 1) 56 then wy29_0 (nv8 + 1) (IntKind.wrap .i64 (v9 + 1)) c0_0 c0_1 c0_2 c0_3 c0_4 c0_5 c1_0 c1_1 c1_2 c1_3 (List.append (List.take nv8 h2) [[AV.int .i64 n, .int .i64 n_1, .str s, .sl rows]]) else none) else none else none else none else bif Nat.ble (0 + nv8) (List.length h2) && true then kOpt (EVf (EV cfg) 165 [.sl (List.take nv8 h2)]) fun v => kTmV v fun n n_1 s rows => (kOpt (EVf (EV cfg) 164 [.agg [AV.int .i64 n, .int .i64 n_1, .str s, .sl rows], .bool true]) fun v => kTup v fun cs => kCons cs fun c cs => kAgg c fun cs_1 => kCons cs_1 fun c cs_2 => kInt .i64 c fun n => kCons cs_2 fun c cs_3 => kInt .i64 c fun n_2 => kCons cs_3 fun c cs_4 => kStr c fun s => kCons cs_4 fun c cs_5 => kSl c fun rows => kNil cs_5 (zd14 cs n n_2 s rows)) else none) P) : Gets (wy29_0 nv8 v9 c0_0 c0_1 c0_2 c0_3 c0_4 c0_5 c1_0 c1_1 c1_2 c1_3 h2) P :=
  Gets.ev (fun _ h => loop_step (cfg := cfg) (f := 75) (rd := none) (bs := 0) h) (Gets.eq (by kernel_rfl) h)
theorem wy28_0_step (bd : List (List AV)) (nv3 : Nat) (v4 : Int) (h0 : List (List AV)) {P : AV → Prop} (h : Gets (bif decide (v4 < (bd.length : Int)) then bif leInt 0 v4 && ltInt v4 (bd.length : Int) then kOpt (List.get?Internal bd (v4.toNat)) fun row => bif Nat.beq (List.length row) 5 then kOpt (List.get?Internal row 0) fun v => kInt .i64 v fun n => bif Nat.ble (0 + nv3) (List.length h0) && fitsIn (nv3 + 1) 8 then wy28_0 bd (nv3 + 1) (IntKind.wrap .i64 (v4 + 1)) (List.append (List.take nv3 h0) [[AV.int .i64 n]]) else none else none else none else bif Nat.ble (0 + nv3) (List.length h0) && true then some (.sl (List.take nv3 h0)) else none) P) : Gets (wy28_0 bd nv3 v4 h0) P :=
  Gets.ev (fun _ h => loop_step (cfg := cfg) (f := 74) (rd := none) (bs := 0) h) (Gets.eq (by kernel_rfl) h)
theorem wy87_0_step (bd : List (List AV)) (n v6 c0_0 c0_1 : Int) (c0_2 : List UInt8) (c0_3 : List (List AV)) {P : AV → Prop} (h : Gets (bif decide (v6 < (bd.length : Int)) then bif leInt 0 v6 && ltInt v6 (bd.length : Int) then kOpt (List.get?Internal bd (v6.toNat)) fun row => bif Nat.beq (List.length row) 5 then kOpt (List.get?Internal row 0) fun v => kInt .i64 v fun n_1 => bif n_1 == n then bif leInt 0 v6 && ltInt v6 (↑ (List.length bd) : Int) then kOpt (List.get?Internal bd (v6.toNat)) fun row => bif Nat.beq (List.length row) 5 then bif Nat.ble 5 (List.length row) then kCons (List.take 4 (List.drop 1 row)) fun c cs => kInt .i64 c fun n => kCons cs fun c cs => kInt .i64 c fun n_2 => kCons cs fun c cs => kStr c fun s => kCons cs fun c cs => kSl c fun rows => kNil cs (zd51 n n_2 s rows) else none else none else none else wy87_0 bd n (IntKind.wrap .i64 (v6 + 1)) c0_0 c0_1 c0_2 c0_3 else none else none else zd0) P) : Gets (wy87_0 bd n v6 c0_0 c0_1 c0_2 c0_3) P :=
  Gets.ev (fun _ h => loop_step (cfg := cfg) (f := 236) (rd := none) (bs := 0) h) (Gets.eq (by kernel_rfl) h)
noncomputable abbrev zd142 (cs : List AV) (n n_2 : Int) (s : List UInt8) (bd : List (List AV)) (v3 : Int) : Option (AV) := kCons cs fun c cs => kSl c fun rows => kNil cs (kOpt (EVs (EV cfg) 95 [.agg [AV.int .i64 n, .int .i64 n_2, .str s, .sl rows]]) fun v => kInt .i64 v fun n => bif n != 0 then some (.bool false) else wy59_0 bd (IntKind.wrap .i64 (v3 + 1)))
noncomputable abbrev zd141 (c : AV) (cs : List AV) (n n_2 : Int) (bd : List (List AV)) (v3 : Int) : Option (AV) := kStr c fun s => zd142 cs n n_2 s bd v3
noncomputable abbrev zd140 (cs : List AV) (n n_2 : Int) (bd : List (List AV)) (v3 : Int) : Option (AV) := kCons cs fun c cs => zd141 c cs n n_2 bd v3
noncomputable abbrev zd139 (c : AV) (cs : List AV) (n : Int) (bd : List (List AV)) (v3 : Int) : Option (AV) := kInt .i64 c fun n_2 => zd140 cs n n_2 bd v3
noncomputable abbrev zd138 (cs : List AV) (n : Int) (bd : List (List AV)) (v3 : Int) : Option (AV) := kCons cs fun c cs => zd139 c cs n bd v3
noncomputable abbrev zd137 (c : AV) (cs : List AV) (bd : List (List AV)) (v3 : Int) : Option (AV) := kInt .i64 c fun n => zd138 cs n bd v3
noncomputable abbrev zd136 (row : List AV) (bd : List (List AV)) (v3 : Int) : Option (AV) := kCons (List.take 4 (List.drop 1 row)) fun c cs => zd137 c cs bd v3
noncomputable abbrev zd135 (row : List AV) (bd : List (List AV)) (v3 : Int) : Option (AV) := bif Nat.ble 5 (List.length row) then zd136 row bd v3 else none
noncomputable abbrev zd134 (row : List AV) (bd : List (List AV)) (v3 : Int) : Option (AV) := bif Nat.beq (List.length row) 5 then zd135 row bd v3 else none
noncomputable abbrev zd133 (bd : List (List AV)) (v3 : Int) : Option (AV) := kOpt (List.get?Internal bd (v3.toNat)) fun row => zd134 row bd v3
theorem wy59_0_step (bd : List (List AV)) (v3 : Int) {P : AV → Prop} (h : Gets (bif decide (v3 < (bd.length : Int)) then bif leInt 0 v3 && ltInt v3 (bd.length : Int) then kOpt (List.get?Internal bd (v3.toNat)) fun row => bif Nat.beq (List.length row) 5 then kOpt (List.get?Internal row 0) fun v => kInt .i64 v fun n => bif decide (n < 0) then some (.bool false) else bif leInt (0 : Int) v3 && ltInt v3 (bd.length : Int) then kOpt (List.get?Internal bd (v3.toNat)) fun row => bif Nat.beq (List.length row) 5 then kOpt (List.get?Internal row 0) fun v => kInt .i64 v fun n => bif decide (n > 99) then some (.bool false) else bif decide (v3 > 0) then bif leInt 0 v3 && ltInt v3 (↑ (List.length bd) : Int) then kOpt (List.get?Internal bd (v3.toNat)) fun row => bif Nat.beq (List.length row) 5 then kOpt (List.get?Internal row 0) fun v => kInt .i64 v fun n => bif leInt 0 (IntKind.wrap .i64 (v3 - 1)) && ltInt (IntKind.wrap .i64 (v3 - 1)) (bd.length : Int) then kOpt (List.get?Internal bd (Int.toNat (IntKind.wrap .i64 (v3 - 1)))) fun row => bif Nat.beq (List.length row) 5 then kOpt (List.get?Internal row 0) fun v => kInt .i64 v fun n_1 => bif decide (n ≤ n_1) then some (.bool false) else bif leInt 0 v3 && ltInt v3 (bd.length : Int) then zd133 bd v3 else none else none else none else none else none else bif leInt 0 v3 && ltInt v3 (↑ (List.length bd) : Int) then zd133 bd v3 else none else none else none else none else none else some (.bool true)) P) : Gets (wy59_0 bd v3) P :=
  Gets.ev (fun _ h => loop_step (cfg := cfg) (f := 160) (rd := none) (bs := 0) h) (Gets.eq (by kernel_rfl) h)
theorem wy30_0_step (nv3 : Nat) (v4 c0_0 c0_1 : Int) (c0_2 : List UInt8) (c0_3 : List (List AV)) (c1_0 c1_1 : Int) (c1_2 : List UInt8) (c1_3 h2 : List (List AV)) {P : AV → Prop} (h : Gets (bif decide (v4 < (c0_3.length : Int)) then bif leInt 0 v4 && ltInt v4 (c0_3.length : Int) then kOpt (List.get?Internal c0_3 (v4.toNat)) fun row => bif Nat.beq (List.length row) 4 then bif Nat.ble 4 (List.length row) then kTmC (List.take 4 row) fun n n_1 s rows => (kOpt (EVf (EV cfg) 76 [.agg [AV.int .i64 n, .int .i64 n_1, .str s, .sl rows]]) fun v => kTmV v fun n n_2 s rows => (bif Nat.ble (0 + nv3) (List.length h2) && fitsIn (nv3 + 1) 56 then wy30_0 (nv3 + 1) (IntKind.wrap .i64 (v4 + 1)) c0_0 c0_1 c0_2 c0_3 c1_0 c1_1 c1_2 c1_3 (List.append (List.take nv3 h2) [[AV.int .i64 n, .int .i64 n_2, .str s, .sl rows]]) else none)) else none else none else none else bif Nat.ble (0 + nv3) (List.length h2) && true then some (.agg [AV.int .i64 c0_0, .int .i64 c0_1, .str c0_2, .sl (List.take nv3 h2)]) else none) P) : Gets (wy30_0 nv3 v4 c0_0 c0_1 c0_2 c0_3 c1_0 c1_1 c1_2 c1_3 h2) P :=
  Gets.ev (fun _ h => loop_step (cfg := cfg) (f := 76) (rd := none) (bs := 0) h) (Gets.eq (by kernel_rfl) h)
theorem wy120_0_step (A B : List (List AV)) (v5 v6 : Int) {P : AV → Prop} (h : Gets (bif decide (v6 < (A.length : Int)) then bif v5 == 0 then bif leInt 0 v6 && ltInt v6 (A.length : Int) then kOpt (List.get?Internal A (v6.toNat)) fun row => bif Nat.beq (List.length row) 4 then bif Nat.ble 4 (List.length row) then kTmC (List.take 4 row) fun n n_1 s rows => (bif leInt 0 v6 && ltInt v6 (B.length : Int) then kOpt (List.get?Internal B (v6.toNat)) fun row => bif Nat.beq (List.length row) 4 then bif Nat.ble 4 (List.length row) then kTmC (List.take 4 row) fun n_2 n_3 s_1 rows_1 => (kOpt (EVs (EV cfg) 151 [.agg [AV.int .i64 n, .int .i64 n_1, .str s, .sl rows], .agg [AV.int .i64 n_2, .int .i64 n_3, .str s_1, .sl rows_1]]) fun v => kInt .i64 v fun n => wy120_0 A B n (IntKind.wrap .i64 (v6 + 1))) else none else none else none) else none else none else none else some (.int .i64 v5) else some (.int .i64 v5)) P) : Gets (wy120_0 A B v5 v6) P :=
  Gets.ev (fun _ h => loop_step (cfg := cfg) (f := 229) (rd := none) (bs := 0) h) (Gets.eq (by kernel_rfl) h)
end Go.Proofs.YtkgkjngbfdnoiaaGreat
end

section
namespace Go.Av
def numT (i : Int) : Tm := .mk 1 i [] []
def symT (s : List UInt8) : Tm := .mk 2 0 s []
def zeroT : Tm := .mk 0 0 [] []
theorem numT_av (i : Int) : (numT i).av = .agg [.int .i64 1, .int .i64 i, .str [], .sl []] := by rw [numT, Tm.av_mk, rowsT_nil]
theorem symT_av (s : List UInt8) : (symT s).av = .agg [.int .i64 2, .int .i64 0, .str s, .sl []] := by rw [symT, Tm.av_mk, rowsT_nil]
theorem zeroT_av : zeroT.av = .agg [.int .i64 0, .int .i64 0, .str [], .sl []] := by rw [zeroT, Tm.av_mk, rowsT_nil]
def InB (a : Int) : Prop := -576460752303423488 ≤ a ∧ a ≤ 576460752303423487
instance (a : Int) : Decidable (InB a) := inferInstanceAs (Decidable (_ ∧ _))
theorem numT_chk {a : Int} (h : InB a) : (numT a).chk = 0 := by
 obtain ⟨h1, h2⟩ := h
 simp [numT, Tm.chk, chkS, partsL, Tm.parts, soundB, wordsL, Tm.words, Tm.own, Tm.kind, h1, h2]
def withinG (n : Int) : Option Tm := if InB n then some (numT n) else none
theorem ofInt_ext {a : Int} (h : InB a) : BitVec.ofInt 64 a = (BitVec.ofInt 60 a).signExtend 64 := by
 obtain ⟨h1, h2⟩ := h
 apply BitVec.eq_of_toInt_eq
 rw [BitVec.toInt_signExtend_of_le (by omega), BitVec.toInt_ofInt, BitVec.toInt_ofInt]
 rw [Int.bmod_eq_of_le (by omega) (by omega), Int.bmod_eq_of_le (by omega) (by omega)]
theorem wrap_toNat (r : BitVec 64) : IntKind.wrap .i64 r.toNat = r.toInt := by
 have h := r.isLt
 rw [BitVec.toInt_eq_toNat_cond]
 simp [IntKind.wrap, IntKind.bits, IntKind.signed]
 omega
def bvG (op : BinOp) (a b : Int) : Int :=
 match op with
 | .and => (BitVec.ofInt 60 a &&& BitVec.ofInt 60 b).toInt
 | .or => (BitVec.ofInt 60 a ||| BitVec.ofInt 60 b).toInt
 | _ => (BitVec.ofInt 60 a ^^^ BitVec.ofInt 60 b).toInt
theorem bvG_and {a b : Int} (ha : InB a) (hb : InB b) : fromSem (Op.intBits .and .i64 a b) = some (.int .i64 (bvG .and a b)) := by
 have : fromSem (Op.intBits .and .i64 a b) = some (.int .i64 (IntKind.wrap .i64 (BitVec.ofInt 64 a &&& BitVec.ofInt 64 b).toNat)) := rfl
 rw [this, wrap_toNat, ofInt_ext ha, ofInt_ext hb, ← BitVec.signExtend_and, BitVec.toInt_signExtend_of_le (by omega)]; rfl
theorem bvG_or {a b : Int} (ha : InB a) (hb : InB b) : fromSem (Op.intBits .or .i64 a b) = some (.int .i64 (bvG .or a b)) := by
 have : fromSem (Op.intBits .or .i64 a b) = some (.int .i64 (IntKind.wrap .i64 (BitVec.ofInt 64 a ||| BitVec.ofInt 64 b).toNat)) := rfl
 rw [this, wrap_toNat, ofInt_ext ha, ofInt_ext hb, ← BitVec.signExtend_or, BitVec.toInt_signExtend_of_le (by omega)]; rfl
theorem bvG_xor {a b : Int} (ha : InB a) (hb : InB b) : fromSem (Op.intBits .xor .i64 a b) = some (.int .i64 (bvG .xor a b)) := by
 have : fromSem (Op.intBits .xor .i64 a b) = some (.int .i64 (IntKind.wrap .i64 (BitVec.ofInt 64 a ^^^ BitVec.ofInt 64 b).toNat)) := rfl
 rw [this, wrap_toNat, ofInt_ext ha, ofInt_ext hb, ← BitVec.signExtend_xor, BitVec.toInt_signExtend_of_le (by omega)]; rfl
end Go.Av
namespace Go.Av
def numbersG (op : List UInt8) (a b : Int) : Option Tm :=
 if op = [43] then withinG (a + b)
 else if op = [45] then withinG (a - b)
 else if op = [42] then withinG (a * b)
 else if op = [98, 97, 110, 100] then withinG (bvG .and a b)
 else if op = [98, 111, 114] then withinG (bvG .or a b)
 else if op = [98, 120, 111, 114] then withinG (bvG .xor a b)
 else if b = 0 then none
 else if op = [100, 105, 118] then withinG (a.tdiv b)
 else withinG (a.tmod b)
theorem beqS (a b : List UInt8) : (a == b) = decide (a = b) := by by_cases h : a = b <;> simp [h]
theorem intDiv_quo {a b : Int} (h : b ≠ 0) : fromSem (Op.intDiv .quo .i64 a b) = some (.int .i64 (IntKind.wrap .i64 (a.tdiv b))) := by
 unfold Op.intDiv; rw [if_neg h]; rfl
theorem intDiv_rem {a b : Int} (h : b ≠ 0) : fromSem (Op.intDiv .rem .i64 a b) = some (.int .i64 (a.tmod b)) := by
 unfold Op.intDiv; rw [if_neg h]; rfl
theorem tdiv_abs {a b : Int} (_h : b ≠ 0) : (a.tdiv b).natAbs ≤ a.natAbs := by
 rw [Int.natAbs_tdiv]; exact Nat.div_le_self _ _
structure Env where
 obj : Tm
 binds : List (Int × Tm)
 self : Int
def bindsR (l : List (Int × Tm)) : List (List AV) := l.map fun p => .int .i64 p.1 :: p.2.cells
theorem bindsR_len (l : List (Int × Tm)) : (bindsR l).length = l.length := by simp [bindsR]
theorem bindsR_get (l : List (Int × Tm)) (i : Nat) : (bindsR l)[i]? = (l[i]?).map fun p => .int .i64 p.1 :: p.2.cells := by simp [bindsR]
abbrev mR (e : Env) (b : Bool) : List (List AV) := [[.int .i64 e.obj.kind, .int .i64 e.obj.num, .str e.obj.str, .sl (rowsT e.obj.subs), .sl (bindsR e.binds), .int .i64 e.self, .bool b]]
def Res (e : Env) (o : Option Tm) (r : AV × List (List AV)) : Prop :=
 match o with
 | some t => r = (t.av, mR e false)
 | none => r.2 = mR e true ∧ ∃ t : Tm, r.1 = t.av
end Go.Av
namespace Go.Av
def tru : List UInt8 := [116, 114, 117, 101]
def fal : List UInt8 := [102, 97, 108, 115, 101]
def truthT (b : Bool) : Tm := symT (if b then tru else fal)
def boolG (t : Tm) : Option Bool := if t.kind = 2 ∧ t.str = tru then some true else if t.kind = 2 ∧ t.str = fal then some false else none
def twoG (op : List UInt8) (a b : Tm) : Option Tm :=
 if op = [61, 61] then some (truthT (decide (cmpT a b = 0)))
 else if op = [61, 58, 61] then some (truthT (decide (cmpT a b = 0)))
 else if op = [47, 61] then some (truthT (!decide (cmpT a b = 0)))
 else if op = [61, 47, 61] then some (truthT (!decide (cmpT a b = 0)))
 else if op = [60] then some (truthT (decide (cmpT a b < 0)))
 else if op = [61, 60] then some (truthT (decide (cmpT a b ≤ 0)))
 else if op = [62] then some (truthT (decide (cmpT a b > 0)))
 else if op = [62, 61] then some (truthT (decide (cmpT a b ≥ 0)))
 else if op = [97, 110, 100] ∨ op = [97, 110, 100, 97, 108, 115, 111] then (boolG a).bind fun x => (boolG b).map fun y => truthT (x && y)
 else if op = [111, 114] ∨ op = [111, 114, 101, 108, 115, 101] then (boolG a).bind fun x => (boolG b).map fun y => truthT (x || y)
 else if op = [120, 111, 114] then (boolG a).bind fun x => (boolG b).map fun y => truthT (x != y)
 else if op = [101, 108, 101, 109, 101, 110, 116] then (if a.kind = 1 ∧ 1 ≤ a.num ∧ b.kind = 7 ∧ a.num ≤ b.subs.length then b.subs[(a.num - 1).toNat]? else none)
 else if a.kind = 1 ∧ b.kind = 1 then numbersG op a.num b.num else none
end Go.Av
namespace Go.Av
def opsTab : List (List UInt8 × List Int) := [
 ([115, 101, 108, 102], [0]),
 ([105, 115, 95, 97, 116, 111, 109], [1]),
 ([105, 115, 95, 105, 110, 116, 101, 103, 101, 114], [1]),
 ([105, 115, 95, 108, 105, 115, 116], [1]),
 ([105, 115, 95, 116, 117, 112, 108, 101], [1]),
 ([105, 115, 95, 112, 105, 100], [1]),
 ([105, 115, 95, 102, 117, 110, 99, 116, 105, 111, 110], [1]),
 ([105, 115, 95, 114, 101, 102, 101, 114, 101, 110, 99, 101], [1]),
 ([110, 111, 116], [1]),
 ([98, 110, 111, 116], [1]),
 ([97, 98, 115], [1]),
 ([116, 117, 112, 108, 101, 95, 115, 105, 122, 101], [1]),
 ([115, 105, 122, 101], [1]),
 ([104, 100], [1]),
 ([116, 108], [1]),
 ([108, 101, 110, 103, 116, 104], [1]),
 ([43], [1, 2]),
 ([45], [1, 2]),
 ([61, 61], [2]),
 ([61, 58, 61], [2]),
 ([47, 61], [2]),
 ([61, 47, 61], [2]),
 ([60], [2]),
 ([61, 60], [2]),
 ([62], [2]),
 ([62, 61], [2]),
 ([97, 110, 100], [2]),
 ([111, 114], [2]),
 ([120, 111, 114], [2]),
 ([97, 110, 100, 97, 108, 115, 111], [2]),
 ([111, 114, 101, 108, 115, 101], [2]),
 ([42], [2]),
 ([100, 105, 118], [2]),
 ([114, 101, 109], [2]),
 ([98, 97, 110, 100], [2]),
 ([98, 111, 114], [2]),
 ([98, 120, 111, 114], [2]),
 ([101, 108, 101, 109, 101, 110, 116], [2])]
def lookS {β : Type} (op : List UInt8) (d : β) : List (List UInt8 × β) → β
 | [] => d
 | p :: l => bif op == p.1 then p.2 else lookS op d l
theorem lookS_map {β γ : Type} (g : β → γ) (op : List UInt8) (d : β) : ∀ l : List (List UInt8 × β), lookS op (g d) (l.map fun p => (p.1, g p.2)) = g (lookS op d l)
 | [] => rfl
 | p :: l => by
  rw [List.map_cons, lookS, lookS, lookS_map g op d l]
  cases op == p.1 <;> rfl
def opsG (op : List UInt8) : List Int := lookS op [] opsTab
def intsR (l : List Int) : List (List AV) := l.map fun n => [.int .i64 n]
theorem intsR_len (l : List Int) : (intsR l).length = l.length := by simp [intsR]
theorem intsR_get (l : List Int) (i : Nat) : (intsR l)[i]? = (l[i]?).map fun n => [AV.int .i64 n] := by simp [intsR]
def selfG (n : Int) : Bool := decide (1 ≤ n) && decide (n ≤ 1073741824)
theorem numT_ok (n : Int) : (numT n).Ok := by simp [numT, Tm.Ok, OkL]
theorem within_ok {n : Int} {t : Tm} (h : withinG n = some t) : t.Ok ∧ t = numT n := by
 unfold withinG at h
 split at h
 ·cases h; exact ⟨numT_ok n, rfl⟩
 ·cases h
theorem numbersG_ok {op : List UInt8} {a b : Int} {t : Tm} (h : numbersG op a b = some t) : t.Ok ∧ ∃ n, t = numT n := by
 unfold numbersG at h
 repeat' split at h
 all_goals first | (cases h; done) | exact ⟨(within_ok h).1, _, (within_ok h).2⟩
theorem Tm.Ok.subs {t : Tm} (h : t.Ok) {x : Tm} (hx : x ∈ t.subs) : x.Ok := by
 obtain ⟨k, n, s, l⟩ := t
 exact h.sub hx
end Go.Av
end

section
namespace Go.Av
def digitG (b : UInt8) : Option Int := if b.toNat < 48 then none else if b.toNat > 57 then none else some ((b.toNat : Int) - 48)
def varG : List UInt8 → Option Int
 | [a, b] => if a.toNat = 36 then digitG b else none
 | [a, b, c] => if a.toNat = 36 ∧ b.toNat ≠ 48 then (digitG b).bind fun x => (digitG c).map fun y => x * 10 + y else none
 | _ => none
theorem digitG_in {b : UInt8} {x : Int} (h : digitG b = some x) : 0 ≤ x ∧ x ≤ 9 := by
 unfold digitG at h
 split at h
 ·cases h
 ·split at h
  ·cases h
  ·cases h; omega
theorem varG2 (a b : UInt8) : varG [a, b] = if a.toNat = 36 then digitG b else none := rfl
theorem varG3 (a b c : UInt8) : varG [a, b, c] = if a.toNat = 36 ∧ b.toNat ≠ 48 then (digitG b).bind fun x => (digitG c).map fun y => x * 10 + y else none := rfl
def varT (t : Tm) : Option Int := if t.kind = 2 ∧ t.chk = 0 then varG t.str else none
theorem wrapU {n : Nat} (h : n < 18446744073709551616) : IntKind.wrap .u64 (n : Int) = n := by
 simp [IntKind.wrap, IntKind.bits, IntKind.signed]; omega
theorem shl_one {n : Nat} (h : n < 64) : fromSem (Op.shift .shl .u64 1 .i64 (n : Int)) = some (.int .u64 ((2 ^ n : Nat) : Int)) := by
 have hp : 2 ^ n < 18446744073709551616 := by
  have : 2 ^ n < 2 ^ 64 := Nat.pow_lt_pow_right (by omega) h
  simpa using this
 have : fromSem (Op.shift .shl .u64 1 .i64 (n : Int)) = some (.int .u64 (IntKind.wrap .u64 (1 * 2 ^ (min (n : Int).toNat 64)))) := by
  unfold Op.shift
  rw [if_neg (by omega)]; rfl
 rw [this, Int.toNat_natCast, Nat.min_eq_left (by omega), Int.one_mul]
 have e : ((2 : Int) ^ n) = ((2 ^ n : Nat) : Int) := by simp
 rw [e, wrapU hp]
theorem or_bits {a b : Nat} (ha : a < 18446744073709551616) (hb : b < 18446744073709551616) : fromSem (Op.intBits .or .u64 (a : Int) (b : Int)) = some (.int .u64 ((a ||| b : Nat) : Int)) := by
 have : fromSem (Op.intBits .or .u64 (a : Int) (b : Int)) = some (.int .u64 (IntKind.wrap .u64 (BitVec.ofInt 64 (a : Int) ||| BitVec.ofInt 64 (b : Int)).toNat)) := rfl
 rw [this]
 have ea : (BitVec.ofInt 64 (a : Int)).toNat = a := by simp [BitVec.toNat_ofInt]; omega
 have eb : (BitVec.ofInt 64 (b : Int)).toNat = b := by simp [BitVec.toNat_ofInt]; omega
 have hlt := (BitVec.ofInt 64 (a : Int) ||| BitVec.ofInt 64 (b : Int)).isLt
 rw [wrapU (by simpa using hlt), BitVec.toNat_or, ea, eb]
theorem shr_bit {a n : Nat} (ha : a < 18446744073709551616) (hn : n < 64) : fromSem (Op.shift .shr .u64 (a : Int) .i64 (n : Int)) = some (.int .u64 ((a / 2 ^ n : Nat) : Int)) := by
 have : fromSem (Op.shift .shr .u64 (a : Int) .i64 (n : Int)) = some (.int .u64 (Int.fdiv a (2 ^ (min (n : Int).toNat 64)))) := by
  unfold Op.shift
  rw [if_neg (by omega)]; rfl
 rw [this, Int.toNat_natCast, Nat.min_eq_left (by omega)]
 have e : ((2 : Int) ^ n) = ((2 ^ n : Nat) : Int) := by simp
 rw [e, Int.fdiv_eq_ediv_of_nonneg _ (Int.natCast_nonneg _)]
 rfl
theorem and_one {a : Nat} (ha : a < 18446744073709551616) : fromSem (Op.intBits .and .u64 (a : Int) 1) = some (.int .u64 ((a % 2 : Nat) : Int)) := by
 have : fromSem (Op.intBits .and .u64 (a : Int) 1) = some (.int .u64 (IntKind.wrap .u64 (BitVec.ofInt 64 (a : Int) &&& BitVec.ofInt 64 1).toNat)) := rfl
 rw [this]
 have ea : (BitVec.ofInt 64 (a : Int)).toNat = a := by simp [BitVec.toNat_ofInt]; omega
 have eb : (BitVec.ofInt 64 (1 : Int)).toNat = 1 := by decide
 rw [BitVec.toNat_and, ea, eb, Nat.and_one_is_mod, wrapU (by omega)]
def SetRow (p : Nat → Bool) (r : List AV) : Prop := ∃ (lo hi : Nat) (l : List AV), r = .int .u64 lo :: .int .u64 hi :: l ∧ lo < 18446744073709551616 ∧ hi < 18446744073709551616 ∧ (∀ n, n < 64 → lo.testBit n = p n) ∧ ∀ n, n < 64 → hi.testBit n = p (n + 64)
end Go.Av
namespace Go.Av
theorem store_get {r cs : List AV} {o k : Nat} (hc : cs.length = 4) (h : o + 4 ≤ r.length) (hk : k < o ∨ o + 4 ≤ k) : (List.append (List.append (r.take o) cs) (r.drop (o + 4)))[k]? = r[k]? := by
 show ((r.take o ++ cs) ++ r.drop (o + 4))[k]? = r[k]?
 have hl : (r.take o).length = o := by simp; omega
 rcases hk with hk | hk
 ·rw [List.getElem?_append_left (by simp; omega), List.getElem?_append_left (by omega), List.getElem?_take, if_pos hk]
 ·rw [List.getElem?_append_right (by simp; omega), List.getElem?_drop]
  congr 1
  simp [hc]
  omega
theorem store_len {r cs : List AV} {o : Nat} (hc : cs.length = 4) (h : o + 4 ≤ r.length) : (List.append (List.append (r.take o) cs) (r.drop (o + 4))).length = r.length := by
 show ((r.take o ++ cs) ++ r.drop (o + 4)).length = r.length
 simp [hc]; omega
theorem store_same {r cs : List AV} {o : Nat} (hc : cs.length = 4) (h : o + 4 ≤ r.length) : ((List.append (List.append (r.take o) cs) (r.drop (o + 4))).drop o).take 4 = cs := by
 show (((r.take o ++ cs) ++ r.drop (o + 4)).drop o).take 4 = cs
 have hl : (r.take o).length = o := by simp; omega
 rw [List.append_assoc, List.drop_append_of_le_length (by omega), List.drop_of_length_le (by omega), List.nil_append, List.take_append_of_le_length (by omega), List.take_of_length_le (by omega)]
theorem store_other {r cs : List AV} {o o' : Nat} (hc : cs.length = 4) (h : o + 4 ≤ r.length) (hd : o' + 4 ≤ o ∨ o + 4 ≤ o') : ((List.append (List.append (r.take o) cs) (r.drop (o + 4))).drop o').take 4 = (r.drop o').take 4 := by
 apply List.ext_getElem?
 intro j
 by_cases hj : j < 4
 ·rw [List.getElem?_take, List.getElem?_take, if_pos hj, if_pos hj, List.getElem?_drop, List.getElem?_drop, store_get hc h (by omega)]
 ·rw [List.getElem?_take, List.getElem?_take, if_neg hj, if_neg hj]
def mayB : Int → List (Int × Tm) → Bool
 | _, [] => true
 | last, p :: l => decide (last < p.1) && (decide (p.1 ≤ 99) && (decide (p.2.chk = 0) && mayB p.1 l))
def lookB (n : Int) : List (Int × Tm) → Option Tm
 | [] => none
 | p :: l => if p.1 = n then some p.2 else lookB n l
structure BRow (m : List (Int × Tm)) (r : List AV) : Prop where
 len : r.length = 402
 set : SetRow (fun i => (lookB i m).isSome) r
 cells : ∀ i : Nat, i < 100 → ∀ t, lookB i m = some t → (r.drop (2 + i * 4)).take 4 = t.cells
 free : refsLtL 0 r = true
end Go.Av
namespace Go.Av
theorem lookB_snoc (n : Int) (p : Int × Tm) : ∀ m : List (Int × Tm), lookB n (m ++ [p]) = match lookB n m with | some t => some t | none => if p.1 = n then some p.2 else none
 | [] => by simp [lookB]
 | q :: m => by
  rw [List.cons_append, lookB, lookB]
  by_cases h : q.1 = n
  ·rw [if_pos h, if_pos h]
  ·rw [if_neg h, if_neg h]; exact lookB_snoc n p m
theorem lookB_mem {n : Int} {t : Tm} : ∀ {m : List (Int × Tm)}, lookB n m = some t → (n, t) ∈ m
 | [], h => by cases h
 | q :: m, h => by
  rw [lookB] at h
  by_cases hq : q.1 = n
  ·rw [if_pos hq] at h; cases h; subst hq; exact List.mem_cons_self
  ·rw [if_neg hq] at h; exact List.mem_cons_of_mem _ (lookB_mem h)
theorem mayB_range : ∀ {l : List (Int × Tm)} {last : Int}, mayB last l = true → ∀ p ∈ l, last < p.1 ∧ p.1 ≤ 99
 | [], _, _, p, hp => by cases hp
 | q :: l, last, h, p, hp => by
  simp only [mayB, Bool.and_eq_true, decide_eq_true_eq] at h
  rcases List.mem_cons.1 hp with rfl | hp
  ·exact ⟨h.1, h.2.1⟩
  ·have := mayB_range h.2.2.2 p hp
   omega
theorem BRow.add {m : List (Int × Tm)} {r r' : List AV} {n : Nat} {t : Tm} (h : BRow m r) (hn : n < 100) (hnew : lookB n m = none)
  (h1 : SetRow (fun i => (fun i : Nat => (lookB i m).isSome) i || decide (i = n)) r') (h2 : r'.drop 2 = r.drop 2) (h3 : r'.length = r.length) (h4 : refsLtL 0 r = true → refsLtL 0 r' = true) :
  BRow (m ++ [((n : Int), t)]) (List.append (List.append (r'.take (2 + n * 4)) t.cells) (r'.drop (2 + n * 4 + 4))) := by
 have hl : r'.length = 402 := by rw [h3, h.len]
 have hc : t.cells.length = 4 := length_cells t
 have ho : 2 + n * 4 + 4 ≤ r'.length := by omega
 have hd : ∀ j, (r'.drop (2 + j)) = r.drop (2 + j) := by
  intro j
  rw [← List.drop_drop, ← List.drop_drop, h2]
 refine ⟨by rw [store_len hc ho, hl], ?_, fun i hi t' ht' => ?_, ?_⟩
 ·obtain ⟨lo, hi, l, rfl, a1, a2, a3, a4⟩ := h1
  obtain ⟨o, ho'⟩ : ∃ o, 2 + n * 4 = o + 2 := ⟨n * 4, by omega⟩
  have lk : ∀ i : Nat, (lookB i (m ++ [((n : Int), t)])).isSome = ((lookB i m).isSome || decide (i = n)) := by
   intro i
   rw [lookB_snoc]
   cases hx : lookB (i : Int) m with
   | some x => rfl
   | none =>
    by_cases hi : i = n
    ·subst hi; simp
    ·have : ¬ ((n : Int) = (i : Int)) := by omega
     simp [this, hi]
  refine ⟨lo, hi, (l.take o ++ t.cells) ++ l.drop (o + 4), ?_, a1, a2, fun i hi => ?_, fun i hi => ?_⟩
  ·rw [ho']; rfl
  ·exact (a3 i hi).trans (lk i).symm
  ·exact (a4 i hi).trans (lk (i + 64)).symm
 ·rw [lookB_snoc] at ht'
  by_cases hin : i = n
  ·subst hin
   rw [hnew] at ht'
   simp at ht'
   subst ht'
   exact store_same hc ho
  ·cases hx : lookB (i : Int) m with
   | none =>
    rw [hx] at ht'
    have : ¬ ((n : Int) = (i : Int)) := by omega
    simp [this] at ht'
   | some x =>
    rw [hx] at ht'
    cases ht'
    rw [store_other hc ho (by omega), hd]
    exact h.cells i hi _ hx
 ·show refsLtL 0 ((r'.take (2 + n * 4) ++ t.cells) ++ r'.drop (2 + n * 4 + 4)) = true
  have hf := h4 h.free
  exact refsLtL_app (refsLtL_app (refsLtL_take hf) (cells_free t)) (refsLtL_drop hf)
def findG (n : Int) (l : List (Int × Tm)) : Option Tm := if mayB (-1) l then lookB n l else none
end Go.Av
end

section
namespace Go.Av
mutual
/-- is a term an expression over some variables? -/
def isG (V : List Int) : Tm → Bool
  | .mk k n s l =>
    if k = 2 then (match varT (.mk k n s l) with | none => true | some x => decide (x ∈ V))
    else if k = 9 then allG V l
    else if k = 7 then
      (match l with
       | [] => false
       | (.mk k1 _ s1 l1) :: rest =>
         if k1 = 7 then decide (rest.length = 0) && allG V l1
         else if k1 = 2 then (if s1 = [99, 111, 110, 115, 116] then decide (rest.length = 1) else decide ((rest.length : Int) ∈ opsG s1) && allG V rest)
         else false)
    else true
def allG (V : List Int) : List Tm → Bool
  | [] => true
  | t :: l => isG V t && allG V l
end
theorem isG_atom {V : List Int} {t : Tm} (h : t.kind = 2) : isG V t = (match varT t with | none => true | some x => decide (x ∈ V)) := by
 obtain ⟨k, n, s, l⟩ := t
 simp only [Tm.kind_mk] at h
 rw [isG.eq_def]; simp only []; rw [if_pos h]
theorem isG_cons {V : List Int} {t : Tm} (h : t.kind = 9) : isG V t = allG V t.subs := by
 obtain ⟨k, n, s, l⟩ := t
 simp only [Tm.kind_mk] at h
 subst h
 rw [isG.eq_def]; simp only []; rw [if_neg (by omega), if_pos trivial]; rfl
theorem isG_nil {V : List Int} {t : Tm} (h : t.kind = 7) (hl : t.subs = []) : isG V t = false := by
 obtain ⟨k, n, s, l⟩ := t
 simp only [Tm.kind_mk, Tm.subs_mk] at h hl
 subst h hl
 rw [isG.eq_def]; simp only []; rw [if_neg (by omega), if_neg (by omega), if_pos trivial]
theorem isG_tup {V : List Int} {t f : Tm} {r : List Tm} (h : t.kind = 7) (hl : t.subs = f :: r) : isG V t =
  if f.kind = 7 then decide (r.length = 0) && allG V f.subs
  else if f.kind = 2 then (if f.str = [99, 111, 110, 115, 116] then decide (r.length = 1) else decide ((r.length : Int) ∈ opsG f.str) && allG V r) else false := by
 obtain ⟨k, n, s, l⟩ := t
 obtain ⟨k1, n1, s1, l1⟩ := f
 simp only [Tm.kind_mk, Tm.subs_mk] at h hl
 subst h hl
 rw [isG.eq_def]; simp only []; rw [if_neg (by omega), if_neg (by omega), if_pos trivial]; rfl
theorem isG_other {V : List Int} {t : Tm} (h2 : t.kind ≠ 2) (h9 : t.kind ≠ 9) (h7 : t.kind ≠ 7) : isG V t = true := by
 obtain ⟨k, n, s, l⟩ := t
 simp only [Tm.kind_mk] at h2 h9 h7
 rw [isG.eq_def]; simp only []; rw [if_neg h2, if_neg h9, if_neg h7]
theorem allG_false {V : List Int} : ∀ {l : List Tm}, allG V l = false ↔ ∃ x ∈ l, isG V x = false
 | [] => by simp [allG]
 | t :: l => by
  rw [allG, Bool.and_eq_false_iff, allG_false (l := l)]
  simp
def checkG (V : List Int) (t : Tm) : Int := if t.chk = 0 then (if isG V t then 0 else 10) else 2
end Go.Av
end

section
namespace Go.Av
theorem chk_zero {t : Tm} : t.chk = 0 ↔ t.parts = true ∧ t.words ≤ 65536 := by
 unfold Tm.chk chkS
 simp only [partsL, wordsL, Bool.and_true, Nat.zero_add, Nat.add_zero]
 cases h : t.parts with
 | false => simp
 | true =>
  simp
theorem wL_parts (l : List Tm) (h : ∀ x ∈ l, x.parts = true → x.w ≤ 65 * x.words) : partsL l = true → wL l ≤ 65 * wordsL l := by
 induction l with
 | nil => intro _; simp
 | cons x l ih =>
  intro hp
  rw [partsL, Bool.and_eq_true] at hp
  have h1 := h x (by simp) hp.1
  have h2 := ih (fun y hy => h y (by simp [hy])) hp.2
  rw [wL_cons, wordsL]; omega
theorem sound_str {k n : Int} {s : List UInt8} {m : Nat} (h : soundB k n s m = true) : s.length ≤ 64 ∧ m ≤ 64 := by
 unfold soundB at h
 repeat' split at h
 all_goals simp at h
 all_goals first | (obtain ⟨_, _, h3, h4⟩ := h; subst h3; simp; omega) | (obtain ⟨_, h3, h4⟩ := h; subst h3; simp; omega) | omega
theorem w_parts (t : Tm) : t.parts = true → t.w ≤ 65 * t.words := by
 induction t using Tm.ind with
 | _ k n s l ih =>
  intro hp
  rw [Tm.parts, Bool.and_eq_true] at hp
  have h1 := sound_str hp.1
  have h2 := wL_parts l ih hp.2
  have h3 := (Tm.mk k n s l).own_le
  rw [Tm.w_mk, Tm.words]; omega
theorem w_chk {t : Tm} (h : t.chk = 0) : t.w ≤ 4259840 := by
 obtain ⟨h1, h2⟩ := chk_zero.1 h
 have := w_parts t h1
 omega
theorem subs_chk {t : Tm} (h : t.chk = 0) : t.subs.length ≤ 64 := by
 obtain ⟨h1, _⟩ := chk_zero.1 h
 rw [Tm.parts_eq, Bool.and_eq_true] at h1
 exact (sound_str h1.1).2
theorem wordsL_mem {x : Tm} {l : List Tm} (h : x ∈ l) : x.words ≤ wordsL l := by
 induction l with
 | nil => cases h
 | cons y l ih =>
  rw [wordsL]
  rcases List.mem_cons.1 h with rfl | h
  ·omega
  ·have := ih h; omega
theorem partsL_mem {l : List Tm} (h : partsL l = true) : ∀ x ∈ l, x.parts = true := by
 induction l with
 | nil => intro x hx; cases hx
 | cons y l ih =>
  intro x hx
  rw [partsL, Bool.and_eq_true] at h
  rcases List.mem_cons.1 hx with rfl | hx
  ·exact h.1
  ·exact ih h.2 x hx
theorem chk_sub {t x : Tm} (h : t.chk = 0) (hx : x ∈ t.subs) : x.chk = 0 := by
 obtain ⟨h1, h2⟩ := chk_zero.1 h
 rw [Tm.parts_eq, Bool.and_eq_true] at h1
 have := wordsL_mem hx
 rw [Tm.words_eq] at h2
 exact chk_zero.2 ⟨partsL_mem h1.2 x hx, by omega⟩
theorem cons_chk {t : Tm} (h : t.chk = 0) (hk : t.kind = 9) : ∃ a b, t.subs = [a, b] := by
 obtain ⟨h1, _⟩ := chk_zero.1 h
 rw [Tm.parts_eq, Bool.and_eq_true] at h1
 have h2 : soundB t.kind t.num t.str t.subs.length = true := h1.1
 rw [hk] at h2
 simp [soundB] at h2
 match hl : t.subs, h2.2.2 with
 | [a, b], _ => exact ⟨a, b, rfl⟩
theorem int_chk {t : Tm} (h : t.chk = 0) (hk : t.kind = 1) : InB t.num ∧ t = numT t.num := by
 obtain ⟨h1, _⟩ := chk_zero.1 h
 obtain ⟨k, n, s, l⟩ := t
 simp only [Tm.kind_mk] at hk
 subst hk
 rw [Tm.parts_eq, Bool.and_eq_true] at h1
 have h2 : soundB 1 n s l.length = true := h1.1
 simp [soundB] at h2
 obtain ⟨a, b, c, d⟩ := h2
 subst c d
 exact ⟨⟨a, b⟩, rfl⟩
def wholeO (t : Tm) : Option Tm := if t.chk = 0 then some t else none
theorem wholeO_chk {t v : Tm} (h : wholeO t = some v) : v.chk = 0 ∧ v = t := by
 unfold wholeO at h
 split at h
 ·rename_i hc; cases h; exact ⟨hc, rfl⟩
 ·cases h
def lenT : Nat → Tm → Option Nat
 | 0, _ => none
 | n + 1, t => if t.kind = 9 then (match t.subs with | [_, b] => (lenT n b).map (· + 1) | _ => none) else if t.kind = 8 then some 0 else none
def lenG (t : Tm) : Option Nat := lenT t.w t
theorem lenT_le : ∀ (n : Nat) (t : Tm) (m : Nat), lenT n t = some m → m ≤ n
 | 0, _, _, h => by cases h
 | n + 1, t, m, h => by
  rw [lenT] at h
  split at h
  ·split at h
   ·obtain ⟨x, h1, rfl⟩ := Option.map_eq_some_iff.1 h
    have := lenT_le n _ x h1
    omega
   ·cases h
  ·split at h
   ·cases h; omega
   ·cases h
theorem lenT_more : ∀ (n m : Nat) (t : Tm), t.w ≤ n → t.w ≤ m → lenT n t = lenT m t := by
 intro n
 induction n with
 | zero => intro m t h; have := w_pos t; omega
 | succ n ih =>
  intro m t hn hm
  obtain ⟨m, rfl⟩ : ∃ k, m = k + 1 := ⟨m - 1, by have := w_pos t; omega⟩
  rw [lenT, lenT]
  by_cases h9 : t.kind = 9
  ·rw [if_pos h9, if_pos h9]
   have hw := t.w_eq
   cases hs : t.subs with
   | nil => rfl
   | cons a l =>
    cases l with
    | nil => rfl
    | cons b l =>
     cases l with
     | nil =>
      rw [hs] at hw
      simp only [wL_cons, wL_nil] at hw
      simp only []
      rw [ih m b (by omega) (by omega)]
     | cons c l => rfl
  ·rw [if_neg h9, if_neg h9]
theorem lenG_cons {t a b : Tm} (hk : t.kind = 9) (hs : t.subs = [a, b]) : lenG t = (lenG b).map (· + 1) := by
 have hw := t.w_eq
 rw [hs] at hw
 simp only [wL_cons, wL_nil] at hw
 unfold lenG
 obtain ⟨n, hn⟩ : ∃ n, t.w = n + 1 := ⟨t.w - 1, by have := w_pos t; omega⟩
 rw [hn, lenT, if_pos hk, hs]
 simp only []
 rw [lenT_more n b.w b (by omega) (Nat.le_refl _)]
theorem lenG_nil {t : Tm} (hk : t.kind = 8) : lenG t = some 0 := by
 unfold lenG
 obtain ⟨n, hn⟩ : ∃ n, t.w = n + 1 := ⟨t.w - 1, by have := w_pos t; omega⟩
 rw [hn, lenT, if_neg (by omega), if_pos hk]
theorem lenG_none {t : Tm} (h9 : t.kind ≠ 9) (h8 : t.kind ≠ 8) : lenG t = none := by
 unfold lenG
 obtain ⟨n, hn⟩ : ∃ n, t.w = n + 1 := ⟨t.w - 1, by have := w_pos t; omega⟩
 rw [hn, lenT, if_neg h9, if_neg h8]
theorem lenG_le {t : Tm} {m : Nat} (h : lenG t = some m) : m ≤ t.w := lenT_le _ _ _ h
def oneG (op : List UInt8) (t : Tm) : Option Tm :=
 if op = [105, 115, 95, 97, 116, 111, 109] then some (truthT (decide (t.kind = 2)))
 else if op = [105, 115, 95, 105, 110, 116, 101, 103, 101, 114] then some (truthT (decide (t.kind = 1)))
 else if op = [105, 115, 95, 108, 105, 115, 116] then some (truthT (decide (t.kind = 9) || decide (t.kind = 8)))
 else if op = [105, 115, 95, 116, 117, 112, 108, 101] then some (truthT (decide (t.kind = 7)))
 else if op = [105, 115, 95, 112, 105, 100] then some (truthT (decide (t.kind = 6)))
 else if op = [105, 115, 95, 102, 117, 110, 99, 116, 105, 111, 110] then some (truthT (decide (t.kind = 5)))
 else if op = [105, 115, 95, 114, 101, 102, 101, 114, 101, 110, 99, 101] then some (truthT (decide (t.kind = 3) || decide (t.kind = 4)))
 else if op = [110, 111, 116] then (boolG t).map fun b => truthT (!b)
 else if op = [98, 110, 111, 116] then (if t.kind = 1 then withinG (-1 - t.num) else none)
 else if op = [43] then (if t.kind = 1 then withinG t.num else none)
 else if op = [45] then (if t.kind = 1 then withinG (-t.num) else none)
 else if op = [97, 98, 115] then (if t.kind = 1 then withinG (if t.num < 0 then -t.num else t.num) else none)
 else if op = [116, 117, 112, 108, 101, 95, 115, 105, 122, 101] then (if t.kind = 7 then withinG t.subs.length else none)
 else if op = [115, 105, 122, 101] then (if t.kind = 7 then withinG t.subs.length else none)
 else if op = [108, 101, 110, 103, 116, 104] then (lenG t).bind fun n => withinG n
 else if t.kind = 9 then (if op = [104, 100] then t.subs[0]? else t.subs[1]?)
 else none
def applyG (op : List UInt8) (l : List Tm) (self : Int) : Option Tm :=
 match l with
 | [a] => oneG op a
 | [a, b] => twoG op a b
 | _ => some (.mk 6 self [] [])
theorem withinG_chk {n : Int} {v : Tm} (h : withinG n = some v) : v.chk = 0 := by
 unfold withinG at h
 split at h
 ·rename_i hb; cases h; exact numT_chk hb
 ·cases h
theorem truthT_chk (b : Bool) : (truthT b).chk = 0 := by cases b <;> decide
def seqO : List (Option Tm) → Option (List Tm)
 | [] => some []
 | o :: l => o.bind fun x => (seqO l).map (x :: ·)
def listT (l : List Tm) : Tm := l.foldr (fun x e => .mk 9 0 [] [x, e]) (.mk 8 0 [] [])
def lazyG (an : Bool) : List (Option Tm) → Option Tm
 | a :: b :: _ => a.bind fun x => (boolG x).bind fun v => if v = an then (b.bind fun y => (boolG y).map fun _ => y) else some x
 | _ => none
mutual
/-- an expression's value -/
def valG (e : Env) : Tm → Option Tm
  | .mk k n s l =>
    if k = 2 then
      (match varT (.mk k n s l) with
       | some x => some ((lookB x e.binds).getD zeroT)
       | none => if s = [36, 95] then some e.obj else if s = [36, 36] then wholeO (listT (e.binds.map (·.2))) else some (.mk k n s l))
    else if k = 9 then (seqO (optsG e l)).bind fun ts => wholeO (.mk 9 0 [] ts)
    else if k = 7 then
      (match l with
       | [] => none
       | (.mk k1 _ s1 l1) :: rest =>
         if k1 = 7 then (seqO (optsG e l1)).bind fun ts => wholeO (.mk 7 0 [] ts)
         else if s1 = [99, 111, 110, 115, 116] then rest[0]?
         else if s1 = [97, 110, 100, 97, 108, 115, 111] then lazyG true (optsG e rest)
         else if s1 = [111, 114, 101, 108, 115, 101] then lazyG false (optsG e rest)
         else (seqO (optsG e rest)).bind fun ts => (applyG s1 ts e.self).bind wholeO)
    else some (.mk k n s l)
def optsG (e : Env) : List Tm → List (Option Tm)
  | [] => []
  | t :: l => valG e t :: optsG e l
end
theorem optsG_map (e : Env) : ∀ l : List Tm, optsG e l = l.map (valG e)
 | [] => rfl
 | t :: l => by rw [optsG, optsG_map e l]; rfl
theorem valG_atom {e : Env} {t : Tm} (h : t.kind = 2) : valG e t = match varT t with
  | some x => some ((lookB x e.binds).getD zeroT)
  | none => if t.str = [36, 95] then some e.obj else if t.str = [36, 36] then wholeO (listT (e.binds.map (·.2))) else some t := by
 obtain ⟨k, n, s, l⟩ := t
 simp only [Tm.kind_mk] at h
 rw [valG.eq_def]; simp only []; rw [if_pos h]; rfl
theorem valG_cons {e : Env} {t : Tm} (h : t.kind = 9) : valG e t = (seqO (optsG e t.subs)).bind fun ts => wholeO (.mk 9 0 [] ts) := by
 obtain ⟨k, n, s, l⟩ := t
 simp only [Tm.kind_mk] at h
 subst h
 rw [valG.eq_def]; simp only []; rw [if_neg (by omega), if_pos trivial]; rfl
theorem valG_tup {e : Env} {t f : Tm} {r : List Tm} (h : t.kind = 7) (hl : t.subs = f :: r) : valG e t =
  if f.kind = 7 then (seqO (optsG e f.subs)).bind fun ts => wholeO (.mk 7 0 [] ts)
  else if f.str = [99, 111, 110, 115, 116] then r[0]?
  else if f.str = [97, 110, 100, 97, 108, 115, 111] then lazyG true (optsG e r)
  else if f.str = [111, 114, 101, 108, 115, 101] then lazyG false (optsG e r)
  else (seqO (optsG e r)).bind fun ts => (applyG f.str ts e.self).bind wholeO := by
 obtain ⟨k, n, s, l⟩ := t
 obtain ⟨k1, n1, s1, l1⟩ := f
 simp only [Tm.kind_mk, Tm.subs_mk] at h hl
 subst h hl
 rw [valG.eq_def]; simp only []; rw [if_neg (by omega), if_neg (by omega), if_pos trivial]; rfl
theorem valG_other {e : Env} {t : Tm} (h2 : t.kind ≠ 2) (h9 : t.kind ≠ 9) (h7 : t.kind ≠ 7) : valG e t = some t := by
 obtain ⟨k, n, s, l⟩ := t
 simp only [Tm.kind_mk] at h2 h9 h7
 rw [valG.eq_def]; simp only []; rw [if_neg h2, if_neg h9, if_neg h7]
structure EnvOk (e : Env) : Prop where
 obj : e.obj.chk = 0
 may : mayB (-1) e.binds = true
 self : selfG e.self = true
theorem mayB_len : ∀ {l : List (Int × Tm)} {last : Int}, mayB last l = true → (l.length : Int) ≤ max 0 (99 - last)
 | [], _, _ => by simp; omega
 | p :: l, last, h => by
  simp only [mayB, Bool.and_eq_true, decide_eq_true_eq] at h
  have := mayB_len h.2.2.2
  simp only [List.length_cons]
  omega
theorem mayB_chk : ∀ {l : List (Int × Tm)} {last : Int}, mayB last l = true → ∀ p ∈ l, p.2.chk = 0
 | [], _, _, p, hp => by cases hp
 | q :: l, last, h, p, hp => by
  simp only [mayB, Bool.and_eq_true, decide_eq_true_eq] at h
  rcases List.mem_cons.1 hp with rfl | hp
  ·exact h.2.2.1
  ·exact mayB_chk h.2.2.2 p hp
theorem EnvOk.len {e : Env} (h : EnvOk e) : e.binds.length ≤ 100 := by have := mayB_len h.may; omega
def namesG (e : Env) : List Int := e.binds.map (·.1)
theorem lookB_some {n : Int} : ∀ {m : List (Int × Tm)}, n ∈ m.map (·.1) → ∃ t, lookB n m = some t
 | [], h => by cases h
 | q :: m, h => by
  rw [lookB]
  by_cases hq : q.1 = n
  ·exact ⟨q.2, by rw [if_pos hq]⟩
  ·rw [if_neg hq]
   rw [List.map_cons, List.mem_cons] at h
   exact lookB_some (h.resolve_left fun h => hq h.symm)
theorem allG_mem {V : List Int} {l : List Tm} (h : allG V l = true) : ∀ x ∈ l, isG V x = true := by
 intro x hx
 cases hg : isG V x with
 | true => rfl
 | false => rw [allG_false.2 ⟨x, hx, hg⟩] at h; cases h
theorem seqO_mem : ∀ {l : List (Option Tm)} {ts : List Tm}, seqO l = some ts → l = ts.map some
 | [], ts, h => by cases h; rfl
 | o :: l, ts, h => by
  rw [seqO] at h
  obtain ⟨x, hx, h⟩ := Option.bind_eq_some_iff.1 h
  obtain ⟨r, hr, rfl⟩ := Option.map_eq_some_iff.1 h
  rw [hx, seqO_mem hr]; rfl
theorem valG_chk {e : Env} (he : EnvOk e) : ∀ (n : Nat) (t : Tm), t.w ≤ n → t.chk = 0 → isG (namesG e) t = true → ∀ v, valG e t = some v → v.chk = 0 := by
 intro n
 induction n with
 | zero => intro t h; have := w_pos t; omega
 | succ n ih =>
  intro t hw hc hg v hv
  have hwe := t.w_eq
  by_cases h2 : t.kind = 2
  ·rw [valG_atom h2] at hv
   rw [isG_atom h2] at hg
   cases hx : varT t with
   | some x =>
    rw [hx] at hv hg
    obtain ⟨y, hy⟩ := lookB_some (of_decide_eq_true hg)
    simp only [hy, Option.getD_some] at hv
    cases hv
    exact mayB_chk he.may _ (lookB_mem hy)
   | none =>
    rw [hx] at hv
    simp only [] at hv
    split at hv
    ·cases hv; exact he.obj
    ·split at hv
     ·exact (wholeO_chk hv).1
     ·cases hv; exact hc
  by_cases h9 : t.kind = 9
  ·rw [valG_cons h9] at hv
   obtain ⟨ts, _, h⟩ := Option.bind_eq_some_iff.1 hv
   exact (wholeO_chk h).1
  by_cases h7 : t.kind = 7
  ·cases hl : t.subs with
   | nil => rw [isG_nil h7 hl] at hg; cases hg
   | cons f r =>
    have hr : ∀ x ∈ r, x.w ≤ n ∧ x.chk = 0 := fun x hx => by
     have h1 : x ∈ t.subs := by rw [hl]; simp [hx]
     have h2 := wL_mem h1
     exact ⟨by omega, chk_sub hc h1⟩
    rw [valG_tup h7 hl] at hv
    rw [isG_tup h7 hl] at hg
    by_cases f7 : f.kind = 7
    ·rw [if_pos f7] at hv
     obtain ⟨ts, _, h⟩ := Option.bind_eq_some_iff.1 hv
     exact (wholeO_chk h).1
    rw [if_neg f7] at hv hg
    by_cases f2 : f.kind = 2
    ·rw [if_pos f2] at hg
     by_cases hk : f.str = [99, 111, 110, 115, 116]
     ·rw [if_pos hk] at hv
      exact (hr v (List.mem_of_getElem? hv)).2
     rw [if_neg hk] at hv hg
     rw [Bool.and_eq_true] at hg
     have hlz : ∀ an, lazyG an (optsG e r) = some v → v.chk = 0 := by
      intro an h
      rw [optsG_map] at h
      match r, hr, hg.2 with
      | [], _, _ => cases h
      | [a], _, _ => cases h
      | a :: b :: q, hr, hg2 =>
       simp only [List.map_cons, lazyG] at h
       obtain ⟨x, hx, h⟩ := Option.bind_eq_some_iff.1 h
       obtain ⟨bb, _, h⟩ := Option.bind_eq_some_iff.1 h
       have hga := allG_mem hg2
       split at h
       ·obtain ⟨y, hy, h⟩ := Option.bind_eq_some_iff.1 h
        obtain ⟨_, _, rfl⟩ := Option.map_eq_some_iff.1 h
        exact ih b (hr b (by simp)).1 (hr b (by simp)).2 (hga b (by simp)) _ hy
       ·cases h
        exact ih a (hr a (by simp)).1 (hr a (by simp)).2 (hga a (by simp)) _ hx
     split at hv
     ·exact hlz _ hv
     split at hv
     ·exact hlz _ hv
     obtain ⟨ts, _, h⟩ := Option.bind_eq_some_iff.1 hv
     obtain ⟨w, _, h⟩ := Option.bind_eq_some_iff.1 h
     exact (wholeO_chk h).1
    ·rw [if_neg f2] at hg; cases hg
  ·rw [valG_other h2 h9 h7] at hv
   cases hv; exact hc
theorem seqO_chk {e : Env} (he : EnvOk e) {l ts : List Tm} (hl : ∀ x ∈ l, x.chk = 0 ∧ isG (namesG e) x = true) (h : seqO (optsG e l) = some ts) : ∀ x ∈ ts, x.chk = 0 := by
 have := seqO_mem h
 rw [optsG_map] at this
 intro x hx
 have hm : some x ∈ l.map (valG e) := by rw [this]; exact List.mem_map_of_mem hx
 obtain ⟨y, hy, hv⟩ := List.mem_map.1 hm
 exact valG_chk he _ y (Nat.le_refl _) (hl y hy).1 (hl y hy).2 x hv
theorem seqO_len {e : Env} {l ts : List Tm} (h : seqO (optsG e l) = some ts) : ts.length = l.length := by
 have := congrArg List.length (seqO_mem h)
 rw [optsG_map] at this
 simpa using this.symm
def envG (e : Env) : Bool := mayB (-1) e.binds && (decide (e.obj.chk = 0) && selfG e.self)
theorem envG_ok {e : Env} : envG e = true ↔ EnvOk e := by
 unfold envG
 constructor
 ·intro h
  rw [Bool.and_eq_true, Bool.and_eq_true, decide_eq_true_eq] at h
  exact ⟨h.2.1, h.1, h.2.2⟩
 ·rintro ⟨h1, h2, h3⟩
  rw [h2, h3, decide_eq_true h1]; rfl
def evalG (e : Env) (t : Tm) : Tm × Int := if envG e && decide (checkG (namesG e) t = 0) then (match valG e t with | some v => (v, 0) | none => (zeroT, 10)) else (zeroT, 2)
theorem checkG_zero {V : List Int} {t : Tm} (h : checkG V t = 0) : t.chk = 0 ∧ isG V t = true := by
 unfold checkG at h
 split at h
 ·rename_i h0
  split at h
  ·rename_i h1; exact ⟨h0, h1⟩
  ·cases h
 ·cases h
end Go.Av
end

section
namespace Go.Proofs.YtkgkjngbfdnoiaaGreat
open Go.Av
set_option maxRecDepth 100000
set_option maxHeartbeats 0

noncomputable def Ls41_0 : Den := evC cfg (EV cfg) 68 none 0 (sub (bodyOf Tryz.f68) [1, 1, 1, 0, 1, 0, 0])
noncomputable def As41_0 : Ex × List AV × AH → Option AV := kAft (Cfg.keepOut cfg 68 4) (kRun cfg (EV cfg) (kfN cfg 6) 68 none 0 (kFinF cfg (Cfg.lift cfg 68 0) Tryz.f68.results.toList) ([.block 0, .seq (sub (bodyOf Tryz.f68) [1, 1, 1, 1])]))
noncomputable def Ws41_0 : List AV × AH → Option AV := fun p => kOpt (LOOP 0 (some [1, 4, 5, 9, 10, 11]) ([(4, 1)]) Ls41_0 p) As41_0
noncomputable def Ls62_0 : Den := evC cfg (EV cfg) 157 none 1 (sub (bodyOf Tryz.f157) [1, 1, 0, 1, 0, 0])
noncomputable def As62_0 : Ex × List AV × AH → Option (AV × List (List AV)) := kAft (Cfg.keepOut cfg 157 (firstRid (sub (bodyOf Tryz.f157) [1, 1, 0, 1, 0, 0]))) (kBlock 0 (kSeq (fun (fr : List AV) (H : AH) => kCutTo (Cfg.cut cfg 157 (firstRid (sub (bodyOf Tryz.f157) [1, 1, 1]))) fr H fun (fr : List AV) (H : AH) => kCode cfg (EV cfg) (kfN cfg 6) 157 none 1 (sub (bodyOf Tryz.f157) [1, 1, 1]) fr H (kFinD cfg 7 (Cfg.lift cfg 157 0) (Array.toList (Func.results Tryz.f157)))) (kFinD cfg 7 (Cfg.lift cfg 157 0) (Array.toList (Func.results Tryz.f157)))))
noncomputable def Ws62_0 : List AV × AH → Option (AV × List (List AV)) := fun (p : List AV × AH) => kOpt (LOOP 1 (some [0, 5, 8, 9, 10]) [(5, 4)] Ls62_0 p) As62_0
noncomputable def Ls61_0 : Den := evC cfg (EV cfg) 156 none 1 (sub (bodyOf Tryz.f156) [1, 1, 0, 1, 0, 0])
noncomputable def As61_0 : Ex × List AV × AH → Option (AV × List (List AV)) := kAft (Cfg.keepOut cfg 156 (firstRid (sub (bodyOf Tryz.f156) [1, 1, 0, 1, 0, 0]))) (kBlock 0 (kSeq (fun (fr : List AV) (H : AH) => kCutTo (Cfg.cut cfg 156 (firstRid (sub (bodyOf Tryz.f156) [1, 1, 1]))) fr H fun (fr : List AV) (H : AH) => kCode cfg (EV cfg) (kfN cfg 6) 156 none 1 (sub (bodyOf Tryz.f156) [1, 1, 1]) fr H (kFinD cfg 7 (Cfg.lift cfg 156 0) (Array.toList (Func.results Tryz.f156)))) (kFinD cfg 7 (Cfg.lift cfg 156 0) (Array.toList (Func.results Tryz.f156)))))
noncomputable def Ws61_0 : List AV × AH → Option (AV × List (List AV)) := fun (p : List AV × AH) => kOpt (LOOP 1 (some [2, 3, 10, 11, 12]) [(3, 4)] Ls61_0 p) As61_0
noncomputable def Ls78_0 : Den := evC cfg (EV cfg) 273 none 4 (sub (bodyOf Tryz.f273) [1, 0, 0])
noncomputable def As78_0 : Ex × List AV × AH → Option AV := kAft (Cfg.keepOut cfg 273 (firstRid (sub (bodyOf Tryz.f273) [1, 0, 0]))) (kBlock 0 (kFinG cfg (Cfg.lift cfg 273 0) (fun (v : AV) (H : AH) => (fun (r : AV × AH) => kRangeEnd 0 3 (fx 16 [(3, AV.ptr 0 0 0), (4, AV.ptr 1 0 0)]) (kBlock 0 (kSeq (fun (fr : List AV) (H : AH) => kCutTo (Cfg.cut cfg 122 (firstRid (sub (bodyOf Tryz.f122) [1, 1]))) fr H fun (fr : List AV) (H : AH) => kCode cfg (EV cfg) (kfN cfg 6) 122 none 0 (sub (bodyOf Tryz.f122) [1, 1]) fr H (kFinF cfg (Cfg.lift cfg 122 0) (Array.toList (Func.results Tryz.f122)))) (kFinF cfg (Cfg.lift cfg 122 0) (Array.toList (Func.results Tryz.f122))))) (Prod.snd r)) (v, H)) (Array.toList (Func.results (Prod.snd (273, Tryz.f273))))))
noncomputable def Ws78_0 : List AV × AH → Option AV := fun (p : List AV × AH) => kOpt (LOOP 4 (some [0, 1, 3]) [] Ls78_0 p) As78_0
noncomputable abbrev ws41_0 (bd : List (List AV)) (nv4 : Nat) (v5 v11 c0_0 c0_1 : Int) (c0_2 : List UInt8) (c0_3 c0_4 : List (List AV)) (c0_5 : Int) (h1 : List (List AV)) : Option (AV) := Ws41_0  (((fx 48 [(1, .ptr 0 0 0), (4, .ms 1 0 nv4), (5, .int .i64 v5), (9, .sl bd), (10, .int .i64 (bd.length : Int)), (11, .int .i64 v11)]) : List AV), ([.rows false 6 [[.int .i64 c0_0, .int .i64 c0_1, .str c0_2, .sl c0_3, .sl c0_4, .int .i64 c0_5]], .rows true 1 h1] : AH))
noncomputable abbrev ws62_0 (L : List (List AV)) (nv5 : Nat) (v10 : Int) (h0 h1 : List (List AV)) : Option (AV × List (List AV)) := Ws62_0  (((fx 26 [(0, .ptr 0 0 0), (5, .ms 1 0 nv5), (8, .sl L), (9, .int .i64 (L.length : Int)), (10, .int .i64 v10)]) : List AV), ([.rows true 7 h0, .rows true 4 h1] : AH))
noncomputable abbrev ws61_0 (bd : List (List AV)) (nv3 : Nat) (v12 : Int) (h0 : List (List AV)) (c1_0 c1_1 : Int) (c1_2 : List UInt8) (c1_3 h2 : List (List AV)) : Option (AV × List (List AV)) := Ws61_0  (((fx 25 [(2, .ptr 1 0 0), (3, .ms 2 0 nv3), (10, .sl bd), (11, .int .i64 (bd.length : Int)), (12, .int .i64 v12)]) : List AV), ([.rows true 7 h0, .rows false 4 [[.int .i64 c1_0, .int .i64 c1_1, .str c1_2, .sl c1_3]], .rows true 4 h2] : AH))
noncomputable abbrev ws78_0 (v3 c0_0 c0_1 : Int) (c0_2 : List UInt8) (c0_3 : List (List AV)) (c1_0 c1_1 : Int) (c1_2 : List UInt8) (c1_3 c2_0 : List (List AV)) : Option (AV) := Ws78_0  (((fx 19 [(0, .yld 3), (1, .ptr 2 0 0), (3, .int .i64 v3)]) : List AV), ([.rows false 4 [[.int .i64 c0_0, .int .i64 c0_1, .str c0_2, .sl c0_3]], .rows false 4 [[.int .i64 c1_0, .int .i64 c1_1, .str c1_2, .sl c1_3]], .rows false 1 [[.sl c2_0]], rngB Tryz.f122 122 [1, 0, 1, 0] (fx 16 [(3, .ptr 0 0 0)]) none LoopState.ready] : AH))
theorem guardMay_run (ke ne : Int) (se : List UInt8) (le bd : List (List AV)) (self : Int) {P : AV → Prop} (h : Gets (ws41_0 bd 0 (- 1) 0 ke ne se le bd self []) P) : Gets (EVf (EV cfg) 68 ([AV.agg [AV.int IntKind.i64 ke, AV.int IntKind.i64 ne, AV.str se, AV.sl le, AV.sl bd, AV.int IntKind.i64 self]] : List AV)) P :=
  Gets.ev (fun _ h => funF rfl rfl Tryz.func68 rfl h) (Gets.eq (by kernel_rfl) h)
theorem guardIs_run (kt nt : Int) (st : List UInt8) (lt V : List (List AV)) {P : AV → Prop} (h : Gets (bif kt == 2 then kOpt (EVs (EV cfg) 153 [.agg [.int .i64 kt, .int .i64 nt, .str st, .sl lt]]) fun v => kTup v fun cs => kCons cs fun c cs => kInt .i64 c fun n => kCons cs fun c cs => kBool c fun b => kNil cs (bif ! b then some (.bool true) else kOpt (EVs (EV cfg) 88 [.sl V, .int .i64 n]) fun v => kBool v fun b => some (.bool b)) else bif kt == 9 then kOpt (EVs (EV cfg) 230 [.sl lt, .sl V]) fun v => kBool v fun b => some (.bool b) else bif kt == 7 then bif (lt.length : Int) == 0 then some (.bool false) else bif ltInt 0 (lt.length : Int) then kOpt (List.get?Internal lt 0) fun row => bif Nat.beq (List.length row) 4 then bif Nat.ble 4 (List.length row) then kTmC (List.take 4 row) fun n n_1 s rows => (bif leInt 1 (lt.length : Int) then bif rowsOk 4 lt then bif n == 7 then bif (↑ (List.length (List.take (List.length lt - 1) (List.drop 1 lt))) : Int) == (0 : Int) then kOpt (EVs (EV cfg) 230 [.sl rows, .sl V]) fun v => kBool v fun b => some (.bool b) else some (.bool false) else bif n != 2 then some (.bool false) else bif s == [(99 : UInt8), (111 : UInt8), (110 : UInt8), (115 : UInt8), (116 : UInt8)] then some (.bool ((↑ (List.length (List.take (List.length lt - 1) (List.drop 1 lt))) : Int) == 1)) else kOpt (EVf (EV cfg) 89 [.str s]) fun v => kSl v fun rows => kOpt (EVs (EV cfg) 88 [.sl rows, .int .i64 (↑ (List.length (List.take (List.length lt - 1) (List.drop 1 lt))) : Int)]) fun v => kBool v fun b => bif b then kOpt (EVs (EV cfg) 230 [.sl (List.take (List.length lt - 1) (List.drop 1 lt)), .sl V]) fun v => kBool v fun b => some (.bool b) else some (.bool false) else none else none) else none else none else none else some (.bool true)) P) : Gets (EVs (EV cfg) 152 ([AV.agg [AV.int IntKind.i64 kt, AV.int IntKind.i64 nt, AV.str st, AV.sl lt], AV.sl V] : List AV)) P :=
  Gets.ev (fun _ h => funS rfl rfl Tryz.func152 rfl h) (Gets.eq (by kernel_rfl) h)
theorem guardAll_run (L V : List (List AV)) {P : AV → Prop} (h : Gets (kOpt (EVs (EV cfg) 143 [.sl L, AV.fn (Fn.func 290) [] [AV.cptr [.sl V] 0]]) fun v => kBool v fun b => some (.bool ! b)) P) : Gets (EVs (EV cfg) 230 ([AV.sl L, AV.sl V] : List AV)) P :=
  Gets.ev (fun _ h => funS rfl rfl Tryz.func230 rfl h) (Gets.eq (by kernel_rfl) h)
theorem guardCheck_run (kt nt : Int) (st : List UInt8) (lt V : List (List AV)) {P : AV → Prop} (h : Gets (kOpt (EVs (EV cfg) 91 [.agg [.int .i64 kt, .int .i64 nt, .str st, .sl lt]]) fun v => kInt .i64 v fun n => bif n != 0 then some (.int .i64 2) else kOpt (EVs (EV cfg) 152 [.agg [.int .i64 kt, .int .i64 nt, .str st, .sl lt], .sl V]) fun v => kBool v fun b => bif ! b then some (.int .i64 10) else some (.int .i64 0)) P) : Gets (EVs (EV cfg) 69 ([AV.agg [AV.int IntKind.i64 kt, AV.int IntKind.i64 nt, AV.str st, AV.sl lt], AV.sl V] : List AV)) P :=
  Gets.ev (fun _ h => funS rfl rfl Tryz.func69 rfl h) (Gets.eq (by kernel_rfl) h)
noncomputable abbrev ze0 (q : AV × List (List AV)) : Option (AV × List (List AV)) := kTmV q.1 fun n n_1 s rows => (some (.agg [.int .i64 n, .int .i64 n_1, .str s, .sl rows], q.2))
theorem mWhole_run (ke ne : Int) (se : List UInt8) (le bd : List (List AV)) (self : Int) (bad : Bool) (kt nt : Int) (st : List UInt8) (lt : List (List AV)) {P : AV × List (List AV) → Prop} (h : Gets (bif bad then kOpt (EVd (EV cfg) 233 [.ptr 0 0 0] 7 [[.int .i64 ke, .int .i64 ne, .str se, .sl le, .sl bd, .int .i64 self, .bool bad]]) fun q => ze0 q else kOpt (EVs (EV cfg) 91 [.agg [.int .i64 kt, .int .i64 nt, .str st, .sl lt]]) fun v => kInt .i64 v fun n => bif n != 0 then kOpt (EVd (EV cfg) 233 [.ptr 0 0 0] 7 [[.int .i64 ke, .int .i64 ne, .str se, .sl le, .sl bd, .int .i64 self, .bool bad]]) fun q => ze0 q else some (.agg [.int .i64 kt, .int .i64 nt, .str st, .sl lt], [[.int .i64 ke, .int .i64 ne, .str se, .sl le, .sl bd, .int .i64 self, .bool bad]])) P) : Gets (EVd (EV cfg) 155 ([AV.ptr (0 : Nat) (0 : Nat) (0 : Nat), AV.agg [AV.int IntKind.i64 kt, AV.int IntKind.i64 nt, AV.str st, AV.sl lt]] : List AV) 7 [[AV.int .i64 ke, AV.int .i64 ne, AV.str se, AV.sl le, AV.sl bd, AV.int .i64 self, AV.bool bad]]) P :=
  Gets.ev (fun _ h => funD rfl rfl Tryz.func155 rfl h) (Gets.eq (by kernel_rfl) h)
theorem mValues_run (ke ne : Int) (se : List UInt8) (le bd : List (List AV)) (self : Int) (bad : Bool) (L : List (List AV)) {P : AV × List (List AV) → Prop} (h : Gets (ws62_0 L 0 0 [[.int .i64 ke, .int .i64 ne, .str se, .sl le, .sl bd, .int .i64 self, .bool bad]] []) P) : Gets (EVd (EV cfg) 157 ([AV.ptr (0 : Nat) (0 : Nat) (0 : Nat), AV.sl L] : List AV) 7 [[AV.int .i64 ke, AV.int .i64 ne, AV.str se, AV.sl le, AV.sl bd, AV.int .i64 self, AV.bool bad]]) P :=
  Gets.ev (fun _ h => funD rfl rfl Tryz.func157 rfl h) (Gets.eq (by kernel_rfl) h)
theorem mValue_run (ke ne : Int) (se : List UInt8) (le bd : List (List AV)) (self : Int) (bad : Bool) (kt nt : Int) (st : List UInt8) (lt : List (List AV)) {P : AV × List (List AV) → Prop} (h : Gets (bif kt == 2 then kOpt (EVs (EV cfg) 153 [.agg [.int .i64 kt, .int .i64 nt, .str st, .sl lt]]) fun v => kTup v fun cs => kCons cs fun c cs => kInt .i64 c fun n => kCons cs fun c cs => kBool c fun b => kNil cs (bif b then kOpt (EVf (EV cfg) 154 [.sl bd, .int .i64 n]) fun v => kTup v fun cs => kCons cs fun c cs => kAgg c fun cs_1 => kCons cs_1 fun c cs_2 => kInt .i64 c fun n => kCons cs_2 fun c cs_3 => kInt .i64 c fun n_1 => kCons cs_3 fun c cs_4 => kStr c fun s => kCons cs_4 fun c cs_5 => kSl c fun rows => kNil cs_5 (kCons cs fun c cs => kBool c fun b => kNil cs (some (.agg [.int .i64 n, .int .i64 n_1, .str s, .sl rows], [[.int .i64 ke, .int .i64 ne, .str se, .sl le, .sl bd, .int .i64 self, .bool bad]]))) else bif st == [(36 : UInt8), (95 : UInt8)] then some (.agg [.int .i64 ke, .int .i64 ne, .str se, .sl le], [[.int .i64 ke, .int .i64 ne, .str se, .sl le, .sl bd, .int .i64 self, .bool bad]]) else bif st == [(36 : UInt8), (36 : UInt8)] then kOpt (EVd (EV cfg) 156 [.ptr 0 0 0] 7 [[.int .i64 ke, .int .i64 ne, .str se, .sl le, .sl bd, .int .i64 self, .bool bad]]) fun q => kTmV q.1 fun n n_1 s rows => (kOpt (EVd (EV cfg) 155 [.ptr 0 0 0, .agg [.int .i64 n, .int .i64 n_1, .str s, .sl rows]] 7 q.2) fun q => kTmV q.1 fun n n_2 s rows => (some (.agg [.int .i64 n, .int .i64 n_2, .str s, .sl rows], q.2))) else some (.agg [.int .i64 kt, .int .i64 nt, .str st, .sl lt], [[.int .i64 ke, .int .i64 ne, .str se, .sl le, .sl bd, .int .i64 self, .bool bad]])) else bif kt == 9 then kOpt (EVd (EV cfg) 157 [.ptr 0 0 0, .sl lt] 7 [[.int .i64 ke, .int .i64 ne, .str se, .sl le, .sl bd, .int .i64 self, .bool bad]]) fun q => kSl q.1 fun rows => kOpt (EVd (EV cfg) 155 [.ptr 0 0 0, .agg [.int .i64 9, .int .i64 0, .str [], .sl rows]] 7 q.2) fun q => ze0 q else bif kt == 7 then bif ltInt 0 (lt.length : Int) then kOpt (List.get?Internal lt 0) fun row => bif Nat.beq (List.length row) 4 then bif Nat.ble 4 (List.length row) then kTmC (List.take 4 row) fun n n_1 s rows => (bif n == 7 then kOpt (EVd (EV cfg) 157 [.ptr 0 0 0, .sl rows] 7 [[.int .i64 ke, .int .i64 ne, .str se, .sl le, .sl bd, .int .i64 self, .bool bad]]) fun q => kSl q.1 fun rows => kOpt (EVd (EV cfg) 155 [.ptr 0 0 0, .agg [.int .i64 7, .int .i64 0, .str [], .sl rows]] 7 q.2) fun q => kTmV q.1 fun n n_2 s rows => (some (.agg [.int .i64 n, .int .i64 n_2, .str s, .sl rows], q.2)) else bif s == [(99 : UInt8), (111 : UInt8), (110 : UInt8), (115 : UInt8), (116 : UInt8)] then bif ltInt 1 (lt.length : Int) then kOpt (List.get?Internal lt 1) fun row => bif Nat.beq (List.length row) 4 then bif Nat.ble 4 (List.length row) then kTmC (List.take 4 row) fun n n_2 s rows => (some (.agg [.int .i64 n, .int .i64 n_2, .str s, .sl rows], [[.int .i64 ke, .int .i64 ne, .str se, .sl le, .sl bd, .int .i64 self, .bool bad]])) else none else none else none else bif s == [(97 : UInt8), (110 : UInt8), (100 : UInt8), (97 : UInt8), (108 : UInt8), (115 : UInt8), (111 : UInt8)] then bif ltInt 1 (lt.length : Int) then kOpt (List.get?Internal lt 1) fun row => bif Nat.beq (List.length row) 4 then bif Nat.ble 4 (List.length row) then kTmC (List.take 4 row) fun n n_2 s_1 rows => (kOpt (EVd (EV cfg) 70 [.ptr 0 0 0, .agg [.int .i64 n, .int .i64 n_2, .str s_1, .sl rows]] 7 [[.int .i64 ke, .int .i64 ne, .str se, .sl le, .sl bd, .int .i64 self, .bool bad]]) fun q => kTmV q.1 fun n n_3 s_2 rows => (kOpt (List.get?Internal q.2 0) fun row => kOpt (List.get?Internal row 6) fun v => kBool v fun b => bif b then some (.agg [.int .i64 n, .int .i64 n_3, .str s_2, .sl rows], q.2) else kOpt (EVm (EV cfg) 158 [.ptr 0 0 0, .agg [.int .i64 n, .int .i64 n_3, .str s_2, .sl rows]] 7 q.2) fun q => kMBool q.1 fun b => bif ! b == (s == [(97 : UInt8), (110 : UInt8), (100 : UInt8), (97 : UInt8), (108 : UInt8), (115 : UInt8), (111 : UInt8)]) then some (.agg [.int .i64 n, .int .i64 n_3, .str s_2, .sl rows], q.2) else kOpt (List.get?Internal q.2 0) fun row => kOpt (List.get?Internal row 6) fun v => kBool v fun b => bif b then some (.agg [.int .i64 n, .int .i64 n_3, .str s_2, .sl rows], q.2) else bif ltInt 2 (lt.length : Int) then kOpt (List.get?Internal lt 2) fun row => bif Nat.beq (List.length row) 4 then bif Nat.ble 4 (List.length row) then kTmC (List.take 4 row) fun n n_4 s rows => (kOpt (EVd (EV cfg) 70 [.ptr 0 0 0, AV.agg [.int .i64 n, .int .i64 n_4, .str s, .sl rows]] 7 q.2) fun q => kTmV q.1 fun n n_5 s rows => (kOpt (List.get?Internal q.2 0) fun row => kOpt (List.get?Internal row 6) fun v => kBool v fun b => bif ! b then kOpt (EVm (EV cfg) 158 [.ptr 0 0 0, AV.agg [.int .i64 n, .int .i64 n_5, .str s, .sl rows]] 7 q.2) fun q => kMBool q.1 fun b => some (AV.agg [.int .i64 n, .int .i64 n_5, .str s, .sl rows], q.2) else some (AV.agg [.int .i64 n, .int .i64 n_5, .str s, .sl rows], q.2))) else none else none else none)) else none else none else none else bif s == [(111 : UInt8), (114 : UInt8), (101 : UInt8), (108 : UInt8), (115 : UInt8), (101 : UInt8)] then bif ltInt 1 (lt.length : Int) then kOpt (List.get?Internal lt 1) fun row => bif Nat.beq (List.length row) 4 then bif Nat.ble 4 (List.length row) then kTmC (List.take 4 row) fun n n_2 s_1 rows => (kOpt (EVd (EV cfg) 70 [.ptr 0 0 0, .agg [.int .i64 n, .int .i64 n_2, .str s_1, .sl rows]] 7 [[.int .i64 ke, .int .i64 ne, .str se, .sl le, .sl bd, .int .i64 self, .bool bad]]) fun q => kTmV q.1 fun n n_3 s_2 rows => (kOpt (List.get?Internal q.2 0) fun row => kOpt (List.get?Internal row 6) fun v => kBool v fun b => bif b then some (.agg [.int .i64 n, .int .i64 n_3, .str s_2, .sl rows], q.2) else kOpt (EVm (EV cfg) 158 [.ptr 0 0 0, .agg [.int .i64 n, .int .i64 n_3, .str s_2, .sl rows]] 7 q.2) fun q => kMBool q.1 fun b => bif ! b == (s == [(97 : UInt8), (110 : UInt8), (100 : UInt8), (97 : UInt8), (108 : UInt8), (115 : UInt8), (111 : UInt8)]) then some (.agg [.int .i64 n, .int .i64 n_3, .str s_2, .sl rows], q.2) else kOpt (List.get?Internal q.2 0) fun row => kOpt (List.get?Internal row 6) fun v => kBool v fun b => bif b then some (.agg [.int .i64 n, .int .i64 n_3, .str s_2, .sl rows], q.2) else bif ltInt 2 (lt.length : Int) then kOpt (List.get?Internal lt 2) fun row => bif Nat.beq (List.length row) 4 then bif Nat.ble 4 (List.length row) then kTmC (List.take 4 row) fun n n_4 s rows => (kOpt (EVd (EV cfg) 70 [.ptr 0 0 0, AV.agg [.int .i64 n, .int .i64 n_4, .str s, .sl rows]] 7 q.2) fun q => kTmV q.1 fun n n_5 s rows => (kOpt (List.get?Internal q.2 0) fun row => kOpt (List.get?Internal row 6) fun v => kBool v fun b => bif ! b then kOpt (EVm (EV cfg) 158 [.ptr 0 0 0, AV.agg [.int .i64 n, .int .i64 n_5, .str s, .sl rows]] 7 q.2) fun q => kMBool q.1 fun b => some (AV.agg [.int .i64 n, .int .i64 n_5, .str s, .sl rows], q.2) else some (AV.agg [.int .i64 n, .int .i64 n_5, .str s, .sl rows], q.2))) else none else none else none)) else none else none else none else bif leInt 1 (lt.length : Int) then bif rowsOk 4 lt then kOpt (EVd (EV cfg) 157 [.ptr 0 0 0, .sl (List.take (List.length lt - 1) (List.drop 1 lt))] 7 [[.int .i64 ke, .int .i64 ne, .str se, .sl le, .sl bd, .int .i64 self, .bool bad]]) fun q => kSl q.1 fun rows => kOpt (List.get?Internal q.2 0) fun row => kOpt (List.get?Internal row 6) fun v => kBool v fun b => bif b then some (.agg [.int .i64 0, .int .i64 0, .str [], .sl []], q.2) else kOpt (EVd (EV cfg) 92 [.ptr 0 0 0, .str s, .sl rows] 7 q.2) fun q => kTmV q.1 fun n n_2 s rows => (kOpt (EVd (EV cfg) 155 [.ptr 0 0 0, .agg [.int .i64 n, .int .i64 n_2, .str s, .sl rows]] 7 q.2) fun q => kTmV q.1 fun n n_3 s rows => (some (.agg [.int .i64 n, .int .i64 n_3, .str s, .sl rows], q.2))) else none else none) else none else none else none else some (.agg [.int .i64 kt, .int .i64 nt, .str st, .sl lt], [[.int .i64 ke, .int .i64 ne, .str se, .sl le, .sl bd, .int .i64 self, .bool bad]])) P) : Gets (EVd (EV cfg) 70 ([AV.ptr (0 : Nat) (0 : Nat) (0 : Nat), AV.agg [AV.int IntKind.i64 kt, AV.int IntKind.i64 nt, AV.str st, AV.sl lt]] : List AV) 7 [[AV.int .i64 ke, AV.int .i64 ne, AV.str se, AV.sl le, AV.sl bd, AV.int .i64 self, AV.bool bad]]) P :=
  Gets.ev (fun _ h => funD rfl rfl Tryz.func70 rfl h) (Gets.eq (by kernel_rfl) h)
theorem mBound_run (ke ne : Int) (se : List UInt8) (le bd : List (List AV)) (self : Int) (bad : Bool) {P : AV × List (List AV) → Prop} (h : Gets (ws61_0 bd 0 0 [[.int .i64 ke, .int .i64 ne, .str se, .sl le, .sl bd, .int .i64 self, .bool bad]] 0 0 [] [] []) P) : Gets (EVd (EV cfg) 156 ([AV.ptr (0 : Nat) (0 : Nat) (0 : Nat)] : List AV) 7 [[AV.int .i64 ke, AV.int .i64 ne, AV.str se, AV.sl le, AV.sl bd, AV.int .i64 self, AV.bool bad]]) P :=
  Gets.ev (fun _ h => funD rfl rfl Tryz.func156 rfl h) (Gets.eq (by kernel_rfl) h)
theorem makeList_run (L : List (List AV)) (kt nt : Int) (st : List UInt8) (lt : List (List AV)) {P : AV → Prop} (h : Gets (ws78_0 (IntKind.wrap .i64 ((L.length : Int) - 1)) kt nt st lt 0 0 [] [] L) P) : Gets (EVf (EV cfg) 122 ([AV.sl L, AV.agg [AV.int IntKind.i64 kt, AV.int IntKind.i64 nt, AV.str st, AV.sl lt]] : List AV)) P :=
  Gets.ev (fun _ h => funF rfl rfl Tryz.func122 rfl h) (Gets.eq (by kernel_rfl) h)
theorem ws41_0_step (bd : List (List AV)) (nv4 : Nat) (v5 v11 c0_0 c0_1 : Int) (c0_2 : List UInt8) (c0_3 c0_4 : List (List AV)) (c0_5 : Int) (h1 : List (List AV)) {P : AV → Prop} (h : Gets (bif decide (v11 < (bd.length : Int)) then bif leInt 0 v11 && ltInt v11 (bd.length : Int) then kOpt (List.get?Internal bd (v11.toNat)) fun row => bif Nat.beq (List.length row) 5 then bif Nat.ble 5 (List.length row) then kCons (List.take 5 row) fun c cs => kInt .i64 c fun n => kTmC cs fun n_1 n_2 s rows => (bif decide (n ≤ v5) then some (AV.tup [.sl [], .bool false]) else bif decide (n > 99) then some (AV.tup [.sl [], .bool false]) else kOpt (EVs (EV cfg) 91 [.agg [.int .i64 n_1, .int .i64 n_2, .str s, .sl rows]]) fun v => kInt .i64 v fun n_3 => bif n_3 != 0 then some (AV.tup [.sl [], .bool false]) else bif Nat.ble (0 + nv4) (List.length h1) && fitsIn (nv4 + 1) 8 then ws41_0 bd (nv4 + 1) n (IntKind.wrap .i64 (v11 + 1)) c0_0 c0_1 c0_2 c0_3 c0_4 c0_5 (List.append (List.take nv4 h1) [[.int .i64 n]]) else none) else none else none else none else kOpt (EVs (EV cfg) 91 [.agg [.int .i64 c0_0, .int .i64 c0_1, .str c0_2, .sl c0_3]]) fun v => kInt .i64 v fun n => bif n == 0 then kOpt (EVs (EV cfg) 90 [.int .i64 c0_5]) fun v => kBool v fun b => bif Nat.ble (0 + nv4) (List.length h1) && true then some (AV.tup [.sl (List.take nv4 h1), .bool b]) else none else bif Nat.ble (0 + nv4) (List.length h1) && true then some (AV.tup [.sl (List.take nv4 h1), .bool false]) else none) P) : Gets (ws41_0 bd nv4 v5 v11 c0_0 c0_1 c0_2 c0_3 c0_4 c0_5 h1) P :=
  Gets.ev (fun _ h => loop_step (cfg := cfg) (f := 68) (rd := none) (bs := 0) h) (Gets.eq (by kernel_rfl) h)
theorem ws62_0_step (L : List (List AV)) (nv5 : Nat) (v10 : Int) (h0 h1 : List (List AV)) {P : AV × List (List AV) → Prop} (h : Gets (bif decide (v10 < (L.length : Int)) then bif leInt 0 v10 && ltInt v10 (L.length : Int) then kOpt (List.get?Internal L (v10.toNat)) fun row => bif Nat.beq (List.length row) 4 then bif Nat.ble 4 (List.length row) then kTmC (List.take 4 row) fun n n_1 s rows => (kOpt (List.get?Internal h0 0) fun row => kOpt (List.get?Internal row 6) fun v => kBool v fun b => bif b then some (.sl [], h0) else kOpt (EVd (EV cfg) 70 [.ptr 0 0 0, .agg [.int .i64 n, .int .i64 n_1, .str s, .sl rows]] 7 h0) fun q => kTmV q.1 fun n n_2 s rows => (bif Nat.ble (0 + nv5) (List.length h1) && fitsIn (nv5 + 1) 56 then ws62_0 L (nv5 + 1) (IntKind.wrap .i64 (v10 + 1)) q.2 (List.append (List.take nv5 h1) [[.int .i64 n, .int .i64 n_2, .str s, .sl rows]]) else none)) else none else none else none else bif Nat.ble (0 + nv5) (List.length h1) && true then some (.sl (List.take nv5 h1), h0) else none) P) : Gets (ws62_0 L nv5 v10 h0 h1) P :=
  Gets.ev (fun _ h => loop_step (cfg := cfg) (f := 157) (rd := none) (bs := 1) h) (Gets.eq (by kernel_rfl) h)
theorem ws61_0_step (bd : List (List AV)) (nv3 : Nat) (v12 : Int) (h0 : List (List AV)) (c1_0 c1_1 : Int) (c1_2 : List UInt8) (c1_3 h2 : List (List AV)) {P : AV × List (List AV) → Prop} (h : Gets (bif decide (v12 < (bd.length : Int)) then bif leInt 0 v12 && ltInt v12 (bd.length : Int) then kOpt (List.get?Internal bd (v12.toNat)) fun row => bif Nat.beq (List.length row) 5 then bif Nat.ble 5 (List.length row) then kCons (List.take 5 row) fun c cs => kInt .i64 c fun n => kTmC cs fun n n_1 s rows => (bif Nat.ble (0 + nv3) (List.length h2) && fitsIn (nv3 + 1) 56 then ws61_0 bd (nv3 + 1) (IntKind.wrap .i64 (v12 + 1)) h0 c1_0 c1_1 c1_2 c1_3 (List.append (List.take nv3 h2) [[.int .i64 n, .int .i64 n_1, .str s, .sl rows]]) else none) else none else none else none else bif Nat.ble (0 + nv3) (List.length h2) && true then kOpt (EVf (EV cfg) 122 [.sl (List.take nv3 h2), .agg [.int .i64 8, .int .i64 0, .str [], .sl []]]) fun v => kTmV v fun n n_1 s rows => (some (.agg [.int .i64 n, .int .i64 n_1, .str s, .sl rows], h0)) else none) P) : Gets (ws61_0 bd nv3 v12 h0 c1_0 c1_1 c1_2 c1_3 h2) P :=
  Gets.ev (fun _ h => loop_step (cfg := cfg) (f := 156) (rd := none) (bs := 1) h) (Gets.eq (by kernel_rfl) h)
theorem ws78_0_step (v3 c0_0 c0_1 : Int) (c0_2 : List UInt8) (c0_3 : List (List AV)) (c1_0 c1_1 : Int) (c1_2 : List UInt8) (c1_3 c2_0 : List (List AV)) {P : AV → Prop} (h : Gets (bif decide (v3 ≥ 0) then bif leInt 0 v3 && ltInt v3 (c2_0.length : Int) then kOpt (List.get?Internal c2_0 (v3.toNat)) fun row => bif Nat.beq (List.length row) 4 then bif Nat.ble 4 (List.length row) then kTmC (List.take 4 row) fun n n_1 s rows => (ws78_0 (IntKind.wrap .i64 (v3 - (1 : Int))) 9 0 [] [[.int .i64 n, .int .i64 n_1, .str s, .sl rows], [.int .i64 c0_0, .int .i64 c0_1, .str c0_2, .sl c0_3]] c1_0 c1_1 c1_2 c1_3 c2_0) else none else none else none else some (.agg [.int .i64 c0_0, .int .i64 c0_1, .str c0_2, .sl c0_3])) P) : Gets (ws78_0 v3 c0_0 c0_1 c0_2 c0_3 c1_0 c1_1 c1_2 c1_3 c2_0) P :=
  Gets.ev (fun _ h => loop_step (cfg := cfg) (f := 273) (rd := none) (bs := 4) h) (Gets.eq (by kernel_rfl) h)
end Go.Proofs.YtkgkjngbfdnoiaaGreat
end

section
namespace Go.Proofs.YtkgkjngbfdnoiaaGreat
open Go.Av
set_option maxRecDepth 100000
set_option maxHeartbeats 0

noncomputable def Lt86_0 : Den := evC cfg (EV cfg) 124 none 0 (sub (bodyOf Tryz.f124) [1, 0, 1, 0, 0])
noncomputable def At86_0 : Ex × List AV × AH → Option AV := kAft (Cfg.keepOut cfg 124 2) (kRun cfg (EV cfg) (kfN cfg 6) 124 none 0 (kFinS cfg (Cfg.lift cfg 124 0) Tryz.f124.results.toList) ([.block 0, .seq (sub (bodyOf Tryz.f124) [1, 1])]))
noncomputable def Wt86_0 : List AV × AH → Option AV := fun p => kOpt (LOOP 0 (some [0, 1, 7, 8]) ([]) Lt86_0 p) At86_0
noncomputable abbrev wt86_0 (L V : List (List AV)) (v8 : Int) : Option (AV) := Wt86_0  (((fx 19 [(0, .sl L), (1, .fn (Fn.func 290) [] [.cptr [.sl V] 0]), (7, .int .i64 (L.length : Int)), (8, .int .i64 v8)]) : List AV), ([] : AH))
theorem contFunc_run (L V : List (List AV)) {P : AV → Prop} (h : Gets (kOpt (EVs (EV cfg) 124 [.sl L, AV.fn (Fn.func 290) [] [AV.cptr [.sl V] 0]]) fun v => kInt .i64 v fun n => some (.bool (decide (n ≥ 0)))) P) : Gets (EVs (EV cfg) 143 ([AV.sl L, AV.fn (Fn.func 290) [] [AV.cptr [AV.sl V] (0 : Nat)]] : List AV)) P :=
  Gets.ev (fun _ h => funS rfl rfl Tryz.func143 rfl h) (Gets.eq (by kernel_rfl) h)
theorem indFunc_run (L V : List (List AV)) {P : AV → Prop} (h : Gets (wt86_0 L V 0) P) : Gets (EVs (EV cfg) 124 ([AV.sl L, AV.fn (Fn.func 290) [] [AV.cptr [AV.sl V] (0 : Nat)]] : List AV)) P :=
  Gets.ev (fun _ h => funS rfl rfl Tryz.func124 rfl h) (Gets.eq (by kernel_rfl) h)
theorem allIn_run (ke ne : Int) (se : List UInt8) (le V : List (List AV)) {P : AV → Prop} (h : Gets (kOpt (EVs (EV cfg) 152 [.agg [.int .i64 ke, .int .i64 ne, .str se, .sl le], .sl V]) fun v => kBool v fun b => some (.bool ! b)) P) : Gets (EVs (EV cfg) 290 ([AV.agg [AV.int IntKind.i64 ke, AV.int IntKind.i64 ne, AV.str se, AV.sl le], AV.cptr [AV.sl V] (0 : Nat)] : List AV)) P :=
  Gets.ev (fun _ h => funS rfl rfl Tryz.func290 rfl h) (Gets.eq (by kernel_rfl) h)
theorem wt86_0_step (L V : List (List AV)) (v8 : Int) {P : AV → Prop} (h : Gets (bif decide (v8 < (L.length : Int)) then bif leInt 0 v8 && ltInt v8 (L.length : Int) then kOpt (List.get?Internal L (v8.toNat)) fun row => bif Nat.beq (List.length row) 4 then bif Nat.ble 4 (List.length row) then kTmC (List.take 4 row) fun n n_1 s rows => (kOpt (EVs (EV cfg) 290 [.agg [.int .i64 n, .int .i64 n_1, .str s, .sl rows], AV.cptr [.sl V] 0]) fun v => kBool v fun b => bif b then some (.int .i64 v8) else wt86_0 L V (IntKind.wrap .i64 (v8 + 1))) else none else none else none else some (.int .i64 (- 1))) P) : Gets (wt86_0 L V v8) P :=
  Gets.ev (fun _ h => loop_step (cfg := cfg) (f := 124) (rd := none) (bs := 0) h) (Gets.eq (by kernel_rfl) h)
end Go.Proofs.YtkgkjngbfdnoiaaGreat
end

section
namespace Go.Proofs.YtkgkjngbfdnoiaaGreat
open Go.Av
set_option maxRecDepth 100000
set_option maxHeartbeats 0

noncomputable def Lp71_0 : Den := evC cfg (EV cfg) 210 none 0 (sub (bodyOf Tryz.f210) [1, 1, 1, 0, 1, 0, 0])
noncomputable def Ap71_0 : Ex × List AV × AH → Option AV := kAft (Cfg.keepOut cfg 210 5) (kRun cfg (EV cfg) (kfN cfg 6) 210 none 0 (kFinS cfg (Cfg.lift cfg 210 0) Tryz.f210.results.toList) ([.block 0, .seq (sub (bodyOf Tryz.f210) [1, 1, 1, 1])]))
noncomputable def Wp71_0 : List AV × AH → Option AV := fun p => kOpt (LOOP 0 (some [4, 32, 33, 34]) ([]) Lp71_0 p) Ap71_0
noncomputable abbrev wp71_0 (s : List UInt8) (v4 v34 : Int) (h0 : List (List AV)) : Option (AV) := Wp71_0  (((fx 52 [(4, .int .i64 v4), (32, .ms 0 0 (List.length (List.take (List.length s - 1) (List.drop 1 s)))), (33, .int .i64 (↑(List.length (List.take (List.length s - 1) (List.drop 1 s))) : Int)), (34, .int .i64 v34)]) : List AV), ([.rows true 1 h0] : AH))
noncomputable abbrev zg1 (s : List UInt8) : Option (AV) := wp71_0 s 0 0 (List.map (fun b => [.int .u8 (↑ (UInt8.toNat b) : Int)]) (List.take (List.length s - 1) (List.drop 1 s)))
noncomputable abbrev zg0 (s : List UInt8) : Option (AV) := bif leInt 1 (s.length : Int) then zg1 s else none
theorem patNumber_run (s : List UInt8) {P : AV → Prop} (h : Gets (bif decide ((s.length : Int) < 2) then some (AV.tup [.int .i64 0, .bool false]) else bif decide ((s.length : Int) > 3) then some (AV.tup [.int .i64 0, .bool false]) else kOpt (List.get?Internal s 0) fun b => bif (↑ (UInt8.toNat b) : Int) != 36 then some (AV.tup [.int .i64 0, .bool false]) else bif (s.length : Int) == 3 then kOpt (List.get?Internal s 1) fun b => bif (↑ (UInt8.toNat b) : Int) == 48 then some (AV.tup [.int .i64 0, .bool false]) else zg0 s else zg0 s) P) : Gets (EVs (EV cfg) 210 ([AV.str s] : List AV)) P :=
  Gets.ev (fun _ h => funS rfl rfl Tryz.func210 rfl h) (Gets.eq (by kernel_rfl) h)
theorem patMay_run (kt nt : Int) (st : List UInt8) (lt : List (List AV)) {P : AV → Prop} (h : Gets (kOpt (EVs (EV cfg) 91 [.agg [.int .i64 kt, .int .i64 nt, .str st, .sl lt]]) fun v => kInt .i64 v fun n => some (.bool (n == 0))) P) : Gets (EVs (EV cfg) 208 ([AV.agg [AV.int IntKind.i64 kt, AV.int IntKind.i64 nt, AV.str st, AV.sl lt]] : List AV)) P :=
  Gets.ev (fun _ h => funS rfl rfl Tryz.func208 rfl h) (Gets.eq (by kernel_rfl) h)
theorem patVar_run (kt nt : Int) (st : List UInt8) (lt : List (List AV)) {P : AV → Prop} (h : Gets (bif kt != 2 then some (AV.tup [.int .i64 0, .bool false]) else kOpt (EVs (EV cfg) 208 [.agg [.int .i64 kt, .int .i64 nt, .str st, .sl lt]]) fun v => kBool v fun b => bif ! b then some (AV.tup [.int .i64 0, .bool false]) else kOpt (EVs (EV cfg) 210 [.str st]) fun v => kTup v fun cs => kCons cs fun c cs => kInt .i64 c fun n => kCons cs fun c cs => kBool c fun b => kNil cs (some (AV.tup [.int .i64 n, .bool b]))) P) : Gets (EVs (EV cfg) 153 ([AV.agg [AV.int IntKind.i64 kt, AV.int IntKind.i64 nt, AV.str st, AV.sl lt]] : List AV)) P :=
  Gets.ev (fun _ h => funS rfl rfl Tryz.func153 rfl h) (Gets.eq (by kernel_rfl) h)
theorem setAdd_run (n : Int) (r : List AV) {P : MV × List (List AV) → Prop} (h : Gets (bif decide (n < 64) then kOpt (List.get?Internal r 0) fun v => kInt .u64 v fun n_1 => kOpt (fromSem (Op.shift BinOp.shl .u64 1 .i64 n)) fun v => kInt .u64 v fun n => kOpt (fromSem (Op.intBits BinOp.or .u64 n_1 n)) fun v => kInt .u64 v fun n => bif Nat.ble 1 (List.length r) then some (MV.unit, [.int .u64 n :: List.drop 1 r]) else none else kOpt (List.get?Internal r 1) fun v => kInt .u64 v fun n_1 => kOpt (fromSem (Op.shift BinOp.shl .u64 1 .i64 (IntKind.wrap .i64 (n - 64)))) fun v => kInt .u64 v fun n => kOpt (fromSem (Op.intBits BinOp.or .u64 n_1 n)) fun v => kInt .u64 v fun n => bif Nat.ble 2 (List.length r) then some (MV.unit, [List.append (List.append (List.take 1 r) [.int .u64 n]) (List.drop 2 r)]) else none) P) : Gets (EVm (EV cfg) 291 ([AV.ptr (0 : Nat) (0 : Nat) (0 : Nat), AV.int IntKind.i64 n] : List AV) 402 [r]) P :=
  Gets.ev (fun _ h => funM rfl rfl Tryz.func291 rfl h) (Gets.eq (by kernel_rfl) h)
noncomputable abbrev zg2 (v : AV) : Option (AV) := kInt .u64 v fun n => kOpt (fromSem (Op.intBits BinOp.and .u64 n 1)) fun v => kInt .u64 v fun n => some (.bool (n == 1))
theorem setHas_run (n : Int) (r : List AV) {P : AV → Prop} (h : Gets (bif decide (n < 64) then kOpt (List.get?Internal r 0) fun v => kInt .u64 v fun n_1 => kOpt (fromSem (Op.shift BinOp.shr .u64 n_1 .i64 n)) fun v => zg2 v else kOpt (List.get?Internal r 1) fun v => kInt .u64 v fun n_1 => kOpt (fromSem (Op.shift BinOp.shr .u64 n_1 .i64 (IntKind.wrap .i64 (n - 64)))) fun v => zg2 v) P) : Gets (EVs (EV cfg) 232 ([AV.cptr r (0 : Nat), AV.int IntKind.i64 n] : List AV)) P :=
  Gets.ev (fun _ h => funS rfl rfl Tryz.func232 rfl h) (Gets.eq (by kernel_rfl) h)
theorem wp71_0_step (s : List UInt8) (v4 v34 : Int) (h0 : List (List AV)) {P : AV → Prop} (h : Gets (bif decide (v34 < (↑ (List.length (List.take (List.length s - 1) (List.drop 1 s))) : Int)) then bif leInt 0 v34 && ltInt v34 (↑ (List.length (List.take (List.length s - 1) (List.drop 1 s))) : Int) then kOpt (List.get?Internal h0 (0 + v34.toNat)) fun row => kOpt (List.get?Internal row 0) fun v => kInt .u8 v fun n => bif decide (n < 48) then some (AV.tup [.int .i64 0, .bool false]) else bif decide (n > 57) then some (AV.tup [.int .i64 0, .bool false]) else wp71_0 s (IntKind.wrap .i64 (IntKind.wrap .i64 (v4 * 10) + IntKind.wrap .i64 (IntKind.wrap .u8 (n - 48)))) (IntKind.wrap .i64 (v34 + 1)) h0 else none else some (AV.tup [.int .i64 v4, .bool true])) P) : Gets (wp71_0 s v4 v34 h0) P :=
  Gets.ev (fun _ h => loop_step (cfg := cfg) (f := 210) (rd := none) (bs := 0) h) (Gets.eq (by kernel_rfl) h)
end Go.Proofs.YtkgkjngbfdnoiaaGreat
end

section
namespace Go.Proofs.YtkgkjngbfdnoiaaGreat
open Go.Av
set_option maxRecDepth 100000
set_option maxHeartbeats 0

noncomputable def Lq33_0 : Den := evC cfg (EV cfg) 238 none 5 (sub (bodyOf Tryz.f238) [1, 0, 0])
noncomputable def Aq33_0 : Ex × List AV × AH → Option AV := kAft (Cfg.keepOut cfg 238 (firstRid (sub (bodyOf Tryz.f238) [1, 0, 0]))) (kBlock 0 (kFinG cfg (Cfg.lift cfg 238 0) (fun (v : AV) (H : AH) => (fun (r : AV × AH) => kRangeEnd 0 4 (fx 17 [(2, AV.ptr 1 0 0), (3, AV.ptr 2 0 0)]) (kBlock 0 (kSeq (fun (fr : List AV) (H : AH) => kCutTo (Cfg.cut cfg 91 (firstRid (sub (bodyOf Tryz.f91) [1, 1, 1]))) fr H fun (fr : List AV) (H : AH) => kCode cfg (EV cfg) (kfN cfg 6) 91 none 0 (sub (bodyOf Tryz.f91) [1, 1, 1]) fr H (kFinS cfg (Cfg.lift cfg 91 0) (Array.toList (Func.results Tryz.f91)))) (kFinS cfg (Cfg.lift cfg 91 0) (Array.toList (Func.results Tryz.f91))))) (Prod.snd r)) (v, H)) (Array.toList (Func.results (Prod.snd (238, Tryz.f238))))))
noncomputable def Wq33_0 : List AV × AH → Option AV := fun (p : List AV × AH) => kOpt (LOOP 5 (some [0, 3]) [(3, 4)] Lq33_0 p) Aq33_0
noncomputable def Lq33_1 : Den := evC cfg (EV cfg) 273 none 10 (sub (bodyOf Tryz.f273) [1, 0, 0])
noncomputable def Aq33_1 : Ex × List AV × AH → Option AV := kAft (Cfg.keepOut cfg 273 (firstRid (sub (bodyOf Tryz.f273) [1, 0, 0]))) (kBlock 0 (kFinG cfg (Cfg.lift cfg 273 0) (fun (v : AV) (H : AH) => (fun (r : AV × AH) => kRangeEnd 5 9 (fx 38 [(0, AV.yld 4), (3, AV.ptr 5 0 0)]) (kBlock 2 (kBlock 1 (kLp 5 (some [0, 3]) [(3, 4)] Lq33_0 Aq33_0))) (Prod.snd r)) (v, H)) (Array.toList (Func.results (Prod.snd (273, Tryz.f273))))))
noncomputable def Wq33_1 : List AV × AH → Option AV := fun (p : List AV × AH) => kOpt (LOOP 10 (some [0, 1, 3]) [] Lq33_1 p) Aq33_1
noncomputable abbrev wq33_0 (c0_0 c0_1 : Int) (c0_2 : List UInt8) (c0_3 : List (List AV)) (c1_0 c2_0 c3_0 c3_1 : Int) (c3_2 : List UInt8) (c3_3 : List (List AV)) (nc5_0 : Nat) (h6 : List (List AV)) : Option (AV) := Wq33_0  (((fx 38 [(0, .yld 4), (3, .ptr 5 0 0)]) : List AV), ([.rows false 4 [[.int .i64 c0_0, .int .i64 c0_1, .str c0_2, .sl c0_3]], .rows false 1 [[.int .i64 c1_0]], .rows false 1 [[.int .i64 c2_0]], .rows false 4 [[.int .i64 c3_0, .int .i64 c3_1, .str c3_2, .sl c3_3]], rngB Tryz.f91 91 [1, 1, 0, 1, 0] (fx 17 [(2, .ptr 1 0 0), (3, .ptr 2 0 0)]) none LoopState.ready, .rows false 1 [[.ms 6 0 nc5_0]], .rows true 4 h6] : AH))
noncomputable abbrev wq33_1 (v3 c0_0 c0_1 : Int) (c0_2 : List UInt8) (c0_3 : List (List AV)) (c1_0 c2_0 c3_0 c3_1 : Int) (c3_2 : List UInt8) (c3_3 : List (List AV)) (nc5_0 : Nat) (h6 : List (List AV)) (c7_0 c7_1 : Int) (c7_2 : List UInt8) (c7_3 c8_0 : List (List AV)) : Option (AV) := Wq33_1  (((fx 19 [(0, .yld 9), (1, .ptr 8 0 0), (3, .int .i64 v3)]) : List AV), ([.rows false 4 [[.int .i64 c0_0, .int .i64 c0_1, .str c0_2, .sl c0_3]], .rows false 1 [[.int .i64 c1_0]], .rows false 1 [[.int .i64 c2_0]], .rows false 4 [[.int .i64 c3_0, .int .i64 c3_1, .str c3_2, .sl c3_3]], rngB Tryz.f91 91 [1, 1, 0, 1, 0] (fx 17 [(2, .ptr 1 0 0), (3, .ptr 2 0 0)]) none LoopState.ready, .rows false 1 [[.ms 6 0 nc5_0]], .rows true 4 h6, .rows false 4 [[.int .i64 c7_0, .int .i64 c7_1, .str c7_2, .sl c7_3]], .rows false 1 [[.sl c8_0]], rngB Tryz.f238 238 [1, 0, 0, 1, 0, 1, 1, 1, 1, 0] (fx 38 [(3, .ptr 5 0 0)]) none LoopState.ready] : AH))
noncomputable abbrev wq33_1a (v3 c0_0 c0_1 : Int) (c0_2 : List UInt8) (c0_3 : List (List AV)) (c1_0 c2_0 c3_0 c3_1 : Int) (c3_2 : List UInt8) (c3_3 : List (List AV)) (nc5_0 : Nat) (c7_0 c7_1 : Int) (c7_2 : List UInt8) (c7_3 c8_0 h10 : List (List AV)) : Option (AV) := Wq33_1  (((fx 19 [(0, .yld 9), (1, .ptr 8 0 0), (3, .int .i64 v3)]) : List AV), ([.rows false 4 [[.int .i64 c0_0, .int .i64 c0_1, .str c0_2, .sl c0_3]], .rows false 1 [[.int .i64 c1_0]], .rows false 1 [[.int .i64 c2_0]], .rows false 4 [[.int .i64 c3_0, .int .i64 c3_1, .str c3_2, .sl c3_3]], rngB Tryz.f91 91 [1, 1, 0, 1, 0] (fx 17 [(2, .ptr 1 0 0), (3, .ptr 2 0 0)]) none LoopState.ready, .rows false 1 [[.ms 10 0 nc5_0]], .dead, .rows false 4 [[.int .i64 c7_0, .int .i64 c7_1, .str c7_2, .sl c7_3]], .rows false 1 [[.sl c8_0]], rngB Tryz.f238 238 [1, 0, 0, 1, 0, 1, 1, 1, 1, 0] (fx 38 [(3, .ptr 5 0 0)]) none LoopState.ready, .rows true 4 h10] : AH))
noncomputable abbrev zh4 (kt : Int) (lt : List (List AV)) : Option (AV) := bif kt == 5 then some (.bool (decide ((lt.length : Int) ≤ 64))) else some (.bool false)
noncomputable abbrev zh3 (lt : List (List AV)) (kt : Int) : Option (AV) := bif (lt.length : Int) == 0 then some (.bool true) else zh4 kt lt
noncomputable abbrev zh2 (st : List UInt8) (lt : List (List AV)) (kt : Int) : Option (AV) := bif st == [] then zh3 lt kt else some (.bool false)
noncomputable abbrev zh1 (nt : Int) (st : List UInt8) (lt : List (List AV)) (kt : Int) : Option (AV) := bif decide (nt ≤ 1073741824) then zh2 st lt kt else some (.bool false)
noncomputable abbrev zh0 (nt : Int) (st : List UInt8) (lt : List (List AV)) (kt : Int) : Option (AV) := bif decide (nt ≥ 0) then zh1 nt st lt kt else some (.bool false)
theorem term_sound_run (kt nt : Int) (st : List UInt8) (lt : List (List AV)) {P : AV → Prop} (h : Gets (bif kt == 1 then bif decide (nt ≥ (- 576460752303423488)) then bif decide (nt ≤ 576460752303423487) then bif st == [] then some (.bool ((lt.length : Int) == 0)) else some (.bool false) else some (.bool false) else some (.bool false) else bif kt == 2 then bif nt == 0 then bif decide ((st.length : Int) ≤ 64) then some (.bool ((lt.length : Int) == 0)) else some (.bool false) else some (.bool false) else bif kt == 3 then bif decide (nt ≥ 0) then bif decide (nt ≤ 1073741824) then bif st == [] then bif (lt.length : Int) == 0 then some (.bool true) else bif kt == 5 then some (.bool (decide ((↑ (List.length lt) : Int) ≤ 64))) else some (.bool false) else some (.bool false) else some (.bool false) else some (.bool false) else bif kt == 4 then zh0 nt st lt kt else bif kt == 6 then zh0 nt st lt kt else bif kt == 5 then zh0 nt st lt kt else bif kt == 7 then bif nt == 0 then bif st == [] then some (.bool (decide ((lt.length : Int) ≤ 64))) else some (.bool false) else some (.bool false) else bif kt == 8 then bif nt == 0 then bif st == [] then some (.bool ((lt.length : Int) == 0)) else some (.bool false) else some (.bool false) else bif kt == 9 then bif nt == 0 then bif st == [] then some (.bool ((lt.length : Int) == 2)) else some (.bool false) else some (.bool false) else some (.bool false)) P) : Gets (EVs (EV cfg) 170 ([AV.agg [AV.int IntKind.i64 kt, AV.int IntKind.i64 nt, AV.str st, AV.sl lt]] : List AV)) P :=
  Gets.ev (fun _ h => funS rfl rfl Tryz.func170 rfl h) (Gets.eq (by kernel_rfl) h)
theorem term_own_run (kt nt : Int) (st : List UInt8) (lt : List (List AV)) {P : AV → Prop} (h : Gets (bif kt == 7 then some (.int .i64 2) else bif kt == 5 then some (.int .i64 2) else some (.int .i64 1)) P) : Gets (EVs (EV cfg) 171 ([AV.agg [AV.int IntKind.i64 kt, AV.int IntKind.i64 nt, AV.str st, AV.sl lt]] : List AV)) P :=
  Gets.ev (fun _ h => funS rfl rfl Tryz.func171 rfl h) (Gets.eq (by kernel_rfl) h)
theorem term_Check_run (kt nt : Int) (st : List UInt8) (lt : List (List AV)) {P : AV → Prop} (h : Gets (wq33_0 kt nt st lt 0 0 kt nt st lt 1 [[.int .i64 kt, .int .i64 nt, .str st, .sl lt]]) P) : Gets (EVs (EV cfg) 91 ([AV.agg [AV.int IntKind.i64 kt, AV.int IntKind.i64 nt, AV.str st, AV.sl lt]] : List AV)) P :=
  Gets.ev (fun _ h => funS rfl rfl Tryz.func91 rfl h) (Gets.eq (by kernel_rfl) h)
theorem wq33_0_step (c0_0 c0_1 : Int) (c0_2 : List UInt8) (c0_3 : List (List AV)) (c1_0 c2_0 c3_0 c3_1 : Int) (c3_2 : List UInt8) (c3_3 : List (List AV)) (nc5_0 : Nat) (h6 : List (List AV)) {P : AV → Prop} (h : Gets (bif decide ((↑ nc5_0 : Int) > 0) then bif leInt 0 (IntKind.wrap .i64 ((↑ nc5_0 : Int) - 1)) && ltInt (IntKind.wrap .i64 ((↑ nc5_0 : Int) - 1)) (↑ nc5_0 : Int) then kOpt (List.get?Internal h6 (0 + Int.toNat (IntKind.wrap .i64 ((↑ nc5_0 : Int) - 1)))) fun row => bif Nat.ble 4 (List.length row) then kTmC (List.take 4 row) fun n n_1 s rows => (bif leInt 0 (IntKind.wrap .i64 ((↑ nc5_0 : Int) - 1)) && leInt (IntKind.wrap .i64 ((↑ nc5_0 : Int) - 1)) (↑ nc5_0 : Int) then kOpt (EVs (EV cfg) 170 [.agg [.int .i64 n, .int .i64 n_1, .str s, .sl rows]]) fun v => kBool v fun b => bif ! b then some (.int .i64 2) else kOpt (EVs (EV cfg) 171 [.agg [.int .i64 n, .int .i64 n_1, .str s, .sl rows]]) fun v => kInt .i64 v fun n_2 => wq33_1 (IntKind.wrap .i64 ((↑ (List.length rows) : Int) - 1)) c0_0 c0_1 c0_2 c0_3 c1_0 (IntKind.wrap .i64 (c2_0 + n_2)) c3_0 c3_1 c3_2 c3_3 (Int.toNat (IntKind.wrap .i64 ((↑ nc5_0 : Int) - 1)) - 0) h6 n n_1 s rows rows else none) else none else none else bif decide (c2_0 > 65536) then some (.int .i64 3) else some (.int .i64 0)) P) : Gets (wq33_0 c0_0 c0_1 c0_2 c0_3 c1_0 c2_0 c3_0 c3_1 c3_2 c3_3 nc5_0 h6) P :=
  Gets.ev (fun _ h => loop_step (cfg := cfg) (f := 238) (rd := none) (bs := 5) h) (Gets.eq (by kernel_rfl) h)
noncomputable abbrev zh10 (row : List AV) (nc5_0 : Nat) (h6 : List (List AV)) (v3 c0_0 c0_1 : Int) (c0_2 : List UInt8) (c0_3 : List (List AV)) (c1_0 c2_0 c3_0 c3_1 : Int) (c3_2 : List UInt8) (c3_3 : List (List AV)) (c7_0 c7_1 : Int) (c7_2 : List UInt8) (c7_3 c8_0 : List (List AV)) : Option (AV) := kTmC (List.take 4 row) fun n n_1 s rows => (bif Nat.ble (0 + nc5_0) (List.length h6) && fitsIn (nc5_0 + 1) 56 then bif leInt 0 (↑ nc5_0 : Int) && ltInt (↑ nc5_0 : Int) (↑ (nc5_0 + 1) : Int) then kOpt (List.get?Internal (List.append (List.take nc5_0 h6) [[.int .i64 0, .int .i64 0, .str [], .nilS]]) (0 + Int.toNat (↑ nc5_0 : Int))) fun row => bif Nat.ble 4 (List.length row) then wq33_1a (IntKind.wrap .i64 (v3 - (1 : Int))) c0_0 c0_1 c0_2 c0_3 c1_0 c2_0 c3_0 c3_1 c3_2 c3_3 (nc5_0 + 1) c7_0 c7_1 c7_2 c7_3 c8_0 (List.set (List.append (List.take nc5_0 h6) [[.int .i64 0, .int .i64 0, .str [], .nilS]]) (0 + Int.toNat (↑ nc5_0 : Int)) (.int .i64 n :: .int .i64 n_1 :: .str s :: .sl rows :: List.drop 4 row)) else none else none else none)
noncomputable abbrev zh9 (row : List AV) (nc5_0 : Nat) (h6 : List (List AV)) (v3 c0_0 c0_1 : Int) (c0_2 : List UInt8) (c0_3 : List (List AV)) (c1_0 c2_0 c3_0 c3_1 : Int) (c3_2 : List UInt8) (c3_3 : List (List AV)) (c7_0 c7_1 : Int) (c7_2 : List UInt8) (c7_3 c8_0 : List (List AV)) : Option (AV) := bif Nat.ble 4 (List.length row) then zh10 row nc5_0 h6 v3 c0_0 c0_1 c0_2 c0_3 c1_0 c2_0 c3_0 c3_1 c3_2 c3_3 c7_0 c7_1 c7_2 c7_3 c8_0 else none
noncomputable abbrev zh8 (row : List AV) (nc5_0 : Nat) (h6 : List (List AV)) (v3 c0_0 c0_1 : Int) (c0_2 : List UInt8) (c0_3 : List (List AV)) (c1_0 c2_0 c3_0 c3_1 : Int) (c3_2 : List UInt8) (c3_3 : List (List AV)) (c7_0 c7_1 : Int) (c7_2 : List UInt8) (c7_3 c8_0 : List (List AV)) : Option (AV) := bif Nat.beq (List.length row) 4 then zh9 row nc5_0 h6 v3 c0_0 c0_1 c0_2 c0_3 c1_0 c2_0 c3_0 c3_1 c3_2 c3_3 c7_0 c7_1 c7_2 c7_3 c8_0 else none
noncomputable abbrev zh7 (c8_0 : List (List AV)) (v3 : Int) (nc5_0 : Nat) (h6 : List (List AV)) (c0_0 c0_1 : Int) (c0_2 : List UInt8) (c0_3 : List (List AV)) (c1_0 c2_0 c3_0 c3_1 : Int) (c3_2 : List UInt8) (c3_3 : List (List AV)) (c7_0 c7_1 : Int) (c7_2 : List UInt8) (c7_3 : List (List AV)) : Option (AV) := kOpt (List.get?Internal c8_0 (v3.toNat)) fun row => zh8 row nc5_0 h6 v3 c0_0 c0_1 c0_2 c0_3 c1_0 c2_0 c3_0 c3_1 c3_2 c3_3 c7_0 c7_1 c7_2 c7_3 c8_0
noncomputable abbrev zh6 (v3 : Int) (c8_0 : List (List AV)) (nc5_0 : Nat) (h6 : List (List AV)) (c0_0 c0_1 : Int) (c0_2 : List UInt8) (c0_3 : List (List AV)) (c1_0 c2_0 c3_0 c3_1 : Int) (c3_2 : List UInt8) (c3_3 : List (List AV)) (c7_0 c7_1 : Int) (c7_2 : List UInt8) (c7_3 : List (List AV)) : Option (AV) := bif leInt 0 v3 && ltInt v3 (c8_0.length : Int) then zh7 c8_0 v3 nc5_0 h6 c0_0 c0_1 c0_2 c0_3 c1_0 c2_0 c3_0 c3_1 c3_2 c3_3 c7_0 c7_1 c7_2 c7_3 else none
noncomputable abbrev zh5 (v3 : Int) (c8_0 : List (List AV)) (nc5_0 : Nat) (h6 : List (List AV)) (c0_0 c0_1 : Int) (c0_2 : List UInt8) (c0_3 : List (List AV)) (c1_0 c2_0 c3_0 c3_1 : Int) (c3_2 : List UInt8) (c3_3 : List (List AV)) (c7_0 c7_1 : Int) (c7_2 : List UInt8) (c7_3 : List (List AV)) : Option (AV) := bif decide (v3 ≥ 0) then zh6 v3 c8_0 nc5_0 h6 c0_0 c0_1 c0_2 c0_3 c1_0 c2_0 c3_0 c3_1 c3_2 c3_3 c7_0 c7_1 c7_2 c7_3 else wq33_0 c0_0 c0_1 c0_2 c0_3 c1_0 c2_0 c3_0 c3_1 c3_2 c3_3 nc5_0 h6
theorem wq33_1_step (v3 c0_0 c0_1 : Int) (c0_2 : List UInt8) (c0_3 : List (List AV)) (c1_0 c2_0 c3_0 c3_1 : Int) (c3_2 : List UInt8) (c3_3 : List (List AV)) (nc5_0 : Nat) (h6 : List (List AV)) (c7_0 c7_1 : Int) (c7_2 : List UInt8) (c7_3 c8_0 : List (List AV)) {P : AV → Prop} (h : Gets (zh5 v3 c8_0 nc5_0 h6 c0_0 c0_1 c0_2 c0_3 c1_0 c2_0 c3_0 c3_1 c3_2 c3_3 c7_0 c7_1 c7_2 c7_3) P) : Gets (wq33_1 v3 c0_0 c0_1 c0_2 c0_3 c1_0 c2_0 c3_0 c3_1 c3_2 c3_3 nc5_0 h6 c7_0 c7_1 c7_2 c7_3 c8_0) P :=
  Gets.ev (fun _ h => loop_step (cfg := cfg) (f := 273) (rd := none) (bs := 10) h) (Gets.eq (by kernel_rfl) h)
theorem wq33_1a_step (v3 c0_0 c0_1 : Int) (c0_2 : List UInt8) (c0_3 : List (List AV)) (c1_0 c2_0 c3_0 c3_1 : Int) (c3_2 : List UInt8) (c3_3 : List (List AV)) (nc5_0 : Nat) (c7_0 c7_1 : Int) (c7_2 : List UInt8) (c7_3 c8_0 h10 : List (List AV)) {P : AV → Prop} (h : Gets (zh5 v3 c8_0 nc5_0 h10 c0_0 c0_1 c0_2 c0_3 c1_0 c2_0 c3_0 c3_1 c3_2 c3_3 c7_0 c7_1 c7_2 c7_3) P) : Gets (wq33_1a v3 c0_0 c0_1 c0_2 c0_3 c1_0 c2_0 c3_0 c3_1 c3_2 c3_3 nc5_0 c7_0 c7_1 c7_2 c7_3 c8_0 h10) P :=
  Gets.ev (fun _ h => loop_step (cfg := cfg) (f := 273) (rd := none) (bs := 10) h) (Gets.eq (by kernel_rfl) h)
end Go.Proofs.YtkgkjngbfdnoiaaGreat
end

section
namespace Go.Proofs.YtkgkjngbfdnoiaaGreat
open Go.Av

theorem sound_ev (t : Tm) : EVs (EV cfg) 170 [t.av] = some (.bool t.sound) := by
 obtain ⟨k, n, s, l⟩ := t
 apply Gets.get
 rw [Tm.av_mk]
 refine term_sound_run _ _ _ _ ?_
 unfold zh0 zh1 zh2 zh3 zh4
 simp only [Tm.sound, Tm.kind_mk, Tm.num_mk, Tm.str_mk, Tm.subs_mk, rowsT_length, beqI, beqNil, soundB]
 by_cases h1 : k = 1
 ·subst h1; simp [bif_some'] <;> (try rw [Bool.eq_iff_iff]) <;> (try simp) <;> first | omega | grind
 by_cases h2 : k = 2
 ·subst h2; simp [bif_some'] <;> (try rw [Bool.eq_iff_iff]) <;> (try simp) <;> first | omega | grind
 by_cases h3 : k = 3
 ·subst h3; simp [bif_some'] <;> (try rw [Bool.eq_iff_iff]) <;> (try simp) <;> first | omega | grind
 by_cases h4 : k = 4
 ·subst h4; simp [bif_some'] <;> (try rw [Bool.eq_iff_iff]) <;> (try simp) <;> first | omega | grind
 by_cases h6 : k = 6
 ·subst h6; simp [bif_some'] <;> (try rw [Bool.eq_iff_iff]) <;> (try simp) <;> first | omega | grind
 by_cases h5 : k = 5
 ·subst h5
  cases l with
  | nil => simp [bif_some'] <;> (try rw [Bool.eq_iff_iff]) <;> (try simp) <;> first | omega | grind
  | cons x l =>
   have hx : ¬ ((l.length : Int) + 1 = 0) := by omega
   simp [hx, bif_some'] <;> (try rw [Bool.eq_iff_iff]) <;> (try simp) <;> first | omega | grind
 by_cases h7 : k = 7
 ·subst h7; simp [bif_some'] <;> (try rw [Bool.eq_iff_iff]) <;> (try simp) <;> first | omega | grind
 by_cases h8 : k = 8
 ·subst h8; simp [bif_some'] <;> (try rw [Bool.eq_iff_iff]) <;> (try simp) <;> first | omega | grind
 by_cases h9 : k = 9
 ·subst h9; simp [bif_some'] <;> (try rw [Bool.eq_iff_iff]) <;> (try simp) <;> first | omega | grind
 simp [h1, h2, h3, h4, h5, h6, h7, h8, h9]
theorem own_ev (t : Tm) : EVs (EV cfg) 171 [t.av] = some (.int .i64 t.own) := by
 obtain ⟨k, n, s, l⟩ := t
 apply Gets.get
 rw [Tm.av_mk]
 refine term_own_run _ _ _ _ ?_
 simp only [Tm.own, Tm.kind_mk, beqI]
 by_cases h7 : k = 7
 ·simp [h7]
 ·by_cases h5 : k = 5
  ·simp [h5]
  ·simp [h7, h5]
end Go.Proofs.YtkgkjngbfdnoiaaGreat
end

section
namespace Go.Proofs.YtkgkjngbfdnoiaaGreat
open Go.Av

theorem app_get0 (l : List (List AV)) (z : List AV) : (l ++ [z])[l.length]? = some z := by simp
theorem app_set0 (l : List (List AV)) (z c : List AV) : (l ++ [z]).set l.length c = l ++ [c] := by simp

theorem push_a {t x : Tm} (hx : x.subs.length < 1099511627776) {wd : Int} {P : AV → Prop} : ∀ (j : Nat) (R : List Tm), j ≤ x.subs.length → R.length + j < 1099511627776 →
  Gets (wq33_0 t.kind t.num t.str (rowsT t.subs) 0 wd t.kind t.num t.str (rowsT t.subs) (R.length + j) (rowsT (R ++ (x.subs.take j).reverse))) P →
  Gets (wq33_1a ((j : Int) - 1) t.kind t.num t.str (rowsT t.subs) 0 wd t.kind t.num t.str (rowsT t.subs) R.length x.kind x.num x.str (rowsT x.subs) (rowsT x.subs) (rowsT R)) P
 | 0, R, _, _, h => by
  refine wq33_1a_step _ _ _ _ _ _ _ _ _ _ _ _ _ _ _ _ _ _ ?_
  unfold zh5 zh6 zh7 zh8 zh9 zh10
  simpa using h
 | j + 1, R, hj, hR, h => by
  have ih := push_a (t := t) hx (wd := wd) (P := P) j (R ++ [x.subs[j]]) (by omega) (by simp; omega)
  have e1 : x.subs.take (j + 1) = x.subs.take j ++ [x.subs[j]] := by rw [List.take_add_one, List.getElem?_eq_getElem (by omega)]; rfl
  have e4 : R ++ (x.subs.take j ++ [x.subs[j]]).reverse = R ++ x.subs[j] :: (x.subs.take j).reverse := by rw [List.reverse_append]; rfl
  rw [e1, e4, show R.length + (j + 1) = R.length + 1 + j by omega] at h
  refine wq33_1a_step _ _ _ _ _ _ _ _ _ _ _ _ _ _ _ _ _ _ ?_
  unfold zh5 zh6 zh7 zh8 zh9 zh10
  have hw : IntKind.wrap .i64 ((j : Int) - 1) = (j : Int) - 1 := wrap64 (by omega) (by omega)
  have hjl : j < x.subs.length := by omega
  have e2 : ((j + 1 : Nat) : Int) - 1 = j := by omega
  rw [e2]
  have ht : List.take R.length (rowsT R) = rowsT R := List.take_of_length_le (by simp)
  have g0 := app_get0 (rowsT R) [.int .i64 0, .int .i64 0, .str [], .nilS]
  have s0 := app_set0 (rowsT R) [.int .i64 0, .int .i64 0, .str [], .nilS] x.subs[j].cells
  rw [rowsT_length] at g0 s0
  simp [hjl, hw, fits56 (show R.length + 1 ≤ 1099511627776 by omega), ht] at ih ⊢
  exact ih h

theorem push_m {t x : Tm} (hx : x.subs.length < 1099511627776) {wd : Int} {P : AV → Prop} {R : List Tm} {Z : List (List AV)} (hR : R.length + x.subs.length < 1099511627776)
  (h0 : x.subs = [] → Gets (wq33_0 t.kind t.num t.str (rowsT t.subs) 0 wd t.kind t.num t.str (rowsT t.subs) R.length (rowsT R ++ Z)) P)
  (h : x.subs ≠ [] → Gets (wq33_0 t.kind t.num t.str (rowsT t.subs) 0 wd t.kind t.num t.str (rowsT t.subs) (R ++ x.subs.reverse).length (rowsT (R ++ x.subs.reverse))) P) :
  Gets (wq33_1 ((x.subs.length : Int) - 1) t.kind t.num t.str (rowsT t.subs) 0 wd t.kind t.num t.str (rowsT t.subs) R.length (rowsT R ++ Z) x.kind x.num x.str (rowsT x.subs) (rowsT x.subs)) P := by
 refine wq33_1_step _ _ _ _ _ _ _ _ _ _ _ _ _ _ _ _ _ _ ?_
 unfold zh5 zh6 zh7 zh8 zh9 zh10
 rcases Nat.eq_zero_or_pos x.subs.length with hz | hp
 ·have hz' : x.subs = [] := List.length_eq_zero_iff.1 hz
  have := h0 hz'
  simpa [hz'] using this
 ·obtain ⟨j, hj⟩ : ∃ j, x.subs.length = j + 1 := ⟨x.subs.length - 1, by omega⟩
  have hne : x.subs ≠ [] := by intro e; rw [e] at hp; simp at hp
  have hjl : j < x.subs.length := by omega
  have e2 : (x.subs.length : Int) - 1 = j := by omega
  have hw : IntKind.wrap .i64 ((j : Int) - 1) = (j : Int) - 1 := wrap64 (by omega) (by omega)
  have ht : List.take R.length (rowsT R ++ Z) = rowsT R := by rw [List.take_append_of_le_length (by simp), List.take_of_length_le (by simp)]
  have e5 : x.subs = x.subs.take j ++ [x.subs[j]] := by
   have : x.subs.take (j + 1) = x.subs := List.take_of_length_le (by omega)
   rw [List.take_add_one, List.getElem?_eq_getElem hjl] at this
   exact this.symm
  have e6 : R ++ x.subs.reverse = R ++ [x.subs[j]] ++ (x.subs.take j).reverse := by
   conv => lhs; rw [e5]
   rw [List.reverse_append, List.append_assoc]; rfl
  have := push_a (t := t) hx (wd := wd) (P := P) j (R ++ [x.subs[j]]) (by omega) (by simp; omega) (by
   have h := h hne
   rw [e6] at h
   have e7 : (R ++ [x.subs[j]] ++ (x.subs.take j).reverse).length = (R ++ [x.subs[j]]).length + j := by
    rw [List.length_append, List.length_reverse, List.length_take]; omega
   rw [e7] at h
   exact h)
  rw [e2]
  simp at this
  simp [hjl, hw, fits56 (show R.length + 1 ≤ 1099511627776 by omega), ht]
  exact this

theorem check_m {t : Tm} : ∀ (n : Nat) (R : List Tm) (Z : List (List AV)) (wd : Nat), wL R ≤ n → n < 1099511627776 → wd + 2 * wL R < 9007199254740992 →
  Gets (wq33_0 t.kind t.num t.str (rowsT t.subs) 0 (wd : Int) t.kind t.num t.str (rowsT t.subs) R.length (rowsT R ++ Z)) (· = .int .i64 (chkS R wd)) := by
 intro n
 induction n with
 | zero =>
  intro R Z wd hn _ _
  have : R = [] := by
   have := wL_len R
   exact List.length_eq_zero_iff.1 (by omega)
  subst this
  refine wq33_0_step _ _ _ _ _ _ _ _ _ _ _ _ ?_
  by_cases h : 65536 < wd
  ·have h' : (65536 : Int) < wd := by omega
   simp [h, h', chkS, partsL, wordsL]
  ·have h' : ¬ (65536 : Int) < wd := by omega
   simp [h, h', chkS, partsL, wordsL]
 | succ n ih =>
  intro R Z wd hn hN hw
  rcases List.eq_nil_or_concat R with rfl | ⟨R0, x, rfl⟩
  ·refine wq33_0_step _ _ _ _ _ _ _ _ _ _ _ _ ?_
   by_cases h : 65536 < wd
   ·have h' : (65536 : Int) < wd := by omega
    simp [h, h', chkS, partsL, wordsL]
   ·have h' : ¬ (65536 : Int) < wd := by omega
    simp [h, h', chkS, partsL, wordsL]
  ·rw [List.concat_eq_append] at *
   have hwx := x.w_eq
   have ho := x.own_le
   simp only [wL_append, wL_cons, wL_nil] at hn hw
   have hl0 := wL_len R0
   have hls := wL_len x.subs
   have hsd := sound_ev x
   have how := own_ev x
   refine wq33_0_step _ _ _ _ _ _ _ _ _ _ _ _ ?_
   have e1 : (R0 ++ [x]).length = R0.length + 1 := by simp
   have hw1 : IntKind.wrap .i64 (R0.length : Int) = R0.length := wrapN (by omega)
   have hw2 : IntKind.wrap .i64 ((wd : Int) + x.own) = ((wd + x.own : Nat) : Int) := by rw [wrap64 (by omega) (by omega)]; omega
   have hw3 : IntKind.wrap .i64 ((x.subs.length : Int) - 1) = (x.subs.length : Int) - 1 := wrap64 (by omega) (by omega)
   have g : (rowsT (R0 ++ [x]) ++ Z)[R0.length]? = some x.cells := by
    rw [List.getElem?_append_left (by simp), rowsT_get]; simp
   cases hs : x.sound with
   | false =>
    rw [hs] at hsd
    simp [e1, hw1, g, hsd, chkS_bad hs]
   | true =>
    rw [hs] at hsd
    have e3 : rowsT (R0 ++ [x]) ++ Z = rowsT R0 ++ (x.cells :: Z) := by rw [rowsT_append, List.append_assoc, rowsT_cons, rowsT_nil]; rfl
    have := push_m (t := t) (x := x) (R := R0) (Z := x.cells :: Z) (wd := ((wd + x.own : Nat) : Int)) (P := (· = .int .i64 (chkS (R0 ++ [x]) wd))) (by omega) (by omega)
     (fun hz => by
      have := ih R0 (x.cells :: Z) (wd + x.own) (by omega) (by omega) (by omega)
      rw [← chkS_step hs, hz, List.reverse_nil, List.append_nil]
      exact this)
     (fun hz => by
      have := ih (R0 ++ x.subs.reverse) [] (wd + x.own) (by rw [wL_append, wL_rev]; omega) (by omega) (by rw [wL_append, wL_rev]; omega)
      rw [← chkS_step hs]
      rw [List.append_nil] at this
      exact this)
    simp only [e1, e3] at g ⊢
    simp only [Int.natCast_add] at hw2 this
    simp [hw1, g, hsd, how, hw2, hw3]
    exact this

theorem check_ev {t : Tm} (h : t.w < 1099511627776) : EVs (EV cfg) 91 [t.av] = some (.int .i64 t.chk) := by
 have := check_m (t := t) _ [t] [] 0 (Nat.le_refl _) (by simpa using h) (by simp; omega)
 apply Gets.get
 rw [Tm.av, Tm.cells_eq]
 refine term_Check_run _ _ _ _ ?_
 rw [← Tm.cells_eq, rowsT_one, Tm.chk]
 simpa using this
end Go.Proofs.YtkgkjngbfdnoiaaGreat
end

section
namespace Go.Proofs.YtkgkjngbfdnoiaaGreat
open Go.Av
theorem number_step {s h0 : List UInt8} {b : UInt8} {v : Int} {i : Nat} {P : AV → Prop} (hv : 0 ≤ v ∧ v ≤ 9) (hlen : (List.take (s.length - 1) (s.drop 1)).length = h0.length) (hl : h0.length ≤ 2) (hb : h0[i]? = some b)
  (h : Gets (match digitG b with | none => some (AV.tup [.int .i64 0, .bool false]) | some x => wp71_0 s (v * 10 + x) ((i + 1 : Nat) : Int) (h0.map fun b => [.int .u8 (b.toNat : Int)])) P) : Gets (wp71_0 s v i (h0.map fun b => [.int .u8 (b.toNat : Int)])) P := by
 have hi : i < h0.length := (List.getElem?_eq_some_iff.1 hb).1
 refine wp71_0_step _ _ _ _ ?_
 have hbl := b.toNat_lt
 rw [hlen, decide_eq_true (show (i : Int) < (h0.length : Int) by omega), leInt_zero, ltInt_nat, decide_eq_true hi]
 simp only [cond_true, Bool.and_self, get?Internal_eq, Nat.zero_add, Int.toNat_natCast, List.getElem?_map, hb, Option.map_some, kOptSome, List.getElem?_cons_zero, kInt_int]
 unfold digitG at h
 by_cases h1 : b.toNat < 48
 ·rw [if_pos h1] at h
  rw [decide_eq_true (show (b.toNat : Int) < 48 by omega)]; exact h
 ·rw [if_neg h1] at h
  rw [decide_eq_false (show ¬ (b.toNat : Int) < 48 by omega), cond_false]
  by_cases h2 : b.toNat > 57
  ·rw [if_pos h2] at h
   rw [decide_eq_true (show (b.toNat : Int) > 57 by omega)]; exact h
  ·rw [if_neg h2] at h
   rw [decide_eq_false (show ¬ (b.toNat : Int) > 57 by omega), cond_false]
   have w1 : IntKind.wrap .i64 (v * 10) = v * 10 := wrap64 (by omega) (by omega)
   have w2 : IntKind.wrap .u8 ((b.toNat : Int) - 48) = (b.toNat : Int) - 48 := by
    simp [IntKind.wrap, IntKind.bits, IntKind.signed]; omega
   have w3 : IntKind.wrap .i64 ((b.toNat : Int) - 48) = (b.toNat : Int) - 48 := wrap64 (by omega) (by omega)
   have w4 : IntKind.wrap .i64 (v * 10 + ((b.toNat : Int) - 48)) = v * 10 + ((b.toNat : Int) - 48) := wrap64 (by omega) (by omega)
   have w5 : IntKind.wrap .i64 ((i : Int) + 1) = ((i + 1 : Nat) : Int) := wrap_succ (n := 2) (by omega) (by omega)
   rw [w1, w2, w3, w4, w5]
   exact h
theorem number_end {s h0 : List UInt8} {v : Int} {i : Nat} (hlen : (List.take (s.length - 1) (s.drop 1)).length = h0.length) (hi : i = h0.length) : Gets (wp71_0 s v i (h0.map fun b => [.int .u8 (b.toNat : Int)])) (· = .tup [.int .i64 v, .bool true]) := by
 refine wp71_0_step _ _ _ _ ?_
 rw [hlen, decide_eq_false (by omega)]
 exact ⟨_, rfl, rfl⟩
def varR (o : Option Int) : AV := .tup [.int .i64 (o.getD 0), .bool o.isSome]
theorem patNumber_ev (s : List UInt8) : EVs (EV cfg) 210 [.str s] = some (varR (varG s)) := by
 apply Gets.get
 refine patNumber_run _ ?_
 unfold zg0 zg1
 match s with
 | [] => exact ⟨_, rfl, rfl⟩
 | [a] => exact ⟨_, rfl, rfl⟩
 | a :: b :: c :: d :: l =>
  have h1 : ¬ ((a :: b :: c :: d :: l).length : Int) < 2 := by simp; omega
  have h2 : ((a :: b :: c :: d :: l).length : Int) > 3 := by simp; omega
  rw [decide_eq_false h1, decide_eq_true h2]
  exact ⟨_, rfl, rfl⟩
 | [a, b] =>
  by_cases h : a.toNat = 36
  ·have e : (((a.toNat : Int)) != 36) = false := by rw [h]; rfl
   have hs := number_step (s := [a, b]) (h0 := [b]) (b := b) (v := 0) (i := 0) (P := (· = varR (varG [a, b]))) (by omega) rfl (by simp) rfl (by
    rw [varG2, if_pos h]
    cases hd : digitG b with
    | none => exact ⟨_, rfl, rfl⟩
    | some x =>
     refine (number_end (s := [a, b]) (h0 := [b]) rfl rfl).mono ?_
     rintro _ rfl
     show _ = varR (some x)
     simp [varR])
   show Gets (bif (((a.toNat : Int)) != 36) then _ else _) _
   rw [e]
   exact hs
  ·have e : (((a.toNat : Int)) != 36) = true := by simpa using fun h' => h (by omega)
   show Gets (bif (((a.toNat : Int)) != 36) then _ else _) _
   rw [e]
   refine ⟨_, rfl, ?_⟩
   rw [varG2, if_neg h]; rfl
 | [a, b, c] =>
  by_cases h : a.toNat = 36
  ·have e : (((a.toNat : Int)) != 36) = false := by rw [h]; rfl
   show Gets (bif (((a.toNat : Int)) != 36) then _ else bif (((b.toNat : Int)) == 48) then _ else _) _
   rw [e]
   by_cases hb : b.toNat = 48
   ·have e2 : (((b.toNat : Int)) == 48) = true := by rw [hb]; rfl
    rw [e2]
    refine ⟨_, rfl, ?_⟩
    rw [varG3, if_neg (fun h => h.2 hb)]; rfl
   ·have e2 : (((b.toNat : Int)) == 48) = false := by simpa using fun h' => hb (by omega)
    rw [e2]
    show Gets (wp71_0 [a, b, c] 0 0 ([b, c].map fun b => [.int .u8 (b.toNat : Int)])) _
    refine number_step (s := [a, b, c]) (h0 := [b, c]) (b := b) (v := 0) (i := 0) (by omega) rfl (by simp) rfl ?_
    rw [varG3, if_pos ⟨h, hb⟩]
    cases hd : digitG b with
    | none => exact ⟨_, rfl, rfl⟩
    | some x =>
     have hx := digitG_in hd
     refine number_step (s := [a, b, c]) (h0 := [b, c]) (b := c) (i := 1) (by omega) rfl (by simp) rfl ?_
     cases hd2 : digitG c with
     | none => exact ⟨_, rfl, by simp [varR, hd2]⟩
     | some y =>
      refine (number_end (s := [a, b, c]) (h0 := [b, c]) rfl rfl).mono ?_
      rintro _ rfl
      simp [varR, hd2]
  ·have e : (((a.toNat : Int)) != 36) = true := by simpa using fun h' => h (by omega)
   show Gets (bif (((a.toNat : Int)) != 36) then _ else _) _
   rw [e]
   refine ⟨_, rfl, ?_⟩
   rw [varG3, if_neg (fun h' => h h'.1)]; rfl
theorem patMay_ev {t : Tm} (h : t.w < 1099511627776) : EVs (EV cfg) 208 [t.av] = some (.bool (decide (t.chk = 0))) := by
 have hc := check_ev h
 apply Gets.get
 rw [Tm.av, Tm.cells_eq] at hc ⊢
 refine patMay_run _ _ _ _ ?_
 rw [hc]
 simp [beqI]
theorem patVar_ev {t : Tm} (h : t.w < 1099511627776) : EVs (EV cfg) 153 [t.av] = some (varR (varT t)) := by
 have hc := patMay_ev h
 apply Gets.get
 rw [Tm.av, Tm.cells_eq] at hc ⊢
 refine patVar_run _ _ _ _ ?_
 rw [hc, patNumber_ev]
 unfold varT
 by_cases h1 : t.kind = 2
 ·by_cases h2 : t.chk = 0
  ·simp [h1, h2, varR, kTup, kCons, kNil]
  ·simp [h1, h2, varR]
 ·have h1' : (t.kind != 2) = true := by simpa using h1
  rw [h1']
  simp [h1, varR]
end Go.Proofs.YtkgkjngbfdnoiaaGreat
end

section
namespace Go.Proofs.YtkgkjngbfdnoiaaGreat
open Go.Av
set_option maxRecDepth 100000
set_option maxHeartbeats 0

noncomputable def Lg65_0 : Den := evC cfg (EV cfg) 168 none 0 (sub (bodyOf Tryz.f168) [1, 0, 1, 0, 0])
noncomputable def Ag65_0 : Ex × List AV × AH → Option AV := kAft (Cfg.keepOut cfg 168 2) (kRun cfg (EV cfg) (kfN cfg 6) 168 none 0 (kFinS cfg (Cfg.lift cfg 168 0) Tryz.f168.results.toList) ([.block 0, .seq (sub (bodyOf Tryz.f168) [1, 1])]))
noncomputable def Wg65_0 : List AV × AH → Option AV := fun p => kOpt (LOOP 0 (some [0, 1, 7, 8]) ([]) Lg65_0 p) Ag65_0
noncomputable abbrev wg65_0 (A : List (List AV)) (n v8 : Int) : Option (AV) := Wg65_0  (((fx 19 [(0, .sl A), (1, .int .i64 n), (7, .int .i64 (A.length : Int)), (8, .int .i64 v8)]) : List AV), ([] : AH))
theorem guard_Ops_run (op : List UInt8) {P : AV → Prop} (h : Gets (bif op == [(115 : UInt8), (101 : UInt8), (108 : UInt8), (102 : UInt8)] then some (.sl [[.int .i64 0]]) else bif op == [(105 : UInt8), (115 : UInt8), (95 : UInt8), (97 : UInt8), (116 : UInt8), (111 : UInt8), (109 : UInt8)] then some (.sl [[.int .i64 1]]) else bif op == [(105 : UInt8), (115 : UInt8), (95 : UInt8), (105 : UInt8), (110 : UInt8), (116 : UInt8), (101 : UInt8), (103 : UInt8), (101 : UInt8), (114 : UInt8)] then some (.sl [[.int .i64 1]]) else bif op == [(105 : UInt8), (115 : UInt8), (95 : UInt8), (108 : UInt8), (105 : UInt8), (115 : UInt8), (116 : UInt8)] then some (.sl [[.int .i64 1]]) else bif op == [(105 : UInt8), (115 : UInt8), (95 : UInt8), (116 : UInt8), (117 : UInt8), (112 : UInt8), (108 : UInt8), (101 : UInt8)] then some (.sl [[.int .i64 1]]) else bif op == [(105 : UInt8), (115 : UInt8), (95 : UInt8), (112 : UInt8), (105 : UInt8), (100 : UInt8)] then some (.sl [[.int .i64 1]]) else bif op == [(105 : UInt8), (115 : UInt8), (95 : UInt8), (102 : UInt8), (117 : UInt8), (110 : UInt8), (99 : UInt8), (116 : UInt8), (105 : UInt8), (111 : UInt8), (110 : UInt8)] then some (.sl [[.int .i64 1]]) else bif op == [(105 : UInt8), (115 : UInt8), (95 : UInt8), (114 : UInt8), (101 : UInt8), (102 : UInt8), (101 : UInt8), (114 : UInt8), (101 : UInt8), (110 : UInt8), (99 : UInt8), (101 : UInt8)] then some (.sl [[.int .i64 1]]) else bif op == [(110 : UInt8), (111 : UInt8), (116 : UInt8)] then some (.sl [[.int .i64 1]]) else bif op == [(98 : UInt8), (110 : UInt8), (111 : UInt8), (116 : UInt8)] then some (.sl [[.int .i64 1]]) else bif op == [(97 : UInt8), (98 : UInt8), (115 : UInt8)] then some (.sl [[.int .i64 1]]) else bif op == [(116 : UInt8), (117 : UInt8), (112 : UInt8), (108 : UInt8), (101 : UInt8), (95 : UInt8), (115 : UInt8), (105 : UInt8), (122 : UInt8), (101 : UInt8)] then some (.sl [[.int .i64 1]]) else bif op == [(115 : UInt8), (105 : UInt8), (122 : UInt8), (101 : UInt8)] then some (.sl [[.int .i64 1]]) else bif op == [(104 : UInt8), (100 : UInt8)] then some (.sl [[.int .i64 1]]) else bif op == [(116 : UInt8), (108 : UInt8)] then some (.sl [[.int .i64 1]]) else bif op == [(108 : UInt8), (101 : UInt8), (110 : UInt8), (103 : UInt8), (116 : UInt8), (104 : UInt8)] then some (.sl [[.int .i64 1]]) else bif op == [(43 : UInt8)] then some (.sl [[.int .i64 1], [.int .i64 2]]) else bif op == [(45 : UInt8)] then some (.sl [[.int .i64 1], [.int .i64 2]]) else bif op == [(61 : UInt8), (61 : UInt8)] then some (.sl [[.int .i64 2]]) else bif op == [(61 : UInt8), (58 : UInt8), (61 : UInt8)] then some (.sl [[.int .i64 2]]) else bif op == [(47 : UInt8), (61 : UInt8)] then some (.sl [[.int .i64 2]]) else bif op == [(61 : UInt8), (47 : UInt8), (61 : UInt8)] then some (.sl [[.int .i64 2]]) else bif op == [(60 : UInt8)] then some (.sl [[.int .i64 2]]) else bif op == [(61 : UInt8), (60 : UInt8)] then some (.sl [[.int .i64 2]]) else bif op == [(62 : UInt8)] then some (.sl [[.int .i64 2]]) else bif op == [(62 : UInt8), (61 : UInt8)] then some (.sl [[.int .i64 2]]) else bif op == [(97 : UInt8), (110 : UInt8), (100 : UInt8)] then some (.sl [[.int .i64 2]]) else bif op == [(111 : UInt8), (114 : UInt8)] then some (.sl [[.int .i64 2]]) else bif op == [(120 : UInt8), (111 : UInt8), (114 : UInt8)] then some (.sl [[.int .i64 2]]) else bif op == [(97 : UInt8), (110 : UInt8), (100 : UInt8), (97 : UInt8), (108 : UInt8), (115 : UInt8), (111 : UInt8)] then some (.sl [[.int .i64 2]]) else bif op == [(111 : UInt8), (114 : UInt8), (101 : UInt8), (108 : UInt8), (115 : UInt8), (101 : UInt8)] then some (.sl [[.int .i64 2]]) else bif op == [(42 : UInt8)] then some (.sl [[.int .i64 2]]) else bif op == [(100 : UInt8), (105 : UInt8), (118 : UInt8)] then some (.sl [[.int .i64 2]]) else bif op == [(114 : UInt8), (101 : UInt8), (109 : UInt8)] then some (.sl [[.int .i64 2]]) else bif op == [(98 : UInt8), (97 : UInt8), (110 : UInt8), (100 : UInt8)] then some (.sl [[.int .i64 2]]) else bif op == [(98 : UInt8), (111 : UInt8), (114 : UInt8)] then some (.sl [[.int .i64 2]]) else bif op == [(98 : UInt8), (120 : UInt8), (111 : UInt8), (114 : UInt8)] then some (.sl [[.int .i64 2]]) else bif op == [(101 : UInt8), (108 : UInt8), (101 : UInt8), (109 : UInt8), (101 : UInt8), (110 : UInt8), (116 : UInt8)] then some (.sl [[.int .i64 2]]) else some (.sl [])) P) : Gets (EVf (EV cfg) 89 ([AV.str op] : List AV)) P :=
  Gets.ev (fun _ h => funF rfl rfl Tryz.func89 rfl h) (Gets.eq (by kernel_rfl) h)
theorem guard_self_run (n : Int) {P : AV → Prop} (h : Gets (bif decide (n ≥ 1) then some (.bool (decide (n ≤ 1073741824))) else some (.bool false)) P) : Gets (EVs (EV cfg) 90 ([AV.int IntKind.i64 n] : List AV)) P :=
  Gets.ev (fun _ h => funS rfl rfl Tryz.func90 rfl h) (Gets.eq (by kernel_rfl) h)
noncomputable abbrev zi0 (v : AV) : Option (AV) := kTmV v fun n n_1 s rows => (some (.agg [.int .i64 n, .int .i64 n_1, .str s, .sl rows]))
theorem guard_truth_run (b : Bool) {P : AV → Prop} (h : Gets (bif b then kOpt (EVf (EV cfg) 292 [.str [(116 : UInt8), (114 : UInt8), (117 : UInt8), (101 : UInt8)]]) fun v => zi0 v else kOpt (EVf (EV cfg) 292 [.str [(102 : UInt8), (97 : UInt8), (108 : UInt8), (115 : UInt8), (101 : UInt8)]]) fun v => zi0 v) P) : Gets (EVf (EV cfg) 239 ([AV.bool b] : List AV)) P :=
  Gets.ev (fun _ h => funF rfl rfl Tryz.func239 rfl h) (Gets.eq (by kernel_rfl) h)
theorem guard_atom_run (s : List UInt8) {P : AV → Prop} (h : Gets (some (.agg [.int .i64 2, .int .i64 0, .str s, .sl []])) P) : Gets (EVf (EV cfg) 292 ([AV.str s] : List AV)) P :=
  Gets.ev (fun _ h => funF rfl rfl Tryz.func292 rfl h) (Gets.eq (by kernel_rfl) h)
theorem containsI_run (A : List (List AV)) (n : Int) {P : AV → Prop} (h : Gets (kOpt (EVs (EV cfg) 168 [.sl A, .int .i64 n]) fun v => kInt .i64 v fun n => some (.bool (decide (n ≥ 0)))) P) : Gets (EVs (EV cfg) 88 ([AV.sl A, AV.int IntKind.i64 n] : List AV)) P :=
  Gets.ev (fun _ h => funS rfl rfl Tryz.func88 rfl h) (Gets.eq (by kernel_rfl) h)
theorem indexI_run (A : List (List AV)) (n : Int) {P : AV → Prop} (h : Gets (wg65_0 A n 0) P) : Gets (EVs (EV cfg) 168 ([AV.sl A, AV.int IntKind.i64 n] : List AV)) P :=
  Gets.ev (fun _ h => funS rfl rfl Tryz.func168 rfl h) (Gets.eq (by kernel_rfl) h)
theorem mRaise_run (ke ne : Int) (se : List UInt8) (le bd : List (List AV)) (self : Int) (bad : Bool) {P : AV × List (List AV) → Prop} (h : Gets (some (.agg [.int .i64 0, .int .i64 0, .str [], .sl []], [[.int .i64 ke, .int .i64 ne, .str se, .sl le, .sl bd, .int .i64 self, .bool true]])) P) : Gets (EVd (EV cfg) 233 ([AV.ptr (0 : Nat) (0 : Nat) (0 : Nat)] : List AV) 7 [[AV.int .i64 ke, AV.int .i64 ne, AV.str se, AV.sl le, AV.sl bd, AV.int .i64 self, AV.bool bad]]) P :=
  Gets.ev (fun _ h => funD rfl rfl Tryz.func233 rfl h) (Gets.eq (by kernel_rfl) h)
noncomputable abbrev zi3 (n n_1 : Int) (s : List UInt8) (rows : List (List AV)) (q : AV × List (List AV)) : Option (AV × List (List AV)) := (some (.agg [.int .i64 n, .int .i64 n_1, .str s, .sl rows], q.2))
noncomputable abbrev zi2 (q : AV × List (List AV)) : Option (AV × List (List AV)) := kTmV q.1 fun n n_1 s rows => zi3 n n_1 s rows q
noncomputable abbrev zi1 (ke ne : Int) (se : List UInt8) (le bd : List (List AV)) (self : Int) (bad : Bool) : Option (AV × List (List AV)) := kOpt (EVd (EV cfg) 233 [.ptr 0 0 0] 7 [[.int .i64 ke, .int .i64 ne, .str se, .sl le, .sl bd, .int .i64 self, .bool bad]]) fun q => zi2 q
theorem mNumber_run (ke ne : Int) (se : List UInt8) (le bd : List (List AV)) (self : Int) (bad : Bool) (n : Int) {P : AV × List (List AV) → Prop} (h : Gets (bif decide (n < (- 576460752303423488)) then zi1 ke ne se le bd self bad else bif decide (n > (576460752303423487 : Int)) then zi1 ke ne se le bd self bad else some (.agg [.int .i64 1, .int .i64 n, .str [], .sl []], [[.int .i64 ke, .int .i64 ne, .str se, .sl le, .sl bd, .int .i64 self, .bool bad]])) P) : Gets (EVd (EV cfg) 240 ([AV.ptr (0 : Nat) (0 : Nat) (0 : Nat), AV.int IntKind.i64 n] : List AV) 7 [[AV.int .i64 ke, AV.int .i64 ne, AV.str se, AV.sl le, AV.sl bd, AV.int .i64 self, AV.bool bad]]) P :=
  Gets.ev (fun _ h => funD rfl rfl Tryz.func240 rfl h) (Gets.eq (by kernel_rfl) h)
noncomputable abbrev zi12 (n_1 ke ne : Int) (se : List UInt8) (le bd : List (List AV)) (self : Int) (bad : Bool) : Option (AV × List (List AV)) := kOpt (EVd (EV cfg) 240 [.ptr 0 0 0, .int .i64 (IntKind.wrap .i64 (1 * IntKind.wrap .i64 n_1))] 7 [[.int .i64 ke, .int .i64 ne, .str se, .sl le, .sl bd, .int .i64 self, .bool bad]]) fun q => zi2 q
noncomputable abbrev zi11 (n_1 ke ne : Int) (se : List UInt8) (le bd : List (List AV)) (self : Int) (bad : Bool) : Option (AV × List (List AV)) := bif decide (n_1 > 576460752303423488) then zi1 ke ne se le bd self bad else zi12 n_1 ke ne se le bd self bad
noncomputable abbrev zi10 (n ke ne : Int) (se : List UInt8) (le bd : List (List AV)) (self : Int) (bad : Bool) (n_1 : Int) : Option (AV × List (List AV)) := bif decide (n > 0) then zi1 ke ne se le bd self bad else zi11 n_1 ke ne se le bd self bad
noncomputable abbrev zi9 (cs : List AV) (n ke ne : Int) (se : List UInt8) (le bd : List (List AV)) (self : Int) (bad : Bool) (n_1 : Int) : Option (AV × List (List AV)) := kNil cs (zi10 n ke ne se le bd self bad n_1)
noncomputable abbrev zi8 (c : AV) (cs : List AV) (n ke ne : Int) (se : List UInt8) (le bd : List (List AV)) (self : Int) (bad : Bool) : Option (AV × List (List AV)) := kInt .u64 c fun n_1 => zi9 cs n ke ne se le bd self bad n_1
noncomputable abbrev zi7 (cs : List AV) (n ke ne : Int) (se : List UInt8) (le bd : List (List AV)) (self : Int) (bad : Bool) : Option (AV × List (List AV)) := kCons cs fun c cs => zi8 c cs n ke ne se le bd self bad
noncomputable abbrev zi6 (c : AV) (cs : List AV) (ke ne : Int) (se : List UInt8) (le bd : List (List AV)) (self : Int) (bad : Bool) : Option (AV × List (List AV)) := kInt .u64 c fun n => zi7 cs n ke ne se le bd self bad
noncomputable abbrev zi5 (cs : List AV) (ke ne : Int) (se : List UInt8) (le bd : List (List AV)) (self : Int) (bad : Bool) : Option (AV × List (List AV)) := kCons cs fun c cs => zi6 c cs ke ne se le bd self bad
noncomputable abbrev zi4 (v : AV) (ke ne : Int) (se : List UInt8) (le bd : List (List AV)) (self : Int) (bad : Bool) : Option (AV × List (List AV)) := kTup v fun cs => zi5 cs ke ne se le bd self bad
noncomputable abbrev zi21 (n_1 ke ne : Int) (se : List UInt8) (le bd : List (List AV)) (self : Int) (bad : Bool) : Option (AV × List (List AV)) := kOpt (EVd (EV cfg) 240 [.ptr 0 0 0, .int .i64 (IntKind.wrap .i64 ((- 1) * IntKind.wrap .i64 n_1))] 7 [[.int .i64 ke, .int .i64 ne, .str se, .sl le, .sl bd, .int .i64 self, .bool bad]]) fun q => zi2 q
noncomputable abbrev zi20 (n_1 ke ne : Int) (se : List UInt8) (le bd : List (List AV)) (self : Int) (bad : Bool) : Option (AV × List (List AV)) := bif decide (n_1 > 576460752303423488) then zi1 ke ne se le bd self bad else zi21 n_1 ke ne se le bd self bad
noncomputable abbrev zi19 (n ke ne : Int) (se : List UInt8) (le bd : List (List AV)) (self : Int) (bad : Bool) (n_1 : Int) : Option (AV × List (List AV)) := bif decide (n > 0) then zi1 ke ne se le bd self bad else zi20 n_1 ke ne se le bd self bad
noncomputable abbrev zi18 (cs : List AV) (n ke ne : Int) (se : List UInt8) (le bd : List (List AV)) (self : Int) (bad : Bool) (n_1 : Int) : Option (AV × List (List AV)) := kNil cs (zi19 n ke ne se le bd self bad n_1)
noncomputable abbrev zi17 (c : AV) (cs : List AV) (n ke ne : Int) (se : List UInt8) (le bd : List (List AV)) (self : Int) (bad : Bool) : Option (AV × List (List AV)) := kInt .u64 c fun n_1 => zi18 cs n ke ne se le bd self bad n_1
noncomputable abbrev zi16 (cs : List AV) (n ke ne : Int) (se : List UInt8) (le bd : List (List AV)) (self : Int) (bad : Bool) : Option (AV × List (List AV)) := kCons cs fun c cs => zi17 c cs n ke ne se le bd self bad
noncomputable abbrev zi15 (c : AV) (cs : List AV) (ke ne : Int) (se : List UInt8) (le bd : List (List AV)) (self : Int) (bad : Bool) : Option (AV × List (List AV)) := kInt .u64 c fun n => zi16 cs n ke ne se le bd self bad
noncomputable abbrev zi14 (cs : List AV) (ke ne : Int) (se : List UInt8) (le bd : List (List AV)) (self : Int) (bad : Bool) : Option (AV × List (List AV)) := kCons cs fun c cs => zi15 c cs ke ne se le bd self bad
noncomputable abbrev zi13 (v : AV) (ke ne : Int) (se : List UInt8) (le bd : List (List AV)) (self : Int) (bad : Bool) : Option (AV × List (List AV)) := kTup v fun cs => zi14 cs ke ne se le bd self bad
theorem mProduct_run (ke ne : Int) (se : List UInt8) (le bd : List (List AV)) (self : Int) (bad : Bool) (a b : Int) {P : AV × List (List AV) → Prop} (h : Gets (bif decide (a < 0) then bif decide (b < 0) then kOpt (EVs (EV cfg) 312 [.int .u64 (IntKind.wrap .u64 (IntKind.wrap .i64 (0 - a))), .int .u64 (IntKind.wrap .u64 (IntKind.wrap .i64 (0 - b)))]) fun v => zi4 v ke ne se le bd self bad else kOpt (EVs (EV cfg) 312 [.int .u64 (IntKind.wrap .u64 (IntKind.wrap .i64 (0 - a))), .int .u64 (IntKind.wrap .u64 b)]) fun v => zi13 v ke ne se le bd self bad else bif decide (b < 0) then kOpt (EVs (EV cfg) 312 [.int .u64 (IntKind.wrap .u64 a), .int .u64 (IntKind.wrap .u64 (IntKind.wrap .i64 (0 - b)))]) fun v => zi13 v ke ne se le bd self bad else kOpt (EVs (EV cfg) 312 [.int .u64 (IntKind.wrap .u64 a), .int .u64 (IntKind.wrap .u64 b)]) fun v => zi4 v ke ne se le bd self bad) P) : Gets (EVd (EV cfg) 294 ([AV.ptr (0 : Nat) (0 : Nat) (0 : Nat), AV.int IntKind.i64 a, AV.int IntKind.i64 b] : List AV) 7 [[AV.int .i64 ke, AV.int .i64 ne, AV.str se, AV.sl le, AV.sl bd, AV.int .i64 self, AV.bool bad]]) P :=
  Gets.ev (fun _ h => funD rfl rfl Tryz.func294 rfl h) (Gets.eq (by kernel_rfl) h)
noncomputable abbrev zi23 (n ke ne : Int) (se : List UInt8) (le bd : List (List AV)) (self : Int) (bad : Bool) : Option (AV × List (List AV)) := kOpt (EVd (EV cfg) 240 [.ptr 0 0 0, .int .i64 n] 7 [[.int .i64 ke, .int .i64 ne, .str se, .sl le, .sl bd, .int .i64 self, .bool bad]]) fun q => zi2 q
noncomputable abbrev zi22 (v : AV) (ke ne : Int) (se : List UInt8) (le bd : List (List AV)) (self : Int) (bad : Bool) : Option (AV × List (List AV)) := kInt .i64 v fun n => zi23 n ke ne se le bd self bad
theorem mNumbers_run (ke ne : Int) (se : List UInt8) (le bd : List (List AV)) (self : Int) (bad : Bool) (op : List UInt8) (a b : Int) {P : AV × List (List AV) → Prop} (h : Gets (bif bad then some (.agg [.int .i64 0, .int .i64 0, .str [], .sl []], [[.int .i64 ke, .int .i64 ne, .str se, .sl le, .sl bd, .int .i64 self, .bool bad]]) else bif op == [(43 : UInt8)] then kOpt (EVd (EV cfg) 240 [.ptr 0 0 0, .int .i64 (IntKind.wrap .i64 (a + b))] 7 [[.int .i64 ke, .int .i64 ne, .str se, .sl le, .sl bd, .int .i64 self, .bool bad]]) fun q => zi2 q else bif op == [(45 : UInt8)] then kOpt (EVd (EV cfg) 240 [.ptr 0 0 0, .int .i64 (IntKind.wrap .i64 (a - b))] 7 [[.int .i64 ke, .int .i64 ne, .str se, .sl le, .sl bd, .int .i64 self, .bool bad]]) fun q => zi2 q else bif op == [(42 : UInt8)] then kOpt (EVd (EV cfg) 294 [.ptr 0 0 0, .int .i64 a, .int .i64 b] 7 [[.int .i64 ke, .int .i64 ne, .str se, .sl le, .sl bd, .int .i64 self, .bool bad]]) fun q => zi2 q else bif op == [(98 : UInt8), (97 : UInt8), (110 : UInt8), (100 : UInt8)] then kOpt (fromSem (Op.intBits BinOp.and .i64 a b)) fun v => zi22 v ke ne se le bd self bad else bif op == [(98 : UInt8), (111 : UInt8), (114 : UInt8)] then kOpt (fromSem (Op.intBits BinOp.or .i64 a b)) fun v => zi22 v ke ne se le bd self bad else bif op == [(98 : UInt8), (120 : UInt8), (111 : UInt8), (114 : UInt8)] then kOpt (fromSem (Op.intBits BinOp.xor .i64 a b)) fun v => zi22 v ke ne se le bd self bad else bif b == 0 then zi1 ke ne se le bd self bad else bif op == [(100 : UInt8), (105 : UInt8), (118 : UInt8)] then kOpt (fromSem (Op.intDiv BinOp.quo .i64 a b)) fun v => zi22 v ke ne se le bd self bad else kOpt (fromSem (Op.intDiv BinOp.rem .i64 a b)) fun v => zi22 v ke ne se le bd self bad) P) : Gets (EVd (EV cfg) 243 ([AV.ptr (0 : Nat) (0 : Nat) (0 : Nat), AV.str op, AV.int IntKind.i64 a, AV.int IntKind.i64 b] : List AV) 7 [[AV.int .i64 ke, AV.int .i64 ne, AV.str se, AV.sl le, AV.sl bd, AV.int .i64 self, AV.bool bad]]) P :=
  Gets.ev (fun _ h => funD rfl rfl Tryz.func243 rfl h) (Gets.eq (by kernel_rfl) h)
theorem mInt_run (ke ne : Int) (se : List UInt8) (le bd : List (List AV)) (self : Int) (bad : Bool) (kt nt : Int) (st : List UInt8) (lt : List (List AV)) {P : MV × List (List AV) → Prop} (h : Gets (bif kt != 1 then kOpt (EVd (EV cfg) 233 [.ptr 0 0 0] 7 [[.int .i64 ke, .int .i64 ne, .str se, .sl le, .sl bd, .int .i64 self, .bool bad]]) fun q => kTmV q.1 fun n n s rows => (some (MV.int .i64 nt, q.2)) else some (MV.int .i64 nt, [[.int .i64 ke, .int .i64 ne, .str se, .sl le, .sl bd, .int .i64 self, .bool bad]])) P) : Gets (EVm (EV cfg) 241 ([AV.ptr (0 : Nat) (0 : Nat) (0 : Nat), AV.agg [AV.int IntKind.i64 kt, AV.int IntKind.i64 nt, AV.str st, AV.sl lt]] : List AV) 7 [[AV.int .i64 ke, AV.int .i64 ne, AV.str se, AV.sl le, AV.sl bd, AV.int .i64 self, AV.bool bad]]) P :=
  Gets.ev (fun _ h => funM rfl rfl Tryz.func241 rfl h) (Gets.eq (by kernel_rfl) h)
noncomputable abbrev zi24 (q : AV × List (List AV)) (st : List UInt8) : Option (MV × List (List AV)) := kTmV q.1 fun n n s rows => (some (MV.bool (st == [(116 : UInt8), (114 : UInt8), (117 : UInt8), (101 : UInt8)]), q.2))
theorem mBool_run (ke ne : Int) (se : List UInt8) (le bd : List (List AV)) (self : Int) (bad : Bool) (kt nt : Int) (st : List UInt8) (lt : List (List AV)) {P : MV × List (List AV) → Prop} (h : Gets (bif kt != 2 then kOpt (EVd (EV cfg) 233 [.ptr 0 0 0] 7 [[.int .i64 ke, .int .i64 ne, .str se, .sl le, .sl bd, .int .i64 self, .bool bad]]) fun q => zi24 q st else bif ! st == [(116 : UInt8), (114 : UInt8), (117 : UInt8), (101 : UInt8)] then bif ! st == [(102 : UInt8), (97 : UInt8), (108 : UInt8), (115 : UInt8), (101 : UInt8)] then kOpt (EVd (EV cfg) 233 [.ptr 0 0 0] 7 [[.int .i64 ke, .int .i64 ne, .str se, .sl le, .sl bd, .int .i64 self, .bool bad]]) fun q => zi24 q st else some (MV.bool (st == [(116 : UInt8), (114 : UInt8), (117 : UInt8), (101 : UInt8)]), [[.int .i64 ke, .int .i64 ne, .str se, .sl le, .sl bd, .int .i64 self, .bool bad]]) else some (MV.bool (st == [(116 : UInt8), (114 : UInt8), (117 : UInt8), (101 : UInt8)]), [[.int .i64 ke, .int .i64 ne, .str se, .sl le, .sl bd, .int .i64 self, .bool bad]])) P) : Gets (EVm (EV cfg) 158 ([AV.ptr (0 : Nat) (0 : Nat) (0 : Nat), AV.agg [AV.int IntKind.i64 kt, AV.int IntKind.i64 nt, AV.str st, AV.sl lt]] : List AV) 7 [[AV.int .i64 ke, AV.int .i64 ne, AV.str se, AV.sl le, AV.sl bd, AV.int .i64 self, AV.bool bad]]) P :=
  Gets.ev (fun _ h => funM rfl rfl Tryz.func158 rfl h) (Gets.eq (by kernel_rfl) h)
noncomputable abbrev zi26 (n n_1 : Int) (s : List UInt8) (rows : List (List AV)) (ke ne : Int) (se : List UInt8) (le bd : List (List AV)) (self : Int) (bad : Bool) : Option (AV × List (List AV)) := (some (.agg [.int .i64 n, .int .i64 n_1, .str s, .sl rows], [[.int .i64 ke, .int .i64 ne, .str se, .sl le, .sl bd, .int .i64 self, .bool bad]]))
noncomputable abbrev zi25 (v : AV) (ke ne : Int) (se : List UInt8) (le bd : List (List AV)) (self : Int) (bad : Bool) : Option (AV × List (List AV)) := kTmV v fun n n_1 s rows => zi26 n n_1 s rows ke ne se le bd self bad
noncomputable abbrev zi34 (n n_1 : Int) (s : List UInt8) (rows : List (List AV)) (q : MV × List (List AV)) : Option (AV × List (List AV)) := (some (.agg [.int .i64 n, .int .i64 n_1, .str s, .sl rows], q.2))
noncomputable abbrev zi33 (v : AV) (q : MV × List (List AV)) : Option (AV × List (List AV)) := kTmV v fun n n_1 s rows => zi34 n n_1 s rows q
noncomputable abbrev zi32 (b_1 : Bool) (q : MV × List (List AV)) : Option (AV × List (List AV)) := kOpt (EVf (EV cfg) 239 [.bool b_1]) fun v => zi33 v q
noncomputable abbrev zi35 (q : MV × List (List AV)) : Option (AV × List (List AV)) := kOpt (EVf (EV cfg) 239 [.bool false]) fun v => zi33 v q
noncomputable abbrev zi31 (b b_1 : Bool) (q : MV × List (List AV)) : Option (AV × List (List AV)) := bif b then zi32 b_1 q else zi35 q
noncomputable abbrev zi30 (q : MV × List (List AV)) (b : Bool) : Option (AV × List (List AV)) := kMBool q.1 fun b_1 => zi31 b b_1 q
noncomputable abbrev zi29 (kb nb : Int) (sb : List UInt8) (lb : List (List AV)) (q : MV × List (List AV)) (b : Bool) : Option (AV × List (List AV)) := kOpt (EVm (EV cfg) 158 [.ptr 0 0 0, .agg [.int .i64 kb, .int .i64 nb, .str sb, .sl lb]] 7 q.2) fun q => zi30 q b
noncomputable abbrev zi28 (q : MV × List (List AV)) (kb nb : Int) (sb : List UInt8) (lb : List (List AV)) : Option (AV × List (List AV)) := kMBool q.1 fun b => zi29 kb nb sb lb q b
noncomputable abbrev zi27 (ka na : Int) (sa : List UInt8) (la : List (List AV)) (ke ne : Int) (se : List UInt8) (le bd : List (List AV)) (self : Int) (bad : Bool) (kb nb : Int) (sb : List UInt8) (lb : List (List AV)) : Option (AV × List (List AV)) := kOpt (EVm (EV cfg) 158 [.ptr 0 0 0, .agg [.int .i64 ka, .int .i64 na, .str sa, .sl la]] 7 [[.int .i64 ke, .int .i64 ne, .str se, .sl le, .sl bd, .int .i64 self, .bool bad]]) fun q => zi28 q kb nb sb lb
noncomputable abbrev zi41 (q : MV × List (List AV)) : Option (AV × List (List AV)) := kOpt (EVf (EV cfg) 239 [.bool true]) fun v => zi33 v q
noncomputable abbrev zi40 (b : Bool) (q : MV × List (List AV)) (b_1 : Bool) : Option (AV × List (List AV)) := bif b then zi41 q else zi32 b_1 q
noncomputable abbrev zi39 (q : MV × List (List AV)) (b : Bool) : Option (AV × List (List AV)) := kMBool q.1 fun b_1 => zi40 b q b_1
noncomputable abbrev zi38 (kb nb : Int) (sb : List UInt8) (lb : List (List AV)) (q : MV × List (List AV)) (b : Bool) : Option (AV × List (List AV)) := kOpt (EVm (EV cfg) 158 [.ptr 0 0 0, .agg [.int .i64 kb, .int .i64 nb, .str sb, .sl lb]] 7 q.2) fun q => zi39 q b
noncomputable abbrev zi37 (q : MV × List (List AV)) (kb nb : Int) (sb : List UInt8) (lb : List (List AV)) : Option (AV × List (List AV)) := kMBool q.1 fun b => zi38 kb nb sb lb q b
noncomputable abbrev zi36 (ka na : Int) (sa : List UInt8) (la : List (List AV)) (ke ne : Int) (se : List UInt8) (le bd : List (List AV)) (self : Int) (bad : Bool) (kb nb : Int) (sb : List UInt8) (lb : List (List AV)) : Option (AV × List (List AV)) := kOpt (EVm (EV cfg) 158 [.ptr 0 0 0, .agg [.int .i64 ka, .int .i64 na, .str sa, .sl la]] 7 [[.int .i64 ke, .int .i64 ne, .str se, .sl le, .sl bd, .int .i64 self, .bool bad]]) fun q => zi37 q kb nb sb lb
noncomputable abbrev zi42 (q : MV × List (List AV)) : Option (AV × List (List AV)) := kOpt (EVd (EV cfg) 233 [.ptr 0 0 0] 7 q.2) fun q => zi2 q
theorem mTwo_run (ke ne : Int) (se : List UInt8) (le bd : List (List AV)) (self : Int) (bad : Bool) (op : List UInt8) (ka na : Int) (sa : List UInt8) (la : List (List AV)) (kb nb : Int) (sb : List UInt8) (lb : List (List AV)) {P : AV × List (List AV) → Prop} (h : Gets (bif op == [(61 : UInt8), (61 : UInt8)] then kOpt (EVs (EV cfg) 134 [.agg [.int .i64 ka, .int .i64 na, .str sa, .sl la], .agg [.int .i64 kb, .int .i64 nb, .str sb, .sl lb]]) fun v => kInt .i64 v fun n => kOpt (EVf (EV cfg) 239 [.bool (n == 0)]) fun v => zi25 v ke ne se le bd self bad else bif op == [(61 : UInt8), (58 : UInt8), (61 : UInt8)] then kOpt (EVs (EV cfg) 134 [.agg [.int .i64 ka, .int .i64 na, .str sa, .sl la], .agg [.int .i64 kb, .int .i64 nb, .str sb, .sl lb]]) fun v => kInt .i64 v fun n => kOpt (EVf (EV cfg) 239 [.bool (n == 0)]) fun v => zi25 v ke ne se le bd self bad else bif op == [(47 : UInt8), (61 : UInt8)] then kOpt (EVs (EV cfg) 134 [.agg [.int .i64 ka, .int .i64 na, .str sa, .sl la], .agg [.int .i64 kb, .int .i64 nb, .str sb, .sl lb]]) fun v => kInt .i64 v fun n => kOpt (EVf (EV cfg) 239 [.bool (n != 0)]) fun v => zi25 v ke ne se le bd self bad else bif op == [(61 : UInt8), (47 : UInt8), (61 : UInt8)] then kOpt (EVs (EV cfg) 134 [.agg [.int .i64 ka, .int .i64 na, .str sa, .sl la], .agg [.int .i64 kb, .int .i64 nb, .str sb, .sl lb]]) fun v => kInt .i64 v fun n => kOpt (EVf (EV cfg) 239 [.bool (n != 0)]) fun v => zi25 v ke ne se le bd self bad else bif op == [(60 : UInt8)] then kOpt (EVs (EV cfg) 134 [.agg [.int .i64 ka, .int .i64 na, .str sa, .sl la], .agg [.int .i64 kb, .int .i64 nb, .str sb, .sl lb]]) fun v => kInt .i64 v fun n => kOpt (EVf (EV cfg) 239 [.bool (decide (n < 0))]) fun v => zi25 v ke ne se le bd self bad else bif op == [(61 : UInt8), (60 : UInt8)] then kOpt (EVs (EV cfg) 134 [.agg [.int .i64 ka, .int .i64 na, .str sa, .sl la], .agg [.int .i64 kb, .int .i64 nb, .str sb, .sl lb]]) fun v => kInt .i64 v fun n => kOpt (EVf (EV cfg) 239 [.bool (decide (n ≤ 0))]) fun v => zi25 v ke ne se le bd self bad else bif op == [(62 : UInt8)] then kOpt (EVs (EV cfg) 134 [.agg [.int .i64 ka, .int .i64 na, .str sa, .sl la], .agg [.int .i64 kb, .int .i64 nb, .str sb, .sl lb]]) fun v => kInt .i64 v fun n => kOpt (EVf (EV cfg) 239 [.bool (decide (n > 0))]) fun v => zi25 v ke ne se le bd self bad else bif op == [(62 : UInt8), (61 : UInt8)] then kOpt (EVs (EV cfg) 134 [.agg [.int .i64 ka, .int .i64 na, .str sa, .sl la], .agg [.int .i64 kb, .int .i64 nb, .str sb, .sl lb]]) fun v => kInt .i64 v fun n => kOpt (EVf (EV cfg) 239 [.bool (decide (n ≥ 0))]) fun v => zi25 v ke ne se le bd self bad else bif op == [(97 : UInt8), (110 : UInt8), (100 : UInt8)] then zi27 ka na sa la ke ne se le bd self bad kb nb sb lb else bif op == [(97 : UInt8), (110 : UInt8), (100 : UInt8), (97 : UInt8), (108 : UInt8), (115 : UInt8), (111 : UInt8)] then zi27 ka na sa la ke ne se le bd self bad kb nb sb lb else bif op == [(111 : UInt8), (114 : UInt8)] then zi36 ka na sa la ke ne se le bd self bad kb nb sb lb else bif op == [(111 : UInt8), (114 : UInt8), (101 : UInt8), (108 : UInt8), (115 : UInt8), (101 : UInt8)] then zi36 ka na sa la ke ne se le bd self bad kb nb sb lb else bif op == [(120 : UInt8), (111 : UInt8), (114 : UInt8)] then kOpt (EVm (EV cfg) 158 [.ptr 0 0 0, .agg [.int .i64 ka, .int .i64 na, .str sa, .sl la]] 7 [[.int .i64 ke, .int .i64 ne, .str se, .sl le, .sl bd, .int .i64 self, .bool bad]]) fun q => kMBool q.1 fun b => kOpt (EVm (EV cfg) 158 [.ptr 0 0 0, .agg [.int .i64 kb, .int .i64 nb, .str sb, .sl lb]] 7 q.2) fun q => kMBool q.1 fun b_1 => kOpt (EVf (EV cfg) 239 [.bool ! b == b_1]) fun v => zi33 v q else bif op == [(101 : UInt8), (108 : UInt8), (101 : UInt8), (109 : UInt8), (101 : UInt8), (110 : UInt8), (116 : UInt8)] then kOpt (EVm (EV cfg) 241 [.ptr 0 0 0, .agg [.int .i64 ka, .int .i64 na, .str sa, .sl la]] 7 [[.int .i64 ke, .int .i64 ne, .str se, .sl le, .sl bd, .int .i64 self, .bool bad]]) fun q => kMInt .i64 q.1 fun n => bif decide (n ≥ 1) then bif kb == 7 then bif decide (n ≤ (↑ (List.length lb) : Int)) then bif leInt 0 (IntKind.wrap .i64 (n - 1)) && ltInt (IntKind.wrap .i64 (n - 1)) (lb.length : Int) then kOpt (List.get?Internal lb (Int.toNat (IntKind.wrap .i64 (n - 1)))) fun row => bif Nat.beq (List.length row) 4 then bif Nat.ble 4 (List.length row) then kTmC (List.take 4 row) fun n n_1 s rows => zi34 n n_1 s rows q else none else none else none else zi42 q else zi42 q else zi42 q else kOpt (EVm (EV cfg) 241 [.ptr 0 0 0, .agg [.int .i64 ka, .int .i64 na, .str sa, .sl la]] 7 [[.int .i64 ke, .int .i64 ne, .str se, .sl le, .sl bd, .int .i64 self, .bool bad]]) fun q => kMInt .i64 q.1 fun n => kOpt (EVm (EV cfg) 241 [.ptr 0 0 0, .agg [.int .i64 kb, .int .i64 nb, .str sb, .sl lb]] 7 q.2) fun q => kMInt .i64 q.1 fun n_1 => kOpt (EVd (EV cfg) 243 [.ptr 0 0 0, .str op, .int .i64 n, .int .i64 n_1] 7 q.2) fun q => zi2 q) P) : Gets (EVd (EV cfg) 173 ([AV.ptr (0 : Nat) (0 : Nat) (0 : Nat), AV.str op, AV.agg [AV.int IntKind.i64 ka, AV.int IntKind.i64 na, AV.str sa, AV.sl la], AV.agg [AV.int IntKind.i64 kb, AV.int IntKind.i64 nb, AV.str sb, AV.sl lb]] : List AV) 7 [[AV.int .i64 ke, AV.int .i64 ne, AV.str se, AV.sl le, AV.sl bd, AV.int .i64 self, AV.bool bad]]) P :=
  Gets.ev (fun _ h => funD rfl rfl Tryz.func173 rfl h) (Gets.eq (by kernel_rfl) h)
noncomputable abbrev zi43 (n : Int) (q : MV × List (List AV)) : Option (AV × List (List AV)) := kOpt (EVd (EV cfg) 240 [.ptr 0 0 0, .int .i64 n] 7 q.2) fun q => zi2 q
noncomputable abbrev zi45 (lt : List (List AV)) (ke ne : Int) (se : List UInt8) (le bd : List (List AV)) (self : Int) (bad : Bool) : Option (AV × List (List AV)) := kOpt (EVd (EV cfg) 240 [.ptr 0 0 0, .int .i64 (↑ (List.length lt) : Int)] 7 [[.int .i64 ke, .int .i64 ne, .str se, .sl le, .sl bd, .int .i64 self, .bool bad]]) fun q => zi2 q
noncomputable abbrev zi44 (kt ke ne : Int) (se : List UInt8) (le bd : List (List AV)) (self : Int) (bad : Bool) (lt : List (List AV)) : Option (AV × List (List AV)) := bif kt != (7 : Int) then zi1 ke ne se le bd self bad else zi45 lt ke ne se le bd self bad
theorem mOne_run (ke ne : Int) (se : List UInt8) (le bd : List (List AV)) (self : Int) (bad : Bool) (op : List UInt8) (kt nt : Int) (st : List UInt8) (lt : List (List AV)) {P : AV × List (List AV) → Prop} (h : Gets (bif op == [(105 : UInt8), (115 : UInt8), (95 : UInt8), (97 : UInt8), (116 : UInt8), (111 : UInt8), (109 : UInt8)] then kOpt (EVf (EV cfg) 239 [.bool (kt == 2)]) fun v => zi25 v ke ne se le bd self bad else bif op == [(105 : UInt8), (115 : UInt8), (95 : UInt8), (105 : UInt8), (110 : UInt8), (116 : UInt8), (101 : UInt8), (103 : UInt8), (101 : UInt8), (114 : UInt8)] then kOpt (EVf (EV cfg) 239 [.bool (kt == 1)]) fun v => zi25 v ke ne se le bd self bad else bif op == [(105 : UInt8), (115 : UInt8), (95 : UInt8), (108 : UInt8), (105 : UInt8), (115 : UInt8), (116 : UInt8)] then bif kt == 9 then kOpt (EVf (EV cfg) 239 [.bool true]) fun v => zi25 v ke ne se le bd self bad else kOpt (EVf (EV cfg) 239 [.bool (kt == 8)]) fun v => zi25 v ke ne se le bd self bad else bif op == [(105 : UInt8), (115 : UInt8), (95 : UInt8), (116 : UInt8), (117 : UInt8), (112 : UInt8), (108 : UInt8), (101 : UInt8)] then kOpt (EVf (EV cfg) 239 [.bool (kt == 7)]) fun v => zi25 v ke ne se le bd self bad else bif op == [(105 : UInt8), (115 : UInt8), (95 : UInt8), (112 : UInt8), (105 : UInt8), (100 : UInt8)] then kOpt (EVf (EV cfg) 239 [.bool (kt == 6)]) fun v => zi25 v ke ne se le bd self bad else bif op == [(105 : UInt8), (115 : UInt8), (95 : UInt8), (102 : UInt8), (117 : UInt8), (110 : UInt8), (99 : UInt8), (116 : UInt8), (105 : UInt8), (111 : UInt8), (110 : UInt8)] then kOpt (EVf (EV cfg) 239 [.bool (kt == 5)]) fun v => zi25 v ke ne se le bd self bad else bif op == [(105 : UInt8), (115 : UInt8), (95 : UInt8), (114 : UInt8), (101 : UInt8), (102 : UInt8), (101 : UInt8), (114 : UInt8), (101 : UInt8), (110 : UInt8), (99 : UInt8), (101 : UInt8)] then bif kt == 3 then kOpt (EVf (EV cfg) 239 [.bool true]) fun v => zi25 v ke ne se le bd self bad else kOpt (EVf (EV cfg) 239 [.bool (kt == 4)]) fun v => zi25 v ke ne se le bd self bad else bif op == [(110 : UInt8), (111 : UInt8), (116 : UInt8)] then kOpt (EVm (EV cfg) 158 [.ptr 0 0 0, .agg [.int .i64 kt, .int .i64 nt, .str st, .sl lt]] 7 [[.int .i64 ke, .int .i64 ne, .str se, .sl le, .sl bd, .int .i64 self, .bool bad]]) fun q => kMBool q.1 fun b => kOpt (EVf (EV cfg) 239 [.bool ! b]) fun v => zi33 v q else bif op == [(98 : UInt8), (110 : UInt8), (111 : UInt8), (116 : UInt8)] then kOpt (EVm (EV cfg) 241 [.ptr 0 0 0, .agg [.int .i64 kt, .int .i64 nt, .str st, .sl lt]] 7 [[.int .i64 ke, .int .i64 ne, .str se, .sl le, .sl bd, .int .i64 self, .bool bad]]) fun q => kMInt .i64 q.1 fun n => kOpt (fromSem (Op.intBits BinOp.xor .i64 (- 1) n)) fun v => kInt .i64 v fun n => zi43 n q else bif op == [(43 : UInt8)] then kOpt (EVm (EV cfg) 241 [.ptr 0 0 0, .agg [.int .i64 kt, .int .i64 nt, .str st, .sl lt]] 7 [[.int .i64 ke, .int .i64 ne, .str se, .sl le, .sl bd, .int .i64 self, .bool bad]]) fun q => kMInt .i64 q.1 fun n => zi43 n q else bif op == [(45 : UInt8)] then kOpt (EVm (EV cfg) 241 [.ptr 0 0 0, .agg [.int .i64 kt, .int .i64 nt, .str st, .sl lt]] 7 [[.int .i64 ke, .int .i64 ne, .str se, .sl le, .sl bd, .int .i64 self, .bool bad]]) fun q => kMInt .i64 q.1 fun n => kOpt (EVd (EV cfg) 240 [.ptr 0 0 0, .int .i64 (IntKind.wrap .i64 (0 - n))] 7 q.2) fun q => zi2 q else bif op == [(97 : UInt8), (98 : UInt8), (115 : UInt8)] then kOpt (EVm (EV cfg) 241 [.ptr 0 0 0, .agg [.int .i64 kt, .int .i64 nt, .str st, .sl lt]] 7 [[.int .i64 ke, .int .i64 ne, .str se, .sl le, .sl bd, .int .i64 self, .bool bad]]) fun q => kMInt .i64 q.1 fun n => kOpt (EVd (EV cfg) 240 [.ptr 0 0 0, .int .i64 (if (fun b a => decide (a < b)) (IntKind.wrap .i64 (0 - nt)) n = true then IntKind.wrap .i64 (0 - nt) else n)] 7 q.2) fun q => zi2 q else bif op == [(116 : UInt8), (117 : UInt8), (112 : UInt8), (108 : UInt8), (101 : UInt8), (95 : UInt8), (115 : UInt8), (105 : UInt8), (122 : UInt8), (101 : UInt8)] then zi44 kt ke ne se le bd self bad lt else bif op == [(115 : UInt8), (105 : UInt8), (122 : UInt8), (101 : UInt8)] then zi44 kt ke ne se le bd self bad lt else kOpt (EVd (EV cfg) 242 [.ptr 0 0 0, .str op, .agg [.int .i64 kt, .int .i64 nt, .str st, .sl lt]] 7 [[.int .i64 ke, .int .i64 ne, .str se, .sl le, .sl bd, .int .i64 self, .bool bad]]) fun q => zi2 q) P) : Gets (EVd (EV cfg) 172 ([AV.ptr (0 : Nat) (0 : Nat) (0 : Nat), AV.str op, AV.agg [AV.int IntKind.i64 kt, AV.int IntKind.i64 nt, AV.str st, AV.sl lt]] : List AV) 7 [[AV.int .i64 ke, AV.int .i64 ne, AV.str se, AV.sl le, AV.sl bd, AV.int .i64 self, AV.bool bad]]) P :=
  Gets.ev (fun _ h => funD rfl rfl Tryz.func172 rfl h) (Gets.eq (by kernel_rfl) h)
theorem mApply_run (ke ne : Int) (se : List UInt8) (le bd : List (List AV)) (self : Int) (bad : Bool) (op : List UInt8) (L : List (List AV)) {P : AV × List (List AV) → Prop} (h : Gets (bif (L.length : Int) == 1 then bif ltInt 0 (L.length : Int) then kOpt (List.get?Internal L 0) fun row => bif Nat.beq (List.length row) 4 then bif Nat.ble 4 (List.length row) then kTmC (List.take 4 row) fun n n_1 s rows => (kOpt (EVd (EV cfg) 172 [.ptr 0 0 0, .str op, .agg [.int .i64 n, .int .i64 n_1, .str s, .sl rows]] 7 [[.int .i64 ke, .int .i64 ne, .str se, .sl le, .sl bd, .int .i64 self, .bool bad]]) fun q => kTmV q.1 fun n n_2 s rows => (some (.agg [.int .i64 n, .int .i64 n_2, .str s, .sl rows], q.2))) else none else none else none else bif (L.length : Int) == 2 then bif ltInt 0 (L.length : Int) then kOpt (List.get?Internal L 0) fun row => bif Nat.beq (List.length row) 4 then bif Nat.ble 4 (List.length row) then kTmC (List.take 4 row) fun n n_1 s rows => (bif ltInt 1 (L.length : Int) then kOpt (List.get?Internal L 1) fun row => bif Nat.beq (List.length row) 4 then bif Nat.ble 4 (List.length row) then kTmC (List.take 4 row) fun n_2 n_3 s_1 rows_1 => (kOpt (EVd (EV cfg) 173 [.ptr 0 0 0, .str op, .agg [.int .i64 n, .int .i64 n_1, .str s, .sl rows], .agg [.int .i64 n_2, .int .i64 n_3, .str s_1, .sl rows_1]] 7 [[.int .i64 ke, .int .i64 ne, .str se, .sl le, .sl bd, .int .i64 self, .bool bad]]) fun q => kTmV q.1 fun n n_4 s rows => (some (.agg [.int .i64 n, .int .i64 n_4, .str s, .sl rows], q.2))) else none else none else none) else none else none else none else some (.agg [.int .i64 6, .int .i64 self, .str [], .sl []], [[.int .i64 ke, .int .i64 ne, .str se, .sl le, .sl bd, .int .i64 self, .bool bad]])) P) : Gets (EVd (EV cfg) 92 ([AV.ptr (0 : Nat) (0 : Nat) (0 : Nat), AV.str op, AV.sl L] : List AV) 7 [[AV.int .i64 ke, AV.int .i64 ne, AV.str se, AV.sl le, AV.sl bd, AV.int .i64 self, AV.bool bad]]) P :=
  Gets.ev (fun _ h => funD rfl rfl Tryz.func92 rfl h) (Gets.eq (by kernel_rfl) h)
theorem wg65_0_step (A : List (List AV)) (n v8 : Int) {P : AV → Prop} (h : Gets (bif decide (v8 < (A.length : Int)) then bif leInt 0 v8 && ltInt v8 (A.length : Int) then kOpt (List.get?Internal A (v8.toNat)) fun row => bif Nat.beq (List.length row) 1 then kOpt (List.get?Internal row 0) fun v => kInt .i64 v fun n_1 => bif n == n_1 then some (.int .i64 v8) else wg65_0 A n (IntKind.wrap .i64 (v8 + 1)) else none else none else some (.int .i64 (- 1))) P) : Gets (wg65_0 A n v8) P :=
  Gets.ev (fun _ h => loop_step (cfg := cfg) (f := 168) (rd := none) (bs := 0) h) (Gets.eq (by kernel_rfl) h)
end Go.Proofs.YtkgkjngbfdnoiaaGreat
end

section
namespace Go.Proofs.YtkgkjngbfdnoiaaGreat
open Go.Av
theorem mRaise_ev (e : Env) (b : Bool) : EVd (EV cfg) 233 [.ptr 0 0 0] 7 (mR e b) = some (zeroT.av, mR e true) := by
 apply Gets.get
 refine mRaise_run _ _ _ _ _ _ _ ?_
 rw [zeroT_av]
 simp
theorem mNumber_ev (e : Env) (b : Bool) (n : Int) : EVd (EV cfg) 240 [.ptr 0 0 0, .int .i64 n] 7 (mR e b) = some (if InB n then ((numT n).av, mR e b) else (zeroT.av, mR e true)) := by
 have hr := mRaise_ev e b
 apply Gets.get
 refine mNumber_run _ _ _ _ _ _ _ _ ?_
 unfold zi1 zi2 zi3
 simp only [hr]
 unfold InB
 rw [numT_av]
 by_cases h1 : n < -576460752303423488
 ·have : ¬ (-576460752303423488 ≤ n ∧ n ≤ 576460752303423487) := by omega
  simp [h1, this]
 ·by_cases h2 : n > 576460752303423487
  ·have : ¬ (-576460752303423488 ≤ n ∧ n ≤ 576460752303423487) := by omega
   simp [h1, h2, this]
  ·have : (-576460752303423488 ≤ n ∧ n ≤ 576460752303423487) := by omega
   simp [h1, h2, this]
theorem mNumber_within (e : Env) (n : Int) {P : AV × List (List AV) → Prop} (h : ∀ r, Res e (withinG n) r → (∃ t : Tm, r.1 = t.av) → P r) : Gets (EVd (EV cfg) 240 [.ptr 0 0 0, .int .i64 n] 7 (mR e false)) P := by
 rw [mNumber_ev]
 refine ⟨_, rfl, h _ ?_ ?_⟩
 ·unfold withinG Res
  by_cases hb : InB n
  ·simp [hb]
  ·simp [hb]; exact ⟨_, rfl⟩
 ·by_cases hb : InB n
  ·exact ⟨numT n, by simp [hb]⟩
  ·exact ⟨zeroT, by simp [hb]⟩
theorem mNumbers_bad (e : Env) (op : List UInt8) (a b : Int) : EVd (EV cfg) 243 [.ptr 0 0 0, .str op, .int .i64 a, .int .i64 b] 7 (mR e true) = some (zeroT.av, mR e true) := by
 apply Gets.get
 refine mNumbers_run _ _ _ _ _ _ _ _ _ _ ?_
 unfold zi22 zi23 zi1 zi2 zi3
 rw [zeroT_av]; simp
def ProductOk : Prop := ∀ (e : Env) (a b : Int), InB a → InB b → Gets (EVd (EV cfg) 294 [.ptr 0 0 0, .int .i64 a, .int .i64 b] 7 (mR e false)) (Res e (withinG (a * b)))
theorem ret_res {e : Env} {o : Option Tm} {r : AV × List (List AV)} (h : Res e o r) (ht : ∃ t : Tm, r.1 = t.av) : Gets (kTmV r.1 fun (n n_1 : Int) (s : List UInt8) (rows : List (List AV)) => some (AV.agg [.int .i64 n, .int .i64 n_1, .str s, .sl rows], r.2)) (Res e o) := by
 obtain ⟨t, ht⟩ := ht
 rw [ht, kTmV_av]
 refine ⟨_, rfl, ?_⟩
 have : (AV.agg [.int .i64 t.kind, .int .i64 t.num, .str t.str, .sl (rowsT t.subs)], r.2) = r := by
  rw [← Tm.cells_eq]; exact Prod.ext ht.symm rfl
 rw [this]; exact h
theorem Res_tm {e : Env} {o : Option Tm} {r : AV × List (List AV)} (h : Res e o r) : ∃ t : Tm, r.1 = t.av := by
 unfold Res at h
 split at h
 ·exact ⟨_, by rw [h]⟩
 ·exact h.2
theorem mNumbers_ev (e : Env) (op : List UInt8) {a b : Int} (ha : InB a) (hb : InB b) (hp : op = [42] → ProductOk) : Gets (EVd (EV cfg) 243 [.ptr 0 0 0, .str op, .int .i64 a, .int .i64 b] 7 (mR e false)) (Res e (numbersG op a b)) := by
 have num : ∀ n, Gets (kOpt (EVd (EV cfg) 240 [.ptr 0 0 0, .int .i64 n] 7 (mR e false)) fun q => kTmV q.1 fun (n n_1 : Int) (s : List UInt8) (rows : List (List AV)) => some (AV.agg [.int .i64 n, .int .i64 n_1, .str s, .sl rows], q.2)) (Res e (withinG n)) :=
  fun n => Gets.bind (mNumber_within e n fun r h1 h2 => h1) fun r h => ret_res h (Res_tm h)
 refine mNumbers_run _ _ _ _ _ _ _ _ _ _ ?_
 unfold zi22 zi23 zi1 zi2 zi3
 have ha' := ha
 have hb' := hb
 obtain ⟨a1, a2⟩ := ha
 obtain ⟨b1, b2⟩ := hb
 simp only [beqS, beqD, cond_false]
 unfold numbersG
 by_cases h1 : op = [43]
 ·rw [if_pos h1, decide_eq_true h1, cond_true, wrap64 (by omega) (by omega)]; exact num _
 rw [if_neg h1, decide_eq_false h1, cond_false]
 by_cases h2 : op = [45]
 ·rw [if_pos h2, decide_eq_true h2, cond_true, wrap64 (by omega) (by omega)]; exact num _
 rw [if_neg h2, decide_eq_false h2, cond_false]
 by_cases h3 : op = [42]
 ·rw [if_pos h3, decide_eq_true h3, cond_true]
  exact Gets.bind (hp h3 e a b ha' hb') fun r h => ret_res h (Res_tm h)
 rw [if_neg h3, decide_eq_false h3, cond_false]
 by_cases h4 : op = [98, 97, 110, 100]
 ·rw [if_pos h4, decide_eq_true h4, cond_true, bvG_and ha' hb']; simp only [kOptSome, kInt_int]; exact num _
 rw [if_neg h4, decide_eq_false h4, cond_false]
 by_cases h5 : op = [98, 111, 114]
 ·rw [if_pos h5, decide_eq_true h5, cond_true, bvG_or ha' hb']; simp only [kOptSome, kInt_int]; exact num _
 rw [if_neg h5, decide_eq_false h5, cond_false]
 by_cases h6 : op = [98, 120, 111, 114]
 ·rw [if_pos h6, decide_eq_true h6, cond_true, bvG_xor ha' hb']; simp only [kOptSome, kInt_int]; exact num _
 rw [if_neg h6, decide_eq_false h6, cond_false]
 by_cases h7 : b = 0
 ·rw [if_pos h7, decide_eq_true h7, cond_true, mRaise_ev]
  simp only [kOptSome, kTmV_av]
  exact ⟨_, rfl, rfl, zeroT, by rw [Tm.av, Tm.cells_eq]⟩
 rw [if_neg h7, decide_eq_false h7, cond_false, intDiv_quo h7, intDiv_rem h7]
 by_cases h8 : op = [100, 105, 118]
 ·have := tdiv_abs (a := a) h7
  rw [if_pos h8, decide_eq_true h8, cond_true, wrap64 (by omega) (by omega)]; simp only [kOptSome, kInt_int]; exact num _
 ·rw [if_neg h8, decide_eq_false h8, cond_false]; simp only [kOptSome, kInt_int]; exact num _
end Go.Proofs.YtkgkjngbfdnoiaaGreat
end

section
namespace Go.Proofs.YtkgkjngbfdnoiaaGreat
open Go.Av
set_option maxRecDepth 100000
set_option maxHeartbeats 0

noncomputable def Lq62_0 : Den := evC cfg (EV cfg) 219 none 0 (sub (bodyOf Tryz.f219) [1, 1, 0, 1, 0, 0])
noncomputable def Aq62_0 : Ex × List AV × AH → Option AV := kAft (Cfg.keepOut cfg 219 3) (kRun cfg (EV cfg) (kfN cfg 6) 219 none 0 (kFinS cfg (Cfg.lift cfg 219 0) Tryz.f219.results.toList) ([.block 0, .seq (sub (bodyOf Tryz.f219) [1, 1, 1])]))
noncomputable def Wq62_0 : List AV × AH → Option AV := fun p => kOpt (LOOP 0 (some [3, 6, 7, 8]) ([]) Lq62_0 p) Aq62_0
noncomputable def Lq97_0 : Den := evC cfg (EV cfg) 150 none 0 (sub (bodyOf Tryz.f150) [1, 0, 1, 0, 0])
noncomputable def Aq97_0 : Ex × List AV × AH → Option AV := kAft (Cfg.keepOut cfg 150 2) (kRun cfg (EV cfg) (kfN cfg 6) 150 none 0 (kFinS cfg (Cfg.lift cfg 150 0) Tryz.f150.results.toList) ([.block 0, .seq (sub (bodyOf Tryz.f150) [1, 1])]))
noncomputable def Wq97_0 : List AV × AH → Option AV := fun p => kOpt (LOOP 0 (some [0, 1, 2, 11, 12, 13]) ([]) Lq97_0 p) Aq97_0
noncomputable def Lq15_0 : Den := evC cfg (EV cfg) 134 none 0 (sub (bodyOf Tryz.f134) [1, 0, 1, 0, 0])
noncomputable def Aq15_0 : Ex × List AV × AH → Option AV := kAft (Cfg.keepOut cfg 134 1) (kRun cfg (EV cfg) (kfN cfg 6) 134 none 0 (kFinS cfg (Cfg.lift cfg 134 0) Tryz.f134.results.toList) ([.block 0, .scope]))
noncomputable def Wq15_0 : List AV × AH → Option AV := fun p => kOpt (LOOP 0 (some [2, 3]) ([]) Lq15_0 p) Aq15_0
noncomputable abbrev wq62_0 (a b c v8 : Int) : Option (AV) := Wq62_0  (((fx 18 [(3, .int .i64 (0 : Int)), (6, .sl [[.int .i64 a], [.int .i64 b], [.int .i64 c]]), (7, .int .i64 (3 : Int)), (8, .int .i64 v8)]) : List AV), ([] : AH))
noncomputable abbrev wq62_0a (a b v8 : Int) : Option (AV) := Wq62_0  (((fx 18 [(3, .int .i64 (0 : Int)), (6, .sl [[.int .i64 a], [.int .i64 b]]), (7, .int .i64 (2 : Int)), (8, .int .i64 v8)]) : List AV), ([] : AH))
noncomputable abbrev wq97_0 (A B : List (List AV)) (v13 : Int) : Option (AV) := Wq97_0  (((fx 39 [(0, .sl A), (1, .sl B), (2, .fn (Fn.func 134) [] []), (11, .sl A), (12, .int .i64 (A.length : Int)), (13, .int .i64 v13)]) : List AV), ([] : AH))
noncomputable abbrev wq15_0 (c0_0 c0_1 : Int) (c0_2 : List UInt8) (c0_3 : List (List AV)) (c1_0 c1_1 : Int) (c1_2 : List UInt8) (c1_3 : List (List AV)) : Option (AV) := Wq15_0  (((fx 117 [(2, .ptr 0 0 0), (3, .ptr 1 0 0)]) : List AV), ([.rows false 4 [[.int .i64 c0_0, .int .i64 c0_1, .str c0_2, .sl c0_3]], .rows false 4 [[.int .i64 c1_0, .int .i64 c1_1, .str c1_2, .sl c1_3]]] : AH))
theorem cmpI_run (a b : Int) {P : AV → Prop} (h : Gets (kOpt (EVs (EV cfg) 226 [.int .i64 a]) fun v => kBool v fun b_1 => kOpt (EVs (EV cfg) 226 [.int .i64 b]) fun v => kBool v fun b_2 => bif b_1 then bif b_2 then some (.int .i64 0) else some (.int .i64 (- 1)) else bif b_2 then some (.int .i64 1) else bif decide (a < b) then some (.int .i64 (- 1)) else bif decide (a > b) then some (.int .i64 1) else some (.int .i64 0)) P) : Gets (EVs (EV cfg) 149 ([AV.int IntKind.i64 a, AV.int IntKind.i64 b] : List AV)) P :=
  Gets.ev (fun _ h => funS rfl rfl Tryz.func149 rfl h) (Gets.eq (by kernel_rfl) h)
theorem cmpSt_run (a b : List UInt8) {P : AV → Prop} (h : Gets (kOpt (EVs (EV cfg) 287 [.str a, .str b]) fun v => kInt .i64 v fun n => some (.int .i64 n)) P) : Gets (EVs (EV cfg) 218 ([AV.str a, AV.str b] : List AV)) P :=
  Gets.ev (fun _ h => funS rfl rfl Tryz.func218 rfl h) (Gets.eq (by kernel_rfl) h)
theorem or3_run (a b c : Int) {P : AV → Prop} (h : Gets (wq62_0 a b c 0) P) : Gets (EVs (EV cfg) 219 ([AV.sl [[AV.int IntKind.i64 a], [AV.int IntKind.i64 b], [AV.int IntKind.i64 c]]] : List AV)) P :=
  Gets.ev (fun _ h => funS rfl rfl Tryz.func219 rfl h) (Gets.eq (by kernel_rfl) h)
theorem or2_run (a b : Int) {P : AV → Prop} (h : Gets (wq62_0a a b 0) P) : Gets (EVs (EV cfg) 219 ([AV.sl [[AV.int IntKind.i64 a], [AV.int IntKind.i64 b]]] : List AV)) P :=
  Gets.ev (fun _ h => funS rfl rfl Tryz.func219 rfl h) (Gets.eq (by kernel_rfl) h)
theorem cmpFunc_run (A B : List (List AV)) {P : AV → Prop} (h : Gets (wq97_0 A B 0) P) : Gets (EVs (EV cfg) 150 ([AV.sl A, AV.sl B, AV.fn (Fn.func 134) [] []] : List AV)) P :=
  Gets.ev (fun _ h => funS rfl rfl Tryz.func150 rfl h) (Gets.eq (by kernel_rfl) h)
theorem isNaNI_run (a : Int) {P : AV → Prop} (h : Gets (some (.bool (a != a))) P) : Gets (EVs (EV cfg) 226 ([AV.int IntKind.i64 a] : List AV)) P :=
  Gets.ev (fun _ h => funS rfl rfl Tryz.func226 rfl h) (Gets.eq (by kernel_rfl) h)
theorem cmpStr_run (a b : List UInt8) {P : AV → Prop} (h : Gets (kOpt (EVs (EV cfg) 308 [.str a, .str b]) fun v => kInt .i64 v fun n => some (.int .i64 n)) P) : Gets (EVs (EV cfg) 287 ([AV.str a, AV.str b] : List AV)) P :=
  Gets.ev (fun _ h => funS rfl rfl Tryz.func287 rfl h) (Gets.eq (by kernel_rfl) h)
theorem order_lists_run (A B : List (List AV)) {P : AV → Prop} (h : Gets (kOpt (EVs (EV cfg) 150 [.sl A, .sl B, AV.fn (Fn.func 134) [] []]) fun v => kInt .i64 v fun n => some (.int .i64 n)) P) : Gets (EVs (EV cfg) 220 ([AV.sl A, AV.sl B] : List AV)) P :=
  Gets.ev (fun _ h => funS rfl rfl Tryz.func220 rfl h) (Gets.eq (by kernel_rfl) h)
theorem oCompare_run (ka na : Int) (sa : List UInt8) (la : List (List AV)) (kb nb : Int) (sb : List UInt8) (lb : List (List AV)) {P : AV → Prop} (h : Gets (wq15_0 ka na sa la kb nb sb lb) P) : Gets (EVs (EV cfg) 134 ([AV.agg [AV.int IntKind.i64 ka, AV.int IntKind.i64 na, AV.str sa, AV.sl la], AV.agg [AV.int IntKind.i64 kb, AV.int IntKind.i64 nb, AV.str sb, AV.sl lb]] : List AV)) P :=
  Gets.ev (fun _ h => funS rfl rfl Tryz.func134 rfl h) (Gets.eq (by kernel_rfl) h)
theorem wq62_0_step (a b c v8 : Int) {P : AV → Prop} (h : Gets (bif decide (v8 < 3) then bif leInt 0 v8 && ltInt v8 (↑ 3 : Int) then kOpt (List.get?Internal [[.int .i64 a], [.int .i64 b], [.int .i64 c]] (v8.toNat)) fun row => bif Nat.beq (List.length row) 1 then kOpt (List.get?Internal row 0) fun v => kInt .i64 v fun n => bif n != 0 then some (.int .i64 n) else wq62_0 a b c (IntKind.wrap .i64 (v8 + 1)) else none else none else some (.int .i64 0)) P) : Gets (wq62_0 a b c v8) P :=
  Gets.ev (fun _ h => loop_step (cfg := cfg) (f := 219) (rd := none) (bs := 0) h) (Gets.eq (by kernel_rfl) h)
theorem wq62_0a_step (a b v8 : Int) {P : AV → Prop} (h : Gets (bif decide (v8 < 2) then bif leInt 0 v8 && ltInt v8 (↑ 2 : Int) then kOpt (List.get?Internal [[.int .i64 a], [.int .i64 b]] (v8.toNat)) fun row => bif Nat.beq (List.length row) 1 then kOpt (List.get?Internal row 0) fun v => kInt .i64 v fun n => bif n != 0 then some (.int .i64 n) else wq62_0a a b (IntKind.wrap .i64 (v8 + 1)) else none else none else some (.int .i64 0)) P) : Gets (wq62_0a a b v8) P :=
  Gets.ev (fun _ h => loop_step (cfg := cfg) (f := 219) (rd := none) (bs := 0) h) (Gets.eq (by kernel_rfl) h)
theorem wq97_0_step (A B : List (List AV)) (v13 : Int) {P : AV → Prop} (h : Gets (bif decide (v13 < (A.length : Int)) then bif leInt 0 v13 && ltInt v13 (A.length : Int) then kOpt (List.get?Internal A (v13.toNat)) fun row => bif Nat.beq (List.length row) 4 then bif Nat.ble 4 (List.length row) then kTmC (List.take 4 row) fun n n_1 s rows => (bif decide (v13 ≥ (↑ (List.length B) : Int)) then some (.int .i64 1) else bif leInt 0 v13 && ltInt v13 (B.length : Int) then kOpt (List.get?Internal B (v13.toNat)) fun row => bif Nat.beq (List.length row) 4 then bif Nat.ble 4 (List.length row) then kTmC (List.take 4 row) fun n_2 n_3 s_1 rows_1 => (kOpt (EVs (EV cfg) 134 [.agg [.int .i64 n, .int .i64 n_1, .str s, .sl rows], .agg [.int .i64 n_2, .int .i64 n_3, .str s_1, .sl rows_1]]) fun v => kInt .i64 v fun n => bif n != 0 then some (.int .i64 n) else wq97_0 A B (IntKind.wrap .i64 (v13 + 1))) else none else none else none) else none else none else none else bif decide ((A.length : Int) < (B.length : Int)) then some (.int .i64 (- 1)) else some (.int .i64 0)) P) : Gets (wq97_0 A B v13) P :=
  Gets.ev (fun _ h => loop_step (cfg := cfg) (f := 150) (rd := none) (bs := 0) h) (Gets.eq (by kernel_rfl) h)
noncomputable abbrev zj0 (c0_1 c1_1 : Int) : Option (AV) := kOpt (EVs (EV cfg) 149 [.int .i64 c0_1, .int .i64 c1_1]) fun v => kInt .i64 v fun n => some (.int .i64 n)
noncomputable abbrev zj5 (n n_1 : Int) : Option (AV) := kOpt (EVs (EV cfg) 219 [.sl [[.int .i64 n], [.int .i64 n_1]]]) fun v => kInt .i64 v fun n => some (.int .i64 n)
noncomputable abbrev zj4 (v : AV) (n : Int) : Option (AV) := kInt .i64 v fun n_1 => zj5 n n_1
noncomputable abbrev zj3 (c0_3 c1_3 : List (List AV)) (n : Int) : Option (AV) := kOpt (EVs (EV cfg) 220 [.sl c0_3, .sl c1_3]) fun v => zj4 v n
noncomputable abbrev zj2 (v : AV) (c0_3 c1_3 : List (List AV)) : Option (AV) := kInt .i64 v fun n => zj3 c0_3 c1_3 n
noncomputable abbrev zj1 (c0_3 c1_3 : List (List AV)) : Option (AV) := kOpt (EVs (EV cfg) 149 [.int .i64 (c0_3.length : Int), .int .i64 (↑ (List.length c1_3) : Int)]) fun v => zj2 v c0_3 c1_3
theorem wq15_0_step (c0_0 c0_1 : Int) (c0_2 : List UInt8) (c0_3 : List (List AV)) (c1_0 c1_1 : Int) (c1_2 : List UInt8) (c1_3 : List (List AV)) {P : AV → Prop} (h : Gets (kOpt (EVs (EV cfg) 149 [.int .i64 c0_0, .int .i64 c1_0]) fun v => kInt .i64 v fun n => bif n != 0 then some (.int .i64 n) else bif c0_0 == 1 then zj0 c0_1 c1_1 else bif c0_0 == 3 then zj0 c0_1 c1_1 else bif c0_0 == 4 then zj0 c0_1 c1_1 else bif c0_0 == 6 then zj0 c0_1 c1_1 else bif c0_0 == 2 then kOpt (EVs (EV cfg) 218 [.str c0_2, .str c1_2]) fun v => kInt .i64 v fun n => some (.int .i64 n) else bif c0_0 == 5 then kOpt (EVs (EV cfg) 149 [.int .i64 c0_1, .int .i64 c1_1]) fun v => kInt .i64 v fun n => kOpt (EVs (EV cfg) 149 [.int .i64 (c0_3.length : Int), .int .i64 (c1_3.length : Int)]) fun v => kInt .i64 v fun n_1 => kOpt (EVs (EV cfg) 220 [.sl c0_3, .sl c1_3]) fun v => kInt .i64 v fun n_2 => kOpt (EVs (EV cfg) 219 [.sl [[.int .i64 n], [.int .i64 n_1], [.int .i64 n_2]]]) fun v => kInt .i64 v fun n => some (.int .i64 n) else bif c0_0 == 9 then bif (↑ (List.length c0_3) : Int) == 2 then bif (c1_3.length : Int) == 2 then bif ltInt 0 (c0_3.length : Int) then kOpt (List.get?Internal c0_3 0) fun row => bif Nat.beq (List.length row) 4 then bif Nat.ble 4 (List.length row) then kTmC (List.take 4 row) fun n n_1 s rows => (bif ltInt (0 : Int) (c1_3.length : Int) then kOpt (List.get?Internal c1_3 0) fun row => bif Nat.beq (List.length row) 4 then bif Nat.ble 4 (List.length row) then kTmC (List.take 4 row) fun n_2 n_3 s_1 rows_1 => (kOpt (EVs (EV cfg) 134 [.agg [.int .i64 n, .int .i64 n_1, .str s, .sl rows], .agg [.int .i64 n_2, .int .i64 n_3, .str s_1, .sl rows_1]]) fun v => kInt .i64 v fun n => bif n != 0 then some (.int .i64 n) else bif ltInt 1 (c0_3.length : Int) then kOpt (List.get?Internal c0_3 1) fun row => bif Nat.beq (List.length row) 4 then bif Nat.ble 4 (List.length row) then kTmC (List.take 4 row) fun n n_4 s rows => (bif ltInt 1 (c1_3.length : Int) then kOpt (List.get?Internal c1_3 1) fun row => bif Nat.beq (List.length row) 4 then bif Nat.ble 4 (List.length row) then kTmC (List.take 4 row) fun n_5 n_6 s_2 rows_2 => (wq15_0 n n_4 s rows n_5 n_6 s_2 rows_2) else none else none else none) else none else none else none) else none else none else none) else none else none else none else zj1 c0_3 c1_3 else zj1 c0_3 c1_3 else bif c0_0 == 7 then kOpt (EVs (EV cfg) 149 [.int .i64 (c0_3.length : Int), .int .i64 (c1_3.length : Int)]) fun v => zj2 v c0_3 c1_3 else some (.int .i64 0)) P) : Gets (wq15_0 c0_0 c0_1 c0_2 c0_3 c1_0 c1_1 c1_2 c1_3) P :=
  Gets.ev (fun _ h => loop_step (cfg := cfg) (f := 134) (rd := none) (bs := 0) h) (Gets.eq (by kernel_rfl) h)
end Go.Proofs.YtkgkjngbfdnoiaaGreat
end

section
namespace Go.Proofs.YtkgkjngbfdnoiaaGreat
open Go.Av
set_option maxRecDepth 100000

theorem isNaN_ev (a : Int) : EVs (EV cfg) 226 [.int .i64 a] = some (.bool false) := by
 apply Gets.get
 refine isNaNI_run _ ?_
 simp
theorem cmp_ev (a b : Int) : EVs (EV cfg) 149 [.int .i64 a, .int .i64 b] = some (.int .i64 (numC a b)) := by
 apply Gets.get
 refine cmpI_run _ _ ?_
 rw [isNaN_ev, isNaN_ev]
 unfold numC
 by_cases h1 : a < b
 ·simp [h1]
 ·by_cases h2 : b < a
  ·simp [h1, h2]
  ·simp [h1, h2]
theorem cmpstr_ev (a b : List UInt8) : EVs (EV cfg) 308 [.str a, .str b] = some (.int .i64 (strC a b)) := by
 refine EVs_of (H := []) (EV_of ?_)
 have hx : cfg.ext 308 = some extCmp := rfl
 unfold evBody
 simp only [hx]
 unfold extCmp strC
 by_cases h : a = b
 ·simp [h]
 ·simp [h]
theorem strCmp_ev (a b : List UInt8) : EVs (EV cfg) 218 [.str a, .str b] = some (.int .i64 (strC a b)) := by
 have h96 : EVs (EV cfg) 287 [.str a, .str b] = some (.int .i64 (strC a b)) := by
  apply Gets.get
  refine cmpStr_run _ _ ?_
  rw [cmpstr_ev]; simp
 apply Gets.get
 refine cmpSt_run _ _ ?_
 rw [h96]; simp
theorem or3_ev (a b c : Int) : EVs (EV cfg) 219 [.sl [[.int .i64 a], [.int .i64 b], [.int .i64 c]]] = some (.int .i64 (if a ≠ 0 then a else if b ≠ 0 then b else c)) := by
 apply Gets.get
 refine or3_run _ _ _ ?_
 have w1 : IntKind.wrap .i64 (0 + 1) = 1 := wrap64 (by omega) (by omega)
 have w2 : IntKind.wrap .i64 (1 + 1) = 2 := wrap64 (by omega) (by omega)
 have w3 : IntKind.wrap .i64 (2 + 1) = 3 := wrap64 (by omega) (by omega)
 have s3 : Gets (wq62_0 a b c 3) (· = .int .i64 0) := by
  refine wq62_0_step _ _ _ _ ?_
  simp
 have s2 : Gets (wq62_0 a b c 2) (· = .int .i64 c) := by
  refine wq62_0_step _ _ _ _ ?_
  rw [w3]
  by_cases h : c = 0
  ·subst h; simp; exact s3
  ·simp [bneD, h]
 have s1 : Gets (wq62_0 a b c 1) (· = .int .i64 (if b ≠ 0 then b else c)) := by
  refine wq62_0_step _ _ _ _ ?_
  rw [w2]
  by_cases h : b = 0
  ·subst h; simp; exact s2
  ·simp [bneD, h]
 refine wq62_0_step _ _ _ _ ?_
 rw [w1]
 by_cases h : a = 0
 ·subst h; simp only [ne_eq, ite_not] at s1; simp; exact s1
 ·simp [bneD, h]
theorem or2_ev (a b : Int) : EVs (EV cfg) 219 [.sl [[.int .i64 a], [.int .i64 b]]] = some (.int .i64 (if a ≠ 0 then a else b)) := by
 apply Gets.get
 refine or2_run _ _ ?_
 have w1 : IntKind.wrap .i64 (0 + 1) = 1 := wrap64 (by omega) (by omega)
 have w2 : IntKind.wrap .i64 (1 + 1) = 2 := wrap64 (by omega) (by omega)
 have s2 : Gets (wq62_0a a b 2) (· = .int .i64 0) := by
  refine wq62_0a_step _ _ _ ?_
  simp
 have s1 : Gets (wq62_0a a b 1) (· = .int .i64 b) := by
  refine wq62_0a_step _ _ _ ?_
  rw [w2]
  by_cases h : b = 0
  ·subst h; simp; exact s2
  ·simp [bneD, h]
 refine wq62_0a_step _ _ _ ?_
 rw [w1]
 by_cases h : a = 0
 ·subst h; simp; exact s1
 ·simp [bneD, h]
theorem drop_get {β : Type} {l : List β} {i : Nat} {x : β} (h : l[i]? = some x) : l.drop i = x :: l.drop (i + 1) := by
 obtain ⟨h1, h2⟩ := List.getElem?_eq_some_iff.1 h
 rw [← h2]; exact List.drop_eq_getElem_cons h1

theorem dropNil {β : Type} {l : List β} {i : Nat} (h : l.length ≤ i) : l.drop i = [] := List.drop_eq_nil_of_le h

theorem listsE_of (la lb : List Tm) (hlen : la.length < 1099511627776) (ih : ∀ a ∈ la, ∀ b ∈ lb, EVs (EV cfg) 134 [a.av, b.av] = some (.int .i64 (cmpT a b))) :
  EVs (EV cfg) 150 [.sl (rowsT la), .sl (rowsT lb), .fn (.func 134) [] []] = some (.int .i64 (cmpE la lb)) := by
 have loop : ∀ (d i : Nat), i + d = la.length → Gets (wq97_0 (rowsT la) (rowsT lb) i) (· = .int .i64 (cmpE (la.drop i) (lb.drop i))) := by
  intro d
  induction d with
  | zero =>
   intro i hi
   refine wq97_0_step _ _ _ ?_
   rw [dropNil (l := la) (by omega)]
   by_cases h : i < lb.length
   ·obtain ⟨y, hy⟩ : ∃ y, lb[i]? = some y := ⟨_, List.getElem?_eq_getElem h⟩
    rw [drop_get hy, cmpE_nil_cons]
    simp [show ¬ i < la.length by omega, show la.length < lb.length by omega]
   ·rw [dropNil (l := lb) (by omega), cmpE_nil]
    simp [show ¬ i < la.length by omega, show ¬ la.length < lb.length by omega]
  | succ d ihd =>
   intro i hi
   refine wq97_0_step _ _ _ ?_
   obtain ⟨x, hx⟩ : ∃ x, la[i]? = some x := ⟨_, List.getElem?_eq_getElem (by omega)⟩
   rw [drop_get hx]
   by_cases h : i < lb.length
   ·obtain ⟨y, hy⟩ : ∃ y, lb[i]? = some y := ⟨_, List.getElem?_eq_getElem h⟩
    have hix := ih x (List.mem_of_getElem? hx) y (List.mem_of_getElem? hy)
    have hih := ihd (i + 1) (by omega)
    rw [drop_get hy, cmpE_cons]
    obtain ⟨k, n, s, l⟩ := x
    obtain ⟨k', n', s', l'⟩ := y
    simp only [get?Internal_eq, Int.toNat_natCast, rowsT_some hx, rowsT_some hy]
    simp [show i < la.length by omega, h, show ¬ lb.length ≤ i by omega, hix, bneD]
    by_cases hc : cmpT (.mk k n s l) (.mk k' n' s' l') = 0
    ·simp [hc]; rw [wrap_succ (n := la.length) (by omega) hlen]; exact hih
    ·simp [hc]
   ·rw [dropNil (l := lb) (by omega), cmpE_cons_nil]
    obtain ⟨k, n, s, l⟩ := x
    simp only [get?Internal_eq, Int.toNat_natCast, rowsT_some hx]
    simp [show i < la.length by omega, show lb.length ≤ i by omega]
 apply Gets.get
 refine cmpFunc_run _ _ ?_
 exact loop la.length 0 (by omega)

theorem lists_of (la lb : List Tm) (hlen : la.length < 1099511627776) (ih : ∀ a ∈ la, ∀ b ∈ lb, EVs (EV cfg) 134 [a.av, b.av] = some (.int .i64 (cmpT a b))) :
  EVs (EV cfg) 220 [.sl (rowsT la), .sl (rowsT lb)] = some (.int .i64 (cmpE la lb)) := by
 apply Gets.get
 refine order_lists_run _ _ ?_
 rw [listsE_of la lb hlen ih]
 simp

theorem compare_loop (a : Tm) : a.Ok → ∀ (kb nb : Int) (sb : List UInt8) (lb : List Tm), (Tm.mk kb nb sb lb).Ok → Gets (wq15_0 a.kind a.num a.str (rowsT a.subs) kb nb sb (rowsT lb)) (· = .int .i64 (cmpT a (.mk kb nb sb lb))) := by
 induction a using Tm.ind with
 | _ k n s l ih =>
  intro hok kb nb sb lb hokb
  have ihe : ∀ a ∈ l, ∀ b ∈ lb, EVs (EV cfg) 134 [a.av, b.av] = some (.int .i64 (cmpT a b)) := by
   intro a ha b hb
   have := ih a ha (hok.sub ha)
   have hob := hokb.sub hb
   obtain ⟨k1, n1, s1, l1⟩ := a
   obtain ⟨k2, n2, s2, l2⟩ := b
   rw [Tm.av_mk, Tm.av_mk]
   apply Gets.get
   exact oCompare_run _ _ _ _ _ _ _ _ (this k2 n2 s2 l2 hob)
  have hlists := lists_of l lb hok.len ihe
  rw [cmpT_eq]
  refine wq15_0_step _ _ _ _ _ _ _ _ ?_
  unfold zj1 zj2 zj3 zj4 zj5 zj0
  simp only [Tm.kind, Tm.num, Tm.str, Tm.subs, cmp_ev, strCmp_ev, hlists, or2_ev, or3_ev, rowsT_length, kOptSome, kInt_int, bneD, beqD]
  by_cases h0 : ¬ numC k kb = 0
  ·simp [h0]
  have h0 : numC k kb = 0 := Classical.not_not.1 h0
  simp [h0]
  by_cases h1 : k = 1
  ·simp [h1]
  by_cases h3 : k = 3
  ·simp [h3]
  by_cases h4 : k = 4
  ·simp [h4]
  by_cases h6 : k = 6
  ·simp [h6]
  by_cases h2 : k = 2
  ·simp [h2]
  by_cases h5 : k = 5
  ·simp [h5, cmpL]
  by_cases h9 : k = 9
  ·subst h9
   by_cases hl : l.length = 2
   ·by_cases hl' : lb.length = 2
    ·obtain ⟨x, y, rfl⟩ : ∃ x y, l = [x, y] := by
      match l, hl with
      | [x, y], _ => exact ⟨x, y, rfl⟩
     obtain ⟨x', y', rfl⟩ : ∃ x y, lb = [x, y] := by
      match lb, hl' with
      | [x, y], _ => exact ⟨x, y, rfl⟩
     have hx := ihe x (by simp) x' (by simp)
     have hy := ih y (by simp) (hok.sub (by simp))
     have hoy := hokb.sub (t := y') (by simp)
     have hcl : cmpL [x, y] [x', y'] = if cmpT x x' ≠ 0 then cmpT x x' else cmpT y y' := by
      unfold cmpL
      rw [cmpE_cons, cmpE_cons, cmpE_nil]
      by_cases e1 : cmpT x x' = 0 <;> by_cases e2 : cmpT y y' = 0 <;> simp [numC_self, e1, e2]
     obtain ⟨k1, n1, s1, l1⟩ := x
     obtain ⟨k2, n2, s2, l2⟩ := y
     obtain ⟨k1', n1', s1', l1'⟩ := x'
     obtain ⟨k2', n2', s2', l2'⟩ := y'
     have hyy := hy k2' n2' s2' l2' hoy
     simp only [rowsT_cons, rowsT_nil, Tm.cells_mk]
     simp [hcl, hx]
     by_cases hc : cmpT (.mk k1 n1 s1 l1) (.mk k1' n1' s1' l1') = 0
     ·simp [hc]; exact hyy
     ·simp [hc]
    ·have : ¬ ((lb.length : Int) = 2) := by omega
     simp [hl, this, cmpL]
   ·have : ¬ ((l.length : Int) = 2) := by omega
    simp [this, cmpL]
  by_cases h7 : k = 7
  ·simp [h7, cmpL]
  simp [h1, h2, h3, h4, h5, h6, h7, h9]

theorem compare_ev {a b : Tm} (ha : a.Ok) (hb : b.Ok) : EVs (EV cfg) 134 [a.av, b.av] = some (.int .i64 (cmpT a b)) := by
 have := compare_loop a ha
 obtain ⟨k1, n1, s1, l1⟩ := a
 obtain ⟨k2, n2, s2, l2⟩ := b
 rw [Tm.av_mk, Tm.av_mk]
 apply Gets.get
 exact oCompare_run _ _ _ _ _ _ _ _ (this k2 n2 s2 l2 hb)

end Go.Proofs.YtkgkjngbfdnoiaaGreat
end

section
namespace Go.Proofs.YtkgkjngbfdnoiaaGreat
open Go.Av
theorem truth_ev (b : Bool) : EVf (EV cfg) 239 [.bool b] = some (truthT b).av := by
 have ha : ∀ s, EVf (EV cfg) 292 [.str s] = some (symT s).av := by
  intro s
  apply Gets.get
  refine guard_atom_run _ ?_
  rw [symT_av]; simp
 apply Gets.get
 refine guard_truth_run _ ?_
 unfold zi0
 rw [ha, ha]
 cases b <;> simp [truthT, tru, fal]
theorem mInt_ev (e : Env) (b : Bool) (t : Tm) : EVm (EV cfg) 241 [.ptr 0 0 0, t.av] 7 (mR e b) = some (.int .i64 t.num, mR e (b || decide (t.kind ≠ 1))) := by
 have hr := mRaise_ev e b
 apply Gets.get
 rw [Tm.av, Tm.cells_eq]
 refine mInt_run _ _ _ _ _ _ _ _ _ _ _ ?_
 rw [hr, bneD]
 by_cases h : t.kind = 1
 ·simp [h]
 ·simp [h]
theorem mBool_ev (e : Env) (b : Bool) (t : Tm) : EVm (EV cfg) 158 [.ptr 0 0 0, t.av] 7 (mR e b) = some (.bool (decide (t.str = tru)), mR e (b || (boolG t).isNone)) := by
 have hr := mRaise_ev e b
 apply Gets.get
 rw [Tm.av, Tm.cells_eq]
 refine mBool_run _ _ _ _ _ _ _ _ _ _ _ ?_
 unfold zi24
 rw [hr, bneD]
 unfold boolG
 simp only [beqS, show ([116, 114, 117, 101] : List UInt8) = tru from rfl, show ([102, 97, 108, 115, 101] : List UInt8) = fal from rfl]
 by_cases h : t.kind = 2
 ·by_cases h1 : t.str = tru
  ·simp [h, h1]
  ·by_cases h2 : t.str = fal
   ·simp [h, h1, h2]
    have : ¬ fal = tru := by decide
    simp [this]
   ·simp [h, h1, h2]
 ·simp [h]
theorem boolG_some {t : Tm} {x : Bool} (h : boolG t = some x) : decide (t.str = tru) = x := by
 unfold boolG at h
 split at h
 ·rename_i h1; cases h; exact decide_eq_true h1.2
 ·split at h
  ·rename_i h1; cases h; rw [h1.2]; decide
  ·cases h
theorem ret_true {e : Env} {t : Tm} : Gets (some (t.av, mR e true)) (Res e none) := ⟨_, rfl, rfl, t, rfl⟩
theorem ret_false {e : Env} {t : Tm} : Gets (some (t.av, mR e false)) (Res e (some t)) := ⟨_, rfl, rfl⟩
theorem two_end {e : Env} {a b : Tm} (f : Bool → Bool → Bool) {o : Option (AV × List (List AV))} (h : o = some ((truthT (f (decide (a.str = tru)) (decide (b.str = tru)))).av, mR e (false || (boolG a).isNone || (boolG b).isNone))) :
  Gets o (Res e ((boolG a).bind fun x => (boolG b).map fun y => truthT (f x y))) := by
 subst h
 cases ha : boolG a with
 | none => exact ret_true
 | some x =>
  cases hb : boolG b with
  | none => exact ret_true
  | some y =>
   rw [boolG_some ha, boolG_some hb]
   exact ret_false
theorem mTwo_ev (e : Env) (op : List UInt8) {a b : Tm} (ha : a.Ok) (hb : b.Ok) (ia : a.kind = 1 → InB a.num) (ib : b.kind = 1 → InB b.num) (hp : op = [42] → ProductOk) :
  Gets (EVd (EV cfg) 173 [.ptr 0 0 0, .str op, a.av, b.av] 7 (mR e false)) (Res e (twoG op a b)) := by
 have hc := compare_ev ha hb
 rw [Tm.av, Tm.av, Tm.cells_eq a, Tm.cells_eq b]
 refine mTwo_run _ _ _ _ _ _ _ _ _ _ _ _ _ _ _ _ ?_
 unfold zi42 zi36 zi37 zi38 zi39 zi40 zi41 zi27 zi28 zi29 zi30 zi31 zi35 zi32 zi33 zi34 zi25 zi26 zi2 zi3
 simp only [av_unf, hc, kOptSome, kInt_int, truth_ev, kTmV_av, beqS, beqD, bneD]
 unfold twoG
 by_cases h1 : op = [61, 61]
 ·rw [if_pos h1, decide_eq_true h1, cond_true]; exact ret_false
 rw [if_neg h1, decide_eq_false h1, cond_false]
 by_cases h2 : op = [61, 58, 61]
 ·rw [if_pos h2, decide_eq_true h2, cond_true]; exact ret_false
 rw [if_neg h2, decide_eq_false h2, cond_false]
 by_cases h3 : op = [47, 61]
 ·rw [if_pos h3, decide_eq_true h3, cond_true]; exact ret_false
 rw [if_neg h3, decide_eq_false h3, cond_false]
 by_cases h4 : op = [61, 47, 61]
 ·rw [if_pos h4, decide_eq_true h4, cond_true]; exact ret_false
 rw [if_neg h4, decide_eq_false h4, cond_false]
 by_cases h5 : op = [60]
 ·rw [if_pos h5, decide_eq_true h5, cond_true]; exact ret_false
 rw [if_neg h5, decide_eq_false h5, cond_false]
 by_cases h6 : op = [61, 60]
 ·rw [if_pos h6, decide_eq_true h6, cond_true]; exact ret_false
 rw [if_neg h6, decide_eq_false h6, cond_false]
 by_cases h7 : op = [62]
 ·rw [if_pos h7, decide_eq_true h7, cond_true]; exact ret_false
 rw [if_neg h7, decide_eq_false h7, cond_false]
 by_cases h8 : op = [62, 61]
 ·rw [if_pos h8, decide_eq_true h8, cond_true]; exact ret_false
 rw [if_neg h8, decide_eq_false h8, cond_false]
 by_cases h9 : op = [97, 110, 100]
 ·rw [if_pos (Or.inl h9), decide_eq_true h9, cond_true]
  refine two_end (fun x y => x && y) ?_
  simp only [mBool_ev, kOptSome, kMBool_bool]
  cases decide (a.str = tru) <;> cases decide (b.str = tru) <;> rfl
 rw [decide_eq_false h9, cond_false]
 by_cases h10 : op = [97, 110, 100, 97, 108, 115, 111]
 ·rw [if_pos (Or.inr h10), decide_eq_true h10, cond_true]
  refine two_end (fun x y => x && y) ?_
  simp only [mBool_ev, kOptSome, kMBool_bool]
  cases decide (a.str = tru) <;> cases decide (b.str = tru) <;> rfl
 rw [if_neg (fun h => h.elim h9 h10), decide_eq_false h10, cond_false]
 by_cases h11 : op = [111, 114]
 ·rw [if_pos (Or.inl h11), decide_eq_true h11, cond_true]
  refine two_end (fun x y => x || y) ?_
  simp only [mBool_ev, kOptSome, kMBool_bool]
  cases decide (a.str = tru) <;> cases decide (b.str = tru) <;> rfl
 rw [decide_eq_false h11, cond_false]
 by_cases h12 : op = [111, 114, 101, 108, 115, 101]
 ·rw [if_pos (Or.inr h12), decide_eq_true h12, cond_true]
  refine two_end (fun x y => x || y) ?_
  simp only [mBool_ev, kOptSome, kMBool_bool]
  cases decide (a.str = tru) <;> cases decide (b.str = tru) <;> rfl
 rw [if_neg (fun h => h.elim h11 h12), decide_eq_false h12, cond_false]
 by_cases h13 : op = [120, 111, 114]
 ·rw [if_pos h13, decide_eq_true h13, cond_true]
  refine two_end (fun x y => x != y) ?_
  simp only [mBool_ev, kOptSome, kMBool_bool]
  cases decide (a.str = tru) <;> cases decide (b.str = tru) <;> rfl
 rw [if_neg h13, decide_eq_false h13, cond_false]
 by_cases h14 : op = [101, 108, 101, 109, 101, 110, 116]
 ·rw [if_pos h14, decide_eq_true h14, cond_true]
  simp only [mInt_ev, kOptSome, kMInt_int, mRaise_ev, kTmV_av, av_unf]
  by_cases g1 : 1 ≤ a.num
  ·rw [decide_eq_true (show a.num ≥ 1 from g1), cond_true]
   by_cases g2 : b.kind = 7
   ·rw [decide_eq_true g2, cond_true]
    by_cases g3 : a.num ≤ b.subs.length
    ·have hl : (a.num - 1).toNat < b.subs.length := by omega
     obtain ⟨j, hj⟩ : ∃ j : Nat, a.num = (j : Int) + 1 := ⟨(a.num - 1).toNat, by omega⟩
     have hjl : j < b.subs.length := by omega
     have hbl := hb
     have hw : IntKind.wrap .i64 (a.num - 1) = (j : Int) := by
      have : b.subs.length < 1099511627776 := by
       obtain ⟨kb, nb, sb, lb⟩ := b
       exact hb.len
      rw [wrap64 (by omega) (by omega)]; omega
     have hx : b.subs[j]? = some b.subs[j] := List.getElem?_eq_getElem hjl
     have e1 : (a.num - 1).toNat = j := by omega
     rw [rowsT_length, decide_eq_true g3, cond_true, hw, leInt_zero, ltInt_nat, decide_eq_true hjl, rowsT_at hx, e1, hx]
     simp only [Bool.and_true, cond_true, length_cells, Nat.beq_refl, Nat.ble_eq, take_cells, kTmC_cells, av_unf]
     by_cases g0 : a.kind = 1
     ·rw [if_pos ⟨g0, g1, g2, g3⟩]; simp only [g0]; exact ret_false
     ·rw [if_neg (fun h => g0 h.1), decide_eq_true g0]; exact ret_true
    ·rw [rowsT_length, decide_eq_false g3, cond_false, if_neg (fun h => g3 h.2.2.2)]; exact ret_true
   ·rw [decide_eq_false g2, cond_false, if_neg (fun h => g2 h.2.2.1)]; exact ret_true
  ·rw [decide_eq_false g1, cond_false, if_neg (fun h => g1 h.2.1)]; exact ret_true
 rw [if_neg h14, decide_eq_false h14, cond_false]
 simp only [mInt_ev, kOptSome, kMInt_int]
 by_cases ga : a.kind = 1
 ·by_cases gb : b.kind = 1
  ·rw [if_pos ⟨ga, gb⟩]
   simp only [ga, gb]
   exact Gets.bind (mNumbers_ev e op (ia ga) (ib gb) hp) fun r h => ret_res h (Res_tm h)
  ·rw [if_neg (fun h => gb h.2), decide_eq_true gb, Bool.or_true, mNumbers_bad]
   simp only [kOptSome, kTmV_av, av_unf]; exact ret_true
 ·rw [if_neg (fun h => ga h.1), decide_eq_true ga, Bool.or_true, Bool.true_or, mNumbers_bad]
  simp only [kOptSome, kTmV_av, av_unf]; exact ret_true
end Go.Proofs.YtkgkjngbfdnoiaaGreat
end

section
namespace Go.Proofs.YtkgkjngbfdnoiaaGreat
open Go.Av
theorem ops_ev (op : List UInt8) : EVf (EV cfg) 89 [.str op] = some (.sl (intsR (opsG op))) := by
 apply Gets.get
 refine guard_Ops_run _ ?_
 have h := lookS_map (fun l => some (AV.sl (intsR l))) op [] opsTab
 have : Gets (lookS op (some (AV.sl (intsR []))) (opsTab.map fun p => (p.1, some (AV.sl (intsR p.2))))) (· = .sl (intsR (opsG op))) := by
  rw [h]; exact ⟨_, rfl, rfl⟩
 exact this
theorem index_ev (l : List Int) (hl : l.length < 1099511627776) (n : Int) : ∀ d i : Nat, i + d = l.length → Gets (wg65_0 (intsR l) n i) (fun v => ∃ j : Int, v = .int .i64 j ∧ (0 ≤ j ↔ n ∈ l.drop i)) := by
 intro d
 induction d with
 | zero =>
  intro i hi
  refine wg65_0_step _ _ _ ?_
  rw [intsR_len, decide_eq_false (by omega)]
  refine ⟨_, rfl, -1, rfl, ?_⟩
  rw [List.drop_eq_nil_of_le (by omega)]
  simp
 | succ d ih =>
  intro i hi
  have hil : i < l.length := by omega
  refine wg65_0_step _ _ _ ?_
  have hx : l[i]? = some l[i] := List.getElem?_eq_getElem hil
  have hd : l.drop i = l[i] :: l.drop (i + 1) := List.drop_eq_getElem_cons hil
  have h := ih (i + 1) (by omega)
  rw [intsR_len, decide_eq_true (show (i : Int) < (l.length : Int) by omega), leInt_zero, ltInt_nat, decide_eq_true hil, get?Internal_eq, Int.toNat_natCast, intsR_get, hx, wrap_succ hil hl]
  by_cases he : n = l[i]
  ·refine ⟨.int .i64 i, ?_, i, rfl, ?_⟩
   ·simp [he]
   ·rw [hd, he]; exact ⟨fun _ => List.mem_cons_self, fun _ => by omega⟩
  ·have hne : (n == l[i]) = false := by rw [beqI]; exact decide_eq_false he
   simp [hne]
   refine Gets.mono (by simpa using h) ?_
   rintro _ ⟨j, rfl, hj⟩
   exact ⟨j, rfl, by rw [hj, hd, List.mem_cons]; exact ⟨Or.inr, fun h => h.resolve_left he⟩⟩
theorem contains_ev (l : List Int) (hl : l.length < 1099511627776) (n : Int) : EVs (EV cfg) 88 [.sl (intsR l), .int .i64 n] = some (.bool (decide (n ∈ l))) := by
 obtain ⟨_, h1, j, rfl, hj⟩ := index_ev l hl n l.length 0 (by omega)
 have h2 : EVs (EV cfg) 168 [.sl (intsR l), .int .i64 n] = some (.int .i64 j) := by
  apply Gets.get
  exact indexI_run _ _ ⟨_, h1, rfl⟩
 apply Gets.get
 refine containsI_run _ _ ?_
 rw [h2]
 rw [List.drop_zero] at hj
 refine ⟨_, rfl, ?_⟩
 show AV.bool (decide (j ≥ 0)) = _
 congr 1
 exact decide_eq_decide.2 hj
theorem self_ev (n : Int) : EVs (EV cfg) 90 [.int .i64 n] = some (.bool (selfG n)) := by
 apply Gets.get
 refine guard_self_run _ ?_
 unfold selfG
 by_cases h : 1 ≤ n
 ·simp [h]
 ·simp [h]
end Go.Proofs.YtkgkjngbfdnoiaaGreat
end
