/-
  What the functions of terms do: how many parts a term has, copies, whether two are the same. Own work.
  What is proved: contracts of the abstract evaluation; no condition.
-/
import Derived.Test.YtpbfmaodnihpeaaR1a
import Derived.Test.YtpbfmaodnihpeaaOrd
namespace Go.Proofs.Ytpbfmaodnihpeaa
open Go.Av

theorem parts_ev (t : Tm) : t.Ok → ∀ most : Int, Gets (EVs (EV cfg) 57 [t.av, .int .i64 most]) AV.IsInt := by
  induction t using Tm.ind with
  | _ k n s l ih =>
    intro hok most
    have loop : ∀ (d i : Nat) (m : Int), i + d = l.length → Gets (w57_0 k n most s (rowsT l) m i) AV.IsInt := by
      intro d
      induction d with
      | zero =>
        intro i m hi
        refine w57_0_step _ _ _ _ _ _ _ ?_
        rw [rowsT_length, decide_eq_false (by omega)]
        simp
      | succ d ihd =>
        intro i m hi
        refine w57_0_step _ _ _ _ _ _ _ ?_
        obtain ⟨x, hx⟩ : ∃ x, l[i]? = some x := ⟨_, List.getElem?_eq_getElem (by omega)⟩
        have hxl := List.mem_of_getElem? hx
        have hix := ih x hxl (hok.sub hxl)
        obtain ⟨k', n', s', l'⟩ := x
        rw [rowsT_length, decide_eq_true (show (i : Int) < (l.length : Int) by omega), leInt_zero, ltInt_nat, decide_eq_true (show i < l.length by omega), rowsT_at hx, Tm.cells_mk]
        by_cases hm : m ≤ most
        · rw [decide_eq_true hm]
          simp
          rw [Tm.av_mk] at hix
          refine Gets.bind (hix _) ?_
          rintro _ ⟨n'', rfl⟩
          simp
          rw [wrap_succ (n := l.length) (by omega) hok.len]
          exact ihd (i + 1) _ (by omega)
        · rw [decide_eq_false hm]
          simp
    rw [Tm.av_mk]
    exact f57_run _ _ _ _ _ (loop l.length 0 1 (by omega))

theorem long_ev (t : Tm) : t.Ok → Gets (EVs (EV cfg) 58 [t.av]) AV.IsBool := by
  induction t using Tm.ind with
  | _ k n s l ih =>
    intro hok
    have loop : ∀ (d i : Nat), i + d = l.length → Gets (w58_0 k n s (rowsT l) i) AV.IsBool := by
      intro d
      induction d with
      | zero =>
        intro i hi
        refine w58_0_step _ _ _ _ _ ?_
        rw [rowsT_length, decide_eq_false (by omega)]
        simp
      | succ d ihd =>
        intro i hi
        refine w58_0_step _ _ _ _ _ ?_
        obtain ⟨x, hx⟩ : ∃ x, l[i]? = some x := ⟨_, List.getElem?_eq_getElem (by omega)⟩
        have hxl := List.mem_of_getElem? hx
        have hix := ih x hxl (hok.sub hxl)
        obtain ⟨k', n', s', l'⟩ := x
        rw [rowsT_length, decide_eq_true (show (i : Int) < (l.length : Int) by omega), leInt_zero, ltInt_nat, decide_eq_true (show i < l.length by omega), rowsT_at hx, Tm.cells_mk]
        simp
        rw [Tm.av_mk] at hix
        refine Gets.bind hix ?_
        rintro _ ⟨b, rfl⟩
        cases b with
        | true => simp
        | false =>
          simp
          rw [wrap_succ (n := l.length) (by omega) hok.len]
          exact ihd (i + 1) (by omega)
    rw [Tm.av_mk]
    refine f58_run _ _ _ _ ?_
    by_cases h : (s.length : Int) > 200
    · rw [decide_eq_true h]; simp
    · rw [decide_eq_false h]
      exact loop l.length 0 (by omega)

theorem large_ev (t : Tm) (h : t.Ok) (most : Int) : Gets (EVs (EV cfg) 13 [t.av, .int .i64 most]) AV.IsBool := by
  have h1 := parts_ev t h most
  have h2 := long_ev t h
  obtain ⟨k, n, s, l⟩ := t
  rw [Tm.av_mk] at *
  refine f13_run _ _ _ _ _ ?_
  refine Gets.bind h1 ?_
  rintro _ ⟨m, rfl⟩
  simp
  by_cases hm : most < m
  · simp [hm]
  · simp [hm]
    refine Gets.bind h2 ?_
    rintro _ ⟨b, rfl⟩
    simp

theorem fits56 {n : Nat} (h : n ≤ 1099511627776) : fitsIn n 56 = true := by
  unfold fitsIn
  rw [Bool.and_eq_true, Nat.ble_eq, Nat.ble_eq]
  omega

theorem copyT_of {k n : Int} {s : List UInt8} {l : List Tm} (h : EVf (EV cfg) 59 [.sl (rowsT l)] = some (.sl (rowsT l))) : EVf (EV cfg) 14 [(Tm.mk k n s l).av] = some (Tm.mk k n s l).av := by
  apply Gets.get
  rw [Tm.av_mk]
  refine f14_run _ _ _ _ ?_
  rw [h]
  simp

theorem copyL_of (l : List Tm) (hlen : l.length < 1099511627776) (ih : ∀ t ∈ l, EVf (EV cfg) 14 [t.av] = some t.av) : EVf (EV cfg) 59 [.sl (rowsT l)] = some (.sl (rowsT l)) := by
  apply Gets.get
  have step : ∀ (d i : Nat), i + d = l.length → 0 < i → Gets (w59_1 (rowsT (l.take i)) i (rowsT l) i) (· = .sl (rowsT l)) := by
    intro d
    induction d with
    | zero =>
      intro i hi h0
      refine w59_1_step _ _ _ _ ?_
      have : i = l.length := by omega
      subst this
      simp [rowsT_take]
    | succ d ihd =>
      intro i hi h0
      refine w59_1_step _ _ _ _ ?_
      obtain ⟨x, hx⟩ : ∃ x, l[i]? = some x := ⟨_, List.getElem?_eq_getElem (by omega)⟩
      have hix := ih x (List.mem_of_getElem? hx)
      have htk : l.take (i + 1) = l.take i ++ [x] := by rw [List.take_add_one, hx]; rfl
      have hmin : min i l.length = i := by omega
      have hlt : (l.take i).length = i := by simp; omega
      have := ihd (i + 1) (by omega) (by omega)
      rw [htk, rowsT_append] at this
      obtain ⟨k', n', s', l'⟩ := x
      rw [Tm.av_mk] at hix
      rw [rowsT_at hx, Tm.cells_mk, rowsT_length, rowsT_length, hlt, rowsT_take, List.take_take, Nat.min_self, wrap_succ (n := l.length) (by omega) hlen]
      rw [rowsT_cons, rowsT_nil, Tm.cells_mk] at this
      simpa [show i < l.length by omega, hix, fits56 (show i + 1 ≤ 1099511627776 by omega)] using this
  refine f59_run _ ?_
  show Gets (w59_0 (rowsT l) 0) _
  cases l with
  | nil =>
    refine w59_0_step _ _ ?_
    simp
  | cons x l =>
    have := step l.length 1 (by simp; omega) (by omega)
    have hix := ih x (by simp)
    have hx : (x :: l)[0]? = some x := rfl
    refine w59_0_step _ _ ?_
    obtain ⟨k', n', s', l'⟩ := x
    rw [Tm.av_mk] at hix
    have h1 : IntKind.wrap .i64 1 = 1 := wrap64 (by omega) (by omega)
    simpa [rowsT_cons, Tm.cells_mk, hix, fits56, h1] using this

theorem copyT_ev (t : Tm) : t.Ok → EVf (EV cfg) 14 [t.av] = some t.av := by
  induction t using Tm.ind with
  | _ k n s l ih => exact fun hok => copyT_of (copyL_of l hok.len (fun t ht => ih t ht (hok.sub ht)))
theorem copyL_ev {l : List Tm} (h : OkL l) (hlen : l.length < 1099511627776) : EVf (EV cfg) 59 [.sl (rowsT l)] = some (.sl (rowsT l)) := copyL_of l hlen (fun t ht => copyT_ev t (h.get ht))
end Go.Proofs.Ytpbfmaodnihpeaa
