/-
  The terms of the examples; OrderCompares as the abstract evaluation has it. Own work.
  What is proved: contracts of the abstract evaluation; no condition.
-/
import Derived.Test.YtpbfmaodnihpeaaC3c
namespace Go.Proofs.Ytpbfmaodnihpeaa
set_option maxRecDepth 20000
open Go.Av

def numT (i : Int) : Tm := .mk 1 i [] []
def symT (s : List UInt8) : Tm := .mk 2 0 s []
def tupT (l : List Tm) : Tm := .mk 7 0 [] l
def noneT : Tm := .mk 8 0 [] []
def pairsT (l : List Tm) (e : Tm) : Tm := l.foldr (fun x acc => .mk 9 0 [] [x, acc]) e

theorem numT_av (i : Int) : (numT i).av = .agg [.int .i64 1, .int .i64 i, .str [], .sl []] := by rw [numT, Tm.av_mk, rowsT_nil]
theorem symT_av (s : List UInt8) : (symT s).av = .agg [.int .i64 2, .int .i64 0, .str s, .sl []] := by rw [symT, Tm.av_mk, rowsT_nil]
theorem noneT_av : noneT.av = .agg [.int .i64 8, .int .i64 0, .str [], .sl []] := by rw [noneT, Tm.av_mk, rowsT_nil]
theorem tupT_av (l : List Tm) : (tupT l).av = .agg [.int .i64 7, .int .i64 0, .str [], .sl (rowsT l)] := by rw [tupT, Tm.av_mk]

theorem num_ev (i : Int) : EVf (EV cfg) 38 [.int .i64 i] = some (numT i).av := by
  apply Gets.get
  refine f38_run _ ?_
  simp [numT_av]
theorem sym_ev (s : List UInt8) : EVf (EV cfg) 75 [.str s] = some (symT s).av := by
  apply Gets.get
  refine f75_run _ ?_
  simp [symT_av]
theorem none_ev : EVf (EV cfg) 74 [] = some noneT.av := by
  apply Gets.get
  refine f74_run ?_
  simp [noneT_av]
theorem tup_ev (l : List Tm) : EVf (EV cfg) 28 [.sl (rowsT l)] = some (tupT l).av := by
  apply Gets.get
  refine f28_run _ ?_
  simp [tupT_av]
theorem pairs_ev (l : List Tm) (hl : l.length < 1099511627776) (e : Tm) : EVf (EV cfg) 73 [.sl (rowsT l), e.av] = some (pairsT l e).av := by
  obtain ⟨k, n, s, le⟩ := e
  have loop : ∀ (i : Nat) (k2 n2 : Int) (s2 : List UInt8) (l2 : List Tm), i ≤ l.length → pairsT (l.drop i) (.mk k n s le) = .mk k2 n2 s2 l2 → Gets (w73_0 k2 n2 s2 (rowsT l2) (rowsT l) k n s (rowsT le) ((i : Int) - 1)) (· = (pairsT l (.mk k n s le)).av) := by
    intro i
    induction i with
    | zero =>
      intro k2 n2 s2 l2 _ h
      refine w73_0_step _ _ _ _ _ _ _ _ _ _ ?_
      rw [List.drop_zero] at h
      rw [h, Tm.av_mk]
      simp
    | succ i ih =>
      intro k2 n2 s2 l2 hi h
      refine w73_0_step _ _ _ _ _ _ _ _ _ _ ?_
      obtain ⟨x, hx⟩ : ∃ x, l[i]? = some x := ⟨_, List.getElem?_eq_getElem (by omega)⟩
      have h2 : pairsT (l.drop i) (.mk k n s le) = .mk 9 0 [] [x, .mk k2 n2 s2 l2] := by
        rw [drop_get hx, ← h]; rfl
      have := ih 9 0 [] _ (by omega) h2
      obtain ⟨kx, nx, sx, lx⟩ := x
      rw [show ((i + 1 : Nat) : Int) - 1 = (i : Int) by omega]
      simp only [get?Internal_eq, Int.toNat_natCast, rowsT_some hx, leInt_eq, ltInt_eq, rowsT_length]
      have e1 : IntKind.wrap .i64 ((i : Int) - 1) = (i : Int) - 1 := wrap64 (by omega) (by omega)
      simp only [rowsT_cons, rowsT_nil, Tm.cells_mk] at this
      simp [e1, show (i : Int) < (l.length : Int) by omega, show (0 : Int) ≤ (i : Int) by omega, show i < l.length by omega]
      exact this
  rw [Tm.av_mk]
  apply Gets.get
  refine f73_run _ _ _ _ _ ?_
  have := loop l.length k n s le (Nat.le_refl _) (by rw [List.drop_length]; rfl)
  rw [rowsT_length, wrap64 (by omega) (by omega)]
  exact this

theorem n_ev (i : Int) : EVf (EV cfg) 29 [.int .i64 i] = some (numT i).av := by
  apply Gets.get
  refine f29_run _ ?_
  rw [num_ev, numT_av]; simp
theorem s_ev (s : List UInt8) : EVf (EV cfg) 31 [.str s] = some (symT s).av := by
  apply Gets.get
  refine f31_run _ ?_
  rw [sym_ev, symT_av]; simp
theorem l_ev (l : List Tm) (hl : l.length < 1099511627776) : EVf (EV cfg) 30 [.sl (rowsT l)] = some (pairsT l noneT).av := by
  apply Gets.get
  refine f30_run _ ?_
  have := pairs_ev l hl noneT
  rw [noneT_av] at this
  rw [none_ev, noneT_av]
  cases h : pairsT l noneT with
  | mk k n s le =>
    rw [h, Tm.av_mk] at this
    rw [Tm.av_mk]
    simp [this]

theorem awake_ev : EVs (EV cfg) 18 [] = some (.bool true) := by
  apply Gets.get
  refine f18_run ?_
  have o1 : ∀ i, (numT i).Ok := fun i => by simp [numT, Tm.Ok, OkL]
  have c1 := compare_ev (o1 1) (show (symT [97]).Ok by simp [symT, Tm.Ok, OkL])
  have t9 := tup_ev [numT 9]
  have l1 := l_ev [numT 1] (by simp)
  have c2 := compare_ev (a := tupT [numT 9]) (b := pairsT [numT 1] noneT) (by simp [tupT, numT, Tm.Ok, OkL]) (by simp [pairsT, numT, noneT, Tm.Ok, OkL])
  have l2 := l_ev [numT 1, numT 2] (by simp)
  have c3 := compare_ev (a := pairsT [numT 1, numT 2] noneT) (b := pairsT [numT 1] noneT) (by simp [pairsT, numT, noneT, Tm.Ok, OkL]) (by simp [pairsT, numT, noneT, Tm.Ok, OkL])
  rw [show cmpT (numT 1) (symT [97]) = -1 by rfl] at c1
  rw [show cmpT (tupT [numT 9]) (pairsT [numT 1] noneT) = -1 by rfl] at c2
  rw [show cmpT (pairsT [numT 1, numT 2] noneT) (pairsT [numT 1] noneT) = 1 by rfl] at c3
  simp only [numT_av, symT_av, n_ev, s_ev] at *
  simp only [tupT, pairsT, numT, noneT, List.foldr, Tm.av_mk, rowsT_cons, rowsT_nil, Tm.cells_mk] at *
  simp [c1, c2, c3, t9, l1, l2]

theorem orderCompares_ev {a b : Tm} (ha : a.Ok) (hb : b.Ok) : EVs (EV cfg) 3 [a.av, b.av] = some (.bool true) := by
  have l1 := large_ev a ha 400
  have l2 := large_ev b hb 400
  have c1 := copyT_ev a ha
  have c2 := copyT_ev b hb
  have e1 := compare_ev ha hb
  have e2 := refCompare_ev a ha b hb
  have s1 := sameT_ev a ha a
  have s2 := sameT_ev b hb b
  obtain ⟨k, n, s, l⟩ := a
  obtain ⟨k', n', s', l'⟩ := b
  rw [Tm.av_mk] at *
  rw [Tm.av_mk] at *
  apply Gets.get
  refine f3_run _ _ _ _ _ _ _ _ ?_
  refine Gets.bind l1 ?_
  rintro _ ⟨b1, rfl⟩
  cases b1 with
  | true => simp
  | false =>
    simp
    refine Gets.bind l2 ?_
    rintro _ ⟨b2, rfl⟩
    cases b2 with
    | true => simp
    | false =>
      simp [c1, c2, e1, e2]
      refine Gets.bind s1 ?_
      rintro _ ⟨b3, rfl, h3⟩
      obtain rfl := h3.2 rfl
      simp
      refine Gets.bind s2 ?_
      rintro _ ⟨b4, rfl, h4⟩
      obtain rfl := h4.2 rfl
      simp [awake_ev]
end Go.Proofs.Ytpbfmaodnihpeaa
