/-
  Parts of the proof of GuardHoldsUptoSaid, put together: the abstract evaluation and its contracts. Own work.
  What is proved: each lemma as it stands; no condition.
-/
import Derived.Test.YtogebohommickaaGreatZGuardHoldsM5

section
namespace Go.Proofs.YtogebohommickaaGreat
open Go.Av
def wholeG (b : Bool) (t : Tm) : Option Tm := if b then none else if t.chk = 0 then some t else none
theorem mWhole_ev (e : Env) (b : Bool) {t : Tm} (h : t.w < 1099511627776) : Gets (EVd (EV cfg) 54 [.ptr 0 0 0, t.av] 7 (mR e b)) (Res e (wholeG b t)) := by
  have hc := check_ev h
  have hr := mRaise_ev e b
  unfold wholeG
  rw [Tm.av, Tm.cells_eq] at hc ⊢
  refine mWhole_run _ _ _ _ _ _ _ _ _ _ _ ?_
  rw [hc]
  cases b with
  | true =>
    rw [if_pos rfl, cond_true, hr]
    simp only [kOptSome, kTmV_av]
    rw [av_unf]; exact ret_true
  | false =>
    rw [if_neg (by simp), cond_false]
    simp only [kOptSome, kInt_int]
    by_cases h0 : t.chk = 0
    · have e0 : (t.chk != 0) = false := by rw [h0]; rfl
      rw [e0, if_pos h0, cond_false, av_unf]; exact ret_false
    · have e0 : (t.chk != 0) = true := by simpa using h0
      rw [e0, if_neg h0, cond_true, hr]
      simp only [kOptSome, kTmV_av]
      rw [av_unf]; exact ret_true
theorem mBound_ev {e : Env} (hlen : e.binds.length < 1099511627776) (b : Bool) : EVd (EV cfg) 55 [.ptr 0 0 0] 7 (mR e b) = some ((makeG (e.binds.map (·.2)) (.mk 8 0 [] [])).av, mR e b) := by
  have loop : ∀ (d i : Nat), i + d = e.binds.length → Gets (ws61_0 (bindsR e.binds) i i (mR e b) 0 0 [] [] (rowsT ((e.binds.take i).map (·.2)))) (· = ((makeG (e.binds.map (·.2)) (.mk 8 0 [] [])).av, mR e b)) := by
    intro d
    induction d with
    | zero =>
      intro i hi
      refine ws61_0_step _ _ _ _ _ _ _ _ _ ?_
      obtain rfl : i = e.binds.length := by omega
      have hb : Nat.ble (0 + e.binds.length) (rowsT ((e.binds.take e.binds.length).map (·.2))).length = true := by rw [Nat.ble_eq, rowsT_length, List.length_map, List.length_take]; omega
      have ht : List.take e.binds.length (rowsT ((e.binds.take e.binds.length).map (·.2))) = rowsT (e.binds.map (·.2)) := by
        rw [List.take_of_length_le (by rw [rowsT_length, List.length_map, List.length_take]; omega), List.take_length]
      have hm := makeList_ev (l := e.binds.map (·.2)) (by rw [List.length_map]; exact hlen) (.mk 8 0 [] [])
      rw [Tm.av_mk, rowsT_nil] at hm
      rw [bindsR_len, decide_eq_false (by omega)]
      simp only [cond_false, hb, Bool.and_true, cond_true, ht, hm, kOptSome, kTmV_av, av_unf]
      exact ⟨_, rfl, rfl⟩
    | succ d ih =>
      intro i hi
      refine ws61_0_step _ _ _ _ _ _ _ _ _ ?_
      have hil : i < e.binds.length := by omega
      have hx : e.binds[i]? = some e.binds[i] := List.getElem?_eq_getElem hil
      have h := ih (i + 1) (by omega)
      have e1 : (e.binds.take (i + 1)).map (·.2) = (e.binds.take i).map (·.2) ++ [e.binds[i].2] := by
        have ht : e.binds.take (i + 1) = e.binds.take i ++ [e.binds[i]] := by rw [List.take_add_one, hx]; rfl
        rw [ht, List.map_append]; rfl
      have hl0 : (rowsT ((e.binds.take i).map (·.2))).length = i := by rw [rowsT_length, List.length_map, List.length_take]; omega
      have e2 : List.append (List.take i (rowsT ((e.binds.take i).map (·.2)))) [e.binds[i].2.cells] = rowsT ((e.binds.take (i + 1)).map (·.2)) := by
        rw [List.take_of_length_le (by omega), e1, rowsT_append, rowsT_cons, rowsT_nil]; rfl
      have e3 : Nat.ble (0 + i) (rowsT ((e.binds.take i).map (·.2))).length = true := by rw [hl0, Nat.ble_eq]; omega
      rw [bindsR_len, decide_eq_true (show (i : Int) < (e.binds.length : Int) by omega), leInt_zero, ltInt_nat, decide_eq_true hil, get?Internal_eq, Int.toNat_natCast, bindsR_get, hx, wrap_succ hil hlen]
      simp only [Option.map_some, cond_true, Bool.and_self, kOptSome, List.length_cons, length_cells, show Nat.beq (4 + 1) 5 = true from rfl, show Nat.ble 5 (4 + 1) = true from rfl, List.take_succ_cons, take_cells, kCons, kInt_int, kTmC_cells, e3, fits56 (show i + 1 ≤ 1099511627776 by omega)]
      rw [← Tm.cells_eq, e2]
      exact h
  apply Gets.get
  refine mBound_run _ _ _ _ _ _ _ ?_
  exact loop e.binds.length 0 (by omega)
end Go.Proofs.YtogebohommickaaGreat
end

section
namespace Go.Av
def valsG (f : Tm → Option Tm) : List Tm → Option (List Tm)
  | [] => some []
  | t :: l => (f t).bind fun x => (valsG f l).map (x :: ·)
def ResL (e : Env) (o : Option (List Tm)) (r : AV × List (List AV)) : Prop :=
  match o with
  | some ts => r = (.sl (rowsT ts), mR e false)
  | none => r.2 = mR e true ∧ ∃ ts : List Tm, r.1 = .sl (rowsT ts)
end Go.Av
namespace Go.Proofs.YtogebohommickaaGreat
open Go.Av
theorem values_bad {e : Env} {l acc : List Tm} {i : Nat} (hi : i ≤ l.length) (ha : acc.length = i) : Gets (ws62_0 (rowsT l) i i (mR e true) (rowsT acc)) (ResL e none) := by
  refine ws62_0_step _ _ _ _ _ ?_
  by_cases hil : i < l.length
  · have hx : l[i]? = some l[i] := List.getElem?_eq_getElem hil
    rw [rowsT_length, decide_eq_true (show (i : Int) < (l.length : Int) by omega), leInt_zero, ltInt_nat, decide_eq_true hil, rowsT_at hx]
    simp only [cond_true, Bool.and_self, length_cells, Nat.beq_refl, take_cells, kTmC_cells, show Nat.ble 4 4 = true from rfl, kOptSome]
    exact ⟨_, rfl, rfl, [], by rw [rowsT_nil]⟩
  · have e3 : (Nat.ble (0 + i) (rowsT acc).length && true) = true := by rw [Bool.and_true, Nat.ble_eq, rowsT_length]; omega
    rw [rowsT_length, decide_eq_false (by omega), cond_false, e3, cond_true, List.take_of_length_le (by rw [rowsT_length]; omega)]
    exact ⟨_, rfl, rfl, acc, rfl⟩
theorem mValues_of {e : Env} {f : Tm → Option Tm} {l : List Tm} (hlen : l.length < 1099511627776) (ih : ∀ x ∈ l, Gets (EVd (EV cfg) 24 [.ptr 0 0 0, x.av] 7 (mR e false)) (Res e (f x))) :
    Gets (EVd (EV cfg) 56 [.ptr 0 0 0, .sl (rowsT l)] 7 (mR e false)) (ResL e (valsG f l)) := by
  have loop : ∀ (d i : Nat) (acc : List Tm), i + d = l.length → acc.length = i → Gets (ws62_0 (rowsT l) i i (mR e false) (rowsT acc)) (ResL e ((valsG f (l.drop i)).map (acc ++ ·))) := by
    intro d
    induction d with
    | zero =>
      intro i acc hi ha
      refine ws62_0_step _ _ _ _ _ ?_
      have e3 : (Nat.ble (0 + i) (rowsT acc).length && true) = true := by rw [Bool.and_true, Nat.ble_eq, rowsT_length]; omega
      rw [rowsT_length, decide_eq_false (by omega), cond_false, e3, cond_true, List.take_of_length_le (by rw [rowsT_length]; omega), List.drop_eq_nil_of_le (by omega)]
      refine ⟨_, rfl, ?_⟩
      show _ = (AV.sl (rowsT (acc ++ [])), mR e false)
      rw [List.append_nil]
    | succ d ihd =>
      intro i acc hi ha
      refine ws62_0_step _ _ _ _ _ ?_
      have hil : i < l.length := by omega
      have hx : l[i]? = some l[i] := List.getElem?_eq_getElem hil
      have hd : l.drop i = l[i] :: l.drop (i + 1) := List.drop_eq_getElem_cons hil
      have h1 := ih l[i] (List.mem_of_getElem? hx)
      have e3 : (Nat.ble (0 + i) (rowsT acc).length && fitsIn (i + 1) 56) = true := by rw [fits56 (by omega), Bool.and_true, Nat.ble_eq, rowsT_length]; omega
      have e4 : ∀ t : Tm, List.append (List.take i (rowsT acc)) [[.int .i64 t.kind, .int .i64 t.num, .str t.str, .sl (rowsT t.subs)]] = rowsT (acc ++ [t]) := by
        intro t
        rw [List.take_of_length_le (by rw [rowsT_length]; omega), rowsT_append, rowsT_cons, rowsT_nil, Tm.cells_eq]; rfl
      rw [rowsT_length, decide_eq_true (show (i : Int) < (l.length : Int) by omega), leInt_zero, ltInt_nat, decide_eq_true hil, rowsT_at hx, wrap_succ hil hlen, hd, valsG]
      simp only [cond_true, Bool.and_self, length_cells, Nat.beq_refl, take_cells, kTmC_cells, show Nat.ble 4 4 = true from rfl, kOptSome, av_unf]
      show Gets (kOpt (EVd (EV cfg) _ _ 7 (mR e false)) _) _
      refine Gets.bind h1 ?_
      intro r hr
      cases hf : f l[i] with
      | none =>
        rw [hf] at hr
        obtain ⟨h2, t, h3⟩ := hr
        rw [h2, h3, kTmV_av, e3, e4, cond_true]
        exact values_bad (by omega) (by simp [ha])
      | some t =>
        rw [hf] at hr
        obtain rfl : r = (t.av, mR e false) := hr
        have h2 := ihd (i + 1) (acc ++ [t]) (by omega) (by simp [ha])
        rw [kTmV_av, e3, e4, cond_true]
        have e5 : ((some t).bind fun x => (valsG f (l.drop (i + 1))).map (x :: ·)).map (acc ++ ·) = (valsG f (l.drop (i + 1))).map (acc ++ [t] ++ ·) := by
          cases valsG f (l.drop (i + 1)) <;> simp
        rw [e5]
        exact h2
  refine mValues_run _ _ _ _ _ _ _ _ ?_
  have h := loop l.length 0 [] (by omega) rfl
  rw [List.drop_zero] at h
  have e6 : (valsG f l).map ([] ++ ·) = valsG f l := by cases valsG f l <;> simp
  rw [e6] at h
  exact h
end Go.Proofs.YtogebohommickaaGreat
end

section
namespace Go.Av
theorem seqO_valsG (e : Env) : ∀ l : List Tm, valsG (valG e) l = seqO (optsG e l)
  | [] => rfl
  | t :: l => by rw [valsG, optsG, seqO, seqO_valsG e l]
theorem listT_makeG (l : List Tm) : makeG l (.mk 8 0 [] []) = listT l := rfl
theorem mR_row (e : Env) (b : Bool) : List.get?Internal (mR e b) 0 = some [.int .i64 e.obj.kind, .int .i64 e.obj.num, .str e.obj.str, .sl (rowsT e.obj.subs), .sl (bindsR e.binds), .int .i64 e.self, .bool b] := rfl
theorem mR_bad (e : Env) (b : Bool) : List.get?Internal [AV.int .i64 e.obj.kind, .int .i64 e.obj.num, .str e.obj.str, .sl (rowsT e.obj.subs), .sl (bindsR e.binds), .int .i64 e.self, .bool b] 6 = some (.bool b) := rfl
theorem wL_bound {l : List Tm} (h : ∀ x ∈ l, x.chk = 0) : wL l ≤ l.length * 4259840 := by
  induction l with
  | nil => simp
  | cons x l ih =>
    have h1 := w_chk (h x (by simp))
    have h2 := ih fun y hy => h y (by simp [hy])
    rw [wL_cons, List.length_cons]; omega
theorem listT_w : ∀ l : List Tm, (listT l).w ≤ 1 + l.length + wL l
  | [] => by simp [listT, Tm.w_mk]
  | x :: l => by
    have h := listT_w l
    have : listT (x :: l) = .mk 9 0 [] [x, listT l] := rfl
    rw [this, Tm.w_mk, wL_cons, wL_cons, wL_cons, wL_nil, List.length_cons]
    simp only [List.length_nil]
    omega
theorem opsG_two (op : List UInt8) {n : Nat} (h : (n : Int) ∈ opsG op) : n ≤ 2 := by
  have : ∀ (l : List (List UInt8 × List Int)), (∀ p ∈ l, ∀ x ∈ p.2, x ≤ 2) → ∀ x ∈ lookS op [] l, x ≤ 2 := by
    intro l
    induction l with
    | nil => intro _ x hx; simp [lookS] at hx
    | cons p l ih =>
      intro h x hx
      rw [lookS] at hx
      cases hp : op == p.1
      · rw [hp] at hx; exact ih (fun q hq => h q (by simp [hq])) x hx
      · rw [hp] at hx; exact h p (by simp) x hx
  have := this opsTab (by decide) _ h
  omega
theorem cond_same {α : Type} (c : Bool) (x : α) : (bif c then x else x) = x := by cases c <;> rfl
theorem ite_w {c : Prop} [Decidable c] {x y : Option Tm} {P : Tm → Prop} (h1 : ∀ t, x = some t → P t) (h2 : ∀ t, y = some t → P t) : ∀ t, (if c then x else y) = some t → P t := by
  intro t h
  by_cases hc : c
  · rw [if_pos hc] at h; exact h1 t h
  · rw [if_neg hc] at h; exact h2 t h
theorem w_truthT (b : Bool) : (truthT b).w < 1099511627776 := by have := w_chk (truthT_chk b); omega
theorem w_withinG {n : Int} {v : Tm} (h : withinG n = some v) : v.w < 1099511627776 := by have := w_chk (withinG_chk h); omega
theorem oneG_w {op : List UInt8} {t : Tm} (hc : t.chk = 0) : ∀ v, oneG op t = some v → v.w < 1099511627776 := by
  have tr : ∀ b : Bool, ∀ v, some (truthT b) = some v → v.w < 1099511627776 := fun b v h => by cases h; exact w_truthT _
  have sub : ∀ i : Nat, ∀ v, t.subs[i]? = some v → v.w < 1099511627776 := fun i v h => by have := w_chk (chk_sub hc (List.mem_of_getElem? h)); omega
  have wi : ∀ n : Int, ∀ v, withinG n = some v → v.w < 1099511627776 := fun n v h => w_withinG h
  have no : ∀ v, (none : Option Tm) = some v → v.w < 1099511627776 := fun v h => by cases h
  have bo : ∀ v, ((boolG t).map fun b => truthT (!b)) = some v → v.w < 1099511627776 := fun v h => by obtain ⟨_, _, rfl⟩ := Option.map_eq_some_iff.1 h; exact w_truthT _
  have ln : ∀ v, ((lenG t).bind fun n => withinG n) = some v → v.w < 1099511627776 := fun v h => by obtain ⟨_, _, h⟩ := Option.bind_eq_some_iff.1 h; exact w_withinG h
  unfold oneG
  repeat' first
    | exact tr _
    | exact wi _
    | exact no
    | exact sub _
    | exact bo
    | exact ln
    | refine ite_w ?_ ?_
theorem numbersG_w {op : List UInt8} {a b : Int} {v : Tm} (h : numbersG op a b = some v) : v.w < 1099511627776 := by
  obtain ⟨_, n, rfl⟩ := numbersG_ok h
  rw [numT, Tm.w_mk]; simp
theorem twoG_w {op : List UInt8} {a b : Tm} (hb : b.chk = 0) : ∀ v, twoG op a b = some v → v.w < 1099511627776 := by
  have tr : ∀ c : Bool, ∀ v, some (truthT c) = some v → v.w < 1099511627776 := fun b v h => by cases h; exact w_truthT _
  have bo : ∀ f : Bool → Bool → Bool, ∀ v, ((boolG a).bind fun x => (boolG b).map fun y => truthT (f x y)) = some v → v.w < 1099511627776 := by
    intro f v h
    obtain ⟨_, _, h⟩ := Option.bind_eq_some_iff.1 h
    obtain ⟨_, _, rfl⟩ := Option.map_eq_some_iff.1 h
    exact w_truthT _
  have no : ∀ v, (none : Option Tm) = some v → v.w < 1099511627776 := fun v h => by cases h
  have sub : ∀ i : Nat, ∀ v, b.subs[i]? = some v → v.w < 1099511627776 := fun i v h => by have := w_chk (chk_sub hb (List.mem_of_getElem? h)); omega
  have nu : ∀ v, numbersG op a.num b.num = some v → v.w < 1099511627776 := fun v h => numbersG_w h
  unfold twoG
  repeat' first
    | exact tr _
    | exact bo (fun x y => x && y)
    | exact bo (fun x y => x || y)
    | exact bo (fun x y => x != y)
    | exact no
    | exact sub _
    | exact nu
    | refine ite_w ?_ ?_
theorem applyG_w {op : List UInt8} {l : List Tm} {self : Int} {v : Tm} (hl : ∀ x ∈ l, x.chk = 0) (hlen : l.length ≤ 2) (h : applyG op l self = some v) : v.w < 1099511627776 := by
  match l, hl, hlen with
  | [], _, _ => cases h; rw [Tm.w_mk]; simp
  | [a], hl, _ => exact oneG_w (hl a (by simp)) _ h
  | [a, b], hl, _ => exact twoG_w (hl b (by simp)) _ h
  | _ :: _ :: _ :: _, _, h => simp at h
end Go.Av
namespace Go.Proofs.YtogebohommickaaGreat
open Go.Av
theorem wholeG_O (t : Tm) : wholeG false t = wholeO t := by unfold wholeG wholeO; rfl
theorem mWhole_of {e : Env} {t : Tm} (h : t.w < 1099511627776) : Gets (kOpt (EVd (EV cfg) 54 [.ptr 0 0 0, t.av] 7 (mR e false)) fun q => kTmV q.1 fun (n n_1 : Int) (s : List UInt8) (rows : List (List AV)) => some (AV.agg [.int .i64 n, .int .i64 n_1, .str s, .sl rows], q.2)) (Res e (wholeO t)) := by
  have := mWhole_ev e false h
  rw [wholeG_O] at this
  exact Gets.bind this fun r h => ret_res h (Res_tm h)
theorem mWhole_bad {e : Env} (t : Tm) : Gets (kOpt (EVd (EV cfg) 54 [.ptr 0 0 0, t.av] 7 (mR e true)) fun q => kTmV q.1 fun (n n_1 : Int) (s : List UInt8) (rows : List (List AV)) => some (AV.agg [.int .i64 n, .int .i64 n_1, .str s, .sl rows], q.2)) (Res e none) := by
  have hr := mRaise_ev e true
  have h1 : EVd (EV cfg) 54 [.ptr 0 0 0, t.av] 7 (mR e true) = some (zeroT.av, mR e true) := by
    apply Gets.get
    rw [Tm.av, Tm.cells_eq]
    refine mWhole_run _ _ _ _ _ _ _ _ _ _ _ ?_
    rw [cond_true, hr]
    simp only [kOptSome, kTmV_av]
    rw [av_unf]; exact ⟨_, rfl, rfl⟩
  rw [h1]
  simp only [kOptSome, kTmV_av, av_unf]
  exact ret_true
theorem agg_mk (k : Int) (ts : List Tm) : (AV.agg [.int .i64 k, .int .i64 0, .str [], .sl (rowsT ts)]) = (Tm.mk k 0 [] ts).av := by rw [Tm.av_mk]
theorem vals_whole {e : Env} (he : EnvOk e) {l : List Tm} (k : Int) (hlen : l.length ≤ 64) (hl : ∀ x ∈ l, x.chk = 0 ∧ isG (namesG e) x = true)
    (hv : Gets (EVd (EV cfg) 56 [.ptr 0 0 0, .sl (rowsT l)] 7 (mR e false)) (ResL e (seqO (optsG e l)))) :
    Gets (kOpt (EVd (EV cfg) 56 [.ptr 0 0 0, .sl (rowsT l)] 7 (mR e false)) fun q => kSl q.1 fun (rows : List (List AV)) => kOpt (EVd (EV cfg) 54 [.ptr 0 0 0, .agg [.int .i64 k, .int .i64 0, .str [], .sl rows]] 7 q.2) fun q => kTmV q.1 fun (n n_1 : Int) (s : List UInt8) (rows : List (List AV)) => some (AV.agg [.int .i64 n, .int .i64 n_1, .str s, .sl rows], q.2)) (Res e ((seqO (optsG e l)).bind fun ts => wholeO (.mk k 0 [] ts))) := by
  refine Gets.bind hv ?_
  intro r hr
  cases ho : seqO (optsG e l) with
  | none =>
    rw [ho] at hr
    obtain ⟨h1, ts, h2⟩ := hr
    rw [h1, h2, kSl_sl, agg_mk]
    exact mWhole_bad _
  | some ts =>
    rw [ho] at hr
    obtain rfl : r = (.sl (rowsT ts), mR e false) := hr
    have h1 := wL_bound (seqO_chk he hl ho)
    have h2 := seqO_len ho
    simp only [kSl_sl, agg_mk]
    rw [Option.bind_some]
    have h3 : ts.length * 4259840 ≤ 64 * 4259840 := Nat.mul_le_mul_right _ (by omega)
    exact mWhole_of (by rw [Tm.w_mk]; simp only [List.length_nil]; omega)
theorem lazy_end {e : Env} {y : Tm} : Gets (kOpt (EVm (EV cfg) 57 [.ptr 0 0 0, y.av] 7 (mR e false)) fun (q : MV × List (List AV)) => kMBool q.1 fun (_ : Bool) => some (y.av, q.2)) (Res e ((boolG y).map fun _ => y)) := by
  rw [mBool_ev]
  simp only [kOptSome, kMBool_bool]
  cases boolG y with
  | none => exact ret_true
  | some b => exact ret_false
theorem mValue_ev {e : Env} (he : EnvOk e) (hp : ProductOk) : ∀ (n : Nat) (t : Tm), t.w ≤ n → t.chk = 0 → isG (namesG e) t = true →
    Gets (EVd (EV cfg) 24 [.ptr 0 0 0, t.av] 7 (mR e false)) (Res e (valG e t)) := by
  intro n
  induction n with
  | zero => intro t h; have := w_pos t; omega
  | succ n ih =>
    intro t hw hc hg
    have hwe := t.w_eq
    have hwc := w_chk hc
    have hvar := patVar_ev (t := t) (by omega)
    have hbl := he.len
    have hbw : ∀ p ∈ e.binds, p.2.w < 1099511627776 := fun p hp => by have := w_chk (mayB_chk he.may p hp); omega
    have vals : ∀ l : List Tm, l.length ≤ 64 → (∀ x ∈ l, x.w ≤ n ∧ x.chk = 0 ∧ isG (namesG e) x = true) → Gets (EVd (EV cfg) 56 [.ptr 0 0 0, .sl (rowsT l)] 7 (mR e false)) (ResL e (seqO (optsG e l))) := by
      intro l hlen hl
      rw [← seqO_valsG]
      exact mValues_of (by omega) fun x hx => ih x (hl x hx).1 (hl x hx).2.1 (hl x hx).2.2
    rw [Tm.av, Tm.cells_eq] at hvar ⊢
    refine mValue_run _ _ _ _ _ _ _ _ _ _ _ ?_
    rw [hvar]
    simp only [beqI, beqS, kOptSome]
    by_cases h2 : t.kind = 2
    · rw [decide_eq_true h2, cond_true, valG_atom h2]
      rw [isG_atom h2] at hg
      simp only [varR, kTup, kCons, kInt_int, kBool_bool, kNil]
      cases hx : varT t with
      | some x =>
        rw [hx] at hg
        obtain ⟨y, hy⟩ := lookB_some (of_decide_eq_true hg)
        have hf := patFind_ev (L := e.binds) (by omega) hbw x
        have hfr : findR (findG x e.binds) = .tup [y.av, .bool true] := by
          unfold findG
          rw [if_pos he.may, hy]; rfl
        rw [hfr] at hf
        simp only [Option.isSome_some, Option.getD_some, cond_true, hf, kOptSome, hy]
        obtain ⟨ky, ny, sy, ly⟩ := y
        rw [Tm.av_mk]
        refine ⟨_, rfl, ?_⟩
        show _ = ((Tm.mk ky ny sy ly).av, mR e false)
        rw [Tm.av_mk]
      | none =>
        simp only [Option.isSome_none, cond_false]
        by_cases s1 : t.str = [36, 95]
        · rw [if_pos s1, decide_eq_true s1, cond_true, av_unf]; exact ret_false
        rw [if_neg s1, decide_eq_false s1, cond_false]
        by_cases s2 : t.str = [36, 36]
        · rw [if_pos s2, decide_eq_true s2, cond_true, mBound_ev (by omega)]
          simp only [kOptSome, kTmV_av, av_unf]
          rw [listT_makeG]
          refine mWhole_of ?_
          have h1 := listT_w (e.binds.map (·.2))
          have h3 := wL_bound (l := e.binds.map (·.2)) (fun x hx => by
            obtain ⟨p, hp, rfl⟩ := List.mem_map.1 hx
            exact mayB_chk he.may p hp)
          rw [List.length_map] at h1 h3
          have h4 : e.binds.length * 4259840 ≤ 100 * 4259840 := Nat.mul_le_mul_right _ hbl
          omega
        rw [if_neg s2, decide_eq_false s2, cond_false, av_unf]; exact ret_false
    rw [decide_eq_false h2, cond_false]
    have hsub : ∀ x ∈ t.subs, x.w ≤ n ∧ x.chk = 0 := fun x hx => by
      have := wL_mem hx
      exact ⟨by omega, chk_sub hc hx⟩
    by_cases h9 : t.kind = 9
    · rw [decide_eq_true h9, cond_true, valG_cons h9]
      rw [isG_cons h9] at hg
      have hall := allG_mem hg
      exact vals_whole he 9 (subs_chk hc) (fun x hx => ⟨(hsub x hx).2, hall x hx⟩) (vals t.subs (subs_chk hc) fun x hx => ⟨(hsub x hx).1, (hsub x hx).2, hall x hx⟩)
    rw [decide_eq_false h9, cond_false]
    by_cases h7 : t.kind = 7
    · rw [decide_eq_true h7, cond_true]
      cases hl : t.subs with
      | nil => rw [isG_nil h7 hl] at hg; cases hg
      | cons f r =>
        have hf := hsub f (by rw [hl]; simp)
        have hr : ∀ x ∈ r, x.w ≤ n ∧ x.chk = 0 := fun x hx => hsub x (by rw [hl]; simp [hx])
        have hlen := subs_chk hc
        rw [hl, List.length_cons] at hlen
        rw [valG_tup h7 hl]
        rw [isG_tup h7 hl] at hg
        have c2 : leInt 1 ((rowsT (f :: r)).length : Int) = true := by rw [rowsT_length]; exact decide_eq_true (by simp; omega)
        have tk : List.take ((rowsT (f :: r)).length - 1) (List.drop 1 (rowsT (f :: r))) = rowsT r := by
          rw [rowsT_cons, List.drop_succ_cons, List.drop_zero, List.length_cons, Nat.add_sub_cancel, List.take_length]
        rw [c2, tk]
        simp only [cond_true, lt0T, get0T, kOptSome, length_cells, Nat.beq_refl, ble44, take_cells, kTmC_cells, rowsOk_rowsT, beqI, beqS]
        by_cases f7 : f.kind = 7
        · rw [if_pos f7] at hg ⊢
          rw [decide_eq_true f7, cond_true]
          rw [Bool.and_eq_true] at hg
          have hall := allG_mem hg.2
          have fs := subs_chk hf.2
          have hfs : ∀ x ∈ f.subs, x.w ≤ n ∧ x.chk = 0 := fun x hx => by
            have h1 := wL_mem hx
            have h2 := f.w_eq
            exact ⟨by have := hf.1; omega, chk_sub hf.2 hx⟩
          exact vals_whole he 7 fs (fun x hx => ⟨(hfs x hx).2, hall x hx⟩) (vals f.subs fs fun x hx => ⟨(hfs x hx).1, (hfs x hx).2, hall x hx⟩)
        rw [if_neg f7] at hg ⊢
        rw [decide_eq_false f7, cond_false]
        by_cases f2 : f.kind = 2
        · rw [if_pos f2] at hg
          by_cases hk : f.str = [99, 111, 110, 115, 116]
          · rw [if_pos hk] at hg ⊢
            rw [decide_eq_true hk, cond_true]
            match r, of_decide_eq_true hg with
            | [a], _ =>
              simp only [lt1T, get1T, cond_true, kOptSome, length_cells, Nat.beq_refl, ble44, take_cells, kTmC_cells, av_unf]
              exact ret_false
          rw [if_neg hk] at hg ⊢
          rw [decide_eq_false hk, cond_false]
          rw [Bool.and_eq_true] at hg
          have hrg := allG_mem hg.2
          have hop := of_decide_eq_true hg.1
          by_cases ha : f.str = [97, 110, 100, 97, 108, 115, 111]
          · rw [if_pos ha, decide_eq_true ha]
            have hl2 : r.length = 2 := by
              rw [ha] at hop
              have : opsG [97, 110, 100, 97, 108, 115, 111] = [2] := by decide
              rw [this] at hop
              simp at hop; omega
            match r, hr, hrg with
            | [], _, _ => simp at hl2
            | [a], _, _ => simp at hl2
            | a :: b :: q, hr, hrg =>
              have ra := hr a (by simp)
              have rb := hr b (by simp)
              have iha := ih a ra.1 ra.2 (hrg a (by simp))
              have ihb := ih b rb.1 rb.2 (hrg b (by simp))
              simp only [cond_true, cond_false, lt1T, lt2T, get1T, get2T, kOptSome, length_cells, Nat.beq_refl, ble44, take_cells, kTmC_cells, av_unf, optsG, lazyG]
              refine Gets.bind iha ?_
              intro x hx
              cases hva : valG e a with
              | none =>
                rw [hva] at hx
                obtain ⟨h1, y, h2⟩ := hx
                rw [h1, h2]
                simp only [kTmV_av, mR_row, mR_bad, kOptSome, kBool_bool, cond_true, av_unf]
                exact ret_true
              | some y =>
                rw [hva] at hx
                obtain rfl : x = (y.av, mR e false) := hx
                simp only [kTmV_av, mR_row, mR_bad, kOptSome, kBool_bool, cond_false, av_unf, mBool_ev, kMBool_bool, Option.bind_some]
                cases hb : boolG y with
                | none =>
                  simp only [Option.isNone_none, Bool.or_true, cond_true, Option.bind_none]
                  rw [cond_same]; exact ret_true
                | some v =>
                  rw [boolG_some hb]
                  simp only [Option.isNone_some, Bool.or_false, cond_false, Option.bind_some]
                  cases v with
                  | false =>
                    rw [if_neg (by simp)]; exact ret_false
                  | true =>
                    rw [if_pos rfl]
                    change Gets (kOpt (EVd (EV cfg) _ _ 7 (mR e false)) _) _
                    refine Gets.bind ihb ?_
                    intro x hx
                    cases hvb : valG e b with
                    | none =>
                      rw [hvb] at hx
                      obtain ⟨h1, z, h2⟩ := hx
                      rw [h1, h2]
                      simp only [kTmV_av, mR_row, mR_bad, kOptSome, kBool_bool, Bool.not_true, cond_false, av_unf]
                      exact ret_true
                    | some z =>
                      rw [hvb] at hx
                      obtain rfl : x = (z.av, mR e false) := hx
                      simp only [kTmV_av, mR_row, mR_bad, kOptSome, kBool_bool, Bool.not_false, cond_true, av_unf, Option.bind_some]
                      exact lazy_end
          rw [if_neg ha, decide_eq_false ha]
          by_cases hb : f.str = [111, 114, 101, 108, 115, 101]
          · rw [if_pos hb, decide_eq_true hb]
            have hl2 : r.length = 2 := by
              rw [hb] at hop
              have : opsG [111, 114, 101, 108, 115, 101] = [2] := by decide
              rw [this] at hop
              simp at hop; omega
            simp only [cond_false]
            match r, hr, hrg with
            | [], _, _ => simp at hl2
            | [a], _, _ => simp at hl2
            | a :: b :: q, hr, hrg =>
              have ra := hr a (by simp)
              have rb := hr b (by simp)
              have iha := ih a ra.1 ra.2 (hrg a (by simp))
              have ihb := ih b rb.1 rb.2 (hrg b (by simp))
              simp only [cond_true, cond_false, lt1T, lt2T, get1T, get2T, kOptSome, length_cells, Nat.beq_refl, ble44, take_cells, kTmC_cells, av_unf, optsG, lazyG]
              refine Gets.bind iha ?_
              intro x hx
              cases hva : valG e a with
              | none =>
                rw [hva] at hx
                obtain ⟨h1, y, h2⟩ := hx
                rw [h1, h2]
                simp only [kTmV_av, mR_row, mR_bad, kOptSome, kBool_bool, cond_true, av_unf]
                exact ret_true
              | some y =>
                rw [hva] at hx
                obtain rfl : x = (y.av, mR e false) := hx
                simp only [kTmV_av, mR_row, mR_bad, kOptSome, kBool_bool, cond_false, av_unf, mBool_ev, kMBool_bool, Option.bind_some]
                cases hb : boolG y with
                | none =>
                  simp only [Option.isNone_none, Bool.or_true, cond_true, Option.bind_none]
                  rw [cond_same]; exact ret_true
                | some v =>
                  rw [boolG_some hb]
                  simp only [Option.isNone_some, Bool.or_false, cond_false, Option.bind_some]
                  cases v with
                  | true =>
                    rw [if_neg (by simp)]; exact ret_false
                  | false =>
                    rw [if_pos rfl]
                    change Gets (kOpt (EVd (EV cfg) _ _ 7 (mR e false)) _) _
                    refine Gets.bind ihb ?_
                    intro x hx
                    cases hvb : valG e b with
                    | none =>
                      rw [hvb] at hx
                      obtain ⟨h1, z, h2⟩ := hx
                      rw [h1, h2]
                      simp only [kTmV_av, mR_row, mR_bad, kOptSome, kBool_bool, Bool.not_true, cond_false, av_unf]
                      exact ret_true
                    | some z =>
                      rw [hvb] at hx
                      obtain rfl : x = (z.av, mR e false) := hx
                      simp only [kTmV_av, mR_row, mR_bad, kOptSome, kBool_bool, Bool.not_false, cond_true, av_unf, Option.bind_some]
                      exact lazy_end
          rw [if_neg hb, decide_eq_false hb]
          simp only [cond_false]
          have hv := vals r (by omega) fun x hx => ⟨(hr x hx).1, (hr x hx).2, hrg x hx⟩
          refine Gets.bind hv ?_
          intro q hq
          cases ho : seqO (optsG e r) with
          | none =>
            rw [ho] at hq
            obtain ⟨h1, ts, h3⟩ := hq
            rw [h1, h3]
            simp only [kSl_sl, mR_row, mR_bad, kOptSome, kBool_bool, cond_true]
            exact ⟨_, rfl, rfl, zeroT, by rw [zeroT_av]⟩
          | some ts =>
            rw [ho] at hq
            obtain rfl : q = (.sl (rowsT ts), mR e false) := hq
            have hts := seqO_chk he (fun x hx => ⟨(hr x hx).2, hrg x hx⟩) ho
            have hlt := seqO_len ho
            have h2 := opsG_two _ hop
            simp only [kSl_sl, mR_row, mR_bad, kOptSome, kBool_bool, cond_false, Option.bind_some]
            refine Gets.bind (mApply_ev e f.str hts (by omega) (fun _ => hp)) ?_
            intro q hq
            cases hap : applyG f.str ts e.self with
            | none =>
              rw [hap] at hq
              obtain ⟨h1, z, h3⟩ := hq
              rw [h1, h3]
              simp only [kTmV_av, av_unf]
              exact mWhole_bad z
            | some z =>
              rw [hap] at hq
              obtain rfl : q = (z.av, mR e false) := hq
              simp only [kTmV_av, av_unf, Option.bind_some]
              exact mWhole_of (applyG_w hts (by omega) hap)
        · rw [if_neg f2] at hg; cases hg
    · rw [decide_eq_false h7, valG_other h2 h9 h7, cond_false, av_unf]; exact ret_false
end Go.Proofs.YtogebohommickaaGreat
end

section
namespace Go.Av
theorem kChain {α : Type} (t : Tm) (K : Int → Int → List UInt8 → List (List AV) → Option α) : (kCons t.cells fun (c : AV) (cs : List AV) => kInt .i64 c fun (n : Int) => kCons cs fun (c : AV) (cs : List AV) => kInt .i64 c fun (n_1 : Int) => kCons cs fun (c : AV) (cs : List AV) => kStr c fun (s : List UInt8) => kCons cs fun (c : AV) (cs : List AV) => kSl c fun (rows : List (List AV)) => kNil cs (K n n_1 s rows)) = K t.kind t.num t.str (rowsT t.subs) := kTmC_cells t K
end Go.Av
namespace Go.Proofs.YtogebohommickaaGreat
open Go.Av
theorem r17List_ev {l : List Tm} (hlen : l.length < 1099511627776) : EVf (EV cfg) 64 [.sl (rowsT l)] = some (makeG l (.mk 8 0 [] [])).av := by
  have loop : ∀ (j : Nat) (a : Tm), j ≤ l.length → Gets (wy64_0 (rowsT l) ((j : Int) - 1) 0 0 [] [] a.kind a.num a.str (rowsT a.subs)) (· = ((l.take j).foldr pairG a).av) := by
    intro j
    induction j with
    | zero =>
      intro a _
      refine wy64_0_step _ _ _ _ _ _ _ _ _ _ ?_
      refine ⟨_, rfl, ?_⟩
      rw [av_unf]; rfl
    | succ j ih =>
      intro a hj
      refine wy64_0_step _ _ _ _ _ _ _ _ _ _ ?_
      have hil : j < l.length := by omega
      have hx : l[j]? = some l[j] := List.getElem?_eq_getElem hil
      have h := ih (pairG l[j] a) (by omega)
      have e1 : l.take (j + 1) = l.take j ++ [l[j]] := by rw [List.take_add_one, hx]; rfl
      have e2 : (((j + 1 : Nat) : Int) - 1) = (j : Int) := by omega
      have w1 : IntKind.wrap .i64 ((j : Int) - 1) = (j : Int) - 1 := wrap64 (by omega) (by omega)
      rw [e2, w1, decide_eq_true (show (j : Int) ≥ 0 by omega), rowsT_length, leInt_zero, ltInt_nat, decide_eq_true hil, rowsT_at hx, e1, List.foldr_append]
      simp only [cond_true, Bool.and_self, length_cells, Nat.beq_refl, take_cells, kTmC_cells, show Nat.ble 4 4 = true from rfl, kOptSome]
      rw [← Tm.cells_eq, ← Tm.cells_eq]
      have e3 : rowsT (pairG l[j] a).subs = [l[j].cells, a.cells] := by show rowsT [l[j], a] = _; rw [rowsT_cons, rowsT_cons, rowsT_nil]
      rw [e3] at h
      exact h
  apply Gets.get
  refine r17List_run _ ?_
  rw [rowsT_length, wrap64 (by omega) (by omega)]
  have h := loop l.length (.mk 8 0 [] []) (Nat.le_refl _)
  rw [List.take_length, show rowsT (Tm.mk 8 0 [] []).subs = [] from rowsT_nil] at h
  exact h
theorem r17Whole_ev {t : Tm} {o : Option Tm} (h : ∀ x, o = some x → t = x) (hw : t.w < 1099511627776) : EVf (EV cfg) 63 [t.av, .bool o.isSome] = some (tbR (o.bind wholeO)) := by
  have hc := r02Check_ev hw
  apply Gets.get
  rw [Tm.av, Tm.cells_eq] at hc ⊢
  refine r17Whole_run _ _ _ _ _ ?_
  rw [hc, ← zeroT_av]
  simp only [kOptSome, kInt_int, av_unf]
  cases o with
  | none => exact ⟨_, rfl, rfl⟩
  | some x =>
    obtain rfl := h x rfl
    rw [Option.bind_some]
    unfold wholeO
    by_cases h0 : t.chk = 0
    · have e0 : (t.chk != 0) = false := by rw [h0]; rfl
      rw [e0, if_pos h0]; exact ⟨_, rfl, rfl⟩
    · have e0 : (t.chk != 0) = true := by simpa using h0
      rw [e0, if_neg h0]; exact ⟨_, rfl, rfl⟩
theorem r17Self_ev (n : Int) : EVs (EV cfg) 47 [.int .i64 n] = some (.bool (selfG n)) := by
  apply Gets.get
  refine r17Self_run _ ?_
  unfold selfG
  by_cases h : 1 ≤ n
  · rw [decide_eq_true (show n ≥ 1 from h)]; exact ⟨_, rfl, rfl⟩
  · rw [decide_eq_false (show ¬ n ≥ 1 from h)]; exact ⟨_, rfl, rfl⟩
theorem r17Names_ev {L : List (Int × Tm)} (hlen : L.length < 1099511627776) : EVf (EV cfg) 28 [.sl (bindsR L)] = some (.sl (intsR (L.map (·.1)))) := by
  have loop : ∀ (d i : Nat), i + d = L.length → Gets (wy28_0 (bindsR L) i i (intsR ((L.take i).map (·.1)))) (· = .sl (intsR (L.map (·.1)))) := by
    intro d
    induction d with
    | zero =>
      intro i hi
      refine wy28_0_step _ _ _ _ ?_
      obtain rfl : i = L.length := by omega
      have hb : Nat.ble (0 + L.length) (intsR ((L.take L.length).map (·.1))).length = true := by rw [Nat.ble_eq, intsR_len, List.length_map, List.length_take]; omega
      have ht : List.take L.length (intsR ((L.take L.length).map (·.1))) = intsR (L.map (·.1)) := by
        rw [List.take_of_length_le (by rw [intsR_len, List.length_map, List.length_take]; omega), List.take_length]
      rw [bindsR_len, decide_eq_false (by omega), hb, ht]
      exact ⟨_, rfl, rfl⟩
    | succ d ih =>
      intro i hi
      refine wy28_0_step _ _ _ _ ?_
      have hil : i < L.length := by omega
      have hx : L[i]? = some L[i] := List.getElem?_eq_getElem hil
      have h := ih (i + 1) (by omega)
      have e1 : (L.take (i + 1)).map (·.1) = (L.take i).map (·.1) ++ [L[i].1] := by
        have ht : L.take (i + 1) = L.take i ++ [L[i]] := by rw [List.take_add_one, hx]; rfl
        rw [ht, List.map_append]; rfl
      have hl0 : (intsR ((L.take i).map (·.1))).length = i := by rw [intsR_len, List.length_map, List.length_take]; omega
      have e2 : List.append (List.take i (intsR ((L.take i).map (·.1)))) [[AV.int .i64 L[i].1]] = intsR ((L.take (i + 1)).map (·.1)) := by
        rw [List.take_of_length_le (by omega), e1]; simp [intsR]
      have e3 : Nat.ble (0 + i) (intsR ((L.take i).map (·.1))).length = true := by rw [hl0, Nat.ble_eq]; omega
      rw [bindsR_len, decide_eq_true (show (i : Int) < (L.length : Int) by omega), leInt_zero, ltInt_nat, decide_eq_true hil, get?Internal_eq, Int.toNat_natCast, bindsR_get, hx, wrap_succ hil hlen]
      simp only [Option.map_some, cond_true, Bool.and_self, kOptSome, List.length_cons, length_cells, show Nat.beq (4 + 1) 5 = true from rfl, get?Internal_eq, List.getElem?_cons_zero, kInt_int, e2, e3, fits8 (show i + 1 ≤ 1099511627776 by omega)]
      exact h
  apply Gets.get
  refine r17Names_run _ ?_
  exact loop L.length 0 (by omega)
theorem r02Copy_ev (t : Tm) : t.w < 1099511627776 → EVf (EV cfg) 30 [t.av] = some t.av := by
  induction t using Tm.ind with
  | _ k n s l ih =>
    intro hw
    rw [Tm.w_mk] at hw
    have hlen := wL_len l
    have ih' : ∀ x ∈ l, EVf (EV cfg) 30 [x.av] = some x.av := fun x hx => ih x hx (by have := wL_mem hx; omega)
    have loop : ∀ d i : Nat, i + d = l.length → Gets (wy30_0 i i k n s (rowsT l) 0 0 [] [] (rowsT (l.take i))) (· = (Tm.mk k n s l).av) := by
      intro d
      induction d with
      | zero =>
        intro i hi
        refine wy30_0_step _ _ _ _ _ _ _ _ _ _ _ ?_
        obtain rfl : i = l.length := by omega
        have hb : Nat.ble (0 + l.length) (rowsT l).length = true := by rw [Nat.ble_eq, rowsT_length]; omega
        have ht : List.take l.length (rowsT l) = rowsT l := List.take_of_length_le (by rw [rowsT_length]; omega)
        rw [rowsT_length, decide_eq_false (by omega), List.take_length, hb, ht, Tm.av_mk]
        exact ⟨_, rfl, rfl⟩
      | succ d ihd =>
        intro i hi
        have hil : i < l.length := by omega
        refine wy30_0_step _ _ _ _ _ _ _ _ _ _ _ ?_
        have hx : l[i]? = some l[i] := List.getElem?_eq_getElem hil
        have h1 := ih' l[i] (List.mem_of_getElem? hx)
        have h2 := ihd (i + 1) (by omega)
        have e1 : l.take (i + 1) = l.take i ++ [l[i]] := by rw [List.take_add_one, hx]; rfl
        have ht : (rowsT (l.take i)).length = i := by rw [rowsT_length, List.length_take]; omega
        have e2 : List.append (List.take i (rowsT (l.take i))) [l[i].cells] = rowsT (l.take (i + 1)) := by
          rw [List.take_of_length_le (by omega), e1, rowsT_append, rowsT_cons, rowsT_nil]; rfl
        have e3 : Nat.ble (0 + i) (rowsT (l.take i)).length = true := by rw [ht, Nat.ble_eq]; omega
        rw [rowsT_length, decide_eq_true (show (i : Int) < (l.length : Int) by omega), leInt_zero, ltInt_nat, decide_eq_true hil, rowsT_at hx, wrap_succ (n := l.length) hil (by omega), e3, fits56 (by omega)]
        simp only [cond_true, Bool.and_self, length_cells, Nat.beq_refl, take_cells, kTmC_cells, show Nat.ble 4 4 = true from rfl, av_unf, h1, kOptSome, kTmV_av]
        rw [← Tm.cells_eq, e2]
        exact h2
    apply Gets.get
    rw [Tm.av_mk]
    refine r02Copy_run _ _ _ _ ?_
    rw [← Tm.av_mk]
    exact (by simpa [rowsT_nil] using loop l.length 0 (by omega))
theorem r16find_ev {L : List (Int × Tm)} (hlen : L.length < 1099511627776) (n : Int) : EVf (EV cfg) 87 [.sl (bindsR L), .int .i64 n] = some (tbR (lookB n L)) := by
  have loop : ∀ (d i : Nat), i + d = L.length → Gets (wy87_0 (bindsR L) n i 0 0 [] []) (· = tbR (lookB n (L.drop i))) := by
    intro d
    induction d with
    | zero =>
      intro i hi
      refine wy87_0_step _ _ _ _ _ _ _ ?_
      rw [bindsR_len, decide_eq_false (by omega), List.drop_eq_nil_of_le (by omega), ← zeroT_av]
      exact ⟨_, rfl, rfl⟩
    | succ d ih =>
      intro i hi
      refine wy87_0_step _ _ _ _ _ _ _ ?_
      have hil : i < L.length := by omega
      have hx : L[i]? = some L[i] := List.getElem?_eq_getElem hil
      have h := ih (i + 1) (by omega)
      rw [bindsR_len, decide_eq_true (show (i : Int) < (L.length : Int) by omega), leInt_zero, ltInt_nat, decide_eq_true hil, get?Internal_eq, Int.toNat_natCast, bindsR_get, hx, wrap_succ hil hlen, List.drop_eq_getElem_cons hil, lookB]
      simp only [Option.map_some, cond_true, Bool.and_self, kOptSome, List.length_cons, length_cells, show Nat.beq (4 + 1) 5 = true from rfl, show Nat.ble 5 (4 + 1) = true from rfl, get?Internal_eq, List.getElem?_cons_zero, kInt_int, List.drop_succ_cons, List.drop_zero, take_cells, kChain, beqI, av_unf]
      by_cases he : L[i].1 = n
      · rw [decide_eq_true he, if_pos he]; exact ⟨_, rfl, rfl⟩
      · rw [decide_eq_false he, if_neg he]; exact h
  apply Gets.get
  refine r16find_run _ _ ?_
  exact (by simpa using loop L.length 0 (by omega))
theorem r16May_ev {L : List (Int × Tm)} (hlen : L.length < 1099511627776) (hw : ∀ p ∈ L, p.2.w < 1099511627776) : EVs (EV cfg) 59 [.sl (bindsR L)] = some (.bool (mayB (-1) L)) := by
  have loop : ∀ (d i : Nat) (last : Int), i + d = L.length → (i = 0 → last = -1) → (∀ j p, i = j + 1 → L[j]? = some p → last = p.1 ∧ 0 ≤ p.1) → Gets (wy59_0 (bindsR L) i) (· = .bool (mayB last (L.drop i))) := by
    intro d
    induction d with
    | zero =>
      intro i last hi _ _
      refine wy59_0_step _ _ ?_
      rw [bindsR_len, decide_eq_false (by omega), List.drop_eq_nil_of_le (by omega)]
      exact ⟨_, rfl, rfl⟩
    | succ d ih =>
      intro i last hi h0 hs
      refine wy59_0_step _ _ ?_
      have hil : i < L.length := by omega
      have hx : L[i]? = some L[i] := List.getElem?_eq_getElem hil
      have hck := r02Check_ev (hw L[i] (List.mem_of_getElem? hx))
      have bne0 : ∀ z : Int, (z != 0) = !decide (z = 0) := fun z => by rw [bne, beqI]
      have h := ih (i + 1) L[i].1 (by omega) (fun e => by omega)
      have e0 : ∀ k : List AV → Option AV, kOpt (bindsR L)[Int.toNat (i : Int)]? k = k (.int .i64 L[i].1 :: L[i].2.cells) := fun k => by
        rw [Int.toNat_natCast, bindsR_get, hx]; rfl
      have fin : last < L[i].1 → 0 ≤ L[i].1 → L[i].1 ≤ 99 → Gets (kOpt (EVs (EV cfg) 48 [L[i].2.av]) fun (v : AV) => kInt .i64 v fun (n : Int) => bif n != 0 then some (.bool false) else wy59_0 (bindsR L) ((i + 1 : Nat) : Int)) (· = .bool (mayB last (L[i] :: L.drop (i + 1)))) := by
        intro g1 g2 g3
        have h := h (fun j p hj hp => by obtain rfl : i = j := (by omega); rw [hx] at hp; cases hp; exact ⟨rfl, g2⟩)
        rw [hck, mayB, decide_eq_true g1, decide_eq_true g3, Bool.true_and, Bool.true_and]
        simp only [kOptSome, kInt_int, bne0]
        by_cases hc : L[i].2.chk = 0
        · rw [decide_eq_true hc]; exact h
        · rw [decide_eq_false hc]; exact ⟨_, rfl, rfl⟩
      rw [bindsR_len, decide_eq_true (show (i : Int) < (L.length : Int) by omega), leInt_zero, ltInt_nat, decide_eq_true hil, wrap_succ hil hlen, List.drop_eq_getElem_cons hil]
      simp only [cond_true, Bool.and_self, e0, List.length_cons, length_cells, show Nat.beq (4 + 1) 5 = true from rfl, show Nat.ble 5 (4 + 1) = true from rfl, get?Internal_eq, List.getElem?_cons_zero, kOptSome, kInt_int, List.drop_succ_cons, List.drop_zero, take_cells, kChain, av_unf]
      have last0 : -1 ≤ last := by
        rcases Nat.eq_zero_or_pos i with h | h
        · rw [h0 h]; omega
        · have hj : i - 1 < L.length := by omega
          have := hs (i - 1) _ (by omega) (List.getElem?_eq_getElem hj); omega
      by_cases g1 : L[i].1 < 0
      · rw [decide_eq_true g1, mayB, decide_eq_false (show ¬ last < L[i].1 by omega)]; exact ⟨_, rfl, rfl⟩
      rw [decide_eq_false g1, cond_false]
      by_cases g2 : L[i].1 > 99
      · rw [decide_eq_true g2, mayB, decide_eq_false (show ¬ L[i].1 ≤ 99 by omega)]
        refine ⟨_, rfl, ?_⟩
        cases decide (last < L[i].1) <;> rfl
      rw [decide_eq_false g2, cond_false]
      by_cases g3 : (i : Int) > 0
      · have hj : i - 1 < L.length := by omega
        have hy : L[i - 1]? = some L[i - 1] := List.getElem?_eq_getElem hj
        obtain ⟨hl1, hl2⟩ := hs (i - 1) _ (by omega) hy
        have w1 : IntKind.wrap .i64 ((i : Int) - 1) = ((i - 1 : Nat) : Int) := by rw [wrap64 (by omega) (by omega)]; omega
        have e1 : ∀ k : List AV → Option AV, kOpt (bindsR L)[Int.toNat ((i - 1 : Nat) : Int)]? k = k (.int .i64 L[i - 1].1 :: L[i - 1].2.cells) := fun k => by
          rw [Int.toNat_natCast, bindsR_get, hy]; rfl
        rw [decide_eq_true g3, cond_true, w1, leInt_zero, ltInt_nat, decide_eq_true hj]
        simp only [cond_true, Bool.and_self, e1, List.length_cons, length_cells, show Nat.beq (4 + 1) 5 = true from rfl, get?Internal_eq, List.getElem?_cons_zero, kOptSome, kInt_int]
        rw [← hl1]
        by_cases g4 : L[i].1 ≤ last
        · rw [decide_eq_true g4, mayB, decide_eq_false (show ¬ last < L[i].1 by omega)]; exact ⟨_, rfl, rfl⟩
        · rw [decide_eq_false g4, cond_false]
          exact fin (by omega) (by omega) (by omega)
      · rw [decide_eq_false g3, cond_false]
        have := h0 (by omega)
        exact fin (by omega) (by omega) (by omega)
  apply Gets.get
  refine r16May_run _ ?_
  exact (by simpa using loop L.length 0 (-1) (by omega) (fun _ => rfl) (fun j p h => by omega))
theorem r16Find_ev {L : List (Int × Tm)} (hlen : L.length < 1099511627776) (hw : ∀ p ∈ L, p.2.w < 1099511627776) (hm : mayB (-1) L = true) (n : Int) : EVf (EV cfg) 62 [.sl (bindsR L), .int .i64 n] = some (tbR (lookB n L)) := by
  apply Gets.get
  refine r16Find_run _ _ ?_
  rw [r16May_ev hlen hw, hm, r16find_ev hlen, ← zeroT_av]
  simp only [kOptSome, kBool_bool, Bool.not_true, cond_false, tbR_eq, kTB, av_unf]
  cases hl : lookB n L with
  | none => exact ⟨_, rfl, rfl⟩
  | some t =>
    have hc := r02Copy_ev t (hw _ (lookB_mem hl))
    simp only [Option.getD_some, hc, kOptSome, kTmV_av, av_unf, Option.isSome_some, Bool.not_true, cond_false]
    exact ⟨_, rfl, rfl⟩
end Go.Proofs.YtogebohommickaaGreat
end

section
namespace Go.Proofs.YtogebohommickaaGreat
open Go.Av
theorem r17May_ev (op : List UInt8) (n : Int) : EVs (EV cfg) 46 [.str op, .int .i64 n] = some (.bool (decide (n ∈ opsG op))) := by
  have hl := opsG_len op
  have loop : ∀ d i : Nat, i + d = (opsG op).length → Gets (wu58_0 n (intsR (opsG op)) i) (· = .bool (decide (n ∈ (opsG op).drop i))) := by
    generalize opsG op = l at hl
    intro d
    induction d with
    | zero =>
      intro i hi
      refine wu58_0_step _ _ _ ?_
      rw [intsR_len, decide_eq_false (by omega), List.drop_eq_nil_of_le (by omega)]
      exact ⟨_, rfl, by simp⟩
    | succ d ih =>
      intro i hi
      have hil : i < l.length := by omega
      refine wu58_0_step _ _ _ ?_
      have hx : l[i]? = some l[i] := List.getElem?_eq_getElem hil
      have hd : l.drop i = l[i] :: l.drop (i + 1) := List.drop_eq_getElem_cons hil
      have h := ih (i + 1) (by omega)
      rw [intsR_len, decide_eq_true (show (i : Int) < (l.length : Int) by omega), leInt_zero, ltInt_nat, decide_eq_true hil, get?Internal_eq, Int.toNat_natCast, intsR_get, hx, wrap_succ hil hl, hd]
      by_cases he : l[i] = n
      · refine ⟨.bool true, ?_, ?_⟩
        · simp [he]
        · rw [he]; simp
      · have hne : (l[i] == n) = false := by rw [beqI]; exact decide_eq_false he
        have hm : decide (n ∈ l[i] :: l.drop (i + 1)) = decide (n ∈ l.drop (i + 1)) := decide_eq_decide.2 (by rw [List.mem_cons]; exact ⟨fun h => h.resolve_left (fun e => he e.symm), Or.inr⟩)
        rw [hm]
        simpa [hne] using h
  apply Gets.get
  refine r17May_run _ _ ?_
  rw [r17Ops_ev]
  exact (by simpa using loop (opsG op).length 0 (by omega))
theorem var_step {k n : Int} {s : List UInt8} {l : List (List AV)} {b : UInt8} {v : Int} {i : Nat} {P : AV → Prop} (hv : 0 ≤ v ∧ v ≤ 9) (hl : s.length ≤ 3) (hb : s[i]? = some b)
    (h : Gets (match digitG b with | none => some (AV.tup [.int .i64 0, .bool false]) | some x => wu55_0 (v * 10 + x) ((i + 1 : Nat) : Int) k n s l) P) : Gets (wu55_0 v i k n s l) P := by
  have hi : i < s.length := (List.getElem?_eq_some_iff.1 hb).1
  refine wu55_0_step _ _ _ _ _ _ ?_
  have hbl := b.toNat_lt
  rw [decide_eq_true (show (i : Int) < (s.length : Int) by omega), leInt_zero]
  simp only [cond_true, get?Internal_eq, Int.toNat_natCast, hb, kOptSome]
  unfold digitG at h
  by_cases h1 : b.toNat < 48
  · rw [if_pos h1] at h
    rw [decide_eq_true (show (b.toNat : Int) < 48 by omega)]; exact h
  · rw [if_neg h1] at h
    rw [decide_eq_false (show ¬ (b.toNat : Int) < 48 by omega), cond_false]
    by_cases h2 : b.toNat > 57
    · rw [if_pos h2] at h
      rw [decide_eq_true (show (b.toNat : Int) > 57 by omega)]; exact h
    · rw [if_neg h2] at h
      rw [decide_eq_false (show ¬ (b.toNat : Int) > 57 by omega), cond_false]
      have w1 : IntKind.wrap .i64 (10 * v) = v * 10 := by rw [wrap64 (by omega) (by omega)]; omega
      have w2 : IntKind.wrap .u8 ((b.toNat : Int) - 48) = (b.toNat : Int) - 48 := by
        simp [IntKind.wrap, IntKind.bits, IntKind.signed]; omega
      have w3 : IntKind.wrap .i64 ((b.toNat : Int) - 48) = (b.toNat : Int) - 48 := wrap64 (by omega) (by omega)
      have w4 : IntKind.wrap .i64 (v * 10 + ((b.toNat : Int) - 48)) = v * 10 + ((b.toNat : Int) - 48) := wrap64 (by omega) (by omega)
      have w5 : IntKind.wrap .i64 ((i : Int) + 1) = ((i + 1 : Nat) : Int) := wrap_succ (n := 3) (by omega) (by omega)
      rw [w1, w2, w3, w4, w5]
      exact h
theorem var_end {k n : Int} {s : List UInt8} {l : List (List AV)} {v : Int} {i : Nat} (hi : i = s.length) : Gets (wu55_0 v i k n s l) (· = .tup [.int .i64 v, .bool true]) := by
  refine wu55_0_step _ _ _ _ _ _ ?_
  rw [decide_eq_false (by omega)]
  exact ⟨_, rfl, rfl⟩
theorem r16Var_ev {t : Tm} (h : t.w < 1099511627776) : EVs (EV cfg) 61 [t.av] = some (varR (varT t)) := by
  have hc := r02Check_ev h
  apply Gets.get
  rw [Tm.av, Tm.cells_eq] at hc ⊢
  refine r16Var_run _ _ _ _ ?_
  rw [hc]
  unfold varT
  simp only [kOptSome, kInt_int]
  by_cases h2 : t.chk = 0
  · have e0 : (t.chk != 0) = false := by rw [h2]; rfl
    rw [e0, cond_false]
    by_cases h1 : t.kind = 2
    · have e1 : (t.kind != 2) = false := by rw [h1]; rfl
      rw [e1, cond_false, if_pos ⟨h1, h2⟩]
      generalize t.str = s
      generalize t.kind = k
      generalize t.num = n
      generalize rowsT t.subs = l
      match s with
      | [] => exact ⟨_, rfl, rfl⟩
      | [a] => exact ⟨_, rfl, rfl⟩
      | a :: b :: c :: d :: l =>
        have h1 : ¬ ((a :: b :: c :: d :: l).length : Int) < 2 := by simp; omega
        have h2 : ((a :: b :: c :: d :: l).length : Int) > 3 := by simp; omega
        rw [decide_eq_false h1, decide_eq_true h2]
        exact ⟨_, rfl, rfl⟩
      | [a, b] =>
        by_cases h : a.toNat = 36
        · have e : (((a.toNat : Int)) != 36) = false := by rw [h]; rfl
          have hs := var_step (k := k) (n := n) (l := l) (s := [a, b]) (b := b) (v := 0) (i := 1) (P := (· = varR (varG [a, b]))) (by omega) (by simp) rfl (by
            rw [varG2, if_pos h]
            cases hd : digitG b with
            | none => exact ⟨_, rfl, rfl⟩
            | some x =>
              refine (var_end (s := [a, b]) rfl).mono ?_
              rintro _ rfl
              show _ = varR (some x)
              simp [varR])
          show Gets (bif (((a.toNat : Int)) != 36) then _ else _) _
          rw [e]
          exact hs
        · have e : (((a.toNat : Int)) != 36) = true := by simpa using fun h' => h (by omega)
          show Gets (bif (((a.toNat : Int)) != 36) then _ else _) _
          rw [e]
          refine ⟨_, rfl, ?_⟩
          rw [varG2, if_neg h]; rfl
      | [a, b, c] =>
        by_cases h : a.toNat = 36
        · have e : (((a.toNat : Int)) != 36) = false := by rw [h]; rfl
          show Gets (bif (((a.toNat : Int)) != 36) then _ else bif (((b.toNat : Int)) == 48) then _ else _) _
          rw [e]
          by_cases hb : b.toNat = 48
          · have e2 : (((b.toNat : Int)) == 48) = true := by rw [hb]; rfl
            rw [e2]
            refine ⟨_, rfl, ?_⟩
            rw [varG3, if_neg (fun h => h.2 hb)]; rfl
          · have e2 : (((b.toNat : Int)) == 48) = false := by simpa using fun h' => hb (by omega)
            rw [e2]
            show Gets (wu55_0 0 1 k n [a, b, c] l) _
            refine var_step (s := [a, b, c]) (b := b) (v := 0) (i := 1) (by omega) (by simp) rfl ?_
            rw [varG3, if_pos ⟨h, hb⟩]
            cases hd : digitG b with
            | none => exact ⟨_, rfl, rfl⟩
            | some x =>
              have hx := digitG_in hd
              refine var_step (s := [a, b, c]) (b := c) (i := 2) (by omega) (by simp) rfl ?_
              cases hd2 : digitG c with
              | none => exact ⟨_, rfl, by simp [varR, hd2]⟩
              | some y =>
                refine (var_end (s := [a, b, c]) rfl).mono ?_
                rintro _ rfl
                simp [varR, hd2]
        · have e : (((a.toNat : Int)) != 36) = true := by simpa using fun h' => h (by omega)
          show Gets (bif (((a.toNat : Int)) != 36) then _ else _) _
          rw [e]
          refine ⟨_, rfl, ?_⟩
          rw [varG3, if_neg (fun h' => h h'.1)]; rfl
    · have e1 : (t.kind != 2) = true := by simpa using h1
      rw [e1, if_neg (fun h => h1 h.1)]
      exact ⟨_, rfl, rfl⟩
  · have e0 : (t.chk != 0) = true := by simpa using h2
    rw [e0, if_neg (fun h => h2 h.2)]
    exact ⟨_, rfl, rfl⟩
end Go.Proofs.YtogebohommickaaGreat
end

section
namespace Go.Proofs.YtogebohommickaaGreat
open Go.Av
theorem r17All_of {V : List Int} {l : List Tm} (hlen : l.length < 1099511627776) (ih : ∀ x ∈ l, EVs (EV cfg) 60 [x.av, .sl (intsR V)] = some (.bool (isG V x))) :
    EVs (EV cfg) 86 [.sl (rowsT l), .sl (intsR V)] = some (.bool (allG V l)) := by
  have loop : ∀ d i : Nat, i + d = l.length → Gets (wu57_0 (rowsT l) (intsR V) i) (· = .bool (allG V (l.drop i))) := by
    intro d
    induction d with
    | zero =>
      intro i hi
      refine wu57_0_step _ _ _ ?_
      rw [rowsT_length, decide_eq_false (by omega), List.drop_eq_nil_of_le (by omega)]
      exact ⟨_, rfl, by rw [allG]⟩
    | succ d ihd =>
      intro i hi
      have hil : i < l.length := by omega
      refine wu57_0_step _ _ _ ?_
      have hx : l[i]? = some l[i] := List.getElem?_eq_getElem hil
      have hd : l.drop i = l[i] :: l.drop (i + 1) := List.drop_eq_getElem_cons hil
      have h1 := ih l[i] (List.mem_of_getElem? hx)
      have h2 := ihd (i + 1) (by omega)
      rw [rowsT_length, decide_eq_true (show (i : Int) < (l.length : Int) by omega), leInt_zero, ltInt_nat, decide_eq_true hil, rowsT_at hx, wrap_succ hil hlen, hd, allG]
      simp only [cond_true, Bool.and_self, length_cells, Nat.beq_refl, take_cells, kTmC_cells, show Nat.ble 4 4 = true from rfl, av_unf, h1, kOptSome, kBool_bool]
      cases hg : isG V l[i] with
      | false => exact ⟨_, rfl, rfl⟩
      | true => rw [Bool.true_and]; exact h2
  apply Gets.get
  exact r17All_run _ _ (by simpa using loop l.length 0 (by omega))
theorem r17Is_ev {V : List Int} (hV : V.length < 1099511627776) : ∀ (n : Nat) (t : Tm), t.w ≤ n → n < 1099511627776 → EVs (EV cfg) 60 [t.av, .sl (intsR V)] = some (.bool (isG V t)) := by
  intro n
  induction n with
  | zero => intro t h; have := w_pos t; omega
  | succ n ih =>
    intro t hw hn
    have hwe := t.w_eq
    have hwl := wL_len t.subs
    have allOf : ∀ l : List Tm, wL l ≤ n → EVs (EV cfg) 86 [.sl (rowsT l), .sl (intsR V)] = some (.bool (allG V l)) := fun l hl =>
      r17All_of (by have := wL_len l; omega) fun x hx => ih x (by have := wL_mem hx; omega) (by omega)
    have hvar := r16Var_ev (t := t) (by omega)
    have hsub := allOf t.subs (by omega)
    apply Gets.get
    rw [Tm.av, Tm.cells_eq] at hvar ⊢
    refine r17Is_run _ _ _ _ _ ?_
    rw [hvar, hsub]
    simp only [beqI, kOptSome, kBool_bool]
    simp only [varR, kTup, kCons, kInt_int, kBool_bool, kNil]
    cases hv : varT t with
    | some x =>
      have h2 : t.kind = 2 := by
        unfold varT at hv
        split at hv
        · rename_i h; exact h.1
        · cases hv
      have hc := r17In_ev V hV x
      simp only [Option.getD_some, Option.isSome_some, cond_true]
      rw [hc, isG_atom h2, hv]; exact ⟨_, rfl, rfl⟩
    | none =>
      simp only [Option.isSome_none, cond_false]
      by_cases h9 : t.kind = 9
      · rw [decide_eq_true h9, cond_true, isG_cons h9]; exact ⟨_, rfl, rfl⟩
      · rw [decide_eq_false h9, cond_false]
        by_cases h7 : t.kind = 7
        · have e7 : (t.kind != 7) = false := by rw [h7]; rfl
          rw [e7, cond_false]
          cases hl : t.subs with
          | nil => rw [isG_nil h7 hl]; exact ⟨_, rfl, rfl⟩
          | cons f r =>
            rw [isG_tup h7 hl]
            rw [hl] at hwl hwe
            rw [wL_cons] at hwe
            have hfw := f.w_eq
            have hfs := allOf f.subs (by omega)
            have hr := allOf r (by omega)
            have hrl := wL_len r
            have c0 : (decide (((rowsT (f :: r)).length : Int) = 0)) = false := by rw [rowsT_length]; exact decide_eq_false (by simp; omega)
            have c1 : ltInt 0 ((rowsT (f :: r)).length : Int) = true := by rw [rowsT_length]; exact decide_eq_true (by simp)
            have c2 : leInt 1 ((rowsT (f :: r)).length : Int) = true := by rw [rowsT_length]; exact decide_eq_true (by simp; omega)
            have c3 : IntKind.wrap .i64 (((rowsT (f :: r)).length : Int) - 1) = (r.length : Int) := by
              rw [rowsT_length, List.length_cons, wrap64 (by omega) (by omega)]; omega
            have c4 : (decide (((rowsT (f :: r)).length : Int) = 1)) = decide (r.length = 0) := by rw [rowsT_length, List.length_cons]; exact decide_eq_decide.2 (by omega)
            have c5 : (decide (((rowsT (f :: r)).length : Int) = 2)) = decide (r.length = 1) := by rw [rowsT_length, List.length_cons]; exact decide_eq_decide.2 (by omega)
            have g0 : (rowsT (f :: r))[(0 : Int).toNat]? = some f.cells := by rw [rowsT_cons]; rfl
            have g0' : (rowsT (f :: r))[0]? = some f.cells := g0
            have tk : List.take ((rowsT (f :: r)).length - 1) (List.drop 1 (rowsT (f :: r))) = rowsT r := by
              rw [rowsT_cons, List.drop_succ_cons, List.drop_zero, List.length_cons, Nat.add_sub_cancel, List.take_length]
            have hm := r17May_ev f.str (r.length : Int)
            rw [c0, c1, c2, c3, c4, c5, tk]
            simp only [cond_false, cond_true, get?Internal_eq, g0, g0', kOptSome, length_cells, Nat.beq_refl, show Nat.ble 4 4 = true from rfl, take_cells, kTmC_cells, rowsOk_rowsT, beqS, hm, hfs, hr, kBool_bool]
            by_cases f7 : f.kind = 7
            · have f2 : (f.kind != 2) = true := by rw [f7]; rfl
              rw [if_pos f7, decide_eq_true f7, f2]
              cases decide (r.length = 0) <;> exact ⟨_, rfl, rfl⟩
            · rw [if_neg f7, decide_eq_false f7, cond_false]
              by_cases f2 : f.kind = 2
              · have e2 : (f.kind != 2) = false := by rw [f2]; rfl
                rw [if_pos f2, e2, cond_false]
                by_cases hc : f.str = [99, 111, 110, 115, 116]
                · rw [if_pos hc, decide_eq_true hc]
                  cases decide (r.length = 0) <;> exact ⟨_, rfl, rfl⟩
                · rw [if_neg hc, decide_eq_false hc, cond_false]
                  cases decide (r.length = 0) <;> cases decide ((r.length : Int) ∈ opsG f.str) <;> exact ⟨_, rfl, rfl⟩
              · have e2 : (f.kind != 2) = true := by simpa using f2
                rw [if_neg f2, e2]
                cases decide (r.length = 0) <;> exact ⟨_, rfl, rfl⟩
        · have e7 : (t.kind != 7) = true := by simpa using h7
          rw [e7]
          by_cases h2 : t.kind = 2
          · rw [isG_atom h2, hv]; exact ⟨_, rfl, rfl⟩
          · rw [isG_other h2 h9 h7]; exact ⟨_, rfl, rfl⟩
theorem r17Check_ev {V : List Int} (hV : V.length < 1099511627776) {t : Tm} (h : t.w < 1099511627776) : EVs (EV cfg) 27 [t.av, .sl (intsR V)] = some (.int .i64 (checkG V t)) := by
  have hc := r02Check_ev h
  have hi := r17Is_ev hV t.w t (Nat.le_refl _) h
  apply Gets.get
  rw [Tm.av, Tm.cells_eq] at hc hi ⊢
  refine r17Check_run _ _ _ _ _ ?_
  rw [hc, hi]
  unfold checkG
  simp only [kOptSome, kInt_int, kBool_bool]
  by_cases h0 : t.chk = 0
  · have : (t.chk != 0) = false := by rw [h0]; rfl
    rw [this, if_pos h0]
    cases isG V t <;> exact ⟨_, rfl, rfl⟩
  · have : (t.chk != 0) = true := by simpa using h0
    rw [this, if_neg h0]; exact ⟨_, rfl, rfl⟩
end Go.Proofs.YtogebohommickaaGreat
end

section
namespace Go.Av
def evalR (r : Tm × Int) : AV := .tup [r.1.av, .int .i64 r.2]
theorem kEvalR {α : Type} (t : Tm) (x : Int) (K : Int → Int → List UInt8 → List (List AV) → Int → Option α) : (kTup (.tup [t.av, .int .i64 x]) fun cs => kCons cs fun c cs => kAgg c fun cs_1 => kCons cs_1 fun c cs_2 => kInt .i64 c fun n => kCons cs_2 fun c cs_3 => kInt .i64 c fun n_1 => kCons cs_3 fun c cs_4 => kStr c fun s => kCons cs_4 fun c cs_5 => kSl c fun rows => kNil cs_5 (kCons cs fun c cs => kInt .i64 c fun m => kNil cs (K n n_1 s rows m))) = K t.kind t.num t.str (rowsT t.subs) x := by
  obtain ⟨k, n, s, l⟩ := t
  rw [Tm.av_mk]; rfl
structure EnvW (e : Env) : Prop where
  obj : e.obj.w < 1099511627776
  len : e.binds.length < 1099511627776
  binds : ∀ p ∈ e.binds, p.2.w < 1099511627776
end Go.Av
namespace Go.Proofs.YtogebohommickaaGreat
open Go.Av
theorem eval_ev (hp : ProductOk) {e : Env} (he : EnvW e) {t : Tm} (ht : t.w < 1099511627776) : EVf (EV cfg) 9 [t.av, envR e.obj e.binds e.self] = some (evalR (evalG e t)) := by
  have hm := guardMay_ev he.len he.binds he.obj e.self
  have hz : AV.agg [.int .i64 0, .int .i64 0, .str [], .sl []] = zeroT.av := zeroT_av.symm
  apply Gets.get
  unfold envR at hm ⊢
  unfold evalR evalG envG
  rw [Tm.av, Tm.cells_eq]
  refine gEval_run _ _ _ _ _ _ _ _ _ _ ?_
  rw [hm]
  unfold mayR
  cases hb : mayB (-1) e.binds with
  | false =>
    rw [if_neg (by simp)]
    simp only [kOptSome, kTup, kCons, kSl_sl, kBool_bool, kNil, Bool.not_false, cond_true, hz, Bool.false_and]
    exact ⟨_, rfl, by rw [if_neg (by simp)]⟩
  | true =>
    rw [if_pos rfl]
    simp only [kOptSome, kTup, kCons, kSl_sl, kBool_bool, kNil, hz, Bool.true_and, List.nil_append, av_unf]
    cases ho : (decide (e.obj.chk = 0) && selfG e.self) with
    | false =>
      simp only [Bool.not_false, cond_true, Bool.false_and]
      exact ⟨_, rfl, by rw [if_neg (by simp)]⟩
    | true =>
      have hok : EnvOk e := envG_ok.1 (by unfold envG; rw [hb, ho]; rfl)
      have hc := guardCheck_ev (V := namesG e) (by unfold namesG; rw [List.length_map]; exact he.len) ht
      have hn : e.binds.map (·.1) = namesG e := rfl
      simp only [Bool.not_true, cond_false, Bool.true_and, hn, hc, kOptSome, kInt_int]
      by_cases h0 : checkG (namesG e) t = 0
      · obtain ⟨h1, h2⟩ := checkG_zero h0
        have hv := mValue_ev hok hp t.w t (Nat.le_refl _) h1 h2
        rw [if_pos (decide_eq_true h0), h0]
        simp only [show ((0 : Int) != 0) = false from rfl, cond_false]
        show Gets (kOpt (EVd (EV cfg) _ _ 7 (mR e false)) _) _
        refine Gets.bind hv ?_
        intro r hr
        cases hvv : valG e t with
        | none =>
          rw [hvv] at hr
          obtain ⟨g1, z, g2⟩ := hr
          rw [g1, g2]
          simp only [kTmV_av, mR_row, mR_bad, kOptSome, kBool_bool, cond_true]
          exact ⟨_, rfl, rfl⟩
        | some v =>
          rw [hvv] at hr
          obtain rfl : r = (v.av, mR e false) := hr
          have hcp := copy_ev (ok_chk (valG_chk hok _ t (Nat.le_refl _) h1 h2 v hvv))
          simp only [kTmV_av, mR_row, mR_bad, kOptSome, kBool_bool, cond_false, av_unf, hcp]
          exact ⟨_, rfl, rfl⟩
      · have : (checkG (namesG e) t != 0) = true := by simpa using h0
        rw [this, if_neg (by simpa using h0)]
        exact ⟨_, rfl, rfl⟩
theorem holds_ev (hp : ProductOk) {e : Env} (he : EnvW e) {l : List Tm} (hl : ∀ x ∈ l, x.w < 1099511627776) (hlen : l.length < 1099511627776) : EVs (EV cfg) 16 [.sl (rowsT l), envR e.obj e.binds e.self] = some (.bool (holdsG e l)) := by
  have loop : ∀ (d i : Nat) (b : Bool), i + d = l.length → Gets (ws25_0 (rowsT l) b i e.obj.kind e.obj.num e.obj.str (rowsT e.obj.subs) (bindsR e.binds) e.self) (· = .bool ((l.drop i).all (trueG e) && b)) := by
    intro d
    induction d with
    | zero =>
      intro i b hi
      refine ws25_0_step _ _ _ _ _ _ _ _ _ ?_
      rw [rowsT_length, decide_eq_false (by omega), List.drop_eq_nil_of_le (by omega)]
      exact ⟨_, rfl, rfl⟩
    | succ d ih =>
      intro i b hi
      refine ws25_0_step _ _ _ _ _ _ _ _ _ ?_
      have hil : i < l.length := by omega
      have hx : l[i]? = some l[i] := List.getElem?_eq_getElem hil
      have hd : l.drop i = l[i] :: l.drop (i + 1) := List.drop_eq_getElem_cons hil
      have h := ih (i + 1) b (by omega)
      have h1 := eval_ev hp he (hl l[i] (List.mem_of_getElem? hx))
      unfold envR at h1
      rw [rowsT_length, decide_eq_true (show (i : Int) < (l.length : Int) by omega), leInt_zero, ltInt_nat, decide_eq_true hil, rowsT_at hx, wrap_succ hil hlen, hd, List.all_cons]
      simp only [cond_true, Bool.and_self, length_cells, Nat.beq_refl, take_cells, kTmC_cells, ble44, av_unf, h1, kOptSome, evalR]
      rw [kEvalR]
      unfold trueG at h ⊢
      simp only [beqS, show ([116, 114, 117, 101] : List UInt8) = tru from rfl]
      by_cases h2 : (evalG e l[i]).2 = 0
      · have e0 : ((evalG e l[i]).2 != 0) = false := by rw [h2]; rfl
        rw [e0, decide_eq_true h2, cond_false, Bool.true_and]
        by_cases h3 : (evalG e l[i]).1.kind = 2
        · have e1 : ((evalG e l[i]).1.kind != 2) = false := by rw [h3]; rfl
          rw [e1, decide_eq_true h3, cond_false, Bool.true_and]
          by_cases h4 : (evalG e l[i]).1.str = tru
          · rw [decide_eq_true h4, Bool.true_and]; exact h
          · rw [decide_eq_false h4]; exact ⟨_, rfl, rfl⟩
        · have e1 : ((evalG e l[i]).1.kind != 2) = true := by simpa using h3
          rw [e1, decide_eq_false h3]; exact ⟨_, rfl, rfl⟩
      · have e0 : ((evalG e l[i]).2 != 0) = true := by simpa using h2
        rw [e0, decide_eq_false h2]; exact ⟨_, rfl, rfl⟩
  have hm := guardMay_ev he.len he.binds he.obj e.self
  apply Gets.get
  unfold envR at hm ⊢
  refine gHolds_run _ _ _ _ _ _ _ ?_
  rw [hm]
  unfold mayR holdsG envG
  cases hb : mayB (-1) e.binds with
  | false =>
    have h := loop l.length 0 false (by omega)
    rw [if_neg (by simp)]
    simp only [kOptSome, kTup, kCons, kSl_sl, kBool_bool, kNil, Bool.false_and]
    exact h
  | true =>
    have h := loop l.length 0 (decide (e.obj.chk = 0) && selfG e.self) (by omega)
    rw [if_pos rfl]
    simp only [kOptSome, kTup, kCons, kSl_sl, kBool_bool, kNil, Bool.true_and]
    exact h
end Go.Proofs.YtogebohommickaaGreat
end

section
namespace Go.Av
def vlR (o : Option (List Tm)) : AV := .tup [.sl (rowsT (o.getD [])), .bool o.isSome]
theorem kVl {α : Type} (l : List Tm) (b : Bool) (K : List (List AV) → Bool → Option α) : (kTup (.tup [.sl (rowsT l), .bool b]) fun cs => kCons cs fun c cs => kSl c fun rows => kCons cs fun c cs => kBool c fun b => kNil cs (K rows b)) = K (rowsT l) b := rfl
theorem kBB {α : Type} (x y : Bool) (K : Bool → Bool → Option α) : (kTup (.tup [.bool x, .bool y]) fun cs => kCons cs fun c cs => kBool c fun b => kCons cs fun c cs => kBool c fun b' => kNil cs (K b b')) = K x y := rfl
end Go.Av
namespace Go.Proofs.YtogebohommickaaGreat
open Go.Av
theorem r17Values_of {e : Env} {l : List Tm} (hlen : l.length < 1099511627776) (ih : ∀ x ∈ l, Gets (EVf (EV cfg) 29 [x.av, envR e.obj e.binds e.self]) (RB (valG e x))) :
    EVf (EV cfg) 65 [.sl (rowsT l), envR e.obj e.binds e.self] = some (vlR (seqO (optsG e l))) := by
  have loop : ∀ (d i : Nat) (acc : List Tm), i + d = l.length → acc.length = i → Gets (wy65_0 (rowsT l) i i e.obj.kind e.obj.num e.obj.str (rowsT e.obj.subs) (bindsR e.binds) e.self (rowsT acc)) (· = vlR ((seqO (optsG e (l.drop i))).map (acc ++ ·))) := by
    intro d
    induction d with
    | zero =>
      intro i acc hi ha
      refine wy65_0_step _ _ _ _ _ _ _ _ _ _ ?_
      have hb : Nat.ble (0 + i) (rowsT acc).length = true := by rw [Nat.ble_eq, rowsT_length]; omega
      have ht : List.take i (rowsT acc) = rowsT acc := List.take_of_length_le (by rw [rowsT_length]; omega)
      rw [rowsT_length, decide_eq_false (by omega), List.drop_eq_nil_of_le (by omega), hb, ht]
      refine ⟨_, rfl, ?_⟩
      simp [optsG, seqO, vlR]
    | succ d ihd =>
      intro i acc hi ha
      have hil : i < l.length := by omega
      refine wy65_0_step _ _ _ _ _ _ _ _ _ _ ?_
      have hx : l[i]? = some l[i] := List.getElem?_eq_getElem hil
      have h1 := ih l[i] (List.mem_of_getElem? hx)
      have e3 : Nat.ble (0 + i) (rowsT acc).length = true := by rw [Nat.ble_eq, rowsT_length]; omega
      have ht : List.take i (rowsT acc) = rowsT acc := List.take_of_length_le (by rw [rowsT_length]; omega)
      rw [rowsT_length, decide_eq_true (show (i : Int) < (l.length : Int) by omega), leInt_zero, ltInt_nat, decide_eq_true hil, rowsT_at hx, wrap_succ hil hlen, e3, ht, fits56 (by omega), List.drop_eq_getElem_cons hil]
      simp only [cond_true, Bool.and_self, length_cells, Nat.beq_refl, take_cells, kTmC_cells, ble44, av_unf]
      refine Gets.bind h1 ?_
      rintro _ ⟨t, rfl, ht⟩
      simp only [kTB]
      rw [optsG, seqO]
      cases hv : valG e l[i] with
      | none =>
        refine ⟨_, rfl, ?_⟩
        simp [vlR]
      | some x =>
        rw [ht x hv, Option.bind_some]
        have h2 := ihd (i + 1) (acc ++ [x]) (by omega) (by simp; omega)
        have e2 : List.append (rowsT acc) [x.cells] = rowsT (acc ++ [x]) := by rw [rowsT_append, rowsT_cons, rowsT_nil]; rfl
        simp only [Option.isSome_some, Bool.not_true, cond_false]
        rw [← Tm.cells_eq, e2]
        refine Gets.mono h2 ?_
        rintro _ rfl
        cases seqO (optsG e (l.drop (i + 1))) <;> simp
  apply Gets.get
  unfold envR
  refine r17Values_run _ _ _ _ _ _ _ ?_
  have h := loop l.length 0 [] (by omega) rfl
  rw [rowsT_nil] at h
  refine Gets.mono h ?_
  rintro _ rfl
  rw [List.drop_zero]
  cases seqO (optsG e l) <;> simp
theorem whole_stepR {t : Tm} {o : Option Tm} (h : ∀ x, o = some x → t = x) (hw : t.w < 1099511627776) : Gets (kOpt (EVf (EV cfg) 63 [t.av, .bool o.isSome]) fun (v : AV) => kTup v fun (cs : List AV) => kCons cs fun (c : AV) (cs : List AV) => kAgg c fun (cs_1 : List AV) => kCons cs_1 fun (c : AV) (cs_2 : List AV) => kInt .i64 c fun (n : Int) => kCons cs_2 fun (c : AV) (cs_3 : List AV) => kInt .i64 c fun (n_1 : Int) => kCons cs_3 fun (c : AV) (cs_4 : List AV) => kStr c fun (s : List UInt8) => kCons cs_4 fun (c : AV) (cs_5 : List AV) => kSl c fun (rows : List (List AV)) => kNil cs_5 (kCons cs fun (c : AV) (cs : List AV) => kBool c fun (b : Bool) => kNil cs (some (AV.tup [.agg [.int .i64 n, .int .i64 n_1, .str s, .sl rows], .bool b])))) (RB (o.bind wholeO)) := by
  rw [r17Whole_ev h hw]
  simp only [kOptSome, tbR_eq, kTB, av_unf]
  exact ⟨_, rfl, RB.of⟩
theorem vals_wholeR {e : Env} (he : EnvOk e) {l : List Tm} (k : Int) (hlen : l.length ≤ 64) (hl : ∀ x ∈ l, x.chk = 0 ∧ isG (namesG e) x = true)
    (hv : EVf (EV cfg) 65 [.sl (rowsT l), envR e.obj e.binds e.self] = some (vlR (seqO (optsG e l)))) :
    Gets (kOpt (EVf (EV cfg) 65 [.sl (rowsT l), envR e.obj e.binds e.self]) fun (v : AV) => kTup v fun (cs : List AV) => kCons cs fun (c : AV) (cs : List AV) => kSl c fun (rows : List (List AV)) => kCons cs fun (c : AV) (cs : List AV) => kBool c fun (b : Bool) => kNil cs (kOpt (EVf (EV cfg) 63 [.agg [.int .i64 k, .int .i64 0, .str [], .sl rows], .bool b]) fun (v : AV) => kTup v fun (cs : List AV) => kCons cs fun (c : AV) (cs : List AV) => kAgg c fun (cs_1 : List AV) => kCons cs_1 fun (c : AV) (cs_2 : List AV) => kInt .i64 c fun (n : Int) => kCons cs_2 fun (c : AV) (cs_3 : List AV) => kInt .i64 c fun (n_1 : Int) => kCons cs_3 fun (c : AV) (cs_4 : List AV) => kStr c fun (s : List UInt8) => kCons cs_4 fun (c : AV) (cs_5 : List AV) => kSl c fun (rows : List (List AV)) => kNil cs_5 (kCons cs fun (c : AV) (cs : List AV) => kBool c fun (b : Bool) => kNil cs (some (AV.tup [.agg [.int .i64 n, .int .i64 n_1, .str s, .sl rows], .bool b]))))) (RB ((seqO (optsG e l)).bind fun ts => wholeO (.mk k 0 [] ts))) := by
  rw [hv]
  simp only [kOptSome, vlR, kVl, agg_mk]
  have hw : (Tm.mk k 0 [] ((seqO (optsG e l)).getD [])).w < 1099511627776 := by
    rw [Tm.w_mk]
    cases ho : seqO (optsG e l) with
    | none => simp
    | some ts =>
      have h1 := wL_bound (seqO_chk he hl ho)
      have h2 := seqO_len ho
      have h3 : ts.length * 4259840 ≤ 64 * 4259840 := Nat.mul_le_mul_right _ (by omega)
      simp only [Option.getD_some, List.length_nil]; omega
  have h := whole_stepR (o := (seqO (optsG e l)).map fun ts => .mk k 0 [] ts) (t := .mk k 0 [] ((seqO (optsG e l)).getD [])) (fun x hx => by
    obtain ⟨ts, h1, rfl⟩ := Option.map_eq_some_iff.1 hx
    rw [h1]; rfl) hw
  rw [Option.isSome_map] at h
  refine Gets.mono h ?_
  intro v hv
  cases hs : seqO (optsG e l) <;> rw [hs] at hv <;> exact hv
theorem r17Lazy_of {e : Env} {op : List UInt8} {a b : Tm} {q : List Tm} (iha : Gets (EVf (EV cfg) 29 [a.av, envR e.obj e.binds e.self]) (RB (valG e a))) (ihb : Gets (EVf (EV cfg) 29 [b.av, envR e.obj e.binds e.self]) (RB (valG e b))) :
    Gets (EVf (EV cfg) 66 [.str op, .sl (rowsT (a :: b :: q)), envR e.obj e.binds e.self]) (RB (lazyG (decide (op = [97, 110, 100, 97, 108, 115, 111])) (optsG e (a :: b :: q)))) := by
  unfold envR at *
  refine r17Lazy_run _ _ _ _ _ _ _ _ ?_
  rw [← zeroT_av, lt0T, get0T, lt1T, get1T]
  simp only [cond_true, kOptSome, length_cells, Nat.beq_refl, ble44, take_cells, kTmC_cells, av_unf, optsG, lazyG]
  refine Gets.bind iha ?_
  rintro _ ⟨x, rfl, hx⟩
  simp only [kTB, av_unf, r17Truths_ev, kOptSome, kBB, beqS]
  cases hva : valG e a with
  | none => exact ⟨_, rfl, _, rfl, fun y hy => by cases hy⟩
  | some y =>
    obtain rfl := hx y hva
    simp only [Option.isSome_some, Bool.not_true, cond_false, Option.bind_some]
    cases hb : boolG x with
    | none => exact ⟨_, rfl, _, rfl, fun y hy => by cases hy⟩
    | some v =>
      simp only [Option.isSome_some, Bool.not_true, cond_false, Option.getD_some, Option.bind_some]
      by_cases hd : v = decide (op = [97, 110, 100, 97, 108, 115, 111])
      · rw [if_pos hd, ← hd, beq_self_eq_true]
        simp only [Bool.not_true, cond_false]
        refine Gets.bind ihb ?_
        rintro _ ⟨z, rfl, hz⟩
        simp only [kTB, av_unf, r17Truths_ev, kOptSome, kBB]
        cases hvb : valG e b with
        | none => exact ⟨_, rfl, _, rfl, fun y hy => by cases hy⟩
        | some y =>
          obtain rfl := hz y hvb
          simp only [Option.isSome_some, cond_true, Option.bind_some]
          refine ⟨_, rfl, z, by rw [Option.isSome_map], fun w hw => ?_⟩
          obtain ⟨_, _, rfl⟩ := Option.map_eq_some_iff.1 hw
          rfl
      · rw [if_neg hd, beq_eq_false_iff_ne.2 hd]
        exact ⟨_, rfl, _, rfl, fun y hy => by cases hy; rfl⟩
end Go.Proofs.YtogebohommickaaGreat
end

section
namespace Go.Av
theorem kIB {α : Type} (x : Int) (y : Bool) (K : Int → Bool → Option α) : (kTup (.tup [.int .i64 x, .bool y]) fun cs => kCons cs fun c cs => kInt .i64 c fun n => kCons cs fun c cs => kBool c fun b => kNil cs (K n b)) = K x y := rfl
end Go.Av
namespace Go.Proofs.YtogebohommickaaGreat
open Go.Av
theorem boundR {e : Env} (he : EnvOk e) : Gets (wy29_0 0 0 e.obj.kind e.obj.num e.obj.str (rowsT e.obj.subs) (bindsR e.binds) e.self 0 0 [] [] []) (RB (wholeO (listT (e.binds.map (·.2))))) := by
  have hlen : e.binds.length < 1099511627776 := by have := he.len; omega
  have loop : ∀ (d i : Nat), i + d = e.binds.length → Gets (wy29_0 i i e.obj.kind e.obj.num e.obj.str (rowsT e.obj.subs) (bindsR e.binds) e.self 0 0 [] [] (rowsT ((e.binds.take i).map (·.2)))) (RB (wholeO (listT (e.binds.map (·.2))))) := by
    intro d
    induction d with
    | zero =>
      intro i hi
      refine wy29_0_step _ _ _ _ _ _ _ _ _ _ _ _ _ ?_
      obtain rfl : i = e.binds.length := by omega
      have hb : Nat.ble (0 + e.binds.length) (rowsT ((e.binds.take e.binds.length).map (·.2))).length = true := by rw [Nat.ble_eq, rowsT_length, List.length_map, List.length_take]; omega
      have ht : List.take e.binds.length (rowsT ((e.binds.take e.binds.length).map (·.2))) = rowsT (e.binds.map (·.2)) := by
        rw [List.take_of_length_le (by rw [rowsT_length, List.length_map, List.length_take]; omega), List.take_length]
      have hm := r17List_ev (l := e.binds.map (·.2)) (by rw [List.length_map]; exact hlen)
      rw [bindsR_len, decide_eq_false (by omega), hb, ht]
      simp only [cond_false, cond_true, Bool.and_true, hm, kOptSome, kTmV_av, av_unf]
      rw [listT_makeG]
      have h1 := listT_w (e.binds.map (·.2))
      have h3 := wL_bound (l := e.binds.map (·.2)) (fun x hx => by
        obtain ⟨p, hp, rfl⟩ := List.mem_map.1 hx
        exact mayB_chk he.may p hp)
      rw [List.length_map] at h1 h3
      have h4 : e.binds.length * 4259840 ≤ 100 * 4259840 := Nat.mul_le_mul_right _ he.len
      exact whole_stepR (o := some (listT (e.binds.map (·.2)))) (fun x hx => by cases hx; rfl) (by omega)
    | succ d ih =>
      intro i hi
      refine wy29_0_step _ _ _ _ _ _ _ _ _ _ _ _ _ ?_
      have hil : i < e.binds.length := by omega
      have hx : e.binds[i]? = some e.binds[i] := List.getElem?_eq_getElem hil
      have h := ih (i + 1) (by omega)
      have e1 : (e.binds.take (i + 1)).map (·.2) = (e.binds.take i).map (·.2) ++ [e.binds[i].2] := by
        have ht : e.binds.take (i + 1) = e.binds.take i ++ [e.binds[i]] := by rw [List.take_add_one, hx]; rfl
        rw [ht, List.map_append]; rfl
      have hl0 : (rowsT ((e.binds.take i).map (·.2))).length = i := by rw [rowsT_length, List.length_map, List.length_take]; omega
      have e2 : List.append (List.take i (rowsT ((e.binds.take i).map (·.2)))) [e.binds[i].2.cells] = rowsT ((e.binds.take (i + 1)).map (·.2)) := by
        rw [List.take_of_length_le (by omega), e1, rowsT_append, rowsT_cons, rowsT_nil]; rfl
      have e3 : Nat.ble (0 + i) (rowsT ((e.binds.take i).map (·.2))).length = true := by rw [hl0, Nat.ble_eq]; omega
      rw [bindsR_len, decide_eq_true (show (i : Int) < (e.binds.length : Int) by omega), leInt_zero, ltInt_nat, decide_eq_true hil, get?Internal_eq, Int.toNat_natCast, bindsR_get, hx, wrap_succ hil hlen]
      simp only [Option.map_some, cond_true, Bool.and_self, kOptSome, List.length_cons, length_cells, show Nat.beq (4 + 1) 5 = true from rfl, show Nat.ble 5 (4 + 1) = true from rfl, List.drop_succ_cons, List.drop_zero, take_cells, kChain, e3, fits56 (show i + 1 ≤ 1099511627776 by omega)]
      rw [← Tm.cells_eq, e2]
      exact h
  have h := loop e.binds.length 0 (by omega)
  rw [List.take_zero, List.map_nil, rowsT_nil] at h
  exact h
theorem r17Value_ev {e : Env} (he : EnvOk e) : ∀ (n : Nat) (t : Tm), t.w ≤ n → t.chk = 0 → isG (namesG e) t = true → Gets (EVf (EV cfg) 29 [t.av, envR e.obj e.binds e.self]) (RB (valG e t)) := by
  intro n
  induction n with
  | zero => intro t h; have := w_pos t; omega
  | succ n ih =>
    intro t hw hc hg
    have hwe := t.w_eq
    have hwc := w_chk hc
    have hvar := r16Var_ev (t := t) (by omega)
    have hbl := he.len
    have hbw : ∀ p ∈ e.binds, p.2.w < 1099511627776 := fun p hp => by have := w_chk (mayB_chk he.may p hp); omega
    have vals : ∀ l : List Tm, l.length ≤ 64 → (∀ x ∈ l, x.w ≤ n ∧ x.chk = 0 ∧ isG (namesG e) x = true) → EVf (EV cfg) 65 [.sl (rowsT l), envR e.obj e.binds e.self] = some (vlR (seqO (optsG e l))) := by
      intro l hlen hl
      exact r17Values_of (by omega) fun x hx => ih x (hl x hx).1 (hl x hx).2.1 (hl x hx).2.2
    have same : Gets (some (AV.tup [t.av, .bool true])) (RB (some t)) := ⟨_, rfl, RB.of⟩
    unfold envR at *
    rw [Tm.av, Tm.cells_eq] at hvar ⊢
    refine r17Value_run _ _ _ _ _ _ _ _ _ _ ?_
    rw [hvar, ← zeroT_av]
    have b7 : (t.kind != 7) = !decide (t.kind = 7) := by rw [bne, beqI]
    simp only [beqI, beqS, kOptSome, b7, varR, kIB]
    have hsub : ∀ x ∈ t.subs, x.w ≤ n ∧ x.chk = 0 := fun x hx => by
      have := wL_mem hx
      exact ⟨by omega, chk_sub hc hx⟩
    have hvk : ∀ x, varT t = some x → t.kind = 2 := by
      intro x hx
      unfold varT at hx
      split at hx
      · rename_i h; exact h.1
      · cases hx
    by_cases h2 : t.kind = 2
    · rw [decide_eq_true h2, decide_eq_false (show ¬ t.kind = 9 by omega), decide_eq_false (show ¬ t.kind = 7 by omega), valG_atom h2]
      rw [isG_atom h2] at hg
      cases hx : varT t with
      | some x =>
        rw [hx] at hg
        obtain ⟨y, hy⟩ := lookB_some (of_decide_eq_true hg)
        have hf := r16Find_ev (L := e.binds) (by omega) hbw he.may x
        simp only [Option.isSome_some, Option.getD_some, cond_true, hf, kOptSome, hy, tbR_eq, kTB, av_unf]
        exact ⟨_, rfl, RB.of⟩
      | none =>
        simp only [Option.isSome_none, cond_false, cond_true]
        by_cases s1 : t.str = [36, 95]
        · rw [if_pos s1, decide_eq_true s1, cond_true, av_unf]; exact ⟨_, rfl, RB.of⟩
        rw [if_neg s1, decide_eq_false s1, cond_false]
        by_cases s2 : t.str = [36, 36]
        · rw [if_pos s2, decide_eq_true s2, cond_true]
          exact boundR he
        rw [if_neg s2, decide_eq_false s2, cond_false, av_unf]; exact same
    have hv0 : varT t = none := by
      cases hx : varT t with
      | none => rfl
      | some x => exact absurd (hvk x hx) h2
    rw [hv0, decide_eq_false h2]
    simp only [Option.isSome_none, cond_false]
    by_cases h9 : t.kind = 9
    · rw [decide_eq_true h9, cond_true, valG_cons h9]
      rw [isG_cons h9] at hg
      have hall := allG_mem hg
      exact vals_wholeR he 9 (subs_chk hc) (fun x hx => ⟨(hsub x hx).2, hall x hx⟩) (vals t.subs (subs_chk hc) fun x hx => ⟨(hsub x hx).1, (hsub x hx).2, hall x hx⟩)
    rw [decide_eq_false h9, cond_false]
    by_cases h7 : t.kind = 7
    · rw [decide_eq_true h7]
      simp only [Bool.not_true, cond_false]
      cases hl : t.subs with
      | nil => rw [isG_nil h7 hl] at hg; cases hg
      | cons f r =>
        have hf := hsub f (by rw [hl]; simp)
        have hr : ∀ x ∈ r, x.w ≤ n ∧ x.chk = 0 := fun x hx => hsub x (by rw [hl]; simp [hx])
        have hlen := subs_chk hc
        rw [hl, List.length_cons] at hlen
        rw [valG_tup h7 hl]
        rw [isG_tup h7 hl] at hg
        have c2 : leInt 1 ((rowsT (f :: r)).length : Int) = true := by rw [rowsT_length]; exact decide_eq_true (by simp; omega)
        have tk : List.take ((rowsT (f :: r)).length - 1) (List.drop 1 (rowsT (f :: r))) = rowsT r := by
          rw [rowsT_cons, List.drop_succ_cons, List.drop_zero, List.length_cons, Nat.add_sub_cancel, List.take_length]
        rw [c2, tk]
        simp only [cond_true, lt0T, get0T, kOptSome, length_cells, Nat.beq_refl, ble44, take_cells, kTmC_cells, rowsOk_rowsT, beqI, beqS]
        by_cases f7 : f.kind = 7
        · rw [if_pos f7] at hg ⊢
          rw [decide_eq_true f7, cond_true]
          rw [Bool.and_eq_true] at hg
          have hall := allG_mem hg.2
          have fs := subs_chk hf.2
          have hfs : ∀ x ∈ f.subs, x.w ≤ n ∧ x.chk = 0 := fun x hx => by
            have h1 := wL_mem hx
            have h2 := f.w_eq
            exact ⟨by have := hf.1; omega, chk_sub hf.2 hx⟩
          exact vals_wholeR he 7 fs (fun x hx => ⟨(hfs x hx).2, hall x hx⟩) (vals f.subs fs fun x hx => ⟨(hfs x hx).1, (hfs x hx).2, hall x hx⟩)
        rw [if_neg f7] at hg ⊢
        rw [decide_eq_false f7, cond_false]
        by_cases f2 : f.kind = 2
        · rw [if_pos f2] at hg
          by_cases hk : f.str = [99, 111, 110, 115, 116]
          · rw [if_pos hk] at hg ⊢
            rw [decide_eq_true hk, cond_true]
            match r, of_decide_eq_true hg with
            | [a], _ =>
              simp only [lt1T, get1T, cond_true, kOptSome, length_cells, Nat.beq_refl, ble44, take_cells, kTmC_cells, av_unf]
              exact ⟨_, rfl, RB.of⟩
          rw [if_neg hk] at hg ⊢
          rw [decide_eq_false hk, cond_false]
          rw [Bool.and_eq_true] at hg
          have hrg := allG_mem hg.2
          have hop := of_decide_eq_true hg.1
          have lz : ∀ s : List UInt8, f.str = s → opsG s = [2] → Gets (kOpt (EVf (EV cfg) 66 [.str f.str, .sl (rowsT r), .agg [.int .i64 e.obj.kind, .int .i64 e.obj.num, .str e.obj.str, .sl (rowsT e.obj.subs), .sl (bindsR e.binds), .int .i64 e.self]]) fun (v : AV) => kTup v fun (cs : List AV) => kCons cs fun (c : AV) (cs : List AV) => kAgg c fun (cs_1 : List AV) => kCons cs_1 fun (c : AV) (cs_2 : List AV) => kInt .i64 c fun (n : Int) => kCons cs_2 fun (c : AV) (cs_3 : List AV) => kInt .i64 c fun (n_2 : Int) => kCons cs_3 fun (c : AV) (cs_4 : List AV) => kStr c fun (s : List UInt8) => kCons cs_4 fun (c : AV) (cs_5 : List AV) => kSl c fun (rows : List (List AV)) => kNil cs_5 (kCons cs fun (c : AV) (cs : List AV) => kBool c fun (b : Bool) => kNil cs (some (AV.tup [.agg [.int .i64 n, .int .i64 n_2, .str s, .sl rows], .bool b])))) (RB (lazyG (decide (f.str = [97, 110, 100, 97, 108, 115, 111])) (optsG e r))) := by
            intro s hs h2
            have hl2 : r.length = 2 := by
              rw [hs, h2] at hop
              simp at hop; omega
            match r, hr, hrg with
            | [], _, _ => simp at hl2
            | [a], _, _ => simp at hl2
            | a :: b :: q, hr, hrg =>
              have ra := hr a (by simp)
              have rb := hr b (by simp)
              refine Gets.bind (r17Lazy_of (q := q) (ih a ra.1 ra.2 (hrg a (by simp))) (ih b rb.1 rb.2 (hrg b (by simp)))) ?_
              rintro _ ⟨x, rfl, hx⟩
              simp only [kTB, av_unf]
              exact ⟨_, rfl, x, rfl, hx⟩
          by_cases ha : f.str = [97, 110, 100, 97, 108, 115, 111]
          · have := lz _ ha (by decide)
            rw [if_pos ha, decide_eq_true ha]
            rw [decide_eq_true ha] at this
            exact this
          rw [if_neg ha]
          by_cases hb : f.str = [111, 114, 101, 108, 115, 101]
          · have := lz _ hb (by decide)
            rw [decide_eq_false ha] at this
            rw [if_pos hb, decide_eq_false ha, decide_eq_true hb]
            exact this
          rw [if_neg hb, decide_eq_false ha, decide_eq_false hb]
          simp only [cond_false]
          rw [vals r (by omega) fun x hx => ⟨(hr x hx).1, (hr x hx).2, hrg x hx⟩]
          simp only [kOptSome, vlR, kVl]
          cases ho : seqO (optsG e r) with
          | none => exact ⟨_, rfl, RB.of⟩
          | some ts =>
            have hts := seqO_chk he (fun x hx => ⟨(hr x hx).2, hrg x hx⟩) ho
            have hlt := seqO_len ho
            have h2 := opsG_two _ hop
            rw [← hlt] at hop h2
            simp only [Option.isSome_some, Bool.not_true, cond_false, Option.getD_some, r17Apply_ev hop hts h2, kOptSome, tbR_eq, kTB, av_unf, Option.bind_some]
            refine whole_stepR (fun x hx => by rw [hx]; rfl) ?_
            cases hap : applyG f.str ts e.self with
            | none => simp [zeroT, Tm.w_mk]
            | some z => exact applyG_w hts h2 hap
        · rw [if_neg f2] at hg; cases hg
    · rw [decide_eq_false h7, valG_other h2 h9 h7]
      simp only [Bool.not_false, cond_true, av_unf]; exact same
theorem r17Env_ev {e : Env} (he : EnvW e) : EVs (EV cfg) 26 [envR e.obj e.binds e.self] = some (.bool (envG e)) := by
  have hc := r02Check_ev he.obj
  apply Gets.get
  unfold envR
  rw [Tm.av, Tm.cells_eq] at hc
  refine r17Env_run _ _ _ _ _ _ ?_
  rw [hc, r16May_ev he.len he.binds, r17Self_ev]
  simp only [kOptSome, kInt_int, kBool_bool, beqI]
  unfold envG
  cases decide (e.obj.chk = 0) <;> cases mayB (-1) e.binds <;> exact ⟨_, rfl, rfl⟩
theorem r17Eval_ev {e : Env} (he : EnvW e) {t : Tm} (ht : t.w < 1099511627776) : EVf (EV cfg) 10 [t.av, envR e.obj e.binds e.self] = some (evalR (evalG e t)) := by
  have hn := r17Names_ev he.len
  have hen := r17Env_ev he
  have hck := r17Check_ev (V := namesG e) (by unfold namesG; rw [List.length_map]; exact he.len) ht
  have hv : EnvOk e → t.chk = 0 → isG (namesG e) t = true → _ := fun h1 => r17Value_ev h1 t.w t (Nat.le_refl _)
  have bne0 : ∀ z : Int, (z != 0) = !decide (z = 0) := fun z => by rw [bne, beqI]
  apply Gets.get
  unfold evalR evalG
  unfold envR at *
  rw [Tm.av, Tm.cells_eq] at hck hv ⊢
  refine r17Eval_run _ _ _ _ _ _ _ _ _ _ ?_
  rw [hen, hn, ← zeroT_av]
  have hnn : e.binds.map (·.1) = namesG e := rfl
  simp only [kOptSome, kBool_bool, kSl_sl, hnn, hck, kInt_int, bne0]
  cases heg : envG e with
  | false => exact ⟨_, rfl, rfl⟩
  | true =>
    by_cases h0 : checkG (namesG e) t = 0
    · obtain ⟨h1, h2⟩ := checkG_zero h0
      rw [decide_eq_true h0]
      simp only [Bool.not_true, cond_false, Bool.and_true, if_true]
      refine Gets.bind (hv (envG_ok.1 heg) h1 h2) ?_
      rintro _ ⟨x, rfl, hx⟩
      simp only [kTB, av_unf]
      cases hvv : valG e t with
      | none => exact ⟨_, rfl, rfl⟩
      | some v =>
        obtain rfl := hx v hvv
        have hcw := w_chk (valG_chk (envG_ok.1 heg) _ t (Nat.le_refl _) h1 h2 x hvv)
        simp only [Option.isSome_some, Bool.not_true, cond_false, r02Copy_ev x (by omega), kOptSome, kTmV_av, av_unf]
        exact ⟨_, rfl, rfl⟩
    · rw [decide_eq_false h0]
      exact ⟨_, rfl, rfl⟩
theorem r17Holds_ev {e : Env} (he : EnvW e) {l : List Tm} (hl : ∀ x ∈ l, x.w < 1099511627776) (hlen : l.length < 1099511627776) : EVs (EV cfg) 17 [.sl (rowsT l), envR e.obj e.binds e.self] = some (.bool (holdsG e l)) := by
  have hen := r17Env_ev he
  unfold envR at hen
  have loop : ∀ (d i : Nat), i + d = l.length → Gets (wy17_0 (rowsT l) i e.obj.kind e.obj.num e.obj.str (rowsT e.obj.subs) (bindsR e.binds) e.self) (· = .bool ((l.drop i).all (trueG e) && envG e)) := by
    intro d
    induction d with
    | zero =>
      intro i hi
      refine wy17_0_step _ _ _ _ _ _ _ _ ?_
      rw [rowsT_length, decide_eq_false (by omega), List.drop_eq_nil_of_le (by omega), hen]
      exact ⟨_, rfl, rfl⟩
    | succ d ih =>
      intro i hi
      refine wy17_0_step _ _ _ _ _ _ _ _ ?_
      have hil : i < l.length := by omega
      have hx : l[i]? = some l[i] := List.getElem?_eq_getElem hil
      have hd : l.drop i = l[i] :: l.drop (i + 1) := List.drop_eq_getElem_cons hil
      have h := ih (i + 1) (by omega)
      have h1 := r17Eval_ev he (hl l[i] (List.mem_of_getElem? hx))
      unfold envR at h1
      rw [rowsT_length, decide_eq_true (show (i : Int) < (l.length : Int) by omega), leInt_zero, ltInt_nat, decide_eq_true hil, rowsT_at hx, wrap_succ hil hlen, hd, List.all_cons]
      simp only [cond_true, Bool.and_self, length_cells, Nat.beq_refl, take_cells, kTmC_cells, ble44, av_unf, h1, kOptSome, evalR]
      rw [kEvalR]
      unfold trueG at h ⊢
      simp only [beqS, show ([116, 114, 117, 101] : List UInt8) = tru from rfl]
      by_cases h2 : (evalG e l[i]).2 = 0
      · have e0 : ((evalG e l[i]).2 != 0) = false := by rw [h2]; rfl
        rw [e0, decide_eq_true h2, cond_false, Bool.true_and]
        by_cases h3 : (evalG e l[i]).1.kind = 2
        · have e1 : ((evalG e l[i]).1.kind != 2) = false := by rw [h3]; rfl
          rw [e1, decide_eq_true h3, cond_false, Bool.true_and]
          by_cases h4 : (evalG e l[i]).1.str = tru
          · rw [decide_eq_true h4, Bool.true_and]; exact h
          · rw [decide_eq_false h4]; exact ⟨_, rfl, rfl⟩
        · have e1 : ((evalG e l[i]).1.kind != 2) = true := by simpa using h3
          rw [e1, decide_eq_false h3]; exact ⟨_, rfl, rfl⟩
      · have e0 : ((evalG e l[i]).2 != 0) = true := by simpa using h2
        rw [e0, decide_eq_false h2]; exact ⟨_, rfl, rfl⟩
  apply Gets.get
  unfold envR
  refine r17Holds_run _ _ _ _ _ _ _ ?_
  unfold holdsG
  exact (by simpa using loop l.length 0 (by omega))
end Go.Proofs.YtogebohommickaaGreat
end

section
namespace Go.Proofs.YtogebohommickaaGreat
open Go.Av
set_option maxRecDepth 100000
set_option maxHeartbeats 0

noncomputable def La31_0 : Den := evC cfg (EV cfg) 31 none 0 (sub (bodyOf Tryz.f31) [1, 1, 0, 1, 0, 0])
noncomputable def Aa31_0 : Ex × List AV × AH → Option AV := kAft (Cfg.keepOut cfg 31 4) (kRun cfg (EV cfg) (kfN cfg 6) 31 none 0 (kFinS cfg (Cfg.lift cfg 31 0) Tryz.f31.results.toList) ([.block 0, .seq (sub (bodyOf Tryz.f31) [1, 1, 1])]))
noncomputable def Wa31_0 : List AV × AH → Option AV := fun p => kOpt (LOOP 0 (some [0, 1, 5]) ([]) La31_0 p) Aa31_0
noncomputable abbrev wa31_0 (A : List (List AV)) (B : List (List AV)) (v5 : Int) : Option (AV) := Wa31_0  (((fx 42 [(0, AV.sl A), (1, AV.sl B), (5, AV.int IntKind.i64 v5)]) : List AV), ([] : AH))
theorem law17Same_run (ke : Int) (ne : Int) (se : List UInt8) (le : List (List AV)) (bd : List (List AV)) (self : Int) (ko : Int) (no : Int) (so : List UInt8) (lo : List (List AV)) (bo : List (List AV)) (sel : Int) {P : AV → Prop} (h : Gets (kOpt (EVs (EV cfg) 11 [.agg [AV.int .i64 ke, .int .i64 ne, .str se, .sl le], .agg [AV.int .i64 ko, .int .i64 no, .str so, .sl lo]]) fun (v : AV) => kBool v fun (b : Bool) => bif b then 
  kOpt (EVs (EV cfg) 31 [.sl bd, .sl bo]) fun (v : AV) => kBool v fun (b : Bool) => bif b then some (.bool (self == sel)) else some (.bool false) else some (.bool false)) P) : Gets (EVs (EV cfg) 13 ([AV.agg [AV.int IntKind.i64 ke, AV.int IntKind.i64 ne, AV.str se, AV.sl le, AV.sl bd, AV.int IntKind.i64 self], AV.agg [AV.int IntKind.i64 ko, AV.int IntKind.i64 no, AV.str so, AV.sl lo, AV.sl bo, AV.int IntKind.i64 sel]] : List AV)) P :=
  Gets.ev (fun _ h => funS rfl rfl Tryz.func13 rfl h) (Gets.eq (by kernel_rfl) h)
theorem sameBinds_run (A : List (List AV)) (B : List (List AV)) {P : AV → Prop} (h : Gets (bif (↑(List.length A) : Int) != (↑(List.length B) : Int) then some (.bool false) else wa31_0 A B (0 : Int)) P) : Gets (EVs (EV cfg) 31 ([AV.sl A, AV.sl B] : List AV)) P :=
  Gets.ev (fun _ h => funS rfl rfl Tryz.func31 rfl h) (Gets.eq (by kernel_rfl) h)
theorem wa31_0_step (A : List (List AV)) (B : List (List AV)) (v5 : Int) {P : AV → Prop} (h : Gets (bif decide (v5 < (↑(List.length A) : Int)) then bif leInt (0 : Int) v5 && ltInt v5 (↑(List.length A) : Int) then kOpt (List.get?Internal A (Int.toNat v5)) fun (row : List AV) => bif 
  Nat.beq (List.length row) 5 then kOpt (List.get?Internal row 0) fun (v : AV) => kInt .i64 v fun (n : Int) => bif leInt (0 : Int) v5 && ltInt v5 (↑(List.length B) : Int) then kOpt (List.get?Internal 
  B (Int.toNat v5)) fun (row : List AV) => bif Nat.beq (List.length row) 5 then kOpt (List.get?Internal row 0) fun (v : AV) => kInt .i64 v fun (n_1 : Int) => bif n != n_1 then some (.bool 
  false) else bif leInt (0 : Int) v5 && ltInt v5 (↑(List.length A) : Int) then kOpt (List.get?Internal A (Int.toNat v5)) fun (row : List AV) => bif Nat.beq (List.length row) 5 then bif 
  Nat.ble 5 (List.length row) then kCons (List.take 4 (List.drop 1 row)) fun (c : AV) (cs : List AV) => kInt .i64 c fun (n : Int) => kCons cs fun (c : AV) (cs : List AV) => kInt .i64 
  c fun (n_2 : Int) => kCons cs fun (c : AV) (cs : List AV) => kStr c fun (s : List UInt8) => kCons cs fun (c : AV) (cs : List AV) => kSl c fun (rows : List (List AV)) => kNil cs (bif 
  leInt (0 : Int) v5 && ltInt v5 (↑(List.length B) : Int) then kOpt (List.get?Internal B (Int.toNat v5)) fun (row : List AV) => bif Nat.beq (List.length row) 5 then bif Nat.ble 5 (List.length 
  row) then kCons (List.take 4 (List.drop 1 row)) fun (c : AV) (cs : List AV) => kInt .i64 c fun (n_3 : Int) => kCons cs fun (c : AV) (cs : List AV) => kInt .i64 c fun (n_4 : Int) => 
  kCons cs fun (c : AV) (cs : List AV) => kStr c fun (s_1 : List UInt8) => kCons cs fun (c : AV) (cs : List AV) => kSl c fun (rows_1 : List (List AV)) => kNil cs (kOpt (EVs (EV cfg) 11 
  [.agg [AV.int .i64 n, .int .i64 n_2, .str s, .sl rows], .agg [AV.int .i64 n_3, .int .i64 n_4, .str s_1, .sl rows_1]]) fun (v : AV) => kBool v fun (b : Bool) => bif !b then some (.bool false) 
  else wa31_0 A B (IntKind.wrap .i64 (v5 + (1 : Int)))) else none else none else none) else none else none else none else none else none else none else none else some (.bool true)) P) : Gets (wa31_0 A B v5) P :=
  Gets.ev (fun _ h => loop_step (cfg := cfg) (f := 31) (rd := none) (bs := 0) h) (Gets.eq (by kernel_rfl) h)
end Go.Proofs.YtogebohommickaaGreat
end

section
namespace Go.Proofs.YtogebohommickaaGreat
open Go.Av
set_option maxRecDepth 100000
set_option maxHeartbeats 0

noncomputable def Lc8_0 : Den := evC cfg (EV cfg) 8 none 0 (sub (bodyOf Tryz.f8) [1, 1, 0, 1, 0, 0])
noncomputable def Ac8_0 : Ex × List AV × AH → Option AV := kAft (Cfg.keepOut cfg 8 3) (kRun cfg (EV cfg) (kfN cfg 6) 8 none 0 (kFinF cfg (Cfg.lift cfg 8 0) Tryz.f8.results.toList) ([.block 0, .seq (sub (bodyOf Tryz.f8) [1, 1, 1])]))
noncomputable def Wc8_0 : List AV × AH → Option AV := fun p => kOpt (LOOP 0 (some [1, 2, 3, 4]) ([]) Lc8_0 p) Ac8_0
noncomputable abbrev wc8_0 (v4 : Int) (c0_0 : Int) (c0_1 : Int) (c0_2 : List UInt8) (c0_3 : List (List AV)) (c0_4 : List (List AV)) (c0_5 : Int) (c1_0 : Int) (c1_1 : Int) (c1_2 : List UInt8) (c1_5 : Int) (c2_0 : Int) (c2_1 : Int) (c2_2 : List UInt8) (c2_3 : List (List AV)) (c2_5 : Int) : Option (AV) := Wc8_0  (((fx 38 [(1, AV.ptr (0 : Nat) (0 : Nat) (0 : Nat)), (2, AV.ptr (1 : Nat) (0 : Nat) (0 : Nat)), (3, AV.ptr (2 : Nat) (0 : Nat) (0 : Nat)), (4, AV.int IntKind.i64 v4)]) : List AV), ([ABlk.rows false (6 : Nat) [[AV.int IntKind.i64 c0_0, AV.int IntKind.i64 c0_1, AV.str c0_2, AV.sl c0_3, AV.sl c0_4, AV.int IntKind.i64 c0_5]], ABlk.rows false (6 : Nat) [[AV.int IntKind.i64 c1_0, AV.int IntKind.i64 c1_1, AV.str c1_2, AV.nilS, AV.nilS, AV.int IntKind.i64 c1_5]], ABlk.rows false (6 : Nat) [[AV.int IntKind.i64 c2_0, AV.int IntKind.i64 c2_1, AV.str c2_2, AV.sl c2_3, AV.nilS, AV.int IntKind.i64 c2_5]]] : AH))
noncomputable abbrev wc8_0a (v4 : Int) (c0_0 : Int) (c0_1 : Int) (c0_2 : List UInt8) (c0_3 : List (List AV)) (c0_4 : List (List AV)) (c0_5 : Int) (c1_0 : Int) (c1_1 : Int) (c1_2 : List UInt8) (c1_5 : Int) (c2_0 : Int) (c2_1 : Int) (c2_2 : List UInt8) (c2_3 : List (List AV)) (nc2_4 : Nat) (c2_5 : Int) (h3 : List (List AV)) : Option (AV) := Wc8_0  (((fx 38 [(1, AV.ptr (0 : Nat) (0 : Nat) (0 : Nat)), (2, AV.ptr (1 : Nat) (0 : Nat) (0 : Nat)), (3, AV.ptr (2 : Nat) (0 : Nat) (0 : Nat)), (4, AV.int IntKind.i64 v4)]) : List AV), ([ABlk.rows false (6 : Nat) [[AV.int IntKind.i64 c0_0, AV.int IntKind.i64 c0_1, AV.str c0_2, AV.sl c0_3, AV.sl c0_4, AV.int IntKind.i64 c0_5]], ABlk.rows false (6 : Nat) [[AV.int IntKind.i64 c1_0, AV.int IntKind.i64 c1_1, AV.str c1_2, AV.nilS, AV.nilS, AV.int IntKind.i64 c1_5]], ABlk.rows false (6 : Nat) [[AV.int IntKind.i64 c2_0, AV.int IntKind.i64 c2_1, AV.str c2_2, AV.sl c2_3, AV.ms (3 : Nat) (0 : Nat) nc2_4, AV.int IntKind.i64 c2_5]], ABlk.rows true (5 : Nat) h3] : AH))
theorem law17Copied_run (ke : Int) (ne : Int) (se : List UInt8) (le : List (List AV)) (bd : List (List AV)) (self : Int) {P : AV → Prop} (h : Gets (kOpt (EVf (EV cfg) 7 [.agg [AV.int .i64 ke, .int .i64 ne, .str se, .sl le]]) fun (v : AV) => kTmV v fun (n n_1 : Int) (s : List UInt8) (rows : List (List AV)) => (wc8_0 (0 : Int) ke ne 
  se le bd self (0 : Int) (0 : Int) [] (0 : Int) n n_1 s rows self)) P) : Gets (EVf (EV cfg) 8 ([AV.agg [AV.int IntKind.i64 ke, AV.int IntKind.i64 ne, AV.str se, AV.sl le, AV.sl bd, AV.int IntKind.i64 self]] : List AV)) P :=
  Gets.ev (fun _ h => funF rfl rfl Tryz.func8 rfl h) (Gets.eq (by kernel_rfl) h)
theorem law17Holds_run (L : List (List AV)) (ke : Int) (ne : Int) (se : List UInt8) (le : List (List AV)) (bd : List (List AV)) (self : Int) {P : AV → Prop} (h : Gets (kOpt (EVs (EV cfg) 6 [.sl L, .agg [AV.int .i64 ke, .int .i64 ne, .str se, .sl le, .sl bd, .int .i64 self]]) fun (v : AV) => kBool v fun (b : Bool) => bif b then some (.bool true) else 
  kOpt (EVo (EV cfg) 15 [.sl L]) fun (o : OV) => kOwn o (kOpt (EVf (EV cfg) 8 [.agg [AV.int .i64 ke, .int .i64 ne, .str se, .sl le, .sl bd, .int .i64 self]]) fun (v : AV) => kAgg v fun 
  (cs : List AV) => kCons cs fun (c : AV) (cs : List AV) => kInt .i64 c fun (n : Int) => kCons cs fun (c : AV) (cs : List AV) => kInt .i64 c fun (n_1 : Int) => kCons cs fun (c : AV) (cs 
  : List AV) => kStr c fun (s : List UInt8) => kCons cs fun (c : AV) (cs : List AV) => kSl c fun (rows : List (List AV)) => kCons cs fun (c : AV) (cs : List AV) => kSl c fun (rows_1 : 
  List (List AV)) => kCons cs fun (c : AV) (cs : List AV) => kInt .i64 c fun (n_2 : Int) => kNil cs (bif refsLtL 0 [.sl [], .agg [AV.int .i64 n, .int .i64 n_1, .str s, .sl rows, .sl rows_1, 
  .int .i64 n_2]] then kOpt (EVs (EV cfg) 16 [.sl [], .agg [AV.int .i64 n, .int .i64 n_1, .str s, .sl rows, .sl rows_1, .int .i64 n_2]]) fun (v : AV) => kBool v fun (b : Bool) => kOpt (EVs 
  (EV cfg) 17 [.sl L, .agg [AV.int .i64 ke, .int .i64 ne, .str se, .sl le, .sl bd, .int .i64 self]]) fun (v : AV) => kBool v fun (b_1 : Bool) => bif b == b_1 then bif refsLtL 0 [.sl [], 
  .sl L] then kOpt (EVs (EV cfg) 18 [.sl [], .sl L]) fun (v : AV) => kBool v fun (b : Bool) => bif b then kOpt (EVs (EV cfg) 13 [.agg [AV.int .i64 n, .int .i64 n_1, .str s, .sl rows, .sl 
  rows_1, .int .i64 n_2], .agg [AV.int .i64 ke, .int .i64 ne, .str se, .sl le, .sl bd, .int .i64 self]]) fun (v : AV) => kBool v fun (b : Bool) => bif b then kOpt (EVs (EV cfg) 14 []) fun 
  (v : AV) => kBool v fun (b : Bool) => some (.bool b) else some (.bool false) else some (.bool false) else none else some (.bool false) else none)) fun (sz : Nat) (rs : List (List AV)) 
  (off len : Nat) => kOpt (EVf (EV cfg) 8 [.agg [AV.int .i64 ke, .int .i64 ne, .str se, .sl le, .sl bd, .int .i64 self]]) fun (v : AV) => kAgg v fun (cs : List AV) => kCons cs fun (c : 
  AV) (cs : List AV) => kInt .i64 c fun (n : Int) => kCons cs fun (c : AV) (cs : List AV) => kInt .i64 c fun (n_1 : Int) => kCons cs fun (c : AV) (cs : List AV) => kStr c fun (s : List 
  UInt8) => kCons cs fun (c : AV) (cs : List AV) => kSl c fun (rows : List (List AV)) => kCons cs fun (c : AV) (cs : List AV) => kSl c fun (rows_1 : List (List AV)) => kCons cs fun (c 
  : AV) (cs : List AV) => kInt .i64 c fun (n_2 : Int) => kNil cs (bif Nat.ble (off + len) (List.length rs) && true then kOpt (EVs (EV cfg) 16 [.sl (List.take len (List.drop off rs)), 
  .agg [AV.int .i64 n, .int .i64 n_1, .str s, .sl rows, .sl rows_1, .int .i64 n_2]]) fun (v : AV) => kBool v fun (b : Bool) => kOpt (EVs (EV cfg) 17 [.sl L, .agg [AV.int .i64 ke, .int .i64 
  ne, .str se, .sl le, .sl bd, .int .i64 self]]) fun (v : AV) => kBool v fun (b_1 : Bool) => bif b == b_1 then bif Nat.ble (off + len) (List.length rs) && true then kOpt (EVs (EV cfg) 
  18 [.sl (List.take len (List.drop off rs)), .sl L]) fun (v : AV) => kBool v fun (b : Bool) => bif b then kOpt (EVs (EV cfg) 13 [.agg [AV.int .i64 n, .int .i64 n_1, .str s, .sl rows, .sl 
  rows_1, .int .i64 n_2], .agg [AV.int .i64 ke, .int .i64 ne, .str se, .sl le, .sl bd, .int .i64 self]]) fun (v : AV) => kBool v fun (b : Bool) => bif b then kOpt (EVs (EV cfg) 14 []) fun 
  (v : AV) => kBool v fun (b : Bool) => some (.bool b) else some (.bool false) else some (.bool false) else none else some (.bool false) else none)) P) : Gets (EVs (EV cfg) 4 ([AV.sl L, AV.agg [AV.int IntKind.i64 ke, AV.int IntKind.i64 ne, AV.str se, AV.sl le, AV.sl bd, AV.int IntKind.i64 self]] : List AV)) P :=
  Gets.ev (fun _ h => funS rfl rfl Tryz.func4 rfl h) (Gets.eq (by kernel_rfl) h)
theorem wc8_0_step (v4 : Int) (c0_0 : Int) (c0_1 : Int) (c0_2 : List UInt8) (c0_3 : List (List AV)) (c0_4 : List (List AV)) (c0_5 : Int) (c1_0 : Int) (c1_1 : Int) (c1_2 : List UInt8) (c1_5 : Int) (c2_0 : Int) (c2_1 : Int) (c2_2 : List UInt8) (c2_3 : List (List AV)) (c2_5 : Int) {P : AV → Prop} (h : Gets (bif decide (v4 < (↑(List.length c0_4) : Int)) then bif leInt (0 : Int) v4 && ltInt v4 (↑(List.length c0_4) : Int) then kOpt (List.get?Internal c0_4 (Int.toNat v4)) fun (row : List AV) 
  => bif Nat.beq (List.length row) 5 then kOpt (List.get?Internal row 0) fun (v : AV) => kInt .i64 v fun (n : Int) => bif leInt (0 : Int) v4 && ltInt v4 (↑(List.length c0_4) : Int) then 
  kOpt (List.get?Internal c0_4 (Int.toNat v4)) fun (row : List AV) => bif Nat.beq (List.length row) 5 then bif Nat.ble 5 (List.length row) then kCons (List.take 4 (List.drop 1 row)) fun 
  (c : AV) (cs : List AV) => kInt .i64 c fun (n_1 : Int) => kCons cs fun (c : AV) (cs : List AV) => kInt .i64 c fun (n_2 : Int) => kCons cs fun (c : AV) (cs : List AV) => kStr c fun (s 
  : List UInt8) => kCons cs fun (c : AV) (cs : List AV) => kSl c fun (rows : List (List AV)) => kNil cs (kOpt (EVf (EV cfg) 7 [.agg [AV.int .i64 n_1, .int .i64 n_2, .str s, .sl rows]]) 
  fun (v : AV) => kTmV v fun (n_3 n_4 : Int) (s : List UInt8) (rows : List (List AV)) => (bif fitsIn 1 64 then wc8_0a (IntKind.wrap .i64 (v4 + (1 : Int))) c0_0 c0_1 c0_2 c0_3 c0_4 c0_5 
  c1_0 c1_1 c1_2 c1_5 c2_0 c2_1 c2_2 c2_3 1 c2_5 [[AV.int .i64 n, .int .i64 n_3, .int .i64 n_4, .str s, .sl rows]] else none)) else none else none else none else none else none else some 
  (.agg [AV.int .i64 c2_0, .int .i64 c2_1, .str c2_2, .sl c2_3, .sl [], .int .i64 c2_5])) P) : Gets (wc8_0 v4 c0_0 c0_1 c0_2 c0_3 c0_4 c0_5 c1_0 c1_1 c1_2 c1_5 c2_0 c2_1 c2_2 c2_3 c2_5) P :=
  Gets.ev (fun _ h => loop_step (cfg := cfg) (f := 8) (rd := none) (bs := 0) h) (Gets.eq (by kernel_rfl) h)
theorem wc8_0a_step (v4 : Int) (c0_0 : Int) (c0_1 : Int) (c0_2 : List UInt8) (c0_3 : List (List AV)) (c0_4 : List (List AV)) (c0_5 : Int) (c1_0 : Int) (c1_1 : Int) (c1_2 : List UInt8) (c1_5 : Int) (c2_0 : Int) (c2_1 : Int) (c2_2 : List UInt8) (c2_3 : List (List AV)) (nc2_4 : Nat) (c2_5 : Int) (h3 : List (List AV)) {P : AV → Prop} (h : Gets (bif decide (v4 < (↑(List.length c0_4) : Int)) then bif leInt (0 : Int) v4 && ltInt v4 (↑(List.length c0_4) : Int) then kOpt (List.get?Internal c0_4 (Int.toNat v4)) fun (row : List AV) 
  => bif Nat.beq (List.length row) 5 then kOpt (List.get?Internal row 0) fun (v : AV) => kInt .i64 v fun (n : Int) => bif leInt (0 : Int) v4 && ltInt v4 (↑(List.length c0_4) : Int) then 
  kOpt (List.get?Internal c0_4 (Int.toNat v4)) fun (row : List AV) => bif Nat.beq (List.length row) 5 then bif Nat.ble 5 (List.length row) then kCons (List.take 4 (List.drop 1 row)) fun 
  (c : AV) (cs : List AV) => kInt .i64 c fun (n_1 : Int) => kCons cs fun (c : AV) (cs : List AV) => kInt .i64 c fun (n_2 : Int) => kCons cs fun (c : AV) (cs : List AV) => kStr c fun (s 
  : List UInt8) => kCons cs fun (c : AV) (cs : List AV) => kSl c fun (rows : List (List AV)) => kNil cs (kOpt (EVf (EV cfg) 7 [.agg [AV.int .i64 n_1, .int .i64 n_2, .str s, .sl rows]]) 
  fun (v : AV) => kTmV v fun (n_3 n_4 : Int) (s : List UInt8) (rows : List (List AV)) => (bif Nat.ble (0 + nc2_4) (List.length h3) && fitsIn (nc2_4 + 1) 64 then wc8_0a (IntKind.wrap .i64 
  (v4 + (1 : Int))) c0_0 c0_1 c0_2 c0_3 c0_4 c0_5 c1_0 c1_1 c1_2 c1_5 c2_0 c2_1 c2_2 c2_3 (nc2_4 + 1) c2_5 (List.append (List.take nc2_4 h3) [[AV.int .i64 n, .int .i64 n_3, .int .i64 n_4, 
  .str s, .sl rows]]) else none)) else none else none else none else none else none else bif Nat.ble (0 + nc2_4) (List.length h3) && true then some (.agg [AV.int .i64 c2_0, .int .i64 c2_1, 
  .str c2_2, .sl c2_3, .sl (List.take nc2_4 h3), .int .i64 c2_5]) else none) P) : Gets (wc8_0a v4 c0_0 c0_1 c0_2 c0_3 c0_4 c0_5 c1_0 c1_1 c1_2 c1_5 c2_0 c2_1 c2_2 c2_3 nc2_4 c2_5 h3) P :=
  Gets.ev (fun _ h => loop_step (cfg := cfg) (f := 8) (rd := none) (bs := 0) h) (Gets.eq (by kernel_rfl) h)
end Go.Proofs.YtogebohommickaaGreat
end

section
namespace Go.Proofs.YtogebohommickaaGreat
open Go.Av
set_option maxRecDepth 100000
set_option maxHeartbeats 0

noncomputable def Lq67_0 : Den := evC cfg (EV cfg) 18 none 0 (sub (bodyOf Tryz.f18) [1, 1, 0, 1, 0, 0])
noncomputable def Aq67_0 : Ex × List AV × AH → Option AV := kAft (Cfg.keepOut cfg 18 4) (kRun cfg (EV cfg) (kfN cfg 6) 18 none 0 (kFinS cfg (Cfg.lift cfg 18 0) Tryz.f18.results.toList) ([.block 0, .seq (sub (bodyOf Tryz.f18) [1, 1, 1])]))
noncomputable def Wq67_0 : List AV × AH → Option AV := fun p => kOpt (LOOP 0 (some [0, 1, 5]) ([]) Lq67_0 p) Aq67_0
noncomputable def Lq59_0 : Den := evC cfg (EV cfg) 15 none 0 (sub (bodyOf Tryz.f15) [1, 1, 0, 1, 0, 0])
noncomputable def Aq59_0 : Ex × List AV × AH → Option OV := kAft (Cfg.keepOut cfg 15 3) (kRun cfg (EV cfg) (kfN cfg 6) 15 none 0 (kFinO cfg (Cfg.lift cfg 15 0) Tryz.f15.results.toList) ([.block 0, .seq (sub (bodyOf Tryz.f15) [1, 1, 1])]))
noncomputable def Wq59_0 : List AV × AH → Option OV := fun p => kOpt (LOOP 0 (some [0, 3, 4]) ([(3, 4)]) Lq59_0 p) Aq59_0
noncomputable abbrev wq67_0 (A : List (List AV)) (B : List (List AV)) (v5 : Int) : Option (AV) := Wq67_0  (((fx 27 [(0, AV.sl A), (1, AV.sl B), (5, AV.int IntKind.i64 v5)]) : List AV), ([] : AH))
noncomputable abbrev wq59_0 (A : List (List AV)) (nv3 : Nat) (v4 : Int) (h0 : List (List AV)) : Option (OV) := Wq59_0  (((fx 20 [(0, AV.sl A), (3, AV.ms (0 : Nat) (0 : Nat) nv3), (4, AV.int IntKind.i64 v4)]) : List AV), ([ABlk.rows true (4 : Nat) h0] : AH))
theorem tenurekit_SameTerm_run (ka : Int) (na : Int) (sa : List UInt8) (la : List (List AV)) (kb : Int) (nb : Int) (sb : List UInt8) (lb : List (List AV)) {P : AV → Prop} (h : Gets (bif ka == kb then bif na == nb then bif sa == sb then kOpt (EVs (EV cfg) 18 [.sl la, .sl lb]) fun (v : AV) => kBool v fun (b : Bool) => some (.bool b) else some (.bool false) else some 
  (.bool false) else some (.bool false)) P) : Gets (EVs (EV cfg) 11 ([AV.agg [AV.int IntKind.i64 ka, AV.int IntKind.i64 na, AV.str sa, AV.sl la], AV.agg [AV.int IntKind.i64 kb, AV.int IntKind.i64 nb, AV.str sb, AV.sl lb]] : List AV)) P :=
  Gets.ev (fun _ h => funS rfl rfl Tryz.func11 rfl h) (Gets.eq (by kernel_rfl) h)
theorem tenurekit_SameTerms_run (A : List (List AV)) (B : List (List AV)) {P : AV → Prop} (h : Gets (bif (↑(List.length A) : Int) != (↑(List.length B) : Int) then some (.bool false) else wq67_0 A B (0 : Int)) P) : Gets (EVs (EV cfg) 18 ([AV.sl A, AV.sl B] : List AV)) P :=
  Gets.ev (fun _ h => funS rfl rfl Tryz.func18 rfl h) (Gets.eq (by kernel_rfl) h)
theorem tenurekit_CopyTerm_run (kt : Int) (nt : Int) (st : List UInt8) (lt : List (List AV)) {P : AV → Prop} (h : Gets (kOpt (EVo (EV cfg) 15 [.sl lt]) fun (o : OV) => kOwn o (some (.agg [.int .i64 kt, .int .i64 nt, .str st, .sl []])) fun (sz : Nat) (rs : List (List AV)) (off len : Nat) => bif Nat.ble 
  (off + len) (List.length rs) && true then some (.agg [.int .i64 kt, .int .i64 nt, .str st, .sl (List.take len (List.drop off rs))]) else none) P) : Gets (EVf (EV cfg) 7 ([AV.agg [AV.int IntKind.i64 kt, AV.int IntKind.i64 nt, AV.str st, AV.sl lt]] : List AV)) P :=
  Gets.ev (fun _ h => funF rfl rfl Tryz.func7 rfl h) (Gets.eq (by kernel_rfl) h)
theorem tenurekit_CopyTerms_run (A : List (List AV)) {P : OV → Prop} (h : Gets (wq59_0 A 0 (0 : Int) []) P) : Gets (EVo (EV cfg) 15 ([AV.sl A] : List AV)) P :=
  Gets.ev (fun _ h => funO rfl rfl Tryz.func15 rfl h) (Gets.eq (by kernel_rfl) h)
theorem wq67_0_step (A : List (List AV)) (B : List (List AV)) (v5 : Int) {P : AV → Prop} (h : Gets (bif decide (v5 < (↑(List.length A) : Int)) then bif leInt (0 : Int) v5 && ltInt v5 (↑(List.length A) : Int) then kOpt (List.get?Internal A (Int.toNat v5)) fun (row : List AV) => bif 
  Nat.beq (List.length row) 4 then bif Nat.ble 4 (List.length row) then kTmC (List.take 4 row) fun (n n_1 : Int) (s : List UInt8) (rows : List (List AV)) => (bif leInt (0 : Int) v5 && 
  ltInt v5 (↑(List.length B) : Int) then kOpt (List.get?Internal B (Int.toNat v5)) fun (row : List AV) => bif Nat.beq (List.length row) 4 then bif Nat.ble 4 (List.length row) then kTmC 
  (List.take 4 row) fun (n_2 n_3 : Int) (s_1 : List UInt8) (rows_1 : List (List AV)) => (kOpt (EVs (EV cfg) 11 [.agg [.int .i64 n, .int .i64 n_1, .str s, .sl rows], .agg [.int .i64 n_2, 
  .int .i64 n_3, .str s_1, .sl rows_1]]) fun (v : AV) => kBool v fun (b : Bool) => bif !b then some (.bool false) else wq67_0 A B (IntKind.wrap .i64 (v5 + (1 : Int)))) else none else 
  none else none) else none else none else none else some (.bool true)) P) : Gets (wq67_0 A B v5) P :=
  Gets.ev (fun _ h => loop_step (cfg := cfg) (f := 18) (rd := none) (bs := 0) h) (Gets.eq (by kernel_rfl) h)
theorem wq59_0_step (A : List (List AV)) (nv3 : Nat) (v4 : Int) (h0 : List (List AV)) {P : OV → Prop} (h : Gets (bif decide (v4 < (↑(List.length A) : Int)) then bif leInt (0 : Int) v4 && ltInt v4 (↑(List.length A) : Int) then kOpt (List.get?Internal A (Int.toNat v4)) fun (row : List AV) => bif 
  Nat.beq (List.length row) 4 then bif Nat.ble 4 (List.length row) then kTmC (List.take 4 row) fun (n n_1 : Int) (s : List UInt8) (rows : List (List AV)) => (kOpt (EVf (EV cfg) 7 [.agg 
  [.int .i64 n, .int .i64 n_1, .str s, .sl rows]]) fun (v : AV) => kTmV v fun (n n_2 : Int) (s : List UInt8) (rows : List (List AV)) => (bif Nat.ble (0 + nv3) (List.length h0) && fitsIn 
  (nv3 + 1) 56 then wq59_0 A (nv3 + 1) (IntKind.wrap .i64 (v4 + (1 : Int))) (List.append (List.take nv3 h0) [[.int .i64 n, .int .i64 n_2, .str s, .sl rows]]) else none)) else none else 
  none else none else some (OV.own 4 h0 0 nv3)) P) : Gets (wq59_0 A nv3 v4 h0) P :=
  Gets.ev (fun _ h => loop_step (cfg := cfg) (f := 15) (rd := none) (bs := 0) h) (Gets.eq (by kernel_rfl) h)
end Go.Proofs.YtogebohommickaaGreat
end

section
namespace Go.Proofs.YtogebohommickaaGreat
open Go.Av
theorem copyTerms_of {l : List Tm} (hlen : l.length < 1099511627776) (ih : ∀ x ∈ l, EVf (EV cfg) 7 [x.av] = some x.av) :
    EVo (EV cfg) 15 [.sl (rowsT l)] = some (OV.own 4 (rowsT l) 0 l.length) := by
  have loop : ∀ d i : Nat, i + d = l.length → Gets (wq59_0 (rowsT l) i i (rowsT (l.take i))) (· = OV.own 4 (rowsT l) 0 l.length) := by
    intro d
    induction d with
    | zero =>
      intro i hi
      refine wq59_0_step _ _ _ _ ?_
      obtain rfl : i = l.length := by omega
      rw [rowsT_length, decide_eq_false (by omega), List.take_length]
      exact ⟨_, rfl, rfl⟩
    | succ d ihd =>
      intro i hi
      have hil : i < l.length := by omega
      refine wq59_0_step _ _ _ _ ?_
      have hx : l[i]? = some l[i] := List.getElem?_eq_getElem hil
      have h1 := ih l[i] (List.mem_of_getElem? hx)
      have h2 := ihd (i + 1) (by omega)
      have e1 : l.take (i + 1) = l.take i ++ [l[i]] := by rw [List.take_add_one, hx]; rfl
      have ht : (rowsT (l.take i)).length = i := by rw [rowsT_length, List.length_take]; omega
      have e2 : List.append (List.take i (rowsT (l.take i))) [l[i].cells] = rowsT (l.take (i + 1)) := by
        rw [List.take_of_length_le (by omega), e1, rowsT_append, rowsT_cons, rowsT_nil]; rfl
      have e3 : Nat.ble (0 + i) (rowsT (l.take i)).length = true := by rw [ht, Nat.ble_eq]; omega
      rw [rowsT_length, decide_eq_true (show (i : Int) < (l.length : Int) by omega), leInt_zero, ltInt_nat, decide_eq_true hil, rowsT_at hx, wrap_succ hil hlen, e3, fits56 (by omega)]
      simp only [cond_true, Bool.and_self, length_cells, Nat.beq_refl, take_cells, kTmC_cells, show Nat.ble 4 4 = true from rfl, av_unf, h1, kOptSome, kTmV_av]
      rw [← Tm.cells_eq, e2]
      exact h2
  apply Gets.get
  exact tenurekit_CopyTerms_run _ (by simpa [rowsT_nil] using loop l.length 0 (by omega))
theorem copyTerm_ev (t : Tm) : t.w < 1099511627776 → EVf (EV cfg) 7 [t.av] = some t.av := by
  induction t using Tm.ind with
  | _ k n s l ih =>
    intro hw
    rw [Tm.w_mk] at hw
    have hlen := wL_len l
    have h := copyTerms_of (l := l) (by omega) fun x hx => ih x hx (by have := wL_mem hx; omega)
    apply Gets.get
    rw [Tm.av_mk]
    refine tenurekit_CopyTerm_run _ _ _ _ ?_
    rw [h]
    have e : (Nat.ble (0 + l.length) (rowsT l).length && true) = true := by rw [Bool.and_true, Nat.ble_eq, rowsT_length]; omega
    have e2 : List.take l.length (List.drop 0 (rowsT l)) = rowsT l := List.take_of_length_le (by simp)
    show Gets (bif (Nat.ble (0 + l.length) (rowsT l).length && true) then some (AV.agg [.int .i64 k, .int .i64 n, .str s, .sl (List.take l.length (List.drop 0 (rowsT l)))]) else none) _
    rw [e, e2]
    exact ⟨_, rfl, rfl⟩
end Go.Proofs.YtogebohommickaaGreat
end

section
namespace Go.Proofs.YtogebohommickaaGreat
open Go.Av
theorem sameL_of (la lb : List Tm) (hlen : la.length < 1099511627776) (ih : ∀ a ∈ la, ∀ b, Gets (EVs (EV cfg) 11 [a.av, b.av]) (Tells (a = b))) : Gets (EVs (EV cfg) 18 [.sl (rowsT la), .sl (rowsT lb)]) (Tells (la = lb)) := by
  have loop : la.length = lb.length → ∀ (d i : Nat), i + d = la.length → la.take i = lb.take i → Gets (wq67_0 (rowsT la) (rowsT lb) i) (Tells (la = lb)) := by
    intro hl d
    induction d with
    | zero =>
      intro i hi ht
      refine wq67_0_step _ _ _ ?_
      rw [List.take_of_length_le (by omega), List.take_of_length_le (by omega)] at ht
      have h1 : ¬ i < la.length := by omega
      simp [h1, tells_bool]
      exact ht
    | succ d ihd =>
      intro i hi ht
      refine wq67_0_step _ _ _ ?_
      have hlt1 : i < la.length := by omega
      have hlt2 : i < lb.length := by omega
      have hx : la[i]? = some la[i] := List.getElem?_eq_getElem hlt1
      have hy : lb[i]? = some lb[i] := List.getElem?_eq_getElem hlt2
      have hix := ih la[i] (List.mem_of_getElem? hx) lb[i]
      have hta : la.take (i + 1) = la.take i ++ [la[i]] := by rw [List.take_add_one, hx]; rfl
      have htb : lb.take (i + 1) = lb.take i ++ [lb[i]] := by rw [List.take_add_one, hy]; rfl
      have hih := ihd (i + 1) (by omega)
      have hne : la[i] ≠ lb[i] → la ≠ lb := by intro h e; subst e; exact h rfl
      rw [hta, htb, ht] at hih
      rw [wrap_succ (n := la.length) (by omega) hlen]
      simp [hlt1, hlt2, hx, hy]
      refine Gets.bind hix ?_
      rintro _ ⟨b, rfl, hb⟩
      cases b with
      | true => simp; exact hih (by rw [hb.1 rfl])
      | false =>
        have : la ≠ lb := hne (fun e => by cases hb.2 e)
        simp [tells_bool, this]
  refine tenurekit_SameTerms_run _ _ ?_
  by_cases hl : la.length = lb.length
  · simp [hl]
    exact loop hl la.length 0 (by omega) (by simp)
  · have : la ≠ lb := fun e => hl (by rw [e])
    have hl' : ¬ ((la.length : Int) = lb.length) := by omega
    simp [bneD, hl', tells_bool, this]
theorem sameT_ev (a : Tm) : a.Ok → ∀ b : Tm, Gets (EVs (EV cfg) 11 [a.av, b.av]) (Tells (a = b)) := by
  induction a using Tm.ind with
  | _ k n s l ih =>
    intro hok b
    obtain ⟨k', n', s', l'⟩ := b
    have hl := sameL_of l l' hok.len (fun a ha b => ih a ha (hok.sub ha) b)
    rw [Tm.av_mk, Tm.av_mk]
    refine tenurekit_SameTerm_run _ _ _ _ _ _ _ _ ?_
    by_cases h1 : k = k'
    · by_cases h2 : n = n'
      · by_cases h3 : s = s'
        · subst h1 h2 h3
          simp
          refine Gets.bind hl ?_
          rintro _ ⟨b, rfl, hb⟩
          simp [tells_bool, hb]
        · simp [h1, h2, beqD, h3, tells_bool]
      · simp [h1, beqD, h2, tells_bool]
    · simp [beqD, h1, tells_bool]
theorem sameL_ev {la : List Tm} (h : OkL la) (hlen : la.length < 1099511627776) (lb : List Tm) : Gets (EVs (EV cfg) 18 [.sl (rowsT la), .sl (rowsT lb)]) (Tells (la = lb)) := sameL_of la lb hlen (fun a ha b => sameT_ev a (h.get ha) b)
theorem sameT_dec {a b : Tm} (h : a.Ok) {c : Bool} (hc : c = true ↔ a = b) : EVs (EV cfg) 11 [a.av, b.av] = some (.bool c) := by
  obtain ⟨_, h1, b', rfl, h2⟩ := sameT_ev a h b
  rw [h1]
  have : b' = c := by rw [Bool.eq_iff_iff]; exact h2.trans hc.symm
  rw [this]
end Go.Proofs.YtogebohommickaaGreat
end

section
namespace Go.Proofs.YtogebohommickaaGreat
open Go.Av
theorem size_ev (t : Tm) : t.Ok → ∀ most : Int, Gets (EVs (EV cfg) 50 [t.av, .int .i64 most]) AV.IsInt := by
  induction t using Tm.ind with
  | _ k n s l ih =>
    intro hok most
    have loop : ∀ (d i : Nat) (m : Int), i + d = l.length → Gets (wh47_0 most m i k n s (rowsT l)) AV.IsInt := by
      intro d
      induction d with
      | zero =>
        intro i m hi
        refine wh47_0_step _ _ _ _ _ _ _ ?_
        rw [rowsT_length, decide_eq_false (by omega)]
        simp
      | succ d ihd =>
        intro i m hi
        refine wh47_0_step _ _ _ _ _ _ _ ?_
        have hil : i < l.length := by omega
        have hx : l[i]? = some l[i] := List.getElem?_eq_getElem hil
        have hxl := List.mem_of_getElem? hx
        have hix := ih l[i] hxl (hok.sub hxl)
        by_cases hm : m < most
        · rw [wrap_succ hil hok.len]
          simp [hil, hx, hm]
          refine Gets.bind (hix _) ?_
          rintro _ ⟨n'', rfl⟩
          simpa using ihd (i + 1) _ (by omega)
        · simp [hil, hm]
    rw [Tm.av_mk]
    refine kitSize_run _ _ _ _ _ ?_
    by_cases h1 : (s.length : Int) > 100
    · rw [decide_eq_true h1]; simp
    · rw [decide_eq_false h1]
      by_cases h2 : (l.length : Int) > most
      · rw [rowsT_length, decide_eq_true h2]; simp
      · rw [rowsT_length, decide_eq_false h2]
        exact loop l.length 0 1 (by omega)
theorem big_ev {t : Tm} (h : t.Ok) (most : Int) : Gets (EVs (EV cfg) 21 [t.av, .int .i64 most]) AV.IsBool := by
  have h1 := size_ev t h (IntKind.wrap .i64 (most + 1))
  rw [Tm.av, Tm.cells_eq] at h1 ⊢
  refine kitBig_run _ _ _ _ _ ?_
  refine Gets.bind h1 ?_
  rintro _ ⟨n, rfl⟩
  simp
end Go.Proofs.YtogebohommickaaGreat
end

section
namespace Go.Av
theorem kChainL {α : Type} (t : Tm) (K : Int → Int → List UInt8 → List (List AV) → Option α) : (kCons t.cells fun (c : AV) (cs : List AV) => kInt .i64 c fun (n : Int) => kCons cs fun (c : AV) (cs : List AV) => kInt .i64 c fun (n_1 : Int) => kCons cs fun (c : AV) (cs : List AV) => kStr c fun (s : List UInt8) => kCons cs fun (c : AV) (cs : List AV) => kSl c fun (rows : List (List AV)) => kNil cs (K n n_1 s rows)) = K t.kind t.num t.str (rowsT t.subs) := kTmC_cells t K
end Go.Av
namespace Go.Proofs.YtogebohommickaaGreat
open Go.Av
theorem largeE_ev {l : List Tm} (hl : OkL l) (hlen : l.length < 1099511627776) {e : Env} (he : EnvW e) : Gets (EVs (EV cfg) 6 [.sl (rowsT l), envR e.obj e.binds e.self]) AV.IsBool := by
  have hb := big_ev (ok_of_w _ he.obj) 300
  have fin : Gets (bif decide (((rowsT l).length : Int) > 100) then some (.bool true) else bif decide (((bindsR e.binds).length : Int) > 60) then some (.bool true) else kOpt (EVs (EV cfg) 21 [e.obj.av, .int .i64 300]) fun (v : AV) => kBool v fun (b : Bool) => some (.bool b)) AV.IsBool := by
    cases decide (((rowsT l).length : Int) > 100) with
    | true => exact ⟨_, rfl, _, rfl⟩
    | false =>
      cases decide (((bindsR e.binds).length : Int) > 60) with
      | true => exact ⟨_, rfl, _, rfl⟩
      | false =>
        refine Gets.bind hb ?_
        rintro _ ⟨b, rfl⟩
        exact ⟨_, rfl, _, rfl⟩
  have loop1 : ∀ (d i : Nat), i + d = e.binds.length → Gets (wz9_1 (rowsT l) i e.obj.kind e.obj.num e.obj.str (rowsT e.obj.subs) (bindsR e.binds) e.self) AV.IsBool := by
    intro d
    induction d with
    | zero =>
      intro i hi
      refine wz9_1_step _ _ _ _ _ _ _ _ ?_
      rw [decide_eq_false (show ¬ (i : Int) < ((bindsR e.binds).length : Int) by rw [bindsR_len]; omega), cond_false, av_unf]
      exact fin
    | succ d ih =>
      intro i hi
      refine wz9_1_step _ _ _ _ _ _ _ _ ?_
      have hil : i < e.binds.length := by omega
      have h := ih (i + 1) (by omega)
      rw [decide_eq_true (show (i : Int) < ((bindsR e.binds).length : Int) by rw [bindsR_len]; omega), cond_true, av_unf]
      cases decide ((i : Int) < 61) with
      | false => exact fin
      | true =>
        rw [show ltInt (i : Int) ((bindsR e.binds).length : Int) = true by rw [bindsR_len, ltInt_nat]; exact decide_eq_true hil, leInt_zero, wrap_succ hil he.len]
        simp only [get?Internal_eq, Int.toNat_natCast, bindsR_get, List.getElem?_eq_getElem hil, Option.map_some, cond_true, Bool.and_self, List.length_cons, length_cells, show Nat.beq (4 + 1) 5 = true from rfl, show Nat.ble 5 (4 + 1) = true from rfl, kOptSome, List.drop_succ_cons, List.drop_zero, take_cells, kChainL, av_unf]
        refine Gets.bind (big_ev (ok_of_w _ (he.binds _ (List.getElem_mem hil))) 100) ?_
        rintro _ ⟨b, rfl⟩
        cases b with
        | true => exact ⟨_, rfl, _, rfl⟩
        | false => exact h
  have loop0 : ∀ (d i : Nat), i + d = l.length → Gets (wz9_0 (rowsT l) i e.obj.kind e.obj.num e.obj.str (rowsT e.obj.subs) (bindsR e.binds) e.self) AV.IsBool := by
    intro d
    induction d with
    | zero =>
      intro i hi
      refine wz9_0_step _ _ _ _ _ _ _ _ ?_
      rw [rowsT_length, decide_eq_false (by omega)]
      exact loop1 e.binds.length 0 (by omega)
    | succ d ih =>
      intro i hi
      refine wz9_0_step _ _ _ _ _ _ _ _ ?_
      have hil : i < l.length := by omega
      have hx : l[i]? = some l[i] := List.getElem?_eq_getElem hil
      have h := ih (i + 1) (by omega)
      rw [rowsT_length, decide_eq_true (show (i : Int) < (l.length : Int) by omega), cond_true]
      cases decide ((i : Int) < 101) with
      | false => exact loop1 e.binds.length 0 (by omega)
      | true =>
        rw [leInt_zero, ltInt_nat, decide_eq_true hil, rowsT_at hx, wrap_succ hil hlen]
        simp only [cond_true, Bool.and_self, length_cells, Nat.beq_refl, take_cells, kTmC_cells, ble44, av_unf]
        refine Gets.bind (big_ev (hl.get (List.mem_of_getElem? hx)) 300) ?_
        rintro _ ⟨b, rfl⟩
        cases b with
        | true => exact ⟨_, rfl, _, rfl⟩
        | false => exact h
  unfold envR
  exact law17Large_run _ _ _ _ _ _ _ (loop0 l.length 0 (by omega))
end Go.Proofs.YtogebohommickaaGreat
end

section
namespace Go.Proofs.YtogebohommickaaGreat
open Go.Av
set_option maxRecDepth 1000000
theorem guardKnown_k0 : EVs (EV cfg) 44 [.agg [.int .i64 7, .int .i64 0, .str [], .sl [[.int .i64 2, .int .i64 0, .str [107], .sl []], [.int .i64 1, .int .i64 3, .str [], .sl []]]]] = some (.int .i64 0) := factS (.nil) 1000 1000 (by kernel_rfl)
theorem guardKnown_k1 : EVf (EV cfg) 22 [.agg [.int .i64 7, .int .i64 0, .str [], .sl [[.int .i64 2, .int .i64 0, .str [107], .sl []], [.int .i64 1, .int .i64 3, .str [], .sl []]], .sl [[.int .i64 1, .int .i64 2, .int .i64 0, .str [107], .sl []], [.int .i64 2, .int .i64 1, .int .i64 3, .str [], .sl []]], .int .i64 1]] = some (.tup [.sl [[.int .i64 1], [.int .i64 2]], .bool true]) := factF (.consS guardKnown_k0 (.nil)) 1000 1000 (by kernel_rfl)
theorem guardKnown_k3 : EVs (EV cfg) 52 [.agg [.int .i64 2, .int .i64 0, .str [36, 49], .sl []]] = some (.tup [.int .i64 1, .bool true]) := factS (.nil) 1000 1000 (by kernel_rfl)
theorem guardKnown_k4 : EVs (EV cfg) 52 [.agg [.int .i64 2, .int .i64 0, .str [36, 50], .sl []]] = some (.tup [.int .i64 2, .bool true]) := factS (.nil) 1000 1000 (by kernel_rfl)
theorem guardKnown_k5 : EVf (EV cfg) 53 [.sl [[.int .i64 1, .int .i64 2, .int .i64 0, .str [107], .sl []], [.int .i64 2, .int .i64 1, .int .i64 3, .str [], .sl []]], .int .i64 1] = some (.tup [.agg [.int .i64 2, .int .i64 0, .str [107], .sl []], .bool true]) := factF (.nil) 1000 1000 (by kernel_rfl)
theorem guardKnown_k6 : EVf (EV cfg) 53 [.sl [[.int .i64 1, .int .i64 2, .int .i64 0, .str [107], .sl []], [.int .i64 2, .int .i64 1, .int .i64 3, .str [], .sl []]], .int .i64 2] = some (.tup [.agg [.int .i64 1, .int .i64 3, .str [], .sl []], .bool true]) := factF (.nil) 1000 1000 (by kernel_rfl)
theorem guardKnown_k35 : EVs (EV cfg) 44 [.agg [.int .i64 7, .int .i64 0, .str [], .sl [[.int .i64 2, .int .i64 0, .str [61, 61], .sl []], [.int .i64 2, .int .i64 0, .str [36, 49], .sl []], [.int .i64 2, .int .i64 0, .str [107], .sl []]]]] = some (.int .i64 0) := factS (.nil) 1000 1000 (by kernel_rfl)
theorem guardKnown_k36 : EVs (EV cfg) 122 [.sl [[.int .i64 2, .int .i64 0, .str [36, 49], .sl []], [.int .i64 2, .int .i64 0, .str [107], .sl []]], .fn (.func 107) [] [.cptr [.sl [[.int .i64 1], [.int .i64 2]]] 0]] = some (.int .i64 (-1)) := factS (.consS guardKnown_k3 (.nil)) 1000 1000 (by kernel_rfl)
theorem guardKnown_k37 : EVf (EV cfg) 9 [.agg [.int .i64 7, .int .i64 0, .str [], .sl [[.int .i64 2, .int .i64 0, .str [61, 61], .sl []], [.int .i64 2, .int .i64 0, .str [36, 49], .sl []], [.int .i64 2, .int .i64 0, .str [107], .sl []]]], .agg [.int .i64 7, .int .i64 0, .str [], .sl [[.int .i64 2, .int .i64 0, .str [107], .sl []], [.int .i64 1, .int .i64 3, .str [], .sl []]], .sl [[.int .i64 1, .int .i64 2, .int .i64 0, .str [107], .sl []], [.int .i64 2, .int .i64 1, .int .i64 3, .str [], .sl []]], .int .i64 1]] = some (.tup [.agg [.int .i64 2, .int .i64 0, .str [116, 114, 117, 101], .sl []], .int .i64 0]) := factF (.consF guardKnown_k1 (.consS guardKnown_k35 (.consS guardKnown_k36 (.consS guardKnown_k3 (.consF guardKnown_k5 (.nil)))))) 1000 1000 (by kernel_rfl)
theorem guardKnown_k42 : EVs (EV cfg) 44 [.agg [.int .i64 7, .int .i64 0, .str [], .sl [[.int .i64 2, .int .i64 0, .str [43], .sl []], [.int .i64 2, .int .i64 0, .str [36, 50], .sl []], [.int .i64 1, .int .i64 4, .str [], .sl []]]]] = some (.int .i64 0) := factS (.nil) 1000 1000 (by kernel_rfl)
theorem guardKnown_k43 : EVs (EV cfg) 51 [.agg [.int .i64 7, .int .i64 0, .str [], .sl [[.int .i64 2, .int .i64 0, .str [43], .sl []], [.int .i64 2, .int .i64 0, .str [36, 50], .sl []], [.int .i64 1, .int .i64 4, .str [], .sl []]]], .sl [[.int .i64 1], [.int .i64 2]]] = some (.bool true) := factS (.consS guardKnown_k4 (.nil)) 1000 1000 (by kernel_rfl)
theorem guardKnown_k44 : EVf (EV cfg) 9 [.agg [.int .i64 7, .int .i64 0, .str [], .sl [[.int .i64 2, .int .i64 0, .str [43], .sl []], [.int .i64 2, .int .i64 0, .str [36, 50], .sl []], [.int .i64 1, .int .i64 4, .str [], .sl []]]], .agg [.int .i64 7, .int .i64 0, .str [], .sl [[.int .i64 2, .int .i64 0, .str [107], .sl []], [.int .i64 1, .int .i64 3, .str [], .sl []]], .sl [[.int .i64 1, .int .i64 2, .int .i64 0, .str [107], .sl []], [.int .i64 2, .int .i64 1, .int .i64 3, .str [], .sl []]], .int .i64 1]] = some (.tup [.agg [.int .i64 1, .int .i64 7, .str [], .sl []], .int .i64 0]) := factF (.consF guardKnown_k1 (.consS guardKnown_k42 (.consS guardKnown_k43 (.consS guardKnown_k4 (.consF guardKnown_k6 (.nil)))))) 1000 1000 (by kernel_rfl)
theorem guardKnown_k45 : EVs (EV cfg) 44 [.agg [.int .i64 7, .int .i64 0, .str [], .sl [[.int .i64 2, .int .i64 0, .str [104, 100], .sl []], [.int .i64 8, .int .i64 0, .str [], .sl []]]]] = some (.int .i64 0) := factS (.nil) 1000 1000 (by kernel_rfl)
theorem guardKnown_k46 : EVf (EV cfg) 9 [.agg [.int .i64 7, .int .i64 0, .str [], .sl [[.int .i64 2, .int .i64 0, .str [104, 100], .sl []], [.int .i64 8, .int .i64 0, .str [], .sl []]]], .agg [.int .i64 7, .int .i64 0, .str [], .sl [[.int .i64 2, .int .i64 0, .str [107], .sl []], [.int .i64 1, .int .i64 3, .str [], .sl []]], .sl [[.int .i64 1, .int .i64 2, .int .i64 0, .str [107], .sl []], [.int .i64 2, .int .i64 1, .int .i64 3, .str [], .sl []]], .int .i64 1]] = some (.tup [.agg [.int .i64 0, .int .i64 0, .str [], .sl []], .int .i64 10]) := factF (.consF guardKnown_k1 (.consS guardKnown_k45 (.nil))) 1000 1000 (by kernel_rfl)
theorem guardKnown_k47 : EVs (EV cfg) 14 [] = some (.bool true) := factS (.consF guardKnown_k44 (.consF guardKnown_k46 (.consF guardKnown_k1 (.consF guardKnown_k37 (.nil))))) 1000 1000 (by kernel_rfl)
end Go.Proofs.YtogebohommickaaGreat
end

section
namespace Go.Av
theorem and_mask {a : Nat} (ha : a < 18446744073709551616) : fromSem (Op.intBits .and .u64 (a : Int) 4294967295) = some (.int .u64 ((a % 4294967296 : Nat) : Int)) := by
  have : fromSem (Op.intBits .and .u64 (a : Int) 4294967295) = some (.int .u64 (IntKind.wrap .u64 (BitVec.ofInt 64 (a : Int) &&& BitVec.ofInt 64 4294967295).toNat)) := rfl
  rw [this]
  have ea : (BitVec.ofInt 64 (a : Int)).toNat = a := by simp [BitVec.toNat_ofInt]; omega
  have eb : (BitVec.ofInt 64 (4294967295 : Int)).toNat = 2 ^ 32 - 1 := by decide
  rw [BitVec.toNat_and, ea, eb, Nat.and_two_pow_sub_one_eq_mod, wrapU (by omega)]
theorem shr_32 {a : Nat} (_ha : a < 18446744073709551616) : fromSem (Op.shift .shr .u64 (a : Int) .u64 32) = some (.int .u64 ((a / 4294967296 : Nat) : Int)) := by
  have : fromSem (Op.shift .shr .u64 (a : Int) .u64 32) = some (.int .u64 (Int.fdiv a (2 ^ (min (32 : Int).toNat 64)))) := by
    unfold Op.shift
    rw [if_neg (by omega)]; rfl
  rw [this]
  have e : ((2 : Int) ^ (min (32 : Int).toNat 64)) = ((4294967296 : Nat) : Int) := by decide
  rw [e, Int.fdiv_eq_ediv_of_nonneg _ (Int.natCast_nonneg _)]
  rfl
theorem wrapU' {n : Int} {m : Nat} (h : n = (m : Int)) (hm : m < 18446744073709551616) : IntKind.wrap .u64 n = (m : Int) := by rw [h, wrapU hm]
theorem wrapU_mod (n : Nat) : IntKind.wrap .u64 (n : Int) = ((n % 18446744073709551616 : Nat) : Int) := by
  simp [IntKind.wrap, IntKind.bits, IntKind.signed]
theorem hi_parts {a b : Nat} (ha : a < 18446744073709551616) (hb : b < 18446744073709551616) :
    let p := a / 4294967296 * (b % 4294967296); let q := a % 4294967296 * (b / 4294967296); let r := a % 4294967296 * (b % 4294967296); let s := a / 4294967296 * (b / 4294967296)
    r < 18446744073709551616 ∧ p < 18446744073709551616 ∧ q < 18446744073709551616 ∧ s < 18446744073709551616 ∧ p + r / 4294967296 < 18446744073709551616 ∧ (p + r / 4294967296) % 4294967296 + q < 18446744073709551616 ∧ s + (p + r / 4294967296) / 4294967296 < 18446744073709551616 ∧
    s + (p + r / 4294967296) / 4294967296 + ((p + r / 4294967296) % 4294967296 + q) / 4294967296 = a * b / 18446744073709551616 ∧ a * b / 18446744073709551616 < 18446744073709551616 := by
  intro p q r s
  have ea : a = a / 4294967296 * 4294967296 + a % 4294967296 := by omega
  have eb : b = b / 4294967296 * 4294967296 + b % 4294967296 := by omega
  have e : a * b = s * 18446744073709551616 + (p + q) * 4294967296 + r := by
    show a * b = (a / 4294967296 * (b / 4294967296)) * 18446744073709551616 + (a / 4294967296 * (b % 4294967296) + a % 4294967296 * (b / 4294967296)) * 4294967296 + a % 4294967296 * (b % 4294967296)
    generalize a / 4294967296 = x1 at *
    generalize a % 4294967296 = x0 at *
    generalize b / 4294967296 = y1 at *
    generalize b % 4294967296 = y0 at *
    rw [ea, eb]
    have h1 : x1 * 4294967296 * (y1 * 4294967296) = x1 * y1 * 18446744073709551616 := by
      rw [Nat.mul_mul_mul_comm]
    have h2 : x1 * 4294967296 * y0 = x1 * y0 * 4294967296 := by rw [Nat.mul_right_comm]
    have h3 : x0 * (y1 * 4294967296) = x0 * y1 * 4294967296 := by rw [Nat.mul_assoc]
    rw [Nat.add_mul, Nat.mul_add, Nat.mul_add, h1, h2, h3]
    omega
  have bp : p ≤ 4294967295 * 4294967295 := Nat.mul_le_mul (by omega) (by omega)
  have bq : q ≤ 4294967295 * 4294967295 := Nat.mul_le_mul (by omega) (by omega)
  have br : r ≤ 4294967295 * 4294967295 := Nat.mul_le_mul (by omega) (by omega)
  have bs : s ≤ 4294967295 * 4294967295 := Nat.mul_le_mul (by omega) (by omega)
  have hab : a * b < 18446744073709551616 * 18446744073709551616 := Nat.mul_lt_mul'' ha hb
  clear_value p q r s
  rw [e] at hab ⊢
  clear e ea eb
  refine ⟨by omega, by omega, by omega, by omega, by omega, by omega, by omega, by omega, by omega⟩
end Go.Av
namespace Go.Proofs.YtogebohommickaaGreat
open Go.Av
theorem mul64_ev {a b : Nat} (ha : a < 18446744073709551616) (hb : b < 18446744073709551616) :
    EVs (EV cfg) 127 [.int .u64 (a : Int), .int .u64 (b : Int)] = some (.tup [.int .u64 ((a * b / 18446744073709551616 : Nat) : Int), .int .u64 ((a * b % 18446744073709551616 : Nat) : Int)]) := by
  obtain ⟨h1, h2, h3, h4, h5, h6, h7, h8, h9⟩ := hi_parts ha hb
  have w0 : IntKind.wrap .u64 (((a % 4294967296 : Nat) : Int) * ((b % 4294967296 : Nat) : Int)) = ((a % 4294967296 * (b % 4294967296) : Nat) : Int) := wrapU' (Int.natCast_mul _ _).symm h1
  have w1 : IntKind.wrap .u64 (((a / 4294967296 : Nat) : Int) * ((b % 4294967296 : Nat) : Int)) = ((a / 4294967296 * (b % 4294967296) : Nat) : Int) := wrapU' (Int.natCast_mul _ _).symm h2
  have w2 : IntKind.wrap .u64 (((a % 4294967296 : Nat) : Int) * ((b / 4294967296 : Nat) : Int)) = ((a % 4294967296 * (b / 4294967296) : Nat) : Int) := wrapU' (Int.natCast_mul _ _).symm h3
  have w3 : IntKind.wrap .u64 (((a / 4294967296 : Nat) : Int) * ((b / 4294967296 : Nat) : Int)) = ((a / 4294967296 * (b / 4294967296) : Nat) : Int) := wrapU' (Int.natCast_mul _ _).symm h4
  have w4 : IntKind.wrap .u64 ((a : Int) * (b : Int)) = ((a * b % 18446744073709551616 : Nat) : Int) := by rw [← Int.natCast_mul, wrapU_mod]
  apply Gets.get
  refine mul64_run _ _ ?_
  rw [and_mask ha, shr_32 ha, and_mask hb, shr_32 hb]
  simp only [kOptSome, kInt_int, w0, w1, w2, w3, w4]
  rw [shr_32 h1]
  simp only [kOptSome, kInt_int]
  rw [wrapU' (Int.natCast_add _ _).symm h5, and_mask h5, shr_32 h5]
  simp only [kOptSome, kInt_int]
  rw [wrapU' (Int.natCast_add _ _).symm h6, shr_32 h6]
  simp only [kOptSome, kInt_int]
  rw [wrapU' (Int.natCast_add _ _).symm h7, wrapU' (Int.natCast_add _ _).symm (by rw [h8]; exact h9), h8]
  exact ⟨_, rfl, rfl⟩
theorem product_ok : ProductOk := by
  intro e a b ha hb
  obtain ⟨a1, a2⟩ := ha
  obtain ⟨b1, b2⟩ := hb
  -- what follows the two signs
  have fin : ∀ (x y : Nat) (sg : Int), x ≤ 576460752303423488 → y ≤ 576460752303423488 → (sg = 1 ∨ sg = -1) → a * b = sg * (x * y : Nat) →
      Gets (kOpt (EVs (EV cfg) 127 [.int .u64 (x : Int), .int .u64 (y : Int)]) fun (v : AV) => kTup v fun (cs : List AV) => kCons cs fun (c : AV) (cs : List AV) => kInt .u64 c fun (n : Int) => kCons cs fun (c : AV) (cs : List AV) => kInt .u64 c fun (n_1 : Int) => kNil cs (bif decide (n > (0 : Int)) then kOpt (EVd (EV cfg) 83 [.ptr 0 0 0] 7 (mR e false)) fun (q : AV × List (List AV)) => kTmV q.1 fun (n n_2 : Int) (s : List UInt8) (rows : List (List AV)) => (some (.agg [.int .i64 n, .int .i64 n_2, .str s, .sl rows], q.2)) else bif decide (n_1 > (576460752303423488 : Int)) then kOpt (EVd (EV cfg) 83 [.ptr 0 0 0] 7 (mR e false)) fun (q : AV × List (List AV)) => kTmV q.1 fun (n n_2 : Int) (s : List UInt8) (rows : List (List AV)) => (some (.agg [.int .i64 n, .int .i64 n_2, .str s, .sl rows], q.2)) else kOpt (EVd (EV cfg) 92 [.ptr 0 0 0, .int .i64 (IntKind.wrap .i64 (sg * IntKind.wrap .i64 n_1))] 7 (mR e false)) fun (q : AV × List (List AV)) => kTmV q.1 fun (n n_2 : Int) (s : List UInt8) (rows : List (List AV)) => (some (.agg [.int .i64 n, .int .i64 n_2, .str s, .sl rows], q.2)))) (Res e (withinG (a * b))) := by
    intro x y sg hx hy hsg hab
    rw [mul64_ev (by omega) (by omega)]
    simp only [kOptSome, kTup, kCons, kInt_int, kNil, mRaise_ev, kTmV_av, av_unf]
    have hbad : (x * y : Nat) > 576460752303423488 → withinG (a * b) = none := by
      intro h
      unfold withinG
      rw [if_neg]
      rintro ⟨h1, h2⟩
      rw [hab] at h1 h2
      rcases hsg with rfl | rfl <;> omega
    rw [hab] at hbad ⊢
    generalize x * y = p at *
    by_cases c1 : p / 18446744073709551616 > 0
    · rw [decide_eq_true (by omega), cond_true, hbad (by omega)]; exact ret_true
    · rw [decide_eq_false (by omega), cond_false]
      have ep : p % 18446744073709551616 = p := by omega
      rw [ep]
      by_cases c2 : p > 576460752303423488
      · rw [decide_eq_true (by omega), cond_true, hbad c2]; exact ret_true
      · rw [decide_eq_false (by omega), cond_false, wrap64 (x := (p : Int)) (by omega) (by omega)]
        have : IntKind.wrap .i64 (sg * (p : Int)) = sg * p := by rcases hsg with rfl | rfl <;> exact wrap64 (by omega) (by omega)
        rw [this]
        exact Gets.bind (mNumber_within e _ fun r h1 h2 => h1) fun r h => ret_res h (Res_tm h)
  have wneg : ∀ z : Int, -576460752303423488 ≤ z → z < 0 → IntKind.wrap .u64 (IntKind.wrap .i64 (0 - z)) = ((-z).toNat : Int) := by
    intro z h1 h2
    rw [wrap64 (by omega) (by omega)]
    exact wrapU' (by omega) (by omega)
  have wpos : ∀ z : Int, 0 ≤ z → z ≤ 576460752303423488 → IntKind.wrap .u64 z = (z.toNat : Int) := fun z h1 h2 => wrapU' (by omega) (by omega)
  refine mProduct_run _ _ _ _ _ _ _ _ _ ?_
  by_cases ca : a < 0
  · rw [decide_eq_true ca, cond_true]
    by_cases cb : b < 0
    · rw [decide_eq_true cb, cond_true, wneg a a1 ca, wneg b b1 cb]
      refine fin (-a).toNat (-b).toNat 1 (by omega) (by omega) (Or.inl rfl) ?_
      rw [Int.natCast_mul, Int.toNat_of_nonneg (by omega), Int.toNat_of_nonneg (by omega), Int.neg_mul_neg, Int.one_mul]
    · rw [decide_eq_false cb, cond_false, wneg a a1 ca, wpos b (by omega) (by omega)]
      refine fin (-a).toNat b.toNat (-1) (by omega) (by omega) (Or.inr rfl) ?_
      rw [Int.natCast_mul, Int.toNat_of_nonneg (by omega), Int.toNat_of_nonneg (by omega), Int.neg_mul, Int.one_mul, Int.neg_mul, Int.neg_neg]
  · rw [decide_eq_false ca, cond_false]
    by_cases cb : b < 0
    · rw [decide_eq_true cb, cond_true, wpos a (by omega) (by omega), wneg b b1 cb]
      refine fin a.toNat (-b).toNat (-1) (by omega) (by omega) (Or.inr rfl) ?_
      rw [Int.natCast_mul, Int.toNat_of_nonneg (by omega), Int.toNat_of_nonneg (by omega), Int.neg_mul, Int.one_mul, Int.mul_neg, Int.neg_neg]
    · rw [decide_eq_false cb, cond_false, wpos a (by omega) (by omega), wpos b (by omega) (by omega)]
      refine fin a.toNat b.toNat 1 (by omega) (by omega) (Or.inl rfl) ?_
      rw [Int.natCast_mul, Int.toNat_of_nonneg (by omega), Int.toNat_of_nonneg (by omega), Int.one_mul]
end Go.Proofs.YtogebohommickaaGreat
end

section
namespace Go.Av
theorem fits64 {n : Nat} (h : n ≤ 1099511627776) : fitsIn n 64 = true := by
  unfold fitsIn
  rw [Bool.and_eq_true, Nat.ble_eq, Nat.ble_eq]
  omega
theorem kEnv {α : Type} (o : Tm) (bd : List (List AV)) (self : Int) (K : Int → Int → List UInt8 → List (List AV) → List (List AV) → Int → Option α) : (kAgg (.agg [.int .i64 o.kind, .int .i64 o.num, .str o.str, .sl (rowsT o.subs), .sl bd, .int .i64 self]) fun cs => kCons cs fun c cs => kInt .i64 c fun n => kCons cs fun c cs => kInt .i64 c fun n_1 => kCons cs fun c cs => kStr c fun s => kCons cs fun c cs => kSl c fun rows => kCons cs fun c cs => kSl c fun rows_1 => kCons cs fun c cs => kInt .i64 c fun n_2 => kNil cs (K n n_1 s rows rows_1 n_2)) = K o.kind o.num o.str (rowsT o.subs) bd self := rfl
end Go.Av
namespace Go.Proofs.YtogebohommickaaGreat
open Go.Av
theorem copied_ev {e : Env} (he : EnvW e) : EVf (EV cfg) 8 [envR e.obj e.binds e.self] = some (envR e.obj e.binds e.self) := by
  have hlen := he.len
  have hc := copyTerm_ev e.obj he.obj
  have e1 : ∀ {i : Nat} (h : i < e.binds.length), e.binds.take (i + 1) = e.binds.take i ++ [e.binds[i]] := fun {i} h => by rw [List.take_add_one, List.getElem?_eq_getElem h]; rfl
  have row : ∀ (i : Nat) (h : i < e.binds.length) (k : List AV → Option AV), kOpt (List.get?Internal (bindsR e.binds) (Int.toNat (i : Int))) k = k (.int .i64 e.binds[i].1 :: e.binds[i].2.cells) := fun i h k => by
    rw [get?Internal_eq, Int.toNat_natCast, bindsR_get, List.getElem?_eq_getElem h]; rfl
  have cp : ∀ (i : Nat) (h : i < e.binds.length), EVf (EV cfg) 7 [e.binds[i].2.av] = some e.binds[i].2.av := fun i h => copyTerm_ev _ (he.binds _ (List.getElem_mem h))
  have loop : ∀ (d i : Nat), i + d = e.binds.length → Gets (wc8_0a i e.obj.kind e.obj.num e.obj.str (rowsT e.obj.subs) (bindsR e.binds) e.self 0 0 [] 0 e.obj.kind e.obj.num e.obj.str (rowsT e.obj.subs) i e.self (bindsR (e.binds.take i))) (· = envR e.obj e.binds e.self) := by
    intro d
    induction d with
    | zero =>
      intro i hi
      refine wc8_0a_step _ _ _ _ _ _ _ _ _ _ _ _ _ _ _ _ _ _ ?_
      obtain rfl : i = e.binds.length := by omega
      have hb : Nat.ble (0 + e.binds.length) e.binds.length = true := by rw [Nat.ble_eq]; omega
      have ht : List.take e.binds.length (bindsR e.binds) = bindsR e.binds := List.take_of_length_le (by rw [bindsR_len]; omega)
      rw [bindsR_len, decide_eq_false (by omega), List.take_length, bindsR_len, hb, ht]
      exact ⟨_, rfl, rfl⟩
    | succ d ih =>
      intro i hi
      refine wc8_0a_step _ _ _ _ _ _ _ _ _ _ _ _ _ _ _ _ _ _ ?_
      have hil : i < e.binds.length := by omega
      have h := ih (i + 1) (by omega)
      have e3 : Nat.ble (0 + i) (bindsR (e.binds.take i)).length = true := by rw [bindsR_len, List.length_take, Nat.ble_eq]; omega
      have e2 : List.append (List.take i (bindsR (e.binds.take i))) [AV.int .i64 e.binds[i].1 :: e.binds[i].2.cells] = bindsR (e.binds.take (i + 1)) := by
        rw [List.take_of_length_le (by rw [bindsR_len, List.length_take]; omega), e1 hil]; unfold bindsR; rw [List.map_append]; rfl
      rw [bindsR_len, decide_eq_true (show (i : Int) < (e.binds.length : Int) by omega), leInt_zero, ltInt_nat, decide_eq_true hil, wrap_succ hil hlen]
      simp only [row i hil]
      rw [e3, fits64 (by omega)]
      simp only [cond_true, Bool.and_self, List.length_cons, length_cells, show Nat.beq (4 + 1) 5 = true from rfl, show Nat.ble 5 (4 + 1) = true from rfl, get?Internal_eq, List.getElem?_cons_zero, kOptSome, kInt_int, List.drop_succ_cons, List.drop_zero, take_cells, kChain, av_unf, cp i hil, kTmV_av]
      rw [← Tm.cells_eq, e2]
      exact h
  apply Gets.get
  unfold envR at *
  rw [Tm.av, Tm.cells_eq] at hc
  refine law17Copied_run _ _ _ _ _ _ ?_
  rw [hc]
  have e5 : (AV.agg [.int .i64 e.obj.kind, .int .i64 e.obj.num, .str e.obj.str, .sl (rowsT e.obj.subs)]) = e.obj.av := av_unf _
  rw [e5]
  simp only [kOptSome, kTmV_av]
  refine wc8_0_step _ _ _ _ _ _ _ _ _ _ _ _ _ _ _ _ ?_
  by_cases h0 : e.binds = []
  · rw [h0]
    exact ⟨_, rfl, rfl⟩
  · have hil : 0 < e.binds.length := List.length_pos_iff.2 h0
    have h := loop (e.binds.length - 1) 1 (by omega)
    have r0 := row 0 hil
    have w1 : IntKind.wrap .i64 (0 + 1) = ((1 : Nat) : Int) := wrap64 (by omega) (by omega)
    have e6 : bindsR (e.binds.take 1) = [AV.int .i64 e.binds[0].1 :: e.binds[0].2.cells] := by
      rw [e1 hil]; rfl
    have l0 : leInt 0 0 = true := rfl
    have l1 : ltInt 0 (e.binds.length : Int) = true := decide_eq_true (by omega)
    rw [bindsR_len, decide_eq_true (show (0 : Int) < (e.binds.length : Int) by omega), l0, l1, w1, fits64 (by omega)]
    have r0' : ∀ (k : List AV → Option AV), kOpt (List.get?Internal (bindsR e.binds) (Int.toNat 0)) k = k (.int .i64 e.binds[0].1 :: e.binds[0].2.cells) := r0
    simp only [r0']
    simp only [cond_true, Bool.and_self, List.length_cons, length_cells, show Nat.beq (4 + 1) 5 = true from rfl, show Nat.ble 5 (4 + 1) = true from rfl, get?Internal_eq, List.getElem?_cons_zero, kOptSome, kInt_int, List.drop_succ_cons, List.drop_zero, take_cells, kChain, av_unf, cp 0 hil, kTmV_av]
    rw [← Tm.cells_eq, ← e6]
    exact h
theorem sameBinds_ev {A B : List (Int × Tm)} (hlen : A.length < 1099511627776) (hw : ∀ p ∈ A, p.2.w < 1099511627776) : Gets (EVs (EV cfg) 31 [.sl (bindsR A), .sl (bindsR B)]) (Tells (A = B)) := by
  have loop : A.length = B.length → ∀ (d i : Nat), i + d = A.length → Gets (wa31_0 (bindsR A) (bindsR B) i) (Tells (A.drop i = B.drop i)) := by
    intro hl d
    induction d with
    | zero =>
      intro i hi
      refine wa31_0_step _ _ _ ?_
      rw [bindsR_len, decide_eq_false (by omega), List.drop_eq_nil_of_le (by omega), List.drop_eq_nil_of_le (by omega)]
      exact ⟨_, rfl, true, rfl, by simp⟩
    | succ d ih =>
      intro i hi
      have hil : i < A.length := by omega
      have hil' : i < B.length := by omega
      have hx : A[i]? = some A[i] := List.getElem?_eq_getElem hil
      have hy : B[i]? = some B[i] := List.getElem?_eq_getElem hil'
      have h := ih (i + 1) (by omega)
      have hs := sameT_ev A[i].2 (ok_of_w _ (hw _ (List.getElem_mem hil))) B[i].2
      refine wa31_0_step _ _ _ ?_
      rw [List.drop_eq_getElem_cons hil, List.drop_eq_getElem_cons hil', bindsR_len, bindsR_len, decide_eq_true (show (i : Int) < (A.length : Int) by omega), leInt_zero, ltInt_nat, ltInt_nat, decide_eq_true hil, decide_eq_true hil', wrap_succ hil hlen]
      simp only [get?Internal_eq, Int.toNat_natCast, bindsR_get, hx, hy, Option.map_some, cond_true, Bool.and_self, List.length_cons, length_cells, show Nat.beq (4 + 1) 5 = true from rfl, show Nat.ble 5 (4 + 1) = true from rfl, List.getElem?_cons_zero, kOptSome, kInt_int, List.drop_succ_cons, List.drop_zero, take_cells, kChain, av_unf]
      have bneI : (A[i].1 != B[i].1) = !decide (A[i].1 = B[i].1) := by rw [bne, beqI]
      rw [bneI]
      by_cases h1 : A[i].1 = B[i].1
      · rw [decide_eq_true h1]
        refine Gets.bind hs ?_
        rintro _ ⟨b, rfl, hb⟩
        cases b with
        | true =>
          refine Gets.mono h ?_
          rintro _ ⟨c, rfl, hc⟩
          refine ⟨c, rfl, hc.trans ?_⟩
          have e : A[i] = B[i] := Prod.ext h1 (hb.1 rfl)
          exact ⟨fun h => by rw [e, h], fun h => (List.cons.inj h).2⟩
        | false =>
          refine ⟨_, rfl, false, rfl, ?_⟩
          simp only [Bool.false_eq_true, false_iff]
          intro e
          have := (List.cons.inj e).1
          have := hb.2 (by rw [this])
          cases this
      · rw [decide_eq_false h1]
        refine ⟨_, rfl, false, rfl, ?_⟩
        simp only [Bool.false_eq_true, false_iff]
        intro e
        exact h1 (by rw [(List.cons.inj e).1])
  refine sameBinds_run _ _ ?_
  rw [bindsR_len, bindsR_len]
  have bneI : (((A.length : Nat) : Int) != ((B.length : Nat) : Int)) = !decide ((A.length : Int) = (B.length : Int)) := by rw [bne, beqI]
  rw [bneI]
  by_cases hl : A.length = B.length
  · rw [decide_eq_true (by omega)]
    exact loop hl A.length 0 (by omega)
  · rw [decide_eq_false (by omega)]
    exact ⟨_, rfl, false, rfl, by simp; intro e; exact hl (by rw [e])⟩
theorem same17_ev {e : Env} (he : EnvW e) : EVs (EV cfg) 13 [envR e.obj e.binds e.self, envR e.obj e.binds e.self] = some (.bool true) := by
  have h1 := sameT_dec (ok_of_w _ he.obj) (b := e.obj) (c := true) (by simp)
  have h2 : EVs (EV cfg) 31 [.sl (bindsR e.binds), .sl (bindsR e.binds)] = some (.bool true) := by
    obtain ⟨_, h1, b, rfl, h2⟩ := sameBinds_ev (B := e.binds) he.len he.binds
    rw [h1, h2.2 rfl]
  apply Gets.get
  unfold envR
  refine law17Same_run _ _ _ _ _ _ _ _ _ _ _ _ ?_
  have e5 : (AV.agg [.int .i64 e.obj.kind, .int .i64 e.obj.num, .str e.obj.str, .sl (rowsT e.obj.subs)]) = e.obj.av := av_unf _
  rw [e5, h1, h2]
  simp only [kOptSome, kBool_bool, cond_true, beq_self_eq_true]
  exact ⟨_, rfl, rfl⟩
theorem copyTerms_ev {l : List Tm} (h : wL l < 1099511627776) : EVo (EV cfg) 15 [.sl (rowsT l)] = some (OV.own 4 (rowsT l) 0 l.length) := by
  have := wL_len l
  exact copyTerms_of (by omega) fun x hx => copyTerm_ev x (by have := wL_mem hx; omega)
theorem guardHolds_ev {e : Env} (he : EnvW e) {l : List Tm} (hl : wL l < 1099511627776) : EVs (EV cfg) 4 [.sl (rowsT l), envR e.obj e.binds e.self] = some (.bool true) := by
  have hlen := wL_len l
  have hlw : ∀ x ∈ l, x.w < 1099511627776 := fun x hx => by have := wL_mem hx; omega
  have h1 := largeE_ev (okL_of_w hl) (by omega) he
  have h2 := copyTerms_ev hl
  have h3 := copied_ev he
  have h4 := holds_ev product_ok he hlw (by omega)
  have h5 := r17Holds_ev he hlw (by omega)
  have h6 : EVs (EV cfg) 18 [.sl (rowsT l), .sl (rowsT l)] = some (.bool true) := by
    obtain ⟨_, h1, b, rfl, h2⟩ := sameL_ev (okL_of_w hl) (by omega) l
    rw [h1, h2.2 rfl]
  have h7 := same17_ev he
  have ht : List.take l.length (List.drop 0 (rowsT l)) = rowsT l := List.take_of_length_le (by simp)
  have hb : Nat.ble (0 + l.length) (rowsT l).length = true := by rw [Nat.ble_eq, rowsT_length]; omega
  apply Gets.get
  unfold envR at *
  refine law17Holds_run _ _ _ _ _ _ _ ?_
  refine Gets.bind h1 ?_
  rintro _ ⟨b, rfl⟩
  cases b with
  | true => exact ⟨_, rfl, rfl⟩
  | false =>
    rw [h2, h3]
    simp only [kBool_bool, cond_false, kOptSome, kEnv, kOwn_own, hb, Bool.and_true, cond_true, ht, h4, h5, beq_self_eq_true, h6, h7, guardKnown_k47]
    exact ⟨_, rfl, rfl⟩
end Go.Proofs.YtogebohommickaaGreat
end

section
namespace Go.Av
mutual
def AV.wt : AV → Nat
  | .str s => s.length + 1
  | .sl rows => wtR rows + 1
  | _ => 1
def wtL : List AV → Nat
  | [] => 0
  | a :: l => a.wt + wtL l
def wtR : List (List AV) → Nat
  | [] => 0
  | a :: l => wtL a + wtR l
end
@[simp] theorem wtL_nil : wtL [] = 0 := by rw [wtL]
@[simp] theorem wtL_cons (a : AV) (l : List AV) : wtL (a :: l) = a.wt + wtL l := by rw [wtL]
@[simp] theorem wtR_nil : wtR [] = 0 := by rw [wtR]
@[simp] theorem wtR_cons (a : List AV) (l : List (List AV)) : wtR (a :: l) = wtL a + wtR l := by rw [wtR]
@[simp] theorem wt_int (k : IntKind) (n : Int) : (AV.int k n).wt = 1 := by rw [AV.wt] <;> simp
@[simp] theorem wt_bool (b : Bool) : (AV.bool b).wt = 1 := by rw [AV.wt] <;> simp
@[simp] theorem wt_str (s : List UInt8) : (AV.str s).wt = s.length + 1 := by rw [AV.wt]
@[simp] theorem wt_sl (r : List (List AV)) : (AV.sl r).wt = wtR r + 1 := by rw [AV.wt]
theorem wtL_append (a b : List AV) : wtL (a ++ b) = wtL a + wtL b := by
  induction a with
  | nil => simp
  | cons x l ih => simp [ih]; omega
end Go.Av
namespace Go.Proofs.YtogebohommickaaGreat
open Go.Av Go.WideShapes
def tiled (P : Program) : Nat → List Field → Option Nat
  | off, [] => some off
  | off, f :: fs => if f.offset = off then tiled P (off + P.cellsOf f.type) fs else none
def goodTy (P : Program) (ts : List TypeId) (t : TypeId) : Bool :=
  match P.underlying t with
  | some (.int _) | some .bool | some .string => decide (P.cellsOf t = 1)
  | some (.struct fs) => decide (tiled P 0 fs.toList = some (P.cellsOf t)) && fs.toList.all (fun f => decide (f.type ∈ ts))
  | some (.slice e) => decide (P.cellsOf t = 1) && (decide (e ∈ ts) && decide (0 < P.cellsOf e))
  | _ => false
def Lay (P : Program) : Nat → TypeId → List AV → Prop
  | 0, _, _ => False
  | n + 1, t, cz =>
    match P.underlying t with
    | some (.int k) => ∃ m, cz = [.int k m] ∧ (Lit.int k m).wf = true
    | some .bool => ∃ b, cz = [.bool b]
    | some .string => ∃ s, cz = [.str s]
    | some (.struct fs) => cz.length = P.cellsOf t ∧ ∀ (i : Nat) f, fs[i]? = some f → Lay P n f.type ((cz.drop f.offset).take (P.cellsOf f.type))
    | some (.slice e) => ∃ rows, cz = [.sl rows] ∧ ∀ row ∈ rows, row.length = P.cellsOf e ∧ Lay P n e row
    | _ => False
def CellsR (W : World) (cs : List Value) (cz : List AV) : Prop := cz.length = cs.length ∧ ∀ (j : Nat) a v, cz[j]? = some a → cs[j]? = some v → a.isCell = true ∧ Rep (C0 W) M0 a v
theorem CellsR.nil {W : World} : CellsR W [] [] := ⟨rfl, fun j a v h => by simp at h⟩
theorem CellsR.one {W : World} {a : AV} {v : Value} (h1 : a.isCell = true) (h2 : Rep (C0 W) M0 a v) : CellsR W [v] [a] := ⟨rfl, fun j a' v' ha hv => by
  match j, ha, hv with
  | 0, ha, hv => simp at ha hv; subst ha hv; exact ⟨h1, h2⟩
  | j + 1, ha, hv => simp at ha⟩
theorem CellsR.append {W : World} {cs cs' : List Value} {cz cz' : List AV} (h : CellsR W cs cz) (h' : CellsR W cs' cz') : CellsR W (cs ++ cs') (cz ++ cz') := by
  refine ⟨by simp [h.1, h'.1], fun j a v ha hv => ?_⟩
  by_cases hj : j < cz.length
  · rw [List.getElem?_append_left hj] at ha
    rw [List.getElem?_append_left (by rw [← h.1]; exact hj)] at hv
    exact h.2 j a v ha hv
  · rw [List.getElem?_append_right (by omega)] at ha
    rw [List.getElem?_append_right (by rw [← h.1]; omega), ← h.1] at hv
    exact h'.2 _ a v ha hv
section
variable {H : Type} {enc : TypeId × Value → H} {P : Program} {W : World}
def Opens (enc : TypeId × Value → H) (P : Program) (W : World) (n : Nat) (t : TypeId) : Prop :=
  ∀ cs x, DataW.trod enc P W 0 (fun _ => true) true n t cs = some x → ∃ cz, CellsR W cs cz ∧ cs.length = P.cellsOf t ∧ Lay P n t cz ∧ wtL cz ≤ Rows.uptoBulk x.1 ∧ refsLtL 0 cz = true ∧
    ∀ (W' : World) (sp : Nat → Bool), (∀ p ∈ x.2, W.sameAt W' p) → (∀ p ∈ x.2, sp p.block = true) → DataW.trod enc P W' 0 sp true n t cs = some x
theorem open_fields {n : Nat} {ts : List TypeId} (ih : ∀ t ∈ ts, Opens enc P W n t) {cs : List Value} : ∀ (fs : List Field) (off : Nat), tiled P off fs = some cs.length → (∀ f ∈ fs, f.type ∈ ts) →
    ∀ xs, (fs.mapM fun f => DataW.trod enc P W 0 (fun _ => true) true n f.type ((cs.drop f.offset).take (P.cellsOf f.type))) = some xs →
    ∃ cz, CellsR W (cs.drop off) cz ∧ (∀ f ∈ fs, off ≤ f.offset ∧ Lay P n f.type ((cz.drop (f.offset - off)).take (P.cellsOf f.type))) ∧ wtL cz ≤ Rows.uptoBulkAll (xs.map (·.1)) ∧ refsLtL 0 cz = true ∧
      ∀ (W' : World) (sp : Nat → Bool), (∀ p ∈ xs.flatMap (·.2), W.sameAt W' p) → (∀ p ∈ xs.flatMap (·.2), sp p.block = true) →
        (fs.mapM fun f => DataW.trod enc P W' 0 sp true n f.type ((cs.drop f.offset).take (P.cellsOf f.type))) = some xs := by
  intro fs
  induction fs with
  | nil =>
    intro off ht _ xs hx
    rw [tiled] at ht
    cases ht
    simp at hx
    subst hx
    refine ⟨[], ?_, fun f hf => by simp at hf, by simp, rfl, fun W' sp _ _ => by simp⟩
    rw [List.drop_length]; exact CellsR.nil
  | cons f fs ihf =>
    intro off ht hin xs hx
    rw [tiled] at ht
    split at ht
    · rename_i ho
      rw [List.mapM_cons] at hx
      obtain ⟨x, h1, hx⟩ := Option.bind_eq_some_iff.1 hx
      obtain ⟨ys, h2, hx⟩ := Option.bind_eq_some_iff.1 hx
      cases hx
      obtain ⟨a1, c1, l1, y1, w1, r1, b1⟩ := ih f.type (hin f (by simp)) _ _ h1
      obtain ⟨a2, c2, y2, w2, r2, b2⟩ := ihf (off + P.cellsOf f.type) ht (fun g hg => hin g (by simp [hg])) ys h2
      have hlen : a1.length = P.cellsOf f.type := by rw [c1.1, l1]
      refine ⟨a1 ++ a2, ?_, fun g hg => ?_, ?_, refsLtL_app r1 r2, fun W' sp hs hp => ?_⟩
      · have := c1.append c2
        rw [ho, ← List.drop_drop, List.take_append_drop] at this
        exact this
      · rcases List.mem_cons.1 hg with rfl | hg
        · refine ⟨by omega, ?_⟩
          rw [ho, Nat.sub_self, List.drop_zero, ← hlen, List.take_append_of_le_length (Nat.le_refl _), List.take_length]
          exact y1
        · obtain ⟨g1, g2⟩ := y2 g hg
          refine ⟨by omega, ?_⟩
          have : List.drop (g.offset - off) (a1 ++ a2) = List.drop (g.offset - (off + P.cellsOf f.type)) a2 := by
            have e : g.offset - off = a1.length + (g.offset - (off + P.cellsOf f.type)) := by omega
            rw [e, ← List.drop_drop, List.drop_left]
          rw [this]
          exact g2
      · rw [wtL_append]
        simp only [List.map_cons, Rows.uptoBulkAll]
        omega
      · rw [List.mapM_cons, b1 W' sp (fun p hpp => hs p (by simp [hpp])) (fun p hpp => hp p (by simp [hpp]))]
        have b3 := b2 W' sp (fun p hpp => hs p (by rw [List.flatMap_cons]; exact List.mem_append_right _ hpp)) (fun p hpp => hp p (by rw [List.flatMap_cons]; exact List.mem_append_right _ hpp))
        show Option.bind _ _ = _
        rw [Option.bind_some]
        show Option.bind _ _ = _
        rw [b3]; rfl
    · cases ht
theorem bulk_rows {e : Nat} : ∀ (rows : List (List AV)) (ds : List (DataW H)), rows.length = ds.length → (∀ (i : Nat) row d, rows[i]? = some row → ds[i]? = some d → wtL row ≤ Rows.uptoBulk d) → wtR rows ≤ Rows.uptoBulkAll ds
  | [], [], _, _ => by simp [Rows.uptoBulkAll]
  | t :: l, d :: ds, hl, h => by
    have h0 := h 0 t d rfl rfl
    have := bulk_rows (e := e) l ds (by simpa using hl) (fun i t d ht hd => h (i + 1) t d (by simpa using ht) (by simpa using hd))
    simp only [wtR_cons, Rows.uptoBulkAll]
    omega
theorem open_gen {ts : List TypeId} (hts : ∀ t ∈ ts, goodTy P ts t = true) : ∀ (n : Nat), ∀ t ∈ ts, Opens enc P W n t := by
  intro n
  induction n with
  | zero => intro t _ cs x h; simp [DataW.trod] at h
  | succ n ih =>
    intro t ht cs x h
    have hg := hts t ht
    unfold goodTy at hg
    split at hg
    · rename_i k hu
      obtain ⟨m, rfl, rfl, hw⟩ := DataW.trod_int hu h
      refine ⟨[.int k m], CellsR.one rfl (.int _ _), (of_decide_eq_true hg).symm, by unfold Lay; rw [hu]; exact ⟨m, rfl, hw⟩, by simp [Rows.uptoBulk], rfl, fun W' sp _ _ => ?_⟩
      simp [DataW.trod, hu, hw]
    · rename_i hu
      obtain ⟨b, rfl, rfl⟩ := DataW.trod_bool hu h
      refine ⟨[.bool b], CellsR.one rfl (.bool _), (of_decide_eq_true hg).symm, by unfold Lay; rw [hu]; exact ⟨b, rfl⟩, by simp [Rows.uptoBulk], rfl, fun W' sp _ _ => ?_⟩
      simp [DataW.trod, hu]
    · rename_i hu
      obtain ⟨s, rfl, rfl, hw⟩ := DataW.trod_string hu h
      refine ⟨[.str s.data.toList], CellsR.one rfl ?_, (of_decide_eq_true hg).symm, by unfold Lay; rw [hu]; exact ⟨_, rfl⟩, by simp [Rows.uptoBulk], rfl, fun W' sp _ _ => ?_⟩
      · have := Rep.str (C := C0 W) (μ := M0) s.data.toList
        simpa using this
      · simp [DataW.trod, hu, hw]
    · rename_i fs hu
      rw [Bool.and_eq_true, decide_eq_true_eq, List.all_eq_true] at hg
      have h' := h
      unfold DataW.trod at h'
      rw [hu] at h'
      simp only [] at h'
      split at h'
      · rename_i hl
        obtain ⟨xs, hx, rfl⟩ := Option.map_eq_some_iff.1 h'
        rw [← hl] at hg
        obtain ⟨cz, c, y, w, r, b⟩ := open_fields ih fs.toList 0 hg.1 (fun f hf => of_decide_eq_true (hg.2 f hf)) xs hx
        rw [List.drop_zero] at c
        refine ⟨cz, c, hl, ?_, ?_, r, fun W' sp hs hp => ?_⟩
        · unfold Lay
          rw [hu]
          refine ⟨by rw [c.1, hl], fun i f hf => ?_⟩
          have := y f (by rw [← Array.getElem?_toList] at hf; exact List.mem_of_getElem? hf)
          rw [Nat.sub_zero] at this
          exact this.2
        · simp only [Rows.uptoBulk]; omega
        · unfold DataW.trod
          rw [hu]
          simp only []
          rw [if_pos hl, b W' sp hs hp]; rfl
      · cases h'
    · rename_i e hu
      rw [Bool.and_eq_true, Bool.and_eq_true, decide_eq_true_eq, decide_eq_true_eq, decide_eq_true_eq] at hg
      obtain ⟨hc1, he, hpos⟩ := hg
      rcases DataW.trod_slice hu h with ⟨rfl, rfl⟩ | ⟨a, len, cap, elems, rest, n', e', rfl, rfl, hb, hlc, hmx, hel, hg, hsp, _⟩
      · refine ⟨[.sl []], CellsR.one rfl .slNil, hc1.symm, by unfold Lay; rw [hu]; exact ⟨[], rfl, fun r hr => by simp at hr⟩, by simp [Rows.uptoBulk], rfl, fun W' sp _ _ => ?_⟩
        simp [DataW.trod, hu]
      · obtain rfl : n' = n := by omega
        obtain ⟨hrl, hrg⟩ := hsp rfl
        have ihe := ih e he
        have tms : ∃ f : Nat → List AV, ∀ (i : Nat) y, elems[i]? = some y → ∃ cs', W.cells? 0 (a.add (i * P.cellsOf e)) (P.cellsOf e) = some cs' ∧ CellsR W cs' (f i) ∧ cs'.length = P.cellsOf e ∧ Lay P n' e (f i) ∧ wtL (f i) ≤ Rows.uptoBulk y.1 ∧ refsLtL 0 (f i) = true := by
          have : ∀ i : Nat, ∃ t : List AV, ∀ y, elems[i]? = some y → ∃ cs', W.cells? 0 (a.add (i * P.cellsOf e)) (P.cellsOf e) = some cs' ∧ CellsR W cs' t ∧ cs'.length = P.cellsOf e ∧ Lay P n' e t ∧ wtL t ≤ Rows.uptoBulk y.1 ∧ refsLtL 0 t = true := by
            intro i
            cases hy : elems[i]? with
            | none => exact ⟨default, fun y h => by cases h⟩
            | some y =>
              have hi : i < len := by rw [← hel]; exact (List.getElem?_eq_some_iff.1 hy).1
              obtain ⟨cs', h1, h2⟩ := Option.bind_eq_some_iff.1 ((hg i hi).trans hy)
              obtain ⟨t, h3, h4, h5, h6, h7, _⟩ := ihe _ _ h2
              exact ⟨t, fun y' hy' => by cases hy'; exact ⟨cs', h1, h3, h4, h5, h6, h7⟩⟩
          exact ⟨fun i => Classical.choose (this i), fun i => Classical.choose_spec (this i)⟩
        obtain ⟨f, hf⟩ := tms
        have hget : ∀ (i : Nat) (row : List AV), ((List.range len).map f)[i]? = some row → i < len ∧ row = f i := by
          intro i row hi
          have hil : i < len := by have := (List.getElem?_eq_some_iff.1 hi).1; simpa using this
          refine ⟨hil, ?_⟩
          rw [List.getElem?_map, List.getElem?_range hil] at hi
          simpa using hi.symm
        have hrow : ∀ (i : Nat) (row : List AV), ((List.range len).map f)[i]? = some row → row.length = P.cellsOf e ∧ Lay P n' e row ∧ refsLtL 0 row = true := by
          intro i row hi
          obtain ⟨hil, rfl⟩ := hget i row hi
          obtain ⟨cs', h1, h2, h3, h4, h5, h6⟩ := hf i _ (List.getElem?_eq_getElem (by omega))
          exact ⟨by rw [h2.1, h3], h4, h6⟩
        have hspot : ((List.range len).map f) ≠ [] → a.spot = none := by
          intro hne
          have hl0 : 0 < len := by
            rcases Nat.eq_zero_or_pos len with h0 | h0
            · subst h0; exact absurd (by simp) hne
            · exact h0
          obtain ⟨cs0, q1, _⟩ := hf 0 _ (List.getElem?_eq_getElem (by omega))
          have := (cells?_some q1 (by omega)).1
          simpa [Addr.add] using this
        have hcell : ∀ (i j : Nat) (row : List AV) x, ((List.range len).map f)[i]? = some row → row[j]? = some x → x.isCell = true ∧ ∃ v, W.cell? ⟨a.block, a.off + i * P.cellsOf e + j, none⟩ = some v ∧ Rep (C0 W) M0 x v := by
          intro i j row x hi hj
          have hs := hspot (by intro h0; rw [h0] at hi; simp at hi)
          obtain ⟨hil, rfl⟩ := hget i row hi
          obtain ⟨cs', h1, h2, h3, _⟩ := hf i _ (List.getElem?_eq_getElem (by omega))
          obtain ⟨s1, s2, s3⟩ := cells?_some h1 (by omega)
          have hjl : j < cs'.length := by
            rw [← h2.1]
            exact (List.getElem?_eq_some_iff.1 hj).1
          have h4 := h2.2 j x _ hj (List.getElem?_eq_getElem hjl)
          refine ⟨h4.1, _, ?_, h4.2⟩
          have := s3 j _ (List.getElem?_eq_getElem hjl)
          rw [addr_add' _ _ hs] at this
          exact this
        have hfree : refsLtR 0 ((List.range len).map f) = true := by
          have : ∀ l : List (List AV), (∀ r ∈ l, refsLtL 0 r = true) → refsLtR 0 l = true := by
            intro l
            induction l with
            | nil => intro _; rfl
            | cons r l ih => intro h; rw [refsLtR, h r (by simp), ih fun q hq => h q (by simp [hq])]; rfl
          refine this _ fun r hr => ?_
          obtain ⟨i, hi⟩ := List.getElem?_of_mem hr
          exact (hrow i r hi).2.2
        refine ⟨[.sl ((List.range len).map f)], CellsR.one rfl ?_, hc1.symm, ?_, ?_, rfl, fun W' sp hs hp => ?_⟩
        · have := Rep.sl (C := C0 W) (μ := M0) ((List.range len).map f) a cap (P.cellsOf e) (fun i j => (W.cell? ⟨a.block, a.off + i * P.cellsOf e + j, none⟩).getD undef) hspot (fun i row hi => (hrow i row hi).1) (fun i j row x hi hj => ?_) (fun i j row x hi hj => ?_) (fun i j row x hi hj => ?_) (by simpa using hlc) hfree
          · simpa using this
          · obtain ⟨_, v, h1, _⟩ := hcell i j row x hi hj
            show W.cell? _ = _
            rw [h1]; rfl
          · obtain ⟨_, v, h1, h2⟩ := hcell i j row x hi hj
            rw [h1]; exact h2
          · exact (hcell i j row x hi hj).1
        · unfold Lay
          rw [hu]
          refine ⟨_, rfl, fun row hr => ?_⟩
          obtain ⟨i, hi⟩ := List.getElem?_of_mem hr
          exact ⟨(hrow i row hi).1, (hrow i row hi).2.1⟩
        · simp only [Rows.uptoBulk, wtL_cons, wtL_nil, wt_sl]
          have := bulk_rows (e := 0) ((List.range len).map f) (elems.map (·.1)) (by simp [hel]) (fun i t d ht hd => by
            rw [List.getElem?_map] at ht hd
            obtain ⟨j, hj, rfl⟩ := Option.map_eq_some_iff.1 ht
            obtain ⟨y, hy, rfl⟩ := Option.map_eq_some_iff.1 hd
            have hil : i < len := by have := (List.getElem?_eq_some_iff.1 hj).1; simpa using this
            rw [List.getElem?_range hil] at hj
            cases hj
            obtain ⟨_, _, _, _, _, h5, _⟩ := hf i y hy
            exact h5)
          omega
        · have hrow' : 0 < (elems.length + rest.length) → sp a.block = true := fun hps => hp (.cell a.block (a.off + 0)) (by
            rw [List.mem_append]
            exact .inl (MemPlace.mem_row.2 ⟨0, Nat.mul_pos hps hpos, rfl⟩))
          unfold DataW.trod at h ⊢
          rw [hu] at h ⊢
          simp only [if_true] at h ⊢
          rw [if_pos ⟨hb, hlc, hmx⟩] at h ⊢
          simp only [Option.map_eq_some_iff, Option.bind_eq_some_iff] at h ⊢
          obtain ⟨elems', he, rest', hr, hx⟩ := h
          have hlen : elems'.length = len := by simpa using mapM_some_length he
          have hrl' : rest'.length = cap - len := by simpa using mapM_some_length hr
          simp only [Prod.mk.injEq, DataW.slice.injEq] at hx
          have one' : ∀ (i : Nat) (y : DataW H × List MemPlace), i < elems'.length + rest'.length → y ∈ elems' ++ rest' →
              (W.cells? 0 (a.add (i * P.cellsOf e)) (P.cellsOf e)).bind (DataW.trod enc P W 0 (fun _ => true) true n' e) = some y → (W'.cells? 0 (a.add (i * P.cellsOf e)) (P.cellsOf e)).bind (DataW.trod enc P W' 0 sp true n' e) = some y := by
            intro i y hi hy hv
            simp only [Option.bind_eq_some_iff] at hv ⊢
            obtain ⟨cs', hc', hy'⟩ := hv
            obtain ⟨_, _, _, _, _, _, hbk⟩ := ihe _ _ hy'
            refine ⟨cs', World.cells?_carry hc' (fun p hpp => hs p ?_), hbk W' sp (fun p hpp => hs p ?_) (fun p hpp => hp p ?_)⟩
            · rw [← hx.2]
              obtain ⟨j, hj, rfl⟩ := MemPlace.mem_row.1 hpp
              simp only [List.mem_append]
              left
              refine MemPlace.mem_row.2 ⟨i * P.cellsOf e + j, ?_, ?_⟩
              · calc i * P.cellsOf e + j < i * P.cellsOf e + P.cellsOf e := by omega
                  _ = (i + 1) * P.cellsOf e := by rw [Nat.add_mul, Nat.one_mul]
                  _ ≤ (elems'.length + rest'.length) * P.cellsOf e := Nat.mul_le_mul_right _ hi
              · unfold Addr.add
                split
                · rename_i h0
                  simp [h0]
                · simp [Nat.add_assoc]
            · rw [← hx.2]
              simp only [List.mem_append, List.mem_flatMap]
              right
              exact ⟨y, by simpa using hy, hpp⟩
            · rw [← hx.2]
              simp only [List.mem_append, List.mem_flatMap]
              right
              exact ⟨y, by simpa using hy, hpp⟩
          refine ⟨elems', mapM_carry he (fun i y hi hy => one' i y (by have : i < len := (by simpa using hi); omega) (by simp [hy])), rest', ?_, by simp only [Prod.mk.injEq, DataW.slice.injEq]; exact hx⟩
          by_cases h0 : 0 < elems.length + rest.length
          · rw [if_pos (hrow' h0)]
            exact mapM_carry hr (fun j y hj hy => one' (len + j) y (by have : j < cap - len := (by simpa using hj); omega) (by simp [hy]))
          · have hc0 : cap - len = 0 := by omega
            rw [hc0] at hr ⊢
            simp at hr
            subst hr
            split <;> rfl
    · cases hg
theorem open_struct {ts : List TypeId} (hts : ∀ t ∈ ts, goodTy P ts t = true) {t : TypeId} (ht : t ∈ ts) {fs : Array Field} (hu : P.underlying t = some (.struct fs)) {r : Reach} {b0 : Nat} {v : Value} {d : DataW H} {ps : List MemPlace}
    (hval : Value.okWide P W r b0 t v) (hd : DataW.Trod enc P W 0 (fun _ => true) true t v d ps) :
    ∃ (cz : List AV) (n : Nat), Opened enc P W t v d ps (.agg cz) ∧ Lay P n t cz ∧ wtL cz ≤ Rows.uptoBulk d := by
  obtain ⟨cs, rfl, hsz⟩ := okWide_struct hu hval
  obtain ⟨n, hn⟩ := hd
  obtain ⟨cz, h1, h2, h3, h4, h5, h6⟩ := open_gen hts n t ht _ _ hn
  refine ⟨cz, n, ⟨?_, fun W' sp hs hp => ⟨n, h6 W' sp hs hp⟩⟩, h3, h4⟩
  have := Rep.agg (C := C0 W) (μ := M0) cz cs.toList (by
    have := h1.1
    simpa [Value.cells] using this) (fun i a v ha hv => (h1.2 i a v ha (by simpa [Value.cells] using hv)).2)
  simpa using this
end
theorem lay_terms {P : Program} {tT tL tI tS : TypeId} (T : TermTys P tT tL tI tS) : ∀ (n : Nat),
    (∀ cz, Lay P n tT cz → ∃ t : Tm, cz = t.cells ∧ t.w < wtL cz) ∧ (∀ cz, Lay P n tL cz → ∃ l : List Tm, cz = [.sl (rowsT l)] ∧ wL l < wtL cz) := by
  intro n
  induction n with
  | zero => exact ⟨fun cz h => absurd h (by unfold Lay; exact id), fun cz h => absurd h (by unfold Lay; exact id)⟩
  | succ n ih =>
    refine ⟨fun cz h => ?_, fun cz h => ?_⟩
    · obtain ⟨f0, f1, f2, f3, hu, t0, o0, t1, o1, t2, o2, t3, o3⟩ := T.uT
      unfold Lay at h
      rw [hu] at h
      obtain ⟨hl, hf⟩ := h
      rw [T.cT] at hl
      obtain ⟨c0, c1, c2, c3, rfl⟩ : ∃ c0 c1 c2 c3, cz = [c0, c1, c2, c3] := by
        match cz, hl with
        | [a, b, c, d], _ => exact ⟨a, b, c, d, rfl⟩
      have h0 := hf 0 f0 rfl
      have h1 := hf 1 f1 rfl
      have h2 := hf 2 f2 rfl
      have h3 := hf 3 f3 rfl
      rw [t0, o0, T.cI] at h0
      rw [t1, o1, T.cI] at h1
      rw [t2, o2, T.cS] at h2
      rw [t3, o3, T.cL] at h3
      simp at h0 h1 h2 h3
      cases n with
      | zero => exact absurd h0 (by unfold Lay; exact id)
      | succ n =>
        obtain ⟨l, e3, w3⟩ := ih.2 _ h3
        unfold Lay at h0 h1 h2
        rw [T.uI] at h0 h1
        rw [T.uS] at h2
        obtain ⟨k, e0, _⟩ := h0
        obtain ⟨m, e1, _⟩ := h1
        obtain ⟨s, e2⟩ := h2
        simp at e0 e1 e2 e3
        subst e0 e1 e2 e3
        refine ⟨.mk k m s l, by rw [Tm.cells_mk], ?_⟩
        rw [Tm.w_mk]
        simp only [wtL_cons, wtL_nil, wt_int, wt_str, wt_sl] at w3 ⊢
        omega
    · unfold Lay at h
      rw [T.uL] at h
      obtain ⟨rows, rfl, hr⟩ := h
      have : ∀ rows : List (List AV), (∀ row ∈ rows, row.length = P.cellsOf tT ∧ Lay P n tT row) → ∃ l : List Tm, rows = rowsT l ∧ wL l ≤ wtR rows := by
        intro rows
        induction rows with
        | nil => intro _; exact ⟨[], by rw [rowsT_nil], by simp⟩
        | cons r rows ihr =>
          intro h
          obtain ⟨t, e1, w1⟩ := ih.1 r (h r (by simp)).2
          obtain ⟨l, e2, w2⟩ := ihr fun q hq => h q (by simp [hq])
          refine ⟨t :: l, by rw [rowsT_cons, ← e1, ← e2], ?_⟩
          simp; omega
      obtain ⟨l, rfl, w⟩ := this rows hr
      exact ⟨l, rfl, by simp; omega⟩
theorem lay_rows {α : Type} {P : Program} {n : Nat} {e : TypeId} {f : α → List AV} {w : α → Nat} (h : ∀ cz, Lay P n e cz → ∃ x : α, cz = f x ∧ w x < wtL cz) : ∀ rows : List (List AV), (∀ row ∈ rows, row.length = P.cellsOf e ∧ Lay P n e row) →
    ∃ l : List α, rows = l.map f ∧ (∀ x ∈ l, w x < wtR rows) ∧ l.length ≤ wtR rows := by
  intro rows
  induction rows with
  | nil => intro _; exact ⟨[], rfl, fun x hx => by simp at hx, by simp⟩
  | cons r rows ih =>
    intro hr
    obtain ⟨x, e1, w1⟩ := h r (hr r (by simp)).2
    obtain ⟨l, e2, w2, w3⟩ := ih fun q hq => hr q (by simp [hq])
    refine ⟨x :: l, by rw [List.map_cons, ← e1, ← e2], fun y hy => ?_, by simp; omega⟩
    rcases List.mem_cons.1 hy with rfl | hy
    · simp; omega
    · have := w2 y hy; simp; omega
end Go.Proofs.YtogebohommickaaGreat
end

section
namespace Go.Proofs.YtogebohommickaaGreat
open Go.Av
set_option maxRecDepth 100000
def envTys : List TypeId := [27, 24, 22, 25, 45, 3, 9]
theorem envTys_good : ∀ t ∈ envTys, goodTy Tryz.prog envTys t = true := by
  have : envTys.all (goodTy Tryz.prog envTys) = true := by kernel_rfl
  exact List.all_eq_true.1 this
theorem lay_int {n : Nat} {cz : List AV} (h : Lay Tryz.prog n 3 cz) : ∃ m, cz = [.int .i64 m] := by
  cases n with
  | zero => exact absurd h (by unfold Lay; exact id)
  | succ n =>
    unfold Lay at h
    rw [Tryz.underlying3] at h
    obtain ⟨m, h, _⟩ := h
    exact ⟨m, h⟩
theorem lay_term {n : Nat} {cz : List AV} (h : Lay Tryz.prog n 24 cz) : ∃ t : Tm, cz = t.cells ∧ t.w < wtL cz := (lay_terms term_tys n).1 cz h
theorem lay_bind {n : Nat} {cz : List AV} (h : Lay Tryz.prog n 45 cz) : ∃ p : Int × Tm, cz = .int .i64 p.1 :: p.2.cells ∧ p.2.w < wtL cz := by
  cases n with
  | zero => exact absurd h (by unfold Lay; exact id)
  | succ n =>
    unfold Lay at h
    rw [Tryz.underlying45] at h
    obtain ⟨hl, hf⟩ := h
    have hl : cz.length = 5 := by rw [hl]; kernel_rfl
    match cz, hl with
    | [a, b, c, d, e], _ =>
      have h0 : Lay Tryz.prog n 3 ((([a, b, c, d, e] : List AV).drop 0).take (Tryz.prog.cellsOf 3)) := hf 0 _ rfl
      have h1 : Lay Tryz.prog n 24 ((([a, b, c, d, e] : List AV).drop 1).take (Tryz.prog.cellsOf 24)) := hf 1 _ rfl
      rw [show Tryz.prog.cellsOf 3 = 1 by kernel_rfl] at h0
      rw [show Tryz.prog.cellsOf 24 = 4 by kernel_rfl] at h1
      obtain ⟨m, e0⟩ := lay_int h0
      obtain ⟨t, e1, w1⟩ := lay_term h1
      simp at e0 e1 w1
      subst e0
      refine ⟨(m, t), by rw [← e1], ?_⟩
      simp
      omega
theorem lay_binds {n : Nat} {cz : List AV} (h : Lay Tryz.prog n 25 cz) : ∃ L : List (Int × Tm), cz = [.sl (bindsR L)] ∧ (∀ p ∈ L, p.2.w < wtL cz) ∧ L.length < wtL cz := by
  cases n with
  | zero => exact absurd h (by unfold Lay; exact id)
  | succ n =>
    unfold Lay at h
    rw [Tryz.underlying25] at h
    obtain ⟨rows, rfl, hr⟩ := h
    obtain ⟨L, rfl, w1, w2⟩ := lay_rows (w := fun p : Int × Tm => p.2.w) (fun cz h => lay_bind h) rows hr
    refine ⟨L, rfl, fun p hp => ?_, ?_⟩
    · have := w1 p hp; simp; omega
    · simp; omega
theorem lay_env {n : Nat} {cz : List AV} (h : Lay Tryz.prog n 27 cz) : ∃ e : Env, .agg cz = envR e.obj e.binds e.self ∧ e.obj.w < wtL cz ∧ (∀ p ∈ e.binds, p.2.w < wtL cz) ∧ e.binds.length < wtL cz := by
  cases n with
  | zero => exact absurd h (by unfold Lay; exact id)
  | succ n =>
    unfold Lay at h
    rw [Tryz.underlying27] at h
    obtain ⟨hl, hf⟩ := h
    have hl : cz.length = 6 := by rw [hl]; kernel_rfl
    match cz, hl with
    | [a, b, c, d, e, f], _ =>
      have h0 : Lay Tryz.prog n 24 ((([a, b, c, d, e, f] : List AV).drop 0).take (Tryz.prog.cellsOf 24)) := hf 0 _ rfl
      have h1 : Lay Tryz.prog n 25 ((([a, b, c, d, e, f] : List AV).drop 4).take (Tryz.prog.cellsOf 25)) := hf 1 _ rfl
      have h2 : Lay Tryz.prog n 3 ((([a, b, c, d, e, f] : List AV).drop 5).take (Tryz.prog.cellsOf 3)) := hf 2 _ rfl
      rw [show Tryz.prog.cellsOf 24 = 4 by kernel_rfl] at h0
      rw [show Tryz.prog.cellsOf 25 = 1 by kernel_rfl] at h1
      rw [show Tryz.prog.cellsOf 3 = 1 by kernel_rfl] at h2
      obtain ⟨t, e0, w0⟩ := lay_term h0
      obtain ⟨L, e1, w1, w2⟩ := lay_binds h1
      obtain ⟨m, e2⟩ := lay_int h2
      simp at e0 e1 e2 w0
      subst e1 e2
      simp at w1 w2
      obtain ⟨k, q, s, l⟩ := t
      rw [Tm.cells_mk] at e0
      cases e0
      refine ⟨⟨.mk k q s l, L, m⟩, rfl, ?_, fun p hp => ?_, ?_⟩
      · simp at w0 ⊢; omega
      · have := w1 p.1 p.2 hp; simp; omega
      · simp; omega
theorem open_env {H : Type} {enc : TypeId × Value → H} {W : World} {r : Reach} {b0 : Nat} {v : Value} {d : DataW H} {ps : List MemPlace} (hval : Value.okWide Tryz.prog W r b0 27 v) (hd : DataW.Trod enc Tryz.prog W 0 (fun _ => true) true 27 v d ps) :
    ∃ e : Env, Opened enc Tryz.prog W 27 v d ps (envR e.obj e.binds e.self) ∧ (Rows.uptoBulk d < 1099511627776 → EnvW e) := by
  obtain ⟨cz, n, h1, h2, h3⟩ := open_struct envTys_good (by simp [envTys]) Tryz.underlying27 hval hd
  obtain ⟨e, he, w0, w1, w2⟩ := lay_env h2
  rw [he] at h1
  exact ⟨e, h1, fun hb => ⟨by omega, by omega, fun p hp => by have := w1 p hp; omega⟩⟩
end Go.Proofs.YtogebohommickaaGreat
end
