/-
  Parts of the proof of SpecRunsUptoSaid, put together: the abstract evaluation and its contracts. Own work.
  What is proved: each lemma as it stands; no condition.
-/
import Derived.Test.YtkgkjngbfdnoiaaGreatZSpecRunsM4
open List renaming get?Internal → qyG, length → qyH, getElem?_eq_getElem → qyI, getElem?_eq_some_iff → qyL, take → qyM, take_of_length_le → qyP, mem_of_getElem? → qyR, drop_eq_getElem_cons → qyS, getElem?_append_left → qyU, drop_eq_nil_of_le → qyV, getElem?_set → qyX, getElem?_append_right → qyZ, append → qy4, length_append → qy6, getElem?_cons_zero → qy8, length_take → qzb, length_cons → qzc, length_map → qzd, replicate → qzf, mem_append → qzi, drop → qzj, drop_zero → qzk, mem_cons → qzm, range → qzn
open Option renaming bind_eq_some_iff → qyJ, map_eq_some_iff → qyO, bind_some → qy0, map_some → qy7, isSome_some → qzl
open Bool renaming and_eq_true → qyK, and_self → qy2, false_eq_true → qza, true_and → qzg, not_true → qzh
open Nat renaming le_refl → qyN, ble → qyQ, eq_of_beq_eq_true → qyT, beq → qyW, beq_refl → qy1, mul_le_mul_right → qy5, ble_eq → qy9
open Int renaming toNat → qyY, toNat_natCast → qy3
open Array renaming toList → qze
set_option maxRecDepth 1000000
set_option maxHeartbeats 0
section
namespace Go.Av
theorem qh9 (e : Env) : ∀ l : List Tm, zD (valG e) l = seqO (vg e l)
 | [] => rfl
 | t :: l => by rw [zD, vg, seqO, qh9 e l]
theorem qgL (l : List Tm) : qiz l (.mk 8 0 [] []) = qO l := rfl
theorem yV (e : Env) (b : Bool) : qyG (mR e b) 0 = some [.int .i64 e.obj.kind, .int .i64 e.obj.num, .str e.obj.str, .sl (qb e.obj.subs), .sl (qo e.binds), .int .i64 e.self, .bool b] := rfl
theorem yW (e : Env) (b : Bool) : qyG [AV.int .i64 e.obj.kind, .int .i64 e.obj.num, .str e.obj.str, .sl (qb e.obj.subs), .sl (qo e.binds), .int .i64 e.self, .bool b] 6 = some (.bool b) := rfl
theorem qdj {l : List Tm} (h : ∀ x ∈ l, x.chk = 0) : wL l ≤ l.length * 4259840 := by
 induction l with
 | nil => simp
 | cons x l ih =>
  have h1 := vj (h x (by simp))
  have h2 := ih fun y hy => h y (by simp [hy])
  rw [qV, qzc]; omega
theorem qjM : ∀ l : List Tm, (qO l).w ≤ 1 + l.length + wL l
 | [] => by simp [qO, Tm.w_mk]
 | x :: l => by
  have h := qjM l
  have : qO (x :: l) = .mk 9 0 [] [x, qO l] := rfl
  rw [this, Tm.w_mk, qV, qV, qV, vQ, qzc]
  simp only [List.length_nil]
  omega
theorem qmq (op : List UInt8) {n : Nat} (h : (n : Int) ∈ opsG op) : n ≤ 2 := by
 have : ∀ (l : List (List UInt8 × List Int)), (∀ p ∈ l, ∀ x ∈ p.2, x ≤ 2) → ∀ x ∈ xO op [] l, x ≤ 2 := by
  intro l
  induction l with
  | nil => intro _ x hx; simp [xO] at hx
  | cons p l ih =>
   intro h x hx
   rw [xO] at hx
   cases hp : op == p.1
   ·rw [hp] at hx; exact ih (fun q hq => h q (by simp [hq])) x hx
   ·rw [hp] at hx; exact h p (by simp) x hx
 have := this qbJ (by decide) _ h
 omega
theorem qkG {α : Type} (c : Bool) (x : α) : (bif c then x else x) = x := by cases c <;> rfl
theorem quN {c : Prop} [Decidable c] {x y : Option Tm} {P : Tm → Prop} (h1 : ∀ t, x = some t → P t) (h2 : ∀ t, y = some t → P t) : ∀ t, (if c then x else y) = some t → P t := by
 intro t h
 by_cases hc : c
 ·rw [if_pos hc] at h; exact h1 t h
 ·rw [if_neg hc] at h; exact h2 t h
theorem qdi (b : Bool) : (vh b).w < 1099511627776 := by have := vj (qpJ b); omega
theorem qkb {n : Int} {v : Tm} (h : qK n = some v) : v.w < 1099511627776 := by have := vj (qnv h); omega
theorem qwn {op : List UInt8} {t : Tm} (hc : t.chk = 0) : ∀ v, oneG op t = some v → v.w < 1099511627776 := by
 have tr : ∀ b : Bool, ∀ v, some (vh b) = some v → v.w < 1099511627776 := fun b v h => by cases h; exact qdi _
 have sub : ∀ i : Nat, ∀ v, t.subs[i]? = some v → v.w < 1099511627776 := fun i v h => by have := vj (qZ hc (qyR h)); omega
 have wi : ∀ n : Int, ∀ v, qK n = some v → v.w < 1099511627776 := fun n v h => qkb h
 have no : ∀ v, (none : Option Tm) = some v → v.w < 1099511627776 := fun v h => by cases h
 have bo : ∀ v, ((vu t).map fun b => vh (!b)) = some v → v.w < 1099511627776 := fun v h => by obtain ⟨_, _, rfl⟩ := qyO.1 h; exact qdi _
 have ln : ∀ v, ((lenG t).bind fun n => qK n) = some v → v.w < 1099511627776 := fun v h => by obtain ⟨_, _, h⟩ := qyJ.1 h; exact qkb h
 unfold oneG
 repeat' first
  | exact tr _
  | exact wi _
  | exact no
  | exact sub _
  | exact bo
  | exact ln
  | refine quN ?_ ?_
theorem qqo {op : List UInt8} {a b : Int} {v : Tm} (h : xF op a b = some v) : v.w < 1099511627776 := by
 obtain ⟨_, n, rfl⟩ := qok h
 rw [numT, Tm.w_mk]; simp
theorem qwe {op : List UInt8} {a b : Tm} (hb : b.chk = 0) : ∀ v, twoG op a b = some v → v.w < 1099511627776 := by
 have tr : ∀ c : Bool, ∀ v, some (vh c) = some v → v.w < 1099511627776 := fun b v h => by cases h; exact qdi _
 have bo : ∀ f : Bool → Bool → Bool, ∀ v, ((vu a).bind fun x => (vu b).map fun y => vh (f x y)) = some v → v.w < 1099511627776 := by
  intro f v h
  obtain ⟨_, _, h⟩ := qyJ.1 h
  obtain ⟨_, _, rfl⟩ := qyO.1 h
  exact qdi _
 have no : ∀ v, (none : Option Tm) = some v → v.w < 1099511627776 := fun v h => by cases h
 have sub : ∀ i : Nat, ∀ v, b.subs[i]? = some v → v.w < 1099511627776 := fun i v h => by have := vj (qZ hb (qyR h)); omega
 have nu : ∀ v, xF op a.num b.num = some v → v.w < 1099511627776 := fun v h => qqo h
 unfold twoG
 repeat' first
  | exact tr _
  | exact bo (fun x y => x && y)
  | exact bo (fun x y => x || y)
  | exact bo (fun x y => x != y)
  | exact no
  | exact sub _
  | exact nu
  | refine quN ?_ ?_
theorem qnd {op : List UInt8} {l : List Tm} {self : Int} {v : Tm} (hl : ∀ x ∈ l, x.chk = 0) (hlen : l.length ≤ 2) (h : qbS op l self = some v) : v.w < 1099511627776 := by
 match l, hl, hlen with
 | [], _, _ => cases h; rw [Tm.w_mk]; simp
 | [a], hl, _ => exact qwn (hl a (by simp)) _ h
 | [a, b], hl, _ => exact qwe (hl b (by simp)) _ h
 | _ :: _ :: _ :: _, _, h => simp at h
end Go.Av
namespace Go.Proofs.YtkgkjngbfdnoiaaGreat
open Go.Av
theorem qsY (t : Tm) : qhS false t = xh t := by unfold qhS xh; rfl
theorem qeQ {e : Env} {t : Tm} (h : t.w < 1099511627776) : Gets (kOpt (EVd (EV cfg) 155 [.ptr 0 0 0, t.av] 7 (mR e false)) fun q => kTmV q.1 fun (n n_1 : Int) (s : List UInt8) (rows : List (List AV)) => some (AV.agg [.int .i64 n, .int .i64 n_1, .str s, .sl rows], q.2)) (Res e (xh t)) := by
 have := qrZ e false h
 rw [qsY] at this
 exact Gets.bind this fun r h => yx h (zk h)
theorem qiB {e : Env} (t : Tm) : Gets (kOpt (EVd (EV cfg) 155 [.ptr 0 0 0, t.av] 7 (mR e true)) fun q => kTmV q.1 fun (n n_1 : Int) (s : List UInt8) (rows : List (List AV)) => some (AV.agg [.int .i64 n, .int .i64 n_1, .str s, .sl rows], q.2)) (Res e none) := by
 have hr := xK e true
 have h1 : EVd (EV cfg) 155 [.ptr 0 0 0, t.av] 7 (mR e true) = some (qX.av, mR e true) := by
  apply Gets.get
  rw [Tm.av, Tm.cells_eq]
  refine qiA _ _ _ _ _ _ _ _ _ _ _ ?_
  unfold zf0
  rw [cond_true, hr]
  simp only [qc, qE]
  rw [qj]; exact ⟨_, rfl, rfl⟩
 rw [h1]
 simp only [qc, qE, qj]
 exact vm
theorem qnf (k : Int) (ts : List Tm) : (AV.agg [.int .i64 k, .int .i64 0, .str [], .sl (qb ts)]) = (Tm.mk k 0 [] ts).av := by rw [Tm.av_mk]
theorem qhZ {e : Env} (he : EnvOk e) {l : List Tm} (k : Int) (hlen : l.length ≤ 64) (hl : ∀ x ∈ l, x.chk = 0 ∧ isG (xq e) x = true)
  (hv : Gets (EVd (EV cfg) 157 [.ptr 0 0 0, .sl (qb l)] 7 (mR e false)) (ResL e (seqO (vg e l)))) :
  Gets (kOpt (EVd (EV cfg) 157 [.ptr 0 0 0, .sl (qb l)] 7 (mR e false)) fun q => kSl q.1 fun (rows : List (List AV)) => kOpt (EVd (EV cfg) 155 [.ptr 0 0 0, .agg [.int .i64 k, .int .i64 0, .str [], .sl rows]] 7 q.2) fun q => kTmV q.1 fun (n n_1 : Int) (s : List UInt8) (rows : List (List AV)) => some (AV.agg [.int .i64 n, .int .i64 n_1, .str s, .sl rows], q.2)) (Res e ((seqO (vg e l)).bind fun ts => xh (.mk k 0 [] ts))) := by
 refine Gets.bind hv ?_
 intro r hr
 cases ho : seqO (vg e l) with
 | none =>
  rw [ho] at hr
  obtain ⟨h1, ts, h2⟩ := hr
  rw [h1, h2, vE, qnf]
  exact qiB _
 | some ts =>
  rw [ho] at hr
  obtain rfl : r = (.sl (qb ts), mR e false) := hr
  have h1 := qdj (qdo he hl ho)
  have h2 := qdn ho
  simp only [vE, qnf]
  rw [qy0]
  have h3 : ts.length * 4259840 ≤ 64 * 4259840 := qy5 _ (by omega)
  exact qeQ (by rw [Tm.w_mk]; simp only [List.length_nil]; omega)
theorem qmy {e : Env} {y : Tm} : Gets (kOpt (EVm (EV cfg) 158 [.ptr 0 0 0, y.av] 7 (mR e false)) fun (q : MV × List (List AV)) => xr q.1 fun (_ : Bool) => some (y.av, q.2)) (Res e ((vu y).map fun _ => y)) := by
 rw [yL]
 simp only [qc, vV]
 cases vu y with
 | none => exact vm
 | some b => exact qS
theorem qr0 {e : Env} (he : EnvOk e) (hp : xb) : ∀ (n : Nat) (t : Tm), t.w ≤ n → t.chk = 0 → isG (xq e) t = true →
  Gets (EVd (EV cfg) 70 [.ptr 0 0 0, t.av] 7 (mR e false)) (Res e (valG e t)) := by
 intro n
 induction n with
 | zero => intro t h; have := vH t; omega
 | succ n ih =>
  intro t hw hc hg
  have hwe := t.w_eq
  have hwc := vj hc
  have hvar := qeK (t := t) (by omega)
  have hbl := he.len
  have hbw : ∀ p ∈ e.binds, p.2.w < 1099511627776 := fun p hp => by have := vj (qap he.may p hp); omega
  have vals : ∀ l : List Tm, l.length ≤ 64 → (∀ x ∈ l, x.w ≤ n ∧ x.chk = 0 ∧ isG (xq e) x = true) → Gets (EVd (EV cfg) 157 [.ptr 0 0 0, .sl (qb l)] 7 (mR e false)) (ResL e (seqO (vg e l))) := by
   intro l hlen hl
   rw [← qh9]
   exact qqr (by omega) fun x hx => ih x (hl x hx).1 (hl x hx).2.1 (hl x hx).2.2
  rw [Tm.av, Tm.cells_eq] at hvar ⊢
  refine qqs _ _ _ _ _ _ _ _ _ _ _ ?_
  unfold zf0
  rw [hvar]
  simp only [beqI, beqS, qc]
  by_cases h2 : t.kind = 2
  ·rw [decide_eq_true h2, cond_true, qev h2]
   rw [qat h2] at hg
   simp only [varR, kTup, qa, qm, qk, kNil]
   cases hx : varT t with
   | some x =>
    rw [hx] at hg
    obtain ⟨y, hy⟩ := qbg (of_decide_eq_true hg)
    have hf := qqj (L := e.binds) (by omega) hbw x
    have hfr : qaF (qcb x e.binds) = .tup [y.av, .bool true] := by
     unfold qcb
     rw [if_pos he.may, hy]; rfl
    rw [hfr] at hf
    simp only [qzl, Option.getD_some, cond_true, hf, qc, hy]
    obtain ⟨ky, ny, sy, ly⟩ := y
    rw [Tm.av_mk]
    refine ⟨_, rfl, ?_⟩
    show _ = ((Tm.mk ky ny sy ly).av, mR e false)
    rw [Tm.av_mk]
   | none =>
    simp only [Option.isSome_none, cond_false]
    by_cases s1 : t.str = [36, 95]
    ·rw [if_pos s1, decide_eq_true s1, cond_true, qj]; exact qS
    rw [if_neg s1, decide_eq_false s1, cond_false]
    by_cases s2 : t.str = [36, 36]
    ·rw [if_pos s2, decide_eq_true s2, cond_true, qr2 (by omega)]
     simp only [qc, qE, qj]
     rw [qgL]
     refine qeQ ?_
     have h1 := qjM (e.binds.map (·.2))
     have h3 := qdj (l := e.binds.map (·.2)) (fun x hx => by
      obtain ⟨p, hp, rfl⟩ := List.mem_map.1 hx
      exact qap he.may p hp)
     rw [qzd] at h1 h3
     have h4 : e.binds.length * 4259840 ≤ 100 * 4259840 := qy5 _ hbl
     omega
    rw [if_neg s2, decide_eq_false s2, cond_false, qj]; exact qS
  rw [decide_eq_false h2, cond_false]
  have hsub : ∀ x ∈ t.subs, x.w ≤ n ∧ x.chk = 0 := fun x hx => by
   have := vY hx
   exact ⟨by omega, qZ hc hx⟩
  by_cases h9 : t.kind = 9
  ·rw [decide_eq_true h9, cond_true, qeu h9]
   rw [qdK h9] at hg
   have hall := zL hg
   exact qhZ he 9 (xE hc) (fun x hx => ⟨(hsub x hx).2, hall x hx⟩) (vals t.subs (xE hc) fun x hx => ⟨(hsub x hx).1, (hsub x hx).2, hall x hx⟩)
  rw [decide_eq_false h9, cond_false]
  by_cases h7 : t.kind = 7
  ·rw [decide_eq_true h7, cond_true]
   cases hl : t.subs with
   | nil => rw [qcW h7 hl] at hg; cases hg
   | cons f r =>
    have hf := hsub f (by rw [hl]; simp)
    have hr : ∀ x ∈ r, x.w ≤ n ∧ x.chk = 0 := fun x hx => hsub x (by rw [hl]; simp [hx])
    have hlen := xE hc
    rw [hl, qzc] at hlen
    rw [qg4 h7 hl]
    rw [qcV h7 hl] at hg
    have c2 : qh 1 ((qb (f :: r)).length : Int) = true := by rw [qd]; exact decide_eq_true (by simp; omega)
    have tk : qyM ((qb (f :: r)).length - 1) (qzj 1 (qb (f :: r))) = qb r := by
     rw [qy, List.drop_succ_cons, qzk, qzc, Nat.add_sub_cancel, List.take_length]
    rw [c2, tk]
    simp only [cond_true, lt0T, yP, qc, qi, qy1, vw, qp, qt, zc, beqI, beqS]
    by_cases f7 : f.kind = 7
    ·rw [if_pos f7] at hg ⊢
     rw [decide_eq_true f7, cond_true]
     rw [qyK] at hg
     have hall := zL hg.2
     have fs := xE hf.2
     have hfs : ∀ x ∈ f.subs, x.w ≤ n ∧ x.chk = 0 := fun x hx => by
      have h1 := vY hx
      have h2 := f.w_eq
      exact ⟨by have := hf.1; omega, qZ hf.2 hx⟩
     exact qhZ he 7 fs (fun x hx => ⟨(hfs x hx).2, hall x hx⟩) (vals f.subs fs fun x hx => ⟨(hfs x hx).1, (hfs x hx).2, hall x hx⟩)
    rw [if_neg f7] at hg ⊢
    rw [decide_eq_false f7, cond_false]
    by_cases f2 : f.kind = 2
    ·rw [if_pos f2] at hg
     by_cases hk : f.str = [99, 111, 110, 115, 116]
     ·rw [if_pos hk] at hg ⊢
      rw [decide_eq_true hk, cond_true]
      match r, of_decide_eq_true hg with
      | [a], _ =>
       simp only [lt1T, ys, cond_true, qc, qi, qy1, vw, qp, qt, qj]
       exact qS
     rw [if_neg hk] at hg ⊢
     rw [decide_eq_false hk, cond_false]
     rw [qyK] at hg
     have hrg := zL hg.2
     have hop := of_decide_eq_true hg.1
     by_cases ha : f.str = [97, 110, 100, 97, 108, 115, 111]
     ·rw [if_pos ha, decide_eq_true ha]
      have hl2 : r.length = 2 := by
       rw [ha] at hop
       have : opsG [97, 110, 100, 97, 108, 115, 111] = [2] := by decide
       rw [this] at hop
       simp at hop; omega
      match r, hr, hrg with
      | [], _, _ => simp at hl2
      | [a], _, _ => simp at hl2
      | a :: b :: q, hr, hrg =>
       have ra := hr a (by simp)
       have rb := hr b (by simp)
       have iha := ih a ra.1 ra.2 (hrg a (by simp))
       have ihb := ih b rb.1 rb.2 (hrg b (by simp))
       simp only [cond_true, cond_false, lt1T, lt2T, ys, quP, qc, qi, qy1, vw, qp, qt, qj, vg, z6]
       refine Gets.bind iha ?_
       intro x hx
       cases hva : valG e a with
       | none =>
        rw [hva] at hx
        obtain ⟨h1, y, h2⟩ := hx
        rw [h1, h2]
        simp only [qE, yV, yW, qc, qk, cond_true, qj]
        exact vm
       | some y =>
        rw [hva] at hx
        obtain rfl : x = (y.av, mR e false) := hx
        simp only [qE, yV, yW, qc, qk, cond_false, qj, yL, vV, qy0]
        cases hb : vu y with
        | none =>
         simp only [Option.isNone_none, Bool.or_true, cond_true, Option.bind_none]
         rw [qkG]; exact vm
        | some v =>
         rw [qai hb]
         simp only [Option.isNone_some, Bool.or_false, cond_false, qy0]
         cases v with
         | false =>
          rw [if_neg (by simp)]; exact qS
         | true =>
          rw [if_pos rfl]
          change Gets (kOpt (EVd (EV cfg) _ _ 7 (mR e false)) _) _
          refine Gets.bind ihb ?_
          intro x hx
          cases hvb : valG e b with
          | none =>
           rw [hvb] at hx
           obtain ⟨h1, z, h2⟩ := hx
           rw [h1, h2]
           simp only [qE, yV, yW, qc, qk, qzh, cond_false, qj]
           exact vm
          | some z =>
           rw [hvb] at hx
           obtain rfl : x = (z.av, mR e false) := hx
           simp only [qE, yV, yW, qc, qk, Bool.not_false, cond_true, qj, qy0]
           exact qmy
     rw [if_neg ha, decide_eq_false ha]
     by_cases hb : f.str = [111, 114, 101, 108, 115, 101]
     ·rw [if_pos hb, decide_eq_true hb]
      have hl2 : r.length = 2 := by
       rw [hb] at hop
       have : opsG [111, 114, 101, 108, 115, 101] = [2] := by decide
       rw [this] at hop
       simp at hop; omega
      simp only [cond_false]
      match r, hr, hrg with
      | [], _, _ => simp at hl2
      | [a], _, _ => simp at hl2
      | a :: b :: q, hr, hrg =>
       have ra := hr a (by simp)
       have rb := hr b (by simp)
       have iha := ih a ra.1 ra.2 (hrg a (by simp))
       have ihb := ih b rb.1 rb.2 (hrg b (by simp))
       simp only [cond_true, cond_false, lt1T, lt2T, ys, quP, qc, qi, qy1, vw, qp, qt, qj, vg, z6]
       refine Gets.bind iha ?_
       intro x hx
       cases hva : valG e a with
       | none =>
        rw [hva] at hx
        obtain ⟨h1, y, h2⟩ := hx
        rw [h1, h2]
        simp only [qE, yV, yW, qc, qk, cond_true, qj]
        exact vm
       | some y =>
        rw [hva] at hx
        obtain rfl : x = (y.av, mR e false) := hx
        simp only [qE, yV, yW, qc, qk, cond_false, qj, yL, vV, qy0]
        cases hb : vu y with
        | none =>
         simp only [Option.isNone_none, Bool.or_true, cond_true, Option.bind_none]
         rw [qkG]; exact vm
        | some v =>
         rw [qai hb]
         simp only [Option.isNone_some, Bool.or_false, cond_false, qy0]
         cases v with
         | true =>
          rw [if_neg (by simp)]; exact qS
         | false =>
          rw [if_pos rfl]
          change Gets (kOpt (EVd (EV cfg) _ _ 7 (mR e false)) _) _
          refine Gets.bind ihb ?_
          intro x hx
          cases hvb : valG e b with
          | none =>
           rw [hvb] at hx
           obtain ⟨h1, z, h2⟩ := hx
           rw [h1, h2]
           simp only [qE, yV, yW, qc, qk, qzh, cond_false, qj]
           exact vm
          | some z =>
           rw [hvb] at hx
           obtain rfl : x = (z.av, mR e false) := hx
           simp only [qE, yV, yW, qc, qk, Bool.not_false, cond_true, qj, qy0]
           exact qmy
     rw [if_neg hb, decide_eq_false hb]
     simp only [cond_false]
     have hv := vals r (by omega) fun x hx => ⟨(hr x hx).1, (hr x hx).2, hrg x hx⟩
     refine Gets.bind hv ?_
     intro q hq
     cases ho : seqO (vg e r) with
     | none =>
      rw [ho] at hq
      obtain ⟨h1, ts, h3⟩ := hq
      rw [h1, h3]
      simp only [vE, yV, yW, qc, qk, cond_true]
      exact ⟨_, rfl, rfl, qX, by rw [vq]⟩
     | some ts =>
      rw [ho] at hq
      obtain rfl : q = (.sl (qb ts), mR e false) := hq
      have hts := qdo he (fun x hx => ⟨(hr x hx).2, hrg x hx⟩) ho
      have hlt := qdn ho
      have h2 := qmq _ hop
      simp only [vE, yV, yW, qc, qk, cond_false, qy0]
      refine Gets.bind (qr4 e f.str hts (by omega) (fun _ => hp)) ?_
      intro q hq
      cases hap : qbS f.str ts e.self with
      | none =>
       rw [hap] at hq
       obtain ⟨h1, z, h3⟩ := hq
       rw [h1, h3]
       simp only [qE, qj]
       exact qiB z
      | some z =>
       rw [hap] at hq
       obtain rfl : q = (z.av, mR e false) := hq
       simp only [qE, qj, qy0]
       exact qeQ (qnd hts (by omega) hap)
    ·rw [if_neg f2] at hg; cases hg
  ·rw [decide_eq_false h7, qdk h2 h9 h7, cond_false, qj]; exact qS
end Go.Proofs.YtkgkjngbfdnoiaaGreat
end
section
namespace Go.Av
theorem qe3 {α : Type} (t : Tm) (K : Int → Int → List UInt8 → List (List AV) → Option α) : (qa t.cells fun (c : AV) (cs : List AV) => kInt .i64 c fun (n : Int) => qa cs fun (c : AV) (cs : List AV) => kInt .i64 c fun (n_1 : Int) => qa cs fun (c : AV) (cs : List AV) => kStr c fun (s : List UInt8) => qa cs fun (c : AV) (cs : List AV) => kSl c fun (rows : List (List AV)) => kNil cs (K n n_1 s rows)) = K t.kind t.num t.str (qb t.subs) := qt t K
end Go.Av
namespace Go.Proofs.YtkgkjngbfdnoiaaGreat
open Go.Av
theorem qp2 {l : List Tm} (hlen : l.length < 1099511627776) : EVf (EV cfg) 165 [.sl (qb l)] = some (qiz l (.mk 8 0 [] [])).av := by
 have loop : ∀ (j : Nat) (a : Tm), j ≤ l.length → Gets (qhw (qb l) ((j : Int) - 1) 0 0 [] [] a.kind a.num a.str (qb a.subs)) (· = ((l.take j).foldr qds a).av) := by
  intro j
  induction j with
  | zero =>
   intro a _
   refine qf1 _ _ _ _ _ _ _ _ _ _ ?_
   refine ⟨_, rfl, ?_⟩
   rw [qj]; rfl
  | succ j ih =>
   intro a hj
   refine qf1 _ _ _ _ _ _ _ _ _ _ ?_
   have hil : j < l.length := by omega
   have hx : l[j]? = some l[j] := qyI hil
   have h := ih (qds l[j] a) (by omega)
   have e1 : l.take (j + 1) = l.take j ++ [l[j]] := by rw [List.take_add_one, hx]; rfl
   have e2 : (((j + 1 : Nat) : Int) - 1) = (j : Int) := by omega
   have w1 : IntKind.wrap .i64 ((j : Int) - 1) = (j : Int) - 1 := qM (by omega) (by omega)
   rw [e2, w1, decide_eq_true (show (j : Int) ≥ 0 by omega), qd, qw, qD, decide_eq_true hil, q9 hx, e1, List.foldr_append]
   simp only [cond_true, qy2, qi, qy1, qp, qt, show qyQ 4 4 = true from rfl, qc]
   rw [← Tm.cells_eq, ← Tm.cells_eq]
   have e3 : qb (qds l[j] a).subs = [l[j].cells, a.cells] := by show qb [l[j], a] = _; rw [qy, qy, qI]
   rw [e3] at h
   exact h
 apply Gets.get
 refine qnW _ ?_
 rw [qd, qM (by omega) (by omega)]
 have h := loop l.length (.mk 8 0 [] []) (qyN _)
 rw [List.take_length, show qb (Tm.mk 8 0 [] []).subs = [] from qI] at h
 exact h
theorem qnS {t : Tm} {o : Option Tm} (h : ∀ x, o = some x → t = x) (hw : t.w < 1099511627776) : EVf (EV cfg) 164 [t.av, .bool o.isSome] = some (tbR (o.bind xh)) := by
 have hc := xf hw
 apply Gets.get
 rw [Tm.av, Tm.cells_eq] at hc ⊢
 refine ql5 _ _ _ _ _ ?_
 unfold ze51 ze0
 rw [hc, ← vq]
 simp only [qc, qm, qj]
 cases o with
 | none => exact ⟨_, rfl, rfl⟩
 | some x =>
  obtain rfl := h x rfl
  rw [qy0]
  unfold xh
  by_cases h0 : t.chk = 0
  ·have e0 : (t.chk != 0) = false := by rw [h0]; rfl
   rw [e0, if_pos h0]; exact ⟨_, rfl, rfl⟩
  ·have e0 : (t.chk != 0) = true := by simpa using h0
   rw [e0, if_neg h0]; exact ⟨_, rfl, rfl⟩
theorem qih (n : Int) : EVs (EV cfg) 94 [.int .i64 n] = some (.bool (y8 n)) := by
 apply Gets.get
 refine qnU _ ?_
 unfold y8
 by_cases h : 1 ≤ n
 ·rw [decide_eq_true (show n ≥ 1 from h)]; exact ⟨_, rfl, rfl⟩
 ·rw [decide_eq_false (show ¬ n ≥ 1 from h)]; exact ⟨_, rfl, rfl⟩
theorem qnV {L : List (Int × Tm)} (hlen : L.length < 1099511627776) : EVf (EV cfg) 74 [.sl (qo L)] = some (.sl (qx (L.map (·.1)))) := by
 have loop : ∀ (d i : Nat), i + d = L.length → Gets (qhy (qo L) i i (qx ((L.take i).map (·.1)))) (· = .sl (qx (L.map (·.1)))) := by
  intro d
  induction d with
  | zero =>
   intro i hi
   refine qf5 _ _ _ _ ?_
   obtain rfl : i = L.length := by omega
   have hb : qyQ (0 + L.length) (qx ((L.take L.length).map (·.1))).length = true := by rw [qy9, q4, qzd, qzb]; omega
   have ht : qyM L.length (qx ((L.take L.length).map (·.1))) = qx (L.map (·.1)) := by
    rw [qyP (by rw [q4, qzd, qzb]; omega), List.take_length]
   rw [qQ, decide_eq_false (by omega), hb, ht]
   exact ⟨_, rfl, rfl⟩
  | succ d ih =>
   intro i hi
   refine qf5 _ _ _ _ ?_
   have hil : i < L.length := by omega
   have hx : L[i]? = some L[i] := qyI hil
   have h := ih (i + 1) (by omega)
   have e1 : (L.take (i + 1)).map (·.1) = (L.take i).map (·.1) ++ [L[i].1] := by
    have ht : L.take (i + 1) = L.take i ++ [L[i]] := by rw [List.take_add_one, hx]; rfl
    rw [ht, List.map_append]; rfl
   have hl0 : (qx ((L.take i).map (·.1))).length = i := by rw [q4, qzd, qzb]; omega
   have e2 : qy4 (qyM i (qx ((L.take i).map (·.1)))) [[AV.int .i64 L[i].1]] = qx ((L.take (i + 1)).map (·.1)) := by
    rw [qyP (by omega), e1]; simp [qx]
   have e3 : qyQ (0 + i) (qx ((L.take i).map (·.1))).length = true := by rw [hl0, qy9]; omega
   rw [qQ, decide_eq_true (show (i : Int) < (L.length : Int) by omega), qw, qD, decide_eq_true hil, ql, qy3, xI, hx, qJ hil hlen]
   simp only [qy7, cond_true, qy2, qc, qzc, qi, show qyW (4 + 1) 5 = true from rfl, ql, qy8, qm, e2, e3, qdN (show i + 1 ≤ 1099511627776 by omega)]
   exact h
 apply Gets.get
 refine ql9 _ ?_
 exact loop L.length 0 (by omega)
theorem qba (t : Tm) : t.w < 1099511627776 → EVf (EV cfg) 76 [t.av] = some t.av := by
 induction t using Tm.ind with
 | _ k n s l ih =>
  intro hw
  rw [Tm.w_mk] at hw
  have hlen := xB l
  have ih' : ∀ x ∈ l, EVf (EV cfg) 76 [x.av] = some x.av := fun x hx => ih x hx (by have := vY hx; omega)
  have loop : ∀ d i : Nat, i + d = l.length → Gets (qhx i i k n s (qb l) 0 0 [] [] (qb (l.take i))) (· = (Tm.mk k n s l).av) := by
   intro d
   induction d with
   | zero =>
    intro i hi
    refine qf3 _ _ _ _ _ _ _ _ _ _ _ ?_
    obtain rfl : i = l.length := by omega
    have hb : qyQ (0 + l.length) (qb l).length = true := by rw [qy9, qd]; omega
    have ht : qyM l.length (qb l) = qb l := qyP (by rw [qd]; omega)
    rw [qd, decide_eq_false (by omega), List.take_length, hb, ht, Tm.av_mk]
    exact ⟨_, rfl, rfl⟩
   | succ d ihd =>
    intro i hi
    have hil : i < l.length := by omega
    refine qf3 _ _ _ _ _ _ _ _ _ _ _ ?_
    have hx : l[i]? = some l[i] := qyI hil
    have h1 := ih' l[i] (qyR hx)
    have h2 := ihd (i + 1) (by omega)
    have e1 : l.take (i + 1) = l.take i ++ [l[i]] := by rw [List.take_add_one, hx]; rfl
    have ht : (qb (l.take i)).length = i := by rw [qd, qzb]; omega
    have e2 : qy4 (qyM i (qb (l.take i))) [l[i].cells] = qb (l.take (i + 1)) := by
     rw [qyP (by omega), e1, q8, qy, qI]; rfl
    have e3 : qyQ (0 + i) (qb (l.take i)).length = true := by rw [ht, qy9]; omega
    rw [qd, decide_eq_true (show (i : Int) < (l.length : Int) by omega), qw, qD, decide_eq_true hil, q9 hx, qJ (n := l.length) hil (by omega), e3, yb (by omega)]
    simp only [cond_true, qy2, qi, qy1, qp, qt, show qyQ 4 4 = true from rfl, qj, h1, qc, qE]
    rw [← Tm.cells_eq, e2]
    exact h2
  apply Gets.get
  rw [Tm.av_mk]
  refine qoe _ _ _ _ ?_
  rw [← Tm.av_mk]
  exact (by simpa [qI] using loop l.length 0 (by omega))
theorem qik {L : List (Int × Tm)} (hlen : L.length < 1099511627776) (n : Int) : EVf (EV cfg) 236 [.sl (qo L), .int .i64 n] = some (tbR (qP n L)) := by
 have loop : ∀ (d i : Nat), i + d = L.length → Gets (qhu (qo L) n i 0 0 [] []) (· = tbR (qP n (L.drop i))) := by
  intro d
  induction d with
  | zero =>
   intro i hi
   refine qfZ _ _ _ _ _ _ _ ?_
   unfold ze51 ze0
   rw [qQ, decide_eq_false (by omega), qyV (by omega), ← vq]
   exact ⟨_, rfl, rfl⟩
  | succ d ih =>
   intro i hi
   refine qfZ _ _ _ _ _ _ _ ?_
   unfold ze51 ze0
   have hil : i < L.length := by omega
   have hx : L[i]? = some L[i] := qyI hil
   have h := ih (i + 1) (by omega)
   rw [qQ, decide_eq_true (show (i : Int) < (L.length : Int) by omega), qw, qD, decide_eq_true hil, ql, qy3, xI, hx, qJ hil hlen, qyS hil, qP]
   simp only [qy7, cond_true, qy2, qc, qzc, qi, show qyW (4 + 1) 5 = true from rfl, show qyQ 5 (4 + 1) = true from rfl, ql, qy8, qm, List.drop_succ_cons, qzk, qp, qe3, beqI, qj]
   by_cases he : L[i].1 = n
   ·rw [decide_eq_true he, if_pos he]; exact ⟨_, rfl, rfl⟩
   ·rw [decide_eq_false he, if_neg he]; exact h
 apply Gets.get
 refine qn3 _ _ ?_
 exact (by simpa using loop L.length 0 (by omega))
theorem qeH {L : List (Int × Tm)} (hlen : L.length < 1099511627776) (hw : ∀ p ∈ L, p.2.w < 1099511627776) : EVs (EV cfg) 160 [.sl (qo L)] = some (.bool (mayB (-1) L)) := by
 have loop : ∀ (d i : Nat) (last : Int), i + d = L.length → (i = 0 → last = -1) → (∀ j p, i = j + 1 → L[j]? = some p → last = p.1 ∧ 0 ≤ p.1) → Gets (qd7 (qo L) i) (· = .bool (mayB last (L.drop i))) := by
  intro d
  induction d with
  | zero =>
   intro i last hi _ _
   refine qf2 _ _ ?_
   unfold qlm qpD qpC qpB qpA qpz qpy qpx qpw qpv
   rw [qQ, decide_eq_false (by omega), qyV (by omega)]
   exact ⟨_, rfl, rfl⟩
  | succ d ih =>
   intro i last hi h0 hs
   refine qf2 _ _ ?_
   unfold qlm qpD qpC qpB qpA qpz qpy qpx qpw qpv
   have hil : i < L.length := by omega
   have hx : L[i]? = some L[i] := qyI hil
   have hck := xf (hw L[i] (qyR hx))
   have bne0 : ∀ z : Int, (z != 0) = !decide (z = 0) := fun z => by rw [bne, beqI]
   have h := ih (i + 1) L[i].1 (by omega) (fun e => by omega)
   have e0 : ∀ k : List AV → Option AV, kOpt (qo L)[qyY (i : Int)]? k = k (.int .i64 L[i].1 :: L[i].2.cells) := fun k => by
    rw [qy3, xI, hx]; rfl
   have fin : last < L[i].1 → 0 ≤ L[i].1 → L[i].1 ≤ 99 → Gets (kOpt (EVs (EV cfg) 95 [L[i].2.av]) fun (v : AV) => kInt .i64 v fun (n : Int) => bif n != 0 then some (.bool false) else qd7 (qo L) ((i + 1 : Nat) : Int)) (· = .bool (mayB last (L[i] :: L.drop (i + 1)))) := by
    intro g1 g2 g3
    have h := h (fun j p hj hp => by obtain rfl : i = j := (by omega); rw [hx] at hp; cases hp; exact ⟨rfl, g2⟩)
    rw [hck, mayB, decide_eq_true g1, decide_eq_true g3, qzg, qzg]
    simp only [qc, qm, bne0]
    by_cases hc : L[i].2.chk = 0
    ·rw [decide_eq_true hc]; exact h
    ·rw [decide_eq_false hc]; exact ⟨_, rfl, rfl⟩
   rw [qQ, decide_eq_true (show (i : Int) < (L.length : Int) by omega), qw, qD, decide_eq_true hil, qJ hil hlen, qyS hil]
   simp only [cond_true, qy2, e0, qzc, qi, show qyW (4 + 1) 5 = true from rfl, show qyQ 5 (4 + 1) = true from rfl, ql, qy8, qc, qm, List.drop_succ_cons, qzk, qp, qe3, qj]
   have last0 : -1 ≤ last := by
    rcases Nat.eq_zero_or_pos i with h | h
    ·rw [h0 h]; omega
    ·have hj : i - 1 < L.length := by omega
     have := hs (i - 1) _ (by omega) (qyI hj); omega
   by_cases g1 : L[i].1 < 0
   ·rw [decide_eq_true g1, mayB, decide_eq_false (show ¬ last < L[i].1 by omega)]; exact ⟨_, rfl, rfl⟩
   rw [decide_eq_false g1, cond_false]
   by_cases g2 : L[i].1 > 99
   ·rw [decide_eq_true g2, mayB, decide_eq_false (show ¬ L[i].1 ≤ 99 by omega)]
    refine ⟨_, rfl, ?_⟩
    cases decide (last < L[i].1) <;> rfl
   rw [decide_eq_false g2, cond_false]
   by_cases g3 : (i : Int) > 0
   ·have hj : i - 1 < L.length := by omega
    have hy : L[i - 1]? = some L[i - 1] := qyI hj
    obtain ⟨hl1, hl2⟩ := hs (i - 1) _ (by omega) hy
    have w1 : IntKind.wrap .i64 ((i : Int) - 1) = ((i - 1 : Nat) : Int) := by rw [qM (by omega) (by omega)]; omega
    have e1 : ∀ k : List AV → Option AV, kOpt (qo L)[qyY ((i - 1 : Nat) : Int)]? k = k (.int .i64 L[i - 1].1 :: L[i - 1].2.cells) := fun k => by
     rw [qy3, xI, hy]; rfl
    rw [decide_eq_true g3, cond_true, w1, qw, qD, decide_eq_true hj]
    simp only [cond_true, qy2, e1, qzc, qi, show qyW (4 + 1) 5 = true from rfl, ql, qy8, qc, qm]
    rw [← hl1]
    by_cases g4 : L[i].1 ≤ last
    ·rw [decide_eq_true g4, mayB, decide_eq_false (show ¬ last < L[i].1 by omega)]; exact ⟨_, rfl, rfl⟩
    ·rw [decide_eq_false g4, cond_false]
     exact fin (by omega) (by omega) (by omega)
   ·rw [decide_eq_false g3, cond_false]
    have := h0 (by omega)
    exact fin (by omega) (by omega) (by omega)
 apply Gets.get
 refine qqa _ ?_
 exact (by simpa using loop L.length 0 (-1) (by omega) (fun _ => rfl) (fun j p h => by omega))
theorem qqb {L : List (Int × Tm)} (hlen : L.length < 1099511627776) (hw : ∀ p ∈ L, p.2.w < 1099511627776) (hm : mayB (-1) L = true) (n : Int) : EVf (EV cfg) 163 [.sl (qo L), .int .i64 n] = some (tbR (qP n L)) := by
 apply Gets.get
 refine qn7 _ _ ?_
 unfold ze54 ze42 ze0
 rw [qeH hlen hw, hm, qik hlen, ← vq]
 simp only [qc, qk, qzh, cond_false, qbB, kTB, qj]
 cases hl : qP n L with
 | none => exact ⟨_, rfl, rfl⟩
 | some t =>
  have hc := qba t (hw _ (xy hl))
  simp only [Option.getD_some, hc, qc, qE, qj, qzl, qzh, cond_false]
  exact ⟨_, rfl, rfl⟩
end Go.Proofs.YtkgkjngbfdnoiaaGreat
end
section
namespace Go.Av
theorem qkP (t : Tm) : zm t.cells = true := by obtain ⟨k, n, s, l⟩ := t; rw [Tm.cells_mk]; rfl
end Go.Av
namespace Go.Proofs.YtkgkjngbfdnoiaaGreat.R
open Go.Av
theorem qte (k n : Int) (s : List UInt8) : EVz (EV cfg) 20 (.agg [.int .i64 k, .int .i64 n, .str s, .sl []]) = some () := by
 apply Gets.get
 refine qrS k n s ?_
 refine qkM _ _ _ _ _ ?_
 exact ⟨_, rfl, rfl⟩
theorem qtd (t : Tm) : t.Ok → EVz (EV cfg) 20 (avR 0 t) = some () := by
 induction t using Tm.ind with
 | _ k n s l ih =>
  intro hok
  have hlen := hok.len
  have loop : ∀ (d i : Nat), i + d = l.length → Gets (qfx (qb l) i k n s) (· = ()) := by
   intro d
   induction d with
   | zero =>
    intro i hi
    refine qej _ _ _ _ _ ?_
    rw [qd, decide_eq_false (by omega)]
    exact ⟨_, rfl, rfl⟩
   | succ d ihd =>
    intro i hi
    refine qej _ _ _ _ _ ?_
    have hil : i < l.length := by omega
    have hx : l[i]? = some l[i] := qyI hil
    have h1 := ih l[i] (qyR hx) (hok.sub (qyR hx))
    unfold avR at h1
    have h := ihd (i + 1) (by omega)
    rw [qd, decide_eq_true (show (i : Int) < (l.length : Int) by omega), qw, qD, decide_eq_true hil, q9 hx, qJ hil hlen]
    simp only [cond_true, qy2, qi, qy1, qe3, h1, qte, qc, q9 hx, qkP, Bool.and_true]
    exact h.mono fun _ _ => trivial
  apply Gets.get
  unfold avR
  exact qrR k n s (qb l) (loop l.length 0 (by omega))
end Go.Proofs.YtkgkjngbfdnoiaaGreat.R
end
section
namespace Go.Proofs.YtkgkjngbfdnoiaaGreat.R
open Go.Av Go.ChangeShapes Go.WideShapes Go.ChangeAt Go.RowKit
theorem qvu [Lent] {args : List AV} {H H' : AH} {r : AV} {C : qu} {μ : MMap} {w : World} {vs : Array Value} (hr : qc0 args H = some (r, H')) (ha : qF C μ args vs) (hw : Wld C μ H w) :
  vD Tryz.prog (callFunc 71 vs) w (xn C μ H w r H') := by
 unfold qc0 at hr
 split at hr
 case h_2 => cases hr
 rename_i a b c rows
 split at hr
 case isFalse => cases hr
 rename_i hx
 obtain ⟨t, hok, ht⟩ := hx
 cases hr
 have hμ : μ = fun _ => none := by
  funext id
  cases hm : μ id with
  | none => rfl
  | some m => have := hw.dom id m hm; simp at this
 subst hμ
 have e2 : avR 0 t = .agg [a, b, c, .rsl 0 rows] := by
  obtain ⟨k, n, s, l⟩ := t
  rw [Tm.av_mk] at ht
  simp only [AV.agg.injEq, List.cons.injEq, AV.sl.injEq, and_true] at ht
  obtain ⟨rfl, rfl, rfl, rfl⟩ := ht
  rfl
 have h := qtK hok hw (by rw [ht]; exact ha)
 rw [e2] at h
 exact h
theorem qc5 [Lent] : CfgOk cfg where
  ty := ⟨fun t ti h => BT.all_look qh0 h⟩
  mixed := qdv
  named := fun f fn _ h => qdu f fn h
  ext := fun f s h args H r H' hr C μ w vs ha hw => by
    have h : ext f = some s := h
    unfold ext at h
    split at h
    · rename_i s' hs
      cases h
      unfold xL at hs
      rw [xW] at hs
      split at hs
      · rename_i e
        have e := qyT e
        subst e
        cases hs
        exact qvu hr ha hw
      · first
          | (rw [xW] at hs; cases hs; done)
          | (have okK : CfgOk K.cfg := {
               ty := ⟨fun t ti h => BT.all_look (show K.qh1.All _ from qh0) h⟩
               mixed := qdv
               named := fun f fn _ h => qdu f fn h
               ext := fun f s h args H r H' hr C μ w vs ha hw => by
                 have h : K.x9 f K.qbP = some s := h
                 unfold K.qbP at h
                 rw [K.x9] at h
                 split at h
                 · rename_i e
                   have e := qyT e
                   subst e
                   cases h
                   exact qm7 hr ha hw
                 · rw [K.qdO, K.x9] at h
                   cases h }
             rw [xW] at hs
             split at hs
             · rename_i e
               have e := qyT e
               subst e
               cases hs
               exact (qbT okK).calls _ _ _ _ _ hr C μ w vs _ ha hw rfl
             · cases hs)
    · split at h
      · cases h
        exact (qbT Go.Proofs.YtkgkjngbfdnoiaaGreat.qc5).calls _ _ _ _ _ hr C μ w vs _ ha hw rfl
      · exact Go.Proofs.YtkgkjngbfdnoiaaGreat.qc5.ext f s h args H r H' hr C μ w vs ha hw
theorem qkk {f : FuncId} {args : List AV} {vs : Array Value} {W : World} (hx : cfg.ext f = none) (he : EVs (EV cfg) f args = some (.bool true)) (ha : qF (C0 W) M0 args vs) :
  Calls Tryz.prog f vs W fun e W' => e = .returned (.bool true) ∧ (∀ b, b < W.heap.size → W'.heap[b]? = W.heap[b]?) ∧ W.heap.size ≤ W'.heap.size ∧ W'.os = W.os ∧ W'.output = W.output := by
 unfold EVs at he
 obtain ⟨q, h1, h2⟩ := qyO.1 he
 have := qnn qc5 hx (r := q.1) (H' := q.2) h1 ha (wld0 W)
 refine this.mono fun e W' ⟨v, hv, C', μ', p1, p2, p3⟩ => ?_
 rw [h2] at p1
 cases p1
 refine ⟨hv, fun b hb => (p3.fr b hb vS).1, p3.size, p3.os, p3.output⟩
theorem qtL {t : Tm} (h : t.Ok) : EVg (EV cfg) 71 [t.av] = some t.av := by
 obtain ⟨k, n, s, l⟩ := t
 have e : EV cfg (.f 71) [(Tm.mk k n s l).av] [] = some (avR 0 (.mk k n s l), [.reg]) := by
  refine qlx ?_
  unfold xk
  have hx : cfg.ext 71 = some qc0 := rfl
  simp only [hx]
  rw [Tm.av_mk]
  show qc0 [.agg [.int .i64 k, .int .i64 n, .str s, .sl (qb l)]] [] = _
  exact if_pos ⟨_, h, Tm.av_mk k n s l⟩
 unfold EVg
 rw [e, Tm.av_mk]
 rfl
end Go.Proofs.YtkgkjngbfdnoiaaGreat.R
end
section
namespace Go.Proofs.YtkgkjngbfdnoiaaGreat
open Go.Av
theorem qrH (op : List UInt8) (n : Int) : EVs (EV cfg) 93 [.str op, .int .i64 n] = some (.bool (decide (n ∈ opsG op))) := by
 have hl := qmr op
 have loop : ∀ d i : Nat, i + d = (opsG op).length → Gets (qhA n (qx (opsG op)) i) (· = .bool (decide (n ∈ (opsG op).drop i))) := by
  generalize opsG op = l at hl
  intro d
  induction d with
  | zero =>
   intro i hi
   refine qf7 _ _ _ ?_
   rw [q4, decide_eq_false (by omega), qyV (by omega)]
   exact ⟨_, rfl, by simp⟩
  | succ d ih =>
   intro i hi
   have hil : i < l.length := by omega
   refine qf7 _ _ _ ?_
   have hx : l[i]? = some l[i] := qyI hil
   have hd : l.drop i = l[i] :: l.drop (i + 1) := qyS hil
   have h := ih (i + 1) (by omega)
   rw [q4, decide_eq_true (show (i : Int) < (l.length : Int) by omega), qw, qD, decide_eq_true hil, ql, qy3, qaT, hx, qJ hil hl, hd]
   by_cases he : l[i] = n
   ·refine ⟨.bool true, ?_, ?_⟩
    ·simp [he]
    ·rw [he]; simp
   ·have hne : (l[i] == n) = false := by rw [beqI]; exact decide_eq_false he
    have hm : decide (n ∈ l[i] :: l.drop (i + 1)) = decide (n ∈ l.drop (i + 1)) := decide_eq_decide.2 (by rw [qzm]; exact ⟨fun h => h.resolve_left (fun e => he e.symm), Or.inr⟩)
    rw [hm]
    simpa [hne] using h
 apply Gets.get
 refine qp1 _ _ ?_
 rw [qrF]
 exact (by simpa using loop (opsG op).length 0 (by omega))
theorem qg3 {k n : Int} {s : List UInt8} {l : List (List AV)} {b : UInt8} {v : Int} {i : Nat} {P : AV → Prop} (hv : 0 ≤ v ∧ v ≤ 9) (hl : s.length ≤ 3) (hb : s[i]? = some b)
  (h : Gets (match xD b with | none => some (AV.tup [.int .i64 0, .bool false]) | some x => qaK (v * 10 + x) ((i + 1 : Nat) : Int) k n s l) P) : Gets (qaK v i k n s l) P := by
 have hi : i < s.length := (qyL.1 hb).1
 refine qga _ _ _ _ _ _ ?_
 have hbl := b.toNat_lt
 rw [decide_eq_true (show (i : Int) < (s.length : Int) by omega), qw]
 simp only [cond_true, ql, qy3, hb, qc]
 unfold xD at h
 by_cases h1 : b.toNat < 48
 ·rw [if_pos h1] at h
  rw [decide_eq_true (show (b.toNat : Int) < 48 by omega)]; exact h
 ·rw [if_neg h1] at h
  rw [decide_eq_false (show ¬ (b.toNat : Int) < 48 by omega), cond_false]
  by_cases h2 : b.toNat > 57
  ·rw [if_pos h2] at h
   rw [decide_eq_true (show (b.toNat : Int) > 57 by omega)]; exact h
  ·rw [if_neg h2] at h
   rw [decide_eq_false (show ¬ (b.toNat : Int) > 57 by omega), cond_false]
   have w1 : IntKind.wrap .i64 (10 * v) = v * 10 := by rw [qM (by omega) (by omega)]; omega
   have w2 : IntKind.wrap .u8 ((b.toNat : Int) - 48) = (b.toNat : Int) - 48 := by
    simp [IntKind.wrap, IntKind.bits, IntKind.signed]; omega
   have w3 : IntKind.wrap .i64 ((b.toNat : Int) - 48) = (b.toNat : Int) - 48 := qM (by omega) (by omega)
   have w4 : IntKind.wrap .i64 (v * 10 + ((b.toNat : Int) - 48)) = v * 10 + ((b.toNat : Int) - 48) := qM (by omega) (by omega)
   have w5 : IntKind.wrap .i64 ((i : Int) + 1) = ((i + 1 : Nat) : Int) := qJ (n := 3) (by omega) (by omega)
   rw [w1, w2, w3, w4, w5]
   exact h
theorem qo2 {k n : Int} {s : List UInt8} {l : List (List AV)} {v : Int} {i : Nat} (hi : i = s.length) : Gets (qaK v i k n s l) (· = .tup [.int .i64 v, .bool true]) := by
 refine qga _ _ _ _ _ _ ?_
 rw [decide_eq_false (by omega)]
 exact ⟨_, rfl, rfl⟩
theorem qaP {t : Tm} (h : t.w < 1099511627776) : EVs (EV cfg) 162 [t.av] = some (varR (varT t)) := by
 have hc := xf h
 apply Gets.get
 rw [Tm.av, Tm.cells_eq] at hc ⊢
 refine qp9 _ _ _ _ ?_
 rw [hc]
 unfold varT
 simp only [qc, qm]
 by_cases h2 : t.chk = 0
 ·have e0 : (t.chk != 0) = false := by rw [h2]; rfl
  rw [e0, cond_false]
  by_cases h1 : t.kind = 2
  ·have e1 : (t.kind != 2) = false := by rw [h1]; rfl
   rw [e1, cond_false, if_pos ⟨h1, h2⟩]
   generalize t.str = s
   generalize t.kind = k
   generalize t.num = n
   generalize qb t.subs = l
   match s with
   | [] => exact ⟨_, rfl, rfl⟩
   | [a] => exact ⟨_, rfl, rfl⟩
   | a :: b :: c :: d :: l =>
    have h1 : ¬ ((a :: b :: c :: d :: l).length : Int) < 2 := by simp; omega
    have h2 : ((a :: b :: c :: d :: l).length : Int) > 3 := by simp; omega
    rw [decide_eq_false h1, decide_eq_true h2]
    exact ⟨_, rfl, rfl⟩
   | [a, b] =>
    by_cases h : a.toNat = 36
    ·have e : (((a.toNat : Int)) != 36) = false := by rw [h]; rfl
     have hs := qg3 (k := k) (n := n) (l := l) (s := [a, b]) (b := b) (v := 0) (i := 1) (P := (· = varR (varG [a, b]))) (by omega) (by simp) rfl (by
      rw [qlp, if_pos h]
      cases hd : xD b with
      | none => exact ⟨_, rfl, rfl⟩
      | some x =>
       refine (qo2 (s := [a, b]) rfl).mono ?_
       rintro _ rfl
       show _ = varR (some x)
       simp [varR])
     show Gets (bif (((a.toNat : Int)) != 36) then _ else _) _
     rw [e]
     exact hs
    ·have e : (((a.toNat : Int)) != 36) = true := by simpa using fun h' => h (by omega)
     show Gets (bif (((a.toNat : Int)) != 36) then _ else _) _
     rw [e]
     refine ⟨_, rfl, ?_⟩
     rw [qlp, if_neg h]; rfl
   | [a, b, c] =>
    by_cases h : a.toNat = 36
    ·have e : (((a.toNat : Int)) != 36) = false := by rw [h]; rfl
     show Gets (bif (((a.toNat : Int)) != 36) then _ else bif (((b.toNat : Int)) == 48) then _ else _) _
     rw [e]
     by_cases hb : b.toNat = 48
     ·have e2 : (((b.toNat : Int)) == 48) = true := by rw [hb]; rfl
      rw [e2]
      refine ⟨_, rfl, ?_⟩
      rw [qfB, if_neg (fun h => h.2 hb)]; rfl
     ·have e2 : (((b.toNat : Int)) == 48) = false := by simpa using fun h' => hb (by omega)
      rw [e2]
      show Gets (qaK 0 1 k n [a, b, c] l) _
      refine qg3 (s := [a, b, c]) (b := b) (v := 0) (i := 1) (by omega) (by simp) rfl ?_
      rw [qfB, if_pos ⟨h, hb⟩]
      cases hd : xD b with
      | none => exact ⟨_, rfl, rfl⟩
      | some x =>
       have hx := qaV hd
       refine qg3 (s := [a, b, c]) (b := c) (i := 2) (by omega) (by simp) rfl ?_
       cases hd2 : xD c with
       | none => exact ⟨_, rfl, by simp [varR, hd2]⟩
       | some y =>
        refine (qo2 (s := [a, b, c]) rfl).mono ?_
        rintro _ rfl
        simp [varR, hd2]
    ·have e : (((a.toNat : Int)) != 36) = true := by simpa using fun h' => h (by omega)
     show Gets (bif (((a.toNat : Int)) != 36) then _ else _) _
     rw [e]
     refine ⟨_, rfl, ?_⟩
     rw [qfB, if_neg (fun h' => h h'.1)]; rfl
  ·have e1 : (t.kind != 2) = true := by simpa using h1
   rw [e1, if_neg (fun h => h1 h.1)]
   exact ⟨_, rfl, rfl⟩
 ·have e0 : (t.chk != 0) = true := by simpa using h2
  rw [e0, if_neg (fun h => h2 h.2)]
  exact ⟨_, rfl, rfl⟩
theorem qrK {V : List Int} {l : List Tm} (hlen : l.length < 1099511627776) (ih : ∀ x ∈ l, EVs (EV cfg) 161 [x.av, .sl (qx V)] = some (.bool (isG V x))) :
  EVs (EV cfg) 235 [.sl (qb l), .sl (qx V)] = some (.bool (allG V l)) := by
 have loop : ∀ d i : Nat, i + d = l.length → Gets (qhB (qb l) (qx V) i) (· = .bool (allG V (l.drop i))) := by
  intro d
  induction d with
  | zero =>
   intro i hi
   refine qf8 _ _ _ ?_
   rw [qd, decide_eq_false (by omega), qyV (by omega)]
   exact ⟨_, rfl, by rw [allG]⟩
  | succ d ihd =>
   intro i hi
   have hil : i < l.length := by omega
   refine qf8 _ _ _ ?_
   have hx : l[i]? = some l[i] := qyI hil
   have hd : l.drop i = l[i] :: l.drop (i + 1) := qyS hil
   have h1 := ih l[i] (qyR hx)
   have h2 := ihd (i + 1) (by omega)
   rw [qd, decide_eq_true (show (i : Int) < (l.length : Int) by omega), qw, qD, decide_eq_true hil, q9 hx, qJ hil hlen, hd, allG]
   simp only [cond_true, qy2, qi, qy1, qp, qt, show qyQ 4 4 = true from rfl, qj, h1, qc, qk]
   cases hg : isG V l[i] with
   | false => exact ⟨_, rfl, rfl⟩
   | true => rw [qzg]; exact h2
 apply Gets.get
 exact qp5 _ _ (by simpa using loop l.length 0 (by omega))
theorem qta {V : List Int} (hV : V.length < 1099511627776) : ∀ (n : Nat) (t : Tm), t.w ≤ n → n < 1099511627776 → EVs (EV cfg) 161 [t.av, .sl (qx V)] = some (.bool (isG V t)) := by
 intro n
 induction n with
 | zero => intro t h; have := vH t; omega
 | succ n ih =>
  intro t hw hn
  have hwe := t.w_eq
  have hwl := xB t.subs
  have allOf : ∀ l : List Tm, wL l ≤ n → EVs (EV cfg) 235 [.sl (qb l), .sl (qx V)] = some (.bool (allG V l)) := fun l hl =>
   qrK (by have := xB l; omega) fun x hx => ih x (by have := vY hx; omega) (by omega)
  have hvar := qaP (t := t) (by omega)
  have hsub := allOf t.subs (by omega)
  apply Gets.get
  rw [Tm.av, Tm.cells_eq] at hvar ⊢
  refine qrI _ _ _ _ _ ?_
  rw [hvar, hsub]
  simp only [beqI, qc, qk]
  simp only [varR, kTup, qa, qm, qk, kNil]
  cases hv : varT t with
  | some x =>
   have h2 : t.kind = 2 := by
    unfold varT at hv
    split at hv
    ·rename_i h; exact h.1
    ·cases hv
   have hc := qtb V hV x
   simp only [Option.getD_some, qzl, cond_true]
   rw [hc, qat h2, hv]; exact ⟨_, rfl, rfl⟩
  | none =>
   simp only [Option.isSome_none, cond_false]
   by_cases h9 : t.kind = 9
   ·rw [decide_eq_true h9, cond_true, qdK h9]; exact ⟨_, rfl, rfl⟩
   ·rw [decide_eq_false h9, cond_false]
    by_cases h7 : t.kind = 7
    ·have e7 : (t.kind != 7) = false := by rw [h7]; rfl
     rw [e7, cond_false]
     cases hl : t.subs with
     | nil => rw [qcW h7 hl]; exact ⟨_, rfl, rfl⟩
     | cons f r =>
      rw [qcV h7 hl]
      rw [hl] at hwl hwe
      rw [qV] at hwe
      have hfw := f.w_eq
      have hfs := allOf f.subs (by omega)
      have hr := allOf r (by omega)
      have hrl := xB r
      have c0 : (decide (((qb (f :: r)).length : Int) = 0)) = false := by rw [qd]; exact decide_eq_false (by simp; omega)
      have c1 : qg 0 ((qb (f :: r)).length : Int) = true := by rw [qd]; exact decide_eq_true (by simp)
      have c2 : qh 1 ((qb (f :: r)).length : Int) = true := by rw [qd]; exact decide_eq_true (by simp; omega)
      have c3 : IntKind.wrap .i64 (((qb (f :: r)).length : Int) - 1) = (r.length : Int) := by
       rw [qd, qzc, qM (by omega) (by omega)]; omega
      have c4 : (decide (((qb (f :: r)).length : Int) = 1)) = decide (r.length = 0) := by rw [qd, qzc]; exact decide_eq_decide.2 (by omega)
      have c5 : (decide (((qb (f :: r)).length : Int) = 2)) = decide (r.length = 1) := by rw [qd, qzc]; exact decide_eq_decide.2 (by omega)
      have g0 : (qb (f :: r))[(0 : Int).toNat]? = some f.cells := by rw [qy]; rfl
      have g0' : (qb (f :: r))[0]? = some f.cells := g0
      have tk : qyM ((qb (f :: r)).length - 1) (qzj 1 (qb (f :: r))) = qb r := by
       rw [qy, List.drop_succ_cons, qzk, qzc, Nat.add_sub_cancel, List.take_length]
      have hm := qrH f.str (r.length : Int)
      rw [c0, c1, c2, c3, c4, c5, tk]
      simp only [cond_false, cond_true, ql, g0, g0', qc, qi, qy1, show qyQ 4 4 = true from rfl, qp, qt, zc, beqS, hm, hfs, hr, qk]
      by_cases f7 : f.kind = 7
      ·have f2 : (f.kind != 2) = true := by rw [f7]; rfl
       rw [if_pos f7, decide_eq_true f7, f2]
       cases decide (r.length = 0) <;> exact ⟨_, rfl, rfl⟩
      ·rw [if_neg f7, decide_eq_false f7, cond_false]
       by_cases f2 : f.kind = 2
       ·have e2 : (f.kind != 2) = false := by rw [f2]; rfl
        rw [if_pos f2, e2, cond_false]
        by_cases hc : f.str = [99, 111, 110, 115, 116]
        ·rw [if_pos hc, decide_eq_true hc]
         cases decide (r.length = 0) <;> exact ⟨_, rfl, rfl⟩
        ·rw [if_neg hc, decide_eq_false hc, cond_false]
         cases decide (r.length = 0) <;> cases decide ((r.length : Int) ∈ opsG f.str) <;> exact ⟨_, rfl, rfl⟩
       ·have e2 : (f.kind != 2) = true := by simpa using f2
        rw [if_neg f2, e2]
        cases decide (r.length = 0) <;> exact ⟨_, rfl, rfl⟩
    ·have e7 : (t.kind != 7) = true := by simpa using h7
     rw [e7]
     by_cases h2 : t.kind = 2
     ·rw [qat h2, hv]; exact ⟨_, rfl, rfl⟩
     ·rw [qkA h2 h9 h7]; exact ⟨_, rfl, rfl⟩
theorem qgF {V : List Int} (hV : V.length < 1099511627776) {t : Tm} (h : t.w < 1099511627776) : EVs (EV cfg) 73 [t.av, .sl (qx V)] = some (.int .i64 (xg V t)) := by
 have hc := xf h
 have hi := qta hV t.w t (qyN _) h
 apply Gets.get
 rw [Tm.av, Tm.cells_eq] at hc hi ⊢
 refine qmd _ _ _ _ _ ?_
 rw [hc, hi]
 unfold xg
 simp only [qc, qm, qk]
 by_cases h0 : t.chk = 0
 ·have : (t.chk != 0) = false := by rw [h0]; rfl
  rw [this, if_pos h0]
  cases isG V t <;> exact ⟨_, rfl, rfl⟩
 ·have : (t.chk != 0) = true := by simpa using h0
  rw [this, if_neg h0]; exact ⟨_, rfl, rfl⟩
end Go.Proofs.YtkgkjngbfdnoiaaGreat
end
section
namespace Go.Av
def qbp (r : Tm × Int) : AV := .tup [r.1.av, .int .i64 r.2]
theorem qmK {α : Type} (t : Tm) (x : Int) (K : Int → Int → List UInt8 → List (List AV) → Int → Option α) : (kTup (.tup [t.av, .int .i64 x]) fun cs => qa cs fun c cs => kAgg c fun cs_1 => qa cs_1 fun c cs_2 => kInt .i64 c fun n => qa cs_2 fun c cs_3 => kInt .i64 c fun n_1 => qa cs_3 fun c cs_4 => kStr c fun s => qa cs_4 fun c cs_5 => kSl c fun rows => kNil cs_5 (qa cs fun c cs => kInt .i64 c fun m => kNil cs (K n n_1 s rows m))) = K t.kind t.num t.str (qb t.subs) x := by
 obtain ⟨k, n, s, l⟩ := t
 rw [Tm.av_mk]; rfl
structure EnvW (e : Env) : Prop where
 obj : e.obj.w < 1099511627776
 len : e.binds.length < 1099511627776
 binds : ∀ p ∈ e.binds, p.2.w < 1099511627776
end Go.Av
namespace Go.Proofs.YtkgkjngbfdnoiaaGreat
open Go.Av
end Go.Proofs.YtkgkjngbfdnoiaaGreat
end
section
namespace Go.Av
def vlR (o : Option (List Tm)) : AV := .tup [.sl (qb (o.getD [])), .bool o.isSome]
theorem kVl {α : Type} (l : List Tm) (b : Bool) (K : List (List AV) → Bool → Option α) : (kTup (.tup [.sl (qb l), .bool b]) fun cs => qa cs fun c cs => kSl c fun rows => qa cs fun c cs => qf c fun b => kNil cs (K rows b)) = K (qb l) b := rfl
theorem kBB {α : Type} (x y : Bool) (K : Bool → Bool → Option α) : (kTup (.tup [.bool x, .bool y]) fun cs => qa cs fun c cs => qf c fun b => qa cs fun c cs => qf c fun b' => kNil cs (K b b')) = K x y := rfl
end Go.Av
namespace Go.Proofs.YtkgkjngbfdnoiaaGreat
open Go.Av
theorem ql6 {e : Env} {l : List Tm} (hlen : l.length < 1099511627776) (ih : ∀ x ∈ l, Gets (EVf (EV cfg) 75 [x.av, envR e.obj e.binds e.self]) (RB (valG e x))) :
  EVf (EV cfg) 166 [.sl (qb l), envR e.obj e.binds e.self] = some (vlR (seqO (vg e l))) := by
 have loop : ∀ (d i : Nat) (acc : List Tm), i + d = l.length → acc.length = i → Gets (qhv (qb l) i i e.obj.kind e.obj.num e.obj.str (qb e.obj.subs) (qo e.binds) e.self (qb acc)) (· = vlR ((seqO (vg e (l.drop i))).map (acc ++ ·))) := by
  intro d
  induction d with
  | zero =>
   intro i acc hi ha
   refine qf0 _ _ _ _ _ _ _ _ _ _ ?_
   have hb : qyQ (0 + i) (qb acc).length = true := by rw [qy9, qd]; omega
   have ht : qyM i (qb acc) = qb acc := qyP (by rw [qd]; omega)
   rw [qd, decide_eq_false (by omega), qyV (by omega), hb, ht]
   refine ⟨_, rfl, ?_⟩
   simp [vg, seqO, vlR]
  | succ d ihd =>
   intro i acc hi ha
   have hil : i < l.length := by omega
   refine qf0 _ _ _ _ _ _ _ _ _ _ ?_
   have hx : l[i]? = some l[i] := qyI hil
   have h1 := ih l[i] (qyR hx)
   have e3 : qyQ (0 + i) (qb acc).length = true := by rw [qy9, qd]; omega
   have ht : qyM i (qb acc) = qb acc := qyP (by rw [qd]; omega)
   rw [qd, decide_eq_true (show (i : Int) < (l.length : Int) by omega), qw, qD, decide_eq_true hil, q9 hx, qJ hil hlen, e3, ht, yb (by omega), qyS hil]
   simp only [cond_true, qy2, qi, qy1, qp, qt, vw, qj]
   refine Gets.bind h1 ?_
   rintro _ ⟨t, rfl, ht⟩
   simp only [kTB]
   rw [vg, seqO]
   cases hv : valG e l[i] with
   | none =>
    refine ⟨_, rfl, ?_⟩
    simp [vlR]
   | some x =>
    rw [ht x hv, qy0]
    have h2 := ihd (i + 1) (acc ++ [x]) (by omega) (by simp; omega)
    have e2 : qy4 (qb acc) [x.cells] = qb (acc ++ [x]) := by rw [q8, qy, qI]; rfl
    simp only [qzl, qzh, cond_false]
    rw [← Tm.cells_eq, e2]
    refine Gets.mono h2 ?_
    rintro _ rfl
    cases seqO (vg e (l.drop (i + 1))) <;> simp
 apply Gets.get
 unfold envR
 refine qkU _ _ _ _ _ _ _ ?_
 have h := loop l.length 0 [] (by omega) rfl
 rw [qI] at h
 refine Gets.mono h ?_
 rintro _ rfl
 rw [qzk]
 cases seqO (vg e l) <;> simp
theorem qcn {t : Tm} {o : Option Tm} (h : ∀ x, o = some x → t = x) (hw : t.w < 1099511627776) : Gets (kOpt (EVf (EV cfg) 164 [t.av, .bool o.isSome]) fun (v : AV) => kTup v fun (cs : List AV) => qa cs fun (c : AV) (cs : List AV) => kAgg c fun (cs_1 : List AV) => qa cs_1 fun (c : AV) (cs_2 : List AV) => kInt .i64 c fun (n : Int) => qa cs_2 fun (c : AV) (cs_3 : List AV) => kInt .i64 c fun (n_1 : Int) => qa cs_3 fun (c : AV) (cs_4 : List AV) => kStr c fun (s : List UInt8) => qa cs_4 fun (c : AV) (cs_5 : List AV) => kSl c fun (rows : List (List AV)) => kNil cs_5 (qa cs fun (c : AV) (cs : List AV) => qf c fun (b : Bool) => kNil cs (some (AV.tup [.agg [.int .i64 n, .int .i64 n_1, .str s, .sl rows], .bool b])))) (RB (o.bind xh)) := by
 rw [qnS h hw]
 simp only [qc, qbB, kTB, qj]
 exact ⟨_, rfl, RB.of⟩
theorem qgu {e : Env} (he : EnvOk e) {l : List Tm} (k : Int) (hlen : l.length ≤ 64) (hl : ∀ x ∈ l, x.chk = 0 ∧ isG (xq e) x = true)
  (hv : EVf (EV cfg) 166 [.sl (qb l), envR e.obj e.binds e.self] = some (vlR (seqO (vg e l)))) :
  Gets (kOpt (EVf (EV cfg) 166 [.sl (qb l), envR e.obj e.binds e.self]) fun (v : AV) => kTup v fun (cs : List AV) => qa cs fun (c : AV) (cs : List AV) => kSl c fun (rows : List (List AV)) => qa cs fun (c : AV) (cs : List AV) => qf c fun (b : Bool) => kNil cs (kOpt (EVf (EV cfg) 164 [.agg [.int .i64 k, .int .i64 0, .str [], .sl rows], .bool b]) fun (v : AV) => kTup v fun (cs : List AV) => qa cs fun (c : AV) (cs : List AV) => kAgg c fun (cs_1 : List AV) => qa cs_1 fun (c : AV) (cs_2 : List AV) => kInt .i64 c fun (n : Int) => qa cs_2 fun (c : AV) (cs_3 : List AV) => kInt .i64 c fun (n_1 : Int) => qa cs_3 fun (c : AV) (cs_4 : List AV) => kStr c fun (s : List UInt8) => qa cs_4 fun (c : AV) (cs_5 : List AV) => kSl c fun (rows : List (List AV)) => kNil cs_5 (qa cs fun (c : AV) (cs : List AV) => qf c fun (b : Bool) => kNil cs (some (AV.tup [.agg [.int .i64 n, .int .i64 n_1, .str s, .sl rows], .bool b]))))) (RB ((seqO (vg e l)).bind fun ts => xh (.mk k 0 [] ts))) := by
 rw [hv]
 simp only [qc, vlR, kVl, qnf]
 have hw : (Tm.mk k 0 [] ((seqO (vg e l)).getD [])).w < 1099511627776 := by
  rw [Tm.w_mk]
  cases ho : seqO (vg e l) with
  | none => simp
  | some ts =>
   have h1 := qdj (qdo he hl ho)
   have h2 := qdn ho
   have h3 : ts.length * 4259840 ≤ 64 * 4259840 := qy5 _ (by omega)
   simp only [Option.getD_some, List.length_nil]; omega
 have h := qcn (o := (seqO (vg e l)).map fun ts => .mk k 0 [] ts) (t := .mk k 0 [] ((seqO (vg e l)).getD [])) (fun x hx => by
  obtain ⟨ts, h1, rfl⟩ := qyO.1 hx
  rw [h1]; rfl) hw
 rw [Option.isSome_map] at h
 refine Gets.mono h ?_
 intro v hv
 cases hs : seqO (vg e l) <;> rw [hs] at hv <;> exact hv
theorem qp3 {e : Env} {op : List UInt8} {a b : Tm} {q : List Tm} (iha : Gets (EVf (EV cfg) 75 [a.av, envR e.obj e.binds e.self]) (RB (valG e a))) (ihb : Gets (EVf (EV cfg) 75 [b.av, envR e.obj e.binds e.self]) (RB (valG e b))) :
  Gets (EVf (EV cfg) 167 [.str op, .sl (qb (a :: b :: q)), envR e.obj e.binds e.self]) (RB (z6 (decide (op = [97, 110, 100, 97, 108, 115, 111])) (vg e (a :: b :: q)))) := by
 unfold envR at *
 refine qnX _ _ _ _ _ _ _ _ ?_
 unfold ze51 ze0
 rw [← vq, lt0T, yP, lt1T, ys]
 simp only [cond_true, qc, qi, qy1, vw, qp, qt, qj, vg, z6]
 refine Gets.bind iha ?_
 rintro _ ⟨x, rfl, hx⟩
 simp only [kTB, qj, ze, qc, kBB, beqS]
 cases hva : valG e a with
 | none => exact ⟨_, rfl, _, rfl, fun y hy => by cases hy⟩
 | some y =>
  obtain rfl := hx y hva
  simp only [qzl, qzh, cond_false, qy0]
  cases hb : vu x with
  | none => exact ⟨_, rfl, _, rfl, fun y hy => by cases hy⟩
  | some v =>
   simp only [qzl, qzh, cond_false, Option.getD_some, qy0]
   by_cases hd : v = decide (op = [97, 110, 100, 97, 108, 115, 111])
   ·rw [if_pos hd, ← hd, beq_self_eq_true]
    simp only [qzh, cond_false]
    refine Gets.bind ihb ?_
    rintro _ ⟨z, rfl, hz⟩
    simp only [kTB, qj, ze, qc, kBB]
    cases hvb : valG e b with
    | none => exact ⟨_, rfl, _, rfl, fun y hy => by cases hy⟩
    | some y =>
     obtain rfl := hz y hvb
     simp only [qzl, cond_true, qy0]
     refine ⟨_, rfl, z, by rw [Option.isSome_map], fun w hw => ?_⟩
     obtain ⟨_, _, rfl⟩ := qyO.1 hw
     rfl
   ·rw [if_neg hd, beq_eq_false_iff_ne.2 hd]
    exact ⟨_, rfl, _, rfl, fun y hy => by cases hy; rfl⟩
end Go.Proofs.YtkgkjngbfdnoiaaGreat
end
section
namespace Go.Av
theorem kIB {α : Type} (x : Int) (y : Bool) (K : Int → Bool → Option α) : (kTup (.tup [.int .i64 x, .bool y]) fun cs => qa cs fun c cs => kInt .i64 c fun n => qa cs fun c cs => qf c fun b => kNil cs (K n b)) = K x y := rfl
end Go.Av
namespace Go.Proofs.YtkgkjngbfdnoiaaGreat
open Go.Av
theorem qww {e : Env} (he : EnvOk e) : Gets (qcE 0 0 e.obj.kind e.obj.num e.obj.str (qb e.obj.subs) (qo e.binds) e.self 0 0 [] [] []) (RB (xh (qO (e.binds.map (·.2))))) := by
 have hlen : e.binds.length < 1099511627776 := by have := he.len; omega
 have loop : ∀ (d i : Nat), i + d = e.binds.length → Gets (qcE i i e.obj.kind e.obj.num e.obj.str (qb e.obj.subs) (qo e.binds) e.self 0 0 [] [] (qb ((e.binds.take i).map (·.2)))) (RB (xh (qO (e.binds.map (·.2))))) := by
  intro d
  induction d with
  | zero =>
   intro i hi
   refine qf4 _ _ _ _ _ _ _ _ _ _ _ _ _ ?_
   unfold ze14 ze15 ze16 ze17
   obtain rfl : i = e.binds.length := by omega
   have hb : qyQ (0 + e.binds.length) (qb ((e.binds.take e.binds.length).map (·.2))).length = true := by rw [qy9, qd, qzd, qzb]; omega
   have ht : qyM e.binds.length (qb ((e.binds.take e.binds.length).map (·.2))) = qb (e.binds.map (·.2)) := by
    rw [qyP (by rw [qd, qzd, qzb]; omega), List.take_length]
   have hm := qp2 (l := e.binds.map (·.2)) (by rw [qzd]; exact hlen)
   rw [qQ, decide_eq_false (by omega), hb, ht]
   simp only [cond_false, cond_true, Bool.and_true, hm, qc, qE, qj]
   rw [qgL]
   have h1 := qjM (e.binds.map (·.2))
   have h3 := qdj (l := e.binds.map (·.2)) (fun x hx => by
    obtain ⟨p, hp, rfl⟩ := List.mem_map.1 hx
    exact qap he.may p hp)
   rw [qzd] at h1 h3
   have h4 : e.binds.length * 4259840 ≤ 100 * 4259840 := qy5 _ he.len
   exact qcn (o := some (qO (e.binds.map (·.2)))) (fun x hx => by cases hx; rfl) (by omega)
  | succ d ih =>
   intro i hi
   refine qf4 _ _ _ _ _ _ _ _ _ _ _ _ _ ?_
   unfold ze14 ze15 ze16 ze17
   have hil : i < e.binds.length := by omega
   have hx : e.binds[i]? = some e.binds[i] := qyI hil
   have h := ih (i + 1) (by omega)
   have e1 : (e.binds.take (i + 1)).map (·.2) = (e.binds.take i).map (·.2) ++ [e.binds[i].2] := by
    have ht : e.binds.take (i + 1) = e.binds.take i ++ [e.binds[i]] := by rw [List.take_add_one, hx]; rfl
    rw [ht, List.map_append]; rfl
   have hl0 : (qb ((e.binds.take i).map (·.2))).length = i := by rw [qd, qzd, qzb]; omega
   have e2 : qy4 (qyM i (qb ((e.binds.take i).map (·.2)))) [e.binds[i].2.cells] = qb ((e.binds.take (i + 1)).map (·.2)) := by
    rw [qyP (by omega), e1, q8, qy, qI]; rfl
   have e3 : qyQ (0 + i) (qb ((e.binds.take i).map (·.2))).length = true := by rw [hl0, qy9]; omega
   rw [qQ, decide_eq_true (show (i : Int) < (e.binds.length : Int) by omega), qw, qD, decide_eq_true hil, ql, qy3, xI, hx, qJ hil hlen]
   simp only [qy7, cond_true, qy2, qc, qzc, qi, show qyW (4 + 1) 5 = true from rfl, show qyQ 5 (4 + 1) = true from rfl, List.drop_succ_cons, qzk, qp, qe3, e3, yb (show i + 1 ≤ 1099511627776 by omega)]
   rw [← Tm.cells_eq, e2]
   exact h
 have h := loop e.binds.length 0 (by omega)
 rw [List.take_zero, List.map_nil, qI] at h
 exact h
theorem qnT {e : Env} (he : EnvOk e) : ∀ (n : Nat) (t : Tm), t.w ≤ n → t.chk = 0 → isG (xq e) t = true → Gets (EVf (EV cfg) 75 [t.av, envR e.obj e.binds e.self]) (RB (valG e t)) := by
 intro n
 induction n with
 | zero => intro t h; have := vH t; omega
 | succ n ih =>
  intro t hw hc hg
  have hwe := t.w_eq
  have hwc := vj hc
  have hvar := qaP (t := t) (by omega)
  have hbl := he.len
  have hbw : ∀ p ∈ e.binds, p.2.w < 1099511627776 := fun p hp => by have := vj (qap he.may p hp); omega
  have vals : ∀ l : List Tm, l.length ≤ 64 → (∀ x ∈ l, x.w ≤ n ∧ x.chk = 0 ∧ isG (xq e) x = true) → EVf (EV cfg) 166 [.sl (qb l), envR e.obj e.binds e.self] = some (vlR (seqO (vg e l))) := by
   intro l hlen hl
   exact ql6 (by omega) fun x hx => ih x (hl x hx).1 (hl x hx).2.1 (hl x hx).2.2
  have same : Gets (some (AV.tup [t.av, .bool true])) (RB (some t)) := ⟨_, rfl, RB.of⟩
  unfold envR at *
  rw [Tm.av, Tm.cells_eq] at hvar ⊢
  refine ql7 _ _ _ _ _ _ _ _ _ _ ?_
  unfold qpE quf que qud quc qub qua ze93 ze94 ze95 ze96 ze97 ze98 ze99 quE quD quC quB quA quz quy qux quw quv quu qut qus qur quq qup qun qum qul quk quj qui quh qug ze92 ze84 ze85 ze86 ze87 ze88 ze89 ze90 ze91 ze51 ze2 ze3 ze4 ze5 ze6 ze7 ze8 ze9 ze10 ze11 ze12 ze13 ze14 ze15 ze16 ze17 ze0
  rw [hvar, ← vq]
  have b7 : (t.kind != 7) = !decide (t.kind = 7) := by rw [bne, beqI]
  simp only [beqI, beqS, qc, b7, varR, kIB]
  have hsub : ∀ x ∈ t.subs, x.w ≤ n ∧ x.chk = 0 := fun x hx => by
   have := vY hx
   exact ⟨by omega, qZ hc hx⟩
  have hvk : ∀ x, varT t = some x → t.kind = 2 := by
   intro x hx
   unfold varT at hx
   split at hx
   ·rename_i h; exact h.1
   ·cases hx
  by_cases h2 : t.kind = 2
  ·rw [decide_eq_true h2, decide_eq_false (show ¬ t.kind = 9 by omega), decide_eq_false (show ¬ t.kind = 7 by omega), qev h2]
   rw [qat h2] at hg
   cases hx : varT t with
   | some x =>
    rw [hx] at hg
    obtain ⟨y, hy⟩ := qbg (of_decide_eq_true hg)
    have hf := qqb (L := e.binds) (by omega) hbw he.may x
    simp only [qzl, Option.getD_some, cond_true, hf, qc, hy, qbB, kTB, qj]
    exact ⟨_, rfl, RB.of⟩
   | none =>
    simp only [Option.isSome_none, cond_false, cond_true]
    by_cases s1 : t.str = [36, 95]
    ·rw [if_pos s1, decide_eq_true s1, cond_true, qj]; exact ⟨_, rfl, RB.of⟩
    rw [if_neg s1, decide_eq_false s1, cond_false]
    by_cases s2 : t.str = [36, 36]
    ·rw [if_pos s2, decide_eq_true s2, cond_true]
     exact qww he
    rw [if_neg s2, decide_eq_false s2, cond_false, qj]; exact same
  have hv0 : varT t = none := by
   cases hx : varT t with
   | none => rfl
   | some x => exact absurd (hvk x hx) h2
  rw [hv0, decide_eq_false h2]
  simp only [Option.isSome_none, cond_false]
  by_cases h9 : t.kind = 9
  ·rw [decide_eq_true h9, cond_true, qeu h9]
   rw [qdK h9] at hg
   have hall := zL hg
   exact qgu he 9 (xE hc) (fun x hx => ⟨(hsub x hx).2, hall x hx⟩) (vals t.subs (xE hc) fun x hx => ⟨(hsub x hx).1, (hsub x hx).2, hall x hx⟩)
  rw [decide_eq_false h9, cond_false]
  by_cases h7 : t.kind = 7
  ·rw [decide_eq_true h7]
   simp only [qzh, cond_false]
   cases hl : t.subs with
   | nil => rw [qcW h7 hl] at hg; cases hg
   | cons f r =>
    have hf := hsub f (by rw [hl]; simp)
    have hr : ∀ x ∈ r, x.w ≤ n ∧ x.chk = 0 := fun x hx => hsub x (by rw [hl]; simp [hx])
    have hlen := xE hc
    rw [hl, qzc] at hlen
    rw [qg4 h7 hl]
    rw [qcV h7 hl] at hg
    have c2 : qh 1 ((qb (f :: r)).length : Int) = true := by rw [qd]; exact decide_eq_true (by simp; omega)
    have tk : qyM ((qb (f :: r)).length - 1) (qzj 1 (qb (f :: r))) = qb r := by
     rw [qy, List.drop_succ_cons, qzk, qzc, Nat.add_sub_cancel, List.take_length]
    rw [c2, tk]
    simp only [cond_true, lt0T, yP, qc, qi, qy1, vw, qp, qt, zc, beqI, beqS]
    by_cases f7 : f.kind = 7
    ·rw [if_pos f7] at hg ⊢
     rw [decide_eq_true f7, cond_true]
     rw [qyK] at hg
     have hall := zL hg.2
     have fs := xE hf.2
     have hfs : ∀ x ∈ f.subs, x.w ≤ n ∧ x.chk = 0 := fun x hx => by
      have h1 := vY hx
      have h2 := f.w_eq
      exact ⟨by have := hf.1; omega, qZ hf.2 hx⟩
     exact qgu he 7 fs (fun x hx => ⟨(hfs x hx).2, hall x hx⟩) (vals f.subs fs fun x hx => ⟨(hfs x hx).1, (hfs x hx).2, hall x hx⟩)
    rw [if_neg f7] at hg ⊢
    rw [decide_eq_false f7, cond_false]
    by_cases f2 : f.kind = 2
    ·rw [if_pos f2] at hg
     by_cases hk : f.str = [99, 111, 110, 115, 116]
     ·rw [if_pos hk] at hg ⊢
      rw [decide_eq_true hk, cond_true]
      match r, of_decide_eq_true hg with
      | [a], _ =>
       simp only [lt1T, ys, cond_true, qc, qi, qy1, vw, qp, qt, qj]
       exact ⟨_, rfl, RB.of⟩
     rw [if_neg hk] at hg ⊢
     rw [decide_eq_false hk, cond_false]
     rw [qyK] at hg
     have hrg := zL hg.2
     have hop := of_decide_eq_true hg.1
     have lz : ∀ s : List UInt8, f.str = s → opsG s = [2] → Gets (kOpt (EVf (EV cfg) 167 [.str f.str, .sl (qb r), .agg [.int .i64 e.obj.kind, .int .i64 e.obj.num, .str e.obj.str, .sl (qb e.obj.subs), .sl (qo e.binds), .int .i64 e.self]]) fun (v : AV) => kTup v fun (cs : List AV) => qa cs fun (c : AV) (cs : List AV) => kAgg c fun (cs_1 : List AV) => qa cs_1 fun (c : AV) (cs_2 : List AV) => kInt .i64 c fun (n : Int) => qa cs_2 fun (c : AV) (cs_3 : List AV) => kInt .i64 c fun (n_2 : Int) => qa cs_3 fun (c : AV) (cs_4 : List AV) => kStr c fun (s : List UInt8) => qa cs_4 fun (c : AV) (cs_5 : List AV) => kSl c fun (rows : List (List AV)) => kNil cs_5 (qa cs fun (c : AV) (cs : List AV) => qf c fun (b : Bool) => kNil cs (some (AV.tup [.agg [.int .i64 n, .int .i64 n_2, .str s, .sl rows], .bool b])))) (RB (z6 (decide (f.str = [97, 110, 100, 97, 108, 115, 111])) (vg e r))) := by
      intro s hs h2
      have hl2 : r.length = 2 := by
       rw [hs, h2] at hop
       simp at hop; omega
      match r, hr, hrg with
      | [], _, _ => simp at hl2
      | [a], _, _ => simp at hl2
      | a :: b :: q, hr, hrg =>
       have ra := hr a (by simp)
       have rb := hr b (by simp)
       refine Gets.bind (qp3 (q := q) (ih a ra.1 ra.2 (hrg a (by simp))) (ih b rb.1 rb.2 (hrg b (by simp)))) ?_
       rintro _ ⟨x, rfl, hx⟩
       simp only [kTB, qj]
       exact ⟨_, rfl, x, rfl, hx⟩
     by_cases ha : f.str = [97, 110, 100, 97, 108, 115, 111]
     ·have := lz _ ha (by decide)
      rw [if_pos ha, decide_eq_true ha]
      rw [decide_eq_true ha] at this
      exact this
     rw [if_neg ha]
     by_cases hb : f.str = [111, 114, 101, 108, 115, 101]
     ·have := lz _ hb (by decide)
      rw [decide_eq_false ha] at this
      rw [if_pos hb, decide_eq_false ha, decide_eq_true hb]
      exact this
     rw [if_neg hb, decide_eq_false ha, decide_eq_false hb]
     simp only [cond_false]
     rw [vals r (by omega) fun x hx => ⟨(hr x hx).1, (hr x hx).2, hrg x hx⟩]
     simp only [qc, vlR, kVl]
     cases ho : seqO (vg e r) with
     | none => exact ⟨_, rfl, RB.of⟩
     | some ts =>
      have hts := qdo he (fun x hx => ⟨(hr x hx).2, hrg x hx⟩) ho
      have hlt := qdn ho
      have h2 := qmq _ hop
      rw [← hlt] at hop h2
      simp only [qzl, qzh, cond_false, Option.getD_some, qn1 hop hts h2, qc, qbB, kTB, qj, qy0]
      refine qcn (fun x hx => by rw [hx]; rfl) ?_
      cases hap : qbS f.str ts e.self with
      | none => simp [qX, Tm.w_mk]
      | some z => exact qnd hts h2 hap
    ·rw [if_neg f2] at hg; cases hg
  ·rw [decide_eq_false h7, qdk h2 h9 h7]
   simp only [Bool.not_false, cond_true, qj]; exact same
theorem qko {e : Env} (he : EnvW e) : EVs (EV cfg) 72 [envR e.obj e.binds e.self] = some (.bool (envG e)) := by
 have hc := xf he.obj
 apply Gets.get
 unfold envR
 rw [Tm.av, Tm.cells_eq] at hc
 refine qp4 _ _ _ _ _ _ ?_
 rw [hc, qeH he.len he.binds, qih]
 simp only [qc, qm, qk, beqI]
 unfold envG
 cases decide (e.obj.chk = 0) <;> cases mayB (-1) e.binds <;> exact ⟨_, rfl, rfl⟩
theorem qii {e : Env} (he : EnvW e) {t : Tm} (ht : t.w < 1099511627776) : EVf (EV cfg) 18 [t.av, envR e.obj e.binds e.self] = some (qbp (vO e t)) := by
 have hn := qnV he.len
 have hen := qko he
 have hck := qgF (V := xq e) (by unfold xq; rw [qzd]; exact he.len) ht
 have hv : EnvOk e → t.chk = 0 → isG (xq e) t = true → _ := fun h1 => qnT h1 t.w t (qyN _)
 have bne0 : ∀ z : Int, (z != 0) = !decide (z = 0) := fun z => by rw [bne, beqI]
 apply Gets.get
 unfold qbp vO
 unfold envR at *
 rw [Tm.av, Tm.cells_eq] at hck hv ⊢
 refine qn0 _ _ _ _ _ _ _ _ _ _ ?_
 rw [hen, hn, ← vq]
 have hnn : e.binds.map (·.1) = xq e := rfl
 simp only [qc, qk, vE, hnn, hck, qm, bne0]
 cases heg : envG e with
 | false => exact ⟨_, rfl, rfl⟩
 | true =>
  by_cases h0 : xg (xq e) t = 0
  ·obtain ⟨h1, h2⟩ := qaH h0
   rw [decide_eq_true h0]
   simp only [qzh, cond_false, Bool.and_true, if_true]
   refine Gets.bind (hv (qc3.1 heg) h1 h2) ?_
   rintro _ ⟨x, rfl, hx⟩
   simp only [kTB, qj]
   cases hvv : valG e t with
   | none => exact ⟨_, rfl, rfl⟩
   | some v =>
    obtain rfl := hx v hvv
    have hcw := vj (qbz (qc3.1 heg) _ t (qyN _) h1 h2 x hvv)
    simp only [qzl, qzh, cond_false, qba x (by omega), qc, qE, qj]
    exact ⟨_, rfl, rfl⟩
  ·rw [decide_eq_false h0]
   exact ⟨_, rfl, rfl⟩
theorem qnZ {e : Env} (he : EnvW e) {l : List Tm} (hl : ∀ x ∈ l, x.w < 1099511627776) (hlen : l.length < 1099511627776) : EVs (EV cfg) 183 [.sl (qb l), envR e.obj e.binds e.self] = some (.bool (qbN e l)) := by
 have hen := qko he
 unfold envR at hen
 have loop : ∀ (d i : Nat), i + d = l.length → Gets (qhz (qb l) i e.obj.kind e.obj.num e.obj.str (qb e.obj.subs) (qo e.binds) e.self) (· = .bool ((l.drop i).all (qh2 e) && envG e)) := by
  intro d
  induction d with
  | zero =>
   intro i hi
   refine qf6 _ _ _ _ _ _ _ _ ?_
   rw [qd, decide_eq_false (by omega), qyV (by omega), hen]
   exact ⟨_, rfl, rfl⟩
  | succ d ih =>
   intro i hi
   refine qf6 _ _ _ _ _ _ _ _ ?_
   have hil : i < l.length := by omega
   have hx : l[i]? = some l[i] := qyI hil
   have hd : l.drop i = l[i] :: l.drop (i + 1) := qyS hil
   have h := ih (i + 1) (by omega)
   have h1 := qii he (hl l[i] (qyR hx))
   unfold envR at h1
   rw [qd, decide_eq_true (show (i : Int) < (l.length : Int) by omega), qw, qD, decide_eq_true hil, q9 hx, qJ hil hlen, hd, List.all_cons]
   simp only [cond_true, qy2, qi, qy1, qp, qt, vw, qj, h1, qc, qbp]
   rw [qmK]
   unfold qh2 at h ⊢
   simp only [beqS, show ([116, 114, 117, 101] : List UInt8) = tru from rfl]
   by_cases h2 : (vO e l[i]).2 = 0
   ·have e0 : ((vO e l[i]).2 != 0) = false := by rw [h2]; rfl
    rw [e0, decide_eq_true h2, cond_false, qzg]
    by_cases h3 : (vO e l[i]).1.kind = 2
    ·have e1 : ((vO e l[i]).1.kind != 2) = false := by rw [h3]; rfl
     rw [e1, decide_eq_true h3, cond_false, qzg]
     by_cases h4 : (vO e l[i]).1.str = tru
     ·rw [decide_eq_true h4, qzg]; exact h
     ·rw [decide_eq_false h4]; exact ⟨_, rfl, rfl⟩
    ·have e1 : ((vO e l[i]).1.kind != 2) = true := by simpa using h3
     rw [e1, decide_eq_false h3]; exact ⟨_, rfl, rfl⟩
   ·have e0 : ((vO e l[i]).2 != 0) = true := by simpa using h2
    rw [e0, decide_eq_false h2]; exact ⟨_, rfl, rfl⟩
 apply Gets.get
 unfold envR
 refine qmc _ _ _ _ _ _ _ ?_
 unfold qbN
 exact (by simpa using loop l.length 0 (by omega))
noncomputable def qxu : Den := evC cfg (EV cfg) 26 none 0 (sub (qe Tryz.f26) [1, 1, 0, 1, 0, 0])
noncomputable def qyc : Ex × List AV × AH → Option AV := kAft (Cfg.keepOut cfg 26 4) (kRun cfg (EV cfg) (kfN cfg 6) 26 none 0 (vX cfg (Cfg.lift cfg 26 0) Tryz.f26.results.toList) ([.block 0, .seq (sub (qe Tryz.f26) [1, 1, 1])]))
noncomputable def qwV : List AV × AH → Option AV := fun p => kOpt (LOOP 0 (some [0, 1, 5]) ([]) qxu p) qyc
noncomputable def qxw : Den := evC cfg (EV cfg) 23 none 0 (sub (qe Tryz.f23) [1, 1, 0, 1, 0, 0])
noncomputable def qye : Ex × List AV × AH → Option OV := kAft (Cfg.keepOut cfg 23 3) (kRun cfg (EV cfg) (kfN cfg 6) 23 none 0 (quM cfg (Cfg.lift cfg 23 0) Tryz.f23.results.toList) ([.block 0, .seq (sub (qe Tryz.f23) [1, 1, 1])]))
noncomputable def qwW : List AV × AH → Option OV := fun p => kOpt (LOOP 0 (some [0, 3, 4]) ([(3, 4)]) qxw p) qye
noncomputable abbrev qhL (A B : Rz) (v5 : Int) : Option (AV) := qwV  (((fx 27 [(0, .sl A), (1, .sl B), (5, .int .i64 v5)]) : List AV), ([] : AH))
noncomputable abbrev qhM (A : Rz) (nv3 : Nat) (v4 : Int) (h0 : Rz) : Option (OV) := qwW  (((fx 20 [(0, .sl A), (3, .ms 0 0 nv3), (4, .int .i64 v4)]) : List AV), ([.rows true 4 h0] : AH))
theorem qco (ka na : Int) (sa : Bz) (la : Rz) (kb nb : Int) (sb : Bz) (lb : Rz) {P : AV → Prop} (h : Gets (bif ka == kb then bif na == nb then bif sa == sb then kOpt (EVs (EV cfg) 26 [.sl la, .sl lb]) fun v => qf v fun b => some (.bool b) else some (.bool false) else some (.bool false) else some (.bool false)) P) : Gets (EVs (EV cfg) 19 [.agg [.int .i64 ka, .int .i64 na, .str sa, .sl la], .agg [.int .i64 kb, .int .i64 nb, .str sb, .sl lb]]) P :=
  gE (fun _ => funS rfl rfl Tryz.func19 rfl) (by kernel_rfl) h
theorem qbU (A B : Rz) {P : AV → Prop} (h : Gets (bif (A.length : Int) != (B.length : Int) then some (.bool false) else qhL A B 0) P) : Gets (EVs (EV cfg) 26 [.sl A, .sl B]) P :=
  gE (fun _ => funS rfl rfl Tryz.func26 rfl) (by kernel_rfl) h
theorem qcp (kt nt : Int) (st : Bz) (lt : Rz) {P : AV → Prop} (h : Gets (kOpt (EVo (EV cfg) 23 [.sl lt]) fun o => kOwn o (some (.agg [.int .i64 kt, .int .i64 nt, .str st, .sl []])) fun sz rs off len => bif qyQ (off + len) (qyH rs) && true then some (.agg [.int .i64 kt, .int .i64 nt, .str st, .sl (qyM len (qzj off rs))]) else none) P) : Gets (EVf (EV cfg) 15 [.agg [.int .i64 kt, .int .i64 nt, .str st, .sl lt]]) P :=
  gE (fun _ => funF rfl rfl Tryz.func15 rfl) (by kernel_rfl) h
theorem qbV (A : Rz) {P : OV → Prop} (h : Gets (qhM A 0 0 []) P) : Gets (EVo (EV cfg) 23 [.sl A]) P :=
  gE (fun _ => funO rfl rfl Tryz.func23 rfl) (by kernel_rfl) h
theorem qgj (A B : Rz) (v5 : Int) {P : AV → Prop} (h : Gets (bif decide (v5 < (A.length : Int)) then bif qh 0 v5 && qg v5 (A.length : Int) then kOpt (qyG A (v5.toNat)) fun row => bif qyW (qyH row) 4 then bif qyQ 4 (qyH row) then kTmC (qyM 4 row) fun n n_1 s rows => (bif qh 0 v5 && qg v5 (B.length : Int) then kOpt (qyG B (v5.toNat)) fun row => bif qyW (qyH row) 4 then bif qyQ 4 (qyH row) then kTmC (qyM 4 row) fun n_2 n_3 s_1 rows_1 => (kOpt (EVs (EV cfg) 19 [.agg [.int .i64 n, .int .i64 n_1, .str s, .sl rows], .agg [.int .i64 n_2, .int .i64 n_3, .str s_1, .sl rows_1]]) fun v => qf v fun b => bif ! b then some (.bool false) else qhL A B (IntKind.wrap .i64 (v5 + 1))) else none else none else none) else none else none else none else some (.bool true)) P) : Gets (qhL A B v5) P :=
  gE (fun _ => qn (cfg := cfg) (f := 26) (rd := none) (bs := 0)) (by kernel_rfl) h
theorem qgk (A : Rz) (nv3 : Nat) (v4 : Int) (h0 : Rz) {P : OV → Prop} (h : Gets (bif decide (v4 < (A.length : Int)) then bif qh 0 v4 && qg v4 (A.length : Int) then kOpt (qyG A (v4.toNat)) fun row => bif qyW (qyH row) 4 then bif qyQ 4 (qyH row) then kTmC (qyM 4 row) fun n n_1 s rows => (kOpt (EVf (EV cfg) 15 [.agg [.int .i64 n, .int .i64 n_1, .str s, .sl rows]]) fun v => kTmV v fun n n_2 s rows => (bif qyQ (0 + nv3) (qyH h0) && qN (nv3 + 1) 56 then qhM A (nv3 + 1) (IntKind.wrap .i64 (v4 + 1)) (qy4 (qyM nv3 h0) [[.int .i64 n, .int .i64 n_2, .str s, .sl rows]]) else none)) else none else none else none else some (OV.own 4 h0 0 nv3)) P) : Gets (qhM A nv3 v4 h0) P :=
  gE (fun _ => qn (cfg := cfg) (f := 23) (rd := none) (bs := 0)) (by kernel_rfl) h
theorem qm4 {l : List Tm} (hlen : l.length < 1099511627776) (ih : ∀ x ∈ l, EVf (EV cfg) 15 [x.av] = some x.av) :
  EVo (EV cfg) 23 [.sl (qb l)] = some (OV.own 4 (qb l) 0 l.length) := by
 have loop : ∀ d i : Nat, i + d = l.length → Gets (qhM (qb l) i i (qb (l.take i))) (· = OV.own 4 (qb l) 0 l.length) := by
  intro d
  induction d with
  | zero =>
   intro i hi
   refine qgk _ _ _ _ ?_
   obtain rfl : i = l.length := by omega
   rw [qd, decide_eq_false (by omega), List.take_length]
   exact ⟨_, rfl, rfl⟩
  | succ d ihd =>
   intro i hi
   have hil : i < l.length := by omega
   refine qgk _ _ _ _ ?_
   have hx : l[i]? = some l[i] := qyI hil
   have h1 := ih l[i] (qyR hx)
   have h2 := ihd (i + 1) (by omega)
   have e1 : l.take (i + 1) = l.take i ++ [l[i]] := by rw [List.take_add_one, hx]; rfl
   have ht : (qb (l.take i)).length = i := by rw [qd, qzb]; omega
   have e2 : qy4 (qyM i (qb (l.take i))) [l[i].cells] = qb (l.take (i + 1)) := by
    rw [qyP (by omega), e1, q8, qy, qI]; rfl
   have e3 : qyQ (0 + i) (qb (l.take i)).length = true := by rw [ht, qy9]; omega
   rw [qd, decide_eq_true (show (i : Int) < (l.length : Int) by omega), qw, qD, decide_eq_true hil, q9 hx, qJ hil hlen, e3, yb (by omega)]
   simp only [cond_true, qy2, qi, qy1, qp, qt, show qyQ 4 4 = true from rfl, qj, h1, qc, qE]
   rw [← Tm.cells_eq, e2]
   exact h2
 apply Gets.get
 exact qbV _ (by simpa [qI] using loop l.length 0 (by omega))
theorem qgU (t : Tm) : t.w < 1099511627776 → EVf (EV cfg) 15 [t.av] = some t.av := by
 induction t using Tm.ind with
 | _ k n s l ih =>
  intro hw
  rw [Tm.w_mk] at hw
  have hlen := xB l
  have h := qm4 (l := l) (by omega) fun x hx => ih x hx (by have := vY hx; omega)
  apply Gets.get
  rw [Tm.av_mk]
  refine qcp _ _ _ _ ?_
  rw [h]
  have e : (qyQ (0 + l.length) (qb l).length && true) = true := by rw [Bool.and_true, qy9, qd]; omega
  have e2 : qyM l.length (qzj 0 (qb l)) = qb l := qyP (by simp)
  show Gets (bif (qyQ (0 + l.length) (qb l).length && true) then some (AV.agg [.int .i64 k, .int .i64 n, .str s, .sl (qyM l.length (qzj 0 (qb l)))]) else none) _
  rw [e, e2]
  exact ⟨_, rfl, rfl⟩
theorem qs8 (la lb : List Tm) (hlen : la.length < 1099511627776) (ih : ∀ a ∈ la, ∀ b, Gets (EVs (EV cfg) 19 [a.av, b.av]) (qch (a = b))) : Gets (EVs (EV cfg) 26 [.sl (qb la), .sl (qb lb)]) (qch (la = lb)) := by
 have loop : la.length = lb.length → ∀ (d i : Nat), i + d = la.length → la.take i = lb.take i → Gets (qhL (qb la) (qb lb) i) (qch (la = lb)) := by
  intro hl d
  induction d with
  | zero =>
   intro i hi ht
   refine qgj _ _ _ ?_
   rw [qyP (by omega), qyP (by omega)] at ht
   have h1 : ¬ i < la.length := by omega
   simp [h1, xH]
   exact ht
  | succ d ihd =>
   intro i hi ht
   refine qgj _ _ _ ?_
   have hlt1 : i < la.length := by omega
   have hlt2 : i < lb.length := by omega
   have hx : la[i]? = some la[i] := qyI hlt1
   have hy : lb[i]? = some lb[i] := qyI hlt2
   have hix := ih la[i] (qyR hx) lb[i]
   have hta : la.take (i + 1) = la.take i ++ [la[i]] := by rw [List.take_add_one, hx]; rfl
   have htb : lb.take (i + 1) = lb.take i ++ [lb[i]] := by rw [List.take_add_one, hy]; rfl
   have hih := ihd (i + 1) (by omega)
   have hne : la[i] ≠ lb[i] → la ≠ lb := by intro h e; subst e; exact h rfl
   rw [hta, htb, ht] at hih
   rw [qJ (n := la.length) (by omega) hlen]
   simp [hlt1, hlt2, hx, hy]
   refine Gets.bind hix ?_
   rintro _ ⟨b, rfl, hb⟩
   cases b with
   | true => simp; exact hih (by rw [hb.1 rfl])
   | false =>
    have : la ≠ lb := hne (fun e => by cases hb.2 e)
    simp [xH, this]
 refine qbU _ _ ?_
 by_cases hl : la.length = lb.length
 ·simp [hl]
  exact loop hl la.length 0 (by omega) (by simp)
 ·have : la ≠ lb := fun e => hl (by rw [e])
  have hl' : ¬ ((la.length : Int) = lb.length) := by omega
  simp [bneD, hl', xH, this]
theorem qs7 (a : Tm) : a.Ok → ∀ b : Tm, Gets (EVs (EV cfg) 19 [a.av, b.av]) (qch (a = b)) := by
 induction a using Tm.ind with
 | _ k n s l ih =>
  intro hok b
  obtain ⟨k', n', s', l'⟩ := b
  have hl := qs8 l l' hok.len (fun a ha b => ih a ha (hok.sub ha) b)
  rw [Tm.av_mk, Tm.av_mk]
  refine qco _ _ _ _ _ _ _ _ ?_
  by_cases h1 : k = k'
  ·by_cases h2 : n = n'
   ·by_cases h3 : s = s'
    ·subst h1 h2 h3
     simp
     refine Gets.bind hl ?_
     rintro _ ⟨b, rfl, hb⟩
     simp [xH, hb]
    ·simp [h1, h2, beqD, h3, xH]
   ·simp [h1, beqD, h2, xH]
  ·simp [beqD, h1, xH]
theorem qbX {a b : Tm} (h : a.Ok) {c : Bool} (hc : c = true ↔ a = b) : EVs (EV cfg) 19 [a.av, b.av] = some (.bool c) := by
 obtain ⟨_, h1, b', rfl, h2⟩ := qs7 a h b
 rw [h1]
 have : b' = c := by rw [Bool.eq_iff_iff]; exact h2.trans hc.symm
 rw [this]
end Go.Proofs.YtkgkjngbfdnoiaaGreat
end
section
namespace Go.Av
theorem qhn {a : Nat} (ha : a < 18446744073709551616) : qA (Op.intBits .and .u64 (a : Int) 4294967295) = some (.int .u64 ((a % 4294967296 : Nat) : Int)) := by
 have : qA (Op.intBits .and .u64 (a : Int) 4294967295) = some (.int .u64 (IntKind.wrap .u64 (BitVec.ofInt 64 (a : Int) &&& BitVec.ofInt 64 4294967295).toNat)) := rfl
 rw [this]
 have ea : (BitVec.ofInt 64 (a : Int)).toNat = a := by simp [BitVec.toNat_ofInt]; omega
 have eb : (BitVec.ofInt 64 (4294967295 : Int)).toNat = 2 ^ 32 - 1 := by decide
 rw [BitVec.toNat_and, ea, eb, Nat.and_two_pow_sub_one_eq_mod, qhI (by omega)]
theorem qez {a : Nat} (_ha : a < 18446744073709551616) : qA (Op.shift .shr .u64 (a : Int) .u64 32) = some (.int .u64 ((a / 4294967296 : Nat) : Int)) := by
 have : qA (Op.shift .shr .u64 (a : Int) .u64 32) = some (.int .u64 (Int.fdiv a (2 ^ (min (32 : Int).toNat 64)))) := by
  unfold Op.shift
  rw [if_neg (by omega)]; rfl
 rw [this]
 have e : ((2 : Int) ^ (min (32 : Int).toNat 64)) = ((4294967296 : Nat) : Int) := by decide
 rw [e, Int.fdiv_eq_ediv_of_nonneg _ (Int.natCast_nonneg _)]
 rfl
theorem zw {n : Int} {m : Nat} (h : n = (m : Int)) (hm : m < 18446744073709551616) : IntKind.wrap .u64 n = (m : Int) := by rw [h, qhI hm]
theorem qrj (n : Nat) : IntKind.wrap .u64 (n : Int) = ((n % 18446744073709551616 : Nat) : Int) := by
 simp [IntKind.wrap, IntKind.bits, IntKind.signed]
theorem qtB {a b : Nat} (ha : a < 18446744073709551616) (hb : b < 18446744073709551616) :
  let p := a / 4294967296 * (b % 4294967296); let q := a % 4294967296 * (b / 4294967296); let r := a % 4294967296 * (b % 4294967296); let s := a / 4294967296 * (b / 4294967296)
  r < 18446744073709551616 ∧ p < 18446744073709551616 ∧ q < 18446744073709551616 ∧ s < 18446744073709551616 ∧ p + r / 4294967296 < 18446744073709551616 ∧ (p + r / 4294967296) % 4294967296 + q < 18446744073709551616 ∧ s + (p + r / 4294967296) / 4294967296 < 18446744073709551616 ∧
  s + (p + r / 4294967296) / 4294967296 + ((p + r / 4294967296) % 4294967296 + q) / 4294967296 = a * b / 18446744073709551616 ∧ a * b / 18446744073709551616 < 18446744073709551616 := by
 intro p q r s
 have ea : a = a / 4294967296 * 4294967296 + a % 4294967296 := by omega
 have eb : b = b / 4294967296 * 4294967296 + b % 4294967296 := by omega
 have e : a * b = s * 18446744073709551616 + (p + q) * 4294967296 + r := by
  show a * b = (a / 4294967296 * (b / 4294967296)) * 18446744073709551616 + (a / 4294967296 * (b % 4294967296) + a % 4294967296 * (b / 4294967296)) * 4294967296 + a % 4294967296 * (b % 4294967296)
  generalize a / 4294967296 = x1 at *
  generalize a % 4294967296 = x0 at *
  generalize b / 4294967296 = y1 at *
  generalize b % 4294967296 = y0 at *
  rw [ea, eb]
  have h1 : x1 * 4294967296 * (y1 * 4294967296) = x1 * y1 * 18446744073709551616 := by
   rw [Nat.mul_mul_mul_comm]
  have h2 : x1 * 4294967296 * y0 = x1 * y0 * 4294967296 := by rw [Nat.mul_right_comm]
  have h3 : x0 * (y1 * 4294967296) = x0 * y1 * 4294967296 := by rw [Nat.mul_assoc]
  rw [Nat.add_mul, Nat.mul_add, Nat.mul_add, h1, h2, h3]
  omega
 have bp : p ≤ 4294967295 * 4294967295 := Nat.mul_le_mul (by omega) (by omega)
 have bq : q ≤ 4294967295 * 4294967295 := Nat.mul_le_mul (by omega) (by omega)
 have br : r ≤ 4294967295 * 4294967295 := Nat.mul_le_mul (by omega) (by omega)
 have bs : s ≤ 4294967295 * 4294967295 := Nat.mul_le_mul (by omega) (by omega)
 have hab : a * b < 18446744073709551616 * 18446744073709551616 := Nat.mul_lt_mul'' ha hb
 clear_value p q r s
 rw [e] at hab ⊢
 clear e ea eb
 refine ⟨by omega, by omega, by omega, by omega, by omega, by omega, by omega, by omega, by omega⟩
end Go.Av
namespace Go.Proofs.YtkgkjngbfdnoiaaGreat
open Go.Av
theorem qtj {a b : Nat} (ha : a < 18446744073709551616) (hb : b < 18446744073709551616) :
  EVs (EV cfg) 312 [.int .u64 (a : Int), .int .u64 (b : Int)] = some (.tup [.int .u64 ((a * b / 18446744073709551616 : Nat) : Int), .int .u64 ((a * b % 18446744073709551616 : Nat) : Int)]) := by
 obtain ⟨h1, h2, h3, h4, h5, h6, h7, h8, h9⟩ := qtB ha hb
 have w0 : IntKind.wrap .u64 (((a % 4294967296 : Nat) : Int) * ((b % 4294967296 : Nat) : Int)) = ((a % 4294967296 * (b % 4294967296) : Nat) : Int) := zw (Int.natCast_mul _ _).symm h1
 have w1 : IntKind.wrap .u64 (((a / 4294967296 : Nat) : Int) * ((b % 4294967296 : Nat) : Int)) = ((a / 4294967296 * (b % 4294967296) : Nat) : Int) := zw (Int.natCast_mul _ _).symm h2
 have w2 : IntKind.wrap .u64 (((a % 4294967296 : Nat) : Int) * ((b / 4294967296 : Nat) : Int)) = ((a % 4294967296 * (b / 4294967296) : Nat) : Int) := zw (Int.natCast_mul _ _).symm h3
 have w3 : IntKind.wrap .u64 (((a / 4294967296 : Nat) : Int) * ((b / 4294967296 : Nat) : Int)) = ((a / 4294967296 * (b / 4294967296) : Nat) : Int) := zw (Int.natCast_mul _ _).symm h4
 have w4 : IntKind.wrap .u64 ((a : Int) * (b : Int)) = ((a * b % 18446744073709551616 : Nat) : Int) := by rw [← Int.natCast_mul, qrj]
 apply Gets.get
 refine qrY _ _ ?_
 rw [qhn ha, qez ha, qhn hb, qez hb]
 simp only [qc, qm, w0, w1, w2, w3, w4]
 rw [qez h1]
 simp only [qc, qm]
 rw [zw (Int.natCast_add _ _).symm h5, qhn h5, qez h5]
 simp only [qc, qm]
 rw [zw (Int.natCast_add _ _).symm h6, qez h6]
 simp only [qc, qm]
 rw [zw (Int.natCast_add _ _).symm h7, zw (Int.natCast_add _ _).symm (by rw [h8]; exact h9), h8]
 exact ⟨_, rfl, rfl⟩
theorem qbc : xb := by
 intro e a b ha hb
 obtain ⟨a1, a2⟩ := ha
 obtain ⟨b1, b2⟩ := hb
 -- what follows the two signs
 have fin : ∀ (x y : Nat) (sg : Int), x ≤ 576460752303423488 → y ≤ 576460752303423488 → (sg = 1 ∨ sg = -1) → a * b = sg * (x * y : Nat) →
   Gets (kOpt (EVs (EV cfg) 312 [.int .u64 (x : Int), .int .u64 (y : Int)]) fun (v : AV) => kTup v fun (cs : List AV) => qa cs fun (c : AV) (cs : List AV) => kInt .u64 c fun (n : Int) => qa cs fun (c : AV) (cs : List AV) => kInt .u64 c fun (n_1 : Int) => kNil cs (bif decide (n > (0 : Int)) then kOpt (EVd (EV cfg) 233 [.ptr 0 0 0] 7 (mR e false)) fun (q : AV × List (List AV)) => kTmV q.1 fun (n n_2 : Int) (s : List UInt8) (rows : List (List AV)) => (some (.agg [.int .i64 n, .int .i64 n_2, .str s, .sl rows], q.2)) else bif decide (n_1 > (576460752303423488 : Int)) then kOpt (EVd (EV cfg) 233 [.ptr 0 0 0] 7 (mR e false)) fun (q : AV × List (List AV)) => kTmV q.1 fun (n n_2 : Int) (s : List UInt8) (rows : List (List AV)) => (some (.agg [.int .i64 n, .int .i64 n_2, .str s, .sl rows], q.2)) else kOpt (EVd (EV cfg) 240 [.ptr 0 0 0, .int .i64 (IntKind.wrap .i64 (sg * IntKind.wrap .i64 n_1))] 7 (mR e false)) fun (q : AV × List (List AV)) => kTmV q.1 fun (n n_2 : Int) (s : List UInt8) (rows : List (List AV)) => (some (.agg [.int .i64 n, .int .i64 n_2, .str s, .sl rows], q.2)))) (Res e (qK (a * b))) := by
  intro x y sg hx hy hsg hab
  rw [qtj (by omega) (by omega)]
  simp only [qc, kTup, qa, qm, kNil, xK, qE, qj]
  have hbad : (x * y : Nat) > 576460752303423488 → qK (a * b) = none := by
   intro h
   unfold qK
   rw [if_neg]
   rintro ⟨h1, h2⟩
   rw [hab] at h1 h2
   rcases hsg with rfl | rfl <;> omega
  rw [hab] at hbad ⊢
  generalize x * y = p at *
  by_cases c1 : p / 18446744073709551616 > 0
  ·rw [decide_eq_true (by omega), cond_true, hbad (by omega)]; exact vm
  ·rw [decide_eq_false (by omega), cond_false]
   have ep : p % 18446744073709551616 = p := by omega
   rw [ep]
   by_cases c2 : p > 576460752303423488
   ·rw [decide_eq_true (by omega), cond_true, hbad c2]; exact vm
   ·rw [decide_eq_false (by omega), cond_false, qM (x := (p : Int)) (by omega) (by omega)]
    have : IntKind.wrap .i64 (sg * (p : Int)) = sg * p := by rcases hsg with rfl | rfl <;> exact qM (by omega) (by omega)
    rw [this]
    exact Gets.bind (yA e _ fun r h1 h2 => h1) fun r h => yx h (zk h)
 have wneg : ∀ z : Int, -576460752303423488 ≤ z → z < 0 → IntKind.wrap .u64 (IntKind.wrap .i64 (0 - z)) = ((-z).toNat : Int) := by
  intro z h1 h2
  rw [qM (by omega) (by omega)]
  exact zw (by omega) (by omega)
 have wpos : ∀ z : Int, 0 ≤ z → z ≤ 576460752303423488 → IntKind.wrap .u64 z = (z.toNat : Int) := fun z h1 h2 => zw (by omega) (by omega)
 refine qmt _ _ _ _ _ _ _ _ _ ?_
 unfold zj13 zj14 zj15 zj16 zj17 zj18 zj19 zj20 zj21 zj4 zj5 zj6 zj7 zj8 zj9 zj10 zj11 zj12 zj1 zj2 zj3
 by_cases ca : a < 0
 ·rw [decide_eq_true ca, cond_true]
  by_cases cb : b < 0
  ·rw [decide_eq_true cb, cond_true, wneg a a1 ca, wneg b b1 cb]
   refine fin (-a).toNat (-b).toNat 1 (by omega) (by omega) (Or.inl rfl) ?_
   rw [Int.natCast_mul, Int.toNat_of_nonneg (by omega), Int.toNat_of_nonneg (by omega), Int.neg_mul_neg, Int.one_mul]
  ·rw [decide_eq_false cb, cond_false, wneg a a1 ca, wpos b (by omega) (by omega)]
   refine fin (-a).toNat b.toNat (-1) (by omega) (by omega) (Or.inr rfl) ?_
   rw [Int.natCast_mul, Int.toNat_of_nonneg (by omega), Int.toNat_of_nonneg (by omega), Int.neg_mul, Int.one_mul, Int.neg_mul, Int.neg_neg]
 ·rw [decide_eq_false ca, cond_false]
  by_cases cb : b < 0
  ·rw [decide_eq_true cb, cond_true, wpos a (by omega) (by omega), wneg b b1 cb]
   refine fin a.toNat (-b).toNat (-1) (by omega) (by omega) (Or.inr rfl) ?_
   rw [Int.natCast_mul, Int.toNat_of_nonneg (by omega), Int.toNat_of_nonneg (by omega), Int.neg_mul, Int.one_mul, Int.mul_neg, Int.neg_neg]
  ·rw [decide_eq_false cb, cond_false, wpos a (by omega) (by omega), wpos b (by omega) (by omega)]
   refine fin a.toNat b.toNat 1 (by omega) (by omega) (Or.inl rfl) ?_
   rw [Int.natCast_mul, Int.toNat_of_nonneg (by omega), Int.toNat_of_nonneg (by omega), Int.one_mul]
end Go.Proofs.YtkgkjngbfdnoiaaGreat
end
section
namespace Go.Av
theorem bne0 (z : Int) : (z != 0) = !decide (z = 0) := by rw [bne, beqI]
theorem qyB (a b : Int) : (a != b) = !decide (a = b) := by rw [bne, beqI]
end Go.Av
namespace Go.Proofs.YtkgkjngbfdnoiaaGreat
open Go.Av
end Go.Proofs.YtkgkjngbfdnoiaaGreat
namespace Go.Proofs.YtkgkjngbfdnoiaaGreat.R
open Go.Av
theorem qe8 (hp : xb) {e : Env} (he : EnvW e) {t : Tm} (ht : t.w < 1099511627776) : EVg (EV cfg) 17 [t.av, envR e.obj e.binds e.self] = some (qbp (vO e t)) := by
 have hm := qgS he.len he.binds he.obj e.self
 have hz : AV.agg [.int .i64 0, .int .i64 0, .str [], .sl []] = qX.av := vq.symm
 apply Gets.get
 unfold envR at hm ⊢
 unfold qbp vO envG
 rw [Tm.av, Tm.cells_eq]
 refine qqY _ _ _ _ _ _ _ _ _ _ ?_
 rw [qcc _ rfl rfl, hm]
 unfold mayR
 cases hb : mayB (-1) e.binds with
 | false =>
  rw [if_neg (by simp)]
  simp only [qc, kTup, qa, vE, qk, kNil, Bool.not_false, cond_true, hz, Bool.false_and]
  exact ⟨_, rfl, by rw [if_neg (by simp)]⟩
 | true =>
  rw [if_pos rfl]
  simp only [qc, kTup, qa, vE, qk, kNil, hz, qzg, List.nil_append, qj]
  cases ho : (decide (e.obj.chk = 0) && y8 e.self) with
  | false =>
   simp only [Bool.not_false, cond_true, Bool.false_and]
   exact ⟨_, rfl, by rw [if_neg (by simp)]⟩
  | true =>
   have hok : EnvOk e := qc3.1 (by unfold envG; rw [hb, ho]; rfl)
   have hc := qa4 (V := xq e) (by unfold xq; rw [qzd]; exact he.len) ht
   have hn : e.binds.map (·.1) = xq e := rfl
   simp only [qzh, cond_false, qzg, hn]
   rw [qi7 _ rfl rfl, hc]
   simp only [qc, qm]
   by_cases h0 : xg (xq e) t = 0
   ·obtain ⟨h1, h2⟩ := qaH h0
    have hv := qr0 hok hp t.w t (qyN _) h1 h2
    rw [if_pos (decide_eq_true h0), h0]
    simp only [show ((0 : Int) != 0) = false from rfl, cond_false]
    rw [qyA _ _ _ rfl rfl]
    show Gets (kOpt (EVd (EV Go.Proofs.YtkgkjngbfdnoiaaGreat.cfg) _ _ 7 (mR e false)) _) _
    refine Gets.bind hv ?_
    intro r hr
    cases hvv : valG e t with
    | none =>
     rw [hvv] at hr
     obtain ⟨g1, z, g2⟩ := hr
     rw [g1, g2]
     simp only [qE, yV, yW, qc, qk, cond_true]
     exact ⟨_, rfl, rfl⟩
    | some v =>
     rw [hvv] at hr
     obtain rfl : r = (v.av, mR e false) := hr
     have hcp := qtL (qit (qbz hok _ t (qyN _) h1 h2 v hvv))
     simp only [qE, yV, yW, qc, qk, cond_false, qj, hcp]
     exact ⟨_, rfl, rfl⟩
   ·have : (xg (xq e) t != 0) = true := by simpa using h0
    rw [this, if_neg (by simpa using h0)]
    exact ⟨_, rfl, rfl⟩
end Go.Proofs.YtkgkjngbfdnoiaaGreat.R
end
section
namespace Go.Av
theorem qbr : qX.w < 1099511627776 := by unfold qX; rw [Tm.w_mk]; simp
theorem qvt {e : Env} {t : Tm} : (vO e t).1.w < 1099511627776 := by
 unfold vO
 split
 ·rename_i h
  rw [qyK, decide_eq_true_eq] at h
  obtain ⟨h1, h2⟩ := qaH h.2
  split
  ·rename_i v hv
   have := vj (qbz (qc3.1 h.1) _ t (qyN _) h1 h2 v hv)
   simp only
   omega
  ·exact qbr
 ·exact qbr
end Go.Av
namespace Go.Proofs.YtkgkjngbfdnoiaaGreat.R
open Go.Av
theorem qrT {t : Tm} (h : t.Ok) : EVz (EV cfg) 20 (.agg [.int .i64 t.kind, .int .i64 t.num, .str t.str, .rsl 0 (qb t.subs)]) = some () := qtd t h
end Go.Proofs.YtkgkjngbfdnoiaaGreat.R
end
section
namespace Go.Av
def qad : Nat → Tm → List Tm × Bool
 | 0, _ => ([], false)
 | n + 1, t => if t.kind = 9 then (match t.subs with | [a, b] => (a :: (qad n b).1, (qad n b).2) | _ => ([], false)) else ([], decide (t.kind = 8))
def qC (t : Tm) : List Tm × Bool := qad t.w t
theorem qoA : ∀ (n m : Nat) (t : Tm), t.w ≤ n → t.w ≤ m → qad n t = qad m t := by
 intro n
 induction n with
 | zero => intro m t h; have := vH t; omega
 | succ n ih =>
  intro m t hn hm
  obtain ⟨m, rfl⟩ : ∃ k, m = k + 1 := ⟨m - 1, by have := vH t; omega⟩
  rw [qad, qad]
  by_cases h9 : t.kind = 9
  ·rw [if_pos h9, if_pos h9]
   have hw := t.w_eq
   cases hs : t.subs with
   | nil => rfl
   | cons a l =>
    cases l with
    | nil => rfl
    | cons b l =>
     cases l with
     | nil =>
      rw [hs] at hw
      simp only [qV, vQ] at hw
      simp only []
      rw [ih m b (by omega) (by omega)]
     | cons c l => rfl
  ·rw [if_neg h9, if_neg h9]
theorem xo {t a b : Tm} (hk : t.kind = 9) (hs : t.subs = [a, b]) : qC t = (a :: (qC b).1, (qC b).2) := by
 have hw := t.w_eq
 rw [hs] at hw
 simp only [qV, vQ] at hw
 unfold qC
 obtain ⟨n, hn⟩ : ∃ n, t.w = n + 1 := ⟨t.w - 1, by have := vH t; omega⟩
 rw [hn, qad, if_pos hk, hs]
 simp only []
 rw [qoA n b.w b (by omega) (qyN _)]
theorem yl {t : Tm} (hk : t.kind ≠ 9) : qC t = ([], decide (t.kind = 8)) := by
 unfold qC
 obtain ⟨n, hn⟩ : ∃ n, t.w = n + 1 := ⟨t.w - 1, by have := vH t; omega⟩
 rw [hn, qad, if_neg hk]
theorem qaD : ∀ l : List Tm, qC (qO l) = (l, true)
 | [] => yl (by decide)
 | x :: l => by
  rw [xo (a := x) (b := qO l) rfl rfl, qaD l]
theorem qtN {P : Tm → Prop} (h9 : ∀ t a b, t.kind = 9 → t.subs = [a, b] → t.chk = 0 → P b → P t) (h0 : ∀ t, t.kind ≠ 9 → t.chk = 0 → P t) : ∀ (n : Nat) (t : Tm), t.w ≤ n → t.chk = 0 → P t := by
 intro n
 induction n with
 | zero => intro t h; have := vH t; omega
 | succ n ih =>
  intro t hw hc
  by_cases hk : t.kind = 9
  ·obtain ⟨a, b, hs⟩ := yd hc hk
   have hwe := t.w_eq
   rw [hs] at hwe
   simp only [qV, vQ] at hwe
   exact h9 t a b hk hs hc (ih b (by omega) (qZ hc (by rw [hs]; simp)))
  ·exact h0 t hk hc
theorem qpj {P : Tm → Prop} (t : Tm) (hc : t.chk = 0) (h9 : ∀ t a b, t.kind = 9 → t.subs = [a, b] → t.chk = 0 → P b → P t) (h0 : ∀ t, t.kind ≠ 9 → t.chk = 0 → P t) : P t := qtN h9 h0 t.w t (qyN _) hc
theorem qbn {t : Tm} (hc : t.chk = 0) : ∀ x ∈ (qC t).1, x.chk = 0 := by
 refine qpj (P := fun t => ∀ x ∈ (qC t).1, x.chk = 0) t hc (fun t a b hk hs hc ih => ?_) (fun t hk hc => ?_)
 ·rw [xo hk hs]
  intro x hx
  rcases qzm.1 hx with rfl | hx
  ·exact qZ hc (by rw [hs]; simp)
  ·exact ih x hx
 ·rw [yl hk]
  intro x hx
  cases hx
theorem yO {t : Tm} (hc : t.chk = 0) : wL (qC t).1 + (qC t).1.length ≤ t.w := by
 refine qpj (P := fun t => wL (qC t).1 + (qC t).1.length ≤ t.w) t hc (fun t a b hk hs hc ih => ?_) (fun t hk hc => ?_)
 ·rw [xo hk hs, t.w_eq, hs]
  simp only [qV, vQ, qzc]
  omega
 ·rw [yl hk]
  simp
def anyT (p : Tm) : Bool := decide (p.kind = 2) && (decide (p.str = [95]) && decide (p.chk = 0))
def qaf (p : Tm) : Bool := (varT p).isSome || (decide (p.kind = 7) || anyT p)
mutual
/-- does a variable stand in a pattern? -/
def vP (n : Int) : Tm → Bool
 | .mk k _ s l => if k = 7 ∨ k = 9 then qhY n l else decide (k = 2) && decide (varG s = some n)
def qhY (n : Int) : List Tm → Bool
 | [] => false
 | t :: l => vP n t || qhY n l
end
theorem qhX (n : Int) : ∀ l : List Tm, qhY n l = l.any (vP n)
 | [] => rfl
 | t :: l => by rw [qhY, qhX n l]; rfl
theorem yI (n : Int) (t : Tm) : vP n t = if t.kind = 7 ∨ t.kind = 9 then t.subs.any (vP n) else decide (t.kind = 2) && decide (varG t.str = some n) := by
 obtain ⟨k, m, s, l⟩ := t
 rw [vP, qhX]; rfl
def xG (p : Tm) : List Int := if p.chk = 0 then ((qzn 100).filter fun n => vP (n : Nat) p).map Int.ofNat else []
structure Cl where
 head : Tm
 gs : List Tm
 bs : List Tm
 deriving Inhabited
def Cl.cells (c : Cl) : List AV := [.int .i64 c.head.kind, .int .i64 c.head.num, .str c.head.str, .sl (qb c.head.subs), .sl (qb c.gs), .sl (qb c.bs)]
def Cl.av (c : Cl) : AV := .agg c.cells
def vB (l : List Cl) : List (List AV) := l.map Cl.cells
def qdc : Cl := ⟨qX, [], []⟩
theorem zO (l : List Cl) : (vB l).length = l.length := by simp [vB]
theorem qeC (l : List Cl) (i : Nat) : (vB l)[i]? = (l[i]?).map Cl.cells := by simp [vB]
theorem qbD (a b : List Cl) : vB (a ++ b) = vB a ++ vB b := by simp [vB]
theorem qrz (c : Cl) : vB [c] = [c.cells] := rfl
def vM (t : Tm) : Option Cl :=
 if t.kind = 7 then (match t.subs with
  | [h, g, b] => if qaf h && ((qC g).2 && ((qC b).2 && !(qC b).1.isEmpty)) && ((qC g).1.all (fun e => decide (xg (xG h) e = 0)) && (qC b).1.all (fun e => decide (xg (xG h) e = 0))) then some ⟨h, (qC g).1, (qC b).1⟩ else none
  | _ => none)
 else none
def seqC : List Tm → Option (List Cl)
 | [] => some []
 | t :: l => (vM t).bind fun c => (seqC l).map (c :: ·)
def clsG (t : Tm) : List Cl × Int :=
 if t.chk = 0 then (match seqC (qC t).1 with
  | some l => if (qC t).2 && !l.isEmpty then (l, 0) else ([], 10)
  | none => ([], 10))
 else ([], 2)
theorem qg8 : ∀ {l : List Tm} {cs : List Cl}, seqC l = some cs → cs.length = l.length
 | [], cs, h => by cases h; rfl
 | t :: l, cs, h => by
  rw [seqC] at h
  obtain ⟨c, _, h⟩ := qyJ.1 h
  obtain ⟨r, hr, rfl⟩ := qyO.1 h
  simp [qg8 hr]
noncomputable instance tmEq : DecidableEq Tm := fun _ _ => Classical.propDecidable _
mutual
/-- bindings with which a pattern matches a term -/
noncomputable def xU : Tm → Tm → List (Int × Tm) → Option (List (Int × Tm))
 | .mk k n s l, t, m =>
  if k = 2 then
   (if s = [95] then some m else match varG s with
    | none => if Tm.mk k n s l = t then some m else none
    | some v => match qP v m with
     | some x => if x = t then some m else none
     | none => some (m ++ [(v, t)]))
  else if k = 7 ∨ k = 9 then (if t.kind ≠ k ∨ t.subs.length ≠ l.length then none else xC l t.subs m)
  else if Tm.mk k n s l = t then some m else none
noncomputable def xC : List Tm → List Tm → List (Int × Tm) → Option (List (Int × Tm))
 | p :: l, t :: l', m => (xU p t m).bind fun m' => xC l l' m'
 | _, _, m => some m
end
def vN (m : List (Int × Tm)) : List (Int × Tm) := (qzn 100).filterMap fun n => (qP (n : Nat) m).map fun t => ((n : Int), t)
noncomputable def yk (p t : Tm) : Option (List (Int × Tm)) := if p.chk = 0 ∧ t.chk = 0 then (xU p t []).map vN else none
def qq0 : Tm := symT [69, 88, 73, 84]
def zI (e : Env) (out : Tm) : List Tm → Tm
 | [] => out
 | x :: l => if (vO e x).2 = 0 then zI e (vO e x).1 l else qq0
noncomputable def zW (c : Cl) (o : Tm) (self : Int) : Option Tm :=
 match yk c.head o with
 | none => none
 | some b => if qbN ⟨o, b, self⟩ c.gs then some (zI ⟨o, b, self⟩ qX c.bs) else none
noncomputable def yc (o : Tm) (self : Int) : List Cl → Int → Int × Tm
 | [], _ => (0, qX)
 | c :: l, i => match zW c o self with | some x => (i + 1, x) | none => yc o self l (i + 1)
noncomputable def vG (t o : Tm) (self : Int) : Int × Tm × Int :=
 if (clsG t).2 ≠ 0 then (0, qX, (clsG t).2)
 else if o.kind ≠ 7 ∨ o.chk ≠ 0 ∨ self < 1 ∨ self > 1073741824 then (0, qX, 2)
 else ((yc o self (clsG t).1 0).1, (yc o self (clsG t).1 0).2, 0)
def clT (c : Cl) : Tm := tupT [c.head, qO c.gs, qO c.bs]
def selT (l : List Cl) : Tm := qO (l.map clT)
def ofG (l : List Cl) : Tm × Int := if (clsG (selT l)).2 = 0 then (selT l, 0) else (qX, (clsG (selT l)).2)
end Go.Av
end
section
namespace Go.Proofs.YtkgkjngbfdnoiaaGreat
open Go.Av
noncomputable def qxL : Den := evC cfg (EV cfg) 257 none 7 (sub (qe Tryz.f257) [0, 0, 0])
noncomputable def qyt : Ex × List AV × AH → Option AV := kAft (Cfg.keepOut cfg 257 (qq (sub (qe Tryz.f257) [0, 0, 0]))) (vF 0 (kSeq (fun (fr : List AV) (H : AH) => vK (Cfg.cut cfg 257 (qq (sub (qe Tryz.f257) [1]))) fr H fun (fr : List AV) (H : AH) => qT cfg (EV cfg) (kfN cfg (5)) 55 none 7 (sub (qe Tryz.f257) [1]) fr H (xa cfg (Cfg.lift cfg 257 0) (fun (v : AV) (H : AH) => (fun (r : AV × AH) => xM 0 6 (fx 18 [(4, AV.ptr 1 0 0), (5, AV.ptr 2 0 0)]) (vF 0 (kSeq (fun (fr : List AV) (H : AH) => vK (Cfg.cut cfg 260 (qq (sub (qe Tryz.f260) [1, 1, 1, 1]))) fr H fun (fr : List AV) (H : AH) => qT cfg (EV cfg) (kfN cfg 6) 260 none 0 (sub (qe Tryz.f260) [1, 1, 1, 1]) fr H (vp cfg (Cfg.lift cfg 260 0) (qze (Func.results Tryz.f260)))) (vp cfg (Cfg.lift cfg 260 0) (qze (Func.results Tryz.f260))))) (Prod.snd r)) (v, H)) (qze (Func.results (Prod.snd (257, Tryz.f257)))))) (xa cfg (Cfg.lift cfg 257 0) (fun (v : AV) (H : AH) => (fun (r : AV × AH) => xM 0 6 (fx 18 [(4, AV.ptr 1 0 0), (5, AV.ptr 2 0 0)]) (vF 0 (kSeq (fun (fr : List AV) (H : AH) => vK (Cfg.cut cfg 260 (qq (sub (qe Tryz.f260) [1, 1, 1, 1]))) fr H fun (fr : List AV) (H : AH) => qT cfg (EV cfg) (kfN cfg 6) 260 none 0 (sub (qe Tryz.f260) [1, 1, 1, 1]) fr H (vp cfg (Cfg.lift cfg 260 0) (qze (Func.results Tryz.f260)))) (vp cfg (Cfg.lift cfg 260 0) (qze (Func.results Tryz.f260))))) (Prod.snd r)) (v, H)) (qze (Func.results (Prod.snd (257, Tryz.f257)))))))
noncomputable def qsL : List AV × AH → Option AV := fun (p : List AV × AH) => kOpt (LOOP 7 (some [0, 1, 2]) [] qxL p) qyt
noncomputable abbrev qlJ (c0_0 c0_1 : Int) (c0_2 : Bz) (c0_3 : Rz) (nc1_0 : Nat) (c2_0 : Bool) (c3_0 c3_1 : Int) (c3_2 : Bz) (c3_3 h5 : Rz) : Option (AV) := qsL  (((fx 23 [(0, .yld 6), (1, .ptr 3 0 0), (2, .ptr 4 0 0)]) : List AV), ([.rows false 4 [[.int .i64 c0_0, .int .i64 c0_1, .str c0_2, .sl c0_3]], .rows false 1 [[.ms 5 0 nc1_0]], .rows false 1 [[.bool c2_0]], .rows false 4 [[.int .i64 c3_0, .int .i64 c3_1, .str c3_2, .sl c3_3]], .rows false 1 [[.ptr 2 0 0]], .rows true 4 h5, rngB Tryz.f260 260 [1, 1, 1, 0, 1, 0] (fx 18 [(4, .ptr 1 0 0)]) none LoopState.ready] : AH))
noncomputable abbrev qjt (c0_0 c0_1 : Int) (c0_2 : Bz) (c0_3 : Rz) (nc1_0 : Nat) (c2_0 : Bool) (c3_0 c3_1 : Int) (c3_2 : Bz) (c3_3 h7 : Rz) : Option (AV) := qsL  (((fx 23 [(0, .yld 6), (1, .ptr 3 0 0), (2, .ptr 4 0 0)]) : List AV), ([.rows false 4 [[.int .i64 c0_0, .int .i64 c0_1, .str c0_2, .sl c0_3]], .rows false 1 [[.ms 7 0 nc1_0]], .rows false 1 [[.bool c2_0]], .rows false 4 [[.int .i64 c3_0, .int .i64 c3_1, .str c3_2, .sl c3_3]], .rows false 1 [[.ptr 2 0 0]], .dead, rngB Tryz.f260 260 [1, 1, 1, 0, 1, 0] (fx 18 [(4, .ptr 1 0 0)]) none LoopState.ready, .rows true 4 h7] : AH))
theorem qqk (kt nt : Int) (st : Bz) (lt : Rz) {P : AV → Prop} (h : Gets (bif kt == 2 then bif st == [(95 : UInt8)] then kOpt (EVs (EV cfg) 208 [.agg [.int .i64 kt, .int .i64 nt, .str st, .sl lt]]) fun v => qf v fun b => some (.bool b) else some (.bool false) else some (.bool false)) P) : Gets (EVs (EV cfg) 271 [.agg [.int .i64 kt, .int .i64 nt, .str st, .sl lt]]) P :=
  gE (fun _ => funS rfl rfl Tryz.func271 rfl) (by kernel_rfl) h
theorem qpN (kt nt : Int) (st : Bz) (lt : Rz) {P : AV → Prop} (h : Gets (kOpt (EVs (EV cfg) 153 [.agg [.int .i64 kt, .int .i64 nt, .str st, .sl lt]]) fun v => kTup v fun cs => qa cs fun c cs => kInt .i64 c fun n => qa cs fun c cs => qf c fun b => kNil cs (bif b then some (.bool true) else bif kt == 7 then some (.bool true) else kOpt (EVs (EV cfg) 271 [.agg [.int .i64 kt, .int .i64 nt, .str st, .sl lt]]) fun v => qf v fun b => some (.bool b))) P) : Gets (EVs (EV cfg) 258 [.agg [.int .i64 kt, .int .i64 nt, .str st, .sl lt]]) P :=
  gE (fun _ => funS rfl rfl Tryz.func258 rfl) (by kernel_rfl) h
theorem qpM (kt nt : Int) (st : Bz) (lt : Rz) {P : AV → Prop} (h : Gets (qlJ kt nt st lt 0 false kt nt st lt []) P) : Gets (EVf (EV cfg) 260 [.agg [.int .i64 kt, .int .i64 nt, .str st, .sl lt]]) P :=
  gE (fun _ => funF rfl rfl Tryz.func260 rfl) (by kernel_rfl) h
theorem qnK (kt nt : Int) (st : Bz) (lt : Rz) {P : AV → Prop} (h : Gets (kOpt (EVq (EV cfg) 103 [.agg [.int .i64 kt, .int .i64 nt, .str st, .sl lt]]) fun q => kInt .i64 q.2 fun n => kOwn q.1 (some (.int .i64 n)) fun sz rs off len => some (.int .i64 n)) P) : Gets (EVs (EV cfg) 36 [.agg [.int .i64 kt, .int .i64 nt, .str st, .sl lt]]) P :=
  gE (fun _ => funS rfl rfl Tryz.func36 rfl) (by kernel_rfl) h
theorem qmp (kt nt : Int) (st : Bz) (lt : Rz) (ko no : Int) (so : Bz) (lo : Rz) {P : AV → Prop} (h : Gets (kOpt (EVf (EV cfg) 297 [.agg [.int .i64 kt, .int .i64 nt, .str st, .sl lt], .agg [.int .i64 ko, .int .i64 no, .str so, .sl lo], .sl []]) fun v => kTup v fun cs => qa cs fun c cs => kSl c fun rows => qa cs fun c cs => qf c fun b => kNil cs (some (AV.tup [.sl rows, .bool b]))) P) : Gets (EVf (EV cfg) 252 [.agg [.int .i64 kt, .int .i64 nt, .str st, .sl lt], .agg [.int .i64 ko, .int .i64 no, .str so, .sl lo]]) P :=
  gE (fun _ => funF rfl rfl Tryz.func252 rfl) (by kernel_rfl) h
noncomputable abbrev zt6 (nc1_0 : Nat) (h5 c3_3 : Rz) (c0_0 c0_1 : Int) (c0_2 : Bz) (c0_3 : Rz) (c2_0 : Bool) (n n_1 : Int) (s : Bz) (rows : Rz) : Option (AV) := (bif qyQ (0 + nc1_0) (qyH h5) && qN (nc1_0 + 1) 56 then bif qh 0 (↑ nc1_0 : Int) && qg (↑ nc1_0 : Int) (↑ (nc1_0 + 1) : Int) then kOpt (qyG (qy4 (qyM nc1_0 h5) [[AV.int .i64 0, .int .i64 (0 : Int), .str [], .nilS]]) (0 + qyY (↑ nc1_0 : Int))) fun row => bif qyQ 4 (qyH row) then bif qg 1 (c3_3.length : Int) then kOpt (qyG c3_3 1) fun row_1 => bif qyW (qyH row_1) 4 then bif qyQ 4 (qyH row_1) then kTmC (qyM 4 row_1) fun n_2 n_3 s_1 rows_1 => (qjt c0_0 c0_1 c0_2 c0_3 (nc1_0 + 1) c2_0 n_2 n_3 s_1 rows_1 (List.set (qy4 (qyM nc1_0 h5) [[AV.int .i64 0, .int .i64 0, .str [], .nilS]]) (0 + qyY (↑ nc1_0 : Int)) (.int .i64 n :: .int .i64 n_1 :: .str s :: .sl rows :: qzj 4 row))) else none else none else none else none else none else none)
noncomputable abbrev zt5 (row : List AV) (nc1_0 : Nat) (h5 c3_3 : Rz) (c0_0 c0_1 : Int) (c0_2 : Bz) (c0_3 : Rz) (c2_0 : Bool) : Option (AV) := kTmC (qyM 4 row) fun n n_1 s rows => zt6 nc1_0 h5 c3_3 c0_0 c0_1 c0_2 c0_3 c2_0 n n_1 s rows
noncomputable abbrev zt4 (row : List AV) (nc1_0 : Nat) (h5 c3_3 : Rz) (c0_0 c0_1 : Int) (c0_2 : Bz) (c0_3 : Rz) (c2_0 : Bool) : Option (AV) := bif qyQ 4 (qyH row) then zt5 row nc1_0 h5 c3_3 c0_0 c0_1 c0_2 c0_3 c2_0 else none
noncomputable abbrev zt3 (row : List AV) (nc1_0 : Nat) (h5 c3_3 : Rz) (c0_0 c0_1 : Int) (c0_2 : Bz) (c0_3 : Rz) (c2_0 : Bool) : Option (AV) := bif qyW (qyH row) 4 then zt4 row nc1_0 h5 c3_3 c0_0 c0_1 c0_2 c0_3 c2_0 else none
noncomputable abbrev zt2 (c3_3 : Rz) (nc1_0 : Nat) (h5 : Rz) (c0_0 c0_1 : Int) (c0_2 : Bz) (c0_3 : Rz) (c2_0 : Bool) : Option (AV) := kOpt (qyG c3_3 0) fun row => zt3 row nc1_0 h5 c3_3 c0_0 c0_1 c0_2 c0_3 c2_0
noncomputable abbrev zt1 (c3_3 : Rz) (nc1_0 : Nat) (h5 : Rz) (c0_0 c0_1 : Int) (c0_2 : Bz) (c0_3 : Rz) (c2_0 : Bool) : Option (AV) := bif qg 0 (c3_3.length : Int) then zt2 c3_3 nc1_0 h5 c0_0 c0_1 c0_2 c0_3 c2_0 else none
noncomputable abbrev zt0 (c3_0 : Int) (c3_3 : Rz) (nc1_0 : Nat) (h5 : Rz) (c0_0 c0_1 : Int) (c0_2 : Bz) (c0_3 : Rz) (c2_0 : Bool) : Option (AV) := bif c3_0 == 9 then zt1 c3_3 nc1_0 h5 c0_0 c0_1 c0_2 c0_3 c2_0 else bif qyQ (0 + nc1_0) (qyH h5) && true then some (AV.tup [.sl (qyM nc1_0 h5), .bool (c3_0 == 8)]) else none
theorem qnA (c0_0 c0_1 : Int) (c0_2 : Bz) (c0_3 : Rz) (nc1_0 : Nat) (c2_0 : Bool) (c3_0 c3_1 : Int) (c3_2 : Bz) (c3_3 h5 : Rz) {P : AV → Prop} (h : Gets (zt0 c3_0 c3_3 nc1_0 h5 c0_0 c0_1 c0_2 c0_3 c2_0) P) : Gets (qlJ c0_0 c0_1 c0_2 c0_3 nc1_0 c2_0 c3_0 c3_1 c3_2 c3_3 h5) P :=
  gE (fun _ => qn (cfg := cfg) (f := 257) (rd := none) (bs := 7)) (by kernel_rfl) h
theorem qlI (c0_0 c0_1 : Int) (c0_2 : Bz) (c0_3 : Rz) (nc1_0 : Nat) (c2_0 : Bool) (c3_0 c3_1 : Int) (c3_2 : Bz) (c3_3 h7 : Rz) {P : AV → Prop} (h : Gets (zt0 c3_0 c3_3 nc1_0 h7 c0_0 c0_1 c0_2 c0_3 c2_0) P) : Gets (qjt c0_0 c0_1 c0_2 c0_3 nc1_0 c2_0 c3_0 c3_1 c3_2 c3_3 h7) P :=
  gE (fun _ => qn (cfg := cfg) (f := 257) (rd := none) (bs := 7)) (by kernel_rfl) h
end Go.Proofs.YtkgkjngbfdnoiaaGreat
end
section
namespace Go.Av
def lsR (r : List Tm × Bool) : AV := .tup [.sl (qb r.1), .bool r.2]
end Go.Av
namespace Go.Proofs.YtkgkjngbfdnoiaaGreat
open Go.Av
theorem qrQ {t : Tm} (h : t.w < 1099511627776) : EVs (EV cfg) 271 [t.av] = some (.bool (anyT t)) := by
 have hm := zP h
 apply Gets.get
 rw [Tm.av, Tm.cells_eq] at hm ⊢
 refine qqk _ _ _ _ ?_
 rw [hm]
 simp only [beqI, beqS, qc, qk]
 unfold anyT
 cases decide (t.kind = 2) <;> cases decide (t.str = [95]) <;> exact ⟨_, rfl, rfl⟩
theorem qrt {t : Tm} (h : t.w < 1099511627776) : EVs (EV cfg) 258 [t.av] = some (.bool (qaf t)) := by
 have hv := qeK h
 have ha := qrQ h
 apply Gets.get
 rw [Tm.av, Tm.cells_eq] at hv ha ⊢
 refine qpN _ _ _ _ ?_
 rw [hv, ha]
 unfold qaf varR
 simp only [beqI, qc, qk, kTup, qa, qm, kNil]
 cases (varT t).isSome <;> cases decide (t.kind = 7) <;> exact ⟨_, rfl, rfl⟩
theorem qlQ {c : Tm} {b : Bool} : ∀ (n : Nat) (t : Tm) (acc : List Tm), t.w ≤ n → t.chk = 0 → acc.length + n < 1099511627776 → Gets (qjt c.kind c.num c.str (qb c.subs) acc.length b t.kind t.num t.str (qb t.subs) (qb acc)) (· = lsR (acc ++ (qC t).1, (qC t).2)) := by
 intro n
 induction n with
 | zero => intro t acc h; have := vH t; omega
 | succ n ih =>
  intro t acc hw hc hn
  refine qlI _ _ _ _ _ _ _ _ _ _ _ ?_
  unfold zt0 zt1 zt2 zt3 zt4 zt5 zt6
  rw [beqI, beqI]
  by_cases h9 : t.kind = 9
  ·obtain ⟨x, y, hs⟩ := yd hc h9
   have hwe := t.w_eq
   rw [hs] at hwe
   simp only [qV, vQ] at hwe
   have h := ih y (acc ++ [x]) (by omega) (qZ hc (by rw [hs]; simp)) (by simp; omega)
   have e1 : qyQ (0 + acc.length) (qb acc).length = true := by rw [qy9, qd]; omega
   have e2 : qyM acc.length (qb acc) = qb acc := qyP (by simp)
   have e3 : qg (acc.length : Int) ((acc.length + 1 : Nat) : Int) = true := decide_eq_true (by omega)
   have e4 : (qy4 (qb acc) [[AV.int .i64 0, .int .i64 0, .str [], .nilS]])[0 + qyY (acc.length : Int)]? = some [AV.int .i64 0, .int .i64 0, .str [], .nilS] := by
    rw [qy3, Nat.zero_add]
    have := qhm (qb acc) [AV.int .i64 0, .int .i64 0, .str [], .nilS]
    rw [qd] at this
    exact this
   have e5 : List.set (qy4 (qb acc) [[AV.int .i64 0, .int .i64 0, .str [], .nilS]]) (0 + qyY (acc.length : Int)) x.cells = qb (acc ++ [x]) := by
    rw [qy3, Nat.zero_add]
    have := qhl (qb acc) [AV.int .i64 0, .int .i64 0, .str [], .nilS] x.cells
    rw [qd] at this
    rw [q8, qy, qI]
    exact this
   rw [decide_eq_true h9, cond_true, hs, lt0T, yP, lt1T, ys, e1, e2, yb (by omega), qw, e3, ql, e4]
   simp only [cond_true, qy2, qc, qi, qy1, qp, qt, vw, qzc, List.length_nil, show qyQ 4 (0 + 1 + 1 + 1 + 1) = true from rfl, List.drop_succ_cons, qzk]
   rw [← Tm.cells_eq, e5, xo h9 hs]
   rw [qy6] at h
   refine Gets.mono h ?_
   rintro _ rfl
   simp [lsR]
  ·have e1 : qyQ (0 + acc.length) (qb acc).length = true := by rw [qy9, qd]; omega
   have e2 : qyM acc.length (qb acc) = qb acc := qyP (by simp)
   rw [decide_eq_false h9, cond_false, e1, e2, yl h9]
   exact ⟨_, rfl, by simp [lsR]⟩
theorem qnJ {c : Tm} {b : Bool} : ∀ (n : Nat) (t : Tm) (acc : List Tm), t.w ≤ n → t.chk = 0 → acc.length + n < 1099511627776 → Gets (qlJ c.kind c.num c.str (qb c.subs) acc.length b t.kind t.num t.str (qb t.subs) (qb acc)) (· = lsR (acc ++ (qC t).1, (qC t).2)) := by
 intro n
 induction n with
 | zero => intro t acc h; have := vH t; omega
 | succ n ih =>
  intro t acc hw hc hn
  refine qnA _ _ _ _ _ _ _ _ _ _ _ ?_
  unfold zt0 zt1 zt2 zt3 zt4 zt5 zt6
  rw [beqI, beqI]
  by_cases h9 : t.kind = 9
  ·obtain ⟨x, y, hs⟩ := yd hc h9
   have hwe := t.w_eq
   rw [hs] at hwe
   simp only [qV, vQ] at hwe
   have h := qlQ (c := c) (b := b) n y (acc ++ [x]) (by omega) (qZ hc (by rw [hs]; simp)) (by simp; omega)
   have e1 : qyQ (0 + acc.length) (qb acc).length = true := by rw [qy9, qd]; omega
   have e2 : qyM acc.length (qb acc) = qb acc := qyP (by simp)
   have e3 : qg (acc.length : Int) ((acc.length + 1 : Nat) : Int) = true := decide_eq_true (by omega)
   have e4 : (qy4 (qb acc) [[AV.int .i64 0, .int .i64 0, .str [], .nilS]])[0 + qyY (acc.length : Int)]? = some [AV.int .i64 0, .int .i64 0, .str [], .nilS] := by
    rw [qy3, Nat.zero_add]
    have := qhm (qb acc) [AV.int .i64 0, .int .i64 0, .str [], .nilS]
    rw [qd] at this
    exact this
   have e5 : List.set (qy4 (qb acc) [[AV.int .i64 0, .int .i64 0, .str [], .nilS]]) (0 + qyY (acc.length : Int)) x.cells = qb (acc ++ [x]) := by
    rw [qy3, Nat.zero_add]
    have := qhl (qb acc) [AV.int .i64 0, .int .i64 0, .str [], .nilS] x.cells
    rw [qd] at this
    rw [q8, qy, qI]
    exact this
   rw [decide_eq_true h9, cond_true, hs, lt0T, yP, lt1T, ys, e1, e2, yb (by omega), qw, e3, ql, e4]
   simp only [cond_true, qy2, qc, qi, qy1, qp, qt, vw, qzc, List.length_nil, show qyQ 4 (0 + 1 + 1 + 1 + 1) = true from rfl, List.drop_succ_cons, qzk]
   rw [← Tm.cells_eq, e5, xo h9 hs]
   rw [qy6] at h
   refine Gets.mono h ?_
   rintro _ rfl
   simp [lsR]
  ·have e1 : qyQ (0 + acc.length) (qb acc).length = true := by rw [qy9, qd]; omega
   have e2 : qyM acc.length (qb acc) = qb acc := qyP (by simp)
   rw [decide_eq_false h9, cond_false, e1, e2, yl h9]
   exact ⟨_, rfl, by simp [lsR]⟩
theorem qke {t : Tm} (hc : t.chk = 0) : EVf (EV cfg) 260 [t.av] = some (lsR (qC t)) := by
 apply Gets.get
 rw [Tm.av, Tm.cells_eq]
 refine qpM _ _ _ _ ?_
 have hw := vj hc
 have h := qnJ (c := t) (b := false) t.w t [] (qyN _) hc (by simp; omega)
 rw [qI] at h
 exact h
noncomputable def qxC : Den := evC cfg (EV cfg) 274 none 4 (sub (qe Tryz.f274) [0, 1, 1, 0, 0])
noncomputable def qyk : Ex × List AV × AH → Option AV := kAft (Cfg.keepOut cfg 274 (qq (sub (qe Tryz.f274) [0, 1, 1, 0, 0]))) (vF 0 (qcU (xa cfg (Cfg.lift cfg 274 0) (fun (v : AV) (H : AH) => (fun (r : AV × AH) => xM 0 3 (fx 40 [(3, AV.ptr 1 0 0)]) (vF 0 (kSeq (fun (fr : List AV) (H : AH) => vK (Cfg.cut cfg 259 (qq (sub (qe Tryz.f259) [1, 1, 1, 1]))) fr H fun (fr : List AV) (H : AH) => qT cfg (EV cfg) (kfN cfg 6) 259 none 0 (sub (qe Tryz.f259) [1, 1, 1, 1]) fr H (vp cfg (Cfg.lift cfg 259 0) (qze (Func.results Tryz.f259)))) (vp cfg (Cfg.lift cfg 259 0) (qze (Func.results Tryz.f259))))) (Prod.snd r)) (v, H)) (qze (Func.results (Prod.snd (274, Tryz.f274)))))))
noncomputable def qsG : List AV × AH → Option AV := fun (p : List AV × AH) => kOpt (LOOP 4 (some [0, 3]) [(3, 4)] qxC p) qyk
noncomputable def qxB : Den := evC cfg (EV cfg) 259 none 0 (sub (qe Tryz.f259) [1, 1, 1, 1, 1, 0, 1, 0, 0])
noncomputable def qyj : Ex × List AV × AH → Option AV := kAft (Cfg.keepOut cfg 259 11) (kRun cfg (EV cfg) (kfN cfg 6) 259 none 0 (vp cfg (Cfg.lift cfg 259 0) Tryz.f259.results.toList) ([.block 2, .seq (sub (qe Tryz.f259) [1, 1, 1, 1, 1, 1])]))
noncomputable def qsF : List AV × AH → Option AV := fun p => kOpt (LOOP 0 (some [3, 7, 29]) ([(7, 1)]) qxB p) qyj
noncomputable abbrev zV (nv3 : Nat) (c0_0 c0_1 : Int) (c0_2 : Bz) (c0_3 : Rz) (c1_0 c1_1 c2_0 c2_1 : Int) (c2_2 : Bz) (c2_3 h4 : Rz) : Option (AV) := qsG  (((fx 37 [(0, .yld 3), (3, .ms 4 0 nv3)]) : List AV), ([.rows false 4 [[.int .i64 c0_0, .int .i64 c0_1, .str c0_2, .sl c0_3]], .rows false 2 [[.int .u64 c1_0, .int .u64 c1_1]], .rows false 4 [[.int .i64 c2_0, .int .i64 c2_1, .str c2_2, .sl c2_3]], rngB Tryz.f259 259 [1, 1, 1, 0, 1, 0] (fx 40 [(3, .ptr 1 0 0)]) none LoopState.ready, .rows true 4 h4] : AH))
noncomputable abbrev y3 (nv3 : Nat) (c0_0 c0_1 : Int) (c0_2 : Bz) (c0_3 h1 : Rz) (c2_0 c2_1 : Int) (c2_2 : Bz) (c2_3 h4 : Rz) : Option (AV) := qsG  (((fx 37 [(0, .yld 3), (3, .ms 4 0 nv3)]) : List AV), ([.rows false 4 [[.int .i64 c0_0, .int .i64 c0_1, .str c0_2, .sl c0_3]], .rows true 2 h1, .rows false 4 [[.int .i64 c2_0, .int .i64 c2_1, .str c2_2, .sl c2_3]], rngB Tryz.f259 259 [1, 1, 1, 0, 1, 0] (fx 40 [(3, .ptr 1 0 0)]) none LoopState.ready, .rows true 4 h4] : AH))
noncomputable abbrev qcK (nv7 : Nat) (v29 c0_0 c0_1 : Int) (h1 : Rz) : Option (AV) := qsF  (((fx 40 [(3, .ptr 0 0 0), (7, .ms 1 0 nv7), (29, .int .i64 v29)]) : List AV), ([.rows false 2 [[.int .u64 c0_0, .int .u64 c0_1]], .rows true 1 h1] : AH))
noncomputable abbrev qbs (nv7 : Nat) (v29 : Int) (h0 h1 : Rz) : Option (AV) := qsF  (((fx 40 [(3, .ptr 0 0 0), (7, .ms 1 0 nv7), (29, .int .i64 v29)]) : List AV), ([.rows true 2 h0, .rows true 1 h1] : AH))
theorem qgz (n : Int) (r : List AV) {P : MV × List (List AV) → Prop} (h : Gets (bif decide (n < 64) then kOpt (qyG r 0) fun v => kInt .u64 v fun n_1 => kOpt (qA (Op.shift BinOp.shl .u64 1 .i64 n)) fun v => kInt .u64 v fun n => kOpt (qA (Op.intBits BinOp.or .u64 n_1 n)) fun v => kInt .u64 v fun n => bif qyQ 1 (qyH r) then some (MV.unit, [AV.int .u64 n :: qzj 1 r]) else none else kOpt (qyG r 1) fun v => kInt .u64 v fun n_1 => kOpt (qA (Op.shift BinOp.shl .u64 1 .i64 (IntKind.wrap .i64 (n - 64)))) fun v => kInt .u64 v fun n => kOpt (qA (Op.intBits BinOp.or .u64 n_1 n)) fun v => kInt .u64 v fun n => bif qyQ 2 (qyH r) then some (MV.unit, [qy4 (qy4 (qyM 1 r) [AV.int .u64 n]) (qzj 2 r)]) else none) P) : Gets (EVm (EV cfg) 291 [.ptr 0 0 0, .int .i64 n] 2 [r]) P :=
  gE (fun _ => funM rfl rfl Tryz.func291 rfl) (by kernel_rfl) h
theorem qof (kp np : Int) (sp : Bz) (lp : Rz) {P : AV → Prop} (h : Gets (kOpt (EVs (EV cfg) 208 [.agg [.int .i64 kp, .int .i64 np, .str sp, .sl lp]]) fun v => qf v fun b => bif ! b then some (.sl []) else zV 1 kp np sp lp 0 (0 : Int) kp np sp lp [[AV.int .i64 kp, .int .i64 np, .str sp, .sl lp]]) P) : Gets (EVf (EV cfg) 259 [.agg [.int .i64 kp, .int .i64 np, .str sp, .sl lp]]) P :=
  gE (fun _ => funF rfl rfl Tryz.func259 rfl) (by kernel_rfl) h
theorem qcm (nv3 : Nat) (c0_0 c0_1 : Int) (c0_2 : Bz) (c0_3 : Rz) (c1_0 c1_1 c2_0 c2_1 : Int) (c2_2 : Bz) (c2_3 h4 : Rz) {P : AV → Prop} (h : Gets (bif decide ((↑ nv3 : Int) > 0) then bif qh 0 (IntKind.wrap .i64 ((↑ nv3 : Int) - 1)) && qg (IntKind.wrap .i64 ((↑ nv3 : Int) - 1)) (↑ nv3 : Int) then kOpt (qyG h4 (0 + qyY (IntKind.wrap .i64 ((↑ nv3 : Int) - 1)))) fun row => bif qyQ 4 (qyH row) then kTmC (qyM 4 row) fun n n_1 s rows => (bif qh 0 (IntKind.wrap .i64 ((↑ nv3 : Int) - 1)) && qh (IntKind.wrap .i64 ((↑ nv3 : Int) - 1)) (↑ nv3 : Int) then bif n == 7 then bif ve 4 rows then bif qyQ (0 + (qyY (IntKind.wrap .i64 ((↑ nv3 : Int) - 1)) - 0)) (qyH h4) && qN (qyY (IntKind.wrap .i64 ((↑ nv3 : Int) - 1)) - 0 + qyH rows) 56 then zV (qyY (IntKind.wrap .i64 ((↑ nv3 : Int) - 1)) - 0 + qyH rows) c0_0 c0_1 c0_2 c0_3 c1_0 c1_1 c2_0 c2_1 c2_2 c2_3 (qy4 (qyM (qyY (IntKind.wrap .i64 ((↑ nv3 : Int) - 1)) - 0) h4) rows) else none else none else bif n == 9 then bif ve 4 rows then bif qyQ (0 + (qyY (IntKind.wrap .i64 ((↑ nv3 : Int) - 1)) - 0)) (qyH h4) && qN (qyY (IntKind.wrap .i64 ((↑ nv3 : Int) - 1)) - 0 + qyH rows) 56 then zV (qyY (IntKind.wrap .i64 ((↑ nv3 : Int) - 1)) - 0 + qyH rows) c0_0 c0_1 c0_2 c0_3 c1_0 c1_1 c2_0 c2_1 c2_2 c2_3 (qy4 (qyM (qyY (IntKind.wrap .i64 ((↑ nv3 : Int) - 1)) - 0) h4) rows) else none else none else kOpt (EVs (EV cfg) 210 [.str s]) fun v => kTup v fun cs => qa cs fun c cs => kInt .i64 c fun n_2 => qa cs fun c cs => qf c fun b => kNil cs (bif b then bif n == 2 then kOpt (EVm (EV cfg) 291 [.ptr 0 0 0, .int .i64 n_2] 2 [[AV.int .u64 c1_0, .int .u64 c1_1]]) fun q => zB q.1 (y3 (qyY (IntKind.wrap .i64 ((↑ nv3 : Int) - 1)) - 0) c0_0 c0_1 c0_2 c0_3 q.2 c2_0 c2_1 c2_2 c2_3 h4) else zV (qyY (IntKind.wrap .i64 ((↑ nv3 : Int) - 1)) - 0) c0_0 c0_1 c0_2 c0_3 c1_0 c1_1 c2_0 c2_1 c2_2 c2_3 h4 else zV (qyY (IntKind.wrap .i64 ((↑ nv3 : Int) - 1)) - 0) c0_0 c0_1 c0_2 c0_3 c1_0 c1_1 c2_0 c2_1 c2_2 c2_3 h4) else none) else none else none else qcK 0 0 c1_0 c1_1 []) P) : Gets (zV nv3 c0_0 c0_1 c0_2 c0_3 c1_0 c1_1 c2_0 c2_1 c2_2 c2_3 h4) P :=
  gE (fun _ => qn (cfg := cfg) (f := 274) (rd := none) (bs := 4)) (by kernel_rfl) h
theorem qby (nv3 : Nat) (c0_0 c0_1 : Int) (c0_2 : Bz) (c0_3 h1 : Rz) (c2_0 c2_1 : Int) (c2_2 : Bz) (c2_3 h4 : Rz) {P : AV → Prop} (h : Gets (bif decide ((↑ nv3 : Int) > 0) then bif qh 0 (IntKind.wrap .i64 ((↑ nv3 : Int) - 1)) && qg (IntKind.wrap .i64 ((↑ nv3 : Int) - 1)) (↑ nv3 : Int) then kOpt (qyG h4 (0 + qyY (IntKind.wrap .i64 ((↑ nv3 : Int) - 1)))) fun row => bif qyQ 4 (qyH row) then kTmC (qyM 4 row) fun n n_1 s rows => (bif qh 0 (IntKind.wrap .i64 ((↑ nv3 : Int) - 1)) && qh (IntKind.wrap .i64 ((↑ nv3 : Int) - 1)) (↑ nv3 : Int) then bif n == 7 then bif ve 4 rows then bif qyQ (0 + (qyY (IntKind.wrap .i64 ((↑ nv3 : Int) - 1)) - 0)) (qyH h4) && qN (qyY (IntKind.wrap .i64 ((↑ nv3 : Int) - 1)) - 0 + qyH rows) 56 then y3 (qyY (IntKind.wrap .i64 ((↑ nv3 : Int) - 1)) - 0 + qyH rows) c0_0 c0_1 c0_2 c0_3 h1 c2_0 c2_1 c2_2 c2_3 (qy4 (qyM (qyY (IntKind.wrap .i64 ((↑ nv3 : Int) - 1)) - 0) h4) rows) else none else none else bif n == 9 then bif ve 4 rows then bif qyQ (0 + (qyY (IntKind.wrap .i64 ((↑ nv3 : Int) - 1)) - 0)) (qyH h4) && qN (qyY (IntKind.wrap .i64 ((↑ nv3 : Int) - 1)) - 0 + qyH rows) 56 then y3 (qyY (IntKind.wrap .i64 ((↑ nv3 : Int) - 1)) - 0 + qyH rows) c0_0 c0_1 c0_2 c0_3 h1 c2_0 c2_1 c2_2 c2_3 (qy4 (qyM (qyY (IntKind.wrap .i64 ((↑ nv3 : Int) - 1)) - 0) h4) rows) else none else none else kOpt (EVs (EV cfg) 210 [.str s]) fun v => kTup v fun cs => qa cs fun c cs => kInt .i64 c fun n_2 => qa cs fun c cs => qf c fun b => kNil cs (bif b then bif n == 2 then kOpt (EVm (EV cfg) 291 [.ptr 0 0 0, .int .i64 n_2] 2 h1) fun q => zB q.1 (y3 (qyY (IntKind.wrap .i64 ((↑ nv3 : Int) - 1)) - 0) c0_0 c0_1 c0_2 c0_3 q.2 c2_0 c2_1 c2_2 c2_3 h4) else y3 (qyY (IntKind.wrap .i64 ((↑ nv3 : Int) - 1)) - 0) c0_0 c0_1 c0_2 c0_3 h1 c2_0 c2_1 c2_2 c2_3 h4 else y3 (qyY (IntKind.wrap .i64 ((↑ nv3 : Int) - 1)) - 0) c0_0 c0_1 c0_2 c0_3 h1 c2_0 c2_1 c2_2 c2_3 h4) else none) else none else none else qbs 0 0 h1 []) P) : Gets (y3 nv3 c0_0 c0_1 c0_2 c0_3 h1 c2_0 c2_1 c2_2 c2_3 h4) P :=
  gE (fun _ => qn (cfg := cfg) (f := 274) (rd := none) (bs := 4)) (by kernel_rfl) h
theorem qgn (nv7 : Nat) (v29 c0_0 c0_1 : Int) (h1 : Rz) {P : AV → Prop} (h : Gets (bif decide (v29 < 100) then kOpt (EVs (EV cfg) 232 [AV.cptr [AV.int .u64 c0_0, .int .u64 c0_1] 0, .int .i64 v29]) fun v => qf v fun b => bif b then bif qyQ (0 + nv7) (qyH h1) && qN (nv7 + 1) 8 then qcK (nv7 + 1) (IntKind.wrap .i64 (v29 + 1)) c0_0 c0_1 (qy4 (qyM nv7 h1) [[AV.int .i64 v29]]) else none else qcK nv7 (IntKind.wrap .i64 (v29 + 1)) c0_0 c0_1 h1 else bif qyQ (0 + nv7) (qyH h1) && true then some (.sl (qyM nv7 h1)) else none) P) : Gets (qcK nv7 v29 c0_0 c0_1 h1) P :=
  gE (fun _ => qn (cfg := cfg) (f := 259) (rd := none) (bs := 0)) (by kernel_rfl) h
theorem qel (nv7 : Nat) (v29 : Int) (h0 h1 : Rz) {P : AV → Prop} (h : Gets (bif decide (v29 < 100) then kOpt (qyG h0 0) fun row => bif qz 0 row then bif qz 0 [AV.cptr row 0, .int .i64 v29] then kOpt (EVs (EV cfg) 232 [AV.cptr row 0, .int .i64 v29]) fun v => qf v fun b => bif b then bif qyQ (0 + nv7) (qyH h1) && qN (nv7 + 1) 8 then qbs (nv7 + 1) (IntKind.wrap .i64 (v29 + 1)) h0 (qy4 (qyM nv7 h1) [[AV.int .i64 v29]]) else none else qbs nv7 (IntKind.wrap .i64 (v29 + 1)) h0 h1 else none else none else bif qyQ (0 + nv7) (qyH h1) && true then some (.sl (qyM nv7 h1)) else none) P) : Gets (qbs nv7 v29 h0 h1) P :=
  gE (fun _ => qn (cfg := cfg) (f := 259) (rd := none) (bs := 0)) (by kernel_rfl) h
end Go.Proofs.YtkgkjngbfdnoiaaGreat
end
section
namespace Go.Av
def yj (q : Nat → Bool) : AV := .sl (qx (((qzn 100).filter q).map Int.ofNat))
theorem zz : ∀ l : List Tm, l.length ≤ wL l
 | [] => qyN _
 | t :: l => by rw [qV, qzc]; have := vH t; have := zz l; omega
theorem qo6 : zC (fun _ => false) [.int .u64 0, .int .u64 0] := ⟨0, 0, [], rfl, by decide, by decide, fun n _ => Nat.zero_testBit n, fun n _ => Nat.zero_testBit n⟩
theorem qbZ (x : Tm) : ve 4 (qb x.subs) = true := zc _
end Go.Av
namespace Go.Proofs.YtkgkjngbfdnoiaaGreat
open Go.Av
theorem qh8 {p : Nat → Bool} {r : List AV} (h : zC p r) {n : Nat} (hn : n < 100) : ∃ r', EVm (EV cfg) 291 [.ptr 0 0 0, .int .i64 n] 2 [r] = some (.unit, [r']) ∧
  zC (fun i => p i || decide (i = n)) r' ∧ r'.drop 2 = r.drop 2 ∧ r'.length = r.length ∧ (qz 0 r = true → qz 0 r' = true) := by
 obtain ⟨lo, hi, l, rfl, h1, h2, h3, h4⟩ := h
 have pw : ∀ {k : Nat}, k < 64 → 2 ^ k < 18446744073709551616 := by
  intro k hk
  have : 2 ^ k < 2 ^ 64 := Nat.pow_lt_pow_right (by omega) hk
  simpa using this
 have orlt : ∀ {a b : Nat}, a < 18446744073709551616 → b < 18446744073709551616 → a ||| b < 18446744073709551616 := by
  intro a b ha hb
  have := Nat.or_lt_two_pow (n := 64) (by simpa using ha) (by simpa using hb)
  simpa using this
 have bit : ∀ {a k i : Nat}, (a ||| 2 ^ k).testBit i = (a.testBit i || decide (i = k)) := by
  intro a k i
  rw [Nat.testBit_or, Nat.testBit_two_pow]
  congr 1
  exact decide_eq_decide.2 ⟨fun h => h.symm, fun h => h.symm⟩
 by_cases hs : n < 64
 ·refine ⟨.int .u64 ((lo ||| 2 ^ n : Nat) : Int) :: .int .u64 hi :: l, ?_, ⟨_, hi, l, rfl, orlt h1 (pw hs), h2, fun i hi => ?_, fun i hi => ?_⟩, rfl, rfl, fun h => h⟩
  ·apply Gets.get
   refine qgz _ _ ?_
   rw [decide_eq_true (show (n : Int) < 64 by omega)]
   simp only [cond_true, ql, qy8, qc, qm, qfF hs, qfJ h1 (pw hs)]
   exact ⟨_, rfl, rfl⟩
  ·rw [bit, h3 i hi]
  ·have : decide (i + 64 = n) = false := decide_eq_false (by omega)
   rw [h4 i hi]
   show p (i + 64) = (p (i + 64) || decide (i + 64 = n))
   rw [this, Bool.or_false]
 ·obtain ⟨k, rfl⟩ : ∃ k, n = k + 64 := ⟨n - 64, by omega⟩
  have hk : k < 64 := by omega
  have w : IntKind.wrap .i64 (((k + 64 : Nat) : Int) - 64) = (k : Int) := by rw [qM (by omega) (by omega)]; omega
  refine ⟨.int .u64 lo :: .int .u64 ((hi ||| 2 ^ k : Nat) : Int) :: l, ?_, ⟨lo, _, l, rfl, h1, orlt h2 (pw hk), fun i hi => ?_, fun i hi => ?_⟩, rfl, rfl, fun h => h⟩
  ·apply Gets.get
   refine qgz _ _ ?_
   rw [decide_eq_false (show ¬ ((k + 64 : Nat) : Int) < 64 by omega), w]
   simp only [cond_false, ql, List.getElem?_cons_succ, qy8, qc, qm, qfF hk, qfJ h2 (pw hk)]
   exact ⟨_, rfl, rfl⟩
  ·have : decide (i = k + 64) = false := decide_eq_false (by omega)
   rw [h3 i hi]
   show p i = (p i || decide (i = k + 64))
   rw [this, Bool.or_false]
  ·rw [bit, h4 i hi]
   congr 1
   exact decide_eq_decide.2 (by omega)
theorem qlK {q : Nat → Bool} {s : List AV} (h : zC q s) (h2 : s.length = 2) : Gets (qbs 0 0 [s] []) (· = yj q) := by
 have hf : qz 0 s = true := by
  obtain ⟨lo, hi, l, rfl, _⟩ := h
  cases l with
  | nil => rfl
  | cons a l => simp at h2
 have hg : ∀ n : Int, qz 0 [AV.cptr s 0, .int .i64 n] = true := by
  intro n
  obtain ⟨lo, hi, l, rfl, _⟩ := h
  cases l with
  | nil => rfl
  | cons a l => simp at h2
 have loop : ∀ d i : Nat, i + d = 100 → Gets (qbs ((qzn i).filter q).length i [s] (qx (((qzn i).filter q).map Int.ofNat))) (· = yj q) := by
  intro d
  induction d with
  | zero =>
   intro i hi
   obtain rfl : i = 100 := by omega
   refine qel _ _ _ _ ?_
   have e1 : qyQ (0 + ((qzn 100).filter q).length) (qx (((qzn 100).filter q).map Int.ofNat)).length = true := by rw [qy9, q4, qzd]; omega
   have e2 : qyM ((qzn 100).filter q).length (qx (((qzn 100).filter q).map Int.ofNat)) = qx (((qzn 100).filter q).map Int.ofNat) := qyP (by rw [q4, qzd]; exact qyN _)
   rw [show decide (((100 : Nat) : Int) < 100) = false from rfl, e1, e2]
   exact ⟨_, rfl, rfl⟩
  | succ d ih =>
   intro i hi
   have h1 := ih (i + 1) (by omega)
   rw [List.range_succ, List.filter_append] at h1
   refine qel _ _ _ _ ?_
   have hle : ((qzn i).filter q).length ≤ i := by have := List.length_filter_le q (qzn i); rw [List.length_range] at this; exact this
   have e1 : qyQ (0 + ((qzn i).filter q).length) (qx (((qzn i).filter q).map Int.ofNat)).length = true := by rw [qy9, q4, qzd]; omega
   have e2 : qyM ((qzn i).filter q).length (qx (((qzn i).filter q).map Int.ofNat)) = qx (((qzn i).filter q).map Int.ofNat) := qyP (by rw [q4, qzd]; exact qyN _)
   have e3 : IntKind.wrap .i64 ((i : Int) + 1) = ((i + 1 : Nat) : Int) := by rw [qM (by omega) (by omega)]; omega
   rw [decide_eq_true (show (i : Int) < 100 by omega), ql, qy8, e1, e2, e3, qdN (by omega)]
   simp only [cond_true, qc, qk, hf, hg, qy2, qaN h (show i < 100 by omega)]
   cases hq : q i with
   | true =>
    rw [List.filter_cons_of_pos hq, List.filter_nil, List.map_append, qy6] at h1
    rw [cond_true]
    have e4 : qx (((qzn i).filter q).map Int.ofNat ++ [i].map Int.ofNat) = qy4 (qx (((qzn i).filter q).map Int.ofNat)) [[AV.int .i64 i]] := by
     unfold qx; rw [List.map_append]; rfl
    rw [e4] at h1
    exact h1
   | false =>
    rw [List.filter_cons_of_neg (by rw [hq]; decide), List.filter_nil, List.append_nil] at h1
    rw [cond_false]
    exact h1
 exact loop 100 0 rfl
theorem qkc : Gets (qcK 0 0 0 0 []) (· = yj fun i => ([] : List Tm).any (vP (i : Nat))) := by
 have loop : ∀ d i : Nat, i + d = 100 → Gets (qcK 0 i 0 0 []) (· = yj fun i => ([] : List Tm).any (vP (i : Nat))) := by
  intro d
  induction d with
  | zero =>
   intro i hi
   obtain rfl : i = 100 := by omega
   refine qgn _ _ _ _ _ ?_
   rw [show decide (((100 : Nat) : Int) < 100) = false from rfl]
   exact ⟨_, rfl, rfl⟩
  | succ d ih =>
   intro i hi
   refine qgn _ _ _ _ _ ?_
   have e3 : IntKind.wrap .i64 ((i : Int) + 1) = ((i + 1 : Nat) : Int) := by rw [qM (by omega) (by omega)]; omega
   rw [decide_eq_true (show (i : Int) < 100 by omega), qaN qo6 (show i < 100 by omega), e3]
   simp only [cond_true, qc, qk, cond_false]
   exact ih (i + 1) (by omega)
 exact loop 100 0 rfl
theorem qpG {p : Tm} : ∀ (n : Nat) (R : List Tm) (h4 : List (List AV)) (s : List AV) (q : Nat → Bool), wL R ≤ n → n < 1099511627776 → R.length ≤ h4.length → h4.take R.length = qb R → zC q s → s.length = 2 → 
  Gets (y3 R.length p.kind p.num p.str (qb p.subs) [s] p.kind p.num p.str (qb p.subs) h4) (· = yj fun i => q i || R.any (vP (i : Nat))) := by
 intro n
 induction n with
 | zero =>
  intro R h4 s q hw hn hl ht hs hs2
  have hR : R = [] := by
   cases R with
   | nil => rfl
   | cons x l => rw [qV] at hw; have := vH x; omega
  subst hR
  refine qby _ _ _ _ _ _ _ _ _ _ _ ?_
  have : decide (((([] : List Tm).length : Nat) : Int) > 0) = false := rfl
  rw [this, cond_false]
  exact qlK (by simpa using hs) hs2
 | succ n ih =>
  intro R h4 s q hw hn hl ht hs hs2
  rcases List.eq_nil_or_concat R with rfl | ⟨R', x, hR⟩
  ·refine qby _ _ _ _ _ _ _ _ _ _ _ ?_
   have : decide (((([] : List Tm).length : Nat) : Int) > 0) = false := rfl
   rw [this, cond_false]
   exact qlK (by simpa using hs) hs2
  ·obtain rfl : R = R' ++ [x] := by rw [hR]; simp
   clear hR
   rw [x5, qV, vQ] at hw
   have hx := vH x
   have hwe := x.w_eq
   have hRl := zz R'
   rw [qy6, List.length_singleton] at hl ht ⊢
   refine qby _ _ _ _ _ _ _ _ _ _ _ ?_
   have g0 : decide (((R'.length + 1 : Nat) : Int) > 0) = true := decide_eq_true (by omega)
   have g1 : IntKind.wrap .i64 (((R'.length + 1 : Nat) : Int) - 1) = (R'.length : Int) := by rw [qM (by omega) (by omega)]; omega
   have g2 : qg (R'.length : Int) ((R'.length + 1 : Nat) : Int) = true := decide_eq_true (by omega)
   have g3 : qh (R'.length : Int) ((R'.length + 1 : Nat) : Int) = true := decide_eq_true (by omega)
   have g4 : h4[R'.length]? = some x.cells := by
    have : (h4.take (R'.length + 1))[R'.length]? = some x.cells := by
     rw [ht, xx]; simp
    rwa [List.getElem?_take, if_pos (by omega)] at this
   have g5 : h4.take R'.length = qb R' := by
    have : (h4.take (R'.length + 1)).take R'.length = qb R' := by
     rw [ht, q8]
     exact List.take_left' (qd R')
    rwa [List.take_take, Nat.min_eq_left (by omega)] at this
   have g6 : qyQ (0 + R'.length) h4.length = true := by rw [qy9]; omega
   rw [g0, g1, qw, g2, g3, ql, qy3, Nat.zero_add, g4, Nat.sub_zero]
   simp only [cond_true, qy2, qc, qi, qp, qt, vw, qd, g5, qbZ]
   have push : (x.kind = 7 ∨ x.kind = 9) → Gets (y3 (R'.length + x.subs.length) p.kind p.num p.str (qb p.subs) [s] p.kind p.num p.str (qb p.subs) (qy4 (qb R') (qb x.subs))) (· = yj fun i => q i || (R' ++ [x]).any (vP (i : Nat))) := by
    intro hk
    have hl := zz x.subs
    have h := ih (R' ++ x.subs) (qb (R' ++ x.subs)) s q (by rw [x5]; omega) (by omega) (by rw [qd]; exact qyN _) (qyP (by simp)) hs hs2
    rw [qy6] at h
    rw [show qy4 (qb R') (qb x.subs) = qb (R' ++ x.subs) from (q8 _ _).symm]
    refine Gets.mono h ?_
    rintro _ rfl
    apply congrArg yj
    funext i
    rw [List.any_append, List.any_append, List.any_cons, List.any_nil, Bool.or_false, yI _ x, if_pos hk]
   have drop : (¬ (x.kind = 7 ∨ x.kind = 9)) → ¬ (x.kind = 2 ∧ (varG x.str).isSome) → Gets (y3 R'.length p.kind p.num p.str (qb p.subs) [s] p.kind p.num p.str (qb p.subs) h4) (· = yj fun i => q i || (R' ++ [x]).any (vP (i : Nat))) := by
    intro hk hv
    refine Gets.mono (ih R' h4 s q (by omega) (by omega) (by omega) g5 hs hs2) ?_
    rintro _ rfl
    apply congrArg yj
    funext i
    have : vP (i : Nat) x = false := by
     rw [yI, if_neg hk]
     by_cases h2 : x.kind = 2
     ·rw [decide_eq_true h2, qzg, decide_eq_false]
      intro h
      exact hv ⟨h2, by rw [h]; rfl⟩
     ·rw [decide_eq_false h2, Bool.false_and]
    rw [List.any_append, List.any_cons, List.any_nil, this, Bool.or_false, Bool.or_false]
   rw [beqI, beqI, beqI, z3, g6]
   by_cases h7 : x.kind = 7
   ·rw [decide_eq_true h7]
    simp only [cond_true, qzg, yb (show R'.length + x.subs.length ≤ 1099511627776 by have := zz x.subs; omega)]
    exact push (.inl h7)
   rw [decide_eq_false h7, cond_false]
   by_cases h9 : x.kind = 9
   ·rw [decide_eq_true h9]
    simp only [cond_true, qzg, yb (show R'.length + x.subs.length ≤ 1099511627776 by have := zz x.subs; omega)]
    exact push (.inr h9)
   rw [decide_eq_false h9, cond_false]
   have hk : ¬ (x.kind = 7 ∨ x.kind = 9) := by omega
   unfold varR
   simp only [qc, kTup, qa, qm, qk, kNil]
   cases hv : varG x.str with
   | none =>
    rw [hv] at drop
    exact drop hk (by simp)
   | some v =>
    by_cases h2 : x.kind = 2
    ·rw [decide_eq_true h2]
     obtain ⟨hv0, hv9⟩ := qcL hv
     obtain ⟨m, rfl⟩ : ∃ m : Nat, v = m := ⟨v.toNat, by omega⟩
     obtain ⟨r', hr1, hr2, hr3, hr4, hr5⟩ := qh8 hs (n := m) (by omega)
     simp only [Option.getD_some, qzl, cond_true, hr1, qc, zB]
     refine Gets.mono (ih R' h4 r' _ (by omega) (by omega) (by omega) g5 hr2 (by rw [hr4]; exact hs2)) ?_
     rintro _ rfl
     apply congrArg yj
     funext i
     have : vP (i : Nat) x = decide (i = m) := by
      rw [yI, if_neg hk, decide_eq_true h2, qzg, hv]
      exact decide_eq_decide.2 ⟨fun h => by cases h; rfl, fun h => by rw [h]⟩
     rw [List.any_append, List.any_cons, List.any_nil, this, Bool.or_false]
     cases q i <;> cases decide (i = m) <;> cases R'.any (vP (i : Nat)) <;> rfl
    ·rw [decide_eq_false h2]
     exact drop hk (fun h => h2 h.1)
theorem qrn {p : Tm} : ∀ (n : Nat) (R : List Tm) (h4 : List (List AV)) , wL R ≤ n → n < 1099511627776 → R.length ≤ h4.length → h4.take R.length = qb R → 
  Gets (zV R.length p.kind p.num p.str (qb p.subs) 0 0 p.kind p.num p.str (qb p.subs) h4) (· = yj fun i => R.any (vP (i : Nat))) := by
 intro n
 induction n with
 | zero =>
  intro R h4  hw hn hl ht 
  have hR : R = [] := by
   cases R with
   | nil => rfl
   | cons x l => rw [qV] at hw; have := vH x; omega
  subst hR
  refine qcm _ _ _ _ _ _ _ _ _ _ _ _ ?_
  have : decide (((([] : List Tm).length : Nat) : Int) > 0) = false := rfl
  rw [this, cond_false]
  exact qkc
 | succ n ih =>
  intro R h4  hw hn hl ht 
  rcases List.eq_nil_or_concat R with rfl | ⟨R', x, hR⟩
  ·refine qcm _ _ _ _ _ _ _ _ _ _ _ _ ?_
   have : decide (((([] : List Tm).length : Nat) : Int) > 0) = false := rfl
   rw [this, cond_false]
   exact qkc
  ·obtain rfl : R = R' ++ [x] := by rw [hR]; simp
   clear hR
   rw [x5, qV, vQ] at hw
   have hx := vH x
   have hwe := x.w_eq
   have hRl := zz R'
   rw [qy6, List.length_singleton] at hl ht ⊢
   refine qcm _ _ _ _ _ _ _ _ _ _ _ _ ?_
   have g0 : decide (((R'.length + 1 : Nat) : Int) > 0) = true := decide_eq_true (by omega)
   have g1 : IntKind.wrap .i64 (((R'.length + 1 : Nat) : Int) - 1) = (R'.length : Int) := by rw [qM (by omega) (by omega)]; omega
   have g2 : qg (R'.length : Int) ((R'.length + 1 : Nat) : Int) = true := decide_eq_true (by omega)
   have g3 : qh (R'.length : Int) ((R'.length + 1 : Nat) : Int) = true := decide_eq_true (by omega)
   have g4 : h4[R'.length]? = some x.cells := by
    have : (h4.take (R'.length + 1))[R'.length]? = some x.cells := by
     rw [ht, xx]; simp
    rwa [List.getElem?_take, if_pos (by omega)] at this
   have g5 : h4.take R'.length = qb R' := by
    have : (h4.take (R'.length + 1)).take R'.length = qb R' := by
     rw [ht, q8]
     exact List.take_left' (qd R')
    rwa [List.take_take, Nat.min_eq_left (by omega)] at this
   have g6 : qyQ (0 + R'.length) h4.length = true := by rw [qy9]; omega
   rw [g0, g1, qw, g2, g3, ql, qy3, Nat.zero_add, g4, Nat.sub_zero]
   simp only [cond_true, qy2, qc, qi, qp, qt, vw, qd, g5, qbZ]
   have push : (x.kind = 7 ∨ x.kind = 9) → Gets (zV (R'.length + x.subs.length) p.kind p.num p.str (qb p.subs) 0 0 p.kind p.num p.str (qb p.subs) (qy4 (qb R') (qb x.subs))) (· = yj fun i => (R' ++ [x]).any (vP (i : Nat))) := by
    intro hk
    have hl := zz x.subs
    have h := ih (R' ++ x.subs) (qb (R' ++ x.subs))  (by rw [x5]; omega) (by omega) (by rw [qd]; exact qyN _) (qyP (by simp)) 
    rw [qy6] at h
    rw [show qy4 (qb R') (qb x.subs) = qb (R' ++ x.subs) from (q8 _ _).symm]
    refine Gets.mono h ?_
    rintro _ rfl
    apply congrArg yj
    funext i
    rw [List.any_append, List.any_append, List.any_cons, List.any_nil, Bool.or_false, yI _ x, if_pos hk]
   have drop : (¬ (x.kind = 7 ∨ x.kind = 9)) → ¬ (x.kind = 2 ∧ (varG x.str).isSome) → Gets (zV R'.length p.kind p.num p.str (qb p.subs) 0 0 p.kind p.num p.str (qb p.subs) h4) (· = yj fun i => (R' ++ [x]).any (vP (i : Nat))) := by
    intro hk hv
    refine Gets.mono (ih R' h4  (by omega) (by omega) (by omega) g5 ) ?_
    rintro _ rfl
    apply congrArg yj
    funext i
    have : vP (i : Nat) x = false := by
     rw [yI, if_neg hk]
     by_cases h2 : x.kind = 2
     ·rw [decide_eq_true h2, qzg, decide_eq_false]
      intro h
      exact hv ⟨h2, by rw [h]; rfl⟩
     ·rw [decide_eq_false h2, Bool.false_and]
    rw [List.any_append, List.any_cons, List.any_nil, this, Bool.or_false, Bool.or_false]
   rw [beqI, beqI, beqI, z3, g6]
   by_cases h7 : x.kind = 7
   ·rw [decide_eq_true h7]
    simp only [cond_true, qzg, yb (show R'.length + x.subs.length ≤ 1099511627776 by have := zz x.subs; omega)]
    exact push (.inl h7)
   rw [decide_eq_false h7, cond_false]
   by_cases h9 : x.kind = 9
   ·rw [decide_eq_true h9]
    simp only [cond_true, qzg, yb (show R'.length + x.subs.length ≤ 1099511627776 by have := zz x.subs; omega)]
    exact push (.inr h9)
   rw [decide_eq_false h9, cond_false]
   have hk : ¬ (x.kind = 7 ∨ x.kind = 9) := by omega
   unfold varR
   simp only [qc, kTup, qa, qm, qk, kNil]
   cases hv : varG x.str with
   | none =>
    rw [hv] at drop
    exact drop hk (by simp)
   | some v =>
    by_cases h2 : x.kind = 2
    ·rw [decide_eq_true h2]
     obtain ⟨hv0, hv9⟩ := qcL hv
     obtain ⟨m, rfl⟩ : ∃ m : Nat, v = m := ⟨v.toNat, by omega⟩
     obtain ⟨r', hr1, hr2, hr3, hr4, hr5⟩ := qh8 qo6 (n := m) (by omega)
     simp only [Option.getD_some, qzl, cond_true, hr1, qc, zB]
     refine Gets.mono (qpG n R' h4 r' _ (by omega) (by omega) (by omega) g5 hr2 (by rw [hr4]; rfl)) ?_
     rintro _ rfl
     apply congrArg yj
     funext i
     have : vP (i : Nat) x = decide (i = m) := by
      rw [yI, if_neg hk, decide_eq_true h2, qzg, hv]
      exact decide_eq_decide.2 ⟨fun h => by cases h; rfl, fun h => by rw [h]⟩
     rw [List.any_append, List.any_cons, List.any_nil, this, Bool.or_false]
     cases decide (i = m) <;> cases R'.any (vP (i : Nat)) <;> rfl
    ·rw [decide_eq_false h2]
     exact drop hk (fun h => h2 h.1)
theorem qqg {t : Tm} (h : t.w < 1099511627776) : EVf (EV cfg) 259 [t.av] = some (.sl (qx (xG t))) := by
 have hm := zP h
 apply Gets.get
 rw [Tm.av, Tm.cells_eq] at hm ⊢
 refine qof _ _ _ _ ?_
 rw [hm]
 simp only [qc, qk]
 unfold xG
 by_cases hc : t.chk = 0
 ·rw [decide_eq_true hc, if_pos hc]
  have hl := qrn (p := t) t.w [t] [t.cells] (by rw [qV, vQ]; exact qyN _) h (qyN _) rfl
  rw [Tm.cells_eq] at hl
  refine Gets.mono hl ?_
  rintro _ rfl
  unfold yj
  have : (fun i : Nat => [t].any (vP (i : Nat))) = fun i : Nat => vP (i : Nat) t := by funext i; simp
  rw [this]
 ·rw [decide_eq_false hc, if_neg hc]
  exact ⟨_, rfl, rfl⟩
noncomputable def qsM : Den := evC cfg (EV cfg) 136 none 0 (sub (qe Tryz.f136) [1, 0, 1, 1, 0, 0, 0])
noncomputable def qsU : Ex × List AV × AH → Option AV := kAft (Cfg.keepOut cfg 136 2) (kRun cfg (EV cfg) (kfN cfg 6) 136 none 0 (vX cfg (Cfg.lift cfg 136 0) Tryz.f136.results.toList) ([.block 0, .seq (sub (qe Tryz.f136) [1, 0, 1, 1, 1]), .scope]))
noncomputable def qwY : List AV × AH → Option AV := fun p => kOpt (LOOP 0 (some [5]) ([(5, 8)]) qsM p) qsU
noncomputable def qxx : Den := evC cfg (EV cfg) 136 none 0 (sub (qe Tryz.f136) [1, 0, 1, 1, 0, 0, 0, 1, 0, 1, 1, 1, 1, 1, 0, 0])
noncomputable def qyf : Ex × List AV × AH → Option AV := kAft (Cfg.keepOut cfg 136 9) (kRun cfg (EV cfg) (kfN cfg 6) 136 none 0 (kLp 0 (some [5]) ([(5, 8)]) qsM qsU) ([.block 2, .block 1]))
noncomputable def qwX : List AV × AH → Option AV := fun p => kOpt (LOOP 0 (some [5, 6, 70, 71]) ([(5, 8)]) qxx p) qyf
noncomputable abbrev qcJ (nv5 : Nat) (h0 : Rz) : Option (AV) := qwY  (((fx 91 [(5, .ms 0 0 nv5)]) : List AV), ([.rows true 8 h0] : AH))
noncomputable abbrev qhN (rows : Rz) (nv5 : Nat) (v71 : Int) (h0 : Rz) (c1_0 c1_1 : Int) (c1_2 : Bz) (c1_3 : Rz) (c1_4 c1_5 : Int) (c1_6 : Bz) (c1_7 : Rz) : Option (AV) := qwX  (((fx 91 [(5, .ms 0 0 nv5), (6, .ptr 1 0 0), (70, .int .i64 (rows.length : Int)), (71, .int .i64 v71)]) : List AV), ([.rows true 8 h0, .rows false 8 [[.int .i64 c1_0, .int .i64 c1_1, .str c1_2, .sl c1_3, .int .i64 c1_4, .int .i64 c1_5, .str c1_6, .sl c1_7]]] : AH))
theorem qkN (ka na : Int) (sa : Bz) (la : Rz) (kb nb : Int) (sb : Bz) (lb : Rz) {P : AV → Prop} (h : Gets (qcJ 1 [[.int .i64 ka, .int .i64 na, .str sa, .sl la, .int .i64 kb, .int .i64 nb, .str sb, .sl lb]]) P) : Gets (EVs (EV cfg) 136 [.agg [.int .i64 ka, .int .i64 na, .str sa, .sl la], .agg [.int .i64 kb, .int .i64 nb, .str sb, .sl lb]]) P :=
  gE (fun _ => funS rfl rfl Tryz.func136 rfl) (by kernel_rfl) h
theorem qck (nv5 : Nat) (h0 : Rz) {P : AV → Prop} (h : Gets (bif decide ((↑ nv5 : Int) > 0) then bif qh 0 (IntKind.wrap .i64 ((↑ nv5 : Int) - 1)) && qg (IntKind.wrap .i64 ((↑ nv5 : Int) - 1)) (↑ nv5 : Int) then kOpt (qyG h0 (0 + qyY (IntKind.wrap .i64 ((↑ nv5 : Int) - 1)))) fun row => bif qyQ 8 (qyH row) then qa (qyM 8 row) fun c cs => kInt .i64 c fun n => qa cs fun c cs => kInt .i64 c fun n_1 => qa cs fun c cs => kStr c fun s => qa cs fun c cs => kSl c fun rows => kTmC cs fun n_2 n_3 s_1 rows_1 => (bif qh 0 (IntKind.wrap .i64 ((↑ nv5 : Int) - 1)) && qh (IntKind.wrap .i64 ((↑ nv5 : Int) - 1)) (↑ nv5 : Int) then bif n != n_2 then some (.bool false) else bif n_1 != n_3 then some (.bool false) else bif ! s == s_1 then some (.bool false) else bif (rows.length : Int) != (rows_1.length : Int) then some (.bool false) else bif (↑ (qyH rows) : Int) == 0 then qcJ (qyY (IntKind.wrap .i64 ((↑ nv5 : Int) - 1)) - 0) h0 else qhN rows (qyY (IntKind.wrap .i64 ((↑ nv5 : Int) - 1)) - 0) (0 : Int) h0 n n_1 s rows n_2 n_3 s_1 rows_1 else none) else none else none else some (.bool true)) P) : Gets (qcJ nv5 h0) P :=
  gE (fun _ => qn (cfg := cfg) (f := 136) (rd := none) (bs := 0)) (by kernel_rfl) h
theorem qgl (rows : Rz) (nv5 : Nat) (v71 : Int) (h0 : Rz) (c1_0 c1_1 : Int) (c1_2 : Bz) (c1_3 : Rz) (c1_4 c1_5 : Int) (c1_6 : Bz) (c1_7 : Rz) {P : AV → Prop} (h : Gets (bif decide (v71 < (rows.length : Int)) then bif qh 0 v71 && qg v71 (c1_3.length : Int) then kOpt (qyG c1_3 (v71.toNat)) fun row => bif qyW (qyH row) 4 then bif qyQ 4 (qyH row) then kTmC (qyM 4 row) fun n n_1 s rows_1 => (bif qh (0 : Int) v71 && qg v71 (c1_7.length : Int) then kOpt (qyG c1_7 (v71.toNat)) fun row => bif qyW (qyH row) 4 then bif qyQ 4 (qyH row) then kTmC (qyM 4 row) fun n_2 n_3 s_1 rows_2 => (bif qyQ (0 + nv5) (qyH h0) && qN (nv5 + 1) 112 then qhN rows (nv5 + 1) (IntKind.wrap .i64 (v71 + 1)) (qy4 (qyM nv5 h0) [[.int .i64 n, .int .i64 n_1, .str s, .sl rows_1, .int .i64 n_2, .int .i64 n_3, .str s_1, .sl rows_2]]) c1_0 c1_1 c1_2 c1_3 c1_4 c1_5 c1_6 c1_7 else none) else none else none else none) else none else none else none else qcJ nv5 h0) P) : Gets (qhN rows nv5 v71 h0 c1_0 c1_1 c1_2 c1_3 c1_4 c1_5 c1_6 c1_7) P :=
  gE (fun _ => qn (cfg := cfg) (f := 136) (rd := none) (bs := 0)) (by kernel_rfl) h
end Go.Proofs.YtkgkjngbfdnoiaaGreat
end
section
namespace Go.Av
def xj (R : List (Tm × Tm)) : List (List AV) := R.map fun p => p.1.cells ++ p.2.cells
theorem qbe (R : List (Tm × Tm)) : (xj R).length = R.length := by simp [xj]
theorem qd4 (R S : List (Tm × Tm)) : xj (R ++ S) = xj R ++ xj S := by simp [xj]
theorem qqm (R : List (Tm × Tm)) (i : Nat) : (xj R)[i]? = (R[i]?).map fun p => p.1.cells ++ p.2.cells := by simp [xj]
theorem qri : ∀ (a b : List Tm), a.length = b.length → ((∀ p ∈ a.zip b, p.1 = p.2) ↔ a = b)
 | [], [], _ => by simp
 | x :: a, y :: b, h => by
  have := qri a b (by simpa using h)
  simp only [List.zip_cons_cons, qzm, forall_eq_or_imp, List.cons.injEq, this]
 | [], _ :: _, h => by simp at h
 | _ :: _, [], h => by simp at h
end Go.Av
namespace Go.Proofs.YtkgkjngbfdnoiaaGreat
open Go.Av
theorem qvr {n : Nat} (h : n ≤ 1099511627776) : qN n 112 = true := by
 unfold qN
 rw [qyK, qy9, qy9]
 omega
theorem qkh {x y : Tm} (hxy : x.subs.length = y.subs.length) (hx : x.subs.length < 1099511627776) {P : AV → Prop} : ∀ (d i : Nat) (R : List (Tm × Tm)) (Z : List (List AV)), i + d = x.subs.length → R.length + d < 1099511627776 → (d = 0 → Z = []) →
  Gets (qcJ (R ++ (x.subs.zip y.subs).drop i).length (xj (R ++ (x.subs.zip y.subs).drop i))) P →
  Gets (qhN (qb x.subs) R.length i (xj R ++ Z) x.kind x.num x.str (qb x.subs) y.kind y.num y.str (qb y.subs)) P
 | 0, i, R, Z, hi, _, hz, h => by
  refine qgl _ _ _ _ _ _ _ _ _ _ _ _ ?_
  obtain rfl := hz rfl
  rw [qyV (by simp; omega)] at h
  simp at h
  have : ¬ i < x.subs.length := by omega
  simpa [this] using h
 | d + 1, i, R, Z, hi, hR, _, h => by
  refine qgl _ _ _ _ _ _ _ _ _ _ _ _ ?_
  have h1 : i < x.subs.length := by omega
  have h2 : i < y.subs.length := by omega
  have hzl : i < (x.subs.zip y.subs).length := by simp; omega
  have hd : (x.subs.zip y.subs).drop i = (x.subs[i], y.subs[i]) :: (x.subs.zip y.subs).drop (i + 1) := by
   rw [qyS hzl, List.getElem_zip]
  have ih := qkh hxy hx (P := P) d (i + 1) (R ++ [(x.subs[i], y.subs[i])]) [] (by omega) (by simp; omega) (fun _ => rfl) (by
   rw [hd] at h
   simpa using h)
  have ht : qyM R.length (xj R ++ Z) = xj R := by rw [List.take_append_of_le_length (by rw [qbe]; exact qyN _), qyP (by rw [qbe]; exact qyN _)]
  have hp : xj (R ++ [(x.subs[i], y.subs[i])]) = xj R ++ [x.subs[i].cells ++ y.subs[i].cells] := by rw [qd4]; rfl
  have hw := qlz h1 hx
  rw [List.append_nil, hp] at ih
  simp [h1, h2, hw, qvr (show R.length + 1 ≤ 1099511627776 by omega), ht, qbe] at ih ⊢
  rw [Tm.cells_eq x.subs[i]] at ih
  exact ih
theorem qwh : ∀ (n : Nat) (R : List (Tm × Tm)) (Z : List (List AV)), wL (R.map Prod.fst) ≤ n → n < 1099511627776 →
  Gets (qcJ R.length (xj R ++ Z)) (qch (∀ p ∈ R, p.1 = p.2)) := by
 intro n
 induction n with
 | zero =>
  intro R Z hn _
  have : R = [] := by
   have := xB (R.map Prod.fst)
   exact List.length_eq_zero_iff.1 (by simp at this; omega)
  subst this
  refine qck _ _ ?_
  simp [xH]
 | succ n ih =>
  intro R Z hn hN
  rcases List.eq_nil_or_concat R with rfl | ⟨R0, p, rfl⟩
  ·refine qck _ _ ?_
   simp [xH]
  ·rw [List.concat_eq_append] at *
   obtain ⟨x, y⟩ := p
   have hwx := x.w_eq
   simp only [List.map_append, List.map_cons, List.map_nil, x5, qV, vQ] at hn
   have hl0 := xB (R0.map Prod.fst)
   rw [qzd] at hl0
   have hls := xB x.subs
   refine qck _ _ ?_
   have e1 : (R0 ++ [(x, y)]).length = R0.length + 1 := by simp
   have hw1 : IntKind.wrap .i64 (R0.length : Int) = R0.length := quF (by omega)
   have g : (xj (R0 ++ [(x, y)]) ++ Z)[R0.length]? = some (.int .i64 x.kind :: .int .i64 x.num :: .str x.str :: .sl (qb x.subs) :: y.cells) := by
    rw [qyU (by rw [qbe]; simp), qqm]; simp; rw [Tm.cells_eq x]; rfl
   have e3 : xj (R0 ++ [(x, y)]) ++ Z = xj R0 ++ ((x.cells ++ y.cells) :: Z) := by rw [qd4, List.append_assoc]; rfl
   have hq : (∀ p ∈ R0 ++ [(x, y)], p.1 = p.2) ↔ ((∀ p ∈ R0, p.1 = p.2) ∧ x = y) := by simp [or_imp, forall_and]
   have hxy : x = y ↔ (x.kind = y.kind ∧ x.num = y.num ∧ x.str = y.str ∧ x.subs = y.subs) := by
    constructor
    ·rintro rfl; exact ⟨rfl, rfl, rfl, rfl⟩
    ·rintro ⟨h1, h2, h3, h4⟩; rw [← Tm.eta x, ← Tm.eta y, h1, h2, h3, h4]
   rw [propext hq]
   have hno : ¬ (x.kind = y.kind ∧ x.num = y.num ∧ x.str = y.str ∧ x.subs = y.subs) → qch ((∀ p ∈ R0, p.1 = p.2) ∧ x = y) (.bool false) := fun h => xH.2 ⟨fun e => (by cases e), fun h' => absurd (hxy.1 h'.2) h⟩
   simp only [e3] at g ⊢
   simp [e1, hw1, g]
   by_cases h1 : x.kind = y.kind
   ·by_cases h2 : x.num = y.num
    ·by_cases h3 : x.str = y.str
     ·by_cases h4 : x.subs.length = y.subs.length
      ·have hsub : (∀ p ∈ x.subs.zip y.subs, p.1 = p.2) ↔ x = y := by
        rw [qri _ _ h4, hxy]; simp [h1, h2, h3]
       have c1 : (x.kind != y.kind) = false := by simp [h1]
       have c2 : (x.num != y.num) = false := by simp [h2]
       have c3 : (x.str == y.str) = true := by simp [h3]
       have c4 : ((x.subs.length : Int) != (y.subs.length : Int)) = false := by simp [h4]
       have eall : (∀ (a b : Tm), (a, b) ∈ R0 → a = b) ↔ (∀ p ∈ R0, p.1 = p.2) := ⟨fun h p hp => h p.1 p.2 hp, fun h a b hp => h (a, b) hp⟩
       rw [c1, c2, c3, c4]
       simp only [cond_false, cond_true]
       rcases Nat.eq_zero_or_pos x.subs.length with hz | hp
       ·have hr := ih R0 ((x.cells ++ y.cells) :: Z) (by omega) (by omega)
        have hx0 : x.subs = [] := List.length_eq_zero_iff.1 hz
        have hxy' : x = y := hsub.1 (by rw [hx0]; simp)
        have c5 : ((x.subs.length : Int) == 0) = true := by simp [hz]
        rw [c5, propext (show ((∀ (a b : Tm), (a, b) ∈ R0 → a = b) ∧ x = y) ↔ (∀ p ∈ R0, p.1 = p.2) from ⟨fun h => eall.1 h.1, fun h => ⟨eall.2 h, hxy'⟩⟩)]
        exact hr
       ·have c5 : ((x.subs.length : Int) == 0) = false := by rw [beqD]; exact decide_eq_false (by omega)
        rw [c5]
        simp only [cond_false]
        have hm : (R0 ++ x.subs.zip y.subs).map Prod.fst = R0.map Prod.fst ++ x.subs := by rw [List.map_append, List.map_fst_zip (by omega)]
        have hr := ih (R0 ++ x.subs.zip y.subs) [] (by rw [hm, x5]; omega) (by omega)
        rw [List.append_nil] at hr
        have hP : (∀ p ∈ R0 ++ x.subs.zip y.subs, p.1 = p.2) ↔ ((∀ (a b : Tm), (a, b) ∈ R0 → a = b) ∧ x = y) := by
         rw [← hsub, eall]; simp only [qzi, or_imp, forall_and]
        rw [propext hP] at hr
        exact qkh h4 (by omega) x.subs.length 0 R0 _ (by omega) (by omega) (fun h => by omega) (by rw [qzk]; exact hr)
      ·have h4' : ¬ ((x.subs.length : Int) = (y.subs.length : Int)) := by omega
       simp [h1, h2, h3, h4', bneD]
       simpa using hno fun h => h4 (by rw [h.2.2.2])
     ·have h3' : (x.str == y.str) = false := by simpa using h3
      simp [h1, h2, h3', bneD]
      simpa using hno fun h => h3 h.2.2.1
    ·simp [h1, h2, bneD]
     simpa using hno fun h => h2 h.2.1
   ·simp [h1, bneD]
    simpa using hno fun h => h1 h.1
theorem qu7 {a : Tm} (h : a.w < 1099511627776) (b : Tm) : Gets (EVs (EV cfg) 136 [a.av, b.av]) (qch (a = b)) := by
 have := qwh _ [(a, b)] [] (qyN _) (by simpa using h)
 rw [List.append_nil] at this
 rw [Tm.av, Tm.av, Tm.cells_eq a, Tm.cells_eq b]
 refine qkN _ _ _ _ _ _ _ _ ?_
 have e : xj [(a, b)] = [[AV.int .i64 a.kind, .int .i64 a.num, .str a.str, .sl (qb a.subs), .int .i64 b.kind, .int .i64 b.num, .str b.str, .sl (qb b.subs)]] := by
  simp only [xj, List.map_cons, List.map_nil, Tm.cells_eq]; rfl
 have e2 : (∀ p ∈ [(a, b)], p.1 = p.2) ↔ a = b := by simp
 rw [e, propext e2] at this
 exact this
noncomputable def qxF : Den := evC cfg (EV cfg) 313 none 1 (sub (qe Tryz.f313) [1, 0, 1, 0, 1, 1, 1, 0, 1, 0, 1, 0, 0])
noncomputable def qyn : Ex × List AV × AH → Option (MV × List (List AV)) := kAft (Cfg.keepOut cfg 313 (qq (sub (qe Tryz.f313) [1, 0, 1, 0, 1, 1, 1, 0, 1, 0, 1, 0, 0]))) (vF 2 (kSeq (fun (fr : List AV) (H : AH) => vK (Cfg.cut cfg 313 (qq (sub (qe Tryz.f313) [1, 0, 1, 0, 1, 1, 1, 0, 1, 1]))) fr H fun (fr : List AV) (H : AH) => qT cfg (EV cfg) (kfN cfg 6) 313 none 1 (sub (qe Tryz.f313) [1, 0, 1, 0, 1, 1, 1, 0, 1, 1]) fr H (vF 0 (kSeq (fun (fr : List AV) (H : AH) => vK (Cfg.cut cfg 313 (qq (sub (qe Tryz.f313) [1, 1]))) fr H fun (fr : List AV) (H : AH) => qT cfg (EV cfg) (kfN cfg 6) 313 none 1 (sub (qe Tryz.f313) [1, 1]) fr H (qiQ cfg 402 (Cfg.lift cfg 313 0) (qze (Func.results Tryz.f313)))) (qiQ cfg 402 (Cfg.lift cfg 313 0) (qze (Func.results Tryz.f313)))))) (vF 0 (kSeq (fun (fr : List AV) (H : AH) => vK (Cfg.cut cfg 313 (qq (sub (qe Tryz.f313) [1, 1]))) fr H fun (fr : List AV) (H : AH) => qT cfg (EV cfg) (kfN cfg 6) 313 none 1 (sub (qe Tryz.f313) [1, 1]) fr H (qiQ cfg 402 (Cfg.lift cfg 313 0) (qze (Func.results Tryz.f313)))) (qiQ cfg 402 (Cfg.lift cfg 313 0) (qze (Func.results Tryz.f313)))))))
noncomputable def qsI : List AV × AH → Option (MV × List (List AV)) := fun (p : List AV × AH) => kOpt (LOOP 1 (some [0, 4, 5, 70, 71]) [] qxF p) qyn
noncomputable def qxE : Den := evC cfg (EV cfg) 314 none 1 (sub (qe Tryz.f314) [1, 1, 0, 1, 0, 0])
noncomputable def qym : Ex × List AV × AH → Option (AV × List (List AV)) := kAft (Cfg.keepOut cfg 314 (qq (sub (qe Tryz.f314) [1, 1, 0, 1, 0, 0]))) (vF 0 (kSeq (fun (fr : List AV) (H : AH) => vK (Cfg.cut cfg 314 (qq (sub (qe Tryz.f314) [1, 1, 1]))) fr H fun (fr : List AV) (H : AH) => qT cfg (EV cfg) (kfN cfg 6) 314 none 1 (sub (qe Tryz.f314) [1, 1, 1]) fr H (qab cfg 402 (Cfg.lift cfg 314 0) (qze (Func.results Tryz.f314)))) (qab cfg 402 (Cfg.lift cfg 314 0) (qze (Func.results Tryz.f314)))))
noncomputable def qw2 : List AV × AH → Option (AV × List (List AV)) := fun (p : List AV × AH) => kOpt (LOOP 1 (some [0, 3, 5]) [(3, 5)] qxE p) qym
noncomputable abbrev qep (lp : Rz) (v71 : Int) (c0r0 : List AV) (c1_0 c1_1 : Int) (c1_2 : Bz) (c1_3 : Rz) (c2_0 c2_1 : Int) (c2_2 : Bz) (c2_3 : Rz) : Option (MV × List (List AV)) := qsI  (((fx 91 [(0, .ptr 0 0 0), (4, .ptr 1 0 0), (5, .ptr 2 0 0), (70, .int .i64 (lp.length : Int)), (71, .int .i64 v71)]) : List AV), ([.rows true 402 [c0r0], .rows false 4 [[.int .i64 c1_0, .int .i64 c1_1, .str c1_2, .sl c1_3]], .rows false 4 [[.int .i64 c2_0, .int .i64 c2_1, .str c2_2, .sl c2_3]]] : AH))
noncomputable abbrev qen (nv3 : Nat) (v5 : Int) (c0r0 : List AV) (h1 : Rz) : Option (AV × List (List AV)) := qw2  (((fx 27 [(0, .ptr 0 0 0), (3, .ms 1 0 nv3), (5, .int .i64 v5)]) : List AV), ([.rows true 402 [c0r0], .rows true 5 h1] : AH))
noncomputable abbrev qfy (lp : Rz) (q : MV × List (List AV)) (v71 c1_0 c1_1 : Int) (c1_2 : Bz) (c1_3 : Rz) (c2_0 c2_1 : Int) (c2_2 : Bz) (c2_3 : Rz) : Option (MV × List (List AV)) := qsI  (((fx 91 [(0, .ptr 0 0 0), (4, .ptr 1 0 0), (5, .ptr 2 0 0), (70, .int .i64 (lp.length : Int)), (71, .int .i64 v71)]) : List AV), ([.rows true 402 q.2, .rows false 4 [[.int .i64 c1_0, .int .i64 c1_1, .str c1_2, .sl c1_3]], .rows false 4 [[.int .i64 c2_0, .int .i64 c2_1, .str c2_2, .sl c2_3]]] : AH))
theorem qrc (kp np : Int) (sp : Bz) (lp : Rz) (kt nt : Int) (st : Bz) (lt : Rz) (r : List AV) {P : MV × List (List AV) → Prop} (h : Gets (bif kp == 2 then bif sp == [(95 : UInt8)] then some (MV.bool true, [r]) else kOpt (EVs (EV cfg) 210 [.str sp]) fun v => kTup v fun cs => qa cs fun c cs => kInt .i64 c fun n => qa cs fun c cs => qf c fun b => kNil cs (bif ! b then kOpt (EVs (EV cfg) 136 [.agg [.int .i64 kp, .int .i64 np, .str sp, .sl lp], .agg [.int .i64 kt, .int .i64 nt, .str st, .sl lt]]) fun v => qf v fun b => some (MV.bool b, [r]) else bif qz 0 r then bif qz 0 [AV.cptr r 0, .int .i64 n] then kOpt (EVs (EV cfg) 232 [AV.cptr r 0, .int .i64 n]) fun v => qf v fun b => bif b then bif qh 0 n && qg n 100 then bif qyQ (2 + qyY n * 4 + 4) (qyH r) then qa (qyM 4 (qzj (2 + qyY n * 4) r)) fun c cs => kInt .i64 c fun n => qa cs fun c cs => kInt .i64 c fun n_1 => qa cs fun c cs => kStr c fun s => qa cs fun c cs => kSl c fun rows => kNil cs (kOpt (EVs (EV cfg) 136 [.agg [.int .i64 n, .int .i64 n_1, .str s, .sl rows], .agg [.int .i64 kt, .int .i64 nt, .str st, .sl lt]]) fun v => qf v fun b => some (MV.bool b, [r])) else none else none else kOpt (EVm (EV cfg) 291 [.ptr 0 0 0, .int .i64 n] 402 [r]) fun q => zB q.1 (bif qh 0 n && qg n 100 then kOpt (qyG q.2 0) fun row => bif qyQ (2 + qyY n * 4 + 4) (qyH row) then some (MV.bool true, List.set q.2 0 (qy4 (qy4 (qyM (2 + qyY n * 4) row) [AV.int .i64 kt, .int .i64 nt, .str st, .sl lt]) (qzj (2 + qyY n * 4 + 4) row))) else none else none) else none else none) else bif kp == 7 then bif kt != kp then some (MV.bool false, [r]) else bif (lt.length : Int) != (lp.length : Int) then some (MV.bool false, [r]) else qep lp 0 r kp np sp lp kt nt st lt else bif kp == 9 then bif kt != kp then some (MV.bool false, [r]) else bif (lt.length : Int) != (↑ (qyH lp) : Int) then some (MV.bool false, [r]) else qep lp 0 r kp np sp lp kt nt st lt else kOpt (EVs (EV cfg) 136 [.agg [.int .i64 kp, .int .i64 np, .str sp, .sl lp], .agg [.int .i64 kt, .int .i64 nt, .str st, .sl lt]]) fun v => qf v fun b => some (MV.bool b, [r])) P) : Gets (EVm (EV cfg) 313 [.ptr 0 0 0, .agg [.int .i64 kp, .int .i64 np, .str sp, .sl lp], .agg [.int .i64 kt, .int .i64 nt, .str st, .sl lt]] 402 [r]) P :=
  gE (fun _ => funM rfl rfl Tryz.func313 rfl) (by kernel_rfl) h
theorem qrb (r : List AV) {P : AV × List (List AV) → Prop} (h : Gets (qen 0 0 r []) P) : Gets (EVd (EV cfg) 314 [.ptr 0 0 0] 402 [r]) P :=
  gE (fun _ => funD rfl rfl Tryz.func314 rfl) (by kernel_rfl) h
theorem qgp (lp : Rz) (v71 : Int) (c0r0 : List AV) (c1_0 c1_1 : Int) (c1_2 : Bz) (c1_3 : Rz) (c2_0 c2_1 : Int) (c2_2 : Bz) (c2_3 : Rz) {P : MV × List (List AV) → Prop} (h : Gets (bif decide (v71 < (lp.length : Int)) then bif qh 0 v71 && qg v71 (c1_3.length : Int) then kOpt (qyG c1_3 (v71.toNat)) fun row => bif qyW (qyH row) 4 then bif qyQ 4 (qyH row) then kTmC (qyM 4 row) fun n n_1 s rows => (bif qh (0 : Int) v71 && qg v71 (c2_3.length : Int) then kOpt (qyG c2_3 (v71.toNat)) fun row => bif qyW (qyH row) 4 then bif qyQ 4 (qyH row) then kTmC (qyM 4 row) fun n_2 n_3 s_1 rows_1 => (kOpt (EVm (EV cfg) 313 [.ptr 0 0 0, .agg [.int .i64 n, .int .i64 n_1, .str s, .sl rows], .agg [.int .i64 n_2, .int .i64 n_3, .str s_1, .sl rows_1]] 402 [c0r0]) fun q => xr q.1 fun b => bif ! b then some (MV.bool false, q.2) else qfy lp q (IntKind.wrap .i64 (v71 + 1)) c1_0 c1_1 c1_2 c1_3 c2_0 c2_1 c2_2 c2_3) else none else none else none) else none else none else none else some (MV.bool true, [c0r0])) P) : Gets (qep lp v71 c0r0 c1_0 c1_1 c1_2 c1_3 c2_0 c2_1 c2_2 c2_3) P :=
  gE (fun _ => qn (cfg := cfg) (f := 313) (rd := none) (bs := 1)) (by kernel_rfl) h
theorem qgo (nv3 : Nat) (v5 : Int) (c0r0 : List AV) (h1 : Rz) {P : AV × List (List AV) → Prop} (h : Gets (bif decide (v5 < 100) then bif qz 0 c0r0 then bif qz 0 [AV.cptr c0r0 0, .int .i64 v5] then kOpt (EVs (EV cfg) 232 [AV.cptr c0r0 0, .int .i64 v5]) fun v => qf v fun b => bif b then bif qh 0 v5 && qg v5 100 then bif qyQ (2 + qyY v5 * 4 + 4) (qyH c0r0) then qa (qyM 4 (qzj (2 + qyY v5 * 4) c0r0)) fun c cs => kInt .i64 c fun n => qa cs fun c cs => kInt .i64 c fun n_1 => qa cs fun c cs => kStr c fun s => qa cs fun c cs => kSl c fun rows => kNil cs (kOpt (EVf (EV cfg) 71 [.agg [.int .i64 n, .int .i64 n_1, .str s, .sl rows]]) fun v => kTmV v fun n n_2 s rows => (bif qyQ (0 + nv3) (qyH h1) && qN (nv3 + 1) 64 then qen (nv3 + 1) (IntKind.wrap .i64 (v5 + 1)) c0r0 (qy4 (qyM nv3 h1) [[AV.int .i64 v5, .int .i64 n, .int .i64 n_2, .str s, .sl rows]]) else none)) else none else none else qen nv3 (IntKind.wrap .i64 (v5 + 1)) c0r0 h1 else none else none else bif qyQ (0 + nv3) (qyH h1) && true then some (.sl (qyM nv3 h1), [c0r0]) else none) P) : Gets (qen nv3 v5 c0r0 h1) P :=
  gE (fun _ => qn (cfg := cfg) (f := 314) (rd := none) (bs := 1)) (by kernel_rfl) h
theorem qeo (lp : Rz) (q : MV × List (List AV)) (v71 c1_0 c1_1 : Int) (c1_2 : Bz) (c1_3 : Rz) (c2_0 c2_1 : Int) (c2_2 : Bz) (c2_3 : Rz) {P : MV × List (List AV) → Prop} (h : Gets (bif decide (v71 < (lp.length : Int)) then bif qh 0 v71 && qg v71 (c1_3.length : Int) then kOpt (qyG c1_3 (v71.toNat)) fun row => bif qyW (qyH row) 4 then bif qyQ 4 (qyH row) then kTmC (qyM 4 row) fun n n_1 s rows => (bif qh (0 : Int) v71 && qg v71 (c2_3.length : Int) then kOpt (qyG c2_3 (v71.toNat)) fun row => bif qyW (qyH row) 4 then bif qyQ 4 (qyH row) then kTmC (qyM 4 row) fun n_2 n_3 s_1 rows_1 => (kOpt (EVm (EV cfg) 313 [.ptr 0 0 0, .agg [.int .i64 n, .int .i64 n_1, .str s, .sl rows], .agg [.int .i64 n_2, .int .i64 n_3, .str s_1, .sl rows_1]] 402 q.2) fun q => xr q.1 fun b => bif ! b then some (MV.bool false, q.2) else qfy lp q (IntKind.wrap .i64 (v71 + 1)) c1_0 c1_1 c1_2 c1_3 c2_0 c2_1 c2_2 c2_3) else none else none else none) else none else none else none else some (MV.bool true, q.2)) P) : Gets (qfy lp q v71 c1_0 c1_1 c1_2 c1_3 c2_0 c2_1 c2_2 c2_3) P :=
  gE (fun _ => qn (cfg := cfg) (f := 313) (rd := none) (bs := 1)) (by kernel_rfl) h
noncomputable def qxD : Den := evC cfg (EV cfg) 231 none 2 (sub (qe Tryz.f231) [1, 1, 1, 0, 1, 0, 0])
noncomputable def qyl (kp : Int) (np : Int) (sp : Bz) (lp : Rz) (kt : Int) (nt : Int) (st : Bz) (lt : Rz) (B : Rz) : Ex × List AV × AH → Option AV := kAft (Cfg.keepOut cfg 231 (qq (sub (qe Tryz.f231) [1, 1, 1, 0, 1, 0, 0]))) (vF 0 (kSeq (fun (fr : List AV) (H : AH) => vK (Cfg.cut cfg 231 (qq (sub (qe Tryz.f231) [1, 1, 1, 1]))) fr H fun (fr : List AV) (H : AH) => qT cfg (EV cfg) (kfN cfg (5)) 37 none 2 (sub (qe Tryz.f231) [1, 1, 1, 1]) fr H (xa cfg (Cfg.lift cfg 231 0) (fun (v : AV) (H : AH) => (fun (r : AV × AH) => kOpt (yn none 2 (Prod.fst r) (Prod.snd r)) fun (r : AV × AH) => kTy noTy cfg (Oper.type { dst := some 10, op := Op.call { callee := Callee.value (Operand.func 37), args := #[Operand.tmp 9], argTypes := #[32] }, type := 65, pos := "pattern.go:179", after := #[{ on := 0, ground := Ground.data }], guard := none }) (Prod.fst r) fun (v : AV) => (fun (v : AV) (H' : AH) => kOps cfg (EV cfg) (kfN cfg 6) 297 1 (qb3 (sub (qe Tryz.f297) [1, 0])) (0 + 1 + 1) (qzj 2 (qze (qb3 (sub (qe Tryz.f297) [1, 0])))) (put (fx 32 [(0, AV.agg [AV.int IntKind.i64 kp, AV.int IntKind.i64 np, AV.str sp, AV.sl lp]), (1, AV.agg [AV.int IntKind.i64 kt, AV.int IntKind.i64 nt, AV.str st, AV.sl lt]), (2, AV.sl B), (3, AV.ptr 0 0 0), (4, AV.ptr 1 0 0), (6, AV.nilS), (7, AV.bool false), (9, AV.sl B)]) (some 10) v) H' fun (fr' : List AV) (H' : AH) => kSeq (fun (fr : List AV) (H : AH) => vK (Cfg.cut cfg 297 (qq (sub (qe Tryz.f297) [1, 1]))) fr H fun (fr : List AV) (H : AH) => qT cfg (EV cfg) (kfN cfg 6) 297 none 0 (sub (qe Tryz.f297) [1, 1]) fr H (vp cfg (Cfg.lift cfg 297 0) (qze (Func.results Tryz.f297)))) (vp cfg (Cfg.lift cfg 297 0) (qze (Func.results Tryz.f297))) Ex.normal fr' H') v (Prod.snd r)) (v, H)) (qze (Func.results (Prod.snd (231, Tryz.f231)))))) (xa cfg (Cfg.lift cfg 231 0) (fun (v : AV) (H : AH) => (fun (r : AV × AH) => kOpt (yn none 2 (Prod.fst r) (Prod.snd r)) fun (r : AV × AH) => kTy noTy cfg (Oper.type { dst := some 10, op := Op.call { callee := Callee.value (Operand.func 37), args := #[Operand.tmp 9], argTypes := #[32] }, type := 65, pos := "pattern.go:179", after := #[{ on := 0, ground := Ground.data }], guard := none }) (Prod.fst r) fun (v : AV) => (fun (v : AV) (H' : AH) => kOps cfg (EV cfg) (kfN cfg 6) 297 1 (qb3 (sub (qe Tryz.f297) [1, 0])) (0 + 1 + 1) (qzj 2 (qze (qb3 (sub (qe Tryz.f297) [1, 0])))) (put (fx 32 [(0, AV.agg [AV.int IntKind.i64 kp, AV.int IntKind.i64 np, AV.str sp, AV.sl lp]), (1, AV.agg [AV.int IntKind.i64 kt, AV.int IntKind.i64 nt, AV.str st, AV.sl lt]), (2, AV.sl B), (3, AV.ptr 0 0 0), (4, AV.ptr 1 0 0), (6, AV.nilS), (7, AV.bool false), (9, AV.sl B)]) (some 10) v) H' fun (fr' : List AV) (H' : AH) => kSeq (fun (fr : List AV) (H : AH) => vK (Cfg.cut cfg 297 (qq (sub (qe Tryz.f297) [1, 1]))) fr H fun (fr : List AV) (H : AH) => qT cfg (EV cfg) (kfN cfg 6) 297 none 0 (sub (qe Tryz.f297) [1, 1]) fr H (vp cfg (Cfg.lift cfg 297 0) (qze (Func.results Tryz.f297)))) (vp cfg (Cfg.lift cfg 297 0) (qze (Func.results Tryz.f297))) Ex.normal fr' H') v (Prod.snd r)) (v, H)) (qze (Func.results (Prod.snd (231, Tryz.f231)))))))
noncomputable def qsH (kp : Int) (np : Int) (sp : Bz) (lp : Rz) (kt : Int) (nt : Int) (st : Bz) (lt : Rz) (B : Rz) : List AV × AH → Option AV := fun (p : List AV × AH) => kOpt (LOOP 2 (some [3, 4, 9, 10, 11]) [] qxD p) (qyl kp np sp lp kt nt st lt B)
noncomputable abbrev qrk (kp np : Int) (sp : Bz) (lp : Rz) (kt nt : Int) (st : Bz) (lt B : Rz) (v4 v11 c0_0 c0_1 : Int) (c0_2 : Bz) (c0_3 : Rz) (c1_0 c1_1 : Int) (c1_2 : Bz) (c1_3 : Rz) (c2r0 : List AV) : Option (AV) := qsH (kp) (np) (sp) (lp) (kt) (nt) (st) (lt) (B) (((fx 48 [(3, .ptr 2 0 0), (4, .int .i64 v4), (9, .sl B), (10, .int .i64 (B.length : Int)), (11, .int .i64 v11)]) : List AV), ([.rows false 4 [[.int .i64 c0_0, .int .i64 c0_1, .str c0_2, .sl c0_3]], .rows false 4 [[.int .i64 c1_0, .int .i64 c1_1, .str c1_2, .sl c1_3]], .rows true 402 [c2r0]] : AH))
noncomputable abbrev quZ (kp np : Int) (sp : Bz) (lp : Rz) (kt nt : Int) (st : Bz) (lt B : Rz) (n n' n'' : Int) (s : Bz) (rows : Rz) (q : MV × List (List AV)) (row : List AV) (v4 v11 c0_0 c0_1 : Int) (c0_2 : Bz) (c0_3 : Rz) (c1_0 c1_1 : Int) (c1_2 : Bz) (c1_3 : Rz) : Option (AV) := qsH (kp) (np) (sp) (lp) (kt) (nt) (st) (lt) (B) (((fx 48 [(3, .ptr 2 0 0), (4, .int .i64 v4), (9, .sl B), (10, .int .i64 (B.length : Int)), (11, .int .i64 v11)]) : List AV), ([.rows false 4 [[.int .i64 c0_0, .int .i64 c0_1, .str c0_2, .sl c0_3]], .rows false 4 [[.int .i64 c1_0, .int .i64 c1_1, .str c1_2, .sl c1_3]], .rows true 402 (List.set q.2 0 (qy4 (qy4 (qyM (2 + qyY n * 4) row) [.int .i64 n', .int .i64 n'', .str s, .sl rows]) (qzj (2 + qyY n * 4 + 4) row)))] : AH))
theorem qog (kp np : Int) (sp : Bz) (lp : Rz) (kt nt : Int) (st : Bz) (lt B : Rz) {P : AV → Prop} (h : Gets (qrk kp np sp lp kt nt st lt B (- 1) 0 kp np sp lp kt nt st lt [AV.int .u64 0, .int .u64 0, .int .i64 0, .int .i64 0, .str [], .nilS, .int .i64 0, .int .i64 0, .str [], .nilS, .int .i64 0, .int .i64 0, .str [], .nilS, .int .i64 0, .int .i64 0, .str [], .nilS, .int .i64 (0 : Int), .int .i64 0, .str [], .nilS, .int .i64 0, .int .i64 0, .str [], .nilS, .int .i64 0, .int .i64 0, .str [], .nilS, .int .i64 0, .int .i64 0, .str [], .nilS, .int .i64 0, .int .i64 0, .str [], .nilS, .int .i64 0, .int .i64 0, .str [], .nilS, .int .i64 0, .int .i64 0, .str [], .nilS, .int .i64 0, .int .i64 0, .str [], .nilS, .int .i64 0, .int .i64 0, .str [], .nilS, .int .i64 0, .int .i64 0, .str [], .nilS, .int .i64 0, .int .i64 0, .str [], .nilS, .int .i64 0, .int .i64 0, .str [], .nilS, .int .i64 0, .int .i64 0, .str [], .nilS, .int .i64 0, .int .i64 0, .str [], .nilS, .int .i64 0, .int .i64 0, .str [], .nilS, .int .i64 0, .int .i64 0, .str [], .nilS, .int .i64 0, .int .i64 0, .str [], .nilS, .int .i64 0, .int .i64 0, .str [], .nilS, .int .i64 0, .int .i64 0, .str [], .nilS, .int .i64 0, .int .i64 0, .str [], .nilS, .int .i64 0, .int .i64 0, .str [], .nilS, .int .i64 0, .int .i64 0, .str [], .nilS, .int .i64 0, .int .i64 0, .str [], .nilS, .int .i64 0, .int .i64 0, .str [], .nilS, .int .i64 0, .int .i64 0, .str [], .nilS, .int .i64 0, .int .i64 0, .str [], .nilS, .int .i64 0, .int .i64 0, .str [], .nilS, .int .i64 0, .int .i64 0, .str [], .nilS, .int .i64 0, .int .i64 0, .str [], .nilS, .int .i64 0, .int .i64 0, .str [], .nilS, .int .i64 0, .int .i64 0, .str [], .nilS, .int .i64 0, .int .i64 0, .str [], .nilS, .int .i64 0, .int .i64 0, .str [], .nilS, .int .i64 0, .int .i64 0, .str [], .nilS, .int .i64 0, .int .i64 0, .str [], .nilS, .int .i64 0, .int .i64 0, .str [], .nilS, .int .i64 0, .int .i64 0, .str [], .nilS, .int .i64 0, .int .i64 0, .str [], .nilS, .int .i64 0, .int .i64 0, .str [], .nilS, .int .i64 0, .int .i64 0, .str [], .nilS, .int .i64 0, .int .i64 0, .str [], .nilS, .int .i64 0, .int .i64 0, .str [], .nilS, .int .i64 0, .int .i64 0, .str [], .nilS, .int .i64 0, .int .i64 0, .str [], .nilS, .int .i64 0, .int .i64 0, .str [], .nilS, .int .i64 0, .int .i64 0, .str [], .nilS, .int .i64 0, .int .i64 0, .str [], .nilS, .int .i64 0, .int .i64 0, .str [], .nilS, .int .i64 0, .int .i64 0, .str [], .nilS, .int .i64 0, .int .i64 0, .str [], .nilS, .int .i64 0, .int .i64 0, .str [], .nilS, .int .i64 0, .int .i64 0, .str [], .nilS, .int .i64 0, .int .i64 0, .str [], .nilS, .int .i64 0, .int .i64 0, .str [], .nilS, .int .i64 0, .int .i64 0, .str [], .nilS, .int .i64 0, .int .i64 0, .str [], .nilS, .int .i64 0, .int .i64 0, .str [], .nilS, .int .i64 0, .int .i64 0, .str [], .nilS, .int .i64 0, .int .i64 0, .str [], .nilS, .int .i64 0, .int .i64 0, .str [], .nilS, .int .i64 0, .int .i64 0, .str [], .nilS, .int .i64 0, .int .i64 0, .str [], .nilS, .int .i64 0, .int .i64 0, .str [], .nilS, .int .i64 0, .int .i64 0, .str [], .nilS, .int .i64 0, .int .i64 0, .str [], .nilS, .int .i64 0, .int .i64 0, .str [], .nilS, .int .i64 0, .int .i64 0, .str [], .nilS, .int .i64 0, .int .i64 0, .str [], .nilS, .int .i64 0, .int .i64 0, .str [], .nilS, .int .i64 0, .int .i64 0, .str [], .nilS, .int .i64 0, .int .i64 0, .str [], .nilS, .int .i64 0, .int .i64 0, .str [], .nilS, .int .i64 0, .int .i64 0, .str [], .nilS, .int .i64 0, .int .i64 0, .str [], .nilS, .int .i64 0, .int .i64 0, .str [], .nilS, .int .i64 0, .int .i64 0, .str [], .nilS, .int .i64 0, .int .i64 0, .str [], .nilS, .int .i64 0, .int .i64 0, .str [], .nilS, .int .i64 0, .int .i64 0, .str [], .nilS, .int .i64 0, .int .i64 0, .str [], .nilS, .int .i64 0, .int .i64 0, .str [], .nilS, .int .i64 0, .int .i64 0, .str [], .nilS, .int .i64 0, .int .i64 0, .str [], .nilS, .int .i64 0, .int .i64 0, .str [], .nilS, .int .i64 0, .int .i64 0, .str [], .nilS, .int .i64 0, .int .i64 0, .str [], .nilS, .int .i64 0, .int .i64 0, .str [], .nilS, .int .i64 0, .int .i64 0, .str [], .nilS, .int .i64 0, .int .i64 0, .str [], .nilS, .int .i64 0, .int .i64 0, .str [], .nilS, .int .i64 0, .int .i64 0, .str [], .nilS, .int .i64 0, .int .i64 0, .str [], .nilS, .int .i64 0, .int .i64 0, .str [], .nilS, .int .i64 0, .int .i64 0, .str [], .nilS, .int .i64 0, .int .i64 0, .str [], .nilS, .int .i64 0, .int .i64 0, .str [], .nilS]) P) : Gets (EVf (EV cfg) 297 [.agg [.int .i64 kp, .int .i64 np, .str sp, .sl lp], .agg [.int .i64 kt, .int .i64 nt, .str st, .sl lt], .sl B]) P :=
  gE (fun _ => funF rfl rfl Tryz.func297 rfl) (by kernel_rfl) h
theorem qnu (kp np : Int) (sp : Bz) (lp : Rz) (kt nt : Int) (st : Bz) (lt B : Rz) (v4 v11 c0_0 c0_1 : Int) (c0_2 : Bz) (c0_3 : Rz) (c1_0 c1_1 : Int) (c1_2 : Bz) (c1_3 : Rz) (c2r0 : List AV) {P : AV → Prop} (h : Gets (bif decide (v11 < (B.length : Int)) then bif qh 0 v11 && qg v11 (B.length : Int) then kOpt (qyG B (v11.toNat)) fun row => bif qyW (qyH row) 5 then bif qyQ 5 (qyH row) then qa (qyM 5 row) fun c cs => kInt .i64 c fun n => kTmC cs fun n_1 n_2 s rows => (bif decide (n ≤ v4) then some (AV.tup [.sl [], .bool false]) else bif decide (n > 99) then some (AV.tup [.sl [], .bool false]) else kOpt (EVs (EV cfg) 208 [.agg [.int .i64 n_1, .int .i64 n_2, .str s, .sl rows]]) fun v => qf v fun b => bif ! b then some (AV.tup [.sl [], .bool false]) else kOpt (EVm (EV cfg) 291 [.ptr 0 0 0, .int .i64 n] 402 [c2r0]) fun q => zB q.1 (bif qh 0 n && qg n 100 then kOpt (qyG q.2 0) fun row => bif qyQ (2 + qyY n * 4 + 4) (qyH row) then quZ kp np sp lp kt nt st lt B n n_1 n_2 s rows q row n (IntKind.wrap .i64 (v11 + 1)) c0_0 c0_1 c0_2 c0_3 c1_0 c1_1 c1_2 c1_3 else none else none)) else none else none else none else kOpt (EVs (EV cfg) 208 [.agg [.int .i64 c0_0, .int .i64 c0_1, .str c0_2, .sl c0_3]]) fun v => qf v fun b => bif ! b then some (AV.tup [.sl [], .bool false]) else kOpt (EVs (EV cfg) 208 [.agg [.int .i64 c1_0, .int .i64 c1_1, .str c1_2, .sl c1_3]]) fun v => qf v fun b => bif ! b then some (AV.tup [.sl [], .bool false]) else kOpt (EVm (EV cfg) 313 [.ptr 0 0 0, .agg [.int .i64 c0_0, .int .i64 c0_1, .str c0_2, .sl c0_3], .agg [.int .i64 c1_0, .int .i64 c1_1, .str c1_2, .sl c1_3]] 402 [c2r0]) fun q => xr q.1 fun b => bif ! b then some (AV.tup [.sl [], .bool false]) else kOpt (EVd (EV cfg) 314 [.ptr 0 0 0] 402 q.2) fun q => kSl q.1 fun rows => some (AV.tup [.sl rows, .bool true])) P) : Gets (qrk kp np sp lp kt nt st lt B v4 v11 c0_0 c0_1 c0_2 c0_3 c1_0 c1_1 c1_2 c1_3 c2r0) P :=
  gE (fun _ => qn (cfg := cfg) (f := 231) (rd := none) (bs := 2)) (by kernel_rfl) h
end Go.Proofs.YtkgkjngbfdnoiaaGreat
end
section
namespace Go.Av
theorem qeO (p t : Tm) (m : List (Int × Tm)) : xU p t m = if p.kind = 2 then
   (if p.str = [95] then some m else match varG p.str with
    | none => if p = t then some m else none
    | some v => match qP v m with
     | some x => if x = t then some m else none
     | none => some (m ++ [(v, t)]))
  else if p.kind = 7 ∨ p.kind = 9 then (if t.kind ≠ p.kind ∨ t.subs.length ≠ p.subs.length then none else xC p.subs t.subs m)
  else if p = t then some m else none := by
 obtain ⟨k, n, s, l⟩ := p
 rw [xU]
 rfl
theorem qaC (p t : Tm) (l l' : List Tm) (m : List (Int × Tm)) : xC (p :: l) (t :: l') m = (xU p t m).bind fun m' => xC l l' m' := by rw [xC]
theorem qbf (l' : List Tm) (m : List (Int × Tm)) : xC [] l' m = some m := by rw [xC]; simp
theorem yD {l : List Tm} {i : Nat} {t : Tm} (h : l[i]? = some t) : qyG (qb l) (qyY (i : Int)) = some t.cells := by
 rw [ql, qy3, xx, h]; rfl
def MOut (o : Option (List (Int × Tm))) (b : Bool) (r : List AV) : Prop := match o with
 | some m => b = true ∧ BRow m r ∧ ∀ q ∈ m, q.2.chk = 0
 | none => b = false
def QM (o : Option (List (Int × Tm))) (q : MV × List (List AV)) : Prop := ∃ b r, q = (MV.bool b, [r]) ∧ MOut o b r
theorem QM.same {p t : Tm} {m : List (Int × Tm)} {r : List AV} (h : BRow m r) (hm : ∀ q ∈ m, q.2.chk = 0) : QM (if p = t then some m else none) (MV.bool (decide (p = t)), [r]) := by
 refine ⟨_, r, rfl, ?_⟩
 by_cases h1 : p = t
 ·rw [if_pos h1, decide_eq_true h1]; exact ⟨rfl, h, hm⟩
 ·rw [if_neg h1, decide_eq_false h1]; exact rfl
def qcS (o : Option (List (Int × Tm))) : AV := match o with
 | some b => .tup [.sl (qo b), .bool true]
 | none => .tup [.sl [], .bool false]
end Go.Av
namespace Go.Proofs.YtkgkjngbfdnoiaaGreat
open Go.Av
theorem qcX {n : Nat} (h : n ≤ 1099511627776) : qN n 64 = true := by
 unfold qN; rw [qyK, qy9, qy9]; omega
theorem qlU {a b : Tm} (h : a.w < 1099511627776) : EVs (EV cfg) 136 [a.av, b.av] = some (.bool (decide (a = b))) := by
 obtain ⟨v, h1, c, rfl, h2⟩ := qu7 h b
 rw [h1]
 congr 2
 by_cases hab : a = b
 ·rw [decide_eq_true hab, h2.2 hab]
 ·rw [decide_eq_false hab]
  cases c with
  | false => rfl
  | true => exact absurd (h2.1 rfl) hab
theorem qtk : ∀ (n : Nat) (p t : Tm) (m : List (Int × Tm)) (r : List AV), p.w ≤ n → p.chk = 0 → t.chk = 0 → (∀ q ∈ m, q.2.chk = 0) → BRow m r →
  Gets (EVm (EV cfg) 313 [.ptr 0 0 0, p.av, t.av] 402 [r]) (QM (xU p t m)) := by
 intro n
 induction n with
 | zero => intro p t m r h; have := vH p; omega
 | succ n ih =>
  intro p t m r hw hp ht hm hr
  have hwp := vj hp
  have hwe := p.w_eq
  have step : ∀ (i : Nat) (m : List (Int × Tm)) (r : List AV), i < p.subs.length → p.subs.length = t.subs.length → (∀ q ∈ m, q.2.chk = 0) → BRow m r →
    ∃ x y, p.subs[i]? = some x ∧ t.subs[i]? = some y ∧ p.subs.drop i = x :: p.subs.drop (i + 1) ∧ t.subs.drop i = y :: t.subs.drop (i + 1) ∧ Gets (EVm (EV cfg) 313 [.ptr 0 0 0, x.av, y.av] 402 [r]) (QM (xU x y m)) := by
   intro i m r hi hl hm hr
   have hj : i < t.subs.length := by omega
   have hx : p.subs[i]? = some p.subs[i] := qyI hi
   have hy : t.subs[i]? = some t.subs[i] := qyI hj
   have mx := qyR hx
   have my := qyR hy
   have := vY mx
   exact ⟨_, _, hx, hy, qyS hi, qyS hj, ih _ _ m r (by omega) (qZ hp mx) (qZ ht my) hm hr⟩
  have hlen : p.subs.length < 1099511627776 := by have := zz p.subs; omega
  have loopA : p.subs.length = t.subs.length → ∀ (d i : Nat) (m : List (Int × Tm)) (r : List AV) (v : MV), i + d = p.subs.length → (∀ q ∈ m, q.2.chk = 0) → BRow m r →
    Gets (qfy (qb p.subs) (v, [r]) i p.kind p.num p.str (qb p.subs) t.kind t.num t.str (qb t.subs)) (QM (xC (p.subs.drop i) (t.subs.drop i) m)) := by
   intro hl d
   induction d with
   | zero =>
    intro i m r v hi hm hr
    obtain rfl : i = p.subs.length := by omega
    refine qeo _ _ _ _ _ _ _ _ _ _ _ ?_
    rw [qd, decide_eq_false (by omega), qyV (qyN _), qbf]
    exact ⟨_, rfl, _, _, rfl, rfl, hr, hm⟩
   | succ d ihd =>
    intro i m r v hi hm hr
    have hil : i < p.subs.length := by omega
    obtain ⟨x, y, hx, hy, dx, dy, hc⟩ := step i m r hil hl hm hr
    refine qeo _ _ _ _ _ _ _ _ _ _ _ ?_
    obtain ⟨q, hq, b, r', rfl, ho⟩ := hc
    have gx : qyG (qb p.subs) (qyY (i : Int)) = some x.cells := yD hx
    have gy : qyG (qb t.subs) (qyY (i : Int)) = some y.cells := yD hy
    rw [qd, qd, decide_eq_true (show (i : Int) < (p.subs.length : Int) by omega), qw, qD, qD, ← hl, decide_eq_true hil, gx, gy, qJ hil hlen, dx, dy, qaC]
    simp only [cond_true, qy2, qi, qy1, qp, qt, vw, qj, qc]
    rw [hq]
    simp only [qc, vV]
    cases hmt : xU x y m with
    | none =>
     rw [hmt] at ho
     obtain rfl : b = false := ho
     exact ⟨_, rfl, _, _, rfl, rfl⟩
    | some m' =>
     rw [hmt] at ho
     obtain ⟨rfl, hb, hm'⟩ := ho
     exact ihd (i + 1) m' r' _ (by omega) hm' hb
  have loop : p.subs.length = t.subs.length → Gets (qep (qb p.subs) 0 r p.kind p.num p.str (qb p.subs) t.kind t.num t.str (qb t.subs)) (QM (xC p.subs t.subs m)) := by
   intro hl
   by_cases h0 : p.subs.length = 0
   ·refine qgp _ _ _ _ _ _ _ _ _ _ _ ?_
    have hn : p.subs = [] := List.length_eq_zero_iff.1 h0
    rw [qd, h0, hn, qbf]
    exact ⟨_, rfl, _, _, rfl, rfl, hr, hm⟩
   ·have hil : 0 < p.subs.length := by omega
    obtain ⟨x, y, hx, hy, dx, dy, hc⟩ := step 0 m r hil hl hm hr
    rw [qzk] at dx dy
    refine qgp _ _ _ _ _ _ _ _ _ _ _ ?_
    obtain ⟨q, hq, b, r', rfl, ho⟩ := hc
    have g1 : qh 0 0 = true := rfl
    have g2 : qg 0 (p.subs.length : Int) = true := decide_eq_true (by omega)
    have g3 : IntKind.wrap .i64 (0 + 1) = ((0 + 1 : Nat) : Int) := rfl
    have gx : qyG (qb p.subs) (qyY 0) = some x.cells := yD (i := 0) hx
    have gy : qyG (qb t.subs) (qyY 0) = some y.cells := yD (i := 0) hy
    rw [qd, qd, decide_eq_true (show (0 : Int) < (p.subs.length : Int) by omega), g1, ← hl, g2, gx, gy, g3]
    have e : xC p.subs t.subs m = (xU x y m).bind fun m' => xC (p.subs.drop (0 + 1)) (t.subs.drop (0 + 1)) m' := by
     rw [← qaC, ← dx, ← dy]
    rw [e]
    simp only [cond_true, qy2, qi, qy1, qp, qt, vw, qj, qc]
    rw [hq]
    simp only [qc, vV]
    cases hmt : xU x y m with
    | none =>
     rw [hmt] at ho
     obtain rfl : b = false := ho
     exact ⟨_, rfl, _, _, rfl, rfl⟩
    | some m' =>
     rw [hmt] at ho
     obtain ⟨rfl, hb, hm'⟩ := ho
     exact loopA hl (p.subs.length - 1) 1 m' r' _ (by omega) hm' hb
  have same := qlU (a := p) (b := t) (by omega)
  have hf1 := hr.free
  rw [Tm.av, Tm.av, Tm.cells_eq, Tm.cells_eq]
  refine qrc _ _ _ _ _ _ _ _ _ ?_
  rw [beqI, beqI, beqI, beqS, z3, qj, qj, same, qeO, qd, qd]
  by_cases h2 : p.kind = 2
  ·rw [decide_eq_true h2, if_pos h2, cond_true]
   by_cases h95 : p.str = [95]
   ·rw [decide_eq_true h95, if_pos h95]
    exact ⟨_, rfl, _, _, rfl, rfl, hr, hm⟩
   ·rw [decide_eq_false h95, if_neg h95, cond_false]
    unfold varR
    simp only [qc, kTup, qa, qm, qk, kNil]
    cases hv : varG p.str with
    | none => exact ⟨_, rfl, QM.same hr hm⟩
    | some v =>
     obtain ⟨hv0, hv9⟩ := qcL hv
     obtain ⟨k, rfl⟩ : ∃ k : Nat, v = k := ⟨v.toNat, by omega⟩
     have hk : k < 100 := by omega
     have hf2 : qz 0 [AV.cptr r 0, .int .i64 (k : Int)] = true := by simp [qz, AV.refsLt, hr.free]
     have hl2 : qg (k : Int) 100 = true := by simp [qg]; omega
     simp only [Option.getD_some, qzl, qzh, cond_false, hf1, hf2, cond_true, qaN hr.set hk, qc, qk, qw, hl2, qy2, qy3]
     cases hx : qP (k : Int) m with
     | some x =>
      have hc := hr.cells k hk x hx
      have hb : qyQ (2 + k * 4 + 4) r.length = true := by rw [qy9, hr.len]; omega
      have hxc : x.chk = 0 := hm _ (xy hx)
      have hxw := vj hxc
      have hs := qlU (a := x) (b := t) (by omega)
      rw [hb, hc, Tm.cells_eq]
      simp only [qzl, cond_true, qa, qm, yN, vE, kNil, qj, hs, qc, qk]
      exact ⟨_, rfl, QM.same hr hm⟩
     | none =>
      obtain ⟨r', e1, e2, e3, e4, e5⟩ := qkg hr.set hk
      have hadd := hr.add (t := t) hk hx e2 e3 e4 e5
      have hb : qyQ (2 + k * 4 + 4) r'.length = true := by rw [qy9, e4, hr.len]; omega
      rw [Tm.cells_eq] at hadd
      simp only [Option.isSome_none, cond_false, e1, qc, qgO, ql, qy8, hb, cond_true]
      refine ⟨_, rfl, true, _, rfl, rfl, hadd, ?_⟩
      intro q hq
      rcases qzi.1 hq with h | h
      ·exact hm q h
      ·simp at h; subst h; exact ht
  ·rw [decide_eq_false h2, if_neg h2, cond_false, bneD, bneD]
   have hlb : (p.kind = 7 ∨ p.kind = 9) → Gets (bif !decide (t.kind = p.kind) then some (MV.bool false, [r]) else bif !decide ((t.subs.length : Int) = (p.subs.length : Int)) then some (MV.bool false, [r]) else qep (qb p.subs) 0 r p.kind p.num p.str (qb p.subs) t.kind t.num t.str (qb t.subs)) (QM (if p.kind = 7 ∨ p.kind = 9 then (if t.kind ≠ p.kind ∨ t.subs.length ≠ p.subs.length then none else xC p.subs t.subs m) else if p = t then some m else none)) := by
    intro h79
    rw [if_pos h79]
    by_cases hk : t.kind = p.kind
    ·rw [decide_eq_true hk]
     by_cases hl : t.subs.length = p.subs.length
     ·rw [decide_eq_true (show (t.subs.length : Int) = (p.subs.length : Int) by omega), if_neg (by simp [hk, hl])]
      exact loop hl.symm
     ·rw [decide_eq_false (show ¬ (t.subs.length : Int) = (p.subs.length : Int) by omega), if_pos (.inr hl)]
      exact ⟨_, rfl, _, _, rfl, rfl⟩
    ·rw [decide_eq_false hk, if_pos (.inl hk)]
     exact ⟨_, rfl, _, _, rfl, rfl⟩
   by_cases h7 : p.kind = 7
   ·rw [decide_eq_true h7, cond_true]
    exact hlb (.inl h7)
   ·rw [decide_eq_false h7, cond_false]
    by_cases h9 : p.kind = 9
    ·rw [decide_eq_true h9, cond_true]
     exact hlb (.inr h9)
    ·rw [decide_eq_false h9, cond_false, if_neg (by omega)]
     exact ⟨_, rfl, QM.same hr hm⟩
theorem qs2 {m : List (Int × Tm)} {r : List AV} (hr : BRow m r) (hm : ∀ q ∈ m, q.2.chk = 0) : EVd (EV cfg) 314 [.ptr 0 0 0] 402 [r] = some (.sl (qo (vN m)), [r]) := by
 have hf1 := hr.free
 have loop : ∀ d i : Nat, i + d = 100 → Gets (qen ((qzn i).filterMap fun n => (qP (n : Nat) m).map fun t => ((n : Int), t)).length i r (qo ((qzn i).filterMap fun n => (qP (n : Nat) m).map fun t => ((n : Int), t)))) (· = (AV.sl (qo (vN m)), [r])) := by
  intro d
  induction d with
  | zero =>
   intro i hi
   obtain rfl : i = 100 := by omega
   refine qgo _ _ _ _ ?_
   have e1 : qyQ (0 + (vN m).length) (qo (vN m)).length = true := by rw [qy9, qQ]; omega
   have e2 : qyM (vN m).length (qo (vN m)) = qo (vN m) := qyP (by rw [qQ]; exact qyN _)
   unfold vN at e1 e2
   rw [show decide (((100 : Nat) : Int) < 100) = false from rfl, e1, e2]
   exact ⟨_, rfl, rfl⟩
  | succ d ih =>
   intro i hi
   have hk : i < 100 := by omega
   have h1 := ih (i + 1) (by omega)
   rw [List.range_succ, List.filterMap_append] at h1
   generalize hacc : (qzn i).filterMap (fun n => (qP (n : Nat) m).map fun t => ((n : Int), t)) = acc at h1 ⊢
   have hle : acc.length ≤ i := by
    rw [← hacc]
    have := List.length_filterMap_le (fun n => (qP (n : Nat) m).map fun t => ((n : Int), t)) (qzn i)
    rw [List.length_range] at this; exact this
   refine qgo _ _ _ _ ?_
   have e1 : qyQ (0 + acc.length) (qo acc).length = true := by rw [qy9, qQ]; omega
   have e2 : qyM acc.length (qo acc) = qo acc := qyP (by rw [qQ]; exact qyN _)
   have e3 : IntKind.wrap .i64 ((i : Int) + 1) = ((i + 1 : Nat) : Int) := by rw [qM (by omega) (by omega)]; omega
   have hf2 : qz 0 [AV.cptr r 0, .int .i64 (i : Int)] = true := by simp [qz, AV.refsLt, hr.free]
   have hl2 : qg (i : Int) 100 = true := by simp [qg]; omega
   have hb : qyQ (2 + i * 4 + 4) r.length = true := by rw [qy9, hr.len]; omega
   rw [decide_eq_true (show (i : Int) < 100 by omega), e1, e2, e3]
   simp only [cond_true, qc, qk, hf1, hf2, qy2, qaN hr.set hk, qw, hl2, qy3, hb]
   cases hx : qP (i : Int) m with
   | none =>
    have : List.filterMap (fun n => (qP (n : Nat) m).map fun t => ((n : Int), t)) [i] = [] := by simp [hx]
    rw [this, List.append_nil] at h1
    rw [Option.isSome_none, cond_false]
    exact h1
   | some x =>
    have hc := hr.cells i hk x hx
    have hxc : x.chk = 0 := hm _ (xy hx)
    have hcp := qpi (qit hxc)
    have : List.filterMap (fun n => (qP (n : Nat) m).map fun t => ((n : Int), t)) [i] = [((i : Int), x)] := by simp [hx]
    rw [this, qy6, List.length_singleton] at h1
    have e4 : qo (acc ++ [((i : Int), x)]) = qy4 (qo acc) [.int .i64 i :: x.cells] := by unfold qo; rw [List.map_append]; rfl
    rw [e4, Tm.cells_eq] at h1
    rw [hc, Tm.cells_eq]
    simp only [qzl, cond_true, qa, qm, yN, vE, kNil, qj, hcp, qc, qE, qcX (show acc.length + 1 ≤ 1099511627776 by omega)]
    exact h1
 apply Gets.get
 refine qrb _ ?_
 exact loop 100 0 rfl
theorem qoh {p t : Tm} (wp : p.w < 1099511627776) (wt : t.w < 1099511627776) : EVf (EV cfg) 297 [p.av, t.av, .sl []] = some (qcS (yk p t)) := by
 have mp := zP wp
 have mt := zP wt
 have hm := qtk p.w p t [] ([AV.int .u64 0, AV.int .u64 0] ++ (qzf 100 [AV.int .i64 0, AV.int .i64 0, .str [], .nilS]).flatten) (qyN _)
 apply Gets.get
 rw [Tm.av, Tm.av, Tm.cells_eq, Tm.cells_eq] at hm ⊢
 rw [Tm.av, Tm.cells_eq] at mp mt
 refine qog _ _ _ _ _ _ _ _ _ ?_
 refine qnu _ _ _ _ _ _ _ _ _ _ _ _ _ _ _ _ _ _ _ _ ?_
 rw [mp, mt]
 simp only [qc, qk, show decide ((0 : Int) < (([] : List (List AV)).length : Int)) = false from rfl, cond_false]
 unfold yk
 by_cases hp : p.chk = 0
 ·by_cases ht : t.chk = 0
  ·rw [decide_eq_true hp, decide_eq_true ht, if_pos ⟨hp, ht⟩]
   obtain ⟨q, hq, b, r', rfl, ho⟩ := hm hp ht (by simp) qoZ
   have h : Gets (kOpt (EVm (EV cfg) 313 [.ptr 0 0 0, .agg [AV.int .i64 p.kind, .int .i64 p.num, .str p.str, .sl (qb p.subs)], .agg [AV.int .i64 t.kind, .int .i64 t.num, .str t.str, .sl (qb t.subs)]] 402 [[AV.int .u64 0, AV.int .u64 0] ++ (qzf 100 [AV.int .i64 0, AV.int .i64 0, .str [], .nilS]).flatten]) fun (q : MV × List (List AV)) => xr q.1 fun (b : Bool) => bif !b then some (AV.tup [.sl [], .bool false]) else kOpt (EVd (EV cfg) 314 [.ptr 0 0 0] 402 q.2) fun (q : AV × List (List AV)) => kSl q.1 fun (rows : List (List AV)) => some (AV.tup [.sl rows, .bool true])) (· = qcS ((xU p t []).map vN)) := by
    rw [hq]
    simp only [qc, vV]
    cases hmt : xU p t [] with
    | none =>
     rw [hmt] at ho
     obtain rfl : b = false := ho
     exact ⟨_, rfl, rfl⟩
    | some m' =>
     rw [hmt] at ho
     obtain ⟨rfl, hb, hm'⟩ := ho
     rw [qs2 hb hm']
     exact ⟨_, rfl, rfl⟩
   refine Gets.eq ?_ h
   kernel_rfl
  ·rw [decide_eq_true hp, decide_eq_false ht, if_neg (fun h => ht h.2)]
   exact ⟨_, rfl, rfl⟩
 ·rw [decide_eq_false hp, if_neg (fun h => hp h.1)]
  exact ⟨_, rfl, rfl⟩
theorem qoi {p t : Tm} (wp : p.w < 1099511627776) (wt : t.w < 1099511627776) : EVf (EV cfg) 252 [p.av, t.av] = some (qcS (yk p t)) := by
 have hm := qoh wp wt
 apply Gets.get
 rw [Tm.av, Tm.av, Tm.cells_eq, Tm.cells_eq] at hm ⊢
 refine qmp _ _ _ _ _ _ _ _ ?_
 rw [hm]
 cases yk p t <;> exact ⟨_, rfl, rfl⟩
noncomputable def qxK : Den := evC cfg (EV cfg) 257 none 10 (sub (qe Tryz.f257) [0, 0, 0])
noncomputable def qys : Ex × List AV × AH → Option (OV × AV) := kAft (Cfg.keepOut cfg 257 (qq (sub (qe Tryz.f257) [0, 0, 0]))) (vF 0 (kSeq (fun (fr : List AV) (H : AH) => vK (Cfg.cut cfg 257 (qq (sub (qe Tryz.f257) [1]))) fr H fun (fr : List AV) (H : AH) => qT cfg (EV cfg) (kfN cfg (5)) 55 none 10 (sub (qe Tryz.f257) [1]) fr H (xa cfg (Cfg.lift cfg 257 0) (fun (v : AV) (H : AH) => (fun (r : AV × AH) => xM 0 9 (fx 34 [(2, AV.ptr 1 0 0), (3, AV.ptr 2 0 0), (4, AV.ptr 3 0 0), (5, AV.ptr 4 0 0)]) (vF 0 (kSeq (fun (fr : List AV) (H : AH) => vK (Cfg.cut cfg 103 (qq (sub (qe Tryz.f103) [1, 1, 1, 1, 1]))) fr H fun (fr : List AV) (H : AH) => qT cfg (EV cfg) (kfN cfg 6) 103 none 0 (sub (qe Tryz.f103) [1, 1, 1, 1, 1]) fr H (qfP cfg (Cfg.lift cfg 103 0) (qze (Func.results Tryz.f103)))) (qfP cfg (Cfg.lift cfg 103 0) (qze (Func.results Tryz.f103))))) (Prod.snd r)) (v, H)) (qze (Func.results (Prod.snd (257, Tryz.f257)))))) (xa cfg (Cfg.lift cfg 257 0) (fun (v : AV) (H : AH) => (fun (r : AV × AH) => xM 0 9 (fx 34 [(2, AV.ptr 1 0 0), (3, AV.ptr 2 0 0), (4, AV.ptr 3 0 0), (5, AV.ptr 4 0 0)]) (vF 0 (kSeq (fun (fr : List AV) (H : AH) => vK (Cfg.cut cfg 103 (qq (sub (qe Tryz.f103) [1, 1, 1, 1, 1]))) fr H fun (fr : List AV) (H : AH) => qT cfg (EV cfg) (kfN cfg 6) 103 none 0 (sub (qe Tryz.f103) [1, 1, 1, 1, 1]) fr H (qfP cfg (Cfg.lift cfg 103 0) (qze (Func.results Tryz.f103)))) (qfP cfg (Cfg.lift cfg 103 0) (qze (Func.results Tryz.f103))))) (Prod.snd r)) (v, H)) (qze (Func.results (Prod.snd (257, Tryz.f257)))))))
noncomputable def qsK : List AV × AH → Option (OV × AV) := fun (p : List AV × AH) => kOpt (LOOP 10 (some [0, 1, 2]) [] qxK p) qys
noncomputable def qsO : Den := evC cfg (EV cfg) 187 none 0 (sub (qe Tryz.f187) [1, 1, 1, 1, 1, 1, 1, 1, 0, 1, 0, 0])
noncomputable def qsW : Ex × List AV × AH → Option AV := kAft (Cfg.keepOut cfg 187 11) (kRun cfg (EV cfg) (kfN cfg 6) 187 none 0 (vp cfg (Cfg.lift cfg 187 0) Tryz.f187.results.toList) ([.block 0, .seq (sub (qe Tryz.f187) [1, 1, 1, 1, 1, 1, 1, 1, 1])]))
noncomputable def qnm : List AV × AH → Option AV := fun p => kOpt (LOOP 0 (some [2, 4, 5, 73, 74]) ([]) qsO p) qsW
noncomputable def qxJ : Den := evC cfg (EV cfg) 187 none 0 (sub (qe Tryz.f187) [1, 1, 1, 1, 1, 1, 1, 1, 0, 1, 0, 0, 1, 1, 0, 0, 1, 1, 0, 0])
noncomputable def qyr : Ex × List AV × AH → Option AV := kAft (Cfg.keepOut cfg 187 14) (kRun cfg (EV cfg) (kfN cfg 6) 187 none 0 (kLp 0 (some [2, 4, 5, 73, 74]) ([]) qsO qsW) ([.block 2, .block 1, .seq (sub (qe Tryz.f187) [1, 1, 1, 1, 1, 1, 1, 1, 0, 1, 0, 0, 1, 1, 1])]))
noncomputable def qsJ : List AV × AH → Option AV := fun p => kOpt (LOOP 0 (some [2, 4, 5, 73, 74, 77, 78, 79]) ([]) qxJ p) qyr
noncomputable abbrev qlH (c0_0 c0_1 : Int) (c0_2 : Bz) (c0_3 : Rz) (nc1_0 : Nat) (c2_0 : Int) (nc3_0 : Nat) (c4_0 : Bool) (c5_0 c5_1 : Int) (c5_2 : Bz) (c5_3 h7 h8 : Rz) : Option (OV × AV) := qsK  (((fx 23 [(0, .yld 9), (1, .ptr 5 0 0), (2, .ptr 6 0 0)]) : List AV), ([.rows false 4 [[.int .i64 c0_0, .int .i64 c0_1, .str c0_2, .sl c0_3]], .rows false 1 [[.ms 7 0 nc1_0]], .rows false 1 [[.int .i64 c2_0]], .rows false 1 [[.ms 8 0 nc3_0]], .rows false 1 [[.bool c4_0]], .rows false 4 [[.int .i64 c5_0, .int .i64 c5_1, .str c5_2, .sl c5_3]], .rows false 1 [[.ptr 4 0 0]], .rows true 6 h7, .rows true 6 h8, rngB Tryz.f103 103 [1, 1, 1, 1, 0, 1, 0] (fx 34 [(2, .ptr 1 0 0), (3, .ptr 2 0 0), (4, .ptr 3 0 0)]) none LoopState.ready] : AH))
noncomputable abbrev qrl (n n' : Int) (s : Bz) (rows rows' rows'' rows''' : Rz) : Option (AV) := qnm  (((fx 91 [(2, .ptr 0 0 0), (4, .ptr 1 0 0), (5, .sl rows'), (73, .agg [.sl rows'', .sl rows''']), (74, .int .i64 (0 : Int))]) : List AV), ([.rows false 6 [[.int .i64 (0 : Int), .int .i64 (0 : Int), .str [], .sl [], .sl [], .sl []]], .rows false 6 [[.int .i64 n, .int .i64 n', .str s, .sl rows, .sl rows'', .sl rows''']]] : AH))
noncomputable abbrev qjs (c0_0 c0_1 : Int) (c0_2 : Bz) (c0_3 : Rz) (nc1_0 : Nat) (c2_0 : Int) (nc3_0 : Nat) (c4_0 : Bool) (c5_0 c5_1 : Int) (c5_2 : Bz) (c5_3 h7 h10 : Rz) : Option (OV × AV) := qsK  (((fx 23 [(0, .yld 9), (1, .ptr 5 0 0), (2, .ptr 6 0 0)]) : List AV), ([.rows false 4 [[.int .i64 c0_0, .int .i64 c0_1, .str c0_2, .sl c0_3]], .rows false 1 [[.ms 7 0 nc1_0]], .rows false 1 [[.int .i64 c2_0]], .rows false 1 [[.ms 10 0 nc3_0]], .rows false 1 [[.bool c4_0]], .rows false 4 [[.int .i64 c5_0, .int .i64 c5_1, .str c5_2, .sl c5_3]], .rows false 1 [[.ptr 4 0 0]], .rows true 6 h7, .dead, rngB Tryz.f103 103 [1, 1, 1, 1, 0, 1, 0] (fx 34 [(2, .ptr 1 0 0), (3, .ptr 2 0 0), (4, .ptr 3 0 0)]) none LoopState.ready, .rows true 6 h10] : AH))
noncomputable abbrev qhW (rows' rows'' rows''' : Rz) (v79 c0_0 c0_1 : Int) (c0_2 : Bz) (c0_3 c0_4 c0_5 : Rz) (c1_0 c1_1 : Int) (c1_2 : Bz) (c1_3 c1_4 c1_5 : Rz) : Option (AV) := qsJ  (((fx 91 [(2, .ptr 0 0 0), (4, .ptr 1 0 0), (5, .sl rows'), (73, .agg [.sl rows'', .sl rows''']), (74, .int .i64 (0 : Int)), (77, .sl rows''), (78, .int .i64 (rows''.length : Int)), (79, .int .i64 v79)]) : List AV), ([.rows false 6 [[.int .i64 c0_0, .int .i64 c0_1, .str c0_2, .sl c0_3, .sl c0_4, .sl c0_5]], .rows false 6 [[.int .i64 c1_0, .int .i64 c1_1, .str c1_2, .sl c1_3, .sl c1_4, .sl c1_5]]] : AH))
noncomputable abbrev qo1 (rows' rows'' rows''' : Rz) (c0_0 c0_1 : Int) (c0_2 : Bz) (c0_3 c0_4 c0_5 : Rz) (c1_0 c1_1 : Int) (c1_2 : Bz) (c1_3 c1_4 c1_5 : Rz) : Option (AV) := qnm  (((fx 91 [(2, .ptr 0 0 0), (4, .ptr 1 0 0), (5, .sl rows'), (73, .agg [.sl rows'', .sl rows''']), (74, .int .i64 (1 : Int))]) : List AV), ([.rows false 6 [[.int .i64 c0_0, .int .i64 c0_1, .str c0_2, .sl c0_3, .sl c0_4, .sl c0_5]], .rows false 6 [[.int .i64 c1_0, .int .i64 c1_1, .str c1_2, .sl c1_3, .sl c1_4, .sl c1_5]]] : AH))
noncomputable abbrev qfA (rows' rows'' rows''' : Rz) (v79 c0_0 c0_1 : Int) (c0_2 : Bz) (c0_3 c0_4 c0_5 : Rz) (c1_0 c1_1 : Int) (c1_2 : Bz) (c1_3 c1_4 c1_5 : Rz) : Option (AV) := qsJ  (((fx 91 [(2, .ptr 0 0 0), (4, .ptr 1 0 0), (5, .sl rows'), (73, .agg [.sl rows'', .sl rows''']), (74, .int .i64 (1 : Int)), (77, .sl rows'''), (78, .int .i64 (rows'''.length : Int)), (79, .int .i64 v79)]) : List AV), ([.rows false 6 [[.int .i64 c0_0, .int .i64 c0_1, .str c0_2, .sl c0_3, .sl c0_4, .sl c0_5]], .rows false 6 [[.int .i64 c1_0, .int .i64 c1_1, .str c1_2, .sl c1_3, .sl c1_4, .sl c1_5]]] : AH))
noncomputable abbrev qo0 (rows' rows'' rows''' : Rz) (c0_0 c0_1 : Int) (c0_2 : Bz) (c0_3 c0_4 c0_5 : Rz) (c1_0 c1_1 : Int) (c1_2 : Bz) (c1_3 c1_4 c1_5 : Rz) : Option (AV) := qnm  (((fx 91 [(2, .ptr 0 0 0), (4, .ptr 1 0 0), (5, .sl rows'), (73, .agg [.sl rows'', .sl rows''']), (74, .int .i64 (2 : Int))]) : List AV), ([.rows false 6 [[.int .i64 c0_0, .int .i64 c0_1, .str c0_2, .sl c0_3, .sl c0_4, .sl c0_5]], .rows false 6 [[.int .i64 c1_0, .int .i64 c1_1, .str c1_2, .sl c1_3, .sl c1_4, .sl c1_5]]] : AH))
theorem qjB (kt nt : Int) (st : Bz) (lt : Rz) {P : OV × AV → Prop} (h : Gets (kOpt (EVs (EV cfg) 91 [.agg [.int .i64 kt, .int .i64 nt, .str st, .sl lt]]) fun v => kInt .i64 v fun n => bif n != 0 then some (OV.own 6 [] 0 0, .int .i64 (2 : Int)) else qlH kt nt st lt 0 0 0 false kt nt st lt [] []) P) : Gets (EVq (EV cfg) 103 [.agg [.int .i64 kt, .int .i64 nt, .str st, .sl lt]]) P :=
  gE (fun _ => funQ rfl rfl Tryz.func103 rfl) (by kernel_rfl) h
noncomputable abbrev zz0  : Option (AV) := some (AV.tup [.agg [.int .i64 0, .int .i64 0, .str [], .sl [], .sl [], .sl []], .bool false])
noncomputable abbrev zz1  : Option (AV) := some (AV.tup [AV.agg [.int .i64 0, .int .i64 0, .str [], .sl [], .sl [], .sl []], .bool false])
theorem qlR (kt nt : Int) (st : Bz) (lt : Rz) {P : AV → Prop} (h : Gets (bif kt != 7 then zz0 else bif (lt.length : Int) != 3 then zz0 else bif qg 0 (lt.length : Int) then kOpt (qyG lt 0) fun row => bif qyW (qyH row) 4 then bif qyQ 4 (qyH row) then kTmC (qyM 4 row) fun n n_1 s rows => (kOpt (EVs (EV cfg) 258 [.agg [.int .i64 n, .int .i64 n_1, .str s, .sl rows]]) fun v => qf v fun b => bif ! b then some (AV.tup [.agg [.int .i64 0, .int .i64 0, .str [], .sl [], .sl [], .sl []], .bool false]) else bif qg 0 (lt.length : Int) then kOpt (qyG lt 0) fun row => bif qyW (qyH row) 4 then bif qyQ 4 (qyH row) then kTmC (qyM 4 row) fun n n_2 s rows => (kOpt (EVf (EV cfg) 259 [.agg [.int .i64 n, .int .i64 n_2, .str s, .sl rows]]) fun v => kSl v fun rows_1 => bif qg 1 (lt.length : Int) then kOpt (qyG lt 1) fun row => bif qyW (qyH row) 4 then bif qyQ 4 (qyH row) then kTmC (qyM 4 row) fun n_3 n_4 s_1 rows_2 => (kOpt (EVf (EV cfg) 260 [.agg [.int .i64 n_3, .int .i64 n_4, .str s_1, .sl rows_2]]) fun v => kTup v fun cs => qa cs fun c cs => kSl c fun rows_3 => qa cs fun c cs => qf c fun b => kNil cs (bif qg 2 (lt.length : Int) then kOpt (qyG lt 2) fun row => bif qyW (qyH row) 4 then bif qyQ 4 (qyH row) then kTmC (qyM 4 row) fun n_5 n_6 s_2 rows_4 => (kOpt (EVf (EV cfg) 260 [AV.agg [.int .i64 n_5, .int .i64 n_6, .str s_2, .sl rows_4]]) fun v => kTup v fun cs => qa cs fun c cs => kSl c fun rows_5 => qa cs fun c cs => qf c fun b_1 => kNil cs (bif ! b then some (AV.tup [AV.agg [.int .i64 0, .int .i64 (0 : Int), .str [], .sl [], .sl [], .sl []], .bool false]) else bif ! b_1 then zz1 else bif (rows_5.length : Int) == 0 then zz1 else qrl n n_2 s rows rows_1 rows_3 rows_5)) else none else none else none)) else none else none else none) else none else none else none) else none else none else none) P) : Gets (EVf (EV cfg) 187 [.agg [.int .i64 kt, .int .i64 nt, .str st, .sl lt]]) P :=
  gE (fun _ => funF rfl rfl Tryz.func187 rfl) (by kernel_rfl) h
noncomputable abbrev zz9 (cs : List AV) (nc3_0 : Nat) (h8 c5_3 : Rz) (c0_0 c0_1 : Int) (c0_2 : Bz) (c0_3 : Rz) (nc1_0 : Nat) (c2_0 : Int) (c4_0 : Bool) (h7 : Rz) (n n_2 : Int) (s : Bz) (rows rows_1 rows_2 : Rz) : Option (OV × AV) := qa cs fun c cs => qf c fun b => kNil cs (bif ! b then some (OV.own 6 [] 0 0, .int .i64 10) else bif qyQ (0 + nc3_0) (qyH h8) && qN (nc3_0 + 1) 104 then bif qg 1 (c5_3.length : Int) then kOpt (qyG c5_3 1) fun row => bif qyW (qyH row) 4 then bif qyQ 4 (qyH row) then kTmC (qyM 4 row) fun n_3 n_4 s_1 rows_3 => (qjs c0_0 c0_1 c0_2 c0_3 nc1_0 c2_0 (nc3_0 + 1) c4_0 n_3 n_4 s_1 rows_3 h7 (qy4 (qyM nc3_0 h8) [[AV.int .i64 n, .int .i64 n_2, .str s, .sl rows, .sl rows_1, .sl rows_2]])) else none else none else none else none)
noncomputable abbrev zz8 (n n_1 : Int) (s : Bz) (rows : Rz) (nc3_0 : Nat) (h8 c5_3 : Rz) (c0_0 c0_1 : Int) (c0_2 : Bz) (c0_3 : Rz) (nc1_0 : Nat) (c2_0 : Int) (c4_0 : Bool) (h7 : Rz) : Option (OV × AV) := (kOpt (EVf (EV cfg) 187 [.agg [.int .i64 n, .int .i64 n_1, .str s, .sl rows]]) fun v => kTup v fun cs => qa cs fun c cs => kAgg c fun cs_1 => qa cs_1 fun c cs_2 => kInt .i64 c fun n => qa cs_2 fun c cs_3 => kInt .i64 c fun n_2 => qa cs_3 fun c cs_4 => kStr c fun s => qa cs_4 fun c cs_5 => kSl c fun rows => qa cs_5 fun c cs_6 => kSl c fun rows_1 => qa cs_6 fun c cs_7 => kSl c fun rows_2 => kNil cs_7 (zz9 cs nc3_0 h8 c5_3 c0_0 c0_1 c0_2 c0_3 nc1_0 c2_0 c4_0 h7 n n_2 s rows rows_1 rows_2))
noncomputable abbrev zz7 (row : List AV) (nc3_0 : Nat) (h8 c5_3 : Rz) (c0_0 c0_1 : Int) (c0_2 : Bz) (c0_3 : Rz) (nc1_0 : Nat) (c2_0 : Int) (c4_0 : Bool) (h7 : Rz) : Option (OV × AV) := kTmC (qyM 4 row) fun n n_1 s rows => zz8 n n_1 s rows nc3_0 h8 c5_3 c0_0 c0_1 c0_2 c0_3 nc1_0 c2_0 c4_0 h7
noncomputable abbrev zz6 (row : List AV) (nc3_0 : Nat) (h8 c5_3 : Rz) (c0_0 c0_1 : Int) (c0_2 : Bz) (c0_3 : Rz) (nc1_0 : Nat) (c2_0 : Int) (c4_0 : Bool) (h7 : Rz) : Option (OV × AV) := bif qyQ 4 (qyH row) then zz7 row nc3_0 h8 c5_3 c0_0 c0_1 c0_2 c0_3 nc1_0 c2_0 c4_0 h7 else none
noncomputable abbrev zz5 (row : List AV) (nc3_0 : Nat) (h8 c5_3 : Rz) (c0_0 c0_1 : Int) (c0_2 : Bz) (c0_3 : Rz) (nc1_0 : Nat) (c2_0 : Int) (c4_0 : Bool) (h7 : Rz) : Option (OV × AV) := bif qyW (qyH row) 4 then zz6 row nc3_0 h8 c5_3 c0_0 c0_1 c0_2 c0_3 nc1_0 c2_0 c4_0 h7 else none
noncomputable abbrev zz4 (c5_3 : Rz) (nc3_0 : Nat) (h8 : Rz) (c0_0 c0_1 : Int) (c0_2 : Bz) (c0_3 : Rz) (nc1_0 : Nat) (c2_0 : Int) (c4_0 : Bool) (h7 : Rz) : Option (OV × AV) := kOpt (qyG c5_3 0) fun row => zz5 row nc3_0 h8 c5_3 c0_0 c0_1 c0_2 c0_3 nc1_0 c2_0 c4_0 h7
noncomputable abbrev zz3 (c5_3 : Rz) (nc3_0 : Nat) (h8 : Rz) (c0_0 c0_1 : Int) (c0_2 : Bz) (c0_3 : Rz) (nc1_0 : Nat) (c2_0 : Int) (c4_0 : Bool) (h7 : Rz) : Option (OV × AV) := bif qg 0 (c5_3.length : Int) then zz4 c5_3 nc3_0 h8 c0_0 c0_1 c0_2 c0_3 nc1_0 c2_0 c4_0 h7 else none
noncomputable abbrev zz2 (c5_0 : Int) (c5_3 : Rz) (nc3_0 : Nat) (h8 : Rz) (c0_0 c0_1 : Int) (c0_2 : Bz) (c0_3 : Rz) (nc1_0 : Nat) (c2_0 : Int) (c4_0 : Bool) (h7 : Rz) : Option (OV × AV) := bif c5_0 == 9 then zz3 c5_3 nc3_0 h8 c0_0 c0_1 c0_2 c0_3 nc1_0 c2_0 c4_0 h7 else bif ! c5_0 == 8 then some (OV.own 6 [] 0 0, .int .i64 10) else bif (↑ nc3_0 : Int) == 0 then some (OV.own 6 [] 0 0, .int .i64 10) else some (OV.own 6 h8 0 nc3_0, .int .i64 0)
theorem qnz (c0_0 c0_1 : Int) (c0_2 : Bz) (c0_3 : Rz) (nc1_0 : Nat) (c2_0 : Int) (nc3_0 : Nat) (c4_0 : Bool) (c5_0 c5_1 : Int) (c5_2 : Bz) (c5_3 h7 h8 : Rz) {P : OV × AV → Prop} (h : Gets (zz2 c5_0 c5_3 nc3_0 h8 c0_0 c0_1 c0_2 c0_3 nc1_0 c2_0 c4_0 h7) P) : Gets (qlH c0_0 c0_1 c0_2 c0_3 nc1_0 c2_0 nc3_0 c4_0 c5_0 c5_1 c5_2 c5_3 h7 h8) P :=
  gE (fun _ => qn (cfg := cfg) (f := 257) (rd := none) (bs := 10)) (by kernel_rfl) h
theorem qny (n n' : Int) (s : Bz) (rows rows' rows'' rows''' : Rz) {P : AV → Prop} (h : Gets (qhW rows' rows'' rows''' 0 0 0 [] [] [] [] n n' s rows rows'' rows''') P) : Gets (qrl n n' s rows rows' rows'' rows''') P :=
  gE (fun _ => qn (cfg := cfg) (f := 187) (rd := none) (bs := 0)) (by kernel_rfl) h
theorem qlG (c0_0 c0_1 : Int) (c0_2 : Bz) (c0_3 : Rz) (nc1_0 : Nat) (c2_0 : Int) (nc3_0 : Nat) (c4_0 : Bool) (c5_0 c5_1 : Int) (c5_2 : Bz) (c5_3 h7 h10 : Rz) {P : OV × AV → Prop} (h : Gets (zz2 c5_0 c5_3 nc3_0 h10 c0_0 c0_1 c0_2 c0_3 nc1_0 c2_0 c4_0 h7) P) : Gets (qjs c0_0 c0_1 c0_2 c0_3 nc1_0 c2_0 nc3_0 c4_0 c5_0 c5_1 c5_2 c5_3 h7 h10) P :=
  gE (fun _ => qn (cfg := cfg) (f := 257) (rd := none) (bs := 10)) (by kernel_rfl) h
theorem qgt (rows' rows'' rows''' : Rz) (v79 c0_0 c0_1 : Int) (c0_2 : Bz) (c0_3 c0_4 c0_5 : Rz) (c1_0 c1_1 : Int) (c1_2 : Bz) (c1_3 c1_4 c1_5 : Rz) {P : AV → Prop} (h : Gets (bif decide (v79 < (rows''.length : Int)) then bif qh 0 v79 && qg v79 (rows''.length : Int) then kOpt (qyG rows'' (v79.toNat)) fun row => bif qyW (qyH row) 4 then bif qyQ 4 (qyH row) then kTmC (qyM 4 row) fun n n_1 s rows => (kOpt (EVs (EV cfg) 69 [.agg [.int .i64 n, .int .i64 n_1, .str s, .sl rows], .sl rows']) fun v => kInt .i64 v fun n => bif n != 0 then some (AV.tup [.agg [.int .i64 (0 : Int), .int .i64 0, .str [], .sl [], .sl [], .sl []], .bool false]) else qhW rows' rows'' rows''' (IntKind.wrap .i64 (v79 + 1)) c0_0 c0_1 c0_2 c0_3 c0_4 c0_5 c1_0 c1_1 c1_2 c1_3 c1_4 c1_5) else none else none else none else qo1 rows' rows'' rows''' c0_0 c0_1 c0_2 c0_3 c0_4 c0_5 c1_0 c1_1 c1_2 c1_3 c1_4 c1_5) P) : Gets (qhW rows' rows'' rows''' v79 c0_0 c0_1 c0_2 c0_3 c0_4 c0_5 c1_0 c1_1 c1_2 c1_3 c1_4 c1_5) P :=
  gE (fun _ => qn (cfg := cfg) (f := 187) (rd := none) (bs := 0)) (by kernel_rfl) h
theorem qlF (rows' rows'' rows''' : Rz) (c0_0 c0_1 : Int) (c0_2 : Bz) (c0_3 c0_4 c0_5 : Rz) (c1_0 c1_1 : Int) (c1_2 : Bz) (c1_3 c1_4 c1_5 : Rz) {P : AV → Prop} (h : Gets (qfA rows' rows'' rows''' 0 c0_0 c0_1 c0_2 c0_3 c0_4 c0_5 c1_0 c1_1 c1_2 c1_3 c1_4 c1_5) P) : Gets (qo1 rows' rows'' rows''' c0_0 c0_1 c0_2 c0_3 c0_4 c0_5 c1_0 c1_1 c1_2 c1_3 c1_4 c1_5) P :=
  gE (fun _ => qn (cfg := cfg) (f := 187) (rd := none) (bs := 0)) (by kernel_rfl) h
theorem qer (rows' rows'' rows''' : Rz) (v79 c0_0 c0_1 : Int) (c0_2 : Bz) (c0_3 c0_4 c0_5 : Rz) (c1_0 c1_1 : Int) (c1_2 : Bz) (c1_3 c1_4 c1_5 : Rz) {P : AV → Prop} (h : Gets (bif decide (v79 < (rows'''.length : Int)) then bif qh 0 v79 && qg v79 (rows'''.length : Int) then kOpt (qyG rows''' (v79.toNat)) fun row => bif qyW (qyH row) 4 then bif qyQ 4 (qyH row) then kTmC (qyM 4 row) fun n n_1 s rows => (kOpt (EVs (EV cfg) 69 [.agg [.int .i64 n, .int .i64 n_1, .str s, .sl rows], .sl rows']) fun v => kInt .i64 v fun n => bif n != 0 then some (AV.tup [.agg [.int .i64 0, .int .i64 0, .str [], .sl [], .sl [], .sl []], .bool false]) else qfA rows' rows'' rows''' (IntKind.wrap .i64 (v79 + 1)) c0_0 c0_1 c0_2 c0_3 c0_4 c0_5 c1_0 c1_1 c1_2 c1_3 c1_4 c1_5) else none else none else none else qo0 rows' rows'' rows''' c0_0 c0_1 c0_2 c0_3 c0_4 c0_5 c1_0 c1_1 c1_2 c1_3 c1_4 c1_5) P) : Gets (qfA rows' rows'' rows''' v79 c0_0 c0_1 c0_2 c0_3 c0_4 c0_5 c1_0 c1_1 c1_2 c1_3 c1_4 c1_5) P :=
  gE (fun _ => qn (cfg := cfg) (f := 187) (rd := none) (bs := 0)) (by kernel_rfl) h
theorem qlE (rows' rows'' rows''' : Rz) (c0_0 c0_1 : Int) (c0_2 : Bz) (c0_3 c0_4 c0_5 : Rz) (c1_0 c1_1 : Int) (c1_2 : Bz) (c1_3 c1_4 c1_5 : Rz) {P : AV → Prop} (h : Gets (some (AV.tup [.agg [.int .i64 c1_0, .int .i64 c1_1, .str c1_2, .sl c1_3, .sl c1_4, .sl c1_5], .bool true])) P) : Gets (qo0 rows' rows'' rows''' c0_0 c0_1 c0_2 c0_3 c0_4 c0_5 c1_0 c1_1 c1_2 c1_3 c1_4 c1_5) P :=
  gE (fun _ => qn (cfg := cfg) (f := 187) (rd := none) (bs := 0)) (by kernel_rfl) h
end Go.Proofs.YtkgkjngbfdnoiaaGreat
end
section
namespace Go.Av
def clR (o : Option Cl) : AV := match o with
 | some c => .tup [c.av, .bool true]
 | none => .tup [qdc.av, .bool false]
def clsQ (r : List Cl × Int) : OV × AV := (.own 6 (vB r.1) 0 r.1.length, .int .i64 r.2)
def clsA (acc : List Cl) (t : Tm) : List Cl × Int := match seqC (qC t).1 with
 | some l => if (qC t).2 && !(acc ++ l).isEmpty then (acc ++ l, 0) else ([], 10)
 | none => ([], 10)
def okV (V : List Int) (l : List Tm) : Bool := l.all fun e => decide (xg V e = 0)
theorem qhb (V : List Int) (x : Tm) (l : List Tm) : okV V (x :: l) = (decide (xg V x = 0) && okV V l) := rfl
theorem qet (p : Tm) : (xG p).length ≤ 100 := by
 unfold xG
 by_cases h : p.chk = 0
 ·rw [if_pos h, qzd]
  have := List.length_filter_le (fun n : Nat => vP (n : Nat) p) (qzn 100)
  rw [List.length_range] at this
  exact this
 ·rw [if_neg h]; exact Nat.zero_le _
theorem qj1 {n : Nat} (h : n ≤ 1099511627776) : qN n 104 = true := by
 unfold qN; rw [qyK, qy9, qy9]; omega
def ClOk (c : Cl) : Prop := c.head.chk = 0 ∧ (∀ x ∈ c.gs, x.chk = 0) ∧ (∀ x ∈ c.bs, x.chk = 0) ∧ c.gs.length ≤ 8388608 ∧ c.bs.length ≤ 8388608
theorem qra {t : Tm} (h : t.chk = 0) {c : Cl} (hc : vM t = some c) : ClOk c := by
 unfold vM at hc
 by_cases h7 : t.kind = 7
 ·rw [if_pos h7] at hc
  have hw := vj h
  have hwe := t.w_eq
  cases hs : t.subs with
  | nil => rw [hs] at hc; cases hc
  | cons a l => cases l with
   | nil => rw [hs] at hc; cases hc
   | cons b l => cases l with
    | nil => rw [hs] at hc; cases hc
    | cons d l => cases l with
     | nil =>
      rw [hs] at hc hwe
      simp only [qV, vQ] at hwe
      simp only [] at hc
      split at hc
      ·cases hc
       have ha : a.chk = 0 := qZ h (by rw [hs]; simp)
       have hb : b.chk = 0 := qZ h (by rw [hs]; simp)
       have hd : d.chk = 0 := qZ h (by rw [hs]; simp)
       have lb := yO hb
       have ld := yO hd
       exact ⟨ha, qbn hb, qbn hd, by show (qC b).1.length ≤ _; omega, by show (qC d).1.length ≤ _; omega⟩
      ·cases hc
     | cons e l => rw [hs] at hc; cases hc
 ·rw [if_neg h7] at hc; cases hc
theorem qo7 : ∀ {l : List Tm} {cs : List Cl}, (∀ x ∈ l, x.chk = 0) → seqC l = some cs → ∀ c ∈ cs, ClOk c
 | [], cs, _, h => by cases h; intro c hc; cases hc
 | t :: l, cs, ho, h => by
  rw [seqC] at h
  obtain ⟨c, hc, h⟩ := qyJ.1 h
  obtain ⟨r, hr, rfl⟩ := qyO.1 h
  intro d hd
  rcases qzm.1 hd with rfl | hd
  ·exact qra (ho t List.mem_cons_self) hc
  ·exact qo7 (fun x hx => ho x (List.mem_cons_of_mem _ hx)) hr d hd
theorem qj3 (t : Tm) : (∀ c ∈ (clsG t).1, ClOk c) ∧ (clsG t).1.length ≤ 8388608 := by
 unfold clsG
 by_cases hc : t.chk = 0
 ·rw [if_pos hc]
  have hw := vj hc
  have hl := yO hc
  cases hs : seqC (qC t).1 with
  | none => exact ⟨fun c hc => (by cases hc), Nat.zero_le _⟩
  | some l =>
   simp only []
   have hn := qg8 hs
   split
   ·exact ⟨qo7 (qbn hc) hs, by show l.length ≤ _; omega⟩
   ·exact ⟨fun c hc => (by cases hc), Nat.zero_le _⟩
 ·rw [if_neg hc]; exact ⟨fun c hc => (by cases hc), Nat.zero_le _⟩
end Go.Av
namespace Go.Proofs.YtkgkjngbfdnoiaaGreat
open Go.Av
theorem qna {V : List Int} {h : Tm} {G B : List Tm} (hV : V.length < 1099511627776) (hB : B.length < 1099511627776) (wB : ∀ x ∈ B, x.w < 1099511627776) : ∀ d i : Nat, i + d = B.length →
  Gets (qfA (qx V) (qb G) (qb B) i 0 0 [] [] [] [] h.kind h.num h.str (qb h.subs) (qb G) (qb B)) (· = clR (if okV V (B.drop i) then some ⟨h, G, B⟩ else none)) := by
 intro d
 induction d with
 | zero =>
  intro i hi
  obtain rfl : i = B.length := by omega
  refine qer _ _ _ _ _ _ _ _ _ _ _ _ _ _ _ _ ?_
  rw [qd, decide_eq_false (by omega), cond_false, qyV (qyN _)]
  refine qlE _ _ _ _ _ _ _ _ _ _ _ _ _ _ _ ?_
  exact ⟨_, rfl, rfl⟩
 | succ d ih =>
  intro i hi
  have hil : i < B.length := by omega
  have hx : B[i]? = some B[i] := qyI hil
  have hg := qa4 hV (wB _ (qyR hx))
  have h1 := ih (i + 1) (by omega)
  rw [qyS hil, qhb]
  refine qer _ _ _ _ _ _ _ _ _ _ _ _ _ _ _ _ ?_
  have gx : qyG (qb B) (qyY (i : Int)) = some B[i].cells := yD hx
  rw [qd, decide_eq_true (show (i : Int) < (B.length : Int) by omega), qw, qD, decide_eq_true hil, gx, qJ hil hB]
  simp only [cond_true, qy2, qc, qi, qy1, qp, qt, vw, qj, hg, qm, bneD]
  by_cases h0 : xg V B[i] = 0
  ·rw [decide_eq_true h0, qzg]
   exact h1
  ·rw [decide_eq_false h0]
   exact ⟨_, rfl, rfl⟩
theorem qnb {V : List Int} {h : Tm} {G B : List Tm} (hV : V.length < 1099511627776) (hG : G.length < 1099511627776) (wG : ∀ x ∈ G, x.w < 1099511627776) (hB : B.length < 1099511627776) (wB : ∀ x ∈ B, x.w < 1099511627776) : ∀ d i : Nat, i + d = G.length →
  Gets (qhW (qx V) (qb G) (qb B) i 0 0 [] [] [] [] h.kind h.num h.str (qb h.subs) (qb G) (qb B)) (· = clR (if okV V (G.drop i) && okV V B then some ⟨h, G, B⟩ else none)) := by
 intro d
 induction d with
 | zero =>
  intro i hi
  obtain rfl : i = G.length := by omega
  refine qgt _ _ _ _ _ _ _ _ _ _ _ _ _ _ _ _ ?_
  rw [qd, decide_eq_false (by omega), cond_false, qyV (qyN _)]
  refine qlF _ _ _ _ _ _ _ _ _ _ _ _ _ _ _ ?_
  exact qna (h := h) (G := G) hV hB wB B.length 0 (by omega)
 | succ d ih =>
  intro i hi
  have hil : i < G.length := by omega
  have hx : G[i]? = some G[i] := qyI hil
  have hg := qa4 hV (wG _ (qyR hx))
  have h1 := ih (i + 1) (by omega)
  rw [qyS hil, qhb]
  refine qgt _ _ _ _ _ _ _ _ _ _ _ _ _ _ _ _ ?_
  have gx : qyG (qb G) (qyY (i : Int)) = some G[i].cells := yD hx
  rw [qd, decide_eq_true (show (i : Int) < (G.length : Int) by omega), qw, qD, decide_eq_true hil, gx, qJ hil hG]
  simp only [cond_true, qy2, qc, qi, qy1, qp, qt, vw, qj, hg, qm, bneD]
  by_cases h0 : xg V G[i] = 0
  ·rw [decide_eq_true h0, qzg]
   exact h1
  ·rw [decide_eq_false h0]
   exact ⟨_, rfl, rfl⟩
theorem qkI {t : Tm} (hc : t.chk = 0) : EVf (EV cfg) 187 [t.av] = some (clR (vM t)) := by
 have hw := vj hc
 have hwe := t.w_eq
 have hz : AV.tup [.agg [AV.int .i64 (0 : Int), .int .i64 (0 : Int), .str [], .sl [], .sl [], .sl []], .bool false] = clR none := rfl
 apply Gets.get
 rw [Tm.av, Tm.cells_eq]
 refine qlR _ _ _ _ ?_
 unfold zz1 zz0
 rw [bneD, bneD, hz, qd]
 by_cases h7 : t.kind = 7
 ·rw [decide_eq_true h7]
  by_cases h3 : t.subs.length = 3
  ·obtain ⟨h, g, b, hs⟩ : ∃ h g b, t.subs = [h, g, b] := by
    cases hs : t.subs with
    | nil => rw [hs] at h3; simp at h3
    | cons a l => cases l with
     | nil => rw [hs] at h3; simp at h3
     | cons b l => cases l with
      | nil => rw [hs] at h3; simp at h3
      | cons d l => cases l with
       | nil => exact ⟨a, b, d, rfl⟩
       | cons e l => rw [hs] at h3; simp at h3
   have ch : h.chk = 0 := qZ hc (by rw [hs]; simp)
   have cg : g.chk = 0 := qZ hc (by rw [hs]; simp)
   have cb : b.chk = 0 := qZ hc (by rw [hs]; simp)
   rw [hs] at hwe
   simp only [qV, vQ] at hwe
   have lg := yO cg
   have lb := yO cb
   have hh := qrt (t := h) (by omega)
   have hv := qqg (t := h) (by omega)
   have e1 := qke cg
   have e2 := qke cb
   have hl := qnb (V := xG h) (h := h) (G := (qC g).1) (B := (qC b).1) (by have := qet h; omega) (by omega) (fun x hx => by have := vY hx; omega) (by omega) (fun x hx => by have := vY hx; omega) (qC g).1.length 0 (by omega)
   have gh : vM t = if qaf h && ((qC g).2 && ((qC b).2 && !(qC b).1.isEmpty)) && (okV (xG h) (qC g).1 && okV (xG h) (qC b).1) then some ⟨h, (qC g).1, (qC b).1⟩ else none := by
    unfold vM; rw [if_pos h7, hs]; rfl
   rw [decide_eq_true (show (t.subs.length : Int) = 3 by omega), hs, qy, qy, qy, qI, gh]
   have g0 : qyG [h.cells, g.cells, b.cells] 0 = some h.cells := rfl
   have g1 : qyG [h.cells, g.cells, b.cells] 1 = some g.cells := rfl
   have g2 : qyG [h.cells, g.cells, b.cells] 2 = some b.cells := rfl
   have l0 : qg 0 (([h, g, b].length : Nat) : Int) = true := rfl
   have l1 : qg 1 (([h, g, b].length : Nat) : Int) = true := rfl
   have l2 : qg 2 (([h, g, b].length : Nat) : Int) = true := rfl
   rw [g0, g1, g2]
   simp only [l0, l1, l2, qzh, cond_false, cond_true, qy2, qc, qi, qy1, qp, qt, vw, qj, hh, qk]
   cases qaf h with
   | false => exact ⟨_, rfl, rfl⟩
   | true =>
    simp only [qzh, cond_false, qzg, hv, e1, e2, lsR, qc, kTup, qa, vE, qk, kNil, qd, beqI]
    cases (qC g).2 with
    | false => exact ⟨_, rfl, rfl⟩
    | true =>
     cases (qC b).2 with
     | false => exact ⟨_, rfl, rfl⟩
     | true =>
      simp only [qzh, cond_false, qzg]
      cases hb : (qC b).1 with
      | nil => exact ⟨_, rfl, rfl⟩
      | cons x l =>
       rw [hb] at hl
       rw [decide_eq_false (show ¬ (((x :: l).length : Nat) : Int) = 0 by simp; omega)]
       refine qny _ _ _ _ _ _ _ ?_
       exact hl
  ·have : vM t = none := by
    unfold vM
    rw [if_pos h7]
    cases hs : t.subs with
    | nil => rfl
    | cons a l => cases l with
     | nil => rfl
     | cons b l => cases l with
      | nil => rfl
      | cons d l => cases l with
       | nil => rw [hs] at h3; simp at h3
       | cons e l => rfl
   rw [decide_eq_false (show ¬ (t.subs.length : Int) = 3 by omega), this]
   exact ⟨_, rfl, rfl⟩
 ·have : vM t = none := by unfold vM; rw [if_neg h7]
  rw [decide_eq_false h7, this]
  exact ⟨_, rfl, rfl⟩
theorem qlh {c : Tm} : ∀ (n : Nat) (t : Tm) (acc : List Cl), t.w ≤ n → t.chk = 0 → acc.length + n < 1099511627776 →
  Gets (qjs c.kind c.num c.str (qb c.subs) 0 0 acc.length false t.kind t.num t.str (qb t.subs) [] (vB acc)) (· = clsQ (clsA acc t)) := by
 intro n
 induction n with
 | zero => intro t acc h; have := vH t; omega
 | succ n ih =>
  intro t acc hw hc hn
  refine qlG _ _ _ _ _ _ _ _ _ _ _ _ _ _ ?_
  unfold zz2 zz3 zz4 zz5 zz6 zz7 zz8 zz9
  rw [beqI, beqI, beqI]
  by_cases h9 : t.kind = 9
  ·obtain ⟨x, y, hs⟩ := yd hc h9
   have hwe := t.w_eq
   rw [hs] at hwe
   simp only [qV, vQ] at hwe
   have hxc : x.chk = 0 := qZ hc (by rw [hs]; simp)
   have hyc : y.chk = 0 := qZ hc (by rw [hs]; simp)
   have hce := qkI hxc
   have e1 : qyQ (0 + acc.length) (vB acc).length = true := by rw [qy9, zO]; omega
   have e2 : qyM acc.length (vB acc) = vB acc := qyP (by rw [zO]; exact qyN _)
   rw [decide_eq_true h9, cond_true, hs, lt0T, yP, lt1T, ys, e1, e2, qj1 (by omega)]
   simp only [cond_true, qy2, qc, qi, qy1, qp, qt, vw, qj, hce]
   cases hcl : vM x with
   | none =>
    have : clsA acc t = ([], 10) := by unfold clsA; rw [xo h9 hs, seqC, hcl]; rfl
    rw [this]
    exact ⟨_, rfl, rfl⟩
   | some d =>
    have : clsA acc t = clsA (acc ++ [d]) y := by
     unfold clsA
     rw [xo h9 hs, seqC, hcl]
     cases seqC (qC y).1 with
     | none => rfl
     | some l => simp
    rw [this]
    have h := ih y (acc ++ [d]) (by omega) hyc (by rw [qy6, List.length_singleton]; omega)
    rw [qy6, List.length_singleton] at h
    have e3 : qy4 (vB acc) [[AV.int .i64 d.head.kind, .int .i64 d.head.num, .str d.head.str, .sl (qb d.head.subs), .sl (qb d.gs), .sl (qb d.bs)]] = vB (acc ++ [d]) := (qbD acc [d]).symm
    simp only [clR, Cl.av, Cl.cells, kTup, qa, kAgg, qm, yN, vE, kNil, qk, qzh, cond_false, e3]
    exact h
  ·rw [decide_eq_false h9, cond_false]
   have hi : clsA acc t = if t.kind = 8 ∧ acc ≠ [] then (acc, 0) else ([], 10) := by
    unfold clsA
    rw [yl h9, seqC]
    by_cases h8 : t.kind = 8
    ·cases acc <;> simp [h8]
    ·simp [h8]
   rw [hi]
   by_cases h8 : t.kind = 8
   ·rw [decide_eq_true h8]
    cases acc with
    | nil => rw [if_neg (fun h => h.2 rfl)]; exact ⟨_, rfl, rfl⟩
    | cons a l =>
     rw [decide_eq_false (show ¬ (((a :: l).length : Nat) : Int) = 0 by simp; omega), if_pos ⟨h8, by simp⟩]
     exact ⟨_, rfl, rfl⟩
   ·rw [decide_eq_false h8, if_neg (fun h => h8 h.1)]
    exact ⟨_, rfl, rfl⟩
theorem qm9 {c : Tm} : ∀ (n : Nat) (t : Tm) (acc : List Cl), t.w ≤ n → t.chk = 0 → acc.length + n < 1099511627776 →
  Gets (qlH c.kind c.num c.str (qb c.subs) 0 0 acc.length false t.kind t.num t.str (qb t.subs) [] (vB acc)) (· = clsQ (clsA acc t)) := by
 intro n
 induction n with
 | zero => intro t acc h; have := vH t; omega
 | succ n ih =>
  intro t acc hw hc hn
  refine qnz _ _ _ _ _ _ _ _ _ _ _ _ _ _ ?_
  unfold zz2 zz3 zz4 zz5 zz6 zz7 zz8 zz9
  rw [beqI, beqI, beqI]
  by_cases h9 : t.kind = 9
  ·obtain ⟨x, y, hs⟩ := yd hc h9
   have hwe := t.w_eq
   rw [hs] at hwe
   simp only [qV, vQ] at hwe
   have hxc : x.chk = 0 := qZ hc (by rw [hs]; simp)
   have hyc : y.chk = 0 := qZ hc (by rw [hs]; simp)
   have hce := qkI hxc
   have e1 : qyQ (0 + acc.length) (vB acc).length = true := by rw [qy9, zO]; omega
   have e2 : qyM acc.length (vB acc) = vB acc := qyP (by rw [zO]; exact qyN _)
   rw [decide_eq_true h9, cond_true, hs, lt0T, yP, lt1T, ys, e1, e2, qj1 (by omega)]
   simp only [cond_true, qy2, qc, qi, qy1, qp, qt, vw, qj, hce]
   cases hcl : vM x with
   | none =>
    have : clsA acc t = ([], 10) := by unfold clsA; rw [xo h9 hs, seqC, hcl]; rfl
    rw [this]
    exact ⟨_, rfl, rfl⟩
   | some d =>
    have : clsA acc t = clsA (acc ++ [d]) y := by
     unfold clsA
     rw [xo h9 hs, seqC, hcl]
     cases seqC (qC y).1 with
     | none => rfl
     | some l => simp
    rw [this]
    have h := qlh (c := c) n y (acc ++ [d]) (by omega) hyc (by rw [qy6, List.length_singleton]; omega)
    rw [qy6, List.length_singleton] at h
    have e3 : qy4 (vB acc) [[AV.int .i64 d.head.kind, .int .i64 d.head.num, .str d.head.str, .sl (qb d.head.subs), .sl (qb d.gs), .sl (qb d.bs)]] = vB (acc ++ [d]) := (qbD acc [d]).symm
    simp only [clR, Cl.av, Cl.cells, kTup, qa, kAgg, qm, yN, vE, kNil, qk, qzh, cond_false, e3]
    exact h
  ·rw [decide_eq_false h9, cond_false]
   have hi : clsA acc t = if t.kind = 8 ∧ acc ≠ [] then (acc, 0) else ([], 10) := by
    unfold clsA
    rw [yl h9, seqC]
    by_cases h8 : t.kind = 8
    ·cases acc <;> simp [h8]
    ·simp [h8]
   rw [hi]
   by_cases h8 : t.kind = 8
   ·rw [decide_eq_true h8]
    cases acc with
    | nil => rw [if_neg (fun h => h.2 rfl)]; exact ⟨_, rfl, rfl⟩
    | cons a l =>
     rw [decide_eq_false (show ¬ (((a :: l).length : Nat) : Int) = 0 by simp; omega), if_pos ⟨h8, by simp⟩]
     exact ⟨_, rfl, rfl⟩
   ·rw [decide_eq_false h8, if_neg (fun h => h8 h.1)]
    exact ⟨_, rfl, rfl⟩
theorem qje {t : Tm} (hw : t.w < 1099511627776) : EVq (EV cfg) 103 [t.av] = some (clsQ (clsG t)) := by
 have hk := zK hw
 apply Gets.get
 rw [Tm.av, Tm.cells_eq] at hk ⊢
 refine qjB _ _ _ _ ?_
 rw [hk]
 simp only [qc, qm, bneD]
 unfold clsG
 by_cases hc : t.chk = 0
 ·rw [decide_eq_true hc, if_pos hc]
  exact qm9 (c := t) t.w t [] (qyN _) hc (by have := vj hc; simp; omega)
 ·rw [decide_eq_false hc, if_neg hc]
  exact ⟨_, rfl, rfl⟩
theorem qh4 {t : Tm} (hw : t.w < 1099511627776) : EVs (EV cfg) 36 [t.av] = some (.int .i64 (clsG t).2) := by
 have hk := qje hw
 apply Gets.get
 rw [Tm.av, Tm.cells_eq] at hk ⊢
 refine qnK _ _ _ _ ?_
 rw [hk]
 exact ⟨_, rfl, rfl⟩
end Go.Proofs.YtkgkjngbfdnoiaaGreat
end
section
namespace Go.Av
theorem qdy : ∀ (n : Nat) (p t : Tm) (m m' : List (Int × Tm)), p.w ≤ n → t.chk = 0 → (∀ q ∈ m, q.2.chk = 0) → xU p t m = some m' → ∀ q ∈ m', q.2.chk = 0 := by
 intro n
 induction n with
 | zero => intro p t m m' h; have := vH p; omega
 | succ n ih =>
  intro p t m m' hw ht hm h
  have hwe := p.w_eq
  rw [qeO] at h
  by_cases h2 : p.kind = 2
  ·rw [if_pos h2] at h
   by_cases h95 : p.str = [95]
   ·rw [if_pos h95] at h; cases h; exact hm
   ·rw [if_neg h95] at h
    cases hv : varG p.str with
    | none =>
     rw [hv] at h
     simp only [] at h
     split at h
     ·cases h; exact hm
     ·cases h
    | some v =>
     rw [hv] at h
     simp only [] at h
     cases hx : qP v m with
     | some x =>
      rw [hx] at h
      simp only [] at h
      split at h
      ·cases h; exact hm
      ·cases h
     | none =>
      rw [hx] at h
      cases h
      intro q hq
      rcases qzi.1 hq with hq | hq
      ·exact hm q hq
      ·simp at hq; subst hq; exact ht
  ·rw [if_neg h2] at h
   by_cases h79 : p.kind = 7 ∨ p.kind = 9
   ·rw [if_pos h79] at h
    split at h
    ·cases h
    ·have main : ∀ (l l' : List Tm) (m m' : List (Int × Tm)), wL l ≤ n → (∀ x ∈ l', x.chk = 0) → (∀ q ∈ m, q.2.chk = 0) → xC l l' m = some m' → ∀ q ∈ m', q.2.chk = 0 := by
      intro l
      induction l with
      | nil => intro l' m m' _ _ hm h; rw [qbf] at h; cases h; exact hm
      | cons x l ihl =>
       intro l' m m' hw hl hm h
       rw [qV] at hw
       cases l' with
       | nil =>
        have : xC (x :: l) [] m = some m := by rw [xC]; simp
        rw [this] at h; cases h; exact hm
       | cons y l' =>
        rw [qaC] at h
        obtain ⟨m1, h1, h3⟩ := qyJ.1 h
        have hm1 := ih x y m m1 (by omega) (hl y List.mem_cons_self) hm h1
        exact ihl l' m1 m' (by omega) (fun z hz => hl z (List.mem_cons_of_mem _ hz)) hm1 h3
     exact main p.subs t.subs m m' (by omega) (fun x hx => qZ ht hx) hm h
   ·rw [if_neg h79] at h
    split at h
    ·cases h; exact hm
    ·cases h
theorem qkd {m : List (Int × Tm)} {q : Int × Tm} (h : q ∈ vN m) : q ∈ m ∧ 0 ≤ q.1 ∧ q.1 ≤ 99 := by
 unfold vN at h
 obtain ⟨n, hn, h⟩ := List.mem_filterMap.1 h
 obtain ⟨t, ht, rfl⟩ := qyO.1 h
 rw [List.mem_range] at hn
 exact ⟨xy ht, by show (0 : Int) ≤ (n : Int); omega, by show (n : Int) ≤ 99; omega⟩
theorem qjJ {f : Nat → Option Tm} (hf : ∀ n t, f n = some t → t.chk = 0) : ∀ (d i : Nat) (last : Int), i + d = 100 → last < i → mayB last ((List.range' i d).filterMap fun n => (f n).map fun t => ((n : Int), t)) = true := by
 intro d
 induction d with
 | zero => intro i last _ _; rfl
 | succ d ih =>
  intro i last hi hl
  rw [List.range'_succ, List.filterMap_cons]
  cases hx : f i with
  | none => exact ih (i + 1) last (by omega) (by omega)
  | some t =>
   have h1 := ih (i + 1) i (by omega) (by omega)
   simp only [qy7, mayB, decide_eq_true hl, decide_eq_true (show (i : Int) ≤ 99 by omega), decide_eq_true (hf i t hx), qzg]
   exact h1
theorem qix {p t : Tm} {b : List (Int × Tm)} (h : yk p t = some b) : mayB (-1) b = true ∧ (∀ q ∈ b, q.2.chk = 0) ∧ t.chk = 0 ∧ p.chk = 0 := by
 unfold yk at h
 split at h
 ·rename_i hc
  obtain ⟨m, hm, rfl⟩ := qyO.1 h
  have hk := qdy _ p t [] m (qyN _) hc.2 (by simp) hm
  refine ⟨?_, fun q hq => hk q (qkd hq).1, hc.2, hc.1⟩
  unfold vN
  rw [List.range_eq_range']
  exact qjJ (f := fun n => qP (n : Nat) m) (fun n t ht => hk _ (xy ht)) 100 0 (-1) rfl (by omega)
 ·cases h
end Go.Av
namespace Go.Proofs.YtkgkjngbfdnoiaaGreat
open Go.Av
theorem qY (t : Tm) : t.av = .agg [.int .i64 t.kind, .int .i64 t.num, .str t.str, .sl (qb t.subs)] := by rw [Tm.av, Tm.cells_eq]
def qfa (r : Int × Tm × Int) : AV := .tup [.int .i64 r.1, r.2.1.av, .int .i64 r.2.2]
end Go.Proofs.YtkgkjngbfdnoiaaGreat
end
section
namespace Go.Proofs.YtkgkjngbfdnoiaaGreat.R
open Go.Av
noncomputable def qvK : Den := evC cfg (EV cfg) 86 none 0 (sub (qe Tryz.f86) [1, 1, 0, 1, 0, 0])
noncomputable def qv0 : Ex × List AV × AH → Option AV := kAft (Cfg.keepOut cfg 86 3) (kRun cfg (EV cfg) (kfN cfg 6) 86 none 0 (vX cfg (Cfg.lift cfg 86 0) Tryz.f86.results.toList) ([.block 0, .seq (sub (qe Tryz.f86) [1, 1, 1])]))
noncomputable def qvy : List AV × AH → Option AV := fun p => kOpt (LOOP 0 (some [3, 6, 16, 17, 18]) ([]) qvK p) qv0
noncomputable abbrev qfo (L : Rz) (b : Bool) (v18 c0_0 c0_1 : Int) (c0_2 : Bz) (c0_3 c0_4 : Rz) (c0_5 : Int) : Option (AV) := qvy  (((fx 42 [(3, .ptr 0 0 0), (6, .bool b), (16, .sl L), (17, .int .i64 (L.length : Int)), (18, .int .i64 v18)]) : List AV), ([.rows false 6 [[.int .i64 c0_0, .int .i64 c0_1, .str c0_2, .sl c0_3, .sl c0_4, .int .i64 c0_5]]] : AH))
theorem qoG (L : Rz) (ke ne : Int) (se : Bz) (le bd : Rz) (self : Int) {P : AV → Prop} (h : Gets (kOpt (EVf (EV cfg) 68 [.agg [.int .i64 ke, .int .i64 ne, .str se, .sl le, .sl bd, .int .i64 self]]) fun v => kTup v fun cs => qa cs fun c cs => kSl c fun rows => qa cs fun c cs => qf c fun b => kNil cs (qfo L b 0 ke ne se le bd self)) P) : Gets (EVs (EV cfg) 86 [.sl L, .agg [.int .i64 ke, .int .i64 ne, .str se, .sl le, .sl bd, .int .i64 self]]) P :=
  gE (fun _ => funS rfl rfl Tryz.func86 rfl) (by kernel_rfl) h
theorem qjy (kt nt : Int) (st : Bz) (lt : Rz) (ko no : Int) (so : Bz) (lo : Rz) (self : Int) {P : AV → Prop} (h : Gets (kOpt (EVg (EV cfg) 97 [.agg [.int .i64 kt, .int .i64 nt, .str st, .sl lt], .agg [.int .i64 ko, .int .i64 no, .str so, .sl lo], .int .i64 self]) fun V => kTup V fun cs => qa cs fun c cs => kInt .i64 c fun n => qa cs fun c cs => kAgg c fun cs_1 => qa cs_1 fun c cs_2 => kInt .i64 c fun n_1 => qa cs_2 fun c cs_3 => kInt .i64 c fun n_2 => qa cs_3 fun c cs_4 => kStr c fun s => qa cs_4 fun c cs_5 => kSl c fun rows => kNil cs_5 (qa cs fun c cs => kInt .i64 c fun n_3 => kNil cs (some (AV.tup [AV.int .i64 n, .int .i64 n_3])))) P) : Gets (EVs (EV cfg) 30 [.agg [.int .i64 kt, .int .i64 nt, .str st, .sl lt], .agg [.int .i64 ko, .int .i64 no, .str so, .sl lo], .int .i64 self]) P :=
  gE (fun _ => funS rfl rfl Tryz.func30 rfl) (by kernel_rfl) h
theorem qd9 (L : Rz) (b : Bool) (v18 c0_0 c0_1 : Int) (c0_2 : Bz) (c0_3 c0_4 : Rz) (c0_5 : Int) {P : AV → Prop} (h : Gets (bif decide (v18 < (L.length : Int)) then bif qh 0 v18 && qg v18 (L.length : Int) then kOpt (qyG L (v18.toNat)) fun row => bif qyW (qyH row) 4 then bif qyQ 4 (qyH row) then kTmC (qyM 4 row) fun n n_1 s rows => (kOpt (EVg (EV cfg) 17 [.agg [.int .i64 n, .int .i64 n_1, .str s, .sl rows], .agg [.int .i64 c0_0, .int .i64 c0_1, .str c0_2, .sl c0_3, .sl c0_4, .int .i64 c0_5]]) fun V => kTup V fun cs => qa cs fun c cs => kAgg c fun cs_1 => qa cs_1 fun c cs_2 => kInt .i64 c fun n => qa cs_2 fun c cs_3 => kInt .i64 c fun n_2 => qa cs_3 fun c cs_4 => kStr c fun s => qa cs_4 fun c cs_5 => kSl c fun rows => kNil cs_5 (qa cs fun c cs => kInt .i64 c fun n_3 => kNil cs (bif n_3 != 0 then some (.bool false) else bif n != 2 then some (.bool false) else bif ! s == [(116 : UInt8), (114 : UInt8), (117 : UInt8), (101 : UInt8)] then some (.bool false) else qfo L b (IntKind.wrap .i64 (v18 + 1)) c0_0 c0_1 c0_2 c0_3 c0_4 c0_5))) else none else none else none else some (.bool b)) P) : Gets (qfo L b v18 c0_0 c0_1 c0_2 c0_3 c0_4 c0_5) P :=
  gE (fun _ => qn (cfg := cfg) (f := 86) (rd := none) (bs := 0)) (by kernel_rfl) h
end Go.Proofs.YtkgkjngbfdnoiaaGreat.R
end
section
namespace Go.Proofs.YtkgkjngbfdnoiaaGreat
open Go.Av
noncomputable def qvR : Den := evC cfg (EV cfg) 180 none 0 (sub (qe Tryz.f180) [1, 1, 0, 0, 0])
noncomputable def qv7 : Ex × List AV × AH → Option AV := kAft (Cfg.keepOut cfg 180 2) (kRun cfg (EV cfg) (kfN cfg 6) 180 none 0 (vp cfg (Cfg.lift cfg 180 0) Tryz.f180.results.toList) ([.block 0, .seq (sub (qe Tryz.f180) [1, 1, 1])]))
noncomputable def qvE : List AV × AH → Option AV := fun p => kOpt (LOOP 0 (some [1, 4]) ([(4, 4)]) qvR p) qv7
noncomputable def qvQ : Den := evC cfg (EV cfg) 255 none 0 (sub (qe Tryz.f255) [1, 0, 1, 0, 0])
noncomputable def qv6 : Ex × List AV × AH → Option AV := kAft (Cfg.keepOut cfg 255 2) (kRun cfg (EV cfg) (kfN cfg 6) 255 none 0 (vX cfg (Cfg.lift cfg 255 0) Tryz.f255.results.toList) ([.block 0, .seq (sub (qe Tryz.f255) [1, 1])]))
noncomputable def qvD : List AV × AH → Option AV := fun p => kOpt (LOOP 0 (some [0, 1, 5]) ([]) qvQ p) qv6
noncomputable def qvT : Den := evC cfg (EV cfg) 99 none 0 (sub (qe Tryz.f99) [1, 1, 1, 1, 0, 1, 0, 0])
noncomputable def qv9 : Ex × List AV × AH → Option (OV × AV) := kAft (Cfg.keepOut cfg 99 6) (kRun cfg (EV cfg) (kfN cfg 6) 99 none 0 (qfP cfg (Cfg.lift cfg 99 0) Tryz.f99.results.toList) ([.block 0, .seq (sub (qe Tryz.f99) [1, 1, 1, 1, 1])]))
noncomputable def qvG : List AV × AH → Option (OV × AV) := fun p => kOpt (LOOP 0 (some [4, 6, 7]) ([(6, 6)]) qvT p) qv9
noncomputable def qvS : Den := evC cfg (EV cfg) 100 none 0 (sub (qe Tryz.f100) [1, 1, 1, 1, 1, 0, 1, 0, 0])
noncomputable def qv8 : Ex × List AV × AH → Option AV := kAft (Cfg.keepOut cfg 100 7) (kRun cfg (EV cfg) (kfN cfg 6) 100 none 0 (vp cfg (Cfg.lift cfg 100 0) Tryz.f100.results.toList) ([.block 0, .seq (sub (qe Tryz.f100) [1, 1, 1, 1, 1, 1])]))
noncomputable def qvF : List AV × AH → Option AV := fun p => kOpt (LOOP 0 (some [3, 6, 10, 11, 12]) ([]) qvS p) qv8
noncomputable def qxr : Den := evC cfg (EV cfg) 29 none 0 (sub (qe Tryz.f29) [1, 1, 1, 1, 0, 1, 0, 0])
noncomputable def qx9 : Ex × List AV × AH → Option AV := kAft (Cfg.keepOut cfg 29 6) (kRun cfg (EV cfg) (kfN cfg 6) 29 none 0 (vp cfg (Cfg.lift cfg 29 0) Tryz.f29.results.toList) ([.block 0, .seq (sub (qe Tryz.f29) [1, 1, 1, 1, 1])]))
noncomputable def qsB : List AV × AH → Option AV := fun p => kOpt (LOOP 0 (some [2, 4, 6, 10, 12]) ([]) qxr p) qx9
noncomputable def qvV : Den := evC cfg (EV cfg) 31 none 0 (sub (qe Tryz.f31) [1, 1, 1, 1, 0, 1, 0, 0])
noncomputable def qwb : Ex × List AV × AH → Option AV := kAft (Cfg.keepOut cfg 31 6) (kRun cfg (EV cfg) (kfN cfg 6) 31 none 0 (vX cfg (Cfg.lift cfg 31 0) Tryz.f31.results.toList) ([.block 0, .seq (sub (qe Tryz.f31) [1, 1, 1, 1, 1])]))
noncomputable def qpu : List AV × AH → Option AV := fun p => kOpt (LOOP 0 (some [2, 4, 9, 11]) ([]) qvV p) qwb
noncomputable def qvP : Den := evC cfg (EV cfg) 288 none 0 (sub (qe Tryz.f288) [1, 1, 1, 1, 0, 1, 0, 0])
noncomputable def qv5 : Ex × List AV × AH → Option AV := kAft (Cfg.keepOut cfg 288 6) (kRun cfg (EV cfg) (kfN cfg 6) 288 none 0 (vp cfg (Cfg.lift cfg 288 0) Tryz.f288.results.toList) ([.block 0, .seq (sub (qe Tryz.f288) [1, 1, 1, 1, 1])]))
noncomputable def qvC : List AV × AH → Option AV := fun p => kOpt (LOOP 0 (some [1, 7, 8]) ([]) qvP p) qv5
noncomputable def qt0 : Den := evC cfg (EV cfg) 309 none 0 (sub (qe Tryz.f309) [1, 1, 0, 0, 0])
noncomputable def qt9 : Ex × List AV × AH → Option AV := kAft (Cfg.keepOut cfg 309 2) (kRun cfg (EV cfg) (kfN cfg 6) 309 none 0 (vp cfg (Cfg.lift cfg 309 0) Tryz.f309.results.toList) ([.block 0, .seq (sub (qe Tryz.f309) [1, 1, 1])]))
noncomputable def qtW : List AV × AH → Option AV := fun p => kOpt (LOOP 0 (some [0, 1, 5]) ([]) qt0 p) qt9
noncomputable def qtY : Den := evC cfg (EV cfg) 315 none 0 (sub (qe Tryz.f315) [1, 1, 0, 0, 0])
noncomputable def qt7 : Ex × List AV × AH → Option AV := kAft (Cfg.keepOut cfg 315 2) (kRun cfg (EV cfg) (kfN cfg 6) 315 none 0 (vp cfg (Cfg.lift cfg 315 0) Tryz.f315.results.toList) ([.block 0, .seq (sub (qe Tryz.f315) [1, 1, 1])]))
noncomputable def qtU : List AV × AH → Option AV := fun p => kOpt (LOOP 0 (some [0, 1, 5, 7]) ([]) qtY p) qt7
noncomputable def qvO : Den := evC cfg (EV cfg) 299 none 0 (sub (qe Tryz.f299) [1, 1, 1, 1, 1, 1, 0, 1, 0, 0])
noncomputable def qv4 : Ex × List AV × AH → Option AV := kAft (Cfg.keepOut cfg 299 14) (kRun cfg (EV cfg) (kfN cfg 6) 299 none 0 (vp cfg (Cfg.lift cfg 299 0) Tryz.f299.results.toList) ([.block 0, .seq (sub (qe Tryz.f299) [1, 1, 1, 1, 1, 1, 1])]))
noncomputable def qvB : List AV × AH → Option AV := fun p => kOpt (LOOP 0 (some [2, 3, 4, 12]) ([]) qvO p) qv4
noncomputable def qvN : Den := evC cfg (EV cfg) 300 none 0 (sub (qe Tryz.f300) [1, 1, 0, 1, 0, 0])
noncomputable def qv3 : Ex × List AV × AH → Option AV := kAft (Cfg.keepOut cfg 300 3) (kRun cfg (EV cfg) (kfN cfg 6) 300 none 0 (vp cfg (Cfg.lift cfg 300 0) Tryz.f300.results.toList) ([.block 0, .seq (sub (qe Tryz.f300) [1, 1, 1])]))
noncomputable def qvA : List AV × AH → Option AV := fun p => kOpt (LOOP 0 (some [0, 3, 4]) ([(3, 5)]) qvN p) qv3
noncomputable def qtZ : Den := evC cfg (EV cfg) 146 none 0 (sub (qe Tryz.f146) [1, 1, 0, 1, 0, 0])
noncomputable def qt8 : Ex × List AV × AH → Option AV := kAft (Cfg.keepOut cfg 146 4) (kRun cfg (EV cfg) (kfN cfg 6) 146 none 0 (vX cfg (Cfg.lift cfg 146 0) Tryz.f146.results.toList) ([.block 0, .seq (sub (qe Tryz.f146) [1, 1, 1])]))
noncomputable def qtV : List AV × AH → Option AV := fun p => kOpt (LOOP 0 (some [2, 3, 5]) ([]) qtZ p) qt8
noncomputable def qt4 : List AV × AH → Option AV := fun p => kOpt (CUT p) fun p => qT cfg (EV cfg) (kfN cfg 6) 309 none 0 (sub (qe Tryz.f309) [1, 1, 1]) p.1 p.2 (kRun cfg (EV cfg) (kfN cfg 6) 309 none 0 (vp cfg (Cfg.lift cfg 309 0) Tryz.f309.results.toList) ([]))
noncomputable def qt2 : List AV × AH → Option AV := fun p => kOpt (CUT p) fun p => qT cfg (EV cfg) (kfN cfg 6) 315 none 0 (sub (qe Tryz.f315) [1, 1, 1]) p.1 p.2 (kRun cfg (EV cfg) (kfN cfg 6) 315 none 0 (vp cfg (Cfg.lift cfg 315 0) Tryz.f315.results.toList) ([]))
noncomputable def qt3 : List AV × AH → Option AV := fun p => kOpt (CUT p) fun p => qT cfg (EV cfg) (kfN cfg 6) 309 none 0 (sub (qe Tryz.f309) [1, 1, 1, 1]) p.1 p.2 (kRun cfg (EV cfg) (kfN cfg 6) 309 none 0 (vp cfg (Cfg.lift cfg 309 0) Tryz.f309.results.toList) ([]))
noncomputable def qt1 : List AV × AH → Option AV := fun p => kOpt (CUT p) fun p => qT cfg (EV cfg) (kfN cfg 6) 315 none 0 (sub (qe Tryz.f315) [1, 1, 1, 1, 1]) p.1 p.2 (kRun cfg (EV cfg) (kfN cfg 6) 315 none 0 (vp cfg (Cfg.lift cfg 315 0) Tryz.f315.results.toList) ([]))
noncomputable abbrev qfu (nv4 : Nat) (c0_0 c0_1 : Int) (c0_2 : Bz) (c0_3 h1 : Rz) : Option (AV) := qvE  (((fx 23 [(1, .ptr 0 0 0), (4, .ms 1 0 nv4)]) : List AV), ([.rows false 4 [[.int .i64 c0_0, .int .i64 c0_1, .str c0_2, .sl c0_3]], .rows true 4 h1] : AH))
noncomputable abbrev qft (L V : Rz) (v5 : Int) : Option (AV) := qvD  (((fx 19 [(0, .sl L), (1, .sl V), (5, .int .i64 v5)]) : List AV), ([] : AH))
noncomputable abbrev qfw (rows : Rz) (nv6 : Nat) (v7 : Int) (h0 : Rz) : Option (OV × AV) := qvG  (((fx 43 [(4, .sl rows), (6, .ms 0 0 nv6), (7, .int .i64 v7)]) : List AV), ([.rows true 6 h0] : AH))
noncomputable abbrev qfv (v12 c0_0 c0_1 : Int) (c0_2 : Bz) (c0_3 c0_4 c0_5 : Rz) (c1_0 c1_1 : Int) (c1_2 : Bz) (c1_3 : Rz) (c2_0 c2_1 : Int) (c2_2 : Bz) (c2_3 c2_4 : Rz) (c2_5 c3_0 c3_1 : Int) (c3_2 : Bz) (c3_3 : Rz) : Option (AV) := qvF  (((fx 58 [(3, .ptr 0 0 0), (6, .ptr 1 0 0), (10, .ptr 2 0 0), (11, .ptr 3 0 0), (12, .int .i64 v12)]) : List AV), ([.rows false 6 [[.int .i64 c0_0, .int .i64 c0_1, .str c0_2, .sl c0_3, .sl c0_4, .sl c0_5]], .rows false 4 [[.int .i64 c1_0, .int .i64 c1_1, .str c1_2, .sl c1_3]], .rows false 6 [[.int .i64 c2_0, .int .i64 c2_1, .str c2_2, .sl c2_3, .sl c2_4, .int .i64 c2_5]], .rows false 4 [[.int .i64 c3_0, .int .i64 c3_1, .str c3_2, .sl c3_3]]] : AH))
noncomputable abbrev qwd (self v12 c0_0 c0_1 : Int) (c0_2 : Bz) (c0_3 : Rz) (c1_0 c1_1 : Int) (c1_2 : Bz) (c1_3 : Rz) : Option (AV) := qsB  (((fx 48 [(2, .int .i64 self), (4, .ptr 0 0 0), (6, .ptr 1 0 0), (10, .nilS), (12, .int .i64 v12)]) : List AV), ([.rows false 4 [[.int .i64 c0_0, .int .i64 c0_1, .str c0_2, .sl c0_3]], .rows false 4 [[.int .i64 c1_0, .int .i64 c1_1, .str c1_2, .sl c1_3]]] : AH))
noncomputable abbrev qfq (self : Int) (sz off len : Nat) (v12 c0_0 c0_1 : Int) (c0_2 : Bz) (c0_3 : Rz) (c1_0 c1_1 : Int) (c1_2 : Bz) (c1_3 h2 : Rz) : Option (AV) := qsB  (((fx 48 [(2, .int .i64 self), (4, .ptr 0 0 0), (6, .ptr 1 0 0), (10, .ms 2 off len), (12, .int .i64 v12)]) : List AV), ([.rows false 4 [[.int .i64 c0_0, .int .i64 c0_1, .str c0_2, .sl c0_3]], .rows false 4 [[.int .i64 c1_0, .int .i64 c1_1, .str c1_2, .sl c1_3]], .rows true sz h2] : AH))
noncomputable abbrev quX (self v11 c0_0 c0_1 : Int) (c0_2 : Bz) (c0_3 : Rz) : Option (AV) := qpu  (((fx 45 [(2, .int .i64 self), (4, .ptr 0 0 0), (9, .nilS), (11, .int .i64 v11)]) : List AV), ([.rows false 4 [[.int .i64 c0_0, .int .i64 c0_1, .str c0_2, .sl c0_3]]] : AH))
noncomputable abbrev qdh (self : Int) (sz off len : Nat) (v11 c0_0 c0_1 : Int) (c0_2 : Bz) (c0_3 h1 : Rz) : Option (AV) := qpu  (((fx 45 [(2, .int .i64 self), (4, .ptr 0 0 0), (9, .ms 1 off len), (11, .int .i64 v11)]) : List AV), ([.rows false 4 [[.int .i64 c0_0, .int .i64 c0_1, .str c0_2, .sl c0_3]], .rows true sz h1] : AH))
noncomputable abbrev qfs (rows v1 : Rz) (v8 : Int) : Option (AV) := qvC  (((fx 33 [(1, .sl v1), (7, .sl rows), (8, .int .i64 v8)]) : List AV), ([] : AH))
noncomputable abbrev qdg (L : Rz) (n v5 : Int) : Option (AV) := qtW  (((fx 48 [(0, .sl L), (1, .int .i64 n), (5, .int .i64 v5)]) : List AV), ([] : AH))
noncomputable abbrev qde (L : Rz) (n v7 c0_0 c0_1 : Int) (c0_2 : Bz) (c0_3 : Rz) : Option (AV) := qtU  (((fx 40 [(0, .sl L), (1, .int .i64 n), (5, .ptr 0 0 0), (7, .int .i64 v7)]) : List AV), ([.rows false 4 [[.int .i64 c0_0, .int .i64 c0_1, .str c0_2, .sl c0_3]]] : AH))
noncomputable abbrev zM (v2 : Rz) (v12 c0_0 c0_1 : Int) (c0_2 : Bz) (c0_3 : Rz) (c1_0 c1_1 : Int) (c1_2 : Bz) (c1_3 : Rz) : Option (AV) := qvB  (((fx 97 [(2, .sl v2), (3, .ptr 0 0 0), (4, .ptr 1 0 0), (12, .int .i64 v12)]) : List AV), ([.rows false 4 [[.int .i64 c0_0, .int .i64 c0_1, .str c0_2, .sl c0_3]], .rows false 4 [[.int .i64 c1_0, .int .i64 c1_1, .str c1_2, .sl c1_3]]] : AH))
noncomputable abbrev qfr (B : Rz) (nv3 : Nat) (v4 : Int) (h0 : Rz) : Option (AV) := qvA  (((fx 27 [(0, .sl B), (3, .ms 0 0 nv3), (4, .int .i64 v4)]) : List AV), ([.rows true 5 h0] : AH))
noncomputable abbrev qdf (v5 c0_0 c0_1 : Int) (c0_2 : Bz) (c0_3 : Rz) (c1_0 c1_1 : Int) (c1_2 : Bz) (c1_3 : Rz) : Option (AV) := qtV  (((fx 53 [(2, .ptr 0 0 0), (3, .ptr 1 0 0), (5, .int .i64 v5)]) : List AV), ([.rows false 4 [[.int .i64 c0_0, .int .i64 c0_1, .str c0_2, .sl c0_3]], .rows false 4 [[.int .i64 c1_0, .int .i64 c1_1, .str c1_2, .sl c1_3]]] : AH))
noncomputable abbrev qdJ (v0 : Rz) (v1 : Int) (v5 : Int) : Option (AV) := qt4  (((fx 48 [(0, AV.sl v0), (1, AV.int IntKind.i64 v1), (5, AV.int IntKind.i64 v5)]) : List AV), ([] : AH))
noncomputable abbrev qbM (v0 : Rz) (v1 : Int) (v7 : Int) (c0_0 : Int) (c0_1 : Int) (c0_2 : Bz) (c0_3 : Rz) : Option (AV) := qt2  (((fx 40 [(0, AV.sl v0), (1, AV.int IntKind.i64 v1), (5, AV.ptr (0 : Nat) (0 : Nat) (0 : Nat)), (7, AV.int IntKind.i64 v7)]) : List AV), ([ABlk.rows false (4 : Nat) [[AV.int IntKind.i64 c0_0, AV.int IntKind.i64 c0_1, AV.str c0_2, AV.sl c0_3]]] : AH))
noncomputable abbrev qdI (v0 : Rz) (v1 : Int) (v5 : Int) : Option (AV) := qt3  (((fx 48 [(0, AV.sl v0), (1, AV.int IntKind.i64 v1), (5, AV.int IntKind.i64 v5)]) : List AV), ([] : AH))
noncomputable abbrev qmN (v0 : Rz) (v7 : Int) (nv8 : Nat) (c0_0 : Int) (c0_1 : Int) (c0_2 : Bz) (c0_3 : Rz) (h3 : Rz) (h4 : Rz) : Option (AV) := qt1  (((fx 40 [(0, AV.sl v0), (7, AV.int IntKind.i64 v7), (8, AV.ms (4 : Nat) (0 : Nat) nv8)]) : List AV), ([ABlk.rows false (4 : Nat) [[AV.int IntKind.i64 c0_0, AV.int IntKind.i64 c0_1, AV.str c0_2, AV.sl c0_3]], ABlk.dead, ABlk.dead, ABlk.rows true (5 : Nat) h3, ABlk.rows true (5 : Nat) h4] : AH))
theorem ql0 (kt nt : Int) (st : Bz) (lt : Rz) {P : AV → Prop} (h : Gets (qfu 0 kt nt st lt []) P) : Gets (EVf (EV cfg) 180 [.agg [.int .i64 kt, .int .i64 nt, .str st, .sl lt]]) P :=
  gE (fun _ => funF rfl rfl Tryz.func180 rfl) (by kernel_rfl) h
theorem qnQ (kt nt : Int) (st : Bz) (lt : Rz) {P : AV → Prop} (h : Gets (kOpt (EVs (EV cfg) 162 [.agg [.int .i64 kt, .int .i64 nt, .str st, .sl lt]]) fun v => kTup v fun cs => qa cs fun c cs => kInt .i64 c fun n => qa cs fun c cs => qf c fun b => kNil cs (bif b then some (.bool true) else kOpt (EVs (EV cfg) 298 [.agg [.int .i64 kt, .int .i64 nt, .str st, .sl lt]]) fun v => qf v fun b => bif b then some (.bool true) else some (.bool (kt == 7)))) P) : Gets (EVs (EV cfg) 253 [.agg [.int .i64 kt, .int .i64 nt, .str st, .sl lt]]) P :=
  gE (fun _ => funS rfl rfl Tryz.func253 rfl) (by kernel_rfl) h
theorem ql1 (L V : Rz) {P : AV → Prop} (h : Gets (qft L V 0) P) : Gets (EVs (EV cfg) 255 [.sl L, .sl V]) P :=
  gE (fun _ => funS rfl rfl Tryz.func255 rfl) (by kernel_rfl) h
noncomputable abbrev zD0  : Option (AV) := some (AV.tup [.agg [.int .i64 0, .int .i64 0, .str [], .sl [], .sl [], .sl []], .bool false])
theorem qkS (kt nt : Int) (st : Bz) (lt : Rz) {P : AV → Prop} (h : Gets (bif kt != 7 then zD0 else bif (lt.length : Int) != 3 then zD0 else bif qg 0 (lt.length : Int) then kOpt (qyG lt 0) fun row => bif qyW (qyH row) 4 then bif qyQ 4 (qyH row) then kTmC (qyM 4 row) fun n n_1 s rows => (kOpt (EVs (EV cfg) 253 [.agg [.int .i64 n, .int .i64 n_1, .str s, .sl rows]]) fun v => qf v fun b => bif ! b then some (AV.tup [.agg [.int .i64 0, .int .i64 0, .str [], .sl [], .sl [], .sl []], .bool false]) else bif qg 1 (lt.length : Int) then kOpt (qyG lt 1) fun row => bif qyW (qyH row) 4 then bif qyQ 4 (qyH row) then kTmC (qyM 4 row) fun n n_2 s rows => (kOpt (EVf (EV cfg) 180 [.agg [.int .i64 n, .int .i64 n_2, .str s, .sl rows]]) fun v => kTup v fun cs => qa cs fun c cs => kSl c fun rows => qa cs fun c cs => qf c fun b => kNil cs (bif qg 2 (lt.length : Int) then kOpt (qyG lt 2) fun row => bif qyW (qyH row) 4 then bif qyQ 4 (qyH row) then kTmC (qyM 4 row) fun n n_3 s rows_1 => (kOpt (EVf (EV cfg) 180 [.agg [.int .i64 n, .int .i64 n_3, .str s, .sl rows_1]]) fun v => kTup v fun cs => qa cs fun c cs => kSl c fun rows_2 => qa cs fun c cs => qf c fun b_1 => kNil cs (bif qg 0 (lt.length : Int) then kOpt (qyG lt 0) fun row => bif qyW (qyH row) 4 then bif qyQ 4 (qyH row) then kTmC (qyM 4 row) fun n n_4 s rows_3 => (kOpt (EVf (EV cfg) 254 [AV.agg [.int .i64 n, .int .i64 n_4, .str s, .sl rows_3]]) fun v => kSl v fun rows_4 => bif ! b then some (AV.tup [AV.agg [.int .i64 0, .int .i64 0, .str [], .sl [], .sl [], .sl []], .bool false]) else bif ! b_1 then some (AV.tup [AV.agg [.int .i64 0, .int .i64 0, .str [], .sl [], .sl [], .sl []], .bool false]) else bif (↑ (qyH rows_2) : Int) == 0 then some (AV.tup [AV.agg [.int .i64 0, .int .i64 0, .str [], .sl [], .sl [], .sl []], .bool false]) else kOpt (EVs (EV cfg) 255 [.sl rows, .sl rows_4]) fun v => qf v fun b => bif ! b then some (AV.tup [AV.agg [.int .i64 0, .int .i64 0, .str [], .sl [], .sl [], .sl []], .bool false]) else kOpt (EVs (EV cfg) 255 [.sl rows_2, .sl rows_4]) fun v => qf v fun b => bif ! b then some (AV.tup [AV.agg [.int .i64 0, .int .i64 0, .str [], .sl [], .sl [], .sl []], .bool false]) else bif qg 0 (lt.length : Int) then kOpt (qyG lt 0) fun row => bif qyW (qyH row) 4 then bif qyQ 4 (qyH row) then kTmC (qyM 4 row) fun n n_5 s rows_5 => (some (AV.tup [AV.agg [.int .i64 n, AV.int .i64 n_5, AV.str s, AV.sl rows_5, AV.sl rows, AV.sl rows_2], AV.bool true])) else none else none else none) else none else none else none)) else none else none else none)) else none else none else none) else none else none else none) P) : Gets (EVf (EV cfg) 181 [.agg [.int .i64 kt, .int .i64 nt, .str st, .sl lt]]) P :=
  gE (fun _ => funF rfl rfl Tryz.func181 rfl) (by kernel_rfl) h
theorem qig (kt nt : Int) (st : Bz) (lt : Rz) {P : OV × AV → Prop} (h : Gets (kOpt (EVf (EV cfg) 180 [.agg [.int .i64 kt, .int .i64 nt, .str st, .sl lt]]) fun v => kTup v fun cs => qa cs fun c cs => kSl c fun rows => qa cs fun c cs => qf c fun b => kNil cs (bif ! b then some (OV.own 6 [] 0 0, .bool false) else bif (rows.length : Int) == (0 : Int) then some (OV.own 6 [] 0 0, .bool false) else qfw rows 0 0 [])) P) : Gets (EVq (EV cfg) 99 [.agg [.int .i64 kt, .int .i64 nt, .str st, .sl lt]]) P :=
  gE (fun _ => funQ rfl rfl Tryz.func99 rfl) (by kernel_rfl) h
theorem qeG (kt nt : Int) (st : Bz) (lt : Rz) {P : AV → Prop} (h : Gets (kOpt (EVs (EV cfg) 95 [.agg [.int .i64 kt, .int .i64 nt, .str st, .sl lt]]) fun v => kInt .i64 v fun n => bif n != 0 then some (.int .i64 2) else kOpt (EVq (EV cfg) 99 [.agg [.int .i64 kt, .int .i64 nt, .str st, .sl lt]]) fun q => qf q.2 fun b => kOwn q.1 (bif ! b then some (.int .i64 10) else some (.int .i64 0)) fun sz rs off len => bif ! b then some (.int .i64 10) else some (.int .i64 0)) P) : Gets (EVs (EV cfg) 37 [.agg [.int .i64 kt, .int .i64 nt, .str st, .sl lt]]) P :=
  gE (fun _ => funS rfl rfl Tryz.func37 rfl) (by kernel_rfl) h
theorem qlZ (kh nh : Int) (sh : Bz) (lh gs bs : Rz) (ko no : Int) (so : Bz) (lo : Rz) (self : Int) {P : AV → Prop} (h : Gets (kOpt (EVf (EV cfg) 182 [.agg [.int .i64 kh, .int .i64 nh, .str sh, .sl lh], .agg [.int .i64 ko, .int .i64 no, .str so, .sl lo]]) fun v => kTup v fun cs => qa cs fun c cs => kSl c fun rows => qa cs fun c cs => qf c fun b => kNil cs (bif ! b then some (AV.tup [.agg [.int .i64 0, .int .i64 0, .str [], .sl []], .bool false]) else kOpt (EVs (EV cfg) 183 [.sl gs, .agg [.int .i64 ko, .int .i64 no, .str so, .sl lo, .sl rows, .int .i64 self]]) fun v => qf v fun b => bif ! b then some (AV.tup [.agg [.int .i64 0, .int .i64 0, .str [], .sl []], .bool false]) else qfv 0 kh nh sh lh gs bs 0 0 [] [] ko no so lo rows self 0 0 [] [])) P) : Gets (EVf (EV cfg) 100 [.agg [.int .i64 kh, .int .i64 nh, .str sh, .sl lh, .sl gs, .sl bs], .agg [.int .i64 ko, .int .i64 no, .str so, .sl lo], .int .i64 self]) P :=
  gE (fun _ => funF rfl rfl Tryz.func100 rfl) (by kernel_rfl) h
theorem qpW (kt nt : Int) (st : Bz) (lt : Rz) (ko no : Int) (so : Bz) (lo : Rz) (self : Int) {P : AV → Prop} (h : Gets (kOpt (EVs (EV cfg) 37 [.agg [.int .i64 kt, .int .i64 nt, .str st, .sl lt]]) fun v => kInt .i64 v fun n => bif n != 0 then some (.int .i64 n) else kOpt (EVs (EV cfg) 95 [.agg [.int .i64 ko, .int .i64 no, .str so, .sl lo]]) fun v => kInt .i64 v fun n => bif n != 0 then some (.int .i64 2) else bif ko != 7 then some (.int .i64 2) else kOpt (EVs (EV cfg) 94 [AV.int .i64 self]) fun v => qf v fun b => bif ! b then some (.int .i64 2) else some (.int .i64 (0 : Int))) P) : Gets (EVs (EV cfg) 98 [.agg [.int .i64 kt, .int .i64 nt, .str st, .sl lt], .agg [.int .i64 ko, .int .i64 no, .str so, .sl lo], .int .i64 self]) P :=
  gE (fun _ => funS rfl rfl Tryz.func98 rfl) (by kernel_rfl) h
theorem qpV (kt nt : Int) (st : Bz) (lt : Rz) (ko no : Int) (so : Bz) (lo : Rz) (self : Int) {P : AV → Prop} (h : Gets (kOpt (EVs (EV cfg) 98 [.agg [.int .i64 kt, .int .i64 nt, .str st, .sl lt], .agg [.int .i64 ko, .int .i64 no, .str so, .sl lo], .int .i64 self]) fun v => kInt .i64 v fun n => bif n != 0 then some (AV.tup [.agg [.int .i64 0, .int .i64 0, .str [], .sl []], .bool false, .int .i64 n]) else kOpt (EVq (EV cfg) 99 [.agg [.int .i64 kt, .int .i64 nt, .str st, .sl lt]]) fun q => qf q.2 fun b => kOwn q.1 (qwd self 0 ko no so lo 0 0 [] []) fun sz rs off len => qfq self sz off len 0 ko no so lo 0 0 [] [] rs) P) : Gets (EVf (EV cfg) 29 [.agg [.int .i64 kt, .int .i64 nt, .str st, .sl lt], .agg [.int .i64 ko, .int .i64 no, .str so, .sl lo], .int .i64 self]) P :=
  gE (fun _ => funF rfl rfl Tryz.func29 rfl) (by kernel_rfl) h
theorem qlY (kt nt : Int) (st : Bz) (lt : Rz) (ko no : Int) (so : Bz) (lo : Rz) (self : Int) {P : AV → Prop} (h : Gets (kOpt (EVs (EV cfg) 98 [.agg [.int .i64 kt, .int .i64 nt, .str st, .sl lt], .agg [.int .i64 ko, .int .i64 no, .str so, .sl lo], .int .i64 self]) fun v => kInt .i64 v fun n => bif n != 0 then some (AV.tup [AV.int .i64 0, .int .i64 n]) else kOpt (EVq (EV cfg) 99 [.agg [.int .i64 kt, .int .i64 nt, .str st, .sl lt]]) fun q => qf q.2 fun b => kOwn q.1 (quX self 0 ko no so lo) fun sz rs off len => qdh self sz off len 0 ko no so lo rs) P) : Gets (EVs (EV cfg) 31 [.agg [.int .i64 kt, .int .i64 nt, .str st, .sl lt], .agg [.int .i64 ko, .int .i64 no, .str so, .sl lo], .int .i64 self]) P :=
  gE (fun _ => funS rfl rfl Tryz.func31 rfl) (by kernel_rfl) h
theorem qqd (kt nt : Int) (st : Bz) (lt : Rz) {P : AV → Prop} (h : Gets (kOpt (EVs (EV cfg) 95 [.agg [.int .i64 kt, .int .i64 nt, .str st, .sl lt]]) fun v => kInt .i64 v fun n => bif n == 0 then bif kt == 2 then some (.bool (st == [(95 : UInt8)])) else some (.bool false) else some (.bool false)) P) : Gets (EVs (EV cfg) 298 [.agg [.int .i64 kt, .int .i64 nt, .str st, .sl lt]]) P :=
  gE (fun _ => funS rfl rfl Tryz.func298 rfl) (by kernel_rfl) h
theorem qmg (kt nt : Int) (st : Bz) (lt : Rz) {P : AV → Prop} (h : Gets (bif kt == 7 then some (.sl lt) else bif kt == 9 then some (.sl lt) else some (.sl [])) P) : Gets (EVf (EV cfg) 310 [.agg [.int .i64 kt, .int .i64 nt, .str st, .sl lt]]) P :=
  gE (fun _ => funF rfl rfl Tryz.func310 rfl) (by kernel_rfl) h
theorem qgG (kp np : Int) (sp : Bz) (lp L : Rz) {P : AV → Prop} (h : Gets (kOpt (EVs (EV cfg) 162 [.agg [.int .i64 kp, .int .i64 np, .str sp, .sl lp]]) fun v => kTup v fun cs => qa cs fun c cs => kInt .i64 c fun n => qa cs fun c cs => qf c fun b => kNil cs (bif b then kOpt (EVf (EV cfg) 309 [.sl L, .int .i64 n]) fun v => kSl v fun rows => some (.sl rows) else kOpt (EVf (EV cfg) 310 [.agg [.int .i64 kp, .int .i64 np, .str sp, .sl lp]]) fun v => kSl v fun rows => qfs rows L 0)) P) : Gets (EVf (EV cfg) 288 [.agg [.int .i64 kp, .int .i64 np, .str sp, .sl lp], .sl L]) P :=
  gE (fun _ => funF rfl rfl Tryz.func288 rfl) (by kernel_rfl) h
theorem qn4 (L : Rz) (n : Int) {P : AV → Prop} (h : Gets (qdg L n 0) P) : Gets (EVf (EV cfg) 309 [.sl L, .int .i64 n]) P :=
  gE (fun _ => funF rfl rfl Tryz.func309 rfl) (by kernel_rfl) h
theorem qgH (kt nt : Int) (st : Bz) (lt : Rz) {P : AV → Prop} (h : Gets (kOpt (EVs (EV cfg) 95 [.agg [.int .i64 kt, .int .i64 nt, .str st, .sl lt]]) fun v => kInt .i64 v fun n => bif n != 0 then some (.sl []) else kOpt (EVf (EV cfg) 288 [.agg [.int .i64 kt, .int .i64 nt, .str st, .sl lt], .sl []]) fun v => kSl v fun rows => some (.sl rows)) P) : Gets (EVf (EV cfg) 254 [.agg [.int .i64 kt, .int .i64 nt, .str st, .sl lt]]) P :=
  gE (fun _ => funF rfl rfl Tryz.func254 rfl) (by kernel_rfl) h
theorem qn8 (L : Rz) (n kt nt : Int) (st : Bz) (lt : Rz) {P : AV → Prop} (h : Gets (qde L n 0 kt nt st lt) P) : Gets (EVf (EV cfg) 315 [.sl L, .int .i64 n, .agg [.int .i64 kt, .int .i64 nt, .str st, .sl lt]]) P :=
  gE (fun _ => funF rfl rfl Tryz.func315 rfl) (by kernel_rfl) h
theorem qmf (kp np : Int) (sp : Bz) (lp : Rz) (kt nt : Int) (st : Bz) (lt B : Rz) {P : AV → Prop} (h : Gets (kOpt (EVs (EV cfg) 162 [.agg [.int .i64 kp, .int .i64 np, .str sp, .sl lp]]) fun v => kTup v fun cs => qa cs fun c cs => kInt .i64 c fun n => qa cs fun c cs => qf c fun b => kNil cs (bif b then kOpt (EVf (EV cfg) 236 [.sl B, .int .i64 n]) fun v => kTup v fun cs => qa cs fun c cs => kAgg c fun cs_1 => qa cs_1 fun c cs_2 => kInt .i64 c fun n_1 => qa cs_2 fun c cs_3 => kInt .i64 c fun n_2 => qa cs_3 fun c cs_4 => kStr c fun s => qa cs_4 fun c cs_5 => kSl c fun rows => kNil cs_5 (qa cs fun c cs => qf c fun b => kNil cs (bif b then kOpt (EVs (EV cfg) 146 [.agg [.int .i64 n_1, .int .i64 n_2, .str s, .sl rows], .agg [.int .i64 kt, .int .i64 nt, .str st, .sl lt]]) fun v => qf v fun b => some (AV.tup [.sl B, .bool b]) else kOpt (EVf (EV cfg) 315 [.sl B, .int .i64 n, .agg [.int .i64 kt, .int .i64 nt, .str st, .sl lt]]) fun v => kSl v fun rows => some (AV.tup [.sl rows, .bool true]))) else bif kp == 2 then bif sp == [(95 : UInt8)] then some (AV.tup [.sl B, .bool true]) else bif kp != 7 then bif kp != 9 then kOpt (EVs (EV cfg) 146 [.agg [.int .i64 kp, .int .i64 np, .str sp, .sl lp], .agg [.int .i64 kt, .int .i64 nt, .str st, .sl lt]]) fun v => qf v fun b => some (AV.tup [.sl B, .bool b]) else bif kt != kp then some (AV.tup [.sl [], .bool false]) else bif (lt.length : Int) != (lp.length : Int) then some (AV.tup [.sl [], .bool false]) else zM B 0 kp np sp lp kt nt st lt else bif kt != kp then some (AV.tup [.sl [], .bool false]) else bif (lt.length : Int) != (lp.length : Int) then some (AV.tup [.sl [], .bool false]) else zM B 0 kp np sp lp kt nt st lt else bif kp != 7 then bif kp != 9 then kOpt (EVs (EV cfg) 146 [.agg [.int .i64 kp, .int .i64 np, .str sp, .sl lp], .agg [.int .i64 kt, .int .i64 nt, .str st, .sl lt]]) fun v => qf v fun b => some (AV.tup [.sl B, .bool b]) else bif kt != kp then some (AV.tup [.sl [], .bool false]) else bif (lt.length : Int) != (↑ (qyH lp) : Int) then some (AV.tup [.sl [], .bool false]) else zM B 0 kp np sp lp kt nt st lt else bif kt != kp then some (AV.tup [.sl [], .bool false]) else bif (↑ (qyH lt) : Int) != (lp.length : Int) then some (AV.tup [.sl [], .bool false]) else zM B 0 kp np sp lp kt nt st lt)) P) : Gets (EVf (EV cfg) 299 [.agg [.int .i64 kp, .int .i64 np, .str sp, .sl lp], .agg [.int .i64 kt, .int .i64 nt, .str st, .sl lt], .sl B]) P :=
  gE (fun _ => funF rfl rfl Tryz.func299 rfl) (by kernel_rfl) h
theorem qk0 (B : Rz) {P : AV → Prop} (h : Gets (qfr B 0 0 []) P) : Gets (EVf (EV cfg) 300 [.sl B]) P :=
  gE (fun _ => funF rfl rfl Tryz.func300 rfl) (by kernel_rfl) h
theorem qn5 (kp np : Int) (sp : Bz) (lp : Rz) (kt nt : Int) (st : Bz) (lt B : Rz) {P : AV → Prop} (h : Gets (kOpt (EVs (EV cfg) 95 [.agg [.int .i64 kp, .int .i64 np, .str sp, .sl lp]]) fun v => kInt .i64 v fun n => bif n != 0 then some (AV.tup [.sl [], .bool false]) else kOpt (EVs (EV cfg) 95 [.agg [.int .i64 kt, .int .i64 nt, .str st, .sl lt]]) fun v => kInt .i64 v fun n => bif n != 0 then some (AV.tup [.sl [], .bool false]) else kOpt (EVs (EV cfg) 160 [.sl B]) fun v => qf v fun b => bif ! b then some (AV.tup [.sl [], .bool false]) else kOpt (EVf (EV cfg) 299 [.agg [.int .i64 kp, .int .i64 np, .str sp, .sl lp], .agg [.int .i64 kt, .int .i64 nt, .str st, .sl lt], .sl B]) fun v => kTup v fun cs => qa cs fun c cs => kSl c fun rows => qa cs fun c cs => qf c fun b => kNil cs (bif ! b then some (AV.tup [.sl [], .bool false]) else kOpt (EVf (EV cfg) 300 [.sl rows]) fun v => kSl v fun rows => some (AV.tup [.sl rows, .bool true]))) P) : Gets (EVf (EV cfg) 256 [.agg [.int .i64 kp, .int .i64 np, .str sp, .sl lp], .agg [.int .i64 kt, .int .i64 nt, .str st, .sl lt], .sl B]) P :=
  gE (fun _ => funF rfl rfl Tryz.func256 rfl) (by kernel_rfl) h
theorem qmh (kp np : Int) (sp : Bz) (lp : Rz) (kt nt : Int) (st : Bz) (lt : Rz) {P : AV → Prop} (h : Gets (kOpt (EVf (EV cfg) 256 [.agg [.int .i64 kp, .int .i64 np, .str sp, .sl lp], .agg [.int .i64 kt, .int .i64 nt, .str st, .sl lt], .sl []]) fun v => kTup v fun cs => qa cs fun c cs => kSl c fun rows => qa cs fun c cs => qf c fun b => kNil cs (some (AV.tup [.sl rows, .bool b]))) P) : Gets (EVf (EV cfg) 182 [.agg [.int .i64 kp, .int .i64 np, .str sp, .sl lp], .agg [.int .i64 kt, .int .i64 nt, .str st, .sl lt]]) P :=
  gE (fun _ => funF rfl rfl Tryz.func182 rfl) (by kernel_rfl) h
theorem qoc (kp np : Int) (sp : Bz) (lp : Rz) (kt nt : Int) (st : Bz) (lt : Rz) {P : AV → Prop} (h : Gets (bif kp != kt then some (.bool false) else bif np != nt then some (.bool false) else bif ! sp == st then some (.bool false) else bif (lp.length : Int) != (↑ (qyH lt) : Int) then some (.bool false) else qdf 0 kp np sp lp kt nt st lt) P) : Gets (EVs (EV cfg) 146 [.agg [.int .i64 kp, .int .i64 np, .str sp, .sl lp], .agg [.int .i64 kt, .int .i64 nt, .str st, .sl lt]]) P :=
  gE (fun _ => funS rfl rfl Tryz.func146 rfl) (by kernel_rfl) h
theorem qlA (nv4 : Nat) (c0_0 c0_1 : Int) (c0_2 : Bz) (c0_3 h1 : Rz) {P : AV → Prop} (h : Gets (bif c0_0 == 9 then bif qg 0 (c0_3.length : Int) then kOpt (qyG c0_3 0) fun row => bif qyW (qyH row) 4 then bif qyQ 4 (qyH row) then kTmC (qyM 4 row) fun n n_1 s rows => (bif qyQ (0 + nv4) (qyH h1) && qN (nv4 + 1) 56 then bif qg 1 (c0_3.length : Int) then kOpt (qyG c0_3 1) fun row => bif qyW (qyH row) 4 then bif qyQ 4 (qyH row) then kTmC (qyM 4 row) fun n_2 n_3 s_1 rows_1 => (qfu (nv4 + 1) n_2 n_3 s_1 rows_1 (qy4 (qyM nv4 h1) [[AV.int .i64 n, .int .i64 n_1, .str s, .sl rows]])) else none else none else none else none) else none else none else none else bif qyQ (0 + nv4) (qyH h1) && true then some (AV.tup [.sl (qyM nv4 h1), .bool (c0_0 == 8)]) else none) P) : Gets (qfu nv4 c0_0 c0_1 c0_2 c0_3 h1) P :=
  gE (fun _ => qn (cfg := cfg) (f := 180) (rd := none) (bs := 0)) (by kernel_rfl) h
theorem qeg (L V : Rz) (v5 : Int) {P : AV → Prop} (h : Gets (bif decide (v5 < (L.length : Int)) then bif qh 0 v5 && qg v5 (L.length : Int) then kOpt (qyG L (v5.toNat)) fun row => bif qyW (qyH row) 4 then bif qyQ 4 (qyH row) then kTmC (qyM 4 row) fun n n_1 s rows => (kOpt (EVs (EV cfg) 73 [.agg [.int .i64 n, .int .i64 n_1, .str s, .sl rows], .sl V]) fun v => kInt .i64 v fun n => bif n != 0 then some (.bool false) else qft L V (IntKind.wrap .i64 (v5 + 1))) else none else none else none else some (.bool true)) P) : Gets (qft L V v5) P :=
  gE (fun _ => qn (cfg := cfg) (f := 255) (rd := none) (bs := 0)) (by kernel_rfl) h
theorem qei (rows : Rz) (nv6 : Nat) (v7 : Int) (h0 : Rz) {P : OV × AV → Prop} (h : Gets (bif decide (v7 < (rows.length : Int)) then bif qh 0 v7 && qg v7 (rows.length : Int) then kOpt (qyG rows (v7.toNat)) fun row => bif qyW (qyH row) 4 then bif qyQ 4 (qyH row) then kTmC (qyM 4 row) fun n n_1 s rows_1 => (kOpt (EVf (EV cfg) 181 [.agg [.int .i64 n, .int .i64 n_1, .str s, .sl rows_1]]) fun v => kTup v fun cs => qa cs fun c cs => kAgg c fun cs_1 => qa cs_1 fun c cs_2 => kInt .i64 c fun n => qa cs_2 fun c cs_3 => kInt .i64 c fun n_2 => qa cs_3 fun c cs_4 => kStr c fun s => qa cs_4 fun c cs_5 => kSl c fun rows_2 => qa cs_5 fun c cs_6 => kSl c fun rows_3 => qa cs_6 fun c cs_7 => kSl c fun rows_4 => kNil cs_7 (qa cs fun c cs => qf c fun b => kNil cs (bif ! b then some (OV.own 6 [] 0 0, .bool false) else bif qyQ (0 + nv6) (qyH h0) && qN (nv6 + 1) 104 then qfw rows (nv6 + 1) (IntKind.wrap .i64 (v7 + 1)) (qy4 (qyM nv6 h0) [[AV.int .i64 n, .int .i64 n_2, .str s, .sl rows_2, .sl rows_3, .sl rows_4]]) else none))) else none else none else none else some (OV.own 6 h0 0 nv6, .bool true)) P) : Gets (qfw rows nv6 v7 h0) P :=
  gE (fun _ => qn (cfg := cfg) (f := 99) (rd := none) (bs := 0)) (by kernel_rfl) h
theorem qeh (v12 c0_0 c0_1 : Int) (c0_2 : Bz) (c0_3 c0_4 c0_5 : Rz) (c1_0 c1_1 : Int) (c1_2 : Bz) (c1_3 : Rz) (c2_0 c2_1 : Int) (c2_2 : Bz) (c2_3 c2_4 : Rz) (c2_5 c3_0 c3_1 : Int) (c3_2 : Bz) (c3_3 : Rz) {P : AV → Prop} (h : Gets (bif decide (v12 < (c0_5.length : Int)) then bif qh 0 v12 && qg v12 (c0_5.length : Int) then kOpt (qyG c0_5 (v12.toNat)) fun row => bif qyW (qyH row) 4 then bif qyQ 4 (qyH row) then kTmC (qyM 4 row) fun n n_1 s rows => (kOpt (EVf (EV cfg) 18 [.agg [.int .i64 n, .int .i64 n_1, .str s, .sl rows], .agg [.int .i64 c2_0, .int .i64 c2_1, .str c2_2, .sl c2_3, .sl c2_4, .int .i64 c2_5]]) fun v => kTup v fun cs => qa cs fun c cs => kAgg c fun cs_1 => qa cs_1 fun c cs_2 => kInt .i64 c fun n => qa cs_2 fun c cs_3 => kInt .i64 c fun n_2 => qa cs_3 fun c cs_4 => kStr c fun s => qa cs_4 fun c cs_5 => kSl c fun rows => kNil cs_5 (qa cs fun c cs => kInt .i64 c fun n_3 => kNil cs (bif n_3 != 0 then some (AV.tup [AV.agg [.int .i64 2, .int .i64 0, .str [(69 : UInt8), (88 : UInt8), (73 : UInt8), (84 : UInt8)], .sl []], .bool true]) else qfv (IntKind.wrap .i64 (v12 + 1)) c0_0 c0_1 c0_2 c0_3 c0_4 c0_5 c1_0 c1_1 c1_2 c1_3 c2_0 c2_1 c2_2 c2_3 c2_4 c2_5 n n_2 s rows))) else none else none else none else some (AV.tup [.agg [.int .i64 c3_0, .int .i64 c3_1, .str c3_2, .sl c3_3], .bool true])) P) : Gets (qfv v12 c0_0 c0_1 c0_2 c0_3 c0_4 c0_5 c1_0 c1_1 c1_2 c1_3 c2_0 c2_1 c2_2 c2_3 c2_4 c2_5 c3_0 c3_1 c3_2 c3_3) P :=
  gE (fun _ => qn (cfg := cfg) (f := 100) (rd := none) (bs := 0)) (by kernel_rfl) h
theorem qec (self : Int) (sz off len : Nat) (v12 c0_0 c0_1 : Int) (c0_2 : Bz) (c0_3 : Rz) (c1_0 c1_1 : Int) (c1_2 : Bz) (c1_3 h2 : Rz) {P : AV → Prop} (h : Gets (bif decide (v12 < (↑ len : Int)) then bif qyW sz 6 && qh 0 v12 && qg v12 (↑ len : Int) then kOpt (qyG h2 (off + v12.toNat)) fun row => bif qyQ 6 (qyH row) then qa (qyM 6 row) fun c cs => kInt .i64 c fun n => qa cs fun c cs => kInt .i64 c fun n_1 => qa cs fun c cs => kStr c fun s => qa cs fun c cs => kSl c fun rows => qa cs fun c cs => kSl c fun rows_1 => qa cs fun c cs => kSl c fun rows_2 => kNil cs (kOpt (EVf (EV cfg) 100 [.agg [.int .i64 n, .int .i64 n_1, .str s, .sl rows, .sl rows_1, .sl rows_2], .agg [.int .i64 c0_0, .int .i64 c0_1, .str c0_2, .sl c0_3], .int .i64 self]) fun v => kTup v fun cs => qa cs fun c cs => kAgg c fun cs_1 => qa cs_1 fun c cs_2 => kInt .i64 c fun n => qa cs_2 fun c cs_3 => kInt .i64 c fun n_2 => qa cs_3 fun c cs_4 => kStr c fun s => qa cs_4 fun c cs_5 => kSl c fun rows => kNil cs_5 (qa cs fun c cs => qf c fun b => kNil cs (bif b then kOpt (EVf (EV cfg) 76 [.agg [.int .i64 n, .int .i64 n_2, .str s, .sl rows]]) fun v => kTmV v fun n n_3 s rows => (some (AV.tup [.agg [.int .i64 n, .int .i64 n_3, .str s, .sl rows], .bool true, .int .i64 0])) else qfq self sz off len (IntKind.wrap .i64 (v12 + 1)) c0_0 c0_1 c0_2 c0_3 c1_0 c1_1 c1_2 c1_3 h2))) else none else none else some (AV.tup [.agg [.int .i64 0, .int .i64 0, .str [], .sl []], .bool false, .int .i64 0])) P) : Gets (qfq self sz off len v12 c0_0 c0_1 c0_2 c0_3 c1_0 c1_1 c1_2 c1_3 h2) P :=
  gE (fun _ => qn (cfg := cfg) (f := 29) (rd := none) (bs := 0)) (by kernel_rfl) h
theorem qdZ (self : Int) (sz off len : Nat) (v11 c0_0 c0_1 : Int) (c0_2 : Bz) (c0_3 h1 : Rz) {P : AV → Prop} (h : Gets (bif decide (v11 < (↑ len : Int)) then bif qyW sz 6 && qh 0 v11 && qg v11 (↑ len : Int) then kOpt (qyG h1 (off + v11.toNat)) fun row => bif qyQ 6 (qyH row) then qa (qyM 6 row) fun c cs => kInt .i64 c fun n => qa cs fun c cs => kInt .i64 c fun n_1 => qa cs fun c cs => kStr c fun s => qa cs fun c cs => kSl c fun rows => qa cs fun c cs => kSl c fun rows_1 => qa cs fun c cs => kSl c fun rows_2 => kNil cs (kOpt (EVf (EV cfg) 100 [.agg [.int .i64 n, .int .i64 n_1, .str s, .sl rows, .sl rows_1, .sl rows_2], .agg [.int .i64 c0_0, .int .i64 c0_1, .str c0_2, .sl c0_3], .int .i64 self]) fun v => kTup v fun cs => qa cs fun c cs => kAgg c fun cs_1 => qa cs_1 fun c cs_2 => kInt .i64 c fun n => qa cs_2 fun c cs_3 => kInt .i64 c fun n => qa cs_3 fun c cs_4 => kStr c fun s => qa cs_4 fun c cs_5 => kSl c fun rows => kNil cs_5 (qa cs fun c cs => qf c fun b => kNil cs (bif b then some (AV.tup [AV.int .i64 (IntKind.wrap .i64 (v11 + 1)), .int .i64 0]) else qdh self sz off len (IntKind.wrap .i64 (v11 + 1)) c0_0 c0_1 c0_2 c0_3 h1))) else none else none else some (AV.tup [AV.int .i64 0, .int .i64 0])) P) : Gets (qdh self sz off len v11 c0_0 c0_1 c0_2 c0_3 h1) P :=
  gE (fun _ => qn (cfg := cfg) (f := 31) (rd := none) (bs := 0)) (by kernel_rfl) h
theorem qef (rows v1 : Rz) (v8 : Int) {P : AV → Prop} (h : Gets (bif decide (v8 < (rows.length : Int)) then bif qh 0 v8 && qg v8 (rows.length : Int) then kOpt (qyG rows (v8.toNat)) fun row => bif qyW (qyH row) 4 then bif qyQ 4 (qyH row) then kTmC (qyM 4 row) fun n n_1 s rows_1 => (kOpt (EVf (EV cfg) 288 [.agg [.int .i64 n, .int .i64 n_1, .str s, .sl rows_1], .sl v1]) fun v => kSl v fun rows_2 => qfs rows rows_2 (IntKind.wrap .i64 (v8 + 1))) else none else none else none else some (.sl v1)) P) : Gets (qfs rows v1 v8) P :=
  gE (fun _ => qn (cfg := cfg) (f := 288) (rd := none) (bs := 0)) (by kernel_rfl) h
theorem qdY (L : Rz) (n v5 : Int) {P : AV → Prop} (h : Gets (bif decide (v5 < (L.length : Int)) then bif qh 0 v5 && qg v5 (L.length : Int) then kOpt (qyG L (v5.toNat)) fun row => bif qyW (qyH row) 1 then kOpt (qyG row 0) fun v => kInt .i64 v fun n_1 => bif decide (n_1 < n) then qdg L n (IntKind.wrap .i64 (v5 + 1)) else qdJ L n v5 else none else none else qdJ L n v5) P) : Gets (qdg L n v5) P :=
  gE (fun _ => qn (cfg := cfg) (f := 309) (rd := none) (bs := 0)) (by kernel_rfl) h
theorem qdW (L : Rz) (n v7 c0_0 c0_1 : Int) (c0_2 : Bz) (c0_3 : Rz) {P : AV → Prop} (h : Gets (bif decide (v7 < (L.length : Int)) then bif qh 0 v7 && qg v7 (L.length : Int) then kOpt (qyG L (v7.toNat)) fun row => bif qyW (qyH row) 5 then kOpt (qyG row 0) fun v => kInt .i64 v fun n_1 => bif decide (n_1 < n) then qde L n (IntKind.wrap .i64 (v7 + 1)) c0_0 c0_1 c0_2 c0_3 else qbM L n v7 c0_0 c0_1 c0_2 c0_3 else none else none else qbM L n v7 c0_0 c0_1 c0_2 c0_3) P) : Gets (qde L n v7 c0_0 c0_1 c0_2 c0_3) P :=
  gE (fun _ => qn (cfg := cfg) (f := 315) (rd := none) (bs := 0)) (by kernel_rfl) h
theorem qee (v2 : Rz) (v12 c0_0 c0_1 : Int) (c0_2 : Bz) (c0_3 : Rz) (c1_0 c1_1 : Int) (c1_2 : Bz) (c1_3 : Rz) {P : AV → Prop} (h : Gets (bif decide (v12 < (c0_3.length : Int)) then bif qh 0 v12 && qg v12 (c0_3.length : Int) then kOpt (qyG c0_3 (v12.toNat)) fun row => bif qyW (qyH row) 4 then bif qyQ 4 (qyH row) then kTmC (qyM 4 row) fun n n_1 s rows => (bif qh (0 : Int) v12 && qg v12 (c1_3.length : Int) then kOpt (qyG c1_3 (v12.toNat)) fun row => bif qyW (qyH row) 4 then bif qyQ 4 (qyH row) then kTmC (qyM 4 row) fun n_2 n_3 s_1 rows_1 => (kOpt (EVf (EV cfg) 299 [.agg [.int .i64 n, .int .i64 n_1, .str s, .sl rows], .agg [.int .i64 n_2, .int .i64 n_3, .str s_1, .sl rows_1], .sl v2]) fun v => kTup v fun cs => qa cs fun c cs => kSl c fun rows => qa cs fun c cs => qf c fun b => kNil cs (bif ! b then some (AV.tup [.sl [], .bool false]) else zM rows (IntKind.wrap .i64 (v12 + 1)) c0_0 c0_1 c0_2 c0_3 c1_0 c1_1 c1_2 c1_3)) else none else none else none) else none else none else none else some (AV.tup [.sl v2, .bool true])) P) : Gets (zM v2 v12 c0_0 c0_1 c0_2 c0_3 c1_0 c1_1 c1_2 c1_3) P :=
  gE (fun _ => qn (cfg := cfg) (f := 299) (rd := none) (bs := 0)) (by kernel_rfl) h
theorem qed (B : Rz) (nv3 : Nat) (v4 : Int) (h0 : Rz) {P : AV → Prop} (h : Gets (bif decide (v4 < (B.length : Int)) then bif qh 0 v4 && qg v4 (B.length : Int) then kOpt (qyG B (v4.toNat)) fun row => bif qyW (qyH row) 5 then kOpt (qyG row 0) fun v => kInt .i64 v fun n => bif qh 0 v4 && qg v4 (B.length : Int) then kOpt (qyG B (v4.toNat)) fun row => bif qyW (qyH row) 5 then bif qyQ 5 (qyH row) then qa (qyM 4 (qzj 1 row)) fun c cs => kInt .i64 c fun n_1 => qa cs fun c cs => kInt .i64 c fun n_2 => qa cs fun c cs => kStr c fun s => qa cs fun c cs => kSl c fun rows => kNil cs (kOpt (EVf (EV cfg) 76 [.agg [.int .i64 n_1, .int .i64 n_2, .str s, .sl rows]]) fun v => kTmV v fun n_3 n_4 s rows => (bif qyQ (0 + nv3) (qyH h0) && qN (nv3 + 1) 64 then qfr B (nv3 + 1) (IntKind.wrap .i64 (v4 + (1 : Int))) (qy4 (qyM nv3 h0) [[AV.int .i64 n, .int .i64 n_3, .int .i64 n_4, .str s, .sl rows]]) else none)) else none else none else none else none else none else bif qyQ (0 + nv3) (qyH h0) && true then some (.sl (qyM nv3 h0)) else none) P) : Gets (qfr B nv3 v4 h0) P :=
  gE (fun _ => qn (cfg := cfg) (f := 300) (rd := none) (bs := 0)) (by kernel_rfl) h
theorem qdX (v5 c0_0 c0_1 : Int) (c0_2 : Bz) (c0_3 : Rz) (c1_0 c1_1 : Int) (c1_2 : Bz) (c1_3 : Rz) {P : AV → Prop} (h : Gets (bif decide (v5 < (c0_3.length : Int)) then bif qh 0 v5 && qg v5 (c0_3.length : Int) then kOpt (qyG c0_3 (v5.toNat)) fun row => bif qyW (qyH row) 4 then bif qyQ 4 (qyH row) then kTmC (qyM 4 row) fun n n_1 s rows => (bif qh 0 v5 && qg v5 (c1_3.length : Int) then kOpt (qyG c1_3 (v5.toNat)) fun row => bif qyW (qyH row) 4 then bif qyQ 4 (qyH row) then kTmC (qyM 4 row) fun n_2 n_3 s_1 rows_1 => (kOpt (EVs (EV cfg) 146 [.agg [.int .i64 n, .int .i64 n_1, .str s, .sl rows], .agg [.int .i64 n_2, .int .i64 n_3, .str s_1, .sl rows_1]]) fun v => qf v fun b => bif ! b then some (.bool false) else qdf (IntKind.wrap .i64 (v5 + 1)) c0_0 c0_1 c0_2 c0_3 c1_0 c1_1 c1_2 c1_3) else none else none else none) else none else none else none else some (.bool true)) P) : Gets (qdf v5 c0_0 c0_1 c0_2 c0_3 c1_0 c1_1 c1_2 c1_3) P :=
  gE (fun _ => qn (cfg := cfg) (f := 146) (rd := none) (bs := 0)) (by kernel_rfl) h
theorem qlc (v0 : Rz) (v1 v5 : Int) {P : AV → Prop} (h : Gets (bif decide (v5 < (v0.length : Int)) then bif qh 0 v5 && qg v5 (v0.length : Int) then kOpt (qyG v0 (v5.toNat)) fun row => bif qyW (qyH row) 1 then kOpt (qyG row 0) fun v => kInt .i64 v fun n => bif n == v1 then some (.sl v0) else qdI v0 v1 v5 else none else none else qdI v0 v1 v5) P) : Gets (qdJ v0 v1 v5) P :=
  gE (fun _ => qdR) (by kernel_rfl) h
theorem qla (v0 : Rz) (v1 v7 c0_0 c0_1 : Int) (c0_2 : Bz) (c0_3 : Rz) {P : AV → Prop} (h : Gets (bif qh 0 v7 && qh v7 (v0.length : Int) then bif ve 5 v0 then bif ve 5 (qyM (qyY v7 - 0) v0) then bif qN (0 + qyH (qyM (qyY v7 - 0) v0)) 64 then bif qyQ (0 + (0 + qyH (qyM (qyY v7 - 0) v0))) (qyH (qyM (qyY v7 - 0) v0)) && qN (0 + qyH (qyM (qyY v7 - 0) v0) + 1) 64 then qmN v0 v7 (0 + qyH (qyM (qyY v7 - 0) v0) + 1) c0_0 c0_1 c0_2 c0_3 [[AV.int .i64 v1, .int .i64 c0_0, .int .i64 c0_1, .str c0_2, .sl c0_3]] (qy4 (qyM (0 + qyH (qyM (qyY v7 - 0) v0)) (qyM (qyY v7 - 0) v0)) [[AV.int .i64 v1, .int .i64 c0_0, .int .i64 c0_1, .str c0_2, .sl c0_3]]) else none else none else none else none else none) P) : Gets (qbM v0 v1 v7 c0_0 c0_1 c0_2 c0_3) P :=
  gE (fun _ => qdR) (by kernel_rfl) h
theorem qlb (v0 : Rz) (v1 v5 : Int) {P : AV → Prop} (h : Gets (bif qh 0 v5 && qh v5 (v0.length : Int) then bif ve 1 v0 then bif ve 1 (qyM (qyY v5 - 0) v0) then bif qN (0 + qyH (qyM (qyY v5 - 0) v0)) 8 then bif qyQ (0 + (0 + qyH (qyM (qyY v5 - 0) v0))) (qyH (qyM (qyY v5 - 0) v0)) && qN (0 + qyH (qyM (qyY v5 - 0) v0) + 1) 8 then bif qh 0 v5 && qh v5 (v0.length : Int) then bif ve 1 v0 then bif ve 1 (qyM (qyH v0 - v5.toNat) (qzj (qyY v5) v0)) then bif qyQ (0 + (0 + qyH (qyM (qyY v5 - 0) v0) + 1)) (qyH (qy4 (qyM (0 + qyH (qyM (qyY v5 - 0) v0)) (qyM (qyY v5 - 0) v0)) [[AV.int .i64 v1]])) && qN (0 + qyH (qyM (qyY v5 - 0) v0) + 1 + qyH (qyM (qyH v0 - v5.toNat) (qzj (qyY v5) v0))) 8 then bif qyQ (0 + (0 + qyH (qyM (qyY v5 - 0) v0) + 1 + qyH (qyM (qyH v0 - v5.toNat) (qzj (v5.toNat) v0)))) (qyH (qy4 (qyM (0 + qyH (qyM (qyY v5 - 0) v0) + 1) (qy4 (qyM (0 + qyH (qyM (qyY v5 - 0) v0)) (qyM (qyY v5 - 0) v0)) [[AV.int .i64 v1]])) (qyM (qyH v0 - v5.toNat) (qzj (v5.toNat) v0)))) && true then some (AV.sl (qyM (0 + qyH (qyM (qyY v5 - 0) v0) + 1 + qyH (qyM (qyH v0 - v5.toNat) (qzj (v5.toNat) v0))) (qy4 (qyM (0 + qyH (qyM (qyY v5 - 0) v0) + 1) (qy4 (qyM (0 + qyH (qyM (qyY v5 - 0) v0)) (qyM (qyY v5 - 0) v0)) [[AV.int .i64 v1]])) (qyM (qyH v0 - v5.toNat) (qzj (v5.toNat) v0))))) else none else none else none else none else none else none else none else none else none else none) P) : Gets (qdI v0 v1 v5) P :=
  gE (fun _ => qdR) (by kernel_rfl) h
theorem qk9 (v0 : Rz) (v7 : Int) (nv8 : Nat) (c0_0 c0_1 : Int) (c0_2 : Bz) (c0_3 h3 h4 : Rz) {P : AV → Prop} (h : Gets (bif qh 0 v7 && qh v7 (v0.length : Int) then bif ve 5 v0 then bif ve 5 (qyM (qyH v0 - v7.toNat) (qzj (v7.toNat) v0)) then bif qyQ (0 + nv8) (qyH h4) && qN (nv8 + qyH (qyM (qyH v0 - v7.toNat) (qzj (v7.toNat) v0))) 64 then bif qyQ (0 + (nv8 + qyH (qyM (qyH v0 - v7.toNat) (qzj (v7.toNat) v0)))) (qyH (qy4 (qyM nv8 h4) (qyM (qyH v0 - v7.toNat) (qzj (qyY v7) v0)))) && true then some (AV.sl (qyM (nv8 + qyH (qyM (qyH v0 - v7.toNat) (qzj (v7.toNat) v0))) (qy4 (qyM nv8 h4) (qyM (qyH v0 - v7.toNat) (qzj (v7.toNat) v0))))) else none else none else none else none else none) P) : Gets (qmN v0 v7 nv8 c0_0 c0_1 c0_2 c0_3 h3 h4) P :=
  gE (fun _ => qdR) (by kernel_rfl) h
end Go.Proofs.YtkgkjngbfdnoiaaGreat
end
