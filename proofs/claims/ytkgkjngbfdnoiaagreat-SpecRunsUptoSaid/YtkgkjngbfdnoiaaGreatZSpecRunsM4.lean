/-
  Parts of the proof of SpecRunsUptoSaid, put together: the abstract evaluation and its contracts. Own work.
  What is proved: each lemma as it stands; no condition.
-/
import Derived.Test.YtkgkjngbfdnoiaaGreatZSpecRunsM3
open List renaming get?Internal → qyG, length → qyH, getElem?_eq_getElem → qyI, getElem?_eq_some_iff → qyL, take → qyM, take_of_length_le → qyP, mem_of_getElem? → qyR, drop_eq_getElem_cons → qyS, getElem?_append_left → qyU, drop_eq_nil_of_le → qyV, getElem?_set → qyX, getElem?_append_right → qyZ, append → qy4, length_append → qy6, getElem?_cons_zero → qy8, length_take → qzb, length_cons → qzc, length_map → qzd, replicate → qzf, mem_append → qzi, drop → qzj, drop_zero → qzk, mem_cons → qzm, range → qzn
open Option renaming bind_eq_some_iff → qyJ, map_eq_some_iff → qyO, bind_some → qy0, map_some → qy7, isSome_some → qzl
open Bool renaming and_eq_true → qyK, and_self → qy2, false_eq_true → qza, true_and → qzg, not_true → qzh
open Nat renaming le_refl → qyN, ble → qyQ, eq_of_beq_eq_true → qyT, beq → qyW, beq_refl → qy1, mul_le_mul_right → qy5, ble_eq → qy9
open Int renaming toNat → qyY, toNat_natCast → qy3
open Array renaming toList → qze
set_option maxRecDepth 1000000
set_option maxHeartbeats 0
section
namespace Go.Av
theorem yQ {t : Tm} : t.chk = 0 ↔ t.parts = true ∧ t.words ≤ 65536 := by
 unfold Tm.chk chkS
 simp only [vn, qU, Bool.and_true, Nat.zero_add, Nat.add_zero]
 cases h : t.parts with
 | false => simp
 | true =>
  simp
theorem qsZ (l : List Tm) (h : ∀ x ∈ l, x.parts = true → x.w ≤ 65 * x.words) : vn l = true → wL l ≤ 65 * qU l := by
 induction l with
 | nil => intro _; simp
 | cons x l ih =>
  intro hp
  rw [vn, qyK] at hp
  have h1 := h x (by simp) hp.1
  have h2 := ih (fun y hy => h y (by simp [hy])) hp.2
  rw [qV, qU]; omega
theorem qkf {k n : Int} {s : List UInt8} {m : Nat} (h : xS k n s m = true) : s.length ≤ 64 ∧ m ≤ 64 := by
 unfold xS at h
 repeat' split at h
 all_goals simp at h
 all_goals first | (obtain ⟨_, _, h3, h4⟩ := h; subst h3; simp; omega) | (obtain ⟨_, h3, h4⟩ := h; subst h3; simp; omega) | omega
theorem qu0 (t : Tm) : t.parts = true → t.w ≤ 65 * t.words := by
 induction t using Tm.ind with
 | _ k n s l ih =>
  intro hp
  rw [Tm.parts, qyK] at hp
  have h1 := qkf hp.1
  have h2 := qsZ l ih hp.2
  have h3 := (Tm.mk k n s l).own_le
  rw [Tm.w_mk, Tm.words]; omega
theorem vj {t : Tm} (h : t.chk = 0) : t.w ≤ 4259840 := by
 obtain ⟨h1, h2⟩ := yQ.1 h
 have := qu0 t h1
 omega
theorem xE {t : Tm} (h : t.chk = 0) : t.subs.length ≤ 64 := by
 obtain ⟨h1, _⟩ := yQ.1 h
 rw [Tm.parts_eq, qyK] at h1
 exact (qkf h1.1).2
theorem qhP {x : Tm} {l : List Tm} (h : x ∈ l) : x.words ≤ qU l := by
 induction l with
 | nil => cases h
 | cons y l ih =>
  rw [qU]
  rcases qzm.1 h with rfl | h
  ·omega
  ·have := ih h; omega
theorem qbd {l : List Tm} (h : vn l = true) : ∀ x ∈ l, x.parts = true := by
 induction l with
 | nil => intro x hx; cases hx
 | cons y l ih =>
  intro x hx
  rw [vn, qyK] at h
  rcases qzm.1 hx with rfl | hx
  ·exact h.1
  ·exact ih h.2 x hx
theorem qZ {t x : Tm} (h : t.chk = 0) (hx : x ∈ t.subs) : x.chk = 0 := by
 obtain ⟨h1, h2⟩ := yQ.1 h
 rw [Tm.parts_eq, qyK] at h1
 have := qhP hx
 rw [Tm.words_eq] at h2
 exact yQ.2 ⟨qbd h1.2 x hx, by omega⟩
theorem yd {t : Tm} (h : t.chk = 0) (hk : t.kind = 9) : ∃ a b, t.subs = [a, b] := by
 obtain ⟨h1, _⟩ := yQ.1 h
 rw [Tm.parts_eq, qyK] at h1
 have h2 : xS t.kind t.num t.str t.subs.length = true := h1.1
 rw [hk] at h2
 simp [xS] at h2
 match hl : t.subs, h2.2.2 with
 | [a, b], _ => exact ⟨a, b, rfl⟩
theorem qpe {t : Tm} (h : t.chk = 0) (hk : t.kind = 1) : InB t.num ∧ t = numT t.num := by
 obtain ⟨h1, _⟩ := yQ.1 h
 obtain ⟨k, n, s, l⟩ := t
 simp only [Tm.kind_mk] at hk
 subst hk
 rw [Tm.parts_eq, qyK] at h1
 have h2 : xS 1 n s l.length = true := h1.1
 simp [xS] at h2
 obtain ⟨a, b, c, d⟩ := h2
 subst c d
 exact ⟨⟨a, b⟩, rfl⟩
def xh (t : Tm) : Option Tm := if t.chk = 0 then some t else none
theorem qa8 {t v : Tm} (h : xh t = some v) : v.chk = 0 ∧ v = t := by
 unfold xh at h
 split at h
 ·rename_i hc; cases h; exact ⟨hc, rfl⟩
 ·cases h
def lenT : Nat → Tm → Option Nat
 | 0, _ => none
 | n + 1, t => if t.kind = 9 then (match t.subs with | [_, b] => (lenT n b).map (· + 1) | _ => none) else if t.kind = 8 then some 0 else none
def lenG (t : Tm) : Option Nat := lenT t.w t
theorem qpa : ∀ (n : Nat) (t : Tm) (m : Nat), lenT n t = some m → m ≤ n
 | 0, _, _, h => by cases h
 | n + 1, t, m, h => by
  rw [lenT] at h
  split at h
  ·split at h
   ·obtain ⟨x, h1, rfl⟩ := qyO.1 h
    have := qpa n _ x h1
    omega
   ·cases h
  ·split at h
   ·cases h; omega
   ·cases h
theorem qr7 : ∀ (n m : Nat) (t : Tm), t.w ≤ n → t.w ≤ m → lenT n t = lenT m t := by
 intro n
 induction n with
 | zero => intro m t h; have := vH t; omega
 | succ n ih =>
  intro m t hn hm
  obtain ⟨m, rfl⟩ : ∃ k, m = k + 1 := ⟨m - 1, by have := vH t; omega⟩
  rw [lenT, lenT]
  by_cases h9 : t.kind = 9
  ·rw [if_pos h9, if_pos h9]
   have hw := t.w_eq
   cases hs : t.subs with
   | nil => rfl
   | cons a l =>
    cases l with
    | nil => rfl
    | cons b l =>
     cases l with
     | nil =>
      rw [hs] at hw
      simp only [qV, vQ] at hw
      simp only []
      rw [ih m b (by omega) (by omega)]
     | cons c l => rfl
  ·rw [if_neg h9, if_neg h9]
theorem qkv {t a b : Tm} (hk : t.kind = 9) (hs : t.subs = [a, b]) : lenG t = (lenG b).map (· + 1) := by
 have hw := t.w_eq
 rw [hs] at hw
 simp only [qV, vQ] at hw
 unfold lenG
 obtain ⟨n, hn⟩ : ∃ n, t.w = n + 1 := ⟨t.w - 1, by have := vH t; omega⟩
 rw [hn, lenT, if_pos hk, hs]
 simp only []
 rw [qr7 n b.w b (by omega) (qyN _)]
theorem qmx {t : Tm} (hk : t.kind = 8) : lenG t = some 0 := by
 unfold lenG
 obtain ⟨n, hn⟩ : ∃ n, t.w = n + 1 := ⟨t.w - 1, by have := vH t; omega⟩
 rw [hn, lenT, if_neg (by omega), if_pos hk]
theorem qku {t : Tm} (h9 : t.kind ≠ 9) (h8 : t.kind ≠ 8) : lenG t = none := by
 unfold lenG
 obtain ⟨n, hn⟩ : ∃ n, t.w = n + 1 := ⟨t.w - 1, by have := vH t; omega⟩
 rw [hn, lenT, if_neg h9, if_neg h8]
theorem qvo {t : Tm} {m : Nat} (h : lenG t = some m) : m ≤ t.w := qpa _ _ _ h
def oneG (op : List UInt8) (t : Tm) : Option Tm :=
 if op = [105, 115, 95, 97, 116, 111, 109] then some (vh (decide (t.kind = 2)))
 else if op = [105, 115, 95, 105, 110, 116, 101, 103, 101, 114] then some (vh (decide (t.kind = 1)))
 else if op = [105, 115, 95, 108, 105, 115, 116] then some (vh (decide (t.kind = 9) || decide (t.kind = 8)))
 else if op = [105, 115, 95, 116, 117, 112, 108, 101] then some (vh (decide (t.kind = 7)))
 else if op = [105, 115, 95, 112, 105, 100] then some (vh (decide (t.kind = 6)))
 else if op = [105, 115, 95, 102, 117, 110, 99, 116, 105, 111, 110] then some (vh (decide (t.kind = 5)))
 else if op = [105, 115, 95, 114, 101, 102, 101, 114, 101, 110, 99, 101] then some (vh (decide (t.kind = 3) || decide (t.kind = 4)))
 else if op = [110, 111, 116] then (vu t).map fun b => vh (!b)
 else if op = [98, 110, 111, 116] then (if t.kind = 1 then qK (-1 - t.num) else none)
 else if op = [43] then (if t.kind = 1 then qK t.num else none)
 else if op = [45] then (if t.kind = 1 then qK (-t.num) else none)
 else if op = [97, 98, 115] then (if t.kind = 1 then qK (if t.num < 0 then -t.num else t.num) else none)
 else if op = [116, 117, 112, 108, 101, 95, 115, 105, 122, 101] then (if t.kind = 7 then qK t.subs.length else none)
 else if op = [115, 105, 122, 101] then (if t.kind = 7 then qK t.subs.length else none)
 else if op = [108, 101, 110, 103, 116, 104] then (lenG t).bind fun n => qK n
 else if t.kind = 9 then (if op = [104, 100] then t.subs[0]? else t.subs[1]?)
 else none
def qbS (op : List UInt8) (l : List Tm) (self : Int) : Option Tm :=
 match l with
 | [a] => oneG op a
 | [a, b] => twoG op a b
 | _ => some (.mk 6 self [] [])
theorem qnv {n : Int} {v : Tm} (h : qK n = some v) : v.chk = 0 := by
 unfold qK at h
 split at h
 ·rename_i hb; cases h; exact qth hb
 ·cases h
theorem qpJ (b : Bool) : (vh b).chk = 0 := by cases b <;> decide
def seqO : List (Option Tm) → Option (List Tm)
 | [] => some []
 | o :: l => o.bind fun x => (seqO l).map (x :: ·)
def qO (l : List Tm) : Tm := l.foldr (fun x e => .mk 9 0 [] [x, e]) (.mk 8 0 [] [])
def z6 (an : Bool) : List (Option Tm) → Option Tm
 | a :: b :: _ => a.bind fun x => (vu x).bind fun v => if v = an then (b.bind fun y => (vu y).map fun _ => y) else some x
 | _ => none
mutual
/-- an expression's value -/
def valG (e : Env) : Tm → Option Tm
  | .mk k n s l =>
    if k = 2 then
      (match varT (.mk k n s l) with
       | some x => some ((qP x e.binds).getD qX)
       | none => if s = [36, 95] then some e.obj else if s = [36, 36] then xh (qO (e.binds.map (·.2))) else some (.mk k n s l))
    else if k = 9 then (seqO (vg e l)).bind fun ts => xh (.mk 9 0 [] ts)
    else if k = 7 then
      (match l with
       | [] => none
       | (.mk k1 _ s1 l1) :: rest =>
         if k1 = 7 then (seqO (vg e l1)).bind fun ts => xh (.mk 7 0 [] ts)
         else if s1 = [99, 111, 110, 115, 116] then rest[0]?
         else if s1 = [97, 110, 100, 97, 108, 115, 111] then z6 true (vg e rest)
         else if s1 = [111, 114, 101, 108, 115, 101] then z6 false (vg e rest)
         else (seqO (vg e rest)).bind fun ts => (qbS s1 ts e.self).bind xh)
    else some (.mk k n s l)
def vg (e : Env) : List Tm → List (Option Tm)
  | [] => []
  | t :: l => valG e t :: vg e l
end
theorem qb2 (e : Env) : ∀ l : List Tm, vg e l = l.map (valG e)
 | [] => rfl
 | t :: l => by rw [vg, qb2 e l]; rfl
theorem qev {e : Env} {t : Tm} (h : t.kind = 2) : valG e t = match varT t with
  | some x => some ((qP x e.binds).getD qX)
  | none => if t.str = [36, 95] then some e.obj else if t.str = [36, 36] then xh (qO (e.binds.map (·.2))) else some t := by
 obtain ⟨k, n, s, l⟩ := t
 simp only [Tm.kind_mk] at h
 rw [valG.eq_def]; simp only []; rw [if_pos h]; rfl
theorem qeu {e : Env} {t : Tm} (h : t.kind = 9) : valG e t = (seqO (vg e t.subs)).bind fun ts => xh (.mk 9 0 [] ts) := by
 obtain ⟨k, n, s, l⟩ := t
 simp only [Tm.kind_mk] at h
 subst h
 rw [valG.eq_def]; simp only []; rw [if_neg (by omega), if_pos trivial]; rfl
theorem qg4 {e : Env} {t f : Tm} {r : List Tm} (h : t.kind = 7) (hl : t.subs = f :: r) : valG e t =
  if f.kind = 7 then (seqO (vg e f.subs)).bind fun ts => xh (.mk 7 0 [] ts)
  else if f.str = [99, 111, 110, 115, 116] then r[0]?
  else if f.str = [97, 110, 100, 97, 108, 115, 111] then z6 true (vg e r)
  else if f.str = [111, 114, 101, 108, 115, 101] then z6 false (vg e r)
  else (seqO (vg e r)).bind fun ts => (qbS f.str ts e.self).bind xh := by
 obtain ⟨k, n, s, l⟩ := t
 obtain ⟨k1, n1, s1, l1⟩ := f
 simp only [Tm.kind_mk, Tm.subs_mk] at h hl
 subst h hl
 rw [valG.eq_def]; simp only []; rw [if_neg (by omega), if_neg (by omega), if_pos trivial]; rfl
theorem qdk {e : Env} {t : Tm} (h2 : t.kind ≠ 2) (h9 : t.kind ≠ 9) (h7 : t.kind ≠ 7) : valG e t = some t := by
 obtain ⟨k, n, s, l⟩ := t
 simp only [Tm.kind_mk] at h2 h9 h7
 rw [valG.eq_def]; simp only []; rw [if_neg h2, if_neg h9, if_neg h7]
structure EnvOk (e : Env) : Prop where
 obj : e.obj.chk = 0
 may : mayB (-1) e.binds = true
 self : y8 e.self = true
theorem qdx : ∀ {l : List (Int × Tm)} {last : Int}, mayB last l = true → (l.length : Int) ≤ max 0 (99 - last)
 | [], _, _ => by simp; omega
 | p :: l, last, h => by
  simp only [mayB, qyK, decide_eq_true_eq] at h
  have := qdx h.2.2.2
  simp only [qzc]
  omega
theorem qap : ∀ {l : List (Int × Tm)} {last : Int}, mayB last l = true → ∀ p ∈ l, p.2.chk = 0
 | [], _, _, p, hp => by cases hp
 | q :: l, last, h, p, hp => by
  simp only [mayB, qyK, decide_eq_true_eq] at h
  rcases qzm.1 hp with rfl | hp
  ·exact h.2.2.1
  ·exact qap h.2.2.2 p hp
theorem EnvOk.len {e : Env} (h : EnvOk e) : e.binds.length ≤ 100 := by have := qdx h.may; omega
def xq (e : Env) : List Int := e.binds.map (·.1)
theorem qbg {n : Int} : ∀ {m : List (Int × Tm)}, n ∈ m.map (·.1) → ∃ t, qP n m = some t
 | [], h => by cases h
 | q :: m, h => by
  rw [qP]
  by_cases hq : q.1 = n
  ·exact ⟨q.2, by rw [if_pos hq]⟩
  ·rw [if_neg hq]
   rw [List.map_cons, qzm] at h
   exact qbg (h.resolve_left fun h => hq h.symm)
theorem zL {V : List Int} {l : List Tm} (h : allG V l = true) : ∀ x ∈ l, isG V x = true := by
 intro x hx
 cases hg : isG V x with
 | true => rfl
 | false => rw [qjk.2 ⟨x, hx, hg⟩] at h; cases h
theorem qg7 : ∀ {l : List (Option Tm)} {ts : List Tm}, seqO l = some ts → l = ts.map some
 | [], ts, h => by cases h; rfl
 | o :: l, ts, h => by
  rw [seqO] at h
  obtain ⟨x, hx, h⟩ := qyJ.1 h
  obtain ⟨r, hr, rfl⟩ := qyO.1 h
  rw [hx, qg7 hr]; rfl
theorem qbz {e : Env} (he : EnvOk e) : ∀ (n : Nat) (t : Tm), t.w ≤ n → t.chk = 0 → isG (xq e) t = true → ∀ v, valG e t = some v → v.chk = 0 := by
 intro n
 induction n with
 | zero => intro t h; have := vH t; omega
 | succ n ih =>
  intro t hw hc hg v hv
  have hwe := t.w_eq
  by_cases h2 : t.kind = 2
  ·rw [qev h2] at hv
   rw [qat h2] at hg
   cases hx : varT t with
   | some x =>
    rw [hx] at hv hg
    obtain ⟨y, hy⟩ := qbg (of_decide_eq_true hg)
    simp only [hy, Option.getD_some] at hv
    cases hv
    exact qap he.may _ (xy hy)
   | none =>
    rw [hx] at hv
    simp only [] at hv
    split at hv
    ·cases hv; exact he.obj
    ·split at hv
     ·exact (qa8 hv).1
     ·cases hv; exact hc
  by_cases h9 : t.kind = 9
  ·rw [qeu h9] at hv
   obtain ⟨ts, _, h⟩ := qyJ.1 hv
   exact (qa8 h).1
  by_cases h7 : t.kind = 7
  ·cases hl : t.subs with
   | nil => rw [qcW h7 hl] at hg; cases hg
   | cons f r =>
    have hr : ∀ x ∈ r, x.w ≤ n ∧ x.chk = 0 := fun x hx => by
     have h1 : x ∈ t.subs := by rw [hl]; simp [hx]
     have h2 := vY h1
     exact ⟨by omega, qZ hc h1⟩
    rw [qg4 h7 hl] at hv
    rw [qcV h7 hl] at hg
    by_cases f7 : f.kind = 7
    ·rw [if_pos f7] at hv
     obtain ⟨ts, _, h⟩ := qyJ.1 hv
     exact (qa8 h).1
    rw [if_neg f7] at hv hg
    by_cases f2 : f.kind = 2
    ·rw [if_pos f2] at hg
     by_cases hk : f.str = [99, 111, 110, 115, 116]
     ·rw [if_pos hk] at hv
      exact (hr v (qyR hv)).2
     rw [if_neg hk] at hv hg
     rw [qyK] at hg
     have hlz : ∀ an, z6 an (vg e r) = some v → v.chk = 0 := by
      intro an h
      rw [qb2] at h
      match r, hr, hg.2 with
      | [], _, _ => cases h
      | [a], _, _ => cases h
      | a :: b :: q, hr, hg2 =>
       simp only [List.map_cons, z6] at h
       obtain ⟨x, hx, h⟩ := qyJ.1 h
       obtain ⟨bb, _, h⟩ := qyJ.1 h
       have hga := zL hg2
       split at h
       ·obtain ⟨y, hy, h⟩ := qyJ.1 h
        obtain ⟨_, _, rfl⟩ := qyO.1 h
        exact ih b (hr b (by simp)).1 (hr b (by simp)).2 (hga b (by simp)) _ hy
       ·cases h
        exact ih a (hr a (by simp)).1 (hr a (by simp)).2 (hga a (by simp)) _ hx
     split at hv
     ·exact hlz _ hv
     split at hv
     ·exact hlz _ hv
     obtain ⟨ts, _, h⟩ := qyJ.1 hv
     obtain ⟨w, _, h⟩ := qyJ.1 h
     exact (qa8 h).1
    ·rw [if_neg f2] at hg; cases hg
  ·rw [qdk h2 h9 h7] at hv
   cases hv; exact hc
theorem qdo {e : Env} (he : EnvOk e) {l ts : List Tm} (hl : ∀ x ∈ l, x.chk = 0 ∧ isG (xq e) x = true) (h : seqO (vg e l) = some ts) : ∀ x ∈ ts, x.chk = 0 := by
 have := qg7 h
 rw [qb2] at this
 intro x hx
 have hm : some x ∈ l.map (valG e) := by rw [this]; exact List.mem_map_of_mem hx
 obtain ⟨y, hy, hv⟩ := List.mem_map.1 hm
 exact qbz he _ y (qyN _) (hl y hy).1 (hl y hy).2 x hv
theorem qdn {e : Env} {l ts : List Tm} (h : seqO (vg e l) = some ts) : ts.length = l.length := by
 have := congrArg qyH (qg7 h)
 rw [qb2] at this
 simpa using this.symm
def envG (e : Env) : Bool := mayB (-1) e.binds && (decide (e.obj.chk = 0) && y8 e.self)
theorem qc3 {e : Env} : envG e = true ↔ EnvOk e := by
 unfold envG
 constructor
 ·intro h
  rw [qyK, qyK, decide_eq_true_eq] at h
  exact ⟨h.2.1, h.1, h.2.2⟩
 ·rintro ⟨h1, h2, h3⟩
  rw [h2, h3, decide_eq_true h1]; rfl
def vO (e : Env) (t : Tm) : Tm × Int := if envG e && decide (xg (xq e) t = 0) then (match valG e t with | some v => (v, 0) | none => (qX, 10)) else (qX, 2)
def qh2 (e : Env) (t : Tm) : Bool := decide ((vO e t).2 = 0) && (decide ((vO e t).1.kind = 2) && decide ((vO e t).1.str = tru))
def qbN (e : Env) (l : List Tm) : Bool := l.all (qh2 e) && envG e
theorem qaH {V : List Int} {t : Tm} (h : xg V t = 0) : t.chk = 0 ∧ isG V t = true := by
 unfold xg at h
 split at h
 ·rename_i h0
  split at h
  ·rename_i h1; exact ⟨h0, h1⟩
  ·cases h
 ·cases h
theorem qsn {e : Env} {t : Tm} (h : (vO e t).2 = 0) : (vO e t).1.chk = 0 := by
 unfold vO at h ⊢
 split at h
 ·rename_i hc
  rw [if_pos hc]
  rw [qyK, decide_eq_true_eq] at hc
  obtain ⟨h1, h2⟩ := qaH hc.2
  cases hv : valG e t with
  | none => rw [hv] at h; cases h
  | some v => exact qbz (qc3.1 hc.1) _ t (qyN _) h1 h2 v hv
 ·cases h
end Go.Av
end
section
namespace Go.Proofs.YtkgkjngbfdnoiaaGreat
open Go.Av
noncomputable def qxq : Den := evC cfg (EV cfg) 68 none 0 (sub (qe Tryz.f68) [1, 1, 1, 0, 1, 0, 0])
noncomputable def qx8 : Ex × List AV × AH → Option AV := kAft (Cfg.keepOut cfg 68 4) (kRun cfg (EV cfg) (kfN cfg 6) 68 none 0 (vp cfg (Cfg.lift cfg 68 0) Tryz.f68.results.toList) ([.block 0, .seq (sub (qe Tryz.f68) [1, 1, 1, 1])]))
noncomputable def qwT : List AV × AH → Option AV := fun p => kOpt (LOOP 0 (some [1, 4, 5, 9, 10, 11]) ([(4, 1)]) qxq p) qx8
noncomputable def qxo : Den := evC cfg (EV cfg) 157 none 1 (sub (qe Tryz.f157) [1, 1, 0, 1, 0, 0])
noncomputable def qx6 : Ex × List AV × AH → Option (AV × List (List AV)) := kAft (Cfg.keepOut cfg 157 (qq (sub (qe Tryz.f157) [1, 1, 0, 1, 0, 0]))) (vF 0 (kSeq (fun (fr : List AV) (H : AH) => vK (Cfg.cut cfg 157 (qq (sub (qe Tryz.f157) [1, 1, 1]))) fr H fun (fr : List AV) (H : AH) => qT cfg (EV cfg) (kfN cfg 6) 157 none 1 (sub (qe Tryz.f157) [1, 1, 1]) fr H (qab cfg 7 (Cfg.lift cfg 157 0) (qze (Func.results Tryz.f157)))) (qab cfg 7 (Cfg.lift cfg 157 0) (qze (Func.results Tryz.f157)))))
noncomputable def qwR : List AV × AH → Option (AV × List (List AV)) := fun (p : List AV × AH) => kOpt (LOOP 1 (some [0, 5, 8, 9, 10]) [(5, 4)] qxo p) qx6
noncomputable def qxp : Den := evC cfg (EV cfg) 156 none 1 (sub (qe Tryz.f156) [1, 1, 0, 1, 0, 0])
noncomputable def qx7 : Ex × List AV × AH → Option (AV × List (List AV)) := kAft (Cfg.keepOut cfg 156 (qq (sub (qe Tryz.f156) [1, 1, 0, 1, 0, 0]))) (vF 0 (kSeq (fun (fr : List AV) (H : AH) => vK (Cfg.cut cfg 156 (qq (sub (qe Tryz.f156) [1, 1, 1]))) fr H fun (fr : List AV) (H : AH) => qT cfg (EV cfg) (kfN cfg 6) 156 none 1 (sub (qe Tryz.f156) [1, 1, 1]) fr H (qab cfg 7 (Cfg.lift cfg 156 0) (qze (Func.results Tryz.f156)))) (qab cfg 7 (Cfg.lift cfg 156 0) (qze (Func.results Tryz.f156)))))
noncomputable def qwS : List AV × AH → Option (AV × List (List AV)) := fun (p : List AV × AH) => kOpt (LOOP 1 (some [2, 3, 10, 11, 12]) [(3, 4)] qxp p) qx7
noncomputable def qxn : Den := evC cfg (EV cfg) 273 none 4 (sub (qe Tryz.f273) [1, 0, 0])
noncomputable def qx5 : Ex × List AV × AH → Option AV := kAft (Cfg.keepOut cfg 273 (qq (sub (qe Tryz.f273) [1, 0, 0]))) (vF 0 (xa cfg (Cfg.lift cfg 273 0) (fun (v : AV) (H : AH) => (fun (r : AV × AH) => xM 0 3 (fx 16 [(3, AV.ptr 0 0 0), (4, AV.ptr 1 0 0)]) (vF 0 (kSeq (fun (fr : List AV) (H : AH) => vK (Cfg.cut cfg 122 (qq (sub (qe Tryz.f122) [1, 1]))) fr H fun (fr : List AV) (H : AH) => qT cfg (EV cfg) (kfN cfg 6) 122 none 0 (sub (qe Tryz.f122) [1, 1]) fr H (vp cfg (Cfg.lift cfg 122 0) (qze (Func.results Tryz.f122)))) (vp cfg (Cfg.lift cfg 122 0) (qze (Func.results Tryz.f122))))) (Prod.snd r)) (v, H)) (qze (Func.results (Prod.snd (273, Tryz.f273))))))
noncomputable def qwQ : List AV × AH → Option AV := fun (p : List AV × AH) => kOpt (LOOP 4 (some [0, 1, 3]) [] qxn p) qx5
noncomputable abbrev qhH (bd : Rz) (nv4 : Nat) (v5 v11 c0_0 c0_1 : Int) (c0_2 : Bz) (c0_3 c0_4 : Rz) (c0_5 : Int) (h1 : Rz) : Option (AV) := qwT  (((fx 48 [(1, .ptr 0 0 0), (4, .ms 1 0 nv4), (5, .int .i64 v5), (9, .sl bd), (10, .int .i64 (bd.length : Int)), (11, .int .i64 v11)]) : List AV), ([.rows false 6 [[.int .i64 c0_0, .int .i64 c0_1, .str c0_2, .sl c0_3, .sl c0_4, .int .i64 c0_5]], .rows true 1 h1] : AH))
noncomputable abbrev qd8 (L : Rz) (nv5 : Nat) (v10 : Int) (h0 h1 : Rz) : Option (AV × List (List AV)) := qwR  (((fx 26 [(0, .ptr 0 0 0), (5, .ms 1 0 nv5), (8, .sl L), (9, .int .i64 (L.length : Int)), (10, .int .i64 v10)]) : List AV), ([.rows true 7 h0, .rows true 4 h1] : AH))
noncomputable abbrev qhG (bd : Rz) (nv3 : Nat) (v12 : Int) (h0 : Rz) (c1_0 c1_1 : Int) (c1_2 : Bz) (c1_3 h2 : Rz) : Option (AV × List (List AV)) := qwS  (((fx 25 [(2, .ptr 1 0 0), (3, .ms 2 0 nv3), (10, .sl bd), (11, .int .i64 (bd.length : Int)), (12, .int .i64 v12)]) : List AV), ([.rows true 7 h0, .rows false 4 [[.int .i64 c1_0, .int .i64 c1_1, .str c1_2, .sl c1_3]], .rows true 4 h2] : AH))
noncomputable abbrev qhF (v3 c0_0 c0_1 : Int) (c0_2 : Bz) (c0_3 : Rz) (c1_0 c1_1 : Int) (c1_2 : Bz) (c1_3 c2_0 : Rz) : Option (AV) := qwQ  (((fx 19 [(0, .yld 3), (1, .ptr 2 0 0), (3, .int .i64 v3)]) : List AV), ([.rows false 4 [[.int .i64 c0_0, .int .i64 c0_1, .str c0_2, .sl c0_3]], .rows false 4 [[.int .i64 c1_0, .int .i64 c1_1, .str c1_2, .sl c1_3]], .rows false 1 [[.sl c2_0]], rngB Tryz.f122 122 [1, 0, 1, 0] (fx 16 [(3, .ptr 0 0 0)]) none LoopState.ready] : AH))
theorem qmR (ke ne : Int) (se : Bz) (le bd : Rz) (self : Int) {P : AV → Prop} (h : Gets (qhH bd 0 (- 1) 0 ke ne se le bd self []) P) : Gets (EVf (EV cfg) 68 [.agg [.int .i64 ke, .int .i64 ne, .str se, .sl le, .sl bd, .int .i64 self]]) P :=
  gE (fun _ => funF rfl rfl Tryz.func68 rfl) (by kernel_rfl) h
theorem qoE (kt nt : Int) (st : Bz) (lt V : Rz) {P : AV → Prop} (h : Gets (bif kt == 2 then kOpt (EVs (EV cfg) 153 [.agg [.int .i64 kt, .int .i64 nt, .str st, .sl lt]]) fun v => kTup v fun cs => qa cs fun c cs => kInt .i64 c fun n => qa cs fun c cs => qf c fun b => kNil cs (bif ! b then some (.bool true) else kOpt (EVs (EV cfg) 88 [.sl V, .int .i64 n]) fun v => qf v fun b => some (.bool b)) else bif kt == 9 then kOpt (EVs (EV cfg) 230 [.sl lt, .sl V]) fun v => qf v fun b => some (.bool b) else bif kt == 7 then bif (lt.length : Int) == 0 then some (.bool false) else bif qg 0 (lt.length : Int) then kOpt (qyG lt 0) fun row => bif qyW (qyH row) 4 then bif qyQ 4 (qyH row) then kTmC (qyM 4 row) fun n n_1 s rows => (bif qh 1 (lt.length : Int) then bif ve 4 lt then bif n == 7 then bif (↑ (qyH (qyM (qyH lt - 1) (qzj 1 lt))) : Int) == (0 : Int) then kOpt (EVs (EV cfg) 230 [.sl rows, .sl V]) fun v => qf v fun b => some (.bool b) else some (.bool false) else bif n != 2 then some (.bool false) else bif s == [(99 : UInt8), (111 : UInt8), (110 : UInt8), (115 : UInt8), (116 : UInt8)] then some (.bool ((↑ (qyH (qyM (qyH lt - 1) (qzj 1 lt))) : Int) == 1)) else kOpt (EVf (EV cfg) 89 [.str s]) fun v => kSl v fun rows => kOpt (EVs (EV cfg) 88 [.sl rows, .int .i64 (↑ (qyH (qyM (qyH lt - 1) (qzj 1 lt))) : Int)]) fun v => qf v fun b => bif b then kOpt (EVs (EV cfg) 230 [.sl (qyM (qyH lt - 1) (qzj 1 lt)), .sl V]) fun v => qf v fun b => some (.bool b) else some (.bool false) else none else none) else none else none else none else some (.bool true)) P) : Gets (EVs (EV cfg) 152 [.agg [.int .i64 kt, .int .i64 nt, .str st, .sl lt], .sl V]) P :=
  gE (fun _ => funS rfl rfl Tryz.func152 rfl) (by kernel_rfl) h
theorem qmS (L V : Rz) {P : AV → Prop} (h : Gets (kOpt (EVs (EV cfg) 143 [.sl L, AV.fn (Fn.func 290) [] [AV.cptr [.sl V] 0]]) fun v => qf v fun b => some (.bool ! b)) P) : Gets (EVs (EV cfg) 230 [.sl L, .sl V]) P :=
  gE (fun _ => funS rfl rfl Tryz.func230 rfl) (by kernel_rfl) h
theorem qjY (kt nt : Int) (st : Bz) (lt V : Rz) {P : AV → Prop} (h : Gets (kOpt (EVs (EV cfg) 91 [.agg [.int .i64 kt, .int .i64 nt, .str st, .sl lt]]) fun v => kInt .i64 v fun n => bif n != 0 then some (.int .i64 2) else kOpt (EVs (EV cfg) 152 [.agg [.int .i64 kt, .int .i64 nt, .str st, .sl lt], .sl V]) fun v => qf v fun b => bif ! b then some (.int .i64 10) else some (.int .i64 0)) P) : Gets (EVs (EV cfg) 69 [.agg [.int .i64 kt, .int .i64 nt, .str st, .sl lt], .sl V]) P :=
  gE (fun _ => funS rfl rfl Tryz.func69 rfl) (by kernel_rfl) h
noncomputable abbrev zf0 (q : AV × List (List AV)) : Option (AV × List (List AV)) := kTmV q.1 fun n n_1 s rows => (some (.agg [.int .i64 n, .int .i64 n_1, .str s, .sl rows], q.2))
theorem qiA (ke ne : Int) (se : Bz) (le bd : Rz) (self : Int) (bad : Bool) (kt nt : Int) (st : Bz) (lt : Rz) {P : AV × List (List AV) → Prop} (h : Gets (bif bad then kOpt (EVd (EV cfg) 233 [.ptr 0 0 0] 7 [[.int .i64 ke, .int .i64 ne, .str se, .sl le, .sl bd, .int .i64 self, .bool bad]]) fun q => zf0 q else kOpt (EVs (EV cfg) 91 [.agg [.int .i64 kt, .int .i64 nt, .str st, .sl lt]]) fun v => kInt .i64 v fun n => bif n != 0 then kOpt (EVd (EV cfg) 233 [.ptr 0 0 0] 7 [[.int .i64 ke, .int .i64 ne, .str se, .sl le, .sl bd, .int .i64 self, .bool bad]]) fun q => zf0 q else some (.agg [.int .i64 kt, .int .i64 nt, .str st, .sl lt], [[.int .i64 ke, .int .i64 ne, .str se, .sl le, .sl bd, .int .i64 self, .bool bad]])) P) : Gets (EVd (EV cfg) 155 [.ptr 0 0 0, .agg [.int .i64 kt, .int .i64 nt, .str st, .sl lt]] 7 [[AV.int .i64 ke, AV.int .i64 ne, AV.str se, AV.sl le, AV.sl bd, AV.int .i64 self, AV.bool bad]]) P :=
  gE (fun _ => funD rfl rfl Tryz.func155 rfl) (by kernel_rfl) h
theorem qon (ke ne : Int) (se : Bz) (le bd : Rz) (self : Int) (bad : Bool) (L : Rz) {P : AV × List (List AV) → Prop} (h : Gets (qd8 L 0 0 [[.int .i64 ke, .int .i64 ne, .str se, .sl le, .sl bd, .int .i64 self, .bool bad]] []) P) : Gets (EVd (EV cfg) 157 [.ptr 0 0 0, .sl L] 7 [[AV.int .i64 ke, AV.int .i64 ne, AV.str se, AV.sl le, AV.sl bd, AV.int .i64 self, AV.bool bad]]) P :=
  gE (fun _ => funD rfl rfl Tryz.func157 rfl) (by kernel_rfl) h
theorem qqs (ke ne : Int) (se : Bz) (le bd : Rz) (self : Int) (bad : Bool) (kt nt : Int) (st : Bz) (lt : Rz) {P : AV × List (List AV) → Prop} (h : Gets (bif kt == 2 then kOpt (EVs (EV cfg) 153 [.agg [.int .i64 kt, .int .i64 nt, .str st, .sl lt]]) fun v => kTup v fun cs => qa cs fun c cs => kInt .i64 c fun n => qa cs fun c cs => qf c fun b => kNil cs (bif b then kOpt (EVf (EV cfg) 154 [.sl bd, .int .i64 n]) fun v => kTup v fun cs => qa cs fun c cs => kAgg c fun cs_1 => qa cs_1 fun c cs_2 => kInt .i64 c fun n => qa cs_2 fun c cs_3 => kInt .i64 c fun n_1 => qa cs_3 fun c cs_4 => kStr c fun s => qa cs_4 fun c cs_5 => kSl c fun rows => kNil cs_5 (qa cs fun c cs => qf c fun b => kNil cs (some (.agg [.int .i64 n, .int .i64 n_1, .str s, .sl rows], [[.int .i64 ke, .int .i64 ne, .str se, .sl le, .sl bd, .int .i64 self, .bool bad]]))) else bif st == [(36 : UInt8), (95 : UInt8)] then some (.agg [.int .i64 ke, .int .i64 ne, .str se, .sl le], [[.int .i64 ke, .int .i64 ne, .str se, .sl le, .sl bd, .int .i64 self, .bool bad]]) else bif st == [(36 : UInt8), (36 : UInt8)] then kOpt (EVd (EV cfg) 156 [.ptr 0 0 0] 7 [[.int .i64 ke, .int .i64 ne, .str se, .sl le, .sl bd, .int .i64 self, .bool bad]]) fun q => kTmV q.1 fun n n_1 s rows => (kOpt (EVd (EV cfg) 155 [.ptr 0 0 0, .agg [.int .i64 n, .int .i64 n_1, .str s, .sl rows]] 7 q.2) fun q => kTmV q.1 fun n n_2 s rows => (some (.agg [.int .i64 n, .int .i64 n_2, .str s, .sl rows], q.2))) else some (.agg [.int .i64 kt, .int .i64 nt, .str st, .sl lt], [[.int .i64 ke, .int .i64 ne, .str se, .sl le, .sl bd, .int .i64 self, .bool bad]])) else bif kt == 9 then kOpt (EVd (EV cfg) 157 [.ptr 0 0 0, .sl lt] 7 [[.int .i64 ke, .int .i64 ne, .str se, .sl le, .sl bd, .int .i64 self, .bool bad]]) fun q => kSl q.1 fun rows => kOpt (EVd (EV cfg) 155 [.ptr 0 0 0, .agg [.int .i64 9, .int .i64 0, .str [], .sl rows]] 7 q.2) fun q => zf0 q else bif kt == 7 then bif qg 0 (lt.length : Int) then kOpt (qyG lt 0) fun row => bif qyW (qyH row) 4 then bif qyQ 4 (qyH row) then kTmC (qyM 4 row) fun n n_1 s rows => (bif n == 7 then kOpt (EVd (EV cfg) 157 [.ptr 0 0 0, .sl rows] 7 [[.int .i64 ke, .int .i64 ne, .str se, .sl le, .sl bd, .int .i64 self, .bool bad]]) fun q => kSl q.1 fun rows => kOpt (EVd (EV cfg) 155 [.ptr 0 0 0, .agg [.int .i64 7, .int .i64 0, .str [], .sl rows]] 7 q.2) fun q => kTmV q.1 fun n n_2 s rows => (some (.agg [.int .i64 n, .int .i64 n_2, .str s, .sl rows], q.2)) else bif s == [(99 : UInt8), (111 : UInt8), (110 : UInt8), (115 : UInt8), (116 : UInt8)] then bif qg 1 (lt.length : Int) then kOpt (qyG lt 1) fun row => bif qyW (qyH row) 4 then bif qyQ 4 (qyH row) then kTmC (qyM 4 row) fun n n_2 s rows => (some (.agg [.int .i64 n, .int .i64 n_2, .str s, .sl rows], [[.int .i64 ke, .int .i64 ne, .str se, .sl le, .sl bd, .int .i64 self, .bool bad]])) else none else none else none else bif s == [(97 : UInt8), (110 : UInt8), (100 : UInt8), (97 : UInt8), (108 : UInt8), (115 : UInt8), (111 : UInt8)] then bif qg 1 (lt.length : Int) then kOpt (qyG lt 1) fun row => bif qyW (qyH row) 4 then bif qyQ 4 (qyH row) then kTmC (qyM 4 row) fun n n_2 s_1 rows => (kOpt (EVd (EV cfg) 70 [.ptr 0 0 0, .agg [.int .i64 n, .int .i64 n_2, .str s_1, .sl rows]] 7 [[.int .i64 ke, .int .i64 ne, .str se, .sl le, .sl bd, .int .i64 self, .bool bad]]) fun q => kTmV q.1 fun n n_3 s_2 rows => (kOpt (qyG q.2 0) fun row => kOpt (qyG row 6) fun v => qf v fun b => bif b then some (.agg [.int .i64 n, .int .i64 n_3, .str s_2, .sl rows], q.2) else kOpt (EVm (EV cfg) 158 [.ptr 0 0 0, .agg [.int .i64 n, .int .i64 n_3, .str s_2, .sl rows]] 7 q.2) fun q => xr q.1 fun b => bif ! b == (s == [(97 : UInt8), (110 : UInt8), (100 : UInt8), (97 : UInt8), (108 : UInt8), (115 : UInt8), (111 : UInt8)]) then some (.agg [.int .i64 n, .int .i64 n_3, .str s_2, .sl rows], q.2) else kOpt (qyG q.2 0) fun row => kOpt (qyG row 6) fun v => qf v fun b => bif b then some (.agg [.int .i64 n, .int .i64 n_3, .str s_2, .sl rows], q.2) else bif qg 2 (lt.length : Int) then kOpt (qyG lt 2) fun row => bif qyW (qyH row) 4 then bif qyQ 4 (qyH row) then kTmC (qyM 4 row) fun n n_4 s rows => (kOpt (EVd (EV cfg) 70 [.ptr 0 0 0, AV.agg [.int .i64 n, .int .i64 n_4, .str s, .sl rows]] 7 q.2) fun q => kTmV q.1 fun n n_5 s rows => (kOpt (qyG q.2 0) fun row => kOpt (qyG row 6) fun v => qf v fun b => bif ! b then kOpt (EVm (EV cfg) 158 [.ptr 0 0 0, AV.agg [.int .i64 n, .int .i64 n_5, .str s, .sl rows]] 7 q.2) fun q => xr q.1 fun b => some (AV.agg [.int .i64 n, .int .i64 n_5, .str s, .sl rows], q.2) else some (AV.agg [.int .i64 n, .int .i64 n_5, .str s, .sl rows], q.2))) else none else none else none)) else none else none else none else bif s == [(111 : UInt8), (114 : UInt8), (101 : UInt8), (108 : UInt8), (115 : UInt8), (101 : UInt8)] then bif qg 1 (lt.length : Int) then kOpt (qyG lt 1) fun row => bif qyW (qyH row) 4 then bif qyQ 4 (qyH row) then kTmC (qyM 4 row) fun n n_2 s_1 rows => (kOpt (EVd (EV cfg) 70 [.ptr 0 0 0, .agg [.int .i64 n, .int .i64 n_2, .str s_1, .sl rows]] 7 [[.int .i64 ke, .int .i64 ne, .str se, .sl le, .sl bd, .int .i64 self, .bool bad]]) fun q => kTmV q.1 fun n n_3 s_2 rows => (kOpt (qyG q.2 0) fun row => kOpt (qyG row 6) fun v => qf v fun b => bif b then some (.agg [.int .i64 n, .int .i64 n_3, .str s_2, .sl rows], q.2) else kOpt (EVm (EV cfg) 158 [.ptr 0 0 0, .agg [.int .i64 n, .int .i64 n_3, .str s_2, .sl rows]] 7 q.2) fun q => xr q.1 fun b => bif ! b == (s == [(97 : UInt8), (110 : UInt8), (100 : UInt8), (97 : UInt8), (108 : UInt8), (115 : UInt8), (111 : UInt8)]) then some (.agg [.int .i64 n, .int .i64 n_3, .str s_2, .sl rows], q.2) else kOpt (qyG q.2 0) fun row => kOpt (qyG row 6) fun v => qf v fun b => bif b then some (.agg [.int .i64 n, .int .i64 n_3, .str s_2, .sl rows], q.2) else bif qg 2 (lt.length : Int) then kOpt (qyG lt 2) fun row => bif qyW (qyH row) 4 then bif qyQ 4 (qyH row) then kTmC (qyM 4 row) fun n n_4 s rows => (kOpt (EVd (EV cfg) 70 [.ptr 0 0 0, AV.agg [.int .i64 n, .int .i64 n_4, .str s, .sl rows]] 7 q.2) fun q => kTmV q.1 fun n n_5 s rows => (kOpt (qyG q.2 0) fun row => kOpt (qyG row 6) fun v => qf v fun b => bif ! b then kOpt (EVm (EV cfg) 158 [.ptr 0 0 0, AV.agg [.int .i64 n, .int .i64 n_5, .str s, .sl rows]] 7 q.2) fun q => xr q.1 fun b => some (AV.agg [.int .i64 n, .int .i64 n_5, .str s, .sl rows], q.2) else some (AV.agg [.int .i64 n, .int .i64 n_5, .str s, .sl rows], q.2))) else none else none else none)) else none else none else none else bif qh 1 (lt.length : Int) then bif ve 4 lt then kOpt (EVd (EV cfg) 157 [.ptr 0 0 0, .sl (qyM (qyH lt - 1) (qzj 1 lt))] 7 [[.int .i64 ke, .int .i64 ne, .str se, .sl le, .sl bd, .int .i64 self, .bool bad]]) fun q => kSl q.1 fun rows => kOpt (qyG q.2 0) fun row => kOpt (qyG row 6) fun v => qf v fun b => bif b then some (.agg [.int .i64 0, .int .i64 0, .str [], .sl []], q.2) else kOpt (EVd (EV cfg) 92 [.ptr 0 0 0, .str s, .sl rows] 7 q.2) fun q => kTmV q.1 fun n n_2 s rows => (kOpt (EVd (EV cfg) 155 [.ptr 0 0 0, .agg [.int .i64 n, .int .i64 n_2, .str s, .sl rows]] 7 q.2) fun q => kTmV q.1 fun n n_3 s rows => (some (.agg [.int .i64 n, .int .i64 n_3, .str s, .sl rows], q.2))) else none else none) else none else none else none else some (.agg [.int .i64 kt, .int .i64 nt, .str st, .sl lt], [[.int .i64 ke, .int .i64 ne, .str se, .sl le, .sl bd, .int .i64 self, .bool bad]])) P) : Gets (EVd (EV cfg) 70 [.ptr 0 0 0, .agg [.int .i64 kt, .int .i64 nt, .str st, .sl lt]] 7 [[AV.int .i64 ke, AV.int .i64 ne, AV.str se, AV.sl le, AV.sl bd, AV.int .i64 self, AV.bool bad]]) P :=
  gE (fun _ => funD rfl rfl Tryz.func70 rfl) (by kernel_rfl) h
theorem qqu (ke ne : Int) (se : Bz) (le bd : Rz) (self : Int) (bad : Bool) {P : AV × List (List AV) → Prop} (h : Gets (qhG bd 0 0 [[.int .i64 ke, .int .i64 ne, .str se, .sl le, .sl bd, .int .i64 self, .bool bad]] 0 0 [] [] []) P) : Gets (EVd (EV cfg) 156 [.ptr 0 0 0] 7 [[AV.int .i64 ke, AV.int .i64 ne, AV.str se, AV.sl le, AV.sl bd, AV.int .i64 self, AV.bool bad]]) P :=
  gE (fun _ => funD rfl rfl Tryz.func156 rfl) (by kernel_rfl) h
theorem qms (L : Rz) (kt nt : Int) (st : Bz) (lt : Rz) {P : AV → Prop} (h : Gets (qhF (IntKind.wrap .i64 ((L.length : Int) - 1)) kt nt st lt 0 0 [] [] L) P) : Gets (EVf (EV cfg) 122 [.sl L, .agg [.int .i64 kt, .int .i64 nt, .str st, .sl lt]]) P :=
  gE (fun _ => funF rfl rfl Tryz.func122 rfl) (by kernel_rfl) h
theorem qgg (bd : Rz) (nv4 : Nat) (v5 v11 c0_0 c0_1 : Int) (c0_2 : Bz) (c0_3 c0_4 : Rz) (c0_5 : Int) (h1 : Rz) {P : AV → Prop} (h : Gets (bif decide (v11 < (bd.length : Int)) then bif qh 0 v11 && qg v11 (bd.length : Int) then kOpt (qyG bd (v11.toNat)) fun row => bif qyW (qyH row) 5 then bif qyQ 5 (qyH row) then qa (qyM 5 row) fun c cs => kInt .i64 c fun n => kTmC cs fun n_1 n_2 s rows => (bif decide (n ≤ v5) then some (AV.tup [.sl [], .bool false]) else bif decide (n > 99) then some (AV.tup [.sl [], .bool false]) else kOpt (EVs (EV cfg) 91 [.agg [.int .i64 n_1, .int .i64 n_2, .str s, .sl rows]]) fun v => kInt .i64 v fun n_3 => bif n_3 != 0 then some (AV.tup [.sl [], .bool false]) else bif qyQ (0 + nv4) (qyH h1) && qN (nv4 + 1) 8 then qhH bd (nv4 + 1) n (IntKind.wrap .i64 (v11 + 1)) c0_0 c0_1 c0_2 c0_3 c0_4 c0_5 (qy4 (qyM nv4 h1) [[.int .i64 n]]) else none) else none else none else none else kOpt (EVs (EV cfg) 91 [.agg [.int .i64 c0_0, .int .i64 c0_1, .str c0_2, .sl c0_3]]) fun v => kInt .i64 v fun n => bif n == 0 then kOpt (EVs (EV cfg) 90 [.int .i64 c0_5]) fun v => qf v fun b => bif qyQ (0 + nv4) (qyH h1) && true then some (AV.tup [.sl (qyM nv4 h1), .bool b]) else none else bif qyQ (0 + nv4) (qyH h1) && true then some (AV.tup [.sl (qyM nv4 h1), .bool false]) else none) P) : Gets (qhH bd nv4 v5 v11 c0_0 c0_1 c0_2 c0_3 c0_4 c0_5 h1) P :=
  gE (fun _ => qn (cfg := cfg) (f := 68) (rd := none) (bs := 0)) (by kernel_rfl) h
theorem qcj (L : Rz) (nv5 : Nat) (v10 : Int) (h0 h1 : Rz) {P : AV × List (List AV) → Prop} (h : Gets (bif decide (v10 < (L.length : Int)) then bif qh 0 v10 && qg v10 (L.length : Int) then kOpt (qyG L (v10.toNat)) fun row => bif qyW (qyH row) 4 then bif qyQ 4 (qyH row) then kTmC (qyM 4 row) fun n n_1 s rows => (kOpt (qyG h0 0) fun row => kOpt (qyG row 6) fun v => qf v fun b => bif b then some (.sl [], h0) else kOpt (EVd (EV cfg) 70 [.ptr 0 0 0, .agg [.int .i64 n, .int .i64 n_1, .str s, .sl rows]] 7 h0) fun q => kTmV q.1 fun n n_2 s rows => (bif qyQ (0 + nv5) (qyH h1) && qN (nv5 + 1) 56 then qd8 L (nv5 + 1) (IntKind.wrap .i64 (v10 + 1)) q.2 (qy4 (qyM nv5 h1) [[.int .i64 n, .int .i64 n_2, .str s, .sl rows]]) else none)) else none else none else none else bif qyQ (0 + nv5) (qyH h1) && true then some (.sl (qyM nv5 h1), h0) else none) P) : Gets (qd8 L nv5 v10 h0 h1) P :=
  gE (fun _ => qn (cfg := cfg) (f := 157) (rd := none) (bs := 1)) (by kernel_rfl) h
theorem qgf (bd : Rz) (nv3 : Nat) (v12 : Int) (h0 : Rz) (c1_0 c1_1 : Int) (c1_2 : Bz) (c1_3 h2 : Rz) {P : AV × List (List AV) → Prop} (h : Gets (bif decide (v12 < (bd.length : Int)) then bif qh 0 v12 && qg v12 (bd.length : Int) then kOpt (qyG bd (v12.toNat)) fun row => bif qyW (qyH row) 5 then bif qyQ 5 (qyH row) then qa (qyM 5 row) fun c cs => kInt .i64 c fun n => kTmC cs fun n n_1 s rows => (bif qyQ (0 + nv3) (qyH h2) && qN (nv3 + 1) 56 then qhG bd (nv3 + 1) (IntKind.wrap .i64 (v12 + 1)) h0 c1_0 c1_1 c1_2 c1_3 (qy4 (qyM nv3 h2) [[.int .i64 n, .int .i64 n_1, .str s, .sl rows]]) else none) else none else none else none else bif qyQ (0 + nv3) (qyH h2) && true then kOpt (EVf (EV cfg) 122 [.sl (qyM nv3 h2), .agg [.int .i64 8, .int .i64 0, .str [], .sl []]]) fun v => kTmV v fun n n_1 s rows => (some (.agg [.int .i64 n, .int .i64 n_1, .str s, .sl rows], h0)) else none) P) : Gets (qhG bd nv3 v12 h0 c1_0 c1_1 c1_2 c1_3 h2) P :=
  gE (fun _ => qn (cfg := cfg) (f := 156) (rd := none) (bs := 1)) (by kernel_rfl) h
theorem qge (v3 c0_0 c0_1 : Int) (c0_2 : Bz) (c0_3 : Rz) (c1_0 c1_1 : Int) (c1_2 : Bz) (c1_3 c2_0 : Rz) {P : AV → Prop} (h : Gets (bif decide (v3 ≥ 0) then bif qh 0 v3 && qg v3 (c2_0.length : Int) then kOpt (qyG c2_0 (v3.toNat)) fun row => bif qyW (qyH row) 4 then bif qyQ 4 (qyH row) then kTmC (qyM 4 row) fun n n_1 s rows => (qhF (IntKind.wrap .i64 (v3 - (1 : Int))) 9 0 [] [[.int .i64 n, .int .i64 n_1, .str s, .sl rows], [.int .i64 c0_0, .int .i64 c0_1, .str c0_2, .sl c0_3]] c1_0 c1_1 c1_2 c1_3 c2_0) else none else none else none else some (.agg [.int .i64 c0_0, .int .i64 c0_1, .str c0_2, .sl c0_3])) P) : Gets (qhF v3 c0_0 c0_1 c0_2 c0_3 c1_0 c1_1 c1_2 c1_3 c2_0) P :=
  gE (fun _ => qn (cfg := cfg) (f := 273) (rd := none) (bs := 4)) (by kernel_rfl) h
noncomputable def qxm : Den := evC cfg (EV cfg) 124 none 0 (sub (qe Tryz.f124) [1, 0, 1, 0, 0])
noncomputable def qx4 : Ex × List AV × AH → Option AV := kAft (Cfg.keepOut cfg 124 2) (kRun cfg (EV cfg) (kfN cfg 6) 124 none 0 (vX cfg (Cfg.lift cfg 124 0) Tryz.f124.results.toList) ([.block 0, .seq (sub (qe Tryz.f124) [1, 1])]))
noncomputable def qwP : List AV × AH → Option AV := fun p => kOpt (LOOP 0 (some [0, 1, 7, 8]) ([]) qxm p) qx4
noncomputable abbrev qhE (L V : Rz) (v8 : Int) : Option (AV) := qwP  (((fx 19 [(0, .sl L), (1, .fn (Fn.func 290) [] [.cptr [.sl V] 0]), (7, .int .i64 (L.length : Int)), (8, .int .i64 v8)]) : List AV), ([] : AH))
theorem qm5 (L V : Rz) {P : AV → Prop} (h : Gets (kOpt (EVs (EV cfg) 124 [.sl L, AV.fn (Fn.func 290) [] [AV.cptr [.sl V] 0]]) fun v => kInt .i64 v fun n => some (.bool (decide (n ≥ 0)))) P) : Gets (EVs (EV cfg) 143 [.sl L, .fn (Fn.func 290) [] [.cptr [.sl V] 0]]) P :=
  gE (fun _ => funS rfl rfl Tryz.func143 rfl) (by kernel_rfl) h
theorem qoD (L V : Rz) {P : AV → Prop} (h : Gets (qhE L V 0) P) : Gets (EVs (EV cfg) 124 [.sl L, .fn (Fn.func 290) [] [.cptr [.sl V] 0]]) P :=
  gE (fun _ => funS rfl rfl Tryz.func124 rfl) (by kernel_rfl) h
theorem qsy (ke ne : Int) (se : Bz) (le V : Rz) {P : AV → Prop} (h : Gets (kOpt (EVs (EV cfg) 152 [.agg [.int .i64 ke, .int .i64 ne, .str se, .sl le], .sl V]) fun v => qf v fun b => some (.bool ! b)) P) : Gets (EVs (EV cfg) 290 [.agg [.int .i64 ke, .int .i64 ne, .str se, .sl le], .cptr [.sl V] 0]) P :=
  gE (fun _ => funS rfl rfl Tryz.func290 rfl) (by kernel_rfl) h
theorem qgd (L V : Rz) (v8 : Int) {P : AV → Prop} (h : Gets (bif decide (v8 < (L.length : Int)) then bif qh 0 v8 && qg v8 (L.length : Int) then kOpt (qyG L (v8.toNat)) fun row => bif qyW (qyH row) 4 then bif qyQ 4 (qyH row) then kTmC (qyM 4 row) fun n n_1 s rows => (kOpt (EVs (EV cfg) 290 [.agg [.int .i64 n, .int .i64 n_1, .str s, .sl rows], AV.cptr [.sl V] 0]) fun v => qf v fun b => bif b then some (.int .i64 v8) else qhE L V (IntKind.wrap .i64 (v8 + 1))) else none else none else none else some (.int .i64 (- 1))) P) : Gets (qhE L V v8) P :=
  gE (fun _ => qn (cfg := cfg) (f := 124) (rd := none) (bs := 0)) (by kernel_rfl) h
noncomputable def qxA : Den := evC cfg (EV cfg) 210 none 0 (sub (qe Tryz.f210) [1, 1, 1, 0, 1, 0, 0])
noncomputable def qyi : Ex × List AV × AH → Option AV := kAft (Cfg.keepOut cfg 210 5) (kRun cfg (EV cfg) (kfN cfg 6) 210 none 0 (vX cfg (Cfg.lift cfg 210 0) Tryz.f210.results.toList) ([.block 0, .seq (sub (qe Tryz.f210) [1, 1, 1, 1])]))
noncomputable def qw1 : List AV × AH → Option AV := fun p => kOpt (LOOP 0 (some [4, 32, 33, 34]) ([]) qxA p) qyi
noncomputable abbrev qbx (s : Bz) (v4 v34 : Int) (h0 : Rz) : Option (AV) := qw1  (((fx 52 [(4, .int .i64 v4), (32, .ms 0 0 (qyH (qyM (qyH s - 1) (qzj 1 s)))), (33, .int .i64 (↑(qyH (qyM (qyH s - 1) (qzj 1 s))) : Int)), (34, .int .i64 v34)]) : List AV), ([.rows true 1 h0] : AH))
noncomputable abbrev zh1 (s : Bz) : Option (AV) := qbx s 0 0 (List.map (fun b => [.int .u8 (↑ (UInt8.toNat b) : Int)]) (qyM (qyH s - 1) (qzj 1 s)))
noncomputable abbrev zh0 (s : Bz) : Option (AV) := bif qh 1 (s.length : Int) then zh1 s else none
theorem qk2 (s : Bz) {P : AV → Prop} (h : Gets (bif decide ((s.length : Int) < 2) then some (AV.tup [.int .i64 0, .bool false]) else bif decide ((s.length : Int) > 3) then some (AV.tup [.int .i64 0, .bool false]) else kOpt (qyG s 0) fun b => bif (↑ (UInt8.toNat b) : Int) != 36 then some (AV.tup [.int .i64 0, .bool false]) else bif (s.length : Int) == 3 then kOpt (qyG s 1) fun b => bif (↑ (UInt8.toNat b) : Int) == 48 then some (AV.tup [.int .i64 0, .bool false]) else zh0 s else zh0 s) P) : Gets (EVs (EV cfg) 210 [.str s]) P :=
  gE (fun _ => funS rfl rfl Tryz.func210 rfl) (by kernel_rfl) h
theorem qqi (kt nt : Int) (st : Bz) (lt : Rz) {P : AV → Prop} (h : Gets (kOpt (EVs (EV cfg) 91 [.agg [.int .i64 kt, .int .i64 nt, .str st, .sl lt]]) fun v => kInt .i64 v fun n => some (.bool (n == 0))) P) : Gets (EVs (EV cfg) 208 [.agg [.int .i64 kt, .int .i64 nt, .str st, .sl lt]]) P :=
  gE (fun _ => funS rfl rfl Tryz.func208 rfl) (by kernel_rfl) h
theorem qqh (kt nt : Int) (st : Bz) (lt : Rz) {P : AV → Prop} (h : Gets (bif kt != 2 then some (AV.tup [.int .i64 0, .bool false]) else kOpt (EVs (EV cfg) 208 [.agg [.int .i64 kt, .int .i64 nt, .str st, .sl lt]]) fun v => qf v fun b => bif ! b then some (AV.tup [.int .i64 0, .bool false]) else kOpt (EVs (EV cfg) 210 [.str st]) fun v => kTup v fun cs => qa cs fun c cs => kInt .i64 c fun n => qa cs fun c cs => qf c fun b => kNil cs (some (AV.tup [.int .i64 n, .bool b]))) P) : Gets (EVs (EV cfg) 153 [.agg [.int .i64 kt, .int .i64 nt, .str st, .sl lt]]) P :=
  gE (fun _ => funS rfl rfl Tryz.func153 rfl) (by kernel_rfl) h
theorem qh7 (n : Int) (r : List AV) {P : MV × List (List AV) → Prop} (h : Gets (bif decide (n < 64) then kOpt (qyG r 0) fun v => kInt .u64 v fun n_1 => kOpt (qA (Op.shift BinOp.shl .u64 1 .i64 n)) fun v => kInt .u64 v fun n => kOpt (qA (Op.intBits BinOp.or .u64 n_1 n)) fun v => kInt .u64 v fun n => bif qyQ 1 (qyH r) then some (MV.unit, [.int .u64 n :: qzj 1 r]) else none else kOpt (qyG r 1) fun v => kInt .u64 v fun n_1 => kOpt (qA (Op.shift BinOp.shl .u64 1 .i64 (IntKind.wrap .i64 (n - 64)))) fun v => kInt .u64 v fun n => kOpt (qA (Op.intBits BinOp.or .u64 n_1 n)) fun v => kInt .u64 v fun n => bif qyQ 2 (qyH r) then some (MV.unit, [qy4 (qy4 (qyM 1 r) [.int .u64 n]) (qzj 2 r)]) else none) P) : Gets (EVm (EV cfg) 291 [.ptr 0 0 0, .int .i64 n] 402 [r]) P :=
  gE (fun _ => funM rfl rfl Tryz.func291 rfl) (by kernel_rfl) h
noncomputable abbrev zh2 (v : AV) : Option (AV) := kInt .u64 v fun n => kOpt (qA (Op.intBits BinOp.and .u64 n 1)) fun v => kInt .u64 v fun n => some (.bool (n == 1))
theorem qpP (n : Int) (r : List AV) {P : AV → Prop} (h : Gets (bif decide (n < 64) then kOpt (qyG r 0) fun v => kInt .u64 v fun n_1 => kOpt (qA (Op.shift BinOp.shr .u64 n_1 .i64 n)) fun v => zh2 v else kOpt (qyG r 1) fun v => kInt .u64 v fun n_1 => kOpt (qA (Op.shift BinOp.shr .u64 n_1 .i64 (IntKind.wrap .i64 (n - 64)))) fun v => zh2 v) P) : Gets (EVs (EV cfg) 232 [.cptr r 0, .int .i64 n]) P :=
  gE (fun _ => funS rfl rfl Tryz.func232 rfl) (by kernel_rfl) h
theorem qgm (s : Bz) (v4 v34 : Int) (h0 : Rz) {P : AV → Prop} (h : Gets (bif decide (v34 < (↑ (qyH (qyM (qyH s - 1) (qzj 1 s))) : Int)) then bif qh 0 v34 && qg v34 (↑ (qyH (qyM (qyH s - 1) (qzj 1 s))) : Int) then kOpt (qyG h0 (0 + v34.toNat)) fun row => kOpt (qyG row 0) fun v => kInt .u8 v fun n => bif decide (n < 48) then some (AV.tup [.int .i64 0, .bool false]) else bif decide (n > 57) then some (AV.tup [.int .i64 0, .bool false]) else qbx s (IntKind.wrap .i64 (IntKind.wrap .i64 (v4 * 10) + IntKind.wrap .i64 (IntKind.wrap .u8 (n - 48)))) (IntKind.wrap .i64 (v34 + 1)) h0 else none else some (AV.tup [.int .i64 v4, .bool true])) P) : Gets (qbx s v4 v34 h0) P :=
  gE (fun _ => qn (cfg := cfg) (f := 210) (rd := none) (bs := 0)) (by kernel_rfl) h
noncomputable def qsN : Den := evC cfg (EV cfg) 238 none 5 (sub (qe Tryz.f238) [1, 0, 0])
noncomputable def qsV : Ex × List AV × AH → Option AV := kAft (Cfg.keepOut cfg 238 (qq (sub (qe Tryz.f238) [1, 0, 0]))) (vF 0 (xa cfg (Cfg.lift cfg 238 0) (fun (v : AV) (H : AH) => (fun (r : AV × AH) => xM 0 4 (fx 17 [(2, AV.ptr 1 0 0), (3, AV.ptr 2 0 0)]) (vF 0 (kSeq (fun (fr : List AV) (H : AH) => vK (Cfg.cut cfg 91 (qq (sub (qe Tryz.f91) [1, 1, 1]))) fr H fun (fr : List AV) (H : AH) => qT cfg (EV cfg) (kfN cfg 6) 91 none 0 (sub (qe Tryz.f91) [1, 1, 1]) fr H (vX cfg (Cfg.lift cfg 91 0) (qze (Func.results Tryz.f91)))) (vX cfg (Cfg.lift cfg 91 0) (qze (Func.results Tryz.f91))))) (Prod.snd r)) (v, H)) (qze (Func.results (Prod.snd (238, Tryz.f238))))))
noncomputable def qwZ : List AV × AH → Option AV := fun (p : List AV × AH) => kOpt (LOOP 5 (some [0, 3]) [(3, 4)] qsN p) qsV
noncomputable def qxy : Den := evC cfg (EV cfg) 273 none 10 (sub (qe Tryz.f273) [1, 0, 0])
noncomputable def qyg : Ex × List AV × AH → Option AV := kAft (Cfg.keepOut cfg 273 (qq (sub (qe Tryz.f273) [1, 0, 0]))) (vF 0 (xa cfg (Cfg.lift cfg 273 0) (fun (v : AV) (H : AH) => (fun (r : AV × AH) => xM 5 9 (fx 38 [(0, AV.yld 4), (3, AV.ptr 5 0 0)]) (vF 2 (vF 1 (kLp 5 (some [0, 3]) [(3, 4)] qsN qsV))) (Prod.snd r)) (v, H)) (qze (Func.results (Prod.snd (273, Tryz.f273))))))
noncomputable def qsE : List AV × AH → Option AV := fun (p : List AV × AH) => kOpt (LOOP 10 (some [0, 1, 3]) [] qxy p) qyg
noncomputable abbrev qbw (c0_0 c0_1 : Int) (c0_2 : Bz) (c0_3 : Rz) (c1_0 c2_0 c3_0 c3_1 : Int) (c3_2 : Bz) (c3_3 : Rz) (nc5_0 : Nat) (h6 : Rz) : Option (AV) := qwZ  (((fx 38 [(0, .yld 4), (3, .ptr 5 0 0)]) : List AV), ([.rows false 4 [[.int .i64 c0_0, .int .i64 c0_1, .str c0_2, .sl c0_3]], .rows false 1 [[.int .i64 c1_0]], .rows false 1 [[.int .i64 c2_0]], .rows false 4 [[.int .i64 c3_0, .int .i64 c3_1, .str c3_2, .sl c3_3]], rngB Tryz.f91 91 [1, 1, 0, 1, 0] (fx 17 [(2, .ptr 1 0 0), (3, .ptr 2 0 0)]) none LoopState.ready, .rows false 1 [[.ms 6 0 nc5_0]], .rows true 4 h6] : AH))
noncomputable abbrev qlC (v3 c0_0 c0_1 : Int) (c0_2 : Bz) (c0_3 : Rz) (c1_0 c2_0 c3_0 c3_1 : Int) (c3_2 : Bz) (c3_3 : Rz) (nc5_0 : Nat) (h6 : Rz) (c7_0 c7_1 : Int) (c7_2 : Bz) (c7_3 c8_0 : Rz) : Option (AV) := qsE  (((fx 19 [(0, .yld 9), (1, .ptr 8 0 0), (3, .int .i64 v3)]) : List AV), ([.rows false 4 [[.int .i64 c0_0, .int .i64 c0_1, .str c0_2, .sl c0_3]], .rows false 1 [[.int .i64 c1_0]], .rows false 1 [[.int .i64 c2_0]], .rows false 4 [[.int .i64 c3_0, .int .i64 c3_1, .str c3_2, .sl c3_3]], rngB Tryz.f91 91 [1, 1, 0, 1, 0] (fx 17 [(2, .ptr 1 0 0), (3, .ptr 2 0 0)]) none LoopState.ready, .rows false 1 [[.ms 6 0 nc5_0]], .rows true 4 h6, .rows false 4 [[.int .i64 c7_0, .int .i64 c7_1, .str c7_2, .sl c7_3]], .rows false 1 [[.sl c8_0]], rngB Tryz.f238 238 [1, 0, 0, 1, 0, 1, 1, 1, 1, 0] (fx 38 [(3, .ptr 5 0 0)]) none LoopState.ready] : AH))
noncomputable abbrev qjr (v3 c0_0 c0_1 : Int) (c0_2 : Bz) (c0_3 : Rz) (c1_0 c2_0 c3_0 c3_1 : Int) (c3_2 : Bz) (c3_3 : Rz) (nc5_0 : Nat) (c7_0 c7_1 : Int) (c7_2 : Bz) (c7_3 c8_0 h10 : Rz) : Option (AV) := qsE  (((fx 19 [(0, .yld 9), (1, .ptr 8 0 0), (3, .int .i64 v3)]) : List AV), ([.rows false 4 [[.int .i64 c0_0, .int .i64 c0_1, .str c0_2, .sl c0_3]], .rows false 1 [[.int .i64 c1_0]], .rows false 1 [[.int .i64 c2_0]], .rows false 4 [[.int .i64 c3_0, .int .i64 c3_1, .str c3_2, .sl c3_3]], rngB Tryz.f91 91 [1, 1, 0, 1, 0] (fx 17 [(2, .ptr 1 0 0), (3, .ptr 2 0 0)]) none LoopState.ready, .rows false 1 [[.ms 10 0 nc5_0]], .dead, .rows false 4 [[.int .i64 c7_0, .int .i64 c7_1, .str c7_2, .sl c7_3]], .rows false 1 [[.sl c8_0]], rngB Tryz.f238 238 [1, 0, 0, 1, 0, 1, 1, 1, 1, 0] (fx 38 [(3, .ptr 5 0 0)]) none LoopState.ready, .rows true 4 h10] : AH))
noncomputable abbrev zi4 (kt : Int) (lt : Rz) : Option (AV) := bif kt == 5 then some (.bool (decide ((lt.length : Int) ≤ 64))) else some (.bool false)
noncomputable abbrev zi3 (lt : Rz) (kt : Int) : Option (AV) := bif (lt.length : Int) == 0 then some (.bool true) else zi4 kt lt
noncomputable abbrev zi2 (st : Bz) (lt : Rz) (kt : Int) : Option (AV) := bif st == [] then zi3 lt kt else some (.bool false)
noncomputable abbrev zi1 (nt : Int) (st : Bz) (lt : Rz) (kt : Int) : Option (AV) := bif decide (nt ≤ 1073741824) then zi2 st lt kt else some (.bool false)
noncomputable abbrev zi0 (nt : Int) (st : Bz) (lt : Rz) (kt : Int) : Option (AV) := bif decide (nt ≥ 0) then zi1 nt st lt kt else some (.bool false)
theorem qju (kt nt : Int) (st : Bz) (lt : Rz) {P : AV → Prop} (h : Gets (bif kt == 1 then bif decide (nt ≥ (- 576460752303423488)) then bif decide (nt ≤ 576460752303423487) then bif st == [] then some (.bool ((lt.length : Int) == 0)) else some (.bool false) else some (.bool false) else some (.bool false) else bif kt == 2 then bif nt == 0 then bif decide ((st.length : Int) ≤ 64) then some (.bool ((lt.length : Int) == 0)) else some (.bool false) else some (.bool false) else bif kt == 3 then bif decide (nt ≥ 0) then bif decide (nt ≤ 1073741824) then bif st == [] then bif (lt.length : Int) == 0 then some (.bool true) else bif kt == 5 then some (.bool (decide ((↑ (qyH lt) : Int) ≤ 64))) else some (.bool false) else some (.bool false) else some (.bool false) else some (.bool false) else bif kt == 4 then zi0 nt st lt kt else bif kt == 6 then zi0 nt st lt kt else bif kt == 5 then zi0 nt st lt kt else bif kt == 7 then bif nt == 0 then bif st == [] then some (.bool (decide ((lt.length : Int) ≤ 64))) else some (.bool false) else some (.bool false) else bif kt == 8 then bif nt == 0 then bif st == [] then some (.bool ((lt.length : Int) == 0)) else some (.bool false) else some (.bool false) else bif kt == 9 then bif nt == 0 then bif st == [] then some (.bool ((lt.length : Int) == 2)) else some (.bool false) else some (.bool false) else some (.bool false)) P) : Gets (EVs (EV cfg) 170 [.agg [.int .i64 kt, .int .i64 nt, .str st, .sl lt]]) P :=
  gE (fun _ => funS rfl rfl Tryz.func170 rfl) (by kernel_rfl) h
theorem qlN (kt nt : Int) (st : Bz) (lt : Rz) {P : AV → Prop} (h : Gets (bif kt == 7 then some (.int .i64 2) else bif kt == 5 then some (.int .i64 2) else some (.int .i64 1)) P) : Gets (EVs (EV cfg) 171 [.agg [.int .i64 kt, .int .i64 nt, .str st, .sl lt]]) P :=
  gE (fun _ => funS rfl rfl Tryz.func171 rfl) (by kernel_rfl) h
theorem qjw (kt nt : Int) (st : Bz) (lt : Rz) {P : AV → Prop} (h : Gets (qbw kt nt st lt 0 0 kt nt st lt 1 [[.int .i64 kt, .int .i64 nt, .str st, .sl lt]]) P) : Gets (EVs (EV cfg) 91 [.agg [.int .i64 kt, .int .i64 nt, .str st, .sl lt]]) P :=
  gE (fun _ => funS rfl rfl Tryz.func91 rfl) (by kernel_rfl) h
theorem qcl (c0_0 c0_1 : Int) (c0_2 : Bz) (c0_3 : Rz) (c1_0 c2_0 c3_0 c3_1 : Int) (c3_2 : Bz) (c3_3 : Rz) (nc5_0 : Nat) (h6 : Rz) {P : AV → Prop} (h : Gets (bif decide ((↑ nc5_0 : Int) > 0) then bif qh 0 (IntKind.wrap .i64 ((↑ nc5_0 : Int) - 1)) && qg (IntKind.wrap .i64 ((↑ nc5_0 : Int) - 1)) (↑ nc5_0 : Int) then kOpt (qyG h6 (0 + qyY (IntKind.wrap .i64 ((↑ nc5_0 : Int) - 1)))) fun row => bif qyQ 4 (qyH row) then kTmC (qyM 4 row) fun n n_1 s rows => (bif qh 0 (IntKind.wrap .i64 ((↑ nc5_0 : Int) - 1)) && qh (IntKind.wrap .i64 ((↑ nc5_0 : Int) - 1)) (↑ nc5_0 : Int) then kOpt (EVs (EV cfg) 170 [.agg [.int .i64 n, .int .i64 n_1, .str s, .sl rows]]) fun v => qf v fun b => bif ! b then some (.int .i64 2) else kOpt (EVs (EV cfg) 171 [.agg [.int .i64 n, .int .i64 n_1, .str s, .sl rows]]) fun v => kInt .i64 v fun n_2 => qlC (IntKind.wrap .i64 ((↑ (qyH rows) : Int) - 1)) c0_0 c0_1 c0_2 c0_3 c1_0 (IntKind.wrap .i64 (c2_0 + n_2)) c3_0 c3_1 c3_2 c3_3 (qyY (IntKind.wrap .i64 ((↑ nc5_0 : Int) - 1)) - 0) h6 n n_1 s rows rows else none) else none else none else bif decide (c2_0 > 65536) then some (.int .i64 3) else some (.int .i64 0)) P) : Gets (qbw c0_0 c0_1 c0_2 c0_3 c1_0 c2_0 c3_0 c3_1 c3_2 c3_3 nc5_0 h6) P :=
  gE (fun _ => qn (cfg := cfg) (f := 238) (rd := none) (bs := 5)) (by kernel_rfl) h
noncomputable abbrev zi10 (row : List AV) (nc5_0 : Nat) (h6 : Rz) (v3 c0_0 c0_1 : Int) (c0_2 : Bz) (c0_3 : Rz) (c1_0 c2_0 c3_0 c3_1 : Int) (c3_2 : Bz) (c3_3 : Rz) (c7_0 c7_1 : Int) (c7_2 : Bz) (c7_3 c8_0 : Rz) : Option (AV) := kTmC (qyM 4 row) fun n n_1 s rows => (bif qyQ (0 + nc5_0) (qyH h6) && qN (nc5_0 + 1) 56 then bif qh 0 (↑ nc5_0 : Int) && qg (↑ nc5_0 : Int) (↑ (nc5_0 + 1) : Int) then kOpt (qyG (qy4 (qyM nc5_0 h6) [[.int .i64 0, .int .i64 0, .str [], .nilS]]) (0 + qyY (↑ nc5_0 : Int))) fun row => bif qyQ 4 (qyH row) then qjr (IntKind.wrap .i64 (v3 - (1 : Int))) c0_0 c0_1 c0_2 c0_3 c1_0 c2_0 c3_0 c3_1 c3_2 c3_3 (nc5_0 + 1) c7_0 c7_1 c7_2 c7_3 c8_0 (List.set (qy4 (qyM nc5_0 h6) [[.int .i64 0, .int .i64 0, .str [], .nilS]]) (0 + qyY (↑ nc5_0 : Int)) (.int .i64 n :: .int .i64 n_1 :: .str s :: .sl rows :: qzj 4 row)) else none else none else none)
noncomputable abbrev zi9 (row : List AV) (nc5_0 : Nat) (h6 : Rz) (v3 c0_0 c0_1 : Int) (c0_2 : Bz) (c0_3 : Rz) (c1_0 c2_0 c3_0 c3_1 : Int) (c3_2 : Bz) (c3_3 : Rz) (c7_0 c7_1 : Int) (c7_2 : Bz) (c7_3 c8_0 : Rz) : Option (AV) := bif qyQ 4 (qyH row) then zi10 row nc5_0 h6 v3 c0_0 c0_1 c0_2 c0_3 c1_0 c2_0 c3_0 c3_1 c3_2 c3_3 c7_0 c7_1 c7_2 c7_3 c8_0 else none
noncomputable abbrev zi8 (row : List AV) (nc5_0 : Nat) (h6 : Rz) (v3 c0_0 c0_1 : Int) (c0_2 : Bz) (c0_3 : Rz) (c1_0 c2_0 c3_0 c3_1 : Int) (c3_2 : Bz) (c3_3 : Rz) (c7_0 c7_1 : Int) (c7_2 : Bz) (c7_3 c8_0 : Rz) : Option (AV) := bif qyW (qyH row) 4 then zi9 row nc5_0 h6 v3 c0_0 c0_1 c0_2 c0_3 c1_0 c2_0 c3_0 c3_1 c3_2 c3_3 c7_0 c7_1 c7_2 c7_3 c8_0 else none
noncomputable abbrev zi7 (c8_0 : Rz) (v3 : Int) (nc5_0 : Nat) (h6 : Rz) (c0_0 c0_1 : Int) (c0_2 : Bz) (c0_3 : Rz) (c1_0 c2_0 c3_0 c3_1 : Int) (c3_2 : Bz) (c3_3 : Rz) (c7_0 c7_1 : Int) (c7_2 : Bz) (c7_3 : Rz) : Option (AV) := kOpt (qyG c8_0 (v3.toNat)) fun row => zi8 row nc5_0 h6 v3 c0_0 c0_1 c0_2 c0_3 c1_0 c2_0 c3_0 c3_1 c3_2 c3_3 c7_0 c7_1 c7_2 c7_3 c8_0
noncomputable abbrev zi6 (v3 : Int) (c8_0 : Rz) (nc5_0 : Nat) (h6 : Rz) (c0_0 c0_1 : Int) (c0_2 : Bz) (c0_3 : Rz) (c1_0 c2_0 c3_0 c3_1 : Int) (c3_2 : Bz) (c3_3 : Rz) (c7_0 c7_1 : Int) (c7_2 : Bz) (c7_3 : Rz) : Option (AV) := bif qh 0 v3 && qg v3 (c8_0.length : Int) then zi7 c8_0 v3 nc5_0 h6 c0_0 c0_1 c0_2 c0_3 c1_0 c2_0 c3_0 c3_1 c3_2 c3_3 c7_0 c7_1 c7_2 c7_3 else none
noncomputable abbrev zi5 (v3 : Int) (c8_0 : Rz) (nc5_0 : Nat) (h6 : Rz) (c0_0 c0_1 : Int) (c0_2 : Bz) (c0_3 : Rz) (c1_0 c2_0 c3_0 c3_1 : Int) (c3_2 : Bz) (c3_3 : Rz) (c7_0 c7_1 : Int) (c7_2 : Bz) (c7_3 : Rz) : Option (AV) := bif decide (v3 ≥ 0) then zi6 v3 c8_0 nc5_0 h6 c0_0 c0_1 c0_2 c0_3 c1_0 c2_0 c3_0 c3_1 c3_2 c3_3 c7_0 c7_1 c7_2 c7_3 else qbw c0_0 c0_1 c0_2 c0_3 c1_0 c2_0 c3_0 c3_1 c3_2 c3_3 nc5_0 h6
theorem qnr (v3 c0_0 c0_1 : Int) (c0_2 : Bz) (c0_3 : Rz) (c1_0 c2_0 c3_0 c3_1 : Int) (c3_2 : Bz) (c3_3 : Rz) (nc5_0 : Nat) (h6 : Rz) (c7_0 c7_1 : Int) (c7_2 : Bz) (c7_3 c8_0 : Rz) {P : AV → Prop} (h : Gets (zi5 v3 c8_0 nc5_0 h6 c0_0 c0_1 c0_2 c0_3 c1_0 c2_0 c3_0 c3_1 c3_2 c3_3 c7_0 c7_1 c7_2 c7_3) P) : Gets (qlC v3 c0_0 c0_1 c0_2 c0_3 c1_0 c2_0 c3_0 c3_1 c3_2 c3_3 nc5_0 h6 c7_0 c7_1 c7_2 c7_3 c8_0) P :=
  gE (fun _ => qn (cfg := cfg) (f := 273) (rd := none) (bs := 10)) (by kernel_rfl) h
theorem qek (v3 c0_0 c0_1 : Int) (c0_2 : Bz) (c0_3 : Rz) (c1_0 c2_0 c3_0 c3_1 : Int) (c3_2 : Bz) (c3_3 : Rz) (nc5_0 : Nat) (c7_0 c7_1 : Int) (c7_2 : Bz) (c7_3 c8_0 h10 : Rz) {P : AV → Prop} (h : Gets (zi5 v3 c8_0 nc5_0 h10 c0_0 c0_1 c0_2 c0_3 c1_0 c2_0 c3_0 c3_1 c3_2 c3_3 c7_0 c7_1 c7_2 c7_3) P) : Gets (qjr v3 c0_0 c0_1 c0_2 c0_3 c1_0 c2_0 c3_0 c3_1 c3_2 c3_3 nc5_0 c7_0 c7_1 c7_2 c7_3 c8_0 h10) P :=
  gE (fun _ => qn (cfg := cfg) (f := 273) (rd := none) (bs := 10)) (by kernel_rfl) h
theorem qs3 (t : Tm) : EVs (EV cfg) 170 [t.av] = some (.bool t.sound) := by
 obtain ⟨k, n, s, l⟩ := t
 apply Gets.get
 rw [Tm.av_mk]
 refine qju _ _ _ _ ?_
 unfold zi0 zi1 zi2 zi3 zi4
 simp only [Tm.sound, Tm.kind_mk, Tm.num_mk, Tm.str_mk, Tm.subs_mk, qd, beqI, qsx, xS]
 by_cases h1 : k = 1
 ·subst h1; simp [vC] <;> (try rw [Bool.eq_iff_iff]) <;> (try simp) <;> first | omega | grind
 by_cases h2 : k = 2
 ·subst h2; simp [vC] <;> (try rw [Bool.eq_iff_iff]) <;> (try simp) <;> first | omega | grind
 by_cases h3 : k = 3
 ·subst h3; simp [vC] <;> (try rw [Bool.eq_iff_iff]) <;> (try simp) <;> first | omega | grind
 by_cases h4 : k = 4
 ·subst h4; simp [vC] <;> (try rw [Bool.eq_iff_iff]) <;> (try simp) <;> first | omega | grind
 by_cases h6 : k = 6
 ·subst h6; simp [vC] <;> (try rw [Bool.eq_iff_iff]) <;> (try simp) <;> first | omega | grind
 by_cases h5 : k = 5
 ·subst h5
  cases l with
  | nil => simp [vC] <;> (try rw [Bool.eq_iff_iff]) <;> (try simp) <;> first | omega | grind
  | cons x l =>
   have hx : ¬ ((l.length : Int) + 1 = 0) := by omega
   simp [hx, vC] <;> (try rw [Bool.eq_iff_iff]) <;> (try simp) <;> first | omega | grind
 by_cases h7 : k = 7
 ·subst h7; simp [vC] <;> (try rw [Bool.eq_iff_iff]) <;> (try simp) <;> first | omega | grind
 by_cases h8 : k = 8
 ·subst h8; simp [vC] <;> (try rw [Bool.eq_iff_iff]) <;> (try simp) <;> first | omega | grind
 by_cases h9 : k = 9
 ·subst h9; simp [vC] <;> (try rw [Bool.eq_iff_iff]) <;> (try simp) <;> first | omega | grind
 simp [h1, h2, h3, h4, h5, h6, h7, h8, h9]
theorem qwj (t : Tm) : EVs (EV cfg) 171 [t.av] = some (.int .i64 t.own) := by
 obtain ⟨k, n, s, l⟩ := t
 apply Gets.get
 rw [Tm.av_mk]
 refine qlN _ _ _ _ ?_
 simp only [Tm.own, Tm.kind_mk, beqI]
 by_cases h7 : k = 7
 ·simp [h7]
 ·by_cases h5 : k = 5
  ·simp [h5]
  ·simp [h7, h5]
theorem qhm (l : List (List AV)) (z : List AV) : (l ++ [z])[l.length]? = some z := by simp
theorem qhl (l : List (List AV)) (z c : List AV) : (l ++ [z]).set l.length c = l ++ [c] := by simp
theorem qrN {t x : Tm} (hx : x.subs.length < 1099511627776) {wd : Int} {P : AV → Prop} : ∀ (j : Nat) (R : List Tm), j ≤ x.subs.length → R.length + j < 1099511627776 →
  Gets (qbw t.kind t.num t.str (qb t.subs) 0 wd t.kind t.num t.str (qb t.subs) (R.length + j) (qb (R ++ (x.subs.take j).reverse))) P →
  Gets (qjr ((j : Int) - 1) t.kind t.num t.str (qb t.subs) 0 wd t.kind t.num t.str (qb t.subs) R.length x.kind x.num x.str (qb x.subs) (qb x.subs) (qb R)) P
 | 0, R, _, _, h => by
  refine qek _ _ _ _ _ _ _ _ _ _ _ _ _ _ _ _ _ _ ?_
  unfold zi5 zi6 zi7 zi8 zi9 zi10
  simpa using h
 | j + 1, R, hj, hR, h => by
  have ih := qrN (t := t) hx (wd := wd) (P := P) j (R ++ [x.subs[j]]) (by omega) (by simp; omega)
  have e1 : x.subs.take (j + 1) = x.subs.take j ++ [x.subs[j]] := by rw [List.take_add_one, qyI (by omega)]; rfl
  have e4 : R ++ (x.subs.take j ++ [x.subs[j]]).reverse = R ++ x.subs[j] :: (x.subs.take j).reverse := by rw [List.reverse_append]; rfl
  rw [e1, e4, show R.length + (j + 1) = R.length + 1 + j by omega] at h
  refine qek _ _ _ _ _ _ _ _ _ _ _ _ _ _ _ _ _ _ ?_
  unfold zi5 zi6 zi7 zi8 zi9 zi10
  have hw : IntKind.wrap .i64 ((j : Int) - 1) = (j : Int) - 1 := qM (by omega) (by omega)
  have hjl : j < x.subs.length := by omega
  have e2 : ((j + 1 : Nat) : Int) - 1 = j := by omega
  rw [e2]
  have ht : qyM R.length (qb R) = qb R := qyP (by simp)
  have g0 := qhm (qb R) [.int .i64 0, .int .i64 0, .str [], .nilS]
  have s0 := qhl (qb R) [.int .i64 0, .int .i64 0, .str [], .nilS] x.subs[j].cells
  rw [qd] at g0 s0
  simp [hjl, hw, yb (show R.length + 1 ≤ 1099511627776 by omega), ht] at ih ⊢
  exact ih h
theorem qwi {t x : Tm} (hx : x.subs.length < 1099511627776) {wd : Int} {P : AV → Prop} {R : List Tm} {Z : List (List AV)} (hR : R.length + x.subs.length < 1099511627776)
  (h0 : x.subs = [] → Gets (qbw t.kind t.num t.str (qb t.subs) 0 wd t.kind t.num t.str (qb t.subs) R.length (qb R ++ Z)) P)
  (h : x.subs ≠ [] → Gets (qbw t.kind t.num t.str (qb t.subs) 0 wd t.kind t.num t.str (qb t.subs) (R ++ x.subs.reverse).length (qb (R ++ x.subs.reverse))) P) :
  Gets (qlC ((x.subs.length : Int) - 1) t.kind t.num t.str (qb t.subs) 0 wd t.kind t.num t.str (qb t.subs) R.length (qb R ++ Z) x.kind x.num x.str (qb x.subs) (qb x.subs)) P := by
 refine qnr _ _ _ _ _ _ _ _ _ _ _ _ _ _ _ _ _ _ ?_
 unfold zi5 zi6 zi7 zi8 zi9 zi10
 rcases Nat.eq_zero_or_pos x.subs.length with hz | hp
 ·have hz' : x.subs = [] := List.length_eq_zero_iff.1 hz
  have := h0 hz'
  simpa [hz'] using this
 ·obtain ⟨j, hj⟩ : ∃ j, x.subs.length = j + 1 := ⟨x.subs.length - 1, by omega⟩
  have hne : x.subs ≠ [] := by intro e; rw [e] at hp; simp at hp
  have hjl : j < x.subs.length := by omega
  have e2 : (x.subs.length : Int) - 1 = j := by omega
  have hw : IntKind.wrap .i64 ((j : Int) - 1) = (j : Int) - 1 := qM (by omega) (by omega)
  have ht : qyM R.length (qb R ++ Z) = qb R := by rw [List.take_append_of_le_length (by simp), qyP (by simp)]
  have e5 : x.subs = x.subs.take j ++ [x.subs[j]] := by
   have : x.subs.take (j + 1) = x.subs := qyP (by omega)
   rw [List.take_add_one, qyI hjl] at this
   exact this.symm
  have e6 : R ++ x.subs.reverse = R ++ [x.subs[j]] ++ (x.subs.take j).reverse := by
   conv => lhs; rw [e5]
   rw [List.reverse_append, List.append_assoc]; rfl
  have := qrN (t := t) hx (wd := wd) (P := P) j (R ++ [x.subs[j]]) (by omega) (by simp; omega) (by
   have h := h hne
   rw [e6] at h
   have e7 : (R ++ [x.subs[j]] ++ (x.subs.take j).reverse).length = (R ++ [x.subs[j]]).length + j := by
    rw [qy6, List.length_reverse, qzb]; omega
   rw [e7] at h
   exact h)
  rw [e2]
  simp at this
  simp [hjl, hw, yb (show R.length + 1 ≤ 1099511627776 by omega), ht]
  exact this
theorem qvv {t : Tm} : ∀ (n : Nat) (R : List Tm) (Z : List (List AV)) (wd : Nat), wL R ≤ n → n < 1099511627776 → wd + 2 * wL R < 9007199254740992 →
  Gets (qbw t.kind t.num t.str (qb t.subs) 0 (wd : Int) t.kind t.num t.str (qb t.subs) R.length (qb R ++ Z)) (· = .int .i64 (chkS R wd)) := by
 intro n
 induction n with
 | zero =>
  intro R Z wd hn _ _
  have : R = [] := by
   have := xB R
   exact List.length_eq_zero_iff.1 (by omega)
  subst this
  refine qcl _ _ _ _ _ _ _ _ _ _ _ _ ?_
  by_cases h : 65536 < wd
  ·have h' : (65536 : Int) < wd := by omega
   simp [h, h', chkS, vn, qU]
  ·have h' : ¬ (65536 : Int) < wd := by omega
   simp [h, h', chkS, vn, qU]
 | succ n ih =>
  intro R Z wd hn hN hw
  rcases List.eq_nil_or_concat R with rfl | ⟨R0, x, rfl⟩
  ·refine qcl _ _ _ _ _ _ _ _ _ _ _ _ ?_
   by_cases h : 65536 < wd
   ·have h' : (65536 : Int) < wd := by omega
    simp [h, h', chkS, vn, qU]
   ·have h' : ¬ (65536 : Int) < wd := by omega
    simp [h, h', chkS, vn, qU]
  ·rw [List.concat_eq_append] at *
   have hwx := x.w_eq
   have ho := x.own_le
   simp only [x5, qV, vQ] at hn hw
   have hl0 := xB R0
   have hls := xB x.subs
   have hsd := qs3 x
   have how := qwj x
   refine qcl _ _ _ _ _ _ _ _ _ _ _ _ ?_
   have e1 : (R0 ++ [x]).length = R0.length + 1 := by simp
   have hw1 : IntKind.wrap .i64 (R0.length : Int) = R0.length := quF (by omega)
   have hw2 : IntKind.wrap .i64 ((wd : Int) + x.own) = ((wd + x.own : Nat) : Int) := by rw [qM (by omega) (by omega)]; omega
   have hw3 : IntKind.wrap .i64 ((x.subs.length : Int) - 1) = (x.subs.length : Int) - 1 := qM (by omega) (by omega)
   have g : (qb (R0 ++ [x]) ++ Z)[R0.length]? = some x.cells := by
    rw [qyU (by simp), xx]; simp
   cases hs : x.sound with
   | false =>
    rw [hs] at hsd
    simp [e1, hw1, g, hsd, qtQ hs]
   | true =>
    rw [hs] at hsd
    have e3 : qb (R0 ++ [x]) ++ Z = qb R0 ++ (x.cells :: Z) := by rw [q8, List.append_assoc, qy, qI]; rfl
    have := qwi (t := t) (x := x) (R := R0) (Z := x.cells :: Z) (wd := ((wd + x.own : Nat) : Int)) (P := (· = .int .i64 (chkS (R0 ++ [x]) wd))) (by omega) (by omega)
     (fun hz => by
      have := ih R0 (x.cells :: Z) (wd + x.own) (by omega) (by omega) (by omega)
      rw [← qkJ hs, hz, List.reverse_nil, List.append_nil]
      exact this)
     (fun hz => by
      have := ih (R0 ++ x.subs.reverse) [] (wd + x.own) (by rw [x5, qrm]; omega) (by omega) (by rw [x5, qrm]; omega)
      rw [← qkJ hs]
      rw [List.append_nil] at this
      exact this)
    simp only [e1, e3] at g ⊢
    simp only [Int.natCast_add] at hw2 this
    simp [hw1, g, hsd, how, hw2, hw3]
    exact this
theorem zK {t : Tm} (h : t.w < 1099511627776) : EVs (EV cfg) 91 [t.av] = some (.int .i64 t.chk) := by
 have := qvv (t := t) _ [t] [] 0 (qyN _) (by simpa using h) (by simp; omega)
 apply Gets.get
 rw [Tm.av, Tm.cells_eq]
 refine qjw _ _ _ _ ?_
 rw [← Tm.cells_eq, qry, Tm.chk]
 simpa using this
theorem qct {s h0 : List UInt8} {b : UInt8} {v : Int} {i : Nat} {P : AV → Prop} (hv : 0 ≤ v ∧ v ≤ 9) (hlen : (qyM (s.length - 1) (s.drop 1)).length = h0.length) (hl : h0.length ≤ 2) (hb : h0[i]? = some b)
  (h : Gets (match xD b with | none => some (AV.tup [.int .i64 0, .bool false]) | some x => qbx s (v * 10 + x) ((i + 1 : Nat) : Int) (h0.map fun b => [.int .u8 (b.toNat : Int)])) P) : Gets (qbx s v i (h0.map fun b => [.int .u8 (b.toNat : Int)])) P := by
 have hi : i < h0.length := (qyL.1 hb).1
 refine qgm _ _ _ _ ?_
 have hbl := b.toNat_lt
 rw [hlen, decide_eq_true (show (i : Int) < (h0.length : Int) by omega), qw, qD, decide_eq_true hi]
 simp only [cond_true, qy2, ql, Nat.zero_add, qy3, List.getElem?_map, hb, qy7, qc, qy8, qm]
 unfold xD at h
 by_cases h1 : b.toNat < 48
 ·rw [if_pos h1] at h
  rw [decide_eq_true (show (b.toNat : Int) < 48 by omega)]; exact h
 ·rw [if_neg h1] at h
  rw [decide_eq_false (show ¬ (b.toNat : Int) < 48 by omega), cond_false]
  by_cases h2 : b.toNat > 57
  ·rw [if_pos h2] at h
   rw [decide_eq_true (show (b.toNat : Int) > 57 by omega)]; exact h
  ·rw [if_neg h2] at h
   rw [decide_eq_false (show ¬ (b.toNat : Int) > 57 by omega), cond_false]
   have w1 : IntKind.wrap .i64 (v * 10) = v * 10 := qM (by omega) (by omega)
   have w2 : IntKind.wrap .u8 ((b.toNat : Int) - 48) = (b.toNat : Int) - 48 := by
    simp [IntKind.wrap, IntKind.bits, IntKind.signed]; omega
   have w3 : IntKind.wrap .i64 ((b.toNat : Int) - 48) = (b.toNat : Int) - 48 := qM (by omega) (by omega)
   have w4 : IntKind.wrap .i64 (v * 10 + ((b.toNat : Int) - 48)) = v * 10 + ((b.toNat : Int) - 48) := qM (by omega) (by omega)
   have w5 : IntKind.wrap .i64 ((i : Int) + 1) = ((i + 1 : Nat) : Int) := qJ (n := 2) (by omega) (by omega)
   rw [w1, w2, w3, w4, w5]
   exact h
theorem qiu {s h0 : List UInt8} {v : Int} {i : Nat} (hlen : (qyM (s.length - 1) (s.drop 1)).length = h0.length) (hi : i = h0.length) : Gets (qbx s v i (h0.map fun b => [.int .u8 (b.toNat : Int)])) (· = .tup [.int .i64 v, .bool true]) := by
 refine qgm _ _ _ _ ?_
 rw [hlen, decide_eq_false (by omega)]
 exact ⟨_, rfl, rfl⟩
def varR (o : Option Int) : AV := .tup [.int .i64 (o.getD 0), .bool o.isSome]
theorem z3 (s : List UInt8) : EVs (EV cfg) 210 [.str s] = some (varR (varG s)) := by
 apply Gets.get
 refine qk2 _ ?_
 unfold zh0 zh1
 match s with
 | [] => exact ⟨_, rfl, rfl⟩
 | [a] => exact ⟨_, rfl, rfl⟩
 | a :: b :: c :: d :: l =>
  have h1 : ¬ ((a :: b :: c :: d :: l).length : Int) < 2 := by simp; omega
  have h2 : ((a :: b :: c :: d :: l).length : Int) > 3 := by simp; omega
  rw [decide_eq_false h1, decide_eq_true h2]
  exact ⟨_, rfl, rfl⟩
 | [a, b] =>
  by_cases h : a.toNat = 36
  ·have e : (((a.toNat : Int)) != 36) = false := by rw [h]; rfl
   have hs := qct (s := [a, b]) (h0 := [b]) (b := b) (v := 0) (i := 0) (P := (· = varR (varG [a, b]))) (by omega) rfl (by simp) rfl (by
    rw [qlp, if_pos h]
    cases hd : xD b with
    | none => exact ⟨_, rfl, rfl⟩
    | some x =>
     refine (qiu (s := [a, b]) (h0 := [b]) rfl rfl).mono ?_
     rintro _ rfl
     show _ = varR (some x)
     simp [varR])
   show Gets (bif (((a.toNat : Int)) != 36) then _ else _) _
   rw [e]
   exact hs
  ·have e : (((a.toNat : Int)) != 36) = true := by simpa using fun h' => h (by omega)
   show Gets (bif (((a.toNat : Int)) != 36) then _ else _) _
   rw [e]
   refine ⟨_, rfl, ?_⟩
   rw [qlp, if_neg h]; rfl
 | [a, b, c] =>
  by_cases h : a.toNat = 36
  ·have e : (((a.toNat : Int)) != 36) = false := by rw [h]; rfl
   show Gets (bif (((a.toNat : Int)) != 36) then _ else bif (((b.toNat : Int)) == 48) then _ else _) _
   rw [e]
   by_cases hb : b.toNat = 48
   ·have e2 : (((b.toNat : Int)) == 48) = true := by rw [hb]; rfl
    rw [e2]
    refine ⟨_, rfl, ?_⟩
    rw [qfB, if_neg (fun h => h.2 hb)]; rfl
   ·have e2 : (((b.toNat : Int)) == 48) = false := by simpa using fun h' => hb (by omega)
    rw [e2]
    show Gets (qbx [a, b, c] 0 0 ([b, c].map fun b => [.int .u8 (b.toNat : Int)])) _
    refine qct (s := [a, b, c]) (h0 := [b, c]) (b := b) (v := 0) (i := 0) (by omega) rfl (by simp) rfl ?_
    rw [qfB, if_pos ⟨h, hb⟩]
    cases hd : xD b with
    | none => exact ⟨_, rfl, rfl⟩
    | some x =>
     have hx := qaV hd
     refine qct (s := [a, b, c]) (h0 := [b, c]) (b := c) (i := 1) (by omega) rfl (by simp) rfl ?_
     cases hd2 : xD c with
     | none => exact ⟨_, rfl, by simp [varR, hd2]⟩
     | some y =>
      refine (qiu (s := [a, b, c]) (h0 := [b, c]) rfl rfl).mono ?_
      rintro _ rfl
      simp [varR, hd2]
  ·have e : (((a.toNat : Int)) != 36) = true := by simpa using fun h' => h (by omega)
   show Gets (bif (((a.toNat : Int)) != 36) then _ else _) _
   rw [e]
   refine ⟨_, rfl, ?_⟩
   rw [qfB, if_neg (fun h' => h h'.1)]; rfl
theorem zP {t : Tm} (h : t.w < 1099511627776) : EVs (EV cfg) 208 [t.av] = some (.bool (decide (t.chk = 0))) := by
 have hc := zK h
 apply Gets.get
 rw [Tm.av, Tm.cells_eq] at hc ⊢
 refine qqi _ _ _ _ ?_
 rw [hc]
 simp [beqI]
theorem qeK {t : Tm} (h : t.w < 1099511627776) : EVs (EV cfg) 153 [t.av] = some (varR (varT t)) := by
 have hc := zP h
 apply Gets.get
 rw [Tm.av, Tm.cells_eq] at hc ⊢
 refine qqh _ _ _ _ ?_
 rw [hc, z3]
 unfold varT
 by_cases h1 : t.kind = 2
 ·by_cases h2 : t.chk = 0
  ·simp [h1, h2, varR, kTup, qa, kNil]
  ·simp [h1, h2, varR]
 ·have h1' : (t.kind != 2) = true := by simpa using h1
  rw [h1']
  simp [h1, varR]
noncomputable def qxI : Den := evC cfg (EV cfg) 168 none 0 (sub (qe Tryz.f168) [1, 0, 1, 0, 0])
noncomputable def qyq : Ex × List AV × AH → Option AV := kAft (Cfg.keepOut cfg 168 2) (kRun cfg (EV cfg) (kfN cfg 6) 168 none 0 (vX cfg (Cfg.lift cfg 168 0) Tryz.f168.results.toList) ([.block 0, .seq (sub (qe Tryz.f168) [1, 1])]))
noncomputable def qw5 : List AV × AH → Option AV := fun p => kOpt (LOOP 0 (some [0, 1, 7, 8]) ([]) qxI p) qyq
noncomputable abbrev qhV (A : Rz) (n v8 : Int) : Option (AV) := qw5  (((fx 19 [(0, .sl A), (1, .int .i64 n), (7, .int .i64 (A.length : Int)), (8, .int .i64 v8)]) : List AV), ([] : AH))
theorem qld (op : Bz) {P : AV → Prop} (h : Gets (bif op == [(115 : UInt8), (101 : UInt8), (108 : UInt8), (102 : UInt8)] then some (.sl [[.int .i64 0]]) else bif op == [(105 : UInt8), (115 : UInt8), (95 : UInt8), (97 : UInt8), (116 : UInt8), (111 : UInt8), (109 : UInt8)] then some (.sl [[.int .i64 1]]) else bif op == [(105 : UInt8), (115 : UInt8), (95 : UInt8), (105 : UInt8), (110 : UInt8), (116 : UInt8), (101 : UInt8), (103 : UInt8), (101 : UInt8), (114 : UInt8)] then some (.sl [[.int .i64 1]]) else bif op == [(105 : UInt8), (115 : UInt8), (95 : UInt8), (108 : UInt8), (105 : UInt8), (115 : UInt8), (116 : UInt8)] then some (.sl [[.int .i64 1]]) else bif op == [(105 : UInt8), (115 : UInt8), (95 : UInt8), (116 : UInt8), (117 : UInt8), (112 : UInt8), (108 : UInt8), (101 : UInt8)] then some (.sl [[.int .i64 1]]) else bif op == [(105 : UInt8), (115 : UInt8), (95 : UInt8), (112 : UInt8), (105 : UInt8), (100 : UInt8)] then some (.sl [[.int .i64 1]]) else bif op == [(105 : UInt8), (115 : UInt8), (95 : UInt8), (102 : UInt8), (117 : UInt8), (110 : UInt8), (99 : UInt8), (116 : UInt8), (105 : UInt8), (111 : UInt8), (110 : UInt8)] then some (.sl [[.int .i64 1]]) else bif op == [(105 : UInt8), (115 : UInt8), (95 : UInt8), (114 : UInt8), (101 : UInt8), (102 : UInt8), (101 : UInt8), (114 : UInt8), (101 : UInt8), (110 : UInt8), (99 : UInt8), (101 : UInt8)] then some (.sl [[.int .i64 1]]) else bif op == [(110 : UInt8), (111 : UInt8), (116 : UInt8)] then some (.sl [[.int .i64 1]]) else bif op == [(98 : UInt8), (110 : UInt8), (111 : UInt8), (116 : UInt8)] then some (.sl [[.int .i64 1]]) else bif op == [(97 : UInt8), (98 : UInt8), (115 : UInt8)] then some (.sl [[.int .i64 1]]) else bif op == [(116 : UInt8), (117 : UInt8), (112 : UInt8), (108 : UInt8), (101 : UInt8), (95 : UInt8), (115 : UInt8), (105 : UInt8), (122 : UInt8), (101 : UInt8)] then some (.sl [[.int .i64 1]]) else bif op == [(115 : UInt8), (105 : UInt8), (122 : UInt8), (101 : UInt8)] then some (.sl [[.int .i64 1]]) else bif op == [(104 : UInt8), (100 : UInt8)] then some (.sl [[.int .i64 1]]) else bif op == [(116 : UInt8), (108 : UInt8)] then some (.sl [[.int .i64 1]]) else bif op == [(108 : UInt8), (101 : UInt8), (110 : UInt8), (103 : UInt8), (116 : UInt8), (104 : UInt8)] then some (.sl [[.int .i64 1]]) else bif op == [(43 : UInt8)] then some (.sl [[.int .i64 1], [.int .i64 2]]) else bif op == [(45 : UInt8)] then some (.sl [[.int .i64 1], [.int .i64 2]]) else bif op == [(61 : UInt8), (61 : UInt8)] then some (.sl [[.int .i64 2]]) else bif op == [(61 : UInt8), (58 : UInt8), (61 : UInt8)] then some (.sl [[.int .i64 2]]) else bif op == [(47 : UInt8), (61 : UInt8)] then some (.sl [[.int .i64 2]]) else bif op == [(61 : UInt8), (47 : UInt8), (61 : UInt8)] then some (.sl [[.int .i64 2]]) else bif op == [(60 : UInt8)] then some (.sl [[.int .i64 2]]) else bif op == [(61 : UInt8), (60 : UInt8)] then some (.sl [[.int .i64 2]]) else bif op == [(62 : UInt8)] then some (.sl [[.int .i64 2]]) else bif op == [(62 : UInt8), (61 : UInt8)] then some (.sl [[.int .i64 2]]) else bif op == [(97 : UInt8), (110 : UInt8), (100 : UInt8)] then some (.sl [[.int .i64 2]]) else bif op == [(111 : UInt8), (114 : UInt8)] then some (.sl [[.int .i64 2]]) else bif op == [(120 : UInt8), (111 : UInt8), (114 : UInt8)] then some (.sl [[.int .i64 2]]) else bif op == [(97 : UInt8), (110 : UInt8), (100 : UInt8), (97 : UInt8), (108 : UInt8), (115 : UInt8), (111 : UInt8)] then some (.sl [[.int .i64 2]]) else bif op == [(111 : UInt8), (114 : UInt8), (101 : UInt8), (108 : UInt8), (115 : UInt8), (101 : UInt8)] then some (.sl [[.int .i64 2]]) else bif op == [(42 : UInt8)] then some (.sl [[.int .i64 2]]) else bif op == [(100 : UInt8), (105 : UInt8), (118 : UInt8)] then some (.sl [[.int .i64 2]]) else bif op == [(114 : UInt8), (101 : UInt8), (109 : UInt8)] then some (.sl [[.int .i64 2]]) else bif op == [(98 : UInt8), (97 : UInt8), (110 : UInt8), (100 : UInt8)] then some (.sl [[.int .i64 2]]) else bif op == [(98 : UInt8), (111 : UInt8), (114 : UInt8)] then some (.sl [[.int .i64 2]]) else bif op == [(98 : UInt8), (120 : UInt8), (111 : UInt8), (114 : UInt8)] then some (.sl [[.int .i64 2]]) else bif op == [(101 : UInt8), (108 : UInt8), (101 : UInt8), (109 : UInt8), (101 : UInt8), (110 : UInt8), (116 : UInt8)] then some (.sl [[.int .i64 2]]) else some (.sl [])) P) : Gets (EVf (EV cfg) 89 [.str op]) P :=
  gE (fun _ => funF rfl rfl Tryz.func89 rfl) (by kernel_rfl) h
theorem qjW (n : Int) {P : AV → Prop} (h : Gets (bif decide (n ≥ 1) then some (.bool (decide (n ≤ 1073741824))) else some (.bool false)) P) : Gets (EVs (EV cfg) 90 [.int .i64 n]) P :=
  gE (fun _ => funS rfl rfl Tryz.func90 rfl) (by kernel_rfl) h
noncomputable abbrev zj0 (v : AV) : Option (AV) := kTmV v fun n n_1 s rows => (some (.agg [.int .i64 n, .int .i64 n_1, .str s, .sl rows]))
theorem qi0 (b : Bool) {P : AV → Prop} (h : Gets (bif b then kOpt (EVf (EV cfg) 292 [.str [(116 : UInt8), (114 : UInt8), (117 : UInt8), (101 : UInt8)]]) fun v => zj0 v else kOpt (EVf (EV cfg) 292 [.str [(102 : UInt8), (97 : UInt8), (108 : UInt8), (115 : UInt8), (101 : UInt8)]]) fun v => zj0 v) P) : Gets (EVf (EV cfg) 239 [.bool b]) P :=
  gE (fun _ => funF rfl rfl Tryz.func239 rfl) (by kernel_rfl) h
theorem qjX (s : Bz) {P : AV → Prop} (h : Gets (some (.agg [.int .i64 2, .int .i64 0, .str s, .sl []])) P) : Gets (EVf (EV cfg) 292 [.str s]) P :=
  gE (fun _ => funF rfl rfl Tryz.func292 rfl) (by kernel_rfl) h
theorem qle (A : Rz) (n : Int) {P : AV → Prop} (h : Gets (kOpt (EVs (EV cfg) 168 [.sl A, .int .i64 n]) fun v => kInt .i64 v fun n => some (.bool (decide (n ≥ 0)))) P) : Gets (EVs (EV cfg) 88 [.sl A, .int .i64 n]) P :=
  gE (fun _ => funS rfl rfl Tryz.func88 rfl) (by kernel_rfl) h
theorem qqW (A : Rz) (n : Int) {P : AV → Prop} (h : Gets (qhV A n 0) P) : Gets (EVs (EV cfg) 168 [.sl A, .int .i64 n]) P :=
  gE (fun _ => funS rfl rfl Tryz.func168 rfl) (by kernel_rfl) h
theorem qqt (ke ne : Int) (se : Bz) (le bd : Rz) (self : Int) (bad : Bool) {P : AV × List (List AV) → Prop} (h : Gets (some (.agg [.int .i64 0, .int .i64 0, .str [], .sl []], [[.int .i64 ke, .int .i64 ne, .str se, .sl le, .sl bd, .int .i64 self, .bool true]])) P) : Gets (EVd (EV cfg) 233 [.ptr 0 0 0] 7 [[AV.int .i64 ke, AV.int .i64 ne, AV.str se, AV.sl le, AV.sl bd, AV.int .i64 self, AV.bool bad]]) P :=
  gE (fun _ => funD rfl rfl Tryz.func233 rfl) (by kernel_rfl) h
noncomputable abbrev zj3 (n n_1 : Int) (s : Bz) (rows : Rz) (q : AV × List (List AV)) : Option (AV × List (List AV)) := (some (.agg [.int .i64 n, .int .i64 n_1, .str s, .sl rows], q.2))
noncomputable abbrev zj2 (q : AV × List (List AV)) : Option (AV × List (List AV)) := kTmV q.1 fun n n_1 s rows => zj3 n n_1 s rows q
noncomputable abbrev zj1 (ke ne : Int) (se : Bz) (le bd : Rz) (self : Int) (bad : Bool) : Option (AV × List (List AV)) := kOpt (EVd (EV cfg) 233 [.ptr 0 0 0] 7 [[.int .i64 ke, .int .i64 ne, .str se, .sl le, .sl bd, .int .i64 self, .bool bad]]) fun q => zj2 q
theorem qop (ke ne : Int) (se : Bz) (le bd : Rz) (self : Int) (bad : Bool) (n : Int) {P : AV × List (List AV) → Prop} (h : Gets (bif decide (n < (- 576460752303423488)) then zj1 ke ne se le bd self bad else bif decide (n > (576460752303423487 : Int)) then zj1 ke ne se le bd self bad else some (.agg [.int .i64 1, .int .i64 n, .str [], .sl []], [[.int .i64 ke, .int .i64 ne, .str se, .sl le, .sl bd, .int .i64 self, .bool bad]])) P) : Gets (EVd (EV cfg) 240 [.ptr 0 0 0, .int .i64 n] 7 [[AV.int .i64 ke, AV.int .i64 ne, AV.str se, AV.sl le, AV.sl bd, AV.int .i64 self, AV.bool bad]]) P :=
  gE (fun _ => funD rfl rfl Tryz.func240 rfl) (by kernel_rfl) h
noncomputable abbrev zj12 (n_1 ke ne : Int) (se : Bz) (le bd : Rz) (self : Int) (bad : Bool) : Option (AV × List (List AV)) := kOpt (EVd (EV cfg) 240 [.ptr 0 0 0, .int .i64 (IntKind.wrap .i64 (1 * IntKind.wrap .i64 n_1))] 7 [[.int .i64 ke, .int .i64 ne, .str se, .sl le, .sl bd, .int .i64 self, .bool bad]]) fun q => zj2 q
noncomputable abbrev zj11 (n_1 ke ne : Int) (se : Bz) (le bd : Rz) (self : Int) (bad : Bool) : Option (AV × List (List AV)) := bif decide (n_1 > 576460752303423488) then zj1 ke ne se le bd self bad else zj12 n_1 ke ne se le bd self bad
noncomputable abbrev zj10 (n ke ne : Int) (se : Bz) (le bd : Rz) (self : Int) (bad : Bool) (n_1 : Int) : Option (AV × List (List AV)) := bif decide (n > 0) then zj1 ke ne se le bd self bad else zj11 n_1 ke ne se le bd self bad
noncomputable abbrev zj9 (cs : List AV) (n ke ne : Int) (se : Bz) (le bd : Rz) (self : Int) (bad : Bool) (n_1 : Int) : Option (AV × List (List AV)) := kNil cs (zj10 n ke ne se le bd self bad n_1)
noncomputable abbrev zj8 (c : AV) (cs : List AV) (n ke ne : Int) (se : Bz) (le bd : Rz) (self : Int) (bad : Bool) : Option (AV × List (List AV)) := kInt .u64 c fun n_1 => zj9 cs n ke ne se le bd self bad n_1
noncomputable abbrev zj7 (cs : List AV) (n ke ne : Int) (se : Bz) (le bd : Rz) (self : Int) (bad : Bool) : Option (AV × List (List AV)) := qa cs fun c cs => zj8 c cs n ke ne se le bd self bad
noncomputable abbrev zj6 (c : AV) (cs : List AV) (ke ne : Int) (se : Bz) (le bd : Rz) (self : Int) (bad : Bool) : Option (AV × List (List AV)) := kInt .u64 c fun n => zj7 cs n ke ne se le bd self bad
noncomputable abbrev zj5 (cs : List AV) (ke ne : Int) (se : Bz) (le bd : Rz) (self : Int) (bad : Bool) : Option (AV × List (List AV)) := qa cs fun c cs => zj6 c cs ke ne se le bd self bad
noncomputable abbrev zj4 (v : AV) (ke ne : Int) (se : Bz) (le bd : Rz) (self : Int) (bad : Bool) : Option (AV × List (List AV)) := kTup v fun cs => zj5 cs ke ne se le bd self bad
noncomputable abbrev zj21 (n_1 ke ne : Int) (se : Bz) (le bd : Rz) (self : Int) (bad : Bool) : Option (AV × List (List AV)) := kOpt (EVd (EV cfg) 240 [.ptr 0 0 0, .int .i64 (IntKind.wrap .i64 ((- 1) * IntKind.wrap .i64 n_1))] 7 [[.int .i64 ke, .int .i64 ne, .str se, .sl le, .sl bd, .int .i64 self, .bool bad]]) fun q => zj2 q
noncomputable abbrev zj20 (n_1 ke ne : Int) (se : Bz) (le bd : Rz) (self : Int) (bad : Bool) : Option (AV × List (List AV)) := bif decide (n_1 > 576460752303423488) then zj1 ke ne se le bd self bad else zj21 n_1 ke ne se le bd self bad
noncomputable abbrev zj19 (n ke ne : Int) (se : Bz) (le bd : Rz) (self : Int) (bad : Bool) (n_1 : Int) : Option (AV × List (List AV)) := bif decide (n > 0) then zj1 ke ne se le bd self bad else zj20 n_1 ke ne se le bd self bad
noncomputable abbrev zj18 (cs : List AV) (n ke ne : Int) (se : Bz) (le bd : Rz) (self : Int) (bad : Bool) (n_1 : Int) : Option (AV × List (List AV)) := kNil cs (zj19 n ke ne se le bd self bad n_1)
noncomputable abbrev zj17 (c : AV) (cs : List AV) (n ke ne : Int) (se : Bz) (le bd : Rz) (self : Int) (bad : Bool) : Option (AV × List (List AV)) := kInt .u64 c fun n_1 => zj18 cs n ke ne se le bd self bad n_1
noncomputable abbrev zj16 (cs : List AV) (n ke ne : Int) (se : Bz) (le bd : Rz) (self : Int) (bad : Bool) : Option (AV × List (List AV)) := qa cs fun c cs => zj17 c cs n ke ne se le bd self bad
noncomputable abbrev zj15 (c : AV) (cs : List AV) (ke ne : Int) (se : Bz) (le bd : Rz) (self : Int) (bad : Bool) : Option (AV × List (List AV)) := kInt .u64 c fun n => zj16 cs n ke ne se le bd self bad
noncomputable abbrev zj14 (cs : List AV) (ke ne : Int) (se : Bz) (le bd : Rz) (self : Int) (bad : Bool) : Option (AV × List (List AV)) := qa cs fun c cs => zj15 c cs ke ne se le bd self bad
noncomputable abbrev zj13 (v : AV) (ke ne : Int) (se : Bz) (le bd : Rz) (self : Int) (bad : Bool) : Option (AV × List (List AV)) := kTup v fun cs => zj14 cs ke ne se le bd self bad
theorem qmt (ke ne : Int) (se : Bz) (le bd : Rz) (self : Int) (bad : Bool) (a b : Int) {P : AV × List (List AV) → Prop} (h : Gets (bif decide (a < 0) then bif decide (b < 0) then kOpt (EVs (EV cfg) 312 [.int .u64 (IntKind.wrap .u64 (IntKind.wrap .i64 (0 - a))), .int .u64 (IntKind.wrap .u64 (IntKind.wrap .i64 (0 - b)))]) fun v => zj4 v ke ne se le bd self bad else kOpt (EVs (EV cfg) 312 [.int .u64 (IntKind.wrap .u64 (IntKind.wrap .i64 (0 - a))), .int .u64 (IntKind.wrap .u64 b)]) fun v => zj13 v ke ne se le bd self bad else bif decide (b < 0) then kOpt (EVs (EV cfg) 312 [.int .u64 (IntKind.wrap .u64 a), .int .u64 (IntKind.wrap .u64 (IntKind.wrap .i64 (0 - b)))]) fun v => zj13 v ke ne se le bd self bad else kOpt (EVs (EV cfg) 312 [.int .u64 (IntKind.wrap .u64 a), .int .u64 (IntKind.wrap .u64 b)]) fun v => zj4 v ke ne se le bd self bad) P) : Gets (EVd (EV cfg) 294 [.ptr 0 0 0, .int .i64 a, .int .i64 b] 7 [[AV.int .i64 ke, AV.int .i64 ne, AV.str se, AV.sl le, AV.sl bd, AV.int .i64 self, AV.bool bad]]) P :=
  gE (fun _ => funD rfl rfl Tryz.func294 rfl) (by kernel_rfl) h
noncomputable abbrev zj23 (n ke ne : Int) (se : Bz) (le bd : Rz) (self : Int) (bad : Bool) : Option (AV × List (List AV)) := kOpt (EVd (EV cfg) 240 [.ptr 0 0 0, .int .i64 n] 7 [[.int .i64 ke, .int .i64 ne, .str se, .sl le, .sl bd, .int .i64 self, .bool bad]]) fun q => zj2 q
noncomputable abbrev zj22 (v : AV) (ke ne : Int) (se : Bz) (le bd : Rz) (self : Int) (bad : Bool) : Option (AV × List (List AV)) := kInt .i64 v fun n => zj23 n ke ne se le bd self bad
theorem qeR (ke ne : Int) (se : Bz) (le bd : Rz) (self : Int) (bad : Bool) (op : Bz) (a b : Int) {P : AV × List (List AV) → Prop} (h : Gets (bif bad then some (.agg [.int .i64 0, .int .i64 0, .str [], .sl []], [[.int .i64 ke, .int .i64 ne, .str se, .sl le, .sl bd, .int .i64 self, .bool bad]]) else bif op == [(43 : UInt8)] then kOpt (EVd (EV cfg) 240 [.ptr 0 0 0, .int .i64 (IntKind.wrap .i64 (a + b))] 7 [[.int .i64 ke, .int .i64 ne, .str se, .sl le, .sl bd, .int .i64 self, .bool bad]]) fun q => zj2 q else bif op == [(45 : UInt8)] then kOpt (EVd (EV cfg) 240 [.ptr 0 0 0, .int .i64 (IntKind.wrap .i64 (a - b))] 7 [[.int .i64 ke, .int .i64 ne, .str se, .sl le, .sl bd, .int .i64 self, .bool bad]]) fun q => zj2 q else bif op == [(42 : UInt8)] then kOpt (EVd (EV cfg) 294 [.ptr 0 0 0, .int .i64 a, .int .i64 b] 7 [[.int .i64 ke, .int .i64 ne, .str se, .sl le, .sl bd, .int .i64 self, .bool bad]]) fun q => zj2 q else bif op == [(98 : UInt8), (97 : UInt8), (110 : UInt8), (100 : UInt8)] then kOpt (qA (Op.intBits BinOp.and .i64 a b)) fun v => zj22 v ke ne se le bd self bad else bif op == [(98 : UInt8), (111 : UInt8), (114 : UInt8)] then kOpt (qA (Op.intBits BinOp.or .i64 a b)) fun v => zj22 v ke ne se le bd self bad else bif op == [(98 : UInt8), (120 : UInt8), (111 : UInt8), (114 : UInt8)] then kOpt (qA (Op.intBits BinOp.xor .i64 a b)) fun v => zj22 v ke ne se le bd self bad else bif b == 0 then zj1 ke ne se le bd self bad else bif op == [(100 : UInt8), (105 : UInt8), (118 : UInt8)] then kOpt (qA (Op.intDiv BinOp.quo .i64 a b)) fun v => zj22 v ke ne se le bd self bad else kOpt (qA (Op.intDiv BinOp.rem .i64 a b)) fun v => zj22 v ke ne se le bd self bad) P) : Gets (EVd (EV cfg) 243 [.ptr 0 0 0, .str op, .int .i64 a, .int .i64 b] 7 [[AV.int .i64 ke, AV.int .i64 ne, AV.str se, AV.sl le, AV.sl bd, AV.int .i64 self, AV.bool bad]]) P :=
  gE (fun _ => funD rfl rfl Tryz.func243 rfl) (by kernel_rfl) h
theorem qto (ke ne : Int) (se : Bz) (le bd : Rz) (self : Int) (bad : Bool) (kt nt : Int) (st : Bz) (lt : Rz) {P : MV × List (List AV) → Prop} (h : Gets (bif kt != 1 then kOpt (EVd (EV cfg) 233 [.ptr 0 0 0] 7 [[.int .i64 ke, .int .i64 ne, .str se, .sl le, .sl bd, .int .i64 self, .bool bad]]) fun q => kTmV q.1 fun n n s rows => (some (MV.int .i64 nt, q.2)) else some (MV.int .i64 nt, [[.int .i64 ke, .int .i64 ne, .str se, .sl le, .sl bd, .int .i64 self, .bool bad]])) P) : Gets (EVm (EV cfg) 241 [.ptr 0 0 0, .agg [.int .i64 kt, .int .i64 nt, .str st, .sl lt]] 7 [[AV.int .i64 ke, AV.int .i64 ne, AV.str se, AV.sl le, AV.sl bd, AV.int .i64 self, AV.bool bad]]) P :=
  gE (fun _ => funM rfl rfl Tryz.func241 rfl) (by kernel_rfl) h
noncomputable abbrev zj24 (q : AV × List (List AV)) (st : Bz) : Option (MV × List (List AV)) := kTmV q.1 fun n n s rows => (some (MV.bool (st == [(116 : UInt8), (114 : UInt8), (117 : UInt8), (101 : UInt8)]), q.2))
theorem qr3 (ke ne : Int) (se : Bz) (le bd : Rz) (self : Int) (bad : Bool) (kt nt : Int) (st : Bz) (lt : Rz) {P : MV × List (List AV) → Prop} (h : Gets (bif kt != 2 then kOpt (EVd (EV cfg) 233 [.ptr 0 0 0] 7 [[.int .i64 ke, .int .i64 ne, .str se, .sl le, .sl bd, .int .i64 self, .bool bad]]) fun q => zj24 q st else bif ! st == [(116 : UInt8), (114 : UInt8), (117 : UInt8), (101 : UInt8)] then bif ! st == [(102 : UInt8), (97 : UInt8), (108 : UInt8), (115 : UInt8), (101 : UInt8)] then kOpt (EVd (EV cfg) 233 [.ptr 0 0 0] 7 [[.int .i64 ke, .int .i64 ne, .str se, .sl le, .sl bd, .int .i64 self, .bool bad]]) fun q => zj24 q st else some (MV.bool (st == [(116 : UInt8), (114 : UInt8), (117 : UInt8), (101 : UInt8)]), [[.int .i64 ke, .int .i64 ne, .str se, .sl le, .sl bd, .int .i64 self, .bool bad]]) else some (MV.bool (st == [(116 : UInt8), (114 : UInt8), (117 : UInt8), (101 : UInt8)]), [[.int .i64 ke, .int .i64 ne, .str se, .sl le, .sl bd, .int .i64 self, .bool bad]])) P) : Gets (EVm (EV cfg) 158 [.ptr 0 0 0, .agg [.int .i64 kt, .int .i64 nt, .str st, .sl lt]] 7 [[AV.int .i64 ke, AV.int .i64 ne, AV.str se, AV.sl le, AV.sl bd, AV.int .i64 self, AV.bool bad]]) P :=
  gE (fun _ => funM rfl rfl Tryz.func158 rfl) (by kernel_rfl) h
noncomputable abbrev zj26 (n n_1 : Int) (s : Bz) (rows : Rz) (ke ne : Int) (se : Bz) (le bd : Rz) (self : Int) (bad : Bool) : Option (AV × List (List AV)) := (some (.agg [.int .i64 n, .int .i64 n_1, .str s, .sl rows], [[.int .i64 ke, .int .i64 ne, .str se, .sl le, .sl bd, .int .i64 self, .bool bad]]))
noncomputable abbrev zj25 (v : AV) (ke ne : Int) (se : Bz) (le bd : Rz) (self : Int) (bad : Bool) : Option (AV × List (List AV)) := kTmV v fun n n_1 s rows => zj26 n n_1 s rows ke ne se le bd self bad
noncomputable abbrev zj34 (n n_1 : Int) (s : Bz) (rows : Rz) (q : MV × List (List AV)) : Option (AV × List (List AV)) := (some (.agg [.int .i64 n, .int .i64 n_1, .str s, .sl rows], q.2))
noncomputable abbrev zj33 (v : AV) (q : MV × List (List AV)) : Option (AV × List (List AV)) := kTmV v fun n n_1 s rows => zj34 n n_1 s rows q
noncomputable abbrev zj32 (b_1 : Bool) (q : MV × List (List AV)) : Option (AV × List (List AV)) := kOpt (EVf (EV cfg) 239 [.bool b_1]) fun v => zj33 v q
noncomputable abbrev zj35 (q : MV × List (List AV)) : Option (AV × List (List AV)) := kOpt (EVf (EV cfg) 239 [.bool false]) fun v => zj33 v q
noncomputable abbrev zj31 (b b_1 : Bool) (q : MV × List (List AV)) : Option (AV × List (List AV)) := bif b then zj32 b_1 q else zj35 q
noncomputable abbrev zj30 (q : MV × List (List AV)) (b : Bool) : Option (AV × List (List AV)) := xr q.1 fun b_1 => zj31 b b_1 q
noncomputable abbrev zj29 (kb nb : Int) (sb : Bz) (lb : Rz) (q : MV × List (List AV)) (b : Bool) : Option (AV × List (List AV)) := kOpt (EVm (EV cfg) 158 [.ptr 0 0 0, .agg [.int .i64 kb, .int .i64 nb, .str sb, .sl lb]] 7 q.2) fun q => zj30 q b
noncomputable abbrev zj28 (q : MV × List (List AV)) (kb nb : Int) (sb : Bz) (lb : Rz) : Option (AV × List (List AV)) := xr q.1 fun b => zj29 kb nb sb lb q b
noncomputable abbrev zj27 (ka na : Int) (sa : Bz) (la : Rz) (ke ne : Int) (se : Bz) (le bd : Rz) (self : Int) (bad : Bool) (kb nb : Int) (sb : Bz) (lb : Rz) : Option (AV × List (List AV)) := kOpt (EVm (EV cfg) 158 [.ptr 0 0 0, .agg [.int .i64 ka, .int .i64 na, .str sa, .sl la]] 7 [[.int .i64 ke, .int .i64 ne, .str se, .sl le, .sl bd, .int .i64 self, .bool bad]]) fun q => zj28 q kb nb sb lb
noncomputable abbrev zj41 (q : MV × List (List AV)) : Option (AV × List (List AV)) := kOpt (EVf (EV cfg) 239 [.bool true]) fun v => zj33 v q
noncomputable abbrev zj40 (b : Bool) (q : MV × List (List AV)) (b_1 : Bool) : Option (AV × List (List AV)) := bif b then zj41 q else zj32 b_1 q
noncomputable abbrev zj39 (q : MV × List (List AV)) (b : Bool) : Option (AV × List (List AV)) := xr q.1 fun b_1 => zj40 b q b_1
noncomputable abbrev zj38 (kb nb : Int) (sb : Bz) (lb : Rz) (q : MV × List (List AV)) (b : Bool) : Option (AV × List (List AV)) := kOpt (EVm (EV cfg) 158 [.ptr 0 0 0, .agg [.int .i64 kb, .int .i64 nb, .str sb, .sl lb]] 7 q.2) fun q => zj39 q b
noncomputable abbrev zj37 (q : MV × List (List AV)) (kb nb : Int) (sb : Bz) (lb : Rz) : Option (AV × List (List AV)) := xr q.1 fun b => zj38 kb nb sb lb q b
noncomputable abbrev zj36 (ka na : Int) (sa : Bz) (la : Rz) (ke ne : Int) (se : Bz) (le bd : Rz) (self : Int) (bad : Bool) (kb nb : Int) (sb : Bz) (lb : Rz) : Option (AV × List (List AV)) := kOpt (EVm (EV cfg) 158 [.ptr 0 0 0, .agg [.int .i64 ka, .int .i64 na, .str sa, .sl la]] 7 [[.int .i64 ke, .int .i64 ne, .str se, .sl le, .sl bd, .int .i64 self, .bool bad]]) fun q => zj37 q kb nb sb lb
noncomputable abbrev zj42 (q : MV × List (List AV)) : Option (AV × List (List AV)) := kOpt (EVd (EV cfg) 233 [.ptr 0 0 0] 7 q.2) fun q => zj2 q
theorem qtl (ke ne : Int) (se : Bz) (le bd : Rz) (self : Int) (bad : Bool) (op : Bz) (ka na : Int) (sa : Bz) (la : Rz) (kb nb : Int) (sb : Bz) (lb : Rz) {P : AV × List (List AV) → Prop} (h : Gets (bif op == [(61 : UInt8), (61 : UInt8)] then kOpt (EVs (EV cfg) 134 [.agg [.int .i64 ka, .int .i64 na, .str sa, .sl la], .agg [.int .i64 kb, .int .i64 nb, .str sb, .sl lb]]) fun v => kInt .i64 v fun n => kOpt (EVf (EV cfg) 239 [.bool (n == 0)]) fun v => zj25 v ke ne se le bd self bad else bif op == [(61 : UInt8), (58 : UInt8), (61 : UInt8)] then kOpt (EVs (EV cfg) 134 [.agg [.int .i64 ka, .int .i64 na, .str sa, .sl la], .agg [.int .i64 kb, .int .i64 nb, .str sb, .sl lb]]) fun v => kInt .i64 v fun n => kOpt (EVf (EV cfg) 239 [.bool (n == 0)]) fun v => zj25 v ke ne se le bd self bad else bif op == [(47 : UInt8), (61 : UInt8)] then kOpt (EVs (EV cfg) 134 [.agg [.int .i64 ka, .int .i64 na, .str sa, .sl la], .agg [.int .i64 kb, .int .i64 nb, .str sb, .sl lb]]) fun v => kInt .i64 v fun n => kOpt (EVf (EV cfg) 239 [.bool (n != 0)]) fun v => zj25 v ke ne se le bd self bad else bif op == [(61 : UInt8), (47 : UInt8), (61 : UInt8)] then kOpt (EVs (EV cfg) 134 [.agg [.int .i64 ka, .int .i64 na, .str sa, .sl la], .agg [.int .i64 kb, .int .i64 nb, .str sb, .sl lb]]) fun v => kInt .i64 v fun n => kOpt (EVf (EV cfg) 239 [.bool (n != 0)]) fun v => zj25 v ke ne se le bd self bad else bif op == [(60 : UInt8)] then kOpt (EVs (EV cfg) 134 [.agg [.int .i64 ka, .int .i64 na, .str sa, .sl la], .agg [.int .i64 kb, .int .i64 nb, .str sb, .sl lb]]) fun v => kInt .i64 v fun n => kOpt (EVf (EV cfg) 239 [.bool (decide (n < 0))]) fun v => zj25 v ke ne se le bd self bad else bif op == [(61 : UInt8), (60 : UInt8)] then kOpt (EVs (EV cfg) 134 [.agg [.int .i64 ka, .int .i64 na, .str sa, .sl la], .agg [.int .i64 kb, .int .i64 nb, .str sb, .sl lb]]) fun v => kInt .i64 v fun n => kOpt (EVf (EV cfg) 239 [.bool (decide (n ≤ 0))]) fun v => zj25 v ke ne se le bd self bad else bif op == [(62 : UInt8)] then kOpt (EVs (EV cfg) 134 [.agg [.int .i64 ka, .int .i64 na, .str sa, .sl la], .agg [.int .i64 kb, .int .i64 nb, .str sb, .sl lb]]) fun v => kInt .i64 v fun n => kOpt (EVf (EV cfg) 239 [.bool (decide (n > 0))]) fun v => zj25 v ke ne se le bd self bad else bif op == [(62 : UInt8), (61 : UInt8)] then kOpt (EVs (EV cfg) 134 [.agg [.int .i64 ka, .int .i64 na, .str sa, .sl la], .agg [.int .i64 kb, .int .i64 nb, .str sb, .sl lb]]) fun v => kInt .i64 v fun n => kOpt (EVf (EV cfg) 239 [.bool (decide (n ≥ 0))]) fun v => zj25 v ke ne se le bd self bad else bif op == [(97 : UInt8), (110 : UInt8), (100 : UInt8)] then zj27 ka na sa la ke ne se le bd self bad kb nb sb lb else bif op == [(97 : UInt8), (110 : UInt8), (100 : UInt8), (97 : UInt8), (108 : UInt8), (115 : UInt8), (111 : UInt8)] then zj27 ka na sa la ke ne se le bd self bad kb nb sb lb else bif op == [(111 : UInt8), (114 : UInt8)] then zj36 ka na sa la ke ne se le bd self bad kb nb sb lb else bif op == [(111 : UInt8), (114 : UInt8), (101 : UInt8), (108 : UInt8), (115 : UInt8), (101 : UInt8)] then zj36 ka na sa la ke ne se le bd self bad kb nb sb lb else bif op == [(120 : UInt8), (111 : UInt8), (114 : UInt8)] then kOpt (EVm (EV cfg) 158 [.ptr 0 0 0, .agg [.int .i64 ka, .int .i64 na, .str sa, .sl la]] 7 [[.int .i64 ke, .int .i64 ne, .str se, .sl le, .sl bd, .int .i64 self, .bool bad]]) fun q => xr q.1 fun b => kOpt (EVm (EV cfg) 158 [.ptr 0 0 0, .agg [.int .i64 kb, .int .i64 nb, .str sb, .sl lb]] 7 q.2) fun q => xr q.1 fun b_1 => kOpt (EVf (EV cfg) 239 [.bool ! b == b_1]) fun v => zj33 v q else bif op == [(101 : UInt8), (108 : UInt8), (101 : UInt8), (109 : UInt8), (101 : UInt8), (110 : UInt8), (116 : UInt8)] then kOpt (EVm (EV cfg) 241 [.ptr 0 0 0, .agg [.int .i64 ka, .int .i64 na, .str sa, .sl la]] 7 [[.int .i64 ke, .int .i64 ne, .str se, .sl le, .sl bd, .int .i64 self, .bool bad]]) fun q => z8 .i64 q.1 fun n => bif decide (n ≥ 1) then bif kb == 7 then bif decide (n ≤ (↑ (qyH lb) : Int)) then bif qh 0 (IntKind.wrap .i64 (n - 1)) && qg (IntKind.wrap .i64 (n - 1)) (lb.length : Int) then kOpt (qyG lb (qyY (IntKind.wrap .i64 (n - 1)))) fun row => bif qyW (qyH row) 4 then bif qyQ 4 (qyH row) then kTmC (qyM 4 row) fun n n_1 s rows => zj34 n n_1 s rows q else none else none else none else zj42 q else zj42 q else zj42 q else kOpt (EVm (EV cfg) 241 [.ptr 0 0 0, .agg [.int .i64 ka, .int .i64 na, .str sa, .sl la]] 7 [[.int .i64 ke, .int .i64 ne, .str se, .sl le, .sl bd, .int .i64 self, .bool bad]]) fun q => z8 .i64 q.1 fun n => kOpt (EVm (EV cfg) 241 [.ptr 0 0 0, .agg [.int .i64 kb, .int .i64 nb, .str sb, .sl lb]] 7 q.2) fun q => z8 .i64 q.1 fun n_1 => kOpt (EVd (EV cfg) 243 [.ptr 0 0 0, .str op, .int .i64 n, .int .i64 n_1] 7 q.2) fun q => zj2 q) P) : Gets (EVd (EV cfg) 173 [.ptr 0 0 0, .str op, .agg [.int .i64 ka, .int .i64 na, .str sa, .sl la], .agg [.int .i64 kb, .int .i64 nb, .str sb, .sl lb]] 7 [[AV.int .i64 ke, AV.int .i64 ne, AV.str se, AV.sl le, AV.sl bd, AV.int .i64 self, AV.bool bad]]) P :=
  gE (fun _ => funD rfl rfl Tryz.func173 rfl) (by kernel_rfl) h
noncomputable abbrev zj43 (n : Int) (q : MV × List (List AV)) : Option (AV × List (List AV)) := kOpt (EVd (EV cfg) 240 [.ptr 0 0 0, .int .i64 n] 7 q.2) fun q => zj2 q
noncomputable abbrev zj45 (lt : Rz) (ke ne : Int) (se : Bz) (le bd : Rz) (self : Int) (bad : Bool) : Option (AV × List (List AV)) := kOpt (EVd (EV cfg) 240 [.ptr 0 0 0, .int .i64 (↑ (qyH lt) : Int)] 7 [[.int .i64 ke, .int .i64 ne, .str se, .sl le, .sl bd, .int .i64 self, .bool bad]]) fun q => zj2 q
noncomputable abbrev zj44 (kt ke ne : Int) (se : Bz) (le bd : Rz) (self : Int) (bad : Bool) (lt : Rz) : Option (AV × List (List AV)) := bif kt != (7 : Int) then zj1 ke ne se le bd self bad else zj45 lt ke ne se le bd self bad
theorem qtm (ke ne : Int) (se : Bz) (le bd : Rz) (self : Int) (bad : Bool) (op : Bz) (kt nt : Int) (st : Bz) (lt : Rz) {P : AV × List (List AV) → Prop} (h : Gets (bif op == [(105 : UInt8), (115 : UInt8), (95 : UInt8), (97 : UInt8), (116 : UInt8), (111 : UInt8), (109 : UInt8)] then kOpt (EVf (EV cfg) 239 [.bool (kt == 2)]) fun v => zj25 v ke ne se le bd self bad else bif op == [(105 : UInt8), (115 : UInt8), (95 : UInt8), (105 : UInt8), (110 : UInt8), (116 : UInt8), (101 : UInt8), (103 : UInt8), (101 : UInt8), (114 : UInt8)] then kOpt (EVf (EV cfg) 239 [.bool (kt == 1)]) fun v => zj25 v ke ne se le bd self bad else bif op == [(105 : UInt8), (115 : UInt8), (95 : UInt8), (108 : UInt8), (105 : UInt8), (115 : UInt8), (116 : UInt8)] then bif kt == 9 then kOpt (EVf (EV cfg) 239 [.bool true]) fun v => zj25 v ke ne se le bd self bad else kOpt (EVf (EV cfg) 239 [.bool (kt == 8)]) fun v => zj25 v ke ne se le bd self bad else bif op == [(105 : UInt8), (115 : UInt8), (95 : UInt8), (116 : UInt8), (117 : UInt8), (112 : UInt8), (108 : UInt8), (101 : UInt8)] then kOpt (EVf (EV cfg) 239 [.bool (kt == 7)]) fun v => zj25 v ke ne se le bd self bad else bif op == [(105 : UInt8), (115 : UInt8), (95 : UInt8), (112 : UInt8), (105 : UInt8), (100 : UInt8)] then kOpt (EVf (EV cfg) 239 [.bool (kt == 6)]) fun v => zj25 v ke ne se le bd self bad else bif op == [(105 : UInt8), (115 : UInt8), (95 : UInt8), (102 : UInt8), (117 : UInt8), (110 : UInt8), (99 : UInt8), (116 : UInt8), (105 : UInt8), (111 : UInt8), (110 : UInt8)] then kOpt (EVf (EV cfg) 239 [.bool (kt == 5)]) fun v => zj25 v ke ne se le bd self bad else bif op == [(105 : UInt8), (115 : UInt8), (95 : UInt8), (114 : UInt8), (101 : UInt8), (102 : UInt8), (101 : UInt8), (114 : UInt8), (101 : UInt8), (110 : UInt8), (99 : UInt8), (101 : UInt8)] then bif kt == 3 then kOpt (EVf (EV cfg) 239 [.bool true]) fun v => zj25 v ke ne se le bd self bad else kOpt (EVf (EV cfg) 239 [.bool (kt == 4)]) fun v => zj25 v ke ne se le bd self bad else bif op == [(110 : UInt8), (111 : UInt8), (116 : UInt8)] then kOpt (EVm (EV cfg) 158 [.ptr 0 0 0, .agg [.int .i64 kt, .int .i64 nt, .str st, .sl lt]] 7 [[.int .i64 ke, .int .i64 ne, .str se, .sl le, .sl bd, .int .i64 self, .bool bad]]) fun q => xr q.1 fun b => kOpt (EVf (EV cfg) 239 [.bool ! b]) fun v => zj33 v q else bif op == [(98 : UInt8), (110 : UInt8), (111 : UInt8), (116 : UInt8)] then kOpt (EVm (EV cfg) 241 [.ptr 0 0 0, .agg [.int .i64 kt, .int .i64 nt, .str st, .sl lt]] 7 [[.int .i64 ke, .int .i64 ne, .str se, .sl le, .sl bd, .int .i64 self, .bool bad]]) fun q => z8 .i64 q.1 fun n => kOpt (qA (Op.intBits BinOp.xor .i64 (- 1) n)) fun v => kInt .i64 v fun n => zj43 n q else bif op == [(43 : UInt8)] then kOpt (EVm (EV cfg) 241 [.ptr 0 0 0, .agg [.int .i64 kt, .int .i64 nt, .str st, .sl lt]] 7 [[.int .i64 ke, .int .i64 ne, .str se, .sl le, .sl bd, .int .i64 self, .bool bad]]) fun q => z8 .i64 q.1 fun n => zj43 n q else bif op == [(45 : UInt8)] then kOpt (EVm (EV cfg) 241 [.ptr 0 0 0, .agg [.int .i64 kt, .int .i64 nt, .str st, .sl lt]] 7 [[.int .i64 ke, .int .i64 ne, .str se, .sl le, .sl bd, .int .i64 self, .bool bad]]) fun q => z8 .i64 q.1 fun n => kOpt (EVd (EV cfg) 240 [.ptr 0 0 0, .int .i64 (IntKind.wrap .i64 (0 - n))] 7 q.2) fun q => zj2 q else bif op == [(97 : UInt8), (98 : UInt8), (115 : UInt8)] then kOpt (EVm (EV cfg) 241 [.ptr 0 0 0, .agg [.int .i64 kt, .int .i64 nt, .str st, .sl lt]] 7 [[.int .i64 ke, .int .i64 ne, .str se, .sl le, .sl bd, .int .i64 self, .bool bad]]) fun q => z8 .i64 q.1 fun n => kOpt (EVd (EV cfg) 240 [.ptr 0 0 0, .int .i64 (if (fun b a => decide (a < b)) (IntKind.wrap .i64 (0 - nt)) n = true then IntKind.wrap .i64 (0 - nt) else n)] 7 q.2) fun q => zj2 q else bif op == [(116 : UInt8), (117 : UInt8), (112 : UInt8), (108 : UInt8), (101 : UInt8), (95 : UInt8), (115 : UInt8), (105 : UInt8), (122 : UInt8), (101 : UInt8)] then zj44 kt ke ne se le bd self bad lt else bif op == [(115 : UInt8), (105 : UInt8), (122 : UInt8), (101 : UInt8)] then zj44 kt ke ne se le bd self bad lt else kOpt (EVd (EV cfg) 242 [.ptr 0 0 0, .str op, .agg [.int .i64 kt, .int .i64 nt, .str st, .sl lt]] 7 [[.int .i64 ke, .int .i64 ne, .str se, .sl le, .sl bd, .int .i64 self, .bool bad]]) fun q => zj2 q) P) : Gets (EVd (EV cfg) 172 [.ptr 0 0 0, .str op, .agg [.int .i64 kt, .int .i64 nt, .str st, .sl lt]] 7 [[AV.int .i64 ke, AV.int .i64 ne, AV.str se, AV.sl le, AV.sl bd, AV.int .i64 self, AV.bool bad]]) P :=
  gE (fun _ => funD rfl rfl Tryz.func172 rfl) (by kernel_rfl) h
theorem qqv (ke ne : Int) (se : Bz) (le bd : Rz) (self : Int) (bad : Bool) (op : Bz) (L : Rz) {P : AV × List (List AV) → Prop} (h : Gets (bif (L.length : Int) == 1 then bif qg 0 (L.length : Int) then kOpt (qyG L 0) fun row => bif qyW (qyH row) 4 then bif qyQ 4 (qyH row) then kTmC (qyM 4 row) fun n n_1 s rows => (kOpt (EVd (EV cfg) 172 [.ptr 0 0 0, .str op, .agg [.int .i64 n, .int .i64 n_1, .str s, .sl rows]] 7 [[.int .i64 ke, .int .i64 ne, .str se, .sl le, .sl bd, .int .i64 self, .bool bad]]) fun q => kTmV q.1 fun n n_2 s rows => (some (.agg [.int .i64 n, .int .i64 n_2, .str s, .sl rows], q.2))) else none else none else none else bif (L.length : Int) == 2 then bif qg 0 (L.length : Int) then kOpt (qyG L 0) fun row => bif qyW (qyH row) 4 then bif qyQ 4 (qyH row) then kTmC (qyM 4 row) fun n n_1 s rows => (bif qg 1 (L.length : Int) then kOpt (qyG L 1) fun row => bif qyW (qyH row) 4 then bif qyQ 4 (qyH row) then kTmC (qyM 4 row) fun n_2 n_3 s_1 rows_1 => (kOpt (EVd (EV cfg) 173 [.ptr 0 0 0, .str op, .agg [.int .i64 n, .int .i64 n_1, .str s, .sl rows], .agg [.int .i64 n_2, .int .i64 n_3, .str s_1, .sl rows_1]] 7 [[.int .i64 ke, .int .i64 ne, .str se, .sl le, .sl bd, .int .i64 self, .bool bad]]) fun q => kTmV q.1 fun n n_4 s rows => (some (.agg [.int .i64 n, .int .i64 n_4, .str s, .sl rows], q.2))) else none else none else none) else none else none else none else some (.agg [.int .i64 6, .int .i64 self, .str [], .sl []], [[.int .i64 ke, .int .i64 ne, .str se, .sl le, .sl bd, .int .i64 self, .bool bad]])) P) : Gets (EVd (EV cfg) 92 [.ptr 0 0 0, .str op, .sl L] 7 [[AV.int .i64 ke, AV.int .i64 ne, AV.str se, AV.sl le, AV.sl bd, AV.int .i64 self, AV.bool bad]]) P :=
  gE (fun _ => funD rfl rfl Tryz.func92 rfl) (by kernel_rfl) h
theorem qgs (A : Rz) (n v8 : Int) {P : AV → Prop} (h : Gets (bif decide (v8 < (A.length : Int)) then bif qh 0 v8 && qg v8 (A.length : Int) then kOpt (qyG A (v8.toNat)) fun row => bif qyW (qyH row) 1 then kOpt (qyG row 0) fun v => kInt .i64 v fun n_1 => bif n == n_1 then some (.int .i64 v8) else qhV A n (IntKind.wrap .i64 (v8 + 1)) else none else none else some (.int .i64 (- 1))) P) : Gets (qhV A n v8) P :=
  gE (fun _ => qn (cfg := cfg) (f := 168) (rd := none) (bs := 0)) (by kernel_rfl) h
theorem xK (e : Env) (b : Bool) : EVd (EV cfg) 233 [.ptr 0 0 0] 7 (mR e b) = some (qX.av, mR e true) := by
 apply Gets.get
 refine qqt _ _ _ _ _ _ _ ?_
 rw [vq]
 simp
theorem qiC (e : Env) (b : Bool) (n : Int) : EVd (EV cfg) 240 [.ptr 0 0 0, .int .i64 n] 7 (mR e b) = some (if InB n then ((numT n).av, mR e b) else (qX.av, mR e true)) := by
 have hr := xK e b
 apply Gets.get
 refine qop _ _ _ _ _ _ _ _ ?_
 unfold zj1 zj2 zj3
 simp only [hr]
 unfold InB
 rw [qfM]
 by_cases h1 : n < -576460752303423488
 ·have : ¬ (-576460752303423488 ≤ n ∧ n ≤ 576460752303423487) := by omega
  simp [h1, this]
 ·by_cases h2 : n > 576460752303423487
  ·have : ¬ (-576460752303423488 ≤ n ∧ n ≤ 576460752303423487) := by omega
   simp [h1, h2, this]
  ·have : (-576460752303423488 ≤ n ∧ n ≤ 576460752303423487) := by omega
   simp [h1, h2, this]
theorem yA (e : Env) (n : Int) {P : AV × List (List AV) → Prop} (h : ∀ r, Res e (qK n) r → (∃ t : Tm, r.1 = t.av) → P r) : Gets (EVd (EV cfg) 240 [.ptr 0 0 0, .int .i64 n] 7 (mR e false)) P := by
 rw [qiC]
 refine ⟨_, rfl, h _ ?_ ?_⟩
 ·unfold qK Res
  by_cases hb : InB n
  ·simp [hb]
  ·simp [hb]; exact ⟨_, rfl⟩
 ·by_cases hb : InB n
  ·exact ⟨numT n, by simp [hb]⟩
  ·exact ⟨qX, by simp [hb]⟩
theorem qeS (e : Env) (op : List UInt8) (a b : Int) : EVd (EV cfg) 243 [.ptr 0 0 0, .str op, .int .i64 a, .int .i64 b] 7 (mR e true) = some (qX.av, mR e true) := by
 apply Gets.get
 refine qeR _ _ _ _ _ _ _ _ _ _ ?_
 unfold zj22 zj23 zj1 zj2 zj3
 rw [vq]; simp
def xb : Prop := ∀ (e : Env) (a b : Int), InB a → InB b → Gets (EVd (EV cfg) 294 [.ptr 0 0 0, .int .i64 a, .int .i64 b] 7 (mR e false)) (Res e (qK (a * b)))
theorem yx {e : Env} {o : Option Tm} {r : AV × List (List AV)} (h : Res e o r) (ht : ∃ t : Tm, r.1 = t.av) : Gets (kTmV r.1 fun (n n_1 : Int) (s : List UInt8) (rows : List (List AV)) => some (AV.agg [.int .i64 n, .int .i64 n_1, .str s, .sl rows], r.2)) (Res e o) := by
 obtain ⟨t, ht⟩ := ht
 rw [ht, qE]
 refine ⟨_, rfl, ?_⟩
 have : (AV.agg [.int .i64 t.kind, .int .i64 t.num, .str t.str, .sl (qb t.subs)], r.2) = r := by
  rw [← Tm.cells_eq]; exact Prod.ext ht.symm rfl
 rw [this]; exact h
theorem zk {e : Env} {o : Option Tm} {r : AV × List (List AV)} (h : Res e o r) : ∃ t : Tm, r.1 = t.av := by
 unfold Res at h
 split at h
 ·exact ⟨_, by rw [h]⟩
 ·exact h.2
theorem qoo (e : Env) (op : List UInt8) {a b : Int} (ha : InB a) (hb : InB b) (hp : op = [42] → xb) : Gets (EVd (EV cfg) 243 [.ptr 0 0 0, .str op, .int .i64 a, .int .i64 b] 7 (mR e false)) (Res e (xF op a b)) := by
 have num : ∀ n, Gets (kOpt (EVd (EV cfg) 240 [.ptr 0 0 0, .int .i64 n] 7 (mR e false)) fun q => kTmV q.1 fun (n n_1 : Int) (s : List UInt8) (rows : List (List AV)) => some (AV.agg [.int .i64 n, .int .i64 n_1, .str s, .sl rows], q.2)) (Res e (qK n)) :=
  fun n => Gets.bind (yA e n fun r h1 h2 => h1) fun r h => yx h (zk h)
 refine qeR _ _ _ _ _ _ _ _ _ _ ?_
 unfold zj22 zj23 zj1 zj2 zj3
 have ha' := ha
 have hb' := hb
 obtain ⟨a1, a2⟩ := ha
 obtain ⟨b1, b2⟩ := hb
 simp only [beqS, beqD, cond_false]
 unfold xF
 by_cases h1 : op = [43]
 ·rw [if_pos h1, decide_eq_true h1, cond_true, qM (by omega) (by omega)]; exact num _
 rw [if_neg h1, decide_eq_false h1, cond_false]
 by_cases h2 : op = [45]
 ·rw [if_pos h2, decide_eq_true h2, cond_true, qM (by omega) (by omega)]; exact num _
 rw [if_neg h2, decide_eq_false h2, cond_false]
 by_cases h3 : op = [42]
 ·rw [if_pos h3, decide_eq_true h3, cond_true]
  exact Gets.bind (hp h3 e a b ha' hb') fun r h => yx h (zk h)
 rw [if_neg h3, decide_eq_false h3, cond_false]
 by_cases h4 : op = [98, 97, 110, 100]
 ·rw [if_pos h4, decide_eq_true h4, cond_true, qpn ha' hb']; simp only [qc, qm]; exact num _
 rw [if_neg h4, decide_eq_false h4, cond_false]
 by_cases h5 : op = [98, 111, 114]
 ·rw [if_pos h5, decide_eq_true h5, cond_true, qsu ha' hb']; simp only [qc, qm]; exact num _
 rw [if_neg h5, decide_eq_false h5, cond_false]
 by_cases h6 : op = [98, 120, 111, 114]
 ·rw [if_pos h6, decide_eq_true h6, cond_true, qpm ha' hb']; simp only [qc, qm]; exact num _
 rw [if_neg h6, decide_eq_false h6, cond_false]
 by_cases h7 : b = 0
 ·rw [if_pos h7, decide_eq_true h7, cond_true, xK]
  simp only [qc, qE]
  exact ⟨_, rfl, rfl, qX, by rw [Tm.av, Tm.cells_eq]⟩
 rw [if_neg h7, decide_eq_false h7, cond_false, xY h7, qiX h7]
 by_cases h8 : op = [100, 105, 118]
 ·have := qlO (a := a) h7
  rw [if_pos h8, decide_eq_true h8, cond_true, qM (by omega) (by omega)]; simp only [qc, qm]; exact num _
 ·rw [if_neg h8, decide_eq_false h8, cond_false]; simp only [qc, qm]; exact num _
noncomputable def qxv : Den := evC cfg (EV cfg) 219 none 0 (sub (qe Tryz.f219) [1, 1, 0, 1, 0, 0])
noncomputable def qyd : Ex × List AV × AH → Option AV := kAft (Cfg.keepOut cfg 219 3) (kRun cfg (EV cfg) (kfN cfg 6) 219 none 0 (vX cfg (Cfg.lift cfg 219 0) Tryz.f219.results.toList) ([.block 0, .seq (sub (qe Tryz.f219) [1, 1, 1])]))
noncomputable def qsD : List AV × AH → Option AV := fun p => kOpt (LOOP 0 (some [3, 6, 7, 8]) ([]) qxv p) qyd
noncomputable def qxt : Den := evC cfg (EV cfg) 150 none 0 (sub (qe Tryz.f150) [1, 0, 1, 0, 0])
noncomputable def qyb : Ex × List AV × AH → Option AV := kAft (Cfg.keepOut cfg 150 2) (kRun cfg (EV cfg) (kfN cfg 6) 150 none 0 (vX cfg (Cfg.lift cfg 150 0) Tryz.f150.results.toList) ([.block 0, .seq (sub (qe Tryz.f150) [1, 1])]))
noncomputable def qwU : List AV × AH → Option AV := fun p => kOpt (LOOP 0 (some [0, 1, 2, 11, 12, 13]) ([]) qxt p) qyb
noncomputable def qxz : Den := evC cfg (EV cfg) 134 none 0 (sub (qe Tryz.f134) [1, 0, 1, 0, 0])
noncomputable def qyh : Ex × List AV × AH → Option AV := kAft (Cfg.keepOut cfg 134 1) (kRun cfg (EV cfg) (kfN cfg 6) 134 none 0 (vX cfg (Cfg.lift cfg 134 0) Tryz.f134.results.toList) ([.block 0, .scope]))
noncomputable def qw0 : List AV × AH → Option AV := fun p => kOpt (LOOP 0 (some [2, 3]) ([]) qxz p) qyh
noncomputable abbrev qcI (a b c v8 : Int) : Option (AV) := qsD  (((fx 18 [(3, .int .i64 (0 : Int)), (6, .sl [[.int .i64 a], [.int .i64 b], [.int .i64 c]]), (7, .int .i64 (3 : Int)), (8, .int .i64 v8)]) : List AV), ([] : AH))
noncomputable abbrev qcH (a b v8 : Int) : Option (AV) := qsD  (((fx 18 [(3, .int .i64 (0 : Int)), (6, .sl [[.int .i64 a], [.int .i64 b]]), (7, .int .i64 (2 : Int)), (8, .int .i64 v8)]) : List AV), ([] : AH))
noncomputable abbrev qhK (A B : Rz) (v13 : Int) : Option (AV) := qwU  (((fx 39 [(0, .sl A), (1, .sl B), (2, .fn (Fn.func 134) [] []), (11, .sl A), (12, .int .i64 (A.length : Int)), (13, .int .i64 v13)]) : List AV), ([] : AH))
noncomputable abbrev qhO (c0_0 c0_1 : Int) (c0_2 : Bz) (c0_3 : Rz) (c1_0 c1_1 : Int) (c1_2 : Bz) (c1_3 : Rz) : Option (AV) := qw0  (((fx 117 [(2, .ptr 0 0 0), (3, .ptr 1 0 0)]) : List AV), ([.rows false 4 [[.int .i64 c0_0, .int .i64 c0_1, .str c0_2, .sl c0_3]], .rows false 4 [[.int .i64 c1_0, .int .i64 c1_1, .str c1_2, .sl c1_3]]] : AH))
theorem qtO (a b : Int) {P : AV → Prop} (h : Gets (kOpt (EVs (EV cfg) 226 [.int .i64 a]) fun v => qf v fun b_1 => kOpt (EVs (EV cfg) 226 [.int .i64 b]) fun v => qf v fun b_2 => bif b_1 then bif b_2 then some (.int .i64 0) else some (.int .i64 (- 1)) else bif b_2 then some (.int .i64 1) else bif decide (a < b) then some (.int .i64 (- 1)) else bif decide (a > b) then some (.int .i64 1) else some (.int .i64 0)) P) : Gets (EVs (EV cfg) 149 [.int .i64 a, .int .i64 b]) P :=
  gE (fun _ => funS rfl rfl Tryz.func149 rfl) (by kernel_rfl) h
theorem qsr (a b : Bz) {P : AV → Prop} (h : Gets (kOpt (EVs (EV cfg) 287 [.str a, .str b]) fun v => kInt .i64 v fun n => some (.int .i64 n)) P) : Gets (EVs (EV cfg) 218 [.str a, .str b]) P :=
  gE (fun _ => funS rfl rfl Tryz.func218 rfl) (by kernel_rfl) h
theorem qva (a b c : Int) {P : AV → Prop} (h : Gets (qcI a b c 0) P) : Gets (EVs (EV cfg) 219 [.sl [[.int .i64 a], [.int .i64 b], [.int .i64 c]]]) P :=
  gE (fun _ => funS rfl rfl Tryz.func219 rfl) (by kernel_rfl) h
theorem qvb (a b : Int) {P : AV → Prop} (h : Gets (qcH a b 0) P) : Gets (EVs (EV cfg) 219 [.sl [[.int .i64 a], [.int .i64 b]]]) P :=
  gE (fun _ => funS rfl rfl Tryz.func219 rfl) (by kernel_rfl) h
theorem qoP (A B : Rz) {P : AV → Prop} (h : Gets (qhK A B 0) P) : Gets (EVs (EV cfg) 150 [.sl A, .sl B, .fn (Fn.func 134) [] []]) P :=
  gE (fun _ => funS rfl rfl Tryz.func150 rfl) (by kernel_rfl) h
theorem qqS (a : Int) {P : AV → Prop} (h : Gets (some (.bool (a != a))) P) : Gets (EVs (EV cfg) 226 [.int .i64 a]) P :=
  gE (fun _ => funS rfl rfl Tryz.func226 rfl) (by kernel_rfl) h
theorem qq9 (a b : Bz) {P : AV → Prop} (h : Gets (kOpt (EVs (EV cfg) 308 [.str a, .str b]) fun v => kInt .i64 v fun n => some (.int .i64 n)) P) : Gets (EVs (EV cfg) 287 [.str a, .str b]) P :=
  gE (fun _ => funS rfl rfl Tryz.func287 rfl) (by kernel_rfl) h
theorem qis (A B : Rz) {P : AV → Prop} (h : Gets (kOpt (EVs (EV cfg) 150 [.sl A, .sl B, AV.fn (Fn.func 134) [] []]) fun v => kInt .i64 v fun n => some (.int .i64 n)) P) : Gets (EVs (EV cfg) 220 [.sl A, .sl B]) P :=
  gE (fun _ => funS rfl rfl Tryz.func220 rfl) (by kernel_rfl) h
theorem qeM (ka na : Int) (sa : Bz) (la : Rz) (kb nb : Int) (sb : Bz) (lb : Rz) {P : AV → Prop} (h : Gets (qhO ka na sa la kb nb sb lb) P) : Gets (EVs (EV cfg) 134 [.agg [.int .i64 ka, .int .i64 na, .str sa, .sl la], .agg [.int .i64 kb, .int .i64 nb, .str sb, .sl lb]]) P :=
  gE (fun _ => funS rfl rfl Tryz.func134 rfl) (by kernel_rfl) h
theorem qax (a b c v8 : Int) {P : AV → Prop} (h : Gets (bif decide (v8 < 3) then bif qh 0 v8 && qg v8 (↑ 3 : Int) then kOpt (qyG [[.int .i64 a], [.int .i64 b], [.int .i64 c]] (v8.toNat)) fun row => bif qyW (qyH row) 1 then kOpt (qyG row 0) fun v => kInt .i64 v fun n => bif n != 0 then some (.int .i64 n) else qcI a b c (IntKind.wrap .i64 (v8 + 1)) else none else none else some (.int .i64 0)) P) : Gets (qcI a b c v8) P :=
  gE (fun _ => qn (cfg := cfg) (f := 219) (rd := none) (bs := 0)) (by kernel_rfl) h
theorem qbv (a b v8 : Int) {P : AV → Prop} (h : Gets (bif decide (v8 < 2) then bif qh 0 v8 && qg v8 (↑ 2 : Int) then kOpt (qyG [[.int .i64 a], [.int .i64 b]] (v8.toNat)) fun row => bif qyW (qyH row) 1 then kOpt (qyG row 0) fun v => kInt .i64 v fun n => bif n != 0 then some (.int .i64 n) else qcH a b (IntKind.wrap .i64 (v8 + 1)) else none else none else some (.int .i64 0)) P) : Gets (qcH a b v8) P :=
  gE (fun _ => qn (cfg := cfg) (f := 219) (rd := none) (bs := 0)) (by kernel_rfl) h
theorem qgi (A B : Rz) (v13 : Int) {P : AV → Prop} (h : Gets (bif decide (v13 < (A.length : Int)) then bif qh 0 v13 && qg v13 (A.length : Int) then kOpt (qyG A (v13.toNat)) fun row => bif qyW (qyH row) 4 then bif qyQ 4 (qyH row) then kTmC (qyM 4 row) fun n n_1 s rows => (bif decide (v13 ≥ (↑ (qyH B) : Int)) then some (.int .i64 1) else bif qh 0 v13 && qg v13 (B.length : Int) then kOpt (qyG B (v13.toNat)) fun row => bif qyW (qyH row) 4 then bif qyQ 4 (qyH row) then kTmC (qyM 4 row) fun n_2 n_3 s_1 rows_1 => (kOpt (EVs (EV cfg) 134 [.agg [.int .i64 n, .int .i64 n_1, .str s, .sl rows], .agg [.int .i64 n_2, .int .i64 n_3, .str s_1, .sl rows_1]]) fun v => kInt .i64 v fun n => bif n != 0 then some (.int .i64 n) else qhK A B (IntKind.wrap .i64 (v13 + 1))) else none else none else none) else none else none else none else bif decide ((A.length : Int) < (B.length : Int)) then some (.int .i64 (- 1)) else some (.int .i64 0)) P) : Gets (qhK A B v13) P :=
  gE (fun _ => qn (cfg := cfg) (f := 150) (rd := none) (bs := 0)) (by kernel_rfl) h
noncomputable abbrev zk0 (c0_1 c1_1 : Int) : Option (AV) := kOpt (EVs (EV cfg) 149 [.int .i64 c0_1, .int .i64 c1_1]) fun v => kInt .i64 v fun n => some (.int .i64 n)
noncomputable abbrev zk5 (n n_1 : Int) : Option (AV) := kOpt (EVs (EV cfg) 219 [.sl [[.int .i64 n], [.int .i64 n_1]]]) fun v => kInt .i64 v fun n => some (.int .i64 n)
noncomputable abbrev zk4 (v : AV) (n : Int) : Option (AV) := kInt .i64 v fun n_1 => zk5 n n_1
noncomputable abbrev zk3 (c0_3 c1_3 : Rz) (n : Int) : Option (AV) := kOpt (EVs (EV cfg) 220 [.sl c0_3, .sl c1_3]) fun v => zk4 v n
noncomputable abbrev zk2 (v : AV) (c0_3 c1_3 : Rz) : Option (AV) := kInt .i64 v fun n => zk3 c0_3 c1_3 n
noncomputable abbrev zk1 (c0_3 c1_3 : Rz) : Option (AV) := kOpt (EVs (EV cfg) 149 [.int .i64 (c0_3.length : Int), .int .i64 (↑ (qyH c1_3) : Int)]) fun v => zk2 v c0_3 c1_3
theorem qns (c0_0 c0_1 : Int) (c0_2 : Bz) (c0_3 : Rz) (c1_0 c1_1 : Int) (c1_2 : Bz) (c1_3 : Rz) {P : AV → Prop} (h : Gets (kOpt (EVs (EV cfg) 149 [.int .i64 c0_0, .int .i64 c1_0]) fun v => kInt .i64 v fun n => bif n != 0 then some (.int .i64 n) else bif c0_0 == 1 then zk0 c0_1 c1_1 else bif c0_0 == 3 then zk0 c0_1 c1_1 else bif c0_0 == 4 then zk0 c0_1 c1_1 else bif c0_0 == 6 then zk0 c0_1 c1_1 else bif c0_0 == 2 then kOpt (EVs (EV cfg) 218 [.str c0_2, .str c1_2]) fun v => kInt .i64 v fun n => some (.int .i64 n) else bif c0_0 == 5 then kOpt (EVs (EV cfg) 149 [.int .i64 c0_1, .int .i64 c1_1]) fun v => kInt .i64 v fun n => kOpt (EVs (EV cfg) 149 [.int .i64 (c0_3.length : Int), .int .i64 (c1_3.length : Int)]) fun v => kInt .i64 v fun n_1 => kOpt (EVs (EV cfg) 220 [.sl c0_3, .sl c1_3]) fun v => kInt .i64 v fun n_2 => kOpt (EVs (EV cfg) 219 [.sl [[.int .i64 n], [.int .i64 n_1], [.int .i64 n_2]]]) fun v => kInt .i64 v fun n => some (.int .i64 n) else bif c0_0 == 9 then bif (↑ (qyH c0_3) : Int) == 2 then bif (c1_3.length : Int) == 2 then bif qg 0 (c0_3.length : Int) then kOpt (qyG c0_3 0) fun row => bif qyW (qyH row) 4 then bif qyQ 4 (qyH row) then kTmC (qyM 4 row) fun n n_1 s rows => (bif qg (0 : Int) (c1_3.length : Int) then kOpt (qyG c1_3 0) fun row => bif qyW (qyH row) 4 then bif qyQ 4 (qyH row) then kTmC (qyM 4 row) fun n_2 n_3 s_1 rows_1 => (kOpt (EVs (EV cfg) 134 [.agg [.int .i64 n, .int .i64 n_1, .str s, .sl rows], .agg [.int .i64 n_2, .int .i64 n_3, .str s_1, .sl rows_1]]) fun v => kInt .i64 v fun n => bif n != 0 then some (.int .i64 n) else bif qg 1 (c0_3.length : Int) then kOpt (qyG c0_3 1) fun row => bif qyW (qyH row) 4 then bif qyQ 4 (qyH row) then kTmC (qyM 4 row) fun n n_4 s rows => (bif qg 1 (c1_3.length : Int) then kOpt (qyG c1_3 1) fun row => bif qyW (qyH row) 4 then bif qyQ 4 (qyH row) then kTmC (qyM 4 row) fun n_5 n_6 s_2 rows_2 => (qhO n n_4 s rows n_5 n_6 s_2 rows_2) else none else none else none) else none else none else none) else none else none else none) else none else none else none else zk1 c0_3 c1_3 else zk1 c0_3 c1_3 else bif c0_0 == 7 then kOpt (EVs (EV cfg) 149 [.int .i64 (c0_3.length : Int), .int .i64 (c1_3.length : Int)]) fun v => zk2 v c0_3 c1_3 else some (.int .i64 0)) P) : Gets (qhO c0_0 c0_1 c0_2 c0_3 c1_0 c1_1 c1_2 c1_3) P :=
  gE (fun _ => qn (cfg := cfg) (f := 134) (rd := none) (bs := 0)) (by kernel_rfl) h
theorem qmO (a : Int) : EVs (EV cfg) 226 [.int .i64 a] = some (.bool false) := by
 apply Gets.get
 refine qqS _ ?_
 simp
theorem qwv (a b : Int) : EVs (EV cfg) 149 [.int .i64 a, .int .i64 b] = some (.int .i64 (numC a b)) := by
 apply Gets.get
 refine qtO _ _ ?_
 rw [qmO, qmO]
 unfold numC
 by_cases h1 : a < b
 ·simp [h1]
 ·by_cases h2 : b < a
  ·simp [h1, h2]
  ·simp [h1, h2]
theorem qsq (a b : List UInt8) : EVs (EV cfg) 308 [.str a, .str b] = some (.int .i64 (strC a b)) := by
 refine qsS (H := []) (qlx ?_)
 have hx : cfg.ext 308 = some qc1 := rfl
 unfold xk
 simp only [hx]
 unfold qc1 strC
 by_cases h : a = b
 ·simp [h]
 ·simp [h]
theorem qrq (a b : List UInt8) : EVs (EV cfg) 218 [.str a, .str b] = some (.int .i64 (strC a b)) := by
 have h96 : EVs (EV cfg) 287 [.str a, .str b] = some (.int .i64 (strC a b)) := by
  apply Gets.get
  refine qq9 _ _ ?_
  rw [qsq]; simp
 apply Gets.get
 refine qsr _ _ ?_
 rw [h96]; simp
theorem qwk (a b c : Int) : EVs (EV cfg) 219 [.sl [[.int .i64 a], [.int .i64 b], [.int .i64 c]]] = some (.int .i64 (if a ≠ 0 then a else if b ≠ 0 then b else c)) := by
 apply Gets.get
 refine qva _ _ _ ?_
 have w1 : IntKind.wrap .i64 (0 + 1) = 1 := qM (by omega) (by omega)
 have w2 : IntKind.wrap .i64 (1 + 1) = 2 := qM (by omega) (by omega)
 have w3 : IntKind.wrap .i64 (2 + 1) = 3 := qM (by omega) (by omega)
 have s3 : Gets (qcI a b c 3) (· = .int .i64 0) := by
  refine qax _ _ _ _ ?_
  simp
 have s2 : Gets (qcI a b c 2) (· = .int .i64 c) := by
  refine qax _ _ _ _ ?_
  rw [w3]
  by_cases h : c = 0
  ·subst h; simp; exact s3
  ·simp [bneD, h]
 have s1 : Gets (qcI a b c 1) (· = .int .i64 (if b ≠ 0 then b else c)) := by
  refine qax _ _ _ _ ?_
  rw [w2]
  by_cases h : b = 0
  ·subst h; simp; exact s2
  ·simp [bneD, h]
 refine qax _ _ _ _ ?_
 rw [w1]
 by_cases h : a = 0
 ·subst h; simp only [ne_eq, ite_not] at s1; simp; exact s1
 ·simp [bneD, h]
theorem qwl (a b : Int) : EVs (EV cfg) 219 [.sl [[.int .i64 a], [.int .i64 b]]] = some (.int .i64 (if a ≠ 0 then a else b)) := by
 apply Gets.get
 refine qvb _ _ ?_
 have w1 : IntKind.wrap .i64 (0 + 1) = 1 := qM (by omega) (by omega)
 have w2 : IntKind.wrap .i64 (1 + 1) = 2 := qM (by omega) (by omega)
 have s2 : Gets (qcH a b 2) (· = .int .i64 0) := by
  refine qbv _ _ _ ?_
  simp
 have s1 : Gets (qcH a b 1) (· = .int .i64 b) := by
  refine qbv _ _ _ ?_
  rw [w2]
  by_cases h : b = 0
  ·subst h; simp; exact s2
  ·simp [bneD, h]
 refine qbv _ _ _ ?_
 rw [w1]
 by_cases h : a = 0
 ·subst h; simp; exact s1
 ·simp [bneD, h]
theorem qhh {β : Type} {l : List β} {i : Nat} {x : β} (h : l[i]? = some x) : l.drop i = x :: l.drop (i + 1) := by
 obtain ⟨h1, h2⟩ := qyL.1 h
 rw [← h2]; exact qyS h1
theorem qj2 {β : Type} {l : List β} {i : Nat} (h : l.length ≤ i) : l.drop i = [] := qyV h
theorem qr5 (la lb : List Tm) (hlen : la.length < 1099511627776) (ih : ∀ a ∈ la, ∀ b ∈ lb, EVs (EV cfg) 134 [a.av, b.av] = some (.int .i64 (cmpT a b))) :
  EVs (EV cfg) 150 [.sl (qb la), .sl (qb lb), .fn (.func 134) [] []] = some (.int .i64 (cmpE la lb)) := by
 have loop : ∀ (d i : Nat), i + d = la.length → Gets (qhK (qb la) (qb lb) i) (· = .int .i64 (cmpE (la.drop i) (lb.drop i))) := by
  intro d
  induction d with
  | zero =>
   intro i hi
   refine qgi _ _ _ ?_
   rw [qj2 (l := la) (by omega)]
   by_cases h : i < lb.length
   ·obtain ⟨y, hy⟩ : ∃ y, lb[i]? = some y := ⟨_, qyI h⟩
    rw [qhh hy, qlf]
    simp [show ¬ i < la.length by omega, show la.length < lb.length by omega]
   ·rw [qj2 (l := lb) (by omega), qhi]
    simp [show ¬ i < la.length by omega, show ¬ la.length < lb.length by omega]
  | succ d ihd =>
   intro i hi
   refine qgi _ _ _ ?_
   obtain ⟨x, hx⟩ : ∃ x, la[i]? = some x := ⟨_, qyI (by omega)⟩
   rw [qhh hx]
   by_cases h : i < lb.length
   ·obtain ⟨y, hy⟩ : ∃ y, lb[i]? = some y := ⟨_, qyI h⟩
    have hix := ih x (qyR hx) y (qyR hy)
    have hih := ihd (i + 1) (by omega)
    rw [qhh hy, qce]
    obtain ⟨k, n, s, l⟩ := x
    obtain ⟨k', n', s', l'⟩ := y
    simp only [ql, qy3, qdr hx, qdr hy]
    simp [show i < la.length by omega, h, show ¬ lb.length ≤ i by omega, hix, bneD]
    by_cases hc : cmpT (.mk k n s l) (.mk k' n' s' l') = 0
    ·simp [hc]; rw [qJ (n := la.length) (by omega) hlen]; exact hih
    ·simp [hc]
   ·rw [qj2 (l := lb) (by omega), qlg]
    obtain ⟨k, n, s, l⟩ := x
    simp only [ql, qy3, qdr hx]
    simp [show i < la.length by omega, show lb.length ≤ i by omega]
 apply Gets.get
 refine qoP _ _ ?_
 exact loop la.length 0 (by omega)
theorem qtq (la lb : List Tm) (hlen : la.length < 1099511627776) (ih : ∀ a ∈ la, ∀ b ∈ lb, EVs (EV cfg) 134 [a.av, b.av] = some (.int .i64 (cmpT a b))) :
  EVs (EV cfg) 220 [.sl (qb la), .sl (qb lb)] = some (.int .i64 (cmpE la lb)) := by
 apply Gets.get
 refine qis _ _ ?_
 rw [qr5 la lb hlen ih]
 simp
theorem qm6 (a : Tm) : a.Ok → ∀ (kb nb : Int) (sb : List UInt8) (lb : List Tm), (Tm.mk kb nb sb lb).Ok → Gets (qhO a.kind a.num a.str (qb a.subs) kb nb sb (qb lb)) (· = .int .i64 (cmpT a (.mk kb nb sb lb))) := by
 induction a using Tm.ind with
 | _ k n s l ih =>
  intro hok kb nb sb lb hokb
  have ihe : ∀ a ∈ l, ∀ b ∈ lb, EVs (EV cfg) 134 [a.av, b.av] = some (.int .i64 (cmpT a b)) := by
   intro a ha b hb
   have := ih a ha (hok.sub ha)
   have hob := hokb.sub hb
   obtain ⟨k1, n1, s1, l1⟩ := a
   obtain ⟨k2, n2, s2, l2⟩ := b
   rw [Tm.av_mk, Tm.av_mk]
   apply Gets.get
   exact qeM _ _ _ _ _ _ _ _ (this k2 n2 s2 l2 hob)
  have hlists := qtq l lb hok.len ihe
  rw [qpl]
  refine qns _ _ _ _ _ _ _ _ ?_
  unfold zk1 zk2 zk3 zk4 zk5 zk0
  simp only [Tm.kind, Tm.num, Tm.str, Tm.subs, qwv, qrq, hlists, qwl, qwk, qd, qc, qm, bneD, beqD]
  by_cases h0 : ¬ numC k kb = 0
  ·simp [h0]
  have h0 : numC k kb = 0 := Classical.not_not.1 h0
  simp [h0]
  by_cases h1 : k = 1
  ·simp [h1]
  by_cases h3 : k = 3
  ·simp [h3]
  by_cases h4 : k = 4
  ·simp [h4]
  by_cases h6 : k = 6
  ·simp [h6]
  by_cases h2 : k = 2
  ·simp [h2]
  by_cases h5 : k = 5
  ·simp [h5, cmpL]
  by_cases h9 : k = 9
  ·subst h9
   by_cases hl : l.length = 2
   ·by_cases hl' : lb.length = 2
    ·obtain ⟨x, y, rfl⟩ : ∃ x y, l = [x, y] := by
      match l, hl with
      | [x, y], _ => exact ⟨x, y, rfl⟩
     obtain ⟨x', y', rfl⟩ : ∃ x y, lb = [x, y] := by
      match lb, hl' with
      | [x, y], _ => exact ⟨x, y, rfl⟩
     have hx := ihe x (by simp) x' (by simp)
     have hy := ih y (by simp) (hok.sub (by simp))
     have hoy := hokb.sub (t := y') (by simp)
     have hcl : cmpL [x, y] [x', y'] = if cmpT x x' ≠ 0 then cmpT x x' else cmpT y y' := by
      unfold cmpL
      rw [qce, qce, qhi]
      by_cases e1 : cmpT x x' = 0 <;> by_cases e2 : cmpT y y' = 0 <;> simp [qrW, e1, e2]
     obtain ⟨k1, n1, s1, l1⟩ := x
     obtain ⟨k2, n2, s2, l2⟩ := y
     obtain ⟨k1', n1', s1', l1'⟩ := x'
     obtain ⟨k2', n2', s2', l2'⟩ := y'
     have hyy := hy k2' n2' s2' l2' hoy
     simp only [qy, qI, Tm.cells_mk]
     simp [hcl, hx]
     by_cases hc : cmpT (.mk k1 n1 s1 l1) (.mk k1' n1' s1' l1') = 0
     ·simp [hc]; exact hyy
     ·simp [hc]
    ·have : ¬ ((lb.length : Int) = 2) := by omega
     simp [hl, this, cmpL]
   ·have : ¬ ((l.length : Int) = 2) := by omega
    simp [this, cmpL]
  by_cases h7 : k = 7
  ·simp [h7, cmpL]
  simp [h1, h2, h3, h4, h5, h6, h7, h9]
theorem qq8 {a b : Tm} (ha : a.Ok) (hb : b.Ok) : EVs (EV cfg) 134 [a.av, b.av] = some (.int .i64 (cmpT a b)) := by
 have := qm6 a ha
 obtain ⟨k1, n1, s1, l1⟩ := a
 obtain ⟨k2, n2, s2, l2⟩ := b
 rw [Tm.av_mk, Tm.av_mk]
 apply Gets.get
 exact qeM _ _ _ _ _ _ _ _ (this k2 n2 s2 l2 hb)
theorem qlL (b : Bool) : EVf (EV cfg) 239 [.bool b] = some (vh b).av := by
 have ha : ∀ s, EVf (EV cfg) 292 [.str s] = some (symT s).av := by
  intro s
  apply Gets.get
  refine qjX _ ?_
  rw [qo4]; simp
 apply Gets.get
 refine qi0 _ ?_
 unfold zj0
 rw [ha, ha]
 cases b <;> simp [vh, tru, fal]
theorem qjL (e : Env) (b : Bool) (t : Tm) : EVm (EV cfg) 241 [.ptr 0 0 0, t.av] 7 (mR e b) = some (.int .i64 t.num, mR e (b || decide (t.kind ≠ 1))) := by
 have hr := xK e b
 apply Gets.get
 rw [Tm.av, Tm.cells_eq]
 refine qto _ _ _ _ _ _ _ _ _ _ _ ?_
 rw [hr, bneD]
 by_cases h : t.kind = 1
 ·simp [h]
 ·simp [h]
theorem yL (e : Env) (b : Bool) (t : Tm) : EVm (EV cfg) 158 [.ptr 0 0 0, t.av] 7 (mR e b) = some (.bool (decide (t.str = tru)), mR e (b || (vu t).isNone)) := by
 have hr := xK e b
 apply Gets.get
 rw [Tm.av, Tm.cells_eq]
 refine qr3 _ _ _ _ _ _ _ _ _ _ _ ?_
 unfold zj24
 rw [hr, bneD]
 unfold vu
 simp only [beqS, show ([116, 114, 117, 101] : List UInt8) = tru from rfl, show ([102, 97, 108, 115, 101] : List UInt8) = fal from rfl]
 by_cases h : t.kind = 2
 ·by_cases h1 : t.str = tru
  ·simp [h, h1]
  ·by_cases h2 : t.str = fal
   ·simp [h, h1, h2]
    have : ¬ fal = tru := by decide
    simp [this]
   ·simp [h, h1, h2]
 ·simp [h]
theorem qai {t : Tm} {x : Bool} (h : vu t = some x) : decide (t.str = tru) = x := by
 unfold vu at h
 split at h
 ·rename_i h1; cases h; exact decide_eq_true h1.2
 ·split at h
  ·rename_i h1; cases h; rw [h1.2]; decide
  ·cases h
theorem vm {e : Env} {t : Tm} : Gets (some (t.av, mR e true)) (Res e none) := ⟨_, rfl, rfl, t, rfl⟩
theorem qS {e : Env} {t : Tm} : Gets (some (t.av, mR e false)) (Res e (some t)) := ⟨_, rfl, rfl⟩
theorem qcM {e : Env} {a b : Tm} (f : Bool → Bool → Bool) {o : Option (AV × List (List AV))} (h : o = some ((vh (f (decide (a.str = tru)) (decide (b.str = tru)))).av, mR e (false || (vu a).isNone || (vu b).isNone))) :
  Gets o (Res e ((vu a).bind fun x => (vu b).map fun y => vh (f x y))) := by
 subst h
 cases ha : vu a with
 | none => exact vm
 | some x =>
  cases hb : vu b with
  | none => exact vm
  | some y =>
   rw [qai ha, qai hb]
   exact qS
theorem qvk (e : Env) (op : List UInt8) {a b : Tm} (ha : a.Ok) (hb : b.Ok) (ia : a.kind = 1 → InB a.num) (ib : b.kind = 1 → InB b.num) (hp : op = [42] → xb) :
  Gets (EVd (EV cfg) 173 [.ptr 0 0 0, .str op, a.av, b.av] 7 (mR e false)) (Res e (twoG op a b)) := by
 have hc := qq8 ha hb
 rw [Tm.av, Tm.av, Tm.cells_eq a, Tm.cells_eq b]
 refine qtl _ _ _ _ _ _ _ _ _ _ _ _ _ _ _ _ ?_
 unfold zj42 zj36 zj37 zj38 zj39 zj40 zj41 zj27 zj28 zj29 zj30 zj31 zj35 zj32 zj33 zj34 zj25 zj26 zj2 zj3
 simp only [qj, hc, qc, qm, qlL, qE, beqS, beqD, bneD]
 unfold twoG
 by_cases h1 : op = [61, 61]
 ·rw [if_pos h1, decide_eq_true h1, cond_true]; exact qS
 rw [if_neg h1, decide_eq_false h1, cond_false]
 by_cases h2 : op = [61, 58, 61]
 ·rw [if_pos h2, decide_eq_true h2, cond_true]; exact qS
 rw [if_neg h2, decide_eq_false h2, cond_false]
 by_cases h3 : op = [47, 61]
 ·rw [if_pos h3, decide_eq_true h3, cond_true]; exact qS
 rw [if_neg h3, decide_eq_false h3, cond_false]
 by_cases h4 : op = [61, 47, 61]
 ·rw [if_pos h4, decide_eq_true h4, cond_true]; exact qS
 rw [if_neg h4, decide_eq_false h4, cond_false]
 by_cases h5 : op = [60]
 ·rw [if_pos h5, decide_eq_true h5, cond_true]; exact qS
 rw [if_neg h5, decide_eq_false h5, cond_false]
 by_cases h6 : op = [61, 60]
 ·rw [if_pos h6, decide_eq_true h6, cond_true]; exact qS
 rw [if_neg h6, decide_eq_false h6, cond_false]
 by_cases h7 : op = [62]
 ·rw [if_pos h7, decide_eq_true h7, cond_true]; exact qS
 rw [if_neg h7, decide_eq_false h7, cond_false]
 by_cases h8 : op = [62, 61]
 ·rw [if_pos h8, decide_eq_true h8, cond_true]; exact qS
 rw [if_neg h8, decide_eq_false h8, cond_false]
 by_cases h9 : op = [97, 110, 100]
 ·rw [if_pos (Or.inl h9), decide_eq_true h9, cond_true]
  refine qcM (fun x y => x && y) ?_
  simp only [yL, qc, vV]
  cases decide (a.str = tru) <;> cases decide (b.str = tru) <;> rfl
 rw [decide_eq_false h9, cond_false]
 by_cases h10 : op = [97, 110, 100, 97, 108, 115, 111]
 ·rw [if_pos (Or.inr h10), decide_eq_true h10, cond_true]
  refine qcM (fun x y => x && y) ?_
  simp only [yL, qc, vV]
  cases decide (a.str = tru) <;> cases decide (b.str = tru) <;> rfl
 rw [if_neg (fun h => h.elim h9 h10), decide_eq_false h10, cond_false]
 by_cases h11 : op = [111, 114]
 ·rw [if_pos (Or.inl h11), decide_eq_true h11, cond_true]
  refine qcM (fun x y => x || y) ?_
  simp only [yL, qc, vV]
  cases decide (a.str = tru) <;> cases decide (b.str = tru) <;> rfl
 rw [decide_eq_false h11, cond_false]
 by_cases h12 : op = [111, 114, 101, 108, 115, 101]
 ·rw [if_pos (Or.inr h12), decide_eq_true h12, cond_true]
  refine qcM (fun x y => x || y) ?_
  simp only [yL, qc, vV]
  cases decide (a.str = tru) <;> cases decide (b.str = tru) <;> rfl
 rw [if_neg (fun h => h.elim h11 h12), decide_eq_false h12, cond_false]
 by_cases h13 : op = [120, 111, 114]
 ·rw [if_pos h13, decide_eq_true h13, cond_true]
  refine qcM (fun x y => x != y) ?_
  simp only [yL, qc, vV]
  cases decide (a.str = tru) <;> cases decide (b.str = tru) <;> rfl
 rw [if_neg h13, decide_eq_false h13, cond_false]
 by_cases h14 : op = [101, 108, 101, 109, 101, 110, 116]
 ·rw [if_pos h14, decide_eq_true h14, cond_true]
  simp only [qjL, qc, qe1, xK, qE, qj]
  by_cases g1 : 1 ≤ a.num
  ·rw [decide_eq_true (show a.num ≥ 1 from g1), cond_true]
   by_cases g2 : b.kind = 7
   ·rw [decide_eq_true g2, cond_true]
    by_cases g3 : a.num ≤ b.subs.length
    ·have hl : (a.num - 1).toNat < b.subs.length := by omega
     obtain ⟨j, hj⟩ : ∃ j : Nat, a.num = (j : Int) + 1 := ⟨(a.num - 1).toNat, by omega⟩
     have hjl : j < b.subs.length := by omega
     have hbl := hb
     have hw : IntKind.wrap .i64 (a.num - 1) = (j : Int) := by
      have : b.subs.length < 1099511627776 := by
       obtain ⟨kb, nb, sb, lb⟩ := b
       exact hb.len
      rw [qM (by omega) (by omega)]; omega
     have hx : b.subs[j]? = some b.subs[j] := qyI hjl
     have e1 : (a.num - 1).toNat = j := by omega
     rw [qd, decide_eq_true g3, cond_true, hw, qw, qD, decide_eq_true hjl, q9 hx, e1, hx]
     simp only [Bool.and_true, cond_true, qi, qy1, qy9, qp, qt, qj]
     by_cases g0 : a.kind = 1
     ·rw [if_pos ⟨g0, g1, g2, g3⟩]; simp only [g0]; exact qS
     ·rw [if_neg (fun h => g0 h.1), decide_eq_true g0]; exact vm
    ·rw [qd, decide_eq_false g3, cond_false, if_neg (fun h => g3 h.2.2.2)]; exact vm
   ·rw [decide_eq_false g2, cond_false, if_neg (fun h => g2 h.2.2.1)]; exact vm
  ·rw [decide_eq_false g1, cond_false, if_neg (fun h => g1 h.2.1)]; exact vm
 rw [if_neg h14, decide_eq_false h14, cond_false]
 simp only [qjL, qc, qe1]
 by_cases ga : a.kind = 1
 ·by_cases gb : b.kind = 1
  ·rw [if_pos ⟨ga, gb⟩]
   simp only [ga, gb]
   exact Gets.bind (qoo e op (ia ga) (ib gb) hp) fun r h => yx h (zk h)
  ·rw [if_neg (fun h => gb h.2), decide_eq_true gb, Bool.or_true, qeS]
   simp only [qc, qE, qj]; exact vm
 ·rw [if_neg (fun h => ga h.1), decide_eq_true ga, Bool.or_true, Bool.true_or, qeS]
  simp only [qc, qE, qj]; exact vm
theorem qwm (op : List UInt8) : EVf (EV cfg) 89 [.str op] = some (.sl (qx (opsG op))) := by
 apply Gets.get
 refine qld _ ?_
 have h := qeT (fun l => some (AV.sl (qx l))) op [] qbJ
 have : Gets (xO op (some (AV.sl (qx []))) (qbJ.map fun p => (p.1, some (AV.sl (qx p.2))))) (· = .sl (qx (opsG op))) := by
  rw [h]; exact ⟨_, rfl, rfl⟩
 exact this
theorem qtA (l : List Int) (hl : l.length < 1099511627776) (n : Int) : ∀ d i : Nat, i + d = l.length → Gets (qhV (qx l) n i) (fun v => ∃ j : Int, v = .int .i64 j ∧ (0 ≤ j ↔ n ∈ l.drop i)) := by
 intro d
 induction d with
 | zero =>
  intro i hi
  refine qgs _ _ _ ?_
  rw [q4, decide_eq_false (by omega)]
  refine ⟨_, rfl, -1, rfl, ?_⟩
  rw [qyV (by omega)]
  simp
 | succ d ih =>
  intro i hi
  have hil : i < l.length := by omega
  refine qgs _ _ _ ?_
  have hx : l[i]? = some l[i] := qyI hil
  have hd : l.drop i = l[i] :: l.drop (i + 1) := qyS hil
  have h := ih (i + 1) (by omega)
  rw [q4, decide_eq_true (show (i : Int) < (l.length : Int) by omega), qw, qD, decide_eq_true hil, ql, qy3, qaT, hx, qJ hil hl]
  by_cases he : n = l[i]
  ·refine ⟨.int .i64 i, ?_, i, rfl, ?_⟩
   ·simp [he]
   ·rw [hd, he]; exact ⟨fun _ => List.mem_cons_self, fun _ => by omega⟩
  ·have hne : (n == l[i]) = false := by rw [beqI]; exact decide_eq_false he
   simp [hne]
   refine Gets.mono (by simpa using h) ?_
   rintro _ ⟨j, rfl, hj⟩
   exact ⟨j, rfl, by rw [hj, hd, qzm]; exact ⟨Or.inr, fun h => h.resolve_left he⟩⟩
theorem qgV (l : List Int) (hl : l.length < 1099511627776) (n : Int) : EVs (EV cfg) 88 [.sl (qx l), .int .i64 n] = some (.bool (decide (n ∈ l))) := by
 obtain ⟨_, h1, j, rfl, hj⟩ := qtA l hl n l.length 0 (by omega)
 have h2 : EVs (EV cfg) 168 [.sl (qx l), .int .i64 n] = some (.int .i64 j) := by
  apply Gets.get
  exact qqW _ _ ⟨_, h1, rfl⟩
 apply Gets.get
 refine qle _ _ ?_
 rw [h2]
 rw [qzk] at hj
 refine ⟨_, rfl, ?_⟩
 show AV.bool (decide (j ≥ 0)) = _
 congr 1
 exact decide_eq_decide.2 hj
theorem qu5 (n : Int) : EVs (EV cfg) 90 [.int .i64 n] = some (.bool (y8 n)) := by
 apply Gets.get
 refine qjW _ ?_
 unfold y8
 by_cases h : 1 ≤ n
 ·simp [h]
 ·simp [h]
theorem qmr (op : List UInt8) : (opsG op).length < 1099511627776 := by
 have : ∀ (l : List (List UInt8 × List Int)), (∀ p ∈ l, p.2.length ≤ 2) → (xO op [] l).length ≤ 2 := by
  intro l
  induction l with
  | nil => intro _; simp [xO]
  | cons p l ih =>
   intro h
   rw [xO]
   cases op == p.1
   ·exact ih fun q hq => h q (by simp [hq])
   ·exact h p (by simp)
 have := this qbJ (by decide)
 unfold opsG
 omega
theorem qwx {V : List Int} {l : List Tm} (hlen : l.length < 1099511627776) (ih : ∀ x ∈ l, EVs (EV cfg) 152 [x.av, .sl (qx V)] = some (.bool (isG V x))) :
  EVs (EV cfg) 230 [.sl (qb l), .sl (qx V)] = some (.bool (allG V l)) := by
 have hin : ∀ x ∈ l, EVs (EV cfg) 290 [x.av, .cptr [.sl (qx V)] 0] = some (.bool (!isG V x)) := by
  intro x hx
  have h := ih x hx
  apply Gets.get
  rw [Tm.av, Tm.cells_eq] at h ⊢
  refine qsy _ _ _ _ _ ?_
  rw [h]; exact ⟨_, rfl, rfl⟩
 have loop : ∀ d i : Nat, i + d = l.length → Gets (qhE (qb l) (qx V) i) (fun v => ∃ j : Int, v = .int .i64 j ∧ (0 ≤ j ↔ allG V (l.drop i) = false)) := by
  intro d
  induction d with
  | zero =>
   intro i hi
   refine qgd _ _ _ ?_
   rw [qd, decide_eq_false (by omega)]
   refine ⟨_, rfl, -1, rfl, ?_⟩
   rw [qyV (by omega)]
   simp [allG]
  | succ d ihd =>
   intro i hi
   have hil : i < l.length := by omega
   refine qgd _ _ _ ?_
   have hx : l[i]? = some l[i] := qyI hil
   have hd : l.drop i = l[i] :: l.drop (i + 1) := qyS hil
   have h1 := hin l[i] (qyR hx)
   have h2 := ihd (i + 1) (by omega)
   rw [qd, decide_eq_true (show (i : Int) < (l.length : Int) by omega), qw, qD, decide_eq_true hil, q9 hx, qJ hil hlen]
   simp only [cond_true, qy2, qi, qy1, qp, qt, show qyQ 4 4 = true from rfl, qj, h1, qc, qk]
   cases hg : isG V l[i] with
   | false =>
    refine ⟨_, rfl, i, rfl, ?_⟩
    rw [hd, allG, hg]
    exact ⟨fun _ => rfl, fun _ => by omega⟩
   | true =>
    refine h2.mono ?_
    rintro _ ⟨j, rfl, hj⟩
    refine ⟨j, rfl, ?_⟩
    rw [hd, allG, hg, qzg]; exact hj
 obtain ⟨_, h1, j, rfl, hj⟩ := loop l.length 0 (by omega)
 rw [qzk] at hj
 have h2 : EVs (EV cfg) 124 [.sl (qb l), .fn (.func 290) [] [.cptr [.sl (qx V)] 0]] = some (.int .i64 j) := by
  apply Gets.get
  exact qoD _ _ ⟨_, h1, rfl⟩
 have h3 : EVs (EV cfg) 143 [.sl (qb l), .fn (.func 290) [] [.cptr [.sl (qx V)] 0]] = some (.bool (decide (j ≥ 0))) := by
  apply Gets.get
  refine qm5 _ _ ?_
  rw [h2]; exact ⟨_, rfl, rfl⟩
 apply Gets.get
 refine qmS _ _ ?_
 rw [h3]
 refine ⟨_, rfl, ?_⟩
 show AV.bool (!decide (j ≥ 0)) = _
 congr 1
 cases ha : allG V l with
 | false => rw [decide_eq_true (hj.2 ha)]; rfl
 | true =>
  have : ¬ j ≥ 0 := fun h => by have := hj.1 h; rw [ha] at this; cases this
  rw [decide_eq_false this]; rfl
theorem qyx {V : List Int} (hV : V.length < 1099511627776) : ∀ (n : Nat) (t : Tm), t.w ≤ n → n < 1099511627776 → EVs (EV cfg) 152 [t.av, .sl (qx V)] = some (.bool (isG V t)) := by
 intro n
 induction n with
 | zero => intro t h; have := vH t; omega
 | succ n ih =>
  intro t hw hn
  have hwe := t.w_eq
  have hwl := xB t.subs
  have allOf : ∀ l : List Tm, wL l ≤ n → EVs (EV cfg) 230 [.sl (qb l), .sl (qx V)] = some (.bool (allG V l)) := fun l hl =>
   qwx (by have := xB l; omega) fun x hx => ih x (by have := vY hx; omega) (by omega)
  have hvar := qeK (t := t) (by omega)
  have hsub := allOf t.subs (by omega)
  apply Gets.get
  rw [Tm.av, Tm.cells_eq] at hvar ⊢
  refine qoE _ _ _ _ _ ?_
  rw [hvar, hsub]
  simp only [beqI, qc, qk]
  by_cases h2 : t.kind = 2
  ·rw [decide_eq_true h2, cond_true, qat h2]
   simp only [varR, kTup, qa, qm, qk, kNil]
   cases hv : varT t with
   | none => exact ⟨_, rfl, rfl⟩
   | some x =>
    have hc := qgV V hV x
    simp only [Option.getD_some, qzl, qzh, cond_false]
    rw [hc]; exact ⟨_, rfl, rfl⟩
  ·rw [decide_eq_false h2, cond_false]
   by_cases h9 : t.kind = 9
   ·rw [decide_eq_true h9, cond_true, qdK h9]; exact ⟨_, rfl, rfl⟩
   ·rw [decide_eq_false h9, cond_false]
    by_cases h7 : t.kind = 7
    ·rw [decide_eq_true h7, cond_true]
     cases hl : t.subs with
     | nil => rw [qcW h7 hl]; exact ⟨_, rfl, rfl⟩
     | cons f r =>
      rw [qcV h7 hl]
      rw [hl] at hwl hwe
      rw [qV] at hwe
      have hfw := f.w_eq
      have hfs := allOf f.subs (by omega)
      have hr := allOf r (by omega)
      have c0 : (decide (((qb (f :: r)).length : Int) = 0)) = false := by rw [qd]; exact decide_eq_false (by simp; omega)
      have c1 : qg 0 ((qb (f :: r)).length : Int) = true := by rw [qd]; exact decide_eq_true (by simp)
      have c2 : qh 1 ((qb (f :: r)).length : Int) = true := by rw [qd]; exact decide_eq_true (by simp; omega)
      have g0 : (qb (f :: r))[(0 : Int).toNat]? = some f.cells := by rw [qy]; rfl
      have tk : qyM ((qb (f :: r)).length - 1) (qzj 1 (qb (f :: r))) = qb r := by
       rw [qy, List.drop_succ_cons, qzk, qzc, Nat.add_sub_cancel, List.take_length]
      have g0' : (qb (f :: r))[0]? = some f.cells := g0
      rw [c0, c1, c2, tk]
      simp only [cond_false, cond_true, ql, g0, g0', qc, qi, qy1, show qyQ 4 4 = true from rfl, qp, qt, zc, qd, beqS]
      by_cases f7 : f.kind = 7
      ·rw [if_pos f7, decide_eq_true f7, cond_true, hfs]
       by_cases hrl : r.length = 0
       ·have : decide ((r.length : Int) = 0) = true := decide_eq_true (by omega)
        rw [this, decide_eq_true hrl]; exact ⟨_, rfl, rfl⟩
       ·have : decide ((r.length : Int) = 0) = false := decide_eq_false (by omega)
        rw [this, decide_eq_false hrl]; exact ⟨_, rfl, rfl⟩
      ·rw [if_neg f7, decide_eq_false f7, cond_false]
       by_cases f2 : f.kind = 2
       ·have : (f.kind != 2) = false := by rw [f2]; rfl
        rw [if_pos f2, this, cond_false]
        by_cases hc : f.str = [99, 111, 110, 115, 116]
        ·rw [if_pos hc, decide_eq_true hc]
         refine ⟨_, rfl, ?_⟩
         show AV.bool (decide ((r.length : Int) = 1)) = _
         congr 1
         exact decide_eq_decide.2 (by omega)
        ·rw [if_neg hc, decide_eq_false hc, cond_false, qwm]
         have hcn := qgV (opsG f.str) (qmr f.str) (r.length : Int)
         simp only [qc, vE, hcn, qk, hr]
         cases decide ((r.length : Int) ∈ opsG f.str) <;> exact ⟨_, rfl, rfl⟩
       ·have : (f.kind != 2) = true := by simpa using f2
        rw [if_neg f2, this]; exact ⟨_, rfl, rfl⟩
    ·rw [decide_eq_false h7, qkA h2 h9 h7]; exact ⟨_, rfl, rfl⟩
theorem qa4 {V : List Int} (hV : V.length < 1099511627776) {t : Tm} (h : t.w < 1099511627776) : EVs (EV cfg) 69 [t.av, .sl (qx V)] = some (.int .i64 (xg V t)) := by
 have hc := zK h
 have hi := qyx hV t.w t (qyN _) h
 apply Gets.get
 rw [Tm.av, Tm.cells_eq] at hc hi ⊢
 refine qjY _ _ _ _ _ ?_
 rw [hc, hi]
 unfold xg
 simp only [qc, qm, qk]
 by_cases h0 : t.chk = 0
 ·have : (t.chk != 0) = false := by rw [h0]; rfl
  rw [this, if_pos h0]
  cases isG V t <;> exact ⟨_, rfl, rfl⟩
 ·have : (t.chk != 0) = true := by simpa using h0
  rw [this, if_neg h0]; exact ⟨_, rfl, rfl⟩
noncomputable def qw6 : Den := evC cfg (EV cfg) 311 none 6 (sub (qe Tryz.f311) [0, 0])
noncomputable def qxO : Ex × List AV × AH → Option (AV × List (List AV)) := kAft (Cfg.keepOut cfg 311 (qq (sub (qe Tryz.f311) [0, 0]))) (vF 0 (xa cfg (Cfg.lift cfg 311 0) (fun (v : AV) (H : AH) => (fun (r : AV × AH) => xM 1 5 (fx 37 [(0, AV.ptr 0 0 0), (5, AV.ptr 1 0 0), (6, AV.ptr 2 0 0), (7, AV.ptr 3 0 0)]) (vF 0 (kSeq (fun (fr : List AV) (H : AH) => vK (Cfg.cut cfg 242 (qq (sub (qe Tryz.f242) [1, 0, 1, 0, 0, 1, 1, 1]))) fr H fun (fr : List AV) (H : AH) => qT cfg (EV cfg) (kfN cfg 6) 242 none 1 (sub (qe Tryz.f242) [1, 0, 1, 0, 0, 1, 1, 1]) fr H (qcU (kSeq (fun (fr : List AV) (H : AH) => vK (Cfg.cut cfg 242 (qq (sub (qe Tryz.f242) [1, 1]))) fr H fun (fr : List AV) (H : AH) => qT cfg (EV cfg) (kfN cfg 6) 242 none 1 (sub (qe Tryz.f242) [1, 1]) fr H (qab cfg 7 (Cfg.lift cfg 242 0) (qze (Func.results Tryz.f242)))) (qab cfg 7 (Cfg.lift cfg 242 0) (qze (Func.results Tryz.f242)))))) (qcU (kSeq (fun (fr : List AV) (H : AH) => vK (Cfg.cut cfg 242 (qq (sub (qe Tryz.f242) [1, 1]))) fr H fun (fr : List AV) (H : AH) => qT cfg (EV cfg) (kfN cfg 6) 242 none 1 (sub (qe Tryz.f242) [1, 1]) fr H (qab cfg 7 (Cfg.lift cfg 242 0) (qze (Func.results Tryz.f242)))) (qab cfg 7 (Cfg.lift cfg 242 0) (qze (Func.results Tryz.f242))))))) (Prod.snd r)) (v, H)) (qze (Func.results (Prod.snd (311, Tryz.f311))))))
noncomputable def qwz : List AV × AH → Option (AV × List (List AV)) := fun (p : List AV × AH) => kOpt (LOOP 6 (some [0, 1]) [] qw6 p) qxO
noncomputable abbrev qhs (h0 : Rz) (c1_0 c1_1 : Int) (c1_2 : Bz) (c1_3 : Rz) (c2_0 c2_1 : Int) (c2_2 : Bz) (c2_3 : Rz) (c3_0 : Int) : Option (AV × List (List AV)) := qwz  (((fx 25 [(0, .yld 5), (1, .ptr 4 0 0)]) : List AV), ([.rows true 7 h0, .rows false 4 [[.int .i64 c1_0, .int .i64 c1_1, .str c1_2, .sl c1_3]], .rows false 4 [[.int .i64 c2_0, .int .i64 c2_1, .str c2_2, .sl c2_3]], .rows false 1 [[.int .i64 c3_0]], .rows false 1 [[.ptr 1 0 0]], rngB Tryz.f242 242 [1, 0, 1, 0, 0, 1, 1, 0, 1, 0] (fx 37 [(7, .ptr 3 0 0)]) none LoopState.ready] : AH))
noncomputable abbrev zl0 (q : AV × List (List AV)) : Option (AV × List (List AV)) := kTmV q.1 fun n n_1 s rows => (some (.agg [.int .i64 n, .int .i64 n_1, .str s, .sl rows], q.2))
noncomputable abbrev zl1 (row : List AV) (ke ne : Int) (se : Bz) (le bd : Rz) (self : Int) (bad : Bool) : Option (AV × List (List AV)) := bif qyW (qyH row) 4 then bif qyQ 4 (qyH row) then kTmC (qyM 4 row) fun n n_1 s rows => (some (.agg [.int .i64 n, .int .i64 n_1, .str s, .sl rows], [[AV.int .i64 ke, .int .i64 ne, .str se, .sl le, .sl bd, .int .i64 self, .bool bad]])) else none else none
theorem qr1 (ke ne : Int) (se : Bz) (le bd : Rz) (self : Int) (bad : Bool) (op : Bz) (kt nt : Int) (st : Bz) (lt : Rz) {P : AV × List (List AV) → Prop} (h : Gets (bif op == [(108 : UInt8), (101 : UInt8), (110 : UInt8), (103 : UInt8), (116 : UInt8), (104 : UInt8)] then qhs [[AV.int .i64 ke, .int .i64 ne, .str se, .sl le, .sl bd, .int .i64 self, .bool bad]] kt nt st lt 0 0 [] [] 0 else bif kt != 9 then kOpt (EVd (EV cfg) 233 [.ptr 0 0 0] 7 [[AV.int .i64 ke, .int .i64 ne, .str se, .sl le, .sl bd, .int .i64 self, .bool bad]]) fun q => zl0 q else bif op == [(104 : UInt8), (100 : UInt8)] then bif qg 0 (lt.length : Int) then kOpt (qyG lt 0) fun row => zl1 row ke ne se le bd self bad else none else bif qg 1 (↑ (qyH lt) : Int) then kOpt (qyG lt 1) fun row => zl1 row ke ne se le bd self bad else none) P) : Gets (EVd (EV cfg) 242 [.ptr 0 0 0, .str op, .agg [.int .i64 kt, .int .i64 nt, .str st, .sl lt]] 7 [[AV.int .i64 ke, AV.int .i64 ne, AV.str se, AV.sl le, AV.sl bd, AV.int .i64 self, AV.bool bad]]) P :=
  gE (fun _ => funD rfl rfl Tryz.func242 rfl) (by kernel_rfl) h
theorem qrY (a b : Int) {P : AV → Prop} (h : Gets (kOpt (qA (Op.intBits BinOp.and .u64 a 4294967295)) fun v => kInt .u64 v fun n => kOpt (qA (Op.shift BinOp.shr .u64 a .u64 32)) fun v => kInt .u64 v fun n_1 => kOpt (qA (Op.intBits BinOp.and .u64 b 4294967295)) fun v => kInt .u64 v fun n_2 => kOpt (qA (Op.shift BinOp.shr .u64 b .u64 32)) fun v => kInt .u64 v fun n_3 => kOpt (qA (Op.shift BinOp.shr .u64 (IntKind.wrap .u64 (n * n_2)) .u64 32)) fun v => kInt .u64 v fun n_4 => kOpt (qA (Op.intBits BinOp.and .u64 (IntKind.wrap .u64 (IntKind.wrap .u64 (n_1 * n_2) + n_4)) 4294967295)) fun v => kInt .u64 v fun n_5 => kOpt (qA (Op.shift BinOp.shr .u64 (IntKind.wrap .u64 (IntKind.wrap .u64 (n_1 * n_2) + n_4)) .u64 32)) fun v => kInt .u64 v fun n_6 => kOpt (qA (Op.shift BinOp.shr .u64 (IntKind.wrap .u64 (n_5 + IntKind.wrap .u64 (n * n_3))) .u64 32)) fun v => kInt .u64 v fun n => some (AV.tup [AV.int .u64 (IntKind.wrap .u64 (IntKind.wrap .u64 (IntKind.wrap .u64 (n_1 * n_3) + n_6) + n)), .int .u64 (IntKind.wrap .u64 (a * b))])) P) : Gets (EVs (EV cfg) 312 [.int .u64 a, .int .u64 b]) P :=
  gE (fun _ => funS rfl rfl Tryz.func312 rfl) (by kernel_rfl) h
theorem qnp (h0 : Rz) (c1_0 c1_1 : Int) (c1_2 : Bz) (c1_3 : Rz) (c2_0 c2_1 : Int) (c2_2 : Bz) (c2_3 : Rz) (c3_0 : Int) {P : AV × List (List AV) → Prop} (h : Gets (bif c1_0 == 9 then bif qg 0 (c1_3.length : Int) then kOpt (qyG c1_3 0) fun row => bif qyW (qyH row) 4 then bif qyQ 4 (qyH row) then kTmC (qyM 4 row) fun n n s rows => (bif qg 1 (c1_3.length : Int) then kOpt (qyG c1_3 1) fun row => bif qyW (qyH row) 4 then bif qyQ 4 (qyH row) then kTmC (qyM 4 row) fun n n_1 s rows => (qhs h0 n n_1 s rows c2_0 c2_1 c2_2 c2_3 (IntKind.wrap .i64 (c3_0 + 1))) else none else none else none) else none else none else none else bif c1_0 != 8 then kOpt (EVd (EV cfg) 233 [.ptr 0 0 0] 7 h0) fun q => zl0 q else kOpt (EVd (EV cfg) 240 [.ptr 0 0 0, .int .i64 c3_0] 7 h0) fun q => zl0 q) P) : Gets (qhs h0 c1_0 c1_1 c1_2 c1_3 c2_0 c2_1 c2_2 c2_3 c3_0) P :=
  gE (fun _ => qn (cfg := cfg) (f := 311) (rd := none) (bs := 6)) (by kernel_rfl) h
end Go.Proofs.YtkgkjngbfdnoiaaGreat
end
section
namespace Go.Av
theorem quV {n : Int} (h1 : -9223372036854775808 ≤ n) (h2 : n < 9223372036854775808) : qA (Op.intBits .xor .i64 (-1) n) = some (.int .i64 (-1 - n)) := by
 have : qA (Op.intBits .xor .i64 (-1) n) = some (.int .i64 (IntKind.wrap .i64 (BitVec.ofInt 64 (-1) ^^^ BitVec.ofInt 64 n).toNat)) := rfl
 rw [this, qa7]
 have e : BitVec.ofInt 64 (-1) ^^^ BitVec.ofInt 64 n = ~~~(BitVec.ofInt 64 n) := by
  rw [show BitVec.ofInt 64 (-1) = BitVec.allOnes 64 from by decide, BitVec.allOnes_xor]
 have en : n = (BitVec.ofInt 64 n).toInt := by rw [BitVec.toInt_ofInt, Int.bmod_eq_of_le (by omega) (by omega)]
 have hn := BitVec.toNat_not (x := BitVec.ofInt 64 n)
 rw [e]
 congr 2
 rw [BitVec.toInt_eq_toNat_cond] at en ⊢
 have hl := (BitVec.ofInt 64 n).isLt
 rw [hn]
 generalize (BitVec.ofInt 64 n).toNat = U at *
 split at en <;> split <;> omega
theorem yP (x : Tm) (l : List Tm) : qyG (qb (x :: l)) 0 = some x.cells := by rw [ql, qy]; rfl
theorem ys (x y : Tm) (l : List Tm) : qyG (qb (x :: y :: l)) 1 = some y.cells := by rw [ql, qy, qy]; rfl
theorem quP (x y z : Tm) (l : List Tm) : qyG (qb (x :: y :: z :: l)) 2 = some z.cells := by rw [ql, qy, qy, qy]; rfl
theorem lt0T (x : Tm) (l : List Tm) : qg 0 ((qb (x :: l)).length : Int) = true := by rw [qd]; exact decide_eq_true (by simp)
theorem lt1T (x y : Tm) (l : List Tm) : qg 1 ((qb (x :: y :: l)).length : Int) = true := by rw [qd]; exact decide_eq_true (by simp; omega)
theorem lt2T (x y z : Tm) (l : List Tm) : qg 2 ((qb (x :: y :: z :: l)).length : Int) = true := by rw [qd]; exact decide_eq_true (by simp; omega)
theorem vw : qyQ 4 4 = true := rfl
theorem qfL {t : Tm} (h : t.chk = 0) : -576460752303423488 ≤ t.num ∧ t.num ≤ 576460752303423487 := by
 obtain ⟨h1, _⟩ := yQ.1 h
 rw [Tm.parts_eq, qyK] at h1
 have h2 : xS t.kind t.num t.str t.subs.length = true := h1.1
 generalize t.kind = k at h2
 generalize t.num = n at *
 unfold xS at h2
 repeat' split at h2
 all_goals simp at h2
 all_goals omega
theorem qit {t : Tm} (h : t.chk = 0) : t.Ok := zQ t (by have := vj h; omega)
theorem qfR {t : Tm} (h : t.chk = 0) : t.kind = 1 → InB t.num := fun _ => qfL h
end Go.Av
namespace Go.Proofs.YtkgkjngbfdnoiaaGreat
open Go.Av
theorem qvg (e : Env) (n : Int) : ∃ t : Tm, EVd (EV cfg) 240 [.ptr 0 0 0, .int .i64 n] 7 (mR e true) = some (t.av, mR e true) := by
 rw [qiC]
 by_cases h : InB n
 ·exact ⟨numT n, by rw [if_pos h]⟩
 ·exact ⟨qX, by rw [if_neg h]⟩
theorem qfK {e : Env} {b : Bool} {n : Int} {k : Int} : Gets (kOpt (EVd (EV cfg) 240 [.ptr 0 0 0, .int .i64 n] 7 (mR e (false || decide (k ≠ 1)))) fun q => kTmV q.1 fun (n n_1 : Int) (s : List UInt8) (rows : List (List AV)) => some (AV.agg [.int .i64 n, .int .i64 n_1, .str s, .sl rows], q.2)) (Res e (if k = 1 then qK n else none)) := by
 by_cases h : k = 1
 ·rw [if_pos h, decide_eq_false (by simpa using h)]
  exact Gets.bind (yA e n fun r h1 h2 => h1) fun r h => yx h (zk h)
 ·rw [if_neg h, decide_eq_true (by simpa using h)]
  obtain ⟨t, ht⟩ := qvg e n
  rw [Bool.or_true, ht]
  simp only [qc, qE, qj]
  exact vm
theorem qvn (e : Env) {a b : Int} {s : List UInt8} {r : List (List AV)} : ∀ (n : Nat) (t : Tm) (c : Nat), t.w ≤ n → t.chk = 0 → c + n < 1099511627776 →
  Gets (qhs (mR e false) t.kind t.num t.str (qb t.subs) a b s r c) (Res e ((lenG t).bind fun m => qK ((c + m : Nat) : Int))) := by
 intro n
 induction n with
 | zero => intro t _ h; have := vH t; omega
 | succ n ih =>
  intro t c hw hc hn
  refine qnp _ _ _ _ _ _ _ _ _ _ ?_
  unfold zl0
  by_cases h9 : t.kind = 9
  ·obtain ⟨x, y, hs⟩ := yd hc h9
   have hwe := t.w_eq
   rw [hs] at hwe
   simp only [qV, vQ] at hwe
   have h := ih y (c + 1) (by omega) (qZ hc (by rw [hs]; simp)) (by omega)
   rw [qkv h9 hs, hs, beqI, decide_eq_true h9]
   simp only [cond_true, lt0T, lt1T, yP, ys, qc, qi, qy1, vw, qp, qt, qJ (show c < c + 1 by omega) (by omega)]
   have e1 : ((lenG y).map (· + 1)).bind (fun m => qK ((c + m : Nat) : Int)) = (lenG y).bind fun m => qK ((c + 1 + m : Nat) : Int) := by
    cases lenG y with
    | none => rw [Option.map_none, Option.bind_none, Option.bind_none]
    | some m => rw [qy7, qy0, qy0, show c + (m + 1) = c + 1 + m by omega]
   rw [e1]
   exact h
  ·rw [beqI, decide_eq_false h9, cond_false]
   by_cases h8 : t.kind = 8
   ·have : (t.kind != 8) = false := by rw [h8]; rfl
    have e0 : ((some 0).bind fun m => qK ((c + m : Nat) : Int)) = qK c := by rw [qy0, Nat.add_zero]
    rw [this, qmx h8, e0]
    exact Gets.bind (yA e c fun r h1 h2 => h1) fun r h => yx h (zk h)
   ·have : (t.kind != 8) = true := by simpa using h8
    rw [this, qku h9 h8, xK]
    simp only [cond_true, qc, qE, qj]
    exact vm
def qjN (op : List UInt8) (t : Tm) : Option Tm :=
 if op = [108, 101, 110, 103, 116, 104] then (lenG t).bind fun n => qK n
 else if t.kind = 9 then (if op = [104, 100] then t.subs[0]? else t.subs[1]?)
 else none
theorem qtn (e : Env) (op : List UInt8) {t : Tm} (hc : t.chk = 0) : Gets (EVd (EV cfg) 242 [.ptr 0 0 0, .str op, t.av] 7 (mR e false)) (Res e (qjN op t)) := by
 rw [Tm.av, Tm.cells_eq]
 refine qr1 _ _ _ _ _ _ _ _ _ _ _ _ ?_
 unfold zl1 zl0
 have hw := vj hc
 unfold qjN
 rw [beqS]
 by_cases h1 : op = [108, 101, 110, 103, 116, 104]
 ·rw [if_pos h1, decide_eq_true h1, cond_true]
  have h := qvn e (a := 0) (b := 0) (s := []) (r := []) t.w t 0 (qyN _) hc (by omega)
  simpa using h
 ·rw [if_neg h1, decide_eq_false h1, cond_false]
  by_cases h9 : t.kind = 9
  ·obtain ⟨x, y, hs⟩ := yd hc h9
   have : (t.kind != 9) = false := by rw [h9]; rfl
   rw [this, if_pos h9, hs, beqS]
   simp only [cond_false, lt0T, lt1T, yP, ys, qc, qi, qy1, vw, qp, qt, cond_true, qj]
   by_cases h2 : op = [104, 100]
   ·rw [if_pos h2, decide_eq_true h2]; exact qS
   ·rw [if_neg h2, decide_eq_false h2]; exact qS
  ·have : (t.kind != 9) = true := by simpa using h9
   rw [this, if_neg h9, xK]
   simp only [cond_true, qc, qE, qj]
   exact vm
theorem qrV {op : List UInt8} {t : Tm} : (if op = [108, 101, 110, 103, 116, 104] then (lenG t).bind fun n => qK n else if t.kind = 9 then (if op = [104, 100] then t.subs[0]? else t.subs[1]?) else none) = qjN op t := rfl
theorem qvl (e : Env) (op : List UInt8) {t : Tm} (hc : t.chk = 0) : Gets (EVd (EV cfg) 172 [.ptr 0 0 0, .str op, t.av] 7 (mR e false)) (Res e (oneG op t)) := by
 have hl := qtn e op hc
 have hn := qfL hc
 have hs := xE hc
 have w1 : IntKind.wrap .i64 (0 - t.num) = -t.num := by rw [qM (by omega) (by omega)]; omega
 rw [Tm.av, Tm.cells_eq] at hl ⊢
 refine qtm _ _ _ _ _ _ _ _ _ _ _ _ ?_
 unfold zj44 zj45 zj43 zj33 zj34 zj25 zj26 zj1 zj2 zj3
 simp only [qj, qlL, qc, qE, beqS, beqI, w1, xK, yL, qjL, vV, qe1, quV (show -9223372036854775808 ≤ t.num by omega) (by omega), qm]
 rw [qj] at hl
 unfold oneG
 by_cases h1 : op = [105, 115, 95, 97, 116, 111, 109]
 ·rw [if_pos h1, decide_eq_true h1, cond_true]; exact qS
 rw [if_neg h1, decide_eq_false h1, cond_false]
 by_cases h2 : op = [105, 115, 95, 105, 110, 116, 101, 103, 101, 114]
 ·rw [if_pos h2, decide_eq_true h2, cond_true]; exact qS
 rw [if_neg h2, decide_eq_false h2, cond_false]
 by_cases h3 : op = [105, 115, 95, 108, 105, 115, 116]
 ·rw [if_pos h3, decide_eq_true h3, cond_true]
  cases decide (t.kind = 9)
  ·exact qS
  ·exact qS
 rw [if_neg h3, decide_eq_false h3, cond_false]
 by_cases h4 : op = [105, 115, 95, 116, 117, 112, 108, 101]
 ·rw [if_pos h4, decide_eq_true h4, cond_true]; exact qS
 rw [if_neg h4, decide_eq_false h4, cond_false]
 by_cases h5 : op = [105, 115, 95, 112, 105, 100]
 ·rw [if_pos h5, decide_eq_true h5, cond_true]; exact qS
 rw [if_neg h5, decide_eq_false h5, cond_false]
 by_cases h6 : op = [105, 115, 95, 102, 117, 110, 99, 116, 105, 111, 110]
 ·rw [if_pos h6, decide_eq_true h6, cond_true]; exact qS
 rw [if_neg h6, decide_eq_false h6, cond_false]
 by_cases h7 : op = [105, 115, 95, 114, 101, 102, 101, 114, 101, 110, 99, 101]
 ·rw [if_pos h7, decide_eq_true h7, cond_true]
  cases decide (t.kind = 3)
  ·exact qS
  ·exact qS
 rw [if_neg h7, decide_eq_false h7, cond_false]
 by_cases h8 : op = [110, 111, 116]
 ·rw [if_pos h8, decide_eq_true h8, cond_true]
  cases hb : vu t with
  | none => exact vm
  | some x => rw [qai hb]; exact qS
 rw [if_neg h8, decide_eq_false h8, cond_false]
 by_cases h9 : op = [98, 110, 111, 116]
 ·rw [if_pos h9, decide_eq_true h9, cond_true]; exact qfK (b := false)
 rw [if_neg h9, decide_eq_false h9, cond_false]
 by_cases h10 : op = [43]
 ·rw [if_pos h10, decide_eq_true h10, cond_true]; exact qfK (b := false)
 rw [if_neg h10, decide_eq_false h10, cond_false]
 by_cases h11 : op = [45]
 ·rw [if_pos h11, decide_eq_true h11, cond_true]; exact qfK (b := false)
 rw [if_neg h11, decide_eq_false h11, cond_false]
 by_cases h12 : op = [97, 98, 115]
 ·rw [if_pos h12, decide_eq_true h12, cond_true]
  have e1 : (if decide (t.num < -t.num) = true then -t.num else t.num) = if t.num < 0 then -t.num else t.num := by
   by_cases h : t.num < 0
   ·rw [if_pos h, if_pos (decide_eq_true (by omega))]
   ·rw [if_neg h, if_neg (by rw [decide_eq_false (by omega)]; simp)]
  rw [e1]
  exact qfK (b := false)
 rw [if_neg h12, decide_eq_false h12, cond_false]
 have tup : Gets (bif t.kind != 7 then some (qX.av, mR e true) else kOpt (EVd (EV cfg) 240 [.ptr 0 0 0, .int .i64 ((qb t.subs).length : Int)] 7 (mR e false)) fun q => kTmV q.1 fun (n n_1 : Int) (s : List UInt8) (rows : List (List AV)) => some (AV.agg [.int .i64 n, .int .i64 n_1, .str s, .sl rows], q.2)) (Res e (if t.kind = 7 then qK t.subs.length else none)) := by
  by_cases h : t.kind = 7
  ·have : (t.kind != 7) = false := by rw [h]; rfl
   rw [this, if_pos h, cond_false, qd]
   exact Gets.bind (yA e _ fun r h1 h2 => h1) fun r h => yx h (zk h)
  ·have : (t.kind != 7) = true := by simpa using h
   rw [this, if_neg h, cond_true]
   exact vm
 by_cases h13 : op = [116, 117, 112, 108, 101, 95, 115, 105, 122, 101]
 ·rw [if_pos h13, decide_eq_true h13, cond_true]; exact tup
 rw [if_neg h13, decide_eq_false h13, cond_false]
 by_cases h14 : op = [115, 105, 122, 101]
 ·rw [if_pos h14, decide_eq_true h14, cond_true]; exact tup
 rw [if_neg h14, decide_eq_false h14, cond_false, qrV]
 exact Gets.bind hl fun r h => yx h (zk h)
theorem qr4 (e : Env) (op : List UInt8) {l : List Tm} (hl : ∀ x ∈ l, x.chk = 0) (hlen : l.length ≤ 2) (hp : op = [42] → xb) :
  Gets (EVd (EV cfg) 92 [.ptr 0 0 0, .str op, .sl (qb l)] 7 (mR e false)) (Res e (qbS op l e.self)) := by
 refine qqv _ _ _ _ _ _ _ _ _ ?_
 match l, hl, hlen with
 | [], _, _ =>
  simp only [qd, List.length_nil]
  refine ⟨_, rfl, ?_⟩
  show _ = (Tm.av _, mR e false)
  rw [Tm.av_mk, qI]
 | [a], hl, _ =>
  have h1 := qvl e op (hl a (by simp))
  have c1 : ((((qb [a]).length : Nat) : Int) == 1) = true := by rw [qd]; rfl
  rw [c1]
  simp only [cond_true, lt0T, yP, qc, qi, qy1, vw, qp, qt, qj]
  exact Gets.bind h1 fun r h => yx h (zk h)
 | [a, b], hl, _ =>
  have ha := hl a (by simp)
  have hb := hl b (by simp)
  have h1 := qvk e op (qit ha) (qit hb) (qfR ha) (qfR hb) hp
  have c1 : ((((qb [a, b]).length : Nat) : Int) == 1) = false := by rw [qd]; rfl
  have c2 : ((((qb [a, b]).length : Nat) : Int) == 2) = true := by rw [qd]; rfl
  rw [c1, c2]
  simp only [cond_true, cond_false, lt0T, lt1T, yP, ys, qc, qi, qy1, vw, qp, qt, qj]
  exact Gets.bind h1 fun r h => yx h (zk h)
 | _ :: _ :: _ :: _, _, h => simp at h
noncomputable def qxh : Den := evC cfg (EV cfg) 235 none 0 (sub (qe Tryz.f235) [1, 0, 1, 0, 0])
noncomputable def qxZ : Ex × List AV × AH → Option AV := kAft (Cfg.keepOut cfg 235 2) (kRun cfg (EV cfg) (kfN cfg 6) 235 none 0 (vX cfg (Cfg.lift cfg 235 0) Tryz.f235.results.toList) ([.block 0, .seq (sub (qe Tryz.f235) [1, 1])]))
noncomputable def qwK : List AV × AH → Option AV := fun p => kOpt (LOOP 0 (some [0, 1, 5]) ([]) qxh p) qxZ
noncomputable def qxg : Den := evC cfg (EV cfg) 93 none 0 (sub (qe Tryz.f93) [1, 1, 0, 1, 0, 0])
noncomputable def qxY : Ex × List AV × AH → Option AV := kAft (Cfg.keepOut cfg 93 3) (kRun cfg (EV cfg) (kfN cfg 6) 93 none 0 (vX cfg (Cfg.lift cfg 93 0) Tryz.f93.results.toList) ([.block 0, .seq (sub (qe Tryz.f93) [1, 1, 1])]))
noncomputable def qwJ : List AV × AH → Option AV := fun p => kOpt (LOOP 0 (some [1, 5, 6]) ([]) qxg p) qxY
noncomputable def qxi : Den := evC cfg (EV cfg) 234 none 0 (sub (qe Tryz.f234) [1, 0, 1, 0, 0])
noncomputable def qx0 : Ex × List AV × AH → Option AV := kAft (Cfg.keepOut cfg 234 2) (kRun cfg (EV cfg) (kfN cfg 6) 234 none 0 (vX cfg (Cfg.lift cfg 234 0) Tryz.f234.results.toList) ([.block 0, .seq (sub (qe Tryz.f234) [1, 1])]))
noncomputable def qwL : List AV × AH → Option AV := fun p => kOpt (LOOP 0 (some [0, 1, 5]) ([]) qxi p) qx0
noncomputable def qxj : Den := evC cfg (EV cfg) 162 none 0 (sub (qe Tryz.f162) [1, 1, 1, 0, 1, 0, 0])
noncomputable def qx1 : Ex × List AV × AH → Option AV := kAft (Cfg.keepOut cfg 162 5) (kRun cfg (EV cfg) (kfN cfg 6) 162 none 0 (vX cfg (Cfg.lift cfg 162 0) Tryz.f162.results.toList) ([.block 0, .seq (sub (qe Tryz.f162) [1, 1, 1, 1])]))
noncomputable def qwM : List AV × AH → Option AV := fun p => kOpt (LOOP 0 (some [1, 4, 5]) ([]) qxj p) qx1
noncomputable def qxl : Den := evC cfg (EV cfg) 175 none 0 (sub (qe Tryz.f175) [1, 1, 0, 1, 0, 0])
noncomputable def qx3 : Ex × List AV × AH → Option AV := kAft (Cfg.keepOut cfg 175 4) (kRun cfg (EV cfg) (kfN cfg 6) 175 none 0 (vX cfg (Cfg.lift cfg 175 0) Tryz.f175.results.toList) ([.block 0, .seq (sub (qe Tryz.f175) [1, 1, 1])]))
noncomputable def qwO : List AV × AH → Option AV := fun p => kOpt (LOOP 0 (some [1, 3]) ([]) qxl p) qx3
noncomputable def qxk : Den := evC cfg (EV cfg) 176 none 0 (sub (qe Tryz.f176) [1, 1, 1, 0, 1, 0, 1, 0, 0])
noncomputable def qx2 : Ex × List AV × AH → Option AV := kAft (Cfg.keepOut cfg 176 6) (kRun cfg (EV cfg) (kfN cfg 6) 176 none 0 (vX cfg (Cfg.lift cfg 176 0) Tryz.f176.results.toList) ([.block 0, .seq (sub (qe Tryz.f176) [1, 1, 1, 1])]))
noncomputable def qwN : List AV × AH → Option AV := fun p => kOpt (LOOP 0 (some [1, 3, 4]) ([]) qxk p) qx2
noncomputable abbrev qhB (L V : Rz) (v5 : Int) : Option (AV) := qwK  (((fx 19 [(0, .sl L), (1, .sl V), (5, .int .i64 v5)]) : List AV), ([] : AH))
noncomputable abbrev qhA (n : Int) (rows : Rz) (v6 : Int) : Option (AV) := qwJ  (((fx 21 [(1, .int .i64 n), (5, .sl rows), (6, .int .i64 v6)]) : List AV), ([] : AH))
noncomputable abbrev qhC (L : Rz) (n v5 : Int) : Option (AV) := qwL  (((fx 18 [(0, .sl L), (1, .int .i64 n), (5, .int .i64 v5)]) : List AV), ([] : AH))
noncomputable abbrev qaK (v4 v5 c0_0 c0_1 : Int) (c0_2 : Bz) (c0_3 : Rz) : Option (AV) := qwM  (((fx 73 [(1, .ptr 0 0 0), (4, .int .i64 v4), (5, .int .i64 v5)]) : List AV), ([.rows false 4 [[.int .i64 c0_0, .int .i64 c0_1, .str c0_2, .sl c0_3]]] : AH))
noncomputable abbrev qhD (v3 c0_0 c0_1 : Int) (c0_2 : Bz) (c0_3 : Rz) : Option (AV) := qwO  (((fx 21 [(1, .ptr 0 0 0), (3, .int .i64 v3)]) : List AV), ([.rows false 4 [[.int .i64 c0_0, .int .i64 c0_1, .str c0_2, .sl c0_3]]] : AH))
noncomputable abbrev yS (v3 v4 c0_0 c0_1 : Int) (c0_2 : Bz) (c0_3 : Rz) : Option (AV) := qwN  (((fx 42 [(1, .ptr 0 0 0), (3, .int .i64 v3), (4, .int .i64 v4)]) : List AV), ([.rows false 4 [[.int .i64 c0_0, .int .i64 c0_1, .str c0_2, .sl c0_3]]] : AH))
theorem qmd (kt nt : Int) (st : Bz) (lt V : Rz) {P : AV → Prop} (h : Gets (kOpt (EVs (EV cfg) 95 [.agg [.int .i64 kt, .int .i64 nt, .str st, .sl lt]]) fun v => kInt .i64 v fun n => bif n != 0 then some (.int .i64 2) else kOpt (EVs (EV cfg) 161 [.agg [.int .i64 kt, .int .i64 nt, .str st, .sl lt], .sl V]) fun v => qf v fun b => bif ! b then some (.int .i64 10) else some (.int .i64 0)) P) : Gets (EVs (EV cfg) 73 [.agg [.int .i64 kt, .int .i64 nt, .str st, .sl lt], .sl V]) P :=
  gE (fun _ => funS rfl rfl Tryz.func73 rfl) (by kernel_rfl) h
theorem qrI (kt nt : Int) (st : Bz) (lt V : Rz) {P : AV → Prop} (h : Gets (kOpt (EVs (EV cfg) 162 [.agg [.int .i64 kt, .int .i64 nt, .str st, .sl lt]]) fun v => kTup v fun cs => qa cs fun c cs => kInt .i64 c fun n => qa cs fun c cs => qf c fun b => kNil cs (bif b then kOpt (EVs (EV cfg) 234 [.sl V, .int .i64 n]) fun v => qf v fun b => some (.bool b) else bif kt == 9 then kOpt (EVs (EV cfg) 235 [.sl lt, .sl V]) fun v => qf v fun b => some (.bool b) else bif kt != 7 then some (.bool true) else bif (lt.length : Int) == 0 then some (.bool false) else bif qg 0 (lt.length : Int) then kOpt (qyG lt 0) fun row => bif qyW (qyH row) 4 then bif qyQ 4 (qyH row) then kTmC (qyM 4 row) fun n n_1 s rows => (bif (↑ (qyH lt) : Int) == 1 then bif n == 7 then kOpt (EVs (EV cfg) 235 [.sl rows, .sl V]) fun v => qf v fun b => some (.bool b) else bif n != 2 then some (.bool false) else bif s == [(99 : UInt8), (111 : UInt8), (110 : UInt8), (115 : UInt8), (116 : UInt8)] then some (.bool ((lt.length : Int) == 2)) else kOpt (EVs (EV cfg) 93 [.str s, .int .i64 (IntKind.wrap .i64 ((lt.length : Int) - 1))]) fun v => qf v fun b => bif b then bif qh 1 (↑ (qyH lt) : Int) then bif ve 4 lt then kOpt (EVs (EV cfg) 235 [.sl (qyM (qyH lt - 1) (qzj 1 lt)), .sl V]) fun v => qf v fun b => some (.bool b) else none else none else some (.bool false) else bif n != 2 then some (.bool false) else bif s == [(99 : UInt8), (111 : UInt8), (110 : UInt8), (115 : UInt8), (116 : UInt8)] then some (.bool ((lt.length : Int) == 2)) else kOpt (EVs (EV cfg) 93 [.str s, .int .i64 (IntKind.wrap .i64 ((lt.length : Int) - 1))]) fun v => qf v fun b => bif b then bif qh 1 (lt.length : Int) then bif ve 4 lt then kOpt (EVs (EV cfg) 235 [.sl (qyM (qyH lt - 1) (qzj 1 lt)), .sl V]) fun v => qf v fun b => some (.bool b) else none else none else some (.bool false)) else none else none else none)) P) : Gets (EVs (EV cfg) 161 [.agg [.int .i64 kt, .int .i64 nt, .str st, .sl lt], .sl V]) P :=
  gE (fun _ => funS rfl rfl Tryz.func161 rfl) (by kernel_rfl) h
theorem qp5 (L V : Rz) {P : AV → Prop} (h : Gets (qhB L V 0) P) : Gets (EVs (EV cfg) 235 [.sl L, .sl V]) P :=
  gE (fun _ => funS rfl rfl Tryz.func235 rfl) (by kernel_rfl) h
theorem qp1 (op : Bz) (n : Int) {P : AV → Prop} (h : Gets (kOpt (EVf (EV cfg) 174 [.str op]) fun v => kSl v fun rows => qhA n rows 0) P) : Gets (EVs (EV cfg) 93 [.str op, .int .i64 n]) P :=
  gE (fun _ => funS rfl rfl Tryz.func93 rfl) (by kernel_rfl) h
theorem qrJ (L : Rz) (n : Int) {P : AV → Prop} (h : Gets (qhC L n 0) P) : Gets (EVs (EV cfg) 234 [.sl L, .int .i64 n]) P :=
  gE (fun _ => funS rfl rfl Tryz.func234 rfl) (by kernel_rfl) h
theorem qpZ (op : Bz) {P : AV → Prop} (h : Gets (bif op == [(115 : UInt8), (101 : UInt8), (108 : UInt8), (102 : UInt8)] then some (.sl [[.int .i64 0]]) else bif op == [(105 : UInt8), (115 : UInt8), (95 : UInt8), (97 : UInt8), (116 : UInt8), (111 : UInt8), (109 : UInt8)] then some (.sl [[.int .i64 1]]) else bif op == [(105 : UInt8), (115 : UInt8), (95 : UInt8), (105 : UInt8), (110 : UInt8), (116 : UInt8), (101 : UInt8), (103 : UInt8), (101 : UInt8), (114 : UInt8)] then some (.sl [[.int .i64 1]]) else bif op == [(105 : UInt8), (115 : UInt8), (95 : UInt8), (108 : UInt8), (105 : UInt8), (115 : UInt8), (116 : UInt8)] then some (.sl [[.int .i64 1]]) else bif op == [(105 : UInt8), (115 : UInt8), (95 : UInt8), (116 : UInt8), (117 : UInt8), (112 : UInt8), (108 : UInt8), (101 : UInt8)] then some (.sl [[.int .i64 1]]) else bif op == [(105 : UInt8), (115 : UInt8), (95 : UInt8), (112 : UInt8), (105 : UInt8), (100 : UInt8)] then some (.sl [[.int .i64 1]]) else bif op == [(105 : UInt8), (115 : UInt8), (95 : UInt8), (102 : UInt8), (117 : UInt8), (110 : UInt8), (99 : UInt8), (116 : UInt8), (105 : UInt8), (111 : UInt8), (110 : UInt8)] then some (.sl [[.int .i64 1]]) else bif op == [(105 : UInt8), (115 : UInt8), (95 : UInt8), (114 : UInt8), (101 : UInt8), (102 : UInt8), (101 : UInt8), (114 : UInt8), (101 : UInt8), (110 : UInt8), (99 : UInt8), (101 : UInt8)] then some (.sl [[.int .i64 1]]) else bif op == [(110 : UInt8), (111 : UInt8), (116 : UInt8)] then some (.sl [[.int .i64 1]]) else bif op == [(98 : UInt8), (110 : UInt8), (111 : UInt8), (116 : UInt8)] then some (.sl [[.int .i64 1]]) else bif op == [(97 : UInt8), (98 : UInt8), (115 : UInt8)] then some (.sl [[.int .i64 1]]) else bif op == [(116 : UInt8), (117 : UInt8), (112 : UInt8), (108 : UInt8), (101 : UInt8), (95 : UInt8), (115 : UInt8), (105 : UInt8), (122 : UInt8), (101 : UInt8)] then some (.sl [[.int .i64 1]]) else bif op == [(115 : UInt8), (105 : UInt8), (122 : UInt8), (101 : UInt8)] then some (.sl [[.int .i64 1]]) else bif op == [(104 : UInt8), (100 : UInt8)] then some (.sl [[.int .i64 1]]) else bif op == [(116 : UInt8), (108 : UInt8)] then some (.sl [[.int .i64 1]]) else bif op == [(108 : UInt8), (101 : UInt8), (110 : UInt8), (103 : UInt8), (116 : UInt8), (104 : UInt8)] then some (.sl [[.int .i64 1]]) else bif op == [(43 : UInt8)] then some (.sl [[.int .i64 1], [.int .i64 2]]) else bif op == [(45 : UInt8)] then some (.sl [[.int .i64 1], [.int .i64 2]]) else bif op == [(61 : UInt8), (61 : UInt8)] then some (.sl [[.int .i64 2]]) else bif op == [(61 : UInt8), (58 : UInt8), (61 : UInt8)] then some (.sl [[.int .i64 2]]) else bif op == [(47 : UInt8), (61 : UInt8)] then some (.sl [[.int .i64 2]]) else bif op == [(61 : UInt8), (47 : UInt8), (61 : UInt8)] then some (.sl [[.int .i64 2]]) else bif op == [(60 : UInt8)] then some (.sl [[.int .i64 2]]) else bif op == [(61 : UInt8), (60 : UInt8)] then some (.sl [[.int .i64 2]]) else bif op == [(62 : UInt8)] then some (.sl [[.int .i64 2]]) else bif op == [(62 : UInt8), (61 : UInt8)] then some (.sl [[.int .i64 2]]) else bif op == [(97 : UInt8), (110 : UInt8), (100 : UInt8)] then some (.sl [[.int .i64 2]]) else bif op == [(111 : UInt8), (114 : UInt8)] then some (.sl [[.int .i64 2]]) else bif op == [(120 : UInt8), (111 : UInt8), (114 : UInt8)] then some (.sl [[.int .i64 2]]) else bif op == [(97 : UInt8), (110 : UInt8), (100 : UInt8), (97 : UInt8), (108 : UInt8), (115 : UInt8), (111 : UInt8)] then some (.sl [[.int .i64 2]]) else bif op == [(111 : UInt8), (114 : UInt8), (101 : UInt8), (108 : UInt8), (115 : UInt8), (101 : UInt8)] then some (.sl [[.int .i64 2]]) else bif op == [(42 : UInt8)] then some (.sl [[.int .i64 2]]) else bif op == [(100 : UInt8), (105 : UInt8), (118 : UInt8)] then some (.sl [[.int .i64 2]]) else bif op == [(114 : UInt8), (101 : UInt8), (109 : UInt8)] then some (.sl [[.int .i64 2]]) else bif op == [(98 : UInt8), (97 : UInt8), (110 : UInt8), (100 : UInt8)] then some (.sl [[.int .i64 2]]) else bif op == [(98 : UInt8), (111 : UInt8), (114 : UInt8)] then some (.sl [[.int .i64 2]]) else bif op == [(98 : UInt8), (120 : UInt8), (111 : UInt8), (114 : UInt8)] then some (.sl [[.int .i64 2]]) else bif op == [(101 : UInt8), (108 : UInt8), (101 : UInt8), (109 : UInt8), (101 : UInt8), (110 : UInt8), (116 : UInt8)] then some (.sl [[.int .i64 2]]) else some (.sl [])) P) : Gets (EVf (EV cfg) 174 [.str op]) P :=
  gE (fun _ => funF rfl rfl Tryz.func174 rfl) (by kernel_rfl) h
theorem qp9 (kt nt : Int) (st : Bz) (lt : Rz) {P : AV → Prop} (h : Gets (kOpt (EVs (EV cfg) 95 [.agg [.int .i64 kt, .int .i64 nt, .str st, .sl lt]]) fun v => kInt .i64 v fun n => bif n != 0 then some (AV.tup [.int .i64 0, .bool false]) else bif kt != 2 then some (AV.tup [.int .i64 0, .bool false]) else bif decide ((st.length : Int) < 2) then some (AV.tup [.int .i64 0, .bool false]) else bif decide ((st.length : Int) > 3) then some (AV.tup [.int .i64 0, .bool false]) else kOpt (qyG st 0) fun b => bif (↑ (UInt8.toNat b) : Int) != 36 then some (AV.tup [.int .i64 0, .bool false]) else bif (st.length : Int) == 3 then kOpt (qyG st 1) fun b => bif (↑ (UInt8.toNat b) : Int) == 48 then some (AV.tup [.int .i64 0, .bool false]) else qaK 0 1 kt nt st lt else qaK 0 1 kt nt st lt) P) : Gets (EVs (EV cfg) 162 [.agg [.int .i64 kt, .int .i64 nt, .str st, .sl lt]]) P :=
  gE (fun _ => funS rfl rfl Tryz.func162 rfl) (by kernel_rfl) h
theorem qmn (kt nt : Int) (st : Bz) (lt : Rz) {P : AV → Prop} (h : Gets (kOpt (EVs (EV cfg) 175 [.agg [.int .i64 kt, .int .i64 nt, .str st, .sl lt]]) fun v => qf v fun b => bif ! b then some (.int .i64 2) else kOpt (EVs (EV cfg) 176 [.agg [.int .i64 kt, .int .i64 nt, .str st, .sl lt]]) fun v => kInt .i64 v fun n => bif decide (n > 65536) then some (.int .i64 3) else some (.int .i64 0)) P) : Gets (EVs (EV cfg) 95 [.agg [.int .i64 kt, .int .i64 nt, .str st, .sl lt]]) P :=
  gE (fun _ => funS rfl rfl Tryz.func95 rfl) (by kernel_rfl) h
noncomputable abbrev zm0 (st : Bz) (lt : Rz) : Option (AV) := bif st == [] then some (.bool ((lt.length : Int) == 0)) else some (.bool false)
noncomputable abbrev zm1 (nt : Int) (st : Bz) (lt : Rz) : Option (AV) := kOpt (EVs (EV cfg) 295 [.int .i64 nt]) fun v => qf v fun b => bif b then zm0 st lt else some (.bool false)
theorem qqe (kt nt : Int) (st : Bz) (lt : Rz) {P : AV → Prop} (h : Gets (bif kt == 1 then bif decide (nt ≥ (- 576460752303423488)) then bif decide (nt ≤ 576460752303423487) then zm0 st lt else some (.bool false) else some (.bool false) else bif kt == 2 then bif nt == 0 then bif decide ((st.length : Int) ≤ 64) then some (.bool ((lt.length : Int) == 0)) else some (.bool false) else some (.bool false) else bif kt == 3 then zm1 nt st lt else bif kt == 4 then kOpt (EVs (EV cfg) 295 [.int .i64 nt]) fun v => qf v fun b => bif b then bif st == [] then some (.bool ((lt.length : Int) == (0 : Int))) else some (.bool false) else some (.bool false) else bif kt == 6 then zm1 nt st lt else bif kt == 5 then kOpt (EVs (EV cfg) 295 [.int .i64 nt]) fun v => qf v fun b => bif b then bif st == [] then some (.bool (decide ((lt.length : Int) ≤ 64))) else some (.bool false) else some (.bool false) else bif kt == 7 then bif nt == 0 then bif st == [] then some (.bool (decide ((lt.length : Int) ≤ 64))) else some (.bool false) else some (.bool false) else bif kt == 8 then bif nt == 0 then zm0 st lt else some (.bool false) else bif kt == 9 then bif nt == 0 then bif st == [] then some (.bool ((lt.length : Int) == 2)) else some (.bool false) else some (.bool false) else some (.bool false)) P) : Gets (EVs (EV cfg) 244 [.agg [.int .i64 kt, .int .i64 nt, .str st, .sl lt]]) P :=
  gE (fun _ => funS rfl rfl Tryz.func244 rfl) (by kernel_rfl) h
theorem qmm (kt nt : Int) (st : Bz) (lt : Rz) {P : AV → Prop} (h : Gets (kOpt (EVs (EV cfg) 244 [.agg [.int .i64 kt, .int .i64 nt, .str st, .sl lt]]) fun v => qf v fun b => bif ! b then some (.bool false) else qhD 0 kt nt st lt) P) : Gets (EVs (EV cfg) 175 [.agg [.int .i64 kt, .int .i64 nt, .str st, .sl lt]]) P :=
  gE (fun _ => funS rfl rfl Tryz.func175 rfl) (by kernel_rfl) h
theorem qml (kt nt : Int) (st : Bz) (lt : Rz) {P : AV → Prop} (h : Gets (bif kt == 5 then bif kt == 5 then yS 2 0 kt nt st lt else bif kt == 7 then yS 2 0 kt nt st lt else bif kt == 9 then yS 2 0 kt nt st lt else some (.int .i64 2) else bif kt == 7 then bif kt == 5 then yS 2 0 kt nt st lt else bif kt == 7 then yS 2 0 kt nt st lt else bif kt == 9 then yS 2 0 kt nt st lt else some (.int .i64 2) else bif kt == 5 then yS 1 0 kt nt st lt else bif kt == 7 then yS 1 0 kt nt st lt else bif kt == 9 then yS 1 0 kt nt st lt else some (.int .i64 1)) P) : Gets (EVs (EV cfg) 176 [.agg [.int .i64 kt, .int .i64 nt, .str st, .sl lt]]) P :=
  gE (fun _ => funS rfl rfl Tryz.func176 rfl) (by kernel_rfl) h
theorem qf8 (L V : Rz) (v5 : Int) {P : AV → Prop} (h : Gets (bif decide (v5 < (L.length : Int)) then bif qh 0 v5 && qg v5 (L.length : Int) then kOpt (qyG L (v5.toNat)) fun row => bif qyW (qyH row) 4 then bif qyQ 4 (qyH row) then kTmC (qyM 4 row) fun n n_1 s rows => (kOpt (EVs (EV cfg) 161 [.agg [.int .i64 n, .int .i64 n_1, .str s, .sl rows], .sl V]) fun v => qf v fun b => bif ! b then some (.bool false) else qhB L V (IntKind.wrap .i64 (v5 + 1))) else none else none else none else some (.bool true)) P) : Gets (qhB L V v5) P :=
  gE (fun _ => qn (cfg := cfg) (f := 235) (rd := none) (bs := 0)) (by kernel_rfl) h
theorem qf7 (n : Int) (rows : Rz) (v6 : Int) {P : AV → Prop} (h : Gets (bif decide (v6 < (rows.length : Int)) then bif qh 0 v6 && qg v6 (rows.length : Int) then kOpt (qyG rows (v6.toNat)) fun row => bif qyW (qyH row) 1 then kOpt (qyG row 0) fun v => kInt .i64 v fun n_1 => bif n_1 == n then some (.bool true) else qhA n rows (IntKind.wrap .i64 (v6 + 1)) else none else none else some (.bool false)) P) : Gets (qhA n rows v6) P :=
  gE (fun _ => qn (cfg := cfg) (f := 93) (rd := none) (bs := 0)) (by kernel_rfl) h
theorem qf9 (L : Rz) (n v5 : Int) {P : AV → Prop} (h : Gets (bif decide (v5 < (L.length : Int)) then bif qh 0 v5 && qg v5 (L.length : Int) then kOpt (qyG L (v5.toNat)) fun row => bif qyW (qyH row) 1 then kOpt (qyG row 0) fun v => kInt .i64 v fun n_1 => bif n_1 == n then some (.bool true) else qhC L n (IntKind.wrap .i64 (v5 + 1)) else none else none else some (.bool false)) P) : Gets (qhC L n v5) P :=
  gE (fun _ => qn (cfg := cfg) (f := 234) (rd := none) (bs := 0)) (by kernel_rfl) h
theorem qga (v4 v5 c0_0 c0_1 : Int) (c0_2 : Bz) (c0_3 : Rz) {P : AV → Prop} (h : Gets (bif decide (v5 < (c0_2.length : Int)) then bif qh 0 v5 then kOpt (qyG c0_2 (v5.toNat)) fun b => bif decide ((↑ (UInt8.toNat b) : Int) < 48) then some (AV.tup [.int .i64 0, .bool false]) else bif qh 0 v5 then kOpt (qyG c0_2 (v5.toNat)) fun b => bif decide ((↑ (UInt8.toNat b) : Int) > 57) then some (AV.tup [.int .i64 0, .bool false]) else bif qh 0 v5 then kOpt (qyG c0_2 (v5.toNat)) fun b => qaK (IntKind.wrap .i64 (IntKind.wrap .i64 (10 * v4) + IntKind.wrap .i64 (IntKind.wrap .u8 ((↑ (UInt8.toNat b) : Int) - 48)))) (IntKind.wrap .i64 (v5 + 1)) c0_0 c0_1 c0_2 c0_3 else none else none else none else some (AV.tup [.int .i64 v4, .bool true])) P) : Gets (qaK v4 v5 c0_0 c0_1 c0_2 c0_3) P :=
  gE (fun _ => qn (cfg := cfg) (f := 162) (rd := none) (bs := 0)) (by kernel_rfl) h
theorem qgc (v3 c0_0 c0_1 : Int) (c0_2 : Bz) (c0_3 : Rz) {P : AV → Prop} (h : Gets (bif decide (v3 < (c0_3.length : Int)) then bif qh 0 v3 && qg v3 (c0_3.length : Int) then kOpt (qyG c0_3 (v3.toNat)) fun row => bif qyW (qyH row) 4 then bif qyQ 4 (qyH row) then kTmC (qyM 4 row) fun n n_1 s rows => (kOpt (EVs (EV cfg) 175 [.agg [.int .i64 n, .int .i64 n_1, .str s, .sl rows]]) fun v => qf v fun b => bif ! b then some (.bool false) else qhD (IntKind.wrap .i64 (v3 + 1)) c0_0 c0_1 c0_2 c0_3) else none else none else none else some (.bool true)) P) : Gets (qhD v3 c0_0 c0_1 c0_2 c0_3) P :=
  gE (fun _ => qn (cfg := cfg) (f := 175) (rd := none) (bs := 0)) (by kernel_rfl) h
theorem qgb (v3 v4 c0_0 c0_1 : Int) (c0_2 : Bz) (c0_3 : Rz) {P : AV → Prop} (h : Gets (bif decide (v4 < (c0_3.length : Int)) then bif qh 0 v4 && qg v4 (c0_3.length : Int) then kOpt (qyG c0_3 (v4.toNat)) fun row => bif qyW (qyH row) 4 then bif qyQ 4 (qyH row) then kTmC (qyM 4 row) fun n n_1 s rows => (kOpt (EVs (EV cfg) 176 [.agg [.int .i64 n, .int .i64 n_1, .str s, .sl rows]]) fun v => kInt .i64 v fun n => yS (IntKind.wrap .i64 (v3 + n)) (IntKind.wrap .i64 (v4 + 1)) c0_0 c0_1 c0_2 c0_3) else none else none else none else some (.int .i64 v3)) P) : Gets (yS v3 v4 c0_0 c0_1 c0_2 c0_3) P :=
  gE (fun _ => qn (cfg := cfg) (f := 176) (rd := none) (bs := 0)) (by kernel_rfl) h
theorem qim (n : Int) {P : AV → Prop} (h : Gets (bif decide (n ≥ 0) then some (.bool (decide (n ≤ 1073741824))) else some (.bool false)) P) : Gets (EVs (EV cfg) 295 [.int .i64 n]) P :=
  gE (fun _ => funS rfl rfl Tryz.func295 rfl) (by kernel_rfl) h
theorem qjH (n : Int) : EVs (EV cfg) 295 [.int .i64 n] = some (.bool (decide (0 ≤ n) && decide (n ≤ 1073741824))) := by
 apply Gets.get
 refine qim _ ?_
 by_cases h : 0 ≤ n <;> simp [h]
theorem qrM (t : Tm) : EVs (EV cfg) 244 [t.av] = some (.bool t.sound) := by
 obtain ⟨k, n, s, l⟩ := t
 apply Gets.get
 rw [Tm.av_mk]
 refine qqe _ _ _ _ ?_
 unfold zm1 zm0
 simp only [Tm.sound, Tm.kind_mk, Tm.num_mk, Tm.str_mk, Tm.subs_mk, qd, beqI, qsx, xS, qjH, qc, qk]
 by_cases h1 : k = 1
 ·subst h1; simp [vC] <;> (try rw [Bool.eq_iff_iff]) <;> (try simp) <;> first | omega | grind
 by_cases h2 : k = 2
 ·subst h2; simp [vC] <;> (try rw [Bool.eq_iff_iff]) <;> (try simp) <;> first | omega | grind
 by_cases h3 : k = 3
 ·subst h3; simp [vC] <;> (try rw [Bool.eq_iff_iff]) <;> (try simp) <;> first | omega | grind
 by_cases h4 : k = 4
 ·subst h4; simp [vC] <;> (try rw [Bool.eq_iff_iff]) <;> (try simp) <;> first | omega | grind
 by_cases h6 : k = 6
 ·subst h6; simp [vC] <;> (try rw [Bool.eq_iff_iff]) <;> (try simp) <;> first | omega | grind
 by_cases h5 : k = 5
 ·subst h5; simp [vC] <;> (try rw [Bool.eq_iff_iff]) <;> (try simp) <;> first | omega | grind
 by_cases h7 : k = 7
 ·subst h7; simp [vC] <;> (try rw [Bool.eq_iff_iff]) <;> (try simp) <;> first | omega | grind
 by_cases h8 : k = 8
 ·subst h8; simp [vC] <;> (try rw [Bool.eq_iff_iff]) <;> (try simp) <;> first | omega | grind
 by_cases h9 : k = 9
 ·subst h9; simp [vC] <;> (try rw [Bool.eq_iff_iff]) <;> (try simp) <;> first | omega | grind
 simp [h1, h2, h3, h4, h5, h6, h7, h8, h9]
theorem qod (t : Tm) : t.w < 1099511627776 → EVs (EV cfg) 175 [t.av] = some (.bool t.parts) := by
 induction t using Tm.ind with
 | _ k n s l ih =>
  intro hw
  rw [Tm.w_mk] at hw
  have hlen := xB l
  have loop : ∀ d i : Nat, i + d = l.length → Gets (qhD i k n s (qb l)) (· = .bool (vn (l.drop i))) := by
   intro d
   induction d with
   | zero =>
    intro i hi
    refine qgc _ _ _ _ _ ?_
    rw [qd, decide_eq_false (by omega), qyV (by omega)]
    exact ⟨_, rfl, rfl⟩
   | succ d ihd =>
    intro i hi
    have hil : i < l.length := by omega
    refine qgc _ _ _ _ _ ?_
    have hx : l[i]? = some l[i] := qyI hil
    have hm := qyR hx
    have hd : l.drop i = l[i] :: l.drop (i + 1) := qyS hil
    have h1 := ih l[i] hm (by have := vY hm; omega)
    have h2 := ihd (i + 1) (by omega)
    rw [qd, decide_eq_true (show (i : Int) < (l.length : Int) by omega), qw, qD, decide_eq_true hil, q9 hx, qJ hil (by omega), hd, vn]
    simp only [cond_true, qy2, qi, qy1, qp, qt, show qyQ 4 4 = true from rfl, qj, h1, qc, qk]
    cases hg : l[i].parts with
    | false => exact ⟨_, rfl, rfl⟩
    | true => rw [qzg]; exact h2
  have ho := qrM (.mk k n s l)
  have h0 := loop l.length 0 (by omega)
  apply Gets.get
  rw [Tm.parts_eq]
  rw [Tm.av_mk] at ho ⊢
  refine qmm _ _ _ _ ?_
  rw [ho]
  simp only [qc, qk, Tm.subs_mk]
  cases (Tm.mk k n s l).sound with
  | false => exact ⟨_, rfl, rfl⟩
  | true => rw [qzg]; exact h0
theorem qbd {l : List Tm} (h : vn l = true) : ∀ x ∈ l, x.parts = true := by
 induction l with
 | nil => intro x hx; cases hx
 | cons y l ih =>
  rw [vn, qyK] at h
  intro x hx
  cases hx with
  | head => exact h.1
  | tail _ hx => exact ih h.2 x hx
theorem qob (t : Tm) : t.w < 1099511627776 → t.parts = true → EVs (EV cfg) 176 [t.av] = some (.int .i64 (t.words : Int)) := by
 induction t using Tm.ind with
 | _ k n s l ih =>
  intro hw hp
  have hww := qsX (.mk k n s l)
  rw [Tm.w_mk] at hw hww
  have hlen := xB l
  rw [Tm.parts, qyK] at hp
  obtain ⟨hp, hpl⟩ := hp
  have loop : ∀ d i acc : Nat, i + d = l.length → acc + qU (l.drop i) < 9007199254740992 → Gets (yS acc i k n s (qb l)) (· = .int .i64 ((acc + qU (l.drop i) : Nat) : Int)) := by
   intro d
   induction d with
   | zero =>
    intro i acc hi _
    refine qgb _ _ _ _ _ _ ?_
    rw [qd, decide_eq_false (by omega), qyV (by omega)]
    exact ⟨_, rfl, rfl⟩
   | succ d ihd =>
    intro i acc hi hacc
    have hil : i < l.length := by omega
    refine qgb _ _ _ _ _ _ ?_
    have hx : l[i]? = some l[i] := qyI hil
    have hm := qyR hx
    have hd : l.drop i = l[i] :: l.drop (i + 1) := qyS hil
    have h1 := ih l[i] hm (by have := vY hm; omega) (qbd hpl _ hm)
    rw [hd, qU] at hacc
    have h2 := ihd (i + 1) (acc + (l[i]).words) (by omega) (by omega)
    have w1 : IntKind.wrap .i64 ((acc : Int) + ((l[i]).words : Int)) = ((acc + (l[i]).words : Nat) : Int) := by rw [qM (by omega) (by omega)]; omega
    rw [qd, decide_eq_true (show (i : Int) < (l.length : Int) by omega), qw, qD, decide_eq_true hil, q9 hx, qJ hil (by omega), hd, qU]
    simp only [cond_true, qy2, qi, qy1, qp, qt, show qyQ 4 4 = true from rfl, qj, h1, qc, qm, w1]
    rw [← Nat.add_assoc]
    exact h2
  have hwo : (Tm.mk k n s l).words = (Tm.mk k n s l).own + qU l := by rw [Tm.words]
  rw [hwo] at hww ⊢
  have ho := (Tm.mk k n s l).own_le
  have h0 := loop l.length 0 (Tm.mk k n s l).own (by omega) (by rw [qzk]; omega)
  rw [qzk] at h0
  apply Gets.get
  rw [Tm.av_mk]
  refine qml _ _ _ _ ?_
  by_cases h5 : k = 5
  ·subst h5
   have o2 : (Tm.mk 5 n s l).own = 2 := by simp [Tm.own]
   rw [o2] at h0 ⊢; exact h0
  by_cases h7 : k = 7
  ·subst h7
   have o2 : (Tm.mk 7 n s l).own = 2 := by simp [Tm.own]
   rw [o2] at h0 ⊢; exact h0
  have o1 : (Tm.mk k n s l).own = 1 := by simp [Tm.own, h5, h7]
  rw [o1] at h0 ⊢
  by_cases h9 : k = 9
  ·subst h9; exact h0
  have e5 : (k == 5) = false := by simpa using h5
  have e7 : (k == 7) = false := by simpa using h7
  have e9 : (k == 9) = false := by simpa using h9
  have hl : l = [] := by
   have : xS k n s l.length = true → l.length = 0 := by
    unfold xS
    rw [if_neg h5, if_neg h7, if_neg h9]
    intro h
    repeat' split at h
    all_goals simp at h
    all_goals simp [h]
   exact List.length_eq_zero_iff.1 (this hp)
  subst hl
  rw [e5, e7, e9]
  exact ⟨_, rfl, rfl⟩
theorem xf {t : Tm} (h : t.w < 1099511627776) : EVs (EV cfg) 95 [t.av] = some (.int .i64 t.chk) := by
 have hp := qod t h
 have hw := qob t h
 apply Gets.get
 rw [Tm.av, Tm.cells_eq] at hp hw ⊢
 refine qmn _ _ _ _ ?_
 rw [hp]
 have hc : t.chk = if t.parts then (if 65536 < t.words then 3 else 0) else 2 := by
  unfold Tm.chk chkS
  simp [vn, qU]
 rw [hc]
 simp only [qc, qk]
 cases ht : t.parts with
 | false => exact ⟨_, rfl, rfl⟩
 | true =>
  rw [hw ht]
  simp only [qc, qm, qzh, cond_false, if_true]
  by_cases hg : 65536 < t.words
  ·rw [decide_eq_true (show ((t.words : Int) > 65536) by omega), if_pos hg]; exact ⟨_, rfl, rfl⟩
  ·rw [decide_eq_false (show ¬ ((t.words : Int) > 65536) by omega), if_neg hg]; exact ⟨_, rfl, rfl⟩
theorem qtb (l : List Int) (hl : l.length < 1099511627776) (n : Int) : EVs (EV cfg) 234 [.sl (qx l), .int .i64 n] = some (.bool (decide (n ∈ l))) := by
 have loop : ∀ d i : Nat, i + d = l.length → Gets (qhC (qx l) n i) (· = .bool (decide (n ∈ l.drop i))) := by
  intro d
  induction d with
  | zero =>
   intro i hi
   refine qf9 _ _ _ ?_
   rw [q4, decide_eq_false (by omega), qyV (by omega)]
   exact ⟨_, rfl, by simp⟩
  | succ d ih =>
   intro i hi
   have hil : i < l.length := by omega
   refine qf9 _ _ _ ?_
   have hx : l[i]? = some l[i] := qyI hil
   have hd : l.drop i = l[i] :: l.drop (i + 1) := qyS hil
   have h := ih (i + 1) (by omega)
   rw [q4, decide_eq_true (show (i : Int) < (l.length : Int) by omega), qw, qD, decide_eq_true hil, ql, qy3, qaT, hx, qJ hil hl, hd]
   by_cases he : l[i] = n
   ·refine ⟨.bool true, ?_, ?_⟩
    ·simp [he]
    ·rw [he]; simp
   ·have hne : (l[i] == n) = false := by rw [beqI]; exact decide_eq_false he
    have hm : decide (n ∈ l[i] :: l.drop (i + 1)) = decide (n ∈ l.drop (i + 1)) := decide_eq_decide.2 (by rw [qzm]; exact ⟨fun h => h.resolve_left (fun e => he e.symm), Or.inr⟩)
    rw [hm]
    simpa [hne] using h
 apply Gets.get
 exact qrJ _ _ (by simpa using loop l.length 0 (by omega))
theorem qrF (op : List UInt8) : EVf (EV cfg) 174 [.str op] = some (.sl (qx (opsG op))) := by
 apply Gets.get
 refine qpZ _ ?_
 have h := qeT (fun l => some (AV.sl (qx l))) op [] qbJ
 have : Gets (xO op (some (AV.sl (qx []))) (qbJ.map fun p => (p.1, some (AV.sl (qx p.2))))) (· = .sl (qx (opsG op))) := by
  rw [h]; exact ⟨_, rfl, rfl⟩
 exact this
end Go.Proofs.YtkgkjngbfdnoiaaGreat
end
section
namespace Go.Av
def tbR (o : Option Tm) : AV := .tup [(o.getD qX).av, .bool o.isSome]
def RB (o : Option Tm) (v : AV) : Prop := ∃ t : Tm, v = .tup [t.av, .bool o.isSome] ∧ ∀ x, o = some x → t = x
theorem RB.of {o : Option Tm} : RB o (tbR o) := ⟨_, rfl, fun x h => by rw [h]; rfl⟩
theorem RB.some {t : Tm} {v : AV} (h : RB (some t) v) : v = .tup [t.av, .bool true] := by
 obtain ⟨x, rfl, h⟩ := h
 rw [h t rfl]; rfl
theorem kTB {α : Type} (t : Tm) (b : Bool) (K : Int → Int → List UInt8 → List (List AV) → Bool → Option α) : (kTup (.tup [t.av, .bool b]) fun cs => qa cs fun c cs => kAgg c fun cs_1 => qa cs_1 fun c cs_2 => kInt .i64 c fun n => qa cs_2 fun c cs_3 => kInt .i64 c fun n_1 => qa cs_3 fun c cs_4 => kStr c fun s => qa cs_4 fun c cs_5 => kSl c fun rows => kNil cs_5 (qa cs fun c cs => qf c fun b => kNil cs (K n n_1 s rows b))) = K t.kind t.num t.str (qb t.subs) b := by
 obtain ⟨k, n, s, l⟩ := t
 rw [Tm.av_mk]; rfl
theorem qbB (o : Option Tm) : tbR o = .tup [(o.getD qX).av, .bool o.isSome] := rfl
theorem qfC : (some (AV.tup [qX.av, .bool false])) = some (tbR none) := rfl
theorem qvd {op : List UInt8} (h : (1 : Int) ∈ opsG op) : op ∈ ([[105, 115, 95, 97, 116, 111, 109], [105, 115, 95, 105, 110, 116, 101, 103, 101, 114], [105, 115, 95, 108, 105, 115, 116], [105, 115, 95, 116, 117, 112, 108, 101], [105, 115, 95, 112, 105, 100], [105, 115, 95, 102, 117, 110, 99, 116, 105, 111, 110], [105, 115, 95, 114, 101, 102, 101, 114, 101, 110, 99, 101], [110, 111, 116], [98, 110, 111, 116], [97, 98, 115], [116, 117, 112, 108, 101, 95, 115, 105, 122, 101], [115, 105, 122, 101], [104, 100], [116, 108], [108, 101, 110, 103, 116, 104], [43], [45]] : List (List UInt8)) := by
 have : ∀ (l : List (List UInt8 × List Int)), (1 : Int) ∈ xO op [] l → ∃ p ∈ l, p.1 = op ∧ (1 : Int) ∈ p.2 := by
  intro l
  induction l with
  | nil => intro h; simp [xO] at h
  | cons p l ih =>
   intro h
   rw [xO] at h
   cases hp : op == p.1
   ·rw [hp] at h
    obtain ⟨q, h1, h2⟩ := ih h
    exact ⟨q, List.mem_cons_of_mem _ h1, h2⟩
   ·rw [hp] at h
    rw [beqS, decide_eq_true_eq] at hp
    exact ⟨p, List.mem_cons_self, hp.symm, h⟩
 obtain ⟨p, h1, rfl, h2⟩ := this _ h
 clear this h
 revert p
 decide
theorem qvc {op : List UInt8} (h : (2 : Int) ∈ opsG op) : op ∈ ([[43], [45], [61, 61], [61, 58, 61], [47, 61], [61, 47, 61], [60], [61, 60], [62], [62, 61], [97, 110, 100], [111, 114], [120, 111, 114], [97, 110, 100, 97, 108, 115, 111], [111, 114, 101, 108, 115, 101], [42], [100, 105, 118], [114, 101, 109], [98, 97, 110, 100], [98, 111, 114], [98, 120, 111, 114], [101, 108, 101, 109, 101, 110, 116]] : List (List UInt8)) := by
 have : ∀ (l : List (List UInt8 × List Int)), (2 : Int) ∈ xO op [] l → ∃ p ∈ l, p.1 = op ∧ (2 : Int) ∈ p.2 := by
  intro l
  induction l with
  | nil => intro h; simp [xO] at h
  | cons p l ih =>
   intro h
   rw [xO] at h
   cases hp : op == p.1
   ·rw [hp] at h
    obtain ⟨q, h1, h2⟩ := ih h
    exact ⟨q, List.mem_cons_of_mem _ h1, h2⟩
   ·rw [hp] at h
    rw [beqS, decide_eq_true_eq] at hp
    exact ⟨p, List.mem_cons_self, hp.symm, h⟩
 obtain ⟨p, h1, rfl, h2⟩ := this _ h
 clear this h
 revert p
 decide
end Go.Av
namespace Go.Proofs.YtkgkjngbfdnoiaaGreat
open Go.Av
theorem qaB (b : Bool) : EVf (EV cfg) 245 [.bool b] = some (vh b).av := by
 apply Gets.get
 refine ql8 _ ?_
 rw [vh, qo4]
 cases b <;> exact ⟨_, rfl, rfl⟩
theorem ze (t : Tm) : EVs (EV cfg) 237 [t.av] = some (.tup [.bool ((vu t).getD false), .bool (vu t).isSome]) := by
 apply Gets.get
 rw [Tm.av, Tm.cells_eq]
 refine qkV _ _ _ _ ?_
 unfold vu
 simp only [beqS, show ([116, 114, 117, 101] : List UInt8) = tru from rfl, show ([102, 97, 108, 115, 101] : List UInt8) = fal from rfl]
 by_cases h : t.kind = 2
 ·have e0 : (t.kind != 2) = false := by rw [h]; rfl
  rw [e0, cond_false]
  by_cases h1 : t.str = tru
  ·rw [if_pos ⟨h, h1⟩, decide_eq_true h1]; exact ⟨_, rfl, rfl⟩
  ·rw [if_neg (fun e => h1 e.2), decide_eq_false h1]
   by_cases h2 : t.str = fal
   ·rw [if_pos ⟨h, h2⟩, decide_eq_true h2]; exact ⟨_, rfl, rfl⟩
   ·rw [if_neg (fun e => h2 e.2), decide_eq_false h2]; exact ⟨_, rfl, rfl⟩
 ·have e0 : (t.kind != 2) = true := by simpa using h
  rw [e0, if_neg (fun e => h e.1), if_neg (fun e => h e.1)]; exact ⟨_, rfl, rfl⟩
theorem ql4 (n : Int) : EVf (EV cfg) 247 [.int .i64 n] = some (tbR (qK n)) := by
 apply Gets.get
 refine qkT _ ?_
 unfold ze0
 unfold qK
 rw [← vq, ← qfM]
 by_cases h1 : n < -576460752303423488
 ·rw [decide_eq_true h1, if_neg (fun h : InB n => by obtain ⟨a, b⟩ := h; omega)]; exact ⟨_, rfl, rfl⟩
 ·rw [decide_eq_false h1, cond_false]
  by_cases h2 : n > 576460752303423487
  ·rw [decide_eq_true h2, if_neg (fun h : InB n => by obtain ⟨a, b⟩ := h; omega)]; exact ⟨_, rfl, rfl⟩
  ·rw [decide_eq_false h2, cond_false, if_pos (show InB n from ⟨by omega, by omega⟩)]; exact ⟨_, rfl, rfl⟩
theorem xi (op : List UInt8) (c : Int) : EVs (EV cfg) 249 [.str op, .int .i64 c] = some (.bool (
  if op = [61, 61] then decide (c = 0) else if op = [61, 58, 61] then decide (c = 0) else if op = [47, 61] then !decide (c = 0) else if op = [61, 47, 61] then !decide (c = 0)
  else if op = [60] then decide (c < 0) else if op = [61, 60] then decide (c ≤ 0) else if op = [62] then decide (c > 0) else decide (c ≥ 0))) := by
 apply Gets.get
 refine qij _ _ ?_
 have hne : (c != 0) = !decide (c = 0) := by rw [bne, beqI]
 simp only [beqS, hne, beqI]
 repeat' first
  | exact ⟨_, rfl, rfl⟩
  | (split <;> rename_i h <;> simp only [h, decide_true, cond_true, decide_false, cond_false])
theorem xc (n : Int) : Gets (kOpt (EVf (EV cfg) 247 [.int .i64 n]) fun (v : AV) => kTup v fun (cs : List AV) => qa cs fun (c : AV) (cs : List AV) => kAgg c fun (cs_1 : List AV) => qa cs_1 fun (c : AV) (cs_2 : List AV) => kInt .i64 c fun (n : Int) => qa cs_2 fun (c : AV) (cs_3 : List AV) => kInt .i64 c fun (n_1 : Int) => qa cs_3 fun (c : AV) (cs_4 : List AV) => kStr c fun (s : List UInt8) => qa cs_4 fun (c : AV) (cs_5 : List AV) => kSl c fun (rows : List (List AV)) => kNil cs_5 (qa cs fun (c : AV) (cs : List AV) => qf c fun (b : Bool) => kNil cs (some (AV.tup [.agg [.int .i64 n, .int .i64 n_1, .str s, .sl rows], .bool b])))) (· = tbR (qK n)) := by
 rw [ql4]
 simp only [qc, qbB, kTB, qj]
 exact ⟨_, rfl, rfl⟩
theorem qkW {a b : Int} (ha : InB a) (hb : InB b) : EVf (EV cfg) 296 [.int .i64 a, .int .i64 b] = some (tbR (qK (a * b))) := by
 obtain ⟨a1, a2⟩ := ha
 obtain ⟨b1, b2⟩ := hb
 have no : ∀ {P : Prop}, ¬ InB (a * b) → (· = tbR (qK (a * b))) (tbR none) := by
  intro P h
  show _ = _
  unfold qK
  rw [if_neg h]
 have fin : InB (a * b) → Gets (kOpt (EVf (EV cfg) 247 [.int .i64 (IntKind.wrap .i64 (a * b))]) fun (v : AV) => kTup v fun (cs : List AV) => qa cs fun (c : AV) (cs : List AV) => kAgg c fun (cs_1 : List AV) => qa cs_1 fun (c : AV) (cs_2 : List AV) => kInt .i64 c fun (n : Int) => qa cs_2 fun (c : AV) (cs_3 : List AV) => kInt .i64 c fun (n_1 : Int) => qa cs_3 fun (c : AV) (cs_4 : List AV) => kStr c fun (s : List UInt8) => qa cs_4 fun (c : AV) (cs_5 : List AV) => kSl c fun (rows : List (List AV)) => kNil cs_5 (qa cs fun (c : AV) (cs : List AV) => qf c fun (b : Bool) => kNil cs (some (AV.tup [.agg [.int .i64 n, .int .i64 n_1, .str s, .sl rows], .bool b])))) (· = tbR (qK (a * b))) := by
  rintro ⟨h1, h2⟩
  rw [qM (by omega) (by omega)]
  exact xc _
 apply Gets.get
 refine qjC _ _ ?_
 unfold ze35 ze36 ze37 ze30 ze31 ze32 ze33 ze34 ze24 ze25 ze26 ze27 ze28 ze29 ze18 ze19 ze20 ze21 ze22 ze23 ze1 ze2 ze3 ze4 ze5 ze6 ze7 ze8 ze9 ze10 ze11 ze12 ze13 ze14 ze15 ze16 ze17 ze0
 rw [← vq, qfC]
 rw [beqI, beqI]
 by_cases z1 : a = 0
 ·rw [decide_eq_true z1, cond_true, z1, Int.zero_mul]; exact xc _
 rw [decide_eq_false z1, cond_false]
 by_cases z2 : b = 0
 ·rw [decide_eq_true z2, cond_true, z2, Int.mul_zero]; exact xc _
 rw [decide_eq_false z2, cond_false]
 have neg : ∀ {x : Int}, ¬ InB (a * b) → Gets (some (tbR none)) (· = tbR (qK (a * b))) := fun {_} h => ⟨_, rfl, no (P := True) h⟩
 have q0 : ∀ M y : Int, 0 ≤ M → 0 < y → 0 ≤ M / y ∧ M / y ≤ M := fun M y hM hy => ⟨Int.ediv_nonneg hM (by omega), Int.ediv_le_self y hM⟩
 have q1 : ∀ M x y : Int, 0 < y → (x > M / y ↔ x * y > M) := fun M x y hy => by
  have := Int.le_ediv_iff_mul_le (a := x) (b := M) hy
  omega
 rcases Int.lt_or_gt_of_ne z1 with sa | sa
 ·have d1 : decide (a > 0) = false := decide_eq_false (by omega)
  have d2 : decide (a < 0) = true := decide_eq_true sa
  rcases Int.lt_or_gt_of_ne z2 with sb | sb
  ·have d3 : decide (b > 0) = false := decide_eq_false (by omega)
   have d4 : decide (b < 0) = true := decide_eq_true sb
   have e1 : (576460752303423487 : Int).tdiv b = -(576460752303423487 / (-b)) := by
    rw [show b = -(-b) by omega, Int.tdiv_neg, Int.neg_neg, Int.tdiv_eq_ediv_of_nonneg (by omega)]
   obtain ⟨h1, h2⟩ := q0 576460752303423487 (-b) (by omega) (by omega)
   have h3 := q1 576460752303423487 (-a) (-b) (by omega)
   have e2 : (-a) * (-b) = a * b := Int.neg_mul_neg a b
   rw [e2] at h3
   have hp : 0 < a * b := by rw [← e2]; exact Int.mul_pos (by omega) (by omega)
   rw [xY z2, e1, qM (by omega) (by omega)]
   simp only [d1, d2, d3, d4, cond_true, cond_false, qc, qm]
   by_cases h : a < -(576460752303423487 / (-b))
   ·rw [decide_eq_true h, cond_true]; exact neg (x := 0) fun ⟨_, g⟩ => by omega
   ·rw [decide_eq_false h, cond_false]; exact fin ⟨by omega, by omega⟩
  ·have d3 : decide (b > 0) = true := decide_eq_true sb
   have d4 : decide (b < 0) = false := decide_eq_false (by omega)
   have e1 : (-576460752303423488 : Int).tdiv b = -(576460752303423488 / b) := by
    rw [show (-576460752303423488 : Int) = -(576460752303423488) by omega, Int.neg_tdiv, Int.tdiv_eq_ediv_of_nonneg (by omega)]
   obtain ⟨h1, h2⟩ := q0 576460752303423488 b (by omega) (by omega)
   have h3 := q1 576460752303423488 (-a) b (by omega)
   have e2 : (-a) * b = -(a * b) := Int.neg_mul a b
   rw [e2] at h3
   have hp : 0 < -(a * b) := by rw [← e2]; exact Int.mul_pos (by omega) (by omega)
   rw [xY z2, xY z2, e1, qM (x := -(576460752303423488 / b)) (by omega) (by omega)]
   simp only [d1, d2, d3, d4, cond_true, cond_false, qc, qm]
   by_cases h : a < -(576460752303423488 / b)
   ·rw [decide_eq_true h, cond_true]; exact neg (x := 0) fun ⟨g, _⟩ => by omega
   ·rw [decide_eq_false h, cond_false]; exact fin ⟨by omega, by omega⟩
 ·have d1 : decide (a > 0) = true := decide_eq_true sa
  have d2 : decide (a < 0) = false := decide_eq_false (by omega)
  rcases Int.lt_or_gt_of_ne z2 with sb | sb
  ·have d3 : decide (b > 0) = false := decide_eq_false (by omega)
   have d4 : decide (b < 0) = true := decide_eq_true sb
   have e1 : (-576460752303423488 : Int).tdiv a = -(576460752303423488 / a) := by
    rw [show (-576460752303423488 : Int) = -(576460752303423488) by omega, Int.neg_tdiv, Int.tdiv_eq_ediv_of_nonneg (by omega)]
   obtain ⟨h1, h2⟩ := q0 576460752303423488 a (by omega) (by omega)
   have h3 := q1 576460752303423488 (-b) a (by omega)
   have e2 : (-b) * a = -(a * b) := by rw [Int.neg_mul, Int.mul_comm]
   rw [e2] at h3
   have hp : 0 < -(a * b) := by rw [← e2]; exact Int.mul_pos (by omega) (by omega)
   rw [xY z2, xY z2, xY z1, e1, qM (x := -(576460752303423488 / a)) (by omega) (by omega)]
   simp only [d1, d2, d3, d4, cond_true, cond_false, qc, qm]
   by_cases h : b < -(576460752303423488 / a)
   ·rw [decide_eq_true h, cond_true]; exact neg (x := 0) fun ⟨g, _⟩ => by omega
   ·rw [decide_eq_false h, cond_false]; exact fin ⟨by omega, by omega⟩
  ·have d3 : decide (b > 0) = true := decide_eq_true sb
   have d4 : decide (b < 0) = false := decide_eq_false (by omega)
   have e1 : (576460752303423487 : Int).tdiv b = 576460752303423487 / b := Int.tdiv_eq_ediv_of_nonneg (by omega)
   obtain ⟨h1, h2⟩ := q0 576460752303423487 b (by omega) (by omega)
   have h3 := q1 576460752303423487 a b (by omega)
   have hp : 0 < a * b := Int.mul_pos (by omega) (by omega)
   rw [xY z2, e1, qM (x := 576460752303423487 / b) (by omega) (by omega)]
   simp only [d1, d2, d3, d4, cond_true, cond_false, qc, qm]
   by_cases h : a > 576460752303423487 / b
   ·rw [decide_eq_true h, cond_true]; exact neg (x := 0) fun ⟨_, g⟩ => by omega
   ·rw [decide_eq_false h, cond_false]; exact fin ⟨by omega, by omega⟩
theorem qmo {a b : Int} (ha : InB a) (hb : InB b) : Gets (kOpt (EVf (EV cfg) 296 [.int .i64 a, .int .i64 b]) fun (v : AV) => kTup v fun (cs : List AV) => qa cs fun (c : AV) (cs : List AV) => kAgg c fun (cs_1 : List AV) => qa cs_1 fun (c : AV) (cs_2 : List AV) => kInt .i64 c fun (n : Int) => qa cs_2 fun (c : AV) (cs_3 : List AV) => kInt .i64 c fun (n_1 : Int) => qa cs_3 fun (c : AV) (cs_4 : List AV) => kStr c fun (s : List UInt8) => qa cs_4 fun (c : AV) (cs_5 : List AV) => kSl c fun (rows : List (List AV)) => kNil cs_5 (qa cs fun (c : AV) (cs : List AV) => qf c fun (b : Bool) => kNil cs (some (AV.tup [.agg [.int .i64 n, .int .i64 n_1, .str s, .sl rows], .bool b])))) (· = tbR (qK (a * b))) := by
 rw [qkW ha hb]
 simp only [qc, qbB, kTB, qj]
 exact ⟨_, rfl, rfl⟩
theorem qkX {op : List UInt8} (h : op ∈ ([[43], [45], [42], [98, 97, 110, 100], [98, 111, 114], [98, 120, 111, 114], [100, 105, 118], [114, 101, 109]] : List (List UInt8))) {a b : Int} (ha : InB a) (hb : InB b) :
  EVf (EV cfg) 251 [.str op, .int .i64 a, .int .i64 b] = some (tbR (xF op a b)) := by
 obtain ⟨a1, a2⟩ := ha
 obtain ⟨b1, b2⟩ := hb
 have hp := qmo ⟨a1, a2⟩ ⟨b1, b2⟩
 have h1 := qpn (a := a) (b := b) ⟨a1, a2⟩ ⟨b1, b2⟩
 have h2 := qsu (a := a) (b := b) ⟨a1, a2⟩ ⟨b1, b2⟩
 have h3 := qpm (a := a) (b := b) ⟨a1, a2⟩ ⟨b1, b2⟩
 have w1 : IntKind.wrap .i64 (a + b) = a + b := qM (by omega) (by omega)
 have w2 : IntKind.wrap .i64 (a - b) = a - b := qM (by omega) (by omega)
 apply Gets.get
 refine qjD _ _ _ ?_
 unfold ze55 ze56 ze60 ze57 ze58 ze59 ze2 ze3 ze4 ze5 ze6 ze7 ze8 ze9 ze10 ze11 ze12 ze13 ze14 ze15 ze16 ze17 ze0
 rw [← vq, qfC, w1, w2]
 simp only [beqS, beqI]
 simp only [qzm, List.not_mem_nil, or_false] at h
 rcases h with rfl | rfl | rfl | rfl | rfl | rfl | rfl | rfl
 ·exact xc _
 ·exact xc _
 ·exact hp
 ·simp only [h1, qc, qm]; exact xc _
 ·simp only [h2, qc, qm]; exact xc _
 ·simp only [h3, qc, qm]; exact xc _
 ·by_cases z : b = 0
  ·rw [decide_eq_true z]
   unfold xF
   simp only [if_pos z]
   exact ⟨_, rfl, rfl⟩
  ·rw [decide_eq_false z]
   have := qlO (a := a) z
   rw [xY z, qM (by omega) (by omega)]
   unfold xF
   simp only [if_neg z]
   exact xc _
 ·by_cases z : b = 0
  ·rw [decide_eq_true z]
   unfold xF
   simp only [if_pos z]
   exact ⟨_, rfl, rfl⟩
  ·rw [decide_eq_false z]
   rw [qiX z]
   unfold xF
   simp only [if_neg z]
   exact xc _
theorem qa2 (a b : Int) : EVs (EV cfg) 227 [.int .i64 a, .int .i64 b] = some (.int .i64 (numC a b)) := by
 apply Gets.get
 refine qjF _ _ ?_
 unfold numC
 by_cases h : a < b
 ·rw [decide_eq_true h, if_pos h]; exact ⟨_, rfl, rfl⟩
 ·rw [decide_eq_false h, if_neg h, cond_false]
  by_cases h : b < a
  ·rw [decide_eq_true (show a > b from h), if_pos h]; exact ⟨_, rfl, rfl⟩
  ·rw [decide_eq_false (show ¬ a > b from h), if_neg h]; exact ⟨_, rfl, rfl⟩
theorem qn9 (a b : List UInt8) : EVs (EV cfg) 228 [.str a, .str b] = some (.int .i64 (strC a b)) := by
 apply Gets.get
 refine qmj _ _ ?_
 unfold strC
 rw [beqS]
 by_cases h : a = b
 ·subst h
  rw [qbQ, if_pos rfl, decide_eq_true rfl]; exact ⟨_, rfl, rfl⟩
 ·rw [if_neg h, decide_eq_false h]
  cases Op.bytesLess a b <;> exact ⟨_, rfl, rfl⟩
theorem qoa (la lb : List Tm) (hlen : la.length < 1099511627776) (ih : ∀ a ∈ la, ∀ b ∈ lb, EVs (EV cfg) 151 [a.av, b.av] = some (.int .i64 (cmpT a b))) :
  EVs (EV cfg) 229 [.sl (qb la), .sl (qb lb)] = some (.int .i64 (cmpL la lb)) := by
 have stop : ∀ (c : Int) (i : Nat), c ≠ 0 → Gets (qcF (qb la) (qb lb) c i) (· = .int .i64 c) := by
  intro c i hc
  refine qbu _ _ _ _ ?_
  rw [beqI, decide_eq_false hc]
  cases decide ((i : Int) < ((qb la).length : Int)) <;> exact ⟨_, rfl, rfl⟩
 have loop : la.length = lb.length → ∀ (d i : Nat), i + d = la.length → Gets (qcF (qb la) (qb lb) 0 i) (· = .int .i64 (cmpE (la.drop i) (lb.drop i))) := by
  intro hl d
  induction d with
  | zero =>
   intro i hi
   refine qbu _ _ _ _ ?_
   rw [qd, decide_eq_false (by omega), qyV (by omega), qyV (by omega), qhi]
   exact ⟨_, rfl, rfl⟩
  | succ d ihd =>
   intro i hi
   have hil : i < la.length := by omega
   have hil' : i < lb.length := by omega
   have hx : la[i]? = some la[i] := qyI hil
   have hy : lb[i]? = some lb[i] := qyI hil'
   have h1 := ih _ (qyR hx) _ (qyR hy)
   refine qbu _ _ _ _ ?_
   rw [qd, qd, decide_eq_true (show (i : Int) < (la.length : Int) by omega), qw, qD, qD, decide_eq_true hil, decide_eq_true hil', q9 hx, qyS hil, qyS hil', qce, qJ hil hlen]
   simp only [cond_true, qy2, qi, qy1, qp, qt, vw, beqI, decide_true, q9 hy, qj, h1, qc, qm]
   by_cases h0 : cmpT la[i] lb[i] = 0
   ·rw [h0, if_neg (by omega)]; exact ihd (i + 1) (by omega)
   ·rw [if_pos h0]; exact stop _ _ h0
 apply Gets.get
 refine qmk _ _ ?_
 rw [qa2]
 simp only [qc, qm, qd]
 unfold cmpL
 by_cases h : numC la.length lb.length = 0
 ·have hl := qkt.1 h
  rw [h, if_neg (by omega)]
  simpa using loop (by omega) la.length 0 (by omega)
 ·rw [if_pos h]; exact stop _ 0 h
theorem qk1 : ∀ (n : Nat) (a b : Tm), a.w ≤ n → n < 1099511627776 → EVs (EV cfg) 151 [a.av, b.av] = some (.int .i64 (cmpT a b)) := by
 intro n
 induction n with
 | zero => intro a b h; have := vH a; omega
 | succ n ih =>
  intro a b hw hn
  obtain ⟨k, m, s, l⟩ := a
  obtain ⟨k', m', s', l'⟩ := b
  rw [Tm.w_mk] at hw
  have hlen := xB l
  have hl := qoa l l' (by omega) (fun x hx y _ => ih x y (by have := vY hx; omega) (by omega))
  apply Gets.get
  rw [Tm.av_mk, Tm.av_mk]
  refine qjG _ _ _ _ _ _ _ _ ?_
  unfold qln qhr
  rw [qpl, qa2, qa2, qn9, hl]
  simp only [qc, qm, beqI]
  have bne0 : ∀ z : Int, (z != 0) = !decide (z = 0) := fun z => by rw [bne, beqI]
  simp only [bne0]
  by_cases h : numC k k' = 0
  ·rw [if_neg (by omega), decide_eq_true h]
   simp only [qzh, cond_false]
   by_cases h1 : k = 1
   ·rw [if_pos (Or.inl h1), decide_eq_true h1]; exact ⟨_, rfl, rfl⟩
   rw [decide_eq_false h1, cond_false]
   by_cases h3 : k = 3
   ·rw [if_pos (Or.inr (Or.inl h3)), decide_eq_true h3]; exact ⟨_, rfl, rfl⟩
   rw [decide_eq_false h3, cond_false]
   by_cases h4 : k = 4
   ·rw [if_pos (Or.inr (Or.inr (Or.inl h4))), decide_eq_true h4]; exact ⟨_, rfl, rfl⟩
   rw [decide_eq_false h4, cond_false]
   by_cases h6 : k = 6
   ·rw [if_pos (Or.inr (Or.inr (Or.inr h6))), decide_eq_true h6]; exact ⟨_, rfl, rfl⟩
   rw [decide_eq_false h6, cond_false, if_neg (by omega)]
   by_cases h2 : k = 2
   ·rw [if_pos h2, decide_eq_true h2]; exact ⟨_, rfl, rfl⟩
   rw [decide_eq_false h2, cond_false, if_neg h2]
   by_cases h5 : k = 5
   ·rw [if_pos h5, decide_eq_true h5, cond_true]
    by_cases hm : numC m m' = 0
    ·rw [if_neg (by omega), decide_eq_true hm]; exact ⟨_, rfl, rfl⟩
    ·rw [if_pos hm, decide_eq_false hm]; exact ⟨_, rfl, rfl⟩
   rw [decide_eq_false h5, cond_false, if_neg h5]
   by_cases h7 : k = 7
   ·rw [if_pos (Or.inl h7), decide_eq_true h7]; exact ⟨_, rfl, rfl⟩
   rw [decide_eq_false h7, cond_false]
   by_cases h9 : k = 9
   ·rw [if_pos (Or.inr h9), decide_eq_true h9]; exact ⟨_, rfl, rfl⟩
   rw [decide_eq_false h9, if_neg (by omega)]; exact ⟨_, rfl, rfl⟩
  ·rw [if_pos h, decide_eq_false h]; exact ⟨_, rfl, rfl⟩
theorem qnY {op : List UInt8} {t : Tm} {b : Bool} (h : (op, b) ∈ ([([105, 115, 95, 97, 116, 111, 109], decide (t.kind = 2)), ([105, 115, 95, 105, 110, 116, 101, 103, 101, 114], decide (t.kind = 1)), ([105, 115, 95, 108, 105, 115, 116], decide (t.kind = 9) || decide (t.kind = 8)), ([105, 115, 95, 116, 117, 112, 108, 101], decide (t.kind = 7)), ([105, 115, 95, 112, 105, 100], decide (t.kind = 6)), ([105, 115, 95, 102, 117, 110, 99, 116, 105, 111, 110], decide (t.kind = 5)), ([105, 115, 95, 114, 101, 102, 101, 114, 101, 110, 99, 101], decide (t.kind = 3) || decide (t.kind = 4))] : List (List UInt8 × Bool))) : EVs (EV cfg) 248 [.str op, t.av] = some (.bool b) := by
 apply Gets.get
 rw [Tm.av, Tm.cells_eq]
 refine qmb _ _ _ _ _ ?_
 simp only [beqS, beqI]
 simp only [qzm, List.not_mem_nil, or_false, Prod.mk.injEq] at h
 rcases h with ⟨rfl, rfl⟩ | ⟨rfl, rfl⟩ | ⟨rfl, rfl⟩ | ⟨rfl, rfl⟩ | ⟨rfl, rfl⟩ | ⟨rfl, rfl⟩ | ⟨rfl, rfl⟩
 ·exact ⟨_, rfl, rfl⟩
 ·exact ⟨_, rfl, rfl⟩
 ·show Gets (bif decide (t.kind = 9) then some (AV.bool true) else some (AV.bool (decide (t.kind = 8)))) _
  cases decide (t.kind = 9) <;> exact ⟨_, rfl, rfl⟩
 ·exact ⟨_, rfl, rfl⟩
 ·exact ⟨_, rfl, rfl⟩
 ·exact ⟨_, rfl, rfl⟩
 ·show Gets (bif decide (t.kind = 3) then some (AV.bool true) else some (AV.bool (decide (t.kind = 4)))) _
  cases decide (t.kind = 3) <;> exact ⟨_, rfl, rfl⟩
theorem qjE : ∀ (n : Nat) (t : Tm) (c : Nat), t.w ≤ n → t.chk = 0 → c + n < 1099511627776 → Gets (qht c t.kind t.num t.str (qb t.subs)) (fun v => ∃ m : Int, v = .tup [.int .i64 m, .bool (lenG t).isSome] ∧ ∀ x, lenG t = some x → m = (c + x : Nat)) := by
 intro n
 induction n with
 | zero => intro t c h; have := vH t; omega
 | succ n ih =>
  intro t c hw hc hn
  refine qnq _ _ _ _ _ ?_
  rw [beqI, beqI]
  by_cases h9 : t.kind = 9
  ·obtain ⟨x, y, hs⟩ := yd hc h9
   have hwe := t.w_eq
   rw [hs] at hwe
   simp only [qV, vQ] at hwe
   have hy : y.chk = 0 := qZ hc (by rw [hs]; simp)
   have h := ih y (c + 1) (by omega) hy (by omega)
   rw [decide_eq_true h9, cond_true, hs, lt1T, ys]
   simp only [cond_true, qc, qi, qy1, qp, qt, vw]
   rw [qJ (n := 1099511627775) (by omega) (by omega), qkv h9 hs]
   refine Gets.mono h ?_
   rintro _ ⟨m, rfl, hm⟩
   refine ⟨m, by rw [Option.isSome_map], fun z hz => ?_⟩
   obtain ⟨q, hq, rfl⟩ := qyO.1 hz
   rw [hm q hq]; omega
  ·rw [decide_eq_false h9, cond_false]
   by_cases h8 : t.kind = 8
   ·rw [decide_eq_true h8, qmx h8]
    exact ⟨_, rfl, c, rfl, fun x hx => by cases hx; rfl⟩
   ·rw [decide_eq_false h8, qku h9 h8]
    exact ⟨_, rfl, c, rfl, fun x hx => by cases hx⟩
theorem qma {t : Tm} (hc : t.chk = 0) : Gets (EVs (EV cfg) 246 [t.av]) (fun v => ∃ m : Int, v = .tup [.int .i64 m, .bool (lenG t).isSome] ∧ ∀ x, lenG t = some x → m = x) := by
 have hw := vj hc
 rw [Tm.av, Tm.cells_eq]
 refine qkY _ _ _ _ ?_
 refine Gets.mono (qjE t.w t 0 (qyN _) hc (by omega)) ?_
 rintro _ ⟨m, rfl, hm⟩
 exact ⟨m, rfl, fun x hx => by rw [hm x hx]; omega⟩
theorem yM {op : List UInt8} {t : Tm} {b : Bool} {o : Option Tm} (h : (op, b) ∈ ([([105, 115, 95, 97, 116, 111, 109], decide (t.kind = 2)), ([105, 115, 95, 105, 110, 116, 101, 103, 101, 114], decide (t.kind = 1)), ([105, 115, 95, 108, 105, 115, 116], decide (t.kind = 9) || decide (t.kind = 8)), ([105, 115, 95, 116, 117, 112, 108, 101], decide (t.kind = 7)), ([105, 115, 95, 112, 105, 100], decide (t.kind = 6)), ([105, 115, 95, 102, 117, 110, 99, 116, 105, 111, 110], decide (t.kind = 5)), ([105, 115, 95, 114, 101, 102, 101, 114, 101, 110, 99, 101], decide (t.kind = 3) || decide (t.kind = 4))] : List (List UInt8 × Bool))) (ho : o = some (vh b)) :
  Gets (kOpt (EVs (EV cfg) 248 [.str op, t.av]) fun (v : AV) => qf v fun (b : Bool) => kOpt (EVf (EV cfg) 245 [.bool b]) fun (v : AV) => kTmV v fun (n n_1 : Int) (s : List UInt8) (rows : List (List AV)) => (some (AV.tup [.agg [.int .i64 n, .int .i64 n_1, .str s, .sl rows], .bool true]))) (RB o) := by
 rw [qnY h, ho]
 simp only [qc, qk, qaB, qE, qj]
 exact ⟨_, rfl, RB.of⟩
theorem qem {n : Int} {o : Option Tm} (ho : o = qK n) : Gets (kOpt (EVf (EV cfg) 247 [.int .i64 n]) fun (v : AV) => kTup v fun (cs : List AV) => qa cs fun (c : AV) (cs : List AV) => kAgg c fun (cs_1 : List AV) => qa cs_1 fun (c : AV) (cs_2 : List AV) => kInt .i64 c fun (n : Int) => qa cs_2 fun (c : AV) (cs_3 : List AV) => kInt .i64 c fun (n_1 : Int) => qa cs_3 fun (c : AV) (cs_4 : List AV) => kStr c fun (s : List UInt8) => qa cs_4 fun (c : AV) (cs_5 : List AV) => kSl c fun (rows : List (List AV)) => kNil cs_5 (qa cs fun (c : AV) (cs : List AV) => qf c fun (b : Bool) => kNil cs (some (AV.tup [.agg [.int .i64 n, .int .i64 n_1, .str s, .sl rows], .bool b])))) (RB o) := by
 subst ho
 refine Gets.mono (xc n) ?_
 rintro _ rfl
 exact RB.of
theorem qrG {op : List UInt8} (ho : (1 : Int) ∈ opsG op) {t : Tm} (hc : t.chk = 0) : Gets (EVf (EV cfg) 177 [.str op, t.av]) (RB (oneG op t)) := by
 have hl := qma hc
 have hn := qfL hc
 have hs := xE hc
 have hwithin : ∀ n : Nat, n ≤ 4259840 → qK (n : Int) = some (numT n) := fun n h => by
  unfold qK
  rw [if_pos (show InB (n : Int) from ⟨by omega, by omega⟩)]
 have w1 : IntKind.wrap .i64 (0 - t.num) = -t.num := by rw [qM (by omega) (by omega)]; omega
 have w2 : IntKind.wrap .i64 (-1 - t.num) = -1 - t.num := qM (by omega) (by omega)
 have raise : Gets (some (tbR none)) (RB none) := ⟨_, rfl, RB.of⟩
 rw [Tm.av, Tm.cells_eq] at hl ⊢
 refine qp0 _ _ _ _ _ ?_
 unfold ze52 ze53 ze54 ze44 ze45 ze47 ze49 ze50 ze51 ze48 ze46 ze43 ze38 ze39 ze40 ze41 ze42 ze2 ze3 ze4 ze5 ze6 ze7 ze8 ze9 ze10 ze11 ze12 ze13 ze14 ze15 ze16 ze17 ze0
 rw [← vq, qfC, w1, w2, qd]
 simp only [qj, beqS, beqI]
 rw [qj] at hl
 have bnd : ∀ z : Int, (z != 0) = !decide (z = 0) := fun z => by rw [bne, beqI]
 have b9 : (t.kind != 9) = !decide (t.kind = 9) := by rw [bne, beqI]
 have b1 : (t.kind != 1) = !decide (t.kind = 1) := by rw [bne, beqI]
 rw [b9, b1]
 have size : Gets (some (AV.tup [.agg [.int .i64 1, .int .i64 (t.subs.length : Int), .str [], .sl []], .bool (decide (t.kind = 7))])) (RB (if t.kind = 7 then qK t.subs.length else none)) := by
  rw [← qfM, hwithin _ (by omega)]
  by_cases h7 : t.kind = 7
  ·rw [if_pos h7, decide_eq_true h7]; exact ⟨_, rfl, _, rfl, fun x hx => by cases hx; rfl⟩
  ·rw [if_neg h7, decide_eq_false h7]; exact ⟨_, rfl, _, rfl, fun x hx => by cases hx⟩
 have hop := qvd ho
 simp only [qzm, List.not_mem_nil, or_false] at hop
 rcases hop with rfl | rfl | rfl | rfl | rfl | rfl | rfl | rfl | rfl | rfl | rfl | rfl | rfl | rfl | rfl | rfl | rfl
 ·exact yM (b := decide (t.kind = 2)) (by simp) rfl
 ·exact yM (b := decide (t.kind = 1)) (by simp) rfl
 ·exact yM (b := decide (t.kind = 9) || decide (t.kind = 8)) (by simp) rfl
 ·exact yM (b := decide (t.kind = 7)) (by simp) rfl
 ·exact yM (b := decide (t.kind = 6)) (by simp) rfl
 ·exact yM (b := decide (t.kind = 5)) (by simp) rfl
 ·exact yM (b := decide (t.kind = 3) || decide (t.kind = 4)) (by simp) rfl
 ·show Gets (kOpt (EVs (EV cfg) 237 [t.av]) _) (RB ((vu t).map fun b => vh (!b)))
  rw [ze]
  simp only [qc, kTup, qa, qk, kNil, qaB, qE, qj]
  refine ⟨_, rfl, _, by rw [Option.isSome_map], fun x hx => ?_⟩
  obtain ⟨b, hb, rfl⟩ := qyO.1 hx
  rw [hb]; rfl
 ·show Gets (bif !decide (t.kind = 1) then some (tbR none) else kOpt (EVf (EV cfg) 247 [.int .i64 (-1 - t.num)]) fun (v : AV) => kTup v fun (cs : List AV) => qa cs fun (c : AV) (cs : List AV) => kAgg c fun (cs_1 : List AV) => qa cs_1 fun (c : AV) (cs_2 : List AV) => kInt .i64 c fun (n : Int) => qa cs_2 fun (c : AV) (cs_3 : List AV) => kInt .i64 c fun (n_1 : Int) => qa cs_3 fun (c : AV) (cs_4 : List AV) => kStr c fun (s : List UInt8) => qa cs_4 fun (c : AV) (cs_5 : List AV) => kSl c fun (rows : List (List AV)) => kNil cs_5 (qa cs fun (c : AV) (cs : List AV) => qf c fun (b : Bool) => kNil cs (some (AV.tup [.agg [.int .i64 n, .int .i64 n_1, .str s, .sl rows], .bool b])))) (RB (if t.kind = 1 then qK (-1 - t.num) else none))
  by_cases h : t.kind = 1
  ·rw [decide_eq_true h, if_pos h]; exact qem rfl
  ·rw [decide_eq_false h, if_neg h]; exact raise
 ·show Gets (bif !decide (t.kind = 1) then some (tbR none) else bif decide (t.num < 0) then kOpt (EVf (EV cfg) 247 [.int .i64 (-t.num)]) fun (v : AV) => kTup v fun (cs : List AV) => qa cs fun (c : AV) (cs : List AV) => kAgg c fun (cs_1 : List AV) => qa cs_1 fun (c : AV) (cs_2 : List AV) => kInt .i64 c fun (n : Int) => qa cs_2 fun (c : AV) (cs_3 : List AV) => kInt .i64 c fun (n_1 : Int) => qa cs_3 fun (c : AV) (cs_4 : List AV) => kStr c fun (s : List UInt8) => qa cs_4 fun (c : AV) (cs_5 : List AV) => kSl c fun (rows : List (List AV)) => kNil cs_5 (qa cs fun (c : AV) (cs : List AV) => qf c fun (b : Bool) => kNil cs (some (AV.tup [.agg [.int .i64 n, .int .i64 n_1, .str s, .sl rows], .bool b]))) else some (AV.tup [t.av, .bool true])) (RB (if t.kind = 1 then qK (if t.num < 0 then -t.num else t.num) else none))
  by_cases h : t.kind = 1
  ·obtain ⟨hi, he⟩ := qpe hc h
   rw [decide_eq_true h, if_pos h]
   by_cases hz : t.num < 0
   ·rw [decide_eq_true hz, if_pos hz]; exact qem rfl
   ·rw [decide_eq_false hz, if_neg hz]
    unfold qK
    rw [if_pos hi]
    exact ⟨_, rfl, _, rfl, fun x hx => by cases hx; exact he⟩
  ·rw [decide_eq_false h, if_neg h]; exact raise
 ·exact size
 ·exact size
 ·show Gets (bif !decide (t.kind = 9) then some (tbR none) else bif qg 0 (t.subs.length : Int) then kOpt (qyG (qb t.subs) 0) _ else none) (RB (if t.kind = 9 then t.subs[0]? else none))
  by_cases h : t.kind = 9
  ·obtain ⟨x, y, hs⟩ := yd hc h
   rw [decide_eq_true h, if_pos h, ← qd t.subs, hs, lt0T, yP]
   simp only [qzh, cond_true, cond_false, qc, qi, qy1, qp, qt, vw, qj]
   exact ⟨_, rfl, _, rfl, fun x hx => by cases hx; rfl⟩
  ·rw [decide_eq_false h, if_neg h]; exact raise
 ·show Gets (bif !decide (t.kind = 9) then some (tbR none) else bif qg 1 (t.subs.length : Int) then kOpt (qyG (qb t.subs) 1) _ else none) (RB (if t.kind = 9 then t.subs[1]? else none))
  by_cases h : t.kind = 9
  ·obtain ⟨x, y, hs⟩ := yd hc h
   rw [decide_eq_true h, if_pos h, ← qd t.subs, hs, lt1T, ys]
   simp only [qzh, cond_true, cond_false, qc, qi, qy1, qp, qt, vw, qj]
   exact ⟨_, rfl, _, rfl, fun x hx => by cases hx; rfl⟩
  ·rw [decide_eq_false h, if_neg h]; exact raise
 ·show Gets (kOpt (EVs (EV cfg) 246 [t.av]) _) (RB ((lenG t).bind fun n => qK n))
  refine Gets.bind hl ?_
  rintro _ ⟨m, rfl, hm⟩
  simp only [kTup, qa, qm, qk, kNil]
  rw [← qfM]
  cases hg : lenG t with
  | none => exact ⟨_, rfl, _, rfl, fun x hx => by cases hx⟩
  | some x =>
   have hx := qvo hg
   have hw := vj hc
   rw [qy0, hwithin x (by omega), hm x hg]
   exact ⟨_, rfl, _, rfl, fun x hx => by cases hx; rfl⟩
 ·show Gets (bif !decide (t.kind = 1) then some (tbR none) else some (AV.tup [t.av, .bool true])) (RB (if t.kind = 1 then qK t.num else none))
  by_cases h : t.kind = 1
  ·obtain ⟨hi, he⟩ := qpe hc h
   unfold qK
   rw [decide_eq_true h, if_pos h, if_pos hi]
   exact ⟨_, rfl, _, rfl, fun x hx => by cases hx; exact he⟩
  ·rw [decide_eq_false h, if_neg h]; exact raise
 ·show Gets (bif !decide (t.kind = 1) then some (tbR none) else kOpt (EVf (EV cfg) 247 [.int .i64 (-t.num)]) fun (v : AV) => kTup v fun (cs : List AV) => qa cs fun (c : AV) (cs : List AV) => kAgg c fun (cs_1 : List AV) => qa cs_1 fun (c : AV) (cs_2 : List AV) => kInt .i64 c fun (n : Int) => qa cs_2 fun (c : AV) (cs_3 : List AV) => kInt .i64 c fun (n_1 : Int) => qa cs_3 fun (c : AV) (cs_4 : List AV) => kStr c fun (s : List UInt8) => qa cs_4 fun (c : AV) (cs_5 : List AV) => kSl c fun (rows : List (List AV)) => kNil cs_5 (qa cs fun (c : AV) (cs : List AV) => qf c fun (b : Bool) => kNil cs (some (AV.tup [.agg [.int .i64 n, .int .i64 n_1, .str s, .sl rows], .bool b])))) (RB (if t.kind = 1 then qK (-t.num) else none))
  by_cases h : t.kind = 1
  ·rw [decide_eq_true h, if_pos h]; exact qem rfl
  ·rw [decide_eq_false h, if_neg h]; exact raise
theorem zy (op : List UInt8) (a b : Bool) : EVs (EV cfg) 250 [.str op, .bool a, .bool b] = some (.bool (
  if op = [97, 110, 100] then a && b else if op = [97, 110, 100, 97, 108, 115, 111] then a && b else if op = [111, 114] then a || b else if op = [111, 114, 101, 108, 115, 101] then a || b else a != b)) := by
 apply Gets.get
 refine qme _ _ _ ?_
 simp only [beqS]
 repeat' first
  | exact ⟨_, rfl, rfl⟩
  | (split <;> rename_i h <;> simp only [h, decide_true, cond_true, decide_false, cond_false])
 all_goals cases a <;> cases b <;> exact ⟨_, rfl, rfl⟩
theorem yF {op : List UInt8} {a b : Tm} {c : Bool} {o : Option Tm} (wa : a.w < 1099511627776) (hb : EVs (EV cfg) 249 [.str op, .int .i64 (cmpT a b)] = some (.bool c)) (ho : o = some (vh c)) :
  Gets (kOpt (EVs (EV cfg) 151 [a.av, b.av]) fun (v : AV) => kInt .i64 v fun (n : Int) => kOpt (EVs (EV cfg) 249 [.str op, .int .i64 n]) fun (v : AV) => qf v fun (b : Bool) => kOpt (EVf (EV cfg) 245 [.bool b]) fun (v : AV) => kTmV v fun (n n_1 : Int) (s : List UInt8) (rows : List (List AV)) => (some (AV.tup [.agg [.int .i64 n, .int .i64 n_1, .str s, .sl rows], .bool true]))) (RB o) := by
 rw [qk1 a.w a b (qyN _) wa, ho]
 simp only [qc, qm, hb, qk, qaB, qE, qj]
 exact ⟨_, rfl, RB.of⟩
theorem qah {op : List UInt8} {a b : Tm} {f : Bool → Bool → Bool} {o : Option Tm} (hf : ∀ x y, EVs (EV cfg) 250 [.str op, .bool x, .bool y] = some (.bool (f x y))) (ho : o = (vu a).bind fun x => (vu b).map fun y => vh (f x y)) :
  Gets (kOpt (EVs (EV cfg) 237 [a.av]) fun (v : AV) => kTup v fun (cs : List AV) => qa cs fun (c : AV) (cs : List AV) => qf c fun (b_0 : Bool) => qa cs fun (c : AV) (cs : List AV) => qf c fun (b_1 : Bool) => kNil cs (kOpt (EVs (EV cfg) 237 [b.av]) fun (v : AV) => kTup v fun (cs : List AV) => qa cs fun (c : AV) (cs : List AV) => qf c fun (b_2 : Bool) => qa cs fun (c : AV) (cs : List AV) => qf c fun (b_3 : Bool) => kNil cs (kOpt (EVs (EV cfg) 250 [.str op, .bool b_0, .bool b_2]) fun (v : AV) => qf v fun (b : Bool) => kOpt (EVf (EV cfg) 245 [.bool b]) fun (v : AV) => kTmV v fun (n n_1 : Int) (s : List UInt8) (rows : List (List AV)) => (bif b_1 then some (AV.tup [.agg [.int .i64 n, .int .i64 n_1, .str s, .sl rows], .bool b_3]) else some (AV.tup [.agg [.int .i64 n, .int .i64 n_1, .str s, .sl rows], .bool false]))))) (RB o) := by
 rw [ze, ze, ho]
 simp only [qc, kTup, qa, qk, kNil, hf, qaB, qE, qj]
 cases vu a with
 | none => exact ⟨_, rfl, _, rfl, fun x hx => by cases hx⟩
 | some x =>
  cases vu b with
  | none => exact ⟨_, rfl, _, rfl, fun x hx => by cases hx⟩
  | some y => exact ⟨_, rfl, _, rfl, fun x hx => by cases hx; rfl⟩
theorem yE {op : List UInt8} {a b : Tm} {o : Option Tm} (ha : a.chk = 0) (hb : b.chk = 0) (h : op ∈ ([[43], [45], [42], [98, 97, 110, 100], [98, 111, 114], [98, 120, 111, 114], [100, 105, 118], [114, 101, 109]] : List (List UInt8))) (ho : o = if a.kind = 1 ∧ b.kind = 1 then xF op a.num b.num else none) :
  Gets (bif !decide (a.kind = 1) then some (tbR none) else bif !decide (b.kind = 1) then some (tbR none) else kOpt (EVf (EV cfg) 251 [.str op, .int .i64 a.num, .int .i64 b.num]) fun (v : AV) => kTup v fun (cs : List AV) => qa cs fun (c : AV) (cs : List AV) => kAgg c fun (cs_1 : List AV) => qa cs_1 fun (c : AV) (cs_2 : List AV) => kInt .i64 c fun (n : Int) => qa cs_2 fun (c : AV) (cs_3 : List AV) => kInt .i64 c fun (n_1 : Int) => qa cs_3 fun (c : AV) (cs_4 : List AV) => kStr c fun (s : List UInt8) => qa cs_4 fun (c : AV) (cs_5 : List AV) => kSl c fun (rows : List (List AV)) => kNil cs_5 (qa cs fun (c : AV) (cs : List AV) => qf c fun (b : Bool) => kNil cs (some (AV.tup [.agg [.int .i64 n, .int .i64 n_1, .str s, .sl rows], .bool b])))) (RB o) := by
 subst ho
 by_cases ka : a.kind = 1
 ·by_cases kb : b.kind = 1
  ·rw [decide_eq_true ka, decide_eq_true kb, if_pos ⟨ka, kb⟩, qkX h (qfR ha ka) (qfR hb kb)]
   simp only [qzh, cond_false, qc, qbB, kTB, qj]
   exact ⟨_, rfl, RB.of⟩
  ·rw [decide_eq_true ka, decide_eq_false kb, if_neg (fun e => kb e.2)]; exact ⟨_, rfl, RB.of⟩
 ·rw [decide_eq_false ka, if_neg (fun e => ka e.1)]; exact ⟨_, rfl, RB.of⟩
theorem qrE {op : List UInt8} (hop : (2 : Int) ∈ opsG op) {a b : Tm} (ha : a.chk = 0) (hb : b.chk = 0) : Gets (EVf (EV cfg) 178 [.str op, a.av, b.av]) (RB (twoG op a b)) := by
 have wa : a.w < 1099511627776 := by have := vj ha; omega
 have na := qfL ha
 have sb := xE hb
 rw [Tm.av, Tm.av, Tm.cells_eq a, Tm.cells_eq b]
 refine qpY _ _ _ _ _ _ _ _ _ ?_
 unfold ze64 ze65 ze66 ze67 ze68 ze69 ze70 ze71 ze72 ze73 ze74 ze75 ze76 ze77 ze78 ze79 ze80 ze81 ze82 ze61 ze62 ze63 ze52 ze53 ze54 ze39 ze40 ze41 ze42 ze2 ze3 ze4 ze5 ze6 ze7 ze8 ze9 ze10 ze11 ze12 ze13 ze14 ze15 ze16 ze17 ze0
 have b1 : (a.kind != 1) = !decide (a.kind = 1) := by rw [bne, beqI]
 have b2 : (b.kind != 1) = !decide (b.kind = 1) := by rw [bne, beqI]
 have b7 : (b.kind != 7) = !decide (b.kind = 7) := by rw [bne, beqI]
 have w1 : IntKind.wrap .i64 (a.num - 1) = a.num - 1 := qM (by omega) (by omega)
 rw [← vq, qfC, b1, b2, b7, w1, qd]
 simp only [qj, beqS]
 have h := qvc hop
 simp only [qzm, List.not_mem_nil, or_false] at h
 rcases h with rfl | rfl | rfl | rfl | rfl | rfl | rfl | rfl | rfl | rfl | rfl | rfl | rfl | rfl | rfl | rfl | rfl | rfl | rfl | rfl | rfl | rfl
 ·exact yE ha hb (by simp) rfl
 ·exact yE ha hb (by simp) rfl
 ·exact yF (c := decide (cmpT a b = 0)) wa (xi _ _) rfl
 ·exact yF (c := decide (cmpT a b = 0)) wa (xi _ _) rfl
 ·exact yF (c := !decide (cmpT a b = 0)) wa (xi _ _) rfl
 ·exact yF (c := !decide (cmpT a b = 0)) wa (xi _ _) rfl
 ·exact yF (c := decide (cmpT a b < 0)) wa (xi _ _) rfl
 ·exact yF (c := decide (cmpT a b ≤ 0)) wa (xi _ _) rfl
 ·exact yF (c := decide (cmpT a b > 0)) wa (xi _ _) rfl
 ·exact yF (c := decide (cmpT a b ≥ 0)) wa (xi _ _) rfl
 ·exact qah (f := fun x y => x && y) (fun x y => zy _ _ _) rfl
 ·exact qah (f := fun x y => x || y) (fun x y => zy _ _ _) rfl
 ·exact qah (f := fun x y => x != y) (fun x y => zy _ _ _) rfl
 ·exact qah (f := fun x y => x && y) (fun x y => zy _ _ _) rfl
 ·exact qah (f := fun x y => x || y) (fun x y => zy _ _ _) rfl
 ·exact yE ha hb (by simp) rfl
 ·exact yE ha hb (by simp) rfl
 ·exact yE ha hb (by simp) rfl
 ·exact yE ha hb (by simp) rfl
 ·exact yE ha hb (by simp) rfl
 ·exact yE ha hb (by simp) rfl
 ·show Gets (bif !decide (a.kind = 1) then some (tbR none) else bif !decide (b.kind = 7) then some (tbR none) else bif decide (a.num < 1) then some (tbR none) else bif decide (a.num > (b.subs.length : Int)) then some (tbR none) else bif qh 0 (a.num - 1) && qg (a.num - 1) (b.subs.length : Int) then kOpt (qyG (qb b.subs) (qyY (a.num - 1))) _ else none) (RB (if a.kind = 1 ∧ 1 ≤ a.num ∧ b.kind = 7 ∧ a.num ≤ b.subs.length then b.subs[(a.num - 1).toNat]? else none))
  by_cases k1 : a.kind = 1
  ·by_cases k7 : b.kind = 7
   ·by_cases l1 : a.num < 1
    ·rw [decide_eq_true k1, decide_eq_true k7, decide_eq_true l1, if_neg (fun e => by omega)]; exact ⟨_, rfl, RB.of⟩
    ·by_cases l2 : a.num > (b.subs.length : Int)
     ·rw [decide_eq_true k1, decide_eq_true k7, decide_eq_false l1, decide_eq_true l2, if_neg (fun e => by omega)]; exact ⟨_, rfl, RB.of⟩
     ·have hi : (a.num - 1).toNat < b.subs.length := by omega
      have hx : b.subs[(a.num - 1).toNat]? = some b.subs[(a.num - 1).toNat] := qyI hi
      have e1 : qh 0 (a.num - 1) = true := decide_eq_true (by omega)
      have e2 : qg (a.num - 1) (b.subs.length : Int) = true := decide_eq_true (by omega)
      rw [decide_eq_true k1, decide_eq_true k7, decide_eq_false l1, decide_eq_false l2, if_pos ⟨k1, by omega, k7, by omega⟩, e1, e2, hx, ql, xx, hx]
      simp only [qzh, cond_false, cond_true, qy2, qy7, qc, qi, qy1, qp, qt, vw, qj]
      exact ⟨_, rfl, RB.of⟩
   ·rw [decide_eq_true k1, decide_eq_false k7, if_neg (fun e => k7 e.2.2.1)]; exact ⟨_, rfl, RB.of⟩
  ·rw [decide_eq_false k1, if_neg (fun e => k1 e.1)]; exact ⟨_, rfl, RB.of⟩
theorem qo9 {o : Option Tm} {v : AV} (h : RB o v) : Gets (kTup v fun (cs : List AV) => qa cs fun (c : AV) (cs : List AV) => kAgg c fun (cs_1 : List AV) => qa cs_1 fun (c : AV) (cs_2 : List AV) => kInt .i64 c fun (n : Int) => qa cs_2 fun (c : AV) (cs_3 : List AV) => kInt .i64 c fun (n_2 : Int) => qa cs_3 fun (c : AV) (cs_4 : List AV) => kStr c fun (s : List UInt8) => qa cs_4 fun (c : AV) (cs_5 : List AV) => kSl c fun (rows : List (List AV)) => kNil cs_5 (qa cs fun (c : AV) (cs : List AV) => qf c fun (b : Bool) => kNil cs (bif !b then some (AV.tup [qX.av, .bool false]) else some (AV.tup [.agg [.int .i64 n, .int .i64 n_2, .str s, .sl rows], .bool true])))) (· = tbR o) := by
 obtain ⟨t, rfl, h⟩ := h
 rw [kTB, qj]
 cases o with
 | none => exact ⟨_, rfl, rfl⟩
 | some x => rw [h x rfl]; exact ⟨_, rfl, rfl⟩
theorem qn1 {op : List UInt8} {l : List Tm} (hop : (l.length : Int) ∈ opsG op) (hl : ∀ x ∈ l, x.chk = 0) (hlen : l.length ≤ 2) (self : Int) :
  EVf (EV cfg) 96 [.str op, .sl (qb l), .int .i64 self] = some (tbR (qbS op l self)) := by
 apply Gets.get
 refine qkZ _ _ _ ?_
 unfold ze83 ze51 ze0
 rw [← vq]
 match l, hop, hl, hlen with
 | [], _, _, _ =>
  refine ⟨_, rfl, ?_⟩
  show _ = AV.tup [(Tm.mk 6 self [] []).av, .bool true]
  rw [Tm.av_mk, qI]
 | [a], hop, hl, _ =>
  have h1 := qrG hop (hl a (by simp))
  rw [lt0T, yP, qd]
  simp only [qzc, List.length_nil, beqI, show decide (((0 + 1 : Nat) : Int) = 1) = true from rfl, cond_true, qc, qi, qy1, qp, qt, vw, qj]
  exact Gets.bind h1 fun v h => qo9 h
 | [a, b], hop, hl, _ =>
  have h1 := qrE hop (hl a (by simp)) (hl b (by simp))
  rw [lt0T, yP, lt1T, ys, qd]
  simp only [qzc, List.length_nil, beqI, show decide (((0 + 1 + 1 : Nat) : Int) = 1) = false from rfl, show decide (((0 + 1 + 1 : Nat) : Int) = 2) = true from rfl, cond_true, cond_false, qc, qi, qy1, qp, qt, vw, qj]
  exact Gets.bind h1 fun v h => qo9 h
 | _ :: _ :: _ :: _, _, _, h => simp at h
end Go.Proofs.YtkgkjngbfdnoiaaGreat
end
section
namespace Go.Av
def qds (x e : Tm) : Tm := .mk 9 0 [] [x, e]
def qiz (l : List Tm) (e : Tm) : Tm := l.foldr qds e
end Go.Av
namespace Go.Proofs.YtkgkjngbfdnoiaaGreat
open Go.Av
theorem qom {l : List Tm} (hlen : l.length < 1099511627776) (e : Tm) : EVf (EV cfg) 122 [.sl (qb l), e.av] = some (qiz l e).av := by
 have loop : ∀ (j : Nat) (a : Tm), j ≤ l.length → Gets (qhF ((j : Int) - 1) a.kind a.num a.str (qb a.subs) 0 0 [] [] (qb l)) (· = ((l.take j).foldr qds a).av) := by
  intro j
  induction j with
  | zero =>
   intro a _
   refine qge _ _ _ _ _ _ _ _ _ _ ?_
   refine ⟨_, rfl, ?_⟩
   rw [qj]; rfl
  | succ j ih =>
   intro a hj
   refine qge _ _ _ _ _ _ _ _ _ _ ?_
   have hil : j < l.length := by omega
   have hx : l[j]? = some l[j] := qyI hil
   have h := ih (qds l[j] a) (by omega)
   have e1 : l.take (j + 1) = l.take j ++ [l[j]] := by rw [List.take_add_one, hx]; rfl
   have e2 : (((j + 1 : Nat) : Int) - 1) = (j : Int) := by omega
   have w1 : IntKind.wrap .i64 ((j : Int) - 1) = (j : Int) - 1 := qM (by omega) (by omega)
   rw [e2, w1, decide_eq_true (show (j : Int) ≥ 0 by omega), qd, qw, qD, decide_eq_true hil, q9 hx, e1, List.foldr_append]
   simp only [cond_true, qy2, qi, qy1, qp, qt, show qyQ 4 4 = true from rfl, qc]
   rw [← Tm.cells_eq, ← Tm.cells_eq]
   have e3 : qb (qds l[j] a).subs = [l[j].cells, a.cells] := by show qb [l[j], a] = _; rw [qy, qy, qI]
   rw [e3] at h
   exact h
 apply Gets.get
 rw [Tm.av, Tm.cells_eq]
 refine qms _ _ _ _ _ ?_
 have h := loop l.length e (qyN _)
 rw [List.take_length] at h
 rw [qd, qM (by omega) (by omega)]
 exact h
theorem qaN {p : Nat → Bool} {r : List AV} (h : zC p r) {n : Nat} (hn : n < 100) : EVs (EV cfg) 232 [.cptr r 0, .int .i64 n] = some (.bool (p n)) := by
 obtain ⟨lo, hi, l, rfl, h1, h2, h3, h4⟩ := h
 have key : ∀ {a k : Nat}, a < 18446744073709551616 → k < 64 → ((((a / 2 ^ k % 2 : Nat) : Int)) == 1) = a.testBit k := by
  intro a k _ _
  rw [Nat.testBit_eq_decide_div_mod_eq]
  rw [beqI]
  exact decide_eq_decide.2 (by omega)
 apply Gets.get
 refine qpP _ _ ?_
 unfold zh2
 by_cases hs : n < 64
 ·have e : p n = lo.testBit n := (h3 n hs).symm
  have hd := Nat.div_le_self lo (2 ^ n)
  rw [decide_eq_true (show (n : Int) < 64 by omega), e]
  simp only [cond_true, ql, qy8, qc, qm, qo5 h1 hs, qpr (show lo / 2 ^ n < 18446744073709551616 by omega), key h1 hs]
  exact ⟨_, rfl, rfl⟩
 ·obtain ⟨k, rfl⟩ : ∃ k, n = k + 64 := ⟨n - 64, by omega⟩
  have hk : k < 64 := by omega
  have e : p (k + 64) = hi.testBit k := (h4 k hk).symm
  have hd := Nat.div_le_self hi (2 ^ k)
  have w : IntKind.wrap .i64 (((k + 64 : Nat) : Int) - 64) = (k : Int) := by rw [qM (by omega) (by omega)]; omega
  rw [decide_eq_false (show ¬ ((k + 64 : Nat) : Int) < 64 by omega), w, e]
  simp only [cond_false, ql, List.getElem?_cons_succ, qy8, qc, qm, qo5 h2 hk, qpr (show hi / 2 ^ k < 18446744073709551616 by omega), key h2 hk]
  exact ⟨_, rfl, rfl⟩
theorem qkg {p : Nat → Bool} {r : List AV} (h : zC p r) {n : Nat} (hn : n < 100) : ∃ r', EVm (EV cfg) 291 [.ptr 0 0 0, .int .i64 n] 402 [r] = some (.unit, [r']) ∧
  zC (fun i => p i || decide (i = n)) r' ∧ r'.drop 2 = r.drop 2 ∧ r'.length = r.length ∧ (qz 0 r = true → qz 0 r' = true) := by
 obtain ⟨lo, hi, l, rfl, h1, h2, h3, h4⟩ := h
 have pw : ∀ {k : Nat}, k < 64 → 2 ^ k < 18446744073709551616 := by
  intro k hk
  have : 2 ^ k < 2 ^ 64 := Nat.pow_lt_pow_right (by omega) hk
  simpa using this
 have orlt : ∀ {a b : Nat}, a < 18446744073709551616 → b < 18446744073709551616 → a ||| b < 18446744073709551616 := by
  intro a b ha hb
  have := Nat.or_lt_two_pow (n := 64) (by simpa using ha) (by simpa using hb)
  simpa using this
 have bit : ∀ {a k i : Nat}, (a ||| 2 ^ k).testBit i = (a.testBit i || decide (i = k)) := by
  intro a k i
  rw [Nat.testBit_or, Nat.testBit_two_pow]
  congr 1
  exact decide_eq_decide.2 ⟨fun h => h.symm, fun h => h.symm⟩
 by_cases hs : n < 64
 ·refine ⟨.int .u64 ((lo ||| 2 ^ n : Nat) : Int) :: .int .u64 hi :: l, ?_, ⟨_, hi, l, rfl, orlt h1 (pw hs), h2, fun i hi => ?_, fun i hi => ?_⟩, rfl, rfl, fun h => h⟩
  ·apply Gets.get
   refine qh7 _ _ ?_
   rw [decide_eq_true (show (n : Int) < 64 by omega)]
   simp only [cond_true, ql, qy8, qc, qm, qfF hs, qfJ h1 (pw hs)]
   exact ⟨_, rfl, rfl⟩
  ·rw [bit, h3 i hi]
  ·have : decide (i + 64 = n) = false := decide_eq_false (by omega)
   rw [h4 i hi]
   show p (i + 64) = (p (i + 64) || decide (i + 64 = n))
   rw [this, Bool.or_false]
 ·obtain ⟨k, rfl⟩ : ∃ k, n = k + 64 := ⟨n - 64, by omega⟩
  have hk : k < 64 := by omega
  have w : IntKind.wrap .i64 (((k + 64 : Nat) : Int) - 64) = (k : Int) := by rw [qM (by omega) (by omega)]; omega
  refine ⟨.int .u64 lo :: .int .u64 ((hi ||| 2 ^ k : Nat) : Int) :: l, ?_, ⟨lo, _, l, rfl, h1, orlt h2 (pw hk), fun i hi => ?_, fun i hi => ?_⟩, rfl, rfl, fun h => h⟩
  ·apply Gets.get
   refine qh7 _ _ ?_
   rw [decide_eq_false (show ¬ ((k + 64 : Nat) : Int) < 64 by omega), w]
   simp only [cond_false, ql, List.getElem?_cons_succ, qy8, qc, qm, qfF hk, qfJ h2 (pw hk)]
   exact ⟨_, rfl, rfl⟩
  ·have : decide (i = k + 64) = false := decide_eq_false (by omega)
   rw [h3 i hi]
   show p i = (p i || decide (i = k + 64))
   rw [this, Bool.or_false]
  ·rw [bit, h4 i hi]
   congr 1
   exact decide_eq_decide.2 (by omega)
noncomputable def qxs : Den := evC cfg (EV cfg) 231 none 1 (sub (qe Tryz.f231) [1, 1, 1, 0, 1, 0, 0])
noncomputable def qya (B : Rz) (n : Int) : Ex × List AV × AH → Option AV := kAft (Cfg.keepOut cfg 231 (qq (sub (qe Tryz.f231) [1, 1, 1, 0, 1, 0, 0]))) (vF 0 (kSeq (fun (fr : List AV) (H : AH) => vK (Cfg.cut cfg 231 (qq (sub (qe Tryz.f231) [1, 1, 1, 1]))) fr H fun (fr : List AV) (H : AH) => qT cfg (EV cfg) (kfN cfg (5)) 37 none 1 (sub (qe Tryz.f231) [1, 1, 1, 1]) fr H (xa cfg (Cfg.lift cfg 231 0) (fun (v : AV) (H : AH) => (fun (r : AV × AH) => kOpt (yn none 1 (Prod.fst r) (Prod.snd r)) fun (r : AV × AH) => kTy noTy cfg (Oper.type { dst := some 8, op := Op.call { callee := Callee.value (Operand.func 231), args := #[Operand.tmp 7], argTypes := #[25] }, type := 211, pos := "pattern.go:188", after := #[{ on := 0, ground := Ground.data }], guard := none }) (Prod.fst r) fun (v : AV) => (fun (v : AV) (H' : AH) => kOps cfg (EV cfg) (kfN cfg 6) 154 1 (qb3 (sub (qe Tryz.f154) [1, 0])) (0 + 1 + 1) (qzj 2 (qze (qb3 (sub (qe Tryz.f154) [1, 0])))) (put (fx 35 [(0, AV.sl B), (1, AV.int IntKind.i64 n), (4, AV.ptr 0 0 0), (5, AV.bool false), (7, AV.sl B)]) (some 8) v) H' fun (fr' : List AV) (H' : AH) => kSeq (fun (fr : List AV) (H : AH) => vK (Cfg.cut cfg 154 (qq (sub (qe Tryz.f154) [1, 1]))) fr H fun (fr : List AV) (H : AH) => qT cfg (EV cfg) (kfN cfg 6) 154 none 0 (sub (qe Tryz.f154) [1, 1]) fr H (vp cfg (Cfg.lift cfg 154 0) (qze (Func.results Tryz.f154)))) (vp cfg (Cfg.lift cfg 154 0) (qze (Func.results Tryz.f154))) Ex.normal fr' H') v (Prod.snd r)) (v, H)) (qze (Func.results (Prod.snd (231, Tryz.f231)))))) (xa cfg (Cfg.lift cfg 231 0) (fun (v : AV) (H : AH) => (fun (r : AV × AH) => kOpt (yn none 1 (Prod.fst r) (Prod.snd r)) fun (r : AV × AH) => kTy noTy cfg (Oper.type { dst := some 8, op := Op.call { callee := Callee.value (Operand.func 231), args := #[Operand.tmp 7], argTypes := #[25] }, type := 211, pos := "pattern.go:188", after := #[{ on := 0, ground := Ground.data }], guard := none }) (Prod.fst r) fun (v : AV) => (fun (v : AV) (H' : AH) => kOps cfg (EV cfg) (kfN cfg 6) 154 1 (qb3 (sub (qe Tryz.f154) [1, 0])) (0 + 1 + 1) (qzj 2 (qze (qb3 (sub (qe Tryz.f154) [1, 0])))) (put (fx 35 [(0, AV.sl B), (1, AV.int IntKind.i64 n), (4, AV.ptr 0 0 0), (5, AV.bool false), (7, AV.sl B)]) (some 8) v) H' fun (fr' : List AV) (H' : AH) => kSeq (fun (fr : List AV) (H : AH) => vK (Cfg.cut cfg 154 (qq (sub (qe Tryz.f154) [1, 1]))) fr H fun (fr : List AV) (H : AH) => qT cfg (EV cfg) (kfN cfg 6) 154 none 0 (sub (qe Tryz.f154) [1, 1]) fr H (vp cfg (Cfg.lift cfg 154 0) (qze (Func.results Tryz.f154)))) (vp cfg (Cfg.lift cfg 154 0) (qze (Func.results Tryz.f154))) Ex.normal fr' H') v (Prod.snd r)) (v, H)) (qze (Func.results (Prod.snd (231, Tryz.f231)))))))
noncomputable def qsC (B : Rz) (n : Int) : List AV × AH → Option AV := fun (p : List AV × AH) => kOpt (LOOP 1 (some [3, 4, 9, 10, 11]) [] qxs p) (qya B n)
noncomputable abbrev qhJ (B : Rz) (n v4 v11 c0_0 c0_1 : Int) (c0_2 : Bz) (c0_3 : Rz) (c1r0 : List AV) : Option (AV) := qsC (B) (n) (((fx 48 [(3, .ptr 1 0 0), (4, .int .i64 v4), (9, .sl B), (10, .int .i64 (B.length : Int)), (11, .int .i64 v11)]) : List AV), ([.rows false 4 [[.int .i64 c0_0, .int .i64 c0_1, .str c0_2, .sl c0_3]], .rows true 402 [c1r0]] : AH))
noncomputable abbrev quY (B : Rz) (n n' n'' n''' : Int) (s : Bz) (rows : Rz) (q : MV × List (List AV)) (row : List AV) (v4 v11 c0_0 c0_1 : Int) (c0_2 : Bz) (c0_3 : Rz) : Option (AV) := qsC (B) (n) (((fx 48 [(3, .ptr 1 0 0), (4, .int .i64 v4), (9, .sl B), (10, .int .i64 (B.length : Int)), (11, .int .i64 v11)]) : List AV), ([.rows false 4 [[.int .i64 c0_0, .int .i64 c0_1, .str c0_2, .sl c0_3]], .rows true 402 (List.set q.2 0 (qy4 (qy4 (qyM (2 + qyY n' * 4) row) [.int .i64 n'', .int .i64 n''', .str s, .sl rows]) (qzj (2 + qyY n' * 4 + 4) row)))] : AH))
theorem qoj (B : Rz) (n : Int) {P : AV → Prop} (h : Gets (qhJ B n (- 1) 0 0 0 [] [] [AV.int .u64 0, .int .u64 0, .int .i64 0, .int .i64 0, .str [], .nilS, .int .i64 0, .int .i64 0, .str [], .nilS, .int .i64 0, .int .i64 0, .str [], .nilS, .int .i64 0, .int .i64 0, .str [], .nilS, .int .i64 0, .int .i64 (0 : Int), .str [], .nilS, .int .i64 0, .int .i64 0, .str [], .nilS, .int .i64 0, .int .i64 0, .str [], .nilS, .int .i64 0, .int .i64 0, .str [], .nilS, .int .i64 0, .int .i64 0, .str [], .nilS, .int .i64 0, .int .i64 0, .str [], .nilS, .int .i64 0, .int .i64 0, .str [], .nilS, .int .i64 0, .int .i64 0, .str [], .nilS, .int .i64 0, .int .i64 0, .str [], .nilS, .int .i64 0, .int .i64 0, .str [], .nilS, .int .i64 0, .int .i64 0, .str [], .nilS, .int .i64 0, .int .i64 0, .str [], .nilS, .int .i64 0, .int .i64 0, .str [], .nilS, .int .i64 0, .int .i64 0, .str [], .nilS, .int .i64 0, .int .i64 0, .str [], .nilS, .int .i64 0, .int .i64 0, .str [], .nilS, .int .i64 0, .int .i64 0, .str [], .nilS, .int .i64 0, .int .i64 0, .str [], .nilS, .int .i64 0, .int .i64 0, .str [], .nilS, .int .i64 0, .int .i64 0, .str [], .nilS, .int .i64 0, .int .i64 0, .str [], .nilS, .int .i64 0, .int .i64 0, .str [], .nilS, .int .i64 0, .int .i64 0, .str [], .nilS, .int .i64 0, .int .i64 0, .str [], .nilS, .int .i64 0, .int .i64 0, .str [], .nilS, .int .i64 0, .int .i64 0, .str [], .nilS, .int .i64 0, .int .i64 0, .str [], .nilS, .int .i64 0, .int .i64 0, .str [], .nilS, .int .i64 0, .int .i64 0, .str [], .nilS, .int .i64 0, .int .i64 0, .str [], .nilS, .int .i64 0, .int .i64 0, .str [], .nilS, .int .i64 0, .int .i64 0, .str [], .nilS, .int .i64 0, .int .i64 0, .str [], .nilS, .int .i64 0, .int .i64 0, .str [], .nilS, .int .i64 0, .int .i64 0, .str [], .nilS, .int .i64 0, .int .i64 0, .str [], .nilS, .int .i64 0, .int .i64 0, .str [], .nilS, .int .i64 0, .int .i64 0, .str [], .nilS, .int .i64 0, .int .i64 0, .str [], .nilS, .int .i64 0, .int .i64 0, .str [], .nilS, .int .i64 0, .int .i64 0, .str [], .nilS, .int .i64 0, .int .i64 0, .str [], .nilS, .int .i64 0, .int .i64 0, .str [], .nilS, .int .i64 0, .int .i64 0, .str [], .nilS, .int .i64 0, .int .i64 0, .str [], .nilS, .int .i64 0, .int .i64 0, .str [], .nilS, .int .i64 0, .int .i64 0, .str [], .nilS, .int .i64 0, .int .i64 0, .str [], .nilS, .int .i64 0, .int .i64 0, .str [], .nilS, .int .i64 0, .int .i64 0, .str [], .nilS, .int .i64 0, .int .i64 0, .str [], .nilS, .int .i64 0, .int .i64 0, .str [], .nilS, .int .i64 0, .int .i64 0, .str [], .nilS, .int .i64 0, .int .i64 0, .str [], .nilS, .int .i64 0, .int .i64 0, .str [], .nilS, .int .i64 0, .int .i64 0, .str [], .nilS, .int .i64 0, .int .i64 0, .str [], .nilS, .int .i64 0, .int .i64 0, .str [], .nilS, .int .i64 0, .int .i64 0, .str [], .nilS, .int .i64 0, .int .i64 0, .str [], .nilS, .int .i64 0, .int .i64 0, .str [], .nilS, .int .i64 0, .int .i64 0, .str [], .nilS, .int .i64 0, .int .i64 0, .str [], .nilS, .int .i64 0, .int .i64 0, .str [], .nilS, .int .i64 0, .int .i64 0, .str [], .nilS, .int .i64 0, .int .i64 0, .str [], .nilS, .int .i64 0, .int .i64 0, .str [], .nilS, .int .i64 0, .int .i64 0, .str [], .nilS, .int .i64 0, .int .i64 0, .str [], .nilS, .int .i64 0, .int .i64 0, .str [], .nilS, .int .i64 0, .int .i64 0, .str [], .nilS, .int .i64 0, .int .i64 0, .str [], .nilS, .int .i64 0, .int .i64 0, .str [], .nilS, .int .i64 0, .int .i64 0, .str [], .nilS, .int .i64 0, .int .i64 0, .str [], .nilS, .int .i64 0, .int .i64 0, .str [], .nilS, .int .i64 0, .int .i64 0, .str [], .nilS, .int .i64 0, .int .i64 0, .str [], .nilS, .int .i64 0, .int .i64 0, .str [], .nilS, .int .i64 0, .int .i64 0, .str [], .nilS, .int .i64 0, .int .i64 0, .str [], .nilS, .int .i64 0, .int .i64 0, .str [], .nilS, .int .i64 0, .int .i64 0, .str [], .nilS, .int .i64 0, .int .i64 0, .str [], .nilS, .int .i64 0, .int .i64 0, .str [], .nilS, .int .i64 0, .int .i64 0, .str [], .nilS, .int .i64 0, .int .i64 0, .str [], .nilS, .int .i64 0, .int .i64 0, .str [], .nilS, .int .i64 0, .int .i64 0, .str [], .nilS, .int .i64 0, .int .i64 0, .str [], .nilS, .int .i64 0, .int .i64 0, .str [], .nilS, .int .i64 0, .int .i64 0, .str [], .nilS, .int .i64 0, .int .i64 0, .str [], .nilS, .int .i64 0, .int .i64 0, .str [], .nilS, .int .i64 0, .int .i64 0, .str [], .nilS, .int .i64 0, .int .i64 0, .str [], .nilS]) P) : Gets (EVf (EV cfg) 154 [.sl B, .int .i64 n]) P :=
  gE (fun _ => funF rfl rfl Tryz.func154 rfl) (by kernel_rfl) h
noncomputable abbrev zo0  : Option (AV) := some (AV.tup [.agg [.int .i64 0, .int .i64 0, .str [], .sl []], .bool false])
theorem qgh (B : Rz) (n v4 v11 c0_0 c0_1 : Int) (c0_2 : Bz) (c0_3 : Rz) (c1r0 : List AV) {P : AV → Prop} (h : Gets (bif decide (v11 < (B.length : Int)) then bif qh 0 v11 && qg v11 (B.length : Int) then kOpt (qyG B (v11.toNat)) fun row => bif qyW (qyH row) 5 then bif qyQ 5 (qyH row) then qa (qyM 5 row) fun c cs => kInt .i64 c fun n_1 => kTmC cs fun n_2 n_3 s rows => (bif decide (n_1 ≤ v4) then some (AV.tup [.agg [.int .i64 0, .int .i64 0, .str [], .sl []], .bool false]) else bif decide (n_1 > 99) then some (AV.tup [.agg [.int .i64 0, .int .i64 0, .str [], .sl []], .bool false]) else kOpt (EVs (EV cfg) 208 [.agg [.int .i64 n_2, .int .i64 n_3, .str s, .sl rows]]) fun v => qf v fun b => bif ! b then some (AV.tup [.agg [.int .i64 0, .int .i64 0, .str [], .sl []], .bool false]) else kOpt (EVm (EV cfg) 291 [.ptr 0 0 0, .int .i64 n_1] 402 [c1r0]) fun q => zB q.1 (bif qh 0 n_1 && qg n_1 100 then kOpt (qyG q.2 0) fun row => bif qyQ (2 + qyY n_1 * 4 + 4) (qyH row) then quY B n n_1 n_2 n_3 s rows q row n_1 (IntKind.wrap .i64 (v11 + 1)) c0_0 c0_1 c0_2 c0_3 else none else none)) else none else none else none else bif decide (n < 0) then zo0 else bif decide (n > 99) then zo0 else bif qz 0 c1r0 then bif qz 0 [AV.cptr c1r0 0, .int .i64 n] then kOpt (EVs (EV cfg) 232 [AV.cptr c1r0 0, .int .i64 n]) fun v => qf v fun b => bif ! b then zo0 else bif qh 0 n && qg n 100 then bif qyQ (2 + qyY n * 4 + 4) (qyH c1r0) then qa (qyM 4 (qzj (2 + qyY n * 4) c1r0)) fun c cs => kInt .i64 c fun n => qa cs fun c cs => kInt .i64 c fun n_1 => qa cs fun c cs => kStr c fun s => qa cs fun c cs => kSl c fun rows => kNil cs (kOpt (EVf (EV cfg) 71 [.agg [.int .i64 n, .int .i64 n_1, .str s, .sl rows]]) fun v => kTmV v fun n n_2 s rows => (some (AV.tup [.agg [.int .i64 n, .int .i64 n_2, .str s, .sl rows], .bool true]))) else none else none else none else none) P) : Gets (qhJ B n v4 v11 c0_0 c0_1 c0_2 c0_3 c1r0) P :=
  gE (fun _ => qn (cfg := cfg) (f := 231) (rd := none) (bs := 1)) (by kernel_rfl) h
def qaF (o : Option Tm) : AV := match o with | some t => .tup [t.av, .bool true] | none => .tup [qX.av, .bool false]
theorem qtG {L : List (Int × Tm)} {n last : Int} {r : List AV} (hm : mayB (-1) L = true) (hr : BRow L r) (hok : ∀ p ∈ L, p.2.Ok) : Gets (qhJ (qo L) n last L.length 0 0 [] [] r) (· = qaF (qcb n L)) := by
 have hz : AV.agg [.int .i64 0, .int .i64 0, .str [], .sl []] = qX.av := vq.symm
 unfold qcb
 rw [if_pos hm]
 refine qgh _ _ _ _ _ _ _ _ _ ?_
 unfold zo0
 rw [qQ, decide_eq_false (show ¬ (L.length : Int) < (L.length : Int) by omega), cond_false, hz]
 by_cases h1 : n < 0
 ·have : qP n L = none := by
   cases hx : qP n L with
   | none => rfl
   | some t => have := qdw hm _ (xy hx); simp at this; omega
  rw [decide_eq_true h1, this]; exact ⟨_, rfl, rfl⟩
 ·rw [decide_eq_false h1, cond_false]
  by_cases h2 : n > 99
  ·have : qP n L = none := by
    cases hx : qP n L with
    | none => rfl
    | some t => have := qdw hm _ (xy hx); simp at this; omega
   rw [decide_eq_true h2, this]; exact ⟨_, rfl, rfl⟩
  ·rw [decide_eq_false h2, cond_false]
   obtain ⟨k, rfl⟩ : ∃ k : Nat, n = k := ⟨n.toNat, by omega⟩
   have hk : k < 100 := by omega
   have hf2 : qz 0 [AV.cptr r 0, .int .i64 (k : Int)] = true := by simp [qz, AV.refsLt, hr.free]
   rw [hr.free, hf2, qaN hr.set hk]
   simp only [cond_true, qc, qk]
   cases hx : qP (k : Int) L with
   | none => exact ⟨_, rfl, rfl⟩
   | some t =>
    have hc := hr.cells k hk t hx
    have hcopy := qpi (hok _ (xy hx))
    have hb : qyQ (2 + (k : Int).toNat * 4 + 4) r.length = true := by rw [qy9, hr.len]; omega
    have hl2 : qg (k : Int) 100 = true := by simp [qg]; omega
    rw [qw, hl2, hb, qy3, hc, Tm.cells_eq]
    simp only [qzl, qzh, cond_false, cond_true, qy2, qa, qm, yN, vE, kNil, qj]
    rw [hcopy]
    simp only [qc, qE, qj]
    exact ⟨_, rfl, rfl⟩
theorem qsm {L : List (Int × Tm)} {n : Int} (hlen : L.length < 1099511627776) (hw : ∀ p ∈ L, p.2.w < 1099511627776) : ∀ (d i : Nat) (last : Int) (r : List AV), i + d = L.length → -1 ≤ last →
  (mayB (-1) L = mayB last (L.drop i)) → (∀ p ∈ L.take i, p.1 ≤ last) → BRow (L.take i) r → Gets (qhJ (qo L) n last i 0 0 [] [] r) (· = qaF (qcb n L)) := by
 have hok : ∀ p ∈ L, p.2.Ok := fun p hp => zQ _ (hw p hp)
 have hz : AV.agg [.int .i64 0, .int .i64 0, .str [], .sl []] = qX.av := vq.symm
 intro d
 induction d with
 | zero =>
  intro i last r hi _ hm _ hr
  obtain rfl : i = L.length := by omega
  rw [qyP (qyN _)] at hr
  have hm' : mayB (-1) L = true := by rw [hm, qyV (qyN _)]; rfl
  exact qtG hm' hr hok
 | succ d ih =>
  intro i last r hi hlast hm hkeys hr
  have hil : i < L.length := by omega
  have hx : L[i]? = some L[i] := qyI hil
  have hd : L.drop i = L[i] :: L.drop (i + 1) := qyS hil
  have ht : L.take (i + 1) = L.take i ++ [L[i]] := by rw [List.take_add_one, hx]; rfl
  have hmem := qyR hx
  have hmay := zP (hw _ hmem)
  rw [hd] at hm
  generalize hp : L[i] = p at *
  obtain ⟨pn, pt⟩ := p
  simp only at hmay
  refine qgh _ _ _ _ _ _ _ _ _ ?_
  unfold zo0
  rw [qQ, decide_eq_true (show (i : Int) < (L.length : Int) by omega), qw, qD, decide_eq_true hil, ql, qy3, xI, hx, qJ hil hlen]
  simp only [cond_true, qy2, qy7, qc, qzc, qi, qy1, show qyQ (4 + 1) (4 + 1) = true from rfl, show qyQ 5 (4 + 1) = true from rfl, show qyW (4 + 1) 5 = true from rfl]
  have htk : qyM 5 (AV.int .i64 pn :: pt.cells) = AV.int .i64 pn :: pt.cells := qyP (by simp)
  rw [htk]
  simp only [qa, qm, qt, qj]
  rw [hmay]
  have none_of : mayB (-1) L = false → qaF (qcb n L) = .tup [qX.av, .bool false] := fun h => by unfold qcb; rw [h]; rfl
  rw [hz]
  by_cases h1 : pn ≤ last
  ·rw [decide_eq_true h1]
   refine ⟨_, rfl, (none_of ?_).symm⟩
   rw [hm, mayB, decide_eq_false (by show ¬ last < pn; omega), Bool.false_and]
  ·rw [decide_eq_false h1, cond_false]
   by_cases h2 : pn > 99
   ·rw [decide_eq_true h2]
    refine ⟨_, rfl, (none_of ?_).symm⟩
    rw [hm, mayB, decide_eq_false (show ¬ (pn, pt).1 ≤ 99 by show ¬ pn ≤ 99; omega), Bool.false_and, Bool.and_false]
   ·rw [decide_eq_false h2, cond_false]
    by_cases h3 : pt.chk = 0
    ·obtain ⟨k, rfl⟩ : ∃ k : Nat, pn = k := ⟨pn.toNat, by omega⟩
     have hk : k < 100 := by omega
     obtain ⟨r', e1, e2, e3, e4, e5⟩ := qkg hr.set hk
     have hnew : qP (k : Int) (L.take i) = none := by
      cases hx : qP (k : Int) (L.take i) with
      | none => rfl
      | some t => have := hkeys _ (xy hx); simp at this; omega
     have hadd := hr.add (t := pt) hk hnew e2 e3 e4 e5
     have hb : qyQ (2 + (k : Int).toNat * 4 + 4) r'.length = true := by rw [qy9, e4, hr.len]; omega
     have hl2 : qg (k : Int) 100 = true := by simp [qg]; omega
     have := ih (i + 1) k _ (by omega) (by omega) (by rw [hm, mayB, decide_eq_true (show last < (k : Int) by omega), decide_eq_true (show ((k : Int)) ≤ 99 by omega), decide_eq_true h3]; rfl)
      (fun p hpm => by
       rw [ht] at hpm
       rcases qzi.1 hpm with h | h
       ·have := hkeys p h; omega
       ·simp at h; subst h; exact Int.le_refl _) (by rw [ht]; exact hadd)
     simp only [qc, qk, decide_eq_true h3, qzh, cond_false, e1, qgO, qw, hl2, qy2, cond_true, ql, qy8, hb]
     rw [Tm.cells_eq] at this
     exact this
    ·simp only [qc, qk, decide_eq_false h3, Bool.not_false, cond_true]
     refine ⟨_, rfl, (none_of ?_).symm⟩
     rw [hm, mayB, decide_eq_false (show ¬ (((pn, pt) : Int × Tm).2).chk = 0 from h3), Bool.false_and, Bool.and_false, Bool.and_false]
theorem qoZ : BRow [] ([AV.int .u64 0, .int .u64 0] ++ (qzf 100 [AV.int .i64 0, .int .i64 0, .str [], .nilS]).flatten) where
 len := by decide +kernel
 set := ⟨0, 0, _, rfl, by omega, by omega, fun n _ => by simp [qP], fun n _ => by simp [qP]⟩
 cells := fun i _ t h => by simp [qP] at h
 free := by decide +kernel
theorem qqj {L : List (Int × Tm)} (hlen : L.length < 1099511627776) (hw : ∀ p ∈ L, p.2.w < 1099511627776) (n : Int) : EVf (EV cfg) 154 [.sl (qo L), .int .i64 n] = some (qaF (qcb n L)) := by
 apply Gets.get
 refine qoj _ _ ?_
 have h := qsm (n := n) hlen hw L.length 0 (-1) _ (by omega) (by omega) rfl (fun p hp => by simp at hp) qoZ
 refine Gets.eq ?_ h
 kernel_rfl
def mayR (last : Int) (pre : List Int) (L : List (Int × Tm)) (o : Tm) (self : Int) : AV :=
 if mayB last L then .tup [.sl (qx (pre ++ L.map (·.1))), .bool (decide (o.chk = 0) && y8 self)] else .tup [.sl [], .bool false]
def envR (o : Tm) (L : List (Int × Tm)) (self : Int) : AV := .agg [.int .i64 o.kind, .int .i64 o.num, .str o.str, .sl (qb o.subs), .sl (qo L), .int .i64 self]
theorem qdN {n : Nat} (h : n ≤ 1099511627776) : qN n 8 = true := by
 unfold qN
 rw [qyK, qy9, qy9]
 omega
theorem qgS {L : List (Int × Tm)} (hlen : L.length < 1099511627776) (hw : ∀ p ∈ L, p.2.w < 1099511627776) {o : Tm} (ho : o.w < 1099511627776) (self : Int) :
  EVf (EV cfg) 68 [envR o L self] = some (mayR (-1) [] L o self) := by
 have hco := zK ho
 rw [Tm.av, Tm.cells_eq] at hco
 have loop : ∀ (d i : Nat) (last : Int), i + d = L.length → Gets (qhH (qo L) i last i o.kind o.num o.str (qb o.subs) (qo L) self (qx ((L.take i).map (·.1)))) (· = mayR last ((L.take i).map (·.1)) (L.drop i) o self) := by
  intro d
  induction d with
  | zero =>
   intro i last hi
   refine qgg _ _ _ _ _ _ _ _ _ _ _ ?_
   obtain rfl : i = L.length := by omega
   have hb : qyQ (0 + L.length) (qx ((L.take L.length).map (·.1))).length = true := by rw [qy9, q4, qzd, qzb]; omega
   have ht : qyM L.length (qx ((L.take L.length).map (·.1))) = qx ((L.take L.length).map (·.1)) := qyP (by rw [q4, qzd, qzb]; omega)
   rw [qQ, decide_eq_false (by omega), qyV (qyN _), hco, qu5]
   unfold mayR
   simp only [cond_false, qc, qm, qk, beqI, cond_true, mayB, if_true, List.map_nil, List.append_nil, hb, ht, Bool.and_true]
   by_cases hc : o.chk = 0
   ·rw [decide_eq_true hc]; exact ⟨_, rfl, rfl⟩
   ·rw [decide_eq_false hc]; exact ⟨_, rfl, rfl⟩
  | succ d ih =>
   intro i last hi
   refine qgg _ _ _ _ _ _ _ _ _ _ _ ?_
   have hil : i < L.length := by omega
   have hx : L[i]? = some L[i] := qyI hil
   have hd : L.drop i = L[i] :: L.drop (i + 1) := qyS hil
   have hck := zK (hw L[i] (qyR hx))
   have h := ih (i + 1) L[i].1 (by omega)
   have e1 : (L.take (i + 1)).map (·.1) = (L.take i).map (·.1) ++ [L[i].1] := by
    have ht : L.take (i + 1) = L.take i ++ [L[i]] := by rw [List.take_add_one, hx]; rfl
    rw [ht, List.map_append]; rfl
   have hl0 : (qx ((L.take i).map (·.1))).length = i := by rw [q4, qzd, qzb]; omega
   have e2 : qy4 (qyM i (qx ((L.take i).map (·.1)))) [[AV.int .i64 L[i].1]] = qx ((L.take (i + 1)).map (·.1)) := by
    rw [qyP (by omega), e1]; simp [qx]
   have e3 : qyQ (0 + i) (qx ((L.take i).map (·.1))).length = true := by rw [hl0, qy9]; omega
   rw [qQ, decide_eq_true (show (i : Int) < (L.length : Int) by omega), qw, qD, decide_eq_true hil, ql, qy3, xI, hx, qJ hil hlen, hd]
   simp only [qy7, cond_true, qy2, qc, qzc, qi, show qyW (4 + 1) 5 = true from rfl, show qyQ 5 (4 + 1) = true from rfl, List.take_succ_cons, qp, qa, qm, qt, qj, hck, e2, e3, qdN (show i + 1 ≤ 1099511627776 by omega)]
   unfold mayR at h ⊢
   rw [mayB]
   by_cases h1 : last < L[i].1
   ·rw [decide_eq_false (show ¬ L[i].1 ≤ last by omega), decide_eq_true h1, cond_false, qzg]
    by_cases h2 : L[i].1 ≤ 99
    ·rw [decide_eq_false (show ¬ L[i].1 > 99 by omega), decide_eq_true h2, cond_false, qzg]
     by_cases h3 : L[i].2.chk = 0
     ·have e0 : (L[i].2.chk != 0) = false := by rw [h3]; rfl
      rw [e0, decide_eq_true h3, cond_false, qzg]
      have e4 : (L.take (i + 1)).map (·.1) ++ (L.drop (i + 1)).map (·.1) = (L.take i).map (·.1) ++ (L[i] :: L.drop (i + 1)).map (·.1) := by rw [e1, List.append_assoc]; rfl
      rw [e4] at h
      exact h
     ·have e0 : (L[i].2.chk != 0) = true := by simpa using h3
      rw [e0, decide_eq_false h3]; exact ⟨_, rfl, rfl⟩
    ·rw [decide_eq_true (show L[i].1 > 99 by omega), decide_eq_false h2]; exact ⟨_, rfl, rfl⟩
   ·rw [decide_eq_true (show L[i].1 ≤ last by omega), decide_eq_false h1]; exact ⟨_, rfl, rfl⟩
 apply Gets.get
 refine qmR _ _ _ _ _ _ ?_
 have h := loop L.length 0 (-1) (by omega)
 exact h
def qhS (b : Bool) (t : Tm) : Option Tm := if b then none else if t.chk = 0 then some t else none
theorem qrZ (e : Env) (b : Bool) {t : Tm} (h : t.w < 1099511627776) : Gets (EVd (EV cfg) 155 [.ptr 0 0 0, t.av] 7 (mR e b)) (Res e (qhS b t)) := by
 have hc := zK h
 have hr := xK e b
 unfold qhS
 rw [Tm.av, Tm.cells_eq] at hc ⊢
 refine qiA _ _ _ _ _ _ _ _ _ _ _ ?_
 unfold zf0
 rw [hc]
 cases b with
 | true =>
  rw [if_pos rfl, cond_true, hr]
  simp only [qc, qE]
  rw [qj]; exact vm
 | false =>
  rw [if_neg (by simp), cond_false]
  simp only [qc, qm]
  by_cases h0 : t.chk = 0
  ·have e0 : (t.chk != 0) = false := by rw [h0]; rfl
   rw [e0, if_pos h0, cond_false, qj]; exact qS
  ·have e0 : (t.chk != 0) = true := by simpa using h0
   rw [e0, if_neg h0, cond_true, hr]
   simp only [qc, qE]
   rw [qj]; exact vm
theorem qr2 {e : Env} (hlen : e.binds.length < 1099511627776) (b : Bool) : EVd (EV cfg) 156 [.ptr 0 0 0] 7 (mR e b) = some ((qiz (e.binds.map (·.2)) (.mk 8 0 [] [])).av, mR e b) := by
 have loop : ∀ (d i : Nat), i + d = e.binds.length → Gets (qhG (qo e.binds) i i (mR e b) 0 0 [] [] (qb ((e.binds.take i).map (·.2)))) (· = ((qiz (e.binds.map (·.2)) (.mk 8 0 [] [])).av, mR e b)) := by
  intro d
  induction d with
  | zero =>
   intro i hi
   refine qgf _ _ _ _ _ _ _ _ _ ?_
   obtain rfl : i = e.binds.length := by omega
   have hb : qyQ (0 + e.binds.length) (qb ((e.binds.take e.binds.length).map (·.2))).length = true := by rw [qy9, qd, qzd, qzb]; omega
   have ht : qyM e.binds.length (qb ((e.binds.take e.binds.length).map (·.2))) = qb (e.binds.map (·.2)) := by
    rw [qyP (by rw [qd, qzd, qzb]; omega), List.take_length]
   have hm := qom (l := e.binds.map (·.2)) (by rw [qzd]; exact hlen) (.mk 8 0 [] [])
   rw [Tm.av_mk, qI] at hm
   rw [qQ, decide_eq_false (by omega)]
   simp only [cond_false, hb, Bool.and_true, cond_true, ht, hm, qc, qE, qj]
   exact ⟨_, rfl, rfl⟩
  | succ d ih =>
   intro i hi
   refine qgf _ _ _ _ _ _ _ _ _ ?_
   have hil : i < e.binds.length := by omega
   have hx : e.binds[i]? = some e.binds[i] := qyI hil
   have h := ih (i + 1) (by omega)
   have e1 : (e.binds.take (i + 1)).map (·.2) = (e.binds.take i).map (·.2) ++ [e.binds[i].2] := by
    have ht : e.binds.take (i + 1) = e.binds.take i ++ [e.binds[i]] := by rw [List.take_add_one, hx]; rfl
    rw [ht, List.map_append]; rfl
   have hl0 : (qb ((e.binds.take i).map (·.2))).length = i := by rw [qd, qzd, qzb]; omega
   have e2 : qy4 (qyM i (qb ((e.binds.take i).map (·.2)))) [e.binds[i].2.cells] = qb ((e.binds.take (i + 1)).map (·.2)) := by
    rw [qyP (by omega), e1, q8, qy, qI]; rfl
   have e3 : qyQ (0 + i) (qb ((e.binds.take i).map (·.2))).length = true := by rw [hl0, qy9]; omega
   rw [qQ, decide_eq_true (show (i : Int) < (e.binds.length : Int) by omega), qw, qD, decide_eq_true hil, ql, qy3, xI, hx, qJ hil hlen]
   simp only [qy7, cond_true, qy2, qc, qzc, qi, show qyW (4 + 1) 5 = true from rfl, show qyQ 5 (4 + 1) = true from rfl, List.take_succ_cons, qp, qa, qm, qt, e3, yb (show i + 1 ≤ 1099511627776 by omega)]
   rw [← Tm.cells_eq, e2]
   exact h
 apply Gets.get
 refine qqu _ _ _ _ _ _ _ ?_
 exact loop e.binds.length 0 (by omega)
end Go.Proofs.YtkgkjngbfdnoiaaGreat
end
section
namespace Go.Av
def zD (f : Tm → Option Tm) : List Tm → Option (List Tm)
 | [] => some []
 | t :: l => (f t).bind fun x => (zD f l).map (x :: ·)
def ResL (e : Env) (o : Option (List Tm)) (r : AV × List (List AV)) : Prop :=
 match o with
 | some ts => r = (.sl (qb ts), mR e false)
 | none => r.2 = mR e true ∧ ∃ ts : List Tm, r.1 = .sl (qb ts)
end Go.Av
namespace Go.Proofs.YtkgkjngbfdnoiaaGreat
open Go.Av
theorem qpH {e : Env} {l acc : List Tm} {i : Nat} (hi : i ≤ l.length) (ha : acc.length = i) : Gets (qd8 (qb l) i i (mR e true) (qb acc)) (ResL e none) := by
 refine qcj _ _ _ _ _ ?_
 by_cases hil : i < l.length
 ·have hx : l[i]? = some l[i] := qyI hil
  rw [qd, decide_eq_true (show (i : Int) < (l.length : Int) by omega), qw, qD, decide_eq_true hil, q9 hx]
  simp only [cond_true, qy2, qi, qy1, qp, qt, show qyQ 4 4 = true from rfl, qc]
  exact ⟨_, rfl, rfl, [], by rw [qI]⟩
 ·have e3 : (qyQ (0 + i) (qb acc).length && true) = true := by rw [Bool.and_true, qy9, qd]; omega
  rw [qd, decide_eq_false (by omega), cond_false, e3, cond_true, qyP (by rw [qd]; omega)]
  exact ⟨_, rfl, rfl, acc, rfl⟩
theorem qqr {e : Env} {f : Tm → Option Tm} {l : List Tm} (hlen : l.length < 1099511627776) (ih : ∀ x ∈ l, Gets (EVd (EV cfg) 70 [.ptr 0 0 0, x.av] 7 (mR e false)) (Res e (f x))) :
  Gets (EVd (EV cfg) 157 [.ptr 0 0 0, .sl (qb l)] 7 (mR e false)) (ResL e (zD f l)) := by
 have loop : ∀ (d i : Nat) (acc : List Tm), i + d = l.length → acc.length = i → Gets (qd8 (qb l) i i (mR e false) (qb acc)) (ResL e ((zD f (l.drop i)).map (acc ++ ·))) := by
  intro d
  induction d with
  | zero =>
   intro i acc hi ha
   refine qcj _ _ _ _ _ ?_
   have e3 : (qyQ (0 + i) (qb acc).length && true) = true := by rw [Bool.and_true, qy9, qd]; omega
   rw [qd, decide_eq_false (by omega), cond_false, e3, cond_true, qyP (by rw [qd]; omega), qyV (by omega)]
   refine ⟨_, rfl, ?_⟩
   show _ = (AV.sl (qb (acc ++ [])), mR e false)
   rw [List.append_nil]
  | succ d ihd =>
   intro i acc hi ha
   refine qcj _ _ _ _ _ ?_
   have hil : i < l.length := by omega
   have hx : l[i]? = some l[i] := qyI hil
   have hd : l.drop i = l[i] :: l.drop (i + 1) := qyS hil
   have h1 := ih l[i] (qyR hx)
   have e3 : (qyQ (0 + i) (qb acc).length && qN (i + 1) 56) = true := by rw [yb (by omega), Bool.and_true, qy9, qd]; omega
   have e4 : ∀ t : Tm, qy4 (qyM i (qb acc)) [[.int .i64 t.kind, .int .i64 t.num, .str t.str, .sl (qb t.subs)]] = qb (acc ++ [t]) := by
    intro t
    rw [qyP (by rw [qd]; omega), q8, qy, qI, Tm.cells_eq]; rfl
   rw [qd, decide_eq_true (show (i : Int) < (l.length : Int) by omega), qw, qD, decide_eq_true hil, q9 hx, qJ hil hlen, hd, zD]
   simp only [cond_true, qy2, qi, qy1, qp, qt, show qyQ 4 4 = true from rfl, qc, qj]
   show Gets (kOpt (EVd (EV cfg) _ _ 7 (mR e false)) _) _
   refine Gets.bind h1 ?_
   intro r hr
   cases hf : f l[i] with
   | none =>
    rw [hf] at hr
    obtain ⟨h2, t, h3⟩ := hr
    rw [h2, h3, qE, e3, e4, cond_true]
    exact qpH (by omega) (by simp [ha])
   | some t =>
    rw [hf] at hr
    obtain rfl : r = (t.av, mR e false) := hr
    have h2 := ihd (i + 1) (acc ++ [t]) (by omega) (by simp [ha])
    rw [qE, e3, e4, cond_true]
    have e5 : ((some t).bind fun x => (zD f (l.drop (i + 1))).map (x :: ·)).map (acc ++ ·) = (zD f (l.drop (i + 1))).map (acc ++ [t] ++ ·) := by
     cases zD f (l.drop (i + 1)) <;> simp
    rw [e5]
    exact h2
 refine qon _ _ _ _ _ _ _ _ ?_
 have h := loop l.length 0 [] (by omega) rfl
 rw [qzk] at h
 have e6 : (zD f l).map ([] ++ ·) = zD f l := by cases zD f l <;> simp
 rw [e6] at h
 exact h
end Go.Proofs.YtkgkjngbfdnoiaaGreat
end
