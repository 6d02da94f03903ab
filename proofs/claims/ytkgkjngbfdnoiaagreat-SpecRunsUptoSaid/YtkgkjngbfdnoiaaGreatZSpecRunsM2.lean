/-
  Parts of the proof of SpecRunsUptoSaid, put together: the abstract evaluation and its contracts. Own work.
  What is proved: each lemma as it stands; no condition.
-/
import Derived.LoopNIn
import Derived.Test.YtkgkjngbfdnoiaaGreatZSpecRunsM1
open List renaming get?Internal → qyG, length → qyH, getElem?_eq_getElem → qyI, getElem?_eq_some_iff → qyL, take → qyM, take_of_length_le → qyP, mem_of_getElem? → qyR, drop_eq_getElem_cons → qyS, getElem?_append_left → qyU, drop_eq_nil_of_le → qyV, getElem?_set → qyX, getElem?_append_right → qyZ, append → qy4, length_append → qy6, getElem?_cons_zero → qy8, length_take → qzb, length_cons → qzc, length_map → qzd, replicate → qzf, mem_append → qzi, drop → qzj, drop_zero → qzk, mem_cons → qzm, range → qzn
open Option renaming bind_eq_some_iff → qyJ, map_eq_some_iff → qyO, bind_some → qy0, map_some → qy7, isSome_some → qzl
open Bool renaming and_eq_true → qyK, and_self → qy2, false_eq_true → qza, true_and → qzg, not_true → qzh
open Nat renaming le_refl → qyN, ble → qyQ, eq_of_beq_eq_true → qyT, beq → qyW, beq_refl → qy1, mul_le_mul_right → qy5, ble_eq → qy9
open Int renaming toNat → qyY, toNat_natCast → qy3
open Array renaming toList → qze
set_option maxRecDepth 1000000
set_option maxHeartbeats 0
section
namespace Go.Av
variable {C C' : qu} {μ μ' : MMap} {H H' : AH} {w w' : World} {P : Program}
def qvI [Lent] (C : qu) (μ : MMap) (r : AV) (n : Next) : Prop := (∃ v, n = .value v ∧ Rep C μ r v) ∨ (n = .skip ∧ r = .junk)
def qci [Lent] (P : Program) (s : Sem Next) (C : qu) (μ : MMap) (H : AH) (w : World) (a : AV) (H' : AH) : Prop :=
 ∃ n w' C' μ', s.run P w = .ok n w' ∧ qvI C' μ' a n ∧ Wld C' μ' H' w' ∧ Ext H.length C μ H w C' μ' H' w'
theorem Runs.v [Lent] {s : Sem Value} {a : AV} (h : Runs P s C μ H w a H') : qci P (do pure (.value (← s))) C μ H w a H' := by
 obtain ⟨v, w', C', μ', h1, h2, h3, h4⟩ := h
 exact ⟨.value v, w', C', μ', by simp [h1], .inl ⟨v, rfl, h2⟩, h3, h4⟩
theorem qci.pure' [Lent] (h : Wld C μ H w) {v : Value} {a : AV} (hr : Rep C μ a v) : qci P (pure (.value v)) C μ H w a H :=
 ⟨.value v, w, C, μ, by simp, .inl ⟨v, rfl, hr⟩, h, Ext.refl (qyN _)⟩
theorem Runs.opt [Lent] (h : Wld C μ H w) {s : Sem Value} {x : Option AV} {r : AV} (he : (x.map fun v => (v, H)) = some (r, H')) (hr : ∀ r, x = some r → ∃ v, s.run P w = .ok v w ∧ Rep C μ r v) : Runs P s C μ H w r H' := by
 obtain ⟨y, hy, hy2⟩ := qyO.1 he
 cases hy2
 exact Runs.pure' h (hr _ hy)
theorem qhd [Lent] {x : Operand → AV} {ρ : Operand → Value} (hx : ∀ a, Rep C μ (x a) (ρ a)) (l : List Operand) :
  ∀ (i : Nat) a v, (l.map x)[i]? = some a → (l.map ρ)[i]? = some v → Rep C μ a v := by
 intro i a v h1 h2
 obtain ⟨o, ho, rfl⟩ := qB h1
 obtain ⟨o', ho', rfl⟩ := qB h2
 rw [ho] at ho'; cases ho'
 exact hx _
theorem qqz {α : Type} {a : Array α} {x : α} (h : a.toList = [x]) : a = #[x] := by rw [← Array.toArray_toList (xs := a), h]
theorem qqy {α : Type} {a : Array α} {x y : α} (h : a.toList = [x, y]) : a = #[x, y] := by rw [← Array.toArray_toList (xs := a), h]
theorem map1 {α β : Type} {a : Array α} {x : α} (f : α → β) (h : a.toList = [x]) : a.map f = #[f x] := by rw [qqz h]; simp
theorem map2 {α β : Type} {a : Array α} {x y : α} (f : α → β) (h : a.toList = [x, y]) : a.map f = #[f x, f y] := by rw [qqy h]; simp
theorem qli [Lent] {cfg : Cfg} (hc : CfgTy cfg) (h : Wld C μ H w) {nid : Option Nat} {c : Call} {ty : TypeId} {x : Operand → AV} {ρ : Operand → Value} (hx : ∀ a, Rep C μ (x a) (ρ a)) {r : AV}
  (he : evOp cfg nid (.call c) ty x H = some (r, H')) : qci cfg.P (do let d ← resolve ρ c ty; invoke d.target d.args) C μ H w r H' := by
 obtain ⟨callee, args, argTypes⟩ := c
 simp only [evOp] at he
 have go : ∀ b, callee = .builtin b → ∀ s : Sem Value, (∀ consts vs, vs = args.map ρ → builtin b argTypes ty consts vs = (do pure (.value (← s)))) → Runs cfg.P s C μ H w r H' →
   qci cfg.P (do let d ← resolve ρ ⟨callee, args, argTypes⟩ ty; invoke d.target d.args) C μ H w r H' := by
  intro b hb s hs hr
  subst hb
  have := hr.v
  obtain ⟨n, w', C', μ', h1, h2⟩ := this
  refine ⟨n, w', C', μ', ?_, h2⟩
  simp only [resolve, Sem.run_bind, Sem.run_pure, Result.andThen_ok, invoke]
  rw [hs _ _ rfl]
  exact h1
 split at he
 ·rename_i a t ha ht
  refine go _ rfl (Builtin.len_ argTypes ty (args.map ρ)) (fun consts vs hv => by subst hv; rfl) (Runs.opt h he fun r hr => ?_)
  rw [map1 _ ha, qqz ht]
  exact qrg hc h hr (hx a)
 ·rename_i s a t xt ha ht
  refine go _ rfl (Builtin.append_ argTypes ty (args.map ρ)) (fun consts vs hv => by subst hv; rfl) ?_
  rw [map2 _ ha, qqy ht]
  exact qlk hc h he (hx s) (hx a)
 ·rename_i d s t xt ha ht
  refine go _ rfl (Builtin.copy_ argTypes ty (args.map ρ)) (fun consts vs hv => by subst hv; rfl) ?_
  rw [map2 _ ha, qqy ht]
  exact qoY hc h he (hx d) (hx s)
 ·rename_i a t ha ht
  obtain ⟨H1, h1, h2⟩ := qyO.1 he
  cases h2
  refine go _ rfl (Builtin.clear_ argTypes ty (args.map ρ)) (fun consts vs hv => by subst hv; rfl) ?_
  rw [map1 _ ha, qqz ht]
  exact qnk hc h h1 (hx a)
 ·rename_i a b ha
  refine go _ rfl (Builtin.min_ argTypes ty (args.map ρ)) (fun consts vs hv => by subst hv; rfl) (Runs.opt h he fun r hr => ?_)
  have := qjn (P := cfg.P) (w := w) (f := Builtin.min2) (fun k k' a b => by simp [Builtin.min2]) hr (hx a) (hx b)
  rw [map2 _ ha]
  exact this
 ·rename_i a b ha
  refine go _ rfl (Builtin.max_ argTypes ty (args.map ρ)) (fun consts vs hv => by subst hv; rfl) (Runs.opt h he fun r hr => ?_)
  have := qjn (P := cfg.P) (w := w) (f := Builtin.max2) (fun k k' a b => by simp [Builtin.max2]) hr (hx a) (hx b)
  rw [map2 _ ha]
  exact this
 ·cases he
theorem qi8 [Lent] {cfg : Cfg} (hc : CfgTy cfg) (h : Wld C μ H w) {nid : Option Nat} {o : Oper} {x : Operand → AV} {ρ : Operand → Value} (hx : ∀ a, Rep C μ (x a) (ρ a)) {r : AV} (he : evOp cfg nid o.op o.type x H = some (r, H')) :
  qci cfg.P (execOp ρ o) C μ H w r H' := by
 obtain ⟨dst, op, ty, pos, after, guard⟩ := o
 simp only at he
 cases op with
 | move a => simp only [evOp] at he; cases he; exact .pure' h (hx a)
 | assign a => simp only [evOp] at he; cases he; exact .pure' h (hx a)
 | pick c a b =>
  simp only [evOp] at he
  split at he
  case h_2 => cases he
  rename_i t ht
  have hcv := hx c
  rw [ht] at hcv
  generalize hv : ρ c = vc at hcv
  cases hcv
  cases t
  ·cases he
   refine ⟨.value (ρ b), w, C, μ, ?_, .inl ⟨_, rfl, hx b⟩, h, Ext.refl (qyN _)⟩
   simp only [execOp, hv]; simp [asBool]
  ·cases he
   refine ⟨.value (ρ a), w, C, μ, ?_, .inl ⟨_, rfl, hx a⟩, h, Ext.refl (qyN _)⟩
   simp only [execOp, hv]; simp [asBool]
 | alloc t => exact (qoV hc h he).v
 | box t a => exact (qsw h (hx a) he).v
 | build t parts =>
  obtain ⟨rfl, v, h1, h2⟩ := qoT (w := w) hc hx he
  exact (Runs.pure' h ⟨v, h1, h2⟩).v
 | buildSlice t len parts => exact (qhk hc h hx he).v
 | load t a =>
  simp only [evOp] at he
  split at he
  case h_2 => cases he
  rename_i ti hti
  refine (Runs.opt h he fun r hr => ?_).v
  obtain ⟨ad, u, h1, h2, h3⟩ := qiF h (hc.ty _ _ hti) (hx a) hr
  exact ⟨u, by rw [h1]; exact h2, h3⟩
 | store t a v =>
  simp only [evOp] at he
  split at he
  case h_2 => cases he
  rename_i n hn
  obtain ⟨H1, h1, h2⟩ := qyO.1 he
  cases h2
  obtain ⟨ti, hti, rfl⟩ := hc.sz hn
  obtain ⟨ad, w', e1, e2, e3, e4⟩ := qnC h hti (hx a) (hx v) h1
  refine ⟨.skip, w', C, μ, ?_, .inr ⟨rfl, rfl⟩, e3, e4 _ (qyN _)⟩
  have : (Instr.storeAt t (ρ a) (ρ v)).run cfg.P w = .ok () w' := by rw [e1]; exact e2
  simp [execOp, this]
 | nilCheck a =>
  simp only [evOp] at he
  have ha := hx a
  split at he
  ·rename_i id r off hxa; cases he
   rw [hxa] at ha
   generalize hv : ρ a = va at ha
   cases ha with | ptr _ _ _ m hm =>
    rw [show execOp ρ ⟨dst, .nilCheck a, ty, pos, after, guard⟩ = pure (.value (ρ a)) by simp only [execOp, hv], hv]
    exact .pure' h (.ptr _ _ _ m hm)
  ·rename_i cs off hxa; cases he
   rw [hxa] at ha
   generalize hv : ρ a = va at ha
   cases ha with | cptr _ _ b o vals h1 h2 =>
    rw [show execOp ρ ⟨dst, .nilCheck a, ty, pos, after, guard⟩ = pure (.value (ρ a)) by simp only [execOp, hv], hv]
    exact .pure' h (.cptr _ _ b o vals h1 h2)
  ·rename_i f p q hxa; cases he
   rw [hxa] at ha
   generalize hv : ρ a = va at ha
   cases ha with | fn _ _ _ vf vc h1 h2 h3 h4 =>
    rw [show execOp ρ ⟨dst, .nilCheck a, ty, pos, after, guard⟩ = pure (.value (ρ a)) by simp only [execOp, hv], hv]
    exact .pure' h (.fn _ _ _ vf vc h1 h2 h3 h4)
  ·rename_i id hxa; cases he
   rw [hxa] at ha
   generalize hv : ρ a = va at ha
   cases ha with | mp _ m hm =>
    rw [show execOp ρ ⟨dst, .nilCheck a, ty, pos, after, guard⟩ = pure (.value (ρ a)) by simp only [execOp, hv], hv]
    exact .pure' h (.mp _ m hm)
  ·rename_i id hxa; cases he
   rw [hxa] at ha
   generalize hv : ρ a = va at ha
   cases ha with | yld _ m hm =>
    rw [show execOp ρ ⟨dst, .nilCheck a, ty, pos, after, guard⟩ = pure (.value (ρ a)) by simp only [execOp, hv], hv]
    exact .pure' h (.yld _ m hm)
  ·cases he
 | binOp op t a b yt =>
  simp only [evOp] at he
  exact (Runs.opt h he fun r hr => qrh hc hr (hx a) (hx b) a b).v
 | unOp op t a =>
  simp only [evOp] at he
  exact (Runs.opt h he fun r hr => qsz hr (hx a)).v
 | convert s d a => exact (qj6 hc h he (hx a)).v
 | makeFunc f first caps =>
  simp only [evOp] at he
  cases he
  refine (Runs.pure' h ⟨.func f (first.map ρ) (caps.map ρ), by simp [Instr.makeFunc], ?_⟩).v
  have := Rep.fn (C := C) (μ := μ) f (first.toList.map x) (caps.toList.map x) (first.toList.map ρ) (caps.toList.map ρ) (by simp) (by simp) (qhd hx _) (qhd hx _)
  have ea : ∀ a : Array Operand, (a.toList.map ρ).toArray = a.map ρ := fun a => by rw [← Array.toList_map, Array.toArray_toList]
  rw [ea, ea] at this
  exact this
 | makeSlice t l c => exact (qoW hc h he (hx l) (hx c)).v
 | slice t a lo hi mx =>
  simp only [evOp] at he
  exact (Runs.opt h he fun r hr => qnh hc h hx lo hi mx hr (hx a)).v
 | fieldAddr t a f =>
  simp only [evOp] at he
  exact (Runs.opt h he fun r hr => qhp hc hr (hx a)).v
 | field t a f =>
  simp only [evOp] at he
  exact (Runs.opt h he fun r hr => qnj hc hr (hx a)).v
 | indexAddr t a i =>
  simp only [evOp] at he
  exact (Runs.opt h he fun r hr => qho hc h hr (hx a) (hx i)).v
 | index t a i =>
  simp only [evOp] at he
  exact (Runs.opt h he fun r hr => qni hc hr (hx a) (hx i)).v
 | extract t i =>
  simp only [evOp] at he
  split at he
  case h_2 => cases he
  rename_i vs hxt
  have ha := hx t
  rw [hxt] at ha
  generalize hv : ρ t = va at ha
  refine (Runs.opt h he fun r hr => ?_).v
  cases ha with
  | tup _ us hl hr' =>
   have hlt : i < us.length := by rw [← hl]; exact (qyL.1 hr).1
   exact ⟨us[i], by simp [Instr.extract, hv, hlt], hr' i r _ hr (qyI hlt)⟩
 | call c => exact qli hc h hx he
 | makeMap t rv => exact (qk3 (ty := ty) hc h hx he).v
 | lookup t a k ok =>
  simp only [evOp] at he
  exact (Runs.opt h he fun r hr => qlj hc h hr (hx a) (hx k)).v
 | mapUpdate t m k v =>
  simp only [evOp] at he
  obtain ⟨H1, h1, h2⟩ := qyO.1 he
  cases h2
  obtain ⟨w', e2, e3, e4⟩ := qd6 hc h h1 (hx m) (hx k) (hx v)
  exact ⟨.skip, w', C, μ, by simp [execOp, e2], .inr ⟨rfl, rfl⟩, e3, e4 _ (qyN _)⟩
 | insert t m k v =>
  simp only [evOp] at he
  obtain ⟨H1, h1, h2⟩ := qyO.1 he
  cases h2
  obtain ⟨w', e2, e3, e4⟩ := qd6 hc h h1 (hx m) (hx k) (hx v)
  exact ⟨.skip, w', C, μ, by simp [execOp, e2], .inr ⟨rfl, rfl⟩, e3, e4 _ (qyN _)⟩
 | _ => simp only [evOp] at he; cases he
variable {C C' C1 C2 : qu} {μ μ' μ1 : MMap} {H H' H1 : AH} {w w' w1 : World} {P : Program}
theorem qmU [Lent] (h : Wld C μ H w) (id : Nat) : ∃ C', (∀ b o v, C b o = some v → C' b o = some v) ∧ Wld C' μ (vL H id) w ∧ (∀ k, k ≤ H.length → Ext k C μ H w C' μ (vL H id) w) := by
 unfold vL
 split
 ·rename_i sz rs hid; exact h.freeze hid
 ·exact ⟨C, fun _ _ _ h => h, h, fun k hk => Ext.refl hk⟩
theorem qi2 (H : AH) (id : Nat) : (vL H id).length = H.length := by
 unfold vL; split <;> simp
theorem qaE (ids : List Nat) : ∀ H : AH, (q6 ids H).length = H.length := by
 induction ids with
 | nil => intro H; rfl
 | cons i l ih => intro H; show (q6 l (vL H i)).length = _; rw [ih, qi2]
theorem xz [Lent] : ∀ (ids : List Nat) {C : qu} {H : AH}, Wld C μ H w → ∃ C', (∀ b o v, C b o = some v → C' b o = some v) ∧ Wld C' μ (q6 ids H) w ∧ (∀ k, k ≤ H.length → Ext k C μ H w C' μ (q6 ids H) w)
 | [], C, H, h => ⟨C, fun _ _ _ h => h, h, fun k hk => Ext.refl hk⟩
 | i :: l, C, H, h => by
  obtain ⟨C1, a1, a2, a3⟩ := qmU h i
  obtain ⟨C2, b1, b2, b3⟩ := xz l a2
  exact ⟨C2, fun b o v hh => b1 b o v (a1 b o v hh), b2, fun k hk => (a3 k hk).trans (b3 k (by rw [qi2]; exact hk)) (qyN _)⟩
theorem qoH {b : ABlk} {l : AH} {i : Nat} (h : i ≠ 0) : ∃ l', vL (b :: l) i = b :: l' := by
 unfold vL
 split
 ·cases i with
  | zero => exact absurd rfl h
  | succ i => exact ⟨_, rfl⟩
 ·exact ⟨l, rfl⟩
theorem qbO {b : ABlk} : ∀ (ids : List Nat) {l : AH}, qao ids = true → ∃ l', q6 ids (b :: l) = b :: l'
 | [], l, _ => ⟨l, rfl⟩
 | i :: ids, l, h => by
  rw [qao, qyK] at h
  have hi : i ≠ 0 := by
   intro e; subst e; simp at h
  obtain ⟨l1, h1⟩ := qoH (b := b) (l := l) hi
  have : q6 (i :: ids) (b :: l) = q6 ids (vL (b :: l) i) := rfl
  rw [this, h1]
  exact qbO ids h.2
theorem qoK {id i sz : Nat} {d : Bool} {rs : List (List AV)} (h : H[id]? = some (.froz d sz rs)) : (vL H i)[id]? = some (.froz d sz rs) := by
 unfold vL
 split
 ·rename_i s r hi
  rw [qyX]
  split
  ·rename_i e; subst e; rw [h] at hi; cases hi
  ·exact h
 ·exact h
theorem qe9 {id sz : Nat} {d : Bool} {rs : List (List AV)} : ∀ (ids : List Nat) {H : AH}, H[id]? = some (.froz d sz rs) → (q6 ids H)[id]? = some (.froz d sz rs)
 | [], _, h => h
 | _ :: l, _, h => qe9 l (qoK h)
theorem qoJ {id i : Nat} : q7 (vL H i) id = q7 H id := by
 unfold vL
 split
 ·rename_i s r hi
  unfold q7
  rw [qyX]
  by_cases e : i = id
  ·subst e
   have := (qyL.1 hi).1
   rw [if_pos rfl, if_pos this, hi]
  ·rw [if_neg e]
 ·rfl
theorem qoL {id i : Nat} : xl (vL H i) id = xl H id := by
 unfold vL
 split
 ·rename_i s r hi
  unfold xl
  rw [qyX]
  by_cases e : i = id
  ·subst e
   have := (qyL.1 hi).1
   rw [if_pos rfl, if_pos this, hi]
  ·rw [if_neg e]
 ·rfl
theorem qoI {id sz : Nat} {rs : List (List AV)} (h : q7 H id = some (sz, rs)) : (vL H id)[id]? = some (.froz (xl H id) sz rs) := by
 unfold q7 at h
 unfold vL xl
 split at h
 ·rename_i s r hi
  cases h
  have := (qyL.1 hi).1
  simp only [hi]
  rw [qyX, if_pos rfl, if_pos this]
 ·rename_i s r hi
  cases h
  simp only [hi]
 ·cases h
theorem qcy {id sz : Nat} {rs : List (List AV)} : ∀ {ids : List Nat} {H : AH}, q7 H id = some (sz, rs) → id ∈ ids → (q6 ids H)[id]? = some (.froz (xl H id) sz rs)
 | [], _, _, hi => by cases hi
 | i :: l, H, h, hi => by
  by_cases e : id = i
  ·subst e; exact qe9 l (qoI h)
  ·show (q6 l (vL H i))[id]? = _
   rw [← qoL (i := i)]
   exact qcy (by rw [qoJ]; exact h) ((qzm.1 hi).resolve_left e)
theorem qru [Lent] {m : MI} {sz off len cap : Nat} {rs : List (List AV)} {a : Addr} (hf : qjo C μ m sz rs) (hle : off + len ≤ rs.length) (hl : len ≤ cap) (ha : cap ≠ 0 → a = ⟨m.block, m.base + off * m.sz, none⟩ ∧ (off + cap) * m.sz ≤ m.size) (hfr : qL 0 ((rs.drop off).take len) = true) :
  Rep C μ (.sl ((rs.drop off).take len)) (.slice (some a) len cap) := by
 obtain ⟨hsz, _, hrows⟩ := hf
 have hlen : ((rs.drop off).take len).length = len := by simp; omega
 have get : ∀ (i : Nat) row, ((rs.drop off).take len)[i]? = some row → i < len ∧ rs[off + i]? = some row := fun i row h => vW h
 have addr : ∀ (i : Nat) row, ((rs.drop off).take len)[i]? = some row → a = ⟨m.block, m.base + off * m.sz, none⟩ := fun i row h => (ha (by have := (get i row h).1; omega)).1
 have cell : ∀ (i j : Nat) row x, ((rs.drop off).take len)[i]? = some row → row[j]? = some x → x.isCell = true ∧ ∃ v, C a.block (a.off + i * sz + j) = some v ∧ Rep C μ x v := by
  intro i j row x hi hj
  obtain ⟨_, hr⟩ := get i row hi
  obtain ⟨e1, v, e2, e3⟩ := (hrows _ row hr).2 j x hj
  refine ⟨e1, v, ?_, e3⟩
  rw [addr i row hi]
  rw [← e2]
  simp only
  congr 1
  rw [hsz, Nat.add_mul]; omega
 have := Rep.sl (C := C) (μ := μ) ((rs.drop off).take len) a cap sz (fun i j => (C a.block (a.off + i * sz + j)).getD undef)
  (fun hne => by
   cases hx : (rs.drop off).take len with
   | nil => exact absurd hx hne
   | cons r l => rw [addr 0 r (by rw [hx]; rfl)])
  (fun i row hi => (hrows _ row (get i row hi).2).1)
  (fun i j row x hi hj => by obtain ⟨_, v, e2, _⟩ := cell i j row x hi hj; rw [e2]; rfl)
  (fun i j row x hi hj => by obtain ⟨_, v, e2, e3⟩ := cell i j row x hi hj; rw [e2]; exact e3)
  (fun i j row x hi hj => (cell i j row x hi hj).1)
  (by rw [hlen]; exact hl) hfr
 rw [hlen] at this
 exact this
def xV [Lent] (C : qu) (μ : MMap) (H : AH) (ids : List Nat) : Prop := ∀ id sz rs, id ∈ ids → q7 H id = some (sz, rs) → (∀ m, μ id = some m → qjo C μ m sz rs) ∧ (xl H id = true → qL 0 rs = true)
theorem xV.of [Lent] {ids : List Nat} (h : Wld C μ (q6 ids H) w) : xV C μ H ids := fun id sz rs hi hb => by
 exact ⟨(h.froz id _ sz rs (qcy hb hi)).2, h.free.get (qcy hb hi)⟩
theorem Rep.frz1 [Lent] {ids : List Nat} {a : AV} {v : Value} (hf : xV C μ H ids) (h : Rep C μ a v) : Rep C μ (a.frz1 ids H) v := by
 cases a with
 | ms id off len =>
  simp only [AV.frz1]
  split
  ·rename_i sz rs hb
   split
   ·rename_i hc
    rw [qyK, qyK, qy9, vt, Bool.or_eq_true] at hc
    obtain ⟨hfr, hfr2⟩ := hf id sz rs hc.1.1 hb
    cases h with
    | msN _ _ => simpa using Rep.slNil
    | ms _ _ _ cap ad m' hm' hl ha =>
     exact qru (hfr m' hm') hc.1.2 hl ha (hc.2.elim (fun hd => yy (zd (hfr2 hd))) (fun h => h))
   ·exact h
  ·exact h
 | _ => exact h
theorem Rep.frzA [Lent] {ids : List Nat} {a : AV} {v : Value} (hf : xV C μ H ids) (h : Rep C μ a v) : Rep C μ (a.frz ids H) v := by
 cases a with
 | agg cs =>
  cases h with
  | agg _ vs hl hr =>
   exact .agg _ vs (by simpa using hl) (fun i a v h1 h2 => by
    obtain ⟨b, hb, rfl⟩ := qB h1
    exact (hr i b v hb h2).frz1 hf)
 | tup cs =>
  cases h with
  | tup _ vs hl hr =>
   exact .tup _ vs (by simpa using hl) (fun i a v h1 h2 => by
    obtain ⟨b, hb, rfl⟩ := qB h1
    exact (hr i b v hb h2).frz1 hf)
 | _ => exact Rep.frz1 hf h
theorem Rep0.rep [Lent] {D : qu} {a : AV} {v : Value} (hD : ∀ b o v, D b o = some v → C b o = some v) (h : Rep0 D a v) : Rep C μ a v := by
 induction h with
 | int k n => exact .int k n
 | bool b => exact .bool b
 | str s => exact .str s
 | nilS => exact .nilS
 | slNil => exact .slNil
 | em a cap => exact .em a cap
 | sl rows a cap sz vals hs hsz hc _ hcell hcap hfree ih => exact .sl rows a cap sz vals hs hsz (fun i j row x h1 h2 => hD _ _ _ (hc i j row x h1 h2)) ih hcell hcap hfree
def RegC (C : qu) (μ : MMap) (H : AH) : Prop := ∀ (id : Nat) m, H[id]? = some .reg → μ id = some m → ∀ b o v, m.D b o = some v → C b o = some v
open Classical in
noncomputable def ye (C : qu) (μ : MMap) (H : AH) (w : World) : qu := fun b o =>
 match C b o with
 | some v => some v
 | none => if ∃ (id : Nat) (m : MI), H[id]? = some .reg ∧ μ id = some m ∧ m.D b o ≠ none then w.cell? ⟨b, o, none⟩ else none
theorem qhR {b o : Nat} {v : Value} (h : C b o = some v) : ye C μ H w b o = some v := by unfold ye; rw [h]
theorem qlD (hc : ∀ b o v, C b o = some v → w.cell? ⟨b, o, none⟩ = some v) {b o : Nat} {v : Value} (h : ye C μ H w b o = some v) : w.cell? ⟨b, o, none⟩ = some v := by
 unfold ye at h
 split at h
 ·rename_i u hu
  cases h
  exact hc _ _ _ hu
 ·split at h
  ·exact h
  ·cases h
theorem qnx [Lent] (h : Wld C μ H w) (hc : ∀ b o v, C1 b o = some v → w.cell? ⟨b, o, none⟩ = some v) : RegC (ye C1 μ H w) μ H := by
 intro id m hi hm b o v hd
 have hreg := (h.liveM hi rfl hm).2.2
 have hcell := (hreg b o v hd).1
 unfold ye
 split
 ·rename_i u hu
  rw [hc _ _ _ hu] at hcell; exact hcell
 ·rw [if_pos ⟨id, m, hi, hm, by rw [hd]; simp⟩]
  exact hcell
theorem qnw [Lent] (h : Wld C μ H w) (hc : ∀ b o v, C1 b o = some v → w.frozen? ⟨b, o, none⟩ = false) {b o : Nat} {v : Value} (hh : ye C1 μ H w b o = some v) : w.frozen? ⟨b, o, none⟩ = false := by
 unfold ye at hh
 split at hh
 ·rename_i u hu
  exact hc _ _ _ hu
 ·split at hh
  ·rename_i hex
   obtain ⟨id, m, hi, hm, hd⟩ := hex
   cases hd' : m.D b o with
   | none => exact absurd hd' hd
   | some u => exact ((h.liveM hi rfl hm).2.2 b o u hd').2
  ·cases hh
theorem xV.mono [Lent] {ids : List Nat} (hC : ∀ b o v, C b o = some v → C' b o = some v) (h : xV C μ H ids) : xV C' μ H ids := fun id sz rs hi hb => by
 obtain ⟨h1, h2⟩ := h id sz rs hi hb
 refine ⟨fun m hm => ?_, h2⟩
 obtain ⟨a1, a2, a3⟩ := h1 m hm
 exact ⟨a1, a2, a3.mono hC (fun _ _ h => h) (fun i j row x hi hj => by
  obtain ⟨_, v, hv, _⟩ := (a3 i row hi).2 j x hj
  exact (hC _ _ _ hv).trans hv.symm)⟩
theorem Rep.snap1 [Lent] {ids : List Nat} (hrg : RegC C μ H) (hid : ∀ id, id < H.length → id ∈ ids) {a : AV} {v : Value} (hf : xV C μ H ids) (h : Rep C μ a v) : Rep C μ (a.snap1 H) v := by
 have hlt : ∀ id sz rs, q7 H id = some (sz, rs) → id ∈ ids := by
  intro id sz rs hb
  refine hid id ?_
  unfold q7 at hb
  cases hh : H[id]? with
  | none => rw [hh] at hb; cases hb
  | some b => exact (qyL.1 hh).1
 cases a with
 | ms id off len =>
  simp only [AV.snap1]
  exact Rep.frz1 (ids := [id]) (fun id' sz rs hi hb => hf id' sz rs (hlt _ _ _ hb) hb) h
 | ptr id r off =>
  simp only [AV.snap1]
  split
  ·rename_i sz rs hb
   split
   ·rename_i row hrow
    cases h with
    | ptr _ _ _ m hm =>
     obtain ⟨hsz, _, hrows⟩ := (hf id sz rs (hlt _ _ _ hb) hb).1 m hm
     have cell : ∀ (j : Nat) x, row[j]? = some x → ∃ v, C m.block (m.base + r * m.sz + j) = some v ∧ Rep C μ x v := by
      intro j x hj
      obtain ⟨_, v, e2, e3⟩ := (hrows r row hrow).2 j x hj
      refine ⟨v, ?_, e3⟩
      rw [← e2, hsz]
      simp only
      congr 1; omega
     have cell : ∀ (j : Nat) x, (qjd row)[j]? = some x → ∃ v, C m.block (m.base + r * m.sz + j) = some v ∧ Rep C μ x v := by
      intro j x hj
      unfold qjd at hj
      split at hj
      ·exact cell j x hj
      ·obtain ⟨y, hy, rfl⟩ := qB hj
       obtain ⟨v, e2, e3⟩ := cell j y hy
       refine ⟨v, e2, ?_⟩
       unfold AV.data1
       split
       ·exact e3
       ·exact .junk v
     exact .cptr (qjd row) off m.block (m.base + r * m.sz) (fun j => (C m.block (m.base + r * m.sz + j)).getD undef)
      (fun j x hj => by obtain ⟨v, e2, _⟩ := cell j x hj; rw [e2]; rfl) (fun j x hj => by obtain ⟨v, e2, e3⟩ := cell j x hj; rw [e2]; exact e3)
   ·exact h
  ·exact h
 | rsl id rows =>
  simp only [AV.snap1]
  split
  ·rename_i hi
   cases h with
   | rsl _ _ _ D hD h0 =>
    by_cases hne : rows = []
    ·subst hne; exact h0.ofEmp
    ·obtain ⟨m, hm, rfl⟩ := hD hne
     exact h0.rep (hrg id m hi hm)
  ·exact h
 | _ => exact h
theorem Rep.snapA [Lent] {ids : List Nat} (hrg : RegC C μ H) (hid : ∀ id, id < H.length → id ∈ ids) {a : AV} {v : Value} (hf : xV C μ H ids) (h : Rep C μ a v) : Rep C μ (a.snap H) v := by
 cases a with
 | agg cs =>
  cases h with
  | agg _ vs hl hr =>
   exact .agg _ vs (by simpa using hl) (fun i a v h1 h2 => by
    obtain ⟨b, hb, rfl⟩ := qB h1
    exact (hr i b v hb h2).snap1 hrg hid hf)
 | fn f p q =>
  cases h with
  | fn _ _ _ vf vc hl1 hl2 h1 h2 =>
   exact .fn f _ _ vf vc (by simpa using hl1) (by simpa using hl2) (fun i a v e1 e2 => by
    obtain ⟨b, hb, rfl⟩ := qB e1
    exact (h1 i b v hb e2).snap1 hrg hid hf) (fun i a v e1 e2 => by
    obtain ⟨b, hb, rfl⟩ := qB e1
    exact (h2 i b v hb e2).snap1 hrg hid hf)
 | _ => exact Rep.snap1 hrg hid hf h
theorem Rep.fgA [Lent] {a : AV} {v : Value} (h : Rep C μ a v) : Rep C μ a.fg v := by
 cases a with
 | agg cs => cases h with | agg _ vs hl hr => exact .agg _ vs (by simpa using hl) (fun i a v h1 h2 => by obtain ⟨b, hb, rfl⟩ := qB h1; exact (hr i b v hb h2).fg1)
 | tup cs => cases h with | tup _ vs hl hr => exact .tup _ vs (by simpa using hl) (fun i a v h1 h2 => by obtain ⟨b, hb, rfl⟩ := qB h1; exact (hr i b v hb h2).fg1)
 | _ => exact h.fg1
theorem qF.fg [Lent] {args : List AV} {vs : Array Value} (h : qF C μ args vs) : qF C μ (args.map AV.fg) vs := ⟨by simpa using h.1, fun i a v h1 h2 => by
 obtain ⟨b, hb, rfl⟩ := qB h1
 exact (h.2 i b v hb h2).fgA⟩
theorem Rep.scalar1 [Lent] {a : AV} {v : Value} (hs : a.scalar1 = true) (h : Rep C μ a v) : Rep C' μ' a v := by
 cases h with
 | int k n => exact .int k n
 | bool b => exact .bool b
 | str s => exact .str s
 | nilS => exact .nilS
 | nilP => exact .nilP
 | _ => simp [AV.scalar1] at hs
theorem qgA {l : List AV} (h : qfG l = true) {i : Nat} {a : AV} (ha : l[i]? = some a) : a.scalar1 = true := by
 induction l generalizing i with
 | nil => simp at ha
 | cons b l ih =>
  rw [qfG, qyK] at h
  cases i with
  | zero => simp at ha; subst ha; exact h.1
  | succ i => exact ih h.2 (by simpa using ha)
theorem Rep.scalarA [Lent] {a : AV} {v : Value} (hs : a.scalar = true) (h : Rep C μ a v) : Rep C' μ' a v := by
 cases a with
 | agg cs =>
  cases h with | agg _ vs hl hr => exact .agg cs vs hl (fun i a v h1 h2 => (hr i a v h1 h2).scalar1 (qgA (by simpa [AV.scalar] using hs) h1))
 | tup cs =>
  cases h with | tup _ vs hl hr => exact .tup cs vs hl (fun i a v h1 h2 => (hr i a v h1 h2).scalar1 (qgA (by simpa [AV.scalar] using hs) h1))
 | _ => exact Rep.scalar1 (by simpa [AV.scalar] using hs) h
theorem vS {b : Nat} : ¬ Live [] μ b := by
 rintro ⟨id, blk, m, h, _⟩
 simp at h
theorem Wld.nil [Lent] (h : Wld C μ H w) : Wld C (fun _ => none) [] w where
 cl := h.cl
 dom := fun id m hm => by cases hm
 res := fun id hi => rfl
 live := fun id blk h1 => by simp at h1
 froz := fun id d sz rs h1 => by simp at h1
 inj := fun i i' b b' m m' h1 => by simp at h1
 free := y9.nil
 lnt := h.lnt
theorem Wld.back [Lent] (h : Wld C μ H w) (hx : Ext 0 C (fun _ => none) [] w C1 μ1 H1 w1) (h1 : Wld C1 μ1 H1 w1) : Wld C1 μ H w1 ∧ ∀ k, k ≤ H.length → Ext k C μ H w C1 μ H w1 := by
 have hfr : ∀ b, b < w.heap.size → w1.heap[b]? = w.heap[b]? ∧ C1 b = C b := fun b hb => ⟨(hx.fr b hb vS).1, (hx.fr b hb vS).2.2⟩
 refine ⟨⟨h1.cl, h.dom, h.res, fun id blk e1 e2 => ?_, fun id d sz rs e1 => ?_, h.inj, h.free, h1.lnt⟩, fun k hk => ⟨hx.os, hx.tape, hx.output, hx.size, hx.cl, fun _ _ _ h => h, fun b hb hnl => ⟨(hfr b hb).1, hnl, (hfr b hb).2⟩, hk⟩⟩
 ·refine ⟨(h.live id blk e1 e2).1, fun m h3 => ?_⟩
  obtain ⟨h4, h6⟩ := (h.live id blk e1 e2).2 m h3
  exact ⟨fun b hb => ⟨Nat.lt_of_lt_of_le (h4 b hb).1 hx.size, fun o => by rw [(hfr _ (h4 b hb).1).2]; exact (h4 b hb).2.1 o, (h4 b hb).2.2⟩, h6.mono hx.cl (fun _ _ h => h) (fun b hb => (hfr _ (h4 b hb).1).1)⟩
 ·refine ⟨(h.froz id d sz rs e1).1, fun m e2 => ?_⟩
  obtain ⟨e3, e4, e5⟩ := (h.froz id d sz rs e1).2 m e2
  refine ⟨e3, e4, e5.mono hx.cl (fun _ _ h => h) (fun i j row x hi hj => ?_)⟩
  obtain ⟨_, v, hv, _⟩ := (e5 i row hi).2 j x hj
  exact (hx.cl _ _ _ hv).trans hv.symm
def vD (P : Program) (s : Sem Next) (w : World) (R : Value → World → Prop) : Prop :=
 match s.run P w with
 | .ok (.value v) w' => R v w'
 | .ok .skip w' => R undef w'
 | .ok (.enter f args) w' => CallsIn Fence.wide 0 P f args w' fun e w'' => ∃ v, e = .returned v ∧ R v w''
 | .ok (.round l f t al bd) w' => RoundIn Fence.wide 0 P l f t al bd w' fun e w'' => ∃ v, e = .returned v ∧ R v w''
 | _ => False
theorem vD.mono {s : Sem Next} {R R' : Value → World → Prop} (h : vD P s w R) (hr : ∀ v w', R v w' → R' v w') : vD P s w R' := by
 unfold vD at *
 generalize s.run P w = x at *
 cases x with
 | ok n w' =>
  cases n <;> simp only at h ⊢ <;> first | exact hr _ _ h | exact h.elim | skip
  ·exact h.mono fun e w'' ⟨v, h1, h2⟩ => ⟨v, h1, hr _ _ h2⟩
  ·exact h.mono fun e w'' ⟨v, h1, h2⟩ => ⟨v, h1, hr _ _ h2⟩
 | halt _ _ => exact h
def quT (μ : MMap) (t : Tgt) (vs : Array Value) (s : Sem Next) : Prop :=
 match t with
 | .f f => s = callFunc f vs
 | .y id => ∃ m, μ id = some m ∧ s = Instr.yield m.block vs
def xn [Lent] (C : qu) (μ : MMap) (H : AH) (w : World) (r : AV) (H' : AH) (v : Value) (w' : World) : Prop := ∃ C' μ', Rep C' μ' r v ∧ Wld C' μ' H' w' ∧ Ext H.length C μ H w C' μ' H' w'
def qaY [Lent] (cfg : Cfg) (cf : Orac) : Prop := ∀ t args H r H', cf t args H = some (r, H') → ∀ C μ w vs s, qF C μ args vs → Wld C μ H w → quT μ t vs s → vD cfg.P s w (xn C μ H w r H')
theorem qF.free [Lent] {al : List AV} {vs : Array Value} (μ' : MMap) (h : qF C μ al vs) (hr : qz 0 al = true) : qF C μ' al vs := ⟨h.1, fun i a v h1 h2 => (h.2 i a v h1 h2).free μ' (xe hr h1)⟩
theorem Wld.one [Lent] (h : Wld C μ H w) {d0 : Bool} {id sz : Nat} {rs : List (List AV)} (hfree : qL 0 rs = true) (hi : H[id]? = some (.rows d0 sz rs)) : Wld C (fun k => if k = 0 then μ id else none) [.rows true sz rs] w := by
 have only : ∀ (k : Nat) b, ([.rows true sz rs] : AH)[k]? = some b → k = 0 ∧ b = .rows true sz rs := fun k b hk => by
  cases k with
  | zero => simp at hk; exact ⟨rfl, hk.symm⟩
  | succ k => simp at hk
 refine ⟨h.cl, fun k m hk => ?_, fun k hk => ?_, fun k b hk hb => ?_, fun k d sz rs hk => ?_, fun i i' b b' m m' e1 e2 _ _ _ _ _ _ _ => ?_, fun k b hk => ?_, h.lnt⟩
 ·split at hk
  ·rename_i e; subst e; simp
  ·cases hk
 ·have := (only k _ hk).2; cases this
 ·obtain ⟨rfl, rfl⟩ := only k b hk
  simp only [if_true]
  refine ⟨fun hn => ?_, fun m hm => ?_⟩
  ·have := (h.live id _ hi rfl).1 hn
   cases rs <;> first | rfl | cases this
  ·obtain ⟨-, -, h4, h5, h6, h7⟩ := h.liveM hi rfl hm
   exact ⟨h.liveH hi rfl hm, h4, h5, h6.free _ hfree, h7⟩
 ·have := (only k _ hk).2; cases this
 ·rw [(only i b e1).1, (only i' b' e2).1]
 ·obtain ⟨rfl, rfl⟩ := only k b hk
  exact fun _ => hfree
theorem Wld.putBack [Lent] (h : Wld C μ H w) {d0 : Bool} {id sz : Nat} {rs rs' : List (List AV)} {l : AH} (hi : H[id]? = some (.rows d0 sz rs)) {C2 : qu} {μ2 : MMap} {w1 : World}
  (h2 : Wld C2 μ2 (.rows true sz rs' :: l) w1) (hx : Ext 1 C (fun k => if k = 0 then μ id else none) [.rows true sz rs] w C2 μ2 (.rows true sz rs' :: l) w1) :
  Wld C2 (fun i => if i = id then μ2 0 else μ i) (H.set id (.rows true sz rs')) w1 ∧ Ext H.length C μ H w C2 (fun i => if i = id then μ2 0 else μ i) (H.set id (.rows true sz rs')) w1 := by
 have h20 : (ABlk.rows true sz rs' :: l)[0]? = some (.rows true sz rs') := rfl
 have hfree : qL 0 rs' = true := h2.free.get (id := 0) h20 rfl
 have hmu : ∀ i m, μ i = some m → (if i = id then μ2 0 else μ i) = some m := by
  intro i m hm
  by_cases e : i = id
  ·subst e; rw [if_pos rfl]; exact hx.mu 0 m (by omega) (by simpa using hm)
  ·rw [if_neg e]; exact hm
 have nl : ∀ b, (∀ m, μ id = some m → ¬ m.has b) → ¬ Live [.rows true sz rs] (fun k => if k = 0 then μ id else none) b := by
  rintro b hb ⟨i, bi, mi, e1, _, e3, e4⟩
  simp only at e3
  split at e3
  ·exact hb _ e3 e4
  ·cases e3
 have hlen : id < H.length := (qyL.1 hi).1
 have aux : ∀ (j : Nat) bj, (H.set id (.rows true sz rs'))[j]? = some bj → (j = id ∧ bj = .rows true sz rs') ∨ (j ≠ id ∧ H[j]? = some bj) := by
  intro j bj hj
  rw [qyX] at hj
  split at hj
  ·rename_i e; subst e
   try rw [if_pos hlen] at hj
   cases hj; exact .inl ⟨rfl, rfl⟩
  ·rename_i e; exact .inr ⟨fun e' => e e'.symm, hj⟩
 have apart : ∀ (j : Nat) bj mj, j ≠ id → H[j]? = some bj → bj.live = true → μ j = some mj → ∀ x, mj.has x → x < w.heap.size ∧ ¬ Live [.rows true sz rs] (fun k => if k = 0 then μ id else none) x := by
  intro j bj mj hne e hb f1 x hxj
  exact ⟨(h.liveH e hb f1 x hxj).1, nl _ fun m hm he => hne (h.inj j id bj _ mj m e hi hb rfl f1 hm x hxj he)⟩
 refine ⟨⟨h2.cl, fun j mj hj => ?_, fun j hj => ?_, fun j b hj hb => ?_, fun j d sz rs hj => ?_, fun i i' b b' m1 m2 e1 e2 e3 e4 e5 e6 x e7 e8 => ?_, ?_, h2.lnt⟩,
  ⟨hx.os, hx.tape, hx.output, hx.size, hx.cl, fun i m _ hm => hmu i m hm, fun b hb hnl => ?_, by simp⟩⟩
 ·simp only [List.length_set]
  by_cases e : j = id
  ·subst e; exact hlen
  ·rw [if_neg e] at hj; exact h.dom j mj hj
 ·rcases aux j _ hj with ⟨_, e⟩ | ⟨hne, e⟩
  ·cases e
  ·simp only [if_neg hne]; exact h.res j e
 ·rcases aux j b hj with ⟨rfl, rfl⟩ | ⟨hne, e⟩
  ·simp only [if_true]
   refine ⟨(h2.live 0 _ h20 rfl).1, fun m hm => ?_⟩
   obtain ⟨-, -, g4, g5, g6, g7⟩ := h2.liveM h20 rfl hm
   exact ⟨h2.liveH h20 rfl hm, g4, g5, g6.free _ hfree, g7⟩
  ·simp only [if_neg hne]
   refine ⟨(h.live j b e hb).1, fun mj f1 => ?_⟩
   obtain ⟨f2, f4⟩ := (h.live j b e hb).2 mj f1
   have q := fun x (hxj : mj.has x) => hx.fr x (f2 x hxj).1 (apart j b mj hne e hb f1 x hxj).2
   exact ⟨fun x hxj => ⟨Nat.lt_of_lt_of_le (f2 x hxj).1 hx.size, fun o => by rw [(q x hxj).2.2]; exact (f2 x hxj).2.1 o, (f2 x hxj).2.2⟩, f4.mono hx.cl hmu (fun x hxj => (q x hxj).1)⟩
 ·rcases aux j _ hj with ⟨_, e⟩ | ⟨hne, e⟩
  ·cases e
  ·simp only [if_neg hne]
   refine ⟨(h.froz j d sz rs e).1, fun mj f1 => ?_⟩
   obtain ⟨f2, f3, f4⟩ := (h.froz j d sz rs e).2 mj f1
   exact ⟨f2, f3, f4.mono hx.cl hmu (fun i j row x hi' hj' => by
    obtain ⟨_, v, hv, _⟩ := (f4 i row hi').2 j x hj'
    exact (hx.cl _ _ _ hv).trans hv.symm)⟩
 ·have cross : ∀ (j : Nat) bj mj m0, j ≠ id → H[j]? = some bj → bj.live = true → μ j = some mj → μ2 0 = some m0 → ∀ x, m0.has x → ¬ mj.has x := by
   intro j bj mj m0 hne e hb f1 hm0 x hx0 hxj
   obtain ⟨f2, f3⟩ := apart j bj mj hne e hb f1 x hxj
   exact (hx.fr x f2 f3).2.1 ⟨0, _, m0, h20, rfl, hm0, hx0⟩
  rcases aux i b e1 with ⟨rfl, rfl⟩ | ⟨hne, e⟩ <;> rcases aux i' b' e2 with ⟨rfl, rfl⟩ | ⟨hne', e'⟩
  ·rfl
  ·rw [if_pos rfl] at e5; rw [if_neg hne'] at e6
   exact (cross i' b' m2 m1 hne' e' e4 e6 e5 x e7 e8).elim
  ·rw [if_neg hne] at e5; rw [if_pos rfl] at e6
   exact (cross i b m1 m2 hne e e3 e5 e6 x e8 e7).elim
  ·rw [if_neg hne] at e5; rw [if_neg hne'] at e6
   exact h.inj i i' b b' m1 m2 e e' e3 e4 e5 e6 x e7 e8
 ·exact h.free.set (b := .rows true sz rs') (fun _ => hfree)
 ·obtain ⟨q1, q2, q3⟩ := hx.fr b hb (nl b fun m hm e => hnl ⟨id, _, m, hi, rfl, hm, e⟩)
  refine ⟨q1, fun hl => ?_, q3⟩
  obtain ⟨j, bj, mj, e1, e2, e3, e5⟩ := hl
  simp only at e3
  rcases aux j bj e1 with ⟨rfl, rfl⟩ | ⟨hne, e⟩
  ·rw [if_pos rfl] at e3
   exact q2 ⟨0, _, mj, h20, rfl, e3, e5⟩
  ·rw [if_neg hne] at e3
   exact hnl ⟨j, bj, mj, e, e2, e3, e5⟩
theorem Wld.oneS [Lent] (h : Wld C μ H w) {d0 : Bool} {id sz : Nat} {rs : List (List AV)} (hin : ∀ x ∈ ya 0 rs, x ∈ [id]) (hi : H[id]? = some (.rows d0 sz rs)) :
    Wld C (fun k => if k = 0 then μ id else none) [.rows false sz (renR (fun _ => 0) rs)] w := by
  have only : ∀ (k : Nat) b, ([.rows false sz (renR (fun _ => 0) rs)] : AH)[k]? = some b → k = 0 ∧ b = .rows false sz (renR (fun _ => 0) rs) := fun k b hk => by
    cases k with
    | zero => simp at hk; exact ⟨rfl, hk.symm⟩
    | succ k => simp at hk
  refine ⟨h.cl, fun k m hk => ?_, fun k hk => ?_, fun k b hk hb => ?_, fun k d sz rs hk => ?_, fun i i' b b' m m' e1 e2 _ _ _ _ _ _ _ => ?_, fun k b hk => ?_, h.lnt⟩
  · split at hk
    · rename_i e; subst e; simp
    · cases hk
  · have := (only k _ hk).2; cases this
  · obtain ⟨rfl, rfl⟩ := only k b hk
    simp only [if_true]
    refine ⟨fun hn => ?_, fun m hm => ?_⟩
    · have := (h.live id _ hi rfl).1 hn
      cases rs <;> first | rfl | cases this
    · obtain ⟨-, -, h4, h5, h6, h7⟩ := h.liveM hi rfl hm
      refine ⟨h.liveH hi rfl hm, h4, by rw [qbF, qzd]; exact h5, ?_, h7⟩
      refine h6.renm (k := 0) (L := [id]) (fun x mx hx hmx => ?_) hin
      have : x = id := by rcases hx with hx | hx; · omega
                          · simpa using hx
      subst this
      simpa using hmx
  · have := (only k _ hk).2; cases this
  · rw [(only i b e1).1, (only i' b' e2).1]
  · obtain ⟨rfl, rfl⟩ := only k b hk
    exact fun hd => by cases hd
theorem Wld.putBackS [Lent] (h : Wld C μ H w) {d0 : Bool} {id sz : Nat} {rs rs0 rs' : List (List AV)} {l : AH} (hi : H[id]? = some (.rows d0 sz rs)) {C2 : qu} {μ2 : MMap} {w1 : World} (hin : ∀ x ∈ ya 0 rs', x ∈ [0])
    (h2 : Wld C2 μ2 (.rows false sz rs' :: l) w1) (hx : Ext 1 C (fun k => if k = 0 then μ id else none) [.rows false sz rs0] w C2 μ2 (.rows false sz rs' :: l) w1) :
    Wld C2 (fun i => if i = id then μ2 0 else μ i) (H.set id (.rows false sz (renR (fun _ => id) rs'))) w1 ∧ Ext H.length C μ H w C2 (fun i => if i = id then μ2 0 else μ i) (H.set id (.rows false sz (renR (fun _ => id) rs'))) w1 := by
  have h20 : (ABlk.rows false sz rs' :: l)[0]? = some (.rows false sz rs') := rfl
  have hmu : ∀ i m, μ i = some m → (if i = id then μ2 0 else μ i) = some m := by
    intro i m hm
    by_cases e : i = id
    · subst e; rw [if_pos rfl]; exact hx.mu 0 m (by omega) (by simpa using hm)
    · rw [if_neg e]; exact hm
  have nl : ∀ b, (∀ m, μ id = some m → ¬ m.has b) → ¬ Live [.rows false sz rs0] (fun k => if k = 0 then μ id else none) b := by
    rintro b hb ⟨i, bi, mi, e1, _, e3, e4⟩
    simp only at e3
    split at e3
    · exact hb _ e3 e4
    · cases e3
  have hlen : id < H.length := (qyL.1 hi).1
  have aux : ∀ (j : Nat) bj, (H.set id (.rows false sz (renR (fun _ => id) rs')))[j]? = some bj → (j = id ∧ bj = .rows false sz (renR (fun _ => id) rs')) ∨ (j ≠ id ∧ H[j]? = some bj) := by
    intro j bj hj
    rw [qyX] at hj
    split at hj
    · rename_i e; subst e
      try rw [if_pos hlen] at hj
      cases hj; exact .inl ⟨rfl, rfl⟩
    · rename_i e; exact .inr ⟨fun e' => e e'.symm, hj⟩
  have apart : ∀ (j : Nat) bj mj, j ≠ id → H[j]? = some bj → bj.live = true → μ j = some mj → ∀ x, mj.has x → x < w.heap.size ∧ ¬ Live [.rows false sz rs0] (fun k => if k = 0 then μ id else none) x := by
    intro j bj mj hne e hb f1 x hxj
    exact ⟨(h.liveH e hb f1 x hxj).1, nl _ fun m hm he => hne (h.inj j id bj _ mj m e hi hb rfl f1 hm x hxj he)⟩
  refine ⟨⟨h2.cl, fun j mj hj => ?_, fun j hj => ?_, fun j b hj hb => ?_, fun j d sz rs hj => ?_, fun i i' b b' m1 m2 e1 e2 e3 e4 e5 e6 x e7 e8 => ?_, ?_, h2.lnt⟩,
    ⟨hx.os, hx.tape, hx.output, hx.size, hx.cl, fun i m _ hm => hmu i m hm, fun b hb hnl => ?_, by simp⟩⟩
  · simp only [List.length_set]
    by_cases e : j = id
    · subst e; exact hlen
    · rw [if_neg e] at hj; exact h.dom j mj hj
  · rcases aux j _ hj with ⟨_, e⟩ | ⟨hne, e⟩
    · cases e
    · simp only [if_neg hne]; exact h.res j e
  · rcases aux j b hj with ⟨rfl, rfl⟩ | ⟨hne, e⟩
    · simp only [if_true]
      refine ⟨fun hn => ?_, fun m hm => ?_⟩
      · have := (h2.live 0 _ h20 rfl).1 hn
        cases rs' <;> first | rfl | cases this
      · obtain ⟨-, -, g4, g5, g6, g7⟩ := h2.liveM h20 rfl hm
        refine ⟨h2.liveH h20 rfl hm, g4, by rw [qbF, qzd]; exact g5, ?_, g7⟩
        refine g6.renm (k := 0) (L := [0]) (fun x mx hx hmx => ?_) hin
        have : x = 0 := by rcases hx with hx | hx; · omega
                           · simpa using hx
        subst this
        simpa using hmx
    · simp only [if_neg hne]
      refine ⟨(h.live j b e hb).1, fun mj f1 => ?_⟩
      obtain ⟨f2, f4⟩ := (h.live j b e hb).2 mj f1
      have q := fun x (hxj : mj.has x) => hx.fr x (f2 x hxj).1 (apart j b mj hne e hb f1 x hxj).2
      exact ⟨fun x hxj => ⟨Nat.lt_of_lt_of_le (f2 x hxj).1 hx.size, fun o => by rw [(q x hxj).2.2]; exact (f2 x hxj).2.1 o, (f2 x hxj).2.2⟩, f4.mono hx.cl hmu (fun x hxj => (q x hxj).1)⟩
  · rcases aux j _ hj with ⟨_, e⟩ | ⟨hne, e⟩
    · cases e
    · simp only [if_neg hne]
      refine ⟨(h.froz j d sz rs e).1, fun mj f1 => ?_⟩
      obtain ⟨f2, f3, f4⟩ := (h.froz j d sz rs e).2 mj f1
      exact ⟨f2, f3, f4.mono hx.cl hmu (fun i j row x hi' hj' => by
        obtain ⟨_, v, hv, _⟩ := (f4 i row hi').2 j x hj'
        exact (hx.cl _ _ _ hv).trans hv.symm)⟩
  · have cross : ∀ (j : Nat) bj mj m0, j ≠ id → H[j]? = some bj → bj.live = true → μ j = some mj → μ2 0 = some m0 → ∀ x, m0.has x → ¬ mj.has x := by
      intro j bj mj m0 hne e hb f1 hm0 x hx0 hxj
      obtain ⟨f2, f3⟩ := apart j bj mj hne e hb f1 x hxj
      exact (hx.fr x f2 f3).2.1 ⟨0, _, m0, h20, rfl, hm0, hx0⟩
    rcases aux i b e1 with ⟨rfl, rfl⟩ | ⟨hne, e⟩ <;> rcases aux i' b' e2 with ⟨rfl, rfl⟩ | ⟨hne', e'⟩
    · rfl
    · rw [if_pos rfl] at e5; rw [if_neg hne'] at e6
      exact (cross i' b' m2 m1 hne' e' e4 e6 e5 x e7 e8).elim
    · rw [if_neg hne] at e5; rw [if_pos rfl] at e6
      exact (cross i b m1 m2 hne e e3 e5 e6 x e8 e7).elim
    · rw [if_neg hne] at e5; rw [if_neg hne'] at e6
      exact h.inj i i' b b' m1 m2 e e' e3 e4 e5 e6 x e7 e8
  · exact h.free.set (b := .rows false sz (renR (fun _ => id) rs')) (fun hd => by cases hd)
  · obtain ⟨q1, q2, q3⟩ := hx.fr b hb (nl b fun m hm e => hnl ⟨id, _, m, hi, rfl, hm, e⟩)
    refine ⟨q1, fun hl => ?_, q3⟩
    obtain ⟨j, bj, mj, e1, e2, e3, e5⟩ := hl
    simp only at e3
    rcases aux j bj e1 with ⟨rfl, rfl⟩ | ⟨hne, e⟩
    · rw [if_pos rfl] at e3
      exact q2 ⟨0, _, mj, h20, rfl, e3, e5⟩
    · rw [if_neg hne] at e3
      exact hnl ⟨j, bj, mj, e, e2, e3, e5⟩
theorem qip [Lent] (h : Wld C μ H w) {C2 : qu} {μ2 : MMap} {w1 : World} {G : AH} (e2 : Wld C2 μ2 G w1) (e3 : Ext 0 C (fun _ => none) [] w C2 μ2 G w1) {nid : Option Nat} {a r : AV} {H' : AH} {v : Value} (e1 : Rep C2 μ2 a v)
  (hi : yz nid G a H = some (r, H')) : xn C μ H w r H' v w1 := by
 obtain ⟨b1, b2⟩ := h.back e3 e2
 unfold yz at hi
 split at hi
 ·rename_i id off len
  split at hi
  case h_2 => cases hi
  rename_i d sz rs hid
  split at hi
  case isFalse => cases hi
  rename_i hrr
  have hrr : qL 0 rs = true := by
   rw [Bool.or_eq_true] at hrr
   exact hrr.elim (fun hd => e2.free.get hid hd) (fun h => h)
  split at hi
  case h_2 => cases hi
  rename_i k H2 hnew
  cases hi
  have b3 := b2 _ (qyN _)
  cases hm : μ2 id with
  | none =>
   have hv := (e2.live id _ hid rfl).1 hm
   obtain ⟨n1, n2⟩ := b1.newV hnew rfl (by cases rs <;> first | rfl | cases hv) (fun _ => hrr)
   cases e1 with
   | msN _ _ => exact ⟨C2, μ, .msN _ _, n1, b3.trans (n2 _ (qyN _)) (qyN _)⟩
   | ms _ _ _ cap ad m' hm' hl had => rw [hm] at hm'; cases hm'
  | some m =>
  obtain ⟨hlt, hc, hblk⟩ := e2.liveM hid rfl hm
  have hge : ∀ x, m.has x → ¬ x < w.heap.size := fun x hx hb => (e3.fr _ hb vS).2.1 ⟨id, _, m, hid, rfl, hm, hx⟩
  have hnl : ∀ x, m.has x → ¬ Live H μ x := fun x hx hl => hge x hx (h.live_lt hl)
  have hlv := e2.liveH hid rfl hm
  obtain ⟨n1, n2, n3, n4, n5⟩ := b1.new hnew hnl (fun x hx => (hlv x hx).1) (fun x hx => (hlv x hx).2.1) (fun x hx => (hlv x hx).2.2) rfl (by
   obtain ⟨c1, c2, c3, c4⟩ := hblk
   exact ⟨c1, c2, fun i row hi => ⟨(c3 i row hi).1, fun j x hj => by
    obtain ⟨d1, u, d2, d3⟩ := (c3 i row hi).2 j x hj
    exact ⟨d1, u, d2, d3.free _ (xe (y6 hrr hi) hj)⟩⟩, c4⟩) (fun _ => hrr)
  have fin : ∀ {v : Value}, Rep C2 (upd μ k m) (.ms k off len) v → xn C μ H w (.ms k off len) H' v w1 := fun {v} hrv => by
   refine ⟨C2, upd μ k m, hrv, n1, ⟨b3.os, b3.tape, b3.output, b3.size, b3.cl, fun id m' _ hm' => n2 id m' hm', fun b hb hnl' => ?_, n3⟩⟩
   obtain ⟨f1, f2, f3⟩ := b3.fr b hb hnl'
   refine ⟨f1, fun hl => ?_, f3⟩
   rcases n4 b hl with hl | hl
   ·exact hnl' hl
   ·exact hge _ hl hb
  cases e1 with
  | msN _ _ => exact fin (.msN _ _)
  | ms _ _ _ cap ad m' hm' hl had =>
   rw [hm] at hm'; cases hm'
   exact fin (.ms k off len cap ad m (by unfold upd; rw [if_pos rfl]) hl had)
 ·split at hi
  ·rename_i hrf
   cases hi
   exact ⟨C2, μ, e1.free μ hrf, b1, b2 _ (qyN _)⟩
  ·cases hi
theorem qlW [Lent] (h : Wld C μ H w) {C2 : qu} {μ2 : MMap} {w1 : World} {G : AH} (e2 : Wld C2 μ2 G w1) (e3 : Ext 0 C (fun _ => none) [] w C2 μ2 G w1) {nid : Option Nat} {c : AV} {rows : List (List AV)} {H' : AH} {v : Value} {i : Nat} (e1 : Rep C2 μ2 c v)
  (hc : qeD G c = some rows) (hn : aNew nid H .reg = some (i, H')) : ∃ μ', Wld C2 μ' H' w1 ∧ Rep C2 μ' (.rsl i rows) v ∧ Ext H.length C μ H w C2 μ' H' w1 := by
 obtain ⟨b1, b2⟩ := h.back e3 e2
 have b3 := b2 _ (qyN _)
 have empty : ∀ {D : qu}, Rep0 D (.sl []) v → ∃ μ', Wld C2 μ' H' w1 ∧ Rep C2 μ' (.rsl i []) v ∧ Ext H.length C μ H w C2 μ' H' w1 := fun {D} h0 => by
  obtain ⟨n1, n2⟩ := b1.newV hn rfl rfl trivial
  exact ⟨μ, n1, .rsl i [] v D (fun hne => absurd rfl hne) h0, b3.trans (n2 _ (qyN _)) (qyN _)⟩
 unfold qeD at hc
 split at hc
 ·rename_i id rows'
  split at hc
  ·rename_i hid
   cases hc
   cases e1 with
   | rsl _ _ _ D hD h0 =>
    by_cases hne : rows = []
    ·subst hne; exact empty h0
    ·obtain ⟨m, hm, rfl⟩ := hD hne
     have hlv := e2.liveH hid rfl hm
     have hge : ∀ x, m.has x → ¬ x < w.heap.size := fun x hx hb => (e3.fr _ hb vS).2.1 ⟨id, _, m, hid, rfl, hm, hx⟩
     have hnl : ∀ x, m.has x → ¬ Live H μ x := fun x hx hl => hge x hx (h.live_lt hl)
     obtain ⟨n1, n2, n3, n4, n5⟩ := b1.new hn hnl (fun x hx => (hlv x hx).1) (fun x hx => (hlv x hx).2.1) (fun x hx => (hlv x hx).2.2) rfl (e2.liveM hid rfl hm).2.2
     refine ⟨upd μ i m, n1, .rsl i rows v m.D (fun _ => ⟨m, by unfold upd; rw [if_pos rfl], rfl⟩) h0, ⟨b3.os, b3.tape, b3.output, b3.size, b3.cl, fun id m' _ hm' => n2 id m' hm', fun b hb hnl' => ?_, n3⟩⟩
     obtain ⟨f1, f2, f3⟩ := b3.fr b hb hnl'
     refine ⟨f1, fun hl => ?_, f3⟩
     rcases n4 b hl with hl | hl
     ·exact hnl' hl
     ·exact hge _ hl hb
  ·cases hc
 ·cases hc; exact empty e1.toEmp
 ·cases hc
  cases e1 with
  | nilS => exact empty (D := fun _ _ => none) .slNil
 ·cases hc
  cases e1 with
  | em a cap => exact empty (D := fun _ _ => none) (.sl [] a cap 0 (fun _ _ => undef) (fun h => absurd rfl h) (fun i row h => by simp at h) (fun i j row x h => by simp at h) (fun i j row x h => by simp at h) (fun i j row x h => by simp at h) (Nat.zero_le _) rfl)
 ·cases hc
theorem Rep.plain [Lent] {a : AV} {v : Value} (hp : a.plain = true) (h : Rep C μ a v) : Rep C' μ' a v := by
 cases a <;> simp [AV.plain] at hp
 ·cases h; exact .int _ _
 ·cases h; exact .bool _
theorem qkp {a : AV} (i : Nat) (hp : a.plain = true) : a.rgA i = a := by cases a <;> simp [AV.plain] at hp <;> rfl
theorem qqf {l : List AV} (h : qeI l = true) {i : Nat} {a : AV} (ha : l[i]? = some a) : a.plain = true := by
 induction l generalizing i with
 | nil => simp at ha
 | cons b l ih =>
  rw [qeI, qyK] at h
  cases i with
  | zero => simp at ha; subst ha; exact h.1
  | succ i => exact ih h.2 (by simpa using ha)
theorem qid [Lent] (h : Wld C μ H w) {C2 : qu} {μ2 : MMap} {w1 : World} {G : AH} (e2 : Wld C2 μ2 G w1) (e3 : Ext 0 C (fun _ => none) [] w C2 μ2 G w1) {nid : Option Nat} {a X : AV} {H' : AH} {v : Value} {i : Nat} (e1 : Rep C2 μ2 a v)
  (hc : rgTm G a = some X) (hn : aNew nid H .reg = some (i, H')) : ∃ μ', Wld C2 μ' H' w1 ∧ Rep C2 μ' (X.rgA i) v ∧ Ext H.length C μ H w C2 μ' H' w1 := by
 unfold rgTm at hc
 split at hc
 case h_2 => cases hc
 rename_i k n s c
 obtain ⟨rows, hr, rfl⟩ := qyO.1 hc
 cases e1 with
 | agg _ us hl hh =>
  match us, hl, hh with
  | [u0, u1, u2, u3], _, hh =>
   obtain ⟨μ', f1, f2, f3⟩ := qlW h e2 e3 (hh 3 _ _ rfl rfl) hr hn
   have q0 := hh 0 _ _ rfl rfl
   have q1 := hh 1 _ _ rfl rfl
   have q2 := hh 2 _ _ rfl rfl
   refine ⟨μ', f1, ?_, f3⟩
   refine Rep.agg _ [u0, u1, u2, u3] rfl (fun j a v h1 h2 => ?_)
   match j, h1, h2 with
   | 0, h1, h2 => cases h1; cases h2; exact q0.plain rfl
   | 1, h1, h2 => cases h1; cases h2; exact q1.plain rfl
   | 2, h1, h2 => cases h1; cases h2; cases q2; exact .str _
   | 3, h1, h2 => cases h1; cases h2; exact f2
   | j + 4, h1, h2 => simp at h1
theorem qkl [Lent] (h : Wld C μ H w) {C2 : qu} {μ2 : MMap} {w1 : World} {G : AH} (e2 : Wld C2 μ2 G w1) (e3 : Ext 0 C (fun _ => none) [] w C2 μ2 G w1) {nid : Option Nat} {H' : AH} {i : Nat} (hn : aNew nid H .reg = some (i, H')) :
  ∀ (l : List AV) {q : List AV} {us : List Value}, rgL G l = some q → l.length = us.length → (∀ (j : Nat) a v, l[j]? = some a → us[j]? = some v → Rep C2 μ2 a v) →
  ∃ μ', Wld C2 μ' H' w1 ∧ q.length = us.length ∧ (∀ (j : Nat) a v, (q.map (AV.rgA i))[j]? = some a → us[j]? = some v → Rep C2 μ' a v) ∧ Ext H.length C μ H w C2 μ' H' w1
 | [], q, us, hc, _, _ => by cases hc
 | a :: l, q, [], hc, hl, _ => by simp at hl
 | a :: l, q, u :: us, hc, hl, hh => by
  rw [rgL] at hc
  have h0 := hh 0 a u rfl rfl
  have ht : ∀ (j : Nat) a v, l[j]? = some a → us[j]? = some v → Rep C2 μ2 a v := fun j a v h1 h2 => hh (j + 1) a v (by simpa using h1) (by simpa using h2)
  split at hc
  ·rename_i hp
   obtain ⟨q', hq, rfl⟩ := qyO.1 hc
   obtain ⟨μ', f1, f2, f3, f4⟩ := qkl h e2 e3 hn l hq (by simpa using hl) ht
   refine ⟨μ', f1, by simpa using f2, fun j x v h1 h2 => ?_, f4⟩
   cases j with
   | zero => simp at h1 h2; subst h1 h2; rw [qkp i hp]; exact h0.plain hp
   | succ j => exact f3 j x v (by simpa using h1) (by simpa using h2)
  ·split at hc
   case isFalse => cases hc
   rename_i hp
   obtain ⟨X, hX, rfl⟩ := qyO.1 hc
   obtain ⟨μ', f1, f2, f3⟩ := qid h e2 e3 h0 hX hn
   refine ⟨μ', f1, by simpa using hl, fun j x v h1 h2 => ?_, f3⟩
   cases j with
   | zero => simp at h1 h2; subst h1 h2; exact f2
   | succ j =>
    simp only [List.map_cons, List.getElem?_cons_succ] at h1 h2
    obtain ⟨y, hy, rfl⟩ := qB h1
    have := qqf hp hy
    rw [qkp i this]
    exact (ht j y v hy h2).plain this
theorem qlV [Lent] (h : Wld C μ H w) {C2 : qu} {μ2 : MMap} {w1 : World} {G : AH} (e2 : Wld C2 μ2 G w1) (e3 : Ext 0 C (fun _ => none) [] w C2 μ2 G w1) {nid : Option Nat} {a V : AV} {H' : AH} {v : Value} {i : Nat} (e1 : Rep C2 μ2 a v)
  (hc : qcP G a = some V) (hn : aNew nid H .reg = some (i, H')) : xn C μ H w (rgIn i V) H' v w1 := by
 unfold qcP at hc
 split at hc
 ·obtain ⟨q, hq, rfl⟩ := qyO.1 hc
  cases e1 with
  | tup _ us hl hh =>
   obtain ⟨μ', f1, f2, f3, f4⟩ := qkl h e2 e3 hn _ hq hl hh
   refine ⟨C2, μ', ?_, f1, f4⟩
   exact Rep.tup _ us (by simpa using f2) f3
 ·obtain ⟨μ', f1, f2, f3⟩ := qid h e2 e3 e1 hc hn
  have : rgIn i V = V.rgA i := by
   unfold rgTm at hc
   split at hc
   ·obtain ⟨rows, _, rfl⟩ := qyO.1 hc; rfl
   ·cases hc
  rw [this]
  exact ⟨C2, μ', f2, f1, f3⟩
theorem qu8 [Lent] {m : MI} {w : World} (h : xm C μ w m .reg) : qfm m.D w := by
 intro b o ⟨⟨k, h0⟩, ⟨n, h1⟩, ⟨s, h2⟩, x, l, c, h3⟩
 have e0 := h _ _ _ h0
 have e1 := h _ _ _ h1
 have e2 := h _ _ _ h2
 have e3 := h _ _ _ h3
 refine ⟨fun j hj => ?_, .inl fun j hj => ?_⟩
 ·match j, hj with
  | 0, _ => exact e0.2
  | 1, _ => exact e1.2
  | 2, _ => exact e2.2
  | 3, _ => exact e3.2
  | j + 4, hj => omega
 ·match j, hj with
  | 0, _ => exact e0.1.trans h0.symm
  | 1, _ => exact e1.1.trans h1.symm
  | 2, _ => exact e2.1.trans h2.symm
  | 3, _ => exact e3.1.trans h3.symm
  | j + 4, hj => omega
theorem Wld.oneR [Lent] (h : Wld C μ H w) {b0 : ABlk} {id : Nat} (hb0 : b0 = .reg ∨ b0 = .spl) (hi : H[id]? = some b0) : Wld C (fun k => if k = 0 then μ id else none) [.spl] w := by
 have hl0 : b0.live = true := by rcases hb0 with rfl | rfl <;> rfl
 have only : ∀ (k : Nat) b, ([.spl] : AH)[k]? = some b → k = 0 ∧ b = .spl := fun k b hk => by
  cases k with
  | zero => simp at hk; exact ⟨rfl, hk.symm⟩
  | succ k => simp at hk
 refine ⟨h.cl, fun k m hk => ?_, fun k hk => ?_, fun k b hk hb => ?_, fun k d sz rs hk => ?_, fun i i' b b' m m' e1 e2 _ _ _ _ _ _ _ => ?_, fun k b hk => ?_, h.lnt⟩
 ·split at hk
  ·rename_i e; subst e; simp
  ·cases hk
 ·have := (only k _ hk).2; cases this
 ·obtain ⟨rfl, rfl⟩ := only k b hk
  simp only [if_true]
  refine ⟨fun hn => rfl, fun m hm => ?_⟩
  have h4 := (h.liveM hi hl0 hm).2.2
  refine ⟨h.liveH hi hl0 hm, ?_⟩
  rcases hb0 with rfl | rfl
  ·exact qu8 h4
  ·exact h4
 ·have := (only k _ hk).2; cases this
 ·rw [(only i b e1).1, (only i' b' e2).1]
 ·obtain ⟨rfl, rfl⟩ := only k b hk
  trivial
theorem Wld.putBackR [Lent] (h : Wld C μ H w) {b0 : ABlk} {id : Nat} (hb0 : b0 = .reg ∨ b0 = .spl) (hi : H[id]? = some b0) {l : AH} {C2 : qu} {μ2 : MMap} {w1 : World}
  (h2 : Wld C2 μ2 (.spl :: l) w1) (hx : Ext 1 C (fun k => if k = 0 then μ id else none) [.spl] w C2 μ2 (.spl :: l) w1) :
  Wld C2 (fun i => if i = id then μ2 0 else μ i) (H.set id .spl) w1 ∧ Ext H.length C μ H w C2 (fun i => if i = id then μ2 0 else μ i) (H.set id .spl) w1 := by
 have hl0 : b0.live = true := by rcases hb0 with rfl | rfl <;> rfl
 have h20 : (ABlk.spl :: l)[0]? = some .spl := rfl
 have hmu : ∀ i m, μ i = some m → (if i = id then μ2 0 else μ i) = some m := by
  intro i m hm
  by_cases e : i = id
  ·subst e; rw [if_pos rfl]; exact hx.mu 0 m (by omega) (by simpa using hm)
  ·rw [if_neg e]; exact hm
 have nl : ∀ b, (∀ m, μ id = some m → ¬ m.has b) → ¬ Live [.spl] (fun k => if k = 0 then μ id else none) b := by
  rintro b hb ⟨i, bi, mi, e1, _, e3, e4⟩
  simp only at e3
  split at e3
  ·exact hb _ e3 e4
  ·cases e3
 have hlen : id < H.length := (qyL.1 hi).1
 have aux : ∀ (j : Nat) bj, (H.set id .spl)[j]? = some bj → (j = id ∧ bj = .spl) ∨ (j ≠ id ∧ H[j]? = some bj) := by
  intro j bj hj
  rw [qyX] at hj
  split at hj
  ·rename_i e; subst e
   try rw [if_pos hlen] at hj
   cases hj; exact .inl ⟨rfl, rfl⟩
  ·rename_i e; exact .inr ⟨fun e' => e e'.symm, hj⟩
 have apart : ∀ (j : Nat) bj mj, j ≠ id → H[j]? = some bj → bj.live = true → μ j = some mj → ∀ x, mj.has x → x < w.heap.size ∧ ¬ Live [.spl] (fun k => if k = 0 then μ id else none) x := by
  intro j bj mj hne e hb f1 x hxj
  exact ⟨(h.liveH e hb f1 x hxj).1, nl _ fun m hm he => hne (h.inj j id bj _ mj m e hi hb hl0 f1 hm x hxj he)⟩
 refine ⟨⟨h2.cl, fun j mj hj => ?_, fun j hj => ?_, fun j b hj hb => ?_, fun j d sz rs hj => ?_, fun i i' b b' m1 m2 e1 e2 e3 e4 e5 e6 x e7 e8 => ?_, ?_, h2.lnt⟩,
  ⟨hx.os, hx.tape, hx.output, hx.size, hx.cl, fun i m _ hm => hmu i m hm, fun b hb hnl => ?_, by simp⟩⟩
 ·simp only [List.length_set]
  by_cases e : j = id
  ·subst e; exact hlen
  ·rw [if_neg e] at hj; exact h.dom j mj hj
 ·rcases aux j _ hj with ⟨_, e⟩ | ⟨hne, e⟩
  ·cases e
  ·simp only [if_neg hne]; exact h.res j e
 ·rcases aux j b hj with ⟨rfl, rfl⟩ | ⟨hne, e⟩
  ·simp only [if_true]
   refine ⟨fun _ => rfl, fun m hm => ⟨h2.liveH h20 rfl hm, (h2.liveM h20 rfl hm).2.2⟩⟩
  ·simp only [if_neg hne]
   refine ⟨(h.live j b e hb).1, fun mj f1 => ?_⟩
   obtain ⟨f2, f4⟩ := (h.live j b e hb).2 mj f1
   have q := fun x (hxj : mj.has x) => hx.fr x (f2 x hxj).1 (apart j b mj hne e hb f1 x hxj).2
   exact ⟨fun x hxj => ⟨Nat.lt_of_lt_of_le (f2 x hxj).1 hx.size, fun o => by rw [(q x hxj).2.2]; exact (f2 x hxj).2.1 o, (f2 x hxj).2.2⟩, f4.mono hx.cl hmu (fun x hxj => (q x hxj).1)⟩
 ·rcases aux j _ hj with ⟨_, e⟩ | ⟨hne, e⟩
  ·cases e
  ·simp only [if_neg hne]
   refine ⟨(h.froz j d sz rs e).1, fun mj f1 => ?_⟩
   obtain ⟨f2, f3, f4⟩ := (h.froz j d sz rs e).2 mj f1
   exact ⟨f2, f3, f4.mono hx.cl hmu (fun i j row x hi' hj' => by
    obtain ⟨_, v, hv, _⟩ := (f4 i row hi').2 j x hj'
    exact (hx.cl _ _ _ hv).trans hv.symm)⟩
 ·have cross : ∀ (j : Nat) bj mj m0, j ≠ id → H[j]? = some bj → bj.live = true → μ j = some mj → μ2 0 = some m0 → ∀ x, m0.has x → ¬ mj.has x := by
   intro j bj mj m0 hne e hb f1 hm0 x hx0 hxj
   obtain ⟨f2, f3⟩ := apart j bj mj hne e hb f1 x hxj
   exact (hx.fr x f2 f3).2.1 ⟨0, _, m0, h20, rfl, hm0, hx0⟩
  rcases aux i b e1 with ⟨rfl, rfl⟩ | ⟨hne, e⟩ <;> rcases aux i' b' e2 with ⟨rfl, rfl⟩ | ⟨hne', e'⟩
  ·rfl
  ·rw [if_pos rfl] at e5; rw [if_neg hne'] at e6
   exact (cross i' b' m2 m1 hne' e' e4 e6 e5 x e7 e8).elim
  ·rw [if_neg hne] at e5; rw [if_pos rfl] at e6
   exact (cross i b m1 m2 hne e e3 e5 e6 x e8 e7).elim
  ·rw [if_neg hne] at e5; rw [if_neg hne'] at e6
   exact h.inj i i' b b' m1 m2 e e' e3 e4 e5 e6 x e7 e8
 ·exact h.free.set (b := .spl) trivial
 ·obtain ⟨q1, q2, q3⟩ := hx.fr b hb (nl b fun m hm e => hnl ⟨id, _, m, hi, hl0, hm, e⟩)
  refine ⟨q1, fun hl => ?_, q3⟩
  obtain ⟨j, bj, mj, e1, e2, e3, e5⟩ := hl
  simp only at e3
  rcases aux j bj e1 with ⟨rfl, rfl⟩ | ⟨hne, e⟩
  ·rw [if_pos rfl] at e3
   exact q2 ⟨0, _, mj, h20, rfl, e3, e5⟩
  ·rw [if_neg hne] at e3
   exact hnl ⟨j, bj, mj, e, e2, e3, e5⟩
theorem qgJ {cf : Orac} {f : Nat} : ∀ {l : List AV}, y7 cf f l = some () → ∀ (i : Nat) a, l[i]? = some a → ∃ G, cf (.f f) [a] [.spl] = some (.tup [], .spl :: G)
 | [], _, i, a, h => by simp at h
 | b :: l, h, i, a, hi => by
  rw [y7] at h
  obtain ⟨q, h1, h⟩ := qyJ.1 h
  obtain ⟨u, h2, h⟩ := qyJ.1 h
  cases i with
  | zero =>
   simp at hi; subst hi
   obtain ⟨r, G⟩ := q
   unfold qfI at h2
   split at h2
   ·rename_i e1 e2
    simp only at e1 e2
    subst e1 e2
    exact ⟨_, h1⟩
   ·cases h2
  | succ i => exact qgJ h i a (by simpa using hi)
theorem Rep.altOf [Lent] {a : AV} {v : Value} (h : Rep C μ a v) : ∃ (i : Nat) (x : AV), a.alts[i]? = some x ∧ Rep C μ x v := by
 by_cases e : ∃ l, a = .alt l
 ·obtain ⟨l, rfl⟩ := e
  cases h with | alt _ i x _ ha h => exact ⟨i, x, ha, h⟩
 ·refine ⟨0, a, ?_, h⟩
  cases a <;> first | rfl | exact absurd ⟨_, rfl⟩ e
theorem qir [Lent] {cfg : Cfg} {cf : Orac} (hO : qaY cfg cf) {f : FuncId} {a : AV} {vs : Array Value} {s : Sem Next} (ha : qF C μ [a] vs) (h : Wld C μ H w) (hs : s = callFunc f vs) {id : Nat} {l : List Nat} (hids : q5 0 a.alts = id :: l) (hall : xJ [id] l = true)
    {b0 : ABlk} (hb0 : b0 = .reg ∨ b0 = .spl) (hi : H[id]? = some b0) (ho : y7 cf f (renL (fun _ => 0) a.alts) = some ()) : vD cfg.P s w (xn C μ H w (.tup []) (H.set id .spl)) := by
  obtain ⟨hl, hv⟩ := ha
  obtain ⟨v, rfl⟩ : ∃ v, vs = #[v] := by
    obtain ⟨l⟩ := vs
    match l, hl with
    | [x], _ => exact ⟨x, rfl⟩
  obtain ⟨i, x, hx, hr⟩ := (hv 0 a v rfl rfl).altOf
  have hin : ∀ y ∈ q5 0 a.alts, y ∈ [id] := by
    rw [hids]
    intro y hy
    rcases qzm.1 hy with rfl | hy
    · simp
    · exact (yG.1 hall) y hy
  have hx' : (renL (fun _ => 0) a.alts)[i]? = some (x.ren fun _ => 0) := by rw [yK, List.getElem?_map, hx]; rfl
  obtain ⟨G, hG⟩ := qgJ ho i _ hx'
  have ha' : qF C (fun k => if k = 0 then μ id else none) [x.ren fun _ => 0] #[v] := ⟨rfl, fun j c u h1 h2 => by
    match j, h1, h2 with
    | 0, h1, h2 =>
      simp at h1 h2
      subst h1 h2
      refine hr.renm (k := 0) (L := [id]) (fun y my hy hmy => ?_) (fun y hy => hin y (xZ hx y hy))
      have : y = id := by rcases hy with hy | hy; · omega
                          · simpa using hy
      subst this
      simpa using hmy
    | j + 1, h1, h2 => simp at h1⟩
  refine (hO _ _ _ _ _ hG C _ w #[v] s ha' (h.oneR hb0 hi) hs).mono fun v w1 ⟨C2, μ2, e1, e2, e3⟩ => ?_
  obtain ⟨b1, b2⟩ := h.putBackR hb0 hi e2 e3
  refine ⟨C2, _, ?_, b1, b2⟩
  exact e1.free _ (by simp [AV.refsLt, qz])
theorem qu4 {id : Nat} (hi : H[id]? = some .spl) : H.set id .spl = H := by
 apply List.ext_getElem?
 intro i
 rw [qyX]
 split
 ·rename_i e; subst e; rw [hi, if_pos (qyL.1 hi).1]
 ·rfl
theorem qgW [Lent] {cfg : Cfg} {cf : Orac} (hO : qaY cfg cf) {nid : Option Nat} {t : Tgt} {args : List AV} {vs : Array Value} {s : Sem Next} {r : AV} (ha : qF C μ args vs) (h : Wld C μ H w) (ht : quT μ t vs s)
    (he : vr cfg cf nid t args H = some (r, H')) : vD cfg.P s w (xn C μ H w r H') := by
  have imp : ∀ {r1 : AV} {H1 : AH} {v : Value} {w1 : World}, yn nid H.length r1 H1 = some (r, H') → xn C μ H w r1 H1 v w1 → xn C μ H w r H' v w1 := by
    intro r1 H1 v w1 hi ⟨C1, μ1, e1, e2, e3⟩
    have hf : qF C1 μ1 [r1] #[v] := ⟨rfl, fun i a u h1 h2 => by
      cases i with
      | zero => simp at h1 h2; subst h1; subst h2; exact e1
      | succ i => simp at h1⟩
    obtain ⟨μ', g1, g2, g3, g4, g5⟩ := qmT e2 hf H.length e3.len
    have fin : ∀ {r' : AV} {H2 : AH}, gc H.length [r1] H1 = ([r'], H2) → xn C μ H w r' H2 v w1 := by
      intro r' H2 hg
      rw [hg] at g1 g2 g4 g5
      refine ⟨C1, μ', g2.2 0 r' v rfl rfl, g1, ⟨e3.os, e3.tape, e3.output, e3.size, e3.cl, fun id m hid hm => g3 id m hid (e3.mu id m hid hm), fun b hb hnl => ?_, g5⟩⟩
      obtain ⟨f1, f2, f3⟩ := e3.fr b hb hnl
      exact ⟨f1, fun hl => f2 (g4 b hl), f3⟩
    unfold yn at hi
    split at hi
    · rename_i r' H2 hg
      split at hi
      · cases hi; exact fin hg
      · split at hi
        · cases hi; exact fin hg
        · cases hi
    · cases hi
  unfold vr at he
  split at he
  · rename_i id
    obtain ⟨q, hq, hi⟩ := qyJ.1 he
    exact (hO _ _ _ _ _ hq C μ w vs s ha h ht).mono fun v w1 hp => imp hi hp
  · rename_i f
    split at he
    · -- scal
      split at he
      case isFalse => cases he
      rename_i hfree
      obtain ⟨q, hq, hi⟩ := qyJ.1 he
      split at hi
      case isFalse => cases hi
      rename_i hsc
      cases hi
      obtain ⟨C1, a1, a2, a3⟩ := xz (qzn H.length) h
      have hrg := qnx (C1 := C1) h a2.cl
      have hall := (xV.of a2).mono (C' := ye C1 μ H w) (fun _ _ _ h => qhR h)
      replace a1 : ∀ b o v, C b o = some v → ye C1 μ H w b o = some v := fun b o v hh => qhR (a1 b o v hh)
      have hnil : Wld (ye C1 μ H w) (fun _ => none) [] w := { cl := fun b o v hh => qlD a2.cl hh, dom := (fun id m hm => nomatch hm), res := fun id hi => rfl, live := (fun id blk h1 => by simp at h1), froz := (fun id d sz rs h1 => by simp at h1), inj := (fun i i' b b' m m' h1 => by simp at h1), free := y9.nil, lnt := ⟨h.lnt.1, fun hu b o v hh => qnw h (a2.lnt.2 hu) hh⟩ }
      have hid : ∀ id, id < H.length → id ∈ qzn H.length := fun id h => List.mem_range.2 h
      have ha1 : qF (ye C1 μ H w) μ (args.map fun a => (a.snap H).fg) vs := ⟨by simpa using ha.1, fun i a v h1 h2 => by
        obtain ⟨b, hb, rfl⟩ := qB h1
        exact (((ha.2 i b v hb h2).mono a1 (fun _ _ h => h)).snapA hrg hid hall).fgA⟩
      refine (hO _ _ _ _ _ hq _ (fun _ => none) w vs s (ha1.free _ hfree) hnil ht).mono fun v w1 ⟨C2, μ2, e1, e2, e3⟩ => ?_
      have hfr : ∀ b, b < w.heap.size → w1.heap[b]? = w.heap[b]? := fun b hb => (e3.fr b hb vS).1
      exact ⟨C, μ, e1.scalarA hsc, h.world e3.size (fun b hb => hfr b hb), ⟨e3.os, e3.tape, e3.output, e3.size, fun _ _ _ h => h, fun _ _ _ h => h, fun b hb hnl => ⟨hfr b hb, hnl, rfl⟩, qyN _⟩⟩
    · -- pfrz
      split at he
      case isFalse => cases he
      rename_i hfree
      obtain ⟨q, hq, hi⟩ := qyJ.1 he
      split at hi
      case isFalse => cases hi
      rename_i hrf
      cases hi
      refine (hO _ _ _ _ _ hq C (fun _ => none) w vs s (ha.fg.free _ hfree) h.nil ht).mono fun v w1 ⟨C2, μ2, e1, e2, e3⟩ => ?_
      obtain ⟨C3, a1, a2, a3⟩ := xz q.1.msIds e2
      obtain ⟨b1, b2⟩ := h.back (e3.trans (a3 0 (Nat.zero_le _)) (qyN _)) a2
      exact ⟨C3, μ, ((e1.mono a1 (fun _ _ h => h)).frzA (xV.of a2)).fgA.free μ hrf, b1, b2 _ (qyN _)⟩
    · -- pown
      split at he
      case isFalse => cases he
      rename_i hfree
      obtain ⟨q, hq, hi⟩ := qyJ.1 he
      refine (hO _ _ _ _ _ hq C (fun _ => none) w vs s (ha.free _ hfree) h.nil ht).mono fun v w1 ⟨C2, μ2, e1, e2, e3⟩ => ?_
      unfold qbI at hi
      split at hi
      · rename_i a sc hqr
        split at hi
        case isFalse => cases hi
        rename_i hsc
        obtain ⟨p, hp, hpe⟩ := qyO.1 hi
        cases hpe
        rw [hqr] at e1
        cases e1 with
        | tup _ vs hl hr =>
          match vs, hl, hr with
          | [va, vb], _, hr =>
            obtain ⟨C3, μ3, f1, f2, f3⟩ := qip h e2 e3 (hr 0 a va rfl rfl) hp
            refine ⟨C3, μ3, ?_, f2, f3⟩
            have := Rep.tup (C := C3) (μ := μ3) [p.1, sc] [va, vb] rfl (fun i x u hx hu => by
              match i, hx, hu with
              | 0, hx, hu => simp at hx hu; subst hx hu; exact f1
              | 1, hx, hu => simp at hx hu; subst hx hu; exact (hr 1 _ _ rfl rfl).scalar1 hsc
              | i + 2, hx, hu => simp at hx)
            exact this
      · exact qip h e2 e3 e1 hi
    · -- mut
      split at he
      case h_2 =>
        split at he
        case isFalse => cases he
        rename_i hfree
        obtain ⟨q, hq, hi⟩ := qyJ.1 he
        split at hi
        case isFalse => cases hi
        rename_i hrf
        cases hi
        refine (hO _ _ _ _ _ hq C (fun _ => none) w vs s (ha.free _ hfree) h.nil ht).mono fun v w1 ⟨C2, μ2, e1, e2, e3⟩ => ?_
        obtain ⟨b1, b2⟩ := h.back e3 e2
        exact ⟨C2, μ, e1.free μ hrf, b1, b2 _ (qyN _)⟩
      rename_i id l hids
      split at he
      case isFalse => cases he
      rename_i hall
      split at he
      case h_2 => cases he
      rename_i d0 sz rs hid
      split at he
      case isFalse => cases he
      rename_i hd0
      have hrr : qL 0 rs = true := by
        rw [Bool.or_eq_true] at hd0
        exact hd0.elim (fun hd => h.free.get hid hd) (fun h => h)
      obtain ⟨q, hq, hi⟩ := qyJ.1 he
      obtain ⟨p, hp, hpe⟩ := qyO.1 hi
      cases hpe
      have hin : ∀ x ∈ q5 0 args, x ∈ [id] := by
        rw [hids]
        intro x hx
        rcases qzm.1 hx with rfl | hx
        · simp
        · exact (yG.1 hall) x hx
      have ha' : qF C (fun k => if k = 0 then μ id else none) (renL (fun _ => 0) args) vs := ha.renm (k := 0) (L := [id]) (fun x mx hx hmx => by
        have : x = id := by rcases hx with hx | hx; · omega
                            · simpa using hx
        subst this
        simpa using hmx) hin
      refine (hO _ _ _ _ _ hq C _ w vs s ha' (h.one hrr hid) ht).mono fun v w1 ⟨C2, μ2, e1, e2, e3⟩ => ?_
      unfold qiv at hp
      split at hp
      case h_2 => cases hp
      rename_i sz' rs' l' hq2
      split at hp
      case isFalse => cases hp
      rename_i hc
      cases hp
      rw [qyK] at hc
      have hsz := qyT hc.1
      subst hsz
      rw [hq2] at e2 e3
      obtain ⟨b1, b2⟩ := h.putBack hid e2 e3
      refine ⟨C2, _, ?_, b1, b2⟩
      refine e1.renm (k := 0) (L := [0]) (fun x mx hx hmx => ?_) (fun x hx => (yG.1 hc.2) x hx)
      have : x = 0 := by rcases hx with hx | hx; · omega
                         · simpa using hx
      subst this
      simpa using hmx
    · -- imp
      obtain ⟨q, hq, hi⟩ := qyJ.1 he
      exact (hO _ _ _ _ _ hq C μ w vs s ha h ht).mono fun v w1 hp => imp hi hp
    · -- ifrz
      obtain ⟨q, hq, hi⟩ := qyJ.1 he
      refine (hO _ _ _ _ _ hq C μ w vs s ha h ht).mono fun v w1 ⟨C2, μ2, e1, e2, e3⟩ => imp hi ?_
      obtain ⟨C3, a1, a2, a3⟩ := xz q.1.msIds e2
      exact ⟨C3, μ2, (e1.mono a1 (fun _ _ h => h)).frzA (xV.of a2), a2, e3.trans (a3 _ e3.len) (qyN _)⟩
    · -- inpf
      split at he
      case h_2 => cases he
      rename_i id l hids
      split at he
      case isFalse => cases he
      rename_i hall
      split at he
      case h_2 => cases he
      rename_i d0 sz rs hid
      split at he
      case isFalse => cases he
      rename_i hd0
      have hrr : qL 0 rs = true := by
        rw [Bool.or_eq_true] at hd0
        exact hd0.elim (fun hd => h.free.get hid hd) (fun h => h)
      obtain ⟨q, hq, hi⟩ := qyJ.1 he
      obtain ⟨p, hp, hpe⟩ := qyO.1 hi
      cases hpe
      have hin : ∀ x ∈ q5 0 args, x ∈ [id] := by
        rw [hids]
        intro x hx
        rcases qzm.1 hx with rfl | hx
        · simp
        · exact (yG.1 hall) x hx
      have ha' : qF C (fun k => if k = 0 then μ id else none) (renL (fun _ => 0) args) vs := ha.renm (k := 0) (L := [id]) (fun x mx hx hmx => by
        have : x = id := by rcases hx with hx | hx; · omega
                            · simpa using hx
        subst this
        simpa using hmx) hin
      refine (hO _ _ _ _ _ hq C _ w vs s ha' (h.one hrr hid) ht).mono fun v w1 ⟨C2, μ2, e1, e2, e3⟩ => ?_
      unfold qi1 at hp
      split at hp
      case h_2 => cases hp
      rename_i sz' rs' l' hq2
      split at hp
      case isFalse => cases hp
      rename_i hc
      cases hp
      rw [qyK, qyK] at hc
      have hsz := qyT hc.1.1
      subst hsz
      obtain ⟨C3, a1, a2, a3⟩ := xz q.1.msIds e2
      have e5 := fun μ => ((e1.mono a1 (fun _ _ h => h)).frzA (xV.of a2)).fgA.free μ hc.2
      have hx := e3.trans (a3 1 (by rw [hq2]; simp)) (qyN _)
      obtain ⟨l2, hl2⟩ := qbO (l := l') (b := .rows true sz' rs') q.1.msIds hc.1.2
      rw [hq2, hl2] at a2 hx
      obtain ⟨b1, b2⟩ := h.putBack hid a2 hx
      exact ⟨C3, _, e5 _, b1, b2⟩
    · -- slf
      split at he
      case h_2 => cases he
      rename_i id l hids
      split at he
      case isFalse => cases he
      rename_i hall
      split at he
      case h_2 => cases he
      rename_i d0 sz rs hid
      split at he
      case isFalse => cases he
      rename_i hrr
      rw [yG] at hrr
      obtain ⟨q, hq, hi⟩ := qyJ.1 he
      obtain ⟨p, hp, hpe⟩ := qyO.1 hi
      cases hpe
      have hin : ∀ x ∈ q5 0 args, x ∈ [id] := by
        rw [hids]
        intro x hx
        rcases qzm.1 hx with rfl | hx
        · simp
        · exact (yG.1 hall) x hx
      have ha' : qF C (fun k => if k = 0 then μ id else none) (renL (fun _ => 0) args) vs := ha.renm (k := 0) (L := [id]) (fun x mx hx hmx => by
        have : x = id := by rcases hx with hx | hx; · omega
                            · simpa using hx
        subst this
        simpa using hmx) hin
      refine (hO _ _ _ _ _ hq C _ w vs s ha' (h.oneS hrr hid) ht).mono fun v w1 ⟨C2, μ2, e1, e2, e3⟩ => ?_
      unfold qh5 at hp
      split at hp
      case h_2 => cases hp
      rename_i sz' rs' l' hq2
      split at hp
      case isFalse => cases hp
      rename_i hc
      cases hp
      rw [qyK, qyK, qyK, yG] at hc
      have hsz := qyT hc.1.1.1
      subst hsz
      obtain ⟨C3, a1, a2, a3⟩ := xz q.1.msIds e2
      have e5 := fun μ => ((e1.mono a1 (fun _ _ h => h)).frzA (xV.of a2)).fgA.free μ hc.1.2
      have hx := e3.trans (a3 1 (by rw [hq2]; simp)) (qyN _)
      obtain ⟨l2, hl2⟩ := qbO (l := l') (b := .rows false sz' rs') q.1.msIds hc.1.1.2
      rw [hq2, hl2] at a2 hx
      obtain ⟨b1, b2⟩ := h.putBackS hid hc.2 a2 hx
      exact ⟨C3, _, e5 _, b1, b2⟩
    · -- rgn
      split at he
      case isFalse => cases he
      rename_i hfree
      obtain ⟨q, hq, hi⟩ := qyJ.1 he
      obtain ⟨V, hV, hi⟩ := qyJ.1 hi
      obtain ⟨p, hp, hpe⟩ := qyO.1 hi
      cases hpe
      exact (hO _ _ _ _ _ hq C (fun _ => none) w vs s (ha.fg.free _ hfree) h.nil ht).mono fun v w1 ⟨C2, μ2, e1, e2, e3⟩ => qlV h e2 e3 e1 hV hp
    · -- over
      split at he
      case h_2 => cases he
      rename_i a
      split at he
      case h_2 => cases he
      rename_i id l hids
      split at he
      case isFalse => cases he
      rename_i hall
      split at he
      · rename_i hid
        obtain ⟨u, hu, hpe⟩ := qyO.1 he
        cases hpe
        exact qir hO ha h ht hids hall (.inl rfl) hid hu
      · rename_i hid
        obtain ⟨u, hu, hpe⟩ := qyO.1 he
        cases hpe
        have := qir hO ha h ht hids hall (.inr rfl) hid hu
        rw [qu4 hid] at this
        exact this
      · cases he
variable {C C' C1 C2 : qu} {μ μ' μ1 : MMap} {H H' H1 : AH} {w w' w1 : World} {P : Program}
theorem vD.of_run {s s' : Sem Next} {R : Value → World → Prop} (h : s.run P w = s'.run P w) (hc : vD P s' w R) : vD P s w R := by
 unfold vD at *
 rw [h]; exact hc
theorem qci.callR [Lent] {s : Sem Next} {r : AV} (h : qci P s C μ H w r H') : vD P s w (xn C μ H w r H') := by
 obtain ⟨n, w', C', μ', h1, h2, h3, h4⟩ := h
 unfold vD
 rw [h1]
 rcases h2 with ⟨v, rfl, hr⟩ | ⟨rfl, rfl⟩
 ·exact ⟨C', μ', hr, h3, h4⟩
 ·exact ⟨C', μ', .junk _, h3, h4⟩
theorem qd2 {ρ : Operand → Value} {c : Call} {f : Operand} (hc : c.callee = .value f) (ty : TypeId) : resolve ρ c ty = Deferred.ofValue (ρ f) (c.args.map ρ) := by
 obtain ⟨callee, args, argTypes⟩ := c
 simp only at hc
 subst hc
 rfl
theorem qoR [Lent] {cfg : Cfg} {cf : Orac} (hO : qaY cfg cf) {nid : Option Nat} {o : Oper} {c : Call} {f : Operand} (ho : o.op = .call c) (hf : c.callee = .value f) {x : Operand → AV} {ρ : Operand → Value} (hx : ∀ a, Rep C μ (x a) (ρ a)) (h : Wld C μ H w) {r : AV}
  (he : ((yJ (x f) (c.args.toList.map x)).bind fun t => vr cfg cf nid t.1 t.2 H) = some (r, H')) : vD cfg.P (execOp ρ o) w (xn C μ H w r H') := by
 obtain ⟨t, ht, he⟩ := qyJ.1 he
 have hargs : ∀ (i : Nat) a v, (c.args.toList.map x)[i]? = some a → (c.args.toList.map ρ)[i]? = some v → Rep C μ a v := qhd hx _
 have hfv := hx f
 have hex : execOp ρ o = (do let d ← Deferred.ofValue (ρ f) (c.args.map ρ); invoke d.target d.args) := by
  unfold execOp
  simp only [ho]
  rw [← qd2 hf o.type]
 unfold yJ at ht
 split at ht
 ·rename_i g first caps hxf
  cases ht
  rw [hxf] at hfv
  generalize hv : ρ f = vf at hfv
  cases hfv with
  | fn _ _ _ vf vc hl1 hl2 h1 h2 =>
   rw [hv] at hex
   refine vD.of_run (s' := callFunc g (vf.toArray ++ c.args.map ρ ++ vc.toArray)) ?_ (qgW hO (t := .f g) (vs := vf.toArray ++ c.args.map ρ ++ vc.toArray) ⟨by simp [hl1, hl2], fun i a v e1 e2 => ?_⟩ h rfl he)
   ·rw [hex]
    simp [Deferred.ofValue, invoke]
   ·rw [← Array.getElem?_toList] at e2
    simp only [Array.toList_append, Array.toList_map] at e2
    have hl3 : (c.args.toList.map x).length = (c.args.toList.map ρ).length := by simp
    rcases Nat.lt_or_ge i (first.length + (c.args.toList.map x).length) with hlt | hge
    ·rw [qyU (by simpa using hlt)] at e1
     rw [qyU (by simp only [qy6]; omega)] at e2
     rcases Nat.lt_or_ge i first.length with hlt' | hge'
     ·rw [qyU hlt'] at e1
      rw [qyU (by omega)] at e2
      exact h1 i a v e1 e2
     ·rw [qyZ hge'] at e1
      rw [qyZ (by omega)] at e2
      rw [← hl1] at e2
      exact hargs _ a v e1 e2
    ·rw [qyZ (by simpa using hge)] at e1
     rw [qyZ (by simp only [qy6]; omega)] at e2
     have : i - (vf ++ c.args.toList.map ρ).length = i - (first ++ c.args.toList.map x).length := by simp [hl1]
     rw [this] at e2
     exact h2 _ a v e1 e2
 ·rename_i id hxf
  cases ht
  rw [hxf] at hfv
  generalize hv : ρ f = vf at hfv
  cases hfv with
  | yld _ m hm =>
   rw [hv] at hex
   refine vD.of_run (s' := Instr.yield m.block (c.args.map ρ)) ?_ (qgW hO (t := .y id) (vs := c.args.map ρ) ⟨by simp, fun i a v e1 e2 => ?_⟩ h ⟨m, hm, rfl⟩ he)
   ·rw [hex]
    simp [Deferred.ofValue, invoke]
   ·rw [← Array.getElem?_toList, Array.toList_map] at e2
    exact hargs i a v e1 e2
 ·cases ht
theorem qfc [Lent] {cfg : Cfg} (hc : CfgTy cfg) {cf : Orac} (hO : qaY cfg cf) {frz : Bool} {nid : Option Nat} {o : Oper} {x : Operand → AV} {ρ : Operand → Value} (hx : ∀ a, Rep C μ (x a) (ρ a)) (h : Wld C μ H w) {r : AV}
  (he : vU cfg cf frz nid o x H = some (r, H')) : vD cfg.P (execOp ρ o) w (xn C μ H w r H') := by
 have core : ∀ {C : qu} {H : AH} {x : Operand → AV}, (∀ a, Rep C μ (x a) (ρ a)) → Wld C μ H w →
   (match o.op with
    | .call c =>
     match c.callee with
     | .value f => (yJ (x f) (c.args.toList.map x)).bind fun t => vr cfg cf nid t.1 t.2 H
     | _ => evOp cfg nid o.op o.type x H
    | _ => evOp cfg nid o.op o.type x H) = some (r, H') → vD cfg.P (execOp ρ o) w (xn C μ H w r H') := by
  intro C H x hx h he
  split at he
  ·rename_i c ho
   split at he
   ·rename_i f hf
    exact qoR hO ho hf hx h he
   ·exact (qi8 hc h hx he).callR
  ·exact (qi8 hc h hx he).callR
 unfold vU at he
 split at he
 ·obtain ⟨C1, a1, a2, a3⟩ := xz (o.op.operands.toList.flatMap fun a => (x a).msIds) h
  have hx1 : ∀ a, Rep C1 μ ((x a).frz (o.op.operands.toList.flatMap fun a => (x a).msIds) H) (ρ a) := fun a => ((hx a).mono a1 (fun _ _ h => h)).frzA (xV.of a2)
  refine (core (x := fun a => (x a).frz (o.op.operands.toList.flatMap fun a => (x a).msIds) H) hx1 a2 he).mono fun v w1 ⟨C2, μ2, e1, e2, e3⟩ => ⟨C2, μ2, e1, e2, ?_⟩
  have := (a3 _ (qyN _)).trans e3 (by rw [qaE]; exact qyN _)
  exact this
 ·exact core hx h he
def zv (F : Fence) : Prop := F = Fence.wide ∨ ∃ l, F = Fence.wide.inRound l
theorem zv.fn {F : Fence} (h : zv F) (f : FuncId) : F.fn f := by
 rcases h with rfl | ⟨l, rfl⟩ <;> trivial
theorem zv.depth {F : Fence} (h : zv F) : F.depth = none := by
 rcases h with rfl | ⟨l, rfl⟩ <;> rfl
theorem zv.calls {F : Fence} (h : zv F) {f : FuncId} {args : Array Value} {R : Ending → World → Prop} (hc : CallsIn Fence.wide 0 P f args w R) : CallsIn F (0 - 1) P f args w R := by
 rcases h with rfl | ⟨l, rfl⟩
 ·exact hc
 ·exact hc
theorem zv.rounds {F : Fence} (h : zv F) {l f : Nat} {t : Array Value} {al bd : Code} {R : Ending → World → Prop} (hc : RoundIn Fence.wide 0 P l f t al bd w R) : RoundIn F (0 - 1) P l f t al bd w R := by
 rcases h with rfl | ⟨l, rfl⟩
 ·exact hc
 ·exact hc
theorem qkr {F : Fence} (hF : zv F) {o : Oper} {a : Act} {next : Act → World → Prop} {Q : Exit → Act → World → Prop} (h : vD P (execOp a.eval o) w fun v w' => next (a.put o.dst v) w') : o.wpIn F 0 P a w next Q := by
 have hd : ∀ c, o.op ≠ .defer c := by
  intro c hc
  unfold vD execOp at h
  simp only [hc, Sem.run_bind] at h
  generalize (resolve a.eval c o.type).run P w = x at h
  cases x with
  | ok d w' => simp [Result.andThen, Sem.run_pure] at h
  | halt _ _ => simp [Result.andThen] at h
 refine ⟨fun f _ => hF.fn f, ?_⟩
 rw [Oper.semAt_eq _ _ _ hd]
 unfold vD at h
 generalize (execOp a.eval o).run P w = x at h
 cases x with
 | ok n w' =>
  cases n <;> simp only at h <;> first | exact h | exact h.elim | skip
  ·exact ⟨fun hh => by rw [hF.depth] at hh; simp at hh, hF.calls (h.mono fun e w'' ⟨v, h1, h2⟩ => by subst h1; exact h2)⟩
  ·exact ⟨fun hh => by rw [hF.depth] at hh; simp at hh, hF.rounds (h.mono fun e w'' ⟨v, h1, h2⟩ => by subst h1; exact h2)⟩
 | halt _ _ => exact h.elim
theorem qbt [Lent] {fr : List AV} {a : Act} (hf : qF C μ fr a.tmps) (o : Operand) : Rep C μ (opd fr o) (a.eval o) := by
 cases o with
 | tmp t =>
  show Rep C μ (fr.getD t .junk) (a.tmps.getD t undef)
  rcases Nat.lt_or_ge t fr.length with h | h
  ·have h' : t < a.tmps.size := by rw [← hf.1]; exact h
   rw [List.getD_eq_getElem?_getD, qyI h, Array.getD_eq_getD_getElem?, Array.getElem?_eq_getElem h']
   exact hf.2 t _ _ (qyI h) (Array.getElem?_eq_getElem h')
  ·rw [List.getD_eq_getElem?_getD, List.getElem?_eq_none h]
   exact .junk _
 | const v => exact qgB v
 | global g => exact .junk _
 | func f =>
  have := Rep.fn (C := C) (μ := μ) (.func f) [] [] [] [] rfl rfl (fun i a v h => by simp at h) (fun i a v h => by simp at h)
  exact this
theorem qkm [Lent] : Rep C μ (.tup []) undef := Rep.tup (C := C) (μ := μ) [] [] rfl (fun i a v h => by simp at h)
theorem qcR [Lent] {fr : List AV} {a : Act} {dst : Option Tmp} {r : AV} {v : Value} (hf : qF C μ fr a.tmps) (hr : Rep C μ r v) : qF C μ (put fr dst r) (a.put dst v).tmps := by
 cases dst with
 | none => exact hf
 | some d =>
  refine ⟨by simp [put, Act.put, hf.1], fun i x u h1 h2 => ?_⟩
  simp only [put, qyX] at h1
  simp only [Act.put, Array.getElem?_setIfInBounds] at h2
  by_cases e : d = i
  ·subst e
   rw [if_pos rfl] at h1 h2
   split at h1
   ·split at h2
    ·cases h1; cases h2; exact hr
    ·cases h2
   ·cases h1
  ·rw [if_neg e] at h1 h2
   exact hf.2 i x u h1 h2
theorem qbb {a : Act} {dst : Option Tmp} {v : Value} : (a.put dst v).defers = a.defers := by cases dst <;> rfl
theorem qes [Lent] {fr : List AV} {a : Act} {ops : Array Oper} {o : Oper} {b : Bool} (hf : qF C μ fr a.tmps) (h : yu ops fr o = some b) : Region.wanted o (yielded ops a.tmps) = b := by
 unfold yu at h
 unfold Region.wanted
 split at h
 ·rename_i hg; rw [hg]; simpa using h
 ·rename_i j want hg
  rw [hg]
  simp only
  split at h
  ·rename_i d hd
   split at h
   ·rename_i b' hb
    cases h
    have hlt : d < a.tmps.size := by rw [← hf.1]; exact (qyL.1 hb).1
    have hr := hf.2 d _ _ hb (Array.getElem?_eq_getElem hlt)
    generalize hv : a.tmps[d] = v at hr
    cases hr
    have hs : a.tmps[d]? = some (.bool b') := by rw [Array.getElem?_eq_getElem hlt, hv]
    unfold yielded
    rw [hd]
    simp only [qy0, hs]
    cases b' <;> cases want <;> rfl
   ·rename_i hb
    cases h
    have hlt : d < a.tmps.size := by rw [← hf.1]; exact (qyL.1 hb).1
    have hr := hf.2 d _ _ hb (Array.getElem?_eq_getElem hlt)
    generalize hv : a.tmps[d] = v at hr
    cases hr with
    | tup cs vs hl hh =>
     have hs : a.tmps[d]? = some (.tuple vs.toArray) := by rw [Array.getElem?_eq_getElem hlt, hv]
     unfold yielded
     rw [hd]
     simp only [qy0, hs]
     rfl
   ·cases h
  ·cases h
theorem qcA [Lent] {cfg : Cfg} (hc : CfgTy cfg) {cf : Orac} (hO : qaY cfg cf) {F : Fence} (hF : zv F) {f rid : Nat} {ops : Array Oper} {Q : Exit → Act → World → Prop} {fr' : List AV} : ∀ (rest : List Oper) (k : Nat) {fr : List AV} {H : AH} {C : qu} {μ : MMap} {w : World} {a : Act},
  qaG cfg cf f rid ops k rest fr H = some (fr', H') → (∀ i, rest[i]? = ops[k + i]?) → qF C μ fr a.tmps → Wld C μ H w →
  (∀ C' μ' w' a', qF C' μ' fr' a'.tmps → Wld C' μ' H' w' → Ext H.length C μ H w C' μ' H' w' → a'.defers = a.defers → Q .normal a' w') → wpOpsIn F 0 cfg.P ops Q (List.range' k rest.length) a w
 | [], k, fr, H, C, μ, w, a, he, hi, hf, hw, hq => by
  simp only [qaG] at he
  cases he
  exact hq C μ w a hf hw (Ext.refl (qyN _)) rfl
 | o :: rest, k, fr, H, C, μ, w, a, he, hi, hf, hw, hq => by
  simp only [qaG] at he
  obtain ⟨b, hb, he⟩ := qyJ.1 he
  have hok : ops[k]? = some o := by have := hi 0; simpa using this.symm
  have hi' : ∀ i, rest[i]? = ops[k + 1 + i]? := fun i => by have := hi (i + 1); rw [List.getElem?_cons_succ] at this; rw [this]; congr 1; omega
  have hwan := qes hf hb
  simp only [qzc, List.range'_succ, wpOpsIn, hok]
  split at he
  ·rename_i hbt
   rw [hbt] at hwan
   rw [if_pos hwan]
   obtain ⟨q, hqe, he⟩ := qyJ.1 he
   refine qkr hF ((qfc hc hO (qbt hf) hw hqe).mono fun v w1 ⟨C1, μ1, e1, e2, e3⟩ => ?_)
   have hf1 : qF C1 μ1 fr a.tmps := hf.mono e3.cl (fun id m hm => e3.mu id m (hw.dom id m hm) hm)
   refine qcA hc hO hF rest (k + 1) he hi' (qcR hf1 e1) e2 fun C' μ' w' a' g1 g2 g3 g4 => hq C' μ' w' a' g1 g2 (e3.trans g3 e3.len) (by rw [g4, qbb])
  ·rename_i hbt
   have hbf : b = false := by simpa using hbt
   rw [hbf] at hwan
   rw [if_neg (by rw [hwan]; simp)]
   refine ⟨fun f _ => hF.fn f, ?_⟩
   exact qcA hc hO hF rest (k + 1) he hi' (qcR hf qkm) hw fun C' μ' w' a' g1 g2 g3 g4 => hq C' μ' w' a' g1 g2 g3 (by rw [g4, qbb])
variable {H H' H2 : AH}
theorem qeP {x y : Operand → AV} {l : List Operand} (h : ∀ a ∈ l, x a = y a) : l.map x = l.map y := List.map_congr_left h
theorem qiy {x y : Operand → AV} {l : List (Nat × Operand)} (h : ∀ a ∈ l.map (·.2), x a = y a) : (l.map fun p => (p.1, x p.2)) = l.map fun p => (p.1, y p.2) :=
 List.map_congr_left fun p hp => by rw [h p.2 (List.mem_map.2 ⟨p, hp, rfl⟩)]
theorem qeL {x y : Operand → AV} {o : Option Operand} (h : ∀ a ∈ o.toArray, x a = y a) : o.map x = o.map y := by
 cases o with
 | none => rfl
 | some a => simp only [qy7]; rw [h a (by simp)]
theorem qq2 {cfg : Cfg} {nid : Option Nat} {op : Op} {ty : TypeId} {x y : Operand → AV} (h : ∀ a ∈ op.operands, x a = y a) : evOp cfg nid op ty x H = evOp cfg nid op ty y H := by
 cases op with
 | move a | assign a | box _ a | load _ a | nilCheck a | unOp _ _ a | convert _ _ a | fieldAddr _ a _ | field _ a _ | extract a _ =>
  have := h a (by simp [Op.operands])
  simp only [evOp, this]
 | pick c a b =>
  have h1 := h c (by simp [Op.operands])
  have h2 := h a (by simp [Op.operands])
  have h3 := h b (by simp [Op.operands])
  simp only [evOp, h1, h2, h3]
 | store _ a b | binOp _ _ a b _ | makeSlice _ a b | indexAddr _ a b | index _ a b | lookup _ a b _ =>
  have h1 := h a (by simp [Op.operands])
  have h2 := h b (by simp [Op.operands])
  simp only [evOp, h1, h2]
 | mapUpdate _ a b c | insert _ a b c =>
  have h1 := h a (by simp [Op.operands])
  have h2 := h b (by simp [Op.operands])
  have h3 := h c (by simp [Op.operands])
  simp only [evOp, h1, h2, h3]
 | makeMap _ r =>
  cases r with
  | none => rfl
  | some a =>
   have h1 := h a (by simp [Op.operands])
   simp only [evOp, h1]
 | build _ ps =>
  have := qiy (x := x) (y := y) (l := ps.toList) (fun a ha => h a (by simp only [Op.operands, List.mem_toArray]; exact ha))
  simp only [evOp, this]
 | buildSlice _ _ ps =>
  have := qiy (x := x) (y := y) (l := ps.toList) (fun a ha => h a (by simp only [Op.operands, List.mem_toArray]; exact ha))
  simp only [evOp, this]
 | makeFunc f p q =>
  have h1 := qeP (x := x) (y := y) (l := p.toList) (fun a ha => h a (by simp only [Op.operands, Array.mem_append]; exact .inl (Array.mem_toList_iff.1 ha)))
  have h2 := qeP (x := x) (y := y) (l := q.toList) (fun a ha => h a (by simp only [Op.operands, Array.mem_append]; exact .inr (Array.mem_toList_iff.1 ha)))
  simp only [evOp, h1, h2]
 | slice _ a l hi m =>
  have h1 := h a (by simp [Op.operands])
  have h2 := qeL (x := x) (y := y) (o := l) (fun a ha => h a (by simp only [Op.operands, Array.mem_append]; simp [ha]))
  have h3 := qeL (x := x) (y := y) (o := hi) (fun a ha => h a (by simp only [Op.operands, Array.mem_append]; simp [ha]))
  have h4 := qeL (x := x) (y := y) (o := m) (fun a ha => h a (by simp only [Op.operands, Array.mem_append]; simp [ha]))
  simp only [evOp, h1, h2, h3, h4]
 | call c =>
  have hm : ∀ a ∈ c.args.toList, x a = y a := fun a ha => h a (by simp only [Op.operands, Call.operands, Array.mem_append]; exact .inr (Array.mem_toList_iff.1 ha))
  obtain ⟨callee, args, argTypes⟩ := c
  simp only at hm
  simp only [evOp]
  generalize args.toList = l at hm
  generalize argTypes.toList = ts
  clear h
  split
  ·rw [hm _ (by simp)]
  ·rw [hm _ (by simp), hm _ (by simp)]
  ·rw [hm _ (by simp), hm _ (by simp)]
  ·rw [hm _ (by simp)]
  ·rw [hm _ (by simp), hm _ (by simp)]
  ·rw [hm _ (by simp), hm _ (by simp)]
  ·rfl
 | _ => rfl
theorem qm1 {cfg : Cfg} {cf : Orac} {frz : Bool} {nid : Option Nat} {o : Oper} {x y : Operand → AV} (h : ∀ a ∈ o.op.operands, x a = y a) : vU cfg cf frz nid o x H = vU cfg cf frz nid o y H := by
 have hids : (o.op.operands.toList.flatMap fun a => (x a).msIds) = o.op.operands.toList.flatMap fun a => (y a).msIds := by
  have : (o.op.operands.toList.map fun a => (x a).msIds) = o.op.operands.toList.map fun a => (y a).msIds := List.map_congr_left fun a ha => by rw [h a (Array.mem_toList_iff.1 ha)]
  rw [List.flatMap_def, List.flatMap_def, this]
 have core : ∀ {x y : Operand → AV} {H : AH}, (∀ a ∈ o.op.operands, x a = y a) →
   (match o.op with
    | .call c =>
     match c.callee with
     | .value f => (yJ (x f) (c.args.toList.map x)).bind fun t => vr cfg cf nid t.1 t.2 H
     | _ => evOp cfg nid o.op o.type x H
    | _ => evOp cfg nid o.op o.type x H) =
   (match o.op with
    | .call c =>
     match c.callee with
     | .value f => (yJ (y f) (c.args.toList.map y)).bind fun t => vr cfg cf nid t.1 t.2 H
     | _ => evOp cfg nid o.op o.type y H
    | _ => evOp cfg nid o.op o.type y H) := by
  intro x y H h
  rw [qq2 h]
  split
  ·rename_i c ho
   split
   ·rename_i f hf
    have h1 : x f = y f := h f (by rw [ho]; simp [Op.operands, Call.operands, hf])
    have h2 := qeP (x := x) (y := y) (l := c.args.toList) (fun a ha => h a (by rw [ho]; simp only [Op.operands, Call.operands, Array.mem_append]; exact .inr (Array.mem_toList_iff.1 ha)))
    rw [h1, h2]
   ·rfl
  ·rfl
 unfold vU
 cases frz with
 | false => simp only [qza, if_false]; exact core h
 | true =>
  simp only [if_true]
  rw [hids]
  exact core (fun a ha => by rw [h a ha])
theorem yp {id : Nat} (h : H2[id]? = H[id]?) : q7 H2 id = q7 H id := by unfold q7; rw [h]
theorem qcC {id : Nat} (h : H2[id]? = H[id]?) : xl H2 id = xl H id := by unfold xl; rw [h]
theorem qnF {p : AV} (h : ∀ id ∈ p.hid, H2[id]? = H[id]?) : xw H2 p = xw H p := by
 cases p with
 | ms id off len => simp only [xw]; rw [qcC (h id (by simp [AV.hid]))]
 | _ => rfl
theorem qsA {agg : Bool} {n : Nat} {p : AV} (h : ∀ id ∈ p.hid, H2[id]? = H[id]?) : qaj agg n H2 p = qaj agg n H p := by
 unfold qaj
 split
 ·rename_i id r off; rw [yp (h id (by simp [AV.hid]))]
 ·rfl
 ·rfl
 ·rename_i id cs; rw [h id (by simp [AV.hid])]
 ·rfl
theorem qic {n : Nat} {p : AV} (h : ∀ id ∈ p.hid, H2[id]? = H[id]?) : xT H2 n p = xT H n p := by
 unfold xT
 split
 ·rfl
 ·rfl
 ·rfl
 ·rename_i id off len; rw [yp (h id (by simp [AV.hid]))]
 ·rfl
theorem qnE {n : Nat} {p : AV} (h : ∀ id ∈ p.hid, H2[id]? = H[id]?) : xN H2 n p = xN H n p := by
 unfold xN
 split
 ·rfl
 ·exact qic h
theorem qj5 {cfg : Cfg} {t : TypeId} {p i : AV} (h : ∀ id ∈ p.hid, H2[id]? = H[id]?) : yo cfg t H2 p i = yo cfg t H p i := by
 unfold yo
 split
 ·rename_i id _ _ _ _ _; rw [yp (h id (by simp [AV.hid]))]
 all_goals rfl
theorem qrf {cfg : Cfg} {t : TypeId} {p : AV} {lo hi mx : Option AV} (h : ∀ id ∈ p.hid, H2[id]? = H[id]?) : qaX cfg t H2 p lo hi mx = qaX cfg t H p lo hi mx := by
 unfold qaX
 split
 ·rfl
 ·rfl
 ·rfl
 ·rename_i id off len _; rw [yp (h id (by simp [AV.hid]))]
 ·rfl
theorem qtT {cfg : Cfg} {t : TypeId} {p : AV} (h : ∀ id ∈ p.hid, H2[id]? = H[id]?) : aLen cfg t p H2 = aLen cfg t p H := by
 unfold aLen
 split <;> first | rfl | skip
 rename_i id _; rw [h id (by simp [AV.hid])]
theorem qbW {p : AV} (h : ∀ id ∈ p.hid, H2[id]? = H[id]?) : p.snap1 H2 = p.snap1 H := by
 cases p with
 | ms id off len => simp only [AV.snap1, AV.frz1]; rw [yp (h id (by simp [AV.hid])), qcC (h id (by simp [AV.hid]))]
 | ptr id r off => simp only [AV.snap1]; rw [yp (h id (by simp [AV.hid]))]
 | rsl id rows => simp only [AV.snap1]; rw [h id (by simp [AV.hid])]
 | _ => rfl
theorem qdm {l : List AV} (h : ∀ id ∈ l.flatMap AV.hid, H2[id]? = H[id]?) : l.map (AV.snap1 H2) = l.map (AV.snap1 H) :=
 List.map_congr_left fun p hp => qbW fun id hi => h id (List.mem_flatMap.2 ⟨p, hp, hi⟩)
theorem qs4 {p : AV} (h : ∀ id ∈ p.hids, H2[id]? = H[id]?) : p.snap H2 = p.snap H := by
 cases p with
 | agg cs => simp only [AV.snap]; rw [qdm (fun id hi => h id (by simpa [AV.hids] using hi))]
 | fn f a b => simp only [AV.snap]; rw [qdm (fun id hi => h id (by simp only [AV.hids, qzi]; exact .inl hi)), qdm (fun id hi => h id (by simp only [AV.hids, qzi]; exact .inr hi))]
 | ms id off len => exact qbW (p := .ms id off len) h
 | ptr id r off => exact qbW (p := .ptr id r off) h
 | rsl id rows => exact qbW (p := .rsl id rows) h
 | _ => rfl
def Upd (wr : List Nat) (H2 H' H2' : AH) : Prop := H2'.length = H2.length ∧ ∀ id, H2'[id]? = if id ∈ wr then H'[id]? else H2[id]?
theorem Upd.same {wr : List Nat} (h : ∀ id ∈ wr, H2[id]? = H[id]?) : Upd wr H2 H H2 := ⟨rfl, fun id => by
 split
 ·rename_i hi; exact h id hi
 ·rfl⟩
theorem Upd.set {wr : List Nat} (h : ∀ id ∈ wr, H2[id]? = H[id]?) (hl : H2.length = H.length) {k : Nat} {b : ABlk} (hk : k ∈ wr) : Upd wr H2 (H.set k b) (H2.set k b) := ⟨by simp, fun id => by
 by_cases e : k = id
 ·subst e
  rw [if_pos hk, qyX, qyX, if_pos rfl, if_pos rfl, hl]
 ·rw [qyX, if_neg e, qyX, if_neg e]
  split
  ·rename_i hi; exact h id hi
  ·rfl⟩
theorem xP {g g2 : Option AV} {r : AV} {wr : List Nat} (he : (g.map fun v => (v, H)) = some (r, H')) (hg : g2 = g) (h : ∀ id ∈ wr, H2[id]? = H[id]?) : ∃ H2', (g2.map fun v => (v, H2)) = some (r, H2') ∧ Upd wr H2 H' H2' := by
 subst hg
 obtain ⟨v, hv, e⟩ := qyO.1 he
 cases e
 exact ⟨H2, by rw [hv]; rfl, Upd.same h⟩
theorem zp {at_ k : Nat} {b : ABlk} {wr : List Nat} (hn : aNew (some at_) H b = some (k, H')) (h : ∀ id ∈ wr, H2[id]? = H[id]?) (hl : H2.length = H.length) (hk : at_ ∈ wr) : ∃ H2', aNew (some at_) H2 b = some (k, H2') ∧ Upd wr H2 H' H2' := by
 unfold aNew at hn ⊢
 simp only at hn ⊢
 rw [h _ hk]
 split at hn
 ·cases hn
  exact ⟨_, rfl, Upd.set h hl hk⟩
 ·cases hn
variable {H H' H2 : AH}
theorem Upd.of_set {wr : List Nat} {k : Nat} {b : ABlk} {H2' : AH} (h : Upd wr (H2.set k b) H' H2') (hk : k ∈ wr) : Upd wr H2 H' H2' := ⟨by rw [h.1]; simp, fun id => by
 rw [h.2 id]
 split
 ·rfl
 ·rename_i hi
  rw [qyX, if_neg]
  intro e; subst e; exact hi hk⟩
theorem qng {n : Nat} {p v : AV} (he : qaW n H p v = some H') (h : ∀ id ∈ p.hid, H2[id]? = H[id]?) (hl : H2.length = H.length) : ∃ H2', qaW n H2 p v = some H2' ∧ Upd p.hid H2 H' H2' := by
 unfold qaW at he ⊢
 split at he
 ·rename_i id r off cs hv
  have hid : id ∈ (AV.ptr id r off).hid := by simp [AV.hid]
  rw [h id hid]
  split at he
  ·rename_i sz rs _
   split at he
   ·rename_i row hrow
    split at he
    ·rename_i hc
     cases he
     simp only [hc, if_true]
     exact ⟨_, rfl, Upd.set h hl hid⟩
    ·cases he
   ·cases he
  ·cases he
 ·rename_i id cs cs' hv
  have hid : id ∈ (AV.rpt id cs).hid := by simp [AV.hid]
  rw [h id hid]
  split at he
  ·split at he
   ·rename_i hc
    cases he
    simp only [hc, if_true]
    exact ⟨_, rfl, Upd.same h⟩
   ·cases he
  ·cases he
 ·cases he
theorem qj7 {cfg : Cfg} {at_ : Nat} {s d : TypeId} {x r : AV} {wr : List Nat} (he : zj cfg (some at_) s d x H = some (r, H')) (h : ∀ id ∈ x.hid, H2[id]? = H[id]?) (hwr : ∀ id ∈ wr, H2[id]? = H[id]?) (hl : H2.length = H.length) (hk : at_ ∈ wr) :
  ∃ H2', zj cfg (some at_) s d x H2 = some (r, H2') ∧ Upd wr H2 H' H2' := by
 unfold zj at he ⊢
 split at he
 ·cases he; exact ⟨H2, rfl, Upd.same hwr⟩
 ·cases he; exact ⟨H2, rfl, Upd.same hwr⟩
 ·rename_i sd e t hs hd
  split at he
  ·rename_i hte
   split at he
   ·rename_i k H1 hnew
    cases he
    obtain ⟨H2', e1, e2⟩ := zp hnew hwr hl hk
    simp only [e1]
    exact ⟨H2', rfl, e2⟩
   ·cases he
  ·cases he
 ·rename_i e hs hd hne
  split at he
  ·rename_i rows hte hrows
   rw [qic h]
   split at he
   ·rename_i bs hbs
    cases he
    exact ⟨H2, by simp only [hte, hrows, hbs], Upd.same hwr⟩
   ·cases he
  ·cases he
 ·cases he
theorem qoX {cfg : Cfg} {at_ : Nat} {t : TypeId} {l c r : AV} {wr : List Nat} (he : qcf cfg (some at_) t l c H = some (r, H')) (hwr : ∀ id ∈ wr, H2[id]? = H[id]?) (hl : H2.length = H.length) (hk : at_ ∈ wr) :
  ∃ H2', qcf cfg (some at_) t l c H2 = some (r, H2') ∧ Upd wr H2 H' H2' := by
 unfold qcf at he ⊢
 split at he
 ·split at he
  ·split at he
   ·rename_i h1
    split at he
    ·rename_i h2
     split at he
     ·rename_i k H1 hnew
      cases he
      obtain ⟨H2', e1, e2⟩ := zp hnew hwr hl hk
      simp only [h1, if_true, h2, e1]
      exact ⟨H2', by simp, e2⟩
     ·cases he
    ·cases he
   ·cases he
  ·cases he
 ·cases he
theorem qll {cfg : Cfg} {at_ : Nat} {t xt : TypeId} {s x r : AV} {wr : List Nat} (he : zU cfg (some at_) t xt s x H = some (r, H')) (hx : ∀ id ∈ x.hid, H2[id]? = H[id]?) (hwr : ∀ id ∈ wr, H2[id]? = H[id]?) (hl : H2.length = H.length) (hk : at_ ∈ wr)
  (hs : ∀ id ∈ s.hid, id ∈ wr) : ∃ H2', zU cfg (some at_) t xt s x H2 = some (r, H2') ∧ Upd wr H2 H' H2' := by
 unfold zU at he ⊢
 split at he
 case h_2 => cases he
 split at he
 case h_2 => cases he
 split at he
 case isFalse => cases he
 rename_i h1
 rw [if_pos h1, qnE hx, qnF hx]
 split at he
 case h_2 => cases he
 split at he
 ·split at he
  ·rename_i h2
   cases he
   rw [if_pos h2]
   exact ⟨H2, rfl, Upd.same hwr⟩
  ·rename_i h2
   rw [if_neg h2]
   split at he
   ·rename_i h3
    rw [if_pos h3]
    split at he
    ·rename_i k H1 hnew
     cases he
     obtain ⟨H2', e1, e2⟩ := zp hnew hwr hl hk
     simp only [e1]
     exact ⟨H2', rfl, e2⟩
    ·cases he
   ·cases he
 ·rename_i id off len
  have hid : id ∈ wr := hs id (by simp [AV.hid])
  rw [hwr id hid]
  split at he
  ·rename_i sz rs _
   split at he
   ·rename_i h2
    rw [if_pos h2]
    split at he
    ·rename_i k H1 hnew
     cases he
     obtain ⟨H2', e1, e2⟩ := zp (H2 := H2.set id .dead) hnew (fun j hj => by
      rw [qyX, qyX]
      split
      ·rw [hl]
      ·exact hwr j hj) (by simpa using hl) hk
     simp only [e1]
     exact ⟨H2', rfl, e2.of_set hid⟩
    ·cases he
   ·cases he
  ·cases he
 ·cases he
theorem qiq {at_ : Nat} {G : AH} {a r : AV} (he : yz (some at_) G a H = some (r, H')) (hl : H2.length = H.length) (hwr : ∀ id ∈ [at_], H2[id]? = H[id]?) : ∃ H2', yz (some at_) G a H2 = some (r, H2') ∧ Upd [at_] H2 H' H2' := by
 unfold yz at he ⊢
 split at he
 ·split at he
  ·split at he
   ·rename_i h2
    rw [if_pos h2]
    split at he
    ·rename_i k H1 hnew
     cases he
     obtain ⟨H2', e1, e2⟩ := zp hnew hwr hl (by simp)
     simp only [e1]
     exact ⟨H2', rfl, e2⟩
    ·cases he
   ·cases he
  ·cases he
 ·split at he
  ·rename_i h2
   cases he
   rw [if_pos h2]
   exact ⟨H2, rfl, Upd.same hwr⟩
  ·cases he
theorem qoS {cfg : Cfg} {cf : Orac} {at_ : Nat} {t : Tgt} {args : List AV} {r : AV} (he : vr cfg cf (some at_) t args H = some (r, H')) (hw : (qaU cfg at_ t args).wall = false) (hl : H2.length = H.length)
  (hr : ∀ id ∈ (qaU cfg at_ t args).rd, H2[id]? = H[id]?) (hwr : ∀ id ∈ (qaU cfg at_ t args).wr, H2[id]? = H[id]?) : ∃ H2', vr cfg cf (some at_) t args H2 = some (r, H2') ∧ Upd (qaU cfg at_ t args).wr H2 H' H2' := by
 cases t with
 | y id => simp [qaU] at hw
 | f f =>
  simp only [qaU, vr] at *
  cases hm : cfg.mode f with
  | scal =>
   simp only [hm] at *
   have hs : (args.map fun a => (a.snap H2).fg) = (args.map fun a => (a.snap H).fg) := List.map_congr_left fun p hp => by rw [qs4 fun id hi => hr id (List.mem_flatMap.2 ⟨p, hp, hi⟩)]
   rw [hs]
   split at he
   case isFalse => cases he
   rename_i h1
   rw [if_pos h1]
   obtain ⟨q, hq, he⟩ := qyJ.1 he
   rw [hq]
   split at he
   case isFalse => cases he
   rename_i h2
   cases he
   exact ⟨H2, by simp [h2], Upd.same hwr⟩
  | pfrz =>
   simp only [hm] at *
   split at he
   case isFalse => cases he
   rename_i h1
   rw [if_pos h1]
   obtain ⟨q, hq, he⟩ := qyJ.1 he
   rw [hq]
   split at he
   case isFalse => cases he
   rename_i h2
   cases he
   exact ⟨H2, by simp [h2], Upd.same (fun id hi => by simp [FP.none] at hi)⟩
  | pown =>
   simp only [hm] at *
   split at he
   case isFalse => cases he
   rename_i h1
   rw [if_pos h1]
   obtain ⟨q, hq, he⟩ := qyJ.1 he
   rw [hq]
   simp only [qy0]
   unfold qbI at he ⊢
   split at he
   ·split at he
    case isFalse => cases he
    rename_i hsc
    rw [if_pos hsc]
    obtain ⟨p, hp, hpe⟩ := qyO.1 he
    cases hpe
    obtain ⟨H2', e1, e2⟩ := qiq hp hl hwr
    rw [e1]
    exact ⟨H2', rfl, e2⟩
   ·exact qiq he hl hwr
  | slf =>
   simp only [hm] at *
   split at he
   case h_2 => cases he
   rename_i id l hids
   simp only [hids] at hwr ⊢
   split at he
   case isFalse => cases he
   rename_i h1
   rw [if_pos h1, hwr id (by simp)]
   split at he
   case h_2 => cases he
   rename_i d sz rs hid
   try simp only [hid]
   split at he
   case isFalse => cases he
   rename_i h2
   rw [if_pos h2]
   obtain ⟨q, hq, he⟩ := qyJ.1 he
   rw [hq]
   obtain ⟨p, hp, hpe⟩ := qyO.1 he
   cases hpe
   exact ⟨H2.set id (.rows false sz (renR (fun _ => id) p.2)), by simp [hp], Upd.set hwr hl (by simp)⟩
  | imp => simp [hm] at hw
  | inpl =>
   simp only [hm] at *
   split at he
   case h_2 =>
    rename_i hids
    simp only [hids] at hwr ⊢
    split at he
    case isFalse => cases he
    rename_i h1
    rw [if_pos h1]
    obtain ⟨q, hq, he⟩ := qyJ.1 he
    rw [hq]
    split at he
    case isFalse => cases he
    rename_i h2
    cases he
    exact ⟨H2, by simp [h2], Upd.same hwr⟩
   rename_i id l hids
   simp only [hids] at hwr ⊢
   split at he
   case isFalse => cases he
   rename_i h1
   rw [if_pos h1, hwr id (by simp)]
   split at he
   case h_2 => cases he
   rename_i d sz rs hid
   try simp only [hid]
   split at he
   case isFalse => cases he
   rename_i h2
   rw [if_pos h2]
   obtain ⟨q, hq, he⟩ := qyJ.1 he
   rw [hq]
   obtain ⟨p, hp, hpe⟩ := qyO.1 he
   cases hpe
   exact ⟨H2.set id (.rows true sz p.2), by simp [hp], Upd.set hwr hl (by simp)⟩
  | inpf =>
   simp only [hm] at *
   split at he
   case h_2 => cases he
   rename_i id l hids
   simp only [hids] at hwr ⊢
   split at he
   case isFalse => cases he
   rename_i h1
   rw [if_pos h1, hwr id (by simp)]
   split at he
   case h_2 => cases he
   rename_i d sz rs hid
   try simp only [hid]
   split at he
   case isFalse => cases he
   rename_i h2
   rw [if_pos h2]
   obtain ⟨q, hq, he⟩ := qyJ.1 he
   rw [hq]
   obtain ⟨p, hp, hpe⟩ := qyO.1 he
   cases hpe
   exact ⟨H2.set id (.rows true sz p.2), by simp [hp], Upd.set hwr hl (by simp)⟩
  | ifrz => simp [hm] at hw
  | rgn =>
   simp only [hm] at *
   split at he
   case isFalse => cases he
   rename_i h1
   rw [if_pos h1]
   obtain ⟨q, hq, he⟩ := qyJ.1 he
   obtain ⟨V, hV, he⟩ := qyJ.1 he
   obtain ⟨p, hp, hpe⟩ := qyO.1 he
   cases hpe
   obtain ⟨H2', e1, e2⟩ := zp hp hwr hl (by simp)
   exact ⟨H2', by simp [hq, hV, e1], e2⟩
  | over => simp [hm] at hw
theorem qtD {ids : List Nat} {a : AV} (h : ∀ id ∈ ids, H2[id]? = H[id]?) : a.frz1 ids H2 = a.frz1 ids H := by
 cases a with
 | ms id off len =>
  by_cases hi : id ∈ ids
  ·simp only [AV.frz1, yp (h id hi), qcC (h id hi)]
  ·have hn : x4 id ids = false := by rw [← Bool.not_eq_true, vt]; exact hi
   simp only [AV.frz1, hn, Bool.false_and, qza, if_false]
   cases q7 H2 id <;> cases q7 H id <;> rfl
 | _ => rfl
theorem qjZ {ids : List Nat} {a : AV} (h : ∀ id ∈ ids, H2[id]? = H[id]?) : a.frz ids H2 = a.frz ids H := by
 have : AV.frz1 ids H2 = AV.frz1 ids H := funext fun _ => qtD h
 cases a <;> simp only [AV.frz, this]
theorem zu {H : AH} {i id : Nat} : (vL H i)[id]? = if i = id then (match H[id]? with | some (.rows d sz rs) => some (.froz d sz rs) | b => b) else H[id]? := by
 unfold vL
 split
 ·rename_i d sz rs hi
  rw [qyX]
  by_cases e : i = id
  ·subst e
   have := (qyL.1 hi).1
   rw [if_pos rfl, if_pos this, if_pos rfl, hi]
  ·rw [if_neg e, if_neg e]
 ·rename_i hn
  by_cases e : i = id
  ·subst e
   rw [if_pos rfl]
   split
   ·rename_i d sz rs hi; exact absurd hi (hn d sz rs)
   ·rfl
  ·rw [if_neg e]
theorem qcz : ∀ (ids : List Nat) {H H2 : AH}, (∀ id ∈ ids, H2[id]? = H[id]?) → ∀ id, (q6 ids H2)[id]? = if id ∈ ids then (q6 ids H)[id]? else H2[id]?
 | [], H, H2, _, id => by simp [q6]
 | i :: l, H, H2, h, id => by
  have hi := h i (by simp)
  have ih := qcz l (H := vL H i) (H2 := vL H2 i) (fun j hj => by
   rw [zu, zu, h j (by simp [hj])]) id
  have e1 : q6 (i :: l) H2 = q6 l (vL H2 i) := rfl
  have e2 : q6 (i :: l) H = q6 l (vL H i) := rfl
  rw [e1, e2, ih]
  by_cases hl : id ∈ l
  ·rw [if_pos hl, if_pos (by simp [hl])]
  ·rw [if_neg hl]
   by_cases e : id = i
   ·subst e
    have hk : ∀ (l : List Nat) (H : AH), id ∉ l → (q6 l H)[id]? = H[id]? := by
     intro l
     induction l with
     | nil => intro H _; rfl
     | cons j l ih =>
      intro H hn
      show (q6 l (vL H j))[id]? = _
      rw [ih _ (fun hm => hn (by simp [hm])), zu, if_neg (fun e => hn (by simp [e]))]
    rw [if_pos (by simp), hk l _ hl, zu, zu, hi]
   ·rw [if_neg (by simp [hl, e]), zu, if_neg (fun h => e h.symm)]
theorem qfd {cfg : Cfg} {cf : Orac} {frz : Bool} {at_ : Nat} {o : Oper} {x : Operand → AV} {r : AV} (he : vU cfg cf frz (some at_) o x H = some (r, H')) (hw : (yY cfg frz at_ o x).wall = false) (hl : H2.length = H.length)
  (hr : ∀ id ∈ (yY cfg frz at_ o x).rd, H2[id]? = H[id]?) (hwr : ∀ id ∈ (yY cfg frz at_ o x).wr, H2[id]? = H[id]?) : ∃ H2', vU cfg cf frz (some at_) o x H2 = some (r, H2') ∧ Upd (yY cfg frz at_ o x).wr H2 H' H2' := by
 obtain ⟨dst, op, ty, pos, after, guard⟩ := o
 cases frz with
 | true =>
  unfold yY at hw hwr ⊢
  simp only [if_true] at hw hwr ⊢
  unfold vU at he ⊢
  simp only [if_true] at he ⊢
  cases op with
  | build t parts =>
   simp only at hw hwr he ⊢
   have hx : (fun a => (x a).frz ((Op.build t parts).operands.toList.flatMap fun a => (x a).msIds) H2) = fun a => (x a).frz ((Op.build t parts).operands.toList.flatMap fun a => (x a).msIds) H := funext fun a => qjZ hwr
   rw [hx]
   have hup : Upd ((Op.build t parts).operands.toList.flatMap fun a => (x a).msIds) H2 (q6 ((Op.build t parts).operands.toList.flatMap fun a => (x a).msIds) H) (q6 ((Op.build t parts).operands.toList.flatMap fun a => (x a).msIds) H2) :=
    ⟨qaE _ _, qcz _ hwr⟩
   generalize (Op.build t parts).operands.toList.flatMap (fun a => (x a).msIds) = ids at *
   simp only [evOp] at *
   split at he
   ·split at he
    ·rename_i h1
     rw [if_pos h1]
     split at he
     ·split at he
      ·obtain ⟨cs, hcs, e⟩ := qyO.1 he
       cases e
       rw [hcs]
       exact ⟨_, rfl, hup⟩
      ·cases he
     ·split at he
      ·obtain ⟨cs, hcs, e⟩ := qyO.1 he
       cases e
       rw [hcs]
       exact ⟨_, rfl, hup⟩
      ·cases he
     ·cases he
    ·cases he
   ·cases he
  | call c =>
   obtain ⟨callee, args, argTypes⟩ := c
   cases callee with
   | value f =>
    simp only at hw hwr he ⊢
    split at hw
    case h_2 => simp at hw
    rename_i h al ht
    simp only [ht] at hwr ⊢
    cases hm : cfg.mode h with
    | pfrz =>
     simp only [hm] at hwr ⊢
     have hx : (fun a => (x a).frz ((Op.call ⟨.value f, args, argTypes⟩).operands.toList.flatMap fun a => (x a).msIds) H2) = fun a => (x a).frz ((Op.call ⟨.value f, args, argTypes⟩).operands.toList.flatMap fun a => (x a).msIds) H := funext fun a => qjZ hwr
     have hup : Upd ((Op.call ⟨.value f, args, argTypes⟩).operands.toList.flatMap fun a => (x a).msIds) H2 (q6 ((Op.call ⟨.value f, args, argTypes⟩).operands.toList.flatMap fun a => (x a).msIds) H) (q6 ((Op.call ⟨.value f, args, argTypes⟩).operands.toList.flatMap fun a => (x a).msIds) H2) :=
      ⟨qaE _ _, qcz _ hwr⟩
     have hxa : ∀ a, (x a).frz ((Op.call ⟨.value f, args, argTypes⟩).operands.toList.flatMap fun a => (x a).msIds) H2 = (x a).frz ((Op.call ⟨.value f, args, argTypes⟩).operands.toList.flatMap fun a => (x a).msIds) H := fun a => qjZ hwr
     rw [hxa, hx]
     clear hxa hx hwr hr hw
     generalize (Op.call ⟨.value f, args, argTypes⟩).operands.toList.flatMap (fun a => (x a).msIds) = ids at *
     have hxf : (x f).frz ids H = x f := by
      unfold yJ at ht
      split at ht
      ·rename_i hx; rw [hx]; rfl
      ·simp at ht
      ·cases ht
     rw [hxf] at he ⊢
     obtain ⟨t2, ht2, he⟩ := qyJ.1 he
     rw [ht2]
     have htf : t2.1 = .f h := by
      unfold yJ at ht ht2
      split at ht
      ·rename_i hx
       rw [hx] at ht2
       simp only [Option.some.injEq, Prod.mk.injEq] at ht ht2
       rw [← ht2]; exact ht.1
      ·simp at ht
      ·cases ht
     obtain ⟨t2a, t2b⟩ := t2
     simp only at htf
     subst htf
     simp only [qy0, vr, hm] at he ⊢
     split at he
     case isFalse => cases he
     rename_i h1
     rw [if_pos h1]
     obtain ⟨q, hq, he⟩ := qyJ.1 he
     rw [hq]
     simp only [qy0] at he ⊢
     split at he
     case isFalse => cases he
     rename_i h2
     cases he
     exact ⟨_, by rw [if_pos h2], hup⟩
    | _ => simp [hm] at hw
   | _ => simp at hw
  | _ => simp at hw
 | false =>
  unfold vU at he ⊢
  simp only [qza, if_false] at he ⊢
  unfold yY at hw hr hwr ⊢
  simp only [qza, if_false] at hw hr hwr ⊢
  cases op with
  | move a => simp only [evOp] at *; cases he; exact ⟨H2, rfl, Upd.same hwr⟩
  | assign a => simp only [evOp] at *; cases he; exact ⟨H2, rfl, Upd.same hwr⟩
  | pick c a b =>
   simp only [evOp] at *
   split at he
   ·cases he; exact ⟨H2, rfl, Upd.same hwr⟩
   ·cases he
  | alloc t =>
   simp only [evOp] at *
   split at he
   ·split at he
    ·rename_i h1
     rw [if_pos h1]
     split at he
     ·rename_i k H1 hnew
      cases he
      obtain ⟨H2', e1, e2⟩ := zp hnew hwr hl (by simp)
      simp only [e1]
      exact ⟨H2', rfl, e2⟩
     ·cases he
    ·cases he
   ·cases he
  | box t a =>
   simp only [evOp] at *
   split at he
   ·split at he
    ·rename_i k H1 hnew
     cases he
     obtain ⟨H2', e1, e2⟩ := zp hnew hwr hl (by simp)
     simp only [e1]
     exact ⟨H2', rfl, e2⟩
    ·cases he
   ·cases he
  | build t parts =>
   simp only [evOp] at *
   split at he
   ·split at he
    ·rename_i h1
     rw [if_pos h1]
     split at he
     ·split at he
      ·obtain ⟨cs, hcs, e⟩ := qyO.1 he
       cases e
       rw [hcs]
       exact ⟨H2, rfl, Upd.same hwr⟩
      ·cases he
     ·split at he
      ·obtain ⟨cs, hcs, e⟩ := qyO.1 he
       cases e
       rw [hcs]
       exact ⟨H2, rfl, Upd.same hwr⟩
      ·cases he
     ·cases he
    ·cases he
   ·cases he
  | buildSlice t len parts =>
   simp only [evOp] at *
   split at he
   ·split at he
    ·split at he
     ·rename_i h1
      rw [if_pos h1]
      split at he
      ·split at he
       ·rename_i k H1 hnew
        cases he
        obtain ⟨H2', e1, e2⟩ := zp hnew hwr hl (by simp)
        simp only [e1]
        exact ⟨H2', rfl, e2⟩
       ·cases he
      ·cases he
     ·cases he
    ·cases he
   ·cases he
  | load t a =>
   simp only [evOp] at *
   split at he
   ·exact xP he (qsA hr) hwr
   ·cases he
  | store t a v =>
   simp only [evOp] at *
   split at he
   ·obtain ⟨H1, h1, e⟩ := qyO.1 he
    cases e
    obtain ⟨H2', e1, e2⟩ := qng h1 hwr hl
    rw [e1]
    exact ⟨H2', rfl, e2⟩
   ·cases he
  | nilCheck a =>
   simp only [evOp] at *
   split at he <;> first | (cases he; exact ⟨H2, rfl, Upd.same hwr⟩) | cases he
  | binOp op t a b yt => simp only [evOp] at *; exact xP he rfl hwr
  | unOp op t a => simp only [evOp] at *; exact xP he rfl hwr
  | convert s d a => simp only [evOp] at *; exact qj7 he hr hwr hl (by simp)
  | makeFunc f first caps => simp only [evOp] at *; cases he; exact ⟨H2, rfl, Upd.same hwr⟩
  | makeSlice t l c => simp only [evOp] at *; exact qoX he hwr hl (by simp)
  | slice t a lo hi mx => simp only [evOp] at *; exact xP he (qrf hr) hwr
  | fieldAddr t a f => simp only [evOp] at *; exact xP he rfl hwr
  | field t a f => simp only [evOp] at *; exact xP he rfl hwr
  | indexAddr t a i => simp only [evOp] at *; exact xP he (qj5 hr) hwr
  | index t a i => simp only [evOp] at *; exact xP he rfl hwr
  | extract t i =>
   simp only [evOp] at *
   split at he
   ·exact xP he rfl hwr
   ·cases he
  | call c =>
   obtain ⟨callee, args, argTypes⟩ := c
   cases callee with
   | value f =>
    simp only at *
    obtain ⟨t, ht, he⟩ := qyJ.1 he
    simp only [ht] at hw hr hwr ⊢
    exact qoS he hw hl hr hwr
   | invoke rv nm => simp at hw
   | builtin b =>
    simp only [evOp] at he ⊢
    simp only at hw hr hwr
    generalize args.toList = al at *
    generalize argTypes.toList = tl at *
    split at he
    ·rename_i hb; cases hb; exact xP he (qtT hr) hwr
    ·rename_i hb; cases hb; exact qll he hr hwr hl (by simp) (fun id hi => by simp [hi])
    ·rename_i hb; cases hb; simp at hw
    ·rename_i hb; cases hb; simp at hw
    ·rename_i hb; cases hb; exact xP he rfl hwr
    ·rename_i hb; cases hb; exact xP he rfl hwr
    ·cases he
  | makeMap t rv => simp at hw
  | lookup t a k ok => simp at hw
  | mapUpdate t m k v => simp at hw
  | insert t m k v => simp at hw
  | _ => simp only [evOp] at he; cases he
variable {C C' C1 C2 : qu} {μ μ' μ1 : MMap} {H H' H1 H2 : AH} {w w' w1 : World} {P : Program}
theorem qdM {at_ k : Nat} {r r' : AV} (h : yn (some at_) k r H = some (r', H')) : H'.length = k := by
 unfold yn at h
 split at h
 ·simp only at h
  split at h
  ·rename_i hb
   cases h
   exact qyT hb
  ·cases h
 ·cases h
theorem qg1 {cfg : Cfg} {t : TypeId} {m k v : AV} (h : qc8 cfg t m k v H = some H') : H'.length = H.length := by
 unfold qc8 at h
 split at h
 ·split at h
  ·split at h
   ·split at h
    ·cases h; simp
    ·cases h; simp
    ·cases h
   ·cases h
  ·cases h
 ·cases h
theorem qq1 {cfg : Cfg} {cf : Orac} {frz : Bool} {at_ : Nat} {o : Oper} {x : Operand → AV} {r : AV} (he : vU cfg cf frz (some at_) o x H = some (r, H')) : H'.length = H.length := by
 have core : ∀ {x : Operand → AV} {H : AH}, vU cfg cf false (some at_) o x H = some (r, H') → H'.length = H.length := by
  intro x H he
  cases hw : (yY cfg false at_ o x).wall with
  | false =>
   obtain ⟨H2', e1, e2⟩ := qfd (H2 := H) he hw rfl (fun _ _ => rfl) (fun _ _ => rfl)
   rw [he] at e1
   cases e1
   exact e2.1
  | true =>
   obtain ⟨dst, op, ty, pos, after, guard⟩ := o
   unfold vU at he
   simp only [qza, if_false] at he
   unfold yY at hw
   simp only [qza, if_false] at hw
   cases op with
   | call c =>
    obtain ⟨callee, args, argTypes⟩ := c
    cases callee with
    | value f =>
     simp only at *
     obtain ⟨t, ht, he⟩ := qyJ.1 he
     simp only [ht] at hw
     cases ht1 : t.1 with
     | y id =>
      rw [ht1] at he
      simp only [vr] at he
      obtain ⟨q, _, he⟩ := qyJ.1 he
      exact qdM he
     | f g =>
      rw [ht1] at he hw
      simp only [vr, qaU] at he hw
      cases hm : cfg.mode g with
      | scal => simp [hm] at hw
      | pfrz => simp [hm, FP.none] at hw
      | pown => simp [hm] at hw
      | inpl => simp [hm] at hw
      | inpf => simp [hm] at hw
      | slf => simp [hm] at hw
      | imp =>
       simp only [hm] at he
       obtain ⟨q, _, he⟩ := qyJ.1 he
       exact qdM he
      | ifrz =>
       simp only [hm] at he
       obtain ⟨q, _, he⟩ := qyJ.1 he
       exact qdM he
      | rgn => simp [hm] at hw
      | over =>
       simp only [hm] at he
       split at he
       case h_2 => cases he
       split at he
       case h_2 => cases he
       split at he
       case isFalse => cases he
       split at he
       ·obtain ⟨u, _, he⟩ := qyO.1 he
        cases he; simp
       ·obtain ⟨u, _, he⟩ := qyO.1 he
        cases he; rfl
       ·cases he
    | invoke rv nm => simp only [evOp] at he; cases he
    | builtin b =>
     simp only [evOp] at he
     simp only at hw
     generalize args.toList = al at *
     generalize argTypes.toList = tl at *
     split at he
     ·rename_i hb; cases hb; simp at hw
     ·rename_i hb; cases hb; simp at hw
     ·unfold qfW at he
      split at he
      ·split at he
       ·split at he
        ·split at he
         ·cases he; simp
         ·cases he
        ·cases he
       ·cases he
      ·cases he
     ·obtain ⟨H1, h1, e⟩ := qyO.1 he
      cases e
      unfold qc9 at h1
      split at h1
      ·cases h1; rfl
      ·split at h1
       ·cases h1; simp
       ·cases h1
      ·cases h1; rfl
      ·split at h1
       ·split at h1
        ·cases h1; simp
        ·cases h1
       ·cases h1
      ·cases h1
     ·rename_i hb; cases hb; simp [FP.none] at hw
     ·rename_i hb; cases hb; simp [FP.none] at hw
     ·cases he
   | makeMap t rv =>
    simp only [evOp] at he
    split at he
    ·split at he
     ·rename_i k H1 hnew
      cases he
      unfold aNew at hnew
      split at hnew
      ·rename_i e; cases e
      ·rename_i k' e
       cases e
       split at hnew
       ·cases hnew; simp
       ·cases hnew
     ·cases he
    ·cases he
   | lookup t a k ok =>
    simp only [evOp] at he
    obtain ⟨y, _, e⟩ := qyO.1 he
    cases e; rfl
   | mapUpdate t m k v =>
    simp only [evOp] at he
    obtain ⟨H1, h1, e⟩ := qyO.1 he
    cases e
    exact qg1 h1
   | insert t m k v =>
    simp only [evOp] at he
    obtain ⟨H1, h1, e⟩ := qyO.1 he
    cases e
    exact qg1 h1
   | _ => simp [FP.none] at hw
 cases frz with
 | false => exact core he
 | true =>
  have he' : vU cfg cf false (some at_) o (fun a => (x a).frz (o.op.operands.toList.flatMap fun a => (x a).msIds) H) (q6 (o.op.operands.toList.flatMap fun a => (x a).msIds) H) = some (r, H') := by
   unfold vU at he ⊢
   simpa using he
  rw [core he', qaE]
def z7 (p : Nat → Bool) : Nat → Option Nat
 | 0 => none
 | n + 1 => if p n then some n else z7 p n
theorem zA {p q : Nat → Bool} : ∀ {n : Nat}, (∀ j, j < n → p j = q j) → z7 p n = z7 q n
 | 0, _ => rfl
 | n + 1, h => by rw [z7, z7, h n (Nat.lt_succ_self n), zA fun j hj => h j (Nat.lt_succ_of_lt hj)]
theorem qdA {p : Nat → Bool} : ∀ {n : Nat}, (∀ j, j < n → p j = false) → z7 p n = none
 | 0, _ => rfl
 | n + 1, h => by rw [z7, h n (Nat.lt_succ_self n), if_neg (by simp), qdA fun j hj => h j (Nat.lt_succ_of_lt hj)]
theorem qhe {p : Nat → Bool} {i : Nat} (hi : p i = true) : ∀ {n : Nat}, i < n → (∀ j, j < n → i < j → p j = false) → z7 p n = some i
 | 0, h, _ => by omega
 | n + 1, h, hj => by
  rw [z7]
  by_cases e : i = n
  ·subst e; rw [if_pos hi]
  ·rw [hj n (Nat.lt_succ_self n) (by omega), if_neg (by simp), qhe hi (by omega) fun j h1 h2 => hj j (Nat.lt_succ_of_lt h1) h2]
def binds (o : Oper) (m : Nat) : Prop := ∃ e ∈ o.after.toList, Region.binds .any e = true ∧ e.on = m
theorem qmW (acc : List Nat) : ∀ (l : List Edge) (s i : Nat), (l.foldl (fun s e => if Region.binds .any e then s ||| 2 ^ e.on ||| acc.getD e.on 0 else s) s).testBit i = true →
  s.testBit i = true ∨ ∃ e ∈ l, Region.binds .any e = true ∧ (e.on = i ∨ (acc.getD e.on 0).testBit i = true)
 | [], s, i, h => .inl h
 | e :: l, s, i, h => by
  rw [List.foldl_cons] at h
  rcases qmW acc l _ i h with h | ⟨e', he', hb⟩
  ·split at h
   ·rename_i hb
    rw [Nat.testBit_or, Nat.testBit_or, Bool.or_eq_true, Bool.or_eq_true] at h
    rcases h with (h | h) | h
    ·exact .inl h
    ·rw [Nat.testBit_two_pow] at h
     exact .inr ⟨e, List.mem_cons_self .., hb, .inl (by simpa using h)⟩
    ·exact .inr ⟨e, List.mem_cons_self .., hb, .inr h⟩
   ·exact .inl h
  ·exact .inr ⟨e', List.mem_cons_of_mem _ he', hb⟩
theorem qgY : ∀ (l : List Oper) (acc : List Nat), ∃ t, ancs acc l = acc ++ t ∧ t.length = l.length
 | [], acc => ⟨[], by simp [ancs], rfl⟩
 | o :: l, acc => by
  obtain ⟨t, h1, h2⟩ := qgY l (acc ++ [qdT acc o])
  exact ⟨qdT acc o :: t, by rw [ancs, h1]; simp, by simp [h2]⟩
theorem qne : ∀ (l : List Oper) (acc : List Nat) (j : Nat) (o : Oper), l[j]? = some o → (ancs acc l).getD (acc.length + j) 0 = qdT ((ancs acc l).take (acc.length + j)) o
 | [], acc, j, o, h => by simp at h
 | o' :: l, acc, j, o, h => by
  cases j with
  | zero =>
   simp at h; subst h
   obtain ⟨t, h1, h2⟩ := qgY l (acc ++ [qdT acc o'])
   rw [ancs, h1]
   simp
  | succ j =>
   have := qne l (acc ++ [qdT acc o']) j o (by simpa using h)
   rw [ancs]
   simp only [qy6, qzc, List.length_nil] at this
   rw [show acc.length + (j + 1) = acc.length + (0 + 1) + j by omega]
   exact this
theorem qtS {ops : Array Oper} (hb : yq 0 ops.toList = true) {j i : Nat} {o : Oper} (ho : ops[j]? = some o) (h : ((ancs [] ops.toList).getD j 0).testBit i = true) : ∃ m, binds o m ∧ m < j ∧ (m = i ∨ ((ancs [] ops.toList).getD m 0).testBit i = true) := by
 have hback : ∀ (l : List Oper) (k j : Nat) (o : Oper), yq k l = true → l[j]? = some o → ∀ e ∈ o.after.toList, Region.binds .any e = true → e.on < k + j := by
  intro l
  induction l with
  | nil => intro k j o _ h; simp at h
  | cons o' l ih =>
   intro k j o hb hj e he hbe
   rw [yq, qyK] at hb
   cases j with
   | zero =>
    simp at hj; subst hj
    have := List.all_eq_true.1 hb.1 e he
    rw [hbe] at this
    simpa [Nat.blt_eq] using this
   | succ j =>
    have := ih (k + 1) j o hb.2 (by simpa using hj) e he hbe
    omega
 have ho' : ops.toList[j]? = some o := by rw [Array.getElem?_toList]; exact ho
 have hg := qne ops.toList [] j o ho'
 simp only [List.length_nil, Nat.zero_add] at hg
 rw [hg] at h
 unfold qdT at h
 rcases qmW _ _ _ _ h with h | ⟨e, he, hbe, h⟩
 ·simp at h
 ·have hlt : e.on < j := by have := hback ops.toList 0 j o hb ho' e he hbe; omega
  refine ⟨e.on, ⟨e, he, hbe, rfl⟩, hlt, ?_⟩
  rcases h with h | h
  ·exact .inl h
  ·right
   rw [List.getD_eq_getElem?_getD, List.getElem?_take_of_lt hlt, ← List.getD_eq_getElem?_getD] at h
   exact h
variable {C C' C1 C2 : qu} {μ μ' μ1 : MMap} {H H' H1 H2 : AH} {w w' w1 : World} {P : Program}
def FP.T (a : FP) (id : Nat) : Bool := a.wall || x4 id a.rd || x4 id a.wr
def FP.W (a : FP) (id : Nat) : Bool := a.wall || x4 id a.wr
theorem FP.touches_T {a : FP} {id : Nat} (h : a.T id = true) : a.touches = true := by
 unfold FP.T at h
 unfold FP.touches
 rw [Bool.or_eq_true, Bool.or_eq_true] at h
 rcases h with (h | h) | h
 ·simp [h]
 ·cases hr : a.rd with
  | nil => rw [hr] at h; simp [x4] at h
  | cons x l => simp
 ·cases hr : a.wr with
  | nil => rw [hr] at h; simp [x4] at h
  | cons x l => simp
theorem FP.T_of_W {a : FP} {id : Nat} (h : a.W id = true) : a.T id = true := by
 unfold FP.W at h; unfold FP.T
 rw [Bool.or_eq_true] at h
 rcases h with h | h <;> simp [h]
theorem qdL {a b : FP} (h : a.indep b = true) (id : Nat) : ¬ (a.T id = true ∧ b.W id = true) ∧ ¬ (a.W id = true ∧ b.T id = true) := by
 simp only [FP.indep, qyK, qqp, Bool.not_eq_true', Bool.and_eq_false_iff] at h
 obtain ⟨⟨⟨⟨h1, h2⟩, h3⟩, h4⟩, h5⟩ := h
 constructor
 ·rintro ⟨ha, hb⟩
  have ta := FP.touches_T ha
  have tb := FP.touches_T (FP.T_of_W hb)
  have wa : a.wall = false := h1.resolve_right (by rw [tb]; simp)
  have wb : b.wall = false := h2.resolve_right (by rw [ta]; simp)
  unfold FP.T at ha; unfold FP.W at hb
  rw [wa, Bool.false_or, Bool.or_eq_true, vt, vt] at ha
  rw [wb, Bool.false_or, vt] at hb
  rcases ha with ha | ha
  ·exact h5 id hb ha
  ·exact h4 id hb ha
 ·rintro ⟨ha, hb⟩
  have ta := FP.touches_T (FP.T_of_W ha)
  have tb := FP.touches_T hb
  have wa : a.wall = false := h1.resolve_right (by rw [tb]; simp)
  have wb : b.wall = false := h2.resolve_right (by rw [ta]; simp)
  unfold FP.W at ha; unfold FP.T at hb
  rw [wa, Bool.false_or, vt] at ha
  rw [wb, Bool.false_or, Bool.or_eq_true, vt, vt] at hb
  rcases hb with hb | hb
  ·exact h3 id hb ha
  ·exact h4 id hb ha
theorem qgw {ops : Array Oper} {A : List Nat} {i : Nat} {a : Oper} : ∀ (l : List Oper) (j0 : Nat), qfD ops A i a j0 l = true → ∀ j b, l[j]? = some b → qav a b = true ∧ ((A.getD (j0 + j) 0).testBit i = true ∨ qaw ops a b = true)
 | [], _, _, j, b, h => by simp at h
 | x :: l, j0, hs, j, b, h => by
  rw [qfD, qyK, qyK, Bool.or_eq_true] at hs
  cases j with
  | zero => simp at h; subst h; exact hs.1
  | succ j =>
   have := qgw l (j0 + 1) hs.2 j b (by simpa using h)
   rw [show j0 + (j + 1) = j0 + 1 + j by omega]
   exact this
theorem qgx {ops : Array Oper} {A : List Nat} : ∀ (l : List Oper) (i0 : Nat), qfE ops A i0 l = true → ∀ i j a b, l[i]? = some a → l[j]? = some b → i < j → qav a b = true ∧ ((A.getD (i0 + j) 0).testBit (i0 + i) = true ∨ qaw ops a b = true)
 | [], _, _, i, j, a, b, h, _, _ => by simp at h
 | x :: l, i0, hs, i, j, a, b, hi, hj, hlt => by
  rw [qfE, qyK] at hs
  cases j with
  | zero => omega
  | succ j =>
   cases i with
   | zero =>
    simp at hi; subst hi
    have := qgw l (i0 + 1) hs.1 j b (by simpa using hj)
    rw [show i0 + (j + 1) = i0 + 1 + j by omega]
    exact this
   | succ i =>
    have := qgx l (i0 + 1) hs.2 i j a b (by simpa using hi) (by simpa using hj) (by omega)
    rw [show i0 + (j + 1) = i0 + 1 + j by omega, show i0 + (i + 1) = i0 + 1 + i by omega]
    exact this
theorem qja {A : List Nat} {i : Nat} {a : FP} : ∀ (l : List FP) (j0 : Nat), qjb A i a j0 l = true → ∀ j b, l[j]? = some b → (A.getD (j0 + j) 0).testBit i = true ∨ a.indep b = true
 | [], _, _, j, b, h => by simp at h
 | x :: l, j0, hs, j, b, h => by
  rw [qjb, qyK, Bool.or_eq_true] at hs
  cases j with
  | zero => simp at h; subst h; exact hs.1
  | succ j =>
   have := qja l (j0 + 1) hs.2 j b (by simpa using h)
   rw [show j0 + (j + 1) = j0 + 1 + j by omega]
   exact this
theorem qjc {A : List Nat} : ∀ (l : List FP) (i0 : Nat), qc4 A i0 l = true → ∀ i j a b, l[i]? = some a → l[j]? = some b → i < j → (A.getD (i0 + j) 0).testBit (i0 + i) = true ∨ a.indep b = true
 | [], _, _, i, j, a, b, h, _, _ => by simp at h
 | x :: l, i0, hs, i, j, a, b, hi, hj, hlt => by
  rw [qc4, qyK] at hs
  cases j with
  | zero => omega
  | succ j =>
   cases i with
   | zero =>
    simp at hi; subst hi
    have := qja l (i0 + 1) hs.1 j b (by simpa using hj)
    rw [show i0 + (j + 1) = i0 + 1 + j by omega]
    exact this
   | succ i =>
    have := qjc l (i0 + 1) hs.2 i j a b (by simpa using hi) (by simpa using hj) (by omega)
    rw [show i0 + (j + 1) = i0 + 1 + j by omega, show i0 + (i + 1) = i0 + 1 + i by omega]
    exact this
theorem qiw {t : Tmp} : ∀ {l : List Operand}, Operand.tmp t ∈ l → t ∈ qcN l
 | [], h => by cases h
 | x :: l, h => by
  rcases qzm.1 h with h | h
  ·subst h; simp [qcN]
  ·have := qiw h
   cases x <;> simp [qcN, this]
theorem qve {fr fr2 : List AV} {ops : Array Oper} {o : Oper} (h : ∀ t ∈ zx ops o, fr2[t]? = fr[t]?) : ∀ a ∈ o.op.operands, opd fr2 a = opd fr a := by
 intro a ha
 cases a with
 | tmp t =>
  have : t ∈ zx ops o := by unfold zx; exact qzi.2 (.inl (qiw (Array.mem_toList_iff.2 ha)))
  show fr2.getD t .junk = fr.getD t .junk
  rw [List.getD_eq_getElem?_getD, List.getD_eq_getElem?_getD, h t this]
 | _ => rfl
theorem qnB {fr fr2 : List AV} {ops : Array Oper} {o : Oper} (h : ∀ t ∈ zx ops o, fr2[t]? = fr[t]?) : yu ops fr2 o = yu ops fr o := by
 unfold yu
 split
 ·rfl
 ·rename_i j want hg
  split
  ·rename_i d hd
   have : d ∈ zx ops o := by unfold zx; rw [hg]; simp [hd]
   rw [h d this]
  ·rfl
structure DStep (cfg : Cfg) (cf : Orac) (ops : Array Oper) (frz : Bool) (o : Oper) (fr fr' : List AV) (H H' : AH) (v : AV) (b : Bool) (at_ : Nat) (fp : FP) : Prop where
 wanted : yu ops fr o = some b
 next : fr' = put fr o.dst v
 yes : b = true → vU cfg cf frz (some at_) o (opd fr) H = some (v, H') ∧ fp = yY cfg frz at_ o (opd fr)
 no : b = false → v = .tup [] ∧ H' = H ∧ fp = FP.none
theorem qi9 {cfg : Cfg} {cf : Orac} {f rid : Nat} {ops : Array Oper} : ∀ (rest : List Oper) (k at_ : Nat) {fr fr' : List AV} {H H' : AH} {fps : List FP}, yZ cfg cf f rid ops k at_ rest fr H = some (fps, fr', H') →
  ∃ (F : Nat → List AV) (G : Nat → AH) (V : Nat → AV) (B : Nat → Bool) (A : Nat → Nat) (Φ : Nat → FP), F 0 = fr ∧ G 0 = H ∧ F rest.length = fr' ∧ G rest.length = H' ∧ (∀ i, i < rest.length → fps[i]? = some (Φ i)) ∧
   ∀ i o, rest[i]? = some o → DStep cfg cf ops (cfg.frz f rid (k + i)) o (F i) (F (i + 1)) (G i) (G (i + 1)) (V i) (B i) (A i) (Φ i)
 | [], k, at_, fr, fr', H, H', fps, he => by
  simp only [yZ] at he
  cases he
  exact ⟨fun _ => fr, fun _ => H, fun _ => .junk, fun _ => true, fun _ => 0, fun _ => FP.none, rfl, rfl, rfl, rfl, fun i h => by simp at h, fun i o h => by simp at h⟩
 | o :: rest, k, at_, fr, fr', H, H', fps, he => by
  simp only [yZ] at he
  obtain ⟨b, hb, he⟩ := qyJ.1 he
  have glue : ∀ {v : AV} {H1 : AH} {fp : FP} {fps1 : List FP}, DStep cfg cf ops (cfg.frz f rid k) o fr (put fr o.dst v) H H1 v b at_ fp →
    yZ cfg cf f rid ops (k + 1) (if qfN cfg o then at_ + 1 else at_) rest (put fr o.dst v) H1 = some (fps1, fr', H') → fps = fp :: fps1 →
    ∃ (F : Nat → List AV) (G : Nat → AH) (V : Nat → AV) (B : Nat → Bool) (A : Nat → Nat) (Φ : Nat → FP), F 0 = fr ∧ G 0 = H ∧ F (o :: rest).length = fr' ∧ G (o :: rest).length = H' ∧ (∀ i, i < (o :: rest).length → fps[i]? = some (Φ i)) ∧
     ∀ i o', (o :: rest)[i]? = some o' → DStep cfg cf ops (cfg.frz f rid (k + i)) o' (F i) (F (i + 1)) (G i) (G (i + 1)) (V i) (B i) (A i) (Φ i) := by
   intro v H1 fp fps1 hs hd hfp
   obtain ⟨F, G, V, B, A, Φ, e1, e2, e3, e4, e5, e6⟩ := qi9 rest (k + 1) _ hd
   refine ⟨fun i => match i with | 0 => fr | i + 1 => F i, fun i => match i with | 0 => H | i + 1 => G i, fun i => match i with | 0 => v | i + 1 => V i, fun i => match i with | 0 => b | i + 1 => B i,
    fun i => match i with | 0 => at_ | i + 1 => A i, fun i => match i with | 0 => fp | i + 1 => Φ i, rfl, rfl, e3, e4, fun i hi => ?_, fun i o' ho => ?_⟩
   ·rw [hfp]
    cases i with
    | zero => rfl
    | succ i => exact e5 i (by simpa using hi)
   ·cases i with
    | zero =>
     simp at ho; subst ho
     show DStep cfg cf ops (cfg.frz f rid (k + 0)) o fr (F 0) H (G 0) v b at_ fp
     rw [e1, e2]; exact hs
    | succ i =>
     have := e6 i o' (by simpa using ho)
     rw [show k + (i + 1) = k + 1 + i by omega]
     exact this
  split at he
  ·rename_i hbt
   obtain ⟨q, hq, he⟩ := qyJ.1 he
   obtain ⟨p, hp, e⟩ := qyO.1 he
   obtain ⟨fps1, fr1, H1⟩ := p
   cases e
   exact glue ⟨hb, rfl, fun _ => ⟨hq, rfl⟩, fun h => by rw [h] at hbt; simp at hbt⟩ hp rfl
  ·rename_i hbt
   obtain ⟨p, hp, e⟩ := qyO.1 he
   obtain ⟨fps1, fr1, H1⟩ := p
   cases e
   exact glue ⟨hb, rfl, fun h => absurd h hbt, fun _ => ⟨rfl, rfl, rfl⟩⟩ hp rfl
theorem DStep.again {cfg : Cfg} {cf : Orac} {ops : Array Oper} {frz : Bool} {o : Oper} {fr fr' : List AV} {v : AV} {at_ : Nat} {fp : FP} (h : DStep cfg cf ops frz o fr fr' H H' v true at_ fp) {fr2 : List AV}
  (hu : ∀ t ∈ zx ops o, fr2[t]? = fr[t]?) (hl : H2.length = H.length) (ht : ∀ id, fp.T id = true → H2[id]? = H[id]?) :
  ∃ H2', vU cfg cf frz (some at_) o (opd fr2) H2 = some (v, H2') ∧ H2'.length = H2.length ∧ ∀ id, H2'[id]? = if fp.W id = true then H'[id]? else H2[id]? := by
 obtain ⟨he, hfp⟩ := h.yes rfl
 rw [qm1 (qve hu)]
 cases hw : fp.wall with
 | true =>
  have : H2 = H := List.ext_getElem? fun id => ht id (by unfold FP.T; rw [hw]; simp)
  subst this
  exact ⟨H', he, qq1 he, fun id => by unfold FP.W; rw [hw]; simp⟩
 | false =>
  rw [hfp] at hw
  obtain ⟨H2', e1, e2, e3⟩ := qfd (H2 := H2) he hw hl (fun id hi => ht id (by unfold FP.T; rw [hfp, Bool.or_eq_true, Bool.or_eq_true, vt, vt]; exact .inl (.inr hi)))
   (fun id hi => ht id (by unfold FP.T; rw [hfp, Bool.or_eq_true, Bool.or_eq_true, vt, vt]; exact .inr hi))
  refine ⟨H2', e1, e2, fun id => ?_⟩
  rw [e3 id]
  unfold FP.W
  rw [hfp, hw, Bool.false_or]
  by_cases hi : id ∈ (yY cfg frz at_ o (opd fr)).wr
  ·rw [if_pos hi, if_pos (vt.2 hi)]
  ·rw [if_neg hi, if_neg (fun h => hi (vt.1 h))]
variable {C C' C1 C2 : qu} {μ μ' μ1 : MMap} {H H' H1 H2 : AH} {w w' w1 : World} {P : Program}
def ym (ops : Array Oper) (t j : Nat) : Bool :=
 match ops[j]? with
 | some o => (match o.dst with | some d => qyW d t | none => false)
 | none => false
theorem qe5 {ops : Array Oper} {t j : Nat} {o : Oper} (h : ops[j]? = some o) : ym ops t j = true ↔ o.dst = some t := by
 unfold ym
 rw [h]
 simp only
 cases hd : o.dst with
 | none => simp
 | some d =>
  simp only [Option.some.injEq]
  constructor
  ·intro h; exact qyT h
  ·intro h; rw [h]; exact qy1 _
theorem qbo {ops : Array Oper} {t j : Nat} (h : ym ops t j = true) : ∃ o, ops[j]? = some o ∧ o.dst = some t := by
 cases ho : ops[j]? with
 | none => unfold ym at h; rw [ho] at h; cases h
 | some o => exact ⟨o, rfl, (qe5 ho).1 h⟩
structure FrIs (ops : Array Oper) (V : Nat → AV) (F0 : List AV) (D : Nat → Bool) (fr : List AV) : Prop where
 len : fr.length = F0.length
 get : ∀ t, t < F0.length → fr[t]? = match z7 (fun j => D j && ym ops t j) ops.size with | some j => some (V j) | none => F0[t]?
structure HIs (Φ : Nat → FP) (G : Nat → AH) (N : Nat) (D : Nat → Bool) (H : AH) : Prop where
 len : H.length = (G 0).length
 get : ∀ id, H[id]? = match z7 (fun j => D j && (Φ j).W id) N with | some j => (G (j + 1))[id]? | none => (G 0)[id]?
def addD (D : Nat → Bool) (i : Nat) : Nat → Bool := fun j => D j || qyW j i
def preD (i : Nat) : Nat → Bool := fun j => Nat.blt j i
theorem qfi (D : Nat → Bool) (i : Nat) : addD D i i = true := by simp [addD]
theorem qc7 {D : Nat → Bool} {i j : Nat} (h : j ≠ i) : addD D i j = D j := by
 unfold addD
 have : qyW j i = false := by rw [← Bool.not_eq_true]; intro h'; exact h (qyT h')
 rw [this, Bool.or_false]
theorem qrO (i : Nat) : preD (i + 1) = addD (preD i) i := by
 funext j
 unfold preD addD
 rw [Bool.eq_iff_iff, Bool.or_eq_true, Nat.blt_eq, Nat.blt_eq]
 constructor
 ·intro h
  rcases Nat.lt_or_ge j i with h' | h'
  ·exact .inl h'
  ·have : j = i := by omega
   subst this; exact .inr (qy1 _)
 ·rintro (h | h)
  ·omega
  ·have := qyT h; omega
theorem FrIs.add {ops : Array Oper} {V : Nat → AV} {F0 : List AV} {D : Nat → Bool} {fr : List AV} (h : FrIs ops V F0 D fr) {i : Nat} {o : Oper} (ho : ops[i]? = some o) (hd : ∀ t j, j ≠ i → ym ops t j = true → ym ops t i = true → False) :
  FrIs ops V F0 (addD D i) (put fr o.dst (V i)) := by
 have hi : i < ops.size := (Array.getElem?_eq_some_iff.1 ho).1
 refine ⟨by rw [← h.len]; cases o.dst <;> simp [put], fun t ht => ?_⟩
 by_cases e : ym ops t i = true
 ·have hdst := (qe5 ho).1 e
  rw [qhe (i := i) (by rw [qfi, e]; rfl) hi (fun j hj hlt => by
   have : ym ops t j = false := by rw [← Bool.not_eq_true]; exact fun h' => hd t j (by omega) h' e
   rw [this, Bool.and_false])]
  rw [hdst]
  simp only [put]
  rw [qyX, if_pos rfl, if_pos (by rw [h.len]; exact ht)]
 ·have hne : o.dst ≠ some t := fun h' => e ((qe5 ho).2 h')
  rw [zA (q := fun j => D j && ym ops t j) (fun j hj => by
   by_cases hji : j = i
   ·subst hji
    have : ym ops t j = false := by simpa using e
    rw [this, Bool.and_false, Bool.and_false]
   ·rw [qc7 hji])]
  rw [← h.get t ht]
  cases hdst : o.dst with
  | none => rfl
  | some d =>
   simp only [put]
   rw [qyX, if_neg]
   intro e'; subst e'; exact hne hdst
theorem HIs.add {Φ : Nat → FP} {G : Nat → AH} {N : Nat} {D : Nat → Bool} (h : HIs Φ G N D H) {i : Nat} (hi : i < N) (hd : ∀ j, D j = true → i < j → ∀ id, ¬ ((Φ i).W id = true ∧ (Φ j).W id = true)) (hl : H'.length = H.length)
  (hg : ∀ id, H'[id]? = if (Φ i).W id = true then (G (i + 1))[id]? else H[id]?) : HIs Φ G N (addD D i) H' := by
 refine ⟨by rw [hl, h.len], fun id => ?_⟩
 rw [hg id]
 by_cases e : (Φ i).W id = true
 ·rw [if_pos e]
  rw [qhe (i := i) (by rw [qfi, e]; rfl) hi (fun j hj hlt => by
   rw [qc7 (by omega)]
   cases hD : D j with
   | false => rfl
   | true =>
    have := hd j hD hlt id
    rw [qzg, ← Bool.not_eq_true]
    exact fun h' => this ⟨e, h'⟩)]
 ·rw [if_neg e]
  rw [zA (q := fun j => D j && (Φ j).W id) (fun j hj => by
   by_cases hji : j = i
   ·subst hji
    have : (Φ j).W id = false := by simpa using e
    rw [this, Bool.and_false, Bool.and_false]
   ·rw [qc7 hji])]
  exact h.get id
theorem FrIs.congr {ops : Array Oper} {V : Nat → AV} {F0 : List AV} {D D' : Nat → Bool} {fr fr' : List AV} (h : FrIs ops V F0 D fr) (h' : FrIs ops V F0 D' fr') {t : Nat} (hD : ∀ j, ym ops t j = true → D j = D' j) : fr[t]? = fr'[t]? := by
 rcases Nat.lt_or_ge t F0.length with ht | ht
 ·rw [h.get t ht, h'.get t ht, zA (p := fun j => D j && ym ops t j) (q := fun j => D' j && ym ops t j) (fun j _ => by
   cases hd : ym ops t j with
   | false => rw [Bool.and_false, Bool.and_false]
   | true => rw [hD j hd])]
 ·rw [List.getElem?_eq_none (by rw [h.len]; exact ht), List.getElem?_eq_none (by rw [h'.len]; exact ht)]
theorem HIs.congr {Φ : Nat → FP} {G : Nat → AH} {N : Nat} {D D' : Nat → Bool} (h : HIs Φ G N D H) (h' : HIs Φ G N D' H') {id : Nat} (hD : ∀ j, j < N → (Φ j).W id = true → D j = D' j) : H[id]? = H'[id]? := by
 rw [h.get id, h'.get id, zA (p := fun j => D j && (Φ j).W id) (q := fun j => D' j && (Φ j).W id) (fun j hj => by
  cases hd : (Φ j).W id with
  | false => rw [Bool.and_false, Bool.and_false]
  | true => rw [hD j hj hd])]
def zl (L : List Nat) (D : Nat → Bool) : Prop := ∀ j, D j = true → ∀ i, (L.getD j 0).testBit i = true → D i = true
section
variable {cfg : Cfg} {cf : Orac} {ops : Array Oper} {frz : Nat → Bool} {F : Nat → List AV} {G : Nat → AH} {V : Nat → AV} {B : Nat → Bool} {A : Nat → Nat} {Φ : Nat → FP}
structure DrawOk (cfg : Cfg) (cf : Orac) (ops : Array Oper) (frz : Nat → Bool) (F : Nat → List AV) (G : Nat → AH) (V : Nat → AV) (B : Nat → Bool) (A : Nat → Nat) (Φ : Nat → FP) : Prop where
 back : yq 0 ops.toList = true
 stat : ∀ i j a b, ops[i]? = some a → ops[j]? = some b → i < j → qav a b = true ∧ (((ancs [] ops.toList).getD j 0).testBit i = true ∨ qaw ops a b = true)
 dyn : ∀ i j, j < ops.size → i < j → ((ancs [] ops.toList).getD j 0).testBit i = true ∨ (Φ i).indep (Φ j) = true
 run : ∀ i o, ops[i]? = some o → DStep cfg cf ops (frz i) o (F i) (F (i + 1)) (G i) (G (i + 1)) (V i) (B i) (A i) (Φ i)
theorem DrawOk.dst (h : DrawOk cfg cf ops frz F G V B A Φ) {t i j : Nat} (hne : j ≠ i) (hj : ym ops t j = true) (hi : ym ops t i = true) : False := by
 obtain ⟨a, ha, hda⟩ := qbo hi
 obtain ⟨b, hb, hdb⟩ := qbo hj
 rcases Nat.lt_or_ge i j with hlt | hge
 ·have := (h.stat i j a b ha hb hlt).1
  unfold qav at this
  rw [hda, hdb] at this
  simp at this
 ·have := (h.stat j i b a hb ha (by omega)).1
  unfold qav at this
  rw [hda, hdb] at this
  simp at this
theorem DrawOk.pre (h : DrawOk cfg cf ops frz F G V B A Φ) : ∀ i, i ≤ ops.size → FrIs ops V (F 0) (preD i) (F i) ∧ HIs Φ G ops.size (preD i) (G i)
 | 0, _ => ⟨⟨rfl, fun t ht => by rw [qdA (fun j _ => by simp [preD])]⟩, ⟨rfl, fun id => by rw [qdA (fun j _ => by simp [preD])]⟩⟩
 | i + 1, hi => by
  obtain ⟨h1, h2⟩ := h.pre i (by omega)
  have hlt : i < ops.size := by omega
  have ho := Array.getElem?_eq_getElem hlt
  have hs := h.run i _ ho
  rw [qrO]
  refine ⟨by rw [hs.next]; exact h1.add ho fun t j hne hj hi => h.dst hne hj hi, ?_⟩
  have key : (G (i + 1)).length = (G i).length ∧ ∀ id, (G (i + 1))[id]? = if (Φ i).W id = true then (G (i + 1))[id]? else (G i)[id]? := by
   cases hb : B i with
   | true =>
    rw [hb] at hs
    obtain ⟨H2', e1, e2, e3⟩ := hs.again (fr2 := F i) (H2 := G i) (fun _ _ => rfl) rfl (fun _ _ => rfl)
    rw [(hs.yes rfl).1] at e1
    cases e1
    exact ⟨e2, e3⟩
   | false =>
    obtain ⟨_, e1, e2⟩ := hs.no hb
    exact ⟨by rw [e1], fun id => by rw [e1, e2]; simp [FP.W, FP.none, x4]⟩
  exact h2.add hlt (fun j hj hij => by simp [preD, Nat.blt_eq] at hj; omega) key.1 key.2
theorem DrawOk.ready (h : DrawOk cfg cf ops frz F G V B A Φ) {D : Nat → Bool} {fr : List AV} (hf : FrIs ops V (F 0) D fr) (hH : HIs Φ G ops.size D H) (hc : zl (ancs [] ops.toList) D) {i : Nat} {o : Oper} (ho : ops[i]? = some o) (hi : D i = false)
  (hanc : ∀ m, ((ancs [] ops.toList).getD i 0).testBit m = true → D m = true) (hDN : ∀ j, D j = true → j < ops.size) :
  yu ops fr o = some (B i) ∧ (B i = true → ∃ H', vU cfg cf (frz i) (some (A i)) o (opd fr) H = some (V i, H') ∧ HIs Φ G ops.size (addD D i) H') ∧ (B i = false → V i = .tup [] ∧ HIs Φ G ops.size (addD D i) H) ∧
   FrIs ops V (F 0) (addD D i) (put fr o.dst (V i)) := by
 have hlt : i < ops.size := (Array.getElem?_eq_some_iff.1 ho).1
 obtain ⟨p1, p2⟩ := h.pre i (by omega)
 have hs := h.run i o ho
 have hslots : ∀ t ∈ zx ops o, fr[t]? = (F i)[t]? := by
  intro t ht
  refine hf.congr p1 fun j hj => ?_
  obtain ⟨b, hb, hdb⟩ := qbo hj
  rcases Nat.lt_trichotomy j i with hji | hji | hji
  ·have : preD i j = true := by simp [preD, Nat.blt_eq, hji]
   rw [this]
   rcases (h.stat j i b o hb ho hji).2 with ha | ha
   ·exact hanc j ha
   ·unfold qaw at ha
    rw [hdb, qyK] at ha
    have := ha.1
    simp only [Bool.not_eq_true', ← Bool.not_eq_true, vt] at this
    exact absurd ht this
  ·subst hji; rw [hi]; symm; rw [← Bool.not_eq_true]; simp [preD, Nat.blt_eq]
  ·have : preD i j = false := by rw [← Bool.not_eq_true]; simp [preD, Nat.blt_eq]; omega
   rw [this]
   rcases (h.stat i j o b ho hb hji).2 with ha | ha
   ·rw [← Bool.not_eq_true]; intro hD; rw [hc j hD i ha] at hi; cases hi
   ·unfold qaw at ha
    rw [hdb, qyK] at ha
    have := ha.2
    simp only [Bool.not_eq_true', ← Bool.not_eq_true, vt] at this
    exact absurd ht this
 have hblks : ∀ id, (Φ i).T id = true → H[id]? = (G i)[id]? := by
  intro id ht
  refine hH.congr p2 fun j hjN hj => ?_
  rcases Nat.lt_trichotomy j i with hji | hji | hji
  ·have : preD i j = true := by simp [preD, Nat.blt_eq, hji]
   rw [this]
   rcases h.dyn j i hlt hji with ha | ha
   ·exact hanc j ha
   ·exact absurd ⟨hj, ht⟩ (qdL ha id).2
  ·subst hji; rw [hi]; symm; rw [← Bool.not_eq_true]; simp [preD, Nat.blt_eq]
  ·have : preD i j = false := by rw [← Bool.not_eq_true]; simp [preD, Nat.blt_eq]; omega
   rw [this]
   rcases h.dyn i j hjN hji with ha | ha
   ·rw [← Bool.not_eq_true]; intro hD; rw [hc j hD i ha] at hi; cases hi
   ·exact absurd ⟨ht, hj⟩ (qdL ha id).1
 have hww : ∀ j, D j = true → i < j → ∀ id, ¬ ((Φ i).W id = true ∧ (Φ j).W id = true) := by
  intro j hD hij id hWW
  have hjN := hDN j hD
  rcases h.dyn i j hjN hij with ha | ha
  ·rw [hc j hD i ha] at hi; cases hi
  ·exact (qdL ha id).2 ⟨hWW.1, FP.T_of_W hWW.2⟩
 refine ⟨by rw [qnB hslots]; exact hs.wanted, fun hb => ?_, fun hb => ?_, hf.add ho fun t j hne hj hi => h.dst hne hj hi⟩
 ·rw [hb] at hs
  have hlen : H.length = (G i).length := by rw [hH.len, p2.len]
  obtain ⟨H', e1, e2, e3⟩ := hs.again hslots hlen hblks
  exact ⟨H', e1, hH.add hlt hww e2 e3⟩
 ·obtain ⟨e0, _, e2⟩ := hs.no hb
  exact ⟨e0, hH.add hlt hww rfl (fun id => by rw [e2]; simp [FP.W, FP.none, x4])⟩
end
theorem zl.add {ops : Array Oper} (hb : yq 0 ops.toList = true) {D : Nat → Bool} (h : zl (ancs [] ops.toList) D) {i : Nat} {o : Oper} (ho : ops[i]? = some o) (hr : ∀ m, binds o m → D m = true) :
  (∀ m, ((ancs [] ops.toList).getD i 0).testBit m = true → D m = true) ∧ zl (ancs [] ops.toList) (addD D i) := by
 have hanc : ∀ m, ((ancs [] ops.toList).getD i 0).testBit m = true → D m = true := by
  intro m hm
  obtain ⟨k, h1, _, h3⟩ := qtS hb ho hm
  rcases h3 with h3 | h3
  ·subst h3; exact hr k h1
  ·exact h k (hr k h1) m h3
 refine ⟨hanc, fun j hj m hm => ?_⟩
 by_cases e : j = i
 ·subst e
  have := hanc m hm
  unfold addD; rw [this]; rfl
 ·rw [qc7 e] at hj
  have := h j hj m hm
  unfold addD; rw [this]; rfl
variable {C C' C1 C2 : qu} {μ μ' μ1 : MMap} {H H' H1 H2 : AH} {w w' w1 : World} {P : Program}
theorem qkF {p q : Nat → Bool} (h : ∀ j, q j = true → p j = true) {i : Nat} (hp : p i = true) (hq : q i = false) : ∀ {l : List Nat}, i ∈ l → l.countP q < l.countP p
 | [], hi => by cases hi
 | x :: l, hi => by
  have hle : l.countP q ≤ l.countP p := List.countP_mono_left fun j _ hj => h j hj
  rw [List.countP_cons, List.countP_cons]
  by_cases e : i = x
  ·subst e
   rw [hp, hq]; simp; omega
  ·have := qkF h hp hq ((qzm.1 hi).resolve_left e)
   cases hqx : q x with
   | true => rw [h x hqx]; simp; omega
   | false =>
    cases p x <;> simp <;> omega
theorem qtC (listed : Array Bool) {i : Nat} (hi : i < listed.size) : (fun j => (listed.setIfInBounds i true).getD j false) = addD (fun j => listed.getD j false) i := by
 funext j
 rw [Array.getD_eq_getD_getElem?, Array.getElem?_setIfInBounds]
 by_cases e : i = j
 ·subst e
  rw [if_pos rfl, if_pos hi, qfi]; rfl
 ·rw [if_neg e, qc7 (fun h => e h.symm), Array.getD_eq_getD_getElem?]
theorem qfS {listed : Array Bool} {j : Nat} (hj : j < listed.size) : listed.getD j true = listed.getD j false := by
 rw [Array.getD_eq_getD_getElem?, Array.getD_eq_getD_getElem?, Array.getElem?_eq_getElem hj]; rfl
def unl (N : Nat) (listed : Array Bool) : Nat := (qzn N).countP fun j => !listed.getD j true
theorem qrC {ops : Array Oper} (hb : yq 0 ops.toList = true) {listed : Array Bool} (hs : listed.size = ops.size) (hr : Region.ready .any ops listed = []) : ∀ j, j < ops.size → listed.getD j false = true := by
 intro j
 induction j using Nat.strongRecOn with
 | _ j ih =>
  intro hj
  rw [← Bool.not_eq_false]
  intro hf
  have hmem : j ∈ Region.ready .any ops listed := by
   refine mem_ready.2 ⟨by rw [qfS (by omega)]; exact hf, ops[j], Array.getElem?_eq_getElem hj, fun e he hbe => ?_⟩
   have hlt : e.on < j := by
    have hback : ∀ (l : List Oper) (k j : Nat) (o : Oper), yq k l = true → l[j]? = some o → ∀ e ∈ o.after.toList, Region.binds .any e = true → e.on < k + j := by
     intro l
     induction l with
     | nil => intro k j o _ h; simp at h
     | cons o' l ih =>
      intro k j o hb hj e he hbe
      rw [yq, qyK] at hb
      cases j with
      | zero =>
       simp at hj; subst hj
       have := List.all_eq_true.1 hb.1 e he
       rw [hbe] at this
       simpa [Nat.blt_eq] using this
      | succ j =>
       have := ih (k + 1) j o hb.2 (by simpa using hj) e he hbe
       omega
    have := hback ops.toList 0 j ops[j] hb (by rw [Array.getElem?_toList]; exact Array.getElem?_eq_getElem hj) e (Array.mem_toList_iff.2 he) hbe
    omega
   exact ih e.on hlt (by omega)
  rw [hr] at hmem
  cases hmem
theorem qtJ [Lent] {cfg : Cfg} (hc : CfgTy cfg) {cf : Orac} (hO : qaY cfg cf) {Fn : Fence} (hF : zv Fn) {ops : Array Oper} {frz : Nat → Bool} {F : Nat → List AV} {G : Nat → AH} {V : Nat → AV} {B : Nat → Bool} {A : Nat → Nat} {Φ : Nat → FP}
  (hd : DrawOk cfg cf ops frz F G V B A Φ) {Q : Exit → Act → World → Prop} {C0 : qu} {μ0 : MMap} {H0 : AH} {w0 : World} {k : Nat} {ds : List Deferred}
  (hq : ∀ C μ w a, qF C μ (F ops.size) a.tmps → Wld C μ (G ops.size) w → Ext k C0 μ0 H0 w0 C μ (G ops.size) w → a.defers = ds → Q .normal a w) :
  ∀ (fuel : Nat) (listed : Array Bool) {fr : List AV} {H : AH} {C : qu} {μ : MMap} {w : World} {a : Act}, listed.size = ops.size → unl ops.size listed ≤ fuel → FrIs ops V (F 0) (fun j => listed.getD j false) fr →
   HIs Φ G ops.size (fun j => listed.getD j false) H → zl (ancs [] ops.toList) (fun j => listed.getD j false) → qF C μ fr a.tmps → Wld C μ H w → Ext k C0 μ0 H0 w0 C μ H w → a.defers = ds →
   wpAnyIn Fn 0 cfg.P .any ops Q fuel listed a w := by
 have done : ∀ {listed : Array Bool} {fr : List AV} {H : AH} {C : qu} {μ : MMap} {w : World} {a : Act}, (∀ j, j < ops.size → listed.getD j false = true) → FrIs ops V (F 0) (fun j => listed.getD j false) fr →
   HIs Φ G ops.size (fun j => listed.getD j false) H → qF C μ fr a.tmps → Wld C μ H w → Ext k C0 μ0 H0 w0 C μ H w → a.defers = ds → Q .normal a w := by
  intro listed fr H C μ w a hall hfi hhi hfr hw hx hds
  obtain ⟨p1, p2⟩ := hd.pre ops.size (qyN _)
  have e1 : fr = F ops.size := List.ext_getElem? fun t => hfi.congr p1 fun j hj => by
   obtain ⟨o, ho, _⟩ := qbo hj
   have hlt := (Array.getElem?_eq_some_iff.1 ho).1
   rw [hall j hlt]
   simp [preD, Nat.blt_eq, hlt]
  have e2 : H = G ops.size := List.ext_getElem? fun id => hhi.congr p2 fun j hj _ => by
   rw [hall j hj]
   simp [preD, Nat.blt_eq, hj]
  subst e1; subst e2
  exact hq C μ w a hfr hw hx hds
 have step : ∀ (i : Nat) (K : Act → World → Prop) {listed : Array Bool} {fr : List AV} {H : AH} {C : qu} {μ : MMap} {w : World} {a : Act}, i ∈ Region.ready .any ops listed → listed.size = ops.size → FrIs ops V (F 0) (fun j => listed.getD j false) fr →
   HIs Φ G ops.size (fun j => listed.getD j false) H → zl (ancs [] ops.toList) (fun j => listed.getD j false) → qF C μ fr a.tmps → Wld C μ H w → Ext k C0 μ0 H0 w0 C μ H w → a.defers = ds →
   (∀ {fr : List AV} {H : AH} {C : qu} {μ : MMap} {w : World} {a : Act}, FrIs ops V (F 0) (fun j => (listed.setIfInBounds i true).getD j false) fr →
    HIs Φ G ops.size (fun j => (listed.setIfInBounds i true).getD j false) H → zl (ancs [] ops.toList) (fun j => (listed.setIfInBounds i true).getD j false) → qF C μ fr a.tmps → Wld C μ H w → Ext k C0 μ0 H0 w0 C μ H w → a.defers = ds → K a w) →
   wpOpIn Fn 0 cfg.P ops Q i K a w := by
  intro i K listed fr H C μ w a hr hs hfi hhi hac hfr hw hx hds hK
  obtain ⟨hun, o, ho, hed⟩ := mem_ready.1 hr
  have hlt : i < ops.size := (Array.getElem?_eq_some_iff.1 ho).1
  have hDi : listed.getD i false = false := by rw [← qfS (by omega)]; exact hun
  obtain ⟨hanc, hac'⟩ := hac.add hd.back ho (fun m ⟨e, he, hbe, hm⟩ => by subst hm; exact hed e (Array.mem_toList_iff.1 he) hbe)
  obtain ⟨r1, r2, r3, r4⟩ := hd.ready hfi hhi hac ho hDi hanc (fun j hj => by
   rcases Nat.lt_or_ge j ops.size with h | h
   ·exact h
   ·rw [Array.getD_eq_getD_getElem?, Array.getElem?_eq_none (by omega)] at hj; simp at hj)
  have hwan := qes hfr r1
  rw [← qtC listed (by omega)] at hac' r4 r2 r3
  unfold wpOpIn
  simp only [ho]
  cases hb : B i with
  | true =>
   rw [hb] at hwan
   rw [if_pos hwan]
   obtain ⟨H', e1, e2⟩ := r2 hb
   refine qkr hF ((qfc hc hO (qbt hfr) hw e1).mono fun v w1 ⟨C1, μ1, g1, g2, g3⟩ => ?_)
   have hf1 : qF C1 μ1 fr a.tmps := hfr.mono g3.cl (fun id m hm => g3.mu id m (hw.dom id m hm) hm)
   exact hK r4 e2 hac' (qcR hf1 g1) g2 (hx.trans g3 hx.len) (by rw [qbb]; exact hds)
  | false =>
   rw [hb] at hwan
   rw [if_neg (by rw [hwan]; simp)]
   obtain ⟨e0, e2⟩ := r3 hb
   rw [e0] at r4
   exact ⟨fun f _ => hF.fn f, hK r4 e2 hac' (qcR hfr qkm) hw hx (by rw [qbb]; exact hds)⟩
 intro fuel
 induction fuel with
 | zero =>
  intro listed fr H C μ w a hs hu hfi hhi hac hfr hw hx hds
  have hall : ∀ j, j < ops.size → listed.getD j false = true := by
   intro j hj
   have h0 : unl ops.size listed = 0 := by omega
   unfold unl at h0
   rw [List.countP_eq_zero] at h0
   have := h0 j (List.mem_range.2 hj)
   rw [qfS (by omega)] at this
   simpa using this
  refine ⟨?_, done hall hfi hhi hfr hw hx hds⟩
  cases hr : Region.ready .any ops listed with
  | nil => rfl
  | cons i l =>
   have hi : i ∈ Region.ready .any ops listed := by rw [hr]; exact List.mem_cons_self ..
   obtain ⟨hun, o, ho, _⟩ := mem_ready.1 hi
   have hlt : i < ops.size := (Array.getElem?_eq_some_iff.1 ho).1
   have := hall i hlt
   rw [← qfS (by omega), hun] at this
   cases this
 | succ fuel ih =>
  intro listed fr H C μ w a hs hu hfi hhi hac hfr hw hx hds
  refine ⟨fun hr => done (qrC hd.back hs hr) hfi hhi hfr hw hx hds, fun i hi => step i _ hi hs hfi hhi hac hfr hw hx hds ?_⟩
  intro fr' H' C' μ' w' a' f1 f2 f3 f4 f5 f6 f7
  refine ih (listed.setIfInBounds i true) (by simpa using hs) ?_ f1 f2 f3 f4 f5 f6 f7
  obtain ⟨hun, o, ho, _⟩ := mem_ready.1 hi
  have hlt : i < ops.size := (Array.getElem?_eq_some_iff.1 ho).1
  have : unl ops.size (listed.setIfInBounds i true) < unl ops.size listed := by
   unfold unl
   refine qkF (fun j hj => ?_) (i := i) (by rw [hun]; rfl) ?_ (List.mem_range.2 hlt)
   ·rw [Array.getD_eq_getD_getElem?, Array.getElem?_setIfInBounds] at hj
    by_cases e : i = j
    ·subst e; rw [if_pos rfl, if_pos (by omega)] at hj; simp at hj
    ·rw [if_neg e] at hj; rw [Array.getD_eq_getD_getElem?]; exact hj
   ·rw [Array.getD_eq_getD_getElem?, Array.getElem?_setIfInBounds, if_pos rfl, if_pos (by omega)]; rfl
  omega
theorem Wld.places [Lent] (h : Wld C μ H w) (n : Nat) : Wld C μ (H ++ qzf n .res) w where
 cl := h.cl
 lnt := h.lnt
 dom := fun id m hm => by have := h.dom id m hm; simp; omega
 res := fun id hi => by
  rcases Nat.lt_or_ge id H.length with hlt | hge
  ·rw [qyU hlt] at hi; exact h.res id hi
  ·cases hm : μ id with
   | none => rfl
   | some m => have := h.dom id m hm; omega
 live := fun id blk h1 h2 => by
  rcases Nat.lt_or_ge id H.length with hlt | hge
  ·rw [qyU hlt] at h1; exact h.live id blk h1 h2
  ·rw [qyZ hge] at h1
   have := qyR h1
   rw [List.mem_replicate] at this
   rw [this.2] at h2; cases h2
 free := fun id b h1 => by
  rcases Nat.lt_or_ge id H.length with hlt | hge
  ·rw [qyU hlt] at h1; exact h.free id b h1
  ·rw [qyZ hge] at h1
   have := qyR h1
   rw [List.mem_replicate] at this
   rw [this.2]; trivial
 froz := fun id d sz rs h1 => by
  rcases Nat.lt_or_ge id H.length with hlt | hge
  ·rw [qyU hlt] at h1; exact h.froz id d sz rs h1
  ·rw [qyZ hge] at h1
   have := qyR h1
   rw [List.mem_replicate] at this
   cases this.2
 inj := fun i i' b b' m m' h1 h2 h3 h4 => by
  have aux : ∀ (j : Nat) bj, (H ++ qzf n .res)[j]? = some bj → bj.live = true → H[j]? = some bj := by
   intro j bj hj hl
   rcases Nat.lt_or_ge j H.length with hlt | hge
   ·rw [qyU hlt] at hj; exact hj
   ·rw [qyZ hge] at hj
    have := qyR hj
    rw [List.mem_replicate] at this
    rw [this.2] at hl; cases hl
  exact h.inj i i' b b' m m' (aux i b h1 h3) (aux i' b' h2 h4) h3 h4
theorem Live.places {n b : Nat} (h : Live (H ++ qzf n .res) μ b) : Live H μ b := by
 obtain ⟨j, bj, m, h1, h2, h3, h4⟩ := h
 rcases Nat.lt_or_ge j H.length with hlt | hge
 ·rw [qyU hlt] at h1; exact ⟨j, bj, m, h1, h2, h3, h4⟩
 ·rw [qyZ hge] at h1
  have := qyR h1
  rw [List.mem_replicate] at this
  rw [this.2] at h2; cases h2
theorem qq4 [Lent] {cfg : Cfg} (hc : CfgTy cfg) {cf : Orac} (hO : qaY cfg cf) (hm : cfg.P.follows .mixedOrders = true) {Fn : Fence} (hF : zv Fn) {f rid : Nat} {ops : Array Oper} {fr : List AV} {fps : List FP} {fr' : List AV} {a : Act}
  (hst : qdQ ops = true) (he : yZ cfg cf f rid ops 0 H.length ops.toList fr (H ++ qzf (places cfg ops.toList) .res) = some (fps, fr', H')) (hdy : qc4 (ancs [] ops.toList) 0 fps = true)
  (hf : qF C μ fr a.tmps) (hw : Wld C μ H w) {Q : Exit → Act → World → Prop}
  (hq : ∀ C' μ' w' a', qF C' μ' fr' a'.tmps → Wld C' μ' H' w' → Ext H.length C μ H w C' μ' H' w' → a'.defers = a.defers → Q .normal a' w') : (Code.region rid ops true).wpIn Fn 0 cfg.P Q a w := by
 obtain ⟨F, G, V, B, A, Φ, e1, e2, e3, e4, e5, e6⟩ := qi9 ops.toList 0 H.length he
 simp only [Nat.zero_add, Array.length_toList] at e3 e4 e5 e6
 unfold qdQ at hst
 rw [qyK] at hst
 have hd : DrawOk cfg cf ops (fun k => cfg.frz f rid k) F G V B A Φ := by
  refine ⟨hst.1, fun i j a b hi hj hlt => ?_, fun i j hj hlt => ?_, fun i o ho => e6 i o (by rw [Array.getElem?_toList]; exact ho)⟩
  ·have := qgx ops.toList 0 hst.2 i j a b (by rw [Array.getElem?_toList]; exact hi) (by rw [Array.getElem?_toList]; exact hj) hlt
   simpa using this
  ·have := qjc fps 0 hdy i j _ _ (e5 i (by omega)) (e5 j hj) hlt
   simpa using this
 refine wpIn_region_any hm ?_
 have hlist : (fun j => (Array.replicate ops.size false).getD j false) = preD 0 := by
  funext j
  rw [Array.getD_eq_getD_getElem?]
  have hp : preD 0 j = false := by rw [← Bool.not_eq_true]; simp [preD, Nat.blt_eq]
  rw [hp]
  rcases Nat.lt_or_ge j ops.size with h | h
  ·simp [h]
  ·simp [h]
 obtain ⟨p1, p2⟩ := hd.pre 0 (Nat.zero_le _)
 have hx0 : Ext H.length C μ H w C μ (H ++ qzf (places cfg ops.toList) .res) { w with drawn := w.drawn + 1 } :=
  ⟨rfl, rfl, rfl, qyN _, fun _ _ _ h => h, fun _ _ _ h => h, fun b _ hnl => ⟨rfl, fun hl => hnl hl.places, rfl⟩, by simp⟩
 refine qtJ hc hO hF hd (C0 := C) (μ0 := μ) (H0 := H) (w0 := w) (k := H.length) (ds := a.defers) (fun C' μ' w' a' g1 g2 g3 g4 => ?_) ops.size (Array.replicate ops.size false) (fr := F 0) (H := G 0) (by simp) ?_ (by rw [hlist]; exact p1) (by rw [hlist]; exact p2) (by rw [hlist]; intro j hj; simp [preD] at hj)
  (by rw [e1]; exact hf) (by rw [e2]; exact (hw.places _).heap rfl) (by rw [e2]; exact hx0) rfl
 ·rw [e3] at g1
  rw [e4] at g2 g3
  exact hq C' μ' w' a' g1 g2 g3 g4
 ·unfold unl
  have := List.countP_le_length (p := fun j => !(Array.replicate ops.size false).getD j true) (l := qzn ops.size)
  simpa using this
variable {C C' C1 C2 : qu} {μ μ' μ1 : MMap} {H H' H1 H2 : AH} {w w' w1 : World} {P : Program}
section
variable {F : Fence} {n : Nat} {Q : Exit → Act → World → Prop} {a : Act} {b : Frame} {k : List Item} {cs : List Frame}
theorem yv {c : Code} : step P (lone (b.atR a (.code (.scope c) :: k)) cs w) = .next (lone (b.atR a (.code c :: .inScope c :: k)) cs w) :=
 step_lone_go (by simp [stepG, stepG.exec, Frame.atR])
theorem qjx {c : Code} : step P (lone (b.atR a (.inScope c :: k)) cs w) = .next (lone (b.atR a k) cs w) :=
 step_lone_go (by simp [stepG, stepG.exec, Frame.atR])
theorem qnt {c : Code} (h : c.wpIn F n P Q a w) (hg : ∀ l a w, ¬ Q (.goto l) a w) : (Code.scope c).wpIn F n P Q a w := by
 intro b k cs hro hb hr
 have h0 : (lone (b.atR a (.code (.scope c) :: k)) cs w).fenced P F := fenced_calm hb hr rfl
 obtain ⟨e, a₁, w₁, hq, harr⟩ := h b (.inScope c :: k) cs hro hb hr
 cases e with
 | normal => exact ⟨.normal, a₁, w₁, hq, .head h0 yv (StepsIn.trans harr (.one (fenced_calm hb hr rfl) qjx))⟩
 | exit id =>
  have hx : exitTo id (.inScope c :: k) = exitTo id k := by simp [exitTo]
  exact ⟨.exit id, a₁, w₁, hq, fun k' hk => .head h0 yv (harr.1 k' (by rw [hx]; exact hk)),
   fun hr' hk => let ⟨k₁, h1, h2⟩ := harr.2 hr' (by rw [hx]; exact hk); ⟨k₁, h1, .head h0 yv h2⟩⟩
 | goto l => exact absurd hq (hg l _ _)
 | ret => exact ⟨_, a₁, w₁, hq, .of_steps (.one h0 yv) harr⟩
 | panic ch => exact ⟨_, a₁, w₁, hq, .of_steps (.one h0 yv) harr⟩
 | outgrown => exact ⟨_, a₁, w₁, hq, .of_steps (.one h0 yv) harr⟩
end
def mark (D : Nat) : Deferred := { target := .collected D, args := #[] }
def qbq (B : Nat) (μ : MMap) (H : AH) (w : World) (ds : List Deferred) : Prop :=
 B ≤ w.heap.size ∧ ∃ Ds : List Nat, ds = Ds.map mark ∧ Ds.Nodup ∧ ∀ D ∈ Ds, B ≤ D ∧ w.heap[D]? = some (.deferred (some [])) ∧ ¬ Live H μ D
theorem qbq.ext {B k : Nat} {ds : List Deferred} (h : qbq B μ H w ds) (hx : Ext k C μ H w C' μ' H' w') : qbq B μ' H' w' ds := by
 obtain ⟨hb, Ds, h1, h2, h3⟩ := h
 refine ⟨Nat.le_trans hb hx.size, Ds, h1, h2, fun D hD => ?_⟩
 obtain ⟨e1, e2, e3⟩ := h3 D hD
 obtain ⟨f1, f2, _⟩ := hx.fr D (Array.getElem?_eq_some_iff.1 e2).1 e3
 exact ⟨e1, by rw [f1]; exact e2, f2⟩
def Ex.to : Ex → Exit
 | .normal => .normal
 | .exit id => .exit id
 | .goto l => .goto l
 | .ret => .ret
def qal [Lent] (k B : Nat) (C : qu) (μ : MMap) (H : AH) (w : World) (r : Ex × List AV × AH) : Exit → Act → World → Prop := fun e a' w' =>
 e = r.1.to ∧ ∃ C' μ', qF C' μ' r.2.1 a'.tmps ∧ Wld C' μ' r.2.2 w' ∧ Ext k C μ H w C' μ' r.2.2 w' ∧ qbq B μ' r.2.2 w' a'.defers
theorem qal.mono [Lent] {k k' B : Nat} {r : Ex × List AV × AH} {e : Exit} {a' : Act} {w2 : World} (h : qal k' B C1 μ1 H1 w1 r e a' w2) (hx : Ext k C μ H w C1 μ1 H1 w1) (hk : k ≤ k') : qal k B C μ H w r e a' w2 := by
 obtain ⟨h1, C', μ', h2, h3, h4, h5⟩ := h
 exact ⟨h1, C', μ', h2, h3, hx.trans h4 hk, h5⟩
def RdOk (rd : Option Nat) (F : Fence) (μ : MMap) (k : Nat) : Prop :=
 match rd with
 | none => F = Fence.wide
 | some l => l < k ∧ ∃ m, μ l = some m ∧ F = Fence.wide.inRound m.block
theorem RdOk.wide {rd : Option Nat} {F : Fence} {k : Nat} (h : RdOk rd F μ k) : zv F := by
 cases rd with
 | none => exact .inl h
 | some l => obtain ⟨_, m, _, h⟩ := h; exact .inr ⟨_, h⟩
theorem RdOk.ext {rd : Option Nat} {F : Fence} {k k' : Nat} (h : RdOk rd F μ k) (hm : ∀ id m, id < k → μ id = some m → μ' id = some m) (hk : k ≤ k') : RdOk rd F μ' k' := by
 cases rd with
 | none => exact h
 | some l => obtain ⟨h1, m, h2, h3⟩ := h; exact ⟨by omega, m, hm l m h1 h2, h3⟩
theorem qF.ext [Lent] {k : Nat} {fr : List AV} {t : Array Value} (h : qF C μ fr t) (hw : Wld C μ H w) (hx : Ext k C μ H w C' μ' H' w') (hk : H.length ≤ k) : qF C' μ' fr t :=
 h.mono hx.cl fun id m hm => hx.mu id m (Nat.lt_of_lt_of_le (hw.dom id m hm) hk) hm
theorem qbi : ∀ {ts : List Tmp} {fr : List AV} {k : Nat}, (yX k ts fr).length = fr.length ∧ ∀ (i : Nat) a, (yX k ts fr)[i]? = some a → a = .junk ∨ fr[i]? = some a
 | _, [], _ => by simp [yX]
 | [], x :: fr, k => by
  have ih := qbi (ts := []) (fr := fr) (k := k)
  refine ⟨by simp [yX, ih.1], fun i a h => ?_⟩
  cases i with
  | zero => simp [yX] at h; exact .inl h.symm
  | succ i => simp [yX] at h; simpa using ih.2 i a h
 | t :: ts, x :: fr, k => by
  have ih1 := qbi (ts := ts) (fr := fr) (k := k + 1)
  have ih2 := qbi (ts := t :: ts) (fr := fr) (k := k + 1)
  rw [yX]
  split
  ·refine ⟨by simp [ih1.1], fun i a h => ?_⟩
   cases i with
   | zero => simp at h; subst h; exact .inr rfl
   | succ i => simpa using ih1.2 i a (by simpa using h)
  ·refine ⟨by simp [ih2.1], fun i a h => ?_⟩
   cases i with
   | zero => simp at h; exact .inl h.symm
   | succ i => simpa using ih2.2 i a (by simpa using h)
theorem z4 [Lent] {ts : Option (List Tmp)} {fr : List AV} {t : Array Value} (h : qF C μ fr t) : qF C μ (vT ts fr) t := by
 cases ts with
 | none => exact h
 | some ks =>
  obtain ⟨h1, h2⟩ := qbi (ts := ks) (fr := fr) (k := 0)
  refine ⟨by show (yX 0 ks fr).length = _; rw [h1, h.1], fun i a v e1 e2 => ?_⟩
  rcases h2 i a e1 with rfl | e3
  ·exact .junk v
  ·exact h.2 i a v e3 e2
theorem qsk [Lent] (h : Wld C μ H w) {fr : List AV} {tmps : Array Value} (hf : qF C μ fr tmps) (k : Nat) (hk : k ≤ H.length) : ∃ μ', Wld C μ' (gc k fr H).2 w ∧ qF C μ' (gc k fr H).1 tmps ∧ Ext k C μ H w C μ' (gc k fr H).2 w := by
 obtain ⟨μ', g1, g2, g3, g4, g5⟩ := qmT h hf k hk
 exact ⟨μ', g1, g2, ⟨rfl, rfl, rfl, qyN _, fun _ _ _ h => h, g3, fun b _ hnl => ⟨rfl, fun hl => hnl (g4 b hl), rfl⟩, g5⟩⟩
theorem qF.setA [Lent] {fr : List AV} {tmps : Array Value} (h : qF C μ fr tmps) {i : Nat} {a : AV} (ha : ∀ v, tmps[i]? = some v → Rep C μ a v) : qF C μ (fr.set i a) tmps := by
 refine ⟨by simpa using h.1, fun j x v e1 e2 => ?_⟩
 rw [qyX] at e1
 split at e1
 ·rename_i e
  subst e
  split at e1
  ·cases e1; exact ha v e2
  ·cases e1
 ·exact h.2 j x v e1 e2
theorem Wld.reRow [Lent] (h : Wld C μ H w) {id n : Nat} {d : Bool} {rs rs' : List (List AV)} (hi : H[id]? = some (.rows d n rs)) (hne : rs ≠ []) (hr : ∀ m, μ id = some m → xm C μ w m (.rows d n rs) → xm C μ w m (.rows false n rs')) :
  Wld C μ (H.set id (.rows false n rs')) w ∧ ∀ j, j ≤ H.length → Ext j C μ H w C μ (H.set id (.rows false n rs')) w := by
 obtain ⟨m, hm, h1, h2, h3⟩ := h.liveX hi rfl (by cases rs <;> first | rfl | exact absurd rfl hne)
 exact ⟨h.setBlk hi rfl rfl hm rfl (fun _ _ => rfl) (hr m hm h3) (fun hd => by cases hd), fun j hj => Ext.setBlk h hi rfl hm rfl (fun _ _ => rfl) rfl rfl rfl hj⟩
theorem qoq [Lent] (h : Wld C μ H w) {fr : List AV} {tmps : Array Value} (hf : qF C μ fr tmps) (t sz : Nat) :
  Wld C μ (qdz t sz fr H).2 w ∧ qF C μ (qdz t sz fr H).1 tmps ∧ H.length ≤ (qdz t sz fr H).2.length ∧ ∀ j, j ≤ H.length → Ext j C μ H w C μ (qdz t sz fr H).2 w := by
 have triv : Wld C μ H w ∧ qF C μ fr tmps ∧ H.length ≤ H.length ∧ ∀ j, j ≤ H.length → Ext j C μ H w C μ H w := ⟨h, hf, qyN _, fun j hj => Ext.refl hj⟩
 unfold qdz
 split
 ·rename_i hn
  obtain ⟨n1, n2⟩ := h.newV (nid := none) (blk := .rows true sz []) rfl rfl rfl (fun _ => rfl)
  refine ⟨n1, hf.setA fun v hv => ?_, by simp, n2⟩
  have := hf.2 t _ v hn hv
  cases this
  exact .msN _ _
 ·rename_i id r off hp
  split
  ·rename_i d n rs hi
   split
   ·rename_i row hr
    split
    ·rename_i ho
     have hne : rs ≠ [] := by rintro rfl; simp at hr
     obtain ⟨r1, r2⟩ := h.reRow (rs' := rs.set r (row.set off (.ms H.length 0 0))) hi hne (fun m hm hb => by
      obtain ⟨b1, b2, b3, b4⟩ := hb
      refine ⟨b1, by simpa using b2, fun i row' hi' => ?_, b4⟩
      rw [qyX] at hi'
      split at hi'
      ·rename_i e
       subst e
       split at hi'
       ·cases hi'
        refine ⟨by simpa using (b3 r row hr).1, fun j x hj => ?_⟩
        rw [qyX] at hj
        split at hj
        ·rename_i e2
         subst e2
         split at hj
         ·cases hj
          obtain ⟨_, v, c2, c3⟩ := (b3 r row hr).2 off _ ho
          refine ⟨rfl, v, c2, ?_⟩
          cases c3
          exact .msN _ _
         ·cases hj
        ·exact (b3 r row hr).2 j x hj
       ·cases hi'
      ·exact b3 i row' hi')
     obtain ⟨n1, n2⟩ := r1.newV (nid := none) (blk := .rows true sz []) rfl rfl rfl (fun _ => rfl)
     exact ⟨n1, hf, by simp, fun j hj => (r2 j hj).trans (n2 j (by simpa using hj)) (qyN _)⟩
    ·exact triv
   ·exact triv
  ·exact triv
 ·exact triv
theorem qbh [Lent] : ∀ (ls : List (Tmp × Nat)) {H : AH} {fr : List AV} {tmps : Array Value}, Wld C μ H w → qF C μ fr tmps →
  Wld C μ (vI ls fr H).2 w ∧ qF C μ (vI ls fr H).1 tmps ∧ H.length ≤ (vI ls fr H).2.length ∧ ∀ j, j ≤ H.length → Ext j C μ H w C μ (vI ls fr H).2 w
 | [], H, fr, tmps, h, hf => ⟨h, hf, qyN _, fun j hj => Ext.refl hj⟩
 | p :: l, H, fr, tmps, h, hf => by
  obtain ⟨a1, a2, a3, a4⟩ := qoq h hf p.1 p.2
  obtain ⟨b1, b2, b3, b4⟩ := qbh l a1 a2
  exact ⟨b1, b2, Nat.le_trans a3 b3, fun j hj => (a4 j hj).trans (b4 j (Nat.le_trans hj a3)) (qyN _)⟩
theorem qmQ [Lent] (h : Wld C μ H w) {fr : List AV} {tmps : Array Value} (hf : qF C μ fr tmps) (ts : Option (List Tmp)) (ls : List (Tmp × Nat)) (k : Nat) (hk : k ≤ H.length) :
  ∃ μ', Wld C μ' (qag k ts ls fr H).2 w ∧ qF C μ' (qag k ts ls fr H).1 tmps ∧ Ext k C μ H w C μ' (qag k ts ls fr H).2 w := by
 obtain ⟨a1, a2, a3, a4⟩ := qbh ls h (z4 (ts := ts) hf)
 obtain ⟨μ', g1, g2, g3⟩ := qsk a1 a2 k (Nat.le_trans hk a3)
 exact ⟨μ', g1, g2, (a4 k hk).trans g3 (qyN _)⟩
theorem qaq {α : Type} {g : Nat → Option α} {r : α} (h : lim g = some r) : ∃ n, g n = some r := by
 unfold lim at h
 split at h
 ·rename_i he
  cases h
  exact ⟨_, Classical.choose_spec (Classical.choose_spec he)⟩
 ·cases h
theorem qgK [Lent] {F : Fence} {k B : Nat} {ts : Option (List Tmp)} {ls : List (Tmp × Nat)} {body : Den} {c : Code} {rd : Option Nat} {r : Ex × List AV × AH} {C0 : qu} {μ0 : MMap} {H0 : AH} {w0 : World}
  (hbody : ∀ {fr : List AV} {H : AH} {q : Ex × List AV × AH}, body fr H = some q → ∀ {C : qu} {μ : MMap} {w : World} {a : Act}, k ≤ H.length → RdOk rd F μ k → qF C μ fr a.tmps → Wld C μ H w → qbq B μ H w a.defers → c.wpIn F 0 P (qal k B C μ H w q) a w)
  (hk : k ≤ H0.length) : ∀ (n : Nat) {p : List AV × AH}, zo k ts ls body n p = some r → ∀ {C : qu} {μ : MMap} {w : World} {a : Act}, k ≤ p.2.length → RdOk rd F μ k → qF C μ p.1 a.tmps → Wld C μ p.2 w → qbq B μ p.2 w a.defers →
   Ext k C0 μ0 H0 w0 C μ p.2 w → Code.roundsIn F 0 P c (qal k B C0 μ0 H0 w0 r) n a w
 | 0, p, h => by cases h
 | n + 1, p, h => by
  intro hkl hrd hf hw hm hx
  rw [zo] at h
  obtain ⟨q, hq, h⟩ := qyJ.1 h
  refine wpIn_mono (hbody hq hkl hrd hf hw hm) fun e a' w' hp => ?_
  obtain ⟨he, C', μ'', p1, p2, p3, p4⟩ := hp
  have hx' := hx.trans p3 (qyN _)
  cases hq1 : q.1 with
  | normal =>
   rw [hq1] at he h
   subst he
   obtain ⟨μ', g1, g2, g3⟩ := qmQ p2 p1 ts ls k hx'.len
   exact qgK hbody hk n h g3.len ((hrd.ext p3.mu (qyN _)).ext g3.mu (qyN _)) g2 g1 (p4.ext g3) (hx'.trans g3 (qyN _))
  | exit id =>
   rw [hq1] at he h
   cases h
   subst he
   exact ⟨rfl, C', μ'', p1, p2, hx', p4⟩
  | goto l =>
   rw [hq1] at he h
   cases h
   subst he
   exact ⟨rfl, C', μ'', p1, p2, hx', p4⟩
  | ret =>
   rw [hq1] at he h
   cases h
   subst he
   exact ⟨rfl, C', μ'', p1, p2, hx', p4⟩
variable {C C' C1 C2 : qu} {μ μ' μ1 : MMap} {H H' H1 H2 : AH} {w w' w1 : World} {P : Program}
structure OracOk2 [Lent] (cfg : Cfg) (cf : Orac) : Prop where
 calls : qaY cfg cf
 enters : ∀ h args H r, cf (.f h) args H = some r → cfg.ext h = none → ∀ vs w, (callFunc h vs).run cfg.P w = .ok (.enter h vs) w
theorem qtp [Lent] (h : Wld C μ H w) {f : Nat} {fr : List AV} {assign body : Code} {ps : Array Tmp} {fn : FuncId} {tmps : Array Value} {dblk : Nat} (hf : qF C μ fr tmps) (hs : w.heap.size < w1.heap.size)
  (hold : ∀ b, b < w.heap.size → w1.heap[b]? = w.heap[b]?) {l : Nat} (hl : w.heap.size ≤ l)
  (hnew : w1.heap[l]? = some (.loop { state := .ready, pending := none, fn, tmps, params := ps, assign, body, defers := dblk })) (ho : w1.os = w.os) (ht : w1.tape = w.tape) (hu : w1.output = w.output) :
  Wld C (upd μ H.length (MI.mk4 l 0 0 0)) (H ++ [.loop f fr ps.toList assign body none .ready]) w1 ∧ Ext H.length C μ H w C (upd μ H.length (MI.mk4 l 0 0 0)) (H ++ [.loop f fr ps.toList assign body none .ready]) w1 ∧
   (∀ id m, μ id = some m → upd μ H.length (MI.mk4 l 0 0 0) id = some m) ∧ (∀ b, Live (H ++ [.loop f fr ps.toList assign body none .ready]) (upd μ H.length (MI.mk4 l 0 0 0)) b → Live H μ b ∨ b = l) := by
 have hll : l < w1.heap.size := (Array.getElem?_eq_some_iff.1 hnew).1
 have hw1 : Wld C μ H w1 := h.world (by omega) (fun b hb => hold b hb)
 have hmu : ∀ id m, μ id = some m → upd μ H.length (MI.mk4 l 0 0 0) id = some m := by
  intro id m hm
  have := h.dom id m hm
  unfold upd
  rw [if_neg (by omega)]; exact hm
 obtain ⟨n1, n2, n3, n4, n5⟩ := hw1.new4 (nid := none) (k := H.length) (blk := .loop f fr ps.toList assign body none .ready) (H' := H ++ [.loop f fr ps.toList assign body none .ready]) (B := l) (b0 := 0) (n0 := 0) (z0 := 0) rfl (fun hl' => by have := h.live_lt hl'; omega) hll
  (fun o => by
   cases hc : C l o with
   | none => rfl
   | some v => have := h.block_lt hc; omega) (h.lent_none hl) rfl ⟨_, hnew, rfl, rfl, rfl, rfl, rfl, hf.mono (fun _ _ _ h => h) hmu⟩
 refine ⟨n1, ⟨ho, ht, hu, by omega, fun _ _ _ h => h, fun id m _ hm => hmu id m hm, fun b hb hnl => ⟨hold b hb, fun hl' => ?_, rfl⟩, n3⟩, hmu, n4⟩
 rcases n4 b hl' with h1 | h1
 ·exact hnl h1
 ·omega
theorem qif [Lent] {cfg : Cfg} {cf : Orac} (hO : OracOk2 cfg cf) {F : Fence} {rd : Option Nat} {f B k : Nat} {g : Operand} {ps : Array Tmp} {assign body : Code} {fr : List AV} {r : Ex × List AV × AH} {a : Act}
  (he : qc2 cfg cf f rd k g ps assign body fr H = some r) (hk : k ≤ H.length) (hrd : RdOk rd F μ k) (hf : qF C μ fr a.tmps) (hw : Wld C μ H w) (hm : qbq B μ H w a.defers) :
  (Code.rangeFunc g ps assign body).wpIn F 0 cfg.P (qal k B C μ H w r) a w := by
 have hrd := hrd.ext (fun _ _ _ h => h) hk
 unfold qc2 at he
 split at he
 case isFalse => cases he
 rename_i hrl
 split at he
 case h_2 => cases he
 rename_i h first caps hg
 split at he
 case isTrue => cases he
 rename_i hext
 have hext : cfg.ext h = none := by
  cases hh : cfg.ext h with
  | none => rfl
  | some s => rw [hh] at hext; simp at hext
 obtain ⟨q, hq, he⟩ := qyJ.1 he
 have hgr := qbt hf g
 rw [hg] at hgr
 generalize hgv : a.eval g = gv at hgr
 cases hgr with
 | fn _ _ _ vf vc hl1 hl2 h1 h2 =>
 refine wpIn_rangeFunc fun fn hfn => ?_
 have hwide := hrd.wide
 have hmf : qF C μ (vT (cfg.keepIn f (qq body)) fr) a.tmps := z4 hf
 -- what lies behind the loop
 have core : ∀ (l : Nat) (ms : List Deferred) (w1 : World) (dblk : Nat), w.heap.size < w1.heap.size → (∀ b, b < w.heap.size → w1.heap[b]? = w.heap[b]?) → w.heap.size ≤ l →
   w1.heap[l]? = some (.loop { state := .ready, pending := none, fn, tmps := a.tmps, params := ps, assign, body, defers := dblk }) → w1.os = w.os → w1.tape = w.tape → w1.output = w.output →
   (ms = [] ∨ ∃ D, ms = [mark D] ∧ w.heap.size ≤ D ∧ D ≠ l ∧ w1.heap[D]? = some (.deferred (some []))) →
   CallsIn F (0 - 1) cfg.P h (vf.toArray ++ #[.func (.yield l) #[] #[]] ++ vc.toArray) w1 (rangePost F 0 cfg.P l (qal k B C μ H w r) { a with defers := ms ++ a.defers }) := by
  intro l ms w1 dblk hs hold hl hnew ho ht hu hms
  obtain ⟨g1, g2, g3, g4⟩ := qtp (f := f) hw hmf hs hold hl hnew ho ht hu
  have hargs : qF C (upd μ H.length (MI.mk4 l 0 0 0)) (first ++ [.yld H.length] ++ caps) (vf.toArray ++ #[.func (.yield l) #[] #[]] ++ vc.toArray) := by
   refine ⟨by simp [hl1, hl2], fun i x v e1 e2 => ?_⟩
   rw [← Array.getElem?_toList] at e2
   simp only [Array.toList_append] at e2
   rcases Nat.lt_or_ge i (first.length + 1) with hlt | hge
   ·rw [qyU (by simpa using hlt)] at e1
    rw [qyU (by first | omega | (simp; omega))] at e2
    rcases Nat.lt_or_ge i first.length with hlt' | hge'
    ·rw [qyU hlt'] at e1
     rw [qyU (by first | omega | (simp; omega))] at e2
     exact (h1 i x v e1 (by simpa using e2)).mono (fun _ _ _ h => h) g3
    ·have hi : i = first.length := by omega
     subst hi
     rw [qyZ (qyN _)] at e1
     rw [qyZ (by first | omega | (simp; omega))] at e2
     simp [hl1] at e1 e2
     subst e1; subst e2
     exact .yld H.length (MI.mk4 l 0 0 0) (by unfold upd; rw [if_pos rfl])
   ·rw [qyZ (by simpa using hge)] at e1
    rw [qyZ (by first | omega | (simp; omega))] at e2
    have : i - (vf.toArray.toList ++ #[Value.func (.yield l) #[] #[]].toList).length = i - (first ++ [AV.yld H.length]).length := by simp [hl1]
    rw [this] at e2
    exact (h2 _ x v e1 (by simpa using e2)).mono (fun _ _ _ h => h) g3
  have hcall := hO.calls _ _ _ _ _ hq C _ w1 _ _ hargs g1 rfl
  unfold vD at hcall
  rw [hO.enters _ _ _ _ hq hext] at hcall
  refine hwide.calls (hcall.mono fun e w3 hp => ?_)
  obtain ⟨v, rfl, C3, μ3, p1, p2, p3⟩ := hp
  have hle : H.length < (H ++ [ABlk.loop f (vT (cfg.keepIn f (qq body)) fr) ps.toList assign body none .ready]).length := by simp
  have hm3 : μ3 H.length = some (MI.mk4 l 0 0 0) := p3.mu _ _ hle (by unfold upd; rw [if_pos rfl])
  split at he
  case h_2 => cases he
  rename_i lf lfr lps lassign lbody pend st hlq
  split at he
  case h_1 => cases he
  rename_i hst
  obtain ⟨e2, e3, rc, e4, e5, e6, _⟩ := p2.liveM hlq rfl hm3
  simp only at e4
  have hend := run_endLoop (P := cfg.P) e4 (by rw [e5]; exact hst)
  refine ⟨rc.pending, _, hend, ?_⟩
  -- the world behind it
  have hkill : Wld C3 μ3 (q.2.set H.length .dead) (w3.putObj l (.loop { rc with state := .exhausted })) := by
   refine (p2.kill H.length (by rw [hlq]; simp)).worldG (by simp) (fun b hb hor => ?_)
   refine World.putObj_heap_other fun hbl => ?_
   subst hbl
   rcases hor with hl' | ⟨o, hc'⟩ | ⟨o, hc'⟩
   ·obtain ⟨_, hl''⟩ := hl'.of_kill
    exact hl'' _ hm3 (fun id' b' m' i1 i2 i3 i4 i5 => i4 (p2.inj _ _ _ _ _ _ i1 hlq i2 rfl i3 hm3 _ i5 (.inl rfl))) rfl
   ·exact hc' (e3 o)
   ·exact hc' ((p2.liveH hlq rfl hm3 _ (.inl rfl)).2.2 o)
  have hf3 : qF C3 μ3 (vT (cfg.keepOut f (qq body)) fr) a.tmps := (z4 hf).mono p3.cl (fun id m hm => p3.mu id m (by have := hw.dom id m hm; simp; omega) (g3 id m hm))
  obtain ⟨μ4, k1, k2, k3⟩ := qsk hkill hf3 k (by simp; have := p3.len; simp at this; omega)
  have hx1 : Ext H.length C μ H w C3 μ3 q.2 w3 := g2.trans p3 (by simp)
  have hx : Ext k C μ H w C3 μ4 (gc k (vT (cfg.keepOut f (qq body)) fr) (q.2.set H.length .dead)).2 (w3.putObj l (.loop { rc with state := .exhausted })) := by
   refine ⟨hx1.os, hx1.tape, hx1.output, by have := hx1.size; simpa using this, hx1.cl, fun id m hid hm => k3.mu id m hid (hx1.mu id m (by omega) hm), fun b hb hnl => ?_, k3.len⟩
   obtain ⟨f1, f2, f3⟩ := hx1.fr b hb hnl
   refine ⟨by rw [World.putObj_heap_other (by omega)]; exact f1, fun hl' => ?_, f3⟩
   have hb3 : b < (w3.putObj l (.loop { rc with state := .exhausted })).heap.size := by have := hx1.size; simp; omega
   exact (k3.fr b hb3 (fun hl'' => f2 hl''.of_kill.1)).2.1 hl'
  have hmarks : qbq B μ4 (gc k (vT (cfg.keepOut f (qq body)) fr) (q.2.set H.length .dead)).2 (w3.putObj l (.loop { rc with state := .exhausted })) (ms ++ a.defers) := by
   obtain ⟨hb, Ds, d1, d2, d3⟩ := hm.ext hx
   have hB : B ≤ w.heap.size := hm.1
   obtain ⟨_, Ds', d1', _, d3'⟩ := hm
   have hinj : Ds.map mark = Ds'.map mark := by rw [← d1, ← d1']
   have hDs : Ds = Ds' := by
    have : ∀ (x y : List Nat), x.map mark = y.map mark → x = y := by
     intro x
     induction x with
     | nil => intro y h; cases y with
      | nil => rfl
      | cons => simp at h
     | cons a x ih =>
      intro y h
      cases y with
      | nil => simp at h
      | cons b y =>
       simp only [List.map_cons, List.cons.injEq] at h
       obtain ⟨h1, h2⟩ := h
       have : a = b := by unfold mark at h1; cases h1; rfl
       rw [this, ih y h2]
    exact this _ _ hinj
   rcases hms with rfl | ⟨D, rfl, hD1, hD2, hD3⟩
   ·exact ⟨hb, Ds, d1, d2, d3⟩
   ·have hDlt : D < w1.heap.size := (Array.getElem?_eq_some_iff.1 hD3).1
    have hDl1 : ¬ Live (H ++ [ABlk.loop f (vT (cfg.keepIn f (qq body)) fr) ps.toList assign body none .ready]) (upd μ H.length (MI.mk4 l 0 0 0)) D := by
     intro hl'
     rcases g4 D hl' with h | h
     ·have := hw.live_lt h; omega
     ·exact hD2 h
    obtain ⟨f1, f2, _⟩ := p3.fr D hDlt hDl1
    refine ⟨hb, D :: Ds, by simp [d1], List.nodup_cons.2 ⟨fun hmem => ?_, d2⟩, fun D' hD' => ?_⟩
    ·rw [hDs] at hmem
     have := (Array.getElem?_eq_some_iff.1 (d3' D hmem).2.1).1
     omega
    ·rcases qzm.1 hD' with rfl | hmem
     ·refine ⟨by omega, by rw [World.putObj_heap_other hD2, f1]; exact hD3, fun hl' => ?_⟩
      have hb3 : D' < (w3.putObj l (.loop { rc with state := .exhausted })).heap.size := by have := p3.size; simp; omega
      exact (k3.fr D' hb3 (fun hl'' => f2 hl''.of_kill.1)).2.1 hl'
     ·exact d3 D' hmem
  have fin : ∀ e, r = (e, gc k (vT (cfg.keepOut f (qq body)) fr) (q.2.set H.length .dead)) → qal k B C μ H w r e.to { a with defers := ms ++ a.defers } (w3.putObj l (.loop { rc with state := .exhausted })) := by
   intro e hr
   subst hr
   exact ⟨rfl, C3, μ4, k2, k1, hx, hmarks⟩
  rw [e6] at fin ⊢
  split at he
  ·cases he; exact fin .normal rfl
  ·cases he; exact wpIn_ret (fin .ret rfl)
  ·rename_i x; cases he; exact wpIn_exit (fin (.exit x) rfl)
  ·cases he
 have hres : ∀ l w, (resolve a.eval (rangeCall g l) 0).run cfg.P w = .ok { target := .fn (.func h) vc.toArray, args := vf.toArray ++ #[.func (.yield l) #[] #[]] } w := by
  intro l w
  rw [qd2 (f := g) rfl, hgv]
  simp [Deferred.ofValue, Act.eval]
 have hinv : ∀ l w, (invoke (.fn (.func h) vc.toArray) (vf.toArray ++ #[.func (.yield l) #[] #[]])).run cfg.P w = .ok (.enter h (vf.toArray ++ #[.func (.yield l) #[] #[]] ++ vc.toArray)) w := by
  intro l w
  rw [invoke]
  exact hO.enters _ _ _ _ hq hext _ w
 have hdep : F.depth.isSome = true → 1 ≤ 0 := fun hh => by rw [hwide.depth] at hh; simp at hh
 cases rd with
 | none =>
  have hFw : F = Fence.wide := hrd
  have hro : F.round = none := by rw [hFw]; rfl
  rw [hro]
  refine ⟨w.heap.size + 1, [mark w.heap.size], _, _, _, h, _, _, run_enterLoop_outer fn a.tmps ps assign body, hres _ _, fun f' _ => hwide.fn f', hinv _ _, hdep, ?_⟩
  refine core (w.heap.size + 1) [mark w.heap.size] _ w.heap.size (by simp; omega) (fun b hb => ?_) (by omega) ?_ rfl rfl rfl (.inr ⟨w.heap.size, rfl, qyN _, by omega, ?_⟩)
  ·show ((w.heap.push _).push _)[b]? = _
   rw [Array.getElem?_push, if_neg (by simp; omega), Array.getElem?_push, if_neg (by omega)]
  ·show ((w.heap.push _).push _)[w.heap.size + 1]? = _
   rw [Array.getElem?_push, if_pos (by simp)]
  ·show ((w.heap.push _).push _)[w.heap.size]? = _
   rw [Array.getElem?_push, if_neg (by simp), Array.getElem?_push, if_pos rfl]
 | some l0 =>
  obtain ⟨hl0, m0, hm0, hFr⟩ := hrd
  have hro : F.round = some m0.block := by rw [hFr]; rfl
  rw [hro]
  unfold qlX at hrl
  simp only at hrl
  split at hrl
  case h_2 => cases hrl
  rename_i hb0
  obtain ⟨i2, i3, r0, i4, _⟩ := hw.liveM hb0 rfl hm0
  refine ⟨w.heap.size, [], _, _, _, h, _, _, run_enterLoop_inner i4 fn a.tmps ps assign body, hres _ _, fun f' _ => hwide.fn f', hinv _ _, hdep, ?_⟩
  refine core w.heap.size [] _ r0.defers (by simp) (fun b hb => ?_) (qyN _) ?_ rfl rfl rfl (.inl rfl)
  ·show (w.heap.push _)[b]? = _
   rw [Array.getElem?_push, if_neg (by omega)]
  ·show (w.heap.push _)[w.heap.size]? = _
   rw [Array.getElem?_push, if_pos rfl]
variable {C C' C1 C2 : qu} {μ μ' μ1 : MMap} {H H' H1 H2 : AH} {w w' w1 : World} {P : Program}
theorem qfg [Lent] {cfg : Cfg} (hc : CfgTy cfg) {cf : Orac} (hO : OracOk2 cfg cf) (hmx : cfg.P.follows .mixedOrders = true) {F : Fence} {rd : Option Nat} {f B k : Nat} : ∀ (c : Code) {fr : List AV} {H : AH} {r : Ex × List AV × AH}, evC cfg cf f rd k c fr H = some r →
  ∀ {C : qu} {μ : MMap} {w : World} {a : Act}, k ≤ H.length → RdOk rd F μ k → qF C μ fr a.tmps → Wld C μ H w → qbq B μ H w a.defers → c.wpIn F 0 cfg.P (qal k B C μ H w r) a w := by
 intro c
 induction c with
 | skip =>
  intro fr H r he C μ w a hk hrd hf hw hm
  rw [evC.eq_def] at he; simp only at he; cases he
  exact wpIn_skip ⟨rfl, C, μ, hf, hw, Ext.refl hk, hm⟩
 | label l =>
  intro fr H r he C μ w a hk hrd hf hw hm
  rw [evC.eq_def] at he; simp only at he; cases he
  exact wpIn_label ⟨rfl, C, μ, hf, hw, Ext.refl hk, hm⟩
 | exit id =>
  intro fr H r he C μ w a hk hrd hf hw hm
  rw [evC.eq_def] at he; simp only at he; cases he
  exact wpIn_exit ⟨rfl, C, μ, hf, hw, Ext.refl hk, hm⟩
 | ret =>
  intro fr H r he C μ w a hk hrd hf hw hm
  rw [evC.eq_def] at he; simp only at he; cases he
  exact wpIn_ret ⟨rfl, C, μ, hf, hw, Ext.refl hk, hm⟩
 | goto l =>
  intro fr H r he
  rw [evC.eq_def] at he; simp only at he; cases he
 | refuse s =>
  intro fr H r he
  rw [evC.eq_def] at he; simp only at he; cases he
 | region id ops draw =>
  intro fr H r he C μ w a hk hrd hf hw hm
  rw [evC.eq_def] at he
  simp only at he
  have fin : ∀ (fr' : List AV) (H' : AH) C' μ' w' (a' : Act), qF C' μ' fr' a'.tmps → Wld C' μ' H' w' → Ext H.length C μ H w C' μ' H' w' → a'.defers = a.defers → qal k B C μ H w (.normal, fr', H') .normal a' w' :=
   fun fr' H' C' μ' w' a' g1 g2 g3 g4 => ⟨rfl, C', μ', g1, g2, g3.less hk, by rw [g4]; exact hm.ext g3⟩
  cases draw with
  | true =>
   simp only [if_true] at he
   split at he
   case isFalse => cases he
   rename_i hst
   obtain ⟨q, hq, he⟩ := qyJ.1 he
   split at he
   case isFalse => cases he
   rename_i hdy
   obtain ⟨fps, fr', H'⟩ := q
   cases he
   exact qq4 hc hO.calls hmx hrd.wide hst hq hdy hf hw (fin fr' H')
  | false =>
   simp only [qza, if_false] at he
   obtain ⟨q, hq, e⟩ := qyO.1 he
   obtain ⟨fr', H'⟩ := q
   cases e
   refine wpIn_region ?_
   have := qcA hc hO.calls hrd.wide (Q := qal k B C μ H w (.normal, fr', H')) ops.toList 0 hq (fun i => by rw [Array.getElem?_toList, Nat.zero_add]) hf hw (fin fr' H')
   rw [List.range_eq_range']
   simpa using this
 | seq x y ihx ihy =>
  intro fr H r he C μ w a hk hrd hf hw hm
  rw [evC.eq_def] at he
  simp only at he
  obtain ⟨q, hq, he⟩ := qyJ.1 he
  refine wpIn_seq (wpIn_mono (ihx hq hk hrd hf hw hm) fun e a1 w1 hp => ?_)
  cases hq1 : q.1 with
  | normal =>
   obtain ⟨h1, C1, μ1, h2, h3, h4, h5⟩ := hp
   rw [hq1] at h1 he
   subst h1
   refine wpIn_mono (ihy he h4.len (hrd.ext h4.mu (qyN _)) (z4 h2) h3 h5) fun e' a2 w2 hp2 => hp2.mono h4 (qyN _)
  | exit id =>
   rw [hq1] at he
   cases he
   have : e = .exit id := by rw [hp.1, hq1]; rfl
   subst this
   exact ⟨rfl, hp.2⟩
  | goto l =>
   rw [hq1] at he
   cases he
   have : e = .goto l := by rw [hp.1, hq1]; rfl
   subst this
   exact ⟨rfl, hp.2⟩
  | ret =>
   rw [hq1] at he
   cases he
   have : e = .ret := by rw [hp.1, hq1]; rfl
   subst this
   exact ⟨rfl, hp.2⟩
 | cond c x y ihx ihy =>
  intro fr H r he C μ w a hk hrd hf hw hm
  rw [evC.eq_def] at he
  simp only at he
  split at he
  case h_2 => cases he
  rename_i t ht
  have hcr := qbt hf c
  rw [ht] at hcr
  generalize hv : a.eval c = v at hcr
  cases hcr
  cases t with
  | true => exact wpIn_cond_true hv (ihx (by simpa using he) hk hrd hf hw hm)
  | false => exact wpIn_cond_false hv (ihy (by simpa using he) hk hrd hf hw hm)
 | block id x ih =>
  intro fr H r he C μ w a hk hrd hf hw hm
  rw [evC.eq_def] at he
  simp only at he
  obtain ⟨q, hq, he⟩ := qyJ.1 he
  refine wpIn_block (wpIn_mono (ih hq hk hrd hf hw hm) fun e a1 w1 hp => ?_)
  cases hq1 : q.1 with
  | normal =>
   rw [hq1] at he
   cases he
   have : e = .normal := by rw [hp.1, hq1]; rfl
   subst this
   exact hp
  | exit id' =>
   rw [hq1] at he
   simp only at he
   have : e = .exit id' := by rw [hp.1, hq1]; rfl
   subst this
   simp only [Exit.inBlock]
   by_cases e : id' = id
   ·subst e
    rw [if_pos (qy1 _)] at he
    cases he
    rw [if_pos rfl]
    exact ⟨rfl, hp.2⟩
   ·have : ¬ qyW id' id = true := fun h => e (qyT h)
    rw [if_neg this] at he
    cases he
    rw [if_neg e]
    exact hp
  | goto l =>
   rw [hq1] at he
   cases he
   have : e = .goto l := by rw [hp.1, hq1]; rfl
   subst this
   exact hp
  | ret =>
   rw [hq1] at he
   cases he
   have : e = .ret := by rw [hp.1, hq1]; rfl
   subst this
   exact hp
 | loop x ih =>
  intro fr H r he C μ w a hk hrd hf hw hm
  rw [evC.eq_def] at he
  simp only at he
  obtain ⟨q, hq, e⟩ := qyO.1 he
  obtain ⟨n, hn⟩ := qaq hq
  obtain ⟨μ', g1, g2, g3⟩ := qmQ hw hf (cfg.keepIn f (qq x)) (cfg.lift f (qq x)) k hk
  refine wpIn_mono (wpIn_loop_rounds n (qgK (rd := rd) (fun hq => ih hq) hk n hn g3.len (hrd.ext g3.mu (qyN _)) g2 g1 (hm.ext g3) g3)) fun e' a' w' hp => ?_
  obtain ⟨h1, C1, μ1, h2, h3, h4, h5⟩ := hp
  subst e
  exact ⟨h1, C1, μ1, z4 h2, h3, h4, h5⟩
 | scope x ih =>
  intro fr H r he C μ w a hk hrd hf hw hm
  rw [evC.eq_def] at he
  simp only at he
  obtain ⟨q, hq, he⟩ := qyJ.1 he
  have hqr : (∀ l, q.1 ≠ .goto l) ∧ q = r := by
   cases hq1 : q.1 with
   | goto l => rw [hq1] at he; cases he
   | normal => rw [hq1] at he; simp only [Option.some.injEq] at he; exact ⟨nofun, he⟩
   | exit id => rw [hq1] at he; simp only [Option.some.injEq] at he; exact ⟨nofun, he⟩
   | ret => rw [hq1] at he; simp only [Option.some.injEq] at he; exact ⟨nofun, he⟩
  obtain ⟨h1, rfl⟩ := hqr
  refine qnt (ih hq hk hrd hf hw hm) fun l a1 w1 hp => ?_
  have := hp.1
  cases hq1 : q.1 with
  | goto l => exact h1 l hq1
  | _ => rw [hq1] at this; cases this
 | rangeFunc g ps assign body =>
  intro fr H r he C μ w a hk hrd hf hw hm
  rw [evC.eq_def] at he
  simp only at he
  obtain ⟨a1, a2, a3, a4⟩ := qbh (cfg.lift f (qq body)) hw hf
  exact wpIn_mono (qif hO he (Nat.le_trans hk a3) hrd a2 a1 (hm.ext (a4 k hk))) fun e a' w' hp => hp.mono (a4 k hk) (qyN _)
def qcQ (tmps : Array Value) : ResultVar → Sem Value
 | .tmp t => pure (tmps.getD t undef)
 | .cell a t => do loadVar t (← asAddr (tmps.getD a undef))
theorem qa1 [Lent] {cfg : Cfg} (hc : CfgTy cfg) {fr : List AV} {tmps : Array Value} (hf : qF C μ fr tmps) (hw : Wld C μ H w) : ∀ (rs : List ResultVar) {vs : List AV}, x8 rs cfg.ty fr H = some vs →
  ∃ us : List Value, (rs.mapM (qcQ tmps)).run cfg.P w = .ok us w ∧ vs.length = us.length ∧
   ∀ (i : Nat) a v, vs[i]? = some a → us[i]? = some v → Rep C μ a v
 | [], vs, he => by
  simp only [x8] at he
  cases he
  exact ⟨[], by simp, rfl, fun i a v h => by simp at h⟩
 | .tmp t :: l, vs, he => by
  simp only [x8] at he
  obtain ⟨vs', hvs, e⟩ := qyO.1 he
  cases e
  obtain ⟨us, h1, h2, h3⟩ := qa1 hc hf hw l hvs
  refine ⟨tmps.getD t undef :: us, ?_, by simp [h2], fun i a v e1 e2 => ?_⟩
  ·simp only [List.mapM_cons, Sem.run_bind, qcQ, Sem.run_pure, Result.andThen_ok, h1]
  ·cases i with
   | zero => simp at e1 e2; subst e1; subst e2; simpa [opd, Act.eval] using qbt (a := ⟨tmps, []⟩) hf (.tmp t)
   | succ i => exact h3 i a v (by simpa using e1) (by simpa using e2)
 | .cell a t :: l, vs, he => by
  simp only [x8] at he
  split at he
  case h_2 => cases he
  rename_i ti hti
  obtain ⟨x, hx, he⟩ := qyJ.1 he
  obtain ⟨vs', hvs, e⟩ := qyO.1 he
  cases e
  obtain ⟨us, h1, h2, h3⟩ := qa1 hc hf hw l hvs
  have hr : Rep C μ (fr.getD a .junk) (tmps.getD a undef) := by simpa [opd, Act.eval] using qbt (a := ⟨tmps, []⟩) hf (.tmp a)
  obtain ⟨ad, u, g1, g2, g3⟩ := qiF hw (hc.ty _ _ hti) hr hx
  refine ⟨u :: us, ?_, by simp [h2], fun i a v e1 e2 => ?_⟩
  ·have ga : (qcQ tmps (.cell a t)).run cfg.P w = .ok u w := by simp only [qcQ, g1, asAddr, Sem.run_bind, Sem.run_pure, Result.andThen_ok, g2]
   simp only [List.mapM_cons, Sem.run_bind, ga, Sem.run_pure, Result.andThen_ok, h1]
  ·cases i with
   | zero => simp at e1 e2; subst e1; subst e2; exact g3
   | succ i => exact h3 i a v (by simpa using e1) (by simpa using e2)
theorem qkR [Lent] {cfg : Cfg} (hc : CfgTy cfg) {fn : Func} {fr : List AV} {tmps : Array Value} (hf : qF C μ fr tmps) (hw : Wld C μ H w) {vs : List AV} (he : x8 fn.results.toList cfg.ty fr H = some vs) :
  ∃ v, (results fn tmps).run cfg.P w = .ok v w ∧ Rep C μ (zn vs) v := by
 obtain ⟨us, h1, h2, h3⟩ := qa1 hc hf hw _ he
 refine ⟨if h : us.toArray.size = 1 then us.toArray[0] else .tuple us.toArray, ?_, ?_⟩
 ·have hr : results fn tmps = (fn.results.mapM (qcQ tmps) >>= fun vs => pure (if h : vs.size = 1 then vs[0] else .tuple vs)) := rfl
  rw [hr, Array.mapM_eq_mapM_toList]
  simp only [Sem.run_bind, Sem.run_map, Result.andThen_ok, Sem.run_pure, h1]
 ·cases us with
  | nil =>
   cases vs with
   | nil => exact .tup [] [] rfl (fun i a v h => by simp at h)
   | cons x l => simp at h2
  | cons u us =>
   cases vs with
   | nil => simp at h2
   | cons x l =>
    cases us with
    | nil =>
     cases l with
     | nil => simpa [zn] using h3 0 x u rfl rfl
     | cons y l => simp at h2
    | cons u' us =>
     cases l with
     | nil => simp at h2
     | cons y l =>
      have : zn (x :: y :: l) = .tup (x :: y :: l) := rfl
      rw [this, dif_neg (by simp)]
      exact .tup _ _ h2 h3
theorem qoN {cfg : Cfg} {rs : List ResultVar} {q : Ex × List AV × AH} {r : AV} (h : qcY cfg rs q = some (r, H')) : (q.1 = .normal ∨ q.1 = .ret) ∧ H' = q.2.2 ∧ ∃ vs, x8 rs cfg.ty q.2.1 q.2.2 = some vs ∧ r = zn vs := by
 unfold qcY at h
 split at h
 ·rename_i hq
  obtain ⟨vs, h1, e⟩ := qyO.1 h
  cases e
  exact ⟨.inl hq, rfl, vs, h1, rfl⟩
 ·rename_i hq
  obtain ⟨vs, h1, e⟩ := qyO.1 h
  cases e
  exact ⟨.inr hq, rfl, vs, h1, rfl⟩
 ·cases h
theorem qeU [Lent] {fn : Func} {tmps : Array Value} {R : Ending → World → Prop} {B k : Nat} {C0 : qu} {μ0 : MMap} {H0 : AH} {w0 : World} (hB : B = w0.heap.size)
  (hend : ∀ w', Wld C μ H w' → Ext k C0 μ0 H0 w0 C μ H w' → ∃ v, (results fn tmps).run P w' = .ok v w' ∧ R (.returned v) w') : ∀ (Ds : List Nat) {w : World}, Ds.Nodup → (∀ D ∈ Ds, B ≤ D ∧ w.heap[D]? = some (.deferred (some [])) ∧ ¬ Live H μ D) →
   Wld C μ H w → Ext k C0 μ0 H0 w0 C μ H w → LeavesInM Fence.wide 0 P fn tmps R (Ds.map mark) .returning w
 | [], w, _, _, hw, hx => hend w hw hx
 | D :: Ds, w, hnd, hD, hw, hx => by
  obtain ⟨d1, d2, d3⟩ := hD D (List.mem_cons_self ..)
  obtain ⟨hnm, hnd'⟩ := List.nodup_cons.1 hnd
  refine ⟨by simp, .inl ⟨D, _, rfl, run_takeDeferred d2, ?_⟩⟩
  have hne : ∀ b, b ≠ D → (w.putObj D (.deferred none)).heap[b]? = w.heap[b]? := fun b hb => World.putObj_heap_other hb
  refine qeU hB hend Ds hnd' (fun D' hD' => ?_) (hw.worldG (by simp) (fun b hb hor => hne b fun e => ?_)) ⟨hx.os, hx.tape, hx.output, by simpa using hx.size, hx.cl, hx.mu, fun b hb hnl => ?_, hx.len⟩
  ·obtain ⟨g1, g2, g3⟩ := hD D' (List.mem_cons_of_mem _ hD')
   exact ⟨g1, by rw [hne D' (fun e => hnm (by rw [← e]; exact hD'))]; exact g2, g3⟩
  ·subst e
   rcases hor with hl | ⟨o, hc⟩ | ⟨o, hc⟩
   ·exact d3 hl
   ·cases hco : C b o with
    | none => exact hc hco
    | some v =>
     have := hw.cl b o v hco
     simp only [World.cell?, d2] at this
     cases this
   ·cases hco : Lent.l b o with
    | none => exact hc hco
    | some v =>
     have := hw.lnt.1 b o v hco
     simp only [World.cell?, d2] at this
     cases this
  ·obtain ⟨f1, f2, f3⟩ := hx.fr b hb hnl
   exact ⟨by rw [hne b (by omega)]; exact f1, f2, f3⟩
variable {C C' C1 C2 : qu} {μ μ' μ1 : MMap} {H H' H1 H2 : AH} {w w' w1 : World} {P : Program}
structure CfgOk [Lent] (cfg : Cfg) : Prop where
 ty : CfgTy cfg
 mixed : cfg.P.follows .mixedOrders = true
 named : ∀ f fn, cfg.known f = true → cfg.P.funcs[f]? = some fn → (fn.name == "runtime.NumGoroutine") = false
 ext : ∀ f s, cfg.ext f = some s → ∀ args H r H', s args H = some (r, H') → ∀ C μ w vs, qF C μ args vs → Wld C μ H w → vD cfg.P (callFunc f vs) w (xn C μ H w r H')
theorem qpQ {f : FuncId} {fn : Func} {c : Code} (hf : P.funcs[f]? = some fn) (hn : (fn.name == "runtime.NumGoroutine") = false) (hb : fn.body = some c) (vs : Array Value) (w : World) : (callFunc f vs).run P w = .ok (.enter f vs) w := by
 unfold callFunc
 simp only [Sem.run_bind, run_program, Result.andThen_ok, hf, hn, hb, Option.isNone_some, qza, if_false]
 simp
theorem qu9 [Lent] {args : List AV} {vs : Array Value} (h : qF C μ args vs) (n : Nat) : qF C μ (args ++ qzf (n - args.length) .junk) (vs ++ Array.replicate (n - vs.size) undef) := by
 refine ⟨by simp [h.1], fun i a v e1 e2 => ?_⟩
 rcases Nat.lt_or_ge i args.length with hlt | hge
 ·rw [qyU hlt] at e1
  rw [Array.getElem?_append_left (by rw [← h.1]; exact hlt)] at e2
  exact h.2 i a v e1 e2
 ·rw [qyZ hge] at e1
  have := qyR e1
  rw [List.mem_replicate] at this
  rw [this.2]
  exact .junk v
theorem qd1 [Lent] : ∀ (ps : List Tmp) {args : List AV} {vs : List Value} {fr : List AV} {tmps : Array Value}, (∀ (i : Nat) a v, args[i]? = some a → vs[i]? = some v → Rep C μ a v) → args.length = vs.length → qF C μ fr tmps →
  qF C μ (yC fr ps args) ((ps.zip vs).foldl (fun t (p, v) => t.setIfInBounds p v) tmps)
 | [], args, vs, fr, tmps, _, _, hf => by cases args <;> simpa [yC] using hf
 | p :: ps, [], vs, fr, tmps, _, hl, hf => by
  have : vs = [] := List.eq_nil_of_length_eq_zero (by simpa using hl.symm)
  subst this
  simpa [yC] using hf
 | p :: ps, x :: args, [], fr, tmps, _, hl, hf => by simp at hl
 | p :: ps, x :: args, v :: vs, fr, tmps, h, hl, hf => by
  rw [yC, List.zip_cons_cons, List.foldl_cons]
  refine qd1 ps (fun i a u e1 e2 => h (i + 1) a u (by simpa using e1) (by simpa using e2)) (by simpa using hl) ?_
  exact qcR (a := ⟨tmps, []⟩) (dst := some p) hf (h 0 x v rfl rfl)
theorem qsl [Lent] {cfg : Cfg} (ok : CfgOk cfg) {cf : Orac} (hO : OracOk2 cfg cf) {f : Nat} {fn : Func} {c : Code} {args : List AV} {vs : Array Value} {r : AV} (hf : cfg.P.funcs[f]? = some fn) (hb : fn.body = some c)
  (he : ((evC cfg cf f none H.length c (args ++ qzf (fn.ntmps - args.length) .junk) H).bind fun r => qcY cfg fn.results.toList (r.1, vI (cfg.lift f 0) r.2.1 r.2.2)) = some (r, H')) (ha : qF C μ args vs) (hw : Wld C μ H w) :
  CallsIn Fence.wide 0 cfg.P f vs w fun e w' => ∃ v, e = .returned v ∧ xn C μ H w r H' v w' := by
 obtain ⟨q, hq, he⟩ := qyJ.1 he
 obtain ⟨h1, rfl, us, h3, rfl⟩ := qoN he
 refine callsIn_of_wp_marks hf hb trivial (wpIn_mono (qfg ok.ty hO ok.mixed (B := w.heap.size) c hq (F := Fence.wide) (qyN _) rfl (qu9 ha fn.ntmps) hw ⟨qyN _, [], rfl, List.nodup_nil, fun D h => by cases h⟩) fun e a' w' hp => ?_)
 obtain ⟨e1, C', μ', e2, e3, e4, hmk⟩ := hp
 obtain ⟨l1, l2, l3, l4⟩ := qbh (cfg.lift f 0) e3 e2
 obtain ⟨hB, Ds, m1, m2, m3⟩ := hmk.ext (l4 _ (qyN _))
 replace e2 := l2
 replace e4 := e4.trans (l4 _ e4.len) (qyN _)
 replace e3 := l1
 have hl : LeavesInM Fence.wide 0 cfg.P fn a'.tmps (fun e w' => ∃ v, e = .returned v ∧ xn C μ H w (zn us) (vI (cfg.lift f 0) q.2.1 q.2.2).2 v w') a'.defers .returning w' := by
  rw [m1]
  refine qeU rfl (fun w2 g1 g2 => ?_) Ds m2 m3 e3 e4
  obtain ⟨v, r1, r2⟩ := qkR ok.ty e2 g1 h3
  exact ⟨v, r1, v, rfl, C', μ', r2, g1, g2⟩
 rcases h1 with h1 | h1
 ·rw [h1] at e1
  subst e1
  exact hl
 ·rw [h1] at e1
  subst e1
  exact hl
theorem qnM [Lent] {cfg : Cfg} (ok : CfgOk cfg) {cf : Orac} (hO : OracOk2 cfg cf) {id : Nat} {args : List AV} {vs : Array Value} {r : AV} (he : xk cfg cf (.y id) args H = some (r, H')) (ha : qF C μ args vs) (hw : Wld C μ H w) {m : MI} (hm : μ id = some m) :
  vD cfg.P (Instr.yield m.block vs) w (xn C μ H w r H') := by
 unfold xk at he
 simp only at he
 split at he
 case h_2 => cases he
 rename_i f fr ps assign body pend hid
 split at he
 case isFalse => cases he
 rename_i hlen
 obtain ⟨q1, hq1, he⟩ := qyJ.1 he
 split at he
 case h_2 => cases he
 rename_i f1 fr1 ps1 assign1 body1 pend1 hx1 hid1
 obtain ⟨q2, hq2, he⟩ := qyJ.1 he
 split at he
 case h_2 => cases he
 rename_i f2 fr2 ps2 assign2 body2 pend2 st2 hid2
 obtain ⟨i2, i3, rc, i4, i5, i6, i7, i8, i9, i10⟩ := hw.liveM hid rfl hm
 have hidl : id < H.length := (qyL.1 hid).1
 have hvs : vs.size = rc.params.size := by rw [← ha.1, hlen, ← i7]; simp
 unfold vD
 rw [run_yield i4 hvs]
 simp only
 rw [i8, i9]
 have htm : ((rc.params.zip vs).foldl (fun tmps (t, a) => tmps.setIfInBounds t a) rc.tmps) = ((ps.zip vs.toList).foldl (fun t (p, v) => t.setIfInBounds p v) rc.tmps) := by
  rw [← Array.foldl_toList, Array.toList_zip, i7]
 have hfr0 : qF C μ (yC fr ps args) ((rc.params.zip vs).foldl (fun tmps (t, a) => tmps.setIfInBounds t a) rc.tmps) := by
  rw [htm]
  exact qd1 ps (fun i a v e1 e2 => ha.2 i a v e1 (by rw [← Array.getElem?_toList]; exact e2)) (by rw [ha.1]; simp) i10
 have hrd : RdOk (some id) (Fence.wide.inRound m.block) μ H.length := ⟨hidl, m, hm, rfl⟩
 refine roundIn_of_wpIn trivial (wpIn_mono (qfg ok.ty hO ok.mixed (B := w.heap.size) assign hq1 (a := ⟨_, []⟩) (qyN _) hrd hfr0 hw ⟨qyN _, [], rfl, List.nodup_nil, fun D h => by cases h⟩) fun e a1 w1 hp => ?_)
 obtain ⟨e1, C1, μ1, p1, p2, p3, p4⟩ := hp
 rw [hx1] at e1
 subst e1
 have hm1 : μ1 id = some m := p3.mu id m hidl hm
 obtain ⟨j2, j3, rc1, j4, j5, j6, j7, j8, j9, j10⟩ := p2.liveM hid1 rfl hm1
 have hidl1 : id < q1.2.2.length := (qyL.1 hid1).1
 refine ⟨_, run_beginRound j4 j5, ?_⟩
 have hw2 : Wld C1 μ1 (q1.2.2.set id (.loop f1 fr1 ps1 assign1 body1 pend1 .busy)) (w1.putObj m.block (.loop { rc1 with state := .busy })) :=
  p2.setBlk hid1 rfl rfl hm1 (by simp) (fun b hb => World.putObj_heap_other hb) ⟨{ rc1 with state := .busy }, World.putObj_heap_same j2, rfl, j6, j7, j8, j9, j10⟩
 have hx2 : Ext q1.2.2.length C1 μ1 q1.2.2 w1 C1 μ1 (q1.2.2.set id (.loop f1 fr1 ps1 assign1 body1 pend1 .busy)) (w1.putObj m.block (.loop { rc1 with state := .busy })) :=
  Ext.setBlk p2 hid1 rfl hm1 (by simp) (fun b hb => World.putObj_heap_other hb) rfl rfl rfl (qyN _)
 have hx12 := p3.trans hx2 p3.len
 have hrd2 : RdOk (some id) (Fence.wide.inRound m.block) μ1 H.length := ⟨hidl, m, hm1, rfl⟩
 refine wpIn_mono (qfg ok.ty hO ok.mixed (B := w.heap.size) body hq2 (by simpa using p3.len) hrd2 p1 hw2 (p4.ext hx2)) fun e a2 w3 hp => ?_
 obtain ⟨e2, C3, μ3, g1, g2, g3, g4⟩ := hp
 have hm3 : μ3 id = some m := g3.mu id m hidl hm1
 obtain ⟨k2, k3, rc3, k4, k5, k6, k7, k8, k9, k10⟩ := g2.liveM hid2 rfl hm3
 have fin : ∀ (jump : Option Code) , ∃ v w4, (Instr.endRound m.block jump).run cfg.P w3 = .ok v w4 ∧
   xn C μ H w (.bool jump.isNone) (q2.2.2.set id (.loop f2 fr2 ps2 assign2 body2 jump (if jump.isNone then .ready else .done))) v w4 := by
  intro jump
  refine ⟨_, _, run_endRound jump k4, C3, μ3, .bool _, ?_, ?_⟩
  ·exact g2.setBlk hid2 rfl rfl hm3 (by simp) (fun b hb => World.putObj_heap_other hb) ⟨_, World.putObj_heap_same k2, rfl, rfl, k7, k8, k9, k10⟩
  ·have := Ext.setBlk (k := q2.2.2.length) (blk' := .loop f2 fr2 ps2 assign2 body2 jump (if jump.isNone then .ready else .done)) g2 hid2 rfl hm3 (w' := w3.putObj m.block (.loop { rc3 with state := if jump.isNone then .ready else .done, pending := jump })) (by simp) (fun b hb => World.putObj_heap_other hb) rfl rfl rfl (qyN _)
   exact (hx12.trans g3 (qyN _)).trans this (hx12.trans g3 (qyN _)).len
 split at he
 ·rename_i hx
  cases he
  rw [hx] at e2; subst e2
  obtain ⟨v, w4, r1, r2⟩ := fin none
  exact ⟨v, w4, r1, v, rfl, r2⟩
 ·rename_i hx
  cases he
  rw [hx] at e2; subst e2
  obtain ⟨v, w4, r1, r2⟩ := fin (some .ret)
  exact ⟨v, w4, r1, v, rfl, r2⟩
 ·rename_i x hx
  cases he
  rw [hx] at e2; subst e2
  obtain ⟨v, w4, r1, r2⟩ := fin (some (.exit x))
  exact ⟨v, w4, r1, v, rfl, r2⟩
 ·cases he
theorem qm3 [Lent] {cfg : Cfg} (ok : CfgOk cfg) {cf : Orac} (hO : OracOk2 cfg cf) : OracOk2 cfg (xk cfg cf) := by
 have key : ∀ f args H r, xk cfg cf (.f f) args H = some r → cfg.ext f = none → ∃ fn c, cfg.known f = true ∧ cfg.P.funcs[f]? = some fn ∧ fn.body = some c ∧ ((evC cfg cf f none H.length c (args ++ qzf (fn.ntmps - args.length) .junk) H).bind fun r => qcY cfg fn.results.toList (r.1, vI (cfg.lift f 0) r.2.1 r.2.2)) = some r := by
  intro f args H r he hx
  unfold xk at he
  simp only [hx] at he
  split at he
  case isFalse => cases he
  rename_i hk
  split at he
  case h_2 => cases he
  rename_i fn hf
  split at he
  case h_2 => cases he
  rename_i c hb
  exact ⟨fn, c, hk, hf, hb, he⟩
 have enters : ∀ h args H r, xk cfg cf (.f h) args H = some r → cfg.ext h = none → ∀ vs w, (callFunc h vs).run cfg.P w = .ok (.enter h vs) w := by
  intro h args H r he hx vs w
  obtain ⟨fn, c, h1, h2, h3, _⟩ := key h args H r he hx
  exact qpQ h2 (ok.named _ _ h1 h2) h3 vs w
 refine ⟨fun t args H r H' he C μ w vs s ha hw ht => ?_, enters⟩
 cases t with
 | f f =>
  have hs : s = callFunc f vs := ht
  subst hs
  cases hx : cfg.ext f with
  | some sp =>
   unfold xk at he
   simp only [hx] at he
   exact ok.ext f sp hx args H r H' he C μ w vs ha hw
  | none =>
   unfold vD
   rw [enters _ _ _ _ he hx]
   obtain ⟨fn, c, _, h2, h3, h4⟩ := key _ _ _ _ he hx
   exact qsl ok hO h2 h3 h4 ha hw
 | y id =>
  obtain ⟨m, hm, hs⟩ := ht
  subst hs
  exact qnM ok hO he ha hw hm
theorem qfe [Lent] {cfg : Cfg} (ok : CfgOk cfg) : ∀ n, OracOk2 cfg (evF cfg n)
 | 0 => ⟨fun t args H r H' he => (by cases he), fun h args H r he => (by cases he)⟩
 | n + 1 => qm3 ok (qfe ok n)
theorem qbT [Lent] {cfg : Cfg} (ok : CfgOk cfg) : OracOk2 cfg (EV cfg) := by
 refine ⟨fun t args H r H' he => ?_, fun h args H r he => ?_⟩
 ·obtain ⟨n, hn⟩ := qaq he
  exact (qfe ok n).calls t args H r H' hn
 ·obtain ⟨n, hn⟩ := qaq he
  exact (qfe ok n).enters h args H r hn
theorem qnn [Lent] {cfg : Cfg} (ok : CfgOk cfg) {f : FuncId} {args : List AV} {vs : Array Value} {r : AV} (hx : cfg.ext f = none) (he : EV cfg (.f f) args H = some (r, H')) (ha : qF C μ args vs) (hw : Wld C μ H w) :
  Calls cfg.P f vs w fun e w' => ∃ v, e = .returned v ∧ xn C μ H w r H' v w' := by
 have hO := qbT ok
 have h := hO.calls _ _ _ _ _ he C μ w vs _ ha hw rfl
 unfold vD at h
 rw [hO.enters _ _ _ _ he hx] at h
 exact callsIn_wide.1 h
section
variable {α β : Type}
def EvG (cf : Nat → Orac) (c : Orac) (G : Orac → Option α) : Prop := ∀ r, G c = some r → ∃ n, ∀ m, n ≤ m → G (cf m) = some r
def Ev (cf : Nat → Orac) (c : Orac) : Prop := ∀ t a H, EvG cf c (fun o => o t a H)
variable {cf : Nat → Orac} {c : Orac}
theorem EvG.const (x : Option α) : EvG cf c (fun _ => x) := fun _r h => ⟨0, fun _ _ => h⟩
theorem EvG.bind {X : Orac → Option α} {K : Orac → α → Option β} (hX : EvG cf c X) (hK : ∀ a, EvG cf c (fun o => K o a)) : EvG cf c (fun o => (X o).bind (K o)) := by
 intro r h
 obtain ⟨a, h1, h2⟩ := qyJ.1 h
 obtain ⟨n, hn⟩ := hX a h1
 obtain ⟨n', hn'⟩ := hK a r h2
 exact ⟨max n n', fun m hm => by
  show (X (cf m)).bind (K (cf m)) = some r
  rw [hn m (by omega)]
  exact hn' m (by omega)⟩
theorem EvG.map {X : Orac → Option α} (f : α → β) (hX : EvG cf c X) : EvG cf c (fun o => (X o).map f) := by
 intro r h
 obtain ⟨a, h1, h2⟩ := qyO.1 h
 obtain ⟨n, hn⟩ := hX a h1
 exact ⟨n, fun m hm => by
  show (X (cf m)).map f = some r
  rw [hn m hm, ← h2]; rfl⟩
theorem EvG.ite {p : Prop} [Decidable p] {X Y : Orac → Option α} (hX : EvG cf c X) (hY : EvG cf c Y) : EvG cf c (fun o => if p then X o else Y o) := by
 by_cases h : p
 ·simp only [if_pos h]; exact hX
 ·simp only [if_neg h]; exact hY
theorem qdt (h : Ev cf c) (f : Nat) : ∀ l : List AV, EvG cf c (fun o => y7 o f l)
 | [] => EvG.const _
 | a :: l => by
  simp only [y7]
  exact (h _ _ _).bind fun r => (EvG.const _).bind fun _ => qdt h f l
theorem qtR (h : Ev cf c) (cfg : Cfg) (nid : Option Nat) (t : Tgt) (args : List AV) (H : AH) : EvG cf c (fun o => vr cfg o nid t args H) := by
 cases t with
 | y id => exact (h _ _ _).bind fun r => EvG.const _
 | f f =>
  simp only [vr]
  cases cfg.mode f with
  | scal => exact EvG.ite ((h _ _ _).bind fun r => EvG.const _) (EvG.const _)
  | pfrz => exact EvG.ite ((h _ _ _).bind fun r => EvG.const _) (EvG.const _)
  | pown => exact EvG.ite ((h _ _ _).bind fun r => EvG.const _) (EvG.const _)
  | inpl =>
   cases q5 0 args with
   | nil => exact EvG.ite ((h _ _ _).bind fun r => EvG.const _) (EvG.const _)
   | cons id l =>
    refine EvG.ite ?_ (EvG.const _)
    cases hb : H[id]? with
    | none => exact EvG.const _
    | some b =>
     cases b with
     | rows d sz rs => exact EvG.ite ((h _ _ _).bind fun r => EvG.const _) (EvG.const _)
     | _ => exact EvG.const _
  | inpf =>
   cases q5 0 args with
   | nil => exact EvG.const _
   | cons id l =>
    refine EvG.ite ?_ (EvG.const _)
    cases hb : H[id]? with
    | none => exact EvG.const _
    | some b =>
     cases b with
     | rows d sz rs => exact EvG.ite ((h _ _ _).bind fun r => EvG.const _) (EvG.const _)
     | _ => exact EvG.const _
  | slf =>
   cases q5 0 args with
   | nil => exact EvG.const _
   | cons id l =>
    refine EvG.ite ?_ (EvG.const _)
    cases hb : H[id]? with
    | none => exact EvG.const _
    | some b =>
     cases b with
     | rows d sz rs => exact EvG.ite ((h _ _ _).bind fun r => EvG.const _) (EvG.const _)
     | _ => exact EvG.const _
  | imp => exact (h _ _ _).bind fun r => EvG.const _
  | ifrz => exact (h _ _ _).bind fun r => EvG.const _
  | rgn => exact EvG.ite ((h _ _ _).bind fun r => EvG.const _) (EvG.const _)
  | over =>
   dsimp only
   rcases args with _ | ⟨a, _ | ⟨b, l⟩⟩
   ·exact EvG.const _
   ·dsimp only
    cases q5 0 a.alts with
    | nil => exact EvG.const _
    | cons id l =>
     refine EvG.ite ?_ (EvG.const _)
     cases hb : H[id]? with
     | none => exact EvG.const _
     | some b =>
      cases b with
      | reg => exact (qdt h _ _).map _
      | spl => exact (qdt h _ _).map _
      | _ => exact EvG.const _
   ·exact EvG.const _
theorem qkD (h : Ev cf c) (cfg : Cfg) (frz : Bool) (nid : Option Nat) (o : Oper) (x : Operand → AV) (H : AH) : EvG cf c (fun q => vU cfg q frz nid o x H) := by
 have core : ∀ (x : Operand → AV) (H : AH), EvG cf c (fun q => match o.op with
    | .call cl =>
     match cl.callee with
     | .value f => (yJ (x f) (cl.args.toList.map x)).bind fun t => vr cfg q nid t.1 t.2 H
     | _ => evOp cfg nid o.op o.type x H
    | _ => evOp cfg nid o.op o.type x H) := by
  intro x H
  split
  ·split
   ·exact (EvG.const _).bind fun t => qtR h cfg nid _ _ _
   ·exact EvG.const _
  ·exact EvG.const _
 unfold vU
 cases frz with
 | true => simp only [if_true]; exact core _ _
 | false => simp only [qza, if_false]; exact core _ _
theorem qhg (h : Ev cf c) (cfg : Cfg) (f rid : Nat) (ops : Array Oper) : ∀ (l : List Oper) (k : Nat) (fr : List AV) (H : AH), EvG cf c (fun q => qaG cfg q f rid ops k l fr H)
 | [], k, fr, H => EvG.const _
 | o :: l, k, fr, H => by
  simp only [qaG]
  refine (EvG.const _).bind fun b => EvG.ite ((qkD h cfg _ _ _ _ _).bind fun r => qhg h cfg f rid ops l _ _ _) (qhg h cfg f rid ops l _ _ _)
theorem qff (h : Ev cf c) (cfg : Cfg) (f rid : Nat) (ops : Array Oper) : ∀ (l : List Oper) (k at_ : Nat) (fr : List AV) (H : AH), EvG cf c (fun q => yZ cfg q f rid ops k at_ l fr H)
 | [], k, at_, fr, H => EvG.const _
 | o :: l, k, at_, fr, H => by
  simp only [yZ]
  refine (EvG.const _).bind fun b => EvG.ite ((qkD h cfg _ _ _ _ _).bind fun r => (qff h cfg f rid ops l _ _ _ _).map _) ((qff h cfg f rid ops l _ _ _ _).map _)
theorem qiD {k : Nat} {ts : Option (List Tmp)} {ls : List (Tmp × Nat)} {body : Den} : ∀ {n : Nat} {p : List AV × AH} {r : Ex × List AV × AH}, zo k ts ls body n p = some r → zo k ts ls body (n + 1) p = some r
 | 0, _, _, h => by cases h
 | n + 1, p, r, h => by
  rw [zo] at h ⊢
  obtain ⟨q, h1, h2⟩ := qyJ.1 h
  rw [h1]
  simp only [qy0]
  cases hq : q.1 with
  | normal =>
   rw [hq] at h2
   exact qiD h2
  | exit id => rw [hq] at h2; exact h2
  | goto l => rw [hq] at h2; exact h2
  | ret => rw [hq] at h2; exact h2
theorem qmw {g : Nat → Option α} (hs : ∀ n r, g n = some r → g (n + 1) = some r) {n : Nat} {r : α} (h : g n = some r) : lim g = some r := by
 have up : ∀ {n : Nat} {r : α}, g n = some r → ∀ d, g (n + d) = some r := by
  intro n r h d
  induction d with
  | zero => exact h
  | succ d ih => exact hs _ _ ih
 have he : ∃ (n : Nat) (r : α), g n = some r := ⟨n, r, h⟩
 unfold lim
 rw [dif_pos he]
 have hc := Classical.choose_spec (Classical.choose_spec he)
 have e1 := up h (Classical.choose he)
 have e2 := up hc n
 rw [Nat.add_comm] at e2
 rw [e1] at e2
 exact e2.symm
theorem qj8 {k : Nat} {ts : Option (List Tmp)} {ls : List (Tmp × Nat)} {body : Den} {n : Nat} {p : List AV × AH} {r : Ex × List AV × AH} (h : zo k ts ls body n p = some r) : LOOP k ts ls body p = some r :=
 qmw (g := fun n => zo k ts ls body n p) (fun _ _ h => qiD h) h
theorem qmu {k : Nat} {ts : Option (List Tmp)} {ls : List (Tmp × Nat)} {body : Orac → Den} (hb : ∀ fr H, EvG cf c (fun q => body q fr H)) : ∀ (n : Nat) (p : List AV × AH), EvG cf c (fun q => zo k ts ls (body q) n p)
 | 0, _ => EvG.const _
 | n + 1, p => by
  simp only [zo]
  refine (hb _ _).bind fun r => ?_
  cases r.1 with
  | normal => exact qmu hb n _
  | exit id => exact EvG.const _
  | goto l => exact EvG.const _
  | ret => exact EvG.const _
theorem qvX {k : Nat} {ts : Option (List Tmp)} {ls : List (Tmp × Nat)} {body : Orac → Den} (hb : ∀ fr H, EvG cf c (fun q => body q fr H)) (p : List AV × AH) : EvG cf c (fun q => LOOP k ts ls (body q) p) := by
 intro r h
 obtain ⟨n, hn⟩ := qaq h
 obtain ⟨m, hm⟩ := qmu hb n p r hn
 exact ⟨m, fun i hi => qj8 (hm i hi)⟩
theorem qm2 (h : Ev cf c) (cfg : Cfg) (f : Nat) (rd : Option Nat) (k : Nat) : ∀ (cd : Code) (fr : List AV) (H : AH), EvG cf c (fun q => evC cfg q f rd k cd fr H) := by
 intro cd
 induction cd with
 | skip => intro fr H; simp only [evC]; exact EvG.const _
 | label l => intro fr H; simp only [evC]; exact EvG.const _
 | exit id => intro fr H; simp only [evC]; exact EvG.const _
 | ret => intro fr H; simp only [evC]; exact EvG.const _
 | goto l => intro fr H; simp only [evC]; exact EvG.const _
 | refuse s => intro fr H; simp only [evC]; exact EvG.const _
 | region id ops draw =>
  intro fr H
  simp only [evC]
  cases draw with
  | true => simp only [if_true]; exact EvG.ite ((qff h cfg f id ops _ _ _ _ _).bind fun q => EvG.const _) (EvG.const _)
  | false => simp only [qza, if_false]; exact (qhg h cfg f id ops _ _ _ _).map _
 | seq x y ihx ihy =>
  intro fr H
  simp only [evC]
  refine (ihx _ _).bind fun r => ?_
  cases r.1 with
  | normal => exact ihy _ _
  | exit id => exact EvG.const _
  | goto l => exact EvG.const _
  | ret => exact EvG.const _
 | cond cnd x y ihx ihy =>
  intro fr H
  simp only [evC]
  split
  ·exact EvG.ite (ihx _ _) (ihy _ _)
  ·exact EvG.const _
 | block id x ih =>
  intro fr H
  simp only [evC]
  exact (ih _ _).bind fun r => EvG.const _
 | loop x ih =>
  intro fr H
  simp only [evC]
  exact (qvX ih _).map _
 | scope x ih =>
  intro fr H
  simp only [evC]
  exact (ih _ _).bind fun r => EvG.const _
 | rangeFunc g ps assign body =>
  intro fr H
  simp only [evC, qc2]
  refine EvG.ite ?_ (EvG.const _)
  split
  ·exact EvG.ite (EvG.const _) ((h _ _ _).bind fun r => EvG.const _)
  ·exact EvG.const _
theorem qkE (h : Ev cf c) (cfg : Cfg) (t : Tgt) (args : List AV) (H : AH) : EvG cf c (fun q => xk cfg q t args H) := by
 unfold xk
 cases t with
 | f f =>
  simp only
  split
  ·exact EvG.const _
  ·refine EvG.ite ?_ (EvG.const _)
   split
   ·split
    ·exact (qm2 h cfg f none _ _ _ _).bind fun r => EvG.const _
    ·exact EvG.const _
   ·exact EvG.const _
 | y id =>
  simp only
  split
  ·refine EvG.ite ((qm2 h cfg _ _ _ _ _ _).bind fun r => ?_) (EvG.const _)
   split
   ·exact (qm2 h cfg _ _ _ _ _ _).bind fun q => EvG.const _
   ·exact EvG.const _
  ·exact EvG.const _
end
theorem qdP (cfg : Cfg) : ∀ (n : Nat) (t : Tgt) (a : List AV) (H : AH) (r : AV × AH), evF cfg n t a H = some r → evF cfg (n + 1) t a H = some r
 | 0, t, a, H, r, h => by cases h
 | n + 1, t, a, H, r, h => by
  have hev : Ev (fun _ => evF cfg (n + 1)) (evF cfg n) := fun t a H r h => ⟨0, fun _ _ => qdP cfg n t a H r h⟩
  obtain ⟨m, hm⟩ := qkE hev cfg t a H r h
  exact hm m (qyN _)
theorem qyE (cfg : Cfg) : Ev (evF cfg) (EV cfg) := by
 intro t a H r h
 obtain ⟨n, hn⟩ := qaq h
 refine ⟨n, fun m hm => ?_⟩
 obtain ⟨d, rfl⟩ := Nat.exists_eq_add_of_le hm
 induction d with
 | zero => exact hn
 | succ d ih => exact qdP cfg _ t a H r (ih (by omega))
theorem qlx {cfg : Cfg} {t : Tgt} {a : List AV} {H : AH} {r : AV × AH} (h : xk cfg (EV cfg) t a H = some r) : EV cfg t a H = some r := by
 obtain ⟨n, hn⟩ := qkE (qyE cfg) cfg t a H r h
 exact qmw (g := fun n => evF cfg n t a H) (fun n r h => qdP cfg n t a H r h) (n := n + 1) (hn n (qyN _))
theorem qfn {k : Nat} {ts : Option (List Tmp)} {ls : List (Tmp × Nat)} {body : Den} {p : List AV × AH} {q : Ex × List AV × AH} (h : body p.1 p.2 = some q) (hq : ∀ x, q ≠ (.normal, x)) : LOOP k ts ls body p = some q := by
 refine qj8 (n := 1) ?_
 rw [zo, h]
 obtain ⟨e, q⟩ := q
 cases e with
 | normal => exact absurd rfl (hq q)
 | exit id => rfl
 | goto l => rfl
 | ret => rfl
theorem qsQ {k : Nat} {ts : Option (List Tmp)} {ls : List (Tmp × Nat)} {body : Den} {p : List AV × AH} {fr1 : List AV} {H1 : AH} {r : Ex × List AV × AH} (h : body p.1 p.2 = some (.normal, fr1, H1)) (hr : LOOP k ts ls body (qag k ts ls fr1 H1) = some r) : LOOP k ts ls body p = some r := by
 obtain ⟨n, hn⟩ := qaq hr
 refine qj8 (n := n + 1) ?_
 rw [zo, h]
 exact hn
variable {α : Type}
abbrev KV (α : Type) := AV → Option α
abbrev KH (α : Type) := AV → AH → Option α
abbrev KE (α : Type) := Ex → List AV → AH → Option α
abbrev KF (α : Type) := Tgt → List AV → AH → (AV × AH → Option α) → Option α
inductive FK where
 | int (k : IntKind)
 | bool
 | str
 | sl
 | any
def qaQ (a b : IntKind) : Bool := decide (a = b)
def kInt (kd : IntKind) (v : AV) (k : Int → Option α) : Option α :=
 match v with
 | .int k' n => cond (qaQ k' kd) (k n) none
 | _ => none
def qf (v : AV) (k : Bool → Option α) : Option α :=
 match v with
 | .bool b => k b
 | _ => none
def kStr (v : AV) (k : List UInt8 → Option α) : Option α :=
 match v with
 | .str s => k s
 | _ => none
def kSl (v : AV) (k : List (List AV) → Option α) : Option α :=
 match v with
 | .sl rows => k rows
 | _ => none
def kAgg (v : AV) (k : List AV → Option α) : Option α :=
 match v with
 | .agg cs => k cs
 | _ => none
def kOpt {β : Type} (o : Option β) (k : β → Option α) : Option α :=
 match o with
 | some b => k b
 | none => none
def qa (l : List AV) (k : AV → List AV → Option α) : Option α :=
 match l with
 | c :: cs => k c cs
 | [] => none
def kNil (l : List AV) (x : Option α) : Option α :=
 match l with
 | [] => x
 | _ => none
def qaa (s : FK) (v : AV) (k : KV α) : Option α :=
 match s with
 | .int kd => kInt kd v fun n => k (.int kd n)
 | .bool => qf v fun b => k (.bool b)
 | .str => kStr v fun s => k (.str s)
 | .sl => kSl v fun rows => k (.sl rows)
 | .any => k v
def qac : List FK → List AV → (List AV → Option α) → Option α
 | [], l, k => kNil l (k [])
 | s :: ss, l, k => qa l fun c cs => qaa s c fun v => qac ss cs fun vs => k (v :: vs)
def qr8 (sl : Bool) : TD → FK
 | .int k => .int k
 | .bool => .bool
 | .str => .str
 | .slice _ => if sl then .sl else .any
 | _ => .any
def qiG (cfg : Cfg) (p : TypeId → Bool) : Nat → TypeId → Option (List FK)
 | 0, _ => none
 | n + 1, t =>
  match cfg.td t with
  | some (.struct fs) => (fs.foldr (fun f acc => match qiG cfg p n f.2, acc with | some l, some a => some (l ++ a) | _, _ => none) (some []))
  | some (.array m e) => (match qiG cfg p n e with | some l => some ((qzf m l).flatten) | none => none)
  | some d => some [qr8 (p t) d]
  | none => none
def kTy1 (p : TypeId → Bool) (cfg : Cfg) (t : TypeId) (v : AV) (k : KV α) : Option α :=
 match cfg.td t with
 | some d =>
  match d with
  | .struct _ => (match qiG cfg p 6 t with | some ss => kAgg v fun cs => qac ss cs fun vs => k (.agg vs) | none => k v)
  | .array _ _ => (match qiG cfg p 6 t with | some ss => kAgg v fun cs => qac ss cs fun vs => k (.agg vs) | none => k v)
  | d => qaa (qr8 (p t) d) v k
 | none => k v
def kTup (v : AV) (k : List AV → Option α) : Option α :=
 match v with
 | .tup cs => k cs
 | _ => none
def kTys (p : TypeId → Bool) (cfg : Cfg) : List TypeId → List AV → (List AV → Option α) → Option α
 | [], l, k => kNil l (k [])
 | t :: ts, l, k => qa l fun c cs => kTy1 p cfg t c fun v => kTys p cfg ts cs fun vs => k (v :: vs)
def kTy (p : TypeId → Bool) (cfg : Cfg) (t : TypeId) (v : AV) (k : KV α) : Option α :=
 match cfg.tup t with
 | some ts => kTup v fun cs => kTys p cfg ts cs fun vs => k (.tup vs)
 | none => kTy1 p cfg t v k
def AV.lendA : AV → AV
 | .agg cs => .agg (cs.map AV.lend)
 | a => a
def noTy : TypeId → Bool := fun _ => false
def qfU : TypeId → Bool := fun _ => true
def qyu (cfg : Cfg) (H : AH) (a : AV) : TypeId → Bool :=
 match a with
 | .cptr _ _ => cfg.dat
 | .ptr id _ _ => if xl H id then cfg.dat else noTy
 | _ => noTy
def kNew (nid : Option Nat) (H : AH) (b : ABlk) (k : Nat → AH → Option α) : Option α :=
 match nid with
 | none => k H.length (H ++ [b])
 | some i => kOpt H[i]? fun x => match x with | .res => k i (H.set i b) | _ => none
def qrd (cfg : Cfg) (t : TypeId) : Bool := match cfg.td t with | some d => d.agg | none => false
def qas (agg : Bool) (v : AV) (k : List AV → Option α) : Option α :=
 cond agg (kAgg v fun cs => cond (xu cs) (k cs) none) (cond v.isCell (k [v]) none)
def qqG (t : Bool) (a b : AV) (k : KV α) : Option α :=
 match a, b with
 | .bool p, .bool q => k (.bool (cond t p q))
 | .int k1 p, .int k2 q => cond (qaQ k1 k2) (k (.int k1 (cond t p q))) (cond t (k a) (k b))
 | a, b => cond t (k a) (k b)
def qiR (place : Nat → Option (Nat × Nat × Bool)) (cells : List AV) : List (Nat × AV) → (List AV → Option α) → Option α
 | [], k => k cells
 | (i, v) :: rest, k =>
  match place i with
  | some (off, size, agg) => qas agg v fun cs => cond (qyW cs.length size && qyQ (off + size) cells.length) (qiR place (cells.take off ++ cs ++ cells.drop (off + size)) rest k) none
  | none => none
def qfH (cfg : Cfg) : List (Nat × TypeId) → Option (List (Nat × Nat × Bool))
 | [] => some []
 | (off, t) :: l =>
  match cfg.sz t, qfH cfg l with
  | some n, some ps => some ((off, n, qrd cfg t) :: ps)
  | _, _ => none
def qlr (agg : Bool) (n : Nat) (rows : List (List AV)) : List (Nat × AV) → (List (List AV) → Option α) → Option α
 | [], k => k rows
 | (i, v) :: rest, k => qas agg v fun cs => cond (qyW cs.length n && Nat.blt i rows.length) (qlr agg n (rows.set i cs) rest k) none
def kBlk (H : AH) (id : Nat) (k : Nat → List (List AV) → Option α) : Option α :=
 kOpt H[id]? fun b => match b with | .rows _ sz rs => k sz rs | .froz _ sz rs => k sz rs | _ => none
def qb9 (H : AH) (id : Nat) (k : Bool → Nat → List (List AV) → Option α) : Option α :=
 kOpt H[id]? fun b => match b with | .rows d sz rs => k d sz rs | _ => none
def qb7 (agg : Bool) (n : Nat) (cells : List AV) (off : Nat) (k : KV α) : Option α :=
 cond agg (cond (qyQ (off + n) cells.length) (k (.agg ((cells.drop off).take n))) none) (kOpt cells[off]? k)
def qiM (agg : Bool) (n : Nat) (H : AH) (p : AV) (k : KV α) : Option α :=
 match p with
 | .ptr id r off => kBlk H id fun _ rs => kOpt rs[r]? fun row => qb7 agg n row off k
 | .cptr cs off => qb7 agg n cs off k
 | .lpt cs off => qb7 agg n (cs.map AV.lend) off k
 | .rpt id cs => kOpt H[id]? fun b => match b with | .spl => cond (agg && qyW n 4) (qac [.int .i64, .int .i64, .str, .sl] cs fun vs => k (.alt [.agg (vs.map (AV.regn id)), .agg qa9])) none | _ => none
 | _ => none
def qmB (agg : Bool) (n : Nat) (H : AH) (p v : AV) (k : AH → Option α) : Option α :=
 match p with
 | .ptr id r off => qas agg v fun cs => qb9 H id fun d sz rs => kOpt rs[r]? fun row => cond (qyW cs.length n && qyQ (off + n) row.length) (k (H.set id (.rows (d && qz 0 cs) sz (rs.set r (row.take off ++ cs ++ row.drop (off + n)))))) none
 | .rpt id cs => kOpt H[id]? fun b => match b with | .spl => cond (qyW n 4 && zm cs && is77 v) (k H) none | _ => none
 | _ => none
def qe0 (v : AV) (k : KV α) : Option α :=
 match v with
 | .ptr id r off => k (.ptr id r off)
 | .cptr cs off => k (.cptr cs off)
 | .fn (.func f) a b => k (.fn (.func f) a b)
 | .mp id => k (.mp id)
 | .yld id => k (.yld id)
 | _ => none
def qh (a b : Int) : Bool := decide (a ≤ b)
def qg (a b : Int) : Bool := decide (a < b)
def qe4 (lo hi : Nat) (x : Option AV) (dflt : Nat) (k : Nat → Option α) : Option α :=
 match x with
 | none => k dflt
 | some v => match v with | .int _ i => cond (qh lo i && qh i hi) (k i.toNat) none | _ => none
def qar (n : Nat) (lo hi mx : Option AV) (k : Nat → Nat → Option α) : Option α :=
 cond (hi.isNone && mx.isSome) none (qe4 0 n hi n fun h => qe4 h n mx h fun _ => qe4 0 h lo 0 fun l => k l h)
def qmC (cfg : Cfg) (t : TypeId) (H : AH) (x : AV) (lo hi mx : Option AV) (k : KV α) : Option α :=
 match cfg.td t with
 | some .str => (match mx with | none => (match x with | .str s => qar s.length lo hi none fun l h => k (.str ((s.drop l).take (h - l))) | _ => none) | _ => none)
 | some (.slice e) =>
  match cfg.sz e with
  | some n =>
   match x with
   | .nilS => qar 0 lo hi mx fun _ _ => k .nilS
   | .sl rows => qar rows.length lo hi mx fun l h => cond (ve n rows) (match cfg.ems t with | false => k (.sl ((rows.drop l).take (h - l))) | true => k (slE true rows l h)) none
   | .ms id off len => qar len lo hi mx fun l h => kBlk H id fun sz _ => cond (qyW sz n) (k (.ms id (off + l) (h - l))) none
   | _ => none
  | none => none
 | _ => none
def qdC (cfg : Cfg) (t : TypeId) (H : AH) (x i : AV) (k : KV α) : Option α :=
 match i with
 | .int _ i =>
  match cfg.td t with
  | some (.slice e) =>
   match cfg.sz e with
   | some n =>
    match x with
    | .ms id off len => kBlk H id fun sz _ => cond (qyW sz n && qh 0 i && qg i len) (k (.ptr id (off + i.toNat) 0)) none
    | .sl rows => cond (qh 0 i && qg i rows.length) (kOpt rows[i.toNat]? fun row => cond (qyW row.length n) (k (.cptr row 0)) none) none
    | .lsl rows => cond (qh 0 i && qg i rows.length) (kOpt rows[i.toNat]? fun row => cond (qyW row.length n) (k (.lpt row 0)) none) none
    | .rsl id rows => cond (qh 0 i && qg i rows.length) (kOpt rows[i.toNat]? fun row => cond (qyW row.length n) (k (.rpt id row)) none) none
    | _ => none
   | none => none
  | some (.array n e) =>
   match cfg.sz e with
   | some sz =>
    match x with
    | .ptr id r off => cond (qh 0 i && qg i n) (k (.ptr id r (off + i.toNat * sz))) none
    | .cptr cs off => cond (qh 0 i && qg i n) (k (.cptr cs (off + i.toNat * sz))) none
    | _ => none
   | none => none
  | _ => none
 | _ => none
def qmI (cfg : Cfg) (t : TypeId) (x i : AV) (k : KV α) : Option α :=
 match i with
 | .int _ i =>
  match cfg.td t with
  | some (.array n e) =>
   match cfg.ty e with
   | some ti => kAgg x fun cs => cond (qh 0 i && qg i n) (qb7 ti.d.agg ti.sz cs (i.toNat * ti.sz) k) none
   | none => none
  | some .str => kStr x fun s => cond (qh 0 i) (kOpt s[i.toNat]? fun b => k (.int .u8 b.toNat)) none
  | _ => none
 | _ => none
def qmJ (cfg : Cfg) (t : TypeId) (x : AV) (f : Nat) (k : KV α) : Option α :=
 match cfg.td t with
 | some (.struct fs) =>
  match fs[f]? with
  | some (off, ft) => (match cfg.ty ft with | some ti => kAgg x fun cs => qb7 ti.d.agg ti.sz cs off k | none => none)
  | none => none
 | _ => none
def qdF (cfg : Cfg) (t : TypeId) (x : AV) (f : Nat) (k : KV α) : Option α :=
 match cfg.td t with
 | some (.struct fs) =>
  match fs[f]? with
  | some (o, ft) =>
   match cfg.sz ft with
   | some (_ + 1) => (match x with | .ptr id r off => k (.ptr id r (off + o)) | .cptr cs off => k (.cptr cs (off + o)) | _ => none)
   | _ => none
  | none => none
 | _ => none
def qhf (cfg : Cfg) (nid : Option Nat) (src dst : TypeId) (x : AV) (H : AH) (k : KH α) : Option α :=
 match cfg.td src, cfg.td dst with
 | some (.int _), some (.int kd) => (match x with | .int _ n => k (.int kd (kd.wrap n)) H | _ => none)
 | some .str, some .str => kStr x fun s => k (.str s) H
 | some .str, some (.slice e) =>
  match cfg.td e with
  | some (.int .u8) => kStr x fun s => kNew nid H (.rows true 1 (yR s)) fun i H' => k (.ms i 0 s.length) H'
  | _ => none
 | some (.slice e), some .str =>
  match cfg.td e with
  | some (.int .u8) => kOpt (xT H 1 x) fun rows => kOpt (xp rows) fun bs => k (.str bs) H
  | _ => none
 | _, _ => none
def qjR (H : AH) (n : Nat) (x : AV) (k : List (List AV) → Option α) : Option α :=
 match x with
 | .nilS => k []
 | .em => k []
 | .sl rows => cond (ve n rows) (k rows) none
 | .ms id off len => kBlk H id fun sz rs => cond (qyW sz n && qyQ (off + len) rs.length) (k ((rs.drop off).take len)) none
 | _ => none
def kSrc (isStr : Bool) (H : AH) (n : Nat) (x : AV) (k : List (List AV) → Option α) : Option α :=
 cond isStr (kStr x fun b => cond (qyW n 1) (k (yR b)) none) (qjR H n x k)
def qpc (cfg : Cfg) (t : TypeId) : Bool := match cfg.td t with | some .str => true | _ => false
def qjV (cfg : Cfg) (nid : Option Nat) (t xt : TypeId) (s x : AV) (H : AH) (k : KH α) : Option α :=
 match cfg.td t, cfg.td xt with
 | some (.slice e), some xd =>
  match cfg.ty e with
  | some ei =>
   cond (xd.notInt && Nat.blt 0 ei.sz && qyW ei.zero.length ei.sz)
    (kSrc (qpc cfg xt) H ei.sz x fun news =>
     match s with
     | .nilS => cond news.isEmpty (k .nilS H) (cond (qN news.length ei.bytes) (kNew nid H (.rows (xw H x) ei.sz news) fun i H' => k (.ms i 0 news.length) H') none)
     | .ms id off len => qb9 H id fun d sz rs => cond (qyW sz ei.sz && qyQ (off + len) rs.length && qN (len + news.length) ei.bytes)
       (kNew nid (H.set id .dead) (.rows (d && xw H x) sz ((rs.drop off).take len ++ news)) fun i H' => k (.ms i 0 (len + news.length)) H') none
     | _ => none) none
  | none => none
 | _, _ => none
def kLen (cfg : Cfg) (t : TypeId) (x : AV) (H : AH) (k : KV α) : Option α :=
 match cfg.td t with
 | some .str => kStr x fun s => k (.int .i64 s.length)
 | some (.slice _) => (match x with | .nilS => k (.int .i64 0) | .em => k (.int .i64 0) | .sl rows => k (.int .i64 rows.length) | .ms _ _ len => k (.int .i64 len) | .lsl rows => k (.int .i64 rows.length) | .rsl _ rows => k (.int .i64 rows.length) | _ => none)
 | some (.array n _) => k (.int .i64 n)
 | some (.map _ _) => (match x with | .nilM => k (.int .i64 0) | .mp id => (kOpt H[id]? fun b => match b with | .mp es => k (.int .i64 es.length) | _ => none) | _ => none)
 | _ => none
def qqI (cfg : Cfg) (nid : Option Nat) (t : TypeId) (len cap : AV) (H : AH) (k : KH α) : Option α :=
 match cfg.td t with
 | some (.slice e) =>
  match cfg.ty e with
  | some ei =>
   cond (y4 ei) (kInt .i64 len fun n => kInt .i64 cap fun c =>
    cond (qh 0 n && qh n c && qh (c * ei.bytes) 140737488355328 && qh c 9223372036854775807) (kNew nid H (.rows true ei.sz (qzf n.toNat ei.zero)) fun i H' => k (.ms i 0 n.toNat) H') none) none
  | none => none
 | _ => none
def qmL (cfg : Cfg) (t : TypeId) (x : AV) (H : AH) (k : AH → Option α) : Option α :=
 match cfg.td t with
 | some (.slice e) =>
  match x with
  | .nilS => k H
  | .ms id off len =>
   match cfg.ty e with
   | some ei => qb9 H id fun d sz rs => cond (y4 ei && qyW sz ei.sz && qyQ (off + len) rs.length) (k (H.set id (.rows d sz (rs.take off ++ qzf len ei.zero ++ rs.drop (off + len))))) none
   | none => none
  | _ => none
 | _ => none
def qqO (cfg : Cfg) (t xt : TypeId) (d s : AV) (H : AH) (k : KH α) : Option α :=
 match cfg.td t with
 | some (.slice e) =>
  match d with
  | .ms id off len =>
   match cfg.sz e with
   | some n => qb9 H id fun d sz rs => kSrc (qpc cfg xt) H n s fun news => cond (qyW sz n && qyQ (off + len) rs.length && Nat.blt 0 sz)
     (k (.int .i64 (Nat.min news.length len)) (H.set id (.rows (d && xw H s) sz (rs.take off ++ news.take len ++ rs.drop (off + (news.take len).length))))) none
   | none => none
  | _ => none
 | _ => none
def kOp (cfg : Cfg) (nid : Option Nat) (o : Op) (ty : TypeId) (x : Operand → AV) (H : AH) (k : KH α) : Option α :=
 match o with
 | .move a | .assign a => k (x a) H
 | .pick c a b => qf (x c) fun t => qqG t (x a) (x b) fun v => k v H
 | .alloc t =>
  match cfg.ty t with
  | some ti => cond (xu ti.zero) (kNew nid H (.rows (bigZ (cfg.fga t ti.zero)) ti.zero.length [cfg.fga t ti.zero]) fun i H' => k (.ptr i 0 0) H') none
  | none => none
 | .box t a => qas (qrd cfg t) (x a) fun cs => kNew nid H (.rows (bigZ cs) cs.length [cs]) fun i H' => k (.ptr i 0 0) H'
 | .build t parts =>
  match cfg.ty t with
  | some ti =>
   cond (xu ti.zero)
    (match ti.d with
    | .struct fs =>
     match qfH cfg fs with
     | some ps => qiR (fun i => ps[i]?) ti.zero (parts.toList.map fun p => (p.1, x p.2)) fun cs => k (.agg (cfg.fga t cs)) H
     | none => none
    | .array _ e =>
     match cfg.sz e with
     | some n => qiR (fun i => some (i * n, n, qrd cfg e)) ti.zero (parts.toList.map fun p => (p.1, x p.2)) fun cs => k (.agg cs) H
     | none => none
    | _ => none) none
  | none => none
 | .buildSlice t len parts =>
  match cfg.td t with
  | some (.slice e) =>
   match cfg.ty e with
   | some ei =>
    cond (y4 ei && qyQ (len * ei.sz) 16777216)
     (qlr ei.d.agg ei.sz (qzf len ei.zero) (parts.toList.map fun p => (p.1, x p.2)) fun rows => kNew nid H (.rows (qL 0 rows) ei.sz rows) fun i H' => k (.ms i 0 len) H') none
   | none => none
  | _ => none
 | .load t a =>
  match cfg.ty t with
  | some ti => match x a with
   | .lpt cs off => qb7 ti.d.agg ti.sz cs off fun v => kTy cfg.dat cfg t v fun v => cond ti.d.agg (k v.lendA H) (k v.lend H)
   | .rpt id cs => qiM ti.d.agg ti.sz H (.rpt id cs) fun v => k v H
   | p => qiM ti.d.agg ti.sz H p fun v => kTy (qyu cfg H p) cfg t v fun v => k v H
  | none => none
 | .store t a v =>
  match cfg.ty t with
  | some ti => qmB ti.d.agg ti.sz H (x a) (x v) fun H' => k .junk H'
  | none => none
 | .nilCheck a => qe0 (x a) fun v => k v H
 | .binOp op t a b _ => kOpt (aBin cfg op t (x a) (x b)) fun v => kTy noTy cfg ty v fun v => k v H
 | .unOp op _ a => kOpt (aUn op (x a)) fun v => kTy noTy cfg ty v fun v => k v H
 | .convert s d a => qhf cfg nid s d (x a) H k
 | .makeFunc f first caps => k (.fn f (first.toList.map x) (caps.toList.map x)) H
 | .makeSlice t l c => qqI cfg nid t (x l) (x c) H k
 | .slice t a lo hi mx => qmC cfg t H (x a) (lo.map x) (hi.map x) (mx.map x) fun v => k v H
 | .fieldAddr t a f => qdF cfg t (x a) f fun v => k v H
 | .field t a f => qmJ cfg t (x a) f fun v => kTy noTy cfg ty v fun v => k v H
 | .indexAddr t a i => qdC cfg t H (x a) (x i) fun v => k v H
 | .index t a i => qmI cfg t (x a) (x i) fun v => kTy noTy cfg ty v fun v => k v H
 | .extract t i => (match x t with | .tup vs => kOpt vs[i]? fun v => kTy noTy cfg ty v fun v => k v H | _ => none)
 | .call c =>
  match c.callee with
  | .builtin b =>
   match b, c.args.toList, c.argTypes.toList with
   | .len, [a], [t] => kLen cfg t (x a) H fun v => k v H
   | .append, [s, a], [t, xt] => qjV cfg nid t xt (x s) (x a) H k
   | .copy, [d, s], [t, xt] => qqO cfg t xt (x d) (x s) H k
   | .clear, [a], [t] => qmL cfg t (x a) H fun H' => k (.tup []) H'
   | .min, [a, b], _ => kOpt (aMin (fun b a => decide (b < a)) [x a, x b]) fun v => kTy noTy cfg ty v fun v => k v H
   | .max, [a, b], _ => kOpt (aMin (fun b a => decide (a < b)) [x a, x b]) fun v => kTy noTy cfg ty v fun v => k v H
   | _, _, _ => none
  | _ => none
 | _ => none
def qiP (g s : Bool) (H : AH) (v : AV) (k : KV α) : Option α :=
 match v with
 | .ms id off len => kBlk H id fun _ rs => cond (qyQ (off + len) rs.length && (xl H id || qL 0 ((rs.drop off).take len))) (k (.sl ((rs.drop off).take len))) none
 | .nilS => k (cond g (.sl []) .nilS)
 | .em => k (cond g (.sl []) .em)
 | .ptr id r off => cond s (kBlk H id fun _ rs => kOpt rs[r]? fun row => cond (qz 0 row) (k (.cptr row off)) none) (k (.ptr id r off))
 | .rsl id rows => cond s (kOpt H[id]? fun b => match b with | .reg => k (.sl rows) | _ => none) (k (.rsl id rows))
 | a => k a
def zG (g s : Bool) (H : AH) : List AV → (List AV → Option α) → Option α
 | [], k => k []
 | a :: l, k => qiP g s H a fun a => zG g s H l fun l => k (a :: l)
def qbk (s : Bool) (H : AH) (v : AV) (k : KV α) : Option α :=
 match v with
 | .agg cs => zG true s H cs fun cs => k (.agg cs)
 | .tup cs => cond s (k ((AV.tup cs).fg)) (zG true s H cs fun cs => k (.tup cs))
 | .fn f a b => cond s (zG false s H a fun a => zG false s H b fun b => k (.fn f a b)) (k (.fn f a b))
 | a => qiP true s H a k
def qqJ (H : AH) (v : AV) (k : KV α) : Option α :=
 match v with
 | .agg cs => zG false false H cs fun cs => k (.agg cs)
 | .tup cs => zG false false H cs fun cs => k (.tup cs)
 | a => qiP false false H a k
def qe2 (H : AH) : List AV → (List AV → Option α) → Option α
 | [], k => k []
 | a :: l, k => qqJ H a fun a => qe2 H l fun l => k (a :: l)
def qlw (H : AH) : List AV → (List AV → Option α) → Option α
 | [], k => k []
 | a :: l, k => qbk true H a fun a => qlw H l fun l => k (a :: l)
inductive OV where
 | nil
 | own (sz : Nat) (rs : List (List AV)) (off len : Nat)
def ovOf (r : AV × AH) : Option OV :=
 match r.1 with
 | .nilS => some .nil
 | .ms id off len =>
  match r.2[id]? with
  | some (.rows d sz rs) => if d || qL 0 rs then some (.own sz rs off len) else none
  | _ => none
 | _ => none
def qqn (r : AV × AH) : Option (OV × AV) :=
 match r.1 with
 | .tup [a, s] => cond s.scalar1 (match ovOf (a, r.2) with | some o => some (o, s) | none => none) none
 | _ => none
def EVd (cf : Orac) (f : Nat) (args : List AV) (sz : Nat) (rs : List (List AV)) : Option (AV × List (List AV)) := (cf (.f f) args [.rows true sz rs]).bind (qi1 sz)
def EVx (cf : Orac) (f : Nat) (args : List AV) (sz : Nat) (rs : List (List AV)) : Option (AV × List (List AV)) := (cf (.f f) args [.rows false sz rs]).bind (qh5 sz)
open Classical in
noncomputable def EVk (cf : Orac) (f : Nat) (args : List AV) (sz : Nat) (rs : List (List AV)) : Option AV := (EVx cf f args sz rs).bind fun q => if q.2 = rs then some q.1 else none
theorem qjp {cf : Orac} {f : Nat} {args : List AV} {sz : Nat} {rs : List (List AV)} {v : AV} (h : EVx cf f args sz rs = some (v, rs)) : EVk cf f args sz rs = some v := by
 unfold EVk; rw [h]; exact if_pos rfl
theorem qt5 {cf : Orac} {f : Nat} {args : List AV} {sz : Nat} {rs : List (List AV)} {v : AV} (h : EVk cf f args sz rs = some v) : EVx cf f args sz rs = some (v, rs) := by
 unfold EVk at h
 obtain ⟨q, h1, h2⟩ := qyJ.1 h
 split at h2
 ·rename_i e
  rw [h1, ← Option.some.inj h2, ← e]
 ·cases h2
def EVs (cf : Orac) (f : Nat) (args : List AV) : Option AV := (cf (.f f) args []).map fun r => r.1
def EVf (cf : Orac) (f : Nat) (args : List AV) : Option AV := (cf (.f f) args []).map fun r => (r.1.frz r.1.msIds r.2).fg
def EVo (cf : Orac) (f : Nat) (args : List AV) : Option OV := (cf (.f f) args []).bind ovOf
def EVg (cf : Orac) (f : Nat) (args : List AV) : Option AV := (cf (.f f) args []).bind fun r => qcP r.2 r.1
def EVz (cf : Orac) (f : Nat) (a : AV) : Option Unit := (cf (.f f) [a] [.spl]).bind qfI
def qiV (cf : Orac) (f : Nat) : List AV → Option α → Option α
 | [], k => k
 | a :: l, k => kOpt (EVz cf f a) fun _ => qiV cf f l k
def EVq (cf : Orac) (f : Nat) (args : List AV) : Option (OV × AV) := (cf (.f f) args []).bind qqn
def kOwn (o : OV) (x : Option α) (k : Nat → List (List AV) → Nat → Nat → Option α) : Option α :=
 match o with
 | .nil => x
 | .own sz rs off len => k sz rs off len
inductive MV where
 | unit
 | nil
 | sl (off len : Nat)
 | int (k : IntKind) (n : Int)
 | bool (b : Bool)
def mvOf : AV → Option MV
 | .tup [] => some .unit
 | .nilS => some .nil
 | .ms id off len => if qyW id 0 then some (.sl off len) else none
 | .int k n => some (.int k n)
 | .bool b => some (.bool b)
 | _ => none
def MV.av (id : Nat) : MV → AV
 | .unit => .tup []
 | .nil => .nilS
 | .sl off len => .ms id off len
 | .int k n => .int k n
 | .bool b => .bool b
def EVm (cf : Orac) (f : Nat) (args : List AV) (sz : Nat) (rs : List (List AV)) : Option (MV × List (List AV)) :=
 (cf (.f f) args [.rows true sz rs]).bind fun r => (qiv sz r).bind fun q => (mvOf q.1).map fun v => (v, q.2)
def EVu (cf : Orac) (f : Nat) (args : List AV) : Option MV := (cf (.f f) args []).bind fun r => if r.1.refsLt 0 then mvOf r.1 else none
def kMSl (v : MV) (x : Option α) (k : Nat → Nat → Option α) : Option α :=
 match v with
 | .nil => x
 | .sl off len => k off len
 | _ => none
def zB (v : MV) (x : Option α) : Option α :=
 match v with
 | .unit => x
 | _ => none
def z8 (kd : IntKind) (v : MV) (k : Int → Option α) : Option α :=
 match v with
 | .int q n => cond (qaQ q kd) (k n) none
 | _ => none
def xr (v : MV) (k : Bool → Option α) : Option α :=
 match v with
 | .bool b => k b
 | _ => none
def qrX (cfg : Cfg) (ty : TypeId) : Nat :=
 match cfg.td ty with
 | some (.slice _) => 1
 | some (.int _) => 2
 | some .bool => 3
 | _ => 0
def quI (cfg : Cfg) (ty : TypeId) : IntKind :=
 match cfg.td ty with
 | some (.int k) => k
 | _ => .i64
def qlu (kd : Nat) (ik : IntKind) (id : Nat) (v : MV) (k : KV α) : Option α :=
 match kd with
 | 0 => zB v (k (.tup []))
 | 1 => kMSl v (k .nilS) fun off len => k (.ms id off len)
 | 2 => z8 ik v fun n => k (.int ik n)
 | _ => xr v fun b => k (.bool b)
noncomputable def qfQ (cfg : Cfg) (cf : Orac) (kf : KF α) (nid : Option Nat) (ty : TypeId) (t : Tgt) (args : List AV) (H : AH) (k : KH α) : Option α :=
 match t with
 | .y id => kf (.y id) args H fun r => kOpt (yn nid H.length r.1 r.2) fun r => kTy noTy cfg ty r.1 fun v => k v r.2
 | .f f =>
  match cfg.mode f with
  | .scal => qlw H args fun al => cond (qz 0 al) (match cfg.inl f with
   | some _ => kf (.f f) al [] fun r => kTy noTy cfg ty r.1 fun v => cond v.scalar (k v H) none
   | none => kOpt (EVs cf f al) fun v => kTy noTy cfg ty v fun v => cond v.scalar (k v H) none) none
  | .pfrz => cond (qz 0 (args.map AV.fg)) (match cfg.inl f with
   | some _ => kf (.f f) (args.map AV.fg) [] fun r => qbk false r.2 r.1 fun v => kTy qfU cfg ty v fun v => cond (v.refsLt 0) (k v H) none
   | none => kOpt (EVf cf f (args.map AV.fg)) fun v => kTy qfU cfg ty v fun v => cond (v.refsLt 0) (k v H) none) none
  | .pown => match cfg.tup ty with
   | some [_, t2] => cond (qz 0 args) (kOpt (EVq cf f args) fun q => kTy1 noTy cfg t2 q.2 fun s => kOwn q.1 (k (.tup [.nilS, s]) H) fun sz rs off len => kNew nid H (.rows true sz rs) fun i H' => k (.tup [.ms i off len, s]) H') none
   | _ => cond (qz 0 args) (match cfg.inl f with
   | some _ => kf (.f f) args [] fun r => kOpt (ovOf r) fun o => kOwn o (k .nilS H) fun sz rs off len => kNew nid H (.rows true sz rs) fun i H' => k (.ms i off len) H'
   | none => kOpt (EVo cf f args) fun o => kOwn o (k .nilS H) fun sz rs off len => kNew nid H (.rows true sz rs) fun i H' => k (.ms i off len) H') none
  | .inpl =>
   match q5 0 args with
   | id :: l => cond (xJ [id] l) (kOpt H[id]? fun b => match b with
     | .rows d sz rs => cond (d || qL 0 rs) (kOpt (EVm cf f (renL (fun _ => 0) args) sz rs) fun q => qlu (qrX cfg ty) (quI cfg ty) id q.1 fun v => k v (H.set id (.rows true sz q.2))) none
     | _ => none) none
   | [] => cond (qz 0 args) (kOpt (EVu cf f args) fun v => qlu (qrX cfg ty) (quI cfg ty) 0 v fun v => k v H) none
  | .imp => kf (.f f) args H fun r => kOpt (yn nid H.length r.1 r.2) fun r => kTy noTy cfg ty r.1 fun v => k v r.2
  | .ifrz => kf (.f f) args H fun r => kOpt (yn nid H.length (r.1.frz r.1.msIds r.2) (q6 r.1.msIds r.2)) fun r => kTy noTy cfg ty r.1 fun v => k v r.2
  | .inpf =>
   match q5 0 args with
   | id :: l => cond (xJ [id] l) (kOpt H[id]? fun b => match b with
     | .rows d sz rs => cond (d || qL 0 rs) (kOpt (EVd cf f (renL (fun _ => 0) args) sz rs) fun q => kTy qfU cfg ty q.1 fun v => k v (H.set id (.rows true sz q.2))) none
     | _ => none) none
   | [] => none
  | .slf =>
   match q5 0 args with
   | id :: l => cond (xJ [id] l) (kOpt H[id]? fun b => match b with
     | .rows _ sz rs => cond (xJ [id] (ya 0 rs)) (kOpt (EVk cf f (renL (fun _ => 0) args) sz (renR (fun _ => 0) rs)) fun q => kTy qfU cfg ty q fun v => k v (H.set id (.rows false sz (renR (fun _ => id) (renR (fun _ => 0) rs))))) none
     | _ => none) none
   | [] => none
  | .rgn => cond (qz 0 (args.map AV.fg)) (kOpt (EVg cf f (args.map AV.fg)) fun V => kTy qfU cfg ty V fun V => kNew nid H .reg fun i H' => k (rgIn i V) H') none
  | .over =>
   match args with
   | [a] =>
    (match q5 0 a.alts with
    | id :: l => cond (xJ [id] l) (kOpt H[id]? fun b => match b with
      | .reg => qiV cf f (renL (fun _ => 0) a.alts) (k (.tup []) (H.set id .spl))
      | .spl => qiV cf f (renL (fun _ => 0) a.alts) (k (.tup []) H)
      | _ => none) none
    | [] => none)
   | _ => none
def kTgt (f : AV) (args : List AV) (k : Tgt → List AV → Option α) : Option α :=
 match f with
 | .fn (.func g) first caps => k (.f g) (first ++ args ++ caps)
 | .yld id => k (.y id) args
 | _ => none
def opEq : Operand → Operand → Bool
 | .tmp a, .tmp b => qyW a b
 | _, _ => false
def frzX : List Operand → List AV → (Operand → AV) → Operand → AV
 | b :: l, v :: al, x, a => cond (opEq b a) v (frzX l al x a)
 | _, _, x, a => x a
noncomputable def qlv (cfg : Cfg) (nid : Option Nat) (o : Oper) (x : Operand → AV) (H : AH) (k : KH α) : Option α :=
 qe2 H (o.op.operands.toList.map x) fun al =>
  kOp cfg nid o.op o.type (frzX o.op.operands.toList al fun a => (x a).frz (o.op.operands.toList.flatMap fun a => (x a).msIds) H) (q6 (o.op.operands.toList.flatMap fun a => (x a).msIds) H) k
noncomputable def qlt (cfg : Cfg) (cf : Orac) (kf : KF α) (frz : Bool) (nid : Option Nat) (o : Oper) (x : Operand → AV) (H : AH) (k : KH α) : Option α :=
 cond frz
  (match o.op with
   | .call c =>
    match c.callee with
    | .value f => qe2 H (c.args.toList.map x) fun al => kTgt ((x f).frz (o.op.operands.toList.flatMap fun a => (x a).msIds) H) al fun t al =>
      qfQ cfg cf kf nid o.type t al (q6 (o.op.operands.toList.flatMap fun a => (x a).msIds) H) k
    | _ => qlv cfg nid o x H k
   | _ => qlv cfg nid o x H k)
  (match o.op with
   | .call c =>
    match c.callee with
    | .value f => kTgt (x f) (c.args.toList.map x) fun t al => qfQ cfg cf kf nid o.type t al H k
    | _ => kOp cfg nid o.op o.type x H k
   | _ => kOp cfg nid o.op o.type x H k)
def qfO (ops : Array Oper) (fr : List AV) (o : Oper) (k : Bool → List AV → Option α) : Option α :=
 match o.guard with
 | none => k true fr
 | some (j, want) =>
  match (ops[j]?).bind (·.dst) with
  | some d => kOpt fr[d]? fun v => match v with
   | .tup l => (match l with | [] => k false fr | _ => none)
   | v => qf v fun b => cond b (k want (fr.set d (.bool true))) (k (!want) (fr.set d (.bool false)))
  | none => none
noncomputable def kOps (cfg : Cfg) (cf : Orac) (kf : KF α) (f rid : Nat) (ops : Array Oper) : Nat → List Oper → List AV → AH → (List AV → AH → Option α) → Option α
 | _, [], fr, H, k => k fr H
 | n, o :: rest, fr, H, k => qfO ops fr o fun b fr =>
   cond b (qlt cfg cf kf (cfg.frz f rid n) none o (opd fr) H fun v H' => kOps cfg cf kf f rid ops (n + 1) rest (put fr o.dst v) H' k) (kOps cfg cf kf f rid ops (n + 1) rest (put fr o.dst (.tup [])) H k)
noncomputable def qiT (cfg : Cfg) (cf : Orac) (kf : KF α) (f rid : Nat) (ops : Array Oper) : Nat → Nat → List Oper → List AV → AH → (List FP → List AV → AH → Option α) → Option α
 | _, _, [], fr, H, k => k [] fr H
 | n, at_, o :: rest, fr, H, k => qfO ops fr o fun b fr =>
   cond b
    (qlt cfg cf kf (cfg.frz f rid n) (some at_) o (opd fr) H fun v H' =>
     qiT cfg cf kf f rid ops (n + 1) (cond (qfN cfg o) (at_ + 1) at_) rest (put fr o.dst v) H' fun fps fr' H'' => k (yY cfg (cfg.frz f rid n) at_ o (opd fr) :: fps) fr' H'')
    (qiT cfg cf kf f rid ops (n + 1) (cond (qfN cfg o) (at_ + 1) at_) rest (put fr o.dst (.tup [])) H fun fps fr' H'' => k (.none :: fps) fr' H'')
open Classical in
noncomputable def CUT {β : Type} (p : β) : Option β := if ∃ q : β, some q = some p then some p else none
theorem qsT {β : Type} (p : β) : CUT p = some p := if_pos ⟨p, rfl⟩
noncomputable def vK (ts : Option (List Tmp)) (fr : List AV) (H : AH) (g : List AV → AH → Option α) : Option α :=
 match ts with
 | none => g fr H
 | some ks => kOpt (CUT (vT (some ks) fr, H)) fun p => g p.1 p.2
theorem qdR {β : Type} {p : β} {K : β → Option α} {r : α} (h : K p = some r) : kOpt (CUT p) K = some r := by rw [qsT]; exact h
theorem qoy {ts : Option (List Tmp)} {fr : List AV} {H : AH} {g : List AV → AH → Option α} {r : α} (h : vK ts fr H g = some r) : g (vT ts fr) H = some r := by
 cases ts with
 | none => exact h
 | some ks =>
  have h : kOpt (CUT (vT (some ks) fr, H)) (fun p => g p.1 p.2) = some r := h
  rw [qsT] at h
  exact h
def kSeq (nx : List AV → AH → Option α) (k : KE α) : KE α := fun e fr H =>
 match e with
 | .normal => nx fr H
 | e => k e fr H
def vF (id : Nat) (k : KE α) : KE α := fun e fr H =>
 match e with
 | .exit id' => cond (qyW id' id) (k .normal fr H) (k (.exit id') fr H)
 | e => k e fr H
def qcU (k : KE α) : KE α := fun e fr H =>
 match e with
 | .goto _ => none
 | e => k e fr H
def kAft (ts : Option (List Tmp)) (k : KE α) (r : Ex × List AV × AH) : Option α := k r.1 (vT ts r.2.1) r.2.2
def known (fr : List AV) (c : Operand) (b : Bool) : List AV :=
 match c with
 | .tmp d => fr.set d (.bool b)
 | _ => fr
def quK (b : ABlk) (k : Option Code → Option α) : Option α :=
 match b with
 | .loop _ _ _ _ _ pend st => (match st with | .busy => none | _ => k pend)
 | _ => none
def qmG (pend : Option Code) (k : KE α) (fr : List AV) (H : AH) : Option α :=
 match pend with
 | none => k .normal fr H
 | some c => (match c with | .ret => k .ret fr H | .exit id => k (.exit id) fr H | _ => none)
def xM (bs n : Nat) (fr : List AV) (k : KE α) (H : AH) : Option α :=
 kOpt H[n]? fun b => quK b fun pend => qmG pend k (gc bs fr (H.set n .dead)).1 (gc bs fr (H.set n .dead)).2
def qse (cfg : Cfg) (_cf : Orac) (kf : KF α) (f : Nat) (rd : Option Nat) (bs : Nat) (g : AV) (ps : List Tmp) (assign body : Code) (fr : List AV) (H : AH) (k : KE α) : Option α :=
 cond (qlX rd H)
  (match g with
   | .fn (.func h) first caps => cond (cfg.ext h).isNone
     (kf (.f h) (first ++ [.yld H.length] ++ caps) (H ++ [.loop f (vT (cfg.keepIn f (qq body)) fr) ps assign body none .ready]) fun r =>
      xM bs H.length (vT (cfg.keepOut f (qq body)) fr) k r.2) none
   | _ => none) none
noncomputable def qT (cfg : Cfg) (cf : Orac) (kf : KF α) (f : Nat) (rd : Option Nat) (bs : Nat) : Code → List AV → AH → KE α → Option α
 | .skip, fr, H, k => k .normal fr H
 | .label _, fr, H, k => k .normal fr H
 | .region id ops draw, fr, H, k =>
  cond draw
   (cond (qdQ ops)
    (qiT cfg cf kf f id ops 0 H.length ops.toList fr (H ++ qzf (places cfg ops.toList) .res) fun fps fr' H' => cond (qc4 (ancs [] ops.toList) 0 fps) (k .normal fr' H') none) none)
   (kOps cfg cf kf f id ops 0 ops.toList fr H fun fr' H' => k .normal fr' H')
 | .seq a b, fr, H, k => qT cfg cf kf f rd bs a fr H (kSeq (fun fr H => vK (cfg.cut f (qq b)) fr H fun fr H => qT cfg cf kf f rd bs b fr H k) k)
 | .cond c a b, fr, H, k => qf (opd fr c) fun t => cond t (qT cfg cf kf f rd bs a (known fr c true) H k) (qT cfg cf kf f rd bs b (known fr c false) H k)
 | .block id a, fr, H, k => qT cfg cf kf f rd bs a fr H (vF id k)
 | .loop a, fr, H, k => kOpt (LOOP bs (cfg.keepIn f (qq a)) (cfg.lift f (qq a)) (evC cfg cf f rd bs a) (qag bs (cfg.keepIn f (qq a)) (cfg.lift f (qq a)) fr H)) (kAft (cfg.keepOut f (qq a)) k)
 | .scope a, fr, H, k => qT cfg cf kf f rd bs a fr H (qcU k)
 | .exit id, fr, H, k => k (.exit id) fr H
 | .goto _, _, _, _ => none
 | .ret, fr, H, k => k .ret fr H
 | .rangeFunc g ps assign body, fr, H, k => qse cfg cf kf f rd bs (opd (vI (cfg.lift f (qq body)) fr H).1 g) ps.toList assign body (vI (cfg.lift f (qq body)) fr H).1 (vI (cfg.lift f (qq body)) fr H).2 k
 | .refuse _, _, _, _ => none
inductive Ko where
 | seq (c : Code)
 | block (id : Nat)
 | scope
noncomputable def kRun (cfg : Cfg) (cf : Orac) (kf : KF α) (f : Nat) (rd : Option Nat) (bs : Nat) (k : KE α) : List Ko → KE α
 | [] => k
 | .seq c :: s => kSeq (fun fr H => vK (cfg.cut f (qq c)) fr H fun fr H => qT cfg cf kf f rd bs c fr H (kRun cfg cf kf f rd bs k s)) (kRun cfg cf kf f rd bs k s)
 | .block id :: s => vF id (kRun cfg cf kf f rd bs k s)
 | .scope :: s => qcU (kRun cfg cf kf f rd bs k s)
def kRes (cfg : Cfg) (fr : List AV) (H : AH) : List ResultVar → (List AV → Option α) → Option α
 | [], k => k []
 | .tmp t :: l, k => kRes cfg fr H l fun vs => k (fr.getD t .junk :: vs)
 | .cell a t :: l, k =>
  match cfg.ty t with
  | some ti => qiM ti.d.agg ti.sz H (fr.getD a .junk) fun v => kTy noTy cfg t v fun v => kRes cfg fr H l fun vs => k (v :: vs)
  | none => none
variable {α : Type} {r : α} {H : AH}
theorem qv {b : Bool} {x : Option α} (h : cond b x none = some r) : b = true ∧ x = some r := by cases b <;> simp_all
theorem qq7 {b : Bool} {x : Option α} (h : cond b none x = some r) : b = false ∧ x = some r := by cases b <;> simp_all
theorem yh {b : Bool} {x y : Option α} (h : cond b x y = some r) : (b = true ∧ x = some r) ∨ (b = false ∧ y = some r) := by cases b <;> simp_all
theorem qeV {a b : IntKind} (h : qaQ a b = true) : a = b := by simpa [qaQ] using h
theorem vZ {a b : Int} : qh a b = true ↔ a ≤ b := by simp [qh]
theorem zf {a b : Int} : qg a b = true ↔ a < b := by simp [qg]
theorem qaR {kd : IntKind} {v : AV} {k : Int → Option α} (h : kInt kd v k = some r) : ∃ n, v = .int kd n ∧ k n = some r := by
 unfold kInt at h
 split at h
 ·obtain ⟨h1, h2⟩ := qv h
  rw [qeV h1]; exact ⟨_, rfl, h2⟩
 ·cases h
theorem qbm {v : AV} {k : Bool → Option α} (h : qf v k = some r) : ∃ b, v = .bool b ∧ k b = some r := by
 unfold qf at h; split at h
 ·exact ⟨_, rfl, h⟩
 ·cases h
theorem zg {v : AV} {k : List UInt8 → Option α} (h : kStr v k = some r) : ∃ b, v = .str b ∧ k b = some r := by
 unfold kStr at h; split at h
 ·exact ⟨_, rfl, h⟩
 ·cases h
theorem qca {v : AV} {k : List AV → Option α} (h : kAgg v k = some r) : ∃ b, v = .agg b ∧ k b = some r := by
 unfold kAgg at h; split at h
 ·exact ⟨_, rfl, h⟩
 ·cases h
theorem qG {β : Type} {o : Option β} {k : β → Option α} (h : kOpt o k = some r) : ∃ b, o = some b ∧ k b = some r := by
 unfold kOpt at h; split at h
 ·exact ⟨_, rfl, h⟩
 ·cases h
theorem zs {l : List AV} {k : AV → List AV → Option α} (h : qa l k = some r) : ∃ a b, l = a :: b ∧ k a b = some r := by
 unfold qa at h; split at h
 ·exact ⟨_, _, rfl, h⟩
 ·cases h
theorem qeZ {l : List AV} {x : Option α} (h : kNil l x = some r) : l = [] ∧ x = some r := by
 unfold kNil at h; split at h
 ·exact ⟨rfl, h⟩
 ·cases h
theorem qgP {s : FK} {v : AV} {k : KV α} (h : qaa s v k = some r) : k v = some r := by
 cases s with
 | int kd => obtain ⟨n, rfl, h1⟩ := qaR h; exact h1
 | bool => obtain ⟨n, rfl, h1⟩ := qbm h; exact h1
 | str => obtain ⟨n, rfl, h1⟩ := zg h; exact h1
 | sl =>
  have h : kSl v (fun rows => k (.sl rows)) = some r := h
  unfold kSl at h
  split at h
  ·exact h
  ·cases h
 | any => exact h
theorem qcw : ∀ {ss : List FK} {l : List AV} {k : List AV → Option α}, qac ss l k = some r → k l = some r
 | [], l, k, h => by
  obtain ⟨rfl, h1⟩ := qeZ h
  exact h1
 | s :: ss, l, k, h => by
  obtain ⟨a, b, rfl, h1⟩ := zs h
  exact qcw (k := fun vs => k (a :: vs)) (qgP (k := fun v => qac ss b fun vs => k (v :: vs)) h1)
theorem qqP {l0 : List AV} {k : List AV → Option α} (h0 : qac [.int .i64, .int .i64, .str, .sl] l0 k = some r) : zm l0 = true ∧ k l0 = some r := by
 refine ⟨?_, qcw h0⟩
 simp only [qac] at h0
 obtain ⟨a, l1, rfl, h1⟩ := zs h0
 obtain ⟨n, rfl, h2⟩ := qaR (k := fun n => qa l1 fun c cs => qaa (.int .i64) c fun v => qa cs fun c cs => qaa .str c fun v1 => qa cs fun c cs => qaa .sl c fun v2 => kNil cs (k [.int .i64 n, v, v1, v2])) h1
 obtain ⟨a, l2, rfl, h3⟩ := zs h2
 obtain ⟨m, rfl, h4⟩ := qaR (k := fun m => qa l2 fun c cs => qaa .str c fun v1 => qa cs fun c cs => qaa .sl c fun v2 => kNil cs (k [.int .i64 n, .int .i64 m, v1, v2])) h3
 obtain ⟨a, l3, rfl, h5⟩ := zs h4
 obtain ⟨s, rfl, h6⟩ := zg (k := fun s => qa l3 fun c cs => qaa .sl c fun v2 => kNil cs (k [.int .i64 n, .int .i64 m, .str s, v2])) h5
 obtain ⟨a, l4, rfl, h7⟩ := zs h6
 have h8 : kSl a (fun rows => kNil l4 (k [.int .i64 n, .int .i64 m, .str s, .sl rows])) = some r := h7
 unfold kSl at h8
 split at h8
 ·obtain ⟨rfl, _⟩ := qeZ h8
  rfl
 ·cases h8
theorem qeX {p : TypeId → Bool} {cfg : Cfg} {t : TypeId} {v : AV} {k : KV α} (h : kTy1 p cfg t v k = some r) : k v = some r := by
 unfold kTy1 at h
 have agg : ∀ {ss : List FK}, (kAgg v fun cs => qac ss cs fun vs => k (.agg vs)) = some r → k v = some r := by
  intro ss h
  obtain ⟨cs, rfl, h⟩ := qca h
  exact qcw (k := fun vs => k (.agg vs)) h
 split at h
 ·split at h
  ·split at h
   ·exact agg h
   ·exact h
  ·split at h
   ·exact agg h
   ·exact h
  ·exact qgP h
 ·exact h
theorem qkx {p : TypeId → Bool} {cfg : Cfg} : ∀ {ts : List TypeId} {l : List AV} {k : List AV → Option α}, kTys p cfg ts l k = some r → k l = some r
 | [], l, k, h => by
  rw [kTys] at h
  obtain ⟨h1, h2⟩ := qeZ h
  rw [h1]; exact h2
 | t :: ts, l, k, h => by
  rw [kTys] at h
  obtain ⟨a, b, rfl, h⟩ := zs h
  have h1 := qeX (k := fun v => kTys p cfg ts b fun vs => k (v :: vs)) h
  exact qkx (k := fun vs => k (a :: vs)) h1
theorem vJ {p : TypeId → Bool} {cfg : Cfg} {t : TypeId} {v : AV} {k : KV α} (h : kTy p cfg t v k = some r) : k v = some r := by
 unfold kTy at h
 split at h
 ·unfold kTup at h
  split at h
  ·exact qkx (k := fun vs => k (.tup vs)) h
  ·cases h
 ·exact qeX h
theorem x6 {nid : Option Nat} {b : ABlk} {k : Nat → AH → Option α} (h : kNew nid H b k = some r) : ∃ i H', aNew nid H b = some (i, H') ∧ k i H' = some r := by
 unfold kNew at h
 unfold aNew
 cases nid with
 | none => exact ⟨_, _, rfl, h⟩
 | some i =>
  simp only at h ⊢
  obtain ⟨x, hx, h⟩ := qG h
  rw [hx]
  split at h
  ·exact ⟨_, _, rfl, h⟩
  ·cases h
theorem qmP {v : AV} (h : v.isCell = true) : v.cells = some [v] := by cases v <;> simp_all [AV.isCell, AV.cells]
theorem zH {agg : Bool} {v : AV} {k : List AV → Option α} (h : qas agg v k = some r) : ∃ cs, v.cells = some cs ∧ k cs = some r := by
 unfold qas at h
 rcases yh h with ⟨_, h⟩ | ⟨_, h⟩
 ·obtain ⟨cs, rfl, h⟩ := qca h
  obtain ⟨h1, h2⟩ := qv h
  exact ⟨cs, by simp [AV.cells, h1], h2⟩
 ·obtain ⟨h1, h2⟩ := qv h
  exact ⟨_, qmP h1, h2⟩
theorem qqF {t : Bool} {a b : AV} {k : KV α} (h : qqG t a b k = some r) : k (if t then a else b) = some r := by
 have sp : ∀ {a b : AV}, cond t (k a) (k b) = some r → k (if t then a else b) = some r := by
  intro a b h
  cases t <;> simpa using h
 unfold qqG at h
 split at h
 ·cases t <;> simpa using h
 ·rcases yh h with ⟨h1, h⟩ | ⟨_, h⟩
  ·have := qeV h1; subst this
   cases t <;> simpa using h
  ·exact sp h
 ·exact sp h
theorem qdE {place : Nat → Option (Nat × Nat × Bool)} {place' : Nat → Option (Nat × Nat)} (hp : ∀ i off n g, place i = some (off, n, g) → place' i = some (off, n)) : ∀ {parts : List (Nat × AV)} {cells : List AV} {k : List AV → Option α},
  qiR place cells parts k = some r → ∃ cs, qcg place' cells parts = some cs ∧ k cs = some r
 | [], cells, k, h => ⟨cells, rfl, h⟩
 | (i, v) :: rest, cells, k, h => by
  rw [qiR] at h
  split at h
  ·rename_i off n g hi
   obtain ⟨cs, h1, h⟩ := zH h
   obtain ⟨h2, h⟩ := qv h
   obtain ⟨cs', h3, h4⟩ := qdE hp h
   refine ⟨cs', ?_, h4⟩
   rw [qyK] at h2
   rw [qcg, hp _ _ _ _ hi, h1]
   simp only
   rw [if_pos]
   ·exact h3
   ·rw [qyK, beq_iff_eq]
    exact ⟨qyT h2.1, h2.2⟩
  ·cases h
theorem qio {cfg : Cfg} : ∀ {fs : List (Nat × TypeId)} {ps : List (Nat × Nat × Bool)}, qfH cfg fs = some ps → ∃ qs, zJ cfg fs = some qs ∧ ∀ (i off n : Nat) (g : Bool), ps[i]? = some (off, n, g) → qs[i]? = some (off, n)
 | [], ps, h => by cases h; exact ⟨[], rfl, fun i off n g h => by simp at h⟩
 | (off, t) :: l, ps, h => by
  rw [qfH] at h
  split at h
  ·rename_i n ps' h1 h2
   cases h
   obtain ⟨qs, h3, h4⟩ := qio h2
   refine ⟨(off, n) :: qs, by rw [zJ, h1, h3], fun i o m g hi => ?_⟩
   cases i with
   | zero => simp at hi ⊢; exact ⟨hi.1, hi.2.1⟩
   | succ i => simpa using h4 i o m g (by simpa using hi)
  ·cases h
theorem qiJ {agg : Bool} {n : Nat} : ∀ {parts : List (Nat × AV)} {rows : List (List AV)} {k : List (List AV) → Option α}, qlr agg n rows parts k = some r → ∃ rs, qaJ n rows parts = some rs ∧ k rs = some r
 | [], rows, k, h => ⟨rows, rfl, h⟩
 | (i, v) :: rest, rows, k, h => by
  rw [qlr] at h
  obtain ⟨cs, h1, h⟩ := zH h
  obtain ⟨h2, h⟩ := qv h
  obtain ⟨rs, h3, h4⟩ := qiJ h
  refine ⟨rs, ?_, h4⟩
  rw [qyK] at h2
  rw [qaJ, h1]
  simp only
  rw [if_pos]
  ·exact h3
  ·rw [qyK, beq_iff_eq]
   exact ⟨qyT h2.1, h2.2⟩
theorem zS {id : Nat} {k : Nat → List (List AV) → Option α} (h : kBlk H id k = some r) : ∃ sz rs, q7 H id = some (sz, rs) ∧ k sz rs = some r := by
 unfold kBlk at h
 obtain ⟨b, hb, h⟩ := qG h
 unfold q7
 rw [hb]
 split at h
 ·exact ⟨_, _, rfl, h⟩
 ·exact ⟨_, _, rfl, h⟩
 ·cases h
theorem z9 {g s : Bool} {v : AV} {k : KV α} (h : qiP g s H v k = some r) : (∀ ids, (∀ id off len, v = .ms id off len → id ∈ ids) → s = false → k (cond g (v.frz1 ids H).fg1 (v.frz1 ids H)) = some r) ∧ (s = true → k (cond g (v.snap1 H).fg1 (v.snap1 H)) = some r) := by
 unfold qiP at h
 split at h
 ·rename_i id off len
  obtain ⟨sz, rs, h1, h⟩ := zS h
  rcases hc : (qyQ (off + len) rs.length && (xl H id || qL 0 ((rs.drop off).take len))) with _ | _
  ·rw [hc] at h; cases h
  ·rw [hc] at h
   have h : k (.sl ((rs.drop off).take len)) = some r := h
   have aux : ∀ ids : List Nat, id ∈ ids → (AV.ms id off len).frz1 ids H = .sl ((rs.drop off).take len) := by
    intro ids hi
    simp only [AV.frz1, h1]
    rw [if_pos]
    rw [Bool.and_assoc, hc, Bool.and_true]
    exact vt.2 hi
   refine ⟨fun ids hi _ => ?_, fun _ => ?_⟩
   ·rw [aux ids (hi _ _ _ rfl)]; cases g <;> exact h
   ·simp only [AV.snap1]; rw [aux [id] (by simp)]; cases g <;> exact h
 ·refine ⟨fun ids _ _ => ?_, fun _ => ?_⟩ <;> (cases g <;> exact h)
 ·refine ⟨fun ids _ _ => ?_, fun _ => ?_⟩ <;> (cases g <;> exact h)
 ·rename_i id r' off
  cases s with
  | false => exact ⟨fun ids _ _ => by cases g <;> exact h, fun h => by cases h⟩
  | true =>
   refine ⟨fun _ _ h => by (cases h), fun _ => ?_⟩
   obtain ⟨sz, rs, h1, h⟩ := zS h
   obtain ⟨row, h2, h⟩ := qG h
   obtain ⟨h3, h⟩ := qv h
   simp only [AV.snap1, h1, h2, qjd, h3, if_true]
   cases g <;> exact h
 ·rename_i id rows
  cases s with
  | false => exact ⟨fun ids _ _ => by cases g <;> exact h, fun h => by cases h⟩
  | true =>
   refine ⟨fun _ _ h => by (cases h), fun _ => ?_⟩
   obtain ⟨b, h1, h⟩ := qG h
   split at h
   ·simp only [AV.snap1, h1]
    cases rows <;> cases g <;> exact h
   ·cases h
 ·rename_i hn1 hn2 hn4 hn3 hn5
  refine ⟨fun ids _ _ => ?_, fun _ => ?_⟩
  ·have : v.frz1 ids H = v := by
    cases v <;> first | rfl | exact absurd rfl (hn1 _ _ _)
   rw [this]
   have : v.fg1 = v := by
    cases v <;> first | rfl | exact absurd rfl hn2 | exact absurd rfl hn4
   rw [this]; cases g <;> exact h
  ·have : v.snap1 H = v := by
    cases v <;> first | rfl | exact absurd rfl (hn1 _ _ _) | exact absurd rfl (hn3 _ _ _) | exact absurd rfl (hn5 _ _)
   rw [this]
   have : v.fg1 = v := by
    cases v <;> first | rfl | exact absurd rfl hn2 | exact absurd rfl hn4
   rw [this]; cases g <;> exact h
theorem qaS {g : Bool} {ids : List Nat} : ∀ {l : List AV} {k : List AV → Option α}, (∀ v ∈ l, ∀ id off len, v = .ms id off len → id ∈ ids) → zG g false H l k = some r → k (l.map fun v => cond g (v.frz1 ids H).fg1 (v.frz1 ids H)) = some r
 | [], k, _, h => h
 | a :: l, k, hi, h => by
  rw [zG] at h
  have h1 := (z9 h).1 ids (hi a (by simp)) rfl
  exact qaS (k := fun l => k (cond g (a.frz1 ids H).fg1 (a.frz1 ids H) :: l)) (fun v hv => hi v (by simp [hv])) h1
theorem qbj {g : Bool} : ∀ {l : List AV} {k : List AV → Option α}, zG g true H l k = some r → k (l.map fun v => cond g (v.snap1 H).fg1 (v.snap1 H)) = some r
 | [], k, h => h
 | a :: l, k, h => by
  rw [zG] at h
  have h1 := (z9 h).2 rfl
  exact qbj (k := fun l => k (cond g (a.snap1 H).fg1 (a.snap1 H) :: l)) h1
theorem qb4 {l : List AV} {v : AV} (hv : v ∈ l) {id off len : Nat} (h : v = .ms id off len) : id ∈ l.flatMap AV.msId := by
 subst h
 exact List.mem_flatMap.2 ⟨_, hv, by simp [AV.msId]⟩
theorem qb8 {v : AV} {k : KV α} (h : qbk false H v k = some r) : k (v.frz v.msIds H).fg = some r := by
 unfold qbk at h
 split at h
 ·rename_i cs
  have := qaS (ids := cs.flatMap AV.msId) (fun v hv id off len e => qb4 hv e) h
  simpa [AV.frz, AV.fg, AV.msIds, Function.comp_def] using this
 ·rename_i cs
  have := qaS (k := fun cs => k (.tup cs)) (ids := cs.flatMap AV.msId) (fun v hv id off len e => qb4 hv e) h
  simpa [AV.frz, AV.fg, AV.msIds, Function.comp_def] using this
 ·exact h
 ·rename_i h1 h2 h3
  have h4 := (z9 h).1 v.msIds (fun id off len e => by subst e; simp [AV.msIds, AV.msId]) rfl
  have e1 : v.frz v.msIds H = v.frz1 v.msIds H := by
   cases v <;> first | rfl | exact absurd rfl (h1 _) | exact absurd rfl (h2 _)
  have e2 : (v.frz1 v.msIds H).fg = (v.frz1 v.msIds H).fg1 := by
   cases v <;> first | rfl | exact absurd rfl (h1 _) | exact absurd rfl (h2 _) | skip
   simp only [AV.frz1]
   split
   ·split <;> rfl
   ·rfl
  rw [e1, e2]; exact h4
theorem qqK {v : AV} {k : KV α} (h : qbk true H v k = some r) : k (v.snap H).fg = some r := by
 unfold qbk at h
 split at h
 ·rename_i cs
  have := qbj h
  simpa [AV.snap, AV.fg, Function.comp_def] using this
 ·exact h
 ·rename_i f a b
  have h2 := qbj (k := fun a => zG false true H b fun b => k (.fn f a b)) h
  have h3 := qbj (k := fun b => k (.fn f (a.map (AV.snap1 H)) b)) h2
  exact h3
 ·rename_i h1 h2 h3
  have h4 := (z9 h).2 rfl
  have e1 : v.snap H = v.snap1 H := by
   cases v <;> first | rfl | exact absurd rfl (h1 _) | exact absurd rfl (h3 _ _ _)
  have e2 : (v.snap1 H).fg = (v.snap1 H).fg1 := by
   cases v <;> first | rfl | exact absurd rfl (h1 _) | exact absurd rfl (h2 _) | skip
   ·simp only [AV.snap1, AV.frz1]
    split
    ·split <;> rfl
    ·rfl
   ·simp only [AV.snap1]
    split
    ·split <;> rfl
    ·rfl
   ·simp only [AV.snap1]
    split <;> rfl
  rw [e1, e2]; exact h4
theorem qiU : ∀ {l : List AV} {k : List AV → Option α}, qlw H l k = some r → k (l.map fun a => (a.snap H).fg) = some r
 | [], k, h => h
 | a :: l, k, h => by
  rw [qlw] at h
  have h1 := qqK h
  exact qiU (k := fun l => k ((a.snap H).fg :: l)) h1
theorem zt {id : Nat} {k : Bool → Nat → List (List AV) → Option α} (h : qb9 H id k = some r) : ∃ d sz rs, H[id]? = some (.rows d sz rs) ∧ k d sz rs = some r := by
 unfold qb9 at h
 obtain ⟨b, hb, h⟩ := qG h
 split at h
 ·exact ⟨_, _, _, hb, h⟩
 ·cases h
theorem zq {agg : Bool} {n off : Nat} {cells : List AV} {k : KV α} (h : qb7 agg n cells off k = some r) :
  ∃ v, (if agg then (if qyQ (off + n) cells.length then some (AV.agg ((cells.drop off).take n)) else none) else cells[off]?) = some v ∧ k v = some r := by
 unfold qb7 at h
 rcases yh h with ⟨rfl, h⟩ | ⟨rfl, h⟩
 ·obtain ⟨h1, h2⟩ := qv h
  exact ⟨_, by simp [h1], h2⟩
 ·obtain ⟨v, h1, h2⟩ := qG h
  exact ⟨v, by simp [h1], h2⟩
theorem qdB {agg : Bool} {n : Nat} {p : AV} {k : KV α} (h : qiM agg n H p k = some r) : ∃ v, qaj agg n H p = some v ∧ k v = some r := by
 unfold qiM at h
 unfold qaj
 split at h
 ·obtain ⟨sz, rs, h1, h⟩ := zS h
  obtain ⟨row, h2, h⟩ := qG h
  obtain ⟨v, h3, h4⟩ := zq h
  exact ⟨v, by simp only [h1, h2]; exact h3, h4⟩
 ·obtain ⟨v, h3, h4⟩ := zq h
  exact ⟨v, h3, h4⟩
 ·obtain ⟨v, h3, h4⟩ := zq h
  refine ⟨v, ?_, h4⟩
  rw [← h3]
  simp only [qzd, List.map_take, List.map_drop, List.getElem?_map]
 ·obtain ⟨b, h1, h⟩ := qG h
  split at h
  ·obtain ⟨h2, h⟩ := qv h
   obtain ⟨h3, h⟩ := qqP h
   exact ⟨_, by simp only [h1]; rw [if_pos (by rw [h2, h3]; rfl)], h⟩
  ·cases h
 ·cases h
theorem qou {agg : Bool} {n : Nat} {p v : AV} {k : AH → Option α} (h : qmB agg n H p v k = some r) : ∃ H', qaW n H p v = some H' ∧ k H' = some r := by
 unfold qmB at h
 unfold qaW
 split at h
 ·obtain ⟨cs, h1, h⟩ := zH h
  obtain ⟨d, sz, rs, h2, h⟩ := zt h
  obtain ⟨row, h3, h⟩ := qG h
  obtain ⟨h4, h⟩ := qv h
  rw [qyK] at h4
  refine ⟨_, ?_, h⟩
  simp only [h1, h2, h3]
  rw [if_pos]
  rw [qyK, beq_iff_eq]
  exact ⟨qyT h4.1, h4.2⟩
 ·obtain ⟨b, h1, h⟩ := qG h
  split at h
  ·obtain ⟨h2, h⟩ := qv h
   refine ⟨H, ?_, h⟩
   have h77 : is77 v = true := by rw [qyK] at h2; exact h2.2
   have hv : ∃ cs, v.cells = some cs := by
    rcases qpd h77 with rfl | rfl
    ·exact ⟨_, rfl⟩
    ·exact ⟨_, rfl⟩
   obtain ⟨cs, hv⟩ := hv
   simp only [hv, h1]
   rw [if_pos h2]
  ·cases h
 ·cases h
theorem qcx {lo hi d : Nat} {x : Option AV} {k : Nat → Option α} (h : qe4 lo hi x d k = some r) : ∃ n, qbR lo hi x d = some n ∧ k n = some r := by
 unfold qe4 at h
 unfold qbR
 split at h
 ·exact ⟨_, rfl, h⟩
 ·split at h
  ·obtain ⟨h1, h⟩ := qv h
   rw [qyK, vZ, vZ] at h1
   exact ⟨_, by simp only; rw [if_pos h1], h⟩
  ·cases h
theorem zF {n : Nat} {lo hi mx : Option AV} {k : Nat → Nat → Option α} (h : qar n lo hi mx k = some r) : ∃ l h', zN n lo hi mx = some (l, h') ∧ k l h' = some r := by
 unfold qar at h
 obtain ⟨h0, h⟩ := qq7 h
 obtain ⟨a, h1, h⟩ := qcx h
 obtain ⟨b, h2, h⟩ := qcx h
 obtain ⟨c, h3, h⟩ := qcx h
 refine ⟨c, a, ?_, h⟩
 unfold zN
 rw [if_neg (by rw [h0]; simp), h1]
 simp only [h2, h3]
theorem qov {cfg : Cfg} {t : TypeId} {x : AV} {lo hi mx : Option AV} {k : KV α} (h : qmC cfg t H x lo hi mx k = some r) : ∃ v, qaX cfg t H x lo hi mx = some v ∧ k v = some r := by
 unfold qmC at h
 unfold qaX
 split at h
 ·rename_i ht
  rw [ht]
  split at h
  ·split at h
   ·obtain ⟨l, h', h1, h⟩ := zF h
    exact ⟨_, by simp only [h1], h⟩
   ·cases h
  ·cases h
 ·rename_i e ht
  rw [ht]
  split at h
  ·rename_i n hn
   split at h
   ·obtain ⟨l, h', h1, h⟩ := zF h
    exact ⟨_, by simp only [hn, h1], h⟩
   ·rename_i rows
    obtain ⟨l, h', h1, h⟩ := zF h
    obtain ⟨h2, h⟩ := qv h
    refine ⟨slE (cfg.ems t) rows l h', by simp only [hn, h1, h2, if_true], ?_⟩
    split at h
    ·rename_i he; rw [he]; exact h
    ·rename_i he; rw [he]; exact h
   ·obtain ⟨l, h', h1, h⟩ := zF h
    obtain ⟨sz, rs, h2, h⟩ := zS h
    obtain ⟨h3, hz⟩ := qv h
    have := qyT h3
    subst this
    exact ⟨_, by simp [hn, h1, h2], hz⟩
   ·cases h
  ·cases h
 ·cases h
theorem qiN {cfg : Cfg} {t : TypeId} {x i : AV} {k : KV α} (h : qdC cfg t H x i k = some r) : ∃ v, yo cfg t H x i = some v ∧ k v = some r := by
 unfold qdC at h
 unfold yo
 split at h
 case h_2 => cases h
 rename_i kk i
 split at h
 ·rename_i e ht
  rw [ht]
  split at h
  case h_2 => cases h
  rename_i n hn
  split at h
  ·obtain ⟨sz, rs, h1, h⟩ := zS h
   obtain ⟨h2, hz⟩ := qv h
   rw [qyK, qyK, vZ, zf] at h2
   have := qyT h2.1.1
   subst this
   exact ⟨_, by simp [hn, h1, h2.1.2, h2.2], hz⟩
  ·obtain ⟨h2, h⟩ := qv h
   rw [qyK, vZ, zf] at h2
   obtain ⟨row, h3, h⟩ := qG h
   obtain ⟨h4, hz⟩ := qv h
   refine ⟨.cptr row 0, ?_, hz⟩
   have h5 := qyT h4
   simp only [hn, if_pos h2, h3]
   rw [if_pos (by rw [h5]; exact beq_self_eq_true n)]
  ·obtain ⟨h2, h⟩ := qv h
   rw [qyK, vZ, zf] at h2
   obtain ⟨row, h3, h⟩ := qG h
   obtain ⟨h4, hz⟩ := qv h
   refine ⟨.lpt row 0, ?_, hz⟩
   have h5 := qyT h4
   simp only [hn, if_pos h2, h3]
   rw [if_pos (by rw [h5]; exact beq_self_eq_true n)]
  ·rename_i id rows
   obtain ⟨h2, h⟩ := qv h
   rw [qyK, vZ, zf] at h2
   obtain ⟨row, h3, h⟩ := qG h
   obtain ⟨h4, hz⟩ := qv h
   refine ⟨.rpt id row, ?_, hz⟩
   have h5 := qyT h4
   simp only [hn, if_pos h2, h3]
   rw [if_pos (by rw [h5]; exact beq_self_eq_true n)]
  ·cases h
 ·rename_i m e ht
  rw [ht]
  split at h
  case h_2 => cases h
  rename_i n hn
  split at h
  ·obtain ⟨h2, h⟩ := qv h
   rw [qyK, vZ, zf] at h2
   exact ⟨_, by simp [hn, h2.1, h2.2], h⟩
  ·obtain ⟨h2, h⟩ := qv h
   rw [qyK, vZ, zf] at h2
   exact ⟨_, by simp [hn, h2.1, h2.2], h⟩
  ·cases h
 ·cases h
theorem quG {cfg : Cfg} {t : TypeId} {ti : TI} (h : cfg.ty t = some ti) : cfg.sz t = some ti.sz ∧ cfg.td t = some ti.d := by
 unfold Cfg.sz Cfg.td; rw [h]; exact ⟨rfl, rfl⟩
theorem qow {cfg : Cfg} {t : TypeId} {x i : AV} {k : KV α} (h : qmI cfg t x i k = some r) : ∃ v, qfk cfg t x i = some v ∧ k v = some r := by
 unfold qmI at h
 unfold qfk
 split at h
 case h_2 => cases h
 rename_i kk i
 split at h
 ·rename_i n e ht
  rw [ht]
  split at h
  case h_2 => cases h
  rename_i ti hti
  obtain ⟨cs, rfl, h⟩ := qca h
  obtain ⟨h2, h⟩ := qv h
  rw [qyK, vZ, zf] at h2
  obtain ⟨v, h3, h⟩ := zq h
  refine ⟨v, ?_, h⟩
  simp only [(quG hti).1]
  rw [if_pos h2]
  unfold qfV
  rw [hti]
  exact h3
 ·rename_i ht
  rw [ht]
  obtain ⟨s, rfl, h⟩ := zg h
  obtain ⟨h2, h⟩ := qv h
  rw [vZ] at h2
  obtain ⟨b, h3, h⟩ := qG h
  exact ⟨_, by simp [h2, h3], h⟩
 ·cases h
theorem qox {cfg : Cfg} {t : TypeId} {x : AV} {f : Nat} {k : KV α} (h : qmJ cfg t x f k = some r) : ∃ v, qfl cfg t x f = some v ∧ k v = some r := by
 unfold qmJ at h
 unfold qfl
 split at h
 case h_2 => cases h
 rename_i fs ht
 rw [ht]
 split at h
 case h_2 => cases h
 rename_i off ft hf
 split at h
 case h_2 => cases h
 rename_i ti hti
 obtain ⟨cs, rfl, h⟩ := qca h
 obtain ⟨v, h3, h⟩ := zq h
 refine ⟨v, ?_, h⟩
 simp only [hf]
 unfold qfV
 rw [hti]
 exact h3
theorem qiS {cfg : Cfg} {t : TypeId} {x : AV} {f : Nat} {k : KV α} (h : qdF cfg t x f k = some r) : ∃ v, qak cfg t x f = some v ∧ k v = some r := by
 unfold qdF at h
 unfold qak
 split at h
 case h_2 => cases h
 rename_i fs ht
 rw [ht]
 simp only
 split at h
 case h_2 => cases h
 rename_i off ft hf
 simp only [hf]
 split at h
 case h_2 => cases h
 rename_i n hn
 split at h
 ·exact ⟨_, by simp only [hn], h⟩
 ·exact ⟨_, by simp only [hn], h⟩
 ·cases h
end Go.Av
end
