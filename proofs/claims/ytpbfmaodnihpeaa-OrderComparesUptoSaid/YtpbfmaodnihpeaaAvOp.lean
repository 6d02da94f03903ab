/-
  One operation that calls nobody. Own work.
  What is proved: it runs as the abstract evaluation says; no condition.
-/
import Derived.Test.YtpbfmaodnihpeaaAvOps6
namespace Go.Av
variable {C C' : Claims} {μ μ' : MMap} {H H' : AH} {w w' : World} {P : Program}

def NextRep (C : Claims) (μ : MMap) (r : AV) (n : Next) : Prop := (∃ v, n = .value v ∧ Rep C μ r v) ∨ (n = .skip ∧ r = .junk)

def RunsN (P : Program) (s : Sem Next) (C : Claims) (μ : MMap) (H : AH) (w : World) (a : AV) (H' : AH) : Prop :=
  ∃ n w' C' μ', s.run P w = .ok n w' ∧ NextRep C' μ' a n ∧ Wld C' μ' H' w' ∧ Ext H.length C μ H w C' μ' H' w'

theorem Runs.v {s : Sem Value} {a : AV} (h : Runs P s C μ H w a H') : RunsN P (do pure (.value (← s))) C μ H w a H' := by
  obtain ⟨v, w', C', μ', h1, h2, h3, h4⟩ := h
  exact ⟨.value v, w', C', μ', by simp [Sem.run_bind, h1], .inl ⟨v, rfl, h2⟩, h3, h4⟩

theorem RunsN.pure' (h : Wld C μ H w) {v : Value} {a : AV} (hr : Rep C μ a v) : RunsN P (pure (.value v)) C μ H w a H :=
  ⟨.value v, w, C, μ, by simp, .inl ⟨v, rfl, hr⟩, h, Ext.refl (Nat.le_refl _)⟩

theorem Runs.opt (h : Wld C μ H w) {s : Sem Value} {x : Option AV} {r : AV} (he : (x.map fun v => (v, H)) = some (r, H')) (hr : ∀ r, x = some r → ∃ v, s.run P w = .ok v w ∧ Rep C μ r v) : Runs P s C μ H w r H' := by
  obtain ⟨y, hy, hy2⟩ := Option.map_eq_some_iff.1 he
  cases hy2
  exact Runs.pure' h (hr _ hy)

theorem list_rep {x : Operand → AV} {ρ : Operand → Value} (hx : ∀ a, Rep C μ (x a) (ρ a)) (l : List Operand) :
    ∀ (i : Nat) a v, (l.map x)[i]? = some a → (l.map ρ)[i]? = some v → Rep C μ a v := by
  intro i a v h1 h2
  obtain ⟨o, ho, rfl⟩ := getElem?_map' h1
  obtain ⟨o', ho', rfl⟩ := getElem?_map' h2
  rw [ho] at ho'; cases ho'
  exact hx _

theorem list1 {α : Type} {a : Array α} {x : α} (h : a.toList = [x]) : a = #[x] := by rw [← Array.toArray_toList (xs := a), h]
theorem list2 {α : Type} {a : Array α} {x y : α} (h : a.toList = [x, y]) : a = #[x, y] := by rw [← Array.toArray_toList (xs := a), h]

theorem map1 {α β : Type} {a : Array α} {x : α} (f : α → β) (h : a.toList = [x]) : a.map f = #[f x] := by rw [list1 h]; simp
theorem map2 {α β : Type} {a : Array α} {x y : α} (f : α → β) (h : a.toList = [x, y]) : a.map f = #[f x, f y] := by rw [list2 h]; simp

theorem builtin_sound {cfg : Cfg} (hc : CfgTy cfg) (h : Wld C μ H w) {nid : Option Nat} {c : Call} {ty : TypeId} {x : Operand → AV} {ρ : Operand → Value} (hx : ∀ a, Rep C μ (x a) (ρ a)) {r : AV}
    (he : evOp cfg nid (.call c) ty x H = some (r, H')) : RunsN cfg.P (do let d ← resolve ρ c ty; invoke d.target d.args) C μ H w r H' := by
  obtain ⟨callee, args, argTypes⟩ := c
  simp only [evOp] at he
  have go : ∀ b, callee = .builtin b → ∀ s : Sem Value, (∀ consts vs, vs = args.map ρ → builtin b argTypes ty consts vs = (do pure (.value (← s)))) → Runs cfg.P s C μ H w r H' →
      RunsN cfg.P (do let d ← resolve ρ ⟨callee, args, argTypes⟩ ty; invoke d.target d.args) C μ H w r H' := by
    intro b hb s hs hr
    subst hb
    have := hr.v
    obtain ⟨n, w', C', μ', h1, h2⟩ := this
    refine ⟨n, w', C', μ', ?_, h2⟩
    simp only [resolve, Sem.run_bind, Sem.run_pure, Result.andThen_ok, invoke]
    rw [hs _ _ rfl]
    exact h1
  split at he
  · rename_i a t ha ht
    refine go _ rfl (Builtin.len_ argTypes ty (args.map ρ)) (fun consts vs hv => by subst hv; rfl) (Runs.opt h he fun r hr => ?_)
    rw [map1 _ ha, list1 ht]
    exact aLen_sound hc h hr (hx a)
  · rename_i s a t xt ha ht
    refine go _ rfl (Builtin.append_ argTypes ty (args.map ρ)) (fun consts vs hv => by subst hv; rfl) ?_
    rw [map2 _ ha, list2 ht]
    exact aAppend_sound hc h he (hx s) (hx a)
  · rename_i d s t xt ha ht
    refine go _ rfl (Builtin.copy_ argTypes ty (args.map ρ)) (fun consts vs hv => by subst hv; rfl) ?_
    rw [map2 _ ha, list2 ht]
    exact aCopy_sound hc h he (hx d) (hx s)
  · rename_i a t ha ht
    obtain ⟨H1, h1, h2⟩ := Option.map_eq_some_iff.1 he
    cases h2
    refine go _ rfl (Builtin.clear_ argTypes ty (args.map ρ)) (fun consts vs hv => by subst hv; rfl) ?_
    rw [map1 _ ha, list1 ht]
    exact aClear_sound hc h h1 (hx a)
  · rename_i a b ha
    refine go _ rfl (Builtin.min_ argTypes ty (args.map ρ)) (fun consts vs hv => by subst hv; rfl) (Runs.opt h he fun r hr => ?_)
    have := aMin_sound (P := cfg.P) (w := w) (f := Builtin.min2) (fun k k' a b => by simp [Builtin.min2]) hr (hx a) (hx b)
    rw [map2 _ ha]
    exact this
  · rename_i a b ha
    refine go _ rfl (Builtin.max_ argTypes ty (args.map ρ)) (fun consts vs hv => by subst hv; rfl) (Runs.opt h he fun r hr => ?_)
    have := aMin_sound (P := cfg.P) (w := w) (f := Builtin.max2) (fun k k' a b => by simp [Builtin.max2]) hr (hx a) (hx b)
    rw [map2 _ ha]
    exact this
  · cases he

theorem evOp_sound {cfg : Cfg} (hc : CfgTy cfg) (h : Wld C μ H w) {nid : Option Nat} {o : Oper} {x : Operand → AV} {ρ : Operand → Value} (hx : ∀ a, Rep C μ (x a) (ρ a)) {r : AV} (he : evOp cfg nid o.op o.type x H = some (r, H')) :
    RunsN cfg.P (execOp ρ o) C μ H w r H' := by
  obtain ⟨dst, op, ty, pos, after, guard⟩ := o
  simp only at he
  cases op with
  | move a => simp only [evOp] at he; cases he; exact .pure' h (hx a)
  | assign a => simp only [evOp] at he; cases he; exact .pure' h (hx a)
  | pick c a b =>
    simp only [evOp] at he
    split at he
    case h_2 => cases he
    rename_i t ht
    have hcv := hx c
    rw [ht] at hcv
    generalize hv : ρ c = vc at hcv
    cases hcv
    cases t
    · cases he
      refine ⟨.value (ρ b), w, C, μ, ?_, .inl ⟨_, rfl, hx b⟩, h, Ext.refl (Nat.le_refl _)⟩
      simp only [execOp, hv]; simp [asBool]
    · cases he
      refine ⟨.value (ρ a), w, C, μ, ?_, .inl ⟨_, rfl, hx a⟩, h, Ext.refl (Nat.le_refl _)⟩
      simp only [execOp, hv]; simp [asBool]
  | alloc t => exact (alloc_sound hc h he).v
  | box t a => exact (box_sound h (hx a) he).v
  | build t parts =>
    obtain ⟨rfl, v, h1, h2⟩ := build_sound (w := w) hc hx he
    exact (Runs.pure' h ⟨v, h1, h2⟩).v
  | buildSlice t len parts => exact (buildSlice_sound hc h hx he).v
  | load t a =>
    simp only [evOp] at he
    split at he
    case h_2 => cases he
    rename_i ti hti
    refine (Runs.opt h he fun r hr => ?_).v
    obtain ⟨ad, u, h1, h2, h3⟩ := load_sound h (hc.ty _ _ hti) (hx a) hr
    exact ⟨u, by rw [h1]; exact h2, h3⟩
  | store t a v =>
    simp only [evOp] at he
    split at he
    case h_2 => cases he
    rename_i n hn
    obtain ⟨H1, h1, h2⟩ := Option.map_eq_some_iff.1 he
    cases h2
    obtain ⟨ti, hti, rfl⟩ := hc.sz hn
    obtain ⟨ad, w', e1, e2, e3, e4⟩ := store_sound h hti (hx a) (hx v) h1
    refine ⟨.skip, w', C, μ, ?_, .inr ⟨rfl, rfl⟩, e3, e4 _ (Nat.le_refl _)⟩
    have : (Instr.storeAt t (ρ a) (ρ v)).run cfg.P w = .ok () w' := by rw [e1]; exact e2
    simp [execOp, Sem.run_bind, this]
  | nilCheck a =>
    simp only [evOp] at he
    have ha := hx a
    split at he
    · rename_i id r off hxa; cases he
      rw [hxa] at ha
      generalize hv : ρ a = va at ha
      cases ha with | ptr _ _ _ m hm =>
        rw [show execOp ρ ⟨dst, .nilCheck a, ty, pos, after, guard⟩ = pure (.value (ρ a)) by simp only [execOp, hv], hv]
        exact .pure' h (.ptr _ _ _ m hm)
    · rename_i cs off hxa; cases he
      rw [hxa] at ha
      generalize hv : ρ a = va at ha
      cases ha with | cptr _ _ b o vals h1 h2 =>
        rw [show execOp ρ ⟨dst, .nilCheck a, ty, pos, after, guard⟩ = pure (.value (ρ a)) by simp only [execOp, hv], hv]
        exact .pure' h (.cptr _ _ b o vals h1 h2)
    · rename_i f p q hxa; cases he
      rw [hxa] at ha
      generalize hv : ρ a = va at ha
      cases ha with | fn _ _ _ vf vc h1 h2 h3 h4 =>
        rw [show execOp ρ ⟨dst, .nilCheck a, ty, pos, after, guard⟩ = pure (.value (ρ a)) by simp only [execOp, hv], hv]
        exact .pure' h (.fn _ _ _ vf vc h1 h2 h3 h4)
    · rename_i id hxa; cases he
      rw [hxa] at ha
      generalize hv : ρ a = va at ha
      cases ha with | mp _ m hm =>
        rw [show execOp ρ ⟨dst, .nilCheck a, ty, pos, after, guard⟩ = pure (.value (ρ a)) by simp only [execOp, hv], hv]
        exact .pure' h (.mp _ m hm)
    · rename_i id hxa; cases he
      rw [hxa] at ha
      generalize hv : ρ a = va at ha
      cases ha with | yld _ m hm =>
        rw [show execOp ρ ⟨dst, .nilCheck a, ty, pos, after, guard⟩ = pure (.value (ρ a)) by simp only [execOp, hv], hv]
        exact .pure' h (.yld _ m hm)
    · cases he
  | binOp op t a b yt =>
    simp only [evOp] at he
    exact (Runs.opt h he fun r hr => aBin_sound hc hr (hx a) (hx b) a b).v
  | unOp op t a =>
    simp only [evOp] at he
    exact (Runs.opt h he fun r hr => aUn_sound hr (hx a)).v
  | convert s d a => exact (aConvert_sound hc h he (hx a)).v
  | makeFunc f first caps =>
    simp only [evOp] at he
    cases he
    refine (Runs.pure' h ⟨.func f (first.map ρ) (caps.map ρ), by simp [Instr.makeFunc], ?_⟩).v
    have := Rep.fn (C := C) (μ := μ) f (first.toList.map x) (caps.toList.map x) (first.toList.map ρ) (caps.toList.map ρ) (by simp) (by simp) (list_rep hx _) (list_rep hx _)
    have ea : ∀ a : Array Operand, (a.toList.map ρ).toArray = a.map ρ := fun a => by rw [← Array.toList_map, Array.toArray_toList]
    rw [ea, ea] at this
    exact this
  | makeSlice t l c => exact (aMake_sound hc h he (hx l) (hx c)).v
  | slice t a lo hi mx =>
    simp only [evOp] at he
    exact (Runs.opt h he fun r hr => aSlice_sound hc h hx lo hi mx hr (hx a)).v
  | fieldAddr t a f =>
    simp only [evOp] at he
    exact (Runs.opt h he fun r hr => aFieldAddr_sound hc hr (hx a)).v
  | field t a f =>
    simp only [evOp] at he
    exact (Runs.opt h he fun r hr => aField_sound hc hr (hx a)).v
  | indexAddr t a i =>
    simp only [evOp] at he
    exact (Runs.opt h he fun r hr => aIndexAddr_sound hc h hr (hx a) (hx i)).v
  | index t a i =>
    simp only [evOp] at he
    exact (Runs.opt h he fun r hr => aIndex_sound hc hr (hx a) (hx i)).v
  | extract t i =>
    simp only [evOp] at he
    split at he
    case h_2 => cases he
    rename_i vs hxt
    have ha := hx t
    rw [hxt] at ha
    generalize hv : ρ t = va at ha
    refine (Runs.opt h he fun r hr => ?_).v
    cases ha with
    | tup _ us hl hr' =>
      have hlt : i < us.length := by rw [← hl]; exact (List.getElem?_eq_some_iff.1 hr).1
      exact ⟨us[i], by simp [Instr.extract, hv, hlt], hr' i r _ hr (List.getElem?_eq_getElem hlt)⟩
  | call c => exact builtin_sound hc h hx he
  | _ => simp only [evOp] at he; cases he
end Go.Av
