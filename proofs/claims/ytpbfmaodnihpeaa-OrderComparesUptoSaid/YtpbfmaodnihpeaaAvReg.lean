/-
  One operation, calls and all; the operations of a region one behind the other. Own work.
  What is proved: they run as the abstract evaluation says, if the calls do; no condition.
-/
import Derived.Test.YtpbfmaodnihpeaaAvCall
namespace Go.Av
variable {C C' C1 C2 : Claims} {μ μ' μ1 : MMap} {H H' H1 : AH} {w w' w1 : World} {P : Program}

theorem CallR.of_run {s s' : Sem Next} {R : Value → World → Prop} (h : s.run P w = s'.run P w) (hc : CallR P s' w R) : CallR P s w R := by
  unfold CallR at *
  rw [h]; exact hc

theorem RunsN.callR {s : Sem Next} {r : AV} (h : RunsN P s C μ H w r H') : CallR P s w (Post1 C μ H w r H') := by
  obtain ⟨n, w', C', μ', h1, h2, h3, h4⟩ := h
  unfold CallR
  rw [h1]
  rcases h2 with ⟨v, rfl, hr⟩ | ⟨rfl, rfl⟩
  · exact ⟨C', μ', hr, h3, h4⟩
  · exact ⟨C', μ', .junk _, h3, h4⟩

theorem resolve_value {ρ : Operand → Value} {c : Call} {f : Operand} (hc : c.callee = .value f) (ty : TypeId) : resolve ρ c ty = Deferred.ofValue (ρ f) (c.args.map ρ) := by
  obtain ⟨callee, args, argTypes⟩ := c
  simp only at hc
  subst hc
  rfl

theorem callV_sound {cfg : Cfg} {cf : Orac} (hO : OracOk cfg cf) {nid : Option Nat} {o : Oper} {c : Call} {f : Operand} (ho : o.op = .call c) (hf : c.callee = .value f) {x : Operand → AV} {ρ : Operand → Value} (hx : ∀ a, Rep C μ (x a) (ρ a)) (h : Wld C μ H w) {r : AV}
    (he : ((tgtOf (x f) (c.args.toList.map x)).bind fun t => callT cfg cf nid t.1 t.2 H) = some (r, H')) : CallR cfg.P (execOp ρ o) w (Post1 C μ H w r H') := by
  obtain ⟨t, ht, he⟩ := Option.bind_eq_some_iff.1 he
  have hargs : ∀ (i : Nat) a v, (c.args.toList.map x)[i]? = some a → (c.args.toList.map ρ)[i]? = some v → Rep C μ a v := list_rep hx _
  have hfv := hx f
  have hex : execOp ρ o = (do let d ← Deferred.ofValue (ρ f) (c.args.map ρ); invoke d.target d.args) := by
    unfold execOp
    simp only [ho]
    rw [← resolve_value hf o.type]
  unfold tgtOf at ht
  split at ht
  · rename_i g first caps hxf
    cases ht
    rw [hxf] at hfv
    generalize hv : ρ f = vf at hfv
    cases hfv with
    | fn _ _ _ vf vc hl1 hl2 h1 h2 =>
      rw [hv] at hex
      refine CallR.of_run (s' := callFunc g (vf.toArray ++ c.args.map ρ ++ vc.toArray)) ?_ (callT_sound hO (t := .f g) (vs := vf.toArray ++ c.args.map ρ ++ vc.toArray) ⟨by simp [hl1, hl2], fun i a v e1 e2 => ?_⟩ h rfl he)
      · rw [hex]
        simp [Deferred.ofValue, invoke]
      · rw [← Array.getElem?_toList] at e2
        simp only [Array.toList_append, Array.toList_map] at e2
        have hl3 : (c.args.toList.map x).length = (c.args.toList.map ρ).length := by simp
        rcases Nat.lt_or_ge i (first.length + (c.args.toList.map x).length) with hlt | hge
        · rw [List.getElem?_append_left (by simpa using hlt)] at e1
          rw [List.getElem?_append_left (by simp only [List.length_append]; omega)] at e2
          rcases Nat.lt_or_ge i first.length with hlt' | hge'
          · rw [List.getElem?_append_left hlt'] at e1
            rw [List.getElem?_append_left (by omega)] at e2
            exact h1 i a v e1 e2
          · rw [List.getElem?_append_right hge'] at e1
            rw [List.getElem?_append_right (by omega)] at e2
            rw [← hl1] at e2
            exact hargs _ a v e1 e2
        · rw [List.getElem?_append_right (by simpa using hge)] at e1
          rw [List.getElem?_append_right (by simp only [List.length_append]; omega)] at e2
          have : i - (vf ++ c.args.toList.map ρ).length = i - (first ++ c.args.toList.map x).length := by simp [hl1]
          rw [this] at e2
          exact h2 _ a v e1 e2
  · rename_i id hxf
    cases ht
    rw [hxf] at hfv
    generalize hv : ρ f = vf at hfv
    cases hfv with
    | yld _ m hm =>
      rw [hv] at hex
      refine CallR.of_run (s' := Instr.yield m.block (c.args.map ρ)) ?_ (callT_sound hO (t := .y id) (vs := c.args.map ρ) ⟨by simp, fun i a v e1 e2 => ?_⟩ h ⟨m, hm, rfl⟩ he)
      · rw [hex]
        simp [Deferred.ofValue, invoke]
      · rw [← Array.getElem?_toList, Array.toList_map] at e2
        exact hargs i a v e1 e2
  · cases ht

theorem evOper_sound {cfg : Cfg} (hc : CfgTy cfg) {cf : Orac} (hO : OracOk cfg cf) {frz : Bool} {nid : Option Nat} {o : Oper} {x : Operand → AV} {ρ : Operand → Value} (hx : ∀ a, Rep C μ (x a) (ρ a)) (h : Wld C μ H w) {r : AV}
    (he : evOper cfg cf frz nid o x H = some (r, H')) : CallR cfg.P (execOp ρ o) w (Post1 C μ H w r H') := by
  have core : ∀ {C : Claims} {H : AH} {x : Operand → AV}, (∀ a, Rep C μ (x a) (ρ a)) → Wld C μ H w →
      (match o.op with
        | .call c =>
          match c.callee with
          | .value f => (tgtOf (x f) (c.args.toList.map x)).bind fun t => callT cfg cf nid t.1 t.2 H
          | _ => evOp cfg nid o.op o.type x H
        | _ => evOp cfg nid o.op o.type x H) = some (r, H') → CallR cfg.P (execOp ρ o) w (Post1 C μ H w r H') := by
    intro C H x hx h he
    split at he
    · rename_i c ho
      split at he
      · rename_i f hf
        exact callV_sound hO ho hf hx h he
      · exact (evOp_sound hc h hx he).callR
    · exact (evOp_sound hc h hx he).callR
  unfold evOper at he
  split at he
  · obtain ⟨C1, a1, a2, a3⟩ := frzBlks_sound (o.op.operands.toList.flatMap fun a => (x a).msIds) h
    have hx1 : ∀ a, Rep C1 μ ((x a).frz (o.op.operands.toList.flatMap fun a => (x a).msIds) H) (ρ a) := fun a => ((hx a).mono a1 (fun _ _ h => h)).frzA (AllFrz.of a2)
    refine (core (x := fun a => (x a).frz (o.op.operands.toList.flatMap fun a => (x a).msIds) H) hx1 a2 he).mono fun v w1 ⟨C2, μ2, e1, e2, e3⟩ => ⟨C2, μ2, e1, e2, ?_⟩
    have := (a3 _ (Nat.le_refl _)).trans e3 (by rw [frzBlks_len]; exact Nat.le_refl _)
    exact this
  · exact core hx h he

/-! ### the machine's operations -/
def WideF (F : Fence) : Prop := F = Fence.wide ∨ ∃ l, F = Fence.wide.inRound l

theorem WideF.fn {F : Fence} (h : WideF F) (f : FuncId) : F.fn f := by
  rcases h with rfl | ⟨l, rfl⟩ <;> trivial
theorem WideF.depth {F : Fence} (h : WideF F) : F.depth = none := by
  rcases h with rfl | ⟨l, rfl⟩ <;> rfl
theorem WideF.calls {F : Fence} (h : WideF F) {f : FuncId} {args : Array Value} {R : Ending → World → Prop} (hc : CallsIn Fence.wide 0 P f args w R) : CallsIn F (0 - 1) P f args w R := by
  rcases h with rfl | ⟨l, rfl⟩
  · exact hc
  · exact hc
theorem WideF.rounds {F : Fence} (h : WideF F) {l f : Nat} {t : Array Value} {as bd : Code} {R : Ending → World → Prop} (hc : RoundIn Fence.wide 0 P l f t as bd w R) : RoundIn F (0 - 1) P l f t as bd w R := by
  rcases h with rfl | ⟨l, rfl⟩
  · exact hc
  · exact hc

theorem oper_wpIn {F : Fence} (hF : WideF F) {o : Oper} {a : Act} {next : Act → World → Prop} {Q : Exit → Act → World → Prop} (h : CallR P (execOp a.eval o) w fun v w' => next (a.put o.dst v) w') : o.wpIn F 0 P a w next Q := by
  have hd : ∀ c, o.op ≠ .defer c := by
    intro c hc
    unfold CallR execOp at h
    simp only [hc, Sem.run_bind] at h
    generalize (resolve a.eval c o.type).run P w = x at h
    cases x with
    | ok d w' => simp [Result.andThen, Sem.run_pure] at h
    | halt _ _ => simp [Result.andThen] at h
  refine ⟨fun f _ => hF.fn f, ?_⟩
  rw [Oper.semAt_eq _ _ _ hd]
  unfold CallR at h
  generalize (execOp a.eval o).run P w = x at h
  cases x with
  | ok n w' =>
    cases n <;> simp only at h <;> first | exact h | exact h.elim | skip
    · exact ⟨fun hh => by rw [hF.depth] at hh; simp at hh, hF.calls (h.mono fun e w'' ⟨v, h1, h2⟩ => by subst h1; exact h2)⟩
    · exact ⟨fun hh => by rw [hF.depth] at hh; simp at hh, hF.rounds (h.mono fun e w'' ⟨v, h1, h2⟩ => by subst h1; exact h2)⟩
  | halt _ _ => exact h.elim

theorem opd_rep {fr : List AV} {a : Act} (hf : FrRep C μ fr a.tmps) (o : Operand) : Rep C μ (opd fr o) (a.eval o) := by
  cases o with
  | tmp t =>
    show Rep C μ (fr.getD t .junk) (a.tmps.getD t undef)
    rcases Nat.lt_or_ge t fr.length with h | h
    · have h' : t < a.tmps.size := by rw [← hf.1]; exact h
      rw [List.getD_eq_getElem?_getD, List.getElem?_eq_getElem h, Array.getD_eq_getD_getElem?, Array.getElem?_eq_getElem h']
      exact hf.2 t _ _ (List.getElem?_eq_getElem h) (Array.getElem?_eq_getElem h')
    · rw [List.getD_eq_getElem?_getD, List.getElem?_eq_none h]
      exact .junk _
  | const v => exact rep_ofValue v
  | global g => exact .junk _
  | func f =>
    have := Rep.fn (C := C) (μ := μ) (.func f) [] [] [] [] rfl rfl (fun i a v h => by simp at h) (fun i a v h => by simp at h)
    exact this

theorem put_rep {fr : List AV} {a : Act} {dst : Option Tmp} {r : AV} {v : Value} (hf : FrRep C μ fr a.tmps) (hr : Rep C μ r v) : FrRep C μ (put fr dst r) (a.put dst v).tmps := by
  cases dst with
  | none => exact hf
  | some d =>
    refine ⟨by simp [put, Act.put, hf.1], fun i x u h1 h2 => ?_⟩
    simp only [put, List.getElem?_set] at h1
    simp only [Act.put, Array.getElem?_setIfInBounds] at h2
    by_cases e : d = i
    · subst e
      rw [if_pos rfl] at h1 h2
      split at h1
      · split at h2
        · cases h1; cases h2; exact hr
        · cases h2
      · cases h1
    · rw [if_neg e] at h1 h2
      exact hf.2 i x u h1 h2

theorem put_defers {a : Act} {dst : Option Tmp} {v : Value} : (a.put dst v).defers = a.defers := by cases dst <;> rfl

theorem wanted_sound {fr : List AV} {a : Act} {ops : Array Oper} {o : Oper} {b : Bool} (hf : FrRep C μ fr a.tmps) (h : wantedA ops fr o = some b) : Region.wanted o (yielded ops a.tmps) = b := by
  unfold wantedA at h
  unfold Region.wanted
  split at h
  · rename_i hg; rw [hg]; simpa using h
  · rename_i j want hg
    rw [hg]
    simp only
    split at h
    · rename_i d hd
      split at h
      · rename_i b' hb
        cases h
        have hlt : d < a.tmps.size := by rw [← hf.1]; exact (List.getElem?_eq_some_iff.1 hb).1
        have hr := hf.2 d _ _ hb (Array.getElem?_eq_getElem hlt)
        generalize hv : a.tmps[d] = v at hr
        cases hr
        have hs : a.tmps[d]? = some (.bool b') := by rw [Array.getElem?_eq_getElem hlt, hv]
        unfold yielded
        rw [hd]
        simp only [Option.bind_some, hs]
        cases b' <;> cases want <;> rfl
      · cases h
    · cases h

theorem evOps_sound {cfg : Cfg} (hc : CfgTy cfg) {cf : Orac} (hO : OracOk cfg cf) {F : Fence} (hF : WideF F) {f rid : Nat} {ops : Array Oper} {Q : Exit → Act → World → Prop} {fr' : List AV} : ∀ (rest : List Oper) (k : Nat) {fr : List AV} {H : AH} {C : Claims} {μ : MMap} {w : World} {a : Act},
    evOps cfg cf f rid ops k rest fr H = some (fr', H') → (∀ i, rest[i]? = ops[k + i]?) → FrRep C μ fr a.tmps → Wld C μ H w →
    (∀ C' μ' w' a', FrRep C' μ' fr' a'.tmps → Wld C' μ' H' w' → Ext H.length C μ H w C' μ' H' w' → a'.defers = a.defers → Q .normal a' w') → wpOpsIn F 0 cfg.P ops Q (List.range' k rest.length) a w
  | [], k, fr, H, C, μ, w, a, he, hi, hf, hw, hq => by
    simp only [evOps] at he
    cases he
    exact hq C μ w a hf hw (Ext.refl (Nat.le_refl _)) rfl
  | o :: rest, k, fr, H, C, μ, w, a, he, hi, hf, hw, hq => by
    simp only [evOps] at he
    obtain ⟨b, hb, he⟩ := Option.bind_eq_some_iff.1 he
    have hok : ops[k]? = some o := by have := hi 0; simpa using this.symm
    have hi' : ∀ i, rest[i]? = ops[k + 1 + i]? := fun i => by have := hi (i + 1); rw [List.getElem?_cons_succ] at this; rw [this]; congr 1; omega
    have hwan := wanted_sound hf hb
    simp only [List.length_cons, List.range'_succ, wpOpsIn, hok]
    split at he
    · rename_i hbt
      rw [hbt] at hwan
      rw [if_pos hwan]
      obtain ⟨q, hqe, he⟩ := Option.bind_eq_some_iff.1 he
      refine oper_wpIn hF ((evOper_sound hc hO (opd_rep hf) hw hqe).mono fun v w1 ⟨C1, μ1, e1, e2, e3⟩ => ?_)
      have hf1 : FrRep C1 μ1 fr a.tmps := hf.mono e3.cl (fun id m hm => e3.mu id m (hw.dom id m hm) hm)
      refine evOps_sound hc hO hF rest (k + 1) he hi' (put_rep hf1 e1) e2 fun C' μ' w' a' g1 g2 g3 g4 => hq C' μ' w' a' g1 g2 (e3.trans g3 e3.len) (by rw [g4, put_defers])
    · rename_i hbt
      have hbf : b = false := by simpa using hbt
      rw [hbf] at hwan
      rw [if_neg (by rw [hwan]; simp)]
      refine ⟨fun f _ => hF.fn f, ?_⟩
      exact evOps_sound hc hO hF rest (k + 1) he hi' (put_rep hf (.junk _)) hw fun C' μ' w' a' g1 g2 g3 g4 => hq C' μ' w' a' g1 g2 g3 (by rw [g4, put_defers])
end Go.Av
