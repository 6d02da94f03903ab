/-
  Code, whole; functions, whole; every number of calls within calls. Own work.
  What is proved: what the abstract evaluation says of a function, the machine does; no condition.
-/
import Derived.Test.YtpbfmaodnihpeaaAvCode2
namespace Go.Av
variable {C C' C1 C2 : Claims} {μ μ' μ1 : MMap} {H H' H1 H2 : AH} {w w' w1 : World} {P : Program}

theorem evC_sound {cfg : Cfg} (hc : CfgTy cfg) {cf : Orac} (hO : OracOk2 cfg cf) (hmx : cfg.P.follows .mixedOrders = true) {F : Fence} {rd : Option Nat} {f B : Nat} : ∀ (c : Code) {fr : List AV} {H : AH} {r : Ex × List AV × AH}, evC cfg cf f rd c fr H = some r →
    ∀ {C : Claims} {μ : MMap} {w : World} {a : Act}, RdOk rd F μ H.length → FrRep C μ fr a.tmps → Wld C μ H w → Marks B μ H w a.defers → c.wpIn F 0 cfg.P (CPost H.length B C μ H w r) a w := by
  intro c
  induction c with
  | skip =>
    intro fr H r he C μ w a hrd hf hw hm
    rw [evC.eq_def] at he; simp only at he; cases he
    exact wpIn_skip ⟨rfl, C, μ, hf, hw, Ext.refl (Nat.le_refl _), hm⟩
  | label l =>
    intro fr H r he C μ w a hrd hf hw hm
    rw [evC.eq_def] at he; simp only at he; cases he
    exact wpIn_label ⟨rfl, C, μ, hf, hw, Ext.refl (Nat.le_refl _), hm⟩
  | exit id =>
    intro fr H r he C μ w a hrd hf hw hm
    rw [evC.eq_def] at he; simp only at he; cases he
    exact wpIn_exit ⟨rfl, C, μ, hf, hw, Ext.refl (Nat.le_refl _), hm⟩
  | ret =>
    intro fr H r he C μ w a hrd hf hw hm
    rw [evC.eq_def] at he; simp only at he; cases he
    exact wpIn_ret ⟨rfl, C, μ, hf, hw, Ext.refl (Nat.le_refl _), hm⟩
  | goto l =>
    intro fr H r he
    rw [evC.eq_def] at he; simp only at he; cases he
  | refuse s =>
    intro fr H r he
    rw [evC.eq_def] at he; simp only at he; cases he
  | region id ops draw =>
    intro fr H r he C μ w a hrd hf hw hm
    rw [evC.eq_def] at he
    simp only at he
    have fin : ∀ (fr' : List AV) (H' : AH) C' μ' w' (a' : Act), FrRep C' μ' fr' a'.tmps → Wld C' μ' H' w' → Ext H.length C μ H w C' μ' H' w' → a'.defers = a.defers → CPost H.length B C μ H w (.normal, fr', H') .normal a' w' :=
      fun fr' H' C' μ' w' a' g1 g2 g3 g4 => ⟨rfl, C', μ', g1, g2, g3, by rw [g4]; exact hm.ext g3⟩
    cases draw with
    | true =>
      simp only [if_true] at he
      split at he
      case isFalse => cases he
      rename_i hst
      obtain ⟨q, hq, he⟩ := Option.bind_eq_some_iff.1 he
      split at he
      case isFalse => cases he
      rename_i hdy
      obtain ⟨fps, fr', H'⟩ := q
      cases he
      exact draw_sound hc hO.calls hmx hrd.wide hst hq hdy hf hw (fin fr' H')
    | false =>
      simp only [Bool.false_eq_true, if_false] at he
      obtain ⟨q, hq, e⟩ := Option.map_eq_some_iff.1 he
      obtain ⟨fr', H'⟩ := q
      cases e
      refine wpIn_region ?_
      have := evOps_sound hc hO.calls hrd.wide (Q := CPost H.length B C μ H w (.normal, fr', H')) ops.toList 0 hq (fun i => by rw [Array.getElem?_toList, Nat.zero_add]) hf hw (fin fr' H')
      rw [List.range_eq_range']
      simpa using this
  | seq x y ihx ihy =>
    intro fr H r he C μ w a hrd hf hw hm
    rw [evC.eq_def] at he
    simp only at he
    obtain ⟨q, hq, he⟩ := Option.bind_eq_some_iff.1 he
    refine wpIn_seq (wpIn_mono (ihx hq hrd hf hw hm) fun e a1 w1 hp => ?_)
    cases hq1 : q.1 with
    | normal =>
      obtain ⟨h1, C1, μ1, h2, h3, h4, h5⟩ := hp
      rw [hq1] at h1 he
      subst h1
      refine wpIn_mono (ihy he (hrd.ext h4.mu h4.len) h2 h3 h5) fun e' a2 w2 hp2 => hp2.mono h4 h4.len
    | exit id =>
      rw [hq1] at he
      cases he
      have : e = .exit id := by rw [hp.1, hq1]; rfl
      subst this
      exact ⟨rfl, hp.2⟩
    | goto l =>
      rw [hq1] at he
      cases he
      have : e = .goto l := by rw [hp.1, hq1]; rfl
      subst this
      exact ⟨rfl, hp.2⟩
    | ret =>
      rw [hq1] at he
      cases he
      have : e = .ret := by rw [hp.1, hq1]; rfl
      subst this
      exact ⟨rfl, hp.2⟩
  | cond c x y ihx ihy =>
    intro fr H r he C μ w a hrd hf hw hm
    rw [evC.eq_def] at he
    simp only at he
    split at he
    case h_2 => cases he
    rename_i t ht
    have hcr := opd_rep hf c
    rw [ht] at hcr
    generalize hv : a.eval c = v at hcr
    cases hcr
    cases t with
    | true => exact wpIn_cond_true hv (ihx (by simpa using he) hrd hf hw hm)
    | false => exact wpIn_cond_false hv (ihy (by simpa using he) hrd hf hw hm)
  | block id x ih =>
    intro fr H r he C μ w a hrd hf hw hm
    rw [evC.eq_def] at he
    simp only at he
    obtain ⟨q, hq, he⟩ := Option.bind_eq_some_iff.1 he
    refine wpIn_block (wpIn_mono (ih hq hrd hf hw hm) fun e a1 w1 hp => ?_)
    cases hq1 : q.1 with
    | normal =>
      rw [hq1] at he
      cases he
      have : e = .normal := by rw [hp.1, hq1]; rfl
      subst this
      exact hp
    | exit id' =>
      rw [hq1] at he
      simp only at he
      have : e = .exit id' := by rw [hp.1, hq1]; rfl
      subst this
      simp only [Exit.inBlock]
      by_cases e : id' = id
      · subst e
        rw [if_pos (Nat.beq_refl _)] at he
        cases he
        rw [if_pos rfl]
        exact ⟨rfl, hp.2⟩
      · have : ¬ Nat.beq id' id = true := fun h => e (Nat.eq_of_beq_eq_true h)
        rw [if_neg this] at he
        cases he
        rw [if_neg e]
        exact hp
    | goto l =>
      rw [hq1] at he
      cases he
      have : e = .goto l := by rw [hp.1, hq1]; rfl
      subst this
      exact hp
    | ret =>
      rw [hq1] at he
      cases he
      have : e = .ret := by rw [hp.1, hq1]; rfl
      subst this
      exact hp
  | loop x ih =>
    intro fr H r he C μ w a hrd hf hw hm
    rw [evC.eq_def] at he
    simp only at he
    obtain ⟨q, hq, e⟩ := Option.map_eq_some_iff.1 he
    obtain ⟨n, hn⟩ := lim_some hq
    obtain ⟨μ', g1, g2, g3⟩ := gc_ext hw (maskFr_rep (ts := cfg.keepIn f (firstRid x)) hf) H.length (Nat.le_refl _)
    refine wpIn_mono (wpIn_loop_rounds n (loopN_sound (rd := rd) (fun hq => ih hq) (Nat.le_refl _) n hn g3.len (hrd.ext g3.mu (Nat.le_refl _)) g2 g1 (hm.ext g3) g3)) fun e' a' w' hp => ?_
    obtain ⟨h1, C1, μ1, h2, h3, h4, h5⟩ := hp
    subst e
    exact ⟨h1, C1, μ1, maskFr_rep h2, h3, h4, h5⟩
  | scope x ih =>
    intro fr H r he C μ w a hrd hf hw hm
    rw [evC.eq_def] at he
    simp only at he
    obtain ⟨q, hq, he⟩ := Option.bind_eq_some_iff.1 he
    have hqr : (∀ l, q.1 ≠ .goto l) ∧ q = r := by
      cases hq1 : q.1 with
      | goto l => rw [hq1] at he; cases he
      | normal => rw [hq1] at he; simp only [Option.some.injEq] at he; exact ⟨nofun, he⟩
      | exit id => rw [hq1] at he; simp only [Option.some.injEq] at he; exact ⟨nofun, he⟩
      | ret => rw [hq1] at he; simp only [Option.some.injEq] at he; exact ⟨nofun, he⟩
    obtain ⟨h1, rfl⟩ := hqr
    refine wpIn_scope' (ih hq hrd hf hw hm) fun l a1 w1 hp => ?_
    have := hp.1
    cases hq1 : q.1 with
    | goto l => exact h1 l hq1
    | _ => rw [hq1] at this; cases this
  | rangeFunc g ps assign body =>
    intro fr H r he C μ w a hrd hf hw hm
    exact rangeFunc_sound hc hO he hrd hf hw hm

/-! ### functions -/
/-- how a result is read -/
def readVar (tmps : Array Value) : ResultVar → Sem Value
  | .tmp t => pure (tmps.getD t undef)
  | .cell a t => do loadVar t (← asAddr (tmps.getD a undef))

theorem resVals_sound {cfg : Cfg} (hc : CfgTy cfg) {fr : List AV} {tmps : Array Value} (hf : FrRep C μ fr tmps) (hw : Wld C μ H w) : ∀ (rs : List ResultVar) {vs : List AV}, resVals rs cfg.ty fr H = some vs →
    ∃ us : List Value, (rs.mapM (readVar tmps)).run cfg.P w = .ok us w ∧ vs.length = us.length ∧
      ∀ (i : Nat) a v, vs[i]? = some a → us[i]? = some v → Rep C μ a v
  | [], vs, he => by
    simp only [resVals] at he
    cases he
    exact ⟨[], by simp, rfl, fun i a v h => by simp at h⟩
  | .tmp t :: l, vs, he => by
    simp only [resVals] at he
    obtain ⟨vs', hvs, e⟩ := Option.map_eq_some_iff.1 he
    cases e
    obtain ⟨us, h1, h2, h3⟩ := resVals_sound hc hf hw l hvs
    refine ⟨tmps.getD t undef :: us, ?_, by simp [h2], fun i a v e1 e2 => ?_⟩
    · simp only [List.mapM_cons, Sem.run_bind, readVar, Sem.run_pure, Result.andThen_ok, h1]
    · cases i with
      | zero => simp at e1 e2; subst e1; subst e2; simpa [opd, Act.eval] using opd_rep (a := ⟨tmps, []⟩) hf (.tmp t)
      | succ i => exact h3 i a v (by simpa using e1) (by simpa using e2)
  | .cell a t :: l, vs, he => by
    simp only [resVals] at he
    split at he
    case h_2 => cases he
    rename_i ti hti
    obtain ⟨x, hx, he⟩ := Option.bind_eq_some_iff.1 he
    obtain ⟨vs', hvs, e⟩ := Option.map_eq_some_iff.1 he
    cases e
    obtain ⟨us, h1, h2, h3⟩ := resVals_sound hc hf hw l hvs
    have hr : Rep C μ (fr.getD a .junk) (tmps.getD a undef) := by simpa [opd, Act.eval] using opd_rep (a := ⟨tmps, []⟩) hf (.tmp a)
    obtain ⟨ad, u, g1, g2, g3⟩ := load_sound hw (hc.ty _ _ hti) hr hx
    refine ⟨u :: us, ?_, by simp [h2], fun i a v e1 e2 => ?_⟩
    · have ga : (readVar tmps (.cell a t)).run cfg.P w = .ok u w := by simp only [readVar, g1, asAddr, Sem.run_bind, Sem.run_pure, Result.andThen_ok, g2]
      simp only [List.mapM_cons, Sem.run_bind, ga, Sem.run_pure, Result.andThen_ok, h1]
    · cases i with
      | zero => simp at e1 e2; subst e1; subst e2; exact g3
      | succ i => exact h3 i a v (by simpa using e1) (by simpa using e2)

theorem results_sound {cfg : Cfg} (hc : CfgTy cfg) {fn : Func} {fr : List AV} {tmps : Array Value} (hf : FrRep C μ fr tmps) (hw : Wld C μ H w) {vs : List AV} (he : resVals fn.results.toList cfg.ty fr H = some vs) :
    ∃ v, (results fn tmps).run cfg.P w = .ok v w ∧ Rep C μ (result1 vs) v := by
  obtain ⟨us, h1, h2, h3⟩ := resVals_sound hc hf hw _ he
  refine ⟨if h : us.toArray.size = 1 then us.toArray[0] else .tuple us.toArray, ?_, ?_⟩
  · have hr : results fn tmps = (fn.results.mapM (readVar tmps) >>= fun vs => pure (if h : vs.size = 1 then vs[0] else .tuple vs)) := rfl
    rw [hr, Array.mapM_eq_mapM_toList]
    simp only [Sem.run_bind, Sem.run_map, Result.andThen_ok, Sem.run_pure, h1]
  · cases us with
    | nil =>
      cases vs with
      | nil => exact .tup [] [] rfl (fun i a v h => by simp at h)
      | cons x l => simp at h2
    | cons u us =>
      cases vs with
      | nil => simp at h2
      | cons x l =>
        cases us with
        | nil =>
          cases l with
          | nil => simpa [result1] using h3 0 x u rfl rfl
          | cons y l => simp at h2
        | cons u' us =>
          cases l with
          | nil => simp at h2
          | cons y l =>
            have : result1 (x :: y :: l) = .tup (x :: y :: l) := rfl
            rw [this, dif_neg (by simp)]
            exact .tup _ _ h2 h3

theorem finish_spec {cfg : Cfg} {rs : List ResultVar} {q : Ex × List AV × AH} {r : AV} (h : finish cfg rs q = some (r, H')) : (q.1 = .normal ∨ q.1 = .ret) ∧ H' = q.2.2 ∧ ∃ vs, resVals rs cfg.ty q.2.1 q.2.2 = some vs ∧ r = result1 vs := by
  unfold finish at h
  split at h
  · rename_i hq
    obtain ⟨vs, h1, e⟩ := Option.map_eq_some_iff.1 h
    cases e
    exact ⟨.inl hq, rfl, vs, h1, rfl⟩
  · rename_i hq
    obtain ⟨vs, h1, e⟩ := Option.map_eq_some_iff.1 h
    cases e
    exact ⟨.inr hq, rfl, vs, h1, rfl⟩
  · cases h

/-- the marks, come to as the function leaves -/
theorem leaves_marks {fn : Func} {tmps : Array Value} {R : Ending → World → Prop} {B k : Nat} {C0 : Claims} {μ0 : MMap} {H0 : AH} {w0 : World} (hB : B = w0.heap.size)
    (hend : ∀ w', Wld C μ H w' → Ext k C0 μ0 H0 w0 C μ H w' → ∃ v, (results fn tmps).run P w' = .ok v w' ∧ R (.returned v) w') : ∀ (Ds : List Nat) {w : World}, Ds.Nodup → (∀ D ∈ Ds, B ≤ D ∧ w.heap[D]? = some (.deferred (some [])) ∧ ¬ Live H μ D) →
      Wld C μ H w → Ext k C0 μ0 H0 w0 C μ H w → LeavesInM Fence.wide 0 P fn tmps R (Ds.map mark) .returning w
  | [], w, _, _, hw, hx => hend w hw hx
  | D :: Ds, w, hnd, hD, hw, hx => by
    obtain ⟨d1, d2, d3⟩ := hD D (List.mem_cons_self ..)
    obtain ⟨hnm, hnd'⟩ := List.nodup_cons.1 hnd
    refine ⟨by simp, .inl ⟨D, _, rfl, run_takeDeferred d2, ?_⟩⟩
    have hne : ∀ b, b ≠ D → (w.putObj D (.deferred none)).heap[b]? = w.heap[b]? := fun b hb => World.putObj_heap_other hb
    refine leaves_marks hB hend Ds hnd' (fun D' hD' => ?_) (hw.world (by simp) (fun b hb hor => hne b fun e => ?_)) ⟨hx.os, hx.tape, hx.output, by simpa using hx.size, hx.cl, hx.mu, fun b hb hnl => ?_, hx.len⟩
    · obtain ⟨g1, g2, g3⟩ := hD D' (List.mem_cons_of_mem _ hD')
      exact ⟨g1, by rw [hne D' (fun e => hnm (by rw [← e]; exact hD'))]; exact g2, g3⟩
    · subst e
      rcases hor with hl | ⟨o, hc⟩
      · exact d3 hl
      · cases hco : C b o with
        | none => exact hc hco
        | some v =>
          have := hw.cl b o v hco
          simp only [World.cell?, d2] at this
          cases this
    · obtain ⟨f1, f2, f3⟩ := hx.fr b hb hnl
      exact ⟨by rw [hne b (by omega)]; exact f1, f2, f3⟩
end Go.Av
