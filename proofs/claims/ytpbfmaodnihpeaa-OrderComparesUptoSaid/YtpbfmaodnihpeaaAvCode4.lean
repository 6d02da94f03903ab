/-
  Functions, whole; rounds of loops over functions; every number of calls within calls. Own work.
  What is proved: what the abstract evaluation says of a function, the machine does; no condition.
-/
import Derived.Test.YtpbfmaodnihpeaaAvCode3
namespace Go.Av
variable {C C' C1 C2 : Claims} {μ μ' μ1 : MMap} {H H' H1 H2 : AH} {w w' w1 : World} {P : Program}

structure CfgOk (cfg : Cfg) : Prop where
  ty : CfgTy cfg
  mixed : cfg.P.follows .mixedOrders = true
  named : ∀ f fn, cfg.known f = true → cfg.P.funcs[f]? = some fn → (fn.name == "runtime.NumGoroutine") = false
  ext : ∀ f s, cfg.ext f = some s → ∀ args H r H', s args H = some (r, H') → ∀ C μ w vs, FrRep C μ args vs → Wld C μ H w → CallR cfg.P (callFunc f vs) w (Post1 C μ H w r H')

theorem run_enters {f : FuncId} {fn : Func} {c : Code} (hf : P.funcs[f]? = some fn) (hn : (fn.name == "runtime.NumGoroutine") = false) (hb : fn.body = some c) (vs : Array Value) (w : World) : (callFunc f vs).run P w = .ok (.enter f vs) w := by
  unfold callFunc
  simp only [Sem.run_bind, run_program, Result.andThen_ok, hf, hn, hb, Option.isNone_some, Bool.false_eq_true, if_false]
  simp

theorem pad_rep {args : List AV} {vs : Array Value} (h : FrRep C μ args vs) (n : Nat) : FrRep C μ (args ++ List.replicate (n - args.length) .junk) (vs ++ Array.replicate (n - vs.size) undef) := by
  refine ⟨by simp [h.1], fun i a v e1 e2 => ?_⟩
  rcases Nat.lt_or_ge i args.length with hlt | hge
  · rw [List.getElem?_append_left hlt] at e1
    rw [Array.getElem?_append_left (by rw [← h.1]; exact hlt)] at e2
    exact h.2 i a v e1 e2
  · rw [List.getElem?_append_right hge] at e1
    have := List.mem_of_getElem? e1
    rw [List.mem_replicate] at this
    rw [this.2]
    exact .junk v

theorem setParams_rep : ∀ (ps : List Tmp) {args : List AV} {vs : List Value} {fr : List AV} {tmps : Array Value}, (∀ (i : Nat) a v, args[i]? = some a → vs[i]? = some v → Rep C μ a v) → args.length = vs.length → FrRep C μ fr tmps →
    FrRep C μ (setParams fr ps args) ((ps.zip vs).foldl (fun t (p, v) => t.setIfInBounds p v) tmps)
  | [], args, vs, fr, tmps, _, _, hf => by cases args <;> simpa [setParams] using hf
  | p :: ps, [], vs, fr, tmps, _, hl, hf => by
    have : vs = [] := List.eq_nil_of_length_eq_zero (by simpa using hl.symm)
    subst this
    simpa [setParams] using hf
  | p :: ps, x :: args, [], fr, tmps, _, hl, hf => by simp at hl
  | p :: ps, x :: args, v :: vs, fr, tmps, h, hl, hf => by
    rw [setParams, List.zip_cons_cons, List.foldl_cons]
    refine setParams_rep ps (fun i a u e1 e2 => h (i + 1) a u (by simpa using e1) (by simpa using e2)) (by simpa using hl) ?_
    exact put_rep (a := ⟨tmps, []⟩) (dst := some p) hf (h 0 x v rfl rfl)

theorem fun_sound {cfg : Cfg} (ok : CfgOk cfg) {cf : Orac} (hO : OracOk2 cfg cf) {f : Nat} {fn : Func} {c : Code} {args : List AV} {vs : Array Value} {r : AV} (hf : cfg.P.funcs[f]? = some fn) (hb : fn.body = some c)
    (he : ((evC cfg cf f none c (args ++ List.replicate (fn.ntmps - args.length) .junk) H).bind (finish cfg fn.results.toList)) = some (r, H')) (ha : FrRep C μ args vs) (hw : Wld C μ H w) :
    CallsIn Fence.wide 0 cfg.P f vs w fun e w' => ∃ v, e = .returned v ∧ Post1 C μ H w r H' v w' := by
  obtain ⟨q, hq, he⟩ := Option.bind_eq_some_iff.1 he
  obtain ⟨h1, rfl, us, h3, rfl⟩ := finish_spec he
  refine callsIn_of_wp_marks hf hb trivial (wpIn_mono (evC_sound ok.ty hO ok.mixed (B := w.heap.size) c hq (F := Fence.wide) rfl (pad_rep ha fn.ntmps) hw ⟨Nat.le_refl _, [], rfl, List.nodup_nil, fun D h => by cases h⟩) fun e a' w' hp => ?_)
  obtain ⟨e1, C', μ', e2, e3, e4, hB, Ds, m1, m2, m3⟩ := hp
  have hl : LeavesInM Fence.wide 0 cfg.P fn a'.tmps (fun e w' => ∃ v, e = .returned v ∧ Post1 C μ H w (result1 us) q.2.2 v w') a'.defers .returning w' := by
    rw [m1]
    refine leaves_marks rfl (fun w2 g1 g2 => ?_) Ds m2 m3 e3 e4
    obtain ⟨v, r1, r2⟩ := results_sound ok.ty e2 g1 h3
    exact ⟨v, r1, v, rfl, C', μ', r2, g1, g2⟩
  rcases h1 with h1 | h1
  · rw [h1] at e1
    subst e1
    exact hl
  · rw [h1] at e1
    subst e1
    exact hl

theorem round_sound {cfg : Cfg} (ok : CfgOk cfg) {cf : Orac} (hO : OracOk2 cfg cf) {id : Nat} {args : List AV} {vs : Array Value} {r : AV} (he : evBody cfg cf (.y id) args H = some (r, H')) (ha : FrRep C μ args vs) (hw : Wld C μ H w) {m : MI} (hm : μ id = some m) :
    CallR cfg.P (Instr.yield m.block vs) w (Post1 C μ H w r H') := by
  unfold evBody at he
  simp only at he
  split at he
  case h_2 => cases he
  rename_i f fr ps assign body pend hid
  split at he
  case isFalse => cases he
  rename_i hlen
  obtain ⟨q1, hq1, he⟩ := Option.bind_eq_some_iff.1 he
  split at he
  case h_2 => cases he
  rename_i f1 fr1 ps1 assign1 body1 pend1 hx1 hid1
  obtain ⟨q2, hq2, he⟩ := Option.bind_eq_some_iff.1 he
  split at he
  case h_2 => cases he
  rename_i f2 fr2 ps2 assign2 body2 pend2 st2 hid2
  obtain ⟨m', i1, i2, i3, rc, i4, i5, i6, i7, i8, i9, i10⟩ := hw.live _ _ hid rfl
  rw [hm] at i1; cases i1
  have hidl : id < H.length := (List.getElem?_eq_some_iff.1 hid).1
  have hvs : vs.size = rc.params.size := by rw [← ha.1, hlen, ← i7]; simp
  unfold CallR
  rw [run_yield i4 hvs]
  simp only
  rw [i8, i9]
  have htm : ((rc.params.zip vs).foldl (fun tmps (t, a) => tmps.setIfInBounds t a) rc.tmps) = ((ps.zip vs.toList).foldl (fun t (p, v) => t.setIfInBounds p v) rc.tmps) := by
    rw [← Array.foldl_toList, Array.toList_zip, i7]
  have hfr0 : FrRep C μ (setParams fr ps args) ((rc.params.zip vs).foldl (fun tmps (t, a) => tmps.setIfInBounds t a) rc.tmps) := by
    rw [htm]
    exact setParams_rep ps (fun i a v e1 e2 => ha.2 i a v e1 (by rw [← Array.getElem?_toList]; exact e2)) (by rw [ha.1]; simp) i10
  have hrd : RdOk (some id) (Fence.wide.inRound m.block) μ H.length := ⟨hidl, m, hm, rfl⟩
  refine roundIn_of_wpIn trivial (wpIn_mono (evC_sound ok.ty hO ok.mixed (B := w.heap.size) assign hq1 (a := ⟨_, []⟩) hrd hfr0 hw ⟨Nat.le_refl _, [], rfl, List.nodup_nil, fun D h => by cases h⟩) fun e a1 w1 hp => ?_)
  obtain ⟨e1, C1, μ1, p1, p2, p3, p4⟩ := hp
  rw [hx1] at e1
  subst e1
  have hm1 : μ1 id = some m := p3.mu id m hidl hm
  obtain ⟨m', j1, j2, j3, rc1, j4, j5, j6, j7, j8, j9, j10⟩ := p2.live _ _ hid1 rfl
  rw [hm1] at j1; cases j1
  have hidl1 : id < q1.2.2.length := (List.getElem?_eq_some_iff.1 hid1).1
  refine ⟨_, run_beginRound j4 j5, ?_⟩
  have hw2 : Wld C1 μ1 (q1.2.2.set id (.loop f1 fr1 ps1 assign1 body1 pend1 .busy)) (w1.putObj m.block (.loop { rc1 with state := .busy })) :=
    p2.setBlk hid1 rfl rfl hm1 (by simp) (fun b hb => World.putObj_heap_other hb) ⟨{ rc1 with state := .busy }, World.putObj_heap_same j2, rfl, j6, j7, j8, j9, j10⟩
  have hx2 : Ext q1.2.2.length C1 μ1 q1.2.2 w1 C1 μ1 (q1.2.2.set id (.loop f1 fr1 ps1 assign1 body1 pend1 .busy)) (w1.putObj m.block (.loop { rc1 with state := .busy })) :=
    Ext.setBlk p2 hid1 rfl hm1 (by simp) (fun b hb => World.putObj_heap_other hb) rfl rfl rfl (Nat.le_refl _)
  have hx12 := p3.trans hx2 p3.len
  have hrd2 : RdOk (some id) (Fence.wide.inRound m.block) μ1 (q1.2.2.set id (.loop f1 fr1 ps1 assign1 body1 pend1 .busy)).length := ⟨by simpa using hidl1, m, hm1, rfl⟩
  refine wpIn_mono (evC_sound ok.ty hO ok.mixed (B := w.heap.size) body hq2 hrd2 p1 hw2 (p4.ext hx2)) fun e a2 w3 hp => ?_
  obtain ⟨e2, C3, μ3, g1, g2, g3, g4⟩ := hp
  have hm3 : μ3 id = some m := g3.mu id m (by simpa using hidl1) hm1
  obtain ⟨m', k1, k2, k3, rc3, k4, k5, k6, k7, k8, k9, k10⟩ := g2.live _ _ hid2 rfl
  rw [hm3] at k1; cases k1
  have fin : ∀ (jump : Option Code) , ∃ v w4, (Instr.endRound m.block jump).run cfg.P w3 = .ok v w4 ∧
      Post1 C μ H w (.bool jump.isNone) (q2.2.2.set id (.loop f2 fr2 ps2 assign2 body2 jump (if jump.isNone then .ready else .done))) v w4 := by
    intro jump
    refine ⟨_, _, run_endRound jump k4, C3, μ3, .bool _, ?_, ?_⟩
    · exact g2.setBlk hid2 rfl rfl hm3 (by simp) (fun b hb => World.putObj_heap_other hb) ⟨_, World.putObj_heap_same k2, rfl, rfl, k7, k8, k9, k10⟩
    · have := Ext.setBlk (k := q2.2.2.length) (blk' := .loop f2 fr2 ps2 assign2 body2 jump (if jump.isNone then .ready else .done)) g2 hid2 rfl hm3 (w' := w3.putObj m.block (.loop { rc3 with state := if jump.isNone then .ready else .done, pending := jump })) (by simp) (fun b hb => World.putObj_heap_other hb) rfl rfl rfl (Nat.le_refl _)
      exact (hx12.trans g3 hx12.len).trans this (hx12.trans g3 hx12.len).len
  split at he
  · rename_i hx
    cases he
    rw [hx] at e2; subst e2
    obtain ⟨v, w4, r1, r2⟩ := fin none
    exact ⟨v, w4, r1, v, rfl, r2⟩
  · rename_i hx
    cases he
    rw [hx] at e2; subst e2
    obtain ⟨v, w4, r1, r2⟩ := fin (some .ret)
    exact ⟨v, w4, r1, v, rfl, r2⟩
  · rename_i x hx
    cases he
    rw [hx] at e2; subst e2
    obtain ⟨v, w4, r1, r2⟩ := fin (some (.exit x))
    exact ⟨v, w4, r1, v, rfl, r2⟩
  · cases he

theorem evBody_sound {cfg : Cfg} (ok : CfgOk cfg) {cf : Orac} (hO : OracOk2 cfg cf) : OracOk2 cfg (evBody cfg cf) := by
  have key : ∀ f args H r, evBody cfg cf (.f f) args H = some r → cfg.ext f = none → ∃ fn c, cfg.known f = true ∧ cfg.P.funcs[f]? = some fn ∧ fn.body = some c ∧ ((evC cfg cf f none c (args ++ List.replicate (fn.ntmps - args.length) .junk) H).bind (finish cfg fn.results.toList)) = some r := by
    intro f args H r he hx
    unfold evBody at he
    simp only [hx] at he
    split at he
    case isFalse => cases he
    rename_i hk
    split at he
    case h_2 => cases he
    rename_i fn hf
    split at he
    case h_2 => cases he
    rename_i c hb
    exact ⟨fn, c, hk, hf, hb, he⟩
  have enters : ∀ h args H r, evBody cfg cf (.f h) args H = some r → cfg.ext h = none → ∀ vs w, (callFunc h vs).run cfg.P w = .ok (.enter h vs) w := by
    intro h args H r he hx vs w
    obtain ⟨fn, c, h1, h2, h3, _⟩ := key h args H r he hx
    exact run_enters h2 (ok.named _ _ h1 h2) h3 vs w
  refine ⟨fun t args H r H' he C μ w vs s ha hw ht => ?_, enters⟩
  cases t with
  | f f =>
    have hs : s = callFunc f vs := ht
    subst hs
    cases hx : cfg.ext f with
    | some sp =>
      unfold evBody at he
      simp only [hx] at he
      exact ok.ext f sp hx args H r H' he C μ w vs ha hw
    | none =>
      unfold CallR
      rw [enters _ _ _ _ he hx]
      obtain ⟨fn, c, _, h2, h3, h4⟩ := key _ _ _ _ he hx
      exact fun_sound ok hO h2 h3 h4 ha hw
  | y id =>
    obtain ⟨m, hm, hs⟩ := ht
    subst hs
    exact round_sound ok hO he ha hw hm

theorem evF_sound {cfg : Cfg} (ok : CfgOk cfg) : ∀ n, OracOk2 cfg (evF cfg n)
  | 0 => ⟨fun t args H r H' he => (by cases he), fun h args H r he => (by cases he)⟩
  | n + 1 => evBody_sound ok (evF_sound ok n)

theorem EV_sound {cfg : Cfg} (ok : CfgOk cfg) : OracOk2 cfg (EV cfg) := by
  refine ⟨fun t args H r H' he => ?_, fun h args H r he => ?_⟩
  · obtain ⟨n, hn⟩ := lim_some he
    exact (evF_sound ok n).calls t args H r H' hn
  · obtain ⟨n, hn⟩ := lim_some he
    exact (evF_sound ok n).enters h args H r hn

theorem EV_calls {cfg : Cfg} (ok : CfgOk cfg) {f : FuncId} {args : List AV} {vs : Array Value} {r : AV} (hx : cfg.ext f = none) (he : EV cfg (.f f) args H = some (r, H')) (ha : FrRep C μ args vs) (hw : Wld C μ H w) :
    Calls cfg.P f vs w fun e w' => ∃ v, e = .returned v ∧ Post1 C μ H w r H' v w' := by
  have hO := EV_sound ok
  have h := hO.calls _ _ _ _ _ he C μ w vs _ ha hw rfl
  unfold CallR at h
  rw [hO.enters _ _ _ _ he hx] at h
  exact callsIn_wide.1 h
end Go.Av
