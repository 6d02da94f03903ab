/-
  Code, whole: regions, loops, ranges over functions. Own work.
  What is proved: code runs as the abstract evaluation says, if the calls do; no condition.
-/
import Derived.Test.YtpbfmaodnihpeaaAvCode
namespace Go.Av
variable {C C' C1 C2 : Claims} {μ μ' μ1 : MMap} {H H' H1 H2 : AH} {w w' w1 : World} {P : Program}

structure OracOk2 (cfg : Cfg) (cf : Orac) : Prop where
  calls : OracOk cfg cf
  enters : ∀ h args H r, cf (.f h) args H = some r → cfg.ext h = none → ∀ vs w, (callFunc h vs).run cfg.P w = .ok (.enter h vs) w

/-- a new loop over a function -/
theorem loop_new (h : Wld C μ H w) {f : Nat} {fr : List AV} {assign body : Code} {ps : Array Tmp} {fn : FuncId} {tmps : Array Value} {dblk : Nat} (hf : FrRep C μ fr tmps) (hs : w.heap.size < w1.heap.size)
    (hold : ∀ b, b < w.heap.size → w1.heap[b]? = w.heap[b]?) {l : Nat} (hl : w.heap.size ≤ l)
    (hnew : w1.heap[l]? = some (.loop { state := .ready, pending := none, fn, tmps, params := ps, assign, body, defers := dblk })) (ho : w1.os = w.os) (ht : w1.tape = w.tape) (hu : w1.output = w.output) :
    Wld C (upd μ H.length ⟨l, 0, 0, 0⟩) (H ++ [.loop f fr ps.toList assign body none .ready]) w1 ∧ Ext H.length C μ H w C (upd μ H.length ⟨l, 0, 0, 0⟩) (H ++ [.loop f fr ps.toList assign body none .ready]) w1 ∧
      (∀ id m, μ id = some m → upd μ H.length ⟨l, 0, 0, 0⟩ id = some m) ∧ (∀ b, Live (H ++ [.loop f fr ps.toList assign body none .ready]) (upd μ H.length ⟨l, 0, 0, 0⟩) b → Live H μ b ∨ b = l) := by
  have hll : l < w1.heap.size := (Array.getElem?_eq_some_iff.1 hnew).1
  have hw1 : Wld C μ H w1 := h.world (by omega) (fun b hb _ => hold b hb)
  have hmu : ∀ id m, μ id = some m → upd μ H.length ⟨l, 0, 0, 0⟩ id = some m := by
    intro id m hm
    have := h.dom id m hm
    unfold upd
    rw [if_neg (by omega)]; exact hm
  obtain ⟨n1, n2, n3, n4, n5⟩ := hw1.new (nid := none) (k := H.length) (blk := .loop f fr ps.toList assign body none .ready) (H' := H ++ [.loop f fr ps.toList assign body none .ready]) (m := ⟨l, 0, 0, 0⟩) rfl (fun hl' => by have := h.live_lt hl'; simp only at this; omega) hll
    (fun o => by
      cases hc : C l o with
      | none => rfl
      | some v => have := h.block_lt hc; omega) rfl ⟨_, hnew, rfl, rfl, rfl, rfl, rfl, hf.mono (fun _ _ _ h => h) hmu⟩
  refine ⟨n1, ⟨ho, ht, hu, by omega, fun _ _ _ h => h, fun id m _ hm => hmu id m hm, fun b hb hnl => ⟨hold b hb, fun hl' => ?_, rfl⟩, n3⟩, hmu, n4⟩
  rcases n4 b hl' with h1 | h1
  · exact hnl h1
  · simp only at h1; omega

theorem rangeFunc_sound {cfg : Cfg} (hc : CfgTy cfg) {cf : Orac} (hO : OracOk2 cfg cf) {F : Fence} {rd : Option Nat} {f B : Nat} {g : Operand} {ps : Array Tmp} {assign body : Code} {fr : List AV} {r : Ex × List AV × AH} {a : Act}
    (he : evC cfg cf f rd (.rangeFunc g ps assign body) fr H = some r) (hrd : RdOk rd F μ H.length) (hf : FrRep C μ fr a.tmps) (hw : Wld C μ H w) (hm : Marks B μ H w a.defers) :
    (Code.rangeFunc g ps assign body).wpIn F 0 cfg.P (CPost H.length B C μ H w r) a w := by
  rw [evC.eq_def] at he
  simp only at he
  split at he
  case isFalse => cases he
  rename_i hrl
  split at he
  case h_2 => cases he
  rename_i h first caps hg
  split at he
  case isTrue => cases he
  rename_i hext
  have hext : cfg.ext h = none := by
    cases hh : cfg.ext h with
    | none => rfl
    | some s => rw [hh] at hext; simp at hext
  obtain ⟨q, hq, he⟩ := Option.bind_eq_some_iff.1 he
  have hgr := opd_rep hf g
  rw [hg] at hgr
  generalize hgv : a.eval g = gv at hgr
  cases hgr with
  | fn _ _ _ vf vc hl1 hl2 h1 h2 =>
  refine wpIn_rangeFunc fun fn hfn => ?_
  have hwide := hrd.wide
  have hmf : FrRep C μ (maskFr (cfg.keepIn f (firstRid body)) fr) a.tmps := maskFr_rep hf
  -- what lies behind the loop
  have core : ∀ (l : Nat) (ms : List Deferred) (w1 : World) (dblk : Nat), w.heap.size < w1.heap.size → (∀ b, b < w.heap.size → w1.heap[b]? = w.heap[b]?) → w.heap.size ≤ l →
      w1.heap[l]? = some (.loop { state := .ready, pending := none, fn, tmps := a.tmps, params := ps, assign, body, defers := dblk }) → w1.os = w.os → w1.tape = w.tape → w1.output = w.output →
      (ms = [] ∨ ∃ D, ms = [mark D] ∧ w.heap.size ≤ D ∧ D ≠ l ∧ w1.heap[D]? = some (.deferred (some []))) →
      CallsIn F (0 - 1) cfg.P h (vf.toArray ++ #[.func (.yield l) #[] #[]] ++ vc.toArray) w1 (rangePost F 0 cfg.P l (CPost H.length B C μ H w r) { a with defers := ms ++ a.defers }) := by
    intro l ms w1 dblk hs hold hl hnew ho ht hu hms
    obtain ⟨g1, g2, g3, g4⟩ := loop_new (f := f) hw hmf hs hold hl hnew ho ht hu
    have hargs : FrRep C (upd μ H.length ⟨l, 0, 0, 0⟩) (first ++ [.yld H.length] ++ caps) (vf.toArray ++ #[.func (.yield l) #[] #[]] ++ vc.toArray) := by
      refine ⟨by simp [hl1, hl2], fun i x v e1 e2 => ?_⟩
      rw [← Array.getElem?_toList] at e2
      simp only [Array.toList_append] at e2
      rcases Nat.lt_or_ge i (first.length + 1) with hlt | hge
      · rw [List.getElem?_append_left (by simpa using hlt)] at e1
        rw [List.getElem?_append_left (by first | omega | (simp; omega))] at e2
        rcases Nat.lt_or_ge i first.length with hlt' | hge'
        · rw [List.getElem?_append_left hlt'] at e1
          rw [List.getElem?_append_left (by first | omega | (simp; omega))] at e2
          exact (h1 i x v e1 (by simpa using e2)).mono (fun _ _ _ h => h) g3
        · have hi : i = first.length := by omega
          subst hi
          rw [List.getElem?_append_right (Nat.le_refl _)] at e1
          rw [List.getElem?_append_right (by first | omega | (simp; omega))] at e2
          simp [hl1] at e1 e2
          subst e1; subst e2
          exact .yld H.length ⟨l, 0, 0, 0⟩ (by unfold upd; rw [if_pos rfl])
      · rw [List.getElem?_append_right (by simpa using hge)] at e1
        rw [List.getElem?_append_right (by first | omega | (simp; omega))] at e2
        have : i - (vf.toArray.toList ++ #[Value.func (.yield l) #[] #[]].toList).length = i - (first ++ [AV.yld H.length]).length := by simp [hl1]
        rw [this] at e2
        exact (h2 _ x v e1 (by simpa using e2)).mono (fun _ _ _ h => h) g3
    have hcall := hO.calls _ _ _ _ _ hq C _ w1 _ _ hargs g1 rfl
    unfold CallR at hcall
    rw [hO.enters _ _ _ _ hq hext] at hcall
    refine hwide.calls (hcall.mono fun e w3 hp => ?_)
    obtain ⟨v, rfl, C3, μ3, p1, p2, p3⟩ := hp
    have hle : H.length < (H ++ [ABlk.loop f (maskFr (cfg.keepIn f (firstRid body)) fr) ps.toList assign body none .ready]).length := by simp
    have hm3 : μ3 H.length = some ⟨l, 0, 0, 0⟩ := p3.mu _ _ hle (by unfold upd; rw [if_pos rfl])
    split at he
    case h_2 => cases he
    rename_i lf lfr lps lassign lbody pend st hlq
    split at he
    case h_1 => cases he
    rename_i hst
    obtain ⟨m, e1, e2, e3, rc, e4, e5, e6, _⟩ := p2.live _ _ hlq rfl
    rw [hm3] at e1; cases e1
    simp only at e4
    have hend := run_endLoop (P := cfg.P) e4 (by rw [e5]; exact hst)
    refine ⟨rc.pending, _, hend, ?_⟩
    -- the world behind it
    have hkill : Wld C3 μ3 (q.2.set H.length .dead) (w3.putObj l (.loop { rc with state := .exhausted })) := by
      refine (p2.kill H.length (by rw [hlq]; simp)).world (by simp) (fun b hb hor => ?_)
      refine World.putObj_heap_other fun hbl => ?_
      subst hbl
      rcases hor with hl' | ⟨o, hc'⟩
      · obtain ⟨_, hl''⟩ := hl'.of_kill
        exact hl'' _ hm3 (fun id' b' m' i1 i2 i3 i4 i5 => i4 (p2.inj _ _ _ _ _ _ i1 hlq i2 rfl i3 hm3 i5)) rfl
      · exact hc' (e3 o)
    have hf3 : FrRep C3 μ3 (maskFr (cfg.keepOut f (firstRid body)) fr) a.tmps := (maskFr_rep hf).mono p3.cl (fun id m hm => p3.mu id m (by have := hw.dom id m hm; simp; omega) (g3 id m hm))
    obtain ⟨μ4, k1, k2, k3⟩ := gc_ext hkill hf3 H.length (by simp; have := p3.len; simp at this; omega)
    have hx1 : Ext H.length C μ H w C3 μ3 q.2 w3 := g2.trans p3 (by simp)
    have hx : Ext H.length C μ H w C3 μ4 (gc H.length (maskFr (cfg.keepOut f (firstRid body)) fr) (q.2.set H.length .dead)).2 (w3.putObj l (.loop { rc with state := .exhausted })) := by
      refine ⟨hx1.os, hx1.tape, hx1.output, by have := hx1.size; simpa using this, hx1.cl, fun id m hid hm => k3.mu id m hid (hx1.mu id m hid hm), fun b hb hnl => ?_, k3.len⟩
      obtain ⟨f1, f2, f3⟩ := hx1.fr b hb hnl
      refine ⟨by rw [World.putObj_heap_other (by omega)]; exact f1, fun hl' => ?_, f3⟩
      have hb3 : b < (w3.putObj l (.loop { rc with state := .exhausted })).heap.size := by have := hx1.size; simp; omega
      exact (k3.fr b hb3 (fun hl'' => f2 hl''.of_kill.1)).2.1 hl'
    have hmarks : Marks B μ4 (gc H.length (maskFr (cfg.keepOut f (firstRid body)) fr) (q.2.set H.length .dead)).2 (w3.putObj l (.loop { rc with state := .exhausted })) (ms ++ a.defers) := by
      obtain ⟨hb, Ds, d1, d2, d3⟩ := hm.ext hx
      have hB : B ≤ w.heap.size := hm.1
      obtain ⟨_, Ds', d1', _, d3'⟩ := hm
      have hinj : Ds.map mark = Ds'.map mark := by rw [← d1, ← d1']
      have hDs : Ds = Ds' := by
        have : ∀ (x y : List Nat), x.map mark = y.map mark → x = y := by
          intro x
          induction x with
          | nil => intro y h; cases y with
            | nil => rfl
            | cons => simp at h
          | cons a x ih =>
            intro y h
            cases y with
            | nil => simp at h
            | cons b y =>
              simp only [List.map_cons, List.cons.injEq] at h
              obtain ⟨h1, h2⟩ := h
              have : a = b := by unfold mark at h1; cases h1; rfl
              rw [this, ih y h2]
        exact this _ _ hinj
      rcases hms with rfl | ⟨D, rfl, hD1, hD2, hD3⟩
      · exact ⟨hb, Ds, d1, d2, d3⟩
      · have hDlt : D < w1.heap.size := (Array.getElem?_eq_some_iff.1 hD3).1
        have hDl1 : ¬ Live (H ++ [ABlk.loop f (maskFr (cfg.keepIn f (firstRid body)) fr) ps.toList assign body none .ready]) (upd μ H.length ⟨l, 0, 0, 0⟩) D := by
          intro hl'
          rcases g4 D hl' with h | h
          · have := hw.live_lt h; omega
          · exact hD2 h
        obtain ⟨f1, f2, _⟩ := p3.fr D hDlt hDl1
        refine ⟨hb, D :: Ds, by simp [d1], List.nodup_cons.2 ⟨fun hmem => ?_, d2⟩, fun D' hD' => ?_⟩
        · rw [hDs] at hmem
          have := (Array.getElem?_eq_some_iff.1 (d3' D hmem).2.1).1
          omega
        · rcases List.mem_cons.1 hD' with rfl | hmem
          · refine ⟨by omega, by rw [World.putObj_heap_other hD2, f1]; exact hD3, fun hl' => ?_⟩
            have hb3 : D' < (w3.putObj l (.loop { rc with state := .exhausted })).heap.size := by have := p3.size; simp; omega
            exact (k3.fr D' hb3 (fun hl'' => f2 hl''.of_kill.1)).2.1 hl'
          · exact d3 D' hmem
    have fin : ∀ e, r = (e, gc H.length (maskFr (cfg.keepOut f (firstRid body)) fr) (q.2.set H.length .dead)) → CPost H.length B C μ H w r e.to { a with defers := ms ++ a.defers } (w3.putObj l (.loop { rc with state := .exhausted })) := by
      intro e hr
      subst hr
      exact ⟨rfl, C3, μ4, k2, k1, hx, hmarks⟩
    rw [e6] at fin ⊢
    split at he
    · cases he; exact fin .normal rfl
    · cases he; exact wpIn_ret (fin .ret rfl)
    · rename_i x; cases he; exact wpIn_exit (fin (.exit x) rfl)
    · cases he
  have hres : ∀ l w, (resolve a.eval (rangeCall g l) 0).run cfg.P w = .ok { target := .fn (.func h) vc.toArray, args := vf.toArray ++ #[.func (.yield l) #[] #[]] } w := by
    intro l w
    rw [resolve_value (f := g) rfl, hgv]
    simp [Deferred.ofValue, Act.eval]
  have hinv : ∀ l w, (invoke (.fn (.func h) vc.toArray) (vf.toArray ++ #[.func (.yield l) #[] #[]])).run cfg.P w = .ok (.enter h (vf.toArray ++ #[.func (.yield l) #[] #[]] ++ vc.toArray)) w := by
    intro l w
    rw [invoke]
    exact hO.enters _ _ _ _ hq hext _ w
  have hdep : F.depth.isSome = true → 1 ≤ 0 := fun hh => by rw [hwide.depth] at hh; simp at hh
  cases rd with
  | none =>
    have hFw : F = Fence.wide := hrd
    have hro : F.round = none := by rw [hFw]; rfl
    rw [hro]
    refine ⟨w.heap.size + 1, [mark w.heap.size], _, _, _, h, _, _, run_enterLoop_outer fn a.tmps ps assign body, hres _ _, fun f' _ => hwide.fn f', hinv _ _, hdep, ?_⟩
    refine core (w.heap.size + 1) [mark w.heap.size] _ w.heap.size (by simp; omega) (fun b hb => ?_) (by omega) ?_ rfl rfl rfl (.inr ⟨w.heap.size, rfl, Nat.le_refl _, by omega, ?_⟩)
    · show ((w.heap.push _).push _)[b]? = _
      rw [Array.getElem?_push, if_neg (by simp; omega), Array.getElem?_push, if_neg (by omega)]
    · show ((w.heap.push _).push _)[w.heap.size + 1]? = _
      rw [Array.getElem?_push, if_pos (by simp)]
    · show ((w.heap.push _).push _)[w.heap.size]? = _
      rw [Array.getElem?_push, if_neg (by simp), Array.getElem?_push, if_pos rfl]
  | some l0 =>
    obtain ⟨hl0, m0, hm0, hFr⟩ := hrd
    have hro : F.round = some m0.block := by rw [hFr]; rfl
    rw [hro]
    unfold rdLive at hrl
    simp only at hrl
    split at hrl
    case h_2 => cases hrl
    rename_i hb0
    obtain ⟨m', i1, i2, i3, r0, i4, _⟩ := hw.live _ _ hb0 rfl
    rw [hm0] at i1; cases i1
    refine ⟨w.heap.size, [], _, _, _, h, _, _, run_enterLoop_inner i4 fn a.tmps ps assign body, hres _ _, fun f' _ => hwide.fn f', hinv _ _, hdep, ?_⟩
    refine core w.heap.size [] _ r0.defers (by simp) (fun b hb => ?_) (Nat.le_refl _) ?_ rfl rfl rfl (.inl rfl)
    · show (w.heap.push _)[b]? = _
      rw [Array.getElem?_push, if_neg (by omega)]
    · show (w.heap.push _)[w.heap.size]? = _
      rw [Array.getElem?_push, if_pos rfl]
end Go.Av
