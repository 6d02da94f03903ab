/-
  A region that draws its order: the walk of all orders. Own work.
  What is proved: whatever order is drawn, it ends as the abstract evaluation in the text's order says, if the calls do; no condition.
-/
import Derived.Test.YtpbfmaodnihpeaaAvDraw3
namespace Go.Av
variable {C C' C1 C2 : Claims} {μ μ' μ1 : MMap} {H H' H1 H2 : AH} {w w' w1 : World} {P : Program}

theorem countP_lt {p q : Nat → Bool} (h : ∀ j, q j = true → p j = true) {i : Nat} (hp : p i = true) (hq : q i = false) : ∀ {l : List Nat}, i ∈ l → l.countP q < l.countP p
  | [], hi => by cases hi
  | x :: l, hi => by
    have hle : l.countP q ≤ l.countP p := List.countP_mono_left fun j _ hj => h j hj
    rw [List.countP_cons, List.countP_cons]
    by_cases e : i = x
    · subst e
      rw [hp, hq]; simp; omega
    · have := countP_lt h hp hq ((List.mem_cons.1 hi).resolve_left e)
      cases hqx : q x with
      | true => rw [h x hqx]; simp; omega
      | false =>
        cases p x <;> simp <;> omega

theorem getD_set (listed : Array Bool) {i : Nat} (hi : i < listed.size) : (fun j => (listed.setIfInBounds i true).getD j false) = addD (fun j => listed.getD j false) i := by
  funext j
  rw [Array.getD_eq_getD_getElem?, Array.getElem?_setIfInBounds]
  by_cases e : i = j
  · subst e
    rw [if_pos rfl, if_pos hi, addD_self]; rfl
  · rw [if_neg e, addD_ne (fun h => e h.symm), Array.getD_eq_getD_getElem?]

theorem getD_tf {listed : Array Bool} {j : Nat} (hj : j < listed.size) : listed.getD j true = listed.getD j false := by
  rw [Array.getD_eq_getD_getElem?, Array.getD_eq_getD_getElem?, Array.getElem?_eq_getElem hj]; rfl

def unl (N : Nat) (listed : Array Bool) : Nat := (List.range N).countP fun j => !listed.getD j true

theorem ready_nil {ops : Array Oper} (hb : backward 0 ops.toList = true) {listed : Array Bool} (hs : listed.size = ops.size) (hr : Region.ready .any ops listed = []) : ∀ j, j < ops.size → listed.getD j false = true := by
  intro j
  induction j using Nat.strongRecOn with
  | _ j ih =>
    intro hj
    rw [← Bool.not_eq_false]
    intro hf
    have hmem : j ∈ Region.ready .any ops listed := by
      refine mem_ready.2 ⟨by rw [getD_tf (by omega)]; exact hf, ops[j], Array.getElem?_eq_getElem hj, fun e he hbe => ?_⟩
      have hlt : e.on < j := by
        have hback : ∀ (l : List Oper) (k j : Nat) (o : Oper), backward k l = true → l[j]? = some o → ∀ e ∈ o.after.toList, Region.binds .any e = true → e.on < k + j := by
          intro l
          induction l with
          | nil => intro k j o _ h; simp at h
          | cons o' l ih =>
            intro k j o hb hj e he hbe
            rw [backward, Bool.and_eq_true] at hb
            cases j with
            | zero =>
              simp at hj; subst hj
              have := List.all_eq_true.1 hb.1 e he
              rw [hbe] at this
              simpa [Nat.blt_eq] using this
            | succ j =>
              have := ih (k + 1) j o hb.2 (by simpa using hj) e he hbe
              omega
        have := hback ops.toList 0 j ops[j] hb (by rw [Array.getElem?_toList]; exact Array.getElem?_eq_getElem hj) e (Array.mem_toList_iff.2 he) hbe
        omega
      exact ih e.on hlt (by omega)
    rw [hr] at hmem
    cases hmem

theorem draw_any {cfg : Cfg} (hc : CfgTy cfg) {cf : Orac} (hO : OracOk cfg cf) {Fn : Fence} (hF : WideF Fn) {ops : Array Oper} {frz : Nat → Bool} {F : Nat → List AV} {G : Nat → AH} {V : Nat → AV} {B : Nat → Bool} {A : Nat → Nat} {Φ : Nat → FP}
    (hd : DrawOk cfg cf ops frz F G V B A Φ) {Q : Exit → Act → World → Prop} {C0 : Claims} {μ0 : MMap} {H0 : AH} {w0 : World} {k : Nat} {ds : List Deferred}
    (hq : ∀ C μ w a, FrRep C μ (F ops.size) a.tmps → Wld C μ (G ops.size) w → Ext k C0 μ0 H0 w0 C μ (G ops.size) w → a.defers = ds → Q .normal a w) :
    ∀ (fuel : Nat) (listed : Array Bool) {fr : List AV} {H : AH} {C : Claims} {μ : MMap} {w : World} {a : Act}, listed.size = ops.size → unl ops.size listed ≤ fuel → FrIs ops V (F 0) (fun j => listed.getD j false) fr →
      HIs Φ G ops.size (fun j => listed.getD j false) H → AncClosed (ancs [] ops.toList) (fun j => listed.getD j false) → FrRep C μ fr a.tmps → Wld C μ H w → Ext k C0 μ0 H0 w0 C μ H w → a.defers = ds →
      wpAnyIn Fn 0 cfg.P .any ops Q fuel listed a w := by
  have done : ∀ {listed : Array Bool} {fr : List AV} {H : AH} {C : Claims} {μ : MMap} {w : World} {a : Act}, (∀ j, j < ops.size → listed.getD j false = true) → FrIs ops V (F 0) (fun j => listed.getD j false) fr →
      HIs Φ G ops.size (fun j => listed.getD j false) H → FrRep C μ fr a.tmps → Wld C μ H w → Ext k C0 μ0 H0 w0 C μ H w → a.defers = ds → Q .normal a w := by
    intro listed fr H C μ w a hall hfi hhi hfr hw hx hds
    obtain ⟨p1, p2⟩ := hd.pre ops.size (Nat.le_refl _)
    have e1 : fr = F ops.size := List.ext_getElem? fun t => hfi.congr p1 fun j hj => by
      obtain ⟨o, ho, _⟩ := isDst_some hj
      have hlt := (Array.getElem?_eq_some_iff.1 ho).1
      rw [hall j hlt]
      simp [preD, Nat.blt_eq, hlt]
    have e2 : H = G ops.size := List.ext_getElem? fun id => hhi.congr p2 fun j hj _ => by
      rw [hall j hj]
      simp [preD, Nat.blt_eq, hj]
    subst e1; subst e2
    exact hq C μ w a hfr hw hx hds
  have step : ∀ (i : Nat) (K : Act → World → Prop) {listed : Array Bool} {fr : List AV} {H : AH} {C : Claims} {μ : MMap} {w : World} {a : Act}, i ∈ Region.ready .any ops listed → listed.size = ops.size → FrIs ops V (F 0) (fun j => listed.getD j false) fr →
      HIs Φ G ops.size (fun j => listed.getD j false) H → AncClosed (ancs [] ops.toList) (fun j => listed.getD j false) → FrRep C μ fr a.tmps → Wld C μ H w → Ext k C0 μ0 H0 w0 C μ H w → a.defers = ds →
      (∀ {fr : List AV} {H : AH} {C : Claims} {μ : MMap} {w : World} {a : Act}, FrIs ops V (F 0) (fun j => (listed.setIfInBounds i true).getD j false) fr →
        HIs Φ G ops.size (fun j => (listed.setIfInBounds i true).getD j false) H → AncClosed (ancs [] ops.toList) (fun j => (listed.setIfInBounds i true).getD j false) → FrRep C μ fr a.tmps → Wld C μ H w → Ext k C0 μ0 H0 w0 C μ H w → a.defers = ds → K a w) →
      wpOpIn Fn 0 cfg.P ops Q i K a w := by
    intro i K listed fr H C μ w a hr hs hfi hhi hac hfr hw hx hds hK
    obtain ⟨hun, o, ho, hed⟩ := mem_ready.1 hr
    have hlt : i < ops.size := (Array.getElem?_eq_some_iff.1 ho).1
    have hDi : listed.getD i false = false := by rw [← getD_tf (by omega)]; exact hun
    obtain ⟨hanc, hac'⟩ := hac.add hd.back ho (fun m ⟨e, he, hbe, hm⟩ => by subst hm; exact hed e (Array.mem_toList_iff.1 he) hbe)
    obtain ⟨r1, r2, r3, r4⟩ := hd.ready hfi hhi hac ho hDi hanc (fun j hj => by
      rcases Nat.lt_or_ge j ops.size with h | h
      · exact h
      · rw [Array.getD_eq_getD_getElem?, Array.getElem?_eq_none (by omega)] at hj; simp at hj)
    have hwan := wanted_sound hfr r1
    rw [← getD_set listed (by omega)] at hac' r4 r2 r3
    unfold wpOpIn
    simp only [ho]
    cases hb : B i with
    | true =>
      rw [hb] at hwan
      rw [if_pos hwan]
      obtain ⟨H', e1, e2⟩ := r2 hb
      refine oper_wpIn hF ((evOper_sound hc hO (opd_rep hfr) hw e1).mono fun v w1 ⟨C1, μ1, g1, g2, g3⟩ => ?_)
      have hf1 : FrRep C1 μ1 fr a.tmps := hfr.mono g3.cl (fun id m hm => g3.mu id m (hw.dom id m hm) hm)
      exact hK r4 e2 hac' (put_rep hf1 g1) g2 (hx.trans g3 hx.len) (by rw [put_defers]; exact hds)
    | false =>
      rw [hb] at hwan
      rw [if_neg (by rw [hwan]; simp)]
      obtain ⟨e0, e2⟩ := r3 hb
      rw [e0] at r4
      exact ⟨fun f _ => hF.fn f, hK r4 e2 hac' (put_rep hfr (.junk _)) hw hx (by rw [put_defers]; exact hds)⟩
  intro fuel
  induction fuel with
  | zero =>
    intro listed fr H C μ w a hs hu hfi hhi hac hfr hw hx hds
    have hall : ∀ j, j < ops.size → listed.getD j false = true := by
      intro j hj
      have h0 : unl ops.size listed = 0 := by omega
      unfold unl at h0
      rw [List.countP_eq_zero] at h0
      have := h0 j (List.mem_range.2 hj)
      rw [getD_tf (by omega)] at this
      simpa using this
    refine ⟨?_, done hall hfi hhi hfr hw hx hds⟩
    cases hr : Region.ready .any ops listed with
    | nil => rfl
    | cons i l =>
      have hi : i ∈ Region.ready .any ops listed := by rw [hr]; exact List.mem_cons_self ..
      obtain ⟨hun, o, ho, _⟩ := mem_ready.1 hi
      have hlt : i < ops.size := (Array.getElem?_eq_some_iff.1 ho).1
      have := hall i hlt
      rw [← getD_tf (by omega), hun] at this
      cases this
  | succ fuel ih =>
    intro listed fr H C μ w a hs hu hfi hhi hac hfr hw hx hds
    refine ⟨fun hr => done (ready_nil hd.back hs hr) hfi hhi hfr hw hx hds, fun i hi => step i _ hi hs hfi hhi hac hfr hw hx hds ?_⟩
    intro fr' H' C' μ' w' a' f1 f2 f3 f4 f5 f6 f7
    refine ih (listed.setIfInBounds i true) (by simpa using hs) ?_ f1 f2 f3 f4 f5 f6 f7
    obtain ⟨hun, o, ho, _⟩ := mem_ready.1 hi
    have hlt : i < ops.size := (Array.getElem?_eq_some_iff.1 ho).1
    have : unl ops.size (listed.setIfInBounds i true) < unl ops.size listed := by
      unfold unl
      refine countP_lt (fun j hj => ?_) (i := i) (by rw [hun]; rfl) ?_ (List.mem_range.2 hlt)
      · rw [Array.getD_eq_getD_getElem?, Array.getElem?_setIfInBounds] at hj
        by_cases e : i = j
        · subst e; rw [if_pos rfl, if_pos (by omega)] at hj; simp at hj
        · rw [if_neg e] at hj; rw [Array.getD_eq_getD_getElem?]; exact hj
      · rw [Array.getD_eq_getD_getElem?, Array.getElem?_setIfInBounds, if_pos rfl, if_pos (by omega)]; rfl
    omega

/-- places for new blocks -/
theorem Wld.places (h : Wld C μ H w) (n : Nat) : Wld C μ (H ++ List.replicate n .res) w where
  cl := h.cl
  dom := fun id m hm => by have := h.dom id m hm; simp; omega
  res := fun id hi => by
    rcases Nat.lt_or_ge id H.length with hlt | hge
    · rw [List.getElem?_append_left hlt] at hi; exact h.res id hi
    · cases hm : μ id with
      | none => rfl
      | some m => have := h.dom id m hm; omega
  live := fun id blk h1 h2 => by
    rcases Nat.lt_or_ge id H.length with hlt | hge
    · rw [List.getElem?_append_left hlt] at h1; exact h.live id blk h1 h2
    · rw [List.getElem?_append_right hge] at h1
      have := List.mem_of_getElem? h1
      rw [List.mem_replicate] at this
      rw [this.2] at h2; cases h2
  free := fun id b h1 => by
    rcases Nat.lt_or_ge id H.length with hlt | hge
    · rw [List.getElem?_append_left hlt] at h1; exact h.free id b h1
    · rw [List.getElem?_append_right hge] at h1
      have := List.mem_of_getElem? h1
      rw [List.mem_replicate] at this
      rw [this.2]; trivial
  froz := fun id d sz rs h1 => by
    rcases Nat.lt_or_ge id H.length with hlt | hge
    · rw [List.getElem?_append_left hlt] at h1; exact h.froz id d sz rs h1
    · rw [List.getElem?_append_right hge] at h1
      have := List.mem_of_getElem? h1
      rw [List.mem_replicate] at this
      cases this.2
  inj := fun i i' b b' m m' h1 h2 h3 h4 => by
    have aux : ∀ (j : Nat) bj, (H ++ List.replicate n .res)[j]? = some bj → bj.live = true → H[j]? = some bj := by
      intro j bj hj hl
      rcases Nat.lt_or_ge j H.length with hlt | hge
      · rw [List.getElem?_append_left hlt] at hj; exact hj
      · rw [List.getElem?_append_right hge] at hj
        have := List.mem_of_getElem? hj
        rw [List.mem_replicate] at this
        rw [this.2] at hl; cases hl
    exact h.inj i i' b b' m m' (aux i b h1 h3) (aux i' b' h2 h4) h3 h4

theorem Live.places {n b : Nat} (h : Live (H ++ List.replicate n .res) μ b) : Live H μ b := by
  obtain ⟨j, bj, m, h1, h2, h3, h4⟩ := h
  rcases Nat.lt_or_ge j H.length with hlt | hge
  · rw [List.getElem?_append_left hlt] at h1; exact ⟨j, bj, m, h1, h2, h3, h4⟩
  · rw [List.getElem?_append_right hge] at h1
    have := List.mem_of_getElem? h1
    rw [List.mem_replicate] at this
    rw [this.2] at h2; cases h2

theorem draw_sound {cfg : Cfg} (hc : CfgTy cfg) {cf : Orac} (hO : OracOk cfg cf) (hm : cfg.P.follows .mixedOrders = true) {Fn : Fence} (hF : WideF Fn) {f rid : Nat} {ops : Array Oper} {fr : List AV} {fps : List FP} {fr' : List AV} {a : Act}
    (hst : drawStat ops = true) (he : evDraw cfg cf f rid ops 0 H.length ops.toList fr (H ++ List.replicate (places cfg ops.toList) .res) = some (fps, fr', H')) (hdy : dynAll (ancs [] ops.toList) 0 fps = true)
    (hf : FrRep C μ fr a.tmps) (hw : Wld C μ H w) {Q : Exit → Act → World → Prop}
    (hq : ∀ C' μ' w' a', FrRep C' μ' fr' a'.tmps → Wld C' μ' H' w' → Ext H.length C μ H w C' μ' H' w' → a'.defers = a.defers → Q .normal a' w') : (Code.region rid ops true).wpIn Fn 0 cfg.P Q a w := by
  obtain ⟨F, G, V, B, A, Φ, e1, e2, e3, e4, e5, e6⟩ := evDraw_run ops.toList 0 H.length he
  simp only [Nat.zero_add, Array.length_toList] at e3 e4 e5 e6
  unfold drawStat at hst
  rw [Bool.and_eq_true] at hst
  have hd : DrawOk cfg cf ops (fun k => cfg.frz f rid k) F G V B A Φ := by
    refine ⟨hst.1, fun i j a b hi hj hlt => ?_, fun i j hj hlt => ?_, fun i o ho => e6 i o (by rw [Array.getElem?_toList]; exact ho)⟩
    · have := statAll_get ops.toList 0 hst.2 i j a b (by rw [Array.getElem?_toList]; exact hi) (by rw [Array.getElem?_toList]; exact hj) hlt
      simpa using this
    · have := dynAll_get fps 0 hdy i j _ _ (e5 i (by omega)) (e5 j hj) hlt
      simpa using this
  refine wpIn_region_any hm ?_
  have hlist : (fun j => (Array.replicate ops.size false).getD j false) = preD 0 := by
    funext j
    rw [Array.getD_eq_getD_getElem?]
    have hp : preD 0 j = false := by rw [← Bool.not_eq_true]; simp [preD, Nat.blt_eq]
    rw [hp]
    rcases Nat.lt_or_ge j ops.size with h | h
    · simp [h]
    · simp [h]
  obtain ⟨p1, p2⟩ := hd.pre 0 (Nat.zero_le _)
  have hx0 : Ext H.length C μ H w C μ (H ++ List.replicate (places cfg ops.toList) .res) { w with drawn := w.drawn + 1 } :=
    ⟨rfl, rfl, rfl, Nat.le_refl _, fun _ _ _ h => h, fun _ _ _ h => h, fun b _ hnl => ⟨rfl, fun hl => hnl hl.places, rfl⟩, by simp⟩
  refine draw_any hc hO hF hd (C0 := C) (μ0 := μ) (H0 := H) (w0 := w) (k := H.length) (ds := a.defers) (fun C' μ' w' a' g1 g2 g3 g4 => ?_) ops.size (Array.replicate ops.size false) (fr := F 0) (H := G 0) (by simp) ?_ (by rw [hlist]; exact p1) (by rw [hlist]; exact p2) (by rw [hlist]; intro j hj; simp [preD] at hj)
    (by rw [e1]; exact hf) (by rw [e2]; exact (hw.places _).heap rfl) (by rw [e2]; exact hx0) rfl
  · rw [e3] at g1
    rw [e4] at g2 g3
    exact hq C' μ' w' a' g1 g2 g3 g4
  · unfold unl
    have := List.countP_le_length (p := fun j => !(Array.replicate ops.size false).getD j true) (l := List.range ops.size)
    simpa using this
end Go.Av
