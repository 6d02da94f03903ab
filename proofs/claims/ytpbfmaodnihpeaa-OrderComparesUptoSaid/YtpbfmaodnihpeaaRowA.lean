/-
  The last step of every row: from the abstract evaluation of a statement to the model's calls. Own work.
  What is proved: what a statement over terms answers; no condition.
-/
import Derived.Test.YtpbfmaodnihpeaaAvSeat
import Derived.Test.YtpbfmaodnihpeaaOpen
import Derived.Test.YtpbfmaodnihpeaaAvW
namespace Go.Proofs.Ytpbfmaodnihpeaa
open Go.Av Go.ChangeShapes Go.WideShapes Go.ChangeAt Go.RowKit
set_option maxRecDepth 100000

theorem cfg_ok : CfgOk cfg where
  ty := ⟨fun t ti h => tys_look tys_ok h⟩
  mixed := mixed_ok
  named := fun f fn _ h => by
    have h1 := List.all_eq_true.1 names_ok fn (by
      rw [← Array.getElem?_toList] at h
      exact List.mem_of_getElem? h)
    simpa using h1
  ext := fun f s h args H r H' hr C μ w vs ha hw => by
    have h : extLook f extTab = some s := h
    unfold extTab at h
    rw [extLook] at h
    split at h
    · rename_i e
      have e := Nat.eq_of_beq_eq_true e
      subst e
      cases h
      exact extCmp_sound (P := Try.prog) Try.func107 (by rfl) (by rfl) (by kernel_rfl) (by kernel_rfl) hr ha hw
    · cases h

/-- a statement that answers true of what stands for the arguments, by a call that is handed no blocks: the call, and what lay there lies there -/
theorem row_calls {f : FuncId} {args : List AV} {vs : Array Value} {W : World} (hx : cfg.ext f = none) (he : EVs (EV cfg) f args = some (.bool true)) (ha : FrRep (C0 W) M0 args vs) :
    Calls Try.prog f vs W fun e W' => e = .returned (.bool true) ∧ (∀ b, b < W.heap.size → W'.heap[b]? = W.heap[b]?) ∧ W.heap.size ≤ W'.heap.size ∧ W'.os = W.os ∧ W'.output = W.output := by
  unfold EVs at he
  obtain ⟨q, h1, h2⟩ := Option.map_eq_some_iff.1 he
  have := EV_calls cfg_ok hx (r := q.1) (H' := q.2) h1 ha (wld0 W)
  refine this.mono fun e W' ⟨v, hv, C', μ', p1, p2, p3⟩ => ?_
  rw [h2] at p1
  cases p1
  refine ⟨hv, fun b hb => (p3.fr b hb not_live_nil).1, p3.size, p3.os, p3.output⟩

section
variable {H : Type} {enc : TypeId × Value → H} {P : Program} {W W' : World}

/-- as in the kit's 'post_of_same', what is frozen being asked of the places alone -/
theorem post_same {f : Func} {s : ChangeSpec} {apart fresh handsOn again : Bool} {args : Array Value} {v : Value} {ds gs : List (DataW H)} {before pa pv : List MemPlace}
    (hW : DataW.Whole enc P f.params.toList s.vars apart W args.toList ds gs before)
    (hres : ∀ (b : Nat) (sp : Nat → Bool) (hd : Bool), DataW.TrodAll enc P W' b sp hd f.resultTypes.toList (v.resultList f.resultTypes.size) (s.fn H (ds ++ gs)).results [])
    (hargs : ∀ sp : Nat → Bool, (∀ p ∈ before, sp p.block = true) → DataW.TrodAll enc P W' 0 sp true f.params.toList args.toList (s.fn H (ds ++ gs)).args pa)
    (hvars : ∀ sp : Nat → Bool, (∀ p ∈ before, sp p.block = true) → DataW.TrodVars enc P W' sp s.vars (s.fn H (ds ++ gs)).vars pv)
    (hps : before = pa ++ pv) (hk : W.keptBut W' (· ∈ before)) (hfz : ∀ b o, b < W.heap.size → W'.frozen? ⟨b, o, none⟩ = W.frozen? ⟨b, o, none⟩)
    (hok : ∀ (j : Nat) (t : TypeId) (r : Value), f.resultTypes[j]? = some t → (v.resultList f.resultTypes.size)[j]? = some r → Value.okWide P W' .any 0 t r) :
    s.post enc P f apart fresh handsOn again W args v W' := by
  have hlt := hW.lt
  have hold : ∀ p ∈ before, (fun b => decide (b < W.heap.size)) p.block = true := fun p hp => by simpa using hlt p hp
  refine ⟨ds, gs, before, [], pa, pv, hW, hres _ _ _, hargs _ hold, hvars _ hold, World.keptBut_mono (fun p hp => ⟨hp, ?_⟩) hk, fun _ => ?_⟩
  · rw [hps, List.mem_append] at hp
    exact Or.inr hp
  · obtain ⟨_, _, _, _, _, hz, hn⟩ := hW
    refine ⟨hok, _, _, ([] ++ pa) ++ pv, ⟨[] ++ pa, pv, trodAll_append (hargs _ (fun _ _ => rfl)) (hres _ _ _), hvars _ (fun _ _ => rfl), rfl, ?_, ?_⟩, ?_⟩
    · intro b off hp
      have hp' : MemPlace.cell b off ∈ before := by rw [hps]; simpa using hp
      rw [hfz b off (hlt _ hp')]
      exact hz b off hp'
    · intro ha
      have := hn ha
      rw [hps] at this
      simpa using this
    · intro p hp _
      rw [hps]
      simpa using hp

theorem kept_of_heap (h : ∀ b, b < W.heap.size → W'.heap[b]? = W.heap[b]?) (ho : W'.os = W.os) (hu : W'.output = W.output) (may : MemPlace → Prop) : W.keptBut W' may := by
  refine ⟨ho, hu, fun i hi => ?_⟩
  rw [h i hi]
  cases W.heap[i]? with
  | none => rfl
  | some o => cases o <;> simp

theorem same_of_heap (h : ∀ b, b < W.heap.size → W'.heap[b]? = W.heap[b]?) {p : MemPlace} (hp : p.block < W.heap.size) : W.sameAt W' p := by
  cases p with
  | cell b o => simp only [World.sameAt, World.cell?]; rw [h b hp]
  | map b => exact h b hp

theorem frozen_of_heap (h : ∀ b, b < W.heap.size → W'.heap[b]? = W.heap[b]?) (b o : Nat) (hb : b < W.heap.size) : W'.frozen? ⟨b, o, none⟩ = W.frozen? ⟨b, o, none⟩ := by
  simp only [World.frozen?]; rw [h b hb]

/-- what an argument is, and that it reads the same later -/
structure Opened (enc : TypeId × Value → H) (P : Program) (W : World) (t : TypeId) (v : Value) (d : DataW H) (ps : List MemPlace) (a : AV) : Prop where
  rep : Rep (C0 W) M0 a v
  back : ∀ (W' : World) (sp : Nat → Bool), (∀ p ∈ ps, W.sameAt W' p) → (∀ p ∈ ps, sp p.block = true) → DataW.Trod enc P W' 0 sp true t v d ps

theorem open_term {tT tL tI tS : TypeId} (T : TermTys P tT tL tI tS) {r : Reach} {b0 : Nat} {v : Value} {d : DataW H} {ps : List MemPlace} (hval : Value.okWide P W r b0 tT v) (hd : DataW.Trod enc P W 0 (fun _ => true) true tT v d ps) :
    ∃ t : Tm, Opened enc P W tT v d ps t.av ∧ (Rows.uptoBulk d < 1099511627776 → t.Ok) := by
  obtain ⟨f0, f1, f2, f3, hu, _⟩ := T.uT
  obtain ⟨cs, rfl, hsz⟩ := okWide_struct hu hval
  obtain ⟨n, hn⟩ := hd
  obtain ⟨t, h1, h2, h3⟩ := (open_both T n).1 _ _ hn
  refine ⟨t, ⟨?_, fun W' sp hs hp => ⟨n, h3 W' sp hs hp⟩⟩, h2⟩
  have := Rep.agg (C := C0 W) (μ := M0) t.cells cs.toList (by
    have := h1.1
    cases t with
    | mk k n s l => rw [Tm.cells_mk]; simpa [Value.cells] using this.symm) (fun i a v ha hv => (h1.2 i a v ha (by simpa [Value.cells] using hv)).2)
  simpa [Tm.av] using this

theorem open_terms {tT tL tI tS : TypeId} (T : TermTys P tT tL tI tS) {r : Reach} {b0 : Nat} {v : Value} {d : DataW H} {ps : List MemPlace} (hval : Value.okWide P W r b0 tL v) (hd : DataW.Trod enc P W 0 (fun _ => true) true tL v d ps) :
    ∃ l : List Tm, Opened enc P W tL v d ps (.sl (rowsT l)) ∧ (Rows.uptoBulk d < 1099511627776 → OkL l ∧ l.length < 1099511627776) := by
  obtain ⟨a, len, cap, rfl⟩ := okWide_slice T.uL hval
  obtain ⟨n, hn⟩ := hd
  obtain ⟨l, v, h0, h1, h2, h3⟩ := (open_both T n).2 _ _ hn
  have h0 : [Value.slice a len cap] = [v] := by simpa [Value.cells] using h0
  cases h0
  exact ⟨l, ⟨h1, fun W' sp hs hp => ⟨n, h3 W' sp hs hp⟩⟩, h2⟩
end

theorem bulk_of {H : Type} {l : List (DataW H)} (hk : Rows.uptoSmall H l = true) {d : DataW H} (hd : d ∈ l) : Rows.uptoBulk d < 1099511627776 := by
  have h : Rows.uptoBulkAll l ≤ 1048576 := of_decide_eq_true hk
  have := bulk_part hd
  omega
theorem rep_two {C : Claims} {a b : AV} {x y : Value} (h1 : Rep C M0 a x) (h2 : Rep C M0 b y) : FrRep C M0 [a, b] #[x, y] := ⟨rfl, fun i c v hc hv => by
  match i, hc, hv with
  | 0, hc, hv => simp at hc hv; subst hc hv; exact h1
  | 1, hc, hv => simp at hc hv; subst hc hv; exact h2
  | (i + 2), hc, hv => simp at hc⟩
theorem rep_one {C : Claims} {a : AV} {x : Value} (h1 : Rep C M0 a x) : FrRep C M0 [a] #[x] := ⟨rfl, fun i c v hc hv => by
  match i, hc, hv with
  | 0, hc, hv => simp at hc hv; subst hc hv; exact h1
  | (i + 1), hc, hv => simp at hc⟩
theorem rep_three {C : Claims} {a b c : AV} {x y z : Value} (h1 : Rep C M0 a x) (h2 : Rep C M0 b y) (h3 : Rep C M0 c z) : FrRep C M0 [a, b, c] #[x, y, z] := ⟨rfl, fun i c v hc hv => by
  match i, hc, hv with
  | 0, hc, hv => simp at hc hv; subst hc hv; exact h1
  | 1, hc, hv => simp at hc hv; subst hc hv; exact h2
  | 2, hc, hv => simp at hc hv; subst hc hv; exact h3
  | (i + 3), hc, hv => simp at hc⟩
end Go.Proofs.Ytpbfmaodnihpeaa
