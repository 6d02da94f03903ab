/-
  Code: what the machine does with it. Own work.
  What is proved: code runs as the abstract evaluation says, if the calls do; no condition.
-/
import Derived.Test.YtpbfmaodnihpeaaAvDraw4
import Derived.LoopNIn
namespace Go.Av
variable {C C' C1 C2 : Claims} {μ μ' μ1 : MMap} {H H' H1 H2 : AH} {w w' w1 : World} {P : Program}

/-! ### a scope that nobody jumps in -/
section
variable {F : Fence} {n : Nat} {Q : Exit → Act → World → Prop} {a : Act} {b : Frame} {k : List Item} {cs : List Frame}
theorem stepR_scope' {c : Code} : step P (lone (b.atR a (.code (.scope c) :: k)) cs w) = .next (lone (b.atR a (.code c :: .inScope c :: k)) cs w) :=
  step_lone_go (by simp [stepG, stepG.exec, Frame.atR])
theorem stepR_inScope' {c : Code} : step P (lone (b.atR a (.inScope c :: k)) cs w) = .next (lone (b.atR a k) cs w) :=
  step_lone_go (by simp [stepG, stepG.exec, Frame.atR])
theorem wpIn_scope' {c : Code} (h : c.wpIn F n P Q a w) (hg : ∀ l a w, ¬ Q (.goto l) a w) : (Code.scope c).wpIn F n P Q a w := by
  intro b k cs hro hb hr
  have h0 : (lone (b.atR a (.code (.scope c) :: k)) cs w).fenced P F := fenced_calm hb hr rfl
  obtain ⟨e, a₁, w₁, hq, harr⟩ := h b (.inScope c :: k) cs hro hb hr
  cases e with
  | normal => exact ⟨.normal, a₁, w₁, hq, .head h0 stepR_scope' (StepsIn.trans harr (.one (fenced_calm hb hr rfl) stepR_inScope'))⟩
  | exit id =>
    have hx : exitTo id (.inScope c :: k) = exitTo id k := by simp [exitTo]
    exact ⟨.exit id, a₁, w₁, hq, fun k' hk => .head h0 stepR_scope' (harr.1 k' (by rw [hx]; exact hk)),
      fun hr' hk => let ⟨k₁, h1, h2⟩ := harr.2 hr' (by rw [hx]; exact hk); ⟨k₁, h1, .head h0 stepR_scope' h2⟩⟩
  | goto l => exact absurd hq (hg l _ _)
  | ret => exact ⟨_, a₁, w₁, hq, .of_steps (.one h0 stepR_scope') harr⟩
  | panic ch => exact ⟨_, a₁, w₁, hq, .of_steps (.one h0 stepR_scope') harr⟩
  | outgrown => exact ⟨_, a₁, w₁, hq, .of_steps (.one h0 stepR_scope') harr⟩
end

/-! ### what is said of code -/
def mark (D : Nat) : Deferred := { target := .collected D, args := #[] }

/-- the marks of the loops over functions, among the deferred calls -/
def Marks (B : Nat) (μ : MMap) (H : AH) (w : World) (ds : List Deferred) : Prop :=
  B ≤ w.heap.size ∧ ∃ Ds : List Nat, ds = Ds.map mark ∧ Ds.Nodup ∧ ∀ D ∈ Ds, B ≤ D ∧ w.heap[D]? = some (.deferred (some [])) ∧ ¬ Live H μ D

theorem Marks.ext {B k : Nat} {ds : List Deferred} (h : Marks B μ H w ds) (hx : Ext k C μ H w C' μ' H' w') : Marks B μ' H' w' ds := by
  obtain ⟨hb, Ds, h1, h2, h3⟩ := h
  refine ⟨Nat.le_trans hb hx.size, Ds, h1, h2, fun D hD => ?_⟩
  obtain ⟨e1, e2, e3⟩ := h3 D hD
  obtain ⟨f1, f2, _⟩ := hx.fr D (Array.getElem?_eq_some_iff.1 e2).1 e3
  exact ⟨e1, by rw [f1]; exact e2, f2⟩

def Ex.to : Ex → Exit
  | .normal => .normal
  | .exit id => .exit id
  | .goto l => .goto l
  | .ret => .ret

def CPost (k B : Nat) (C : Claims) (μ : MMap) (H : AH) (w : World) (r : Ex × List AV × AH) : Exit → Act → World → Prop := fun e a' w' =>
  e = r.1.to ∧ ∃ C' μ', FrRep C' μ' r.2.1 a'.tmps ∧ Wld C' μ' r.2.2 w' ∧ Ext k C μ H w C' μ' r.2.2 w' ∧ Marks B μ' r.2.2 w' a'.defers

theorem CPost.mono {k k' B : Nat} {r : Ex × List AV × AH} {e : Exit} {a' : Act} {w2 : World} (h : CPost k' B C1 μ1 H1 w1 r e a' w2) (hx : Ext k C μ H w C1 μ1 H1 w1) (hk : k ≤ k') : CPost k B C μ H w r e a' w2 := by
  obtain ⟨h1, C', μ', h2, h3, h4, h5⟩ := h
  exact ⟨h1, C', μ', h2, h3, hx.trans h4 hk, h5⟩

/-- where the code runs: in a function's own frame, or in a round of a loop over a function -/
def RdOk (rd : Option Nat) (F : Fence) (μ : MMap) (k : Nat) : Prop :=
  match rd with
  | none => F = Fence.wide
  | some l => l < k ∧ ∃ m, μ l = some m ∧ F = Fence.wide.inRound m.block

theorem RdOk.wide {rd : Option Nat} {F : Fence} {k : Nat} (h : RdOk rd F μ k) : WideF F := by
  cases rd with
  | none => exact .inl h
  | some l => obtain ⟨_, m, _, h⟩ := h; exact .inr ⟨_, h⟩
theorem RdOk.ext {rd : Option Nat} {F : Fence} {k k' : Nat} (h : RdOk rd F μ k) (hm : ∀ id m, id < k → μ id = some m → μ' id = some m) (hk : k ≤ k') : RdOk rd F μ' k' := by
  cases rd with
  | none => exact h
  | some l => obtain ⟨h1, m, h2, h3⟩ := h; exact ⟨by omega, m, hm l m h1 h2, h3⟩

theorem FrRep.ext {k : Nat} {fr : List AV} {t : Array Value} (h : FrRep C μ fr t) (hw : Wld C μ H w) (hx : Ext k C μ H w C' μ' H' w') (hk : H.length ≤ k) : FrRep C' μ' fr t :=
  h.mono hx.cl fun id m hm => hx.mu id m (Nat.lt_of_lt_of_le (hw.dom id m hm) hk) hm

theorem keepGo_rep : ∀ {ts : List Tmp} {fr : List AV} {k : Nat}, (keepGo k ts fr).length = fr.length ∧ ∀ (i : Nat) a, (keepGo k ts fr)[i]? = some a → a = .junk ∨ fr[i]? = some a
  | _, [], _ => by simp [keepGo]
  | [], x :: fr, k => by
    have ih := keepGo_rep (ts := []) (fr := fr) (k := k)
    refine ⟨by simp [keepGo, ih.1], fun i a h => ?_⟩
    cases i with
    | zero => simp [keepGo] at h; exact .inl h.symm
    | succ i => simp [keepGo] at h; simpa using ih.2 i a h
  | t :: ts, x :: fr, k => by
    have ih1 := keepGo_rep (ts := ts) (fr := fr) (k := k + 1)
    have ih2 := keepGo_rep (ts := t :: ts) (fr := fr) (k := k + 1)
    rw [keepGo]
    split
    · refine ⟨by simp [ih1.1], fun i a h => ?_⟩
      cases i with
      | zero => simp at h; subst h; exact .inr rfl
      | succ i => simpa using ih1.2 i a (by simpa using h)
    · refine ⟨by simp [ih2.1], fun i a h => ?_⟩
      cases i with
      | zero => simp at h; exact .inl h.symm
      | succ i => simpa using ih2.2 i a (by simpa using h)

theorem maskFr_rep {ts : Option (List Tmp)} {fr : List AV} {t : Array Value} (h : FrRep C μ fr t) : FrRep C μ (maskFr ts fr) t := by
  cases ts with
  | none => exact h
  | some ks =>
    obtain ⟨h1, h2⟩ := keepGo_rep (ts := ks) (fr := fr) (k := 0)
    refine ⟨by show (keepGo 0 ks fr).length = _; rw [h1, h.1], fun i a v e1 e2 => ?_⟩
    rcases h2 i a e1 with rfl | e3
    · exact .junk v
    · exact h.2 i a v e3 e2

/-- new numbers for the blocks -/
theorem gc_ext (h : Wld C μ H w) {fr : List AV} {tmps : Array Value} (hf : FrRep C μ fr tmps) (k : Nat) (hk : k ≤ H.length) : ∃ μ', Wld C μ' (gc k fr H).2 w ∧ FrRep C μ' (gc k fr H).1 tmps ∧ Ext k C μ H w C μ' (gc k fr H).2 w := by
  obtain ⟨μ', g1, g2, g3, g4, g5⟩ := gc_sound h hf k hk
  exact ⟨μ', g1, g2, ⟨rfl, rfl, rfl, Nat.le_refl _, fun _ _ _ h => h, g3, fun b _ hnl => ⟨rfl, fun hl => hnl (g4 b hl), rfl⟩, g5⟩⟩

theorem lim_some {α : Type} {g : Nat → Option α} {r : α} (h : lim g = some r) : ∃ n, g n = some r := by
  unfold lim at h
  split at h
  · rename_i he
    cases h
    exact ⟨_, Classical.choose_spec (Classical.choose_spec he)⟩
  · cases h

/-! ### loops -/
theorem loopN_sound {F : Fence} {k B : Nat} {ts : Option (List Tmp)} {body : Den} {c : Code} {rd : Option Nat} {r : Ex × List AV × AH} {C0 : Claims} {μ0 : MMap} {H0 : AH} {w0 : World}
    (hbody : ∀ {fr : List AV} {H : AH} {q : Ex × List AV × AH}, body fr H = some q → ∀ {C : Claims} {μ : MMap} {w : World} {a : Act}, RdOk rd F μ H.length → FrRep C μ fr a.tmps → Wld C μ H w → Marks B μ H w a.defers → c.wpIn F 0 P (CPost H.length B C μ H w q) a w)
    (hk : k ≤ H0.length) : ∀ (n : Nat) {p : List AV × AH}, loopN k ts body n p = some r → ∀ {C : Claims} {μ : MMap} {w : World} {a : Act}, k ≤ p.2.length → RdOk rd F μ k → FrRep C μ p.1 a.tmps → Wld C μ p.2 w → Marks B μ p.2 w a.defers →
      Ext k C0 μ0 H0 w0 C μ p.2 w → Code.roundsIn F 0 P c (CPost k B C0 μ0 H0 w0 r) n a w
  | 0, p, h => by cases h
  | n + 1, p, h => by
    intro hkl hrd hf hw hm hx
    rw [loopN] at h
    obtain ⟨q, hq, h⟩ := Option.bind_eq_some_iff.1 h
    refine wpIn_mono (hbody hq (hrd.ext (fun _ _ _ h => h) hkl) hf hw hm) fun e a' w' hp => ?_
    obtain ⟨he, C', μ'', p1, p2, p3, p4⟩ := hp
    have hx' := hx.trans p3 hkl
    cases hq1 : q.1 with
    | normal =>
      rw [hq1] at he h
      subst he
      obtain ⟨μ', g1, g2, g3⟩ := gc_ext p2 (maskFr_rep (ts := ts) p1) k hx'.len
      exact loopN_sound hbody hk n h g3.len ((hrd.ext (fun id m hid hm => p3.mu id m (Nat.lt_of_lt_of_le hid hkl) hm) (Nat.le_refl _)).ext g3.mu (Nat.le_refl _)) g2 g1 (p4.ext g3) (hx'.trans g3 (Nat.le_refl _))
    | exit id =>
      rw [hq1] at he h
      cases h
      subst he
      exact ⟨rfl, C', μ'', p1, p2, hx', p4⟩
    | goto l =>
      rw [hq1] at he h
      cases h
      subst he
      exact ⟨rfl, C', μ'', p1, p2, hx', p4⟩
    | ret =>
      rw [hq1] at he h
      cases h
      subst he
      exact ⟨rfl, C', μ'', p1, p2, hx', p4⟩
end Go.Av
