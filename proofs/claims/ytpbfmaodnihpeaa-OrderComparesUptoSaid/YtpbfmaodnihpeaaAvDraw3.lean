/-
  A region that draws its order: every order leads to the same end. Own work.
  What is proved: whatever order is drawn, it ends as the abstract evaluation in the text's order says, if the calls do; no condition.
-/
import Derived.Test.YtpbfmaodnihpeaaAvDraw2
namespace Go.Av
variable {C C' C1 C2 : Claims} {μ μ' μ1 : MMap} {H H' H1 H2 : AH} {w w' w1 : World} {P : Program}

def isDst (ops : Array Oper) (t j : Nat) : Bool :=
  match ops[j]? with
  | some o => (match o.dst with | some d => Nat.beq d t | none => false)
  | none => false

theorem isDst_iff {ops : Array Oper} {t j : Nat} {o : Oper} (h : ops[j]? = some o) : isDst ops t j = true ↔ o.dst = some t := by
  unfold isDst
  rw [h]
  simp only
  cases hd : o.dst with
  | none => simp
  | some d =>
    simp only [Option.some.injEq]
    constructor
    · intro h; exact Nat.eq_of_beq_eq_true h
    · intro h; rw [h]; exact Nat.beq_refl _
theorem isDst_some {ops : Array Oper} {t j : Nat} (h : isDst ops t j = true) : ∃ o, ops[j]? = some o ∧ o.dst = some t := by
  cases ho : ops[j]? with
  | none => unfold isDst at h; rw [ho] at h; cases h
  | some o => exact ⟨o, rfl, (isDst_iff ho).1 h⟩

structure FrIs (ops : Array Oper) (V : Nat → AV) (F0 : List AV) (D : Nat → Bool) (fr : List AV) : Prop where
  len : fr.length = F0.length
  get : ∀ t, t < F0.length → fr[t]? = match lastW (fun j => D j && isDst ops t j) ops.size with | some j => some (V j) | none => F0[t]?

structure HIs (Φ : Nat → FP) (G : Nat → AH) (N : Nat) (D : Nat → Bool) (H : AH) : Prop where
  len : H.length = (G 0).length
  get : ∀ id, H[id]? = match lastW (fun j => D j && (Φ j).W id) N with | some j => (G (j + 1))[id]? | none => (G 0)[id]?

def addD (D : Nat → Bool) (i : Nat) : Nat → Bool := fun j => D j || Nat.beq j i
def preD (i : Nat) : Nat → Bool := fun j => Nat.blt j i

theorem addD_self (D : Nat → Bool) (i : Nat) : addD D i i = true := by simp [addD]
theorem addD_ne {D : Nat → Bool} {i j : Nat} (h : j ≠ i) : addD D i j = D j := by
  unfold addD
  have : Nat.beq j i = false := by rw [← Bool.not_eq_true]; intro h'; exact h (Nat.eq_of_beq_eq_true h')
  rw [this, Bool.or_false]
theorem preD_succ (i : Nat) : preD (i + 1) = addD (preD i) i := by
  funext j
  unfold preD addD
  rw [Bool.eq_iff_iff, Bool.or_eq_true, Nat.blt_eq, Nat.blt_eq]
  constructor
  · intro h
    rcases Nat.lt_or_ge j i with h' | h'
    · exact .inl h'
    · have : j = i := by omega
      subst this; exact .inr (Nat.beq_refl _)
  · rintro (h | h)
    · omega
    · have := Nat.eq_of_beq_eq_true h; omega

theorem FrIs.add {ops : Array Oper} {V : Nat → AV} {F0 : List AV} {D : Nat → Bool} {fr : List AV} (h : FrIs ops V F0 D fr) {i : Nat} {o : Oper} (ho : ops[i]? = some o) (hd : ∀ t j, j ≠ i → isDst ops t j = true → isDst ops t i = true → False) :
    FrIs ops V F0 (addD D i) (put fr o.dst (V i)) := by
  have hi : i < ops.size := (Array.getElem?_eq_some_iff.1 ho).1
  refine ⟨by rw [← h.len]; cases o.dst <;> simp [put], fun t ht => ?_⟩
  by_cases e : isDst ops t i = true
  · have hdst := (isDst_iff ho).1 e
    rw [lastW_at (i := i) (by rw [addD_self, e]; rfl) hi (fun j hj hlt => by
      have : isDst ops t j = false := by rw [← Bool.not_eq_true]; exact fun h' => hd t j (by omega) h' e
      rw [this, Bool.and_false])]
    rw [hdst]
    simp only [put]
    rw [List.getElem?_set, if_pos rfl, if_pos (by rw [h.len]; exact ht)]
  · have hne : o.dst ≠ some t := fun h' => e ((isDst_iff ho).2 h')
    rw [lastW_congr (q := fun j => D j && isDst ops t j) (fun j hj => by
      by_cases hji : j = i
      · subst hji
        have : isDst ops t j = false := by simpa using e
        rw [this, Bool.and_false, Bool.and_false]
      · rw [addD_ne hji])]
    rw [← h.get t ht]
    cases hdst : o.dst with
    | none => rfl
    | some d =>
      simp only [put]
      rw [List.getElem?_set, if_neg]
      intro e'; subst e'; exact hne hdst

theorem HIs.add {Φ : Nat → FP} {G : Nat → AH} {N : Nat} {D : Nat → Bool} (h : HIs Φ G N D H) {i : Nat} (hi : i < N) (hd : ∀ j, D j = true → i < j → ∀ id, ¬ ((Φ i).W id = true ∧ (Φ j).W id = true)) (hl : H'.length = H.length)
    (hg : ∀ id, H'[id]? = if (Φ i).W id = true then (G (i + 1))[id]? else H[id]?) : HIs Φ G N (addD D i) H' := by
  refine ⟨by rw [hl, h.len], fun id => ?_⟩
  rw [hg id]
  by_cases e : (Φ i).W id = true
  · rw [if_pos e]
    rw [lastW_at (i := i) (by rw [addD_self, e]; rfl) hi (fun j hj hlt => by
      rw [addD_ne (by omega)]
      cases hD : D j with
      | false => rfl
      | true =>
        have := hd j hD hlt id
        rw [Bool.true_and, ← Bool.not_eq_true]
        exact fun h' => this ⟨e, h'⟩)]
  · rw [if_neg e]
    rw [lastW_congr (q := fun j => D j && (Φ j).W id) (fun j hj => by
      by_cases hji : j = i
      · subst hji
        have : (Φ j).W id = false := by simpa using e
        rw [this, Bool.and_false, Bool.and_false]
      · rw [addD_ne hji])]
    exact h.get id

theorem FrIs.congr {ops : Array Oper} {V : Nat → AV} {F0 : List AV} {D D' : Nat → Bool} {fr fr' : List AV} (h : FrIs ops V F0 D fr) (h' : FrIs ops V F0 D' fr') {t : Nat} (hD : ∀ j, isDst ops t j = true → D j = D' j) : fr[t]? = fr'[t]? := by
  rcases Nat.lt_or_ge t F0.length with ht | ht
  · rw [h.get t ht, h'.get t ht, lastW_congr (p := fun j => D j && isDst ops t j) (q := fun j => D' j && isDst ops t j) (fun j _ => by
      cases hd : isDst ops t j with
      | false => rw [Bool.and_false, Bool.and_false]
      | true => rw [hD j hd])]
  · rw [List.getElem?_eq_none (by rw [h.len]; exact ht), List.getElem?_eq_none (by rw [h'.len]; exact ht)]

theorem HIs.congr {Φ : Nat → FP} {G : Nat → AH} {N : Nat} {D D' : Nat → Bool} (h : HIs Φ G N D H) (h' : HIs Φ G N D' H') {id : Nat} (hD : ∀ j, j < N → (Φ j).W id = true → D j = D' j) : H[id]? = H'[id]? := by
  rw [h.get id, h'.get id, lastW_congr (p := fun j => D j && (Φ j).W id) (q := fun j => D' j && (Φ j).W id) (fun j hj => by
    cases hd : (Φ j).W id with
    | false => rw [Bool.and_false, Bool.and_false]
    | true => rw [hD j hj hd])]

def AncClosed (L : List Nat) (D : Nat → Bool) : Prop := ∀ j, D j = true → ∀ i, (L.getD j 0).testBit i = true → D i = true

section
variable {cfg : Cfg} {cf : Orac} {ops : Array Oper} {frz : Nat → Bool} {F : Nat → List AV} {G : Nat → AH} {V : Nat → AV} {B : Nat → Bool} {A : Nat → Nat} {Φ : Nat → FP}

structure DrawOk (cfg : Cfg) (cf : Orac) (ops : Array Oper) (frz : Nat → Bool) (F : Nat → List AV) (G : Nat → AH) (V : Nat → AV) (B : Nat → Bool) (A : Nat → Nat) (Φ : Nat → FP) : Prop where
  back : backward 0 ops.toList = true
  stat : ∀ i j a b, ops[i]? = some a → ops[j]? = some b → i < j → dstOther a b = true ∧ (((ancs [] ops.toList).getD j 0).testBit i = true ∨ dstApart ops a b = true)
  dyn : ∀ i j, j < ops.size → i < j → ((ancs [] ops.toList).getD j 0).testBit i = true ∨ (Φ i).indep (Φ j) = true
  run : ∀ i o, ops[i]? = some o → DStep cfg cf ops (frz i) o (F i) (F (i + 1)) (G i) (G (i + 1)) (V i) (B i) (A i) (Φ i)

theorem DrawOk.dst (h : DrawOk cfg cf ops frz F G V B A Φ) {t i j : Nat} (hne : j ≠ i) (hj : isDst ops t j = true) (hi : isDst ops t i = true) : False := by
  obtain ⟨a, ha, hda⟩ := isDst_some hi
  obtain ⟨b, hb, hdb⟩ := isDst_some hj
  rcases Nat.lt_or_ge i j with hlt | hge
  · have := (h.stat i j a b ha hb hlt).1
    unfold dstOther at this
    rw [hda, hdb] at this
    simp at this
  · have := (h.stat j i b a hb ha (by omega)).1
    unfold dstOther at this
    rw [hda, hdb] at this
    simp at this

theorem DrawOk.pre (h : DrawOk cfg cf ops frz F G V B A Φ) : ∀ i, i ≤ ops.size → FrIs ops V (F 0) (preD i) (F i) ∧ HIs Φ G ops.size (preD i) (G i)
  | 0, _ => ⟨⟨rfl, fun t ht => by rw [lastW_none (fun j _ => by simp [preD])]⟩, ⟨rfl, fun id => by rw [lastW_none (fun j _ => by simp [preD])]⟩⟩
  | i + 1, hi => by
    obtain ⟨h1, h2⟩ := h.pre i (by omega)
    have hlt : i < ops.size := by omega
    have ho := Array.getElem?_eq_getElem hlt
    have hs := h.run i _ ho
    rw [preD_succ]
    refine ⟨by rw [hs.next]; exact h1.add ho fun t j hne hj hi => h.dst hne hj hi, ?_⟩
    have key : (G (i + 1)).length = (G i).length ∧ ∀ id, (G (i + 1))[id]? = if (Φ i).W id = true then (G (i + 1))[id]? else (G i)[id]? := by
      cases hb : B i with
      | true =>
        rw [hb] at hs
        obtain ⟨H2', e1, e2, e3⟩ := hs.again (fr2 := F i) (H2 := G i) (fun _ _ => rfl) rfl (fun _ _ => rfl)
        rw [(hs.yes rfl).1] at e1
        cases e1
        exact ⟨e2, e3⟩
      | false =>
        obtain ⟨_, e1, e2⟩ := hs.no hb
        exact ⟨by rw [e1], fun id => by rw [e1, e2]; simp [FP.W, FP.none, hasId]⟩
    exact h2.add hlt (fun j hj hij => by simp [preD, Nat.blt_eq] at hj; omega) key.1 key.2

/-- an operation that is ready, in a state in which others have been done -/
theorem DrawOk.ready (h : DrawOk cfg cf ops frz F G V B A Φ) {D : Nat → Bool} {fr : List AV} (hf : FrIs ops V (F 0) D fr) (hH : HIs Φ G ops.size D H) (hc : AncClosed (ancs [] ops.toList) D) {i : Nat} {o : Oper} (ho : ops[i]? = some o) (hi : D i = false)
    (hanc : ∀ m, ((ancs [] ops.toList).getD i 0).testBit m = true → D m = true) (hDN : ∀ j, D j = true → j < ops.size) :
    wantedA ops fr o = some (B i) ∧ (B i = true → ∃ H', evOper cfg cf (frz i) (some (A i)) o (opd fr) H = some (V i, H') ∧ HIs Φ G ops.size (addD D i) H') ∧ (B i = false → V i = .junk ∧ HIs Φ G ops.size (addD D i) H) ∧
      FrIs ops V (F 0) (addD D i) (put fr o.dst (V i)) := by
  have hlt : i < ops.size := (Array.getElem?_eq_some_iff.1 ho).1
  obtain ⟨p1, p2⟩ := h.pre i (by omega)
  have hs := h.run i o ho
  have hslots : ∀ t ∈ usesOf ops o, fr[t]? = (F i)[t]? := by
    intro t ht
    refine hf.congr p1 fun j hj => ?_
    obtain ⟨b, hb, hdb⟩ := isDst_some hj
    rcases Nat.lt_trichotomy j i with hji | hji | hji
    · have : preD i j = true := by simp [preD, Nat.blt_eq, hji]
      rw [this]
      rcases (h.stat j i b o hb ho hji).2 with ha | ha
      · exact hanc j ha
      · unfold dstApart at ha
        rw [hdb, Bool.and_eq_true] at ha
        have := ha.1
        simp only [Bool.not_eq_true', ← Bool.not_eq_true, hasId_iff] at this
        exact absurd ht this
    · subst hji; rw [hi]; symm; rw [← Bool.not_eq_true]; simp [preD, Nat.blt_eq]
    · have : preD i j = false := by rw [← Bool.not_eq_true]; simp [preD, Nat.blt_eq]; omega
      rw [this]
      rcases (h.stat i j o b ho hb hji).2 with ha | ha
      · rw [← Bool.not_eq_true]; intro hD; rw [hc j hD i ha] at hi; cases hi
      · unfold dstApart at ha
        rw [hdb, Bool.and_eq_true] at ha
        have := ha.2
        simp only [Bool.not_eq_true', ← Bool.not_eq_true, hasId_iff] at this
        exact absurd ht this
  have hblks : ∀ id, (Φ i).T id = true → H[id]? = (G i)[id]? := by
    intro id ht
    refine hH.congr p2 fun j hjN hj => ?_
    rcases Nat.lt_trichotomy j i with hji | hji | hji
    · have : preD i j = true := by simp [preD, Nat.blt_eq, hji]
      rw [this]
      rcases h.dyn j i hlt hji with ha | ha
      · exact hanc j ha
      · exact absurd ⟨hj, ht⟩ (indep_spec ha id).2
    · subst hji; rw [hi]; symm; rw [← Bool.not_eq_true]; simp [preD, Nat.blt_eq]
    · have : preD i j = false := by rw [← Bool.not_eq_true]; simp [preD, Nat.blt_eq]; omega
      rw [this]
      rcases h.dyn i j hjN hji with ha | ha
      · rw [← Bool.not_eq_true]; intro hD; rw [hc j hD i ha] at hi; cases hi
      · exact absurd ⟨ht, hj⟩ (indep_spec ha id).1
  have hww : ∀ j, D j = true → i < j → ∀ id, ¬ ((Φ i).W id = true ∧ (Φ j).W id = true) := by
    intro j hD hij id hWW
    have hjN := hDN j hD
    rcases h.dyn i j hjN hij with ha | ha
    · rw [hc j hD i ha] at hi; cases hi
    · exact (indep_spec ha id).2 ⟨hWW.1, FP.T_of_W hWW.2⟩
  refine ⟨by rw [wantedA_agr hslots]; exact hs.wanted, fun hb => ?_, fun hb => ?_, hf.add ho fun t j hne hj hi => h.dst hne hj hi⟩
  · rw [hb] at hs
    have hlen : H.length = (G i).length := by rw [hH.len, p2.len]
    obtain ⟨H', e1, e2, e3⟩ := hs.again hslots hlen hblks
    exact ⟨H', e1, hH.add hlt hww e2 e3⟩
  · obtain ⟨e0, _, e2⟩ := hs.no hb
    exact ⟨e0, hH.add hlt hww rfl (fun id => by rw [e2]; simp [FP.W, FP.none, hasId])⟩
end

theorem AncClosed.add {ops : Array Oper} (hb : backward 0 ops.toList = true) {D : Nat → Bool} (h : AncClosed (ancs [] ops.toList) D) {i : Nat} {o : Oper} (ho : ops[i]? = some o) (hr : ∀ m, binds o m → D m = true) :
    (∀ m, ((ancs [] ops.toList).getD i 0).testBit m = true → D m = true) ∧ AncClosed (ancs [] ops.toList) (addD D i) := by
  have hanc : ∀ m, ((ancs [] ops.toList).getD i 0).testBit m = true → D m = true := by
    intro m hm
    obtain ⟨k, h1, _, h3⟩ := anc_spec hb ho hm
    rcases h3 with h3 | h3
    · subst h3; exact hr k h1
    · exact h k (hr k h1) m h3
  refine ⟨hanc, fun j hj m hm => ?_⟩
  by_cases e : j = i
  · subst e
    have := hanc m hm
    unfold addD; rw [this]; rfl
  · rw [addD_ne e] at hj
    have := h j hj m hm
    unfold addD; rw [this]; rfl
end Go.Av
