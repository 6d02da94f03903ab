/-
  A region that draws its order, whole. Own work.
  What is proved: whatever order is drawn, it ends as the abstract evaluation in the text's order says, if the calls do; no condition.
-/
import Derived.Test.YtpbfmaodnihpeaaAvDraw
namespace Go.Av
variable {C C' C1 C2 : Claims} {μ μ' μ1 : MMap} {H H' H1 H2 : AH} {w w' w1 : World} {P : Program}

/-! ### footprints -/
def FP.T (a : FP) (id : Nat) : Bool := a.wall || hasId id a.rd || hasId id a.wr
def FP.W (a : FP) (id : Nat) : Bool := a.wall || hasId id a.wr

theorem FP.touches_T {a : FP} {id : Nat} (h : a.T id = true) : a.touches = true := by
  unfold FP.T at h
  unfold FP.touches
  rw [Bool.or_eq_true, Bool.or_eq_true] at h
  rcases h with (h | h) | h
  · simp [h]
  · cases hr : a.rd with
    | nil => rw [hr] at h; simp [hasId] at h
    | cons x l => simp
  · cases hr : a.wr with
    | nil => rw [hr] at h; simp [hasId] at h
    | cons x l => simp
theorem FP.T_of_W {a : FP} {id : Nat} (h : a.W id = true) : a.T id = true := by
  unfold FP.W at h; unfold FP.T
  rw [Bool.or_eq_true] at h
  rcases h with h | h <;> simp [h]

theorem indep_spec {a b : FP} (h : a.indep b = true) (id : Nat) : ¬ (a.T id = true ∧ b.W id = true) ∧ ¬ (a.W id = true ∧ b.T id = true) := by
  simp only [FP.indep, Bool.and_eq_true, noneIn_iff, Bool.not_eq_true', Bool.and_eq_false_iff] at h
  obtain ⟨⟨⟨⟨h1, h2⟩, h3⟩, h4⟩, h5⟩ := h
  constructor
  · rintro ⟨ha, hb⟩
    have ta := FP.touches_T ha
    have tb := FP.touches_T (FP.T_of_W hb)
    have wa : a.wall = false := h1.resolve_right (by rw [tb]; simp)
    have wb : b.wall = false := h2.resolve_right (by rw [ta]; simp)
    unfold FP.T at ha; unfold FP.W at hb
    rw [wa, Bool.false_or, Bool.or_eq_true, hasId_iff, hasId_iff] at ha
    rw [wb, Bool.false_or, hasId_iff] at hb
    rcases ha with ha | ha
    · exact h5 id hb ha
    · exact h4 id hb ha
  · rintro ⟨ha, hb⟩
    have ta := FP.touches_T (FP.T_of_W ha)
    have tb := FP.touches_T hb
    have wa : a.wall = false := h1.resolve_right (by rw [tb]; simp)
    have wb : b.wall = false := h2.resolve_right (by rw [ta]; simp)
    unfold FP.W at ha; unfold FP.T at hb
    rw [wa, Bool.false_or, hasId_iff] at ha
    rw [wb, Bool.false_or, Bool.or_eq_true, hasId_iff, hasId_iff] at hb
    rcases hb with hb | hb
    · exact h3 id hb ha
    · exact h4 id hb ha

/-! ### what is checked of the text -/
theorem statRow_get {ops : Array Oper} {A : List Nat} {i : Nat} {a : Oper} : ∀ (l : List Oper) (j0 : Nat), statRow ops A i a j0 l = true → ∀ j b, l[j]? = some b → dstOther a b = true ∧ ((A.getD (j0 + j) 0).testBit i = true ∨ dstApart ops a b = true)
  | [], _, _, j, b, h => by simp at h
  | x :: l, j0, hs, j, b, h => by
    rw [statRow, Bool.and_eq_true, Bool.and_eq_true, Bool.or_eq_true] at hs
    cases j with
    | zero => simp at h; subst h; exact hs.1
    | succ j =>
      have := statRow_get l (j0 + 1) hs.2 j b (by simpa using h)
      rw [show j0 + (j + 1) = j0 + 1 + j by omega]
      exact this
theorem statAll_get {ops : Array Oper} {A : List Nat} : ∀ (l : List Oper) (i0 : Nat), statAll ops A i0 l = true → ∀ i j a b, l[i]? = some a → l[j]? = some b → i < j → dstOther a b = true ∧ ((A.getD (i0 + j) 0).testBit (i0 + i) = true ∨ dstApart ops a b = true)
  | [], _, _, i, j, a, b, h, _, _ => by simp at h
  | x :: l, i0, hs, i, j, a, b, hi, hj, hlt => by
    rw [statAll, Bool.and_eq_true] at hs
    cases j with
    | zero => omega
    | succ j =>
      cases i with
      | zero =>
        simp at hi; subst hi
        have := statRow_get l (i0 + 1) hs.1 j b (by simpa using hj)
        rw [show i0 + (j + 1) = i0 + 1 + j by omega]
        exact this
      | succ i =>
        have := statAll_get l (i0 + 1) hs.2 i j a b (by simpa using hi) (by simpa using hj) (by omega)
        rw [show i0 + (j + 1) = i0 + 1 + j by omega, show i0 + (i + 1) = i0 + 1 + i by omega]
        exact this
theorem dynRow_get {A : List Nat} {i : Nat} {a : FP} : ∀ (l : List FP) (j0 : Nat), dynRow A i a j0 l = true → ∀ j b, l[j]? = some b → (A.getD (j0 + j) 0).testBit i = true ∨ a.indep b = true
  | [], _, _, j, b, h => by simp at h
  | x :: l, j0, hs, j, b, h => by
    rw [dynRow, Bool.and_eq_true, Bool.or_eq_true] at hs
    cases j with
    | zero => simp at h; subst h; exact hs.1
    | succ j =>
      have := dynRow_get l (j0 + 1) hs.2 j b (by simpa using h)
      rw [show j0 + (j + 1) = j0 + 1 + j by omega]
      exact this
theorem dynAll_get {A : List Nat} : ∀ (l : List FP) (i0 : Nat), dynAll A i0 l = true → ∀ i j a b, l[i]? = some a → l[j]? = some b → i < j → (A.getD (i0 + j) 0).testBit (i0 + i) = true ∨ a.indep b = true
  | [], _, _, i, j, a, b, h, _, _ => by simp at h
  | x :: l, i0, hs, i, j, a, b, hi, hj, hlt => by
    rw [dynAll, Bool.and_eq_true] at hs
    cases j with
    | zero => omega
    | succ j =>
      cases i with
      | zero =>
        simp at hi; subst hi
        have := dynRow_get l (i0 + 1) hs.1 j b (by simpa using hj)
        rw [show i0 + (j + 1) = i0 + 1 + j by omega]
        exact this
      | succ i =>
        have := dynAll_get l (i0 + 1) hs.2 i j a b (by simpa using hi) (by simpa using hj) (by omega)
        rw [show i0 + (j + 1) = i0 + 1 + j by omega, show i0 + (i + 1) = i0 + 1 + i by omega]
        exact this

/-! ### the slots that are read -/
theorem mem_tmpsOf {t : Tmp} : ∀ {l : List Operand}, Operand.tmp t ∈ l → t ∈ tmpsOf l
  | [], h => by cases h
  | x :: l, h => by
    rcases List.mem_cons.1 h with h | h
    · subst h; simp [tmpsOf]
    · have := mem_tmpsOf h
      cases x <;> simp [tmpsOf, this]

theorem opd_agr {fr fr2 : List AV} {ops : Array Oper} {o : Oper} (h : ∀ t ∈ usesOf ops o, fr2[t]? = fr[t]?) : ∀ a ∈ o.op.operands, opd fr2 a = opd fr a := by
  intro a ha
  cases a with
  | tmp t =>
    have : t ∈ usesOf ops o := by unfold usesOf; exact List.mem_append.2 (.inl (mem_tmpsOf (Array.mem_toList_iff.2 ha)))
    show fr2.getD t .junk = fr.getD t .junk
    rw [List.getD_eq_getElem?_getD, List.getD_eq_getElem?_getD, h t this]
  | _ => rfl

theorem wantedA_agr {fr fr2 : List AV} {ops : Array Oper} {o : Oper} (h : ∀ t ∈ usesOf ops o, fr2[t]? = fr[t]?) : wantedA ops fr2 o = wantedA ops fr o := by
  unfold wantedA
  split
  · rfl
  · rename_i j want hg
    split
    · rename_i d hd
      have : d ∈ usesOf ops o := by unfold usesOf; rw [hg]; simp [hd]
      rw [h d this]
    · rfl

/-! ### the run in the text's order -/
structure DStep (cfg : Cfg) (cf : Orac) (ops : Array Oper) (frz : Bool) (o : Oper) (fr fr' : List AV) (H H' : AH) (v : AV) (b : Bool) (at_ : Nat) (fp : FP) : Prop where
  wanted : wantedA ops fr o = some b
  next : fr' = put fr o.dst v
  yes : b = true → evOper cfg cf frz (some at_) o (opd fr) H = some (v, H') ∧ fp = fpOper cfg frz at_ o (opd fr)
  no : b = false → v = .junk ∧ H' = H ∧ fp = FP.none

theorem evDraw_run {cfg : Cfg} {cf : Orac} {f rid : Nat} {ops : Array Oper} : ∀ (rest : List Oper) (k at_ : Nat) {fr fr' : List AV} {H H' : AH} {fps : List FP}, evDraw cfg cf f rid ops k at_ rest fr H = some (fps, fr', H') →
    ∃ (F : Nat → List AV) (G : Nat → AH) (V : Nat → AV) (B : Nat → Bool) (A : Nat → Nat) (Φ : Nat → FP), F 0 = fr ∧ G 0 = H ∧ F rest.length = fr' ∧ G rest.length = H' ∧ (∀ i, i < rest.length → fps[i]? = some (Φ i)) ∧
      ∀ i o, rest[i]? = some o → DStep cfg cf ops (cfg.frz f rid (k + i)) o (F i) (F (i + 1)) (G i) (G (i + 1)) (V i) (B i) (A i) (Φ i)
  | [], k, at_, fr, fr', H, H', fps, he => by
    simp only [evDraw] at he
    cases he
    exact ⟨fun _ => fr, fun _ => H, fun _ => .junk, fun _ => true, fun _ => 0, fun _ => FP.none, rfl, rfl, rfl, rfl, fun i h => by simp at h, fun i o h => by simp at h⟩
  | o :: rest, k, at_, fr, fr', H, H', fps, he => by
    simp only [evDraw] at he
    obtain ⟨b, hb, he⟩ := Option.bind_eq_some_iff.1 he
    have glue : ∀ {v : AV} {H1 : AH} {fp : FP} {fps1 : List FP}, DStep cfg cf ops (cfg.frz f rid k) o fr (put fr o.dst v) H H1 v b at_ fp →
        evDraw cfg cf f rid ops (k + 1) (if makes cfg o then at_ + 1 else at_) rest (put fr o.dst v) H1 = some (fps1, fr', H') → fps = fp :: fps1 →
        ∃ (F : Nat → List AV) (G : Nat → AH) (V : Nat → AV) (B : Nat → Bool) (A : Nat → Nat) (Φ : Nat → FP), F 0 = fr ∧ G 0 = H ∧ F (o :: rest).length = fr' ∧ G (o :: rest).length = H' ∧ (∀ i, i < (o :: rest).length → fps[i]? = some (Φ i)) ∧
          ∀ i o', (o :: rest)[i]? = some o' → DStep cfg cf ops (cfg.frz f rid (k + i)) o' (F i) (F (i + 1)) (G i) (G (i + 1)) (V i) (B i) (A i) (Φ i) := by
      intro v H1 fp fps1 hs hd hfp
      obtain ⟨F, G, V, B, A, Φ, e1, e2, e3, e4, e5, e6⟩ := evDraw_run rest (k + 1) _ hd
      refine ⟨fun i => match i with | 0 => fr | i + 1 => F i, fun i => match i with | 0 => H | i + 1 => G i, fun i => match i with | 0 => v | i + 1 => V i, fun i => match i with | 0 => b | i + 1 => B i,
        fun i => match i with | 0 => at_ | i + 1 => A i, fun i => match i with | 0 => fp | i + 1 => Φ i, rfl, rfl, e3, e4, fun i hi => ?_, fun i o' ho => ?_⟩
      · rw [hfp]
        cases i with
        | zero => rfl
        | succ i => exact e5 i (by simpa using hi)
      · cases i with
        | zero =>
          simp at ho; subst ho
          show DStep cfg cf ops (cfg.frz f rid (k + 0)) o fr (F 0) H (G 0) v b at_ fp
          rw [e1, e2]; exact hs
        | succ i =>
          have := e6 i o' (by simpa using ho)
          rw [show k + (i + 1) = k + 1 + i by omega]
          exact this
    split at he
    · rename_i hbt
      obtain ⟨q, hq, he⟩ := Option.bind_eq_some_iff.1 he
      obtain ⟨p, hp, e⟩ := Option.map_eq_some_iff.1 he
      obtain ⟨fps1, fr1, H1⟩ := p
      cases e
      exact glue ⟨hb, rfl, fun _ => ⟨hq, rfl⟩, fun h => by rw [h] at hbt; simp at hbt⟩ hp rfl
    · rename_i hbt
      obtain ⟨p, hp, e⟩ := Option.map_eq_some_iff.1 he
      obtain ⟨fps1, fr1, H1⟩ := p
      cases e
      exact glue ⟨hb, rfl, fun h => absurd h hbt, fun _ => ⟨rfl, rfl, rfl⟩⟩ hp rfl

/-- a step depends on the slots and blocks that it looks at, alone -/
theorem DStep.again {cfg : Cfg} {cf : Orac} {ops : Array Oper} {frz : Bool} {o : Oper} {fr fr' : List AV} {v : AV} {at_ : Nat} {fp : FP} (h : DStep cfg cf ops frz o fr fr' H H' v true at_ fp) {fr2 : List AV}
    (hu : ∀ t ∈ usesOf ops o, fr2[t]? = fr[t]?) (hl : H2.length = H.length) (ht : ∀ id, fp.T id = true → H2[id]? = H[id]?) :
    ∃ H2', evOper cfg cf frz (some at_) o (opd fr2) H2 = some (v, H2') ∧ H2'.length = H2.length ∧ ∀ id, H2'[id]? = if fp.W id = true then H'[id]? else H2[id]? := by
  obtain ⟨he, hfp⟩ := h.yes rfl
  rw [evOper_congr (opd_agr hu)]
  cases hw : fp.wall with
  | true =>
    have : H2 = H := List.ext_getElem? fun id => ht id (by unfold FP.T; rw [hw]; simp)
    subst this
    exact ⟨H', he, evOper_len he, fun id => by unfold FP.W; rw [hw]; simp⟩
  | false =>
    rw [hfp] at hw
    obtain ⟨H2', e1, e2, e3⟩ := evOper_local (H2 := H2) he hw hl (fun id hi => ht id (by unfold FP.T; rw [hfp, Bool.or_eq_true, Bool.or_eq_true, hasId_iff, hasId_iff]; exact .inl (.inr hi)))
      (fun id hi => ht id (by unfold FP.T; rw [hfp, Bool.or_eq_true, Bool.or_eq_true, hasId_iff, hasId_iff]; exact .inr hi))
    refine ⟨H2', e1, e2, fun id => ?_⟩
    rw [e3 id]
    unfold FP.W
    rw [hfp, hw, Bool.false_or]
    by_cases hi : id ∈ (fpOper cfg frz at_ o (opd fr)).wr
    · rw [if_pos hi, if_pos (hasId_iff.2 hi)]
    · rw [if_neg hi, if_neg (fun h => hi (hasId_iff.1 h))]
end Go.Av
