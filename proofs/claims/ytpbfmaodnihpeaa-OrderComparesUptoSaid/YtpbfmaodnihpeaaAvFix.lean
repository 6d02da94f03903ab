/-
  The abstract evaluation's own equation. Own work.
  What is proved: what a function's body tells, with the whole evaluation for its calls, the whole evaluation tells; no condition.
-/
import Derived.Test.YtpbfmaodnihpeaaAvCode4
namespace Go.Av

section
variable {α β : Type}

/-- what is told with the last oracle is told with all from some number on -/
def EvG (cf : Nat → Orac) (c : Orac) (G : Orac → Option α) : Prop := ∀ r, G c = some r → ∃ n, ∀ m, n ≤ m → G (cf m) = some r

def Ev (cf : Nat → Orac) (c : Orac) : Prop := ∀ t a H, EvG cf c (fun o => o t a H)

variable {cf : Nat → Orac} {c : Orac}

theorem EvG.const (x : Option α) : EvG cf c (fun _ => x) := fun r h => ⟨0, fun _ _ => h⟩
theorem EvG.bind {X : Orac → Option α} {K : Orac → α → Option β} (hX : EvG cf c X) (hK : ∀ a, EvG cf c (fun o => K o a)) : EvG cf c (fun o => (X o).bind (K o)) := by
  intro r h
  obtain ⟨a, h1, h2⟩ := Option.bind_eq_some_iff.1 h
  obtain ⟨n, hn⟩ := hX a h1
  obtain ⟨n', hn'⟩ := hK a r h2
  exact ⟨max n n', fun m hm => by
    show (X (cf m)).bind (K (cf m)) = some r
    rw [hn m (by omega)]
    exact hn' m (by omega)⟩
theorem EvG.map {X : Orac → Option α} (f : α → β) (hX : EvG cf c X) : EvG cf c (fun o => (X o).map f) := by
  intro r h
  obtain ⟨a, h1, h2⟩ := Option.map_eq_some_iff.1 h
  obtain ⟨n, hn⟩ := hX a h1
  exact ⟨n, fun m hm => by
    show (X (cf m)).map f = some r
    rw [hn m hm, ← h2]; rfl⟩
theorem EvG.ite {p : Prop} [Decidable p] {X Y : Orac → Option α} (hX : EvG cf c X) (hY : EvG cf c Y) : EvG cf c (fun o => if p then X o else Y o) := by
  by_cases h : p
  · simp only [if_pos h]; exact hX
  · simp only [if_neg h]; exact hY

theorem callT_ev (h : Ev cf c) (cfg : Cfg) (nid : Option Nat) (t : Tgt) (args : List AV) (H : AH) : EvG cf c (fun o => callT cfg o nid t args H) := by
  cases t with
  | y id => exact (h _ _ _).bind fun r => EvG.const _
  | f f =>
    simp only [callT]
    cases cfg.mode f with
    | scal => exact EvG.ite ((h _ _ _).bind fun r => EvG.const _) (EvG.const _)
    | pfrz => exact EvG.ite ((h _ _ _).bind fun r => EvG.const _) (EvG.const _)
    | pown => exact EvG.ite ((h _ _ _).bind fun r => EvG.const _) (EvG.const _)
    | imp => exact (h _ _ _).bind fun r => EvG.const _
    | ifrz => exact (h _ _ _).bind fun r => EvG.const _

theorem evOper_ev (h : Ev cf c) (cfg : Cfg) (frz : Bool) (nid : Option Nat) (o : Oper) (x : Operand → AV) (H : AH) : EvG cf c (fun q => evOper cfg q frz nid o x H) := by
  have core : ∀ (x : Operand → AV) (H : AH), EvG cf c (fun q => match o.op with
        | .call cl =>
          match cl.callee with
          | .value f => (tgtOf (x f) (cl.args.toList.map x)).bind fun t => callT cfg q nid t.1 t.2 H
          | _ => evOp cfg nid o.op o.type x H
        | _ => evOp cfg nid o.op o.type x H) := by
    intro x H
    split
    · split
      · exact (EvG.const _).bind fun t => callT_ev h cfg nid _ _ _
      · exact EvG.const _
    · exact EvG.const _
  unfold evOper
  cases frz with
  | true => simp only [if_true]; exact core _ _
  | false => simp only [Bool.false_eq_true, if_false]; exact core _ _

theorem evOps_ev (h : Ev cf c) (cfg : Cfg) (f rid : Nat) (ops : Array Oper) : ∀ (l : List Oper) (k : Nat) (fr : List AV) (H : AH), EvG cf c (fun q => evOps cfg q f rid ops k l fr H)
  | [], k, fr, H => EvG.const _
  | o :: l, k, fr, H => by
    simp only [evOps]
    refine (EvG.const _).bind fun b => EvG.ite ((evOper_ev h cfg _ _ _ _ _).bind fun r => evOps_ev h cfg f rid ops l _ _ _) (evOps_ev h cfg f rid ops l _ _ _)

theorem evDraw_ev (h : Ev cf c) (cfg : Cfg) (f rid : Nat) (ops : Array Oper) : ∀ (l : List Oper) (k at_ : Nat) (fr : List AV) (H : AH), EvG cf c (fun q => evDraw cfg q f rid ops k at_ l fr H)
  | [], k, at_, fr, H => EvG.const _
  | o :: l, k, at_, fr, H => by
    simp only [evDraw]
    refine (EvG.const _).bind fun b => EvG.ite ((evOper_ev h cfg _ _ _ _ _).bind fun r => (evDraw_ev h cfg f rid ops l _ _ _ _).map _) ((evDraw_ev h cfg f rid ops l _ _ _ _).map _)

theorem loopN_succ {k : Nat} {ts : Option (List Tmp)} {body : Den} : ∀ {n : Nat} {p : List AV × AH} {r : Ex × List AV × AH}, loopN k ts body n p = some r → loopN k ts body (n + 1) p = some r
  | 0, _, _, h => by cases h
  | n + 1, p, r, h => by
    rw [loopN] at h ⊢
    obtain ⟨q, h1, h2⟩ := Option.bind_eq_some_iff.1 h
    rw [h1]
    simp only [Option.bind_some]
    cases hq : q.1 with
    | normal =>
      rw [hq] at h2
      exact loopN_succ h2
    | exit id => rw [hq] at h2; exact h2
    | goto l => rw [hq] at h2; exact h2
    | ret => rw [hq] at h2; exact h2

theorem lim_eq {g : Nat → Option α} (hs : ∀ n r, g n = some r → g (n + 1) = some r) {n : Nat} {r : α} (h : g n = some r) : lim g = some r := by
  have up : ∀ {n : Nat} {r : α}, g n = some r → ∀ d, g (n + d) = some r := by
    intro n r h d
    induction d with
    | zero => exact h
    | succ d ih => exact hs _ _ ih
  have he : ∃ (n : Nat) (r : α), g n = some r := ⟨n, r, h⟩
  unfold lim
  rw [dif_pos he]
  have hc := Classical.choose_spec (Classical.choose_spec he)
  have e1 := up h (Classical.choose he)
  have e2 := up hc n
  rw [Nat.add_comm] at e2
  rw [e1] at e2
  exact e2.symm

theorem LOOP_of {k : Nat} {ts : Option (List Tmp)} {body : Den} {n : Nat} {p : List AV × AH} {r : Ex × List AV × AH} (h : loopN k ts body n p = some r) : LOOP k ts body p = some r :=
  lim_eq (g := fun n => loopN k ts body n p) (fun _ _ h => loopN_succ h) h

theorem loopN_ev {k : Nat} {ts : Option (List Tmp)} {body : Orac → Den} (hb : ∀ fr H, EvG cf c (fun q => body q fr H)) : ∀ (n : Nat) (p : List AV × AH), EvG cf c (fun q => loopN k ts (body q) n p)
  | 0, _ => EvG.const _
  | n + 1, p => by
    simp only [loopN]
    refine (hb _ _).bind fun r => ?_
    cases r.1 with
    | normal => exact loopN_ev hb n _
    | exit id => exact EvG.const _
    | goto l => exact EvG.const _
    | ret => exact EvG.const _

theorem LOOP_ev {k : Nat} {ts : Option (List Tmp)} {body : Orac → Den} (hb : ∀ fr H, EvG cf c (fun q => body q fr H)) (p : List AV × AH) : EvG cf c (fun q => LOOP k ts (body q) p) := by
  intro r h
  obtain ⟨n, hn⟩ := lim_some h
  obtain ⟨m, hm⟩ := loopN_ev hb n p r hn
  exact ⟨m, fun i hi => LOOP_of (hm i hi)⟩

theorem evC_ev (h : Ev cf c) (cfg : Cfg) (f : Nat) (rd : Option Nat) : ∀ (cd : Code) (fr : List AV) (H : AH), EvG cf c (fun q => evC cfg q f rd cd fr H) := by
  intro cd
  induction cd with
  | skip => intro fr H; simp only [evC]; exact EvG.const _
  | label l => intro fr H; simp only [evC]; exact EvG.const _
  | exit id => intro fr H; simp only [evC]; exact EvG.const _
  | ret => intro fr H; simp only [evC]; exact EvG.const _
  | goto l => intro fr H; simp only [evC]; exact EvG.const _
  | refuse s => intro fr H; simp only [evC]; exact EvG.const _
  | region id ops draw =>
    intro fr H
    simp only [evC]
    cases draw with
    | true => simp only [if_true]; exact EvG.ite ((evDraw_ev h cfg f id ops _ _ _ _ _).bind fun q => EvG.const _) (EvG.const _)
    | false => simp only [Bool.false_eq_true, if_false]; exact (evOps_ev h cfg f id ops _ _ _ _).map _
  | seq x y ihx ihy =>
    intro fr H
    simp only [evC]
    refine (ihx _ _).bind fun r => ?_
    cases r.1 with
    | normal => exact ihy _ _
    | exit id => exact EvG.const _
    | goto l => exact EvG.const _
    | ret => exact EvG.const _
  | cond cnd x y ihx ihy =>
    intro fr H
    simp only [evC]
    split
    · exact EvG.ite (ihx _ _) (ihy _ _)
    · exact EvG.const _
  | block id x ih =>
    intro fr H
    simp only [evC]
    exact (ih _ _).bind fun r => EvG.const _
  | loop x ih =>
    intro fr H
    simp only [evC]
    exact (LOOP_ev ih _).map _
  | scope x ih =>
    intro fr H
    simp only [evC]
    exact (ih _ _).bind fun r => EvG.const _
  | rangeFunc g ps assign body =>
    intro fr H
    simp only [evC]
    refine EvG.ite ?_ (EvG.const _)
    split
    · exact EvG.ite (EvG.const _) ((h _ _ _).bind fun r => EvG.const _)
    · exact EvG.const _

theorem evBody_ev (h : Ev cf c) (cfg : Cfg) (t : Tgt) (args : List AV) (H : AH) : EvG cf c (fun q => evBody cfg q t args H) := by
  unfold evBody
  cases t with
  | f f =>
    simp only
    split
    · exact EvG.const _
    · refine EvG.ite ?_ (EvG.const _)
      split
      · split
        · exact (evC_ev h cfg f none _ _ _).bind fun r => EvG.const _
        · exact EvG.const _
      · exact EvG.const _
  | y id =>
    simp only
    split
    · refine EvG.ite ((evC_ev h cfg _ _ _ _ _).bind fun r => ?_) (EvG.const _)
      split
      · exact (evC_ev h cfg _ _ _ _ _).bind fun q => EvG.const _
      · exact EvG.const _
    · exact EvG.const _
end

theorem evF_succ (cfg : Cfg) : ∀ (n : Nat) (t : Tgt) (a : List AV) (H : AH) (r : AV × AH), evF cfg n t a H = some r → evF cfg (n + 1) t a H = some r
  | 0, t, a, H, r, h => by cases h
  | n + 1, t, a, H, r, h => by
    have hev : Ev (fun _ => evF cfg (n + 1)) (evF cfg n) := fun t a H r h => ⟨0, fun _ _ => evF_succ cfg n t a H r h⟩
    obtain ⟨m, hm⟩ := evBody_ev hev cfg t a H r h
    exact hm m (Nat.le_refl _)

theorem EV_ev (cfg : Cfg) : Ev (evF cfg) (EV cfg) := by
  intro t a H r h
  obtain ⟨n, hn⟩ := lim_some h
  refine ⟨n, fun m hm => ?_⟩
  obtain ⟨d, rfl⟩ := Nat.exists_eq_add_of_le hm
  induction d with
  | zero => exact hn
  | succ d ih => exact evF_succ cfg _ t a H r (ih (by omega))

/-- the evaluation's own equation -/
theorem EV_of {cfg : Cfg} {t : Tgt} {a : List AV} {H : AH} {r : AV × AH} (h : evBody cfg (EV cfg) t a H = some r) : EV cfg t a H = some r := by
  obtain ⟨n, hn⟩ := evBody_ev (EV_ev cfg) cfg t a H r h
  exact lim_eq (g := fun n => evF cfg n t a H) (fun n r h => evF_succ cfg n t a H r h) (n := n + 1) (hn n (Nat.le_refl _))

/-! ### loops -/
theorem LOOP_exit {k : Nat} {ts : Option (List Tmp)} {body : Den} {p : List AV × AH} {q : Ex × List AV × AH} (h : body p.1 p.2 = some q) (hq : ∀ x, q ≠ (.normal, x)) : LOOP k ts body p = some q := by
  refine LOOP_of (n := 1) ?_
  rw [loopN, h]
  obtain ⟨e, q⟩ := q
  cases e with
  | normal => exact absurd rfl (hq q)
  | exit id => rfl
  | goto l => rfl
  | ret => rfl
theorem LOOP_step {k : Nat} {ts : Option (List Tmp)} {body : Den} {p : List AV × AH} {fr1 : List AV} {H1 : AH} {r : Ex × List AV × AH} (h : body p.1 p.2 = some (.normal, fr1, H1)) (hr : LOOP k ts body (gc k (maskFr ts fr1) H1) = some r) : LOOP k ts body p = some r := by
  obtain ⟨n, hn⟩ := lim_some hr
  refine LOOP_of (n := n + 1) ?_
  rw [loopN, h]
  exact hn
end Go.Av
