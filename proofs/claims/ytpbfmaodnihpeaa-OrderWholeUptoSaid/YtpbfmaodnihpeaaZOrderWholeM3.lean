/-
  Parts of the proof of OrderWholeUptoSaid, put together: the abstract evaluation and its contracts. Own work.
  What is proved: each lemma as it stands; no condition.
-/
import Derived.KernelRfl
import Derived.Test.YtpbfmaodnihpeaaProg
import Derived.Lib.Bytealg
import Derived.Test.YtpbfmaodnihpeaaRows
import Derived.ProofKit
import Derived.OpenShut
import Derived.JoinedCond
import Derived.ChangeArms
import Derived.RowKit
import Derived.WalkKit
import Derived.Test.YtpbfmaodnihpeaaZOrderWholeM2

section
/-
  A loop together with what follows it; a function's run from what is left of it. Own work.
  What is proved: what kFun and kLp give is what the evaluation gives; no condition.
-/
namespace Go.Av
variable {α : Type}

/-- a frame, by its slots that are not forgotten -/
def fxGo (i : Nat) (l : List (Nat × AV)) : Nat → List AV
  | 0 => []
  | n + 1 => match l with
    | [] => .junk :: fxGo (i + 1) [] n
    | p :: l' => if Nat.beq p.1 i then p.2 :: fxGo (i + 1) l' n else .junk :: fxGo (i + 1) (p :: l') n

def fx (n : Nat) (l : List (Nat × AV)) : List AV := fxGo 0 l n

def bodyOf (fn : Func) : Code := match fn.body with | some c => c | none => .skip

def sub : Code → List Nat → Code
  | c, [] => c
  | .seq a b, i :: l => match i with | 0 => sub a l | _ => sub b l
  | .cond _ a b, i :: l => match i with | 0 => sub a l | _ => sub b l
  | .block _ a, _ :: l => sub a l
  | .loop a, _ :: l => sub a l
  | .scope a, _ :: l => sub a l
  | .rangeFunc _ _ a b, i :: l => match i with | 0 => sub a l | _ => sub b l
  | c, _ => c

/-- a range over a function that runs, by where it stands -/
def rngB (fn : Func) (f : Nat) (p : List Nat) (fr : List AV) (pend : Option Code) (st : LoopState) : ABlk :=
  match sub (bodyOf fn) p with
  | .rangeFunc _ ps a b => .loop f fr ps.toList a b pend st
  | _ => .dead
def opsOf : Code → Array Oper
  | .region _ o _ => o
  | _ => #[]
def opAt (l : List Oper) (n : Nat) (d : Oper) : Oper := (l.drop n).headD d

/-- behind a loop's body: the loop once more, or what follows the loop -/
noncomputable def kLp (k : Nat) (ts : Option (List Tmp)) (L : Den) (A : Ex × List AV × AH → Option α) : KE α := fun e fr H =>
  match e with
  | .normal => kOpt (LOOP k ts L (gc k (maskFr ts fr) H)) A
  | e => A (e, fr, H)

theorem loop_stepK {cfg : Cfg} {kf : KF α} (hkf : KfOk (EV cfg) kf) {f : Nat} {rd : Option Nat} {c : Code} {k : Nat} {ts : Option (List Tmp)} {A : Ex × List AV × AH → Option α} {fr : List AV} {H : AH} {r : α}
    (h : kCode cfg (EV cfg) kf f rd c fr H (kLp k ts (evC cfg (EV cfg) f rd c) A) = some r) : kOpt (LOOP k ts (evC cfg (EV cfg) f rd c) (fr, H)) A = some r := by
  obtain ⟨⟨e, fr1, H1⟩, h1, h2⟩ := kCode_some hkf c h
  cases e with
  | normal =>
    simp only [kLp] at h2
    cases hl : LOOP k ts (evC cfg (EV cfg) f rd c) (gc k (maskFr ts fr1) H1) with
    | none => rw [hl] at h2; cases h2
    | some q =>
      rw [hl] at h2
      rw [LOOP_step (p := (fr, H)) h1 hl]
      exact h2
  | exit id => rw [LOOP_exit (p := (fr, H)) h1 (fun x => by intro h; cases h)]; exact h2
  | goto l => rw [LOOP_exit (p := (fr, H)) h1 (fun x => by intro h; cases h)]; exact h2
  | ret => rw [LOOP_exit (p := (fr, H)) h1 (fun x => by intro h; cases h)]; exact h2

/-- a function's end, with what is made of what it hands back -/
def kFinG (cfg : Cfg) (g : AV → AH → Option α) (rs : List ResultVar) : KE α := fun e fr H =>
  match e with
  | .normal => kRes cfg fr H rs fun vs => g (result1 vs) H
  | .ret => kRes cfg fr H rs fun vs => g (result1 vs) H
  | _ => none

def kFinS (cfg : Cfg) (rs : List ResultVar) : KE AV := kFinG cfg (fun v _ => some v) rs
def kFinF (cfg : Cfg) (rs : List ResultVar) : KE AV := kFinG cfg (fun v H => kFrzA false H v some) rs
def kFinO (cfg : Cfg) (rs : List ResultVar) : KE OV := kFinG cfg (fun v H => ovOf (v, H)) rs
/-- of a call that works on one block of rows of data -/
def kFinM (cfg : Cfg) (sz : Nat) (rs : List ResultVar) : KE (MV × List (List AV)) := kFinG cfg (fun v H => (mutRes sz (v, H)).bind fun q => (mvOf q.1).map fun v => (v, q.2)) rs
def kFinA (cfg : Cfg) (rs : List ResultVar) : KE (AV × AH) := kFinG cfg (fun v H => some (v, H)) rs

noncomputable def kFunG (cfg : Cfg) (cf : Orac) (kf : KF α) (f : Nat) (fn : Func) (c : Code) (args : List AV) (H : AH) (fin : KE α) : Option α :=
  kCode cfg cf kf f none c (args ++ List.replicate (fn.ntmps - args.length) .junk) H fin

theorem kFinG_someK {cfg : Cfg} {kf : KF α} (hkf : KfOk (EV cfg) kf) {g : AV → AH → Option α} {f : Nat} {fn : Func} {args : List AV} {H : AH} {r : α} (hx : cfg.ext f = none) (hk : cfg.known f = true) (hf : cfg.P.funcs[f]? = some fn) (hb : fn.body = some (bodyOf fn))
    (h : kFunG cfg (EV cfg) kf f fn (bodyOf fn) args H (kFinG cfg g fn.results.toList) = some r) : ∃ v H', EV cfg (.f f) args H = some (v, H') ∧ g v H' = some r := by
  unfold kFunG at h
  obtain ⟨q, h1, h⟩ := kCode_some hkf _ h
  have key : ∀ (vs : List AV), resVals fn.results.toList cfg.ty q.2.1 q.2.2 = some vs → (q.1 = .normal ∨ q.1 = .ret) → EV cfg (.f f) args H = some (result1 vs, q.2.2) := by
    intro vs h2 hq
    refine EV_of ?_
    unfold evBody
    simp only [hx, hk, if_true, hf, hb, h1, Option.bind_some]
    unfold finish
    rcases hq with hq | hq <;> simp only [hq, h2, Option.map_some]
  unfold kFinG at h
  split at h
  · rename_i hq
    obtain ⟨vs, h2, h⟩ := kRes_some h
    exact ⟨_, _, key vs h2 (.inl hq), h⟩
  · rename_i hq
    obtain ⟨vs, h2, h⟩ := kRes_some h
    exact ⟨_, _, key vs h2 (.inr hq), h⟩
  · cases h

/-- one round of a range over a function, with what follows it: its end, its body, the whole -/
def kY2 (id : Nat) (K : AV × AH → Option α) : KE α := fun e _ H =>
  kOpt H[id]? fun b => match b with
    | .loop f fr ps a b _ _ => (match e with
      | .normal => K (.bool true, H.set id (.loop f fr ps a b none .ready))
      | .ret => K (.bool false, H.set id (.loop f fr ps a b (some .ret) .done))
      | .exit x => K (.bool false, H.set id (.loop f fr ps a b (some (.exit x)) .done))
      | .goto _ => none)
    | _ => none
noncomputable def kY1 (cfg : Cfg) (cf : Orac) (kf : KF α) (f id : Nat) (body : Code) (K : AV × AH → Option α) : KE α := fun e fr H =>
  match e with
  | .normal => kOpt H[id]? fun b => match b with
    | .loop f' fr' ps' a' b' p' st => (match st with
      | .ready => kCode cfg cf kf f (some id) body fr (H.set id (.loop f' fr' ps' a' b' p' .busy)) (kY2 id K)
      | _ => none)
    | _ => none
  | _ => none
noncomputable def kY (cfg : Cfg) (cf : Orac) (kf : KF α) (id : Nat) (args : List AV) (H : AH) (K : AV × AH → Option α) : Option α :=
  kOpt H[id]? fun b => match b with
    | .loop f fr ps assign body _ st => (match st with
      | .ready => cond (Nat.beq args.length ps.length) (kCode cfg cf kf f (some id) assign (setParams fr ps args) H (kY1 cfg cf kf f id body K)) none
      | _ => none)
    | _ => none
theorem kY_someK {cfg : Cfg} {kf : KF α} (hkf : KfOk (EV cfg) kf) {id : Nat} {args : List AV} {H : AH} {K : AV × AH → Option α} {r : α} (h : kY cfg (EV cfg) kf id args H K = some r) : ∃ q, EV cfg (.y id) args H = some q ∧ K q = some r := by
  unfold kY at h
  obtain ⟨b, h1, h⟩ := kOpt_some h
  cases b with
  | loop f fr ps assign body pend st =>
    simp only at h
    cases st with
    | ready =>
      simp only at h
      obtain ⟨h2, h⟩ := cond_some h
      obtain ⟨q, h3, h⟩ := kCode_some hkf _ h
      unfold kY1 at h
      cases hq : q.1 with
      | normal =>
        rw [hq] at h
        simp only at h
        obtain ⟨b, h4, h⟩ := kOpt_some h
        cases b with
        | loop f' fr' ps' a' b' p' st' =>
          simp only at h
          cases st' with
          | ready =>
            simp only at h
            obtain ⟨q2, h5, h⟩ := kCode_some hkf _ h
            unfold kY2 at h
            obtain ⟨b, h6, h⟩ := kOpt_some h
            cases b with
            | loop f2 fr2 ps2 a2 b2 p2 st2 =>
              have key : ∀ q', evBody cfg (EV cfg) (.y id) args H = some q' → K q' = some r → ∃ q, EV cfg (.y id) args H = some q ∧ K q = some r := fun q' h8 h9 => ⟨q', EV_of h8, h9⟩
              cases hq2 : q2.1 with
              | normal =>
                rw [hq2] at h
                refine key _ ?_ h
                unfold evBody
                simp only [h1, if_pos (Nat.eq_of_beq_eq_true h2), h3, Option.bind_some, hq, h4, h5, h6, hq2]
              | ret =>
                rw [hq2] at h
                refine key _ ?_ h
                unfold evBody
                simp only [h1, if_pos (Nat.eq_of_beq_eq_true h2), h3, Option.bind_some, hq, h4, h5, h6, hq2]
              | exit x =>
                rw [hq2] at h
                refine key _ ?_ h
                unfold evBody
                simp only [h1, if_pos (Nat.eq_of_beq_eq_true h2), h3, Option.bind_some, hq, h4, h5, h6, hq2]
              | goto x => rw [hq2] at h; cases h
            | _ => cases h
          | _ => cases h
        | _ => cases h
      | _ => rw [hq] at h; cases h
    | _ => cases h
  | _ => cases h

/-- what is gone into is the program's -/
class InlOk (cfg : Cfg) : Prop where
  ok : ∀ f fn, cfg.inl f = some fn → cfg.ext f = none ∧ cfg.known f = true ∧ cfg.P.funcs[f]? = some fn ∧ fn.body = some (bodyOf fn)

def inlLook (f : Nat) : List (Nat × Func) → Option Func
  | [] => none
  | p :: l => if Nat.beq p.1 f then some p.2 else inlLook f l
def InlAll (cfg : Cfg) : List (Nat × Func) → Prop
  | [] => True
  | p :: l => (cfg.ext p.1 = none ∧ cfg.known p.1 = true ∧ cfg.P.funcs[p.1]? = some p.2 ∧ p.2.body = some (bodyOf p.2)) ∧ InlAll cfg l
theorem InlOk.of {cfg : Cfg} (tab : List (Nat × Func)) (h : ∀ f, cfg.inl f = inlLook f tab) (ha : InlAll cfg tab) : InlOk cfg where
  ok := by
    intro f fn hf
    rw [h] at hf
    clear h
    induction tab with
    | nil => cases hf
    | cons p l ih =>
      rw [inlLook] at hf
      split at hf
      · rename_i e
        have e := Nat.eq_of_beq_eq_true e
        cases hf
        rw [← e]
        exact ha.1
      · exact ih ha.2 hf
/-- calls are gone into, so deep -/
noncomputable def kfN (cfg : Cfg) : Nat → KF α
  | 0 => fun t a H k => kOpt (EV cfg t a H) k
  | n + 1 => fun t a H k => match t with
    | .f f => (match cfg.inl f with
      | some fn => kFunG cfg (EV cfg) (kfN cfg n) f fn (bodyOf fn) a H (kFinG cfg (fun v H => k (v, H)) fn.results.toList)
      | none => kOpt (EV cfg (.f f) a H) k)
    | .y id => kY cfg (EV cfg) (kfN cfg n) id a H k

theorem kfN_ok {cfg : Cfg} [InlOk cfg] : ∀ n, KfOk (α := α) (EV cfg) (kfN cfg n)
  | 0 => fun t a H k r h => kOpt_some h
  | n + 1 => fun t a H k r h => by
    unfold kfN at h
    cases t with
    | f f =>
      simp only at h
      split at h
      · rename_i fn hf
        obtain ⟨o1, o2, o3, o4⟩ := InlOk.ok f fn hf
        obtain ⟨v, H', h1, h2⟩ := kFinG_someK (kfN_ok n) o1 o2 o3 o4 h
        exact ⟨_, h1, h2⟩
      · exact kOpt_some h
    | y id => exact kY_someK (kfN_ok n) h

theorem loop_step {cfg : Cfg} [InlOk cfg] {f : Nat} {rd : Option Nat} {c : Code} {k : Nat} {ts : Option (List Tmp)} {A : Ex × List AV × AH → Option α} {fr : List AV} {H : AH} {r : α}
    (h : kCode cfg (EV cfg) (kfN cfg 6) f rd c fr H (kLp k ts (evC cfg (EV cfg) f rd c) A) = some r) : kOpt (LOOP k ts (evC cfg (EV cfg) f rd c) (fr, H)) A = some r := loop_stepK (kfN_ok 6) h
theorem kFinG_some {cfg : Cfg} [InlOk cfg] {g : AV → AH → Option α} {f : Nat} {fn : Func} {args : List AV} {H : AH} {r : α} (hx : cfg.ext f = none) (hk : cfg.known f = true) (hf : cfg.P.funcs[f]? = some fn) (hb : fn.body = some (bodyOf fn))
    (h : kFunG cfg (EV cfg) (kfN cfg 6) f fn (bodyOf fn) args H (kFinG cfg g fn.results.toList) = some r) : ∃ v H', EV cfg (.f f) args H = some (v, H') ∧ g v H' = some r := kFinG_someK (kfN_ok 6) hx hk hf hb h
theorem kY_some {cfg : Cfg} [InlOk cfg] {id : Nat} {args : List AV} {H : AH} {r : AV × AH} (h : kY cfg (EV cfg) (kfN cfg 6) id args H some = some r) : EV cfg (.y id) args H = some r := by
  obtain ⟨q, h1, h2⟩ := kY_someK (kfN_ok 6) h
  cases h2
  exact h1

/-- it yields something of which P holds -/
def Gets {β : Type} (o : Option β) (P : β → Prop) : Prop := ∃ r, o = some r ∧ P r

theorem Gets.ev {β : Type} {o o' : Option β} {P : β → Prop} (h : ∀ r, o = some r → o' = some r) (hy : Gets o P) : Gets o' P := by
  obtain ⟨r, h1, h2⟩ := hy
  exact ⟨r, h r h1, h2⟩
theorem Gets.eq {β : Type} {o o' : Option β} {P : β → Prop} (h : o' = o) (hy : Gets o P) : Gets o' P := h ▸ hy
theorem Gets.mono {β : Type} {o : Option β} {P Q : β → Prop} (h : Gets o P) (hq : ∀ b, P b → Q b) : Gets o Q := by
  obtain ⟨r, h1, h2⟩ := h
  exact ⟨r, h1, hq r h2⟩
theorem Gets.bind {β γ : Type} {o : Option β} {k : β → Option γ} {Q : β → Prop} {P : γ → Prop} (h : Gets o Q) (hk : ∀ b, Q b → Gets (k b) P) : Gets (kOpt o k) P := by
  obtain ⟨r, h1, h2⟩ := h
  subst h1
  exact hk r h2
@[simp] theorem gets_some {β : Type} {a : β} {P : β → Prop} : Gets (some a) P ↔ P a := ⟨fun ⟨r, h1, h2⟩ => by cases h1; exact h2, fun h => ⟨a, rfl, h⟩⟩
theorem Gets.get {β : Type} {o : Option β} {a : β} (h : Gets o (· = a)) : o = some a := by
  obtain ⟨r, h1, h2⟩ := h
  rw [h1, h2]
theorem gets_of {β : Type} {o : Option β} {a : β} {P : β → Prop} (h : o = some a) (hp : P a) : Gets o P := ⟨a, h, hp⟩
theorem EVs_y {cfg : Cfg} {f : Nat} {args : List AV} {Q : AV → Prop} (h : Gets (EV cfg (.f f) args []) (fun r => Q r.1)) : Gets (EVs (EV cfg) f args) Q := by
  obtain ⟨r, h1, h2⟩ := h
  exact ⟨r.1, by unfold EVs; rw [h1]; rfl, h2⟩
theorem EVf_y {cfg : Cfg} {f : Nat} {args : List AV} {Q : AV → Prop} (h : Gets (EV cfg (.f f) args []) (fun r => Q (r.1.frz r.1.msIds r.2).fg)) : Gets (EVf (EV cfg) f args) Q := by
  obtain ⟨r, h1, h2⟩ := h
  exact ⟨_, by unfold EVf; rw [h1]; rfl, h2⟩
theorem EVo_y {cfg : Cfg} {f : Nat} {args : List AV} {Q : OV → Prop} (h : Gets (EV cfg (.f f) args []) (fun r => Gets (ovOf r) Q)) : Gets (EVo (EV cfg) f args) Q := by
  obtain ⟨r, h1, h2⟩ := h
  obtain ⟨o, h3, h4⟩ := h2
  exact ⟨o, by unfold EVo; rw [h1]; exact h3, h4⟩

theorem EVs_of {cfg : Cfg} {f : Nat} {args : List AV} {v : AV} {H : AH} (h : EV cfg (.f f) args [] = some (v, H)) : EVs (EV cfg) f args = some v := by unfold EVs; rw [h]; rfl
theorem EVf_of {cfg : Cfg} {f : Nat} {args : List AV} {v v' : AV} {H : AH} (h : EV cfg (.f f) args [] = some (v', H)) (e : (v'.frz v'.msIds H).fg = v) : EVf (EV cfg) f args = some v := by unfold EVf; rw [h]; exact congrArg some e
theorem EVo_of {cfg : Cfg} {f : Nat} {args : List AV} {v : OV} {r : AV × AH} (h : EV cfg (.f f) args [] = some r) (e : ovOf r = some v) : EVo (EV cfg) f args = some v := by unfold EVo; rw [h]; exact e

theorem funS {cfg : Cfg} [InlOk cfg] {f : Nat} {fn : Func} {args : List AV} {r : AV} (hx : cfg.ext f = none) (hk : cfg.known f = true) (hf : cfg.P.funcs[f]? = some fn) (hb : fn.body = some (bodyOf fn))
    (h : kFunG cfg (EV cfg) (kfN cfg 6) f fn (bodyOf fn) args [] (kFinS cfg fn.results.toList) = some r) : EVs (EV cfg) f args = some r := by
  obtain ⟨v, H', h1, h2⟩ := kFinG_some hx hk hf hb h
  cases h2
  exact EVs_of h1
theorem funF {cfg : Cfg} [InlOk cfg] {f : Nat} {fn : Func} {args : List AV} {r : AV} (hx : cfg.ext f = none) (hk : cfg.known f = true) (hf : cfg.P.funcs[f]? = some fn) (hb : fn.body = some (bodyOf fn))
    (h : kFunG cfg (EV cfg) (kfN cfg 6) f fn (bodyOf fn) args [] (kFinF cfg fn.results.toList) = some r) : EVf (EV cfg) f args = some r := by
  obtain ⟨v, H', h1, h2⟩ := kFinG_some hx hk hf hb h
  exact EVf_of h1 (Option.some.inj (kFrzA_frz h2))
theorem funO {cfg : Cfg} [InlOk cfg] {f : Nat} {fn : Func} {args : List AV} {r : OV} (hx : cfg.ext f = none) (hk : cfg.known f = true) (hf : cfg.P.funcs[f]? = some fn) (hb : fn.body = some (bodyOf fn))
    (h : kFunG cfg (EV cfg) (kfN cfg 6) f fn (bodyOf fn) args [] (kFinO cfg fn.results.toList) = some r) : EVo (EV cfg) f args = some r := by
  obtain ⟨v, H', h1, h2⟩ := kFinG_some hx hk hf hb h
  exact EVo_of h1 h2
theorem funM {cfg : Cfg} [InlOk cfg] {f sz : Nat} {fn : Func} {args : List AV} {rows : List (List AV)} {r : MV × List (List AV)} (hx : cfg.ext f = none) (hk : cfg.known f = true) (hf : cfg.P.funcs[f]? = some fn) (hb : fn.body = some (bodyOf fn))
    (h : kFunG cfg (EV cfg) (kfN cfg 6) f fn (bodyOf fn) args [.rows true sz rows] (kFinM cfg sz fn.results.toList) = some r) : EVm (EV cfg) f args sz rows = some r := by
  obtain ⟨v, H', h1, h2⟩ := kFinG_some hx hk hf hb h
  unfold EVm
  rw [h1]
  exact h2
/-- .. its result's slices frozen -/
def kFinD (cfg : Cfg) (sz : Nat) (rs : List ResultVar) : KE (AV × List (List AV)) := kFinG cfg (fun v H => kBlkW H 0 fun d sz' rows =>
  cond (d && Nat.beq sz' sz && noneIn0 v.msIds) (kFrzA false H v fun v' => cond (v'.refsLt 0) (some (v', rows)) none) none) rs
theorem funD {cfg : Cfg} [InlOk cfg] {f sz : Nat} {fn : Func} {args : List AV} {rows : List (List AV)} {r : AV × List (List AV)} (hx : cfg.ext f = none) (hk : cfg.known f = true) (hf : cfg.P.funcs[f]? = some fn) (hb : fn.body = some (bodyOf fn))
    (h : kFunG cfg (EV cfg) (kfN cfg 6) f fn (bodyOf fn) args [.rows true sz rows] (kFinD cfg sz fn.results.toList) = some r) : EVd (EV cfg) f args sz rows = some r := by
  obtain ⟨v, H', h1, h2⟩ := kFinG_some hx hk hf hb h
  unfold EVd
  rw [h1]
  obtain ⟨d, sz', rs', h3, h4⟩ := kBlkW_some h2
  obtain ⟨h5, h6⟩ := cond_some h4
  have h7 := kFrzA_frz (k := fun v' => cond (v'.refsLt 0) (some (v', rs')) none) h6
  obtain ⟨h8, h9⟩ := cond_some h7
  simp only [Bool.and_eq_true] at h5
  obtain ⟨⟨hd, hs⟩, hn⟩ := h5
  subst hd
  cases H' with
  | nil => simp at h3
  | cons b l =>
    simp only [List.getElem?_cons_zero, Option.some.injEq] at h3
    subst h3
    simp only [Option.bind_some, frzRes, hs, hn, h8, Bool.and_self, if_true]
    exact h9
def kFinU (cfg : Cfg) (rs : List ResultVar) : KE MV := kFinG cfg (fun v _ => cond (v.refsLt 0) (mvOf v) none) rs
theorem funU {cfg : Cfg} [InlOk cfg] {f : Nat} {fn : Func} {args : List AV} {r : MV} (hx : cfg.ext f = none) (hk : cfg.known f = true) (hf : cfg.P.funcs[f]? = some fn) (hb : fn.body = some (bodyOf fn))
    (h : kFunG cfg (EV cfg) (kfN cfg 6) f fn (bodyOf fn) args [] (kFinU cfg fn.results.toList) = some r) : EVu (EV cfg) f args = some r := by
  obtain ⟨v, H', h1, h2⟩ := kFinG_some hx hk hf hb h
  unfold EVu
  rw [h1]
  cases hr : v.refsLt 0 with
  | true => rw [hr] at h2; simpa [hr] using h2
  | false => rw [hr] at h2; cases h2
theorem funA {cfg : Cfg} [InlOk cfg] {f : Nat} {fn : Func} {args : List AV} {H : AH} {r : AV × AH} (hx : cfg.ext f = none) (hk : cfg.known f = true) (hf : cfg.P.funcs[f]? = some fn) (hb : fn.body = some (bodyOf fn))
    (h : kFunG cfg (EV cfg) (kfN cfg 6) f fn (bodyOf fn) args H (kFinA cfg fn.results.toList) = some r) : EV cfg (.f f) args H = some r := by
  obtain ⟨v, H', h1, h2⟩ := kFinG_some hx hk hf hb h
  cases h2
  exact h1

@[simp] theorem nble (a b : Nat) : Nat.ble a b = decide (a ≤ b) := by
  rcases h : Nat.ble a b with _ | _
  · rw [eq_comm, decide_eq_false_iff_not]; intro h'; rw [Nat.ble_eq_true_of_le h'] at h; cases h
  · rw [eq_comm, decide_eq_true_eq]; exact Nat.le_of_ble_eq_true h
@[simp] theorem nbeq (a b : Nat) : Nat.beq a b = decide (a = b) := by
  rcases h : Nat.beq a b with _ | _
  · rw [eq_comm, decide_eq_false_iff_not]; intro h'; rw [h', Nat.beq_refl] at h; cases h
  · rw [eq_comm, decide_eq_true_eq]; exact Nat.eq_of_beq_eq_true h
@[simp] theorem leInt_eq (a b : Int) : leInt a b = decide (a ≤ b) := rfl
@[simp] theorem ltInt_eq (a b : Int) : ltInt a b = decide (a < b) := rfl
theorem beqD {β : Type} [BEq β] [LawfulBEq β] [DecidableEq β] (a b : β) : (a == b) = decide (a = b) := by
  by_cases h : a = b
  · subst h; simp
  · simp [h]
theorem bneD {β : Type} [BEq β] [LawfulBEq β] [DecidableEq β] (a b : β) : (a != b) = !decide (a = b) := by rw [bne, beqD]
def AV.IsInt (v : AV) : Prop := ∃ n, v = .int .i64 n
def AV.IsBool (v : AV) : Prop := ∃ b, v = .bool b
@[simp] theorem isInt_int (n : Int) : (AV.int .i64 n).IsInt := ⟨n, rfl⟩
@[simp] theorem isBool_bool (b : Bool) : (AV.bool b).IsBool := ⟨b, rfl⟩

@[simp] theorem kOptSome {β : Type} (b : β) (k : β → Option α) : kOpt (some b) k = k b := rfl
@[simp] theorem kOptNone {β : Type} (k : β → Option α) : kOpt none k = none := rfl
@[simp] theorem kInt_int (kd : IntKind) (n : Int) (k : Int → Option α) : kInt kd (.int kd n) k = k n := by simp [kInt, kindEq]
@[simp] theorem kBool_bool (b : Bool) (k : Bool → Option α) : kBool (.bool b) k = k b := rfl
@[simp] theorem kStr_str (s : List UInt8) (k : List UInt8 → Option α) : kStr (.str s) k = k s := rfl
@[simp] theorem kAgg_agg (cs : List AV) (k : List AV → Option α) : kAgg (.agg cs) k = k cs := rfl
@[simp] theorem kCons_cons (c : AV) (cs : List AV) (k : AV → List AV → Option α) : kCons (c :: cs) k = k c cs := rfl
@[simp] theorem kNil_nil (x : Option α) : kNil [] x = x := rfl
@[simp] theorem kMSl_nil (x : Option α) (k : Nat → Nat → Option α) : kMSl .nil x k = x := rfl
@[simp] theorem kMSl_sl (off len : Nat) (x : Option α) (k : Nat → Nat → Option α) : kMSl (.sl off len) x k = k off len := rfl
@[simp] theorem kMUnit_unit (x : Option α) : kMUnit .unit x = x := rfl
@[simp] theorem kMInt_int (q : IntKind) (n : Int) (k : IntKind → Int → Option α) : kMInt (.int q n) k = k q n := rfl
@[simp] theorem kMBool_bool (b : Bool) (k : Bool → Option α) : kMBool (.bool b) k = k b := rfl
@[simp] theorem kOwn_nil (x : Option α) (k : Nat → List (List AV) → Nat → Nat → Option α) : kOwn .nil x k = x := rfl
@[simp] theorem kOwn_own (sz : Nat) (rs : List (List AV)) (off len : Nat) (x : Option α) (k : Nat → List (List AV) → Nat → Nat → Option α) : kOwn (.own sz rs off len) x k = k sz rs off len := rfl
@[simp] theorem kSl_sl (rs : List (List AV)) (k : List (List AV) → Option α) : kSl (.sl rs) k = k rs := rfl
@[simp] theorem get?Internal_eq {β : Type} (l : List β) (i : Nat) : List.get?Internal l i = l[i]? := rfl
end Go.Av
end

section
/-
  Functions without a Go body, over abstract values: definitions alone; no condition.
-/
namespace Go.Av
/-- strings compared by their bytes -/
def extCmp : List AV → AH → Option (AV × AH)
  | [.str a, .str b], H => some (.int .i64 (if a == b then 0 else if Op.bytesLess a b then -1 else 1), H)
  | _, _ => none
end Go.Av
end

section
/-
  The configuration of the abstract evaluation for this seat, printed by a program of ours off the translation: types, modes of calls, slots kept at loops.
  What is proved: the types are those of the program; no condition.
-/
namespace Go.Proofs.Ytpbfmaodnihpeaa
open Go.Av

def tyTab : List (Nat × TI) := [
  (1, { d := .func, sz := 1, bytes := 8, zero := [.nilF] }),
  (2, { d := .int .i64, sz := 1, bytes := 8, zero := [.int .i64 0] }),
  (3, { d := .int .i64, sz := 1, bytes := 8, zero := [.int .i64 0] }),
  (4, { d := .bool, sz := 1, bytes := 1, zero := [.bool false] }),
  (5, { d := .int .u8, sz := 1, bytes := 1, zero := [.int .u8 0] }),
  (6, { d := .int .u8, sz := 1, bytes := 1, zero := [.int .u8 0] }),
  (7, { d := .struct [(0, 2), (1, 3), (2, 4), (3, 6)], sz := 4, bytes := 24, zero := [.int .i64 0, .int .i64 0, .bool false, .int .u8 0] }),
  (9, { d := .str, sz := 1, bytes := 16, zero := [.str []] }),
  (12, { d := .int .u64, sz := 1, bytes := 8, zero := [.int .u64 0] }),
  (13, { d := .struct [(0, 9), (1, 12)], sz := 2, bytes := 24, zero := [.str [], .int .u64 0] }),
  (15, { d := .ptr 122, sz := 1, bytes := 8, zero := [.nilP] }),
  (16, { d := .ptr 125, sz := 1, bytes := 8, zero := [.nilP] }),
  (17, { d := .ptr 134, sz := 1, bytes := 8, zero := [.nilP] }),
  (18, { d := .struct [(0, 17)], sz := 1, bytes := 8, zero := [.nilP] }),
  (19, { d := .struct [(0, 17)], sz := 1, bytes := 8, zero := [.nilP] }),
  (21, { d := .int .i32, sz := 1, bytes := 4, zero := [.int .i32 0] }),
  (22, { d := .slice 24, sz := 1, bytes := 24, zero := [.nilS] }),
  (23, { d := .struct [(0, 3), (1, 3), (2, 9), (3, 22)], sz := 4, bytes := 56, zero := [.int .i64 0, .int .i64 0, .str [], .nilS] }),
  (24, { d := .struct [(0, 3), (1, 3), (2, 9), (3, 22)], sz := 4, bytes := 56, zero := [.int .i64 0, .int .i64 0, .str [], .nilS] }),
  (25, { d := .func, sz := 1, bytes := 8, zero := [.nilF] }),
  (26, { d := .func, sz := 1, bytes := 8, zero := [.nilF] }),
  (27, { d := .func, sz := 1, bytes := 8, zero := [.nilF] }),
  (28, { d := .func, sz := 1, bytes := 8, zero := [.nilF] }),
  (29, { d := .func, sz := 1, bytes := 8, zero := [.nilF] }),
  (30, { d := .func, sz := 1, bytes := 8, zero := [.nilF] }),
  (31, { d := .func, sz := 1, bytes := 8, zero := [.nilF] }),
  (32, { d := .func, sz := 1, bytes := 8, zero := [.nilF] }),
  (34, { d := .func, sz := 1, bytes := 8, zero := [.nilF] }),
  (35, { d := .func, sz := 1, bytes := 8, zero := [.nilF] }),
  (36, { d := .func, sz := 1, bytes := 8, zero := [.nilF] }),
  (37, { d := .func, sz := 1, bytes := 8, zero := [.nilF] }),
  (38, { d := .func, sz := 1, bytes := 8, zero := [.nilF] }),
  (39, { d := .func, sz := 1, bytes := 8, zero := [.nilF] }),
  (40, { d := .func, sz := 1, bytes := 8, zero := [.nilF] }),
  (41, { d := .int .i64, sz := 1, bytes := 8, zero := [.int .i64 0] }),
  (42, { d := .func, sz := 1, bytes := 8, zero := [.nilF] }),
  (43, { d := .func, sz := 1, bytes := 8, zero := [.nilF] }),
  (44, { d := .ptr 67, sz := 1, bytes := 8, zero := [.nilP] }),
  (46, { d := .func, sz := 1, bytes := 8, zero := [.nilF] }),
  (48, { d := .func, sz := 1, bytes := 8, zero := [.nilF] }),
  (49, { d := .func, sz := 1, bytes := 8, zero := [.nilF] }),
  (50, { d := .func, sz := 1, bytes := 8, zero := [.nilF] }),
  (51, { d := .func, sz := 1, bytes := 8, zero := [.nilF] }),
  (52, { d := .func, sz := 1, bytes := 8, zero := [.nilF] }),
  (53, { d := .slice 60, sz := 1, bytes := 24, zero := [.nilS] }),
  (54, { d := .func, sz := 1, bytes := 8, zero := [.nilF] }),
  (55, { d := .ptr 58, sz := 1, bytes := 8, zero := [.nilP] }),
  (56, { d := .slice 105, sz := 1, bytes := 24, zero := [.nilS] }),
  (57, { d := .struct [(0, 56)], sz := 1, bytes := 24, zero := [.nilS] }),
  (58, { d := .struct [(0, 56)], sz := 1, bytes := 24, zero := [.nilS] }),
  (59, { d := .struct [(0, 3), (1, 3), (2, 24)], sz := 6, bytes := 72, zero := [.int .i64 0, .int .i64 0, .int .i64 0, .int .i64 0, .str [], .nilS] }),
  (60, { d := .struct [(0, 3), (1, 3), (2, 24)], sz := 6, bytes := 72, zero := [.int .i64 0, .int .i64 0, .int .i64 0, .int .i64 0, .str [], .nilS] }),
  (61, { d := .func, sz := 1, bytes := 8, zero := [.nilF] }),
  (62, { d := .func, sz := 1, bytes := 8, zero := [.nilF] }),
  (63, { d := .func, sz := 1, bytes := 8, zero := [.nilF] }),
  (64, { d := .func, sz := 1, bytes := 8, zero := [.nilF] }),
  (65, { d := .ptr 99, sz := 1, bytes := 8, zero := [.nilP] }),
  (66, { d := .struct [(0, 4), (1, 65), (2, 3), (3, 3)], sz := 4, bytes := 32, zero := [.bool false, .nilP, .int .i64 0, .int .i64 0] }),
  (67, { d := .struct [(0, 4), (1, 65), (2, 3), (3, 3)], sz := 4, bytes := 32, zero := [.bool false, .nilP, .int .i64 0, .int .i64 0] }),
  (68, { d := .slice 44, sz := 1, bytes := 24, zero := [.nilS] }),
  (70, { d := .func, sz := 1, bytes := 8, zero := [.nilF] }),
  (71, { d := .func, sz := 1, bytes := 8, zero := [.nilF] }),
  (72, { d := .func, sz := 1, bytes := 8, zero := [.nilF] }),
  (73, { d := .func, sz := 1, bytes := 8, zero := [.nilF] }),
  (74, { d := .func, sz := 1, bytes := 8, zero := [.nilF] }),
  (75, { d := .func, sz := 1, bytes := 8, zero := [.nilF] }),
  (76, { d := .slice 4, sz := 1, bytes := 24, zero := [.nilS] }),
  (77, { d := .func, sz := 1, bytes := 8, zero := [.nilF] }),
  (78, { d := .func, sz := 1, bytes := 8, zero := [.nilF] }),
  (79, { d := .func, sz := 1, bytes := 8, zero := [.nilF] }),
  (80, { d := .func, sz := 1, bytes := 8, zero := [.nilF] }),
  (81, { d := .func, sz := 1, bytes := 8, zero := [.nilF] }),
  (82, { d := .func, sz := 1, bytes := 8, zero := [.nilF] }),
  (83, { d := .func, sz := 1, bytes := 8, zero := [.nilF] }),
  (84, { d := .func, sz := 1, bytes := 8, zero := [.nilF] }),
  (85, { d := .func, sz := 1, bytes := 8, zero := [.nilF] }),
  (86, { d := .func, sz := 1, bytes := 8, zero := [.nilF] }),
  (87, { d := .func, sz := 1, bytes := 8, zero := [.nilF] }),
  (88, { d := .func, sz := 1, bytes := 8, zero := [.nilF] }),
  (89, { d := .func, sz := 1, bytes := 8, zero := [.nilF] }),
  (90, { d := .struct [(0, 24), (4, 24)], sz := 8, bytes := 112, zero := [.int .i64 0, .int .i64 0, .str [], .nilS, .int .i64 0, .int .i64 0, .str [], .nilS] }),
  (91, { d := .struct [(0, 24), (4, 24)], sz := 8, bytes := 112, zero := [.int .i64 0, .int .i64 0, .str [], .nilS, .int .i64 0, .int .i64 0, .str [], .nilS] }),
  (92, { d := .slice 91, sz := 1, bytes := 24, zero := [.nilS] }),
  (93, { d := .func, sz := 1, bytes := 8, zero := [.nilF] }),
  (94, { d := .func, sz := 1, bytes := 8, zero := [.nilF] }),
  (95, { d := .slice 97, sz := 1, bytes := 24, zero := [.nilS] }),
  (96, { d := .func, sz := 1, bytes := 8, zero := [.nilF] }),
  (97, { d := .ptr 65, sz := 1, bytes := 8, zero := [.nilP] }),
  (98, { d := .struct [(0, 24), (4, 3), (5, 3), (6, 65), (7, 65)], sz := 8, bytes := 88, zero := [.int .i64 0, .int .i64 0, .str [], .nilS, .int .i64 0, .int .i64 0, .nilP, .nilP] }),
  (99, { d := .struct [(0, 24), (4, 3), (5, 3), (6, 65), (7, 65)], sz := 8, bytes := 88, zero := [.int .i64 0, .int .i64 0, .str [], .nilS, .int .i64 0, .int .i64 0, .nilP, .nilP] }),
  (100, { d := .func, sz := 1, bytes := 8, zero := [.nilF] }),
  (101, { d := .slice 65, sz := 1, bytes := 24, zero := [.nilS] }),
  (102, { d := .func, sz := 1, bytes := 8, zero := [.nilF] }),
  (103, { d := .func, sz := 1, bytes := 8, zero := [.nilF] }),
  (104, { d := .struct [(0, 24), (4, 3)], sz := 5, bytes := 64, zero := [.int .i64 0, .int .i64 0, .str [], .nilS, .int .i64 0] }),
  (105, { d := .struct [(0, 24), (4, 3)], sz := 5, bytes := 64, zero := [.int .i64 0, .int .i64 0, .str [], .nilS, .int .i64 0] }),
  (106, { d := .func, sz := 1, bytes := 8, zero := [.nilF] }),
  (107, { d := .slice 3, sz := 1, bytes := 24, zero := [.nilS] }),
  (108, { d := .func, sz := 1, bytes := 8, zero := [.nilF] }),
  (109, { d := .func, sz := 1, bytes := 8, zero := [.nilF] }),
  (110, { d := .func, sz := 1, bytes := 8, zero := [.nilF] }),
  (111, { d := .func, sz := 1, bytes := 8, zero := [.nilF] }),
  (112, { d := .func, sz := 1, bytes := 8, zero := [.nilF] }),
  (113, { d := .func, sz := 1, bytes := 8, zero := [.nilF] }),
  (114, { d := .func, sz := 1, bytes := 8, zero := [.nilF] }),
  (115, { d := .func, sz := 1, bytes := 8, zero := [.nilF] }),
  (116, { d := .func, sz := 1, bytes := 8, zero := [.nilF] }),
  (117, { d := .func, sz := 1, bytes := 8, zero := [.nilF] }),
  (118, { d := .func, sz := 1, bytes := 8, zero := [.nilF] }),
  (119, { d := .int .u64, sz := 1, bytes := 8, zero := [.int .u64 0] }),
  (120, { d := .func, sz := 1, bytes := 8, zero := [.nilF] }),
  (121, { d := .struct [(0, 17), (1, 17), (2, 17), (3, 9)], sz := 4, bytes := 40, zero := [.nilP, .nilP, .nilP, .str []] }),
  (123, { d := .array 0 16, sz := 0, bytes := 0, zero := [] }),
  (124, { d := .struct [(0, 123)], sz := 0, bytes := 0, zero := [] }),
  (126, { d := .int .u32, sz := 1, bytes := 4, zero := [.int .u32 0] }),
  (127, { d := .int .u8, sz := 1, bytes := 1, zero := [.int .u8 0] }),
  (128, { d := .int .u8, sz := 1, bytes := 1, zero := [.int .u8 0] }),
  (129, { d := .func, sz := 1, bytes := 8, zero := [.nilF] }),
  (130, { d := .ptr 5, sz := 1, bytes := 8, zero := [.nilP] }),
  (131, { d := .int .i32, sz := 1, bytes := 4, zero := [.int .i32 0] }),
  (132, { d := .int .i32, sz := 1, bytes := 4, zero := [.int .i32 0] }),
  (133, { d := .struct [(0, 12), (1, 12), (2, 126), (3, 127), (4, 5), (5, 5), (6, 128), (7, 129), (8, 130), (9, 131), (10, 132)], sz := 11, bytes := 48, zero := [.int .u64 0, .int .u64 0, .int .u32 0, .int .u8 0, .int .u8 0, .int .u8 0, .int .u8 0, .nilF, .nilP, .int .i32 0, .int .i32 0] }),
  (134, { d := .struct [(0, 12), (1, 12), (2, 126), (3, 127), (4, 5), (5, 5), (6, 128), (7, 129), (8, 130), (9, 131), (10, 132)], sz := 11, bytes := 48, zero := [.int .u64 0, .int .u64 0, .int .u32 0, .int .u8 0, .int .u8 0, .int .u8 0, .int .u8 0, .nilF, .nilP, .int .i32 0, .int .i32 0] })]

def tyLook (t : Nat) : List (Nat × TI) → Option TI
  | [] => none
  | p :: l => if Nat.beq p.1 t then some p.2 else tyLook t l

def modeTab : List (Nat × CMode) := [(3, .scal), (4, .scal), (5, .scal), (6, .scal), (7, .scal), (13, .scal), (14, .pfrz), (15, .scal), (16, .scal), (17, .scal), (18, .scal), (19, .scal), (20, .pown), (21, .pown), (22, .pown), (23, .scal), (24, .pfrz), (25, .pfrz), (26, .scal), (27, .scal), (28, .pfrz), (29, .pfrz), (30, .pfrz), (31, .pfrz), (32, .scal), (33, .scal), (34, .scal), (38, .pfrz), (57, .scal), (58, .scal), (59, .pown), (60, .scal), (61, .scal), (62, .scal), (63, .scal), (64, .scal), (65, .scal), (66, .scal), (67, .scal), (68, .pown), (69, .inpl), (70, .inpl), (71, .inpl), (72, .scal), (73, .pfrz), (74, .pfrz), (75, .pfrz), (77, .scal), (78, .scal), (95, .scal), (96, .scal), (97, .scal), (98, .inpl), (104, .scal), (107, .scal), (108, .inpl), (109, .inpl), (114, .scal), (115, .scal), (116, .inpl), (117, .scal), (118, .inpl), (119, .scal)]
def modeLook (t : Nat) : List (Nat × CMode) → CMode
  | [] => .imp
  | p :: l => if Nat.beq p.1 t then p.2 else modeLook t l

def frzTab : List (Nat × Nat × Nat) := [(4, 4, 1), (4, 4, 3), (5, 1, 4), (5, 1, 8), (5, 1, 16), (5, 1, 20), (5, 1, 28), (5, 2, 5), (5, 3, 5), (18, 1, 7), (18, 1, 10), (18, 1, 18), (18, 1, 21), (73, 5, 6)]
def frzLook (f r k : Nat) : List (Nat × Nat × Nat) → Bool
  | [] => false
  | p :: l => (Nat.beq p.1 f && Nat.beq p.2.1 r && Nat.beq p.2.2 k) || frzLook f r k l

def maskTab : List (Nat × Nat × List Tmp × List Tmp) := [
  (6, 6, [0, 3, 4, 5, 6], [0, 2, 3, 4, 5]),
  (6, 11, [0, 3, 4, 5, 7], [0, 2, 3, 4, 5]),
  (6, 16, [0, 3, 4, 5, 8], [0, 2, 3, 4, 5]),
  (9, 7, [0, 3, 4, 5], [2, 3, 4]),
  (10, 3, [1, 3, 4], [2]),
  (11, 7, [0, 1, 2, 7, 8, 9], [0, 1, 6, 7, 8]),
  (12, 7, [0, 1, 5, 6, 7, 8], [1, 5, 6, 7]),
  (12, 15, [1, 5, 6, 12, 13, 14], [4, 5, 6, 12]),
  (12, 25, [5, 6, 12, 17], [4, 5]),
  (15, 1, [2, 3], [4]),
  (19, 3, [0, 1, 5, 6], [4]),
  (24, 3, [0, 3, 4], [3]),
  (24, 6, [0, 3, 4, 5], [0, 3, 4, 5]),
  (25, 4, [3, 4, 5], [4]),
  (26, 2, [0, 3, 9, 10, 11], [0, 4, 5]),
  (27, 2, [0, 3, 6], [0, 3, 6]),
  (32, 3, [0, 3, 5, 6], [5]),
  (33, 4, [2, 3], [2, 3]),
  (34, 2, [5], [4]),
  (34, 9, [5, 6, 70, 71], [5]),
  (40, 11, [0, 6, 8, 9], [0, 6, 8, 9]),
  (44, 6, [3, 4, 5], [3]),
  (50, 3, [0, 3, 4], [3]),
  (51, 1, [0, 2], []),
  (53, 4, [2, 5], [2, 5]),
  (54, 4, [2, 5], [2, 5]),
  (56, 2, [0, 3], [3]),
  (57, 3, [1, 2, 5, 6], [5]),
  (58, 4, [1, 3], [2]),
  (59, 3, [0, 3, 4], [3]),
  (62, 3, [3, 6, 7, 8], [2, 3]),
  (66, 3, [0, 1, 5, 6], [5]),
  (67, 4, [0, 1, 5], [4]),
  (71, 4, [0, 1, 5], [0, 4]),
  (71, 9, [0, 1, 5, 6, 7], [0, 5]),
  (73, 3, [0, 4, 5, 6], [4, 5]),
  (81, 3, [0, 2, 4, 7, 8], [7]),
  (82, 2, [0, 3, 5], [4]),
  (83, 1, [0, 2], []),
  (93, 2, [1, 2], []),
  (97, 2, [0, 1, 2, 11, 12, 13], [0, 1, 6]),
  (98, 2, [0, 1, 2, 6, 7, 8], [0, 1, 2, 6, 7]),
  (98, 7, [0, 1, 2, 6], []),
  (98, 9, [0, 1, 2, 6, 7, 8], [0, 1, 2, 6, 7]),
  (99, 1, [0, 3], []),
  (99, 7, [3], [0, 3]),
  (103, 6, [1, 2, 3, 4, 18, 19, 20], [2, 3, 4]),
  (105, 2, [0, 3, 6], [0, 3, 6]),
  (108, 1, [0, 1, 2, 3, 8], []),
  (108, 4, [0, 1, 2, 3, 8, 9], [0, 1, 2, 3, 8]),
  (109, 3, [0, 1, 4, 10, 11], [0, 1, 10]),
  (109, 9, [0, 10, 13], []),
  (109, 15, [0, 2, 4, 14, 15], [0, 2, 14]),
  (109, 21, [0, 14, 17], []),
  (109, 33, [0, 1, 2, 3, 4, 18, 19, 20, 21, 22], [0, 1, 2, 3, 4, 18, 19, 20]),
  (110, 1, [0, 1, 3], []),
  (114, 4, [1, 3], [2]),
  (115, 6, [1, 3, 4], [3]),
  (116, 2, [0, 2, 4, 10, 11], [0, 2, 4, 10]),
  (118, 1, [0, 1, 2, 3, 10], [])]
def maskLook (f r : Nat) : List (Nat × Nat × List Tmp × List Tmp) → Option (List Tmp × List Tmp)
  | [] => none
  | p :: l => if Nat.beq p.1 f && Nat.beq p.2.1 r then some p.2.2 else maskLook f r l

def cutTab : List (Nat × Nat × List Tmp) := [
  (4, 3, [0, 3]),
  (4, 4, [0, 3, 5]),
  (4, 5, [0, 3, 5, 6, 7]),
  (4, 7, [0, 3, 5, 6, 7]),
  (4, 8, [0, 3, 5, 6, 7, 8, 9]),
  (4, 9, [0, 5, 6, 7, 8, 9, 10, 11]),
  (4, 12, [0, 5, 8, 9, 10, 11]),
  (5, 2, [1]),
  (5, 3, [1, 2]),
  (5, 4, [1, 2, 3]),
  (5, 5, [1, 2, 3, 4, 5]),
  (5, 6, [1, 2, 3, 4, 5, 6, 7])]
def cutLook (f r : Nat) : List (Nat × Nat × List Tmp) → Option (List Tmp)
  | [] => none
  | p :: l => if Nat.beq p.1 f && Nat.beq p.2.1 r then some p.2.2 else cutLook f r l

def extLook (f : Nat) : List (Nat × (List AV → AH → Option (AV × AH))) → Option (List AV → AH → Option (AV × AH))
  | [] => none
  | p :: l => if Nat.beq p.1 f then some p.2 else extLook f l
def extTab : List (Nat × (List AV → AH → Option (AV × AH))) := [(107, extCmp)]
def knownTab : List Nat := [2, 3, 4, 5, 6, 7, 8, 9, 10, 11, 12, 13, 14, 15, 16, 17, 18, 19, 20, 21, 22, 23, 24, 25, 26, 27, 28, 29, 30, 31, 32, 33, 34, 35, 36, 37, 38, 39, 40, 41, 42, 43, 44, 45, 46, 47, 48, 49, 50, 51, 52, 53, 54, 55, 56, 57, 58, 59, 60, 61, 62, 63, 64, 65, 66, 67, 68, 69, 70, 71, 72, 73, 74, 75, 76, 77, 78, 79, 80, 81, 82, 83, 84, 85, 86, 87, 88, 89, 90, 91, 92, 93, 94, 95, 96, 97, 98, 99, 100, 101, 102, 103, 104, 105, 106, 108, 109, 110, 111, 112, 113, 114, 115, 116, 117, 118, 119]
def knownLook (f : Nat) : List Nat → Bool
  | [] => false
  | p :: l => Nat.beq p f || knownLook f l
def datTab : List Nat := [22, 24]
def tupTab : List (Nat × List Nat) := [(33, [3, 4]), (45, [44, 4]), (47, [24, 3, 4]), (69, [3, 4, 41])]
def tupLook (t : Nat) : List (Nat × List Nat) → Option (List Nat)
  | [] => none
  | p :: l => if Nat.beq p.1 t then some p.2 else tupLook t l
noncomputable def inlTab : List (Nat × Func) := [(76, Try.f76), (99, Try.f99), (100, Try.f100), (110, Try.f110)]

noncomputable def cfg : Cfg := { P := Try.prog, ty := fun t => tyLook t tyTab, mode := fun f => modeLook f modeTab, frz := fun f r k => frzLook f r k frzTab, mask := fun f r => maskLook f r maskTab, cut := fun f r => cutLook f r cutTab, tup := fun t => tupLook t tupTab, ext := fun f => extLook f extTab, known := fun f => knownLook f knownTab, dat := fun t => knownLook t datTab, inl := fun f => inlLook f inlTab }
instance inl_ok : InlOk cfg := InlOk.of inlTab (fun _ => rfl) ⟨⟨rfl, rfl, Try.func76, rfl⟩, ⟨⟨rfl, rfl, Try.func99, rfl⟩, ⟨⟨rfl, rfl, Try.func100, rfl⟩, ⟨⟨rfl, rfl, Try.func110, rfl⟩, trivial⟩⟩⟩⟩
end Go.Proofs.Ytpbfmaodnihpeaa
end

section
/-
  The configuration of this seat is right: types, names, the function without a body. Own work.
  What is proved: CfgOk; no condition.
-/
namespace Go.Av

def TysOk (P : Program) : List (Nat × TI) → Prop
  | [] => True
  | p :: l => tiOf P p.1 = some p.2 ∧ TysOk P l

/-- the order of two texts -/
def cmpS (a b : List UInt8) : Int := if a == b then 0 else if Op.bytesLess a b then -1 else 1

theorem compareBytes_eq : ∀ a b : List UInt8, Lib.compareBytes a b = cmpS a b
  | [], [] => rfl
  | [], _ :: _ => by simp [Lib.compareBytes, cmpS, Op.bytesLess]
  | _ :: _, [] => by simp [Lib.compareBytes, cmpS, Op.bytesLess]
  | a :: l, b :: m => by
    rw [Lib.compareBytes, compareBytes_eq l m]
    unfold cmpS
    by_cases h : a = b
    · subst h
      have : ¬ a < a := by simp
      by_cases h2 : l = m
      · subst h2; simp
      · simp [Op.bytesLess, h2]
    · have h' : (a :: l == b :: m) = false := by simp [h]
      rw [h']
      simp only [Bool.false_eq_true, if_false, Op.bytesLess]
      by_cases hlt : a < b
      · simp [hlt]
      · have : b < a := by
          have h1 : ¬ a.toNat < b.toNat := hlt
          have h2 : a.toNat ≠ b.toNat := fun e => h (UInt8.toNat.inj e)
          show b.toNat < a.toNat
          omega
        simp [hlt, this, h]

theorem extCmp_sound {P : Program} {f : FuncId} {fn : Func} (hf : P.funcs[f]? = some fn) (hn : (fn.name == "runtime.NumGoroutine") = false) (hb : fn.body.isNone = true) (hx : Extern.findNext fn = none)
    (he : Extern.find fn = some Extern.BytealgCompare.compare) {args : List AV} {H H' : AH} {r : AV} (hr : extCmp args H = some (r, H')) {C : Claims} {μ : MMap} {w : World} {vs : Array Value} (ha : FrRep C μ args vs) (hw : Wld C μ H w) :
    CallR P (callFunc f vs) w (Post1 C μ H w r H') := by
  unfold extCmp at hr
  split at hr
  · rename_i H0 a b
    cases hr
    obtain ⟨hl, hv⟩ := ha
    obtain ⟨x, y, rfl⟩ : ∃ x y, vs = #[x, y] := by
      obtain ⟨l⟩ := vs
      match l, hl with
      | [x, y], _ => exact ⟨x, y, rfl⟩
    have h0 := hv 0 _ _ rfl rfl
    have h1 := hv 1 _ _ rfl rfl
    cases h0
    cases h1
    have hrun : (callFunc f #[.string ⟨a.toArray⟩, .string ⟨b.toArray⟩]).run P w = .ok (.value (.int .i64 (cmpS a b))) w := by
      unfold callFunc
      simp only [Sem.run_bind, run_program, Result.andThen_ok, hf, hn, hb, Bool.false_eq_true, if_false, if_true, run_mark, hx, he, Lib.run_compareString, Sem.run_pure]
      rw [compareBytes_eq]
    unfold CallR
    rw [hrun]
    exact ⟨C, μ, .int _ _, hw, Ext.refl (Nat.le_refl _)⟩
  · cases hr
end Go.Av
namespace Go.Proofs.Ytpbfmaodnihpeaa
open Go.Av
set_option maxRecDepth 100000

theorem tys_look {P : Program} {t : Nat} {ti : TI} : ∀ {l : List (Nat × TI)}, TysOk P l → tyLook t l = some ti → tiOf P t = some ti
  | [], _, h => by cases h
  | p :: l, hk, h => by
    rw [tyLook] at h
    split at h
    · rename_i e
      cases h
      rw [← Nat.eq_of_beq_eq_true e]
      exact hk.1
    · exact tys_look hk.2 h

theorem tys_ok : TysOk Try.prog tyTab := by
  unfold tyTab
  repeat (first | exact trivial | refine ⟨by kernel_rfl, ?_⟩)

theorem names_ok : Try.prog.funcs.toList.all (fun fn => !(fn.name == "runtime.NumGoroutine")) = true := by kernel_rfl
theorem mixed_ok : Try.prog.follows .mixedOrders = true := by kernel_rfl
end Go.Proofs.Ytpbfmaodnihpeaa
end

section
/-
  Terms as plain Lean data, and how they stand as abstract values. Own work.
  What is proved: how lists of terms stand as rows; no condition.
-/
namespace Go.Av

inductive Tm where
  | mk (k n : Int) (s : List UInt8) (l : List Tm)
  deriving Inhabited

namespace Tm
def kind : Tm → Int | mk k _ _ _ => k
def num : Tm → Int | mk _ n _ _ => n
def str : Tm → List UInt8 | mk _ _ s _ => s
def subs : Tm → List Tm | mk _ _ _ l => l
end Tm

mutual
def Tm.cells : Tm → List AV
  | .mk k n s l => [.int .i64 k, .int .i64 n, .str s, .sl (rowsT l)]
def rowsT : List Tm → List (List AV)
  | [] => []
  | t :: l => t.cells :: rowsT l
end

def Tm.av (t : Tm) : AV := .agg t.cells

theorem Tm.cells_mk (k n : Int) (s : List UInt8) (l : List Tm) : (Tm.mk k n s l).cells = [.int .i64 k, .int .i64 n, .str s, .sl (rowsT l)] := by rw [Tm.cells]
theorem Tm.av_mk (k n : Int) (s : List UInt8) (l : List Tm) : (Tm.mk k n s l).av = .agg [.int .i64 k, .int .i64 n, .str s, .sl (rowsT l)] := by rw [Tm.av, Tm.cells_mk]
theorem rowsT_map : ∀ l : List Tm, rowsT l = l.map Tm.cells
  | [] => by rw [rowsT]; rfl
  | t :: l => by rw [rowsT, rowsT_map l]; rfl
@[simp] theorem rowsT_length (l : List Tm) : (rowsT l).length = l.length := by rw [rowsT_map]; simp
@[simp] theorem rowsT_nil : rowsT [] = [] := by rw [rowsT]
theorem rowsT_cons (t : Tm) (l : List Tm) : rowsT (t :: l) = t.cells :: rowsT l := by rw [rowsT]
theorem rowsT_append (a b : List Tm) : rowsT (a ++ b) = rowsT a ++ rowsT b := by simp [rowsT_map]
theorem rowsT_take (n : Nat) (a : List Tm) : (rowsT a).take n = rowsT (a.take n) := by simp [rowsT_map, List.map_take]
theorem rowsT_drop (n : Nat) (a : List Tm) : (rowsT a).drop n = rowsT (a.drop n) := by simp [rowsT_map, List.map_drop]
theorem rowsT_get (l : List Tm) (i : Nat) : (rowsT l)[i]? = (l[i]?).map Tm.cells := by rw [rowsT_map]; simp
theorem rowsT_some {l : List Tm} {i : Nat} {k n : Int} {s : List UInt8} {l' : List Tm} (h : l[i]? = some (.mk k n s l')) : (rowsT l)[i]? = some [.int .i64 k, .int .i64 n, .str s, .sl (rowsT l')] := by rw [rowsT_get, h, ← Tm.cells_mk]; rfl
theorem rowsT_set (l : List Tm) (i : Nat) (t : Tm) : (rowsT l).set i t.cells = rowsT (l.set i t) := by simp [rowsT_map, List.map_set]

theorem cells_free (t : Tm) : refsLtL 0 t.cells = true := by
  obtain ⟨k, n, s, l⟩ := t
  rw [Tm.cells_mk]; rfl
theorem rowsT_free (l : List Tm) : refsLtR 0 (rowsT l) = true := by
  induction l with
  | nil => rw [rowsT]; rfl
  | cons t l ih => rw [rowsT, refsLtR, ih, cells_free]; rfl

mutual
/-- no list is longer than is counted here, no text -/
def Tm.Ok : Tm → Prop
  | .mk _ _ s l => s.length < 1099511627776 ∧ l.length < 1099511627776 ∧ OkL l
def OkL : List Tm → Prop
  | [] => True
  | t :: l => t.Ok ∧ OkL l
end
theorem OkL_iff {l : List Tm} : OkL l ↔ ∀ t ∈ l, t.Ok := by
  induction l with
  | nil => simp [OkL]
  | cons t l ih => simp [OkL, ih]
theorem Tm.Ok.str {k n : Int} {s : List UInt8} {l : List Tm} (h : (Tm.mk k n s l).Ok) : s.length < 1099511627776 := by rw [Tm.Ok] at h; exact h.1
theorem Tm.Ok.len {k n : Int} {s : List UInt8} {l : List Tm} (h : (Tm.mk k n s l).Ok) : l.length < 1099511627776 := by rw [Tm.Ok] at h; exact h.2.1
theorem Tm.Ok.sub {k n : Int} {s : List UInt8} {l : List Tm} (h : (Tm.mk k n s l).Ok) {t : Tm} (ht : t ∈ l) : t.Ok := by rw [Tm.Ok] at h; exact OkL_iff.1 h.2.2 t ht
theorem OkL.get {l : List Tm} (h : OkL l) {t : Tm} (ht : t ∈ l) : t.Ok := OkL_iff.1 h t ht

theorem Tm.ind {P : Tm → Prop} (h : ∀ k n s l, (∀ t ∈ l, P t) → P (.mk k n s l)) : ∀ t, P t
  | .mk k n s l => h k n s l (fun t _ => Tm.ind h t)

/-! ### numbers -/
theorem wrap64 {x : Int} (h1 : -9223372036854775808 ≤ x) (h2 : x < 9223372036854775808) : IntKind.wrap .i64 x = x := by
  simp [IntKind.wrap, IntKind.bits, IntKind.signed]; omega
theorem wrap_succ {i n : Nat} (h : i < n) (hn : n < 1099511627776) : IntKind.wrap .i64 ((i : Int) + 1) = ((i + 1 : Nat) : Int) := by
  rw [wrap64 (by omega) (by omega)]; rfl
theorem leInt_zero (i : Nat) : leInt 0 (i : Int) = true := by simp [leInt]
theorem ltInt_nat (i n : Nat) : ltInt (i : Int) (n : Int) = decide (i < n) := by simp [ltInt]

/-- a term's cells -/
def kTmC {α : Type} (l : List AV) (k : Int → Int → List UInt8 → List (List AV) → Option α) : Option α :=
  kCons l fun c cs => kInt .i64 c fun n => kCons cs fun c cs => kInt .i64 c fun m => kCons cs fun c cs => kStr c fun s => kCons cs fun c cs => kSl c fun A => kNil cs (k n m s A)
def kTmV {α : Type} (v : AV) (k : Int → Int → List UInt8 → List (List AV) → Option α) : Option α := kAgg v fun cs => kTmC cs k

/-- a row of a list of terms -/
theorem rowsT_at {α : Type} {l : List Tm} {i : Nat} {t : Tm} (h : l[i]? = some t) (k : List AV → Option α) : kOpt (List.get?Internal (rowsT l) (Int.toNat (i : Int))) k = k t.cells := by
  rw [get?Internal_eq, Int.toNat_natCast, rowsT_get, h]; rfl
end Go.Av
end

section
/-
  How much a term is: its parts, and the bytes of its texts. Own work.
  What is proved: lemmas about lists of terms; no condition.
-/
namespace Go.Av
mutual
def Tm.w : Tm → Nat
  | .mk _ _ s l => 1 + s.length + wL l
def wL : List Tm → Nat
  | [] => 0
  | t :: l => t.w + wL l
end
theorem Tm.w_mk (k n : Int) (s : List UInt8) (l : List Tm) : (Tm.mk k n s l).w = 1 + s.length + wL l := by rw [Tm.w]
theorem Tm.w_eq (t : Tm) : t.w = 1 + t.str.length + wL t.subs := by cases t; rw [Tm.w_mk]; rfl
@[simp] theorem wL_nil : wL [] = 0 := by rw [wL]
@[simp] theorem wL_cons (t : Tm) (l : List Tm) : wL (t :: l) = t.w + wL l := by rw [wL]
@[simp] theorem wL_append (a b : List Tm) : wL (a ++ b) = wL a + wL b := by
  induction a with
  | nil => simp
  | cons t l ih => simp [ih]; omega
theorem w_pos (t : Tm) : 1 ≤ t.w := by rw [Tm.w_eq]; omega
theorem wL_mem {t : Tm} {l : List Tm} (h : t ∈ l) : t.w ≤ wL l := by
  induction l with
  | nil => cases h
  | cons x l ih =>
    rw [wL_cons]
    rcases List.mem_cons.1 h with rfl | h
    · omega
    · have := ih h; omega
theorem wL_len (l : List Tm) : l.length ≤ wL l := by
  induction l with
  | nil => simp
  | cons x l ih => have := w_pos x; simp; omega
theorem ok_of_w (t : Tm) : t.w < 1099511627776 → t.Ok := by
  induction t using Tm.ind with
  | _ k n s l ih =>
    intro h
    rw [Tm.w_mk] at h
    rw [Tm.Ok]
    have := wL_len l
    exact ⟨by omega, by omega, OkL_iff.2 fun t ht => ih t ht (by have := wL_mem ht; omega)⟩
theorem okL_of_w {l : List Tm} (h : wL l < 1099511627776) : OkL l := OkL_iff.2 fun t ht => ok_of_w t (by have := wL_mem ht; omega)
theorem len_of_w {l : List Tm} (h : wL l < 1099511627776) : l.length < 1099511627776 := by have := wL_len l; omega
theorem wL_rev (l : List Tm) : wL l.reverse = wL l := by
  induction l with
  | nil => rfl
  | cons x l ih => simp [ih]; omega
end Go.Av
end

section
/-
  How an argument's reading stands as abstract data, and that it reads the same in a later world. Own work.
  What is proved: for terms and lists of terms; no condition.
-/
namespace Go.Proofs.Ytpbfmaodnihpeaa
open Go.Av

/-- all that a world holds is claimed -/
def C0 (W : World) : Claims := fun b o => W.cell? ⟨b, o, none⟩
def M0 : MMap := fun _ => none

theorem wld0 (W : World) : Wld (C0 W) M0 [] W where
  cl := fun _ _ _ h => h
  dom := fun id m h => by cases h
  res := fun id h => by simp at h
  live := fun id b h => by simp at h
  froz := fun id d sz rs h => by simp at h
  inj := fun i i' b b' m m' h => by simp at h
  free := FreeH.nil

structure TermTys (P : Program) (tT tL tI tS : TypeId) : Prop where
  uT : ∃ f0 f1 f2 f3 : Field, P.underlying tT = some (.struct #[f0, f1, f2, f3]) ∧ f0.type = tI ∧ f0.offset = 0 ∧ f1.type = tI ∧ f1.offset = 1 ∧ f2.type = tS ∧ f2.offset = 2 ∧ f3.type = tL ∧ f3.offset = 3
  uL : P.underlying tL = some (.slice tT)
  uI : P.underlying tI = some (.int .i64)
  uS : P.underlying tS = some .string
  cT : P.cellsOf tT = 4
  cL : P.cellsOf tL = 1
  cI : P.cellsOf tI = 1
  cS : P.cellsOf tS = 1

section
variable {H : Type} {enc : TypeId × Value → H} {P : Program} {W : World} {tT tL tI tS : TypeId}

/-- what a row of cells is as a term, in a world -/
def CellsAre (W : World) (cs : List Value) (t : Tm) : Prop := cs.length = 4 ∧ ∀ (j : Nat) a v, t.cells[j]? = some a → cs[j]? = some v → a.isCell = true ∧ Rep (C0 W) M0 a v

theorem cells?_some {base : Nat} {a : Addr} {n : Nat} {cs : List Value} (h : W.cells? base a n = some cs) (hn : 0 < n) : a.spot = none ∧ cs.length = n ∧ ∀ (j : Nat) v, cs[j]? = some v → W.cell? ⟨a.block, a.off + j, none⟩ = some v := by
  unfold World.cells? at h
  split at h
  · have hl : cs.length = n := by simpa using mapM_some_length h
    have hg : ∀ (j : Nat), j < n → W.cell? (a.add j) = cs[j]? := fun j hj => mapM_some_get h j j (by simp [hj])
    have hsp : a.spot = none := by
      have h0 := hg 0 hn
      rw [List.getElem?_eq_getElem (by omega)] at h0
      cases hs : a.spot with
      | none => rfl
      | some s =>
        simp only [World.cell?, Addr.add, if_pos, hs] at h0
        split at h0
        · simp at h0
        · cases h0
    refine ⟨hsp, hl, fun j v hv => ?_⟩
    have hj : j < n := by rw [← hl]; exact (List.getElem?_eq_some_iff.1 hv).1
    have := hg j hj
    rw [hv] at this
    rw [addr_add' _ _ hsp] at this
    exact this
  · cases h

theorem fieldI {n : Nat} {cs : List Value} {x : DataW H × List MemPlace} (T : TermTys P tT tL tI tS) {sp : Nat → Bool} {hd : Bool} (h : DataW.trod enc P W 0 sp hd n tI cs = some x) : ∃ k, cs = [.int .i64 k] ∧ x = (.lit (.int .i64 k), []) ∧ (Lit.int .i64 k).wf = true := DataW.trod_int T.uI h

theorem bulk_one {H : Type} (d : DataW H) : 1 ≤ Rows.uptoBulk d := by
  cases d with
  | lit l => cases l <;> simp [Rows.uptoBulk]
  | nil => simp [Rows.uptoBulk]
  | ptr d => simp [Rows.uptoBulk]
  | slice elems spare => simp [Rows.uptoBulk]
  | agg parts => simp [Rows.uptoBulk]
  | iface t d => simp [Rows.uptoBulk]
  | map entries => simp [Rows.uptoBulk]
  | held h => simp [Rows.uptoBulk]
theorem bulk_part {H : Type} {d : DataW H} {l : List (DataW H)} (h : d ∈ l) : Rows.uptoBulk d ≤ Rows.uptoBulkAll l := by
  induction l with
  | nil => cases h
  | cons x r ih =>
    simp only [Rows.uptoBulkAll]
    cases List.mem_cons.1 h with
    | inl e => subst e; omega
    | inr e => have := ih e; omega
theorem bulk_length {H : Type} (l : List (DataW H)) : l.length ≤ Rows.uptoBulkAll l := by
  induction l with
  | nil => simp [Rows.uptoBulkAll]
  | cons x r ih => have := bulk_one x; simp only [Rows.uptoBulkAll, List.length_cons]; omega
theorem bulk_slice {H : Type} {B : Nat} (es rs : List (DataW H)) (h : Rows.uptoBulk (.slice es rs) < B) : es.length < B ∧ ∀ d ∈ es, Rows.uptoBulk d < B := by
  simp only [Rows.uptoBulk] at h
  have := bulk_length es
  exact ⟨by omega, fun d hd => by have := bulk_part hd; omega⟩

theorem bulk_terms {H : Type} : ∀ (l : List Tm) (ds : List (DataW H)), l.length = ds.length → (∀ (i : Nat) t d, l[i]? = some t → ds[i]? = some d → t.w ≤ Rows.uptoBulk d) → wL l ≤ Rows.uptoBulkAll ds
  | [], [], _, _ => by simp [Rows.uptoBulkAll]
  | t :: l, d :: ds, hl, h => by
    have h0 := h 0 t d rfl rfl
    have := bulk_terms l ds (by simpa using hl) (fun i t d ht hd => h (i + 1) t d (by simpa using ht) (by simpa using hd))
    simp only [wL_cons, Rows.uptoBulkAll]
    omega
/-- a term is opened -/
theorem open_both (T : TermTys P tT tL tI tS) : ∀ (n : Nat),
    (∀ cs x, DataW.trod enc P W 0 (fun _ => true) true n tT cs = some x → ∃ t : Tm, CellsAre W cs t ∧ t.w ≤ Rows.uptoBulk x.1 ∧
      ∀ (W' : World) (sp : Nat → Bool), (∀ p ∈ x.2, W.sameAt W' p) → (∀ p ∈ x.2, sp p.block = true) → DataW.trod enc P W' 0 sp true n tT cs = some x) ∧
    (∀ cs x, DataW.trod enc P W 0 (fun _ => true) true n tL cs = some x → ∃ (l : List Tm) (v : Value), cs = [v] ∧ Rep (C0 W) M0 (.sl (rowsT l)) v ∧ wL l ≤ Rows.uptoBulk x.1 ∧
      ∀ (W' : World) (sp : Nat → Bool), (∀ p ∈ x.2, W.sameAt W' p) → (∀ p ∈ x.2, sp p.block = true) → DataW.trod enc P W' 0 sp true n tL cs = some x) := by
  intro n
  induction n with
  | zero => exact ⟨fun cs x h => by simp [DataW.trod] at h, fun cs x h => by simp [DataW.trod] at h⟩
  | succ n ih =>
    obtain ⟨ihT, ihL⟩ := ih
    refine ⟨fun cs x h => ?_, fun cs x h => ?_⟩
    · obtain ⟨f0, f1, f2, f3, hu, t0, o0, t1, o1, t2, o2, t3, o3⟩ := T.uT
      obtain ⟨xs, n', e, rfl, hl, hxl, hx⟩ := DataW.trod_struct hu h
      obtain rfl : n' = n := by omega
      rw [T.cT] at hl
      obtain ⟨c0, c1, c2, c3, rfl⟩ : ∃ c0 c1 c2 c3, cs = [c0, c1, c2, c3] := by
        match cs, hl with
        | [a, b, c, d], _ => exact ⟨a, b, c, d, rfl⟩
      obtain ⟨x0, x1, x2, x3, rfl⟩ : ∃ c0 c1 c2 c3, xs = [c0, c1, c2, c3] := by
        match xs, hxl with
        | [a, b, c, d], _ => exact ⟨a, b, c, d, rfl⟩
      have h0 := hx 0 f0 rfl
      have h1 := hx 1 f1 rfl
      have h2 := hx 2 f2 rfl
      have h3 := hx 3 f3 rfl
      rw [t0, o0, T.cI] at h0
      rw [t1, o1, T.cI] at h1
      rw [t2, o2, T.cS] at h2
      rw [t3, o3, T.cL] at h3
      simp at h0 h1 h2 h3
      obtain ⟨k, e0, rfl, w0⟩ := DataW.trod_int T.uI h0
      obtain ⟨m, e1, rfl, w1⟩ := DataW.trod_int T.uI h1
      obtain ⟨s, e2, rfl, w2⟩ := DataW.trod_string T.uS h2
      obtain ⟨l, v, e3, hr, hb, hback⟩ := ihL _ _ h3
      simp at e0 e1 e2 e3
      subst e0 e1 e2 e3
      refine ⟨.mk k m s.data.toList l, ⟨rfl, fun j a u ha hu => ?_⟩, ?_, fun W' sp hs hp => ?_⟩
      · rw [Tm.cells_mk] at ha
        match j, ha, hu with
        | 0, ha, hu => simp at ha hu; subst ha hu; exact ⟨rfl, .int _ _⟩
        | 1, ha, hu => simp at ha hu; subst ha hu; exact ⟨rfl, .int _ _⟩
        | 2, ha, hu =>
          simp at ha hu; subst ha hu
          refine ⟨rfl, ?_⟩
          have := Rep.str (C := C0 W) (μ := M0) s.data.toList
          simpa using this
        | 3, ha, hu => simp at ha hu; subst ha hu; exact ⟨rfl, hr⟩
        | (j + 4), ha, hu => simp at ha
      · simp only [List.map_cons, List.map_nil, Rows.uptoBulk, Rows.uptoBulkAll]
        rw [Tm.w_mk]
        omega
      · have hs3 : ∀ p ∈ x3.2, W.sameAt W' p := fun p hp => hs p (by simp [hp])
        have hp3 : ∀ p ∈ x3.2, sp p.block = true := fun p hpp => hp p (by simp [hpp])
        have b3 := hback W' sp hs3 hp3
        have b0 : DataW.trod enc P W' 0 sp true n' tI [Value.int .i64 k] = some (.lit (.int .i64 k), []) := by
          cases n' with
          | zero => simp [DataW.trod] at h0
          | succ q => simp [DataW.trod, T.uI, w0]
        have b1 : DataW.trod enc P W' 0 sp true n' tI [Value.int .i64 m] = some (.lit (.int .i64 m), []) := by
          cases n' with
          | zero => simp [DataW.trod] at h0
          | succ q => simp [DataW.trod, T.uI, w1]
        have b2 : DataW.trod enc P W' 0 sp true n' tS [Value.string s] = some (.lit (.string s.data.toList), []) := by
          cases n' with
          | zero => simp [DataW.trod] at h0
          | succ q => simp [DataW.trod, T.uS, w2]
        unfold DataW.trod
        rw [hu]
        simp [T.cT, t0, o0, t1, o1, t2, o2, t3, o3, T.cI, T.cS, T.cL, b0, b1, b2, b3]
    · rcases DataW.trod_slice T.uL h with ⟨rfl, rfl⟩ | ⟨a, len, cap, elems, rest, n', e, rfl, rfl, hb, hlc, hmx, hel, hg, hsp, _⟩
      · refine ⟨[], _, rfl, by rw [rowsT_nil]; exact .slNil, by simp, fun W' sp _ _ => ?_⟩
        simp [DataW.trod, T.uL]
      · obtain rfl : n' = n := by omega
        obtain ⟨hrl, hrg⟩ := hsp rfl
        have one : ∀ (i : Nat) (y : DataW H × List MemPlace), (W.cells? 0 (a.add (i * P.cellsOf tT)) (P.cellsOf tT)).bind (DataW.trod enc P W 0 (fun _ => true) true n' tT) = some y →
            ∃ cs', W.cells? 0 (a.add (i * 4)) 4 = some cs' ∧ DataW.trod enc P W 0 (fun _ => true) true n' tT cs' = some y := by
          intro i y hy
          rw [T.cT] at hy
          exact Option.bind_eq_some_iff.1 hy
        -- the terms
        have tms : ∃ f : Nat → Tm, ∀ (i : Nat) y, elems[i]? = some y → ∃ cs', W.cells? 0 (a.add (i * 4)) 4 = some cs' ∧ CellsAre W cs' (f i) ∧ (f i).w ≤ Rows.uptoBulk y.1 := by
          have : ∀ i : Nat, ∃ t : Tm, ∀ y, elems[i]? = some y → ∃ cs', W.cells? 0 (a.add (i * 4)) 4 = some cs' ∧ CellsAre W cs' t ∧ t.w ≤ Rows.uptoBulk y.1 := by
            intro i
            cases hy : elems[i]? with
            | none => exact ⟨default, fun y h => by cases h⟩
            | some y =>
              have hi : i < len := by rw [← hel]; exact (List.getElem?_eq_some_iff.1 hy).1
              obtain ⟨cs', h1, h2⟩ := one i y ((hg i hi).trans hy)
              obtain ⟨t, h3, h4, _⟩ := ihT _ _ h2
              exact ⟨t, fun y' hy' => by cases hy'; exact ⟨cs', h1, h3, h4⟩⟩
          exact ⟨fun i => Classical.choose (this i), fun i => Classical.choose_spec (this i)⟩
        obtain ⟨f, hf⟩ := tms
        have hget : ∀ (i : Nat) (row : List AV), (rowsT ((List.range len).map f))[i]? = some row → i < len ∧ row = (f i).cells := by
          intro i row hi
          have hil : i < len := by have := (List.getElem?_eq_some_iff.1 hi).1; simpa using this
          refine ⟨hil, ?_⟩
          rw [rowsT_get, List.getElem?_map, List.getElem?_range hil] at hi
          simpa using hi.symm
        have hcell : ∀ (i j : Nat) (row : List AV) x, (rowsT ((List.range len).map f))[i]? = some row → row[j]? = some x → a.spot = none ∧ x.isCell = true ∧ ∃ v, W.cell? ⟨a.block, a.off + i * 4 + j, none⟩ = some v ∧ Rep (C0 W) M0 x v := by
          intro i j row x hi hj
          obtain ⟨hil, rfl⟩ := hget i row hi
          obtain ⟨cs', h1, h2, _⟩ := hf i _ (List.getElem?_eq_getElem (by omega))
          obtain ⟨s1, s2, s3⟩ := cells?_some h1 (by omega)
          have hspot : a.spot = none := by
            obtain ⟨cs0, q1, _⟩ := hf 0 _ (List.getElem?_eq_getElem (by omega))
            have := (cells?_some q1 (by omega)).1
            simpa [Addr.add] using this
          have hjl : j < cs'.length := by
            rw [h2.1]
            have := (List.getElem?_eq_some_iff.1 hj).1
            cases hfi : f i with
            | mk k n s l => rw [hfi, Tm.cells_mk] at this; simpa using this
          have h4 := h2.2 j x _ hj (List.getElem?_eq_getElem hjl)
          refine ⟨hspot, h4.1, _, ?_, h4.2⟩
          have := s3 j _ (List.getElem?_eq_getElem hjl)
          rw [addr_add' _ _ hspot] at this
          exact this
        refine ⟨(List.range len).map f, _, rfl, ?_, ?_, fun W' sp hs hp => ?_⟩
        · have := Rep.sl (C := C0 W) (μ := M0) (rowsT ((List.range len).map f)) a cap 4 (fun i j => (W.cell? ⟨a.block, a.off + i * 4 + j, none⟩).getD undef) (fun hne => ?_) (fun i row hi => ?_) (fun i j row x hi hj => ?_) (fun i j row x hi hj => ?_) (fun i j row x hi hj => ?_) (by simpa using hlc) (rowsT_free _)
          · simpa using this
          · have hl0 : 0 < len := by
              rcases Nat.eq_zero_or_pos len with h0 | h0
              · subst h0; exact absurd (by simp) hne
              · exact h0
            obtain ⟨cs0, q1, _⟩ := hf 0 _ (List.getElem?_eq_getElem (by omega))
            have := (cells?_some q1 (by omega)).1
            simpa [Addr.add] using this
          · obtain ⟨_, rfl⟩ := hget i row hi
            cases hfi : f i with
            | mk k n s l => rw [Tm.cells_mk]; rfl
          · obtain ⟨_, _, v, h1, _⟩ := hcell i j row x hi hj
            show W.cell? _ = _
            rw [h1]; rfl
          · obtain ⟨_, _, v, h1, h2⟩ := hcell i j row x hi hj
            rw [h1]; exact h2
          · exact (hcell i j row x hi hj).2.1
        · simp only [Rows.uptoBulk]
          have := bulk_terms ((List.range len).map f) (elems.map (·.1)) (by simp [hel]) (fun i t d ht hd => by
            rw [List.getElem?_map] at ht hd
            obtain ⟨j, hj, rfl⟩ := Option.map_eq_some_iff.1 ht
            obtain ⟨y, hy, rfl⟩ := Option.map_eq_some_iff.1 hd
            have hil : i < len := by have := (List.getElem?_eq_some_iff.1 hj).1; simpa using this
            rw [List.getElem?_range hil] at hj
            cases hj
            obtain ⟨_, _, _, h4⟩ := hf i y hy
            exact h4)
          omega
        · have hrow : 0 < (elems.length + rest.length) → sp a.block = true := fun hpos => hp (.cell a.block (a.off + 0)) (by
            rw [List.mem_append]
            exact .inl (MemPlace.mem_row.2 ⟨0, Nat.mul_pos hpos (by rw [T.cT]; omega), rfl⟩))
          unfold DataW.trod at h ⊢
          rw [T.uL] at h ⊢
          simp only [if_true] at h ⊢
          rw [if_pos ⟨hb, hlc, hmx⟩] at h ⊢
          simp only [Option.map_eq_some_iff, Option.bind_eq_some_iff] at h ⊢
          obtain ⟨elems', he, rest', hr, hx⟩ := h
          have hlen : elems'.length = len := by simpa using mapM_some_length he
          have hrl' : rest'.length = cap - len := by simpa using mapM_some_length hr
          simp only [Prod.mk.injEq, DataW.slice.injEq] at hx
          have one' : ∀ (i : Nat) (y : DataW H × List MemPlace), i < elems'.length + rest'.length → y ∈ elems' ++ rest' →
              (W.cells? 0 (a.add (i * P.cellsOf tT)) (P.cellsOf tT)).bind (DataW.trod enc P W 0 (fun _ => true) true n' tT) = some y → (W'.cells? 0 (a.add (i * P.cellsOf tT)) (P.cellsOf tT)).bind (DataW.trod enc P W' 0 sp true n' tT) = some y := by
            intro i y hi hy hv
            simp only [Option.bind_eq_some_iff] at hv ⊢
            obtain ⟨cs', hc', hy'⟩ := hv
            obtain ⟨_, _, _, hbk⟩ := ihT _ _ hy'
            refine ⟨cs', World.cells?_carry hc' (fun p hpp => hs p ?_), hbk W' sp (fun p hpp => hs p ?_) (fun p hpp => hp p ?_)⟩
            · rw [← hx.2]
              obtain ⟨j, hj, rfl⟩ := MemPlace.mem_row.1 hpp
              simp only [List.mem_append]
              left
              refine MemPlace.mem_row.2 ⟨i * P.cellsOf tT + j, ?_, ?_⟩
              · calc i * P.cellsOf tT + j < i * P.cellsOf tT + P.cellsOf tT := by omega
                  _ = (i + 1) * P.cellsOf tT := by rw [Nat.add_mul, Nat.one_mul]
                  _ ≤ (elems'.length + rest'.length) * P.cellsOf tT := Nat.mul_le_mul_right _ hi
              · unfold Addr.add
                split
                · rename_i h0
                  simp [h0]
                · simp [Nat.add_assoc]
            · rw [← hx.2]
              simp only [List.mem_append, List.mem_flatMap]
              right
              exact ⟨y, by simpa using hy, hpp⟩
            · rw [← hx.2]
              simp only [List.mem_append, List.mem_flatMap]
              right
              exact ⟨y, by simpa using hy, hpp⟩
          refine ⟨elems', mapM_carry he (fun i y hi hy => one' i y (by have : i < len := (by simpa using hi); omega) (by simp [hy])), rest', ?_, by simp only [Prod.mk.injEq, DataW.slice.injEq]; exact hx⟩
          by_cases h0 : 0 < elems.length + rest.length
          · rw [if_pos (hrow h0)]
            exact mapM_carry hr (fun j y hj hy => one' (len + j) y (by have : j < cap - len := (by simpa using hj); omega) (by simp [hy]))
          · have hc0 : cap - len = 0 := by omega
            rw [hc0] at hr ⊢
            simp at hr
            subst hr
            split <;> rfl
end
end Go.Proofs.Ytpbfmaodnihpeaa
end

section
/-
  The last step of every row: from the abstract evaluation of a statement to the model's calls. Own work.
  What is proved: what a statement over terms answers; no condition.
-/
namespace Go.Proofs.Ytpbfmaodnihpeaa
open Go.Av Go.ChangeShapes Go.WideShapes Go.ChangeAt Go.RowKit
set_option maxRecDepth 100000

theorem own_knob : ownKnob Try.prog.godebug = none := by kernel_rfl

theorem term_tys : TermTys Try.prog 24 22 3 9 where
  uT := ⟨_, _, _, _, Try.underlying24, rfl, rfl, rfl, rfl, rfl, rfl, rfl, rfl⟩
  uL := Try.underlying22
  uI := Try.underlying3
  uS := Try.underlying9
  cT := by kernel_rfl
  cL := by kernel_rfl
  cI := by kernel_rfl
  cS := by kernel_rfl
theorem rep_zero {C : Claims} : FrRep C M0 [] #[] := ⟨rfl, fun i c v hc hv => by simp at hc⟩

theorem cfg_ok : CfgOk cfg where
  ty := ⟨fun t ti h => tys_look tys_ok h⟩
  mixed := mixed_ok
  named := fun f fn _ h => by
    have h1 := List.all_eq_true.1 names_ok fn (by
      rw [← Array.getElem?_toList] at h
      exact List.mem_of_getElem? h)
    simpa using h1
  ext := fun f s h args H r H' hr C μ w vs ha hw => by
    have h : extLook f extTab = some s := h
    unfold extTab at h
    rw [extLook] at h
    split at h
    · rename_i e
      have e := Nat.eq_of_beq_eq_true e
      subst e
      cases h
      exact extCmp_sound (P := Try.prog) Try.func107 (by rfl) (by rfl) (by kernel_rfl) (by kernel_rfl) hr ha hw
    · cases h

/-- a statement that answers true of what stands for the arguments, by a call that is handed no blocks: the call, and what lay there lies there -/
theorem row_calls {f : FuncId} {args : List AV} {vs : Array Value} {W : World} (hx : cfg.ext f = none) (he : EVs (EV cfg) f args = some (.bool true)) (ha : FrRep (C0 W) M0 args vs) :
    Calls Try.prog f vs W fun e W' => e = .returned (.bool true) ∧ (∀ b, b < W.heap.size → W'.heap[b]? = W.heap[b]?) ∧ W.heap.size ≤ W'.heap.size ∧ W'.os = W.os ∧ W'.output = W.output := by
  unfold EVs at he
  obtain ⟨q, h1, h2⟩ := Option.map_eq_some_iff.1 he
  have := EV_calls cfg_ok hx (r := q.1) (H' := q.2) h1 ha (wld0 W)
  refine this.mono fun e W' ⟨v, hv, C', μ', p1, p2, p3⟩ => ?_
  rw [h2] at p1
  cases p1
  refine ⟨hv, fun b hb => (p3.fr b hb not_live_nil).1, p3.size, p3.os, p3.output⟩

section
variable {H : Type} {enc : TypeId × Value → H} {P : Program} {W W' : World}

/-- as in the kit's 'post_of_same', what is frozen being asked of the places alone -/
theorem post_same {f : Func} {s : ChangeSpec} {apart fresh handsOn again : Bool} {args : Array Value} {v : Value} {ds gs : List (DataW H)} {before pa pv : List MemPlace}
    (hW : DataW.Whole enc P f.params.toList s.vars apart W args.toList ds gs before)
    (hres : ∀ (b : Nat) (sp : Nat → Bool) (hd : Bool), DataW.TrodAll enc P W' b sp hd f.resultTypes.toList (v.resultList f.resultTypes.size) (s.fn H (ds ++ gs)).results [])
    (hargs : ∀ sp : Nat → Bool, (∀ p ∈ before, sp p.block = true) → DataW.TrodAll enc P W' 0 sp true f.params.toList args.toList (s.fn H (ds ++ gs)).args pa)
    (hvars : ∀ sp : Nat → Bool, (∀ p ∈ before, sp p.block = true) → DataW.TrodVars enc P W' sp s.vars (s.fn H (ds ++ gs)).vars pv)
    (hps : before = pa ++ pv) (hk : W.keptBut W' (· ∈ before)) (hfz : ∀ b o, b < W.heap.size → W'.frozen? ⟨b, o, none⟩ = W.frozen? ⟨b, o, none⟩)
    (hok : ∀ (j : Nat) (t : TypeId) (r : Value), f.resultTypes[j]? = some t → (v.resultList f.resultTypes.size)[j]? = some r → Value.okWide P W' .any 0 t r) :
    s.post enc P f apart fresh handsOn again W args v W' := by
  have hlt := hW.lt
  have hold : ∀ p ∈ before, (fun b => decide (b < W.heap.size)) p.block = true := fun p hp => by simpa using hlt p hp
  refine ⟨ds, gs, before, [], pa, pv, hW, hres _ _ _, hargs _ hold, hvars _ hold, World.keptBut_mono (fun p hp => ⟨hp, ?_⟩) hk, fun _ => ?_⟩
  · rw [hps, List.mem_append] at hp
    exact Or.inr hp
  · obtain ⟨_, _, _, _, _, hz, hn⟩ := hW
    refine ⟨hok, _, _, ([] ++ pa) ++ pv, ⟨[] ++ pa, pv, trodAll_append (hargs _ (fun _ _ => rfl)) (hres _ _ _), hvars _ (fun _ _ => rfl), rfl, ?_, ?_⟩, ?_⟩
    · intro b off hp
      have hp' : MemPlace.cell b off ∈ before := by rw [hps]; simpa using hp
      rw [hfz b off (hlt _ hp')]
      exact hz b off hp'
    · intro ha
      have := hn ha
      rw [hps] at this
      simpa using this
    · intro p hp _
      rw [hps]
      simpa using hp

theorem kept_of_heap (h : ∀ b, b < W.heap.size → W'.heap[b]? = W.heap[b]?) (ho : W'.os = W.os) (hu : W'.output = W.output) (may : MemPlace → Prop) : W.keptBut W' may := by
  refine ⟨ho, hu, fun i hi => ?_⟩
  rw [h i hi]
  cases W.heap[i]? with
  | none => rfl
  | some o => cases o <;> simp

theorem same_of_heap (h : ∀ b, b < W.heap.size → W'.heap[b]? = W.heap[b]?) {p : MemPlace} (hp : p.block < W.heap.size) : W.sameAt W' p := by
  cases p with
  | cell b o => simp only [World.sameAt, World.cell?]; rw [h b hp]
  | map b => exact h b hp

theorem frozen_of_heap (h : ∀ b, b < W.heap.size → W'.heap[b]? = W.heap[b]?) (b o : Nat) (hb : b < W.heap.size) : W'.frozen? ⟨b, o, none⟩ = W.frozen? ⟨b, o, none⟩ := by
  simp only [World.frozen?]; rw [h b hb]

/-- what an argument is, and that it reads the same later -/
structure Opened (enc : TypeId × Value → H) (P : Program) (W : World) (t : TypeId) (v : Value) (d : DataW H) (ps : List MemPlace) (a : AV) : Prop where
  rep : Rep (C0 W) M0 a v
  back : ∀ (W' : World) (sp : Nat → Bool), (∀ p ∈ ps, W.sameAt W' p) → (∀ p ∈ ps, sp p.block = true) → DataW.Trod enc P W' 0 sp true t v d ps

theorem open_term {tT tL tI tS : TypeId} (T : TermTys P tT tL tI tS) {r : Reach} {b0 : Nat} {v : Value} {d : DataW H} {ps : List MemPlace} (hval : Value.okWide P W r b0 tT v) (hd : DataW.Trod enc P W 0 (fun _ => true) true tT v d ps) :
    ∃ t : Tm, Opened enc P W tT v d ps t.av ∧ t.w ≤ Rows.uptoBulk d := by
  obtain ⟨f0, f1, f2, f3, hu, _⟩ := T.uT
  obtain ⟨cs, rfl, hsz⟩ := okWide_struct hu hval
  obtain ⟨n, hn⟩ := hd
  obtain ⟨t, h1, h2, h3⟩ := (open_both T n).1 _ _ hn
  refine ⟨t, ⟨?_, fun W' sp hs hp => ⟨n, h3 W' sp hs hp⟩⟩, h2⟩
  have := Rep.agg (C := C0 W) (μ := M0) t.cells cs.toList (by
    have := h1.1
    cases t with
    | mk k n s l => rw [Tm.cells_mk]; simpa [Value.cells] using this.symm) (fun i a v ha hv => (h1.2 i a v ha (by simpa [Value.cells] using hv)).2)
  simpa [Tm.av] using this

theorem open_terms {tT tL tI tS : TypeId} (T : TermTys P tT tL tI tS) {r : Reach} {b0 : Nat} {v : Value} {d : DataW H} {ps : List MemPlace} (hval : Value.okWide P W r b0 tL v) (hd : DataW.Trod enc P W 0 (fun _ => true) true tL v d ps) :
    ∃ l : List Tm, Opened enc P W tL v d ps (.sl (rowsT l)) ∧ wL l ≤ Rows.uptoBulk d := by
  obtain ⟨a, len, cap, rfl⟩ := okWide_slice T.uL hval
  obtain ⟨n, hn⟩ := hd
  obtain ⟨l, v, h0, h1, h2, h3⟩ := (open_both T n).2 _ _ hn
  have h0 : [Value.slice a len cap] = [v] := by simpa [Value.cells] using h0
  cases h0
  exact ⟨l, ⟨h1, fun W' sp hs hp => ⟨n, h3 W' sp hs hp⟩⟩, h2⟩
end

theorem bulk_of {H : Type} {l : List (DataW H)} (hk : Rows.uptoSmall H l = true) {d : DataW H} (hd : d ∈ l) : Rows.uptoBulk d < 1099511627776 := by
  have h : Rows.uptoBulkAll l ≤ 1048576 := of_decide_eq_true hk
  have := bulk_part hd
  omega
theorem rep_two {C : Claims} {a b : AV} {x y : Value} (h1 : Rep C M0 a x) (h2 : Rep C M0 b y) : FrRep C M0 [a, b] #[x, y] := ⟨rfl, fun i c v hc hv => by
  match i, hc, hv with
  | 0, hc, hv => simp at hc hv; subst hc hv; exact h1
  | 1, hc, hv => simp at hc hv; subst hc hv; exact h2
  | (i + 2), hc, hv => simp at hc⟩
theorem rep_one {C : Claims} {a : AV} {x : Value} (h1 : Rep C M0 a x) : FrRep C M0 [a] #[x] := ⟨rfl, fun i c v hc hv => by
  match i, hc, hv with
  | 0, hc, hv => simp at hc hv; subst hc hv; exact h1
  | (i + 1), hc, hv => simp at hc⟩
theorem rep_three {C : Claims} {a b c : AV} {x y z : Value} (h1 : Rep C M0 a x) (h2 : Rep C M0 b y) (h3 : Rep C M0 c z) : FrRep C M0 [a, b, c] #[x, y, z] := ⟨rfl, fun i c v hc hv => by
  match i, hc, hv with
  | 0, hc, hv => simp at hc hv; subst hc hv; exact h1
  | 1, hc, hv => simp at hc hv; subst hc hv; exact h2
  | 2, hc, hv => simp at hc hv; subst hc hv; exact h3
  | (i + 3), hc, hv => simp at hc⟩
end Go.Proofs.Ytpbfmaodnihpeaa
end

section
/-
  What is left of the functions' evaluation at arguments with variables, printed by a program of ours (resid.py) and checked by the kernel.
  What is proved: each equation as it stands; no condition.
-/
namespace Go.Proofs.Ytpbfmaodnihpeaa
open Go.Av
set_option maxRecDepth 100000
set_option maxHeartbeats 0

noncomputable def Lk6_0 : Den := evC cfg (EV cfg) 6 none (sub (bodyOf Try.f6) [1, 1, 1, 1, 0, 1, 0, 0])
noncomputable def Ak6_0 : Ex × List AV × AH → Option AV := kAft (Cfg.keepOut cfg 6 6) (kRun cfg (EV cfg) (kfN cfg 6) 6 none (kFinS cfg Try.f6.results.toList) ([.block 0, .seq (sub (bodyOf Try.f6) [1, 1, 1, 1, 1])]))
noncomputable def Wk6_0 : List AV × AH → Option AV := fun p => kOpt (LOOP 0 (some [0, 3, 4, 5, 6]) Lk6_0 p) Ak6_0
noncomputable def Lk6_1 : Den := evC cfg (EV cfg) 6 none (sub (bodyOf Try.f6) [1, 1, 1, 1, 0, 1, 0, 0])
noncomputable def Ak6_1 : Ex × List AV × AH → Option AV := kAft (Cfg.keepOut cfg 6 6) (kRun cfg (EV cfg) (kfN cfg 6) 6 none (kFinS cfg Try.f6.results.toList) ([.block 0, .seq (sub (bodyOf Try.f6) [1, 1, 1, 1, 1])]))
noncomputable def Wk6_1 : List AV × AH → Option AV := fun p => kOpt (LOOP 1 (some [0, 3, 4, 5, 6]) Lk6_1 p) Ak6_1
noncomputable def Lk6_2 : Den := evC cfg (EV cfg) 6 none (sub (bodyOf Try.f6) [1, 1, 1, 1, 0, 1, 0, 0])
noncomputable def Ak6_2 : Ex × List AV × AH → Option AV := kAft (Cfg.keepOut cfg 6 6) (kRun cfg (EV cfg) (kfN cfg 6) 6 none (kFinS cfg Try.f6.results.toList) ([.block 0, .seq (sub (bodyOf Try.f6) [1, 1, 1, 1, 1])]))
noncomputable def Wk6_2 : List AV × AH → Option AV := fun p => kOpt (LOOP 2 (some [0, 3, 4, 5, 6]) Lk6_2 p) Ak6_2
noncomputable def Lk32_0 : Den := evC cfg (EV cfg) 32 none (sub (bodyOf Try.f32) [1, 1, 0, 1, 0, 0])
noncomputable def Ak32_0 : Ex × List AV × AH → Option AV := kAft (Cfg.keepOut cfg 32 3) (kRun cfg (EV cfg) (kfN cfg 6) 32 none (kFinS cfg Try.f32.results.toList) ([.block 0, .seq (sub (bodyOf Try.f32) [1, 1, 1])]))
noncomputable def Wk32_0 : List AV × AH → Option AV := fun p => kOpt (LOOP 1 (some [0, 3, 5, 6]) Lk32_0 p) Ak32_0
noncomputable def Lk6_3 : Den := evC cfg (EV cfg) 6 none (sub (bodyOf Try.f6) [1, 1, 1, 1, 1, 0, 1, 0, 0])
noncomputable def Ak6_3 : Ex × List AV × AH → Option AV := kAft (Cfg.keepOut cfg 6 11) (kRun cfg (EV cfg) (kfN cfg 6) 6 none (kFinS cfg Try.f6.results.toList) ([.block 2, .seq (sub (bodyOf Try.f6) [1, 1, 1, 1, 1, 1])]))
noncomputable def Wk6_3 : List AV × AH → Option AV := fun p => kOpt (LOOP 2 (some [0, 3, 4, 5, 7]) Lk6_3 p) Ak6_3
noncomputable def Lk6_4 : Den := evC cfg (EV cfg) 6 none (sub (bodyOf Try.f6) [1, 1, 1, 1, 1, 1, 0, 1, 0, 0])
noncomputable def Ak6_4 : Ex × List AV × AH → Option AV := kAft (Cfg.keepOut cfg 6 16) (kRun cfg (EV cfg) (kfN cfg 6) 6 none (kFinS cfg Try.f6.results.toList) ([.block 4, .seq (sub (bodyOf Try.f6) [1, 1, 1, 1, 1, 1, 1])]))
noncomputable def Wk6_4 : List AV × AH → Option AV := fun p => kOpt (LOOP 2 (some [0, 3, 4, 5, 8]) Lk6_4 p) Ak6_4
noncomputable abbrev wk6_2 (L : List (List AV)) (rs : List (List AV)) (rs1 : List (List AV)) (b : Bool) (na : Nat) (nb : Nat) (i : Int) : Option (AV) := Wk6_2 (((fx 116 [(0, AV.sl L), (3, AV.bool b), (4, AV.ms (0 : Nat) (0 : Nat) na), (5, AV.ms (1 : Nat) (0 : Nat) nb), (6, AV.int IntKind.i64 i)]) : List AV), ([ABlk.rows true (4 : Nat) rs, ABlk.rows true (4 : Nat) rs1] : AH))
noncomputable abbrev wk6_3 (L : List (List AV)) (rs : List (List AV)) (rs1 : List (List AV)) (b : Bool) (na : Nat) (nb : Nat) (i : Int) : Option (AV) := Wk6_3 (((fx 116 [(0, AV.sl L), (3, AV.bool b), (4, AV.ms (0 : Nat) (0 : Nat) na), (5, AV.ms (1 : Nat) (0 : Nat) nb), (7, AV.int IntKind.i64 i)]) : List AV), ([ABlk.rows true (4 : Nat) rs, ABlk.rows true (4 : Nat) rs1] : AH))
noncomputable abbrev wk6_4 (L : List (List AV)) (rs : List (List AV)) (rs1 : List (List AV)) (b : Bool) (na : Nat) (nb : Nat) (i : Int) : Option (AV) := Wk6_4 (((fx 116 [(0, AV.sl L), (3, AV.bool b), (4, AV.ms (0 : Nat) (0 : Nat) na), (5, AV.ms (1 : Nat) (0 : Nat) nb), (8, AV.int IntKind.i64 i)]) : List AV), ([ABlk.rows true (4 : Nat) rs, ABlk.rows true (4 : Nat) rs1] : AH))
noncomputable abbrev wk32_0 (L : List (List AV)) (ki : Int) (n : Int) (s : List UInt8) (B : List (List AV)) (v5 : Int) (v6 : Int) : Option (AV) := Wk32_0 (((fx 22 [(0, AV.sl L), (3, AV.ptr (0 : Nat) (0 : Nat) (0 : Nat)), (5, AV.int IntKind.i64 v5), (6, AV.int IntKind.i64 v6)]) : List AV), ([ABlk.rows false (4 : Nat) [[AV.int IntKind.i64 ki, AV.int IntKind.i64 n, AV.str s, AV.sl B]]] : AH))
theorem ow_run (L : List (List AV)) {P : AV → Prop} (h : Gets (kOpt (EVs (EV cfg) 5 []) fun (v : AV) => kBool v fun (b : Bool) => kOpt (EVs (EV cfg) 19 [.sl L, .int .i64 (300 : Int)]) fun (v : AV) => kBool v fun (b_1 : Bool) => bif b_1 then some 
  (.bool b) else kOpt (EVo (EV cfg) 21 [.sl L]) fun (o : OV) => kOwn o (kOpt (EVo (EV cfg) 22 [.sl L]) fun (o : OV) => kOwn o (Wk6_0 ((fx 116 [(0, .sl L), (3, .bool b), (4, .nilS), (5, 
  .nilS), (6, .int .i64 (1 : Int))]), [])) fun (sz : Nat) (rs : List (List AV)) (off len : Nat) => Wk6_1 ((fx 116 [(0, .sl L), (3, .bool b), (4, .nilS), (5, .ms 0 off len), (6, .int .i64 
  (1 : Int))]), [.rows true sz rs])) fun (sz : Nat) (rs : List (List AV)) (off len : Nat) => kOpt (EVo (EV cfg) 22 [.sl L]) fun (o : OV) => kOwn o (Wk6_1 ((fx 116 [(0, .sl L), (3, .bool 
  b), (4, .ms 0 off len), (5, .nilS), (6, .int .i64 (1 : Int))]), [.rows true sz rs])) fun (sz_1 : Nat) (rs_1 : List (List AV)) (off_1 len_1 : Nat) => Wk6_2 ((fx 116 [(0, .sl L), (3, 
  .bool b), (4, .ms 0 off len), (5, .ms 1 off_1 len_1), (6, .int .i64 (1 : Int))]), [.rows true sz rs, .rows true sz_1 rs_1])) P) : Gets (EVs (EV cfg) 6 ([AV.sl L] : List AV)) P :=
  Gets.ev (fun _ h => funS rfl rfl Try.func6 rfl h) (Gets.eq (by kernel_rfl) h)
theorem wk6_2_step (L : List (List AV)) (rs : List (List AV)) (rs1 : List (List AV)) (b : Bool) (na : Nat) (nb : Nat) (i : Int) {P : AV → Prop} (h : Gets (bif decide (i < (↑na : Int)) then bif leInt (0 : Int) (IntKind.wrap .i64 (i - (1 : Int))) && ltInt (IntKind.wrap .i64 (i - (1 : Int))) (↑na : Int) then kOpt (List.get?Internal rs (0 
  + Int.toNat (IntKind.wrap .i64 (i - (1 : Int))))) fun (row : List AV) => bif Nat.ble 4 (List.length row) then kTmC (List.take 4 row) fun (n n_1 : Int) (s : List UInt8) (rows : List 
  (List AV)) => (bif leInt (0 : Int) i && ltInt i (↑na : Int) then kOpt (List.get?Internal rs (0 + Int.toNat i)) fun (row : List AV) => bif Nat.ble 4 (List.length row) then kTmC (List.take 
  4 row) fun (n_2 n_3 : Int) (s_1 : List UInt8) (rows_1 : List (List AV)) => (kOpt (EVs (EV cfg) 15 [.agg [.int .i64 n, .int .i64 n_1, .str s, .sl rows], .agg [.int .i64 n_2, .int .i64 
  n_3, .str s_1, .sl rows_1]]) fun (v : AV) => kInt .i64 v fun (n : Int) => bif decide (n > (0 : Int)) then some (.bool false) else wk6_2 L rs rs1 b na nb (IntKind.wrap .i64 (i + (1 : 
  Int)))) else none else none) else none else none else wk6_3 L rs rs1 b na nb (1 : Int)) P) : Gets (wk6_2 L rs rs1 b na nb i) P :=
  Gets.ev (fun _ h => loop_step (cfg := cfg) (f := 6) (rd := none) h) (Gets.eq (by kernel_rfl) h)
theorem wk6_3_step (L : List (List AV)) (rs : List (List AV)) (rs1 : List (List AV)) (b : Bool) (na : Nat) (nb : Nat) (i : Int) {P : AV → Prop} (h : Gets (bif decide (i < (↑nb : Int)) then bif leInt (0 : Int) (IntKind.wrap .i64 (i - (1 : Int))) && ltInt (IntKind.wrap .i64 (i - (1 : Int))) (↑nb : Int) then kOpt (List.get?Internal rs1 (0 
  + Int.toNat (IntKind.wrap .i64 (i - (1 : Int))))) fun (row : List AV) => bif Nat.ble 4 (List.length row) then kTmC (List.take 4 row) fun (n n_1 : Int) (s : List UInt8) (rows : List 
  (List AV)) => (bif leInt (0 : Int) i && ltInt i (↑nb : Int) then kOpt (List.get?Internal rs1 (0 + Int.toNat i)) fun (row : List AV) => bif Nat.ble 4 (List.length row) then kTmC (List.take 
  4 row) fun (n_2 n_3 : Int) (s_1 : List UInt8) (rows_1 : List (List AV)) => (kOpt (EVs (EV cfg) 15 [.agg [.int .i64 n, .int .i64 n_1, .str s, .sl rows], .agg [.int .i64 n_2, .int .i64 
  n_3, .str s_1, .sl rows_1]]) fun (v : AV) => kInt .i64 v fun (n : Int) => bif decide (n ≥ (0 : Int)) then some (.bool false) else wk6_3 L rs rs1 b na nb (IntKind.wrap .i64 (i + (1 : 
  Int)))) else none else none) else none else none else wk6_4 L rs rs1 b na nb (0 : Int)) P) : Gets (wk6_3 L rs rs1 b na nb i) P :=
  Gets.ev (fun _ h => loop_step (cfg := cfg) (f := 6) (rd := none) h) (Gets.eq (by kernel_rfl) h)
theorem wk6_4_step (L : List (List AV)) (rs : List (List AV)) (rs1 : List (List AV)) (b : Bool) (na : Nat) (nb : Nat) (i : Int) {P : AV → Prop} (h : Gets (bif decide (i < (↑(List.length L) : Int)) then bif leInt (0 : Int) i && ltInt i (↑(List.length L) : Int) then kOpt (List.get?Internal L (Int.toNat i)) fun (row : List AV) => bif Nat.beq 
  (List.length row) 4 then bif Nat.ble 4 (List.length row) then kTmC (List.take 4 row) fun (n n_1 : Int) (s : List UInt8) (rows : List (List AV)) => (bif Nat.ble (0 + na) (List.length 
  rs) && true then kOpt (EVs (EV cfg) 32 [.sl (List.take na rs), .agg [.int .i64 n, .int .i64 n_1, .str s, .sl rows]]) fun (v : AV) => kInt .i64 v fun (n : Int) => bif leInt (0 : Int) 
  i && ltInt i (↑(List.length L) : Int) then kOpt (List.get?Internal L (Int.toNat i)) fun (row : List AV) => bif Nat.beq (List.length row) 4 then bif Nat.ble 4 (List.length row) then 
  kTmC (List.take 4 row) fun (n_2 n_3 : Int) (s : List UInt8) (rows : List (List AV)) => (kOpt (EVs (EV cfg) 32 [.sl L, .agg [.int .i64 n_2, .int .i64 n_3, .str s, .sl rows]]) fun (v 
  : AV) => kInt .i64 v fun (n_4 : Int) => bif n != n_4 then some (.bool false) else bif leInt (0 : Int) i && ltInt i (↑(List.length L) : Int) then kOpt (List.get?Internal L (Int.toNat 
  i)) fun (row : List AV) => bif Nat.beq (List.length row) 4 then bif Nat.ble 4 (List.length row) then kTmC (List.take 4 row) fun (n n_5 : Int) (s : List UInt8) (rows : List (List AV)) 
  => (bif Nat.ble (0 + nb) (List.length rs1) && true then kOpt (EVs (EV cfg) 26 [.sl (List.take nb rs1), .agg [.int .i64 n, .int .i64 n_5, .str s, .sl rows]]) fun (v : AV) => kTup v fun 
  (cs : List AV) => kCons cs fun (c : AV) (cs : List AV) => kInt .i64 c fun (n : Int) => kCons cs fun (c : AV) (cs : List AV) => kBool c fun (b_1 : Bool) => kNil cs (bif !b_1 then some 
  (.bool false) else bif decide (n ≥ (↑nb : Int)) then some (.bool false) else bif leInt (0 : Int) n && ltInt n (↑nb : Int) then kOpt (List.get?Internal rs1 (0 + Int.toNat n)) fun (row 
  : List AV) => bif Nat.ble 4 (List.length row) then kTmC (List.take 4 row) fun (n n_6 : Int) (s : List UInt8) (rows : List (List AV)) => (bif leInt (0 : Int) i && ltInt i (↑(List.length 
  L) : Int) then kOpt (List.get?Internal L (Int.toNat i)) fun (row : List AV) => bif Nat.beq (List.length row) 4 then bif Nat.ble 4 (List.length row) then kTmC (List.take 4 row) fun (n_7 
  n_8 : Int) (s_1 : List UInt8) (rows_1 : List (List AV)) => (kOpt (EVs (EV cfg) 15 [AV.agg [.int .i64 n, .int .i64 n_6, .str s, .sl rows], AV.agg [.int .i64 n_7, .int .i64 n_8, .str 
  s_1, .sl rows_1]]) fun (v : AV) => kInt .i64 v fun (n : Int) => bif n != (0 : Int) then some (.bool false) else wk6_4 L rs rs1 b na nb (IntKind.wrap .i64 (i + (1 : Int)))) else none 
  else none else none) else none else none) else none) else none else none else none) else none else none else none else none) else none else none else none else bif b then bif (↑na : 
  Int) == (↑(List.length L) : Int) then some (.bool (decide ((↑nb : Int) ≤ (↑(List.length L) : Int)))) else some (.bool false) else some (.bool false)) P) : Gets (wk6_4 L rs rs1 b na nb i) P :=
  Gets.ev (fun _ h => loop_step (cfg := cfg) (f := 6) (rd := none) h) (Gets.eq (by kernel_rfl) h)
theorem cnt_run (L : List (List AV)) (ki : Int) (n : Int) (s : List UInt8) (B : List (List AV)) {P : AV → Prop} (h : Gets (wk32_0 L ki n s B (0 : Int) (0 : Int)) P) : Gets (EVs (EV cfg) 32 ([AV.sl L, AV.agg [AV.int IntKind.i64 ki, AV.int IntKind.i64 n, AV.str s, AV.sl B]] : List AV)) P :=
  Gets.ev (fun _ h => funS rfl rfl Try.func32 rfl h) (Gets.eq (by kernel_rfl) h)
theorem wk32_0_step (L : List (List AV)) (ki : Int) (n : Int) (s : List UInt8) (B : List (List AV)) (v5 : Int) (v6 : Int) {P : AV → Prop} (h : Gets (bif decide (v6 < (↑(List.length L) : Int)) then bif leInt (0 : Int) v6 && ltInt v6 (↑(List.length L) : Int) then kOpt (List.get?Internal L (Int.toNat v6)) fun (row : List AV) => bif 
  Nat.beq (List.length row) 4 then bif Nat.ble 4 (List.length row) then kTmC (List.take 4 row) fun (n_1 n_2 : Int) (s_1 : List UInt8) (rows : List (List AV)) => (kOpt (EVs (EV cfg) 17 
  [.agg [.int .i64 n_1, .int .i64 n_2, .str s_1, .sl rows], .agg [.int .i64 ki, .int .i64 n, .str s, .sl B]]) fun (v : AV) => kBool v fun (b : Bool) => bif b then wk32_0 L ki n s B (IntKind.wrap 
  .i64 (v5 + (1 : Int))) (IntKind.wrap .i64 (v6 + (1 : Int))) else wk32_0 L ki n s B v5 (IntKind.wrap .i64 (v6 + (1 : Int)))) else none else none else none else some (.int .i64 v5)) P) : Gets (wk32_0 L ki n s B v5 v6) P :=
  Gets.ev (fun _ h => loop_step (cfg := cfg) (f := 32) (rd := none) h) (Gets.eq (by kernel_rfl) h)
end Go.Proofs.Ytpbfmaodnihpeaa
end

section
/-
  What is left of the functions' evaluation at arguments with variables, printed by a program of ours (resid.py) and checked by the kernel.
  What is proved: each equation as it stands; no condition.
-/
namespace Go.Proofs.Ytpbfmaodnihpeaa
open Go.Av
set_option maxRecDepth 100000
set_option maxHeartbeats 0

noncomputable def Le71_0 : Den := evC cfg (EV cfg) 71 none (sub (bodyOf Try.f71) [1, 1, 0, 1, 0, 0])
noncomputable def Ae71_0 : Ex × List AV × AH → Option (MV × List (List AV)) := kAft (Cfg.keepOut cfg 71 4) (kRun cfg (EV cfg) (kfN cfg 6) 71 none (kFinM cfg 4 Try.f71.results.toList) ([.block 0, .seq (sub (bodyOf Try.f71) [1, 1, 1])]))
noncomputable def We71_0 : List AV × AH → Option (MV × List (List AV)) := fun p => kOpt (LOOP 1 (some [0, 1, 5]) Le71_0 p) Ae71_0
noncomputable def Le24_0 : Den := evC cfg (EV cfg) 24 none (sub (bodyOf Try.f24) [1, 1, 0, 1, 0, 0])
noncomputable def Ae24_0 : Ex × List AV × AH → Option AV := kAft (Cfg.keepOut cfg 24 3) (kRun cfg (EV cfg) (kfN cfg 6) 24 none (kFinF cfg Try.f24.results.toList) ([.block 0, .seq (sub (bodyOf Try.f24) [1, 1, 1])]))
noncomputable def We24_0 : List AV × AH → Option AV := fun p => kOpt (LOOP 0 (some [0, 3, 4]) Le24_0 p) Ae24_0
noncomputable def Le25_0 : Den := evC cfg (EV cfg) 25 none (sub (bodyOf Try.f25) [1, 1, 1, 0, 1, 0, 0])
noncomputable def Ae25_0 : Ex × List AV × AH → Option AV := kAft (Cfg.keepOut cfg 25 4) (kRun cfg (EV cfg) (kfN cfg 6) 25 none (kFinF cfg Try.f25.results.toList) ([.block 0, .seq (sub (bodyOf Try.f25) [1, 1, 1, 1])]))
noncomputable def We25_0 : List AV × AH → Option AV := fun p => kOpt (LOOP 0 (some [3, 4, 5]) Le25_0 p) Ae25_0
noncomputable def Je4_0 : List AV × AH → Option AV := fun p => kOpt (CUT p) fun p => kCode cfg (EV cfg) (kfN cfg 6) 4 none (sub (bodyOf Try.f4) [1, 1]) p.1 p.2 (kRun cfg (EV cfg) (kfN cfg 6) 4 none (kFinS cfg Try.f4.results.toList) ([]))
noncomputable def Je5_0 : List AV × AH → Option AV := fun p => kOpt (CUT p) fun p => kCode cfg (EV cfg) (kfN cfg 6) 5 none (sub (bodyOf Try.f5) [1, 1]) p.1 p.2 (kRun cfg (EV cfg) (kfN cfg 6) 5 none (kFinS cfg Try.f5.results.toList) ([]))
noncomputable def Le32_0 : Den := evC cfg (EV cfg) 32 none (sub (bodyOf Try.f32) [1, 1, 0, 1, 0, 0])
noncomputable def Ae32_0 : Ex × List AV × AH → Option AV := kAft (Cfg.keepOut cfg 32 3) (kRun cfg (EV cfg) (kfN cfg 6) 32 none (kFinS cfg Try.f32.results.toList) ([.block 0, .seq (sub (bodyOf Try.f32) [1, 1, 1])]))
noncomputable def We32_0 : List AV × AH → Option AV := fun p => kOpt (LOOP 1 (some [0, 3, 5, 6]) Le32_0 p) Ae32_0
noncomputable def Le71_1 : Den := evC cfg (EV cfg) 71 none (sub (bodyOf Try.f71) [1, 1, 0, 1, 0, 0, 1, 0, 0, 1, 0, 1, 0, 1, 0, 0])
noncomputable def Ae71_1 : Ex × List AV × AH → Option (MV × List (List AV)) := kAft (Cfg.keepOut cfg 71 9) (kRun cfg (EV cfg) (kfN cfg 6) 71 none (kLp 1 (some [0, 1, 5]) Le71_0 Ae71_0) ([.block 2, .seq (sub (bodyOf Try.f71) [1, 1, 0, 1, 0, 0, 1, 0, 0, 1, 0, 1, 1]), .block 1, .seq (sub (bodyOf Try.f71) [1, 1, 0, 1, 0, 0, 1, 1])]))
noncomputable def We71_1 : List AV × AH → Option (MV × List (List AV)) := fun p => kOpt (LOOP 1 (some [0, 1, 5, 6, 7]) Le71_1 p) Ae71_1
noncomputable def Le24_1 : Den := evC cfg (EV cfg) 24 none (sub (bodyOf Try.f24) [1, 1, 0, 1, 0, 0, 1, 0, 0, 1, 0, 0, 0])
noncomputable def Ae24_1 : Ex × List AV × AH → Option AV := kAft (Cfg.keepOut cfg 24 6) (kRun cfg (EV cfg) (kfN cfg 6) 24 none (kLp 0 (some [0, 3, 4]) Le24_0 Ae24_0) ([.block 2, .seq (sub (bodyOf Try.f24) [1, 1, 0, 1, 0, 0, 1, 0, 0, 1, 1]), .block 1, .seq (sub (bodyOf Try.f24) [1, 1, 0, 1, 0, 0, 1, 1])]))
noncomputable def We24_1 : List AV × AH → Option AV := fun p => kOpt (LOOP 0 (some [0, 3, 4, 5]) Le24_1 p) Ae24_1
noncomputable def Le24_2 : Den := evC cfg (EV cfg) 24 none (sub (bodyOf Try.f24) [1, 1, 0, 1, 0, 0, 1, 0, 0, 1, 0, 0, 0])
noncomputable def Ae24_2 : Ex × List AV × AH → Option AV := kAft (Cfg.keepOut cfg 24 6) (kRun cfg (EV cfg) (kfN cfg 6) 24 none (kLp 0 (some [0, 3, 4]) Le24_0 Ae24_0) ([.block 2, .seq (sub (bodyOf Try.f24) [1, 1, 0, 1, 0, 0, 1, 0, 0, 1, 1]), .block 1, .seq (sub (bodyOf Try.f24) [1, 1, 0, 1, 0, 0, 1, 1])]))
noncomputable def We24_2 : List AV × AH → Option AV := fun p => kOpt (LOOP 1 (some [0, 3, 4, 5]) Le24_2 p) Ae24_2
noncomputable def Je4_1 : List AV × AH → Option AV := fun p => kOpt (CUT p) fun p => kCode cfg (EV cfg) (kfN cfg 6) 4 none (sub (bodyOf Try.f4) [1, 1, 1]) p.1 p.2 (kRun cfg (EV cfg) (kfN cfg 6) 4 none (kFinS cfg Try.f4.results.toList) ([]))
noncomputable def Je5_1 : List AV × AH → Option AV := fun p => kOpt (CUT p) fun p => kCode cfg (EV cfg) (kfN cfg 6) 5 none (sub (bodyOf Try.f5) [1, 1, 1]) p.1 p.2 (kRun cfg (EV cfg) (kfN cfg 6) 5 none (kFinS cfg Try.f5.results.toList) ([]))
noncomputable def Je4_2 : List AV × AH → Option AV := fun p => kOpt (CUT p) fun p => kCode cfg (EV cfg) (kfN cfg 6) 4 none (sub (bodyOf Try.f4) [1, 1, 1, 1]) p.1 p.2 (kRun cfg (EV cfg) (kfN cfg 6) 4 none (kFinS cfg Try.f4.results.toList) ([]))
noncomputable def Je5_2 : List AV × AH → Option AV := fun p => kOpt (CUT p) fun p => kCode cfg (EV cfg) (kfN cfg 6) 5 none (sub (bodyOf Try.f5) [1, 1, 1, 1]) p.1 p.2 (kRun cfg (EV cfg) (kfN cfg 6) 5 none (kFinS cfg Try.f5.results.toList) ([]))
noncomputable def Je4_3 : List AV × AH → Option AV := fun p => kOpt (CUT p) fun p => kCode cfg (EV cfg) (kfN cfg 6) 4 none (sub (bodyOf Try.f4) [1, 1, 1, 1, 1]) p.1 p.2 (kRun cfg (EV cfg) (kfN cfg 6) 4 none (kFinS cfg Try.f4.results.toList) ([]))
noncomputable def Je5_3 : List AV × AH → Option AV := fun p => kOpt (CUT p) fun p => kCode cfg (EV cfg) (kfN cfg 6) 5 none (sub (bodyOf Try.f5) [1, 1, 1, 1, 1]) p.1 p.2 (kRun cfg (EV cfg) (kfN cfg 6) 5 none (kFinS cfg Try.f5.results.toList) ([]))
noncomputable def Je4_4 : List AV × AH → Option AV := fun p => kOpt (CUT p) fun p => kCode cfg (EV cfg) (kfN cfg 6) 4 none (sub (bodyOf Try.f4) [1, 1, 1, 1, 1, 1]) p.1 p.2 (kRun cfg (EV cfg) (kfN cfg 6) 4 none (kFinS cfg Try.f4.results.toList) ([]))
noncomputable def Je5_4 : List AV × AH → Option AV := fun p => kOpt (CUT p) fun p => kCode cfg (EV cfg) (kfN cfg 6) 5 none (sub (bodyOf Try.f5) [1, 1, 1, 1, 1, 1]) p.1 p.2 (kRun cfg (EV cfg) (kfN cfg 6) 5 none (kFinS cfg Try.f5.results.toList) ([]))
noncomputable def Je4_5 : List AV × AH → Option AV := fun p => kOpt (CUT p) fun p => kCode cfg (EV cfg) (kfN cfg 6) 4 none (sub (bodyOf Try.f4) [1, 1, 1, 1, 1, 1, 1]) p.1 p.2 (kRun cfg (EV cfg) (kfN cfg 6) 4 none (kFinS cfg Try.f4.results.toList) ([]))
noncomputable def Je4_6 : List AV × AH → Option AV := fun p => kOpt (CUT p) fun p => kCode cfg (EV cfg) (kfN cfg 6) 4 none (sub (bodyOf Try.f4) [1, 1, 1, 1, 1, 1, 1, 1]) p.1 p.2 (kRun cfg (EV cfg) (kfN cfg 6) 4 none (kFinS cfg Try.f4.results.toList) ([]))
noncomputable abbrev we71_0 (rs : List (List AV)) (off : Nat) (n : Nat) (v5 : Int) : Option (MV × List (List AV)) := We71_0 (((fx 66 [(0, AV.ms (0 : Nat) off n), (1, AV.fn (Fn.func (72 : Nat)) [] []), (5, AV.int IntKind.i64 v5)]) : List AV), ([ABlk.rows true (4 : Nat) rs] : AH))
noncomputable abbrev we71_1 (rs : List (List AV)) (a : Nat) (b : Nat) (off : Nat) (n : Nat) (v5 : Int) (v7 : Int) : Option (MV × List (List AV)) := We71_1 (((fx 66 [(0, AV.ms (0 : Nat) off n), (1, AV.fn (Fn.func (72 : Nat)) [] []), (5, AV.int IntKind.i64 v5), (6, AV.ms (0 : Nat) a b), (7, AV.int IntKind.i64 v7)]) : List AV), ([ABlk.rows true (4 : Nat) rs] : AH))
noncomputable abbrev we24_0 (L : List (List AV)) (v4 : Int) : Option (AV) := We24_0 (((fx 50 [(0, AV.sl L), (3, AV.nilS), (4, AV.int IntKind.i64 v4)]) : List AV), ([] : AH))
noncomputable abbrev we24_0m (rs : List (List AV)) (k : Nat) (L : List (List AV)) (v4 : Int) : Option (AV) := We24_0 (((fx 50 [(0, AV.sl L), (3, AV.ms (0 : Nat) (0 : Nat) k), (4, AV.int IntKind.i64 v4)]) : List AV), ([ABlk.rows true (4 : Nat) rs] : AH))
noncomputable abbrev we24_1 (L : List (List AV)) (v4 : Int) (v5 : Int) : Option (AV) := We24_1 (((fx 50 [(0, AV.sl L), (3, AV.nilS), (4, AV.int IntKind.i64 v4), (5, AV.int IntKind.i64 v5)]) : List AV), ([] : AH))
noncomputable abbrev we24_1m (rs : List (List AV)) (k : Nat) (L : List (List AV)) (v4 : Int) (v5 : Int) : Option (AV) := We24_2 (((fx 50 [(0, AV.sl L), (3, AV.ms (0 : Nat) (0 : Nat) k), (4, AV.int IntKind.i64 v4), (5, AV.int IntKind.i64 v5)]) : List AV), ([ABlk.rows true (4 : Nat) rs] : AH))
noncomputable abbrev we25_0 (R : List (List AV)) (v5 : Int) : Option (AV) := We25_0 (((fx 37 [(3, AV.sl R), (4, AV.nilS), (5, AV.int IntKind.i64 v5)]) : List AV), ([] : AH))
noncomputable abbrev we25_0m (R : List (List AV)) (rs : List (List AV)) (k : Nat) (v5 : Int) : Option (AV) := We25_0 (((fx 37 [(3, AV.sl R), (4, AV.ms (0 : Nat) (0 : Nat) k), (5, AV.int IntKind.i64 v5)]) : List AV), ([ABlk.rows true (4 : Nat) rs] : AH))
noncomputable abbrev j4_0 (ki : Int) (n : Int) (s : List UInt8) (B : List (List AV)) (v0 : List (List AV)) : Option (AV) := Je4_0 (((fx 80 [(0, AV.sl v0), (3, AV.ptr (0 : Nat) (0 : Nat) (0 : Nat))]) : List AV), ([ABlk.rows false (4 : Nat) [[AV.int IntKind.i64 ki, AV.int IntKind.i64 n, AV.str s, AV.sl B]]] : AH))
noncomputable abbrev j4_1n (ki : Int) (n : Int) (s : List UInt8) (B : List (List AV)) (v0 : List (List AV)) : Option (AV) := Je4_1 (((fx 80 [(0, AV.sl v0), (3, AV.ptr (0 : Nat) (0 : Nat) (0 : Nat)), (5, AV.nilS)]) : List AV), ([ABlk.rows false (4 : Nat) [[AV.int IntKind.i64 ki, AV.int IntKind.i64 n, AV.str s, AV.sl B]]] : AH))
noncomputable abbrev j4_1 (ki : Int) (n : Int) (s : List UInt8) (B : List (List AV)) (v0 : List (List AV)) (o5 : Nat) (n5 : Nat) (h1 : List (List AV)) : Option (AV) := Je4_1 (((fx 80 [(0, AV.sl v0), (3, AV.ptr (0 : Nat) (0 : Nat) (0 : Nat)), (5, AV.ms (1 : Nat) o5 n5)]) : List AV), ([ABlk.rows false (4 : Nat) [[AV.int IntKind.i64 ki, AV.int IntKind.i64 n, AV.str s, AV.sl B]], ABlk.rows true (4 : Nat) h1] : AH))
noncomputable abbrev j4_2n (ki : Int) (n : Int) (s : List UInt8) (B : List (List AV)) (v0 : List (List AV)) : Option (AV) := Je4_2 (((fx 80 [(0, AV.sl v0), (3, AV.ptr (0 : Nat) (0 : Nat) (0 : Nat)), (5, AV.nilS), (6, AV.nilS), (7, AV.nilS)]) : List AV), ([ABlk.rows false (4 : Nat) [[AV.int IntKind.i64 ki, AV.int IntKind.i64 n, AV.str s, AV.sl B]]] : AH))
noncomputable abbrev j4_2 (ki : Int) (n : Int) (s : List UInt8) (B : List (List AV)) (v0 : List (List AV)) (o5 : Nat) (n5 : Nat) (o6 : Nat) (n6 : Nat) (o7 : Nat) (n7 : Nat) (h1 : List (List AV)) (h2 : List (List AV)) (h3 : List (List AV)) : Option (AV) := Je4_2 (((fx 80 [(0, AV.sl v0), (3, AV.ptr (0 : Nat) (0 : Nat) (0 : Nat)), (5, AV.ms (1 : Nat) o5 n5), (6, AV.ms (2 : Nat) o6 n6), (7, AV.ms (3 : Nat) o7 n7)]) : List AV), ([ABlk.rows false (4 : Nat) [[AV.int IntKind.i64 ki, AV.int IntKind.i64 n, AV.str s, AV.sl B]], ABlk.froz true (4 : Nat) h1, ABlk.rows true (4 : Nat) h2, ABlk.rows true (4 : Nat) h3] : AH))
noncomputable abbrev j4_3n (ki : Int) (n : Int) (s : List UInt8) (B : List (List AV)) (v0 : List (List AV)) : Option (AV) := Je4_3 (((fx 80 [(0, AV.sl v0), (3, AV.ptr (0 : Nat) (0 : Nat) (0 : Nat)), (5, AV.nilS), (6, AV.nilS), (7, AV.nilS)]) : List AV), ([ABlk.rows false (4 : Nat) [[AV.int IntKind.i64 ki, AV.int IntKind.i64 n, AV.str s, AV.sl B]]] : AH))
noncomputable abbrev j4_3 (ki : Int) (n : Int) (s : List UInt8) (B : List (List AV)) (v0 : List (List AV)) (o5 : Nat) (n5 : Nat) (o6 : Nat) (n6 : Nat) (o7 : Nat) (n7 : Nat) (h1 : List (List AV)) (h2 : List (List AV)) (h3 : List (List AV)) : Option (AV) := Je4_3 (((fx 80 [(0, AV.sl v0), (3, AV.ptr (0 : Nat) (0 : Nat) (0 : Nat)), (5, AV.ms (1 : Nat) o5 n5), (6, AV.ms (2 : Nat) o6 n6), (7, AV.ms (3 : Nat) o7 n7)]) : List AV), ([ABlk.rows false (4 : Nat) [[AV.int IntKind.i64 ki, AV.int IntKind.i64 n, AV.str s, AV.sl B]], ABlk.froz true (4 : Nat) h1, ABlk.rows true (4 : Nat) h2, ABlk.rows true (4 : Nat) h3] : AH))
noncomputable abbrev j4_4n (ki : Int) (n : Int) (s : List UInt8) (B : List (List AV)) (v0 : List (List AV)) (v8 : Int) (v9 : Bool) : Option (AV) := Je4_4 (((fx 80 [(0, AV.sl v0), (3, AV.ptr (0 : Nat) (0 : Nat) (0 : Nat)), (5, AV.nilS), (6, AV.nilS), (7, AV.nilS), (8, AV.int IntKind.i64 v8), (9, AV.bool v9)]) : List AV), ([ABlk.rows false (4 : Nat) [[AV.int IntKind.i64 ki, AV.int IntKind.i64 n, AV.str s, AV.sl B]]] : AH))
noncomputable abbrev j4_4 (ki : Int) (n : Int) (s : List UInt8) (B : List (List AV)) (v0 : List (List AV)) (o5 : Nat) (n5 : Nat) (o6 : Nat) (n6 : Nat) (o7 : Nat) (n7 : Nat) (v8 : Int) (v9 : Bool) (h1 : List (List AV)) (h2 : List (List AV)) (h3 : List (List AV)) : Option (AV) := Je4_4 (((fx 80 [(0, AV.sl v0), (3, AV.ptr (0 : Nat) (0 : Nat) (0 : Nat)), (5, AV.ms (1 : Nat) o5 n5), (6, AV.ms (2 : Nat) o6 n6), (7, AV.ms (3 : Nat) o7 n7), (8, AV.int IntKind.i64 v8), (9, AV.bool v9)]) : List AV), ([ABlk.rows false (4 : Nat) [[AV.int IntKind.i64 ki, AV.int IntKind.i64 n, AV.str s, AV.sl B]], ABlk.froz true (4 : Nat) h1, ABlk.rows true (4 : Nat) h2, ABlk.rows true (4 : Nat) h3] : AH))
noncomputable abbrev j4_5n (ki : Int) (n : Int) (s : List UInt8) (B : List (List AV)) (v0 : List (List AV)) (v8 : Int) (v9 : Bool) (v10 : Int) (v11 : Bool) : Option (AV) := Je4_5 (((fx 80 [(0, AV.sl v0), (5, AV.nilS), (6, AV.nilS), (7, AV.nilS), (8, AV.int IntKind.i64 v8), (9, AV.bool v9), (10, AV.int IntKind.i64 v10), (11, AV.bool v11)]) : List AV), ([ABlk.rows false (4 : Nat) [[AV.int IntKind.i64 ki, AV.int IntKind.i64 n, AV.str s, AV.sl B]]] : AH))
noncomputable abbrev j4_5 (ki : Int) (n : Int) (s : List UInt8) (B : List (List AV)) (v0 : List (List AV)) (o5 : Nat) (n5 : Nat) (o6 : Nat) (n6 : Nat) (o7 : Nat) (n7 : Nat) (v8 : Int) (v9 : Bool) (v10 : Int) (v11 : Bool) (h1 : List (List AV)) (h2 : List (List AV)) (h3 : List (List AV)) : Option (AV) := Je4_5 (((fx 80 [(0, AV.sl v0), (5, AV.ms (1 : Nat) o5 n5), (6, AV.ms (2 : Nat) o6 n6), (7, AV.ms (3 : Nat) o7 n7), (8, AV.int IntKind.i64 v8), (9, AV.bool v9), (10, AV.int IntKind.i64 v10), (11, AV.bool v11)]) : List AV), ([ABlk.rows false (4 : Nat) [[AV.int IntKind.i64 ki, AV.int IntKind.i64 n, AV.str s, AV.sl B]], ABlk.froz true (4 : Nat) h1, ABlk.rows true (4 : Nat) h2, ABlk.rows true (4 : Nat) h3] : AH))
noncomputable abbrev j4_6n (ki : Int) (n : Int) (s : List UInt8) (B : List (List AV)) (v0 : List (List AV)) (v8 : Int) (v9 : Bool) (v10 : Int) (v11 : Bool) : Option (AV) := Je4_6 (((fx 80 [(0, AV.sl v0), (5, AV.nilS), (8, AV.int IntKind.i64 v8), (9, AV.bool v9), (10, AV.int IntKind.i64 v10), (11, AV.bool v11)]) : List AV), ([ABlk.rows false (4 : Nat) [[AV.int IntKind.i64 ki, AV.int IntKind.i64 n, AV.str s, AV.sl B]]] : AH))
noncomputable abbrev j4_6 (ki : Int) (n : Int) (s : List UInt8) (B : List (List AV)) (v0 : List (List AV)) (o5 : Nat) (n5 : Nat) (v8 : Int) (v9 : Bool) (v10 : Int) (v11 : Bool) (h1 : List (List AV)) (h2 : List (List AV)) (h3 : List (List AV)) : Option (AV) := Je4_6 (((fx 80 [(0, AV.sl v0), (5, AV.ms (1 : Nat) o5 n5), (8, AV.int IntKind.i64 v8), (9, AV.bool v9), (10, AV.int IntKind.i64 v10), (11, AV.bool v11)]) : List AV), ([ABlk.rows false (4 : Nat) [[AV.int IntKind.i64 ki, AV.int IntKind.i64 n, AV.str s, AV.sl B]], ABlk.froz true (4 : Nat) h1, ABlk.rows true (4 : Nat) h2, ABlk.rows true (4 : Nat) h3] : AH))
noncomputable abbrev j5_0 (v1 : Bool) (h0 : List (List AV)) (h1 : List (List AV)) (h2 : List (List AV)) (h3 : List (List AV)) (h4 : List (List AV)) : Option (AV) := Je5_0 (((fx 114 [(1, AV.bool v1)]) : List AV), ([ABlk.froz true (4 : Nat) h0, ABlk.froz true (4 : Nat) h1, ABlk.froz true (4 : Nat) h2, ABlk.froz true (4 : Nat) h3, ABlk.froz true (4 : Nat) h4] : AH))
noncomputable abbrev j5_1 (v1 : Bool) (o2 : Nat) (n2 : Nat) (h0 : List (List AV)) (h1 : List (List AV)) (h2 : List (List AV)) (h3 : List (List AV)) (h4 : List (List AV)) (h5 : List (List AV)) (h6 : List (List AV)) : Option (AV) := Je5_1 (((fx 114 [(1, AV.bool v1), (2, AV.ms (6 : Nat) o2 n2)]) : List AV), ([ABlk.froz true (4 : Nat) h0, ABlk.froz true (4 : Nat) h1, ABlk.froz true (4 : Nat) h2, ABlk.froz true (4 : Nat) h3, ABlk.froz true (4 : Nat) h4, ABlk.froz true (4 : Nat) h5, ABlk.rows true (4 : Nat) h6] : AH))
noncomputable abbrev j5_2 (h6 : List (List AV)) (v1 : Bool) (o2 : Nat) (n2 : Nat) (o3 : Nat) (n3 : Nat) (h0 : List (List AV)) (h1 : List (List AV)) (h2 : List (List AV)) (h3 : List (List AV)) (h4 : List (List AV)) (h5 : List (List AV)) (h7 : List (List AV)) (h8 : List (List AV)) : Option (AV) := Je5_2 (((fx 114 [(1, AV.bool v1), (2, AV.ms (6 : Nat) o2 n2), (3, AV.ms (8 : Nat) o3 n3)]) : List AV), ([ABlk.froz true (4 : Nat) h0, ABlk.froz true (4 : Nat) h1, ABlk.froz true (4 : Nat) h2, ABlk.froz true (4 : Nat) h3, ABlk.froz true (4 : Nat) h4, ABlk.froz true (4 : Nat) h5, ABlk.rows true (4 : Nat) h6, ABlk.froz true (4 : Nat) h7, ABlk.rows true (4 : Nat) h8] : AH))
noncomputable abbrev j5_3 (h6 : List (List AV)) (h8 : List (List AV)) (v1 : Bool) (o2 : Nat) (n2 : Nat) (o3 : Nat) (n3 : Nat) (v4 : Int) (v5 : Bool) (h0 : List (List AV)) (h1 : List (List AV)) (h2 : List (List AV)) (h3 : List (List AV)) (h4 : List (List AV)) (h5 : List (List AV)) (h7 : List (List AV)) (h9 : List (List AV)) : Option (AV) := Je5_3 (((fx 114 [(1, AV.bool v1), (2, AV.ms (6 : Nat) o2 n2), (3, AV.ms (8 : Nat) o3 n3), (4, AV.int IntKind.i64 v4), (5, AV.bool v5)]) : List AV), ([ABlk.froz true (4 : Nat) h0, ABlk.froz true (4 : Nat) h1, ABlk.froz true (4 : Nat) h2, ABlk.froz true (4 : Nat) h3, ABlk.froz true (4 : Nat) h4, ABlk.froz true (4 : Nat) h5, ABlk.rows true (4 : Nat) h6, ABlk.froz true (4 : Nat) h7, ABlk.rows true (4 : Nat) h8, ABlk.rows true (4 : Nat) h9] : AH))
noncomputable abbrev j5_4 (h6 : List (List AV)) (h8 : List (List AV)) (h9 : List (List AV)) (v1 : Bool) (o2 : Nat) (n2 : Nat) (o3 : Nat) (n3 : Nat) (v4 : Int) (v5 : Bool) (v6 : Int) (v7 : Bool) (h0 : List (List AV)) (h1 : List (List AV)) (h2 : List (List AV)) (h3 : List (List AV)) (h4 : List (List AV)) (h5 : List (List AV)) (h7 : List (List AV)) (h10 : List (List AV)) : Option (AV) := Je5_4 (((fx 114 [(1, AV.bool v1), (2, AV.ms (6 : Nat) o2 n2), (3, AV.ms (8 : Nat) o3 n3), (4, AV.int IntKind.i64 v4), (5, AV.bool v5), (6, AV.int IntKind.i64 v6), (7, AV.bool v7)]) : List AV), ([ABlk.froz true (4 : Nat) h0, ABlk.froz true (4 : Nat) h1, ABlk.froz true (4 : Nat) h2, ABlk.froz true (4 : Nat) h3, ABlk.froz true (4 : Nat) h4, ABlk.froz true (4 : Nat) h5, ABlk.rows true (4 : Nat) h6, ABlk.froz true (4 : Nat) h7, ABlk.rows true (4 : Nat) h8, ABlk.rows true (4 : Nat) h9, ABlk.rows true (4 : Nat) h10] : AH))
noncomputable abbrev we32_0 (L : List (List AV)) (ki : Int) (n : Int) (s : List UInt8) (B : List (List AV)) (v5 : Int) (v6 : Int) : Option (AV) := We32_0 (((fx 22 [(0, AV.sl L), (3, AV.ptr (0 : Nat) (0 : Nat) (0 : Nat)), (5, AV.int IntKind.i64 v5), (6, AV.int IntKind.i64 v6)]) : List AV), ([ABlk.rows false (4 : Nat) [[AV.int IntKind.i64 ki, AV.int IntKind.i64 n, AV.str s, AV.sl B]]] : AH))
theorem f71e_run (off : Nat) (n : Nat) (rs : List (List AV)) {P : MV × List (List AV) → Prop} (h : Gets (bif decide ((↑n : Int) < (2 : Int)) then some (MV.sl off n, rs) else we71_0 rs off n (1 : Int)) P) : Gets (EVm (EV cfg) 71 ([AV.ms (0 : Nat) off n, AV.fn (Fn.func (72 : Nat)) [] []] : List AV) 4 rs) P :=
  Gets.ev (fun _ h => funM rfl rfl Try.func71 rfl h) (Gets.eq (by kernel_rfl) h)
theorem f71n_run  {P : MV → Prop} (h : Gets (some MV.nil) P) : Gets (EVu (EV cfg) 71 ([AV.nilS, AV.fn (Fn.func (72 : Nat)) [] []] : List AV)) P :=
  Gets.ev (fun _ h => funU rfl rfl Try.func71 rfl h) (Gets.eq (by kernel_rfl) h)
theorem we71_0_step (rs : List (List AV)) (off : Nat) (n : Nat) (v5 : Int) {P : MV × List (List AV) → Prop} (h : Gets (bif decide (v5 < (↑n : Int)) then bif leInt (0 : Int) v5 && ltInt v5 (↑n : Int) then kOpt (List.get?Internal rs (off + Int.toNat v5)) fun (row : List AV) => bif Nat.ble 4 (List.length 
  row) then kTmC (List.take 4 row) fun (n_1 n_2 : Int) (s : List UInt8) (rows : List (List AV)) => (bif leInt (0 : Int) (IntKind.wrap .i64 (v5 - (1 : Int))) && ltInt (IntKind.wrap .i64 
  (v5 - (1 : Int))) (↑n : Int) then kOpt (List.get?Internal rs (off + Int.toNat (IntKind.wrap .i64 (v5 - (1 : Int))))) fun (row : List AV) => bif Nat.ble 4 (List.length row) then kTmC 
  (List.take 4 row) fun (n_3 n_4 : Int) (s_1 : List UInt8) (rows_1 : List (List AV)) => (kOpt (EVs (EV cfg) 72 [.agg [.int .i64 n_1, .int .i64 n_2, .str s, .sl rows], .agg [.int .i64 
  n_3, .int .i64 n_4, .str s_1, .sl rows_1]]) fun (v : AV) => kBool v fun (b : Bool) => bif b then bif leInt (0 : Int) v5 && leInt v5 (↑n : Int) then we71_1 rs (off + Int.toNat v5) (n 
  - Int.toNat v5) off n v5 (1 : Int) else none else we71_0 rs off n (IntKind.wrap .i64 (v5 + (1 : Int)))) else none else none) else none else none else some (MV.sl off n, rs)) P) : Gets (we71_0 rs off n v5) P :=
  Gets.ev (fun _ h => loop_step (cfg := cfg) (f := 71) (rd := none) h) (Gets.eq (by kernel_rfl) h)
theorem we71_1_step (rs : List (List AV)) (a : Nat) (b : Nat) (off : Nat) (n : Nat) (v5 : Int) (v7 : Int) {P : MV × List (List AV) → Prop} (h : Gets (bif decide (v7 < (↑b : Int)) then bif leInt (0 : Int) v7 && ltInt v7 (↑b : Int) then kOpt (List.get?Internal rs (a + Int.toNat v7)) fun (row : List AV) => bif Nat.ble 4 (List.length 
  row) then kTmC (List.take 4 row) fun (n_1 n_2 : Int) (s : List UInt8) (rows : List (List AV)) => (bif leInt (0 : Int) (IntKind.wrap .i64 (v7 - (1 : Int))) && ltInt (IntKind.wrap .i64 
  (v7 - (1 : Int))) (↑b : Int) then kOpt (List.get?Internal rs (a + Int.toNat (IntKind.wrap .i64 (v7 - (1 : Int))))) fun (row : List AV) => bif Nat.ble 4 (List.length row) then kTmC (List.take 
  4 row) fun (n_3 n_4 : Int) (s_1 : List UInt8) (rows_1 : List (List AV)) => (kOpt (EVs (EV cfg) 72 [.agg [.int .i64 n_1, .int .i64 n_2, .str s, .sl rows], .agg [.int .i64 n_3, .int .i64 
  n_4, .str s_1, .sl rows_1]]) fun (v : AV) => kBool v fun (b_1 : Bool) => bif !b_1 then bif leInt (0 : Int) v7 && ltInt v7 (↑b : Int) then kOpt (List.get?Internal rs (a + Int.toNat v7)) 
  fun (row : List AV) => bif Nat.ble 4 (List.length row) then kTmC (List.take 4 row) fun (n_5 n_6 : Int) (s : List UInt8) (rows : List (List AV)) => (bif leInt (0 : Int) v5 && ltInt v5 
  (↑n : Int) then kOpt (List.get?Internal rs (off + Int.toNat v5)) fun (row : List AV) => bif Nat.ble 4 (List.length row) then we71_1 (List.set rs (off + Int.toNat v5) (.int .i64 n_5 
  :: .int .i64 n_6 :: .str s :: .sl rows :: List.drop 4 row)) a b off n (IntKind.wrap .i64 (v5 + (1 : Int))) (IntKind.wrap .i64 (v7 + (1 : Int))) else none else none) else none else none 
  else we71_1 rs a b off n v5 (IntKind.wrap .i64 (v7 + (1 : Int)))) else none else none) else none else none else bif leInt (0 : Int) v5 && leInt v5 (↑n : Int) then bif Nat.ble (off + 
  Int.toNat v5 + (n - Int.toNat v5)) (List.length rs) then bif leInt (0 : Int) v5 && leInt v5 (↑n : Int) then some (MV.sl (off + 0) (Int.toNat v5 - 0), List.append (List.append (List.take 
  (off + Int.toNat v5) rs) (List.replicate (n - Int.toNat v5) [.int .i64 (0 : Int), .int .i64 (0 : Int), .str [], .nilS])) (List.drop (off + Int.toNat v5 + (n - Int.toNat v5)) rs)) else 
  none else none else none) P) : Gets (we71_1 rs a b off n v5 v7) P :=
  Gets.ev (fun _ h => loop_step (cfg := cfg) (f := 71) (rd := none) h) (Gets.eq (by kernel_rfl) h)
theorem f24e_run (L : List (List AV)) {P : AV → Prop} (h : Gets (we24_0 L (0 : Int)) P) : Gets (EVf (EV cfg) 24 ([AV.sl L] : List AV)) P :=
  Gets.ev (fun _ h => funF rfl rfl Try.func24 rfl h) (Gets.eq (by kernel_rfl) h)
theorem we24_0_step (L : List (List AV)) (v4 : Int) {P : AV → Prop} (h : Gets (bif decide (v4 < (↑(List.length L) : Int)) then we24_1 L v4 (0 : Int) else some (.sl [])) P) : Gets (we24_0 L v4) P :=
  Gets.ev (fun _ h => loop_step (cfg := cfg) (f := 24) (rd := none) h) (Gets.eq (by kernel_rfl) h)
theorem we24_0m_step (rs : List (List AV)) (k : Nat) (L : List (List AV)) (v4 : Int) {P : AV → Prop} (h : Gets (bif decide (v4 < (↑(List.length L) : Int)) then we24_1m rs k L v4 (↑k : Int) else bif Nat.ble (0 + k) (List.length rs) && true then some (.sl (List.take k rs)) else none) P) : Gets (we24_0m rs k L v4) P :=
  Gets.ev (fun _ h => loop_step (cfg := cfg) (f := 24) (rd := none) h) (Gets.eq (by kernel_rfl) h)
theorem we24_1_step (L : List (List AV)) (v4 : Int) (v5 : Int) {P : AV → Prop} (h : Gets (bif decide (v5 > (0 : Int)) then none else bif leInt (0 : Int) v5 && leInt v5 (0 : Int) then bif leInt (0 : Int) v4 && ltInt v4 (↑(List.length L) : Int) then kOpt (List.get?Internal 
  L (Int.toNat v4)) fun (row : List AV) => bif Nat.beq (List.length row) 4 then bif Nat.ble 4 (List.length row) then kTmC (List.take 4 row) fun (n n_1 : Int) (s : List UInt8) (rows : 
  List (List AV)) => (bif fitsIn 1 56 then bif leInt (0 : Int) v5 && leInt v5 (0 : Int) then bif true then we24_0m [[.int .i64 n, .int .i64 n_1, .str s, .sl rows]] 1 L (IntKind.wrap .i64 
  (v4 + (1 : Int))) else none else none else none) else none else none else none else none) P) : Gets (we24_1 L v4 v5) P :=
  Gets.ev (fun _ h => loop_step (cfg := cfg) (f := 24) (rd := none) h) (Gets.eq (by kernel_rfl) h)
theorem we24_1m_step (rs : List (List AV)) (k : Nat) (L : List (List AV)) (v4 : Int) (v5 : Int) {P : AV → Prop} (h : Gets (bif decide (v5 > (0 : Int)) then bif leInt (0 : Int) (IntKind.wrap .i64 (v5 - (1 : Int))) && ltInt (IntKind.wrap .i64 (v5 - (1 : Int))) (↑k : Int) then kOpt (List.get?Internal rs (0 
  + Int.toNat (IntKind.wrap .i64 (v5 - (1 : Int))))) fun (row : List AV) => bif Nat.ble 4 (List.length row) then kTmC (List.take 4 row) fun (n n_1 : Int) (s : List UInt8) (rows : List 
  (List AV)) => (bif leInt (0 : Int) v4 && ltInt v4 (↑(List.length L) : Int) then kOpt (List.get?Internal L (Int.toNat v4)) fun (row : List AV) => bif Nat.beq (List.length row) 4 then 
  bif Nat.ble 4 (List.length row) then kTmC (List.take 4 row) fun (n_2 n_3 : Int) (s_1 : List UInt8) (rows_1 : List (List AV)) => (kOpt (EVs (EV cfg) 16 [.agg [.int .i64 n, .int .i64 
  n_1, .str s, .sl rows], .agg [.int .i64 n_2, .int .i64 n_3, .str s_1, .sl rows_1]]) fun (v : AV) => kInt .i64 v fun (n : Int) => bif decide (n > (0 : Int)) then we24_1m rs k L v4 (IntKind.wrap 
  .i64 (v5 - (1 : Int))) else bif leInt (0 : Int) v5 && leInt v5 (↑k : Int) then bif Nat.ble (0 + (Int.toNat v5 - 0)) (List.length rs) then bif fitsIn (0 + List.length (List.take (Int.toNat 
  v5 - 0) rs)) 56 then bif leInt (0 : Int) v4 && ltInt v4 (↑(List.length L) : Int) then kOpt (List.get?Internal L (Int.toNat v4)) fun (row : List AV) => bif Nat.beq (List.length row) 
  4 then bif Nat.ble 4 (List.length row) then kTmC (List.take 4 row) fun (n n_4 : Int) (s : List UInt8) (rows : List (List AV)) => (bif Nat.ble (0 + (0 + List.length (List.take (Int.toNat 
  v5 - 0) rs))) (List.length (List.take (Int.toNat v5 - 0) rs)) && fitsIn (0 + List.length (List.take (Int.toNat v5 - 0) rs) + 1) 56 then bif leInt (0 : Int) v5 && leInt v5 (↑k : Int) 
  then bif Nat.ble (0 + Int.toNat v5 + (k - Int.toNat v5)) (List.length rs) then bif Nat.ble (0 + (0 + List.length (List.take (Int.toNat v5 - 0) rs) + 1)) (List.length (List.append (List.take 
  (0 + List.length (List.take (Int.toNat v5 - 0) rs)) (List.take (Int.toNat v5 - 0) rs)) [[.int .i64 n, .int .i64 n_4, .str s, .sl rows]])) && fitsIn (0 + List.length (List.take (Int.toNat 
  v5 - 0) rs) + 1 + List.length (List.take (k - Int.toNat v5) (List.drop (0 + Int.toNat v5) rs))) 56 then we24_0m (List.append (List.take (0 + List.length (List.take (Int.toNat v5 - 0) 
  rs) + 1) (List.append (List.take (0 + List.length (List.take (Int.toNat v5 - 0) rs)) (List.take (Int.toNat v5 - 0) rs)) [[.int .i64 n, .int .i64 n_4, .str s, .sl rows]])) (List.take 
  (k - Int.toNat v5) (List.drop (0 + Int.toNat v5) rs))) (0 + List.length (List.take (Int.toNat v5 - 0) rs) + 1 + List.length (List.take (k - Int.toNat v5) (List.drop (0 + Int.toNat v5) 
  rs))) L (IntKind.wrap .i64 (v4 + (1 : Int))) else none else none else none else none) else none else none else none else none else none else none) else none else none else none) else 
  none else none else bif leInt (0 : Int) v5 && leInt v5 (↑k : Int) then bif Nat.ble (0 + (Int.toNat v5 - 0)) (List.length rs) then bif fitsIn (0 + List.length (List.take (Int.toNat v5 
  - 0) rs)) 56 then bif leInt (0 : Int) v4 && ltInt v4 (↑(List.length L) : Int) then kOpt (List.get?Internal L (Int.toNat v4)) fun (row : List AV) => bif Nat.beq (List.length row) 4 then 
  bif Nat.ble 4 (List.length row) then kTmC (List.take 4 row) fun (n n_1 : Int) (s : List UInt8) (rows : List (List AV)) => (bif Nat.ble (0 + (0 + List.length (List.take (Int.toNat v5 
  - 0) rs))) (List.length (List.take (Int.toNat v5 - 0) rs)) && fitsIn (0 + List.length (List.take (Int.toNat v5 - 0) rs) + 1) 56 then bif leInt (0 : Int) v5 && leInt v5 (↑k : Int) then 
  bif Nat.ble (0 + Int.toNat v5 + (k - Int.toNat v5)) (List.length rs) then bif Nat.ble (0 + (0 + List.length (List.take (Int.toNat v5 - 0) rs) + 1)) (List.length (List.append (List.take 
  (0 + List.length (List.take (Int.toNat v5 - 0) rs)) (List.take (Int.toNat v5 - 0) rs)) [[.int .i64 n, .int .i64 n_1, .str s, .sl rows]])) && fitsIn (0 + List.length (List.take (Int.toNat 
  v5 - 0) rs) + 1 + List.length (List.take (k - Int.toNat v5) (List.drop (0 + Int.toNat v5) rs))) 56 then we24_0m (List.append (List.take (0 + List.length (List.take (Int.toNat v5 - 0) 
  rs) + 1) (List.append (List.take (0 + List.length (List.take (Int.toNat v5 - 0) rs)) (List.take (Int.toNat v5 - 0) rs)) [[.int .i64 n, .int .i64 n_1, .str s, .sl rows]])) (List.take 
  (k - Int.toNat v5) (List.drop (0 + Int.toNat v5) rs))) (0 + List.length (List.take (Int.toNat v5 - 0) rs) + 1 + List.length (List.take (k - Int.toNat v5) (List.drop (0 + Int.toNat v5) 
  rs))) L (IntKind.wrap .i64 (v4 + (1 : Int))) else none else none else none else none) else none else none else none else none else none else none) P) : Gets (we24_1m rs k L v4 v5) P :=
  Gets.ev (fun _ h => loop_step (cfg := cfg) (f := 24) (rd := none) h) (Gets.eq (by kernel_rfl) h)
theorem f25e_run (L : List (List AV)) {P : AV → Prop} (h : Gets (kOpt (EVf (EV cfg) 24 [.sl L]) fun (v : AV) => kSl v fun (rows : List (List AV)) => we25_0 rows (0 : Int)) P) : Gets (EVf (EV cfg) 25 ([AV.sl L] : List AV)) P :=
  Gets.ev (fun _ h => funF rfl rfl Try.func25 rfl h) (Gets.eq (by kernel_rfl) h)
theorem we25_0_step (R : List (List AV)) (v5 : Int) {P : AV → Prop} (h : Gets (bif decide (v5 < (↑(List.length R) : Int)) then bif v5 == (0 : Int) then bif leInt (0 : Int) v5 && ltInt v5 (↑(List.length R) : Int) then kOpt (List.get?Internal R (Int.toNat v5)) fun 
  (row : List AV) => bif Nat.beq (List.length row) 4 then bif Nat.ble 4 (List.length row) then kTmC (List.take 4 row) fun (n n_1 : Int) (s : List UInt8) (rows : List (List AV)) => (bif 
  fitsIn 1 56 then we25_0m R [[.int .i64 n, .int .i64 n_1, .str s, .sl rows]] 1 (IntKind.wrap .i64 (v5 + (1 : Int))) else none) else none else none else none else bif leInt (0 : Int) 
  (IntKind.wrap .i64 (v5 - (1 : Int))) && ltInt (IntKind.wrap .i64 (v5 - (1 : Int))) (↑(List.length R) : Int) then kOpt (List.get?Internal R (Int.toNat (IntKind.wrap .i64 (v5 - (1 : Int))))) 
  fun (row : List AV) => bif Nat.beq (List.length row) 4 then bif Nat.ble 4 (List.length row) then kTmC (List.take 4 row) fun (n n_1 : Int) (s : List UInt8) (rows : List (List AV)) => 
  (bif leInt (0 : Int) v5 && ltInt v5 (↑(List.length R) : Int) then kOpt (List.get?Internal R (Int.toNat v5)) fun (row : List AV) => bif Nat.beq (List.length row) 4 then bif Nat.ble 4 
  (List.length row) then kTmC (List.take 4 row) fun (n_2 n_3 : Int) (s_1 : List UInt8) (rows_1 : List (List AV)) => (kOpt (EVs (EV cfg) 16 [.agg [.int .i64 n, .int .i64 n_1, .str s, .sl 
  rows], .agg [.int .i64 n_2, .int .i64 n_3, .str s_1, .sl rows_1]]) fun (v : AV) => kInt .i64 v fun (n : Int) => bif n != (0 : Int) then bif leInt (0 : Int) v5 && ltInt v5 (↑(List.length 
  R) : Int) then kOpt (List.get?Internal R (Int.toNat v5)) fun (row : List AV) => bif Nat.beq (List.length row) 4 then bif Nat.ble 4 (List.length row) then kTmC (List.take 4 row) fun 
  (n n_4 : Int) (s : List UInt8) (rows : List (List AV)) => (bif fitsIn 1 56 then we25_0m R [[.int .i64 n, .int .i64 n_4, .str s, .sl rows]] 1 (IntKind.wrap .i64 (v5 + (1 : Int))) else 
  none) else none else none else none else we25_0 R (IntKind.wrap .i64 (v5 + (1 : Int)))) else none else none else none) else none else none else none else some (.sl [])) P) : Gets (we25_0 R v5) P :=
  Gets.ev (fun _ h => loop_step (cfg := cfg) (f := 25) (rd := none) h) (Gets.eq (by kernel_rfl) h)
theorem we25_0m_step (R : List (List AV)) (rs : List (List AV)) (k : Nat) (v5 : Int) {P : AV → Prop} (h : Gets (bif decide (v5 < (↑(List.length R) : Int)) then bif v5 == (0 : Int) then bif leInt (0 : Int) v5 && ltInt v5 (↑(List.length R) : Int) then kOpt (List.get?Internal R (Int.toNat v5)) fun 
  (row : List AV) => bif Nat.beq (List.length row) 4 then bif Nat.ble 4 (List.length row) then kTmC (List.take 4 row) fun (n n_1 : Int) (s : List UInt8) (rows : List (List AV)) => (bif 
  Nat.ble (0 + k) (List.length rs) && fitsIn (k + 1) 56 then we25_0m R (List.append (List.take k rs) [[.int .i64 n, .int .i64 n_1, .str s, .sl rows]]) (k + 1) (IntKind.wrap .i64 (v5 + 
  (1 : Int))) else none) else none else none else none else bif leInt (0 : Int) (IntKind.wrap .i64 (v5 - (1 : Int))) && ltInt (IntKind.wrap .i64 (v5 - (1 : Int))) (↑(List.length R) : 
  Int) then kOpt (List.get?Internal R (Int.toNat (IntKind.wrap .i64 (v5 - (1 : Int))))) fun (row : List AV) => bif Nat.beq (List.length row) 4 then bif Nat.ble 4 (List.length row) then 
  kTmC (List.take 4 row) fun (n n_1 : Int) (s : List UInt8) (rows : List (List AV)) => (bif leInt (0 : Int) v5 && ltInt v5 (↑(List.length R) : Int) then kOpt (List.get?Internal R (Int.toNat 
  v5)) fun (row : List AV) => bif Nat.beq (List.length row) 4 then bif Nat.ble 4 (List.length row) then kTmC (List.take 4 row) fun (n_2 n_3 : Int) (s_1 : List UInt8) (rows_1 : List (List 
  AV)) => (kOpt (EVs (EV cfg) 16 [.agg [.int .i64 n, .int .i64 n_1, .str s, .sl rows], .agg [.int .i64 n_2, .int .i64 n_3, .str s_1, .sl rows_1]]) fun (v : AV) => kInt .i64 v fun (n : 
  Int) => bif n != (0 : Int) then bif leInt (0 : Int) v5 && ltInt v5 (↑(List.length R) : Int) then kOpt (List.get?Internal R (Int.toNat v5)) fun (row : List AV) => bif Nat.beq (List.length 
  row) 4 then bif Nat.ble 4 (List.length row) then kTmC (List.take 4 row) fun (n n_4 : Int) (s : List UInt8) (rows : List (List AV)) => (bif Nat.ble (0 + k) (List.length rs) && fitsIn 
  (k + 1) 56 then we25_0m R (List.append (List.take k rs) [[.int .i64 n, .int .i64 n_4, .str s, .sl rows]]) (k + 1) (IntKind.wrap .i64 (v5 + (1 : Int))) else none) else none else none 
  else none else we25_0m R rs k (IntKind.wrap .i64 (v5 + (1 : Int)))) else none else none else none) else none else none else none else bif Nat.ble (0 + k) (List.length rs) && true then 
  some (.sl (List.take k rs)) else none) P) : Gets (we25_0m R rs k v5) P :=
  Gets.ev (fun _ h => loop_step (cfg := cfg) (f := 25) (rd := none) h) (Gets.eq (by kernel_rfl) h)
theorem f22_run (A : List (List AV)) {P : OV → Prop} (h : Gets (kOpt (EVo (EV cfg) 21 [.sl A]) fun (o : OV) => kOwn o (kOpt (EVu (EV cfg) 71 [.nilS, AV.fn (Fn.func 72) [] []]) fun (v : MV) => kMSl v (kOpt (EVu (EV cfg) 70 [.nilS]) fun (v : MV) => 
  kMSl v (some OV.nil) fun (off len : Nat) => none) fun (off len : Nat) => none) fun (sz : Nat) (rs : List (List AV)) (off len : Nat) => kOpt (EVm (EV cfg) 71 [.ms 0 off len, AV.fn (Fn.func 
  72) [] []] sz rs) fun (q : MV × List (List AV)) => kMSl q.1 (kOpt (EVu (EV cfg) 70 [.nilS]) fun (v : MV) => kMSl v (some OV.nil) fun (off len : Nat) => some (OV.own sz q.2 off len)) 
  fun (off len : Nat) => kOpt (EVm (EV cfg) 70 [.ms 0 off len] sz q.2) fun (q : MV × List (List AV)) => kMSl q.1 (some OV.nil) fun (off len : Nat) => some (OV.own sz q.2 off len)) P) : Gets (EVo (EV cfg) 22 ([AV.sl A] : List AV)) P :=
  Gets.ev (fun _ h => funO rfl rfl Try.func22 rfl h) (Gets.eq (by kernel_rfl) h)
theorem f22n_run  {P : OV → Prop} (h : Gets (kOpt (EVo (EV cfg) 21 [.nilS]) fun (o : OV) => kOwn o (kOpt (EVu (EV cfg) 71 [.nilS, AV.fn (Fn.func 72) [] []]) fun (v : MV) => kMSl v (kOpt (EVu (EV cfg) 70 [.nilS]) fun (v : MV) => 
  kMSl v (some OV.nil) fun (off len : Nat) => none) fun (off len : Nat) => none) fun (sz : Nat) (rs : List (List AV)) (off len : Nat) => kOpt (EVm (EV cfg) 71 [.ms 0 off len, AV.fn (Fn.func 
  72) [] []] sz rs) fun (q : MV × List (List AV)) => kMSl q.1 (kOpt (EVu (EV cfg) 70 [.nilS]) fun (v : MV) => kMSl v (some OV.nil) fun (off len : Nat) => some (OV.own sz q.2 off len)) 
  fun (off len : Nat) => kOpt (EVm (EV cfg) 70 [.ms 0 off len] sz q.2) fun (q : MV × List (List AV)) => kMSl q.1 (some OV.nil) fun (off len : Nat) => some (OV.own sz q.2 off len)) P) : Gets (EVo (EV cfg) 22 ([AV.nilS] : List AV)) P :=
  Gets.ev (fun _ h => funO rfl rfl Try.func22 rfl h) (Gets.eq (by kernel_rfl) h)
theorem f22e_run  {P : OV → Prop} (h : Gets (kOpt (EVo (EV cfg) 21 [AV.em]) fun (o : OV) => kOwn o (kOpt (EVu (EV cfg) 71 [.nilS, AV.fn (Fn.func 72) [] []]) fun (v : MV) => kMSl v (kOpt (EVu (EV cfg) 70 [.nilS]) fun (v : MV) => 
  kMSl v (some OV.nil) fun (off len : Nat) => none) fun (off len : Nat) => none) fun (sz : Nat) (rs : List (List AV)) (off len : Nat) => kOpt (EVm (EV cfg) 71 [.ms 0 off len, AV.fn (Fn.func 
  72) [] []] sz rs) fun (q : MV × List (List AV)) => kMSl q.1 (kOpt (EVu (EV cfg) 70 [.nilS]) fun (v : MV) => kMSl v (some OV.nil) fun (off len : Nat) => some (OV.own sz q.2 off len)) 
  fun (off len : Nat) => kOpt (EVm (EV cfg) 70 [.ms 0 off len] sz q.2) fun (q : MV × List (List AV)) => kMSl q.1 (some OV.nil) fun (off len : Nat) => some (OV.own sz q.2 off len)) P) : Gets (EVo (EV cfg) 22 ([AV.em] : List AV)) P :=
  Gets.ev (fun _ h => funO rfl rfl Try.func22 rfl h) (Gets.eq (by kernel_rfl) h)
theorem f4_run (L : List (List AV)) (ki : Int) (n : Int) (s : List UInt8) (B : List (List AV)) {P : AV → Prop} (h : Gets (kOpt (EVs (EV cfg) 19 [.sl L, .int .i64 (400 : Int)]) fun (v : AV) => kBool v fun (b : Bool) => bif b then some (.bool true) else kOpt (EVs (EV cfg) 13 [.agg [.int .i64 ki, .int .i64 
  n, .str s, .sl B], .int .i64 (400 : Int)]) fun (v : AV) => kBool v fun (b : Bool) => bif b then some (.bool true) else j4_0 ki n s B L) P) : Gets (EVs (EV cfg) 4 ([AV.sl L, AV.agg [AV.int IntKind.i64 ki, AV.int IntKind.i64 n, AV.str s, AV.sl B]] : List AV)) P :=
  Gets.ev (fun _ h => funS rfl rfl Try.func4 rfl h) (Gets.eq (by kernel_rfl) h)
theorem j4_0_step (ki : Int) (n : Int) (s : List UInt8) (B : List (List AV)) (v0 : List (List AV)) {P : AV → Prop} (h : Gets (kOpt (EVo (EV cfg) 20 [.sl v0]) fun (o : OV) => kOwn o (j4_1n ki n s B v0) fun (sz : Nat) (rs : List (List AV)) (off len : Nat) => Je4_1 ((fx 80 [(0, .sl v0), (3, .ptr 0 0 0), (5, .ms 
  1 off len)]), [.rows false 4 [[.int .i64 ki, .int .i64 n, .str s, .sl B]], .rows true sz rs])) P) : Gets (j4_0 ki n s B v0) P :=
  Gets.ev (fun _ h => cut_step h) (Gets.eq (by kernel_rfl) h)
theorem j4_1n_step (ki : Int) (n : Int) (s : List UInt8) (B : List (List AV)) (v0 : List (List AV)) {P : AV → Prop} (h : Gets (kOpt (EVo (EV cfg) 21 [.nilS]) fun (o : OV) => kOwn o (kOpt (EVo (EV cfg) 22 [.nilS]) fun (o : OV) => kOwn o (j4_2n ki n s B v0) fun (sz : Nat) (rs : List (List AV)) (off len : Nat) 
  => Je4_2 ((fx 80 [(0, .sl v0), (3, .ptr 0 0 0), (5, .nilS), (6, .nilS), (7, .ms 1 off len)]), [.rows false 4 [[.int .i64 ki, .int .i64 n, .str s, .sl B]], .rows true sz rs])) fun (sz 
  : Nat) (rs : List (List AV)) (off len : Nat) => kOpt (EVo (EV cfg) 22 [.nilS]) fun (o : OV) => kOwn o (Je4_2 ((fx 80 [(0, .sl v0), (3, .ptr 0 0 0), (5, .nilS), (6, .ms 1 off len), (7, 
  .nilS)]), [.rows false 4 [[.int .i64 ki, .int .i64 n, .str s, .sl B]], .rows true sz rs])) fun (sz_1 : Nat) (rs_1 : List (List AV)) (off_1 len_1 : Nat) => Je4_2 ((fx 80 [(0, .sl v0), 
  (3, .ptr 0 0 0), (5, .nilS), (6, .ms 1 off len), (7, .ms 2 off_1 len_1)]), [.rows false 4 [[.int .i64 ki, .int .i64 n, .str s, .sl B]], .rows true sz rs, .rows true sz_1 rs_1])) P) : Gets (j4_1n ki n s B v0) P :=
  Gets.ev (fun _ h => cut_step h) (Gets.eq (by kernel_rfl) h)
theorem j4_1_step (ki : Int) (n : Int) (s : List UInt8) (B : List (List AV)) (v0 : List (List AV)) (o5 : Nat) (n5 : Nat) (h1 : List (List AV)) {P : AV → Prop} (h : Gets (bif Nat.ble (o5 + n5) (List.length h1) && true then kOpt (EVo (EV cfg) 21 [.sl (List.take n5 (List.drop o5 h1))]) fun (o : OV) => kOwn o (bif Nat.ble (o5 + n5) (List.length h1) && true 
  then kOpt (EVo (EV cfg) 22 [.sl (List.take n5 (List.drop o5 h1))]) fun (o : OV) => kOwn o (Je4_2 ((fx 80 [(0, .sl v0), (3, .ptr 0 0 0), (5, .ms 1 o5 n5), (6, .nilS), (7, .nilS)]), [.rows 
  false 4 [[.int .i64 ki, .int .i64 n, .str s, .sl B]], ABlk.froz true 4 h1])) fun (sz : Nat) (rs : List (List AV)) (off len : Nat) => Je4_2 ((fx 80 [(0, .sl v0), (3, .ptr 0 0 0), (5, 
  .ms 1 o5 n5), (6, .nilS), (7, .ms 2 off len)]), [.rows false 4 [[.int .i64 ki, .int .i64 n, .str s, .sl B]], ABlk.froz true 4 h1, .rows true sz rs]) else none) fun (sz : Nat) (rs : 
  List (List AV)) (off len : Nat) => bif Nat.ble (o5 + n5) (List.length h1) && true then kOpt (EVo (EV cfg) 22 [.sl (List.take n5 (List.drop o5 h1))]) fun (o : OV) => kOwn o (Je4_2 ((fx 
  80 [(0, .sl v0), (3, .ptr 0 0 0), (5, .ms 1 o5 n5), (6, .ms 2 off len), (7, .nilS)]), [.rows false 4 [[.int .i64 ki, .int .i64 n, .str s, .sl B]], ABlk.froz true 4 h1, .rows true sz 
  rs])) fun (sz_1 : Nat) (rs_1 : List (List AV)) (off_1 len_1 : Nat) => Je4_2 ((fx 80 [(0, .sl v0), (3, .ptr 0 0 0), (5, .ms 1 o5 n5), (6, .ms 2 off len), (7, .ms 3 off_1 len_1)]), [.rows 
  false 4 [[.int .i64 ki, .int .i64 n, .str s, .sl B]], ABlk.froz true 4 h1, .rows true sz rs, .rows true sz_1 rs_1]) else none else none) P) : Gets (j4_1 ki n s B v0 o5 n5 h1) P :=
  Gets.ev (fun _ h => cut_step h) (Gets.eq (by kernel_rfl) h)
theorem j4_2n_step (ki : Int) (n : Int) (s : List UInt8) (B : List (List AV)) (v0 : List (List AV)) {P : AV → Prop} (h : Gets (kOpt (EVf (EV cfg) 24 [.sl v0]) fun (v : AV) => kSl v fun (rows : List (List AV)) => bif refsLtL 0 [.sl [], .sl rows] then kOpt (EVs (EV cfg) 23 [.sl [], .sl rows]) fun (v : AV) => 
  kBool v fun (b : Bool) => bif !b then some (.bool false) else kOpt (EVf (EV cfg) 25 [.sl v0]) fun (v : AV) => kSl v fun (rows : List (List AV)) => bif refsLtL 0 [.sl [], .sl rows] then 
  kOpt (EVs (EV cfg) 23 [.sl [], .sl rows]) fun (v : AV) => kBool v fun (b : Bool) => bif !b then some (.bool false) else bif refsLtL 0 [.sl [], .sl v0] then kOpt (EVs (EV cfg) 23 [.sl 
  [], .sl v0]) fun (v : AV) => kBool v fun (b : Bool) => bif !b then some (.bool false) else j4_3n ki n s B v0 else none else none else none) P) : Gets (j4_2n ki n s B v0) P :=
  Gets.ev (fun _ h => cut_step h) (Gets.eq (by kernel_rfl) h)
theorem j4_2_step (ki : Int) (n : Int) (s : List UInt8) (B : List (List AV)) (v0 : List (List AV)) (o5 : Nat) (n5 : Nat) (o6 : Nat) (n6 : Nat) (o7 : Nat) (n7 : Nat) (h1 : List (List AV)) (h2 : List (List AV)) (h3 : List (List AV)) {P : AV → Prop} (h : Gets (kOpt (EVf (EV cfg) 24 [.sl v0]) fun (v : AV) => kSl v fun (rows : List (List AV)) => bif Nat.ble (o6 + n6) (List.length h2) && true then kOpt (EVs (EV cfg) 23 [.sl (List.take n6 (List.drop 
  o6 h2)), .sl rows]) fun (v : AV) => kBool v fun (b : Bool) => bif !b then some (.bool false) else kOpt (EVf (EV cfg) 25 [.sl v0]) fun (v : AV) => kSl v fun (rows : List (List AV)) => 
  bif Nat.ble (o7 + n7) (List.length h3) && true then kOpt (EVs (EV cfg) 23 [.sl (List.take n7 (List.drop o7 h3)), .sl rows]) fun (v : AV) => kBool v fun (b : Bool) => bif !b then some 
  (.bool false) else bif Nat.ble (o5 + n5) (List.length h1) && true then kOpt (EVs (EV cfg) 23 [.sl (List.take n5 (List.drop o5 h1)), .sl v0]) fun (v : AV) => kBool v fun (b : Bool) => 
  bif !b then some (.bool false) else j4_3 ki n s B v0 o5 n5 o6 n6 o7 n7 h1 h2 h3 else none else none else none) P) : Gets (j4_2 ki n s B v0 o5 n5 o6 n6 o7 n7 h1 h2 h3) P :=
  Gets.ev (fun _ h => cut_step h) (Gets.eq (by kernel_rfl) h)
theorem j4_3n_step (ki : Int) (n : Int) (s : List UInt8) (B : List (List AV)) (v0 : List (List AV)) {P : AV → Prop} (h : Gets (bif refsLtL 0 [.sl [], .agg [.int .i64 ki, .int .i64 n, .str s, .sl B]] then kOpt (EVs (EV cfg) 26 [.sl [], .agg [.int .i64 ki, .int .i64 n, .str s, .sl B]]) fun (v : AV) => kTup v 
  fun (cs : List AV) => kCons cs fun (c : AV) (cs : List AV) => kInt .i64 c fun (n_1 : Int) => kCons cs fun (c : AV) (cs : List AV) => kBool c fun (b : Bool) => kNil cs (j4_4n ki n s 
  B v0 n_1 b) else none) P) : Gets (j4_3n ki n s B v0) P :=
  Gets.ev (fun _ h => cut_step h) (Gets.eq (by kernel_rfl) h)
theorem j4_3_step (ki : Int) (n : Int) (s : List UInt8) (B : List (List AV)) (v0 : List (List AV)) (o5 : Nat) (n5 : Nat) (o6 : Nat) (n6 : Nat) (o7 : Nat) (n7 : Nat) (h1 : List (List AV)) (h2 : List (List AV)) (h3 : List (List AV)) {P : AV → Prop} (h : Gets (bif Nat.ble (o7 + n7) (List.length h3) && true then kOpt (EVs (EV cfg) 26 [.sl (List.take n7 (List.drop o7 h3)), .agg [.int .i64 ki, .int .i64 n, .str s, .sl B]]) fun (v : AV) => kTup 
  v fun (cs : List AV) => kCons cs fun (c : AV) (cs : List AV) => kInt .i64 c fun (n_1 : Int) => kCons cs fun (c : AV) (cs : List AV) => kBool c fun (b : Bool) => kNil cs (j4_4 ki n s 
  B v0 o5 n5 o6 n6 o7 n7 n_1 b h1 h2 h3) else none) P) : Gets (j4_3 ki n s B v0 o5 n5 o6 n6 o7 n7 h1 h2 h3) P :=
  Gets.ev (fun _ h => cut_step h) (Gets.eq (by kernel_rfl) h)
theorem j4_4n_step (ki : Int) (n : Int) (s : List UInt8) (B : List (List AV)) (v0 : List (List AV)) (v8 : Int) (v9 : Bool) {P : AV → Prop} (h : Gets (kOpt (EVf (EV cfg) 25 [.sl v0]) fun (v : AV) => kSl v fun (rows : List (List AV)) => kOpt (EVs (EV cfg) 27 [.sl rows, .agg [.int .i64 ki, .int .i64 n, .str s, .sl B]]) fun (v : AV) 
  => kTup v fun (cs : List AV) => kCons cs fun (c : AV) (cs : List AV) => kInt .i64 c fun (n_1 : Int) => kCons cs fun (c : AV) (cs : List AV) => kBool c fun (b : Bool) => kNil cs (j4_5n 
  ki n s B v0 v8 v9 n_1 b)) P) : Gets (j4_4n ki n s B v0 v8 v9) P :=
  Gets.ev (fun _ h => cut_step h) (Gets.eq (by kernel_rfl) h)
theorem j4_4_step (ki : Int) (n : Int) (s : List UInt8) (B : List (List AV)) (v0 : List (List AV)) (o5 : Nat) (n5 : Nat) (o6 : Nat) (n6 : Nat) (o7 : Nat) (n7 : Nat) (v8 : Int) (v9 : Bool) (h1 : List (List AV)) (h2 : List (List AV)) (h3 : List (List AV)) {P : AV → Prop} (h : Gets (kOpt (EVf (EV cfg) 25 [.sl v0]) fun (v : AV) => kSl v fun (rows : List (List AV)) => kOpt (EVs (EV cfg) 27 [.sl rows, .agg [.int .i64 ki, .int .i64 n, .str s, .sl B]]) fun (v : AV) 
  => kTup v fun (cs : List AV) => kCons cs fun (c : AV) (cs : List AV) => kInt .i64 c fun (n_1 : Int) => kCons cs fun (c : AV) (cs : List AV) => kBool c fun (b : Bool) => kNil cs (j4_5 
  ki n s B v0 o5 n5 o6 n6 o7 n7 v8 v9 n_1 b h1 h2 h3)) P) : Gets (j4_4 ki n s B v0 o5 n5 o6 n6 o7 n7 v8 v9 h1 h2 h3) P :=
  Gets.ev (fun _ h => cut_step h) (Gets.eq (by kernel_rfl) h)
theorem j4_5n_step (ki : Int) (n : Int) (s : List UInt8) (B : List (List AV)) (v0 : List (List AV)) (v8 : Int) (v9 : Bool) (v10 : Int) (v11 : Bool) {P : AV → Prop} (h : Gets (j4_6n ki n s B v0 v8 v9 v10 v11) P) : Gets (j4_5n ki n s B v0 v8 v9 v10 v11) P :=
  Gets.ev (fun _ h => cut_step h) (Gets.eq (by kernel_rfl) h)
theorem j4_5_step (ki : Int) (n : Int) (s : List UInt8) (B : List (List AV)) (v0 : List (List AV)) (o5 : Nat) (n5 : Nat) (o6 : Nat) (n6 : Nat) (o7 : Nat) (n7 : Nat) (v8 : Int) (v9 : Bool) (v10 : Int) (v11 : Bool) (h1 : List (List AV)) (h2 : List (List AV)) (h3 : List (List AV)) {P : AV → Prop} (h : Gets (bif decide ((↑n6 : Int) > (0 : Int)) then bif ltInt (0 : Int) (↑n6 : Int) then kOpt (List.get?Internal h2 (o6 + Int.toNat (0 : Int))) fun (row : List AV) => bif Nat.ble 4 (List.length 
  row) then bif ltInt (0 : Int) (↑n7 : Int) then kOpt (List.get?Internal h3 (o7 + Int.toNat (0 : Int))) fun (row_1 : List AV) => bif Nat.ble 4 (List.length row_1) then j4_6 ki n s B v0 
  o5 n5 v8 v9 v10 v11 h1 (List.set h2 (o6 + Int.toNat (0 : Int)) (.int .i64 (0 : Int) :: .int .i64 (0 : Int) :: .str [] :: .sl [] :: List.drop 4 row)) (List.set h3 (o7 + Int.toNat (0 
  : Int)) (.int .i64 (0 : Int) :: .int .i64 (0 : Int) :: .str [] :: .sl [] :: List.drop 4 row_1)) else none else none else none else none else j4_6 ki n s B v0 o5 n5 v8 v9 v10 v11 h1 
  h2 h3) P) : Gets (j4_5 ki n s B v0 o5 n5 o6 n6 o7 n7 v8 v9 v10 v11 h1 h2 h3) P :=
  Gets.ev (fun _ h => cut_step h) (Gets.eq (by kernel_rfl) h)
theorem j4_6n_step (ki : Int) (n : Int) (s : List UInt8) (B : List (List AV)) (v0 : List (List AV)) (v8 : Int) (v9 : Bool) (v10 : Int) (v11 : Bool) {P : AV → Prop} (h : Gets (bif v8 == v10 then bif v9 == v11 then bif refsLtL 0 [.sl [], .sl v0] then kOpt (EVs (EV cfg) 23 [.sl [], .sl v0]) fun (v : AV) => kBool v fun (b : Bool) => bif b then kOpt (EVs (EV 
  cfg) 18 []) fun (v : AV) => kBool v fun (b : Bool) => some (.bool b) else some (.bool false) else none else some (.bool false) else some (.bool false)) P) : Gets (j4_6n ki n s B v0 v8 v9 v10 v11) P :=
  Gets.ev (fun _ h => cut_step h) (Gets.eq (by kernel_rfl) h)
theorem j4_6_step (ki : Int) (n : Int) (s : List UInt8) (B : List (List AV)) (v0 : List (List AV)) (o5 : Nat) (n5 : Nat) (v8 : Int) (v9 : Bool) (v10 : Int) (v11 : Bool) (h1 : List (List AV)) (h2 : List (List AV)) (h3 : List (List AV)) {P : AV → Prop} (h : Gets (bif v8 == v10 then bif v9 == v11 then bif Nat.ble (o5 + n5) (List.length h1) && true then kOpt (EVs (EV cfg) 23 [.sl (List.take n5 (List.drop o5 h1)), .sl v0]) fun (v : AV) => kBool 
  v fun (b : Bool) => bif b then kOpt (EVs (EV cfg) 18 []) fun (v : AV) => kBool v fun (b : Bool) => some (.bool b) else some (.bool false) else none else some (.bool false) else some 
  (.bool false)) P) : Gets (j4_6 ki n s B v0 o5 n5 v8 v9 v10 v11 h1 h2 h3) P :=
  Gets.ev (fun _ h => cut_step h) (Gets.eq (by kernel_rfl) h)
theorem f5_run  {P : AV → Prop} (h : Gets (kOpt (EVs (EV cfg) 18 []) fun (v : AV) => kBool v fun (b : Bool) => bif b then kOpt (EVf (EV cfg) 29 [.int .i64 (9 : Int)]) fun (v : AV) => kTmV v fun (n n_1 : Int) (s : List UInt8) 
  (rows : List (List AV)) => (kOpt (EVf (EV cfg) 28 [.sl [[.int .i64 n, .int .i64 n_1, .str s, .sl rows]]]) fun (v : AV) => kTmV v fun (n_2 n_3 : Int) (s_1 : List UInt8) (rows_1 : List 
  (List AV)) => (kOpt (EVf (EV cfg) 29 [.int .i64 (1 : Int)]) fun (v : AV) => kTmV v fun (n_4 n_5 : Int) (s_2 : List UInt8) (rows_2 : List (List AV)) => (kOpt (EVf (EV cfg) 29 [.int .i64 
  (1 : Int)]) fun (v : AV) => kTmV v fun (n_6 n_7 : Int) (s_3 : List UInt8) (rows_3 : List (List AV)) => (kOpt (EVf (EV cfg) 28 [AV.sl [[.int .i64 n_4, .int .i64 n_5, .str s_2, .sl rows_2], 
  [.int .i64 n_6, .int .i64 n_7, .str s_3, .sl rows_3]]]) fun (v : AV) => kTmV v fun (n_8 n_9 : Int) (s_4 : List UInt8) (rows_4 : List (List AV)) => (kOpt (EVs (EV cfg) 15 [AV.agg [.int 
  .i64 n_2, .int .i64 n_3, .str s_1, .sl rows_1], AV.agg [.int .i64 n_8, .int .i64 n_9, .str s_4, .sl rows_4]]) fun (v : AV) => kInt .i64 v fun (n_10 : Int) => bif n_10 == (-1 : Int) 
  then kOpt (EVf (EV cfg) 29 [.int .i64 (1 : Int)]) fun (v : AV) => kTmV v fun (n_11 n_12 : Int) (s_5 : List UInt8) (rows_5 : List (List AV)) => (kOpt (EVf (EV cfg) 29 [.int .i64 (2 : 
  Int)]) fun (v : AV) => kTmV v fun (n_13 n_14 : Int) (s_6 : List UInt8) (rows_6 : List (List AV)) => (kOpt (EVf (EV cfg) 30 [AV.sl [[.int .i64 n_11, .int .i64 n_12, .str s_5, .sl rows_5], 
  [.int .i64 n_13, .int .i64 n_14, .str s_6, .sl rows_6]]]) fun (v : AV) => kTmV v fun (n_15 n_16 : Int) (s_7 : List UInt8) (rows_7 : List (List AV)) => (kOpt (EVf (EV cfg) (29 : Nat) 
  [AV.int .i64 (1 : Int)]) fun (v : AV) => kTmV v fun (n_17 n_18 : Int) (s_8 : List UInt8) (rows_8 : List (List AV)) => (kOpt (EVf (EV cfg) (29 : Nat) [AV.int .i64 (3 : Int)]) fun (v 
  : AV) => kTmV v fun (n_19 n_20 : Int) (s_9 : List UInt8) (rows_9 : List (List AV)) => (kOpt (EVf (EV cfg) (30 : Nat) [AV.sl [[AV.int .i64 n_17, AV.int .i64 n_18, AV.str s_8, AV.sl rows_8], 
  [AV.int .i64 n_19, AV.int .i64 n_20, AV.str s_9, AV.sl rows_9]]]) fun (v : AV) => kTmV v fun (n_21 n_22 : Int) (s_10 : List UInt8) (rows_10 : List (List AV)) => (kOpt (EVs (EV cfg) 
  (15 : Nat) [AV.agg [AV.int .i64 n_15, AV.int .i64 n_16, AV.str s_7, AV.sl rows_7], AV.agg [AV.int .i64 n_21, AV.int .i64 n_22, AV.str s_10, AV.sl rows_10]]) fun (v : AV) => kInt .i64 
  v fun (n_23 : Int) => bif n_23 == (-1 : Int) then kOpt (EVf (EV cfg) (30 : Nat) [AV.sl []]) fun (v : AV) => kTmV v fun (n_24 n_25 : Int) (s_11 : List UInt8) (rows_11 : List (List AV)) 
  => (kOpt (EVf (EV cfg) (29 : Nat) [AV.int .i64 (1 : Int)]) fun (v : AV) => kTmV v fun (n_26 n_27 : Int) (s_12 : List UInt8) (rows_12 : List (List AV)) => (kOpt (EVf (EV cfg) (30 : Nat) 
  [AV.sl [[AV.int .i64 n_26, AV.int .i64 n_27, AV.str s_12, AV.sl rows_12]]]) fun (v : AV) => kTmV v fun (n_28 n_29 : Int) (s_13 : List UInt8) (rows_13 : List (List AV)) => (kOpt (EVs 
  (EV cfg) (15 : Nat) [AV.agg [AV.int .i64 n_24, AV.int .i64 n_25, AV.str s_11, AV.sl rows_11], AV.agg [AV.int .i64 n_28, AV.int .i64 n_29, AV.str s_13, AV.sl rows_13]]) fun (v : AV) 
  => kInt .i64 v fun (n_30 : Int) => bif n_30 == (-1 : Int) then kOpt (EVf (EV cfg) (31 : Nat) [AV.str [(97 : UInt8)]]) fun (v : AV) => kTmV v fun (n_31 n_32 : Int) (s_14 : List UInt8) 
  (rows_14 : List (List AV)) => (kOpt (EVf (EV cfg) (31 : Nat) [AV.str [(97 : UInt8), (98 : UInt8)]]) fun (v : AV) => kTmV v fun (n_33 n_34 : Int) (s_15 : List UInt8) (rows_15 : List 
  (List AV)) => (kOpt (EVs (EV cfg) (15 : Nat) [AV.agg [AV.int .i64 n_31, AV.int .i64 n_32, AV.str s_14, AV.sl rows_14], AV.agg [AV.int .i64 n_33, AV.int .i64 n_34, AV.str s_15, AV.sl 
  rows_15]]) fun (v : AV) => kInt .i64 v fun (n_35 : Int) => bif n_35 == (-1 : Int) then kOpt (EVf (EV cfg) (28 : Nat) [AV.sl []]) fun (v : AV) => kTmV v fun (n_36 n_37 : Int) (s_16 : 
  List UInt8) (rows_16 : List (List AV)) => (kOpt (EVf (EV cfg) (28 : Nat) [AV.sl []]) fun (v : AV) => kTmV v fun (n_38 n_39 : Int) (s_17 : List UInt8) (rows_17 : List (List AV)) => (kOpt 
  (EVs (EV cfg) (15 : Nat) [AV.agg [AV.int .i64 n_36, AV.int .i64 n_37, AV.str s_16, AV.sl rows_16], AV.agg [AV.int .i64 n_38, AV.int .i64 n_39, AV.str s_17, AV.sl rows_17]]) fun (v : 
  AV) => kInt .i64 v fun (n_40 : Int) => j5_0 (n_40 == (0 : Int)) [[AV.int .i64 n, AV.int .i64 n_1, AV.str s, AV.sl rows]] [[AV.int .i64 n_4, AV.int .i64 n_5, AV.str s_2, AV.sl rows_2], 
  [AV.int .i64 n_6, AV.int .i64 n_7, AV.str s_3, AV.sl rows_3]] [[AV.int .i64 n_11, AV.int .i64 n_12, AV.str s_5, AV.sl rows_5], [AV.int .i64 n_13, AV.int .i64 n_14, AV.str s_6, AV.sl 
  rows_6]] [[AV.int .i64 n_17, AV.int .i64 n_18, AV.str s_8, AV.sl rows_8], [AV.int .i64 n_19, AV.int .i64 n_20, AV.str s_9, AV.sl rows_9]] [[AV.int .i64 n_26, AV.int .i64 n_27, AV.str 
  s_12, AV.sl rows_12]])) else j5_0 false [[AV.int .i64 n, AV.int .i64 n_1, AV.str s, AV.sl rows]] [[AV.int .i64 n_4, AV.int .i64 n_5, AV.str s_2, AV.sl rows_2], [AV.int .i64 n_6, AV.int 
  .i64 n_7, AV.str s_3, AV.sl rows_3]] [[AV.int .i64 n_11, AV.int .i64 n_12, AV.str s_5, AV.sl rows_5], [AV.int .i64 n_13, AV.int .i64 n_14, AV.str s_6, AV.sl rows_6]] [[AV.int .i64 n_17, 
  AV.int .i64 n_18, AV.str s_8, AV.sl rows_8], [AV.int .i64 n_19, AV.int .i64 n_20, AV.str s_9, AV.sl rows_9]] [[AV.int .i64 n_26, AV.int .i64 n_27, AV.str s_12, AV.sl rows_12]])) else 
  j5_0 false [[AV.int .i64 n, AV.int .i64 n_1, AV.str s, AV.sl rows]] [[AV.int .i64 n_4, AV.int .i64 n_5, AV.str s_2, AV.sl rows_2], [AV.int .i64 n_6, AV.int .i64 n_7, AV.str s_3, AV.sl 
  rows_3]] [[AV.int .i64 n_11, AV.int .i64 n_12, AV.str s_5, AV.sl rows_5], [AV.int .i64 n_13, AV.int .i64 n_14, AV.str s_6, AV.sl rows_6]] [[AV.int .i64 n_17, AV.int .i64 n_18, AV.str 
  s_8, AV.sl rows_8], [AV.int .i64 n_19, AV.int .i64 n_20, AV.str s_9, AV.sl rows_9]] [[AV.int .i64 n_26, AV.int .i64 n_27, AV.str s_12, AV.sl rows_12]]))) else Je5_0 ((fx 114 [(1, AV.bool 
  false)]), [ABlk.froz true (4 : Nat) [[AV.int .i64 n, AV.int .i64 n_1, AV.str s, AV.sl rows]], ABlk.froz true (4 : Nat) [[AV.int .i64 n_4, AV.int .i64 n_5, AV.str s_2, AV.sl rows_2], 
  [AV.int .i64 n_6, AV.int .i64 n_7, AV.str s_3, AV.sl rows_3]], ABlk.froz true (4 : Nat) [[AV.int .i64 n_11, AV.int .i64 n_12, AV.str s_5, AV.sl rows_5], [AV.int .i64 n_13, AV.int .i64 
  n_14, AV.str s_6, AV.sl rows_6]], ABlk.froz true (4 : Nat) [[AV.int .i64 n_17, AV.int .i64 n_18, AV.str s_8, AV.sl rows_8], [AV.int .i64 n_19, AV.int .i64 n_20, AV.str s_9, AV.sl rows_9]]]))))))) 
  else Je5_0 ((fx 114 [(1, .bool false)]), [ABlk.froz true 4 [[.int .i64 n, .int .i64 n_1, .str s, .sl rows]], ABlk.froz true 4 [[.int .i64 n_4, .int .i64 n_5, .str s_2, .sl rows_2], 
  [.int .i64 n_6, .int .i64 n_7, .str s_3, .sl rows_3]]])))))) else Je5_0 ((fx 114 [(1, .bool false)]), [])) P) : Gets (EVs (EV cfg) 5 ([] : List AV)) P :=
  Gets.ev (fun _ h => funS rfl rfl Try.func5 rfl h) (Gets.eq (by kernel_rfl) h)
theorem j5_0_step (v1 : Bool) (h0 : List (List AV)) (h1 : List (List AV)) (h2 : List (List AV)) (h3 : List (List AV)) (h4 : List (List AV)) {P : AV → Prop} (h : Gets (kOpt (EVf (EV cfg) 31 [.str [(98 : UInt8)]]) fun (v : AV) => kTmV v fun (n n_1 : Int) (s : List UInt8) (rows : List (List AV)) => (kOpt (EVf (EV cfg) 29 [.int .i64 (1 : Int)]) fun (v 
  : AV) => kTmV v fun (n_2 n_3 : Int) (s_1 : List UInt8) (rows_1 : List (List AV)) => (kOpt (EVf (EV cfg) 28 [.sl []]) fun (v : AV) => kTmV v fun (n_4 n_5 : Int) (s_2 : List UInt8) (rows_2 
  : List (List AV)) => (kOpt (EVf (EV cfg) 31 [.str [(97 : UInt8)]]) fun (v : AV) => kTmV v fun (n_6 n_7 : Int) (s_3 : List UInt8) (rows_3 : List (List AV)) => (kOpt (EVo (EV cfg) 21 
  [AV.sl [[.int .i64 n, .int .i64 n_1, .str s, .sl rows], [.int .i64 n_2, .int .i64 n_3, .str s_1, .sl rows_1], [.int .i64 n_4, .int .i64 n_5, .str s_2, .sl rows_2], [.int .i64 n_6, .int 
  .i64 n_7, .str s_3, .sl rows_3]]]) fun (o : OV) => kOwn o (Je5_1 ((fx 114 [(1, .bool v1), (2, .nilS)]), [ABlk.froz true 4 h0, ABlk.froz true 4 h1, ABlk.froz true 4 h2, ABlk.froz true 
  4 h3, ABlk.froz true 4 h4, ABlk.froz true 4 [[.int .i64 n, .int .i64 n_1, .str s, .sl rows], [.int .i64 n_2, .int .i64 n_3, .str s_1, .sl rows_1], [.int .i64 n_4, .int .i64 n_5, .str 
  s_2, .sl rows_2], [.int .i64 n_6, .int .i64 n_7, .str s_3, .sl rows_3]]])) fun (sz : Nat) (rs : List (List AV)) (off len : Nat) => Je5_1 ((fx 114 [(1, .bool v1), (2, .ms 6 off len)]), 
  [ABlk.froz true 4 h0, ABlk.froz true 4 h1, ABlk.froz true 4 h2, ABlk.froz true 4 h3, ABlk.froz true 4 h4, ABlk.froz true 4 [[.int .i64 n, .int .i64 n_1, .str s, .sl rows], [.int .i64 
  n_2, .int .i64 n_3, .str s_1, .sl rows_1], [.int .i64 n_4, .int .i64 n_5, .str s_2, .sl rows_2], [.int .i64 n_6, .int .i64 n_7, .str s_3, .sl rows_3]], .rows true sz rs])))))) P) : Gets (j5_0 v1 h0 h1 h2 h3 h4) P :=
  Gets.ev (fun _ h => cut_step h) (Gets.eq (by kernel_rfl) h)
theorem j5_1_step (v1 : Bool) (o2 : Nat) (n2 : Nat) (h0 : List (List AV)) (h1 : List (List AV)) (h2 : List (List AV)) (h3 : List (List AV)) (h4 : List (List AV)) (h5 : List (List AV)) (h6 : List (List AV)) {P : AV → Prop} (h : Gets (kOpt (EVf (EV cfg) 29 [.int .i64 (2 : Int)]) fun (v : AV) => kTmV v fun (n n_1 : Int) (s : List UInt8) (rows : List (List AV)) => (kOpt (EVf (EV cfg) 29 [.int .i64 (1 : Int)]) fun (v 
  : AV) => kTmV v fun (n_2 n_3 : Int) (s_1 : List UInt8) (rows_1 : List (List AV)) => (kOpt (EVf (EV cfg) 29 [.int .i64 (2 : Int)]) fun (v : AV) => kTmV v fun (n_4 n_5 : Int) (s_2 : List 
  UInt8) (rows_2 : List (List AV)) => (kOpt (EVf (EV cfg) 29 [.int .i64 (1 : Int)]) fun (v : AV) => kTmV v fun (n_6 n_7 : Int) (s_3 : List UInt8) (rows_3 : List (List AV)) => (kOpt (EVo 
  (EV cfg) 22 [AV.sl [[.int .i64 n, .int .i64 n_1, .str s, .sl rows], [.int .i64 n_2, .int .i64 n_3, .str s_1, .sl rows_1], [.int .i64 n_4, .int .i64 n_5, .str s_2, .sl rows_2], [.int 
  .i64 n_6, .int .i64 n_7, .str s_3, .sl rows_3]]]) fun (o : OV) => kOwn o (Je5_2 ((fx 114 [(1, .bool v1), (2, .ms 6 o2 n2), (3, .nilS)]), [ABlk.froz true 4 h0, ABlk.froz true 4 h1, ABlk.froz 
  true 4 h2, ABlk.froz true 4 h3, ABlk.froz true 4 h4, ABlk.froz true 4 h5, .rows true 4 h6, ABlk.froz true 4 [[.int .i64 n, .int .i64 n_1, .str s, .sl rows], [.int .i64 n_2, .int .i64 
  n_3, .str s_1, .sl rows_1], [.int .i64 n_4, .int .i64 n_5, .str s_2, .sl rows_2], [.int .i64 n_6, .int .i64 n_7, .str s_3, .sl rows_3]]])) fun (sz : Nat) (rs : List (List AV)) (off 
  len : Nat) => Je5_2 ((fx 114 [(1, .bool v1), (2, .ms 6 o2 n2), (3, .ms 8 off len)]), [ABlk.froz true 4 h0, ABlk.froz true 4 h1, ABlk.froz true 4 h2, ABlk.froz true 4 h3, ABlk.froz true 
  4 h4, ABlk.froz true 4 h5, .rows true 4 h6, ABlk.froz true 4 [[.int .i64 n, .int .i64 n_1, .str s, .sl rows], [.int .i64 n_2, .int .i64 n_3, .str s_1, .sl rows_1], [.int .i64 n_4, .int 
  .i64 n_5, .str s_2, .sl rows_2], [.int .i64 n_6, .int .i64 n_7, .str s_3, .sl rows_3]], .rows true sz rs])))))) P) : Gets (j5_1 v1 o2 n2 h0 h1 h2 h3 h4 h5 h6) P :=
  Gets.ev (fun _ h => cut_step h) (Gets.eq (by kernel_rfl) h)
theorem j5_2_step (h6 : List (List AV)) (v1 : Bool) (o2 : Nat) (n2 : Nat) (o3 : Nat) (n3 : Nat) (h0 : List (List AV)) (h1 : List (List AV)) (h2 : List (List AV)) (h3 : List (List AV)) (h4 : List (List AV)) (h5 : List (List AV)) (h7 : List (List AV)) (h8 : List (List AV)) {P : AV → Prop} (h : Gets (kOpt (EVf (EV cfg) 29 [.int .i64 (1 : Int)]) fun (v : AV) => kTmV v fun (n n_1 : Int) (s : List UInt8) (rows : List (List AV)) => (kOpt (EVf (EV cfg) 29 [.int .i64 (3 : Int)]) fun (v 
  : AV) => kTmV v fun (n_2 n_3 : Int) (s_1 : List UInt8) (rows_1 : List (List AV)) => (kOpt (EVf (EV cfg) 29 [.int .i64 (5 : Int)]) fun (v : AV) => kTmV v fun (n_4 n_5 : Int) (s_2 : List 
  UInt8) (rows_2 : List (List AV)) => (kOpt (EVf (EV cfg) 29 [.int .i64 (3 : Int)]) fun (v : AV) => kTmV v fun (n_6 n_7 : Int) (s_3 : List UInt8) (rows_3 : List (List AV)) => (kOpt (EVs 
  (EV cfg) 26 [AV.sl [[.int .i64 n, .int .i64 n_1, .str s, .sl rows], [.int .i64 n_2, .int .i64 n_3, .str s_1, .sl rows_1], [.int .i64 n_4, .int .i64 n_5, .str s_2, .sl rows_2]], .agg 
  [.int .i64 n_6, .int .i64 n_7, .str s_3, .sl rows_3]]) fun (v : AV) => kTup v fun (cs : List AV) => kCons cs fun (c : AV) (cs : List AV) => kInt .i64 c fun (n_8 : Int) => kCons cs fun 
  (c : AV) (cs : List AV) => kBool c fun (b : Bool) => kNil cs (j5_3 h6 h8 v1 o2 n2 o3 n3 n_8 b h0 h1 h2 h3 h4 h5 h7 [[.int .i64 n, .int .i64 n_1, .str s, .sl rows], [.int .i64 n_2, .int 
  .i64 n_3, .str s_1, .sl rows_1], [.int .i64 n_4, .int .i64 n_5, .str s_2, .sl rows_2]])))))) P) : Gets (j5_2 h6 v1 o2 n2 o3 n3 h0 h1 h2 h3 h4 h5 h7 h8) P :=
  Gets.ev (fun _ h => cut_step h) (Gets.eq (by kernel_rfl) h)
theorem j5_3_step (h6 : List (List AV)) (h8 : List (List AV)) (v1 : Bool) (o2 : Nat) (n2 : Nat) (o3 : Nat) (n3 : Nat) (v4 : Int) (v5 : Bool) (h0 : List (List AV)) (h1 : List (List AV)) (h2 : List (List AV)) (h3 : List (List AV)) (h4 : List (List AV)) (h5 : List (List AV)) (h7 : List (List AV)) (h9 : List (List AV)) {P : AV → Prop} (h : Gets (kOpt (EVf (EV cfg) 29 [.int .i64 (1 : Int)]) fun (v : AV) => kTmV v fun (n n_1 : Int) (s : List UInt8) (rows : List (List AV)) => (kOpt (EVf (EV cfg) 29 [.int .i64 (3 : Int)]) fun (v 
  : AV) => kTmV v fun (n_2 n_3 : Int) (s_1 : List UInt8) (rows_1 : List (List AV)) => (kOpt (EVf (EV cfg) 29 [.int .i64 (5 : Int)]) fun (v : AV) => kTmV v fun (n_4 n_5 : Int) (s_2 : List 
  UInt8) (rows_2 : List (List AV)) => (kOpt (EVf (EV cfg) 29 [.int .i64 (4 : Int)]) fun (v : AV) => kTmV v fun (n_6 n_7 : Int) (s_3 : List UInt8) (rows_3 : List (List AV)) => (kOpt (EVs 
  (EV cfg) 26 [AV.sl [[.int .i64 n, .int .i64 n_1, .str s, .sl rows], [.int .i64 n_2, .int .i64 n_3, .str s_1, .sl rows_1], [.int .i64 n_4, .int .i64 n_5, .str s_2, .sl rows_2]], .agg 
  [.int .i64 n_6, .int .i64 n_7, .str s_3, .sl rows_3]]) fun (v : AV) => kTup v fun (cs : List AV) => kCons cs fun (c : AV) (cs : List AV) => kInt .i64 c fun (n_8 : Int) => kCons cs fun 
  (c : AV) (cs : List AV) => kBool c fun (b : Bool) => kNil cs (j5_4 h6 h8 h9 v1 o2 n2 o3 n3 v4 v5 n_8 b h0 h1 h2 h3 h4 h5 h7 [[.int .i64 n, .int .i64 n_1, .str s, .sl rows], [.int .i64 
  n_2, .int .i64 n_3, .str s_1, .sl rows_1], [.int .i64 n_4, .int .i64 n_5, .str s_2, .sl rows_2]])))))) P) : Gets (j5_3 h6 h8 v1 o2 n2 o3 n3 v4 v5 h0 h1 h2 h3 h4 h5 h7 h9) P :=
  Gets.ev (fun _ h => cut_step h) (Gets.eq (by kernel_rfl) h)
theorem j5_4_step (h6 : List (List AV)) (h8 : List (List AV)) (h9 : List (List AV)) (v1 : Bool) (o2 : Nat) (n2 : Nat) (o3 : Nat) (n3 : Nat) (v4 : Int) (v5 : Bool) (v6 : Int) (v7 : Bool) (h0 : List (List AV)) (h1 : List (List AV)) (h2 : List (List AV)) (h3 : List (List AV)) (h4 : List (List AV)) (h5 : List (List AV)) (h7 : List (List AV)) (h10 : List (List AV)) {P : AV → Prop} (h : Gets (bif v1 then kOpt (EVf (EV cfg) 29 [.int .i64 (1 : Int)]) fun (v : AV) => kTmV v fun (n n_1 : Int) (s : List UInt8) (rows : List (List AV)) => (kOpt (EVf (EV cfg) 31 [.str [(97 : UInt8)]]) 
  fun (v : AV) => kTmV v fun (n_2 n_3 : Int) (s_1 : List UInt8) (rows_1 : List (List AV)) => (kOpt (EVf (EV cfg) 31 [.str [(98 : UInt8)]]) fun (v : AV) => kTmV v fun (n_4 n_5 : Int) (s_2 
  : List UInt8) (rows_2 : List (List AV)) => (kOpt (EVf (EV cfg) 28 [.sl []]) fun (v : AV) => kTmV v fun (n_6 n_7 : Int) (s_3 : List UInt8) (rows_3 : List (List AV)) => (bif Nat.ble (o2 
  + n2) (List.length h6) && true then kOpt (EVs (EV cfg) 23 [.sl (List.take n2 (List.drop o2 h6)), AV.sl [[.int .i64 n, .int .i64 n_1, .str s, .sl rows], [.int .i64 n_2, .int .i64 n_3, 
  .str s_1, .sl rows_1], [.int .i64 n_4, .int .i64 n_5, .str s_2, .sl rows_2], [.int .i64 n_6, .int .i64 n_7, .str s_3, .sl rows_3]]]) fun (v : AV) => kBool v fun (b : Bool) => bif b 
  then kOpt (EVf (EV cfg) 29 [.int .i64 (1 : Int)]) fun (v : AV) => kTmV v fun (n n_8 : Int) (s : List UInt8) (rows : List (List AV)) => (kOpt (EVf (EV cfg) 29 [.int .i64 (2 : Int)]) 
  fun (v : AV) => kTmV v fun (n_9 n_10 : Int) (s_4 : List UInt8) (rows_4 : List (List AV)) => (bif Nat.ble (o3 + n3) (List.length h8) && true then kOpt (EVs (EV cfg) 23 [.sl (List.take 
  n3 (List.drop o3 h8)), AV.sl [[.int .i64 n, .int .i64 n_8, .str s, .sl rows], [.int .i64 n_9, .int .i64 n_10, .str s_4, .sl rows_4]]]) fun (v : AV) => kBool v fun (b : Bool) => bif 
  b then bif v4 == (1 : Int) then bif v5 then bif v6 == (2 : Int) then some (.bool !v7) else some (.bool false) else some (.bool false) else some (.bool false) else some (.bool false) 
  else none)) else some (.bool false) else none)))) else some (.bool false)) P) : Gets (j5_4 h6 h8 h9 v1 o2 n2 o3 n3 v4 v5 v6 v7 h0 h1 h2 h3 h4 h5 h7 h10) P :=
  Gets.ev (fun _ h => cut_step h) (Gets.eq (by kernel_rfl) h)
theorem f32_run (L : List (List AV)) (ki : Int) (n : Int) (s : List UInt8) (B : List (List AV)) {P : AV → Prop} (h : Gets (we32_0 L ki n s B (0 : Int) (0 : Int)) P) : Gets (EVs (EV cfg) 32 ([AV.sl L, AV.agg [AV.int IntKind.i64 ki, AV.int IntKind.i64 n, AV.str s, AV.sl B]] : List AV)) P :=
  Gets.ev (fun _ h => funS rfl rfl Try.func32 rfl h) (Gets.eq (by kernel_rfl) h)
theorem we32_0_step (L : List (List AV)) (ki : Int) (n : Int) (s : List UInt8) (B : List (List AV)) (v5 : Int) (v6 : Int) {P : AV → Prop} (h : Gets (bif decide (v6 < (↑(List.length L) : Int)) then bif leInt (0 : Int) v6 && ltInt v6 (↑(List.length L) : Int) then kOpt (List.get?Internal L (Int.toNat v6)) fun (row : List AV) => bif 
  Nat.beq (List.length row) 4 then bif Nat.ble 4 (List.length row) then kTmC (List.take 4 row) fun (n_1 n_2 : Int) (s_1 : List UInt8) (rows : List (List AV)) => (kOpt (EVs (EV cfg) 17 
  [.agg [.int .i64 n_1, .int .i64 n_2, .str s_1, .sl rows], .agg [.int .i64 ki, .int .i64 n, .str s, .sl B]]) fun (v : AV) => kBool v fun (b : Bool) => bif b then we32_0 L ki n s B (IntKind.wrap 
  .i64 (v5 + (1 : Int))) (IntKind.wrap .i64 (v6 + (1 : Int))) else we32_0 L ki n s B v5 (IntKind.wrap .i64 (v6 + (1 : Int)))) else none else none else none else some (.int .i64 v5)) P) : Gets (we32_0 L ki n s B v5 v6) P :=
  Gets.ev (fun _ h => loop_step (cfg := cfg) (f := 32) (rd := none) h) (Gets.eq (by kernel_rfl) h)
end Go.Proofs.Ytpbfmaodnihpeaa
end

section
/-
  What is left of the functions' evaluation at arguments with variables, printed by a program of ours (resid.py) and checked by the kernel.
  What is proved: each equation as it stands; no condition.
-/
namespace Go.Proofs.Ytpbfmaodnihpeaa
open Go.Av
set_option maxRecDepth 100000
set_option maxHeartbeats 0

noncomputable def Ld19_0 : Den := evC cfg (EV cfg) 19 none (sub (bodyOf Try.f19) [1, 1, 0, 1, 0, 0])
noncomputable def Ad19_0 : Ex × List AV × AH → Option AV := kAft (Cfg.keepOut cfg 19 3) (kRun cfg (EV cfg) (kfN cfg 6) 19 none (kFinS cfg Try.f19.results.toList) ([.block 0, .seq (sub (bodyOf Try.f19) [1, 1, 1])]))
noncomputable def Wd19_0 : List AV × AH → Option AV := fun p => kOpt (LOOP 0 (some [0, 1, 5, 6]) Ld19_0 p) Ad19_0
noncomputable def Ld26_0 : Den := evC cfg (EV cfg) 26 none (sub (bodyOf Try.f26) [1, 0, 1, 0, 0])
noncomputable def Ad26_0 : Ex × List AV × AH → Option AV := kAft (Cfg.keepOut cfg 26 2) (kRun cfg (EV cfg) (kfN cfg 6) 26 none (kFinS cfg Try.f26.results.toList) ([.block 0, .seq (sub (bodyOf Try.f26) [1, 1])]))
noncomputable def Wd26_0 : List AV × AH → Option AV := fun p => kOpt (LOOP 1 (some [0, 3, 9, 10, 11]) Ld26_0 p) Ad26_0
noncomputable def Ld27_0 : Den := evC cfg (EV cfg) 27 none (sub (bodyOf Try.f27) [1, 1, 0, 0, 0])
noncomputable def Ad27_0 : Ex × List AV × AH → Option AV := kAft (Cfg.keepOut cfg 27 2) (kRun cfg (EV cfg) (kfN cfg 6) 27 none (kFinS cfg Try.f27.results.toList) ([.block 0, .seq (sub (bodyOf Try.f27) [1, 1, 1])]))
noncomputable def Wd27_0 : List AV × AH → Option AV := fun p => kOpt (LOOP 1 (some [0, 3, 6]) Ld27_0 p) Ad27_0
noncomputable def Ld24_0 : Den := evC cfg (EV cfg) 24 none (sub (bodyOf Try.f24) [1, 1, 0, 1, 0, 0])
noncomputable def Ad24_0 : Ex × List AV × AH → Option AV := kAft (Cfg.keepOut cfg 24 3) (kRun cfg (EV cfg) (kfN cfg 6) 24 none (kFinF cfg Try.f24.results.toList) ([.block 0, .seq (sub (bodyOf Try.f24) [1, 1, 1])]))
noncomputable def Wd24_0 : List AV × AH → Option AV := fun p => kOpt (LOOP 0 (some [0, 3, 4]) Ld24_0 p) Ad24_0
noncomputable def Ld25_0 : Den := evC cfg (EV cfg) 25 none (sub (bodyOf Try.f25) [1, 1, 1, 0, 1, 0, 0])
noncomputable def Ad25_0 : Ex × List AV × AH → Option AV := kAft (Cfg.keepOut cfg 25 4) (kRun cfg (EV cfg) (kfN cfg 6) 25 none (kFinF cfg Try.f25.results.toList) ([.block 0, .seq (sub (bodyOf Try.f25) [1, 1, 1, 1])]))
noncomputable def Wd25_0 : List AV × AH → Option AV := fun p => kOpt (LOOP 0 (some [3, 4, 5]) Ld25_0 p) Ad25_0
noncomputable def Ld71_0 : Den := evC cfg (EV cfg) 71 none (sub (bodyOf Try.f71) [1, 1, 0, 1, 0, 0])
noncomputable def Ad71_0 : Ex × List AV × AH → Option (MV × List (List AV)) := kAft (Cfg.keepOut cfg 71 4) (kRun cfg (EV cfg) (kfN cfg 6) 71 none (kFinM cfg 4 Try.f71.results.toList) ([.block 0, .seq (sub (bodyOf Try.f71) [1, 1, 1])]))
noncomputable def Wd71_0 : List AV × AH → Option (MV × List (List AV)) := fun p => kOpt (LOOP 1 (some [0, 1, 5]) Ld71_0 p) Ad71_0
noncomputable def Ld24_1 : Den := evC cfg (EV cfg) 24 none (sub (bodyOf Try.f24) [1, 1, 0, 1, 0, 0, 1, 0, 0, 1, 0, 0, 0])
noncomputable def Ad24_1 : Ex × List AV × AH → Option AV := kAft (Cfg.keepOut cfg 24 6) (kRun cfg (EV cfg) (kfN cfg 6) 24 none (kLp 0 (some [0, 3, 4]) Ld24_0 Ad24_0) ([.block 2, .seq (sub (bodyOf Try.f24) [1, 1, 0, 1, 0, 0, 1, 0, 0, 1, 1]), .block 1, .seq (sub (bodyOf Try.f24) [1, 1, 0, 1, 0, 0, 1, 1])]))
noncomputable def Wd24_1 : List AV × AH → Option AV := fun p => kOpt (LOOP 0 (some [0, 3, 4, 5]) Ld24_1 p) Ad24_1
noncomputable def Ld24_2 : Den := evC cfg (EV cfg) 24 none (sub (bodyOf Try.f24) [1, 1, 0, 1, 0, 0, 1, 0, 0, 1, 0, 0, 0])
noncomputable def Ad24_2 : Ex × List AV × AH → Option AV := kAft (Cfg.keepOut cfg 24 6) (kRun cfg (EV cfg) (kfN cfg 6) 24 none (kLp 0 (some [0, 3, 4]) Ld24_0 Ad24_0) ([.block 2, .seq (sub (bodyOf Try.f24) [1, 1, 0, 1, 0, 0, 1, 0, 0, 1, 1]), .block 1, .seq (sub (bodyOf Try.f24) [1, 1, 0, 1, 0, 0, 1, 1])]))
noncomputable def Wd24_2 : List AV × AH → Option AV := fun p => kOpt (LOOP 1 (some [0, 3, 4, 5]) Ld24_2 p) Ad24_2
noncomputable def Ld71_1 : Den := evC cfg (EV cfg) 71 none (sub (bodyOf Try.f71) [1, 1, 0, 1, 0, 0, 1, 0, 0, 1, 0, 1, 0, 1, 0, 0])
noncomputable def Ad71_1 : Ex × List AV × AH → Option (MV × List (List AV)) := kAft (Cfg.keepOut cfg 71 9) (kRun cfg (EV cfg) (kfN cfg 6) 71 none (kLp 1 (some [0, 1, 5]) Ld71_0 Ad71_0) ([.block 2, .seq (sub (bodyOf Try.f71) [1, 1, 0, 1, 0, 0, 1, 0, 0, 1, 0, 1, 1]), .block 1, .seq (sub (bodyOf Try.f71) [1, 1, 0, 1, 0, 0, 1, 1])]))
noncomputable def Wd71_1 : List AV × AH → Option (MV × List (List AV)) := fun p => kOpt (LOOP 1 (some [0, 1, 5, 6, 7]) Ld71_1 p) Ad71_1
theorem f19_run (A : List (List AV)) (most : Int) {P : AV → Prop} (h : Gets (Wd19_0 ((fx 31 [(0, .sl A), (1, .int .i64 most), (5, .int .i64 (0 : Int)), (6, .int .i64 (0 : Int))]), [])) P) : Gets (EVs (EV cfg) 19 ([AV.sl A, AV.int IntKind.i64 most] : List AV)) P :=
  Gets.ev (fun _ h => funS rfl rfl Try.func19 rfl h) (Gets.eq (by kernel_rfl) h)
noncomputable abbrev wd19_0 (A : List (List AV)) (most : Int) (v5 : Int) (v6 : Int) : Option (AV) := Wd19_0 (((fx 31 [(0, AV.sl A), (1, AV.int IntKind.i64 most), (5, AV.int IntKind.i64 v5), (6, AV.int IntKind.i64 v6)]) : List AV), ([] : AH))
theorem wd19_0_step (A : List (List AV)) (most : Int) (v5 : Int) (v6 : Int) {P : AV → Prop} (h : Gets (bif decide (v6 < (↑(List.length A) : Int)) then bif leInt (0 : Int) v6 && ltInt v6 (↑(List.length A) : Int) then kOpt (List.get?Internal A (Int.toNat v6)) fun (row : List AV) => bif 
  Nat.beq (List.length row) 4 then bif Nat.ble 4 (List.length row) then kCons (List.take 4 row) fun (c : AV) (cs : List AV) => kInt .i64 c fun (n : Int) => kCons cs fun (c : AV) (cs : 
  List AV) => kInt .i64 c fun (n_1 : Int) => kCons cs fun (c : AV) (cs : List AV) => kStr c fun (s : List UInt8) => kCons cs fun (c : AV) (cs : List AV) => kSl c fun (rows : List (List 
  AV)) => kNil cs (kOpt (EVs (EV cfg) 57 [.agg [.int .i64 n, .int .i64 n_1, .str s, .sl rows], .int .i64 most]) fun (v : AV) => kInt .i64 v fun (n : Int) => bif decide (IntKind.wrap .i64 
  (v5 + n) > most) then some (.bool true) else bif leInt (0 : Int) v6 && ltInt v6 (↑(List.length A) : Int) then kOpt (List.get?Internal A (Int.toNat v6)) fun (row : List AV) => bif Nat.beq 
  (List.length row) 4 then bif Nat.ble 4 (List.length row) then kCons (List.take 4 row) fun (c : AV) (cs : List AV) => kInt .i64 c fun (n_2 : Int) => kCons cs fun (c : AV) (cs : List 
  AV) => kInt .i64 c fun (n_3 : Int) => kCons cs fun (c : AV) (cs : List AV) => kStr c fun (s : List UInt8) => kCons cs fun (c : AV) (cs : List AV) => kSl c fun (rows : List (List AV)) 
  => kNil cs (kOpt (EVs (EV cfg) 58 [.agg [.int .i64 n_2, .int .i64 n_3, .str s, .sl rows]]) fun (v : AV) => kBool v fun (b : Bool) => bif b then some (.bool true) else Wd19_0 ((fx 31 
  [(0, .sl A), (1, .int .i64 most), (5, .int .i64 (IntKind.wrap .i64 (v5 + n))), (6, .int .i64 (IntKind.wrap .i64 (v6 + (1 : Int))))]), [])) else none else none else none) else none else 
  none else none else some (.bool false)) P) : Gets (wd19_0 A most v5 v6) P :=
  Gets.ev (fun _ h => loop_step (cfg := cfg) (f := 19) (rd := none) h) (Gets.eq (by kernel_rfl) h)
theorem f20_run (A : List (List AV)) {P : OV → Prop} (h : Gets (kOpt (EVo (EV cfg) 59 [.sl A]) fun (o : OV) => kOwn o (some OV.nil) fun (sz : Nat) (rs : List (List AV)) (off len : Nat) => some (OV.own sz rs off len)) P) : Gets (EVo (EV cfg) 20 ([AV.sl A] : List AV)) P :=
  Gets.ev (fun _ h => funO rfl rfl Try.func20 rfl h) (Gets.eq (by kernel_rfl) h)
theorem f23_run (A : List (List AV)) (B : List (List AV)) {P : AV → Prop} (h : Gets (kOpt (EVs (EV cfg) 67 [.sl A, .sl B]) fun (v : AV) => kBool v fun (b : Bool) => some (.bool b)) P) : Gets (EVs (EV cfg) 23 ([AV.sl A, AV.sl B] : List AV)) P :=
  Gets.ev (fun _ h => funS rfl rfl Try.func23 rfl h) (Gets.eq (by kernel_rfl) h)
theorem f72_run (ka : Int) (na : Int) (sa : List UInt8) (A : List (List AV)) (kb : Int) (nb : Int) (sb : List UInt8) (B : List (List AV)) {P : AV → Prop} (h : Gets (kOpt (EVs (EV cfg) 15 [.agg [.int .i64 ka, .int .i64 na, .str sa, .sl A], .agg [.int .i64 kb, .int .i64 nb, .str sb, .sl B]]) fun (v : AV) => kInt .i64 v fun (n : Int) => some (.bool 
  (n == (0 : Int)))) P) : Gets (EVs (EV cfg) 72 ([AV.agg [AV.int IntKind.i64 ka, AV.int IntKind.i64 na, AV.str sa, AV.sl A], AV.agg [AV.int IntKind.i64 kb, AV.int IntKind.i64 nb, AV.str sb, AV.sl B]] : List AV)) P :=
  Gets.ev (fun _ h => funS rfl rfl Try.func72 rfl h) (Gets.eq (by kernel_rfl) h)
theorem f26_run (L : List (List AV)) (ki : Int) (n : Int) (s : List UInt8) (B : List (List AV)) {P : AV → Prop} (h : Gets (Wd26_0 ((fx 27 [(0, .sl L), (3, .ptr 0 0 0), (9, .sl L), (10, .int .i64 (↑(List.length L) : Int)), (11, .int .i64 (0 : Int))]), [.rows false 4 [[.int .i64 ki, .int .i64 n, .str s, .sl 
  B]]])) P) : Gets (EVs (EV cfg) 26 ([AV.sl L, AV.agg [AV.int IntKind.i64 ki, AV.int IntKind.i64 n, AV.str s, AV.sl B]] : List AV)) P :=
  Gets.ev (fun _ h => funS rfl rfl Try.func26 rfl h) (Gets.eq (by kernel_rfl) h)
noncomputable abbrev wd26_0 (L : List (List AV)) (ki : Int) (n : Int) (s : List UInt8) (B : List (List AV)) (v11 : Int) : Option (AV) := Wd26_0 (((fx 27 [(0, AV.sl L), (3, AV.ptr (0 : Nat) (0 : Nat) (0 : Nat)), (9, AV.sl L), (10, AV.int IntKind.i64 (↑(List.length L) : Int)), (11, AV.int IntKind.i64 v11)]) : List AV), ([ABlk.rows false (4 : Nat) [[AV.int IntKind.i64 ki, AV.int IntKind.i64 n, AV.str s, AV.sl B]]] : AH))
theorem wd26_0_step (L : List (List AV)) (ki : Int) (n : Int) (s : List UInt8) (B : List (List AV)) (v11 : Int) {P : AV → Prop} (h : Gets (bif decide (v11 < (↑(List.length L) : Int)) then bif leInt (0 : Int) v11 && ltInt v11 (↑(List.length L) : Int) then kOpt (List.get?Internal L (Int.toNat v11)) fun (row : List AV) => 
  bif Nat.beq (List.length row) 4 then bif Nat.ble 4 (List.length row) then kCons (List.take 4 row) fun (c : AV) (cs : List AV) => kInt .i64 c fun (n_1 : Int) => kCons cs fun (c : AV) 
  (cs : List AV) => kInt .i64 c fun (n_2 : Int) => kCons cs fun (c : AV) (cs : List AV) => kStr c fun (s_1 : List UInt8) => kCons cs fun (c : AV) (cs : List AV) => kSl c fun (rows : List 
  (List AV)) => kNil cs (kOpt (EVs (EV cfg) 15 [.agg [.int .i64 n_1, .int .i64 n_2, .str s_1, .sl rows], .agg [.int .i64 ki, .int .i64 n, .str s, .sl B]]) fun (v : AV) => kInt .i64 v 
  fun (n_3 : Int) => bif decide (n_3 ≥ (0 : Int)) then some (AV.tup [.int .i64 v11, .bool (n_3 == (0 : Int))]) else Wd26_0 ((fx 27 [(0, .sl L), (3, .ptr 0 0 0), (9, .sl L), (10, .int 
  .i64 (↑(List.length L) : Int)), (11, .int .i64 (IntKind.wrap .i64 (v11 + (1 : Int))))]), [.rows false 4 [[.int .i64 ki, .int .i64 n, .str s, .sl B]]])) else none else none else none 
  else some (AV.tup [.int .i64 (↑(List.length L) : Int), .bool false])) P) : Gets (wd26_0 L ki n s B v11) P :=
  Gets.ev (fun _ h => loop_step (cfg := cfg) (f := 26) (rd := none) h) (Gets.eq (by kernel_rfl) h)
theorem f27_run (L : List (List AV)) (ki : Int) (n : Int) (s : List UInt8) (B : List (List AV)) {P : AV → Prop} (h : Gets (Wd27_0 ((fx 36 [(0, .sl L), (3, .ptr 0 0 0), (6, .int .i64 (0 : Int))]), [.rows false 4 [[.int .i64 ki, .int .i64 n, .str s, .sl B]]])) P) : Gets (EVs (EV cfg) 27 ([AV.sl L, AV.agg [AV.int IntKind.i64 ki, AV.int IntKind.i64 n, AV.str s, AV.sl B]] : List AV)) P :=
  Gets.ev (fun _ h => funS rfl rfl Try.func27 rfl h) (Gets.eq (by kernel_rfl) h)
noncomputable abbrev wd27_0 (L : List (List AV)) (ki : Int) (n : Int) (s : List UInt8) (B : List (List AV)) (v6 : Int) : Option (AV) := Wd27_0 (((fx 36 [(0, AV.sl L), (3, AV.ptr (0 : Nat) (0 : Nat) (0 : Nat)), (6, AV.int IntKind.i64 v6)]) : List AV), ([ABlk.rows false (4 : Nat) [[AV.int IntKind.i64 ki, AV.int IntKind.i64 n, AV.str s, AV.sl B]]] : AH))
theorem wd27_0_step (L : List (List AV)) (ki : Int) (n : Int) (s : List UInt8) (B : List (List AV)) (v6 : Int) {P : AV → Prop} (h : Gets (bif decide (v6 < (↑(List.length L) : Int)) then bif leInt (0 : Int) v6 && ltInt v6 (↑(List.length L) : Int) then kOpt (List.get?Internal L (Int.toNat v6)) fun (row : List AV) => bif 
  Nat.beq (List.length row) 4 then bif Nat.ble 4 (List.length row) then kCons (List.take 4 row) fun (c : AV) (cs : List AV) => kInt .i64 c fun (n_1 : Int) => kCons cs fun (c : AV) (cs 
  : List AV) => kInt .i64 c fun (n_2 : Int) => kCons cs fun (c : AV) (cs : List AV) => kStr c fun (s_1 : List UInt8) => kCons cs fun (c : AV) (cs : List AV) => kSl c fun (rows : List 
  (List AV)) => kNil cs (kOpt (EVs (EV cfg) 16 [.agg [.int .i64 n_1, .int .i64 n_2, .str s_1, .sl rows], .agg [.int .i64 ki, .int .i64 n, .str s, .sl B]]) fun (v : AV) => kInt .i64 v 
  fun (n_3 : Int) => bif decide (n_3 < (0 : Int)) then Wd27_0 ((fx 36 [(0, .sl L), (3, .ptr 0 0 0), (6, .int .i64 (IntKind.wrap .i64 (v6 + (1 : Int))))]), [.rows false 4 [[.int .i64 ki, 
  .int .i64 n, .str s, .sl B]]]) else bif decide (v6 < (↑(List.length L) : Int)) then bif leInt (0 : Int) v6 && ltInt v6 (↑(List.length L) : Int) then kOpt (List.get?Internal L (Int.toNat 
  v6)) fun (row : List AV) => bif Nat.beq (List.length row) 4 then bif Nat.ble 4 (List.length row) then kCons (List.take 4 row) fun (c : AV) (cs : List AV) => kInt .i64 c fun (n_4 : Int) 
  => kCons cs fun (c : AV) (cs : List AV) => kInt .i64 c fun (n_5 : Int) => kCons cs fun (c : AV) (cs : List AV) => kStr c fun (s_2 : List UInt8) => kCons cs fun (c : AV) (cs : List AV) 
  => kSl c fun (rows : List (List AV)) => kNil cs (kOpt (EVs (EV cfg) 16 [.agg [.int .i64 n_4, .int .i64 n_5, .str s_2, .sl rows], .agg [.int .i64 ki, .int .i64 n, .str s, .sl B]]) fun 
  (v : AV) => kInt .i64 v fun (n : Int) => some (AV.tup [.int .i64 v6, .bool (n == (0 : Int))])) else none else none else none else some (AV.tup [.int .i64 v6, .bool false])) else none 
  else none else none else bif decide (v6 < (↑(List.length L) : Int)) then bif leInt (0 : Int) v6 && ltInt v6 (↑(List.length L) : Int) then kOpt (List.get?Internal L (Int.toNat v6)) fun 
  (row : List AV) => bif Nat.beq (List.length row) 4 then bif Nat.ble 4 (List.length row) then kCons (List.take 4 row) fun (c : AV) (cs : List AV) => kInt .i64 c fun (n_1 : Int) => kCons 
  cs fun (c : AV) (cs : List AV) => kInt .i64 c fun (n_2 : Int) => kCons cs fun (c : AV) (cs : List AV) => kStr c fun (s_1 : List UInt8) => kCons cs fun (c : AV) (cs : List AV) => kSl 
  c fun (rows : List (List AV)) => kNil cs (kOpt (EVs (EV cfg) 16 [.agg [.int .i64 n_1, .int .i64 n_2, .str s_1, .sl rows], .agg [.int .i64 ki, .int .i64 n, .str s, .sl B]]) fun (v : 
  AV) => kInt .i64 v fun (n : Int) => some (AV.tup [.int .i64 v6, .bool (n == (0 : Int))])) else none else none else none else some (AV.tup [.int .i64 v6, .bool false])) P) : Gets (wd27_0 L ki n s B v6) P :=
  Gets.ev (fun _ h => loop_step (cfg := cfg) (f := 27) (rd := none) h) (Gets.eq (by kernel_rfl) h)
theorem f24_run (L : List (List AV)) {P : AV → Prop} (h : Gets (Wd24_0 ((fx 50 [(0, .sl L), (3, .nilS), (4, .int .i64 (0 : Int))]), [])) P) : Gets (EVf (EV cfg) 24 ([AV.sl L] : List AV)) P :=
  Gets.ev (fun _ h => funF rfl rfl Try.func24 rfl h) (Gets.eq (by kernel_rfl) h)
noncomputable abbrev wd24_0 (L : List (List AV)) (v4 : Int) : Option (AV) := Wd24_0 (((fx 50 [(0, AV.sl L), (3, AV.nilS), (4, AV.int IntKind.i64 v4)]) : List AV), ([] : AH))
theorem wd24_0_step (L : List (List AV)) (v4 : Int) {P : AV → Prop} (h : Gets (bif decide (v4 < (↑(List.length L) : Int)) then Wd24_1 ((fx 50 [(0, .sl L), (3, .nilS), (4, .int .i64 v4), (5, .int .i64 (0 : Int))]), []) else some (bif true then .sl [] else .nilS)) P) : Gets (wd24_0 L v4) P :=
  Gets.ev (fun _ h => loop_step (cfg := cfg) (f := 24) (rd := none) h) (Gets.eq (by kernel_rfl) h)
noncomputable abbrev wd24_0m (rs : List (List AV)) (k : Nat) (L : List (List AV)) (v4 : Int) : Option (AV) := Wd24_0 (((fx 50 [(0, AV.sl L), (3, AV.ms (0 : Nat) (0 : Nat) k), (4, AV.int IntKind.i64 v4)]) : List AV), ([ABlk.rows true (4 : Nat) rs] : AH))
theorem wd24_0m_step (rs : List (List AV)) (k : Nat) (L : List (List AV)) (v4 : Int) {P : AV → Prop} (h : Gets (bif decide (v4 < (↑(List.length L) : Int)) then Wd24_2 ((fx 50 [(0, .sl L), (3, .ms 0 0 k), (4, .int .i64 v4), (5, .int .i64 (↑k : Int))]), [.rows true 4 rs]) else bif Nat.ble (0 + 
  k) (List.length rs) && true then some (.sl (List.take k rs)) else none) P) : Gets (wd24_0m rs k L v4) P :=
  Gets.ev (fun _ h => loop_step (cfg := cfg) (f := 24) (rd := none) h) (Gets.eq (by kernel_rfl) h)
noncomputable abbrev wd24_1 (L : List (List AV)) (v4 : Int) (v5 : Int) : Option (AV) := Wd24_1 (((fx 50 [(0, AV.sl L), (3, AV.nilS), (4, AV.int IntKind.i64 v4), (5, AV.int IntKind.i64 v5)]) : List AV), ([] : AH))
theorem wd24_1_step (L : List (List AV)) (v4 : Int) (v5 : Int) {P : AV → Prop} (h : Gets (bif decide (v5 > (0 : Int)) then none else bif leInt (0 : Int) v5 && leInt v5 (0 : Int) then bif leInt (0 : Int) v4 && ltInt v4 (↑(List.length L) : Int) then kOpt (List.get?Internal 
  L (Int.toNat v4)) fun (row : List AV) => bif Nat.beq (List.length row) 4 then bif Nat.ble 4 (List.length row) then kCons (List.take 4 row) fun (c : AV) (cs : List AV) => kInt .i64 c 
  fun (n : Int) => kCons cs fun (c : AV) (cs : List AV) => kInt .i64 c fun (n_1 : Int) => kCons cs fun (c : AV) (cs : List AV) => kStr c fun (s : List UInt8) => kCons cs fun (c : AV) 
  (cs : List AV) => kSl c fun (rows : List (List AV)) => kNil cs (bif fitsIn 1 56 then bif leInt (0 : Int) v5 && leInt v5 (0 : Int) then bif true then Wd24_0 ((fx 50 [(0, .sl L), (3, 
  .ms 0 0 1), (4, .int .i64 (IntKind.wrap .i64 (v4 + (1 : Int))))]), [.rows true 4 [[.int .i64 n, .int .i64 n_1, .str s, .sl rows]]]) else none else none else none) else none else none 
  else none else none) P) : Gets (wd24_1 L v4 v5) P :=
  Gets.ev (fun _ h => loop_step (cfg := cfg) (f := 24) (rd := none) h) (Gets.eq (by kernel_rfl) h)
noncomputable abbrev wd24_1m (rs : List (List AV)) (k : Nat) (L : List (List AV)) (v4 : Int) (v5 : Int) : Option (AV) := Wd24_1 (((fx 50 [(0, AV.sl L), (3, AV.ms (0 : Nat) (0 : Nat) k), (4, AV.int IntKind.i64 v4), (5, AV.int IntKind.i64 v5)]) : List AV), ([ABlk.rows true (4 : Nat) rs] : AH))
theorem wd24_1m_step (rs : List (List AV)) (k : Nat) (L : List (List AV)) (v4 : Int) (v5 : Int) {P : AV → Prop} (h : Gets (bif decide (v5 > (0 : Int)) then bif leInt (0 : Int) (IntKind.wrap .i64 (v5 - (1 : Int))) && ltInt (IntKind.wrap .i64 (v5 - (1 : Int))) (↑k : Int) then kOpt (List.get?Internal rs (0 
  + Int.toNat (IntKind.wrap .i64 (v5 - (1 : Int))))) fun (row : List AV) => bif Nat.ble 4 (List.length row) then kCons (List.take 4 row) fun (c : AV) (cs : List AV) => kInt .i64 c fun 
  (n : Int) => kCons cs fun (c : AV) (cs : List AV) => kInt .i64 c fun (n_1 : Int) => kCons cs fun (c : AV) (cs : List AV) => kStr c fun (s : List UInt8) => kCons cs fun (c : AV) (cs 
  : List AV) => kSl c fun (rows : List (List AV)) => kNil cs (bif leInt (0 : Int) v4 && ltInt v4 (↑(List.length L) : Int) then kOpt (List.get?Internal L (Int.toNat v4)) fun (row : List 
  AV) => bif Nat.beq (List.length row) 4 then bif Nat.ble 4 (List.length row) then kCons (List.take 4 row) fun (c : AV) (cs : List AV) => kInt .i64 c fun (n_2 : Int) => kCons cs fun (c 
  : AV) (cs : List AV) => kInt .i64 c fun (n_3 : Int) => kCons cs fun (c : AV) (cs : List AV) => kStr c fun (s_1 : List UInt8) => kCons cs fun (c : AV) (cs : List AV) => kSl c fun (rows_1 
  : List (List AV)) => kNil cs (kOpt (EVs (EV cfg) 16 [.agg [.int .i64 n, .int .i64 n_1, .str s, .sl rows], .agg [.int .i64 n_2, .int .i64 n_3, .str s_1, .sl rows_1]]) fun (v : AV) => 
  kInt .i64 v fun (n : Int) => bif decide (n > (0 : Int)) then Wd24_1 ((fx 50 [(0, .sl L), (3, .ms 0 0 k), (4, .int .i64 v4), (5, .int .i64 (IntKind.wrap .i64 (v5 - (1 : Int))))]), [.rows 
  true 4 rs]) else bif leInt (0 : Int) v5 && leInt v5 (↑k : Int) then bif Nat.ble (0 + (Int.toNat v5 - 0)) (List.length rs) then bif fitsIn (0 + List.length (List.take (Int.toNat v5 - 
  0) rs)) 56 then bif leInt (0 : Int) v4 && ltInt v4 (↑(List.length L) : Int) then kOpt (List.get?Internal L (Int.toNat v4)) fun (row : List AV) => bif Nat.beq (List.length row) 4 then 
  bif Nat.ble 4 (List.length row) then kCons (List.take 4 row) fun (c : AV) (cs : List AV) => kInt .i64 c fun (n : Int) => kCons cs fun (c : AV) (cs : List AV) => kInt .i64 c fun (n_4 
  : Int) => kCons cs fun (c : AV) (cs : List AV) => kStr c fun (s : List UInt8) => kCons cs fun (c : AV) (cs : List AV) => kSl c fun (rows : List (List AV)) => kNil cs (bif Nat.ble (0 
  + (0 + List.length (List.take (Int.toNat v5 - 0) rs))) (List.length (List.take (Int.toNat v5 - 0) rs)) && fitsIn (0 + List.length (List.take (Int.toNat v5 - 0) rs) + 1) 56 then bif 
  leInt (0 : Int) v5 && leInt v5 (↑k : Int) then bif Nat.ble (0 + Int.toNat v5 + (k - Int.toNat v5)) (List.length rs) then bif Nat.ble (0 + (0 + List.length (List.take (Int.toNat v5 - 
  0) rs) + 1)) (List.length (List.append (List.take (0 + List.length (List.take (Int.toNat v5 - 0) rs)) (List.take (Int.toNat v5 - 0) rs)) [[.int .i64 n, .int .i64 n_4, .str s, .sl rows]])) 
  && fitsIn (0 + List.length (List.take (Int.toNat v5 - 0) rs) + 1 + List.length (List.take (k - Int.toNat v5) (List.drop (0 + Int.toNat v5) rs))) 56 then Wd24_0 ((fx 50 [(0, .sl L), 
  (3, .ms 0 0 (0 + List.length (List.take (Int.toNat v5 - 0) rs) + 1 + List.length (List.take (k - Int.toNat v5) (List.drop (0 + Int.toNat v5) rs)))), (4, .int .i64 (IntKind.wrap .i64 
  (v4 + (1 : Int))))]), [.rows true 4 (List.append (List.take (0 + List.length (List.take (Int.toNat v5 - 0) rs) + 1) (List.append (List.take (0 + List.length (List.take (Int.toNat v5 
  - 0) rs)) (List.take (Int.toNat v5 - 0) rs)) [[.int .i64 n, .int .i64 n_4, .str s, .sl rows]])) (List.take (k - Int.toNat v5) (List.drop (0 + Int.toNat v5) rs)))]) else none else none 
  else none else none) else none else none else none else none else none else none) else none else none else none) else none else none else bif leInt (0 : Int) v5 && leInt v5 (↑k : Int) 
  then bif Nat.ble (0 + (Int.toNat v5 - 0)) (List.length rs) then bif fitsIn (0 + List.length (List.take (Int.toNat v5 - 0) rs)) 56 then bif leInt (0 : Int) v4 && ltInt v4 (↑(List.length 
  L) : Int) then kOpt (List.get?Internal L (Int.toNat v4)) fun (row : List AV) => bif Nat.beq (List.length row) 4 then bif Nat.ble 4 (List.length row) then kCons (List.take 4 row) fun 
  (c : AV) (cs : List AV) => kInt .i64 c fun (n : Int) => kCons cs fun (c : AV) (cs : List AV) => kInt .i64 c fun (n_1 : Int) => kCons cs fun (c : AV) (cs : List AV) => kStr c fun (s 
  : List UInt8) => kCons cs fun (c : AV) (cs : List AV) => kSl c fun (rows : List (List AV)) => kNil cs (bif Nat.ble (0 + (0 + List.length (List.take (Int.toNat v5 - 0) rs))) (List.length 
  (List.take (Int.toNat v5 - 0) rs)) && fitsIn (0 + List.length (List.take (Int.toNat v5 - 0) rs) + 1) 56 then bif leInt (0 : Int) v5 && leInt v5 (↑k : Int) then bif Nat.ble (0 + Int.toNat 
  v5 + (k - Int.toNat v5)) (List.length rs) then bif Nat.ble (0 + (0 + List.length (List.take (Int.toNat v5 - 0) rs) + 1)) (List.length (List.append (List.take (0 + List.length (List.take 
  (Int.toNat v5 - 0) rs)) (List.take (Int.toNat v5 - 0) rs)) [[.int .i64 n, .int .i64 n_1, .str s, .sl rows]])) && fitsIn (0 + List.length (List.take (Int.toNat v5 - 0) rs) + 1 + List.length 
  (List.take (k - Int.toNat v5) (List.drop (0 + Int.toNat v5) rs))) 56 then Wd24_0 ((fx 50 [(0, .sl L), (3, .ms 0 0 (0 + List.length (List.take (Int.toNat v5 - 0) rs) + 1 + List.length 
  (List.take (k - Int.toNat v5) (List.drop (0 + Int.toNat v5) rs)))), (4, .int .i64 (IntKind.wrap .i64 (v4 + (1 : Int))))]), [.rows true 4 (List.append (List.take (0 + List.length (List.take 
  (Int.toNat v5 - 0) rs) + 1) (List.append (List.take (0 + List.length (List.take (Int.toNat v5 - 0) rs)) (List.take (Int.toNat v5 - 0) rs)) [[.int .i64 n, .int .i64 n_1, .str s, .sl 
  rows]])) (List.take (k - Int.toNat v5) (List.drop (0 + Int.toNat v5) rs)))]) else none else none else none else none) else none else none else none else none else none else none) P) : Gets (wd24_1m rs k L v4 v5) P :=
  Gets.ev (fun _ h => loop_step (cfg := cfg) (f := 24) (rd := none) h) (Gets.eq (by kernel_rfl) h)
theorem f25_run (L : List (List AV)) {P : AV → Prop} (h : Gets (kOpt (EVf (EV cfg) 24 [.sl L]) fun (v : AV) => kSl v fun (rows : List (List AV)) => Wd25_0 ((fx 37 [(3, .sl rows), (4, .nilS), (5, .int .i64 (0 : Int))]), [])) P) : Gets (EVf (EV cfg) 25 ([AV.sl L] : List AV)) P :=
  Gets.ev (fun _ h => funF rfl rfl Try.func25 rfl h) (Gets.eq (by kernel_rfl) h)
noncomputable abbrev wd25_0 (R : List (List AV)) (v5 : Int) : Option (AV) := Wd25_0 (((fx 37 [(3, AV.sl R), (4, AV.nilS), (5, AV.int IntKind.i64 v5)]) : List AV), ([] : AH))
theorem wd25_0_step (R : List (List AV)) (v5 : Int) {P : AV → Prop} (h : Gets (bif decide (v5 < (↑(List.length R) : Int)) then bif v5 == (0 : Int) then bif leInt (0 : Int) v5 && ltInt v5 (↑(List.length R) : Int) then kOpt (List.get?Internal R (Int.toNat v5)) fun 
  (row : List AV) => bif Nat.beq (List.length row) 4 then bif Nat.ble 4 (List.length row) then kCons (List.take 4 row) fun (c : AV) (cs : List AV) => kInt .i64 c fun (n : Int) => kCons 
  cs fun (c : AV) (cs : List AV) => kInt .i64 c fun (n_1 : Int) => kCons cs fun (c : AV) (cs : List AV) => kStr c fun (s : List UInt8) => kCons cs fun (c : AV) (cs : List AV) => kSl c 
  fun (rows : List (List AV)) => kNil cs (bif fitsIn 1 56 then Wd25_0 ((fx 37 [(3, .sl R), (4, .ms 0 0 1), (5, .int .i64 (IntKind.wrap .i64 (v5 + (1 : Int))))]), [.rows true 4 [[.int 
  .i64 n, .int .i64 n_1, .str s, .sl rows]]]) else none) else none else none else none else bif leInt (0 : Int) (IntKind.wrap .i64 (v5 - (1 : Int))) && ltInt (IntKind.wrap .i64 (v5 - 
  (1 : Int))) (↑(List.length R) : Int) then kOpt (List.get?Internal R (Int.toNat (IntKind.wrap .i64 (v5 - (1 : Int))))) fun (row : List AV) => bif Nat.beq (List.length row) 4 then bif 
  Nat.ble 4 (List.length row) then kCons (List.take 4 row) fun (c : AV) (cs : List AV) => kInt .i64 c fun (n : Int) => kCons cs fun (c : AV) (cs : List AV) => kInt .i64 c fun (n_1 : Int) 
  => kCons cs fun (c : AV) (cs : List AV) => kStr c fun (s : List UInt8) => kCons cs fun (c : AV) (cs : List AV) => kSl c fun (rows : List (List AV)) => kNil cs (bif leInt (0 : Int) v5 
  && ltInt v5 (↑(List.length R) : Int) then kOpt (List.get?Internal R (Int.toNat v5)) fun (row : List AV) => bif Nat.beq (List.length row) 4 then bif Nat.ble 4 (List.length row) then 
  kCons (List.take 4 row) fun (c : AV) (cs : List AV) => kInt .i64 c fun (n_2 : Int) => kCons cs fun (c : AV) (cs : List AV) => kInt .i64 c fun (n_3 : Int) => kCons cs fun (c : AV) (cs 
  : List AV) => kStr c fun (s_1 : List UInt8) => kCons cs fun (c : AV) (cs : List AV) => kSl c fun (rows_1 : List (List AV)) => kNil cs (kOpt (EVs (EV cfg) 16 [.agg [.int .i64 n, .int 
  .i64 n_1, .str s, .sl rows], .agg [.int .i64 n_2, .int .i64 n_3, .str s_1, .sl rows_1]]) fun (v : AV) => kInt .i64 v fun (n : Int) => bif n != (0 : Int) then bif leInt (0 : Int) v5 
  && ltInt v5 (↑(List.length R) : Int) then kOpt (List.get?Internal R (Int.toNat v5)) fun (row : List AV) => bif Nat.beq (List.length row) 4 then bif Nat.ble 4 (List.length row) then 
  kCons (List.take 4 row) fun (c : AV) (cs : List AV) => kInt .i64 c fun (n : Int) => kCons cs fun (c : AV) (cs : List AV) => kInt .i64 c fun (n_4 : Int) => kCons cs fun (c : AV) (cs 
  : List AV) => kStr c fun (s : List UInt8) => kCons cs fun (c : AV) (cs : List AV) => kSl c fun (rows : List (List AV)) => kNil cs (bif fitsIn 1 56 then Wd25_0 ((fx 37 [(3, .sl R), (4, 
  .ms 0 0 1), (5, .int .i64 (IntKind.wrap .i64 (v5 + (1 : Int))))]), [.rows true 4 [[.int .i64 n, .int .i64 n_4, .str s, .sl rows]]]) else none) else none else none else none else Wd25_0 
  ((fx 37 [(3, .sl R), (4, .nilS), (5, .int .i64 (IntKind.wrap .i64 (v5 + (1 : Int))))]), [])) else none else none else none) else none else none else none else some (bif true then .sl 
  [] else .nilS)) P) : Gets (wd25_0 R v5) P :=
  Gets.ev (fun _ h => loop_step (cfg := cfg) (f := 25) (rd := none) h) (Gets.eq (by kernel_rfl) h)
noncomputable abbrev wd25_0m (R : List (List AV)) (rs : List (List AV)) (k : Nat) (v5 : Int) : Option (AV) := Wd25_0 (((fx 37 [(3, AV.sl R), (4, AV.ms (0 : Nat) (0 : Nat) k), (5, AV.int IntKind.i64 v5)]) : List AV), ([ABlk.rows true (4 : Nat) rs] : AH))
theorem wd25_0m_step (R : List (List AV)) (rs : List (List AV)) (k : Nat) (v5 : Int) {P : AV → Prop} (h : Gets (bif decide (v5 < (↑(List.length R) : Int)) then bif v5 == (0 : Int) then bif leInt (0 : Int) v5 && ltInt v5 (↑(List.length R) : Int) then kOpt (List.get?Internal R (Int.toNat v5)) fun 
  (row : List AV) => bif Nat.beq (List.length row) 4 then bif Nat.ble 4 (List.length row) then kCons (List.take 4 row) fun (c : AV) (cs : List AV) => kInt .i64 c fun (n : Int) => kCons 
  cs fun (c : AV) (cs : List AV) => kInt .i64 c fun (n_1 : Int) => kCons cs fun (c : AV) (cs : List AV) => kStr c fun (s : List UInt8) => kCons cs fun (c : AV) (cs : List AV) => kSl c 
  fun (rows : List (List AV)) => kNil cs (bif Nat.ble (0 + k) (List.length rs) && fitsIn (k + 1) 56 then Wd25_0 ((fx 37 [(3, .sl R), (4, .ms 0 0 (k + 1)), (5, .int .i64 (IntKind.wrap 
  .i64 (v5 + (1 : Int))))]), [.rows true 4 (List.append (List.take k rs) [[.int .i64 n, .int .i64 n_1, .str s, .sl rows]])]) else none) else none else none else none else bif leInt (0 
  : Int) (IntKind.wrap .i64 (v5 - (1 : Int))) && ltInt (IntKind.wrap .i64 (v5 - (1 : Int))) (↑(List.length R) : Int) then kOpt (List.get?Internal R (Int.toNat (IntKind.wrap .i64 (v5 - 
  (1 : Int))))) fun (row : List AV) => bif Nat.beq (List.length row) 4 then bif Nat.ble 4 (List.length row) then kCons (List.take 4 row) fun (c : AV) (cs : List AV) => kInt .i64 c fun 
  (n : Int) => kCons cs fun (c : AV) (cs : List AV) => kInt .i64 c fun (n_1 : Int) => kCons cs fun (c : AV) (cs : List AV) => kStr c fun (s : List UInt8) => kCons cs fun (c : AV) (cs 
  : List AV) => kSl c fun (rows : List (List AV)) => kNil cs (bif leInt (0 : Int) v5 && ltInt v5 (↑(List.length R) : Int) then kOpt (List.get?Internal R (Int.toNat v5)) fun (row : List 
  AV) => bif Nat.beq (List.length row) 4 then bif Nat.ble 4 (List.length row) then kCons (List.take 4 row) fun (c : AV) (cs : List AV) => kInt .i64 c fun (n_2 : Int) => kCons cs fun (c 
  : AV) (cs : List AV) => kInt .i64 c fun (n_3 : Int) => kCons cs fun (c : AV) (cs : List AV) => kStr c fun (s_1 : List UInt8) => kCons cs fun (c : AV) (cs : List AV) => kSl c fun (rows_1 
  : List (List AV)) => kNil cs (kOpt (EVs (EV cfg) 16 [.agg [.int .i64 n, .int .i64 n_1, .str s, .sl rows], .agg [.int .i64 n_2, .int .i64 n_3, .str s_1, .sl rows_1]]) fun (v : AV) => 
  kInt .i64 v fun (n : Int) => bif n != (0 : Int) then bif leInt (0 : Int) v5 && ltInt v5 (↑(List.length R) : Int) then kOpt (List.get?Internal R (Int.toNat v5)) fun (row : List AV) => 
  bif Nat.beq (List.length row) 4 then bif Nat.ble 4 (List.length row) then kCons (List.take 4 row) fun (c : AV) (cs : List AV) => kInt .i64 c fun (n : Int) => kCons cs fun (c : AV) (cs 
  : List AV) => kInt .i64 c fun (n_4 : Int) => kCons cs fun (c : AV) (cs : List AV) => kStr c fun (s : List UInt8) => kCons cs fun (c : AV) (cs : List AV) => kSl c fun (rows : List (List 
  AV)) => kNil cs (bif Nat.ble (0 + k) (List.length rs) && fitsIn (k + 1) 56 then Wd25_0 ((fx 37 [(3, .sl R), (4, .ms 0 0 (k + 1)), (5, .int .i64 (IntKind.wrap .i64 (v5 + (1 : Int))))]), 
  [.rows true 4 (List.append (List.take k rs) [[.int .i64 n, .int .i64 n_4, .str s, .sl rows]])]) else none) else none else none else none else Wd25_0 ((fx 37 [(3, .sl R), (4, .ms 0 0 
  k), (5, .int .i64 (IntKind.wrap .i64 (v5 + (1 : Int))))]), [.rows true 4 rs])) else none else none else none) else none else none else none else bif Nat.ble (0 + k) (List.length rs) 
  && true then some (.sl (List.take k rs)) else none) P) : Gets (wd25_0m R rs k v5) P :=
  Gets.ev (fun _ h => loop_step (cfg := cfg) (f := 25) (rd := none) h) (Gets.eq (by kernel_rfl) h)
theorem f70_run (off : Nat) (n : Nat) (rs : List (List AV)) {P : MV × List (List AV) → Prop} (h : Gets (bif leInt (0 : Int) (↑n : Int) && leInt (↑n : Int) (↑n : Int) then bif leInt (↑(Int.toNat (↑n : Int)) : Int) (↑n : Int) && leInt (↑n : Int) (↑n : Int) then some (MV.sl (off + 0) (Int.toNat 
  (↑n : Int) - 0), rs) else none else none) P) : Gets (EVm (EV cfg) 70 ([AV.ms (0 : Nat) off n] : List AV) 4 rs) P :=
  Gets.ev (fun _ h => funM rfl rfl Try.func70 rfl h) (Gets.eq (by kernel_rfl) h)
theorem f70n_run  {P : MV → Prop} (h : Gets (some MV.nil) P) : Gets (EVu (EV cfg) 70 ([AV.nilS] : List AV)) P :=
  Gets.ev (fun _ h => funU rfl rfl Try.func70 rfl h) (Gets.eq (by kernel_rfl) h)
theorem f71_run (off : Nat) (n : Nat) (rs : List (List AV)) {P : MV × List (List AV) → Prop} (h : Gets (bif decide ((↑n : Int) < (2 : Int)) then some (MV.sl off n, rs) else Wd71_0 ((fx 66 [(0, .ms 0 off n), (1, AV.fn (Fn.func 72) [] []), (5, .int .i64 (1 : Int))]), [.rows true 4 rs])) P) : Gets (EVm (EV cfg) 71 ([AV.ms (0 : Nat) off n, AV.fn (Fn.func (72 : Nat)) [] []] : List AV) 4 rs) P :=
  Gets.ev (fun _ h => funM rfl rfl Try.func71 rfl h) (Gets.eq (by kernel_rfl) h)
noncomputable abbrev wd71_0 (rs : List (List AV)) (off : Nat) (n : Nat) (v5 : Int) : Option (MV × List (List AV)) := Wd71_0 (((fx 66 [(0, AV.ms (0 : Nat) off n), (1, AV.fn (Fn.func (72 : Nat)) [] []), (5, AV.int IntKind.i64 v5)]) : List AV), ([ABlk.rows true (4 : Nat) rs] : AH))
theorem wd71_0_step (rs : List (List AV)) (off : Nat) (n : Nat) (v5 : Int) {P : MV × List (List AV) → Prop} (h : Gets (bif decide (v5 < (↑n : Int)) then bif leInt (0 : Int) v5 && ltInt v5 (↑n : Int) then kOpt (List.get?Internal rs (off + Int.toNat v5)) fun (row : List AV) => bif Nat.ble 4 (List.length 
  row) then kCons (List.take 4 row) fun (c : AV) (cs : List AV) => kInt .i64 c fun (n_1 : Int) => kCons cs fun (c : AV) (cs : List AV) => kInt .i64 c fun (n_2 : Int) => kCons cs fun (c 
  : AV) (cs : List AV) => kStr c fun (s : List UInt8) => kCons cs fun (c : AV) (cs : List AV) => kSl c fun (rows : List (List AV)) => kNil cs (bif leInt (0 : Int) (IntKind.wrap .i64 (v5 
  - (1 : Int))) && ltInt (IntKind.wrap .i64 (v5 - (1 : Int))) (↑n : Int) then kOpt (List.get?Internal rs (off + Int.toNat (IntKind.wrap .i64 (v5 - (1 : Int))))) fun (row : List AV) => 
  bif Nat.ble 4 (List.length row) then kCons (List.take 4 row) fun (c : AV) (cs : List AV) => kInt .i64 c fun (n_3 : Int) => kCons cs fun (c : AV) (cs : List AV) => kInt .i64 c fun (n_4 
  : Int) => kCons cs fun (c : AV) (cs : List AV) => kStr c fun (s_1 : List UInt8) => kCons cs fun (c : AV) (cs : List AV) => kSl c fun (rows_1 : List (List AV)) => kNil cs (kOpt (EVs 
  (EV cfg) 72 [.agg [.int .i64 n_1, .int .i64 n_2, .str s, .sl rows], .agg [.int .i64 n_3, .int .i64 n_4, .str s_1, .sl rows_1]]) fun (v : AV) => kBool v fun (b : Bool) => bif b then 
  bif leInt (0 : Int) v5 && leInt v5 (↑n : Int) then Wd71_1 ((fx 66 [(0, .ms 0 off n), (1, AV.fn (Fn.func 72) [] []), (5, .int .i64 v5), (6, .ms 0 (off + Int.toNat v5) (n - Int.toNat 
  v5)), (7, .int .i64 (1 : Int))]), [.rows true 4 rs]) else none else Wd71_0 ((fx 66 [(0, .ms 0 off n), (1, AV.fn (Fn.func 72) [] []), (5, .int .i64 (IntKind.wrap .i64 (v5 + (1 : Int))))]), 
  [.rows true 4 rs])) else none else none) else none else none else some (MV.sl off n, rs)) P) : Gets (wd71_0 rs off n v5) P :=
  Gets.ev (fun _ h => loop_step (cfg := cfg) (f := 71) (rd := none) h) (Gets.eq (by kernel_rfl) h)
end Go.Proofs.Ytpbfmaodnihpeaa
end

section
/-
  What is left of the functions' evaluation at arguments with variables, printed by a program of ours (resid.py) and checked by the kernel.
  What is proved: each equation as it stands; no condition.
-/
namespace Go.Proofs.Ytpbfmaodnihpeaa
open Go.Av
set_option maxRecDepth 100000
set_option maxHeartbeats 0

noncomputable def L98_0 : Den := evC cfg (EV cfg) 98 none (sub (bodyOf Try.f98) [1, 1, 0, 0, 0])
noncomputable def A98_0 : Ex × List AV × AH → Option (MV × List (List AV)) := kAft (Cfg.keepOut cfg 98 2) (kRun cfg (EV cfg) (kfN cfg 6) 98 none (kFinM cfg 4 Try.f98.results.toList) ([.block 0, .seq (sub (bodyOf Try.f98) [1, 1, 1])]))
noncomputable def W98_0 : List AV × AH → Option (MV × List (List AV)) := fun p => kOpt (LOOP 1 (some [0, 1, 2, 6, 7, 8]) L98_0 p) A98_0
noncomputable def L108_0 : Den := evC cfg (EV cfg) 108 none (sub (bodyOf Try.f108) [1, 0, 0])
noncomputable def A108_0 : Ex × List AV × AH → Option (MV × List (List AV)) := kAft (Cfg.keepOut cfg 108 1) (kRun cfg (EV cfg) (kfN cfg 6) 108 none (kFinM cfg 4 Try.f108.results.toList) ([.block 0]))
noncomputable def W108_0 : List AV × AH → Option (MV × List (List AV)) := fun p => kOpt (LOOP 1 (some [0, 1, 2, 3, 8]) L108_0 p) A108_0
noncomputable def L109_0 : Den := evC cfg (EV cfg) 109 none (sub (bodyOf Try.f109) [0, 1, 0, 1, 1, 0, 0, 0])
noncomputable def A109_0 : Ex × List AV × AH → Option (MV × List (List AV)) := kAft (Cfg.keepOut cfg 109 3) (kRun cfg (EV cfg) (kfN cfg 6) 109 none (kFinM cfg 4 Try.f109.results.toList) ([.block 0, .seq (sub (bodyOf Try.f109) [0, 1, 0, 1, 1, 1]), .seq (sub (bodyOf Try.f109) [1])]))
noncomputable def W109_0 : List AV × AH → Option (MV × List (List AV)) := fun p => kOpt (LOOP 1 (some [0, 1, 4, 10, 11]) L109_0 p) A109_0
noncomputable def L109_1 : Den := evC cfg (EV cfg) 109 none (sub (bodyOf Try.f109) [1, 0, 1, 0, 1, 1, 0, 0, 0])
noncomputable def A109_1 : Ex × List AV × AH → Option (MV × List (List AV)) := kAft (Cfg.keepOut cfg 109 15) (kRun cfg (EV cfg) (kfN cfg 6) 109 none (kFinM cfg 4 Try.f109.results.toList) ([.block 4, .seq (sub (bodyOf Try.f109) [1, 0, 1, 0, 1, 1, 1]), .seq (sub (bodyOf Try.f109) [1, 1])]))
noncomputable def W109_1 : List AV × AH → Option (MV × List (List AV)) := fun p => kOpt (LOOP 1 (some [0, 2, 4, 14, 15]) L109_1 p) A109_1
noncomputable def L109_2 : Den := evC cfg (EV cfg) 109 none (sub (bodyOf Try.f109) [1, 1, 1, 1, 1, 1, 1, 0, 0, 0])
noncomputable def A109_2 : Ex × List AV × AH → Option (MV × List (List AV)) := kAft (Cfg.keepOut cfg 109 33) (kRun cfg (EV cfg) (kfN cfg 6) 109 none (kFinM cfg 4 Try.f109.results.toList) ([.block 8, .seq (sub (bodyOf Try.f109) [1, 1, 1, 1, 1, 1, 1, 1])]))
noncomputable def W109_2 : List AV × AH → Option (MV × List (List AV)) := fun p => kOpt (LOOP 1 (some [0, 1, 2, 3, 4, 18, 19, 20, 21, 22]) L109_2 p) A109_2
noncomputable def L116_0 : Den := evC cfg (EV cfg) 116 none (sub (bodyOf Try.f116) [1, 1, 0, 0, 0])
noncomputable def A116_0 : Ex × List AV × AH → Option (MV × List (List AV)) := kAft (Cfg.keepOut cfg 116 2) (kRun cfg (EV cfg) (kfN cfg 6) 116 none (kFinM cfg 4 Try.f116.results.toList) ([.block 0, .seq (sub (bodyOf Try.f116) [1, 1, 1])]))
noncomputable def W116_0 : List AV × AH → Option (MV × List (List AV)) := fun p => kOpt (LOOP 1 (some [0, 2, 4, 10, 11]) L116_0 p) A116_0
noncomputable def L118_0 : Den := evC cfg (EV cfg) 118 none (sub (bodyOf Try.f118) [1, 0, 0])
noncomputable def A118_0 : Ex × List AV × AH → Option (MV × List (List AV)) := kAft (Cfg.keepOut cfg 118 1) (kRun cfg (EV cfg) (kfN cfg 6) 118 none (kFinM cfg 4 Try.f118.results.toList) ([.block 0]))
noncomputable def W118_0 : List AV × AH → Option (MV × List (List AV)) := fun p => kOpt (LOOP 1 (some [0, 1, 2, 3, 10]) L118_0 p) A118_0
noncomputable def L98_1 : Den := evC cfg (EV cfg) 98 none (sub (bodyOf Try.f98) [1, 1, 1, 1, 0, 0])
noncomputable def A98_1 : Ex × List AV × AH → Option (MV × List (List AV)) := kAft (Cfg.keepOut cfg 98 7) (kRun cfg (EV cfg) (kfN cfg 6) 98 none (kFinM cfg 4 Try.f98.results.toList) ([.block 2]))
noncomputable def W98_1 : List AV × AH → Option (MV × List (List AV)) := fun p => kOpt (LOOP 1 (some [0, 1, 2, 6]) L98_1 p) A98_1
noncomputable def L108_1 : Den := evC cfg (EV cfg) 108 none (sub (bodyOf Try.f108) [1, 0, 0, 1, 0, 0, 1, 0, 0])
noncomputable def A108_1 : Ex × List AV × AH → Option (MV × List (List AV)) := kAft (Cfg.keepOut cfg 108 4) (kRun cfg (EV cfg) (kfN cfg 6) 108 none (kLp 1 (some [0, 1, 2, 3, 8]) L108_0 A108_0) ([.block 2, .block 1, .seq (sub (bodyOf Try.f108) [1, 0, 0, 1, 1])]))
noncomputable def W108_1 : List AV × AH → Option (MV × List (List AV)) := fun p => kOpt (LOOP 1 (some [0, 1, 2, 3, 8, 9]) L108_1 p) A108_1
noncomputable def L109_3 : Den := evC cfg (EV cfg) 109 none (sub (bodyOf Try.f109) [0, 1, 0, 1, 1, 1, 0, 1, 0, 0])
noncomputable def A109_3 : Ex × List AV × AH → Option (MV × List (List AV)) := kAft (Cfg.keepOut cfg 109 9) (kRun cfg (EV cfg) (kfN cfg 6) 109 none (kFinM cfg 4 Try.f109.results.toList) ([.block 2, .seq (sub (bodyOf Try.f109) [0, 1, 0, 1, 1, 1, 1]), .seq (sub (bodyOf Try.f109) [1])]))
noncomputable def W109_3 : List AV × AH → Option (MV × List (List AV)) := fun p => kOpt (LOOP 1 (some [0, 10, 13]) L109_3 p) A109_3
noncomputable def L109_4 : Den := evC cfg (EV cfg) 109 none (sub (bodyOf Try.f109) [1, 0, 1, 0, 1, 1, 1, 0, 1, 0, 0])
noncomputable def A109_4 : Ex × List AV × AH → Option (MV × List (List AV)) := kAft (Cfg.keepOut cfg 109 21) (kRun cfg (EV cfg) (kfN cfg 6) 109 none (kFinM cfg 4 Try.f109.results.toList) ([.block 6, .seq (sub (bodyOf Try.f109) [0, 1, 0, 1, 1, 1, 1]), .seq (sub (bodyOf Try.f109) [1, 1])]))
noncomputable def W109_4 : List AV × AH → Option (MV × List (List AV)) := fun p => kOpt (LOOP 1 (some [0, 14, 17]) L109_4 p) A109_4
noncomputable def L98_2 : Den := evC cfg (EV cfg) 98 none (sub (bodyOf Try.f98) [1, 1, 1, 1, 0, 0, 1, 0, 1, 0, 0, 0])
noncomputable def A98_2 : Ex × List AV × AH → Option (MV × List (List AV)) := kAft (Cfg.keepOut cfg 98 9) (kRun cfg (EV cfg) (kfN cfg 6) 98 none (kLp 1 (some [0, 1, 2, 6]) L98_1 A98_1) ([.block 4, .seq (sub (bodyOf Try.f98) [1, 1, 1, 1, 0, 0, 1, 0, 1, 1]), .block 3]))
noncomputable def W98_2 : List AV × AH → Option (MV × List (List AV)) := fun p => kOpt (LOOP 1 (some [0, 1, 2, 6, 7, 8]) L98_2 p) A98_2
theorem f68n_run  {P : OV → Prop} (h : Gets (some OV.nil) P) : Gets (EVo (EV cfg) 68 ([AV.nilS] : List AV)) P :=
  Gets.ev (fun _ h => funO rfl rfl Try.func68 rfl h) (Gets.eq (by kernel_rfl) h)
theorem f68e_run  {P : OV → Prop} (h : Gets (some (OV.own 4 [] 0 0)) P) : Gets (EVo (EV cfg) 68 ([AV.em] : List AV)) P :=
  Gets.ev (fun _ h => funO rfl rfl Try.func68 rfl h) (Gets.eq (by kernel_rfl) h)
theorem f68_run (r : List AV) (A : List (List AV)) {P : OV → Prop} (h : Gets (bif rowsOk 4 (r :: A) then bif fitsIn (0 + List.length (r :: A)) 56 then some (OV.own 4 (r :: A) 0 (0 + List.length (r :: A))) else none else none) P) : Gets (EVo (EV cfg) 68 ([AV.sl (r :: A)] : List AV)) P :=
  Gets.ev (fun _ h => funO rfl rfl Try.func68 rfl h) (Gets.eq (by kernel_rfl) h)
theorem f69_run (off : Nat) (n : Nat) (rs : List (List AV)) {P : MV × List (List AV) → Prop} (h : Gets (kOpt (EVm (EV cfg) 98 [.ms 0 off n, .int .i64 (↑n : Int), AV.fn (Fn.func 15) [] []] 4 rs) fun (q : MV × List (List AV)) => kMUnit q.1 (some (MV.unit, q.2))) P) : Gets (EVm (EV cfg) 69 ([AV.ms (0 : Nat) off n, AV.fn (Fn.func (15 : Nat)) [] []] : List AV) 4 rs) P :=
  Gets.ev (fun _ h => funM rfl rfl Try.func69 rfl h) (Gets.eq (by kernel_rfl) h)
theorem f69n_run  {P : MV → Prop} (h : Gets (kOpt (EVu (EV cfg) 98 [.nilS, .int .i64 (0 : Int), AV.fn (Fn.func 15) [] []]) fun (v : MV) => kMUnit v (some MV.unit)) P) : Gets (EVu (EV cfg) 69 ([AV.nilS, AV.fn (Fn.func (15 : Nat)) [] []] : List AV)) P :=
  Gets.ev (fun _ h => funU rfl rfl Try.func69 rfl h) (Gets.eq (by kernel_rfl) h)
theorem f98_run (off : Nat) (n : Nat) (m : Int) (rs : List (List AV)) {P : MV × List (List AV) → Prop} (h : Gets (W98_0 ((fx 63 [(0, .ms 0 off n), (1, .int .i64 m), (2, AV.fn (Fn.func 15) [] []), (6, .int .i64 (20 : Int)), (7, .int .i64 (0 : Int)), (8, .int .i64 (20 : Int))]), [.rows true 4 rs])) P) : Gets (EVm (EV cfg) 98 ([AV.ms (0 : Nat) off n, AV.int IntKind.i64 m, AV.fn (Fn.func (15 : Nat)) [] []] : List AV) 4 rs) P :=
  Gets.ev (fun _ h => funM rfl rfl Try.func98 rfl h) (Gets.eq (by kernel_rfl) h)
noncomputable abbrev w98_0 (rs : List (List AV)) (off : Nat) (n : Nat) (m : Int) (v7 : Int) (v8 : Int) : Option (MV × List (List AV)) := W98_0 (((fx 63 [(0, AV.ms (0 : Nat) off n), (1, AV.int IntKind.i64 m), (2, AV.fn (Fn.func (15 : Nat)) [] []), (6, AV.int IntKind.i64 (20 : Int)), (7, AV.int IntKind.i64 v7), (8, AV.int IntKind.i64 v8)]) : List AV), ([ABlk.rows true (4 : Nat) rs] : AH))
theorem w98_0_step (rs : List (List AV)) (off : Nat) (n : Nat) (m : Int) (v7 : Int) (v8 : Int) {P : MV × List (List AV) → Prop} (h : Gets (bif decide (v8 ≤ m) then kOpt (EVm (EV cfg) 108 [.ms 0 off n, .int .i64 v7, .int .i64 v8, AV.fn (Fn.func 15) [] []] 4 rs) fun (q : MV × List (List AV)) => kMUnit q.1 (W98_0 ((fx 63 
  [(0, .ms 0 off n), (1, .int .i64 m), (2, AV.fn (Fn.func 15) [] []), (6, .int .i64 (20 : Int)), (7, .int .i64 v8), (8, .int .i64 (IntKind.wrap .i64 (v8 + (20 : Int))))]), [.rows true 
  4 q.2])) else kOpt (EVm (EV cfg) 108 [.ms 0 off n, .int .i64 v7, .int .i64 m, AV.fn (Fn.func 15) [] []] 4 rs) fun (q : MV × List (List AV)) => kMUnit q.1 (W98_1 ((fx 63 [(0, .ms 0 off 
  n), (1, .int .i64 m), (2, AV.fn (Fn.func 15) [] []), (6, .int .i64 (20 : Int))]), [.rows true 4 q.2]))) P) : Gets (w98_0 rs off n m v7 v8) P :=
  Gets.ev (fun _ h => loop_step (cfg := cfg) (f := 98) (rd := none) h) (Gets.eq (by kernel_rfl) h)
noncomputable abbrev w98_1 (rs : List (List AV)) (off : Nat) (n : Nat) (m : Int) (v6 : Int) : Option (MV × List (List AV)) := W98_1 (((fx 63 [(0, AV.ms (0 : Nat) off n), (1, AV.int IntKind.i64 m), (2, AV.fn (Fn.func (15 : Nat)) [] []), (6, AV.int IntKind.i64 v6)]) : List AV), ([ABlk.rows true (4 : Nat) rs] : AH))
theorem w98_1_step (rs : List (List AV)) (off : Nat) (n : Nat) (m : Int) (v6 : Int) {P : MV × List (List AV) → Prop} (h : Gets (bif decide (v6 < m) then W98_2 ((fx 63 [(0, .ms 0 off n), (1, .int .i64 m), (2, AV.fn (Fn.func 15) [] []), (6, .int .i64 v6), (7, .int .i64 (0 : Int)), (8, .int .i64 (IntKind.wrap .i64 
  ((2 : Int) * v6)))]), [.rows true 4 rs]) else some (MV.unit, rs)) P) : Gets (w98_1 rs off n m v6) P :=
  Gets.ev (fun _ h => loop_step (cfg := cfg) (f := 98) (rd := none) h) (Gets.eq (by kernel_rfl) h)
noncomputable abbrev w98_2 (rs : List (List AV)) (off : Nat) (n : Nat) (m : Int) (v6 : Int) (v7 : Int) (v8 : Int) : Option (MV × List (List AV)) := W98_2 (((fx 63 [(0, AV.ms (0 : Nat) off n), (1, AV.int IntKind.i64 m), (2, AV.fn (Fn.func (15 : Nat)) [] []), (6, AV.int IntKind.i64 v6), (7, AV.int IntKind.i64 v7), (8, AV.int IntKind.i64 v8)]) : List AV), ([ABlk.rows true (4 : Nat) rs] : AH))
theorem w98_2_step (rs : List (List AV)) (off : Nat) (n : Nat) (m : Int) (v6 : Int) (v7 : Int) (v8 : Int) {P : MV × List (List AV) → Prop} (h : Gets (bif decide (v8 ≤ m) then kOpt (EVm (EV cfg) 109 [.ms 0 off n, .int .i64 v7, .int .i64 (IntKind.wrap .i64 (v7 + v6)), .int .i64 v8, AV.fn (Fn.func 15) [] []] 4 rs) fun (q : MV × List 
  (List AV)) => kMUnit q.1 (W98_2 ((fx 63 [(0, .ms 0 off n), (1, .int .i64 m), (2, AV.fn (Fn.func 15) [] []), (6, .int .i64 v6), (7, .int .i64 v8), (8, .int .i64 (IntKind.wrap .i64 (v8 
  + IntKind.wrap .i64 ((2 : Int) * v6))))]), [.rows true 4 q.2])) else bif decide (IntKind.wrap .i64 (v7 + v6) < m) then kOpt (EVm (EV cfg) 109 [.ms 0 off n, .int .i64 v7, .int .i64 (IntKind.wrap 
  .i64 (v7 + v6)), .int .i64 m, AV.fn (Fn.func 15) [] []] 4 rs) fun (q : MV × List (List AV)) => kMUnit q.1 (W98_1 ((fx 63 [(0, .ms 0 off n), (1, .int .i64 m), (2, AV.fn (Fn.func 15) 
  [] []), (6, .int .i64 (IntKind.wrap .i64 (v6 * (2 : Int))))]), [.rows true 4 q.2])) else W98_1 ((fx 63 [(0, .ms 0 off n), (1, .int .i64 m), (2, AV.fn (Fn.func 15) [] []), (6, .int .i64 
  (IntKind.wrap .i64 (v6 * (2 : Int))))]), [.rows true 4 rs])) P) : Gets (w98_2 rs off n m v6 v7 v8) P :=
  Gets.ev (fun _ h => loop_step (cfg := cfg) (f := 98) (rd := none) h) (Gets.eq (by kernel_rfl) h)
theorem f108_run (off : Nat) (n : Nat) (a : Int) (b : Int) (rs : List (List AV)) {P : MV × List (List AV) → Prop} (h : Gets (W108_0 ((fx 53 [(0, .ms 0 off n), (1, .int .i64 a), (2, .int .i64 b), (3, AV.fn (Fn.func 15) [] []), (8, .int .i64 (IntKind.wrap .i64 (a + (1 : Int))))]), [.rows true 4 rs])) P) : Gets (EVm (EV cfg) 108 ([AV.ms (0 : Nat) off n, AV.int IntKind.i64 a, AV.int IntKind.i64 b, AV.fn (Fn.func (15 : Nat)) [] []] : List AV) 4 rs) P :=
  Gets.ev (fun _ h => funM rfl rfl Try.func108 rfl h) (Gets.eq (by kernel_rfl) h)
noncomputable abbrev w108_0 (rs : List (List AV)) (off : Nat) (n : Nat) (a : Int) (b : Int) (v8 : Int) : Option (MV × List (List AV)) := W108_0 (((fx 53 [(0, AV.ms (0 : Nat) off n), (1, AV.int IntKind.i64 a), (2, AV.int IntKind.i64 b), (3, AV.fn (Fn.func (15 : Nat)) [] []), (8, AV.int IntKind.i64 v8)]) : List AV), ([ABlk.rows true (4 : Nat) rs] : AH))
theorem w108_0_step (rs : List (List AV)) (off : Nat) (n : Nat) (a : Int) (b : Int) (v8 : Int) {P : MV × List (List AV) → Prop} (h : Gets (bif decide (v8 < b) then W108_1 ((fx 53 [(0, .ms 0 off n), (1, .int .i64 a), (2, .int .i64 b), (3, AV.fn (Fn.func 15) [] []), (8, .int .i64 v8), (9, .int .i64 v8)]), [.rows true 4 rs]) 
  else some (MV.unit, rs)) P) : Gets (w108_0 rs off n a b v8) P :=
  Gets.ev (fun _ h => loop_step (cfg := cfg) (f := 108) (rd := none) h) (Gets.eq (by kernel_rfl) h)
noncomputable abbrev w108_1 (rs : List (List AV)) (off : Nat) (n : Nat) (a : Int) (b : Int) (v8 : Int) (v9 : Int) : Option (MV × List (List AV)) := W108_1 (((fx 53 [(0, AV.ms (0 : Nat) off n), (1, AV.int IntKind.i64 a), (2, AV.int IntKind.i64 b), (3, AV.fn (Fn.func (15 : Nat)) [] []), (8, AV.int IntKind.i64 v8), (9, AV.int IntKind.i64 v9)]) : List AV), ([ABlk.rows true (4 : Nat) rs] : AH))
theorem w108_1_step (rs : List (List AV)) (off : Nat) (n : Nat) (a : Int) (b : Int) (v8 : Int) (v9 : Int) {P : MV × List (List AV) → Prop} (h : Gets (bif decide (v9 > a) then bif leInt (0 : Int) v9 && ltInt v9 (↑n : Int) then kOpt (List.get?Internal rs (off + Int.toNat v9)) fun (row : List AV) => bif Nat.ble 4 (List.length row) then 
  kCons (List.take 4 row) fun (c : AV) (cs : List AV) => kInt .i64 c fun (n_1 : Int) => kCons cs fun (c : AV) (cs : List AV) => kInt .i64 c fun (n_2 : Int) => kCons cs fun (c : AV) (cs 
  : List AV) => kStr c fun (s : List UInt8) => kCons cs fun (c : AV) (cs : List AV) => kSl c fun (rows : List (List AV)) => kNil cs (bif leInt (0 : Int) (IntKind.wrap .i64 (v9 - (1 : 
  Int))) && ltInt (IntKind.wrap .i64 (v9 - (1 : Int))) (↑n : Int) then kOpt (List.get?Internal rs (off + Int.toNat (IntKind.wrap .i64 (v9 - (1 : Int))))) fun (row : List AV) => bif Nat.ble 
  4 (List.length row) then kCons (List.take 4 row) fun (c : AV) (cs : List AV) => kInt .i64 c fun (n_3 : Int) => kCons cs fun (c : AV) (cs : List AV) => kInt .i64 c fun (n_4 : Int) => 
  kCons cs fun (c : AV) (cs : List AV) => kStr c fun (s_1 : List UInt8) => kCons cs fun (c : AV) (cs : List AV) => kSl c fun (rows_1 : List (List AV)) => kNil cs (kOpt (EVs (EV cfg) 15 
  [.agg [.int .i64 n_1, .int .i64 n_2, .str s, .sl rows], .agg [.int .i64 n_3, .int .i64 n_4, .str s_1, .sl rows_1]]) fun (v : AV) => kInt .i64 v fun (n_5 : Int) => bif decide (n_5 < 
  (0 : Int)) then bif leInt (0 : Int) (IntKind.wrap .i64 (v9 - (1 : Int))) && ltInt (IntKind.wrap .i64 (v9 - (1 : Int))) (↑n : Int) then kOpt (List.get?Internal rs (off + Int.toNat (IntKind.wrap 
  .i64 (v9 - (1 : Int))))) fun (row : List AV) => bif Nat.ble 4 (List.length row) then kCons (List.take 4 row) fun (c : AV) (cs : List AV) => kInt .i64 c fun (n_6 : Int) => kCons cs fun 
  (c : AV) (cs : List AV) => kInt .i64 c fun (n_7 : Int) => kCons cs fun (c : AV) (cs : List AV) => kStr c fun (s : List UInt8) => kCons cs fun (c : AV) (cs : List AV) => kSl c fun (rows 
  : List (List AV)) => kNil cs (bif leInt (0 : Int) v9 && ltInt v9 (↑n : Int) then kOpt (List.get?Internal rs (off + Int.toNat v9)) fun (row : List AV) => bif Nat.ble 4 (List.length row) 
  then kCons (List.take 4 row) fun (c : AV) (cs : List AV) => kInt .i64 c fun (n_8 : Int) => kCons cs fun (c : AV) (cs : List AV) => kInt .i64 c fun (n_9 : Int) => kCons cs fun (c : AV) 
  (cs : List AV) => kStr c fun (s_2 : List UInt8) => kCons cs fun (c : AV) (cs : List AV) => kSl c fun (rows_2 : List (List AV)) => kNil cs (bif leInt (0 : Int) v9 && ltInt v9 (↑n : Int) 
  then kOpt (List.get?Internal rs (off + Int.toNat v9)) fun (row : List AV) => bif Nat.ble 4 (List.length row) then bif leInt (0 : Int) (IntKind.wrap .i64 (v9 - (1 : Int))) && ltInt (IntKind.wrap 
  .i64 (v9 - (1 : Int))) (↑n : Int) then kOpt (List.get?Internal (List.set rs (off + Int.toNat v9) (.int .i64 n_6 :: .int .i64 n_7 :: .str s :: .sl rows :: List.drop 4 row)) (off + Int.toNat 
  (IntKind.wrap .i64 (v9 - (1 : Int))))) fun (row_1 : List AV) => bif Nat.ble 4 (List.length row_1) then W108_1 ((fx 53 [(0, .ms 0 off n), (1, .int .i64 a), (2, .int .i64 b), (3, AV.fn 
  (Fn.func 15) [] []), (8, .int .i64 v8), (9, .int .i64 (IntKind.wrap .i64 (v9 - (1 : Int))))]), [.rows true 4 (List.set (List.set rs (off + Int.toNat v9) (.int .i64 n_6 :: .int .i64 
  n_7 :: .str s :: .sl rows :: List.drop 4 row)) (off + Int.toNat (IntKind.wrap .i64 (v9 - (1 : Int)))) (.int .i64 n_8 :: .int .i64 n_9 :: .str s_2 :: .sl rows_2 :: List.drop 4 row_1))]) 
  else none else none else none else none) else none else none) else none else none else W108_0 ((fx 53 [(0, .ms 0 off n), (1, .int .i64 a), (2, .int .i64 b), (3, AV.fn (Fn.func 15) [] 
  []), (8, .int .i64 (IntKind.wrap .i64 (v8 + (1 : Int))))]), [.rows true 4 rs])) else none else none) else none else none else W108_0 ((fx 53 [(0, .ms 0 off n), (1, .int .i64 a), (2, 
  .int .i64 b), (3, AV.fn (Fn.func 15) [] []), (8, .int .i64 (IntKind.wrap .i64 (v8 + (1 : Int))))]), [.rows true 4 rs])) P) : Gets (w108_1 rs off n a b v8 v9) P :=
  Gets.ev (fun _ h => loop_step (cfg := cfg) (f := 108) (rd := none) h) (Gets.eq (by kernel_rfl) h)
theorem f109_run (off : Nat) (n : Nat) (a : Int) (m : Int) (b : Int) (rs : List (List AV)) {P : MV × List (List AV) → Prop} (h : Gets (bif IntKind.wrap .i64 (m - a) == (1 : Int) then W109_0 ((fx 220 [(0, .ms 0 off n), (1, .int .i64 a), (4, AV.fn (Fn.func 15) [] []), (10, .int .i64 m), (11, .int .i64 b)]), [.rows true 
  4 rs]) else bif IntKind.wrap .i64 (b - m) == (1 : Int) then W109_1 ((fx 220 [(0, .ms 0 off n), (2, .int .i64 m), (4, AV.fn (Fn.func 15) [] []), (14, .int .i64 a), (15, .int .i64 m)]), 
  [.rows true 4 rs]) else bif decide (m > IntKind.wrap .i64 (Int.fdiv (IntKind.wrap .u64 (IntKind.wrap .i64 (a + b))) (2 : Int))) then W109_2 ((fx 220 [(0, .ms 0 off n), (1, .int .i64 
  a), (2, .int .i64 m), (3, .int .i64 b), (4, AV.fn (Fn.func 15) [] []), (18, .int .i64 (IntKind.wrap .i64 (Int.fdiv (IntKind.wrap .u64 (IntKind.wrap .i64 (a + b))) (2 : Int)))), (19, 
  .int .i64 (IntKind.wrap .i64 (IntKind.wrap .i64 (Int.fdiv (IntKind.wrap .u64 (IntKind.wrap .i64 (a + b))) (2 : Int)) + m))), (20, .int .i64 (IntKind.wrap .i64 (IntKind.wrap .i64 (IntKind.wrap 
  .i64 (Int.fdiv (IntKind.wrap .u64 (IntKind.wrap .i64 (a + b))) (2 : Int)) + m) - b))), (21, .int .i64 (IntKind.wrap .i64 (Int.fdiv (IntKind.wrap .u64 (IntKind.wrap .i64 (a + b))) (2 
  : Int)))), (22, .int .i64 (IntKind.wrap .i64 (IntKind.wrap .i64 (IntKind.wrap .i64 (Int.fdiv (IntKind.wrap .u64 (IntKind.wrap .i64 (a + b))) (2 : Int)) + m) - (1 : Int))))]), [.rows 
  true 4 rs]) else W109_2 ((fx 220 [(0, .ms 0 off n), (1, .int .i64 a), (2, .int .i64 m), (3, .int .i64 b), (4, AV.fn (Fn.func 15) [] []), (18, .int .i64 (IntKind.wrap .i64 (Int.fdiv 
  (IntKind.wrap .u64 (IntKind.wrap .i64 (a + b))) (2 : Int)))), (19, .int .i64 (IntKind.wrap .i64 (IntKind.wrap .i64 (Int.fdiv (IntKind.wrap .u64 (IntKind.wrap .i64 (a + b))) (2 : Int)) 
  + m))), (20, .int .i64 a), (21, .int .i64 m), (22, .int .i64 (IntKind.wrap .i64 (IntKind.wrap .i64 (IntKind.wrap .i64 (Int.fdiv (IntKind.wrap .u64 (IntKind.wrap .i64 (a + b))) (2 : 
  Int)) + m) - (1 : Int))))]), [.rows true 4 rs])) P) : Gets (EVm (EV cfg) 109 ([AV.ms (0 : Nat) off n, AV.int IntKind.i64 a, AV.int IntKind.i64 m, AV.int IntKind.i64 b, AV.fn (Fn.func (15 : Nat)) [] []] : List AV) 4 rs) P :=
  Gets.ev (fun _ h => funM rfl rfl Try.func109 rfl h) (Gets.eq (by kernel_rfl) h)
noncomputable abbrev w109_0 (rs : List (List AV)) (off : Nat) (n : Nat) (a : Int) (v10 : Int) (v11 : Int) : Option (MV × List (List AV)) := W109_0 (((fx 220 [(0, AV.ms (0 : Nat) off n), (1, AV.int IntKind.i64 a), (4, AV.fn (Fn.func (15 : Nat)) [] []), (10, AV.int IntKind.i64 v10), (11, AV.int IntKind.i64 v11)]) : List AV), ([ABlk.rows true (4 : Nat) rs] : AH))
theorem w109_0_step (rs : List (List AV)) (off : Nat) (n : Nat) (a : Int) (v10 : Int) (v11 : Int) {P : MV × List (List AV) → Prop} (h : Gets (bif decide (v10 < v11) then bif leInt (0 : Int) (IntKind.wrap .i64 (Int.fdiv (IntKind.wrap .u64 (IntKind.wrap .i64 (v10 + v11))) (2 : Int))) && ltInt (IntKind.wrap .i64 (Int.fdiv (IntKind.wrap 
  .u64 (IntKind.wrap .i64 (v10 + v11))) (2 : Int))) (↑n : Int) then kOpt (List.get?Internal rs (off + Int.toNat (IntKind.wrap .i64 (Int.fdiv (IntKind.wrap .u64 (IntKind.wrap .i64 (v10 
  + v11))) (2 : Int))))) fun (row : List AV) => bif Nat.ble 4 (List.length row) then kCons (List.take 4 row) fun (c : AV) (cs : List AV) => kInt .i64 c fun (n_1 : Int) => kCons cs fun 
  (c : AV) (cs : List AV) => kInt .i64 c fun (n_2 : Int) => kCons cs fun (c : AV) (cs : List AV) => kStr c fun (s : List UInt8) => kCons cs fun (c : AV) (cs : List AV) => kSl c fun (rows 
  : List (List AV)) => kNil cs (bif leInt (0 : Int) a && ltInt a (↑n : Int) then kOpt (List.get?Internal rs (off + Int.toNat a)) fun (row : List AV) => bif Nat.ble 4 (List.length row) 
  then kCons (List.take 4 row) fun (c : AV) (cs : List AV) => kInt .i64 c fun (n_3 : Int) => kCons cs fun (c : AV) (cs : List AV) => kInt .i64 c fun (n_4 : Int) => kCons cs fun (c : AV) 
  (cs : List AV) => kStr c fun (s_1 : List UInt8) => kCons cs fun (c : AV) (cs : List AV) => kSl c fun (rows_1 : List (List AV)) => kNil cs (kOpt (EVs (EV cfg) 15 [.agg [.int .i64 n_1, 
  .int .i64 n_2, .str s, .sl rows], .agg [.int .i64 n_3, .int .i64 n_4, .str s_1, .sl rows_1]]) fun (v : AV) => kInt .i64 v fun (n_5 : Int) => bif decide (n_5 < (0 : Int)) then W109_0 
  ((fx 220 [(0, .ms 0 off n), (1, .int .i64 a), (4, AV.fn (Fn.func 15) [] []), (10, .int .i64 (IntKind.wrap .i64 (IntKind.wrap .i64 (Int.fdiv (IntKind.wrap .u64 (IntKind.wrap .i64 (v10 
  + v11))) (2 : Int)) + (1 : Int)))), (11, .int .i64 v11)]), [.rows true 4 rs]) else W109_0 ((fx 220 [(0, .ms 0 off n), (1, .int .i64 a), (4, AV.fn (Fn.func 15) [] []), (10, .int .i64 
  v10), (11, .int .i64 (IntKind.wrap .i64 (Int.fdiv (IntKind.wrap .u64 (IntKind.wrap .i64 (v10 + v11))) (2 : Int))))]), [.rows true 4 rs])) else none else none) else none else none else 
  W109_3 ((fx 220 [(0, .ms 0 off n), (10, .int .i64 v10), (13, .int .i64 a)]), [.rows true 4 rs])) P) : Gets (w109_0 rs off n a v10 v11) P :=
  Gets.ev (fun _ h => loop_step (cfg := cfg) (f := 109) (rd := none) h) (Gets.eq (by kernel_rfl) h)
noncomputable abbrev w109_1 (rs : List (List AV)) (off : Nat) (n : Nat) (m : Int) (v14 : Int) (v15 : Int) : Option (MV × List (List AV)) := W109_1 (((fx 220 [(0, AV.ms (0 : Nat) off n), (2, AV.int IntKind.i64 m), (4, AV.fn (Fn.func (15 : Nat)) [] []), (14, AV.int IntKind.i64 v14), (15, AV.int IntKind.i64 v15)]) : List AV), ([ABlk.rows true (4 : Nat) rs] : AH))
theorem w109_1_step (rs : List (List AV)) (off : Nat) (n : Nat) (m : Int) (v14 : Int) (v15 : Int) {P : MV × List (List AV) → Prop} (h : Gets (bif decide (v14 < v15) then bif leInt (0 : Int) m && ltInt m (↑n : Int) then kOpt (List.get?Internal rs (off + Int.toNat m)) fun (row : List AV) => bif Nat.ble 4 (List.length row) then 
  kCons (List.take 4 row) fun (c : AV) (cs : List AV) => kInt .i64 c fun (n_1 : Int) => kCons cs fun (c : AV) (cs : List AV) => kInt .i64 c fun (n_2 : Int) => kCons cs fun (c : AV) (cs 
  : List AV) => kStr c fun (s : List UInt8) => kCons cs fun (c : AV) (cs : List AV) => kSl c fun (rows : List (List AV)) => kNil cs (bif leInt (0 : Int) (IntKind.wrap .i64 (Int.fdiv (IntKind.wrap 
  .u64 (IntKind.wrap .i64 (v14 + v15))) (2 : Int))) && ltInt (IntKind.wrap .i64 (Int.fdiv (IntKind.wrap .u64 (IntKind.wrap .i64 (v14 + v15))) (2 : Int))) (↑n : Int) then kOpt (List.get?Internal 
  rs (off + Int.toNat (IntKind.wrap .i64 (Int.fdiv (IntKind.wrap .u64 (IntKind.wrap .i64 (v14 + v15))) (2 : Int))))) fun (row : List AV) => bif Nat.ble 4 (List.length row) then kCons 
  (List.take 4 row) fun (c : AV) (cs : List AV) => kInt .i64 c fun (n_3 : Int) => kCons cs fun (c : AV) (cs : List AV) => kInt .i64 c fun (n_4 : Int) => kCons cs fun (c : AV) (cs : List 
  AV) => kStr c fun (s_1 : List UInt8) => kCons cs fun (c : AV) (cs : List AV) => kSl c fun (rows_1 : List (List AV)) => kNil cs (kOpt (EVs (EV cfg) 15 [.agg [.int .i64 n_1, .int .i64 
  n_2, .str s, .sl rows], .agg [.int .i64 n_3, .int .i64 n_4, .str s_1, .sl rows_1]]) fun (v : AV) => kInt .i64 v fun (n_5 : Int) => bif !decide (n_5 < (0 : Int)) then W109_1 ((fx 220 
  [(0, .ms 0 off n), (2, .int .i64 m), (4, AV.fn (Fn.func 15) [] []), (14, .int .i64 (IntKind.wrap .i64 (IntKind.wrap .i64 (Int.fdiv (IntKind.wrap .u64 (IntKind.wrap .i64 (v14 + v15))) 
  (2 : Int)) + (1 : Int)))), (15, .int .i64 v15)]), [.rows true 4 rs]) else W109_1 ((fx 220 [(0, .ms 0 off n), (2, .int .i64 m), (4, AV.fn (Fn.func 15) [] []), (14, .int .i64 v14), (15, 
  .int .i64 (IntKind.wrap .i64 (Int.fdiv (IntKind.wrap .u64 (IntKind.wrap .i64 (v14 + v15))) (2 : Int))))]), [.rows true 4 rs])) else none else none) else none else none else W109_4 ((fx 
  220 [(0, .ms 0 off n), (14, .int .i64 v14), (17, .int .i64 m)]), [.rows true 4 rs])) P) : Gets (w109_1 rs off n m v14 v15) P :=
  Gets.ev (fun _ h => loop_step (cfg := cfg) (f := 109) (rd := none) h) (Gets.eq (by kernel_rfl) h)
noncomputable abbrev w109_2 (rs : List (List AV)) (mid : Int) (nn : Int) (pp : Int) (off : Nat) (n : Nat) (a : Int) (m : Int) (b : Int) (v20 : Int) (v21 : Int) : Option (MV × List (List AV)) := W109_2 (((fx 220 [(0, AV.ms (0 : Nat) off n), (1, AV.int IntKind.i64 a), (2, AV.int IntKind.i64 m), (3, AV.int IntKind.i64 b), (4, AV.fn (Fn.func (15 : Nat)) [] []), (18, AV.int IntKind.i64 mid), (19, AV.int IntKind.i64 nn), (20, AV.int IntKind.i64 v20), (21, AV.int IntKind.i64 v21), (22, AV.int IntKind.i64 pp)]) : List AV), ([ABlk.rows true (4 : Nat) rs] : AH))
theorem w109_2_step (rs : List (List AV)) (mid : Int) (nn : Int) (pp : Int) (off : Nat) (n : Nat) (a : Int) (m : Int) (b : Int) (v20 : Int) (v21 : Int) {P : MV × List (List AV) → Prop} (h : Gets (bif decide (v20 < v21) then bif leInt (0 : Int) (IntKind.wrap .i64 (pp - IntKind.wrap .i64 (Int.fdiv (IntKind.wrap .u64 (IntKind.wrap .i64 (v20 + v21))) (2 : Int)))) && ltInt (IntKind.wrap 
  .i64 (pp - IntKind.wrap .i64 (Int.fdiv (IntKind.wrap .u64 (IntKind.wrap .i64 (v20 + v21))) (2 : Int)))) (↑n : Int) then kOpt (List.get?Internal rs (off + Int.toNat (IntKind.wrap .i64 
  (pp - IntKind.wrap .i64 (Int.fdiv (IntKind.wrap .u64 (IntKind.wrap .i64 (v20 + v21))) (2 : Int)))))) fun (row : List AV) => bif Nat.ble 4 (List.length row) then kCons (List.take 4 row) 
  fun (c : AV) (cs : List AV) => kInt .i64 c fun (n_1 : Int) => kCons cs fun (c : AV) (cs : List AV) => kInt .i64 c fun (n_2 : Int) => kCons cs fun (c : AV) (cs : List AV) => kStr c fun 
  (s : List UInt8) => kCons cs fun (c : AV) (cs : List AV) => kSl c fun (rows : List (List AV)) => kNil cs (bif leInt (0 : Int) (IntKind.wrap .i64 (Int.fdiv (IntKind.wrap .u64 (IntKind.wrap 
  .i64 (v20 + v21))) (2 : Int))) && ltInt (IntKind.wrap .i64 (Int.fdiv (IntKind.wrap .u64 (IntKind.wrap .i64 (v20 + v21))) (2 : Int))) (↑n : Int) then kOpt (List.get?Internal rs (off 
  + Int.toNat (IntKind.wrap .i64 (Int.fdiv (IntKind.wrap .u64 (IntKind.wrap .i64 (v20 + v21))) (2 : Int))))) fun (row : List AV) => bif Nat.ble 4 (List.length row) then kCons (List.take 
  4 row) fun (c : AV) (cs : List AV) => kInt .i64 c fun (n_3 : Int) => kCons cs fun (c : AV) (cs : List AV) => kInt .i64 c fun (n_4 : Int) => kCons cs fun (c : AV) (cs : List AV) => kStr 
  c fun (s_1 : List UInt8) => kCons cs fun (c : AV) (cs : List AV) => kSl c fun (rows_1 : List (List AV)) => kNil cs (kOpt (EVs (EV cfg) 15 [.agg [.int .i64 n_1, .int .i64 n_2, .str s, 
  .sl rows], .agg [.int .i64 n_3, .int .i64 n_4, .str s_1, .sl rows_1]]) fun (v : AV) => kInt .i64 v fun (n_5 : Int) => bif !decide (n_5 < (0 : Int)) then W109_2 ((fx 220 [(0, .ms 0 off 
  n), (1, .int .i64 a), (2, .int .i64 m), (3, .int .i64 b), (4, AV.fn (Fn.func 15) [] []), (18, .int .i64 mid), (19, .int .i64 nn), (20, .int .i64 (IntKind.wrap .i64 (IntKind.wrap .i64 
  (Int.fdiv (IntKind.wrap .u64 (IntKind.wrap .i64 (v20 + v21))) (2 : Int)) + (1 : Int)))), (21, .int .i64 v21), (22, .int .i64 pp)]), [.rows true 4 rs]) else W109_2 ((fx 220 [(0, .ms 
  0 off n), (1, .int .i64 a), (2, .int .i64 m), (3, .int .i64 b), (4, AV.fn (Fn.func 15) [] []), (18, .int .i64 mid), (19, .int .i64 nn), (20, .int .i64 v20), (21, .int .i64 (IntKind.wrap 
  .i64 (Int.fdiv (IntKind.wrap .u64 (IntKind.wrap .i64 (v20 + v21))) (2 : Int)))), (22, .int .i64 pp)]), [.rows true 4 rs])) else none else none) else none else none else bif decide (v20 
  < m) then bif decide (m < IntKind.wrap .i64 (nn - v20)) then kOpt (EVm (EV cfg) 116 [.ms 0 off n, .int .i64 v20, .int .i64 m, .int .i64 (IntKind.wrap .i64 (nn - v20)), AV.fn (Fn.func 
  15) [] []] 4 rs) fun (q : MV × List (List AV)) => kMUnit q.1 (bif decide (a < v20) then bif decide (v20 < mid) then kOpt (EVm (EV cfg) 109 [.ms 0 off n, .int .i64 a, .int .i64 v20, 
  .int .i64 mid, AV.fn (Fn.func 15) [] []] 4 q.2) fun (q : MV × List (List AV)) => kMUnit q.1 (bif decide (mid < IntKind.wrap .i64 (nn - v20)) then bif decide (IntKind.wrap .i64 (nn - 
  v20) < b) then kOpt (EVm (EV cfg) 109 [.ms 0 off n, .int .i64 mid, .int .i64 (IntKind.wrap .i64 (nn - v20)), .int .i64 b, AV.fn (Fn.func 15) [] []] 4 q.2) fun (q : MV × List (List AV)) 
  => kMUnit q.1 (some (MV.unit, q.2)) else some (MV.unit, q.2) else some (MV.unit, q.2)) else bif decide (mid < IntKind.wrap .i64 (nn - v20)) then bif decide (IntKind.wrap .i64 (nn - 
  v20) < b) then kOpt (EVm (EV cfg) 109 [.ms 0 off n, .int .i64 mid, .int .i64 (IntKind.wrap .i64 (nn - v20)), .int .i64 b, AV.fn (Fn.func 15) [] []] 4 q.2) fun (q : MV × List (List AV)) 
  => kMUnit q.1 (some (MV.unit, q.2)) else some (MV.unit, q.2) else some (MV.unit, q.2) else bif decide (mid < IntKind.wrap .i64 (nn - v20)) then bif decide (IntKind.wrap .i64 (nn - v20) 
  < b) then kOpt (EVm (EV cfg) 109 [.ms 0 off n, .int .i64 mid, .int .i64 (IntKind.wrap .i64 (nn - v20)), .int .i64 b, AV.fn (Fn.func 15) [] []] 4 q.2) fun (q : MV × List (List AV)) => 
  kMUnit q.1 (some (MV.unit, q.2)) else some (MV.unit, q.2) else some (MV.unit, q.2)) else bif decide (a < v20) then bif decide (v20 < mid) then kOpt (EVm (EV cfg) 109 [.ms 0 off n, .int 
  .i64 a, .int .i64 v20, .int .i64 mid, AV.fn (Fn.func 15) [] []] 4 rs) fun (q : MV × List (List AV)) => kMUnit q.1 (bif decide (mid < IntKind.wrap .i64 (nn - v20)) then bif decide (IntKind.wrap 
  .i64 (nn - v20) < b) then kOpt (EVm (EV cfg) 109 [.ms 0 off n, .int .i64 mid, .int .i64 (IntKind.wrap .i64 (nn - v20)), .int .i64 b, AV.fn (Fn.func 15) [] []] 4 q.2) fun (q : MV × List 
  (List AV)) => kMUnit q.1 (some (MV.unit, q.2)) else some (MV.unit, q.2) else some (MV.unit, q.2)) else bif decide (mid < IntKind.wrap .i64 (nn - v20)) then bif decide (IntKind.wrap 
  .i64 (nn - v20) < b) then kOpt (EVm (EV cfg) 109 [.ms 0 off n, .int .i64 mid, .int .i64 (IntKind.wrap .i64 (nn - v20)), .int .i64 b, AV.fn (Fn.func 15) [] []] 4 rs) fun (q : MV × List 
  (List AV)) => kMUnit q.1 (some (MV.unit, q.2)) else some (MV.unit, rs) else some (MV.unit, rs) else bif decide (mid < IntKind.wrap .i64 (nn - v20)) then bif decide (IntKind.wrap .i64 
  (nn - v20) < b) then kOpt (EVm (EV cfg) 109 [.ms 0 off n, .int .i64 mid, .int .i64 (IntKind.wrap .i64 (nn - v20)), .int .i64 b, AV.fn (Fn.func 15) [] []] 4 rs) fun (q : MV × List (List 
  AV)) => kMUnit q.1 (some (MV.unit, q.2)) else some (MV.unit, rs) else some (MV.unit, rs) else bif decide (a < v20) then bif decide (v20 < mid) then kOpt (EVm (EV cfg) 109 [.ms 0 off 
  n, .int .i64 a, .int .i64 v20, .int .i64 mid, AV.fn (Fn.func 15) [] []] 4 rs) fun (q : MV × List (List AV)) => kMUnit q.1 (bif decide (mid < IntKind.wrap .i64 (nn - v20)) then bif decide 
  (IntKind.wrap .i64 (nn - v20) < b) then kOpt (EVm (EV cfg) 109 [.ms 0 off n, .int .i64 mid, .int .i64 (IntKind.wrap .i64 (nn - v20)), .int .i64 b, AV.fn (Fn.func 15) [] []] 4 q.2) fun 
  (q : MV × List (List AV)) => kMUnit q.1 (some (MV.unit, q.2)) else some (MV.unit, q.2) else some (MV.unit, q.2)) else bif decide (mid < IntKind.wrap .i64 (nn - v20)) then bif decide 
  (IntKind.wrap .i64 (nn - v20) < b) then kOpt (EVm (EV cfg) 109 [.ms 0 off n, .int .i64 mid, .int .i64 (IntKind.wrap .i64 (nn - v20)), .int .i64 b, AV.fn (Fn.func 15) [] []] 4 rs) fun 
  (q : MV × List (List AV)) => kMUnit q.1 (some (MV.unit, q.2)) else some (MV.unit, rs) else some (MV.unit, rs) else bif decide (mid < IntKind.wrap .i64 (nn - v20)) then bif decide (IntKind.wrap 
  .i64 (nn - v20) < b) then kOpt (EVm (EV cfg) 109 [.ms 0 off n, .int .i64 mid, .int .i64 (IntKind.wrap .i64 (nn - v20)), .int .i64 b, AV.fn (Fn.func 15) [] []] 4 rs) fun (q : MV × List 
  (List AV)) => kMUnit q.1 (some (MV.unit, q.2)) else some (MV.unit, rs) else some (MV.unit, rs)) P) : Gets (w109_2 rs mid nn pp off n a m b v20 v21) P :=
  Gets.ev (fun _ h => loop_step (cfg := cfg) (f := 109) (rd := none) h) (Gets.eq (by kernel_rfl) h)
noncomputable abbrev w109_3 (rs : List (List AV)) (off : Nat) (n : Nat) (v10 : Int) (v13 : Int) : Option (MV × List (List AV)) := W109_3 (((fx 220 [(0, AV.ms (0 : Nat) off n), (10, AV.int IntKind.i64 v10), (13, AV.int IntKind.i64 v13)]) : List AV), ([ABlk.rows true (4 : Nat) rs] : AH))
theorem w109_3_step (rs : List (List AV)) (off : Nat) (n : Nat) (v10 : Int) (v13 : Int) {P : MV × List (List AV) → Prop} (h : Gets (bif decide (v13 < IntKind.wrap .i64 (v10 - (1 : Int))) then bif leInt (0 : Int) (IntKind.wrap .i64 (v13 + (1 : Int))) && ltInt (IntKind.wrap .i64 (v13 + (1 : Int))) (↑n : Int) then 
  kOpt (List.get?Internal rs (off + Int.toNat (IntKind.wrap .i64 (v13 + (1 : Int))))) fun (row : List AV) => bif Nat.ble 4 (List.length row) then kCons (List.take 4 row) fun (c : AV) 
  (cs : List AV) => kInt .i64 c fun (n_1 : Int) => kCons cs fun (c : AV) (cs : List AV) => kInt .i64 c fun (n_2 : Int) => kCons cs fun (c : AV) (cs : List AV) => kStr c fun (s : List 
  UInt8) => kCons cs fun (c : AV) (cs : List AV) => kSl c fun (rows : List (List AV)) => kNil cs (bif leInt (0 : Int) v13 && ltInt v13 (↑n : Int) then kOpt (List.get?Internal rs (off 
  + Int.toNat v13)) fun (row : List AV) => bif Nat.ble 4 (List.length row) then kCons (List.take 4 row) fun (c : AV) (cs : List AV) => kInt .i64 c fun (n_3 : Int) => kCons cs fun (c : 
  AV) (cs : List AV) => kInt .i64 c fun (n_4 : Int) => kCons cs fun (c : AV) (cs : List AV) => kStr c fun (s_1 : List UInt8) => kCons cs fun (c : AV) (cs : List AV) => kSl c fun (rows_1 
  : List (List AV)) => kNil cs (bif leInt (0 : Int) v13 && ltInt v13 (↑n : Int) then kOpt (List.get?Internal rs (off + Int.toNat v13)) fun (row : List AV) => bif Nat.ble 4 (List.length 
  row) then bif leInt (0 : Int) (IntKind.wrap .i64 (v13 + (1 : Int))) && ltInt (IntKind.wrap .i64 (v13 + (1 : Int))) (↑n : Int) then kOpt (List.get?Internal (List.set rs (off + Int.toNat 
  v13) (.int .i64 n_1 :: .int .i64 n_2 :: .str s :: .sl rows :: List.drop 4 row)) (off + Int.toNat (IntKind.wrap .i64 (v13 + (1 : Int))))) fun (row_1 : List AV) => bif Nat.ble 4 (List.length 
  row_1) then W109_3 ((fx 220 [(0, .ms 0 off n), (10, .int .i64 v10), (13, .int .i64 (IntKind.wrap .i64 (v13 + (1 : Int))))]), [.rows true 4 (List.set (List.set rs (off + Int.toNat v13) 
  (.int .i64 n_1 :: .int .i64 n_2 :: .str s :: .sl rows :: List.drop 4 row)) (off + Int.toNat (IntKind.wrap .i64 (v13 + (1 : Int)))) (.int .i64 n_3 :: .int .i64 n_4 :: .str s_1 :: .sl 
  rows_1 :: List.drop 4 row_1))]) else none else none else none else none) else none else none) else none else none else some (MV.unit, rs)) P) : Gets (w109_3 rs off n v10 v13) P :=
  Gets.ev (fun _ h => loop_step (cfg := cfg) (f := 109) (rd := none) h) (Gets.eq (by kernel_rfl) h)
noncomputable abbrev w109_4 (rs : List (List AV)) (off : Nat) (n : Nat) (v14 : Int) (v17 : Int) : Option (MV × List (List AV)) := W109_4 (((fx 220 [(0, AV.ms (0 : Nat) off n), (14, AV.int IntKind.i64 v14), (17, AV.int IntKind.i64 v17)]) : List AV), ([ABlk.rows true (4 : Nat) rs] : AH))
theorem w109_4_step (rs : List (List AV)) (off : Nat) (n : Nat) (v14 : Int) (v17 : Int) {P : MV × List (List AV) → Prop} (h : Gets (bif decide (v17 > v14) then bif leInt (0 : Int) (IntKind.wrap .i64 (v17 - (1 : Int))) && ltInt (IntKind.wrap .i64 (v17 - (1 : Int))) (↑n : Int) then kOpt (List.get?Internal rs (off 
  + Int.toNat (IntKind.wrap .i64 (v17 - (1 : Int))))) fun (row : List AV) => bif Nat.ble 4 (List.length row) then kCons (List.take 4 row) fun (c : AV) (cs : List AV) => kInt .i64 c fun 
  (n_1 : Int) => kCons cs fun (c : AV) (cs : List AV) => kInt .i64 c fun (n_2 : Int) => kCons cs fun (c : AV) (cs : List AV) => kStr c fun (s : List UInt8) => kCons cs fun (c : AV) (cs 
  : List AV) => kSl c fun (rows : List (List AV)) => kNil cs (bif leInt (0 : Int) v17 && ltInt v17 (↑n : Int) then kOpt (List.get?Internal rs (off + Int.toNat v17)) fun (row : List AV) 
  => bif Nat.ble 4 (List.length row) then kCons (List.take 4 row) fun (c : AV) (cs : List AV) => kInt .i64 c fun (n_3 : Int) => kCons cs fun (c : AV) (cs : List AV) => kInt .i64 c fun 
  (n_4 : Int) => kCons cs fun (c : AV) (cs : List AV) => kStr c fun (s_1 : List UInt8) => kCons cs fun (c : AV) (cs : List AV) => kSl c fun (rows_1 : List (List AV)) => kNil cs (bif leInt 
  (0 : Int) v17 && ltInt v17 (↑n : Int) then kOpt (List.get?Internal rs (off + Int.toNat v17)) fun (row : List AV) => bif Nat.ble 4 (List.length row) then bif leInt (0 : Int) (IntKind.wrap 
  .i64 (v17 - (1 : Int))) && ltInt (IntKind.wrap .i64 (v17 - (1 : Int))) (↑n : Int) then kOpt (List.get?Internal (List.set rs (off + Int.toNat v17) (.int .i64 n_1 :: .int .i64 n_2 :: 
  .str s :: .sl rows :: List.drop 4 row)) (off + Int.toNat (IntKind.wrap .i64 (v17 - (1 : Int))))) fun (row_1 : List AV) => bif Nat.ble 4 (List.length row_1) then W109_4 ((fx 220 [(0, 
  .ms 0 off n), (14, .int .i64 v14), (17, .int .i64 (IntKind.wrap .i64 (v17 - (1 : Int))))]), [.rows true 4 (List.set (List.set rs (off + Int.toNat v17) (.int .i64 n_1 :: .int .i64 n_2 
  :: .str s :: .sl rows :: List.drop 4 row)) (off + Int.toNat (IntKind.wrap .i64 (v17 - (1 : Int)))) (.int .i64 n_3 :: .int .i64 n_4 :: .str s_1 :: .sl rows_1 :: List.drop 4 row_1))]) 
  else none else none else none else none) else none else none) else none else none else some (MV.unit, rs)) P) : Gets (w109_4 rs off n v14 v17) P :=
  Gets.ev (fun _ h => loop_step (cfg := cfg) (f := 109) (rd := none) h) (Gets.eq (by kernel_rfl) h)
theorem f116_run (off : Nat) (n : Nat) (a : Int) (m : Int) (b : Int) (rs : List (List AV)) {P : MV × List (List AV) → Prop} (h : Gets (W116_0 ((fx 58 [(0, .ms 0 off n), (2, .int .i64 m), (4, AV.fn (Fn.func 15) [] []), (10, .int .i64 (IntKind.wrap .i64 (m - a))), (11, .int .i64 (IntKind.wrap .i64 (b - m)))]), [.rows 
  true 4 rs])) P) : Gets (EVm (EV cfg) 116 ([AV.ms (0 : Nat) off n, AV.int IntKind.i64 a, AV.int IntKind.i64 m, AV.int IntKind.i64 b, AV.fn (Fn.func (15 : Nat)) [] []] : List AV) 4 rs) P :=
  Gets.ev (fun _ h => funM rfl rfl Try.func116 rfl h) (Gets.eq (by kernel_rfl) h)
noncomputable abbrev w116_0 (rs : List (List AV)) (off : Nat) (n : Nat) (m : Int) (v10 : Int) (v11 : Int) : Option (MV × List (List AV)) := W116_0 (((fx 58 [(0, AV.ms (0 : Nat) off n), (2, AV.int IntKind.i64 m), (4, AV.fn (Fn.func (15 : Nat)) [] []), (10, AV.int IntKind.i64 v10), (11, AV.int IntKind.i64 v11)]) : List AV), ([ABlk.rows true (4 : Nat) rs] : AH))
theorem w116_0_step (rs : List (List AV)) (off : Nat) (n : Nat) (m : Int) (v10 : Int) (v11 : Int) {P : MV × List (List AV) → Prop} (h : Gets (bif v10 != v11 then bif decide (v10 > v11) then kOpt (EVm (EV cfg) 118 [.ms 0 off n, .int .i64 (IntKind.wrap .i64 (m - v10)), .int .i64 m, .int .i64 v11, AV.fn (Fn.func 15) [] []] 4 
  rs) fun (q : MV × List (List AV)) => kMUnit q.1 (W116_0 ((fx 58 [(0, .ms 0 off n), (2, .int .i64 m), (4, AV.fn (Fn.func 15) [] []), (10, .int .i64 (IntKind.wrap .i64 (v10 - v11))), 
  (11, .int .i64 v11)]), [.rows true 4 q.2])) else kOpt (EVm (EV cfg) 118 [.ms 0 off n, .int .i64 (IntKind.wrap .i64 (m - v10)), .int .i64 (IntKind.wrap .i64 (IntKind.wrap .i64 (m + v11) 
  - v10)), .int .i64 v10, AV.fn (Fn.func 15) [] []] 4 rs) fun (q : MV × List (List AV)) => kMUnit q.1 (W116_0 ((fx 58 [(0, .ms 0 off n), (2, .int .i64 m), (4, AV.fn (Fn.func 15) [] []), 
  (10, .int .i64 v10), (11, .int .i64 (IntKind.wrap .i64 (v11 - v10)))]), [.rows true 4 q.2])) else kOpt (EVm (EV cfg) 118 [.ms 0 off n, .int .i64 (IntKind.wrap .i64 (m - v10)), .int 
  .i64 m, .int .i64 v10, AV.fn (Fn.func 15) [] []] 4 rs) fun (q : MV × List (List AV)) => kMUnit q.1 (some (MV.unit, q.2))) P) : Gets (w116_0 rs off n m v10 v11) P :=
  Gets.ev (fun _ h => loop_step (cfg := cfg) (f := 116) (rd := none) h) (Gets.eq (by kernel_rfl) h)
theorem f118_run (off : Nat) (n : Nat) (a : Int) (b : Int) (m : Int) (rs : List (List AV)) {P : MV × List (List AV) → Prop} (h : Gets (W118_0 ((fx 38 [(0, .ms 0 off n), (1, .int .i64 a), (2, .int .i64 b), (3, .int .i64 m), (10, .int .i64 (0 : Int))]), [.rows true 4 rs])) P) : Gets (EVm (EV cfg) 118 ([AV.ms (0 : Nat) off n, AV.int IntKind.i64 a, AV.int IntKind.i64 b, AV.int IntKind.i64 m, AV.fn (Fn.func (15 : Nat)) [] []] : List AV) 4 rs) P :=
  Gets.ev (fun _ h => funM rfl rfl Try.func118 rfl h) (Gets.eq (by kernel_rfl) h)
noncomputable abbrev w118_0 (rs : List (List AV)) (off : Nat) (n : Nat) (a : Int) (b : Int) (m : Int) (v10 : Int) : Option (MV × List (List AV)) := W118_0 (((fx 38 [(0, AV.ms (0 : Nat) off n), (1, AV.int IntKind.i64 a), (2, AV.int IntKind.i64 b), (3, AV.int IntKind.i64 m), (10, AV.int IntKind.i64 v10)]) : List AV), ([ABlk.rows true (4 : Nat) rs] : AH))
theorem w118_0_step (rs : List (List AV)) (off : Nat) (n : Nat) (a : Int) (b : Int) (m : Int) (v10 : Int) {P : MV × List (List AV) → Prop} (h : Gets (bif decide (v10 < m) then bif leInt (0 : Int) (IntKind.wrap .i64 (b + v10)) && ltInt (IntKind.wrap .i64 (b + v10)) (↑n : Int) then kOpt (List.get?Internal rs (off + Int.toNat (IntKind.wrap 
  .i64 (b + v10)))) fun (row : List AV) => bif Nat.ble 4 (List.length row) then kCons (List.take 4 row) fun (c : AV) (cs : List AV) => kInt .i64 c fun (n_1 : Int) => kCons cs fun (c : 
  AV) (cs : List AV) => kInt .i64 c fun (n_2 : Int) => kCons cs fun (c : AV) (cs : List AV) => kStr c fun (s : List UInt8) => kCons cs fun (c : AV) (cs : List AV) => kSl c fun (rows : 
  List (List AV)) => kNil cs (bif leInt (0 : Int) (IntKind.wrap .i64 (a + v10)) && ltInt (IntKind.wrap .i64 (a + v10)) (↑n : Int) then kOpt (List.get?Internal rs (off + Int.toNat (IntKind.wrap 
  .i64 (a + v10)))) fun (row : List AV) => bif Nat.ble 4 (List.length row) then kCons (List.take 4 row) fun (c : AV) (cs : List AV) => kInt .i64 c fun (n_3 : Int) => kCons cs fun (c : 
  AV) (cs : List AV) => kInt .i64 c fun (n_4 : Int) => kCons cs fun (c : AV) (cs : List AV) => kStr c fun (s_1 : List UInt8) => kCons cs fun (c : AV) (cs : List AV) => kSl c fun (rows_1 
  : List (List AV)) => kNil cs (bif leInt (0 : Int) (IntKind.wrap .i64 (a + v10)) && ltInt (IntKind.wrap .i64 (a + v10)) (↑n : Int) then kOpt (List.get?Internal rs (off + Int.toNat (IntKind.wrap 
  .i64 (a + v10)))) fun (row : List AV) => bif Nat.ble 4 (List.length row) then bif leInt (0 : Int) (IntKind.wrap .i64 (b + v10)) && ltInt (IntKind.wrap .i64 (b + v10)) (↑n : Int) then 
  kOpt (List.get?Internal (List.set rs (off + Int.toNat (IntKind.wrap .i64 (a + v10))) (.int .i64 n_1 :: .int .i64 n_2 :: .str s :: .sl rows :: List.drop 4 row)) (off + Int.toNat (IntKind.wrap 
  .i64 (b + v10)))) fun (row_1 : List AV) => bif Nat.ble 4 (List.length row_1) then W118_0 ((fx 38 [(0, .ms 0 off n), (1, .int .i64 a), (2, .int .i64 b), (3, .int .i64 m), (10, .int .i64 
  (IntKind.wrap .i64 (v10 + (1 : Int))))]), [.rows true 4 (List.set (List.set rs (off + Int.toNat (IntKind.wrap .i64 (a + v10))) (.int .i64 n_1 :: .int .i64 n_2 :: .str s :: .sl rows 
  :: List.drop 4 row)) (off + Int.toNat (IntKind.wrap .i64 (b + v10))) (.int .i64 n_3 :: .int .i64 n_4 :: .str s_1 :: .sl rows_1 :: List.drop 4 row_1))]) else none else none else none 
  else none) else none else none) else none else none else some (MV.unit, rs)) P) : Gets (w118_0 rs off n a b m v10) P :=
  Gets.ev (fun _ h => loop_step (cfg := cfg) (f := 118) (rd := none) h) (Gets.eq (by kernel_rfl) h)
theorem f21n_run  {P : OV → Prop} (h : Gets (kOpt (EVo (EV cfg) 68 [.nilS]) fun (o : OV) => kOwn o (kOpt (EVu (EV cfg) 69 [.nilS, AV.fn (Fn.func 15) [] []]) fun (v : MV) => kMUnit v (some OV.nil)) fun (sz : Nat) (rs : List (List 
  AV)) (off len : Nat) => kOpt (EVm (EV cfg) 69 [.ms 0 off len, AV.fn (Fn.func 15) [] []] sz rs) fun (q : MV × List (List AV)) => kMUnit q.1 (some (OV.own sz q.2 off len))) P) : Gets (EVo (EV cfg) 21 ([AV.nilS] : List AV)) P :=
  Gets.ev (fun _ h => funO rfl rfl Try.func21 rfl h) (Gets.eq (by kernel_rfl) h)
theorem f21e_run  {P : OV → Prop} (h : Gets (kOpt (EVo (EV cfg) 68 [AV.em]) fun (o : OV) => kOwn o (kOpt (EVu (EV cfg) 69 [.nilS, AV.fn (Fn.func 15) [] []]) fun (v : MV) => kMUnit v (some OV.nil)) fun (sz : Nat) (rs : List (List 
  AV)) (off len : Nat) => kOpt (EVm (EV cfg) 69 [.ms 0 off len, AV.fn (Fn.func 15) [] []] sz rs) fun (q : MV × List (List AV)) => kMUnit q.1 (some (OV.own sz q.2 off len))) P) : Gets (EVo (EV cfg) 21 ([AV.em] : List AV)) P :=
  Gets.ev (fun _ h => funO rfl rfl Try.func21 rfl h) (Gets.eq (by kernel_rfl) h)
theorem f21_run (r : List AV) (A : List (List AV)) {P : OV → Prop} (h : Gets (kOpt (EVo (EV cfg) 68 [.sl (r :: A)]) fun (o : OV) => kOwn o (kOpt (EVu (EV cfg) 69 [.nilS, AV.fn (Fn.func 15) [] []]) fun (v : MV) => kMUnit v (some OV.nil)) fun (sz : Nat) (rs : List 
  (List AV)) (off len : Nat) => kOpt (EVm (EV cfg) 69 [.ms 0 off len, AV.fn (Fn.func 15) [] []] sz rs) fun (q : MV × List (List AV)) => kMUnit q.1 (some (OV.own sz q.2 off len))) P) : Gets (EVo (EV cfg) 21 ([AV.sl (r :: A)] : List AV)) P :=
  Gets.ev (fun _ h => funO rfl rfl Try.func21 rfl h) (Gets.eq (by kernel_rfl) h)
end Go.Proofs.Ytpbfmaodnihpeaa
end
