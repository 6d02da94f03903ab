/-
  A loop together with what follows it; a function's run from what is left of it. Own work.
  What is proved: what kFun and kLp give is what the evaluation gives; no condition.
-/
import Derived.Test.YtpbfmaodnihpeaaAvK3
import Derived.KernelRfl
namespace Go.Av
variable {α : Type}

/-- a frame, by its slots that are not forgotten -/
def fxGo (i : Nat) (l : List (Nat × AV)) : Nat → List AV
  | 0 => []
  | n + 1 => match l with
    | [] => .junk :: fxGo (i + 1) [] n
    | p :: l' => if Nat.beq p.1 i then p.2 :: fxGo (i + 1) l' n else .junk :: fxGo (i + 1) (p :: l') n

def fx (n : Nat) (l : List (Nat × AV)) : List AV := fxGo 0 l n

def bodyOf (fn : Func) : Code := match fn.body with | some c => c | none => .skip

def sub : Code → List Nat → Code
  | c, [] => c
  | .seq a b, i :: l => match i with | 0 => sub a l | _ => sub b l
  | .cond _ a b, i :: l => match i with | 0 => sub a l | _ => sub b l
  | .block _ a, _ :: l => sub a l
  | .loop a, _ :: l => sub a l
  | .scope a, _ :: l => sub a l
  | .rangeFunc _ _ a b, i :: l => match i with | 0 => sub a l | _ => sub b l
  | c, _ => c

/-- behind a loop's body: the loop once more, or what follows the loop -/
noncomputable def kLp (k : Nat) (ts : Option (List Tmp)) (L : Den) (A : Ex × List AV × AH → Option α) : KE α := fun e fr H =>
  match e with
  | .normal => kOpt (LOOP k ts L (gc k (maskFr ts fr) H)) A
  | e => A (e, fr, H)

theorem loop_step {cfg : Cfg} {f : Nat} {rd : Option Nat} {c : Code} {k : Nat} {ts : Option (List Tmp)} {A : Ex × List AV × AH → Option α} {fr : List AV} {H : AH} {r : α}
    (h : kCode cfg (EV cfg) f rd c fr H (kLp k ts (evC cfg (EV cfg) f rd c) A) = some r) : kOpt (LOOP k ts (evC cfg (EV cfg) f rd c) (fr, H)) A = some r := by
  obtain ⟨⟨e, fr1, H1⟩, h1, h2⟩ := kCode_some c h
  cases e with
  | normal =>
    simp only [kLp] at h2
    cases hl : LOOP k ts (evC cfg (EV cfg) f rd c) (gc k (maskFr ts fr1) H1) with
    | none => rw [hl] at h2; cases h2
    | some q =>
      rw [hl] at h2
      rw [LOOP_step (p := (fr, H)) h1 hl]
      exact h2
  | exit id => rw [LOOP_exit (p := (fr, H)) h1 (fun x => by intro h; cases h)]; exact h2
  | goto l => rw [LOOP_exit (p := (fr, H)) h1 (fun x => by intro h; cases h)]; exact h2
  | ret => rw [LOOP_exit (p := (fr, H)) h1 (fun x => by intro h; cases h)]; exact h2

/-- a function's end, with what is made of what it hands back -/
def kFinG (cfg : Cfg) (g : AV → AH → Option α) (rs : List ResultVar) : KE α := fun e fr H =>
  match e with
  | .normal => kRes cfg fr H rs fun vs => g (result1 vs) H
  | .ret => kRes cfg fr H rs fun vs => g (result1 vs) H
  | _ => none

def kFinS (cfg : Cfg) (rs : List ResultVar) : KE AV := kFinG cfg (fun v _ => some v) rs
def kFinF (cfg : Cfg) (rs : List ResultVar) : KE AV := kFinG cfg (fun v H => kFrzA false H v some) rs
def kFinO (cfg : Cfg) (rs : List ResultVar) : KE OV := kFinG cfg (fun v H => ovOf (v, H)) rs
def kFinA (cfg : Cfg) (rs : List ResultVar) : KE (AV × AH) := kFinG cfg (fun v H => some (v, H)) rs

noncomputable def kFunG (cfg : Cfg) (cf : Orac) (f : Nat) (fn : Func) (c : Code) (args : List AV) (H : AH) (fin : KE α) : Option α :=
  kCode cfg cf f none c (args ++ List.replicate (fn.ntmps - args.length) .junk) H fin

theorem kFinG_some {cfg : Cfg} {g : AV → AH → Option α} {f : Nat} {fn : Func} {args : List AV} {H : AH} {r : α} (hx : cfg.ext f = none) (hk : cfg.known f = true) (hf : cfg.P.funcs[f]? = some fn) (hb : fn.body = some (bodyOf fn))
    (h : kFunG cfg (EV cfg) f fn (bodyOf fn) args H (kFinG cfg g fn.results.toList) = some r) : ∃ v H', EV cfg (.f f) args H = some (v, H') ∧ g v H' = some r := by
  unfold kFunG at h
  obtain ⟨q, h1, h⟩ := kCode_some _ h
  have key : ∀ (vs : List AV), resVals fn.results.toList cfg.ty q.2.1 q.2.2 = some vs → (q.1 = .normal ∨ q.1 = .ret) → EV cfg (.f f) args H = some (result1 vs, q.2.2) := by
    intro vs h2 hq
    refine EV_of ?_
    unfold evBody
    simp only [hx, hk, if_true, hf, hb, h1, Option.bind_some]
    unfold finish
    rcases hq with hq | hq <;> simp only [hq, h2, Option.map_some]
  unfold kFinG at h
  split at h
  · rename_i hq
    obtain ⟨vs, h2, h⟩ := kRes_some h
    exact ⟨_, _, key vs h2 (.inl hq), h⟩
  · rename_i hq
    obtain ⟨vs, h2, h⟩ := kRes_some h
    exact ⟨_, _, key vs h2 (.inr hq), h⟩
  · cases h

theorem EV_fun {cfg : Cfg} {f : Nat} {fn : Func} {args : List AV} {H : AH} {r : AV × AH} (hx : cfg.ext f = none) (hk : cfg.known f = true) (hf : cfg.P.funcs[f]? = some fn) (hb : fn.body = some (bodyOf fn))
    (h : kFun cfg (EV cfg) f fn (bodyOf fn) args H = some r) : EV cfg (.f f) args H = some r := EV_of (kFun_some hx hk hf hb h)

/-- it yields something of which P holds -/
def Gets {β : Type} (o : Option β) (P : β → Prop) : Prop := ∃ r, o = some r ∧ P r

theorem Gets.ev {β : Type} {o o' : Option β} {P : β → Prop} (h : ∀ r, o = some r → o' = some r) (hy : Gets o P) : Gets o' P := by
  obtain ⟨r, h1, h2⟩ := hy
  exact ⟨r, h r h1, h2⟩
theorem Gets.eq {β : Type} {o o' : Option β} {P : β → Prop} (h : o' = o) (hy : Gets o P) : Gets o' P := h ▸ hy
theorem Gets.mono {β : Type} {o : Option β} {P Q : β → Prop} (h : Gets o P) (hq : ∀ b, P b → Q b) : Gets o Q := by
  obtain ⟨r, h1, h2⟩ := h
  exact ⟨r, h1, hq r h2⟩
theorem Gets.bind {β γ : Type} {o : Option β} {k : β → Option γ} {Q : β → Prop} {P : γ → Prop} (h : Gets o Q) (hk : ∀ b, Q b → Gets (k b) P) : Gets (kOpt o k) P := by
  obtain ⟨r, h1, h2⟩ := h
  subst h1
  exact hk r h2
@[simp] theorem gets_some {β : Type} {a : β} {P : β → Prop} : Gets (some a) P ↔ P a := ⟨fun ⟨r, h1, h2⟩ => by cases h1; exact h2, fun h => ⟨a, rfl, h⟩⟩
theorem Gets.get {β : Type} {o : Option β} {a : β} (h : Gets o (· = a)) : o = some a := by
  obtain ⟨r, h1, h2⟩ := h
  rw [h1, h2]
theorem gets_of {β : Type} {o : Option β} {a : β} {P : β → Prop} (h : o = some a) (hp : P a) : Gets o P := ⟨a, h, hp⟩
theorem EVs_y {cfg : Cfg} {f : Nat} {args : List AV} {Q : AV → Prop} (h : Gets (EV cfg (.f f) args []) (fun r => Q r.1)) : Gets (EVs (EV cfg) f args) Q := by
  obtain ⟨r, h1, h2⟩ := h
  exact ⟨r.1, by unfold EVs; rw [h1]; rfl, h2⟩
theorem EVf_y {cfg : Cfg} {f : Nat} {args : List AV} {Q : AV → Prop} (h : Gets (EV cfg (.f f) args []) (fun r => Q (r.1.frz r.1.msIds r.2).fg)) : Gets (EVf (EV cfg) f args) Q := by
  obtain ⟨r, h1, h2⟩ := h
  exact ⟨_, by unfold EVf; rw [h1]; rfl, h2⟩
theorem EVo_y {cfg : Cfg} {f : Nat} {args : List AV} {Q : OV → Prop} (h : Gets (EV cfg (.f f) args []) (fun r => Gets (ovOf r) Q)) : Gets (EVo (EV cfg) f args) Q := by
  obtain ⟨r, h1, h2⟩ := h
  obtain ⟨o, h3, h4⟩ := h2
  exact ⟨o, by unfold EVo; rw [h1]; exact h3, h4⟩

theorem EVs_of {cfg : Cfg} {f : Nat} {args : List AV} {v : AV} {H : AH} (h : EV cfg (.f f) args [] = some (v, H)) : EVs (EV cfg) f args = some v := by unfold EVs; rw [h]; rfl
theorem EVf_of {cfg : Cfg} {f : Nat} {args : List AV} {v v' : AV} {H : AH} (h : EV cfg (.f f) args [] = some (v', H)) (e : (v'.frz v'.msIds H).fg = v) : EVf (EV cfg) f args = some v := by unfold EVf; rw [h]; exact congrArg some e
theorem EVo_of {cfg : Cfg} {f : Nat} {args : List AV} {v : OV} {r : AV × AH} (h : EV cfg (.f f) args [] = some r) (e : ovOf r = some v) : EVo (EV cfg) f args = some v := by unfold EVo; rw [h]; exact e

theorem funS {cfg : Cfg} {f : Nat} {fn : Func} {args : List AV} {r : AV} (hx : cfg.ext f = none) (hk : cfg.known f = true) (hf : cfg.P.funcs[f]? = some fn) (hb : fn.body = some (bodyOf fn))
    (h : kFunG cfg (EV cfg) f fn (bodyOf fn) args [] (kFinS cfg fn.results.toList) = some r) : EVs (EV cfg) f args = some r := by
  obtain ⟨v, H', h1, h2⟩ := kFinG_some hx hk hf hb h
  cases h2
  exact EVs_of h1
theorem funF {cfg : Cfg} {f : Nat} {fn : Func} {args : List AV} {r : AV} (hx : cfg.ext f = none) (hk : cfg.known f = true) (hf : cfg.P.funcs[f]? = some fn) (hb : fn.body = some (bodyOf fn))
    (h : kFunG cfg (EV cfg) f fn (bodyOf fn) args [] (kFinF cfg fn.results.toList) = some r) : EVf (EV cfg) f args = some r := by
  obtain ⟨v, H', h1, h2⟩ := kFinG_some hx hk hf hb h
  exact EVf_of h1 (Option.some.inj (kFrzA_frz h2))
theorem funO {cfg : Cfg} {f : Nat} {fn : Func} {args : List AV} {r : OV} (hx : cfg.ext f = none) (hk : cfg.known f = true) (hf : cfg.P.funcs[f]? = some fn) (hb : fn.body = some (bodyOf fn))
    (h : kFunG cfg (EV cfg) f fn (bodyOf fn) args [] (kFinO cfg fn.results.toList) = some r) : EVo (EV cfg) f args = some r := by
  obtain ⟨v, H', h1, h2⟩ := kFinG_some hx hk hf hb h
  exact EVo_of h1 h2
theorem funA {cfg : Cfg} {f : Nat} {fn : Func} {args : List AV} {H : AH} {r : AV × AH} (hx : cfg.ext f = none) (hk : cfg.known f = true) (hf : cfg.P.funcs[f]? = some fn) (hb : fn.body = some (bodyOf fn))
    (h : kFunG cfg (EV cfg) f fn (bodyOf fn) args H (kFinA cfg fn.results.toList) = some r) : EV cfg (.f f) args H = some r := by
  obtain ⟨v, H', h1, h2⟩ := kFinG_some hx hk hf hb h
  cases h2
  exact h1

@[simp] theorem nble (a b : Nat) : Nat.ble a b = decide (a ≤ b) := by
  rcases h : Nat.ble a b with _ | _
  · rw [eq_comm, decide_eq_false_iff_not]; intro h'; rw [Nat.ble_eq_true_of_le h'] at h; cases h
  · rw [eq_comm, decide_eq_true_eq]; exact Nat.le_of_ble_eq_true h
@[simp] theorem nbeq (a b : Nat) : Nat.beq a b = decide (a = b) := by
  rcases h : Nat.beq a b with _ | _
  · rw [eq_comm, decide_eq_false_iff_not]; intro h'; rw [h', Nat.beq_refl] at h; cases h
  · rw [eq_comm, decide_eq_true_eq]; exact Nat.eq_of_beq_eq_true h
@[simp] theorem leInt_eq (a b : Int) : leInt a b = decide (a ≤ b) := rfl
@[simp] theorem ltInt_eq (a b : Int) : ltInt a b = decide (a < b) := rfl
theorem beqD {β : Type} [BEq β] [LawfulBEq β] [DecidableEq β] (a b : β) : (a == b) = decide (a = b) := by
  by_cases h : a = b
  · subst h; simp
  · simp [h]
theorem bneD {β : Type} [BEq β] [LawfulBEq β] [DecidableEq β] (a b : β) : (a != b) = !decide (a = b) := by rw [bne, beqD]
def AV.IsInt (v : AV) : Prop := ∃ n, v = .int .i64 n
def AV.IsBool (v : AV) : Prop := ∃ b, v = .bool b
@[simp] theorem isInt_int (n : Int) : (AV.int .i64 n).IsInt := ⟨n, rfl⟩
@[simp] theorem isBool_bool (b : Bool) : (AV.bool b).IsBool := ⟨b, rfl⟩

@[simp] theorem kOptSome {β : Type} (b : β) (k : β → Option α) : kOpt (some b) k = k b := rfl
@[simp] theorem kOptNone {β : Type} (k : β → Option α) : kOpt none k = none := rfl
@[simp] theorem kInt_int (kd : IntKind) (n : Int) (k : Int → Option α) : kInt kd (.int kd n) k = k n := by simp [kInt, kindEq]
@[simp] theorem kBool_bool (b : Bool) (k : Bool → Option α) : kBool (.bool b) k = k b := rfl
@[simp] theorem kStr_str (s : List UInt8) (k : List UInt8 → Option α) : kStr (.str s) k = k s := rfl
@[simp] theorem kAgg_agg (cs : List AV) (k : List AV → Option α) : kAgg (.agg cs) k = k cs := rfl
@[simp] theorem kCons_cons (c : AV) (cs : List AV) (k : AV → List AV → Option α) : kCons (c :: cs) k = k c cs := rfl
@[simp] theorem kNil_nil (x : Option α) : kNil [] x = x := rfl
@[simp] theorem kOwn_nil (x : Option α) (k : Nat → List (List AV) → Nat → Nat → Option α) : kOwn .nil x k = x := rfl
@[simp] theorem kOwn_own (sz : Nat) (rs : List (List AV)) (off len : Nat) (x : Option α) (k : Nat → List (List AV) → Nat → Nat → Option α) : kOwn (.own sz rs off len) x k = k sz rs off len := rfl
@[simp] theorem kSl_sl (rs : List (List AV)) (k : List (List AV) → Option α) : kSl (.sl rs) k = k rs := rfl
@[simp] theorem get?Internal_eq {β : Type} (l : List β) (i : Nat) : List.get?Internal l i = l[i]? := rfl
end Go.Av
