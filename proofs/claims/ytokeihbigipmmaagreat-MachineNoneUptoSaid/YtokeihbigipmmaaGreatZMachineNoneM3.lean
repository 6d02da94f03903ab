/-
  Parts of the proof of MachineNoneUptoSaid, put together: the abstract evaluation and its contracts. Own work.
  What is proved: each lemma as it stands; no condition.
-/
import Derived.KernelRfl
import Derived.Test.YtokeihbigipmmaaGreatProg
import Derived.Lib.Bytealg
import Derived.Test.YtokeihbigipmmaaGreatRows
import Derived.ProofKit
import Derived.OpenShut
import Derived.JoinedCond
import Derived.ChangeArms
import Derived.RowKit
import Derived.WalkKit
import Derived.Test.YtokeihbigipmmaaGreatZMachineNoneM2
open List renaming getElem?_eq_some_iff → qjv, getElem?_eq_getElem → qjz, getElem?_append_left → qjC, getElem?_set → qjE, getElem?_append_right → qjF, mem_append → qjJ, mem_of_getElem? → qjK, replicate → qjL
open Option renaming bind_eq_some_iff → qjw, map_eq_some_iff → qjx, bind_some → qjG, map_some → qjI
open Bool renaming and_eq_true → qjy, false_eq_true → qjD
open Nat renaming eq_of_beq_eq_true → qjA, le_refl → qjB, mul_le_mul_right → qjH, beq → qjM, add_mul → qjN, blt_eq → qjO
set_option maxRecDepth 1000000
set_option maxHeartbeats 0
section
namespace Go.Av
variable {C C' C1 C2 : qb} {μ μ' μ1 : MMap} {H H' H1 H2 : AH} {w w' w1 : World} {P : Program}
theorem qbc [Lent] {cfg : Cfg} (hc : CfgTy cfg) {cf : Orac} (hO : OracOk2 cfg cf) (hmx : cfg.P.follows .mixedOrders = true) {F : Fence} {rd : Option Nat} {f B k : Nat} : ∀ (c : Code) {fr : List AV} {H : AH} {r : Ex × List AV × AH}, evC cfg cf f rd k c fr H = some r →
  ∀ {C : qb} {μ : MMap} {w : World} {a : Act}, k ≤ H.length → RdOk rd F μ k → qe C μ fr a.tmps → Wld C μ H w → y8 B μ H w a.defers → c.wpIn F 0 cfg.P (yr k B C μ H w r) a w := by
 intro c
 induction c with
 | skip =>
  intro fr H r he C μ w a hk hrd hf hw hm
  rw [evC.eq_def] at he; simp only at he; cases he
  exact wpIn_skip ⟨rfl, C, μ, hf, hw, Ext.refl hk, hm⟩
 | label l =>
  intro fr H r he C μ w a hk hrd hf hw hm
  rw [evC.eq_def] at he; simp only at he; cases he
  exact wpIn_label ⟨rfl, C, μ, hf, hw, Ext.refl hk, hm⟩
 | exit id =>
  intro fr H r he C μ w a hk hrd hf hw hm
  rw [evC.eq_def] at he; simp only at he; cases he
  exact wpIn_exit ⟨rfl, C, μ, hf, hw, Ext.refl hk, hm⟩
 | ret =>
  intro fr H r he C μ w a hk hrd hf hw hm
  rw [evC.eq_def] at he; simp only at he; cases he
  exact wpIn_ret ⟨rfl, C, μ, hf, hw, Ext.refl hk, hm⟩
 | goto l =>
  intro fr H r he
  rw [evC.eq_def] at he; simp only at he; cases he
 | refuse s =>
  intro fr H r he
  rw [evC.eq_def] at he; simp only at he; cases he
 | region id ops draw =>
  intro fr H r he C μ w a hk hrd hf hw hm
  rw [evC.eq_def] at he
  simp only at he
  have fin : ∀ (fr' : List AV) (H' : AH) C' μ' w' (a' : Act), qe C' μ' fr' a'.tmps → Wld C' μ' H' w' → Ext H.length C μ H w C' μ' H' w' → a'.defers = a.defers → yr k B C μ H w (.normal, fr', H') .normal a' w' :=
   fun fr' H' C' μ' w' a' g1 g2 g3 g4 => ⟨rfl, C', μ', g1, g2, g3.less hk, by rw [g4]; exact hm.ext g3⟩
  cases draw with
  | true =>
   simp only [if_true] at he
   split at he
   case isFalse => cases he
   rename_i hst
   obtain ⟨q, hq, he⟩ := qjw.1 he
   split at he
   case isFalse => cases he
   rename_i hdy
   obtain ⟨fps, fr', H'⟩ := q
   cases he
   exact qhb hc hO.calls hmx hrd.wide hst hq hdy hf hw (fin fr' H')
  | false =>
   simp only [qjD, if_false] at he
   obtain ⟨q, hq, e⟩ := qjx.1 he
   obtain ⟨fr', H'⟩ := q
   cases e
   refine wpIn_region ?_
   have := zK hc hO.calls hrd.wide (Q := yr k B C μ H w (.normal, fr', H')) ops.toList 0 hq (fun i => by rw [Array.getElem?_toList, Nat.zero_add]) hf hw (fin fr' H')
   rw [List.range_eq_range']
   simpa using this
 | seq x y ihx ihy =>
  intro fr H r he C μ w a hk hrd hf hw hm
  rw [evC.eq_def] at he
  simp only at he
  obtain ⟨q, hq, he⟩ := qjw.1 he
  refine wpIn_seq (wpIn_mono (ihx hq hk hrd hf hw hm) fun e a1 w1 hp => ?_)
  cases hq1 : q.1 with
  | normal =>
   obtain ⟨h1, C1, μ1, h2, h3, h4, h5⟩ := hp
   rw [hq1] at h1 he
   subst h1
   refine wpIn_mono (ihy he h4.len (hrd.ext h4.mu (qjB _)) (yf h2) h3 h5) fun e' a2 w2 hp2 => hp2.mono h4 (qjB _)
  | exit id =>
   rw [hq1] at he
   cases he
   have : e = .exit id := by rw [hp.1, hq1]; rfl
   subst this
   exact ⟨rfl, hp.2⟩
  | goto l =>
   rw [hq1] at he
   cases he
   have : e = .goto l := by rw [hp.1, hq1]; rfl
   subst this
   exact ⟨rfl, hp.2⟩
  | ret =>
   rw [hq1] at he
   cases he
   have : e = .ret := by rw [hp.1, hq1]; rfl
   subst this
   exact ⟨rfl, hp.2⟩
 | cond c x y ihx ihy =>
  intro fr H r he C μ w a hk hrd hf hw hm
  rw [evC.eq_def] at he
  simp only at he
  split at he
  case h_2 => cases he
  rename_i t ht
  have hcr := za hf c
  rw [ht] at hcr
  generalize hv : a.eval c = v at hcr
  cases hcr
  cases t with
  | true => exact wpIn_cond_true hv (ihx (by simpa using he) hk hrd hf hw hm)
  | false => exact wpIn_cond_false hv (ihy (by simpa using he) hk hrd hf hw hm)
 | block id x ih =>
  intro fr H r he C μ w a hk hrd hf hw hm
  rw [evC.eq_def] at he
  simp only at he
  obtain ⟨q, hq, he⟩ := qjw.1 he
  refine wpIn_block (wpIn_mono (ih hq hk hrd hf hw hm) fun e a1 w1 hp => ?_)
  cases hq1 : q.1 with
  | normal =>
   rw [hq1] at he
   cases he
   have : e = .normal := by rw [hp.1, hq1]; rfl
   subst this
   exact hp
  | exit id' =>
   rw [hq1] at he
   simp only at he
   have : e = .exit id' := by rw [hp.1, hq1]; rfl
   subst this
   simp only [Exit.inBlock]
   by_cases e : id' = id
   ·subst e
    rw [if_pos (Nat.beq_refl _)] at he
    cases he
    rw [if_pos rfl]
    exact ⟨rfl, hp.2⟩
   ·have : ¬ qjM id' id = true := fun h => e (qjA h)
    rw [if_neg this] at he
    cases he
    rw [if_neg e]
    exact hp
  | goto l =>
   rw [hq1] at he
   cases he
   have : e = .goto l := by rw [hp.1, hq1]; rfl
   subst this
   exact hp
  | ret =>
   rw [hq1] at he
   cases he
   have : e = .ret := by rw [hp.1, hq1]; rfl
   subst this
   exact hp
 | loop x ih =>
  intro fr H r he C μ w a hk hrd hf hw hm
  rw [evC.eq_def] at he
  simp only at he
  obtain ⟨q, hq, e⟩ := qjx.1 he
  obtain ⟨n, hn⟩ := yv hq
  obtain ⟨μ', g1, g2, g3⟩ := qfi hw hf (cfg.keepIn f (qg x)) (cfg.lift f (qg x)) k hk
  refine wpIn_mono (wpIn_loop_rounds n (qbM (rd := rd) (fun hq => ih hq) hk n hn g3.len (hrd.ext g3.mu (qjB _)) g2 g1 (hm.ext g3) g3)) fun e' a' w' hp => ?_
  obtain ⟨h1, C1, μ1, h2, h3, h4, h5⟩ := hp
  subst e
  exact ⟨h1, C1, μ1, yf h2, h3, h4, h5⟩
 | scope x ih =>
  intro fr H r he C μ w a hk hrd hf hw hm
  rw [evC.eq_def] at he
  simp only at he
  obtain ⟨q, hq, he⟩ := qjw.1 he
  have hqr : (∀ l, q.1 ≠ .goto l) ∧ q = r := by
   cases hq1 : q.1 with
   | goto l => rw [hq1] at he; cases he
   | normal => rw [hq1] at he; simp only [Option.some.injEq] at he; exact ⟨nofun, he⟩
   | exit id => rw [hq1] at he; simp only [Option.some.injEq] at he; exact ⟨nofun, he⟩
   | ret => rw [hq1] at he; simp only [Option.some.injEq] at he; exact ⟨nofun, he⟩
  obtain ⟨h1, rfl⟩ := hqr
  refine qfF (ih hq hk hrd hf hw hm) fun l a1 w1 hp => ?_
  have := hp.1
  cases hq1 : q.1 with
  | goto l => exact h1 l hq1
  | _ => rw [hq1] at this; cases this
 | rangeFunc g ps assign body =>
  intro fr H r he C μ w a hk hrd hf hw hm
  rw [evC.eq_def] at he
  simp only at he
  obtain ⟨a1, a2, a3, a4⟩ := yY (cfg.lift f (qg body)) hw hf
  exact wpIn_mono (qcy hO he (Nat.le_trans hk a3) hrd a2 a1 (hm.ext (a4 k hk))) fun e a' w' hp => hp.mono (a4 k hk) (qjB _)
def zS (tmps : Array Value) : ResultVar → Sem Value
 | .tmp t => pure (tmps.getD t undef)
 | .cell a t => do loadVar t (← asAddr (tmps.getD a undef))
theorem yS [Lent] {cfg : Cfg} (hc : CfgTy cfg) {fr : List AV} {tmps : Array Value} (hf : qe C μ fr tmps) (hw : Wld C μ H w) : ∀ (rs : List ResultVar) {vs : List AV}, qS rs cfg.ty fr H = some vs →
  ∃ us : List Value, (rs.mapM (zS tmps)).run cfg.P w = .ok us w ∧ vs.length = us.length ∧
   ∀ (i : Nat) a v, vs[i]? = some a → us[i]? = some v → Rep C μ a v
 | [], vs, he => by
  simp only [qS] at he
  cases he
  exact ⟨[], by simp, rfl, fun i a v h => by simp at h⟩
 | .tmp t :: l, vs, he => by
  simp only [qS] at he
  obtain ⟨vs', hvs, e⟩ := qjx.1 he
  cases e
  obtain ⟨us, h1, h2, h3⟩ := yS hc hf hw l hvs
  refine ⟨tmps.getD t undef :: us, ?_, by simp [h2], fun i a v e1 e2 => ?_⟩
  ·simp only [List.mapM_cons, Sem.run_bind, zS, Sem.run_pure, Result.andThen_ok, h1]
  ·cases i with
   | zero => simp at e1 e2; subst e1; subst e2; simpa [opd, Act.eval] using za (a := ⟨tmps, []⟩) hf (.tmp t)
   | succ i => exact h3 i a v (by simpa using e1) (by simpa using e2)
 | .cell a t :: l, vs, he => by
  simp only [qS] at he
  split at he
  case h_2 => cases he
  rename_i ti hti
  obtain ⟨x, hx, he⟩ := qjw.1 he
  obtain ⟨vs', hvs, e⟩ := qjx.1 he
  cases e
  obtain ⟨us, h1, h2, h3⟩ := yS hc hf hw l hvs
  have hr : Rep C μ (fr.getD a .junk) (tmps.getD a undef) := by simpa [opd, Act.eval] using za (a := ⟨tmps, []⟩) hf (.tmp a)
  obtain ⟨ad, u, g1, g2, g3⟩ := qcP hw (hc.ty _ _ hti) hr hx
  refine ⟨u :: us, ?_, by simp [h2], fun i a v e1 e2 => ?_⟩
  ·have ga : (zS tmps (.cell a t)).run cfg.P w = .ok u w := by simp only [zS, g1, asAddr, Sem.run_bind, Sem.run_pure, Result.andThen_ok, g2]
   simp only [List.mapM_cons, Sem.run_bind, ga, Sem.run_pure, Result.andThen_ok, h1]
  ·cases i with
   | zero => simp at e1 e2; subst e1; subst e2; exact g3
   | succ i => exact h3 i a v (by simpa using e1) (by simpa using e2)
theorem qed [Lent] {cfg : Cfg} (hc : CfgTy cfg) {fn : Func} {fr : List AV} {tmps : Array Value} (hf : qe C μ fr tmps) (hw : Wld C μ H w) {vs : List AV} (he : qS fn.results.toList cfg.ty fr H = some vs) :
  ∃ v, (results fn tmps).run cfg.P w = .ok v w ∧ Rep C μ (vX vs) v := by
 obtain ⟨us, h1, h2, h3⟩ := yS hc hf hw _ he
 refine ⟨if h : us.toArray.size = 1 then us.toArray[0] else .tuple us.toArray, ?_, ?_⟩
 ·have hr : results fn tmps = (fn.results.mapM (zS tmps) >>= fun vs => pure (if h : vs.size = 1 then vs[0] else .tuple vs)) := rfl
  rw [hr, Array.mapM_eq_mapM_toList]
  simp only [Sem.run_bind, Sem.run_map, Result.andThen_ok, Sem.run_pure, h1]
 ·cases us with
  | nil =>
   cases vs with
   | nil => exact .tup [] [] rfl (fun i a v h => by simp at h)
   | cons x l => simp at h2
  | cons u us =>
   cases vs with
   | nil => simp at h2
   | cons x l =>
    cases us with
    | nil =>
     cases l with
     | nil => simpa [vX] using h3 0 x u rfl rfl
     | cons y l => simp at h2
    | cons u' us =>
     cases l with
     | nil => simp at h2
     | cons y l =>
      have : vX (x :: y :: l) = .tup (x :: y :: l) := rfl
      rw [this, dif_neg (by simp)]
      exact .tup _ _ h2 h3
theorem qgc {cfg : Cfg} {rs : List ResultVar} {q : Ex × List AV × AH} {r : AV} (h : yP cfg rs q = some (r, H')) : (q.1 = .normal ∨ q.1 = .ret) ∧ H' = q.2.2 ∧ ∃ vs, qS rs cfg.ty q.2.1 q.2.2 = some vs ∧ r = vX vs := by
 unfold yP at h
 split at h
 ·rename_i hq
  obtain ⟨vs, h1, e⟩ := qjx.1 h
  cases e
  exact ⟨.inl hq, rfl, vs, h1, rfl⟩
 ·rename_i hq
  obtain ⟨vs, h1, e⟩ := qjx.1 h
  cases e
  exact ⟨.inr hq, rfl, vs, h1, rfl⟩
 ·cases h
theorem qaT [Lent] {fn : Func} {tmps : Array Value} {R : Ending → World → Prop} {B k : Nat} {C0 : qb} {μ0 : MMap} {H0 : AH} {w0 : World} (hB : B = w0.heap.size)
  (hend : ∀ w', Wld C μ H w' → Ext k C0 μ0 H0 w0 C μ H w' → ∃ v, (results fn tmps).run P w' = .ok v w' ∧ R (.returned v) w') : ∀ (Ds : List Nat) {w : World}, Ds.Nodup → (∀ D ∈ Ds, B ≤ D ∧ w.heap[D]? = some (.deferred (some [])) ∧ ¬ Live H μ D) →
   Wld C μ H w → Ext k C0 μ0 H0 w0 C μ H w → LeavesInM Fence.wide 0 P fn tmps R (Ds.map mark) .returning w
 | [], w, _, _, hw, hx => hend w hw hx
 | D :: Ds, w, hnd, hD, hw, hx => by
  obtain ⟨d1, d2, d3⟩ := hD D (List.mem_cons_self ..)
  obtain ⟨hnm, hnd'⟩ := List.nodup_cons.1 hnd
  refine ⟨by simp, .inl ⟨D, _, rfl, run_takeDeferred d2, ?_⟩⟩
  have hne : ∀ b, b ≠ D → (w.putObj D (.deferred none)).heap[b]? = w.heap[b]? := fun b hb => World.putObj_heap_other hb
  refine qaT hB hend Ds hnd' (fun D' hD' => ?_) (hw.worldG (by simp) (fun b hb hor => hne b fun e => ?_)) ⟨hx.os, hx.tape, hx.output, by simpa using hx.size, hx.cl, hx.mu, fun b hb hnl => ?_, hx.len⟩
  ·obtain ⟨g1, g2, g3⟩ := hD D' (List.mem_cons_of_mem _ hD')
   exact ⟨g1, by rw [hne D' (fun e => hnm (by rw [← e]; exact hD'))]; exact g2, g3⟩
  ·subst e
   rcases hor with hl | ⟨o, hc⟩ | ⟨o, hc⟩
   ·exact d3 hl
   ·cases hco : C b o with
    | none => exact hc hco
    | some v =>
     have := hw.cl b o v hco
     simp only [World.cell?, d2] at this
     cases this
   ·cases hco : Lent.l b o with
    | none => exact hc hco
    | some v =>
     have := hw.lnt.1 b o v hco
     simp only [World.cell?, d2] at this
     cases this
  ·obtain ⟨f1, f2, f3⟩ := hx.fr b hb hnl
   exact ⟨by rw [hne b (by omega)]; exact f1, f2, f3⟩
variable {C C' C1 C2 : qb} {μ μ' μ1 : MMap} {H H' H1 H2 : AH} {w w' w1 : World} {P : Program}
structure CfgOk [Lent] (cfg : Cfg) : Prop where
 ty : CfgTy cfg
 mixed : cfg.P.follows .mixedOrders = true
 named : ∀ f fn, cfg.known f = true → cfg.P.funcs[f]? = some fn → (fn.name == "runtime.NumGoroutine") = false
 ext : ∀ f s, cfg.ext f = some s → ∀ args H r H', s args H = some (r, H') → ∀ C μ w vs, qe C μ args vs → Wld C μ H w → qz cfg.P (callFunc f vs) w (qN C μ H w r H')
theorem qgC {f : FuncId} {fn : Func} {c : Code} (hf : P.funcs[f]? = some fn) (hn : (fn.name == "runtime.NumGoroutine") = false) (hb : fn.body = some c) (vs : Array Value) (w : World) : (callFunc f vs).run P w = .ok (.enter f vs) w := by
 unfold callFunc
 simp only [Sem.run_bind, run_program, Result.andThen_ok, hf, hn, hb, Option.isNone_some, qjD, if_false]
 simp
theorem qiV [Lent] {args : List AV} {vs : Array Value} (h : qe C μ args vs) (n : Nat) : qe C μ (args ++ qjL (n - args.length) .junk) (vs ++ Array.replicate (n - vs.size) undef) := by
 refine ⟨by simp [h.1], fun i a v e1 e2 => ?_⟩
 rcases Nat.lt_or_ge i args.length with hlt | hge
 ·rw [qjC hlt] at e1
  rw [Array.getElem?_append_left (by rw [← h.1]; exact hlt)] at e2
  exact h.2 i a v e1 e2
 ·rw [qjF hge] at e1
  have := qjK e1
  rw [List.mem_replicate] at this
  rw [this.2]
  exact .junk v
theorem qax [Lent] : ∀ (ps : List Tmp) {args : List AV} {vs : List Value} {fr : List AV} {tmps : Array Value}, (∀ (i : Nat) a v, args[i]? = some a → vs[i]? = some v → Rep C μ a v) → args.length = vs.length → qe C μ fr tmps →
  qe C μ (vn fr ps args) ((ps.zip vs).foldl (fun t (p, v) => t.setIfInBounds p v) tmps)
 | [], args, vs, fr, tmps, _, _, hf => by cases args <;> simpa [vn] using hf
 | p :: ps, [], vs, fr, tmps, _, hl, hf => by
  have : vs = [] := List.eq_nil_of_length_eq_zero (by simpa using hl.symm)
  subst this
  simpa [vn] using hf
 | p :: ps, x :: args, [], fr, tmps, _, hl, hf => by simp at hl
 | p :: ps, x :: args, v :: vs, fr, tmps, h, hl, hf => by
  rw [vn, List.zip_cons_cons, List.foldl_cons]
  refine qax ps (fun i a u e1 e2 => h (i + 1) a u (by simpa using e1) (by simpa using e2)) (by simpa using hl) ?_
  exact zT (a := ⟨tmps, []⟩) (dst := some p) hf (h 0 x v rfl rfl)
theorem qhX [Lent] {cfg : Cfg} (ok : CfgOk cfg) {cf : Orac} (hO : OracOk2 cfg cf) {f : Nat} {fn : Func} {c : Code} {args : List AV} {vs : Array Value} {r : AV} (hf : cfg.P.funcs[f]? = some fn) (hb : fn.body = some c)
  (he : ((evC cfg cf f none H.length c (args ++ qjL (fn.ntmps - args.length) .junk) H).bind fun r => yP cfg fn.results.toList (r.1, qw (cfg.lift f 0) r.2.1 r.2.2)) = some (r, H')) (ha : qe C μ args vs) (hw : Wld C μ H w) :
  CallsIn Fence.wide 0 cfg.P f vs w fun e w' => ∃ v, e = .returned v ∧ qN C μ H w r H' v w' := by
 obtain ⟨q, hq, he⟩ := qjw.1 he
 obtain ⟨h1, rfl, us, h3, rfl⟩ := qgc he
 refine callsIn_of_wp_marks hf hb trivial (wpIn_mono (qbc ok.ty hO ok.mixed (B := w.heap.size) c hq (F := Fence.wide) (qjB _) rfl (qiV ha fn.ntmps) hw ⟨qjB _, [], rfl, List.nodup_nil, fun D h => by cases h⟩) fun e a' w' hp => ?_)
 obtain ⟨e1, C', μ', e2, e3, e4, hmk⟩ := hp
 obtain ⟨l1, l2, l3, l4⟩ := yY (cfg.lift f 0) e3 e2
 obtain ⟨hB, Ds, m1, m2, m3⟩ := hmk.ext (l4 _ (qjB _))
 replace e2 := l2
 replace e4 := e4.trans (l4 _ e4.len) (qjB _)
 replace e3 := l1
 have hl : LeavesInM Fence.wide 0 cfg.P fn a'.tmps (fun e w' => ∃ v, e = .returned v ∧ qN C μ H w (vX us) (qw (cfg.lift f 0) q.2.1 q.2.2).2 v w') a'.defers .returning w' := by
  rw [m1]
  refine qaT rfl (fun w2 g1 g2 => ?_) Ds m2 m3 e3 e4
  obtain ⟨v, r1, r2⟩ := qed ok.ty e2 g1 h3
  exact ⟨v, r1, v, rfl, C', μ', r2, g1, g2⟩
 rcases h1 with h1 | h1
 ·rw [h1] at e1
  subst e1
  exact hl
 ·rw [h1] at e1
  subst e1
  exact hl
theorem qfN [Lent] {cfg : Cfg} (ok : CfgOk cfg) {cf : Orac} (hO : OracOk2 cfg cf) {id : Nat} {args : List AV} {vs : Array Value} {r : AV} (he : qU cfg cf (.y id) args H = some (r, H')) (ha : qe C μ args vs) (hw : Wld C μ H w) {m : MI} (hm : μ id = some m) :
  qz cfg.P (Instr.yield m.block vs) w (qN C μ H w r H') := by
 unfold qU at he
 simp only at he
 split at he
 case h_2 => cases he
 rename_i f fr ps assign body pend hid
 split at he
 case isFalse => cases he
 rename_i hlen
 obtain ⟨q1, hq1, he⟩ := qjw.1 he
 split at he
 case h_2 => cases he
 rename_i f1 fr1 ps1 assign1 body1 pend1 hx1 hid1
 obtain ⟨q2, hq2, he⟩ := qjw.1 he
 split at he
 case h_2 => cases he
 rename_i f2 fr2 ps2 assign2 body2 pend2 st2 hid2
 obtain ⟨i2, i3, rc, i4, i5, i6, i7, i8, i9, i10⟩ := hw.liveM hid rfl hm
 have hidl : id < H.length := (qjv.1 hid).1
 have hvs : vs.size = rc.params.size := by rw [← ha.1, hlen, ← i7]; simp
 unfold qz
 rw [run_yield i4 hvs]
 simp only
 rw [i8, i9]
 have htm : ((rc.params.zip vs).foldl (fun tmps (t, a) => tmps.setIfInBounds t a) rc.tmps) = ((ps.zip vs.toList).foldl (fun t (p, v) => t.setIfInBounds p v) rc.tmps) := by
  rw [← Array.foldl_toList, Array.toList_zip, i7]
 have hfr0 : qe C μ (vn fr ps args) ((rc.params.zip vs).foldl (fun tmps (t, a) => tmps.setIfInBounds t a) rc.tmps) := by
  rw [htm]
  exact qax ps (fun i a v e1 e2 => ha.2 i a v e1 (by rw [← Array.getElem?_toList]; exact e2)) (by rw [ha.1]; simp) i10
 have hrd : RdOk (some id) (Fence.wide.inRound m.block) μ H.length := ⟨hidl, m, hm, rfl⟩
 refine roundIn_of_wpIn trivial (wpIn_mono (qbc ok.ty hO ok.mixed (B := w.heap.size) assign hq1 (a := ⟨_, []⟩) (qjB _) hrd hfr0 hw ⟨qjB _, [], rfl, List.nodup_nil, fun D h => by cases h⟩) fun e a1 w1 hp => ?_)
 obtain ⟨e1, C1, μ1, p1, p2, p3, p4⟩ := hp
 rw [hx1] at e1
 subst e1
 obtain ⟨m1, hm1, hb1, -⟩ := p3.mu id m hidl hm
 obtain ⟨j2, j3, rc1, j4, j5, j6, j7, j8, j9, j10⟩ := p2.liveM hid1 rfl hm1
 rw [hb1] at j2 j3 j4
 have hidl1 : id < q1.2.2.length := (qjv.1 hid1).1
 refine ⟨_, run_beginRound j4 j5, ?_⟩
 have hw2 : Wld C1 μ1 (q1.2.2.set id (.loop f1 fr1 ps1 assign1 body1 pend1 .busy)) (w1.putObj m.block (.loop { rc1 with state := .busy })) :=
  p2.setBlk hid1 rfl rfl hm1 (by simp) (fun b hb => World.putObj_heap_other (hb1 ▸ hb)) ⟨{ rc1 with state := .busy }, by rw [hb1]; exact World.putObj_heap_same j2, rfl, j6, j7, j8, j9, j10⟩
 have hx2 : Ext q1.2.2.length C1 μ1 q1.2.2 w1 C1 μ1 (q1.2.2.set id (.loop f1 fr1 ps1 assign1 body1 pend1 .busy)) (w1.putObj m.block (.loop { rc1 with state := .busy })) :=
  Ext.setBlk p2 hid1 rfl hm1 (by simp) (fun b hb => World.putObj_heap_other (hb1 ▸ hb)) rfl rfl rfl (qjB _)
 have hx12 := p3.trans hx2 p3.len
 have hrd2 : RdOk (some id) (Fence.wide.inRound m.block) μ1 H.length := ⟨hidl, m1, hm1, by rw [hb1]⟩
 refine wpIn_mono (qbc ok.ty hO ok.mixed (B := w.heap.size) body hq2 (by simpa using p3.len) hrd2 p1 hw2 (p4.ext hx2)) fun e a2 w3 hp => ?_
 obtain ⟨e2, C3, μ3, g1, g2, g3, g4⟩ := hp
 obtain ⟨m3, hm3, hb3, -⟩ := g3.mu id m1 hidl hm1
 rw [hb1] at hb3
 obtain ⟨k2, k3, rc3, k4, k5, k6, k7, k8, k9, k10⟩ := g2.liveM hid2 rfl hm3
 rw [hb3] at k2 k3 k4
 have fin : ∀ (jump : Option Code) , ∃ v w4, (Instr.endRound m.block jump).run cfg.P w3 = .ok v w4 ∧
   qN C μ H w (.bool jump.isNone) (q2.2.2.set id (.loop f2 fr2 ps2 assign2 body2 jump (if jump.isNone then .ready else .done))) v w4 := by
  intro jump
  refine ⟨_, _, run_endRound jump k4, C3, μ3, .bool _, ?_, ?_⟩
  ·exact g2.setBlk hid2 rfl rfl hm3 (by simp) (fun b hb => World.putObj_heap_other (hb3 ▸ hb)) ⟨{ rc3 with state := if jump.isNone then .ready else .done, pending := jump }, by rw [hb3]; exact World.putObj_heap_same k2, rfl, rfl, k7, k8, k9, k10⟩
  ·have := Ext.setBlk (k := q2.2.2.length) (blk' := .loop f2 fr2 ps2 assign2 body2 jump (if jump.isNone then .ready else .done)) g2 hid2 rfl hm3 (w' := w3.putObj m.block (.loop { rc3 with state := if jump.isNone then .ready else .done, pending := jump })) (by simp) (fun b hb => World.putObj_heap_other (hb3 ▸ hb)) rfl rfl rfl (qjB _)
   exact (hx12.trans g3 (qjB _)).trans this (hx12.trans g3 (qjB _)).len
 split at he
 ·rename_i hx
  cases he
  rw [hx] at e2; subst e2
  obtain ⟨v, w4, r1, r2⟩ := fin none
  exact ⟨v, w4, r1, v, rfl, r2⟩
 ·rename_i hx
  cases he
  rw [hx] at e2; subst e2
  obtain ⟨v, w4, r1, r2⟩ := fin (some .ret)
  exact ⟨v, w4, r1, v, rfl, r2⟩
 ·rename_i x hx
  cases he
  rw [hx] at e2; subst e2
  obtain ⟨v, w4, r1, r2⟩ := fin (some (.exit x))
  exact ⟨v, w4, r1, v, rfl, r2⟩
 ·cases he
theorem qfp [Lent] {cfg : Cfg} (ok : CfgOk cfg) {cf : Orac} (hO : OracOk2 cfg cf) : OracOk2 cfg (qU cfg cf) := by
 have key : ∀ f args H r, qU cfg cf (.f f) args H = some r → cfg.ext f = none → ∃ fn c, cfg.known f = true ∧ cfg.P.funcs[f]? = some fn ∧ fn.body = some c ∧ ((evC cfg cf f none H.length c (args ++ qjL (fn.ntmps - args.length) .junk) H).bind fun r => yP cfg fn.results.toList (r.1, qw (cfg.lift f 0) r.2.1 r.2.2)) = some r := by
  intro f args H r he hx
  unfold qU at he
  simp only [hx] at he
  split at he
  case isFalse => cases he
  rename_i hk
  split at he
  case h_2 => cases he
  rename_i fn hf
  split at he
  case h_2 => cases he
  rename_i c hb
  exact ⟨fn, c, hk, hf, hb, he⟩
 have enters : ∀ h args H r, qU cfg cf (.f h) args H = some r → cfg.ext h = none → ∀ vs w, (callFunc h vs).run cfg.P w = .ok (.enter h vs) w := by
  intro h args H r he hx vs w
  obtain ⟨fn, c, h1, h2, h3, _⟩ := key h args H r he hx
  exact qgC h2 (ok.named _ _ h1 h2) h3 vs w
 refine ⟨fun t args H r H' he C μ w vs s ha hw ht => ?_, enters⟩
 cases t with
 | f f =>
  have hs : s = callFunc f vs := ht
  subst hs
  cases hx : cfg.ext f with
  | some sp =>
   unfold qU at he
   simp only [hx] at he
   exact ok.ext f sp hx args H r H' he C μ w vs ha hw
  | none =>
   unfold qz
   rw [enters _ _ _ _ he hx]
   obtain ⟨fn, c, _, h2, h3, h4⟩ := key _ _ _ _ he hx
   exact qhX ok hO h2 h3 h4 ha hw
 | y id =>
  obtain ⟨m, hm, hs⟩ := ht
  subst hs
  exact qfN ok hO he ha hw hm
theorem qba [Lent] {cfg : Cfg} (ok : CfgOk cfg) : ∀ n, OracOk2 cfg (evF cfg n)
 | 0 => ⟨fun t args H r H' he => (by cases he), fun h args H r he => (by cases he)⟩
 | n + 1 => qfp ok (qba ok n)
theorem qfC [Lent] {cfg : Cfg} (ok : CfgOk cfg) : OracOk2 cfg (EV cfg) := by
 refine ⟨fun t args H r H' he => ?_, fun h args H r he => ?_⟩
 ·obtain ⟨n, hn⟩ := yv he
  exact (qba ok n).calls t args H r H' hn
 ·obtain ⟨n, hn⟩ := yv he
  exact (qba ok n).enters h args H r hn
theorem qiC [Lent] {cfg : Cfg} (ok : CfgOk cfg) {f : FuncId} {args : List AV} {vs : Array Value} {r : AV} (hx : cfg.ext f = none) (he : EV cfg (.f f) args H = some (r, H')) (ha : qe C μ args vs) (hw : Wld C μ H w) :
  Calls cfg.P f vs w fun e w' => ∃ v, e = .returned v ∧ qN C μ H w r H' v w' := by
 have hO := qfC ok
 have h := hO.calls _ _ _ _ _ he C μ w vs _ ha hw rfl
 unfold qz at h
 rw [hO.enters _ _ _ _ he hx] at h
 exact callsIn_wide.1 h
section
variable {α β : Type}
def EvG (cf : Nat → Orac) (c : Orac) (G : Orac → Option α) : Prop := ∀ r, G c = some r → ∃ n, ∀ m, n ≤ m → G (cf m) = some r
def Ev (cf : Nat → Orac) (c : Orac) : Prop := ∀ t a H, EvG cf c (fun o => o t a H)
variable {cf : Nat → Orac} {c : Orac}
theorem EvG.const (x : Option α) : EvG cf c (fun _ => x) := fun _r h => ⟨0, fun _ _ => h⟩
theorem EvG.bind {X : Orac → Option α} {K : Orac → α → Option β} (hX : EvG cf c X) (hK : ∀ a, EvG cf c (fun o => K o a)) : EvG cf c (fun o => (X o).bind (K o)) := by
 intro r h
 obtain ⟨a, h1, h2⟩ := qjw.1 h
 obtain ⟨n, hn⟩ := hX a h1
 obtain ⟨n', hn'⟩ := hK a r h2
 exact ⟨max n n', fun m hm => by
  show (X (cf m)).bind (K (cf m)) = some r
  rw [hn m (by omega)]
  exact hn' m (by omega)⟩
theorem EvG.map {X : Orac → Option α} (f : α → β) (hX : EvG cf c X) : EvG cf c (fun o => (X o).map f) := by
 intro r h
 obtain ⟨a, h1, h2⟩ := qjx.1 h
 obtain ⟨n, hn⟩ := hX a h1
 exact ⟨n, fun m hm => by
  show (X (cf m)).map f = some r
  rw [hn m hm, ← h2]; rfl⟩
theorem EvG.ite {p : Prop} [Decidable p] {X Y : Orac → Option α} (hX : EvG cf c X) (hY : EvG cf c Y) : EvG cf c (fun o => if p then X o else Y o) := by
 by_cases h : p
 ·simp only [if_pos h]; exact hX
 ·simp only [if_neg h]; exact hY
theorem qah (h : Ev cf c) (f : Nat) : ∀ l : List AV, EvG cf c (fun o => xh o f l)
 | [] => EvG.const _
 | a :: l => by
  simp only [xh]
  exact (h _ _ _).bind fun r => (EvG.const _).bind fun _ => qah h f l
theorem qfr (h : Ev cf c) (cfg : Cfg) (nid : Option Nat) (t : Tgt) (args : List AV) (H : AH) : EvG cf c (fun o => qn cfg o nid t args H) := by
 cases t with
 | y id => exact (h _ _ _).bind fun r => EvG.const _
 | f f =>
  simp only [qn]
  cases cfg.mode f with
  | scal => exact EvG.ite ((h _ _ _).bind fun r => EvG.const _) (EvG.const _)
  | pfrz => exact EvG.ite ((h _ _ _).bind fun r => EvG.const _) (EvG.const _)
  | nfrz => exact EvG.ite ((h _ _ _).bind fun r => EvG.const _) (EvG.const _)
  | wfrz => exact EvG.ite ((h _ _ _).bind fun r => EvG.const _) (EvG.const _)
  | pown => exact EvG.ite ((h _ _ _).bind fun r => EvG.const _) (EvG.const _)
  | inpl =>
   cases ql 0 args with
   | nil => exact EvG.ite ((h _ _ _).bind fun r => EvG.const _) (EvG.const _)
   | cons id l =>
    refine EvG.ite ?_ (EvG.const _)
    cases hb : H[id]? with
    | none => exact EvG.const _
    | some b =>
     cases b with
     | rows d sz rs => exact EvG.ite ((h _ _ _).bind fun r => EvG.const _) (EvG.const _)
     | _ => exact EvG.const _
  | inpf =>
   cases ql 0 args with
   | nil => exact EvG.const _
   | cons id l =>
    refine EvG.ite ?_ (EvG.const _)
    cases hb : H[id]? with
    | none => exact EvG.const _
    | some b =>
     cases b with
     | rows d sz rs => exact EvG.ite ((h _ _ _).bind fun r => EvG.const _) (EvG.const _)
     | _ => exact EvG.const _
  | slf =>
   cases ql 0 args with
   | nil => exact EvG.const _
   | cons id l =>
    refine EvG.ite ?_ (EvG.const _)
    cases hb : H[id]? with
    | none => exact EvG.const _
    | some b =>
     cases b with
     | rows d sz rs => exact EvG.ite ((h _ _ _).bind fun r => EvG.const _) (EvG.const _)
     | _ => exact EvG.const _
  | imp => exact (h _ _ _).bind fun r => EvG.const _
  | ifrz => exact (h _ _ _).bind fun r => EvG.const _
  | sub => exact (EvG.const _).bind fun s => (h _ _ _).bind fun r => EvG.const _
  | rgn => exact EvG.ite ((h _ _ _).bind fun r => EvG.const _) (EvG.const _)
  | over =>
   dsimp only
   rcases args with _ | ⟨a, _ | ⟨b, l⟩⟩
   ·exact EvG.const _
   ·dsimp only
    cases ql 0 a.alts with
    | nil => exact EvG.const _
    | cons id l =>
     refine EvG.ite ?_ (EvG.const _)
     cases hb : H[id]? with
     | none => exact EvG.const _
     | some b =>
      cases b with
      | reg => exact (qah h _ _).map _
      | spl => exact (qah h _ _).map _
      | _ => exact EvG.const _
   ·exact EvG.const _
theorem qd5 (h : Ev cf c) (cfg : Cfg) (frz : Bool) (nid : Option Nat) (o : Oper) (x : Operand → AV) (H : AH) : EvG cf c (fun q => qu cfg q frz nid o x H) := by
 have core : ∀ (x : Operand → AV) (H : AH), EvG cf c (fun q => match o.op with
    | .call cl =>
     match cl.callee with
     | .value f => (vS (x f) (cl.args.toList.map x)).bind fun t => qn cfg q nid t.1 t.2 H
     | _ => evOp cfg nid o.op o.type x H
    | _ => evOp cfg nid o.op o.type x H) := by
  intro x H
  split
  ·split
   ·exact (EvG.const _).bind fun t => qfr h cfg nid _ _ _
   ·exact EvG.const _
  ·exact EvG.const _
 unfold qu
 cases frz with
 | true => simp only [if_true]; exact core _ _
 | false => simp only [qjD, if_false]; exact core _ _
theorem qb6 (h : Ev cf c) (cfg : Cfg) (f rid : Nat) (ops : Array Oper) : ∀ (l : List Oper) (k : Nat) (fr : List AV) (H : AH), EvG cf c (fun q => xU cfg q f rid ops k l fr H)
 | [], k, fr, H => EvG.const _
 | o :: l, k, fr, H => by
  simp only [xU]
  refine (EvG.const _).bind fun b => EvG.ite ((qd5 h cfg _ _ _ _ _).bind fun r => qb6 h cfg f rid ops l _ _ _) (qb6 h cfg f rid ops l _ _ _)
theorem qbb (h : Ev cf c) (cfg : Cfg) (f rid : Nat) (ops : Array Oper) : ∀ (l : List Oper) (k at_ : Nat) (fr : List AV) (H : AH), EvG cf c (fun q => vK cfg q f rid ops k at_ l fr H)
 | [], k, at_, fr, H => EvG.const _
 | o :: l, k, at_, fr, H => by
  simp only [vK]
  refine (EvG.const _).bind fun b => EvG.ite ((qd5 h cfg _ _ _ _ _).bind fun r => (qbb h cfg f rid ops l _ _ _ _).map _) ((qbb h cfg f rid ops l _ _ _ _).map _)
theorem qcO {k : Nat} {ts : Option (List Tmp)} {ls : List (Tmp × Nat)} {body : Den} : ∀ {n : Nat} {p : List AV × AH} {r : Ex × List AV × AH}, v5 k ts ls body n p = some r → v5 k ts ls body (n + 1) p = some r
 | 0, _, _, h => by cases h
 | n + 1, p, r, h => by
  rw [v5] at h ⊢
  obtain ⟨q, h1, h2⟩ := qjw.1 h
  rw [h1]
  simp only [qjG]
  cases hq : q.1 with
  | normal =>
   rw [hq] at h2
   exact qcO h2
  | exit id => rw [hq] at h2; exact h2
  | goto l => rw [hq] at h2; exact h2
  | ret => rw [hq] at h2; exact h2
theorem qhJ {g : Nat → Option α} (hs : ∀ n r, g n = some r → g (n + 1) = some r) {n : Nat} {r : α} (h : g n = some r) : lim g = some r := by
 have up : ∀ {n : Nat} {r : α}, g n = some r → ∀ d, g (n + d) = some r := by
  intro n r h d
  induction d with
  | zero => exact h
  | succ d ih => exact hs _ _ ih
 have he : ∃ (n : Nat) (r : α), g n = some r := ⟨n, r, h⟩
 unfold lim
 rw [dif_pos he]
 have hc := Classical.choose_spec (Classical.choose_spec he)
 have e1 := up h (Classical.choose he)
 have e2 := up hc n
 rw [Nat.add_comm] at e2
 rw [e1] at e2
 exact e2.symm
theorem qbA {k : Nat} {ts : Option (List Tmp)} {ls : List (Tmp × Nat)} {body : Den} {n : Nat} {p : List AV × AH} {r : Ex × List AV × AH} (h : v5 k ts ls body n p = some r) : LOOP k ts ls body p = some r :=
 qhJ (g := fun n => v5 k ts ls body n p) (fun _ _ h => qcO h) h
theorem qeY {k : Nat} {ts : Option (List Tmp)} {ls : List (Tmp × Nat)} {body : Orac → Den} (hb : ∀ fr H, EvG cf c (fun q => body q fr H)) : ∀ (n : Nat) (p : List AV × AH), EvG cf c (fun q => v5 k ts ls (body q) n p)
 | 0, _ => EvG.const _
 | n + 1, p => by
  simp only [v5]
  refine (hb _ _).bind fun r => ?_
  cases r.1 with
  | normal => exact qeY hb n _
  | exit id => exact EvG.const _
  | goto l => exact EvG.const _
  | ret => exact EvG.const _
theorem qi4 {k : Nat} {ts : Option (List Tmp)} {ls : List (Tmp × Nat)} {body : Orac → Den} (hb : ∀ fr H, EvG cf c (fun q => body q fr H)) (p : List AV × AH) : EvG cf c (fun q => LOOP k ts ls (body q) p) := by
 intro r h
 obtain ⟨n, hn⟩ := yv h
 obtain ⟨m, hm⟩ := qeY hb n p r hn
 exact ⟨m, fun i hi => qbA (hm i hi)⟩
theorem qfo (h : Ev cf c) (cfg : Cfg) (f : Nat) (rd : Option Nat) (k : Nat) : ∀ (cd : Code) (fr : List AV) (H : AH), EvG cf c (fun q => evC cfg q f rd k cd fr H) := by
 intro cd
 induction cd with
 | skip => intro fr H; simp only [evC]; exact EvG.const _
 | label l => intro fr H; simp only [evC]; exact EvG.const _
 | exit id => intro fr H; simp only [evC]; exact EvG.const _
 | ret => intro fr H; simp only [evC]; exact EvG.const _
 | goto l => intro fr H; simp only [evC]; exact EvG.const _
 | refuse s => intro fr H; simp only [evC]; exact EvG.const _
 | region id ops draw =>
  intro fr H
  simp only [evC]
  cases draw with
  | true => simp only [if_true]; exact EvG.ite ((qbb h cfg f id ops _ _ _ _ _).bind fun q => EvG.const _) (EvG.const _)
  | false => simp only [qjD, if_false]; exact (qb6 h cfg f id ops _ _ _ _).map _
 | seq x y ihx ihy =>
  intro fr H
  simp only [evC]
  refine (ihx _ _).bind fun r => ?_
  cases r.1 with
  | normal => exact ihy _ _
  | exit id => exact EvG.const _
  | goto l => exact EvG.const _
  | ret => exact EvG.const _
 | cond cnd x y ihx ihy =>
  intro fr H
  simp only [evC]
  split
  ·exact EvG.ite (ihx _ _) (ihy _ _)
  ·exact EvG.const _
 | block id x ih =>
  intro fr H
  simp only [evC]
  exact (ih _ _).bind fun r => EvG.const _
 | loop x ih =>
  intro fr H
  simp only [evC]
  exact (qi4 ih _).map _
 | scope x ih =>
  intro fr H
  simp only [evC]
  exact (ih _ _).bind fun r => EvG.const _
 | rangeFunc g ps assign body =>
  intro fr H
  simp only [evC, x8]
  refine EvG.ite ?_ (EvG.const _)
  split
  ·exact EvG.ite (EvG.const _) ((h _ _ _).bind fun r => EvG.const _)
  ·exact EvG.const _
theorem qd6 (h : Ev cf c) (cfg : Cfg) (t : Tgt) (args : List AV) (H : AH) : EvG cf c (fun q => qU cfg q t args H) := by
 unfold qU
 cases t with
 | f f =>
  simp only
  split
  ·exact EvG.const _
  ·refine EvG.ite ?_ (EvG.const _)
   split
   ·split
    ·exact (qfo h cfg f none _ _ _ _).bind fun r => EvG.const _
    ·exact EvG.const _
   ·exact EvG.const _
 | y id =>
  simp only
  split
  ·refine EvG.ite ((qfo h cfg _ _ _ _ _ _).bind fun r => ?_) (EvG.const _)
   split
   ·exact (qfo h cfg _ _ _ _ _ _).bind fun q => EvG.const _
   ·exact EvG.const _
  ·exact EvG.const _
end
theorem qb7 (cfg : Cfg) : ∀ (n : Nat) (t : Tgt) (a : List AV) (H : AH) (r : AV × AH), evF cfg n t a H = some r → evF cfg (n + 1) t a H = some r
 | 0, t, a, H, r, h => by cases h
 | n + 1, t, a, H, r, h => by
  have hev : Ev (fun _ => evF cfg (n + 1)) (evF cfg n) := fun t a H r h => ⟨0, fun _ _ => qb7 cfg n t a H r h⟩
  obtain ⟨m, hm⟩ := qd6 hev cfg t a H r h
  exact hm m (qjB _)
theorem qju (cfg : Cfg) : Ev (evF cfg) (EV cfg) := by
 intro t a H r h
 obtain ⟨n, hn⟩ := yv h
 refine ⟨n, fun m hm => ?_⟩
 obtain ⟨d, rfl⟩ := Nat.exists_eq_add_of_le hm
 induction d with
 | zero => exact hn
 | succ d ih => exact qb7 cfg _ t a H r (ih (by omega))
theorem qhk {cfg : Cfg} {t : Tgt} {a : List AV} {H : AH} {r : AV × AH} (h : qU cfg (EV cfg) t a H = some r) : EV cfg t a H = some r := by
 obtain ⟨n, hn⟩ := qd6 (qju cfg) cfg t a H r h
 exact qhJ (g := fun n => evF cfg n t a H) (fun n r h => qb7 cfg n t a H r h) (n := n + 1) (hn n (qjB _))
theorem qbi {k : Nat} {ts : Option (List Tmp)} {ls : List (Tmp × Nat)} {body : Den} {p : List AV × AH} {q : Ex × List AV × AH} (h : body p.1 p.2 = some q) (hq : ∀ x, q ≠ (.normal, x)) : LOOP k ts ls body p = some q := by
 refine qbA (n := 1) ?_
 rw [v5, h]
 obtain ⟨e, q⟩ := q
 cases e with
 | normal => exact absurd rfl (hq q)
 | exit id => rfl
 | goto l => rfl
 | ret => rfl
theorem qh5 {k : Nat} {ts : Option (List Tmp)} {ls : List (Tmp × Nat)} {body : Den} {p : List AV × AH} {fr1 : List AV} {H1 : AH} {r : Ex × List AV × AH} (h : body p.1 p.2 = some (.normal, fr1, H1)) (hr : LOOP k ts ls body (xy k ts ls fr1 H1) = some r) : LOOP k ts ls body p = some r := by
 obtain ⟨n, hn⟩ := yv hr
 refine qbA (n := n + 1) ?_
 rw [v5, h]
 exact hn
variable {α : Type}
abbrev KV (α : Type) := AV → Option α
abbrev KH (α : Type) := AV → AH → Option α
abbrev KE (α : Type) := Ex → List AV → AH → Option α
abbrev KF (α : Type) := Tgt → List AV → AH → (AV × AH → Option α) → Option α
inductive FK where
 | int (k : IntKind)
 | bool
 | str
 | sl
 | any
def yg (a b : IntKind) : Bool := decide (a = b)
def kInt (kd : IntKind) (v : AV) (k : Int → Option α) : Option α :=
 match v with
 | .int k' n => cond (yg k' kd) (k n) none
 | _ => none
def xl (v : AV) (k : Bool → Option α) : Option α :=
 match v with
 | .bool b => k b
 | _ => none
def kStr (v : AV) (k : List UInt8 → Option α) : Option α :=
 match v with
 | .str s => k s
 | _ => none
def kSl (v : AV) (k : List (List AV) → Option α) : Option α :=
 match v with
 | .sl rows => k rows
 | _ => none
def kAgg (v : AV) (k : List AV → Option α) : Option α :=
 match v with
 | .agg cs => k cs
 | _ => none
def kOpt {β : Type} (o : Option β) (k : β → Option α) : Option α :=
 match o with
 | some b => k b
 | none => none
def yk (l : List AV) (k : AV → List AV → Option α) : Option α :=
 match l with
 | c :: cs => k c cs
 | [] => none
def kNil (l : List AV) (x : Option α) : Option α :=
 match l with
 | [] => x
 | _ => none
def yj (s : FK) (v : AV) (k : KV α) : Option α :=
 match s with
 | .int kd => kInt kd v fun n => k (.int kd n)
 | .bool => xl v fun b => k (.bool b)
 | .str => kStr v fun s => k (.str s)
 | .sl => kSl v fun rows => k (.sl rows)
 | .any => k v
def yl : List FK → List AV → (List AV → Option α) → Option α
 | [], l, k => kNil l (k [])
 | s :: ss, l, k => yk l fun c cs => yj s c fun v => yl ss cs fun vs => k (v :: vs)
def qhL (sl : Bool) : TD → FK
 | .int k => .int k
 | .bool => .bool
 | .str => .str
 | .slice _ => if sl then .sl else .any
 | _ => .any
def qcQ (cfg : Cfg) (p : TypeId → Bool) : Nat → TypeId → Option (List FK)
 | 0, _ => none
 | n + 1, t =>
  match cfg.td t with
  | some (.struct fs) => (fs.foldr (fun f acc => match qcQ cfg p n f.2, acc with | some l, some a => some (l ++ a) | _, _ => none) (some []))
  | some (.array m e) => (match qcQ cfg p n e with | some l => some ((qjL m l).flatten) | none => none)
  | some d => some [qhL (p t) d]
  | none => none
def kTy1 (p : TypeId → Bool) (cfg : Cfg) (t : TypeId) (v : AV) (k : KV α) : Option α :=
 match cfg.td t with
 | some d =>
  match d with
  | .struct _ => (match qcQ cfg p 6 t with | some ss => kAgg v fun cs => yl ss cs fun vs => k (.agg vs) | none => k v)
  | .array _ _ => (match qcQ cfg p 6 t with | some ss => kAgg v fun cs => yl ss cs fun vs => k (.agg vs) | none => k v)
  | d => yj (qhL (p t) d) v k
 | none => k v
def kTup (v : AV) (k : List AV → Option α) : Option α :=
 match v with
 | .tup cs => k cs
 | _ => none
def kTys (p : TypeId → Bool) (cfg : Cfg) : List TypeId → List AV → (List AV → Option α) → Option α
 | [], l, k => kNil l (k [])
 | t :: ts, l, k => yk l fun c cs => kTy1 p cfg t c fun v => kTys p cfg ts cs fun vs => k (v :: vs)
def kTy (p : TypeId → Bool) (cfg : Cfg) (t : TypeId) (v : AV) (k : KV α) : Option α :=
 match cfg.tup t with
 | some ts => kTup v fun cs => kTys p cfg ts cs fun vs => k (.tup vs)
 | none => kTy1 p cfg t v k
def AV.regA (i : Nat) : AV → AV
 | .agg cs => .agg (cs.map (AV.regn i))
 | a => a
def noTy : TypeId → Bool := fun _ => false
def qav : TypeId → Bool := fun _ => true
def qjs (cfg : Cfg) (H : AH) (a : AV) : TypeId → Bool :=
 match a with
 | .cptr _ _ => cfg.dat
 | .ptr id _ _ => if qL H id then cfg.dat else noTy
 | _ => noTy
def kNew (nid : Option Nat) (H : AH) (b : ABlk) (k : Nat → AH → Option α) : Option α :=
 match nid with
 | none => k H.length (H ++ [b])
 | some i => kOpt H[i]? fun x => match x with | .res => k i (H.set i b) | _ => none
def qhe (cfg : Cfg) (t : TypeId) : Bool := match cfg.td t with | some d => d.agg | none => false
def yx (agg : Bool) (v : AV) (k : List AV → Option α) : Option α :=
 cond agg (kAgg v fun cs => cond (qG cs) (k cs) none) (cond v.isCell (k [v]) none)
def qgS (t : Bool) (a b : AV) (k : KV α) : Option α :=
 match a, b with
 | .bool p, .bool q => k (.bool (cond t p q))
 | .int k1 p, .int k2 q => cond (yg k1 k2) (k (.int k1 (cond t p q))) (cond t (k a) (k b))
 | a, b => cond t (k a) (k b)
def qc2 (place : Nat → Option (Nat × Nat × Bool)) (cells : List AV) : List (Nat × AV) → (List AV → Option α) → Option α
 | [], k => k cells
 | (i, v) :: rest, k =>
  match place i with
  | some (off, size, agg) => yx agg v fun cs => cond (qjM cs.length size && Nat.ble (off + size) cells.length) (qc2 place (cells.take off ++ cs ++ cells.drop (off + size)) rest k) none
  | none => none
def qbq (cfg : Cfg) : List (Nat × TypeId) → Option (List (Nat × Nat × Bool))
 | [] => some []
 | (off, t) :: l =>
  match cfg.sz t, qbq cfg l with
  | some n, some ps => some ((off, n, qhe cfg t) :: ps)
  | _, _ => none
def qet (agg : Bool) (n : Nat) (rows : List (List AV)) : List (Nat × AV) → (List (List AV) → Option α) → Option α
 | [], k => k rows
 | (i, v) :: rest, k => yx agg v fun cs => cond (qjM cs.length n && Nat.blt i rows.length) (qet agg n (rows.set i cs) rest k) none
def kBlk (H : AH) (id : Nat) (k : Nat → List (List AV) → Option α) : Option α :=
 kOpt H[id]? fun b => match b with | .rows _ sz rs => k sz rs | .froz _ sz rs => k sz rs | _ => none
def qbu (H : AH) (id : Nat) (k : Bool → Nat → List (List AV) → Option α) : Option α :=
 kOpt H[id]? fun b => match b with | .rows d sz rs => k d sz rs | _ => none
def yD (agg : Bool) (n : Nat) (cells : List AV) (off : Nat) (k : KV α) : Option α :=
 cond agg (cond (Nat.ble (off + n) cells.length) (k (.agg ((cells.drop off).take n))) none) (kOpt cells[off]? k)
def qcW (agg : Bool) (n : Nat) (H : AH) (p : AV) (k : KV α) : Option α :=
 match p with
 | .ptr id r off => kBlk H id fun _ rs => kOpt rs[r]? fun row => yD agg n row off k
 | .cptr cs off => yD agg n cs off k
 | .lpt cs off => yD agg n (cs.map AV.lend) off k
 | .rpt id cs off => kOpt H[id]? fun b => match b with
  | .reg => yD agg n (cs.map (AV.regn id)) off k
  | .spl => cond agg (cond (qjM n 4) (yl [.int .i64, .int .i64, .str, .sl] ((cs.drop off).take 4) fun vs => k (.alt [.agg (vs.map (AV.regn id)), .agg qbo, .agg row0])) none) (kOpt (qdB cs off) fun rows => k (.rsl id rows))
  | _ => none
 | _ => none
def qe1 (agg : Bool) (n : Nat) (H : AH) (p v : AV) (k : AH → Option α) : Option α :=
 match p with
 | .ptr id r off => yx agg v fun cs => qbu H id fun d sz rs => kOpt rs[r]? fun row => cond (qjM cs.length n && Nat.ble (off + n) row.length) (k (H.set id (.rows (d && qf 0 cs) sz (rs.set r (row.take off ++ cs ++ row.drop (off + n)))))) none
 | .rpt id cs off => kOpt H[id]? fun b => match b with | .spl => cond (qjM n 4) (cond (yu ((cs.drop off).take 4) && is77 v) (k H) none) (cond (qjM n 7 && qc7 (cs.drop off) && zb v) (k H) none) | _ => none
 | _ => none
def qaZ (v : AV) (k : KV α) : Option α :=
 match v with
 | .ptr id r off => k (.ptr id r off)
 | .cptr cs off => k (.cptr cs off)
 | .fn (.func f) a b => k (.fn (.func f) a b)
 | .mp id => k (.mp id)
 | .yld id => k (.yld id)
 | _ => none
def qZ (a b : Int) : Bool := decide (a ≤ b)
def yB (a b : Int) : Bool := decide (a < b)
def qa1 (lo hi : Nat) (x : Option AV) (dflt : Nat) (k : Nat → Option α) : Option α :=
 match x with
 | none => k dflt
 | some v => match v with | .int _ i => cond (qZ lo i && qZ i hi) (k i.toNat) none | _ => none
def yw (n : Nat) (lo hi mx : Option AV) (k : Nat → Nat → Option α) : Option α :=
 cond (hi.isNone && mx.isSome) none (qa1 0 n hi n fun h => qa1 h n mx h fun _ => qa1 0 h lo 0 fun l => k l h)
def qe2 (cfg : Cfg) (t : TypeId) (H : AH) (x : AV) (lo hi mx : Option AV) (k : KV α) : Option α :=
 match cfg.td t with
 | some .str => (match mx with | none => (match x with | .str s => yw s.length lo hi none fun l h => k (.str ((s.drop l).take (h - l))) | _ => none) | _ => none)
 | some (.slice e) =>
  match cfg.sz e with
  | some n =>
   match x with
   | .nilS => yw 0 lo hi mx fun _ _ => k .nilS
   | .sl rows => yw rows.length lo hi mx fun l h => cond (zR n rows) (match cfg.ems t with | false => k (.sl ((rows.drop l).take (h - l))) | true => k (slE true rows l h)) none
   | .ms id off len => yw len lo hi mx fun l h => kBlk H id fun sz _ => cond (qjM sz n) (k (.ms id (off + l) (h - l))) none
   | .wr _ v => (match lo, hi, mx with
    | none, some hv, none => (match hv with
     | .int _ h => (match v with
      | .sl rows => cond (qZ 0 h && qZ h rows.length) (k (.wr h.toNat (.sl rows))) none
      | .ms id off len => cond (qZ 0 h && qZ h len) (k (.wr h.toNat (.ms id off len))) none
      | _ => none)
     | _ => none)
    | _, _, _ => none)
   | _ => none
  | none => none
 | _ => none
def qak (cfg : Cfg) (t : TypeId) (H : AH) (x i : AV) (k : KV α) : Option α :=
 match i with
 | .int _ i =>
  match cfg.td t with
  | some (.slice e) =>
   match cfg.sz e with
   | some n =>
    match x with
    | .ms id off len => kBlk H id fun sz _ => cond (qjM sz n && qZ 0 i && yB i len) (k (.ptr id (off + i.toNat) 0)) none
    | .sl rows => cond (qZ 0 i && yB i rows.length) (kOpt rows[i.toNat]? fun row => cond (qjM row.length n) (k (.cptr row 0)) none) none
    | .lsl rows => cond (qZ 0 i && yB i rows.length) (kOpt rows[i.toNat]? fun row => cond (qjM row.length n) (k (.lpt row 0)) none) none
    | .rsl id rows => cond (qZ 0 i && yB i rows.length) (kOpt rows[i.toNat]? fun row => cond (qjM row.length n) (k (.rpt id row 0)) none) none
    | _ => none
   | none => none
  | some (.array n e) =>
   match cfg.sz e with
   | some sz =>
    match x with
    | .ptr id r off => cond (qZ 0 i && yB i n) (k (.ptr id r (off + i.toNat * sz))) none
    | .cptr cs off => cond (qZ 0 i && yB i n) (k (.cptr cs (off + i.toNat * sz))) none
    | _ => none
   | none => none
  | _ => none
 | _ => none
def qfa (cfg : Cfg) (t : TypeId) (x i : AV) (k : KV α) : Option α :=
 match i with
 | .int _ i =>
  match cfg.td t with
  | some (.array n e) =>
   match cfg.ty e with
   | some ti => kAgg x fun cs => cond (qZ 0 i && yB i n) (yD ti.d.agg ti.sz cs (i.toNat * ti.sz) k) none
   | none => none
  | some .str => kStr x fun s => cond (qZ 0 i) (kOpt s[i.toNat]? fun b => k (.int .u8 b.toNat)) none
  | _ => none
 | _ => none
def qfb (cfg : Cfg) (t : TypeId) (x : AV) (f : Nat) (k : KV α) : Option α :=
 match cfg.td t with
 | some (.struct fs) =>
  match fs[f]? with
  | some (off, ft) => (match cfg.ty ft with | some ti => kAgg x fun cs => yD ti.d.agg ti.sz cs off k | none => none)
  | none => none
 | _ => none
def qan (cfg : Cfg) (t : TypeId) (x : AV) (f : Nat) (k : KV α) : Option α :=
 match cfg.td t with
 | some (.struct fs) =>
  match fs[f]? with
  | some (o, ft) =>
   match cfg.sz ft with
   | some (_ + 1) => (match x with | .ptr id r off => k (.ptr id r (off + o)) | .cptr cs off => k (.cptr cs (off + o)) | .rpt id cs off => k (.rpt id cs (off + o)) | _ => none)
   | _ => none
  | none => none
 | _ => none
def qb2 (cfg : Cfg) (nid : Option Nat) (src dst : TypeId) (x : AV) (H : AH) (k : KH α) : Option α :=
 match cfg.td src, cfg.td dst with
 | some (.int _), some (.int kd) => (match x with | .int _ n => k (.int kd (kd.wrap n)) H | _ => none)
 | some .str, some .str => kStr x fun s => k (.str s) H
 | some .str, some (.slice e) =>
  match cfg.td e with
  | some (.int .u8) => kStr x fun s => kNew nid H (.rows true 1 (v7 s)) fun i H' => k (.ms i 0 s.length) H'
  | _ => none
 | some (.slice e), some .str =>
  match cfg.td e with
  | some (.int .u8) => kOpt (vg H 1 x) fun rows => kOpt (q5 rows) fun bs => k (.str bs) H
  | _ => none
 | _, _ => none
def qdI (H : AH) (n : Nat) (x : AV) (k : List (List AV) → Option α) : Option α :=
 match x with
 | .nilS => k []
 | .em => k []
 | .sl rows => cond (zR n rows) (k rows) none
 | .ms id off len => kBlk H id fun sz rs => cond (qjM sz n && Nat.ble (off + len) rs.length) (k ((rs.drop off).take len)) none
 | _ => none
def kSrc (isStr : Bool) (H : AH) (n : Nat) (x : AV) (k : List (List AV) → Option α) : Option α :=
 cond isStr (kStr x fun b => cond (qjM n 1) (k (v7 b)) none) (qdI H n x k)
def qgo (cfg : Cfg) (t : TypeId) : Bool := match cfg.td t with | some .str => true | _ => false
def qdK (cfg : Cfg) (nid : Option Nat) (t xt : TypeId) (s x : AV) (H : AH) (k : KH α) : Option α :=
 match cfg.td t, cfg.td xt with
 | some (.slice e), some xd =>
  match cfg.ty e with
  | some ei =>
   cond (xd.notInt && Nat.blt 0 ei.sz && qjM ei.zero.length ei.sz)
    (kSrc (qgo cfg xt) H ei.sz x fun news =>
     match s with
     | .nilS => cond news.isEmpty (k .nilS H) (cond (zp news.length ei.bytes) (kNew nid H (.rows (qR H x) ei.sz news) fun i H' => k (.ms i 0 news.length) H') none)
     | .ms id off len => qbu H id fun d sz rs => cond (qjM sz ei.sz && Nat.ble (off + len) rs.length && zp (len + news.length) ei.bytes)
       (kNew nid (H.set id .dead) (.rows (d && qR H x) sz ((rs.drop off).take len ++ news)) fun i H' => k (.ms i 0 (len + news.length)) H') none
     | _ => none) none
  | none => none
 | _, _ => none
def kLen (cfg : Cfg) (t : TypeId) (x : AV) (H : AH) (k : KV α) : Option α :=
 match cfg.td t with
 | some .str => kStr x fun s => k (.int .i64 s.length)
 | some (.slice _) => (match x with | .nilS => k (.int .i64 0) | .em => k (.int .i64 0) | .sl rows => k (.int .i64 rows.length) | .ms _ _ len => k (.int .i64 len) | .lsl rows => k (.int .i64 rows.length) | .rsl _ rows => k (.int .i64 rows.length) | _ => none)
 | some (.array n _) => k (.int .i64 n)
 | some (.map _ _) => (match x with | .nilM => k (.int .i64 0) | .mp id => (kOpt H[id]? fun b => match b with | .mp es => k (.int .i64 es.length) | _ => none) | _ => none)
 | _ => none
def qev (cfg : Cfg) (nid : Option Nat) (t : TypeId) (len cap : AV) (H : AH) (k : KH α) : Option α :=
 match cfg.td t with
 | some (.slice e) =>
  match cfg.ty e with
  | some ei =>
   cond (vW ei) (kInt .i64 len fun n => kInt .i64 cap fun c =>
    cond (qZ 0 n && qZ n c && qZ (c * ei.bytes) 140737488355328 && qZ c 9223372036854775807) (kNew nid H (.rows true ei.sz (qjL n.toNat ei.zero)) fun i H' => k (.ms i 0 n.toNat) H') none) none
  | none => none
 | _ => none
def qe7 (cfg : Cfg) (nid : Option Nat) (t : TypeId) (len cap : AV) (H : AH) (k : KH α) : Option α :=
 match cfg.wrt t with
 | false => qev cfg nid t len cap H k
 | true =>
  match len, cap with
  | .int _ n, .int _ c => cond (decide (n = c)) (qev cfg nid t len cap H fun v H' => match v with | .ms id off l => k (.wr l (.ms id off l)) H' | _ => none) none
  | _, _ => none
def kCap (cfg : Cfg) (t : TypeId) (x : AV) (k : KV α) : Option α :=
 match cfg.td t with
 | some (.slice _) => (match x with | .wr _ v => (match v with | .sl rows => k (.int .i64 rows.length) | .ms _ _ len => k (.int .i64 len) | _ => none) | _ => none)
 | _ => none
def qfd (cfg : Cfg) (t : TypeId) (x : AV) (H : AH) (k : AH → Option α) : Option α :=
 match cfg.td t with
 | some (.slice e) =>
  match x with
  | .nilS => k H
  | .ms id off len =>
   match cfg.ty e with
   | some ei => qbu H id fun d sz rs => cond (vW ei && qjM sz ei.sz && Nat.ble (off + len) rs.length) (k (H.set id (.rows d sz (rs.take off ++ qjL len ei.zero ++ rs.drop (off + len))))) none
   | none => none
  | _ => none
 | _ => none
def qgX (cfg : Cfg) (t xt : TypeId) (d s : AV) (H : AH) (k : KH α) : Option α :=
 match cfg.td t with
 | some (.slice e) =>
  match d with
  | .ms id off len =>
   match cfg.sz e with
   | some n => qbu H id fun d sz rs => kSrc (qgo cfg xt) H n s fun news => cond (qjM sz n && Nat.ble (off + len) rs.length && Nat.blt 0 sz)
     (k (.int .i64 (Nat.min news.length len)) (H.set id (.rows (d && qR H s) sz (rs.take off ++ news.take len ++ rs.drop (off + (news.take len).length))))) none
   | none => none
  | _ => none
 | _ => none
def kOp (cfg : Cfg) (nid : Option Nat) (o : Op) (ty : TypeId) (x : Operand → AV) (H : AH) (k : KH α) : Option α :=
 match o with
 | .move a | .assign a => k (x a) H
 | .pick c a b => xl (x c) fun t => qgS t (x a) (x b) fun v => k v H
 | .alloc t =>
  match cfg.ty t with
  | some ti => cond (qG ti.zero) (kNew nid H (.rows (bigZ (cfg.fga t ti.zero)) ti.zero.length [cfg.fga t ti.zero]) fun i H' => k (.ptr i 0 0) H') none
  | none => none
 | .box t a => yx (qhe cfg t) (x a) fun cs => kNew nid H (.rows (bigZ cs) cs.length [cs]) fun i H' => k (.ptr i 0 0) H'
 | .build t parts =>
  match cfg.ty t with
  | some ti =>
   cond (qG ti.zero)
    (match ti.d with
    | .struct fs =>
     match qbq cfg fs with
     | some ps => qc2 (fun i => ps[i]?) ti.zero (parts.toList.map fun p => (p.1, x p.2)) fun cs => k (.agg (cfg.fga t cs)) H
     | none => none
    | .array _ e =>
     match cfg.sz e with
     | some n => qc2 (fun i => some (i * n, n, qhe cfg e)) ti.zero (parts.toList.map fun p => (p.1, x p.2)) fun cs => k (.agg cs) H
     | none => none
    | _ => none) none
  | none => none
 | .buildSlice t len parts =>
  match cfg.td t with
  | some (.slice e) =>
   match cfg.ty e with
   | some ei =>
    cond (vW ei && Nat.ble (len * ei.sz) 16777216)
     (qet ei.d.agg ei.sz (qjL len ei.zero) (parts.toList.map fun p => (p.1, x p.2)) fun rows => kNew nid H (.rows (qh 0 rows) ei.sz rows) fun i H' => k (.ms i 0 len) H') none
   | none => none
  | _ => none
 | .load t a =>
  match cfg.ty t with
  | some ti => match x a with
   | .lpt cs off => yD ti.d.agg ti.sz cs off fun v => kTy cfg.dat cfg t v fun v => cond ti.d.agg (k v.lendA H) (k v.lend H)
   | .rpt id cs off => kOpt H[id]? fun b => match b with
    | .reg => yD ti.d.agg ti.sz cs off fun v => kTy cfg.dat cfg t v fun v => cond ti.d.agg (k (v.regA id) H) (k (v.regn id) H)
    | _ => qcW ti.d.agg ti.sz H (.rpt id cs off) fun v => k v H
   | p => qcW ti.d.agg ti.sz H p fun v => kTy (qjs cfg H p) cfg t v fun v => k v H
  | none => none
 | .store t a v =>
  match cfg.ty t with
  | some ti => qe1 ti.d.agg ti.sz H (x a) (x v) fun H' => k .junk H'
  | none => none
 | .nilCheck a => qaZ (x a) fun v => k v H
 | .binOp op t a b _ => kOpt (aBin cfg (litN a b) op t (x a) (x b)) fun v => kTy noTy cfg ty v fun v => k v H
 | .unOp op _ a => kOpt (aUn op (x a)) fun v => kTy noTy cfg ty v fun v => k v H
 | .convert s d a => qb2 cfg nid s d (x a) H k
 | .makeFunc f first caps => k (.fn f (first.toList.map x) (caps.toList.map x)) H
 | .makeSlice t l c => qe7 cfg nid t (x l) (x c) H k
 | .slice t a lo hi mx => qe2 cfg t H (x a) (lo.map x) (hi.map x) (mx.map x) fun v => k v H
 | .fieldAddr t a f => qan cfg t (x a) f fun v => k v H
 | .field t a f => qfb cfg t (x a) f fun v => kTy noTy cfg ty v fun v => k v H
 | .indexAddr t a i => qak cfg t H (x a).unwr (x i) fun v => k v H
 | .index t a i => qfa cfg t (x a) (x i) fun v => kTy noTy cfg ty v fun v => k v H
 | .extract t i => (match x t with | .tup vs => kOpt vs[i]? fun v => kTy noTy cfg ty v fun v => k v H | _ => none)
 | .call c =>
  match c.callee with
  | .builtin b =>
   match b, c.args.toList, c.argTypes.toList with
   | .len, [a], [t] => kLen cfg t (x a).unwr H fun v => k v H
   | .cap, [a], [t] => kCap cfg t (x a) fun v => k v H
   | .append, [s, a], [t, xt] => qdK cfg nid t xt (x s) (x a) H k
   | .copy, [d, s], [t, xt] => qgX cfg t xt (x d).unwr (x s) H k
   | .clear, [a], [t] => qfd cfg t (x a) H fun H' => k (.tup []) H'
   | .min, [a, b], _ => kOpt (aMin (fun b a => decide (b < a)) [x a, x b]) fun v => kTy noTy cfg ty v fun v => k v H
   | .max, [a, b], _ => kOpt (aMin (fun b a => decide (a < b)) [x a, x b]) fun v => kTy noTy cfg ty v fun v => k v H
   | _, _, _ => none
  | _ => none
 | _ => none
def qc0 (g s : Bool) (H : AH) (v : AV) (k : KV α) : Option α :=
 match v with
 | .ms id off len => kBlk H id fun _ rs => cond (Nat.ble (off + len) rs.length && (qL H id || qh 0 ((rs.drop off).take len))) (k (.sl ((rs.drop off).take len))) none
 | .nilS => k (cond g (.sl []) .nilS)
 | .em => k (cond g (.sl []) .em)
 | .wr n v => (match v with | .sl rows => k (cond g (.sl (rows.take n)) (.wr n (.sl rows))) | _ => none)
 | .ptr id r off => cond s (kBlk H id fun _ rs => kOpt rs[r]? fun row => cond (qf 0 row) (k (.cptr row off)) none) (k (.ptr id r off))
 | .rsl id rows => cond s (kOpt H[id]? fun b => match b with | .reg => k (.sl rows) | _ => none) (k (.rsl id rows))
 | a => k a
def xS (g s : Bool) (H : AH) : List AV → (List AV → Option α) → Option α
 | [], k => k []
 | a :: l, k => qc0 g s H a fun a => xS g s H l fun l => k (a :: l)
def qbs (s : Bool) (H : AH) (v : AV) (k : KV α) : Option α :=
 match v with
 | .agg cs => xS true s H cs fun cs => k (.agg cs)
 | .tup cs => cond s (k ((AV.tup cs).fg)) (xS true s H cs fun cs => k (.tup cs))
 | .fn f a b => cond s (xS false s H a fun a => xS false s H b fun b => k (.fn f a b)) (k (.fn f a b))
 | a => qc0 true s H a k
def qgT (H : AH) (v : AV) (k : KV α) : Option α :=
 match v with
 | .agg cs => xS false false H cs fun cs => k (.agg cs)
 | .tup cs => xS false false H cs fun cs => k (.tup cs)
 | a => qc0 false false H a k
def qa0 (H : AH) : List AV → (List AV → Option α) → Option α
 | [], k => k []
 | a :: l, k => qgT H a fun a => qa0 H l fun l => k (a :: l)
def qez (H : AH) : List AV → (List AV → Option α) → Option α
 | [], k => k []
 | a :: l, k => qbs true H a fun a => qez H l fun l => k (a :: l)
inductive OV where
 | nil
 | own (sz : Nat) (rs : List (List AV)) (off len : Nat)
def ovOf (r : AV × AH) : Option OV :=
 match r.1 with
 | .nilS => some .nil
 | .ms id off len =>
  match r.2[id]? with
  | some (.rows d sz rs) => if d || qh 0 rs then some (.own sz rs off len) else none
  | _ => none
 | _ => none
def qiE (r : AV × AH) : Option (OV × AV) :=
 match r.1 with
 | .tup [a, s] => cond s.scalar1 (match ovOf (a, r.2) with | some o => some (o, s) | none => none) none
 | _ => none
def EVd (cf : Orac) (f : Nat) (args : List AV) (sz : Nat) (rs : List (List AV)) : Option (AV × List (List AV)) := (cf (.f f) args [.rows true sz rs]).bind (qfj sz)
def EVx (cf : Orac) (f : Nat) (args : List AV) (sz : Nat) (rs : List (List AV)) : Option (AV × List (List AV)) := (cf (.f f) args [.rows false sz rs]).bind (qeK sz)
open Classical in
noncomputable def EVk (cf : Orac) (f : Nat) (args : List AV) (sz : Nat) (rs : List (List AV)) : Option AV := (EVx cf f args sz rs).bind fun q => if q.2 = rs then some q.1 else none
theorem qiB {cf : Orac} {f : Nat} {args : List AV} {sz : Nat} {rs : List (List AV)} {v : AV} (h : EVk cf f args sz rs = some v) : EVx cf f args sz rs = some (v, rs) := by
 unfold EVk at h
 obtain ⟨q, h1, h2⟩ := qjw.1 h
 split at h2
 ·rename_i e
  rw [h1, ← Option.some.inj h2, ← e]
 ·cases h2
def EVs (cf : Orac) (f : Nat) (args : List AV) : Option AV := (cf (.f f) args []).map fun r => r.1
def EVf (cf : Orac) (f : Nat) (args : List AV) : Option AV := (cf (.f f) args []).map fun r => (r.1.frz r.1.msIds r.2).fg
def EVo (cf : Orac) (f : Nat) (args : List AV) : Option OV := (cf (.f f) args []).bind ovOf
def EVw (cf : Orac) (f : Nat) (args : List AV) : Option AV := (cf (.f f) args []).map fun r => r.1.frzW r.1.msIdsW r.2
def kWr (v : AV) (k : Nat → List (List AV) → Option α) : Option α :=
 match v with
 | .wr n (.sl rows) => k n rows
 | _ => none
def EVn (cf : Orac) (f : Nat) (args : List AV) : Option AV := (cf (.f f) args []).bind fun r => qep r.2 r.1
def EVg (cf : Orac) (f : Nat) (args : List AV) : Option AV := (cf (.f f) args []).bind fun r => qcv r.2 r.1
def EVz (cf : Orac) (f : Nat) (a : AV) : Option Unit := (cf (.f f) [a] [.spl]).bind qdE
def qc6 (cf : Orac) (f : Nat) : List AV → Option α → Option α
 | [], k => k
 | a :: l, k => kOpt (EVz cf f a) fun _ => qc6 cf f l k
def EVq (cf : Orac) (f : Nat) (args : List AV) : Option (OV × AV) := (cf (.f f) args []).bind qiE
def kOwn (o : OV) (x : Option α) (k : Nat → List (List AV) → Nat → Nat → Option α) : Option α :=
 match o with
 | .nil => x
 | .own sz rs off len => k sz rs off len
inductive MV where
 | unit
 | nil
 | sl (off len : Nat)
 | int (k : IntKind) (n : Int)
 | bool (b : Bool)
def mvOf : AV → Option MV
 | .tup [] => some .unit
 | .nilS => some .nil
 | .ms id off len => if qjM id 0 then some (.sl off len) else none
 | .int k n => some (.int k n)
 | .bool b => some (.bool b)
 | _ => none
def MV.av (id : Nat) : MV → AV
 | .unit => .tup []
 | .nil => .nilS
 | .sl off len => .ms id off len
 | .int k n => .int k n
 | .bool b => .bool b
def EVm (cf : Orac) (f : Nat) (args : List AV) (sz : Nat) (rs : List (List AV)) : Option (MV × List (List AV)) :=
 (cf (.f f) args [.rows true sz rs]).bind fun r => (qeW sz r).bind fun q => (mvOf q.1).map fun v => (v, q.2)
def EVu (cf : Orac) (f : Nat) (args : List AV) : Option MV := (cf (.f f) args []).bind fun r => if r.1.refsLt 0 then mvOf r.1 else none
def kMSl (v : MV) (x : Option α) (k : Nat → Nat → Option α) : Option α :=
 match v with
 | .nil => x
 | .sl off len => k off len
 | _ => none
def qe8 (v : MV) (x : Option α) : Option α :=
 match v with
 | .unit => x
 | _ => none
def qex (kd : IntKind) (v : MV) (k : Int → Option α) : Option α :=
 match v with
 | .int q n => cond (yg q kd) (k n) none
 | _ => none
def qe9 (v : MV) (k : Bool → Option α) : Option α :=
 match v with
 | .bool b => k b
 | _ => none
def qhI (cfg : Cfg) (ty : TypeId) : Nat :=
 match cfg.td ty with
 | some (.slice _) => 1
 | some (.int _) => 2
 | some .bool => 3
 | _ => 0
def qiF (cfg : Cfg) (ty : TypeId) : IntKind :=
 match cfg.td ty with
 | some (.int k) => k
 | _ => .i64
def qew (kd : Nat) (ik : IntKind) (id : Nat) (v : MV) (k : KV α) : Option α :=
 match kd with
 | 0 => qe8 v (k (.tup []))
 | 1 => kMSl v (k .nilS) fun off len => k (.ms id off len)
 | 2 => qex ik v fun n => k (.int ik n)
 | _ => qe9 v fun b => k (.bool b)
noncomputable def qbt (cfg : Cfg) (cf : Orac) (kf : KF α) (nid : Option Nat) (ty : TypeId) (t : Tgt) (args : List AV) (H : AH) (k : KH α) : Option α :=
 match t with
 | .y id => kf (.y id) args H fun r => kOpt (xL nid H.length r.1 r.2) fun r => kTy noTy cfg ty r.1 fun v => k v r.2
 | .f f =>
  match cfg.mode f with
  | .scal => qez H args fun al => cond (qf 0 al) (match cfg.inl f with
   | some _ => kf (.f f) al [] fun r => kTy noTy cfg ty r.1 fun v => cond v.scalar (k v H) none
   | none => kOpt (EVs cf f al) fun v => kTy noTy cfg ty v fun v => cond v.scalar (k v H) none) none
  | .pfrz => cond (qf 0 (args.map AV.fg)) (match cfg.inl f with
   | some _ => kf (.f f) (args.map AV.fg) [] fun r => qbs false r.2 r.1 fun v => kTy qav cfg ty v fun v => cond (v.refsLt 0) (k v H) none
   | none => kOpt (EVf cf f (args.map AV.fg)) fun v => kTy qav cfg ty v fun v => cond (v.refsLt 0) (k v H) none) none
  | .wfrz => cond (qf 0 args) (kOpt (EVw cf f args) fun v => match cfg.td ty with
    | some (.slice _) => kWr v fun n rows => k (.wr n (.sl rows)) H
    | _ => kTy noTy cfg ty v fun v => cond (v.refsLt 0) (k v H) none) none
  | .nfrz => cond (qf 0 (args.map AV.fg)) (kOpt (EVn cf f (args.map AV.fg)) fun V => kTy qav cfg ty V fun V => k V.lendT H) none
  | .pown => match cfg.tup ty with
   | some [_, t2] => cond (qf 0 args) (kOpt (EVq cf f args) fun q => kTy1 noTy cfg t2 q.2 fun s => kOwn q.1 (k (.tup [.nilS, s]) H) fun sz rs off len => kNew nid H (.rows true sz rs) fun i H' => k (.tup [.ms i off len, s]) H') none
   | _ => cond (qf 0 args) (match cfg.inl f with
   | some _ => kf (.f f) args [] fun r => kOpt (ovOf r) fun o => kOwn o (k .nilS H) fun sz rs off len => kNew nid H (.rows true sz rs) fun i H' => k (.ms i off len) H'
   | none => kOpt (EVo cf f args) fun o => kOwn o (k .nilS H) fun sz rs off len => kNew nid H (.rows true sz rs) fun i H' => k (.ms i off len) H') none
  | .inpl =>
   match ql 0 args with
   | id :: l => cond (qK [id] l) (kOpt H[id]? fun b => match b with
     | .rows d sz rs => cond (d || qh 0 rs) (kOpt (EVm cf f (renL (fun _ => 0) args) sz rs) fun q => qew (qhI cfg ty) (qiF cfg ty) id q.1 fun v => k v (H.set id (.rows true sz q.2))) none
     | _ => none) none
   | [] => cond (qf 0 args) (kOpt (EVu cf f args) fun v => qew (qhI cfg ty) (qiF cfg ty) 0 v fun v => k v H) none
  | .imp => kf (.f f) args H fun r => kOpt (xL nid H.length r.1 r.2) fun r => kTy noTy cfg ty r.1 fun v => k v r.2
  | .ifrz => kf (.f f) args H fun r => kOpt (xL nid H.length (r.1.frz r.1.msIds r.2) (qk r.1.msIds r.2)) fun r => kTy noTy cfg ty r.1 fun v => k v r.2
  | .inpf =>
   match ql 0 args with
   | id :: l => cond (qK [id] l) (kOpt H[id]? fun b => match b with
     | .rows d sz rs => cond (d || qh 0 rs) (kOpt (EVd cf f (renL (fun _ => 0) args) sz rs) fun q => kTy qav cfg ty q.1 fun v => k v (H.set id (.rows true sz q.2))) none
     | _ => none) none
   | [] => none
  | .slf =>
   match ql 0 args with
   | id :: l => cond (qK [id] l) (kOpt H[id]? fun b => match b with
     | .rows _ sz rs => cond (qK [id] (vJ 0 rs)) (kOpt (EVk cf f (renL (fun _ => 0) args) sz (renR (fun _ => 0) rs)) fun q => kTy qav cfg ty q fun v => k v (H.set id (.rows false sz (renR (fun _ => id) (renR (fun _ => 0) rs))))) none
     | _ => none) none
   | [] => none
  | .rgn => cond (qf 0 (args.map AV.fg)) (kOpt (EVg cf f (args.map AV.fg)) fun V => kTy qav cfg ty V fun V => kNew nid H .reg fun i H' => k (rgIn i V) H') none
  | .over =>
   match args with
   | [a] =>
    (match ql 0 a.alts with
    | id :: l => cond (qK [id] l) (kOpt H[id]? fun b => match b with
      | .reg => qc6 cf f (renL (fun _ => 0) a.alts) (k (.tup []) (H.set id .spl))
      | .spl => qc6 cf f (renL (fun _ => 0) a.alts) (k (.tup []) H)
      | _ => none) none
    | [] => none)
   | _ => none
  | .sub => kOpt (zt H args) fun s => kf (.f f) (renL (qP 0 s.1) args) s.2 fun r => kOpt (qcp s.1.length r) fun q => kOpt (vG nid H (q.2.length - s.1.length)) fun p => kTy noTy cfg ty (q.1.ren (vt (s.1 ++ p.1))) fun v => k v (xa p.2 (s.1 ++ p.1) q.2)
def kTgt (f : AV) (args : List AV) (k : Tgt → List AV → Option α) : Option α :=
 match f with
 | .fn (.func g) first caps => k (.f g) (first ++ args ++ caps)
 | .yld id => k (.y id) args
 | _ => none
def opEq : Operand → Operand → Bool
 | .tmp a, .tmp b => qjM a b
 | _, _ => false
def frzX : List Operand → List AV → (Operand → AV) → Operand → AV
 | b :: l, v :: al, x, a => cond (opEq b a) v (frzX l al x a)
 | _, _, x, a => x a
noncomputable def qey (cfg : Cfg) (nid : Option Nat) (o : Oper) (x : Operand → AV) (H : AH) (k : KH α) : Option α :=
 qa0 H (o.op.operands.toList.map x) fun al =>
  kOp cfg nid o.op o.type (frzX o.op.operands.toList al fun a => (x a).frz (o.op.operands.toList.flatMap fun a => (x a).msIds) H) (qk (o.op.operands.toList.flatMap fun a => (x a).msIds) H) k
noncomputable def qeu (cfg : Cfg) (cf : Orac) (kf : KF α) (frz : Bool) (nid : Option Nat) (o : Oper) (x : Operand → AV) (H : AH) (k : KH α) : Option α :=
 cond frz
  (match o.op with
   | .call c =>
    match c.callee with
    | .value f => qa0 H (c.args.toList.map x) fun al => kTgt ((x f).frz (o.op.operands.toList.flatMap fun a => (x a).msIds) H) al fun t al =>
      qbt cfg cf kf nid o.type t al (qk (o.op.operands.toList.flatMap fun a => (x a).msIds) H) k
    | _ => qey cfg nid o x H k
   | _ => qey cfg nid o x H k)
  (match o.op with
   | .call c =>
    match c.callee with
    | .value f => kTgt (x f) (c.args.toList.map x) fun t al => qbt cfg cf kf nid o.type t al H k
    | _ => kOp cfg nid o.op o.type x H k
   | _ => kOp cfg nid o.op o.type x H k)
def qbr (ops : Array Oper) (fr : List AV) (o : Oper) (k : Bool → List AV → Option α) : Option α :=
 match o.guard with
 | none => k true fr
 | some (j, want) =>
  match (ops[j]?).bind (·.dst) with
  | some d => kOpt fr[d]? fun v => match v with
   | .tup l => (match l with | [] => k false fr | _ => none)
   | v => xl v fun b => cond b (k want (fr.set d (.bool true))) (k (!want) (fr.set d (.bool false)))
  | none => none
noncomputable def kOps (cfg : Cfg) (cf : Orac) (kf : KF α) (f rid : Nat) (ops : Array Oper) : Nat → List Oper → List AV → AH → (List AV → AH → Option α) → Option α
 | _, [], fr, H, k => k fr H
 | n, o :: rest, fr, H, k => qbr ops fr o fun b fr =>
   cond b (qeu cfg cf kf (cfg.frz f rid n) none o (opd fr) H fun v H' => kOps cfg cf kf f rid ops (n + 1) rest (put fr o.dst v) H' k) (kOps cfg cf kf f rid ops (n + 1) rest (put fr o.dst (.tup [])) H k)
noncomputable def qc4 (cfg : Cfg) (cf : Orac) (kf : KF α) (f rid : Nat) (ops : Array Oper) : Nat → Nat → List Oper → List AV → AH → (List DR → List AV → AH → Option α) → Option α
 | _, _, [], fr, H, k => k [] fr H
 | n, at_, o :: rest, fr, H, k => qbr ops fr o fun b fr =>
   cond b
    (qeu cfg cf kf (cfg.frz f rid n) (some at_) o (opd fr) H fun v H' =>
     qc4 cfg cf kf f rid ops (n + 1) (at_ + zn cfg o) rest (put fr o.dst v) H' fun fps fr' H'' => k (drOf cfg (cfg.frz f rid n) at_ o (opd fr) H v H' :: fps) fr' H'')
    (qc4 cfg cf kf f rid ops (n + 1) (at_ + zn cfg o) rest (put fr o.dst (.tup [])) H fun fps fr' H'' => k (drNo H :: fps) fr' H'')
open Classical in
noncomputable def CUT {β : Type} (p : β) : Option β := if ∃ q : β, some q = some p then some p else none
theorem qjn {β : Type} (p : β) : CUT p = some p := if_pos ⟨p, rfl⟩
noncomputable def qfc (ts : Option (List Tmp)) (fr : List AV) (H : AH) (g : List AV → AH → Option α) : Option α :=
 match ts with
 | none => g fr H
 | some ks => kOpt (CUT (qB (some ks) fr, H)) fun p => g p.1 p.2
theorem qf3 {ts : Option (List Tmp)} {fr : List AV} {H : AH} {g : List AV → AH → Option α} {r : α} (h : qfc ts fr H g = some r) : g (qB ts fr) H = some r := by
 cases ts with
 | none => exact h
 | some ks =>
  have h : kOpt (CUT (qB (some ks) fr, H)) (fun p => g p.1 p.2) = some r := h
  rw [qjn] at h
  exact h
def kSeq (nx : List AV → AH → Option α) (k : KE α) : KE α := fun e fr H =>
 match e with
 | .normal => nx fr H
 | e => k e fr H
def qfe (id : Nat) (k : KE α) : KE α := fun e fr H =>
 match e with
 | .exit id' => cond (qjM id' id) (k .normal fr H) (k (.exit id') fr H)
 | e => k e fr H
def qe3 (k : KE α) : KE α := fun e fr H =>
 match e with
 | .goto _ => none
 | e => k e fr H
def kAft (ts : Option (List Tmp)) (k : KE α) (r : Ex × List AV × AH) : Option α := k r.1 (qB ts r.2.1) r.2.2
def known (fr : List AV) (c : Operand) (b : Bool) : List AV :=
 match c with
 | .tmp d => fr.set d (.bool b)
 | _ => fr
def qiH (b : ABlk) (k : Option Code → Option α) : Option α :=
 match b with
 | .loop _ _ _ _ _ pend st => (match st with | .busy => none | _ => k pend)
 | _ => none
def qe5 (pend : Option Code) (k : KE α) (fr : List AV) (H : AH) : Option α :=
 match pend with
 | none => k .normal fr H
 | some c => (match c with | .ret => k .ret fr H | .exit id => k (.exit id) fr H | _ => none)
def qd3 (bs n : Nat) (fr : List AV) (k : KE α) (H : AH) : Option α :=
 kOpt H[n]? fun b => qiH b fun pend => qe5 pend k (gc bs fr (H.set n .dead)).1 (gc bs fr (H.set n .dead)).2
def qhN (cfg : Cfg) (_cf : Orac) (kf : KF α) (f : Nat) (rd : Option Nat) (bs : Nat) (g : AV) (ps : List Tmp) (assign body : Code) (fr : List AV) (H : AH) (k : KE α) : Option α :=
 cond (qeS rd H)
  (match g with
   | .fn (.func h) first caps => cond (cfg.ext h).isNone
     (kf (.f h) (first ++ [.yld H.length] ++ caps) (H ++ [.loop f (qB (cfg.keepIn f (qg body)) fr) ps assign body none .ready]) fun r =>
      qd3 bs H.length (qB (cfg.keepOut f (qg body)) fr) k r.2) none
   | _ => none) none
noncomputable def qH (cfg : Cfg) (cf : Orac) (kf : KF α) (f : Nat) (rd : Option Nat) (bs : Nat) : Code → List AV → AH → KE α → Option α
 | .skip, fr, H, k => k .normal fr H
 | .label _, fr, H, k => k .normal fr H
 | .region id ops draw, fr, H, k =>
  cond draw
   (cond (zs ops)
    (qc4 cfg cf kf f id ops 0 H.length ops.toList fr (H ++ qjL (places cfg ops.toList) .res) fun fps fr' H' => cond (zY (ancs [] ops.toList) (H ++ qjL (places cfg ops.toList) .res) fps) (k .normal fr' H') none) none)
   (kOps cfg cf kf f id ops 0 ops.toList fr H fun fr' H' => k .normal fr' H')
 | .seq a b, fr, H, k => qH cfg cf kf f rd bs a fr H (kSeq (fun fr H => qfc (cfg.cut f (qg b)) fr H fun fr H => qH cfg cf kf f rd bs b fr H k) k)
 | .cond c a b, fr, H, k => xl (opd fr c) fun t => cond t (qH cfg cf kf f rd bs a (known fr c true) H k) (qH cfg cf kf f rd bs b (known fr c false) H k)
 | .block id a, fr, H, k => qH cfg cf kf f rd bs a fr H (qfe id k)
 | .loop a, fr, H, k => kOpt (LOOP bs (cfg.keepIn f (qg a)) (cfg.lift f (qg a)) (evC cfg cf f rd bs a) (xy bs (cfg.keepIn f (qg a)) (cfg.lift f (qg a)) fr H)) (kAft (cfg.keepOut f (qg a)) k)
 | .scope a, fr, H, k => qH cfg cf kf f rd bs a fr H (qe3 k)
 | .exit id, fr, H, k => k (.exit id) fr H
 | .goto _, _, _, _ => none
 | .ret, fr, H, k => k .ret fr H
 | .rangeFunc g ps assign body, fr, H, k => qhN cfg cf kf f rd bs (opd (qw (cfg.lift f (qg body)) fr H).1 g) ps.toList assign body (qw (cfg.lift f (qg body)) fr H).1 (qw (cfg.lift f (qg body)) fr H).2 k
 | .refuse _, _, _, _ => none
inductive Ko where
 | seq (c : Code)
 | block (id : Nat)
 | scope
noncomputable def kRun (cfg : Cfg) (cf : Orac) (kf : KF α) (f : Nat) (rd : Option Nat) (bs : Nat) (k : KE α) : List Ko → KE α
 | [] => k
 | .seq c :: s => kSeq (fun fr H => qfc (cfg.cut f (qg c)) fr H fun fr H => qH cfg cf kf f rd bs c fr H (kRun cfg cf kf f rd bs k s)) (kRun cfg cf kf f rd bs k s)
 | .block id :: s => qfe id (kRun cfg cf kf f rd bs k s)
 | .scope :: s => qe3 (kRun cfg cf kf f rd bs k s)
def kRes (cfg : Cfg) (fr : List AV) (H : AH) : List ResultVar → (List AV → Option α) → Option α
 | [], k => k []
 | .tmp t :: l, k => kRes cfg fr H l fun vs => k (fr.getD t .junk :: vs)
 | .cell a t :: l, k =>
  match cfg.ty t with
  | some ti => qcW ti.d.agg ti.sz H (fr.getD a .junk) fun v => kTy noTy cfg t v fun v => kRes cfg fr H l fun vs => k (v :: vs)
  | none => none
variable {α : Type} {r : α} {H : AH}
theorem qa {b : Bool} {x : Option α} (h : cond b x none = some r) : b = true ∧ x = some r := by cases b <;> simp_all
theorem qhc {b : Bool} {x : Option α} (h : cond b none x = some r) : b = false ∧ x = some r := by cases b <;> simp_all
theorem q9 {b : Bool} {x y : Option α} (h : cond b x y = some r) : (b = true ∧ x = some r) ∨ (b = false ∧ y = some r) := by cases b <;> simp_all
theorem qaU {a b : IntKind} (h : yg a b = true) : a = b := by simpa [yg] using h
theorem qx {a b : Int} : qZ a b = true ↔ a ≤ b := by simp [qZ]
theorem xw {a b : Int} : yB a b = true ↔ a < b := by simp [yB]
theorem yM {kd : IntKind} {v : AV} {k : Int → Option α} (h : kInt kd v k = some r) : ∃ n, v = .int kd n ∧ k n = some r := by
 unfold kInt at h
 split at h
 ·obtain ⟨h1, h2⟩ := qa h
  rw [qaU h1]; exact ⟨_, rfl, h2⟩
 ·cases h
theorem y4 {v : AV} {k : Bool → Option α} (h : xl v k = some r) : ∃ b, v = .bool b ∧ k b = some r := by
 unfold xl at h; split at h
 ·exact ⟨_, rfl, h⟩
 ·cases h
theorem xx {v : AV} {k : List UInt8 → Option α} (h : kStr v k = some r) : ∃ b, v = .str b ∧ k b = some r := by
 unfold kStr at h; split at h
 ·exact ⟨_, rfl, h⟩
 ·cases h
theorem zz {v : AV} {k : List AV → Option α} (h : kAgg v k = some r) : ∃ b, v = .agg b ∧ k b = some r := by
 unfold kAgg at h; split at h
 ·exact ⟨_, rfl, h⟩
 ·cases h
theorem qd {β : Type} {o : Option β} {k : β → Option α} (h : kOpt o k = some r) : ∃ b, o = some b ∧ k b = some r := by
 unfold kOpt at h; split at h
 ·exact ⟨_, rfl, h⟩
 ·cases h
theorem xE {l : List AV} {k : AV → List AV → Option α} (h : yk l k = some r) : ∃ a b, l = a :: b ∧ k a b = some r := by
 unfold yk at h; split at h
 ·exact ⟨_, _, rfl, h⟩
 ·cases h
theorem qaY {l : List AV} {x : Option α} (h : kNil l x = some r) : l = [] ∧ x = some r := by
 unfold kNil at h; split at h
 ·exact ⟨rfl, h⟩
 ·cases h
theorem qbO {s : FK} {v : AV} {k : KV α} (h : yj s v k = some r) : k v = some r := by
 cases s with
 | int kd => obtain ⟨n, rfl, h1⟩ := yM h; exact h1
 | bool => obtain ⟨n, rfl, h1⟩ := y4 h; exact h1
 | str => obtain ⟨n, rfl, h1⟩ := xx h; exact h1
 | sl =>
  have h : kSl v (fun rows => k (.sl rows)) = some r := h
  unfold kSl at h
  split at h
  ·exact h
  ·cases h
 | any => exact h
theorem zF : ∀ {ss : List FK} {l : List AV} {k : List AV → Option α}, yl ss l k = some r → k l = some r
 | [], l, k, h => by
  obtain ⟨rfl, h1⟩ := qaY h
  exact h1
 | s :: ss, l, k, h => by
  obtain ⟨a, b, rfl, h1⟩ := xE h
  exact zF (k := fun vs => k (a :: vs)) (qbO (k := fun v => yl ss b fun vs => k (v :: vs)) h1)
theorem qgY {l0 : List AV} {k : List AV → Option α} (h0 : yl [.int .i64, .int .i64, .str, .sl] l0 k = some r) : yu l0 = true ∧ k l0 = some r := by
 refine ⟨?_, zF h0⟩
 simp only [yl] at h0
 obtain ⟨a, l1, rfl, h1⟩ := xE h0
 obtain ⟨n, rfl, h2⟩ := yM (k := fun n => yk l1 fun c cs => yj (.int .i64) c fun v => yk cs fun c cs => yj .str c fun v1 => yk cs fun c cs => yj .sl c fun v2 => kNil cs (k [.int .i64 n, v, v1, v2])) h1
 obtain ⟨a, l2, rfl, h3⟩ := xE h2
 obtain ⟨m, rfl, h4⟩ := yM (k := fun m => yk l2 fun c cs => yj .str c fun v1 => yk cs fun c cs => yj .sl c fun v2 => kNil cs (k [.int .i64 n, .int .i64 m, v1, v2])) h3
 obtain ⟨a, l3, rfl, h5⟩ := xE h4
 obtain ⟨s, rfl, h6⟩ := xx (k := fun s => yk l3 fun c cs => yj .sl c fun v2 => kNil cs (k [.int .i64 n, .int .i64 m, .str s, v2])) h5
 obtain ⟨a, l4, rfl, h7⟩ := xE h6
 have h8 : kSl a (fun rows => kNil l4 (k [.int .i64 n, .int .i64 m, .str s, .sl rows])) = some r := h7
 unfold kSl at h8
 split at h8
 ·obtain ⟨rfl, _⟩ := qaY h8
  rfl
 ·cases h8
theorem qaW {p : TypeId → Bool} {cfg : Cfg} {t : TypeId} {v : AV} {k : KV α} (h : kTy1 p cfg t v k = some r) : k v = some r := by
 unfold kTy1 at h
 have agg : ∀ {ss : List FK}, (kAgg v fun cs => yl ss cs fun vs => k (.agg vs)) = some r → k v = some r := by
  intro ss h
  obtain ⟨cs, rfl, h⟩ := zz h
  exact zF (k := fun vs => k (.agg vs)) h
 split at h
 ·split at h
  ·split at h
   ·exact agg h
   ·exact h
  ·split at h
   ·exact agg h
   ·exact h
  ·exact qbO h
 ·exact h
theorem qd1 {p : TypeId → Bool} {cfg : Cfg} : ∀ {ts : List TypeId} {l : List AV} {k : List AV → Option α}, kTys p cfg ts l k = some r → k l = some r
 | [], l, k, h => by
  rw [kTys] at h
  obtain ⟨h1, h2⟩ := qaY h
  rw [h1]; exact h2
 | t :: ts, l, k, h => by
  rw [kTys] at h
  obtain ⟨a, b, rfl, h⟩ := xE h
  have h1 := qaW (k := fun v => kTys p cfg ts b fun vs => k (v :: vs)) h
  exact qd1 (k := fun vs => k (a :: vs)) h1
theorem qt {p : TypeId → Bool} {cfg : Cfg} {t : TypeId} {v : AV} {k : KV α} (h : kTy p cfg t v k = some r) : k v = some r := by
 unfold kTy at h
 split at h
 ·unfold kTup at h
  split at h
  ·exact qd1 (k := fun vs => k (.tup vs)) h
  ·cases h
 ·exact qaW h
theorem vo {nid : Option Nat} {b : ABlk} {k : Nat → AH → Option α} (h : kNew nid H b k = some r) : ∃ i H', aNew nid H b = some (i, H') ∧ k i H' = some r := by
 unfold kNew at h
 unfold aNew
 cases nid with
 | none => exact ⟨_, _, rfl, h⟩
 | some i =>
  simp only at h ⊢
  obtain ⟨x, hx, h⟩ := qd h
  rw [hx]
  split at h
  ·exact ⟨_, _, rfl, h⟩
  ·cases h
theorem qfg {v : AV} (h : v.isCell = true) : v.cells = some [v] := by cases v <;> simp_all [AV.isCell, AV.cells]
theorem xT {agg : Bool} {v : AV} {k : List AV → Option α} (h : yx agg v k = some r) : ∃ cs, v.cells = some cs ∧ k cs = some r := by
 unfold yx at h
 rcases q9 h with ⟨_, h⟩ | ⟨_, h⟩
 ·obtain ⟨cs, rfl, h⟩ := zz h
  obtain ⟨h1, h2⟩ := qa h
  exact ⟨cs, by simp [AV.cells, h1], h2⟩
 ·obtain ⟨h1, h2⟩ := qa h
  exact ⟨_, qfg h1, h2⟩
theorem qgR {t : Bool} {a b : AV} {k : KV α} (h : qgS t a b k = some r) : k (if t then a else b) = some r := by
 have sp : ∀ {a b : AV}, cond t (k a) (k b) = some r → k (if t then a else b) = some r := by
  intro a b h
  cases t <;> simpa using h
 unfold qgS at h
 split at h
 ·cases t <;> simpa using h
 ·rcases q9 h with ⟨h1, h⟩ | ⟨_, h⟩
  ·have := qaU h1; subst this
   cases t <;> simpa using h
  ·exact sp h
 ·exact sp h
theorem qam {place : Nat → Option (Nat × Nat × Bool)} {place' : Nat → Option (Nat × Nat)} (hp : ∀ i off n g, place i = some (off, n, g) → place' i = some (off, n)) : ∀ {parts : List (Nat × AV)} {cells : List AV} {k : List AV → Option α},
  qc2 place cells parts k = some r → ∃ cs, yI place' cells parts = some cs ∧ k cs = some r
 | [], cells, k, h => ⟨cells, rfl, h⟩
 | (i, v) :: rest, cells, k, h => by
  rw [qc2] at h
  split at h
  ·rename_i off n g hi
   obtain ⟨cs, h1, h⟩ := xT h
   obtain ⟨h2, h⟩ := qa h
   obtain ⟨cs', h3, h4⟩ := qam hp h
   refine ⟨cs', ?_, h4⟩
   rw [qjy] at h2
   rw [yI, hp _ _ _ _ hi, h1]
   simp only
   rw [if_pos]
   ·exact h3
   ·rw [qjy, beq_iff_eq]
    exact ⟨qjA h2.1, h2.2⟩
  ·cases h
theorem qcB {cfg : Cfg} : ∀ {fs : List (Nat × TypeId)} {ps : List (Nat × Nat × Bool)}, qbq cfg fs = some ps → ∃ qs, xu cfg fs = some qs ∧ ∀ (i off n : Nat) (g : Bool), ps[i]? = some (off, n, g) → qs[i]? = some (off, n)
 | [], ps, h => by cases h; exact ⟨[], rfl, fun i off n g h => by simp at h⟩
 | (off, t) :: l, ps, h => by
  rw [qbq] at h
  split at h
  ·rename_i n ps' h1 h2
   cases h
   obtain ⟨qs, h3, h4⟩ := qcB h2
   refine ⟨(off, n) :: qs, by rw [xu, h1, h3], fun i o m g hi => ?_⟩
   cases i with
   | zero => simp at hi ⊢; exact ⟨hi.1, hi.2.1⟩
   | succ i => simpa using h4 i o m g (by simpa using hi)
  ·cases h
theorem qcT {agg : Bool} {n : Nat} : ∀ {parts : List (Nat × AV)} {rows : List (List AV)} {k : List (List AV) → Option α}, qet agg n rows parts k = some r → ∃ rs, yq n rows parts = some rs ∧ k rs = some r
 | [], rows, k, h => ⟨rows, rfl, h⟩
 | (i, v) :: rest, rows, k, h => by
  rw [qet] at h
  obtain ⟨cs, h1, h⟩ := xT h
  obtain ⟨h2, h⟩ := qa h
  obtain ⟨rs, h3, h4⟩ := qcT h
  refine ⟨rs, ?_, h4⟩
  rw [qjy] at h2
  rw [yq, h1]
  simp only
  rw [if_pos]
  ·exact h3
  ·rw [qjy, beq_iff_eq]
   exact ⟨qjA h2.1, h2.2⟩
theorem xZ {id : Nat} {k : Nat → List (List AV) → Option α} (h : kBlk H id k = some r) : ∃ sz rs, qm H id = some (sz, rs) ∧ k sz rs = some r := by
 unfold kBlk at h
 obtain ⟨b, hb, h⟩ := qd h
 unfold qm
 rw [hb]
 split at h
 ·exact ⟨_, _, rfl, h⟩
 ·exact ⟨_, _, rfl, h⟩
 ·cases h
theorem yi {g s : Bool} {v : AV} {k : KV α} (h : qc0 g s H v k = some r) : (∀ ids, (∀ id off len, v = .ms id off len → id ∈ ids) → s = false → k (cond g (v.frz1 ids H).fg1 (v.frz1 ids H)) = some r) ∧ (s = true → k (cond g (v.snap1 H).fg1 (v.snap1 H)) = some r) := by
 unfold qc0 at h
 split at h
 ·rename_i id off len
  obtain ⟨sz, rs, h1, h⟩ := xZ h
  rcases hc : (Nat.ble (off + len) rs.length && (qL H id || qh 0 ((rs.drop off).take len))) with _ | _
  ·rw [hc] at h; cases h
  ·rw [hc] at h
   have h : k (.sl ((rs.drop off).take len)) = some r := h
   have aux : ∀ ids : List Nat, id ∈ ids → (AV.ms id off len).frz1 ids H = .sl ((rs.drop off).take len) := by
    intro ids hi
    simp only [AV.frz1, h1]
    rw [if_pos]
    rw [Bool.and_assoc, hc, Bool.and_true]
    exact qv.2 hi
   refine ⟨fun ids hi _ => ?_, fun _ => ?_⟩
   ·rw [aux ids (hi _ _ _ rfl)]; cases g <;> exact h
   ·simp only [AV.snap1]; rw [aux [id] (by simp)]; cases g <;> exact h
 ·refine ⟨fun ids _ _ => ?_, fun _ => ?_⟩ <;> (cases g <;> exact h)
 ·refine ⟨fun ids _ _ => ?_, fun _ => ?_⟩ <;> (cases g <;> exact h)
 ·split at h
  ·refine ⟨fun ids _ _ => ?_, fun _ => ?_⟩ <;> (cases g <;> exact h)
  ·cases h
 ·rename_i id r' off
  cases s with
  | false => exact ⟨fun ids _ _ => by cases g <;> exact h, fun h => by cases h⟩
  | true =>
   refine ⟨fun _ _ h => by (cases h), fun _ => ?_⟩
   obtain ⟨sz, rs, h1, h⟩ := xZ h
   obtain ⟨row, h2, h⟩ := qd h
   obtain ⟨h3, h⟩ := qa h
   simp only [AV.snap1, h1, h2, qdm, h3, if_true]
   cases g <;> exact h
 ·rename_i id rows
  cases s with
  | false => exact ⟨fun ids _ _ => by cases g <;> exact h, fun h => by cases h⟩
  | true =>
   refine ⟨fun _ _ h => by (cases h), fun _ => ?_⟩
   obtain ⟨b, h1, h⟩ := qd h
   split at h
   ·simp only [AV.snap1, h1]
    cases rows <;> cases g <;> exact h
   ·cases h
 ·rename_i hn1 hn2 hn4 hn6 hn3 hn5
  refine ⟨fun ids _ _ => ?_, fun _ => ?_⟩
  ·have : v.frz1 ids H = v := by
    cases v <;> first | rfl | exact absurd rfl (hn1 _ _ _)
   rw [this]
   have : v.fg1 = v := by
    cases v <;> first | rfl | exact absurd rfl hn2 | exact absurd rfl hn4 | exact absurd rfl (hn6 _ _)
   rw [this]; cases g <;> exact h
  ·have : v.snap1 H = v := by
    cases v <;> first | rfl | exact absurd rfl (hn1 _ _ _) | exact absurd rfl (hn3 _ _ _) | exact absurd rfl (hn5 _ _)
   rw [this]
   have : v.fg1 = v := by
    cases v <;> first | rfl | exact absurd rfl hn2 | exact absurd rfl hn4 | exact absurd rfl (hn6 _ _)
   rw [this]; cases g <;> exact h
theorem yN {g : Bool} {ids : List Nat} : ∀ {l : List AV} {k : List AV → Option α}, (∀ v ∈ l, ∀ id off len, v = .ms id off len → id ∈ ids) → xS g false H l k = some r → k (l.map fun v => cond g (v.frz1 ids H).fg1 (v.frz1 ids H)) = some r
 | [], k, _, h => h
 | a :: l, k, hi, h => by
  rw [xS] at h
  have h1 := (yi h).1 ids (hi a (by simp)) rfl
  exact yN (k := fun l => k (cond g (a.frz1 ids H).fg1 (a.frz1 ids H) :: l)) (fun v hv => hi v (by simp [hv])) h1
theorem y0 {g : Bool} : ∀ {l : List AV} {k : List AV → Option α}, xS g true H l k = some r → k (l.map fun v => cond g (v.snap1 H).fg1 (v.snap1 H)) = some r
 | [], k, h => h
 | a :: l, k, h => by
  rw [xS] at h
  have h1 := (yi h).2 rfl
  exact y0 (k := fun l => k (cond g (a.snap1 H).fg1 (a.snap1 H) :: l)) h1
theorem zw {l : List AV} {v : AV} (hv : v ∈ l) {id off len : Nat} (h : v = .ms id off len) : id ∈ l.flatMap AV.msId := by
 subst h
 exact List.mem_flatMap.2 ⟨_, hv, by simp [AV.msId]⟩
theorem qhQ {v : AV} {k : KV α} (h : qbs false H v k = some r) : k (v.frz v.msIds H).fg = some r := by
 unfold qbs at h
 split at h
 ·rename_i cs
  have := yN (ids := cs.flatMap AV.msId) (fun v hv id off len e => zw hv e) h
  simpa [AV.frz, AV.fg, AV.msIds, Function.comp_def] using this
 ·rename_i cs
  have := yN (k := fun cs => k (.tup cs)) (ids := cs.flatMap AV.msId) (fun v hv id off len e => zw hv e) h
  simpa [AV.frz, AV.fg, AV.msIds, Function.comp_def] using this
 ·exact h
 ·rename_i h1 h2 h3
  have h4 := (yi h).1 v.msIds (fun id off len e => by subst e; simp [AV.msIds, AV.msId]) rfl
  have e1 : v.frz v.msIds H = v.frz1 v.msIds H := by
   cases v <;> first | rfl | exact absurd rfl (h1 _) | exact absurd rfl (h2 _)
  have e2 : (v.frz1 v.msIds H).fg = (v.frz1 v.msIds H).fg1 := by
   cases v <;> first | rfl | exact absurd rfl (h1 _) | exact absurd rfl (h2 _) | skip
   simp only [AV.frz1]
   split
   ·split <;> rfl
   ·rfl
  rw [e1, e2]; exact h4
theorem qgU {v : AV} {k : KV α} (h : qbs true H v k = some r) : k (v.snap H).fg = some r := by
 unfold qbs at h
 split at h
 ·rename_i cs
  have := y0 h
  simpa [AV.snap, AV.fg, Function.comp_def] using this
 ·exact h
 ·rename_i f a b
  have h2 := y0 (k := fun a => xS false true H b fun b => k (.fn f a b)) h
  have h3 := y0 (k := fun b => k (.fn f (a.map (AV.snap1 H)) b)) h2
  exact h3
 ·rename_i h1 h2 h3
  have h4 := (yi h).2 rfl
  have e1 : v.snap H = v.snap1 H := by
   cases v <;> first | rfl | exact absurd rfl (h1 _) | exact absurd rfl (h3 _ _ _)
  have e2 : (v.snap1 H).fg = (v.snap1 H).fg1 := by
   cases v <;> first | rfl | exact absurd rfl (h1 _) | exact absurd rfl (h2 _) | skip
   ·simp only [AV.snap1, AV.frz1]
    split
    ·split <;> rfl
    ·rfl
   ·simp only [AV.snap1]
    split
    ·split <;> rfl
    ·rfl
   ·simp only [AV.snap1]
    split <;> rfl
  rw [e1, e2]; exact h4
theorem qc5 : ∀ {l : List AV} {k : List AV → Option α}, qez H l k = some r → k (l.map fun a => (a.snap H).fg) = some r
 | [], k, h => h
 | a :: l, k, h => by
  rw [qez] at h
  have h1 := qgU h
  exact qc5 (k := fun l => k ((a.snap H).fg :: l)) h1
theorem y5 {id : Nat} {k : Bool → Nat → List (List AV) → Option α} (h : qbu H id k = some r) : ∃ d sz rs, H[id]? = some (.rows d sz rs) ∧ k d sz rs = some r := by
 unfold qbu at h
 obtain ⟨b, hb, h⟩ := qd h
 split at h
 ·exact ⟨_, _, _, hb, h⟩
 ·cases h
theorem vH {agg : Bool} {n off : Nat} {cells : List AV} {k : KV α} (h : yD agg n cells off k = some r) :
  ∃ v, (if agg then (if Nat.ble (off + n) cells.length then some (AV.agg ((cells.drop off).take n)) else none) else cells[off]?) = some v ∧ k v = some r := by
 unfold yD at h
 rcases q9 h with ⟨rfl, h⟩ | ⟨rfl, h⟩
 ·obtain ⟨h1, h2⟩ := qa h
  exact ⟨_, by simp [h1], h2⟩
 ·obtain ⟨v, h1, h2⟩ := qd h
  exact ⟨v, by simp [h1], h2⟩
theorem qaj {agg : Bool} {n : Nat} {p : AV} {k : KV α} (h : qcW agg n H p k = some r) : ∃ v, v9 agg n H p = some v ∧ k v = some r := by
 unfold qcW at h
 unfold v9
 split at h
 ·obtain ⟨sz, rs, h1, h⟩ := xZ h
  obtain ⟨row, h2, h⟩ := qd h
  obtain ⟨v, h3, h4⟩ := vH h
  exact ⟨v, by simp only [h1, h2]; exact h3, h4⟩
 ·obtain ⟨v, h3, h4⟩ := vH h
  exact ⟨v, h3, h4⟩
 ·obtain ⟨v, h3, h4⟩ := vH h
  refine ⟨v, ?_, h4⟩
  rw [← h3]
  simp only [List.length_map, List.map_take, List.map_drop, List.getElem?_map]
 ·obtain ⟨b, h1, h⟩ := qd h
  split at h
  ·obtain ⟨v, h3, h4⟩ := vH h
   refine ⟨v, ?_, h4⟩
   simp only [h1]
   rw [← h3]
   simp only [List.length_map, List.map_take, List.map_drop, List.getElem?_map]
  ·simp only [h1]
   rcases q9 h with ⟨ha, h⟩ | ⟨ha, h⟩
   ·obtain ⟨h2, h⟩ := qa h
    obtain ⟨h3, h⟩ := qgY h
    exact ⟨_, by rw [if_pos ha, if_pos (by rw [h2, h3]; rfl)], h⟩
   ·obtain ⟨rows, h2, h⟩ := qd h
    exact ⟨_, by rw [if_neg (by rw [ha]; simp)]; unfold qdC; rw [h2]; rfl, h⟩
  ·cases h
 ·cases h
theorem qfY {agg : Bool} {n : Nat} {p v : AV} {k : AH → Option α} (h : qe1 agg n H p v k = some r) : ∃ H', v4 n H p v = some H' ∧ k H' = some r := by
 unfold qe1 at h
 unfold v4
 split at h
 ·obtain ⟨cs, h1, h⟩ := xT h
  obtain ⟨d, sz, rs, h2, h⟩ := y5 h
  obtain ⟨row, h3, h⟩ := qd h
  obtain ⟨h4, h⟩ := qa h
  rw [qjy] at h4
  refine ⟨_, ?_, h⟩
  simp only [h1, h2, h3]
  rw [if_pos]
  rw [qjy, beq_iff_eq]
  exact ⟨qjA h4.1, h4.2⟩
 ·obtain ⟨b, h1, h⟩ := qd h
  split at h
  ·rcases q9 h with ⟨h4, h⟩ | ⟨h4, h⟩
   ·obtain ⟨h2, h⟩ := qa h
    refine ⟨H, ?_, h⟩
    have h77 : is77 v = true := by rw [qjy] at h2; exact h2.2
    have hv : ∃ cs, v.cells = some cs := by
     rcases qgp h77 with rfl | rfl
     ·exact ⟨_, rfl⟩
     ·exact ⟨_, rfl⟩
    obtain ⟨cs, hv⟩ := hv
    simp only [hv, h1]
    rw [if_pos (by rw [h4, Bool.true_and]; exact h2)]
   ·obtain ⟨h2, h⟩ := qa h
    refine ⟨H, ?_, h⟩
    have h99 : zb v = true := by rw [qjy] at h2; exact h2.2
    have hv : ∃ cs, v.cells = some cs := by
     unfold zb at h99
     split at h99
     ·exact ⟨_, rfl⟩
     ·exact ⟨_, rfl⟩
     ·cases h99
    obtain ⟨cs, hv⟩ := hv
    simp only [hv, h1]
    rw [if_neg (by rw [h4]; simp), if_pos h2]
  ·cases h
 ·cases h
theorem zG {lo hi d : Nat} {x : Option AV} {k : Nat → Option α} (h : qa1 lo hi x d k = some r) : ∃ n, yo lo hi x d = some n ∧ k n = some r := by
 unfold qa1 at h
 unfold yo
 split at h
 ·exact ⟨_, rfl, h⟩
 ·split at h
  ·obtain ⟨h1, h⟩ := qa h
   rw [qjy, qx, qx] at h1
   exact ⟨_, by simp only; rw [if_pos h1], h⟩
  ·cases h
theorem xR {n : Nat} {lo hi mx : Option AV} {k : Nat → Nat → Option α} (h : yw n lo hi mx k = some r) : ∃ l h', xY n lo hi mx = some (l, h') ∧ k l h' = some r := by
 unfold yw at h
 obtain ⟨h0, h⟩ := qhc h
 obtain ⟨a, h1, h⟩ := zG h
 obtain ⟨b, h2, h⟩ := zG h
 obtain ⟨c, h3, h⟩ := zG h
 refine ⟨c, a, ?_, h⟩
 unfold xY
 rw [if_neg (by rw [h0]; simp), h1]
 simp only [h2, h3]
theorem qfZ {cfg : Cfg} {t : TypeId} {x : AV} {lo hi mx : Option AV} {k : KV α} (h : qe2 cfg t H x lo hi mx k = some r) : ∃ v, yp cfg t H x lo hi mx = some v ∧ k v = some r := by
 unfold qe2 at h
 unfold yp
 split at h
 ·rename_i ht
  rw [ht]
  split at h
  ·split at h
   ·obtain ⟨l, h', h1, h⟩ := xR h
    exact ⟨_, by simp only [h1], h⟩
   ·cases h
  ·cases h
 ·rename_i e ht
  rw [ht]
  split at h
  ·rename_i n hn
   split at h
   ·obtain ⟨l, h', h1, h⟩ := xR h
    exact ⟨_, by simp only [hn, h1], h⟩
   ·rename_i rows
    obtain ⟨l, h', h1, h⟩ := xR h
    obtain ⟨h2, h⟩ := qa h
    refine ⟨slE (cfg.ems t) rows l h', by simp only [hn, h1, h2, if_true], ?_⟩
    split at h
    ·rename_i he; rw [he]; exact h
    ·rename_i he; rw [he]; exact h
   ·obtain ⟨l, h', h1, h⟩ := xR h
    obtain ⟨sz, rs, h2, h⟩ := xZ h
    obtain ⟨h3, hz⟩ := qa h
    have := qjA h3
    subst this
    exact ⟨_, by simp [hn, h1, h2], hz⟩
   ·split at h
    ·split at h
     ·rename_i kd hh _
      split at h
      ·obtain ⟨h2, hz⟩ := qa h
       rw [qjy, qx, qx] at h2
       exact ⟨_, by simp only [hn, AV.lenW]; rw [if_pos h2], hz⟩
      ·obtain ⟨h2, hz⟩ := qa h
       rw [qjy, qx, qx] at h2
       exact ⟨_, by simp only [hn, AV.lenW]; rw [if_pos h2], hz⟩
      ·cases h
     ·cases h
    ·cases h
   ·cases h
  ·cases h
 ·cases h
theorem qcX {cfg : Cfg} {t : TypeId} {x i : AV} {k : KV α} (h : qak cfg t H x i k = some r) : ∃ v, vm cfg t H x i = some v ∧ k v = some r := by
 unfold qak at h
 unfold vm
 split at h
 case h_2 => cases h
 rename_i kk i
 split at h
 ·rename_i e ht
  rw [ht]
  split at h
  case h_2 => cases h
  rename_i n hn
  split at h
  ·obtain ⟨sz, rs, h1, h⟩ := xZ h
   obtain ⟨h2, hz⟩ := qa h
   rw [qjy, qjy, qx, xw] at h2
   have := qjA h2.1.1
   subst this
   exact ⟨_, by simp [hn, h1, h2.1.2, h2.2], hz⟩
  ·obtain ⟨h2, h⟩ := qa h
   rw [qjy, qx, xw] at h2
   obtain ⟨row, h3, h⟩ := qd h
   obtain ⟨h4, hz⟩ := qa h
   refine ⟨.cptr row 0, ?_, hz⟩
   have h5 := qjA h4
   simp only [hn, if_pos h2, h3]
   rw [if_pos (by rw [h5]; exact beq_self_eq_true n)]
  ·obtain ⟨h2, h⟩ := qa h
   rw [qjy, qx, xw] at h2
   obtain ⟨row, h3, h⟩ := qd h
   obtain ⟨h4, hz⟩ := qa h
   refine ⟨.lpt row 0, ?_, hz⟩
   have h5 := qjA h4
   simp only [hn, if_pos h2, h3]
   rw [if_pos (by rw [h5]; exact beq_self_eq_true n)]
  ·rename_i id rows
   obtain ⟨h2, h⟩ := qa h
   rw [qjy, qx, xw] at h2
   obtain ⟨row, h3, h⟩ := qd h
   obtain ⟨h4, hz⟩ := qa h
   refine ⟨.rpt id row 0, ?_, hz⟩
   have h5 := qjA h4
   simp only [hn, if_pos h2, h3]
   rw [if_pos (by rw [h5]; exact beq_self_eq_true n)]
  ·cases h
 ·rename_i m e ht
  rw [ht]
  split at h
  case h_2 => cases h
  rename_i n hn
  split at h
  ·obtain ⟨h2, h⟩ := qa h
   rw [qjy, qx, xw] at h2
   exact ⟨_, by simp [hn, h2.1, h2.2], h⟩
  ·obtain ⟨h2, h⟩ := qa h
   rw [qjy, qx, xw] at h2
   exact ⟨_, by simp [hn, h2.1, h2.2], h⟩
  ·cases h
 ·cases h
theorem qiD {cfg : Cfg} {t : TypeId} {ti : TI} (h : cfg.ty t = some ti) : cfg.sz t = some ti.sz ∧ cfg.td t = some ti.d := by
 unfold Cfg.sz Cfg.td; rw [h]; exact ⟨rfl, rfl⟩
theorem qf1 {cfg : Cfg} {t : TypeId} {x i : AV} {k : KV α} (h : qfa cfg t x i k = some r) : ∃ v, z4 cfg t x i = some v ∧ k v = some r := by
 unfold qfa at h
 unfold z4
 split at h
 case h_2 => cases h
 rename_i kk i
 split at h
 ·rename_i n e ht
  rw [ht]
  split at h
  case h_2 => cases h
  rename_i ti hti
  obtain ⟨cs, rfl, h⟩ := zz h
  obtain ⟨h2, h⟩ := qa h
  rw [qjy, qx, xw] at h2
  obtain ⟨v, h3, h⟩ := vH h
  refine ⟨v, ?_, h⟩
  simp only [(qiD hti).1]
  rw [if_pos h2]
  unfold qby
  rw [hti]
  exact h3
 ·rename_i ht
  rw [ht]
  obtain ⟨s, rfl, h⟩ := xx h
  obtain ⟨h2, h⟩ := qa h
  rw [qx] at h2
  obtain ⟨b, h3, h⟩ := qd h
  exact ⟨_, by simp [h2, h3], h⟩
 ·cases h
theorem qf2 {cfg : Cfg} {t : TypeId} {x : AV} {f : Nat} {k : KV α} (h : qfb cfg t x f k = some r) : ∃ v, z5 cfg t x f = some v ∧ k v = some r := by
 unfold qfb at h
 unfold z5
 split at h
 case h_2 => cases h
 rename_i fs ht
 rw [ht]
 split at h
 case h_2 => cases h
 rename_i off ft hf
 split at h
 case h_2 => cases h
 rename_i ti hti
 obtain ⟨cs, rfl, h⟩ := zz h
 obtain ⟨v, h3, h⟩ := vH h
 refine ⟨v, ?_, h⟩
 simp only [hf]
 unfold qby
 rw [hti]
 exact h3
theorem qc3 {cfg : Cfg} {t : TypeId} {x : AV} {f : Nat} {k : KV α} (h : qan cfg t x f k = some r) : ∃ v, xH cfg t x f = some v ∧ k v = some r := by
 unfold qan at h
 unfold xH
 split at h
 case h_2 => cases h
 rename_i fs ht
 rw [ht]
 simp only
 split at h
 case h_2 => cases h
 rename_i off ft hf
 simp only [hf]
 split at h
 case h_2 => cases h
 rename_i n hn
 split at h
 ·exact ⟨_, by simp only [hn], h⟩
 ·exact ⟨_, by simp only [hn], h⟩
 ·exact ⟨_, by simp only [hn], h⟩
 ·cases h
variable {α : Type} {r : α} {H : AH}
theorem qe4 {n : Nat} {x : AV} {k : List (List AV) → Option α} (h : qdI H n x k = some r) : ∃ rows, vg H n x = some rows ∧ k rows = some r := by
 unfold qdI at h
 unfold vg
 split at h
 ·exact ⟨_, rfl, h⟩
 ·exact ⟨_, rfl, h⟩
 ·obtain ⟨h1, hz⟩ := qa h
  exact ⟨_, by simp only [h1, if_true], hz⟩
 ·obtain ⟨sz, rs, h1, h⟩ := xZ h
  obtain ⟨h2, hz⟩ := qa h
  rw [qjy] at h2
  refine ⟨_, ?_, hz⟩
  simp only [h1]
  rw [if_pos]
  rw [qjy, beq_iff_eq]
  exact ⟨qjA h2.1, h2.2⟩
 ·cases h
theorem qd2 {b : Bool} {n : Nat} {x : AV} {k : List (List AV) → Option α} (h : kSrc b H n x k = some r) : ∃ rows, q8 H n x = some rows ∧ k rows = some r := by
 unfold kSrc at h
 rcases q9 h with ⟨_, h⟩ | ⟨_, h⟩
 ·obtain ⟨s, rfl, h⟩ := xx h
  obtain ⟨h1, hz⟩ := qa h
  exact ⟨_, by simp only [q8, h1, if_true], hz⟩
 ·obtain ⟨rows, h1, hz⟩ := qe4 h
  refine ⟨rows, ?_, hz⟩
  unfold q8
  split
  ·simp [vg] at h1
  ·exact h1
theorem qeg {cfg : Cfg} {nid : Option Nat} {s d : TypeId} {x : AV} {k : KH α} (h : qb2 cfg nid s d x H k = some r) : ∃ v H', vR cfg nid s d x H = some (v, H') ∧ k v H' = some r := by
 unfold qb2 at h
 unfold vR
 split at h
 ·rename_i hs hd
  split at h
  ·exact ⟨_, _, by simp only [hs, hd], h⟩
  ·cases h
 ·rename_i hs hd
  obtain ⟨b, rfl, hz⟩ := xx h
  exact ⟨_, _, by simp only [hs, hd], hz⟩
 ·rename_i e hs hd
  split at h
  ·rename_i hte
   obtain ⟨b, rfl, h0⟩ := xx h
   obtain ⟨i, H', h1, hz⟩ := vo h0
   exact ⟨_, _, by simp only [hs, hd, hte, h1], hz⟩
  ·cases h
 ·rename_i e hs hd
  split at h
  ·rename_i hte
   obtain ⟨rows, h1, h⟩ := qd h
   obtain ⟨bs, h2, hz⟩ := qd h
   refine ⟨.str bs, H, ?_, hz⟩
   simp only [hs, hd]
   cases x <;> first | (simp only [hte, h1, h2]; done) | (simp [vg] at h1)
  ·cases h
 ·cases h
theorem qff {cfg : Cfg} {nid : Option Nat} {t xt : TypeId} {s x : AV} {k : KH α} (h : qdK cfg nid t xt s x H k = some r) : ∃ v H', x9 cfg nid t xt s x H = some (v, H') ∧ k v H' = some r := by
 unfold qdK at h
 unfold x9
 split at h
 case h_2 => cases h
 rename_i e xd ht hxt
 split at h
 case h_2 => cases h
 rename_i ei hei
 obtain ⟨h1, h⟩ := qa h
 obtain ⟨news, h2, h⟩ := qd2 h
 simp only [ht, hxt, hei, h1, if_true, h2]
 split at h
 ·rcases q9 h with ⟨h3, hz⟩ | ⟨h3, h⟩
  ·exact ⟨_, _, by simp only [h3, if_true], hz⟩
  ·obtain ⟨h4, h⟩ := qa h
   obtain ⟨i, H', h5, hz⟩ := vo h
   exact ⟨_, _, by simp only [h3, qjD, if_false, h4, if_true, h5], hz⟩
 ·obtain ⟨d, sz, rs, h3, h⟩ := y5 h
  obtain ⟨h4, h⟩ := qa h
  obtain ⟨i, H', h5, hz⟩ := vo h
  exact ⟨_, _, by simp only [h3, h4, if_true, h5], hz⟩
 ·cases h
theorem qhO {cfg : Cfg} {t : TypeId} {x : AV} {k : KV α} (h : kLen cfg t x H k = some r) : ∃ v, aLen cfg t x H = some v ∧ k v = some r := by
 unfold kLen at h
 unfold aLen
 split at h
 ·rename_i ht
  obtain ⟨s, rfl, hz⟩ := xx h
  exact ⟨_, by simp only [ht], hz⟩
 ·rename_i e ht
  split at h
  ·exact ⟨_, by simp only [ht], h⟩
  ·exact ⟨_, by simp only [ht], h⟩
  ·exact ⟨_, by simp only [ht], h⟩
  ·exact ⟨_, by simp only [ht], h⟩
  ·exact ⟨_, by simp only [ht], h⟩
  ·exact ⟨_, by simp only [ht], h⟩
  ·cases h
 ·rename_i n e ht
  exact ⟨_, by simp only [ht], h⟩
 ·rename_i a b ht
  split at h
  ·exact ⟨_, by simp only [ht], h⟩
  ·obtain ⟨b, h1, h⟩ := qd h
   split at h
   ·exact ⟨_, by simp only [ht, h1], h⟩
   ·cases h
  ·cases h
 ·cases h
theorem qcV {cfg : Cfg} {nid : Option Nat} {t : TypeId} {l c : AV} {k : KH α} (h : qev cfg nid t l c H k = some r) : ∃ v H', yH cfg nid t l c H = some (v, H') ∧ k v H' = some r := by
 unfold qev at h
 unfold yH
 split at h
 case h_2 => cases h
 rename_i e ht
 split at h
 case h_2 => cases h
 rename_i ei hei
 obtain ⟨h1, h⟩ := qa h
 obtain ⟨n, rfl, ha⟩ := yM h
 obtain ⟨m, rfl, hb⟩ := yM ha
 obtain ⟨h2, hd⟩ := qa hb
 obtain ⟨i, H', h3, hz⟩ := vo hd
 rw [qjy, qjy, qjy, qx, qx, qx, qx] at h2
 exact ⟨_, _, by simp only [ht, hei, h1, if_true]; rw [if_pos ⟨h2.1.1.1, h2.1.1.2, h2.1.2, h2.2⟩]; simp only [h3], hz⟩
theorem qf0 {cfg : Cfg} {nid : Option Nat} {t : TypeId} {l c : AV} {k : KH α} (h : qe7 cfg nid t l c H k = some r) : ∃ v H', xO cfg nid t l c H = some (v, H') ∧ k v H' = some r := by
 unfold qe7 at h
 unfold xO
 split at h
 ·rename_i hw
  rw [hw]
  exact qcV h
 ·rename_i hw
  rw [hw]
  split at h
  ·obtain ⟨h1, h⟩ := qa h
   obtain ⟨v, H', h2, h⟩ := qcV h
   split at h
   ·refine ⟨_, _, ?_, h⟩
    simp only
    rw [if_pos h1, h2]; rfl
   ·cases h
  ·cases h
theorem qhR {cfg : Cfg} {t : TypeId} {x : AV} {k : KV α} (h : kCap cfg t x k = some r) : ∃ v, aCap cfg t x = some v ∧ k v = some r := by
 unfold kCap at h
 unfold aCap
 split at h
 ·rename_i e ht
  split at h
  ·split at h
   ·exact ⟨_, by simp only [ht, AV.lenW, qjI], h⟩
   ·exact ⟨_, by simp only [ht, AV.lenW, qjI], h⟩
   ·cases h
  ·cases h
 ·cases h
theorem qio {v : AV} {k : Nat → List (List AV) → Option α} (h : kWr v k = some r) : ∃ n rows, v = .wr n (.sl rows) ∧ k n rows = some r := by
 unfold kWr at h
 split at h
 ·exact ⟨_, _, rfl, h⟩
 ·cases h
theorem qdJ {v : AV} {k : KV α} {cfg : Cfg} {nid : Option Nat} {a : Operand} {ty : TypeId} {x : Operand → AV} (hx : x a = v) (h : qaZ v k = some r) : evOp cfg nid (.nilCheck a) ty x H = some (v, H) ∧ k v = some r := by
 unfold qaZ at h
 simp only [evOp, hx]
 split at h <;> first | exact ⟨rfl, h⟩ | cases h
theorem qf4 {cfg : Cfg} {t : TypeId} {x : AV} {k : AH → Option α} (h : qfd cfg t x H k = some r) : ∃ H', z6 cfg t x H = some H' ∧ k H' = some r := by
 unfold qfd at h
 unfold z6
 split at h
 case h_2 => cases h
 rename_i e he
 rw [he]
 split at h
 ·exact ⟨H, rfl, h⟩
 ·rename_i id off len
  split at h
  case h_2 => cases h
  rename_i ei hei
  obtain ⟨d, sz, rs, h1, h⟩ := y5 h
  obtain ⟨h2, hz⟩ := qa h
  exact ⟨_, by simp only [hei, h1, h2, if_true], hz⟩
 ·cases h
theorem qgW {cfg : Cfg} {t xt : TypeId} {d s : AV} {k : KH α} (h : qgX cfg t xt d s H k = some r) : ∃ v H', qbz cfg t d s H = some (v, H') ∧ k v H' = some r := by
 unfold qgX at h
 unfold qbz
 split at h
 case h_2 => cases h
 rename_i e he
 rw [he]
 split at h
 case h_2 => cases h
 rename_i id off len
 split at h
 case h_2 => cases h
 rename_i n hn
 obtain ⟨db, sz, rs, h1, h⟩ := y5 h
 obtain ⟨news, h2, h⟩ := qd2 h
 obtain ⟨h3, hz⟩ := qa h
 exact ⟨_, _, by simp only [hn, h1, h2, h3, if_true], hz⟩
theorem qe6 {cfg : Cfg} {nid : Option Nat} {o : Op} {ty : TypeId} {x : Operand → AV} {k : KH α} (h : kOp cfg nid o ty x H k = some r) : ∃ v H', evOp cfg nid o ty x H = some (v, H') ∧ k v H' = some r := by
 cases o with
 | move a => exact ⟨_, _, rfl, h⟩
 | assign a => exact ⟨_, _, rfl, h⟩
 | pick c a b =>
  simp only [kOp] at h
  obtain ⟨t, h1, h⟩ := y4 h
  have := qgR (k := fun v => k v H) h
  exact ⟨_, _, by simp only [evOp, h1], this⟩
 | alloc t =>
  simp only [kOp] at h
  split at h
  ·rename_i ti hti
   obtain ⟨h1, h⟩ := qa h
   obtain ⟨i, H', h2, hz⟩ := vo h
   exact ⟨_, _, by simp only [evOp, hti, h1, if_true, h2], hz⟩
  ·cases h
 | box t a =>
  simp only [kOp] at h
  obtain ⟨cs, h1, h⟩ := xT h
  obtain ⟨i, H', h2, hz⟩ := vo h
  exact ⟨_, _, by simp only [evOp, h1, h2], hz⟩
 | build t parts =>
  simp only [kOp] at h
  split at h
  case h_2 => cases h
  rename_i ti hti
  obtain ⟨h1, h⟩ := qa h
  split at h
  ·rename_i fs hfs
   split at h
   case h_2 => cases h
   rename_i ps hps
   obtain ⟨qs, h2, h3⟩ := qcB hps
   obtain ⟨cs, h4, hz⟩ := qam (place' := fun i => qs[i]?) (fun i off n g hi => h3 i off n g hi) h
   exact ⟨_, _, by simp only [evOp, hti, h1, if_true, hfs, h2, h4, qjI], hz⟩
  ·rename_i m e hfs
   split at h
   case h_2 => cases h
   rename_i n hn
   obtain ⟨cs, h4, hz⟩ := qam (place' := fun i => some (i * n, n)) (fun i off m g hi => by cases hi; rfl) h
   exact ⟨_, _, by simp only [evOp, hti, h1, if_true, hfs, hn, h4, qjI], hz⟩
  ·cases h
 | buildSlice t len parts =>
  simp only [kOp] at h
  split at h
  case h_2 => cases h
  rename_i e ht
  split at h
  case h_2 => cases h
  rename_i ei hei
  obtain ⟨h1, h⟩ := qa h
  obtain ⟨rows, h2, h⟩ := qcT h
  obtain ⟨i, H', h3, hz⟩ := vo h
  exact ⟨_, _, by simp only [evOp, ht, hei, h1, if_true, h2, h3], hz⟩
 | load t a =>
  simp only [kOp] at h
  split at h
  case h_2 => cases h
  rename_i ti hti
  split at h
  ·rename_i cs off hx
   obtain ⟨v, h1, h⟩ := vH h
   have h2 := qt (k := fun v => cond ti.d.agg (k v.lendA H) (k v.lend H)) h
   rcases q9 h2 with ⟨ha, h2⟩ | ⟨ha, h2⟩
   ·rw [ha] at h1
    simp only [if_true] at h1
    split at h1
    ·rename_i hb
     cases h1
     refine ⟨_, _, ?_, h2⟩
     simp only [evOp, hti, hx, v9, ha, if_true, hb, qjI, AV.lendA]
    ·cases h1
   ·rw [ha] at h1
    simp only [qjD, if_false] at h1
    refine ⟨_, _, ?_, h2⟩
    simp only [evOp, hti, hx, v9, ha, qjD, if_false, h1, qjI]
  ·rename_i id cs off hx
   obtain ⟨b, hb0, h⟩ := qd h
   split at h
   ·obtain ⟨v, h1, h⟩ := vH h
    have h2 := qt (k := fun v => cond ti.d.agg (k (v.regA id) H) (k (v.regn id) H)) h
    rcases q9 h2 with ⟨ha, h2⟩ | ⟨ha, h2⟩
    ·rw [ha] at h1
     simp only [if_true] at h1
     split at h1
     ·rename_i hb
      cases h1
      refine ⟨_, _, ?_, h2⟩
      simp only [evOp, hti, hx, v9, hb0, ha, if_true, hb, qjI, AV.regA]
     ·cases h1
    ·rw [ha] at h1
     simp only [qjD, if_false] at h1
     refine ⟨_, _, ?_, h2⟩
     simp only [evOp, hti, hx, v9, hb0, ha, qjD, if_false, h1, qjI]
   ·obtain ⟨v, h1, h⟩ := qaj h
    exact ⟨_, _, by simp only [evOp, hti, hx, h1, qjI], h⟩
  ·obtain ⟨v, h1, h⟩ := qaj h
   exact ⟨_, _, by simp only [evOp, hti, h1, qjI], qt (k := fun v => k v H) h⟩
 | store t a v =>
  simp only [kOp] at h
  split at h
  case h_2 => cases h
  rename_i ti hti
  obtain ⟨H', h1, hz⟩ := qfY h
  exact ⟨_, _, by simp only [evOp, (qiD hti).1, h1, qjI], hz⟩
 | nilCheck a =>
  obtain ⟨h1, h2⟩ := qdJ (cfg := cfg) (nid := nid) (ty := ty) (H := H) (x := x) (a := a) (k := fun v => k v H) rfl h
  exact ⟨_, _, h1, h2⟩
 | binOp op t a b yt =>
  simp only [kOp] at h
  obtain ⟨v, h1, h⟩ := qd h
  exact ⟨_, _, by simp only [evOp, h1, qjI], qt (k := fun v => k v H) h⟩
 | unOp op t a =>
  simp only [kOp] at h
  obtain ⟨v, h1, h⟩ := qd h
  exact ⟨_, _, by simp only [evOp, h1, qjI], qt (k := fun v => k v H) h⟩
 | convert s d a => exact qeg h
 | makeFunc f first caps => exact ⟨_, _, rfl, h⟩
 | makeSlice t l c => exact qf0 h
 | slice t a lo hi mx =>
  simp only [kOp] at h
  obtain ⟨v, h1, hz⟩ := qfZ h
  exact ⟨_, _, by simp only [evOp, h1, qjI], hz⟩
 | fieldAddr t a f =>
  simp only [kOp] at h
  obtain ⟨v, h1, hz⟩ := qc3 h
  exact ⟨_, _, by simp only [evOp, h1, qjI], hz⟩
 | field t a f =>
  simp only [kOp] at h
  obtain ⟨v, h1, h⟩ := qf2 h
  exact ⟨_, _, by simp only [evOp, h1, qjI], qt (k := fun v => k v H) h⟩
 | indexAddr t a i =>
  simp only [kOp] at h
  obtain ⟨v, h1, hz⟩ := qcX h
  exact ⟨_, _, by simp only [evOp, h1, qjI], hz⟩
 | index t a i =>
  simp only [kOp] at h
  obtain ⟨v, h1, h⟩ := qf1 h
  exact ⟨_, _, by simp only [evOp, h1, qjI], qt (k := fun v => k v H) h⟩
 | extract t i =>
  simp only [kOp] at h
  split at h
  ·rename_i vs hvs
   obtain ⟨v, h1, h⟩ := qd h
   exact ⟨_, _, by simp only [evOp, hvs, h1, qjI], qt (k := fun v => k v H) h⟩
  ·cases h
 | call c =>
  simp only [kOp] at h
  obtain ⟨callee, args, argTypes⟩ := c
  simp only at h
  simp only [evOp]
  split at h
  case h_2 => cases h
  generalize args.toList = al at *
  generalize argTypes.toList = tl at *
  split at h
  ·obtain ⟨v, h1, hz⟩ := qhO h
   exact ⟨_, _, by simp only [h1, qjI], hz⟩
  ·obtain ⟨v, h1, hz⟩ := qhR h
   exact ⟨_, _, by simp only [h1, qjI], hz⟩
  ·exact qff h
  ·rename_i d s t xt
   obtain ⟨v, H', h1, hz⟩ := qgW h
   exact ⟨_, _, h1, hz⟩
  ·obtain ⟨v, h1, hz⟩ := qf4 h
   exact ⟨_, _, by simp only [h1, qjI], hz⟩
  ·obtain ⟨v, h1, h⟩ := qd h
   exact ⟨_, _, by simp only [h1, qjI], qt (k := fun v => k v H) h⟩
  ·obtain ⟨v, h1, h⟩ := qd h
   exact ⟨_, _, by simp only [h1, qjI], qt (k := fun v => k v H) h⟩
  ·cases h
 | _ => simp only [kOp] at h; cases h
def KfOk (cf : Orac) (kf : KF α) : Prop := ∀ t a H k r, kf t a H k = some r → ∃ q, cf t a H = some q ∧ k q = some r
theorem qap {cf : Orac} {f : Nat} : ∀ {l : List AV} {k : Option α}, qc6 cf f l k = some r → xh cf f l = some () ∧ k = some r
 | [], _, h => ⟨rfl, h⟩
 | a :: l, k, h => by
  rw [qc6] at h
  obtain ⟨u, h1, h⟩ := qd h
  obtain ⟨h2, hz⟩ := qap h
  refine ⟨?_, hz⟩
  unfold EVz at h1
  obtain ⟨q, h3, h4⟩ := qjw.1 h1
  rw [xh, h3]
  simp only [qjG, h4, h2]
theorem qgZ {cfg : Cfg} {cf : Orac} {kf : KF α} (hkf : KfOk cf kf) {nid : Option Nat} {ty : TypeId} {t : Tgt} {args : List AV} {k : KH α} (h : qbt cfg cf kf nid ty t args H k = some r) : ∃ v H', qn cfg cf nid t args H = some (v, H') ∧ k v H' = some r := by
 cases t with
 | y id =>
  simp only [qbt] at h
  obtain ⟨q, h1, h⟩ := hkf _ _ _ _ _ h
  obtain ⟨p, h2, h⟩ := qd h
  exact ⟨_, _, by simp only [qn, h1, qjG]; exact h2, qt (k := fun v => k v p.2) h⟩
 | f f =>
  simp only [qbt] at h
  cases hm : cfg.mode f with
  | scal =>
   simp only [hm] at h
   obtain ⟨h1, h⟩ := qa (qc5 h)
   split at h
   ·obtain ⟨q, h5, h⟩ := hkf _ _ _ _ _ h
    have h3 := qt (k := fun v => cond v.scalar (k v H) none) h
    obtain ⟨h4, hz⟩ := qa h3
    exact ⟨q.1, H, by simp only [qn, hm, h1, if_true, h5, qjG, h4], hz⟩
   obtain ⟨v, h2, h⟩ := qd h
   have h3 := qt (k := fun v => cond v.scalar (k v H) none) h
   obtain ⟨h4, hz⟩ := qa h3
   unfold EVs at h2
   obtain ⟨q, h5, h6⟩ := qjx.1 h2
   exact ⟨v, H, by simp only [qn, hm, h1, if_true, h5, qjG, h6, h4], hz⟩
  | pfrz =>
   simp only [hm] at h
   obtain ⟨h1, h⟩ := qa h
   split at h
   ·obtain ⟨q, h5, h⟩ := hkf _ _ _ _ _ h
    have h2 := qhQ (k := fun v => kTy qav cfg ty v fun v => cond (v.refsLt 0) (k v H) none) h
    have h3 := qt (k := fun v => cond (v.refsLt 0) (k v H) none) h2
    obtain ⟨h4, hz⟩ := qa h3
    exact ⟨_, H, by simp only [qn, hm, h1, if_true, h5, qjG, h4], hz⟩
   obtain ⟨v, h2, h⟩ := qd h
   have h3 := qt (k := fun v => cond (v.refsLt 0) (k v H) none) h
   obtain ⟨h4, hz⟩ := qa h3
   unfold EVf at h2
   obtain ⟨q, h5, h6⟩ := qjx.1 h2
   exact ⟨v, H, by simp only [qn, hm, h1, if_true, h5, qjG, h6, h4], hz⟩
  | pown =>
   simp only [hm] at h
   split at h
   ·rename_i t1 t2 _
    obtain ⟨h1, h⟩ := qa h
    obtain ⟨q, h2, h⟩ := qd h
    obtain ⟨p, h5, h6⟩ := qjw.1 h2
    unfold qiE at h6
    split at h6
    case h_2 => cases h6
    rename_i a sc hp
    obtain ⟨h7, h6⟩ := qa h6
    split at h6
    case h_2 => cases h6
    rename_i o ho
    cases h6
    have h := qaW (k := fun s => kOwn o (k (.tup [.nilS, s]) H) fun sz rs off len => kNew nid H (.rows true sz rs) fun i H' => k (.tup [.ms i off len, s]) H') h
    unfold ovOf at ho
    split at ho
    ·rename_i hq
     cases ho
     refine ⟨.tup [.nilS, sc], H, ?_, h⟩
     have hq : a = .nilS := hq
     simp only [qn, hm, h1, if_true, h5, qjG, zh, hp, h7, hq, vZ, AV.refsLt, qjI]
    ·rename_i id off len hq
     split at ho
     case h_2 => cases ho
     rename_i sz rs hid
     split at ho
     case isFalse => cases ho
     rename_i hr
     cases ho
     simp only [kOwn] at h
     obtain ⟨i, H', h8, hz⟩ := vo h
     have hq : a = .ms id off len := hq
     refine ⟨_, _, ?_, hz⟩
     simp only [qn, hm, h1, if_true, h5, qjG, zh, hp, h7, hq, vZ, hid, hr, h8, qjI]
    ·cases ho
   ·obtain ⟨h1, h⟩ := qa h
    have key : ∃ q o, cf (.f f) args [] = some q ∧ ovOf q = some o ∧ (kOwn o (k .nilS H) fun sz rs off len => kNew nid H (.rows true sz rs) fun i H' => k (.ms i off len) H') = some r := by
     split at h
     ·obtain ⟨q, h5, h⟩ := hkf _ _ _ _ _ h
      obtain ⟨o, h6, h⟩ := qd h
      exact ⟨q, o, h5, h6, h⟩
     ·obtain ⟨o, h2, h⟩ := qd h
      unfold EVo at h2
      obtain ⟨q, h5, h6⟩ := qjw.1 h2
      exact ⟨q, o, h5, h6, h⟩
    obtain ⟨q, o, h5, h6, h⟩ := key
    unfold ovOf at h6
    split at h6
    ·rename_i hq
     cases h6
     exact ⟨.nilS, H, by simp only [qn, hm, h1, if_true, h5, qjG, zh, vZ, hq, AV.refsLt], h⟩
    ·rename_i id off len hq
     split at h6
     case h_2 => cases h6
     rename_i sz rs hid
     split at h6
     case isFalse => cases h6
     rename_i hr
     cases h6
     simp only [kOwn] at h
     obtain ⟨i, H', h7, hz⟩ := vo h
     exact ⟨_, _, by simp only [qn, hm, h1, if_true, h5, qjG, zh, vZ, hq, hid, hr, h7], hz⟩
    ·cases h6
  | inpl =>
   simp only [hm] at h
   have res : ∀ (kd : Nat) (ik : IntKind) (id : Nat) (v : MV) (k : KV α), qew kd ik id v k = some r → k (v.av id) = some r := by
    intro kd ik id v k h
    unfold qew at h
    split at h
    ·cases v <;> first | exact h | exact absurd h (by simp [qe8])
    ·cases v <;> first | exact h | exact absurd h (by simp [kMSl])
    ·cases v with
     | int q n =>
      obtain ⟨h1, h2⟩ := qa h
      rw [← qaU h1] at h2
      exact h2
     | _ => exact absurd h (by simp [qex])
    ·cases v <;> first | exact h | exact absurd h (by simp [qe9])
   split at h
   case h_2 =>
    rename_i hids
    obtain ⟨h1, h⟩ := qa h
    obtain ⟨v1, h2, h⟩ := qd h
    unfold EVu at h2
    obtain ⟨r1, h5, h6⟩ := qjw.1 h2
    split at h6
    case isFalse => cases h6
    rename_i hrf
    have hav : r1.1 = v1.av 0 := by
     unfold mvOf at h6
     split at h6
     ·rename_i e; cases h6; rw [e]; rfl
     ·rename_i e; cases h6; rw [e]; rfl
     ·rename_i i off len e
      rw [e] at hrf
      simp [AV.refsLt, qjO] at hrf
     ·rename_i e; cases h6; rw [e]; rfl
     ·rename_i e; cases h6; rw [e]; rfl
     ·cases h6
    refine ⟨v1.av 0, H, ?_, res _ _ _ _ (fun v => k v H) h⟩
    simp only [qn, hm, hids, h1, if_true, h5, qjG, hrf]
    rw [hav]
   rename_i id l hids
   obtain ⟨h1, h⟩ := qa h
   obtain ⟨b, h2, h⟩ := qd h
   split at h
   case h_2 => cases h
   rename_i d sz rs
   obtain ⟨h3, h⟩ := qa h
   obtain ⟨q, h4, h⟩ := qd h
   unfold EVm at h4
   obtain ⟨r1, h5, h6⟩ := qjw.1 h4
   obtain ⟨q1, h7, h8⟩ := qjw.1 h6
   obtain ⟨v1, h9, h10⟩ := qjx.1 h8
   cases h10
   have hav : q1.1.ren (fun _ => id) = v1.av id := by
    unfold mvOf at h9
    split at h9
    ·rename_i e; cases h9; rw [e]; simp [AV.ren, renL, MV.av]
    ·rename_i e; cases h9; rw [e]; simp [AV.ren, MV.av]
    ·rename_i i off len e
     split at h9
     ·cases h9; rw [e]; simp [AV.ren, MV.av]
     ·cases h9
    ·rename_i e; cases h9; rw [e]; simp [AV.ren, MV.av]
    ·rename_i e; cases h9; rw [e]; simp [AV.ren, MV.av]
    ·cases h9
   have hk : k (v1.av id) (H.set id (.rows true sz q1.2)) = some r := res _ _ _ _ (fun v => k v (H.set id (.rows true sz q1.2))) h
   refine ⟨v1.av id, _, ?_, hk⟩
   simp only [qn, hm, hids, h1, if_true, h2, h3, h5, qjG, h7, qjI, hav]
  | inpf =>
   simp only [hm] at h
   split at h
   case h_2 => cases h
   rename_i id l hids
   obtain ⟨h1, h⟩ := qa h
   obtain ⟨b, h2, h⟩ := qd h
   split at h
   case h_2 => cases h
   rename_i d sz rs
   obtain ⟨h3, h⟩ := qa h
   obtain ⟨q, h4, h⟩ := qd h
   unfold EVd at h4
   obtain ⟨r1, h5, h6⟩ := qjw.1 h4
   have hk := qt (k := fun v => k v (H.set id (.rows true sz q.2))) h
   refine ⟨q.1, _, ?_, hk⟩
   simp only [qn, hm, hids, h1, if_true, h2, h3, h5, qjG, h6, qjI]
  | slf =>
   simp only [hm] at h
   split at h
   case h_2 => cases h
   rename_i id l hids
   obtain ⟨h1, h⟩ := qa h
   obtain ⟨b, h2, h⟩ := qd h
   split at h
   case h_2 => cases h
   rename_i d sz rs
   obtain ⟨h3, h⟩ := qa h
   obtain ⟨q, h4, h⟩ := qd h
   have h4 := qiB h4
   unfold EVx at h4
   obtain ⟨r1, h5, h6⟩ := qjw.1 h4
   have hk := qt (k := fun v => k v (H.set id (.rows false sz (renR (fun _ => id) (renR (fun _ => 0) rs))))) h
   refine ⟨q, _, ?_, hk⟩
   simp only [qn, hm, hids, h1, if_true, h2, h3, h5, qjG, h6, qjI]
  | wfrz =>
   simp only [hm] at h
   obtain ⟨h1, h⟩ := qa h
   obtain ⟨v, h2, h⟩ := qd h
   unfold EVw at h2
   obtain ⟨q, h5, h6⟩ := qjx.1 h2
   split at h
   ·obtain ⟨n, rows, rfl, hz⟩ := qio h
    exact ⟨_, H, by simp only [qn, hm, h1, if_true, h5, qjG, h6]; rfl, hz⟩
   ·have h3 := qt (k := fun v => cond (v.refsLt 0) (k v H) none) h
    obtain ⟨h4, hz⟩ := qa h3
    exact ⟨v, H, by simp only [qn, hm, h1, if_true, h5, qjG, h6, h4], hz⟩
  | nfrz =>
   simp only [hm] at h
   obtain ⟨h1, h⟩ := qa h
   obtain ⟨V, h2, h⟩ := qd h
   have h3 := qt (k := fun V => k V.lendT H) h
   unfold EVn at h2
   obtain ⟨q, h5, h6⟩ := qjw.1 h2
   exact ⟨_, _, by simp only [qn, hm, h1, if_true, h5, qjG, h6, qjI], h3⟩
  | rgn =>
   simp only [hm] at h
   obtain ⟨h1, h⟩ := qa h
   obtain ⟨V, h2, h⟩ := qd h
   have h3 := qt (k := fun V => kNew nid H .reg fun i H' => k (rgIn i V) H') h
   obtain ⟨i, H', h4, hz⟩ := vo h3
   unfold EVg at h2
   obtain ⟨q, h5, h6⟩ := qjw.1 h2
   exact ⟨_, _, by simp only [qn, hm, h1, if_true, h5, qjG, h6, h4, qjI], hz⟩
  | over =>
   simp only [hm] at h
   split at h
   case h_2 => cases h
   rename_i a
   split at h
   case h_2 => cases h
   rename_i id l hids
   obtain ⟨h1, h⟩ := qa h
   obtain ⟨b, h2, h⟩ := qd h
   split at h
   ·obtain ⟨h3, hz⟩ := qap h
    exact ⟨_, _, by simp only [qn, hm, hids, h1, if_true, h2, h3, qjI], hz⟩
   ·obtain ⟨h3, hz⟩ := qap h
    exact ⟨_, _, by simp only [qn, hm, hids, h1, if_true, h2, h3, qjI], hz⟩
   ·cases h
  | imp =>
   simp only [hm] at h
   obtain ⟨q, h1, h⟩ := hkf _ _ _ _ _ h
   obtain ⟨p, h2, h⟩ := qd h
   exact ⟨_, _, by simp only [qn, hm, h1, qjG]; exact h2, qt (k := fun v => k v p.2) h⟩
  | sub =>
   simp only [hm] at h
   obtain ⟨s, h0, h⟩ := qd h
   obtain ⟨q, h1, h⟩ := hkf _ _ _ _ _ h
   obtain ⟨p, h2, h⟩ := qd h
   obtain ⟨p2, h3, h⟩ := qd h
   exact ⟨_, _, by simp only [qn, hm, h0, h1, h2, h3, qjG, qjI], qt (k := fun v => k v (xa p2.2 (s.1 ++ p2.1) p.2)) h⟩
  | ifrz =>
   simp only [hm] at h
   obtain ⟨q, h1, h⟩ := hkf _ _ _ _ _ h
   obtain ⟨p, h2, h⟩ := qd h
   exact ⟨_, _, by simp only [qn, hm, h1, qjG]; exact h2, qt (k := fun v => k v p.2) h⟩
theorem qhM {f : AV} {args : List AV} {k : Tgt → List AV → Option α} (h : kTgt f args k = some r) : ∃ t, vS f args = some t ∧ k t.1 t.2 = some r := by
 unfold kTgt at h
 unfold vS
 split at h
 ·exact ⟨_, rfl, h⟩
 ·exact ⟨_, rfl, h⟩
 ·cases h
theorem qhP {ids : List Nat} {v : AV} {k : KV α} (hi : ∀ id ∈ v.msIds, id ∈ ids) (h : qgT H v k = some r) : k (v.frz ids H) = some r := by
 unfold qgT at h
 split at h
 ·rename_i cs
  have := yN (ids := ids) (fun v hv id off len e => hi id (zw hv e)) h
  simpa [AV.frz, Function.comp_def] using this
 ·rename_i cs
  have := yN (k := fun cs => k (.tup cs)) (ids := ids) (fun v hv id off len e => hi id (zw hv e)) h
  simpa [AV.frz, Function.comp_def] using this
 ·rename_i h1 h2
  have h4 := (yi h).1 ids (fun id off len e => hi id (by subst e; simp [AV.msIds, AV.msId])) rfl
  have e1 : v.frz ids H = v.frz1 ids H := by
   cases v <;> first | rfl | exact absurd rfl (h1 _) | exact absurd rfl (h2 _)
  rw [e1]; exact h4
theorem qal {ids : List Nat} : ∀ {l : List AV} {k : List AV → Option α}, (∀ v ∈ l, ∀ id ∈ v.msIds, id ∈ ids) → qa0 H l k = some r → k (l.map fun v => v.frz ids H) = some r
 | [], k, _, h => h
 | a :: l, k, hi, h => by
  rw [qa0] at h
  have h1 := qhP (ids := ids) (hi a (by simp)) h
  exact qal (k := fun l => k (a.frz ids H :: l)) (fun v hv => hi v (by simp [hv])) h1
theorem qiW {a b : Operand} (h : opEq a b = true) : a = b := by
 cases a <;> cases b <;> simp_all [opEq]
theorem qgq {y : Operand → AV} (a : Operand) : ∀ l : List Operand, frzX l (l.map y) y a = y a
 | [] => rfl
 | b :: l => by
  rw [List.map_cons, frzX]
  cases hb : opEq b a with
  | true => rw [cond_true, qiW hb]
  | false => rw [cond_false]; exact qgq a l
theorem qcZ {cfg : Cfg} {nid : Option Nat} {o : Oper} {x : Operand → AV} {k : KH α} (h : qey cfg nid o x H k = some r) :
  kOp cfg nid o.op o.type (fun a => (x a).frz (o.op.operands.toList.flatMap fun a => (x a).msIds) H) (qk (o.op.operands.toList.flatMap fun a => (x a).msIds) H) k = some r := by
 unfold qey at h
 have h1 := qal (ids := o.op.operands.toList.flatMap fun a => (x a).msIds) (fun v hv id hid => by
  obtain ⟨a, ha, rfl⟩ := List.mem_map.1 hv
  exact List.mem_flatMap.2 ⟨a, ha, hid⟩) h
 rw [List.map_map] at h1
 have e : frzX o.op.operands.toList (o.op.operands.toList.map ((fun v => v.frz (o.op.operands.toList.flatMap fun a => (x a).msIds) H) ∘ x)) (fun a => (x a).frz (o.op.operands.toList.flatMap fun a => (x a).msIds) H) = fun a => (x a).frz (o.op.operands.toList.flatMap fun a => (x a).msIds) H := funext fun a => qgq a _
 rw [e] at h1
 exact h1
theorem qcU {cfg : Cfg} {cf : Orac} {kf : KF α} (hkf : KfOk cf kf) {frz : Bool} {nid : Option Nat} {o : Oper} {x : Operand → AV} {k : KH α} (h : qeu cfg cf kf frz nid o x H k = some r) : ∃ v H', qu cfg cf frz nid o x H = some (v, H') ∧ k v H' = some r := by
 have core : ∀ {x : Operand → AV} {H : AH}, (match o.op with
   | .call c =>
    match c.callee with
    | .value f => kTgt (x f) (c.args.toList.map x) fun t al => qbt cfg cf kf nid o.type t al H k
    | _ => kOp cfg nid o.op o.type x H k
   | _ => kOp cfg nid o.op o.type x H k) = some r → ∃ v H', (match o.op with
    | .call c =>
     match c.callee with
     | .value f => (vS (x f) (c.args.toList.map x)).bind fun t => qn cfg cf nid t.1 t.2 H
     | _ => evOp cfg nid o.op o.type x H
    | _ => evOp cfg nid o.op o.type x H) = some (v, H') ∧ k v H' = some r := by
  intro x H h
  cases ho : o.op with
  | call c =>
   simp only [ho] at h ⊢
   cases hc : c.callee with
   | value f =>
    simp only [hc] at h ⊢
    obtain ⟨t, h1, h⟩ := qhM h
    obtain ⟨v, H', h2, hz⟩ := qgZ hkf h
    exact ⟨v, H', by rw [h1]; exact h2, hz⟩
   | _ => simp only [hc] at h ⊢; exact qe6 h
  | _ => simp only [ho] at h ⊢; exact qe6 h
 unfold qeu at h
 unfold qu
 cases frz with
 | true =>
  simp only [cond_true] at h
  simp only [if_true]
  refine core (x := fun a => (x a).frz (o.op.operands.toList.flatMap fun a => (x a).msIds) H) (H := qk (o.op.operands.toList.flatMap fun a => (x a).msIds) H) ?_
  cases ho : o.op with
  | call c =>
   simp only [ho] at h ⊢
   cases hc : c.callee with
   | value f =>
    simp only [hc] at h ⊢
    have h1 := qal (ids := (Op.call c).operands.toList.flatMap fun a => (x a).msIds) (fun v hv id hid => by
     obtain ⟨a, ha, rfl⟩ := List.mem_map.1 hv
     refine List.mem_flatMap.2 ⟨a, ?_, hid⟩
     simp [Op.operands, Call.operands, hc, Array.mem_toList_iff.1 ha]) h
    rw [List.map_map] at h1
    exact h1
   | _ => simp only [hc] at h ⊢; have h := qcZ h; rw [ho] at h; exact h
  | _ => simp only [ho] at h ⊢; have h := qcZ h; rw [ho] at h; exact h
 | false => simp only [cond_false] at h; simp only [qjD, if_false]; exact core h
theorem qbX {fr : List AV} {d : Nat} {v : AV} (h : fr[d]? = some v) : fr.set d v = fr := by
 obtain ⟨hl, e⟩ := qjv.1 h
 rw [← e]; exact List.set_getElem_self hl
theorem qaV {ops : Array Oper} {fr : List AV} {o : Oper} {k : Bool → List AV → Option α} (h : qbr ops fr o k = some r) : ∃ b, vr ops fr o = some b ∧ k b fr = some r := by
 unfold qbr at h
 unfold vr
 split at h
 ·rename_i hg; rw [hg]; exact ⟨true, rfl, h⟩
 ·rename_i j want hg
  rw [hg]
  simp only
  split at h
  ·rename_i d hd
   rw [hd]
   simp only
   obtain ⟨v, h1, h⟩ := qd h
   rw [h1]
   split at h
   ·split at h
    ·exact ⟨false, rfl, h⟩
    ·cases h
   ·obtain ⟨b, rfl, h⟩ := y4 h
    simp only
    refine ⟨_, rfl, ?_⟩
    rcases q9 h with ⟨rfl, h⟩ | ⟨rfl, h⟩
    ·rw [qbX h1] at h
     cases want <;> exact h
    ·rw [qbX h1] at h
     cases want <;> exact h
  ·cases h
theorem qaX {cfg : Cfg} {cf : Orac} {kf : KF α} (hkf : KfOk cf kf) {f rid : Nat} {ops : Array Oper} : ∀ {l : List Oper} {n : Nat} {fr : List AV} {H : AH} {k : List AV → AH → Option α}, kOps cfg cf kf f rid ops n l fr H k = some r → ∃ q, xU cfg cf f rid ops n l fr H = some q ∧ k q.1 q.2 = some r
 | [], n, fr, H, k, h => ⟨(fr, H), rfl, h⟩
 | o :: l, n, fr, H, k, h => by
  rw [kOps] at h
  obtain ⟨b, h1, h⟩ := qaV h
  rw [xU, h1]
  simp only [qjG]
  rcases q9 h with ⟨rfl, h⟩ | ⟨rfl, h⟩
  ·obtain ⟨v, H', h2, h⟩ := qcU hkf h
   simp only [if_true, h2, qjG]
   exact qaX hkf h
  ·simp only [qjD, if_false]
   exact qaX hkf h
theorem qao {cfg : Cfg} {cf : Orac} {kf : KF α} (hkf : KfOk cf kf) {f rid : Nat} {ops : Array Oper} : ∀ {l : List Oper} {n at_ : Nat} {fr : List AV} {H : AH} {k : List DR → List AV → AH → Option α}, qc4 cfg cf kf f rid ops n at_ l fr H k = some r →
  ∃ q, vK cfg cf f rid ops n at_ l fr H = some q ∧ k q.1 q.2.1 q.2.2 = some r
 | [], n, at_, fr, H, k, h => ⟨([], fr, H), rfl, h⟩
 | o :: l, n, at_, fr, H, k, h => by
  rw [qc4] at h
  obtain ⟨b, h1, h⟩ := qaV h
  rw [vK, h1]
  simp only [qjG]
  rcases q9 h with ⟨rfl, h9⟩ | ⟨rfl, h9⟩
  ·obtain ⟨v, H', h2, h8⟩ := qcU hkf h9
   simp only [if_true, h2, qjG]
   obtain ⟨q, h3, hz⟩ := qao hkf h8
   exact ⟨_, by rw [h3]; rfl, hz⟩
  ·simp only [qjD, if_false]
   obtain ⟨q, h3, hz⟩ := qao hkf h9
   exact ⟨_, by rw [h3]; rfl, hz⟩
theorem qcR {fr : List AV} {c : Operand} {b : Bool} (h : opd fr c = .bool b) : known fr c b = fr := by
 cases c with
 | tmp d =>
  simp only [known]
  have hg : fr[d]? = some (.bool b) := by
   have h' : fr.getD d .junk = .bool b := h
   rw [List.getD_eq_getElem?_getD] at h'
   cases hd : fr[d]? with
   | none => rw [hd] at h'; cases h'
   | some v => rw [hd] at h'; simp at h'; rw [h']
  exact qbX hg
 | _ => rfl
theorem y3 {cfg : Cfg} {cf : Orac} {kf : KF α} (hkf : KfOk cf kf) {f : Nat} {rd : Option Nat} {bs : Nat} : ∀ (c : Code) {fr : List AV} {H : AH} {k : KE α}, qH cfg cf kf f rd bs c fr H k = some r → ∃ q, evC cfg cf f rd bs c fr H = some q ∧ k q.1 q.2.1 q.2.2 = some r := by
 intro c
 induction c with
 | skip => intro fr H k h; exact ⟨(.normal, fr, H), by simp only [evC], by simpa only [qH] using h⟩
 | label l => intro fr H k h; exact ⟨(.normal, fr, H), by simp only [evC], by simpa only [qH] using h⟩
 | exit id => intro fr H k h; exact ⟨(.exit id, fr, H), by simp only [evC], by simpa only [qH] using h⟩
 | ret => intro fr H k h; exact ⟨(.ret, fr, H), by simp only [evC], by simpa only [qH] using h⟩
 | goto l => intro fr H k h; simp only [qH] at h; cases h
 | refuse s => intro fr H k h; simp only [qH] at h; cases h
 | region id ops draw =>
  intro fr H k h
  simp only [qH] at h
  simp only [evC]
  cases draw with
  | true =>
   simp only [cond_true] at h
   simp only [if_true]
   obtain ⟨h1, h⟩ := qa h
   obtain ⟨q, h2, h⟩ := qao hkf h
   obtain ⟨h3, hz⟩ := qa h
   exact ⟨(.normal, q.2), by simp only [h1, if_true, h2, qjG, h3], hz⟩
  | false =>
   simp only [cond_false] at h
   simp only [qjD, if_false]
   obtain ⟨q, h2, hz⟩ := qaX hkf h
   exact ⟨(.normal, q), by simp only [h2, qjI], hz⟩
 | seq x y ihx ihy =>
  intro fr H k h
  simp only [qH] at h
  simp only [evC]
  obtain ⟨q, h1, h⟩ := ihx h
  rw [h1]
  simp only [qjG]
  unfold kSeq at h
  cases hq : q.1 with
  | normal => simp only [hq] at h ⊢; exact ihy (qf3 h)
  | exit id => simp only [hq] at h ⊢; exact ⟨_, rfl, h⟩
  | goto l => simp only [hq] at h ⊢; exact ⟨_, rfl, h⟩
  | ret => simp only [hq] at h ⊢; exact ⟨_, rfl, h⟩
 | cond cnd x y ihx ihy =>
  intro fr H k h
  simp only [qH] at h
  simp only [evC]
  obtain ⟨b, h1, h⟩ := y4 h
  rw [h1]
  simp only
  rcases q9 h with ⟨rfl, h⟩ | ⟨rfl, h⟩
  ·rw [qcR h1] at h
   simp only [if_true]; exact ihx h
  ·rw [qcR h1] at h
   simp only [qjD, if_false]; exact ihy h
 | block id x ih =>
  intro fr H k h
  simp only [qH] at h
  simp only [evC]
  obtain ⟨q, h1, h⟩ := ih h
  rw [h1]
  simp only [qjG]
  unfold qfe at h
  cases hq : q.1 with
  | normal => simp only [hq] at h ⊢; exact ⟨_, rfl, by rw [hq]; exact h⟩
  | exit id' =>
   simp only [hq] at h ⊢
   rcases q9 h with ⟨h2, hz⟩ | ⟨h2, hz⟩
   ·exact ⟨_, by simp only [h2, if_true]; rfl, hz⟩
   ·exact ⟨q, by simp only [h2, qjD, if_false], by rw [hq]; exact hz⟩
  | goto l => simp only [hq] at h ⊢; exact ⟨_, rfl, by rw [hq]; exact h⟩
  | ret => simp only [hq] at h ⊢; exact ⟨_, rfl, by rw [hq]; exact h⟩
 | loop x ih =>
  intro fr H k h
  simp only [qH] at h
  simp only [evC]
  obtain ⟨q, h1, hz⟩ := qd h
  exact ⟨(q.1, qB (cfg.keepOut f (qg x)) q.2.1, q.2.2), by rw [h1]; rfl, hz⟩
 | scope x ih =>
  intro fr H k h
  simp only [qH] at h
  simp only [evC]
  obtain ⟨q, h1, h⟩ := ih h
  rw [h1]
  simp only [qjG]
  unfold qe3 at h
  cases hq : q.1 with
  | goto l => simp only [hq] at h; cases h
  | normal => simp only [hq] at h ⊢; exact ⟨_, rfl, by rw [hq]; exact h⟩
  | exit id => simp only [hq] at h ⊢; exact ⟨_, rfl, by rw [hq]; exact h⟩
  | ret => simp only [hq] at h ⊢; exact ⟨_, rfl, by rw [hq]; exact h⟩
 | rangeFunc g ps assign body =>
  intro fr H k h
  simp only [qH] at h
  simp only [evC]
  generalize (qw (cfg.lift f (qg body)) fr H).1 = fr at h ⊢
  generalize (qw (cfg.lift f (qg body)) _ H).2 = H at h ⊢
  unfold qhN at h
  obtain ⟨h1, h⟩ := qa h
  split at h
  case h_2 => cases h
  rename_i g' first caps hg
  obtain ⟨h2, h⟩ := qa h
  obtain ⟨q, h3, h⟩ := hkf _ _ _ _ _ h
  unfold qd3 at h
  obtain ⟨b, h4, h⟩ := qd h
  unfold qiH at h
  split at h
  case h_2 => cases h
  rename_i pend st
  have hx : ¬ (cfg.ext g').isSome = true := by
   cases he : cfg.ext g' with
   | none => simp
   | some s => rw [he] at h2; cases h2
  have hst : st ≠ .busy := by
   intro e; subst e; simp at h
  have hpk : qe5 pend k (gc bs (qB (cfg.keepOut f (qg body)) fr) (q.2.set H.length .dead)).1 (gc bs (qB (cfg.keepOut f (qg body)) fr) (q.2.set H.length .dead)).2 = some r := by
   cases st with
   | busy => exact absurd rfl hst
   | _ => exact h
  unfold x8
  rw [if_pos h1, hg]
  simp only [hx, h3, qjG, h4]
  unfold qe5 at hpk
  cases st with
  | busy => exact absurd rfl hst
  | _ =>
   cases pend with
   | none => exact ⟨_, rfl, hpk⟩
   | some c =>
    cases c <;> first | exact ⟨_, rfl, hpk⟩ | cases hpk
theorem zy {cfg : Cfg} {fr : List AV} : ∀ {rs : List ResultVar} {k : List AV → Option α}, kRes cfg fr H rs k = some r → ∃ vs, qS rs cfg.ty fr H = some vs ∧ k vs = some r
 | [], k, h => ⟨[], rfl, h⟩
 | .tmp t :: l, k, h => by
  rw [kRes] at h
  obtain ⟨vs, h1, hz⟩ := zy h
  exact ⟨_, by simp only [qS, h1, qjI], hz⟩
 | .cell a t :: l, k, h => by
  rw [kRes] at h
  split at h
  ·rename_i ti hti
   obtain ⟨v, h1, h⟩ := qaj h
   have h2 := qt (k := fun v => kRes cfg fr H l fun vs => k (v :: vs)) h
   obtain ⟨vs, h3, hz⟩ := zy h2
   exact ⟨_, by simp only [qS, hti, h1, qjG, h3, qjI], hz⟩
  ·cases h
variable {α : Type}
def fxGo (i : Nat) (l : List (Nat × AV)) : Nat → List AV
 | 0 => []
 | n + 1 => match l with
  | [] => .junk :: fxGo (i + 1) [] n
  | p :: l' => if qjM p.1 i then p.2 :: fxGo (i + 1) l' n else .junk :: fxGo (i + 1) (p :: l') n
def fx (n : Nat) (l : List (Nat × AV)) : List AV := fxGo 0 l n
def xA (fn : Func) : Code := match fn.body with | some c => c | none => .skip
def sub : Code → List Nat → Code
 | c, [] => c
 | .seq a b, i :: l => match i with | 0 => sub a l | _ => sub b l
 | .cond _ a b, i :: l => match i with | 0 => sub a l | _ => sub b l
 | .block _ a, _ :: l => sub a l
 | .loop a, _ :: l => sub a l
 | .scope a, _ :: l => sub a l
 | .rangeFunc _ _ a b, i :: l => match i with | 0 => sub a l | _ => sub b l
 | c, _ => c
noncomputable def kLp (k : Nat) (ts : Option (List Tmp)) (ls : List (Tmp × Nat)) (L : Den) (A : Ex × List AV × AH → Option α) : KE α := fun e fr H =>
 match e with
 | .normal => kOpt (LOOP k ts ls L (xy k ts ls fr H)) A
 | e => A (e, fr, H)
theorem qgN {cfg : Cfg} {kf : KF α} (hkf : KfOk (EV cfg) kf) {f : Nat} {rd : Option Nat} {bs : Nat} {c : Code} {k : Nat} {ts : Option (List Tmp)} {ls : List (Tmp × Nat)} {A : Ex × List AV × AH → Option α} {fr : List AV} {H : AH} {r : α}
  (h : qH cfg (EV cfg) kf f rd bs c fr H (kLp k ts ls (evC cfg (EV cfg) f rd bs c) A) = some r) : kOpt (LOOP k ts ls (evC cfg (EV cfg) f rd bs c) (fr, H)) A = some r := by
 obtain ⟨⟨e, fr1, H1⟩, h1, h2⟩ := y3 hkf c h
 cases e with
 | normal =>
  simp only [kLp] at h2
  cases hl : LOOP k ts ls (evC cfg (EV cfg) f rd bs c) (xy k ts ls fr1 H1) with
  | none => rw [hl] at h2; cases h2
  | some q =>
   rw [hl] at h2
   rw [qh5 (p := (fr, H)) h1 hl]
   exact h2
 | exit id => rw [qbi (p := (fr, H)) h1 (fun x => by intro h; cases h)]; exact h2
 | goto l => rw [qbi (p := (fr, H)) h1 (fun x => by intro h; cases h)]; exact h2
 | ret => rw [qbi (p := (fr, H)) h1 (fun x => by intro h; cases h)]; exact h2
def qc1 (cfg : Cfg) (ls : List (Tmp × Nat)) (g : AV → AH → Option α) (rs : List ResultVar) : KE α := fun e fr H =>
 match e with
 | .normal => kRes cfg (qw ls fr H).1 (qw ls fr H).2 rs fun vs => g (vX vs) (qw ls fr H).2
 | .ret => kRes cfg (qw ls fr H).1 (qw ls fr H).2 rs fun vs => g (vX vs) (qw ls fr H).2
 | _ => none
def qiI (cfg : Cfg) (ls : List (Tmp × Nat)) (rs : List ResultVar) : KE AV := qc1 cfg ls (fun v _ => some v) rs
noncomputable def qcY (cfg : Cfg) (cf : Orac) (kf : KF α) (f : Nat) (fn : Func) (c : Code) (args : List AV) (H : AH) (fin : KE α) : Option α :=
 qH cfg cf kf f none H.length c (args ++ qjL (fn.ntmps - args.length) .junk) H fin
theorem qbP {cfg : Cfg} {kf : KF α} (hkf : KfOk (EV cfg) kf) {g : AV → AH → Option α} {f : Nat} {fn : Func} {args : List AV} {H : AH} {r : α} (hx : cfg.ext f = none) (hk : cfg.known f = true) (hf : cfg.P.funcs[f]? = some fn) (hb : fn.body = some (xA fn))
  (h : qcY cfg (EV cfg) kf f fn (xA fn) args H (qc1 cfg (cfg.lift f 0) g fn.results.toList) = some r) : ∃ v H', EV cfg (.f f) args H = some (v, H') ∧ g v H' = some r := by
 unfold qcY at h
 obtain ⟨q, h1, h⟩ := y3 hkf _ h
 have key : ∀ (vs : List AV), qS fn.results.toList cfg.ty (qw (cfg.lift f 0) q.2.1 q.2.2).1 (qw (cfg.lift f 0) q.2.1 q.2.2).2 = some vs → (q.1 = .normal ∨ q.1 = .ret) → EV cfg (.f f) args H = some (vX vs, (qw (cfg.lift f 0) q.2.1 q.2.2).2) := by
  intro vs h2 hq
  refine qhk ?_
  unfold qU
  simp only [hx, hk, if_true, hf, hb, h1, qjG]
  unfold yP
  rcases hq with hq | hq <;> simp only [hq, h2, qjI]
 unfold qc1 at h
 split at h
 ·rename_i hq
  obtain ⟨vs, h2, h⟩ := zy h
  exact ⟨_, _, key vs h2 (.inl hq), h⟩
 ·rename_i hq
  obtain ⟨vs, h2, h⟩ := zy h
  exact ⟨_, _, key vs h2 (.inr hq), h⟩
 ·cases h
def kY2 (id : Nat) (K : AV × AH → Option α) : KE α := fun e _ H =>
 kOpt H[id]? fun b => match b with
  | .loop f fr ps a b _ _ => (match e with
   | .normal => K (.bool true, H.set id (.loop f fr ps a b none .ready))
   | .ret => K (.bool false, H.set id (.loop f fr ps a b (some .ret) .done))
   | .exit x => K (.bool false, H.set id (.loop f fr ps a b (some (.exit x)) .done))
   | .goto _ => none)
  | _ => none
noncomputable def kY1 (cfg : Cfg) (cf : Orac) (kf : KF α) (bs f id : Nat) (body : Code) (K : AV × AH → Option α) : KE α := fun e fr H =>
 match e with
 | .normal => kOpt H[id]? fun b => match b with
  | .loop f' fr' ps' a' b' p' st => (match st with
   | .ready => qH cfg cf kf f (some id) bs body fr (H.set id (.loop f' fr' ps' a' b' p' .busy)) (kY2 id K)
   | _ => none)
  | _ => none
 | _ => none
noncomputable def kY (cfg : Cfg) (cf : Orac) (kf : KF α) (id : Nat) (args : List AV) (H : AH) (K : AV × AH → Option α) : Option α :=
 kOpt H[id]? fun b => match b with
  | .loop f fr ps assign body _ st => (match st with
   | .ready => cond (qjM args.length ps.length) (qH cfg cf kf f (some id) H.length assign (vn fr ps args) H (kY1 cfg cf kf H.length f id body K)) none
   | _ => none)
  | _ => none
theorem qin {cfg : Cfg} {kf : KF α} (hkf : KfOk (EV cfg) kf) {id : Nat} {args : List AV} {H : AH} {K : AV × AH → Option α} {r : α} (h : kY cfg (EV cfg) kf id args H K = some r) : ∃ q, EV cfg (.y id) args H = some q ∧ K q = some r := by
 unfold kY at h
 obtain ⟨b, h1, h⟩ := qd h
 cases b with
 | loop f fr ps assign body pend st =>
  simp only at h
  cases st with
  | ready =>
   simp only at h
   obtain ⟨h2, h⟩ := qa h
   obtain ⟨q, h3, h⟩ := y3 hkf _ h
   unfold kY1 at h
   cases hq : q.1 with
   | normal =>
    rw [hq] at h
    simp only at h
    obtain ⟨b, h4, h⟩ := qd h
    cases b with
    | loop f' fr' ps' a' b' p' st' =>
     simp only at h
     cases st' with
     | ready =>
      simp only at h
      obtain ⟨q2, h5, h⟩ := y3 hkf _ h
      unfold kY2 at h
      obtain ⟨b, h6, h⟩ := qd h
      cases b with
      | loop f2 fr2 ps2 a2 b2 p2 st2 =>
       have key : ∀ q', qU cfg (EV cfg) (.y id) args H = some q' → K q' = some r → ∃ q, EV cfg (.y id) args H = some q ∧ K q = some r := fun q' h8 h9 => ⟨q', qhk h8, h9⟩
       cases hq2 : q2.1 with
       | normal =>
        rw [hq2] at h
        refine key _ ?_ h
        unfold qU
        simp only [h1, if_pos (qjA h2), h3, qjG, hq, h4, h5, h6, hq2]
       | ret =>
        rw [hq2] at h
        refine key _ ?_ h
        unfold qU
        simp only [h1, if_pos (qjA h2), h3, qjG, hq, h4, h5, h6, hq2]
       | exit x =>
        rw [hq2] at h
        refine key _ ?_ h
        unfold qU
        simp only [h1, if_pos (qjA h2), h3, qjG, hq, h4, h5, h6, hq2]
       | goto x => rw [hq2] at h; cases h
      | _ => cases h
     | _ => cases h
    | _ => cases h
   | _ => rw [hq] at h; cases h
  | _ => cases h
 | _ => cases h
class InlOk (cfg : Cfg) : Prop where
 ok : ∀ f fn, cfg.inl f = some fn → cfg.ext f = none ∧ cfg.known f = true ∧ cfg.P.funcs[f]? = some fn ∧ fn.body = some (xA fn)
def qbv (f : Nat) : List (Nat × Func) → Option Func
 | [] => none
 | p :: l => if qjM p.1 f then some p.2 else qbv f l
def qh6 (cfg : Cfg) : List (Nat × Func) → Prop
 | [] => True
 | p :: l => (cfg.ext p.1 = none ∧ cfg.known p.1 = true ∧ cfg.P.funcs[p.1]? = some p.2 ∧ p.2.body = some (xA p.2)) ∧ qh6 cfg l
theorem InlOk.of {cfg : Cfg} (tab : List (Nat × Func)) (h : ∀ f, cfg.inl f = qbv f tab) (ha : qh6 cfg tab) : InlOk cfg where
 ok := by
  intro f fn hf
  rw [h] at hf
  clear h
  induction tab with
  | nil => cases hf
  | cons p l ih =>
   rw [qbv] at hf
   split at hf
   ·rename_i e
    have e := qjA e
    cases hf
    rw [← e]
    exact ha.1
   ·exact ih ha.2 hf
noncomputable def kfN (cfg : Cfg) : Nat → KF α
 | 0 => fun t a H k => kOpt (EV cfg t a H) k
 | n + 1 => fun t a H k => match t with
  | .f f => (match cfg.inl f with
   | some fn => qcY cfg (EV cfg) (kfN cfg n) f fn (xA fn) a H (qc1 cfg (cfg.lift f 0) (fun v H => k (v, H)) fn.results.toList)
   | none => kOpt (EV cfg (.f f) a H) k)
  | .y id => kY cfg (EV cfg) (kfN cfg n) id a H k
theorem qcS {cfg : Cfg} [InlOk cfg] : ∀ n, KfOk (α := α) (EV cfg) (kfN cfg n)
 | 0 => fun t a H k r h => qd h
 | n + 1 => fun t a H k r h => by
  unfold kfN at h
  cases t with
  | f f =>
   simp only at h
   split at h
   ·rename_i fn hf
    obtain ⟨o1, o2, o3, o4⟩ := InlOk.ok f fn hf
    obtain ⟨v, H', h1, h2⟩ := qbP (qcS n) o1 o2 o3 o4 h
    exact ⟨_, h1, h2⟩
   ·exact qd h
  | y id => exact qin (qcS n) h
theorem qaS {cfg : Cfg} [InlOk cfg] {f : Nat} {rd : Option Nat} {bs : Nat} {c : Code} {k : Nat} {ts : Option (List Tmp)} {ls : List (Tmp × Nat)} {A : Ex × List AV × AH → Option α} {fr : List AV} {H : AH} {r : α}
  (h : qH cfg (EV cfg) (kfN cfg 6) f rd bs c fr H (kLp k ts ls (evC cfg (EV cfg) f rd bs c) A) = some r) : kOpt (LOOP k ts ls (evC cfg (EV cfg) f rd bs c) (fr, H)) A = some r := qgN (qcS 6) h
theorem qgV {cfg : Cfg} [InlOk cfg] {g : AV → AH → Option α} {f : Nat} {fn : Func} {args : List AV} {H : AH} {r : α} (hx : cfg.ext f = none) (hk : cfg.known f = true) (hf : cfg.P.funcs[f]? = some fn) (hb : fn.body = some (xA fn))
  (h : qcY cfg (EV cfg) (kfN cfg 6) f fn (xA fn) args H (qc1 cfg (cfg.lift f 0) g fn.results.toList) = some r) : ∃ v H', EV cfg (.f f) args H = some (v, H') ∧ g v H' = some r := qbP (qcS 6) hx hk hf hb h
def Gets {β : Type} (o : Option β) (P : β → Prop) : Prop := ∃ r, o = some r ∧ P r
theorem Gets.ev {β : Type} {o o' : Option β} {P : β → Prop} (h : ∀ r, o = some r → o' = some r) (hy : Gets o P) : Gets o' P := by
 obtain ⟨r, h1, h2⟩ := hy
 exact ⟨r, h r h1, h2⟩
theorem Gets.eq {β : Type} {o o' : Option β} {P : β → Prop} (h : o' = o) (hy : Gets o P) : Gets o' P := h ▸ hy
theorem gE {β : Type} {o o' x : Option β} {P : β → Prop} (f : ∀ r, o = some r → o' = some r) (e : o = x) (h : Gets x P) : Gets o' P := Gets.ev f (Gets.eq e h)
theorem Gets.mono {β : Type} {o : Option β} {P Q : β → Prop} (h : Gets o P) (hq : ∀ b, P b → Q b) : Gets o Q := by
 obtain ⟨r, h1, h2⟩ := h
 exact ⟨r, h1, hq r h2⟩
theorem Gets.bind {β γ : Type} {o : Option β} {k : β → Option γ} {Q : β → Prop} {P : γ → Prop} (h : Gets o Q) (hk : ∀ b, Q b → Gets (k b) P) : Gets (kOpt o k) P := by
 obtain ⟨r, h1, h2⟩ := h
 subst h1
 exact hk r h2
@[simp] theorem gets_some {β : Type} {a : β} {P : β → Prop} : Gets (some a) P ↔ P a := ⟨fun ⟨r, h1, h2⟩ => by cases h1; exact h2, fun h => ⟨a, rfl, h⟩⟩
theorem Gets.get {β : Type} {o : Option β} {a : β} (h : Gets o (· = a)) : o = some a := by
 obtain ⟨r, h1, h2⟩ := h
 rw [h1, h2]
theorem qjm {cfg : Cfg} {f : Nat} {args : List AV} {v : AV} {H : AH} (h : EV cfg (.f f) args [] = some (v, H)) : EVs (EV cfg) f args = some v := by unfold EVs; rw [h]; rfl
theorem funS {cfg : Cfg} [InlOk cfg] {f : Nat} {fn : Func} {args : List AV} {r : AV} (hx : cfg.ext f = none) (hk : cfg.known f = true) (hf : cfg.P.funcs[f]? = some fn) (hb : fn.body = some (xA fn))
  (h : qcY cfg (EV cfg) (kfN cfg 6) f fn (xA fn) args [] (qiI cfg (cfg.lift f 0) fn.results.toList) = some r) : EVs (EV cfg) f args = some r := by
 obtain ⟨v, H', h1, h2⟩ := qgV hx hk hf hb h
 cases h2
 exact qjm h1
@[simp] theorem nble (a b : Nat) : Nat.ble a b = decide (a ≤ b) := by
 rcases h : Nat.ble a b with _ | _
 ·rw [eq_comm, decide_eq_false_iff_not]; intro h'; rw [Nat.ble_eq_true_of_le h'] at h; cases h
 ·rw [eq_comm, decide_eq_true_eq]; exact Nat.le_of_ble_eq_true h
@[simp] theorem nbeq (a b : Nat) : qjM a b = decide (a = b) := by
 rcases h : qjM a b with _ | _
 ·rw [eq_comm, decide_eq_false_iff_not]; intro h'; rw [h', Nat.beq_refl] at h; cases h
 ·rw [eq_comm, decide_eq_true_eq]; exact qjA h
@[simp] theorem leInt_eq (a b : Int) : qZ a b = decide (a ≤ b) := rfl
@[simp] theorem ltInt_eq (a b : Int) : yB a b = decide (a < b) := rfl
def AV.IsInt (v : AV) : Prop := ∃ n, v = .int .i64 n
def AV.IsBool (v : AV) : Prop := ∃ b, v = .bool b
@[simp] theorem isInt_int (n : Int) : (AV.int .i64 n).IsInt := ⟨n, rfl⟩
@[simp] theorem isBool_bool (b : Bool) : (AV.bool b).IsBool := ⟨b, rfl⟩
@[simp] theorem kOptSome {β : Type} (b : β) (k : β → Option α) : kOpt (some b) k = k b := rfl
@[simp] theorem kOptNone {β : Type} (k : β → Option α) : kOpt none k = none := rfl
@[simp] theorem kMInt_int (kd : IntKind) (n : Int) (k : Int → Option α) : qex kd (.int kd n) k = k n := by simp [qex, yg]
@[simp] theorem kInt_int (kd : IntKind) (n : Int) (k : Int → Option α) : kInt kd (.int kd n) k = k n := by simp [kInt, yg]
@[simp] theorem kBool_bool (b : Bool) (k : Bool → Option α) : xl (.bool b) k = k b := rfl
@[simp] theorem kStr_str (s : List UInt8) (k : List UInt8 → Option α) : kStr (.str s) k = k s := rfl
@[simp] theorem kAgg_agg (cs : List AV) (k : List AV → Option α) : kAgg (.agg cs) k = k cs := rfl
@[simp] theorem kCons_cons (c : AV) (cs : List AV) (k : AV → List AV → Option α) : yk (c :: cs) k = k c cs := rfl
@[simp] theorem kNil_nil (x : Option α) : kNil [] x = x := rfl
@[simp] theorem kMSl_nil (x : Option α) (k : Nat → Nat → Option α) : kMSl .nil x k = x := rfl
@[simp] theorem kMSl_sl (off len : Nat) (x : Option α) (k : Nat → Nat → Option α) : kMSl (.sl off len) x k = k off len := rfl
@[simp] theorem kMUnit_unit (x : Option α) : qe8 .unit x = x := rfl
@[simp] theorem kMBool_bool (b : Bool) (k : Bool → Option α) : qe9 (.bool b) k = k b := rfl
@[simp] theorem kOwn_nil (x : Option α) (k : Nat → List (List AV) → Nat → Nat → Option α) : kOwn .nil x k = x := rfl
@[simp] theorem kOwn_own (sz : Nat) (rs : List (List AV)) (off len : Nat) (x : Option α) (k : Nat → List (List AV) → Nat → Nat → Option α) : kOwn (.own sz rs off len) x k = k sz rs off len := rfl
@[simp] theorem kSl_sl (rs : List (List AV)) (k : List (List AV) → Option α) : kSl (.sl rs) k = k rs := rfl
@[simp] theorem get?Internal_eq {β : Type} (l : List β) (i : Nat) : List.get?Internal l i = l[i]? := rfl
variable {α β : Type}
def qdf (b : Bool) (k : Bool → α) : α := match b with | true => k true | false => k false
def fNat (n : Nat) (k : Nat → α) : α := match n with | 0 => k 0 | m + 1 => k (m + 1)
def fInt (n : Int) (k : Int → α) : α := match n with | .ofNat m => fNat m fun m => k (.ofNat m) | .negSucc m => fNat m fun m => k (.negSucc m)
def fL (g : β → (β → α) → α) : List β → (List β → α) → α
 | [], k => k []
 | a :: l, k => g a fun a' => fL g l fun l' => k (a' :: l')
def qiM (kd : IntKind) (k : IntKind → α) : α := match kd with
 | .i64 => k .i64
 | .u64 => k .u64
 | .u8 => k .u8
 | .i32 => k .i32
 | .u32 => k .u32
 | x => k x
def qg6 (b : UInt8) (k : UInt8 → α) : α := fNat b.toNat fun n => k (UInt8.ofNat n)
theorem qiL {g : β → (β → α) → α} (hg : ∀ b k, g b k = k b) : ∀ (l : List β) (k : List β → α), fL g l k = k l
 | [], _ => rfl
 | a :: l, k => by rw [fL, hg, qiL hg l]
theorem qb5 (b : Bool) (k : Bool → α) : qdf b k = k b := by cases b <;> rfl
theorem vF (b : Nat) (k : Nat → α) : fNat b k = k b := by cases b <;> rfl
theorem qi1 (b : Int) (k : Int → α) : fInt b k = k b := by cases b <;> simp only [fInt, vF]
theorem qis (b : IntKind) (k : IntKind → α) : qiM b k = k b := by cases b <;> rfl
theorem qit (b : UInt8) (k : UInt8 → α) : qg6 b k = k b := by simp [qg6, vF]
def qjp (c a b : AV) (H : AH) : Option (AV × AH) :=
 match c with
 | .bool t => some (if t then a else b, H)
 | _ => none
def qi9 (cfg : Cfg) (nid : Option Nat) (t : TypeId) (H : AH) : Option (AV × AH) :=
 match cfg.ty t with
 | some ti =>
  if qG ti.zero then
   match aNew nid H (.rows (bigZ (cfg.fga t ti.zero)) ti.zero.length [cfg.fga t ti.zero]) with
   | some (k, H') => some (.ptr k 0 0, H')
   | none => none
  else none
 | none => none
def xBox (nid : Option Nat) (a : AV) (H : AH) : Option (AV × AH) :=
 match a.cells with
 | some cs =>
  match aNew nid H (.rows (bigZ cs) cs.length [cs]) with
  | some (k, H') => some (.ptr k 0 0, H')
  | none => none
 | none => none
def qi8 (cfg : Cfg) (t : TypeId) (parts : List (Nat × AV)) (H : AH) : Option (AV × AH) :=
 match cfg.ty t with
 | some ti =>
  if qG ti.zero then
   match ti.d with
   | .struct fs =>
    match xu cfg fs with
    | some ps => (yI (fun i => ps[i]?) ti.zero parts).map fun cs => (.agg (cfg.fga t cs), H)
    | none => none
   | .array _ e =>
    match cfg.sz e with
    | some n => (yI (fun i => some (i * n, n)) ti.zero parts).map fun cs => (.agg cs, H)
    | none => none
   | _ => none
  else none
 | none => none
def qbE (cfg : Cfg) (nid : Option Nat) (t : TypeId) (len : Nat) (parts : List (Nat × AV)) (H : AH) : Option (AV × AH) :=
 match cfg.td t with
 | some (.slice e) =>
  match cfg.ty e with
  | some ei =>
   if vW ei && Nat.ble (len * ei.sz) 16777216 then
    match yq ei.sz (qjL len ei.zero) parts with
    | some rows =>
     match aNew nid H (.rows (qh 0 rows) ei.sz rows) with
     | some (k, H') => some (.ms k 0 len, H')
     | none => none
    | none => none
   else none
  | none => none
 | _ => none
def qjq (cfg : Cfg) (t : TypeId) (a : AV) (H : AH) : Option (AV × AH) :=
 match cfg.ty t with
 | some ti => (v9 ti.d.agg ti.sz H a).map fun v => (v, H)
 | none => none
def qi6 (cfg : Cfg) (t : TypeId) (a v : AV) (H : AH) : Option (AV × AH) :=
 match cfg.sz t with
 | some n => (v4 n H a v).map fun H' => (.junk, H')
 | none => none
def xNil (a : AV) (H : AH) : Option (AV × AH) :=
 match a with
 | .ptr id r off => some (.ptr id r off, H)
 | .cptr cs off => some (.cptr cs off, H)
 | .fn (.func f) a b => some (.fn (.func f) a b, H)
 | .mp id => some (.mp id, H)
 | .yld id => some (.yld id, H)
 | _ => none
def qh8 (t : AV) (i : Nat) (H : AH) : Option (AV × AH) :=
 match t with
 | .tup vs => (vs[i]?).map fun v => (v, H)
 | _ => none
def xOp (cfg : Cfg) (nid : Option Nat) (o : Op) (ty : TypeId) (x : Operand → AV) (H : AH) : Option (AV × AH) :=
 match o with
 | .move a | .assign a => some (x a, H)
 | .pick c a b => qjp (x c) (x a) (x b) H
 | .alloc t => qi9 cfg nid t H
 | .box _ a => xBox nid (x a) H
 | .build t parts => qi8 cfg t (parts.toList.map fun p => (p.1, x p.2)) H
 | .buildSlice t len parts => qbE cfg nid t len (parts.toList.map fun p => (p.1, x p.2)) H
 | .load t a => qjq cfg t (x a) H
 | .store t a v => qi6 cfg t (x a) (x v) H
 | .nilCheck a => xNil (x a) H
 | .binOp op t a b _ => (aBin cfg (litN a b) op t (x a) (x b)).map fun v => (v, H)
 | .unOp op _ a => (aUn op (x a)).map fun v => (v, H)
 | .convert s d a => vR cfg nid s d (x a) H
 | .makeFunc f first caps => some (.fn f (first.toList.map x) (caps.toList.map x), H)
 | .makeSlice t l c => xO cfg nid t (x l) (x c) H
 | .slice t a lo hi mx => (yp cfg t H (x a) (lo.map x) (hi.map x) (mx.map x)).map fun v => (v, H)
 | .fieldAddr t a f => (xH cfg t (x a) f).map fun v => (v, H)
 | .field t a f => (z5 cfg t (x a) f).map fun v => (v, H)
 | .indexAddr t a i => (vm cfg t H (x a).unwr (x i)).map fun v => (v, H)
 | .index t a i => (z4 cfg t (x a) (x i)).map fun v => (v, H)
 | .extract t i => qh8 (x t) i H
 | o => evOp cfg nid o ty x H
theorem qi7 (cfg : Cfg) (nid : Option Nat) (o : Op) (ty : TypeId) (x : Operand → AV) (H : AH) : xOp cfg nid o ty x H = evOp cfg nid o ty x H := by cases o <;> rfl
variable {α β : Type}
noncomputable def gL (g : β → (β → α) → α) (l : List β) : (List β → α) → α :=
 List.rec (motive := fun _ => (List β → α) → α) (fun k => k []) (fun a _ ih k => g a fun a' => ih fun l' => k (a' :: l')) l
noncomputable def gS (l : List β) : (List β → α) → α :=
 List.rec (motive := fun _ => (List β → α) → α) (fun k => k []) (fun a _ ih k => ih fun l' => k (a :: l')) l
theorem xm {g : β → (β → α) → α} (hg : ∀ b k, g b k = k b) : ∀ (l : List β) (k : List β → α), gL g l k = k l
 | [], _ => rfl
 | a :: l, k => by
  have : gL g (a :: l) k = g a fun a' => gL g l fun l' => k (a' :: l') := rfl
  rw [this, hg, xm hg l]
theorem vT : ∀ (l : List β) (k : List β → α), gS l k = k l
 | [], _ => rfl
 | a :: l, k => by
  have : gS (a :: l) k = gS l fun l' => k (a :: l') := rfl
  rw [this, vT l]
def gA1 (v : AV) (k : AV → α) : α := match v with
 | .int kd m => qiM kd fun kd => fInt m fun m => k (.int kd m)
 | .bool b => qdf b fun b => k (.bool b)
 | .str s => fL qg6 s fun s => k (.str s)
 | .ms a b c => fNat a fun a => fNat b fun b => fNat c fun c => k (.ms a b c)
 | .ptr a b c => fNat a fun a => fNat b fun b => fNat c fun c => k (.ptr a b c)
 | v => k v
theorem qda (v : AV) (k : AV → α) : gA1 v k = k v := by
 cases v <;> simp only [gA1, qis, qi1, qb5, vF, qiL qit]
noncomputable def gA2 (v : AV) (k : AV → α) : α := match v with
 | .agg cs => gL gA1 cs fun cs => k (.agg cs)
 | .sl rows => gL (gL gA1) rows fun rows => k (.sl rows)
 | .cptr cs o => gL gA1 cs fun cs => fNat o fun o => k (.cptr cs o)
 | .fn f a b => gL gA1 a fun a => gL gA1 b fun b => k (.fn f a b)
 | v => gA1 v k
theorem qhW (v : AV) (k : AV → α) : gA2 v k = k v := by
 have e1 : ∀ (l : List AV) (k : List AV → α), gL gA1 l k = k l := xm qda
 cases v <;> simp only [gA2, qda, e1, vF, xm e1]
noncomputable def gA (v : AV) (k : AV → α) : α := match v with
 | .tup cs => gL gA2 cs fun cs => k (.tup cs)
 | .ifc t v => gA2 v fun v => k (.ifc t v)
 | v => gA2 v k
theorem yE (v : AV) (k : AV → α) : gA v k = k v := by
 cases v <;> simp only [gA, qhW, xm qhW]
def gW (v : AV) (k : AV → α) : α := match v with
 | .int a b => k (.int a b)
 | .bool a => k (.bool a)
 | .str a => k (.str a)
 | .agg a => k (.agg a)
 | .tup a => k (.tup a)
 | .nilS => k .nilS
 | .sl a => k (.sl a)
 | .em => k .em
 | .ms a b c => k (.ms a b c)
 | .nilP => k .nilP
 | .ptr a b c => k (.ptr a b c)
 | .cptr a b => k (.cptr a b)
 | .fn a b c => k (.fn a b c)
 | .yld a => k (.yld a)
 | .nilF => k .nilF
 | .nilM => k .nilM
 | .mp a => k (.mp a)
 | .nilI => k .nilI
 | .ifc a b => k (.ifc a b)
 | .junk => k .junk
 | .lsl r => k (.lsl r)
 | .lpt c o => k (.lpt c o)
 | .rsl i r => k (.rsl i r)
 | .rpt i c o => k (.rpt i c o)
 | .alt l => k (.alt l)
 | .wr a b => k (.wr a b)
theorem qc9 (v : AV) (k : AV → α) : gW v k = k v := by cases v <;> rfl
noncomputable def gB (b : ABlk) (k : ABlk → α) : α := match b with
 | .rows d sz rs => qdf d fun d => fNat sz fun sz => gL (gL gA1) rs fun rs => k (.rows d sz rs)
 | .froz d sz rs => qdf d fun d => fNat sz fun sz => gL (gL gA1) rs fun rs => k (.froz d sz rs)
 | .mp es => gS es fun es => k (.mp es)
 | .loop f fr ps a b p s => gL gA1 fr fun fr => k (.loop f fr ps a b p s)
 | .dead => k .dead
 | .res => k .res
 | .reg => k .reg
 | .spl => k .spl
theorem qjt (b : ABlk) (k : ABlk → α) : gB b k = k b := by
 have e1 : ∀ (l : List AV) (k : List AV → α), gL gA1 l k = k l := xm qda
 cases b <;> simp only [gB, qb5, vF, e1, xm e1, vT]
noncomputable def gP (p : Nat × AV) (k : Nat × AV → α) : α := gA p.2 fun v => k (p.1, v)
theorem qiJ (p : Nat × AV) (k : Nat × AV → α) : gP p k = k p := by unfold gP; rw [yE]
noncomputable def gH (H : AH) (k : AH → α) : α := gL gB H k
theorem qbx (H : AH) (k : AH → α) : gH H k = k H := xm qjt H k
abbrev Ov := List (Nat × AV)
def den (n : Nat) (ov : Ov) : List AV := ov.foldr (fun p fr => fr.set p.1 p.2) (qjL n .junk)
noncomputable def qJ (t : Nat) (ov : Ov) : AV := List.rec (motive := fun _ => AV) .junk (fun p _ ih => cond (qjM p.1 t) p.2 ih) ov
theorem qaN (t : Nat) : qJ t [] = .junk := rfl
theorem yd (t : Nat) (p : Nat × AV) (ov : Ov) : qJ t (p :: ov) = cond (qjM p.1 t) p.2 (qJ t ov) := rfl
def OvOk (n : Nat) (ov : Ov) : Prop := ∀ p ∈ ov, p.1 < n
theorem zZ (n : Nat) (ov : Ov) : (den n ov).length = n := by
 induction ov with
 | nil => simp [den]
 | cons p l ih => simp only [den, List.foldr_cons, List.length_set]; exact ih
theorem z1 {n : Nat} {ov : Ov} (h : OvOk n ov) (t : Nat) : (den n ov)[t]? = if t < n then some (qJ t ov) else none := by
 induction ov with
 | nil =>
  simp only [den, List.foldr_nil, qaN, List.getElem?_replicate]
 | cons p l ih =>
  have hl : OvOk n l := fun q hq => h q (List.mem_cons_of_mem _ hq)
  have hp : p.1 < n := h p (List.mem_cons_self ..)
  have : (den n (p :: l))[t]? = ((den n l).set p.1 p.2)[t]? := rfl
  rw [this, qjE, ih hl, zZ, yd]
  by_cases e : p.1 = t
  ·subst e; simp [hp]
  ·have : qjM p.1 t = false := by rw [← Bool.not_eq_true]; intro h'; exact e (qjA h')
   rw [if_neg e, this]; rfl
theorem qaO {n : Nat} {ov : Ov} (h : OvOk n ov) {t : Nat} (ht : ¬ t < n) : qJ t ov = .junk := by
 induction ov with
 | nil => rfl
 | cons p l ih =>
  have hp : p.1 < n := h p (List.mem_cons_self ..)
  have : qjM p.1 t = false := by rw [← Bool.not_eq_true]; intro h'; have := qjA h'; omega
  rw [yd, this]
  exact ih fun q hq => h q (List.mem_cons_of_mem _ hq)
theorem qdN {n : Nat} {ov : Ov} (h : OvOk n ov) {fr : List AV} (hl : fr.length = n) (hg : ∀ t, t < n → fr[t]? = some (qJ t ov)) : den n ov = fr := by
 apply List.ext_getElem?
 intro t
 rw [z1 h]
 split
 ·rename_i ht; exact (hg t ht).symm
 ·rename_i ht; exact (List.getElem?_eq_none (by omega)).symm
noncomputable def opdO (ov : Ov) : Operand → AV
 | .tmp t => qJ t ov
 | .const v => ofValue v
 | .global _ => .junk
 | .func f => .fn (.func f) [] []
theorem zU {n : Nat} {ov : Ov} (h : OvOk n ov) : opd (den n ov) = opdO ov := by
 funext o
 cases o with
 | tmp t =>
  show (den n ov).getD t .junk = qJ t ov
  rw [List.getD_eq_getElem?_getD, z1 h]
  split
  ·rfl
  ·rename_i ht; exact (qaO h ht).symm
 | _ => rfl
def putO (n : Nat) (ov : Ov) (dst : Option Tmp) (v : AV) : Ov :=
 match dst with
 | some d => cond (Nat.blt d n) ((d, v) :: ov) ov
 | none => ov
theorem qbp {n : Nat} {ov : Ov} (h : OvOk n ov) (dst : Option Tmp) (v : AV) : OvOk n (putO n ov dst v) := by
 cases dst with
 | none => exact h
 | some d =>
  simp only [putO]
  cases hd : Nat.blt d n with
  | false => exact h
  | true =>
   intro p hp
   rw [cond_true] at hp
   rcases List.mem_cons.1 hp with rfl | hp
   ·simpa [qjO] using hd
   ·exact h p hp
theorem qag {n : Nat} {ov : Ov} (dst : Option Tmp) (v : AV) : den n (putO n ov dst v) = put (den n ov) dst v := by
 cases dst with
 | none => rfl
 | some d =>
  simp only [putO, put]
  cases hd : Nat.blt d n with
  | true => rfl
  | false =>
   have hd : ¬ d < n := by rw [← Bool.not_eq_true, qjO] at hd; exact hd
   show den n ov = _
   rw [List.set_eq_of_length_le (by rw [zZ]; exact Nat.le_of_not_lt hd)]
noncomputable def y9 (ops : Array Oper) (ov : Ov) (o : Oper) : Option Bool :=
 match o.guard with
 | none => some true
 | some (j, want) =>
  match (ops[j]?).bind (·.dst) with
  | some d =>
   match qJ d ov with
   | .bool b => some (b == want)
   | .tup [] => some false
   | _ => none
  | none => none
theorem qcl {n : Nat} {ov : Ov} (h : OvOk n ov) (ops : Array Oper) (o : Oper) : vr ops (den n ov) o = y9 ops ov o := by
 unfold vr y9
 cases o.guard with
 | none => rfl
 | some p =>
  obtain ⟨j, want⟩ := p
  simp only
  cases (ops[j]?).bind (·.dst) with
  | none => rfl
  | some d =>
   simp only
   rw [z1 h]
   by_cases hd : d < n
   ·rw [if_pos hd]
    cases qJ d ov <;> try rfl
    rename_i vs; cases vs <;> rfl
   ·rw [if_neg hd, qaO h hd]
noncomputable def qeC (n : Nat) (H : AH) (p v : AV) (k : AH → Option β) : Option β :=
 match p with
 | .ptr id r off =>
  match v.cells with
  | some cs =>
   match H[id]? with
   | some (.rows d sz rs) =>
    match rs[r]? with
    | some row => if cs.length == n && Nat.ble (off + n) row.length then
      gS (row.take off ++ cs ++ row.drop (off + n)) fun row' => gS (rs.set r row') fun rs' => qdf (d && qf 0 cs) fun d' => gS (H.set id (.rows d' sz rs')) k
     else none
    | none => none
   | _ => none
  | none => none
 | .rpt id cs o => (v4 n H (.rpt id cs o) v).bind k
 | _ => none
theorem qhl (n : Nat) (H : AH) (p v : AV) (k : AH → Option β) : qeC n H p v k = (v4 n H p v).bind k := by
 unfold qeC v4
 cases p with
 | ptr id r off =>
  simp only
  cases hv : v.cells with
  | none => simp
  | some cs =>
   simp only
   cases hH : H[id]? with
   | none => simp
   | some b =>
    cases b <;> simp only [Option.bind_none]
    rename_i d sz rs
    cases hr : rs[r]? with
    | none => simp
    | some row =>
     simp only
     split <;> simp [vT, qb5]
 | rpt id cs o => rfl
 | _ => simp
noncomputable def yNew (nid : Option Nat) (H : AH) (b : ABlk) (k : Nat → AH → Option β) : Option β :=
 match nid with
 | none => fNat H.length fun i => gS (H ++ [b]) fun H' => k i H'
 | some i =>
  match H[i]? with
  | some .res => gS (H.set i b) fun H' => k i H'
  | _ => none
theorem qgj (nid : Option Nat) (H : AH) (b : ABlk) (k : Nat → AH → Option β) : yNew nid H b k = (aNew nid H b).bind fun r => k r.1 r.2 := by
 cases nid with
 | none => simp [yNew, aNew, vF, vT]
 | some i =>
  simp only [yNew, aNew]
  cases H[i]? with
  | none => rfl
  | some b => cases b <;> simp [vT]
noncomputable def qhq (cfg : Cfg) (nid : Option Nat) (t : TypeId) (H : AH) (k : AV → AH → Option β) : Option β :=
 match cfg.ty t with
 | some ti => if qG ti.zero then gL gA1 (cfg.fga t ti.zero) fun row => fNat ti.zero.length fun sz => yNew nid H (.rows (bigZ row) sz [row]) fun i H' => k (.ptr i 0 0) H' else none
 | none => none
noncomputable def yBox (nid : Option Nat) (a : AV) (H : AH) (k : AV → AH → Option β) : Option β :=
 match a.cells with
 | some cs => gS cs fun cs => fNat cs.length fun sz => yNew nid H (.rows (bigZ cs) sz [cs]) fun i H' => k (.ptr i 0 0) H'
 | none => none
noncomputable def yOp (cfg : Cfg) (nid : Option Nat) (o : Op) (ty : TypeId) (x : Operand → AV) (H : AH) (k : AV → AH → Option β) : Option β :=
 match o with
 | .move a | .assign a => gW (x a) fun v => k v H
 | .alloc t => qhq cfg nid t H k
 | .box _ a => yBox nid (x a) H k
 | .store t a v =>
  match cfg.sz t with
  | some n => qeC n H (x a) (x v) fun H' => k .junk H'
  | none => none
 | .buildSlice t len parts => (match qbE cfg nid t len (parts.toList.map fun p => (p.1, x p.2)) H with | some r => gA r.1 fun v => gH r.2 fun H' => k v H' | none => none)
 | .convert s d a => (match vR cfg nid s d (x a) H with | some r => gA r.1 fun v => gH r.2 fun H' => k v H' | none => none)
 | .makeSlice t l c => (match xO cfg nid t (x l) (x c) H with | some r => gA r.1 fun v => gH r.2 fun H' => k v H' | none => none)
 | .call c => (match evOp cfg nid (.call c) ty x H with | some r => gA r.1 fun v => gH r.2 fun H' => k v H' | none => none)
 | o => (match xOp cfg nid o ty x H with | some r => gA r.1 fun v => k v r.2 | none => none)
theorem qi5 (cfg : Cfg) (nid : Option Nat) (o : Op) (ty : TypeId) (x : Operand → AV) (H : AH) (k : AV → AH → Option β) : yOp cfg nid o ty x H k = (evOp cfg nid o ty x H).bind fun r => k r.1 r.2 := by
 have em : ∀ (q : Option (AV × AH)), (match q with | some r => gA r.1 fun v => gH r.2 fun H' => k v H' | none => none) = q.bind fun r => k r.1 r.2 := fun q => by cases q <;> simp [yE, qbx]
 have em' : ∀ (q : Option (AV × AH)), (match q with | some r => gA r.1 fun v => k v r.2 | none => none) = q.bind fun r => k r.1 r.2 := fun q => by cases q <;> simp [yE]
 cases o with
 | move a => simp [yOp, evOp, qc9]
 | assign a => simp [yOp, evOp, qc9]
 | alloc t =>
  simp only [yOp, evOp, qhq]
  cases cfg.ty t with
  | none => rfl
  | some ti =>
   simp only
   split
   ·simp only [xm qda, vF, qgj]
    cases aNew nid H (.rows (bigZ (cfg.fga t ti.zero)) ti.zero.length [cfg.fga t ti.zero]) <;> rfl
   ·rfl
 | box t a =>
  simp only [yOp, evOp, yBox]
  cases (x a).cells with
  | none => rfl
  | some cs =>
   simp only [vT, vF, qgj]
   cases aNew nid H (.rows (bigZ cs) cs.length [cs]) <;> rfl
 | store t a v =>
  simp only [yOp, evOp]
  cases cfg.sz t with
  | none => rfl
  | some n =>
   simp only [qhl]
   cases v4 n H (x a) (x v) <;> rfl
 | buildSlice t len parts => simp only [yOp]; rw [em]; rfl
 | convert s d a => simp only [yOp]; rw [em]; rfl
 | makeSlice t l c => simp only [yOp]; rw [em]; rfl
 | call c => simp only [yOp]; rw [em]
 | _ => simp only [yOp]; rw [em', qi7]
mutual
def AV.same : AV → AV → Bool
 | .int a b, .int c d => yg a c && decide (b = d)
 | .bool a, .bool b => a == b
 | .str a, .str b => a == b
 | .agg a, .agg b => xj a b
 | .tup a, .tup b => xj a b
 | .nilS, .nilS => true
 | .sl a, .sl b => qbn a b
 | .em, .em => true
 | .nilP, .nilP => true
 | .nilF, .nilF => true
 | .nilM, .nilM => true
 | .nilI, .nilI => true
 | .junk, .junk => true
 | .fn (.func f) a b, .fn (.func g) c d => qjM f g && (xj a c && xj b d)
 | .cptr a i, .cptr b j => qjM i j && xj a b
 | _, _ => false
def xj : List AV → List AV → Bool
 | [], [] => true
 | a :: l, b :: m => a.same b && xj l m
 | _, _ => false
def qbn : List (List AV) → List (List AV) → Bool
 | [], [] => true
 | a :: l, b :: m => xj a b && qbn l m
 | _, _ => false
end
mutual
theorem AV.same_eq : ∀ {a b : AV}, a.same b = true → a = b
 | .int a b, y, h => by
  cases y <;> simp [AV.same, yg] at h
  rw [h.1, h.2]
 | .bool a, y, h => by cases y <;> simp [AV.same] at h; rw [h]
 | .str a, y, h => by cases y <;> simp [AV.same] at h; rw [h]
 | .agg a, y, h => by cases y <;> simp [AV.same] at h; rw [xp h]
 | .tup a, y, h => by cases y <;> simp [AV.same] at h; rw [xp h]
 | .nilS, y, h => by cases y <;> simp [AV.same] at h; rfl
 | .sl a, y, h => by cases y <;> simp [AV.same] at h; rw [qeL h]
 | .em, y, h => by cases y <;> simp [AV.same] at h; rfl
 | .nilP, y, h => by cases y <;> simp [AV.same] at h; rfl
 | .nilF, y, h => by cases y <;> simp [AV.same] at h; rfl
 | .nilM, y, h => by cases y <;> simp [AV.same] at h; rfl
 | .nilI, y, h => by cases y <;> simp [AV.same] at h; rfl
 | .junk, y, h => by cases y <;> simp [AV.same] at h; rfl
 | .fn f a b, y, h => by
  cases f <;> cases y <;> first | (rename_i g c d; cases g <;> simp [AV.same] at h; rw [h.1, xp h.2.1, xp h.2.2]) | simp [AV.same] at h
 | .cptr a i, y, h => by
  cases y <;> simp [AV.same] at h
  rw [h.1, xp h.2]
 | .ms _ _ _, y, h => by cases y <;> simp [AV.same] at h
 | .ptr _ _ _, y, h => by cases y <;> simp [AV.same] at h
 | .yld _, y, h => by cases y <;> simp [AV.same] at h
 | .mp _, y, h => by cases y <;> simp [AV.same] at h
 | .ifc _ _, y, h => by cases y <;> simp [AV.same] at h
theorem xp : ∀ {a b : List AV}, xj a b = true → a = b
 | [], [], _ => rfl
 | a :: l, b :: m, h => by
  simp only [xj, qjy] at h
  rw [AV.same_eq h.1, xp h.2]
 | [], _ :: _, h => by simp [xj] at h
 | _ :: _, [], h => by simp [xj] at h
theorem qeL : ∀ {a b : List (List AV)}, qbn a b = true → a = b
 | [], [], _ => rfl
 | a :: l, b :: m, h => by
  simp only [qbn, qjy] at h
  rw [xp h.1, qeL h.2]
 | [], _ :: _, h => by simp [qbn] at h
 | _ :: _, [], h => by simp [qbn] at h
end
structure Fact where
 frz : Bool
 f : Nat
 args : List AV
 v : AV
def Fact.Ok (cfg : Cfg) (e : Fact) : Prop := (if e.frz then EVf (EV cfg) e.f e.args else EVs (EV cfg) e.f e.args) = some e.v
def qA (cfg : Cfg) : List Fact → Prop
 | [] => True
 | e :: l => e.Ok cfg ∧ qA cfg l
theorem qA.nil {cfg : Cfg} : qA cfg [] := trivial
theorem qA.consS {cfg : Cfg} {f : Nat} {args : List AV} {v : AV} {l : List Fact} (h : EVs (EV cfg) f args = some v) (t : qA cfg l) : qA cfg (⟨false, f, args, v⟩ :: l) := ⟨h, t⟩
theorem qA.consF {cfg : Cfg} {f : Nat} {args : List AV} {v : AV} {l : List Fact} (h : EVf (EV cfg) f args = some v) (t : qA cfg l) : qA cfg (⟨true, f, args, v⟩ :: l) := ⟨h, t⟩
noncomputable def zq (frz : Bool) (f : Nat) (args : List AV) (fs : List Fact) : Option AV :=
 List.rec (motive := fun _ => Option AV) none (fun e _ ih => cond (qjM e.f f && (e.frz == frz && xj e.args args)) (some e.v) ih) fs
theorem zJ {cfg : Cfg} {frz : Bool} {f : Nat} {args : List AV} {v : AV} : ∀ {fs : List Fact}, qA cfg fs → zq frz f args fs = some v → (if frz then EVf (EV cfg) f args else EVs (EV cfg) f args) = some v
 | [], _, h => by cases h
 | e :: l, hok, h => by
  have hd : zq frz f args (e :: l) = cond (qjM e.f f && (e.frz == frz && xj e.args args)) (some e.v) (zq frz f args l) := rfl
  rw [hd] at h
  cases hc : (qjM e.f f && (e.frz == frz && xj e.args args)) with
  | true =>
   rw [hc] at h
   simp only [qjy, beq_iff_eq] at hc
   cases h
   have := hok.1
   unfold Fact.Ok at this
   rw [← qjA hc.1, ← hc.2.1, ← xp hc.2.2]
   exact this
  | false =>
   rw [hc] at h
   exact zJ hok.2 h
noncomputable def qcj (cfg : Cfg) (cf : Orac) (nid : Option Nat) (t : Tgt) (args : List AV) (H : AH) (k : AV → AH → Option β) : Option β :=
 match qn cfg cf nid t args H with
 | some r => gA r.1 fun v => gH r.2 fun H' => k v H'
 | none => none
noncomputable def qho (_cfg : Cfg) (cf : Orac) (fs : List Fact) (f : Nat) (al : List AV) (k : AV → Option β) : Option β :=
 cond (qf 0 al)
  (match zq false f al fs with
  | some v => cond v.scalar (k v) none
  | none => (match cf (.f f) al [] with | some r => gA r.1 fun v => cond v.scalar (k v) none | none => none)) none
noncomputable def qhp (_cfg : Cfg) (cf : Orac) (fs : List Fact) (f : Nat) (al : List AV) (k : AV → Option β) : Option β :=
 cond (qf 0 al)
  (match zq true f al fs with
  | some v => cond (v.refsLt 0) (k v) none
  | none => (match cf (.f f) al [] with | some r => gA (r.1.frz r.1.msIds r.2).fg fun v => cond (v.refsLt 0) (k v) none | none => none)) none
noncomputable def qeD (cfg : Cfg) (cf : Orac) (fs : List Fact) (nid : Option Nat) (t : Tgt) (args : List AV) (H : AH) (k : AV → AH → Option β) : Option β :=
 match t with
 | .y id => qcj cfg cf nid (.y id) args H k
 | .f f =>
  match cfg.mode f with
  | .scal => gL gA (args.map fun a => (a.snap H).fg) fun al => qho cfg cf fs f al fun v => k v H
  | .pfrz => gL gA (args.map AV.fg) fun al => qhp cfg cf fs f al fun v => k v H
  | _ => qcj cfg cf nid (.f f) args H k
noncomputable def qhn (cfg : Cfg) (cf : Orac) (fs : List Fact) (nid : Option Nat) (f : AV) (args : List AV) (H : AH) (k : AV → AH → Option β) : Option β :=
 match vS f args with
 | some t => qeD cfg cf fs nid t.1 t.2 H k
 | none => none
def Le (cf cf' : Orac) : Prop := ∀ t a H r, cf t a H = some r → cf' t a H = some r
theorem qfE {cfg : Cfg} {cf : Orac} (hcf : Le cf (EV cfg)) {fs : List Fact} (hfs : qA cfg fs) {nid : Option Nat} {t : Tgt} {args : List AV} {H : AH} {k : AV → AH → Option β} {r : β}
  (h : qeD cfg cf fs nid t args H k = some r) : ∃ q, qn cfg (EV cfg) nid t args H = some q ∧ k q.1 q.2 = some r := by
 have hev : Ev (fun _ => EV cfg) cf := fun t a H r h => ⟨0, fun _ _ => hcf t a H r h⟩
 have gen : ∀ (t : Tgt), qcj cfg cf nid t args H k = some r → ∃ q, qn cfg (EV cfg) nid t args H = some q ∧ k q.1 q.2 = some r := by
  intro t h
  unfold qcj at h
  split at h
  ·rename_i q hq
   rw [yE, qbx] at h
   obtain ⟨n, hn⟩ := qfr hev cfg nid t args H q hq
   exact ⟨q, hn n (qjB _), h⟩
  ·cases h
 cases t with
 | y id => exact gen _ h
 | f f =>
  simp only [qeD] at h
  cases hm : cfg.mode f with
  | scal =>
   simp only [hm, xm yE] at h
   unfold qho at h
   obtain ⟨h1, h⟩ := qa h
   simp only [qn, hm, h1, if_true]
   split at h
   ·rename_i v hv
    obtain ⟨h2, h⟩ := qa h
    have := zJ hfs hv
    simp only [qjD, if_false] at this
    unfold EVs at this
    obtain ⟨q, hq, rfl⟩ := qjx.1 this
    rw [hq]
    exact ⟨(q.1, H), by simp only [qjG, h2, if_true], h⟩
   ·split at h
    ·rename_i q hq
     rw [yE] at h
     obtain ⟨h2, h⟩ := qa h
     rw [hcf _ _ _ _ hq]
     exact ⟨(q.1, H), by simp only [qjG, h2, if_true], h⟩
    ·cases h
  | pfrz =>
   simp only [hm, xm yE] at h
   unfold qhp at h
   obtain ⟨h1, h⟩ := qa h
   simp only [qn, hm, h1, if_true]
   split at h
   ·rename_i v hv
    obtain ⟨h2, h⟩ := qa h
    have := zJ hfs hv
    simp only [if_true] at this
    unfold EVf at this
    obtain ⟨q, hq, rfl⟩ := qjx.1 this
    rw [hq]
    exact ⟨((q.1.frz q.1.msIds q.2).fg, H), by simp only [qjG, h2, if_true], h⟩
   ·split at h
    ·rename_i q hq
     rw [yE] at h
     obtain ⟨h2, h⟩ := qa h
     rw [hcf _ _ _ _ hq]
     exact ⟨((q.1.frz q.1.msIds q.2).fg, H), by simp only [qjG, h2, if_true], h⟩
    ·cases h
  | _ => simp only [hm] at h; exact gen _ h
noncomputable def zd (cfg : Cfg) (cf : Orac) (fs : List Fact) (nid : Option Nat) (o : Op) (ty : TypeId) (x : Operand → AV) (H : AH) (k : AV → AH → Option β) : Option β :=
 match o with
 | .call c =>
  (match c.callee with
  | .value f => gL gW (c.args.toList.map x) fun args => qhn cfg cf fs nid (x f) args H k
  | _ => yOp cfg nid (.call c) ty x H k)
 | o => yOp cfg nid o ty x H k
noncomputable def qem (cfg : Cfg) (cf : Orac) (fs : List Fact) (frz : Bool) (nid : Option Nat) (o : Oper) (x : Operand → AV) (H : AH) (k : AV → AH → Option β) : Option β :=
 match frz with
 | false => zd cfg cf fs nid o.op o.type x H k
 | true => gS (o.op.operands.toList.flatMap fun a => (x a).msIds) fun ids => gH (qk ids H) fun H' => zd cfg cf fs nid o.op o.type (fun a => (x a).frz ids H) H' k
theorem qbD {cfg : Cfg} {cf : Orac} (hcf : Le cf (EV cfg)) {fs : List Fact} (hfs : qA cfg fs) {nid : Option Nat} {o : Oper} {x : Operand → AV} {H : AH} {k : AV → AH → Option β} {r : β}
  (h : zd cfg cf fs nid o.op o.type x H k = some r) : ∃ q, qu cfg (EV cfg) false nid o x H = some q ∧ k q.1 q.2 = some r := by
 obtain ⟨dst, op, ty, pos, after, guard⟩ := o
 unfold qu
 simp only [qjD, if_false] at h ⊢
 have plain : ∀ (op : Op), yOp cfg nid op ty x H k = some r → ∃ q, evOp cfg nid op ty x H = some q ∧ k q.1 q.2 = some r := by
  intro op h
  rw [qi5] at h
  exact qjw.1 h
 cases op with
 | call c =>
  obtain ⟨callee, args, argTypes⟩ := c
  cases callee with
  | value f =>
   simp only [zd, xm qc9] at h ⊢
   unfold qhn at h
   split at h
   ·rename_i t ht
    rw [ht]
    exact qfE hcf hfs h
   ·cases h
  | builtin b => simp only [zd] at h ⊢; exact plain _ h
  | invoke rv nm => simp only [zd] at h ⊢; exact plain _ h
 | _ => simp only [zd] at h ⊢; exact plain _ h
theorem qce {cfg : Cfg} {cf : Orac} (hcf : Le cf (EV cfg)) {fs : List Fact} (hfs : qA cfg fs) {frz : Bool} {nid : Option Nat} {o : Oper} {x : Operand → AV} {H : AH} {k : AV → AH → Option β} {r : β}
  (h : qem cfg cf fs frz nid o x H k = some r) : ∃ q, qu cfg (EV cfg) frz nid o x H = some q ∧ k q.1 q.2 = some r := by
 cases frz with
 | false => exact qbD hcf hfs h
 | true =>
  simp only [qem, vT, qbx] at h
  obtain ⟨q, h1, h2⟩ := qbD hcf hfs h
  refine ⟨q, ?_, h2⟩
  unfold qu at h1 ⊢
  simpa using h1
noncomputable def yOps (cfg : Cfg) (cf : Orac) (fs : List Fact) (f rid : Nat) (ops : Array Oper) (n : Nat) : Nat → List Oper → Ov → AH → (Ov → AH → Option β) → Option β
 | _, [], ov, H, K => K ov H
 | i, o :: rest, ov, H, K =>
  match y9 ops ov o with
  | none => none
  | some b =>
   cond b (qem cfg cf fs (cfg.frz f rid i) none o (opdO ov) H fun v H' => yOps cfg cf fs f rid ops n (i + 1) rest (putO n ov o.dst v) H' K)
    (yOps cfg cf fs f rid ops n (i + 1) rest (putO n ov o.dst (.tup [])) H K)
theorem qaD {cfg : Cfg} {cf : Orac} (hcf : Le cf (EV cfg)) {fs : List Fact} (hfs : qA cfg fs) {f rid n : Nat} {ops : Array Oper} {r : β} : ∀ {l : List Oper} {i : Nat} {ov : Ov} {H : AH} {K : Ov → AH → Option β}, OvOk n ov → yOps cfg cf fs f rid ops n i l ov H K = some r →
  ∃ ov' H', OvOk n ov' ∧ xU cfg (EV cfg) f rid ops i l (den n ov) H = some (den n ov', H') ∧ K ov' H' = some r
 | [], i, ov, H, K, hok, h => ⟨ov, H, hok, rfl, h⟩
 | o :: l, i, ov, H, K, hok, h => by
  rw [yOps] at h
  rw [xU, qcl hok]
  cases hw : y9 ops ov o with
  | none => rw [hw] at h; cases h
  | some b =>
   rw [hw] at h
   simp only [qjG]
   cases b with
   | true =>
    simp only [cond_true] at h
    obtain ⟨q, h1, h2⟩ := qce hcf hfs h
    simp only [if_true, zU hok, h1, qjG]
    obtain ⟨ov', H', h3, h4, h5⟩ := qaD hcf hfs (qbp hok _ _) h2
    rw [qag] at h4
    exact ⟨ov', H', h3, h4, h5⟩
   | false =>
    simp only [cond_false] at h
    simp only [qjD, if_false]
    obtain ⟨ov', H', h3, h4, h5⟩ := qaD hcf hfs (qbp hok _ _) h
    rw [qag] at h4
    exact ⟨ov', H', h3, h4, h5⟩
noncomputable def qci (cfg : Cfg) (cf : Orac) (fs : List Fact) (f rid : Nat) (ops : Array Oper) (n : Nat) : Nat → Nat → List Oper → Ov → AH → (List DR → Ov → AH → Option β) → Option β
 | _, _, [], ov, H, K => K [] ov H
 | i, at_, o :: rest, ov, H, K =>
  match y9 ops ov o with
  | none => none
  | some b =>
   fNat (at_ + zn cfg o) fun at' =>
   cond b (qem cfg cf fs (cfg.frz f rid i) (some at_) o (opdO ov) H fun v H' => qci cfg cf fs f rid ops n (i + 1) at' rest (putO n ov o.dst v) H' fun fps ov' H'' => K (drOf cfg (cfg.frz f rid i) at_ o (opdO ov) H v H' :: fps) ov' H'')
    (qci cfg cf fs f rid ops n (i + 1) at' rest (putO n ov o.dst (.tup [])) H fun fps ov' H'' => K (drNo H :: fps) ov' H'')
theorem qaa {cfg : Cfg} {cf : Orac} (hcf : Le cf (EV cfg)) {fs : List Fact} (hfs : qA cfg fs) {f rid n : Nat} {ops : Array Oper} {r : β} : ∀ {l : List Oper} {i at_ : Nat} {ov : Ov} {H : AH} {K : List DR → Ov → AH → Option β}, OvOk n ov → qci cfg cf fs f rid ops n i at_ l ov H K = some r →
  ∃ fps ov' H', OvOk n ov' ∧ vK cfg (EV cfg) f rid ops i at_ l (den n ov) H = some (fps, den n ov', H') ∧ K fps ov' H' = some r
 | [], i, at_, ov, H, K, hok, h => ⟨[], ov, H, hok, rfl, h⟩
 | o :: l, i, at_, ov, H, K, hok, h => by
  rw [qci] at h
  rw [vK, qcl hok]
  cases hw : y9 ops ov o with
  | none => rw [hw] at h; cases h
  | some b =>
   rw [hw] at h
   simp only [qjG]
   simp only [vF] at h
   cases b with
   | true =>
    simp only [cond_true] at h
    obtain ⟨q, h1, h2⟩ := qce hcf hfs h
    simp only [if_true, zU hok, h1, qjG]
    obtain ⟨fps, ov', H', h3, h4, h5⟩ := qaa hcf hfs (qbp hok _ _) h2
    rw [qag] at h4
    exact ⟨_, ov', H', h3, by rw [h4]; rfl, h5⟩
   | false =>
    simp only [cond_false] at h
    simp only [qjD, if_false]
    obtain ⟨fps, ov', H', h3, h4, h5⟩ := qaa hcf hfs (qbp hok _ _) h
    rw [qag] at h4
    exact ⟨_, ov', H', h3, by rw [h4]; rfl, h5⟩
def yL : Nat → List Nat → Bool
 | _, [] => true
 | i, k :: ks => Nat.ble i k && yL (k + 1) ks
noncomputable def qeq (ks : List Nat) (ov : Ov) : (Ov → α) → α :=
 List.rec (motive := fun _ => (Ov → α) → α) (fun K => K []) (fun t _ ih K => gW (qJ t ov) fun v => ih fun l => K ((t, v) :: l)) ks
theorem qik (ks : List Nat) (ov : Ov) : ∀ (K : Ov → α), qeq ks ov K = K (ks.map fun t => (t, qJ t ov)) := by
 induction ks with
 | nil => intro K; rfl
 | cons t l ih =>
  intro K
  have : qeq (t :: l) ov K = gW (qJ t ov) fun v => qeq l ov fun l => K ((t, v) :: l) := rfl
  rw [this, qc9, ih, List.map_cons]
theorem yZ : ∀ (ks : List Nat) (fr : List AV) (i t : Nat), yL i ks = true → (qT i ks fr)[t]? = if t < fr.length then some (if i + t ∈ ks then (fr[t]?).getD .junk else .junk) else none
 | ks, [], i, t, _ => by cases ks <;> simp [qT]
 | [], a :: fr, i, t, h => by
  rw [qT]
  cases t with
  | zero => simp
  | succ t =>
   simp only [List.getElem?_cons_succ]
   rw [yZ [] fr i t rfl]
   simp
 | k :: ks, a :: fr, i, t, h => by
  rw [yL, qjy, Nat.ble_eq] at h
  rw [qT]
  have hge : ∀ (l : List Nat) (j : Nat), yL j l = true → ∀ x ∈ l, j ≤ x := by
   intro l
   induction l with
   | nil => intro j _ x hx; cases hx
   | cons y l ih =>
    intro j hj x hx
    rw [yL, qjy, Nat.ble_eq] at hj
    rcases List.mem_cons.1 hx with rfl | hx
    ·exact hj.1
    ·have := ih _ hj.2 x hx; omega
  split
  ·rename_i e
   have e := qjA e
   subst e
   cases t with
   | zero => simp
   | succ t =>
    simp only [List.getElem?_cons_succ]
    rw [yZ ks fr (i + 1) t h.2]
    have e1 : i + (t + 1) = i + 1 + t := by omega
    have e2 : ¬ i + 1 + t = i := by omega
    simp only [List.length_cons, Nat.add_lt_add_iff_right, e1, List.mem_cons, e2, false_or]
  ·rename_i e
   have hne : i ≠ k := fun h' => e (by rw [h']; exact Nat.beq_refl _)
   cases t with
   | zero =>
    have : i ∉ k :: ks := by
     intro hm
     rcases List.mem_cons.1 hm with rfl | hm
     ·exact hne rfl
     ·have := hge _ _ h.2 i hm; omega
    simp [this]
   | succ t =>
    simp only [List.getElem?_cons_succ]
    rw [yZ (k :: ks) fr (i + 1) t (by rw [yL, qjy, Nat.ble_eq]; exact ⟨by omega, h.2⟩)]
    have e1 : i + (t + 1) = i + 1 + t := by omega
    simp only [List.length_cons, Nat.add_lt_add_iff_right, e1]
theorem qhF (ks : List Nat) (g : Nat → AV) (t : Nat) : qJ t (ks.map fun t => (t, g t)) = if t ∈ ks then g t else .junk := by
 induction ks with
 | nil => rfl
 | cons k l ih =>
  rw [List.map_cons, yd, ih]
  by_cases e : k = t
  ·subst e; simp
  ·have h1 : qjM k t = false := by rw [← Bool.not_eq_true]; intro h'; exact e (qjA h')
   have h2 : ¬ t = k := fun h => e h.symm
   rw [h1, cond_false]
   simp only [List.mem_cons, h2, false_or]
noncomputable def qcf (n : Nat) (ts : Option (List Nat)) (ov : Ov) (K : Ov → Option β) : Option β :=
 match ts with
 | none => K ov
 | some ks => cond (yL 0 ks && ks.all fun t => Nat.blt t n) (qeq ks ov K) none
theorem z9 {n : Nat} {ts : Option (List Nat)} {ov : Ov} {K : Ov → Option β} {r : β} (hok : OvOk n ov) (h : qcf n ts ov K = some r) : ∃ ov', OvOk n ov' ∧ qB ts (den n ov) = den n ov' ∧ K ov' = some r := by
 cases ts with
 | none => exact ⟨ov, hok, rfl, h⟩
 | some ks =>
  simp only [qcf, qik] at h
  cases hc : (yL 0 ks && ks.all fun t => Nat.blt t n) with
  | false => rw [hc] at h; cases h
  | true =>
   rw [hc] at h
   rw [qjy, List.all_eq_true] at hc
   have hok' : OvOk n (ks.map fun t => (t, qJ t ov)) := by
    intro p hp
    obtain ⟨t, ht, rfl⟩ := List.mem_map.1 hp
    have := hc.2 t ht
    simpa [qjO] using this
   refine ⟨_, hok', (qdN hok' ?_ fun t ht => ?_).symm, h⟩
   ·show (qT 0 ks (den n ov)).length = n
    rw [(yh (ts := ks) (fr := den n ov) (k := 0)).1, zZ]
   ·show (qT 0 ks (den n ov))[t]? = _
    rw [yZ _ _ _ _ hc.1, zZ, if_pos ht, Nat.zero_add, qhF, z1 hok, if_pos ht]
    rfl
noncomputable def yV (n : Nat) : List (Tmp × Nat) → Ov → AH → (Ov → AH → Option β) → Option β
 | [], ov, H, K => K ov H
 | p :: l, ov, H, K =>
  match qJ p.1 ov with
  | .nilS => fNat H.length fun i => cond (Nat.blt p.1 n) (gS (H ++ [.rows true p.2 []]) fun H' => yV n l ((p.1, .ms i 0 0) :: ov) H' K) none
  | .ptr _ _ _ => (match xk p.1 p.2 (den n ov) H with | q => gH q.2 fun H' => yV n l ov H' K)
  | _ => yV n l ov H K
theorem qhK {t sz : Nat} {fr : List AV} {H : AH} {id r off : Nat} (h : fr[t]? = some (.ptr id r off)) : (xk t sz fr H).1 = fr := by
 unfold xk
 rw [h]
 simp only
 split
 ·split
  ·split <;> rfl
  ·rfl
 ·rfl
theorem xC {n : Nat} {r : β} : ∀ {ls : List (Tmp × Nat)} {ov : Ov} {H : AH} {K : Ov → AH → Option β}, OvOk n ov → yV n ls ov H K = some r → ∃ ov' H', OvOk n ov' ∧ qw ls (den n ov) H = (den n ov', H') ∧ K ov' H' = some r
 | [], ov, H, K, hok, h => ⟨ov, H, hok, rfl, h⟩
 | p :: l, ov, H, K, hok, h => by
  rw [yV] at h
  rw [qw]
  have hget : (den n ov)[p.1]? = if p.1 < n then some (qJ p.1 ov) else none := z1 hok p.1
  split at h
  ·rename_i hv
   simp only [vF] at h
   cases hb : Nat.blt p.1 n with
   | false => rw [hb] at h; cases h
   | true =>
    rw [hb] at h
    simp only [cond_true, vT] at h
    have hlt : p.1 < n := by simpa [qjO] using hb
    have hl1 : xk p.1 p.2 (den n ov) H = (den n ((p.1, .ms H.length 0 0) :: ov), H ++ [.rows true p.2 []]) := by
     unfold xk
     rw [hget, if_pos hlt, hv]; rfl
    rw [hl1]
    exact xC (fun q hq => (List.mem_cons.1 hq).elim (fun e => by subst e; exact hlt) (hok q)) h
  ·rename_i id r' off hv
   simp only [qbx] at h
   by_cases hlt : p.1 < n
   ·rw [qhK (by rw [hget, if_pos hlt, hv])]
    exact xC hok h
   ·rw [qaO hok hlt] at hv; cases hv
  ·rename_i h1 h2
   have hl1 : xk p.1 p.2 (den n ov) H = (den n ov, H) := by
    unfold xk
    rw [hget]
    by_cases hlt : p.1 < n
    ·rw [if_pos hlt]
     split
     ·rename_i e; exact absurd (Option.some.inj e) h1
     ·rename_i a b c e; exact absurd (Option.some.inj e) (h2 a b c)
     ·rfl
    ·rw [if_neg hlt]
   rw [hl1]
   exact xC hok h
def spGo : Nat → List AV → Ov
 | _, [] => []
 | i, .junk :: l => spGo (i + 1) l
 | i, v :: l => (i, v) :: spGo (i + 1) l
theorem qeJ : ∀ (l : List AV) (i t : Nat), qJ t (spGo i l) = if i ≤ t then (l[t - i]?).getD .junk else .junk
 | [], i, t => by simp [spGo, qaN]
 | a :: l, i, t => by
  have ih := qeJ l (i + 1) t
  have key : ∀ (ov : Ov), ov = (i, a) :: spGo (i + 1) l → qJ t ov = if i ≤ t then ((a :: l)[t - i]?).getD .junk else .junk := by
   intro ov e
   rw [e, yd, ih]
   by_cases e2 : i = t
   ·subst e2; simp
   ·have h1 : qjM i t = false := by rw [← Bool.not_eq_true]; intro h'; exact e2 (qjA h')
    simp only [h1, cond_false]
    by_cases h3 : i + 1 ≤ t
    ·have h4 : t - i = (t - (i + 1)) + 1 := by omega
     rw [if_pos h3, if_pos (by omega), h4, List.getElem?_cons_succ]
    ·rw [if_neg h3, if_neg (by omega)]
  cases a with
  | junk =>
   show qJ t (spGo (i + 1) l) = _
   rw [ih]
   by_cases h3 : i + 1 ≤ t
   ·have h4 : t - i = (t - (i + 1)) + 1 := by omega
    rw [if_pos h3, if_pos (by omega), h4, List.getElem?_cons_succ]
   ·rw [if_neg h3]
    by_cases e2 : i = t
    ·subst e2; simp
    ·rw [if_neg (by omega)]
  | _ => exact key _ rfl
theorem zQ : ∀ (l : List AV) (i n : Nat), i + l.length ≤ n → OvOk n (spGo i l)
 | [], i, n, _ => fun p hp => by cases hp
 | a :: l, i, n, h => by
  simp only [List.length_cons] at h
  have ih := zQ l (i + 1) n (by omega)
  have key : OvOk n ((i, a) :: spGo (i + 1) l) := fun p hp => by
   rcases List.mem_cons.1 hp with rfl | hp
   ·show i < n; omega
   ·exact ih p hp
  cases a <;> first | exact key | exact ih
theorem qfq (l : List AV) : den l.length (spGo 0 l) = l := by
 have hok := zQ l 0 l.length (by omega)
 refine qdN hok rfl fun t ht => ?_
 rw [qeJ, if_pos (Nat.zero_le _), Nat.sub_zero, qjz ht]; rfl
noncomputable def yGc (n k : Nat) (ov : Ov) (H : AH) (K : Ov → AH → Option β) : Option β :=
 cond (Nat.ble H.length k) (K ov H) (match yn k (den n ov) H with | q => gS (spGo 0 q.1) fun ov' => gL gP ov' fun ov' => gH q.2 fun H' => K ov' H')
theorem qig (ρ : Nat → Nat) (l : List AV) : (renL ρ l).length = l.length := by rw [vL]; simp
theorem qhV (k : Nat) (fr : List AV) (H : AH) : (yn k fr H).1.length = fr.length := by
 unfold yn
 simp only
 cases q7 H (qY k H (2 * H.length + 16) [] (ql k fr ++ q6 k (H.take k))) with
 | none => rfl
 | some bs =>
  simp only
  split
  ·exact qig _ _
  ·rfl
theorem qh7 {n k : Nat} {ov : Ov} {H : AH} {K : Ov → AH → Option β} {r : β} (hok : OvOk n ov) (h : yGc n k ov H K = some r) : ∃ ov' H', OvOk n ov' ∧ gc k (den n ov) H = (den n ov', H') ∧ K ov' H' = some r := by
 unfold yGc at h
 unfold gc
 cases hb : Nat.ble H.length k with
 | true => rw [hb] at h; exact ⟨ov, H, hok, by simp, h⟩
 | false =>
  rw [hb] at h
  simp only [cond_false] at h
  rw [vT, xm qiJ, qbx] at h
  have hl : (yn k (den n ov) H).1.length = n := by rw [qhV, zZ]
  have := qfq (yn k (den n ov) H).1
  rw [hl] at this
  refine ⟨_, _, ?_, ?_, h⟩
  ·exact zQ _ _ _ (by omega)
  ·simp only [qjD, if_false, this]
noncomputable def qgt (n k : Nat) (ts : Option (List Tmp)) (ls : List (Tmp × Nat)) (ov : Ov) (H : AH) (K : Ov → AH → Option β) : Option β :=
 qcf n ts ov fun ov => yV n ls ov H fun ov H => yGc n k ov H K
theorem qch {n k : Nat} {ts : Option (List Tmp)} {ls : List (Tmp × Nat)} {ov : Ov} {H : AH} {K : Ov → AH → Option β} {r : β} (hok : OvOk n ov) (h : qgt n k ts ls ov H K = some r) :
  ∃ ov' H', OvOk n ov' ∧ xy k ts ls (den n ov) H = (den n ov', H') ∧ K ov' H' = some r := by
 obtain ⟨ov1, h1, h2, h⟩ := z9 hok h
 obtain ⟨ov2, H2, h3, h4, h⟩ := xC h1 h
 obtain ⟨ov3, H3, h5, h6, h⟩ := qh7 h3 h
 refine ⟨ov3, H3, h5, ?_, h⟩
 unfold xy
 rw [h2, h4]
 exact h6
abbrev YE (β : Type) := Ex → Ov → AH → Option β
noncomputable def qen (n k : Nat) (ts : Option (List Tmp)) (ls : List (Tmp × Nat)) (body : Ov → AH → YE β → Option β) : Nat → Ov → AH → YE β → Option β
 | 0, _, _, _ => none
 | m + 1, ov, H, K => body ov H fun e ov' H' =>
  match e with
  | .normal => qgt n k ts ls ov' H' fun ov2 H2 => qen n k ts ls body m ov2 H2 K
  | e => K e ov' H'
noncomputable def qhm (cfg : Cfg) (cf : Orac) (f : Nat) (rd : Option Nat) (n bs : Nat) (g : Operand) (ps : Array Tmp) (assign body : Code) (ov : Ov) (H : AH) (K : YE β) : Option β :=
 gL gW (den n ov) fun fr =>
 match x8 cfg cf f rd bs g ps assign body fr H with
 | none => none
 | some q => gS (spGo 0 q.2.1) fun ov' => gL gP ov' fun ov' => gH q.2.2 fun H' => cond (qjM q.2.1.length n) (K q.1 ov' H') none
noncomputable def yC (cfg : Cfg) (cf : Orac) (fs : List Fact) (m f : Nat) (rd : Option Nat) (n bs : Nat) : Code → Ov → AH → YE β → Option β
 | .skip, ov, H, K => K .normal ov H
 | .label _, ov, H, K => K .normal ov H
 | .region id ops draw, ov, H, K =>
  match draw with
  | true => cond (zs ops) (gS (H ++ qjL (places cfg ops.toList) .res) fun H1 => qci cfg cf fs f id ops n 0 H.length ops.toList ov H1 fun fps ov' H' => cond (zY (ancs [] ops.toList) H1 fps) (K .normal ov' H') none) none
  | false => yOps cfg cf fs f id ops n 0 ops.toList ov H fun ov' H' => K .normal ov' H'
 | .seq a b, ov, H, K => yC cfg cf fs m f rd n bs a ov H fun e ov' H' =>
  match e with
  | .normal => qcf n (cfg.cut f (qg b)) ov' fun ov2 => yC cfg cf fs m f rd n bs b ov2 H' K
  | e => K e ov' H'
 | .cond c a b, ov, H, K =>
  match opdO ov c with
  | .bool t => (match t with | true => yC cfg cf fs m f rd n bs a ov H K | false => yC cfg cf fs m f rd n bs b ov H K)
  | _ => none
 | .block id a, ov, H, K => yC cfg cf fs m f rd n bs a ov H fun e ov' H' =>
  match e with
  | .exit id' => cond (qjM id' id) (K .normal ov' H') (K (.exit id') ov' H')
  | e => K e ov' H'
 | .loop a, ov, H, K => qgt n bs (cfg.keepIn f (qg a)) (cfg.lift f (qg a)) ov H fun ov H =>
   qen n bs (cfg.keepIn f (qg a)) (cfg.lift f (qg a)) (yC cfg cf fs m f rd n bs a) m ov H fun e ov H => qcf n (cfg.keepOut f (qg a)) ov fun ov => K e ov H
 | .scope a, ov, H, K => yC cfg cf fs m f rd n bs a ov H fun e ov' H' =>
  match e with
  | .goto _ => none
  | e => K e ov' H'
 | .exit id, ov, H, K => K (.exit id) ov H
 | .goto _, _, _, _ => none
 | .ret, ov, H, K => K .ret ov H
 | .rangeFunc g ps assign body, ov, H, K => yV n (cfg.lift f (qg body)) ov H fun ov H => qhm cfg cf f rd n bs g ps assign body ov H K
 | .refuse _, _, _, _ => none
theorem qcg {n k : Nat} {ts : Option (List Tmp)} {ls : List (Tmp × Nat)} {body : Ov → AH → YE β → Option β} {den' : Den} {r : β}
  (hb : ∀ {ov H K}, OvOk n ov → body ov H K = some r → ∃ e ov' H', OvOk n ov' ∧ den' (den n ov) H = some (e, den n ov', H') ∧ K e ov' H' = some r) :
  ∀ (m : Nat) {ov : Ov} {H : AH} {K : YE β}, OvOk n ov → qen n k ts ls body m ov H K = some r → ∃ e ov' H', OvOk n ov' ∧ v5 k ts ls den' m (den n ov, H) = some (e, den n ov', H') ∧ K e ov' H' = some r
 | 0, ov, H, K, _, h => by cases h
 | m + 1, ov, H, K, hok, h => by
  rw [qen] at h
  obtain ⟨e, ov1, H1, h1, h2, h3⟩ := hb hok h
  rw [v5]
  simp only [h2, qjG]
  cases e with
  | normal =>
   simp only at h3 ⊢
   obtain ⟨ov2, H2, h4, h5, h6⟩ := qch h1 h3
   rw [h5]
   exact qcg hb m h4 h6
  | exit id => exact ⟨_, ov1, H1, h1, rfl, h3⟩
  | goto l => exact ⟨_, ov1, H1, h1, rfl, h3⟩
  | ret => exact ⟨_, ov1, H1, h1, rfl, h3⟩
theorem qdz {cfg : Cfg} {cf : Orac} (hcf : Le cf (EV cfg)) {fs : List Fact} (hfs : qA cfg fs) {m f : Nat} {rd : Option Nat} {n bs : Nat} {r : β} : ∀ (c : Code) {ov : Ov} {H : AH} {K : YE β}, OvOk n ov → yC cfg cf fs m f rd n bs c ov H K = some r →
  ∃ e ov' H', OvOk n ov' ∧ evC cfg (EV cfg) f rd bs c (den n ov) H = some (e, den n ov', H') ∧ K e ov' H' = some r := by
 intro c
 induction c with
 | skip => intro ov H K hok h; exact ⟨_, ov, H, hok, by simp only [evC], h⟩
 | label l => intro ov H K hok h; exact ⟨_, ov, H, hok, by simp only [evC], h⟩
 | exit id => intro ov H K hok h; exact ⟨_, ov, H, hok, by simp only [evC], h⟩
 | ret => intro ov H K hok h; exact ⟨_, ov, H, hok, by simp only [evC], h⟩
 | goto l => intro ov H K hok h; cases h
 | refuse s => intro ov H K hok h; cases h
 | region id ops draw =>
  intro ov H K hok h
  simp only [yC] at h
  simp only [evC]
  cases draw with
  | true =>
   simp only at h
   obtain ⟨h1, h⟩ := qa h
   rw [vT] at h
   obtain ⟨fps, ov', H', h2, h3, h⟩ := qaa hcf hfs hok h
   obtain ⟨h4, h⟩ := qa h
   exact ⟨_, ov', H', h2, by simp only [if_true, h1, h3, qjG, h4], h⟩
  | false =>
   simp only at h
   obtain ⟨ov', H', h2, h3, h⟩ := qaD hcf hfs hok h
   exact ⟨_, ov', H', h2, by simp only [qjD, if_false, h3, qjI], h⟩
 | seq x y ihx ihy =>
  intro ov H K hok h
  simp only [yC] at h
  simp only [evC]
  obtain ⟨e, ov1, H1, h1, h2, h⟩ := ihx hok h
  rw [h2]
  simp only [qjG]
  cases e with
  | normal =>
   simp only at h ⊢
   obtain ⟨ov2, h3, h4, h⟩ := z9 h1 h
   rw [h4]
   exact ihy h3 h
  | exit id => exact ⟨_, ov1, H1, h1, rfl, h⟩
  | goto l => exact ⟨_, ov1, H1, h1, rfl, h⟩
  | ret => exact ⟨_, ov1, H1, h1, rfl, h⟩
 | cond c x y ihx ihy =>
  intro ov H K hok h
  simp only [yC] at h
  simp only [evC, zU hok]
  split at h
  ·rename_i t ht
   rw [ht]
   cases t with
   | true => exact ihx hok h
   | false => exact ihy hok h
  ·cases h
 | block id x ih =>
  intro ov H K hok h
  simp only [yC] at h
  simp only [evC]
  obtain ⟨e, ov1, H1, h1, h2, h⟩ := ih hok h
  rw [h2]
  simp only [qjG]
  cases e with
  | normal => exact ⟨_, ov1, H1, h1, rfl, h⟩
  | exit id' =>
   simp only at h ⊢
   cases hb : qjM id' id with
   | true => rw [hb] at h; exact ⟨_, ov1, H1, h1, by simp, h⟩
   | false => rw [hb] at h; exact ⟨_, ov1, H1, h1, by simp, h⟩
  | goto l => exact ⟨_, ov1, H1, h1, rfl, h⟩
  | ret => exact ⟨_, ov1, H1, h1, rfl, h⟩
 | loop x ih =>
  intro ov H K hok h
  simp only [yC] at h
  simp only [evC]
  obtain ⟨ov1, H1, h1, h2, h⟩ := qch hok h
  rw [h2]
  obtain ⟨e, ov2, H2, h3, h4, h⟩ := qcg (den' := evC cfg (EV cfg) f rd bs x) (fun hok h => ih hok h) m h1 h
  obtain ⟨ov3, h5, h6, h⟩ := z9 h3 h
  rw [qbA h4]
  exact ⟨e, ov3, H2, h5, by simp only [qjI, h6], h⟩
 | scope x ih =>
  intro ov H K hok h
  simp only [yC] at h
  simp only [evC]
  obtain ⟨e, ov1, H1, h1, h2, h⟩ := ih hok h
  rw [h2]
  simp only [qjG]
  cases e with
  | goto l => cases h
  | normal => exact ⟨_, ov1, H1, h1, rfl, h⟩
  | exit id => exact ⟨_, ov1, H1, h1, rfl, h⟩
  | ret => exact ⟨_, ov1, H1, h1, rfl, h⟩
 | rangeFunc g ps assign body =>
  intro ov H K hok h
  simp only [yC] at h
  simp only [evC]
  obtain ⟨ov1, H1, h1, h2, h⟩ := xC hok h
  rw [h2]
  simp only
  unfold qhm at h
  rw [xm qc9] at h
  split at h
  ·cases h
  ·rename_i q hq
   have hq : x8 cfg (EV cfg) f rd bs g ps assign body (den n ov1) H1 = some q := by
    unfold x8 at hq ⊢
    split at hq
    ·rename_i hl
     rw [if_pos hl]
     split at hq
     ·split at hq
      ·cases hq
      ·rename_i hx
       rw [if_neg hx]
       obtain ⟨q2, hq2, hq⟩ := qjw.1 hq
       rw [hcf _ _ _ _ hq2]
       exact hq
     ·cases hq
    ·cases hq
   rw [vT, xm qiJ, qbx] at h
   obtain ⟨hl, h⟩ := qa h
   have hl := qjA hl
   have hd := qfq q.2.1
   rw [hl] at hd
   refine ⟨q.1, _, q.2.2, ?_, ?_, h⟩
   ·exact zQ _ _ _ (by omega)
   ·rw [hq, hd]
noncomputable def resO (rs : List ResultVar) (ty : TypeId → Option TI) (ov : Ov) (H : AH) : Option (List AV) :=
 match rs with
 | [] => some []
 | .tmp t :: l => (resO l ty ov H).map fun vs => qJ t ov :: vs
 | .cell a t :: l =>
  match ty t with
  | some ti => (v9 ti.d.agg ti.sz H (qJ a ov)).bind fun v => (resO l ty ov H).map fun vs => v :: vs
  | none => none
theorem qdD {n : Nat} {ov : Ov} (hok : OvOk n ov) (ty : TypeId → Option TI) (H : AH) : ∀ rs : List ResultVar, qS rs ty (den n ov) H = resO rs ty ov H
 | [] => rfl
 | .tmp t :: l => by
  have : (den n ov).getD t .junk = qJ t ov := congrFun (zU hok) (.tmp t)
  simp only [qS, resO, qdD hok ty H l, this]
 | .cell a t :: l => by
  have : (den n ov).getD a .junk = qJ a ov := congrFun (zU hok) (.tmp a)
  simp only [qS, resO, qdD hok ty H l, this]
  cases ty t <;> rfl
noncomputable def yEnd (cfg : Cfg) (f n : Nat) (rs : List ResultVar) : YE (AV × AH) := fun e ov H =>
 match e with
 | .normal | .ret => yV n (cfg.lift f 0) ov H fun ov H => (match resO rs cfg.ty ov H with | some vs => gA (vX vs) fun v => some (v, H) | none => none)
 | _ => none
def qat : Nat → List AV → Ov
 | _, [] => []
 | i, a :: l => (i, a) :: qat (i + 1) l
theorem qca : ∀ (l : List AV) (i n : Nat), i + l.length ≤ n → OvOk n (qat i l)
 | [], i, n, _ => fun p hp => by cases hp
 | a :: l, i, n, h => by
  simp only [List.length_cons] at h
  intro p hp
  rcases List.mem_cons.1 hp with rfl | hp
  ·show i < n; omega
  ·exact qca l (i + 1) n (by omega) p hp
theorem qea : ∀ (l : List AV) (i t : Nat), qJ t (qat i l) = if i ≤ t then (l[t - i]?).getD .junk else .junk
 | [], i, t => by simp [qat, qaN]
 | a :: l, i, t => by
  rw [qat, yd, qea l (i + 1) t]
  by_cases e2 : i = t
  ·subst e2; simp
  ·have h1 : qjM i t = false := by rw [← Bool.not_eq_true]; intro h'; exact e2 (qjA h')
   simp only [h1, cond_false]
   by_cases h3 : i + 1 ≤ t
   ·have h4 : t - i = (t - (i + 1)) + 1 := by omega
    rw [if_pos h3, if_pos (by omega), h4, List.getElem?_cons_succ]
   ·rw [if_neg h3, if_neg (by omega)]
theorem qix {l : List AV} {n : Nat} (h : l.length ≤ n) : den n (qat 0 l) = l ++ qjL (n - l.length) .junk := by
 refine qdN (qca l 0 n (by omega)) (by simp; omega) fun t ht => ?_
 rw [qea, if_pos (Nat.zero_le _), Nat.sub_zero]
 by_cases hl : t < l.length
 ·rw [qjC hl, qjz hl]; rfl
 ·rw [qjF (by omega), List.getElem?_replicate, if_pos (by omega), List.getElem?_eq_none (by omega)]; rfl
noncomputable def yY2 (id : Nat) : YE (AV × AH) := fun e _ H =>
 match H[id]? with
 | some (.loop f' fr' ps' assign' body' _ _) =>
  match e with
  | .normal => gS (H.set id (.loop f' fr' ps' assign' body' none .ready)) fun H' => some (.bool true, H')
  | .ret => gS (H.set id (.loop f' fr' ps' assign' body' (some .ret) .done)) fun H' => some (.bool false, H')
  | .exit x => gS (H.set id (.loop f' fr' ps' assign' body' (some (.exit x)) .done)) fun H' => some (.bool false, H')
  | .goto _ => none
 | _ => none
noncomputable def yF (cfg : Cfg) (look : Nat → Option Func) (fs : List Fact) (m : Nat) : Nat → Orac
 | 0, _, _, _ => none
 | d + 1, .f f, args, H =>
  match cfg.ext f with
  | some s => s args H
  | none =>
   if cfg.known f then
    match look f with
    | some fn =>
     match fn.body with
     | some c => cond (Nat.ble args.length fn.ntmps) (fNat H.length fun bs => fNat fn.ntmps fun n => gS (qat 0 args) fun ov => yC cfg (yF cfg look fs m d) fs m f none n bs c ov H (yEnd cfg f n fn.results.toList)) none
     | none => none
    | none => none
   else none
 | d + 1, .y id, args, H =>
  match H[id]? with
  | some (.loop f fr ps assign body _ .ready) =>
   cond (qjM args.length ps.length)
    (fNat H.length fun bs => fNat (vn fr ps args).length fun n => gS (spGo 0 (vn fr ps args)) fun ov => yC cfg (yF cfg look fs m d) fs m f (some id) n bs assign ov H fun e ov H =>
     match e with
     | .normal =>
      (match H[id]? with
      | some (.loop f' fr' ps' assign' body' pend' .ready) => gS (H.set id (.loop f' fr' ps' assign' body' pend' .busy)) fun H' => yC cfg (yF cfg look fs m d) fs m f (some id) n bs body ov H' (yY2 id)
      | _ => none)
     | _ => none) none
  | _ => none
theorem qgu (cfg : Cfg) {look : Nat → Option Func} (hl : ∀ f fn, look f = some fn → cfg.P.funcs[f]? = some fn) {fs : List Fact} (hfs : qA cfg fs) (m : Nat) : ∀ (d : Nat) (t : Tgt) (a : List AV) (H : AH) (r), yF cfg look fs m d t a H = some r → EV cfg t a H = some r
 | 0, _, _, _, _, h => by cases h
 | d + 1, t, a, H, r, h => by
  have ih := qgu cfg hl hfs m d
  refine qhk ?_
  cases t with
  | f f =>
   simp only [yF] at h
   unfold qU
   split at h
   ·rename_i s hs
    simp only [hs]
    exact h
   ·rename_i hs
    simp only [hs]
    split at h
    ·rename_i hk
     rw [if_pos hk]
     split at h
     ·rename_i fn hf
      simp only [hl f fn hf]
      split at h
      ·rename_i c hb
       simp only [hb]
       obtain ⟨hle, h⟩ := qa h
       rw [Nat.ble_eq] at hle
       simp only [vF, vT] at h
       obtain ⟨e, ov', H', h1, h2, h3⟩ := qdz ih hfs c (qca a 0 fn.ntmps (by omega)) h
       rw [qix hle] at h2
       rw [h2]
       simp only [qjG]
       unfold yEnd at h3
       have fin : ∀ (e : Ex), (e = .normal ∨ e = .ret) → (yV fn.ntmps (cfg.lift f 0) ov' H' fun ov H => (match resO fn.results.toList cfg.ty ov H with | some vs => gA (vX vs) fun v => some (v, H) | none => none)) = some r →
         yP cfg fn.results.toList (e, qw (cfg.lift f 0) (den fn.ntmps ov') H') = some r := by
        intro e he h3
        obtain ⟨ov2, H2, h4, h5, h6⟩ := xC h1 h3
        rw [h5]
        unfold yP
        rcases he with rfl | rfl <;>
        ·simp only [qdD h4]
         split at h6
         ·rename_i vs hv
          rw [yE] at h6
          rw [hv]
          exact h6
         ·cases h6
       cases e with
       | normal => exact fin _ (.inl rfl) h3
       | ret => exact fin _ (.inr rfl) h3
       | exit x => cases h3
       | goto l => cases h3
      ·cases h
     ·cases h
    ·cases h
  | y id =>
   simp only [yF] at h
   unfold qU
   split at h
   ·rename_i f fr ps assign body p hlp
    simp only [hlp]
    obtain ⟨hlen, h⟩ := qa h
    rw [if_pos (qjA hlen)]
    simp only [vF, vT] at h
    obtain ⟨e, ov1, H1, h1, h2, h3⟩ := qdz ih hfs assign (zQ _ 0 _ (by omega)) h
    rw [qfq] at h2
    rw [h2]
    simp only [qjG]
    cases e with
    | normal =>
     simp only at h3 ⊢
     split at h3
     ·rename_i f' fr' ps' assign' body' pend' hl1
      simp only [hl1]
      obtain ⟨e2, ov2, H2, h4, h5, h6⟩ := qdz ih hfs body h1 h3
      rw [h5]
      simp only [qjG]
      unfold yY2 at h6
      split at h6
      ·rename_i hl2
       simp only [hl2]
       cases e2 with
       | normal => simp only [vT] at h6; exact h6
       | ret => simp only [vT] at h6; exact h6
       | exit x => simp only [vT] at h6; exact h6
       | goto l => cases h6
      ·cases h6
     ·cases h3
    | exit x => cases h3
    | goto l => cases h3
    | ret => cases h3
   ·cases h
theorem qje {cfg : Cfg} {look : Nat → Option Func} (hl : ∀ f fn, look f = some fn → cfg.P.funcs[f]? = some fn) {fs : List Fact} (hfs : qA cfg fs) {f : Nat} {args : List AV} {v : AV} (m d : Nat)
  (h : (match yF cfg look fs m d (.f f) args [] with | some r => some r.1 | none => none) = some v) : EVs (EV cfg) f args = some v := by
 unfold EVs
 cases hx : yF cfg look fs m d (.f f) args [] with
 | none => rw [hx] at h; cases h
 | some r => rw [hx] at h; rw [qgu cfg hl hfs m d _ _ _ _ hx]; exact h
theorem qjf {cfg : Cfg} {look : Nat → Option Func} (hl : ∀ f fn, look f = some fn → cfg.P.funcs[f]? = some fn) {fs : List Fact} (hfs : qA cfg fs) {f : Nat} {args : List AV} {v : AV} (m d : Nat)
  (h : (match yF cfg look fs m d (.f f) args [] with | some r => gA (r.1.frz r.1.msIds r.2).fg some | none => none) = some v) : EVf (EV cfg) f args = some v := by
 unfold EVf
 cases hx : yF cfg look fs m d (.f f) args [] with
 | none => rw [hx] at h; cases h
 | some r => rw [hx] at h; rw [qgu cfg hl hfs m d _ _ _ _ hx]; simp only [yE] at h; exact h
def qdh : List AV → AH → Option (AV × AH)
 | [.str a, .str b], H => some (.int .i64 (if a == b then 0 else if Op.bytesLess a b then -1 else 1), H)
 | _, _ => none
end Go.Av
end
section
namespace Go.Proofs.YtokeihbigipmmaaGreat
open Go.Av
def zr0 : List AV := [.int .u64 0, .int .u64 0, .int .u32 0, .int .u8 0, .int .u8 0, .int .u8 0, .int .u8 0, .nilF, .nilP, .int .i32 0, .int .i32 0]
def qeo : BT TI := .node 90 ⟨.ptr 92, 1, 8, [.nilP]⟩ (.node 46 ⟨.slice 22, 1, 24, [.nilS]⟩ (.node 24 ⟨.slice 26, 1, 24, [.nilS]⟩ (.node 13 ⟨.struct [(0, 9), (1, 12)], 2, 24, [.str [], .int .u64 0]⟩ (.node 5 ⟨.int .u8, 1, 1, [.int .u8 0]⟩ (.node 3 ⟨.int .i64, 1, 8, [.int .i64 0]⟩ (.node 2 ⟨.int .i64, 1, 8, [.int .i64 0]⟩ (.node 1 ⟨.func, 1, 8, [.nilF]⟩ .leaf .leaf) .leaf) (.node 4 ⟨.bool, 1, 1, [.bool false]⟩ .leaf .leaf)) (.node 9 ⟨.str, 1, 16, [.str []]⟩ (.node 7 ⟨.struct [(0, 2), (1, 3), (2, 4), (3, 6)], 4, 24, [.int .i64 0, .int .i64 0, .bool false, .int .u8 0]⟩ (.node 6 ⟨.int .u8, 1, 1, [.int .u8 0]⟩ .leaf .leaf) .leaf) (.node 12 ⟨.int .u64, 1, 8, [.int .u64 0]⟩ .leaf .leaf))) (.node 19 ⟨.struct [(0, 17)], 1, 8, [.nilP]⟩ (.node 17 ⟨.ptr 201, 1, 8, [.nilP]⟩ (.node 16 ⟨.ptr 192, 1, 8, [.nilP]⟩ (.node 15 ⟨.ptr 189, 1, 8, [.nilP]⟩ .leaf .leaf) .leaf) (.node 18 ⟨.struct [(0, 17)], 1, 8, [.nilP]⟩ .leaf .leaf)) (.node 22 ⟨.ptr 45, 1, 8, [.nilP]⟩ (.node 21 ⟨.int .i32, 1, 4, [.int .i32 0]⟩ (.node 20 ⟨.iface, 1, 16, [.nilI]⟩ .leaf .leaf) .leaf) (.node 23 ⟨.func, 1, 8, [.nilF]⟩ .leaf .leaf)))) (.node 37 ⟨.func, 1, 8, [.nilF]⟩ (.node 30 ⟨.int .u64, 1, 8, [.int .u64 0]⟩ (.node 27 ⟨.int .i64, 1, 8, [.int .i64 0]⟩ (.node 26 ⟨.struct [(0, 3), (1, 3), (2, 9), (3, 24)], 4, 56, [.int .i64 0, .int .i64 0, .str [], .nilS]⟩ (.node 25 ⟨.struct [(0, 3), (1, 3), (2, 9), (3, 24)], 4, 56, [.int .i64 0, .int .i64 0, .str [], .nilS]⟩ .leaf .leaf) .leaf) (.node 29 ⟨.func, 1, 8, [.nilF]⟩ .leaf .leaf)) (.node 33 ⟨.ptr 65, 1, 8, [.nilP]⟩ (.node 32 ⟨.ptr 84, 1, 8, [.nilP]⟩ (.node 31 ⟨.slice 30, 1, 24, [.nilS]⟩ .leaf .leaf) .leaf) (.node 35 ⟨.func, 1, 8, [.nilF]⟩ .leaf .leaf))) (.node 42 ⟨.func, 1, 8, [.nilF]⟩ (.node 40 ⟨.func, 1, 8, [.nilF]⟩ (.node 39 ⟨.func, 1, 8, [.nilF]⟩ (.node 38 ⟨.func, 1, 8, [.nilF]⟩ .leaf .leaf) .leaf) (.node 41 ⟨.func, 1, 8, [.nilF]⟩ .leaf .leaf)) (.node 44 ⟨.struct [(0, 32), (1, 26), (5, 43), (6, 3)], 7, 96, [.nilP, .int .i64 0, .int .i64 0, .str [], .nilS, .nilS, .int .i64 0]⟩ (.node 43 ⟨.slice 62, 1, 24, [.nilS]⟩ .leaf .leaf) (.node 45 ⟨.struct [(0, 32), (1, 26), (5, 43), (6, 3)], 7, 96, [.nilP, .int .i64 0, .int .i64 0, .str [], .nilS, .nilS, .int .i64 0]⟩ .leaf .leaf))))) (.node 69 ⟨.func, 1, 8, [.nilF]⟩ (.node 57 ⟨.struct [(0, 22), (1, 31), (2, 3), (3, 31), (4, 24), (5, 54), (6, 55), (7, 4), (8, 4), (9, 26), (13, 3)], 14, 176, [.nilP, .nilS, .int .i64 0, .nilS, .nilS, .nilM, .nilM, .bool false, .bool false, .int .i64 0, .int .i64 0, .str [], .nilS, .int .i64 0]⟩ (.node 52 ⟨.ptr 57, 1, 8, [.nilP]⟩ (.node 49 ⟨.slice 9, 1, 24, [.nilS]⟩ (.node 48 ⟨.func, 1, 8, [.nilF]⟩ (.node 47 ⟨.func, 1, 8, [.nilF]⟩ .leaf .leaf) .leaf) (.node 51 ⟨.func, 1, 8, [.nilF]⟩ .leaf .leaf)) (.node 55 ⟨.map 30 26, 1, 8, [.nilM]⟩ (.node 54 ⟨.map 3 30, 1, 8, [.nilM]⟩ (.node 53 ⟨.func, 1, 8, [.nilF]⟩ .leaf .leaf) .leaf) (.node 56 ⟨.struct [(0, 22), (1, 31), (2, 3), (3, 31), (4, 24), (5, 54), (6, 55), (7, 4), (8, 4), (9, 26), (13, 3)], 14, 176, [.nilP, .nilS, .int .i64 0, .nilS, .nilS, .nilM, .nilM, .bool false, .bool false, .int .i64 0, .int .i64 0, .str [], .nilS, .int .i64 0]⟩ .leaf .leaf))) (.node 62 ⟨.struct [(0, 3), (1, 3), (2, 3), (3, 26)], 7, 80, [.int .i64 0, .int .i64 0, .int .i64 0, .int .i64 0, .int .i64 0, .str [], .nilS]⟩ (.node 60 ⟨.func, 1, 8, [.nilF]⟩ (.node 59 ⟨.array 21 58, 21, 168, [.nilF, .nilF, .nilF, .nilF, .nilF, .nilF, .nilF, .nilF, .nilF, .nilF, .nilF, .nilF, .nilF, .nilF, .nilF, .nilF, .nilF, .nilF, .nilF, .nilF, .nilF]⟩ (.node 58 ⟨.func, 1, 8, [.nilF]⟩ .leaf .leaf) .leaf) (.node 61 ⟨.struct [(0, 3), (1, 3), (2, 3), (3, 26)], 7, 80, [.int .i64 0, .int .i64 0, .int .i64 0, .int .i64 0, .int .i64 0, .str [], .nilS]⟩ .leaf .leaf)) (.node 65 ⟨.struct [(0, 49)], 1, 24, [.nilS]⟩ (.node 64 ⟨.struct [(0, 49)], 1, 24, [.nilS]⟩ (.node 63 ⟨.func, 1, 8, [.nilF]⟩ .leaf .leaf) .leaf) (.node 67 ⟨.func, 1, 8, [.nilF]⟩ .leaf .leaf)))) (.node 79 ⟨.func, 1, 8, [.nilF]⟩ (.node 74 ⟨.func, 1, 8, [.nilF]⟩ (.node 72 ⟨.func, 1, 8, [.nilF]⟩ (.node 71 ⟨.func, 1, 8, [.nilF]⟩ (.node 70 ⟨.func, 1, 8, [.nilF]⟩ .leaf .leaf) .leaf) (.node 73 ⟨.func, 1, 8, [.nilF]⟩ .leaf .leaf)) (.node 77 ⟨.struct [(0, 32), (1, 31), (2, 3), (3, 4)], 4, 48, [.nilP, .nilS, .int .i64 0, .bool false]⟩ (.node 76 ⟨.ptr 78, 1, 8, [.nilP]⟩ (.node 75 ⟨.func, 1, 8, [.nilF]⟩ .leaf .leaf) .leaf) (.node 78 ⟨.struct [(0, 32), (1, 31), (2, 3), (3, 4)], 4, 48, [.nilP, .nilS, .int .i64 0, .bool false]⟩ .leaf .leaf))) (.node 84 ⟨.struct [(0, 82), (1, 49), (2, 3)], 3, 40, [.nilM, .nilS, .int .i64 0]⟩ (.node 82 ⟨.map 9 3, 1, 8, [.nilM]⟩ (.node 81 ⟨.func, 1, 8, [.nilF]⟩ (.node 80 ⟨.func, 1, 8, [.nilF]⟩ .leaf .leaf) .leaf) (.node 83 ⟨.struct [(0, 82), (1, 49), (2, 3)], 3, 40, [.nilM, .nilS, .int .i64 0]⟩ .leaf .leaf)) (.node 87 ⟨.slice 94, 1, 24, [.nilS]⟩ (.node 86 ⟨.func, 1, 8, [.nilF]⟩ .leaf .leaf) (.node 89 ⟨.func, 1, 8, [.nilF]⟩ .leaf .leaf)))))) (.node 134 ⟨.ptr 139, 1, 8, [.nilP]⟩ (.node 113 ⟨.func, 1, 8, [.nilF]⟩ (.node 102 ⟨.func, 1, 8, [.nilF]⟩ (.node 95 ⟨.func, 1, 8, [.nilF]⟩ (.node 93 ⟨.struct [(0, 26), (4, 24), (5, 24)], 6, 104, [.int .i64 0, .int .i64 0, .str [], .nilS, .nilS, .nilS]⟩ (.node 92 ⟨.struct [(0, 43)], 1, 24, [.nilS]⟩ (.node 91 ⟨.struct [(0, 43)], 1, 24, [.nilS]⟩ .leaf .leaf) .leaf) (.node 94 ⟨.struct [(0, 26), (4, 24), (5, 24)], 6, 104, [.int .i64 0, .int .i64 0, .str [], .nilS, .nilS, .nilS]⟩ .leaf .leaf)) (.node 100 ⟨.func, 1, 8, [.nilF]⟩ (.node 99 ⟨.func, 1, 8, [.nilF]⟩ (.node 97 ⟨.func, 1, 8, [.nilF]⟩ .leaf .leaf) .leaf) (.node 101 ⟨.func, 1, 8, [.nilF]⟩ .leaf .leaf))) (.node 107 ⟨.func, 1, 8, [.nilF]⟩ (.node 105 ⟨.func, 1, 8, [.nilF]⟩ (.node 104 ⟨.func, 1, 8, [.nilF]⟩ (.node 103 ⟨.func, 1, 8, [.nilF]⟩ .leaf .leaf) .leaf) (.node 106 ⟨.func, 1, 8, [.nilF]⟩ .leaf .leaf)) (.node 111 ⟨.func, 1, 8, [.nilF]⟩ (.node 110 ⟨.func, 1, 8, [.nilF]⟩ (.node 109 ⟨.func, 1, 8, [.nilF]⟩ .leaf .leaf) .leaf) (.node 112 ⟨.func, 1, 8, [.nilF]⟩ .leaf .leaf)))) (.node 125 ⟨.slice 124, 1, 24, [.nilS]⟩ (.node 118 ⟨.int .u64, 1, 8, [.int .u64 0]⟩ (.node 116 ⟨.func, 1, 8, [.nilF]⟩ (.node 115 ⟨.func, 1, 8, [.nilF]⟩ (.node 114 ⟨.func, 1, 8, [.nilF]⟩ .leaf .leaf) .leaf) (.node 117 ⟨.func, 1, 8, [.nilF]⟩ .leaf .leaf)) (.node 123 ⟨.struct [(0, 26), (4, 26)], 8, 112, [.int .i64 0, .int .i64 0, .str [], .nilS, .int .i64 0, .int .i64 0, .str [], .nilS]⟩ (.node 121 ⟨.func, 1, 8, [.nilF]⟩ (.node 120 ⟨.func, 1, 8, [.nilF]⟩ .leaf .leaf) .leaf) (.node 124 ⟨.struct [(0, 26), (4, 26)], 8, 112, [.int .i64 0, .int .i64 0, .str [], .nilS, .int .i64 0, .int .i64 0, .str [], .nilS]⟩ .leaf .leaf))) (.node 130 ⟨.func, 1, 8, [.nilF]⟩ (.node 128 ⟨.func, 1, 8, [.nilF]⟩ (.node 127 ⟨.func, 1, 8, [.nilF]⟩ (.node 126 ⟨.func, 1, 8, [.nilF]⟩ .leaf .leaf) .leaf) (.node 129 ⟨.func, 1, 8, [.nilF]⟩ .leaf .leaf)) (.node 132 ⟨.func, 1, 8, [.nilF]⟩ (.node 131 ⟨.slice 3, 1, 24, [.nilS]⟩ .leaf .leaf) (.node 133 ⟨.func, 1, 8, [.nilF]⟩ .leaf .leaf))))) (.node 170 ⟨.struct [(0, 30), (1, 30)], 2, 16, [.int .u64 0, .int .u64 0]⟩ (.node 147 ⟨.map 3 4, 1, 8, [.nilM]⟩ (.node 139 ⟨.struct [(0, 137), (6, 4)], 7, 96, [.int .i64 0, .int .i64 0, .str [], .nilS, .nilS, .int .i64 0, .bool false]⟩ (.node 137 ⟨.struct [(0, 26), (4, 135), (5, 3)], 6, 88, [.int .i64 0, .int .i64 0, .str [], .nilS, .nilS, .int .i64 0]⟩ (.node 136 ⟨.struct [(0, 26), (4, 135), (5, 3)], 6, 88, [.int .i64 0, .int .i64 0, .str [], .nilS, .nilS, .int .i64 0]⟩ (.node 135 ⟨.slice 203, 1, 24, [.nilS]⟩ .leaf .leaf) .leaf) (.node 138 ⟨.struct [(0, 137), (6, 4)], 7, 96, [.int .i64 0, .int .i64 0, .str [], .nilS, .nilS, .int .i64 0, .bool false]⟩ .leaf .leaf)) (.node 143 ⟨.func, 1, 8, [.nilF]⟩ (.node 142 ⟨.func, 1, 8, [.nilF]⟩ (.node 141 ⟨.func, 1, 8, [.nilF]⟩ .leaf .leaf) .leaf) (.node 144 ⟨.ptr 4, 1, 8, [.nilP]⟩ .leaf .leaf))) (.node 162 ⟨.array 2 24, 2, 48, [.nilS, .nilS]⟩ (.node 153 ⟨.func, 1, 8, [.nilF]⟩ (.node 151 ⟨.func, 1, 8, [.nilF]⟩ (.node 149 ⟨.func, 1, 8, [.nilF]⟩ .leaf .leaf) .leaf) (.node 155 ⟨.func, 1, 8, [.nilF]⟩ .leaf .leaf)) (.node 167 ⟨.func, 1, 8, [.nilF]⟩ (.node 165 ⟨.array 12 3, 12, 96, [.int .i64 0, .int .i64 0, .int .i64 0, .int .i64 0, .int .i64 0, .int .i64 0, .int .i64 0, .int .i64 0, .int .i64 0, .int .i64 0, .int .i64 0, .int .i64 0]⟩ (.node 164 ⟨.func, 1, 8, [.nilF]⟩ .leaf .leaf) .leaf) (.node 169 ⟨.struct [(0, 30), (1, 30)], 2, 16, [.int .u64 0, .int .u64 0]⟩ .leaf .leaf)))) (.node 195 ⟨.int .u8, 1, 1, [.int .u8 0]⟩ (.node 188 ⟨.struct [(0, 17), (1, 17), (2, 17), (3, 9)], 4, 40, [.nilP, .nilP, .nilP, .str []]⟩ (.node 174 ⟨.ptr 26, 1, 8, [.nilP]⟩ (.node 173 ⟨.func, 1, 8, [.nilF]⟩ (.node 172 ⟨.slice 5, 1, 24, [.nilS]⟩ .leaf .leaf) .leaf) (.node 180 ⟨.ptr 170, 1, 8, [.nilP]⟩ .leaf .leaf)) (.node 193 ⟨.int .u32, 1, 4, [.int .u32 0]⟩ (.node 191 ⟨.struct [(0, 190)], 0, 0, []⟩ (.node 190 ⟨.array 0 16, 0, 0, []⟩ .leaf .leaf) .leaf) (.node 194 ⟨.int .u8, 1, 1, [.int .u8 0]⟩ .leaf .leaf))) (.node 200 ⟨.struct [(0, 12), (1, 12), (2, 193), (3, 194), (4, 5), (5, 5), (6, 195), (7, 196), (8, 197), (9, 198), (10, 199)], 11, 48, zr0⟩ (.node 198 ⟨.int .i32, 1, 4, [.int .i32 0]⟩ (.node 197 ⟨.ptr 5, 1, 8, [.nilP]⟩ (.node 196 ⟨.func, 1, 8, [.nilF]⟩ .leaf .leaf) .leaf) (.node 199 ⟨.int .i32, 1, 4, [.int .i32 0]⟩ .leaf .leaf)) (.node 202 ⟨.struct [(0, 3), (1, 26)], 5, 64, [.int .i64 0, .int .i64 0, .int .i64 0, .str [], .nilS]⟩ (.node 201 ⟨.struct [(0, 12), (1, 12), (2, 193), (3, 194), (4, 5), (5, 5), (6, 195), (7, 196), (8, 197), (9, 198), (10, 199)], 11, 48, zr0⟩ .leaf .leaf) (.node 203 ⟨.struct [(0, 3), (1, 26)], 5, 64, [.int .i64 0, .int .i64 0, .int .i64 0, .str [], .nilS]⟩ .leaf .leaf))))))
def qiX : BT CMode := .node 81 (.scal) (.node 41 (.sub) (.node 28 (.pfrz) (.node 18 (.pown) (.node 10 (.scal) (.node 9 (.pfrz) (.node 4 (.scal) .leaf .leaf) .leaf) (.node 14 (.pfrz) (.node 12 (.scal) .leaf .leaf) .leaf)) (.node 26 (.scal) (.node 25 (.pfrz) (.node 24 (.pfrz) .leaf .leaf) .leaf) (.node 27 (.pfrz) .leaf .leaf))) (.node 36 (.sub) (.node 33 (.sub) (.node 32 (.sub) (.node 29 (.pown) .leaf .leaf) .leaf) (.node 35 (.sub) (.node 34 (.sub) .leaf .leaf) .leaf)) (.node 39 (.sub) (.node 38 (.sub) (.node 37 (.sub) .leaf .leaf) .leaf) (.node 40 (.sub) .leaf .leaf)))) (.node 61 (.scal) (.node 52 (.slf) (.node 44 (.sub) (.node 43 (.sub) (.node 42 (.sub) .leaf .leaf) .leaf) (.node 49 (.pfrz) (.node 45 (.sub) .leaf .leaf) .leaf)) (.node 58 (.sub) (.node 57 (.sub) (.node 56 (.sub) .leaf .leaf) .leaf) (.node 60 (.sub) .leaf .leaf))) (.node 66 (.pfrz) (.node 64 (.pown) (.node 63 (.pfrz) (.node 62 (.sub) .leaf .leaf) .leaf) (.node 65 (.pfrz) .leaf .leaf)) (.node 71 (.pfrz) (.node 68 (.sub) (.node 67 (.sub) .leaf .leaf) .leaf) (.node 80 (.pfrz) .leaf .leaf))))) (.node 113 (.inpl) (.node 100 (.inpf) (.node 90 (.scal) (.node 85 (.scal) (.node 84 (.pfrz) (.node 83 (.scal) .leaf .leaf) .leaf) (.node 88 (.pfrz) (.node 86 (.inpf) .leaf .leaf) .leaf)) (.node 97 (.scal) (.node 96 (.scal) (.node 91 (.scal) .leaf .leaf) .leaf) (.node 99 (.scal) .leaf .leaf))) (.node 107 (.scal) (.node 104 (.pfrz) (.node 103 (.scal) (.node 101 (.inpf) .leaf .leaf) .leaf) (.node 106 (.scal) (.node 105 (.pfrz) .leaf .leaf) .leaf)) (.node 111 (.inpl) (.node 110 (.pfrz) (.node 108 (.scal) .leaf .leaf) .leaf) (.node 112 (.inpf) .leaf .leaf)))) (.node 128 (.inpf) (.node 122 (.pfrz) (.node 116 (.scal) (.node 115 (.inpf) (.node 114 (.inpf) .leaf .leaf) .leaf) (.node 121 (.scal) (.node 117 (.inpf) .leaf .leaf) .leaf)) (.node 126 (.scal) (.node 125 (.scal) (.node 124 (.scal) .leaf .leaf) .leaf) (.node 127 (.scal) .leaf .leaf))) (.node 135 (.scal) (.node 133 (.scal) (.node 132 (.scal) (.node 130 (.scal) .leaf .leaf) .leaf) (.node 134 (.scal) .leaf .leaf)) (.node 138 (.scal) (.node 137 (.scal) (.node 136 (.scal) .leaf .leaf) .leaf) (.node 139 (.scal) .leaf .leaf)))))
def qjd : BT (BT (List Nat)) := .node 38 (.node 9 ([3]) .leaf .leaf) (.node 14 (.node 2 ([3, 7, 9, 11]) .leaf .leaf) (.node 6 (.node 8 ([2]) .leaf .leaf) .leaf .leaf) .leaf) (.node 51 (.node 1 ([1]) .leaf .leaf) .leaf .leaf)
noncomputable def qer {α : Type} (a b : Nat) (t : BT (BT α)) : Option α := match t.look a with | some u => u.look b | none => none
noncomputable def qi0 (f r k : Nat) : Bool := match qer f r qjd with | some l => q4 k l | none => false
def qiY : BT (BT (List Tmp × List Tmp)) := .node 71 (.node 3 ([3, 6, 7, 8], [3]) .leaf .leaf) (.node 47 (.node 2 ([0, 1, 5], [4]) .leaf .leaf) (.node 23 (.node 6 ([6, 19, 20, 21], [6]) .leaf .leaf) (.node 7 (.node 5 ([0, 4, 5, 6], [2, 3, 4, 5]) .leaf .leaf) (.node 6 (.node 11 ([0, 6, 11, 12], [0, 6, 11]) .leaf .leaf) (.node 4 (.node 3 ([0, 3, 5, 6], [3, 4]) .leaf .leaf) .leaf .leaf) .leaf) (.node 15 (.node 5 ([3, 13, 14], [3]) .leaf .leaf) (.node 9 (.node 3 ([0, 2, 3, 4], [2, 3]) .leaf .leaf) .leaf .leaf) .leaf)) (.node 33 (.node 9 ([2], []) .leaf .leaf) (.node 32 (.node 34 ([0, 4, 8, 98, 99, 100], [4, 8]) .leaf .leaf) (.node 26 (.node 4 ([0, 1, 5], [4]) .leaf .leaf) .leaf .leaf) .leaf) (.node 38 (.node 3 ([0, 3, 4, 8], [0, 3, 4]) .leaf .leaf) .leaf .leaf))) (.node 60 (.node 17 ([0, 1, 4, 10, 72, 73, 74], [0, 1, 4, 10]) .leaf .leaf) (.node 50 (.node 11 ([0, 4, 7, 37, 38, 39], [0, 4, 7]) (.node 4 ([0, 3, 4, 20, 21, 22], [0, 3, 4]) .leaf .leaf) .leaf) (.node 49 (.node 5 ([4, 16, 17, 18], [4]) .leaf .leaf) (.node 48 (.node 3 ([0, 3, 4], [3]) .leaf .leaf) .leaf .leaf) .leaf) (.node 52 (.node 6 ([1, 2, 3, 4, 18, 19, 20], [2, 3, 4]) .leaf .leaf) (.node 51 (.node 3 ([3, 8, 9], [3]) .leaf .leaf) .leaf .leaf) .leaf)) (.node 66 (.node 4 ([0, 1, 2, 6, 24, 25, 26], [0, 1, 2, 6, 7]) .leaf .leaf) (.node 63 (.node 3 ([3], [3, 4]) .leaf .leaf) (.node 61 (.node 9 ([5, 6, 70, 71], [5]) (.node 2 ([5], [4]) .leaf .leaf) .leaf) .leaf .leaf) .leaf) (.node 70 (.node 7 ([2, 3, 4], [2, 3, 4, 5]) .leaf .leaf) .leaf .leaf)))) (.node 105 (.node 5 ([4], [4, 5]) .leaf .leaf) (.node 92 (.node 1 ([0, 6, 7, 8], []) .leaf .leaf) (.node 81 (.node 4 ([2, 3], [2, 3]) .leaf .leaf) (.node 79 (.node 1 ([0, 1, 3], []) .leaf .leaf) (.node 75 (.node 1 ([0, 1, 6, 7], []) .leaf .leaf) .leaf .leaf) .leaf) (.node 89 (.node 16 ([3, 69, 70, 71], []) .leaf .leaf) (.node 88 (.node 14 ([2, 4, 5, 73, 74, 77, 78, 79], [2, 3, 4, 5, 73, 74]) (.node 11 ([2, 4, 5, 73, 74], [2, 3, 4]) .leaf .leaf) .leaf) .leaf .leaf) .leaf)) (.node 102 (.node 0 ([0, 1, 2], [1, 2]) .leaf .leaf) (.node 99 (.node 2 ([0, 1, 7, 8], [4]) .leaf .leaf) (.node 98 (.node 1 ([0, 1, 3], []) .leaf .leaf) .leaf .leaf) .leaf) (.node 104 (.node 11 ([3, 7, 29], [7]) (.node 6 ([3], [3]) .leaf .leaf) .leaf) .leaf .leaf))) (.node 126 (.node 3 ([3, 6, 7, 8], [2, 3]) .leaf .leaf) (.node 115 (.node 4 ([7], [0, 5, 6, 7]) .leaf .leaf) (.node 109 (.node 7 ([3], [0, 3]) (.node 1 ([0, 3], []) .leaf .leaf) .leaf) (.node 108 (.node 5 ([4, 32, 33, 34], [2, 3, 4]) .leaf .leaf) .leaf .leaf) .leaf) (.node 116 (.node 1 ([2, 3], [4]) .leaf .leaf) .leaf .leaf)) (.node 134 (.node 2 ([0, 1, 2, 11, 12, 13], [0, 1, 6]) .leaf .leaf) (.node 131 (.node 0 ([0, 1], []) .leaf .leaf) (.node 129 (.node 1 ([0, 3], []) .leaf .leaf) .leaf .leaf) .leaf) (.node 139 (.node 2 ([0, 1, 7, 8], [4]) .leaf .leaf) .leaf .leaf))))
def qji : BT (BT (List Tmp)) := .leaf
def qiZ : BT (BT (List (Tmp × Nat))) := .node 70 (.node 7 ([(2, 6), (4, 6)]) .leaf .leaf) (.node 38 (.node 3 ([(4, 4)]) .leaf .leaf) (.node 29 (.node 0 ([(2, 7)]) .leaf .leaf) (.node 18 (.node 0 ([(2, 1)]) .leaf .leaf) .leaf .leaf) .leaf) (.node 64 (.node 0 ([(2, 4)]) .leaf .leaf) (.node 61 (.node 9 ([(5, 8)]) (.node 2 ([(5, 8)]) .leaf .leaf) .leaf) .leaf .leaf) .leaf)) (.node 105 (.node 5 ([(4, 4)]) .leaf .leaf) (.node 104 (.node 11 ([(7, 1)]) .leaf .leaf) (.node 71 (.node 3 ([(3, 4)]) .leaf .leaf) .leaf .leaf) .leaf) (.node 129 (.node 1 ([(3, 4)]) .leaf .leaf) (.node 109 (.node 7 ([(3, 4)]) (.node 1 ([(3, 4)]) .leaf .leaf) .leaf) .leaf .leaf) .leaf))
def xi (f : Nat) : List (Nat × (List AV → AH → Option (AV × AH))) → Option (List AV → AH → Option (AV × AH))
 | [] => none
 | p :: l => if qjM p.1 f then some p.2 else xi f l
noncomputable def qgr : List (Nat × (List AV → AH → Option (AV × AH))) := []
noncomputable def qa7 : List (Nat × (List AV → AH → Option (AV × AH))) := (138, qdh) :: qgr
theorem qdg : qgr = [] := rfl
def qim : BT Unit := .node 71 (()) (.node 37 (()) (.node 20 (()) (.node 12 (()) (.node 8 (()) (.node 6 (()) (.node 5 (()) (.node 4 (()) .leaf .leaf) .leaf) (.node 7 (()) .leaf .leaf)) (.node 10 (()) (.node 9 (()) .leaf .leaf) (.node 11 (()) .leaf .leaf))) (.node 16 (()) (.node 14 (()) (.node 13 (()) .leaf .leaf) (.node 15 (()) .leaf .leaf)) (.node 18 (()) (.node 17 (()) .leaf .leaf) (.node 19 (()) .leaf .leaf)))) (.node 29 (()) (.node 25 (()) (.node 23 (()) (.node 22 (()) (.node 21 (()) .leaf .leaf) .leaf) (.node 24 (()) .leaf .leaf)) (.node 27 (()) (.node 26 (()) .leaf .leaf) (.node 28 (()) .leaf .leaf))) (.node 33 (()) (.node 31 (()) (.node 30 (()) .leaf .leaf) (.node 32 (()) .leaf .leaf)) (.node 35 (()) (.node 34 (()) .leaf .leaf) (.node 36 (()) .leaf .leaf))))) (.node 54 (()) (.node 46 (()) (.node 42 (()) (.node 40 (()) (.node 39 (()) (.node 38 (()) .leaf .leaf) .leaf) (.node 41 (()) .leaf .leaf)) (.node 44 (()) (.node 43 (()) .leaf .leaf) (.node 45 (()) .leaf .leaf))) (.node 50 (()) (.node 48 (()) (.node 47 (()) .leaf .leaf) (.node 49 (()) .leaf .leaf)) (.node 52 (()) (.node 51 (()) .leaf .leaf) (.node 53 (()) .leaf .leaf)))) (.node 63 (()) (.node 59 (()) (.node 57 (()) (.node 56 (()) (.node 55 (()) .leaf .leaf) .leaf) (.node 58 (()) .leaf .leaf)) (.node 61 (()) (.node 60 (()) .leaf .leaf) (.node 62 (()) .leaf .leaf))) (.node 67 (()) (.node 65 (()) (.node 64 (()) .leaf .leaf) (.node 66 (()) .leaf .leaf)) (.node 69 (()) (.node 68 (()) .leaf .leaf) (.node 70 (()) .leaf .leaf)))))) (.node 105 (()) (.node 88 (()) (.node 80 (()) (.node 76 (()) (.node 74 (()) (.node 73 (()) (.node 72 (()) .leaf .leaf) .leaf) (.node 75 (()) .leaf .leaf)) (.node 78 (()) (.node 77 (()) .leaf .leaf) (.node 79 (()) .leaf .leaf))) (.node 84 (()) (.node 82 (()) (.node 81 (()) .leaf .leaf) (.node 83 (()) .leaf .leaf)) (.node 86 (()) (.node 85 (()) .leaf .leaf) (.node 87 (()) .leaf .leaf)))) (.node 97 (()) (.node 93 (()) (.node 91 (()) (.node 90 (()) (.node 89 (()) .leaf .leaf) .leaf) (.node 92 (()) .leaf .leaf)) (.node 95 (()) (.node 94 (()) .leaf .leaf) (.node 96 (()) .leaf .leaf))) (.node 101 (()) (.node 99 (()) (.node 98 (()) .leaf .leaf) (.node 100 (()) .leaf .leaf)) (.node 103 (()) (.node 102 (()) .leaf .leaf) (.node 104 (()) .leaf .leaf))))) (.node 122 (()) (.node 114 (()) (.node 110 (()) (.node 108 (()) (.node 107 (()) (.node 106 (()) .leaf .leaf) .leaf) (.node 109 (()) .leaf .leaf)) (.node 112 (()) (.node 111 (()) .leaf .leaf) (.node 113 (()) .leaf .leaf))) (.node 118 (()) (.node 116 (()) (.node 115 (()) .leaf .leaf) (.node 117 (()) .leaf .leaf)) (.node 120 (()) (.node 119 (()) .leaf .leaf) (.node 121 (()) .leaf .leaf)))) (.node 131 (()) (.node 127 (()) (.node 125 (()) (.node 124 (()) (.node 123 (()) .leaf .leaf) .leaf) (.node 126 (()) .leaf .leaf)) (.node 129 (()) (.node 128 (()) .leaf .leaf) (.node 130 (()) .leaf .leaf))) (.node 135 (()) (.node 133 (()) (.node 132 (()) .leaf .leaf) (.node 134 (()) .leaf .leaf)) (.node 137 (()) (.node 136 (()) .leaf .leaf) (.node 139 (()) .leaf .leaf))))))
def qjh : BT Unit := .leaf
def qjk : BT Unit := .leaf
def qja : BT Unit := .leaf
def qjg : BT Unit := .leaf
def qjb : BT (List Nat) := .node 96 ([9, 27]) (.node 66 ([3, 27]) (.node 36 ([22, 27]) (.node 34 ([32, 33]) (.node 28 ([26, 4, 27]) .leaf .leaf) .leaf) (.node 50 ([26, 27]) .leaf .leaf)) (.node 85 ([3, 4]) (.node 68 ([43, 27]) .leaf .leaf) (.node 88 ([87, 27]) .leaf .leaf))) (.node 122 ([26, 4]) (.node 108 ([30, 4]) (.node 98 ([3, 3, 27]) .leaf .leaf) (.node 119 ([30, 27]) .leaf .leaf)) (.node 160 ([24, 4]) (.node 145 ([94, 4]) .leaf .leaf) (.node 183 ([30, 30]) .leaf .leaf)))
noncomputable def qhT : List (Nat × Func) := [(6, Tryz.f6), (8, Tryz.f8), (11, Tryz.f11), (13, Tryz.f13), (15, Tryz.f15), (16, Tryz.f16), (17, Tryz.f17), (30, Tryz.f30), (46, Tryz.f46), (53, Tryz.f53), (59, Tryz.f59), (79, Tryz.f79), (82, Tryz.f82), (95, Tryz.f95), (98, Tryz.f98), (109, Tryz.f109)]
noncomputable def qg4 : BT Func := .node 71 (Tryz.f71) (.node 37 (Tryz.f37) (.node 20 (Tryz.f20) (.node 12 (Tryz.f12) (.node 8 (Tryz.f8) (.node 6 (Tryz.f6) (.node 5 (Tryz.f5) (.node 4 (Tryz.f4) .leaf .leaf) .leaf) (.node 7 (Tryz.f7) .leaf .leaf)) (.node 10 (Tryz.f10) (.node 9 (Tryz.f9) .leaf .leaf) (.node 11 (Tryz.f11) .leaf .leaf))) (.node 16 (Tryz.f16) (.node 14 (Tryz.f14) (.node 13 (Tryz.f13) .leaf .leaf) (.node 15 (Tryz.f15) .leaf .leaf)) (.node 18 (Tryz.f18) (.node 17 (Tryz.f17) .leaf .leaf) (.node 19 (Tryz.f19) .leaf .leaf)))) (.node 29 (Tryz.f29) (.node 25 (Tryz.f25) (.node 23 (Tryz.f23) (.node 22 (Tryz.f22) (.node 21 (Tryz.f21) .leaf .leaf) .leaf) (.node 24 (Tryz.f24) .leaf .leaf)) (.node 27 (Tryz.f27) (.node 26 (Tryz.f26) .leaf .leaf) (.node 28 (Tryz.f28) .leaf .leaf))) (.node 33 (Tryz.f33) (.node 31 (Tryz.f31) (.node 30 (Tryz.f30) .leaf .leaf) (.node 32 (Tryz.f32) .leaf .leaf)) (.node 35 (Tryz.f35) (.node 34 (Tryz.f34) .leaf .leaf) (.node 36 (Tryz.f36) .leaf .leaf))))) (.node 54 (Tryz.f54) (.node 46 (Tryz.f46) (.node 42 (Tryz.f42) (.node 40 (Tryz.f40) (.node 39 (Tryz.f39) (.node 38 (Tryz.f38) .leaf .leaf) .leaf) (.node 41 (Tryz.f41) .leaf .leaf)) (.node 44 (Tryz.f44) (.node 43 (Tryz.f43) .leaf .leaf) (.node 45 (Tryz.f45) .leaf .leaf))) (.node 50 (Tryz.f50) (.node 48 (Tryz.f48) (.node 47 (Tryz.f47) .leaf .leaf) (.node 49 (Tryz.f49) .leaf .leaf)) (.node 52 (Tryz.f52) (.node 51 (Tryz.f51) .leaf .leaf) (.node 53 (Tryz.f53) .leaf .leaf)))) (.node 63 (Tryz.f63) (.node 59 (Tryz.f59) (.node 57 (Tryz.f57) (.node 56 (Tryz.f56) (.node 55 (Tryz.f55) .leaf .leaf) .leaf) (.node 58 (Tryz.f58) .leaf .leaf)) (.node 61 (Tryz.f61) (.node 60 (Tryz.f60) .leaf .leaf) (.node 62 (Tryz.f62) .leaf .leaf))) (.node 67 (Tryz.f67) (.node 65 (Tryz.f65) (.node 64 (Tryz.f64) .leaf .leaf) (.node 66 (Tryz.f66) .leaf .leaf)) (.node 69 (Tryz.f69) (.node 68 (Tryz.f68) .leaf .leaf) (.node 70 (Tryz.f70) .leaf .leaf)))))) (.node 105 (Tryz.f105) (.node 88 (Tryz.f88) (.node 80 (Tryz.f80) (.node 76 (Tryz.f76) (.node 74 (Tryz.f74) (.node 73 (Tryz.f73) (.node 72 (Tryz.f72) .leaf .leaf) .leaf) (.node 75 (Tryz.f75) .leaf .leaf)) (.node 78 (Tryz.f78) (.node 77 (Tryz.f77) .leaf .leaf) (.node 79 (Tryz.f79) .leaf .leaf))) (.node 84 (Tryz.f84) (.node 82 (Tryz.f82) (.node 81 (Tryz.f81) .leaf .leaf) (.node 83 (Tryz.f83) .leaf .leaf)) (.node 86 (Tryz.f86) (.node 85 (Tryz.f85) .leaf .leaf) (.node 87 (Tryz.f87) .leaf .leaf)))) (.node 97 (Tryz.f97) (.node 93 (Tryz.f93) (.node 91 (Tryz.f91) (.node 90 (Tryz.f90) (.node 89 (Tryz.f89) .leaf .leaf) .leaf) (.node 92 (Tryz.f92) .leaf .leaf)) (.node 95 (Tryz.f95) (.node 94 (Tryz.f94) .leaf .leaf) (.node 96 (Tryz.f96) .leaf .leaf))) (.node 101 (Tryz.f101) (.node 99 (Tryz.f99) (.node 98 (Tryz.f98) .leaf .leaf) (.node 100 (Tryz.f100) .leaf .leaf)) (.node 103 (Tryz.f103) (.node 102 (Tryz.f102) .leaf .leaf) (.node 104 (Tryz.f104) .leaf .leaf))))) (.node 122 (Tryz.f122) (.node 114 (Tryz.f114) (.node 110 (Tryz.f110) (.node 108 (Tryz.f108) (.node 107 (Tryz.f107) (.node 106 (Tryz.f106) .leaf .leaf) .leaf) (.node 109 (Tryz.f109) .leaf .leaf)) (.node 112 (Tryz.f112) (.node 111 (Tryz.f111) .leaf .leaf) (.node 113 (Tryz.f113) .leaf .leaf))) (.node 118 (Tryz.f118) (.node 116 (Tryz.f116) (.node 115 (Tryz.f115) .leaf .leaf) (.node 117 (Tryz.f117) .leaf .leaf)) (.node 120 (Tryz.f120) (.node 119 (Tryz.f119) .leaf .leaf) (.node 121 (Tryz.f121) .leaf .leaf)))) (.node 131 (Tryz.f131) (.node 127 (Tryz.f127) (.node 125 (Tryz.f125) (.node 124 (Tryz.f124) (.node 123 (Tryz.f123) .leaf .leaf) .leaf) (.node 126 (Tryz.f126) .leaf .leaf)) (.node 129 (Tryz.f129) (.node 128 (Tryz.f128) .leaf .leaf) (.node 130 (Tryz.f130) .leaf .leaf))) (.node 135 (Tryz.f135) (.node 133 (Tryz.f133) (.node 132 (Tryz.f132) .leaf .leaf) (.node 134 (Tryz.f134) .leaf .leaf)) (.node 137 (Tryz.f137) (.node 136 (Tryz.f136) .leaf .leaf) (.node 139 (Tryz.f139) .leaf .leaf))))))
theorem qiK : qg4.All fun f fn => Tryz.prog.funcs[f]? = some fn := (BT.all_node Tryz.func71 (BT.all_node Tryz.func37 (BT.all_node Tryz.func20 (BT.all_node Tryz.func12 (BT.all_node Tryz.func8 (BT.all_node Tryz.func6 (BT.all_node Tryz.func5 (BT.all_node Tryz.func4 trivial trivial) trivial) (BT.all_node Tryz.func7 trivial trivial)) (BT.all_node Tryz.func10 (BT.all_node Tryz.func9 trivial trivial) (BT.all_node Tryz.func11 trivial trivial))) (BT.all_node Tryz.func16 (BT.all_node Tryz.func14 (BT.all_node Tryz.func13 trivial trivial) (BT.all_node Tryz.func15 trivial trivial)) (BT.all_node Tryz.func18 (BT.all_node Tryz.func17 trivial trivial) (BT.all_node Tryz.func19 trivial trivial)))) (BT.all_node Tryz.func29 (BT.all_node Tryz.func25 (BT.all_node Tryz.func23 (BT.all_node Tryz.func22 (BT.all_node Tryz.func21 trivial trivial) trivial) (BT.all_node Tryz.func24 trivial trivial)) (BT.all_node Tryz.func27 (BT.all_node Tryz.func26 trivial trivial) (BT.all_node Tryz.func28 trivial trivial))) (BT.all_node Tryz.func33 (BT.all_node Tryz.func31 (BT.all_node Tryz.func30 trivial trivial) (BT.all_node Tryz.func32 trivial trivial)) (BT.all_node Tryz.func35 (BT.all_node Tryz.func34 trivial trivial) (BT.all_node Tryz.func36 trivial trivial))))) (BT.all_node Tryz.func54 (BT.all_node Tryz.func46 (BT.all_node Tryz.func42 (BT.all_node Tryz.func40 (BT.all_node Tryz.func39 (BT.all_node Tryz.func38 trivial trivial) trivial) (BT.all_node Tryz.func41 trivial trivial)) (BT.all_node Tryz.func44 (BT.all_node Tryz.func43 trivial trivial) (BT.all_node Tryz.func45 trivial trivial))) (BT.all_node Tryz.func50 (BT.all_node Tryz.func48 (BT.all_node Tryz.func47 trivial trivial) (BT.all_node Tryz.func49 trivial trivial)) (BT.all_node Tryz.func52 (BT.all_node Tryz.func51 trivial trivial) (BT.all_node Tryz.func53 trivial trivial)))) (BT.all_node Tryz.func63 (BT.all_node Tryz.func59 (BT.all_node Tryz.func57 (BT.all_node Tryz.func56 (BT.all_node Tryz.func55 trivial trivial) trivial) (BT.all_node Tryz.func58 trivial trivial)) (BT.all_node Tryz.func61 (BT.all_node Tryz.func60 trivial trivial) (BT.all_node Tryz.func62 trivial trivial))) (BT.all_node Tryz.func67 (BT.all_node Tryz.func65 (BT.all_node Tryz.func64 trivial trivial) (BT.all_node Tryz.func66 trivial trivial)) (BT.all_node Tryz.func69 (BT.all_node Tryz.func68 trivial trivial) (BT.all_node Tryz.func70 trivial trivial)))))) (BT.all_node Tryz.func105 (BT.all_node Tryz.func88 (BT.all_node Tryz.func80 (BT.all_node Tryz.func76 (BT.all_node Tryz.func74 (BT.all_node Tryz.func73 (BT.all_node Tryz.func72 trivial trivial) trivial) (BT.all_node Tryz.func75 trivial trivial)) (BT.all_node Tryz.func78 (BT.all_node Tryz.func77 trivial trivial) (BT.all_node Tryz.func79 trivial trivial))) (BT.all_node Tryz.func84 (BT.all_node Tryz.func82 (BT.all_node Tryz.func81 trivial trivial) (BT.all_node Tryz.func83 trivial trivial)) (BT.all_node Tryz.func86 (BT.all_node Tryz.func85 trivial trivial) (BT.all_node Tryz.func87 trivial trivial)))) (BT.all_node Tryz.func97 (BT.all_node Tryz.func93 (BT.all_node Tryz.func91 (BT.all_node Tryz.func90 (BT.all_node Tryz.func89 trivial trivial) trivial) (BT.all_node Tryz.func92 trivial trivial)) (BT.all_node Tryz.func95 (BT.all_node Tryz.func94 trivial trivial) (BT.all_node Tryz.func96 trivial trivial))) (BT.all_node Tryz.func101 (BT.all_node Tryz.func99 (BT.all_node Tryz.func98 trivial trivial) (BT.all_node Tryz.func100 trivial trivial)) (BT.all_node Tryz.func103 (BT.all_node Tryz.func102 trivial trivial) (BT.all_node Tryz.func104 trivial trivial))))) (BT.all_node Tryz.func122 (BT.all_node Tryz.func114 (BT.all_node Tryz.func110 (BT.all_node Tryz.func108 (BT.all_node Tryz.func107 (BT.all_node Tryz.func106 trivial trivial) trivial) (BT.all_node Tryz.func109 trivial trivial)) (BT.all_node Tryz.func112 (BT.all_node Tryz.func111 trivial trivial) (BT.all_node Tryz.func113 trivial trivial))) (BT.all_node Tryz.func118 (BT.all_node Tryz.func116 (BT.all_node Tryz.func115 trivial trivial) (BT.all_node Tryz.func117 trivial trivial)) (BT.all_node Tryz.func120 (BT.all_node Tryz.func119 trivial trivial) (BT.all_node Tryz.func121 trivial trivial)))) (BT.all_node Tryz.func131 (BT.all_node Tryz.func127 (BT.all_node Tryz.func125 (BT.all_node Tryz.func124 (BT.all_node Tryz.func123 trivial trivial) trivial) (BT.all_node Tryz.func126 trivial trivial)) (BT.all_node Tryz.func129 (BT.all_node Tryz.func128 trivial trivial) (BT.all_node Tryz.func130 trivial trivial))) (BT.all_node Tryz.func135 (BT.all_node Tryz.func133 (BT.all_node Tryz.func132 trivial trivial) (BT.all_node Tryz.func134 trivial trivial)) (BT.all_node Tryz.func137 (BT.all_node Tryz.func136 trivial trivial) (BT.all_node Tryz.func139 trivial trivial)))))))
noncomputable def cfg : Cfg := { P := Tryz.prog, ty := fun t => qeo.look t, mode := fun f => match qiX.look f with | some m => m | none => .imp, frz := fun f r k => qi0 f r k, mask := fun f r => qer f r qiY, cut := fun f r => qer f r qji, tup := fun t => qjb.look t, ext := fun f => xi f qa7, known := fun f => (qim.look f).isSome, dat := fun t => (qjh.look t).isSome, inl := fun f => qbv f qhT, lift := fun f r => match qer f r qiZ with | some l => l | none => [], ems := fun t => (qjg.look t).isSome, ali := fun t => (qjk.look t).isSome, wrt := fun t => (qja.look t).isSome }
theorem qde {fs : List Fact} (hfs : qA cfg fs) {f : Nat} {args : List AV} {v : AV} (m d : Nat) (h : (match yF cfg (fun f => qg4.look f) fs m d (.f f) args [] with | some r => some r.1 | none => none) = some v) : EVs (EV cfg) f args = some v := qje (fun _ _ h => BT.all_look qiK h) hfs m d h
theorem qeA {fs : List Fact} (hfs : qA cfg fs) {f : Nat} {args : List AV} {v : AV} (m d : Nat) (h : (match yF cfg (fun f => qg4.look f) fs m d (.f f) args [] with | some r => gA (r.1.frz r.1.msIds r.2).fg some | none => none) = some v) : EVf (EV cfg) f args = some v := qjf (fun _ _ h => BT.all_look qiK h) hfs m d h
instance inl_ok : InlOk cfg := InlOk.of qhT (fun _ => rfl) ⟨⟨rfl, rfl, Tryz.func6, rfl⟩, ⟨⟨rfl, rfl, Tryz.func8, rfl⟩, ⟨⟨rfl, rfl, Tryz.func11, rfl⟩, ⟨⟨rfl, rfl, Tryz.func13, rfl⟩, ⟨⟨rfl, rfl, Tryz.func15, rfl⟩, ⟨⟨rfl, rfl, Tryz.func16, rfl⟩, ⟨⟨rfl, rfl, Tryz.func17, rfl⟩, ⟨⟨rfl, rfl, Tryz.func30, rfl⟩, ⟨⟨rfl, rfl, Tryz.func46, rfl⟩, ⟨⟨rfl, rfl, Tryz.func53, rfl⟩, ⟨⟨rfl, rfl, Tryz.func59, rfl⟩, ⟨⟨rfl, rfl, Tryz.func79, rfl⟩, ⟨⟨rfl, rfl, Tryz.func82, rfl⟩, ⟨⟨rfl, rfl, Tryz.func95, rfl⟩, ⟨⟨rfl, rfl, Tryz.func98, rfl⟩, ⟨⟨rfl, rfl, Tryz.func109, rfl⟩, trivial⟩⟩⟩⟩⟩⟩⟩⟩⟩⟩⟩⟩⟩⟩⟩⟩
end Go.Proofs.YtokeihbigipmmaaGreat
end
section
namespace Go.Av
def cmpS (a b : List UInt8) : Int := if a == b then 0 else if Op.bytesLess a b then -1 else 1
theorem zA : ∀ a b : List UInt8, Lib.compareBytes a b = cmpS a b
 | [], [] => rfl
 | [], _ :: _ => by simp [Lib.compareBytes, cmpS, Op.bytesLess]
 | _ :: _, [] => by simp [Lib.compareBytes, cmpS, Op.bytesLess]
 | a :: l, b :: m => by
  rw [Lib.compareBytes, zA l m]
  unfold cmpS
  by_cases h : a = b
  ·subst h
   have : ¬ a < a := by simp
   by_cases h2 : l = m
   ·subst h2; simp
   ·simp [Op.bytesLess, h2]
  ·have h' : (a :: l == b :: m) = false := by simp [h]
   rw [h']
   simp only [qjD, if_false, Op.bytesLess]
   by_cases hlt : a < b
   ·simp [hlt]
   ·have : b < a := by
     have h1 : ¬ a.toNat < b.toNat := hlt
     have h2 : a.toNat ≠ b.toNat := fun e => h (UInt8.toNat.inj e)
     show b.toNat < a.toNat
     omega
    simp [hlt, this, h]
theorem qfn [Lent] {P : Program} {f : FuncId} {fn : Func} (hf : P.funcs[f]? = some fn) (hn : (fn.name == "runtime.NumGoroutine") = false) (hb : fn.body.isNone = true) (hx : Extern.findNext fn = none)
  (he : Extern.find fn = some Extern.BytealgCompare.compare) {args : List AV} {H H' : AH} {r : AV} (hr : qdh args H = some (r, H')) {C : qb} {μ : MMap} {w : World} {vs : Array Value} (ha : qe C μ args vs) (hw : Wld C μ H w) :
  qz P (callFunc f vs) w (qN C μ H w r H') := by
 unfold qdh at hr
 split at hr
 ·rename_i H0 a b
  cases hr
  obtain ⟨hl, hv⟩ := ha
  obtain ⟨x, y, rfl⟩ : ∃ x y, vs = #[x, y] := by
   obtain ⟨l⟩ := vs
   match l, hl with
   | [x, y], _ => exact ⟨x, y, rfl⟩
  have h0 := hv 0 _ _ rfl rfl
  have h1 := hv 1 _ _ rfl rfl
  cases h0
  cases h1
  have hrun : (callFunc f #[.string ⟨a.toArray⟩, .string ⟨b.toArray⟩]).run P w = .ok (.value (.int .i64 (cmpS a b))) w := by
   unfold callFunc
   simp only [Sem.run_bind, run_program, Result.andThen_ok, hf, hn, hb, qjD, if_false, if_true, run_mark, hx, he, Lib.run_compareString, Sem.run_pure]
   rw [zA]
  unfold qz
  rw [hrun]
  exact ⟨C, μ, .int _ _, hw, Ext.refl (qjB _)⟩
 ·cases hr
end Go.Av
namespace Go.Proofs.YtokeihbigipmmaaGreat
open Go.Av
theorem qhs : qeo.All fun t ti => tiOf Tryz.prog t = some ti := by
 unfold qeo
 repeat (first | exact trivial | refine BT.all_node (by show tiOf Tryz.prog _ = _; kernel_rfl) ?_ ?_)
theorem qij : Tryz.prog.funcs.toList.all (fun fn => !(fn.name == "runtime.NumGoroutine")) = true := by kernel_rfl
theorem qeX : Tryz.prog.follows .mixedOrders = true := by kernel_rfl
end Go.Proofs.YtokeihbigipmmaaGreat
end
section
namespace Go.Av
abbrev Rz := List (List AV)
abbrev Bz := List UInt8
inductive Tm where
 | mk (k n : Int) (s : List UInt8) (l : List Tm)
 deriving Inhabited
namespace Tm
def str : Tm → List UInt8 | mk _ _ s _ => s
end Tm
mutual
def Tm.cells : Tm → List AV
 | .mk k n s l => [.int .i64 k, .int .i64 n, .str s, .sl (vC l)]
def vC : List Tm → List (List AV)
 | [] => []
 | t :: l => t.cells :: vC l
end
def Tm.av (t : Tm) : AV := .agg t.cells
theorem Tm.cells_mk (k n : Int) (s : List UInt8) (l : List Tm) : (Tm.mk k n s l).cells = [.int .i64 k, .int .i64 n, .str s, .sl (vC l)] := by rw [Tm.cells]
theorem Tm.av_mk (k n : Int) (s : List UInt8) (l : List Tm) : (Tm.mk k n s l).av = .agg [.int .i64 k, .int .i64 n, .str s, .sl (vC l)] := by rw [Tm.av, Tm.cells_mk]
theorem qaK : ∀ l : List Tm, vC l = l.map Tm.cells
 | [] => by rw [vC]; rfl
 | t :: l => by rw [vC, qaK l]; rfl
@[simp] theorem rowsT_length (l : List Tm) : (vC l).length = l.length := by rw [qaK]; simp
@[simp] theorem qhz : vC [] = [] := by rw [vC]
theorem qhA (l : List Tm) (i : Nat) : (vC l)[i]? = (l[i]?).map Tm.cells := by rw [qaK]; simp
theorem qhd (t : Tm) : qf 0 t.cells = true := by
 obtain ⟨k, n, s, l⟩ := t
 rw [Tm.cells_mk]; rfl
theorem qgE (l : List Tm) : qh 0 (vC l) = true := by
 induction l with
 | nil => rw [vC]; rfl
 | cons t l ih => rw [vC, qh, ih, qhd]; rfl
mutual
/-- no list is longer than is counted here, no text -/
def Tm.Ok : Tm → Prop
 | .mk _ _ s l => s.length < 1099511627776 ∧ l.length < 1099511627776 ∧ OkL l
def OkL : List Tm → Prop
 | [] => True
 | t :: l => t.Ok ∧ OkL l
end
theorem qgs {l : List Tm} : OkL l ↔ ∀ t ∈ l, t.Ok := by
 induction l with
 | nil => simp [OkL]
 | cons t l ih => simp [OkL, ih]
theorem Tm.Ok.str {k n : Int} {s : List UInt8} {l : List Tm} (h : (Tm.mk k n s l).Ok) : s.length < 1099511627776 := by rw [Tm.Ok] at h; exact h.1
theorem Tm.Ok.len {k n : Int} {s : List UInt8} {l : List Tm} (h : (Tm.mk k n s l).Ok) : l.length < 1099511627776 := by rw [Tm.Ok] at h; exact h.2.1
theorem Tm.Ok.sub {k n : Int} {s : List UInt8} {l : List Tm} (h : (Tm.mk k n s l).Ok) {t : Tm} (ht : t ∈ l) : t.Ok := by rw [Tm.Ok] at h; exact qgs.1 h.2.2 t ht
theorem OkL.get {l : List Tm} (h : OkL l) {t : Tm} (ht : t ∈ l) : t.Ok := qgs.1 h t ht
mutual
def Tm.w : Tm → Nat
 | .mk _ _ s l => 1 + s.length + wL l
def wL : List Tm → Nat
 | [] => 0
 | t :: l => t.w + wL l
end
theorem Tm.w_mk (k n : Int) (s : List UInt8) (l : List Tm) : (Tm.mk k n s l).w = 1 + s.length + wL l := by rw [Tm.w]
@[simp] theorem wL_nil : wL [] = 0 := by rw [wL]
@[simp] theorem qiQ (t : Tm) (l : List Tm) : wL (t :: l) = t.w + wL l := by rw [wL]
@[simp] theorem wL_append (a b : List Tm) : wL (a ++ b) = wL a + wL b := by
 induction a with
 | nil => simp
 | cons t l ih => simp [ih]; omega
end Go.Av
end
section
namespace Go.Proofs.YtokeihbigipmmaaGreat
open Go.Av
def C0 (W : World) : qb := fun b o => W.cell? ⟨b, o, none⟩
def M0 : MMap := fun _ => none
theorem wld0 (W : World) : Wld (C0 W) M0 [] W where
 cl := fun _ _ _ h => h
 dom := fun id m h => by cases h
 res := fun id h => by simp at h
 live := fun id b h => by simp at h
 froz := fun id d sz rs h => by simp at h
 inj := fun i i' b b' m m' h => by simp at h
 free := xJ.nil
 lnt := ⟨fun _ _ _ h => (by cases h), fun h => h.elim, fun _ _ => trivial⟩
structure TermTys (P : Program) (tT tL tI tS : TypeId) : Prop where
 uT : ∃ f0 f1 f2 f3 : Field, P.underlying tT = some (.struct #[f0, f1, f2, f3]) ∧ f0.type = tI ∧ f0.offset = 0 ∧ f1.type = tI ∧ f1.offset = 1 ∧ f2.type = tS ∧ f2.offset = 2 ∧ f3.type = tL ∧ f3.offset = 3
 uL : P.underlying tL = some (.slice tT)
 uI : P.underlying tI = some (.int .i64)
 uS : P.underlying tS = some .string
 cT : P.cellsOf tT = 4
 cL : P.cellsOf tL = 1
 cI : P.cellsOf tI = 1
 cS : P.cellsOf tS = 1
section
variable {H : Type} {enc : TypeId × Value → H} {P : Program} {W : World} {tT tL tI tS : TypeId}
def qcd (W : World) (cs : List Value) (t : Tm) : Prop := cs.length = 4 ∧ ∀ (j : Nat) a v, t.cells[j]? = some a → cs[j]? = some v → a.isCell = true ∧ Rep (C0 W) M0 a v
theorem xM {base : Nat} {a : Addr} {n : Nat} {cs : List Value} (h : W.cells? base a n = some cs) (hn : 0 < n) : a.spot = none ∧ cs.length = n ∧ ∀ (j : Nat) v, cs[j]? = some v → W.cell? ⟨a.block, a.off + j, none⟩ = some v := by
 unfold World.cells? at h
 split at h
 ·have hl : cs.length = n := by simpa using mapM_some_length h
  have hg : ∀ (j : Nat), j < n → W.cell? (a.add j) = cs[j]? := fun j hj => mapM_some_get h j j (by simp [hj])
  have hsp : a.spot = none := by
   have h0 := hg 0 hn
   rw [qjz (by omega)] at h0
   cases hs : a.spot with
   | none => rfl
   | some s =>
    simp only [World.cell?, Addr.add, if_pos, hs] at h0
    split at h0
    ·simp at h0
    ·cases h0
  refine ⟨hsp, hl, fun j v hv => ?_⟩
  have hj : j < n := by rw [← hl]; exact (qjv.1 hv).1
  have := hg j hj
  rw [hv] at this
  rw [vq _ _ hsp] at this
  exact this
 ·cases h
theorem qh1 {H : Type} {d : DataW H} {l : List (DataW H)} (h : d ∈ l) : Rows.uptoBulk d ≤ Rows.uptoBulkAll l := by
 induction l with
 | nil => cases h
 | cons x r ih =>
  simp only [Rows.uptoBulkAll]
  cases List.mem_cons.1 h with
  | inl e => subst e; omega
  | inr e => have := ih e; omega
theorem qdq {H : Type} : ∀ (l : List Tm) (ds : List (DataW H)), l.length = ds.length → (∀ (i : Nat) t d, l[i]? = some t → ds[i]? = some d → t.w ≤ Rows.uptoBulk d) → wL l ≤ Rows.uptoBulkAll ds
 | [], [], _, _ => by simp [Rows.uptoBulkAll]
 | t :: l, d :: ds, hl, h => by
  have h0 := h 0 t d rfl rfl
  have := qdq l ds (by simpa using hl) (fun i t d ht hd => h (i + 1) t d (by simpa using ht) (by simpa using hd))
  simp only [qiQ, Rows.uptoBulkAll]
  omega
theorem qhH (T : TermTys P tT tL tI tS) : ∀ (n : Nat),
  (∀ cs x, DataW.trod enc P W 0 (fun _ => true) true n tT cs = some x → ∃ t : Tm, qcd W cs t ∧ t.w ≤ Rows.uptoBulk x.1 ∧
   ∀ (W' : World) (sp : Nat → Bool), (∀ p ∈ x.2, W.sameAt W' p) → (∀ p ∈ x.2, sp p.block = true) → DataW.trod enc P W' 0 sp true n tT cs = some x) ∧
  (∀ cs x, DataW.trod enc P W 0 (fun _ => true) true n tL cs = some x → ∃ (l : List Tm) (v : Value), cs = [v] ∧ Rep (C0 W) M0 (.sl (vC l)) v ∧ wL l ≤ Rows.uptoBulk x.1 ∧
   ∀ (W' : World) (sp : Nat → Bool), (∀ p ∈ x.2, W.sameAt W' p) → (∀ p ∈ x.2, sp p.block = true) → DataW.trod enc P W' 0 sp true n tL cs = some x) := by
 intro n
 induction n with
 | zero => exact ⟨fun cs x h => by simp [DataW.trod] at h, fun cs x h => by simp [DataW.trod] at h⟩
 | succ n ih =>
  obtain ⟨ihT, ihL⟩ := ih
  refine ⟨fun cs x h => ?_, fun cs x h => ?_⟩
  ·obtain ⟨f0, f1, f2, f3, hu, t0, o0, t1, o1, t2, o2, t3, o3⟩ := T.uT
   obtain ⟨xs, n', e, rfl, hl, hxl, hx⟩ := DataW.trod_struct hu h
   obtain rfl : n' = n := by omega
   rw [T.cT] at hl
   obtain ⟨c0, c1, c2, c3, rfl⟩ : ∃ c0 c1 c2 c3, cs = [c0, c1, c2, c3] := by
    match cs, hl with
    | [a, b, c, d], _ => exact ⟨a, b, c, d, rfl⟩
   obtain ⟨x0, x1, x2, x3, rfl⟩ : ∃ c0 c1 c2 c3, xs = [c0, c1, c2, c3] := by
    match xs, hxl with
    | [a, b, c, d], _ => exact ⟨a, b, c, d, rfl⟩
   have h0 := hx 0 f0 rfl
   have h1 := hx 1 f1 rfl
   have h2 := hx 2 f2 rfl
   have h3 := hx 3 f3 rfl
   rw [t0, o0, T.cI] at h0
   rw [t1, o1, T.cI] at h1
   rw [t2, o2, T.cS] at h2
   rw [t3, o3, T.cL] at h3
   simp at h0 h1 h2 h3
   obtain ⟨k, e0, rfl, w0⟩ := DataW.trod_int T.uI h0
   obtain ⟨m, e1, rfl, w1⟩ := DataW.trod_int T.uI h1
   obtain ⟨s, e2, rfl, w2⟩ := DataW.trod_string T.uS h2
   obtain ⟨l, v, e3, hr, hb, hback⟩ := ihL _ _ h3
   simp at e0 e1 e2 e3
   subst e0 e1 e2 e3
   refine ⟨.mk k m s.data.toList l, ⟨rfl, fun j a u ha hu => ?_⟩, ?_, fun W' sp hs hp => ?_⟩
   ·rw [Tm.cells_mk] at ha
    match j, ha, hu with
    | 0, ha, hu => simp at ha hu; subst ha hu; exact ⟨rfl, .int _ _⟩
    | 1, ha, hu => simp at ha hu; subst ha hu; exact ⟨rfl, .int _ _⟩
    | 2, ha, hu =>
     simp at ha hu; subst ha hu
     refine ⟨rfl, ?_⟩
     have := Rep.str (C := C0 W) (μ := M0) s.data.toList
     simpa using this
    | 3, ha, hu => simp at ha hu; subst ha hu; exact ⟨rfl, hr⟩
    | (j + 4), ha, hu => simp at ha
   ·simp only [List.map_cons, List.map_nil, Rows.uptoBulk, Rows.uptoBulkAll]
    rw [Tm.w_mk]
    omega
   ·have hs3 : ∀ p ∈ x3.2, W.sameAt W' p := fun p hp => hs p (by simp [hp])
    have hp3 : ∀ p ∈ x3.2, sp p.block = true := fun p hpp => hp p (by simp [hpp])
    have b3 := hback W' sp hs3 hp3
    have b0 : DataW.trod enc P W' 0 sp true n' tI [Value.int .i64 k] = some (.lit (.int .i64 k), []) := by
     cases n' with
     | zero => simp [DataW.trod] at h0
     | succ q => simp [DataW.trod, T.uI, w0]
    have b1 : DataW.trod enc P W' 0 sp true n' tI [Value.int .i64 m] = some (.lit (.int .i64 m), []) := by
     cases n' with
     | zero => simp [DataW.trod] at h0
     | succ q => simp [DataW.trod, T.uI, w1]
    have b2 : DataW.trod enc P W' 0 sp true n' tS [Value.string s] = some (.lit (.string s.data.toList), []) := by
     cases n' with
     | zero => simp [DataW.trod] at h0
     | succ q => simp [DataW.trod, T.uS, w2]
    unfold DataW.trod
    rw [hu]
    simp [T.cT, t0, o0, t1, o1, t2, o2, t3, o3, T.cI, T.cS, T.cL, b0, b1, b2, b3]
  ·rcases DataW.trod_slice T.uL h with ⟨rfl, rfl⟩ | ⟨a, len, cap, elems, rest, n', e, rfl, rfl, hb, hlc, hmx, hel, hg, hsp, _⟩
   ·refine ⟨[], _, rfl, by rw [qhz]; exact .slNil, by simp, fun W' sp _ _ => ?_⟩
    simp [DataW.trod, T.uL]
   ·obtain rfl : n' = n := by omega
    obtain ⟨hrl, hrg⟩ := hsp rfl
    have one : ∀ (i : Nat) (y : DataW H × List MemPlace), (W.cells? 0 (a.add (i * P.cellsOf tT)) (P.cellsOf tT)).bind (DataW.trod enc P W 0 (fun _ => true) true n' tT) = some y →
      ∃ cs', W.cells? 0 (a.add (i * 4)) 4 = some cs' ∧ DataW.trod enc P W 0 (fun _ => true) true n' tT cs' = some y := by
     intro i y hy
     rw [T.cT] at hy
     exact qjw.1 hy
    -- the terms
    have tms : ∃ f : Nat → Tm, ∀ (i : Nat) y, elems[i]? = some y → ∃ cs', W.cells? 0 (a.add (i * 4)) 4 = some cs' ∧ qcd W cs' (f i) ∧ (f i).w ≤ Rows.uptoBulk y.1 := by
     have : ∀ i : Nat, ∃ t : Tm, ∀ y, elems[i]? = some y → ∃ cs', W.cells? 0 (a.add (i * 4)) 4 = some cs' ∧ qcd W cs' t ∧ t.w ≤ Rows.uptoBulk y.1 := by
      intro i
      cases hy : elems[i]? with
      | none => exact ⟨default, fun y h => by cases h⟩
      | some y =>
       have hi : i < len := by rw [← hel]; exact (qjv.1 hy).1
       obtain ⟨cs', h1, h2⟩ := one i y ((hg i hi).trans hy)
       obtain ⟨t, h3, h4, _⟩ := ihT _ _ h2
       exact ⟨t, fun y' hy' => by cases hy'; exact ⟨cs', h1, h3, h4⟩⟩
     exact ⟨fun i => Classical.choose (this i), fun i => Classical.choose_spec (this i)⟩
    obtain ⟨f, hf⟩ := tms
    have hget : ∀ (i : Nat) (row : List AV), (vC ((List.range len).map f))[i]? = some row → i < len ∧ row = (f i).cells := by
     intro i row hi
     have hil : i < len := by have := (qjv.1 hi).1; simpa using this
     refine ⟨hil, ?_⟩
     rw [qhA, List.getElem?_map, List.getElem?_range hil] at hi
     simpa using hi.symm
    have hcell : ∀ (i j : Nat) (row : List AV) x, (vC ((List.range len).map f))[i]? = some row → row[j]? = some x → a.spot = none ∧ x.isCell = true ∧ ∃ v, W.cell? ⟨a.block, a.off + i * 4 + j, none⟩ = some v ∧ Rep (C0 W) M0 x v := by
     intro i j row x hi hj
     obtain ⟨hil, rfl⟩ := hget i row hi
     obtain ⟨cs', h1, h2, _⟩ := hf i _ (qjz (by omega))
     obtain ⟨s1, s2, s3⟩ := xM h1 (by omega)
     have hspot : a.spot = none := by
      obtain ⟨cs0, q1, _⟩ := hf 0 _ (qjz (by omega))
      have := (xM q1 (by omega)).1
      simpa [Addr.add] using this
     have hjl : j < cs'.length := by
      rw [h2.1]
      have := (qjv.1 hj).1
      cases hfi : f i with
      | mk k n s l => rw [hfi, Tm.cells_mk] at this; simpa using this
     have h4 := h2.2 j x _ hj (qjz hjl)
     refine ⟨hspot, h4.1, _, ?_, h4.2⟩
     have := s3 j _ (qjz hjl)
     rw [vq _ _ hspot] at this
     exact this
    refine ⟨(List.range len).map f, _, rfl, ?_, ?_, fun W' sp hs hp => ?_⟩
    ·have := Rep.sl (C := C0 W) (μ := M0) (vC ((List.range len).map f)) a cap 4 (fun i j => (W.cell? ⟨a.block, a.off + i * 4 + j, none⟩).getD undef) (fun hne => ?_) (fun i row hi => ?_) (fun i j row x hi hj => ?_) (fun i j row x hi hj => ?_) (fun i j row x hi hj => ?_) (by simpa using hlc) (qgE _)
     ·simpa using this
     ·have hl0 : 0 < len := by
       rcases Nat.eq_zero_or_pos len with h0 | h0
       ·subst h0; exact absurd (by simp) hne
       ·exact h0
      obtain ⟨cs0, q1, _⟩ := hf 0 _ (qjz (by omega))
      have := (xM q1 (by omega)).1
      simpa [Addr.add] using this
     ·obtain ⟨_, rfl⟩ := hget i row hi
      cases hfi : f i with
      | mk k n s l => rw [Tm.cells_mk]; rfl
     ·obtain ⟨_, _, v, h1, _⟩ := hcell i j row x hi hj
      show W.cell? _ = _
      rw [h1]; rfl
     ·obtain ⟨_, _, v, h1, h2⟩ := hcell i j row x hi hj
      rw [h1]; exact h2
     ·exact (hcell i j row x hi hj).2.1
    ·simp only [Rows.uptoBulk]
     have := qdq ((List.range len).map f) (elems.map (·.1)) (by simp [hel]) (fun i t d ht hd => by
      rw [List.getElem?_map] at ht hd
      obtain ⟨j, hj, rfl⟩ := qjx.1 ht
      obtain ⟨y, hy, rfl⟩ := qjx.1 hd
      have hil : i < len := by have := (qjv.1 hj).1; simpa using this
      rw [List.getElem?_range hil] at hj
      cases hj
      obtain ⟨_, _, _, h4⟩ := hf i y hy
      exact h4)
     omega
    ·have hrow : 0 < (elems.length + rest.length) → sp a.block = true := fun hpos => hp (.cell a.block (a.off + 0)) (by
      rw [qjJ]
      exact .inl (MemPlace.mem_row.2 ⟨0, Nat.mul_pos hpos (by rw [T.cT]; omega), rfl⟩))
     unfold DataW.trod at h ⊢
     rw [T.uL] at h ⊢
     simp only [if_true] at h ⊢
     rw [if_pos ⟨hb, hlc, hmx⟩] at h ⊢
     simp only [qjx, qjw] at h ⊢
     obtain ⟨elems', he, rest', hr, hx⟩ := h
     have hlen : elems'.length = len := by simpa using mapM_some_length he
     have hrl' : rest'.length = cap - len := by simpa using mapM_some_length hr
     simp only [Prod.mk.injEq, DataW.slice.injEq] at hx
     have one' : ∀ (i : Nat) (y : DataW H × List MemPlace), i < elems'.length + rest'.length → y ∈ elems' ++ rest' →
       (W.cells? 0 (a.add (i * P.cellsOf tT)) (P.cellsOf tT)).bind (DataW.trod enc P W 0 (fun _ => true) true n' tT) = some y → (W'.cells? 0 (a.add (i * P.cellsOf tT)) (P.cellsOf tT)).bind (DataW.trod enc P W' 0 sp true n' tT) = some y := by
      intro i y hi hy hv
      simp only [qjw] at hv ⊢
      obtain ⟨cs', hc', hy'⟩ := hv
      obtain ⟨_, _, _, hbk⟩ := ihT _ _ hy'
      refine ⟨cs', World.cells?_carry hc' (fun p hpp => hs p ?_), hbk W' sp (fun p hpp => hs p ?_) (fun p hpp => hp p ?_)⟩
      ·rw [← hx.2]
       obtain ⟨j, hj, rfl⟩ := MemPlace.mem_row.1 hpp
       simp only [qjJ]
       left
       refine MemPlace.mem_row.2 ⟨i * P.cellsOf tT + j, ?_, ?_⟩
       ·calc i * P.cellsOf tT + j < i * P.cellsOf tT + P.cellsOf tT := by omega
         _ = (i + 1) * P.cellsOf tT := by rw [qjN, Nat.one_mul]
         _ ≤ (elems'.length + rest'.length) * P.cellsOf tT := qjH _ hi
       ·unfold Addr.add
        split
        ·rename_i h0
         simp [h0]
        ·simp [Nat.add_assoc]
      ·rw [← hx.2]
       simp only [qjJ, List.mem_flatMap]
       right
       exact ⟨y, by simpa using hy, hpp⟩
      ·rw [← hx.2]
       simp only [qjJ, List.mem_flatMap]
       right
       exact ⟨y, by simpa using hy, hpp⟩
     refine ⟨elems', mapM_carry he (fun i y hi hy => one' i y (by have : i < len := (by simpa using hi); omega) (by simp [hy])), rest', ?_, by simp only [Prod.mk.injEq, DataW.slice.injEq]; exact hx⟩
     by_cases h0 : 0 < elems.length + rest.length
     ·rw [if_pos (hrow h0)]
      exact mapM_carry hr (fun j y hj hy => one' (len + j) y (by have : j < cap - len := (by simpa using hj); omega) (by simp [hy]))
     ·have hc0 : cap - len = 0 := by omega
      rw [hc0] at hr ⊢
      simp at hr
      subst hr
      split <;> rfl
end
end Go.Proofs.YtokeihbigipmmaaGreat
end
section
namespace Go.Proofs.YtokeihbigipmmaaGreat
open Go.Av Go.ChangeShapes Go.WideShapes Go.ChangeAt Go.RowKit
theorem qih : ownKnob Tryz.prog.godebug = none := by kernel_rfl
theorem qic : TermTys Tryz.prog 26 24 3 9 where
 uT := ⟨_, _, _, _, Tryz.underlying26, rfl, rfl, rfl, rfl, rfl, rfl, rfl, rfl⟩
 uL := Tryz.underlying24
 uI := Tryz.underlying3
 uS := Tryz.underlying9
 cT := by kernel_rfl
 cL := by kernel_rfl
 cI := by kernel_rfl
 cS := by kernel_rfl
theorem qeV (f : FuncId) (fn : Func) (h : Tryz.prog.funcs[f]? = some fn) : (fn.name == "runtime.NumGoroutine") = false := by
 have h1 := List.all_eq_true.1 qij fn (by
  rw [← Array.getElem?_toList] at h
  exact qjK h)
 simpa using h1
theorem qh0 [Lent] {args : List AV} {H H' : AH} {r : AV} {C : qb} {μ : MMap} {w : World} {vs : Array Value} (hr : qdh args H = some (r, H')) (ha : qe C μ args vs) (hw : Wld C μ H w) :
  qz Tryz.prog (callFunc 138 vs) w (qN C μ H w r H') :=
 qfn (P := Tryz.prog) Tryz.func138 (by rfl) (by rfl) (by kernel_rfl) (by kernel_rfl) hr ha hw
theorem qjj [Lent] : CfgOk cfg where
  ty := ⟨fun t ti h => BT.all_look qhs h⟩
  mixed := qeX
  named := fun f fn _ h => qeV f fn h
  ext := fun f s h args H r H' hr C μ w vs ha hw => by
    have h : xi f qa7 = some s := h
    unfold qa7 at h
    rw [xi] at h
    split at h
    · rename_i e
      have e := qjA e
      subst e
      cases h
      exact qh0 hr ha hw
    · rw [qdg] at h
      first
        | (rw [xi] at h; cases h; done)
        | (have okK : CfgOk K.cfg := {
             ty := ⟨fun t ti h => BT.all_look (show K.qeo.All _ from qhs) h⟩
             mixed := qeX
             named := fun f fn _ h => qeV f fn h
             ext := fun f s h args H r H' hr C μ w vs ha hw => by
               have h : K.xi f K.qa7 = some s := h
               unfold K.qa7 at h
               rw [K.xi] at h
               split at h
               · rename_i e
                 have e := qjA e
                 subst e
                 cases h
                 exact qh0 hr ha hw
               · rw [K.qdg, K.xi] at h
                 cases h }
           rw [xi] at h
           split at h
           · rename_i e
             have e := qjA e
             subst e
             cases h
             exact (qfC okK).calls _ _ _ _ _ hr C μ w vs _ ha hw rfl
           · rw [xi] at h
             cases h)
theorem qhB {f : FuncId} {args : List AV} {vs : Array Value} {W : World} (hx : cfg.ext f = none) (he : EVs (EV cfg) f args = some (.bool true)) (ha : qe (C0 W) M0 args vs) :
  Calls Tryz.prog f vs W fun e W' => e = .returned (.bool true) ∧ (∀ b, b < W.heap.size → W'.heap[b]? = W.heap[b]?) ∧ W.heap.size ≤ W'.heap.size ∧ W'.os = W.os ∧ W'.output = W.output := by
 unfold EVs at he
 obtain ⟨q, h1, h2⟩ := qjx.1 he
 have := qiC qjj hx (r := q.1) (H' := q.2) h1 ha (wld0 W)
 refine this.mono fun e W' ⟨v, hv, C', μ', p1, p2, p3⟩ => ?_
 rw [h2] at p1
 cases p1
 refine ⟨hv, fun b hb => (p3.fr b hb vA).1, p3.size, p3.os, p3.output⟩
section
variable {H : Type} {enc : TypeId × Value → H} {P : Program} {W W' : World}
theorem qhE {f : Func} {s : ChangeSpec} {apart fresh handsOn again : Bool} {args : Array Value} {v : Value} {ds gs : List (DataW H)} {before pa pv : List MemPlace}
  (hW : DataW.Whole enc P f.params.toList s.vars apart W args.toList ds gs before)
  (hres : ∀ (b : Nat) (sp : Nat → Bool) (hd : Bool), DataW.TrodAll enc P W' b sp hd f.resultTypes.toList (v.resultList f.resultTypes.size) (s.fn H (ds ++ gs)).results [])
  (hargs : ∀ sp : Nat → Bool, (∀ p ∈ before, sp p.block = true) → DataW.TrodAll enc P W' 0 sp true f.params.toList args.toList (s.fn H (ds ++ gs)).args pa)
  (hvars : ∀ sp : Nat → Bool, (∀ p ∈ before, sp p.block = true) → DataW.TrodVars enc P W' sp s.vars (s.fn H (ds ++ gs)).vars pv)
  (hps : before = pa ++ pv) (hk : W.keptBut W' (· ∈ before)) (hfz : ∀ b o, b < W.heap.size → W'.frozen? ⟨b, o, none⟩ = W.frozen? ⟨b, o, none⟩)
  (hok : ∀ (j : Nat) (t : TypeId) (r : Value), f.resultTypes[j]? = some t → (v.resultList f.resultTypes.size)[j]? = some r → Value.okWide P W' .any 0 t r) :
  s.post enc P f apart fresh handsOn again W args v W' := by
 have hlt := hW.lt
 have hold : ∀ p ∈ before, (fun b => decide (b < W.heap.size)) p.block = true := fun p hp => by simpa using hlt p hp
 refine ⟨ds, gs, before, [], pa, pv, hW, hres _ _ _, hargs _ hold, hvars _ hold, World.keptBut_mono (fun p hp => ⟨hp, ?_⟩) hk, fun _ => ?_⟩
 ·rw [hps, qjJ] at hp
  exact Or.inr hp
 ·obtain ⟨_, _, _, _, _, hz, hn⟩ := hW
  refine ⟨hok, _, _, ([] ++ pa) ++ pv, ⟨[] ++ pa, pv, trodAll_append (hargs _ (fun _ _ => rfl)) (hres _ _ _), hvars _ (fun _ _ => rfl), rfl, ?_, ?_⟩, ?_⟩
  ·intro b off hp
   have hp' : MemPlace.cell b off ∈ before := by rw [hps]; simpa using hp
   rw [hfz b off (hlt _ hp')]
   exact hz b off hp'
  ·intro ha
   have := hn ha
   rw [hps] at this
   simpa using this
  ·intro p hp _
   rw [hps]
   simpa using hp
theorem qe0 (h : ∀ b, b < W.heap.size → W'.heap[b]? = W.heap[b]?) (ho : W'.os = W.os) (hu : W'.output = W.output) (may : MemPlace → Prop) : W.keptBut W' may := by
 refine ⟨ho, hu, fun i hi => ?_⟩
 rw [h i hi]
 cases W.heap[i]? with
 | none => rfl
 | some o => cases o <;> simp
theorem qaI (h : ∀ b, b < W.heap.size → W'.heap[b]? = W.heap[b]?) {p : MemPlace} (hp : p.block < W.heap.size) : W.sameAt W' p := by
 cases p with
 | cell b o => simp only [World.sameAt, World.cell?]; rw [h b hp]
 | map b => exact h b hp
theorem qdM (h : ∀ b, b < W.heap.size → W'.heap[b]? = W.heap[b]?) (b o : Nat) (hb : b < W.heap.size) : W'.frozen? ⟨b, o, none⟩ = W.frozen? ⟨b, o, none⟩ := by
 simp only [World.frozen?]; rw [h b hb]
structure Opened (enc : TypeId × Value → H) (P : Program) (W : World) (t : TypeId) (v : Value) (d : DataW H) (ps : List MemPlace) (a : AV) : Prop where
 rep : Rep (C0 W) M0 a v
 back : ∀ (W' : World) (sp : Nat → Bool), (∀ p ∈ ps, W.sameAt W' p) → (∀ p ∈ ps, sp p.block = true) → DataW.Trod enc P W' 0 sp true t v d ps
theorem qhG {tT tL tI tS : TypeId} (T : TermTys P tT tL tI tS) {r : Reach} {b0 : Nat} {v : Value} {d : DataW H} {ps : List MemPlace} (hval : Value.okWide P W r b0 tT v) (hd : DataW.Trod enc P W 0 (fun _ => true) true tT v d ps) :
  ∃ t : Tm, Opened enc P W tT v d ps t.av ∧ t.w ≤ Rows.uptoBulk d := by
 obtain ⟨f0, f1, f2, f3, hu, _⟩ := T.uT
 obtain ⟨cs, rfl, hsz⟩ := okWide_struct hu hval
 obtain ⟨n, hn⟩ := hd
 obtain ⟨t, h1, h2, h3⟩ := (qhH T n).1 _ _ hn
 refine ⟨t, ⟨?_, fun W' sp hs hp => ⟨n, h3 W' sp hs hp⟩⟩, h2⟩
 have := Rep.agg (C := C0 W) (μ := M0) t.cells cs.toList (by
  have := h1.1
  cases t with
  | mk k n s l => rw [Tm.cells_mk]; simpa [Value.cells] using this.symm) (fun i a v ha hv => (h1.2 i a v ha (by simpa [Value.cells] using hv)).2)
 simpa [Tm.av] using this
end
theorem qi2 {H : Type} {l : List (DataW H)} (hk : Rows.uptoSmall H l = true) {d : DataW H} (hd : d ∈ l) : Rows.uptoBulk d < 1099511627776 := by
 have h : Rows.uptoBulkAll l ≤ 1048576 := of_decide_eq_true hk
 have := qh1 hd
 omega
theorem qiT {C : qb} {a b : AV} {x y : Value} (h1 : Rep C M0 a x) (h2 : Rep C M0 b y) : qe C M0 [a, b] #[x, y] := ⟨rfl, fun i c v hc hv => by
 match i, hc, hv with
 | 0, hc, hv => simp at hc hv; subst hc hv; exact h1
 | 1, hc, hv => simp at hc hv; subst hc hv; exact h2
 | (i + 2), hc, hv => simp at hc⟩
noncomputable def qjl : Den := evC cfg (EV cfg) 4 none 0 (sub (xA Tryz.f4) [1, 1, 0, 1, 0, 0])
noncomputable def qjo : Ex × List AV × AH → Option AV := kAft (Cfg.keepOut cfg 4 3) (kRun cfg (EV cfg) (kfN cfg 6) 4 none 0 (qiI cfg (Cfg.lift cfg 4 0) Tryz.f4.results.toList) ([.block 0, .seq (sub (xA Tryz.f4) [1, 1, 1])]))
noncomputable def qfA : List AV × AH → Option AV := fun p => kOpt (LOOP 0 (some [0, 3, 5, 6]) ([]) qjl p) qjo
noncomputable abbrev qhr (W : Rz) (kt nt : Int) (st : Bz) (lt : Rz) : Option (AV) := qfA  (((fx 83 [(0, .sl W), (3, .ptr 0 0 0), (5, .ms 1 0 2), (6, .int .i64 (0 : Int))]) : List AV), ([.rows false 4 [[.int .i64 kt, .int .i64 nt, .str st, .sl lt]], .rows false 1 [[.nilP], [.ptr 2 0 0]], .rows false 7 [[.nilP, .int .i64 (0 : Int), .int .i64 (0 : Int), .str [], .nilS, .nilS, .int .i64 (0 : Int)]]] : AH))
noncomputable abbrev qgl (W : Rz) (kt nt : Int) (st : Bz) (lt : Rz) : Option (AV) := qfA  (((fx 83 [(0, .sl W), (3, .ptr 0 0 0), (5, .ms 1 0 2), (6, .int .i64 (1 : Int))]) : List AV), ([.rows false 4 [[.int .i64 kt, .int .i64 nt, .str st, .sl lt]], .rows false 1 [[.nilP], [.ptr 2 0 0]], .rows false 7 [[.nilP, .int .i64 (0 : Int), .int .i64 (0 : Int), .str [], .nilS, .nilS, .int .i64 (0 : Int)]]] : AH))
noncomputable abbrev qgk (W : Rz) (kt nt : Int) (st : Bz) (lt : Rz) : Option (AV) := qfA  (((fx 83 [(0, .sl W), (3, .ptr 0 0 0), (5, .ms 1 0 2), (6, .int .i64 (2 : Int))]) : List AV), ([.rows false 4 [[.int .i64 kt, .int .i64 nt, .str st, .sl lt]], .rows false 1 [[.nilP], [.ptr 2 0 0]], .rows false 7 [[.nilP, .int .i64 (0 : Int), .int .i64 (0 : Int), .str [], .nilS, .nilS, .int .i64 (0 : Int)]]] : AH))
theorem qef (W : Rz) (kt nt : Int) (st : Bz) (lt : Rz) {P : AV → Prop} (h : Gets (qhr W kt nt st lt) P) : Gets (EVs (EV cfg) 4 [.sl W, .agg [.int .i64 kt, .int .i64 nt, .str st, .sl lt]]) P :=
  gE (fun _ => funS rfl rfl Tryz.func4 rfl) (by kernel_rfl) h
theorem qfG (W : Rz) (kt nt : Int) (st : Bz) (lt : Rz) {P : AV → Prop} (h : Gets (kOpt (EVs (EV cfg) 12 [.agg [.int .i64 0, .int .i64 0, .str [], .sl []], .agg [.int .i64 0, .int .i64 0, .str [], .sl []]]) fun v => xl v fun b => bif ! b then some (.bool false) else kOpt (EVs (EV cfg) 12 [.agg [.int .i64 0, .int .i64 0, .str [], .sl []], .agg [.int .i64 0, .int .i64 (0 : Int), .str [], .sl []]]) fun v => xl v fun b => bif ! b then some (.bool false) else qgl W kt nt st lt) P) : Gets (qhr W kt nt st lt) P :=
  gE (fun _ => qaS (cfg := cfg) (f := 4) (rd := none) (bs := 0)) (by kernel_rfl) h
theorem qeF (W : Rz) (kt nt : Int) (st : Bz) (lt : Rz) {P : AV → Prop} (h : Gets (kOpt (EVs (EV cfg) 12 [.agg [.int .i64 0, .int .i64 0, .str [], .sl []], .agg [.int .i64 0, .int .i64 0, .str [], .sl []]]) fun v => xl v fun b => bif ! b then some (.bool false) else kOpt (EVs (EV cfg) 12 [.agg [.int .i64 0, .int .i64 0, .str [], .sl []], .agg [.int .i64 0, .int .i64 (0 : Int), .str [], .sl []]]) fun v => xl v fun b => bif ! b then some (.bool false) else qgk W kt nt st lt) P) : Gets (qgl W kt nt st lt) P :=
  gE (fun _ => qaS (cfg := cfg) (f := 4) (rd := none) (bs := 0)) (by kernel_rfl) h
theorem qeE (W : Rz) (kt nt : Int) (st : Bz) (lt : Rz) {P : AV → Prop} (h : Gets (kOpt (EVs (EV cfg) 10 []) fun v => xl v fun b => some (.bool b)) P) : Gets (qgk W kt nt st lt) P :=
  gE (fun _ => qaS (cfg := cfg) (f := 4) (rd := none) (bs := 0)) (by kernel_rfl) h
theorem qcN : EVs (EV cfg) 81 [.agg [.int .i64 9, .int .i64 0, .str [], .sl [[.int .i64 7, .int .i64 0, .str [], .sl [[.int .i64 7, .int .i64 0, .str [], .sl [[.int .i64 2, .int .i64 0, .str [36, 49], .sl []], [.int .i64 2, .int .i64 0, .str [97], .sl []]]], [.int .i64 8, .int .i64 0, .str [], .sl []], [.int .i64 9, .int .i64 0, .str [], .sl [[.int .i64 2, .int .i64 0, .str [36, 49], .sl []], [.int .i64 8, .int .i64 0, .str [], .nilS]]]]], [.int .i64 8, .int .i64 0, .str [], .nilS]]]] = some (.int .i64 0) := qde (.nil) 1000 1000 (by kernel_rfl)
theorem qcM : EVs (EV cfg) 81 [.agg [.int .i64 7, .int .i64 0, .str [], .sl [[.int .i64 2, .int .i64 0, .str [36, 49], .sl []], [.int .i64 2, .int .i64 0, .str [97], .sl []]]]] = some (.int .i64 0) := qde (.nil) 1000 1000 (by kernel_rfl)
theorem qcL : EVf (EV cfg) 104 [.agg [.int .i64 7, .int .i64 0, .str [], .sl [[.int .i64 2, .int .i64 0, .str [36, 49], .sl []], [.int .i64 2, .int .i64 0, .str [97], .sl []]]]] = some (.sl [[.int .i64 1]]) := qeA (.consS qcM (.nil)) 1000 1000 (by kernel_rfl)
theorem zx : EVs (EV cfg) 90 [.agg [.int .i64 2, .int .i64 0, .str [36, 49], .sl []]] = some (.tup [.int .i64 1, .bool true]) := qde (.nil) 1000 1000 (by kernel_rfl)
theorem qcK : EVf (EV cfg) 88 [.agg [.int .i64 7, .int .i64 0, .str [], .sl [[.int .i64 7, .int .i64 0, .str [], .sl [[.int .i64 2, .int .i64 0, .str [36, 49], .sl []], [.int .i64 2, .int .i64 0, .str [97], .sl []]]], [.int .i64 8, .int .i64 0, .str [], .sl []], [.int .i64 9, .int .i64 0, .str [], .sl [[.int .i64 2, .int .i64 0, .str [36, 49], .sl []], [.int .i64 8, .int .i64 0, .str [], .nilS]]]]]] = some (.tup [.agg [.int .i64 7, .int .i64 0, .str [], .sl [[.int .i64 2, .int .i64 0, .str [36, 49], .sl []], [.int .i64 2, .int .i64 0, .str [97], .sl []]], .sl [], .sl [[.int .i64 2, .int .i64 0, .str [36, 49], .sl []]]], .bool true]) := qeA (.consF qcL (.consS zx (.nil))) 1000 1000 (by kernel_rfl)
theorem qcJ : EVf (EV cfg) 49 [.agg [.int .i64 9, .int .i64 0, .str [], .sl [[.int .i64 7, .int .i64 0, .str [], .sl [[.int .i64 7, .int .i64 0, .str [], .sl [[.int .i64 2, .int .i64 0, .str [36, 49], .sl []], [.int .i64 2, .int .i64 0, .str [97], .sl []]]], [.int .i64 8, .int .i64 0, .str [], .sl []], [.int .i64 9, .int .i64 0, .str [], .sl [[.int .i64 2, .int .i64 0, .str [36, 49], .sl []], [.int .i64 8, .int .i64 0, .str [], .nilS]]]]], [.int .i64 8, .int .i64 0, .str [], .nilS]]]] = some (.tup [.sl [[.int .i64 7, .int .i64 0, .str [], .sl [[.int .i64 2, .int .i64 0, .str [36, 49], .sl []], [.int .i64 2, .int .i64 0, .str [97], .sl []]], .sl [], .sl [[.int .i64 2, .int .i64 0, .str [36, 49], .sl []]]]], .int .i64 0]) := qeA (.consS qcN (.consF qcK (.nil))) 1000 1000 (by kernel_rfl)
theorem qcI : EVf (EV cfg) 24 [.agg [.int .i64 9, .int .i64 0, .str [], .sl [[.int .i64 7, .int .i64 0, .str [], .sl [[.int .i64 7, .int .i64 0, .str [], .sl [[.int .i64 2, .int .i64 0, .str [36, 49], .sl []], [.int .i64 2, .int .i64 0, .str [97], .sl []]]], [.int .i64 8, .int .i64 0, .str [], .sl []], [.int .i64 9, .int .i64 0, .str [], .sl [[.int .i64 2, .int .i64 0, .str [36, 49], .sl []], [.int .i64 8, .int .i64 0, .str [], .nilS]]]]], [.int .i64 8, .int .i64 0, .str [], .nilS]]]] = some (.agg [.int .i64 9, .int .i64 0, .str [], .sl [[.int .i64 7, .int .i64 0, .str [], .sl [[.int .i64 7, .int .i64 0, .str [], .sl [[.int .i64 2, .int .i64 0, .str [36, 49], .sl []], [.int .i64 2, .int .i64 0, .str [97], .sl []]]], [.int .i64 8, .int .i64 0, .str [], .sl []], [.int .i64 9, .int .i64 0, .str [], .sl [[.int .i64 2, .int .i64 0, .str [36, 49], .sl []], [.int .i64 8, .int .i64 0, .str [], .sl []]]]]], [.int .i64 8, .int .i64 0, .str [], .sl []]]]) := qeA (.nil) 1000 1000 (by kernel_rfl)
theorem qcH : EVs (EV cfg) 10 [] = some (.bool true) := qde (.consF qcJ (.consS zx (.consF qcI (.nil)))) 1000 1000 (by kernel_rfl)
theorem qbC : EVs (EV cfg) 12 [.agg [AV.int .i64 0, .int .i64 0, .str [], .sl []], .agg [AV.int .i64 0, .int .i64 0, .str [], .sl []]] = some (.bool true) := qde (.nil) 1000 1000 (by kernel_rfl)
theorem qdH (W : List (List AV)) (t : Tm) : EVs (EV cfg) 4 [.sl W, t.av] = some (.bool true) := by
 obtain ⟨kk, nk, sk, lk⟩ := t
 rw [Tm.av_mk]
 apply Gets.get
 refine qef _ _ _ _ _ ?_
 refine qfG _ _ _ _ _ ?_
 rw [qbC]
 simp only [kOpt, xl, Bool.not_true, cond_false]
 refine qeF _ _ _ _ _ ?_
 rw [qbC]
 simp only [kOpt, xl, Bool.not_true, cond_false]
 refine qeE _ _ _ _ _ ?_
 rw [qcH]
 simp
end Go.Proofs.YtokeihbigipmmaaGreat
end
