/-
  Parts of the proof of MachineKnownUptoSaid, put together: the abstract evaluation and its contracts. Own work.
  What is proved: each lemma as it stands; no condition.
-/
import Derived.KernelRfl
import Derived.Test.YtokeihbigipmmaaGreatProg
import Derived.Lib.Bytealg
import Derived.Test.YtokeihbigipmmaaGreatRows
import Derived.ProofKit
import Derived.OpenShut
import Derived.JoinedCond
import Derived.ChangeArms
import Derived.RowKit
import Derived.WalkKit
import Derived.Test.YtokeihbigipmmaaGreatZMachineKnownM2
open List renaming getElem?_eq_some_iff → qgv, getElem?_eq_getElem → qgA, getElem?_set → qgC, getElem?_append_left → qgD, getElem?_append_right → qgE, mem_of_getElem? → qgH, mem_append → qgI, replicate → qgJ
open Option renaming map_eq_some_iff → qgw, bind_eq_some_iff → qgx, bind_some → qgK
open Nat renaming le_refl → qgy, eq_of_beq_eq_true → qgB, mul_le_mul_right → qgG, beq → qgL
open Bool renaming and_eq_true → qgz, false_eq_true → qgF
set_option maxRecDepth 1000000
set_option maxHeartbeats 0
section
namespace Go.Av
variable {C C' C1 C2 : qa} {μ μ' μ1 : MMap} {H H' H1 H2 : AH} {w w' w1 : World} {P : Program}
theorem z8 [Lent] {cfg : Cfg} (hc : CfgTy cfg) {cf : Orac} (hO : OracOk2 cfg cf) (hmx : cfg.P.follows .mixedOrders = true) {F : Fence} {rd : Option Nat} {f B k : Nat} : ∀ (c : Code) {fr : List AV} {H : AH} {r : Ex × List AV × AH}, evC cfg cf f rd k c fr H = some r →
  ∀ {C : qa} {μ : MMap} {w : World} {a : Act}, k ≤ H.length → RdOk rd F μ k → qc C μ fr a.tmps → Wld C μ H w → yh B μ H w a.defers → c.wpIn F 0 cfg.P (xH k B C μ H w r) a w := by
 intro c
 induction c with
 | skip =>
  intro fr H r he C μ w a hk hrd hf hw hm
  rw [evC.eq_def] at he; simp only at he; cases he
  exact wpIn_skip ⟨rfl, C, μ, hf, hw, Ext.refl hk, hm⟩
 | label l =>
  intro fr H r he C μ w a hk hrd hf hw hm
  rw [evC.eq_def] at he; simp only at he; cases he
  exact wpIn_label ⟨rfl, C, μ, hf, hw, Ext.refl hk, hm⟩
 | exit id =>
  intro fr H r he C μ w a hk hrd hf hw hm
  rw [evC.eq_def] at he; simp only at he; cases he
  exact wpIn_exit ⟨rfl, C, μ, hf, hw, Ext.refl hk, hm⟩
 | ret =>
  intro fr H r he C μ w a hk hrd hf hw hm
  rw [evC.eq_def] at he; simp only at he; cases he
  exact wpIn_ret ⟨rfl, C, μ, hf, hw, Ext.refl hk, hm⟩
 | goto l =>
  intro fr H r he
  rw [evC.eq_def] at he; simp only at he; cases he
 | refuse s =>
  intro fr H r he
  rw [evC.eq_def] at he; simp only at he; cases he
 | region id ops draw =>
  intro fr H r he C μ w a hk hrd hf hw hm
  rw [evC.eq_def] at he
  simp only at he
  have fin : ∀ (fr' : List AV) (H' : AH) C' μ' w' (a' : Act), qc C' μ' fr' a'.tmps → Wld C' μ' H' w' → Ext H.length C μ H w C' μ' H' w' → a'.defers = a.defers → xH k B C μ H w (.normal, fr', H') .normal a' w' :=
   fun fr' H' C' μ' w' a' g1 g2 g3 g4 => ⟨rfl, C', μ', g1, g2, g3.less hk, by rw [g4]; exact hm.ext g3⟩
  cases draw with
  | true =>
   simp only [if_true] at he
   split at he
   case isFalse => cases he
   rename_i hst
   obtain ⟨q, hq, he⟩ := qgx.1 he
   split at he
   case isFalse => cases he
   rename_i hdy
   obtain ⟨fps, fr', H'⟩ := q
   cases he
   exact qeD hc hO.calls hmx hrd.wide hst hq hdy hf hw (fin fr' H')
  | false =>
   simp only [qgF, if_false] at he
   obtain ⟨q, hq, e⟩ := qgw.1 he
   obtain ⟨fr', H'⟩ := q
   cases e
   refine wpIn_region ?_
   have := yW hc hO.calls hrd.wide (Q := xH k B C μ H w (.normal, fr', H')) ops.toList 0 hq (fun i => by rw [Array.getElem?_toList, Nat.zero_add]) hf hw (fin fr' H')
   rw [List.range_eq_range']
   simpa using this
 | seq x y ihx ihy =>
  intro fr H r he C μ w a hk hrd hf hw hm
  rw [evC.eq_def] at he
  simp only at he
  obtain ⟨q, hq, he⟩ := qgx.1 he
  refine wpIn_seq (wpIn_mono (ihx hq hk hrd hf hw hm) fun e a1 w1 hp => ?_)
  cases hq1 : q.1 with
  | normal =>
   obtain ⟨h1, C1, μ1, h2, h3, h4, h5⟩ := hp
   rw [hq1] at h1 he
   subst h1
   refine wpIn_mono (ihy he h4.len (hrd.ext h4.mu (qgy _)) (xC h2) h3 h5) fun e' a2 w2 hp2 => hp2.mono h4 (qgy _)
  | exit id =>
   rw [hq1] at he
   cases he
   have : e = .exit id := by rw [hp.1, hq1]; rfl
   subst this
   exact ⟨rfl, hp.2⟩
  | goto l =>
   rw [hq1] at he
   cases he
   have : e = .goto l := by rw [hp.1, hq1]; rfl
   subst this
   exact ⟨rfl, hp.2⟩
  | ret =>
   rw [hq1] at he
   cases he
   have : e = .ret := by rw [hp.1, hq1]; rfl
   subst this
   exact ⟨rfl, hp.2⟩
 | cond c x y ihx ihy =>
  intro fr H r he C μ w a hk hrd hf hw hm
  rw [evC.eq_def] at he
  simp only at he
  split at he
  case h_2 => cases he
  rename_i t ht
  have hcr := yk hf c
  rw [ht] at hcr
  generalize hv : a.eval c = v at hcr
  cases hcr
  cases t with
  | true => exact wpIn_cond_true hv (ihx (by simpa using he) hk hrd hf hw hm)
  | false => exact wpIn_cond_false hv (ihy (by simpa using he) hk hrd hf hw hm)
 | block id x ih =>
  intro fr H r he C μ w a hk hrd hf hw hm
  rw [evC.eq_def] at he
  simp only at he
  obtain ⟨q, hq, he⟩ := qgx.1 he
  refine wpIn_block (wpIn_mono (ih hq hk hrd hf hw hm) fun e a1 w1 hp => ?_)
  cases hq1 : q.1 with
  | normal =>
   rw [hq1] at he
   cases he
   have : e = .normal := by rw [hp.1, hq1]; rfl
   subst this
   exact hp
  | exit id' =>
   rw [hq1] at he
   simp only at he
   have : e = .exit id' := by rw [hp.1, hq1]; rfl
   subst this
   simp only [Exit.inBlock]
   by_cases e : id' = id
   ·subst e
    rw [if_pos (Nat.beq_refl _)] at he
    cases he
    rw [if_pos rfl]
    exact ⟨rfl, hp.2⟩
   ·have : ¬ qgL id' id = true := fun h => e (qgB h)
    rw [if_neg this] at he
    cases he
    rw [if_neg e]
    exact hp
  | goto l =>
   rw [hq1] at he
   cases he
   have : e = .goto l := by rw [hp.1, hq1]; rfl
   subst this
   exact hp
  | ret =>
   rw [hq1] at he
   cases he
   have : e = .ret := by rw [hp.1, hq1]; rfl
   subst this
   exact hp
 | loop x ih =>
  intro fr H r he C μ w a hk hrd hf hw hm
  rw [evC.eq_def] at he
  simp only at he
  obtain ⟨q, hq, e⟩ := qgw.1 he
  obtain ⟨n, hn⟩ := yx hq
  obtain ⟨μ', g1, g2, g3⟩ := qda hw hf (cfg.keepIn f (qh x)) (cfg.lift f (qh x)) k hk
  refine wpIn_mono (wpIn_loop_rounds n (qaA (rd := rd) (fun hq => ih hq) hk n hn g3.len (hrd.ext g3.mu (qgy _)) g2 g1 (hm.ext g3) g3)) fun e' a' w' hp => ?_
  obtain ⟨h1, C1, μ1, h2, h3, h4, h5⟩ := hp
  subst e
  exact ⟨h1, C1, μ1, xC h2, h3, h4, h5⟩
 | scope x ih =>
  intro fr H r he C μ w a hk hrd hf hw hm
  rw [evC.eq_def] at he
  simp only at he
  obtain ⟨q, hq, he⟩ := qgx.1 he
  have hqr : (∀ l, q.1 ≠ .goto l) ∧ q = r := by
   cases hq1 : q.1 with
   | goto l => rw [hq1] at he; cases he
   | normal => rw [hq1] at he; simp only [Option.some.injEq] at he; exact ⟨nofun, he⟩
   | exit id => rw [hq1] at he; simp only [Option.some.injEq] at he; exact ⟨nofun, he⟩
   | ret => rw [hq1] at he; simp only [Option.some.injEq] at he; exact ⟨nofun, he⟩
  obtain ⟨h1, rfl⟩ := hqr
  refine qdv (ih hq hk hrd hf hw hm) fun l a1 w1 hp => ?_
  have := hp.1
  cases hq1 : q.1 with
  | goto l => exact h1 l hq1
  | _ => rw [hq1] at this; cases this
 | rangeFunc g ps assign body =>
  intro fr H r he C μ w a hk hrd hf hw hm
  rw [evC.eq_def] at he
  simp only at he
  obtain ⟨a1, a2, a3, a4⟩ := yb (cfg.lift f (qh body)) hw hf
  exact wpIn_mono (qbf hO he (Nat.le_trans hk a3) hrd a2 a1 (hm.ext (a4 k hk))) fun e a' w' hp => hp.mono (a4 k hk) (qgy _)
def y7 (tmps : Array Value) : ResultVar → Sem Value
 | .tmp t => pure (tmps.getD t undef)
 | .cell a t => do loadVar t (← asAddr (tmps.getD a undef))
theorem xY [Lent] {cfg : Cfg} (hc : CfgTy cfg) {fr : List AV} {tmps : Array Value} (hf : qc C μ fr tmps) (hw : Wld C μ H w) : ∀ (rs : List ResultVar) {vs : List AV}, q9 rs cfg.ty fr H = some vs →
  ∃ us : List Value, (rs.mapM (y7 tmps)).run cfg.P w = .ok us w ∧ vs.length = us.length ∧
   ∀ (i : Nat) a v, vs[i]? = some a → us[i]? = some v → Rep C μ a v
 | [], vs, he => by
  simp only [q9] at he
  cases he
  exact ⟨[], by simp, rfl, fun i a v h => by simp at h⟩
 | .tmp t :: l, vs, he => by
  simp only [q9] at he
  obtain ⟨vs', hvs, e⟩ := qgw.1 he
  cases e
  obtain ⟨us, h1, h2, h3⟩ := xY hc hf hw l hvs
  refine ⟨tmps.getD t undef :: us, ?_, by simp [h2], fun i a v e1 e2 => ?_⟩
  ·simp only [List.mapM_cons, Sem.run_bind, y7, Sem.run_pure, Result.andThen_ok, h1]
  ·cases i with
   | zero => simp at e1 e2; subst e1; subst e2; simpa [opd, Act.eval] using yk (a := ⟨tmps, []⟩) hf (.tmp t)
   | succ i => exact h3 i a v (by simpa using e1) (by simpa using e2)
 | .cell a t :: l, vs, he => by
  simp only [q9] at he
  split at he
  case h_2 => cases he
  rename_i ti hti
  obtain ⟨x, hx, he⟩ := qgx.1 he
  obtain ⟨vs', hvs, e⟩ := qgw.1 he
  cases e
  obtain ⟨us, h1, h2, h3⟩ := xY hc hf hw l hvs
  have hr : Rep C μ (fr.getD a .junk) (tmps.getD a undef) := by simpa [opd, Act.eval] using yk (a := ⟨tmps, []⟩) hf (.tmp a)
  obtain ⟨ad, u, g1, g2, g3⟩ := qbw hw (hc.ty _ _ hti) hr hx
  refine ⟨u :: us, ?_, by simp [h2], fun i a v e1 e2 => ?_⟩
  ·have ga : (y7 tmps (.cell a t)).run cfg.P w = .ok u w := by simp only [y7, g1, asAddr, Sem.run_bind, Sem.run_pure, Result.andThen_ok, g2]
   simp only [List.mapM_cons, Sem.run_bind, ga, Sem.run_pure, Result.andThen_ok, h1]
  ·cases i with
   | zero => simp at e1 e2; subst e1; subst e2; exact g3
   | succ i => exact h3 i a v (by simpa using e1) (by simpa using e2)
theorem qcu [Lent] {cfg : Cfg} (hc : CfgTy cfg) {fn : Func} {fr : List AV} {tmps : Array Value} (hf : qc C μ fr tmps) (hw : Wld C μ H w) {vs : List AV} (he : q9 fn.results.toList cfg.ty fr H = some vs) :
  ∃ v, (results fn tmps).run cfg.P w = .ok v w ∧ Rep C μ (xr vs) v := by
 obtain ⟨us, h1, h2, h3⟩ := xY hc hf hw _ he
 refine ⟨if h : us.toArray.size = 1 then us.toArray[0] else .tuple us.toArray, ?_, ?_⟩
 ·have hr : results fn tmps = (fn.results.mapM (y7 tmps) >>= fun vs => pure (if h : vs.size = 1 then vs[0] else .tuple vs)) := rfl
  rw [hr, Array.mapM_eq_mapM_toList]
  simp only [Sem.run_bind, Sem.run_map, Result.andThen_ok, Sem.run_pure, h1]
 ·cases us with
  | nil =>
   cases vs with
   | nil => exact .tup [] [] rfl (fun i a v h => by simp at h)
   | cons x l => simp at h2
  | cons u us =>
   cases vs with
   | nil => simp at h2
   | cons x l =>
    cases us with
    | nil =>
     cases l with
     | nil => simpa [xr] using h3 0 x u rfl rfl
     | cons y l => simp at h2
    | cons u' us =>
     cases l with
     | nil => simp at h2
     | cons y l =>
      have : xr (x :: y :: l) = .tup (x :: y :: l) := rfl
      rw [this, dif_neg (by simp)]
      exact .tup _ _ h2 h3
theorem qdT {cfg : Cfg} {rs : List ResultVar} {q : Ex × List AV × AH} {r : AV} (h : yB cfg rs q = some (r, H')) : (q.1 = .normal ∨ q.1 = .ret) ∧ H' = q.2.2 ∧ ∃ vs, q9 rs cfg.ty q.2.1 q.2.2 = some vs ∧ r = xr vs := by
 unfold yB at h
 split at h
 ·rename_i hq
  obtain ⟨vs, h1, e⟩ := qgw.1 h
  cases e
  exact ⟨.inl hq, rfl, vs, h1, rfl⟩
 ·rename_i hq
  obtain ⟨vs, h1, e⟩ := qgw.1 h
  cases e
  exact ⟨.inr hq, rfl, vs, h1, rfl⟩
 ·cases h
theorem zW [Lent] {fn : Func} {tmps : Array Value} {R : Ending → World → Prop} {B k : Nat} {C0 : qa} {μ0 : MMap} {H0 : AH} {w0 : World} (hB : B = w0.heap.size)
  (hend : ∀ w', Wld C μ H w' → Ext k C0 μ0 H0 w0 C μ H w' → ∃ v, (results fn tmps).run P w' = .ok v w' ∧ R (.returned v) w') : ∀ (Ds : List Nat) {w : World}, Ds.Nodup → (∀ D ∈ Ds, B ≤ D ∧ w.heap[D]? = some (.deferred (some [])) ∧ ¬ Live H μ D) →
   Wld C μ H w → Ext k C0 μ0 H0 w0 C μ H w → LeavesInM Fence.wide 0 P fn tmps R (Ds.map mark) .returning w
 | [], w, _, _, hw, hx => hend w hw hx
 | D :: Ds, w, hnd, hD, hw, hx => by
  obtain ⟨d1, d2, d3⟩ := hD D (List.mem_cons_self ..)
  obtain ⟨hnm, hnd'⟩ := List.nodup_cons.1 hnd
  refine ⟨by simp, .inl ⟨D, _, rfl, run_takeDeferred d2, ?_⟩⟩
  have hne : ∀ b, b ≠ D → (w.putObj D (.deferred none)).heap[b]? = w.heap[b]? := fun b hb => World.putObj_heap_other hb
  refine zW hB hend Ds hnd' (fun D' hD' => ?_) (hw.worldG (by simp) (fun b hb hor => hne b fun e => ?_)) ⟨hx.os, hx.tape, hx.output, by simpa using hx.size, hx.cl, hx.mu, fun b hb hnl => ?_, hx.len⟩
  ·obtain ⟨g1, g2, g3⟩ := hD D' (List.mem_cons_of_mem _ hD')
   exact ⟨g1, by rw [hne D' (fun e => hnm (by rw [← e]; exact hD'))]; exact g2, g3⟩
  ·subst e
   rcases hor with hl | ⟨o, hc⟩ | ⟨o, hc⟩
   ·exact d3 hl
   ·cases hco : C b o with
    | none => exact hc hco
    | some v =>
     have := hw.cl b o v hco
     simp only [World.cell?, d2] at this
     cases this
   ·cases hco : Lent.l b o with
    | none => exact hc hco
    | some v =>
     have := hw.lnt.1 b o v hco
     simp only [World.cell?, d2] at this
     cases this
  ·obtain ⟨f1, f2, f3⟩ := hx.fr b hb hnl
   exact ⟨by rw [hne b (by omega)]; exact f1, f2, f3⟩
variable {C C' C1 C2 : qa} {μ μ' μ1 : MMap} {H H' H1 H2 : AH} {w w' w1 : World} {P : Program}
structure CfgOk [Lent] (cfg : Cfg) : Prop where
 ty : CfgTy cfg
 mixed : cfg.P.follows .mixedOrders = true
 named : ∀ f fn, cfg.known f = true → cfg.P.funcs[f]? = some fn → (fn.name == "runtime.NumGoroutine") = false
 ext : ∀ f s, cfg.ext f = some s → ∀ args H r H', s args H = some (r, H') → ∀ C μ w vs, qc C μ args vs → Wld C μ H w → qs cfg.P (callFunc f vs) w (qB C μ H w r H')
theorem qeg {f : FuncId} {fn : Func} {c : Code} (hf : P.funcs[f]? = some fn) (hn : (fn.name == "runtime.NumGoroutine") = false) (hb : fn.body = some c) (vs : Array Value) (w : World) : (callFunc f vs).run P w = .ok (.enter f vs) w := by
 unfold callFunc
 simp only [Sem.run_bind, run_program, Result.andThen_ok, hf, hn, hb, Option.isNone_some, qgF, if_false]
 simp
theorem qfV [Lent] {args : List AV} {vs : Array Value} (h : qc C μ args vs) (n : Nat) : qc C μ (args ++ qgJ (n - args.length) .junk) (vs ++ Array.replicate (n - vs.size) undef) := by
 refine ⟨by simp [h.1], fun i a v e1 e2 => ?_⟩
 rcases Nat.lt_or_ge i args.length with hlt | hge
 ·rw [qgD hlt] at e1
  rw [Array.getElem?_append_left (by rw [← h.1]; exact hlt)] at e2
  exact h.2 i a v e1 e2
 ·rw [qgE hge] at e1
  have := qgH e1
  rw [List.mem_replicate] at this
  rw [this.2]
  exact .junk v
theorem zC [Lent] : ∀ (ps : List Tmp) {args : List AV} {vs : List Value} {fr : List AV} {tmps : Array Value}, (∀ (i : Nat) a v, args[i]? = some a → vs[i]? = some v → Rep C μ a v) → args.length = vs.length → qc C μ fr tmps →
  qc C μ (vg fr ps args) ((ps.zip vs).foldl (fun t (p, v) => t.setIfInBounds p v) tmps)
 | [], args, vs, fr, tmps, _, _, hf => by cases args <;> simpa [vg] using hf
 | p :: ps, [], vs, fr, tmps, _, hl, hf => by
  have : vs = [] := List.eq_nil_of_length_eq_zero (by simpa using hl.symm)
  subst this
  simpa [vg] using hf
 | p :: ps, x :: args, [], fr, tmps, _, hl, hf => by simp at hl
 | p :: ps, x :: args, v :: vs, fr, tmps, h, hl, hf => by
  rw [vg, List.zip_cons_cons, List.foldl_cons]
  refine zC ps (fun i a u e1 e2 => h (i + 1) a u (by simpa using e1) (by simpa using e2)) (by simpa using hl) ?_
  exact y8 (a := ⟨tmps, []⟩) (dst := some p) hf (h 0 x v rfl rfl)
theorem qfb [Lent] {cfg : Cfg} (ok : CfgOk cfg) {cf : Orac} (hO : OracOk2 cfg cf) {f : Nat} {fn : Func} {c : Code} {args : List AV} {vs : Array Value} {r : AV} (hf : cfg.P.funcs[f]? = some fn) (hb : fn.body = some c)
  (he : ((evC cfg cf f none H.length c (args ++ qgJ (fn.ntmps - args.length) .junk) H).bind fun r => yB cfg fn.results.toList (r.1, qS (cfg.lift f 0) r.2.1 r.2.2)) = some (r, H')) (ha : qc C μ args vs) (hw : Wld C μ H w) :
  CallsIn Fence.wide 0 cfg.P f vs w fun e w' => ∃ v, e = .returned v ∧ qB C μ H w r H' v w' := by
 obtain ⟨q, hq, he⟩ := qgx.1 he
 obtain ⟨h1, rfl, us, h3, rfl⟩ := qdT he
 refine callsIn_of_wp_marks hf hb trivial (wpIn_mono (z8 ok.ty hO ok.mixed (B := w.heap.size) c hq (F := Fence.wide) (qgy _) rfl (qfV ha fn.ntmps) hw ⟨qgy _, [], rfl, List.nodup_nil, fun D h => by cases h⟩) fun e a' w' hp => ?_)
 obtain ⟨e1, C', μ', e2, e3, e4, hmk⟩ := hp
 obtain ⟨l1, l2, l3, l4⟩ := yb (cfg.lift f 0) e3 e2
 obtain ⟨hB, Ds, m1, m2, m3⟩ := hmk.ext (l4 _ (qgy _))
 replace e2 := l2
 replace e4 := e4.trans (l4 _ e4.len) (qgy _)
 replace e3 := l1
 have hl : LeavesInM Fence.wide 0 cfg.P fn a'.tmps (fun e w' => ∃ v, e = .returned v ∧ qB C μ H w (xr us) (qS (cfg.lift f 0) q.2.1 q.2.2).2 v w') a'.defers .returning w' := by
  rw [m1]
  refine zW rfl (fun w2 g1 g2 => ?_) Ds m2 m3 e3 e4
  obtain ⟨v, r1, r2⟩ := qcu ok.ty e2 g1 h3
  exact ⟨v, r1, v, rfl, C', μ', r2, g1, g2⟩
 rcases h1 with h1 | h1
 ·rw [h1] at e1
  subst e1
  exact hl
 ·rw [h1] at e1
  subst e1
  exact hl
theorem qdC [Lent] {cfg : Cfg} (ok : CfgOk cfg) {cf : Orac} (hO : OracOk2 cfg cf) {id : Nat} {args : List AV} {vs : Array Value} {r : AV} (he : vE cfg cf (.y id) args H = some (r, H')) (ha : qc C μ args vs) (hw : Wld C μ H w) {m : MI} (hm : μ id = some m) :
  qs cfg.P (Instr.yield m.block vs) w (qB C μ H w r H') := by
 unfold vE at he
 simp only at he
 split at he
 case h_2 => cases he
 rename_i f fr ps assign body pend hid
 split at he
 case isFalse => cases he
 rename_i hlen
 obtain ⟨q1, hq1, he⟩ := qgx.1 he
 split at he
 case h_2 => cases he
 rename_i f1 fr1 ps1 assign1 body1 pend1 hx1 hid1
 obtain ⟨q2, hq2, he⟩ := qgx.1 he
 split at he
 case h_2 => cases he
 rename_i f2 fr2 ps2 assign2 body2 pend2 st2 hid2
 obtain ⟨i2, i3, rc, i4, i5, i6, i7, i8, i9, i10⟩ := hw.liveM hid rfl hm
 have hidl : id < H.length := (qgv.1 hid).1
 have hvs : vs.size = rc.params.size := by rw [← ha.1, hlen, ← i7]; simp
 unfold qs
 rw [run_yield i4 hvs]
 simp only
 rw [i8, i9]
 have htm : ((rc.params.zip vs).foldl (fun tmps (t, a) => tmps.setIfInBounds t a) rc.tmps) = ((ps.zip vs.toList).foldl (fun t (p, v) => t.setIfInBounds p v) rc.tmps) := by
  rw [← Array.foldl_toList, Array.toList_zip, i7]
 have hfr0 : qc C μ (vg fr ps args) ((rc.params.zip vs).foldl (fun tmps (t, a) => tmps.setIfInBounds t a) rc.tmps) := by
  rw [htm]
  exact zC ps (fun i a v e1 e2 => ha.2 i a v e1 (by rw [← Array.getElem?_toList]; exact e2)) (by rw [ha.1]; simp) i10
 have hrd : RdOk (some id) (Fence.wide.inRound m.block) μ H.length := ⟨hidl, m, hm, rfl⟩
 refine roundIn_of_wpIn trivial (wpIn_mono (z8 ok.ty hO ok.mixed (B := w.heap.size) assign hq1 (a := ⟨_, []⟩) (qgy _) hrd hfr0 hw ⟨qgy _, [], rfl, List.nodup_nil, fun D h => by cases h⟩) fun e a1 w1 hp => ?_)
 obtain ⟨e1, C1, μ1, p1, p2, p3, p4⟩ := hp
 rw [hx1] at e1
 subst e1
 obtain ⟨m1, hm1, hb1, -⟩ := p3.mu id m hidl hm
 obtain ⟨j2, j3, rc1, j4, j5, j6, j7, j8, j9, j10⟩ := p2.liveM hid1 rfl hm1
 rw [hb1] at j2 j3 j4
 have hidl1 : id < q1.2.2.length := (qgv.1 hid1).1
 refine ⟨_, run_beginRound j4 j5, ?_⟩
 have hw2 : Wld C1 μ1 (q1.2.2.set id (.loop f1 fr1 ps1 assign1 body1 pend1 .busy)) (w1.putObj m.block (.loop { rc1 with state := .busy })) :=
  p2.setBlk hid1 rfl rfl hm1 (by simp) (fun b hb => World.putObj_heap_other (hb1 ▸ hb)) ⟨{ rc1 with state := .busy }, by rw [hb1]; exact World.putObj_heap_same j2, rfl, j6, j7, j8, j9, j10⟩
 have hx2 : Ext q1.2.2.length C1 μ1 q1.2.2 w1 C1 μ1 (q1.2.2.set id (.loop f1 fr1 ps1 assign1 body1 pend1 .busy)) (w1.putObj m.block (.loop { rc1 with state := .busy })) :=
  Ext.setBlk p2 hid1 rfl hm1 (by simp) (fun b hb => World.putObj_heap_other (hb1 ▸ hb)) rfl rfl rfl (qgy _)
 have hx12 := p3.trans hx2 p3.len
 have hrd2 : RdOk (some id) (Fence.wide.inRound m.block) μ1 H.length := ⟨hidl, m1, hm1, by rw [hb1]⟩
 refine wpIn_mono (z8 ok.ty hO ok.mixed (B := w.heap.size) body hq2 (by simpa using p3.len) hrd2 p1 hw2 (p4.ext hx2)) fun e a2 w3 hp => ?_
 obtain ⟨e2, C3, μ3, g1, g2, g3, g4⟩ := hp
 obtain ⟨m3, hm3, hb3, -⟩ := g3.mu id m1 hidl hm1
 rw [hb1] at hb3
 obtain ⟨k2, k3, rc3, k4, k5, k6, k7, k8, k9, k10⟩ := g2.liveM hid2 rfl hm3
 rw [hb3] at k2 k3 k4
 have fin : ∀ (jump : Option Code) , ∃ v w4, (Instr.endRound m.block jump).run cfg.P w3 = .ok v w4 ∧
   qB C μ H w (.bool jump.isNone) (q2.2.2.set id (.loop f2 fr2 ps2 assign2 body2 jump (if jump.isNone then .ready else .done))) v w4 := by
  intro jump
  refine ⟨_, _, run_endRound jump k4, C3, μ3, .bool _, ?_, ?_⟩
  ·exact g2.setBlk hid2 rfl rfl hm3 (by simp) (fun b hb => World.putObj_heap_other (hb3 ▸ hb)) ⟨{ rc3 with state := if jump.isNone then .ready else .done, pending := jump }, by rw [hb3]; exact World.putObj_heap_same k2, rfl, rfl, k7, k8, k9, k10⟩
  ·have := Ext.setBlk (k := q2.2.2.length) (blk' := .loop f2 fr2 ps2 assign2 body2 jump (if jump.isNone then .ready else .done)) g2 hid2 rfl hm3 (w' := w3.putObj m.block (.loop { rc3 with state := if jump.isNone then .ready else .done, pending := jump })) (by simp) (fun b hb => World.putObj_heap_other (hb3 ▸ hb)) rfl rfl rfl (qgy _)
   exact (hx12.trans g3 (qgy _)).trans this (hx12.trans g3 (qgy _)).len
 split at he
 ·rename_i hx
  cases he
  rw [hx] at e2; subst e2
  obtain ⟨v, w4, r1, r2⟩ := fin none
  exact ⟨v, w4, r1, v, rfl, r2⟩
 ·rename_i hx
  cases he
  rw [hx] at e2; subst e2
  obtain ⟨v, w4, r1, r2⟩ := fin (some .ret)
  exact ⟨v, w4, r1, v, rfl, r2⟩
 ·rename_i x hx
  cases he
  rw [hx] at e2; subst e2
  obtain ⟨v, w4, r1, r2⟩ := fin (some (.exit x))
  exact ⟨v, w4, r1, v, rfl, r2⟩
 ·cases he
theorem qdg [Lent] {cfg : Cfg} (ok : CfgOk cfg) {cf : Orac} (hO : OracOk2 cfg cf) : OracOk2 cfg (vE cfg cf) := by
 have key : ∀ f args H r, vE cfg cf (.f f) args H = some r → cfg.ext f = none → ∃ fn c, cfg.known f = true ∧ cfg.P.funcs[f]? = some fn ∧ fn.body = some c ∧ ((evC cfg cf f none H.length c (args ++ qgJ (fn.ntmps - args.length) .junk) H).bind fun r => yB cfg fn.results.toList (r.1, qS (cfg.lift f 0) r.2.1 r.2.2)) = some r := by
  intro f args H r he hx
  unfold vE at he
  simp only [hx] at he
  split at he
  case isFalse => cases he
  rename_i hk
  split at he
  case h_2 => cases he
  rename_i fn hf
  split at he
  case h_2 => cases he
  rename_i c hb
  exact ⟨fn, c, hk, hf, hb, he⟩
 have enters : ∀ h args H r, vE cfg cf (.f h) args H = some r → cfg.ext h = none → ∀ vs w, (callFunc h vs).run cfg.P w = .ok (.enter h vs) w := by
  intro h args H r he hx vs w
  obtain ⟨fn, c, h1, h2, h3, _⟩ := key h args H r he hx
  exact qeg h2 (ok.named _ _ h1 h2) h3 vs w
 refine ⟨fun t args H r H' he C μ w vs s ha hw ht => ?_, enters⟩
 cases t with
 | f f =>
  have hs : s = callFunc f vs := ht
  subst hs
  cases hx : cfg.ext f with
  | some sp =>
   unfold vE at he
   simp only [hx] at he
   exact ok.ext f sp hx args H r H' he C μ w vs ha hw
  | none =>
   unfold qs
   rw [enters _ _ _ _ he hx]
   obtain ⟨fn, c, _, h2, h3, h4⟩ := key _ _ _ _ he hx
   exact qfb ok hO h2 h3 h4 ha hw
 | y id =>
  obtain ⟨m, hm, hs⟩ := ht
  subst hs
  exact qdC ok hO he ha hw hm
theorem z6 [Lent] {cfg : Cfg} (ok : CfgOk cfg) : ∀ n, OracOk2 cfg (evF cfg n)
 | 0 => ⟨fun t args H r H' he => (by cases he), fun h args H r he => (by cases he)⟩
 | n + 1 => qdg ok (z6 ok n)
theorem qds [Lent] {cfg : Cfg} (ok : CfgOk cfg) : OracOk2 cfg (EV cfg) := by
 refine ⟨fun t args H r H' he => ?_, fun h args H r he => ?_⟩
 ·obtain ⟨n, hn⟩ := yx he
  exact (z6 ok n).calls t args H r H' hn
 ·obtain ⟨n, hn⟩ := yx he
  exact (z6 ok n).enters h args H r hn
theorem qfK [Lent] {cfg : Cfg} (ok : CfgOk cfg) {f : FuncId} {args : List AV} {vs : Array Value} {r : AV} (hx : cfg.ext f = none) (he : EV cfg (.f f) args H = some (r, H')) (ha : qc C μ args vs) (hw : Wld C μ H w) :
  Calls cfg.P f vs w fun e w' => ∃ v, e = .returned v ∧ qB C μ H w r H' v w' := by
 have hO := qds ok
 have h := hO.calls _ _ _ _ _ he C μ w vs _ ha hw rfl
 unfold qs at h
 rw [hO.enters _ _ _ _ he hx] at h
 exact callsIn_wide.1 h
section
variable {α β : Type}
def EvG (cf : Nat → Orac) (c : Orac) (G : Orac → Option α) : Prop := ∀ r, G c = some r → ∃ n, ∀ m, n ≤ m → G (cf m) = some r
def Ev (cf : Nat → Orac) (c : Orac) : Prop := ∀ t a H, EvG cf c (fun o => o t a H)
variable {cf : Nat → Orac} {c : Orac}
theorem EvG.const (x : Option α) : EvG cf c (fun _ => x) := fun _r h => ⟨0, fun _ _ => h⟩
theorem EvG.bind {X : Orac → Option α} {K : Orac → α → Option β} (hX : EvG cf c X) (hK : ∀ a, EvG cf c (fun o => K o a)) : EvG cf c (fun o => (X o).bind (K o)) := by
 intro r h
 obtain ⟨a, h1, h2⟩ := qgx.1 h
 obtain ⟨n, hn⟩ := hX a h1
 obtain ⟨n', hn'⟩ := hK a r h2
 exact ⟨max n n', fun m hm => by
  show (X (cf m)).bind (K (cf m)) = some r
  rw [hn m (by omega)]
  exact hn' m (by omega)⟩
theorem EvG.map {X : Orac → Option α} (f : α → β) (hX : EvG cf c X) : EvG cf c (fun o => (X o).map f) := by
 intro r h
 obtain ⟨a, h1, h2⟩ := qgw.1 h
 obtain ⟨n, hn⟩ := hX a h1
 exact ⟨n, fun m hm => by
  show (X (cf m)).map f = some r
  rw [hn m hm, ← h2]; rfl⟩
theorem EvG.ite {p : Prop} [Decidable p] {X Y : Orac → Option α} (hX : EvG cf c X) (hY : EvG cf c Y) : EvG cf c (fun o => if p then X o else Y o) := by
 by_cases h : p
 ·simp only [if_pos h]; exact hX
 ·simp only [if_neg h]; exact hY
theorem zt (h : Ev cf c) (f : Nat) : ∀ l : List AV, EvG cf c (fun o => xu o f l)
 | [] => EvG.const _
 | a :: l => by
  simp only [xu]
  exact (h _ _ _).bind fun r => (EvG.const _).bind fun _ => zt h f l
theorem qdi (h : Ev cf c) (cfg : Cfg) (nid : Option Nat) (t : Tgt) (args : List AV) (H : AH) : EvG cf c (fun o => qF cfg o nid t args H) := by
 cases t with
 | y id => exact (h _ _ _).bind fun r => EvG.const _
 | f f =>
  simp only [qF]
  cases cfg.mode f with
  | scal => exact EvG.ite ((h _ _ _).bind fun r => EvG.const _) (EvG.const _)
  | pfrz => exact EvG.ite ((h _ _ _).bind fun r => EvG.const _) (EvG.const _)
  | nfrz => exact EvG.ite ((h _ _ _).bind fun r => EvG.const _) (EvG.const _)
  | wfrz => exact EvG.ite ((h _ _ _).bind fun r => EvG.const _) (EvG.const _)
  | pown => exact EvG.ite ((h _ _ _).bind fun r => EvG.const _) (EvG.const _)
  | inpl =>
   cases qk 0 args with
   | nil => exact EvG.ite ((h _ _ _).bind fun r => EvG.const _) (EvG.const _)
   | cons id l =>
    refine EvG.ite ?_ (EvG.const _)
    cases hb : H[id]? with
    | none => exact EvG.const _
    | some b =>
     cases b with
     | rows d sz rs => exact EvG.ite ((h _ _ _).bind fun r => EvG.const _) (EvG.const _)
     | _ => exact EvG.const _
  | inpf =>
   cases qk 0 args with
   | nil => exact EvG.const _
   | cons id l =>
    refine EvG.ite ?_ (EvG.const _)
    cases hb : H[id]? with
    | none => exact EvG.const _
    | some b =>
     cases b with
     | rows d sz rs => exact EvG.ite ((h _ _ _).bind fun r => EvG.const _) (EvG.const _)
     | _ => exact EvG.const _
  | slf =>
   cases qk 0 args with
   | nil => exact EvG.const _
   | cons id l =>
    refine EvG.ite ?_ (EvG.const _)
    cases hb : H[id]? with
    | none => exact EvG.const _
    | some b =>
     cases b with
     | rows d sz rs => exact EvG.ite ((h _ _ _).bind fun r => EvG.const _) (EvG.const _)
     | _ => exact EvG.const _
  | imp => exact (h _ _ _).bind fun r => EvG.const _
  | ifrz => exact (h _ _ _).bind fun r => EvG.const _
  | sub => exact (EvG.const _).bind fun s => (h _ _ _).bind fun r => EvG.const _
  | rgn => exact EvG.ite ((h _ _ _).bind fun r => EvG.const _) (EvG.const _)
  | over =>
   dsimp only
   rcases args with _ | ⟨a, _ | ⟨b, l⟩⟩
   ·exact EvG.const _
   ·dsimp only
    cases qk 0 a.alts with
    | nil => exact EvG.const _
    | cons id l =>
     refine EvG.ite ?_ (EvG.const _)
     cases hb : H[id]? with
     | none => exact EvG.const _
     | some b =>
      cases b with
      | reg => exact (zt h _ _).map _
      | spl => exact (zt h _ _).map _
      | _ => exact EvG.const _
   ·exact EvG.const _
theorem qcn (h : Ev cf c) (cfg : Cfg) (frz : Bool) (nid : Option Nat) (o : Oper) (x : Operand → AV) (H : AH) : EvG cf c (fun q => qq cfg q frz nid o x H) := by
 have core : ∀ (x : Operand → AV) (H : AH), EvG cf c (fun q => match o.op with
    | .call cl =>
     match cl.callee with
     | .value f => (v9 (x f) (cl.args.toList.map x)).bind fun t => qF cfg q nid t.1 t.2 H
     | _ => evOp cfg nid o.op o.type x H
    | _ => evOp cfg nid o.op o.type x H) := by
  intro x H
  split
  ·split
   ·exact (EvG.const _).bind fun t => qdi h cfg nid _ _ _
   ·exact EvG.const _
  ·exact EvG.const _
 unfold qq
 cases frz with
 | true => simp only [if_true]; exact core _ _
 | false => simp only [qgF, if_false]; exact core _ _
theorem qaQ (h : Ev cf c) (cfg : Cfg) (f rid : Nat) (ops : Array Oper) : ∀ (l : List Oper) (k : Nat) (fr : List AV) (H : AH), EvG cf c (fun q => xQ cfg q f rid ops k l fr H)
 | [], k, fr, H => EvG.const _
 | o :: l, k, fr, H => by
  simp only [xQ]
  refine (EvG.const _).bind fun b => EvG.ite ((qcn h cfg _ _ _ _ _).bind fun r => qaQ h cfg f rid ops l _ _ _) (qaQ h cfg f rid ops l _ _ _)
theorem z7 (h : Ev cf c) (cfg : Cfg) (f rid : Nat) (ops : Array Oper) : ∀ (l : List Oper) (k at_ : Nat) (fr : List AV) (H : AH), EvG cf c (fun q => vL cfg q f rid ops k at_ l fr H)
 | [], k, at_, fr, H => EvG.const _
 | o :: l, k, at_, fr, H => by
  simp only [vL]
  refine (EvG.const _).bind fun b => EvG.ite ((qcn h cfg _ _ _ _ _).bind fun r => (z7 h cfg f rid ops l _ _ _ _).map _) ((z7 h cfg f rid ops l _ _ _ _).map _)
theorem qbv {k : Nat} {ts : Option (List Tmp)} {ls : List (Tmp × Nat)} {body : Den} : ∀ {n : Nat} {p : List AV × AH} {r : Ex × List AV × AH}, xa k ts ls body n p = some r → xa k ts ls body (n + 1) p = some r
 | 0, _, _, h => by cases h
 | n + 1, p, r, h => by
  rw [xa] at h ⊢
  obtain ⟨q, h1, h2⟩ := qgx.1 h
  rw [h1]
  simp only [qgK]
  cases hq : q.1 with
  | normal =>
   rw [hq] at h2
   exact qbv h2
  | exit id => rw [hq] at h2; exact h2
  | goto l => rw [hq] at h2; exact h2
  | ret => rw [hq] at h2; exact h2
theorem qe4 {g : Nat → Option α} (hs : ∀ n r, g n = some r → g (n + 1) = some r) {n : Nat} {r : α} (h : g n = some r) : lim g = some r := by
 have up : ∀ {n : Nat} {r : α}, g n = some r → ∀ d, g (n + d) = some r := by
  intro n r h d
  induction d with
  | zero => exact h
  | succ d ih => exact hs _ _ ih
 have he : ∃ (n : Nat) (r : α), g n = some r := ⟨n, r, h⟩
 unfold lim
 rw [dif_pos he]
 have hc := Classical.choose_spec (Classical.choose_spec he)
 have e1 := up h (Classical.choose he)
 have e2 := up hc n
 rw [Nat.add_comm] at e2
 rw [e1] at e2
 exact e2.symm
theorem qd8 {k : Nat} {ts : Option (List Tmp)} {ls : List (Tmp × Nat)} {body : Den} {n : Nat} {p : List AV × AH} {r : Ex × List AV × AH} (h : xa k ts ls body n p = some r) : LOOP k ts ls body p = some r :=
 qe4 (g := fun n => xa k ts ls body n p) (fun _ _ h => qbv h) h
theorem qc5 {k : Nat} {ts : Option (List Tmp)} {ls : List (Tmp × Nat)} {body : Orac → Den} (hb : ∀ fr H, EvG cf c (fun q => body q fr H)) : ∀ (n : Nat) (p : List AV × AH), EvG cf c (fun q => xa k ts ls (body q) n p)
 | 0, _ => EvG.const _
 | n + 1, p => by
  simp only [xa]
  refine (hb _ _).bind fun r => ?_
  cases r.1 with
  | normal => exact qc5 hb n _
  | exit id => exact EvG.const _
  | goto l => exact EvG.const _
  | ret => exact EvG.const _
theorem qf3 {k : Nat} {ts : Option (List Tmp)} {ls : List (Tmp × Nat)} {body : Orac → Den} (hb : ∀ fr H, EvG cf c (fun q => body q fr H)) (p : List AV × AH) : EvG cf c (fun q => LOOP k ts ls (body q) p) := by
 intro r h
 obtain ⟨n, hn⟩ := yx h
 obtain ⟨m, hm⟩ := qc5 hb n p r hn
 exact ⟨m, fun i hi => qd8 (hm i hi)⟩
theorem qdf (h : Ev cf c) (cfg : Cfg) (f : Nat) (rd : Option Nat) (k : Nat) : ∀ (cd : Code) (fr : List AV) (H : AH), EvG cf c (fun q => evC cfg q f rd k cd fr H) := by
 intro cd
 induction cd with
 | skip => intro fr H; simp only [evC]; exact EvG.const _
 | label l => intro fr H; simp only [evC]; exact EvG.const _
 | exit id => intro fr H; simp only [evC]; exact EvG.const _
 | ret => intro fr H; simp only [evC]; exact EvG.const _
 | goto l => intro fr H; simp only [evC]; exact EvG.const _
 | refuse s => intro fr H; simp only [evC]; exact EvG.const _
 | region id ops draw =>
  intro fr H
  simp only [evC]
  cases draw with
  | true => simp only [if_true]; exact EvG.ite ((z7 h cfg f id ops _ _ _ _ _).bind fun q => EvG.const _) (EvG.const _)
  | false => simp only [qgF, if_false]; exact (qaQ h cfg f id ops _ _ _ _).map _
 | seq x y ihx ihy =>
  intro fr H
  simp only [evC]
  refine (ihx _ _).bind fun r => ?_
  cases r.1 with
  | normal => exact ihy _ _
  | exit id => exact EvG.const _
  | goto l => exact EvG.const _
  | ret => exact EvG.const _
 | cond cnd x y ihx ihy =>
  intro fr H
  simp only [evC]
  split
  ·exact EvG.ite (ihx _ _) (ihy _ _)
  ·exact EvG.const _
 | block id x ih =>
  intro fr H
  simp only [evC]
  exact (ih _ _).bind fun r => EvG.const _
 | loop x ih =>
  intro fr H
  simp only [evC]
  exact (qf3 ih _).map _
 | scope x ih =>
  intro fr H
  simp only [evC]
  exact (ih _ _).bind fun r => EvG.const _
 | rangeFunc g ps assign body =>
  intro fr H
  simp only [evC, xK]
  refine EvG.ite ?_ (EvG.const _)
  split
  ·exact EvG.ite (EvG.const _) ((h _ _ _).bind fun r => EvG.const _)
  ·exact EvG.const _
theorem qco (h : Ev cf c) (cfg : Cfg) (t : Tgt) (args : List AV) (H : AH) : EvG cf c (fun q => vE cfg q t args H) := by
 unfold vE
 cases t with
 | f f =>
  simp only
  split
  ·exact EvG.const _
  ·refine EvG.ite ?_ (EvG.const _)
   split
   ·split
    ·exact (qdf h cfg f none _ _ _ _).bind fun r => EvG.const _
    ·exact EvG.const _
   ·exact EvG.const _
 | y id =>
  simp only
  split
  ·refine EvG.ite ((qdf h cfg _ _ _ _ _ _).bind fun r => ?_) (EvG.const _)
   split
   ·exact (qdf h cfg _ _ _ _ _ _).bind fun q => EvG.const _
   ·exact EvG.const _
  ·exact EvG.const _
end
theorem qaR (cfg : Cfg) : ∀ (n : Nat) (t : Tgt) (a : List AV) (H : AH) (r : AV × AH), evF cfg n t a H = some r → evF cfg (n + 1) t a H = some r
 | 0, t, a, H, r, h => by cases h
 | n + 1, t, a, H, r, h => by
  have hev : Ev (fun _ => evF cfg (n + 1)) (evF cfg n) := fun t a H r h => ⟨0, fun _ _ => qaR cfg n t a H r h⟩
  obtain ⟨m, hm⟩ := qco hev cfg t a H r h
  exact hm m (qgy _)
theorem qgu (cfg : Cfg) : Ev (evF cfg) (EV cfg) := by
 intro t a H r h
 obtain ⟨n, hn⟩ := yx h
 refine ⟨n, fun m hm => ?_⟩
 obtain ⟨d, rfl⟩ := Nat.exists_eq_add_of_le hm
 induction d with
 | zero => exact hn
 | succ d ih => exact qaR cfg _ t a H r (ih (by omega))
theorem qgt {cfg : Cfg} {t : Tgt} {a : List AV} {H : AH} {r : AV × AH} (h : vE cfg (EV cfg) t a H = some r) : EV cfg t a H = some r := by
 obtain ⟨n, hn⟩ := qco (qgu cfg) cfg t a H r h
 exact qe4 (g := fun n => evF cfg n t a H) (fun n r h => qaR cfg n t a H r h) (n := n + 1) (hn n (qgy _))
variable {α : Type}
inductive FK where
 | int (k : IntKind)
 | bool
 | str
 | sl
 | any
def zc (a b : IntKind) : Bool := decide (a = b)
def kInt (kd : IntKind) (v : AV) (k : Int → Option α) : Option α :=
 match v with
 | .int k' n => cond (zc k' kd) (k n) none
 | _ => none
def qgr (v : AV) (k : Bool → Option α) : Option α :=
 match v with
 | .bool b => k b
 | _ => none
def kStr (v : AV) (k : List UInt8 → Option α) : Option α :=
 match v with
 | .str s => k s
 | _ => none
def kSl (v : AV) (k : List (List AV) → Option α) : Option α :=
 match v with
 | .sl rows => k rows
 | _ => none
def kAgg (v : AV) (k : List AV → Option α) : Option α :=
 match v with
 | .agg cs => k cs
 | _ => none
def kOpt {β : Type} (o : Option β) (k : β → Option α) : Option α :=
 match o with
 | some b => k b
 | none => none
def qgq (l : List AV) (k : AV → List AV → Option α) : Option α :=
 match l with
 | c :: cs => k c cs
 | [] => none
def kNil (l : List AV) (x : Option α) : Option α :=
 match l with
 | [] => x
 | _ => none
def qgp (a b : Int) : Bool := decide (a ≤ b)
def qgo (a b : Int) : Bool := decide (a < b)
inductive OV where
 | nil
 | own (sz : Nat) (rs : List (List AV)) (off len : Nat)
open Classical in
def EVs (cf : Orac) (f : Nat) (args : List AV) : Option AV := (cf (.f f) args []).map fun r => r.1
def EVf (cf : Orac) (f : Nat) (args : List AV) : Option AV := (cf (.f f) args []).map fun r => (r.1.frz r.1.msIds r.2).fg
def kOwn (o : OV) (x : Option α) (k : Nat → List (List AV) → Nat → Nat → Option α) : Option α :=
 match o with
 | .nil => x
 | .own sz rs off len => k sz rs off len
inductive MV where
 | unit
 | nil
 | sl (off len : Nat)
 | int (k : IntKind) (n : Int)
 | bool (b : Bool)
def kMSl (v : MV) (x : Option α) (k : Nat → Nat → Option α) : Option α :=
 match v with
 | .nil => x
 | .sl off len => k off len
 | _ => none
def qgc (v : MV) (x : Option α) : Option α :=
 match v with
 | .unit => x
 | _ => none
def qfM (kd : IntKind) (v : MV) (k : Int → Option α) : Option α :=
 match v with
 | .int q n => cond (zc q kd) (k n) none
 | _ => none
def qgd (v : MV) (k : Bool → Option α) : Option α :=
 match v with
 | .bool b => k b
 | _ => none
open Classical in
def known (fr : List AV) (c : Operand) (b : Bool) : List AV :=
 match c with
 | .tmp d => fr.set d (.bool b)
 | _ => fr
inductive Ko where
 | seq (c : Code)
 | block (id : Nat)
 | scope
variable {α : Type} {r : α} {H : AH}
theorem qN {b : Bool} {x : Option α} (h : cond b x none = some r) : b = true ∧ x = some r := by cases b <;> simp_all
variable {α : Type}
def qfh (fn : Func) : Code := match fn.body with | some c => c | none => .skip
def sub : Code → List Nat → Code
 | c, [] => c
 | .seq a b, i :: l => match i with | 0 => sub a l | _ => sub b l
 | .cond _ a b, i :: l => match i with | 0 => sub a l | _ => sub b l
 | .block _ a, _ :: l => sub a l
 | .loop a, _ :: l => sub a l
 | .scope a, _ :: l => sub a l
 | .rangeFunc _ _ a b, i :: l => match i with | 0 => sub a l | _ => sub b l
 | c, _ => c
class InlOk (cfg : Cfg) : Prop where
 ok : ∀ f fn, cfg.inl f = some fn → cfg.ext f = none ∧ cfg.known f = true ∧ cfg.P.funcs[f]? = some fn ∧ fn.body = some (qfh fn)
def qak (f : Nat) : List (Nat × Func) → Option Func
 | [] => none
 | p :: l => if qgL p.1 f then some p.2 else qak f l
def qfk (cfg : Cfg) : List (Nat × Func) → Prop
 | [] => True
 | p :: l => (cfg.ext p.1 = none ∧ cfg.known p.1 = true ∧ cfg.P.funcs[p.1]? = some p.2 ∧ p.2.body = some (qfh p.2)) ∧ qfk cfg l
theorem InlOk.of {cfg : Cfg} (tab : List (Nat × Func)) (h : ∀ f, cfg.inl f = qak f tab) (ha : qfk cfg tab) : InlOk cfg where
 ok := by
  intro f fn hf
  rw [h] at hf
  clear h
  induction tab with
  | nil => cases hf
  | cons p l ih =>
   rw [qak] at hf
   split at hf
   ·rename_i e
    have e := qgB e
    cases hf
    rw [← e]
    exact ha.1
   ·exact ih ha.2 hf
def Gets {β : Type} (o : Option β) (P : β → Prop) : Prop := ∃ r, o = some r ∧ P r
theorem Gets.ev {β : Type} {o o' : Option β} {P : β → Prop} (h : ∀ r, o = some r → o' = some r) (hy : Gets o P) : Gets o' P := by
 obtain ⟨r, h1, h2⟩ := hy
 exact ⟨r, h r h1, h2⟩
theorem Gets.eq {β : Type} {o o' : Option β} {P : β → Prop} (h : o' = o) (hy : Gets o P) : Gets o' P := h ▸ hy
theorem gE {β : Type} {o o' x : Option β} {P : β → Prop} (f : ∀ r, o = some r → o' = some r) (e : o = x) (h : Gets x P) : Gets o' P := Gets.ev f (Gets.eq e h)
theorem Gets.mono {β : Type} {o : Option β} {P Q : β → Prop} (h : Gets o P) (hq : ∀ b, P b → Q b) : Gets o Q := by
 obtain ⟨r, h1, h2⟩ := h
 exact ⟨r, h1, hq r h2⟩
theorem Gets.bind {β γ : Type} {o : Option β} {k : β → Option γ} {Q : β → Prop} {P : γ → Prop} (h : Gets o Q) (hk : ∀ b, Q b → Gets (k b) P) : Gets (kOpt o k) P := by
 obtain ⟨r, h1, h2⟩ := h
 subst h1
 exact hk r h2
@[simp] theorem gets_some {β : Type} {a : β} {P : β → Prop} : Gets (some a) P ↔ P a := ⟨fun ⟨r, h1, h2⟩ => by cases h1; exact h2, fun h => ⟨a, rfl, h⟩⟩
theorem Gets.get {β : Type} {o : Option β} {a : β} (h : Gets o (· = a)) : o = some a := by
 obtain ⟨r, h1, h2⟩ := h
 rw [h1, h2]
@[simp] theorem nble (a b : Nat) : Nat.ble a b = decide (a ≤ b) := by
 rcases h : Nat.ble a b with _ | _
 ·rw [eq_comm, decide_eq_false_iff_not]; intro h'; rw [Nat.ble_eq_true_of_le h'] at h; cases h
 ·rw [eq_comm, decide_eq_true_eq]; exact Nat.le_of_ble_eq_true h
@[simp] theorem nbeq (a b : Nat) : qgL a b = decide (a = b) := by
 rcases h : qgL a b with _ | _
 ·rw [eq_comm, decide_eq_false_iff_not]; intro h'; rw [h', Nat.beq_refl] at h; cases h
 ·rw [eq_comm, decide_eq_true_eq]; exact qgB h
@[simp] theorem leInt_eq (a b : Int) : qgp a b = decide (a ≤ b) := rfl
@[simp] theorem ltInt_eq (a b : Int) : qgo a b = decide (a < b) := rfl
def AV.IsInt (v : AV) : Prop := ∃ n, v = .int .i64 n
def AV.IsBool (v : AV) : Prop := ∃ b, v = .bool b
@[simp] theorem isInt_int (n : Int) : (AV.int .i64 n).IsInt := ⟨n, rfl⟩
@[simp] theorem isBool_bool (b : Bool) : (AV.bool b).IsBool := ⟨b, rfl⟩
@[simp] theorem kOptSome {β : Type} (b : β) (k : β → Option α) : kOpt (some b) k = k b := rfl
@[simp] theorem kOptNone {β : Type} (k : β → Option α) : kOpt none k = none := rfl
@[simp] theorem kMInt_int (kd : IntKind) (n : Int) (k : Int → Option α) : qfM kd (.int kd n) k = k n := by simp [qfM, zc]
@[simp] theorem kInt_int (kd : IntKind) (n : Int) (k : Int → Option α) : kInt kd (.int kd n) k = k n := by simp [kInt, zc]
@[simp] theorem kBool_bool (b : Bool) (k : Bool → Option α) : qgr (.bool b) k = k b := rfl
@[simp] theorem kStr_str (s : List UInt8) (k : List UInt8 → Option α) : kStr (.str s) k = k s := rfl
@[simp] theorem kAgg_agg (cs : List AV) (k : List AV → Option α) : kAgg (.agg cs) k = k cs := rfl
@[simp] theorem kCons_cons (c : AV) (cs : List AV) (k : AV → List AV → Option α) : qgq (c :: cs) k = k c cs := rfl
@[simp] theorem kNil_nil (x : Option α) : kNil [] x = x := rfl
@[simp] theorem kMSl_nil (x : Option α) (k : Nat → Nat → Option α) : kMSl .nil x k = x := rfl
@[simp] theorem kMSl_sl (off len : Nat) (x : Option α) (k : Nat → Nat → Option α) : kMSl (.sl off len) x k = k off len := rfl
@[simp] theorem kMUnit_unit (x : Option α) : qgc .unit x = x := rfl
@[simp] theorem kMBool_bool (b : Bool) (k : Bool → Option α) : qgd (.bool b) k = k b := rfl
@[simp] theorem kOwn_nil (x : Option α) (k : Nat → List (List AV) → Nat → Nat → Option α) : kOwn .nil x k = x := rfl
@[simp] theorem kOwn_own (sz : Nat) (rs : List (List AV)) (off len : Nat) (x : Option α) (k : Nat → List (List AV) → Nat → Nat → Option α) : kOwn (.own sz rs off len) x k = k sz rs off len := rfl
@[simp] theorem kSl_sl (rs : List (List AV)) (k : List (List AV) → Option α) : kSl (.sl rs) k = k rs := rfl
@[simp] theorem get?Internal_eq {β : Type} (l : List β) (i : Nat) : List.get?Internal l i = l[i]? := rfl
variable {α β : Type}
def qbE (b : Bool) (k : Bool → α) : α := match b with | true => k true | false => k false
def fNat (n : Nat) (k : Nat → α) : α := match n with | 0 => k 0 | m + 1 => k (m + 1)
def fInt (n : Int) (k : Int → α) : α := match n with | .ofNat m => fNat m fun m => k (.ofNat m) | .negSucc m => fNat m fun m => k (.negSucc m)
def fL (g : β → (β → α) → α) : List β → (List β → α) → α
 | [], k => k []
 | a :: l, k => g a fun a' => fL g l fun l' => k (a' :: l')
def qfQ (kd : IntKind) (k : IntKind → α) : α := match kd with
 | .i64 => k .i64
 | .u64 => k .u64
 | .u8 => k .u8
 | .i32 => k .i32
 | .u32 => k .u32
 | x => k x
def qey (b : UInt8) (k : UInt8 → α) : α := fNat b.toNat fun n => k (UInt8.ofNat n)
theorem qfP {g : β → (β → α) → α} (hg : ∀ b k, g b k = k b) : ∀ (l : List β) (k : List β → α), fL g l k = k l
 | [], _ => rfl
 | a :: l, k => by rw [fL, hg, qfP hg l]
theorem qaP (b : Bool) (k : Bool → α) : qbE b k = k b := by cases b <;> rfl
theorem ve (b : Nat) (k : Nat → α) : fNat b k = k b := by cases b <;> rfl
theorem qf1 (b : Int) (k : Int → α) : fInt b k = k b := by cases b <;> simp only [fInt, ve]
theorem qfB (b : IntKind) (k : IntKind → α) : qfQ b k = k b := by cases b <;> rfl
theorem qfC (b : UInt8) (k : UInt8 → α) : qey b k = k b := by simp [qey, ve]
def qgm (c a b : AV) (H : AH) : Option (AV × AH) :=
 match c with
 | .bool t => some (if t then a else b, H)
 | _ => none
def qf8 (cfg : Cfg) (nid : Option Nat) (t : TypeId) (H : AH) : Option (AV × AH) :=
 match cfg.ty t with
 | some ti =>
  if qI ti.zero then
   match aNew nid H (.rows (bigZ (cfg.fga t ti.zero)) ti.zero.length [cfg.fga t ti.zero]) with
   | some (k, H') => some (.ptr k 0 0, H')
   | none => none
  else none
 | none => none
def xBox (nid : Option Nat) (a : AV) (H : AH) : Option (AV × AH) :=
 match a.cells with
 | some cs =>
  match aNew nid H (.rows (bigZ cs) cs.length [cs]) with
  | some (k, H') => some (.ptr k 0 0, H')
  | none => none
 | none => none
def qf7 (cfg : Cfg) (t : TypeId) (parts : List (Nat × AV)) (H : AH) : Option (AV × AH) :=
 match cfg.ty t with
 | some ti =>
  if qI ti.zero then
   match ti.d with
   | .struct fs =>
    match xI cfg fs with
    | some ps => (yP (fun i => ps[i]?) ti.zero parts).map fun cs => (.agg (cfg.fga t cs), H)
    | none => none
   | .array _ e =>
    match cfg.sz e with
    | some n => (yP (fun i => some (i * n, n)) ti.zero parts).map fun cs => (.agg cs, H)
    | none => none
   | _ => none
  else none
 | none => none
def qar (cfg : Cfg) (nid : Option Nat) (t : TypeId) (len : Nat) (parts : List (Nat × AV)) (H : AH) : Option (AV × AH) :=
 match cfg.td t with
 | some (.slice e) =>
  match cfg.ty e with
  | some ei =>
   if xq ei && Nat.ble (len * ei.sz) 16777216 then
    match ye ei.sz (qgJ len ei.zero) parts with
    | some rows =>
     match aNew nid H (.rows (qe 0 rows) ei.sz rows) with
     | some (k, H') => some (.ms k 0 len, H')
     | none => none
    | none => none
   else none
  | none => none
 | _ => none
def qgn (cfg : Cfg) (t : TypeId) (a : AV) (H : AH) : Option (AV × AH) :=
 match cfg.ty t with
 | some ti => (yf ti.d.agg ti.sz H a).map fun v => (v, H)
 | none => none
def qf5 (cfg : Cfg) (t : TypeId) (a v : AV) (H : AH) : Option (AV × AH) :=
 match cfg.sz t with
 | some n => (v5 n H a v).map fun H' => (.junk, H')
 | none => none
def xNil (a : AV) (H : AH) : Option (AV × AH) :=
 match a with
 | .ptr id r off => some (.ptr id r off, H)
 | .cptr cs off => some (.cptr cs off, H)
 | .fn (.func f) a b => some (.fn (.func f) a b, H)
 | .mp id => some (.mp id, H)
 | .yld id => some (.yld id, H)
 | _ => none
def qfm (t : AV) (i : Nat) (H : AH) : Option (AV × AH) :=
 match t with
 | .tup vs => (vs[i]?).map fun v => (v, H)
 | _ => none
def xOp (cfg : Cfg) (nid : Option Nat) (o : Op) (ty : TypeId) (x : Operand → AV) (H : AH) : Option (AV × AH) :=
 match o with
 | .move a | .assign a => some (x a, H)
 | .pick c a b => qgm (x c) (x a) (x b) H
 | .alloc t => qf8 cfg nid t H
 | .box _ a => xBox nid (x a) H
 | .build t parts => qf7 cfg t (parts.toList.map fun p => (p.1, x p.2)) H
 | .buildSlice t len parts => qar cfg nid t len (parts.toList.map fun p => (p.1, x p.2)) H
 | .load t a => qgn cfg t (x a) H
 | .store t a v => qf5 cfg t (x a) (x v) H
 | .nilCheck a => xNil (x a) H
 | .binOp op t a b _ => (aBin cfg (litN a b) op t (x a) (x b)).map fun v => (v, H)
 | .unOp op _ a => (aUn op (x a)).map fun v => (v, H)
 | .convert s d a => v6 cfg nid s d (x a) H
 | .makeFunc f first caps => some (.fn f (first.toList.map x) (caps.toList.map x), H)
 | .makeSlice t l c => xV cfg nid t (x l) (x c) H
 | .slice t a lo hi mx => (yH cfg t H (x a) (lo.map x) (hi.map x) (mx.map x)).map fun v => (v, H)
 | .fieldAddr t a f => (yg cfg t (x a) f).map fun v => (v, H)
 | .field t a f => (qbV cfg t (x a) f).map fun v => (v, H)
 | .indexAddr t a i => (vI cfg t H (x a).unwr (x i)).map fun v => (v, H)
 | .index t a i => (qbU cfg t (x a) (x i)).map fun v => (v, H)
 | .extract t i => qfm (x t) i H
 | o => evOp cfg nid o ty x H
theorem qf6 (cfg : Cfg) (nid : Option Nat) (o : Op) (ty : TypeId) (x : Operand → AV) (H : AH) : xOp cfg nid o ty x H = evOp cfg nid o ty x H := by cases o <;> rfl
variable {α β : Type}
noncomputable def gL (g : β → (β → α) → α) (l : List β) : (List β → α) → α :=
 List.rec (motive := fun _ => (List β → α) → α) (fun k => k []) (fun a _ ih k => g a fun a' => ih fun l' => k (a' :: l')) l
noncomputable def gS (l : List β) : (List β → α) → α :=
 List.rec (motive := fun _ => (List β → α) → α) (fun k => k []) (fun a _ ih k => ih fun l' => k (a :: l')) l
theorem vS {g : β → (β → α) → α} (hg : ∀ b k, g b k = k b) : ∀ (l : List β) (k : List β → α), gL g l k = k l
 | [], _ => rfl
 | a :: l, k => by
  have : gL g (a :: l) k = g a fun a' => gL g l fun l' => k (a' :: l') := rfl
  rw [this, hg, vS hg l]
theorem vr : ∀ (l : List β) (k : List β → α), gS l k = k l
 | [], _ => rfl
 | a :: l, k => by
  have : gS (a :: l) k = gS l fun l' => k (a :: l') := rfl
  rw [this, vr l]
def gA1 (v : AV) (k : AV → α) : α := match v with
 | .int kd m => qfQ kd fun kd => fInt m fun m => k (.int kd m)
 | .bool b => qbE b fun b => k (.bool b)
 | .str s => fL qey s fun s => k (.str s)
 | .ms a b c => fNat a fun a => fNat b fun b => fNat c fun c => k (.ms a b c)
 | .ptr a b c => fNat a fun a => fNat b fun b => fNat c fun c => k (.ptr a b c)
 | v => k v
theorem qbz (v : AV) (k : AV → α) : gA1 v k = k v := by
 cases v <;> simp only [gA1, qfB, qf1, qaP, ve, qfP qfC]
noncomputable def gA2 (v : AV) (k : AV → α) : α := match v with
 | .agg cs => gL gA1 cs fun cs => k (.agg cs)
 | .sl rows => gL (gL gA1) rows fun rows => k (.sl rows)
 | .cptr cs o => gL gA1 cs fun cs => fNat o fun o => k (.cptr cs o)
 | .fn f a b => gL gA1 a fun a => gL gA1 b fun b => k (.fn f a b)
 | v => gA1 v k
theorem qfa (v : AV) (k : AV → α) : gA2 v k = k v := by
 have e1 : ∀ (l : List AV) (k : List AV → α), gL gA1 l k = k l := vS qbz
 cases v <;> simp only [gA2, qbz, e1, ve, vS e1]
noncomputable def gA (v : AV) (k : AV → α) : α := match v with
 | .tup cs => gL gA2 cs fun cs => k (.tup cs)
 | .ifc t v => gA2 v fun v => k (.ifc t v)
 | v => gA2 v k
theorem xO (v : AV) (k : AV → α) : gA v k = k v := by
 cases v <;> simp only [gA, qfa, vS qfa]
def gW (v : AV) (k : AV → α) : α := match v with
 | .int a b => k (.int a b)
 | .bool a => k (.bool a)
 | .str a => k (.str a)
 | .agg a => k (.agg a)
 | .tup a => k (.tup a)
 | .nilS => k .nilS
 | .sl a => k (.sl a)
 | .em => k .em
 | .ms a b c => k (.ms a b c)
 | .nilP => k .nilP
 | .ptr a b c => k (.ptr a b c)
 | .cptr a b => k (.cptr a b)
 | .fn a b c => k (.fn a b c)
 | .yld a => k (.yld a)
 | .nilF => k .nilF
 | .nilM => k .nilM
 | .mp a => k (.mp a)
 | .nilI => k .nilI
 | .ifc a b => k (.ifc a b)
 | .junk => k .junk
 | .lsl r => k (.lsl r)
 | .lpt c o => k (.lpt c o)
 | .rsl i r => k (.rsl i r)
 | .rpt i c o => k (.rpt i c o)
 | .alt l => k (.alt l)
 | .wr a b => k (.wr a b)
theorem qby (v : AV) (k : AV → α) : gW v k = k v := by cases v <;> rfl
noncomputable def gB (b : ABlk) (k : ABlk → α) : α := match b with
 | .rows d sz rs => qbE d fun d => fNat sz fun sz => gL (gL gA1) rs fun rs => k (.rows d sz rs)
 | .froz d sz rs => qbE d fun d => fNat sz fun sz => gL (gL gA1) rs fun rs => k (.froz d sz rs)
 | .mp es => gS es fun es => k (.mp es)
 | .loop f fr ps a b p s => gL gA1 fr fun fr => k (.loop f fr ps a b p s)
 | .dead => k .dead
 | .res => k .res
 | .reg => k .reg
 | .spl => k .spl
theorem qgs (b : ABlk) (k : ABlk → α) : gB b k = k b := by
 have e1 : ∀ (l : List AV) (k : List AV → α), gL gA1 l k = k l := vS qbz
 cases b <;> simp only [gB, qaP, ve, e1, vS e1, vr]
noncomputable def gP (p : Nat × AV) (k : Nat × AV → α) : α := gA p.2 fun v => k (p.1, v)
theorem qfN (p : Nat × AV) (k : Nat × AV → α) : gP p k = k p := by unfold gP; rw [xO]
noncomputable def gH (H : AH) (k : AH → α) : α := gL gB H k
theorem qam (H : AH) (k : AH → α) : gH H k = k H := vS qgs H k
abbrev Ov := List (Nat × AV)
def den (n : Nat) (ov : Ov) : List AV := ov.foldr (fun p fr => fr.set p.1 p.2) (qgJ n .junk)
noncomputable def qz (t : Nat) (ov : Ov) : AV := List.rec (motive := fun _ => AV) .junk (fun p _ ih => cond (qgL p.1 t) p.2 ih) ov
theorem zQ (t : Nat) : qz t [] = .junk := rfl
theorem xA (t : Nat) (p : Nat × AV) (ov : Ov) : qz t (p :: ov) = cond (qgL p.1 t) p.2 (qz t ov) := rfl
def OvOk (n : Nat) (ov : Ov) : Prop := ∀ p ∈ ov, p.1 < n
theorem ze (n : Nat) (ov : Ov) : (den n ov).length = n := by
 induction ov with
 | nil => simp [den]
 | cons p l ih => simp only [den, List.foldr_cons, List.length_set]; exact ih
theorem zf {n : Nat} {ov : Ov} (h : OvOk n ov) (t : Nat) : (den n ov)[t]? = if t < n then some (qz t ov) else none := by
 induction ov with
 | nil =>
  simp only [den, List.foldr_nil, zQ, List.getElem?_replicate]
 | cons p l ih =>
  have hl : OvOk n l := fun q hq => h q (List.mem_cons_of_mem _ hq)
  have hp : p.1 < n := h p (List.mem_cons_self ..)
  have : (den n (p :: l))[t]? = ((den n l).set p.1 p.2)[t]? := rfl
  rw [this, qgC, ih hl, ze, xA]
  by_cases e : p.1 = t
  ·subst e; simp [hp]
  ·have : qgL p.1 t = false := by rw [← Bool.not_eq_true]; intro h'; exact e (qgB h')
   rw [if_neg e, this]; rfl
theorem zR {n : Nat} {ov : Ov} (h : OvOk n ov) {t : Nat} (ht : ¬ t < n) : qz t ov = .junk := by
 induction ov with
 | nil => rfl
 | cons p l ih =>
  have hp : p.1 < n := h p (List.mem_cons_self ..)
  have : qgL p.1 t = false := by rw [← Bool.not_eq_true]; intro h'; have := qgB h'; omega
  rw [xA, this]
  exact ih fun q hq => h q (List.mem_cons_of_mem _ hq)
theorem qb7 {n : Nat} {ov : Ov} (h : OvOk n ov) {fr : List AV} (hl : fr.length = n) (hg : ∀ t, t < n → fr[t]? = some (qz t ov)) : den n ov = fr := by
 apply List.ext_getElem?
 intro t
 rw [zf h]
 split
 ·rename_i ht; exact (hg t ht).symm
 ·rename_i ht; exact (List.getElem?_eq_none (by omega)).symm
noncomputable def opdO (ov : Ov) : Operand → AV
 | .tmp t => qz t ov
 | .const v => ofValue v
 | .global _ => .junk
 | .func f => .fn (.func f) [] []
theorem y9 {n : Nat} {ov : Ov} (h : OvOk n ov) : opd (den n ov) = opdO ov := by
 funext o
 cases o with
 | tmp t =>
  show (den n ov).getD t .junk = qz t ov
  rw [List.getD_eq_getElem?_getD, zf h]
  split
  ·rfl
  ·rename_i ht; exact (zR h ht).symm
 | _ => rfl
def putO (n : Nat) (ov : Ov) (dst : Option Tmp) (v : AV) : Ov :=
 match dst with
 | some d => cond (Nat.blt d n) ((d, v) :: ov) ov
 | none => ov
theorem qaj {n : Nat} {ov : Ov} (h : OvOk n ov) (dst : Option Tmp) (v : AV) : OvOk n (putO n ov dst v) := by
 cases dst with
 | none => exact h
 | some d =>
  simp only [putO]
  cases hd : Nat.blt d n with
  | false => exact h
  | true =>
   intro p hp
   rw [cond_true] at hp
   rcases List.mem_cons.1 hp with rfl | hp
   ·simpa [Nat.blt_eq] using hd
   ·exact h p hp
theorem zs {n : Nat} {ov : Ov} (dst : Option Tmp) (v : AV) : den n (putO n ov dst v) = put (den n ov) dst v := by
 cases dst with
 | none => rfl
 | some d =>
  simp only [putO, put]
  cases hd : Nat.blt d n with
  | true => rfl
  | false =>
   have hd : ¬ d < n := by rw [← Bool.not_eq_true, Nat.blt_eq] at hd; exact hd
   show den n ov = _
   rw [List.set_eq_of_length_le (by rw [ze]; exact Nat.le_of_not_lt hd)]
noncomputable def yi (ops : Array Oper) (ov : Ov) (o : Oper) : Option Bool :=
 match o.guard with
 | none => some true
 | some (j, want) =>
  match (ops[j]?).bind (·.dst) with
  | some d =>
   match qz d ov with
   | .bool b => some (b == want)
   | .tup [] => some false
   | _ => none
  | none => none
theorem qa4 {n : Nat} {ov : Ov} (h : OvOk n ov) (ops : Array Oper) (o : Oper) : vt ops (den n ov) o = yi ops ov o := by
 unfold vt yi
 cases o.guard with
 | none => rfl
 | some p =>
  obtain ⟨j, want⟩ := p
  simp only
  cases (ops[j]?).bind (·.dst) with
  | none => rfl
  | some d =>
   simp only
   rw [zf h]
   by_cases hd : d < n
   ·rw [if_pos hd]
    cases qz d ov <;> try rfl
    rename_i vs; cases vs <;> rfl
   ·rw [if_neg hd, zR h hd]
noncomputable def qcL (n : Nat) (H : AH) (p v : AV) (k : AH → Option β) : Option β :=
 match p with
 | .ptr id r off =>
  match v.cells with
  | some cs =>
   match H[id]? with
   | some (.rows d sz rs) =>
    match rs[r]? with
    | some row => if cs.length == n && Nat.ble (off + n) row.length then
      gS (row.take off ++ cs ++ row.drop (off + n)) fun row' => gS (rs.set r row') fun rs' => qbE (d && qf 0 cs) fun d' => gS (H.set id (.rows d' sz rs')) k
     else none
    | none => none
   | _ => none
  | none => none
 | .rpt id cs o => (v5 n H (.rpt id cs o) v).bind k
 | _ => none
theorem qeJ (n : Nat) (H : AH) (p v : AV) (k : AH → Option β) : qcL n H p v k = (v5 n H p v).bind k := by
 unfold qcL v5
 cases p with
 | ptr id r off =>
  simp only
  cases hv : v.cells with
  | none => simp
  | some cs =>
   simp only
   cases hH : H[id]? with
   | none => simp
   | some b =>
    cases b <;> simp only [Option.bind_none]
    rename_i d sz rs
    cases hr : rs[r]? with
    | none => simp
    | some row =>
     simp only
     split <;> simp [vr, qaP]
 | rpt id cs o => rfl
 | _ => simp
noncomputable def yNew (nid : Option Nat) (H : AH) (b : ABlk) (k : Nat → AH → Option β) : Option β :=
 match nid with
 | none => fNat H.length fun i => gS (H ++ [b]) fun H' => k i H'
 | some i =>
  match H[i]? with
  | some .res => gS (H.set i b) fun H' => k i H'
  | _ => none
theorem qd0 (nid : Option Nat) (H : AH) (b : ABlk) (k : Nat → AH → Option β) : yNew nid H b k = (aNew nid H b).bind fun r => k r.1 r.2 := by
 cases nid with
 | none => simp [yNew, aNew, ve, vr]
 | some i =>
  simp only [yNew, aNew]
  cases H[i]? with
  | none => rfl
  | some b => cases b <;> simp [vr]
noncomputable def qeO (cfg : Cfg) (nid : Option Nat) (t : TypeId) (H : AH) (k : AV → AH → Option β) : Option β :=
 match cfg.ty t with
 | some ti => if qI ti.zero then gL gA1 (cfg.fga t ti.zero) fun row => fNat ti.zero.length fun sz => yNew nid H (.rows (bigZ row) sz [row]) fun i H' => k (.ptr i 0 0) H' else none
 | none => none
noncomputable def yBox (nid : Option Nat) (a : AV) (H : AH) (k : AV → AH → Option β) : Option β :=
 match a.cells with
 | some cs => gS cs fun cs => fNat cs.length fun sz => yNew nid H (.rows (bigZ cs) sz [cs]) fun i H' => k (.ptr i 0 0) H'
 | none => none
noncomputable def yOp (cfg : Cfg) (nid : Option Nat) (o : Op) (ty : TypeId) (x : Operand → AV) (H : AH) (k : AV → AH → Option β) : Option β :=
 match o with
 | .move a | .assign a => gW (x a) fun v => k v H
 | .alloc t => qeO cfg nid t H k
 | .box _ a => yBox nid (x a) H k
 | .store t a v =>
  match cfg.sz t with
  | some n => qcL n H (x a) (x v) fun H' => k .junk H'
  | none => none
 | .buildSlice t len parts => (match qar cfg nid t len (parts.toList.map fun p => (p.1, x p.2)) H with | some r => gA r.1 fun v => gH r.2 fun H' => k v H' | none => none)
 | .convert s d a => (match v6 cfg nid s d (x a) H with | some r => gA r.1 fun v => gH r.2 fun H' => k v H' | none => none)
 | .makeSlice t l c => (match xV cfg nid t (x l) (x c) H with | some r => gA r.1 fun v => gH r.2 fun H' => k v H' | none => none)
 | .call c => (match evOp cfg nid (.call c) ty x H with | some r => gA r.1 fun v => gH r.2 fun H' => k v H' | none => none)
 | o => (match xOp cfg nid o ty x H with | some r => gA r.1 fun v => k v r.2 | none => none)
theorem qf4 (cfg : Cfg) (nid : Option Nat) (o : Op) (ty : TypeId) (x : Operand → AV) (H : AH) (k : AV → AH → Option β) : yOp cfg nid o ty x H k = (evOp cfg nid o ty x H).bind fun r => k r.1 r.2 := by
 have em : ∀ (q : Option (AV × AH)), (match q with | some r => gA r.1 fun v => gH r.2 fun H' => k v H' | none => none) = q.bind fun r => k r.1 r.2 := fun q => by cases q <;> simp [xO, qam]
 have em' : ∀ (q : Option (AV × AH)), (match q with | some r => gA r.1 fun v => k v r.2 | none => none) = q.bind fun r => k r.1 r.2 := fun q => by cases q <;> simp [xO]
 cases o with
 | move a => simp [yOp, evOp, qby]
 | assign a => simp [yOp, evOp, qby]
 | alloc t =>
  simp only [yOp, evOp, qeO]
  cases cfg.ty t with
  | none => rfl
  | some ti =>
   simp only
   split
   ·simp only [vS qbz, ve, qd0]
    cases aNew nid H (.rows (bigZ (cfg.fga t ti.zero)) ti.zero.length [cfg.fga t ti.zero]) <;> rfl
   ·rfl
 | box t a =>
  simp only [yOp, evOp, yBox]
  cases (x a).cells with
  | none => rfl
  | some cs =>
   simp only [vr, ve, qd0]
   cases aNew nid H (.rows (bigZ cs) cs.length [cs]) <;> rfl
 | store t a v =>
  simp only [yOp, evOp]
  cases cfg.sz t with
  | none => rfl
  | some n =>
   simp only [qeJ]
   cases v5 n H (x a) (x v) <;> rfl
 | buildSlice t len parts => simp only [yOp]; rw [em]; rfl
 | convert s d a => simp only [yOp]; rw [em]; rfl
 | makeSlice t l c => simp only [yOp]; rw [em]; rfl
 | call c => simp only [yOp]; rw [em]
 | _ => simp only [yOp]; rw [em', qf6]
mutual
def AV.same : AV → AV → Bool
 | .int a b, .int c d => zc a c && decide (b = d)
 | .bool a, .bool b => a == b
 | .str a, .str b => a == b
 | .agg a, .agg b => vQ a b
 | .tup a, .tup b => vQ a b
 | .nilS, .nilS => true
 | .sl a, .sl b => qai a b
 | .em, .em => true
 | .nilP, .nilP => true
 | .nilF, .nilF => true
 | .nilM, .nilM => true
 | .nilI, .nilI => true
 | .junk, .junk => true
 | .fn (.func f) a b, .fn (.func g) c d => qgL f g && (vQ a c && vQ b d)
 | .cptr a i, .cptr b j => qgL i j && vQ a b
 | _, _ => false
def vQ : List AV → List AV → Bool
 | [], [] => true
 | a :: l, b :: m => a.same b && vQ l m
 | _, _ => false
def qai : List (List AV) → List (List AV) → Bool
 | [], [] => true
 | a :: l, b :: m => vQ a b && qai l m
 | _, _ => false
end
mutual
theorem AV.same_eq : ∀ {a b : AV}, a.same b = true → a = b
 | .int a b, y, h => by
  cases y <;> simp [AV.same, zc] at h
  rw [h.1, h.2]
 | .bool a, y, h => by cases y <;> simp [AV.same] at h; rw [h]
 | .str a, y, h => by cases y <;> simp [AV.same] at h; rw [h]
 | .agg a, y, h => by cases y <;> simp [AV.same] at h; rw [vV h]
 | .tup a, y, h => by cases y <;> simp [AV.same] at h; rw [vV h]
 | .nilS, y, h => by cases y <;> simp [AV.same] at h; rfl
 | .sl a, y, h => by cases y <;> simp [AV.same] at h; rw [qcS h]
 | .em, y, h => by cases y <;> simp [AV.same] at h; rfl
 | .nilP, y, h => by cases y <;> simp [AV.same] at h; rfl
 | .nilF, y, h => by cases y <;> simp [AV.same] at h; rfl
 | .nilM, y, h => by cases y <;> simp [AV.same] at h; rfl
 | .nilI, y, h => by cases y <;> simp [AV.same] at h; rfl
 | .junk, y, h => by cases y <;> simp [AV.same] at h; rfl
 | .fn f a b, y, h => by
  cases f <;> cases y <;> first | (rename_i g c d; cases g <;> simp [AV.same] at h; rw [h.1, vV h.2.1, vV h.2.2]) | simp [AV.same] at h
 | .cptr a i, y, h => by
  cases y <;> simp [AV.same] at h
  rw [h.1, vV h.2]
 | .ms _ _ _, y, h => by cases y <;> simp [AV.same] at h
 | .ptr _ _ _, y, h => by cases y <;> simp [AV.same] at h
 | .yld _, y, h => by cases y <;> simp [AV.same] at h
 | .mp _, y, h => by cases y <;> simp [AV.same] at h
 | .ifc _ _, y, h => by cases y <;> simp [AV.same] at h
theorem vV : ∀ {a b : List AV}, vQ a b = true → a = b
 | [], [], _ => rfl
 | a :: l, b :: m, h => by
  simp only [vQ, qgz] at h
  rw [AV.same_eq h.1, vV h.2]
 | [], _ :: _, h => by simp [vQ] at h
 | _ :: _, [], h => by simp [vQ] at h
theorem qcS : ∀ {a b : List (List AV)}, qai a b = true → a = b
 | [], [], _ => rfl
 | a :: l, b :: m, h => by
  simp only [qai, qgz] at h
  rw [vV h.1, qcS h.2]
 | [], _ :: _, h => by simp [qai] at h
 | _ :: _, [], h => by simp [qai] at h
end
structure Fact where
 frz : Bool
 f : Nat
 args : List AV
 v : AV
def Fact.Ok (cfg : Cfg) (e : Fact) : Prop := (if e.frz then EVf (EV cfg) e.f e.args else EVs (EV cfg) e.f e.args) = some e.v
def qt (cfg : Cfg) : List Fact → Prop
 | [] => True
 | e :: l => e.Ok cfg ∧ qt cfg l
theorem qt.nil {cfg : Cfg} : qt cfg [] := trivial
theorem qt.consS {cfg : Cfg} {f : Nat} {args : List AV} {v : AV} {l : List Fact} (h : EVs (EV cfg) f args = some v) (t : qt cfg l) : qt cfg (⟨false, f, args, v⟩ :: l) := ⟨h, t⟩
theorem qt.consF {cfg : Cfg} {f : Nat} {args : List AV} {v : AV} {l : List Fact} (h : EVf (EV cfg) f args = some v) (t : qt cfg l) : qt cfg (⟨true, f, args, v⟩ :: l) := ⟨h, t⟩
noncomputable def yD (frz : Bool) (f : Nat) (args : List AV) (fs : List Fact) : Option AV :=
 List.rec (motive := fun _ => Option AV) none (fun e _ ih => cond (qgL e.f f && (e.frz == frz && vQ e.args args)) (some e.v) ih) fs
theorem yV {cfg : Cfg} {frz : Bool} {f : Nat} {args : List AV} {v : AV} : ∀ {fs : List Fact}, qt cfg fs → yD frz f args fs = some v → (if frz then EVf (EV cfg) f args else EVs (EV cfg) f args) = some v
 | [], _, h => by cases h
 | e :: l, hok, h => by
  have hd : yD frz f args (e :: l) = cond (qgL e.f f && (e.frz == frz && vQ e.args args)) (some e.v) (yD frz f args l) := rfl
  rw [hd] at h
  cases hc : (qgL e.f f && (e.frz == frz && vQ e.args args)) with
  | true =>
   rw [hc] at h
   simp only [qgz, beq_iff_eq] at hc
   cases h
   have := hok.1
   unfold Fact.Ok at this
   rw [← qgB hc.1, ← hc.2.1, ← vV hc.2.2]
   exact this
  | false =>
   rw [hc] at h
   exact yV hok.2 h
noncomputable def qa2 (cfg : Cfg) (cf : Orac) (nid : Option Nat) (t : Tgt) (args : List AV) (H : AH) (k : AV → AH → Option β) : Option β :=
 match qF cfg cf nid t args H with
 | some r => gA r.1 fun v => gH r.2 fun H' => k v H'
 | none => none
noncomputable def qeM (_cfg : Cfg) (cf : Orac) (fs : List Fact) (f : Nat) (al : List AV) (k : AV → Option β) : Option β :=
 cond (qf 0 al)
  (match yD false f al fs with
  | some v => cond v.scalar (k v) none
  | none => (match cf (.f f) al [] with | some r => gA r.1 fun v => cond v.scalar (k v) none | none => none)) none
noncomputable def qeN (_cfg : Cfg) (cf : Orac) (fs : List Fact) (f : Nat) (al : List AV) (k : AV → Option β) : Option β :=
 cond (qf 0 al)
  (match yD true f al fs with
  | some v => cond (v.refsLt 0) (k v) none
  | none => (match cf (.f f) al [] with | some r => gA (r.1.frz r.1.msIds r.2).fg fun v => cond (v.refsLt 0) (k v) none | none => none)) none
noncomputable def qcM (cfg : Cfg) (cf : Orac) (fs : List Fact) (nid : Option Nat) (t : Tgt) (args : List AV) (H : AH) (k : AV → AH → Option β) : Option β :=
 match t with
 | .y id => qa2 cfg cf nid (.y id) args H k
 | .f f =>
  match cfg.mode f with
  | .scal => gL gA (args.map fun a => (a.snap H).fg) fun al => qeM cfg cf fs f al fun v => k v H
  | .pfrz => gL gA (args.map AV.fg) fun al => qeN cfg cf fs f al fun v => k v H
  | _ => qa2 cfg cf nid (.f f) args H k
noncomputable def qeL (cfg : Cfg) (cf : Orac) (fs : List Fact) (nid : Option Nat) (f : AV) (args : List AV) (H : AH) (k : AV → AH → Option β) : Option β :=
 match v9 f args with
 | some t => qcM cfg cf fs nid t.1 t.2 H k
 | none => none
def Le (cf cf' : Orac) : Prop := ∀ t a H r, cf t a H = some r → cf' t a H = some r
theorem qdu {cfg : Cfg} {cf : Orac} (hcf : Le cf (EV cfg)) {fs : List Fact} (hfs : qt cfg fs) {nid : Option Nat} {t : Tgt} {args : List AV} {H : AH} {k : AV → AH → Option β} {r : β}
  (h : qcM cfg cf fs nid t args H k = some r) : ∃ q, qF cfg (EV cfg) nid t args H = some q ∧ k q.1 q.2 = some r := by
 have hev : Ev (fun _ => EV cfg) cf := fun t a H r h => ⟨0, fun _ _ => hcf t a H r h⟩
 have gen : ∀ (t : Tgt), qa2 cfg cf nid t args H k = some r → ∃ q, qF cfg (EV cfg) nid t args H = some q ∧ k q.1 q.2 = some r := by
  intro t h
  unfold qa2 at h
  split at h
  ·rename_i q hq
   rw [xO, qam] at h
   obtain ⟨n, hn⟩ := qdi hev cfg nid t args H q hq
   exact ⟨q, hn n (qgy _), h⟩
  ·cases h
 cases t with
 | y id => exact gen _ h
 | f f =>
  simp only [qcM] at h
  cases hm : cfg.mode f with
  | scal =>
   simp only [hm, vS xO] at h
   unfold qeM at h
   obtain ⟨h1, h⟩ := qN h
   simp only [qF, hm, h1, if_true]
   split at h
   ·rename_i v hv
    obtain ⟨h2, h⟩ := qN h
    have := yV hfs hv
    simp only [qgF, if_false] at this
    unfold EVs at this
    obtain ⟨q, hq, rfl⟩ := qgw.1 this
    rw [hq]
    exact ⟨(q.1, H), by simp only [qgK, h2, if_true], h⟩
   ·split at h
    ·rename_i q hq
     rw [xO] at h
     obtain ⟨h2, h⟩ := qN h
     rw [hcf _ _ _ _ hq]
     exact ⟨(q.1, H), by simp only [qgK, h2, if_true], h⟩
    ·cases h
  | pfrz =>
   simp only [hm, vS xO] at h
   unfold qeN at h
   obtain ⟨h1, h⟩ := qN h
   simp only [qF, hm, h1, if_true]
   split at h
   ·rename_i v hv
    obtain ⟨h2, h⟩ := qN h
    have := yV hfs hv
    simp only [if_true] at this
    unfold EVf at this
    obtain ⟨q, hq, rfl⟩ := qgw.1 this
    rw [hq]
    exact ⟨((q.1.frz q.1.msIds q.2).fg, H), by simp only [qgK, h2, if_true], h⟩
   ·split at h
    ·rename_i q hq
     rw [xO] at h
     obtain ⟨h2, h⟩ := qN h
     rw [hcf _ _ _ _ hq]
     exact ⟨((q.1.frz q.1.msIds q.2).fg, H), by simp only [qgK, h2, if_true], h⟩
    ·cases h
  | _ => simp only [hm] at h; exact gen _ h
noncomputable def yn (cfg : Cfg) (cf : Orac) (fs : List Fact) (nid : Option Nat) (o : Op) (ty : TypeId) (x : Operand → AV) (H : AH) (k : AV → AH → Option β) : Option β :=
 match o with
 | .call c =>
  (match c.callee with
  | .value f => gL gW (c.args.toList.map x) fun args => qeL cfg cf fs nid (x f) args H k
  | _ => yOp cfg nid (.call c) ty x H k)
 | o => yOp cfg nid o ty x H k
noncomputable def qcB (cfg : Cfg) (cf : Orac) (fs : List Fact) (frz : Bool) (nid : Option Nat) (o : Oper) (x : Operand → AV) (H : AH) (k : AV → AH → Option β) : Option β :=
 match frz with
 | false => yn cfg cf fs nid o.op o.type x H k
 | true => gS (o.op.operands.toList.flatMap fun a => (x a).msIds) fun ids => gH (ql ids H) fun H' => yn cfg cf fs nid o.op o.type (fun a => (x a).frz ids H) H' k
theorem qaq {cfg : Cfg} {cf : Orac} (hcf : Le cf (EV cfg)) {fs : List Fact} (hfs : qt cfg fs) {nid : Option Nat} {o : Oper} {x : Operand → AV} {H : AH} {k : AV → AH → Option β} {r : β}
  (h : yn cfg cf fs nid o.op o.type x H k = some r) : ∃ q, qq cfg (EV cfg) false nid o x H = some q ∧ k q.1 q.2 = some r := by
 obtain ⟨dst, op, ty, pos, after, guard⟩ := o
 unfold qq
 simp only [qgF, if_false] at h ⊢
 have plain : ∀ (op : Op), yOp cfg nid op ty x H k = some r → ∃ q, evOp cfg nid op ty x H = some q ∧ k q.1 q.2 = some r := by
  intro op h
  rw [qf4] at h
  exact qgx.1 h
 cases op with
 | call c =>
  obtain ⟨callee, args, argTypes⟩ := c
  cases callee with
  | value f =>
   simp only [yn, vS qby] at h ⊢
   unfold qeL at h
   split at h
   ·rename_i t ht
    rw [ht]
    exact qdu hcf hfs h
   ·cases h
  | builtin b => simp only [yn] at h ⊢; exact plain _ h
  | invoke rv nm => simp only [yn] at h ⊢; exact plain _ h
 | _ => simp only [yn] at h ⊢; exact plain _ h
theorem qaX {cfg : Cfg} {cf : Orac} (hcf : Le cf (EV cfg)) {fs : List Fact} (hfs : qt cfg fs) {frz : Bool} {nid : Option Nat} {o : Oper} {x : Operand → AV} {H : AH} {k : AV → AH → Option β} {r : β}
  (h : qcB cfg cf fs frz nid o x H k = some r) : ∃ q, qq cfg (EV cfg) frz nid o x H = some q ∧ k q.1 q.2 = some r := by
 cases frz with
 | false => exact qaq hcf hfs h
 | true =>
  simp only [qcB, vr, qam] at h
  obtain ⟨q, h1, h2⟩ := qaq hcf hfs h
  refine ⟨q, ?_, h2⟩
  unfold qq at h1 ⊢
  simpa using h1
noncomputable def yOps (cfg : Cfg) (cf : Orac) (fs : List Fact) (f rid : Nat) (ops : Array Oper) (n : Nat) : Nat → List Oper → Ov → AH → (Ov → AH → Option β) → Option β
 | _, [], ov, H, K => K ov H
 | i, o :: rest, ov, H, K =>
  match yi ops ov o with
  | none => none
  | some b =>
   cond b (qcB cfg cf fs (cfg.frz f rid i) none o (opdO ov) H fun v H' => yOps cfg cf fs f rid ops n (i + 1) rest (putO n ov o.dst v) H' K)
    (yOps cfg cf fs f rid ops n (i + 1) rest (putO n ov o.dst (.tup [])) H K)
theorem zI {cfg : Cfg} {cf : Orac} (hcf : Le cf (EV cfg)) {fs : List Fact} (hfs : qt cfg fs) {f rid n : Nat} {ops : Array Oper} {r : β} : ∀ {l : List Oper} {i : Nat} {ov : Ov} {H : AH} {K : Ov → AH → Option β}, OvOk n ov → yOps cfg cf fs f rid ops n i l ov H K = some r →
  ∃ ov' H', OvOk n ov' ∧ xQ cfg (EV cfg) f rid ops i l (den n ov) H = some (den n ov', H') ∧ K ov' H' = some r
 | [], i, ov, H, K, hok, h => ⟨ov, H, hok, rfl, h⟩
 | o :: l, i, ov, H, K, hok, h => by
  rw [yOps] at h
  rw [xQ, qa4 hok]
  cases hw : yi ops ov o with
  | none => rw [hw] at h; cases h
  | some b =>
   rw [hw] at h
   simp only [qgK]
   cases b with
   | true =>
    simp only [cond_true] at h
    obtain ⟨q, h1, h2⟩ := qaX hcf hfs h
    simp only [if_true, y9 hok, h1, qgK]
    obtain ⟨ov', H', h3, h4, h5⟩ := zI hcf hfs (qaj hok _ _) h2
    rw [zs] at h4
    exact ⟨ov', H', h3, h4, h5⟩
   | false =>
    simp only [cond_false] at h
    simp only [qgF, if_false]
    obtain ⟨ov', H', h3, h4, h5⟩ := zI hcf hfs (qaj hok _ _) h
    rw [zs] at h4
    exact ⟨ov', H', h3, h4, h5⟩
noncomputable def qa1 (cfg : Cfg) (cf : Orac) (fs : List Fact) (f rid : Nat) (ops : Array Oper) (n : Nat) : Nat → Nat → List Oper → Ov → AH → (List DR → Ov → AH → Option β) → Option β
 | _, _, [], ov, H, K => K [] ov H
 | i, at_, o :: rest, ov, H, K =>
  match yi ops ov o with
  | none => none
  | some b =>
   fNat (at_ + zV cfg o) fun at' =>
   cond b (qcB cfg cf fs (cfg.frz f rid i) (some at_) o (opdO ov) H fun v H' => qa1 cfg cf fs f rid ops n (i + 1) at' rest (putO n ov o.dst v) H' fun fps ov' H'' => K (drOf cfg (cfg.frz f rid i) at_ o (opdO ov) H v H' :: fps) ov' H'')
    (qa1 cfg cf fs f rid ops n (i + 1) at' rest (putO n ov o.dst (.tup [])) H fun fps ov' H'' => K (drNo H :: fps) ov' H'')
theorem zl {cfg : Cfg} {cf : Orac} (hcf : Le cf (EV cfg)) {fs : List Fact} (hfs : qt cfg fs) {f rid n : Nat} {ops : Array Oper} {r : β} : ∀ {l : List Oper} {i at_ : Nat} {ov : Ov} {H : AH} {K : List DR → Ov → AH → Option β}, OvOk n ov → qa1 cfg cf fs f rid ops n i at_ l ov H K = some r →
  ∃ fps ov' H', OvOk n ov' ∧ vL cfg (EV cfg) f rid ops i at_ l (den n ov) H = some (fps, den n ov', H') ∧ K fps ov' H' = some r
 | [], i, at_, ov, H, K, hok, h => ⟨[], ov, H, hok, rfl, h⟩
 | o :: l, i, at_, ov, H, K, hok, h => by
  rw [qa1] at h
  rw [vL, qa4 hok]
  cases hw : yi ops ov o with
  | none => rw [hw] at h; cases h
  | some b =>
   rw [hw] at h
   simp only [qgK]
   simp only [ve] at h
   cases b with
   | true =>
    simp only [cond_true] at h
    obtain ⟨q, h1, h2⟩ := qaX hcf hfs h
    simp only [if_true, y9 hok, h1, qgK]
    obtain ⟨fps, ov', H', h3, h4, h5⟩ := zl hcf hfs (qaj hok _ _) h2
    rw [zs] at h4
    exact ⟨_, ov', H', h3, by rw [h4]; rfl, h5⟩
   | false =>
    simp only [cond_false] at h
    simp only [qgF, if_false]
    obtain ⟨fps, ov', H', h3, h4, h5⟩ := zl hcf hfs (qaj hok _ _) h
    rw [zs] at h4
    exact ⟨_, ov', H', h3, by rw [h4]; rfl, h5⟩
def xT : Nat → List Nat → Bool
 | _, [] => true
 | i, k :: ks => Nat.ble i k && xT (k + 1) ks
noncomputable def qcE (ks : List Nat) (ov : Ov) : (Ov → α) → α :=
 List.rec (motive := fun _ => (Ov → α) → α) (fun K => K []) (fun t _ ih K => gW (qz t ov) fun v => ih fun l => K ((t, v) :: l)) ks
theorem qfv (ks : List Nat) (ov : Ov) : ∀ (K : Ov → α), qcE ks ov K = K (ks.map fun t => (t, qz t ov)) := by
 induction ks with
 | nil => intro K; rfl
 | cons t l ih =>
  intro K
  have : qcE (t :: l) ov K = gW (qz t ov) fun v => qcE l ov fun l => K ((t, v) :: l) := rfl
  rw [this, qby, ih, List.map_cons]
theorem yc : ∀ (ks : List Nat) (fr : List AV) (i t : Nat), xT i ks = true → (qG i ks fr)[t]? = if t < fr.length then some (if i + t ∈ ks then (fr[t]?).getD .junk else .junk) else none
 | ks, [], i, t, _ => by cases ks <;> simp [qG]
 | [], a :: fr, i, t, h => by
  rw [qG]
  cases t with
  | zero => simp
  | succ t =>
   simp only [List.getElem?_cons_succ]
   rw [yc [] fr i t rfl]
   simp
 | k :: ks, a :: fr, i, t, h => by
  rw [xT, qgz, Nat.ble_eq] at h
  rw [qG]
  have hge : ∀ (l : List Nat) (j : Nat), xT j l = true → ∀ x ∈ l, j ≤ x := by
   intro l
   induction l with
   | nil => intro j _ x hx; cases hx
   | cons y l ih =>
    intro j hj x hx
    rw [xT, qgz, Nat.ble_eq] at hj
    rcases List.mem_cons.1 hx with rfl | hx
    ·exact hj.1
    ·have := ih _ hj.2 x hx; omega
  split
  ·rename_i e
   have e := qgB e
   subst e
   cases t with
   | zero => simp
   | succ t =>
    simp only [List.getElem?_cons_succ]
    rw [yc ks fr (i + 1) t h.2]
    have e1 : i + (t + 1) = i + 1 + t := by omega
    have e2 : ¬ i + 1 + t = i := by omega
    simp only [List.length_cons, Nat.add_lt_add_iff_right, e1, List.mem_cons, e2, false_or]
  ·rename_i e
   have hne : i ≠ k := fun h' => e (by rw [h']; exact Nat.beq_refl _)
   cases t with
   | zero =>
    have : i ∉ k :: ks := by
     intro hm
     rcases List.mem_cons.1 hm with rfl | hm
     ·exact hne rfl
     ·have := hge _ _ h.2 i hm; omega
    simp [this]
   | succ t =>
    simp only [List.getElem?_cons_succ]
    rw [yc (k :: ks) fr (i + 1) t (by rw [xT, qgz, Nat.ble_eq]; exact ⟨by omega, h.2⟩)]
    have e1 : i + (t + 1) = i + 1 + t := by omega
    simp only [List.length_cons, Nat.add_lt_add_iff_right, e1]
theorem qe2 (ks : List Nat) (g : Nat → AV) (t : Nat) : qz t (ks.map fun t => (t, g t)) = if t ∈ ks then g t else .junk := by
 induction ks with
 | nil => rfl
 | cons k l ih =>
  rw [List.map_cons, xA, ih]
  by_cases e : k = t
  ·subst e; simp
  ·have h1 : qgL k t = false := by rw [← Bool.not_eq_true]; intro h'; exact e (qgB h')
   have h2 : ¬ t = k := fun h => e h.symm
   rw [h1, cond_false]
   simp only [List.mem_cons, h2, false_or]
noncomputable def qaY (n : Nat) (ts : Option (List Nat)) (ov : Ov) (K : Ov → Option β) : Option β :=
 match ts with
 | none => K ov
 | some ks => cond (xT 0 ks && ks.all fun t => Nat.blt t n) (qcE ks ov K) none
theorem zk {n : Nat} {ts : Option (List Nat)} {ov : Ov} {K : Ov → Option β} {r : β} (hok : OvOk n ov) (h : qaY n ts ov K = some r) : ∃ ov', OvOk n ov' ∧ q4 ts (den n ov) = den n ov' ∧ K ov' = some r := by
 cases ts with
 | none => exact ⟨ov, hok, rfl, h⟩
 | some ks =>
  simp only [qaY, qfv] at h
  cases hc : (xT 0 ks && ks.all fun t => Nat.blt t n) with
  | false => rw [hc] at h; cases h
  | true =>
   rw [hc] at h
   rw [qgz, List.all_eq_true] at hc
   have hok' : OvOk n (ks.map fun t => (t, qz t ov)) := by
    intro p hp
    obtain ⟨t, ht, rfl⟩ := List.mem_map.1 hp
    have := hc.2 t ht
    simpa [Nat.blt_eq] using this
   refine ⟨_, hok', (qb7 hok' ?_ fun t ht => ?_).symm, h⟩
   ·show (qG 0 ks (den n ov)).length = n
    rw [(xE (ts := ks) (fr := den n ov) (k := 0)).1, ze]
   ·show (qG 0 ks (den n ov))[t]? = _
    rw [yc _ _ _ _ hc.1, ze, if_pos ht, Nat.zero_add, qe2, zf hok, if_pos ht]
    rfl
noncomputable def x8 (n : Nat) : List (Tmp × Nat) → Ov → AH → (Ov → AH → Option β) → Option β
 | [], ov, H, K => K ov H
 | p :: l, ov, H, K =>
  match qz p.1 ov with
  | .nilS => fNat H.length fun i => cond (Nat.blt p.1 n) (gS (H ++ [.rows true p.2 []]) fun H' => x8 n l ((p.1, .ms i 0 0) :: ov) H' K) none
  | .ptr _ _ _ => (match vR p.1 p.2 (den n ov) H with | q => gH q.2 fun H' => x8 n l ov H' K)
  | _ => x8 n l ov H K
theorem qe5 {t sz : Nat} {fr : List AV} {H : AH} {id r off : Nat} (h : fr[t]? = some (.ptr id r off)) : (vR t sz fr H).1 = fr := by
 unfold vR
 rw [h]
 simp only
 split
 ·split
  ·split <;> rfl
  ·rfl
 ·rfl
theorem v8 {n : Nat} {r : β} : ∀ {ls : List (Tmp × Nat)} {ov : Ov} {H : AH} {K : Ov → AH → Option β}, OvOk n ov → x8 n ls ov H K = some r → ∃ ov' H', OvOk n ov' ∧ qS ls (den n ov) H = (den n ov', H') ∧ K ov' H' = some r
 | [], ov, H, K, hok, h => ⟨ov, H, hok, rfl, h⟩
 | p :: l, ov, H, K, hok, h => by
  rw [x8] at h
  rw [qS]
  have hget : (den n ov)[p.1]? = if p.1 < n then some (qz p.1 ov) else none := zf hok p.1
  split at h
  ·rename_i hv
   simp only [ve] at h
   cases hb : Nat.blt p.1 n with
   | false => rw [hb] at h; cases h
   | true =>
    rw [hb] at h
    simp only [cond_true, vr] at h
    have hlt : p.1 < n := by simpa [Nat.blt_eq] using hb
    have hl1 : vR p.1 p.2 (den n ov) H = (den n ((p.1, .ms H.length 0 0) :: ov), H ++ [.rows true p.2 []]) := by
     unfold vR
     rw [hget, if_pos hlt, hv]; rfl
    rw [hl1]
    exact v8 (fun q hq => (List.mem_cons.1 hq).elim (fun e => by subst e; exact hlt) (hok q)) h
  ·rename_i id r' off hv
   simp only [qam] at h
   by_cases hlt : p.1 < n
   ·rw [qe5 (by rw [hget, if_pos hlt, hv])]
    exact v8 hok h
   ·rw [zR hok hlt] at hv; cases hv
  ·rename_i h1 h2
   have hl1 : vR p.1 p.2 (den n ov) H = (den n ov, H) := by
    unfold vR
    rw [hget]
    by_cases hlt : p.1 < n
    ·rw [if_pos hlt]
     split
     ·rename_i e; exact absurd (Option.some.inj e) h1
     ·rename_i a b c e; exact absurd (Option.some.inj e) (h2 a b c)
     ·rfl
    ·rw [if_neg hlt]
   rw [hl1]
   exact v8 hok h
def spGo : Nat → List AV → Ov
 | _, [] => []
 | i, .junk :: l => spGo (i + 1) l
 | i, v :: l => (i, v) :: spGo (i + 1) l
theorem qcR : ∀ (l : List AV) (i t : Nat), qz t (spGo i l) = if i ≤ t then (l[t - i]?).getD .junk else .junk
 | [], i, t => by simp [spGo, zQ]
 | a :: l, i, t => by
  have ih := qcR l (i + 1) t
  have key : ∀ (ov : Ov), ov = (i, a) :: spGo (i + 1) l → qz t ov = if i ≤ t then ((a :: l)[t - i]?).getD .junk else .junk := by
   intro ov e
   rw [e, xA, ih]
   by_cases e2 : i = t
   ·subst e2; simp
   ·have h1 : qgL i t = false := by rw [← Bool.not_eq_true]; intro h'; exact e2 (qgB h')
    simp only [h1, cond_false]
    by_cases h3 : i + 1 ≤ t
    ·have h4 : t - i = (t - (i + 1)) + 1 := by omega
     rw [if_pos h3, if_pos (by omega), h4, List.getElem?_cons_succ]
    ·rw [if_neg h3, if_neg (by omega)]
  cases a with
  | junk =>
   show qz t (spGo (i + 1) l) = _
   rw [ih]
   by_cases h3 : i + 1 ≤ t
   ·have h4 : t - i = (t - (i + 1)) + 1 := by omega
    rw [if_pos h3, if_pos (by omega), h4, List.getElem?_cons_succ]
   ·rw [if_neg h3]
    by_cases e2 : i = t
    ·subst e2; simp
    ·rw [if_neg (by omega)]
  | _ => exact key _ rfl
theorem y5 : ∀ (l : List AV) (i n : Nat), i + l.length ≤ n → OvOk n (spGo i l)
 | [], i, n, _ => fun p hp => by cases hp
 | a :: l, i, n, h => by
  simp only [List.length_cons] at h
  have ih := y5 l (i + 1) n (by omega)
  have key : OvOk n ((i, a) :: spGo (i + 1) l) := fun p hp => by
   rcases List.mem_cons.1 hp with rfl | hp
   ·show i < n; omega
   ·exact ih p hp
  cases a <;> first | exact key | exact ih
theorem qdh (l : List AV) : den l.length (spGo 0 l) = l := by
 have hok := y5 l 0 l.length (by omega)
 refine qb7 hok rfl fun t ht => ?_
 rw [qcR, if_pos (Nat.zero_le _), Nat.sub_zero, qgA ht]; rfl
noncomputable def yGc (n k : Nat) (ov : Ov) (H : AH) (K : Ov → AH → Option β) : Option β :=
 cond (Nat.ble H.length k) (K ov H) (match xG k (den n ov) H with | q => gS (spGo 0 q.1) fun ov' => gL gP ov' fun ov' => gH q.2 fun H' => K ov' H')
theorem qfs (ρ : Nat → Nat) (l : List AV) : (renL ρ l).length = l.length := by rw [vj]; simp
theorem qe9 (k : Nat) (fr : List AV) (H : AH) : (xG k fr H).1.length = fr.length := by
 unfold xG
 simp only
 cases qO H (qK k H (2 * H.length + 16) [] (qk k fr ++ qM k (H.take k))) with
 | none => rfl
 | some bs =>
  simp only
  split
  ·exact qfs _ _
  ·rfl
theorem qfl {n k : Nat} {ov : Ov} {H : AH} {K : Ov → AH → Option β} {r : β} (hok : OvOk n ov) (h : yGc n k ov H K = some r) : ∃ ov' H', OvOk n ov' ∧ gc k (den n ov) H = (den n ov', H') ∧ K ov' H' = some r := by
 unfold yGc at h
 unfold gc
 cases hb : Nat.ble H.length k with
 | true => rw [hb] at h; exact ⟨ov, H, hok, by simp, h⟩
 | false =>
  rw [hb] at h
  simp only [cond_false] at h
  rw [vr, vS qfN, qam] at h
  have hl : (xG k (den n ov) H).1.length = n := by rw [qe9, ze]
  have := qdh (xG k (den n ov) H).1
  rw [hl] at this
  refine ⟨_, _, ?_, ?_, h⟩
  ·exact y5 _ _ _ (by omega)
  ·simp only [qgF, if_false, this]
noncomputable def qd9 (n k : Nat) (ts : Option (List Tmp)) (ls : List (Tmp × Nat)) (ov : Ov) (H : AH) (K : Ov → AH → Option β) : Option β :=
 qaY n ts ov fun ov => x8 n ls ov H fun ov H => yGc n k ov H K
theorem qa0 {n k : Nat} {ts : Option (List Tmp)} {ls : List (Tmp × Nat)} {ov : Ov} {H : AH} {K : Ov → AH → Option β} {r : β} (hok : OvOk n ov) (h : qd9 n k ts ls ov H K = some r) :
  ∃ ov' H', OvOk n ov' ∧ yz k ts ls (den n ov) H = (den n ov', H') ∧ K ov' H' = some r := by
 obtain ⟨ov1, h1, h2, h⟩ := zk hok h
 obtain ⟨ov2, H2, h3, h4, h⟩ := v8 h1 h
 obtain ⟨ov3, H3, h5, h6, h⟩ := qfl h3 h
 refine ⟨ov3, H3, h5, ?_, h⟩
 unfold yz
 rw [h2, h4]
 exact h6
abbrev YE (β : Type) := Ex → Ov → AH → Option β
noncomputable def qcC (n k : Nat) (ts : Option (List Tmp)) (ls : List (Tmp × Nat)) (body : Ov → AH → YE β → Option β) : Nat → Ov → AH → YE β → Option β
 | 0, _, _, _ => none
 | m + 1, ov, H, K => body ov H fun e ov' H' =>
  match e with
  | .normal => qd9 n k ts ls ov' H' fun ov2 H2 => qcC n k ts ls body m ov2 H2 K
  | e => K e ov' H'
noncomputable def qeK (cfg : Cfg) (cf : Orac) (f : Nat) (rd : Option Nat) (n bs : Nat) (g : Operand) (ps : Array Tmp) (assign body : Code) (ov : Ov) (H : AH) (K : YE β) : Option β :=
 gL gW (den n ov) fun fr =>
 match xK cfg cf f rd bs g ps assign body fr H with
 | none => none
 | some q => gS (spGo 0 q.2.1) fun ov' => gL gP ov' fun ov' => gH q.2.2 fun H' => cond (qgL q.2.1.length n) (K q.1 ov' H') none
noncomputable def yC (cfg : Cfg) (cf : Orac) (fs : List Fact) (m f : Nat) (rd : Option Nat) (n bs : Nat) : Code → Ov → AH → YE β → Option β
 | .skip, ov, H, K => K .normal ov H
 | .label _, ov, H, K => K .normal ov H
 | .region id ops draw, ov, H, K =>
  match draw with
  | true => cond (zy ops) (gS (H ++ qgJ (places cfg ops.toList) .res) fun H1 => qa1 cfg cf fs f id ops n 0 H.length ops.toList ov H1 fun fps ov' H' => cond (qao (ancs [] ops.toList) H1 fps) (K .normal ov' H') none) none
  | false => yOps cfg cf fs f id ops n 0 ops.toList ov H fun ov' H' => K .normal ov' H'
 | .seq a b, ov, H, K => yC cfg cf fs m f rd n bs a ov H fun e ov' H' =>
  match e with
  | .normal => qaY n (cfg.cut f (qh b)) ov' fun ov2 => yC cfg cf fs m f rd n bs b ov2 H' K
  | e => K e ov' H'
 | .cond c a b, ov, H, K =>
  match opdO ov c with
  | .bool t => (match t with | true => yC cfg cf fs m f rd n bs a ov H K | false => yC cfg cf fs m f rd n bs b ov H K)
  | _ => none
 | .block id a, ov, H, K => yC cfg cf fs m f rd n bs a ov H fun e ov' H' =>
  match e with
  | .exit id' => cond (qgL id' id) (K .normal ov' H') (K (.exit id') ov' H')
  | e => K e ov' H'
 | .loop a, ov, H, K => qd9 n bs (cfg.keepIn f (qh a)) (cfg.lift f (qh a)) ov H fun ov H =>
   qcC n bs (cfg.keepIn f (qh a)) (cfg.lift f (qh a)) (yC cfg cf fs m f rd n bs a) m ov H fun e ov H => qaY n (cfg.keepOut f (qh a)) ov fun ov => K e ov H
 | .scope a, ov, H, K => yC cfg cf fs m f rd n bs a ov H fun e ov' H' =>
  match e with
  | .goto _ => none
  | e => K e ov' H'
 | .exit id, ov, H, K => K (.exit id) ov H
 | .goto _, _, _, _ => none
 | .ret, ov, H, K => K .ret ov H
 | .rangeFunc g ps assign body, ov, H, K => x8 n (cfg.lift f (qh body)) ov H fun ov H => qeK cfg cf f rd n bs g ps assign body ov H K
 | .refuse _, _, _, _ => none
theorem qaZ {n k : Nat} {ts : Option (List Tmp)} {ls : List (Tmp × Nat)} {body : Ov → AH → YE β → Option β} {den' : Den} {r : β}
  (hb : ∀ {ov H K}, OvOk n ov → body ov H K = some r → ∃ e ov' H', OvOk n ov' ∧ den' (den n ov) H = some (e, den n ov', H') ∧ K e ov' H' = some r) :
  ∀ (m : Nat) {ov : Ov} {H : AH} {K : YE β}, OvOk n ov → qcC n k ts ls body m ov H K = some r → ∃ e ov' H', OvOk n ov' ∧ xa k ts ls den' m (den n ov, H) = some (e, den n ov', H') ∧ K e ov' H' = some r
 | 0, ov, H, K, _, h => by cases h
 | m + 1, ov, H, K, hok, h => by
  rw [qcC] at h
  obtain ⟨e, ov1, H1, h1, h2, h3⟩ := hb hok h
  rw [xa]
  simp only [h2, qgK]
  cases e with
  | normal =>
   simp only at h3 ⊢
   obtain ⟨ov2, H2, h4, h5, h6⟩ := qa0 h1 h3
   rw [h5]
   exact qaZ hb m h4 h6
  | exit id => exact ⟨_, ov1, H1, h1, rfl, h3⟩
  | goto l => exact ⟨_, ov1, H1, h1, rfl, h3⟩
  | ret => exact ⟨_, ov1, H1, h1, rfl, h3⟩
theorem qbZ {cfg : Cfg} {cf : Orac} (hcf : Le cf (EV cfg)) {fs : List Fact} (hfs : qt cfg fs) {m f : Nat} {rd : Option Nat} {n bs : Nat} {r : β} : ∀ (c : Code) {ov : Ov} {H : AH} {K : YE β}, OvOk n ov → yC cfg cf fs m f rd n bs c ov H K = some r →
  ∃ e ov' H', OvOk n ov' ∧ evC cfg (EV cfg) f rd bs c (den n ov) H = some (e, den n ov', H') ∧ K e ov' H' = some r := by
 intro c
 induction c with
 | skip => intro ov H K hok h; exact ⟨_, ov, H, hok, by simp only [evC], h⟩
 | label l => intro ov H K hok h; exact ⟨_, ov, H, hok, by simp only [evC], h⟩
 | exit id => intro ov H K hok h; exact ⟨_, ov, H, hok, by simp only [evC], h⟩
 | ret => intro ov H K hok h; exact ⟨_, ov, H, hok, by simp only [evC], h⟩
 | goto l => intro ov H K hok h; cases h
 | refuse s => intro ov H K hok h; cases h
 | region id ops draw =>
  intro ov H K hok h
  simp only [yC] at h
  simp only [evC]
  cases draw with
  | true =>
   simp only at h
   obtain ⟨h1, h⟩ := qN h
   rw [vr] at h
   obtain ⟨fps, ov', H', h2, h3, h⟩ := zl hcf hfs hok h
   obtain ⟨h4, h⟩ := qN h
   exact ⟨_, ov', H', h2, by simp only [if_true, h1, h3, qgK, h4], h⟩
  | false =>
   simp only at h
   obtain ⟨ov', H', h2, h3, h⟩ := zI hcf hfs hok h
   exact ⟨_, ov', H', h2, by simp only [qgF, if_false, h3, Option.map_some], h⟩
 | seq x y ihx ihy =>
  intro ov H K hok h
  simp only [yC] at h
  simp only [evC]
  obtain ⟨e, ov1, H1, h1, h2, h⟩ := ihx hok h
  rw [h2]
  simp only [qgK]
  cases e with
  | normal =>
   simp only at h ⊢
   obtain ⟨ov2, h3, h4, h⟩ := zk h1 h
   rw [h4]
   exact ihy h3 h
  | exit id => exact ⟨_, ov1, H1, h1, rfl, h⟩
  | goto l => exact ⟨_, ov1, H1, h1, rfl, h⟩
  | ret => exact ⟨_, ov1, H1, h1, rfl, h⟩
 | cond c x y ihx ihy =>
  intro ov H K hok h
  simp only [yC] at h
  simp only [evC, y9 hok]
  split at h
  ·rename_i t ht
   rw [ht]
   cases t with
   | true => exact ihx hok h
   | false => exact ihy hok h
  ·cases h
 | block id x ih =>
  intro ov H K hok h
  simp only [yC] at h
  simp only [evC]
  obtain ⟨e, ov1, H1, h1, h2, h⟩ := ih hok h
  rw [h2]
  simp only [qgK]
  cases e with
  | normal => exact ⟨_, ov1, H1, h1, rfl, h⟩
  | exit id' =>
   simp only at h ⊢
   cases hb : qgL id' id with
   | true => rw [hb] at h; exact ⟨_, ov1, H1, h1, by simp, h⟩
   | false => rw [hb] at h; exact ⟨_, ov1, H1, h1, by simp, h⟩
  | goto l => exact ⟨_, ov1, H1, h1, rfl, h⟩
  | ret => exact ⟨_, ov1, H1, h1, rfl, h⟩
 | loop x ih =>
  intro ov H K hok h
  simp only [yC] at h
  simp only [evC]
  obtain ⟨ov1, H1, h1, h2, h⟩ := qa0 hok h
  rw [h2]
  obtain ⟨e, ov2, H2, h3, h4, h⟩ := qaZ (den' := evC cfg (EV cfg) f rd bs x) (fun hok h => ih hok h) m h1 h
  obtain ⟨ov3, h5, h6, h⟩ := zk h3 h
  rw [qd8 h4]
  exact ⟨e, ov3, H2, h5, by simp only [Option.map_some, h6], h⟩
 | scope x ih =>
  intro ov H K hok h
  simp only [yC] at h
  simp only [evC]
  obtain ⟨e, ov1, H1, h1, h2, h⟩ := ih hok h
  rw [h2]
  simp only [qgK]
  cases e with
  | goto l => cases h
  | normal => exact ⟨_, ov1, H1, h1, rfl, h⟩
  | exit id => exact ⟨_, ov1, H1, h1, rfl, h⟩
  | ret => exact ⟨_, ov1, H1, h1, rfl, h⟩
 | rangeFunc g ps assign body =>
  intro ov H K hok h
  simp only [yC] at h
  simp only [evC]
  obtain ⟨ov1, H1, h1, h2, h⟩ := v8 hok h
  rw [h2]
  simp only
  unfold qeK at h
  rw [vS qby] at h
  split at h
  ·cases h
  ·rename_i q hq
   have hq : xK cfg (EV cfg) f rd bs g ps assign body (den n ov1) H1 = some q := by
    unfold xK at hq ⊢
    split at hq
    ·rename_i hl
     rw [if_pos hl]
     split at hq
     ·split at hq
      ·cases hq
      ·rename_i hx
       rw [if_neg hx]
       obtain ⟨q2, hq2, hq⟩ := qgx.1 hq
       rw [hcf _ _ _ _ hq2]
       exact hq
     ·cases hq
    ·cases hq
   rw [vr, vS qfN, qam] at h
   obtain ⟨hl, h⟩ := qN h
   have hl := qgB hl
   have hd := qdh q.2.1
   rw [hl] at hd
   refine ⟨q.1, _, q.2.2, ?_, ?_, h⟩
   ·exact y5 _ _ _ (by omega)
   ·rw [hq, hd]
noncomputable def resO (rs : List ResultVar) (ty : TypeId → Option TI) (ov : Ov) (H : AH) : Option (List AV) :=
 match rs with
 | [] => some []
 | .tmp t :: l => (resO l ty ov H).map fun vs => qz t ov :: vs
 | .cell a t :: l =>
  match ty t with
  | some ti => (yf ti.d.agg ti.sz H (qz a ov)).bind fun v => (resO l ty ov H).map fun vs => v :: vs
  | none => none
theorem qb1 {n : Nat} {ov : Ov} (hok : OvOk n ov) (ty : TypeId → Option TI) (H : AH) : ∀ rs : List ResultVar, q9 rs ty (den n ov) H = resO rs ty ov H
 | [] => rfl
 | .tmp t :: l => by
  have : (den n ov).getD t .junk = qz t ov := congrFun (y9 hok) (.tmp t)
  simp only [q9, resO, qb1 hok ty H l, this]
 | .cell a t :: l => by
  have : (den n ov).getD a .junk = qz a ov := congrFun (y9 hok) (.tmp a)
  simp only [q9, resO, qb1 hok ty H l, this]
  cases ty t <;> rfl
noncomputable def yEnd (cfg : Cfg) (f n : Nat) (rs : List ResultVar) : YE (AV × AH) := fun e ov H =>
 match e with
 | .normal | .ret => x8 n (cfg.lift f 0) ov H fun ov H => (match resO rs cfg.ty ov H with | some vs => gA (xr vs) fun v => some (v, H) | none => none)
 | _ => none
def zz : Nat → List AV → Ov
 | _, [] => []
 | i, a :: l => (i, a) :: zz (i + 1) l
theorem qaU : ∀ (l : List AV) (i n : Nat), i + l.length ≤ n → OvOk n (zz i l)
 | [], i, n, _ => fun p hp => by cases hp
 | a :: l, i, n, h => by
  simp only [List.length_cons] at h
  intro p hp
  rcases List.mem_cons.1 hp with rfl | hp
  ·show i < n; omega
  ·exact qaU l (i + 1) n (by omega) p hp
theorem qcr : ∀ (l : List AV) (i t : Nat), qz t (zz i l) = if i ≤ t then (l[t - i]?).getD .junk else .junk
 | [], i, t => by simp [zz, zQ]
 | a :: l, i, t => by
  rw [zz, xA, qcr l (i + 1) t]
  by_cases e2 : i = t
  ·subst e2; simp
  ·have h1 : qgL i t = false := by rw [← Bool.not_eq_true]; intro h'; exact e2 (qgB h')
   simp only [h1, cond_false]
   by_cases h3 : i + 1 ≤ t
   ·have h4 : t - i = (t - (i + 1)) + 1 := by omega
    rw [if_pos h3, if_pos (by omega), h4, List.getElem?_cons_succ]
   ·rw [if_neg h3, if_neg (by omega)]
theorem qfG {l : List AV} {n : Nat} (h : l.length ≤ n) : den n (zz 0 l) = l ++ qgJ (n - l.length) .junk := by
 refine qb7 (qaU l 0 n (by omega)) (by simp; omega) fun t ht => ?_
 rw [qcr, if_pos (Nat.zero_le _), Nat.sub_zero]
 by_cases hl : t < l.length
 ·rw [qgD hl, qgA hl]; rfl
 ·rw [qgE (by omega), List.getElem?_replicate, if_pos (by omega), List.getElem?_eq_none (by omega)]; rfl
noncomputable def yY2 (id : Nat) : YE (AV × AH) := fun e _ H =>
 match H[id]? with
 | some (.loop f' fr' ps' assign' body' _ _) =>
  match e with
  | .normal => gS (H.set id (.loop f' fr' ps' assign' body' none .ready)) fun H' => some (.bool true, H')
  | .ret => gS (H.set id (.loop f' fr' ps' assign' body' (some .ret) .done)) fun H' => some (.bool false, H')
  | .exit x => gS (H.set id (.loop f' fr' ps' assign' body' (some (.exit x)) .done)) fun H' => some (.bool false, H')
  | .goto _ => none
 | _ => none
noncomputable def yF (cfg : Cfg) (look : Nat → Option Func) (fs : List Fact) (m : Nat) : Nat → Orac
 | 0, _, _, _ => none
 | d + 1, .f f, args, H =>
  match cfg.ext f with
  | some s => s args H
  | none =>
   if cfg.known f then
    match look f with
    | some fn =>
     match fn.body with
     | some c => cond (Nat.ble args.length fn.ntmps) (fNat H.length fun bs => fNat fn.ntmps fun n => gS (zz 0 args) fun ov => yC cfg (yF cfg look fs m d) fs m f none n bs c ov H (yEnd cfg f n fn.results.toList)) none
     | none => none
    | none => none
   else none
 | d + 1, .y id, args, H =>
  match H[id]? with
  | some (.loop f fr ps assign body _ .ready) =>
   cond (qgL args.length ps.length)
    (fNat H.length fun bs => fNat (vg fr ps args).length fun n => gS (spGo 0 (vg fr ps args)) fun ov => yC cfg (yF cfg look fs m d) fs m f (some id) n bs assign ov H fun e ov H =>
     match e with
     | .normal =>
      (match H[id]? with
      | some (.loop f' fr' ps' assign' body' pend' .ready) => gS (H.set id (.loop f' fr' ps' assign' body' pend' .busy)) fun H' => yC cfg (yF cfg look fs m d) fs m f (some id) n bs body ov H' (yY2 id)
      | _ => none)
     | _ => none) none
  | _ => none
theorem qea (cfg : Cfg) {look : Nat → Option Func} (hl : ∀ f fn, look f = some fn → cfg.P.funcs[f]? = some fn) {fs : List Fact} (hfs : qt cfg fs) (m : Nat) : ∀ (d : Nat) (t : Tgt) (a : List AV) (H : AH) (r), yF cfg look fs m d t a H = some r → EV cfg t a H = some r
 | 0, _, _, _, _, h => by cases h
 | d + 1, t, a, H, r, h => by
  have ih := qea cfg hl hfs m d
  refine qgt ?_
  cases t with
  | f f =>
   simp only [yF] at h
   unfold vE
   split at h
   ·rename_i s hs
    simp only [hs]
    exact h
   ·rename_i hs
    simp only [hs]
    split at h
    ·rename_i hk
     rw [if_pos hk]
     split at h
     ·rename_i fn hf
      simp only [hl f fn hf]
      split at h
      ·rename_i c hb
       simp only [hb]
       obtain ⟨hle, h⟩ := qN h
       rw [Nat.ble_eq] at hle
       simp only [ve, vr] at h
       obtain ⟨e, ov', H', h1, h2, h3⟩ := qbZ ih hfs c (qaU a 0 fn.ntmps (by omega)) h
       rw [qfG hle] at h2
       rw [h2]
       simp only [qgK]
       unfold yEnd at h3
       have fin : ∀ (e : Ex), (e = .normal ∨ e = .ret) → (x8 fn.ntmps (cfg.lift f 0) ov' H' fun ov H => (match resO fn.results.toList cfg.ty ov H with | some vs => gA (xr vs) fun v => some (v, H) | none => none)) = some r →
         yB cfg fn.results.toList (e, qS (cfg.lift f 0) (den fn.ntmps ov') H') = some r := by
        intro e he h3
        obtain ⟨ov2, H2, h4, h5, h6⟩ := v8 h1 h3
        rw [h5]
        unfold yB
        rcases he with rfl | rfl <;>
        ·simp only [qb1 h4]
         split at h6
         ·rename_i vs hv
          rw [xO] at h6
          rw [hv]
          exact h6
         ·cases h6
       cases e with
       | normal => exact fin _ (.inl rfl) h3
       | ret => exact fin _ (.inr rfl) h3
       | exit x => cases h3
       | goto l => cases h3
      ·cases h
     ·cases h
    ·cases h
  | y id =>
   simp only [yF] at h
   unfold vE
   split at h
   ·rename_i f fr ps assign body p hlp
    simp only [hlp]
    obtain ⟨hlen, h⟩ := qN h
    rw [if_pos (qgB hlen)]
    simp only [ve, vr] at h
    obtain ⟨e, ov1, H1, h1, h2, h3⟩ := qbZ ih hfs assign (y5 _ 0 _ (by omega)) h
    rw [qdh] at h2
    rw [h2]
    simp only [qgK]
    cases e with
    | normal =>
     simp only at h3 ⊢
     split at h3
     ·rename_i f' fr' ps' assign' body' pend' hl1
      simp only [hl1]
      obtain ⟨e2, ov2, H2, h4, h5, h6⟩ := qbZ ih hfs body h1 h3
      rw [h5]
      simp only [qgK]
      unfold yY2 at h6
      split at h6
      ·rename_i hl2
       simp only [hl2]
       cases e2 with
       | normal => simp only [vr] at h6; exact h6
       | ret => simp only [vr] at h6; exact h6
       | exit x => simp only [vr] at h6; exact h6
       | goto l => cases h6
      ·cases h6
     ·cases h3
    | exit x => cases h3
    | goto l => cases h3
    | ret => cases h3
   ·cases h
theorem qgf {cfg : Cfg} {look : Nat → Option Func} (hl : ∀ f fn, look f = some fn → cfg.P.funcs[f]? = some fn) {fs : List Fact} (hfs : qt cfg fs) {f : Nat} {args : List AV} {v : AV} (m d : Nat)
  (h : (match yF cfg look fs m d (.f f) args [] with | some r => some r.1 | none => none) = some v) : EVs (EV cfg) f args = some v := by
 unfold EVs
 cases hx : yF cfg look fs m d (.f f) args [] with
 | none => rw [hx] at h; cases h
 | some r => rw [hx] at h; rw [qea cfg hl hfs m d _ _ _ _ hx]; exact h
theorem qgg {cfg : Cfg} {look : Nat → Option Func} (hl : ∀ f fn, look f = some fn → cfg.P.funcs[f]? = some fn) {fs : List Fact} (hfs : qt cfg fs) {f : Nat} {args : List AV} {v : AV} (m d : Nat)
  (h : (match yF cfg look fs m d (.f f) args [] with | some r => gA (r.1.frz r.1.msIds r.2).fg some | none => none) = some v) : EVf (EV cfg) f args = some v := by
 unfold EVf
 cases hx : yF cfg look fs m d (.f f) args [] with
 | none => rw [hx] at h; cases h
 | some r => rw [hx] at h; rw [qea cfg hl hfs m d _ _ _ _ hx]; simp only [xO] at h; exact h
def qbG : List AV → AH → Option (AV × AH)
 | [.str a, .str b], H => some (.int .i64 (if a == b then 0 else if Op.bytesLess a b then -1 else 1), H)
 | _, _ => none
end Go.Av
end
section
namespace Go.Proofs.YtokeihbigipmmaaGreat
open Go.Av
def zr0 : List AV := [.int .u64 0, .int .u64 0, .int .u32 0, .int .u8 0, .int .u8 0, .int .u8 0, .int .u8 0, .nilF, .nilP, .int .i32 0, .int .i32 0]
def qcD : BT TI := .node 90 ⟨.ptr 92, 1, 8, [.nilP]⟩ (.node 46 ⟨.slice 22, 1, 24, [.nilS]⟩ (.node 24 ⟨.slice 26, 1, 24, [.nilS]⟩ (.node 13 ⟨.struct [(0, 9), (1, 12)], 2, 24, [.str [], .int .u64 0]⟩ (.node 5 ⟨.int .u8, 1, 1, [.int .u8 0]⟩ (.node 3 ⟨.int .i64, 1, 8, [.int .i64 0]⟩ (.node 2 ⟨.int .i64, 1, 8, [.int .i64 0]⟩ (.node 1 ⟨.func, 1, 8, [.nilF]⟩ .leaf .leaf) .leaf) (.node 4 ⟨.bool, 1, 1, [.bool false]⟩ .leaf .leaf)) (.node 9 ⟨.str, 1, 16, [.str []]⟩ (.node 7 ⟨.struct [(0, 2), (1, 3), (2, 4), (3, 6)], 4, 24, [.int .i64 0, .int .i64 0, .bool false, .int .u8 0]⟩ (.node 6 ⟨.int .u8, 1, 1, [.int .u8 0]⟩ .leaf .leaf) .leaf) (.node 12 ⟨.int .u64, 1, 8, [.int .u64 0]⟩ .leaf .leaf))) (.node 19 ⟨.struct [(0, 17)], 1, 8, [.nilP]⟩ (.node 17 ⟨.ptr 201, 1, 8, [.nilP]⟩ (.node 16 ⟨.ptr 192, 1, 8, [.nilP]⟩ (.node 15 ⟨.ptr 189, 1, 8, [.nilP]⟩ .leaf .leaf) .leaf) (.node 18 ⟨.struct [(0, 17)], 1, 8, [.nilP]⟩ .leaf .leaf)) (.node 22 ⟨.ptr 45, 1, 8, [.nilP]⟩ (.node 21 ⟨.int .i32, 1, 4, [.int .i32 0]⟩ (.node 20 ⟨.iface, 1, 16, [.nilI]⟩ .leaf .leaf) .leaf) (.node 23 ⟨.func, 1, 8, [.nilF]⟩ .leaf .leaf)))) (.node 37 ⟨.func, 1, 8, [.nilF]⟩ (.node 30 ⟨.int .u64, 1, 8, [.int .u64 0]⟩ (.node 27 ⟨.int .i64, 1, 8, [.int .i64 0]⟩ (.node 26 ⟨.struct [(0, 3), (1, 3), (2, 9), (3, 24)], 4, 56, [.int .i64 0, .int .i64 0, .str [], .nilS]⟩ (.node 25 ⟨.struct [(0, 3), (1, 3), (2, 9), (3, 24)], 4, 56, [.int .i64 0, .int .i64 0, .str [], .nilS]⟩ .leaf .leaf) .leaf) (.node 29 ⟨.func, 1, 8, [.nilF]⟩ .leaf .leaf)) (.node 33 ⟨.ptr 65, 1, 8, [.nilP]⟩ (.node 32 ⟨.ptr 84, 1, 8, [.nilP]⟩ (.node 31 ⟨.slice 30, 1, 24, [.nilS]⟩ .leaf .leaf) .leaf) (.node 35 ⟨.func, 1, 8, [.nilF]⟩ .leaf .leaf))) (.node 42 ⟨.func, 1, 8, [.nilF]⟩ (.node 40 ⟨.func, 1, 8, [.nilF]⟩ (.node 39 ⟨.func, 1, 8, [.nilF]⟩ (.node 38 ⟨.func, 1, 8, [.nilF]⟩ .leaf .leaf) .leaf) (.node 41 ⟨.func, 1, 8, [.nilF]⟩ .leaf .leaf)) (.node 44 ⟨.struct [(0, 32), (1, 26), (5, 43), (6, 3)], 7, 96, [.nilP, .int .i64 0, .int .i64 0, .str [], .nilS, .nilS, .int .i64 0]⟩ (.node 43 ⟨.slice 62, 1, 24, [.nilS]⟩ .leaf .leaf) (.node 45 ⟨.struct [(0, 32), (1, 26), (5, 43), (6, 3)], 7, 96, [.nilP, .int .i64 0, .int .i64 0, .str [], .nilS, .nilS, .int .i64 0]⟩ .leaf .leaf))))) (.node 69 ⟨.func, 1, 8, [.nilF]⟩ (.node 57 ⟨.struct [(0, 22), (1, 31), (2, 3), (3, 31), (4, 24), (5, 54), (6, 55), (7, 4), (8, 4), (9, 26), (13, 3)], 14, 176, [.nilP, .nilS, .int .i64 0, .nilS, .nilS, .nilM, .nilM, .bool false, .bool false, .int .i64 0, .int .i64 0, .str [], .nilS, .int .i64 0]⟩ (.node 52 ⟨.ptr 57, 1, 8, [.nilP]⟩ (.node 49 ⟨.slice 9, 1, 24, [.nilS]⟩ (.node 48 ⟨.func, 1, 8, [.nilF]⟩ (.node 47 ⟨.func, 1, 8, [.nilF]⟩ .leaf .leaf) .leaf) (.node 51 ⟨.func, 1, 8, [.nilF]⟩ .leaf .leaf)) (.node 55 ⟨.map 30 26, 1, 8, [.nilM]⟩ (.node 54 ⟨.map 3 30, 1, 8, [.nilM]⟩ (.node 53 ⟨.func, 1, 8, [.nilF]⟩ .leaf .leaf) .leaf) (.node 56 ⟨.struct [(0, 22), (1, 31), (2, 3), (3, 31), (4, 24), (5, 54), (6, 55), (7, 4), (8, 4), (9, 26), (13, 3)], 14, 176, [.nilP, .nilS, .int .i64 0, .nilS, .nilS, .nilM, .nilM, .bool false, .bool false, .int .i64 0, .int .i64 0, .str [], .nilS, .int .i64 0]⟩ .leaf .leaf))) (.node 62 ⟨.struct [(0, 3), (1, 3), (2, 3), (3, 26)], 7, 80, [.int .i64 0, .int .i64 0, .int .i64 0, .int .i64 0, .int .i64 0, .str [], .nilS]⟩ (.node 60 ⟨.func, 1, 8, [.nilF]⟩ (.node 59 ⟨.array 21 58, 21, 168, [.nilF, .nilF, .nilF, .nilF, .nilF, .nilF, .nilF, .nilF, .nilF, .nilF, .nilF, .nilF, .nilF, .nilF, .nilF, .nilF, .nilF, .nilF, .nilF, .nilF, .nilF]⟩ (.node 58 ⟨.func, 1, 8, [.nilF]⟩ .leaf .leaf) .leaf) (.node 61 ⟨.struct [(0, 3), (1, 3), (2, 3), (3, 26)], 7, 80, [.int .i64 0, .int .i64 0, .int .i64 0, .int .i64 0, .int .i64 0, .str [], .nilS]⟩ .leaf .leaf)) (.node 65 ⟨.struct [(0, 49)], 1, 24, [.nilS]⟩ (.node 64 ⟨.struct [(0, 49)], 1, 24, [.nilS]⟩ (.node 63 ⟨.func, 1, 8, [.nilF]⟩ .leaf .leaf) .leaf) (.node 67 ⟨.func, 1, 8, [.nilF]⟩ .leaf .leaf)))) (.node 79 ⟨.func, 1, 8, [.nilF]⟩ (.node 74 ⟨.func, 1, 8, [.nilF]⟩ (.node 72 ⟨.func, 1, 8, [.nilF]⟩ (.node 71 ⟨.func, 1, 8, [.nilF]⟩ (.node 70 ⟨.func, 1, 8, [.nilF]⟩ .leaf .leaf) .leaf) (.node 73 ⟨.func, 1, 8, [.nilF]⟩ .leaf .leaf)) (.node 77 ⟨.struct [(0, 32), (1, 31), (2, 3), (3, 4)], 4, 48, [.nilP, .nilS, .int .i64 0, .bool false]⟩ (.node 76 ⟨.ptr 78, 1, 8, [.nilP]⟩ (.node 75 ⟨.func, 1, 8, [.nilF]⟩ .leaf .leaf) .leaf) (.node 78 ⟨.struct [(0, 32), (1, 31), (2, 3), (3, 4)], 4, 48, [.nilP, .nilS, .int .i64 0, .bool false]⟩ .leaf .leaf))) (.node 84 ⟨.struct [(0, 82), (1, 49), (2, 3)], 3, 40, [.nilM, .nilS, .int .i64 0]⟩ (.node 82 ⟨.map 9 3, 1, 8, [.nilM]⟩ (.node 81 ⟨.func, 1, 8, [.nilF]⟩ (.node 80 ⟨.func, 1, 8, [.nilF]⟩ .leaf .leaf) .leaf) (.node 83 ⟨.struct [(0, 82), (1, 49), (2, 3)], 3, 40, [.nilM, .nilS, .int .i64 0]⟩ .leaf .leaf)) (.node 87 ⟨.slice 94, 1, 24, [.nilS]⟩ (.node 86 ⟨.func, 1, 8, [.nilF]⟩ .leaf .leaf) (.node 89 ⟨.func, 1, 8, [.nilF]⟩ .leaf .leaf)))))) (.node 134 ⟨.ptr 139, 1, 8, [.nilP]⟩ (.node 113 ⟨.func, 1, 8, [.nilF]⟩ (.node 102 ⟨.func, 1, 8, [.nilF]⟩ (.node 95 ⟨.func, 1, 8, [.nilF]⟩ (.node 93 ⟨.struct [(0, 26), (4, 24), (5, 24)], 6, 104, [.int .i64 0, .int .i64 0, .str [], .nilS, .nilS, .nilS]⟩ (.node 92 ⟨.struct [(0, 43)], 1, 24, [.nilS]⟩ (.node 91 ⟨.struct [(0, 43)], 1, 24, [.nilS]⟩ .leaf .leaf) .leaf) (.node 94 ⟨.struct [(0, 26), (4, 24), (5, 24)], 6, 104, [.int .i64 0, .int .i64 0, .str [], .nilS, .nilS, .nilS]⟩ .leaf .leaf)) (.node 100 ⟨.func, 1, 8, [.nilF]⟩ (.node 99 ⟨.func, 1, 8, [.nilF]⟩ (.node 97 ⟨.func, 1, 8, [.nilF]⟩ .leaf .leaf) .leaf) (.node 101 ⟨.func, 1, 8, [.nilF]⟩ .leaf .leaf))) (.node 107 ⟨.func, 1, 8, [.nilF]⟩ (.node 105 ⟨.func, 1, 8, [.nilF]⟩ (.node 104 ⟨.func, 1, 8, [.nilF]⟩ (.node 103 ⟨.func, 1, 8, [.nilF]⟩ .leaf .leaf) .leaf) (.node 106 ⟨.func, 1, 8, [.nilF]⟩ .leaf .leaf)) (.node 111 ⟨.func, 1, 8, [.nilF]⟩ (.node 110 ⟨.func, 1, 8, [.nilF]⟩ (.node 109 ⟨.func, 1, 8, [.nilF]⟩ .leaf .leaf) .leaf) (.node 112 ⟨.func, 1, 8, [.nilF]⟩ .leaf .leaf)))) (.node 125 ⟨.slice 124, 1, 24, [.nilS]⟩ (.node 118 ⟨.int .u64, 1, 8, [.int .u64 0]⟩ (.node 116 ⟨.func, 1, 8, [.nilF]⟩ (.node 115 ⟨.func, 1, 8, [.nilF]⟩ (.node 114 ⟨.func, 1, 8, [.nilF]⟩ .leaf .leaf) .leaf) (.node 117 ⟨.func, 1, 8, [.nilF]⟩ .leaf .leaf)) (.node 123 ⟨.struct [(0, 26), (4, 26)], 8, 112, [.int .i64 0, .int .i64 0, .str [], .nilS, .int .i64 0, .int .i64 0, .str [], .nilS]⟩ (.node 121 ⟨.func, 1, 8, [.nilF]⟩ (.node 120 ⟨.func, 1, 8, [.nilF]⟩ .leaf .leaf) .leaf) (.node 124 ⟨.struct [(0, 26), (4, 26)], 8, 112, [.int .i64 0, .int .i64 0, .str [], .nilS, .int .i64 0, .int .i64 0, .str [], .nilS]⟩ .leaf .leaf))) (.node 130 ⟨.func, 1, 8, [.nilF]⟩ (.node 128 ⟨.func, 1, 8, [.nilF]⟩ (.node 127 ⟨.func, 1, 8, [.nilF]⟩ (.node 126 ⟨.func, 1, 8, [.nilF]⟩ .leaf .leaf) .leaf) (.node 129 ⟨.func, 1, 8, [.nilF]⟩ .leaf .leaf)) (.node 132 ⟨.func, 1, 8, [.nilF]⟩ (.node 131 ⟨.slice 3, 1, 24, [.nilS]⟩ .leaf .leaf) (.node 133 ⟨.func, 1, 8, [.nilF]⟩ .leaf .leaf))))) (.node 170 ⟨.struct [(0, 30), (1, 30)], 2, 16, [.int .u64 0, .int .u64 0]⟩ (.node 147 ⟨.map 3 4, 1, 8, [.nilM]⟩ (.node 139 ⟨.struct [(0, 137), (6, 4)], 7, 96, [.int .i64 0, .int .i64 0, .str [], .nilS, .nilS, .int .i64 0, .bool false]⟩ (.node 137 ⟨.struct [(0, 26), (4, 135), (5, 3)], 6, 88, [.int .i64 0, .int .i64 0, .str [], .nilS, .nilS, .int .i64 0]⟩ (.node 136 ⟨.struct [(0, 26), (4, 135), (5, 3)], 6, 88, [.int .i64 0, .int .i64 0, .str [], .nilS, .nilS, .int .i64 0]⟩ (.node 135 ⟨.slice 203, 1, 24, [.nilS]⟩ .leaf .leaf) .leaf) (.node 138 ⟨.struct [(0, 137), (6, 4)], 7, 96, [.int .i64 0, .int .i64 0, .str [], .nilS, .nilS, .int .i64 0, .bool false]⟩ .leaf .leaf)) (.node 143 ⟨.func, 1, 8, [.nilF]⟩ (.node 142 ⟨.func, 1, 8, [.nilF]⟩ (.node 141 ⟨.func, 1, 8, [.nilF]⟩ .leaf .leaf) .leaf) (.node 144 ⟨.ptr 4, 1, 8, [.nilP]⟩ .leaf .leaf))) (.node 162 ⟨.array 2 24, 2, 48, [.nilS, .nilS]⟩ (.node 153 ⟨.func, 1, 8, [.nilF]⟩ (.node 151 ⟨.func, 1, 8, [.nilF]⟩ (.node 149 ⟨.func, 1, 8, [.nilF]⟩ .leaf .leaf) .leaf) (.node 155 ⟨.func, 1, 8, [.nilF]⟩ .leaf .leaf)) (.node 167 ⟨.func, 1, 8, [.nilF]⟩ (.node 165 ⟨.array 12 3, 12, 96, [.int .i64 0, .int .i64 0, .int .i64 0, .int .i64 0, .int .i64 0, .int .i64 0, .int .i64 0, .int .i64 0, .int .i64 0, .int .i64 0, .int .i64 0, .int .i64 0]⟩ (.node 164 ⟨.func, 1, 8, [.nilF]⟩ .leaf .leaf) .leaf) (.node 169 ⟨.struct [(0, 30), (1, 30)], 2, 16, [.int .u64 0, .int .u64 0]⟩ .leaf .leaf)))) (.node 195 ⟨.int .u8, 1, 1, [.int .u8 0]⟩ (.node 188 ⟨.struct [(0, 17), (1, 17), (2, 17), (3, 9)], 4, 40, [.nilP, .nilP, .nilP, .str []]⟩ (.node 174 ⟨.ptr 26, 1, 8, [.nilP]⟩ (.node 173 ⟨.func, 1, 8, [.nilF]⟩ (.node 172 ⟨.slice 5, 1, 24, [.nilS]⟩ .leaf .leaf) .leaf) (.node 180 ⟨.ptr 170, 1, 8, [.nilP]⟩ .leaf .leaf)) (.node 193 ⟨.int .u32, 1, 4, [.int .u32 0]⟩ (.node 191 ⟨.struct [(0, 190)], 0, 0, []⟩ (.node 190 ⟨.array 0 16, 0, 0, []⟩ .leaf .leaf) .leaf) (.node 194 ⟨.int .u8, 1, 1, [.int .u8 0]⟩ .leaf .leaf))) (.node 200 ⟨.struct [(0, 12), (1, 12), (2, 193), (3, 194), (4, 5), (5, 5), (6, 195), (7, 196), (8, 197), (9, 198), (10, 199)], 11, 48, zr0⟩ (.node 198 ⟨.int .i32, 1, 4, [.int .i32 0]⟩ (.node 197 ⟨.ptr 5, 1, 8, [.nilP]⟩ (.node 196 ⟨.func, 1, 8, [.nilF]⟩ .leaf .leaf) .leaf) (.node 199 ⟨.int .i32, 1, 4, [.int .i32 0]⟩ .leaf .leaf)) (.node 202 ⟨.struct [(0, 3), (1, 26)], 5, 64, [.int .i64 0, .int .i64 0, .int .i64 0, .str [], .nilS]⟩ (.node 201 ⟨.struct [(0, 12), (1, 12), (2, 193), (3, 194), (4, 5), (5, 5), (6, 195), (7, 196), (8, 197), (9, 198), (10, 199)], 11, 48, zr0⟩ .leaf .leaf) (.node 203 ⟨.struct [(0, 3), (1, 26)], 5, 64, [.int .i64 0, .int .i64 0, .int .i64 0, .str [], .nilS]⟩ .leaf .leaf))))))
def qfW : BT CMode := .node 81 (.scal) (.node 41 (.sub) (.node 28 (.pfrz) (.node 18 (.pown) (.node 10 (.scal) (.node 9 (.pfrz) (.node 3 (.scal) .leaf .leaf) .leaf) (.node 14 (.pfrz) (.node 12 (.scal) .leaf .leaf) .leaf)) (.node 26 (.scal) (.node 25 (.pfrz) (.node 24 (.pfrz) .leaf .leaf) .leaf) (.node 27 (.pfrz) .leaf .leaf))) (.node 36 (.sub) (.node 33 (.sub) (.node 32 (.sub) (.node 29 (.pown) .leaf .leaf) .leaf) (.node 35 (.sub) (.node 34 (.sub) .leaf .leaf) .leaf)) (.node 39 (.sub) (.node 38 (.sub) (.node 37 (.sub) .leaf .leaf) .leaf) (.node 40 (.sub) .leaf .leaf)))) (.node 61 (.scal) (.node 52 (.slf) (.node 44 (.sub) (.node 43 (.sub) (.node 42 (.sub) .leaf .leaf) .leaf) (.node 49 (.pfrz) (.node 45 (.sub) .leaf .leaf) .leaf)) (.node 58 (.sub) (.node 57 (.sub) (.node 56 (.sub) .leaf .leaf) .leaf) (.node 60 (.sub) .leaf .leaf))) (.node 66 (.pfrz) (.node 64 (.pown) (.node 63 (.pfrz) (.node 62 (.sub) .leaf .leaf) .leaf) (.node 65 (.pfrz) .leaf .leaf)) (.node 71 (.pfrz) (.node 68 (.sub) (.node 67 (.sub) .leaf .leaf) .leaf) (.node 80 (.pfrz) .leaf .leaf))))) (.node 113 (.inpl) (.node 100 (.inpf) (.node 90 (.scal) (.node 85 (.scal) (.node 84 (.pfrz) (.node 83 (.scal) .leaf .leaf) .leaf) (.node 88 (.pfrz) (.node 86 (.inpf) .leaf .leaf) .leaf)) (.node 97 (.scal) (.node 96 (.scal) (.node 91 (.scal) .leaf .leaf) .leaf) (.node 99 (.scal) .leaf .leaf))) (.node 107 (.scal) (.node 104 (.pfrz) (.node 103 (.scal) (.node 101 (.inpf) .leaf .leaf) .leaf) (.node 106 (.scal) (.node 105 (.pfrz) .leaf .leaf) .leaf)) (.node 111 (.inpl) (.node 110 (.pfrz) (.node 108 (.scal) .leaf .leaf) .leaf) (.node 112 (.inpf) .leaf .leaf)))) (.node 128 (.inpf) (.node 122 (.pfrz) (.node 116 (.scal) (.node 115 (.inpf) (.node 114 (.inpf) .leaf .leaf) .leaf) (.node 121 (.scal) (.node 117 (.inpf) .leaf .leaf) .leaf)) (.node 126 (.scal) (.node 125 (.scal) (.node 124 (.scal) .leaf .leaf) .leaf) (.node 127 (.scal) .leaf .leaf))) (.node 135 (.scal) (.node 133 (.scal) (.node 132 (.scal) (.node 130 (.scal) .leaf .leaf) .leaf) (.node 134 (.scal) .leaf .leaf)) (.node 138 (.scal) (.node 137 (.scal) (.node 136 (.scal) .leaf .leaf) .leaf) (.node 139 (.scal) .leaf .leaf)))))
def qge : BT (BT (List Nat)) := .node 38 (.node 9 ([3]) .leaf .leaf) (.node 14 (.node 2 ([3, 7, 9, 11]) .leaf .leaf) (.node 6 (.node 8 ([2]) .leaf .leaf) .leaf .leaf) .leaf) (.node 51 (.node 1 ([1]) .leaf .leaf) .leaf .leaf)
noncomputable def qcF {α : Type} (a b : Nat) (t : BT (BT α)) : Option α := match t.look a with | some u => u.look b | none => none
noncomputable def qf0 (f r k : Nat) : Bool := match qcF f r qge with | some l => qL k l | none => false
def qfX : BT (BT (List Tmp × List Tmp)) := .node 75 (.node 1 ([0, 1, 6, 7], []) .leaf .leaf) (.node 49 (.node 5 ([4, 16, 17, 18], [4]) .leaf .leaf) (.node 32 (.node 34 ([0, 4, 8, 98, 99, 100], [4, 8]) .leaf .leaf) (.node 9 (.node 3 ([0, 2, 3, 4], [2, 3]) .leaf .leaf) (.node 7 (.node 5 ([0, 4, 5, 6], [2, 3, 4, 5]) .leaf .leaf) (.node 6 (.node 11 ([0, 6, 11, 12], [0, 6, 11]) .leaf .leaf) .leaf .leaf) .leaf) (.node 26 (.node 4 ([0, 1, 5], [4]) .leaf .leaf) (.node 23 (.node 6 ([6, 19, 20, 21], [6]) .leaf .leaf) .leaf .leaf) .leaf)) (.node 47 (.node 2 ([0, 1, 5], [4]) .leaf .leaf) (.node 38 (.node 3 ([0, 3, 4, 8], [0, 3, 4]) .leaf .leaf) (.node 33 (.node 9 ([2], []) .leaf .leaf) .leaf .leaf) .leaf) (.node 48 (.node 3 ([0, 3, 4], [3]) .leaf .leaf) .leaf .leaf))) (.node 61 (.node 9 ([5, 6, 70, 71], [5]) (.node 2 ([5], [4]) .leaf .leaf) .leaf) (.node 52 (.node 6 ([1, 2, 3, 4, 18, 19, 20], [2, 3, 4]) .leaf .leaf) (.node 51 (.node 3 ([3, 8, 9], [3]) .leaf .leaf) (.node 50 (.node 11 ([0, 4, 7, 37, 38, 39], [0, 4, 7]) (.node 4 ([0, 3, 4, 20, 21, 22], [0, 3, 4]) .leaf .leaf) .leaf) .leaf .leaf) .leaf) (.node 60 (.node 17 ([0, 1, 4, 10, 72, 73, 74], [0, 1, 4, 10]) .leaf .leaf) .leaf .leaf)) (.node 70 (.node 7 ([2, 3, 4], [2, 3, 4, 5]) .leaf .leaf) (.node 66 (.node 4 ([0, 1, 2, 6, 24, 25, 26], [0, 1, 2, 6, 7]) .leaf .leaf) (.node 63 (.node 3 ([3], [3, 4]) .leaf .leaf) .leaf .leaf) .leaf) (.node 71 (.node 3 ([3, 6, 7, 8], [3]) .leaf .leaf) .leaf .leaf)))) (.node 105 (.node 5 ([4], [4, 5]) .leaf .leaf) (.node 92 (.node 1 ([0, 6, 7, 8], []) .leaf .leaf) (.node 88 (.node 14 ([2, 4, 5, 73, 74, 77, 78, 79], [2, 3, 4, 5, 73, 74]) (.node 11 ([2, 4, 5, 73, 74], [2, 3, 4]) .leaf .leaf) .leaf) (.node 81 (.node 4 ([2, 3], [2, 3]) .leaf .leaf) (.node 79 (.node 1 ([0, 1, 3], []) .leaf .leaf) .leaf .leaf) .leaf) (.node 89 (.node 16 ([3, 69, 70, 71], []) .leaf .leaf) .leaf .leaf)) (.node 102 (.node 0 ([0, 1, 2], [1, 2]) .leaf .leaf) (.node 99 (.node 2 ([0, 1, 7, 8], [4]) .leaf .leaf) (.node 98 (.node 1 ([0, 1, 3], []) .leaf .leaf) .leaf .leaf) .leaf) (.node 104 (.node 11 ([3, 7, 29], [7]) (.node 6 ([3], [3]) .leaf .leaf) .leaf) .leaf .leaf))) (.node 126 (.node 3 ([3, 6, 7, 8], [2, 3]) .leaf .leaf) (.node 115 (.node 4 ([7], [0, 5, 6, 7]) .leaf .leaf) (.node 109 (.node 7 ([3], [0, 3]) (.node 1 ([0, 3], []) .leaf .leaf) .leaf) (.node 108 (.node 5 ([4, 32, 33, 34], [2, 3, 4]) .leaf .leaf) .leaf .leaf) .leaf) (.node 116 (.node 1 ([2, 3], [4]) .leaf .leaf) .leaf .leaf)) (.node 134 (.node 2 ([0, 1, 2, 11, 12, 13], [0, 1, 6]) .leaf .leaf) (.node 131 (.node 0 ([0, 1], []) .leaf .leaf) (.node 129 (.node 1 ([0, 3], []) .leaf .leaf) .leaf .leaf) .leaf) (.node 139 (.node 2 ([0, 1, 7, 8], [4]) .leaf .leaf) .leaf .leaf))))
def qgj : BT (BT (List Tmp)) := .leaf
def qfY : BT (BT (List (Tmp × Nat))) := .node 70 (.node 7 ([(2, 6), (4, 6)]) .leaf .leaf) (.node 38 (.node 3 ([(4, 4)]) .leaf .leaf) (.node 29 (.node 0 ([(2, 7)]) .leaf .leaf) (.node 18 (.node 0 ([(2, 1)]) .leaf .leaf) .leaf .leaf) .leaf) (.node 64 (.node 0 ([(2, 4)]) .leaf .leaf) (.node 61 (.node 9 ([(5, 8)]) (.node 2 ([(5, 8)]) .leaf .leaf) .leaf) .leaf .leaf) .leaf)) (.node 105 (.node 5 ([(4, 4)]) .leaf .leaf) (.node 104 (.node 11 ([(7, 1)]) .leaf .leaf) (.node 71 (.node 3 ([(3, 4)]) .leaf .leaf) .leaf .leaf) .leaf) (.node 129 (.node 1 ([(3, 4)]) .leaf .leaf) (.node 109 (.node 7 ([(3, 4)]) (.node 1 ([(3, 4)]) .leaf .leaf) .leaf) .leaf .leaf) .leaf))
def vP (f : Nat) : List (Nat × (List AV → AH → Option (AV × AH))) → Option (List AV → AH → Option (AV × AH))
 | [] => none
 | p :: l => if qgL p.1 f then some p.2 else vP f l
noncomputable def qd6 : List (Nat × (List AV → AH → Option (AV × AH))) := []
noncomputable def z3 : List (Nat × (List AV → AH → Option (AV × AH))) := (138, qbG) :: qd6
theorem qbF : qd6 = [] := rfl
def qfx : BT Unit := .node 72 (()) (.node 38 (()) (.node 21 (()) (.node 12 (()) (.node 8 (()) (.node 6 (()) (.node 5 (()) (.node 3 (()) .leaf .leaf) .leaf) (.node 7 (()) .leaf .leaf)) (.node 10 (()) (.node 9 (()) .leaf .leaf) (.node 11 (()) .leaf .leaf))) (.node 17 (()) (.node 14 (()) (.node 13 (()) .leaf .leaf) (.node 16 (()) .leaf .leaf)) (.node 19 (()) (.node 18 (()) .leaf .leaf) (.node 20 (()) .leaf .leaf)))) (.node 30 (()) (.node 26 (()) (.node 24 (()) (.node 23 (()) (.node 22 (()) .leaf .leaf) .leaf) (.node 25 (()) .leaf .leaf)) (.node 28 (()) (.node 27 (()) .leaf .leaf) (.node 29 (()) .leaf .leaf))) (.node 34 (()) (.node 32 (()) (.node 31 (()) .leaf .leaf) (.node 33 (()) .leaf .leaf)) (.node 36 (()) (.node 35 (()) .leaf .leaf) (.node 37 (()) .leaf .leaf))))) (.node 55 (()) (.node 47 (()) (.node 43 (()) (.node 41 (()) (.node 40 (()) (.node 39 (()) .leaf .leaf) .leaf) (.node 42 (()) .leaf .leaf)) (.node 45 (()) (.node 44 (()) .leaf .leaf) (.node 46 (()) .leaf .leaf))) (.node 51 (()) (.node 49 (()) (.node 48 (()) .leaf .leaf) (.node 50 (()) .leaf .leaf)) (.node 53 (()) (.node 52 (()) .leaf .leaf) (.node 54 (()) .leaf .leaf)))) (.node 64 (()) (.node 60 (()) (.node 58 (()) (.node 57 (()) (.node 56 (()) .leaf .leaf) .leaf) (.node 59 (()) .leaf .leaf)) (.node 62 (()) (.node 61 (()) .leaf .leaf) (.node 63 (()) .leaf .leaf))) (.node 68 (()) (.node 66 (()) (.node 65 (()) .leaf .leaf) (.node 67 (()) .leaf .leaf)) (.node 70 (()) (.node 69 (()) .leaf .leaf) (.node 71 (()) .leaf .leaf)))))) (.node 106 (()) (.node 89 (()) (.node 81 (()) (.node 77 (()) (.node 75 (()) (.node 74 (()) (.node 73 (()) .leaf .leaf) .leaf) (.node 76 (()) .leaf .leaf)) (.node 79 (()) (.node 78 (()) .leaf .leaf) (.node 80 (()) .leaf .leaf))) (.node 85 (()) (.node 83 (()) (.node 82 (()) .leaf .leaf) (.node 84 (()) .leaf .leaf)) (.node 87 (()) (.node 86 (()) .leaf .leaf) (.node 88 (()) .leaf .leaf)))) (.node 98 (()) (.node 94 (()) (.node 92 (()) (.node 91 (()) (.node 90 (()) .leaf .leaf) .leaf) (.node 93 (()) .leaf .leaf)) (.node 96 (()) (.node 95 (()) .leaf .leaf) (.node 97 (()) .leaf .leaf))) (.node 102 (()) (.node 100 (()) (.node 99 (()) .leaf .leaf) (.node 101 (()) .leaf .leaf)) (.node 104 (()) (.node 103 (()) .leaf .leaf) (.node 105 (()) .leaf .leaf))))) (.node 123 (()) (.node 115 (()) (.node 111 (()) (.node 109 (()) (.node 108 (()) (.node 107 (()) .leaf .leaf) .leaf) (.node 110 (()) .leaf .leaf)) (.node 113 (()) (.node 112 (()) .leaf .leaf) (.node 114 (()) .leaf .leaf))) (.node 119 (()) (.node 117 (()) (.node 116 (()) .leaf .leaf) (.node 118 (()) .leaf .leaf)) (.node 121 (()) (.node 120 (()) .leaf .leaf) (.node 122 (()) .leaf .leaf)))) (.node 131 (()) (.node 127 (()) (.node 125 (()) (.node 124 (()) .leaf .leaf) (.node 126 (()) .leaf .leaf)) (.node 129 (()) (.node 128 (()) .leaf .leaf) (.node 130 (()) .leaf .leaf))) (.node 135 (()) (.node 133 (()) (.node 132 (()) .leaf .leaf) (.node 134 (()) .leaf .leaf)) (.node 137 (()) (.node 136 (()) .leaf .leaf) (.node 139 (()) .leaf .leaf))))))
def qgi : BT Unit := .leaf
def qgl : BT Unit := .leaf
def qf9 : BT Unit := .leaf
def qgh : BT Unit := .leaf
def qga : BT (List Nat) := .node 96 ([9, 27]) (.node 66 ([3, 27]) (.node 36 ([22, 27]) (.node 34 ([32, 33]) (.node 28 ([26, 4, 27]) .leaf .leaf) .leaf) (.node 50 ([26, 27]) .leaf .leaf)) (.node 85 ([3, 4]) (.node 68 ([43, 27]) .leaf .leaf) (.node 88 ([87, 27]) .leaf .leaf))) (.node 122 ([26, 4]) (.node 108 ([30, 4]) (.node 98 ([3, 3, 27]) .leaf .leaf) (.node 119 ([30, 27]) .leaf .leaf)) (.node 160 ([24, 4]) (.node 145 ([94, 4]) .leaf .leaf) (.node 183 ([30, 30]) .leaf .leaf)))
noncomputable def qe7 : List (Nat × Func) := [(6, Tryz.f6), (8, Tryz.f8), (11, Tryz.f11), (13, Tryz.f13), (16, Tryz.f16), (17, Tryz.f17), (21, Tryz.f21), (30, Tryz.f30), (46, Tryz.f46), (53, Tryz.f53), (59, Tryz.f59), (79, Tryz.f79), (82, Tryz.f82), (95, Tryz.f95), (98, Tryz.f98), (109, Tryz.f109)]
noncomputable def qew : BT Func := .node 72 (Tryz.f72) (.node 38 (Tryz.f38) (.node 21 (Tryz.f21) (.node 12 (Tryz.f12) (.node 8 (Tryz.f8) (.node 6 (Tryz.f6) (.node 5 (Tryz.f5) (.node 3 (Tryz.f3) .leaf .leaf) .leaf) (.node 7 (Tryz.f7) .leaf .leaf)) (.node 10 (Tryz.f10) (.node 9 (Tryz.f9) .leaf .leaf) (.node 11 (Tryz.f11) .leaf .leaf))) (.node 17 (Tryz.f17) (.node 14 (Tryz.f14) (.node 13 (Tryz.f13) .leaf .leaf) (.node 16 (Tryz.f16) .leaf .leaf)) (.node 19 (Tryz.f19) (.node 18 (Tryz.f18) .leaf .leaf) (.node 20 (Tryz.f20) .leaf .leaf)))) (.node 30 (Tryz.f30) (.node 26 (Tryz.f26) (.node 24 (Tryz.f24) (.node 23 (Tryz.f23) (.node 22 (Tryz.f22) .leaf .leaf) .leaf) (.node 25 (Tryz.f25) .leaf .leaf)) (.node 28 (Tryz.f28) (.node 27 (Tryz.f27) .leaf .leaf) (.node 29 (Tryz.f29) .leaf .leaf))) (.node 34 (Tryz.f34) (.node 32 (Tryz.f32) (.node 31 (Tryz.f31) .leaf .leaf) (.node 33 (Tryz.f33) .leaf .leaf)) (.node 36 (Tryz.f36) (.node 35 (Tryz.f35) .leaf .leaf) (.node 37 (Tryz.f37) .leaf .leaf))))) (.node 55 (Tryz.f55) (.node 47 (Tryz.f47) (.node 43 (Tryz.f43) (.node 41 (Tryz.f41) (.node 40 (Tryz.f40) (.node 39 (Tryz.f39) .leaf .leaf) .leaf) (.node 42 (Tryz.f42) .leaf .leaf)) (.node 45 (Tryz.f45) (.node 44 (Tryz.f44) .leaf .leaf) (.node 46 (Tryz.f46) .leaf .leaf))) (.node 51 (Tryz.f51) (.node 49 (Tryz.f49) (.node 48 (Tryz.f48) .leaf .leaf) (.node 50 (Tryz.f50) .leaf .leaf)) (.node 53 (Tryz.f53) (.node 52 (Tryz.f52) .leaf .leaf) (.node 54 (Tryz.f54) .leaf .leaf)))) (.node 64 (Tryz.f64) (.node 60 (Tryz.f60) (.node 58 (Tryz.f58) (.node 57 (Tryz.f57) (.node 56 (Tryz.f56) .leaf .leaf) .leaf) (.node 59 (Tryz.f59) .leaf .leaf)) (.node 62 (Tryz.f62) (.node 61 (Tryz.f61) .leaf .leaf) (.node 63 (Tryz.f63) .leaf .leaf))) (.node 68 (Tryz.f68) (.node 66 (Tryz.f66) (.node 65 (Tryz.f65) .leaf .leaf) (.node 67 (Tryz.f67) .leaf .leaf)) (.node 70 (Tryz.f70) (.node 69 (Tryz.f69) .leaf .leaf) (.node 71 (Tryz.f71) .leaf .leaf)))))) (.node 106 (Tryz.f106) (.node 89 (Tryz.f89) (.node 81 (Tryz.f81) (.node 77 (Tryz.f77) (.node 75 (Tryz.f75) (.node 74 (Tryz.f74) (.node 73 (Tryz.f73) .leaf .leaf) .leaf) (.node 76 (Tryz.f76) .leaf .leaf)) (.node 79 (Tryz.f79) (.node 78 (Tryz.f78) .leaf .leaf) (.node 80 (Tryz.f80) .leaf .leaf))) (.node 85 (Tryz.f85) (.node 83 (Tryz.f83) (.node 82 (Tryz.f82) .leaf .leaf) (.node 84 (Tryz.f84) .leaf .leaf)) (.node 87 (Tryz.f87) (.node 86 (Tryz.f86) .leaf .leaf) (.node 88 (Tryz.f88) .leaf .leaf)))) (.node 98 (Tryz.f98) (.node 94 (Tryz.f94) (.node 92 (Tryz.f92) (.node 91 (Tryz.f91) (.node 90 (Tryz.f90) .leaf .leaf) .leaf) (.node 93 (Tryz.f93) .leaf .leaf)) (.node 96 (Tryz.f96) (.node 95 (Tryz.f95) .leaf .leaf) (.node 97 (Tryz.f97) .leaf .leaf))) (.node 102 (Tryz.f102) (.node 100 (Tryz.f100) (.node 99 (Tryz.f99) .leaf .leaf) (.node 101 (Tryz.f101) .leaf .leaf)) (.node 104 (Tryz.f104) (.node 103 (Tryz.f103) .leaf .leaf) (.node 105 (Tryz.f105) .leaf .leaf))))) (.node 123 (Tryz.f123) (.node 115 (Tryz.f115) (.node 111 (Tryz.f111) (.node 109 (Tryz.f109) (.node 108 (Tryz.f108) (.node 107 (Tryz.f107) .leaf .leaf) .leaf) (.node 110 (Tryz.f110) .leaf .leaf)) (.node 113 (Tryz.f113) (.node 112 (Tryz.f112) .leaf .leaf) (.node 114 (Tryz.f114) .leaf .leaf))) (.node 119 (Tryz.f119) (.node 117 (Tryz.f117) (.node 116 (Tryz.f116) .leaf .leaf) (.node 118 (Tryz.f118) .leaf .leaf)) (.node 121 (Tryz.f121) (.node 120 (Tryz.f120) .leaf .leaf) (.node 122 (Tryz.f122) .leaf .leaf)))) (.node 131 (Tryz.f131) (.node 127 (Tryz.f127) (.node 125 (Tryz.f125) (.node 124 (Tryz.f124) .leaf .leaf) (.node 126 (Tryz.f126) .leaf .leaf)) (.node 129 (Tryz.f129) (.node 128 (Tryz.f128) .leaf .leaf) (.node 130 (Tryz.f130) .leaf .leaf))) (.node 135 (Tryz.f135) (.node 133 (Tryz.f133) (.node 132 (Tryz.f132) .leaf .leaf) (.node 134 (Tryz.f134) .leaf .leaf)) (.node 137 (Tryz.f137) (.node 136 (Tryz.f136) .leaf .leaf) (.node 139 (Tryz.f139) .leaf .leaf))))))
theorem qfO : qew.All fun f fn => Tryz.prog.funcs[f]? = some fn := (BT.all_node Tryz.func72 (BT.all_node Tryz.func38 (BT.all_node Tryz.func21 (BT.all_node Tryz.func12 (BT.all_node Tryz.func8 (BT.all_node Tryz.func6 (BT.all_node Tryz.func5 (BT.all_node Tryz.func3 trivial trivial) trivial) (BT.all_node Tryz.func7 trivial trivial)) (BT.all_node Tryz.func10 (BT.all_node Tryz.func9 trivial trivial) (BT.all_node Tryz.func11 trivial trivial))) (BT.all_node Tryz.func17 (BT.all_node Tryz.func14 (BT.all_node Tryz.func13 trivial trivial) (BT.all_node Tryz.func16 trivial trivial)) (BT.all_node Tryz.func19 (BT.all_node Tryz.func18 trivial trivial) (BT.all_node Tryz.func20 trivial trivial)))) (BT.all_node Tryz.func30 (BT.all_node Tryz.func26 (BT.all_node Tryz.func24 (BT.all_node Tryz.func23 (BT.all_node Tryz.func22 trivial trivial) trivial) (BT.all_node Tryz.func25 trivial trivial)) (BT.all_node Tryz.func28 (BT.all_node Tryz.func27 trivial trivial) (BT.all_node Tryz.func29 trivial trivial))) (BT.all_node Tryz.func34 (BT.all_node Tryz.func32 (BT.all_node Tryz.func31 trivial trivial) (BT.all_node Tryz.func33 trivial trivial)) (BT.all_node Tryz.func36 (BT.all_node Tryz.func35 trivial trivial) (BT.all_node Tryz.func37 trivial trivial))))) (BT.all_node Tryz.func55 (BT.all_node Tryz.func47 (BT.all_node Tryz.func43 (BT.all_node Tryz.func41 (BT.all_node Tryz.func40 (BT.all_node Tryz.func39 trivial trivial) trivial) (BT.all_node Tryz.func42 trivial trivial)) (BT.all_node Tryz.func45 (BT.all_node Tryz.func44 trivial trivial) (BT.all_node Tryz.func46 trivial trivial))) (BT.all_node Tryz.func51 (BT.all_node Tryz.func49 (BT.all_node Tryz.func48 trivial trivial) (BT.all_node Tryz.func50 trivial trivial)) (BT.all_node Tryz.func53 (BT.all_node Tryz.func52 trivial trivial) (BT.all_node Tryz.func54 trivial trivial)))) (BT.all_node Tryz.func64 (BT.all_node Tryz.func60 (BT.all_node Tryz.func58 (BT.all_node Tryz.func57 (BT.all_node Tryz.func56 trivial trivial) trivial) (BT.all_node Tryz.func59 trivial trivial)) (BT.all_node Tryz.func62 (BT.all_node Tryz.func61 trivial trivial) (BT.all_node Tryz.func63 trivial trivial))) (BT.all_node Tryz.func68 (BT.all_node Tryz.func66 (BT.all_node Tryz.func65 trivial trivial) (BT.all_node Tryz.func67 trivial trivial)) (BT.all_node Tryz.func70 (BT.all_node Tryz.func69 trivial trivial) (BT.all_node Tryz.func71 trivial trivial)))))) (BT.all_node Tryz.func106 (BT.all_node Tryz.func89 (BT.all_node Tryz.func81 (BT.all_node Tryz.func77 (BT.all_node Tryz.func75 (BT.all_node Tryz.func74 (BT.all_node Tryz.func73 trivial trivial) trivial) (BT.all_node Tryz.func76 trivial trivial)) (BT.all_node Tryz.func79 (BT.all_node Tryz.func78 trivial trivial) (BT.all_node Tryz.func80 trivial trivial))) (BT.all_node Tryz.func85 (BT.all_node Tryz.func83 (BT.all_node Tryz.func82 trivial trivial) (BT.all_node Tryz.func84 trivial trivial)) (BT.all_node Tryz.func87 (BT.all_node Tryz.func86 trivial trivial) (BT.all_node Tryz.func88 trivial trivial)))) (BT.all_node Tryz.func98 (BT.all_node Tryz.func94 (BT.all_node Tryz.func92 (BT.all_node Tryz.func91 (BT.all_node Tryz.func90 trivial trivial) trivial) (BT.all_node Tryz.func93 trivial trivial)) (BT.all_node Tryz.func96 (BT.all_node Tryz.func95 trivial trivial) (BT.all_node Tryz.func97 trivial trivial))) (BT.all_node Tryz.func102 (BT.all_node Tryz.func100 (BT.all_node Tryz.func99 trivial trivial) (BT.all_node Tryz.func101 trivial trivial)) (BT.all_node Tryz.func104 (BT.all_node Tryz.func103 trivial trivial) (BT.all_node Tryz.func105 trivial trivial))))) (BT.all_node Tryz.func123 (BT.all_node Tryz.func115 (BT.all_node Tryz.func111 (BT.all_node Tryz.func109 (BT.all_node Tryz.func108 (BT.all_node Tryz.func107 trivial trivial) trivial) (BT.all_node Tryz.func110 trivial trivial)) (BT.all_node Tryz.func113 (BT.all_node Tryz.func112 trivial trivial) (BT.all_node Tryz.func114 trivial trivial))) (BT.all_node Tryz.func119 (BT.all_node Tryz.func117 (BT.all_node Tryz.func116 trivial trivial) (BT.all_node Tryz.func118 trivial trivial)) (BT.all_node Tryz.func121 (BT.all_node Tryz.func120 trivial trivial) (BT.all_node Tryz.func122 trivial trivial)))) (BT.all_node Tryz.func131 (BT.all_node Tryz.func127 (BT.all_node Tryz.func125 (BT.all_node Tryz.func124 trivial trivial) (BT.all_node Tryz.func126 trivial trivial)) (BT.all_node Tryz.func129 (BT.all_node Tryz.func128 trivial trivial) (BT.all_node Tryz.func130 trivial trivial))) (BT.all_node Tryz.func135 (BT.all_node Tryz.func133 (BT.all_node Tryz.func132 trivial trivial) (BT.all_node Tryz.func134 trivial trivial)) (BT.all_node Tryz.func137 (BT.all_node Tryz.func136 trivial trivial) (BT.all_node Tryz.func139 trivial trivial)))))))
noncomputable def cfg : Cfg := { P := Tryz.prog, ty := fun t => qcD.look t, mode := fun f => match qfW.look f with | some m => m | none => .imp, frz := fun f r k => qf0 f r k, mask := fun f r => qcF f r qfX, cut := fun f r => qcF f r qgj, tup := fun t => qga.look t, ext := fun f => vP f z3, known := fun f => (qfx.look f).isSome, dat := fun t => (qgi.look t).isSome, inl := fun f => qak f qe7, lift := fun f r => match qcF f r qfY with | some l => l | none => [], ems := fun t => (qgh.look t).isSome, ali := fun t => (qgl.look t).isSome, wrt := fun t => (qf9.look t).isSome }
theorem qan {fs : List Fact} (hfs : qt cfg fs) {f : Nat} {args : List AV} {v : AV} (m d : Nat) (h : (match yF cfg (fun f => qew.look f) fs m d (.f f) args [] with | some r => some r.1 | none => none) = some v) : EVs (EV cfg) f args = some v := qgf (fun _ _ h => BT.all_look qfO h) hfs m d h
theorem qbD {fs : List Fact} (hfs : qt cfg fs) {f : Nat} {args : List AV} {v : AV} (m d : Nat) (h : (match yF cfg (fun f => qew.look f) fs m d (.f f) args [] with | some r => gA (r.1.frz r.1.msIds r.2).fg some | none => none) = some v) : EVf (EV cfg) f args = some v := qgg (fun _ _ h => BT.all_look qfO h) hfs m d h
instance inl_ok : InlOk cfg := InlOk.of qe7 (fun _ => rfl) ⟨⟨rfl, rfl, Tryz.func6, rfl⟩, ⟨⟨rfl, rfl, Tryz.func8, rfl⟩, ⟨⟨rfl, rfl, Tryz.func11, rfl⟩, ⟨⟨rfl, rfl, Tryz.func13, rfl⟩, ⟨⟨rfl, rfl, Tryz.func16, rfl⟩, ⟨⟨rfl, rfl, Tryz.func17, rfl⟩, ⟨⟨rfl, rfl, Tryz.func21, rfl⟩, ⟨⟨rfl, rfl, Tryz.func30, rfl⟩, ⟨⟨rfl, rfl, Tryz.func46, rfl⟩, ⟨⟨rfl, rfl, Tryz.func53, rfl⟩, ⟨⟨rfl, rfl, Tryz.func59, rfl⟩, ⟨⟨rfl, rfl, Tryz.func79, rfl⟩, ⟨⟨rfl, rfl, Tryz.func82, rfl⟩, ⟨⟨rfl, rfl, Tryz.func95, rfl⟩, ⟨⟨rfl, rfl, Tryz.func98, rfl⟩, ⟨⟨rfl, rfl, Tryz.func109, rfl⟩, trivial⟩⟩⟩⟩⟩⟩⟩⟩⟩⟩⟩⟩⟩⟩⟩⟩
end Go.Proofs.YtokeihbigipmmaaGreat
end
section
namespace Go.Av
def cmpS (a b : List UInt8) : Int := if a == b then 0 else if Op.bytesLess a b then -1 else 1
theorem yN : ∀ a b : List UInt8, Lib.compareBytes a b = cmpS a b
 | [], [] => rfl
 | [], _ :: _ => by simp [Lib.compareBytes, cmpS, Op.bytesLess]
 | _ :: _, [] => by simp [Lib.compareBytes, cmpS, Op.bytesLess]
 | a :: l, b :: m => by
  rw [Lib.compareBytes, yN l m]
  unfold cmpS
  by_cases h : a = b
  ·subst h
   have : ¬ a < a := by simp
   by_cases h2 : l = m
   ·subst h2; simp
   ·simp [Op.bytesLess, h2]
  ·have h' : (a :: l == b :: m) = false := by simp [h]
   rw [h']
   simp only [qgF, if_false, Op.bytesLess]
   by_cases hlt : a < b
   ·simp [hlt]
   ·have : b < a := by
     have h1 : ¬ a.toNat < b.toNat := hlt
     have h2 : a.toNat ≠ b.toNat := fun e => h (UInt8.toNat.inj e)
     show b.toNat < a.toNat
     omega
    simp [hlt, this, h]
theorem qde [Lent] {P : Program} {f : FuncId} {fn : Func} (hf : P.funcs[f]? = some fn) (hn : (fn.name == "runtime.NumGoroutine") = false) (hb : fn.body.isNone = true) (hx : Extern.findNext fn = none)
  (he : Extern.find fn = some Extern.BytealgCompare.compare) {args : List AV} {H H' : AH} {r : AV} (hr : qbG args H = some (r, H')) {C : qa} {μ : MMap} {w : World} {vs : Array Value} (ha : qc C μ args vs) (hw : Wld C μ H w) :
  qs P (callFunc f vs) w (qB C μ H w r H') := by
 unfold qbG at hr
 split at hr
 ·rename_i H0 a b
  cases hr
  obtain ⟨hl, hv⟩ := ha
  obtain ⟨x, y, rfl⟩ : ∃ x y, vs = #[x, y] := by
   obtain ⟨l⟩ := vs
   match l, hl with
   | [x, y], _ => exact ⟨x, y, rfl⟩
  have h0 := hv 0 _ _ rfl rfl
  have h1 := hv 1 _ _ rfl rfl
  cases h0
  cases h1
  have hrun : (callFunc f #[.string ⟨a.toArray⟩, .string ⟨b.toArray⟩]).run P w = .ok (.value (.int .i64 (cmpS a b))) w := by
   unfold callFunc
   simp only [Sem.run_bind, run_program, Result.andThen_ok, hf, hn, hb, qgF, if_false, if_true, run_mark, hx, he, Lib.run_compareString, Sem.run_pure]
   rw [yN]
  unfold qs
  rw [hrun]
  exact ⟨C, μ, .int _ _, hw, Ext.refl (qgy _)⟩
 ·cases hr
end Go.Av
namespace Go.Proofs.YtokeihbigipmmaaGreat
open Go.Av
theorem qeP : qcD.All fun t ti => tiOf Tryz.prog t = some ti := by
 unfold qcD
 repeat (first | exact trivial | refine BT.all_node (by show tiOf Tryz.prog _ = _; kernel_rfl) ?_ ?_)
theorem qfu : Tryz.prog.funcs.toList.all (fun fn => !(fn.name == "runtime.NumGoroutine")) = true := by kernel_rfl
theorem qc4 : Tryz.prog.follows .mixedOrders = true := by kernel_rfl
end Go.Proofs.YtokeihbigipmmaaGreat
end
section
namespace Go.Av
abbrev Rz := List (List AV)
abbrev Bz := List UInt8
inductive Tm where
 | mk (k n : Int) (s : List UInt8) (l : List Tm)
 deriving Inhabited
namespace Tm
def str : Tm → List UInt8 | mk _ _ s _ => s
end Tm
mutual
def Tm.cells : Tm → List AV
 | .mk k n s l => [.int .i64 k, .int .i64 n, .str s, .sl (yK l)]
def yK : List Tm → List (List AV)
 | [] => []
 | t :: l => t.cells :: yK l
end
theorem qcg : ∀ l : List Tm, yK l = l.map Tm.cells
 | [] => by rw [yK]; rfl
 | t :: l => by rw [yK, qcg l]; rfl
@[simp] theorem rowsT_length (l : List Tm) : (yK l).length = l.length := by rw [qcg]; simp
@[simp] theorem rowsT_nil : yK [] = [] := by rw [yK]
mutual
/-- no list is longer than is counted here, no text -/
def Tm.Ok : Tm → Prop
 | .mk _ _ s l => s.length < 1099511627776 ∧ l.length < 1099511627776 ∧ OkL l
def OkL : List Tm → Prop
 | [] => True
 | t :: l => t.Ok ∧ OkL l
end
theorem qd7 {l : List Tm} : OkL l ↔ ∀ t ∈ l, t.Ok := by
 induction l with
 | nil => simp [OkL]
 | cons t l ih => simp [OkL, ih]
theorem Tm.Ok.str {k n : Int} {s : List UInt8} {l : List Tm} (h : (Tm.mk k n s l).Ok) : s.length < 1099511627776 := by rw [Tm.Ok] at h; exact h.1
theorem Tm.Ok.len {k n : Int} {s : List UInt8} {l : List Tm} (h : (Tm.mk k n s l).Ok) : l.length < 1099511627776 := by rw [Tm.Ok] at h; exact h.2.1
theorem Tm.Ok.sub {k n : Int} {s : List UInt8} {l : List Tm} (h : (Tm.mk k n s l).Ok) {t : Tm} (ht : t ∈ l) : t.Ok := by rw [Tm.Ok] at h; exact qd7.1 h.2.2 t ht
theorem OkL.get {l : List Tm} (h : OkL l) {t : Tm} (ht : t ∈ l) : t.Ok := qd7.1 h t ht
mutual
def Tm.w : Tm → Nat
 | .mk _ _ s l => 1 + s.length + wL l
def wL : List Tm → Nat
 | [] => 0
 | t :: l => t.w + wL l
end
@[simp] theorem wL_nil : wL [] = 0 := by rw [wL]
@[simp] theorem wL_cons (t : Tm) (l : List Tm) : wL (t :: l) = t.w + wL l := by rw [wL]
@[simp] theorem wL_append (a b : List Tm) : wL (a ++ b) = wL a + wL b := by
 induction a with
 | nil => simp
 | cons t l ih => simp [ih]; omega
end Go.Av
end
section
namespace Go.Proofs.YtokeihbigipmmaaGreat
open Go.Av
def C0 (W : World) : qa := fun b o => W.cell? ⟨b, o, none⟩
def M0 : MMap := fun _ => none
theorem wld0 (W : World) : Wld (C0 W) M0 [] W where
 cl := fun _ _ _ h => h
 dom := fun id m h => by cases h
 res := fun id h => by simp at h
 live := fun id b h => by simp at h
 froz := fun id d sz rs h => by simp at h
 inj := fun i i' b b' m m' h => by simp at h
 free := xg.nil
 lnt := ⟨fun _ _ _ h => (by cases h), fun h => h.elim, fun _ _ => trivial⟩
structure TermTys (P : Program) (tT tL tI tS : TypeId) : Prop where
 uT : ∃ f0 f1 f2 f3 : Field, P.underlying tT = some (.struct #[f0, f1, f2, f3]) ∧ f0.type = tI ∧ f0.offset = 0 ∧ f1.type = tI ∧ f1.offset = 1 ∧ f2.type = tS ∧ f2.offset = 2 ∧ f3.type = tL ∧ f3.offset = 3
 uL : P.underlying tL = some (.slice tT)
 uI : P.underlying tI = some (.int .i64)
 uS : P.underlying tS = some .string
 cT : P.cellsOf tT = 4
 cL : P.cellsOf tL = 1
 cI : P.cellsOf tI = 1
 cS : P.cellsOf tS = 1
section
variable {H : Type} {enc : TypeId × Value → H} {P : Program} {W : World} {tT tL tI tS : TypeId}
end
end Go.Proofs.YtokeihbigipmmaaGreat
end
section
namespace Go.Proofs.YtokeihbigipmmaaGreat
open Go.Av Go.ChangeShapes Go.WideShapes Go.ChangeAt Go.RowKit
theorem qft : ownKnob Tryz.prog.godebug = none := by kernel_rfl
theorem qfr [Lent] {C : qa} : qc C M0 [] #[] := ⟨rfl, fun i c v hc hv => by simp at hc⟩
theorem qc3 (f : FuncId) (fn : Func) (h : Tryz.prog.funcs[f]? = some fn) : (fn.name == "runtime.NumGoroutine") = false := by
 have h1 := List.all_eq_true.1 qfu fn (by
  rw [← Array.getElem?_toList] at h
  exact qgH h)
 simpa using h1
theorem qff [Lent] {args : List AV} {H H' : AH} {r : AV} {C : qa} {μ : MMap} {w : World} {vs : Array Value} (hr : qbG args H = some (r, H')) (ha : qc C μ args vs) (hw : Wld C μ H w) :
  qs Tryz.prog (callFunc 138 vs) w (qB C μ H w r H') :=
 qde (P := Tryz.prog) Tryz.func138 (by rfl) (by rfl) (by kernel_rfl) (by kernel_rfl) hr ha hw
theorem qgk [Lent] : CfgOk cfg where
  ty := ⟨fun t ti h => BT.all_look qeP h⟩
  mixed := qc4
  named := fun f fn _ h => qc3 f fn h
  ext := fun f s h args H r H' hr C μ w vs ha hw => by
    have h : vP f z3 = some s := h
    unfold z3 at h
    rw [vP] at h
    split at h
    · rename_i e
      have e := qgB e
      subst e
      cases h
      exact qff hr ha hw
    · rw [qbF] at h
      first
        | (rw [vP] at h; cases h; done)
        | (have okK : CfgOk K.cfg := {
             ty := ⟨fun t ti h => BT.all_look (show K.qcD.All _ from qeP) h⟩
             mixed := qc4
             named := fun f fn _ h => qc3 f fn h
             ext := fun f s h args H r H' hr C μ w vs ha hw => by
               have h : K.vP f K.z3 = some s := h
               unfold K.z3 at h
               rw [K.vP] at h
               split at h
               · rename_i e
                 have e := qgB e
                 subst e
                 cases h
                 exact qff hr ha hw
               · rw [K.qbF, K.vP] at h
                 cases h }
           rw [vP] at h
           split at h
           · rename_i e
             have e := qgB e
             subst e
             cases h
             exact (qds okK).calls _ _ _ _ _ hr C μ w vs _ ha hw rfl
           · rw [vP] at h
             cases h)
theorem qeX {f : FuncId} {args : List AV} {vs : Array Value} {W : World} (hx : cfg.ext f = none) (he : EVs (EV cfg) f args = some (.bool true)) (ha : qc (C0 W) M0 args vs) :
  Calls Tryz.prog f vs W fun e W' => e = .returned (.bool true) ∧ (∀ b, b < W.heap.size → W'.heap[b]? = W.heap[b]?) ∧ W.heap.size ≤ W'.heap.size ∧ W'.os = W.os ∧ W'.output = W.output := by
 unfold EVs at he
 obtain ⟨q, h1, h2⟩ := qgw.1 he
 have := qfK qgk hx (r := q.1) (H' := q.2) h1 ha (wld0 W)
 refine this.mono fun e W' ⟨v, hv, C', μ', p1, p2, p3⟩ => ?_
 rw [h2] at p1
 cases p1
 refine ⟨hv, fun b hb => (p3.fr b hb qZ).1, p3.size, p3.os, p3.output⟩
section
variable {H : Type} {enc : TypeId × Value → H} {P : Program} {W W' : World}
theorem qe1 {f : Func} {s : ChangeSpec} {apart fresh handsOn again : Bool} {args : Array Value} {v : Value} {ds gs : List (DataW H)} {before pa pv : List MemPlace}
  (hW : DataW.Whole enc P f.params.toList s.vars apart W args.toList ds gs before)
  (hres : ∀ (b : Nat) (sp : Nat → Bool) (hd : Bool), DataW.TrodAll enc P W' b sp hd f.resultTypes.toList (v.resultList f.resultTypes.size) (s.fn H (ds ++ gs)).results [])
  (hargs : ∀ sp : Nat → Bool, (∀ p ∈ before, sp p.block = true) → DataW.TrodAll enc P W' 0 sp true f.params.toList args.toList (s.fn H (ds ++ gs)).args pa)
  (hvars : ∀ sp : Nat → Bool, (∀ p ∈ before, sp p.block = true) → DataW.TrodVars enc P W' sp s.vars (s.fn H (ds ++ gs)).vars pv)
  (hps : before = pa ++ pv) (hk : W.keptBut W' (· ∈ before)) (hfz : ∀ b o, b < W.heap.size → W'.frozen? ⟨b, o, none⟩ = W.frozen? ⟨b, o, none⟩)
  (hok : ∀ (j : Nat) (t : TypeId) (r : Value), f.resultTypes[j]? = some t → (v.resultList f.resultTypes.size)[j]? = some r → Value.okWide P W' .any 0 t r) :
  s.post enc P f apart fresh handsOn again W args v W' := by
 have hlt := hW.lt
 have hold : ∀ p ∈ before, (fun b => decide (b < W.heap.size)) p.block = true := fun p hp => by simpa using hlt p hp
 refine ⟨ds, gs, before, [], pa, pv, hW, hres _ _ _, hargs _ hold, hvars _ hold, World.keptBut_mono (fun p hp => ⟨hp, ?_⟩) hk, fun _ => ?_⟩
 ·rw [hps, qgI] at hp
  exact Or.inr hp
 ·obtain ⟨_, _, _, _, _, hz, hn⟩ := hW
  refine ⟨hok, _, _, ([] ++ pa) ++ pv, ⟨[] ++ pa, pv, trodAll_append (hargs _ (fun _ _ => rfl)) (hres _ _ _), hvars _ (fun _ _ => rfl), rfl, ?_, ?_⟩, ?_⟩
  ·intro b off hp
   have hp' : MemPlace.cell b off ∈ before := by rw [hps]; simpa using hp
   rw [hfz b off (hlt _ hp')]
   exact hz b off hp'
  ·intro ha
   have := hn ha
   rw [hps] at this
   simpa using this
  ·intro p hp _
   rw [hps]
   simpa using hp
theorem qc7 (h : ∀ b, b < W.heap.size → W'.heap[b]? = W.heap[b]?) (ho : W'.os = W.os) (hu : W'.output = W.output) (may : MemPlace → Prop) : W.keptBut W' may := by
 refine ⟨ho, hu, fun i hi => ?_⟩
 rw [h i hi]
 cases W.heap[i]? with
 | none => rfl
 | some o => cases o <;> simp
theorem qb6 (h : ∀ b, b < W.heap.size → W'.heap[b]? = W.heap[b]?) (b o : Nat) (hb : b < W.heap.size) : W'.frozen? ⟨b, o, none⟩ = W.frozen? ⟨b, o, none⟩ := by
 simp only [World.frozen?]; rw [h b hb]
structure Opened (enc : TypeId × Value → H) (P : Program) (W : World) (t : TypeId) (v : Value) (d : DataW H) (ps : List MemPlace) (a : AV) : Prop where
 rep : Rep (C0 W) M0 a v
 back : ∀ (W' : World) (sp : Nat → Bool), (∀ p ∈ ps, W.sameAt W' p) → (∀ p ∈ ps, sp p.block = true) → DataW.Trod enc P W' 0 sp true t v d ps
end
theorem qbt : EVs (EV cfg) 81 [.agg [.int .i64 9, .int .i64 0, .str [], .sl [[.int .i64 7, .int .i64 0, .str [], .sl [[.int .i64 7, .int .i64 0, .str [], .sl [[.int .i64 2, .int .i64 0, .str [36, 49], .sl []], [.int .i64 2, .int .i64 0, .str [97], .sl []]]], [.int .i64 8, .int .i64 0, .str [], .sl []], [.int .i64 9, .int .i64 0, .str [], .sl [[.int .i64 2, .int .i64 0, .str [36, 49], .sl []], [.int .i64 8, .int .i64 0, .str [], .nilS]]]]], [.int .i64 8, .int .i64 0, .str [], .nilS]]]] = some (.int .i64 0) := qan (.nil) 1000 1000 (by kernel_rfl)
theorem qbs : EVs (EV cfg) 81 [.agg [.int .i64 7, .int .i64 0, .str [], .sl [[.int .i64 2, .int .i64 0, .str [36, 49], .sl []], [.int .i64 2, .int .i64 0, .str [97], .sl []]]]] = some (.int .i64 0) := qan (.nil) 1000 1000 (by kernel_rfl)
theorem qbr : EVf (EV cfg) 104 [.agg [.int .i64 7, .int .i64 0, .str [], .sl [[.int .i64 2, .int .i64 0, .str [36, 49], .sl []], [.int .i64 2, .int .i64 0, .str [97], .sl []]]]] = some (.sl [[.int .i64 1]]) := qbD (.consS qbs (.nil)) 1000 1000 (by kernel_rfl)
theorem xD : EVs (EV cfg) 90 [.agg [.int .i64 2, .int .i64 0, .str [36, 49], .sl []]] = some (.tup [.int .i64 1, .bool true]) := qan (.nil) 1000 1000 (by kernel_rfl)
theorem qbq : EVf (EV cfg) 88 [.agg [.int .i64 7, .int .i64 0, .str [], .sl [[.int .i64 7, .int .i64 0, .str [], .sl [[.int .i64 2, .int .i64 0, .str [36, 49], .sl []], [.int .i64 2, .int .i64 0, .str [97], .sl []]]], [.int .i64 8, .int .i64 0, .str [], .sl []], [.int .i64 9, .int .i64 0, .str [], .sl [[.int .i64 2, .int .i64 0, .str [36, 49], .sl []], [.int .i64 8, .int .i64 0, .str [], .nilS]]]]]] = some (.tup [.agg [.int .i64 7, .int .i64 0, .str [], .sl [[.int .i64 2, .int .i64 0, .str [36, 49], .sl []], [.int .i64 2, .int .i64 0, .str [97], .sl []]], .sl [], .sl [[.int .i64 2, .int .i64 0, .str [36, 49], .sl []]]], .bool true]) := qbD (.consF qbr (.consS xD (.nil))) 1000 1000 (by kernel_rfl)
theorem yM : EVf (EV cfg) 49 [.agg [.int .i64 9, .int .i64 0, .str [], .sl [[.int .i64 7, .int .i64 0, .str [], .sl [[.int .i64 7, .int .i64 0, .str [], .sl [[.int .i64 2, .int .i64 0, .str [36, 49], .sl []], [.int .i64 2, .int .i64 0, .str [97], .sl []]]], [.int .i64 8, .int .i64 0, .str [], .sl []], [.int .i64 9, .int .i64 0, .str [], .sl [[.int .i64 2, .int .i64 0, .str [36, 49], .sl []], [.int .i64 8, .int .i64 0, .str [], .nilS]]]]], [.int .i64 8, .int .i64 0, .str [], .nilS]]]] = some (.tup [.sl [[.int .i64 7, .int .i64 0, .str [], .sl [[.int .i64 2, .int .i64 0, .str [36, 49], .sl []], [.int .i64 2, .int .i64 0, .str [97], .sl []]], .sl [], .sl [[.int .i64 2, .int .i64 0, .str [36, 49], .sl []]]]], .int .i64 0]) := qbD (.consS qbt (.consF qbq (.nil))) 1000 1000 (by kernel_rfl)
theorem yL : EVf (EV cfg) 24 [.agg [.int .i64 9, .int .i64 0, .str [], .sl [[.int .i64 7, .int .i64 0, .str [], .sl [[.int .i64 7, .int .i64 0, .str [], .sl [[.int .i64 2, .int .i64 0, .str [36, 49], .sl []], [.int .i64 2, .int .i64 0, .str [97], .sl []]]], [.int .i64 8, .int .i64 0, .str [], .sl []], [.int .i64 9, .int .i64 0, .str [], .sl [[.int .i64 2, .int .i64 0, .str [36, 49], .sl []], [.int .i64 8, .int .i64 0, .str [], .nilS]]]]], [.int .i64 8, .int .i64 0, .str [], .nilS]]]] = some (.agg [.int .i64 9, .int .i64 0, .str [], .sl [[.int .i64 7, .int .i64 0, .str [], .sl [[.int .i64 7, .int .i64 0, .str [], .sl [[.int .i64 2, .int .i64 0, .str [36, 49], .sl []], [.int .i64 2, .int .i64 0, .str [97], .sl []]]], [.int .i64 8, .int .i64 0, .str [], .sl []], [.int .i64 9, .int .i64 0, .str [], .sl [[.int .i64 2, .int .i64 0, .str [36, 49], .sl []], [.int .i64 8, .int .i64 0, .str [], .sl []]]]]], [.int .i64 8, .int .i64 0, .str [], .sl []]]]) := qbD (.nil) 1000 1000 (by kernel_rfl)
theorem qbp : EVs (EV cfg) 10 [] = some (.bool true) := qan (.consF yM (.consS xD (.consF yL (.nil)))) 1000 1000 (by kernel_rfl)
theorem qbo : EVf (EV cfg) 24 [.agg [.int .i64 9, .int .i64 0, .str [], .sl [[.int .i64 7, .int .i64 0, .str [], .sl [[.int .i64 7, .int .i64 0, .str [], .sl [[.int .i64 2, .int .i64 0, .str [36, 49], .sl []], [.int .i64 2, .int .i64 0, .str [97], .sl []]]], [.int .i64 8, .int .i64 0, .str [], .sl []], [.int .i64 9, .int .i64 0, .str [], .sl [[.int .i64 2, .int .i64 0, .str [36, 49], .sl []], [.int .i64 8, .int .i64 0, .str [], .sl []]]]]], [.int .i64 8, .int .i64 0, .str [], .sl []]]]] = some (.agg [.int .i64 9, .int .i64 0, .str [], .sl [[.int .i64 7, .int .i64 0, .str [], .sl [[.int .i64 7, .int .i64 0, .str [], .sl [[.int .i64 2, .int .i64 0, .str [36, 49], .sl []], [.int .i64 2, .int .i64 0, .str [97], .sl []]]], [.int .i64 8, .int .i64 0, .str [], .sl []], [.int .i64 9, .int .i64 0, .str [], .sl [[.int .i64 2, .int .i64 0, .str [36, 49], .sl []], [.int .i64 8, .int .i64 0, .str [], .sl []]]]]], [.int .i64 8, .int .i64 0, .str [], .sl []]]]) := qbD (.nil) 1000 1000 (by kernel_rfl)
theorem qbn : EVs (EV cfg) 26 [.sl [[.int .i64 7, .int .i64 0, .str [], .sl [[.int .i64 2, .int .i64 0, .str [36, 49], .sl []], [.int .i64 2, .int .i64 0, .str [97], .sl []]]], [.int .i64 8, .int .i64 0, .str [], .sl []], [.int .i64 9, .int .i64 0, .str [], .sl [[.int .i64 2, .int .i64 0, .str [36, 49], .sl []], [.int .i64 8, .int .i64 0, .str [], .sl []]]]], .sl [[.int .i64 7, .int .i64 0, .str [], .sl [[.int .i64 2, .int .i64 0, .str [36, 49], .sl []], [.int .i64 2, .int .i64 0, .str [97], .sl []]]], [.int .i64 8, .int .i64 0, .str [], .sl []], [.int .i64 9, .int .i64 0, .str [], .sl [[.int .i64 2, .int .i64 0, .str [36, 49], .sl []], [.int .i64 8, .int .i64 0, .str [], .nilS]]]]] = some (.bool true) := qan (.nil) 1000 1000 (by kernel_rfl)
theorem qbu : EVs (EV cfg) 3 [] = some (.bool true) := qan (.consF yM (.consS xD (.consF yL (.consS qbp (.consF qbo (.consS qbn (.nil))))))) 1000 1000 (by kernel_rfl)
end Go.Proofs.YtokeihbigipmmaaGreat
end
