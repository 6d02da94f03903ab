/-
  Parts of the proof of ScanKnownUptoCardSaid, put together: the abstract evaluation and its contracts. Own work.
  What is proved: each lemma as it stands; no condition.
-/
import Derived.KernelRfl
import Derived.Lib.Bytealg
import Derived.Lib.IndexMore
import Derived.Lib.ParseIntB
import Derived.Lib.ItoaNum
import Derived.Lib.Join
import Derived.Test.YtnmfakkjnbpjpaaDoorProg
import Derived.Shelf.Strings.Builder1
import Derived.Shelf.Strings.Builder2
import Derived.Shelf.Strings.OnBuilder
import Derived.Shelf.Small.Strs
import Derived.Shelf.Strings.BuilderF
import Derived.Shelf.Strings.BuilderK
import Derived.Shelf.Strconv.Itoa0
import Derived.Shelf.Strconv.Itoa1
import Derived.Shelf.LaysM
import Derived.Shelf.Strconv.Itoa2
import Derived.Shelf.Strconv.Itoa3
import Derived.Ground.MpProg
import Derived.Shelf.Pu.ParseUintPublic10
import Derived.Shelf.Strings.Search1
import Derived.Shelf.Strings.Search2
import Derived.Shelf.Strings.Search3
import Derived.Shelf.Strings.Shaped
import Derived.Lib.AtoiErrMem
import Derived.Lib.FrozenHead2
import Derived.Lib.UnsafeStr
import Derived.WalkKit
import Derived.RowKit
import Derived.Shelf.RegionOpenPlain
import Derived.Test.YtnmfakkjnbpjpaaDoorRows
import Derived.ProofKit
import Derived.OpenShut
import Derived.JoinedCond
import Derived.ChangeArms
import Derived.Lib.AppendIntMem
import Derived.Deep.DeepHandedRow
import Derived.MakeChecks
import Derived.Stop.LaidErr
import Derived.LaidLaws
import Derived.Lib.LaidTab
import Derived.Deep.DeepWitnessRowRef
import Derived.LaidMore
import Derived.SevenTiedAt
import Derived.Test.YtnmfakkjnbpjpaaDoorCards
import Derived.Test.YtnmfakkjnbpjpaaDoorTie
import Derived.Test.YtnmfakkjnbpjpaaDoorZScanKnownM2
open List renaming getElem?_eq_some_iff → qhz, getElem?_eq_getElem → qhE, getElem?_set → qhG, getElem?_append_left → qhH, getElem?_append_right → qhI, mem_of_getElem? → qhL, mem_append → qhM, replicate → qhN
open Option renaming map_eq_some_iff → qhA, bind_eq_some_iff → qhB, bind_some → qhP
open Nat renaming le_refl → qhC, eq_of_beq_eq_true → qhF, mul_le_mul_right → qhK, blt_eq → qhO, beq → qhQ
open Bool renaming and_eq_true → qhD, false_eq_true → qhJ
set_option maxRecDepth 1000000
set_option maxHeartbeats 0
section
namespace Go.Av
variable {C C' C1 C2 : qa} {μ μ' μ1 : MMap} {H H' H1 H2 : AH} {w w' w1 : World} {P : Program}
structure OracOk2 [Lent] (cfg : Cfg) (cf : Orac) : Prop where
 calls : x9 cfg cf
 enters : ∀ h args H r, cf (.f h) args H = some r → cfg.ext h = none → ∀ vs w, (callFunc h vs).run cfg.P w = .ok (.enter h vs) w
theorem qgp [Lent] (h : Wld C μ H w) {f : Nat} {fr : List AV} {assign body : Code} {ps : Array Tmp} {fn : FuncId} {tmps : Array Value} {dblk : Nat} (hf : qc C μ fr tmps) (hs : w.heap.size < w1.heap.size)
  (hold : ∀ b, b < w.heap.size → w1.heap[b]? = w.heap[b]?) {l : Nat} (hl : w.heap.size ≤ l)
  (hnew : w1.heap[l]? = some (.loop { state := .ready, pending := none, fn, tmps, params := ps, assign, body, defers := dblk })) (ho : w1.os = w.os) (ht : w1.tape = w.tape) (hu : w1.output = w.output) :
  Wld C (upd μ H.length (MI.mk4 l 0 0 0)) (H ++ [.loop f fr ps.toList assign body none .ready]) w1 ∧ Ext H.length C μ H w C (upd μ H.length (MI.mk4 l 0 0 0)) (H ++ [.loop f fr ps.toList assign body none .ready]) w1 ∧
   (∀ id m, μ id = some m → upd μ H.length (MI.mk4 l 0 0 0) id = some m) ∧ (∀ b, Live (H ++ [.loop f fr ps.toList assign body none .ready]) (upd μ H.length (MI.mk4 l 0 0 0)) b → Live H μ b ∨ b = l) := by
 have hll : l < w1.heap.size := (Array.getElem?_eq_some_iff.1 hnew).1
 have hw1 : Wld C μ H w1 := h.world (by omega) (fun b hb => hold b hb)
 have hmu : ∀ id m, μ id = some m → upd μ H.length (MI.mk4 l 0 0 0) id = some m := by
  intro id m hm
  have := h.dom id m hm
  unfold upd
  rw [if_neg (by omega)]; exact hm
 obtain ⟨n1, n2, n3, n4, n5⟩ := hw1.new4 (nid := none) (k := H.length) (blk := .loop f fr ps.toList assign body none .ready) (H' := H ++ [.loop f fr ps.toList assign body none .ready]) (B := l) (b0 := 0) (n0 := 0) (z0 := 0) rfl (fun hl' => by have := h.live_lt hl'; omega) hll
  (fun o => by
   cases hc : C l o with
   | none => rfl
   | some v => have := h.block_lt hc; omega) (h.lent_none hl) rfl ⟨_, hnew, rfl, rfl, rfl, rfl, rfl, hf.mono (fun _ _ _ h => h) hmu⟩
 refine ⟨n1, ⟨ho, ht, hu, by omega, fun _ _ _ h => h, fun id m _ hm => ⟨_, hmu id m hm, .refl _⟩, fun b hb hnl => ⟨hold b hb, fun hl' => ?_, rfl⟩, n3⟩, hmu, n4⟩
 rcases n4 b hl' with h1 | h1
 ·exact hnl h1
 ·omega
theorem qbF [Lent] {cfg : Cfg} {cf : Orac} (hO : OracOk2 cfg cf) {F : Fence} {rd : Option Nat} {f B k : Nat} {g : Operand} {ps : Array Tmp} {assign body : Code} {fr : List AV} {r : Ex × List AV × AH} {a : Act}
  (he : xP cfg cf f rd k g ps assign body fr H = some r) (hk : k ≤ H.length) (hrd : RdOk rd F μ k) (hf : qc C μ fr a.tmps) (hw : Wld C μ H w) (hm : yp B μ H w a.defers) :
  (Code.rangeFunc g ps assign body).wpIn F 0 cfg.P (xL k B C μ H w r) a w := by
 have hrd := hrd.ext (fun _ _ _ h => ⟨_, h, .refl _⟩) hk
 unfold xP at he
 split at he
 case isFalse => cases he
 rename_i hrl
 split at he
 case h_2 => cases he
 rename_i h first caps hg
 split at he
 case isTrue => cases he
 rename_i hext
 have hext : cfg.ext h = none := by
  cases hh : cfg.ext h with
  | none => rfl
  | some s => rw [hh] at hext; simp at hext
 obtain ⟨q, hq, he⟩ := qhB.1 he
 have hgr := yu hf g
 rw [hg] at hgr
 generalize hgv : a.eval g = gv at hgr
 cases hgr with
 | fn _ _ _ vf vc hl1 hl2 h1 h2 =>
 refine wpIn_rangeFunc fun fn hfn => ?_
 have hwide := hrd.wide
 have hmf : qc C μ (q5 (cfg.keepIn f (qh body)) fr) a.tmps := xG hf
 -- what lies behind the loop
 have core : ∀ (l : Nat) (ms : List Deferred) (w1 : World) (dblk : Nat), w.heap.size < w1.heap.size → (∀ b, b < w.heap.size → w1.heap[b]? = w.heap[b]?) → w.heap.size ≤ l →
   w1.heap[l]? = some (.loop { state := .ready, pending := none, fn, tmps := a.tmps, params := ps, assign, body, defers := dblk }) → w1.os = w.os → w1.tape = w.tape → w1.output = w.output →
   (ms = [] ∨ ∃ D, ms = [mark D] ∧ w.heap.size ≤ D ∧ D ≠ l ∧ w1.heap[D]? = some (.deferred (some []))) →
   CallsIn F (0 - 1) cfg.P h (vf.toArray ++ #[.func (.yield l) #[] #[]] ++ vc.toArray) w1 (rangePost F 0 cfg.P l (xL k B C μ H w r) { a with defers := ms ++ a.defers }) := by
  intro l ms w1 dblk hs hold hl hnew ho ht hu hms
  obtain ⟨g1, g2, g3, g4⟩ := qgp (f := f) hw hmf hs hold hl hnew ho ht hu
  have hargs : qc C (upd μ H.length (MI.mk4 l 0 0 0)) (first ++ [.yld H.length] ++ caps) (vf.toArray ++ #[.func (.yield l) #[] #[]] ++ vc.toArray) := by
   refine ⟨by simp [hl1, hl2], fun i x v e1 e2 => ?_⟩
   rw [← Array.getElem?_toList] at e2
   simp only [Array.toList_append] at e2
   rcases Nat.lt_or_ge i (first.length + 1) with hlt | hge
   ·rw [qhH (by simpa using hlt)] at e1
    rw [qhH (by first | omega | (simp; omega))] at e2
    rcases Nat.lt_or_ge i first.length with hlt' | hge'
    ·rw [qhH hlt'] at e1
     rw [qhH (by first | omega | (simp; omega))] at e2
     exact (h1 i x v e1 (by simpa using e2)).mono (fun _ _ _ h => h) g3
    ·have hi : i = first.length := by omega
     subst hi
     rw [qhI (qhC _)] at e1
     rw [qhI (by first | omega | (simp; omega))] at e2
     simp [hl1] at e1 e2
     subst e1; subst e2
     exact .yld H.length (MI.mk4 l 0 0 0) (by unfold upd; rw [if_pos rfl])
   ·rw [qhI (by simpa using hge)] at e1
    rw [qhI (by first | omega | (simp; omega))] at e2
    have : i - (vf.toArray.toList ++ #[Value.func (.yield l) #[] #[]].toList).length = i - (first ++ [AV.yld H.length]).length := by simp [hl1]
    rw [this] at e2
    exact (h2 _ x v e1 (by simpa using e2)).mono (fun _ _ _ h => h) g3
  have hcall := hO.calls _ _ _ _ _ hq C _ w1 _ _ hargs g1 rfl
  unfold qr at hcall
  rw [hO.enters _ _ _ _ hq hext] at hcall
  refine hwide.calls (hcall.mono fun e w3 hp => ?_)
  obtain ⟨v, rfl, C3, μ3, p1, p2, p3⟩ := hp
  have hle : H.length < (H ++ [ABlk.loop f (q5 (cfg.keepIn f (qh body)) fr) ps.toList assign body none .ready]).length := by simp
  obtain ⟨⟨l', b0, s0, z0, D0⟩, hm3, hbl3, -⟩ := p3.mu H.length (MI.mk4 l 0 0 0) hle (by unfold upd; rw [if_pos rfl])
  have hbl3 : l = l' := (show l' = l from hbl3).symm
  subst hbl3
  split at he
  case h_2 => cases he
  rename_i lf lfr lps lassign lbody pend st hlq
  split at he
  case h_1 => cases he
  rename_i hst
  obtain ⟨e2, e3, rc, e4, e5, e6, _⟩ := p2.liveM hlq rfl hm3
  simp only at e4
  have hend := run_endLoop (P := cfg.P) e4 (by rw [e5]; exact hst)
  refine ⟨rc.pending, _, hend, ?_⟩
  -- the world behind it
  have hkill : Wld C3 μ3 (q.2.set H.length .dead) (w3.putObj l (.loop { rc with state := .exhausted })) := by
   refine (p2.kill H.length (by rw [hlq]; simp)).worldG (by simp) (fun b hb hor => ?_)
   refine World.putObj_heap_other fun hbl => ?_
   subst hbl
   rcases hor with hl' | ⟨o, hc'⟩ | ⟨o, hc'⟩
   ·obtain ⟨_, hl''⟩ := hl'.of_kill
    exact hl'' _ hm3 (fun id' b' m' i1 i2 i3 i4 i5 => i4 (p2.inj _ _ _ _ _ _ i1 hlq i2 rfl i3 hm3 _ i5 (.inl rfl))) rfl
   ·exact hc' (e3 o)
   ·exact hc' ((p2.liveH hlq rfl hm3 _ (.inl rfl)).2.2.1 o)
  have hf3 : qc C3 μ3 (q5 (cfg.keepOut f (qh body)) fr) a.tmps := (xG hf).monoG p3.cl (fun id m hm => p3.mu id m (by have := hw.dom id m hm; simp; omega) (g3 id m hm))
  obtain ⟨μ4, k1, k2, k3⟩ := qfW hkill hf3 k (by simp; have := p3.len; simp at this; omega)
  have hx1 : Ext H.length C μ H w C3 μ3 q.2 w3 := g2.trans p3 (by simp)
  have hx : Ext k C μ H w C3 μ4 (gc k (q5 (cfg.keepOut f (qh body)) fr) (q.2.set H.length .dead)).2 (w3.putObj l (.loop { rc with state := .exhausted })) := by
   refine ⟨hx1.os, hx1.tape, hx1.output, by have := hx1.size; simpa using this, hx1.cl, fun id m hid hm => let ⟨m1, f1, f2⟩ := hx1.mu id m (by omega) hm; let ⟨m2, f3, f4⟩ := k3.mu id m1 hid f1; ⟨m2, f3, f2.trans f4⟩, fun b hb hnl => ?_, k3.len⟩
   obtain ⟨f1, f2, f3⟩ := hx1.fr b hb hnl
   refine ⟨by rw [World.putObj_heap_other (by omega)]; exact f1, fun hl' => ?_, f3⟩
   have hb3 : b < (w3.putObj l (.loop { rc with state := .exhausted })).heap.size := by have := hx1.size; simp; omega
   exact (k3.fr b hb3 (fun hl'' => f2 hl''.of_kill.1)).2.1 hl'
  have hmarks : yp B μ4 (gc k (q5 (cfg.keepOut f (qh body)) fr) (q.2.set H.length .dead)).2 (w3.putObj l (.loop { rc with state := .exhausted })) (ms ++ a.defers) := by
   obtain ⟨hb, Ds, d1, d2, d3⟩ := hm.ext hx
   have hB : B ≤ w.heap.size := hm.1
   obtain ⟨_, Ds', d1', _, d3'⟩ := hm
   have hinj : Ds.map mark = Ds'.map mark := by rw [← d1, ← d1']
   have hDs : Ds = Ds' := by
    have : ∀ (x y : List Nat), x.map mark = y.map mark → x = y := by
     intro x
     induction x with
     | nil => intro y h; cases y with
      | nil => rfl
      | cons => simp at h
     | cons a x ih =>
      intro y h
      cases y with
      | nil => simp at h
      | cons b y =>
       simp only [List.map_cons, List.cons.injEq] at h
       obtain ⟨h1, h2⟩ := h
       have : a = b := by unfold mark at h1; cases h1; rfl
       rw [this, ih y h2]
    exact this _ _ hinj
   rcases hms with rfl | ⟨D, rfl, hD1, hD2, hD3⟩
   ·exact ⟨hb, Ds, d1, d2, d3⟩
   ·have hDlt : D < w1.heap.size := (Array.getElem?_eq_some_iff.1 hD3).1
    have hDl1 : ¬ Live (H ++ [ABlk.loop f (q5 (cfg.keepIn f (qh body)) fr) ps.toList assign body none .ready]) (upd μ H.length (MI.mk4 l 0 0 0)) D := by
     intro hl'
     rcases g4 D hl' with h | h
     ·have := hw.live_lt h; omega
     ·exact hD2 h
    obtain ⟨f1, f2, _⟩ := p3.fr D hDlt hDl1
    refine ⟨hb, D :: Ds, by simp [d1], List.nodup_cons.2 ⟨fun hmem => ?_, d2⟩, fun D' hD' => ?_⟩
    ·rw [hDs] at hmem
     have := (Array.getElem?_eq_some_iff.1 (d3' D hmem).2.1).1
     omega
    ·rcases List.mem_cons.1 hD' with rfl | hmem
     ·refine ⟨by omega, by rw [World.putObj_heap_other hD2, f1]; exact hD3, fun hl' => ?_⟩
      have hb3 : D' < (w3.putObj l (.loop { rc with state := .exhausted })).heap.size := by have := p3.size; simp; omega
      exact (k3.fr D' hb3 (fun hl'' => f2 hl''.of_kill.1)).2.1 hl'
     ·exact d3 D' hmem
  have fin : ∀ e, r = (e, gc k (q5 (cfg.keepOut f (qh body)) fr) (q.2.set H.length .dead)) → xL k B C μ H w r e.to { a with defers := ms ++ a.defers } (w3.putObj l (.loop { rc with state := .exhausted })) := by
   intro e hr
   subst hr
   exact ⟨rfl, C3, μ4, k2, k1, hx, hmarks⟩
  rw [e6] at fin ⊢
  split at he
  ·cases he; exact fin .normal rfl
  ·cases he; exact wpIn_ret (fin .ret rfl)
  ·rename_i x; cases he; exact wpIn_exit (fin (.exit x) rfl)
  ·cases he
 have hres : ∀ l w, (resolve a.eval (rangeCall g l) 0).run cfg.P w = .ok { target := .fn (.func h) vc.toArray, args := vf.toArray ++ #[.func (.yield l) #[] #[]] } w := by
  intro l w
  rw [zS (f := g) rfl, hgv]
  simp [Deferred.ofValue, Act.eval]
 have hinv : ∀ l w, (invoke (.fn (.func h) vc.toArray) (vf.toArray ++ #[.func (.yield l) #[] #[]])).run cfg.P w = .ok (.enter h (vf.toArray ++ #[.func (.yield l) #[] #[]] ++ vc.toArray)) w := by
  intro l w
  rw [invoke]
  exact hO.enters _ _ _ _ hq hext _ w
 have hdep : F.depth.isSome = true → 1 ≤ 0 := fun hh => by rw [hwide.depth] at hh; simp at hh
 cases rd with
 | none =>
  have hFw : F = Fence.wide := hrd
  have hro : F.round = none := by rw [hFw]; rfl
  rw [hro]
  refine ⟨w.heap.size + 1, [mark w.heap.size], _, _, _, h, _, _, run_enterLoop_outer fn a.tmps ps assign body, hres _ _, fun f' _ => hwide.fn f', hinv _ _, hdep, ?_⟩
  refine core (w.heap.size + 1) [mark w.heap.size] _ w.heap.size (by simp; omega) (fun b hb => ?_) (by omega) ?_ rfl rfl rfl (.inr ⟨w.heap.size, rfl, qhC _, by omega, ?_⟩)
  ·show ((w.heap.push _).push _)[b]? = _
   rw [Array.getElem?_push, if_neg (by simp; omega), Array.getElem?_push, if_neg (by omega)]
  ·show ((w.heap.push _).push _)[w.heap.size + 1]? = _
   rw [Array.getElem?_push, if_pos (by simp)]
  ·show ((w.heap.push _).push _)[w.heap.size]? = _
   rw [Array.getElem?_push, if_neg (by simp), Array.getElem?_push, if_pos rfl]
 | some l0 =>
  obtain ⟨hl0, m0, hm0, hFr⟩ := hrd
  have hro : F.round = some m0.block := by rw [hFr]; rfl
  rw [hro]
  unfold qfM at hrl
  simp only at hrl
  split at hrl
  case h_2 => cases hrl
  rename_i hb0
  obtain ⟨i2, i3, r0, i4, _⟩ := hw.liveM hb0 rfl hm0
  refine ⟨w.heap.size, [], _, _, _, h, _, _, run_enterLoop_inner i4 fn a.tmps ps assign body, hres _ _, fun f' _ => hwide.fn f', hinv _ _, hdep, ?_⟩
  refine core w.heap.size [] _ r0.defers (by simp) (fun b hb => ?_) (qhC _) ?_ rfl rfl rfl (.inl rfl)
  ·show (w.heap.push _)[b]? = _
   rw [Array.getElem?_push, if_neg (by omega)]
  ·show (w.heap.push _)[w.heap.size]? = _
   rw [Array.getElem?_push, if_pos rfl]
variable {C C' C1 C2 : qa} {μ μ' μ1 : MMap} {H H' H1 H2 : AH} {w w' w1 : World} {P : Program}
theorem qau [Lent] {cfg : Cfg} (hc : CfgTy cfg) {cf : Orac} (hO : OracOk2 cfg cf) (hmx : cfg.P.follows .mixedOrders = true) {F : Fence} {rd : Option Nat} {f B k : Nat} : ∀ (c : Code) {fr : List AV} {H : AH} {r : Ex × List AV × AH}, evC cfg cf f rd k c fr H = some r →
  ∀ {C : qa} {μ : MMap} {w : World} {a : Act}, k ≤ H.length → RdOk rd F μ k → qc C μ fr a.tmps → Wld C μ H w → yp B μ H w a.defers → c.wpIn F 0 cfg.P (xL k B C μ H w r) a w := by
 intro c
 induction c with
 | skip =>
  intro fr H r he C μ w a hk hrd hf hw hm
  rw [evC.eq_def] at he; simp only at he; cases he
  exact wpIn_skip ⟨rfl, C, μ, hf, hw, Ext.refl hk, hm⟩
 | label l =>
  intro fr H r he C μ w a hk hrd hf hw hm
  rw [evC.eq_def] at he; simp only at he; cases he
  exact wpIn_label ⟨rfl, C, μ, hf, hw, Ext.refl hk, hm⟩
 | exit id =>
  intro fr H r he C μ w a hk hrd hf hw hm
  rw [evC.eq_def] at he; simp only at he; cases he
  exact wpIn_exit ⟨rfl, C, μ, hf, hw, Ext.refl hk, hm⟩
 | ret =>
  intro fr H r he C μ w a hk hrd hf hw hm
  rw [evC.eq_def] at he; simp only at he; cases he
  exact wpIn_ret ⟨rfl, C, μ, hf, hw, Ext.refl hk, hm⟩
 | goto l =>
  intro fr H r he
  rw [evC.eq_def] at he; simp only at he; cases he
 | refuse s =>
  intro fr H r he
  rw [evC.eq_def] at he; simp only at he; cases he
 | region id ops draw =>
  intro fr H r he C μ w a hk hrd hf hw hm
  rw [evC.eq_def] at he
  simp only at he
  have fin : ∀ (fr' : List AV) (H' : AH) C' μ' w' (a' : Act), qc C' μ' fr' a'.tmps → Wld C' μ' H' w' → Ext H.length C μ H w C' μ' H' w' → a'.defers = a.defers → xL k B C μ H w (.normal, fr', H') .normal a' w' :=
   fun fr' H' C' μ' w' a' g1 g2 g3 g4 => ⟨rfl, C', μ', g1, g2, g3.less hk, by rw [g4]; exact hm.ext g3⟩
  cases draw with
  | true =>
   simp only [if_true] at he
   split at he
   case isFalse => cases he
   rename_i hst
   obtain ⟨q, hq, he⟩ := qhB.1 he
   split at he
   case isFalse => cases he
   rename_i hdy
   obtain ⟨fps, fr', H'⟩ := q
   cases he
   exact qfo hc hO.calls hmx hrd.wide hst hq hdy hf hw (fin fr' H')
  | false =>
   simp only [qhJ, if_false] at he
   obtain ⟨q, hq, e⟩ := qhA.1 he
   obtain ⟨fr', H'⟩ := q
   cases e
   refine wpIn_region ?_
   have := zc hc hO.calls hrd.wide (Q := xL k B C μ H w (.normal, fr', H')) ops.toList 0 hq (fun i => by rw [Array.getElem?_toList, Nat.zero_add]) hf hw (fin fr' H')
   rw [List.range_eq_range']
   simpa using this
 | seq x y ihx ihy =>
  intro fr H r he C μ w a hk hrd hf hw hm
  rw [evC.eq_def] at he
  simp only at he
  obtain ⟨q, hq, he⟩ := qhB.1 he
  refine wpIn_seq (wpIn_mono (ihx hq hk hrd hf hw hm) fun e a1 w1 hp => ?_)
  cases hq1 : q.1 with
  | normal =>
   obtain ⟨h1, C1, μ1, h2, h3, h4, h5⟩ := hp
   rw [hq1] at h1 he
   subst h1
   refine wpIn_mono (ihy he h4.len (hrd.ext h4.mu (qhC _)) (xG h2) h3 h5) fun e' a2 w2 hp2 => hp2.mono h4 (qhC _)
  | exit id =>
   rw [hq1] at he
   cases he
   have : e = .exit id := by rw [hp.1, hq1]; rfl
   subst this
   exact ⟨rfl, hp.2⟩
  | goto l =>
   rw [hq1] at he
   cases he
   have : e = .goto l := by rw [hp.1, hq1]; rfl
   subst this
   exact ⟨rfl, hp.2⟩
  | ret =>
   rw [hq1] at he
   cases he
   have : e = .ret := by rw [hp.1, hq1]; rfl
   subst this
   exact ⟨rfl, hp.2⟩
 | cond c x y ihx ihy =>
  intro fr H r he C μ w a hk hrd hf hw hm
  rw [evC.eq_def] at he
  simp only at he
  split at he
  case h_2 => cases he
  rename_i t ht
  have hcr := yu hf c
  rw [ht] at hcr
  generalize hv : a.eval c = v at hcr
  cases hcr
  cases t with
  | true => exact wpIn_cond_true hv (ihx (by simpa using he) hk hrd hf hw hm)
  | false => exact wpIn_cond_false hv (ihy (by simpa using he) hk hrd hf hw hm)
 | block id x ih =>
  intro fr H r he C μ w a hk hrd hf hw hm
  rw [evC.eq_def] at he
  simp only at he
  obtain ⟨q, hq, he⟩ := qhB.1 he
  refine wpIn_block (wpIn_mono (ih hq hk hrd hf hw hm) fun e a1 w1 hp => ?_)
  cases hq1 : q.1 with
  | normal =>
   rw [hq1] at he
   cases he
   have : e = .normal := by rw [hp.1, hq1]; rfl
   subst this
   exact hp
  | exit id' =>
   rw [hq1] at he
   simp only at he
   have : e = .exit id' := by rw [hp.1, hq1]; rfl
   subst this
   simp only [Exit.inBlock]
   by_cases e : id' = id
   ·subst e
    rw [if_pos (Nat.beq_refl _)] at he
    cases he
    rw [if_pos rfl]
    exact ⟨rfl, hp.2⟩
   ·have : ¬ qhQ id' id = true := fun h => e (qhF h)
    rw [if_neg this] at he
    cases he
    rw [if_neg e]
    exact hp
  | goto l =>
   rw [hq1] at he
   cases he
   have : e = .goto l := by rw [hp.1, hq1]; rfl
   subst this
   exact hp
  | ret =>
   rw [hq1] at he
   cases he
   have : e = .ret := by rw [hp.1, hq1]; rfl
   subst this
   exact hp
 | loop x ih =>
  intro fr H r he C μ w a hk hrd hf hw hm
  rw [evC.eq_def] at he
  simp only at he
  obtain ⟨q, hq, e⟩ := qhA.1 he
  obtain ⟨n, hn⟩ := yJ hq
  obtain ⟨μ', g1, g2, g3⟩ := qdK hw hf (cfg.keepIn f (qh x)) (cfg.lift f (qh x)) k hk
  refine wpIn_mono (wpIn_loop_rounds n (qaW (rd := rd) (fun hq => ih hq) hk n hn g3.len (hrd.ext g3.mu (qhC _)) g2 g1 (hm.ext g3) g3)) fun e' a' w' hp => ?_
  obtain ⟨h1, C1, μ1, h2, h3, h4, h5⟩ := hp
  subst e
  exact ⟨h1, C1, μ1, xG h2, h3, h4, h5⟩
 | scope x ih =>
  intro fr H r he C μ w a hk hrd hf hw hm
  rw [evC.eq_def] at he
  simp only at he
  obtain ⟨q, hq, he⟩ := qhB.1 he
  have hqr : (∀ l, q.1 ≠ .goto l) ∧ q = r := by
   cases hq1 : q.1 with
   | goto l => rw [hq1] at he; cases he
   | normal => rw [hq1] at he; simp only [Option.some.injEq] at he; exact ⟨nofun, he⟩
   | exit id => rw [hq1] at he; simp only [Option.some.injEq] at he; exact ⟨nofun, he⟩
   | ret => rw [hq1] at he; simp only [Option.some.injEq] at he; exact ⟨nofun, he⟩
  obtain ⟨h1, rfl⟩ := hqr
  refine qd9 (ih hq hk hrd hf hw hm) fun l a1 w1 hp => ?_
  have := hp.1
  cases hq1 : q.1 with
  | goto l => exact h1 l hq1
  | _ => rw [hq1] at this; cases this
 | rangeFunc g ps assign body =>
  intro fr H r he C μ w a hk hrd hf hw hm
  rw [evC.eq_def] at he
  simp only at he
  obtain ⟨a1, a2, a3, a4⟩ := yj (cfg.lift f (qh body)) hw hf
  exact wpIn_mono (qbF hO he (Nat.le_trans hk a3) hrd a2 a1 (hm.ext (a4 k hk))) fun e a' w' hp => hp.mono (a4 k hk) (qhC _)
def zl (tmps : Array Value) : ResultVar → Sem Value
 | .tmp t => pure (tmps.getD t undef)
 | .cell a t => do loadVar t (← asAddr (tmps.getD a undef))
theorem yb [Lent] {cfg : Cfg} (hc : CfgTy cfg) {fr : List AV} {tmps : Array Value} (hf : qc C μ fr tmps) (hw : Wld C μ H w) : ∀ (rs : List ResultVar) {vs : List AV}, ve rs cfg.ty fr H = some vs →
  ∃ us : List Value, (rs.mapM (zl tmps)).run cfg.P w = .ok us w ∧ vs.length = us.length ∧
   ∀ (i : Nat) a v, vs[i]? = some a → us[i]? = some v → Rep C μ a v
 | [], vs, he => by
  simp only [ve] at he
  cases he
  exact ⟨[], by simp, rfl, fun i a v h => by simp at h⟩
 | .tmp t :: l, vs, he => by
  simp only [ve] at he
  obtain ⟨vs', hvs, e⟩ := qhA.1 he
  cases e
  obtain ⟨us, h1, h2, h3⟩ := yb hc hf hw l hvs
  refine ⟨tmps.getD t undef :: us, ?_, by simp [h2], fun i a v e1 e2 => ?_⟩
  ·simp only [List.mapM_cons, Sem.run_bind, zl, Sem.run_pure, Result.andThen_ok, h1]
  ·cases i with
   | zero => simp at e1 e2; subst e1; subst e2; simpa [opd, Act.eval] using yu (a := ⟨tmps, []⟩) hf (.tmp t)
   | succ i => exact h3 i a v (by simpa using e1) (by simpa using e2)
 | .cell a t :: l, vs, he => by
  simp only [ve] at he
  split at he
  case h_2 => cases he
  rename_i ti hti
  obtain ⟨x, hx, he⟩ := qhB.1 he
  obtain ⟨vs', hvs, e⟩ := qhA.1 he
  cases e
  obtain ⟨us, h1, h2, h3⟩ := yb hc hf hw l hvs
  have hr : Rep C μ (fr.getD a .junk) (tmps.getD a undef) := by simpa [opd, Act.eval] using yu (a := ⟨tmps, []⟩) hf (.tmp a)
  obtain ⟨ad, u, g1, g2, g3⟩ := qbO hw (hc.ty _ _ hti) hr hx
  refine ⟨u :: us, ?_, by simp [h2], fun i a v e1 e2 => ?_⟩
  ·have ga : (zl tmps (.cell a t)).run cfg.P w = .ok u w := by simp only [zl, g1, asAddr, Sem.run_bind, Sem.run_pure, Result.andThen_ok, g2]
   simp only [List.mapM_cons, Sem.run_bind, ga, Sem.run_pure, Result.andThen_ok, h1]
  ·cases i with
   | zero => simp at e1 e2; subst e1; subst e2; exact g3
   | succ i => exact h3 i a v (by simpa using e1) (by simpa using e2)
theorem qcT [Lent] {cfg : Cfg} (hc : CfgTy cfg) {fn : Func} {fr : List AV} {tmps : Array Value} (hf : qc C μ fr tmps) (hw : Wld C μ H w) {vs : List AV} (he : ve fn.results.toList cfg.ty fr H = some vs) :
  ∃ v, (results fn tmps).run cfg.P w = .ok v w ∧ Rep C μ (xy vs) v := by
 obtain ⟨us, h1, h2, h3⟩ := yb hc hf hw _ he
 refine ⟨if h : us.toArray.size = 1 then us.toArray[0] else .tuple us.toArray, ?_, ?_⟩
 ·have hr : results fn tmps = (fn.results.mapM (zl tmps) >>= fun vs => pure (if h : vs.size = 1 then vs[0] else .tuple vs)) := rfl
  rw [hr, Array.mapM_eq_mapM_toList]
  simp only [Sem.run_bind, Sem.run_map, Result.andThen_ok, Sem.run_pure, h1]
 ·cases us with
  | nil =>
   cases vs with
   | nil => exact .tup [] [] rfl (fun i a v h => by simp at h)
   | cons x l => simp at h2
  | cons u us =>
   cases vs with
   | nil => simp at h2
   | cons x l =>
    cases us with
    | nil =>
     cases l with
     | nil => simpa [xy] using h3 0 x u rfl rfl
     | cons y l => simp at h2
    | cons u' us =>
     cases l with
     | nil => simp at h2
     | cons y l =>
      have : xy (x :: y :: l) = .tup (x :: y :: l) := rfl
      rw [this, dif_neg (by simp)]
      exact .tup _ _ h2 h3
theorem qex {cfg : Cfg} {rs : List ResultVar} {q : Ex × List AV × AH} {r : AV} (h : yN cfg rs q = some (r, H')) : (q.1 = .normal ∨ q.1 = .ret) ∧ H' = q.2.2 ∧ ∃ vs, ve rs cfg.ty q.2.1 q.2.2 = some vs ∧ r = xy vs := by
 unfold yN at h
 split at h
 ·rename_i hq
  obtain ⟨vs, h1, e⟩ := qhA.1 h
  cases e
  exact ⟨.inl hq, rfl, vs, h1, rfl⟩
 ·rename_i hq
  obtain ⟨vs, h1, e⟩ := qhA.1 h
  cases e
  exact ⟨.inr hq, rfl, vs, h1, rfl⟩
 ·cases h
theorem qaj [Lent] {fn : Func} {tmps : Array Value} {R : Ending → World → Prop} {B k : Nat} {C0 : qa} {μ0 : MMap} {H0 : AH} {w0 : World} (hB : B = w0.heap.size)
  (hend : ∀ w', Wld C μ H w' → Ext k C0 μ0 H0 w0 C μ H w' → ∃ v, (results fn tmps).run P w' = .ok v w' ∧ R (.returned v) w') : ∀ (Ds : List Nat) {w : World}, Ds.Nodup → (∀ D ∈ Ds, B ≤ D ∧ w.heap[D]? = some (.deferred (some [])) ∧ ¬ Live H μ D) →
   Wld C μ H w → Ext k C0 μ0 H0 w0 C μ H w → LeavesInM Fence.wide 0 P fn tmps R (Ds.map mark) .returning w
 | [], w, _, _, hw, hx => hend w hw hx
 | D :: Ds, w, hnd, hD, hw, hx => by
  obtain ⟨d1, d2, d3⟩ := hD D (List.mem_cons_self ..)
  obtain ⟨hnm, hnd'⟩ := List.nodup_cons.1 hnd
  refine ⟨by simp, .inl ⟨D, _, rfl, run_takeDeferred d2, ?_⟩⟩
  have hne : ∀ b, b ≠ D → (w.putObj D (.deferred none)).heap[b]? = w.heap[b]? := fun b hb => World.putObj_heap_other hb
  refine qaj hB hend Ds hnd' (fun D' hD' => ?_) (hw.worldG (by simp) (fun b hb hor => hne b fun e => ?_)) ⟨hx.os, hx.tape, hx.output, by simpa using hx.size, hx.cl, hx.mu, fun b hb hnl => ?_, hx.len⟩
  ·obtain ⟨g1, g2, g3⟩ := hD D' (List.mem_cons_of_mem _ hD')
   exact ⟨g1, by rw [hne D' (fun e => hnm (by rw [← e]; exact hD'))]; exact g2, g3⟩
  ·subst e
   rcases hor with hl | ⟨o, hc⟩ | ⟨o, hc⟩
   ·exact d3 hl
   ·cases hco : C b o with
    | none => exact hc hco
    | some v =>
     have := hw.cl b o v hco
     simp only [World.cell?, d2] at this
     cases this
   ·cases hco : Lent.l b o with
    | none => exact hc hco
    | some v =>
     have := (hw.lnt.1 b o v hco).1
     simp only [World.cell?, d2] at this
     cases this
  ·obtain ⟨f1, f2, f3⟩ := hx.fr b hb hnl
   exact ⟨by rw [hne b (by omega)]; exact f1, f2, f3⟩
variable {C C' C1 C2 : qa} {μ μ' μ1 : MMap} {H H' H1 H2 : AH} {w w' w1 : World} {P : Program}
structure CfgOk [Lent] (cfg : Cfg) : Prop where
 ty : CfgTy cfg
 mixed : cfg.P.follows .mixedOrders = true
 named : ∀ f fn, cfg.known f = true → cfg.P.funcs[f]? = some fn → (fn.name == "runtime.NumGoroutine") = false
 ext : ∀ f s, cfg.ext f = some s → ∀ args H r H', s args H = some (r, H') → ∀ C μ w vs, qc C μ args vs → Wld C μ H w → qr cfg.P (callFunc f vs) w (qu C μ H w r H')
theorem qbx {f : FuncId} {fn : Func} {c : Code} (hf : P.funcs[f]? = some fn) (hn : (fn.name == "runtime.NumGoroutine") = false) (hb : fn.body = some c) (vs : Array Value) (w : World) : (callFunc f vs).run P w = .ok (.enter f vs) w := by
 unfold callFunc
 simp only [Sem.run_bind, run_program, Result.andThen_ok, hf, hn, hb, Option.isNone_some, qhJ, if_false]
 simp
theorem qgR [Lent] {args : List AV} {vs : Array Value} (h : qc C μ args vs) (n : Nat) : qc C μ (args ++ qhN (n - args.length) .junk) (vs ++ Array.replicate (n - vs.size) undef) := by
 refine ⟨by simp [h.1], fun i a v e1 e2 => ?_⟩
 rcases Nat.lt_or_ge i args.length with hlt | hge
 ·rw [qhH hlt] at e1
  rw [Array.getElem?_append_left (by rw [← h.1]; exact hlt)] at e2
  exact h.2 i a v e1 e2
 ·rw [qhI hge] at e1
  have := qhL e1
  rw [List.mem_replicate] at this
  rw [this.2]
  exact .junk v
theorem zR [Lent] : ∀ (ps : List Tmp) {args : List AV} {vs : List Value} {fr : List AV} {tmps : Array Value}, (∀ (i : Nat) a v, args[i]? = some a → vs[i]? = some v → Rep C μ a v) → args.length = vs.length → qc C μ fr tmps →
  qc C μ (vg fr ps args) ((ps.zip vs).foldl (fun t (p, v) => t.setIfInBounds p v) tmps)
 | [], args, vs, fr, tmps, _, _, hf => by cases args <;> simpa [vg] using hf
 | p :: ps, [], vs, fr, tmps, _, hl, hf => by
  have : vs = [] := List.eq_nil_of_length_eq_zero (by simpa using hl.symm)
  subst this
  simpa [vg] using hf
 | p :: ps, x :: args, [], fr, tmps, _, hl, hf => by simp at hl
 | p :: ps, x :: args, v :: vs, fr, tmps, h, hl, hf => by
  rw [vg, List.zip_cons_cons, List.foldl_cons]
  refine zR ps (fun i a u e1 e2 => h (i + 1) a u (by simpa using e1) (by simpa using e2)) (by simpa using hl) ?_
  exact zm (a := ⟨tmps, []⟩) (dst := some p) hf (h 0 x v rfl rfl)
theorem qfZ [Lent] {cfg : Cfg} (ok : CfgOk cfg) {cf : Orac} (hO : OracOk2 cfg cf) {f : Nat} {fn : Func} {c : Code} {args : List AV} {vs : Array Value} {r : AV} (hf : cfg.P.funcs[f]? = some fn) (hb : fn.body = some c)
  (he : ((evC cfg cf f none H.length c (args ++ qhN (fn.ntmps - args.length) .junk) H).bind fun r => yN cfg fn.results.toList (r.1, qT (cfg.lift f 0) r.2.1 r.2.2)) = some (r, H')) (ha : qc C μ args vs) (hw : Wld C μ H w) :
  CallsIn Fence.wide 0 cfg.P f vs w fun e w' => ∃ v, e = .returned v ∧ qu C μ H w r H' v w' := by
 obtain ⟨q, hq, he⟩ := qhB.1 he
 obtain ⟨h1, rfl, us, h3, rfl⟩ := qex he
 refine callsIn_of_wp_marks hf hb trivial (wpIn_mono (qau ok.ty hO ok.mixed (B := w.heap.size) c hq (F := Fence.wide) (qhC _) rfl (qgR ha fn.ntmps) hw ⟨qhC _, [], rfl, List.nodup_nil, fun D h => by cases h⟩) fun e a' w' hp => ?_)
 obtain ⟨e1, C', μ', e2, e3, e4, hmk⟩ := hp
 obtain ⟨l1, l2, l3, l4⟩ := yj (cfg.lift f 0) e3 e2
 obtain ⟨hB, Ds, m1, m2, m3⟩ := hmk.ext (l4 _ (qhC _))
 replace e2 := l2
 replace e4 := e4.trans (l4 _ e4.len) (qhC _)
 replace e3 := l1
 have hl : LeavesInM Fence.wide 0 cfg.P fn a'.tmps (fun e w' => ∃ v, e = .returned v ∧ qu C μ H w (xy us) (qT (cfg.lift f 0) q.2.1 q.2.2).2 v w') a'.defers .returning w' := by
  rw [m1]
  refine qaj rfl (fun w2 g1 g2 => ?_) Ds m2 m3 e3 e4
  obtain ⟨v, r1, r2⟩ := qcT ok.ty e2 g1 h3
  exact ⟨v, r1, v, rfl, C', μ', r2, g1, g2⟩
 rcases h1 with h1 | h1
 ·rw [h1] at e1
  subst e1
  exact hl
 ·rw [h1] at e1
  subst e1
  exact hl
theorem qeg [Lent] {cfg : Cfg} (ok : CfgOk cfg) {cf : Orac} (hO : OracOk2 cfg cf) {id : Nat} {args : List AV} {vs : Array Value} {r : AV} (he : vE cfg cf (.y id) args H = some (r, H')) (ha : qc C μ args vs) (hw : Wld C μ H w) {m : MI} (hm : μ id = some m) :
  qr cfg.P (Instr.yield m.block vs) w (qu C μ H w r H') := by
 unfold vE at he
 simp only at he
 split at he
 case h_2 => cases he
 rename_i f fr ps assign body pend hid
 split at he
 case isFalse => cases he
 rename_i hlen
 obtain ⟨q1, hq1, he⟩ := qhB.1 he
 split at he
 case h_2 => cases he
 rename_i f1 fr1 ps1 assign1 body1 pend1 hx1 hid1
 obtain ⟨q2, hq2, he⟩ := qhB.1 he
 split at he
 case h_2 => cases he
 rename_i f2 fr2 ps2 assign2 body2 pend2 st2 hid2
 obtain ⟨i2, i3, rc, i4, i5, i6, i7, i8, i9, i10⟩ := hw.liveM hid rfl hm
 have hidl : id < H.length := (qhz.1 hid).1
 have hvs : vs.size = rc.params.size := by rw [← ha.1, hlen, ← i7]; simp
 unfold qr
 rw [run_yield i4 hvs]
 simp only
 rw [i8, i9]
 have htm : ((rc.params.zip vs).foldl (fun tmps (t, a) => tmps.setIfInBounds t a) rc.tmps) = ((ps.zip vs.toList).foldl (fun t (p, v) => t.setIfInBounds p v) rc.tmps) := by
  rw [← Array.foldl_toList, Array.toList_zip, i7]
 have hfr0 : qc C μ (vg fr ps args) ((rc.params.zip vs).foldl (fun tmps (t, a) => tmps.setIfInBounds t a) rc.tmps) := by
  rw [htm]
  exact zR ps (fun i a v e1 e2 => ha.2 i a v e1 (by rw [← Array.getElem?_toList]; exact e2)) (by rw [ha.1]; simp) i10
 have hrd : RdOk (some id) (Fence.wide.inRound m.block) μ H.length := ⟨hidl, m, hm, rfl⟩
 refine roundIn_of_wpIn trivial (wpIn_mono (qau ok.ty hO ok.mixed (B := w.heap.size) assign hq1 (a := ⟨_, []⟩) (qhC _) hrd hfr0 hw ⟨qhC _, [], rfl, List.nodup_nil, fun D h => by cases h⟩) fun e a1 w1 hp => ?_)
 obtain ⟨e1, C1, μ1, p1, p2, p3, p4⟩ := hp
 rw [hx1] at e1
 subst e1
 obtain ⟨m1, hm1, hb1, -⟩ := p3.mu id m hidl hm
 obtain ⟨j2, j3, rc1, j4, j5, j6, j7, j8, j9, j10⟩ := p2.liveM hid1 rfl hm1
 rw [hb1] at j2 j3 j4
 have hidl1 : id < q1.2.2.length := (qhz.1 hid1).1
 refine ⟨_, run_beginRound j4 j5, ?_⟩
 have hw2 : Wld C1 μ1 (q1.2.2.set id (.loop f1 fr1 ps1 assign1 body1 pend1 .busy)) (w1.putObj m.block (.loop { rc1 with state := .busy })) :=
  p2.setBlk hid1 rfl rfl hm1 (by simp) (fun b hb => World.putObj_heap_other (hb1 ▸ hb)) ⟨{ rc1 with state := .busy }, by rw [hb1]; exact World.putObj_heap_same j2, rfl, j6, j7, j8, j9, j10⟩
 have hx2 : Ext q1.2.2.length C1 μ1 q1.2.2 w1 C1 μ1 (q1.2.2.set id (.loop f1 fr1 ps1 assign1 body1 pend1 .busy)) (w1.putObj m.block (.loop { rc1 with state := .busy })) :=
  Ext.setBlk p2 hid1 rfl hm1 (by simp) (fun b hb => World.putObj_heap_other (hb1 ▸ hb)) rfl rfl rfl (qhC _)
 have hx12 := p3.trans hx2 p3.len
 have hrd2 : RdOk (some id) (Fence.wide.inRound m.block) μ1 H.length := ⟨hidl, m1, hm1, by rw [hb1]⟩
 refine wpIn_mono (qau ok.ty hO ok.mixed (B := w.heap.size) body hq2 (by simpa using p3.len) hrd2 p1 hw2 (p4.ext hx2)) fun e a2 w3 hp => ?_
 obtain ⟨e2, C3, μ3, g1, g2, g3, g4⟩ := hp
 obtain ⟨m3, hm3, hb3, -⟩ := g3.mu id m1 hidl hm1
 rw [hb1] at hb3
 obtain ⟨k2, k3, rc3, k4, k5, k6, k7, k8, k9, k10⟩ := g2.liveM hid2 rfl hm3
 rw [hb3] at k2 k3 k4
 have fin : ∀ (jump : Option Code) , ∃ v w4, (Instr.endRound m.block jump).run cfg.P w3 = .ok v w4 ∧
   qu C μ H w (.bool jump.isNone) (q2.2.2.set id (.loop f2 fr2 ps2 assign2 body2 jump (if jump.isNone then .ready else .done))) v w4 := by
  intro jump
  refine ⟨_, _, run_endRound jump k4, C3, μ3, .bool _, ?_, ?_⟩
  ·exact g2.setBlk hid2 rfl rfl hm3 (by simp) (fun b hb => World.putObj_heap_other (hb3 ▸ hb)) ⟨{ rc3 with state := if jump.isNone then .ready else .done, pending := jump }, by rw [hb3]; exact World.putObj_heap_same k2, rfl, rfl, k7, k8, k9, k10⟩
  ·have := Ext.setBlk (k := q2.2.2.length) (blk' := .loop f2 fr2 ps2 assign2 body2 jump (if jump.isNone then .ready else .done)) g2 hid2 rfl hm3 (w' := w3.putObj m.block (.loop { rc3 with state := if jump.isNone then .ready else .done, pending := jump })) (by simp) (fun b hb => World.putObj_heap_other (hb3 ▸ hb)) rfl rfl rfl (qhC _)
   exact (hx12.trans g3 (qhC _)).trans this (hx12.trans g3 (qhC _)).len
 split at he
 ·rename_i hx
  cases he
  rw [hx] at e2; subst e2
  obtain ⟨v, w4, r1, r2⟩ := fin none
  exact ⟨v, w4, r1, v, rfl, r2⟩
 ·rename_i hx
  cases he
  rw [hx] at e2; subst e2
  obtain ⟨v, w4, r1, r2⟩ := fin (some .ret)
  exact ⟨v, w4, r1, v, rfl, r2⟩
 ·rename_i x hx
  cases he
  rw [hx] at e2; subst e2
  obtain ⟨v, w4, r1, r2⟩ := fin (some (.exit x))
  exact ⟨v, w4, r1, v, rfl, r2⟩
 ·cases he
theorem qdR [Lent] {cfg : Cfg} (ok : CfgOk cfg) {cf : Orac} (hO : OracOk2 cfg cf) : OracOk2 cfg (vE cfg cf) := by
 have key : ∀ f args H r, vE cfg cf (.f f) args H = some r → cfg.ext f = none → ∃ fn c, cfg.known f = true ∧ cfg.P.funcs[f]? = some fn ∧ fn.body = some c ∧ ((evC cfg cf f none H.length c (args ++ qhN (fn.ntmps - args.length) .junk) H).bind fun r => yN cfg fn.results.toList (r.1, qT (cfg.lift f 0) r.2.1 r.2.2)) = some r := by
  intro f args H r he hx
  unfold vE at he
  simp only [hx] at he
  split at he
  case isFalse => cases he
  rename_i hk
  split at he
  case h_2 => cases he
  rename_i fn hf
  split at he
  case h_2 => cases he
  rename_i c hb
  exact ⟨fn, c, hk, hf, hb, he⟩
 have enters : ∀ h args H r, vE cfg cf (.f h) args H = some r → cfg.ext h = none → ∀ vs w, (callFunc h vs).run cfg.P w = .ok (.enter h vs) w := by
  intro h args H r he hx vs w
  obtain ⟨fn, c, h1, h2, h3, _⟩ := key h args H r he hx
  exact qbx h2 (ok.named _ _ h1 h2) h3 vs w
 refine ⟨fun t args H r H' he C μ w vs s ha hw ht => ?_, enters⟩
 cases t with
 | f f =>
  have hs : s = callFunc f vs := ht
  subst hs
  cases hx : cfg.ext f with
  | some sp =>
   unfold vE at he
   simp only [hx] at he
   exact ok.ext f sp hx args H r H' he C μ w vs ha hw
  | none =>
   unfold qr
   rw [enters _ _ _ _ he hx]
   obtain ⟨fn, c, _, h2, h3, h4⟩ := key _ _ _ _ he hx
   exact qfZ ok hO h2 h3 h4 ha hw
 | y id =>
  obtain ⟨m, hm, hs⟩ := ht
  subst hs
  exact qeg ok hO he ha hw hm
theorem qas [Lent] {cfg : Cfg} (ok : CfgOk cfg) : ∀ n, OracOk2 cfg (evF cfg n)
 | 0 => ⟨fun t args H r H' he => (by cases he), fun h args H r he => (by cases he)⟩
 | n + 1 => qdR ok (qas ok n)
theorem qgE [Lent] {cfg : Cfg} (ok : CfgOk cfg) : OracOk2 cfg (EV cfg) := by
 refine ⟨fun t args H r H' he => ?_, fun h args H r he => ?_⟩
 ·obtain ⟨n, hn⟩ := yJ he
  exact (qas ok n).calls t args H r H' hn
 ·obtain ⟨n, hn⟩ := yJ he
  exact (qas ok n).enters h args H r hn
theorem qgF [Lent] {cfg : Cfg} (ok : CfgOk cfg) {f : FuncId} {args : List AV} {vs : Array Value} {r : AV} (hx : cfg.ext f = none) (he : EV cfg (.f f) args H = some (r, H')) (ha : qc C μ args vs) (hw : Wld C μ H w) :
  Calls cfg.P f vs w fun e w' => ∃ v, e = .returned v ∧ qu C μ H w r H' v w' := by
 have hO := qgE ok
 have h := hO.calls _ _ _ _ _ he C μ w vs _ ha hw rfl
 unfold qr at h
 rw [hO.enters _ _ _ _ he hx] at h
 exact callsIn_wide.1 h
section
variable {α β : Type}
def EvG (cf : Nat → Orac) (c : Orac) (G : Orac → Option α) : Prop := ∀ r, G c = some r → ∃ n, ∀ m, n ≤ m → G (cf m) = some r
def Ev (cf : Nat → Orac) (c : Orac) : Prop := ∀ t a H, EvG cf c (fun o => o t a H)
variable {cf : Nat → Orac} {c : Orac}
theorem EvG.const (x : Option α) : EvG cf c (fun _ => x) := fun _r h => ⟨0, fun _ _ => h⟩
theorem EvG.bind {X : Orac → Option α} {K : Orac → α → Option β} (hX : EvG cf c X) (hK : ∀ a, EvG cf c (fun o => K o a)) : EvG cf c (fun o => (X o).bind (K o)) := by
 intro r h
 obtain ⟨a, h1, h2⟩ := qhB.1 h
 obtain ⟨n, hn⟩ := hX a h1
 obtain ⟨n', hn'⟩ := hK a r h2
 exact ⟨max n n', fun m hm => by
  show (X (cf m)).bind (K (cf m)) = some r
  rw [hn m (by omega)]
  exact hn' m (by omega)⟩
theorem EvG.map {X : Orac → Option α} (f : α → β) (hX : EvG cf c X) : EvG cf c (fun o => (X o).map f) := by
 intro r h
 obtain ⟨a, h1, h2⟩ := qhA.1 h
 obtain ⟨n, hn⟩ := hX a h1
 exact ⟨n, fun m hm => by
  show (X (cf m)).map f = some r
  rw [hn m hm, ← h2]; rfl⟩
theorem EvG.ite {p : Prop} [Decidable p] {X Y : Orac → Option α} (hX : EvG cf c X) (hY : EvG cf c Y) : EvG cf c (fun o => if p then X o else Y o) := by
 by_cases h : p
 ·simp only [if_pos h]; exact hX
 ·simp only [if_neg h]; exact hY
theorem zI (h : Ev cf c) (f : Nat) : ∀ l : List AV, EvG cf c (fun o => xz o f l)
 | [] => EvG.const _
 | a :: l => by
  simp only [xz]
  exact (h _ _ _).bind fun r => (EvG.const _).bind fun _ => zI h f l
theorem qdT (h : Ev cf c) (cfg : Cfg) (nid : Option Nat) (t : Tgt) (args : List AV) (H : AH) : EvG cf c (fun o => qG cfg o nid t args H) := by
 cases t with
 | y id => exact (h _ _ _).bind fun r => EvG.const _
 | f f =>
  simp only [qG]
  cases cfg.mode f with
  | scal => exact EvG.ite ((h _ _ _).bind fun r => EvG.const _) (EvG.const _)
  | pfrz => exact EvG.ite ((h _ _ _).bind fun r => EvG.const _) (EvG.const _)
  | nfrz => exact EvG.ite ((h _ _ _).bind fun r => EvG.const _) (EvG.const _)
  | wfrz => exact EvG.ite ((h _ _ _).bind fun r => EvG.const _) (EvG.const _)
  | pown => exact EvG.ite ((h _ _ _).bind fun r => EvG.const _) (EvG.const _)
  | inpl =>
   cases qi 0 args with
   | nil => exact EvG.ite ((h _ _ _).bind fun r => EvG.const _) (EvG.const _)
   | cons id l =>
    refine EvG.ite ?_ (EvG.const _)
    cases hb : H[id]? with
    | none => exact EvG.const _
    | some b =>
     cases b with
     | rows d sz rs => exact EvG.ite ((h _ _ _).bind fun r => EvG.const _) (EvG.const _)
     | _ => exact EvG.const _
  | inpf =>
   cases qi 0 args with
   | nil => exact EvG.const _
   | cons id l =>
    refine EvG.ite ?_ (EvG.const _)
    cases hb : H[id]? with
    | none => exact EvG.const _
    | some b =>
     cases b with
     | rows d sz rs => exact EvG.ite ((h _ _ _).bind fun r => EvG.const _) (EvG.const _)
     | _ => exact EvG.const _
  | slf =>
   cases qi 0 args with
   | nil => exact EvG.const _
   | cons id l =>
    refine EvG.ite ?_ (EvG.const _)
    cases hb : H[id]? with
    | none => exact EvG.const _
    | some b =>
     cases b with
     | rows d sz rs => exact EvG.ite ((h _ _ _).bind fun r => EvG.const _) (EvG.const _)
     | _ => exact EvG.const _
  | bld =>
   cases qi 0 args with
   | nil => exact EvG.const _
   | cons id l =>
    refine EvG.ite ?_ (EvG.const _)
    cases hb : H[id]? with
    | none => exact EvG.const _
    | some b =>
     cases b with
     | bld T e s => exact (h _ _ _).bind fun r => EvG.const _
     | _ => exact EvG.const _
  | imp => exact (h _ _ _).bind fun r => EvG.const _
  | ifrz => exact (h _ _ _).bind fun r => EvG.const _
  | sub => exact (EvG.const _).bind fun s => (h _ _ _).bind fun r => EvG.const _
  | rgn => exact EvG.ite ((h _ _ _).bind fun r => EvG.const _) (EvG.const _)
  | over =>
   dsimp only
   rcases args with _ | ⟨a, _ | ⟨b, l⟩⟩
   ·exact EvG.const _
   ·dsimp only
    cases qi 0 a.alts with
    | nil => exact EvG.const _
    | cons id l =>
     refine EvG.ite ?_ (EvG.const _)
     cases hb : H[id]? with
     | none => exact EvG.const _
     | some b =>
      cases b with
      | reg => exact (zI h _ _).map _
      | spl => exact (zI h _ _).map _
      | _ => exact EvG.const _
   ·exact EvG.const _
theorem qcM (h : Ev cf c) (cfg : Cfg) (frz : Bool) (nid : Option Nat) (o : Oper) (x : Operand → AV) (H : AH) : EvG cf c (fun q => qq cfg q frz nid o x H) := by
 have core : ∀ (x : Operand → AV) (H : AH), EvG cf c (fun q => match o.op with
    | .call cl =>
     match cl.callee with
     | .value f => (xb (x f) (cl.args.toList.map x)).bind fun t => qG cfg q nid t.1 t.2 H
     | _ => evOp cfg nid o.op o.type x H
    | _ => evOp cfg nid o.op o.type x H) := by
  intro x H
  split
  ·split
   ·exact (EvG.const _).bind fun t => qdT h cfg nid _ _ _
   ·exact EvG.const _
  ·exact EvG.const _
 unfold qq
 cases frz with
 | true => simp only [if_true]; exact core _ _
 | false => simp only [qhJ, if_false]; exact core _ _
theorem qbe (h : Ev cf c) (cfg : Cfg) (f rid : Nat) (ops : Array Oper) : ∀ (l : List Oper) (k : Nat) (fr : List AV) (H : AH), EvG cf c (fun q => xW cfg q f rid ops k l fr H)
 | [], k, fr, H => EvG.const _
 | o :: l, k, fr, H => by
  simp only [xW]
  refine (EvG.const _).bind fun b => EvG.ite ((qcM h cfg _ _ _ _ _).bind fun r => qbe h cfg f rid ops l _ _ _) (qbe h cfg f rid ops l _ _ _)
theorem qat (h : Ev cf c) (cfg : Cfg) (f rid : Nat) (ops : Array Oper) : ∀ (l : List Oper) (k at_ : Nat) (fr : List AV) (H : AH), EvG cf c (fun q => vL cfg q f rid ops k at_ l fr H)
 | [], k, at_, fr, H => EvG.const _
 | o :: l, k, at_, fr, H => by
  simp only [vL]
  refine (EvG.const _).bind fun b => EvG.ite ((qcM h cfg _ _ _ _ _).bind fun r => (qat h cfg f rid ops l _ _ _ _).map _) ((qat h cfg f rid ops l _ _ _ _).map _)
theorem qbN {k : Nat} {ts : Option (List Tmp)} {ls : List (Tmp × Nat)} {body : Den} : ∀ {n : Nat} {p : List AV × AH} {r : Ex × List AV × AH}, xc k ts ls body n p = some r → xc k ts ls body (n + 1) p = some r
 | 0, _, _, h => by cases h
 | n + 1, p, r, h => by
  rw [xc] at h ⊢
  obtain ⟨q, h1, h2⟩ := qhB.1 h
  rw [h1]
  simp only [qhP]
  cases hq : q.1 with
  | normal =>
   rw [hq] at h2
   exact qbN h2
  | exit id => rw [hq] at h2; exact h2
  | goto l => rw [hq] at h2; exact h2
  | ret => rw [hq] at h2; exact h2
theorem qfS {g : Nat → Option α} (hs : ∀ n r, g n = some r → g (n + 1) = some r) {n : Nat} {r : α} (h : g n = some r) : lim g = some r := by
 have up : ∀ {n : Nat} {r : α}, g n = some r → ∀ d, g (n + d) = some r := by
  intro n r h d
  induction d with
  | zero => exact h
  | succ d ih => exact hs _ _ ih
 have he : ∃ (n : Nat) (r : α), g n = some r := ⟨n, r, h⟩
 unfold lim
 rw [dif_pos he]
 have hc := Classical.choose_spec (Classical.choose_spec he)
 have e1 := up h (Classical.choose he)
 have e2 := up hc n
 rw [Nat.add_comm] at e2
 rw [e1] at e2
 exact e2.symm
theorem qeP {k : Nat} {ts : Option (List Tmp)} {ls : List (Tmp × Nat)} {body : Den} {n : Nat} {p : List AV × AH} {r : Ex × List AV × AH} (h : xc k ts ls body n p = some r) : LOOP k ts ls body p = some r :=
 qfS (g := fun n => xc k ts ls body n p) (fun _ _ h => qbN h) h
theorem qdF {k : Nat} {ts : Option (List Tmp)} {ls : List (Tmp × Nat)} {body : Orac → Den} (hb : ∀ fr H, EvG cf c (fun q => body q fr H)) : ∀ (n : Nat) (p : List AV × AH), EvG cf c (fun q => xc k ts ls (body q) n p)
 | 0, _ => EvG.const _
 | n + 1, p => by
  simp only [xc]
  refine (hb _ _).bind fun r => ?_
  cases r.1 with
  | normal => exact qdF hb n _
  | exit id => exact EvG.const _
  | goto l => exact EvG.const _
  | ret => exact EvG.const _
theorem qg3 {k : Nat} {ts : Option (List Tmp)} {ls : List (Tmp × Nat)} {body : Orac → Den} (hb : ∀ fr H, EvG cf c (fun q => body q fr H)) (p : List AV × AH) : EvG cf c (fun q => LOOP k ts ls (body q) p) := by
 intro r h
 obtain ⟨n, hn⟩ := yJ h
 obtain ⟨m, hm⟩ := qdF hb n p r hn
 exact ⟨m, fun i hi => qeP (hm i hi)⟩
theorem qdQ (h : Ev cf c) (cfg : Cfg) (f : Nat) (rd : Option Nat) (k : Nat) : ∀ (cd : Code) (fr : List AV) (H : AH), EvG cf c (fun q => evC cfg q f rd k cd fr H) := by
 intro cd
 induction cd with
 | skip => intro fr H; simp only [evC]; exact EvG.const _
 | label l => intro fr H; simp only [evC]; exact EvG.const _
 | exit id => intro fr H; simp only [evC]; exact EvG.const _
 | ret => intro fr H; simp only [evC]; exact EvG.const _
 | goto l => intro fr H; simp only [evC]; exact EvG.const _
 | refuse s => intro fr H; simp only [evC]; exact EvG.const _
 | region id ops draw =>
  intro fr H
  simp only [evC]
  cases draw with
  | true => simp only [if_true]; exact EvG.ite ((qat h cfg f id ops _ _ _ _ _).bind fun q => EvG.const _) (EvG.const _)
  | false => simp only [qhJ, if_false]; exact (qbe h cfg f id ops _ _ _ _).map _
 | seq x y ihx ihy =>
  intro fr H
  simp only [evC]
  refine (ihx _ _).bind fun r => ?_
  cases r.1 with
  | normal => exact ihy _ _
  | exit id => exact EvG.const _
  | goto l => exact EvG.const _
  | ret => exact EvG.const _
 | cond cnd x y ihx ihy =>
  intro fr H
  simp only [evC]
  split
  ·exact EvG.ite (ihx _ _) (ihy _ _)
  ·exact EvG.const _
 | block id x ih =>
  intro fr H
  simp only [evC]
  exact (ih _ _).bind fun r => EvG.const _
 | loop x ih =>
  intro fr H
  simp only [evC]
  exact (qg3 ih _).map _
 | scope x ih =>
  intro fr H
  simp only [evC]
  exact (ih _ _).bind fun r => EvG.const _
 | rangeFunc g ps assign body =>
  intro fr H
  simp only [evC, xP]
  refine EvG.ite ?_ (EvG.const _)
  split
  ·exact EvG.ite (EvG.const _) ((h _ _ _).bind fun r => EvG.const _)
  ·exact EvG.const _
theorem qcN (h : Ev cf c) (cfg : Cfg) (t : Tgt) (args : List AV) (H : AH) : EvG cf c (fun q => vE cfg q t args H) := by
 unfold vE
 cases t with
 | f f =>
  simp only
  split
  ·exact EvG.const _
  ·refine EvG.ite ?_ (EvG.const _)
   split
   ·split
    ·exact (qdQ h cfg f none _ _ _ _).bind fun r => EvG.const _
    ·exact EvG.const _
   ·exact EvG.const _
 | y id =>
  simp only
  split
  ·refine EvG.ite ((qdQ h cfg _ _ _ _ _ _).bind fun r => ?_) (EvG.const _)
   split
   ·exact (qdQ h cfg _ _ _ _ _ _).bind fun q => EvG.const _
   ·exact EvG.const _
  ·exact EvG.const _
end
theorem qbf (cfg : Cfg) : ∀ (n : Nat) (t : Tgt) (a : List AV) (H : AH) (r : AV × AH), evF cfg n t a H = some r → evF cfg (n + 1) t a H = some r
 | 0, t, a, H, r, h => by cases h
 | n + 1, t, a, H, r, h => by
  have hev : Ev (fun _ => evF cfg (n + 1)) (evF cfg n) := fun t a H r h => ⟨0, fun _ _ => qbf cfg n t a H r h⟩
  obtain ⟨m, hm⟩ := qcN hev cfg t a H r h
  exact hm m (qhC _)
theorem qhy (cfg : Cfg) : Ev (evF cfg) (EV cfg) := by
 intro t a H r h
 obtain ⟨n, hn⟩ := yJ h
 refine ⟨n, fun m hm => ?_⟩
 obtain ⟨d, rfl⟩ := Nat.exists_eq_add_of_le hm
 induction d with
 | zero => exact hn
 | succ d ih => exact qbf cfg _ t a H r (ih (by omega))
theorem qhx {cfg : Cfg} {t : Tgt} {a : List AV} {H : AH} {r : AV × AH} (h : vE cfg (EV cfg) t a H = some r) : EV cfg t a H = some r := by
 obtain ⟨n, hn⟩ := qcN (qhy cfg) cfg t a H r h
 exact qfS (g := fun n => evF cfg n t a H) (fun n r h => qbf cfg n t a H r h) (n := n + 1) (hn n (qhC _))
variable {α : Type}
inductive FK where
 | int (k : IntKind)
 | bool
 | str
 | sl
 | any
def zq (a b : IntKind) : Bool := decide (a = b)
def kInt (kd : IntKind) (v : AV) (k : Int → Option α) : Option α :=
 match v with
 | .int k' n => cond (zq k' kd) (k n) none
 | _ => none
def qhv (v : AV) (k : Bool → Option α) : Option α :=
 match v with
 | .bool b => k b
 | _ => none
def kStr (v : AV) (k : List UInt8 → Option α) : Option α :=
 match v with
 | .str s => k s
 | _ => none
def kSl (v : AV) (k : List (List AV) → Option α) : Option α :=
 match v with
 | .sl rows => k rows
 | _ => none
def kAgg (v : AV) (k : List AV → Option α) : Option α :=
 match v with
 | .agg cs => k cs
 | _ => none
def kOpt {β : Type} (o : Option β) (k : β → Option α) : Option α :=
 match o with
 | some b => k b
 | none => none
def qhu (l : List AV) (k : AV → List AV → Option α) : Option α :=
 match l with
 | c :: cs => k c cs
 | [] => none
def kNil (l : List AV) (x : Option α) : Option α :=
 match l with
 | [] => x
 | _ => none
def qht (a b : Int) : Bool := decide (a ≤ b)
def qhs (a b : Int) : Bool := decide (a < b)
inductive OV where
 | nil
 | own (sz : Nat) (rs : List (List AV)) (off len : Nat)
def EVs (cf : Orac) (f : Nat) (args : List AV) : Option AV := (cf (.f f) args []).map fun r => r.1
def EVf (cf : Orac) (f : Nat) (args : List AV) : Option AV := (cf (.f f) args []).map fun r => (r.1.frz r.1.msIds r.2).fg
def kOwn (o : OV) (x : Option α) (k : Nat → List (List AV) → Nat → Nat → Option α) : Option α :=
 match o with
 | .nil => x
 | .own sz rs off len => k sz rs off len
inductive MV where
 | unit
 | nil
 | sl (off len : Nat)
 | int (k : IntKind) (n : Int)
 | bool (b : Bool)
def kMSl (v : MV) (x : Option α) (k : Nat → Nat → Option α) : Option α :=
 match v with
 | .nil => x
 | .sl off len => k off len
 | _ => none
def qhd (v : MV) (x : Option α) : Option α :=
 match v with
 | .unit => x
 | _ => none
def qgI (kd : IntKind) (v : MV) (k : Int → Option α) : Option α :=
 match v with
 | .int q n => cond (zq q kd) (k n) none
 | _ => none
def qhe (v : MV) (k : Bool → Option α) : Option α :=
 match v with
 | .bool b => k b
 | _ => none
def known (fr : List AV) (c : Operand) (b : Bool) : List AV :=
 match c with
 | .tmp d => fr.set d (.bool b)
 | _ => fr
inductive Ko where
 | seq (c : Code)
 | block (id : Nat)
 | scope
variable {α : Type} {r : α} {H : AH}
theorem qP {b : Bool} {x : Option α} (h : cond b x none = some r) : b = true ∧ x = some r := by cases b <;> simp_all
variable {α : Type}
def qf6 (fn : Func) : Code := match fn.body with | some c => c | none => .skip
def sub : Code → List Nat → Code
 | c, [] => c
 | .seq a b, i :: l => match i with | 0 => sub a l | _ => sub b l
 | .cond _ a b, i :: l => match i with | 0 => sub a l | _ => sub b l
 | .block _ a, _ :: l => sub a l
 | .loop a, _ :: l => sub a l
 | .scope a, _ :: l => sub a l
 | .rangeFunc _ _ a b, i :: l => match i with | 0 => sub a l | _ => sub b l
 | c, _ => c
class InlOk (cfg : Cfg) : Prop where
 ok : ∀ f fn, cfg.inl f = some fn → cfg.ext f = none ∧ cfg.known f = true ∧ cfg.P.funcs[f]? = some fn ∧ fn.body = some (qf6 fn)
def qaG (f : Nat) : List (Nat × Func) → Option Func
 | [] => none
 | p :: l => if qhQ p.1 f then some p.2 else qaG f l
def qgb (cfg : Cfg) : List (Nat × Func) → Prop
 | [] => True
 | p :: l => (cfg.ext p.1 = none ∧ cfg.known p.1 = true ∧ cfg.P.funcs[p.1]? = some p.2 ∧ p.2.body = some (qf6 p.2)) ∧ qgb cfg l
theorem InlOk.of {cfg : Cfg} (tab : List (Nat × Func)) (h : ∀ f, cfg.inl f = qaG f tab) (ha : qgb cfg tab) : InlOk cfg where
 ok := by
  intro f fn hf
  rw [h] at hf
  clear h
  induction tab with
  | nil => cases hf
  | cons p l ih =>
   rw [qaG] at hf
   split at hf
   ·rename_i e
    have e := qhF e
    cases hf
    rw [← e]
    exact ha.1
   ·exact ih ha.2 hf
def Gets {β : Type} (o : Option β) (P : β → Prop) : Prop := ∃ r, o = some r ∧ P r
theorem Gets.ev {β : Type} {o o' : Option β} {P : β → Prop} (h : ∀ r, o = some r → o' = some r) (hy : Gets o P) : Gets o' P := by
 obtain ⟨r, h1, h2⟩ := hy
 exact ⟨r, h r h1, h2⟩
theorem Gets.eq {β : Type} {o o' : Option β} {P : β → Prop} (h : o' = o) (hy : Gets o P) : Gets o' P := h ▸ hy
theorem gE {β : Type} {o o' x : Option β} {P : β → Prop} (f : ∀ r, o = some r → o' = some r) (e : o = x) (h : Gets x P) : Gets o' P := Gets.ev f (Gets.eq e h)
theorem Gets.mono {β : Type} {o : Option β} {P Q : β → Prop} (h : Gets o P) (hq : ∀ b, P b → Q b) : Gets o Q := by
 obtain ⟨r, h1, h2⟩ := h
 exact ⟨r, h1, hq r h2⟩
theorem Gets.bind {β γ : Type} {o : Option β} {k : β → Option γ} {Q : β → Prop} {P : γ → Prop} (h : Gets o Q) (hk : ∀ b, Q b → Gets (k b) P) : Gets (kOpt o k) P := by
 obtain ⟨r, h1, h2⟩ := h
 subst h1
 exact hk r h2
@[simp] theorem gets_some {β : Type} {a : β} {P : β → Prop} : Gets (some a) P ↔ P a := ⟨fun ⟨r, h1, h2⟩ => by cases h1; exact h2, fun h => ⟨a, rfl, h⟩⟩
theorem Gets.get {β : Type} {o : Option β} {a : β} (h : Gets o (· = a)) : o = some a := by
 obtain ⟨r, h1, h2⟩ := h
 rw [h1, h2]
@[simp] theorem nble (a b : Nat) : Nat.ble a b = decide (a ≤ b) := by
 rcases h : Nat.ble a b with _ | _
 ·rw [eq_comm, decide_eq_false_iff_not]; intro h'; rw [Nat.ble_eq_true_of_le h'] at h; cases h
 ·rw [eq_comm, decide_eq_true_eq]; exact Nat.le_of_ble_eq_true h
@[simp] theorem nbeq (a b : Nat) : qhQ a b = decide (a = b) := by
 rcases h : qhQ a b with _ | _
 ·rw [eq_comm, decide_eq_false_iff_not]; intro h'; rw [h', Nat.beq_refl] at h; cases h
 ·rw [eq_comm, decide_eq_true_eq]; exact qhF h
@[simp] theorem leInt_eq (a b : Int) : qht a b = decide (a ≤ b) := rfl
@[simp] theorem ltInt_eq (a b : Int) : qhs a b = decide (a < b) := rfl
def AV.IsInt (v : AV) : Prop := ∃ n, v = .int .i64 n
def AV.IsBool (v : AV) : Prop := ∃ b, v = .bool b
@[simp] theorem isInt_int (n : Int) : (AV.int .i64 n).IsInt := ⟨n, rfl⟩
@[simp] theorem isBool_bool (b : Bool) : (AV.bool b).IsBool := ⟨b, rfl⟩
@[simp] theorem kOptSome {β : Type} (b : β) (k : β → Option α) : kOpt (some b) k = k b := rfl
@[simp] theorem kOptNone {β : Type} (k : β → Option α) : kOpt none k = none := rfl
@[simp] theorem kMInt_int (kd : IntKind) (n : Int) (k : Int → Option α) : qgI kd (.int kd n) k = k n := by simp [qgI, zq]
@[simp] theorem kInt_int (kd : IntKind) (n : Int) (k : Int → Option α) : kInt kd (.int kd n) k = k n := by simp [kInt, zq]
@[simp] theorem kBool_bool (b : Bool) (k : Bool → Option α) : qhv (.bool b) k = k b := rfl
@[simp] theorem kStr_str (s : List UInt8) (k : List UInt8 → Option α) : kStr (.str s) k = k s := rfl
@[simp] theorem kAgg_agg (cs : List AV) (k : List AV → Option α) : kAgg (.agg cs) k = k cs := rfl
@[simp] theorem kCons_cons (c : AV) (cs : List AV) (k : AV → List AV → Option α) : qhu (c :: cs) k = k c cs := rfl
@[simp] theorem kNil_nil (x : Option α) : kNil [] x = x := rfl
@[simp] theorem kMSl_nil (x : Option α) (k : Nat → Nat → Option α) : kMSl .nil x k = x := rfl
@[simp] theorem kMSl_sl (off len : Nat) (x : Option α) (k : Nat → Nat → Option α) : kMSl (.sl off len) x k = k off len := rfl
@[simp] theorem kMUnit_unit (x : Option α) : qhd .unit x = x := rfl
@[simp] theorem kMBool_bool (b : Bool) (k : Bool → Option α) : qhe (.bool b) k = k b := rfl
@[simp] theorem kOwn_nil (x : Option α) (k : Nat → List (List AV) → Nat → Nat → Option α) : kOwn .nil x k = x := rfl
@[simp] theorem kOwn_own (sz : Nat) (rs : List (List AV)) (off len : Nat) (x : Option α) (k : Nat → List (List AV) → Nat → Nat → Option α) : kOwn (.own sz rs off len) x k = k sz rs off len := rfl
@[simp] theorem kSl_sl (rs : List (List AV)) (k : List (List AV) → Option α) : kSl (.sl rs) k = k rs := rfl
@[simp] theorem get?Internal_eq {β : Type} (l : List β) (i : Nat) : List.get?Internal l i = l[i]? := rfl
variable {α β : Type}
def qbX (b : Bool) (k : Bool → α) : α := match b with | true => k true | false => k false
def fNat (n : Nat) (k : Nat → α) : α := match n with | 0 => k 0 | m + 1 => k (m + 1)
def fInt (n : Int) (k : Int → α) : α := match n with | .ofNat m => fNat m fun m => k (.ofNat m) | .negSucc m => fNat m fun m => k (.negSucc m)
def fL (g : β → (β → α) → α) : List β → (List β → α) → α
 | [], k => k []
 | a :: l, k => g a fun a' => fL g l fun l' => k (a' :: l')
def qgL (kd : IntKind) (k : IntKind → α) : α := match kd with
 | .i64 => k .i64
 | .u64 => k .u64
 | .u8 => k .u8
 | .i32 => k .i32
 | .u32 => k .u32
 | x => k x
def qc5 (b : UInt8) (k : UInt8 → α) : α := fNat b.toNat fun n => k (UInt8.ofNat n)
theorem qfi {g : β → (β → α) → α} (hg : ∀ b k, g b k = k b) : ∀ (l : List β) (k : List β → α), fL g l k = k l
 | [], _ => rfl
 | a :: l, k => by rw [fL, hg, qfi hg l]
theorem qbc (b : Bool) (k : Bool → α) : qbX b k = k b := by cases b <;> rfl
theorem vP (b : Nat) (k : Nat → α) : fNat b k = k b := by cases b <;> rfl
theorem qgZ (b : Int) (k : Int → α) : fInt b k = k b := by cases b <;> simp only [fInt, vP]
theorem qgw (b : IntKind) (k : IntKind → α) : qgL b k = k b := by cases b <;> rfl
theorem qdP (b : UInt8) (k : UInt8 → α) : qc5 b k = k b := by simp [qc5, vP]
def qho (c a b : AV) (H : AH) : Option (AV × AH) :=
 match c with
 | .bool t => some (if t then a else b, H)
 | _ => none
def qg8 (cfg : Cfg) (nid : Option Nat) (t : TypeId) (H : AH) : Option (AV × AH) :=
 match cfg.ty t with
 | some ti =>
  if qJ ti.zero then
   match aNew nid H (xS cfg t ti.zero) with
   | some (k, H') => some (.ptr k 0 0, H')
   | none => none
  else none
 | none => none
def xBox (cfg : Cfg) (t : TypeId) (nid : Option Nat) (a : AV) (H : AH) : Option (AV × AH) :=
 match a.cells with
 | some cs =>
  match aNew nid H (zv cfg t cs) with
  | some (k, H') => some (.ptr k 0 0, H')
  | none => none
 | none => none
def qg7 (cfg : Cfg) (t : TypeId) (parts : List (Nat × AV)) (H : AH) : Option (AV × AH) :=
 match cfg.ty t with
 | some ti =>
  if qJ ti.zero then
   match ti.d with
   | .struct fs =>
    match xM cfg fs with
    | some ps => (y3 (fun i => ps[i]?) ti.zero parts).map fun cs => (.agg (cfg.fga t cs), H)
    | none => none
   | .array _ e =>
    match cfg.sz e with
    | some n => (y3 (fun i => some (i * n, n)) ti.zero parts).map fun cs => (.agg cs, H)
    | none => none
   | _ => none
  else none
 | none => none
def qaM (cfg : Cfg) (nid : Option Nat) (t : TypeId) (len : Nat) (parts : List (Nat × AV)) (H : AH) : Option (AV × AH) :=
 match cfg.td t with
 | some (.slice e) =>
  match cfg.ty e with
  | some ei =>
   if xx ei && Nat.ble (len * ei.sz) 16777216 then
    match ym ei.sz (qhN len ei.zero) parts with
    | some rows =>
     match aNew nid H (.rows (qe 0 rows) ei.sz rows) with
     | some (k, H') => some (.ms k 0 len, H')
     | none => none
    | none => none
   else none
  | none => none
 | _ => none
def qhp (cfg : Cfg) (t : TypeId) (a : AV) (H : AH) : Option (AV × AH) :=
 match cfg.ty t with
 | some ti => (yn ti.d.agg ti.sz H a).map fun v => (v, H)
 | none => none
def qg5 (cfg : Cfg) (t : TypeId) (a v : AV) (H : AH) : Option (AV × AH) :=
 match cfg.sz t with
 | some n => (v6 n H a v).map fun H' => (.junk, H')
 | none => none
def xNil (a : AV) (H : AH) : Option (AV × AH) :=
 match a with
 | .ptr id r off => some (.ptr id r off, H)
 | .cptr cs off => some (.cptr cs off, H)
 | .fn (.func f) a b => some (.fn (.func f) a b, H)
 | .mp id => some (.mp id, H)
 | .yld id => some (.yld id, H)
 | _ => none
def qgd (t : AV) (i : Nat) (H : AH) : Option (AV × AH) :=
 match t with
 | .tup vs => (vs[i]?).map fun v => (v, H)
 | _ => none
def xOp (cfg : Cfg) (nid : Option Nat) (o : Op) (ty : TypeId) (x : Operand → AV) (H : AH) : Option (AV × AH) :=
 match o with
 | .move a | .assign a => some (x a, H)
 | .pick c a b => qho (x c) (x a) (x b) H
 | .alloc t => qg8 cfg nid t H
 | .box t a => xBox cfg t nid (x a) H
 | .build t parts => qg7 cfg t (parts.toList.map fun p => (p.1, x p.2)) H
 | .buildSlice t len parts => qaM cfg nid t len (parts.toList.map fun p => (p.1, x p.2)) H
 | .load t a => qhp cfg t (x a) H
 | .store t a v => qg5 cfg t (x a) (x v) H
 | .nilCheck a => xNil (x a) H
 | .binOp op t a b _ => (aBin cfg (litN a b) op t (x a) (x b)).map fun v => (v, H)
 | .unOp op _ a => (aUn op (x a)).map fun v => (v, H)
 | .convert s d a => v7 cfg nid s d (x a) H
 | .makeFunc f first caps => some (.fn f (first.toList.map x) (caps.toList.map x), H)
 | .makeSlice t l c => x8 cfg nid t (x l) (x c) H
 | .slice t a lo hi mx => (yT cfg t H (x a) (lo.map x) (hi.map x) (mx.map x)).map fun v => (v, H)
 | .fieldAddr t a f => (yo cfg t (x a) f).map fun v => (v, H)
 | .field t a f => (qce cfg t (x a) f).map fun v => (v, H)
 | .indexAddr t a i => (vI cfg t H (x a).unwr (x i)).map fun v => (v, H)
 | .index t a i => (qcd cfg t (x a) (x i)).map fun v => (v, H)
 | .extract t i => qgd (x t) i H
 | o => evOp cfg nid o ty x H
theorem qg6 (cfg : Cfg) (nid : Option Nat) (o : Op) (ty : TypeId) (x : Operand → AV) (H : AH) : xOp cfg nid o ty x H = evOp cfg nid o ty x H := by cases o <;> rfl
variable {α β : Type}
noncomputable def gL (g : β → (β → α) → α) (l : List β) : (List β → α) → α :=
 List.rec (motive := fun _ => (List β → α) → α) (fun k => k []) (fun a _ ih k => g a fun a' => ih fun l' => k (a' :: l')) l
noncomputable def gS (l : List β) : (List β → α) → α :=
 List.rec (motive := fun _ => (List β → α) → α) (fun k => k []) (fun a _ ih k => ih fun l' => k (a :: l')) l
theorem xg {g : β → (β → α) → α} (hg : ∀ b k, g b k = k b) : ∀ (l : List β) (k : List β → α), gL g l k = k l
 | [], _ => rfl
 | a :: l, k => by
  have : gL g (a :: l) k = g a fun a' => gL g l fun l' => k (a' :: l') := rfl
  rw [this, hg, xg hg l]
theorem vr : ∀ (l : List β) (k : List β → α), gS l k = k l
 | [], _ => rfl
 | a :: l, k => by
  have : gS (a :: l) k = gS l fun l' => k (a :: l') := rfl
  rw [this, vr l]
def gA1 (v : AV) (k : AV → α) : α := match v with
 | .int kd m => qgL kd fun kd => fInt m fun m => k (.int kd m)
 | .bool b => qbX b fun b => k (.bool b)
 | .str s => fL qc5 s fun s => k (.str s)
 | .ms a b c => fNat a fun a => fNat b fun b => fNat c fun c => k (.ms a b c)
 | .ptr a b c => fNat a fun a => fNat b fun b => fNat c fun c => k (.ptr a b c)
 | v => k v
theorem qdL (v : AV) (k : AV → α) : gA1 v k = k v := by
 cases v <;> simp only [gA1, qgw, qgZ, qbc, vP, qfi qdP]
noncomputable def gA2 (v : AV) (k : AV → α) : α := match v with
 | .agg cs => gL gA1 cs fun cs => k (.agg cs)
 | .sl rows => gL (gL gA1) rows fun rows => k (.sl rows)
 | .cptr cs o => gL gA1 cs fun cs => fNat o fun o => k (.cptr cs o)
 | .fn f a b => gL gA1 a fun a => gL gA1 b fun b => k (.fn f a b)
 | v => gA1 v k
theorem qfY (v : AV) (k : AV → α) : gA2 v k = k v := by
 have e1 : ∀ (l : List AV) (k : List AV → α), gL gA1 l k = k l := xg qdL
 cases v <;> simp only [gA2, qdL, e1, vP, xg e1]
noncomputable def gA (v : AV) (k : AV → α) : α := match v with
 | .tup cs => gL gA2 cs fun cs => k (.tup cs)
 | .ifc t v => gA2 v fun v => k (.ifc t v)
 | v => gA2 v k
theorem xU (v : AV) (k : AV → α) : gA v k = k v := by
 cases v <;> simp only [gA, qfY, xg qfY]
def gW (v : AV) (k : AV → α) : α := match v with
 | .int a b => k (.int a b)
 | .bool a => k (.bool a)
 | .str a => k (.str a)
 | .agg a => k (.agg a)
 | .tup a => k (.tup a)
 | .nilS => k .nilS
 | .sl a => k (.sl a)
 | .em => k .em
 | .ms a b c => k (.ms a b c)
 | .nilP => k .nilP
 | .ptr a b c => k (.ptr a b c)
 | .cptr a b => k (.cptr a b)
 | .fn a b c => k (.fn a b c)
 | .yld a => k (.yld a)
 | .nilF => k .nilF
 | .nilM => k .nilM
 | .mp a => k (.mp a)
 | .nilI => k .nilI
 | .ifc a b => k (.ifc a b)
 | .junk => k .junk
 | .lsl r => k (.lsl r)
 | .lpt c o => k (.lpt c o)
 | .rsl i r => k (.rsl i r)
 | .rpt i c o => k (.rpt i c o)
 | .alt l => k (.alt l)
 | .wr a b => k (.wr a b)
theorem qbS (v : AV) (k : AV → α) : gW v k = k v := by cases v <;> rfl
noncomputable def gB (b : ABlk) (k : ABlk → α) : α := match b with
 | .rows d sz rs => qbX d fun d => fNat sz fun sz => gL (gL gA1) rs fun rs => k (.rows d sz rs)
 | .froz d sz rs => qbX d fun d => fNat sz fun sz => gL (gL gA1) rs fun rs => k (.froz d sz rs)
 | .mp es => gS es fun es => k (.mp es)
 | .loop f fr ps a b p s => gL gA1 fr fun fr => k (.loop f fr ps a b p s)
 | .dead => k .dead
 | .res => k .res
 | .reg => k .reg
 | .spl => k .spl
 | .bld T e s => fL qc5 s fun s => k (.bld T e s)
theorem qff (b : ABlk) (k : ABlk → α) : gB b k = k b := by
 have e1 : ∀ (l : List AV) (k : List AV → α), gL gA1 l k = k l := xg qdL
 cases b <;> simp only [gB, qbc, vP, e1, xg e1, vr, qfi qdP]
noncomputable def gP (p : Nat × AV) (k : Nat × AV → α) : α := gA p.2 fun v => k (p.1, v)
theorem qgJ (p : Nat × AV) (k : Nat × AV → α) : gP p k = k p := by unfold gP; rw [xU]
noncomputable def gH (H : AH) (k : AH → α) : α := gL gB H k
theorem qaI (H : AH) (k : AH → α) : gH H k = k H := xg qff H k
abbrev Ov := List (Nat × AV)
def den (n : Nat) (ov : Ov) : List AV := ov.foldr (fun p fr => fr.set p.1 p.2) (qhN n .junk)
noncomputable def qC (t : Nat) (ov : Ov) : AV := List.rec (motive := fun _ => AV) .junk (fun p _ ih => cond (qhQ p.1 t) p.2 ih) ov
theorem qac (t : Nat) : qC t [] = .junk := rfl
theorem xE (t : Nat) (p : Nat × AV) (ov : Ov) : qC t (p :: ov) = cond (qhQ p.1 t) p.2 (qC t ov) := rfl
def OvOk (n : Nat) (ov : Ov) : Prop := ∀ p ∈ ov, p.1 < n
theorem zt (n : Nat) (ov : Ov) : (den n ov).length = n := by
 induction ov with
 | nil => simp [den]
 | cons p l ih => simp only [den, List.foldr_cons, List.length_set]; exact ih
theorem zu {n : Nat} {ov : Ov} (h : OvOk n ov) (t : Nat) : (den n ov)[t]? = if t < n then some (qC t ov) else none := by
 induction ov with
 | nil =>
  simp only [den, List.foldr_nil, qac, List.getElem?_replicate]
 | cons p l ih =>
  have hl : OvOk n l := fun q hq => h q (List.mem_cons_of_mem _ hq)
  have hp : p.1 < n := h p (List.mem_cons_self ..)
  have : (den n (p :: l))[t]? = ((den n l).set p.1 p.2)[t]? := rfl
  rw [this, qhG, ih hl, zt, xE]
  by_cases e : p.1 = t
  ·subst e; simp [hp]
  ·have : qhQ p.1 t = false := by rw [← Bool.not_eq_true]; intro h'; exact e (qhF h')
   rw [if_neg e, this]; rfl
theorem qad {n : Nat} {ov : Ov} (h : OvOk n ov) {t : Nat} (ht : ¬ t < n) : qC t ov = .junk := by
 induction ov with
 | nil => rfl
 | cons p l ih =>
  have hp : p.1 < n := h p (List.mem_cons_self ..)
  have : qhQ p.1 t = false := by rw [← Bool.not_eq_true]; intro h'; have := qhF h'; omega
  rw [xE, this]
  exact ih fun q hq => h q (List.mem_cons_of_mem _ hq)
theorem qcu {n : Nat} {ov : Ov} (h : OvOk n ov) {fr : List AV} (hl : fr.length = n) (hg : ∀ t, t < n → fr[t]? = some (qC t ov)) : den n ov = fr := by
 apply List.ext_getElem?
 intro t
 rw [zu h]
 split
 ·rename_i ht; exact (hg t ht).symm
 ·rename_i ht; exact (List.getElem?_eq_none (by omega)).symm
noncomputable def opdO (ov : Ov) : Operand → AV
 | .tmp t => qC t ov
 | .const v => ofValue v
 | .global _ => .junk
 | .func f => .fn (.func f) [] []
theorem zn {n : Nat} {ov : Ov} (h : OvOk n ov) : opd (den n ov) = opdO ov := by
 funext o
 cases o with
 | tmp t =>
  show (den n ov).getD t .junk = qC t ov
  rw [List.getD_eq_getElem?_getD, zu h]
  split
  ·rfl
  ·rename_i ht; exact (qad h ht).symm
 | _ => rfl
def putO (n : Nat) (ov : Ov) (dst : Option Tmp) (v : AV) : Ov :=
 match dst with
 | some d => cond (Nat.blt d n) ((d, v) :: ov) ov
 | none => ov
theorem qaF {n : Nat} {ov : Ov} (h : OvOk n ov) (dst : Option Tmp) (v : AV) : OvOk n (putO n ov dst v) := by
 cases dst with
 | none => exact h
 | some d =>
  simp only [putO]
  cases hd : Nat.blt d n with
  | false => exact h
  | true =>
   intro p hp
   rw [cond_true] at hp
   rcases List.mem_cons.1 hp with rfl | hp
   ·simpa [qhO] using hd
   ·exact h p hp
theorem zH {n : Nat} {ov : Ov} (dst : Option Tmp) (v : AV) : den n (putO n ov dst v) = put (den n ov) dst v := by
 cases dst with
 | none => rfl
 | some d =>
  simp only [putO, put]
  cases hd : Nat.blt d n with
  | true => rfl
  | false =>
   have hd : ¬ d < n := by rw [← Bool.not_eq_true, qhO] at hd; exact hd
   show den n ov = _
   rw [List.set_eq_of_length_le (by rw [zt]; exact Nat.le_of_not_lt hd)]
noncomputable def yq (ops : Array Oper) (ov : Ov) (o : Oper) : Option Bool :=
 match o.guard with
 | none => some true
 | some (j, want) =>
  match (ops[j]?).bind (·.dst) with
  | some d =>
   match qC d ov with
   | .bool b => some (b == want)
   | .tup [] => some false
   | _ => none
  | none => none
theorem qbt {n : Nat} {ov : Ov} (h : OvOk n ov) (ops : Array Oper) (o : Oper) : vt ops (den n ov) o = yq ops ov o := by
 unfold vt yq
 cases o.guard with
 | none => rfl
 | some p =>
  obtain ⟨j, want⟩ := p
  simp only
  cases (ops[j]?).bind (·.dst) with
  | none => rfl
  | some d =>
   simp only
   rw [zu h]
   by_cases hd : d < n
   ·rw [if_pos hd]
    cases qC d ov <;> try rfl
    rename_i vs; cases vs <;> rfl
   ·rw [if_neg hd, qad h hd]
noncomputable def qdb (n : Nat) (H : AH) (p v : AV) (k : AH → Option β) : Option β :=
 match p with
 | .ptr id r off =>
  match v.cells with
  | some cs =>
   match H[id]? with
   | some (.rows d sz rs) =>
    match rs[r]? with
    | some row => if cs.length == n && Nat.ble (off + n) row.length then
      gS (row.take off ++ cs ++ row.drop (off + n)) fun row' => gS (rs.set r row') fun rs' => qbX (d && qf 0 cs) fun d' => gS (H.set id (.rows d' sz rs')) k
     else none
    | none => none
   | _ => none
  | none => none
 | .rpt id cs o => (v6 n H (.rpt id cs o) v).bind k
 | _ => none
theorem qfv (n : Nat) (H : AH) (p v : AV) (k : AH → Option β) : qdb n H p v k = (v6 n H p v).bind k := by
 unfold qdb v6
 cases p with
 | ptr id r off =>
  simp only
  cases hv : v.cells with
  | none => simp
  | some cs =>
   simp only
   cases hH : H[id]? with
   | none => simp
   | some b =>
    cases b <;> simp only [Option.bind_none]
    rename_i d sz rs
    cases hr : rs[r]? with
    | none => simp
    | some row =>
     simp only
     split <;> simp [vr, qbc]
 | rpt id cs o => rfl
 | _ => simp
noncomputable def yNew (nid : Option Nat) (H : AH) (b : ABlk) (k : Nat → AH → Option β) : Option β :=
 match nid with
 | none => fNat H.length fun i => gS (H ++ [b]) fun H' => k i H'
 | some i =>
  match H[i]? with
  | some .res => gS (H.set i b) fun H' => k i H'
  | _ => none
theorem qeH (nid : Option Nat) (H : AH) (b : ABlk) (k : Nat → AH → Option β) : yNew nid H b k = (aNew nid H b).bind fun r => k r.1 r.2 := by
 cases nid with
 | none => simp [yNew, aNew, vP, vr]
 | some i =>
  simp only [yNew, aNew]
  cases H[i]? with
  | none => rfl
  | some b => cases b <;> simp [vr]
noncomputable def qfA (cfg : Cfg) (nid : Option Nat) (t : TypeId) (H : AH) (k : AV → AH → Option β) : Option β :=
 match cfg.ty t with
 | some ti => if qJ ti.zero then gB (xS cfg t ti.zero) fun b => yNew nid H b fun i H' => k (.ptr i 0 0) H' else none
 | none => none
noncomputable def yBox (cfg : Cfg) (t : TypeId) (nid : Option Nat) (a : AV) (H : AH) (k : AV → AH → Option β) : Option β :=
 match a.cells with
 | some cs => gS cs fun cs => gB (zv cfg t cs) fun b => yNew nid H b fun i H' => k (.ptr i 0 0) H'
 | none => none
noncomputable def yOp (cfg : Cfg) (nid : Option Nat) (o : Op) (ty : TypeId) (x : Operand → AV) (H : AH) (k : AV → AH → Option β) : Option β :=
 match o with
 | .move a | .assign a => gW (x a) fun v => k v H
 | .alloc t => qfA cfg nid t H k
 | .box t a => yBox cfg t nid (x a) H k
 | .store t a v =>
  match cfg.sz t with
  | some n => qdb n H (x a) (x v) fun H' => k .junk H'
  | none => none
 | .buildSlice t len parts => (match qaM cfg nid t len (parts.toList.map fun p => (p.1, x p.2)) H with | some r => gA r.1 fun v => gH r.2 fun H' => k v H' | none => none)
 | .convert s d a => (match v7 cfg nid s d (x a) H with | some r => gA r.1 fun v => gH r.2 fun H' => k v H' | none => none)
 | .makeSlice t l c => (match x8 cfg nid t (x l) (x c) H with | some r => gA r.1 fun v => gH r.2 fun H' => k v H' | none => none)
 | .call c => (match evOp cfg nid (.call c) ty x H with | some r => gA r.1 fun v => gH r.2 fun H' => k v H' | none => none)
 | o => (match xOp cfg nid o ty x H with | some r => gA r.1 fun v => k v r.2 | none => none)
theorem qg4 (cfg : Cfg) (nid : Option Nat) (o : Op) (ty : TypeId) (x : Operand → AV) (H : AH) (k : AV → AH → Option β) : yOp cfg nid o ty x H k = (evOp cfg nid o ty x H).bind fun r => k r.1 r.2 := by
 have em : ∀ (q : Option (AV × AH)), (match q with | some r => gA r.1 fun v => gH r.2 fun H' => k v H' | none => none) = q.bind fun r => k r.1 r.2 := fun q => by cases q <;> simp [xU, qaI]
 have em' : ∀ (q : Option (AV × AH)), (match q with | some r => gA r.1 fun v => k v r.2 | none => none) = q.bind fun r => k r.1 r.2 := fun q => by cases q <;> simp [xU]
 cases o with
 | move a => simp [yOp, evOp, qbS]
 | assign a => simp [yOp, evOp, qbS]
 | alloc t =>
  simp only [yOp, evOp, qfA]
  cases cfg.ty t with
  | none => rfl
  | some ti =>
   simp only
   split
   ·simp only [qff, qeH]
    cases aNew nid H (xS cfg t ti.zero) <;> rfl
   ·rfl
 | box t a =>
  simp only [yOp, evOp, yBox]
  cases (x a).cells with
  | none => rfl
  | some cs =>
   simp only [vr, qff, qeH]
   cases aNew nid H (zv cfg t cs) <;> rfl
 | store t a v =>
  simp only [yOp, evOp]
  cases cfg.sz t with
  | none => rfl
  | some n =>
   simp only [qfv]
   cases v6 n H (x a) (x v) <;> rfl
 | buildSlice t len parts => simp only [yOp]; rw [em]; rfl
 | convert s d a => simp only [yOp]; rw [em]; rfl
 | makeSlice t l c => simp only [yOp]; rw [em]; rfl
 | call c => simp only [yOp]; rw [em]
 | _ => simp only [yOp]; rw [em', qg6]
mutual
def AV.same : AV → AV → Bool
 | .int a b, .int c d => zq a c && decide (b = d)
 | .bool a, .bool b => a == b
 | .str a, .str b => a == b
 | .agg a, .agg b => vQ a b
 | .tup a, .tup b => vQ a b
 | .nilS, .nilS => true
 | .sl a, .sl b => qaE a b
 | .em, .em => true
 | .nilP, .nilP => true
 | .nilF, .nilF => true
 | .nilM, .nilM => true
 | .nilI, .nilI => true
 | .junk, .junk => true
 | .fn (.func f) a b, .fn (.func g) c d => qhQ f g && (vQ a c && vQ b d)
 | .cptr a i, .cptr b j => qhQ i j && vQ a b
 | _, _ => false
def vQ : List AV → List AV → Bool
 | [], [] => true
 | a :: l, b :: m => a.same b && vQ l m
 | _, _ => false
def qaE : List (List AV) → List (List AV) → Bool
 | [], [] => true
 | a :: l, b :: m => vQ a b && qaE l m
 | _, _ => false
end
mutual
theorem AV.same_eq : ∀ {a b : AV}, a.same b = true → a = b
 | .int a b, y, h => by
  cases y <;> simp [AV.same, zq] at h
  rw [h.1, h.2]
 | .bool a, y, h => by cases y <;> simp [AV.same] at h; rw [h]
 | .str a, y, h => by cases y <;> simp [AV.same] at h; rw [h]
 | .agg a, y, h => by cases y <;> simp [AV.same] at h; rw [vU h]
 | .tup a, y, h => by cases y <;> simp [AV.same] at h; rw [vU h]
 | .nilS, y, h => by cases y <;> simp [AV.same] at h; rfl
 | .sl a, y, h => by cases y <;> simp [AV.same] at h; rw [qdt h]
 | .em, y, h => by cases y <;> simp [AV.same] at h; rfl
 | .nilP, y, h => by cases y <;> simp [AV.same] at h; rfl
 | .nilF, y, h => by cases y <;> simp [AV.same] at h; rfl
 | .nilM, y, h => by cases y <;> simp [AV.same] at h; rfl
 | .nilI, y, h => by cases y <;> simp [AV.same] at h; rfl
 | .junk, y, h => by cases y <;> simp [AV.same] at h; rfl
 | .fn f a b, y, h => by
  cases f <;> cases y <;> first | (rename_i g c d; cases g <;> simp [AV.same] at h; rw [h.1, vU h.2.1, vU h.2.2]) | simp [AV.same] at h
 | .cptr a i, y, h => by
  cases y <;> simp [AV.same] at h
  rw [h.1, vU h.2]
 | .ms _ _ _, y, h => by cases y <;> simp [AV.same] at h
 | .ptr _ _ _, y, h => by cases y <;> simp [AV.same] at h
 | .yld _, y, h => by cases y <;> simp [AV.same] at h
 | .mp _, y, h => by cases y <;> simp [AV.same] at h
 | .ifc _ _, y, h => by cases y <;> simp [AV.same] at h
theorem vU : ∀ {a b : List AV}, vQ a b = true → a = b
 | [], [], _ => rfl
 | a :: l, b :: m, h => by
  simp only [vQ, qhD] at h
  rw [AV.same_eq h.1, vU h.2]
 | [], _ :: _, h => by simp [vQ] at h
 | _ :: _, [], h => by simp [vQ] at h
theorem qdt : ∀ {a b : List (List AV)}, qaE a b = true → a = b
 | [], [], _ => rfl
 | a :: l, b :: m, h => by
  simp only [qaE, qhD] at h
  rw [vU h.1, qdt h.2]
 | [], _ :: _, h => by simp [qaE] at h
 | _ :: _, [], h => by simp [qaE] at h
end
structure Fact where
 frz : Bool
 f : Nat
 args : List AV
 v : AV
def Fact.Ok (cfg : Cfg) (e : Fact) : Prop := (if e.frz then EVf (EV cfg) e.f e.args else EVs (EV cfg) e.f e.args) = some e.v
def qz (cfg : Cfg) : List Fact → Prop
 | [] => True
 | e :: l => e.Ok cfg ∧ qz cfg l
theorem qz.nil {cfg : Cfg} : qz cfg [] := trivial
theorem qz.consF {cfg : Cfg} {f : Nat} {args : List AV} {v : AV} {l : List Fact} (h : EVf (EV cfg) f args = some v) (t : qz cfg l) : qz cfg (⟨true, f, args, v⟩ :: l) := ⟨h, t⟩
noncomputable def yO (frz : Bool) (f : Nat) (args : List AV) (fs : List Fact) : Option AV :=
 List.rec (motive := fun _ => Option AV) none (fun e _ ih => cond (qhQ e.f f && (e.frz == frz && vQ e.args args)) (some e.v) ih) fs
theorem za {cfg : Cfg} {frz : Bool} {f : Nat} {args : List AV} {v : AV} : ∀ {fs : List Fact}, qz cfg fs → yO frz f args fs = some v → (if frz then EVf (EV cfg) f args else EVs (EV cfg) f args) = some v
 | [], _, h => by cases h
 | e :: l, hok, h => by
  have hd : yO frz f args (e :: l) = cond (qhQ e.f f && (e.frz == frz && vQ e.args args)) (some e.v) (yO frz f args l) := rfl
  rw [hd] at h
  cases hc : (qhQ e.f f && (e.frz == frz && vQ e.args args)) with
  | true =>
   rw [hc] at h
   simp only [qhD, beq_iff_eq] at hc
   cases h
   have := hok.1
   unfold Fact.Ok at this
   rw [← qhF hc.1, ← hc.2.1, ← vU hc.2.2]
   exact this
  | false =>
   rw [hc] at h
   exact za hok.2 h
noncomputable def qbr (cfg : Cfg) (cf : Orac) (nid : Option Nat) (t : Tgt) (args : List AV) (H : AH) (k : AV → AH → Option β) : Option β :=
 match qG cfg cf nid t args H with
 | some r => gA r.1 fun v => gH r.2 fun H' => k v H'
 | none => none
noncomputable def qfy (_cfg : Cfg) (cf : Orac) (fs : List Fact) (f : Nat) (al : List AV) (k : AV → Option β) : Option β :=
 cond (qf 0 al)
  (match yO false f al fs with
  | some v => cond v.scalar (k v) none
  | none => (match cf (.f f) al [] with | some r => gA r.1 fun v => cond v.scalar (k v) none | none => none)) none
noncomputable def qfz (_cfg : Cfg) (cf : Orac) (fs : List Fact) (f : Nat) (al : List AV) (k : AV → Option β) : Option β :=
 cond (qf 0 al)
  (match yO true f al fs with
  | some v => cond (v.refsLt 0) (k v) none
  | none => (match cf (.f f) al [] with | some r => gA (r.1.frz r.1.msIds r.2).fg fun v => cond (v.refsLt 0) (k v) none | none => none)) none
noncomputable def qdc (cfg : Cfg) (cf : Orac) (fs : List Fact) (nid : Option Nat) (t : Tgt) (args : List AV) (H : AH) (k : AV → AH → Option β) : Option β :=
 match t with
 | .y id => qbr cfg cf nid (.y id) args H k
 | .f f =>
  match cfg.mode f with
  | .scal => gL gA (args.map fun a => (a.snap H).fg) fun al => qfy cfg cf fs f al fun v => k v H
  | .pfrz => gL gA (args.map AV.fg) fun al => qfz cfg cf fs f al fun v => k v H
  | _ => qbr cfg cf nid (.f f) args H k
noncomputable def qfx (cfg : Cfg) (cf : Orac) (fs : List Fact) (nid : Option Nat) (f : AV) (args : List AV) (H : AH) (k : AV → AH → Option β) : Option β :=
 match xb f args with
 | some t => qdc cfg cf fs nid t.1 t.2 H k
 | none => none
def Le (cf cf' : Orac) : Prop := ∀ t a H r, cf t a H = some r → cf' t a H = some r
theorem qd7 {cfg : Cfg} {cf : Orac} (hcf : Le cf (EV cfg)) {fs : List Fact} (hfs : qz cfg fs) {nid : Option Nat} {t : Tgt} {args : List AV} {H : AH} {k : AV → AH → Option β} {r : β}
  (h : qdc cfg cf fs nid t args H k = some r) : ∃ q, qG cfg (EV cfg) nid t args H = some q ∧ k q.1 q.2 = some r := by
 have hev : Ev (fun _ => EV cfg) cf := fun t a H r h => ⟨0, fun _ _ => hcf t a H r h⟩
 have gen : ∀ (t : Tgt), qbr cfg cf nid t args H k = some r → ∃ q, qG cfg (EV cfg) nid t args H = some q ∧ k q.1 q.2 = some r := by
  intro t h
  unfold qbr at h
  split at h
  ·rename_i q hq
   rw [xU, qaI] at h
   obtain ⟨n, hn⟩ := qdT hev cfg nid t args H q hq
   exact ⟨q, hn n (qhC _), h⟩
  ·cases h
 cases t with
 | y id => exact gen _ h
 | f f =>
  simp only [qdc] at h
  cases hm : cfg.mode f with
  | scal =>
   simp only [hm, xg xU] at h
   unfold qfy at h
   obtain ⟨h1, h⟩ := qP h
   simp only [qG, hm, h1, if_true]
   split at h
   ·rename_i v hv
    obtain ⟨h2, h⟩ := qP h
    have := za hfs hv
    simp only [qhJ, if_false] at this
    unfold EVs at this
    obtain ⟨q, hq, rfl⟩ := qhA.1 this
    rw [hq]
    exact ⟨(q.1, H), by simp only [qhP, h2, if_true], h⟩
   ·split at h
    ·rename_i q hq
     rw [xU] at h
     obtain ⟨h2, h⟩ := qP h
     rw [hcf _ _ _ _ hq]
     exact ⟨(q.1, H), by simp only [qhP, h2, if_true], h⟩
    ·cases h
  | pfrz =>
   simp only [hm, xg xU] at h
   unfold qfz at h
   obtain ⟨h1, h⟩ := qP h
   simp only [qG, hm, h1, if_true]
   split at h
   ·rename_i v hv
    obtain ⟨h2, h⟩ := qP h
    have := za hfs hv
    simp only [if_true] at this
    unfold EVf at this
    obtain ⟨q, hq, rfl⟩ := qhA.1 this
    rw [hq]
    exact ⟨((q.1.frz q.1.msIds q.2).fg, H), by simp only [qhP, h2, if_true], h⟩
   ·split at h
    ·rename_i q hq
     rw [xU] at h
     obtain ⟨h2, h⟩ := qP h
     rw [hcf _ _ _ _ hq]
     exact ⟨((q.1.frz q.1.msIds q.2).fg, H), by simp only [qhP, h2, if_true], h⟩
    ·cases h
  | _ => simp only [hm] at h; exact gen _ h
noncomputable def yx (cfg : Cfg) (cf : Orac) (fs : List Fact) (nid : Option Nat) (o : Op) (ty : TypeId) (x : Operand → AV) (H : AH) (k : AV → AH → Option β) : Option β :=
 match o with
 | .call c =>
  (match c.callee with
  | .value f => gL gW (c.args.toList.map x) fun args => qfx cfg cf fs nid (x f) args H k
  | _ => yOp cfg nid (.call c) ty x H k)
 | o => yOp cfg nid o ty x H k
noncomputable def qc0 (cfg : Cfg) (cf : Orac) (fs : List Fact) (frz : Bool) (nid : Option Nat) (o : Oper) (x : Operand → AV) (H : AH) (k : AV → AH → Option β) : Option β :=
 match frz with
 | false => yx cfg cf fs nid o.op o.type x H k
 | true => gS (o.op.operands.toList.flatMap fun a => (x a).msIds) fun ids => gH (ql ids H) fun H' => yx cfg cf fs nid o.op o.type (fun a => (x a).frz ids H) H' k
theorem qaL {cfg : Cfg} {cf : Orac} (hcf : Le cf (EV cfg)) {fs : List Fact} (hfs : qz cfg fs) {nid : Option Nat} {o : Oper} {x : Operand → AV} {H : AH} {k : AV → AH → Option β} {r : β}
  (h : yx cfg cf fs nid o.op o.type x H k = some r) : ∃ q, qq cfg (EV cfg) false nid o x H = some q ∧ k q.1 q.2 = some r := by
 obtain ⟨dst, op, ty, pos, after, guard⟩ := o
 unfold qq
 simp only [qhJ, if_false] at h ⊢
 have plain : ∀ (op : Op), yOp cfg nid op ty x H k = some r → ∃ q, evOp cfg nid op ty x H = some q ∧ k q.1 q.2 = some r := by
  intro op h
  rw [qg4] at h
  exact qhB.1 h
 cases op with
 | call c =>
  obtain ⟨callee, args, argTypes⟩ := c
  cases callee with
  | value f =>
   simp only [yx, xg qbS] at h ⊢
   unfold qfx at h
   split at h
   ·rename_i t ht
    rw [ht]
    exact qd7 hcf hfs h
   ·cases h
  | builtin b => simp only [yx] at h ⊢; exact plain _ h
  | invoke rv nm => simp only [yx] at h ⊢; exact plain _ h
 | _ => simp only [yx] at h ⊢; exact plain _ h
theorem qbm {cfg : Cfg} {cf : Orac} (hcf : Le cf (EV cfg)) {fs : List Fact} (hfs : qz cfg fs) {frz : Bool} {nid : Option Nat} {o : Oper} {x : Operand → AV} {H : AH} {k : AV → AH → Option β} {r : β}
  (h : qc0 cfg cf fs frz nid o x H k = some r) : ∃ q, qq cfg (EV cfg) frz nid o x H = some q ∧ k q.1 q.2 = some r := by
 cases frz with
 | false => exact qaL hcf hfs h
 | true =>
  simp only [qc0, vr, qaI] at h
  obtain ⟨q, h1, h2⟩ := qaL hcf hfs h
  refine ⟨q, ?_, h2⟩
  unfold qq at h1 ⊢
  simpa using h1
noncomputable def yOps (cfg : Cfg) (cf : Orac) (fs : List Fact) (f rid : Nat) (ops : Array Oper) (n : Nat) : Nat → List Oper → Ov → AH → (Ov → AH → Option β) → Option β
 | _, [], ov, H, K => K ov H
 | i, o :: rest, ov, H, K =>
  match yq ops ov o with
  | none => none
  | some b =>
   cond b (qc0 cfg cf fs (cfg.frz f rid i) none o (opdO ov) H fun v H' => yOps cfg cf fs f rid ops n (i + 1) rest (putO n ov o.dst v) H' K)
    (yOps cfg cf fs f rid ops n (i + 1) rest (putO n ov o.dst (.tup [])) H K)
theorem zX {cfg : Cfg} {cf : Orac} (hcf : Le cf (EV cfg)) {fs : List Fact} (hfs : qz cfg fs) {f rid n : Nat} {ops : Array Oper} {r : β} : ∀ {l : List Oper} {i : Nat} {ov : Ov} {H : AH} {K : Ov → AH → Option β}, OvOk n ov → yOps cfg cf fs f rid ops n i l ov H K = some r →
  ∃ ov' H', OvOk n ov' ∧ xW cfg (EV cfg) f rid ops i l (den n ov) H = some (den n ov', H') ∧ K ov' H' = some r
 | [], i, ov, H, K, hok, h => ⟨ov, H, hok, rfl, h⟩
 | o :: l, i, ov, H, K, hok, h => by
  rw [yOps] at h
  rw [xW, qbt hok]
  cases hw : yq ops ov o with
  | none => rw [hw] at h; cases h
  | some b =>
   rw [hw] at h
   simp only [qhP]
   cases b with
   | true =>
    simp only [cond_true] at h
    obtain ⟨q, h1, h2⟩ := qbm hcf hfs h
    simp only [if_true, zn hok, h1, qhP]
    obtain ⟨ov', H', h3, h4, h5⟩ := zX hcf hfs (qaF hok _ _) h2
    rw [zH] at h4
    exact ⟨ov', H', h3, h4, h5⟩
   | false =>
    simp only [cond_false] at h
    simp only [qhJ, if_false]
    obtain ⟨ov', H', h3, h4, h5⟩ := zX hcf hfs (qaF hok _ _) h
    rw [zH] at h4
    exact ⟨ov', H', h3, h4, h5⟩
noncomputable def qbq (cfg : Cfg) (cf : Orac) (fs : List Fact) (f rid : Nat) (ops : Array Oper) (n : Nat) : Nat → Nat → List Oper → Ov → AH → (List DR → Ov → AH → Option β) → Option β
 | _, _, [], ov, H, K => K [] ov H
 | i, at_, o :: rest, ov, H, K =>
  match yq ops ov o with
  | none => none
  | some b =>
   fNat (at_ + qai cfg o) fun at' =>
   cond b (qc0 cfg cf fs (cfg.frz f rid i) (some at_) o (opdO ov) H fun v H' => qbq cfg cf fs f rid ops n (i + 1) at' rest (putO n ov o.dst v) H' fun fps ov' H'' => K (drOf cfg (cfg.frz f rid i) at_ o (opdO ov) H v H' :: fps) ov' H'')
    (qbq cfg cf fs f rid ops n (i + 1) at' rest (putO n ov o.dst (.tup [])) H fun fps ov' H'' => K (drNo H :: fps) ov' H'')
theorem zA {cfg : Cfg} {cf : Orac} (hcf : Le cf (EV cfg)) {fs : List Fact} (hfs : qz cfg fs) {f rid n : Nat} {ops : Array Oper} {r : β} : ∀ {l : List Oper} {i at_ : Nat} {ov : Ov} {H : AH} {K : List DR → Ov → AH → Option β}, OvOk n ov → qbq cfg cf fs f rid ops n i at_ l ov H K = some r →
  ∃ fps ov' H', OvOk n ov' ∧ vL cfg (EV cfg) f rid ops i at_ l (den n ov) H = some (fps, den n ov', H') ∧ K fps ov' H' = some r
 | [], i, at_, ov, H, K, hok, h => ⟨[], ov, H, hok, rfl, h⟩
 | o :: l, i, at_, ov, H, K, hok, h => by
  rw [qbq] at h
  rw [vL, qbt hok]
  cases hw : yq ops ov o with
  | none => rw [hw] at h; cases h
  | some b =>
   rw [hw] at h
   simp only [qhP]
   simp only [vP] at h
   cases b with
   | true =>
    simp only [cond_true] at h
    obtain ⟨q, h1, h2⟩ := qbm hcf hfs h
    simp only [if_true, zn hok, h1, qhP]
    obtain ⟨fps, ov', H', h3, h4, h5⟩ := zA hcf hfs (qaF hok _ _) h2
    rw [zH] at h4
    exact ⟨_, ov', H', h3, by rw [h4]; rfl, h5⟩
   | false =>
    simp only [cond_false] at h
    simp only [qhJ, if_false]
    obtain ⟨fps, ov', H', h3, h4, h5⟩ := zA hcf hfs (qaF hok _ _) h
    rw [zH] at h4
    exact ⟨_, ov', H', h3, by rw [h4]; rfl, h5⟩
def xZ : Nat → List Nat → Bool
 | _, [] => true
 | i, k :: ks => Nat.ble i k && xZ (k + 1) ks
noncomputable def qc2 (ks : List Nat) (ov : Ov) : (Ov → α) → α :=
 List.rec (motive := fun _ => (Ov → α) → α) (fun K => K []) (fun t _ ih K => gW (qC t ov) fun v => ih fun l => K ((t, v) :: l)) ks
theorem qgo (ks : List Nat) (ov : Ov) : ∀ (K : Ov → α), qc2 ks ov K = K (ks.map fun t => (t, qC t ov)) := by
 induction ks with
 | nil => intro K; rfl
 | cons t l ih =>
  intro K
  have : qc2 (t :: l) ov K = gW (qC t ov) fun v => qc2 l ov fun l => K ((t, v) :: l) := rfl
  rw [this, qbS, ih, List.map_cons]
theorem yk : ∀ (ks : List Nat) (fr : List AV) (i t : Nat), xZ i ks = true → (qH i ks fr)[t]? = if t < fr.length then some (if i + t ∈ ks then (fr[t]?).getD .junk else .junk) else none
 | ks, [], i, t, _ => by cases ks <;> simp [qH]
 | [], a :: fr, i, t, h => by
  rw [qH]
  cases t with
  | zero => simp
  | succ t =>
   simp only [List.getElem?_cons_succ]
   rw [yk [] fr i t rfl]
   simp
 | k :: ks, a :: fr, i, t, h => by
  rw [xZ, qhD, Nat.ble_eq] at h
  rw [qH]
  have hge : ∀ (l : List Nat) (j : Nat), xZ j l = true → ∀ x ∈ l, j ≤ x := by
   intro l
   induction l with
   | nil => intro j _ x hx; cases hx
   | cons y l ih =>
    intro j hj x hx
    rw [xZ, qhD, Nat.ble_eq] at hj
    rcases List.mem_cons.1 hx with rfl | hx
    ·exact hj.1
    ·have := ih _ hj.2 x hx; omega
  split
  ·rename_i e
   have e := qhF e
   subst e
   cases t with
   | zero => simp
   | succ t =>
    simp only [List.getElem?_cons_succ]
    rw [yk ks fr (i + 1) t h.2]
    have e1 : i + (t + 1) = i + 1 + t := by omega
    have e2 : ¬ i + 1 + t = i := by omega
    simp only [List.length_cons, Nat.add_lt_add_iff_right, e1, List.mem_cons, e2, false_or]
  ·rename_i e
   have hne : i ≠ k := fun h' => e (by rw [h']; exact Nat.beq_refl _)
   cases t with
   | zero =>
    have : i ∉ k :: ks := by
     intro hm
     rcases List.mem_cons.1 hm with rfl | hm
     ·exact hne rfl
     ·have := hge _ _ h.2 i hm; omega
    simp [this]
   | succ t =>
    simp only [List.getElem?_cons_succ]
    rw [yk (k :: ks) fr (i + 1) t (by rw [xZ, qhD, Nat.ble_eq]; exact ⟨by omega, h.2⟩)]
    have e1 : i + (t + 1) = i + 1 + t := by omega
    simp only [List.length_cons, Nat.add_lt_add_iff_right, e1]
theorem qfP (ks : List Nat) (g : Nat → AV) (t : Nat) : qC t (ks.map fun t => (t, g t)) = if t ∈ ks then g t else .junk := by
 induction ks with
 | nil => rfl
 | cons k l ih =>
  rw [List.map_cons, xE, ih]
  by_cases e : k = t
  ·subst e; simp
  ·have h1 : qhQ k t = false := by rw [← Bool.not_eq_true]; intro h'; exact e (qhF h')
   have h2 : ¬ t = k := fun h => e h.symm
   rw [h1, cond_false]
   simp only [List.mem_cons, h2, false_or]
noncomputable def qbn (n : Nat) (ts : Option (List Nat)) (ov : Ov) (K : Ov → Option β) : Option β :=
 match ts with
 | none => K ov
 | some ks => cond (xZ 0 ks && ks.all fun t => Nat.blt t n) (qc2 ks ov K) none
theorem zz {n : Nat} {ts : Option (List Nat)} {ov : Ov} {K : Ov → Option β} {r : β} (hok : OvOk n ov) (h : qbn n ts ov K = some r) : ∃ ov', OvOk n ov' ∧ q5 ts (den n ov) = den n ov' ∧ K ov' = some r := by
 cases ts with
 | none => exact ⟨ov, hok, rfl, h⟩
 | some ks =>
  simp only [qbn, qgo] at h
  cases hc : (xZ 0 ks && ks.all fun t => Nat.blt t n) with
  | false => rw [hc] at h; cases h
  | true =>
   rw [hc] at h
   rw [qhD, List.all_eq_true] at hc
   have hok' : OvOk n (ks.map fun t => (t, qC t ov)) := by
    intro p hp
    obtain ⟨t, ht, rfl⟩ := List.mem_map.1 hp
    have := hc.2 t ht
    simpa [qhO] using this
   refine ⟨_, hok', (qcu hok' ?_ fun t ht => ?_).symm, h⟩
   ·show (qH 0 ks (den n ov)).length = n
    rw [(xI (ts := ks) (fr := den n ov) (k := 0)).1, zt]
   ·show (qH 0 ks (den n ov))[t]? = _
    rw [yk _ _ _ _ hc.1, zt, if_pos ht, Nat.zero_add, qfP, zu hok, if_pos ht]
    rfl
noncomputable def yf (n : Nat) : List (Tmp × Nat) → Ov → AH → (Ov → AH → Option β) → Option β
 | [], ov, H, K => K ov H
 | p :: l, ov, H, K =>
  match qC p.1 ov with
  | .nilS => fNat H.length fun i => cond (Nat.blt p.1 n) (gS (H ++ [.rows true p.2 []]) fun H' => yf n l ((p.1, .ms i 0 0) :: ov) H' K) none
  | .ptr _ _ _ => (match vR p.1 p.2 (den n ov) H with | q => gH q.2 fun H' => yf n l ov H' K)
  | _ => yf n l ov H K
theorem qfT {t sz : Nat} {fr : List AV} {H : AH} {id r off : Nat} (h : fr[t]? = some (.ptr id r off)) : (vR t sz fr H).1 = fr := by
 unfold vR
 rw [h]
 simp only
 split
 ·split
  ·split <;> rfl
  ·rfl
 ·rfl
theorem xa {n : Nat} {r : β} : ∀ {ls : List (Tmp × Nat)} {ov : Ov} {H : AH} {K : Ov → AH → Option β}, OvOk n ov → yf n ls ov H K = some r → ∃ ov' H', OvOk n ov' ∧ qT ls (den n ov) H = (den n ov', H') ∧ K ov' H' = some r
 | [], ov, H, K, hok, h => ⟨ov, H, hok, rfl, h⟩
 | p :: l, ov, H, K, hok, h => by
  rw [yf] at h
  rw [qT]
  have hget : (den n ov)[p.1]? = if p.1 < n then some (qC p.1 ov) else none := zu hok p.1
  split at h
  ·rename_i hv
   simp only [vP] at h
   cases hb : Nat.blt p.1 n with
   | false => rw [hb] at h; cases h
   | true =>
    rw [hb] at h
    simp only [cond_true, vr] at h
    have hlt : p.1 < n := by simpa [qhO] using hb
    have hl1 : vR p.1 p.2 (den n ov) H = (den n ((p.1, .ms H.length 0 0) :: ov), H ++ [.rows true p.2 []]) := by
     unfold vR
     rw [hget, if_pos hlt, hv]; rfl
    rw [hl1]
    exact xa (fun q hq => (List.mem_cons.1 hq).elim (fun e => by subst e; exact hlt) (hok q)) h
  ·rename_i id r' off hv
   simp only [qaI] at h
   by_cases hlt : p.1 < n
   ·rw [qfT (by rw [hget, if_pos hlt, hv])]
    exact xa hok h
   ·rw [qad hok hlt] at hv; cases hv
  ·rename_i h1 h2
   have hl1 : vR p.1 p.2 (den n ov) H = (den n ov, H) := by
    unfold vR
    rw [hget]
    by_cases hlt : p.1 < n
    ·rw [if_pos hlt]
     split
     ·rename_i e; exact absurd (Option.some.inj e) h1
     ·rename_i a b c e; exact absurd (Option.some.inj e) (h2 a b c)
     ·rfl
    ·rw [if_neg hlt]
   rw [hl1]
   exact xa hok h
def spGo : Nat → List AV → Ov
 | _, [] => []
 | i, .junk :: l => spGo (i + 1) l
 | i, v :: l => (i, v) :: spGo (i + 1) l
theorem qdj : ∀ (l : List AV) (i t : Nat), qC t (spGo i l) = if i ≤ t then (l[t - i]?).getD .junk else .junk
 | [], i, t => by simp [spGo, qac]
 | a :: l, i, t => by
  have ih := qdj l (i + 1) t
  have key : ∀ (ov : Ov), ov = (i, a) :: spGo (i + 1) l → qC t ov = if i ≤ t then ((a :: l)[t - i]?).getD .junk else .junk := by
   intro ov e
   rw [e, xE, ih]
   by_cases e2 : i = t
   ·subst e2; simp
   ·have h1 : qhQ i t = false := by rw [← Bool.not_eq_true]; intro h'; exact e2 (qhF h')
    simp only [h1, cond_false]
    by_cases h3 : i + 1 ≤ t
    ·have h4 : t - i = (t - (i + 1)) + 1 := by omega
     rw [if_pos h3, if_pos (by omega), h4, List.getElem?_cons_succ]
    ·rw [if_neg h3, if_neg (by omega)]
  cases a with
  | junk =>
   show qC t (spGo (i + 1) l) = _
   rw [ih]
   by_cases h3 : i + 1 ≤ t
   ·have h4 : t - i = (t - (i + 1)) + 1 := by omega
    rw [if_pos h3, if_pos (by omega), h4, List.getElem?_cons_succ]
   ·rw [if_neg h3]
    by_cases e2 : i = t
    ·subst e2; simp
    ·rw [if_neg (by omega)]
  | _ => exact key _ rfl
theorem zk : ∀ (l : List AV) (i n : Nat), i + l.length ≤ n → OvOk n (spGo i l)
 | [], i, n, _ => fun p hp => by cases hp
 | a :: l, i, n, h => by
  simp only [List.length_cons] at h
  have ih := zk l (i + 1) n (by omega)
  have key : OvOk n ((i, a) :: spGo (i + 1) l) := fun p hp => by
   rcases List.mem_cons.1 hp with rfl | hp
   ·show i < n; omega
   ·exact ih p hp
  cases a <;> first | exact key | exact ih
theorem qdS (l : List AV) : den l.length (spGo 0 l) = l := by
 have hok := zk l 0 l.length (by omega)
 refine qcu hok rfl fun t ht => ?_
 rw [qdj, if_pos (Nat.zero_le _), Nat.sub_zero, qhE ht]; rfl
noncomputable def yGc (n k : Nat) (ov : Ov) (H : AH) (K : Ov → AH → Option β) : Option β :=
 cond (Nat.ble H.length k) (K ov H) (match xK k (den n ov) H with | q => gS (spGo 0 q.1) fun ov' => gL gP ov' fun ov' => gH q.2 fun H' => K ov' H')
theorem qgj (ρ : Nat → Nat) (l : List AV) : (renL ρ l).length = l.length := by rw [vj]; simp
theorem qfX (k : Nat) (fr : List AV) (H : AH) : (xK k fr H).1.length = fr.length := by
 unfold xK
 simp only
 cases qQ H (qL k H (2 * H.length + 16) [] (qi k fr ++ qO k (H.take k))) with
 | none => rfl
 | some bs =>
  simp only
  split
  ·exact qgj _ _
  ·rfl
theorem qgc {n k : Nat} {ov : Ov} {H : AH} {K : Ov → AH → Option β} {r : β} (hok : OvOk n ov) (h : yGc n k ov H K = some r) : ∃ ov' H', OvOk n ov' ∧ gc k (den n ov) H = (den n ov', H') ∧ K ov' H' = some r := by
 unfold yGc at h
 unfold gc
 cases hb : Nat.ble H.length k with
 | true => rw [hb] at h; exact ⟨ov, H, hok, by simp, h⟩
 | false =>
  rw [hb] at h
  simp only [cond_false] at h
  rw [vr, xg qgJ, qaI] at h
  have hl : (xK k (den n ov) H).1.length = n := by rw [qfX, zt]
  have := qdS (xK k (den n ov) H).1
  rw [hl] at this
  refine ⟨_, _, ?_, ?_, h⟩
  ·exact zk _ _ _ (by omega)
  ·simp only [qhJ, if_false, this]
noncomputable def qeQ (n k : Nat) (ts : Option (List Tmp)) (ls : List (Tmp × Nat)) (ov : Ov) (H : AH) (K : Ov → AH → Option β) : Option β :=
 qbn n ts ov fun ov => yf n ls ov H fun ov H => yGc n k ov H K
theorem qbp {n k : Nat} {ts : Option (List Tmp)} {ls : List (Tmp × Nat)} {ov : Ov} {H : AH} {K : Ov → AH → Option β} {r : β} (hok : OvOk n ov) (h : qeQ n k ts ls ov H K = some r) :
  ∃ ov' H', OvOk n ov' ∧ yL k ts ls (den n ov) H = (den n ov', H') ∧ K ov' H' = some r := by
 obtain ⟨ov1, h1, h2, h⟩ := zz hok h
 obtain ⟨ov2, H2, h3, h4, h⟩ := xa h1 h
 obtain ⟨ov3, H3, h5, h6, h⟩ := qgc h3 h
 refine ⟨ov3, H3, h5, ?_, h⟩
 unfold yL
 rw [h2, h4]
 exact h6
abbrev YE (β : Type) := Ex → Ov → AH → Option β
noncomputable def qc1 (n k : Nat) (ts : Option (List Tmp)) (ls : List (Tmp × Nat)) (body : Ov → AH → YE β → Option β) : Nat → Ov → AH → YE β → Option β
 | 0, _, _, _ => none
 | m + 1, ov, H, K => body ov H fun e ov' H' =>
  match e with
  | .normal => qeQ n k ts ls ov' H' fun ov2 H2 => qc1 n k ts ls body m ov2 H2 K
  | e => K e ov' H'
noncomputable def qfw (cfg : Cfg) (cf : Orac) (f : Nat) (rd : Option Nat) (n bs : Nat) (g : Operand) (ps : Array Tmp) (assign body : Code) (ov : Ov) (H : AH) (K : YE β) : Option β :=
 gL gW (den n ov) fun fr =>
 match xP cfg cf f rd bs g ps assign body fr H with
 | none => none
 | some q => gS (spGo 0 q.2.1) fun ov' => gL gP ov' fun ov' => gH q.2.2 fun H' => cond (qhQ q.2.1.length n) (K q.1 ov' H') none
noncomputable def yC (cfg : Cfg) (cf : Orac) (fs : List Fact) (m f : Nat) (rd : Option Nat) (n bs : Nat) : Code → Ov → AH → YE β → Option β
 | .skip, ov, H, K => K .normal ov H
 | .label _, ov, H, K => K .normal ov H
 | .region id ops draw, ov, H, K =>
  match draw with
  | true => cond (zN ops) (gS (H ++ qhN (places cfg ops.toList) .res) fun H1 => qbq cfg cf fs f id ops n 0 H.length ops.toList ov H1 fun fps ov' H' => cond (qaJ (ancs [] ops.toList) H1 fps) (K .normal ov' H') none) none
  | false => yOps cfg cf fs f id ops n 0 ops.toList ov H fun ov' H' => K .normal ov' H'
 | .seq a b, ov, H, K => yC cfg cf fs m f rd n bs a ov H fun e ov' H' =>
  match e with
  | .normal => qbn n (cfg.cut f (qh b)) ov' fun ov2 => yC cfg cf fs m f rd n bs b ov2 H' K
  | e => K e ov' H'
 | .cond c a b, ov, H, K =>
  match opdO ov c with
  | .bool t => (match t with | true => yC cfg cf fs m f rd n bs a ov H K | false => yC cfg cf fs m f rd n bs b ov H K)
  | _ => none
 | .block id a, ov, H, K => yC cfg cf fs m f rd n bs a ov H fun e ov' H' =>
  match e with
  | .exit id' => cond (qhQ id' id) (K .normal ov' H') (K (.exit id') ov' H')
  | e => K e ov' H'
 | .loop a, ov, H, K => qeQ n bs (cfg.keepIn f (qh a)) (cfg.lift f (qh a)) ov H fun ov H =>
   qc1 n bs (cfg.keepIn f (qh a)) (cfg.lift f (qh a)) (yC cfg cf fs m f rd n bs a) m ov H fun e ov H => qbn n (cfg.keepOut f (qh a)) ov fun ov => K e ov H
 | .scope a, ov, H, K => yC cfg cf fs m f rd n bs a ov H fun e ov' H' =>
  match e with
  | .goto _ => none
  | e => K e ov' H'
 | .exit id, ov, H, K => K (.exit id) ov H
 | .goto _, _, _, _ => none
 | .ret, ov, H, K => K .ret ov H
 | .rangeFunc g ps assign body, ov, H, K => yf n (cfg.lift f (qh body)) ov H fun ov H => qfw cfg cf f rd n bs g ps assign body ov H K
 | .refuse _, _, _, _ => none
theorem qbo {n k : Nat} {ts : Option (List Tmp)} {ls : List (Tmp × Nat)} {body : Ov → AH → YE β → Option β} {den' : Den} {r : β}
  (hb : ∀ {ov H K}, OvOk n ov → body ov H K = some r → ∃ e ov' H', OvOk n ov' ∧ den' (den n ov) H = some (e, den n ov', H') ∧ K e ov' H' = some r) :
  ∀ (m : Nat) {ov : Ov} {H : AH} {K : YE β}, OvOk n ov → qc1 n k ts ls body m ov H K = some r → ∃ e ov' H', OvOk n ov' ∧ xc k ts ls den' m (den n ov, H) = some (e, den n ov', H') ∧ K e ov' H' = some r
 | 0, ov, H, K, _, h => by cases h
 | m + 1, ov, H, K, hok, h => by
  rw [qc1] at h
  obtain ⟨e, ov1, H1, h1, h2, h3⟩ := hb hok h
  rw [xc]
  simp only [h2, qhP]
  cases e with
  | normal =>
   simp only at h3 ⊢
   obtain ⟨ov2, H2, h4, h5, h6⟩ := qbp h1 h3
   rw [h5]
   exact qbo hb m h4 h6
  | exit id => exact ⟨_, ov1, H1, h1, rfl, h3⟩
  | goto l => exact ⟨_, ov1, H1, h1, rfl, h3⟩
  | ret => exact ⟨_, ov1, H1, h1, rfl, h3⟩
theorem qcj {cfg : Cfg} {cf : Orac} (hcf : Le cf (EV cfg)) {fs : List Fact} (hfs : qz cfg fs) {m f : Nat} {rd : Option Nat} {n bs : Nat} {r : β} : ∀ (c : Code) {ov : Ov} {H : AH} {K : YE β}, OvOk n ov → yC cfg cf fs m f rd n bs c ov H K = some r →
  ∃ e ov' H', OvOk n ov' ∧ evC cfg (EV cfg) f rd bs c (den n ov) H = some (e, den n ov', H') ∧ K e ov' H' = some r := by
 intro c
 induction c with
 | skip => intro ov H K hok h; exact ⟨_, ov, H, hok, by simp only [evC], h⟩
 | label l => intro ov H K hok h; exact ⟨_, ov, H, hok, by simp only [evC], h⟩
 | exit id => intro ov H K hok h; exact ⟨_, ov, H, hok, by simp only [evC], h⟩
 | ret => intro ov H K hok h; exact ⟨_, ov, H, hok, by simp only [evC], h⟩
 | goto l => intro ov H K hok h; cases h
 | refuse s => intro ov H K hok h; cases h
 | region id ops draw =>
  intro ov H K hok h
  simp only [yC] at h
  simp only [evC]
  cases draw with
  | true =>
   simp only at h
   obtain ⟨h1, h⟩ := qP h
   rw [vr] at h
   obtain ⟨fps, ov', H', h2, h3, h⟩ := zA hcf hfs hok h
   obtain ⟨h4, h⟩ := qP h
   exact ⟨_, ov', H', h2, by simp only [if_true, h1, h3, qhP, h4], h⟩
  | false =>
   simp only at h
   obtain ⟨ov', H', h2, h3, h⟩ := zX hcf hfs hok h
   exact ⟨_, ov', H', h2, by simp only [qhJ, if_false, h3, Option.map_some], h⟩
 | seq x y ihx ihy =>
  intro ov H K hok h
  simp only [yC] at h
  simp only [evC]
  obtain ⟨e, ov1, H1, h1, h2, h⟩ := ihx hok h
  rw [h2]
  simp only [qhP]
  cases e with
  | normal =>
   simp only at h ⊢
   obtain ⟨ov2, h3, h4, h⟩ := zz h1 h
   rw [h4]
   exact ihy h3 h
  | exit id => exact ⟨_, ov1, H1, h1, rfl, h⟩
  | goto l => exact ⟨_, ov1, H1, h1, rfl, h⟩
  | ret => exact ⟨_, ov1, H1, h1, rfl, h⟩
 | cond c x y ihx ihy =>
  intro ov H K hok h
  simp only [yC] at h
  simp only [evC, zn hok]
  split at h
  ·rename_i t ht
   rw [ht]
   cases t with
   | true => exact ihx hok h
   | false => exact ihy hok h
  ·cases h
 | block id x ih =>
  intro ov H K hok h
  simp only [yC] at h
  simp only [evC]
  obtain ⟨e, ov1, H1, h1, h2, h⟩ := ih hok h
  rw [h2]
  simp only [qhP]
  cases e with
  | normal => exact ⟨_, ov1, H1, h1, rfl, h⟩
  | exit id' =>
   simp only at h ⊢
   cases hb : qhQ id' id with
   | true => rw [hb] at h; exact ⟨_, ov1, H1, h1, by simp, h⟩
   | false => rw [hb] at h; exact ⟨_, ov1, H1, h1, by simp, h⟩
  | goto l => exact ⟨_, ov1, H1, h1, rfl, h⟩
  | ret => exact ⟨_, ov1, H1, h1, rfl, h⟩
 | loop x ih =>
  intro ov H K hok h
  simp only [yC] at h
  simp only [evC]
  obtain ⟨ov1, H1, h1, h2, h⟩ := qbp hok h
  rw [h2]
  obtain ⟨e, ov2, H2, h3, h4, h⟩ := qbo (den' := evC cfg (EV cfg) f rd bs x) (fun hok h => ih hok h) m h1 h
  obtain ⟨ov3, h5, h6, h⟩ := zz h3 h
  rw [qeP h4]
  exact ⟨e, ov3, H2, h5, by simp only [Option.map_some, h6], h⟩
 | scope x ih =>
  intro ov H K hok h
  simp only [yC] at h
  simp only [evC]
  obtain ⟨e, ov1, H1, h1, h2, h⟩ := ih hok h
  rw [h2]
  simp only [qhP]
  cases e with
  | goto l => cases h
  | normal => exact ⟨_, ov1, H1, h1, rfl, h⟩
  | exit id => exact ⟨_, ov1, H1, h1, rfl, h⟩
  | ret => exact ⟨_, ov1, H1, h1, rfl, h⟩
 | rangeFunc g ps assign body =>
  intro ov H K hok h
  simp only [yC] at h
  simp only [evC]
  obtain ⟨ov1, H1, h1, h2, h⟩ := xa hok h
  rw [h2]
  simp only
  unfold qfw at h
  rw [xg qbS] at h
  split at h
  ·cases h
  ·rename_i q hq
   have hq : xP cfg (EV cfg) f rd bs g ps assign body (den n ov1) H1 = some q := by
    unfold xP at hq ⊢
    split at hq
    ·rename_i hl
     rw [if_pos hl]
     split at hq
     ·split at hq
      ·cases hq
      ·rename_i hx
       rw [if_neg hx]
       obtain ⟨q2, hq2, hq⟩ := qhB.1 hq
       rw [hcf _ _ _ _ hq2]
       exact hq
     ·cases hq
    ·cases hq
   rw [vr, xg qgJ, qaI] at h
   obtain ⟨hl, h⟩ := qP h
   have hl := qhF hl
   have hd := qdS q.2.1
   rw [hl] at hd
   refine ⟨q.1, _, q.2.2, ?_, ?_, h⟩
   ·exact zk _ _ _ (by omega)
   ·rw [hq, hd]
noncomputable def resO (rs : List ResultVar) (ty : TypeId → Option TI) (ov : Ov) (H : AH) : Option (List AV) :=
 match rs with
 | [] => some []
 | .tmp t :: l => (resO l ty ov H).map fun vs => qC t ov :: vs
 | .cell a t :: l =>
  match ty t with
  | some ti => (yn ti.d.agg ti.sz H (qC a ov)).bind fun v => (resO l ty ov H).map fun vs => v :: vs
  | none => none
theorem qcn {n : Nat} {ov : Ov} (hok : OvOk n ov) (ty : TypeId → Option TI) (H : AH) : ∀ rs : List ResultVar, ve rs ty (den n ov) H = resO rs ty ov H
 | [] => rfl
 | .tmp t :: l => by
  have : (den n ov).getD t .junk = qC t ov := congrFun (zn hok) (.tmp t)
  simp only [ve, resO, qcn hok ty H l, this]
 | .cell a t :: l => by
  have : (den n ov).getD a .junk = qC a ov := congrFun (zn hok) (.tmp a)
  simp only [ve, resO, qcn hok ty H l, this]
  cases ty t <;> rfl
noncomputable def yEnd (cfg : Cfg) (f n : Nat) (rs : List ResultVar) : YE (AV × AH) := fun e ov H =>
 match e with
 | .normal | .ret => yf n (cfg.lift f 0) ov H fun ov H => (match resO rs cfg.ty ov H with | some vs => gA (xy vs) fun v => some (v, H) | none => none)
 | _ => none
def zO : Nat → List AV → Ov
 | _, [] => []
 | i, a :: l => (i, a) :: zO (i + 1) l
theorem qbj : ∀ (l : List AV) (i n : Nat), i + l.length ≤ n → OvOk n (zO i l)
 | [], i, n, _ => fun p hp => by cases hp
 | a :: l, i, n, h => by
  simp only [List.length_cons] at h
  intro p hp
  rcases List.mem_cons.1 hp with rfl | hp
  ·show i < n; omega
  ·exact qbj l (i + 1) n (by omega) p hp
theorem qcQ : ∀ (l : List AV) (i t : Nat), qC t (zO i l) = if i ≤ t then (l[t - i]?).getD .junk else .junk
 | [], i, t => by simp [zO, qac]
 | a :: l, i, t => by
  rw [zO, xE, qcQ l (i + 1) t]
  by_cases e2 : i = t
  ·subst e2; simp
  ·have h1 : qhQ i t = false := by rw [← Bool.not_eq_true]; intro h'; exact e2 (qhF h')
   simp only [h1, cond_false]
   by_cases h3 : i + 1 ≤ t
   ·have h4 : t - i = (t - (i + 1)) + 1 := by omega
    rw [if_pos h3, if_pos (by omega), h4, List.getElem?_cons_succ]
   ·rw [if_neg h3, if_neg (by omega)]
theorem qgA {l : List AV} {n : Nat} (h : l.length ≤ n) : den n (zO 0 l) = l ++ qhN (n - l.length) .junk := by
 refine qcu (qbj l 0 n (by omega)) (by simp; omega) fun t ht => ?_
 rw [qcQ, if_pos (Nat.zero_le _), Nat.sub_zero]
 by_cases hl : t < l.length
 ·rw [qhH hl, qhE hl]; rfl
 ·rw [qhI (by omega), List.getElem?_replicate, if_pos (by omega), List.getElem?_eq_none (by omega)]; rfl
noncomputable def yY2 (id : Nat) : YE (AV × AH) := fun e _ H =>
 match H[id]? with
 | some (.loop f' fr' ps' assign' body' _ _) =>
  match e with
  | .normal => gS (H.set id (.loop f' fr' ps' assign' body' none .ready)) fun H' => some (.bool true, H')
  | .ret => gS (H.set id (.loop f' fr' ps' assign' body' (some .ret) .done)) fun H' => some (.bool false, H')
  | .exit x => gS (H.set id (.loop f' fr' ps' assign' body' (some (.exit x)) .done)) fun H' => some (.bool false, H')
  | .goto _ => none
 | _ => none
noncomputable def yF (cfg : Cfg) (look : Nat → Option Func) (fs : List Fact) (m : Nat) : Nat → Orac
 | 0, _, _, _ => none
 | d + 1, .f f, args, H =>
  match cfg.ext f with
  | some s => s args H
  | none =>
   if cfg.known f then
    match look f with
    | some fn =>
     match fn.body with
     | some c => cond (Nat.ble args.length fn.ntmps) (fNat H.length fun bs => fNat fn.ntmps fun n => gS (zO 0 args) fun ov => yC cfg (yF cfg look fs m d) fs m f none n bs c ov H (yEnd cfg f n fn.results.toList)) none
     | none => none
    | none => none
   else none
 | d + 1, .y id, args, H =>
  match H[id]? with
  | some (.loop f fr ps assign body _ .ready) =>
   cond (qhQ args.length ps.length)
    (fNat H.length fun bs => fNat (vg fr ps args).length fun n => gS (spGo 0 (vg fr ps args)) fun ov => yC cfg (yF cfg look fs m d) fs m f (some id) n bs assign ov H fun e ov H =>
     match e with
     | .normal =>
      (match H[id]? with
      | some (.loop f' fr' ps' assign' body' pend' .ready) => gS (H.set id (.loop f' fr' ps' assign' body' pend' .busy)) fun H' => yC cfg (yF cfg look fs m d) fs m f (some id) n bs body ov H' (yY2 id)
      | _ => none)
     | _ => none) none
  | _ => none
theorem qeR (cfg : Cfg) {look : Nat → Option Func} (hl : ∀ f fn, look f = some fn → cfg.P.funcs[f]? = some fn) {fs : List Fact} (hfs : qz cfg fs) (m : Nat) : ∀ (d : Nat) (t : Tgt) (a : List AV) (H : AH) (r), yF cfg look fs m d t a H = some r → EV cfg t a H = some r
 | 0, _, _, _, _, h => by cases h
 | d + 1, t, a, H, r, h => by
  have ih := qeR cfg hl hfs m d
  refine qhx ?_
  cases t with
  | f f =>
   simp only [yF] at h
   unfold vE
   split at h
   ·rename_i s hs
    simp only [hs]
    exact h
   ·rename_i hs
    simp only [hs]
    split at h
    ·rename_i hk
     rw [if_pos hk]
     split at h
     ·rename_i fn hf
      simp only [hl f fn hf]
      split at h
      ·rename_i c hb
       simp only [hb]
       obtain ⟨hle, h⟩ := qP h
       rw [Nat.ble_eq] at hle
       simp only [vP, vr] at h
       obtain ⟨e, ov', H', h1, h2, h3⟩ := qcj ih hfs c (qbj a 0 fn.ntmps (by omega)) h
       rw [qgA hle] at h2
       rw [h2]
       simp only [qhP]
       unfold yEnd at h3
       have fin : ∀ (e : Ex), (e = .normal ∨ e = .ret) → (yf fn.ntmps (cfg.lift f 0) ov' H' fun ov H => (match resO fn.results.toList cfg.ty ov H with | some vs => gA (xy vs) fun v => some (v, H) | none => none)) = some r →
         yN cfg fn.results.toList (e, qT (cfg.lift f 0) (den fn.ntmps ov') H') = some r := by
        intro e he h3
        obtain ⟨ov2, H2, h4, h5, h6⟩ := xa h1 h3
        rw [h5]
        unfold yN
        rcases he with rfl | rfl <;>
        ·simp only [qcn h4]
         split at h6
         ·rename_i vs hv
          rw [xU] at h6
          rw [hv]
          exact h6
         ·cases h6
       cases e with
       | normal => exact fin _ (.inl rfl) h3
       | ret => exact fin _ (.inr rfl) h3
       | exit x => cases h3
       | goto l => cases h3
      ·cases h
     ·cases h
    ·cases h
  | y id =>
   simp only [yF] at h
   unfold vE
   split at h
   ·rename_i f fr ps assign body p hlp
    simp only [hlp]
    obtain ⟨hlen, h⟩ := qP h
    rw [if_pos (qhF hlen)]
    simp only [vP, vr] at h
    obtain ⟨e, ov1, H1, h1, h2, h3⟩ := qcj ih hfs assign (zk _ 0 _ (by omega)) h
    rw [qdS] at h2
    rw [h2]
    simp only [qhP]
    cases e with
    | normal =>
     simp only at h3 ⊢
     split at h3
     ·rename_i f' fr' ps' assign' body' pend' hl1
      simp only [hl1]
      obtain ⟨e2, ov2, H2, h4, h5, h6⟩ := qcj ih hfs body h1 h3
      rw [h5]
      simp only [qhP]
      unfold yY2 at h6
      split at h6
      ·rename_i hl2
       simp only [hl2]
       cases e2 with
       | normal => simp only [vr] at h6; exact h6
       | ret => simp only [vr] at h6; exact h6
       | exit x => simp only [vr] at h6; exact h6
       | goto l => cases h6
      ·cases h6
     ·cases h3
    | exit x => cases h3
    | goto l => cases h3
    | ret => cases h3
   ·cases h
theorem qhi {cfg : Cfg} {look : Nat → Option Func} (hl : ∀ f fn, look f = some fn → cfg.P.funcs[f]? = some fn) {fs : List Fact} (hfs : qz cfg fs) {f : Nat} {args : List AV} {v : AV} (m d : Nat)
  (h : (match yF cfg look fs m d (.f f) args [] with | some r => some r.1 | none => none) = some v) : EVs (EV cfg) f args = some v := by
 unfold EVs
 cases hx : yF cfg look fs m d (.f f) args [] with
 | none => rw [hx] at h; cases h
 | some r => rw [hx] at h; rw [qeR cfg hl hfs m d _ _ _ _ hx]; exact h
theorem qhj {cfg : Cfg} {look : Nat → Option Func} (hl : ∀ f fn, look f = some fn → cfg.P.funcs[f]? = some fn) {fs : List Fact} (hfs : qz cfg fs) {f : Nat} {args : List AV} {v : AV} (m d : Nat)
  (h : (match yF cfg look fs m d (.f f) args [] with | some r => gA (r.1.frz r.1.msIds r.2).fg some | none => none) = some v) : EVf (EV cfg) f args = some v := by
 unfold EVf
 cases hx : yF cfg look fs m d (.f f) args [] with
 | none => rw [hx] at h; cases h
 | some r => rw [hx] at h; rw [qeR cfg hl hfs m d _ _ _ _ hx]; simp only [xU] at h; exact h
def yQ : List AV → AH → Option (AV × AH)
 | [.str s, .int .u8 c], H => some (.int .i64 (Go.Lib.indexByte s c.toNat.toUInt8), H)
 | _, _ => none
def zb : List AV → AH → Option (AV × AH)
 | [.str s, .str t], H => if s.length < 4294967281 then some (.bool (Go.Lib.contains s t), H) else none
 | _, _ => none
def qbd : List AV → AH → Option (AV × AH)
 | [.str s, .int .i64 10, .int .i64 64], H =>
  if s.length ≤ 281474976710656 then
   match Go.Lib.parseUintB 64 s with
   | .ok u => some (.tup [.int .u64 u, .nilI], H)
   | Go.Lib.NumEnd.syntax => some (.tup [.int .u64 0, .ifc 114 .junk], H)
   | .range => some (.tup [.int .u64 18446744073709551615, .ifc 114 .junk], H)
  else none
 | _, _ => none
def decF : Nat → Nat → List UInt8
 | 0, _ => []
 | k + 1, u => if Nat.blt u 10 then [UInt8.ofNat (48 + u)] else decF k (u / 10) ++ [UInt8.ofNat (48 + u % 10)]
theorem qcv : ∀ (k u : Nat), u < 10 ^ (k + 1) → decF (k + 1) u = Go.Lib.decDigits u
 | 0, u, h => by
  rw [decF, Go.Lib.decDigits]
  have h : u < 10 := by simpa using h
  rw [if_pos (by rw [qhO]; exact h), dif_pos h]
 | k + 1, u, h => by
  rw [decF, Go.Lib.decDigits]
  by_cases hu : u < 10
  ·rw [if_pos (by rw [qhO]; exact hu), dif_pos hu]
  ·rw [if_neg (by rw [qhO]; exact hu), dif_neg hu, qcv k (u / 10) (by rw [Nat.pow_succ] at h; omega)]
def qfa (n : Int) : List UInt8 := if n < 0 then 45 :: decF 20 n.natAbs else decF 20 n.toNat
theorem qgr {n : Int} (h0 : -9223372036854775808 ≤ n) (h1 : n ≤ 9223372036854775807) : qfa n = Go.Lib.itoa n := by
 unfold qfa Go.Lib.itoa
 have h2 : n.natAbs < 10 ^ 19 := by omega
 rw [qcv 19 _ (by omega), qcv 19 _ (by omega)]
def qct : List AV → AH → Option (AV × AH)
 | [.int .i64 n], H => if -9223372036854775808 ≤ n ∧ n ≤ 9223372036854775807 then some (.str (qfa n), H) else none
 | _, _ => none
def zj : List (List AV) → Option (List (List UInt8))
 | [] => some []
 | [.str s] :: l => match zj l with | some q => some (s :: q) | none => none
 | _ :: _ => none
def qcs : List AV → AH → Option (AV × AH)
 | [.sl rows, .str sep], H =>
  match zj rows with
  | some xs => if xs.length ≤ 140737488355328 ∧ (Go.Lib.join xs sep).length ≤ 140737488355328 then some (.str (Go.Lib.join xs sep), H) else none
  | none => none
 | _, _ => none
def qbQ (tab : TypeId → Option TypeId) (T e : TypeId) : Bool := match tab T with | some e' => qhQ e' e | none => false
def yP (tab : TypeId → Option TypeId) : List AV → AH → Option (AV × AH)
 | [.ptr 0 0 0, .int .u8 c], .bld T e s :: H => if qbQ tab T e = true ∧ 0 ≤ c ∧ c ≤ 255 ∧ s.length < 140737488355328 then some (.nilI, .bld T e (s ++ [c.toNat.toUInt8]) :: H) else none
 | _, _ => none
def xO (tab : TypeId → Option TypeId) : List AV → AH → Option (AV × AH)
 | [.ptr 0 0 0, .str t], .bld T e s :: H => if qbQ tab T e = true ∧ s.length + t.length ≤ 140737488355328 then some (.tup [.int .i64 t.length, .nilI], .bld T e (s ++ t) :: H) else none
 | _, _ => none
def qap (tab : TypeId → Option TypeId) : List AV → AH → Option (AV × AH)
 | [.ptr 0 0 0], .bld T e s :: H => if qbQ tab T e = true ∧ s.length < 140737488355328 then some (.str s, .bld T e s :: H) else none
 | _, _ => none
end Go.Av
end
section
namespace Go.Proofs.YtnmfakkjnbpjpaaDoor
open Go.Av
def qeT : BT TI := .node 74 ({ d := .struct [(0, 72)], sz := 2, bytes := 32, zero := [.nilP, .nilS], eq := false }) (.node 40 ({ d := .struct [(0, 9), (1, 3), (2, 23)], sz := 3, bytes := 32, zero := [.str [], .int .i64 0, .int .i64 0], eq := true }) (.node 21 ({ d := .int .i32, sz := 1, bytes := 4, zero := [.int .i32 0], eq := false }) (.node 12 ({ d := .int .u64, sz := 1, bytes := 8, zero := [.int .u64 0], eq := false }) (.node 5 ({ d := .int .u8, sz := 1, bytes := 1, zero := [.int .u8 0], eq := false }) (.node 3 ({ d := .int .i64, sz := 1, bytes := 8, zero := [.int .i64 0], eq := false }) (.node 2 ({ d := .int .i64, sz := 1, bytes := 8, zero := [.int .i64 0], eq := false }) (.node 1 ({ d := .func, sz := 1, bytes := 8, zero := [.nilF], eq := false }) .leaf .leaf) .leaf) (.node 4 ({ d := .bool, sz := 1, bytes := 1, zero := [.bool false], eq := false }) .leaf .leaf)) (.node 7 ({ d := .struct [(0, 2), (1, 3), (2, 4), (3, 6)], sz := 4, bytes := 24, zero := [.int .i64 0, .int .i64 0, .bool false, .int .u8 0], eq := true }) (.node 6 ({ d := .int .u8, sz := 1, bytes := 1, zero := [.int .u8 0], eq := false }) .leaf .leaf) (.node 9 ({ d := .str, sz := 1, bytes := 16, zero := [.str []], eq := false }) .leaf .leaf))) (.node 17 ({ d := .ptr 147, sz := 1, bytes := 8, zero := [.nilP], eq := false }) (.node 15 ({ d := .ptr 136, sz := 1, bytes := 8, zero := [.nilP], eq := false }) (.node 13 ({ d := .struct [(0, 9), (1, 12)], sz := 2, bytes := 24, zero := [.str [], .int .u64 0], eq := false }) .leaf .leaf) (.node 16 ({ d := .ptr 139, sz := 1, bytes := 8, zero := [.nilP], eq := false }) .leaf .leaf)) (.node 19 ({ d := .struct [(0, 17)], sz := 1, bytes := 8, zero := [.nilP], eq := false }) (.node 18 ({ d := .struct [(0, 17)], sz := 1, bytes := 8, zero := [.nilP], eq := false }) .leaf .leaf) (.node 20 ({ d := .iface, sz := 1, bytes := 16, zero := [.nilI], eq := false }) .leaf .leaf)))) (.node 31 ({ d := .func, sz := 1, bytes := 8, zero := [.nilF], eq := false }) (.node 27 ({ d := .func, sz := 1, bytes := 8, zero := [.nilF], eq := false }) (.node 24 ({ d := .struct [(0, 23), (1, 3)], sz := 2, bytes := 16, zero := [.int .i64 0, .int .i64 0], eq := true }) (.node 23 ({ d := .int .i64, sz := 1, bytes := 8, zero := [.int .i64 0], eq := false }) (.node 22 ({ d := .slice 30, sz := 1, bytes := 24, zero := [.nilS], eq := false }) .leaf .leaf) .leaf) (.node 25 ({ d := .struct [(0, 23), (1, 3)], sz := 2, bytes := 16, zero := [.int .i64 0, .int .i64 0], eq := true }) .leaf .leaf)) (.node 29 ({ d := .struct [(0, 3), (1, 3), (2, 3), (3, 9)], sz := 4, bytes := 40, zero := [.int .i64 0, .int .i64 0, .int .i64 0, .str []], eq := true }) (.node 28 ({ d := .func, sz := 1, bytes := 8, zero := [.nilF], eq := false }) .leaf .leaf) (.node 30 ({ d := .struct [(0, 3), (1, 3), (2, 3), (3, 9)], sz := 4, bytes := 40, zero := [.int .i64 0, .int .i64 0, .int .i64 0, .str []], eq := true }) .leaf .leaf))) (.node 35 ({ d := .func, sz := 1, bytes := 8, zero := [.nilF], eq := false }) (.node 33 ({ d := .slice 5, sz := 1, bytes := 24, zero := [.nilS], eq := false }) (.node 32 ({ d := .func, sz := 1, bytes := 8, zero := [.nilF], eq := false }) .leaf .leaf) (.node 34 ({ d := .func, sz := 1, bytes := 8, zero := [.nilF], eq := false }) .leaf .leaf)) (.node 38 ({ d := .func, sz := 1, bytes := 8, zero := [.nilF], eq := false }) (.node 36 ({ d := .func, sz := 1, bytes := 8, zero := [.nilF], eq := false }) .leaf .leaf) (.node 39 ({ d := .ptr 41, sz := 1, bytes := 8, zero := [.nilP], eq := false }) .leaf .leaf))))) (.node 58 ({ d := .func, sz := 1, bytes := 8, zero := [.nilF], eq := false }) (.node 49 ({ d := .func, sz := 1, bytes := 8, zero := [.nilF], eq := false }) (.node 45 ({ d := .struct [(0, 9), (1, 3), (2, 3), (3, 23), (4, 22)], sz := 5, bytes := 64, zero := [.str [], .int .i64 0, .int .i64 0, .int .i64 0, .nilS], eq := false }) (.node 43 ({ d := .ptr 45, sz := 1, bytes := 8, zero := [.nilP], eq := false }) (.node 42 ({ d := .func, sz := 1, bytes := 8, zero := [.nilF], eq := false }) (.node 41 ({ d := .struct [(0, 9), (1, 3), (2, 23)], sz := 3, bytes := 32, zero := [.str [], .int .i64 0, .int .i64 0], eq := true }) .leaf .leaf) .leaf) (.node 44 ({ d := .struct [(0, 9), (1, 3), (2, 3), (3, 23), (4, 22)], sz := 5, bytes := 64, zero := [.str [], .int .i64 0, .int .i64 0, .int .i64 0, .nilS], eq := false }) .leaf .leaf)) (.node 47 ({ d := .slice 9, sz := 1, bytes := 24, zero := [.nilS], eq := false }) (.node 46 ({ d := .func, sz := 1, bytes := 8, zero := [.nilF], eq := false }) .leaf .leaf) (.node 48 ({ d := .func, sz := 1, bytes := 8, zero := [.nilF], eq := false }) .leaf .leaf))) (.node 53 ({ d := .struct [(0, 3), (1, 3), (2, 9), (3, 51)], sz := 4, bytes := 56, zero := [.int .i64 0, .int .i64 0, .str [], .nilS], eq := false }) (.node 51 ({ d := .slice 53, sz := 1, bytes := 24, zero := [.nilS], eq := false }) (.node 50 ({ d := .func, sz := 1, bytes := 8, zero := [.nilF], eq := false }) .leaf .leaf) (.node 52 ({ d := .struct [(0, 3), (1, 3), (2, 9), (3, 51)], sz := 4, bytes := 56, zero := [.int .i64 0, .int .i64 0, .str [], .nilS], eq := false }) .leaf .leaf)) (.node 55 ({ d := .func, sz := 1, bytes := 8, zero := [.nilF], eq := false }) (.node 54 ({ d := .func, sz := 1, bytes := 8, zero := [.nilF], eq := false }) .leaf .leaf) (.node 57 ({ d := .func, sz := 1, bytes := 8, zero := [.nilF], eq := false }) .leaf .leaf)))) (.node 66 ({ d := .func, sz := 1, bytes := 8, zero := [.nilF], eq := false }) (.node 62 ({ d := .func, sz := 1, bytes := 8, zero := [.nilF], eq := false }) (.node 60 ({ d := .func, sz := 1, bytes := 8, zero := [.nilF], eq := false }) (.node 59 ({ d := .func, sz := 1, bytes := 8, zero := [.nilF], eq := false }) .leaf .leaf) (.node 61 ({ d := .func, sz := 1, bytes := 8, zero := [.nilF], eq := false }) .leaf .leaf)) (.node 64 ({ d := .func, sz := 1, bytes := 8, zero := [.nilF], eq := false }) (.node 63 ({ d := .func, sz := 1, bytes := 8, zero := [.nilF], eq := false }) .leaf .leaf) (.node 65 ({ d := .func, sz := 1, bytes := 8, zero := [.nilF], eq := false }) .leaf .leaf))) (.node 70 ({ d := .ptr 72, sz := 1, bytes := 8, zero := [.nilP], eq := false }) (.node 68 ({ d := .func, sz := 1, bytes := 8, zero := [.nilF], eq := false }) (.node 67 ({ d := .func, sz := 1, bytes := 8, zero := [.nilF], eq := false }) .leaf .leaf) (.node 69 ({ d := .ptr 74, sz := 1, bytes := 8, zero := [.nilP], eq := false }) .leaf .leaf)) (.node 72 ({ d := .struct [(0, 70), (1, 33)], sz := 2, bytes := 32, zero := [.nilP, .nilS], eq := false }) (.node 71 ({ d := .struct [(0, 70), (1, 33)], sz := 2, bytes := 32, zero := [.nilP, .nilS], eq := false }) .leaf .leaf) (.node 73 ({ d := .struct [(0, 72)], sz := 2, bytes := 32, zero := [.nilP, .nilS], eq := false }) .leaf .leaf)))))) (.node 112 ({ d := .int .i64, sz := 1, bytes := 8, zero := [.int .i64 0], eq := false }) (.node 93 ({ d := .func, sz := 1, bytes := 8, zero := [.nilF], eq := false }) (.node 85 ({ d := .func, sz := 1, bytes := 8, zero := [.nilF], eq := false }) (.node 79 ({ d := .iface, sz := 1, bytes := 16, zero := [.nilI], eq := false }) (.node 77 ({ d := .func, sz := 1, bytes := 8, zero := [.nilF], eq := false }) (.node 76 ({ d := .func, sz := 1, bytes := 8, zero := [.nilF], eq := false }) (.node 75 ({ d := .func, sz := 1, bytes := 8, zero := [.nilF], eq := false }) .leaf .leaf) .leaf) (.node 78 ({ d := .iface, sz := 1, bytes := 16, zero := [.nilI], eq := false }) .leaf .leaf)) (.node 82 ({ d := .int .u64, sz := 1, bytes := 8, zero := [.int .u64 0], eq := false }) (.node 81 ({ d := .func, sz := 1, bytes := 8, zero := [.nilF], eq := false }) .leaf .leaf) (.node 84 ({ d := .func, sz := 1, bytes := 8, zero := [.nilF], eq := false }) .leaf .leaf))) (.node 89 ({ d := .func, sz := 1, bytes := 8, zero := [.nilF], eq := false }) (.node 87 ({ d := .func, sz := 1, bytes := 8, zero := [.nilF], eq := false }) (.node 86 ({ d := .func, sz := 1, bytes := 8, zero := [.nilF], eq := false }) .leaf .leaf) (.node 88 ({ d := .func, sz := 1, bytes := 8, zero := [.nilF], eq := false }) .leaf .leaf)) (.node 91 ({ d := .func, sz := 1, bytes := 8, zero := [.nilF], eq := false }) (.node 90 ({ d := .func, sz := 1, bytes := 8, zero := [.nilF], eq := false }) .leaf .leaf) (.node 92 ({ d := .func, sz := 1, bytes := 8, zero := [.nilF], eq := false }) .leaf .leaf)))) (.node 102 ({ d := .func, sz := 1, bytes := 8, zero := [.nilF], eq := false }) (.node 98 ({ d := .ptr 5, sz := 1, bytes := 8, zero := [.nilP], eq := false }) (.node 96 ({ d := .func, sz := 1, bytes := 8, zero := [.nilF], eq := false }) (.node 95 ({ d := .func, sz := 1, bytes := 8, zero := [.nilF], eq := false }) (.node 94 ({ d := .func, sz := 1, bytes := 8, zero := [.nilF], eq := false }) .leaf .leaf) .leaf) (.node 97 ({ d := .func, sz := 1, bytes := 8, zero := [.nilF], eq := false }) .leaf .leaf)) (.node 100 ({ d := .int .u64, sz := 1, bytes := 8, zero := [.int .u64 0], eq := false }) (.node 99 ({ d := .func, sz := 1, bytes := 8, zero := [.nilF], eq := false }) .leaf .leaf) (.node 101 ({ d := .array 24 5, sz := 24, bytes := 24, zero := [.int .u8 0, .int .u8 0, .int .u8 0, .int .u8 0, .int .u8 0, .int .u8 0, .int .u8 0, .int .u8 0, .int .u8 0, .int .u8 0, .int .u8 0, .int .u8 0, .int .u8 0, .int .u8 0, .int .u8 0, .int .u8 0, .int .u8 0, .int .u8 0, .int .u8 0, .int .u8 0, .int .u8 0, .int .u8 0, .int .u8 0, .int .u8 0], eq := false }) .leaf .leaf))) (.node 107 ({ d := .func, sz := 1, bytes := 8, zero := [.nilF], eq := false }) (.node 105 ({ d := .func, sz := 1, bytes := 8, zero := [.nilF], eq := false }) (.node 103 ({ d := .func, sz := 1, bytes := 8, zero := [.nilF], eq := false }) .leaf .leaf) (.node 106 ({ d := .func, sz := 1, bytes := 8, zero := [.nilF], eq := false }) .leaf .leaf)) (.node 110 ({ d := .func, sz := 1, bytes := 8, zero := [.nilF], eq := false }) (.node 108 ({ d := .func, sz := 1, bytes := 8, zero := [.nilF], eq := false }) .leaf .leaf) (.node 111 ({ d := .func, sz := 1, bytes := 8, zero := [.nilF], eq := false }) .leaf .leaf))))) (.node 130 ({ d := .ptr 132, sz := 1, bytes := 8, zero := [.nilP], eq := false }) (.node 121 ({ d := .array 65 5, sz := 65, bytes := 65, zero := [.int .u8 0, .int .u8 0, .int .u8 0, .int .u8 0, .int .u8 0, .int .u8 0, .int .u8 0, .int .u8 0, .int .u8 0, .int .u8 0, .int .u8 0, .int .u8 0, .int .u8 0, .int .u8 0, .int .u8 0, .int .u8 0, .int .u8 0, .int .u8 0, .int .u8 0, .int .u8 0, .int .u8 0, .int .u8 0, .int .u8 0, .int .u8 0, .int .u8 0, .int .u8 0, .int .u8 0, .int .u8 0, .int .u8 0, .int .u8 0, .int .u8 0, .int .u8 0, .int .u8 0, .int .u8 0, .int .u8 0, .int .u8 0, .int .u8 0, .int .u8 0, .int .u8 0, .int .u8 0, .int .u8 0, .int .u8 0, .int .u8 0, .int .u8 0, .int .u8 0, .int .u8 0, .int .u8 0, .int .u8 0, .int .u8 0, .int .u8 0, .int .u8 0, .int .u8 0, .int .u8 0, .int .u8 0, .int .u8 0, .int .u8 0, .int .u8 0, .int .u8 0, .int .u8 0, .int .u8 0, .int .u8 0, .int .u8 0, .int .u8 0, .int .u8 0, .int .u8 0], eq := false }) (.node 117 ({ d := .func, sz := 1, bytes := 8, zero := [.nilF], eq := false }) (.node 115 ({ d := .func, sz := 1, bytes := 8, zero := [.nilF], eq := false }) (.node 114 ({ d := .ptr 125, sz := 1, bytes := 8, zero := [.nilP], eq := false }) (.node 113 ({ d := .func, sz := 1, bytes := 8, zero := [.nilF], eq := false }) .leaf .leaf) .leaf) (.node 116 ({ d := .func, sz := 1, bytes := 8, zero := [.nilF], eq := false }) .leaf .leaf)) (.node 119 ({ d := .array 20 82, sz := 20, bytes := 160, zero := [.int .u64 0, .int .u64 0, .int .u64 0, .int .u64 0, .int .u64 0, .int .u64 0, .int .u64 0, .int .u64 0, .int .u64 0, .int .u64 0, .int .u64 0, .int .u64 0, .int .u64 0, .int .u64 0, .int .u64 0, .int .u64 0, .int .u64 0, .int .u64 0, .int .u64 0, .int .u64 0], eq := false }) (.node 118 ({ d := .func, sz := 1, bytes := 8, zero := [.nilF], eq := false }) .leaf .leaf) (.node 120 ({ d := .int .u32, sz := 1, bytes := 4, zero := [.int .u32 0], eq := false }) .leaf .leaf))) (.node 125 ({ d := .struct [(0, 9), (1, 9), (2, 79)], sz := 3, bytes := 48, zero := [.str [], .str [], .nilI], eq := false }) (.node 123 ({ d := .func, sz := 1, bytes := 8, zero := [.nilF], eq := false }) (.node 122 ({ d := .func, sz := 1, bytes := 8, zero := [.nilF], eq := false }) .leaf .leaf) (.node 124 ({ d := .struct [(0, 9), (1, 9), (2, 79)], sz := 3, bytes := 48, zero := [.str [], .str [], .nilI], eq := false }) .leaf .leaf)) (.node 128 ({ d := .func, sz := 1, bytes := 8, zero := [.nilF], eq := false }) (.node 126 ({ d := .func, sz := 1, bytes := 8, zero := [.nilF], eq := false }) .leaf .leaf) (.node 129 ({ d := .func, sz := 1, bytes := 8, zero := [.nilF], eq := false }) .leaf .leaf)))) (.node 140 ({ d := .func, sz := 1, bytes := 8, zero := [.nilF], eq := false }) (.node 134 ({ d := .array 64 5, sz := 64, bytes := 64, zero := [.int .u8 0, .int .u8 0, .int .u8 0, .int .u8 0, .int .u8 0, .int .u8 0, .int .u8 0, .int .u8 0, .int .u8 0, .int .u8 0, .int .u8 0, .int .u8 0, .int .u8 0, .int .u8 0, .int .u8 0, .int .u8 0, .int .u8 0, .int .u8 0, .int .u8 0, .int .u8 0, .int .u8 0, .int .u8 0, .int .u8 0, .int .u8 0, .int .u8 0, .int .u8 0, .int .u8 0, .int .u8 0, .int .u8 0, .int .u8 0, .int .u8 0, .int .u8 0, .int .u8 0, .int .u8 0, .int .u8 0, .int .u8 0, .int .u8 0, .int .u8 0, .int .u8 0, .int .u8 0, .int .u8 0, .int .u8 0, .int .u8 0, .int .u8 0, .int .u8 0, .int .u8 0, .int .u8 0, .int .u8 0, .int .u8 0, .int .u8 0, .int .u8 0, .int .u8 0, .int .u8 0, .int .u8 0, .int .u8 0, .int .u8 0, .int .u8 0, .int .u8 0, .int .u8 0, .int .u8 0, .int .u8 0, .int .u8 0, .int .u8 0, .int .u8 0], eq := false }) (.node 132 ({ d := .struct [(0, 9)], sz := 1, bytes := 16, zero := [.str []], eq := true }) (.node 131 ({ d := .struct [(0, 9)], sz := 1, bytes := 16, zero := [.str []], eq := true }) .leaf .leaf) (.node 133 ({ d := .array 32 5, sz := 32, bytes := 32, zero := [.int .u8 0, .int .u8 0, .int .u8 0, .int .u8 0, .int .u8 0, .int .u8 0, .int .u8 0, .int .u8 0, .int .u8 0, .int .u8 0, .int .u8 0, .int .u8 0, .int .u8 0, .int .u8 0, .int .u8 0, .int .u8 0, .int .u8 0, .int .u8 0, .int .u8 0, .int .u8 0, .int .u8 0, .int .u8 0, .int .u8 0, .int .u8 0, .int .u8 0, .int .u8 0, .int .u8 0, .int .u8 0, .int .u8 0, .int .u8 0, .int .u8 0, .int .u8 0], eq := false }) .leaf .leaf)) (.node 137 ({ d := .array 0 16, sz := 0, bytes := 0, zero := [], eq := false }) (.node 135 ({ d := .struct [(0, 17), (1, 17), (2, 17), (3, 9)], sz := 4, bytes := 40, zero := [.nilP, .nilP, .nilP, .str []], eq := false }) .leaf .leaf) (.node 138 ({ d := .struct [(0, 137)], sz := 0, bytes := 0, zero := [], eq := false }) .leaf .leaf))) (.node 144 ({ d := .int .i32, sz := 1, bytes := 4, zero := [.int .i32 0], eq := false }) (.node 142 ({ d := .int .u8, sz := 1, bytes := 1, zero := [.int .u8 0], eq := false }) (.node 141 ({ d := .int .u8, sz := 1, bytes := 1, zero := [.int .u8 0], eq := false }) .leaf .leaf) (.node 143 ({ d := .func, sz := 1, bytes := 8, zero := [.nilF], eq := false }) .leaf .leaf)) (.node 146 ({ d := .struct [(0, 12), (1, 12), (2, 120), (3, 141), (4, 5), (5, 5), (6, 142), (7, 143), (8, 98), (9, 144), (10, 145)], sz := 11, bytes := 48, zero := [.int .u64 0, .int .u64 0, .int .u32 0, .int .u8 0, .int .u8 0, .int .u8 0, .int .u8 0, .nilF, .nilP, .int .i32 0, .int .i32 0], eq := false }) (.node 145 ({ d := .int .i32, sz := 1, bytes := 4, zero := [.int .i32 0], eq := false }) .leaf .leaf) (.node 147 ({ d := .struct [(0, 12), (1, 12), (2, 120), (3, 141), (4, 5), (5, 5), (6, 142), (7, 143), (8, 98), (9, 144), (10, 145)], sz := 11, bytes := 48, zero := [.int .u64 0, .int .u64 0, .int .u32 0, .int .u8 0, .int .u8 0, .int .u8 0, .int .u8 0, .nilF, .nilP, .int .i32 0, .int .i32 0], eq := false }) .leaf .leaf))))))
def qgS : BT CMode := .node 54 (.bld) (.node 28 (.scal) (.node 14 (.inpf) (.node 10 (.scal) (.node 8 (.scal) (.node 6 (.pfrz) (.node 5 (.scal) .leaf .leaf) .leaf) (.node 9 (.scal) .leaf .leaf)) (.node 12 (.pfrz) (.node 11 (.scal) .leaf .leaf) (.node 13 (.inpl) .leaf .leaf))) (.node 24 (.pfrz) (.node 22 (.scal) (.node 21 (.scal) .leaf .leaf) (.node 23 (.pfrz) .leaf .leaf)) (.node 26 (.inpf) (.node 25 (.scal) .leaf .leaf) (.node 27 (.scal) .leaf .leaf)))) (.node 37 (.scal) (.node 33 (.scal) (.node 31 (.inpf) (.node 30 (.inpf) (.node 29 (.scal) .leaf .leaf) .leaf) (.node 32 (.inpf) .leaf .leaf)) (.node 35 (.inpf) (.node 34 (.inpf) .leaf .leaf) (.node 36 (.scal) .leaf .leaf))) (.node 49 (.scal) (.node 39 (.inpf) (.node 38 (.scal) .leaf .leaf) (.node 47 (.scal) .leaf .leaf)) (.node 51 (.pfrz) (.node 50 (.scal) .leaf .leaf) (.node 53 (.scal) .leaf .leaf))))) (.node 76 (.bld) (.node 68 (.scal) (.node 60 (.inpf) (.node 57 (.bld) (.node 56 (.bld) (.node 55 (.bld) .leaf .leaf) .leaf) (.node 58 (.scal) .leaf .leaf)) (.node 63 (.scal) (.node 61 (.scal) .leaf .leaf) (.node 65 (.scal) .leaf .leaf))) (.node 72 (.bld) (.node 70 (.scal) (.node 69 (.scal) .leaf .leaf) (.node 71 (.scal) .leaf .leaf)) (.node 74 (.bld) (.node 73 (.bld) .leaf .leaf) (.node 75 (.bld) .leaf .leaf)))) (.node 100 (.scal) (.node 88 (.scal) (.node 80 (.scal) (.node 77 (.scal) .leaf .leaf) (.node 81 (.scal) .leaf .leaf)) (.node 92 (.scal) (.node 90 (.scal) .leaf .leaf) (.node 99 (.scal) .leaf .leaf))) (.node 108 (.scal) (.node 103 (.scal) (.node 101 (.scal) .leaf .leaf) (.node 106 (.scal) .leaf .leaf)) (.node 111 (.scal) (.node 110 (.scal) .leaf .leaf) (.node 112 (.scal) .leaf .leaf)))))
def qhg : BT (BT (List Nat)) := .node 5 (.node 5 ([3]) (.node 4 ([4]) .leaf .leaf) .leaf) .leaf .leaf
noncomputable def qc3 {α : Type} (a b : Nat) (t : BT (BT α)) : Option α := match t.look a with | some u => u.look b | none => none
noncomputable def qgY (f r k : Nat) : Bool := match qc3 f r qhg with | some l => qM k l | none => false
def qgT : BT (BT (List Tmp × List Tmp)) := .node 71 (.node 4 ([3, 8, 9, 10], [3]) .leaf .leaf) (.node 35 (.node 2 ([0, 1, 5], [0, 5]) .leaf .leaf) (.node 13 (.node 0 ([0], []) .leaf .leaf) (.node 8 (.node 4 ([0, 1, 5], [4]) .leaf .leaf) (.node 6 (.node 5 ([0, 3, 4, 5], [2, 3, 5]) .leaf .leaf) .leaf .leaf) (.node 12 (.node 3 ([4, 8, 9, 10], [2, 3, 4]) .leaf .leaf) .leaf .leaf)) (.node 32 (.node 3 ([0, 2, 3], [2]) .leaf .leaf) (.node 25 (.node 22 ([1, 8, 63, 64, 65], [8]) (.node 12 ([0, 1, 5, 39, 40, 41], [0, 1, 5]) .leaf .leaf) .leaf) .leaf .leaf) .leaf)) (.node 54 (.node 19 ([0, 76, 77, 78], [0]) .leaf .leaf) (.node 53 (.node 4 ([2, 3], [2, 3]) .leaf .leaf) (.node 39 (.node 3 ([0, 2, 3, 15, 16, 17], [0, 2, 3]) .leaf .leaf) .leaf .leaf) .leaf) (.node 65 (.node 2 ([0, 1, 7, 8], [4]) .leaf .leaf) (.node 63 (.node 2 ([0, 1, 7, 8], [4]) .leaf .leaf) .leaf .leaf) .leaf))) (.node 85 (.node 18 ([0, 1, 3, 4, 10, 11, 12, 13, 17], [0, 1, 3, 4, 10, 11, 12, 13]) (.node 11 ([0, 1, 3, 4, 10, 11, 12, 13, 14, 15, 16], [0, 1, 3, 4, 10, 11, 12, 13]) .leaf .leaf) .leaf) (.node 78 (.node 36 ([1, 8, 9, 10, 11, 12, 13, 99, 100, 101], [6, 7, 9, 12, 13]) .leaf .leaf) (.node 74 (.node 3 ([0, 3, 4], [0]) .leaf .leaf) (.node 73 (.node 1 ([0, 6, 7, 8], []) .leaf .leaf) .leaf .leaf) .leaf) (.node 84 (.node 1 ([0, 1, 4], [0, 1, 4]) .leaf .leaf) (.node 81 (.node 15 ([0, 1, 5, 6, 7, 8, 9, 10], [4]) .leaf .leaf) .leaf .leaf) .leaf)) (.node 101 (.node 11 ([0, 1, 5, 6, 7, 8, 10], [4]) (.node 5 ([0, 1, 5, 6, 7, 8, 9], [0, 1, 5, 6, 7, 8]) .leaf .leaf) .leaf) (.node 94 (.node 10 ([0, 3, 4, 5], [2, 3]) .leaf .leaf) (.node 86 (.node 7 ([3], [0, 3]) (.node 1 ([0, 3], []) .leaf .leaf) .leaf) .leaf .leaf) .leaf) (.node 110 (.node 8 ([4, 6, 7, 8], [4, 6]) (.node 3 ([0, 4, 5], [0, 4]) .leaf .leaf) .leaf) (.node 107 (.node 1 ([0, 1, 3], []) .leaf .leaf) .leaf .leaf) .leaf)))
def qhm : BT (BT (List Tmp)) := .leaf
def qgU : BT (BT (List (Tmp × Nat))) := .node 32 (.node 3 ([(3, 1)]) .leaf .leaf) (.node 12 (.node 3 ([(4, 1)]) .leaf .leaf) (.node 6 (.node 5 ([(5, 4)]) .leaf .leaf) .leaf .leaf) .leaf) (.node 86 (.node 7 ([(3, 4)]) (.node 1 ([(3, 4)]) .leaf .leaf) .leaf) (.node 85 (.node 18 ([(10, 1)]) (.node 11 ([(10, 1)]) .leaf .leaf) .leaf) .leaf .leaf) .leaf)
def zs (f : Nat) : List (Nat × (List AV → AH → Option (AV × AH))) → Option (List AV → AH → Option (AV × AH))
 | [] => none
 | p :: l => if qhQ p.1 f then some p.2 else zs f l
def xn : BT TypeId := .node 74 (5) (.node 72 (5) .leaf .leaf) .leaf
noncomputable def qeM : List (Nat × (List AV → AH → Option (AV × AH))) := []
noncomputable def qbY : List (Nat × (List AV → AH → Option (AV × AH))) := (22, qct) :: (25, qcs) :: (28, yQ) :: (49, zb) :: (55, (qap xn.look)) :: (57, (xO xn.look)) :: (59, qbd) :: (72, (yP xn.look)) :: qeM
theorem qfj : qeM = [] := rfl
def qgq : BT Unit := .node 67 (()) (.node 35 (()) (.node 23 (()) (.node 11 (()) (.node 8 (()) (.node 6 (()) (.node 5 (()) .leaf .leaf) .leaf) (.node 10 (()) (.node 9 (()) .leaf .leaf) .leaf)) (.node 14 (()) (.node 13 (()) (.node 12 (()) .leaf .leaf) .leaf) (.node 21 (()) .leaf .leaf))) (.node 30 (()) (.node 27 (()) (.node 26 (()) (.node 24 (()) .leaf .leaf) .leaf) (.node 29 (()) .leaf .leaf)) (.node 33 (()) (.node 32 (()) (.node 31 (()) .leaf .leaf) .leaf) (.node 34 (()) .leaf .leaf)))) (.node 53 (()) (.node 47 (()) (.node 38 (()) (.node 37 (()) (.node 36 (()) .leaf .leaf) .leaf) (.node 39 (()) .leaf .leaf)) (.node 51 (()) (.node 50 (()) (.node 48 (()) .leaf .leaf) .leaf) (.node 52 (()) .leaf .leaf))) (.node 61 (()) (.node 58 (()) (.node 56 (()) (.node 54 (()) .leaf .leaf) .leaf) (.node 60 (()) .leaf .leaf)) (.node 65 (()) (.node 64 (()) (.node 63 (()) .leaf .leaf) .leaf) (.node 66 (()) .leaf .leaf))))) (.node 90 (()) (.node 80 (()) (.node 74 (()) (.node 70 (()) (.node 69 (()) (.node 68 (()) .leaf .leaf) .leaf) (.node 73 (()) (.node 71 (()) .leaf .leaf) .leaf)) (.node 78 (()) (.node 76 (()) (.node 75 (()) .leaf .leaf) .leaf) (.node 79 (()) .leaf .leaf))) (.node 85 (()) (.node 83 (()) (.node 82 (()) (.node 81 (()) .leaf .leaf) .leaf) (.node 84 (()) .leaf .leaf)) (.node 88 (()) (.node 87 (()) (.node 86 (()) .leaf .leaf) .leaf) (.node 89 (()) .leaf .leaf)))) (.node 103 (()) (.node 97 (()) (.node 95 (()) (.node 94 (()) (.node 93 (()) .leaf .leaf) .leaf) (.node 96 (()) .leaf .leaf)) (.node 101 (()) (.node 100 (()) (.node 98 (()) .leaf .leaf) .leaf) (.node 102 (()) .leaf .leaf))) (.node 108 (()) (.node 106 (()) (.node 105 (()) (.node 104 (()) .leaf .leaf) .leaf) (.node 107 (()) .leaf .leaf)) (.node 111 (()) (.node 110 (()) (.node 109 (()) .leaf .leaf) .leaf) (.node 112 (()) .leaf .leaf)))))
def qhl : BT Unit := .node 53 (()) (.node 51 (()) .leaf .leaf) .leaf
def qhn : BT Unit := .leaf
def qg9 : BT Unit := .leaf
def qhk : BT Unit := .leaf
def qhb : BT (List Nat) := .node 80 ([3, 79]) (.node 37 ([9, 23]) (.node 26 ([22, 25]) .leaf .leaf) (.node 56 ([5, 4]) .leaf .leaf)) (.node 104 ([33, 9]) (.node 83 ([82, 79]) .leaf .leaf) (.node 127 ([120, 120]) .leaf .leaf))
noncomputable def qfV : List (Nat × Func) := [(67, Tryd.f67), (86, Tryd.f86), (87, Tryd.f87), (107, Tryd.f107)]
noncomputable def qfg : BT Func := .node 64 (Tryd.f64) (.node 34 (Tryd.f34) (.node 23 (Tryd.f23) (.node 11 (Tryd.f11) (.node 8 (Tryd.f8) (.node 6 (Tryd.f6) (.node 5 (Tryd.f5) .leaf .leaf) .leaf) (.node 10 (Tryd.f10) (.node 9 (Tryd.f9) .leaf .leaf) .leaf)) (.node 14 (Tryd.f14) (.node 13 (Tryd.f13) (.node 12 (Tryd.f12) .leaf .leaf) .leaf) (.node 22 (Tryd.f22) (.node 21 (Tryd.f21) .leaf .leaf) .leaf))) (.node 29 (Tryd.f29) (.node 26 (Tryd.f26) (.node 25 (Tryd.f25) (.node 24 (Tryd.f24) .leaf .leaf) .leaf) (.node 28 (Tryd.f28) (.node 27 (Tryd.f27) .leaf .leaf) .leaf)) (.node 32 (Tryd.f32) (.node 31 (Tryd.f31) (.node 30 (Tryd.f30) .leaf .leaf) .leaf) (.node 33 (Tryd.f33) .leaf .leaf)))) (.node 52 (Tryd.f52) (.node 47 (Tryd.f47) (.node 37 (Tryd.f37) (.node 36 (Tryd.f36) (.node 35 (Tryd.f35) .leaf .leaf) .leaf) (.node 39 (Tryd.f39) (.node 38 (Tryd.f38) .leaf .leaf) .leaf)) (.node 50 (Tryd.f50) (.node 49 (Tryd.f49) (.node 48 (Tryd.f48) .leaf .leaf) .leaf) (.node 51 (Tryd.f51) .leaf .leaf))) (.node 58 (Tryd.f58) (.node 55 (Tryd.f55) (.node 54 (Tryd.f54) (.node 53 (Tryd.f53) .leaf .leaf) .leaf) (.node 57 (Tryd.f57) (.node 56 (Tryd.f56) .leaf .leaf) .leaf)) (.node 61 (Tryd.f61) (.node 60 (Tryd.f60) (.node 59 (Tryd.f59) .leaf .leaf) .leaf) (.node 63 (Tryd.f63) .leaf .leaf))))) (.node 88 (Tryd.f88) (.node 76 (Tryd.f76) (.node 70 (Tryd.f70) (.node 67 (Tryd.f67) (.node 66 (Tryd.f66) (.node 65 (Tryd.f65) .leaf .leaf) .leaf) (.node 69 (Tryd.f69) (.node 68 (Tryd.f68) .leaf .leaf) .leaf)) (.node 73 (Tryd.f73) (.node 72 (Tryd.f72) (.node 71 (Tryd.f71) .leaf .leaf) .leaf) (.node 75 (Tryd.f75) (.node 74 (Tryd.f74) .leaf .leaf) .leaf))) (.node 83 (Tryd.f83) (.node 80 (Tryd.f80) (.node 79 (Tryd.f79) (.node 78 (Tryd.f78) .leaf .leaf) .leaf) (.node 82 (Tryd.f82) (.node 81 (Tryd.f81) .leaf .leaf) .leaf)) (.node 86 (Tryd.f86) (.node 85 (Tryd.f85) (.node 84 (Tryd.f84) .leaf .leaf) .leaf) (.node 87 (Tryd.f87) .leaf .leaf)))) (.node 102 (Tryd.f102) (.node 96 (Tryd.f96) (.node 93 (Tryd.f93) (.node 90 (Tryd.f90) (.node 89 (Tryd.f89) .leaf .leaf) .leaf) (.node 95 (Tryd.f95) (.node 94 (Tryd.f94) .leaf .leaf) .leaf)) (.node 100 (Tryd.f100) (.node 98 (Tryd.f98) (.node 97 (Tryd.f97) .leaf .leaf) .leaf) (.node 101 (Tryd.f101) .leaf .leaf))) (.node 108 (Tryd.f108) (.node 105 (Tryd.f105) (.node 104 (Tryd.f104) (.node 103 (Tryd.f103) .leaf .leaf) .leaf) (.node 107 (Tryd.f107) (.node 106 (Tryd.f106) .leaf .leaf) .leaf)) (.node 111 (Tryd.f111) (.node 110 (Tryd.f110) (.node 109 (Tryd.f109) .leaf .leaf) .leaf) (.node 112 (Tryd.f112) .leaf .leaf)))))
theorem qgK : qfg.All fun f fn => Tryd.prog.funcs[f]? = some fn := (BT.all_node Tryd.func64 (BT.all_node Tryd.func34 (BT.all_node Tryd.func23 (BT.all_node Tryd.func11 (BT.all_node Tryd.func8 (BT.all_node Tryd.func6 (BT.all_node Tryd.func5 trivial trivial) trivial) (BT.all_node Tryd.func10 (BT.all_node Tryd.func9 trivial trivial) trivial)) (BT.all_node Tryd.func14 (BT.all_node Tryd.func13 (BT.all_node Tryd.func12 trivial trivial) trivial) (BT.all_node Tryd.func22 (BT.all_node Tryd.func21 trivial trivial) trivial))) (BT.all_node Tryd.func29 (BT.all_node Tryd.func26 (BT.all_node Tryd.func25 (BT.all_node Tryd.func24 trivial trivial) trivial) (BT.all_node Tryd.func28 (BT.all_node Tryd.func27 trivial trivial) trivial)) (BT.all_node Tryd.func32 (BT.all_node Tryd.func31 (BT.all_node Tryd.func30 trivial trivial) trivial) (BT.all_node Tryd.func33 trivial trivial)))) (BT.all_node Tryd.func52 (BT.all_node Tryd.func47 (BT.all_node Tryd.func37 (BT.all_node Tryd.func36 (BT.all_node Tryd.func35 trivial trivial) trivial) (BT.all_node Tryd.func39 (BT.all_node Tryd.func38 trivial trivial) trivial)) (BT.all_node Tryd.func50 (BT.all_node Tryd.func49 (BT.all_node Tryd.func48 trivial trivial) trivial) (BT.all_node Tryd.func51 trivial trivial))) (BT.all_node Tryd.func58 (BT.all_node Tryd.func55 (BT.all_node Tryd.func54 (BT.all_node Tryd.func53 trivial trivial) trivial) (BT.all_node Tryd.func57 (BT.all_node Tryd.func56 trivial trivial) trivial)) (BT.all_node Tryd.func61 (BT.all_node Tryd.func60 (BT.all_node Tryd.func59 trivial trivial) trivial) (BT.all_node Tryd.func63 trivial trivial))))) (BT.all_node Tryd.func88 (BT.all_node Tryd.func76 (BT.all_node Tryd.func70 (BT.all_node Tryd.func67 (BT.all_node Tryd.func66 (BT.all_node Tryd.func65 trivial trivial) trivial) (BT.all_node Tryd.func69 (BT.all_node Tryd.func68 trivial trivial) trivial)) (BT.all_node Tryd.func73 (BT.all_node Tryd.func72 (BT.all_node Tryd.func71 trivial trivial) trivial) (BT.all_node Tryd.func75 (BT.all_node Tryd.func74 trivial trivial) trivial))) (BT.all_node Tryd.func83 (BT.all_node Tryd.func80 (BT.all_node Tryd.func79 (BT.all_node Tryd.func78 trivial trivial) trivial) (BT.all_node Tryd.func82 (BT.all_node Tryd.func81 trivial trivial) trivial)) (BT.all_node Tryd.func86 (BT.all_node Tryd.func85 (BT.all_node Tryd.func84 trivial trivial) trivial) (BT.all_node Tryd.func87 trivial trivial)))) (BT.all_node Tryd.func102 (BT.all_node Tryd.func96 (BT.all_node Tryd.func93 (BT.all_node Tryd.func90 (BT.all_node Tryd.func89 trivial trivial) trivial) (BT.all_node Tryd.func95 (BT.all_node Tryd.func94 trivial trivial) trivial)) (BT.all_node Tryd.func100 (BT.all_node Tryd.func98 (BT.all_node Tryd.func97 trivial trivial) trivial) (BT.all_node Tryd.func101 trivial trivial))) (BT.all_node Tryd.func108 (BT.all_node Tryd.func105 (BT.all_node Tryd.func104 (BT.all_node Tryd.func103 trivial trivial) trivial) (BT.all_node Tryd.func107 (BT.all_node Tryd.func106 trivial trivial) trivial)) (BT.all_node Tryd.func111 (BT.all_node Tryd.func110 (BT.all_node Tryd.func109 trivial trivial) trivial) (BT.all_node Tryd.func112 trivial trivial))))))
noncomputable def cfg : Cfg := { P := Tryd.prog, ty := fun t => qeT.look t, mode := fun f => match qgS.look f with | some m => m | none => .imp, frz := fun f r k => qgY f r k, mask := fun f r => qc3 f r qgT, cut := fun f r => qc3 f r qhm, tup := fun t => qhb.look t, ext := fun f => zs f qbY, known := fun f => (qgq.look f).isSome, dat := fun t => (qhl.look t).isSome, inl := fun f => qaG f qfV, lift := fun f r => match qc3 f r qgU with | some l => l | none => [], ems := fun t => (qhk.look t).isSome, ali := fun t => (qhn.look t).isSome, wrt := fun t => (qg9.look t).isSome, bld := fun t => xn.look t }
theorem qhw {fs : List Fact} (hfs : qz cfg fs) {f : Nat} {args : List AV} {v : AV} (m d : Nat) (h : (match yF cfg (fun f => qfg.look f) fs m d (.f f) args [] with | some r => some r.1 | none => none) = some v) : EVs (EV cfg) f args = some v := qhi (fun _ _ h => BT.all_look qgK h) hfs m d h
theorem yZ {fs : List Fact} (hfs : qz cfg fs) {f : Nat} {args : List AV} {v : AV} (m d : Nat) (h : (match yF cfg (fun f => qfg.look f) fs m d (.f f) args [] with | some r => gA (r.1.frz r.1.msIds r.2).fg some | none => none) = some v) : EVf (EV cfg) f args = some v := qhj (fun _ _ h => BT.all_look qgK h) hfs m d h
instance inl_ok : InlOk cfg := InlOk.of qfV (fun _ => rfl) ⟨⟨rfl, rfl, Tryd.func67, rfl⟩, ⟨⟨rfl, rfl, Tryd.func86, rfl⟩, ⟨⟨rfl, rfl, Tryd.func87, rfl⟩, ⟨⟨rfl, rfl, Tryd.func107, rfl⟩, trivial⟩⟩⟩⟩
end Go.Proofs.YtnmfakkjnbpjpaaDoor
end
section
namespace Go.Av
end Go.Av
namespace Go.Proofs.YtnmfakkjnbpjpaaDoor
open Go.Av
theorem qha : qeT.All fun t ti => tiOf Tryd.prog t = some ti := by
 unfold qeT
 repeat (first | exact trivial | refine BT.all_node (by show tiOf Tryd.prog _ = _; kernel_rfl) ?_ ?_)
theorem qgm : Tryd.prog.funcs.toList.all (fun fn => !(fn.name == "runtime.NumGoroutine")) = true := by kernel_rfl
theorem qgn : Tryd.prog.follows .mixedOrders = true := by kernel_rfl
end Go.Proofs.YtnmfakkjnbpjpaaDoor
end
section
namespace Go.Proofs
open Go.Shelf
def Tryd.lays156_ren : Go.Shelf.Ren := ⟨fun | 156 => 25 | 165 => 56 | 166 => 57 | 169 => 55 | 240 => 75 | 241 => 76 | 276 => 91 | 277 => 92 | n => n, fun | 31 => 47 | 9 => 9 | 3 => 3 | 4 => 4 | 0 => 0 | 20 => 20 | 72 => 72 | 76 => 80 | 70 => 70 | 37 => 33 | 75 => 79 | 127 => 98 | 164 => 109 | 5 => 5 | 80 => 76 | n => n, fun | n => n⟩
theorem Tryd.lays156 : Go.Proofs.Lays.n156 Tryd.prog Tryd.lays156_ren := {
 mixed := by kernel_rfl
 f156 := Tryd.func25.trans (congrArg some (by kernel_rfl))
 f165 := Tryd.func56.trans (congrArg some (by kernel_rfl))
 f166 := Tryd.func57.trans (congrArg some (by kernel_rfl))
 f169 := Tryd.func55.trans (congrArg some (by kernel_rfl))
 f240 := Tryd.func75.trans (congrArg some (by kernel_rfl))
 f241 := Tryd.func76.trans (congrArg some (by kernel_rfl))
 f276 := Tryd.func91.trans (congrArg some (by kernel_rfl))
 f277 := Tryd.func92.trans (congrArg some (by kernel_rfl))
 t0 := Tryd.underlying0
 a0 := Tryd.isAgg0
 z0 := Tryd.sizeOf0
 v0 := Tryd.zeroValue0
 t3 := Tryd.underlying3
 a3 := Tryd.isAgg3
 z3 := Tryd.sizeOf3
 v3 := Tryd.zeroValue3
 t4 := Tryd.underlying4
 a4 := Tryd.isAgg4
 z4 := Tryd.sizeOf4
 v4 := Tryd.zeroValue4
 t9 := Tryd.underlying9
 a9 := Tryd.isAgg9
 z9 := Tryd.sizeOf9
 v9 := Tryd.zeroValue9
 t20 := Tryd.underlying20
 a20 := Tryd.isAgg20
 z20 := Tryd.sizeOf20
 v20 := Tryd.zeroValue20
 t31 := Tryd.underlying47
 a31 := Tryd.isAgg47
 z31 := Tryd.sizeOf47
 v31 := Tryd.zeroValue47
 t37 := Tryd.underlying33
 a37 := Tryd.isAgg33
 z37 := Tryd.sizeOf33
 v37 := Tryd.zeroValue33
 t70 := Tryd.underlying70
 a70 := Tryd.isAgg70
 z70 := Tryd.sizeOf70
 v70 := Tryd.zeroValue70
 t72 := Tryd.underlying72
 a72 := Tryd.isAgg72
 z72 := Tryd.sizeOf72
 v72 := Tryd.zeroValue72
 t75 := Tryd.underlying79
 a75 := Tryd.isAgg79
 z75 := Tryd.sizeOf79
 v75 := Tryd.zeroValue79
 t76 := Tryd.underlying80
 a76 := Tryd.isAgg80
 z76 := Tryd.sizeOf80
 v76 := Tryd.zeroValue80
 t127 := Tryd.underlying98
 a127 := Tryd.isAgg98
 z127 := Tryd.sizeOf98
 v127 := Tryd.zeroValue98
 t164 := Tryd.underlying109
 a164 := Tryd.isAgg109
 z164 := Tryd.sizeOf109
 v164 := Tryd.zeroValue109 }
theorem Tryd.Builder_Extra_156 : Builder.Extra Tryd.prog Tryd.lays156_ren := {
 sizeBuilder := by kernel_rfl
 liesBuilder := by kernel_rfl
 t5 := Tryd.underlying5
 a5 := Tryd.isAgg5
 z5 := Tryd.sizeOf5
 v5 := Tryd.zeroValue5
 infoByte := by kernel_rfl
 cellsByte := by kernel_rfl
 sizeByte := by kernel_rfl
 neB5 := by decide }
open Go.RowKit in
theorem Tryd.strings_Join_none (a : Option Addr) (c : Nat) (sep : ByteArray) (w : World) :
  Calls Tryd.prog 25 #[.slice a 0 c, .string sep] w fun e w' => e = .returned (.string ⟨#[]⟩) ∧ w' = w := Any.strings_Join_none Tryd.lays156 Tryd.Builder_Extra_156 a c sep w
open Go.RowKit in
theorem Tryd.strings_Join (bk o c : Nat) (xs : List ByteArray) (sep : ByteArray) (w : World) (hcells : ∀ (j : Nat) x, xs[j]? = some x → w.cell? ⟨bk, o + j, none⟩ = some (.string x)) (hbk : bk < w.heap.size) (hN : xs.length ≤ 140737488355328) (hcap : xs.length ≤ c) (hlen : (Lib.join (xs.map (·.data.toList)) sep.data.toList).length ≤ 140737488355328) :
  Calls Tryd.prog 25 #[.slice (some ⟨bk, o, none⟩) xs.length c, .string sep] w fun e w' => e = .returned (.string ⟨(Lib.join (xs.map (·.data.toList)) sep.data.toList).toArray⟩) ∧ Below w.heap.size w w' := Any.strings_Join Tryd.lays156 Tryd.Builder_Extra_156 bk o c xs sep w hcells hbk hN hcap hlen
def Tryd.lays137_ren : Go.Shelf.Ren := ⟨fun | 137 => 28 | 217 => 58 | 266 => 77 | n => n, fun | 9 => 9 | 5 => 5 | 3 => 3 | n => n, fun | n => n⟩
theorem Tryd.lays137 : Go.Proofs.Lays.n137 Tryd.prog Tryd.lays137_ren := {
 mixed := by kernel_rfl
 f137 := Tryd.func28.trans (congrArg some (by kernel_rfl))
 f217 := Tryd.func58.trans (congrArg some (by kernel_rfl))
 f266 := Tryd.func77.trans (congrArg some (by kernel_rfl))
 t3 := Tryd.underlying3
 a3 := Tryd.isAgg3
 z3 := Tryd.sizeOf3
 v3 := Tryd.zeroValue3
 t5 := Tryd.underlying5
 a5 := Tryd.isAgg5
 z5 := Tryd.sizeOf5
 v5 := Tryd.zeroValue5
 t9 := Tryd.underlying9
 a9 := Tryd.isAgg9
 z9 := Tryd.sizeOf9
 v9 := Tryd.zeroValue9 }
open Go.RowKit in
theorem Tryd.strings_IndexByte (s : ByteArray) (c : Int) (w : World) :
  Calls Tryd.prog 28 #[.string s, .int .u8 c] w fun e w' => e = .returned (.int .i64 (Lib.indexByte s.data.toList c.toNat.toUInt8)) ∧ w' = w := Any.strings_IndexByte Tryd.lays137 s c w
def Tryd.laysM171_ren : Go.Shelf.Ren := ⟨fun | 171 => 22 | 243 => 52 | 246 => 66 | 283 => 82 | 284 => 83 | 285 => 84 | 286 => 85 | 129 => 103 | 317 => 102 | 318 => 104 | 319 => 105 | 320 => 106 | 337 => 111 | 338 => 112 | n => n, fun | 3 => 3 | 9 => 9 | 2 => 2 | 4 => 4 | 171 => 101 | 0 => 0 | 53 => 82 | 37 => 33 | 5 => 5 | 173 => 104 | 212 => 119 | 51 => 120 | 20 => 20 | 213 => 121 | 46 => 100 | 232 => 133 | 233 => 134 | n => n, fun | 17 => 1 | 18 => 4 | 19 => 5 | n => n⟩
theorem Tryd.laysM171 : Go.Proofs.LaysM.n171 Tryd.prog Tryd.laysM171_ren := {
 mixed := by kernel_rfl
 f129 := Tryd.func103.trans (congrArg some (by kernel_rfl))
 f171 := Tryd.func22.trans (congrArg some (by kernel_rfl))
 f243 := Tryd.func52.trans (congrArg some (by kernel_rfl))
 f246 := Tryd.func66.trans (congrArg some (by kernel_rfl))
 f283 := Tryd.func82.trans (congrArg some (by kernel_rfl))
 f284 := Tryd.func83.trans (congrArg some (by kernel_rfl))
 f285 := Tryd.func84.trans (congrArg some (by kernel_rfl))
 f286 := Tryd.func85.trans (congrArg some (by kernel_rfl))
 f317 := Tryd.func102.trans (congrArg some (by kernel_rfl))
 f318 := Tryd.func104.trans (congrArg some (by kernel_rfl))
 f319 := Tryd.func105.trans (congrArg some (by kernel_rfl))
 f320 := Tryd.func106.trans (congrArg some (by kernel_rfl))
 f337 := Tryd.func111.trans (congrArg some (by kernel_rfl))
 f338 := Tryd.func112.trans (congrArg some (by kernel_rfl))
 t0 := Tryd.underlying0
 a0 := Tryd.isAgg0
 z0 := Tryd.sizeOf0
 v0 := Tryd.zeroValue0
 t2 := Tryd.underlying2
 a2 := Tryd.isAgg2
 z2 := Tryd.sizeOf2
 v2 := Tryd.zeroValue2
 t3 := Tryd.underlying3
 a3 := Tryd.isAgg3
 z3 := Tryd.sizeOf3
 v3 := Tryd.zeroValue3
 t4 := Tryd.underlying4
 a4 := Tryd.isAgg4
 z4 := Tryd.sizeOf4
 v4 := Tryd.zeroValue4
 t5 := Tryd.underlying5
 a5 := Tryd.isAgg5
 z5 := Tryd.sizeOf5
 v5 := Tryd.zeroValue5
 t9 := Tryd.underlying9
 a9 := Tryd.isAgg9
 z9 := Tryd.sizeOf9
 v9 := Tryd.zeroValue9
 t20 := Tryd.underlying20
 a20 := Tryd.isAgg20
 z20 := Tryd.sizeOf20
 v20 := Tryd.zeroValue20
 t37 := Tryd.underlying33
 a37 := Tryd.isAgg33
 z37 := Tryd.sizeOf33
 v37 := Tryd.zeroValue33
 t46 := Tryd.underlying100
 a46 := Tryd.isAgg100
 z46 := Tryd.sizeOf100
 v46 := Tryd.zeroValue100
 t51 := Tryd.underlying120
 a51 := Tryd.isAgg120
 z51 := Tryd.sizeOf120
 v51 := Tryd.zeroValue120
 t53 := Tryd.underlying82
 a53 := Tryd.isAgg82
 z53 := Tryd.sizeOf82
 v53 := Tryd.zeroValue82
 t171 := Tryd.underlying101
 a171 := Tryd.isAgg101
 z171 := Tryd.sizeOf101
 v171 := Tryd.zeroValue101
 t173 := Tryd.underlying104
 a173 := Tryd.isAgg104
 z173 := Tryd.sizeOf104
 v173 := Tryd.zeroValue104
 t212 := Tryd.underlying119
 a212 := Tryd.isAgg119
 z212 := Tryd.sizeOf119
 v212 := Tryd.zeroValue119
 t213 := Tryd.underlying121
 a213 := Tryd.isAgg121
 z213 := Tryd.sizeOf121
 t232 := Tryd.underlying133
 a232 := Tryd.isAgg133
 z232 := Tryd.sizeOf133
 v232 := Tryd.zeroValue133
 t233 := Tryd.underlying134
 a233 := Tryd.isAgg134
 z233 := Tryd.sizeOf134
 v233 := Tryd.zeroValue134
 g17 := by kernel_rfl
 g18 := by kernel_rfl
 g19 := by kernel_rfl
 i0 := by kernel_rfl
 i2 := by kernel_rfl
 i3 := by kernel_rfl
 i4 := by kernel_rfl
 i5 := by kernel_rfl
 i9 := by kernel_rfl
 i20 := by kernel_rfl
 i37 := by kernel_rfl
 i46 := by kernel_rfl
 i51 := by kernel_rfl
 i53 := by kernel_rfl
 i171 := by kernel_rfl
 i173 := by kernel_rfl
 i212 := by kernel_rfl
 i232 := by kernel_rfl
 i233 := by kernel_rfl
 m17 := by kernel_rfl
 m18 := by kernel_rfl
 m19 := by kernel_rfl }
open Go.RowKit Go.Sort Go.Lib in
theorem Tryd.strconv_Itoa (n : Int) (h0 : -9223372036854775808 ≤ n) (h1 : n ≤ 9223372036854775807) (w : World) (htab : Lib.TabIs Tryd.prog w "internal/strconv.uint64pow10" .u64 Lib.pow10Tab) :
  Calls Tryd.prog 22 #[.int .i64 n] w fun e w' => e = .returned (.string ⟨(Lib.itoa n).toArray⟩) ∧ ∃ k os, w' = grow (w.drewN k) os := Any.strconv_Itoa Tryd.laysM171 n h0 h1 w htab
def Tryd.laysPu14_ren : Go.Shelf.Ren := ⟨fun | 14 => 59 | 16 => 78 | 17 => 79 | 19 => 93 | 20 => 94 | 21 => 95 | 22 => 96 | 23 => 97 | 24 => 98 | 25 => 108 | 27 => 22 | 26 => 109 | 28 => 52 | 29 => 66 | 30 => 82 | 31 => 83 | 32 => 84 | 33 => 85 | 35 => 103 | 34 => 102 | 36 => 104 | 37 => 105 | 38 => 106 | 39 => 111 | 40 => 112 | n => n, fun | 9 => 9 | 3 => 3 | 22 => 82 | 24 => 79 | 25 => 83 | 4 => 4 | 34 => 112 | 5 => 5 | 36 => 100 | 37 => 33 | 0 => 0 | 39 => 114 | 21 => 21 | 44 => 125 | 47 => 98 | 50 => 132 | 48 => 130 | 2 => 2 | 52 => 101 | 55 => 104 | 59 => 119 | 60 => 120 | 20 => 20 | 61 => 121 | 65 => 133 | 66 => 134 | 67 => 76 | n => n, fun | 0 => 2 | 1 => 3 | 2 => 1 | 3 => 4 | 4 => 5 | n => n⟩
theorem Tryd.laysPu14 : Go.Proofs.LaysPu.n14 Tryd.prog Tryd.laysPu14_ren := {
 mixed := by kernel_rfl
 f14 := Tryd.func59.trans (congrArg some (by kernel_rfl))
 f16 := Tryd.func78.trans (congrArg some (by kernel_rfl))
 f17 := Tryd.func79.trans (congrArg some (by kernel_rfl))
 f19 := Tryd.func93.trans (congrArg some (by kernel_rfl))
 f20 := Tryd.func94.trans (congrArg some (by kernel_rfl))
 f21 := Tryd.func95.trans (congrArg some (by kernel_rfl))
 f22 := Tryd.func96.trans (congrArg some (by kernel_rfl))
 f23 := Tryd.func97.trans (congrArg some (by kernel_rfl))
 f24 := Tryd.func98.trans (congrArg some (by kernel_rfl))
 f25 := Tryd.func108.trans (congrArg some (by kernel_rfl))
 f26 := Tryd.func109.trans (congrArg some (by kernel_rfl))
 f27 := Tryd.func22.trans (congrArg some (by kernel_rfl))
 f28 := Tryd.func52.trans (congrArg some (by kernel_rfl))
 f29 := Tryd.func66.trans (congrArg some (by kernel_rfl))
 f30 := Tryd.func82.trans (congrArg some (by kernel_rfl))
 f31 := Tryd.func83.trans (congrArg some (by kernel_rfl))
 f32 := Tryd.func84.trans (congrArg some (by kernel_rfl))
 f33 := Tryd.func85.trans (congrArg some (by kernel_rfl))
 f34 := Tryd.func102.trans (congrArg some (by kernel_rfl))
 f35 := Tryd.func103.trans (congrArg some (by kernel_rfl))
 f36 := Tryd.func104.trans (congrArg some (by kernel_rfl))
 f37 := Tryd.func105.trans (congrArg some (by kernel_rfl))
 f38 := Tryd.func106.trans (congrArg some (by kernel_rfl))
 f39 := Tryd.func111.trans (congrArg some (by kernel_rfl))
 f40 := Tryd.func112.trans (congrArg some (by kernel_rfl))
 t0 := Tryd.underlying0
 a0 := Tryd.isAgg0
 z0 := Tryd.sizeOf0
 v0 := Tryd.zeroValue0
 i0 := by kernel_rfl
 t2 := Tryd.underlying2
 a2 := Tryd.isAgg2
 z2 := Tryd.sizeOf2
 v2 := Tryd.zeroValue2
 i2 := by kernel_rfl
 t3 := Tryd.underlying3
 a3 := Tryd.isAgg3
 z3 := Tryd.sizeOf3
 v3 := Tryd.zeroValue3
 i3 := by kernel_rfl
 t4 := Tryd.underlying4
 a4 := Tryd.isAgg4
 z4 := Tryd.sizeOf4
 v4 := Tryd.zeroValue4
 i4 := by kernel_rfl
 t5 := Tryd.underlying5
 a5 := Tryd.isAgg5
 z5 := Tryd.sizeOf5
 v5 := Tryd.zeroValue5
 i5 := by kernel_rfl
 t9 := Tryd.underlying9
 a9 := Tryd.isAgg9
 z9 := Tryd.sizeOf9
 v9 := Tryd.zeroValue9
 i9 := by kernel_rfl
 t20 := Tryd.underlying20
 a20 := Tryd.isAgg20
 z20 := Tryd.sizeOf20
 v20 := Tryd.zeroValue20
 i20 := by kernel_rfl
 t21 := Tryd.underlying21
 a21 := Tryd.isAgg21
 z21 := Tryd.sizeOf21
 v21 := Tryd.zeroValue21
 i21 := by kernel_rfl
 t22 := Tryd.underlying82
 a22 := Tryd.isAgg82
 z22 := Tryd.sizeOf82
 v22 := Tryd.zeroValue82
 i22 := by kernel_rfl
 t24 := Tryd.underlying79
 a24 := Tryd.isAgg79
 z24 := Tryd.sizeOf79
 v24 := Tryd.zeroValue79
 i24 := by kernel_rfl
 t25 := Tryd.underlying83
 a25 := Tryd.isAgg83
 z25 := Tryd.sizeOf83
 v25 := Tryd.zeroValue83
 i25 := by kernel_rfl
 t34 := Tryd.underlying112
 a34 := Tryd.isAgg112
 z34 := Tryd.sizeOf112
 v34 := Tryd.zeroValue112
 i34 := by kernel_rfl
 c34 := by kernel_rfl
 t36 := Tryd.underlying100
 a36 := Tryd.isAgg100
 z36 := Tryd.sizeOf100
 v36 := Tryd.zeroValue100
 i36 := by kernel_rfl
 t37 := Tryd.underlying33
 a37 := Tryd.isAgg33
 z37 := Tryd.sizeOf33
 v37 := Tryd.zeroValue33
 i37 := by kernel_rfl
 t39 := Tryd.underlying114
 a39 := Tryd.isAgg114
 z39 := Tryd.sizeOf114
 v39 := Tryd.zeroValue114
 i39 := by kernel_rfl
 t44 := Tryd.underlying125
 a44 := Tryd.isAgg125
 z44 := Tryd.sizeOf125
 v44 := Tryd.zeroValue125
 i44 := by kernel_rfl
 t47 := Tryd.underlying98
 a47 := Tryd.isAgg98
 z47 := Tryd.sizeOf98
 v47 := Tryd.zeroValue98
 i47 := by kernel_rfl
 t48 := Tryd.underlying130
 a48 := Tryd.isAgg130
 z48 := Tryd.sizeOf130
 v48 := Tryd.zeroValue130
 i48 := by kernel_rfl
 t50 := Tryd.underlying132
 a50 := Tryd.isAgg132
 z50 := Tryd.sizeOf132
 v50 := Tryd.zeroValue132
 i50 := by kernel_rfl
 t52 := Tryd.underlying101
 a52 := Tryd.isAgg101
 z52 := Tryd.sizeOf101
 v52 := Tryd.zeroValue101
 i52 := by kernel_rfl
 t55 := Tryd.underlying104
 a55 := Tryd.isAgg104
 z55 := Tryd.sizeOf104
 v55 := Tryd.zeroValue104
 i55 := by kernel_rfl
 t59 := Tryd.underlying119
 a59 := Tryd.isAgg119
 z59 := Tryd.sizeOf119
 v59 := Tryd.zeroValue119
 i59 := by kernel_rfl
 t60 := Tryd.underlying120
 a60 := Tryd.isAgg120
 z60 := Tryd.sizeOf120
 v60 := Tryd.zeroValue120
 i60 := by kernel_rfl
 t61 := Tryd.underlying121
 a61 := Tryd.isAgg121
 z61 := Tryd.sizeOf121
 t65 := Tryd.underlying133
 a65 := Tryd.isAgg133
 z65 := Tryd.sizeOf133
 v65 := Tryd.zeroValue133
 i65 := by kernel_rfl
 t66 := Tryd.underlying134
 a66 := Tryd.isAgg134
 z66 := Tryd.sizeOf134
 v66 := Tryd.zeroValue134
 i66 := by kernel_rfl
 t67 := Tryd.underlying76
 a67 := Tryd.isAgg76
 z67 := Tryd.sizeOf76
 v67 := Tryd.zeroValue76
 i67 := by kernel_rfl
 g0 := by kernel_rfl
 m0 := by kernel_rfl
 g1 := by kernel_rfl
 m1 := by kernel_rfl
 g2 := by kernel_rfl
 m2 := by kernel_rfl
 g3 := by kernel_rfl
 m3 := by kernel_rfl
 g4 := by kernel_rfl
 m4 := by kernel_rfl }
open Go.RowKit in
theorem Tryd.strconv_ParseUint_10_at64_ok (s : ByteArray) (hmax : s.size ≤ 9223372036854775806) (u : Nat) (h : Lib.parseUintB 64 s.data.toList = .ok u) (w : World) :
  Calls Tryd.prog 59 #[.string s, .int .i64 10, .int .i64 64] w fun e w' => e = .returned (.tuple #[.int .u64 u, .nilIface]) ∧ (w' = w ∨ w' = Lib.bytesWorld w 5 s) := Any.strconv_ParseUint_10_at64_ok Tryd.laysPu14 s hmax u h w
open Go.RowKit in
theorem Tryd.strconv_ParseUint_10_at64_syntax (s : ByteArray) (hlim : s.size ≤ 281474976710656) (h : Lib.parseUintB 64 s.data.toList = Go.Lib.NumEnd.syntax) (ev : Value) (w : World) (hv : w.cell? ⟨2, 0, none⟩ = some ev) (hev : ev = .nilIface ∨ ∃ te pe, ev = .iface te pe) :
  Calls Tryd.prog 59 #[.string s, .int .i64 10, .int .i64 64] w fun e w' => ∃ N, e = .returned (.tuple #[.int .u64 0, .iface 114 (.pointer (some ⟨N, 0, none⟩))]) ∧ w.heap.size ≤ N ∧ w'.heap[N]? = some (.cells #[.string ⟨#[80, 97, 114, 115, 101, 85, 105, 110, 116]⟩, .string s, ev] 125 (0, 0)) ∧ Below w.heap.size w w' := Any.strconv_ParseUint_10_at64_syntax Tryd.laysPu14 s hlim h ev w hv hev
open Go.RowKit in
theorem Tryd.strconv_ParseUint_10_at64_range (s : ByteArray) (hlim : s.size ≤ 281474976710656) (h : Lib.parseUintB 64 s.data.toList = .range) (ev : Value) (w : World) (hv : w.cell? ⟨3, 0, none⟩ = some ev) (hev : ev = .nilIface ∨ ∃ te pe, ev = .iface te pe) :
  Calls Tryd.prog 59 #[.string s, .int .i64 10, .int .i64 64] w fun e w' => ∃ N, e = .returned (.tuple #[.int .u64 18446744073709551615, .iface 114 (.pointer (some ⟨N, 0, none⟩))]) ∧ w.heap.size ≤ N ∧ w'.heap[N]? = some (.cells #[.string ⟨#[80, 97, 114, 115, 101, 85, 105, 110, 116]⟩, .string s, ev] 125 (0, 0)) ∧ Below w.heap.size w w' := Any.strconv_ParseUint_10_at64_range Tryd.laysPu14 s hlim h ev w hv hev
def Tryd.lays144_ren : Go.Shelf.Ren := ⟨fun | 144 => 49 | 143 => 64 | 219 => 81 | 217 => 58 | 225 => 99 | 224 => 100 | 267 => 101 | 266 => 77 | 314 => 110 | n => n, fun | 9 => 9 | 4 => 4 | 3 => 3 | 5 => 5 | 46 => 100 | 146 => 127 | 51 => 120 | n => n, fun | 1 => 0 | n => n⟩
theorem Tryd.lays144 : Go.Proofs.Lays.n144 Tryd.prog Tryd.lays144_ren := {
 mixed := by kernel_rfl
 f143 := Tryd.func64.trans (congrArg some (by kernel_rfl))
 f144 := Tryd.func49.trans (congrArg some (by kernel_rfl))
 f217 := Tryd.func58.trans (congrArg some (by kernel_rfl))
 f219 := Tryd.func81.trans (congrArg some (by kernel_rfl))
 f224 := Tryd.func100.trans (congrArg some (by kernel_rfl))
 f225 := Tryd.func99.trans (congrArg some (by kernel_rfl))
 f266 := Tryd.func77.trans (congrArg some (by kernel_rfl))
 f267 := Tryd.func101.trans (congrArg some (by kernel_rfl))
 f314 := Tryd.func110.trans (congrArg some (by kernel_rfl))
 t3 := Tryd.underlying3
 a3 := Tryd.isAgg3
 z3 := Tryd.sizeOf3
 v3 := Tryd.zeroValue3
 t4 := Tryd.underlying4
 a4 := Tryd.isAgg4
 z4 := Tryd.sizeOf4
 v4 := Tryd.zeroValue4
 t5 := Tryd.underlying5
 a5 := Tryd.isAgg5
 z5 := Tryd.sizeOf5
 v5 := Tryd.zeroValue5
 t9 := Tryd.underlying9
 a9 := Tryd.isAgg9
 z9 := Tryd.sizeOf9
 v9 := Tryd.zeroValue9
 t46 := Tryd.underlying100
 a46 := Tryd.isAgg100
 z46 := Tryd.sizeOf100
 v46 := Tryd.zeroValue100
 t51 := Tryd.underlying120
 a51 := Tryd.isAgg120
 z51 := Tryd.sizeOf120
 v51 := Tryd.zeroValue120
 t146 := Tryd.underlying127
 a146 := Tryd.isAgg127
 z146 := Tryd.sizeOf127
 v146 := Tryd.zeroValue127
 g1 := by kernel_rfl }
open Go.RowKit Go.Lib in
theorem Tryd.strings_Contains (s sub : ByteArray) (m : Int) (w : World) (hs : s.size < 4294967281) (hm : w.cell? ⟨0, 0, none⟩ = some (.int .i64 m)) :
  Calls Tryd.prog 49 #[.string s, .string sub] w fun e w' => e = .returned (.bool (Lib.contains s.data.toList sub.data.toList)) ∧ w' = w := Any.strings_Contains Tryd.lays144 s sub m w hs hm
def Tryd.laysM144_ren : Go.Shelf.Ren := ⟨fun | 144 => 49 | 143 => 64 | 219 => 81 | 217 => 58 | 225 => 99 | 224 => 100 | 267 => 101 | 266 => 77 | 314 => 110 | n => n, fun | 9 => 9 | 4 => 4 | 3 => 3 | 5 => 5 | 46 => 100 | 146 => 127 | 51 => 120 | n => n, fun | 1 => 0 | n => n⟩
theorem Tryd.laysM144 : Go.Proofs.LaysM.n144 Tryd.prog Tryd.laysM144_ren := {
 mixed := by kernel_rfl
 f143 := Tryd.func64.trans (congrArg some (by kernel_rfl))
 f144 := Tryd.func49.trans (congrArg some (by kernel_rfl))
 f217 := Tryd.func58.trans (congrArg some (by kernel_rfl))
 f219 := Tryd.func81.trans (congrArg some (by kernel_rfl))
 f224 := Tryd.func100.trans (congrArg some (by kernel_rfl))
 f225 := Tryd.func99.trans (congrArg some (by kernel_rfl))
 f266 := Tryd.func77.trans (congrArg some (by kernel_rfl))
 f267 := Tryd.func101.trans (congrArg some (by kernel_rfl))
 f314 := Tryd.func110.trans (congrArg some (by kernel_rfl))
 t3 := Tryd.underlying3
 a3 := Tryd.isAgg3
 z3 := Tryd.sizeOf3
 v3 := Tryd.zeroValue3
 t4 := Tryd.underlying4
 a4 := Tryd.isAgg4
 z4 := Tryd.sizeOf4
 v4 := Tryd.zeroValue4
 t5 := Tryd.underlying5
 a5 := Tryd.isAgg5
 z5 := Tryd.sizeOf5
 v5 := Tryd.zeroValue5
 t9 := Tryd.underlying9
 a9 := Tryd.isAgg9
 z9 := Tryd.sizeOf9
 v9 := Tryd.zeroValue9
 t46 := Tryd.underlying100
 a46 := Tryd.isAgg100
 z46 := Tryd.sizeOf100
 v46 := Tryd.zeroValue100
 t51 := Tryd.underlying120
 a51 := Tryd.isAgg120
 z51 := Tryd.sizeOf120
 v51 := Tryd.zeroValue120
 t146 := Tryd.underlying127
 a146 := Tryd.isAgg127
 z146 := Tryd.sizeOf127
 v146 := Tryd.zeroValue127
 g1 := by kernel_rfl
 i3 := by kernel_rfl
 i4 := by kernel_rfl
 i5 := by kernel_rfl
 i9 := by kernel_rfl
 i46 := by kernel_rfl
 i51 := by kernel_rfl
 i146 := by kernel_rfl
 m1 := by kernel_rfl
 s1_3 := fun w h => Go.Proofs.cell_of_shapedOpen_int (zero := #[.int .i64 0]) (t := 3) h (of_decide_eq_true (by kernel_rfl)) (by kernel_rfl) rfl (by kernel_rfl) (by kernel_rfl) Tryd.underlying3 }
end Go.Proofs
end
section
namespace Go.Proofs.YtnmfakkjnbpjpaaDoor
open Go.Av Go.RowKit
theorem qB {P : Program} {f : FuncId} {fn : Func} {c : Code} (hf : P.funcs[f]? = some fn) (hn : (fn.name == "runtime.NumGoroutine") = false) (hb : fn.body = some c) {vs : Array Value} {w : World} {Q : Value → World → Prop}
  (h : Calls P f vs w fun e w' => ∃ v, e = .returned v ∧ Q v w') : qr P (callFunc f vs) w Q := by
 unfold qr
 rw [qbx hf hn hb vs w]
 exact callsIn_wide.2 h
theorem yy {vs : Array Value} (h : 2 = vs.size) : ∃ x y, vs = #[x, y] := by
 obtain ⟨l⟩ := vs
 match l, h with
 | [x, y], _ => exact ⟨x, y, rfl⟩
theorem qhf [Lent] {args : List AV} {H H' : AH} {r : AV} {C : qa} {μ : MMap} {w : World} {vs : Array Value} (hr : yQ args H = some (r, H')) (ha : qc C μ args vs) (hw : Wld C μ H w) :
  qr Tryd.prog (callFunc 28 vs) w (qu C μ H w r H') := by
 unfold yQ at hr
 split at hr
 case h_2 => cases hr
 rename_i s c
 cases hr
 obtain ⟨hl, hv⟩ := ha
 obtain ⟨x, y, rfl⟩ := yy hl
 have h0 := hv 0 _ _ rfl rfl
 have h1 := hv 1 _ _ rfl rfl
 cases h0
 cases h1
 refine qB Tryd.func28 (by rfl) rfl ((Tryd.strings_IndexByte ⟨s.toArray⟩ c w).mono fun e w' ⟨e1, e2⟩ => ⟨_, e1, ?_⟩)
 subst e2
 exact ⟨C, μ, .int _ _, hw, Ext.refl (qhC _)⟩
theorem qey [Lent] (hm : ∃ m, Lent.l 0 0 = some (.int .i64 m)) {args : List AV} {H H' : AH} {r : AV} {C : qa} {μ : MMap} {w : World} {vs : Array Value} (hr : zb args H = some (r, H')) (ha : qc C μ args vs) (hw : Wld C μ H w) :
  qr Tryd.prog (callFunc 49 vs) w (qu C μ H w r H') := by
 unfold zb at hr
 split at hr
 case h_2 => cases hr
 rename_i s t
 split at hr
 case isFalse => cases hr
 rename_i hlt
 cases hr
 obtain ⟨hl, hv⟩ := ha
 obtain ⟨x, y, rfl⟩ := yy hl
 have h0 := hv 0 _ _ rfl rfl
 have h1 := hv 1 _ _ rfl rfl
 cases h0
 cases h1
 obtain ⟨m, hm⟩ := hm
 refine qB Tryd.func49 (by rfl) rfl ((Tryd.strings_Contains ⟨s.toArray⟩ ⟨t.toArray⟩ m w (by simpa [ByteArray.size] using hlt) (hw.lnt.1 0 0 _ hm).1).mono fun e w' ⟨e1, e2⟩ => ⟨_, e1, ?_⟩)
 subst e2
 exact ⟨C, μ, .bool _, hw, Ext.refl (qhC _)⟩
theorem yi [Lent] {H : AH} {r : AV} {C : qa} {μ : MMap} {w w' : World} {v : Value} (hw : Wld C μ H w) (hb : Below w.heap.size w w') (hr : Rep C μ r v) : qu C μ H w r H v w' :=
 ⟨C, μ, hr, hw.world hb.size (fun b hlt => hb.block b hlt), ⟨hb.os, hb.tape, hb.output, hb.size, fun _ _ _ h => h, fun _ m _ h => ⟨m, h, .refl m⟩, fun b hlt hl => ⟨hb.block b hlt, hl, rfl⟩, qhC _⟩⟩
def qc9 [Lent] (g : Nat) : Prop := ∃ ev, Lent.l g 0 = some ev ∧ (ev = .nilIface ∨ ∃ te pe, ev = .iface te pe)
theorem qgk [Lent] (hS : qc9 2) (hR : qc9 3) {args : List AV} {H H' : AH} {r : AV} {C : qa} {μ : MMap} {w : World} {vs : Array Value} (hr : qbd args H = some (r, H')) (ha : qc C μ args vs) (hw : Wld C μ H w) :
  qr Tryd.prog (callFunc 59 vs) w (qu C μ H w r H') := by
 unfold qbd at hr
 split at hr
 case h_2 => cases hr
 rename_i s
 split at hr
 case isFalse => cases hr
 rename_i hlt
 obtain ⟨hl, hv⟩ := ha
 obtain ⟨x, y, z, rfl⟩ : ∃ x y z, vs = #[x, y, z] := by
  obtain ⟨l⟩ := vs
  match l, hl with
  | [x, y, z], _ => exact ⟨x, y, z, rfl⟩
 have h0 := hv 0 _ _ rfl rfl
 have h1 := hv 1 _ _ rfl rfl
 have h2 := hv 2 _ _ rfl rfl
 cases h0
 cases h1
 cases h2
 have hsz : (⟨s.toArray⟩ : ByteArray).size ≤ 281474976710656 := by simpa [ByteArray.size] using hlt
 split at hr
 ·rename_i u hu
  cases hr
  refine qB Tryd.func59 (by rfl) rfl ((Tryd.strconv_ParseUint_10_at64_ok ⟨s.toArray⟩ (by omega) u hu w).mono fun e w' ⟨e1, e2⟩ => ⟨_, e1, ?_⟩)
  have hrep : Rep C μ (.tup [.int .u64 u, .nilI]) (.tuple #[.int .u64 u, .nilIface]) := Rep.tup _ [.int .u64 u, .nilIface] rfl fun i a v ha hv => by
   rcases i with _ | _ | i
   ·simp at ha hv; subst ha; subst hv; exact .int _ _
   ·simp at ha hv; subst ha; subst hv; exact .nilI
   ·simp at ha
  rcases e2 with rfl | rfl
  ·exact ⟨C, μ, hrep, hw, Ext.refl (qhC _)⟩
  ·exact yi hw (Lib.bytesWorld_below _ _ _) hrep
 all_goals
  rename_i hu
  cases hr
  obtain ⟨ev, hS, hS2⟩ := hS
  obtain ⟨er, hR, hR2⟩ := hR
  first
   | refine qB Tryd.func59 (by rfl) rfl ((Tryd.strconv_ParseUint_10_at64_syntax ⟨s.toArray⟩ hsz hu ev w (hw.lnt.1 _ _ _ hS).1 hS2).mono fun e w' ⟨N, e1, _, _, e2⟩ => ⟨_, e1, ?_⟩)
   | refine qB Tryd.func59 (by rfl) rfl ((Tryd.strconv_ParseUint_10_at64_range ⟨s.toArray⟩ hsz hu er w (hw.lnt.1 _ _ _ hR).1 hR2).mono fun e w' ⟨N, e1, _, _, e2⟩ => ⟨_, e1, ?_⟩)
  refine yi hw e2 (Rep.tup _ [_, _] rfl fun i a v ha hv => ?_)
  rcases i with _ | _ | i
  ·simp at ha hv; subst ha; subst hv; exact .int _ _
  ·simp at ha hv; subst ha; subst hv; exact .ifc _ _ _ (.junk _)
  ·simp at ha
end Go.Proofs.YtnmfakkjnbpjpaaDoor
end
section
namespace Go.Av
variable {P : Program} {C : qa} {μ : MMap} {H H' : AH} {w w' : World}
theorem Wld.grow [Lent] (h : Wld C μ H w) {id : Nat} {blk blk' : ABlk} {m m' : MI} (hi : H[id]? = some blk) (hl : blk.live = true) (hl' : blk'.live = true) (hm : μ id = some m) (hmm : m.le m') (hsz : w.heap.size ≤ w'.heap.size)
  (hnew : ∀ x, m'.has x → m.has x ∨ (w.heap.size ≤ x ∧ x < w'.heap.size)) (hb : ∀ k, k < w.heap.size → ¬ m.has k → w'.heap[k]? = w.heap[k]?) (hr : qt C (upd μ id m') w' m' blk') (hfr : blk'.Free)
  (ho : w'.os = w.os) (ht : w'.tape = w.tape) (hu : w'.output = w.output) :
  Wld C (upd μ id m') (H.set id blk') w' ∧ Ext H.length C μ H w C (upd μ id m') (H.set id blk') w' := by
 have hlen : id < H.length := (qhz.1 hi).1
 have hself : upd μ id m' id = some m' := by unfold upd; rw [if_pos rfl]
 have hoth : ∀ j, j ≠ id → upd μ id m' j = μ j := fun j hj => by unfold upd; rw [if_neg hj]
 have hmu : MLe μ (upd μ id m') := by
  intro j mj hj
  by_cases e : j = id
  ·subst e; rw [hm] at hj; cases hj; exact ⟨m', hself, hmm⟩
  ·exact ⟨mj, by rw [hoth j e]; exact hj, .refl _⟩
 have hcell : ∀ b o v, w.cell? ⟨b, o, none⟩ = some v → ¬ m.has b → w'.cell? ⟨b, o, none⟩ = some v ∧ w'.frozen? ⟨b, o, none⟩ = w.frozen? ⟨b, o, none⟩ := by
  intro b o v hc hnb
  have hlt : b < w.heap.size := World.block_lt_of_cell? w _ hc
  have := hb b hlt hnb
  exact ⟨by simp only [World.cell?, this] at hc ⊢; exact hc, by simp only [World.frozen?, this]⟩
 have aux : ∀ (j : Nat) bj, (H.set id blk')[j]? = some bj → (j = id ∧ bj = blk') ∨ (j ≠ id ∧ H[j]? = some bj) := by
  intro j bj hj
  rw [qhG] at hj
  split at hj
  ·rename_i e; subst e
   try rw [if_pos hlen] at hj
   cases hj; exact .inl ⟨rfl, rfl⟩
  ·rename_i e; exact .inr ⟨fun e' => e e'.symm, hj⟩
 have apart : ∀ (j : Nat) bj mj, j ≠ id → H[j]? = some bj → bj.live = true → μ j = some mj → ∀ x, mj.has x → x < w.heap.size ∧ ¬ m.has x := by
  intro j bj mj hne e hbl f1 x hx
  exact ⟨(h.liveH e hbl f1 x hx).1, fun he => hne (h.inj j id bj _ mj m e hi hbl hl f1 hm x hx he)⟩
 refine ⟨⟨fun b o v hc => ?_, fun j mj hj => ?_, fun j hj => ?_, fun j b hj hbl => ?_, fun j d sz rs hj => ?_, fun i i' b b' m1 m2 e1 e2 e3 e4 e5 e6 x e7 e8 => ?_, h.free.set hfr, ?_⟩,
  ⟨ho, ht, hu, hsz, fun _ _ _ h => h, fun i mi _ hmi => hmu i mi hmi, fun b hlt hnl => ?_, by simp⟩⟩
 ·exact (hcell b o v (h.cl b o v hc) fun e => by rw [(h.liveH hi hl hm b e).2.1 o] at hc; cases hc).1
 ·simp only [List.length_set]
  by_cases e : j = id
  ·subst e; exact hlen
  ·rw [hoth j e] at hj; exact h.dom j mj hj
 ·rcases aux j _ hj with ⟨_, e⟩ | ⟨hne, e⟩
  ·rw [← e] at hl'; cases hl'
  ·rw [hoth j hne]; exact h.res j e
 ·rcases aux j b hj with ⟨rfl, rfl⟩ | ⟨hne, e⟩
  ·refine ⟨fun hn => (by rw [hself] at hn; cases hn), fun mj hmj => ?_⟩
   rw [hself] at hmj; cases hmj
   refine ⟨fun x hx => ?_, hr⟩
   rcases hnew x hx with hx | ⟨hx1, hx2⟩
   ·obtain ⟨q1, q2⟩ := h.liveH hi hl hm x hx
    exact ⟨Nat.lt_of_lt_of_le q1 hsz, q2⟩
   ·refine ⟨hx2, fun o => ?_, h.lent_none hx1⟩
    cases hc : C x o with
    | none => rfl
    | some v => exact absurd (h.block_lt hc) (by omega)
  ·rw [hoth j hne]
   refine ⟨(h.live j b e hbl).1, fun mj f1 => ?_⟩
   obtain ⟨f2, f4⟩ := (h.live j b e hbl).2 mj f1
   have q := fun x (hx : mj.has x) => apart j b mj hne e hbl f1 x hx
   exact ⟨fun x hx => ⟨Nat.lt_of_lt_of_le (f2 x hx).1 hsz, (f2 x hx).2⟩, f4.monoG (fun _ _ _ h => h) hmu (fun x hx => hb x (q x hx).1 (q x hx).2)⟩
 ·rcases aux j _ hj with ⟨_, e⟩ | ⟨hne, e⟩
  ·rw [← e] at hl'; cases hl'
  ·rw [hoth j hne]
   refine ⟨(h.froz j d sz rs e).1, fun mj f1 => ?_⟩
   exact ((h.froz j d sz rs e).2 mj f1).monoG (fun _ _ _ h => h) hmu (.refl _)
 ·have cross : ∀ (j : Nat) bj mj, j ≠ id → H[j]? = some bj → bj.live = true → μ j = some mj → ∀ x, m'.has x → ¬ mj.has x := by
   intro j bj mj hne e hbl f1 x hx0 hxj
   obtain ⟨f2, f3⟩ := apart j bj mj hne e hbl f1 x hxj
   rcases hnew x hx0 with hx | ⟨hx1, _⟩
   ·exact f3 hx
   ·omega
  rcases aux i b e1 with ⟨rfl, rfl⟩ | ⟨hne, e⟩ <;> rcases aux i' b' e2 with ⟨rfl, rfl⟩ | ⟨hne', e'⟩
  ·rfl
  ·rw [hself] at e5; cases e5; rw [hoth _ hne'] at e6
   exact (cross i' b' m2 hne' e' e4 e6 x e7 e8).elim
  ·rw [hoth _ hne] at e5; rw [hself] at e6; cases e6
   exact (cross i b m1 hne e e3 e5 x e8 e7).elim
  ·rw [hoth _ hne] at e5; rw [hoth _ hne'] at e6
   exact h.inj i i' b b' m1 m2 e e' e3 e4 e5 e6 x e7 e8
 ·refine ⟨fun b o v hc => ?_, fun hu' b o v hn hc => ?_, fun b hb' => h.lnt.2.2 b (Nat.le_trans hsz hb')⟩
  ·have hnm : ¬ m.has b := fun e => by rw [(h.liveH hi hl hm b e).2.2.1 o] at hc; cases hc
   refine ⟨(hcell b o v (h.lnt.1 b o v hc).1 hnm).1, fun ob hk => ?_⟩
   rw [hb b (World.block_lt_of_cell? w _ (h.lnt.1 b o v hc).1) hnm]
   exact (h.lnt.1 b o v hc).2 ob hk
  ·rw [(hcell b o v (h.cl b o v hc) fun e => by rw [(h.liveH hi hl hm b e).2.1 o] at hc; cases hc).2]
   exact h.lnt.2.1 hu' b o v hn hc
 ·have hnm : ¬ m.has b := fun e => hnl ⟨id, blk, m, hi, hl, hm, e⟩
  refine ⟨hb b hlt hnm, fun hl2 => ?_, rfl⟩
  obtain ⟨j, bj, mj, e1, e2, e3, e5⟩ := hl2
  rcases aux j bj e1 with ⟨rfl, rfl⟩ | ⟨hne, e⟩
  ·rw [hself] at e3; cases e3
   rcases hnew b e5 with hx | ⟨hx, _⟩
   ·exact hnm hx
   ·omega
  ·rw [hoth j hne] at e3
   exact hnl ⟨j, bj, mj, e, e2, e3, e5⟩
def MI.plus (m : MI) (g : Option Nat) : MI := { m with D := fun b o => match m.D b o with | some x => some x | none => if g = some b then some (.bool false) else none }
theorem MI.plus_le (m : MI) (g : Option Nat) : m.le (m.plus g) := ⟨rfl, rfl, rfl, rfl, fun b o v h => by simp only [MI.plus, h]⟩
theorem MI.plus_has {m : MI} {g : Option Nat} {x : Nat} (h : (m.plus g).has x) : m.has x ∨ g = some x := by
 rcases h with e | ⟨o, e⟩
 ·exact .inl (.inl e)
 ·simp only [MI.plus] at e
  split at e
  ·rename_i v hv; exact .inl (.inr ⟨o, by rw [hv]; exact fun h => by cases h⟩)
  ·split at e
   ·rename_i hg; exact .inr hg
   ·exact absurd rfl e
theorem MI.has_plus {m : MI} {g : Option Nat} {x : Nat} (h : g = some x) : (m.plus g).has x := by
 refine .inr ⟨0, ?_⟩
 simp only [MI.plus]
 split
 ·exact fun h => by cases h
 ·rw [if_pos h]; exact fun h => by cases h
end Go.Av
end
section
namespace Go.Proofs.YtnmfakkjnbpjpaaDoor
open Go.RowKit Go.Lib
def yU (w : World) (v v' : Value) : Prop := v'.ownBlock = v.ownBlock ∨ ∃ g, v'.ownBlock = some g ∧ w.heap.size ≤ g
structure Kept2 (w w' : World) (b : Nat) (v : Value) : Prop where
 os : w'.os = w.os
 tape : w'.tape = w.tape
 output : w'.output = w.output
 size : w.heap.size ≤ w'.heap.size
 block : ∀ k, k < w.heap.size → k ≠ b → some k ≠ v.ownBlock → w'.heap[k]? = w.heap[k]?
theorem qeD {P : Program} (w : World) (t ty e : TypeId) (i : TypeInfo) (z : Value) (ht : P.underlying t = some (.slice e)) (hi : P.info? e = some i) (hz : i.zero = some z) (hsize : i.size = 1) (hby : i.bytes = 1) (hzs : z.cells.size = 1)
  (v : Value) (n : Nat) (xs : List Value) (hown : w.ownsRowF 0 e 1 v n xs) (a : Addr) (m c : Nat) (news : List Value) (hl : news.length = m * 1) (hnews : ∀ j u, news[j]? = some u → w.cell? (a.add j) = some u) (h1 : ∀ u ∈ news, u.oneCell' = true)
  (hb : n + m ≤ 140737488355328) :
  ∃ v' w', (Builtin.append_ #[t, t] ty #[v, .slice (some a) m c]).run P w = .ok v' w' ∧ w'.ownsRowF 0 e 1 v' (n + m) (xs ++ news) ∧ w.grownBy w' v.ownBlock ∧ yU w v v' ∧ (v' = .slice none 0 0 ↔ v = .slice none 0 0 ∧ m = 0) := by
 obtain ⟨v', w', hr, h2, h3, h4⟩ := run_append_ownF (P := P) w 0 t ty e i z 1 1 ht hi hz hsize hby hzs (by decide) v n xs hown a m c news hl hnews h1 (by unfold maxLen; omega) (by omega) (Nat.zero_le _)
 refine ⟨v', w', hr, h2, h3, ?_, h4⟩
 rcases hown.2 with ⟨rfl, rfl⟩ | ⟨g, cap, cur, fz, rfl, _, hg, hfz, hnc, hcm, hcs, htake⟩
 ·obtain ⟨v2, w2, hr2, h22, _, _⟩ := run_append_ownF (P := P) w w.heap.size t ty e i z 1 1 ht hi hz hsize hby hzs (by decide) (.slice none 0 0) 0 xs ⟨hown.1, .inl ⟨rfl, rfl⟩⟩ a m c news hl hnews h1 (by unfold maxLen; omega) (by omega) (qhC _)
  rw [hr] at hr2
  cases hr2
  cases hv : v'.ownBlock with
  | none => exact .inl (by rw [hv]; rfl)
  | some g => exact .inr ⟨g, hv, (h22.lt g hv).1⟩
 ·by_cases hroom : n + m ≤ cap
  ·have hr2 := run_append_roomF (P := P) w t ty e i ht hi g n cap cur fz hg (by rw [hsize]; exact hfz) a m c news (by rw [hsize]; exact hl) hnews h1 hroom (by rw [hsize, hl, hcs]; omega)
   rw [hr] at hr2
   cases hr2
   exact .inl rfl
  ·have holds : ∀ j u, xs[j]? = some u → w.cell? ((⟨g, 0, none⟩ : Addr).add j) = some u := hown.cells (g := g) rfl
   have hr2 := run_append_grow (P := P) w t ty e i z ht hi hz ⟨g, 0, none⟩ n cap xs (by rw [hsize]; exact hown.1) holds a m c news (by rw [hsize]; exact hl) hnews (by omega) (by omega) (growslice_fits (by omega) (by rw [hby]; omega))
   rw [hr] at hr2
   cases hr2
   exact .inr ⟨_, rfl, qhC _⟩
theorem qdW {P : Program} (w : World) (t u ty e : TypeId) (i : TypeInfo) (ht : P.underlying t = some (.slice e)) (hu : P.underlying u = some .string) (hi : P.info? e = some i) (hz : i.zero = some (.int .u8 0)) (hsize : i.size = 1) (hby : i.bytes = 1)
  (v : Value) (n : Nat) (xs : List Value) (hown : w.ownsRowF 0 e 1 v n xs) (s : ByteArray) (hb : n + s.size ≤ 140737488355328) :
  ∃ v' w', (Builtin.append_ #[t, u] ty #[v, .string s]).run P w = .ok v' w' ∧ w'.ownsRowF 0 e 1 v' (n + s.size) (xs ++ strCells s) ∧ w.grownBy w' v.ownBlock ∧ yU w v v' ∧ (v' = .slice none 0 0 ↔ v = .slice none 0 0 ∧ s.size = 0) := by
 obtain ⟨v', w', hr, h2, h3, h4⟩ := run_append_own_stringF (P := P) w 0 t u ty e i ht hu hi hz hsize hby v n xs hown s (by unfold maxLen; omega) hb (Nat.zero_le _)
 refine ⟨v', w', hr, h2, h3, ?_, h4⟩
 rcases hown.2 with ⟨rfl, rfl⟩ | ⟨g, cap, cur, fz, rfl, _, hg, hfz, hnc, hcm, hcs, htake⟩
 ·obtain ⟨v2, w2, hr2, h22, _, _⟩ := run_append_own_stringF (P := P) w w.heap.size t u ty e i ht hu hi hz hsize hby (.slice none 0 0) 0 xs ⟨hown.1, .inl ⟨rfl, rfl⟩⟩ s (by unfold maxLen; omega) hb (qhC _)
  rw [hr] at hr2
  cases hr2
  cases hv : v'.ownBlock with
  | none => exact .inl (by rw [hv]; rfl)
  | some g => exact .inr ⟨g, hv, (h22.lt g hv).1⟩
 ·by_cases hroom : n + s.size ≤ cap
  ·have hr2 := run_append_room_stringF (P := P) w t u ty e i ht hu hi hsize g n cap cur fz hg (by simpa using hfz) s hroom (by omega)
   rw [hr] at hr2
   cases hr2
   exact .inl rfl
  ·have holds : ∀ j u, xs[j]? = some u → w.cell? ((⟨g, 0, none⟩ : Addr).add j) = some u := hown.cells (g := g) rfl
   have hr2 := run_append_grow_string (P := P) w t u ty e i (.int .u8 0) ht hu hi hz ⟨g, 0, none⟩ n cap xs (by rw [hsize]; exact hown.1) holds s (by omega) (by omega) (growslice_fits (by omega) (by rw [hby]; omega))
   rw [hr] at hr2
   cases hr2
   exact .inr ⟨_, rfl, qhC _⟩
theorem qd8 {P : Program} {w : World} {ops : Array Oper} {rest : List Oper} {o : Oper} {a : Act} {Q : Exit → Act → World → Prop} (hgd : o.guard = none) (s x : Operand) (t : TypeId)
  (ho : o.op = .call { callee := .builtin .append, args := #[s, x], argTypes := #[t, t] })
  (e : TypeId) (i : TypeInfo) (z : Value) (ht : P.underlying t = some (.slice e)) (hi : P.info? e = some i) (hz : i.zero = some z)
  (hsize : i.size = 1) (hby : i.bytes = 1) (hzs : z.cells.size = 1)
  (v : Value) (n : Nat) (xs : List Value) (hs : a.eval s = v) (hown : w.ownsRowF 0 e 1 v n xs)
  (ad : Addr) (m c : Nat) (news : List Value) (hx : a.eval x = .slice (some ad) m c) (hl : news.length = m * 1) (hnews : ∀ j u, news[j]? = some u → w.cell? (ad.add j) = some u) (h1 : ∀ u ∈ news, u.oneCell' = true)
  (hb : n + m ≤ 140737488355328)
  (h : ∀ v' w', w'.ownsRowF 0 e 1 v' (n + m) (xs ++ news) → w.grownBy w' v.ownBlock → yU w v v' → (v' = .slice none 0 0 ↔ v = .slice none 0 0 ∧ m = 0) → wpList P ops Q rest (a.put o.dst v') w') : wpList P ops Q (o :: rest) a w := by
 refine wpList_plain hgd fun K hK => ?_
 obtain ⟨v', w', hr, h2, h3, h4, h5⟩ := qeD (P := P) w t o.type e i z ht hi hz hsize hby hzs v n xs hown ad m c news hl hnews h1 hb
 unfold Oper.wp execOp
 simp only [ho, resolve, invoke, builtin, Sem.run_bind, Sem.run_pure, Result.andThen_ok, List.map_toArray, List.map_cons, List.map_nil, hs, hx, hr]
 exact hK _ _ (h v' w' h2 h3 h4 h5)
theorem qde {P : Program} {w : World} {ops : Array Oper} {rest : List Oper} {o : Oper} {a : Act} {Q : Exit → Act → World → Prop} (hgd : o.guard = none) (sl x : Operand) (t u : TypeId)
  (ho : o.op = .call { callee := .builtin .append, args := #[sl, x], argTypes := #[t, u] })
  (e : TypeId) (i : TypeInfo) (ht : P.underlying t = some (.slice e)) (hu : P.underlying u = some .string) (hi : P.info? e = some i) (hz : i.zero = some (.int .u8 0))
  (hsize : i.size = 1) (hby : i.bytes = 1)
  (v : Value) (n : Nat) (xs : List Value) (hs : a.eval sl = v) (hown : w.ownsRowF 0 e 1 v n xs) (s : ByteArray) (hx : a.eval x = .string s)
  (hb : n + s.size ≤ 140737488355328)
  (h : ∀ v' w', w'.ownsRowF 0 e 1 v' (n + s.size) (xs ++ strCells s) → w.grownBy w' v.ownBlock → yU w v v' → (v' = .slice none 0 0 ↔ v = .slice none 0 0 ∧ s.size = 0) → wpList P ops Q rest (a.put o.dst v') w') : wpList P ops Q (o :: rest) a w := by
 refine wpList_plain hgd fun K hK => ?_
 obtain ⟨v', w', hr, h2, h3, h4, h5⟩ := qdW (P := P) w t u o.type e i ht hu hi hz hsize hby v n xs hown s hb
 unfold Oper.wp execOp
 simp only [ho, resolve, invoke, builtin, Sem.run_bind, Sem.run_pure, Result.andThen_ok, List.map_toArray, List.map_cons, List.map_nil, hs, hx, hr]
 exact hK _ _ (h v' w' h2 h3 h4 h5)
structure BldTy (T : TypeId) : Prop where
 lies : liesAt Tryd.prog Tryd.prog.depth T (2 / Tryd.prog.cellsOf T) 0 72 1 = true
 ne : T ≠ 5
theorem qeC (b : Nat) (w : World) (h0 : w.cell? ⟨b, 0, none⟩ = some (.pointer (some ⟨b, 0, none⟩))) :
  Calls Tryd.prog 75 #[.pointer (some ⟨b, 0, none⟩)] w fun e w' => e = .returned (.tuple #[]) ∧ w' = w := by
 obtain ⟨j, hj, _⟩ := qhA.1 (show (Tryd.prog.info? 72).map (·.size) = some 2 by kernel_rfl)
 go_enter Tryd.func75, Tryd.ntmps75
 go_wp2
 rw [Lib.run_neq_ptr_same w _ Tryd.underlying70 hj]
 go_wp2
 go_end0
 exact ⟨rfl, rfl⟩
theorem qdV {T : TypeId} (hT : BldTy T) (b : Nat) (w : World) (h0 : w.cell? ⟨b, 0, none⟩ = some (.pointer none)) (hsh : w.shape? b = some (T, 2)) (hfz : w.frozen? ⟨b, 0, none⟩ = false) :
  Calls Tryd.prog 75 #[.pointer (some ⟨b, 0, none⟩)] w fun e w' => e = .returned (.tuple #[]) ∧ w' = w.setCell ⟨b, 0, none⟩ (.pointer (some ⟨b, 0, none⟩)) := by
 obtain ⟨j, hj, hjs⟩ := qhA.1 (show (Tryd.prog.info? 72).map (·.size) = some 2 by kernel_rfl)
 go_enter Tryd.func75, Tryd.ntmps75
 go_wp2
 rw [Lib.run_to_unsafe w ⟨b, 0, none⟩ Tryd.underlying70 Tryd.underlying109 hj (by rw [hjs]; decide) hsh (Nat.zero_lt_succ 1)]
 simp only [Result.andThen]
 rw [Oper.upon_value]
 go_wp2
 rw [run_callFunc_extern Tryd.func91 (by kernel_rfl) (by kernel_rfl) (by kernel_rfl) (e := Extern.AbiNoEscape.same) (by kernel_rfl)]
 rw [Lib.run_noEscape]
 simp only [Result.andThen]
 rw [Oper.upon_value]
 go_wp2
 rw [Lib.run_from_unsafe w ⟨b, 0, none⟩ Tryd.underlying109 Tryd.underlying70 hj hsh hT.lies]
 simp only [Result.andThen]
 rw [Oper.upon_value]
 go_wp2
 go_end0
 exact ⟨rfl, rfl⟩
structure Only1 (w w' : World) (b : Nat) : Prop where
 os : w'.os = w.os
 tape : w'.tape = w.tape
 output : w'.output = w.output
 size : w'.heap.size = w.heap.size
 block : ∀ k, k ≠ b → w'.heap[k]? = w.heap[k]?
theorem qf8 {T : TypeId} (hT : BldTy T) (b : Nat) (p v : Value) (n : Nat) (bs : List Value) (w : World) (hbk : w.heap[b]? = some (.cells #[p, v] T (0, 0))) (hp : p = .pointer none ∨ p = .pointer (some ⟨b, 0, none⟩))
  (hown : w.ownsRowF 0 5 1 v n bs) (hne : v.ownBlock ≠ some b) :
  Calls Tryd.prog 75 #[.pointer (some ⟨b, 0, none⟩)] w fun e w' => e = .returned (.tuple #[]) ∧ w'.heap[b]? = some (.cells #[.pointer (some ⟨b, 0, none⟩), v] T (0, 0)) ∧ w'.ownsRowF 0 5 1 v n bs ∧
   Only1 w w' b := by
 have hc0 : w.cell? ⟨b, 0, none⟩ = some p := by rw [Lib.cell_of_heap hbk]; rfl
 rcases hp with rfl | rfl
 ·refine (qdV hT b w hc0 (by simp [World.shape?, hbk]) (Lib.frozen_of_heap hbk 0)).mono ?_
  rintro e w' ⟨rfl, rfl⟩
  have hk : ∀ k, k ≠ b → (w.setCell ⟨b, 0, none⟩ (.pointer (some ⟨b, 0, none⟩))).heap[k]? = w.heap[k]? := fun k hk => Below.heap_setCell _ _ _ _ hk
  refine ⟨rfl, by simp [World.setCell, Array.getElem?_modify, hbk], hown.kept (row := some b) ⟨rfl, rfl, rfl, by simp [World.setCell], fun k _ hk' => hk k (fun e => hk' (by rw [e]))⟩ (.inr hne), ⟨rfl, rfl, rfl, by simp [World.setCell], hk⟩⟩
 ·refine (qeC b w hc0).mono ?_
  rintro e w' ⟨rfl, rfl⟩
  exact ⟨rfl, hbk, hown, ⟨rfl, rfl, rfl, rfl, fun _ _ => rfl⟩⟩
theorem qfp {T : TypeId} (hT : BldTy T) (b : Nat) (p v : Value) (bs : List Value) (c : Int) (w : World) (hbk0 : w.heap[b]? = some (.cells #[p, v] T (0, 0))) (hp : p = .pointer none ∨ p = .pointer (some ⟨b, 0, none⟩))
  (hown0 : w.ownsRowF 0 5 1 v bs.length bs) (hne : v.ownBlock ≠ some b) (hlen : bs.length + 1 ≤ 140737488355328) :
  Calls Tryd.prog 72 #[.pointer (some ⟨b, 0, none⟩), .int .u8 c] w fun e w' => e = .returned .nilIface ∧ ∃ v', w'.heap[b]? = some (.cells #[.pointer (some ⟨b, 0, none⟩), v'] T (0, 0)) ∧
   w'.ownsRowF 0 5 1 v' (bs.length + 1) (bs ++ [.int .u8 c]) ∧ v'.ownBlock ≠ some b ∧ Kept2 w w' b v ∧ yU w v v' := by
 obtain ⟨i0, hi, hi2⟩ := qhA.1 (show (Tryd.prog.info? 5).map (fun i => (i.zero, i.size, i.bytes)) = some (some (.int .u8 0), 1, 1) by kernel_rfl)
 simp only [Prod.mk.injEq] at hi2
 obtain ⟨hz0, hz1, hz2⟩ := hi2
 have hlt0 : b < w.heap.size := by
  rcases Nat.lt_or_ge b w.heap.size with h' | h'
  ·exact h'
  ·simp [Array.getElem?_eq_none h'] at hbk0
 go_enter Tryd.func72, Tryd.ntmps72
 go_wp2_with (go_at_call 75; refine (qf8 hT b p v _ bs _ hbk0 hp hown0 hne).mono ?_)
 rintro e w1 ⟨rfl, hbk, hown, hk⟩
 have c0 : w1.cell? ⟨b, 0, none⟩ = some (.pointer (some ⟨b, 0, none⟩)) := by rw [Lib.cell_of_heap hbk]; rfl
 have c1 : w1.cell? ⟨b, 1, none⟩ = some v := by rw [Lib.cell_of_heap hbk]; rfl
 have hlt : b < w1.heap.size := by rw [hk.size]; exact hlt0
 go_wp2_with (at_builtin; go_loud (refine qd8 rfl _ _ 33 rfl 5 i0 (.int .u8 0) Tryd.underlying33 hi hz0 hz1 hz2 rfl _ _ _ rfl (hown.alloc _) ⟨w1.heap.size, 0, none⟩ 1 1 [.int .u8 c] rfl rfl ?c1 ?c2 ?c3 ?_))
 case c1 =>
  intro j u hj
  match j, hj with
  | 0, hj => simp at hj; subst hj; simp [Addr.add]
 case c2 => intro u hu; simp at hu; subst hu; rfl
 case c3 => exact hlen
 intro v' w2 hown' hgrow hnew hnil
 have hb2 : w2.heap[b]? = some (.cells #[.pointer (some ⟨b, 0, none⟩), v] T (0, 0)) := by
  rw [hgrow.block b (by simp; omega) (fun e => hne e.symm), Lib.alloc_old w1 _ b hlt]
  exact hbk
 have d0 : w2.cell? ⟨b, 0, none⟩ = some (.pointer (some ⟨b, 0, none⟩)) := by rw [Lib.cell_of_heap hb2]; rfl
 have d1 : w2.cell? ⟨b, 1, none⟩ = some v := by rw [Lib.cell_of_heap hb2]; rfl
 have f1 : w2.frozen? ⟨b, 1, none⟩ = false := Lib.frozen_of_heap hb2 1
 obtain ⟨g, cap, rfl⟩ : ∃ g cap, v' = .slice (some ⟨g, 0, none⟩) (bs.length + 1) cap := by
  rcases hown'.2 with ⟨_, h0⟩ | ⟨g, cap, cur, fz, hv, _⟩
  ·omega
  ·exact ⟨g, cap, hv⟩
 go_wp2
 go_ret
 have hne' : (Value.slice (some ⟨g, 0, none⟩) (bs.length + 1) cap).ownBlock ≠ some b := by
  rcases hnew with h | ⟨g', h, hg'⟩
  ·rw [h]; exact hne
  ·rw [h]; intro e; cases e; simp at hg'; omega
 refine ⟨rfl, _, by simp [World.setCell, Array.getElem?_modify, hb2], hown'.kept (row := some b) ⟨rfl, rfl, rfl, by simp [World.setCell], fun k _ hk' => Below.heap_setCell _ _ _ _ (fun e => hk' (by simp [e]))⟩ (.inr hne'), hne', ?_, ?_⟩
 ·exact ⟨hgrow.os.trans hk.os, hgrow.tape.trans hk.tape, hgrow.output.trans hk.output, by have := hgrow.size; simp [World.setCell] at this ⊢; have := hk.size; omega, fun k hlt' hkb hkv => by
   rw [Below.heap_setCell _ _ _ _ hkb, hgrow.block k (by have := hk.size; simp; omega) hkv, Lib.alloc_old w1 _ k (by rw [hk.size]; exact hlt'), hk.block k hkb]⟩
 ·rcases hnew with h | ⟨g', h, hg'⟩
  ·exact .inl h
  ·exact .inr ⟨g', h, by have := hk.size; simp at hg'; omega⟩
theorem qdU {T : TypeId} (hT : BldTy T) (b : Nat) (p v : Value) (bs : List Value) (s : ByteArray) (w : World) (hbk0 : w.heap[b]? = some (.cells #[p, v] T (0, 0))) (hp : p = .pointer none ∨ p = .pointer (some ⟨b, 0, none⟩))
  (hown0 : w.ownsRowF 0 5 1 v bs.length bs) (hne : v.ownBlock ≠ some b) (hlen : bs.length + s.size ≤ 140737488355328) :
  Calls Tryd.prog 57 #[.pointer (some ⟨b, 0, none⟩), .string s] w fun e w' => e = .returned (.tuple #[.int .i64 s.size, .nilIface]) ∧ ∃ v', w'.heap[b]? = some (.cells #[.pointer (some ⟨b, 0, none⟩), v'] T (0, 0)) ∧
   w'.ownsRowF 0 5 1 v' (bs.length + s.size) (bs ++ strCells s) ∧ v'.ownBlock ≠ some b ∧ Kept2 w w' b v ∧ yU w v v' ∧ (v' = .slice none 0 0 ↔ v = .slice none 0 0 ∧ s.size = 0) := by
 obtain ⟨i0, hi, hi2⟩ := qhA.1 (show (Tryd.prog.info? 5).map (fun i => (i.zero, i.size, i.bytes)) = some (some (.int .u8 0), 1, 1) by kernel_rfl)
 simp only [Prod.mk.injEq] at hi2
 obtain ⟨hz0, hz1, hz2⟩ := hi2
 have hlt0 : b < w.heap.size := by
  rcases Nat.lt_or_ge b w.heap.size with h' | h'
  ·exact h'
  ·simp [Array.getElem?_eq_none h'] at hbk0
 go_enter Tryd.func57, Tryd.ntmps57
 go_wp2_with (go_at_call 75; refine (qf8 hT b p v _ bs _ hbk0 hp hown0 hne).mono ?_)
 rintro e w1 ⟨rfl, hbk, hown, hk⟩
 have c0 : w1.cell? ⟨b, 0, none⟩ = some (.pointer (some ⟨b, 0, none⟩)) := by rw [Lib.cell_of_heap hbk]; rfl
 have c1 : w1.cell? ⟨b, 1, none⟩ = some v := by rw [Lib.cell_of_heap hbk]; rfl
 have hlt : b < w1.heap.size := by rw [hk.size]; exact hlt0
 go_wp2_with (at_builtin; go_loud (refine qde rfl _ _ 33 9 rfl 5 i0 Tryd.underlying33 Tryd.underlying9 hi hz0 hz1 hz2 _ _ _ rfl hown s rfl ?c3 ?_))
 case c3 => exact hlen
 intro v' w2 hown' hgrow hnew hnil
 have hb2 : w2.heap[b]? = some (.cells #[.pointer (some ⟨b, 0, none⟩), v] T (0, 0)) := by
  rw [hgrow.block b hlt (fun e => hne e.symm)]
  exact hbk
 have d0 : w2.cell? ⟨b, 0, none⟩ = some (.pointer (some ⟨b, 0, none⟩)) := by rw [Lib.cell_of_heap hb2]; rfl
 have d1 : w2.cell? ⟨b, 1, none⟩ = some v := by rw [Lib.cell_of_heap hb2]; rfl
 have f1 : w2.frozen? ⟨b, 1, none⟩ = false := Lib.frozen_of_heap hb2 1
 obtain ⟨ao, n', cap, rfl⟩ : ∃ ao n' cap, v' = .slice ao n' cap := by
  rcases hown'.2 with ⟨hv, _⟩ | ⟨g, cap, cur, fz, hv, _⟩
  ·exact ⟨_, _, _, hv⟩
  ·exact ⟨_, _, _, hv⟩
 go_wp2
 go_ret2
 have hne' : (Value.slice ao n' cap).ownBlock ≠ some b := by
  rcases hnew with h | ⟨g', h, hg'⟩
  ·rw [h]; exact hne
  ·rw [h]; intro e; cases e; omega
 refine ⟨rfl, _, by simp [World.setCell, Array.getElem?_modify, hb2], hown'.kept (row := some b) ⟨rfl, rfl, rfl, by simp [World.setCell], fun k _ hk' => Below.heap_setCell _ _ _ _ (fun e => hk' (by simp [e]))⟩ (.inr hne'), hne', ?_, ?_, by simpa using hnil⟩
 ·exact ⟨hgrow.os.trans hk.os, hgrow.tape.trans hk.tape, hgrow.output.trans hk.output, by have := hgrow.size; simp [World.setCell] at this ⊢; have := hk.size; omega, fun k hlt' hkb hkv => by
   rw [Below.heap_setCell _ _ _ _ hkb, hgrow.block k (by have := hk.size; omega) hkv, hk.block k hkb]⟩
 ·rcases hnew with h | ⟨g', h, hg'⟩
  ·exact .inl h
  ·exact .inr ⟨g', h, by have := hk.size; omega⟩
theorem qg1 {T : TypeId} (b : Nat) (p v : Value) (l : List UInt8) (w : World) (hbk : w.heap[b]? = some (.cells #[p, v] T (0, 0)))
  (hown0 : w.ownsRowF 0 5 1 v l.length (byteCells l)) (hne : v.ownBlock ≠ some b) (hnil : l = [] → v = .slice none 0 0) :
  Calls Tryd.prog 55 #[.pointer (some ⟨b, 0, none⟩)] w fun e w' => e = .returned (.string ⟨l.toArray⟩) ∧ w'.heap[b]? = some (.cells #[p, v] T (0, 0)) ∧
   w'.ownsRowF 0 5 1 v l.length (byteCells l) ∧ Kept2 w w' b v := by
 have mixed : Tryd.prog.follows .mixedOrders = true := by kernel_rfl
 by_cases h0 : l = []
 ·obtain rfl := h0
  obtain rfl := hnil rfl
  have hUS : ∀ W : World, ∀ q, (Builtin.unsafeString_ #[98, 3] 9 #[.pointer q, .int .i64 0]).run Tryd.prog W = .ok (.string .empty) W := fun W q => Lib.run_unsafeString_none W _ _ _ q
  have c1 : w.drew.cell? ⟨b, 1, none⟩ = some (.slice none 0 0) := by
   have : w.drew.heap[b]? = some (.cells #[p, .slice none 0 0] T (0, 0)) := hbk
   rw [Lib.cell_of_heap this]; rfl
  have hSD : (Builtin.unsafeSliceData_ #[33] 98 #[.slice none 0 0]).run Tryd.prog w.drew = .ok (.pointer none) w.drew := rfl
  go_enter Tryd.func55, Tryd.ntmps55
  go_wp2
  go_region_o
  all_goals (go_wp2; go_ret; exact ⟨rfl, hbk, hown0, ⟨rfl, rfl, rfl, qhC _, fun _ _ _ _ => rfl⟩⟩)
 ·have hl0 : l.length ≠ 0 := by simpa using h0
  have hown := hown0
  obtain ⟨g, cap, cur, fz, rfl, hg, hfz, hnc, hcm, hcs, htake⟩ : ∃ g cap cur fz, v = .slice (some ⟨g, 0, none⟩) l.length cap ∧ w.heap[g]? = some (.cells cur 5 fz) ∧ fz.2 ≤ l.length * 1 ∧ l.length ≤ cap ∧ cap ≤ maxLen ∧ cur.size = cap * 1 ∧ cur.toList.take (l.length * 1) = Lib.byteCells l := by
   rcases hown.2 with ⟨_, hz⟩ | ⟨g, cap, cur, fz, hv, _, r⟩
   ·exact absurd hz hl0
   ·exact ⟨g, cap, cur, fz, hv, r⟩
  have hgb : g ≠ b := fun e => hne (by simp [Value.ownBlock, e])
  have c1 : w.drew.cell? ⟨b, 1, none⟩ = some (.slice (some ⟨g, 0, none⟩) l.length cap) := by
   have : w.drew.heap[b]? = some (.cells #[p, .slice (some ⟨g, 0, none⟩) l.length cap] T (0, 0)) := hbk
   rw [Lib.cell_of_heap this]; rfl
  have hSD : (Builtin.unsafeSliceData_ #[33] 98 #[.slice (some ⟨g, 0, none⟩) l.length cap]).run Tryd.prog w.drew = .ok (.pointer (some ⟨g, 0, none⟩)) w.drew :=
   Lib.run_unsafeSliceData_row _ _ _ _ _ _ (by omega)
  have hUS : (Builtin.unsafeString_ #[98, 3] 9 #[.pointer (some ⟨g, 0, none⟩), .int .i64 l.length]).run Tryd.prog w.drew = .ok (.string ⟨l.toArray⟩) (w.drew.freeze ⟨g, 0, none⟩ l.length) := by
   refine Lib.run_unsafeString_row w.drew 98 3 9 5 Tryd.underlying98 (by kernel_rfl) g cur.size (by have hg' : w.drew.heap[g]? = some (.cells cur 5 fz) := hg; simp [World.shape?, hg']) l h0 (by omega) (by unfold maxLen at hcm; omega) ?_
   intro j x hx
   exact hown.cells (g := g) rfl j (.int .u8 x.toNat) (by simp [Lib.byteCells, hx])
  have hA : Lib.BuilderAtF T 5 0 b p (Lib.byteCells l) w.drew := ⟨Nat.zero_le _, _, hbk, by rw [Lib.byteCells_length]; exact hown0, hne⟩
  have hF := hA.froze (g := g) (cap := cap) (by rw [Lib.byteCells_length]; exact c1)
  rw [Lib.byteCells_length] at hF
  have hfin : (w.drew.freeze ⟨g, 0, none⟩ l.length).heap[b]? = some (.cells #[p, .slice (some ⟨g, 0, none⟩) l.length cap] T (0, 0)) ∧
   (w.drew.freeze ⟨g, 0, none⟩ l.length).ownsRowF 0 5 1 (.slice (some ⟨g, 0, none⟩) l.length cap) l.length (byteCells l) ∧ Kept2 w (w.drew.freeze ⟨g, 0, none⟩ l.length) b (.slice (some ⟨g, 0, none⟩) l.length cap) := by
   have hfb : ∀ k, k ≠ g → (w.drew.freeze ⟨g, 0, none⟩ l.length).heap[k]? = w.heap[k]? := fun k hk => by
    unfold World.freeze
    split
    ·rfl
    ·simp [Array.getElem?_modify, hk.symm]
     rfl
   have hb' := (hfb b hgb.symm).trans hbk
   obtain ⟨_, v2, q1, q2, q3⟩ := hF
   rw [hb'] at q1
   simp only [Option.some.injEq, Obj.cells.injEq, Array.mk.injEq, List.cons.injEq] at q1
   obtain ⟨⟨_, rfl, _⟩, _⟩ := q1
   rw [Lib.byteCells_length] at q2
   refine ⟨hb', q2, ?_⟩
   have hs : (w.drew.freeze ⟨g, 0, none⟩ l.length).os = w.os ∧ (w.drew.freeze ⟨g, 0, none⟩ l.length).tape = w.tape ∧ (w.drew.freeze ⟨g, 0, none⟩ l.length).output = w.output ∧ (w.drew.freeze ⟨g, 0, none⟩ l.length).heap.size = w.heap.size := by
    unfold World.freeze
    split
    ·exact ⟨rfl, rfl, rfl, rfl⟩
    ·exact ⟨rfl, rfl, rfl, by simp⟩
   exact ⟨hs.1, hs.2.1, hs.2.2.1, by rw [hs.2.2.2]; exact qhC _, fun k _ _ hk => hfb k fun e => hk (by rw [e]; rfl)⟩
  clear hF hA
  go_enter Tryd.func55, Tryd.ntmps55
  go_wp2
  go_region_o
  all_goals (go_wp2; go_ret; exact ⟨rfl, hfin⟩)
end Go.Proofs.YtnmfakkjnbpjpaaDoor
end
section
namespace Go.Av
abbrev Rz := List (List AV)
abbrev Bz := List UInt8
inductive Tm where
 | mk (k n : Int) (s : List UInt8) (l : List Tm)
 deriving Inhabited
namespace Tm
def str : Tm → List UInt8 | mk _ _ s _ => s
end Tm
mutual
def Tm.cells : Tm → List AV
 | .mk k n s l => [.int .i64 k, .int .i64 n, .str s, .sl (yY l)]
def yY : List Tm → List (List AV)
 | [] => []
 | t :: l => t.cells :: yY l
end
theorem qcF : ∀ l : List Tm, yY l = l.map Tm.cells
 | [] => by rw [yY]; rfl
 | t :: l => by rw [yY, qcF l]; rfl
@[simp] theorem rowsT_length (l : List Tm) : (yY l).length = l.length := by rw [qcF]; simp
@[simp] theorem rowsT_nil : yY [] = [] := by rw [yY]
mutual
/-- no list is longer than is counted here, no text -/
def Tm.Ok : Tm → Prop
 | .mk _ _ s l => s.length < 1099511627776 ∧ l.length < 1099511627776 ∧ OkL l
def OkL : List Tm → Prop
 | [] => True
 | t :: l => t.Ok ∧ OkL l
end
theorem qeO {l : List Tm} : OkL l ↔ ∀ t ∈ l, t.Ok := by
 induction l with
 | nil => simp [OkL]
 | cons t l ih => simp [OkL, ih]
theorem Tm.Ok.str {k n : Int} {s : List UInt8} {l : List Tm} (h : (Tm.mk k n s l).Ok) : s.length < 1099511627776 := by rw [Tm.Ok] at h; exact h.1
theorem Tm.Ok.len {k n : Int} {s : List UInt8} {l : List Tm} (h : (Tm.mk k n s l).Ok) : l.length < 1099511627776 := by rw [Tm.Ok] at h; exact h.2.1
theorem Tm.Ok.sub {k n : Int} {s : List UInt8} {l : List Tm} (h : (Tm.mk k n s l).Ok) {t : Tm} (ht : t ∈ l) : t.Ok := by rw [Tm.Ok] at h; exact qeO.1 h.2.2 t ht
theorem OkL.get {l : List Tm} (h : OkL l) {t : Tm} (ht : t ∈ l) : t.Ok := qeO.1 h t ht
mutual
def Tm.w : Tm → Nat
 | .mk _ _ s l => 1 + s.length + wL l
def wL : List Tm → Nat
 | [] => 0
 | t :: l => t.w + wL l
end
@[simp] theorem wL_nil : wL [] = 0 := by rw [wL]
@[simp] theorem wL_cons (t : Tm) (l : List Tm) : wL (t :: l) = t.w + wL l := by rw [wL]
@[simp] theorem wL_append (a b : List Tm) : wL (a ++ b) = wL a + wL b := by
 induction a with
 | nil => simp
 | cons t l ih => simp [ih]; omega
end Go.Av
end
section
namespace Go.Proofs.YtnmfakkjnbpjpaaDoor
open Go.Av
def C0 (W : World) : qa := fun b o => W.cell? ⟨b, o, none⟩
def M0 : MMap := fun _ => none
structure TermTys (P : Program) (tT tL tI tS : TypeId) : Prop where
 uT : ∃ f0 f1 f2 f3 : Field, P.underlying tT = some (.struct #[f0, f1, f2, f3]) ∧ f0.type = tI ∧ f0.offset = 0 ∧ f1.type = tI ∧ f1.offset = 1 ∧ f2.type = tS ∧ f2.offset = 2 ∧ f3.type = tL ∧ f3.offset = 3
 uL : P.underlying tL = some (.slice tT)
 uI : P.underlying tI = some (.int .i64)
 uS : P.underlying tS = some .string
 cT : P.cellsOf tT = 4
 cL : P.cellsOf tL = 1
 cI : P.cellsOf tI = 1
 cS : P.cellsOf tS = 1
section
variable {H : Type} {enc : TypeId × Value → H} {P : Program} {W : World} {tT tL tI tS : TypeId}
end
end Go.Proofs.YtnmfakkjnbpjpaaDoor
end
section
namespace Go.Proofs.YtnmfakkjnbpjpaaDoor
open Go.Av Go.RowKit
theorem qaO : ∀ {rows : List (List AV)} {xs : List (List UInt8)}, zj rows = some xs → rows = xs.map fun s => [.str s]
 | [], xs, h => by simp [zj] at h; subst h; rfl
 | row :: l, xs, h => by
  unfold zj at h
  split at h
  ·rename_i heq; cases heq
  ·rename_i s l' heq
   cases heq
   split at h
   ·rename_i q hq; cases h; rw [List.map_cons, ← qaO hq]
   ·cases h
  ·cases h
def OkU [Lent] (f : FuncId) (s : List AV → AH → Option (AV × AH)) : Prop :=
 ∀ args H r H', s args H = some (r, H') → ∀ C μ w vs, qc C μ args vs → Wld C μ H w → qr Tryd.prog (callFunc f vs) w (qu C μ H w r H')
theorem qdD [Lent] {f : FuncId} {s : List AV → AH → Option (AV × AH)} : ∀ {l : List (Nat × (List AV → AH → Option (AV × AH)))}, (∀ p ∈ l, OkU p.1 p.2) → zs f l = some s → OkU f s
 | [], _, h => by cases h
 | p :: l, hp, h => by
  rw [zs] at h
  split at h
  ·rename_i e
   have e := qhF e
   cases h
   subst e
   exact hp p (by simp)
  ·exact qdD (fun q hq => hp q (by simp [hq])) h
theorem qa9 {T e : TypeId} (h : qbQ xn.look T e = true) : e = 5 ∧ BldTy T := by
 have ok : xn.All fun T e => e = 5 ∧ BldTy T := by
  unfold xn
  repeat (first | exact trivial | refine BT.all_node ⟨rfl, ⟨by kernel_rfl, by decide⟩⟩ ?_ ?_)
 unfold qbQ at h
 split at h
 ·rename_i e' he
  obtain ⟨h1, h2⟩ := BT.all_look ok he
  exact ⟨by rw [← h1]; exact (qhF h).symm, h2⟩
 ·cases h
section
variable [Lent] {C : qa} {μ : MMap} {w w' : World}
theorem qcw {T e : TypeId} {s : List UInt8} {l : AH} {x : Value} (hr : Rep C μ (.ptr 0 0 0) x) (hw : Wld C μ (.bld T e s :: l) w) : ∃ m, μ 0 = some m ∧ x = .pointer (some ⟨m.block, 0, none⟩) ∧ yV w m T e s := by
 cases hr with
 | ptr _ _ _ m hm =>
  have hb : yV w m T e s := (hw.liveM (id := 0) rfl rfl hm).2.2
  refine ⟨m, hm, ?_, hb⟩
  rw [hb.1]
  simp
theorem qbi {T e : TypeId} {s s' : List UInt8} {l : AH} {m : MI} {v v' p' : Value} {r : AV} {rv : Value} (hw : Wld C μ (.bld T e s :: l) w) (hm : μ 0 = some m) (hb0 : m.base = 0) (hold : ∀ g, v.ownBlock = some g → m.has g)
  (hk : Kept2 w w' m.block v) (hnew : w'.heap[m.block]? = some (.cells #[p', v'] T (0, 0))) (hp' : p' = .pointer none ∨ p' = .pointer (some ⟨m.block, 0, none⟩)) (hown : w'.ownsRowF 0 e 1 v' s'.length (Lib.byteCells s')) (hne : v'.ownBlock ≠ some m.block)
  (hnil : s' = [] → v' = .slice none 0 0) (hbuf : yU w v v') (hr : ∀ μ', Rep C μ' r rv) : qu C μ (.bld T e s :: l) w r (.bld T e s' :: l) rv w' := by
 have hbl : ∀ x, v'.ownBlock = some x → m.has x ∨ (w.heap.size ≤ x ∧ x < w'.heap.size) := fun x hx => by
  rcases hbuf with h | ⟨g, h, hg⟩
  ·exact .inl (hold x (h ▸ hx))
  ·rw [hx] at h; cases h; exact .inr ⟨hg, (hown.lt x hx).2⟩
 obtain ⟨a1, a2⟩ := hw.grow (id := 0) (blk' := .bld T e s') (m' := m.plus v'.ownBlock) rfl rfl rfl hm (m.plus_le _) hk.size
  (fun x hx => by
   rcases MI.plus_has hx with h | h
   ·exact .inl h
   ·exact hbl x h)
  (fun k hk1 hk2 => hk.block k hk1 (fun e => hk2 (e ▸ m.has_block)) (fun e => hk2 (hold k e.symm)))
  ⟨hb0, p', v', hnew, hp', hown, hne, hnil, fun g hg => MI.has_plus hg⟩ trivial hk.os hk.tape hk.output
 exact ⟨C, _, hr _, a1, a2⟩
theorem qdd : OkU 72 (yP xn.look) := fun args H r H' hr C μ w vs ha hw => by
 unfold yP at hr
 split at hr
 case h_2 => cases hr
 rename_i c T e s l
 split at hr
 case isFalse => cases hr
 rename_i hc
 cases hr
 obtain ⟨h1, h2, h3, h4⟩ := hc
 obtain ⟨rfl, hT⟩ := qa9 h1
 obtain ⟨hl, hv⟩ := ha
 obtain ⟨x, y, rfl⟩ := yy hl
 have q1 := hv 1 _ _ rfl rfl
 cases q1
 obtain ⟨m, hm, rfl, hb0, p, v, b1, b2, b3, b4, b5, b6⟩ := qcw (hv 0 _ _ rfl rfl) hw
 rw [← Lib.byteCells_length s] at b3
 refine qB Tryd.func72 (by rfl) rfl ((qfp hT m.block p v (Lib.byteCells s) c w b1 b2 b3 b4 (by rw [Lib.byteCells_length]; omega)).mono fun e' w' ⟨e1, v', e2, e3, e4, e5, e6⟩ => ⟨_, e1, ?_⟩)
 have hcat : Lib.byteCells s ++ [.int .u8 c] = Lib.byteCells (s ++ [c.toNat.toUInt8]) := by
  simp [Lib.byteCells]
  omega
 rw [hcat, Lib.byteCells_length] at e3
 refine qbi hw hm hb0 b6 e5 e2 (.inr rfl) (by simpa using e3) e4 (fun h => by simp at h) e6 fun _ => .nilI
theorem qck : OkU 57 (xO xn.look) := fun args H r H' hr C μ w vs ha hw => by
 unfold xO at hr
 split at hr
 case h_2 => cases hr
 rename_i t T e s l
 split at hr
 case isFalse => cases hr
 rename_i hc
 cases hr
 obtain ⟨h1, h2⟩ := hc
 obtain ⟨rfl, hT⟩ := qa9 h1
 obtain ⟨hl, hv⟩ := ha
 obtain ⟨x, y, rfl⟩ := yy hl
 have q1 := hv 1 _ _ rfl rfl
 cases q1
 obtain ⟨m, hm, rfl, hb0, p, v, b1, b2, b3, b4, b5, b6⟩ := qcw (hv 0 _ _ rfl rfl) hw
 rw [← Lib.byteCells_length s] at b3
 have hts : (⟨t.toArray⟩ : ByteArray).size = t.length := by simp [ByteArray.size]
 refine qB Tryd.func57 (by rfl) rfl ((qdU hT m.block p v (Lib.byteCells s) ⟨t.toArray⟩ w b1 b2 b3 b4 (by rw [Lib.byteCells_length, hts]; omega)).mono fun e' w' ⟨e1, v', e2, e3, e4, e5, e6, e7⟩ => ⟨_, e1, ?_⟩)
 have hcat : Lib.byteCells s ++ Lib.strCells ⟨t.toArray⟩ = Lib.byteCells (s ++ t) := by
  simp [Lib.byteCells, Lib.strCells]
 rw [hcat, Lib.byteCells_length, hts] at e3
 refine qbi hw hm hb0 b6 e5 e2 (.inr rfl) (by simpa using e3) e4 (fun h => ?_) e6 fun _ => ?_
 ·simp only [List.append_eq_nil_iff] at h
  exact e7.2 ⟨b5 h.1, by rw [hts, h.2]; rfl⟩
 ·rw [hts]
  exact Rep.tup [.int .i64 t.length, .nilI] [.int .i64 t.length, .nilIface] rfl fun i a u h1 h2 => by
   rcases i with _ | _ | i
   ·simp at h1 h2; subst h1; subst h2; exact .int _ _
   ·simp at h1 h2; subst h1; subst h2; exact .nilI
   ·simp at h1
theorem qfE : OkU 55 (qap xn.look) := fun args H r H' hr C μ w vs ha hw => by
 unfold qap at hr
 split at hr
 case h_2 => cases hr
 rename_i T e s l
 split at hr
 case isFalse => cases hr
 rename_i hc
 cases hr
 obtain ⟨h1, h2⟩ := hc
 obtain ⟨rfl, hT⟩ := qa9 h1
 obtain ⟨hl, hv⟩ := ha
 obtain ⟨x, rfl⟩ : ∃ x, vs = #[x] := by
  obtain ⟨l⟩ := vs
  match l, hl with
  | [x], _ => exact ⟨x, rfl⟩
 obtain ⟨m, hm, rfl, hb0, p, v, b1, b2, b3, b4, b5, b6⟩ := qcw (hv 0 _ _ rfl rfl) hw
 refine qB Tryd.func55 (by rfl) rfl ((qg1 m.block p v s w b1 b3 b4 b5).mono fun e' w' ⟨e1, e2, e3, e4⟩ => ⟨_, e1, ?_⟩)
 exact qbi hw hm hb0 b6 e4 e2 b2 e3 b4 b5 (.inl rfl) fun _ => .str _
end
section
variable [Lent] {C : qa} {μ : MMap} {w w' : World}
def qgN [Lent] (g : Nat) : Prop := ∃ v t fz, Lent.l g 0 = some v ∧ Lent.k g = some (.cells (Lib.pow10Tab.map fun z => Value.int .u64 z).toArray t fz)
theorem qgW (hT : ∃ g, Tryd.prog.globalNamed "internal/strconv.uint64pow10" = some g ∧ qgN g) : OkU 22 qct := fun args H r H' hr C μ w vs ha hw => by
 unfold qct at hr
 split at hr
 case h_2 => cases hr
 rename_i n
 split at hr
 case isFalse => cases hr
 rename_i hc
 cases hr
 obtain ⟨hl, hv⟩ := ha
 obtain ⟨x, rfl⟩ : ∃ x, vs = #[x] := by
  obtain ⟨l⟩ := vs
  match l, hl with
  | [x], _ => exact ⟨x, rfl⟩
 have q0 := hv 0 _ _ rfl rfl
 cases q0
 obtain ⟨g, hg, v, t, fz, t1, t2⟩ := hT
 have htab : Lib.TabIs Tryd.prog w "internal/strconv.uint64pow10" .u64 Lib.pow10Tab := by
  have := (hw.lnt.1 g 0 v t1).2 _ t2
  unfold Lib.TabIs World.var?
  simp only [hg, qhP, this]
 refine qB Tryd.func22 (by rfl) rfl ((Tryd.strconv_Itoa n hc.1 hc.2 w htab).mono fun e w' ⟨e1, k, os, e2⟩ => ⟨_, e1, ?_⟩)
 subst e2
 rw [qgr hc.1 hc.2]
 exact yi hw (Go.Lib.below_grow _ w (qhC _) k os) (.str _)
theorem qgV : OkU 25 qcs := fun args H r H' hr C μ w vs ha hw => by
 unfold qcs at hr
 split at hr
 case h_2 => cases hr
 rename_i rows sep
 split at hr
 case h_2 => cases hr
 rename_i xs hxs
 split at hr
 case isFalse => cases hr
 rename_i hc
 cases hr
 obtain rfl := qaO hxs
 obtain ⟨hl, hv⟩ := ha
 obtain ⟨x, y, rfl⟩ := yy hl
 have q0 := hv 0 _ _ rfl rfl
 have q1 := hv 1 _ _ rfl rfl
 cases q1
 generalize hrows : xs.map (fun s => [AV.str s]) = rows at q0
 by_cases hx : xs = []
 ·subst hx
  simp at hrows
  subst hrows
  have fin : ∀ a c, x = .slice a 0 c → qr Tryd.prog (callFunc 25 #[x, .string ⟨sep.toArray⟩]) w (qu C μ H w (.str (Lib.join [] sep)) H) := fun a c hxx => by
   subst hxx
   refine qB Tryd.func25 (by rfl) rfl ((Tryd.strings_Join_none a c ⟨sep.toArray⟩ w).mono fun e w' ⟨e1, e2⟩ => ⟨_, e1, ?_⟩)
   subst e2
   exact ⟨C, μ, .str [], hw, Ext.refl (qhC _)⟩
  cases q0 with
  | slNil => exact fin _ _ rfl
  | sl _ a cap sz vals h1 h2 h3 h4 h5 h6 h7 => exact fin _ _ rfl
 ·cases q0 with
  | slNil => simp at hrows; exact absurd hrows hx
  | sl _ a cap sz vals h1 h2 h3 h4 h5 h6 h7 =>
   subst hrows
   have hne : xs.map (fun s => [AV.str s]) ≠ [] := by simpa using hx
   obtain ⟨bk, o, sp⟩ := a
   obtain rfl : sp = none := h1 hne
   have hsz : sz = 1 := by
    cases xs with
    | nil => exact absurd rfl hx
    | cons s l => exact (h2 0 [.str s] rfl).symm
   subst hsz
   have hcell : ∀ (j : Nat) s, xs[j]? = some s → w.cell? ⟨bk, o + j, none⟩ = some (.string ⟨s.toArray⟩) := fun j s hj => by
    have g1 : (xs.map (fun s => [AV.str s]))[j]? = some [.str s] := by simp [hj]
    have g2 := hw.cl _ _ _ (h3 j 0 _ (.str s) g1 rfl)
    have g3 := h4 j 0 _ (.str s) g1 rfl
    generalize vals j 0 = u at g2 g3
    cases g3
    simpa using g2
   have hbk : bk < w.heap.size := by
    cases xs with
    | nil => exact absurd rfl hx
    | cons s l => exact World.block_lt_of_cell? w _ (hcell 0 s rfl)
   have hlen : ((xs.map fun s => (⟨s.toArray⟩ : ByteArray)).map (·.data.toList)) = xs := by rw [List.map_map]; exact List.map_id xs
   have := Tryd.strings_Join bk o cap (xs.map fun s => ⟨s.toArray⟩) ⟨sep.toArray⟩ w (fun j x hj => by
    simp only [List.getElem?_map, qhA] at hj
    obtain ⟨s, hs, rfl⟩ := hj
    exact hcell j s hs) hbk (by simpa using hc.1) (by simpa using h6) (by rw [hlen]; exact hc.2)
   rw [hlen] at this
   have hll : (xs.map fun s => [AV.str s]).length = (xs.map fun s => (⟨s.toArray⟩ : ByteArray)).length := by simp
   rw [hll]
   exact qB Tryd.func25 (by rfl) rfl (this.mono fun e w' ⟨e1, e2⟩ => ⟨_, e1, yi hw e2 (.str _)⟩)
end
structure Vars [Lent] : Prop where
 m : ∃ m, Lent.l 0 0 = some (.int .i64 m)
 s : qc9 2
 r : qc9 3
 t : ∃ g, Tryd.prog.globalNamed "internal/strconv.uint64pow10" = some g ∧ qgN g
theorem qfQ (f : FuncId) (fn : Func) (h : Tryd.prog.funcs[f]? = some fn) : (fn.name == "runtime.NumGoroutine") = false := by
 have h1 := List.all_eq_true.1 qgm fn (by
  rw [← Array.getElem?_toList] at h
  exact qhL h)
 simpa using h1
theorem qg0 [Lent] (h : Vars) : CfgOk cfg where
 ty := ⟨fun t ti h => BT.all_look qha h⟩
 mixed := qgn
 named := fun f fn _ h => qfQ f fn h
 ext := fun f s hs => by
  have hs : zs f qbY = some s := hs
  refine qdD (l := qbY) (fun p hp => ?_) hs
  unfold qbY at hp
  rw [qfj] at hp
  simp only [List.mem_cons, List.not_mem_nil, or_false] at hp
  rcases hp with rfl | rfl | rfl | rfl | rfl | rfl | rfl | rfl
  all_goals first
   | exact qdd
   | exact qck
   | exact qfE
   | exact qgV
   | exact qgW h.t
   | exact fun _ _ _ _ hr _ _ _ _ ha hw => qhf hr ha hw
   | exact fun _ _ _ _ hr _ _ _ _ ha hw => qey h.m hr ha hw
   | exact fun _ _ _ _ hr _ _ _ _ ha hw => qgk h.s h.r hr ha hw
@[instance_reducible] def xH (W : World) : Lent := ⟨fun b o => if (b = 0 ∨ b = 1 ∨ b = 2 ∨ b = 3) ∧ o = 0 then W.cell? ⟨b, o, none⟩ else none, False, fun _ => True, fun b => if b = 1 then W.heap[b]? else none⟩
theorem wldU (W : World) : @Wld (xH W) (C0 W) M0 [] W := by
 letI := xH W
 exact ⟨fun _ _ _ h => h, fun id m h => (by cases h), fun id h => (by simp at h), fun id b h => (by simp at h), fun id d sz rs h => (by simp at h), fun i i' b b' m m' h => (by simp at h), xj.nil, by
  refine ⟨fun b o v h => ?_, fun h => h.elim, fun _ _ => trivial⟩
  have h : (if (b = 0 ∨ b = 1 ∨ b = 2 ∨ b = 3) ∧ o = 0 then W.cell? ⟨b, o, none⟩ else none) = some v := h
  split at h
  ·refine ⟨h, fun ob hk => ?_⟩
   have hk : (if b = 1 then W.heap[b]? else none) = some ob := hk
   split at hk
   ·exact hk
   ·cases hk
  ·cases h⟩
end Go.Proofs.YtnmfakkjnbpjpaaDoor
end
section
namespace Go.Proofs.YtnmfakkjnbpjpaaDoor
open Go.Av Go.ChangeShapes Go.WideShapes Go.ChangeAt Go.RowKit
theorem qgl : ownKnob Tryd.prog.godebug = none := by kernel_rfl
theorem qgi [Lent] {C : qa} : qc C M0 [] #[] := ⟨rfl, fun i c v hc hv => by simp at hc⟩
section
variable {H : Type} {enc : TypeId × Value → H} {P : Program} {W W' : World}
theorem qfO {f : Func} {s : ChangeSpec} {apart fresh handsOn again : Bool} {args : Array Value} {v : Value} {ds gs : List (DataW H)} {before pa pv : List MemPlace}
  (hW : DataW.Whole enc P f.params.toList s.vars apart W args.toList ds gs before)
  (hres : ∀ (b : Nat) (sp : Nat → Bool) (hd : Bool), DataW.TrodAll enc P W' b sp hd f.resultTypes.toList (v.resultList f.resultTypes.size) (s.fn H (ds ++ gs)).results [])
  (hargs : ∀ sp : Nat → Bool, (∀ p ∈ before, sp p.block = true) → DataW.TrodAll enc P W' 0 sp true f.params.toList args.toList (s.fn H (ds ++ gs)).args pa)
  (hvars : ∀ sp : Nat → Bool, (∀ p ∈ before, sp p.block = true) → DataW.TrodVars enc P W' sp s.vars (s.fn H (ds ++ gs)).vars pv)
  (hps : before = pa ++ pv) (hk : W.keptBut W' (· ∈ before)) (hfz : ∀ b o, b < W.heap.size → W'.frozen? ⟨b, o, none⟩ = W.frozen? ⟨b, o, none⟩)
  (hok : ∀ (j : Nat) (t : TypeId) (r : Value), f.resultTypes[j]? = some t → (v.resultList f.resultTypes.size)[j]? = some r → Value.okWide P W' .any 0 t r) :
  s.post enc P f apart fresh handsOn again W args v W' := by
 have hlt := hW.lt
 have hold : ∀ p ∈ before, (fun b => decide (b < W.heap.size)) p.block = true := fun p hp => by simpa using hlt p hp
 refine ⟨ds, gs, before, [], pa, pv, hW, hres _ _ _, hargs _ hold, hvars _ hold, World.keptBut_mono (fun p hp => ⟨hp, ?_⟩) hk, fun _ => ?_⟩
 ·rw [hps, qhM] at hp
  exact Or.inr hp
 ·obtain ⟨_, _, _, _, _, hz, hn⟩ := hW
  refine ⟨hok, _, _, ([] ++ pa) ++ pv, ⟨[] ++ pa, pv, trodAll_append (hargs _ (fun _ _ => rfl)) (hres _ _ _), hvars _ (fun _ _ => rfl), rfl, ?_, ?_⟩, ?_⟩
  ·intro b off hp
   have hp' : MemPlace.cell b off ∈ before := by rw [hps]; simpa using hp
   rw [hfz b off (hlt _ hp')]
   exact hz b off hp'
  ·intro ha
   have := hn ha
   rw [hps] at this
   simpa using this
  ·intro p hp _
   rw [hps]
   simpa using hp
theorem qdH (h : ∀ b, b < W.heap.size → W'.heap[b]? = W.heap[b]?) (ho : W'.os = W.os) (hu : W'.output = W.output) (may : MemPlace → Prop) : W.keptBut W' may := by
 refine ⟨ho, hu, fun i hi => ?_⟩
 rw [h i hi]
 cases W.heap[i]? with
 | none => rfl
 | some o => cases o <;> simp
theorem frozen_of_heap (h : ∀ b, b < W.heap.size → W'.heap[b]? = W.heap[b]?) (b o : Nat) (hb : b < W.heap.size) : W'.frozen? ⟨b, o, none⟩ = W.frozen? ⟨b, o, none⟩ := by
 simp only [World.frozen?]; rw [h b hb]
structure Opened (enc : TypeId × Value → H) (P : Program) (W : World) (t : TypeId) (v : Value) (d : DataW H) (ps : List MemPlace) (a : AV) : Prop where
 rep : Rep (C0 W) M0 a v
 back : ∀ (W' : World) (sp : Nat → Bool), (∀ p ∈ ps, W.sameAt W' p) → (∀ p ∈ ps, sp p.block = true) → DataW.Trod enc P W' 0 sp true t v d ps
end
structure VarsW (W : World) : Prop where
 m : ∃ m, W.cell? ⟨0, 0, none⟩ = some (.int .i64 m)
 s : ∃ ev, W.cell? ⟨2, 0, none⟩ = some ev ∧ (ev = .nilIface ∨ ∃ te pe, ev = .iface te pe)
 r : ∃ ev, W.cell? ⟨3, 0, none⟩ = some ev ∧ (ev = .nilIface ∨ ∃ te pe, ev = .iface te pe)
 t : Lib.TabIs Tryd.prog W "internal/strconv.uint64pow10" .u64 Lib.pow10Tab
theorem qhr {W : World} (h : VarsW W) : @Vars (xH W) := by
 letI := xH W
 have g1 : Tryd.prog.globalNamed "internal/strconv.uint64pow10" = some 1 := by kernel_rfl
 have hl : ∀ b, (b = 0 ∨ b = 1 ∨ b = 2 ∨ b = 3) → (xH W).l b 0 = W.cell? ⟨b, 0, none⟩ := fun b hb => if_pos ⟨hb, rfl⟩
 refine ⟨?_, ?_, ?_, _, g1, ?_⟩
 ·obtain ⟨m, hm⟩ := h.m
  exact ⟨m, (hl _ (.inl rfl)).trans hm⟩
 ·obtain ⟨ev, h1, h2⟩ := h.s
  exact ⟨ev, (hl _ (.inr (.inr (.inl rfl)))).trans h1, h2⟩
 ·obtain ⟨ev, h1, h2⟩ := h.r
  exact ⟨ev, (hl _ (.inr (.inr (.inr rfl)))).trans h1, h2⟩
 ·have ht := h.t
  have h0 := ht.cell g1 0 (by decide)
  unfold Lib.TabIs World.var? at ht
  rw [g1] at ht
  simp only [qhP] at ht
  split at ht
  ·rename_i cs t fz hw
   cases ht
   exact ⟨_, t, fz, (hl _ (.inr (.inl rfl))).trans h0, (if_pos rfl).trans hw⟩
  ·cases ht
theorem qgH (L : Lent) (C : qa) (hL : ∀ b, L.nw b) : @LC L C = C := by
 funext b o
 unfold LC
 rw [if_pos (hL b)]
theorem qfK {L : Lent} [L' : Lent] {C : qa} {μ : MMap} {a : AV} {v : Value} (e : @LC L' C = @LC L C) (h : @Rep L C μ a v) : @Rep L' C μ a v := by
 induction h with
 | int k n => exact .int k n
 | bool b => exact .bool b
 | str s => exact .str s
 | agg cs vs hl _ ih => exact .agg cs vs hl ih
 | tup cs vs hl _ ih => exact .tup cs vs hl ih
 | nilS => exact .nilS
 | slNil => exact .slNil
 | em a cap => exact .em a cap
 | sl rows a cap sz vals h1 h2 h3 _ h5 h6 h7 ih => exact .sl rows a cap sz vals h1 h2 h3 ih h5 h6 h7
 | ms id off len cap a m hm hl ha => exact .ms id off len cap a m hm hl ha
 | msN id off => exact .msN id off
 | nilP => exact .nilP
 | ptr id row off m hm => exact .ptr id row off m hm
 | cptr cells off b o vals hc _ ih => exact .cptr cells off b o vals hc ih
 | fn f first caps vf vc h1 h2 _ _ i1 i2 => exact .fn f first caps vf vc h1 h2 i1 i2
 | yld id m hm => exact .yld id m hm
 | nilF => exact .nilF
 | nilM => exact .nilM
 | mp id m hm => exact .mp id m hm
 | nilI => exact .nilI
 | ifc t a v _ ih => exact .ifc t a v ih
 | lsl rows v h => exact .lsl rows v (by rw [e]; exact h)
 | lpt cells off b o vals hc hr => exact .lpt cells off b o vals (by rw [e]; exact hc) (by rw [e]; exact hr)
 | rsl id rows v D hD h => exact .rsl id rows v D hD h
 | rpt id cells off b o vals m hm hc hr => exact .rpt id cells off b o vals m hm hc hr
 | alt l i a v ha _ ih => exact .alt l i a v ha ih
 | wr n a ad c hn _ ih => exact .wr n a ad c hn ih
 | junk v => exact .junk v
theorem qfJ {W : World} {C : qa} {μ : MMap} {a : AV} {v : Value} (h : Rep C μ a v) : @Rep (xH W) C μ a v :=
 @qfK _ (xH W) _ _ _ _ (Eq.trans (qgH (xH W) C fun _ => trivial) (Eq.symm (qgH instLent C fun _ => trivial))) h
theorem qgv (W : World) {C : qa} {μ : MMap} {al : List AV} {vs : Array Value} (h : qc C μ al vs) : @qc (xH W) C μ al vs := ⟨h.1, fun i a v h1 h2 => qfJ (h.2 i a v h1 h2)⟩
theorem qeZ {f : FuncId} {args : List AV} {vs : Array Value} {W : World} (hx : cfg.ext f = none) (hv : VarsW W) (he : EVs (EV cfg) f args = some (.bool true)) (ha : @qc (xH W) (C0 W) M0 args vs) :
  Calls Tryd.prog f vs W fun e W' => e = .returned (.bool true) ∧ (∀ b, b < W.heap.size → W'.heap[b]? = W.heap[b]?) ∧ W.heap.size ≤ W'.heap.size ∧ W'.os = W.os ∧ W'.output = W.output := by
 letI := xH W
 unfold EVs at he
 obtain ⟨q, h1, h2⟩ := qhA.1 he
 have := qgF (qg0 (qhr hv)) hx (r := q.1) (H' := q.2) h1 ha (wldU W)
 refine this.mono fun e W' ⟨v, hv, C', μ', p1, p2, p3⟩ => ?_
 rw [h2] at p1
 cases p1
 refine ⟨hv, fun b hb => (p3.fr b hb q4).1, p3.size, p3.os, p3.output⟩
theorem qeN : "*" ++ "errors.errorString" = "*errors.errorString" := by decide
theorem qf1 (u : TypeId) (h : Tryd.prog.typeName? 3 u = some "*errors.errorString") : u = 130 :=
 typeName_ptr_named (nm := "errors.errorString") (by rw [qeN]; kernel_rfl) (by kernel_rfl) (by decide) u (by rw [qeN]; exact h)
def qbP : List (String × DataW Unit) := [("math/bits.deBruijn32tab", Rows.laid_math_bits_deBruijn32tab), ("math/bits.deBruijn64tab", Rows.laid_math_bits_deBruijn64tab), ("internal/strconv.uint64pow10", Rows.laid_internal_strconv_uint64pow10), ("strconv.ErrRange", Rows.laid_strconv_ErrRange), ("strconv.ErrSyntax", Rows.laid_strconv_ErrSyntax)]
theorem qhq {W : World} (hsh : W.ShapedOpen Tryd.prog) (h : laidMetH Tryd.prog qbP W) : VarsW W := by
 rw [MakeChecks.laidMetH_plain _ _ _ (by kernel_rfl)] at h
 have h3 := h.tail.tail.tail
 have g3 : Tryd.prog.globalNamed "strconv.ErrRange" = some 3 := by kernel_rfl
 have g2 : Tryd.prog.globalNamed "strconv.ErrSyntax" = some 2 := by kernel_rfl
 have g1 : Tryd.prog.globalNamed "internal/strconv.uint64pow10" = some 1 := by kernel_rfl
 have etab : (Rows.laid_internal_strconv_uint64pow10 : DataW Unit) = Lib.tabData .u64 Lib.pow10Tab := by kernel_rfl
 have t3 : (Tryd.prog.globals[3]?).map (·.type) = some 79 := by kernel_rfl
 have t2 : (Tryd.prog.globals[2]?).map (·.type) = some 79 := by kernel_rfl
 have c1 : Tryd.prog.cellsOf 132 = 1 := by kernel_rfl
 have c2 : Tryd.prog.cellsOf 9 = 1 := by kernel_rfl
 obtain ⟨a, sa, va, _⟩ := laid_sentinel h3 g3 t3 Tryd.underlying79 qf1 Tryd.underlying130 Tryd.underlying132 rfl rfl Tryd.underlying9 c1 c2
 obtain ⟨b, sb, vb, _⟩ := laid_sentinel h3.tail g2 t2 Tryd.underlying79 qf1 Tryd.underlying130 Tryd.underlying132 rfl rfl Tryd.underlying9 c1 c2
 exact ⟨Tryd.laysM144.s1_3 W hsh, ⟨_, by simpa using World.var?_cell g2 vb 0, .inr ⟨_, _, rfl⟩⟩, ⟨_, by simpa using World.var?_cell g3 va 0, .inr ⟨_, _, rfl⟩⟩,
  Go.Lib.tabIs_of_head (t := 119) (e := 82) (n := 20) g1 (by kernel_rfl) Tryd.underlying119 Tryd.underlying82 (by kernel_rfl) (by kernel_rfl) (by rw [← etab]; exact h.tail.tail)⟩
theorem metU (os : Os) (args : Array Value) : laidMetH Tryd.prog qbP ((World.doorLaid Tryd.prog 400 os).forCall (fun _ _ => 0) ⟨#[], args, []⟩).memory :=
 laidMetH_of_parts3 (fuel := 8) (laidMet_of_run' 8 (by kernel_rfl) (by kernel_rfl)) (by kernel_rfl) (by kernel_rfl)
theorem qdr : EVf (EV cfg) 6 [.str [102, 40, 88, 41, 32, 45, 62, 32, 36, 97, 46]] = some (.tup [.sl [[.int .i64 2, .int .i64 0, .int .i64 0, .str [102]], [.int .i64 5, .int .i64 0, .int .i64 1, .str [40]], [.int .i64 3, .int .i64 0, .int .i64 2, .str [88]], [.int .i64 5, .int .i64 0, .int .i64 3, .str [41]], [.int .i64 5, .int .i64 0, .int .i64 5, .str [45, 62]], [.int .i64 1, .int .i64 97, .int .i64 8, .str []], [.int .i64 6, .int .i64 0, .int .i64 10, .str []]], .agg [.int .i64 0, .int .i64 0]]) := yZ (.nil) 1000 1000 (by kernel_rfl)
theorem qdq : EVf (EV cfg) 6 [.str [53, 55, 54, 52, 54, 48, 55, 53, 50, 51, 48, 51, 52, 50, 51, 52, 56, 56]] = some (.tup [.sl [], .agg [.int .i64 342, .int .i64 0]]) := yZ (.nil) 1000 1000 (by kernel_rfl)
theorem qdp : EVf (EV cfg) 6 [.str [88, 61, 58, 61, 89]] = some (.tup [.sl [[.int .i64 3, .int .i64 0, .int .i64 0, .str [88]], [.int .i64 5, .int .i64 0, .int .i64 1, .str [61, 58, 61]], [.int .i64 3, .int .i64 0, .int .i64 4, .str [89]]], .agg [.int .i64 0, .int .i64 0]]) := yZ (.nil) 1000 1000 (by kernel_rfl)
theorem qdo : EVf (EV cfg) 23 [.agg [.int .i64 2, .int .i64 0, .str [101, 110, 100], .sl []]] = some (.tup [.str [39, 101, 110, 100, 39], .int .i64 0]) := yZ (.nil) 1000 1000 (by kernel_rfl)
theorem qdn : EVf (EV cfg) 12 [.sl [[.int .i64 2, .int .i64 0, .int .i64 0, .str [101, 110, 100]], [.int .i64 5, .int .i64 0, .int .i64 0, .str [40]]]] = some (.tup [.str [39, 101, 110, 100, 39, 32, 40], .int .i64 0]) := yZ (.consF qdo (.nil)) 1000 1000 (by kernel_rfl)
theorem qdm : EVf (EV cfg) 6 [.str [49, 32, 37, 32, 50]] = some (.tup [.sl [[.int .i64 1, .int .i64 1, .int .i64 0, .str []]], .agg [.int .i64 0, .int .i64 0]]) := yZ (.nil) 1000 1000 (by kernel_rfl)
theorem qdl : EVf (EV cfg) 6 [.str [97, 46, 98]] = some (.tup [.sl [], .agg [.int .i64 340, .int .i64 1]]) := yZ (.nil) 1000 1000 (by kernel_rfl)
theorem qdk : EVf (EV cfg) 6 [.str [39, 97]] = some (.tup [.sl [], .agg [.int .i64 341, .int .i64 0]]) := yZ (.nil) 1000 1000 (by kernel_rfl)
theorem qds : EVs (EV cfg) 5 [] = some (.bool true) := qhw (.consF qdr (.consF qdq (.consF qdp (.consF qdn (.consF qdm (.consF qdl (.consF qdk (.nil)))))))) 1000 1000 (by kernel_rfl)
end Go.Proofs.YtnmfakkjnbpjpaaDoor
end
