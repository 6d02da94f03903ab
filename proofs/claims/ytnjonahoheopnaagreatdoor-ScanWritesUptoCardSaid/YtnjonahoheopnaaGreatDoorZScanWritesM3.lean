/-
  Parts of the proof of ScanWritesUptoCardSaid, put together: the abstract evaluation and its contracts. Own work.
  What is proved: each lemma as it stands; no condition.
-/
import Derived.KernelRfl
import Derived.Lib.Bytealg
import Derived.Lib.IndexMore
import Derived.Lib.ParseIntB
import Derived.Lib.ItoaNum
import Derived.Lib.Join
import Derived.Test.YtnjonahoheopnaaGreatDoorProg
import Derived.Test.YtnjonahoheopnaaGreatDoorZScanWritesM2
open List renaming getElem?_eq_some_iff → qpn, getElem?_eq_getElem → qpr, getElem?_append_left → qpu, length → qpw, getElem?_set → qpx, getElem?_append_right → qpz, get?Internal → qpA, mem_of_getElem? → qpB, length_cons → qpC, length_append → qpD, mem_append → qpH, replicate → qpK, length_nil → qpL, mem_cons → qpM, length_map → qpN, take → qpO, append → qpQ
open Bool renaming and_eq_true → qpo, false_eq_true → qpv, not_eq_true → qpI
open Option renaming bind_eq_some_iff → qpp, map_eq_some_iff → qpq, bind_some → qpy, map_some → qpF
open Nat renaming le_refl → qps, eq_of_beq_eq_true → qpt, mul_le_mul_right → qpE, ble → qpG, beq → qpJ, blt_eq → qpP
set_option maxRecDepth 1000000
set_option maxHeartbeats 0
section
namespace Go.Av
variable {C C' C1 C2 : qb} {μ μ' μ1 : MMap} {H H' H1 H2 : AH} {w w' w1 : World} {P : Program}
structure OracOk2 [Lent] (cfg : Cfg) (cf : Orac) : Prop where
 calls : zP cfg cf
 enters : ∀ h args H r, cf (.f h) args H = some r → cfg.ext h = none → ∀ vs w, (callFunc h vs).run cfg.P w = .ok (.enter h vs) w
theorem qmE [Lent] (h : Wld C μ H w) {f : Nat} {fr : List AV} {assign body : Code} {ps : Array Tmp} {fn : FuncId} {tmps : Array Value} {dblk : Nat} (hf : qg C μ fr tmps) (hs : w.heap.size < w1.heap.size)
  (hold : ∀ b, b < w.heap.size → w1.heap[b]? = w.heap[b]?) {l : Nat} (hl : w.heap.size ≤ l)
  (hnew : w1.heap[l]? = some (.loop { state := .ready, pending := none, fn, tmps, params := ps, assign, body, defers := dblk })) (ho : w1.os = w.os) (ht : w1.tape = w.tape) (hu : w1.output = w.output) :
  Wld C (upd μ H.length (MI.mk4 l 0 0 0)) (H ++ [.loop f fr ps.toList assign body none .ready]) w1 ∧ Ext H.length C μ H w C (upd μ H.length (MI.mk4 l 0 0 0)) (H ++ [.loop f fr ps.toList assign body none .ready]) w1 ∧
   (∀ id m, μ id = some m → upd μ H.length (MI.mk4 l 0 0 0) id = some m) ∧ (∀ b, Live (H ++ [.loop f fr ps.toList assign body none .ready]) (upd μ H.length (MI.mk4 l 0 0 0)) b → Live H μ b ∨ b = l) := by
 have hll : l < w1.heap.size := (Array.getElem?_eq_some_iff.1 hnew).1
 have hw1 : Wld C μ H w1 := h.world (by omega) (fun b hb => hold b hb)
 have hmu : ∀ id m, μ id = some m → upd μ H.length (MI.mk4 l 0 0 0) id = some m := by
  intro id m hm
  have := h.dom id m hm
  unfold upd
  rw [if_neg (by omega)]; exact hm
 obtain ⟨n1, n2, n3, n4, n5⟩ := hw1.new4 (nid := none) (k := H.length) (blk := .loop f fr ps.toList assign body none .ready) (H' := H ++ [.loop f fr ps.toList assign body none .ready]) (B := l) (b0 := 0) (n0 := 0) (z0 := 0) rfl (fun hl' => by have := h.live_lt hl'; omega) hll
  (fun o => by
   cases hc : C l o with
   | none => rfl
   | some v => have := h.block_lt hc; omega) (h.lent_none hl) rfl ⟨_, hnew, rfl, rfl, rfl, rfl, rfl, hf.mono (fun _ _ _ h => h) hmu⟩
 refine ⟨n1, ⟨ho, ht, hu, by omega, fun _ _ _ h => h, fun id m _ hm => ⟨_, hmu id m hm, .refl _⟩, fun b hb hnl => ⟨hold b hb, fun hl' => ?_, rfl⟩, n3⟩, hmu, n4⟩
 rcases n4 b hl' with h1 | h1
 ·exact hnl h1
 ·omega
theorem qeS [Lent] {cfg : Cfg} {cf : Orac} (hO : OracOk2 cfg cf) {F : Fence} {rd : Option Nat} {f B k : Nat} {g : Operand} {ps : Array Tmp} {assign body : Code} {fr : List AV} {r : Ex × List AV × AH} {a : Act}
  (he : yZ cfg cf f rd k g ps assign body fr H = some r) (hk : k ≤ H.length) (hrd : RdOk rd F μ k) (hf : qg C μ fr a.tmps) (hw : Wld C μ H w) (hm : qag B μ H w a.defers) :
  (Code.rangeFunc g ps assign body).wpIn F 0 cfg.P (zm k B C μ H w r) a w := by
 have hrd := hrd.ext (fun _ _ _ h => ⟨_, h, .refl _⟩) hk
 unfold yZ at he
 split at he
 case isFalse => cases he
 rename_i hrl
 split at he
 case h_2 => cases he
 rename_i h first caps hg
 split at he
 case isTrue => cases he
 rename_i hext
 have hext : cfg.ext h = none := by
  cases hh : cfg.ext h with
  | none => rfl
  | some s => rw [hh] at hext; simp at hext
 obtain ⟨q, hq, he⟩ := qpp.1 he
 have hgr := qak hf g
 rw [hg] at hgr
 generalize hgv : a.eval g = gv at hgr
 cases hgr with
 | fn _ _ _ vf vc hl1 hl2 h1 h2 =>
 refine wpIn_rangeFunc fun fn hfn => ?_
 have hwide := hrd.wide
 have hmf : qg C μ (qX (cfg.keepIn f (qj body)) fr) a.tmps := za hf
 -- what lies behind the loop
 have core : ∀ (l : Nat) (ms : List Deferred) (w1 : World) (dblk : Nat), w.heap.size < w1.heap.size → (∀ b, b < w.heap.size → w1.heap[b]? = w.heap[b]?) → w.heap.size ≤ l →
   w1.heap[l]? = some (.loop { state := .ready, pending := none, fn, tmps := a.tmps, params := ps, assign, body, defers := dblk }) → w1.os = w.os → w1.tape = w.tape → w1.output = w.output →
   (ms = [] ∨ ∃ D, ms = [mark D] ∧ w.heap.size ≤ D ∧ D ≠ l ∧ w1.heap[D]? = some (.deferred (some []))) →
   CallsIn F (0 - 1) cfg.P h (vf.toArray ++ #[.func (.yield l) #[] #[]] ++ vc.toArray) w1 (rangePost F 0 cfg.P l (zm k B C μ H w r) { a with defers := ms ++ a.defers }) := by
  intro l ms w1 dblk hs hold hl hnew ho ht hu hms
  obtain ⟨g1, g2, g3, g4⟩ := qmE (f := f) hw hmf hs hold hl hnew ho ht hu
  have hargs : qg C (upd μ H.length (MI.mk4 l 0 0 0)) (first ++ [.yld H.length] ++ caps) (vf.toArray ++ #[.func (.yield l) #[] #[]] ++ vc.toArray) := by
   refine ⟨by simp [hl1, hl2], fun i x v e1 e2 => ?_⟩
   rw [← Array.getElem?_toList] at e2
   simp only [Array.toList_append] at e2
   rcases Nat.lt_or_ge i (first.length + 1) with hlt | hge
   ·rw [qpu (by simpa using hlt)] at e1
    rw [qpu (by first | omega | (simp; omega))] at e2
    rcases Nat.lt_or_ge i first.length with hlt' | hge'
    ·rw [qpu hlt'] at e1
     rw [qpu (by first | omega | (simp; omega))] at e2
     exact (h1 i x v e1 (by simpa using e2)).mono (fun _ _ _ h => h) g3
    ·have hi : i = first.length := by omega
     subst hi
     rw [qpz (qps _)] at e1
     rw [qpz (by first | omega | (simp; omega))] at e2
     simp [hl1] at e1 e2
     subst e1; subst e2
     exact .yld H.length (MI.mk4 l 0 0 0) (by unfold upd; rw [if_pos rfl])
   ·rw [qpz (by simpa using hge)] at e1
    rw [qpz (by first | omega | (simp; omega))] at e2
    have : i - (vf.toArray.toList ++ #[Value.func (.yield l) #[] #[]].toList).length = i - (first ++ [AV.yld H.length]).length := by simp [hl1]
    rw [this] at e2
    exact (h2 _ x v e1 (by simpa using e2)).mono (fun _ _ _ h => h) g3
  have hcall := hO.calls _ _ _ _ _ hq C _ w1 _ _ hargs g1 rfl
  unfold qM at hcall
  rw [hO.enters _ _ _ _ hq hext] at hcall
  refine hwide.calls (hcall.mono fun e w3 hp => ?_)
  obtain ⟨v, rfl, C3, μ3, p1, p2, p3⟩ := hp
  have hle : H.length < (H ++ [ABlk.loop f (qX (cfg.keepIn f (qj body)) fr) ps.toList assign body none .ready]).length := by simp
  obtain ⟨⟨l', b0, s0, z0, D0⟩, hm3, hbl3, -⟩ := p3.mu H.length (MI.mk4 l 0 0 0) hle (by unfold upd; rw [if_pos rfl])
  have hbl3 : l = l' := (show l' = l from hbl3).symm
  subst hbl3
  split at he
  case h_2 => cases he
  rename_i lf lfr lps lassign lbody pend st hlq
  split at he
  case h_1 => cases he
  rename_i hst
  obtain ⟨e2, e3, rc, e4, e5, e6, _⟩ := p2.liveM hlq rfl hm3
  simp only at e4
  have hend := run_endLoop (P := cfg.P) e4 (by rw [e5]; exact hst)
  refine ⟨rc.pending, _, hend, ?_⟩
  -- the world behind it
  have hkill : Wld C3 μ3 (q.2.set H.length .dead) (w3.putObj l (.loop { rc with state := .exhausted })) := by
   refine (p2.kill H.length (by rw [hlq]; simp)).worldG (by simp) (fun b hb hor => ?_)
   refine World.putObj_heap_other fun hbl => ?_
   subst hbl
   rcases hor with hl' | ⟨o, hc'⟩ | ⟨o, hc'⟩
   ·obtain ⟨_, hl''⟩ := hl'.of_kill
    exact hl'' _ hm3 (fun id' b' m' i1 i2 i3 i4 i5 => i4 (p2.inj _ _ _ _ _ _ i1 hlq i2 rfl i3 hm3 _ i5 (.inl rfl))) rfl
   ·exact hc' (e3 o)
   ·exact hc' ((p2.liveH hlq rfl hm3 _ (.inl rfl)).2.2.1 o)
  have hf3 : qg C3 μ3 (qX (cfg.keepOut f (qj body)) fr) a.tmps := (za hf).monoG p3.cl (fun id m hm => p3.mu id m (by have := hw.dom id m hm; simp; omega) (g3 id m hm))
  obtain ⟨μ4, k1, k2, k3⟩ := qlV hkill hf3 k (by simp; have := p3.len; simp at this; omega)
  have hx1 : Ext H.length C μ H w C3 μ3 q.2 w3 := g2.trans p3 (by simp)
  have hx : Ext k C μ H w C3 μ4 (gc k (qX (cfg.keepOut f (qj body)) fr) (q.2.set H.length .dead)).2 (w3.putObj l (.loop { rc with state := .exhausted })) := by
   refine ⟨hx1.os, hx1.tape, hx1.output, by have := hx1.size; simpa using this, hx1.cl, fun id m hid hm => let ⟨m1, f1, f2⟩ := hx1.mu id m (by omega) hm; let ⟨m2, f3, f4⟩ := k3.mu id m1 hid f1; ⟨m2, f3, f2.trans f4⟩, fun b hb hnl => ?_, k3.len⟩
   obtain ⟨f1, f2, f3⟩ := hx1.fr b hb hnl
   refine ⟨by rw [World.putObj_heap_other (by omega)]; exact f1, fun hl' => ?_, f3⟩
   have hb3 : b < (w3.putObj l (.loop { rc with state := .exhausted })).heap.size := by have := hx1.size; simp; omega
   exact (k3.fr b hb3 (fun hl'' => f2 hl''.of_kill.1)).2.1 hl'
  have hmarks : qag B μ4 (gc k (qX (cfg.keepOut f (qj body)) fr) (q.2.set H.length .dead)).2 (w3.putObj l (.loop { rc with state := .exhausted })) (ms ++ a.defers) := by
   obtain ⟨hb, Ds, d1, d2, d3⟩ := hm.ext hx
   have hB : B ≤ w.heap.size := hm.1
   obtain ⟨_, Ds', d1', _, d3'⟩ := hm
   have hinj : Ds.map mark = Ds'.map mark := by rw [← d1, ← d1']
   have hDs : Ds = Ds' := by
    have : ∀ (x y : List Nat), x.map mark = y.map mark → x = y := by
     intro x
     induction x with
     | nil => intro y h; cases y with
      | nil => rfl
      | cons => simp at h
     | cons a x ih =>
      intro y h
      cases y with
      | nil => simp at h
      | cons b y =>
       simp only [List.map_cons, List.cons.injEq] at h
       obtain ⟨h1, h2⟩ := h
       have : a = b := by unfold mark at h1; cases h1; rfl
       rw [this, ih y h2]
    exact this _ _ hinj
   rcases hms with rfl | ⟨D, rfl, hD1, hD2, hD3⟩
   ·exact ⟨hb, Ds, d1, d2, d3⟩
   ·have hDlt : D < w1.heap.size := (Array.getElem?_eq_some_iff.1 hD3).1
    have hDl1 : ¬ Live (H ++ [ABlk.loop f (qX (cfg.keepIn f (qj body)) fr) ps.toList assign body none .ready]) (upd μ H.length (MI.mk4 l 0 0 0)) D := by
     intro hl'
     rcases g4 D hl' with h | h
     ·have := hw.live_lt h; omega
     ·exact hD2 h
    obtain ⟨f1, f2, _⟩ := p3.fr D hDlt hDl1
    refine ⟨hb, D :: Ds, by simp [d1], List.nodup_cons.2 ⟨fun hmem => ?_, d2⟩, fun D' hD' => ?_⟩
    ·rw [hDs] at hmem
     have := (Array.getElem?_eq_some_iff.1 (d3' D hmem).2.1).1
     omega
    ·rcases qpM.1 hD' with rfl | hmem
     ·refine ⟨by omega, by rw [World.putObj_heap_other hD2, f1]; exact hD3, fun hl' => ?_⟩
      have hb3 : D' < (w3.putObj l (.loop { rc with state := .exhausted })).heap.size := by have := p3.size; simp; omega
      exact (k3.fr D' hb3 (fun hl'' => f2 hl''.of_kill.1)).2.1 hl'
     ·exact d3 D' hmem
  have fin : ∀ e, r = (e, gc k (qX (cfg.keepOut f (qj body)) fr) (q.2.set H.length .dead)) → zm k B C μ H w r e.to { a with defers := ms ++ a.defers } (w3.putObj l (.loop { rc with state := .exhausted })) := by
   intro e hr
   subst hr
   exact ⟨rfl, C3, μ4, k2, k1, hx, hmarks⟩
  rw [e6] at fin ⊢
  split at he
  ·cases he; exact fin .normal rfl
  ·cases he; exact wpIn_ret (fin .ret rfl)
  ·rename_i x; cases he; exact wpIn_exit (fin (.exit x) rfl)
  ·cases he
 have hres : ∀ l w, (resolve a.eval (rangeCall g l) 0).run cfg.P w = .ok { target := .fn (.func h) vc.toArray, args := vf.toArray ++ #[.func (.yield l) #[] #[]] } w := by
  intro l w
  rw [qcc (f := g) rfl, hgv]
  simp [Deferred.ofValue, Act.eval]
 have hinv : ∀ l w, (invoke (.fn (.func h) vc.toArray) (vf.toArray ++ #[.func (.yield l) #[] #[]])).run cfg.P w = .ok (.enter h (vf.toArray ++ #[.func (.yield l) #[] #[]] ++ vc.toArray)) w := by
  intro l w
  rw [invoke]
  exact hO.enters _ _ _ _ hq hext _ w
 have hdep : F.depth.isSome = true → 1 ≤ 0 := fun hh => by rw [hwide.depth] at hh; simp at hh
 cases rd with
 | none =>
  have hFw : F = Fence.wide := hrd
  have hro : F.round = none := by rw [hFw]; rfl
  rw [hro]
  refine ⟨w.heap.size + 1, [mark w.heap.size], _, _, _, h, _, _, run_enterLoop_outer fn a.tmps ps assign body, hres _ _, fun f' _ => hwide.fn f', hinv _ _, hdep, ?_⟩
  refine core (w.heap.size + 1) [mark w.heap.size] _ w.heap.size (by simp; omega) (fun b hb => ?_) (by omega) ?_ rfl rfl rfl (.inr ⟨w.heap.size, rfl, qps _, by omega, ?_⟩)
  ·show ((w.heap.push _).push _)[b]? = _
   rw [Array.getElem?_push, if_neg (by simp; omega), Array.getElem?_push, if_neg (by omega)]
  ·show ((w.heap.push _).push _)[w.heap.size + 1]? = _
   rw [Array.getElem?_push, if_pos (by simp)]
  ·show ((w.heap.push _).push _)[w.heap.size]? = _
   rw [Array.getElem?_push, if_neg (by simp), Array.getElem?_push, if_pos rfl]
 | some l0 =>
  obtain ⟨hl0, m0, hm0, hFr⟩ := hrd
  have hro : F.round = some m0.block := by rw [hFr]; rfl
  rw [hro]
  unfold qhD at hrl
  simp only at hrl
  split at hrl
  case h_2 => cases hrl
  rename_i hb0
  obtain ⟨i2, i3, r0, i4, _⟩ := hw.liveM hb0 rfl hm0
  refine ⟨w.heap.size, [], _, _, _, h, _, _, run_enterLoop_inner i4 fn a.tmps ps assign body, hres _ _, fun f' _ => hwide.fn f', hinv _ _, hdep, ?_⟩
  refine core w.heap.size [] _ r0.defers (by simp) (fun b hb => ?_) (qps _) ?_ rfl rfl rfl (.inl rfl)
  ·show (w.heap.push _)[b]? = _
   rw [Array.getElem?_push, if_neg (by omega)]
  ·show (w.heap.push _)[w.heap.size]? = _
   rw [Array.getElem?_push, if_pos rfl]
variable {C C' C1 C2 : qb} {μ μ' μ1 : MMap} {H H' H1 H2 : AH} {w w' w1 : World} {P : Program}
theorem qc2 [Lent] {cfg : Cfg} (hc : CfgTy cfg) {cf : Orac} (hO : OracOk2 cfg cf) (hmx : cfg.P.follows .mixedOrders = true) {F : Fence} {rd : Option Nat} {f B k : Nat} : ∀ (c : Code) {fr : List AV} {H : AH} {r : Ex × List AV × AH}, evC cfg cf f rd k c fr H = some r →
  ∀ {C : qb} {μ : MMap} {w : World} {a : Act}, k ≤ H.length → RdOk rd F μ k → qg C μ fr a.tmps → Wld C μ H w → qag B μ H w a.defers → c.wpIn F 0 cfg.P (zm k B C μ H w r) a w := by
 intro c
 induction c with
 | skip =>
  intro fr H r he C μ w a hk hrd hf hw hm
  rw [evC.eq_def] at he; simp only at he; cases he
  exact wpIn_skip ⟨rfl, C, μ, hf, hw, Ext.refl hk, hm⟩
 | label l =>
  intro fr H r he C μ w a hk hrd hf hw hm
  rw [evC.eq_def] at he; simp only at he; cases he
  exact wpIn_label ⟨rfl, C, μ, hf, hw, Ext.refl hk, hm⟩
 | exit id =>
  intro fr H r he C μ w a hk hrd hf hw hm
  rw [evC.eq_def] at he; simp only at he; cases he
  exact wpIn_exit ⟨rfl, C, μ, hf, hw, Ext.refl hk, hm⟩
 | ret =>
  intro fr H r he C μ w a hk hrd hf hw hm
  rw [evC.eq_def] at he; simp only at he; cases he
  exact wpIn_ret ⟨rfl, C, μ, hf, hw, Ext.refl hk, hm⟩
 | goto l =>
  intro fr H r he
  rw [evC.eq_def] at he; simp only at he; cases he
 | refuse s =>
  intro fr H r he
  rw [evC.eq_def] at he; simp only at he; cases he
 | region id ops draw =>
  intro fr H r he C μ w a hk hrd hf hw hm
  rw [evC.eq_def] at he
  simp only at he
  have fin : ∀ (fr' : List AV) (H' : AH) C' μ' w' (a' : Act), qg C' μ' fr' a'.tmps → Wld C' μ' H' w' → Ext H.length C μ H w C' μ' H' w' → a'.defers = a.defers → zm k B C μ H w (.normal, fr', H') .normal a' w' :=
   fun fr' H' C' μ' w' a' g1 g2 g3 g4 => ⟨rfl, C', μ', g1, g2, g3.less hk, by rw [g4]; exact hm.ext g3⟩
  cases draw with
  | true =>
   simp only [if_true] at he
   split at he
   case isFalse => cases he
   rename_i hst
   obtain ⟨q, hq, he⟩ := qpp.1 he
   split at he
   case isFalse => cases he
   rename_i hdy
   obtain ⟨fps, fr', H'⟩ := q
   cases he
   exact qkV hc hO.calls hmx hrd.wide hst hq hdy hf hw (fin fr' H')
  | false =>
   simp only [qpv, if_false] at he
   obtain ⟨q, hq, e⟩ := qpq.1 he
   obtain ⟨fr', H'⟩ := q
   cases e
   refine wpIn_region ?_
   have := qba hc hO.calls hrd.wide (Q := zm k B C μ H w (.normal, fr', H')) ops.toList 0 hq (fun i => by rw [Array.getElem?_toList, Nat.zero_add]) hf hw (fin fr' H')
   rw [List.range_eq_range']
   simpa using this
 | seq x y ihx ihy =>
  intro fr H r he C μ w a hk hrd hf hw hm
  rw [evC.eq_def] at he
  simp only at he
  obtain ⟨q, hq, he⟩ := qpp.1 he
  refine wpIn_seq (wpIn_mono (ihx hq hk hrd hf hw hm) fun e a1 w1 hp => ?_)
  cases hq1 : q.1 with
  | normal =>
   obtain ⟨h1, C1, μ1, h2, h3, h4, h5⟩ := hp
   rw [hq1] at h1 he
   subst h1
   refine wpIn_mono (ihy he h4.len (hrd.ext h4.mu (qps _)) (za h2) h3 h5) fun e' a2 w2 hp2 => hp2.mono h4 (qps _)
  | exit id =>
   rw [hq1] at he
   cases he
   have : e = .exit id := by rw [hp.1, hq1]; rfl
   subst this
   exact ⟨rfl, hp.2⟩
  | goto l =>
   rw [hq1] at he
   cases he
   have : e = .goto l := by rw [hp.1, hq1]; rfl
   subst this
   exact ⟨rfl, hp.2⟩
  | ret =>
   rw [hq1] at he
   cases he
   have : e = .ret := by rw [hp.1, hq1]; rfl
   subst this
   exact ⟨rfl, hp.2⟩
 | cond c x y ihx ihy =>
  intro fr H r he C μ w a hk hrd hf hw hm
  rw [evC.eq_def] at he
  simp only at he
  split at he
  case h_2 => cases he
  rename_i t ht
  have hcr := qak hf c
  rw [ht] at hcr
  generalize hv : a.eval c = v at hcr
  cases hcr
  cases t with
  | true => exact wpIn_cond_true hv (ihx (by simpa using he) hk hrd hf hw hm)
  | false => exact wpIn_cond_false hv (ihy (by simpa using he) hk hrd hf hw hm)
 | block id x ih =>
  intro fr H r he C μ w a hk hrd hf hw hm
  rw [evC.eq_def] at he
  simp only at he
  obtain ⟨q, hq, he⟩ := qpp.1 he
  refine wpIn_block (wpIn_mono (ih hq hk hrd hf hw hm) fun e a1 w1 hp => ?_)
  cases hq1 : q.1 with
  | normal =>
   rw [hq1] at he
   cases he
   have : e = .normal := by rw [hp.1, hq1]; rfl
   subst this
   exact hp
  | exit id' =>
   rw [hq1] at he
   simp only at he
   have : e = .exit id' := by rw [hp.1, hq1]; rfl
   subst this
   simp only [Exit.inBlock]
   by_cases e : id' = id
   ·subst e
    rw [if_pos (Nat.beq_refl _)] at he
    cases he
    rw [if_pos rfl]
    exact ⟨rfl, hp.2⟩
   ·have : ¬ qpJ id' id = true := fun h => e (qpt h)
    rw [if_neg this] at he
    cases he
    rw [if_neg e]
    exact hp
  | goto l =>
   rw [hq1] at he
   cases he
   have : e = .goto l := by rw [hp.1, hq1]; rfl
   subst this
   exact hp
  | ret =>
   rw [hq1] at he
   cases he
   have : e = .ret := by rw [hp.1, hq1]; rfl
   subst this
   exact hp
 | loop x ih =>
  intro fr H r he C μ w a hk hrd hf hw hm
  rw [evC.eq_def] at he
  simp only at he
  obtain ⟨q, hq, e⟩ := qpq.1 he
  obtain ⟨n, hn⟩ := zr hq
  obtain ⟨μ', g1, g2, g3⟩ := qh2 hw hf (cfg.keepIn f (qj x)) (cfg.lift f (qj x)) k hk
  refine wpIn_mono (wpIn_loop_rounds n (qdQ (rd := rd) (fun hq => ih hq) hk n hn g3.len (hrd.ext g3.mu (qps _)) g2 g1 (hm.ext g3) g3)) fun e' a' w' hp => ?_
  obtain ⟨h1, C1, μ1, h2, h3, h4, h5⟩ := hp
  subst e
  exact ⟨h1, C1, μ1, za h2, h3, h4, h5⟩
 | scope x ih =>
  intro fr H r he C μ w a hk hrd hf hw hm
  rw [evC.eq_def] at he
  simp only at he
  obtain ⟨q, hq, he⟩ := qpp.1 he
  have hqr : (∀ l, q.1 ≠ .goto l) ∧ q = r := by
   cases hq1 : q.1 with
   | goto l => rw [hq1] at he; cases he
   | normal => rw [hq1] at he; simp only [Option.some.injEq] at he; exact ⟨nofun, he⟩
   | exit id => rw [hq1] at he; simp only [Option.some.injEq] at he; exact ⟨nofun, he⟩
   | ret => rw [hq1] at he; simp only [Option.some.injEq] at he; exact ⟨nofun, he⟩
  obtain ⟨h1, rfl⟩ := hqr
  refine qix (ih hq hk hrd hf hw hm) fun l a1 w1 hp => ?_
  have := hp.1
  cases hq1 : q.1 with
  | goto l => exact h1 l hq1
  | _ => rw [hq1] at this; cases this
 | rangeFunc g ps assign body =>
  intro fr H r he C μ w a hk hrd hf hw hm
  rw [evC.eq_def] at he
  simp only at he
  obtain ⟨a1, a2, a3, a4⟩ := z7 (cfg.lift f (qj body)) hw hf
  exact wpIn_mono (qeS hO he (Nat.le_trans hk a3) hrd a2 a1 (hm.ext (a4 k hk))) fun e a' w' hp => hp.mono (a4 k hk) (qps _)
def qbk (tmps : Array Value) : ResultVar → Sem Value
 | .tmp t => pure (tmps.getD t undef)
 | .cell a t => do loadVar t (← asAddr (tmps.getD a undef))
theorem zR [Lent] {cfg : Cfg} (hc : CfgTy cfg) {fr : List AV} {tmps : Array Value} (hf : qg C μ fr tmps) (hw : Wld C μ H w) : ∀ (rs : List ResultVar) {vs : List AV}, vC rs cfg.ty fr H = some vs →
  ∃ us : List Value, (rs.mapM (qbk tmps)).run cfg.P w = .ok us w ∧ vs.length = us.length ∧
   ∀ (i : Nat) a v, vs[i]? = some a → us[i]? = some v → Rep C μ a v
 | [], vs, he => by
  simp only [vC] at he
  cases he
  exact ⟨[], by simp, rfl, fun i a v h => by simp at h⟩
 | .tmp t :: l, vs, he => by
  simp only [vC] at he
  obtain ⟨vs', hvs, e⟩ := qpq.1 he
  cases e
  obtain ⟨us, h1, h2, h3⟩ := zR hc hf hw l hvs
  refine ⟨tmps.getD t undef :: us, ?_, by simp [h2], fun i a v e1 e2 => ?_⟩
  ·simp only [List.mapM_cons, Sem.run_bind, qbk, Sem.run_pure, Result.andThen_ok, h1]
  ·cases i with
   | zero => simp at e1 e2; subst e1; subst e2; simpa [opd, Act.eval] using qak (a := ⟨tmps, []⟩) hf (.tmp t)
   | succ i => exact h3 i a v (by simpa using e1) (by simpa using e2)
 | .cell a t :: l, vs, he => by
  simp only [vC] at he
  split at he
  case h_2 => cases he
  rename_i ti hti
  obtain ⟨x, hx, he⟩ := qpp.1 he
  obtain ⟨vs', hvs, e⟩ := qpq.1 he
  cases e
  obtain ⟨us, h1, h2, h3⟩ := zR hc hf hw l hvs
  have hr : Rep C μ (fr.getD a .junk) (tmps.getD a undef) := by simpa [opd, Act.eval] using qak (a := ⟨tmps, []⟩) hf (.tmp a)
  obtain ⟨ad, u, g1, g2, g3⟩ := qe2 hw (hc.ty _ _ hti) hr hx
  refine ⟨u :: us, ?_, by simp [h2], fun i a v e1 e2 => ?_⟩
  ·have ga : (qbk tmps (.cell a t)).run cfg.P w = .ok u w := by simp only [qbk, g1, asAddr, Sem.run_bind, Sem.run_pure, Result.andThen_ok, g2]
   simp only [List.mapM_cons, Sem.run_bind, ga, Sem.run_pure, Result.andThen_ok, h1]
  ·cases i with
   | zero => simp at e1 e2; subst e1; subst e2; exact g3
   | succ i => exact h3 i a v (by simpa using e1) (by simpa using e2)
theorem qgG [Lent] {cfg : Cfg} (hc : CfgTy cfg) {fn : Func} {fr : List AV} {tmps : Array Value} (hf : qg C μ fr tmps) (hw : Wld C μ H w) {vs : List AV} (he : vC fn.results.toList cfg.ty fr H = some vs) :
  ∃ v, (results fn tmps).run cfg.P w = .ok v w ∧ Rep C μ (xH vs) v := by
 obtain ⟨us, h1, h2, h3⟩ := zR hc hf hw _ he
 refine ⟨if h : us.toArray.size = 1 then us.toArray[0] else .tuple us.toArray, ?_, ?_⟩
 ·have hr : results fn tmps = (fn.results.mapM (qbk tmps) >>= fun vs => pure (if h : vs.size = 1 then vs[0] else .tuple vs)) := rfl
  rw [hr, Array.mapM_eq_mapM_toList]
  simp only [Sem.run_bind, Sem.run_map, Result.andThen_ok, Sem.run_pure, h1]
 ·cases us with
  | nil =>
   cases vs with
   | nil => exact .tup [] [] rfl (fun i a v h => by simp at h)
   | cons x l => simp at h2
  | cons u us =>
   cases vs with
   | nil => simp at h2
   | cons x l =>
    cases us with
    | nil =>
     cases l with
     | nil => simpa [xH] using h3 0 x u rfl rfl
     | cons y l => simp at h2
    | cons u' us =>
     cases l with
     | nil => simp at h2
     | cons y l =>
      have : xH (x :: y :: l) = .tup (x :: y :: l) := rfl
      rw [this, dif_neg (by simp)]
      exact .tup _ _ h2 h3
theorem qjm {cfg : Cfg} {rs : List ResultVar} {q : Ex × List AV × AH} {r : AV} (h : zN cfg rs q = some (r, H')) : (q.1 = .normal ∨ q.1 = .ret) ∧ H' = q.2.2 ∧ ∃ vs, vC rs cfg.ty q.2.1 q.2.2 = some vs ∧ r = xH vs := by
 unfold zN at h
 split at h
 ·rename_i hq
  obtain ⟨vs, h1, e⟩ := qpq.1 h
  cases e
  exact ⟨.inl hq, rfl, vs, h1, rfl⟩
 ·rename_i hq
  obtain ⟨vs, h1, e⟩ := qpq.1 h
  cases e
  exact ⟨.inr hq, rfl, vs, h1, rfl⟩
 ·cases h
theorem qcI [Lent] {fn : Func} {tmps : Array Value} {R : Ending → World → Prop} {B k : Nat} {C0 : qb} {μ0 : MMap} {H0 : AH} {w0 : World} (hB : B = w0.heap.size)
  (hend : ∀ w', Wld C μ H w' → Ext k C0 μ0 H0 w0 C μ H w' → ∃ v, (results fn tmps).run P w' = .ok v w' ∧ R (.returned v) w') : ∀ (Ds : List Nat) {w : World}, Ds.Nodup → (∀ D ∈ Ds, B ≤ D ∧ w.heap[D]? = some (.deferred (some [])) ∧ ¬ Live H μ D) →
   Wld C μ H w → Ext k C0 μ0 H0 w0 C μ H w → LeavesInM Fence.wide 0 P fn tmps R (Ds.map mark) .returning w
 | [], w, _, _, hw, hx => hend w hw hx
 | D :: Ds, w, hnd, hD, hw, hx => by
  obtain ⟨d1, d2, d3⟩ := hD D (List.mem_cons_self ..)
  obtain ⟨hnm, hnd'⟩ := List.nodup_cons.1 hnd
  refine ⟨by simp, .inl ⟨D, _, rfl, run_takeDeferred d2, ?_⟩⟩
  have hne : ∀ b, b ≠ D → (w.putObj D (.deferred none)).heap[b]? = w.heap[b]? := fun b hb => World.putObj_heap_other hb
  refine qcI hB hend Ds hnd' (fun D' hD' => ?_) (hw.worldG (by simp) (fun b hb hor => hne b fun e => ?_)) ⟨hx.os, hx.tape, hx.output, by simpa using hx.size, hx.cl, hx.mu, fun b hb hnl => ?_, hx.len⟩
  ·obtain ⟨g1, g2, g3⟩ := hD D' (List.mem_cons_of_mem _ hD')
   exact ⟨g1, by rw [hne D' (fun e => hnm (by rw [← e]; exact hD'))]; exact g2, g3⟩
  ·subst e
   rcases hor with hl | ⟨o, hc⟩ | ⟨o, hc⟩
   ·exact d3 hl
   ·cases hco : C b o with
    | none => exact hc hco
    | some v =>
     have := hw.cl b o v hco
     simp only [World.cell?, d2] at this
     cases this
   ·cases hco : Lent.l b o with
    | none => exact hc hco
    | some v =>
     have := (hw.lnt.1 b o v hco).1
     simp only [World.cell?, d2] at this
     cases this
  ·obtain ⟨f1, f2, f3⟩ := hx.fr b hb hnl
   exact ⟨by rw [hne b (by omega)]; exact f1, f2, f3⟩
variable {C C' C1 C2 : qb} {μ μ' μ1 : MMap} {H H' H1 H2 : AH} {w w' w1 : World} {P : Program}
structure CfgOk [Lent] (cfg : Cfg) : Prop where
 ty : CfgTy cfg
 mixed : cfg.P.follows .mixedOrders = true
 named : ∀ f fn, cfg.known f = true → cfg.P.funcs[f]? = some fn → (fn.name == "runtime.NumGoroutine") = false
 ext : ∀ f s, cfg.ext f = some s → ∀ args H r H', s args H = some (r, H') → ∀ C μ w vs, qg C μ args vs → Wld C μ H w → qM cfg.P (callFunc f vs) w (qU C μ H w r H')
theorem qeL {f : FuncId} {fn : Func} {c : Code} (hf : P.funcs[f]? = some fn) (hn : (fn.name == "runtime.NumGoroutine") = false) (hb : fn.body = some c) (vs : Array Value) (w : World) : (callFunc f vs).run P w = .ok (.enter f vs) w := by
 unfold callFunc
 simp only [Sem.run_bind, run_program, Result.andThen_ok, hf, hn, hb, Option.isNone_some, qpv, if_false]
 simp
theorem qnW [Lent] {args : List AV} {vs : Array Value} (h : qg C μ args vs) (n : Nat) : qg C μ (args ++ qpK (n - args.length) .junk) (vs ++ Array.replicate (n - vs.size) undef) := by
 refine ⟨by simp [h.1], fun i a v e1 e2 => ?_⟩
 rcases Nat.lt_or_ge i args.length with hlt | hge
 ·rw [qpu hlt] at e1
  rw [Array.getElem?_append_left (by rw [← h.1]; exact hlt)] at e2
  exact h.2 i a v e1 e2
 ·rw [qpz hge] at e1
  have := qpB e1
  rw [List.mem_replicate] at this
  rw [this.2]
  exact .junk v
theorem qcb [Lent] : ∀ (ps : List Tmp) {args : List AV} {vs : List Value} {fr : List AV} {tmps : Array Value}, (∀ (i : Nat) a v, args[i]? = some a → vs[i]? = some v → Rep C μ a v) → args.length = vs.length → qg C μ fr tmps →
  qg C μ (vY fr ps args) ((ps.zip vs).foldl (fun t (p, v) => t.setIfInBounds p v) tmps)
 | [], args, vs, fr, tmps, _, _, hf => by cases args <;> simpa [vY] using hf
 | p :: ps, [], vs, fr, tmps, _, hl, hf => by
  have : vs = [] := List.eq_nil_of_length_eq_zero (by simpa using hl.symm)
  subst this
  simpa [vY] using hf
 | p :: ps, x :: args, [], fr, tmps, _, hl, hf => by simp at hl
 | p :: ps, x :: args, v :: vs, fr, tmps, h, hl, hf => by
  rw [vY, List.zip_cons_cons, List.foldl_cons]
  refine qcb ps (fun i a u e1 e2 => h (i + 1) a u (by simpa using e1) (by simpa using e2)) (by simpa using hl) ?_
  exact qbl (a := ⟨tmps, []⟩) (dst := some p) hf (h 0 x v rfl rfl)
theorem qlY [Lent] {cfg : Cfg} (ok : CfgOk cfg) {cf : Orac} (hO : OracOk2 cfg cf) {f : Nat} {fn : Func} {c : Code} {args : List AV} {vs : Array Value} {r : AV} (hf : cfg.P.funcs[f]? = some fn) (hb : fn.body = some c)
  (he : ((evC cfg cf f none H.length c (args ++ qpK (fn.ntmps - args.length) .junk) H).bind fun r => zN cfg fn.results.toList (r.1, qO (cfg.lift f 0) r.2.1 r.2.2)) = some (r, H')) (ha : qg C μ args vs) (hw : Wld C μ H w) :
  CallsIn Fence.wide 0 cfg.P f vs w fun e w' => ∃ v, e = .returned v ∧ qU C μ H w r H' v w' := by
 obtain ⟨q, hq, he⟩ := qpp.1 he
 obtain ⟨h1, rfl, us, h3, rfl⟩ := qjm he
 refine callsIn_of_wp_marks hf hb trivial (wpIn_mono (qc2 ok.ty hO ok.mixed (B := w.heap.size) c hq (F := Fence.wide) (qps _) rfl (qnW ha fn.ntmps) hw ⟨qps _, [], rfl, List.nodup_nil, fun D h => by cases h⟩) fun e a' w' hp => ?_)
 obtain ⟨e1, C', μ', e2, e3, e4, hmk⟩ := hp
 obtain ⟨l1, l2, l3, l4⟩ := z7 (cfg.lift f 0) e3 e2
 obtain ⟨hB, Ds, m1, m2, m3⟩ := hmk.ext (l4 _ (qps _))
 replace e2 := l2
 replace e4 := e4.trans (l4 _ e4.len) (qps _)
 replace e3 := l1
 have hl : LeavesInM Fence.wide 0 cfg.P fn a'.tmps (fun e w' => ∃ v, e = .returned v ∧ qU C μ H w (xH us) (qO (cfg.lift f 0) q.2.1 q.2.2).2 v w') a'.defers .returning w' := by
  rw [m1]
  refine qcI rfl (fun w2 g1 g2 => ?_) Ds m2 m3 e3 e4
  obtain ⟨v, r1, r2⟩ := qgG ok.ty e2 g1 h3
  exact ⟨v, r1, v, rfl, C', μ', r2, g1, g2⟩
 rcases h1 with h1 | h1
 ·rw [h1] at e1
  subst e1
  exact hl
 ·rw [h1] at e1
  subst e1
  exact hl
theorem qiU [Lent] {cfg : Cfg} (ok : CfgOk cfg) {cf : Orac} (hO : OracOk2 cfg cf) {id : Nat} {args : List AV} {vs : Array Value} {r : AV} (he : qZ cfg cf (.y id) args H = some (r, H')) (ha : qg C μ args vs) (hw : Wld C μ H w) {m : MI} (hm : μ id = some m) :
  qM cfg.P (Instr.yield m.block vs) w (qU C μ H w r H') := by
 unfold qZ at he
 simp only at he
 split at he
 case h_2 => cases he
 rename_i f fr ps assign body pend hid
 split at he
 case isFalse => cases he
 rename_i hlen
 obtain ⟨q1, hq1, he⟩ := qpp.1 he
 split at he
 case h_2 => cases he
 rename_i f1 fr1 ps1 assign1 body1 pend1 hx1 hid1
 obtain ⟨q2, hq2, he⟩ := qpp.1 he
 split at he
 case h_2 => cases he
 rename_i f2 fr2 ps2 assign2 body2 pend2 st2 hid2
 obtain ⟨i2, i3, rc, i4, i5, i6, i7, i8, i9, i10⟩ := hw.liveM hid rfl hm
 have hidl : id < H.length := (qpn.1 hid).1
 have hvs : vs.size = rc.params.size := by rw [← ha.1, hlen, ← i7]; simp
 unfold qM
 rw [run_yield i4 hvs]
 simp only
 rw [i8, i9]
 have htm : ((rc.params.zip vs).foldl (fun tmps (t, a) => tmps.setIfInBounds t a) rc.tmps) = ((ps.zip vs.toList).foldl (fun t (p, v) => t.setIfInBounds p v) rc.tmps) := by
  rw [← Array.foldl_toList, Array.toList_zip, i7]
 have hfr0 : qg C μ (vY fr ps args) ((rc.params.zip vs).foldl (fun tmps (t, a) => tmps.setIfInBounds t a) rc.tmps) := by
  rw [htm]
  exact qcb ps (fun i a v e1 e2 => ha.2 i a v e1 (by rw [← Array.getElem?_toList]; exact e2)) (by rw [ha.1]; simp) i10
 have hrd : RdOk (some id) (Fence.wide.inRound m.block) μ H.length := ⟨hidl, m, hm, rfl⟩
 refine roundIn_of_wpIn trivial (wpIn_mono (qc2 ok.ty hO ok.mixed (B := w.heap.size) assign hq1 (a := ⟨_, []⟩) (qps _) hrd hfr0 hw ⟨qps _, [], rfl, List.nodup_nil, fun D h => by cases h⟩) fun e a1 w1 hp => ?_)
 obtain ⟨e1, C1, μ1, p1, p2, p3, p4⟩ := hp
 rw [hx1] at e1
 subst e1
 obtain ⟨m1, hm1, hb1, -⟩ := p3.mu id m hidl hm
 obtain ⟨j2, j3, rc1, j4, j5, j6, j7, j8, j9, j10⟩ := p2.liveM hid1 rfl hm1
 rw [hb1] at j2 j3 j4
 have hidl1 : id < q1.2.2.length := (qpn.1 hid1).1
 refine ⟨_, run_beginRound j4 j5, ?_⟩
 have hw2 : Wld C1 μ1 (q1.2.2.set id (.loop f1 fr1 ps1 assign1 body1 pend1 .busy)) (w1.putObj m.block (.loop { rc1 with state := .busy })) :=
  p2.setBlk hid1 rfl rfl hm1 (by simp) (fun b hb => World.putObj_heap_other (hb1 ▸ hb)) ⟨{ rc1 with state := .busy }, by rw [hb1]; exact World.putObj_heap_same j2, rfl, j6, j7, j8, j9, j10⟩
 have hx2 : Ext q1.2.2.length C1 μ1 q1.2.2 w1 C1 μ1 (q1.2.2.set id (.loop f1 fr1 ps1 assign1 body1 pend1 .busy)) (w1.putObj m.block (.loop { rc1 with state := .busy })) :=
  Ext.setBlk p2 hid1 rfl hm1 (by simp) (fun b hb => World.putObj_heap_other (hb1 ▸ hb)) rfl rfl rfl (qps _)
 have hx12 := p3.trans hx2 p3.len
 have hrd2 : RdOk (some id) (Fence.wide.inRound m.block) μ1 H.length := ⟨hidl, m1, hm1, by rw [hb1]⟩
 refine wpIn_mono (qc2 ok.ty hO ok.mixed (B := w.heap.size) body hq2 (by simpa using p3.len) hrd2 p1 hw2 (p4.ext hx2)) fun e a2 w3 hp => ?_
 obtain ⟨e2, C3, μ3, g1, g2, g3, g4⟩ := hp
 obtain ⟨m3, hm3, hb3, -⟩ := g3.mu id m1 hidl hm1
 rw [hb1] at hb3
 obtain ⟨k2, k3, rc3, k4, k5, k6, k7, k8, k9, k10⟩ := g2.liveM hid2 rfl hm3
 rw [hb3] at k2 k3 k4
 have fin : ∀ (jump : Option Code) , ∃ v w4, (Instr.endRound m.block jump).run cfg.P w3 = .ok v w4 ∧
   qU C μ H w (.bool jump.isNone) (q2.2.2.set id (.loop f2 fr2 ps2 assign2 body2 jump (if jump.isNone then .ready else .done))) v w4 := by
  intro jump
  refine ⟨_, _, run_endRound jump k4, C3, μ3, .bool _, ?_, ?_⟩
  ·exact g2.setBlk hid2 rfl rfl hm3 (by simp) (fun b hb => World.putObj_heap_other (hb3 ▸ hb)) ⟨{ rc3 with state := if jump.isNone then .ready else .done, pending := jump }, by rw [hb3]; exact World.putObj_heap_same k2, rfl, rfl, k7, k8, k9, k10⟩
  ·have := Ext.setBlk (k := q2.2.2.length) (blk' := .loop f2 fr2 ps2 assign2 body2 jump (if jump.isNone then .ready else .done)) g2 hid2 rfl hm3 (w' := w3.putObj m.block (.loop { rc3 with state := if jump.isNone then .ready else .done, pending := jump })) (by simp) (fun b hb => World.putObj_heap_other (hb3 ▸ hb)) rfl rfl rfl (qps _)
   exact (hx12.trans g3 (qps _)).trans this (hx12.trans g3 (qps _)).len
 split at he
 ·rename_i hx
  cases he
  rw [hx] at e2; subst e2
  obtain ⟨v, w4, r1, r2⟩ := fin none
  exact ⟨v, w4, r1, v, rfl, r2⟩
 ·rename_i hx
  cases he
  rw [hx] at e2; subst e2
  obtain ⟨v, w4, r1, r2⟩ := fin (some .ret)
  exact ⟨v, w4, r1, v, rfl, r2⟩
 ·rename_i x hx
  cases he
  rw [hx] at e2; subst e2
  obtain ⟨v, w4, r1, r2⟩ := fin (some (.exit x))
  exact ⟨v, w4, r1, v, rfl, r2⟩
 ·cases he
theorem qic [Lent] {cfg : Cfg} (ok : CfgOk cfg) {cf : Orac} (hO : OracOk2 cfg cf) : OracOk2 cfg (qZ cfg cf) := by
 have key : ∀ f args H r, qZ cfg cf (.f f) args H = some r → cfg.ext f = none → ∃ fn c, cfg.known f = true ∧ cfg.P.funcs[f]? = some fn ∧ fn.body = some c ∧ ((evC cfg cf f none H.length c (args ++ qpK (fn.ntmps - args.length) .junk) H).bind fun r => zN cfg fn.results.toList (r.1, qO (cfg.lift f 0) r.2.1 r.2.2)) = some r := by
  intro f args H r he hx
  unfold qZ at he
  simp only [hx] at he
  split at he
  case isFalse => cases he
  rename_i hk
  split at he
  case h_2 => cases he
  rename_i fn hf
  split at he
  case h_2 => cases he
  rename_i c hb
  exact ⟨fn, c, hk, hf, hb, he⟩
 have enters : ∀ h args H r, qZ cfg cf (.f h) args H = some r → cfg.ext h = none → ∀ vs w, (callFunc h vs).run cfg.P w = .ok (.enter h vs) w := by
  intro h args H r he hx vs w
  obtain ⟨fn, c, h1, h2, h3, _⟩ := key h args H r he hx
  exact qeL h2 (ok.named _ _ h1 h2) h3 vs w
 refine ⟨fun t args H r H' he C μ w vs s ha hw ht => ?_, enters⟩
 cases t with
 | f f =>
  have hs : s = callFunc f vs := ht
  subst hs
  cases hx : cfg.ext f with
  | some sp =>
   unfold qZ at he
   simp only [hx] at he
   exact ok.ext f sp hx args H r H' he C μ w vs ha hw
  | none =>
   unfold qM
   rw [enters _ _ _ _ he hx]
   obtain ⟨fn, c, _, h2, h3, h4⟩ := key _ _ _ _ he hx
   exact qlY ok hO h2 h3 h4 ha hw
 | y id =>
  obtain ⟨m, hm, hs⟩ := ht
  subst hs
  exact qiU ok hO he ha hw hm
theorem qc0 [Lent] {cfg : Cfg} (ok : CfgOk cfg) : ∀ n, OracOk2 cfg (evF cfg n)
 | 0 => ⟨fun t args H r H' he => (by cases he), fun h args H r he => (by cases he)⟩
 | n + 1 => qic ok (qc0 ok n)
theorem qnq [Lent] {cfg : Cfg} (ok : CfgOk cfg) : OracOk2 cfg (EV cfg) := by
 refine ⟨fun t args H r H' he => ?_, fun h args H r he => ?_⟩
 ·obtain ⟨n, hn⟩ := zr he
  exact (qc0 ok n).calls t args H r H' hn
 ·obtain ⟨n, hn⟩ := zr he
  exact (qc0 ok n).enters h args H r hn
theorem qnr [Lent] {cfg : Cfg} (ok : CfgOk cfg) {f : FuncId} {args : List AV} {vs : Array Value} {r : AV} (hx : cfg.ext f = none) (he : EV cfg (.f f) args H = some (r, H')) (ha : qg C μ args vs) (hw : Wld C μ H w) :
  Calls cfg.P f vs w fun e w' => ∃ v, e = .returned v ∧ qU C μ H w r H' v w' := by
 have hO := qnq ok
 have h := hO.calls _ _ _ _ _ he C μ w vs _ ha hw rfl
 unfold qM at h
 rw [hO.enters _ _ _ _ he hx] at h
 exact callsIn_wide.1 h
section
variable {α β : Type}
def EvG (cf : Nat → Orac) (c : Orac) (G : Orac → Option α) : Prop := ∀ r, G c = some r → ∃ n, ∀ m, n ≤ m → G (cf m) = some r
def Ev (cf : Nat → Orac) (c : Orac) : Prop := ∀ t a H, EvG cf c (fun o => o t a H)
variable {cf : Nat → Orac} {c : Orac}
theorem EvG.const (x : Option α) : EvG cf c (fun _ => x) := fun _r h => ⟨0, fun _ _ => h⟩
theorem EvG.bind {X : Orac → Option α} {K : Orac → α → Option β} (hX : EvG cf c X) (hK : ∀ a, EvG cf c (fun o => K o a)) : EvG cf c (fun o => (X o).bind (K o)) := by
 intro r h
 obtain ⟨a, h1, h2⟩ := qpp.1 h
 obtain ⟨n, hn⟩ := hX a h1
 obtain ⟨n', hn'⟩ := hK a r h2
 exact ⟨max n n', fun m hm => by
  show (X (cf m)).bind (K (cf m)) = some r
  rw [hn m (by omega)]
  exact hn' m (by omega)⟩
theorem EvG.map {X : Orac → Option α} (f : α → β) (hX : EvG cf c X) : EvG cf c (fun o => (X o).map f) := by
 intro r h
 obtain ⟨a, h1, h2⟩ := qpq.1 h
 obtain ⟨n, hn⟩ := hX a h1
 exact ⟨n, fun m hm => by
  show (X (cf m)).map f = some r
  rw [hn m hm, ← h2]; rfl⟩
theorem EvG.ite {p : Prop} [Decidable p] {X Y : Orac → Option α} (hX : EvG cf c X) (hY : EvG cf c Y) : EvG cf c (fun o => if p then X o else Y o) := by
 by_cases h : p
 ·simp only [if_pos h]; exact hX
 ·simp only [if_neg h]; exact hY
theorem qbN (h : Ev cf c) (f : Nat) : ∀ l : List AV, EvG cf c (fun o => x7 o f l)
 | [] => EvG.const _
 | a :: l => by
  simp only [x7]
  exact (h _ _ _).bind fun r => (EvG.const _).bind fun _ => qbN h f l
theorem qif (h : Ev cf c) (cfg : Cfg) (nid : Option Nat) (t : Tgt) (args : List AV) (H : AH) : EvG cf c (fun o => qy cfg o nid t args H) := by
 cases t with
 | y id => exact (h _ _ _).bind fun r => EvG.const _
 | f f =>
  simp only [qy]
  cases cfg.mode f with
  | scal => exact EvG.ite ((h _ _ _).bind fun r => EvG.const _) (EvG.const _)
  | pfrz => exact EvG.ite ((h _ _ _).bind fun r => EvG.const _) (EvG.const _)
  | nfrz => exact EvG.ite ((h _ _ _).bind fun r => EvG.const _) (EvG.const _)
  | wfrz => exact EvG.ite ((h _ _ _).bind fun r => EvG.const _) (EvG.const _)
  | pown => exact EvG.ite ((h _ _ _).bind fun r => EvG.const _) (EvG.const _)
  | inpl =>
   cases qq 0 args with
   | nil => exact EvG.ite ((h _ _ _).bind fun r => EvG.const _) (EvG.const _)
   | cons id l =>
    refine EvG.ite ?_ (EvG.const _)
    cases hb : H[id]? with
    | none => exact EvG.const _
    | some b =>
     cases b with
     | rows d sz rs => exact EvG.ite ((h _ _ _).bind fun r => EvG.const _) (EvG.const _)
     | _ => exact EvG.const _
  | inpf =>
   cases qq 0 args with
   | nil => exact EvG.const _
   | cons id l =>
    refine EvG.ite ?_ (EvG.const _)
    cases hb : H[id]? with
    | none => exact EvG.const _
    | some b =>
     cases b with
     | rows d sz rs => exact EvG.ite ((h _ _ _).bind fun r => EvG.const _) (EvG.const _)
     | _ => exact EvG.const _
  | slf =>
   cases qq 0 args with
   | nil => exact EvG.const _
   | cons id l =>
    refine EvG.ite ?_ (EvG.const _)
    cases hb : H[id]? with
    | none => exact EvG.const _
    | some b =>
     cases b with
     | rows d sz rs => exact EvG.ite ((h _ _ _).bind fun r => EvG.const _) (EvG.const _)
     | _ => exact EvG.const _
  | bld =>
   cases qq 0 args with
   | nil => exact EvG.const _
   | cons id l =>
    refine EvG.ite ?_ (EvG.const _)
    cases hb : H[id]? with
    | none => exact EvG.const _
    | some b =>
     cases b with
     | bld T e s => exact (h _ _ _).bind fun r => EvG.const _
     | _ => exact EvG.const _
  | imp => exact (h _ _ _).bind fun r => EvG.const _
  | ifrz => exact (h _ _ _).bind fun r => EvG.const _
  | sub => exact (EvG.const _).bind fun s => (h _ _ _).bind fun r => EvG.const _
  | rgn => exact EvG.ite ((h _ _ _).bind fun r => EvG.const _) (EvG.const _)
  | over =>
   dsimp only
   rcases args with _ | ⟨a, _ | ⟨b, l⟩⟩
   ·exact EvG.const _
   ·dsimp only
    cases qq 0 a.alts with
    | nil => exact EvG.const _
    | cons id l =>
     refine EvG.ite ?_ (EvG.const _)
     cases hb : H[id]? with
     | none => exact EvG.const _
     | some b =>
      cases b with
      | reg => exact (qbN h _ _).map _
      | spl => exact (qbN h _ _).map _
      | _ => exact EvG.const _
   ·exact EvG.const _
theorem qgv (h : Ev cf c) (cfg : Cfg) (frz : Bool) (nid : Option Nat) (o : Oper) (x : Operand → AV) (H : AH) : EvG cf c (fun q => qK cfg q frz nid o x H) := by
 have core : ∀ (x : Operand → AV) (H : AH), EvG cf c (fun q => match o.op with
    | .call cl =>
     match cl.callee with
     | .value f => (xA (x f) (cl.args.toList.map x)).bind fun t => qy cfg q nid t.1 t.2 H
     | _ => evOp cfg nid o.op o.type x H
    | _ => evOp cfg nid o.op o.type x H) := by
  intro x H
  split
  ·split
   ·exact (EvG.const _).bind fun t => qif h cfg nid _ _ _
   ·exact EvG.const _
  ·exact EvG.const _
 unfold qK
 cases frz with
 | true => simp only [if_true]; exact core _ _
 | false => simp only [qpv, if_false]; exact core _ _
theorem qeg (h : Ev cf c) (cfg : Cfg) (f rid : Nat) (ops : Array Oper) : ∀ (l : List Oper) (k : Nat) (fr : List AV) (H : AH), EvG cf c (fun q => yQ cfg q f rid ops k l fr H)
 | [], k, fr, H => EvG.const _
 | o :: l, k, fr, H => by
  simp only [yQ]
  refine (EvG.const _).bind fun b => EvG.ite ((qgv h cfg _ _ _ _ _).bind fun r => qeg h cfg f rid ops l _ _ _) (qeg h cfg f rid ops l _ _ _)
theorem qc1 (h : Ev cf c) (cfg : Cfg) (f rid : Nat) (ops : Array Oper) : ∀ (l : List Oper) (k at_ : Nat) (fr : List AV) (H : AH), EvG cf c (fun q => xo cfg q f rid ops k at_ l fr H)
 | [], k, at_, fr, H => EvG.const _
 | o :: l, k, at_, fr, H => by
  simp only [xo]
  refine (EvG.const _).bind fun b => EvG.ite ((qgv h cfg _ _ _ _ _).bind fun r => (qc1 h cfg f rid ops l _ _ _ _).map _) ((qc1 h cfg f rid ops l _ _ _ _).map _)
theorem qe1 {k : Nat} {ts : Option (List Tmp)} {ls : List (Tmp × Nat)} {body : Den} : ∀ {n : Nat} {p : List AV × AH} {r : Ex × List AV × AH}, xN k ts ls body n p = some r → xN k ts ls body (n + 1) p = some r
 | 0, _, _, h => by cases h
 | n + 1, p, r, h => by
  rw [xN] at h ⊢
  obtain ⟨q, h1, h2⟩ := qpp.1 h
  rw [h1]
  simp only [qpy]
  cases hq : q.1 with
  | normal =>
   rw [hq] at h2
   exact qe1 h2
  | exit id => rw [hq] at h2; exact h2
  | goto l => rw [hq] at h2; exact h2
  | ret => rw [hq] at h2; exact h2
theorem qlK {g : Nat → Option α} (hs : ∀ n r, g n = some r → g (n + 1) = some r) {n : Nat} {r : α} (h : g n = some r) : lim g = some r := by
 have up : ∀ {n : Nat} {r : α}, g n = some r → ∀ d, g (n + d) = some r := by
  intro n r h d
  induction d with
  | zero => exact h
  | succ d ih => exact hs _ _ ih
 have he : ∃ (n : Nat) (r : α), g n = some r := ⟨n, r, h⟩
 unfold lim
 rw [dif_pos he]
 have hc := Classical.choose_spec (Classical.choose_spec he)
 have e1 := up h (Classical.choose he)
 have e2 := up hc n
 rw [Nat.add_comm] at e2
 rw [e1] at e2
 exact e2.symm
theorem qdz {k : Nat} {ts : Option (List Tmp)} {ls : List (Tmp × Nat)} {body : Den} {n : Nat} {p : List AV × AH} {r : Ex × List AV × AH} (h : xN k ts ls body n p = some r) : LOOP k ts ls body p = some r :=
 qlK (g := fun n => xN k ts ls body n p) (fun _ _ h => qe1 h) h
theorem qhJ {k : Nat} {ts : Option (List Tmp)} {ls : List (Tmp × Nat)} {body : Orac → Den} (hb : ∀ fr H, EvG cf c (fun q => body q fr H)) : ∀ (n : Nat) (p : List AV × AH), EvG cf c (fun q => xN k ts ls (body q) n p)
 | 0, _ => EvG.const _
 | n + 1, p => by
  simp only [xN]
  refine (hb _ _).bind fun r => ?_
  cases r.1 with
  | normal => exact qhJ hb n _
  | exit id => exact EvG.const _
  | goto l => exact EvG.const _
  | ret => exact EvG.const _
theorem qos {k : Nat} {ts : Option (List Tmp)} {ls : List (Tmp × Nat)} {body : Orac → Den} (hb : ∀ fr H, EvG cf c (fun q => body q fr H)) (p : List AV × AH) : EvG cf c (fun q => LOOP k ts ls (body q) p) := by
 intro r h
 obtain ⟨n, hn⟩ := zr h
 obtain ⟨m, hm⟩ := qhJ hb n p r hn
 exact ⟨m, fun i hi => qdz (hm i hi)⟩
theorem qib (h : Ev cf c) (cfg : Cfg) (f : Nat) (rd : Option Nat) (k : Nat) : ∀ (cd : Code) (fr : List AV) (H : AH), EvG cf c (fun q => evC cfg q f rd k cd fr H) := by
 intro cd
 induction cd with
 | skip => intro fr H; simp only [evC]; exact EvG.const _
 | label l => intro fr H; simp only [evC]; exact EvG.const _
 | exit id => intro fr H; simp only [evC]; exact EvG.const _
 | ret => intro fr H; simp only [evC]; exact EvG.const _
 | goto l => intro fr H; simp only [evC]; exact EvG.const _
 | refuse s => intro fr H; simp only [evC]; exact EvG.const _
 | region id ops draw =>
  intro fr H
  simp only [evC]
  cases draw with
  | true => simp only [if_true]; exact EvG.ite ((qc1 h cfg f id ops _ _ _ _ _).bind fun q => EvG.const _) (EvG.const _)
  | false => simp only [qpv, if_false]; exact (qeg h cfg f id ops _ _ _ _).map _
 | seq x y ihx ihy =>
  intro fr H
  simp only [evC]
  refine (ihx _ _).bind fun r => ?_
  cases r.1 with
  | normal => exact ihy _ _
  | exit id => exact EvG.const _
  | goto l => exact EvG.const _
  | ret => exact EvG.const _
 | cond cnd x y ihx ihy =>
  intro fr H
  simp only [evC]
  split
  ·exact EvG.ite (ihx _ _) (ihy _ _)
  ·exact EvG.const _
 | block id x ih =>
  intro fr H
  simp only [evC]
  exact (ih _ _).bind fun r => EvG.const _
 | loop x ih =>
  intro fr H
  simp only [evC]
  exact (qos ih _).map _
 | scope x ih =>
  intro fr H
  simp only [evC]
  exact (ih _ _).bind fun r => EvG.const _
 | rangeFunc g ps assign body =>
  intro fr H
  simp only [evC, yZ]
  refine EvG.ite ?_ (EvG.const _)
  split
  ·exact EvG.ite (EvG.const _) ((h _ _ _).bind fun r => EvG.const _)
  ·exact EvG.const _
theorem qgw (h : Ev cf c) (cfg : Cfg) (t : Tgt) (args : List AV) (H : AH) : EvG cf c (fun q => qZ cfg q t args H) := by
 unfold qZ
 cases t with
 | f f =>
  simp only
  split
  ·exact EvG.const _
  ·refine EvG.ite ?_ (EvG.const _)
   split
   ·split
    ·exact (qib h cfg f none _ _ _ _).bind fun r => EvG.const _
    ·exact EvG.const _
   ·exact EvG.const _
 | y id =>
  simp only
  split
  ·refine EvG.ite ((qib h cfg _ _ _ _ _ _).bind fun r => ?_) (EvG.const _)
   split
   ·exact (qib h cfg _ _ _ _ _ _).bind fun q => EvG.const _
   ·exact EvG.const _
  ·exact EvG.const _
end
theorem qeh (cfg : Cfg) : ∀ (n : Nat) (t : Tgt) (a : List AV) (H : AH) (r : AV × AH), evF cfg n t a H = some r → evF cfg (n + 1) t a H = some r
 | 0, t, a, H, r, h => by cases h
 | n + 1, t, a, H, r, h => by
  have hev : Ev (fun _ => evF cfg (n + 1)) (evF cfg n) := fun t a H r h => ⟨0, fun _ _ => qeh cfg n t a H r h⟩
  obtain ⟨m, hm⟩ := qgw hev cfg t a H r h
  exact hm m (qps _)
theorem qpm (cfg : Cfg) : Ev (evF cfg) (EV cfg) := by
 intro t a H r h
 obtain ⟨n, hn⟩ := zr h
 refine ⟨n, fun m hm => ?_⟩
 obtain ⟨d, rfl⟩ := Nat.exists_eq_add_of_le hm
 induction d with
 | zero => exact hn
 | succ d ih => exact qeh cfg _ t a H r (ih (by omega))
theorem qah {cfg : Cfg} {t : Tgt} {a : List AV} {H : AH} {r : AV × AH} (h : qZ cfg (EV cfg) t a H = some r) : EV cfg t a H = some r := by
 obtain ⟨n, hn⟩ := qgw (qpm cfg) cfg t a H r h
 exact qlK (g := fun n => evF cfg n t a H) (fun n r h => qeh cfg n t a H r h) (n := n + 1) (hn n (qps _))
theorem qda {k : Nat} {ts : Option (List Tmp)} {ls : List (Tmp × Nat)} {body : Den} {p : List AV × AH} {q : Ex × List AV × AH} (h : body p.1 p.2 = some q) (hq : ∀ x, q ≠ (.normal, x)) : LOOP k ts ls body p = some q := by
 refine qdz (n := 1) ?_
 rw [xN, h]
 obtain ⟨e, q⟩ := q
 cases e with
 | normal => exact absurd rfl (hq q)
 | exit id => rfl
 | goto l => rfl
 | ret => rfl
theorem qme {k : Nat} {ts : Option (List Tmp)} {ls : List (Tmp × Nat)} {body : Den} {p : List AV × AH} {fr1 : List AV} {H1 : AH} {r : Ex × List AV × AH} (h : body p.1 p.2 = some (.normal, fr1, H1)) (hr : LOOP k ts ls body (ym k ts ls fr1 H1) = some r) : LOOP k ts ls body p = some r := by
 obtain ⟨n, hn⟩ := zr hr
 refine qdz (n := n + 1) ?_
 rw [xN, h]
 exact hn
variable {α : Type}
abbrev KV (α : Type) := AV → Option α
abbrev KH (α : Type) := AV → AH → Option α
abbrev KE (α : Type) := Ex → List AV → AH → Option α
abbrev KF (α : Type) := Tgt → List AV → AH → (AV × AH → Option α) → Option α
inductive FK where
 | int (k : IntKind)
 | bool
 | str
 | sl
 | any
def zc (a b : IntKind) : Bool := decide (a = b)
def kInt (kd : IntKind) (v : AV) (k : Int → Option α) : Option α :=
 match v with
 | .int k' n => cond (zc k' kd) (k n) none
 | _ => none
def qB (v : AV) (k : Bool → Option α) : Option α :=
 match v with
 | .bool b => k b
 | _ => none
def kStr (v : AV) (k : List UInt8 → Option α) : Option α :=
 match v with
 | .str s => k s
 | _ => none
def kSl (v : AV) (k : List (List AV) → Option α) : Option α :=
 match v with
 | .sl rows => k rows
 | _ => none
def kAgg (v : AV) (k : List AV → Option α) : Option α :=
 match v with
 | .agg cs => k cs
 | _ => none
def kOpt {β : Type} (o : Option β) (k : β → Option α) : Option α :=
 match o with
 | some b => k b
 | none => none
def qv (l : List AV) (k : AV → List AV → Option α) : Option α :=
 match l with
 | c :: cs => k c cs
 | [] => none
def kNil (l : List AV) (x : Option α) : Option α :=
 match l with
 | [] => x
 | _ => none
def zf (s : FK) (v : AV) (k : KV α) : Option α :=
 match s with
 | .int kd => kInt kd v fun n => k (.int kd n)
 | .bool => qB v fun b => k (.bool b)
 | .str => kStr v fun s => k (.str s)
 | .sl => kSl v fun rows => k (.sl rows)
 | .any => k v
def zg : List FK → List AV → (List AV → Option α) → Option α
 | [], l, k => kNil l (k [])
 | s :: ss, l, k => qv l fun c cs => zf s c fun v => zg ss cs fun vs => k (v :: vs)
def qlM (sl : Bool) : TD → FK
 | .int k => .int k
 | .bool => .bool
 | .str => .str
 | .slice _ => if sl then .sl else .any
 | _ => .any
def qe3 (cfg : Cfg) (p : TypeId → Bool) : Nat → TypeId → Option (List FK)
 | 0, _ => none
 | n + 1, t =>
  match cfg.td t with
  | some (.struct fs) => (fs.foldr (fun f acc => match qe3 cfg p n f.2, acc with | some l, some a => some (l ++ a) | _, _ => none) (some []))
  | some (.array m e) => (match qe3 cfg p n e with | some l => some ((qpK m l).flatten) | none => none)
  | some d => some [qlM (p t) d]
  | none => none
def kTy1 (p : TypeId → Bool) (cfg : Cfg) (t : TypeId) (v : AV) (k : KV α) : Option α :=
 match cfg.td t with
 | some d =>
  match d with
  | .struct _ => (match qe3 cfg p 6 t with | some ss => kAgg v fun cs => zg ss cs fun vs => k (.agg vs) | none => k v)
  | .array _ _ => (match qe3 cfg p 6 t with | some ss => kAgg v fun cs => zg ss cs fun vs => k (.agg vs) | none => k v)
  | d => zf (qlM (p t) d) v k
 | none => k v
def kTup (v : AV) (k : List AV → Option α) : Option α :=
 match v with
 | .tup cs => k cs
 | _ => none
def kTys (p : TypeId → Bool) (cfg : Cfg) : List TypeId → List AV → (List AV → Option α) → Option α
 | [], l, k => kNil l (k [])
 | t :: ts, l, k => qv l fun c cs => kTy1 p cfg t c fun v => kTys p cfg ts cs fun vs => k (v :: vs)
def kTy (p : TypeId → Bool) (cfg : Cfg) (t : TypeId) (v : AV) (k : KV α) : Option α :=
 match cfg.tup t with
 | some ts => kTup v fun cs => kTys p cfg ts cs fun vs => k (.tup vs)
 | none => kTy1 p cfg t v k
def AV.regA (i : Nat) : AV → AV
 | .agg cs => .agg (cs.map (AV.regn i))
 | a => a
def noTy : TypeId → Bool := fun _ => false
def qaY : TypeId → Bool := fun _ => true
def qpj (cfg : Cfg) (H : AH) (a : AV) : TypeId → Bool :=
 match a with
 | .cptr _ _ => cfg.dat
 | .ptr id _ _ => if vp H id then cfg.dat else noTy
 | _ => noTy
def kNew (nid : Option Nat) (H : AH) (b : ABlk) (k : Nat → AH → Option α) : Option α :=
 match nid with
 | none => k H.length (H ++ [b])
 | some i => kOpt H[i]? fun x => match x with | .res => k i (H.set i b) | _ => none
def qkZ (cfg : Cfg) (t : TypeId) : Bool := match cfg.td t with | some d => d.agg | none => false
def zt (agg : Bool) (v : AV) (k : List AV → Option α) : Option α :=
 cond agg (kAgg v fun cs => cond (q6 cs) (k cs) none) (cond v.isCell (k [v]) none)
def qkA (t : Bool) (a b : AV) (k : KV α) : Option α :=
 match a, b with
 | .bool p, .bool q => k (.bool (cond t p q))
 | .int k1 p, .int k2 q => cond (zc k1 k2) (k (.int k1 (cond t p q))) (cond t (k a) (k b))
 | a, b => cond t (k a) (k b)
def qff (place : Nat → Option (Nat × Nat × Bool)) (cells : List AV) : List (Nat × AV) → (List AV → Option α) → Option α
 | [], k => k cells
 | (i, v) :: rest, k =>
  match place i with
  | some (off, size, agg) => zt agg v fun cs => cond (qpJ cs.length size && qpG (off + size) cells.length) (qff place (cells.take off ++ cs ++ cells.drop (off + size)) rest k) none
  | none => none
def qdn (cfg : Cfg) : List (Nat × TypeId) → Option (List (Nat × Nat × Bool))
 | [] => some []
 | (off, t) :: l =>
  match cfg.sz t, qdn cfg l with
  | some n, some ps => some ((off, n, qkZ cfg t) :: ps)
  | _, _ => none
def qgV (agg : Bool) (n : Nat) (rows : List (List AV)) : List (Nat × AV) → (List (List AV) → Option α) → Option α
 | [], k => k rows
 | (i, v) :: rest, k => zt agg v fun cs => cond (qpJ cs.length n && Nat.blt i rows.length) (qgV agg n (rows.set i cs) rest k) none
def kBlk (H : AH) (id : Nat) (k : Nat → List (List AV) → Option α) : Option α :=
 kOpt H[id]? fun b => match b with | .rows _ sz rs => k sz rs | .froz _ sz rs => k sz rs | _ => none
def qdr (H : AH) (id : Nat) (k : Bool → Nat → List (List AV) → Option α) : Option α :=
 kOpt H[id]? fun b => match b with | .rows d sz rs => k d sz rs | _ => none
def zz (agg : Bool) (n : Nat) (cells : List AV) (off : Nat) (k : KV α) : Option α :=
 cond agg (cond (qpG (off + n) cells.length) (k (.agg ((cells.drop off).take n))) none) (kOpt cells[off]? k)
def qfb (agg : Bool) (n : Nat) (H : AH) (p : AV) (k : KV α) : Option α :=
 match p with
 | .ptr id r off => kBlk H id fun _ rs => kOpt rs[r]? fun row => zz agg n row off k
 | .cptr cs off => zz agg n cs off k
 | .lpt cs off => zz agg n (cs.map AV.lend) off k
 | .rpt id cs off => kOpt H[id]? fun b => match b with
  | .reg => zz agg n (cs.map (AV.regn id)) off k
  | .spl => cond agg (cond (qpJ n 4) (zg [.int .i64, .int .i64, .str, .sl] ((cs.drop off).take 4) fun vs => k (.alt [.agg (vs.map (AV.regn id)), .agg qdl, .agg row0])) none) (kOpt (qfZ cs off) fun rows => k (.rsl id rows))
  | _ => none
 | _ => none
def qhN (agg : Bool) (n : Nat) (H : AH) (p v : AV) (k : AH → Option α) : Option α :=
 match p with
 | .ptr id r off => zt agg v fun cs => qdr H id fun d sz rs => kOpt rs[r]? fun row => cond (qpJ cs.length n && qpG (off + n) row.length) (k (H.set id (.rows (d && qk 0 cs) sz (rs.set r (row.take off ++ cs ++ row.drop (off + n)))))) none
 | .rpt id cs off => kOpt H[id]? fun b => match b with | .spl => cond (qpJ n 4) (cond (zp ((cs.drop off).take 4) && is77 v) (k H) none) (cond (qpJ n 7 && qfk (cs.drop off) && qal v) (k H) none) | _ => none
 | _ => none
def qcP (v : AV) (k : KV α) : Option α :=
 match v with
 | .ptr id r off => k (.ptr id r off)
 | .cptr cs off => k (.cptr cs off)
 | .fn (.func f) a b => k (.fn (.func f) a b)
 | .mp id => k (.mp id)
 | .yld id => k (.yld id)
 | _ => none
def qf (a b : Int) : Bool := decide (a ≤ b)
def qL (a b : Int) : Bool := decide (a < b)
def qcR (lo hi : Nat) (x : Option AV) (dflt : Nat) (k : Nat → Option α) : Option α :=
 match x with
 | none => k dflt
 | some v => match v with | .int _ i => cond (qf lo i && qf i hi) (k i.toNat) none | _ => none
def zs (n : Nat) (lo hi mx : Option AV) (k : Nat → Nat → Option α) : Option α :=
 cond (hi.isNone && mx.isSome) none (qcR 0 n hi n fun h => qcR h n mx h fun _ => qcR 0 h lo 0 fun l => k l h)
def qhO (cfg : Cfg) (t : TypeId) (H : AH) (x : AV) (lo hi mx : Option AV) (k : KV α) : Option α :=
 match cfg.td t with
 | some .str => (match mx with | none => (match x with | .str s => zs s.length lo hi none fun l h => k (.str ((s.drop l).take (h - l))) | _ => none) | _ => none)
 | some (.slice e) =>
  match cfg.sz e with
  | some n =>
   match x with
   | .nilS => zs 0 lo hi mx fun _ _ => k .nilS
   | .sl rows => zs rows.length lo hi mx fun l h => cond (yg n rows) (match cfg.ems t with | false => k (.sl ((rows.drop l).take (h - l))) | true => k (slE true rows l h)) none
   | .ms id off len => zs len lo hi mx fun l h => kBlk H id fun sz _ => cond (qpJ sz n) (k (.ms id (off + l) (h - l))) none
   | .wr _ v => (match lo, hi, mx with
    | none, some hv, none => (match hv with
     | .int _ h => (match v with
      | .sl rows => cond (qf 0 h && qf h rows.length) (k (.wr h.toNat (.sl rows))) none
      | .ms id off len => cond (qf 0 h && qf h len) (k (.wr h.toNat (.ms id off len))) none
      | _ => none)
     | _ => none)
    | _, _, _ => none)
   | _ => none
  | none => none
 | _ => none
def qbQ (cfg : Cfg) (t : TypeId) (H : AH) (x i : AV) (k : KV α) : Option α :=
 match i with
 | .int _ i =>
  match cfg.td t with
  | some (.slice e) =>
   match cfg.sz e with
   | some n =>
    match x with
    | .ms id off len => kBlk H id fun sz _ => cond (qpJ sz n && qf 0 i && qL i len) (k (.ptr id (off + i.toNat) 0)) none
    | .sl rows => cond (qf 0 i && qL i rows.length) (kOpt rows[i.toNat]? fun row => cond (qpJ row.length n) (k (.cptr row 0)) none) none
    | .lsl rows => cond (qf 0 i && qL i rows.length) (kOpt rows[i.toNat]? fun row => cond (qpJ row.length n) (k (.lpt row 0)) none) none
    | .rsl id rows => cond (qf 0 i && qL i rows.length) (kOpt rows[i.toNat]? fun row => cond (qpJ row.length n) (k (.rpt id row 0)) none) none
    | _ => none
   | none => none
  | some (.array n e) =>
   match cfg.sz e with
   | some sz =>
    match x with
    | .ptr id r off => cond (qf 0 i && qL i n) (k (.ptr id r (off + i.toNat * sz))) none
    | .cptr cs off => cond (qf 0 i && qL i n) (k (.cptr cs (off + i.toNat * sz))) none
    | _ => none
   | none => none
  | _ => none
 | _ => none
def qhV (cfg : Cfg) (t : TypeId) (x i : AV) (k : KV α) : Option α :=
 match i with
 | .int _ i =>
  match cfg.td t with
  | some (.array n e) =>
   match cfg.ty e with
   | some ti => kAgg x fun cs => cond (qf 0 i && qL i n) (zz ti.d.agg ti.sz cs (i.toNat * ti.sz) k) none
   | none => none
  | some .str => kStr x fun s => cond (qf 0 i) (kOpt s[i.toNat]? fun b => k (.int .u8 b.toNat)) none
  | _ => none
 | _ => none
def qhW (cfg : Cfg) (t : TypeId) (x : AV) (f : Nat) (k : KV α) : Option α :=
 match cfg.td t with
 | some (.struct fs) =>
  match fs[f]? with
  | some (off, ft) => (match cfg.ty ft with | some ti => kAgg x fun cs => zz ti.d.agg ti.sz cs off k | none => none)
  | none => none
 | _ => none
def qbW (cfg : Cfg) (t : TypeId) (x : AV) (f : Nat) (k : KV α) : Option α :=
 match cfg.td t with
 | some (.struct fs) =>
  match fs[f]? with
  | some (o, ft) =>
   match cfg.sz ft with
   | some (_ + 1) => (match x with | .ptr id r off => k (.ptr id r (off + o)) | .cptr cs off => k (.cptr cs (off + o)) | .rpt id cs off => k (.rpt id cs (off + o)) | _ => none)
   | _ => none
  | none => none
 | _ => none
def qd9 (cfg : Cfg) (nid : Option Nat) (src dst : TypeId) (x : AV) (H : AH) (k : KH α) : Option α :=
 match cfg.td src, cfg.td dst with
 | some (.int _), some (.int kd) => (match x with | .int _ n => k (.int kd (kd.wrap n)) H | _ => none)
 | some .str, some .str => kStr x fun s => k (.str s) H
 | some .str, some (.slice e) =>
  match cfg.td e with
  | some (.int .u8) => kStr x fun s => kNew nid H (.rows true 1 (xP s)) fun i H' => k (.ms i 0 s.length) H'
  | _ => none
 | some (.slice e), some .str =>
  match cfg.td e with
  | some (.int .u8) => kOpt (vU H 1 x) fun rows => kOpt (vK rows) fun bs => k (.str bs) H
  | _ => none
 | _, _ => none
def qf6 (H : AH) (n : Nat) (x : AV) (k : List (List AV) → Option α) : Option α :=
 match x with
 | .nilS => k []
 | .em => k []
 | .sl rows => cond (yg n rows) (k rows) none
 | .ms id off len => kBlk H id fun sz rs => cond (qpJ sz n && qpG (off + len) rs.length) (k ((rs.drop off).take len)) none
 | _ => none
def kSrc (isStr : Bool) (H : AH) (n : Nat) (x : AV) (k : List (List AV) → Option α) : Option α :=
 cond isStr (kStr x fun b => cond (qpJ n 1) (k (xP b)) none) (qf6 H n x k)
def qjA (cfg : Cfg) (t : TypeId) : Bool := match cfg.td t with | some .str => true | _ => false
def qf8 (cfg : Cfg) (nid : Option Nat) (t xt : TypeId) (s x : AV) (H : AH) (k : KH α) : Option α :=
 match cfg.td t, cfg.td xt with
 | some (.slice e), some xd =>
  match cfg.ty e with
  | some ei =>
   cond (xd.notInt && Nat.blt 0 ei.sz && qpJ ei.zero.length ei.sz)
    (kSrc (qjA cfg xt) H ei.sz x fun news =>
     match s with
     | .nilS => cond news.isEmpty (k .nilS H) (cond (vN news.length ei.bytes) (kNew nid H (.rows (vB H x) ei.sz news) fun i H' => k (.ms i 0 news.length) H') none)
     | .ms id off len => qdr H id fun d sz rs => cond (qpJ sz ei.sz && qpG (off + len) rs.length && vN (len + news.length) ei.bytes)
       (kNew nid (H.set id .dead) (.rows (d && vB H x) sz ((rs.drop off).take len ++ news)) fun i H' => k (.ms i 0 (len + news.length)) H') none
     | _ => none) none
  | none => none
 | _, _ => none
def kLen (cfg : Cfg) (t : TypeId) (x : AV) (H : AH) (k : KV α) : Option α :=
 match cfg.td t with
 | some .str => kStr x fun s => k (.int .i64 s.length)
 | some (.slice _) => (match x with | .nilS => k (.int .i64 0) | .em => k (.int .i64 0) | .sl rows => k (.int .i64 rows.length) | .ms _ _ len => k (.int .i64 len) | .lsl rows => k (.int .i64 rows.length) | .rsl _ rows => k (.int .i64 rows.length) | _ => none)
 | some (.array n _) => k (.int .i64 n)
 | some (.map _ _) => (match x with | .nilM => k (.int .i64 0) | .mp id => (kOpt H[id]? fun b => match b with | .mp es => k (.int .i64 es.length) | _ => none) | _ => none)
 | _ => none
def qgX (cfg : Cfg) (nid : Option Nat) (t : TypeId) (len cap : AV) (H : AH) (k : KH α) : Option α :=
 match cfg.td t with
 | some (.slice e) =>
  match cfg.ty e with
  | some ei =>
   cond (xG ei) (kInt .i64 len fun n => kInt .i64 cap fun c =>
    cond (qf 0 n && qf n c && qf (c * ei.bytes) 140737488355328 && qf c 9223372036854775807) (kNew nid H (.rows true ei.sz (qpK n.toNat ei.zero)) fun i H' => k (.ms i 0 n.toNat) H') none) none
  | none => none
 | _ => none
def qhS (cfg : Cfg) (nid : Option Nat) (t : TypeId) (len cap : AV) (H : AH) (k : KH α) : Option α :=
 match cfg.wrt t with
 | false => qgX cfg nid t len cap H k
 | true =>
  match len, cap with
  | .int _ n, .int _ c => cond (decide (n = c)) (qgX cfg nid t len cap H fun v H' => match v with | .ms id off l => k (.wr l (.ms id off l)) H' | _ => none) none
  | _, _ => none
def kCap (cfg : Cfg) (t : TypeId) (x : AV) (k : KV α) : Option α :=
 match cfg.td t with
 | some (.slice _) => (match x with | .wr _ v => (match v with | .sl rows => k (.int .i64 rows.length) | .ms _ _ len => k (.int .i64 len) | _ => none) | _ => none)
 | _ => none
def qhX (cfg : Cfg) (t : TypeId) (x : AV) (H : AH) (k : AH → Option α) : Option α :=
 match cfg.td t with
 | some (.slice e) =>
  match x with
  | .nilS => k H
  | .ms id off len =>
   match cfg.ty e with
   | some ei => qdr H id fun d sz rs => cond (xG ei && qpJ sz ei.sz && qpG (off + len) rs.length) (k (H.set id (.rows d sz (rs.take off ++ qpK len ei.zero ++ rs.drop (off + len))))) none
   | none => none
  | _ => none
 | _ => none
def qkF (cfg : Cfg) (t xt : TypeId) (d s : AV) (H : AH) (k : KH α) : Option α :=
 match cfg.td t with
 | some (.slice e) =>
  match d with
  | .ms id off len =>
   match cfg.sz e with
   | some n => qdr H id fun d sz rs => kSrc (qjA cfg xt) H n s fun news => cond (qpJ sz n && qpG (off + len) rs.length && Nat.blt 0 sz)
     (k (.int .i64 (Nat.min news.length len)) (H.set id (.rows (d && vB H s) sz (rs.take off ++ news.take len ++ rs.drop (off + (news.take len).length))))) none
   | none => none
  | _ => none
 | _ => none
def kOp (cfg : Cfg) (nid : Option Nat) (o : Op) (ty : TypeId) (x : Operand → AV) (H : AH) (k : KH α) : Option α :=
 match o with
 | .move a | .assign a => k (x a) H
 | .pick c a b => qB (x c) fun t => qkA t (x a) (x b) fun v => k v H
 | .alloc t =>
  match cfg.ty t with
  | some ti => cond (q6 ti.zero) (kNew nid H (yV cfg t ti.zero) fun i H' => k (.ptr i 0 0) H') none
  | none => none
 | .box t a => zt (qkZ cfg t) (x a) fun cs => kNew nid H (qaJ cfg t cs) fun i H' => k (.ptr i 0 0) H'
 | .build t parts =>
  match cfg.ty t with
  | some ti =>
   cond (q6 ti.zero)
    (match ti.d with
    | .struct fs =>
     match qdn cfg fs with
     | some ps => qff (fun i => ps[i]?) ti.zero (parts.toList.map fun p => (p.1, x p.2)) fun cs => k (.agg (cfg.fga t cs)) H
     | none => none
    | .array _ e =>
     match cfg.sz e with
     | some n => qff (fun i => some (i * n, n, qkZ cfg e)) ti.zero (parts.toList.map fun p => (p.1, x p.2)) fun cs => k (.agg cs) H
     | none => none
    | _ => none) none
  | none => none
 | .buildSlice t len parts =>
  match cfg.td t with
  | some (.slice e) =>
   match cfg.ty e with
   | some ei =>
    cond (xG ei && qpG (len * ei.sz) 16777216)
     (qgV ei.d.agg ei.sz (qpK len ei.zero) (parts.toList.map fun p => (p.1, x p.2)) fun rows => kNew nid H (.rows (ql 0 rows) ei.sz rows) fun i H' => k (.ms i 0 len) H') none
   | none => none
  | _ => none
 | .load t a =>
  match cfg.ty t with
  | some ti => match x a with
   | .lpt cs off => zz ti.d.agg ti.sz cs off fun v => kTy cfg.dat cfg t v fun v => cond ti.d.agg (k v.lendA H) (k v.lend H)
   | .rpt id cs off => kOpt H[id]? fun b => match b with
    | .reg => zz ti.d.agg ti.sz cs off fun v => kTy cfg.dat cfg t v fun v => cond ti.d.agg (k (v.regA id) H) (k (v.regn id) H)
    | _ => qfb ti.d.agg ti.sz H (.rpt id cs off) fun v => k v H
   | p => qfb ti.d.agg ti.sz H p fun v => kTy (qpj cfg H p) cfg t v fun v => k v H
  | none => none
 | .store t a v =>
  match cfg.ty t with
  | some ti => qhN ti.d.agg ti.sz H (x a) (x v) fun H' => k .junk H'
  | none => none
 | .nilCheck a => qcP (x a) fun v => k v H
 | .binOp op t a b _ => kOpt (aBin cfg (litN a b) op t (x a) (x b)) fun v => kTy noTy cfg ty v fun v => k v H
 | .unOp op _ a => kOpt (aUn op (x a)) fun v => kTy noTy cfg ty v fun v => k v H
 | .convert s d a => qd9 cfg nid s d (x a) H k
 | .makeFunc f first caps => k (.fn f (first.toList.map x) (caps.toList.map x)) H
 | .makeSlice t l c => qhS cfg nid t (x l) (x c) H k
 | .slice t a lo hi mx => qhO cfg t H (x a) (lo.map x) (hi.map x) (mx.map x) fun v => k v H
 | .fieldAddr t a f => qbW cfg t (x a) f fun v => k v H
 | .field t a f => qhW cfg t (x a) f fun v => kTy noTy cfg ty v fun v => k v H
 | .indexAddr t a i => qbQ cfg t H (x a).unwr (x i) fun v => k v H
 | .index t a i => qhV cfg t (x a) (x i) fun v => kTy noTy cfg ty v fun v => k v H
 | .extract t i => (match x t with | .tup vs => kOpt vs[i]? fun v => kTy noTy cfg ty v fun v => k v H | _ => none)
 | .call c =>
  match c.callee with
  | .builtin b =>
   match b, c.args.toList, c.argTypes.toList with
   | .len, [a], [t] => kLen cfg t (x a).unwr H fun v => k v H
   | .cap, [a], [t] => kCap cfg t (x a) fun v => k v H
   | .append, [s, a], [t, xt] => qf8 cfg nid t xt (x s) (x a) H k
   | .copy, [d, s], [t, xt] => qkF cfg t xt (x d).unwr (x s) H k
   | .clear, [a], [t] => qhX cfg t (x a) H fun H' => k (.tup []) H'
   | .min, [a, b], _ => kOpt (aMin (fun b a => decide (b < a)) [x a, x b]) fun v => kTy noTy cfg ty v fun v => k v H
   | .max, [a, b], _ => kOpt (aMin (fun b a => decide (a < b)) [x a, x b]) fun v => kTy noTy cfg ty v fun v => k v H
   | _, _, _ => none
  | _ => none
 | _ => none
def qfe (g s : Bool) (H : AH) (v : AV) (k : KV α) : Option α :=
 match v with
 | .ms id off len => kBlk H id fun _ rs => cond (qpG (off + len) rs.length && (vp H id || ql 0 ((rs.drop off).take len))) (k (.sl ((rs.drop off).take len))) none
 | .nilS => k (cond g (.sl []) .nilS)
 | .em => k (cond g (.sl []) .em)
 | .wr n v => (match v with | .sl rows => k (cond g (.sl (rows.take n)) (.wr n (.sl rows))) | _ => none)
 | .ptr id r off => cond s (kBlk H id fun _ rs => kOpt rs[r]? fun row => cond (qk 0 row) (k (.cptr row off)) none) (k (.ptr id r off))
 | .rsl id rows => cond s (kOpt H[id]? fun b => match b with | .reg => k (.sl rows) | _ => none) (k (.rsl id rows))
 | a => k a
def yO (g s : Bool) (H : AH) : List AV → (List AV → Option α) → Option α
 | [], k => k []
 | a :: l, k => qfe g s H a fun a => yO g s H l fun l => k (a :: l)
def qbT (s : Bool) (H : AH) (v : AV) (k : KV α) : Option α :=
 match v with
 | .agg cs => yO true s H cs fun cs => k (.agg cs)
 | .tup cs => cond s (k ((AV.tup cs).fg)) (yO true s H cs fun cs => k (.tup cs))
 | .fn f a b => cond s (yO false s H a fun a => yO false s H b fun b => k (.fn f a b)) (k (.fn f a b))
 | a => qfe true s H a k
def qkB (H : AH) (v : AV) (k : KV α) : Option α :=
 match v with
 | .agg cs => yO false false H cs fun cs => k (.agg cs)
 | .tup cs => yO false false H cs fun cs => k (.tup cs)
 | a => qfe false false H a k
def qcQ (H : AH) : List AV → (List AV → Option α) → Option α
 | [], k => k []
 | a :: l, k => qkB H a fun a => qcQ H l fun l => k (a :: l)
def qg1 (H : AH) : List AV → (List AV → Option α) → Option α
 | [], k => k []
 | a :: l, k => qbT true H a fun a => qg1 H l fun l => k (a :: l)
inductive OV where
 | nil
 | own (sz : Nat) (rs : List (List AV)) (off len : Nat)
def ovOf (r : AV × AH) : Option OV :=
 match r.1 with
 | .nilS => some .nil
 | .ms id off len =>
  match r.2[id]? with
  | some (.rows d sz rs) => if d || ql 0 rs then some (.own sz rs off len) else none
  | _ => none
 | _ => none
def qnC (r : AV × AH) : Option (OV × AV) :=
 match r.1 with
 | .tup [a, s] => cond s.scalar1 (match ovOf (a, r.2) with | some o => some (o, s) | none => none) none
 | _ => none
def EVd (cf : Orac) (f : Nat) (args : List AV) (sz : Nat) (rs : List (List AV)) : Option (AV × List (List AV)) := (cf (.f f) args [.rows true sz rs]).bind (qh4 sz)
def EVx (cf : Orac) (f : Nat) (args : List AV) (sz : Nat) (rs : List (List AV)) : Option (AV × List (List AV)) := (cf (.f f) args [.rows false sz rs]).bind (qhq sz)
open Classical in
noncomputable def EVk (cf : Orac) (f : Nat) (args : List AV) (sz : Nat) (rs : List (List AV)) : Option AV := (EVx cf f args sz rs).bind fun q => if q.2 = rs then some q.1 else none
theorem qnp {cf : Orac} {f : Nat} {args : List AV} {sz : Nat} {rs : List (List AV)} {v : AV} (h : EVk cf f args sz rs = some v) : EVx cf f args sz rs = some (v, rs) := by
 unfold EVk at h
 obtain ⟨q, h1, h2⟩ := qpp.1 h
 split at h2
 ·rename_i e
  rw [h1, ← Option.some.inj h2, ← e]
 ·cases h2
def EVs (cf : Orac) (f : Nat) (args : List AV) : Option AV := (cf (.f f) args []).map fun r => r.1
def EVf (cf : Orac) (f : Nat) (args : List AV) : Option AV := (cf (.f f) args []).map fun r => (r.1.frz r.1.msIds r.2).fg
def EVo (cf : Orac) (f : Nat) (args : List AV) : Option OV := (cf (.f f) args []).bind ovOf
def EVw (cf : Orac) (f : Nat) (args : List AV) : Option AV := (cf (.f f) args []).map fun r => r.1.frzW r.1.msIdsW r.2
def kWr (v : AV) (k : Nat → List (List AV) → Option α) : Option α :=
 match v with
 | .wr n (.sl rows) => k n rows
 | _ => none
def EVn (cf : Orac) (f : Nat) (args : List AV) : Option AV := (cf (.f f) args []).bind fun r => qgR r.2 r.1
def EVg (cf : Orac) (f : Nat) (args : List AV) : Option AV := (cf (.f f) args []).bind fun r => qeP r.2 r.1
def EVz (cf : Orac) (f : Nat) (a : AV) : Option Unit := (cf (.f f) [a] [.spl]).bind qf2
def EVb (cf : Orac) (f : Nat) (args : List AV) (T e : TypeId) (s : List UInt8) : Option (AV × List UInt8) := (cf (.f f) args [.bld T e s]).bind (qaK T e)
def qfj (cf : Orac) (f : Nat) : List AV → Option α → Option α
 | [], k => k
 | a :: l, k => kOpt (EVz cf f a) fun _ => qfj cf f l k
def EVq (cf : Orac) (f : Nat) (args : List AV) : Option (OV × AV) := (cf (.f f) args []).bind qnC
def kOwn (o : OV) (x : Option α) (k : Nat → List (List AV) → Nat → Nat → Option α) : Option α :=
 match o with
 | .nil => x
 | .own sz rs off len => k sz rs off len
inductive MV where
 | unit
 | nil
 | sl (off len : Nat)
 | int (k : IntKind) (n : Int)
 | bool (b : Bool)
def mvOf : AV → Option MV
 | .tup [] => some .unit
 | .nilS => some .nil
 | .ms id off len => if qpJ id 0 then some (.sl off len) else none
 | .int k n => some (.int k n)
 | .bool b => some (.bool b)
 | _ => none
def MV.av (id : Nat) : MV → AV
 | .unit => .tup []
 | .nil => .nilS
 | .sl off len => .ms id off len
 | .int k n => .int k n
 | .bool b => .bool b
def EVm (cf : Orac) (f : Nat) (args : List AV) (sz : Nat) (rs : List (List AV)) : Option (MV × List (List AV)) :=
 (cf (.f f) args [.rows true sz rs]).bind fun r => (qhI sz r).bind fun q => (mvOf q.1).map fun v => (v, q.2)
def EVu (cf : Orac) (f : Nat) (args : List AV) : Option MV := (cf (.f f) args []).bind fun r => if r.1.refsLt 0 then mvOf r.1 else none
def kMSl (v : MV) (x : Option α) (k : Nat → Nat → Option α) : Option α :=
 match v with
 | .nil => x
 | .sl off len => k off len
 | _ => none
def qhT (v : MV) (x : Option α) : Option α :=
 match v with
 | .unit => x
 | _ => none
def qgZ (kd : IntKind) (v : MV) (k : Int → Option α) : Option α :=
 match v with
 | .int q n => cond (zc q kd) (k n) none
 | _ => none
def qhU (v : MV) (k : Bool → Option α) : Option α :=
 match v with
 | .bool b => k b
 | _ => none
def qlI (cfg : Cfg) (ty : TypeId) : Nat :=
 match cfg.td ty with
 | some (.slice _) => 1
 | some (.int _) => 2
 | some .bool => 3
 | _ => 0
def qnD (cfg : Cfg) (ty : TypeId) : IntKind :=
 match cfg.td ty with
 | some (.int k) => k
 | _ => .i64
def qgY (kd : Nat) (ik : IntKind) (id : Nat) (v : MV) (k : KV α) : Option α :=
 match kd with
 | 0 => qhT v (k (.tup []))
 | 1 => kMSl v (k .nilS) fun off len => k (.ms id off len)
 | 2 => qgZ ik v fun n => k (.int ik n)
 | _ => qhU v fun b => k (.bool b)
noncomputable def qdq (cfg : Cfg) (cf : Orac) (kf : KF α) (nid : Option Nat) (ty : TypeId) (t : Tgt) (args : List AV) (H : AH) (k : KH α) : Option α :=
 match t with
 | .y id => kf (.y id) args H fun r => kOpt (yH nid H.length r.1 r.2) fun r => kTy noTy cfg ty r.1 fun v => k v r.2
 | .f f =>
  match cfg.mode f with
  | .scal => qg1 H args fun al => cond (qk 0 al) (match cfg.inl f with
   | some _ => kf (.f f) al [] fun r => kTy noTy cfg ty r.1 fun v => cond v.scalar (k v H) none
   | none => kOpt (EVs cf f al) fun v => kTy noTy cfg ty v fun v => cond v.scalar (k v H) none) none
  | .pfrz => cond (qk 0 (args.map AV.fg)) (match cfg.inl f with
   | some _ => kf (.f f) (args.map AV.fg) [] fun r => qbT false r.2 r.1 fun v => kTy qaY cfg ty v fun v => cond (v.refsLt 0) (k v H) none
   | none => kOpt (EVf cf f (args.map AV.fg)) fun v => kTy qaY cfg ty v fun v => cond (v.refsLt 0) (k v H) none) none
  | .wfrz => cond (qk 0 args) (kOpt (EVw cf f args) fun v => match cfg.td ty with
    | some (.slice _) => kWr v fun n rows => k (.wr n (.sl rows)) H
    | _ => kTy noTy cfg ty v fun v => cond (v.refsLt 0) (k v H) none) none
  | .nfrz => cond (qk 0 (args.map AV.fg)) (kOpt (EVn cf f (args.map AV.fg)) fun V => kTy qaY cfg ty V fun V => k V.lendT H) none
  | .pown => match cfg.tup ty with
   | some [_, t2] => cond (qk 0 args) (kOpt (EVq cf f args) fun q => kTy1 noTy cfg t2 q.2 fun s => kOwn q.1 (k (.tup [.nilS, s]) H) fun sz rs off len => kNew nid H (.rows true sz rs) fun i H' => k (.tup [.ms i off len, s]) H') none
   | _ => cond (qk 0 args) (match cfg.inl f with
   | some _ => kf (.f f) args [] fun r => kOpt (ovOf r) fun o => kOwn o (k .nilS H) fun sz rs off len => kNew nid H (.rows true sz rs) fun i H' => k (.ms i off len) H'
   | none => kOpt (EVo cf f args) fun o => kOwn o (k .nilS H) fun sz rs off len => kNew nid H (.rows true sz rs) fun i H' => k (.ms i off len) H') none
  | .inpl =>
   match qq 0 args with
   | id :: l => cond (q8 [id] l) (kOpt H[id]? fun b => match b with
     | .rows d sz rs => cond (d || ql 0 rs) (kOpt (EVm cf f (renL (fun _ => 0) args) sz rs) fun q => qgY (qlI cfg ty) (qnD cfg ty) id q.1 fun v => k v (H.set id (.rows true sz q.2))) none
     | _ => none) none
   | [] => cond (qk 0 args) (kOpt (EVu cf f args) fun v => qgY (qlI cfg ty) (qnD cfg ty) 0 v fun v => k v H) none
  | .imp => kf (.f f) args H fun r => kOpt (yH nid H.length r.1 r.2) fun r => kTy noTy cfg ty r.1 fun v => k v r.2
  | .ifrz => kf (.f f) args H fun r => kOpt (yH nid H.length (r.1.frz r.1.msIds r.2) (qu r.1.msIds r.2)) fun r => kTy noTy cfg ty r.1 fun v => k v r.2
  | .inpf =>
   match qq 0 args with
   | id :: l => cond (q8 [id] l) (kOpt H[id]? fun b => match b with
     | .rows d sz rs => cond (d || ql 0 rs) (kOpt (EVd cf f (renL (fun _ => 0) args) sz rs) fun q => kTy qaY cfg ty q.1 fun v => k v (H.set id (.rows true sz q.2))) none
     | _ => none) none
   | [] => none
  | .slf =>
   match qq 0 args with
   | id :: l => cond (q8 [id] l) (kOpt H[id]? fun b => match b with
     | .rows _ sz rs => cond (q8 [id] (xn 0 rs)) (kOpt (EVk cf f (renL (fun _ => 0) args) sz (renR (fun _ => 0) rs)) fun q => kTy qaY cfg ty q fun v => k v (H.set id (.rows false sz (renR (fun _ => id) (renR (fun _ => 0) rs))))) none
     | _ => none) none
   | [] => none
  | .rgn => cond (qk 0 (args.map AV.fg)) (kOpt (EVg cf f (args.map AV.fg)) fun V => kTy qaY cfg ty V fun V => kNew nid H .reg fun i H' => k (rgIn i V) H') none
  | .over =>
   match args with
   | [a] =>
    (match qq 0 a.alts with
    | id :: l => cond (q8 [id] l) (kOpt H[id]? fun b => match b with
      | .reg => qfj cf f (renL (fun _ => 0) a.alts) (k (.tup []) (H.set id .spl))
      | .spl => qfj cf f (renL (fun _ => 0) a.alts) (k (.tup []) H)
      | _ => none) none
    | [] => none)
   | _ => none
  | .bld =>
   match qq 0 args with
   | id :: l => cond (q8 [id] l) (kOpt H[id]? fun b => match b with
     | .bld T e s => kOpt (EVb cf f (renL (fun _ => 0) args) T e s) fun q => kTy qaY cfg ty q.1 fun v => k v (H.set id (.bld T e q.2))
     | _ => none) none
   | [] => none
  | .sub => kOpt (qaN H args) fun s => kf (.f f) (renL (vw 0 s.1) args) s.2 fun r => kOpt (qeI s.1.length r) fun q => kOpt (xi nid H (q.2.length - s.1.length)) fun p => kTy noTy cfg ty (q.1.ren (xb (s.1 ++ p.1))) fun v => k v (xS p.2 (s.1 ++ p.1) q.2)
def kTgt (f : AV) (args : List AV) (k : Tgt → List AV → Option α) : Option α :=
 match f with
 | .fn (.func g) first caps => k (.f g) (first ++ args ++ caps)
 | .yld id => k (.y id) args
 | _ => none
def opEq : Operand → Operand → Bool
 | .tmp a, .tmp b => qpJ a b
 | _, _ => false
def frzX : List Operand → List AV → (Operand → AV) → Operand → AV
 | b :: l, v :: al, x, a => cond (opEq b a) v (frzX l al x a)
 | _, _, x, a => x a
noncomputable def qg0 (cfg : Cfg) (nid : Option Nat) (o : Oper) (x : Operand → AV) (H : AH) (k : KH α) : Option α :=
 qcQ H (o.op.operands.toList.map x) fun al =>
  kOp cfg nid o.op o.type (frzX o.op.operands.toList al fun a => (x a).frz (o.op.operands.toList.flatMap fun a => (x a).msIds) H) (qu (o.op.operands.toList.flatMap fun a => (x a).msIds) H) k
noncomputable def qgW (cfg : Cfg) (cf : Orac) (kf : KF α) (frz : Bool) (nid : Option Nat) (o : Oper) (x : Operand → AV) (H : AH) (k : KH α) : Option α :=
 cond frz
  (match o.op with
   | .call c =>
    match c.callee with
    | .value f => qcQ H (c.args.toList.map x) fun al => kTgt ((x f).frz (o.op.operands.toList.flatMap fun a => (x a).msIds) H) al fun t al =>
      qdq cfg cf kf nid o.type t al (qu (o.op.operands.toList.flatMap fun a => (x a).msIds) H) k
    | _ => qg0 cfg nid o x H k
   | _ => qg0 cfg nid o x H k)
  (match o.op with
   | .call c =>
    match c.callee with
    | .value f => kTgt (x f) (c.args.toList.map x) fun t al => qdq cfg cf kf nid o.type t al H k
    | _ => kOp cfg nid o.op o.type x H k
   | _ => kOp cfg nid o.op o.type x H k)
def qdo (ops : Array Oper) (fr : List AV) (o : Oper) (k : Bool → List AV → Option α) : Option α :=
 match o.guard with
 | none => k true fr
 | some (j, want) =>
  match (ops[j]?).bind (·.dst) with
  | some d => kOpt fr[d]? fun v => match v with
   | .tup l => (match l with | [] => k false fr | _ => none)
   | v => qB v fun b => cond b (k want (fr.set d (.bool true))) (k (!want) (fr.set d (.bool false)))
  | none => none
noncomputable def kOps (cfg : Cfg) (cf : Orac) (kf : KF α) (f rid : Nat) (ops : Array Oper) : Nat → List Oper → List AV → AH → (List AV → AH → Option α) → Option α
 | _, [], fr, H, k => k fr H
 | n, o :: rest, fr, H, k => qdo ops fr o fun b fr =>
   cond b (qgW cfg cf kf (cfg.frz f rid n) none o (opd fr) H fun v H' => kOps cfg cf kf f rid ops (n + 1) rest (put fr o.dst v) H' k) (kOps cfg cf kf f rid ops (n + 1) rest (put fr o.dst (.tup [])) H k)
noncomputable def qfh (cfg : Cfg) (cf : Orac) (kf : KF α) (f rid : Nat) (ops : Array Oper) : Nat → Nat → List Oper → List AV → AH → (List DR → List AV → AH → Option α) → Option α
 | _, _, [], fr, H, k => k [] fr H
 | n, at_, o :: rest, fr, H, k => qdo ops fr o fun b fr =>
   cond b
    (qgW cfg cf kf (cfg.frz f rid n) (some at_) o (opd fr) H fun v H' =>
     qfh cfg cf kf f rid ops (n + 1) (at_ + qaC cfg o) rest (put fr o.dst v) H' fun fps fr' H'' => k (drOf cfg (cfg.frz f rid n) at_ o (opd fr) H v H' :: fps) fr' H'')
    (qfh cfg cf kf f rid ops (n + 1) (at_ + qaC cfg o) rest (put fr o.dst (.tup [])) H fun fps fr' H'' => k (drNo H :: fps) fr' H'')
open Classical in
noncomputable def CUT {β : Type} (p : β) : Option β := if ∃ q : β, some q = some p then some p else none
theorem qo5 {β : Type} (p : β) : CUT p = some p := if_pos ⟨p, rfl⟩
noncomputable def qbp (ts : Option (List Tmp)) (fr : List AV) (H : AH) (g : List AV → AH → Option α) : Option α :=
 match ts with
 | none => g fr H
 | some ks => kOpt (CUT (qX (some ks) fr, H)) fun p => g p.1 p.2
theorem qjd {ts : Option (List Tmp)} {fr : List AV} {H : AH} {g : List AV → AH → Option α} {r : α} (h : qbp ts fr H g = some r) : g (qX ts fr) H = some r := by
 cases ts with
 | none => exact h
 | some ks =>
  have h : kOpt (CUT (qX (some ks) fr, H)) (fun p => g p.1 p.2) = some r := h
  rw [qo5] at h
  exact h
def kSeq (nx : List AV → AH → Option α) (k : KE α) : KE α := fun e fr H =>
 match e with
 | .normal => nx fr H
 | e => k e fr H
def xV (id : Nat) (k : KE α) : KE α := fun e fr H =>
 match e with
 | .exit id' => cond (qpJ id' id) (k .normal fr H) (k (.exit id') fr H)
 | e => k e fr H
def qcM (k : KE α) : KE α := fun e fr H =>
 match e with
 | .goto _ => none
 | e => k e fr H
def kAft (ts : Option (List Tmp)) (k : KE α) (r : Ex × List AV × AH) : Option α := k r.1 (qX ts r.2.1) r.2.2
def known (fr : List AV) (c : Operand) (b : Bool) : List AV :=
 match c with
 | .tmp d => fr.set d (.bool b)
 | _ => fr
def qnG (b : ABlk) (k : Option Code → Option α) : Option α :=
 match b with
 | .loop _ _ _ _ _ pend st => (match st with | .busy => none | _ => k pend)
 | _ => none
def qhQ (pend : Option Code) (k : KE α) (fr : List AV) (H : AH) : Option α :=
 match pend with
 | none => k .normal fr H
 | some c => (match c with | .ret => k .ret fr H | .exit id => k (.exit id) fr H | _ => none)
def qaV (bs n : Nat) (fr : List AV) (k : KE α) (H : AH) : Option α :=
 kOpt H[n]? fun b => qnG b fun pend => qhQ pend k (gc bs fr (H.set n .dead)).1 (gc bs fr (H.set n .dead)).2
def qlP (cfg : Cfg) (_cf : Orac) (kf : KF α) (f : Nat) (rd : Option Nat) (bs : Nat) (g : AV) (ps : List Tmp) (assign body : Code) (fr : List AV) (H : AH) (k : KE α) : Option α :=
 cond (qhD rd H)
  (match g with
   | .fn (.func h) first caps => cond (cfg.ext h).isNone
     (kf (.f h) (first ++ [.yld H.length] ++ caps) (H ++ [.loop f (qX (cfg.keepIn f (qj body)) fr) ps assign body none .ready]) fun r =>
      qaV bs H.length (qX (cfg.keepOut f (qj body)) fr) k r.2) none
   | _ => none) none
noncomputable def qY (cfg : Cfg) (cf : Orac) (kf : KF α) (f : Nat) (rd : Option Nat) (bs : Nat) : Code → List AV → AH → KE α → Option α
 | .skip, fr, H, k => k .normal fr H
 | .label _, fr, H, k => k .normal fr H
 | .region id ops draw, fr, H, k =>
  cond draw
   (cond (qaI ops)
    (qfh cfg cf kf f id ops 0 H.length ops.toList fr (H ++ qpK (places cfg ops.toList) .res) fun fps fr' H' => cond (qbu (ancs [] ops.toList) (H ++ qpK (places cfg ops.toList) .res) fps) (k .normal fr' H') none) none)
   (kOps cfg cf kf f id ops 0 ops.toList fr H fun fr' H' => k .normal fr' H')
 | .seq a b, fr, H, k => qY cfg cf kf f rd bs a fr H (kSeq (fun fr H => qbp (cfg.cut f (qj b)) fr H fun fr H => qY cfg cf kf f rd bs b fr H k) k)
 | .cond c a b, fr, H, k => qB (opd fr c) fun t => cond t (qY cfg cf kf f rd bs a (known fr c true) H k) (qY cfg cf kf f rd bs b (known fr c false) H k)
 | .block id a, fr, H, k => qY cfg cf kf f rd bs a fr H (xV id k)
 | .loop a, fr, H, k => kOpt (LOOP bs (cfg.keepIn f (qj a)) (cfg.lift f (qj a)) (evC cfg cf f rd bs a) (ym bs (cfg.keepIn f (qj a)) (cfg.lift f (qj a)) fr H)) (kAft (cfg.keepOut f (qj a)) k)
 | .scope a, fr, H, k => qY cfg cf kf f rd bs a fr H (qcM k)
 | .exit id, fr, H, k => k (.exit id) fr H
 | .goto _, _, _, _ => none
 | .ret, fr, H, k => k .ret fr H
 | .rangeFunc g ps assign body, fr, H, k => qlP cfg cf kf f rd bs (opd (qO (cfg.lift f (qj body)) fr H).1 g) ps.toList assign body (qO (cfg.lift f (qj body)) fr H).1 (qO (cfg.lift f (qj body)) fr H).2 k
 | .refuse _, _, _, _ => none
inductive Ko where
 | seq (c : Code)
 | block (id : Nat)
 | scope
noncomputable def kRun (cfg : Cfg) (cf : Orac) (kf : KF α) (f : Nat) (rd : Option Nat) (bs : Nat) (k : KE α) : List Ko → KE α
 | [] => k
 | .seq c :: s => kSeq (fun fr H => qbp (cfg.cut f (qj c)) fr H fun fr H => qY cfg cf kf f rd bs c fr H (kRun cfg cf kf f rd bs k s)) (kRun cfg cf kf f rd bs k s)
 | .block id :: s => xV id (kRun cfg cf kf f rd bs k s)
 | .scope :: s => qcM (kRun cfg cf kf f rd bs k s)
def kRes (cfg : Cfg) (fr : List AV) (H : AH) : List ResultVar → (List AV → Option α) → Option α
 | [], k => k []
 | .tmp t :: l, k => kRes cfg fr H l fun vs => k (fr.getD t .junk :: vs)
 | .cell a t :: l, k =>
  match cfg.ty t with
  | some ti => qfb ti.d.agg ti.sz H (fr.getD a .junk) fun v => kTy noTy cfg t v fun v => kRes cfg fr H l fun vs => k (v :: vs)
  | none => none
variable {α : Type} {r : α} {H : AH}
theorem qc {b : Bool} {x : Option α} (h : cond b x none = some r) : b = true ∧ x = some r := by cases b <;> simp_all
theorem qkW {b : Bool} {x : Option α} (h : cond b none x = some r) : b = false ∧ x = some r := by cases b <;> simp_all
theorem vR {b : Bool} {x y : Option α} (h : cond b x y = some r) : (b = true ∧ x = some r) ∨ (b = false ∧ y = some r) := by cases b <;> simp_all
theorem qcJ {a b : IntKind} (h : zc a b = true) : a = b := by simpa [zc] using h
theorem qR {a b : Int} : qf a b = true ↔ a ≤ b := by simp [qf]
theorem yk {a b : Int} : qL a b = true ↔ a < b := by simp [qL]
theorem zK {kd : IntKind} {v : AV} {k : Int → Option α} (h : kInt kd v k = some r) : ∃ n, v = .int kd n ∧ k n = some r := by
 unfold kInt at h
 split at h
 ·obtain ⟨h1, h2⟩ := qc h
  rw [qcJ h1]; exact ⟨_, rfl, h2⟩
 ·cases h
theorem qad {v : AV} {k : Bool → Option α} (h : qB v k = some r) : ∃ b, v = .bool b ∧ k b = some r := by
 unfold qB at h; split at h
 ·exact ⟨_, rfl, h⟩
 ·cases h
theorem yl {v : AV} {k : List UInt8 → Option α} (h : kStr v k = some r) : ∃ b, v = .str b ∧ k b = some r := by
 unfold kStr at h; split at h
 ·exact ⟨_, rfl, h⟩
 ·cases h
theorem qaW {v : AV} {k : List AV → Option α} (h : kAgg v k = some r) : ∃ b, v = .agg b ∧ k b = some r := by
 unfold kAgg at h; split at h
 ·exact ⟨_, rfl, h⟩
 ·cases h
theorem qe {β : Type} {o : Option β} {k : β → Option α} (h : kOpt o k = some r) : ∃ b, o = some b ∧ k b = some r := by
 unfold kOpt at h; split at h
 ·exact ⟨_, rfl, h⟩
 ·cases h
theorem yv {l : List AV} {k : AV → List AV → Option α} (h : qv l k = some r) : ∃ a b, l = a :: b ∧ k a b = some r := by
 unfold qv at h; split at h
 ·exact ⟨_, _, rfl, h⟩
 ·cases h
theorem qcO {l : List AV} {x : Option α} (h : kNil l x = some r) : l = [] ∧ x = some r := by
 unfold kNil at h; split at h
 ·exact ⟨rfl, h⟩
 ·cases h
theorem qdS {s : FK} {v : AV} {k : KV α} (h : zf s v k = some r) : k v = some r := by
 cases s with
 | int kd => obtain ⟨n, rfl, h1⟩ := zK h; exact h1
 | bool => obtain ⟨n, rfl, h1⟩ := qad h; exact h1
 | str => obtain ⟨n, rfl, h1⟩ := yl h; exact h1
 | sl =>
  have h : kSl v (fun rows => k (.sl rows)) = some r := h
  unfold kSl at h
  split at h
  ·exact h
  ·cases h
 | any => exact h
theorem qa5 : ∀ {ss : List FK} {l : List AV} {k : List AV → Option α}, zg ss l k = some r → k l = some r
 | [], l, k, h => by
  obtain ⟨rfl, h1⟩ := qcO h
  exact h1
 | s :: ss, l, k, h => by
  obtain ⟨a, b, rfl, h1⟩ := yv h
  exact qa5 (k := fun vs => k (a :: vs)) (qdS (k := fun v => zg ss b fun vs => k (v :: vs)) h1)
theorem qkG {l0 : List AV} {k : List AV → Option α} (h0 : zg [.int .i64, .int .i64, .str, .sl] l0 k = some r) : zp l0 = true ∧ k l0 = some r := by
 refine ⟨?_, qa5 h0⟩
 simp only [zg] at h0
 obtain ⟨a, l1, rfl, h1⟩ := yv h0
 obtain ⟨n, rfl, h2⟩ := zK (k := fun n => qv l1 fun c cs => zf (.int .i64) c fun v => qv cs fun c cs => zf .str c fun v1 => qv cs fun c cs => zf .sl c fun v2 => kNil cs (k [.int .i64 n, v, v1, v2])) h1
 obtain ⟨a, l2, rfl, h3⟩ := yv h2
 obtain ⟨m, rfl, h4⟩ := zK (k := fun m => qv l2 fun c cs => zf .str c fun v1 => qv cs fun c cs => zf .sl c fun v2 => kNil cs (k [.int .i64 n, .int .i64 m, v1, v2])) h3
 obtain ⟨a, l3, rfl, h5⟩ := yv h4
 obtain ⟨s, rfl, h6⟩ := yl (k := fun s => qv l3 fun c cs => zf .sl c fun v2 => kNil cs (k [.int .i64 n, .int .i64 m, .str s, v2])) h5
 obtain ⟨a, l4, rfl, h7⟩ := yv h6
 have h8 : kSl a (fun rows => kNil l4 (k [.int .i64 n, .int .i64 m, .str s, .sl rows])) = some r := h7
 unfold kSl at h8
 split at h8
 ·obtain ⟨rfl, _⟩ := qcO h8
  rfl
 ·cases h8
theorem qcL {p : TypeId → Bool} {cfg : Cfg} {t : TypeId} {v : AV} {k : KV α} (h : kTy1 p cfg t v k = some r) : k v = some r := by
 unfold kTy1 at h
 have agg : ∀ {ss : List FK}, (kAgg v fun cs => zg ss cs fun vs => k (.agg vs)) = some r → k v = some r := by
  intro ss h
  obtain ⟨cs, rfl, h⟩ := qaW h
  exact qa5 (k := fun vs => k (.agg vs)) h
 split at h
 ·split at h
  ·split at h
   ·exact agg h
   ·exact h
  ·split at h
   ·exact agg h
   ·exact h
  ·exact qdS h
 ·exact h
theorem qgq {p : TypeId → Bool} {cfg : Cfg} : ∀ {ts : List TypeId} {l : List AV} {k : List AV → Option α}, kTys p cfg ts l k = some r → k l = some r
 | [], l, k, h => by
  rw [kTys] at h
  obtain ⟨h1, h2⟩ := qcO h
  rw [h1]; exact h2
 | t :: ts, l, k, h => by
  rw [kTys] at h
  obtain ⟨a, b, rfl, h⟩ := yv h
  have h1 := qcL (k := fun v => kTys p cfg ts b fun vs => k (v :: vs)) h
  exact qgq (k := fun vs => k (a :: vs)) h1
theorem qD {p : TypeId → Bool} {cfg : Cfg} {t : TypeId} {v : AV} {k : KV α} (h : kTy p cfg t v k = some r) : k v = some r := by
 unfold kTy at h
 split at h
 ·unfold kTup at h
  split at h
  ·exact qgq (k := fun vs => k (.tup vs)) h
  ·cases h
 ·exact qcL h
theorem vZ {nid : Option Nat} {b : ABlk} {k : Nat → AH → Option α} (h : kNew nid H b k = some r) : ∃ i H', aNew nid H b = some (i, H') ∧ k i H' = some r := by
 unfold kNew at h
 unfold aNew
 cases nid with
 | none => exact ⟨_, _, rfl, h⟩
 | some i =>
  simp only at h ⊢
  obtain ⟨x, hx, h⟩ := qe h
  rw [hx]
  split at h
  ·exact ⟨_, _, rfl, h⟩
  ·cases h
theorem qh0 {v : AV} (h : v.isCell = true) : v.cells = some [v] := by cases v <;> simp_all [AV.isCell, AV.cells]
theorem yP {agg : Bool} {v : AV} {k : List AV → Option α} (h : zt agg v k = some r) : ∃ cs, v.cells = some cs ∧ k cs = some r := by
 unfold zt at h
 rcases vR h with ⟨_, h⟩ | ⟨_, h⟩
 ·obtain ⟨cs, rfl, h⟩ := qaW h
  obtain ⟨h1, h2⟩ := qc h
  exact ⟨cs, by simp [AV.cells, h1], h2⟩
 ·obtain ⟨h1, h2⟩ := qc h
  exact ⟨_, qh0 h1, h2⟩
theorem qkz {t : Bool} {a b : AV} {k : KV α} (h : qkA t a b k = some r) : k (if t then a else b) = some r := by
 have sp : ∀ {a b : AV}, cond t (k a) (k b) = some r → k (if t then a else b) = some r := by
  intro a b h
  cases t <;> simpa using h
 unfold qkA at h
 split at h
 ·cases t <;> simpa using h
 ·rcases vR h with ⟨h1, h⟩ | ⟨_, h⟩
  ·have := qcJ h1; subst this
   cases t <;> simpa using h
  ·exact sp h
 ·exact sp h
theorem qbV {place : Nat → Option (Nat × Nat × Bool)} {place' : Nat → Option (Nat × Nat)} (hp : ∀ i off n g, place i = some (off, n, g) → place' i = some (off, n)) : ∀ {parts : List (Nat × AV)} {cells : List AV} {k : List AV → Option α},
  qff place cells parts k = some r → ∃ cs, zD place' cells parts = some cs ∧ k cs = some r
 | [], cells, k, h => ⟨cells, rfl, h⟩
 | (i, v) :: rest, cells, k, h => by
  rw [qff] at h
  split at h
  ·rename_i off n g hi
   obtain ⟨cs, h1, h⟩ := yP h
   obtain ⟨h2, h⟩ := qc h
   obtain ⟨cs', h3, h4⟩ := qbV hp h
   refine ⟨cs', ?_, h4⟩
   rw [qpo] at h2
   rw [zD, hp _ _ _ _ hi, h1]
   simp only
   rw [if_pos]
   ·exact h3
   ·rw [qpo, beq_iff_eq]
    exact ⟨qpt h2.1, h2.2⟩
  ·cases h
theorem qeV {cfg : Cfg} : ∀ {fs : List (Nat × TypeId)} {ps : List (Nat × Nat × Bool)}, qdn cfg fs = some ps → ∃ qs, yj cfg fs = some qs ∧ ∀ (i off n : Nat) (g : Bool), ps[i]? = some (off, n, g) → qs[i]? = some (off, n)
 | [], ps, h => by cases h; exact ⟨[], rfl, fun i off n g h => by simp at h⟩
 | (off, t) :: l, ps, h => by
  rw [qdn] at h
  split at h
  ·rename_i n ps' h1 h2
   cases h
   obtain ⟨qs, h3, h4⟩ := qeV h2
   refine ⟨(off, n) :: qs, by rw [yj, h1, h3], fun i o m g hi => ?_⟩
   cases i with
   | zero => simp at hi ⊢; exact ⟨hi.1, hi.2.1⟩
   | succ i => simpa using h4 i o m g (by simpa using hi)
  ·cases h
theorem qe8 {agg : Bool} {n : Nat} : ∀ {parts : List (Nat × AV)} {rows : List (List AV)} {k : List (List AV) → Option α}, qgV agg n rows parts k = some r → ∃ rs, zl n rows parts = some rs ∧ k rs = some r
 | [], rows, k, h => ⟨rows, rfl, h⟩
 | (i, v) :: rest, rows, k, h => by
  rw [qgV] at h
  obtain ⟨cs, h1, h⟩ := yP h
  obtain ⟨h2, h⟩ := qc h
  obtain ⟨rs, h3, h4⟩ := qe8 h
  refine ⟨rs, ?_, h4⟩
  rw [qpo] at h2
  rw [zl, h1]
  simp only
  rw [if_pos]
  ·exact h3
  ·rw [qpo, beq_iff_eq]
   exact ⟨qpt h2.1, h2.2⟩
theorem yX {id : Nat} {k : Nat → List (List AV) → Option α} (h : kBlk H id k = some r) : ∃ sz rs, qx H id = some (sz, rs) ∧ k sz rs = some r := by
 unfold kBlk at h
 obtain ⟨b, hb, h⟩ := qe h
 unfold qx
 rw [hb]
 split at h
 ·exact ⟨_, _, rfl, h⟩
 ·exact ⟨_, _, rfl, h⟩
 ·cases h
theorem ze {g s : Bool} {v : AV} {k : KV α} (h : qfe g s H v k = some r) : (∀ ids, (∀ id off len, v = .ms id off len → id ∈ ids) → s = false → k (cond g (v.frz1 ids H).fg1 (v.frz1 ids H)) = some r) ∧ (s = true → k (cond g (v.snap1 H).fg1 (v.snap1 H)) = some r) := by
 unfold qfe at h
 split at h
 ·rename_i id off len
  obtain ⟨sz, rs, h1, h⟩ := yX h
  rcases hc : (qpG (off + len) rs.length && (vp H id || ql 0 ((rs.drop off).take len))) with _ | _
  ·rw [hc] at h; cases h
  ·rw [hc] at h
   have h : k (.sl ((rs.drop off).take len)) = some r := h
   have aux : ∀ ids : List Nat, id ∈ ids → (AV.ms id off len).frz1 ids H = .sl ((rs.drop off).take len) := by
    intro ids hi
    simp only [AV.frz1, h1]
    rw [if_pos]
    rw [Bool.and_assoc, hc, Bool.and_true]
    exact qN.2 hi
   refine ⟨fun ids hi _ => ?_, fun _ => ?_⟩
   ·rw [aux ids (hi _ _ _ rfl)]; cases g <;> exact h
   ·simp only [AV.snap1]; rw [aux [id] (by simp)]; cases g <;> exact h
 ·refine ⟨fun ids _ _ => ?_, fun _ => ?_⟩ <;> (cases g <;> exact h)
 ·refine ⟨fun ids _ _ => ?_, fun _ => ?_⟩ <;> (cases g <;> exact h)
 ·split at h
  ·refine ⟨fun ids _ _ => ?_, fun _ => ?_⟩ <;> (cases g <;> exact h)
  ·cases h
 ·rename_i id r' off
  cases s with
  | false => exact ⟨fun ids _ _ => by cases g <;> exact h, fun h => by cases h⟩
  | true =>
   refine ⟨fun _ _ h => by (cases h), fun _ => ?_⟩
   obtain ⟨sz, rs, h1, h⟩ := yX h
   obtain ⟨row, h2, h⟩ := qe h
   obtain ⟨h3, h⟩ := qc h
   simp only [AV.snap1, h1, h2, qfy, h3, if_true]
   cases g <;> exact h
 ·rename_i id rows
  cases s with
  | false => exact ⟨fun ids _ _ => by cases g <;> exact h, fun h => by cases h⟩
  | true =>
   refine ⟨fun _ _ h => by (cases h), fun _ => ?_⟩
   obtain ⟨b, h1, h⟩ := qe h
   split at h
   ·simp only [AV.snap1, h1]
    cases rows <;> cases g <;> exact h
   ·cases h
 ·rename_i hn1 hn2 hn4 hn6 hn3 hn5
  refine ⟨fun ids _ _ => ?_, fun _ => ?_⟩
  ·have : v.frz1 ids H = v := by
    cases v <;> first | rfl | exact absurd rfl (hn1 _ _ _)
   rw [this]
   have : v.fg1 = v := by
    cases v <;> first | rfl | exact absurd rfl hn2 | exact absurd rfl hn4 | exact absurd rfl (hn6 _ _)
   rw [this]; cases g <;> exact h
  ·have : v.snap1 H = v := by
    cases v <;> first | rfl | exact absurd rfl (hn1 _ _ _) | exact absurd rfl (hn3 _ _ _) | exact absurd rfl (hn5 _ _)
   rw [this]
   have : v.fg1 = v := by
    cases v <;> first | rfl | exact absurd rfl hn2 | exact absurd rfl hn4 | exact absurd rfl (hn6 _ _)
   rw [this]; cases g <;> exact h
theorem zL {g : Bool} {ids : List Nat} : ∀ {l : List AV} {k : List AV → Option α}, (∀ v ∈ l, ∀ id off len, v = .ms id off len → id ∈ ids) → yO g false H l k = some r → k (l.map fun v => cond g (v.frz1 ids H).fg1 (v.frz1 ids H)) = some r
 | [], k, _, h => h
 | a :: l, k, hi, h => by
  rw [yO] at h
  have h1 := (ze h).1 ids (hi a (by simp)) rfl
  exact zL (k := fun l => k (cond g (a.frz1 ids H).fg1 (a.frz1 ids H) :: l)) (fun v hv => hi v (by simp [hv])) h1
theorem qaa {g : Bool} : ∀ {l : List AV} {k : List AV → Option α}, yO g true H l k = some r → k (l.map fun v => cond g (v.snap1 H).fg1 (v.snap1 H)) = some r
 | [], k, h => h
 | a :: l, k, h => by
  rw [yO] at h
  have h1 := (ze h).2 rfl
  exact qaa (k := fun l => k (cond g (a.snap1 H).fg1 (a.snap1 H) :: l)) h1
theorem qaT {l : List AV} {v : AV} (hv : v ∈ l) {id off len : Nat} (h : v = .ms id off len) : id ∈ l.flatMap AV.msId := by
 subst h
 exact List.mem_flatMap.2 ⟨_, hv, by simp [AV.msId]⟩
theorem qgs {v : AV} {k : KV α} (h : qbT false H v k = some r) : k (v.frz v.msIds H).fg = some r := by
 unfold qbT at h
 split at h
 ·rename_i cs
  have := zL (ids := cs.flatMap AV.msId) (fun v hv id off len e => qaT hv e) h
  simpa [AV.frz, AV.fg, AV.msIds, Function.comp_def] using this
 ·rename_i cs
  have := zL (k := fun cs => k (.tup cs)) (ids := cs.flatMap AV.msId) (fun v hv id off len e => qaT hv e) h
  simpa [AV.frz, AV.fg, AV.msIds, Function.comp_def] using this
 ·exact h
 ·rename_i h1 h2 h3
  have h4 := (ze h).1 v.msIds (fun id off len e => by subst e; simp [AV.msIds, AV.msId]) rfl
  have e1 : v.frz v.msIds H = v.frz1 v.msIds H := by
   cases v <;> first | rfl | exact absurd rfl (h1 _) | exact absurd rfl (h2 _)
  have e2 : (v.frz1 v.msIds H).fg = (v.frz1 v.msIds H).fg1 := by
   cases v <;> first | rfl | exact absurd rfl (h1 _) | exact absurd rfl (h2 _) | skip
   simp only [AV.frz1]
   split
   ·split <;> rfl
   ·rfl
  rw [e1, e2]; exact h4
theorem qkC {v : AV} {k : KV α} (h : qbT true H v k = some r) : k (v.snap H).fg = some r := by
 unfold qbT at h
 split at h
 ·rename_i cs
  have := qaa h
  simpa [AV.snap, AV.fg, Function.comp_def] using this
 ·exact h
 ·rename_i f a b
  have h2 := qaa (k := fun a => yO false true H b fun b => k (.fn f a b)) h
  have h3 := qaa (k := fun b => k (.fn f (a.map (AV.snap1 H)) b)) h2
  exact h3
 ·rename_i h1 h2 h3
  have h4 := (ze h).2 rfl
  have e1 : v.snap H = v.snap1 H := by
   cases v <;> first | rfl | exact absurd rfl (h1 _) | exact absurd rfl (h3 _ _ _)
  have e2 : (v.snap1 H).fg = (v.snap1 H).fg1 := by
   cases v <;> first | rfl | exact absurd rfl (h1 _) | exact absurd rfl (h2 _) | skip
   ·simp only [AV.snap1, AV.frz1]
    split
    ·split <;> rfl
    ·rfl
   ·simp only [AV.snap1]
    split
    ·split <;> rfl
    ·rfl
   ·simp only [AV.snap1]
    split <;> rfl
  rw [e1, e2]; exact h4
theorem qfi : ∀ {l : List AV} {k : List AV → Option α}, qg1 H l k = some r → k (l.map fun a => (a.snap H).fg) = some r
 | [], k, h => h
 | a :: l, k, h => by
  rw [qg1] at h
  have h1 := qkC h
  exact qfi (k := fun l => k ((a.snap H).fg :: l)) h1
theorem qae {id : Nat} {k : Bool → Nat → List (List AV) → Option α} (h : qdr H id k = some r) : ∃ d sz rs, H[id]? = some (.rows d sz rs) ∧ k d sz rs = some r := by
 unfold qdr at h
 obtain ⟨b, hb, h⟩ := qe h
 split at h
 ·exact ⟨_, _, _, hb, h⟩
 ·cases h
theorem xk {agg : Bool} {n off : Nat} {cells : List AV} {k : KV α} (h : zz agg n cells off k = some r) :
  ∃ v, (if agg then (if qpG (off + n) cells.length then some (AV.agg ((cells.drop off).take n)) else none) else cells[off]?) = some v ∧ k v = some r := by
 unfold zz at h
 rcases vR h with ⟨rfl, h⟩ | ⟨rfl, h⟩
 ·obtain ⟨h1, h2⟩ := qc h
  exact ⟨_, by simp [h1], h2⟩
 ·obtain ⟨v, h1, h2⟩ := qe h
  exact ⟨v, by simp [h1], h2⟩
theorem qbP {agg : Bool} {n : Nat} {p : AV} {k : KV α} (h : qfb agg n H p k = some r) : ∃ v, xR agg n H p = some v ∧ k v = some r := by
 unfold qfb at h
 unfold xR
 split at h
 ·obtain ⟨sz, rs, h1, h⟩ := yX h
  obtain ⟨row, h2, h⟩ := qe h
  obtain ⟨v, h3, h4⟩ := xk h
  exact ⟨v, by simp only [h1, h2]; exact h3, h4⟩
 ·obtain ⟨v, h3, h4⟩ := xk h
  exact ⟨v, h3, h4⟩
 ·obtain ⟨v, h3, h4⟩ := xk h
  refine ⟨v, ?_, h4⟩
  rw [← h3]
  simp only [qpN, List.map_take, List.map_drop, List.getElem?_map]
 ·obtain ⟨b, h1, h⟩ := qe h
  split at h
  ·obtain ⟨v, h3, h4⟩ := xk h
   refine ⟨v, ?_, h4⟩
   simp only [h1]
   rw [← h3]
   simp only [qpN, List.map_take, List.map_drop, List.getElem?_map]
  ·simp only [h1]
   rcases vR h with ⟨ha, h⟩ | ⟨ha, h⟩
   ·obtain ⟨h2, h⟩ := qc h
    obtain ⟨h3, h⟩ := qkG h
    exact ⟨_, by rw [if_pos ha, if_pos (by rw [h2, h3]; rfl)], h⟩
   ·obtain ⟨rows, h2, h⟩ := qe h
    exact ⟨_, by rw [if_neg (by rw [ha]; simp)]; unfold qf0; rw [h2]; rfl, h⟩
  ·cases h
 ·cases h
theorem qi8 {agg : Bool} {n : Nat} {p v : AV} {k : AH → Option α} (h : qhN agg n H p v k = some r) : ∃ H', xL n H p v = some H' ∧ k H' = some r := by
 unfold qhN at h
 unfold xL
 split at h
 ·obtain ⟨cs, h1, h⟩ := yP h
  obtain ⟨d, sz, rs, h2, h⟩ := qae h
  obtain ⟨row, h3, h⟩ := qe h
  obtain ⟨h4, h⟩ := qc h
  rw [qpo] at h4
  refine ⟨_, ?_, h⟩
  simp only [h1, h2, h3]
  rw [if_pos]
  rw [qpo, beq_iff_eq]
  exact ⟨qpt h4.1, h4.2⟩
 ·obtain ⟨b, h1, h⟩ := qe h
  split at h
  ·rcases vR h with ⟨h4, h⟩ | ⟨h4, h⟩
   ·obtain ⟨h2, h⟩ := qc h
    refine ⟨H, ?_, h⟩
    have h77 : is77 v = true := by rw [qpo] at h2; exact h2.2
    have hv : ∃ cs, v.cells = some cs := by
     rcases qjB h77 with rfl | rfl
     ·exact ⟨_, rfl⟩
     ·exact ⟨_, rfl⟩
    obtain ⟨cs, hv⟩ := hv
    simp only [hv, h1]
    rw [if_pos (by rw [h4, Bool.true_and]; exact h2)]
   ·obtain ⟨h2, h⟩ := qc h
    refine ⟨H, ?_, h⟩
    have h99 : qal v = true := by rw [qpo] at h2; exact h2.2
    have hv : ∃ cs, v.cells = some cs := by
     unfold qal at h99
     split at h99
     ·exact ⟨_, rfl⟩
     ·exact ⟨_, rfl⟩
     ·cases h99
    obtain ⟨cs, hv⟩ := hv
    simp only [hv, h1]
    rw [if_neg (by rw [h4]; simp), if_pos h2]
  ·cases h
 ·cases h
theorem qa6 {lo hi d : Nat} {x : Option AV} {k : Nat → Option α} (h : qcR lo hi x d k = some r) : ∃ n, zj lo hi x d = some n ∧ k n = some r := by
 unfold qcR at h
 unfold zj
 split at h
 ·exact ⟨_, rfl, h⟩
 ·split at h
  ·obtain ⟨h1, h⟩ := qc h
   rw [qpo, qR, qR] at h1
   exact ⟨_, by simp only; rw [if_pos h1], h⟩
  ·cases h
theorem yN {n : Nat} {lo hi mx : Option AV} {k : Nat → Nat → Option α} (h : zs n lo hi mx k = some r) : ∃ l h', yW n lo hi mx = some (l, h') ∧ k l h' = some r := by
 unfold zs at h
 obtain ⟨h0, h⟩ := qkW h
 obtain ⟨a, h1, h⟩ := qa6 h
 obtain ⟨b, h2, h⟩ := qa6 h
 obtain ⟨c, h3, h⟩ := qa6 h
 refine ⟨c, a, ?_, h⟩
 unfold yW
 rw [if_neg (by rw [h0]; simp), h1]
 simp only [h2, h3]
theorem qi9 {cfg : Cfg} {t : TypeId} {x : AV} {lo hi mx : Option AV} {k : KV α} (h : qhO cfg t H x lo hi mx k = some r) : ∃ v, zk cfg t H x lo hi mx = some v ∧ k v = some r := by
 unfold qhO at h
 unfold zk
 split at h
 ·rename_i ht
  rw [ht]
  split at h
  ·split at h
   ·obtain ⟨l, h', h1, h⟩ := yN h
    exact ⟨_, by simp only [h1], h⟩
   ·cases h
  ·cases h
 ·rename_i e ht
  rw [ht]
  split at h
  ·rename_i n hn
   split at h
   ·obtain ⟨l, h', h1, h⟩ := yN h
    exact ⟨_, by simp only [hn, h1], h⟩
   ·rename_i rows
    obtain ⟨l, h', h1, h⟩ := yN h
    obtain ⟨h2, h⟩ := qc h
    refine ⟨slE (cfg.ems t) rows l h', by simp only [hn, h1, h2, if_true], ?_⟩
    split at h
    ·rename_i he; rw [he]; exact h
    ·rename_i he; rw [he]; exact h
   ·obtain ⟨l, h', h1, h⟩ := yN h
    obtain ⟨sz, rs, h2, h⟩ := yX h
    obtain ⟨h3, hz⟩ := qc h
    have := qpt h3
    subst this
    exact ⟨_, by simp [hn, h1, h2], hz⟩
   ·split at h
    ·split at h
     ·rename_i kd hh _
      split at h
      ·obtain ⟨h2, hz⟩ := qc h
       rw [qpo, qR, qR] at h2
       exact ⟨_, by simp only [hn, AV.lenW]; rw [if_pos h2], hz⟩
      ·obtain ⟨h2, hz⟩ := qc h
       rw [qpo, qR, qR] at h2
       exact ⟨_, by simp only [hn, AV.lenW]; rw [if_pos h2], hz⟩
      ·cases h
     ·cases h
    ·cases h
   ·cases h
  ·cases h
 ·cases h
theorem qfc {cfg : Cfg} {t : TypeId} {x i : AV} {k : KV α} (h : qbQ cfg t H x i k = some r) : ∃ v, vX cfg t H x i = some v ∧ k v = some r := by
 unfold qbQ at h
 unfold vX
 split at h
 case h_2 => cases h
 rename_i kk i
 split at h
 ·rename_i e ht
  rw [ht]
  split at h
  case h_2 => cases h
  rename_i n hn
  split at h
  ·obtain ⟨sz, rs, h1, h⟩ := yX h
   obtain ⟨h2, hz⟩ := qc h
   rw [qpo, qpo, qR, yk] at h2
   have := qpt h2.1.1
   subst this
   exact ⟨_, by simp [hn, h1, h2.1.2, h2.2], hz⟩
  ·obtain ⟨h2, h⟩ := qc h
   rw [qpo, qR, yk] at h2
   obtain ⟨row, h3, h⟩ := qe h
   obtain ⟨h4, hz⟩ := qc h
   refine ⟨.cptr row 0, ?_, hz⟩
   have h5 := qpt h4
   simp only [hn, if_pos h2, h3]
   rw [if_pos (by rw [h5]; exact beq_self_eq_true n)]
  ·obtain ⟨h2, h⟩ := qc h
   rw [qpo, qR, yk] at h2
   obtain ⟨row, h3, h⟩ := qe h
   obtain ⟨h4, hz⟩ := qc h
   refine ⟨.lpt row 0, ?_, hz⟩
   have h5 := qpt h4
   simp only [hn, if_pos h2, h3]
   rw [if_pos (by rw [h5]; exact beq_self_eq_true n)]
  ·rename_i id rows
   obtain ⟨h2, h⟩ := qc h
   rw [qpo, qR, yk] at h2
   obtain ⟨row, h3, h⟩ := qe h
   obtain ⟨h4, hz⟩ := qc h
   refine ⟨.rpt id row 0, ?_, hz⟩
   have h5 := qpt h4
   simp only [hn, if_pos h2, h3]
   rw [if_pos (by rw [h5]; exact beq_self_eq_true n)]
  ·cases h
 ·rename_i m e ht
  rw [ht]
  split at h
  case h_2 => cases h
  rename_i n hn
  split at h
  ·obtain ⟨h2, h⟩ := qc h
   rw [qpo, qR, yk] at h2
   exact ⟨_, by simp [hn, h2.1, h2.2], h⟩
  ·obtain ⟨h2, h⟩ := qc h
   rw [qpo, qR, yk] at h2
   exact ⟨_, by simp [hn, h2.1, h2.2], h⟩
  ·cases h
 ·cases h
theorem qnB {cfg : Cfg} {t : TypeId} {ti : TI} (h : cfg.ty t = some ti) : cfg.sz t = some ti.sz ∧ cfg.td t = some ti.d := by
 unfold Cfg.sz Cfg.td; rw [h]; exact ⟨rfl, rfl⟩
theorem qjb {cfg : Cfg} {t : TypeId} {x i : AV} {k : KV α} (h : qhV cfg t x i k = some r) : ∃ v, qbz cfg t x i = some v ∧ k v = some r := by
 unfold qhV at h
 unfold qbz
 split at h
 case h_2 => cases h
 rename_i kk i
 split at h
 ·rename_i n e ht
  rw [ht]
  split at h
  case h_2 => cases h
  rename_i ti hti
  obtain ⟨cs, rfl, h⟩ := qaW h
  obtain ⟨h2, h⟩ := qc h
  rw [qpo, qR, yk] at h2
  obtain ⟨v, h3, h⟩ := xk h
  refine ⟨v, ?_, h⟩
  simp only [(qnB hti).1]
  rw [if_pos h2]
  unfold qdx
  rw [hti]
  exact h3
 ·rename_i ht
  rw [ht]
  obtain ⟨s, rfl, h⟩ := yl h
  obtain ⟨h2, h⟩ := qc h
  rw [qR] at h2
  obtain ⟨b, h3, h⟩ := qe h
  exact ⟨_, by simp [h2, h3], h⟩
 ·cases h
theorem qjc {cfg : Cfg} {t : TypeId} {x : AV} {f : Nat} {k : KV α} (h : qhW cfg t x f k = some r) : ∃ v, qbA cfg t x f = some v ∧ k v = some r := by
 unfold qhW at h
 unfold qbA
 split at h
 case h_2 => cases h
 rename_i fs ht
 rw [ht]
 split at h
 case h_2 => cases h
 rename_i off ft hf
 split at h
 case h_2 => cases h
 rename_i ti hti
 obtain ⟨cs, rfl, h⟩ := qaW h
 obtain ⟨v, h3, h⟩ := xk h
 refine ⟨v, ?_, h⟩
 simp only [hf]
 unfold qdx
 rw [hti]
 exact h3
theorem qfg {cfg : Cfg} {t : TypeId} {x : AV} {f : Nat} {k : KV α} (h : qbW cfg t x f k = some r) : ∃ v, yA cfg t x f = some v ∧ k v = some r := by
 unfold qbW at h
 unfold yA
 split at h
 case h_2 => cases h
 rename_i fs ht
 rw [ht]
 simp only
 split at h
 case h_2 => cases h
 rename_i off ft hf
 simp only [hf]
 split at h
 case h_2 => cases h
 rename_i n hn
 split at h
 ·exact ⟨_, by simp only [hn], h⟩
 ·exact ⟨_, by simp only [hn], h⟩
 ·exact ⟨_, by simp only [hn], h⟩
 ·cases h
variable {α : Type} {r : α} {H : AH}
theorem qhP {n : Nat} {x : AV} {k : List (List AV) → Option α} (h : qf6 H n x k = some r) : ∃ rows, vU H n x = some rows ∧ k rows = some r := by
 unfold qf6 at h
 unfold vU
 split at h
 ·exact ⟨_, rfl, h⟩
 ·exact ⟨_, rfl, h⟩
 ·obtain ⟨h1, hz⟩ := qc h
  exact ⟨_, by simp only [h1, if_true], hz⟩
 ·obtain ⟨sz, rs, h1, h⟩ := yX h
  obtain ⟨h2, hz⟩ := qc h
  rw [qpo] at h2
  refine ⟨_, ?_, hz⟩
  simp only [h1]
  rw [if_pos]
  rw [qpo, beq_iff_eq]
  exact ⟨qpt h2.1, h2.2⟩
 ·cases h
theorem qgr {b : Bool} {n : Nat} {x : AV} {k : List (List AV) → Option α} (h : kSrc b H n x k = some r) : ∃ rows, vQ H n x = some rows ∧ k rows = some r := by
 unfold kSrc at h
 rcases vR h with ⟨_, h⟩ | ⟨_, h⟩
 ·obtain ⟨s, rfl, h⟩ := yl h
  obtain ⟨h1, hz⟩ := qc h
  exact ⟨_, by simp only [vQ, h1, if_true], hz⟩
 ·obtain ⟨rows, h1, hz⟩ := qhP h
  refine ⟨rows, ?_, hz⟩
  unfold vQ
  split
  ·simp [vU] at h1
  ·exact h1
theorem qgI {cfg : Cfg} {nid : Option Nat} {s d : TypeId} {x : AV} {k : KH α} (h : qd9 cfg nid s d x H k = some r) : ∃ v H', xz cfg nid s d x H = some (v, H') ∧ k v H' = some r := by
 unfold qd9 at h
 unfold xz
 split at h
 ·rename_i hs hd
  split at h
  ·exact ⟨_, _, by simp only [hs, hd], h⟩
  ·cases h
 ·rename_i hs hd
  obtain ⟨b, rfl, hz⟩ := yl h
  exact ⟨_, _, by simp only [hs, hd], hz⟩
 ·rename_i e hs hd
  split at h
  ·rename_i hte
   obtain ⟨b, rfl, h0⟩ := yl h
   obtain ⟨i, H', h1, hz⟩ := vZ h0
   exact ⟨_, _, by simp only [hs, hd, hte, h1], hz⟩
  ·cases h
 ·rename_i e hs hd
  split at h
  ·rename_i hte
   obtain ⟨rows, h1, h⟩ := qe h
   obtain ⟨bs, h2, hz⟩ := qe h
   refine ⟨.str bs, H, ?_, hz⟩
   simp only [hs, hd]
   cases x <;> first | (simp only [hte, h1, h2]; done) | (simp [vU] at h1)
  ·cases h
 ·cases h
theorem qhY {cfg : Cfg} {nid : Option Nat} {t xt : TypeId} {s x : AV} {k : KH α} (h : qf8 cfg nid t xt s x H k = some r) : ∃ v H', y0 cfg nid t xt s x H = some (v, H') ∧ k v H' = some r := by
 unfold qf8 at h
 unfold y0
 split at h
 case h_2 => cases h
 rename_i e xd ht hxt
 split at h
 case h_2 => cases h
 rename_i ei hei
 obtain ⟨h1, h⟩ := qc h
 obtain ⟨news, h2, h⟩ := qgr h
 simp only [ht, hxt, hei, h1, if_true, h2]
 split at h
 ·rcases vR h with ⟨h3, hz⟩ | ⟨h3, h⟩
  ·exact ⟨_, _, by simp only [h3, if_true], hz⟩
  ·obtain ⟨h4, h⟩ := qc h
   obtain ⟨i, H', h5, hz⟩ := vZ h
   exact ⟨_, _, by simp only [h3, qpv, if_false, h4, if_true, h5], hz⟩
 ·obtain ⟨d, sz, rs, h3, h⟩ := qae h
  obtain ⟨h4, h⟩ := qc h
  obtain ⟨i, H', h5, hz⟩ := vZ h
  exact ⟨_, _, by simp only [h3, h4, if_true, h5], hz⟩
 ·cases h
theorem qlQ {cfg : Cfg} {t : TypeId} {x : AV} {k : KV α} (h : kLen cfg t x H k = some r) : ∃ v, aLen cfg t x H = some v ∧ k v = some r := by
 unfold kLen at h
 unfold aLen
 split at h
 ·rename_i ht
  obtain ⟨s, rfl, hz⟩ := yl h
  exact ⟨_, by simp only [ht], hz⟩
 ·rename_i e ht
  split at h
  ·exact ⟨_, by simp only [ht], h⟩
  ·exact ⟨_, by simp only [ht], h⟩
  ·exact ⟨_, by simp only [ht], h⟩
  ·exact ⟨_, by simp only [ht], h⟩
  ·exact ⟨_, by simp only [ht], h⟩
  ·exact ⟨_, by simp only [ht], h⟩
  ·cases h
 ·rename_i n e ht
  exact ⟨_, by simp only [ht], h⟩
 ·rename_i a b ht
  split at h
  ·exact ⟨_, by simp only [ht], h⟩
  ·obtain ⟨b, h1, h⟩ := qe h
   split at h
   ·exact ⟨_, by simp only [ht, h1], h⟩
   ·cases h
  ·cases h
 ·cases h
theorem qfa {cfg : Cfg} {nid : Option Nat} {t : TypeId} {l c : AV} {k : KH α} (h : qgX cfg nid t l c H k = some r) : ∃ v H', zC cfg nid t l c H = some (v, H') ∧ k v H' = some r := by
 unfold qgX at h
 unfold zC
 split at h
 case h_2 => cases h
 rename_i e ht
 split at h
 case h_2 => cases h
 rename_i ei hei
 obtain ⟨h1, h⟩ := qc h
 obtain ⟨n, rfl, ha⟩ := zK h
 obtain ⟨m, rfl, hb⟩ := zK ha
 obtain ⟨h2, hd⟩ := qc hb
 obtain ⟨i, H', h3, hz⟩ := vZ hd
 rw [qpo, qpo, qpo, qR, qR, qR, qR] at h2
 exact ⟨_, _, by simp only [ht, hei, h1, if_true]; rw [if_pos ⟨h2.1.1.1, h2.1.1.2, h2.1.2, h2.2⟩]; simp only [h3], hz⟩
theorem qja {cfg : Cfg} {nid : Option Nat} {t : TypeId} {l c : AV} {k : KH α} (h : qhS cfg nid t l c H k = some r) : ∃ v H', yK cfg nid t l c H = some (v, H') ∧ k v H' = some r := by
 unfold qhS at h
 unfold yK
 split at h
 ·rename_i hw
  rw [hw]
  exact qfa h
 ·rename_i hw
  rw [hw]
  split at h
  ·obtain ⟨h1, h⟩ := qc h
   obtain ⟨v, H', h2, h⟩ := qfa h
   split at h
   ·refine ⟨_, _, ?_, h⟩
    simp only
    rw [if_pos h1, h2]; rfl
   ·cases h
  ·cases h
theorem qlS {cfg : Cfg} {t : TypeId} {x : AV} {k : KV α} (h : kCap cfg t x k = some r) : ∃ v, aCap cfg t x = some v ∧ k v = some r := by
 unfold kCap at h
 unfold aCap
 split at h
 ·rename_i e ht
  split at h
  ·split at h
   ·exact ⟨_, by simp only [ht, AV.lenW, qpF], h⟩
   ·exact ⟨_, by simp only [ht, AV.lenW, qpF], h⟩
   ·cases h
  ·cases h
 ·cases h
theorem qmJ {v : AV} {k : Nat → List (List AV) → Option α} (h : kWr v k = some r) : ∃ n rows, v = .wr n (.sl rows) ∧ k n rows = some r := by
 unfold kWr at h
 split at h
 ·exact ⟨_, _, rfl, h⟩
 ·cases h
theorem qf7 {v : AV} {k : KV α} {cfg : Cfg} {nid : Option Nat} {a : Operand} {ty : TypeId} {x : Operand → AV} (hx : x a = v) (h : qcP v k = some r) : evOp cfg nid (.nilCheck a) ty x H = some (v, H) ∧ k v = some r := by
 unfold qcP at h
 simp only [evOp, hx]
 split at h <;> first | exact ⟨rfl, h⟩ | cases h
theorem qje {cfg : Cfg} {t : TypeId} {x : AV} {k : AH → Option α} (h : qhX cfg t x H k = some r) : ∃ H', qbB cfg t x H = some H' ∧ k H' = some r := by
 unfold qhX at h
 unfold qbB
 split at h
 case h_2 => cases h
 rename_i e he
 rw [he]
 split at h
 ·exact ⟨H, rfl, h⟩
 ·rename_i id off len
  split at h
  case h_2 => cases h
  rename_i ei hei
  obtain ⟨d, sz, rs, h1, h⟩ := qae h
  obtain ⟨h2, hz⟩ := qc h
  exact ⟨_, by simp only [hei, h1, h2, if_true], hz⟩
 ·cases h
theorem qkE {cfg : Cfg} {t xt : TypeId} {d s : AV} {k : KH α} (h : qkF cfg t xt d s H k = some r) : ∃ v H', qdy cfg t d s H = some (v, H') ∧ k v H' = some r := by
 unfold qkF at h
 unfold qdy
 split at h
 case h_2 => cases h
 rename_i e he
 rw [he]
 split at h
 case h_2 => cases h
 rename_i id off len
 split at h
 case h_2 => cases h
 rename_i n hn
 obtain ⟨db, sz, rs, h1, h⟩ := qae h
 obtain ⟨news, h2, h⟩ := qgr h
 obtain ⟨h3, hz⟩ := qc h
 exact ⟨_, _, by simp only [hn, h1, h2, h3, if_true], hz⟩
theorem qhR {cfg : Cfg} {nid : Option Nat} {o : Op} {ty : TypeId} {x : Operand → AV} {k : KH α} (h : kOp cfg nid o ty x H k = some r) : ∃ v H', evOp cfg nid o ty x H = some (v, H') ∧ k v H' = some r := by
 cases o with
 | move a => exact ⟨_, _, rfl, h⟩
 | assign a => exact ⟨_, _, rfl, h⟩
 | pick c a b =>
  simp only [kOp] at h
  obtain ⟨t, h1, h⟩ := qad h
  have := qkz (k := fun v => k v H) h
  exact ⟨_, _, by simp only [evOp, h1], this⟩
 | alloc t =>
  simp only [kOp] at h
  split at h
  ·rename_i ti hti
   obtain ⟨h1, h⟩ := qc h
   obtain ⟨i, H', h2, hz⟩ := vZ h
   exact ⟨_, _, by simp only [evOp, hti, h1, if_true, h2], hz⟩
  ·cases h
 | box t a =>
  simp only [kOp] at h
  obtain ⟨cs, h1, h⟩ := yP h
  obtain ⟨i, H', h2, hz⟩ := vZ h
  exact ⟨_, _, by simp only [evOp, h1, h2], hz⟩
 | build t parts =>
  simp only [kOp] at h
  split at h
  case h_2 => cases h
  rename_i ti hti
  obtain ⟨h1, h⟩ := qc h
  split at h
  ·rename_i fs hfs
   split at h
   case h_2 => cases h
   rename_i ps hps
   obtain ⟨qs, h2, h3⟩ := qeV hps
   obtain ⟨cs, h4, hz⟩ := qbV (place' := fun i => qs[i]?) (fun i off n g hi => h3 i off n g hi) h
   exact ⟨_, _, by simp only [evOp, hti, h1, if_true, hfs, h2, h4, qpF], hz⟩
  ·rename_i m e hfs
   split at h
   case h_2 => cases h
   rename_i n hn
   obtain ⟨cs, h4, hz⟩ := qbV (place' := fun i => some (i * n, n)) (fun i off m g hi => by cases hi; rfl) h
   exact ⟨_, _, by simp only [evOp, hti, h1, if_true, hfs, hn, h4, qpF], hz⟩
  ·cases h
 | buildSlice t len parts =>
  simp only [kOp] at h
  split at h
  case h_2 => cases h
  rename_i e ht
  split at h
  case h_2 => cases h
  rename_i ei hei
  obtain ⟨h1, h⟩ := qc h
  obtain ⟨rows, h2, h⟩ := qe8 h
  obtain ⟨i, H', h3, hz⟩ := vZ h
  exact ⟨_, _, by simp only [evOp, ht, hei, h1, if_true, h2, h3], hz⟩
 | load t a =>
  simp only [kOp] at h
  split at h
  case h_2 => cases h
  rename_i ti hti
  split at h
  ·rename_i cs off hx
   obtain ⟨v, h1, h⟩ := xk h
   have h2 := qD (k := fun v => cond ti.d.agg (k v.lendA H) (k v.lend H)) h
   rcases vR h2 with ⟨ha, h2⟩ | ⟨ha, h2⟩
   ·rw [ha] at h1
    simp only [if_true] at h1
    split at h1
    ·rename_i hb
     cases h1
     refine ⟨_, _, ?_, h2⟩
     simp only [evOp, hti, hx, xR, ha, if_true, hb, qpF, AV.lendA]
    ·cases h1
   ·rw [ha] at h1
    simp only [qpv, if_false] at h1
    refine ⟨_, _, ?_, h2⟩
    simp only [evOp, hti, hx, xR, ha, qpv, if_false, h1, qpF]
  ·rename_i id cs off hx
   obtain ⟨b, hb0, h⟩ := qe h
   split at h
   ·obtain ⟨v, h1, h⟩ := xk h
    have h2 := qD (k := fun v => cond ti.d.agg (k (v.regA id) H) (k (v.regn id) H)) h
    rcases vR h2 with ⟨ha, h2⟩ | ⟨ha, h2⟩
    ·rw [ha] at h1
     simp only [if_true] at h1
     split at h1
     ·rename_i hb
      cases h1
      refine ⟨_, _, ?_, h2⟩
      simp only [evOp, hti, hx, xR, hb0, ha, if_true, hb, qpF, AV.regA]
     ·cases h1
    ·rw [ha] at h1
     simp only [qpv, if_false] at h1
     refine ⟨_, _, ?_, h2⟩
     simp only [evOp, hti, hx, xR, hb0, ha, qpv, if_false, h1, qpF]
   ·obtain ⟨v, h1, h⟩ := qbP h
    exact ⟨_, _, by simp only [evOp, hti, hx, h1, qpF], h⟩
  ·obtain ⟨v, h1, h⟩ := qbP h
   exact ⟨_, _, by simp only [evOp, hti, h1, qpF], qD (k := fun v => k v H) h⟩
 | store t a v =>
  simp only [kOp] at h
  split at h
  case h_2 => cases h
  rename_i ti hti
  obtain ⟨H', h1, hz⟩ := qi8 h
  exact ⟨_, _, by simp only [evOp, (qnB hti).1, h1, qpF], hz⟩
 | nilCheck a =>
  obtain ⟨h1, h2⟩ := qf7 (cfg := cfg) (nid := nid) (ty := ty) (H := H) (x := x) (a := a) (k := fun v => k v H) rfl h
  exact ⟨_, _, h1, h2⟩
 | binOp op t a b yt =>
  simp only [kOp] at h
  obtain ⟨v, h1, h⟩ := qe h
  exact ⟨_, _, by simp only [evOp, h1, qpF], qD (k := fun v => k v H) h⟩
 | unOp op t a =>
  simp only [kOp] at h
  obtain ⟨v, h1, h⟩ := qe h
  exact ⟨_, _, by simp only [evOp, h1, qpF], qD (k := fun v => k v H) h⟩
 | convert s d a => exact qgI h
 | makeFunc f first caps => exact ⟨_, _, rfl, h⟩
 | makeSlice t l c => exact qja h
 | slice t a lo hi mx =>
  simp only [kOp] at h
  obtain ⟨v, h1, hz⟩ := qi9 h
  exact ⟨_, _, by simp only [evOp, h1, qpF], hz⟩
 | fieldAddr t a f =>
  simp only [kOp] at h
  obtain ⟨v, h1, hz⟩ := qfg h
  exact ⟨_, _, by simp only [evOp, h1, qpF], hz⟩
 | field t a f =>
  simp only [kOp] at h
  obtain ⟨v, h1, h⟩ := qjc h
  exact ⟨_, _, by simp only [evOp, h1, qpF], qD (k := fun v => k v H) h⟩
 | indexAddr t a i =>
  simp only [kOp] at h
  obtain ⟨v, h1, hz⟩ := qfc h
  exact ⟨_, _, by simp only [evOp, h1, qpF], hz⟩
 | index t a i =>
  simp only [kOp] at h
  obtain ⟨v, h1, h⟩ := qjb h
  exact ⟨_, _, by simp only [evOp, h1, qpF], qD (k := fun v => k v H) h⟩
 | extract t i =>
  simp only [kOp] at h
  split at h
  ·rename_i vs hvs
   obtain ⟨v, h1, h⟩ := qe h
   exact ⟨_, _, by simp only [evOp, hvs, h1, qpF], qD (k := fun v => k v H) h⟩
  ·cases h
 | call c =>
  simp only [kOp] at h
  obtain ⟨callee, args, argTypes⟩ := c
  simp only at h
  simp only [evOp]
  split at h
  case h_2 => cases h
  generalize args.toList = al at *
  generalize argTypes.toList = tl at *
  split at h
  ·obtain ⟨v, h1, hz⟩ := qlQ h
   exact ⟨_, _, by simp only [h1, qpF], hz⟩
  ·obtain ⟨v, h1, hz⟩ := qlS h
   exact ⟨_, _, by simp only [h1, qpF], hz⟩
  ·exact qhY h
  ·rename_i d s t xt
   obtain ⟨v, H', h1, hz⟩ := qkE h
   exact ⟨_, _, h1, hz⟩
  ·obtain ⟨v, h1, hz⟩ := qje h
   exact ⟨_, _, by simp only [h1, qpF], hz⟩
  ·obtain ⟨v, h1, h⟩ := qe h
   exact ⟨_, _, by simp only [h1, qpF], qD (k := fun v => k v H) h⟩
  ·obtain ⟨v, h1, h⟩ := qe h
   exact ⟨_, _, by simp only [h1, qpF], qD (k := fun v => k v H) h⟩
  ·cases h
 | _ => simp only [kOp] at h; cases h
def KfOk (cf : Orac) (kf : KF α) : Prop := ∀ t a H k r, kf t a H k = some r → ∃ q, cf t a H = some q ∧ k q = some r
theorem qbY {cf : Orac} {f : Nat} : ∀ {l : List AV} {k : Option α}, qfj cf f l k = some r → x7 cf f l = some () ∧ k = some r
 | [], _, h => ⟨rfl, h⟩
 | a :: l, k, h => by
  rw [qfj] at h
  obtain ⟨u, h1, h⟩ := qe h
  obtain ⟨h2, hz⟩ := qbY h
  refine ⟨?_, hz⟩
  unfold EVz at h1
  obtain ⟨q, h3, h4⟩ := qpp.1 h1
  rw [x7, h3]
  simp only [qpy, h4, h2]
theorem qkH {cfg : Cfg} {cf : Orac} {kf : KF α} (hkf : KfOk cf kf) {nid : Option Nat} {ty : TypeId} {t : Tgt} {args : List AV} {k : KH α} (h : qdq cfg cf kf nid ty t args H k = some r) : ∃ v H', qy cfg cf nid t args H = some (v, H') ∧ k v H' = some r := by
 cases t with
 | y id =>
  simp only [qdq] at h
  obtain ⟨q, h1, h⟩ := hkf _ _ _ _ _ h
  obtain ⟨p, h2, h⟩ := qe h
  exact ⟨_, _, by simp only [qy, h1, qpy]; exact h2, qD (k := fun v => k v p.2) h⟩
 | f f =>
  simp only [qdq] at h
  cases hm : cfg.mode f with
  | scal =>
   simp only [hm] at h
   obtain ⟨h1, h⟩ := qc (qfi h)
   split at h
   ·obtain ⟨q, h5, h⟩ := hkf _ _ _ _ _ h
    have h3 := qD (k := fun v => cond v.scalar (k v H) none) h
    obtain ⟨h4, hz⟩ := qc h3
    exact ⟨q.1, H, by simp only [qy, hm, h1, if_true, h5, qpy, h4], hz⟩
   obtain ⟨v, h2, h⟩ := qe h
   have h3 := qD (k := fun v => cond v.scalar (k v H) none) h
   obtain ⟨h4, hz⟩ := qc h3
   unfold EVs at h2
   obtain ⟨q, h5, h6⟩ := qpq.1 h2
   exact ⟨v, H, by simp only [qy, hm, h1, if_true, h5, qpy, h6, h4], hz⟩
  | pfrz =>
   simp only [hm] at h
   obtain ⟨h1, h⟩ := qc h
   split at h
   ·obtain ⟨q, h5, h⟩ := hkf _ _ _ _ _ h
    have h2 := qgs (k := fun v => kTy qaY cfg ty v fun v => cond (v.refsLt 0) (k v H) none) h
    have h3 := qD (k := fun v => cond (v.refsLt 0) (k v H) none) h2
    obtain ⟨h4, hz⟩ := qc h3
    exact ⟨_, H, by simp only [qy, hm, h1, if_true, h5, qpy, h4], hz⟩
   obtain ⟨v, h2, h⟩ := qe h
   have h3 := qD (k := fun v => cond (v.refsLt 0) (k v H) none) h
   obtain ⟨h4, hz⟩ := qc h3
   unfold EVf at h2
   obtain ⟨q, h5, h6⟩ := qpq.1 h2
   exact ⟨v, H, by simp only [qy, hm, h1, if_true, h5, qpy, h6, h4], hz⟩
  | pown =>
   simp only [hm] at h
   split at h
   ·rename_i t1 t2 _
    obtain ⟨h1, h⟩ := qc h
    obtain ⟨q, h2, h⟩ := qe h
    obtain ⟨p, h5, h6⟩ := qpp.1 h2
    unfold qnC at h6
    split at h6
    case h_2 => cases h6
    rename_i a sc hp
    obtain ⟨h7, h6⟩ := qc h6
    split at h6
    case h_2 => cases h6
    rename_i o ho
    cases h6
    have h := qcL (k := fun s => kOwn o (k (.tup [.nilS, s]) H) fun sz rs off len => kNew nid H (.rows true sz rs) fun i H' => k (.tup [.ms i off len, s]) H') h
    unfold ovOf at ho
    split at ho
    ·rename_i hq
     cases ho
     refine ⟨.tup [.nilS, sc], H, ?_, h⟩
     have hq : a = .nilS := hq
     simp only [qy, hm, h1, if_true, h5, qpy, qaw, hp, h7, hq, xJ, AV.refsLt, qpF]
    ·rename_i id off len hq
     split at ho
     case h_2 => cases ho
     rename_i sz rs hid
     split at ho
     case isFalse => cases ho
     rename_i hr
     cases ho
     simp only [kOwn] at h
     obtain ⟨i, H', h8, hz⟩ := vZ h
     have hq : a = .ms id off len := hq
     refine ⟨_, _, ?_, hz⟩
     simp only [qy, hm, h1, if_true, h5, qpy, qaw, hp, h7, hq, xJ, hid, hr, h8, qpF]
    ·cases ho
   ·obtain ⟨h1, h⟩ := qc h
    have key : ∃ q o, cf (.f f) args [] = some q ∧ ovOf q = some o ∧ (kOwn o (k .nilS H) fun sz rs off len => kNew nid H (.rows true sz rs) fun i H' => k (.ms i off len) H') = some r := by
     split at h
     ·obtain ⟨q, h5, h⟩ := hkf _ _ _ _ _ h
      obtain ⟨o, h6, h⟩ := qe h
      exact ⟨q, o, h5, h6, h⟩
     ·obtain ⟨o, h2, h⟩ := qe h
      unfold EVo at h2
      obtain ⟨q, h5, h6⟩ := qpp.1 h2
      exact ⟨q, o, h5, h6, h⟩
    obtain ⟨q, o, h5, h6, h⟩ := key
    unfold ovOf at h6
    split at h6
    ·rename_i hq
     cases h6
     exact ⟨.nilS, H, by simp only [qy, hm, h1, if_true, h5, qpy, qaw, xJ, hq, AV.refsLt], h⟩
    ·rename_i id off len hq
     split at h6
     case h_2 => cases h6
     rename_i sz rs hid
     split at h6
     case isFalse => cases h6
     rename_i hr
     cases h6
     simp only [kOwn] at h
     obtain ⟨i, H', h7, hz⟩ := vZ h
     exact ⟨_, _, by simp only [qy, hm, h1, if_true, h5, qpy, qaw, xJ, hq, hid, hr, h7], hz⟩
    ·cases h6
  | inpl =>
   simp only [hm] at h
   have res : ∀ (kd : Nat) (ik : IntKind) (id : Nat) (v : MV) (k : KV α), qgY kd ik id v k = some r → k (v.av id) = some r := by
    intro kd ik id v k h
    unfold qgY at h
    split at h
    ·cases v <;> first | exact h | exact absurd h (by simp [qhT])
    ·cases v <;> first | exact h | exact absurd h (by simp [kMSl])
    ·cases v with
     | int q n =>
      obtain ⟨h1, h2⟩ := qc h
      rw [← qcJ h1] at h2
      exact h2
     | _ => exact absurd h (by simp [qgZ])
    ·cases v <;> first | exact h | exact absurd h (by simp [qhU])
   split at h
   case h_2 =>
    rename_i hids
    obtain ⟨h1, h⟩ := qc h
    obtain ⟨v1, h2, h⟩ := qe h
    unfold EVu at h2
    obtain ⟨r1, h5, h6⟩ := qpp.1 h2
    split at h6
    case isFalse => cases h6
    rename_i hrf
    have hav : r1.1 = v1.av 0 := by
     unfold mvOf at h6
     split at h6
     ·rename_i e; cases h6; rw [e]; rfl
     ·rename_i e; cases h6; rw [e]; rfl
     ·rename_i i off len e
      rw [e] at hrf
      simp [AV.refsLt, qpP] at hrf
     ·rename_i e; cases h6; rw [e]; rfl
     ·rename_i e; cases h6; rw [e]; rfl
     ·cases h6
    refine ⟨v1.av 0, H, ?_, res _ _ _ _ (fun v => k v H) h⟩
    simp only [qy, hm, hids, h1, if_true, h5, qpy, hrf]
    rw [hav]
   rename_i id l hids
   obtain ⟨h1, h⟩ := qc h
   obtain ⟨b, h2, h⟩ := qe h
   split at h
   case h_2 => cases h
   rename_i d sz rs
   obtain ⟨h3, h⟩ := qc h
   obtain ⟨q, h4, h⟩ := qe h
   unfold EVm at h4
   obtain ⟨r1, h5, h6⟩ := qpp.1 h4
   obtain ⟨q1, h7, h8⟩ := qpp.1 h6
   obtain ⟨v1, h9, h10⟩ := qpq.1 h8
   cases h10
   have hav : q1.1.ren (fun _ => id) = v1.av id := by
    unfold mvOf at h9
    split at h9
    ·rename_i e; cases h9; rw [e]; simp [AV.ren, renL, MV.av]
    ·rename_i e; cases h9; rw [e]; simp [AV.ren, MV.av]
    ·rename_i i off len e
     split at h9
     ·cases h9; rw [e]; simp [AV.ren, MV.av]
     ·cases h9
    ·rename_i e; cases h9; rw [e]; simp [AV.ren, MV.av]
    ·rename_i e; cases h9; rw [e]; simp [AV.ren, MV.av]
    ·cases h9
   have hk : k (v1.av id) (H.set id (.rows true sz q1.2)) = some r := res _ _ _ _ (fun v => k v (H.set id (.rows true sz q1.2))) h
   refine ⟨v1.av id, _, ?_, hk⟩
   simp only [qy, hm, hids, h1, if_true, h2, h3, h5, qpy, h7, qpF, hav]
  | inpf =>
   simp only [hm] at h
   split at h
   case h_2 => cases h
   rename_i id l hids
   obtain ⟨h1, h⟩ := qc h
   obtain ⟨b, h2, h⟩ := qe h
   split at h
   case h_2 => cases h
   rename_i d sz rs
   obtain ⟨h3, h⟩ := qc h
   obtain ⟨q, h4, h⟩ := qe h
   unfold EVd at h4
   obtain ⟨r1, h5, h6⟩ := qpp.1 h4
   have hk := qD (k := fun v => k v (H.set id (.rows true sz q.2))) h
   refine ⟨q.1, _, ?_, hk⟩
   simp only [qy, hm, hids, h1, if_true, h2, h3, h5, qpy, h6, qpF]
  | slf =>
   simp only [hm] at h
   split at h
   case h_2 => cases h
   rename_i id l hids
   obtain ⟨h1, h⟩ := qc h
   obtain ⟨b, h2, h⟩ := qe h
   split at h
   case h_2 => cases h
   rename_i d sz rs
   obtain ⟨h3, h⟩ := qc h
   obtain ⟨q, h4, h⟩ := qe h
   have h4 := qnp h4
   unfold EVx at h4
   obtain ⟨r1, h5, h6⟩ := qpp.1 h4
   have hk := qD (k := fun v => k v (H.set id (.rows false sz (renR (fun _ => id) (renR (fun _ => 0) rs))))) h
   refine ⟨q, _, ?_, hk⟩
   simp only [qy, hm, hids, h1, if_true, h2, h3, h5, qpy, h6, qpF]
  | wfrz =>
   simp only [hm] at h
   obtain ⟨h1, h⟩ := qc h
   obtain ⟨v, h2, h⟩ := qe h
   unfold EVw at h2
   obtain ⟨q, h5, h6⟩ := qpq.1 h2
   split at h
   ·obtain ⟨n, rows, rfl, hz⟩ := qmJ h
    exact ⟨_, H, by simp only [qy, hm, h1, if_true, h5, qpy, h6]; rfl, hz⟩
   ·have h3 := qD (k := fun v => cond (v.refsLt 0) (k v H) none) h
    obtain ⟨h4, hz⟩ := qc h3
    exact ⟨v, H, by simp only [qy, hm, h1, if_true, h5, qpy, h6, h4], hz⟩
  | nfrz =>
   simp only [hm] at h
   obtain ⟨h1, h⟩ := qc h
   obtain ⟨V, h2, h⟩ := qe h
   have h3 := qD (k := fun V => k V.lendT H) h
   unfold EVn at h2
   obtain ⟨q, h5, h6⟩ := qpp.1 h2
   exact ⟨_, _, by simp only [qy, hm, h1, if_true, h5, qpy, h6, qpF], h3⟩
  | rgn =>
   simp only [hm] at h
   obtain ⟨h1, h⟩ := qc h
   obtain ⟨V, h2, h⟩ := qe h
   have h3 := qD (k := fun V => kNew nid H .reg fun i H' => k (rgIn i V) H') h
   obtain ⟨i, H', h4, hz⟩ := vZ h3
   unfold EVg at h2
   obtain ⟨q, h5, h6⟩ := qpp.1 h2
   exact ⟨_, _, by simp only [qy, hm, h1, if_true, h5, qpy, h6, h4, qpF], hz⟩
  | bld =>
   simp only [hm] at h
   split at h
   case h_2 => cases h
   rename_i id l hids
   obtain ⟨h1, h⟩ := qc h
   obtain ⟨b, h2, h⟩ := qe h
   split at h
   case h_2 => cases h
   rename_i T e s
   obtain ⟨q, h4, h⟩ := qe h
   unfold EVb at h4
   obtain ⟨r1, h5, h6⟩ := qpp.1 h4
   have hk := qD (k := fun v => k v (H.set id (.bld T e q.2))) h
   refine ⟨_, _, ?_, hk⟩
   simp only [qy, hm, hids, h1, if_true, h2, h5, qpy, h6, qpF]
  | over =>
   simp only [hm] at h
   split at h
   case h_2 => cases h
   rename_i a
   split at h
   case h_2 => cases h
   rename_i id l hids
   obtain ⟨h1, h⟩ := qc h
   obtain ⟨b, h2, h⟩ := qe h
   split at h
   ·obtain ⟨h3, hz⟩ := qbY h
    exact ⟨_, _, by simp only [qy, hm, hids, h1, if_true, h2, h3, qpF], hz⟩
   ·obtain ⟨h3, hz⟩ := qbY h
    exact ⟨_, _, by simp only [qy, hm, hids, h1, if_true, h2, h3, qpF], hz⟩
   ·cases h
  | imp =>
   simp only [hm] at h
   obtain ⟨q, h1, h⟩ := hkf _ _ _ _ _ h
   obtain ⟨p, h2, h⟩ := qe h
   exact ⟨_, _, by simp only [qy, hm, h1, qpy]; exact h2, qD (k := fun v => k v p.2) h⟩
  | sub =>
   simp only [hm] at h
   obtain ⟨s, h0, h⟩ := qe h
   obtain ⟨q, h1, h⟩ := hkf _ _ _ _ _ h
   obtain ⟨p, h2, h⟩ := qe h
   obtain ⟨p2, h3, h⟩ := qe h
   exact ⟨_, _, by simp only [qy, hm, h0, h1, h2, h3, qpy, qpF], qD (k := fun v => k v (xS p2.2 (s.1 ++ p2.1) p.2)) h⟩
  | ifrz =>
   simp only [hm] at h
   obtain ⟨q, h1, h⟩ := hkf _ _ _ _ _ h
   obtain ⟨p, h2, h⟩ := qe h
   exact ⟨_, _, by simp only [qy, hm, h1, qpy]; exact h2, qD (k := fun v => k v p.2) h⟩
theorem qlO {f : AV} {args : List AV} {k : Tgt → List AV → Option α} (h : kTgt f args k = some r) : ∃ t, xA f args = some t ∧ k t.1 t.2 = some r := by
 unfold kTgt at h
 unfold xA
 split at h
 ·exact ⟨_, rfl, h⟩
 ·exact ⟨_, rfl, h⟩
 ·cases h
theorem qlR {ids : List Nat} {v : AV} {k : KV α} (hi : ∀ id ∈ v.msIds, id ∈ ids) (h : qkB H v k = some r) : k (v.frz ids H) = some r := by
 unfold qkB at h
 split at h
 ·rename_i cs
  have := zL (ids := ids) (fun v hv id off len e => hi id (qaT hv e)) h
  simpa [AV.frz, Function.comp_def] using this
 ·rename_i cs
  have := zL (k := fun cs => k (.tup cs)) (ids := ids) (fun v hv id off len e => hi id (qaT hv e)) h
  simpa [AV.frz, Function.comp_def] using this
 ·rename_i h1 h2
  have h4 := (ze h).1 ids (fun id off len e => hi id (by subst e; simp [AV.msIds, AV.msId])) rfl
  have e1 : v.frz ids H = v.frz1 ids H := by
   cases v <;> first | rfl | exact absurd rfl (h1 _) | exact absurd rfl (h2 _)
  rw [e1]; exact h4
theorem qbS {ids : List Nat} : ∀ {l : List AV} {k : List AV → Option α}, (∀ v ∈ l, ∀ id ∈ v.msIds, id ∈ ids) → qcQ H l k = some r → k (l.map fun v => v.frz ids H) = some r
 | [], k, _, h => h
 | a :: l, k, hi, h => by
  rw [qcQ] at h
  have h1 := qlR (ids := ids) (hi a (by simp)) h
  exact qbS (k := fun l => k (a.frz ids H :: l)) (fun v hv => hi v (by simp [hv])) h1
theorem qnX {a b : Operand} (h : opEq a b = true) : a = b := by
 cases a <;> cases b <;> simp_all [opEq]
theorem qjD {y : Operand → AV} (a : Operand) : ∀ l : List Operand, frzX l (l.map y) y a = y a
 | [] => rfl
 | b :: l => by
  rw [List.map_cons, frzX]
  cases hb : opEq b a with
  | true => rw [cond_true, qnX hb]
  | false => rw [cond_false]; exact qjD a l
theorem qfd {cfg : Cfg} {nid : Option Nat} {o : Oper} {x : Operand → AV} {k : KH α} (h : qg0 cfg nid o x H k = some r) :
  kOp cfg nid o.op o.type (fun a => (x a).frz (o.op.operands.toList.flatMap fun a => (x a).msIds) H) (qu (o.op.operands.toList.flatMap fun a => (x a).msIds) H) k = some r := by
 unfold qg0 at h
 have h1 := qbS (ids := o.op.operands.toList.flatMap fun a => (x a).msIds) (fun v hv id hid => by
  obtain ⟨a, ha, rfl⟩ := List.mem_map.1 hv
  exact List.mem_flatMap.2 ⟨a, ha, hid⟩) h
 rw [List.map_map] at h1
 have e : frzX o.op.operands.toList (o.op.operands.toList.map ((fun v => v.frz (o.op.operands.toList.flatMap fun a => (x a).msIds) H) ∘ x)) (fun a => (x a).frz (o.op.operands.toList.flatMap fun a => (x a).msIds) H) = fun a => (x a).frz (o.op.operands.toList.flatMap fun a => (x a).msIds) H := funext fun a => qjD a _
 rw [e] at h1
 exact h1
theorem qe9 {cfg : Cfg} {cf : Orac} {kf : KF α} (hkf : KfOk cf kf) {frz : Bool} {nid : Option Nat} {o : Oper} {x : Operand → AV} {k : KH α} (h : qgW cfg cf kf frz nid o x H k = some r) : ∃ v H', qK cfg cf frz nid o x H = some (v, H') ∧ k v H' = some r := by
 have core : ∀ {x : Operand → AV} {H : AH}, (match o.op with
   | .call c =>
    match c.callee with
    | .value f => kTgt (x f) (c.args.toList.map x) fun t al => qdq cfg cf kf nid o.type t al H k
    | _ => kOp cfg nid o.op o.type x H k
   | _ => kOp cfg nid o.op o.type x H k) = some r → ∃ v H', (match o.op with
    | .call c =>
     match c.callee with
     | .value f => (xA (x f) (c.args.toList.map x)).bind fun t => qy cfg cf nid t.1 t.2 H
     | _ => evOp cfg nid o.op o.type x H
    | _ => evOp cfg nid o.op o.type x H) = some (v, H') ∧ k v H' = some r := by
  intro x H h
  cases ho : o.op with
  | call c =>
   simp only [ho] at h ⊢
   cases hc : c.callee with
   | value f =>
    simp only [hc] at h ⊢
    obtain ⟨t, h1, h⟩ := qlO h
    obtain ⟨v, H', h2, hz⟩ := qkH hkf h
    exact ⟨v, H', by rw [h1]; exact h2, hz⟩
   | _ => simp only [hc] at h ⊢; exact qhR h
  | _ => simp only [ho] at h ⊢; exact qhR h
 unfold qgW at h
 unfold qK
 cases frz with
 | true =>
  simp only [cond_true] at h
  simp only [if_true]
  refine core (x := fun a => (x a).frz (o.op.operands.toList.flatMap fun a => (x a).msIds) H) (H := qu (o.op.operands.toList.flatMap fun a => (x a).msIds) H) ?_
  cases ho : o.op with
  | call c =>
   simp only [ho] at h ⊢
   cases hc : c.callee with
   | value f =>
    simp only [hc] at h ⊢
    have h1 := qbS (ids := (Op.call c).operands.toList.flatMap fun a => (x a).msIds) (fun v hv id hid => by
     obtain ⟨a, ha, rfl⟩ := List.mem_map.1 hv
     refine List.mem_flatMap.2 ⟨a, ?_, hid⟩
     simp [Op.operands, Call.operands, hc, Array.mem_toList_iff.1 ha]) h
    rw [List.map_map] at h1
    exact h1
   | _ => simp only [hc] at h ⊢; have h := qfd h; rw [ho] at h; exact h
  | _ => simp only [ho] at h ⊢; have h := qfd h; rw [ho] at h; exact h
 | false => simp only [cond_false] at h; simp only [qpv, if_false]; exact core h
theorem qd3 {fr : List AV} {d : Nat} {v : AV} (h : fr[d]? = some v) : fr.set d v = fr := by
 obtain ⟨hl, e⟩ := qpn.1 h
 rw [← e]; exact List.set_getElem_self hl
theorem qcK {ops : Array Oper} {fr : List AV} {o : Oper} {k : Bool → List AV → Option α} (h : qdo ops fr o k = some r) : ∃ b, xa ops fr o = some b ∧ k b fr = some r := by
 unfold qdo at h
 unfold xa
 split at h
 ·rename_i hg; rw [hg]; exact ⟨true, rfl, h⟩
 ·rename_i j want hg
  rw [hg]
  simp only
  split at h
  ·rename_i d hd
   rw [hd]
   simp only
   obtain ⟨v, h1, h⟩ := qe h
   rw [h1]
   split at h
   ·split at h
    ·exact ⟨false, rfl, h⟩
    ·cases h
   ·obtain ⟨b, rfl, h⟩ := qad h
    simp only
    refine ⟨_, rfl, ?_⟩
    rcases vR h with ⟨rfl, h⟩ | ⟨rfl, h⟩
    ·rw [qd3 h1] at h
     cases want <;> exact h
    ·rw [qd3 h1] at h
     cases want <;> exact h
  ·cases h
theorem qcN {cfg : Cfg} {cf : Orac} {kf : KF α} (hkf : KfOk cf kf) {f rid : Nat} {ops : Array Oper} : ∀ {l : List Oper} {n : Nat} {fr : List AV} {H : AH} {k : List AV → AH → Option α}, kOps cfg cf kf f rid ops n l fr H k = some r → ∃ q, yQ cfg cf f rid ops n l fr H = some q ∧ k q.1 q.2 = some r
 | [], n, fr, H, k, h => ⟨(fr, H), rfl, h⟩
 | o :: l, n, fr, H, k, h => by
  rw [kOps] at h
  obtain ⟨b, h1, h⟩ := qcK h
  rw [yQ, h1]
  simp only [qpy]
  rcases vR h with ⟨rfl, h⟩ | ⟨rfl, h⟩
  ·obtain ⟨v, H', h2, h⟩ := qe9 hkf h
   simp only [if_true, h2, qpy]
   exact qcN hkf h
  ·simp only [qpv, if_false]
   exact qcN hkf h
theorem qbX {cfg : Cfg} {cf : Orac} {kf : KF α} (hkf : KfOk cf kf) {f rid : Nat} {ops : Array Oper} : ∀ {l : List Oper} {n at_ : Nat} {fr : List AV} {H : AH} {k : List DR → List AV → AH → Option α}, qfh cfg cf kf f rid ops n at_ l fr H k = some r →
  ∃ q, xo cfg cf f rid ops n at_ l fr H = some q ∧ k q.1 q.2.1 q.2.2 = some r
 | [], n, at_, fr, H, k, h => ⟨([], fr, H), rfl, h⟩
 | o :: l, n, at_, fr, H, k, h => by
  rw [qfh] at h
  obtain ⟨b, h1, h⟩ := qcK h
  rw [xo, h1]
  simp only [qpy]
  rcases vR h with ⟨rfl, h9⟩ | ⟨rfl, h9⟩
  ·obtain ⟨v, H', h2, h8⟩ := qe9 hkf h9
   simp only [if_true, h2, qpy]
   obtain ⟨q, h3, hz⟩ := qbX hkf h8
   exact ⟨_, by rw [h3]; rfl, hz⟩
  ·simp only [qpv, if_false]
   obtain ⟨q, h3, hz⟩ := qbX hkf h9
   exact ⟨_, by rw [h3]; rfl, hz⟩
theorem qe6 {fr : List AV} {c : Operand} {b : Bool} (h : opd fr c = .bool b) : known fr c b = fr := by
 cases c with
 | tmp d =>
  simp only [known]
  have hg : fr[d]? = some (.bool b) := by
   have h' : fr.getD d .junk = .bool b := h
   rw [List.getD_eq_getElem?_getD] at h'
   cases hd : fr[d]? with
   | none => rw [hd] at h'; cases h'
   | some v => rw [hd] at h'; simp at h'; rw [h']
  exact qd3 hg
 | _ => rfl
theorem qac {cfg : Cfg} {cf : Orac} {kf : KF α} (hkf : KfOk cf kf) {f : Nat} {rd : Option Nat} {bs : Nat} : ∀ (c : Code) {fr : List AV} {H : AH} {k : KE α}, qY cfg cf kf f rd bs c fr H k = some r → ∃ q, evC cfg cf f rd bs c fr H = some q ∧ k q.1 q.2.1 q.2.2 = some r := by
 intro c
 induction c with
 | skip => intro fr H k h; exact ⟨(.normal, fr, H), by simp only [evC], by simpa only [qY] using h⟩
 | label l => intro fr H k h; exact ⟨(.normal, fr, H), by simp only [evC], by simpa only [qY] using h⟩
 | exit id => intro fr H k h; exact ⟨(.exit id, fr, H), by simp only [evC], by simpa only [qY] using h⟩
 | ret => intro fr H k h; exact ⟨(.ret, fr, H), by simp only [evC], by simpa only [qY] using h⟩
 | goto l => intro fr H k h; simp only [qY] at h; cases h
 | refuse s => intro fr H k h; simp only [qY] at h; cases h
 | region id ops draw =>
  intro fr H k h
  simp only [qY] at h
  simp only [evC]
  cases draw with
  | true =>
   simp only [cond_true] at h
   simp only [if_true]
   obtain ⟨h1, h⟩ := qc h
   obtain ⟨q, h2, h⟩ := qbX hkf h
   obtain ⟨h3, hz⟩ := qc h
   exact ⟨(.normal, q.2), by simp only [h1, if_true, h2, qpy, h3], hz⟩
  | false =>
   simp only [cond_false] at h
   simp only [qpv, if_false]
   obtain ⟨q, h2, hz⟩ := qcN hkf h
   exact ⟨(.normal, q), by simp only [h2, qpF], hz⟩
 | seq x y ihx ihy =>
  intro fr H k h
  simp only [qY] at h
  simp only [evC]
  obtain ⟨q, h1, h⟩ := ihx h
  rw [h1]
  simp only [qpy]
  unfold kSeq at h
  cases hq : q.1 with
  | normal => simp only [hq] at h ⊢; exact ihy (qjd h)
  | exit id => simp only [hq] at h ⊢; exact ⟨_, rfl, h⟩
  | goto l => simp only [hq] at h ⊢; exact ⟨_, rfl, h⟩
  | ret => simp only [hq] at h ⊢; exact ⟨_, rfl, h⟩
 | cond cnd x y ihx ihy =>
  intro fr H k h
  simp only [qY] at h
  simp only [evC]
  obtain ⟨b, h1, h⟩ := qad h
  rw [h1]
  simp only
  rcases vR h with ⟨rfl, h⟩ | ⟨rfl, h⟩
  ·rw [qe6 h1] at h
   simp only [if_true]; exact ihx h
  ·rw [qe6 h1] at h
   simp only [qpv, if_false]; exact ihy h
 | block id x ih =>
  intro fr H k h
  simp only [qY] at h
  simp only [evC]
  obtain ⟨q, h1, h⟩ := ih h
  rw [h1]
  simp only [qpy]
  unfold xV at h
  cases hq : q.1 with
  | normal => simp only [hq] at h ⊢; exact ⟨_, rfl, by rw [hq]; exact h⟩
  | exit id' =>
   simp only [hq] at h ⊢
   rcases vR h with ⟨h2, hz⟩ | ⟨h2, hz⟩
   ·exact ⟨_, by simp only [h2, if_true]; rfl, hz⟩
   ·exact ⟨q, by simp only [h2, qpv, if_false], by rw [hq]; exact hz⟩
  | goto l => simp only [hq] at h ⊢; exact ⟨_, rfl, by rw [hq]; exact h⟩
  | ret => simp only [hq] at h ⊢; exact ⟨_, rfl, by rw [hq]; exact h⟩
 | loop x ih =>
  intro fr H k h
  simp only [qY] at h
  simp only [evC]
  obtain ⟨q, h1, hz⟩ := qe h
  exact ⟨(q.1, qX (cfg.keepOut f (qj x)) q.2.1, q.2.2), by rw [h1]; rfl, hz⟩
 | scope x ih =>
  intro fr H k h
  simp only [qY] at h
  simp only [evC]
  obtain ⟨q, h1, h⟩ := ih h
  rw [h1]
  simp only [qpy]
  unfold qcM at h
  cases hq : q.1 with
  | goto l => simp only [hq] at h; cases h
  | normal => simp only [hq] at h ⊢; exact ⟨_, rfl, by rw [hq]; exact h⟩
  | exit id => simp only [hq] at h ⊢; exact ⟨_, rfl, by rw [hq]; exact h⟩
  | ret => simp only [hq] at h ⊢; exact ⟨_, rfl, by rw [hq]; exact h⟩
 | rangeFunc g ps assign body =>
  intro fr H k h
  simp only [qY] at h
  simp only [evC]
  generalize (qO (cfg.lift f (qj body)) fr H).1 = fr at h ⊢
  generalize (qO (cfg.lift f (qj body)) _ H).2 = H at h ⊢
  unfold qlP at h
  obtain ⟨h1, h⟩ := qc h
  split at h
  case h_2 => cases h
  rename_i g' first caps hg
  obtain ⟨h2, h⟩ := qc h
  obtain ⟨q, h3, h⟩ := hkf _ _ _ _ _ h
  unfold qaV at h
  obtain ⟨b, h4, h⟩ := qe h
  unfold qnG at h
  split at h
  case h_2 => cases h
  rename_i pend st
  have hx : ¬ (cfg.ext g').isSome = true := by
   cases he : cfg.ext g' with
   | none => simp
   | some s => rw [he] at h2; cases h2
  have hst : st ≠ .busy := by
   intro e; subst e; simp at h
  have hpk : qhQ pend k (gc bs (qX (cfg.keepOut f (qj body)) fr) (q.2.set H.length .dead)).1 (gc bs (qX (cfg.keepOut f (qj body)) fr) (q.2.set H.length .dead)).2 = some r := by
   cases st with
   | busy => exact absurd rfl hst
   | _ => exact h
  unfold yZ
  rw [if_pos h1, hg]
  simp only [hx, h3, qpy, h4]
  unfold qhQ at hpk
  cases st with
  | busy => exact absurd rfl hst
  | _ =>
   cases pend with
   | none => exact ⟨_, rfl, hpk⟩
   | some c =>
    cases c <;> first | exact ⟨_, rfl, hpk⟩ | cases hpk
theorem qaU {cfg : Cfg} {fr : List AV} : ∀ {rs : List ResultVar} {k : List AV → Option α}, kRes cfg fr H rs k = some r → ∃ vs, vC rs cfg.ty fr H = some vs ∧ k vs = some r
 | [], k, h => ⟨[], rfl, h⟩
 | .tmp t :: l, k, h => by
  rw [kRes] at h
  obtain ⟨vs, h1, hz⟩ := qaU h
  exact ⟨_, by simp only [vC, h1, qpF], hz⟩
 | .cell a t :: l, k, h => by
  rw [kRes] at h
  split at h
  ·rename_i ti hti
   obtain ⟨v, h1, h⟩ := qbP h
   have h2 := qD (k := fun v => kRes cfg fr H l fun vs => k (v :: vs)) h
   obtain ⟨vs, h3, hz⟩ := qaU h2
   exact ⟨_, by simp only [vC, hti, h1, qpy, h3, qpF], hz⟩
  ·cases h
variable {α : Type}
def fxGo (i : Nat) (l : List (Nat × AV)) : Nat → List AV
 | 0 => []
 | n + 1 => match l with
  | [] => .junk :: fxGo (i + 1) [] n
  | p :: l' => if qpJ p.1 i then p.2 :: fxGo (i + 1) l' n else .junk :: fxGo (i + 1) (p :: l') n
def fx (n : Nat) (l : List (Nat × AV)) : List AV := fxGo 0 l n
def qm (fn : Func) : Code := match fn.body with | some c => c | none => .skip
def sub : Code → List Nat → Code
 | c, [] => c
 | .seq a b, i :: l => match i with | 0 => sub a l | _ => sub b l
 | .cond _ a b, i :: l => match i with | 0 => sub a l | _ => sub b l
 | .block _ a, _ :: l => sub a l
 | .loop a, _ :: l => sub a l
 | .scope a, _ :: l => sub a l
 | .rangeFunc _ _ a b, i :: l => match i with | 0 => sub a l | _ => sub b l
 | c, _ => c
def rngB (fn : Func) (f : Nat) (p : List Nat) (fr : List AV) (pend : Option Code) (st : LoopState) : ABlk :=
 match sub (qm fn) p with
 | .rangeFunc _ ps a b => .loop f fr ps.toList a b pend st
 | _ => .dead
noncomputable def kLp (k : Nat) (ts : Option (List Tmp)) (ls : List (Tmp × Nat)) (L : Den) (A : Ex × List AV × AH → Option α) : KE α := fun e fr H =>
 match e with
 | .normal => kOpt (LOOP k ts ls L (ym k ts ls fr H)) A
 | e => A (e, fr, H)
theorem qku {cfg : Cfg} {kf : KF α} (hkf : KfOk (EV cfg) kf) {f : Nat} {rd : Option Nat} {bs : Nat} {c : Code} {k : Nat} {ts : Option (List Tmp)} {ls : List (Tmp × Nat)} {A : Ex × List AV × AH → Option α} {fr : List AV} {H : AH} {r : α}
  (h : qY cfg (EV cfg) kf f rd bs c fr H (kLp k ts ls (evC cfg (EV cfg) f rd bs c) A) = some r) : kOpt (LOOP k ts ls (evC cfg (EV cfg) f rd bs c) (fr, H)) A = some r := by
 obtain ⟨⟨e, fr1, H1⟩, h1, h2⟩ := qac hkf c h
 cases e with
 | normal =>
  simp only [kLp] at h2
  cases hl : LOOP k ts ls (evC cfg (EV cfg) f rd bs c) (ym k ts ls fr1 H1) with
  | none => rw [hl] at h2; cases h2
  | some q =>
   rw [hl] at h2
   rw [qme (p := (fr, H)) h1 hl]
   exact h2
 | exit id => rw [qda (p := (fr, H)) h1 (fun x => by intro h; cases h)]; exact h2
 | goto l => rw [qda (p := (fr, H)) h1 (fun x => by intro h; cases h)]; exact h2
 | ret => rw [qda (p := (fr, H)) h1 (fun x => by intro h; cases h)]; exact h2
def qab (cfg : Cfg) (ls : List (Tmp × Nat)) (g : AV → AH → Option α) (rs : List ResultVar) : KE α := fun e fr H =>
 match e with
 | .normal => kRes cfg (qO ls fr H).1 (qO ls fr H).2 rs fun vs => g (xH vs) (qO ls fr H).2
 | .ret => kRes cfg (qO ls fr H).1 (qO ls fr H).2 rs fun vs => g (xH vs) (qO ls fr H).2
 | _ => none
def xB (cfg : Cfg) (ls : List (Tmp × Nat)) (rs : List ResultVar) : KE AV := qab cfg ls (fun v _ => some v) rs
def qkD (cfg : Cfg) (ls : List (Tmp × Nat)) (rs : List ResultVar) : KE AV := qab cfg ls (fun v H => qbT false H v some) rs
noncomputable def qbR (cfg : Cfg) (cf : Orac) (kf : KF α) (f : Nat) (fn : Func) (c : Code) (args : List AV) (H : AH) (fin : KE α) : Option α :=
 qY cfg cf kf f none H.length c (args ++ qpK (fn.ntmps - args.length) .junk) H fin
theorem qdT {cfg : Cfg} {kf : KF α} (hkf : KfOk (EV cfg) kf) {g : AV → AH → Option α} {f : Nat} {fn : Func} {args : List AV} {H : AH} {r : α} (hx : cfg.ext f = none) (hk : cfg.known f = true) (hf : cfg.P.funcs[f]? = some fn) (hb : fn.body = some (qm fn))
  (h : qbR cfg (EV cfg) kf f fn (qm fn) args H (qab cfg (cfg.lift f 0) g fn.results.toList) = some r) : ∃ v H', EV cfg (.f f) args H = some (v, H') ∧ g v H' = some r := by
 unfold qbR at h
 obtain ⟨q, h1, h⟩ := qac hkf _ h
 have key : ∀ (vs : List AV), vC fn.results.toList cfg.ty (qO (cfg.lift f 0) q.2.1 q.2.2).1 (qO (cfg.lift f 0) q.2.1 q.2.2).2 = some vs → (q.1 = .normal ∨ q.1 = .ret) → EV cfg (.f f) args H = some (xH vs, (qO (cfg.lift f 0) q.2.1 q.2.2).2) := by
  intro vs h2 hq
  refine qah ?_
  unfold qZ
  simp only [hx, hk, if_true, hf, hb, h1, qpy]
  unfold zN
  rcases hq with hq | hq <;> simp only [hq, h2, qpF]
 unfold qab at h
 split at h
 ·rename_i hq
  obtain ⟨vs, h2, h⟩ := qaU h
  exact ⟨_, _, key vs h2 (.inl hq), h⟩
 ·rename_i hq
  obtain ⟨vs, h2, h⟩ := qaU h
  exact ⟨_, _, key vs h2 (.inr hq), h⟩
 ·cases h
def kY2 (id : Nat) (K : AV × AH → Option α) : KE α := fun e _ H =>
 kOpt H[id]? fun b => match b with
  | .loop f fr ps a b _ _ => (match e with
   | .normal => K (.bool true, H.set id (.loop f fr ps a b none .ready))
   | .ret => K (.bool false, H.set id (.loop f fr ps a b (some .ret) .done))
   | .exit x => K (.bool false, H.set id (.loop f fr ps a b (some (.exit x)) .done))
   | .goto _ => none)
  | _ => none
noncomputable def kY1 (cfg : Cfg) (cf : Orac) (kf : KF α) (bs f id : Nat) (body : Code) (K : AV × AH → Option α) : KE α := fun e fr H =>
 match e with
 | .normal => kOpt H[id]? fun b => match b with
  | .loop f' fr' ps' a' b' p' st => (match st with
   | .ready => qY cfg cf kf f (some id) bs body fr (H.set id (.loop f' fr' ps' a' b' p' .busy)) (kY2 id K)
   | _ => none)
  | _ => none
 | _ => none
noncomputable def kY (cfg : Cfg) (cf : Orac) (kf : KF α) (id : Nat) (args : List AV) (H : AH) (K : AV × AH → Option α) : Option α :=
 kOpt H[id]? fun b => match b with
  | .loop f fr ps assign body _ st => (match st with
   | .ready => cond (qpJ args.length ps.length) (qY cfg cf kf f (some id) H.length assign (vY fr ps args) H (kY1 cfg cf kf H.length f id body K)) none
   | _ => none)
  | _ => none
theorem qmI {cfg : Cfg} {kf : KF α} (hkf : KfOk (EV cfg) kf) {id : Nat} {args : List AV} {H : AH} {K : AV × AH → Option α} {r : α} (h : kY cfg (EV cfg) kf id args H K = some r) : ∃ q, EV cfg (.y id) args H = some q ∧ K q = some r := by
 unfold kY at h
 obtain ⟨b, h1, h⟩ := qe h
 cases b with
 | loop f fr ps assign body pend st =>
  simp only at h
  cases st with
  | ready =>
   simp only at h
   obtain ⟨h2, h⟩ := qc h
   obtain ⟨q, h3, h⟩ := qac hkf _ h
   unfold kY1 at h
   cases hq : q.1 with
   | normal =>
    rw [hq] at h
    simp only at h
    obtain ⟨b, h4, h⟩ := qe h
    cases b with
    | loop f' fr' ps' a' b' p' st' =>
     simp only at h
     cases st' with
     | ready =>
      simp only at h
      obtain ⟨q2, h5, h⟩ := qac hkf _ h
      unfold kY2 at h
      obtain ⟨b, h6, h⟩ := qe h
      cases b with
      | loop f2 fr2 ps2 a2 b2 p2 st2 =>
       have key : ∀ q', qZ cfg (EV cfg) (.y id) args H = some q' → K q' = some r → ∃ q, EV cfg (.y id) args H = some q ∧ K q = some r := fun q' h8 h9 => ⟨q', qah h8, h9⟩
       cases hq2 : q2.1 with
       | normal =>
        rw [hq2] at h
        refine key _ ?_ h
        unfold qZ
        simp only [h1, if_pos (qpt h2), h3, qpy, hq, h4, h5, h6, hq2]
       | ret =>
        rw [hq2] at h
        refine key _ ?_ h
        unfold qZ
        simp only [h1, if_pos (qpt h2), h3, qpy, hq, h4, h5, h6, hq2]
       | exit x =>
        rw [hq2] at h
        refine key _ ?_ h
        unfold qZ
        simp only [h1, if_pos (qpt h2), h3, qpy, hq, h4, h5, h6, hq2]
       | goto x => rw [hq2] at h; cases h
      | _ => cases h
     | _ => cases h
    | _ => cases h
   | _ => rw [hq] at h; cases h
  | _ => cases h
 | _ => cases h
class InlOk (cfg : Cfg) : Prop where
 ok : ∀ f fn, cfg.inl f = some fn → cfg.ext f = none ∧ cfg.known f = true ∧ cfg.P.funcs[f]? = some fn ∧ fn.body = some (qm fn)
def qds (f : Nat) : List (Nat × Func) → Option Func
 | [] => none
 | p :: l => if qpJ p.1 f then some p.2 else qds f l
def qmf (cfg : Cfg) : List (Nat × Func) → Prop
 | [] => True
 | p :: l => (cfg.ext p.1 = none ∧ cfg.known p.1 = true ∧ cfg.P.funcs[p.1]? = some p.2 ∧ p.2.body = some (qm p.2)) ∧ qmf cfg l
theorem InlOk.of {cfg : Cfg} (tab : List (Nat × Func)) (h : ∀ f, cfg.inl f = qds f tab) (ha : qmf cfg tab) : InlOk cfg where
 ok := by
  intro f fn hf
  rw [h] at hf
  clear h
  induction tab with
  | nil => cases hf
  | cons p l ih =>
   rw [qds] at hf
   split at hf
   ·rename_i e
    have e := qpt e
    cases hf
    rw [← e]
    exact ha.1
   ·exact ih ha.2 hf
noncomputable def kfN (cfg : Cfg) : Nat → KF α
 | 0 => fun t a H k => kOpt (EV cfg t a H) k
 | n + 1 => fun t a H k => match t with
  | .f f => (match cfg.inl f with
   | some fn => qbR cfg (EV cfg) (kfN cfg n) f fn (qm fn) a H (qab cfg (cfg.lift f 0) (fun v H => k (v, H)) fn.results.toList)
   | none => kOpt (EV cfg (.f f) a H) k)
  | .y id => kY cfg (EV cfg) (kfN cfg n) id a H k
theorem qe7 {cfg : Cfg} [InlOk cfg] : ∀ n, KfOk (α := α) (EV cfg) (kfN cfg n)
 | 0 => fun t a H k r h => qe h
 | n + 1 => fun t a H k r h => by
  unfold kfN at h
  cases t with
  | f f =>
   simp only at h
   split at h
   ·rename_i fn hf
    obtain ⟨o1, o2, o3, o4⟩ := InlOk.ok f fn hf
    obtain ⟨v, H', h1, h2⟩ := qdT (qe7 n) o1 o2 o3 o4 h
    exact ⟨_, h1, h2⟩
   ·exact qe h
  | y id => exact qmI (qe7 n) h
theorem qP {cfg : Cfg} [InlOk cfg] {f : Nat} {rd : Option Nat} {bs : Nat} {c : Code} {k : Nat} {ts : Option (List Tmp)} {ls : List (Tmp × Nat)} {A : Ex × List AV × AH → Option α} {fr : List AV} {H : AH} {r : α}
  (h : qY cfg (EV cfg) (kfN cfg 6) f rd bs c fr H (kLp k ts ls (evC cfg (EV cfg) f rd bs c) A) = some r) : kOpt (LOOP k ts ls (evC cfg (EV cfg) f rd bs c) (fr, H)) A = some r := qku (qe7 6) h
theorem qbU {cfg : Cfg} [InlOk cfg] {g : AV → AH → Option α} {f : Nat} {fn : Func} {args : List AV} {H : AH} {r : α} (hx : cfg.ext f = none) (hk : cfg.known f = true) (hf : cfg.P.funcs[f]? = some fn) (hb : fn.body = some (qm fn))
  (h : qbR cfg (EV cfg) (kfN cfg 6) f fn (qm fn) args H (qab cfg (cfg.lift f 0) g fn.results.toList) = some r) : ∃ v H', EV cfg (.f f) args H = some (v, H') ∧ g v H' = some r := qdT (qe7 6) hx hk hf hb h
def Gets {β : Type} (o : Option β) (P : β → Prop) : Prop := ∃ r, o = some r ∧ P r
theorem Gets.ev {β : Type} {o o' : Option β} {P : β → Prop} (h : ∀ r, o = some r → o' = some r) (hy : Gets o P) : Gets o' P := by
 obtain ⟨r, h1, h2⟩ := hy
 exact ⟨r, h r h1, h2⟩
theorem Gets.eq {β : Type} {o o' : Option β} {P : β → Prop} (h : o' = o) (hy : Gets o P) : Gets o' P := h ▸ hy
theorem gE {β : Type} {o o' x : Option β} {P : β → Prop} (f : ∀ r, o = some r → o' = some r) (e : o = x) (h : Gets x P) : Gets o' P := Gets.ev f (Gets.eq e h)
theorem Gets.mono {β : Type} {o : Option β} {P Q : β → Prop} (h : Gets o P) (hq : ∀ b, P b → Q b) : Gets o Q := by
 obtain ⟨r, h1, h2⟩ := h
 exact ⟨r, h1, hq r h2⟩
theorem Gets.bind {β γ : Type} {o : Option β} {k : β → Option γ} {Q : β → Prop} {P : γ → Prop} (h : Gets o Q) (hk : ∀ b, Q b → Gets (k b) P) : Gets (kOpt o k) P := by
 obtain ⟨r, h1, h2⟩ := h
 subst h1
 exact hk r h2
@[simp] theorem qE {β : Type} {a : β} {P : β → Prop} : Gets (some a) P ↔ P a := ⟨fun ⟨r, h1, h2⟩ => by cases h1; exact h2, fun h => ⟨a, rfl, h⟩⟩
theorem Gets.get {β : Type} {o : Option β} {a : β} (h : Gets o (· = a)) : o = some a := by
 obtain ⟨r, h1, h2⟩ := h
 rw [h1, h2]
theorem qfK {cfg : Cfg} {f : Nat} {args : List AV} {v : AV} {H : AH} (h : EV cfg (.f f) args [] = some (v, H)) : EVs (EV cfg) f args = some v := by unfold EVs; rw [h]; rfl
theorem qo4 {cfg : Cfg} {f : Nat} {args : List AV} {v v' : AV} {H : AH} (h : EV cfg (.f f) args [] = some (v', H)) (e : (v'.frz v'.msIds H).fg = v) : EVf (EV cfg) f args = some v := by unfold EVf; rw [h]; exact congrArg some e
theorem funS {cfg : Cfg} [InlOk cfg] {f : Nat} {fn : Func} {args : List AV} {r : AV} (hx : cfg.ext f = none) (hk : cfg.known f = true) (hf : cfg.P.funcs[f]? = some fn) (hb : fn.body = some (qm fn))
  (h : qbR cfg (EV cfg) (kfN cfg 6) f fn (qm fn) args [] (xB cfg (cfg.lift f 0) fn.results.toList) = some r) : EVs (EV cfg) f args = some r := by
 obtain ⟨v, H', h1, h2⟩ := qbU hx hk hf hb h
 cases h2
 exact qfK h1
theorem funF {cfg : Cfg} [InlOk cfg] {f : Nat} {fn : Func} {args : List AV} {r : AV} (hx : cfg.ext f = none) (hk : cfg.known f = true) (hf : cfg.P.funcs[f]? = some fn) (hb : fn.body = some (qm fn))
  (h : qbR cfg (EV cfg) (kfN cfg 6) f fn (qm fn) args [] (qkD cfg (cfg.lift f 0) fn.results.toList) = some r) : EVf (EV cfg) f args = some r := by
 obtain ⟨v, H', h1, h2⟩ := qbU hx hk hf hb h
 exact qo4 h1 (Option.some.inj (qgs h2))
def qdp (cfg : Cfg) (T e : TypeId) (ls : List (Tmp × Nat)) (rs : List ResultVar) : KE (AV × List UInt8) := qab cfg ls (fun v H => qaK T e (v, H)) rs
theorem funB {cfg : Cfg} [InlOk cfg] {f : Nat} {fn : Func} {args : List AV} {T e : TypeId} {s : List UInt8} {r : AV × List UInt8} (hx : cfg.ext f = none) (hk : cfg.known f = true) (hf : cfg.P.funcs[f]? = some fn) (hb : fn.body = some (qm fn))
  (h : qbR cfg (EV cfg) (kfN cfg 6) f fn (qm fn) args [.bld T e s] (qdp cfg T e (cfg.lift f 0) fn.results.toList) = some r) : EVb (EV cfg) f args T e s = some r := by
 obtain ⟨v, H', h1, h2⟩ := qbU hx hk hf hb h
 unfold EVb; rw [h1]; exact h2
@[simp] theorem nble (a b : Nat) : qpG a b = decide (a ≤ b) := by
 rcases h : qpG a b with _ | _
 ·rw [eq_comm, decide_eq_false_iff_not]; intro h'; rw [Nat.ble_eq_true_of_le h'] at h; cases h
 ·rw [eq_comm, decide_eq_true_eq]; exact Nat.le_of_ble_eq_true h
@[simp] theorem nbeq (a b : Nat) : qpJ a b = decide (a = b) := by
 rcases h : qpJ a b with _ | _
 ·rw [eq_comm, decide_eq_false_iff_not]; intro h'; rw [h', Nat.beq_refl] at h; cases h
 ·rw [eq_comm, decide_eq_true_eq]; exact qpt h
@[simp] theorem leInt_eq (a b : Int) : qf a b = decide (a ≤ b) := rfl
@[simp] theorem ltInt_eq (a b : Int) : qL a b = decide (a < b) := rfl
theorem beqD {β : Type} [BEq β] [LawfulBEq β] [DecidableEq β] (a b : β) : (a == b) = decide (a = b) := by
 by_cases h : a = b
 ·subst h; simp
 ·simp [h]
def AV.IsInt (v : AV) : Prop := ∃ n, v = .int .i64 n
def AV.IsBool (v : AV) : Prop := ∃ b, v = .bool b
@[simp] theorem isInt_int (n : Int) : (AV.int .i64 n).IsInt := ⟨n, rfl⟩
@[simp] theorem isBool_bool (b : Bool) : (AV.bool b).IsBool := ⟨b, rfl⟩
@[simp] theorem qa {β : Type} (b : β) (k : β → Option α) : kOpt (some b) k = k b := rfl
@[simp] theorem kOptNone {β : Type} (k : β → Option α) : kOpt none k = none := rfl
@[simp] theorem kMInt_int (kd : IntKind) (n : Int) (k : Int → Option α) : qgZ kd (.int kd n) k = k n := by simp [qgZ, zc]
@[simp] theorem qw (kd : IntKind) (n : Int) (k : Int → Option α) : kInt kd (.int kd n) k = k n := by simp [kInt, zc]
@[simp] theorem qt (b : Bool) (k : Bool → Option α) : qB (.bool b) k = k b := rfl
@[simp] theorem qh (s : List UInt8) (k : List UInt8 → Option α) : kStr (.str s) k = k s := rfl
@[simp] theorem qmK (cs : List AV) (k : List AV → Option α) : kAgg (.agg cs) k = k cs := rfl
@[simp] theorem qJ (c : AV) (cs : List AV) (k : AV → List AV → Option α) : qv (c :: cs) k = k c cs := rfl
@[simp] theorem qT (x : Option α) : kNil [] x = x := rfl
@[simp] theorem kMSl_nil (x : Option α) (k : Nat → Nat → Option α) : kMSl .nil x k = x := rfl
@[simp] theorem kMSl_sl (off len : Nat) (x : Option α) (k : Nat → Nat → Option α) : kMSl (.sl off len) x k = k off len := rfl
@[simp] theorem kMUnit_unit (x : Option α) : qhT .unit x = x := rfl
@[simp] theorem kMBool_bool (b : Bool) (k : Bool → Option α) : qhU (.bool b) k = k b := rfl
@[simp] theorem kOwn_nil (x : Option α) (k : Nat → List (List AV) → Nat → Nat → Option α) : kOwn .nil x k = x := rfl
@[simp] theorem kOwn_own (sz : Nat) (rs : List (List AV)) (off len : Nat) (x : Option α) (k : Nat → List (List AV) → Nat → Nat → Option α) : kOwn (.own sz rs off len) x k = k sz rs off len := rfl
@[simp] theorem qaD (rs : List (List AV)) (k : List (List AV) → Option α) : kSl (.sl rs) k = k rs := rfl
@[simp] theorem qo {β : Type} (l : List β) (i : Nat) : qpA l i = l[i]? := rfl
variable {α β : Type}
def qfr (b : Bool) (k : Bool → α) : α := match b with | true => k true | false => k false
def fNat (n : Nat) (k : Nat → α) : α := match n with | 0 => k 0 | m + 1 => k (m + 1)
def fInt (n : Int) (k : Int → α) : α := match n with | .ofNat m => fNat m fun m => k (.ofNat m) | .negSucc m => fNat m fun m => k (.negSucc m)
def fL (g : β → (β → α) → α) : List β → (List β → α) → α
 | [], k => k []
 | a :: l, k => g a fun a' => fL g l fun l' => k (a' :: l')
def qnJ (kd : IntKind) (k : IntKind → α) : α := match kd with
 | .i64 => k .i64
 | .u64 => k .u64
 | .u8 => k .u8
 | .i32 => k .i32
 | .u32 => k .u32
 | x => k x
def qg2 (b : UInt8) (k : UInt8 → α) : α := fNat b.toNat fun n => k (UInt8.ofNat n)
theorem qkP {g : β → (β → α) → α} (hg : ∀ b k, g b k = k b) : ∀ (l : List β) (k : List β → α), fL g l k = k l
 | [], _ => rfl
 | a :: l, k => by rw [fL, hg, qkP hg l]
theorem qee (b : Bool) (k : Bool → α) : qfr b k = k b := by cases b <;> rfl
theorem x8 (b : Nat) (k : Nat → α) : fNat b k = k b := by cases b <;> rfl
theorem qn5 (b : Int) (k : Int → α) : fInt b k = k b := by cases b <;> simp only [fInt, x8]
theorem qmQ (b : IntKind) (k : IntKind → α) : qnJ b k = k b := by cases b <;> rfl
theorem qh8 (b : UInt8) (k : UInt8 → α) : qg2 b k = k b := by simp [qg2, x8]
def qpa (c a b : AV) (H : AH) : Option (AV × AH) :=
 match c with
 | .bool t => some (if t then a else b, H)
 | _ => none
def qoD (cfg : Cfg) (nid : Option Nat) (t : TypeId) (H : AH) : Option (AV × AH) :=
 match cfg.ty t with
 | some ti =>
  if q6 ti.zero then
   match aNew nid H (yV cfg t ti.zero) with
   | some (k, H') => some (.ptr k 0 0, H')
   | none => none
  else none
 | none => none
def xBox (cfg : Cfg) (t : TypeId) (nid : Option Nat) (a : AV) (H : AH) : Option (AV × AH) :=
 match a.cells with
 | some cs =>
  match aNew nid H (qaJ cfg t cs) with
  | some (k, H') => some (.ptr k 0 0, H')
  | none => none
 | none => none
def qoC (cfg : Cfg) (t : TypeId) (parts : List (Nat × AV)) (H : AH) : Option (AV × AH) :=
 match cfg.ty t with
 | some ti =>
  if q6 ti.zero then
   match ti.d with
   | .struct fs =>
    match yj cfg fs with
    | some ps => (zD (fun i => ps[i]?) ti.zero parts).map fun cs => (.agg (cfg.fga t cs), H)
    | none => none
   | .array _ e =>
    match cfg.sz e with
    | some n => (zD (fun i => some (i * n, n)) ti.zero parts).map fun cs => (.agg cs, H)
    | none => none
   | _ => none
  else none
 | none => none
def qdC (cfg : Cfg) (nid : Option Nat) (t : TypeId) (len : Nat) (parts : List (Nat × AV)) (H : AH) : Option (AV × AH) :=
 match cfg.td t with
 | some (.slice e) =>
  match cfg.ty e with
  | some ei =>
   if xG ei && qpG (len * ei.sz) 16777216 then
    match zl ei.sz (qpK len ei.zero) parts with
    | some rows =>
     match aNew nid H (.rows (ql 0 rows) ei.sz rows) with
     | some (k, H') => some (.ms k 0 len, H')
     | none => none
    | none => none
   else none
  | none => none
 | _ => none
def qpb (cfg : Cfg) (t : TypeId) (a : AV) (H : AH) : Option (AV × AH) :=
 match cfg.ty t with
 | some ti => (xR ti.d.agg ti.sz H a).map fun v => (v, H)
 | none => none
def qoA (cfg : Cfg) (t : TypeId) (a v : AV) (H : AH) : Option (AV × AH) :=
 match cfg.sz t with
 | some n => (xL n H a v).map fun H' => (.junk, H')
 | none => none
def xNil (a : AV) (H : AH) : Option (AV × AH) :=
 match a with
 | .ptr id r off => some (.ptr id r off, H)
 | .cptr cs off => some (.cptr cs off, H)
 | .fn (.func f) a b => some (.fn (.func f) a b, H)
 | .mp id => some (.mp id, H)
 | .yld id => some (.yld id, H)
 | _ => none
def qmi (t : AV) (i : Nat) (H : AH) : Option (AV × AH) :=
 match t with
 | .tup vs => (vs[i]?).map fun v => (v, H)
 | _ => none
def xOp (cfg : Cfg) (nid : Option Nat) (o : Op) (ty : TypeId) (x : Operand → AV) (H : AH) : Option (AV × AH) :=
 match o with
 | .move a | .assign a => some (x a, H)
 | .pick c a b => qpa (x c) (x a) (x b) H
 | .alloc t => qoD cfg nid t H
 | .box t a => xBox cfg t nid (x a) H
 | .build t parts => qoC cfg t (parts.toList.map fun p => (p.1, x p.2)) H
 | .buildSlice t len parts => qdC cfg nid t len (parts.toList.map fun p => (p.1, x p.2)) H
 | .load t a => qpb cfg t (x a) H
 | .store t a v => qoA cfg t (x a) (x v) H
 | .nilCheck a => xNil (x a) H
 | .binOp op t a b _ => (aBin cfg (litN a b) op t (x a) (x b)).map fun v => (v, H)
 | .unOp op _ a => (aUn op (x a)).map fun v => (v, H)
 | .convert s d a => xz cfg nid s d (x a) H
 | .makeFunc f first caps => some (.fn f (first.toList.map x) (caps.toList.map x), H)
 | .makeSlice t l c => yK cfg nid t (x l) (x c) H
 | .slice t a lo hi mx => (zk cfg t H (x a) (lo.map x) (hi.map x) (mx.map x)).map fun v => (v, H)
 | .fieldAddr t a f => (yA cfg t (x a) f).map fun v => (v, H)
 | .field t a f => (qbA cfg t (x a) f).map fun v => (v, H)
 | .indexAddr t a i => (vX cfg t H (x a).unwr (x i)).map fun v => (v, H)
 | .index t a i => (qbz cfg t (x a) (x i)).map fun v => (v, H)
 | .extract t i => qmi (x t) i H
 | o => evOp cfg nid o ty x H
theorem qoB (cfg : Cfg) (nid : Option Nat) (o : Op) (ty : TypeId) (x : Operand → AV) (H : AH) : xOp cfg nid o ty x H = evOp cfg nid o ty x H := by cases o <;> rfl
variable {α β : Type}
noncomputable def gL (g : β → (β → α) → α) (l : List β) : (List β → α) → α :=
 List.rec (motive := fun _ => (List β → α) → α) (fun k => k []) (fun a _ ih k => g a fun a' => ih fun l' => k (a' :: l')) l
noncomputable def gS (l : List β) : (List β → α) → α :=
 List.rec (motive := fun _ => (List β → α) → α) (fun k => k []) (fun a _ ih k => ih fun l' => k (a :: l')) l
theorem yy {g : β → (β → α) → α} (hg : ∀ b k, g b k = k b) : ∀ (l : List β) (k : List β → α), gL g l k = k l
 | [], _ => rfl
 | a :: l, k => by
  have : gL g (a :: l) k = g a fun a' => gL g l fun l' => k (a' :: l') := rfl
  rw [this, hg, yy hg l]
theorem xC : ∀ (l : List β) (k : List β → α), gS l k = k l
 | [], _ => rfl
 | a :: l, k => by
  have : gS (a :: l) k = gS l fun l' => k (a :: l') := rfl
  rw [this, xC l]
def gA1 (v : AV) (k : AV → α) : α := match v with
 | .int kd m => qnJ kd fun kd => fInt m fun m => k (.int kd m)
 | .bool b => qfr b fun b => k (.bool b)
 | .str s => fL qg2 s fun s => k (.str s)
 | .ms a b c => fNat a fun a => fNat b fun b => fNat c fun c => k (.ms a b c)
 | .ptr a b c => fNat a fun a => fNat b fun b => fNat c fun c => k (.ptr a b c)
 | v => k v
theorem qh3 (v : AV) (k : AV → α) : gA1 v k = k v := by
 cases v <;> simp only [gA1, qmQ, qn5, qee, x8, qkP qh8]
noncomputable def gA2 (v : AV) (k : AV → α) : α := match v with
 | .agg cs => gL gA1 cs fun cs => k (.agg cs)
 | .sl rows => gL (gL gA1) rows fun rows => k (.sl rows)
 | .cptr cs o => gL gA1 cs fun cs => fNat o fun o => k (.cptr cs o)
 | .fn f a b => gL gA1 a fun a => gL gA1 b fun b => k (.fn f a b)
 | v => gA1 v k
theorem qlX (v : AV) (k : AV → α) : gA2 v k = k v := by
 have e1 : ∀ (l : List AV) (k : List AV → α), gL gA1 l k = k l := yy qh3
 cases v <;> simp only [gA2, qh3, e1, x8, yy e1]
noncomputable def gA (v : AV) (k : AV → α) : α := match v with
 | .tup cs => gL gA2 cs fun cs => k (.tup cs)
 | .ifc t v => gA2 v fun v => k (.ifc t v)
 | v => gA2 v k
theorem zA (v : AV) (k : AV → α) : gA v k = k v := by
 cases v <;> simp only [gA, qlX, yy qlX]
def gW (v : AV) (k : AV → α) : α := match v with
 | .int a b => k (.int a b)
 | .bool a => k (.bool a)
 | .str a => k (.str a)
 | .agg a => k (.agg a)
 | .tup a => k (.tup a)
 | .nilS => k .nilS
 | .sl a => k (.sl a)
 | .em => k .em
 | .ms a b c => k (.ms a b c)
 | .nilP => k .nilP
 | .ptr a b c => k (.ptr a b c)
 | .cptr a b => k (.cptr a b)
 | .fn a b c => k (.fn a b c)
 | .yld a => k (.yld a)
 | .nilF => k .nilF
 | .nilM => k .nilM
 | .mp a => k (.mp a)
 | .nilI => k .nilI
 | .ifc a b => k (.ifc a b)
 | .junk => k .junk
 | .lsl r => k (.lsl r)
 | .lpt c o => k (.lpt c o)
 | .rsl i r => k (.rsl i r)
 | .rpt i c o => k (.rpt i c o)
 | .alt l => k (.alt l)
 | .wr a b => k (.wr a b)
theorem qfm (v : AV) (k : AV → α) : gW v k = k v := by cases v <;> rfl
noncomputable def gB (b : ABlk) (k : ABlk → α) : α := match b with
 | .rows d sz rs => qfr d fun d => fNat sz fun sz => gL (gL gA1) rs fun rs => k (.rows d sz rs)
 | .froz d sz rs => qfr d fun d => fNat sz fun sz => gL (gL gA1) rs fun rs => k (.froz d sz rs)
 | .mp es => gS es fun es => k (.mp es)
 | .loop f fr ps a b p s => gL gA1 fr fun fr => k (.loop f fr ps a b p s)
 | .dead => k .dead
 | .res => k .res
 | .reg => k .reg
 | .spl => k .spl
 | .bld T e s => fL qg2 s fun s => k (.bld T e s)
theorem qkM (b : ABlk) (k : ABlk → α) : gB b k = k b := by
 have e1 : ∀ (l : List AV) (k : List AV → α), gL gA1 l k = k l := yy qh3
 cases b <;> simp only [gB, qee, x8, e1, yy e1, xC, qkP qh8]
noncomputable def gP (p : Nat × AV) (k : Nat × AV → α) : α := gA p.2 fun v => k (p.1, v)
theorem qnH (p : Nat × AV) (k : Nat × AV → α) : gP p k = k p := by unfold gP; rw [zA]
noncomputable def gH (H : AH) (k : AH → α) : α := gL gB H k
theorem qdu (H : AH) (k : AH → α) : gH H k = k H := yy qkM H k
abbrev Ov := List (Nat × AV)
def den (n : Nat) (ov : Ov) : List AV := ov.foldr (fun p fr => fr.set p.1 p.2) (qpK n .junk)
noncomputable def vo (t : Nat) (ov : Ov) : AV := List.rec (motive := fun _ => AV) .junk (fun p _ ih => cond (qpJ p.1 t) p.2 ih) ov
theorem qcC (t : Nat) : vo t [] = .junk := rfl
theorem y8 (t : Nat) (p : Nat × AV) (ov : Ov) : vo t (p :: ov) = cond (qpJ p.1 t) p.2 (vo t ov) := rfl
def OvOk (n : Nat) (ov : Ov) : Prop := ∀ p ∈ ov, p.1 < n
theorem qbv (n : Nat) (ov : Ov) : (den n ov).length = n := by
 induction ov with
 | nil => simp [den]
 | cons p l ih => simp only [den, List.foldr_cons, List.length_set]; exact ih
theorem qbw {n : Nat} {ov : Ov} (h : OvOk n ov) (t : Nat) : (den n ov)[t]? = if t < n then some (vo t ov) else none := by
 induction ov with
 | nil =>
  simp only [den, List.foldr_nil, qcC, List.getElem?_replicate]
 | cons p l ih =>
  have hl : OvOk n l := fun q hq => h q (List.mem_cons_of_mem _ hq)
  have hp : p.1 < n := h p (List.mem_cons_self ..)
  have : (den n (p :: l))[t]? = ((den n l).set p.1 p.2)[t]? := rfl
  rw [this, qpx, ih hl, qbv, y8]
  by_cases e : p.1 = t
  ·subst e; simp [hp]
  ·have : qpJ p.1 t = false := by rw [← qpI]; intro h'; exact e (qpt h')
   rw [if_neg e, this]; rfl
theorem qcD {n : Nat} {ov : Ov} (h : OvOk n ov) {t : Nat} (ht : ¬ t < n) : vo t ov = .junk := by
 induction ov with
 | nil => rfl
 | cons p l ih =>
  have hp : p.1 < n := h p (List.mem_cons_self ..)
  have : qpJ p.1 t = false := by rw [← qpI]; intro h'; have := qpt h'; omega
  rw [y8, this]
  exact ih fun q hq => h q (List.mem_cons_of_mem _ hq)
theorem qga {n : Nat} {ov : Ov} (h : OvOk n ov) {fr : List AV} (hl : fr.length = n) (hg : ∀ t, t < n → fr[t]? = some (vo t ov)) : den n ov = fr := by
 apply List.ext_getElem?
 intro t
 rw [qbw h]
 split
 ·rename_i ht; exact (hg t ht).symm
 ·rename_i ht; exact (List.getElem?_eq_none (by omega)).symm
noncomputable def opdO (ov : Ov) : Operand → AV
 | .tmp t => vo t ov
 | .const v => ofValue v
 | .global _ => .junk
 | .func f => .fn (.func f) [] []
theorem qbm {n : Nat} {ov : Ov} (h : OvOk n ov) : opd (den n ov) = opdO ov := by
 funext o
 cases o with
 | tmp t =>
  show (den n ov).getD t .junk = vo t ov
  rw [List.getD_eq_getElem?_getD, qbw h]
  split
  ·rfl
  ·rename_i ht; exact (qcD h ht).symm
 | _ => rfl
def putO (n : Nat) (ov : Ov) (dst : Option Tmp) (v : AV) : Ov :=
 match dst with
 | some d => cond (Nat.blt d n) ((d, v) :: ov) ov
 | none => ov
theorem qdm {n : Nat} {ov : Ov} (h : OvOk n ov) (dst : Option Tmp) (v : AV) : OvOk n (putO n ov dst v) := by
 cases dst with
 | none => exact h
 | some d =>
  simp only [putO]
  cases hd : Nat.blt d n with
  | false => exact h
  | true =>
   intro p hp
   rw [cond_true] at hp
   rcases qpM.1 hp with rfl | hp
   ·simpa [qpP] using hd
   ·exact h p hp
theorem qbM {n : Nat} {ov : Ov} (dst : Option Tmp) (v : AV) : den n (putO n ov dst v) = put (den n ov) dst v := by
 cases dst with
 | none => rfl
 | some d =>
  simp only [putO, put]
  cases hd : Nat.blt d n with
  | true => rfl
  | false =>
   have hd : ¬ d < n := by rw [← qpI, qpP] at hd; exact hd
   show den n ov = _
   rw [List.set_eq_of_length_le (by rw [qbv]; exact Nat.le_of_not_lt hd)]
noncomputable def qaj (ops : Array Oper) (ov : Ov) (o : Oper) : Option Bool :=
 match o.guard with
 | none => some true
 | some (j, want) =>
  match (ops[j]?).bind (·.dst) with
  | some d =>
   match vo d ov with
   | .bool b => some (b == want)
   | .tup [] => some false
   | _ => none
  | none => none
theorem qeD {n : Nat} {ov : Ov} (h : OvOk n ov) (ops : Array Oper) (o : Oper) : xa ops (den n ov) o = qaj ops ov o := by
 unfold xa qaj
 cases o.guard with
 | none => rfl
 | some p =>
  obtain ⟨j, want⟩ := p
  simp only
  cases (ops[j]?).bind (·.dst) with
  | none => rfl
  | some d =>
   simp only
   rw [qbw h]
   by_cases hd : d < n
   ·rw [if_pos hd]
    cases vo d ov <;> try rfl
    rename_i vs; cases vs <;> rfl
   ·rw [if_neg hd, qcD h hd]
noncomputable def qg5 (n : Nat) (H : AH) (p v : AV) (k : AH → Option β) : Option β :=
 match p with
 | .ptr id r off =>
  match v.cells with
  | some cs =>
   match H[id]? with
   | some (.rows d sz rs) =>
    match rs[r]? with
    | some row => if cs.length == n && qpG (off + n) row.length then
      gS (row.take off ++ cs ++ row.drop (off + n)) fun row' => gS (rs.set r row') fun rs' => qfr (d && qk 0 cs) fun d' => gS (H.set id (.rows d' sz rs')) k
     else none
    | none => none
   | _ => none
  | none => none
 | .rpt id cs o => (xL n H (.rpt id cs o) v).bind k
 | _ => none
theorem qk5 (n : Nat) (H : AH) (p v : AV) (k : AH → Option β) : qg5 n H p v k = (xL n H p v).bind k := by
 unfold qg5 xL
 cases p with
 | ptr id r off =>
  simp only
  cases hv : v.cells with
  | none => simp
  | some cs =>
   simp only
   cases hH : H[id]? with
   | none => simp
   | some b =>
    cases b <;> simp only [Option.bind_none]
    rename_i d sz rs
    cases hr : rs[r]? with
    | none => simp
    | some row =>
     simp only
     split <;> simp [xC, qee]
 | rpt id cs o => rfl
 | _ => simp
noncomputable def yNew (nid : Option Nat) (H : AH) (b : ABlk) (k : Nat → AH → Option β) : Option β :=
 match nid with
 | none => fNat H.length fun i => gS (H ++ [b]) fun H' => k i H'
 | some i =>
  match H[i]? with
  | some .res => gS (H.set i b) fun H' => k i H'
  | _ => none
theorem qjw (nid : Option Nat) (H : AH) (b : ABlk) (k : Nat → AH → Option β) : yNew nid H b k = (aNew nid H b).bind fun r => k r.1 r.2 := by
 cases nid with
 | none => simp [yNew, aNew, x8, xC]
 | some i =>
  simp only [yNew, aNew]
  cases H[i]? with
  | none => rfl
  | some b => cases b <;> simp [xC]
noncomputable def qla (cfg : Cfg) (nid : Option Nat) (t : TypeId) (H : AH) (k : AV → AH → Option β) : Option β :=
 match cfg.ty t with
 | some ti => if q6 ti.zero then gB (yV cfg t ti.zero) fun b => yNew nid H b fun i H' => k (.ptr i 0 0) H' else none
 | none => none
noncomputable def yBox (cfg : Cfg) (t : TypeId) (nid : Option Nat) (a : AV) (H : AH) (k : AV → AH → Option β) : Option β :=
 match a.cells with
 | some cs => gS cs fun cs => gB (qaJ cfg t cs) fun b => yNew nid H b fun i H' => k (.ptr i 0 0) H'
 | none => none
noncomputable def yOp (cfg : Cfg) (nid : Option Nat) (o : Op) (ty : TypeId) (x : Operand → AV) (H : AH) (k : AV → AH → Option β) : Option β :=
 match o with
 | .move a | .assign a => gW (x a) fun v => k v H
 | .alloc t => qla cfg nid t H k
 | .box t a => yBox cfg t nid (x a) H k
 | .store t a v =>
  match cfg.sz t with
  | some n => qg5 n H (x a) (x v) fun H' => k .junk H'
  | none => none
 | .buildSlice t len parts => (match qdC cfg nid t len (parts.toList.map fun p => (p.1, x p.2)) H with | some r => gA r.1 fun v => gH r.2 fun H' => k v H' | none => none)
 | .convert s d a => (match xz cfg nid s d (x a) H with | some r => gA r.1 fun v => gH r.2 fun H' => k v H' | none => none)
 | .makeSlice t l c => (match yK cfg nid t (x l) (x c) H with | some r => gA r.1 fun v => gH r.2 fun H' => k v H' | none => none)
 | .call c => (match evOp cfg nid (.call c) ty x H with | some r => gA r.1 fun v => gH r.2 fun H' => k v H' | none => none)
 | o => (match xOp cfg nid o ty x H with | some r => gA r.1 fun v => k v r.2 | none => none)
theorem qoz (cfg : Cfg) (nid : Option Nat) (o : Op) (ty : TypeId) (x : Operand → AV) (H : AH) (k : AV → AH → Option β) : yOp cfg nid o ty x H k = (evOp cfg nid o ty x H).bind fun r => k r.1 r.2 := by
 have em : ∀ (q : Option (AV × AH)), (match q with | some r => gA r.1 fun v => gH r.2 fun H' => k v H' | none => none) = q.bind fun r => k r.1 r.2 := fun q => by cases q <;> simp [zA, qdu]
 have em' : ∀ (q : Option (AV × AH)), (match q with | some r => gA r.1 fun v => k v r.2 | none => none) = q.bind fun r => k r.1 r.2 := fun q => by cases q <;> simp [zA]
 cases o with
 | move a => simp [yOp, evOp, qfm]
 | assign a => simp [yOp, evOp, qfm]
 | alloc t =>
  simp only [yOp, evOp, qla]
  cases cfg.ty t with
  | none => rfl
  | some ti =>
   simp only
   split
   ·simp only [qkM, qjw]
    cases aNew nid H (yV cfg t ti.zero) <;> rfl
   ·rfl
 | box t a =>
  simp only [yOp, evOp, yBox]
  cases (x a).cells with
  | none => rfl
  | some cs =>
   simp only [xC, qkM, qjw]
   cases aNew nid H (qaJ cfg t cs) <;> rfl
 | store t a v =>
  simp only [yOp, evOp]
  cases cfg.sz t with
  | none => rfl
  | some n =>
   simp only [qk5]
   cases xL n H (x a) (x v) <;> rfl
 | buildSlice t len parts => simp only [yOp]; rw [em]; rfl
 | convert s d a => simp only [yOp]; rw [em]; rfl
 | makeSlice t l c => simp only [yOp]; rw [em]; rfl
 | call c => simp only [yOp]; rw [em]
 | _ => simp only [yOp]; rw [em', qoB]
mutual
def AV.same : AV → AV → Bool
 | .int a b, .int c d => zc a c && decide (b = d)
 | .bool a, .bool b => a == b
 | .str a, .str b => a == b
 | .agg a, .agg b => x9 a b
 | .tup a, .tup b => x9 a b
 | .nilS, .nilS => true
 | .sl a, .sl b => qdk a b
 | .em, .em => true
 | .nilP, .nilP => true
 | .nilF, .nilF => true
 | .nilM, .nilM => true
 | .nilI, .nilI => true
 | .junk, .junk => true
 | .fn (.func f) a b, .fn (.func g) c d => qpJ f g && (x9 a c && x9 b d)
 | .cptr a i, .cptr b j => qpJ i j && x9 a b
 | _, _ => false
def x9 : List AV → List AV → Bool
 | [], [] => true
 | a :: l, b :: m => a.same b && x9 l m
 | _, _ => false
def qdk : List (List AV) → List (List AV) → Bool
 | [], [] => true
 | a :: l, b :: m => x9 a b && qdk l m
 | _, _ => false
end
mutual
theorem AV.same_eq : ∀ {a b : AV}, a.same b = true → a = b
 | .int a b, y, h => by
  cases y <;> simp [AV.same, zc] at h
  rw [h.1, h.2]
 | .bool a, y, h => by cases y <;> simp [AV.same] at h; rw [h]
 | .str a, y, h => by cases y <;> simp [AV.same] at h; rw [h]
 | .agg a, y, h => by cases y <;> simp [AV.same] at h; rw [ye h]
 | .tup a, y, h => by cases y <;> simp [AV.same] at h; rw [ye h]
 | .nilS, y, h => by cases y <;> simp [AV.same] at h; rfl
 | .sl a, y, h => by cases y <;> simp [AV.same] at h; rw [qhv h]
 | .em, y, h => by cases y <;> simp [AV.same] at h; rfl
 | .nilP, y, h => by cases y <;> simp [AV.same] at h; rfl
 | .nilF, y, h => by cases y <;> simp [AV.same] at h; rfl
 | .nilM, y, h => by cases y <;> simp [AV.same] at h; rfl
 | .nilI, y, h => by cases y <;> simp [AV.same] at h; rfl
 | .junk, y, h => by cases y <;> simp [AV.same] at h; rfl
 | .fn f a b, y, h => by
  cases f <;> cases y <;> first | (rename_i g c d; cases g <;> simp [AV.same] at h; rw [h.1, ye h.2.1, ye h.2.2]) | simp [AV.same] at h
 | .cptr a i, y, h => by
  cases y <;> simp [AV.same] at h
  rw [h.1, ye h.2]
 | .ms _ _ _, y, h => by cases y <;> simp [AV.same] at h
 | .ptr _ _ _, y, h => by cases y <;> simp [AV.same] at h
 | .yld _, y, h => by cases y <;> simp [AV.same] at h
 | .mp _, y, h => by cases y <;> simp [AV.same] at h
 | .ifc _ _, y, h => by cases y <;> simp [AV.same] at h
theorem ye : ∀ {a b : List AV}, x9 a b = true → a = b
 | [], [], _ => rfl
 | a :: l, b :: m, h => by
  simp only [x9, qpo] at h
  rw [AV.same_eq h.1, ye h.2]
 | [], _ :: _, h => by simp [x9] at h
 | _ :: _, [], h => by simp [x9] at h
theorem qhv : ∀ {a b : List (List AV)}, qdk a b = true → a = b
 | [], [], _ => rfl
 | a :: l, b :: m, h => by
  simp only [qdk, qpo] at h
  rw [ye h.1, qhv h.2]
 | [], _ :: _, h => by simp [qdk] at h
 | _ :: _, [], h => by simp [qdk] at h
end
structure Fact where
 frz : Bool
 f : Nat
 args : List AV
 v : AV
def Fact.Ok (cfg : Cfg) (e : Fact) : Prop := (if e.frz then EVf (EV cfg) e.f e.args else EVs (EV cfg) e.f e.args) = some e.v
def vg (cfg : Cfg) : List Fact → Prop
 | [] => True
 | e :: l => e.Ok cfg ∧ vg cfg l
theorem vg.nil {cfg : Cfg} : vg cfg [] := trivial
theorem vg.consF {cfg : Cfg} {f : Nat} {args : List AV} {v : AV} {l : List Fact} (h : EVf (EV cfg) f args = some v) (t : vg cfg l) : vg cfg (⟨true, f, args, v⟩ :: l) := ⟨h, t⟩
noncomputable def qaF (frz : Bool) (f : Nat) (args : List AV) (fs : List Fact) : Option AV :=
 List.rec (motive := fun _ => Option AV) none (fun e _ ih => cond (qpJ e.f f && (e.frz == frz && x9 e.args args)) (some e.v) ih) fs
theorem qa9 {cfg : Cfg} {frz : Bool} {f : Nat} {args : List AV} {v : AV} : ∀ {fs : List Fact}, vg cfg fs → qaF frz f args fs = some v → (if frz then EVf (EV cfg) f args else EVs (EV cfg) f args) = some v
 | [], _, h => by cases h
 | e :: l, hok, h => by
  have hd : qaF frz f args (e :: l) = cond (qpJ e.f f && (e.frz == frz && x9 e.args args)) (some e.v) (qaF frz f args l) := rfl
  rw [hd] at h
  cases hc : (qpJ e.f f && (e.frz == frz && x9 e.args args)) with
  | true =>
   rw [hc] at h
   simp only [qpo, beq_iff_eq] at hc
   cases h
   have := hok.1
   unfold Fact.Ok at this
   rw [← qpt hc.1, ← hc.2.1, ← ye hc.2.2]
   exact this
  | false =>
   rw [hc] at h
   exact qa9 hok.2 h
noncomputable def qew (cfg : Cfg) (cf : Orac) (nid : Option Nat) (t : Tgt) (args : List AV) (H : AH) (k : AV → AH → Option β) : Option β :=
 match qy cfg cf nid t args H with
 | some r => gA r.1 fun v => gH r.2 fun H' => k v H'
 | none => none
noncomputable def qk8 (_cfg : Cfg) (cf : Orac) (fs : List Fact) (f : Nat) (al : List AV) (k : AV → Option β) : Option β :=
 cond (qk 0 al)
  (match qaF false f al fs with
  | some v => cond v.scalar (k v) none
  | none => (match cf (.f f) al [] with | some r => gA r.1 fun v => cond v.scalar (k v) none | none => none)) none
noncomputable def qk9 (_cfg : Cfg) (cf : Orac) (fs : List Fact) (f : Nat) (al : List AV) (k : AV → Option β) : Option β :=
 cond (qk 0 al)
  (match qaF true f al fs with
  | some v => cond (v.refsLt 0) (k v) none
  | none => (match cf (.f f) al [] with | some r => gA (r.1.frz r.1.msIds r.2).fg fun v => cond (v.refsLt 0) (k v) none | none => none)) none
noncomputable def qg6 (cfg : Cfg) (cf : Orac) (fs : List Fact) (nid : Option Nat) (t : Tgt) (args : List AV) (H : AH) (k : AV → AH → Option β) : Option β :=
 match t with
 | .y id => qew cfg cf nid (.y id) args H k
 | .f f =>
  match cfg.mode f with
  | .scal => gL gA (args.map fun a => (a.snap H).fg) fun al => qk8 cfg cf fs f al fun v => k v H
  | .pfrz => gL gA (args.map AV.fg) fun al => qk9 cfg cf fs f al fun v => k v H
  | _ => qew cfg cf nid (.f f) args H k
noncomputable def qk7 (cfg : Cfg) (cf : Orac) (fs : List Fact) (nid : Option Nat) (f : AV) (args : List AV) (H : AH) (k : AV → AH → Option β) : Option β :=
 match xA f args with
 | some t => qg6 cfg cf fs nid t.1 t.2 H k
 | none => none
def Le (cf cf' : Orac) : Prop := ∀ t a H r, cf t a H = some r → cf' t a H = some r
theorem qiu {cfg : Cfg} {cf : Orac} (hcf : Le cf (EV cfg)) {fs : List Fact} (hfs : vg cfg fs) {nid : Option Nat} {t : Tgt} {args : List AV} {H : AH} {k : AV → AH → Option β} {r : β}
  (h : qg6 cfg cf fs nid t args H k = some r) : ∃ q, qy cfg (EV cfg) nid t args H = some q ∧ k q.1 q.2 = some r := by
 have hev : Ev (fun _ => EV cfg) cf := fun t a H r h => ⟨0, fun _ _ => hcf t a H r h⟩
 have gen : ∀ (t : Tgt), qew cfg cf nid t args H k = some r → ∃ q, qy cfg (EV cfg) nid t args H = some q ∧ k q.1 q.2 = some r := by
  intro t h
  unfold qew at h
  split at h
  ·rename_i q hq
   rw [zA, qdu] at h
   obtain ⟨n, hn⟩ := qif hev cfg nid t args H q hq
   exact ⟨q, hn n (qps _), h⟩
  ·cases h
 cases t with
 | y id => exact gen _ h
 | f f =>
  simp only [qg6] at h
  cases hm : cfg.mode f with
  | scal =>
   simp only [hm, yy zA] at h
   unfold qk8 at h
   obtain ⟨h1, h⟩ := qc h
   simp only [qy, hm, h1, if_true]
   split at h
   ·rename_i v hv
    obtain ⟨h2, h⟩ := qc h
    have := qa9 hfs hv
    simp only [qpv, if_false] at this
    unfold EVs at this
    obtain ⟨q, hq, rfl⟩ := qpq.1 this
    rw [hq]
    exact ⟨(q.1, H), by simp only [qpy, h2, if_true], h⟩
   ·split at h
    ·rename_i q hq
     rw [zA] at h
     obtain ⟨h2, h⟩ := qc h
     rw [hcf _ _ _ _ hq]
     exact ⟨(q.1, H), by simp only [qpy, h2, if_true], h⟩
    ·cases h
  | pfrz =>
   simp only [hm, yy zA] at h
   unfold qk9 at h
   obtain ⟨h1, h⟩ := qc h
   simp only [qy, hm, h1, if_true]
   split at h
   ·rename_i v hv
    obtain ⟨h2, h⟩ := qc h
    have := qa9 hfs hv
    simp only [if_true] at this
    unfold EVf at this
    obtain ⟨q, hq, rfl⟩ := qpq.1 this
    rw [hq]
    exact ⟨((q.1.frz q.1.msIds q.2).fg, H), by simp only [qpy, h2, if_true], h⟩
   ·split at h
    ·rename_i q hq
     rw [zA] at h
     obtain ⟨h2, h⟩ := qc h
     rw [hcf _ _ _ _ hq]
     exact ⟨((q.1.frz q.1.msIds q.2).fg, H), by simp only [qpy, h2, if_true], h⟩
    ·cases h
  | _ => simp only [hm] at h; exact gen _ h
noncomputable def qan (cfg : Cfg) (cf : Orac) (fs : List Fact) (nid : Option Nat) (o : Op) (ty : TypeId) (x : Operand → AV) (H : AH) (k : AV → AH → Option β) : Option β :=
 match o with
 | .call c =>
  (match c.callee with
  | .value f => gL gW (c.args.toList.map x) fun args => qk7 cfg cf fs nid (x f) args H k
  | _ => yOp cfg nid (.call c) ty x H k)
 | o => yOp cfg nid o ty x H k
noncomputable def qgO (cfg : Cfg) (cf : Orac) (fs : List Fact) (frz : Bool) (nid : Option Nat) (o : Oper) (x : Operand → AV) (H : AH) (k : AV → AH → Option β) : Option β :=
 match frz with
 | false => qan cfg cf fs nid o.op o.type x H k
 | true => gS (o.op.operands.toList.flatMap fun a => (x a).msIds) fun ids => gH (qu ids H) fun H' => qan cfg cf fs nid o.op o.type (fun a => (x a).frz ids H) H' k
theorem qdB {cfg : Cfg} {cf : Orac} (hcf : Le cf (EV cfg)) {fs : List Fact} (hfs : vg cfg fs) {nid : Option Nat} {o : Oper} {x : Operand → AV} {H : AH} {k : AV → AH → Option β} {r : β}
  (h : qan cfg cf fs nid o.op o.type x H k = some r) : ∃ q, qK cfg (EV cfg) false nid o x H = some q ∧ k q.1 q.2 = some r := by
 obtain ⟨dst, op, ty, pos, after, guard⟩ := o
 unfold qK
 simp only [qpv, if_false] at h ⊢
 have plain : ∀ (op : Op), yOp cfg nid op ty x H k = some r → ∃ q, evOp cfg nid op ty x H = some q ∧ k q.1 q.2 = some r := by
  intro op h
  rw [qoz] at h
  exact qpp.1 h
 cases op with
 | call c =>
  obtain ⟨callee, args, argTypes⟩ := c
  cases callee with
  | value f =>
   simp only [qan, yy qfm] at h ⊢
   unfold qk7 at h
   split at h
   ·rename_i t ht
    rw [ht]
    exact qiu hcf hfs h
   ·cases h
  | builtin b => simp only [qan] at h ⊢; exact plain _ h
  | invoke rv nm => simp only [qan] at h ⊢; exact plain _ h
 | _ => simp only [qan] at h ⊢; exact plain _ h
theorem qer {cfg : Cfg} {cf : Orac} (hcf : Le cf (EV cfg)) {fs : List Fact} (hfs : vg cfg fs) {frz : Bool} {nid : Option Nat} {o : Oper} {x : Operand → AV} {H : AH} {k : AV → AH → Option β} {r : β}
  (h : qgO cfg cf fs frz nid o x H k = some r) : ∃ q, qK cfg (EV cfg) frz nid o x H = some q ∧ k q.1 q.2 = some r := by
 cases frz with
 | false => exact qdB hcf hfs h
 | true =>
  simp only [qgO, xC, qdu] at h
  obtain ⟨q, h1, h2⟩ := qdB hcf hfs h
  refine ⟨q, ?_, h2⟩
  unfold qK at h1 ⊢
  simpa using h1
noncomputable def yOps (cfg : Cfg) (cf : Orac) (fs : List Fact) (f rid : Nat) (ops : Array Oper) (n : Nat) : Nat → List Oper → Ov → AH → (Ov → AH → Option β) → Option β
 | _, [], ov, H, K => K ov H
 | i, o :: rest, ov, H, K =>
  match qaj ops ov o with
  | none => none
  | some b =>
   cond b (qgO cfg cf fs (cfg.frz f rid i) none o (opdO ov) H fun v H' => yOps cfg cf fs f rid ops n (i + 1) rest (putO n ov o.dst v) H' K)
    (yOps cfg cf fs f rid ops n (i + 1) rest (putO n ov o.dst (.tup [])) H K)
theorem qci {cfg : Cfg} {cf : Orac} (hcf : Le cf (EV cfg)) {fs : List Fact} (hfs : vg cfg fs) {f rid n : Nat} {ops : Array Oper} {r : β} : ∀ {l : List Oper} {i : Nat} {ov : Ov} {H : AH} {K : Ov → AH → Option β}, OvOk n ov → yOps cfg cf fs f rid ops n i l ov H K = some r →
  ∃ ov' H', OvOk n ov' ∧ yQ cfg (EV cfg) f rid ops i l (den n ov) H = some (den n ov', H') ∧ K ov' H' = some r
 | [], i, ov, H, K, hok, h => ⟨ov, H, hok, rfl, h⟩
 | o :: l, i, ov, H, K, hok, h => by
  rw [yOps] at h
  rw [yQ, qeD hok]
  cases hw : qaj ops ov o with
  | none => rw [hw] at h; cases h
  | some b =>
   rw [hw] at h
   simp only [qpy]
   cases b with
   | true =>
    simp only [cond_true] at h
    obtain ⟨q, h1, h2⟩ := qer hcf hfs h
    simp only [if_true, qbm hok, h1, qpy]
    obtain ⟨ov', H', h3, h4, h5⟩ := qci hcf hfs (qdm hok _ _) h2
    rw [qbM] at h4
    exact ⟨ov', H', h3, h4, h5⟩
   | false =>
    simp only [cond_false] at h
    simp only [qpv, if_false]
    obtain ⟨ov', H', h3, h4, h5⟩ := qci hcf hfs (qdm hok _ _) h
    rw [qbM] at h4
    exact ⟨ov', H', h3, h4, h5⟩
noncomputable def qev (cfg : Cfg) (cf : Orac) (fs : List Fact) (f rid : Nat) (ops : Array Oper) (n : Nat) : Nat → Nat → List Oper → Ov → AH → (List DR → Ov → AH → Option β) → Option β
 | _, _, [], ov, H, K => K [] ov H
 | i, at_, o :: rest, ov, H, K =>
  match qaj ops ov o with
  | none => none
  | some b =>
   fNat (at_ + qaC cfg o) fun at' =>
   cond b (qgO cfg cf fs (cfg.frz f rid i) (some at_) o (opdO ov) H fun v H' => qev cfg cf fs f rid ops n (i + 1) at' rest (putO n ov o.dst v) H' fun fps ov' H'' => K (drOf cfg (cfg.frz f rid i) at_ o (opdO ov) H v H' :: fps) ov' H'')
    (qev cfg cf fs f rid ops n (i + 1) at' rest (putO n ov o.dst (.tup [])) H fun fps ov' H'' => K (drNo H :: fps) ov' H'')
theorem qbE {cfg : Cfg} {cf : Orac} (hcf : Le cf (EV cfg)) {fs : List Fact} (hfs : vg cfg fs) {f rid n : Nat} {ops : Array Oper} {r : β} : ∀ {l : List Oper} {i at_ : Nat} {ov : Ov} {H : AH} {K : List DR → Ov → AH → Option β}, OvOk n ov → qev cfg cf fs f rid ops n i at_ l ov H K = some r →
  ∃ fps ov' H', OvOk n ov' ∧ xo cfg (EV cfg) f rid ops i at_ l (den n ov) H = some (fps, den n ov', H') ∧ K fps ov' H' = some r
 | [], i, at_, ov, H, K, hok, h => ⟨[], ov, H, hok, rfl, h⟩
 | o :: l, i, at_, ov, H, K, hok, h => by
  rw [qev] at h
  rw [xo, qeD hok]
  cases hw : qaj ops ov o with
  | none => rw [hw] at h; cases h
  | some b =>
   rw [hw] at h
   simp only [qpy]
   simp only [x8] at h
   cases b with
   | true =>
    simp only [cond_true] at h
    obtain ⟨q, h1, h2⟩ := qer hcf hfs h
    simp only [if_true, qbm hok, h1, qpy]
    obtain ⟨fps, ov', H', h3, h4, h5⟩ := qbE hcf hfs (qdm hok _ _) h2
    rw [qbM] at h4
    exact ⟨_, ov', H', h3, by rw [h4]; rfl, h5⟩
   | false =>
    simp only [cond_false] at h
    simp only [qpv, if_false]
    obtain ⟨fps, ov', H', h3, h4, h5⟩ := qbE hcf hfs (qdm hok _ _) h
    rw [qbM] at h4
    exact ⟨_, ov', H', h3, by rw [h4]; rfl, h5⟩
def zJ : Nat → List Nat → Bool
 | _, [] => true
 | i, k :: ks => qpG i k && zJ (k + 1) ks
noncomputable def qgS (ks : List Nat) (ov : Ov) : (Ov → α) → α :=
 List.rec (motive := fun _ => (Ov → α) → α) (fun K => K []) (fun t _ ih K => gW (vo t ov) fun v => ih fun l => K ((t, v) :: l)) ks
theorem qmD (ks : List Nat) (ov : Ov) : ∀ (K : Ov → α), qgS ks ov K = K (ks.map fun t => (t, vo t ov)) := by
 induction ks with
 | nil => intro K; rfl
 | cons t l ih =>
  intro K
  have : qgS (t :: l) ov K = gW (vo t ov) fun v => qgS l ov fun l => K ((t, v) :: l) := rfl
  rw [this, qfm, ih, List.map_cons]
theorem z8 : ∀ (ks : List Nat) (fr : List AV) (i t : Nat), zJ i ks = true → (vE i ks fr)[t]? = if t < fr.length then some (if i + t ∈ ks then (fr[t]?).getD .junk else .junk) else none
 | ks, [], i, t, _ => by cases ks <;> simp [vE]
 | [], a :: fr, i, t, h => by
  rw [vE]
  cases t with
  | zero => simp
  | succ t =>
   simp only [List.getElem?_cons_succ]
   rw [z8 [] fr i t rfl]
   simp
 | k :: ks, a :: fr, i, t, h => by
  rw [zJ, qpo, Nat.ble_eq] at h
  rw [vE]
  have hge : ∀ (l : List Nat) (j : Nat), zJ j l = true → ∀ x ∈ l, j ≤ x := by
   intro l
   induction l with
   | nil => intro j _ x hx; cases hx
   | cons y l ih =>
    intro j hj x hx
    rw [zJ, qpo, Nat.ble_eq] at hj
    rcases qpM.1 hx with rfl | hx
    ·exact hj.1
    ·have := ih _ hj.2 x hx; omega
  split
  ·rename_i e
   have e := qpt e
   subst e
   cases t with
   | zero => simp
   | succ t =>
    simp only [List.getElem?_cons_succ]
    rw [z8 ks fr (i + 1) t h.2]
    have e1 : i + (t + 1) = i + 1 + t := by omega
    have e2 : ¬ i + 1 + t = i := by omega
    simp only [qpC, Nat.add_lt_add_iff_right, e1, qpM, e2, false_or]
  ·rename_i e
   have hne : i ≠ k := fun h' => e (by rw [h']; exact Nat.beq_refl _)
   cases t with
   | zero =>
    have : i ∉ k :: ks := by
     intro hm
     rcases qpM.1 hm with rfl | hm
     ·exact hne rfl
     ·have := hge _ _ h.2 i hm; omega
    simp [this]
   | succ t =>
    simp only [List.getElem?_cons_succ]
    rw [z8 (k :: ks) fr (i + 1) t (by rw [zJ, qpo, Nat.ble_eq]; exact ⟨by omega, h.2⟩)]
    have e1 : i + (t + 1) = i + 1 + t := by omega
    simp only [qpC, Nat.add_lt_add_iff_right, e1]
theorem qlF (ks : List Nat) (g : Nat → AV) (t : Nat) : vo t (ks.map fun t => (t, g t)) = if t ∈ ks then g t else .junk := by
 induction ks with
 | nil => rfl
 | cons k l ih =>
  rw [List.map_cons, y8, ih]
  by_cases e : k = t
  ·subst e; simp
  ·have h1 : qpJ k t = false := by rw [← qpI]; intro h'; exact e (qpt h')
   have h2 : ¬ t = k := fun h => e h.symm
   rw [h1, cond_false]
   simp only [qpM, h2, false_or]
noncomputable def qes (n : Nat) (ts : Option (List Nat)) (ov : Ov) (K : Ov → Option β) : Option β :=
 match ts with
 | none => K ov
 | some ks => cond (zJ 0 ks && ks.all fun t => Nat.blt t n) (qgS ks ov K) none
theorem qbD {n : Nat} {ts : Option (List Nat)} {ov : Ov} {K : Ov → Option β} {r : β} (hok : OvOk n ov) (h : qes n ts ov K = some r) : ∃ ov', OvOk n ov' ∧ qX ts (den n ov) = den n ov' ∧ K ov' = some r := by
 cases ts with
 | none => exact ⟨ov, hok, rfl, h⟩
 | some ks =>
  simp only [qes, qmD] at h
  cases hc : (zJ 0 ks && ks.all fun t => Nat.blt t n) with
  | false => rw [hc] at h; cases h
  | true =>
   rw [hc] at h
   rw [qpo, List.all_eq_true] at hc
   have hok' : OvOk n (ks.map fun t => (t, vo t ov)) := by
    intro p hp
    obtain ⟨t, ht, rfl⟩ := List.mem_map.1 hp
    have := hc.2 t ht
    simpa [qpP] using this
   refine ⟨_, hok', (qga hok' ?_ fun t ht => ?_).symm, h⟩
   ·show (vE 0 ks (den n ov)).length = n
    rw [(zd (ts := ks) (fr := den n ov) (k := 0)).1, qbv]
   ·show (vE 0 ks (den n ov))[t]? = _
    rw [z8 _ _ _ _ hc.1, qbv, if_pos ht, Nat.zero_add, qlF, qbw hok, if_pos ht]
    rfl
noncomputable def zX (n : Nat) : List (Tmp × Nat) → Ov → AH → (Ov → AH → Option β) → Option β
 | [], ov, H, K => K ov H
 | p :: l, ov, H, K =>
  match vo p.1 ov with
  | .nilS => fNat H.length fun i => cond (Nat.blt p.1 n) (gS (H ++ [.rows true p.2 []]) fun H' => zX n l ((p.1, .ms i 0 0) :: ov) H' K) none
  | .ptr _ _ _ => (match ya p.1 p.2 (den n ov) H with | q => gH q.2 fun H' => zX n l ov H' K)
  | _ => zX n l ov H K
theorem qlL {t sz : Nat} {fr : List AV} {H : AH} {id r off : Nat} (h : fr[t]? = some (.ptr id r off)) : (ya t sz fr H).1 = fr := by
 unfold ya
 rw [h]
 simp only
 split
 ·split
  ·split <;> rfl
  ·rfl
 ·rfl
theorem yq {n : Nat} {r : β} : ∀ {ls : List (Tmp × Nat)} {ov : Ov} {H : AH} {K : Ov → AH → Option β}, OvOk n ov → zX n ls ov H K = some r → ∃ ov' H', OvOk n ov' ∧ qO ls (den n ov) H = (den n ov', H') ∧ K ov' H' = some r
 | [], ov, H, K, hok, h => ⟨ov, H, hok, rfl, h⟩
 | p :: l, ov, H, K, hok, h => by
  rw [zX] at h
  rw [qO]
  have hget : (den n ov)[p.1]? = if p.1 < n then some (vo p.1 ov) else none := qbw hok p.1
  split at h
  ·rename_i hv
   simp only [x8] at h
   cases hb : Nat.blt p.1 n with
   | false => rw [hb] at h; cases h
   | true =>
    rw [hb] at h
    simp only [cond_true, xC] at h
    have hlt : p.1 < n := by simpa [qpP] using hb
    have hl1 : ya p.1 p.2 (den n ov) H = (den n ((p.1, .ms H.length 0 0) :: ov), H ++ [.rows true p.2 []]) := by
     unfold ya
     rw [hget, if_pos hlt, hv]; rfl
    rw [hl1]
    exact yq (fun q hq => (qpM.1 hq).elim (fun e => by subst e; exact hlt) (hok q)) h
  ·rename_i id r' off hv
   simp only [qdu] at h
   by_cases hlt : p.1 < n
   ·rw [qlL (by rw [hget, if_pos hlt, hv])]
    exact yq hok h
   ·rw [qcD hok hlt] at hv; cases hv
  ·rename_i h1 h2
   have hl1 : ya p.1 p.2 (den n ov) H = (den n ov, H) := by
    unfold ya
    rw [hget]
    by_cases hlt : p.1 < n
    ·rw [if_pos hlt]
     split
     ·rename_i e; exact absurd (Option.some.inj e) h1
     ·rename_i a b c e; exact absurd (Option.some.inj e) (h2 a b c)
     ·rfl
    ·rw [if_neg hlt]
   rw [hl1]
   exact yq hok h
def spGo : Nat → List AV → Ov
 | _, [] => []
 | i, .junk :: l => spGo (i + 1) l
 | i, v :: l => (i, v) :: spGo (i + 1) l
theorem qhp : ∀ (l : List AV) (i t : Nat), vo t (spGo i l) = if i ≤ t then (l[t - i]?).getD .junk else .junk
 | [], i, t => by simp [spGo, qcC]
 | a :: l, i, t => by
  have ih := qhp l (i + 1) t
  have key : ∀ (ov : Ov), ov = (i, a) :: spGo (i + 1) l → vo t ov = if i ≤ t then ((a :: l)[t - i]?).getD .junk else .junk := by
   intro ov e
   rw [e, y8, ih]
   by_cases e2 : i = t
   ·subst e2; simp
   ·have h1 : qpJ i t = false := by rw [← qpI]; intro h'; exact e2 (qpt h')
    simp only [h1, cond_false]
    by_cases h3 : i + 1 ≤ t
    ·have h4 : t - i = (t - (i + 1)) + 1 := by omega
     rw [if_pos h3, if_pos (by omega), h4, List.getElem?_cons_succ]
    ·rw [if_neg h3, if_neg (by omega)]
  cases a with
  | junk =>
   show vo t (spGo (i + 1) l) = _
   rw [ih]
   by_cases h3 : i + 1 ≤ t
   ·have h4 : t - i = (t - (i + 1)) + 1 := by omega
    rw [if_pos h3, if_pos (by omega), h4, List.getElem?_cons_succ]
   ·rw [if_neg h3]
    by_cases e2 : i = t
    ·subst e2; simp
    ·rw [if_neg (by omega)]
  | _ => exact key _ rfl
theorem qbj : ∀ (l : List AV) (i n : Nat), i + l.length ≤ n → OvOk n (spGo i l)
 | [], i, n, _ => fun p hp => by cases hp
 | a :: l, i, n, h => by
  simp only [qpC] at h
  have ih := qbj l (i + 1) n (by omega)
  have key : OvOk n ((i, a) :: spGo (i + 1) l) := fun p hp => by
   rcases qpM.1 hp with rfl | hp
   ·show i < n; omega
   ·exact ih p hp
  cases a <;> first | exact key | exact ih
theorem qie (l : List AV) : den l.length (spGo 0 l) = l := by
 have hok := qbj l 0 l.length (by omega)
 refine qga hok rfl fun t ht => ?_
 rw [qhp, if_pos (Nat.zero_le _), Nat.sub_zero, qpr ht]; rfl
noncomputable def yGc (n k : Nat) (ov : Ov) (H : AH) (K : Ov → AH → Option β) : Option β :=
 cond (qpG H.length k) (K ov H) (match zi k (den n ov) H with | q => gS (spGo 0 q.1) fun ov' => gL gP ov' fun ov' => gH q.2 fun H' => K ov' H')
theorem qmw (ρ : Nat → Nat) (l : List AV) : (renL ρ l).length = l.length := by rw [xq]; simp
theorem qlW (k : Nat) (fr : List AV) (H : AH) : (zi k fr H).1.length = fr.length := by
 unfold zi
 simp only
 cases vO H (vI k H (2 * H.length + 16) [] (qq k fr ++ vM k (H.take k))) with
 | none => rfl
 | some bs =>
  simp only
  split
  ·exact qmw _ _
  ·rfl
theorem qmh {n k : Nat} {ov : Ov} {H : AH} {K : Ov → AH → Option β} {r : β} (hok : OvOk n ov) (h : yGc n k ov H K = some r) : ∃ ov' H', OvOk n ov' ∧ gc k (den n ov) H = (den n ov', H') ∧ K ov' H' = some r := by
 unfold yGc at h
 unfold gc
 cases hb : qpG H.length k with
 | true => rw [hb] at h; exact ⟨ov, H, hok, by simp, h⟩
 | false =>
  rw [hb] at h
  simp only [cond_false] at h
  rw [xC, yy qnH, qdu] at h
  have hl : (zi k (den n ov) H).1.length = n := by rw [qlW, qbv]
  have := qie (zi k (den n ov) H).1
  rw [hl] at this
  refine ⟨_, _, ?_, ?_, h⟩
  ·exact qbj _ _ _ (by omega)
  ·simp only [qpv, if_false, this]
noncomputable def qjH (n k : Nat) (ts : Option (List Tmp)) (ls : List (Tmp × Nat)) (ov : Ov) (H : AH) (K : Ov → AH → Option β) : Option β :=
 qes n ts ov fun ov => zX n ls ov H fun ov H => yGc n k ov H K
theorem qeu {n k : Nat} {ts : Option (List Tmp)} {ls : List (Tmp × Nat)} {ov : Ov} {H : AH} {K : Ov → AH → Option β} {r : β} (hok : OvOk n ov) (h : qjH n k ts ls ov H K = some r) :
  ∃ ov' H', OvOk n ov' ∧ ym k ts ls (den n ov) H = (den n ov', H') ∧ K ov' H' = some r := by
 obtain ⟨ov1, h1, h2, h⟩ := qbD hok h
 obtain ⟨ov2, H2, h3, h4, h⟩ := yq h1 h
 obtain ⟨ov3, H3, h5, h6, h⟩ := qmh h3 h
 refine ⟨ov3, H3, h5, ?_, h⟩
 unfold ym
 rw [h2, h4]
 exact h6
abbrev YE (β : Type) := Ex → Ov → AH → Option β
noncomputable def qgP (n k : Nat) (ts : Option (List Tmp)) (ls : List (Tmp × Nat)) (body : Ov → AH → YE β → Option β) : Nat → Ov → AH → YE β → Option β
 | 0, _, _, _ => none
 | m + 1, ov, H, K => body ov H fun e ov' H' =>
  match e with
  | .normal => qjH n k ts ls ov' H' fun ov2 H2 => qgP n k ts ls body m ov2 H2 K
  | e => K e ov' H'
noncomputable def qk6 (cfg : Cfg) (cf : Orac) (f : Nat) (rd : Option Nat) (n bs : Nat) (g : Operand) (ps : Array Tmp) (assign body : Code) (ov : Ov) (H : AH) (K : YE β) : Option β :=
 gL gW (den n ov) fun fr =>
 match yZ cfg cf f rd bs g ps assign body fr H with
 | none => none
 | some q => gS (spGo 0 q.2.1) fun ov' => gL gP ov' fun ov' => gH q.2.2 fun H' => cond (qpJ q.2.1.length n) (K q.1 ov' H') none
noncomputable def yC (cfg : Cfg) (cf : Orac) (fs : List Fact) (m f : Nat) (rd : Option Nat) (n bs : Nat) : Code → Ov → AH → YE β → Option β
 | .skip, ov, H, K => K .normal ov H
 | .label _, ov, H, K => K .normal ov H
 | .region id ops draw, ov, H, K =>
  match draw with
  | true => cond (qaI ops) (gS (H ++ qpK (places cfg ops.toList) .res) fun H1 => qev cfg cf fs f id ops n 0 H.length ops.toList ov H1 fun fps ov' H' => cond (qbu (ancs [] ops.toList) H1 fps) (K .normal ov' H') none) none
  | false => yOps cfg cf fs f id ops n 0 ops.toList ov H fun ov' H' => K .normal ov' H'
 | .seq a b, ov, H, K => yC cfg cf fs m f rd n bs a ov H fun e ov' H' =>
  match e with
  | .normal => qes n (cfg.cut f (qj b)) ov' fun ov2 => yC cfg cf fs m f rd n bs b ov2 H' K
  | e => K e ov' H'
 | .cond c a b, ov, H, K =>
  match opdO ov c with
  | .bool t => (match t with | true => yC cfg cf fs m f rd n bs a ov H K | false => yC cfg cf fs m f rd n bs b ov H K)
  | _ => none
 | .block id a, ov, H, K => yC cfg cf fs m f rd n bs a ov H fun e ov' H' =>
  match e with
  | .exit id' => cond (qpJ id' id) (K .normal ov' H') (K (.exit id') ov' H')
  | e => K e ov' H'
 | .loop a, ov, H, K => qjH n bs (cfg.keepIn f (qj a)) (cfg.lift f (qj a)) ov H fun ov H =>
   qgP n bs (cfg.keepIn f (qj a)) (cfg.lift f (qj a)) (yC cfg cf fs m f rd n bs a) m ov H fun e ov H => qes n (cfg.keepOut f (qj a)) ov fun ov => K e ov H
 | .scope a, ov, H, K => yC cfg cf fs m f rd n bs a ov H fun e ov' H' =>
  match e with
  | .goto _ => none
  | e => K e ov' H'
 | .exit id, ov, H, K => K (.exit id) ov H
 | .goto _, _, _, _ => none
 | .ret, ov, H, K => K .ret ov H
 | .rangeFunc g ps assign body, ov, H, K => zX n (cfg.lift f (qj body)) ov H fun ov H => qk6 cfg cf f rd n bs g ps assign body ov H K
 | .refuse _, _, _, _ => none
theorem qet {n k : Nat} {ts : Option (List Tmp)} {ls : List (Tmp × Nat)} {body : Ov → AH → YE β → Option β} {den' : Den} {r : β}
  (hb : ∀ {ov H K}, OvOk n ov → body ov H K = some r → ∃ e ov' H', OvOk n ov' ∧ den' (den n ov) H = some (e, den n ov', H') ∧ K e ov' H' = some r) :
  ∀ (m : Nat) {ov : Ov} {H : AH} {K : YE β}, OvOk n ov → qgP n k ts ls body m ov H K = some r → ∃ e ov' H', OvOk n ov' ∧ xN k ts ls den' m (den n ov, H) = some (e, den n ov', H') ∧ K e ov' H' = some r
 | 0, ov, H, K, _, h => by cases h
 | m + 1, ov, H, K, hok, h => by
  rw [qgP] at h
  obtain ⟨e, ov1, H1, h1, h2, h3⟩ := hb hok h
  rw [xN]
  simp only [h2, qpy]
  cases e with
  | normal =>
   simp only at h3 ⊢
   obtain ⟨ov2, H2, h4, h5, h6⟩ := qeu h1 h3
   rw [h5]
   exact qet hb m h4 h6
  | exit id => exact ⟨_, ov1, H1, h1, rfl, h3⟩
  | goto l => exact ⟨_, ov1, H1, h1, rfl, h3⟩
  | ret => exact ⟨_, ov1, H1, h1, rfl, h3⟩
theorem qfM {cfg : Cfg} {cf : Orac} (hcf : Le cf (EV cfg)) {fs : List Fact} (hfs : vg cfg fs) {m f : Nat} {rd : Option Nat} {n bs : Nat} {r : β} : ∀ (c : Code) {ov : Ov} {H : AH} {K : YE β}, OvOk n ov → yC cfg cf fs m f rd n bs c ov H K = some r →
  ∃ e ov' H', OvOk n ov' ∧ evC cfg (EV cfg) f rd bs c (den n ov) H = some (e, den n ov', H') ∧ K e ov' H' = some r := by
 intro c
 induction c with
 | skip => intro ov H K hok h; exact ⟨_, ov, H, hok, by simp only [evC], h⟩
 | label l => intro ov H K hok h; exact ⟨_, ov, H, hok, by simp only [evC], h⟩
 | exit id => intro ov H K hok h; exact ⟨_, ov, H, hok, by simp only [evC], h⟩
 | ret => intro ov H K hok h; exact ⟨_, ov, H, hok, by simp only [evC], h⟩
 | goto l => intro ov H K hok h; cases h
 | refuse s => intro ov H K hok h; cases h
 | region id ops draw =>
  intro ov H K hok h
  simp only [yC] at h
  simp only [evC]
  cases draw with
  | true =>
   simp only at h
   obtain ⟨h1, h⟩ := qc h
   rw [xC] at h
   obtain ⟨fps, ov', H', h2, h3, h⟩ := qbE hcf hfs hok h
   obtain ⟨h4, h⟩ := qc h
   exact ⟨_, ov', H', h2, by simp only [if_true, h1, h3, qpy, h4], h⟩
  | false =>
   simp only at h
   obtain ⟨ov', H', h2, h3, h⟩ := qci hcf hfs hok h
   exact ⟨_, ov', H', h2, by simp only [qpv, if_false, h3, qpF], h⟩
 | seq x y ihx ihy =>
  intro ov H K hok h
  simp only [yC] at h
  simp only [evC]
  obtain ⟨e, ov1, H1, h1, h2, h⟩ := ihx hok h
  rw [h2]
  simp only [qpy]
  cases e with
  | normal =>
   simp only at h ⊢
   obtain ⟨ov2, h3, h4, h⟩ := qbD h1 h
   rw [h4]
   exact ihy h3 h
  | exit id => exact ⟨_, ov1, H1, h1, rfl, h⟩
  | goto l => exact ⟨_, ov1, H1, h1, rfl, h⟩
  | ret => exact ⟨_, ov1, H1, h1, rfl, h⟩
 | cond c x y ihx ihy =>
  intro ov H K hok h
  simp only [yC] at h
  simp only [evC, qbm hok]
  split at h
  ·rename_i t ht
   rw [ht]
   cases t with
   | true => exact ihx hok h
   | false => exact ihy hok h
  ·cases h
 | block id x ih =>
  intro ov H K hok h
  simp only [yC] at h
  simp only [evC]
  obtain ⟨e, ov1, H1, h1, h2, h⟩ := ih hok h
  rw [h2]
  simp only [qpy]
  cases e with
  | normal => exact ⟨_, ov1, H1, h1, rfl, h⟩
  | exit id' =>
   simp only at h ⊢
   cases hb : qpJ id' id with
   | true => rw [hb] at h; exact ⟨_, ov1, H1, h1, by simp, h⟩
   | false => rw [hb] at h; exact ⟨_, ov1, H1, h1, by simp, h⟩
  | goto l => exact ⟨_, ov1, H1, h1, rfl, h⟩
  | ret => exact ⟨_, ov1, H1, h1, rfl, h⟩
 | loop x ih =>
  intro ov H K hok h
  simp only [yC] at h
  simp only [evC]
  obtain ⟨ov1, H1, h1, h2, h⟩ := qeu hok h
  rw [h2]
  obtain ⟨e, ov2, H2, h3, h4, h⟩ := qet (den' := evC cfg (EV cfg) f rd bs x) (fun hok h => ih hok h) m h1 h
  obtain ⟨ov3, h5, h6, h⟩ := qbD h3 h
  rw [qdz h4]
  exact ⟨e, ov3, H2, h5, by simp only [qpF, h6], h⟩
 | scope x ih =>
  intro ov H K hok h
  simp only [yC] at h
  simp only [evC]
  obtain ⟨e, ov1, H1, h1, h2, h⟩ := ih hok h
  rw [h2]
  simp only [qpy]
  cases e with
  | goto l => cases h
  | normal => exact ⟨_, ov1, H1, h1, rfl, h⟩
  | exit id => exact ⟨_, ov1, H1, h1, rfl, h⟩
  | ret => exact ⟨_, ov1, H1, h1, rfl, h⟩
 | rangeFunc g ps assign body =>
  intro ov H K hok h
  simp only [yC] at h
  simp only [evC]
  obtain ⟨ov1, H1, h1, h2, h⟩ := yq hok h
  rw [h2]
  simp only
  unfold qk6 at h
  rw [yy qfm] at h
  split at h
  ·cases h
  ·rename_i q hq
   have hq : yZ cfg (EV cfg) f rd bs g ps assign body (den n ov1) H1 = some q := by
    unfold yZ at hq ⊢
    split at hq
    ·rename_i hl
     rw [if_pos hl]
     split at hq
     ·split at hq
      ·cases hq
      ·rename_i hx
       rw [if_neg hx]
       obtain ⟨q2, hq2, hq⟩ := qpp.1 hq
       rw [hcf _ _ _ _ hq2]
       exact hq
     ·cases hq
    ·cases hq
   rw [xC, yy qnH, qdu] at h
   obtain ⟨hl, h⟩ := qc h
   have hl := qpt hl
   have hd := qie q.2.1
   rw [hl] at hd
   refine ⟨q.1, _, q.2.2, ?_, ?_, h⟩
   ·exact qbj _ _ _ (by omega)
   ·rw [hq, hd]
noncomputable def resO (rs : List ResultVar) (ty : TypeId → Option TI) (ov : Ov) (H : AH) : Option (List AV) :=
 match rs with
 | [] => some []
 | .tmp t :: l => (resO l ty ov H).map fun vs => vo t ov :: vs
 | .cell a t :: l =>
  match ty t with
  | some ti => (xR ti.d.agg ti.sz H (vo a ov)).bind fun v => (resO l ty ov H).map fun vs => v :: vs
  | none => none
theorem qf1 {n : Nat} {ov : Ov} (hok : OvOk n ov) (ty : TypeId → Option TI) (H : AH) : ∀ rs : List ResultVar, vC rs ty (den n ov) H = resO rs ty ov H
 | [] => rfl
 | .tmp t :: l => by
  have : (den n ov).getD t .junk = vo t ov := congrFun (qbm hok) (.tmp t)
  simp only [vC, resO, qf1 hok ty H l, this]
 | .cell a t :: l => by
  have : (den n ov).getD a .junk = vo a ov := congrFun (qbm hok) (.tmp a)
  simp only [vC, resO, qf1 hok ty H l, this]
  cases ty t <;> rfl
noncomputable def yEnd (cfg : Cfg) (f n : Nat) (rs : List ResultVar) : YE (AV × AH) := fun e ov H =>
 match e with
 | .normal | .ret => zX n (cfg.lift f 0) ov H fun ov H => (match resO rs cfg.ty ov H with | some vs => gA (xH vs) fun v => some (v, H) | none => none)
 | _ => none
def qb2 : Nat → List AV → Ov
 | _, [] => []
 | i, a :: l => (i, a) :: qb2 (i + 1) l
theorem qeo : ∀ (l : List AV) (i n : Nat), i + l.length ≤ n → OvOk n (qb2 i l)
 | [], i, n, _ => fun p hp => by cases hp
 | a :: l, i, n, h => by
  simp only [qpC] at h
  intro p hp
  rcases qpM.1 hp with rfl | hp
  ·show i < n; omega
  ·exact qeo l (i + 1) n (by omega) p hp
theorem qgB : ∀ (l : List AV) (i t : Nat), vo t (qb2 i l) = if i ≤ t then (l[t - i]?).getD .junk else .junk
 | [], i, t => by simp [qb2, qcC]
 | a :: l, i, t => by
  rw [qb2, y8, qgB l (i + 1) t]
  by_cases e2 : i = t
  ·subst e2; simp
  ·have h1 : qpJ i t = false := by rw [← qpI]; intro h'; exact e2 (qpt h')
   simp only [h1, cond_false]
   by_cases h3 : i + 1 ≤ t
   ·have h4 : t - i = (t - (i + 1)) + 1 := by omega
    rw [if_pos h3, if_pos (by omega), h4, List.getElem?_cons_succ]
   ·rw [if_neg h3, if_neg (by omega)]
theorem qmV {l : List AV} {n : Nat} (h : l.length ≤ n) : den n (qb2 0 l) = l ++ qpK (n - l.length) .junk := by
 refine qga (qeo l 0 n (by omega)) (by simp; omega) fun t ht => ?_
 rw [qgB, if_pos (Nat.zero_le _), Nat.sub_zero]
 by_cases hl : t < l.length
 ·rw [qpu hl, qpr hl]; rfl
 ·rw [qpz (by omega), List.getElem?_replicate, if_pos (by omega), List.getElem?_eq_none (by omega)]; rfl
noncomputable def yY2 (id : Nat) : YE (AV × AH) := fun e _ H =>
 match H[id]? with
 | some (.loop f' fr' ps' assign' body' _ _) =>
  match e with
  | .normal => gS (H.set id (.loop f' fr' ps' assign' body' none .ready)) fun H' => some (.bool true, H')
  | .ret => gS (H.set id (.loop f' fr' ps' assign' body' (some .ret) .done)) fun H' => some (.bool false, H')
  | .exit x => gS (H.set id (.loop f' fr' ps' assign' body' (some (.exit x)) .done)) fun H' => some (.bool false, H')
  | .goto _ => none
 | _ => none
noncomputable def yF (cfg : Cfg) (look : Nat → Option Func) (fs : List Fact) (m : Nat) : Nat → Orac
 | 0, _, _, _ => none
 | d + 1, .f f, args, H =>
  match cfg.ext f with
  | some s => s args H
  | none =>
   if cfg.known f then
    match look f with
    | some fn =>
     match fn.body with
     | some c => cond (qpG args.length fn.ntmps) (fNat H.length fun bs => fNat fn.ntmps fun n => gS (qb2 0 args) fun ov => yC cfg (yF cfg look fs m d) fs m f none n bs c ov H (yEnd cfg f n fn.results.toList)) none
     | none => none
    | none => none
   else none
 | d + 1, .y id, args, H =>
  match H[id]? with
  | some (.loop f fr ps assign body _ .ready) =>
   cond (qpJ args.length ps.length)
    (fNat H.length fun bs => fNat (vY fr ps args).length fun n => gS (spGo 0 (vY fr ps args)) fun ov => yC cfg (yF cfg look fs m d) fs m f (some id) n bs assign ov H fun e ov H =>
     match e with
     | .normal =>
      (match H[id]? with
      | some (.loop f' fr' ps' assign' body' pend' .ready) => gS (H.set id (.loop f' fr' ps' assign' body' pend' .busy)) fun H' => yC cfg (yF cfg look fs m d) fs m f (some id) n bs body ov H' (yY2 id)
      | _ => none)
     | _ => none) none
  | _ => none
theorem qjI (cfg : Cfg) {look : Nat → Option Func} (hl : ∀ f fn, look f = some fn → cfg.P.funcs[f]? = some fn) {fs : List Fact} (hfs : vg cfg fs) (m : Nat) : ∀ (d : Nat) (t : Tgt) (a : List AV) (H : AH) (r), yF cfg look fs m d t a H = some r → EV cfg t a H = some r
 | 0, _, _, _, _, h => by cases h
 | d + 1, t, a, H, r, h => by
  have ih := qjI cfg hl hfs m d
  refine qah ?_
  cases t with
  | f f =>
   simp only [yF] at h
   unfold qZ
   split at h
   ·rename_i s hs
    simp only [hs]
    exact h
   ·rename_i hs
    simp only [hs]
    split at h
    ·rename_i hk
     rw [if_pos hk]
     split at h
     ·rename_i fn hf
      simp only [hl f fn hf]
      split at h
      ·rename_i c hb
       simp only [hb]
       obtain ⟨hle, h⟩ := qc h
       rw [Nat.ble_eq] at hle
       simp only [x8, xC] at h
       obtain ⟨e, ov', H', h1, h2, h3⟩ := qfM ih hfs c (qeo a 0 fn.ntmps (by omega)) h
       rw [qmV hle] at h2
       rw [h2]
       simp only [qpy]
       unfold yEnd at h3
       have fin : ∀ (e : Ex), (e = .normal ∨ e = .ret) → (zX fn.ntmps (cfg.lift f 0) ov' H' fun ov H => (match resO fn.results.toList cfg.ty ov H with | some vs => gA (xH vs) fun v => some (v, H) | none => none)) = some r →
         zN cfg fn.results.toList (e, qO (cfg.lift f 0) (den fn.ntmps ov') H') = some r := by
        intro e he h3
        obtain ⟨ov2, H2, h4, h5, h6⟩ := yq h1 h3
        rw [h5]
        unfold zN
        rcases he with rfl | rfl <;>
        ·simp only [qf1 h4]
         split at h6
         ·rename_i vs hv
          rw [zA] at h6
          rw [hv]
          exact h6
         ·cases h6
       cases e with
       | normal => exact fin _ (.inl rfl) h3
       | ret => exact fin _ (.inr rfl) h3
       | exit x => cases h3
       | goto l => cases h3
      ·cases h
     ·cases h
    ·cases h
  | y id =>
   simp only [yF] at h
   unfold qZ
   split at h
   ·rename_i f fr ps assign body p hlp
    simp only [hlp]
    obtain ⟨hlen, h⟩ := qc h
    rw [if_pos (qpt hlen)]
    simp only [x8, xC] at h
    obtain ⟨e, ov1, H1, h1, h2, h3⟩ := qfM ih hfs assign (qbj _ 0 _ (by omega)) h
    rw [qie] at h2
    rw [h2]
    simp only [qpy]
    cases e with
    | normal =>
     simp only at h3 ⊢
     split at h3
     ·rename_i f' fr' ps' assign' body' pend' hl1
      simp only [hl1]
      obtain ⟨e2, ov2, H2, h4, h5, h6⟩ := qfM ih hfs body h1 h3
      rw [h5]
      simp only [qpy]
      unfold yY2 at h6
      split at h6
      ·rename_i hl2
       simp only [hl2]
       cases e2 with
       | normal => simp only [xC] at h6; exact h6
       | ret => simp only [xC] at h6; exact h6
       | exit x => simp only [xC] at h6; exact h6
       | goto l => cases h6
      ·cases h6
     ·cases h3
    | exit x => cases h3
    | goto l => cases h3
    | ret => cases h3
   ·cases h
theorem qoP {cfg : Cfg} {look : Nat → Option Func} (hl : ∀ f fn, look f = some fn → cfg.P.funcs[f]? = some fn) {fs : List Fact} (hfs : vg cfg fs) {f : Nat} {args : List AV} {v : AV} (m d : Nat)
  (h : (match yF cfg look fs m d (.f f) args [] with | some r => some r.1 | none => none) = some v) : EVs (EV cfg) f args = some v := by
 unfold EVs
 cases hx : yF cfg look fs m d (.f f) args [] with
 | none => rw [hx] at h; cases h
 | some r => rw [hx] at h; rw [qjI cfg hl hfs m d _ _ _ _ hx]; exact h
theorem qoQ {cfg : Cfg} {look : Nat → Option Func} (hl : ∀ f fn, look f = some fn → cfg.P.funcs[f]? = some fn) {fs : List Fact} (hfs : vg cfg fs) {f : Nat} {args : List AV} {v : AV} (m d : Nat)
  (h : (match yF cfg look fs m d (.f f) args [] with | some r => gA (r.1.frz r.1.msIds r.2).fg some | none => none) = some v) : EVf (EV cfg) f args = some v := by
 unfold EVf
 cases hx : yF cfg look fs m d (.f f) args [] with
 | none => rw [hx] at h; cases h
 | some r => rw [hx] at h; rw [qjI cfg hl hfs m d _ _ _ _ hx]; simp only [zA] at h; exact h
def qia : List AV → AH → Option (AV × AH)
 | [.str a, .str b], H => some (.int .i64 (if a == b then 0 else if Op.bytesLess a b then -1 else 1), H)
 | _, _ => none
def qaG : List AV → AH → Option (AV × AH)
 | [.str s, .int .u8 c], H => some (.int .i64 (Go.Lib.indexByte s c.toNat.toUInt8), H)
 | _, _ => none
def yI : List AV → AH → Option (AV × AH)
 | [.str s, .str t], H => if s.length < 4294967281 then some (.bool (Go.Lib.contains s t), H) else none
 | _, _ => none
def qef : List AV → AH → Option (AV × AH)
 | [.str s, .int .i64 10, .int .i64 64], H =>
  if s.length ≤ 281474976710656 then
   match Go.Lib.parseUintB 64 s with
   | .ok u => some (.tup [.int .u64 u, .nilI], H)
   | Go.Lib.NumEnd.syntax => some (.tup [.int .u64 0, .ifc 198 .junk], H)
   | .range => some (.tup [.int .u64 18446744073709551615, .ifc 198 .junk], H)
  else none
 | _, _ => none
def decF : Nat → Nat → List UInt8
 | 0, _ => []
 | k + 1, u => if Nat.blt u 10 then [UInt8.ofNat (48 + u)] else decF k (u / 10) ++ [UInt8.ofNat (48 + u % 10)]
theorem qdw : ∀ (k u : Nat), u < 10 ^ (k + 1) → decF (k + 1) u = Go.Lib.decDigits u
 | 0, u, h => by
  rw [decF, Go.Lib.decDigits]
  have h : u < 10 := by simpa using h
  rw [if_pos (by rw [qpP]; exact h), dif_pos h]
 | k + 1, u, h => by
  rw [decF, Go.Lib.decDigits]
  by_cases hu : u < 10
  ·rw [if_pos (by rw [qpP]; exact hu), dif_pos hu]
  ·rw [if_neg (by rw [qpP]; exact hu), dif_neg hu, qdw k (u / 10) (by rw [Nat.pow_succ] at h; omega)]
def xl (n : Int) : List UInt8 := if n < 0 then 45 :: decF 20 n.natAbs else decF 20 n.toNat
theorem qhZ {n : Int} (h0 : -9223372036854775808 ≤ n) (h1 : n ≤ 9223372036854775807) : xl n = Go.Lib.itoa n := by
 unfold xl Go.Lib.itoa
 have h2 : n.natAbs < 10 ^ 19 := by omega
 rw [qdw 19 _ (by omega), qdw 19 _ (by omega)]
def qbt : List AV → AH → Option (AV × AH)
 | [.int .i64 n], H => if -9223372036854775808 ≤ n ∧ n ≤ 9223372036854775807 then some (.str (xl n), H) else none
 | _, _ => none
def zq : List (List AV) → Option (List (List UInt8))
 | [] => some []
 | [.str s] :: l => match zq l with | some q => some (s :: q) | none => none
 | _ :: _ => none
def qbs : List AV → AH → Option (AV × AH)
 | [.sl rows, .str sep], H =>
  match zq rows with
  | some xs => if xs.length ≤ 140737488355328 ∧ (Go.Lib.join xs sep).length ≤ 140737488355328 then some (.str (Go.Lib.join xs sep), H) else none
  | none => none
 | _, _ => none
def yx (tab : TypeId → Option TypeId) (T e : TypeId) : Bool := match tab T with | some e' => qpJ e' e | none => false
def yn (tab : TypeId → Option TypeId) : List AV → AH → Option (AV × AH)
 | [.ptr 0 0 0, .int .u8 c], .bld T e s :: H => if yx tab T e = true ∧ 0 ≤ c ∧ c ≤ 255 ∧ s.length < 140737488355328 then some (.nilI, .bld T e (s ++ [c.toNat.toUInt8]) :: H) else none
 | _, _ => none
def xK (tab : TypeId → Option TypeId) : List AV → AH → Option (AV × AH)
 | [.ptr 0 0 0, .str t], .bld T e s :: H => if yx tab T e = true ∧ s.length + t.length ≤ 140737488355328 then some (.tup [.int .i64 t.length, .nilI], .bld T e (s ++ t) :: H) else none
 | _, _ => none
def zO (tab : TypeId → Option TypeId) : List AV → AH → Option (AV × AH)
 | [.ptr 0 0 0], .bld T e s :: H => if yx tab T e = true ∧ s.length < 140737488355328 then some (.str s, .bld T e s :: H) else none
 | _, _ => none
end Go.Av
end
section
namespace Go.Proofs.YtnjonahoheopnaaGreatDoor
open Go.Av
def qjS : BT TI := .node 108 ({ d := .iface, sz := 1, bytes := 16, zero := [.nilI], eq := false }) (.node 58 ({ d := .func, sz := 1, bytes := 8, zero := [.nilF], eq := false }) (.node 30 ({ d := .struct [(0, 24), (1, 3)], sz := 2, bytes := 16, zero := [.int .i64 0, .int .i64 0], eq := true }) (.node 17 ({ d := .ptr 242, sz := 1, bytes := 8, zero := [.nilP], eq := false }) (.node 7 ({ d := .struct [(0, 2), (1, 3), (2, 4), (3, 6)], sz := 4, bytes := 24, zero := [.int .i64 0, .int .i64 0, .bool false, .int .u8 0], eq := true }) (.node 4 ({ d := .bool, sz := 1, bytes := 1, zero := [.bool false], eq := false }) (.node 2 ({ d := .int .i64, sz := 1, bytes := 8, zero := [.int .i64 0], eq := false }) (.node 1 ({ d := .func, sz := 1, bytes := 8, zero := [.nilF], eq := false }) .leaf .leaf) (.node 3 ({ d := .int .i64, sz := 1, bytes := 8, zero := [.int .i64 0], eq := false }) .leaf .leaf)) (.node 6 ({ d := .int .u8, sz := 1, bytes := 1, zero := [.int .u8 0], eq := false }) (.node 5 ({ d := .int .u8, sz := 1, bytes := 1, zero := [.int .u8 0], eq := false }) .leaf .leaf) .leaf)) (.node 13 ({ d := .struct [(0, 9), (1, 12)], sz := 2, bytes := 24, zero := [.str [], .int .u64 0], eq := false }) (.node 12 ({ d := .int .u64, sz := 1, bytes := 8, zero := [.int .u64 0], eq := false }) (.node 9 ({ d := .str, sz := 1, bytes := 16, zero := [.str []], eq := false }) .leaf .leaf) .leaf) (.node 16 ({ d := .ptr 234, sz := 1, bytes := 8, zero := [.nilP], eq := false }) (.node 15 ({ d := .ptr 231, sz := 1, bytes := 8, zero := [.nilP], eq := false }) .leaf .leaf) .leaf))) (.node 23 ({ d := .func, sz := 1, bytes := 8, zero := [.nilF], eq := false }) (.node 20 ({ d := .iface, sz := 1, bytes := 16, zero := [.nilI], eq := false }) (.node 19 ({ d := .struct [(0, 17)], sz := 1, bytes := 8, zero := [.nilP], eq := false }) (.node 18 ({ d := .struct [(0, 17)], sz := 1, bytes := 8, zero := [.nilP], eq := false }) .leaf .leaf) .leaf) (.node 22 ({ d := .slice 56, sz := 1, bytes := 24, zero := [.nilS], eq := false }) (.node 21 ({ d := .int .i32, sz := 1, bytes := 4, zero := [.int .i32 0], eq := false }) .leaf .leaf) .leaf)) (.node 27 ({ d := .func, sz := 1, bytes := 8, zero := [.nilF], eq := false }) (.node 26 ({ d := .func, sz := 1, bytes := 8, zero := [.nilF], eq := false }) (.node 24 ({ d := .int .i64, sz := 1, bytes := 8, zero := [.int .i64 0], eq := false }) .leaf .leaf) .leaf) (.node 29 ({ d := .func, sz := 1, bytes := 8, zero := [.nilF], eq := false }) (.node 28 ({ d := .func, sz := 1, bytes := 8, zero := [.nilF], eq := false }) .leaf .leaf) .leaf)))) (.node 45 ({ d := .func, sz := 1, bytes := 8, zero := [.nilF], eq := false }) (.node 38 ({ d := .struct [(0, 3), (1, 3), (2, 3), (3, 37)], sz := 7, bytes := 80, zero := [.int .i64 0, .int .i64 0, .int .i64 0, .int .i64 0, .int .i64 0, .str [], .nilS], eq := false }) (.node 35 ({ d := .slice 37, sz := 1, bytes := 24, zero := [.nilS], eq := false }) (.node 33 ({ d := .func, sz := 1, bytes := 8, zero := [.nilF], eq := false }) (.node 31 ({ d := .struct [(0, 24), (1, 3)], sz := 2, bytes := 16, zero := [.int .i64 0, .int .i64 0], eq := true }) .leaf .leaf) (.node 34 ({ d := .func, sz := 1, bytes := 8, zero := [.nilF], eq := false }) .leaf .leaf)) (.node 37 ({ d := .struct [(0, 3), (1, 3), (2, 9), (3, 35)], sz := 4, bytes := 56, zero := [.int .i64 0, .int .i64 0, .str [], .nilS], eq := false }) (.node 36 ({ d := .struct [(0, 3), (1, 3), (2, 9), (3, 35)], sz := 4, bytes := 56, zero := [.int .i64 0, .int .i64 0, .str [], .nilS], eq := false }) .leaf .leaf) .leaf)) (.node 41 ({ d := .func, sz := 1, bytes := 8, zero := [.nilF], eq := false }) (.node 40 ({ d := .func, sz := 1, bytes := 8, zero := [.nilF], eq := false }) (.node 39 ({ d := .struct [(0, 3), (1, 3), (2, 3), (3, 37)], sz := 7, bytes := 80, zero := [.int .i64 0, .int .i64 0, .int .i64 0, .int .i64 0, .int .i64 0, .str [], .nilS], eq := false }) .leaf .leaf) .leaf) (.node 43 ({ d := .slice 39, sz := 1, bytes := 24, zero := [.nilS], eq := false }) (.node 42 ({ d := .func, sz := 1, bytes := 8, zero := [.nilF], eq := false }) .leaf .leaf) .leaf))) (.node 52 ({ d := .func, sz := 1, bytes := 8, zero := [.nilF], eq := false }) (.node 49 ({ d := .func, sz := 1, bytes := 8, zero := [.nilF], eq := false }) (.node 48 ({ d := .func, sz := 1, bytes := 8, zero := [.nilF], eq := false }) (.node 46 ({ d := .func, sz := 1, bytes := 8, zero := [.nilF], eq := false }) .leaf .leaf) .leaf) (.node 51 ({ d := .func, sz := 1, bytes := 8, zero := [.nilF], eq := false }) (.node 50 ({ d := .func, sz := 1, bytes := 8, zero := [.nilF], eq := false }) .leaf .leaf) .leaf)) (.node 55 ({ d := .struct [(0, 3), (1, 3), (2, 3), (3, 9)], sz := 4, bytes := 40, zero := [.int .i64 0, .int .i64 0, .int .i64 0, .str []], eq := true }) (.node 54 ({ d := .func, sz := 1, bytes := 8, zero := [.nilF], eq := false }) (.node 53 ({ d := .slice 3, sz := 1, bytes := 24, zero := [.nilS], eq := false }) .leaf .leaf) .leaf) (.node 57 ({ d := .slice 9, sz := 1, bytes := 24, zero := [.nilS], eq := false }) (.node 56 ({ d := .struct [(0, 3), (1, 3), (2, 3), (3, 9)], sz := 4, bytes := 40, zero := [.int .i64 0, .int .i64 0, .int .i64 0, .str []], eq := true }) .leaf .leaf) .leaf))))) (.node 84 ({ d := .map 3 37, sz := 1, bytes := 8, zero := [.nilM], eq := false }) (.node 71 ({ d := .func, sz := 1, bytes := 8, zero := [.nilF], eq := false }) (.node 65 ({ d := .ptr 67, sz := 1, bytes := 8, zero := [.nilP], eq := false }) (.node 62 ({ d := .func, sz := 1, bytes := 8, zero := [.nilF], eq := false }) (.node 60 ({ d := .func, sz := 1, bytes := 8, zero := [.nilF], eq := false }) (.node 59 ({ d := .func, sz := 1, bytes := 8, zero := [.nilF], eq := false }) .leaf .leaf) (.node 61 ({ d := .func, sz := 1, bytes := 8, zero := [.nilF], eq := false }) .leaf .leaf)) (.node 64 ({ d := .func, sz := 1, bytes := 8, zero := [.nilF], eq := false }) (.node 63 ({ d := .func, sz := 1, bytes := 8, zero := [.nilF], eq := false }) .leaf .leaf) .leaf)) (.node 68 ({ d := .func, sz := 1, bytes := 8, zero := [.nilF], eq := false }) (.node 67 ({ d := .struct [(0, 9), (1, 3), (2, 24)], sz := 3, bytes := 32, zero := [.str [], .int .i64 0, .int .i64 0], eq := true }) (.node 66 ({ d := .struct [(0, 9), (1, 3), (2, 24)], sz := 3, bytes := 32, zero := [.str [], .int .i64 0, .int .i64 0], eq := true }) .leaf .leaf) .leaf) (.node 70 ({ d := .func, sz := 1, bytes := 8, zero := [.nilF], eq := false }) (.node 69 ({ d := .func, sz := 1, bytes := 8, zero := [.nilF], eq := false }) .leaf .leaf) .leaf))) (.node 78 ({ d := .struct [(0, 37), (4, 35), (5, 35)], sz := 6, bytes := 104, zero := [.int .i64 0, .int .i64 0, .str [], .nilS, .nilS, .nilS], eq := false }) (.node 75 ({ d := .ptr 77, sz := 1, bytes := 8, zero := [.nilP], eq := false }) (.node 74 ({ d := .func, sz := 1, bytes := 8, zero := [.nilF], eq := false }) (.node 72 ({ d := .slice 79, sz := 1, bytes := 24, zero := [.nilS], eq := false }) .leaf .leaf) .leaf) (.node 77 ({ d := .struct [(0, 43)], sz := 1, bytes := 24, zero := [.nilS], eq := false }) (.node 76 ({ d := .struct [(0, 43)], sz := 1, bytes := 24, zero := [.nilS], eq := false }) .leaf .leaf) .leaf)) (.node 81 ({ d := .func, sz := 1, bytes := 8, zero := [.nilF], eq := false }) (.node 80 ({ d := .func, sz := 1, bytes := 8, zero := [.nilF], eq := false }) (.node 79 ({ d := .struct [(0, 37), (4, 35), (5, 35)], sz := 6, bytes := 104, zero := [.int .i64 0, .int .i64 0, .str [], .nilS, .nilS, .nilS], eq := false }) .leaf .leaf) .leaf) (.node 83 ({ d := .ptr 86, sz := 1, bytes := 8, zero := [.nilP], eq := false }) (.node 82 ({ d := .func, sz := 1, bytes := 8, zero := [.nilF], eq := false }) .leaf .leaf) .leaf)))) (.node 96 ({ d := .func, sz := 1, bytes := 8, zero := [.nilF], eq := false }) (.node 90 ({ d := .func, sz := 1, bytes := 8, zero := [.nilF], eq := false }) (.node 87 ({ d := .int .i64, sz := 1, bytes := 8, zero := [.int .i64 0], eq := false }) (.node 86 ({ d := .struct [(0, 37), (4, 3), (5, 35), (6, 35), (7, 84), (8, 4)], sz := 9, bytes := 128, zero := [.int .i64 0, .int .i64 0, .str [], .nilS, .int .i64 0, .nilS, .nilS, .nilM, .bool false], eq := false }) (.node 85 ({ d := .struct [(0, 37), (4, 3), (5, 35), (6, 35), (7, 84), (8, 4)], sz := 9, bytes := 128, zero := [.int .i64 0, .int .i64 0, .str [], .nilS, .int .i64 0, .nilS, .nilS, .nilM, .bool false], eq := false }) .leaf .leaf) .leaf) (.node 89 ({ d := .func, sz := 1, bytes := 8, zero := [.nilF], eq := false }) (.node 88 ({ d := .func, sz := 1, bytes := 8, zero := [.nilF], eq := false }) .leaf .leaf) .leaf)) (.node 93 ({ d := .func, sz := 1, bytes := 8, zero := [.nilF], eq := false }) (.node 92 ({ d := .slice 5, sz := 1, bytes := 24, zero := [.nilS], eq := false }) (.node 91 ({ d := .func, sz := 1, bytes := 8, zero := [.nilF], eq := false }) .leaf .leaf) .leaf) (.node 95 ({ d := .func, sz := 1, bytes := 8, zero := [.nilF], eq := false }) (.node 94 ({ d := .func, sz := 1, bytes := 8, zero := [.nilF], eq := false }) .leaf .leaf) .leaf))) (.node 102 ({ d := .struct [(0, 100), (1, 92)], sz := 2, bytes := 32, zero := [.nilP, .nilS], eq := false }) (.node 99 ({ d := .ptr 104, sz := 1, bytes := 8, zero := [.nilP], eq := false }) (.node 98 ({ d := .func, sz := 1, bytes := 8, zero := [.nilF], eq := false }) (.node 97 ({ d := .func, sz := 1, bytes := 8, zero := [.nilF], eq := false }) .leaf .leaf) .leaf) (.node 101 ({ d := .struct [(0, 100), (1, 92)], sz := 2, bytes := 32, zero := [.nilP, .nilS], eq := false }) (.node 100 ({ d := .ptr 102, sz := 1, bytes := 8, zero := [.nilP], eq := false }) .leaf .leaf) .leaf)) (.node 105 ({ d := .func, sz := 1, bytes := 8, zero := [.nilF], eq := false }) (.node 104 ({ d := .struct [(0, 102)], sz := 2, bytes := 32, zero := [.nilP, .nilS], eq := false }) (.node 103 ({ d := .struct [(0, 102)], sz := 2, bytes := 32, zero := [.nilP, .nilS], eq := false }) .leaf .leaf) .leaf) (.node 107 ({ d := .iface, sz := 1, bytes := 16, zero := [.nilI], eq := false }) (.node 106 ({ d := .func, sz := 1, bytes := 8, zero := [.nilF], eq := false }) .leaf .leaf) .leaf)))))) (.node 166 ({ d := .func, sz := 1, bytes := 8, zero := [.nilF], eq := false }) (.node 136 ({ d := .func, sz := 1, bytes := 8, zero := [.nilF], eq := false }) (.node 123 ({ d := .func, sz := 1, bytes := 8, zero := [.nilF], eq := false }) (.node 117 ({ d := .func, sz := 1, bytes := 8, zero := [.nilF], eq := false }) (.node 114 ({ d := .func, sz := 1, bytes := 8, zero := [.nilF], eq := false }) (.node 111 ({ d := .func, sz := 1, bytes := 8, zero := [.nilF], eq := false }) (.node 110 ({ d := .func, sz := 1, bytes := 8, zero := [.nilF], eq := false }) .leaf .leaf) (.node 112 ({ d := .func, sz := 1, bytes := 8, zero := [.nilF], eq := false }) .leaf .leaf)) (.node 116 ({ d := .func, sz := 1, bytes := 8, zero := [.nilF], eq := false }) (.node 115 ({ d := .func, sz := 1, bytes := 8, zero := [.nilF], eq := false }) .leaf .leaf) .leaf)) (.node 120 ({ d := .func, sz := 1, bytes := 8, zero := [.nilF], eq := false }) (.node 119 ({ d := .func, sz := 1, bytes := 8, zero := [.nilF], eq := false }) (.node 118 ({ d := .func, sz := 1, bytes := 8, zero := [.nilF], eq := false }) .leaf .leaf) .leaf) (.node 122 ({ d := .func, sz := 1, bytes := 8, zero := [.nilF], eq := false }) (.node 121 ({ d := .func, sz := 1, bytes := 8, zero := [.nilF], eq := false }) .leaf .leaf) .leaf))) (.node 130 ({ d := .func, sz := 1, bytes := 8, zero := [.nilF], eq := false }) (.node 127 ({ d := .func, sz := 1, bytes := 8, zero := [.nilF], eq := false }) (.node 126 ({ d := .func, sz := 1, bytes := 8, zero := [.nilF], eq := false }) (.node 125 ({ d := .func, sz := 1, bytes := 8, zero := [.nilF], eq := false }) .leaf .leaf) .leaf) (.node 129 ({ d := .func, sz := 1, bytes := 8, zero := [.nilF], eq := false }) (.node 128 ({ d := .func, sz := 1, bytes := 8, zero := [.nilF], eq := false }) .leaf .leaf) .leaf)) (.node 133 ({ d := .func, sz := 1, bytes := 8, zero := [.nilF], eq := false }) (.node 132 ({ d := .func, sz := 1, bytes := 8, zero := [.nilF], eq := false }) (.node 131 ({ d := .func, sz := 1, bytes := 8, zero := [.nilF], eq := false }) .leaf .leaf) .leaf) (.node 135 ({ d := .func, sz := 1, bytes := 8, zero := [.nilF], eq := false }) (.node 134 ({ d := .func, sz := 1, bytes := 8, zero := [.nilF], eq := false }) .leaf .leaf) .leaf)))) (.node 151 ({ d := .func, sz := 1, bytes := 8, zero := [.nilF], eq := false }) (.node 144 ({ d := .func, sz := 1, bytes := 8, zero := [.nilF], eq := false }) (.node 140 ({ d := .func, sz := 1, bytes := 8, zero := [.nilF], eq := false }) (.node 138 ({ d := .ptr 5, sz := 1, bytes := 8, zero := [.nilP], eq := false }) (.node 137 ({ d := .func, sz := 1, bytes := 8, zero := [.nilF], eq := false }) .leaf .leaf) (.node 139 ({ d := .func, sz := 1, bytes := 8, zero := [.nilF], eq := false }) .leaf .leaf)) (.node 143 ({ d := .func, sz := 1, bytes := 8, zero := [.nilF], eq := false }) (.node 141 ({ d := .int .u64, sz := 1, bytes := 8, zero := [.int .u64 0], eq := false }) .leaf .leaf) .leaf)) (.node 148 ({ d := .func, sz := 1, bytes := 8, zero := [.nilF], eq := false }) (.node 146 ({ d := .ptr 4, sz := 1, bytes := 8, zero := [.nilP], eq := false }) (.node 145 ({ d := .func, sz := 1, bytes := 8, zero := [.nilF], eq := false }) .leaf .leaf) .leaf) (.node 150 ({ d := .func, sz := 1, bytes := 8, zero := [.nilF], eq := false }) (.node 149 ({ d := .map 3 4, sz := 1, bytes := 8, zero := [.nilM], eq := false }) .leaf .leaf) .leaf))) (.node 159 ({ d := .func, sz := 1, bytes := 8, zero := [.nilF], eq := false }) (.node 155 ({ d := .func, sz := 1, bytes := 8, zero := [.nilF], eq := false }) (.node 154 ({ d := .func, sz := 1, bytes := 8, zero := [.nilF], eq := false }) (.node 152 ({ d := .func, sz := 1, bytes := 8, zero := [.nilF], eq := false }) .leaf .leaf) .leaf) (.node 158 ({ d := .func, sz := 1, bytes := 8, zero := [.nilF], eq := false }) (.node 157 ({ d := .func, sz := 1, bytes := 8, zero := [.nilF], eq := false }) .leaf .leaf) .leaf)) (.node 162 ({ d := .array 24 5, sz := 24, bytes := 24, zero := [.int .u8 0, .int .u8 0, .int .u8 0, .int .u8 0, .int .u8 0, .int .u8 0, .int .u8 0, .int .u8 0, .int .u8 0, .int .u8 0, .int .u8 0, .int .u8 0, .int .u8 0, .int .u8 0, .int .u8 0, .int .u8 0, .int .u8 0, .int .u8 0, .int .u8 0, .int .u8 0, .int .u8 0, .int .u8 0, .int .u8 0, .int .u8 0], eq := false }) (.node 161 ({ d := .func, sz := 1, bytes := 8, zero := [.nilF], eq := false }) (.node 160 ({ d := .func, sz := 1, bytes := 8, zero := [.nilF], eq := false }) .leaf .leaf) .leaf) (.node 164 ({ d := .func, sz := 1, bytes := 8, zero := [.nilF], eq := false }) (.node 163 ({ d := .func, sz := 1, bytes := 8, zero := [.nilF], eq := false }) .leaf .leaf) .leaf))))) (.node 197 ({ d := .func, sz := 1, bytes := 8, zero := [.nilF], eq := false }) (.node 181 ({ d := .ptr 186, sz := 1, bytes := 8, zero := [.nilP], eq := false }) (.node 175 ({ d := .array 2 35, sz := 2, bytes := 48, zero := [.nilS, .nilS], eq := false }) (.node 171 ({ d := .func, sz := 1, bytes := 8, zero := [.nilF], eq := false }) (.node 169 ({ d := .func, sz := 1, bytes := 8, zero := [.nilF], eq := false }) (.node 167 ({ d := .int .u64, sz := 1, bytes := 8, zero := [.int .u64 0], eq := false }) .leaf .leaf) (.node 170 ({ d := .func, sz := 1, bytes := 8, zero := [.nilF], eq := false }) .leaf .leaf)) (.node 174 ({ d := .func, sz := 1, bytes := 8, zero := [.nilF], eq := false }) (.node 172 ({ d := .func, sz := 1, bytes := 8, zero := [.nilF], eq := false }) .leaf .leaf) .leaf)) (.node 178 ({ d := .struct [(0, 37), (4, 37)], sz := 8, bytes := 112, zero := [.int .i64 0, .int .i64 0, .str [], .nilS, .int .i64 0, .int .i64 0, .str [], .nilS], eq := false }) (.node 177 ({ d := .struct [(0, 37), (4, 37)], sz := 8, bytes := 112, zero := [.int .i64 0, .int .i64 0, .str [], .nilS, .int .i64 0, .int .i64 0, .str [], .nilS], eq := false }) (.node 176 ({ d := .func, sz := 1, bytes := 8, zero := [.nilF], eq := false }) .leaf .leaf) .leaf) (.node 180 ({ d := .func, sz := 1, bytes := 8, zero := [.nilF], eq := false }) (.node 179 ({ d := .slice 178, sz := 1, bytes := 24, zero := [.nilS], eq := false }) .leaf .leaf) .leaf))) (.node 191 ({ d := .func, sz := 1, bytes := 8, zero := [.nilF], eq := false }) (.node 184 ({ d := .struct [(0, 37), (4, 182), (5, 3)], sz := 6, bytes := 88, zero := [.int .i64 0, .int .i64 0, .str [], .nilS, .nilS, .int .i64 0], eq := false }) (.node 183 ({ d := .struct [(0, 37), (4, 182), (5, 3)], sz := 6, bytes := 88, zero := [.int .i64 0, .int .i64 0, .str [], .nilS, .nilS, .int .i64 0], eq := false }) (.node 182 ({ d := .slice 244, sz := 1, bytes := 24, zero := [.nilS], eq := false }) .leaf .leaf) .leaf) (.node 186 ({ d := .struct [(0, 184), (6, 4)], sz := 7, bytes := 96, zero := [.int .i64 0, .int .i64 0, .str [], .nilS, .nilS, .int .i64 0, .bool false], eq := false }) (.node 185 ({ d := .struct [(0, 184), (6, 4)], sz := 7, bytes := 96, zero := [.int .i64 0, .int .i64 0, .str [], .nilS, .nilS, .int .i64 0, .bool false], eq := false }) .leaf .leaf) .leaf)) (.node 194 ({ d := .array 65 5, sz := 65, bytes := 65, zero := [.int .u8 0, .int .u8 0, .int .u8 0, .int .u8 0, .int .u8 0, .int .u8 0, .int .u8 0, .int .u8 0, .int .u8 0, .int .u8 0, .int .u8 0, .int .u8 0, .int .u8 0, .int .u8 0, .int .u8 0, .int .u8 0, .int .u8 0, .int .u8 0, .int .u8 0, .int .u8 0, .int .u8 0, .int .u8 0, .int .u8 0, .int .u8 0, .int .u8 0, .int .u8 0, .int .u8 0, .int .u8 0, .int .u8 0, .int .u8 0, .int .u8 0, .int .u8 0, .int .u8 0, .int .u8 0, .int .u8 0, .int .u8 0, .int .u8 0, .int .u8 0, .int .u8 0, .int .u8 0, .int .u8 0, .int .u8 0, .int .u8 0, .int .u8 0, .int .u8 0, .int .u8 0, .int .u8 0, .int .u8 0, .int .u8 0, .int .u8 0, .int .u8 0, .int .u8 0, .int .u8 0, .int .u8 0, .int .u8 0, .int .u8 0, .int .u8 0, .int .u8 0, .int .u8 0, .int .u8 0, .int .u8 0, .int .u8 0, .int .u8 0, .int .u8 0, .int .u8 0], eq := false }) (.node 193 ({ d := .int .u32, sz := 1, bytes := 4, zero := [.int .u32 0], eq := false }) (.node 192 ({ d := .array 20 141, sz := 20, bytes := 160, zero := [.int .u64 0, .int .u64 0, .int .u64 0, .int .u64 0, .int .u64 0, .int .u64 0, .int .u64 0, .int .u64 0, .int .u64 0, .int .u64 0, .int .u64 0, .int .u64 0, .int .u64 0, .int .u64 0, .int .u64 0, .int .u64 0, .int .u64 0, .int .u64 0, .int .u64 0, .int .u64 0], eq := false }) .leaf .leaf) .leaf) (.node 196 ({ d := .int .i64, sz := 1, bytes := 8, zero := [.int .i64 0], eq := false }) (.node 195 ({ d := .func, sz := 1, bytes := 8, zero := [.nilF], eq := false }) .leaf .leaf) .leaf)))) (.node 230 ({ d := .struct [(0, 17), (1, 17), (2, 17), (3, 9)], sz := 4, bytes := 40, zero := [.nilP, .nilP, .nilP, .str []], eq := false }) (.node 216 ({ d := .array 32 5, sz := 32, bytes := 32, zero := [.int .u8 0, .int .u8 0, .int .u8 0, .int .u8 0, .int .u8 0, .int .u8 0, .int .u8 0, .int .u8 0, .int .u8 0, .int .u8 0, .int .u8 0, .int .u8 0, .int .u8 0, .int .u8 0, .int .u8 0, .int .u8 0, .int .u8 0, .int .u8 0, .int .u8 0, .int .u8 0, .int .u8 0, .int .u8 0, .int .u8 0, .int .u8 0, .int .u8 0, .int .u8 0, .int .u8 0, .int .u8 0, .int .u8 0, .int .u8 0, .int .u8 0, .int .u8 0], eq := false }) (.node 209 ({ d := .struct [(0, 9), (1, 9), (2, 108)], sz := 3, bytes := 48, zero := [.str [], .str [], .nilI], eq := false }) (.node 200 ({ d := .func, sz := 1, bytes := 8, zero := [.nilF], eq := false }) (.node 198 ({ d := .ptr 210, sz := 1, bytes := 8, zero := [.nilP], eq := false }) .leaf .leaf) .leaf) (.node 215 ({ d := .func, sz := 1, bytes := 8, zero := [.nilF], eq := false }) (.node 210 ({ d := .struct [(0, 9), (1, 9), (2, 108)], sz := 3, bytes := 48, zero := [.str [], .str [], .nilI], eq := false }) .leaf .leaf) .leaf)) (.node 219 ({ d := .struct [(0, 9)], sz := 1, bytes := 16, zero := [.str []], eq := true }) (.node 218 ({ d := .ptr 220, sz := 1, bytes := 8, zero := [.nilP], eq := false }) (.node 217 ({ d := .array 64 5, sz := 64, bytes := 64, zero := [.int .u8 0, .int .u8 0, .int .u8 0, .int .u8 0, .int .u8 0, .int .u8 0, .int .u8 0, .int .u8 0, .int .u8 0, .int .u8 0, .int .u8 0, .int .u8 0, .int .u8 0, .int .u8 0, .int .u8 0, .int .u8 0, .int .u8 0, .int .u8 0, .int .u8 0, .int .u8 0, .int .u8 0, .int .u8 0, .int .u8 0, .int .u8 0, .int .u8 0, .int .u8 0, .int .u8 0, .int .u8 0, .int .u8 0, .int .u8 0, .int .u8 0, .int .u8 0, .int .u8 0, .int .u8 0, .int .u8 0, .int .u8 0, .int .u8 0, .int .u8 0, .int .u8 0, .int .u8 0, .int .u8 0, .int .u8 0, .int .u8 0, .int .u8 0, .int .u8 0, .int .u8 0, .int .u8 0, .int .u8 0, .int .u8 0, .int .u8 0, .int .u8 0, .int .u8 0, .int .u8 0, .int .u8 0, .int .u8 0, .int .u8 0, .int .u8 0, .int .u8 0, .int .u8 0, .int .u8 0, .int .u8 0, .int .u8 0, .int .u8 0, .int .u8 0], eq := false }) .leaf .leaf) .leaf) (.node 225 ({ d := .func, sz := 1, bytes := 8, zero := [.nilF], eq := false }) (.node 220 ({ d := .struct [(0, 9)], sz := 1, bytes := 16, zero := [.str []], eq := true }) .leaf .leaf) .leaf))) (.node 239 ({ d := .int .i32, sz := 1, bytes := 4, zero := [.int .i32 0], eq := false }) (.node 236 ({ d := .int .u8, sz := 1, bytes := 1, zero := [.int .u8 0], eq := false }) (.node 233 ({ d := .struct [(0, 232)], sz := 0, bytes := 0, zero := [], eq := false }) (.node 232 ({ d := .array 0 16, sz := 0, bytes := 0, zero := [], eq := false }) .leaf .leaf) .leaf) (.node 238 ({ d := .func, sz := 1, bytes := 8, zero := [.nilF], eq := false }) (.node 237 ({ d := .int .u8, sz := 1, bytes := 1, zero := [.int .u8 0], eq := false }) .leaf .leaf) .leaf)) (.node 242 ({ d := .struct [(0, 12), (1, 12), (2, 193), (3, 236), (4, 5), (5, 5), (6, 237), (7, 238), (8, 138), (9, 239), (10, 240)], sz := 11, bytes := 48, zero := [.int .u64 0, .int .u64 0, .int .u32 0, .int .u8 0, .int .u8 0, .int .u8 0, .int .u8 0, .nilF, .nilP, .int .i32 0, .int .i32 0], eq := false }) (.node 241 ({ d := .struct [(0, 12), (1, 12), (2, 193), (3, 236), (4, 5), (5, 5), (6, 237), (7, 238), (8, 138), (9, 239), (10, 240)], sz := 11, bytes := 48, zero := [.int .u64 0, .int .u64 0, .int .u32 0, .int .u8 0, .int .u8 0, .int .u8 0, .int .u8 0, .nilF, .nilP, .int .i32 0, .int .i32 0], eq := false }) (.node 240 ({ d := .int .i32, sz := 1, bytes := 4, zero := [.int .i32 0], eq := false }) .leaf .leaf) .leaf) (.node 244 ({ d := .struct [(0, 3), (1, 37)], sz := 5, bytes := 64, zero := [.int .i64 0, .int .i64 0, .int .i64 0, .str [], .nilS], eq := false }) (.node 243 ({ d := .struct [(0, 3), (1, 37)], sz := 5, bytes := 64, zero := [.int .i64 0, .int .i64 0, .int .i64 0, .str [], .nilS], eq := false }) .leaf .leaf) .leaf))))))
def qnY : BT CMode := .node 80 (.inpf) (.node 58 (.scal) (.node 31 (.pfrz) (.node 11 (.scal) (.node 8 (.pfrz) (.node 7 (.scal) (.node 3 (.scal) .leaf .leaf) .leaf) (.node 10 (.scal) (.node 9 (.pfrz) .leaf .leaf) .leaf)) (.node 29 (.scal) (.node 28 (.scal) (.node 14 (.pfrz) .leaf .leaf) .leaf) (.node 30 (.pfrz) .leaf .leaf))) (.node 37 (.inpl) (.node 34 (.scal) (.node 33 (.scal) (.node 32 (.scal) .leaf .leaf) .leaf) (.node 36 (.scal) (.node 35 (.scal) .leaf .leaf) .leaf)) (.node 56 (.scal) (.node 55 (.scal) (.node 38 (.inpf) .leaf .leaf) .leaf) (.node 57 (.scal) .leaf .leaf)))) (.node 70 (.scal) (.node 65 (.bld) (.node 61 (.scal) (.node 60 (.scal) (.node 59 (.scal) .leaf .leaf) .leaf) (.node 64 (.scal) (.node 62 (.pfrz) .leaf .leaf) .leaf)) (.node 68 (.bld) (.node 67 (.bld) (.node 66 (.bld) .leaf .leaf) .leaf) (.node 69 (.scal) .leaf .leaf))) (.node 75 (.inpf) (.node 73 (.scal) (.node 72 (.pfrz) (.node 71 (.pfrz) .leaf .leaf) .leaf) (.node 74 (.scal) .leaf .leaf)) (.node 78 (.scal) (.node 77 (.scal) (.node 76 (.scal) .leaf .leaf) .leaf) (.node 79 (.inpf) .leaf .leaf))))) (.node 123 (.scal) (.node 112 (.scal) (.node 104 (.scal) (.node 83 (.inpf) (.node 82 (.inpf) (.node 81 (.inpf) .leaf .leaf) .leaf) (.node 85 (.inpf) (.node 84 (.scal) .leaf .leaf) .leaf)) (.node 110 (.scal) (.node 109 (.scal) (.node 106 (.scal) .leaf .leaf) .leaf) (.node 111 (.scal) .leaf .leaf))) (.node 118 (.scal) (.node 115 (.bld) (.node 114 (.bld) (.node 113 (.bld) .leaf .leaf) .leaf) (.node 117 (.bld) (.node 116 (.bld) .leaf .leaf) .leaf)) (.node 121 (.scal) (.node 120 (.scal) (.node 119 (.scal) .leaf .leaf) .leaf) (.node 122 (.scal) .leaf .leaf)))) (.node 160 (.scal) (.node 152 (.scal) (.node 144 (.scal) (.node 126 (.scal) (.node 125 (.inpf) .leaf .leaf) .leaf) (.node 151 (.scal) (.node 150 (.scal) .leaf .leaf) .leaf)) (.node 156 (.scal) (.node 155 (.scal) (.node 154 (.scal) .leaf .leaf) .leaf) (.node 157 (.scal) .leaf .leaf))) (.node 179 (.scal) (.node 174 (.scal) (.node 173 (.scal) (.node 172 (.scal) .leaf .leaf) .leaf) (.node 176 (.scal) .leaf .leaf)) (.node 195 (.scal) (.node 194 (.scal) (.node 193 (.scal) .leaf .leaf) .leaf) (.node 196 (.scal) .leaf .leaf)))))
def qoN : BT (BT (List Nat)) := .node 3 (.node 4 ([1]) .leaf .leaf) .leaf .leaf
noncomputable def qgT {α : Type} (a b : Nat) (t : BT (BT α)) : Option α := match t.look a with | some u => u.look b | none => none
noncomputable def qn4 (f r k : Nat) : Bool := match qgT f r qoN with | some l => vJ k l | none => false
def qnZ : BT (BT (List Tmp × List Tmp)) := .node 106 (.node 2 ([0, 1, 7, 8], [4]) .leaf .leaf) (.node 65 (.node 19 ([0, 76, 77, 78], [0]) .leaf .leaf) (.node 14 (.node 5 ([0, 3, 4, 5], [2, 3, 5]) .leaf .leaf) (.node 9 (.node 3 ([0, 4, 5], [2, 3, 4]) .leaf .leaf) (.node 8 (.node 3 ([4, 8, 9, 10], [2, 3, 4]) .leaf .leaf) (.node 7 (.node 2 ([0, 3], [0, 2]) .leaf .leaf) .leaf .leaf) .leaf) (.node 10 (.node 4 ([0, 1, 5], [4]) .leaf .leaf) .leaf .leaf)) (.node 37 (.node 0 ([0], []) .leaf .leaf) (.node 32 (.node 22 ([1, 8, 63, 64, 65], [8]) (.node 12 ([0, 1, 5, 39, 40, 41], [0, 1, 5]) .leaf .leaf) .leaf) .leaf .leaf) (.node 64 (.node 4 ([2, 3], [2, 3]) .leaf .leaf) .leaf .leaf))) (.node 81 (.node 3 ([0, 2, 3], [2]) .leaf .leaf) (.node 70 (.node 2 ([0, 1, 5], [4]) .leaf .leaf) (.node 69 (.node 4 ([0, 3], [2]) .leaf .leaf) .leaf .leaf) (.node 74 (.node 27 ([1, 5], [1, 5]) (.node 17 ([1, 3, 4], [3]) .leaf .leaf) .leaf) .leaf .leaf)) (.node 85 (.node 3 ([0, 2, 3, 15, 16, 17], [0, 2, 3]) .leaf .leaf) (.node 83 (.node 2 ([0, 1, 5], [0, 5]) .leaf .leaf) .leaf .leaf) (.node 104 (.node 2 ([0, 1, 7, 8], [4]) .leaf .leaf) .leaf .leaf)))) (.node 148 (.node 18 ([0, 1, 3, 4, 10, 11, 12, 13, 17], [0, 1, 3, 4, 10, 11, 12, 13]) (.node 11 ([0, 1, 3, 4, 10, 11, 12, 13, 14, 15, 16], [0, 1, 3, 4, 10, 11, 12, 13]) .leaf .leaf) .leaf) (.node 121 (.node 3 ([0, 3, 4], [3]) .leaf .leaf) (.node 115 (.node 3 ([0, 3, 4], [0]) .leaf .leaf) (.node 114 (.node 1 ([0, 6, 7, 8], []) .leaf .leaf) (.node 112 (.node 4 ([3, 8, 9, 10], [3]) .leaf .leaf) .leaf .leaf) .leaf) (.node 120 (.node 4 ([0, 3], [0, 2]) .leaf .leaf) .leaf .leaf)) (.node 144 (.node 15 ([0, 1, 5, 6, 7, 8, 9, 10], [4]) .leaf .leaf) (.node 122 (.node 3 ([0, 3, 4], [3]) .leaf .leaf) .leaf .leaf) (.node 147 (.node 1 ([0, 1, 4], [0, 1, 4]) .leaf .leaf) .leaf .leaf))) (.node 166 (.node 1 ([0, 1, 3], []) .leaf .leaf) (.node 156 (.node 3 ([0, 3, 4], [2]) .leaf .leaf) (.node 149 (.node 7 ([3], [0, 3]) (.node 1 ([0, 3], []) .leaf .leaf) .leaf) .leaf .leaf) (.node 158 (.node 36 ([1, 8, 9, 10, 11, 12, 13, 99, 100, 101], [6, 7, 9, 12, 13]) .leaf .leaf) .leaf .leaf)) (.node 181 (.node 10 ([0, 3, 4, 5], [2, 3]) .leaf .leaf) (.node 174 (.node 11 ([0, 1, 5, 6, 7, 8, 10], [4]) (.node 5 ([0, 1, 5, 6, 7, 8, 9], [0, 1, 5, 6, 7, 8]) .leaf .leaf) .leaf) .leaf .leaf) (.node 193 (.node 8 ([4, 6, 7, 8], [4, 6]) (.node 3 ([0, 4, 5], [0, 4]) .leaf .leaf) .leaf) .leaf .leaf))))
def qoT : BT (BT (List Tmp)) := .leaf
def qn0 : BT (BT (List (Tmp × Nat))) := .node 81 (.node 3 ([(3, 1)]) .leaf .leaf) (.node 14 (.node 5 ([(5, 4)]) .leaf .leaf) (.node 8 (.node 3 ([(4, 1)]) .leaf .leaf) .leaf .leaf) .leaf) (.node 149 (.node 7 ([(3, 4)]) (.node 1 ([(3, 4)]) .leaf .leaf) .leaf) (.node 148 (.node 18 ([(10, 1)]) (.node 11 ([(10, 1)]) .leaf .leaf) .leaf) .leaf .leaf) .leaf)
def qbr (f : Nat) : List (Nat × (List AV → AH → Option (AV × AH))) → Option (List AV → AH → Option (AV × AH))
 | [] => none
 | p :: l => if qpJ p.1 f then some p.2 else qbr f l
def vn : BT TypeId := .node 104 (5) (.node 102 (5) .leaf .leaf) .leaf
noncomputable def qjE : List (Nat × (List AV → AH → Option (AV × AH))) := []
noncomputable def qfs : List (Nat × (List AV → AH → Option (AV × AH))) := (29, qbt) :: (32, qbs) :: (59, yI) :: (66, (zO vn.look)) :: (68, (xK vn.look)) :: (77, qaG) :: (113, (yn vn.look)) :: (124, qef) :: qjE
theorem qkQ : qjE = [] := rfl
def qmH : BT Unit := .node 110 (()) (.node 64 (()) (.node 35 (()) (.node 14 (()) (.node 9 (()) (.node 7 (()) (.node 3 (()) .leaf .leaf) (.node 8 (()) .leaf .leaf)) (.node 11 (()) (.node 10 (()) .leaf .leaf) .leaf)) (.node 31 (()) (.node 30 (()) (.node 28 (()) .leaf .leaf) .leaf) (.node 34 (()) (.node 33 (()) .leaf .leaf) .leaf))) (.node 57 (()) (.node 38 (()) (.node 37 (()) (.node 36 (()) .leaf .leaf) .leaf) (.node 56 (()) (.node 55 (()) .leaf .leaf) .leaf)) (.node 61 (()) (.node 60 (()) (.node 58 (()) .leaf .leaf) .leaf) (.node 63 (()) (.node 62 (()) .leaf .leaf) .leaf)))) (.node 80 (()) (.node 73 (()) (.node 70 (()) (.node 67 (()) (.node 65 (()) .leaf .leaf) (.node 69 (()) .leaf .leaf)) (.node 72 (()) (.node 71 (()) .leaf .leaf) .leaf)) (.node 76 (()) (.node 75 (()) (.node 74 (()) .leaf .leaf) .leaf) (.node 79 (()) (.node 78 (()) .leaf .leaf) .leaf))) (.node 104 (()) (.node 83 (()) (.node 82 (()) (.node 81 (()) .leaf .leaf) .leaf) (.node 85 (()) (.node 84 (()) .leaf .leaf) .leaf)) (.node 107 (()) (.node 106 (()) (.node 105 (()) .leaf .leaf) .leaf) (.node 109 (()) (.node 108 (()) .leaf .leaf) .leaf))))) (.node 155 (()) (.node 125 (()) (.node 118 (()) (.node 115 (()) (.node 112 (()) (.node 111 (()) .leaf .leaf) (.node 114 (()) .leaf .leaf)) (.node 117 (()) (.node 116 (()) .leaf .leaf) .leaf)) (.node 121 (()) (.node 120 (()) (.node 119 (()) .leaf .leaf) .leaf) (.node 123 (()) (.node 122 (()) .leaf .leaf) .leaf))) (.node 147 (()) (.node 144 (()) (.node 133 (()) (.node 126 (()) .leaf .leaf) .leaf) (.node 146 (()) (.node 145 (()) .leaf .leaf) .leaf)) (.node 150 (()) (.node 149 (()) (.node 148 (()) .leaf .leaf) .leaf) (.node 152 (()) (.node 151 (()) .leaf .leaf) .leaf)))) (.node 179 (()) (.node 173 (()) (.node 159 (()) (.node 158 (()) (.node 156 (()) .leaf .leaf) .leaf) (.node 166 (()) (.node 160 (()) .leaf .leaf) .leaf)) (.node 176 (()) (.node 175 (()) (.node 174 (()) .leaf .leaf) .leaf) (.node 178 (()) (.node 177 (()) .leaf .leaf) .leaf))) (.node 185 (()) (.node 182 (()) (.node 181 (()) (.node 180 (()) .leaf .leaf) .leaf) (.node 184 (()) (.node 183 (()) .leaf .leaf) .leaf)) (.node 195 (()) (.node 194 (()) (.node 193 (()) .leaf .leaf) .leaf) (.node 197 (()) (.node 196 (()) .leaf .leaf) .leaf)))))
def qoS : BT Unit := .node 182 (()) (.node 72 (()) (.node 37 (()) (.node 35 (()) .leaf .leaf) .leaf) (.node 79 (()) .leaf .leaf)) (.node 186 (()) (.node 184 (()) .leaf .leaf) (.node 244 (()) .leaf .leaf))
def qoV : BT Unit := .node 184 (()) .leaf .leaf
def qoE : BT Unit := .node 53 (()) .leaf .leaf
def qoR : BT Unit := .leaf
def qoH : BT (List Nat) := .node 142 ([141, 108]) (.node 73 ([72, 24]) (.node 44 ([43, 24]) (.node 32 ([22, 31]) (.node 25 ([9, 24]) .leaf .leaf) .leaf) (.node 47 ([37, 4, 3, 24]) .leaf .leaf)) (.node 113 ([5, 4]) (.node 109 ([3, 108]) .leaf .leaf) (.node 124 ([3, 4]) .leaf .leaf))) (.node 165 ([92, 9]) (.node 153 ([37, 4]) (.node 147 ([79, 4]) .leaf .leaf) (.node 156 ([37, 24]) .leaf .leaf)) (.node 206 ([193, 193]) (.node 173 ([35, 4]) .leaf .leaf) (.node 228 ([141, 141]) .leaf .leaf)))
noncomputable def qlU : List (Nat × Func) := [(108, Tryz.f108), (133, Tryz.f133), (149, Tryz.f149), (166, Tryz.f166)]
noncomputable def qkN : BT Func := .node 108 (Tryz.f108) (.node 63 (Tryz.f63) (.node 34 (Tryz.f34) (.node 14 (Tryz.f14) (.node 9 (Tryz.f9) (.node 7 (Tryz.f7) (.node 3 (Tryz.f3) .leaf .leaf) (.node 8 (Tryz.f8) .leaf .leaf)) (.node 11 (Tryz.f11) (.node 10 (Tryz.f10) .leaf .leaf) .leaf)) (.node 31 (Tryz.f31) (.node 29 (Tryz.f29) (.node 28 (Tryz.f28) .leaf .leaf) (.node 30 (Tryz.f30) .leaf .leaf)) (.node 33 (Tryz.f33) (.node 32 (Tryz.f32) .leaf .leaf) .leaf))) (.node 57 (Tryz.f57) (.node 38 (Tryz.f38) (.node 36 (Tryz.f36) (.node 35 (Tryz.f35) .leaf .leaf) (.node 37 (Tryz.f37) .leaf .leaf)) (.node 56 (Tryz.f56) (.node 55 (Tryz.f55) .leaf .leaf) .leaf)) (.node 60 (Tryz.f60) (.node 59 (Tryz.f59) (.node 58 (Tryz.f58) .leaf .leaf) .leaf) (.node 62 (Tryz.f62) (.node 61 (Tryz.f61) .leaf .leaf) .leaf)))) (.node 77 (Tryz.f77) (.node 70 (Tryz.f70) (.node 67 (Tryz.f67) (.node 65 (Tryz.f65) (.node 64 (Tryz.f64) .leaf .leaf) (.node 66 (Tryz.f66) .leaf .leaf)) (.node 69 (Tryz.f69) (.node 68 (Tryz.f68) .leaf .leaf) .leaf)) (.node 74 (Tryz.f74) (.node 72 (Tryz.f72) (.node 71 (Tryz.f71) .leaf .leaf) (.node 73 (Tryz.f73) .leaf .leaf)) (.node 76 (Tryz.f76) (.node 75 (Tryz.f75) .leaf .leaf) .leaf))) (.node 84 (Tryz.f84) (.node 81 (Tryz.f81) (.node 79 (Tryz.f79) (.node 78 (Tryz.f78) .leaf .leaf) (.node 80 (Tryz.f80) .leaf .leaf)) (.node 83 (Tryz.f83) (.node 82 (Tryz.f82) .leaf .leaf) .leaf)) (.node 105 (Tryz.f105) (.node 104 (Tryz.f104) (.node 85 (Tryz.f85) .leaf .leaf) .leaf) (.node 107 (Tryz.f107) (.node 106 (Tryz.f106) .leaf .leaf) .leaf))))) (.node 151 (Tryz.f151) (.node 122 (Tryz.f122) (.node 115 (Tryz.f115) (.node 112 (Tryz.f112) (.node 110 (Tryz.f110) (.node 109 (Tryz.f109) .leaf .leaf) (.node 111 (Tryz.f111) .leaf .leaf)) (.node 114 (Tryz.f114) (.node 113 (Tryz.f113) .leaf .leaf) .leaf)) (.node 119 (Tryz.f119) (.node 117 (Tryz.f117) (.node 116 (Tryz.f116) .leaf .leaf) (.node 118 (Tryz.f118) .leaf .leaf)) (.node 121 (Tryz.f121) (.node 120 (Tryz.f120) .leaf .leaf) .leaf))) (.node 145 (Tryz.f145) (.node 126 (Tryz.f126) (.node 124 (Tryz.f124) (.node 123 (Tryz.f123) .leaf .leaf) (.node 125 (Tryz.f125) .leaf .leaf)) (.node 144 (Tryz.f144) (.node 133 (Tryz.f133) .leaf .leaf) .leaf)) (.node 148 (Tryz.f148) (.node 147 (Tryz.f147) (.node 146 (Tryz.f146) .leaf .leaf) .leaf) (.node 150 (Tryz.f150) (.node 149 (Tryz.f149) .leaf .leaf) .leaf)))) (.node 178 (Tryz.f178) (.node 166 (Tryz.f166) (.node 158 (Tryz.f158) (.node 155 (Tryz.f155) (.node 152 (Tryz.f152) .leaf .leaf) (.node 156 (Tryz.f156) .leaf .leaf)) (.node 160 (Tryz.f160) (.node 159 (Tryz.f159) .leaf .leaf) .leaf)) (.node 175 (Tryz.f175) (.node 174 (Tryz.f174) (.node 173 (Tryz.f173) .leaf .leaf) .leaf) (.node 177 (Tryz.f177) (.node 176 (Tryz.f176) .leaf .leaf) .leaf))) (.node 185 (Tryz.f185) (.node 182 (Tryz.f182) (.node 180 (Tryz.f180) (.node 179 (Tryz.f179) .leaf .leaf) (.node 181 (Tryz.f181) .leaf .leaf)) (.node 184 (Tryz.f184) (.node 183 (Tryz.f183) .leaf .leaf) .leaf)) (.node 195 (Tryz.f195) (.node 194 (Tryz.f194) (.node 193 (Tryz.f193) .leaf .leaf) .leaf) (.node 197 (Tryz.f197) (.node 196 (Tryz.f196) .leaf .leaf) .leaf)))))
theorem qnI : qkN.All fun f fn => Tryz.prog.funcs[f]? = some fn := (BT.all_node Tryz.func108 (BT.all_node Tryz.func63 (BT.all_node Tryz.func34 (BT.all_node Tryz.func14 (BT.all_node Tryz.func9 (BT.all_node Tryz.func7 (BT.all_node Tryz.func3 trivial trivial) (BT.all_node Tryz.func8 trivial trivial)) (BT.all_node Tryz.func11 (BT.all_node Tryz.func10 trivial trivial) trivial)) (BT.all_node Tryz.func31 (BT.all_node Tryz.func29 (BT.all_node Tryz.func28 trivial trivial) (BT.all_node Tryz.func30 trivial trivial)) (BT.all_node Tryz.func33 (BT.all_node Tryz.func32 trivial trivial) trivial))) (BT.all_node Tryz.func57 (BT.all_node Tryz.func38 (BT.all_node Tryz.func36 (BT.all_node Tryz.func35 trivial trivial) (BT.all_node Tryz.func37 trivial trivial)) (BT.all_node Tryz.func56 (BT.all_node Tryz.func55 trivial trivial) trivial)) (BT.all_node Tryz.func60 (BT.all_node Tryz.func59 (BT.all_node Tryz.func58 trivial trivial) trivial) (BT.all_node Tryz.func62 (BT.all_node Tryz.func61 trivial trivial) trivial)))) (BT.all_node Tryz.func77 (BT.all_node Tryz.func70 (BT.all_node Tryz.func67 (BT.all_node Tryz.func65 (BT.all_node Tryz.func64 trivial trivial) (BT.all_node Tryz.func66 trivial trivial)) (BT.all_node Tryz.func69 (BT.all_node Tryz.func68 trivial trivial) trivial)) (BT.all_node Tryz.func74 (BT.all_node Tryz.func72 (BT.all_node Tryz.func71 trivial trivial) (BT.all_node Tryz.func73 trivial trivial)) (BT.all_node Tryz.func76 (BT.all_node Tryz.func75 trivial trivial) trivial))) (BT.all_node Tryz.func84 (BT.all_node Tryz.func81 (BT.all_node Tryz.func79 (BT.all_node Tryz.func78 trivial trivial) (BT.all_node Tryz.func80 trivial trivial)) (BT.all_node Tryz.func83 (BT.all_node Tryz.func82 trivial trivial) trivial)) (BT.all_node Tryz.func105 (BT.all_node Tryz.func104 (BT.all_node Tryz.func85 trivial trivial) trivial) (BT.all_node Tryz.func107 (BT.all_node Tryz.func106 trivial trivial) trivial))))) (BT.all_node Tryz.func151 (BT.all_node Tryz.func122 (BT.all_node Tryz.func115 (BT.all_node Tryz.func112 (BT.all_node Tryz.func110 (BT.all_node Tryz.func109 trivial trivial) (BT.all_node Tryz.func111 trivial trivial)) (BT.all_node Tryz.func114 (BT.all_node Tryz.func113 trivial trivial) trivial)) (BT.all_node Tryz.func119 (BT.all_node Tryz.func117 (BT.all_node Tryz.func116 trivial trivial) (BT.all_node Tryz.func118 trivial trivial)) (BT.all_node Tryz.func121 (BT.all_node Tryz.func120 trivial trivial) trivial))) (BT.all_node Tryz.func145 (BT.all_node Tryz.func126 (BT.all_node Tryz.func124 (BT.all_node Tryz.func123 trivial trivial) (BT.all_node Tryz.func125 trivial trivial)) (BT.all_node Tryz.func144 (BT.all_node Tryz.func133 trivial trivial) trivial)) (BT.all_node Tryz.func148 (BT.all_node Tryz.func147 (BT.all_node Tryz.func146 trivial trivial) trivial) (BT.all_node Tryz.func150 (BT.all_node Tryz.func149 trivial trivial) trivial)))) (BT.all_node Tryz.func178 (BT.all_node Tryz.func166 (BT.all_node Tryz.func158 (BT.all_node Tryz.func155 (BT.all_node Tryz.func152 trivial trivial) (BT.all_node Tryz.func156 trivial trivial)) (BT.all_node Tryz.func160 (BT.all_node Tryz.func159 trivial trivial) trivial)) (BT.all_node Tryz.func175 (BT.all_node Tryz.func174 (BT.all_node Tryz.func173 trivial trivial) trivial) (BT.all_node Tryz.func177 (BT.all_node Tryz.func176 trivial trivial) trivial))) (BT.all_node Tryz.func185 (BT.all_node Tryz.func182 (BT.all_node Tryz.func180 (BT.all_node Tryz.func179 trivial trivial) (BT.all_node Tryz.func181 trivial trivial)) (BT.all_node Tryz.func184 (BT.all_node Tryz.func183 trivial trivial) trivial)) (BT.all_node Tryz.func195 (BT.all_node Tryz.func194 (BT.all_node Tryz.func193 trivial trivial) trivial) (BT.all_node Tryz.func197 (BT.all_node Tryz.func196 trivial trivial) trivial))))))
noncomputable def cfg : Cfg := { P := Tryz.prog, ty := fun t => qjS.look t, mode := fun f => match qnY.look f with | some m => m | none => .imp, frz := fun f r k => qn4 f r k, mask := fun f r => qgT f r qnZ, cut := fun f r => qgT f r qoT, tup := fun t => qoH.look t, ext := fun f => qbr f qfs, known := fun f => (qmH.look f).isSome, dat := fun t => (qoS.look t).isSome, inl := fun f => qds f qlU, lift := fun f r => match qgT f r qn0 with | some l => l | none => [], ems := fun t => (qoR.look t).isSome, ali := fun t => (qoV.look t).isSome, wrt := fun t => (qoE.look t).isSome, bld := fun t => vn.look t }
theorem qpk {fs : List Fact} (hfs : vg cfg fs) {f : Nat} {args : List AV} {v : AV} (m d : Nat) (h : (match yF cfg (fun f => qkN.look f) fs m d (.f f) args [] with | some r => some r.1 | none => none) = some v) : EVs (EV cfg) f args = some v := qoP (fun _ _ h => BT.all_look qnI h) hfs m d h
theorem qdv {fs : List Fact} (hfs : vg cfg fs) {f : Nat} {args : List AV} {v : AV} (m d : Nat) (h : (match yF cfg (fun f => qkN.look f) fs m d (.f f) args [] with | some r => gA (r.1.frz r.1.msIds r.2).fg some | none => none) = some v) : EVf (EV cfg) f args = some v := qoQ (fun _ _ h => BT.all_look qnI h) hfs m d h
instance inl_ok : InlOk cfg := InlOk.of qlU (fun _ => rfl) ⟨⟨rfl, rfl, Tryz.func108, rfl⟩, ⟨⟨rfl, rfl, Tryz.func133, rfl⟩, ⟨⟨rfl, rfl, Tryz.func149, rfl⟩, ⟨⟨rfl, rfl, Tryz.func166, rfl⟩, trivial⟩⟩⟩⟩
end Go.Proofs.YtnjonahoheopnaaGreatDoor
end
section
namespace Go.Av
def cmpS (a b : List UInt8) : Int := if a == b then 0 else if Op.bytesLess a b then -1 else 1
theorem qaX : ∀ a b : List UInt8, Lib.compareBytes a b = cmpS a b
 | [], [] => rfl
 | [], _ :: _ => by simp [Lib.compareBytes, cmpS, Op.bytesLess]
 | _ :: _, [] => by simp [Lib.compareBytes, cmpS, Op.bytesLess]
 | a :: l, b :: m => by
  rw [Lib.compareBytes, qaX l m]
  unfold cmpS
  by_cases h : a = b
  ·subst h
   have : ¬ a < a := by simp
   by_cases h2 : l = m
   ·subst h2; simp
   ·simp [Op.bytesLess, h2]
  ·have h' : (a :: l == b :: m) = false := by simp [h]
   rw [h']
   simp only [qpv, if_false, Op.bytesLess]
   by_cases hlt : a < b
   ·simp [hlt]
   ·have : b < a := by
     have h1 : ¬ a.toNat < b.toNat := hlt
     have h2 : a.toNat ≠ b.toNat := fun e => h (UInt8.toNat.inj e)
     show b.toNat < a.toNat
     omega
    simp [hlt, this, h]
theorem qh9 [Lent] {P : Program} {f : FuncId} {fn : Func} (hf : P.funcs[f]? = some fn) (hn : (fn.name == "runtime.NumGoroutine") = false) (hb : fn.body.isNone = true) (hx : Extern.findNext fn = none)
  (he : Extern.find fn = some Extern.BytealgCompare.compare) {args : List AV} {H H' : AH} {r : AV} (hr : qia args H = some (r, H')) {C : qb} {μ : MMap} {w : World} {vs : Array Value} (ha : qg C μ args vs) (hw : Wld C μ H w) :
  qM P (callFunc f vs) w (qU C μ H w r H') := by
 unfold qia at hr
 split at hr
 ·rename_i H0 a b
  cases hr
  obtain ⟨hl, hv⟩ := ha
  obtain ⟨x, y, rfl⟩ : ∃ x y, vs = #[x, y] := by
   obtain ⟨l⟩ := vs
   match l, hl with
   | [x, y], _ => exact ⟨x, y, rfl⟩
  have h0 := hv 0 _ _ rfl rfl
  have h1 := hv 1 _ _ rfl rfl
  cases h0
  cases h1
  have hrun : (callFunc f #[.string ⟨a.toArray⟩, .string ⟨b.toArray⟩]).run P w = .ok (.value (.int .i64 (cmpS a b))) w := by
   unfold callFunc
   simp only [Sem.run_bind, run_program, Result.andThen_ok, hf, hn, hb, qpv, if_false, if_true, run_mark, hx, he, Lib.run_compareString, Sem.run_pure]
   rw [qaX]
  unfold qM
  rw [hrun]
  exact ⟨C, μ, .int _ _, hw, Ext.refl (qps _)⟩
 ·cases hr
end Go.Av
namespace Go.Proofs.YtnjonahoheopnaaGreatDoor
open Go.Av
theorem qoG : qjS.All fun t ti => tiOf Tryz.prog t = some ti := by
 unfold qjS
 repeat (first | exact trivial | refine BT.all_node (by show tiOf Tryz.prog _ = _; kernel_rfl) ?_ ?_)
theorem qmA : Tryz.prog.funcs.toList.all (fun fn => !(fn.name == "runtime.NumGoroutine")) = true := by kernel_rfl
theorem qmB : Tryz.prog.follows .mixedOrders = true := by kernel_rfl
end Go.Proofs.YtnjonahoheopnaaGreatDoor
end
