/-
  Parts of the proof of ScanLongUptoCardSaid, put together: the abstract evaluation and its contracts. Own work.
  What is proved: each lemma as it stands; no condition.
-/
import Derived.KernelRfl
import Derived.Lib.Bytealg
import Derived.Lib.IndexMore
import Derived.Lib.ParseIntB
import Derived.Test.YtnmfakkjnbpjpaaDoorProg
import Derived.Test.YtnmfakkjnbpjpaaDoorZScanLongM2
open List renaming getElem?_eq_some_iff → qkp, getElem?_eq_getElem → qkv, get?Internal → qkw, getElem?_append_left → qkx, getElem?_set → qky, getElem?_append_right → qkB, replicate → qkE, mem_of_getElem? → qkF, mem_append → qkH
open Option renaming bind_eq_some_iff → qkq, map_eq_some_iff → qkr, bind_some → qkA, map_some → qkD
open Bool renaming and_eq_true → qks, false_eq_true → qkz
open Nat renaming eq_of_beq_eq_true → qkt, le_refl → qku, mul_le_mul_right → qkC, beq → qkG, blt_eq → qkI, ble → qkJ
set_option maxRecDepth 1000000
set_option maxHeartbeats 0
section
namespace Go.Av
variable {C C' C1 C2 : qb} {μ μ' μ1 : MMap} {H H' H1 H2 : AH} {w w' w1 : World} {P : Program}
structure OracOk2 [Lent] (cfg : Cfg) (cf : Orac) : Prop where
 calls : y3 cfg cf
 enters : ∀ h args H r, cf (.f h) args H = some r → cfg.ext h = none → ∀ vs w, (callFunc h vs).run cfg.P w = .ok (.enter h vs) w
theorem qi1 [Lent] (h : Wld C μ H w) {f : Nat} {fr : List AV} {assign body : Code} {ps : Array Tmp} {fn : FuncId} {tmps : Array Value} {dblk : Nat} (hf : qe C μ fr tmps) (hs : w.heap.size < w1.heap.size)
  (hold : ∀ b, b < w.heap.size → w1.heap[b]? = w.heap[b]?) {l : Nat} (hl : w.heap.size ≤ l)
  (hnew : w1.heap[l]? = some (.loop { state := .ready, pending := none, fn, tmps, params := ps, assign, body, defers := dblk })) (ho : w1.os = w.os) (ht : w1.tape = w.tape) (hu : w1.output = w.output) :
  Wld C (upd μ H.length (MI.mk4 l 0 0 0)) (H ++ [.loop f fr ps.toList assign body none .ready]) w1 ∧ Ext H.length C μ H w C (upd μ H.length (MI.mk4 l 0 0 0)) (H ++ [.loop f fr ps.toList assign body none .ready]) w1 ∧
   (∀ id m, μ id = some m → upd μ H.length (MI.mk4 l 0 0 0) id = some m) ∧ (∀ b, Live (H ++ [.loop f fr ps.toList assign body none .ready]) (upd μ H.length (MI.mk4 l 0 0 0)) b → Live H μ b ∨ b = l) := by
 have hll : l < w1.heap.size := (Array.getElem?_eq_some_iff.1 hnew).1
 have hw1 : Wld C μ H w1 := h.world (by omega) (fun b hb => hold b hb)
 have hmu : ∀ id m, μ id = some m → upd μ H.length (MI.mk4 l 0 0 0) id = some m := by
  intro id m hm
  have := h.dom id m hm
  unfold upd
  rw [if_neg (by omega)]; exact hm
 obtain ⟨n1, n2, n3, n4, n5⟩ := hw1.new4 (nid := none) (k := H.length) (blk := .loop f fr ps.toList assign body none .ready) (H' := H ++ [.loop f fr ps.toList assign body none .ready]) (B := l) (b0 := 0) (n0 := 0) (z0 := 0) rfl (fun hl' => by have := h.live_lt hl'; omega) hll
  (fun o => by
   cases hc : C l o with
   | none => rfl
   | some v => have := h.block_lt hc; omega) (h.lent_none hl) rfl ⟨_, hnew, rfl, rfl, rfl, rfl, rfl, hf.mono (fun _ _ _ h => h) hmu⟩
 refine ⟨n1, ⟨ho, ht, hu, by omega, fun _ _ _ h => h, fun id m _ hm => ⟨_, hmu id m hm, .refl _⟩, fun b hb hnl => ⟨hold b hb, fun hl' => ?_, rfl⟩, n3⟩, hmu, n4⟩
 rcases n4 b hl' with h1 | h1
 ·exact hnl h1
 ·omega
theorem qcZ [Lent] {cfg : Cfg} {cf : Orac} (hO : OracOk2 cfg cf) {F : Fence} {rd : Option Nat} {f B k : Nat} {g : Operand} {ps : Array Tmp} {assign body : Code} {fr : List AV} {r : Ex × List AV × AH} {a : Act}
  (he : yh cfg cf f rd k g ps assign body fr H = some r) (hk : k ≤ H.length) (hrd : RdOk rd F μ k) (hf : qe C μ fr a.tmps) (hw : Wld C μ H w) (hm : zk B μ H w a.defers) :
  (Code.rangeFunc g ps assign body).wpIn F 0 cfg.P (yD k B C μ H w r) a w := by
 have hrd := hrd.ext (fun _ _ _ h => ⟨_, h, .refl _⟩) hk
 unfold yh at he
 split at he
 case isFalse => cases he
 rename_i hrl
 split at he
 case h_2 => cases he
 rename_i h first caps hg
 split at he
 case isTrue => cases he
 rename_i hext
 have hext : cfg.ext h = none := by
  cases hh : cfg.ext h with
  | none => rfl
  | some s => rw [hh] at hext; simp at hext
 obtain ⟨q, hq, he⟩ := qkq.1 he
 have hgr := zm hf g
 rw [hg] at hgr
 generalize hgv : a.eval g = gv at hgr
 cases hgr with
 | fn _ _ _ vf vc hl1 hl2 h1 h2 =>
 refine wpIn_rangeFunc fun fn hfn => ?_
 have hwide := hrd.wide
 have hmf : qe C μ (qE (cfg.keepIn f (qf body)) fr) a.tmps := yo hf
 -- what lies behind the loop
 have core : ∀ (l : Nat) (ms : List Deferred) (w1 : World) (dblk : Nat), w.heap.size < w1.heap.size → (∀ b, b < w.heap.size → w1.heap[b]? = w.heap[b]?) → w.heap.size ≤ l →
   w1.heap[l]? = some (.loop { state := .ready, pending := none, fn, tmps := a.tmps, params := ps, assign, body, defers := dblk }) → w1.os = w.os → w1.tape = w.tape → w1.output = w.output →
   (ms = [] ∨ ∃ D, ms = [mark D] ∧ w.heap.size ≤ D ∧ D ≠ l ∧ w1.heap[D]? = some (.deferred (some []))) →
   CallsIn F (0 - 1) cfg.P h (vf.toArray ++ #[.func (.yield l) #[] #[]] ++ vc.toArray) w1 (rangePost F 0 cfg.P l (yD k B C μ H w r) { a with defers := ms ++ a.defers }) := by
  intro l ms w1 dblk hs hold hl hnew ho ht hu hms
  obtain ⟨g1, g2, g3, g4⟩ := qi1 (f := f) hw hmf hs hold hl hnew ho ht hu
  have hargs : qe C (upd μ H.length (MI.mk4 l 0 0 0)) (first ++ [.yld H.length] ++ caps) (vf.toArray ++ #[.func (.yield l) #[] #[]] ++ vc.toArray) := by
   refine ⟨by simp [hl1, hl2], fun i x v e1 e2 => ?_⟩
   rw [← Array.getElem?_toList] at e2
   simp only [Array.toList_append] at e2
   rcases Nat.lt_or_ge i (first.length + 1) with hlt | hge
   ·rw [qkx (by simpa using hlt)] at e1
    rw [qkx (by first | omega | (simp; omega))] at e2
    rcases Nat.lt_or_ge i first.length with hlt' | hge'
    ·rw [qkx hlt'] at e1
     rw [qkx (by first | omega | (simp; omega))] at e2
     exact (h1 i x v e1 (by simpa using e2)).mono (fun _ _ _ h => h) g3
    ·have hi : i = first.length := by omega
     subst hi
     rw [qkB (qku _)] at e1
     rw [qkB (by first | omega | (simp; omega))] at e2
     simp [hl1] at e1 e2
     subst e1; subst e2
     exact .yld H.length (MI.mk4 l 0 0 0) (by unfold upd; rw [if_pos rfl])
   ·rw [qkB (by simpa using hge)] at e1
    rw [qkB (by first | omega | (simp; omega))] at e2
    have : i - (vf.toArray.toList ++ #[Value.func (.yield l) #[] #[]].toList).length = i - (first ++ [AV.yld H.length]).length := by simp [hl1]
    rw [this] at e2
    exact (h2 _ x v e1 (by simpa using e2)).mono (fun _ _ _ h => h) g3
  have hcall := hO.calls _ _ _ _ _ hq C _ w1 _ _ hargs g1 rfl
  unfold qA at hcall
  rw [hO.enters _ _ _ _ hq hext] at hcall
  refine hwide.calls (hcall.mono fun e w3 hp => ?_)
  obtain ⟨v, rfl, C3, μ3, p1, p2, p3⟩ := hp
  have hle : H.length < (H ++ [ABlk.loop f (qE (cfg.keepIn f (qf body)) fr) ps.toList assign body none .ready]).length := by simp
  obtain ⟨⟨l', b0, s0, z0, D0⟩, hm3, hbl3, -⟩ := p3.mu H.length (MI.mk4 l 0 0 0) hle (by unfold upd; rw [if_pos rfl])
  have hbl3 : l = l' := (show l' = l from hbl3).symm
  subst hbl3
  split at he
  case h_2 => cases he
  rename_i lf lfr lps lassign lbody pend st hlq
  split at he
  case h_1 => cases he
  rename_i hst
  obtain ⟨e2, e3, rc, e4, e5, e6, _⟩ := p2.liveM hlq rfl hm3
  simp only at e4
  have hend := run_endLoop (P := cfg.P) e4 (by rw [e5]; exact hst)
  refine ⟨rc.pending, _, hend, ?_⟩
  -- the world behind it
  have hkill : Wld C3 μ3 (q.2.set H.length .dead) (w3.putObj l (.loop { rc with state := .exhausted })) := by
   refine (p2.kill H.length (by rw [hlq]; simp)).worldG (by simp) (fun b hb hor => ?_)
   refine World.putObj_heap_other fun hbl => ?_
   subst hbl
   rcases hor with hl' | ⟨o, hc'⟩ | ⟨o, hc'⟩
   ·obtain ⟨_, hl''⟩ := hl'.of_kill
    exact hl'' _ hm3 (fun id' b' m' i1 i2 i3 i4 i5 => i4 (p2.inj _ _ _ _ _ _ i1 hlq i2 rfl i3 hm3 _ i5 (.inl rfl))) rfl
   ·exact hc' (e3 o)
   ·exact hc' ((p2.liveH hlq rfl hm3 _ (.inl rfl)).2.2.1 o)
  have hf3 : qe C3 μ3 (qE (cfg.keepOut f (qf body)) fr) a.tmps := (yo hf).monoG p3.cl (fun id m hm => p3.mu id m (by have := hw.dom id m hm; simp; omega) (g3 id m hm))
  obtain ⟨μ4, k1, k2, k3⟩ := qiv hkill hf3 k (by simp; have := p3.len; simp at this; omega)
  have hx1 : Ext H.length C μ H w C3 μ3 q.2 w3 := g2.trans p3 (by simp)
  have hx : Ext k C μ H w C3 μ4 (gc k (qE (cfg.keepOut f (qf body)) fr) (q.2.set H.length .dead)).2 (w3.putObj l (.loop { rc with state := .exhausted })) := by
   refine ⟨hx1.os, hx1.tape, hx1.output, by have := hx1.size; simpa using this, hx1.cl, fun id m hid hm => let ⟨m1, f1, f2⟩ := hx1.mu id m (by omega) hm; let ⟨m2, f3, f4⟩ := k3.mu id m1 hid f1; ⟨m2, f3, f2.trans f4⟩, fun b hb hnl => ?_, k3.len⟩
   obtain ⟨f1, f2, f3⟩ := hx1.fr b hb hnl
   refine ⟨by rw [World.putObj_heap_other (by omega)]; exact f1, fun hl' => ?_, f3⟩
   have hb3 : b < (w3.putObj l (.loop { rc with state := .exhausted })).heap.size := by have := hx1.size; simp; omega
   exact (k3.fr b hb3 (fun hl'' => f2 hl''.of_kill.1)).2.1 hl'
  have hmarks : zk B μ4 (gc k (qE (cfg.keepOut f (qf body)) fr) (q.2.set H.length .dead)).2 (w3.putObj l (.loop { rc with state := .exhausted })) (ms ++ a.defers) := by
   obtain ⟨hb, Ds, d1, d2, d3⟩ := hm.ext hx
   have hB : B ≤ w.heap.size := hm.1
   obtain ⟨_, Ds', d1', _, d3'⟩ := hm
   have hinj : Ds.map mark = Ds'.map mark := by rw [← d1, ← d1']
   have hDs : Ds = Ds' := by
    have : ∀ (x y : List Nat), x.map mark = y.map mark → x = y := by
     intro x
     induction x with
     | nil => intro y h; cases y with
      | nil => rfl
      | cons => simp at h
     | cons a x ih =>
      intro y h
      cases y with
      | nil => simp at h
      | cons b y =>
       simp only [List.map_cons, List.cons.injEq] at h
       obtain ⟨h1, h2⟩ := h
       have : a = b := by unfold mark at h1; cases h1; rfl
       rw [this, ih y h2]
    exact this _ _ hinj
   rcases hms with rfl | ⟨D, rfl, hD1, hD2, hD3⟩
   ·exact ⟨hb, Ds, d1, d2, d3⟩
   ·have hDlt : D < w1.heap.size := (Array.getElem?_eq_some_iff.1 hD3).1
    have hDl1 : ¬ Live (H ++ [ABlk.loop f (qE (cfg.keepIn f (qf body)) fr) ps.toList assign body none .ready]) (upd μ H.length (MI.mk4 l 0 0 0)) D := by
     intro hl'
     rcases g4 D hl' with h | h
     ·have := hw.live_lt h; omega
     ·exact hD2 h
    obtain ⟨f1, f2, _⟩ := p3.fr D hDlt hDl1
    refine ⟨hb, D :: Ds, by simp [d1], List.nodup_cons.2 ⟨fun hmem => ?_, d2⟩, fun D' hD' => ?_⟩
    ·rw [hDs] at hmem
     have := (Array.getElem?_eq_some_iff.1 (d3' D hmem).2.1).1
     omega
    ·rcases List.mem_cons.1 hD' with rfl | hmem
     ·refine ⟨by omega, by rw [World.putObj_heap_other hD2, f1]; exact hD3, fun hl' => ?_⟩
      have hb3 : D' < (w3.putObj l (.loop { rc with state := .exhausted })).heap.size := by have := p3.size; simp; omega
      exact (k3.fr D' hb3 (fun hl'' => f2 hl''.of_kill.1)).2.1 hl'
     ·exact d3 D' hmem
  have fin : ∀ e, r = (e, gc k (qE (cfg.keepOut f (qf body)) fr) (q.2.set H.length .dead)) → yD k B C μ H w r e.to { a with defers := ms ++ a.defers } (w3.putObj l (.loop { rc with state := .exhausted })) := by
   intro e hr
   subst hr
   exact ⟨rfl, C3, μ4, k2, k1, hx, hmarks⟩
  rw [e6] at fin ⊢
  split at he
  ·cases he; exact fin .normal rfl
  ·cases he; exact wpIn_ret (fin .ret rfl)
  ·rename_i x; cases he; exact wpIn_exit (fin (.exit x) rfl)
  ·cases he
 have hres : ∀ l w, (resolve a.eval (rangeCall g l) 0).run cfg.P w = .ok { target := .fn (.func h) vc.toArray, args := vf.toArray ++ #[.func (.yield l) #[] #[]] } w := by
  intro l w
  rw [qaV (f := g) rfl, hgv]
  simp [Deferred.ofValue, Act.eval]
 have hinv : ∀ l w, (invoke (.fn (.func h) vc.toArray) (vf.toArray ++ #[.func (.yield l) #[] #[]])).run cfg.P w = .ok (.enter h (vf.toArray ++ #[.func (.yield l) #[] #[]] ++ vc.toArray)) w := by
  intro l w
  rw [invoke]
  exact hO.enters _ _ _ _ hq hext _ w
 have hdep : F.depth.isSome = true → 1 ≤ 0 := fun hh => by rw [hwide.depth] at hh; simp at hh
 cases rd with
 | none =>
  have hFw : F = Fence.wide := hrd
  have hro : F.round = none := by rw [hFw]; rfl
  rw [hro]
  refine ⟨w.heap.size + 1, [mark w.heap.size], _, _, _, h, _, _, run_enterLoop_outer fn a.tmps ps assign body, hres _ _, fun f' _ => hwide.fn f', hinv _ _, hdep, ?_⟩
  refine core (w.heap.size + 1) [mark w.heap.size] _ w.heap.size (by simp; omega) (fun b hb => ?_) (by omega) ?_ rfl rfl rfl (.inr ⟨w.heap.size, rfl, qku _, by omega, ?_⟩)
  ·show ((w.heap.push _).push _)[b]? = _
   rw [Array.getElem?_push, if_neg (by simp; omega), Array.getElem?_push, if_neg (by omega)]
  ·show ((w.heap.push _).push _)[w.heap.size + 1]? = _
   rw [Array.getElem?_push, if_pos (by simp)]
  ·show ((w.heap.push _).push _)[w.heap.size]? = _
   rw [Array.getElem?_push, if_neg (by simp), Array.getElem?_push, if_pos rfl]
 | some l0 =>
  obtain ⟨hl0, m0, hm0, hFr⟩ := hrd
  have hro : F.round = some m0.block := by rw [hFr]; rfl
  rw [hro]
  unfold qfi at hrl
  simp only at hrl
  split at hrl
  case h_2 => cases hrl
  rename_i hb0
  obtain ⟨i2, i3, r0, i4, _⟩ := hw.liveM hb0 rfl hm0
  refine ⟨w.heap.size, [], _, _, _, h, _, _, run_enterLoop_inner i4 fn a.tmps ps assign body, hres _ _, fun f' _ => hwide.fn f', hinv _ _, hdep, ?_⟩
  refine core w.heap.size [] _ r0.defers (by simp) (fun b hb => ?_) (qku _) ?_ rfl rfl rfl (.inl rfl)
  ·show (w.heap.push _)[b]? = _
   rw [Array.getElem?_push, if_neg (by omega)]
  ·show (w.heap.push _)[w.heap.size]? = _
   rw [Array.getElem?_push, if_pos rfl]
variable {C C' C1 C2 : qb} {μ μ' μ1 : MMap} {H H' H1 H2 : AH} {w w' w1 : World} {P : Program}
theorem qbw [Lent] {cfg : Cfg} (hc : CfgTy cfg) {cf : Orac} (hO : OracOk2 cfg cf) (hmx : cfg.P.follows .mixedOrders = true) {F : Fence} {rd : Option Nat} {f B k : Nat} : ∀ (c : Code) {fr : List AV} {H : AH} {r : Ex × List AV × AH}, evC cfg cf f rd k c fr H = some r →
  ∀ {C : qb} {μ : MMap} {w : World} {a : Act}, k ≤ H.length → RdOk rd F μ k → qe C μ fr a.tmps → Wld C μ H w → zk B μ H w a.defers → c.wpIn F 0 cfg.P (yD k B C μ H w r) a w := by
 intro c
 induction c with
 | skip =>
  intro fr H r he C μ w a hk hrd hf hw hm
  rw [evC.eq_def] at he; simp only at he; cases he
  exact wpIn_skip ⟨rfl, C, μ, hf, hw, Ext.refl hk, hm⟩
 | label l =>
  intro fr H r he C μ w a hk hrd hf hw hm
  rw [evC.eq_def] at he; simp only at he; cases he
  exact wpIn_label ⟨rfl, C, μ, hf, hw, Ext.refl hk, hm⟩
 | exit id =>
  intro fr H r he C μ w a hk hrd hf hw hm
  rw [evC.eq_def] at he; simp only at he; cases he
  exact wpIn_exit ⟨rfl, C, μ, hf, hw, Ext.refl hk, hm⟩
 | ret =>
  intro fr H r he C μ w a hk hrd hf hw hm
  rw [evC.eq_def] at he; simp only at he; cases he
  exact wpIn_ret ⟨rfl, C, μ, hf, hw, Ext.refl hk, hm⟩
 | goto l =>
  intro fr H r he
  rw [evC.eq_def] at he; simp only at he; cases he
 | refuse s =>
  intro fr H r he
  rw [evC.eq_def] at he; simp only at he; cases he
 | region id ops draw =>
  intro fr H r he C μ w a hk hrd hf hw hm
  rw [evC.eq_def] at he
  simp only at he
  have fin : ∀ (fr' : List AV) (H' : AH) C' μ' w' (a' : Act), qe C' μ' fr' a'.tmps → Wld C' μ' H' w' → Ext H.length C μ H w C' μ' H' w' → a'.defers = a.defers → yD k B C μ H w (.normal, fr', H') .normal a' w' :=
   fun fr' H' C' μ' w' a' g1 g2 g3 g4 => ⟨rfl, C', μ', g1, g2, g3.less hk, by rw [g4]; exact hm.ext g3⟩
  cases draw with
  | true =>
   simp only [if_true] at he
   split at he
   case isFalse => cases he
   rename_i hst
   obtain ⟨q, hq, he⟩ := qkq.1 he
   split at he
   case isFalse => cases he
   rename_i hdy
   obtain ⟨fps, fr', H'⟩ := q
   cases he
   exact qhM hc hO.calls hmx hrd.wide hst hq hdy hf hw (fin fr' H')
  | false =>
   simp only [qkz, if_false] at he
   obtain ⟨q, hq, e⟩ := qkr.1 he
   obtain ⟨fr', H'⟩ := q
   cases e
   refine wpIn_region ?_
   have := z6 hc hO.calls hrd.wide (Q := yD k B C μ H w (.normal, fr', H')) ops.toList 0 hq (fun i => by rw [Array.getElem?_toList, Nat.zero_add]) hf hw (fin fr' H')
   rw [List.range_eq_range']
   simpa using this
 | seq x y ihx ihy =>
  intro fr H r he C μ w a hk hrd hf hw hm
  rw [evC.eq_def] at he
  simp only at he
  obtain ⟨q, hq, he⟩ := qkq.1 he
  refine wpIn_seq (wpIn_mono (ihx hq hk hrd hf hw hm) fun e a1 w1 hp => ?_)
  cases hq1 : q.1 with
  | normal =>
   obtain ⟨h1, C1, μ1, h2, h3, h4, h5⟩ := hp
   rw [hq1] at h1 he
   subst h1
   refine wpIn_mono (ihy he h4.len (hrd.ext h4.mu (qku _)) (yo h2) h3 h5) fun e' a2 w2 hp2 => hp2.mono h4 (qku _)
  | exit id =>
   rw [hq1] at he
   cases he
   have : e = .exit id := by rw [hp.1, hq1]; rfl
   subst this
   exact ⟨rfl, hp.2⟩
  | goto l =>
   rw [hq1] at he
   cases he
   have : e = .goto l := by rw [hp.1, hq1]; rfl
   subst this
   exact ⟨rfl, hp.2⟩
  | ret =>
   rw [hq1] at he
   cases he
   have : e = .ret := by rw [hp.1, hq1]; rfl
   subst this
   exact ⟨rfl, hp.2⟩
 | cond c x y ihx ihy =>
  intro fr H r he C μ w a hk hrd hf hw hm
  rw [evC.eq_def] at he
  simp only at he
  split at he
  case h_2 => cases he
  rename_i t ht
  have hcr := zm hf c
  rw [ht] at hcr
  generalize hv : a.eval c = v at hcr
  cases hcr
  cases t with
  | true => exact wpIn_cond_true hv (ihx (by simpa using he) hk hrd hf hw hm)
  | false => exact wpIn_cond_false hv (ihy (by simpa using he) hk hrd hf hw hm)
 | block id x ih =>
  intro fr H r he C μ w a hk hrd hf hw hm
  rw [evC.eq_def] at he
  simp only at he
  obtain ⟨q, hq, he⟩ := qkq.1 he
  refine wpIn_block (wpIn_mono (ih hq hk hrd hf hw hm) fun e a1 w1 hp => ?_)
  cases hq1 : q.1 with
  | normal =>
   rw [hq1] at he
   cases he
   have : e = .normal := by rw [hp.1, hq1]; rfl
   subst this
   exact hp
  | exit id' =>
   rw [hq1] at he
   simp only at he
   have : e = .exit id' := by rw [hp.1, hq1]; rfl
   subst this
   simp only [Exit.inBlock]
   by_cases e : id' = id
   ·subst e
    rw [if_pos (Nat.beq_refl _)] at he
    cases he
    rw [if_pos rfl]
    exact ⟨rfl, hp.2⟩
   ·have : ¬ qkG id' id = true := fun h => e (qkt h)
    rw [if_neg this] at he
    cases he
    rw [if_neg e]
    exact hp
  | goto l =>
   rw [hq1] at he
   cases he
   have : e = .goto l := by rw [hp.1, hq1]; rfl
   subst this
   exact hp
  | ret =>
   rw [hq1] at he
   cases he
   have : e = .ret := by rw [hp.1, hq1]; rfl
   subst this
   exact hp
 | loop x ih =>
  intro fr H r he C μ w a hk hrd hf hw hm
  rw [evC.eq_def] at he
  simp only at he
  obtain ⟨q, hq, e⟩ := qkr.1 he
  obtain ⟨n, hn⟩ := yH hq
  obtain ⟨μ', g1, g2, g3⟩ := qfD hw hf (cfg.keepIn f (qf x)) (cfg.lift f (qf x)) k hk
  refine wpIn_mono (wpIn_loop_rounds n (qb8 (rd := rd) (fun hq => ih hq) hk n hn g3.len (hrd.ext g3.mu (qku _)) g2 g1 (hm.ext g3) g3)) fun e' a' w' hp => ?_
  obtain ⟨h1, C1, μ1, h2, h3, h4, h5⟩ := hp
  subst e
  exact ⟨h1, C1, μ1, yo h2, h3, h4, h5⟩
 | scope x ih =>
  intro fr H r he C μ w a hk hrd hf hw hm
  rw [evC.eq_def] at he
  simp only at he
  obtain ⟨q, hq, he⟩ := qkq.1 he
  have hqr : (∀ l, q.1 ≠ .goto l) ∧ q = r := by
   cases hq1 : q.1 with
   | goto l => rw [hq1] at he; cases he
   | normal => rw [hq1] at he; simp only [Option.some.injEq] at he; exact ⟨nofun, he⟩
   | exit id => rw [hq1] at he; simp only [Option.some.injEq] at he; exact ⟨nofun, he⟩
   | ret => rw [hq1] at he; simp only [Option.some.injEq] at he; exact ⟨nofun, he⟩
  obtain ⟨h1, rfl⟩ := hqr
  refine qf3 (ih hq hk hrd hf hw hm) fun l a1 w1 hp => ?_
  have := hp.1
  cases hq1 : q.1 with
  | goto l => exact h1 l hq1
  | _ => rw [hq1] at this; cases this
 | rangeFunc g ps assign body =>
  intro fr H r he C μ w a hk hrd hf hw hm
  rw [evC.eq_def] at he
  simp only at he
  obtain ⟨a1, a2, a3, a4⟩ := zd (cfg.lift f (qf body)) hw hf
  exact wpIn_mono (qcZ hO he (Nat.le_trans hk a3) hrd a2 a1 (hm.ext (a4 k hk))) fun e a' w' hp => hp.mono (a4 k hk) (qku _)
def qaf (tmps : Array Value) : ResultVar → Sem Value
 | .tmp t => pure (tmps.getD t undef)
 | .cell a t => do loadVar t (← asAddr (tmps.getD a undef))
theorem y5 [Lent] {cfg : Cfg} (hc : CfgTy cfg) {fr : List AV} {tmps : Array Value} (hf : qe C μ fr tmps) (hw : Wld C μ H w) : ∀ (rs : List ResultVar) {vs : List AV}, q4 rs cfg.ty fr H = some vs →
  ∃ us : List Value, (rs.mapM (qaf tmps)).run cfg.P w = .ok us w ∧ vs.length = us.length ∧
   ∀ (i : Nat) a v, vs[i]? = some a → us[i]? = some v → Rep C μ a v
 | [], vs, he => by
  simp only [q4] at he
  cases he
  exact ⟨[], by simp, rfl, fun i a v h => by simp at h⟩
 | .tmp t :: l, vs, he => by
  simp only [q4] at he
  obtain ⟨vs', hvs, e⟩ := qkr.1 he
  cases e
  obtain ⟨us, h1, h2, h3⟩ := y5 hc hf hw l hvs
  refine ⟨tmps.getD t undef :: us, ?_, by simp [h2], fun i a v e1 e2 => ?_⟩
  ·simp only [List.mapM_cons, Sem.run_bind, qaf, Sem.run_pure, Result.andThen_ok, h1]
  ·cases i with
   | zero => simp at e1 e2; subst e1; subst e2; simpa [opd, Act.eval] using zm (a := ⟨tmps, []⟩) hf (.tmp t)
   | succ i => exact h3 i a v (by simpa using e1) (by simpa using e2)
 | .cell a t :: l, vs, he => by
  simp only [q4] at he
  split at he
  case h_2 => cases he
  rename_i ti hti
  obtain ⟨x, hx, he⟩ := qkq.1 he
  obtain ⟨vs', hvs, e⟩ := qkr.1 he
  cases e
  obtain ⟨us, h1, h2, h3⟩ := y5 hc hf hw l hvs
  have hr : Rep C μ (fr.getD a .junk) (tmps.getD a undef) := by simpa [opd, Act.eval] using zm (a := ⟨tmps, []⟩) hf (.tmp a)
  obtain ⟨ad, u, g1, g2, g3⟩ := qdb hw (hc.ty _ _ hti) hr hx
  refine ⟨u :: us, ?_, by simp [h2], fun i a v e1 e2 => ?_⟩
  ·have ga : (qaf tmps (.cell a t)).run cfg.P w = .ok u w := by simp only [qaf, g1, asAddr, Sem.run_bind, Sem.run_pure, Result.andThen_ok, g2]
   simp only [List.mapM_cons, Sem.run_bind, ga, Sem.run_pure, Result.andThen_ok, h1]
  ·cases i with
   | zero => simp at e1 e2; subst e1; subst e2; exact g3
   | succ i => exact h3 i a v (by simpa using e1) (by simpa using e2)
theorem qeA [Lent] {cfg : Cfg} (hc : CfgTy cfg) {fn : Func} {fr : List AV} {tmps : Array Value} (hf : qe C μ fr tmps) (hw : Wld C μ H w) {vs : List AV} (he : q4 fn.results.toList cfg.ty fr H = some vs) :
  ∃ v, (results fn tmps).run cfg.P w = .ok v w ∧ Rep C μ (vZ vs) v := by
 obtain ⟨us, h1, h2, h3⟩ := y5 hc hf hw _ he
 refine ⟨if h : us.toArray.size = 1 then us.toArray[0] else .tuple us.toArray, ?_, ?_⟩
 ·have hr : results fn tmps = (fn.results.mapM (qaf tmps) >>= fun vs => pure (if h : vs.size = 1 then vs[0] else .tuple vs)) := rfl
  rw [hr, Array.mapM_eq_mapM_toList]
  simp only [Sem.run_bind, Sem.run_map, Result.andThen_ok, Sem.run_pure, h1]
 ·cases us with
  | nil =>
   cases vs with
   | nil => exact .tup [] [] rfl (fun i a v h => by simp at h)
   | cons x l => simp at h2
  | cons u us =>
   cases vs with
   | nil => simp at h2
   | cons x l =>
    cases us with
    | nil =>
     cases l with
     | nil => simpa [vZ] using h3 0 x u rfl rfl
     | cons y l => simp at h2
    | cons u' us =>
     cases l with
     | nil => simp at h2
     | cons y l =>
      have : vZ (x :: y :: l) = .tup (x :: y :: l) := rfl
      rw [this, dif_neg (by simp)]
      exact .tup _ _ h2 h3
theorem qgE {cfg : Cfg} {rs : List ResultVar} {q : Ex × List AV × AH} {r : AV} (h : y0 cfg rs q = some (r, H')) : (q.1 = .normal ∨ q.1 = .ret) ∧ H' = q.2.2 ∧ ∃ vs, q4 rs cfg.ty q.2.1 q.2.2 = some vs ∧ r = vZ vs := by
 unfold y0 at h
 split at h
 ·rename_i hq
  obtain ⟨vs, h1, e⟩ := qkr.1 h
  cases e
  exact ⟨.inl hq, rfl, vs, h1, rfl⟩
 ·rename_i hq
  obtain ⟨vs, h1, e⟩ := qkr.1 h
  cases e
  exact ⟨.inr hq, rfl, vs, h1, rfl⟩
 ·cases h
theorem qbe [Lent] {fn : Func} {tmps : Array Value} {R : Ending → World → Prop} {B k : Nat} {C0 : qb} {μ0 : MMap} {H0 : AH} {w0 : World} (hB : B = w0.heap.size)
  (hend : ∀ w', Wld C μ H w' → Ext k C0 μ0 H0 w0 C μ H w' → ∃ v, (results fn tmps).run P w' = .ok v w' ∧ R (.returned v) w') : ∀ (Ds : List Nat) {w : World}, Ds.Nodup → (∀ D ∈ Ds, B ≤ D ∧ w.heap[D]? = some (.deferred (some [])) ∧ ¬ Live H μ D) →
   Wld C μ H w → Ext k C0 μ0 H0 w0 C μ H w → LeavesInM Fence.wide 0 P fn tmps R (Ds.map mark) .returning w
 | [], w, _, _, hw, hx => hend w hw hx
 | D :: Ds, w, hnd, hD, hw, hx => by
  obtain ⟨d1, d2, d3⟩ := hD D (List.mem_cons_self ..)
  obtain ⟨hnm, hnd'⟩ := List.nodup_cons.1 hnd
  refine ⟨by simp, .inl ⟨D, _, rfl, run_takeDeferred d2, ?_⟩⟩
  have hne : ∀ b, b ≠ D → (w.putObj D (.deferred none)).heap[b]? = w.heap[b]? := fun b hb => World.putObj_heap_other hb
  refine qbe hB hend Ds hnd' (fun D' hD' => ?_) (hw.worldG (by simp) (fun b hb hor => hne b fun e => ?_)) ⟨hx.os, hx.tape, hx.output, by simpa using hx.size, hx.cl, hx.mu, fun b hb hnl => ?_, hx.len⟩
  ·obtain ⟨g1, g2, g3⟩ := hD D' (List.mem_cons_of_mem _ hD')
   exact ⟨g1, by rw [hne D' (fun e => hnm (by rw [← e]; exact hD'))]; exact g2, g3⟩
  ·subst e
   rcases hor with hl | ⟨o, hc⟩ | ⟨o, hc⟩
   ·exact d3 hl
   ·cases hco : C b o with
    | none => exact hc hco
    | some v =>
     have := hw.cl b o v hco
     simp only [World.cell?, d2] at this
     cases this
   ·cases hco : Lent.l b o with
    | none => exact hc hco
    | some v =>
     have := hw.lnt.1 b o v hco
     simp only [World.cell?, d2] at this
     cases this
  ·obtain ⟨f1, f2, f3⟩ := hx.fr b hb hnl
   exact ⟨by rw [hne b (by omega)]; exact f1, f2, f3⟩
variable {C C' C1 C2 : qb} {μ μ' μ1 : MMap} {H H' H1 H2 : AH} {w w' w1 : World} {P : Program}
structure CfgOk [Lent] (cfg : Cfg) : Prop where
 ty : CfgTy cfg
 mixed : cfg.P.follows .mixedOrders = true
 named : ∀ f fn, cfg.known f = true → cfg.P.funcs[f]? = some fn → (fn.name == "runtime.NumGoroutine") = false
 ext : ∀ f s, cfg.ext f = some s → ∀ args H r H', s args H = some (r, H') → ∀ C μ w vs, qe C μ args vs → Wld C μ H w → qA cfg.P (callFunc f vs) w (qP C μ H w r H')
theorem qcS {f : FuncId} {fn : Func} {c : Code} (hf : P.funcs[f]? = some fn) (hn : (fn.name == "runtime.NumGoroutine") = false) (hb : fn.body = some c) (vs : Array Value) (w : World) : (callFunc f vs).run P w = .ok (.enter f vs) w := by
 unfold callFunc
 simp only [Sem.run_bind, run_program, Result.andThen_ok, hf, hn, hb, Option.isNone_some, qkz, if_false]
 simp
theorem qjA [Lent] {args : List AV} {vs : Array Value} (h : qe C μ args vs) (n : Nat) : qe C μ (args ++ qkE (n - args.length) .junk) (vs ++ Array.replicate (n - vs.size) undef) := by
 refine ⟨by simp [h.1], fun i a v e1 e2 => ?_⟩
 rcases Nat.lt_or_ge i args.length with hlt | hge
 ·rw [qkx hlt] at e1
  rw [Array.getElem?_append_left (by rw [← h.1]; exact hlt)] at e2
  exact h.2 i a v e1 e2
 ·rw [qkB hge] at e1
  have := qkF e1
  rw [List.mem_replicate] at this
  rw [this.2]
  exact .junk v
theorem qaU [Lent] : ∀ (ps : List Tmp) {args : List AV} {vs : List Value} {fr : List AV} {tmps : Array Value}, (∀ (i : Nat) a v, args[i]? = some a → vs[i]? = some v → Rep C μ a v) → args.length = vs.length → qe C μ fr tmps →
  qe C μ (vt fr ps args) ((ps.zip vs).foldl (fun t (p, v) => t.setIfInBounds p v) tmps)
 | [], args, vs, fr, tmps, _, _, hf => by cases args <;> simpa [vt] using hf
 | p :: ps, [], vs, fr, tmps, _, hl, hf => by
  have : vs = [] := List.eq_nil_of_length_eq_zero (by simpa using hl.symm)
  subst this
  simpa [vt] using hf
 | p :: ps, x :: args, [], fr, tmps, _, hl, hf => by simp at hl
 | p :: ps, x :: args, v :: vs, fr, tmps, h, hl, hf => by
  rw [vt, List.zip_cons_cons, List.foldl_cons]
  refine qaU ps (fun i a u e1 e2 => h (i + 1) a u (by simpa using e1) (by simpa using e2)) (by simpa using hl) ?_
  exact qag (a := ⟨tmps, []⟩) (dst := some p) hf (h 0 x v rfl rfl)
theorem qiy [Lent] {cfg : Cfg} (ok : CfgOk cfg) {cf : Orac} (hO : OracOk2 cfg cf) {f : Nat} {fn : Func} {c : Code} {args : List AV} {vs : Array Value} {r : AV} (hf : cfg.P.funcs[f]? = some fn) (hb : fn.body = some c)
  (he : ((evC cfg cf f none H.length c (args ++ qkE (fn.ntmps - args.length) .junk) H).bind fun r => y0 cfg fn.results.toList (r.1, qx (cfg.lift f 0) r.2.1 r.2.2)) = some (r, H')) (ha : qe C μ args vs) (hw : Wld C μ H w) :
  CallsIn Fence.wide 0 cfg.P f vs w fun e w' => ∃ v, e = .returned v ∧ qP C μ H w r H' v w' := by
 obtain ⟨q, hq, he⟩ := qkq.1 he
 obtain ⟨h1, rfl, us, h3, rfl⟩ := qgE he
 refine callsIn_of_wp_marks hf hb trivial (wpIn_mono (qbw ok.ty hO ok.mixed (B := w.heap.size) c hq (F := Fence.wide) (qku _) rfl (qjA ha fn.ntmps) hw ⟨qku _, [], rfl, List.nodup_nil, fun D h => by cases h⟩) fun e a' w' hp => ?_)
 obtain ⟨e1, C', μ', e2, e3, e4, hmk⟩ := hp
 obtain ⟨l1, l2, l3, l4⟩ := zd (cfg.lift f 0) e3 e2
 obtain ⟨hB, Ds, m1, m2, m3⟩ := hmk.ext (l4 _ (qku _))
 replace e2 := l2
 replace e4 := e4.trans (l4 _ e4.len) (qku _)
 replace e3 := l1
 have hl : LeavesInM Fence.wide 0 cfg.P fn a'.tmps (fun e w' => ∃ v, e = .returned v ∧ qP C μ H w (vZ us) (qx (cfg.lift f 0) q.2.1 q.2.2).2 v w') a'.defers .returning w' := by
  rw [m1]
  refine qbe rfl (fun w2 g1 g2 => ?_) Ds m2 m3 e3 e4
  obtain ⟨v, r1, r2⟩ := qeA ok.ty e2 g1 h3
  exact ⟨v, r1, v, rfl, C', μ', r2, g1, g2⟩
 rcases h1 with h1 | h1
 ·rw [h1] at e1
  subst e1
  exact hl
 ·rw [h1] at e1
  subst e1
  exact hl
theorem qgg [Lent] {cfg : Cfg} (ok : CfgOk cfg) {cf : Orac} (hO : OracOk2 cfg cf) {id : Nat} {args : List AV} {vs : Array Value} {r : AV} (he : qX cfg cf (.y id) args H = some (r, H')) (ha : qe C μ args vs) (hw : Wld C μ H w) {m : MI} (hm : μ id = some m) :
  qA cfg.P (Instr.yield m.block vs) w (qP C μ H w r H') := by
 unfold qX at he
 simp only at he
 split at he
 case h_2 => cases he
 rename_i f fr ps assign body pend hid
 split at he
 case isFalse => cases he
 rename_i hlen
 obtain ⟨q1, hq1, he⟩ := qkq.1 he
 split at he
 case h_2 => cases he
 rename_i f1 fr1 ps1 assign1 body1 pend1 hx1 hid1
 obtain ⟨q2, hq2, he⟩ := qkq.1 he
 split at he
 case h_2 => cases he
 rename_i f2 fr2 ps2 assign2 body2 pend2 st2 hid2
 obtain ⟨i2, i3, rc, i4, i5, i6, i7, i8, i9, i10⟩ := hw.liveM hid rfl hm
 have hidl : id < H.length := (qkp.1 hid).1
 have hvs : vs.size = rc.params.size := by rw [← ha.1, hlen, ← i7]; simp
 unfold qA
 rw [run_yield i4 hvs]
 simp only
 rw [i8, i9]
 have htm : ((rc.params.zip vs).foldl (fun tmps (t, a) => tmps.setIfInBounds t a) rc.tmps) = ((ps.zip vs.toList).foldl (fun t (p, v) => t.setIfInBounds p v) rc.tmps) := by
  rw [← Array.foldl_toList, Array.toList_zip, i7]
 have hfr0 : qe C μ (vt fr ps args) ((rc.params.zip vs).foldl (fun tmps (t, a) => tmps.setIfInBounds t a) rc.tmps) := by
  rw [htm]
  exact qaU ps (fun i a v e1 e2 => ha.2 i a v e1 (by rw [← Array.getElem?_toList]; exact e2)) (by rw [ha.1]; simp) i10
 have hrd : RdOk (some id) (Fence.wide.inRound m.block) μ H.length := ⟨hidl, m, hm, rfl⟩
 refine roundIn_of_wpIn trivial (wpIn_mono (qbw ok.ty hO ok.mixed (B := w.heap.size) assign hq1 (a := ⟨_, []⟩) (qku _) hrd hfr0 hw ⟨qku _, [], rfl, List.nodup_nil, fun D h => by cases h⟩) fun e a1 w1 hp => ?_)
 obtain ⟨e1, C1, μ1, p1, p2, p3, p4⟩ := hp
 rw [hx1] at e1
 subst e1
 obtain ⟨m1, hm1, hb1, -⟩ := p3.mu id m hidl hm
 obtain ⟨j2, j3, rc1, j4, j5, j6, j7, j8, j9, j10⟩ := p2.liveM hid1 rfl hm1
 rw [hb1] at j2 j3 j4
 have hidl1 : id < q1.2.2.length := (qkp.1 hid1).1
 refine ⟨_, run_beginRound j4 j5, ?_⟩
 have hw2 : Wld C1 μ1 (q1.2.2.set id (.loop f1 fr1 ps1 assign1 body1 pend1 .busy)) (w1.putObj m.block (.loop { rc1 with state := .busy })) :=
  p2.setBlk hid1 rfl rfl hm1 (by simp) (fun b hb => World.putObj_heap_other (hb1 ▸ hb)) ⟨{ rc1 with state := .busy }, by rw [hb1]; exact World.putObj_heap_same j2, rfl, j6, j7, j8, j9, j10⟩
 have hx2 : Ext q1.2.2.length C1 μ1 q1.2.2 w1 C1 μ1 (q1.2.2.set id (.loop f1 fr1 ps1 assign1 body1 pend1 .busy)) (w1.putObj m.block (.loop { rc1 with state := .busy })) :=
  Ext.setBlk p2 hid1 rfl hm1 (by simp) (fun b hb => World.putObj_heap_other (hb1 ▸ hb)) rfl rfl rfl (qku _)
 have hx12 := p3.trans hx2 p3.len
 have hrd2 : RdOk (some id) (Fence.wide.inRound m.block) μ1 H.length := ⟨hidl, m1, hm1, by rw [hb1]⟩
 refine wpIn_mono (qbw ok.ty hO ok.mixed (B := w.heap.size) body hq2 (by simpa using p3.len) hrd2 p1 hw2 (p4.ext hx2)) fun e a2 w3 hp => ?_
 obtain ⟨e2, C3, μ3, g1, g2, g3, g4⟩ := hp
 obtain ⟨m3, hm3, hb3, -⟩ := g3.mu id m1 hidl hm1
 rw [hb1] at hb3
 obtain ⟨k2, k3, rc3, k4, k5, k6, k7, k8, k9, k10⟩ := g2.liveM hid2 rfl hm3
 rw [hb3] at k2 k3 k4
 have fin : ∀ (jump : Option Code) , ∃ v w4, (Instr.endRound m.block jump).run cfg.P w3 = .ok v w4 ∧
   qP C μ H w (.bool jump.isNone) (q2.2.2.set id (.loop f2 fr2 ps2 assign2 body2 jump (if jump.isNone then .ready else .done))) v w4 := by
  intro jump
  refine ⟨_, _, run_endRound jump k4, C3, μ3, .bool _, ?_, ?_⟩
  ·exact g2.setBlk hid2 rfl rfl hm3 (by simp) (fun b hb => World.putObj_heap_other (hb3 ▸ hb)) ⟨{ rc3 with state := if jump.isNone then .ready else .done, pending := jump }, by rw [hb3]; exact World.putObj_heap_same k2, rfl, rfl, k7, k8, k9, k10⟩
  ·have := Ext.setBlk (k := q2.2.2.length) (blk' := .loop f2 fr2 ps2 assign2 body2 jump (if jump.isNone then .ready else .done)) g2 hid2 rfl hm3 (w' := w3.putObj m.block (.loop { rc3 with state := if jump.isNone then .ready else .done, pending := jump })) (by simp) (fun b hb => World.putObj_heap_other (hb3 ▸ hb)) rfl rfl rfl (qku _)
   exact (hx12.trans g3 (qku _)).trans this (hx12.trans g3 (qku _)).len
 split at he
 ·rename_i hx
  cases he
  rw [hx] at e2; subst e2
  obtain ⟨v, w4, r1, r2⟩ := fin none
  exact ⟨v, w4, r1, v, rfl, r2⟩
 ·rename_i hx
  cases he
  rw [hx] at e2; subst e2
  obtain ⟨v, w4, r1, r2⟩ := fin (some .ret)
  exact ⟨v, w4, r1, v, rfl, r2⟩
 ·rename_i x hx
  cases he
  rw [hx] at e2; subst e2
  obtain ⟨v, w4, r1, r2⟩ := fin (some (.exit x))
  exact ⟨v, w4, r1, v, rfl, r2⟩
 ·cases he
theorem qfL [Lent] {cfg : Cfg} (ok : CfgOk cfg) {cf : Orac} (hO : OracOk2 cfg cf) : OracOk2 cfg (qX cfg cf) := by
 have key : ∀ f args H r, qX cfg cf (.f f) args H = some r → cfg.ext f = none → ∃ fn c, cfg.known f = true ∧ cfg.P.funcs[f]? = some fn ∧ fn.body = some c ∧ ((evC cfg cf f none H.length c (args ++ qkE (fn.ntmps - args.length) .junk) H).bind fun r => y0 cfg fn.results.toList (r.1, qx (cfg.lift f 0) r.2.1 r.2.2)) = some r := by
  intro f args H r he hx
  unfold qX at he
  simp only [hx] at he
  split at he
  case isFalse => cases he
  rename_i hk
  split at he
  case h_2 => cases he
  rename_i fn hf
  split at he
  case h_2 => cases he
  rename_i c hb
  exact ⟨fn, c, hk, hf, hb, he⟩
 have enters : ∀ h args H r, qX cfg cf (.f h) args H = some r → cfg.ext h = none → ∀ vs w, (callFunc h vs).run cfg.P w = .ok (.enter h vs) w := by
  intro h args H r he hx vs w
  obtain ⟨fn, c, h1, h2, h3, _⟩ := key h args H r he hx
  exact qcS h2 (ok.named _ _ h1 h2) h3 vs w
 refine ⟨fun t args H r H' he C μ w vs s ha hw ht => ?_, enters⟩
 cases t with
 | f f =>
  have hs : s = callFunc f vs := ht
  subst hs
  cases hx : cfg.ext f with
  | some sp =>
   unfold qX at he
   simp only [hx] at he
   exact ok.ext f sp hx args H r H' he C μ w vs ha hw
  | none =>
   unfold qA
   rw [enters _ _ _ _ he hx]
   obtain ⟨fn, c, _, h2, h3, h4⟩ := key _ _ _ _ he hx
   exact qiy ok hO h2 h3 h4 ha hw
 | y id =>
  obtain ⟨m, hm, hs⟩ := ht
  subst hs
  exact qgg ok hO he ha hw hm
theorem qbu [Lent] {cfg : Cfg} (ok : CfgOk cfg) : ∀ n, OracOk2 cfg (evF cfg n)
 | 0 => ⟨fun t args H r H' he => (by cases he), fun h args H r he => (by cases he)⟩
 | n + 1 => qfL ok (qbu ok n)
theorem qji [Lent] {cfg : Cfg} (ok : CfgOk cfg) : OracOk2 cfg (EV cfg) := by
 refine ⟨fun t args H r H' he => ?_, fun h args H r he => ?_⟩
 ·obtain ⟨n, hn⟩ := yH he
  exact (qbu ok n).calls t args H r H' hn
 ·obtain ⟨n, hn⟩ := yH he
  exact (qbu ok n).enters h args H r hn
theorem qjj [Lent] {cfg : Cfg} (ok : CfgOk cfg) {f : FuncId} {args : List AV} {vs : Array Value} {r : AV} (hx : cfg.ext f = none) (he : EV cfg (.f f) args H = some (r, H')) (ha : qe C μ args vs) (hw : Wld C μ H w) :
  Calls cfg.P f vs w fun e w' => ∃ v, e = .returned v ∧ qP C μ H w r H' v w' := by
 have hO := qji ok
 have h := hO.calls _ _ _ _ _ he C μ w vs _ ha hw rfl
 unfold qA at h
 rw [hO.enters _ _ _ _ he hx] at h
 exact callsIn_wide.1 h
section
variable {α β : Type}
def EvG (cf : Nat → Orac) (c : Orac) (G : Orac → Option α) : Prop := ∀ r, G c = some r → ∃ n, ∀ m, n ≤ m → G (cf m) = some r
def Ev (cf : Nat → Orac) (c : Orac) : Prop := ∀ t a H, EvG cf c (fun o => o t a H)
variable {cf : Nat → Orac} {c : Orac}
theorem EvG.const (x : Option α) : EvG cf c (fun _ => x) := fun _r h => ⟨0, fun _ _ => h⟩
theorem EvG.bind {X : Orac → Option α} {K : Orac → α → Option β} (hX : EvG cf c X) (hK : ∀ a, EvG cf c (fun o => K o a)) : EvG cf c (fun o => (X o).bind (K o)) := by
 intro r h
 obtain ⟨a, h1, h2⟩ := qkq.1 h
 obtain ⟨n, hn⟩ := hX a h1
 obtain ⟨n', hn'⟩ := hK a r h2
 exact ⟨max n n', fun m hm => by
  show (X (cf m)).bind (K (cf m)) = some r
  rw [hn m (by omega)]
  exact hn' m (by omega)⟩
theorem EvG.map {X : Orac → Option α} (f : α → β) (hX : EvG cf c X) : EvG cf c (fun o => (X o).map f) := by
 intro r h
 obtain ⟨a, h1, h2⟩ := qkr.1 h
 obtain ⟨n, hn⟩ := hX a h1
 exact ⟨n, fun m hm => by
  show (X (cf m)).map f = some r
  rw [hn m hm, ← h2]; rfl⟩
theorem EvG.ite {p : Prop} [Decidable p] {X Y : Orac → Option α} (hX : EvG cf c X) (hY : EvG cf c Y) : EvG cf c (fun o => if p then X o else Y o) := by
 by_cases h : p
 ·simp only [if_pos h]; exact hX
 ·simp only [if_neg h]; exact hY
theorem qaD (h : Ev cf c) (f : Nat) : ∀ l : List AV, EvG cf c (fun o => xp o f l)
 | [] => EvG.const _
 | a :: l => by
  simp only [xp]
  exact (h _ _ _).bind fun r => (EvG.const _).bind fun _ => qaD h f l
theorem qfO (h : Ev cf c) (cfg : Cfg) (nid : Option Nat) (t : Tgt) (args : List AV) (H : AH) : EvG cf c (fun o => qo cfg o nid t args H) := by
 cases t with
 | y id => exact (h _ _ _).bind fun r => EvG.const _
 | f f =>
  simp only [qo]
  cases cfg.mode f with
  | scal => exact EvG.ite ((h _ _ _).bind fun r => EvG.const _) (EvG.const _)
  | pfrz => exact EvG.ite ((h _ _ _).bind fun r => EvG.const _) (EvG.const _)
  | nfrz => exact EvG.ite ((h _ _ _).bind fun r => EvG.const _) (EvG.const _)
  | wfrz => exact EvG.ite ((h _ _ _).bind fun r => EvG.const _) (EvG.const _)
  | pown => exact EvG.ite ((h _ _ _).bind fun r => EvG.const _) (EvG.const _)
  | inpl =>
   cases qj 0 args with
   | nil => exact EvG.ite ((h _ _ _).bind fun r => EvG.const _) (EvG.const _)
   | cons id l =>
    refine EvG.ite ?_ (EvG.const _)
    cases hb : H[id]? with
    | none => exact EvG.const _
    | some b =>
     cases b with
     | rows d sz rs => exact EvG.ite ((h _ _ _).bind fun r => EvG.const _) (EvG.const _)
     | _ => exact EvG.const _
  | inpf =>
   cases qj 0 args with
   | nil => exact EvG.const _
   | cons id l =>
    refine EvG.ite ?_ (EvG.const _)
    cases hb : H[id]? with
    | none => exact EvG.const _
    | some b =>
     cases b with
     | rows d sz rs => exact EvG.ite ((h _ _ _).bind fun r => EvG.const _) (EvG.const _)
     | _ => exact EvG.const _
  | slf =>
   cases qj 0 args with
   | nil => exact EvG.const _
   | cons id l =>
    refine EvG.ite ?_ (EvG.const _)
    cases hb : H[id]? with
    | none => exact EvG.const _
    | some b =>
     cases b with
     | rows d sz rs => exact EvG.ite ((h _ _ _).bind fun r => EvG.const _) (EvG.const _)
     | _ => exact EvG.const _
  | bld =>
   cases qj 0 args with
   | nil => exact EvG.const _
   | cons id l =>
    refine EvG.ite ?_ (EvG.const _)
    cases hb : H[id]? with
    | none => exact EvG.const _
    | some b =>
     cases b with
     | bld T e s => exact (h _ _ _).bind fun r => EvG.const _
     | _ => exact EvG.const _
  | imp => exact (h _ _ _).bind fun r => EvG.const _
  | ifrz => exact (h _ _ _).bind fun r => EvG.const _
  | sub => exact (EvG.const _).bind fun s => (h _ _ _).bind fun r => EvG.const _
  | rgn => exact EvG.ite ((h _ _ _).bind fun r => EvG.const _) (EvG.const _)
  | over =>
   dsimp only
   rcases args with _ | ⟨a, _ | ⟨b, l⟩⟩
   ·exact EvG.const _
   ·dsimp only
    cases qj 0 a.alts with
    | nil => exact EvG.const _
    | cons id l =>
     refine EvG.ite ?_ (EvG.const _)
     cases hb : H[id]? with
     | none => exact EvG.const _
     | some b =>
      cases b with
      | reg => exact (qaD h _ _).map _
      | spl => exact (qaD h _ _).map _
      | _ => exact EvG.const _
   ·exact EvG.const _
theorem qet (h : Ev cf c) (cfg : Cfg) (frz : Bool) (nid : Option Nat) (o : Oper) (x : Operand → AV) (H : AH) : EvG cf c (fun q => qv cfg q frz nid o x H) := by
 have core : ∀ (x : Operand → AV) (H : AH), EvG cf c (fun q => match o.op with
    | .call cl =>
     match cl.callee with
     | .value f => (vU (x f) (cl.args.toList.map x)).bind fun t => qo cfg q nid t.1 t.2 H
     | _ => evOp cfg nid o.op o.type x H
    | _ => evOp cfg nid o.op o.type x H) := by
  intro x H
  split
  ·split
   ·exact (EvG.const _).bind fun t => qfO h cfg nid _ _ _
   ·exact EvG.const _
  ·exact EvG.const _
 unfold qv
 cases frz with
 | true => simp only [if_true]; exact core _ _
 | false => simp only [qkz, if_false]; exact core _ _
theorem qct (h : Ev cf c) (cfg : Cfg) (f rid : Nat) (ops : Array Oper) : ∀ (l : List Oper) (k : Nat) (fr : List AV) (H : AH), EvG cf c (fun q => x9 cfg q f rid ops k l fr H)
 | [], k, fr, H => EvG.const _
 | o :: l, k, fr, H => by
  simp only [x9]
  refine (EvG.const _).bind fun b => EvG.ite ((qet h cfg _ _ _ _ _).bind fun r => qct h cfg f rid ops l _ _ _) (qct h cfg f rid ops l _ _ _)
theorem qbv (h : Ev cf c) (cfg : Cfg) (f rid : Nat) (ops : Array Oper) : ∀ (l : List Oper) (k at_ : Nat) (fr : List AV) (H : AH), EvG cf c (fun q => vM cfg q f rid ops k at_ l fr H)
 | [], k, at_, fr, H => EvG.const _
 | o :: l, k, at_, fr, H => by
  simp only [vM]
  refine (EvG.const _).bind fun b => EvG.ite ((qet h cfg _ _ _ _ _).bind fun r => (qbv h cfg f rid ops l _ _ _ _).map _) ((qbv h cfg f rid ops l _ _ _ _).map _)
theorem qda {k : Nat} {ts : Option (List Tmp)} {ls : List (Tmp × Nat)} {body : Den} : ∀ {n : Nat} {p : List AV × AH} {r : Ex × List AV × AH}, xc k ts ls body n p = some r → xc k ts ls body (n + 1) p = some r
 | 0, _, _, h => by cases h
 | n + 1, p, r, h => by
  rw [xc] at h ⊢
  obtain ⟨q, h1, h2⟩ := qkq.1 h
  rw [h1]
  simp only [qkA]
  cases hq : q.1 with
  | normal =>
   rw [hq] at h2
   exact qda h2
  | exit id => rw [hq] at h2; exact h2
  | goto l => rw [hq] at h2; exact h2
  | ret => rw [hq] at h2; exact h2
theorem qik {g : Nat → Option α} (hs : ∀ n r, g n = some r → g (n + 1) = some r) {n : Nat} {r : α} (h : g n = some r) : lim g = some r := by
 have up : ∀ {n : Nat} {r : α}, g n = some r → ∀ d, g (n + d) = some r := by
  intro n r h d
  induction d with
  | zero => exact h
  | succ d ih => exact hs _ _ ih
 have he : ∃ (n : Nat) (r : α), g n = some r := ⟨n, r, h⟩
 unfold lim
 rw [dif_pos he]
 have hc := Classical.choose_spec (Classical.choose_spec he)
 have e1 := up h (Classical.choose he)
 have e2 := up hc n
 rw [Nat.add_comm] at e2
 rw [e1] at e2
 exact e2.symm
theorem qbV {k : Nat} {ts : Option (List Tmp)} {ls : List (Tmp × Nat)} {body : Den} {n : Nat} {p : List AV × AH} {r : Ex × List AV × AH} (h : xc k ts ls body n p = some r) : LOOP k ts ls body p = some r :=
 qik (g := fun n => xc k ts ls body n p) (fun _ _ h => qda h) h
theorem qfm {k : Nat} {ts : Option (List Tmp)} {ls : List (Tmp × Nat)} {body : Orac → Den} (hb : ∀ fr H, EvG cf c (fun q => body q fr H)) : ∀ (n : Nat) (p : List AV × AH), EvG cf c (fun q => xc k ts ls (body q) n p)
 | 0, _ => EvG.const _
 | n + 1, p => by
  simp only [xc]
  refine (hb _ _).bind fun r => ?_
  cases r.1 with
  | normal => exact qfm hb n _
  | exit id => exact EvG.const _
  | goto l => exact EvG.const _
  | ret => exact EvG.const _
theorem qjP {k : Nat} {ts : Option (List Tmp)} {ls : List (Tmp × Nat)} {body : Orac → Den} (hb : ∀ fr H, EvG cf c (fun q => body q fr H)) (p : List AV × AH) : EvG cf c (fun q => LOOP k ts ls (body q) p) := by
 intro r h
 obtain ⟨n, hn⟩ := yH h
 obtain ⟨m, hm⟩ := qfm hb n p r hn
 exact ⟨m, fun i hi => qbV (hm i hi)⟩
theorem qfK (h : Ev cf c) (cfg : Cfg) (f : Nat) (rd : Option Nat) (k : Nat) : ∀ (cd : Code) (fr : List AV) (H : AH), EvG cf c (fun q => evC cfg q f rd k cd fr H) := by
 intro cd
 induction cd with
 | skip => intro fr H; simp only [evC]; exact EvG.const _
 | label l => intro fr H; simp only [evC]; exact EvG.const _
 | exit id => intro fr H; simp only [evC]; exact EvG.const _
 | ret => intro fr H; simp only [evC]; exact EvG.const _
 | goto l => intro fr H; simp only [evC]; exact EvG.const _
 | refuse s => intro fr H; simp only [evC]; exact EvG.const _
 | region id ops draw =>
  intro fr H
  simp only [evC]
  cases draw with
  | true => simp only [if_true]; exact EvG.ite ((qbv h cfg f id ops _ _ _ _ _).bind fun q => EvG.const _) (EvG.const _)
  | false => simp only [qkz, if_false]; exact (qct h cfg f id ops _ _ _ _).map _
 | seq x y ihx ihy =>
  intro fr H
  simp only [evC]
  refine (ihx _ _).bind fun r => ?_
  cases r.1 with
  | normal => exact ihy _ _
  | exit id => exact EvG.const _
  | goto l => exact EvG.const _
  | ret => exact EvG.const _
 | cond cnd x y ihx ihy =>
  intro fr H
  simp only [evC]
  split
  ·exact EvG.ite (ihx _ _) (ihy _ _)
  ·exact EvG.const _
 | block id x ih =>
  intro fr H
  simp only [evC]
  exact (ih _ _).bind fun r => EvG.const _
 | loop x ih =>
  intro fr H
  simp only [evC]
  exact (qjP ih _).map _
 | scope x ih =>
  intro fr H
  simp only [evC]
  exact (ih _ _).bind fun r => EvG.const _
 | rangeFunc g ps assign body =>
  intro fr H
  simp only [evC, yh]
  refine EvG.ite ?_ (EvG.const _)
  split
  ·exact EvG.ite (EvG.const _) ((h _ _ _).bind fun r => EvG.const _)
  ·exact EvG.const _
theorem qeu (h : Ev cf c) (cfg : Cfg) (t : Tgt) (args : List AV) (H : AH) : EvG cf c (fun q => qX cfg q t args H) := by
 unfold qX
 cases t with
 | f f =>
  simp only
  split
  ·exact EvG.const _
  ·refine EvG.ite ?_ (EvG.const _)
   split
   ·split
    ·exact (qfK h cfg f none _ _ _ _).bind fun r => EvG.const _
    ·exact EvG.const _
   ·exact EvG.const _
 | y id =>
  simp only
  split
  ·refine EvG.ite ((qfK h cfg _ _ _ _ _ _).bind fun r => ?_) (EvG.const _)
   split
   ·exact (qfK h cfg _ _ _ _ _ _).bind fun q => EvG.const _
   ·exact EvG.const _
  ·exact EvG.const _
end
theorem qcu (cfg : Cfg) : ∀ (n : Nat) (t : Tgt) (a : List AV) (H : AH) (r : AV × AH), evF cfg n t a H = some r → evF cfg (n + 1) t a H = some r
 | 0, t, a, H, r, h => by cases h
 | n + 1, t, a, H, r, h => by
  have hev : Ev (fun _ => evF cfg (n + 1)) (evF cfg n) := fun t a H r h => ⟨0, fun _ _ => qcu cfg n t a H r h⟩
  obtain ⟨m, hm⟩ := qeu hev cfg t a H r h
  exact hm m (qku _)
theorem qko (cfg : Cfg) : Ev (evF cfg) (EV cfg) := by
 intro t a H r h
 obtain ⟨n, hn⟩ := yH h
 refine ⟨n, fun m hm => ?_⟩
 obtain ⟨d, rfl⟩ := Nat.exists_eq_add_of_le hm
 induction d with
 | zero => exact hn
 | succ d ih => exact qcu cfg _ t a H r (ih (by omega))
theorem qeX {cfg : Cfg} {t : Tgt} {a : List AV} {H : AH} {r : AV × AH} (h : qX cfg (EV cfg) t a H = some r) : EV cfg t a H = some r := by
 obtain ⟨n, hn⟩ := qeu (qko cfg) cfg t a H r h
 exact qik (g := fun n => evF cfg n t a H) (fun n r h => qcu cfg n t a H r h) (n := n + 1) (hn n (qku _))
theorem qbE {k : Nat} {ts : Option (List Tmp)} {ls : List (Tmp × Nat)} {body : Den} {p : List AV × AH} {q : Ex × List AV × AH} (h : body p.1 p.2 = some q) (hq : ∀ x, q ≠ (.normal, x)) : LOOP k ts ls body p = some q := by
 refine qbV (n := 1) ?_
 rw [xc, h]
 obtain ⟨e, q⟩ := q
 cases e with
 | normal => exact absurd rfl (hq q)
 | exit id => rfl
 | goto l => rfl
 | ret => rfl
theorem qiJ {k : Nat} {ts : Option (List Tmp)} {ls : List (Tmp × Nat)} {body : Den} {p : List AV × AH} {fr1 : List AV} {H1 : AH} {r : Ex × List AV × AH} (h : body p.1 p.2 = some (.normal, fr1, H1)) (hr : LOOP k ts ls body (xD k ts ls fr1 H1) = some r) : LOOP k ts ls body p = some r := by
 obtain ⟨n, hn⟩ := yH hr
 refine qbV (n := n + 1) ?_
 rw [xc, h]
 exact hn
variable {α : Type}
abbrev KV (α : Type) := AV → Option α
abbrev KH (α : Type) := AV → AH → Option α
abbrev KE (α : Type) := Ex → List AV → AH → Option α
abbrev KF (α : Type) := Tgt → List AV → AH → (AV × AH → Option α) → Option α
inductive FK where
 | int (k : IntKind)
 | bool
 | str
 | sl
 | any
def qS (a b : IntKind) : Bool := decide (a = b)
def kInt (kd : IntKind) (v : AV) (k : Int → Option α) : Option α :=
 match v with
 | .int k' n => cond (qS k' kd) (k n) none
 | _ => none
def qD (v : AV) (k : Bool → Option α) : Option α :=
 match v with
 | .bool b => k b
 | _ => none
def kStr (v : AV) (k : List UInt8 → Option α) : Option α :=
 match v with
 | .str s => k s
 | _ => none
def kSl (v : AV) (k : List (List AV) → Option α) : Option α :=
 match v with
 | .sl rows => k rows
 | _ => none
def kAgg (v : AV) (k : List AV → Option α) : Option α :=
 match v with
 | .agg cs => k cs
 | _ => none
def kOpt {β : Type} (o : Option β) (k : β → Option α) : Option α :=
 match o with
 | some b => k b
 | none => none
def qy (l : List AV) (k : AV → List AV → Option α) : Option α :=
 match l with
 | c :: cs => k c cs
 | [] => none
def kNil (l : List AV) (x : Option α) : Option α :=
 match l with
 | [] => x
 | _ => none
def yr (s : FK) (v : AV) (k : KV α) : Option α :=
 match s with
 | .int kd => kInt kd v fun n => k (.int kd n)
 | .bool => qD v fun b => k (.bool b)
 | .str => kStr v fun s => k (.str s)
 | .sl => kSl v fun rows => k (.sl rows)
 | .any => k v
def yu : List FK → List AV → (List AV → Option α) → Option α
 | [], l, k => kNil l (k [])
 | s :: ss, l, k => qy l fun c cs => yr s c fun v => yu ss cs fun vs => k (v :: vs)
def qin (sl : Bool) : TD → FK
 | .int k => .int k
 | .bool => .bool
 | .str => .str
 | .slice _ => if sl then .sl else .any
 | _ => .any
def qdc (cfg : Cfg) (p : TypeId → Bool) : Nat → TypeId → Option (List FK)
 | 0, _ => none
 | n + 1, t =>
  match cfg.td t with
  | some (.struct fs) => (fs.foldr (fun f acc => match qdc cfg p n f.2, acc with | some l, some a => some (l ++ a) | _, _ => none) (some []))
  | some (.array m e) => (match qdc cfg p n e with | some l => some ((qkE m l).flatten) | none => none)
  | some d => some [qin (p t) d]
  | none => none
def kTy1 (p : TypeId → Bool) (cfg : Cfg) (t : TypeId) (v : AV) (k : KV α) : Option α :=
 match cfg.td t with
 | some d =>
  match d with
  | .struct _ => (match qdc cfg p 6 t with | some ss => kAgg v fun cs => yu ss cs fun vs => k (.agg vs) | none => k v)
  | .array _ _ => (match qdc cfg p 6 t with | some ss => kAgg v fun cs => yu ss cs fun vs => k (.agg vs) | none => k v)
  | d => yr (qin (p t) d) v k
 | none => k v
def kTup (v : AV) (k : List AV → Option α) : Option α :=
 match v with
 | .tup cs => k cs
 | _ => none
def kTys (p : TypeId → Bool) (cfg : Cfg) : List TypeId → List AV → (List AV → Option α) → Option α
 | [], l, k => kNil l (k [])
 | t :: ts, l, k => qy l fun c cs => kTy1 p cfg t c fun v => kTys p cfg ts cs fun vs => k (v :: vs)
def kTy (p : TypeId → Bool) (cfg : Cfg) (t : TypeId) (v : AV) (k : KV α) : Option α :=
 match cfg.tup t with
 | some ts => kTup v fun cs => kTys p cfg ts cs fun vs => k (.tup vs)
 | none => kTy1 p cfg t v k
def AV.regA (i : Nat) : AV → AV
 | .agg cs => .agg (cs.map (AV.regn i))
 | a => a
def noTy : TypeId → Bool := fun _ => false
def zR : TypeId → Bool := fun _ => true
def qkm (cfg : Cfg) (H : AH) (a : AV) : TypeId → Bool :=
 match a with
 | .cptr _ _ => cfg.dat
 | .ptr id _ _ => if qU H id then cfg.dat else noTy
 | _ => noTy
def kNew (nid : Option Nat) (H : AH) (b : ABlk) (k : Nat → AH → Option α) : Option α :=
 match nid with
 | none => k H.length (H ++ [b])
 | some i => kOpt H[i]? fun x => match x with | .res => k i (H.set i b) | _ => none
def qhO (cfg : Cfg) (t : TypeId) : Bool := match cfg.td t with | some d => d.agg | none => false
def yJ (agg : Bool) (v : AV) (k : List AV → Option α) : Option α :=
 cond agg (kAgg v fun cs => cond (qN cs) (k cs) none) (cond v.isCell (k [v]) none)
def qhq (t : Bool) (a b : AV) (k : KV α) : Option α :=
 match a, b with
 | .bool p, .bool q => k (.bool (cond t p q))
 | .int k1 p, .int k2 q => cond (qS k1 k2) (k (.int k1 (cond t p q))) (cond t (k a) (k b))
 | a, b => cond t (k a) (k b)
def qdm (place : Nat → Option (Nat × Nat × Bool)) (cells : List AV) : List (Nat × AV) → (List AV → Option α) → Option α
 | [], k => k cells
 | (i, v) :: rest, k =>
  match place i with
  | some (off, size, agg) => yJ agg v fun cs => cond (qkG cs.length size && qkJ (off + size) cells.length) (qdm place (cells.take off ++ cs ++ cells.drop (off + size)) rest k) none
  | none => none
def qbN (cfg : Cfg) : List (Nat × TypeId) → Option (List (Nat × Nat × Bool))
 | [] => some []
 | (off, t) :: l =>
  match cfg.sz t, qbN cfg l with
  | some n, some ps => some ((off, n, qhO cfg t) :: ps)
  | _, _ => none
def qeO (agg : Bool) (n : Nat) (rows : List (List AV)) : List (Nat × AV) → (List (List AV) → Option α) → Option α
 | [], k => k rows
 | (i, v) :: rest, k => yJ agg v fun cs => cond (qkG cs.length n && Nat.blt i rows.length) (qeO agg n (rows.set i cs) rest k) none
def kBlk (H : AH) (id : Nat) (k : Nat → List (List AV) → Option α) : Option α :=
 kOpt H[id]? fun b => match b with | .rows _ sz rs => k sz rs | .froz _ sz rs => k sz rs | _ => none
def qaL (H : AH) (id : Nat) (k : Bool → Nat → List (List AV) → Option α) : Option α :=
 kOpt H[id]? fun b => match b with | .rows d sz rs => k d sz rs | _ => none
def yO (agg : Bool) (n : Nat) (cells : List AV) (off : Nat) (k : KV α) : Option α :=
 cond agg (cond (qkJ (off + n) cells.length) (k (.agg ((cells.drop off).take n))) none) (kOpt cells[off]? k)
def qdi (agg : Bool) (n : Nat) (H : AH) (p : AV) (k : KV α) : Option α :=
 match p with
 | .ptr id r off => kBlk H id fun _ rs => kOpt rs[r]? fun row => yO agg n row off k
 | .cptr cs off => yO agg n cs off k
 | .lpt cs off => yO agg n (cs.map AV.lend) off k
 | .rpt id cs off => kOpt H[id]? fun b => match b with
  | .reg => yO agg n (cs.map (AV.regn id)) off k
  | .spl => cond agg (cond (qkG n 4) (yu [.int .i64, .int .i64, .str, .sl] ((cs.drop off).take 4) fun vs => k (.alt [.agg (vs.map (AV.regn id)), .agg qbL, .agg row0])) none) (kOpt (qdY cs off) fun rows => k (.rsl id rows))
  | _ => none
 | _ => none
def qfp (agg : Bool) (n : Nat) (H : AH) (p v : AV) (k : AH → Option α) : Option α :=
 match p with
 | .ptr id r off => yJ agg v fun cs => qaL H id fun d sz rs => kOpt rs[r]? fun row => cond (qkG cs.length n && qkJ (off + n) row.length) (k (H.set id (.rows (d && qg 0 cs) sz (rs.set r (row.take off ++ cs ++ row.drop (off + n)))))) none
 | .rpt id cs off => kOpt H[id]? fun b => match b with | .spl => cond (qkG n 4) (cond (yG ((cs.drop off).take 4) && is77 v) (k H) none) (cond (qkG n 7 && qdt (cs.drop off) && zo v) (k H) none) | _ => none
 | _ => none
def qbk (v : AV) (k : KV α) : Option α :=
 match v with
 | .ptr id r off => k (.ptr id r off)
 | .cptr cs off => k (.cptr cs off)
 | .fn (.func f) a b => k (.fn (.func f) a b)
 | .mp id => k (.mp id)
 | .yld id => k (.yld id)
 | _ => none
def qk (a b : Int) : Bool := decide (a ≤ b)
def xb (a b : Int) : Bool := decide (a < b)
def qbn (lo hi : Nat) (x : Option AV) (dflt : Nat) (k : Nat → Option α) : Option α :=
 match x with
 | none => k dflt
 | some v => match v with | .int _ i => cond (qk lo i && qk i hi) (k i.toNat) none | _ => none
def yI (n : Nat) (lo hi mx : Option AV) (k : Nat → Nat → Option α) : Option α :=
 cond (hi.isNone && mx.isSome) none (qbn 0 n hi n fun h => qbn h n mx h fun _ => qbn 0 h lo 0 fun l => k l h)
def qfq (cfg : Cfg) (t : TypeId) (H : AH) (x : AV) (lo hi mx : Option AV) (k : KV α) : Option α :=
 match cfg.td t with
 | some .str => (match mx with | none => (match x with | .str s => yI s.length lo hi none fun l h => k (.str ((s.drop l).take (h - l))) | _ => none) | _ => none)
 | some (.slice e) =>
  match cfg.sz e with
  | some n =>
   match x with
   | .nilS => yI 0 lo hi mx fun _ _ => k .nilS
   | .sl rows => yI rows.length lo hi mx fun l h => cond (qae n rows) (match cfg.ems t with | false => k (.sl ((rows.drop l).take (h - l))) | true => k (slE true rows l h)) none
   | .ms id off len => yI len lo hi mx fun l h => kBlk H id fun sz _ => cond (qkG sz n) (k (.ms id (off + l) (h - l))) none
   | .wr _ v => (match lo, hi, mx with
    | none, some hv, none => (match hv with
     | .int _ h => (match v with
      | .sl rows => cond (qk 0 h && qk h rows.length) (k (.wr h.toNat (.sl rows))) none
      | .ms id off len => cond (qk 0 h && qk h len) (k (.wr h.toNat (.ms id off len))) none
      | _ => none)
     | _ => none)
    | _, _, _ => none)
   | _ => none
  | none => none
 | _ => none
def qaG (cfg : Cfg) (t : TypeId) (H : AH) (x i : AV) (k : KV α) : Option α :=
 match i with
 | .int _ i =>
  match cfg.td t with
  | some (.slice e) =>
   match cfg.sz e with
   | some n =>
    match x with
    | .ms id off len => kBlk H id fun sz _ => cond (qkG sz n && qk 0 i && xb i len) (k (.ptr id (off + i.toNat) 0)) none
    | .sl rows => cond (qk 0 i && xb i rows.length) (kOpt rows[i.toNat]? fun row => cond (qkG row.length n) (k (.cptr row 0)) none) none
    | .lsl rows => cond (qk 0 i && xb i rows.length) (kOpt rows[i.toNat]? fun row => cond (qkG row.length n) (k (.lpt row 0)) none) none
    | .rsl id rows => cond (qk 0 i && xb i rows.length) (kOpt rows[i.toNat]? fun row => cond (qkG row.length n) (k (.rpt id row 0)) none) none
    | _ => none
   | none => none
  | some (.array n e) =>
   match cfg.sz e with
   | some sz =>
    match x with
    | .ptr id r off => cond (qk 0 i && xb i n) (k (.ptr id r (off + i.toNat * sz))) none
    | .cptr cs off => cond (qk 0 i && xb i n) (k (.cptr cs (off + i.toNat * sz))) none
    | _ => none
   | none => none
  | _ => none
 | _ => none
def qfx (cfg : Cfg) (t : TypeId) (x i : AV) (k : KV α) : Option α :=
 match i with
 | .int _ i =>
  match cfg.td t with
  | some (.array n e) =>
   match cfg.ty e with
   | some ti => kAgg x fun cs => cond (qk 0 i && xb i n) (yO ti.d.agg ti.sz cs (i.toNat * ti.sz) k) none
   | none => none
  | some .str => kStr x fun s => cond (qk 0 i) (kOpt s[i.toNat]? fun b => k (.int .u8 b.toNat)) none
  | _ => none
 | _ => none
def qfy (cfg : Cfg) (t : TypeId) (x : AV) (f : Nat) (k : KV α) : Option α :=
 match cfg.td t with
 | some (.struct fs) =>
  match fs[f]? with
  | some (off, ft) => (match cfg.ty ft with | some ti => kAgg x fun cs => yO ti.d.agg ti.sz cs off k | none => none)
  | none => none
 | _ => none
def qaJ (cfg : Cfg) (t : TypeId) (x : AV) (f : Nat) (k : KV α) : Option α :=
 match cfg.td t with
 | some (.struct fs) =>
  match fs[f]? with
  | some (o, ft) =>
   match cfg.sz ft with
   | some (_ + 1) => (match x with | .ptr id r off => k (.ptr id r (off + o)) | .cptr cs off => k (.cptr cs (off + o)) | .rpt id cs off => k (.rpt id cs (off + o)) | _ => none)
   | _ => none
  | none => none
 | _ => none
def qco (cfg : Cfg) (nid : Option Nat) (src dst : TypeId) (x : AV) (H : AH) (k : KH α) : Option α :=
 match cfg.td src, cfg.td dst with
 | some (.int _), some (.int kd) => (match x with | .int _ n => k (.int kd (kd.wrap n)) H | _ => none)
 | some .str, some .str => kStr x fun s => k (.str s) H
 | some .str, some (.slice e) =>
  match cfg.td e with
  | some (.int .u8) => kStr x fun s => kNew nid H (.rows true 1 (xf s)) fun i H' => k (.ms i 0 s.length) H'
  | _ => none
 | some (.slice e), some .str =>
  match cfg.td e with
  | some (.int .u8) => kOpt (vn H 1 x) fun rows => kOpt (qJ rows) fun bs => k (.str bs) H
  | _ => none
 | _, _ => none
def qd5 (H : AH) (n : Nat) (x : AV) (k : List (List AV) → Option α) : Option α :=
 match x with
 | .nilS => k []
 | .em => k []
 | .sl rows => cond (qae n rows) (k rows) none
 | .ms id off len => kBlk H id fun sz rs => cond (qkG sz n && qkJ (off + len) rs.length) (k ((rs.drop off).take len)) none
 | _ => none
def kSrc (isStr : Bool) (H : AH) (n : Nat) (x : AV) (k : List (List AV) → Option α) : Option α :=
 cond isStr (kStr x fun b => cond (qkG n 1) (k (xf b)) none) (qd5 H n x k)
def qgR (cfg : Cfg) (t : TypeId) : Bool := match cfg.td t with | some .str => true | _ => false
def qd7 (cfg : Cfg) (nid : Option Nat) (t xt : TypeId) (s x : AV) (H : AH) (k : KH α) : Option α :=
 match cfg.td t, cfg.td xt with
 | some (.slice e), some xd =>
  match cfg.ty e with
  | some ei =>
   cond (xd.notInt && Nat.blt 0 ei.sz && qkG ei.zero.length ei.sz)
    (kSrc (qgR cfg xt) H ei.sz x fun news =>
     match s with
     | .nilS => cond news.isEmpty (k .nilS H) (cond (yy news.length ei.bytes) (kNew nid H (.rows (qZ H x) ei.sz news) fun i H' => k (.ms i 0 news.length) H') none)
     | .ms id off len => qaL H id fun d sz rs => cond (qkG sz ei.sz && qkJ (off + len) rs.length && yy (len + news.length) ei.bytes)
       (kNew nid (H.set id .dead) (.rows (d && qZ H x) sz ((rs.drop off).take len ++ news)) fun i H' => k (.ms i 0 (len + news.length)) H') none
     | _ => none) none
  | none => none
 | _, _ => none
def kLen (cfg : Cfg) (t : TypeId) (x : AV) (H : AH) (k : KV α) : Option α :=
 match cfg.td t with
 | some .str => kStr x fun s => k (.int .i64 s.length)
 | some (.slice _) => (match x with | .nilS => k (.int .i64 0) | .em => k (.int .i64 0) | .sl rows => k (.int .i64 rows.length) | .ms _ _ len => k (.int .i64 len) | .lsl rows => k (.int .i64 rows.length) | .rsl _ rows => k (.int .i64 rows.length) | _ => none)
 | some (.array n _) => k (.int .i64 n)
 | some (.map _ _) => (match x with | .nilM => k (.int .i64 0) | .mp id => (kOpt H[id]? fun b => match b with | .mp es => k (.int .i64 es.length) | _ => none) | _ => none)
 | _ => none
def qeQ (cfg : Cfg) (nid : Option Nat) (t : TypeId) (len cap : AV) (H : AH) (k : KH α) : Option α :=
 match cfg.td t with
 | some (.slice e) =>
  match cfg.ty e with
  | some ei =>
   cond (vY ei) (kInt .i64 len fun n => kInt .i64 cap fun c =>
    cond (qk 0 n && qk n c && qk (c * ei.bytes) 140737488355328 && qk c 9223372036854775807) (kNew nid H (.rows true ei.sz (qkE n.toNat ei.zero)) fun i H' => k (.ms i 0 n.toNat) H') none) none
  | none => none
 | _ => none
def qfv (cfg : Cfg) (nid : Option Nat) (t : TypeId) (len cap : AV) (H : AH) (k : KH α) : Option α :=
 match cfg.wrt t with
 | false => qeQ cfg nid t len cap H k
 | true =>
  match len, cap with
  | .int _ n, .int _ c => cond (decide (n = c)) (qeQ cfg nid t len cap H fun v H' => match v with | .ms id off l => k (.wr l (.ms id off l)) H' | _ => none) none
  | _, _ => none
def kCap (cfg : Cfg) (t : TypeId) (x : AV) (k : KV α) : Option α :=
 match cfg.td t with
 | some (.slice _) => (match x with | .wr _ v => (match v with | .sl rows => k (.int .i64 rows.length) | .ms _ _ len => k (.int .i64 len) | _ => none) | _ => none)
 | _ => none
def qfz (cfg : Cfg) (t : TypeId) (x : AV) (H : AH) (k : AH → Option α) : Option α :=
 match cfg.td t with
 | some (.slice e) =>
  match x with
  | .nilS => k H
  | .ms id off len =>
   match cfg.ty e with
   | some ei => qaL H id fun d sz rs => cond (vY ei && qkG sz ei.sz && qkJ (off + len) rs.length) (k (H.set id (.rows d sz (rs.take off ++ qkE len ei.zero ++ rs.drop (off + len))))) none
   | none => none
  | _ => none
 | _ => none
def qhv (cfg : Cfg) (t xt : TypeId) (d s : AV) (H : AH) (k : KH α) : Option α :=
 match cfg.td t with
 | some (.slice e) =>
  match d with
  | .ms id off len =>
   match cfg.sz e with
   | some n => qaL H id fun d sz rs => kSrc (qgR cfg xt) H n s fun news => cond (qkG sz n && qkJ (off + len) rs.length && Nat.blt 0 sz)
     (k (.int .i64 (Nat.min news.length len)) (H.set id (.rows (d && qZ H s) sz (rs.take off ++ news.take len ++ rs.drop (off + (news.take len).length))))) none
   | none => none
  | _ => none
 | _ => none
def kOp (cfg : Cfg) (nid : Option Nat) (o : Op) (ty : TypeId) (x : Operand → AV) (H : AH) (k : KH α) : Option α :=
 match o with
 | .move a | .assign a => k (x a) H
 | .pick c a b => qD (x c) fun t => qhq t (x a) (x b) fun v => k v H
 | .alloc t =>
  match cfg.ty t with
  | some ti => cond (qN ti.zero) (kNew nid H (yd cfg t ti.zero) fun i H' => k (.ptr i 0 0) H') none
  | none => none
 | .box t a => yJ (qhO cfg t) (x a) fun cs => kNew nid H (.rows (bigZ cs) cs.length [cs]) fun i H' => k (.ptr i 0 0) H'
 | .build t parts =>
  match cfg.ty t with
  | some ti =>
   cond (qN ti.zero)
    (match ti.d with
    | .struct fs =>
     match qbN cfg fs with
     | some ps => qdm (fun i => ps[i]?) ti.zero (parts.toList.map fun p => (p.1, x p.2)) fun cs => k (.agg (cfg.fga t cs)) H
     | none => none
    | .array _ e =>
     match cfg.sz e with
     | some n => qdm (fun i => some (i * n, n, qhO cfg e)) ti.zero (parts.toList.map fun p => (p.1, x p.2)) fun cs => k (.agg cs) H
     | none => none
    | _ => none) none
  | none => none
 | .buildSlice t len parts =>
  match cfg.td t with
  | some (.slice e) =>
   match cfg.ty e with
   | some ei =>
    cond (vY ei && qkJ (len * ei.sz) 16777216)
     (qeO ei.d.agg ei.sz (qkE len ei.zero) (parts.toList.map fun p => (p.1, x p.2)) fun rows => kNew nid H (.rows (qh 0 rows) ei.sz rows) fun i H' => k (.ms i 0 len) H') none
   | none => none
  | _ => none
 | .load t a =>
  match cfg.ty t with
  | some ti => match x a with
   | .lpt cs off => yO ti.d.agg ti.sz cs off fun v => kTy cfg.dat cfg t v fun v => cond ti.d.agg (k v.lendA H) (k v.lend H)
   | .rpt id cs off => kOpt H[id]? fun b => match b with
    | .reg => yO ti.d.agg ti.sz cs off fun v => kTy cfg.dat cfg t v fun v => cond ti.d.agg (k (v.regA id) H) (k (v.regn id) H)
    | _ => qdi ti.d.agg ti.sz H (.rpt id cs off) fun v => k v H
   | p => qdi ti.d.agg ti.sz H p fun v => kTy (qkm cfg H p) cfg t v fun v => k v H
  | none => none
 | .store t a v =>
  match cfg.ty t with
  | some ti => qfp ti.d.agg ti.sz H (x a) (x v) fun H' => k .junk H'
  | none => none
 | .nilCheck a => qbk (x a) fun v => k v H
 | .binOp op t a b _ => kOpt (aBin cfg (litN a b) op t (x a) (x b)) fun v => kTy noTy cfg ty v fun v => k v H
 | .unOp op _ a => kOpt (aUn op (x a)) fun v => kTy noTy cfg ty v fun v => k v H
 | .convert s d a => qco cfg nid s d (x a) H k
 | .makeFunc f first caps => k (.fn f (first.toList.map x) (caps.toList.map x)) H
 | .makeSlice t l c => qfv cfg nid t (x l) (x c) H k
 | .slice t a lo hi mx => qfq cfg t H (x a) (lo.map x) (hi.map x) (mx.map x) fun v => k v H
 | .fieldAddr t a f => qaJ cfg t (x a) f fun v => k v H
 | .field t a f => qfy cfg t (x a) f fun v => kTy noTy cfg ty v fun v => k v H
 | .indexAddr t a i => qaG cfg t H (x a).unwr (x i) fun v => k v H
 | .index t a i => qfx cfg t (x a) (x i) fun v => kTy noTy cfg ty v fun v => k v H
 | .extract t i => (match x t with | .tup vs => kOpt vs[i]? fun v => kTy noTy cfg ty v fun v => k v H | _ => none)
 | .call c =>
  match c.callee with
  | .builtin b =>
   match b, c.args.toList, c.argTypes.toList with
   | .len, [a], [t] => kLen cfg t (x a).unwr H fun v => k v H
   | .cap, [a], [t] => kCap cfg t (x a) fun v => k v H
   | .append, [s, a], [t, xt] => qd7 cfg nid t xt (x s) (x a) H k
   | .copy, [d, s], [t, xt] => qhv cfg t xt (x d).unwr (x s) H k
   | .clear, [a], [t] => qfz cfg t (x a) H fun H' => k (.tup []) H'
   | .min, [a, b], _ => kOpt (aMin (fun b a => decide (b < a)) [x a, x b]) fun v => kTy noTy cfg ty v fun v => k v H
   | .max, [a, b], _ => kOpt (aMin (fun b a => decide (a < b)) [x a, x b]) fun v => kTy noTy cfg ty v fun v => k v H
   | _, _, _ => none
  | _ => none
 | _ => none
def qdl (g s : Bool) (H : AH) (v : AV) (k : KV α) : Option α :=
 match v with
 | .ms id off len => kBlk H id fun _ rs => cond (qkJ (off + len) rs.length && (qU H id || qh 0 ((rs.drop off).take len))) (k (.sl ((rs.drop off).take len))) none
 | .nilS => k (cond g (.sl []) .nilS)
 | .em => k (cond g (.sl []) .em)
 | .wr n v => (match v with | .sl rows => k (cond g (.sl (rows.take n)) (.wr n (.sl rows))) | _ => none)
 | .ptr id r off => cond s (kBlk H id fun _ rs => kOpt rs[r]? fun row => cond (qg 0 row) (k (.cptr row off)) none) (k (.ptr id r off))
 | .rsl id rows => cond s (kOpt H[id]? fun b => match b with | .reg => k (.sl rows) | _ => none) (k (.rsl id rows))
 | a => k a
def xZ (g s : Bool) (H : AH) : List AV → (List AV → Option α) → Option α
 | [], k => k []
 | a :: l, k => qdl g s H a fun a => xZ g s H l fun l => k (a :: l)
def zO (s : Bool) (H : AH) (v : AV) (k : KV α) : Option α :=
 match v with
 | .agg cs => xZ true s H cs fun cs => k (.agg cs)
 | .tup cs => cond s (k ((AV.tup cs).fg)) (xZ true s H cs fun cs => k (.tup cs))
 | .fn f a b => cond s (xZ false s H a fun a => xZ false s H b fun b => k (.fn f a b)) (k (.fn f a b))
 | a => qdl true s H a k
def qhr (H : AH) (v : AV) (k : KV α) : Option α :=
 match v with
 | .agg cs => xZ false false H cs fun cs => k (.agg cs)
 | .tup cs => xZ false false H cs fun cs => k (.tup cs)
 | a => qdl false false H a k
def qbl (H : AH) : List AV → (List AV → Option α) → Option α
 | [], k => k []
 | a :: l, k => qhr H a fun a => qbl H l fun l => k (a :: l)
def qeU (H : AH) : List AV → (List AV → Option α) → Option α
 | [], k => k []
 | a :: l, k => zO true H a fun a => qeU H l fun l => k (a :: l)
inductive OV where
 | nil
 | own (sz : Nat) (rs : List (List AV)) (off len : Nat)
def ovOf (r : AV × AH) : Option OV :=
 match r.1 with
 | .nilS => some .nil
 | .ms id off len =>
  match r.2[id]? with
  | some (.rows d sz rs) => if d || qh 0 rs then some (.own sz rs off len) else none
  | _ => none
 | _ => none
def qjl (r : AV × AH) : Option (OV × AV) :=
 match r.1 with
 | .tup [a, s] => cond s.scalar1 (match ovOf (a, r.2) with | some o => some (o, s) | none => none) none
 | _ => none
def EVd (cf : Orac) (f : Nat) (args : List AV) (sz : Nat) (rs : List (List AV)) : Option (AV × List (List AV)) := (cf (.f f) args [.rows true sz rs]).bind (qdw sz)
def EVx (cf : Orac) (f : Nat) (args : List AV) (sz : Nat) (rs : List (List AV)) : Option (AV × List (List AV)) := (cf (.f f) args [.rows false sz rs]).bind (qe8 sz)
open Classical in
noncomputable def EVk (cf : Orac) (f : Nat) (args : List AV) (sz : Nat) (rs : List (List AV)) : Option AV := (EVx cf f args sz rs).bind fun q => if q.2 = rs then some q.1 else none
theorem qjh {cf : Orac} {f : Nat} {args : List AV} {sz : Nat} {rs : List (List AV)} {v : AV} (h : EVk cf f args sz rs = some v) : EVx cf f args sz rs = some (v, rs) := by
 unfold EVk at h
 obtain ⟨q, h1, h2⟩ := qkq.1 h
 split at h2
 ·rename_i e
  rw [h1, ← Option.some.inj h2, ← e]
 ·cases h2
def EVs (cf : Orac) (f : Nat) (args : List AV) : Option AV := (cf (.f f) args []).map fun r => r.1
def EVf (cf : Orac) (f : Nat) (args : List AV) : Option AV := (cf (.f f) args []).map fun r => (r.1.frz r.1.msIds r.2).fg
def EVo (cf : Orac) (f : Nat) (args : List AV) : Option OV := (cf (.f f) args []).bind ovOf
def EVw (cf : Orac) (f : Nat) (args : List AV) : Option AV := (cf (.f f) args []).map fun r => r.1.frzW r.1.msIdsW r.2
def kWr (v : AV) (k : Nat → List (List AV) → Option α) : Option α :=
 match v with
 | .wr n (.sl rows) => k n rows
 | _ => none
def EVn (cf : Orac) (f : Nat) (args : List AV) : Option AV := (cf (.f f) args []).bind fun r => qeK r.2 r.1
def EVg (cf : Orac) (f : Nat) (args : List AV) : Option AV := (cf (.f f) args []).bind fun r => qcW r.2 r.1
def EVz (cf : Orac) (f : Nat) (a : AV) : Option Unit := (cf (.f f) [a] [.spl]).bind qd1
def EVb (cf : Orac) (f : Nat) (args : List AV) (T e : TypeId) (s : List UInt8) : Option (AV × List UInt8) := (cf (.f f) args [.bld T e s]).bind (qfP T e)
def qds (cf : Orac) (f : Nat) : List AV → Option α → Option α
 | [], k => k
 | a :: l, k => kOpt (EVz cf f a) fun _ => qds cf f l k
def EVq (cf : Orac) (f : Nat) (args : List AV) : Option (OV × AV) := (cf (.f f) args []).bind qjl
def kOwn (o : OV) (x : Option α) (k : Nat → List (List AV) → Nat → Nat → Option α) : Option α :=
 match o with
 | .nil => x
 | .own sz rs off len => k sz rs off len
inductive MV where
 | unit
 | nil
 | sl (off len : Nat)
 | int (k : IntKind) (n : Int)
 | bool (b : Bool)
def mvOf : AV → Option MV
 | .tup [] => some .unit
 | .nilS => some .nil
 | .ms id off len => if qkG id 0 then some (.sl off len) else none
 | .int k n => some (.int k n)
 | .bool b => some (.bool b)
 | _ => none
def MV.av (id : Nat) : MV → AV
 | .unit => .tup []
 | .nil => .nilS
 | .sl off len => .ms id off len
 | .int k n => .int k n
 | .bool b => .bool b
def EVm (cf : Orac) (f : Nat) (args : List AV) (sz : Nat) (rs : List (List AV)) : Option (MV × List (List AV)) :=
 (cf (.f f) args [.rows true sz rs]).bind fun r => (qc7 sz r).bind fun q => (mvOf q.1).map fun v => (v, q.2)
def EVu (cf : Orac) (f : Nat) (args : List AV) : Option MV := (cf (.f f) args []).bind fun r => if r.1.refsLt 0 then mvOf r.1 else none
def kMSl (v : MV) (x : Option α) (k : Nat → Nat → Option α) : Option α :=
 match v with
 | .nil => x
 | .sl off len => k off len
 | _ => none
def qak (v : MV) (x : Option α) : Option α :=
 match v with
 | .unit => x
 | _ => none
def qeS (kd : IntKind) (v : MV) (k : Int → Option α) : Option α :=
 match v with
 | .int q n => cond (qS q kd) (k n) none
 | _ => none
def qfw (v : MV) (k : Bool → Option α) : Option α :=
 match v with
 | .bool b => k b
 | _ => none
def qij (cfg : Cfg) (ty : TypeId) : Nat :=
 match cfg.td ty with
 | some (.slice _) => 1
 | some (.int _) => 2
 | some .bool => 3
 | _ => 0
def qjm (cfg : Cfg) (ty : TypeId) : IntKind :=
 match cfg.td ty with
 | some (.int k) => k
 | _ => .i64
def qeR (kd : Nat) (ik : IntKind) (id : Nat) (v : MV) (k : KV α) : Option α :=
 match kd with
 | 0 => qak v (k (.tup []))
 | 1 => kMSl v (k .nilS) fun off len => k (.ms id off len)
 | 2 => qeS ik v fun n => k (.int ik n)
 | _ => qfw v fun b => k (.bool b)
noncomputable def qbP (cfg : Cfg) (cf : Orac) (kf : KF α) (nid : Option Nat) (ty : TypeId) (t : Tgt) (args : List AV) (H : AH) (k : KH α) : Option α :=
 match t with
 | .y id => kf (.y id) args H fun r => kOpt (xR nid H.length r.1 r.2) fun r => kTy noTy cfg ty r.1 fun v => k v r.2
 | .f f =>
  match cfg.mode f with
  | .scal => qeU H args fun al => cond (qg 0 al) (match cfg.inl f with
   | some _ => kf (.f f) al [] fun r => kTy noTy cfg ty r.1 fun v => cond v.scalar (k v H) none
   | none => kOpt (EVs cf f al) fun v => kTy noTy cfg ty v fun v => cond v.scalar (k v H) none) none
  | .pfrz => cond (qg 0 (args.map AV.fg)) (match cfg.inl f with
   | some _ => kf (.f f) (args.map AV.fg) [] fun r => zO false r.2 r.1 fun v => kTy zR cfg ty v fun v => cond (v.refsLt 0) (k v H) none
   | none => kOpt (EVf cf f (args.map AV.fg)) fun v => kTy zR cfg ty v fun v => cond (v.refsLt 0) (k v H) none) none
  | .wfrz => cond (qg 0 args) (kOpt (EVw cf f args) fun v => match cfg.td ty with
    | some (.slice _) => kWr v fun n rows => k (.wr n (.sl rows)) H
    | _ => kTy noTy cfg ty v fun v => cond (v.refsLt 0) (k v H) none) none
  | .nfrz => cond (qg 0 (args.map AV.fg)) (kOpt (EVn cf f (args.map AV.fg)) fun V => kTy zR cfg ty V fun V => k V.lendT H) none
  | .pown => match cfg.tup ty with
   | some [_, t2] => cond (qg 0 args) (kOpt (EVq cf f args) fun q => kTy1 noTy cfg t2 q.2 fun s => kOwn q.1 (k (.tup [.nilS, s]) H) fun sz rs off len => kNew nid H (.rows true sz rs) fun i H' => k (.tup [.ms i off len, s]) H') none
   | _ => cond (qg 0 args) (match cfg.inl f with
   | some _ => kf (.f f) args [] fun r => kOpt (ovOf r) fun o => kOwn o (k .nilS H) fun sz rs off len => kNew nid H (.rows true sz rs) fun i H' => k (.ms i off len) H'
   | none => kOpt (EVo cf f args) fun o => kOwn o (k .nilS H) fun sz rs off len => kNew nid H (.rows true sz rs) fun i H' => k (.ms i off len) H') none
  | .inpl =>
   match qj 0 args with
   | id :: l => cond (qL [id] l) (kOpt H[id]? fun b => match b with
     | .rows d sz rs => cond (d || qh 0 rs) (kOpt (EVm cf f (renL (fun _ => 0) args) sz rs) fun q => qeR (qij cfg ty) (qjm cfg ty) id q.1 fun v => k v (H.set id (.rows true sz q.2))) none
     | _ => none) none
   | [] => cond (qg 0 args) (kOpt (EVu cf f args) fun v => qeR (qij cfg ty) (qjm cfg ty) 0 v fun v => k v H) none
  | .imp => kf (.f f) args H fun r => kOpt (xR nid H.length r.1 r.2) fun r => kTy noTy cfg ty r.1 fun v => k v r.2
  | .ifrz => kf (.f f) args H fun r => kOpt (xR nid H.length (r.1.frz r.1.msIds r.2) (qm r.1.msIds r.2)) fun r => kTy noTy cfg ty r.1 fun v => k v r.2
  | .inpf =>
   match qj 0 args with
   | id :: l => cond (qL [id] l) (kOpt H[id]? fun b => match b with
     | .rows d sz rs => cond (d || qh 0 rs) (kOpt (EVd cf f (renL (fun _ => 0) args) sz rs) fun q => kTy zR cfg ty q.1 fun v => k v (H.set id (.rows true sz q.2))) none
     | _ => none) none
   | [] => none
  | .slf =>
   match qj 0 args with
   | id :: l => cond (qL [id] l) (kOpt H[id]? fun b => match b with
     | .rows _ sz rs => cond (qL [id] (vL 0 rs)) (kOpt (EVk cf f (renL (fun _ => 0) args) sz (renR (fun _ => 0) rs)) fun q => kTy zR cfg ty q fun v => k v (H.set id (.rows false sz (renR (fun _ => id) (renR (fun _ => 0) rs))))) none
     | _ => none) none
   | [] => none
  | .rgn => cond (qg 0 (args.map AV.fg)) (kOpt (EVg cf f (args.map AV.fg)) fun V => kTy zR cfg ty V fun V => kNew nid H .reg fun i H' => k (rgIn i V) H') none
  | .over =>
   match args with
   | [a] =>
    (match qj 0 a.alts with
    | id :: l => cond (qL [id] l) (kOpt H[id]? fun b => match b with
      | .reg => qds cf f (renL (fun _ => 0) a.alts) (k (.tup []) (H.set id .spl))
      | .spl => qds cf f (renL (fun _ => 0) a.alts) (k (.tup []) H)
      | _ => none) none
    | [] => none)
   | _ => none
  | .bld =>
   match qj 0 args with
   | id :: l => cond (qL [id] l) (kOpt H[id]? fun b => match b with
     | .bld T e s => kOpt (EVb cf f (renL (fun _ => 0) args) T e s) fun q => kTy zR cfg ty q.1 fun v => k v (H.set id (.bld T e q.2))
     | _ => none) none
   | [] => none
  | .sub => kOpt (zH H args) fun s => kf (.f f) (renL (qW 0 s.1) args) s.2 fun r => kOpt (qcL s.1.length r) fun q => kOpt (vI nid H (q.2.length - s.1.length)) fun p => kTy noTy cfg ty (q.1.ren (vC (s.1 ++ p.1))) fun v => k v (xi p.2 (s.1 ++ p.1) q.2)
def kTgt (f : AV) (args : List AV) (k : Tgt → List AV → Option α) : Option α :=
 match f with
 | .fn (.func g) first caps => k (.f g) (first ++ args ++ caps)
 | .yld id => k (.y id) args
 | _ => none
def opEq : Operand → Operand → Bool
 | .tmp a, .tmp b => qkG a b
 | _, _ => false
def frzX : List Operand → List AV → (Operand → AV) → Operand → AV
 | b :: l, v :: al, x, a => cond (opEq b a) v (frzX l al x a)
 | _, _, x, a => x a
noncomputable def qeT (cfg : Cfg) (nid : Option Nat) (o : Oper) (x : Operand → AV) (H : AH) (k : KH α) : Option α :=
 qbl H (o.op.operands.toList.map x) fun al =>
  kOp cfg nid o.op o.type (frzX o.op.operands.toList al fun a => (x a).frz (o.op.operands.toList.flatMap fun a => (x a).msIds) H) (qm (o.op.operands.toList.flatMap fun a => (x a).msIds) H) k
noncomputable def qeP (cfg : Cfg) (cf : Orac) (kf : KF α) (frz : Bool) (nid : Option Nat) (o : Oper) (x : Operand → AV) (H : AH) (k : KH α) : Option α :=
 cond frz
  (match o.op with
   | .call c =>
    match c.callee with
    | .value f => qbl H (c.args.toList.map x) fun al => kTgt ((x f).frz (o.op.operands.toList.flatMap fun a => (x a).msIds) H) al fun t al =>
      qbP cfg cf kf nid o.type t al (qm (o.op.operands.toList.flatMap fun a => (x a).msIds) H) k
    | _ => qeT cfg nid o x H k
   | _ => qeT cfg nid o x H k)
  (match o.op with
   | .call c =>
    match c.callee with
    | .value f => kTgt (x f) (c.args.toList.map x) fun t al => qbP cfg cf kf nid o.type t al H k
    | _ => kOp cfg nid o.op o.type x H k
   | _ => kOp cfg nid o.op o.type x H k)
def qbO (ops : Array Oper) (fr : List AV) (o : Oper) (k : Bool → List AV → Option α) : Option α :=
 match o.guard with
 | none => k true fr
 | some (j, want) =>
  match (ops[j]?).bind (·.dst) with
  | some d => kOpt fr[d]? fun v => match v with
   | .tup l => (match l with | [] => k false fr | _ => none)
   | v => qD v fun b => cond b (k want (fr.set d (.bool true))) (k (!want) (fr.set d (.bool false)))
  | none => none
noncomputable def kOps (cfg : Cfg) (cf : Orac) (kf : KF α) (f rid : Nat) (ops : Array Oper) : Nat → List Oper → List AV → AH → (List AV → AH → Option α) → Option α
 | _, [], fr, H, k => k fr H
 | n, o :: rest, fr, H, k => qbO ops fr o fun b fr =>
   cond b (qeP cfg cf kf (cfg.frz f rid n) none o (opd fr) H fun v H' => kOps cfg cf kf f rid ops (n + 1) rest (put fr o.dst v) H' k) (kOps cfg cf kf f rid ops (n + 1) rest (put fr o.dst (.tup [])) H k)
noncomputable def qdo (cfg : Cfg) (cf : Orac) (kf : KF α) (f rid : Nat) (ops : Array Oper) : Nat → Nat → List Oper → List AV → AH → (List DR → List AV → AH → Option α) → Option α
 | _, _, [], fr, H, k => k [] fr H
 | n, at_, o :: rest, fr, H, k => qbO ops fr o fun b fr =>
   cond b
    (qeP cfg cf kf (cfg.frz f rid n) (some at_) o (opd fr) H fun v H' =>
     qdo cfg cf kf f rid ops (n + 1) (at_ + zB cfg o) rest (put fr o.dst v) H' fun fps fr' H'' => k (drOf cfg (cfg.frz f rid n) at_ o (opd fr) H v H' :: fps) fr' H'')
    (qdo cfg cf kf f rid ops (n + 1) (at_ + zB cfg o) rest (put fr o.dst (.tup [])) H fun fps fr' H'' => k (drNo H :: fps) fr' H'')
open Classical in
noncomputable def CUT {β : Type} (p : β) : Option β := if ∃ q : β, some q = some p then some p else none
theorem qkh {β : Type} (p : β) : CUT p = some p := if_pos ⟨p, rfl⟩
noncomputable def qdp (ts : Option (List Tmp)) (fr : List AV) (H : AH) (g : List AV → AH → Option α) : Option α :=
 match ts with
 | none => g fr H
 | some ks => kOpt (CUT (qE (some ks) fr, H)) fun p => g p.1 p.2
theorem qgv {ts : Option (List Tmp)} {fr : List AV} {H : AH} {g : List AV → AH → Option α} {r : α} (h : qdp ts fr H g = some r) : g (qE ts fr) H = some r := by
 cases ts with
 | none => exact h
 | some ks =>
  have h : kOpt (CUT (qE (some ks) fr, H)) (fun p => g p.1 p.2) = some r := h
  rw [qkh] at h
  exact h
def kSeq (nx : List AV → AH → Option α) (k : KE α) : KE α := fun e fr H =>
 match e with
 | .normal => nx fr H
 | e => k e fr H
def qdq (id : Nat) (k : KE α) : KE α := fun e fr H =>
 match e with
 | .exit id' => cond (qkG id' id) (k .normal fr H) (k (.exit id') fr H)
 | e => k e fr H
def qfr (k : KE α) : KE α := fun e fr H =>
 match e with
 | .goto _ => none
 | e => k e fr H
def kAft (ts : Option (List Tmp)) (k : KE α) (r : Ex × List AV × AH) : Option α := k r.1 (qE ts r.2.1) r.2.2
def known (fr : List AV) (c : Operand) (b : Bool) : List AV :=
 match c with
 | .tmp d => fr.set d (.bool b)
 | _ => fr
def qjo (b : ABlk) (k : Option Code → Option α) : Option α :=
 match b with
 | .loop _ _ _ _ _ pend st => (match st with | .busy => none | _ => k pend)
 | _ => none
def qft (pend : Option Code) (k : KE α) (fr : List AV) (H : AH) : Option α :=
 match pend with
 | none => k .normal fr H
 | some c => (match c with | .ret => k .ret fr H | .exit id => k (.exit id) fr H | _ => none)
def qer (bs n : Nat) (fr : List AV) (k : KE α) (H : AH) : Option α :=
 kOpt H[n]? fun b => qjo b fun pend => qft pend k (gc bs fr (H.set n .dead)).1 (gc bs fr (H.set n .dead)).2
def qip (cfg : Cfg) (_cf : Orac) (kf : KF α) (f : Nat) (rd : Option Nat) (bs : Nat) (g : AV) (ps : List Tmp) (assign body : Code) (fr : List AV) (H : AH) (k : KE α) : Option α :=
 cond (qfi rd H)
  (match g with
   | .fn (.func h) first caps => cond (cfg.ext h).isNone
     (kf (.f h) (first ++ [.yld H.length] ++ caps) (H ++ [.loop f (qE (cfg.keepIn f (qf body)) fr) ps assign body none .ready]) fun r =>
      qer bs H.length (qE (cfg.keepOut f (qf body)) fr) k r.2) none
   | _ => none) none
noncomputable def qK (cfg : Cfg) (cf : Orac) (kf : KF α) (f : Nat) (rd : Option Nat) (bs : Nat) : Code → List AV → AH → KE α → Option α
 | .skip, fr, H, k => k .normal fr H
 | .label _, fr, H, k => k .normal fr H
 | .region id ops draw, fr, H, k =>
  cond draw
   (cond (zG ops)
    (qdo cfg cf kf f id ops 0 H.length ops.toList fr (H ++ qkE (places cfg ops.toList) .res) fun fps fr' H' => cond (qam (ancs [] ops.toList) (H ++ qkE (places cfg ops.toList) .res) fps) (k .normal fr' H') none) none)
   (kOps cfg cf kf f id ops 0 ops.toList fr H fun fr' H' => k .normal fr' H')
 | .seq a b, fr, H, k => qK cfg cf kf f rd bs a fr H (kSeq (fun fr H => qdp (cfg.cut f (qf b)) fr H fun fr H => qK cfg cf kf f rd bs b fr H k) k)
 | .cond c a b, fr, H, k => qD (opd fr c) fun t => cond t (qK cfg cf kf f rd bs a (known fr c true) H k) (qK cfg cf kf f rd bs b (known fr c false) H k)
 | .block id a, fr, H, k => qK cfg cf kf f rd bs a fr H (qdq id k)
 | .loop a, fr, H, k => kOpt (LOOP bs (cfg.keepIn f (qf a)) (cfg.lift f (qf a)) (evC cfg cf f rd bs a) (xD bs (cfg.keepIn f (qf a)) (cfg.lift f (qf a)) fr H)) (kAft (cfg.keepOut f (qf a)) k)
 | .scope a, fr, H, k => qK cfg cf kf f rd bs a fr H (qfr k)
 | .exit id, fr, H, k => k (.exit id) fr H
 | .goto _, _, _, _ => none
 | .ret, fr, H, k => k .ret fr H
 | .rangeFunc g ps assign body, fr, H, k => qip cfg cf kf f rd bs (opd (qx (cfg.lift f (qf body)) fr H).1 g) ps.toList assign body (qx (cfg.lift f (qf body)) fr H).1 (qx (cfg.lift f (qf body)) fr H).2 k
 | .refuse _, _, _, _ => none
inductive Ko where
 | seq (c : Code)
 | block (id : Nat)
 | scope
noncomputable def kRun (cfg : Cfg) (cf : Orac) (kf : KF α) (f : Nat) (rd : Option Nat) (bs : Nat) (k : KE α) : List Ko → KE α
 | [] => k
 | .seq c :: s => kSeq (fun fr H => qdp (cfg.cut f (qf c)) fr H fun fr H => qK cfg cf kf f rd bs c fr H (kRun cfg cf kf f rd bs k s)) (kRun cfg cf kf f rd bs k s)
 | .block id :: s => qdq id (kRun cfg cf kf f rd bs k s)
 | .scope :: s => qfr (kRun cfg cf kf f rd bs k s)
def kRes (cfg : Cfg) (fr : List AV) (H : AH) : List ResultVar → (List AV → Option α) → Option α
 | [], k => k []
 | .tmp t :: l, k => kRes cfg fr H l fun vs => k (fr.getD t .junk :: vs)
 | .cell a t :: l, k =>
  match cfg.ty t with
  | some ti => qdi ti.d.agg ti.sz H (fr.getD a .junk) fun v => kTy noTy cfg t v fun v => kRes cfg fr H l fun vs => k (v :: vs)
  | none => none
variable {α : Type} {r : α} {H : AH}
theorem qa {b : Bool} {x : Option α} (h : cond b x none = some r) : b = true ∧ x = some r := by cases b <;> simp_all
theorem qhN {b : Bool} {x : Option α} (h : cond b none x = some r) : b = false ∧ x = some r := by cases b <;> simp_all
theorem vj {b : Bool} {x y : Option α} (h : cond b x y = some r) : (b = true ∧ x = some r) ∨ (b = false ∧ y = some r) := by cases b <;> simp_all
theorem qbf {a b : IntKind} (h : qS a b = true) : a = b := by simpa [qS] using h
theorem qz {a b : Int} : qk a b = true ↔ a ≤ b := by simp [qk]
theorem xB {a b : Int} : xb a b = true ↔ a < b := by simp [xb]
theorem yX {kd : IntKind} {v : AV} {k : Int → Option α} (h : kInt kd v k = some r) : ∃ n, v = .int kd n ∧ k n = some r := by
 unfold kInt at h
 split at h
 ·obtain ⟨h1, h2⟩ := qa h
  rw [qbf h1]; exact ⟨_, rfl, h2⟩
 ·cases h
theorem zi {v : AV} {k : Bool → Option α} (h : qD v k = some r) : ∃ b, v = .bool b ∧ k b = some r := by
 unfold qD at h; split at h
 ·exact ⟨_, rfl, h⟩
 ·cases h
theorem xC {v : AV} {k : List UInt8 → Option α} (h : kStr v k = some r) : ∃ b, v = .str b ∧ k b = some r := by
 unfold kStr at h; split at h
 ·exact ⟨_, rfl, h⟩
 ·cases h
theorem zQ {v : AV} {k : List AV → Option α} (h : kAgg v k = some r) : ∃ b, v = .agg b ∧ k b = some r := by
 unfold kAgg at h; split at h
 ·exact ⟨_, rfl, h⟩
 ·cases h
theorem qd {β : Type} {o : Option β} {k : β → Option α} (h : kOpt o k = some r) : ∃ b, o = some b ∧ k b = some r := by
 unfold kOpt at h; split at h
 ·exact ⟨_, rfl, h⟩
 ·cases h
theorem xJ {l : List AV} {k : AV → List AV → Option α} (h : qy l k = some r) : ∃ a b, l = a :: b ∧ k a b = some r := by
 unfold qy at h; split at h
 ·exact ⟨_, _, rfl, h⟩
 ·cases h
theorem qbj {l : List AV} {x : Option α} (h : kNil l x = some r) : l = [] ∧ x = some r := by
 unfold kNil at h; split at h
 ·exact ⟨rfl, h⟩
 ·cases h
theorem qca {s : FK} {v : AV} {k : KV α} (h : yr s v k = some r) : k v = some r := by
 cases s with
 | int kd => obtain ⟨n, rfl, h1⟩ := yX h; exact h1
 | bool => obtain ⟨n, rfl, h1⟩ := zi h; exact h1
 | str => obtain ⟨n, rfl, h1⟩ := xC h; exact h1
 | sl =>
  have h : kSl v (fun rows => k (.sl rows)) = some r := h
  unfold kSl at h
  split at h
  ·exact h
  ·cases h
 | any => exact h
theorem zV : ∀ {ss : List FK} {l : List AV} {k : List AV → Option α}, yu ss l k = some r → k l = some r
 | [], l, k, h => by
  obtain ⟨rfl, h1⟩ := qbj h
  exact h1
 | s :: ss, l, k, h => by
  obtain ⟨a, b, rfl, h1⟩ := xJ h
  exact zV (k := fun vs => k (a :: vs)) (qca (k := fun v => yu ss b fun vs => k (v :: vs)) h1)
theorem qhw {l0 : List AV} {k : List AV → Option α} (h0 : yu [.int .i64, .int .i64, .str, .sl] l0 k = some r) : yG l0 = true ∧ k l0 = some r := by
 refine ⟨?_, zV h0⟩
 simp only [yu] at h0
 obtain ⟨a, l1, rfl, h1⟩ := xJ h0
 obtain ⟨n, rfl, h2⟩ := yX (k := fun n => qy l1 fun c cs => yr (.int .i64) c fun v => qy cs fun c cs => yr .str c fun v1 => qy cs fun c cs => yr .sl c fun v2 => kNil cs (k [.int .i64 n, v, v1, v2])) h1
 obtain ⟨a, l2, rfl, h3⟩ := xJ h2
 obtain ⟨m, rfl, h4⟩ := yX (k := fun m => qy l2 fun c cs => yr .str c fun v1 => qy cs fun c cs => yr .sl c fun v2 => kNil cs (k [.int .i64 n, .int .i64 m, v1, v2])) h3
 obtain ⟨a, l3, rfl, h5⟩ := xJ h4
 obtain ⟨s, rfl, h6⟩ := xC (k := fun s => qy l3 fun c cs => yr .sl c fun v2 => kNil cs (k [.int .i64 n, .int .i64 m, .str s, v2])) h5
 obtain ⟨a, l4, rfl, h7⟩ := xJ h6
 have h8 : kSl a (fun rows => kNil l4 (k [.int .i64 n, .int .i64 m, .str s, .sl rows])) = some r := h7
 unfold kSl at h8
 split at h8
 ·obtain ⟨rfl, _⟩ := qbj h8
  rfl
 ·cases h8
theorem qbh {p : TypeId → Bool} {cfg : Cfg} {t : TypeId} {v : AV} {k : KV α} (h : kTy1 p cfg t v k = some r) : k v = some r := by
 unfold kTy1 at h
 have agg : ∀ {ss : List FK}, (kAgg v fun cs => yu ss cs fun vs => k (.agg vs)) = some r → k v = some r := by
  intro ss h
  obtain ⟨cs, rfl, h⟩ := zQ h
  exact zV (k := fun vs => k (.agg vs)) h
 split at h
 ·split at h
  ·split at h
   ·exact agg h
   ·exact h
  ·split at h
   ·exact agg h
   ·exact h
  ·exact qca h
 ·exact h
theorem qep {p : TypeId → Bool} {cfg : Cfg} : ∀ {ts : List TypeId} {l : List AV} {k : List AV → Option α}, kTys p cfg ts l k = some r → k l = some r
 | [], l, k, h => by
  rw [kTys] at h
  obtain ⟨h1, h2⟩ := qbj h
  rw [h1]; exact h2
 | t :: ts, l, k, h => by
  rw [kTys] at h
  obtain ⟨a, b, rfl, h⟩ := xJ h
  have h1 := qbh (k := fun v => kTys p cfg ts b fun vs => k (v :: vs)) h
  exact qep (k := fun vs => k (a :: vs)) h1
theorem qr {p : TypeId → Bool} {cfg : Cfg} {t : TypeId} {v : AV} {k : KV α} (h : kTy p cfg t v k = some r) : k v = some r := by
 unfold kTy at h
 split at h
 ·unfold kTup at h
  split at h
  ·exact qep (k := fun vs => k (.tup vs)) h
  ·cases h
 ·exact qbh h
theorem vw {nid : Option Nat} {b : ABlk} {k : Nat → AH → Option α} (h : kNew nid H b k = some r) : ∃ i H', aNew nid H b = some (i, H') ∧ k i H' = some r := by
 unfold kNew at h
 unfold aNew
 cases nid with
 | none => exact ⟨_, _, rfl, h⟩
 | some i =>
  simp only at h ⊢
  obtain ⟨x, hx, h⟩ := qd h
  rw [hx]
  split at h
  ·exact ⟨_, _, rfl, h⟩
  ·cases h
theorem qfB {v : AV} (h : v.isCell = true) : v.cells = some [v] := by cases v <;> simp_all [AV.isCell, AV.cells]
theorem x7 {agg : Bool} {v : AV} {k : List AV → Option α} (h : yJ agg v k = some r) : ∃ cs, v.cells = some cs ∧ k cs = some r := by
 unfold yJ at h
 rcases vj h with ⟨_, h⟩ | ⟨_, h⟩
 ·obtain ⟨cs, rfl, h⟩ := zQ h
  obtain ⟨h1, h2⟩ := qa h
  exact ⟨cs, by simp [AV.cells, h1], h2⟩
 ·obtain ⟨h1, h2⟩ := qa h
  exact ⟨_, qfB h1, h2⟩
theorem qhp {t : Bool} {a b : AV} {k : KV α} (h : qhq t a b k = some r) : k (if t then a else b) = some r := by
 have sp : ∀ {a b : AV}, cond t (k a) (k b) = some r → k (if t then a else b) = some r := by
  intro a b h
  cases t <;> simpa using h
 unfold qhq at h
 split at h
 ·cases t <;> simpa using h
 ·rcases vj h with ⟨h1, h⟩ | ⟨_, h⟩
  ·have := qbf h1; subst this
   cases t <;> simpa using h
  ·exact sp h
 ·exact sp h
theorem qaI {place : Nat → Option (Nat × Nat × Bool)} {place' : Nat → Option (Nat × Nat)} (hp : ∀ i off n g, place i = some (off, n, g) → place' i = some (off, n)) : ∀ {parts : List (Nat × AV)} {cells : List AV} {k : List AV → Option α},
  qdm place cells parts k = some r → ∃ cs, yS place' cells parts = some cs ∧ k cs = some r
 | [], cells, k, h => ⟨cells, rfl, h⟩
 | (i, v) :: rest, cells, k, h => by
  rw [qdm] at h
  split at h
  ·rename_i off n g hi
   obtain ⟨cs, h1, h⟩ := x7 h
   obtain ⟨h2, h⟩ := qa h
   obtain ⟨cs', h3, h4⟩ := qaI hp h
   refine ⟨cs', ?_, h4⟩
   rw [qks] at h2
   rw [yS, hp _ _ _ _ hi, h1]
   simp only
   rw [if_pos]
   ·exact h3
   ·rw [qks, beq_iff_eq]
    exact ⟨qkt h2.1, h2.2⟩
  ·cases h
theorem qc3 {cfg : Cfg} : ∀ {fs : List (Nat × TypeId)} {ps : List (Nat × Nat × Bool)}, qbN cfg fs = some ps → ∃ qs, xA cfg fs = some qs ∧ ∀ (i off n : Nat) (g : Bool), ps[i]? = some (off, n, g) → qs[i]? = some (off, n)
 | [], ps, h => by cases h; exact ⟨[], rfl, fun i off n g h => by simp at h⟩
 | (off, t) :: l, ps, h => by
  rw [qbN] at h
  split at h
  ·rename_i n ps' h1 h2
   cases h
   obtain ⟨qs, h3, h4⟩ := qc3 h2
   refine ⟨(off, n) :: qs, by rw [xA, h1, h3], fun i o m g hi => ?_⟩
   cases i with
   | zero => simp at hi ⊢; exact ⟨hi.1, hi.2.1⟩
   | succ i => simpa using h4 i o m g (by simpa using hi)
  ·cases h
theorem qdf {agg : Bool} {n : Nat} : ∀ {parts : List (Nat × AV)} {rows : List (List AV)} {k : List (List AV) → Option α}, qeO agg n rows parts k = some r → ∃ rs, yB n rows parts = some rs ∧ k rs = some r
 | [], rows, k, h => ⟨rows, rfl, h⟩
 | (i, v) :: rest, rows, k, h => by
  rw [qeO] at h
  obtain ⟨cs, h1, h⟩ := x7 h
  obtain ⟨h2, h⟩ := qa h
  obtain ⟨rs, h3, h4⟩ := qdf h
  refine ⟨rs, ?_, h4⟩
  rw [qks] at h2
  rw [yB, h1]
  simp only
  rw [if_pos]
  ·exact h3
  ·rw [qks, beq_iff_eq]
   exact ⟨qkt h2.1, h2.2⟩
theorem yf {id : Nat} {k : Nat → List (List AV) → Option α} (h : kBlk H id k = some r) : ∃ sz rs, qn H id = some (sz, rs) ∧ k sz rs = some r := by
 unfold kBlk at h
 obtain ⟨b, hb, h⟩ := qd h
 unfold qn
 rw [hb]
 split at h
 ·exact ⟨_, _, rfl, h⟩
 ·exact ⟨_, _, rfl, h⟩
 ·cases h
theorem yq {g s : Bool} {v : AV} {k : KV α} (h : qdl g s H v k = some r) : (∀ ids, (∀ id off len, v = .ms id off len → id ∈ ids) → s = false → k (cond g (v.frz1 ids H).fg1 (v.frz1 ids H)) = some r) ∧ (s = true → k (cond g (v.snap1 H).fg1 (v.snap1 H)) = some r) := by
 unfold qdl at h
 split at h
 ·rename_i id off len
  obtain ⟨sz, rs, h1, h⟩ := yf h
  rcases hc : (qkJ (off + len) rs.length && (qU H id || qh 0 ((rs.drop off).take len))) with _ | _
  ·rw [hc] at h; cases h
  ·rw [hc] at h
   have h : k (.sl ((rs.drop off).take len)) = some r := h
   have aux : ∀ ids : List Nat, id ∈ ids → (AV.ms id off len).frz1 ids H = .sl ((rs.drop off).take len) := by
    intro ids hi
    simp only [AV.frz1, h1]
    rw [if_pos]
    rw [Bool.and_assoc, hc, Bool.and_true]
    exact qw.2 hi
   refine ⟨fun ids hi _ => ?_, fun _ => ?_⟩
   ·rw [aux ids (hi _ _ _ rfl)]; cases g <;> exact h
   ·simp only [AV.snap1]; rw [aux [id] (by simp)]; cases g <;> exact h
 ·refine ⟨fun ids _ _ => ?_, fun _ => ?_⟩ <;> (cases g <;> exact h)
 ·refine ⟨fun ids _ _ => ?_, fun _ => ?_⟩ <;> (cases g <;> exact h)
 ·split at h
  ·refine ⟨fun ids _ _ => ?_, fun _ => ?_⟩ <;> (cases g <;> exact h)
  ·cases h
 ·rename_i id r' off
  cases s with
  | false => exact ⟨fun ids _ _ => by cases g <;> exact h, fun h => by cases h⟩
  | true =>
   refine ⟨fun _ _ h => by (cases h), fun _ => ?_⟩
   obtain ⟨sz, rs, h1, h⟩ := yf h
   obtain ⟨row, h2, h⟩ := qd h
   obtain ⟨h3, h⟩ := qa h
   simp only [AV.snap1, h1, h2, qdH, h3, if_true]
   cases g <;> exact h
 ·rename_i id rows
  cases s with
  | false => exact ⟨fun ids _ _ => by cases g <;> exact h, fun h => by cases h⟩
  | true =>
   refine ⟨fun _ _ h => by (cases h), fun _ => ?_⟩
   obtain ⟨b, h1, h⟩ := qd h
   split at h
   ·simp only [AV.snap1, h1]
    cases rows <;> cases g <;> exact h
   ·cases h
 ·rename_i hn1 hn2 hn4 hn6 hn3 hn5
  refine ⟨fun ids _ _ => ?_, fun _ => ?_⟩
  ·have : v.frz1 ids H = v := by
    cases v <;> first | rfl | exact absurd rfl (hn1 _ _ _)
   rw [this]
   have : v.fg1 = v := by
    cases v <;> first | rfl | exact absurd rfl hn2 | exact absurd rfl hn4 | exact absurd rfl (hn6 _ _)
   rw [this]; cases g <;> exact h
  ·have : v.snap1 H = v := by
    cases v <;> first | rfl | exact absurd rfl (hn1 _ _ _) | exact absurd rfl (hn3 _ _ _) | exact absurd rfl (hn5 _ _)
   rw [this]
   have : v.fg1 = v := by
    cases v <;> first | rfl | exact absurd rfl hn2 | exact absurd rfl hn4 | exact absurd rfl (hn6 _ _)
   rw [this]; cases g <;> exact h
theorem yY {g : Bool} {ids : List Nat} : ∀ {l : List AV} {k : List AV → Option α}, (∀ v ∈ l, ∀ id off len, v = .ms id off len → id ∈ ids) → xZ g false H l k = some r → k (l.map fun v => cond g (v.frz1 ids H).fg1 (v.frz1 ids H)) = some r
 | [], k, _, h => h
 | a :: l, k, hi, h => by
  rw [xZ] at h
  have h1 := (yq h).1 ids (hi a (by simp)) rfl
  exact yY (k := fun l => k (cond g (a.frz1 ids H).fg1 (a.frz1 ids H) :: l)) (fun v hv => hi v (by simp [hv])) h1
theorem zf {g : Bool} : ∀ {l : List AV} {k : List AV → Option α}, xZ g true H l k = some r → k (l.map fun v => cond g (v.snap1 H).fg1 (v.snap1 H)) = some r
 | [], k, h => h
 | a :: l, k, h => by
  rw [xZ] at h
  have h1 := (yq h).2 rfl
  exact zf (k := fun l => k (cond g (a.snap1 H).fg1 (a.snap1 H) :: l)) h1
theorem zL {l : List AV} {v : AV} (hv : v ∈ l) {id off len : Nat} (h : v = .ms id off len) : id ∈ l.flatMap AV.msId := by
 subst h
 exact List.mem_flatMap.2 ⟨_, hv, by simp [AV.msId]⟩
theorem qbm {v : AV} {k : KV α} (h : zO false H v k = some r) : k (v.frz v.msIds H).fg = some r := by
 unfold zO at h
 split at h
 ·rename_i cs
  have := yY (ids := cs.flatMap AV.msId) (fun v hv id off len e => zL hv e) h
  simpa [AV.frz, AV.fg, AV.msIds, Function.comp_def] using this
 ·rename_i cs
  have := yY (k := fun cs => k (.tup cs)) (ids := cs.flatMap AV.msId) (fun v hv id off len e => zL hv e) h
  simpa [AV.frz, AV.fg, AV.msIds, Function.comp_def] using this
 ·exact h
 ·rename_i h1 h2 h3
  have h4 := (yq h).1 v.msIds (fun id off len e => by subst e; simp [AV.msIds, AV.msId]) rfl
  have e1 : v.frz v.msIds H = v.frz1 v.msIds H := by
   cases v <;> first | rfl | exact absurd rfl (h1 _) | exact absurd rfl (h2 _)
  have e2 : (v.frz1 v.msIds H).fg = (v.frz1 v.msIds H).fg1 := by
   cases v <;> first | rfl | exact absurd rfl (h1 _) | exact absurd rfl (h2 _) | skip
   simp only [AV.frz1]
   split
   ·split <;> rfl
   ·rfl
  rw [e1, e2]; exact h4
theorem qhs {v : AV} {k : KV α} (h : zO true H v k = some r) : k (v.snap H).fg = some r := by
 unfold zO at h
 split at h
 ·rename_i cs
  have := zf h
  simpa [AV.snap, AV.fg, Function.comp_def] using this
 ·exact h
 ·rename_i f a b
  have h2 := zf (k := fun a => xZ false true H b fun b => k (.fn f a b)) h
  have h3 := zf (k := fun b => k (.fn f (a.map (AV.snap1 H)) b)) h2
  exact h3
 ·rename_i h1 h2 h3
  have h4 := (yq h).2 rfl
  have e1 : v.snap H = v.snap1 H := by
   cases v <;> first | rfl | exact absurd rfl (h1 _) | exact absurd rfl (h3 _ _ _)
  have e2 : (v.snap1 H).fg = (v.snap1 H).fg1 := by
   cases v <;> first | rfl | exact absurd rfl (h1 _) | exact absurd rfl (h2 _) | skip
   ·simp only [AV.snap1, AV.frz1]
    split
    ·split <;> rfl
    ·rfl
   ·simp only [AV.snap1]
    split
    ·split <;> rfl
    ·rfl
   ·simp only [AV.snap1]
    split <;> rfl
  rw [e1, e2]; exact h4
theorem qdr : ∀ {l : List AV} {k : List AV → Option α}, qeU H l k = some r → k (l.map fun a => (a.snap H).fg) = some r
 | [], k, h => h
 | a :: l, k, h => by
  rw [qeU] at h
  have h1 := qhs h
  exact qdr (k := fun l => k ((a.snap H).fg :: l)) h1
theorem yv {id : Nat} {k : Bool → Nat → List (List AV) → Option α} (h : qaL H id k = some r) : ∃ d sz rs, H[id]? = some (.rows d sz rs) ∧ k d sz rs = some r := by
 unfold qaL at h
 obtain ⟨b, hb, h⟩ := qd h
 split at h
 ·exact ⟨_, _, _, hb, h⟩
 ·cases h
theorem vJ {agg : Bool} {n off : Nat} {cells : List AV} {k : KV α} (h : yO agg n cells off k = some r) :
  ∃ v, (if agg then (if qkJ (off + n) cells.length then some (AV.agg ((cells.drop off).take n)) else none) else cells[off]?) = some v ∧ k v = some r := by
 unfold yO at h
 rcases vj h with ⟨rfl, h⟩ | ⟨rfl, h⟩
 ·obtain ⟨h1, h2⟩ := qa h
  exact ⟨_, by simp [h1], h2⟩
 ·obtain ⟨v, h1, h2⟩ := qd h
  exact ⟨v, by simp [h1], h2⟩
theorem qaF {agg : Bool} {n : Nat} {p : AV} {k : KV α} (h : qdi agg n H p k = some r) : ∃ v, xh agg n H p = some v ∧ k v = some r := by
 unfold qdi at h
 unfold xh
 split at h
 ·obtain ⟨sz, rs, h1, h⟩ := yf h
  obtain ⟨row, h2, h⟩ := qd h
  obtain ⟨v, h3, h4⟩ := vJ h
  exact ⟨v, by simp only [h1, h2]; exact h3, h4⟩
 ·obtain ⟨v, h3, h4⟩ := vJ h
  exact ⟨v, h3, h4⟩
 ·obtain ⟨v, h3, h4⟩ := vJ h
  refine ⟨v, ?_, h4⟩
  rw [← h3]
  simp only [List.length_map, List.map_take, List.map_drop, List.getElem?_map]
 ·obtain ⟨b, h1, h⟩ := qd h
  split at h
  ·obtain ⟨v, h3, h4⟩ := vJ h
   refine ⟨v, ?_, h4⟩
   simp only [h1]
   rw [← h3]
   simp only [List.length_map, List.map_take, List.map_drop, List.getElem?_map]
  ·simp only [h1]
   rcases vj h with ⟨ha, h⟩ | ⟨ha, h⟩
   ·obtain ⟨h2, h⟩ := qa h
    obtain ⟨h3, h⟩ := qhw h
    exact ⟨_, by rw [if_pos ha, if_pos (by rw [h2, h3]; rfl)], h⟩
   ·obtain ⟨rows, h2, h⟩ := qd h
    exact ⟨_, by rw [if_neg (by rw [ha]; simp)]; unfold qdZ; rw [h2]; rfl, h⟩
  ·cases h
 ·cases h
theorem qgq {agg : Bool} {n : Nat} {p v : AV} {k : AH → Option α} (h : qfp agg n H p v k = some r) : ∃ H', xa n H p v = some H' ∧ k H' = some r := by
 unfold qfp at h
 unfold xa
 split at h
 ·obtain ⟨cs, h1, h⟩ := x7 h
  obtain ⟨d, sz, rs, h2, h⟩ := yv h
  obtain ⟨row, h3, h⟩ := qd h
  obtain ⟨h4, h⟩ := qa h
  rw [qks] at h4
  refine ⟨_, ?_, h⟩
  simp only [h1, h2, h3]
  rw [if_pos]
  rw [qks, beq_iff_eq]
  exact ⟨qkt h4.1, h4.2⟩
 ·obtain ⟨b, h1, h⟩ := qd h
  split at h
  ·rcases vj h with ⟨h4, h⟩ | ⟨h4, h⟩
   ·obtain ⟨h2, h⟩ := qa h
    refine ⟨H, ?_, h⟩
    have h77 : is77 v = true := by rw [qks] at h2; exact h2.2
    have hv : ∃ cs, v.cells = some cs := by
     rcases qgS h77 with rfl | rfl
     ·exact ⟨_, rfl⟩
     ·exact ⟨_, rfl⟩
    obtain ⟨cs, hv⟩ := hv
    simp only [hv, h1]
    rw [if_pos (by rw [h4, Bool.true_and]; exact h2)]
   ·obtain ⟨h2, h⟩ := qa h
    refine ⟨H, ?_, h⟩
    have h99 : zo v = true := by rw [qks] at h2; exact h2.2
    have hv : ∃ cs, v.cells = some cs := by
     unfold zo at h99
     split at h99
     ·exact ⟨_, rfl⟩
     ·exact ⟨_, rfl⟩
     ·cases h99
    obtain ⟨cs, hv⟩ := hv
    simp only [hv, h1]
    rw [if_neg (by rw [h4]; simp), if_pos h2]
  ·cases h
 ·cases h
theorem zW {lo hi d : Nat} {x : Option AV} {k : Nat → Option α} (h : qbn lo hi x d k = some r) : ∃ n, yz lo hi x d = some n ∧ k n = some r := by
 unfold qbn at h
 unfold yz
 split at h
 ·exact ⟨_, rfl, h⟩
 ·split at h
  ·obtain ⟨h1, h⟩ := qa h
   rw [qks, qz, qz] at h1
   exact ⟨_, by simp only; rw [if_pos h1], h⟩
  ·cases h
theorem xY {n : Nat} {lo hi mx : Option AV} {k : Nat → Nat → Option α} (h : yI n lo hi mx k = some r) : ∃ l h', ye n lo hi mx = some (l, h') ∧ k l h' = some r := by
 unfold yI at h
 obtain ⟨h0, h⟩ := qhN h
 obtain ⟨a, h1, h⟩ := zW h
 obtain ⟨b, h2, h⟩ := zW h
 obtain ⟨c, h3, h⟩ := zW h
 refine ⟨c, a, ?_, h⟩
 unfold ye
 rw [if_neg (by rw [h0]; simp), h1]
 simp only [h2, h3]
theorem qgr {cfg : Cfg} {t : TypeId} {x : AV} {lo hi mx : Option AV} {k : KV α} (h : qfq cfg t H x lo hi mx k = some r) : ∃ v, yA cfg t H x lo hi mx = some v ∧ k v = some r := by
 unfold qfq at h
 unfold yA
 split at h
 ·rename_i ht
  rw [ht]
  split at h
  ·split at h
   ·obtain ⟨l, h', h1, h⟩ := xY h
    exact ⟨_, by simp only [h1], h⟩
   ·cases h
  ·cases h
 ·rename_i e ht
  rw [ht]
  split at h
  ·rename_i n hn
   split at h
   ·obtain ⟨l, h', h1, h⟩ := xY h
    exact ⟨_, by simp only [hn, h1], h⟩
   ·rename_i rows
    obtain ⟨l, h', h1, h⟩ := xY h
    obtain ⟨h2, h⟩ := qa h
    refine ⟨slE (cfg.ems t) rows l h', by simp only [hn, h1, h2, if_true], ?_⟩
    split at h
    ·rename_i he; rw [he]; exact h
    ·rename_i he; rw [he]; exact h
   ·obtain ⟨l, h', h1, h⟩ := xY h
    obtain ⟨sz, rs, h2, h⟩ := yf h
    obtain ⟨h3, hz⟩ := qa h
    have := qkt h3
    subst this
    exact ⟨_, by simp [hn, h1, h2], hz⟩
   ·split at h
    ·split at h
     ·rename_i kd hh _
      split at h
      ·obtain ⟨h2, hz⟩ := qa h
       rw [qks, qz, qz] at h2
       exact ⟨_, by simp only [hn, AV.lenW]; rw [if_pos h2], hz⟩
      ·obtain ⟨h2, hz⟩ := qa h
       rw [qks, qz, qz] at h2
       exact ⟨_, by simp only [hn, AV.lenW]; rw [if_pos h2], hz⟩
      ·cases h
     ·cases h
    ·cases h
   ·cases h
  ·cases h
 ·cases h
theorem qdj {cfg : Cfg} {t : TypeId} {x i : AV} {k : KV α} (h : qaG cfg t H x i k = some r) : ∃ v, vr cfg t H x i = some v ∧ k v = some r := by
 unfold qaG at h
 unfold vr
 split at h
 case h_2 => cases h
 rename_i kk i
 split at h
 ·rename_i e ht
  rw [ht]
  split at h
  case h_2 => cases h
  rename_i n hn
  split at h
  ·obtain ⟨sz, rs, h1, h⟩ := yf h
   obtain ⟨h2, hz⟩ := qa h
   rw [qks, qks, qz, xB] at h2
   have := qkt h2.1.1
   subst this
   exact ⟨_, by simp [hn, h1, h2.1.2, h2.2], hz⟩
  ·obtain ⟨h2, h⟩ := qa h
   rw [qks, qz, xB] at h2
   obtain ⟨row, h3, h⟩ := qd h
   obtain ⟨h4, hz⟩ := qa h
   refine ⟨.cptr row 0, ?_, hz⟩
   have h5 := qkt h4
   simp only [hn, if_pos h2, h3]
   rw [if_pos (by rw [h5]; exact beq_self_eq_true n)]
  ·obtain ⟨h2, h⟩ := qa h
   rw [qks, qz, xB] at h2
   obtain ⟨row, h3, h⟩ := qd h
   obtain ⟨h4, hz⟩ := qa h
   refine ⟨.lpt row 0, ?_, hz⟩
   have h5 := qkt h4
   simp only [hn, if_pos h2, h3]
   rw [if_pos (by rw [h5]; exact beq_self_eq_true n)]
  ·rename_i id rows
   obtain ⟨h2, h⟩ := qa h
   rw [qks, qz, xB] at h2
   obtain ⟨row, h3, h⟩ := qd h
   obtain ⟨h4, hz⟩ := qa h
   refine ⟨.rpt id row 0, ?_, hz⟩
   have h5 := qkt h4
   simp only [hn, if_pos h2, h3]
   rw [if_pos (by rw [h5]; exact beq_self_eq_true n)]
  ·cases h
 ·rename_i m e ht
  rw [ht]
  split at h
  case h_2 => cases h
  rename_i n hn
  split at h
  ·obtain ⟨h2, h⟩ := qa h
   rw [qks, qz, xB] at h2
   exact ⟨_, by simp [hn, h2.1, h2.2], h⟩
  ·obtain ⟨h2, h⟩ := qa h
   rw [qks, qz, xB] at h2
   exact ⟨_, by simp [hn, h2.1, h2.2], h⟩
  ·cases h
 ·cases h
theorem qjk {cfg : Cfg} {t : TypeId} {ti : TI} (h : cfg.ty t = some ti) : cfg.sz t = some ti.sz ∧ cfg.td t = some ti.d := by
 unfold Cfg.sz Cfg.td; rw [h]; exact ⟨rfl, rfl⟩
theorem qgt {cfg : Cfg} {t : TypeId} {x i : AV} {k : KV α} (h : qfx cfg t x i k = some r) : ∃ v, qar cfg t x i = some v ∧ k v = some r := by
 unfold qfx at h
 unfold qar
 split at h
 case h_2 => cases h
 rename_i kk i
 split at h
 ·rename_i n e ht
  rw [ht]
  split at h
  case h_2 => cases h
  rename_i ti hti
  obtain ⟨cs, rfl, h⟩ := zQ h
  obtain ⟨h2, h⟩ := qa h
  rw [qks, qz, xB] at h2
  obtain ⟨v, h3, h⟩ := vJ h
  refine ⟨v, ?_, h⟩
  simp only [(qjk hti).1]
  rw [if_pos h2]
  unfold qbT
  rw [hti]
  exact h3
 ·rename_i ht
  rw [ht]
  obtain ⟨s, rfl, h⟩ := xC h
  obtain ⟨h2, h⟩ := qa h
  rw [qz] at h2
  obtain ⟨b, h3, h⟩ := qd h
  exact ⟨_, by simp [h2, h3], h⟩
 ·cases h
theorem qgu {cfg : Cfg} {t : TypeId} {x : AV} {f : Nat} {k : KV α} (h : qfy cfg t x f k = some r) : ∃ v, qas cfg t x f = some v ∧ k v = some r := by
 unfold qfy at h
 unfold qas
 split at h
 case h_2 => cases h
 rename_i fs ht
 rw [ht]
 split at h
 case h_2 => cases h
 rename_i off ft hf
 split at h
 case h_2 => cases h
 rename_i ti hti
 obtain ⟨cs, rfl, h⟩ := zQ h
 obtain ⟨v, h3, h⟩ := vJ h
 refine ⟨v, ?_, h⟩
 simp only [hf]
 unfold qbT
 rw [hti]
 exact h3
theorem qdn {cfg : Cfg} {t : TypeId} {x : AV} {f : Nat} {k : KV α} (h : qaJ cfg t x f k = some r) : ∃ v, xN cfg t x f = some v ∧ k v = some r := by
 unfold qaJ at h
 unfold xN
 split at h
 case h_2 => cases h
 rename_i fs ht
 rw [ht]
 simp only
 split at h
 case h_2 => cases h
 rename_i off ft hf
 simp only [hf]
 split at h
 case h_2 => cases h
 rename_i n hn
 split at h
 ·exact ⟨_, by simp only [hn], h⟩
 ·exact ⟨_, by simp only [hn], h⟩
 ·exact ⟨_, by simp only [hn], h⟩
 ·cases h
variable {α : Type} {r : α} {H : AH}
theorem qfs {n : Nat} {x : AV} {k : List (List AV) → Option α} (h : qd5 H n x k = some r) : ∃ rows, vn H n x = some rows ∧ k rows = some r := by
 unfold qd5 at h
 unfold vn
 split at h
 ·exact ⟨_, rfl, h⟩
 ·exact ⟨_, rfl, h⟩
 ·obtain ⟨h1, hz⟩ := qa h
  exact ⟨_, by simp only [h1, if_true], hz⟩
 ·obtain ⟨sz, rs, h1, h⟩ := yf h
  obtain ⟨h2, hz⟩ := qa h
  rw [qks] at h2
  refine ⟨_, ?_, hz⟩
  simp only [h1]
  rw [if_pos]
  rw [qks, beq_iff_eq]
  exact ⟨qkt h2.1, h2.2⟩
 ·cases h
theorem qeq {b : Bool} {n : Nat} {x : AV} {k : List (List AV) → Option α} (h : kSrc b H n x k = some r) : ∃ rows, vh H n x = some rows ∧ k rows = some r := by
 unfold kSrc at h
 rcases vj h with ⟨_, h⟩ | ⟨_, h⟩
 ·obtain ⟨s, rfl, h⟩ := xC h
  obtain ⟨h1, hz⟩ := qa h
  exact ⟨_, by simp only [vh, h1, if_true], hz⟩
 ·obtain ⟨rows, h1, hz⟩ := qfs h
  refine ⟨rows, ?_, hz⟩
  unfold vh
  split
  ·simp [vn] at h1
  ·exact h1
theorem qeC {cfg : Cfg} {nid : Option Nat} {s d : TypeId} {x : AV} {k : KH α} (h : qco cfg nid s d x H k = some r) : ∃ v H', vT cfg nid s d x H = some (v, H') ∧ k v H' = some r := by
 unfold qco at h
 unfold vT
 split at h
 ·rename_i hs hd
  split at h
  ·exact ⟨_, _, by simp only [hs, hd], h⟩
  ·cases h
 ·rename_i hs hd
  obtain ⟨b, rfl, hz⟩ := xC h
  exact ⟨_, _, by simp only [hs, hd], hz⟩
 ·rename_i e hs hd
  split at h
  ·rename_i hte
   obtain ⟨b, rfl, h0⟩ := xC h
   obtain ⟨i, H', h1, hz⟩ := vw h0
   exact ⟨_, _, by simp only [hs, hd, hte, h1], hz⟩
  ·cases h
 ·rename_i e hs hd
  split at h
  ·rename_i hte
   obtain ⟨rows, h1, h⟩ := qd h
   obtain ⟨bs, h2, hz⟩ := qd h
   refine ⟨.str bs, H, ?_, hz⟩
   simp only [hs, hd]
   cases x <;> first | (simp only [hte, h1, h2]; done) | (simp [vn] at h1)
  ·cases h
 ·cases h
theorem qfA {cfg : Cfg} {nid : Option Nat} {t xt : TypeId} {s x : AV} {k : KH α} (h : qd7 cfg nid t xt s x H k = some r) : ∃ v H', yi cfg nid t xt s x H = some (v, H') ∧ k v H' = some r := by
 unfold qd7 at h
 unfold yi
 split at h
 case h_2 => cases h
 rename_i e xd ht hxt
 split at h
 case h_2 => cases h
 rename_i ei hei
 obtain ⟨h1, h⟩ := qa h
 obtain ⟨news, h2, h⟩ := qeq h
 simp only [ht, hxt, hei, h1, if_true, h2]
 split at h
 ·rcases vj h with ⟨h3, hz⟩ | ⟨h3, h⟩
  ·exact ⟨_, _, by simp only [h3, if_true], hz⟩
  ·obtain ⟨h4, h⟩ := qa h
   obtain ⟨i, H', h5, hz⟩ := vw h
   exact ⟨_, _, by simp only [h3, qkz, if_false, h4, if_true, h5], hz⟩
 ·obtain ⟨d, sz, rs, h3, h⟩ := yv h
  obtain ⟨h4, h⟩ := qa h
  obtain ⟨i, H', h5, hz⟩ := vw h
  exact ⟨_, _, by simp only [h3, h4, if_true, h5], hz⟩
 ·cases h
theorem qiq {cfg : Cfg} {t : TypeId} {x : AV} {k : KV α} (h : kLen cfg t x H k = some r) : ∃ v, aLen cfg t x H = some v ∧ k v = some r := by
 unfold kLen at h
 unfold aLen
 split at h
 ·rename_i ht
  obtain ⟨s, rfl, hz⟩ := xC h
  exact ⟨_, by simp only [ht], hz⟩
 ·rename_i e ht
  split at h
  ·exact ⟨_, by simp only [ht], h⟩
  ·exact ⟨_, by simp only [ht], h⟩
  ·exact ⟨_, by simp only [ht], h⟩
  ·exact ⟨_, by simp only [ht], h⟩
  ·exact ⟨_, by simp only [ht], h⟩
  ·exact ⟨_, by simp only [ht], h⟩
  ·cases h
 ·rename_i n e ht
  exact ⟨_, by simp only [ht], h⟩
 ·rename_i a b ht
  split at h
  ·exact ⟨_, by simp only [ht], h⟩
  ·obtain ⟨b, h1, h⟩ := qd h
   split at h
   ·exact ⟨_, by simp only [ht, h1], h⟩
   ·cases h
  ·cases h
 ·cases h
theorem qdh {cfg : Cfg} {nid : Option Nat} {t : TypeId} {l c : AV} {k : KH α} (h : qeQ cfg nid t l c H k = some r) : ∃ v H', yR cfg nid t l c H = some (v, H') ∧ k v H' = some r := by
 unfold qeQ at h
 unfold yR
 split at h
 case h_2 => cases h
 rename_i e ht
 split at h
 case h_2 => cases h
 rename_i ei hei
 obtain ⟨h1, h⟩ := qa h
 obtain ⟨n, rfl, ha⟩ := yX h
 obtain ⟨m, rfl, hb⟩ := yX ha
 obtain ⟨h2, hd⟩ := qa hb
 obtain ⟨i, H', h3, hz⟩ := vw hd
 rw [qks, qks, qks, qz, qz, qz, qz] at h2
 exact ⟨_, _, by simp only [ht, hei, h1, if_true]; rw [if_pos ⟨h2.1.1.1, h2.1.1.2, h2.1.2, h2.2⟩]; simp only [h3], hz⟩
theorem qgs {cfg : Cfg} {nid : Option Nat} {t : TypeId} {l c : AV} {k : KH α} (h : qfv cfg nid t l c H k = some r) : ∃ v H', xV cfg nid t l c H = some (v, H') ∧ k v H' = some r := by
 unfold qfv at h
 unfold xV
 split at h
 ·rename_i hw
  rw [hw]
  exact qdh h
 ·rename_i hw
  rw [hw]
  split at h
  ·obtain ⟨h1, h⟩ := qa h
   obtain ⟨v, H', h2, h⟩ := qdh h
   split at h
   ·refine ⟨_, _, ?_, h⟩
    simp only
    rw [if_pos h1, h2]; rfl
   ·cases h
  ·cases h
theorem qis {cfg : Cfg} {t : TypeId} {x : AV} {k : KV α} (h : kCap cfg t x k = some r) : ∃ v, aCap cfg t x = some v ∧ k v = some r := by
 unfold kCap at h
 unfold aCap
 split at h
 ·rename_i e ht
  split at h
  ·split at h
   ·exact ⟨_, by simp only [ht, AV.lenW, qkD], h⟩
   ·exact ⟨_, by simp only [ht, AV.lenW, qkD], h⟩
   ·cases h
  ·cases h
 ·cases h
theorem qi4 {v : AV} {k : Nat → List (List AV) → Option α} (h : kWr v k = some r) : ∃ n rows, v = .wr n (.sl rows) ∧ k n rows = some r := by
 unfold kWr at h
 split at h
 ·exact ⟨_, _, rfl, h⟩
 ·cases h
theorem qd6 {v : AV} {k : KV α} {cfg : Cfg} {nid : Option Nat} {a : Operand} {ty : TypeId} {x : Operand → AV} (hx : x a = v) (h : qbk v k = some r) : evOp cfg nid (.nilCheck a) ty x H = some (v, H) ∧ k v = some r := by
 unfold qbk at h
 simp only [evOp, hx]
 split at h <;> first | exact ⟨rfl, h⟩ | cases h
theorem qgw {cfg : Cfg} {t : TypeId} {x : AV} {k : AH → Option α} (h : qfz cfg t x H k = some r) : ∃ H', qat cfg t x H = some H' ∧ k H' = some r := by
 unfold qfz at h
 unfold qat
 split at h
 case h_2 => cases h
 rename_i e he
 rw [he]
 split at h
 ·exact ⟨H, rfl, h⟩
 ·rename_i id off len
  split at h
  case h_2 => cases h
  rename_i ei hei
  obtain ⟨d, sz, rs, h1, h⟩ := yv h
  obtain ⟨h2, hz⟩ := qa h
  exact ⟨_, by simp only [hei, h1, h2, if_true], hz⟩
 ·cases h
theorem qhu {cfg : Cfg} {t xt : TypeId} {d s : AV} {k : KH α} (h : qhv cfg t xt d s H k = some r) : ∃ v H', qbU cfg t d s H = some (v, H') ∧ k v H' = some r := by
 unfold qhv at h
 unfold qbU
 split at h
 case h_2 => cases h
 rename_i e he
 rw [he]
 split at h
 case h_2 => cases h
 rename_i id off len
 split at h
 case h_2 => cases h
 rename_i n hn
 obtain ⟨db, sz, rs, h1, h⟩ := yv h
 obtain ⟨news, h2, h⟩ := qeq h
 obtain ⟨h3, hz⟩ := qa h
 exact ⟨_, _, by simp only [hn, h1, h2, h3, if_true], hz⟩
theorem qfu {cfg : Cfg} {nid : Option Nat} {o : Op} {ty : TypeId} {x : Operand → AV} {k : KH α} (h : kOp cfg nid o ty x H k = some r) : ∃ v H', evOp cfg nid o ty x H = some (v, H') ∧ k v H' = some r := by
 cases o with
 | move a => exact ⟨_, _, rfl, h⟩
 | assign a => exact ⟨_, _, rfl, h⟩
 | pick c a b =>
  simp only [kOp] at h
  obtain ⟨t, h1, h⟩ := zi h
  have := qhp (k := fun v => k v H) h
  exact ⟨_, _, by simp only [evOp, h1], this⟩
 | alloc t =>
  simp only [kOp] at h
  split at h
  ·rename_i ti hti
   obtain ⟨h1, h⟩ := qa h
   obtain ⟨i, H', h2, hz⟩ := vw h
   exact ⟨_, _, by simp only [evOp, hti, h1, if_true, h2], hz⟩
  ·cases h
 | box t a =>
  simp only [kOp] at h
  obtain ⟨cs, h1, h⟩ := x7 h
  obtain ⟨i, H', h2, hz⟩ := vw h
  exact ⟨_, _, by simp only [evOp, h1, h2], hz⟩
 | build t parts =>
  simp only [kOp] at h
  split at h
  case h_2 => cases h
  rename_i ti hti
  obtain ⟨h1, h⟩ := qa h
  split at h
  ·rename_i fs hfs
   split at h
   case h_2 => cases h
   rename_i ps hps
   obtain ⟨qs, h2, h3⟩ := qc3 hps
   obtain ⟨cs, h4, hz⟩ := qaI (place' := fun i => qs[i]?) (fun i off n g hi => h3 i off n g hi) h
   exact ⟨_, _, by simp only [evOp, hti, h1, if_true, hfs, h2, h4, qkD], hz⟩
  ·rename_i m e hfs
   split at h
   case h_2 => cases h
   rename_i n hn
   obtain ⟨cs, h4, hz⟩ := qaI (place' := fun i => some (i * n, n)) (fun i off m g hi => by cases hi; rfl) h
   exact ⟨_, _, by simp only [evOp, hti, h1, if_true, hfs, hn, h4, qkD], hz⟩
  ·cases h
 | buildSlice t len parts =>
  simp only [kOp] at h
  split at h
  case h_2 => cases h
  rename_i e ht
  split at h
  case h_2 => cases h
  rename_i ei hei
  obtain ⟨h1, h⟩ := qa h
  obtain ⟨rows, h2, h⟩ := qdf h
  obtain ⟨i, H', h3, hz⟩ := vw h
  exact ⟨_, _, by simp only [evOp, ht, hei, h1, if_true, h2, h3], hz⟩
 | load t a =>
  simp only [kOp] at h
  split at h
  case h_2 => cases h
  rename_i ti hti
  split at h
  ·rename_i cs off hx
   obtain ⟨v, h1, h⟩ := vJ h
   have h2 := qr (k := fun v => cond ti.d.agg (k v.lendA H) (k v.lend H)) h
   rcases vj h2 with ⟨ha, h2⟩ | ⟨ha, h2⟩
   ·rw [ha] at h1
    simp only [if_true] at h1
    split at h1
    ·rename_i hb
     cases h1
     refine ⟨_, _, ?_, h2⟩
     simp only [evOp, hti, hx, xh, ha, if_true, hb, qkD, AV.lendA]
    ·cases h1
   ·rw [ha] at h1
    simp only [qkz, if_false] at h1
    refine ⟨_, _, ?_, h2⟩
    simp only [evOp, hti, hx, xh, ha, qkz, if_false, h1, qkD]
  ·rename_i id cs off hx
   obtain ⟨b, hb0, h⟩ := qd h
   split at h
   ·obtain ⟨v, h1, h⟩ := vJ h
    have h2 := qr (k := fun v => cond ti.d.agg (k (v.regA id) H) (k (v.regn id) H)) h
    rcases vj h2 with ⟨ha, h2⟩ | ⟨ha, h2⟩
    ·rw [ha] at h1
     simp only [if_true] at h1
     split at h1
     ·rename_i hb
      cases h1
      refine ⟨_, _, ?_, h2⟩
      simp only [evOp, hti, hx, xh, hb0, ha, if_true, hb, qkD, AV.regA]
     ·cases h1
    ·rw [ha] at h1
     simp only [qkz, if_false] at h1
     refine ⟨_, _, ?_, h2⟩
     simp only [evOp, hti, hx, xh, hb0, ha, qkz, if_false, h1, qkD]
   ·obtain ⟨v, h1, h⟩ := qaF h
    exact ⟨_, _, by simp only [evOp, hti, hx, h1, qkD], h⟩
  ·obtain ⟨v, h1, h⟩ := qaF h
   exact ⟨_, _, by simp only [evOp, hti, h1, qkD], qr (k := fun v => k v H) h⟩
 | store t a v =>
  simp only [kOp] at h
  split at h
  case h_2 => cases h
  rename_i ti hti
  obtain ⟨H', h1, hz⟩ := qgq h
  exact ⟨_, _, by simp only [evOp, (qjk hti).1, h1, qkD], hz⟩
 | nilCheck a =>
  obtain ⟨h1, h2⟩ := qd6 (cfg := cfg) (nid := nid) (ty := ty) (H := H) (x := x) (a := a) (k := fun v => k v H) rfl h
  exact ⟨_, _, h1, h2⟩
 | binOp op t a b yt =>
  simp only [kOp] at h
  obtain ⟨v, h1, h⟩ := qd h
  exact ⟨_, _, by simp only [evOp, h1, qkD], qr (k := fun v => k v H) h⟩
 | unOp op t a =>
  simp only [kOp] at h
  obtain ⟨v, h1, h⟩ := qd h
  exact ⟨_, _, by simp only [evOp, h1, qkD], qr (k := fun v => k v H) h⟩
 | convert s d a => exact qeC h
 | makeFunc f first caps => exact ⟨_, _, rfl, h⟩
 | makeSlice t l c => exact qgs h
 | slice t a lo hi mx =>
  simp only [kOp] at h
  obtain ⟨v, h1, hz⟩ := qgr h
  exact ⟨_, _, by simp only [evOp, h1, qkD], hz⟩
 | fieldAddr t a f =>
  simp only [kOp] at h
  obtain ⟨v, h1, hz⟩ := qdn h
  exact ⟨_, _, by simp only [evOp, h1, qkD], hz⟩
 | field t a f =>
  simp only [kOp] at h
  obtain ⟨v, h1, h⟩ := qgu h
  exact ⟨_, _, by simp only [evOp, h1, qkD], qr (k := fun v => k v H) h⟩
 | indexAddr t a i =>
  simp only [kOp] at h
  obtain ⟨v, h1, hz⟩ := qdj h
  exact ⟨_, _, by simp only [evOp, h1, qkD], hz⟩
 | index t a i =>
  simp only [kOp] at h
  obtain ⟨v, h1, h⟩ := qgt h
  exact ⟨_, _, by simp only [evOp, h1, qkD], qr (k := fun v => k v H) h⟩
 | extract t i =>
  simp only [kOp] at h
  split at h
  ·rename_i vs hvs
   obtain ⟨v, h1, h⟩ := qd h
   exact ⟨_, _, by simp only [evOp, hvs, h1, qkD], qr (k := fun v => k v H) h⟩
  ·cases h
 | call c =>
  simp only [kOp] at h
  obtain ⟨callee, args, argTypes⟩ := c
  simp only at h
  simp only [evOp]
  split at h
  case h_2 => cases h
  generalize args.toList = al at *
  generalize argTypes.toList = tl at *
  split at h
  ·obtain ⟨v, h1, hz⟩ := qiq h
   exact ⟨_, _, by simp only [h1, qkD], hz⟩
  ·obtain ⟨v, h1, hz⟩ := qis h
   exact ⟨_, _, by simp only [h1, qkD], hz⟩
  ·exact qfA h
  ·rename_i d s t xt
   obtain ⟨v, H', h1, hz⟩ := qhu h
   exact ⟨_, _, h1, hz⟩
  ·obtain ⟨v, h1, hz⟩ := qgw h
   exact ⟨_, _, by simp only [h1, qkD], hz⟩
  ·obtain ⟨v, h1, h⟩ := qd h
   exact ⟨_, _, by simp only [h1, qkD], qr (k := fun v => k v H) h⟩
  ·obtain ⟨v, h1, h⟩ := qd h
   exact ⟨_, _, by simp only [h1, qkD], qr (k := fun v => k v H) h⟩
  ·cases h
 | _ => simp only [kOp] at h; cases h
def KfOk (cf : Orac) (kf : KF α) : Prop := ∀ t a H k r, kf t a H k = some r → ∃ q, cf t a H = some q ∧ k q = some r
theorem qaM {cf : Orac} {f : Nat} : ∀ {l : List AV} {k : Option α}, qds cf f l k = some r → xp cf f l = some () ∧ k = some r
 | [], _, h => ⟨rfl, h⟩
 | a :: l, k, h => by
  rw [qds] at h
  obtain ⟨u, h1, h⟩ := qd h
  obtain ⟨h2, hz⟩ := qaM h
  refine ⟨?_, hz⟩
  unfold EVz at h1
  obtain ⟨q, h3, h4⟩ := qkq.1 h1
  rw [xp, h3]
  simp only [qkA, h4, h2]
theorem qhx {cfg : Cfg} {cf : Orac} {kf : KF α} (hkf : KfOk cf kf) {nid : Option Nat} {ty : TypeId} {t : Tgt} {args : List AV} {k : KH α} (h : qbP cfg cf kf nid ty t args H k = some r) : ∃ v H', qo cfg cf nid t args H = some (v, H') ∧ k v H' = some r := by
 cases t with
 | y id =>
  simp only [qbP] at h
  obtain ⟨q, h1, h⟩ := hkf _ _ _ _ _ h
  obtain ⟨p, h2, h⟩ := qd h
  exact ⟨_, _, by simp only [qo, h1, qkA]; exact h2, qr (k := fun v => k v p.2) h⟩
 | f f =>
  simp only [qbP] at h
  cases hm : cfg.mode f with
  | scal =>
   simp only [hm] at h
   obtain ⟨h1, h⟩ := qa (qdr h)
   split at h
   ·obtain ⟨q, h5, h⟩ := hkf _ _ _ _ _ h
    have h3 := qr (k := fun v => cond v.scalar (k v H) none) h
    obtain ⟨h4, hz⟩ := qa h3
    exact ⟨q.1, H, by simp only [qo, hm, h1, if_true, h5, qkA, h4], hz⟩
   obtain ⟨v, h2, h⟩ := qd h
   have h3 := qr (k := fun v => cond v.scalar (k v H) none) h
   obtain ⟨h4, hz⟩ := qa h3
   unfold EVs at h2
   obtain ⟨q, h5, h6⟩ := qkr.1 h2
   exact ⟨v, H, by simp only [qo, hm, h1, if_true, h5, qkA, h6, h4], hz⟩
  | pfrz =>
   simp only [hm] at h
   obtain ⟨h1, h⟩ := qa h
   split at h
   ·obtain ⟨q, h5, h⟩ := hkf _ _ _ _ _ h
    have h2 := qbm (k := fun v => kTy zR cfg ty v fun v => cond (v.refsLt 0) (k v H) none) h
    have h3 := qr (k := fun v => cond (v.refsLt 0) (k v H) none) h2
    obtain ⟨h4, hz⟩ := qa h3
    exact ⟨_, H, by simp only [qo, hm, h1, if_true, h5, qkA, h4], hz⟩
   obtain ⟨v, h2, h⟩ := qd h
   have h3 := qr (k := fun v => cond (v.refsLt 0) (k v H) none) h
   obtain ⟨h4, hz⟩ := qa h3
   unfold EVf at h2
   obtain ⟨q, h5, h6⟩ := qkr.1 h2
   exact ⟨v, H, by simp only [qo, hm, h1, if_true, h5, qkA, h6, h4], hz⟩
  | pown =>
   simp only [hm] at h
   split at h
   ·rename_i t1 t2 _
    obtain ⟨h1, h⟩ := qa h
    obtain ⟨q, h2, h⟩ := qd h
    obtain ⟨p, h5, h6⟩ := qkq.1 h2
    unfold qjl at h6
    split at h6
    case h_2 => cases h6
    rename_i a sc hp
    obtain ⟨h7, h6⟩ := qa h6
    split at h6
    case h_2 => cases h6
    rename_i o ho
    cases h6
    have h := qbh (k := fun s => kOwn o (k (.tup [.nilS, s]) H) fun sz rs off len => kNew nid H (.rows true sz rs) fun i H' => k (.tup [.ms i off len, s]) H') h
    unfold ovOf at ho
    split at ho
    ·rename_i hq
     cases ho
     refine ⟨.tup [.nilS, sc], H, ?_, h⟩
     have hq : a = .nilS := hq
     simp only [qo, hm, h1, if_true, h5, qkA, zv, hp, h7, hq, v7, AV.refsLt, qkD]
    ·rename_i id off len hq
     split at ho
     case h_2 => cases ho
     rename_i sz rs hid
     split at ho
     case isFalse => cases ho
     rename_i hr
     cases ho
     simp only [kOwn] at h
     obtain ⟨i, H', h8, hz⟩ := vw h
     have hq : a = .ms id off len := hq
     refine ⟨_, _, ?_, hz⟩
     simp only [qo, hm, h1, if_true, h5, qkA, zv, hp, h7, hq, v7, hid, hr, h8, qkD]
    ·cases ho
   ·obtain ⟨h1, h⟩ := qa h
    have key : ∃ q o, cf (.f f) args [] = some q ∧ ovOf q = some o ∧ (kOwn o (k .nilS H) fun sz rs off len => kNew nid H (.rows true sz rs) fun i H' => k (.ms i off len) H') = some r := by
     split at h
     ·obtain ⟨q, h5, h⟩ := hkf _ _ _ _ _ h
      obtain ⟨o, h6, h⟩ := qd h
      exact ⟨q, o, h5, h6, h⟩
     ·obtain ⟨o, h2, h⟩ := qd h
      unfold EVo at h2
      obtain ⟨q, h5, h6⟩ := qkq.1 h2
      exact ⟨q, o, h5, h6, h⟩
    obtain ⟨q, o, h5, h6, h⟩ := key
    unfold ovOf at h6
    split at h6
    ·rename_i hq
     cases h6
     exact ⟨.nilS, H, by simp only [qo, hm, h1, if_true, h5, qkA, zv, v7, hq, AV.refsLt], h⟩
    ·rename_i id off len hq
     split at h6
     case h_2 => cases h6
     rename_i sz rs hid
     split at h6
     case isFalse => cases h6
     rename_i hr
     cases h6
     simp only [kOwn] at h
     obtain ⟨i, H', h7, hz⟩ := vw h
     exact ⟨_, _, by simp only [qo, hm, h1, if_true, h5, qkA, zv, v7, hq, hid, hr, h7], hz⟩
    ·cases h6
  | inpl =>
   simp only [hm] at h
   have res : ∀ (kd : Nat) (ik : IntKind) (id : Nat) (v : MV) (k : KV α), qeR kd ik id v k = some r → k (v.av id) = some r := by
    intro kd ik id v k h
    unfold qeR at h
    split at h
    ·cases v <;> first | exact h | exact absurd h (by simp [qak])
    ·cases v <;> first | exact h | exact absurd h (by simp [kMSl])
    ·cases v with
     | int q n =>
      obtain ⟨h1, h2⟩ := qa h
      rw [← qbf h1] at h2
      exact h2
     | _ => exact absurd h (by simp [qeS])
    ·cases v <;> first | exact h | exact absurd h (by simp [qfw])
   split at h
   case h_2 =>
    rename_i hids
    obtain ⟨h1, h⟩ := qa h
    obtain ⟨v1, h2, h⟩ := qd h
    unfold EVu at h2
    obtain ⟨r1, h5, h6⟩ := qkq.1 h2
    split at h6
    case isFalse => cases h6
    rename_i hrf
    have hav : r1.1 = v1.av 0 := by
     unfold mvOf at h6
     split at h6
     ·rename_i e; cases h6; rw [e]; rfl
     ·rename_i e; cases h6; rw [e]; rfl
     ·rename_i i off len e
      rw [e] at hrf
      simp [AV.refsLt, qkI] at hrf
     ·rename_i e; cases h6; rw [e]; rfl
     ·rename_i e; cases h6; rw [e]; rfl
     ·cases h6
    refine ⟨v1.av 0, H, ?_, res _ _ _ _ (fun v => k v H) h⟩
    simp only [qo, hm, hids, h1, if_true, h5, qkA, hrf]
    rw [hav]
   rename_i id l hids
   obtain ⟨h1, h⟩ := qa h
   obtain ⟨b, h2, h⟩ := qd h
   split at h
   case h_2 => cases h
   rename_i d sz rs
   obtain ⟨h3, h⟩ := qa h
   obtain ⟨q, h4, h⟩ := qd h
   unfold EVm at h4
   obtain ⟨r1, h5, h6⟩ := qkq.1 h4
   obtain ⟨q1, h7, h8⟩ := qkq.1 h6
   obtain ⟨v1, h9, h10⟩ := qkr.1 h8
   cases h10
   have hav : q1.1.ren (fun _ => id) = v1.av id := by
    unfold mvOf at h9
    split at h9
    ·rename_i e; cases h9; rw [e]; simp [AV.ren, renL, MV.av]
    ·rename_i e; cases h9; rw [e]; simp [AV.ren, MV.av]
    ·rename_i i off len e
     split at h9
     ·cases h9; rw [e]; simp [AV.ren, MV.av]
     ·cases h9
    ·rename_i e; cases h9; rw [e]; simp [AV.ren, MV.av]
    ·rename_i e; cases h9; rw [e]; simp [AV.ren, MV.av]
    ·cases h9
   have hk : k (v1.av id) (H.set id (.rows true sz q1.2)) = some r := res _ _ _ _ (fun v => k v (H.set id (.rows true sz q1.2))) h
   refine ⟨v1.av id, _, ?_, hk⟩
   simp only [qo, hm, hids, h1, if_true, h2, h3, h5, qkA, h7, qkD, hav]
  | inpf =>
   simp only [hm] at h
   split at h
   case h_2 => cases h
   rename_i id l hids
   obtain ⟨h1, h⟩ := qa h
   obtain ⟨b, h2, h⟩ := qd h
   split at h
   case h_2 => cases h
   rename_i d sz rs
   obtain ⟨h3, h⟩ := qa h
   obtain ⟨q, h4, h⟩ := qd h
   unfold EVd at h4
   obtain ⟨r1, h5, h6⟩ := qkq.1 h4
   have hk := qr (k := fun v => k v (H.set id (.rows true sz q.2))) h
   refine ⟨q.1, _, ?_, hk⟩
   simp only [qo, hm, hids, h1, if_true, h2, h3, h5, qkA, h6, qkD]
  | slf =>
   simp only [hm] at h
   split at h
   case h_2 => cases h
   rename_i id l hids
   obtain ⟨h1, h⟩ := qa h
   obtain ⟨b, h2, h⟩ := qd h
   split at h
   case h_2 => cases h
   rename_i d sz rs
   obtain ⟨h3, h⟩ := qa h
   obtain ⟨q, h4, h⟩ := qd h
   have h4 := qjh h4
   unfold EVx at h4
   obtain ⟨r1, h5, h6⟩ := qkq.1 h4
   have hk := qr (k := fun v => k v (H.set id (.rows false sz (renR (fun _ => id) (renR (fun _ => 0) rs))))) h
   refine ⟨q, _, ?_, hk⟩
   simp only [qo, hm, hids, h1, if_true, h2, h3, h5, qkA, h6, qkD]
  | wfrz =>
   simp only [hm] at h
   obtain ⟨h1, h⟩ := qa h
   obtain ⟨v, h2, h⟩ := qd h
   unfold EVw at h2
   obtain ⟨q, h5, h6⟩ := qkr.1 h2
   split at h
   ·obtain ⟨n, rows, rfl, hz⟩ := qi4 h
    exact ⟨_, H, by simp only [qo, hm, h1, if_true, h5, qkA, h6]; rfl, hz⟩
   ·have h3 := qr (k := fun v => cond (v.refsLt 0) (k v H) none) h
    obtain ⟨h4, hz⟩ := qa h3
    exact ⟨v, H, by simp only [qo, hm, h1, if_true, h5, qkA, h6, h4], hz⟩
  | nfrz =>
   simp only [hm] at h
   obtain ⟨h1, h⟩ := qa h
   obtain ⟨V, h2, h⟩ := qd h
   have h3 := qr (k := fun V => k V.lendT H) h
   unfold EVn at h2
   obtain ⟨q, h5, h6⟩ := qkq.1 h2
   exact ⟨_, _, by simp only [qo, hm, h1, if_true, h5, qkA, h6, qkD], h3⟩
  | rgn =>
   simp only [hm] at h
   obtain ⟨h1, h⟩ := qa h
   obtain ⟨V, h2, h⟩ := qd h
   have h3 := qr (k := fun V => kNew nid H .reg fun i H' => k (rgIn i V) H') h
   obtain ⟨i, H', h4, hz⟩ := vw h3
   unfold EVg at h2
   obtain ⟨q, h5, h6⟩ := qkq.1 h2
   exact ⟨_, _, by simp only [qo, hm, h1, if_true, h5, qkA, h6, h4, qkD], hz⟩
  | bld =>
   simp only [hm] at h
   split at h
   case h_2 => cases h
   rename_i id l hids
   obtain ⟨h1, h⟩ := qa h
   obtain ⟨b, h2, h⟩ := qd h
   split at h
   case h_2 => cases h
   rename_i T e s
   obtain ⟨q, h4, h⟩ := qd h
   unfold EVb at h4
   obtain ⟨r1, h5, h6⟩ := qkq.1 h4
   have hk := qr (k := fun v => k v (H.set id (.bld T e q.2))) h
   refine ⟨_, _, ?_, hk⟩
   simp only [qo, hm, hids, h1, if_true, h2, h5, qkA, h6, qkD]
  | over =>
   simp only [hm] at h
   split at h
   case h_2 => cases h
   rename_i a
   split at h
   case h_2 => cases h
   rename_i id l hids
   obtain ⟨h1, h⟩ := qa h
   obtain ⟨b, h2, h⟩ := qd h
   split at h
   ·obtain ⟨h3, hz⟩ := qaM h
    exact ⟨_, _, by simp only [qo, hm, hids, h1, if_true, h2, h3, qkD], hz⟩
   ·obtain ⟨h3, hz⟩ := qaM h
    exact ⟨_, _, by simp only [qo, hm, hids, h1, if_true, h2, h3, qkD], hz⟩
   ·cases h
  | imp =>
   simp only [hm] at h
   obtain ⟨q, h1, h⟩ := hkf _ _ _ _ _ h
   obtain ⟨p, h2, h⟩ := qd h
   exact ⟨_, _, by simp only [qo, hm, h1, qkA]; exact h2, qr (k := fun v => k v p.2) h⟩
  | sub =>
   simp only [hm] at h
   obtain ⟨s, h0, h⟩ := qd h
   obtain ⟨q, h1, h⟩ := hkf _ _ _ _ _ h
   obtain ⟨p, h2, h⟩ := qd h
   obtain ⟨p2, h3, h⟩ := qd h
   exact ⟨_, _, by simp only [qo, hm, h0, h1, h2, h3, qkA, qkD], qr (k := fun v => k v (xi p2.2 (s.1 ++ p2.1) p.2)) h⟩
  | ifrz =>
   simp only [hm] at h
   obtain ⟨q, h1, h⟩ := hkf _ _ _ _ _ h
   obtain ⟨p, h2, h⟩ := qd h
   exact ⟨_, _, by simp only [qo, hm, h1, qkA]; exact h2, qr (k := fun v => k v p.2) h⟩
theorem qio {f : AV} {args : List AV} {k : Tgt → List AV → Option α} (h : kTgt f args k = some r) : ∃ t, vU f args = some t ∧ k t.1 t.2 = some r := by
 unfold kTgt at h
 unfold vU
 split at h
 ·exact ⟨_, rfl, h⟩
 ·exact ⟨_, rfl, h⟩
 ·cases h
theorem qir {ids : List Nat} {v : AV} {k : KV α} (hi : ∀ id ∈ v.msIds, id ∈ ids) (h : qhr H v k = some r) : k (v.frz ids H) = some r := by
 unfold qhr at h
 split at h
 ·rename_i cs
  have := yY (ids := ids) (fun v hv id off len e => hi id (zL hv e)) h
  simpa [AV.frz, Function.comp_def] using this
 ·rename_i cs
  have := yY (k := fun cs => k (.tup cs)) (ids := ids) (fun v hv id off len e => hi id (zL hv e)) h
  simpa [AV.frz, Function.comp_def] using this
 ·rename_i h1 h2
  have h4 := (yq h).1 ids (fun id off len e => hi id (by subst e; simp [AV.msIds, AV.msId])) rfl
  have e1 : v.frz ids H = v.frz1 ids H := by
   cases v <;> first | rfl | exact absurd rfl (h1 _) | exact absurd rfl (h2 _)
  rw [e1]; exact h4
theorem qaH {ids : List Nat} : ∀ {l : List AV} {k : List AV → Option α}, (∀ v ∈ l, ∀ id ∈ v.msIds, id ∈ ids) → qbl H l k = some r → k (l.map fun v => v.frz ids H) = some r
 | [], k, _, h => h
 | a :: l, k, hi, h => by
  rw [qbl] at h
  have h1 := qir (ids := ids) (hi a (by simp)) h
  exact qaH (k := fun l => k (a.frz ids H :: l)) (fun v hv => hi v (by simp [hv])) h1
theorem qjB {a b : Operand} (h : opEq a b = true) : a = b := by
 cases a <;> cases b <;> simp_all [opEq]
theorem qgT {y : Operand → AV} (a : Operand) : ∀ l : List Operand, frzX l (l.map y) y a = y a
 | [] => rfl
 | b :: l => by
  rw [List.map_cons, frzX]
  cases hb : opEq b a with
  | true => rw [cond_true, qjB hb]
  | false => rw [cond_false]; exact qgT a l
theorem qdk {cfg : Cfg} {nid : Option Nat} {o : Oper} {x : Operand → AV} {k : KH α} (h : qeT cfg nid o x H k = some r) :
  kOp cfg nid o.op o.type (fun a => (x a).frz (o.op.operands.toList.flatMap fun a => (x a).msIds) H) (qm (o.op.operands.toList.flatMap fun a => (x a).msIds) H) k = some r := by
 unfold qeT at h
 have h1 := qaH (ids := o.op.operands.toList.flatMap fun a => (x a).msIds) (fun v hv id hid => by
  obtain ⟨a, ha, rfl⟩ := List.mem_map.1 hv
  exact List.mem_flatMap.2 ⟨a, ha, hid⟩) h
 rw [List.map_map] at h1
 have e : frzX o.op.operands.toList (o.op.operands.toList.map ((fun v => v.frz (o.op.operands.toList.flatMap fun a => (x a).msIds) H) ∘ x)) (fun a => (x a).frz (o.op.operands.toList.flatMap fun a => (x a).msIds) H) = fun a => (x a).frz (o.op.operands.toList.flatMap fun a => (x a).msIds) H := funext fun a => qgT a _
 rw [e] at h1
 exact h1
theorem qdg {cfg : Cfg} {cf : Orac} {kf : KF α} (hkf : KfOk cf kf) {frz : Bool} {nid : Option Nat} {o : Oper} {x : Operand → AV} {k : KH α} (h : qeP cfg cf kf frz nid o x H k = some r) : ∃ v H', qv cfg cf frz nid o x H = some (v, H') ∧ k v H' = some r := by
 have core : ∀ {x : Operand → AV} {H : AH}, (match o.op with
   | .call c =>
    match c.callee with
    | .value f => kTgt (x f) (c.args.toList.map x) fun t al => qbP cfg cf kf nid o.type t al H k
    | _ => kOp cfg nid o.op o.type x H k
   | _ => kOp cfg nid o.op o.type x H k) = some r → ∃ v H', (match o.op with
    | .call c =>
     match c.callee with
     | .value f => (vU (x f) (c.args.toList.map x)).bind fun t => qo cfg cf nid t.1 t.2 H
     | _ => evOp cfg nid o.op o.type x H
    | _ => evOp cfg nid o.op o.type x H) = some (v, H') ∧ k v H' = some r := by
  intro x H h
  cases ho : o.op with
  | call c =>
   simp only [ho] at h ⊢
   cases hc : c.callee with
   | value f =>
    simp only [hc] at h ⊢
    obtain ⟨t, h1, h⟩ := qio h
    obtain ⟨v, H', h2, hz⟩ := qhx hkf h
    exact ⟨v, H', by rw [h1]; exact h2, hz⟩
   | _ => simp only [hc] at h ⊢; exact qfu h
  | _ => simp only [ho] at h ⊢; exact qfu h
 unfold qeP at h
 unfold qv
 cases frz with
 | true =>
  simp only [cond_true] at h
  simp only [if_true]
  refine core (x := fun a => (x a).frz (o.op.operands.toList.flatMap fun a => (x a).msIds) H) (H := qm (o.op.operands.toList.flatMap fun a => (x a).msIds) H) ?_
  cases ho : o.op with
  | call c =>
   simp only [ho] at h ⊢
   cases hc : c.callee with
   | value f =>
    simp only [hc] at h ⊢
    have h1 := qaH (ids := (Op.call c).operands.toList.flatMap fun a => (x a).msIds) (fun v hv id hid => by
     obtain ⟨a, ha, rfl⟩ := List.mem_map.1 hv
     refine List.mem_flatMap.2 ⟨a, ?_, hid⟩
     simp [Op.operands, Call.operands, hc, Array.mem_toList_iff.1 ha]) h
    rw [List.map_map] at h1
    exact h1
   | _ => simp only [hc] at h ⊢; have h := qdk h; rw [ho] at h; exact h
  | _ => simp only [ho] at h ⊢; have h := qdk h; rw [ho] at h; exact h
 | false => simp only [cond_false] at h; simp only [qkz, if_false]; exact core h
theorem qcj {fr : List AV} {d : Nat} {v : AV} (h : fr[d]? = some v) : fr.set d v = fr := by
 obtain ⟨hl, e⟩ := qkp.1 h
 rw [← e]; exact List.set_getElem_self hl
theorem qbg {ops : Array Oper} {fr : List AV} {o : Oper} {k : Bool → List AV → Option α} (h : qbO ops fr o k = some r) : ∃ b, vB ops fr o = some b ∧ k b fr = some r := by
 unfold qbO at h
 unfold vB
 split at h
 ·rename_i hg; rw [hg]; exact ⟨true, rfl, h⟩
 ·rename_i j want hg
  rw [hg]
  simp only
  split at h
  ·rename_i d hd
   rw [hd]
   simp only
   obtain ⟨v, h1, h⟩ := qd h
   rw [h1]
   split at h
   ·split at h
    ·exact ⟨false, rfl, h⟩
    ·cases h
   ·obtain ⟨b, rfl, h⟩ := zi h
    simp only
    refine ⟨_, rfl, ?_⟩
    rcases vj h with ⟨rfl, h⟩ | ⟨rfl, h⟩
    ·rw [qcj h1] at h
     cases want <;> exact h
    ·rw [qcj h1] at h
     cases want <;> exact h
  ·cases h
theorem qbi {cfg : Cfg} {cf : Orac} {kf : KF α} (hkf : KfOk cf kf) {f rid : Nat} {ops : Array Oper} : ∀ {l : List Oper} {n : Nat} {fr : List AV} {H : AH} {k : List AV → AH → Option α}, kOps cfg cf kf f rid ops n l fr H k = some r → ∃ q, x9 cfg cf f rid ops n l fr H = some q ∧ k q.1 q.2 = some r
 | [], n, fr, H, k, h => ⟨(fr, H), rfl, h⟩
 | o :: l, n, fr, H, k, h => by
  rw [kOps] at h
  obtain ⟨b, h1, h⟩ := qbg h
  rw [x9, h1]
  simp only [qkA]
  rcases vj h with ⟨rfl, h⟩ | ⟨rfl, h⟩
  ·obtain ⟨v, H', h2, h⟩ := qdg hkf h
   simp only [if_true, h2, qkA]
   exact qbi hkf h
  ·simp only [qkz, if_false]
   exact qbi hkf h
theorem qaK {cfg : Cfg} {cf : Orac} {kf : KF α} (hkf : KfOk cf kf) {f rid : Nat} {ops : Array Oper} : ∀ {l : List Oper} {n at_ : Nat} {fr : List AV} {H : AH} {k : List DR → List AV → AH → Option α}, qdo cfg cf kf f rid ops n at_ l fr H k = some r →
  ∃ q, vM cfg cf f rid ops n at_ l fr H = some q ∧ k q.1 q.2.1 q.2.2 = some r
 | [], n, at_, fr, H, k, h => ⟨([], fr, H), rfl, h⟩
 | o :: l, n, at_, fr, H, k, h => by
  rw [qdo] at h
  obtain ⟨b, h1, h⟩ := qbg h
  rw [vM, h1]
  simp only [qkA]
  rcases vj h with ⟨rfl, h9⟩ | ⟨rfl, h9⟩
  ·obtain ⟨v, H', h2, h8⟩ := qdg hkf h9
   simp only [if_true, h2, qkA]
   obtain ⟨q, h3, hz⟩ := qaK hkf h8
   exact ⟨_, by rw [h3]; rfl, hz⟩
  ·simp only [qkz, if_false]
   obtain ⟨q, h3, hz⟩ := qaK hkf h9
   exact ⟨_, by rw [h3]; rfl, hz⟩
theorem qdd {fr : List AV} {c : Operand} {b : Bool} (h : opd fr c = .bool b) : known fr c b = fr := by
 cases c with
 | tmp d =>
  simp only [known]
  have hg : fr[d]? = some (.bool b) := by
   have h' : fr.getD d .junk = .bool b := h
   rw [List.getD_eq_getElem?_getD] at h'
   cases hd : fr[d]? with
   | none => rw [hd] at h'; cases h'
   | some v => rw [hd] at h'; simp at h'; rw [h']
  exact qcj hg
 | _ => rfl
theorem zh {cfg : Cfg} {cf : Orac} {kf : KF α} (hkf : KfOk cf kf) {f : Nat} {rd : Option Nat} {bs : Nat} : ∀ (c : Code) {fr : List AV} {H : AH} {k : KE α}, qK cfg cf kf f rd bs c fr H k = some r → ∃ q, evC cfg cf f rd bs c fr H = some q ∧ k q.1 q.2.1 q.2.2 = some r := by
 intro c
 induction c with
 | skip => intro fr H k h; exact ⟨(.normal, fr, H), by simp only [evC], by simpa only [qK] using h⟩
 | label l => intro fr H k h; exact ⟨(.normal, fr, H), by simp only [evC], by simpa only [qK] using h⟩
 | exit id => intro fr H k h; exact ⟨(.exit id, fr, H), by simp only [evC], by simpa only [qK] using h⟩
 | ret => intro fr H k h; exact ⟨(.ret, fr, H), by simp only [evC], by simpa only [qK] using h⟩
 | goto l => intro fr H k h; simp only [qK] at h; cases h
 | refuse s => intro fr H k h; simp only [qK] at h; cases h
 | region id ops draw =>
  intro fr H k h
  simp only [qK] at h
  simp only [evC]
  cases draw with
  | true =>
   simp only [cond_true] at h
   simp only [if_true]
   obtain ⟨h1, h⟩ := qa h
   obtain ⟨q, h2, h⟩ := qaK hkf h
   obtain ⟨h3, hz⟩ := qa h
   exact ⟨(.normal, q.2), by simp only [h1, if_true, h2, qkA, h3], hz⟩
  | false =>
   simp only [cond_false] at h
   simp only [qkz, if_false]
   obtain ⟨q, h2, hz⟩ := qbi hkf h
   exact ⟨(.normal, q), by simp only [h2, qkD], hz⟩
 | seq x y ihx ihy =>
  intro fr H k h
  simp only [qK] at h
  simp only [evC]
  obtain ⟨q, h1, h⟩ := ihx h
  rw [h1]
  simp only [qkA]
  unfold kSeq at h
  cases hq : q.1 with
  | normal => simp only [hq] at h ⊢; exact ihy (qgv h)
  | exit id => simp only [hq] at h ⊢; exact ⟨_, rfl, h⟩
  | goto l => simp only [hq] at h ⊢; exact ⟨_, rfl, h⟩
  | ret => simp only [hq] at h ⊢; exact ⟨_, rfl, h⟩
 | cond cnd x y ihx ihy =>
  intro fr H k h
  simp only [qK] at h
  simp only [evC]
  obtain ⟨b, h1, h⟩ := zi h
  rw [h1]
  simp only
  rcases vj h with ⟨rfl, h⟩ | ⟨rfl, h⟩
  ·rw [qdd h1] at h
   simp only [if_true]; exact ihx h
  ·rw [qdd h1] at h
   simp only [qkz, if_false]; exact ihy h
 | block id x ih =>
  intro fr H k h
  simp only [qK] at h
  simp only [evC]
  obtain ⟨q, h1, h⟩ := ih h
  rw [h1]
  simp only [qkA]
  unfold qdq at h
  cases hq : q.1 with
  | normal => simp only [hq] at h ⊢; exact ⟨_, rfl, by rw [hq]; exact h⟩
  | exit id' =>
   simp only [hq] at h ⊢
   rcases vj h with ⟨h2, hz⟩ | ⟨h2, hz⟩
   ·exact ⟨_, by simp only [h2, if_true]; rfl, hz⟩
   ·exact ⟨q, by simp only [h2, qkz, if_false], by rw [hq]; exact hz⟩
  | goto l => simp only [hq] at h ⊢; exact ⟨_, rfl, by rw [hq]; exact h⟩
  | ret => simp only [hq] at h ⊢; exact ⟨_, rfl, by rw [hq]; exact h⟩
 | loop x ih =>
  intro fr H k h
  simp only [qK] at h
  simp only [evC]
  obtain ⟨q, h1, hz⟩ := qd h
  exact ⟨(q.1, qE (cfg.keepOut f (qf x)) q.2.1, q.2.2), by rw [h1]; rfl, hz⟩
 | scope x ih =>
  intro fr H k h
  simp only [qK] at h
  simp only [evC]
  obtain ⟨q, h1, h⟩ := ih h
  rw [h1]
  simp only [qkA]
  unfold qfr at h
  cases hq : q.1 with
  | goto l => simp only [hq] at h; cases h
  | normal => simp only [hq] at h ⊢; exact ⟨_, rfl, by rw [hq]; exact h⟩
  | exit id => simp only [hq] at h ⊢; exact ⟨_, rfl, by rw [hq]; exact h⟩
  | ret => simp only [hq] at h ⊢; exact ⟨_, rfl, by rw [hq]; exact h⟩
 | rangeFunc g ps assign body =>
  intro fr H k h
  simp only [qK] at h
  simp only [evC]
  generalize (qx (cfg.lift f (qf body)) fr H).1 = fr at h ⊢
  generalize (qx (cfg.lift f (qf body)) _ H).2 = H at h ⊢
  unfold qip at h
  obtain ⟨h1, h⟩ := qa h
  split at h
  case h_2 => cases h
  rename_i g' first caps hg
  obtain ⟨h2, h⟩ := qa h
  obtain ⟨q, h3, h⟩ := hkf _ _ _ _ _ h
  unfold qer at h
  obtain ⟨b, h4, h⟩ := qd h
  unfold qjo at h
  split at h
  case h_2 => cases h
  rename_i pend st
  have hx : ¬ (cfg.ext g').isSome = true := by
   cases he : cfg.ext g' with
   | none => simp
   | some s => rw [he] at h2; cases h2
  have hst : st ≠ .busy := by
   intro e; subst e; simp at h
  have hpk : qft pend k (gc bs (qE (cfg.keepOut f (qf body)) fr) (q.2.set H.length .dead)).1 (gc bs (qE (cfg.keepOut f (qf body)) fr) (q.2.set H.length .dead)).2 = some r := by
   cases st with
   | busy => exact absurd rfl hst
   | _ => exact h
  unfold yh
  rw [if_pos h1, hg]
  simp only [hx, h3, qkA, h4]
  unfold qft at hpk
  cases st with
  | busy => exact absurd rfl hst
  | _ =>
   cases pend with
   | none => exact ⟨_, rfl, hpk⟩
   | some c =>
    cases c <;> first | exact ⟨_, rfl, hpk⟩ | cases hpk
theorem zM {cfg : Cfg} {fr : List AV} : ∀ {rs : List ResultVar} {k : List AV → Option α}, kRes cfg fr H rs k = some r → ∃ vs, q4 rs cfg.ty fr H = some vs ∧ k vs = some r
 | [], k, h => ⟨[], rfl, h⟩
 | .tmp t :: l, k, h => by
  rw [kRes] at h
  obtain ⟨vs, h1, hz⟩ := zM h
  exact ⟨_, by simp only [q4, h1, qkD], hz⟩
 | .cell a t :: l, k, h => by
  rw [kRes] at h
  split at h
  ·rename_i ti hti
   obtain ⟨v, h1, h⟩ := qaF h
   have h2 := qr (k := fun v => kRes cfg fr H l fun vs => k (v :: vs)) h
   obtain ⟨vs, h3, hz⟩ := zM h2
   exact ⟨_, by simp only [q4, hti, h1, qkA, h3, qkD], hz⟩
  ·cases h
variable {α : Type}
def fxGo (i : Nat) (l : List (Nat × AV)) : Nat → List AV
 | 0 => []
 | n + 1 => match l with
  | [] => .junk :: fxGo (i + 1) [] n
  | p :: l' => if qkG p.1 i then p.2 :: fxGo (i + 1) l' n else .junk :: fxGo (i + 1) (p :: l') n
def fx (n : Nat) (l : List (Nat × AV)) : List AV := fxGo 0 l n
def qF (fn : Func) : Code := match fn.body with | some c => c | none => .skip
def sub : Code → List Nat → Code
 | c, [] => c
 | .seq a b, i :: l => match i with | 0 => sub a l | _ => sub b l
 | .cond _ a b, i :: l => match i with | 0 => sub a l | _ => sub b l
 | .block _ a, _ :: l => sub a l
 | .loop a, _ :: l => sub a l
 | .scope a, _ :: l => sub a l
 | .rangeFunc _ _ a b, i :: l => match i with | 0 => sub a l | _ => sub b l
 | c, _ => c
noncomputable def kLp (k : Nat) (ts : Option (List Tmp)) (ls : List (Tmp × Nat)) (L : Den) (A : Ex × List AV × AH → Option α) : KE α := fun e fr H =>
 match e with
 | .normal => kOpt (LOOP k ts ls L (xD k ts ls fr H)) A
 | e => A (e, fr, H)
theorem qhl {cfg : Cfg} {kf : KF α} (hkf : KfOk (EV cfg) kf) {f : Nat} {rd : Option Nat} {bs : Nat} {c : Code} {k : Nat} {ts : Option (List Tmp)} {ls : List (Tmp × Nat)} {A : Ex × List AV × AH → Option α} {fr : List AV} {H : AH} {r : α}
  (h : qK cfg (EV cfg) kf f rd bs c fr H (kLp k ts ls (evC cfg (EV cfg) f rd bs c) A) = some r) : kOpt (LOOP k ts ls (evC cfg (EV cfg) f rd bs c) (fr, H)) A = some r := by
 obtain ⟨⟨e, fr1, H1⟩, h1, h2⟩ := zh hkf c h
 cases e with
 | normal =>
  simp only [kLp] at h2
  cases hl : LOOP k ts ls (evC cfg (EV cfg) f rd bs c) (xD k ts ls fr1 H1) with
  | none => rw [hl] at h2; cases h2
  | some q =>
   rw [hl] at h2
   rw [qiJ (p := (fr, H)) h1 hl]
   exact h2
 | exit id => rw [qbE (p := (fr, H)) h1 (fun x => by intro h; cases h)]; exact h2
 | goto l => rw [qbE (p := (fr, H)) h1 (fun x => by intro h; cases h)]; exact h2
 | ret => rw [qbE (p := (fr, H)) h1 (fun x => by intro h; cases h)]; exact h2
def zP (cfg : Cfg) (ls : List (Tmp × Nat)) (g : AV → AH → Option α) (rs : List ResultVar) : KE α := fun e fr H =>
 match e with
 | .normal => kRes cfg (qx ls fr H).1 (qx ls fr H).2 rs fun vs => g (vZ vs) (qx ls fr H).2
 | .ret => kRes cfg (qx ls fr H).1 (qx ls fr H).2 rs fun vs => g (vZ vs) (qx ls fr H).2
 | _ => none
def qjp (cfg : Cfg) (ls : List (Tmp × Nat)) (rs : List ResultVar) : KE AV := zP cfg ls (fun v _ => some v) rs
def qjr (cfg : Cfg) (ls : List (Tmp × Nat)) (rs : List ResultVar) : KE AV := zP cfg ls (fun v H => zO false H v some) rs
def qjq (cfg : Cfg) (sz : Nat) (ls : List (Tmp × Nat)) (rs : List ResultVar) : KE (MV × List (List AV)) := zP cfg ls (fun v H => (qc7 sz (v, H)).bind fun q => (mvOf q.1).map fun v => (v, q.2)) rs
noncomputable def zN (cfg : Cfg) (cf : Orac) (kf : KF α) (f : Nat) (fn : Func) (c : Code) (args : List AV) (H : AH) (fin : KE α) : Option α :=
 qK cfg cf kf f none H.length c (args ++ qkE (fn.ntmps - args.length) .junk) H fin
theorem qcb {cfg : Cfg} {kf : KF α} (hkf : KfOk (EV cfg) kf) {g : AV → AH → Option α} {f : Nat} {fn : Func} {args : List AV} {H : AH} {r : α} (hx : cfg.ext f = none) (hk : cfg.known f = true) (hf : cfg.P.funcs[f]? = some fn) (hb : fn.body = some (qF fn))
  (h : zN cfg (EV cfg) kf f fn (qF fn) args H (zP cfg (cfg.lift f 0) g fn.results.toList) = some r) : ∃ v H', EV cfg (.f f) args H = some (v, H') ∧ g v H' = some r := by
 unfold zN at h
 obtain ⟨q, h1, h⟩ := zh hkf _ h
 have key : ∀ (vs : List AV), q4 fn.results.toList cfg.ty (qx (cfg.lift f 0) q.2.1 q.2.2).1 (qx (cfg.lift f 0) q.2.1 q.2.2).2 = some vs → (q.1 = .normal ∨ q.1 = .ret) → EV cfg (.f f) args H = some (vZ vs, (qx (cfg.lift f 0) q.2.1 q.2.2).2) := by
  intro vs h2 hq
  refine qeX ?_
  unfold qX
  simp only [hx, hk, if_true, hf, hb, h1, qkA]
  unfold y0
  rcases hq with hq | hq <;> simp only [hq, h2, qkD]
 unfold zP at h
 split at h
 ·rename_i hq
  obtain ⟨vs, h2, h⟩ := zM h
  exact ⟨_, _, key vs h2 (.inl hq), h⟩
 ·rename_i hq
  obtain ⟨vs, h2, h⟩ := zM h
  exact ⟨_, _, key vs h2 (.inr hq), h⟩
 ·cases h
def kY2 (id : Nat) (K : AV × AH → Option α) : KE α := fun e _ H =>
 kOpt H[id]? fun b => match b with
  | .loop f fr ps a b _ _ => (match e with
   | .normal => K (.bool true, H.set id (.loop f fr ps a b none .ready))
   | .ret => K (.bool false, H.set id (.loop f fr ps a b (some .ret) .done))
   | .exit x => K (.bool false, H.set id (.loop f fr ps a b (some (.exit x)) .done))
   | .goto _ => none)
  | _ => none
noncomputable def kY1 (cfg : Cfg) (cf : Orac) (kf : KF α) (bs f id : Nat) (body : Code) (K : AV × AH → Option α) : KE α := fun e fr H =>
 match e with
 | .normal => kOpt H[id]? fun b => match b with
  | .loop f' fr' ps' a' b' p' st => (match st with
   | .ready => qK cfg cf kf f (some id) bs body fr (H.set id (.loop f' fr' ps' a' b' p' .busy)) (kY2 id K)
   | _ => none)
  | _ => none
 | _ => none
noncomputable def kY (cfg : Cfg) (cf : Orac) (kf : KF α) (id : Nat) (args : List AV) (H : AH) (K : AV × AH → Option α) : Option α :=
 kOpt H[id]? fun b => match b with
  | .loop f fr ps assign body _ st => (match st with
   | .ready => cond (qkG args.length ps.length) (qK cfg cf kf f (some id) H.length assign (vt fr ps args) H (kY1 cfg cf kf H.length f id body K)) none
   | _ => none)
  | _ => none
theorem qi3 {cfg : Cfg} {kf : KF α} (hkf : KfOk (EV cfg) kf) {id : Nat} {args : List AV} {H : AH} {K : AV × AH → Option α} {r : α} (h : kY cfg (EV cfg) kf id args H K = some r) : ∃ q, EV cfg (.y id) args H = some q ∧ K q = some r := by
 unfold kY at h
 obtain ⟨b, h1, h⟩ := qd h
 cases b with
 | loop f fr ps assign body pend st =>
  simp only at h
  cases st with
  | ready =>
   simp only at h
   obtain ⟨h2, h⟩ := qa h
   obtain ⟨q, h3, h⟩ := zh hkf _ h
   unfold kY1 at h
   cases hq : q.1 with
   | normal =>
    rw [hq] at h
    simp only at h
    obtain ⟨b, h4, h⟩ := qd h
    cases b with
    | loop f' fr' ps' a' b' p' st' =>
     simp only at h
     cases st' with
     | ready =>
      simp only at h
      obtain ⟨q2, h5, h⟩ := zh hkf _ h
      unfold kY2 at h
      obtain ⟨b, h6, h⟩ := qd h
      cases b with
      | loop f2 fr2 ps2 a2 b2 p2 st2 =>
       have key : ∀ q', qX cfg (EV cfg) (.y id) args H = some q' → K q' = some r → ∃ q, EV cfg (.y id) args H = some q ∧ K q = some r := fun q' h8 h9 => ⟨q', qeX h8, h9⟩
       cases hq2 : q2.1 with
       | normal =>
        rw [hq2] at h
        refine key _ ?_ h
        unfold qX
        simp only [h1, if_pos (qkt h2), h3, qkA, hq, h4, h5, h6, hq2]
       | ret =>
        rw [hq2] at h
        refine key _ ?_ h
        unfold qX
        simp only [h1, if_pos (qkt h2), h3, qkA, hq, h4, h5, h6, hq2]
       | exit x =>
        rw [hq2] at h
        refine key _ ?_ h
        unfold qX
        simp only [h1, if_pos (qkt h2), h3, qkA, hq, h4, h5, h6, hq2]
       | goto x => rw [hq2] at h; cases h
      | _ => cases h
     | _ => cases h
    | _ => cases h
   | _ => rw [hq] at h; cases h
  | _ => cases h
 | _ => cases h
class InlOk (cfg : Cfg) : Prop where
 ok : ∀ f fn, cfg.inl f = some fn → cfg.ext f = none ∧ cfg.known f = true ∧ cfg.P.funcs[f]? = some fn ∧ fn.body = some (qF fn)
def qbQ (f : Nat) : List (Nat × Func) → Option Func
 | [] => none
 | p :: l => if qkG p.1 f then some p.2 else qbQ f l
def qiK (cfg : Cfg) : List (Nat × Func) → Prop
 | [] => True
 | p :: l => (cfg.ext p.1 = none ∧ cfg.known p.1 = true ∧ cfg.P.funcs[p.1]? = some p.2 ∧ p.2.body = some (qF p.2)) ∧ qiK cfg l
theorem InlOk.of {cfg : Cfg} (tab : List (Nat × Func)) (h : ∀ f, cfg.inl f = qbQ f tab) (ha : qiK cfg tab) : InlOk cfg where
 ok := by
  intro f fn hf
  rw [h] at hf
  clear h
  induction tab with
  | nil => cases hf
  | cons p l ih =>
   rw [qbQ] at hf
   split at hf
   ·rename_i e
    have e := qkt e
    cases hf
    rw [← e]
    exact ha.1
   ·exact ih ha.2 hf
noncomputable def kfN (cfg : Cfg) : Nat → KF α
 | 0 => fun t a H k => kOpt (EV cfg t a H) k
 | n + 1 => fun t a H k => match t with
  | .f f => (match cfg.inl f with
   | some fn => zN cfg (EV cfg) (kfN cfg n) f fn (qF fn) a H (zP cfg (cfg.lift f 0) (fun v H => k (v, H)) fn.results.toList)
   | none => kOpt (EV cfg (.f f) a H) k)
  | .y id => kY cfg (EV cfg) (kfN cfg n) id a H k
theorem qde {cfg : Cfg} [InlOk cfg] : ∀ n, KfOk (α := α) (EV cfg) (kfN cfg n)
 | 0 => fun t a H k r h => qd h
 | n + 1 => fun t a H k r h => by
  unfold kfN at h
  cases t with
  | f f =>
   simp only at h
   split at h
   ·rename_i fn hf
    obtain ⟨o1, o2, o3, o4⟩ := InlOk.ok f fn hf
    obtain ⟨v, H', h1, h2⟩ := qcb (qde n) o1 o2 o3 o4 h
    exact ⟨_, h1, h2⟩
   ·exact qd h
  | y id => exact qi3 (qde n) h
theorem yW {cfg : Cfg} [InlOk cfg] {f : Nat} {rd : Option Nat} {bs : Nat} {c : Code} {k : Nat} {ts : Option (List Tmp)} {ls : List (Tmp × Nat)} {A : Ex × List AV × AH → Option α} {fr : List AV} {H : AH} {r : α}
  (h : qK cfg (EV cfg) (kfN cfg 6) f rd bs c fr H (kLp k ts ls (evC cfg (EV cfg) f rd bs c) A) = some r) : kOpt (LOOP k ts ls (evC cfg (EV cfg) f rd bs c) (fr, H)) A = some r := qhl (qde 6) h
theorem zg {cfg : Cfg} [InlOk cfg] {g : AV → AH → Option α} {f : Nat} {fn : Func} {args : List AV} {H : AH} {r : α} (hx : cfg.ext f = none) (hk : cfg.known f = true) (hf : cfg.P.funcs[f]? = some fn) (hb : fn.body = some (qF fn))
  (h : zN cfg (EV cfg) (kfN cfg 6) f fn (qF fn) args H (zP cfg (cfg.lift f 0) g fn.results.toList) = some r) : ∃ v H', EV cfg (.f f) args H = some (v, H') ∧ g v H' = some r := qcb (qde 6) hx hk hf hb h
def Gets {β : Type} (o : Option β) (P : β → Prop) : Prop := ∃ r, o = some r ∧ P r
theorem Gets.ev {β : Type} {o o' : Option β} {P : β → Prop} (h : ∀ r, o = some r → o' = some r) (hy : Gets o P) : Gets o' P := by
 obtain ⟨r, h1, h2⟩ := hy
 exact ⟨r, h r h1, h2⟩
theorem Gets.eq {β : Type} {o o' : Option β} {P : β → Prop} (h : o' = o) (hy : Gets o P) : Gets o' P := h ▸ hy
theorem gE {β : Type} {o o' x : Option β} {P : β → Prop} (f : ∀ r, o = some r → o' = some r) (e : o = x) (h : Gets x P) : Gets o' P := Gets.ev f (Gets.eq e h)
theorem Gets.mono {β : Type} {o : Option β} {P Q : β → Prop} (h : Gets o P) (hq : ∀ b, P b → Q b) : Gets o Q := by
 obtain ⟨r, h1, h2⟩ := h
 exact ⟨r, h1, hq r h2⟩
theorem Gets.bind {β γ : Type} {o : Option β} {k : β → Option γ} {Q : β → Prop} {P : γ → Prop} (h : Gets o Q) (hk : ∀ b, Q b → Gets (k b) P) : Gets (kOpt o k) P := by
 obtain ⟨r, h1, h2⟩ := h
 subst h1
 exact hk r h2
@[simp] theorem gets_some {β : Type} {a : β} {P : β → Prop} : Gets (some a) P ↔ P a := ⟨fun ⟨r, h1, h2⟩ => by cases h1; exact h2, fun h => ⟨a, rfl, h⟩⟩
theorem Gets.get {β : Type} {o : Option β} {a : β} (h : Gets o (· = a)) : o = some a := by
 obtain ⟨r, h1, h2⟩ := h
 rw [h1, h2]
theorem qiL {cfg : Cfg} {f : Nat} {args : List AV} {v : AV} {H : AH} (h : EV cfg (.f f) args [] = some (v, H)) : EVs (EV cfg) f args = some v := by unfold EVs; rw [h]; rfl
theorem qkg {cfg : Cfg} {f : Nat} {args : List AV} {v v' : AV} {H : AH} (h : EV cfg (.f f) args [] = some (v', H)) (e : (v'.frz v'.msIds H).fg = v) : EVf (EV cfg) f args = some v := by unfold EVf; rw [h]; exact congrArg some e
theorem funS {cfg : Cfg} [InlOk cfg] {f : Nat} {fn : Func} {args : List AV} {r : AV} (hx : cfg.ext f = none) (hk : cfg.known f = true) (hf : cfg.P.funcs[f]? = some fn) (hb : fn.body = some (qF fn))
  (h : zN cfg (EV cfg) (kfN cfg 6) f fn (qF fn) args [] (qjp cfg (cfg.lift f 0) fn.results.toList) = some r) : EVs (EV cfg) f args = some r := by
 obtain ⟨v, H', h1, h2⟩ := zg hx hk hf hb h
 cases h2
 exact qiL h1
theorem funF {cfg : Cfg} [InlOk cfg] {f : Nat} {fn : Func} {args : List AV} {r : AV} (hx : cfg.ext f = none) (hk : cfg.known f = true) (hf : cfg.P.funcs[f]? = some fn) (hb : fn.body = some (qF fn))
  (h : zN cfg (EV cfg) (kfN cfg 6) f fn (qF fn) args [] (qjr cfg (cfg.lift f 0) fn.results.toList) = some r) : EVf (EV cfg) f args = some r := by
 obtain ⟨v, H', h1, h2⟩ := zg hx hk hf hb h
 exact qkg h1 (Option.some.inj (qbm h2))
theorem funM {cfg : Cfg} [InlOk cfg] {f sz : Nat} {fn : Func} {args : List AV} {rows : List (List AV)} {r : MV × List (List AV)} (hx : cfg.ext f = none) (hk : cfg.known f = true) (hf : cfg.P.funcs[f]? = some fn) (hb : fn.body = some (qF fn))
  (h : zN cfg (EV cfg) (kfN cfg 6) f fn (qF fn) args [.rows true sz rows] (qjq cfg sz (cfg.lift f 0) fn.results.toList) = some r) : EVm (EV cfg) f args sz rows = some r := by
 obtain ⟨v, H', h1, h2⟩ := zg hx hk hf hb h
 unfold EVm
 rw [h1]
 exact h2
def qht (cfg : Cfg) (sz : Nat) (ls : List (Tmp × Nat)) (rs : List ResultVar) : KE (AV × List (List AV)) := zP cfg ls (fun v H => qaL H 0 fun d sz' rows =>
 cond (d && qkG sz' sz && zn v.msIds) (zO false H v fun v' => cond (v'.refsLt 0) (some (v', rows)) none) none) rs
theorem funD {cfg : Cfg} [InlOk cfg] {f sz : Nat} {fn : Func} {args : List AV} {rows : List (List AV)} {r : AV × List (List AV)} (hx : cfg.ext f = none) (hk : cfg.known f = true) (hf : cfg.P.funcs[f]? = some fn) (hb : fn.body = some (qF fn))
  (h : zN cfg (EV cfg) (kfN cfg 6) f fn (qF fn) args [.rows true sz rows] (qht cfg sz (cfg.lift f 0) fn.results.toList) = some r) : EVd (EV cfg) f args sz rows = some r := by
 obtain ⟨v, H', h1, h2⟩ := zg hx hk hf hb h
 unfold EVd
 rw [h1]
 obtain ⟨d, sz', rs', h3, h4⟩ := yv h2
 obtain ⟨h5, h6⟩ := qa h4
 have h7 := qbm (k := fun v' => cond (v'.refsLt 0) (some (v', rs')) none) h6
 obtain ⟨h8, h9⟩ := qa h7
 simp only [qks] at h5
 obtain ⟨⟨hd, hs⟩, hn⟩ := h5
 subst hd
 cases H' with
 | nil => simp at h3
 | cons b l =>
  simp only [List.getElem?_cons_zero, Option.some.injEq] at h3
  subst h3
  simp only [qkA, qdw, hs, hn, h8, Bool.and_self, if_true]
  exact h9
@[simp] theorem nble (a b : Nat) : qkJ a b = decide (a ≤ b) := by
 rcases h : qkJ a b with _ | _
 ·rw [eq_comm, decide_eq_false_iff_not]; intro h'; rw [Nat.ble_eq_true_of_le h'] at h; cases h
 ·rw [eq_comm, decide_eq_true_eq]; exact Nat.le_of_ble_eq_true h
@[simp] theorem nbeq (a b : Nat) : qkG a b = decide (a = b) := by
 rcases h : qkG a b with _ | _
 ·rw [eq_comm, decide_eq_false_iff_not]; intro h'; rw [h', Nat.beq_refl] at h; cases h
 ·rw [eq_comm, decide_eq_true_eq]; exact qkt h
@[simp] theorem leInt_eq (a b : Int) : qk a b = decide (a ≤ b) := rfl
@[simp] theorem ltInt_eq (a b : Int) : xb a b = decide (a < b) := rfl
def AV.IsInt (v : AV) : Prop := ∃ n, v = .int .i64 n
def AV.IsBool (v : AV) : Prop := ∃ b, v = .bool b
@[simp] theorem isInt_int (n : Int) : (AV.int .i64 n).IsInt := ⟨n, rfl⟩
@[simp] theorem isBool_bool (b : Bool) : (AV.bool b).IsBool := ⟨b, rfl⟩
@[simp] theorem kOptSome {β : Type} (b : β) (k : β → Option α) : kOpt (some b) k = k b := rfl
@[simp] theorem kOptNone {β : Type} (k : β → Option α) : kOpt none k = none := rfl
@[simp] theorem kMInt_int (kd : IntKind) (n : Int) (k : Int → Option α) : qeS kd (.int kd n) k = k n := by simp [qeS, qS]
@[simp] theorem kInt_int (kd : IntKind) (n : Int) (k : Int → Option α) : kInt kd (.int kd n) k = k n := by simp [kInt, qS]
@[simp] theorem kBool_bool (b : Bool) (k : Bool → Option α) : qD (.bool b) k = k b := rfl
@[simp] theorem kStr_str (s : List UInt8) (k : List UInt8 → Option α) : kStr (.str s) k = k s := rfl
@[simp] theorem kAgg_agg (cs : List AV) (k : List AV → Option α) : kAgg (.agg cs) k = k cs := rfl
@[simp] theorem kCons_cons (c : AV) (cs : List AV) (k : AV → List AV → Option α) : qy (c :: cs) k = k c cs := rfl
@[simp] theorem kNil_nil (x : Option α) : kNil [] x = x := rfl
@[simp] theorem kMSl_nil (x : Option α) (k : Nat → Nat → Option α) : kMSl .nil x k = x := rfl
@[simp] theorem kMSl_sl (off len : Nat) (x : Option α) (k : Nat → Nat → Option α) : kMSl (.sl off len) x k = k off len := rfl
@[simp] theorem kMUnit_unit (x : Option α) : qak .unit x = x := rfl
@[simp] theorem kMBool_bool (b : Bool) (k : Bool → Option α) : qfw (.bool b) k = k b := rfl
@[simp] theorem kOwn_nil (x : Option α) (k : Nat → List (List AV) → Nat → Nat → Option α) : kOwn .nil x k = x := rfl
@[simp] theorem kOwn_own (sz : Nat) (rs : List (List AV)) (off len : Nat) (x : Option α) (k : Nat → List (List AV) → Nat → Nat → Option α) : kOwn (.own sz rs off len) x k = k sz rs off len := rfl
@[simp] theorem kSl_sl (rs : List (List AV)) (k : List (List AV) → Option α) : kSl (.sl rs) k = k rs := rfl
@[simp] theorem get?Internal_eq {β : Type} (l : List β) (i : Nat) : qkw l i = l[i]? := rfl
abbrev Rz := List (List AV)
abbrev Bz := List UInt8
inductive Tm where
 | mk (k n : Int) (s : List UInt8) (l : List Tm)
 deriving Inhabited
namespace Tm
def str : Tm → List UInt8 | mk _ _ s _ => s
end Tm
mutual
def Tm.cells : Tm → List AV
 | .mk k n s l => [.int .i64 k, .int .i64 n, .str s, .sl (zK l)]
def zK : List Tm → List (List AV)
 | [] => []
 | t :: l => t.cells :: zK l
end
def Tm.av (t : Tm) : AV := .agg t.cells
theorem qej : ∀ l : List Tm, zK l = l.map Tm.cells
 | [] => by rw [zK]; rfl
 | t :: l => by rw [zK, qej l]; rfl
@[simp] theorem rowsT_length (l : List Tm) : (zK l).length = l.length := by rw [qej]; simp
@[simp] theorem rowsT_nil : zK [] = [] := by rw [zK]
mutual
/-- no list is longer than is counted here, no text -/
def Tm.Ok : Tm → Prop
 | .mk _ _ s l => s.length < 1099511627776 ∧ l.length < 1099511627776 ∧ OkL l
def OkL : List Tm → Prop
 | [] => True
 | t :: l => t.Ok ∧ OkL l
end
theorem qgV {l : List Tm} : OkL l ↔ ∀ t ∈ l, t.Ok := by
 induction l with
 | nil => simp [OkL]
 | cons t l ih => simp [OkL, ih]
theorem Tm.Ok.str {k n : Int} {s : List UInt8} {l : List Tm} (h : (Tm.mk k n s l).Ok) : s.length < 1099511627776 := by rw [Tm.Ok] at h; exact h.1
theorem Tm.Ok.len {k n : Int} {s : List UInt8} {l : List Tm} (h : (Tm.mk k n s l).Ok) : l.length < 1099511627776 := by rw [Tm.Ok] at h; exact h.2.1
theorem Tm.Ok.sub {k n : Int} {s : List UInt8} {l : List Tm} (h : (Tm.mk k n s l).Ok) {t : Tm} (ht : t ∈ l) : t.Ok := by rw [Tm.Ok] at h; exact qgV.1 h.2.2 t ht
theorem OkL.get {l : List Tm} (h : OkL l) {t : Tm} (ht : t ∈ l) : t.Ok := qgV.1 h t ht
variable {α β : Type}
def qdB (b : Bool) (k : Bool → α) : α := match b with | true => k true | false => k false
def fNat (n : Nat) (k : Nat → α) : α := match n with | 0 => k 0 | m + 1 => k (m + 1)
def fInt (n : Int) (k : Int → α) : α := match n with | .ofNat m => fNat m fun m => k (.ofNat m) | .negSucc m => fNat m fun m => k (.negSucc m)
def fL (g : β → (β → α) → α) : List β → (List β → α) → α
 | [], k => k []
 | a :: l, k => g a fun a' => fL g l fun l' => k (a' :: l')
def qjv (kd : IntKind) (k : IntKind → α) : α := match kd with
 | .i64 => k .i64
 | .u64 => k .u64
 | .u8 => k .u8
 | .i32 => k .i32
 | .u32 => k .u32
 | x => k x
def qeV (b : UInt8) (k : UInt8 → α) : α := fNat b.toNat fun n => k (UInt8.ofNat n)
theorem qhG {g : β → (β → α) → α} (hg : ∀ b k, g b k = k b) : ∀ (l : List β) (k : List β → α), fL g l k = k l
 | [], _ => rfl
 | a :: l, k => by rw [fL, hg, qhG hg l]
theorem qcr (b : Bool) (k : Bool → α) : qdB b k = k b := by cases b <;> rfl
theorem v8 (b : Nat) (k : Nat → α) : fNat b k = k b := by cases b <;> rfl
theorem qjH (b : Int) (k : Int → α) : fInt b k = k b := by cases b <;> simp only [fInt, v8]
theorem qi9 (b : IntKind) (k : IntKind → α) : qjv b k = k b := by cases b <;> rfl
theorem qfI (b : UInt8) (k : UInt8 → α) : qeV b k = k b := by simp [qeV, v8]
def qkk (c a b : AV) (H : AH) : Option (AV × AH) :=
 match c with
 | .bool t => some (if t then a else b, H)
 | _ => none
def qjW (cfg : Cfg) (nid : Option Nat) (t : TypeId) (H : AH) : Option (AV × AH) :=
 match cfg.ty t with
 | some ti =>
  if qN ti.zero then
   match aNew nid H (yd cfg t ti.zero) with
   | some (k, H') => some (.ptr k 0 0, H')
   | none => none
  else none
 | none => none
def xBox (nid : Option Nat) (a : AV) (H : AH) : Option (AV × AH) :=
 match a.cells with
 | some cs =>
  match aNew nid H (.rows (bigZ cs) cs.length [cs]) with
  | some (k, H') => some (.ptr k 0 0, H')
  | none => none
 | none => none
def qjV (cfg : Cfg) (t : TypeId) (parts : List (Nat × AV)) (H : AH) : Option (AV × AH) :=
 match cfg.ty t with
 | some ti =>
  if qN ti.zero then
   match ti.d with
   | .struct fs =>
    match xA cfg fs with
    | some ps => (yS (fun i => ps[i]?) ti.zero parts).map fun cs => (.agg (cfg.fga t cs), H)
    | none => none
   | .array _ e =>
    match cfg.sz e with
    | some n => (yS (fun i => some (i * n, n)) ti.zero parts).map fun cs => (.agg cs, H)
    | none => none
   | _ => none
  else none
 | none => none
def qbY (cfg : Cfg) (nid : Option Nat) (t : TypeId) (len : Nat) (parts : List (Nat × AV)) (H : AH) : Option (AV × AH) :=
 match cfg.td t with
 | some (.slice e) =>
  match cfg.ty e with
  | some ei =>
   if vY ei && qkJ (len * ei.sz) 16777216 then
    match yB ei.sz (qkE len ei.zero) parts with
    | some rows =>
     match aNew nid H (.rows (qh 0 rows) ei.sz rows) with
     | some (k, H') => some (.ms k 0 len, H')
     | none => none
    | none => none
   else none
  | none => none
 | _ => none
def qkl (cfg : Cfg) (t : TypeId) (a : AV) (H : AH) : Option (AV × AH) :=
 match cfg.ty t with
 | some ti => (xh ti.d.agg ti.sz H a).map fun v => (v, H)
 | none => none
def qjT (cfg : Cfg) (t : TypeId) (a v : AV) (H : AH) : Option (AV × AH) :=
 match cfg.sz t with
 | some n => (xa n H a v).map fun H' => (.junk, H')
 | none => none
def xNil (a : AV) (H : AH) : Option (AV × AH) :=
 match a with
 | .ptr id r off => some (.ptr id r off, H)
 | .cptr cs off => some (.cptr cs off, H)
 | .fn (.func f) a b => some (.fn (.func f) a b, H)
 | .mp id => some (.mp id, H)
 | .yld id => some (.yld id, H)
 | _ => none
def qiN (t : AV) (i : Nat) (H : AH) : Option (AV × AH) :=
 match t with
 | .tup vs => (vs[i]?).map fun v => (v, H)
 | _ => none
def xOp (cfg : Cfg) (nid : Option Nat) (o : Op) (ty : TypeId) (x : Operand → AV) (H : AH) : Option (AV × AH) :=
 match o with
 | .move a | .assign a => some (x a, H)
 | .pick c a b => qkk (x c) (x a) (x b) H
 | .alloc t => qjW cfg nid t H
 | .box _ a => xBox nid (x a) H
 | .build t parts => qjV cfg t (parts.toList.map fun p => (p.1, x p.2)) H
 | .buildSlice t len parts => qbY cfg nid t len (parts.toList.map fun p => (p.1, x p.2)) H
 | .load t a => qkl cfg t (x a) H
 | .store t a v => qjT cfg t (x a) (x v) H
 | .nilCheck a => xNil (x a) H
 | .binOp op t a b _ => (aBin cfg (litN a b) op t (x a) (x b)).map fun v => (v, H)
 | .unOp op _ a => (aUn op (x a)).map fun v => (v, H)
 | .convert s d a => vT cfg nid s d (x a) H
 | .makeFunc f first caps => some (.fn f (first.toList.map x) (caps.toList.map x), H)
 | .makeSlice t l c => xV cfg nid t (x l) (x c) H
 | .slice t a lo hi mx => (yA cfg t H (x a) (lo.map x) (hi.map x) (mx.map x)).map fun v => (v, H)
 | .fieldAddr t a f => (xN cfg t (x a) f).map fun v => (v, H)
 | .field t a f => (qas cfg t (x a) f).map fun v => (v, H)
 | .indexAddr t a i => (vr cfg t H (x a).unwr (x i)).map fun v => (v, H)
 | .index t a i => (qar cfg t (x a) (x i)).map fun v => (v, H)
 | .extract t i => qiN (x t) i H
 | o => evOp cfg nid o ty x H
theorem qjU (cfg : Cfg) (nid : Option Nat) (o : Op) (ty : TypeId) (x : Operand → AV) (H : AH) : xOp cfg nid o ty x H = evOp cfg nid o ty x H := by cases o <;> rfl
variable {α β : Type}
noncomputable def gL (g : β → (β → α) → α) (l : List β) : (List β → α) → α :=
 List.rec (motive := fun _ => (List β → α) → α) (fun k => k []) (fun a _ ih k => g a fun a' => ih fun l' => k (a' :: l')) l
noncomputable def gS (l : List β) : (List β → α) → α :=
 List.rec (motive := fun _ => (List β → α) → α) (fun k => k []) (fun a _ ih k => ih fun l' => k (a :: l')) l
theorem xL {g : β → (β → α) → α} (hg : ∀ b k, g b k = k b) : ∀ (l : List β) (k : List β → α), gL g l k = k l
 | [], _ => rfl
 | a :: l, k => by
  have : gL g (a :: l) k = g a fun a' => gL g l fun l' => k (a' :: l') := rfl
  rw [this, hg, xL hg l]
theorem vV : ∀ (l : List β) (k : List β → α), gS l k = k l
 | [], _ => rfl
 | a :: l, k => by
  have : gS (a :: l) k = gS l fun l' => k (a :: l') := rfl
  rw [this, vV l]
def gA1 (v : AV) (k : AV → α) : α := match v with
 | .int kd m => qjv kd fun kd => fInt m fun m => k (.int kd m)
 | .bool b => qdB b fun b => k (.bool b)
 | .str s => fL qeV s fun s => k (.str s)
 | .ms a b c => fNat a fun a => fNat b fun b => fNat c fun c => k (.ms a b c)
 | .ptr a b c => fNat a fun a => fNat b fun b => fNat c fun c => k (.ptr a b c)
 | v => k v
theorem qfE (v : AV) (k : AV → α) : gA1 v k = k v := by
 cases v <;> simp only [gA1, qi9, qjH, qcr, v8, qhG qfI]
noncomputable def gA2 (v : AV) (k : AV → α) : α := match v with
 | .agg cs => gL gA1 cs fun cs => k (.agg cs)
 | .sl rows => gL (gL gA1) rows fun rows => k (.sl rows)
 | .cptr cs o => gL gA1 cs fun cs => fNat o fun o => k (.cptr cs o)
 | .fn f a b => gL gA1 a fun a => gL gA1 b fun b => k (.fn f a b)
 | v => gA1 v k
theorem qix (v : AV) (k : AV → α) : gA2 v k = k v := by
 have e1 : ∀ (l : List AV) (k : List AV → α), gL gA1 l k = k l := xL qfE
 cases v <;> simp only [gA2, qfE, e1, v8, xL e1]
noncomputable def gA (v : AV) (k : AV → α) : α := match v with
 | .tup cs => gL gA2 cs fun cs => k (.tup cs)
 | .ifc t v => gA2 v fun v => k (.ifc t v)
 | v => gA2 v k
theorem yP (v : AV) (k : AV → α) : gA v k = k v := by
 cases v <;> simp only [gA, qix, xL qix]
def gW (v : AV) (k : AV → α) : α := match v with
 | .int a b => k (.int a b)
 | .bool a => k (.bool a)
 | .str a => k (.str a)
 | .agg a => k (.agg a)
 | .tup a => k (.tup a)
 | .nilS => k .nilS
 | .sl a => k (.sl a)
 | .em => k .em
 | .ms a b c => k (.ms a b c)
 | .nilP => k .nilP
 | .ptr a b c => k (.ptr a b c)
 | .cptr a b => k (.cptr a b)
 | .fn a b c => k (.fn a b c)
 | .yld a => k (.yld a)
 | .nilF => k .nilF
 | .nilM => k .nilM
 | .mp a => k (.mp a)
 | .nilI => k .nilI
 | .ifc a b => k (.ifc a b)
 | .junk => k .junk
 | .lsl r => k (.lsl r)
 | .lpt c o => k (.lpt c o)
 | .rsl i r => k (.rsl i r)
 | .rpt i c o => k (.rpt i c o)
 | .alt l => k (.alt l)
 | .wr a b => k (.wr a b)
theorem qdv (v : AV) (k : AV → α) : gW v k = k v := by cases v <;> rfl
noncomputable def gB (b : ABlk) (k : ABlk → α) : α := match b with
 | .rows d sz rs => qdB d fun d => fNat sz fun sz => gL (gL gA1) rs fun rs => k (.rows d sz rs)
 | .froz d sz rs => qdB d fun d => fNat sz fun sz => gL (gL gA1) rs fun rs => k (.froz d sz rs)
 | .mp es => gS es fun es => k (.mp es)
 | .loop f fr ps a b p s => gL gA1 fr fun fr => k (.loop f fr ps a b p s)
 | .dead => k .dead
 | .res => k .res
 | .reg => k .reg
 | .spl => k .spl
 | .bld T e s => fL qeV s fun s => k (.bld T e s)
theorem qjt (b : ABlk) (k : ABlk → α) : gB b k = k b := by
 have e1 : ∀ (l : List AV) (k : List AV → α), gL gA1 l k = k l := xL qfE
 cases b <;> simp only [gB, qcr, v8, e1, xL e1, vV, qhG qfI]
noncomputable def gP (p : Nat × AV) (k : Nat × AV → α) : α := gA p.2 fun v => k (p.1, v)
theorem qjs (p : Nat × AV) (k : Nat × AV → α) : gP p k = k p := by unfold gP; rw [yP]
noncomputable def gH (H : AH) (k : AH → α) : α := gL gB H k
theorem qbS (H : AH) (k : AH → α) : gH H k = k H := xL qjt H k
abbrev Ov := List (Nat × AV)
def den (n : Nat) (ov : Ov) : List AV := ov.foldr (fun p fr => fr.set p.1 p.2) (qkE n .junk)
noncomputable def qT (t : Nat) (ov : Ov) : AV := List.rec (motive := fun _ => AV) .junk (fun p _ ih => cond (qkG p.1 t) p.2 ih) ov
theorem qa9 (t : Nat) : qT t [] = .junk := rfl
theorem ym (t : Nat) (p : Nat × AV) (ov : Ov) : qT t (p :: ov) = cond (qkG p.1 t) p.2 (qT t ov) := rfl
def OvOk (n : Nat) (ov : Ov) : Prop := ∀ p ∈ ov, p.1 < n
theorem qan (n : Nat) (ov : Ov) : (den n ov).length = n := by
 induction ov with
 | nil => simp [den]
 | cons p l ih => simp only [den, List.foldr_cons, List.length_set]; exact ih
theorem qao {n : Nat} {ov : Ov} (h : OvOk n ov) (t : Nat) : (den n ov)[t]? = if t < n then some (qT t ov) else none := by
 induction ov with
 | nil =>
  simp only [den, List.foldr_nil, qa9, List.getElem?_replicate]
 | cons p l ih =>
  have hl : OvOk n l := fun q hq => h q (List.mem_cons_of_mem _ hq)
  have hp : p.1 < n := h p (List.mem_cons_self ..)
  have : (den n (p :: l))[t]? = ((den n l).set p.1 p.2)[t]? := rfl
  rw [this, qky, ih hl, qan, ym]
  by_cases e : p.1 = t
  ·subst e; simp [hp]
  ·have : qkG p.1 t = false := by rw [← Bool.not_eq_true]; intro h'; exact e (qkt h')
   rw [if_neg e, this]; rfl
theorem qba {n : Nat} {ov : Ov} (h : OvOk n ov) {t : Nat} (ht : ¬ t < n) : qT t ov = .junk := by
 induction ov with
 | nil => rfl
 | cons p l ih =>
  have hp : p.1 < n := h p (List.mem_cons_self ..)
  have : qkG p.1 t = false := by rw [← Bool.not_eq_true]; intro h'; have := qkt h'; omega
  rw [ym, this]
  exact ih fun q hq => h q (List.mem_cons_of_mem _ hq)
theorem qea {n : Nat} {ov : Ov} (h : OvOk n ov) {fr : List AV} (hl : fr.length = n) (hg : ∀ t, t < n → fr[t]? = some (qT t ov)) : den n ov = fr := by
 apply List.ext_getElem?
 intro t
 rw [qao h]
 split
 ·rename_i ht; exact (hg t ht).symm
 ·rename_i ht; exact (List.getElem?_eq_none (by omega)).symm
noncomputable def opdO (ov : Ov) : Operand → AV
 | .tmp t => qT t ov
 | .const v => ofValue v
 | .global _ => .junk
 | .func f => .fn (.func f) [] []
theorem qah {n : Nat} {ov : Ov} (h : OvOk n ov) : opd (den n ov) = opdO ov := by
 funext o
 cases o with
 | tmp t =>
  show (den n ov).getD t .junk = qT t ov
  rw [List.getD_eq_getElem?_getD, qao h]
  split
  ·rfl
  ·rename_i ht; exact (qba h ht).symm
 | _ => rfl
def putO (n : Nat) (ov : Ov) (dst : Option Tmp) (v : AV) : Ov :=
 match dst with
 | some d => cond (Nat.blt d n) ((d, v) :: ov) ov
 | none => ov
theorem qbM {n : Nat} {ov : Ov} (h : OvOk n ov) (dst : Option Tmp) (v : AV) : OvOk n (putO n ov dst v) := by
 cases dst with
 | none => exact h
 | some d =>
  simp only [putO]
  cases hd : Nat.blt d n with
  | false => exact h
  | true =>
   intro p hp
   rw [cond_true] at hp
   rcases List.mem_cons.1 hp with rfl | hp
   ·simpa [qkI] using hd
   ·exact h p hp
theorem qaC {n : Nat} {ov : Ov} (dst : Option Tmp) (v : AV) : den n (putO n ov dst v) = put (den n ov) dst v := by
 cases dst with
 | none => rfl
 | some d =>
  simp only [putO, put]
  cases hd : Nat.blt d n with
  | true => rfl
  | false =>
   have hd : ¬ d < n := by rw [← Bool.not_eq_true, qkI] at hd; exact hd
   show den n ov = _
   rw [List.set_eq_of_length_le (by rw [qan]; exact Nat.le_of_not_lt hd)]
noncomputable def zl (ops : Array Oper) (ov : Ov) (o : Oper) : Option Bool :=
 match o.guard with
 | none => some true
 | some (j, want) =>
  match (ops[j]?).bind (·.dst) with
  | some d =>
   match qT d ov with
   | .bool b => some (b == want)
   | .tup [] => some false
   | _ => none
  | none => none
theorem qcJ {n : Nat} {ov : Ov} (h : OvOk n ov) (ops : Array Oper) (o : Oper) : vB ops (den n ov) o = zl ops ov o := by
 unfold vB zl
 cases o.guard with
 | none => rfl
 | some p =>
  obtain ⟨j, want⟩ := p
  simp only
  cases (ops[j]?).bind (·.dst) with
  | none => rfl
  | some d =>
   simp only
   rw [qao h]
   by_cases hd : d < n
   ·rw [if_pos hd]
    cases qT d ov <;> try rfl
    rename_i vs; cases vs <;> rfl
   ·rw [if_neg hd, qba h hd]
noncomputable def qeZ (n : Nat) (H : AH) (p v : AV) (k : AH → Option β) : Option β :=
 match p with
 | .ptr id r off =>
  match v.cells with
  | some cs =>
   match H[id]? with
   | some (.rows d sz rs) =>
    match rs[r]? with
    | some row => if cs.length == n && qkJ (off + n) row.length then
      gS (row.take off ++ cs ++ row.drop (off + n)) fun row' => gS (rs.set r row') fun rs' => qdB (d && qg 0 cs) fun d' => gS (H.set id (.rows d' sz rs')) k
     else none
    | none => none
   | _ => none
  | none => none
 | .rpt id cs o => (xa n H (.rpt id cs o) v).bind k
 | _ => none
theorem qhU (n : Nat) (H : AH) (p v : AV) (k : AH → Option β) : qeZ n H p v k = (xa n H p v).bind k := by
 unfold qeZ xa
 cases p with
 | ptr id r off =>
  simp only
  cases hv : v.cells with
  | none => simp
  | some cs =>
   simp only
   cases hH : H[id]? with
   | none => simp
   | some b =>
    cases b <;> simp only [Option.bind_none]
    rename_i d sz rs
    cases hr : rs[r]? with
    | none => simp
    | some row =>
     simp only
     split <;> simp [vV, qcr]
 | rpt id cs o => rfl
 | _ => simp
noncomputable def yNew (nid : Option Nat) (H : AH) (b : ABlk) (k : Nat → AH → Option β) : Option β :=
 match nid with
 | none => fNat H.length fun i => gS (H ++ [b]) fun H' => k i H'
 | some i =>
  match H[i]? with
  | some .res => gS (H.set i b) fun H' => k i H'
  | _ => none
theorem qgN (nid : Option Nat) (H : AH) (b : ABlk) (k : Nat → AH → Option β) : yNew nid H b k = (aNew nid H b).bind fun r => k r.1 r.2 := by
 cases nid with
 | none => simp [yNew, aNew, v8, vV]
 | some i =>
  simp only [yNew, aNew]
  cases H[i]? with
  | none => rfl
  | some b => cases b <;> simp [vV]
noncomputable def qhZ (cfg : Cfg) (nid : Option Nat) (t : TypeId) (H : AH) (k : AV → AH → Option β) : Option β :=
 match cfg.ty t with
 | some ti => if qN ti.zero then gB (yd cfg t ti.zero) fun b => yNew nid H b fun i H' => k (.ptr i 0 0) H' else none
 | none => none
noncomputable def yBox (nid : Option Nat) (a : AV) (H : AH) (k : AV → AH → Option β) : Option β :=
 match a.cells with
 | some cs => gS cs fun cs => fNat cs.length fun sz => yNew nid H (.rows (bigZ cs) sz [cs]) fun i H' => k (.ptr i 0 0) H'
 | none => none
noncomputable def yOp (cfg : Cfg) (nid : Option Nat) (o : Op) (ty : TypeId) (x : Operand → AV) (H : AH) (k : AV → AH → Option β) : Option β :=
 match o with
 | .move a | .assign a => gW (x a) fun v => k v H
 | .alloc t => qhZ cfg nid t H k
 | .box _ a => yBox nid (x a) H k
 | .store t a v =>
  match cfg.sz t with
  | some n => qeZ n H (x a) (x v) fun H' => k .junk H'
  | none => none
 | .buildSlice t len parts => (match qbY cfg nid t len (parts.toList.map fun p => (p.1, x p.2)) H with | some r => gA r.1 fun v => gH r.2 fun H' => k v H' | none => none)
 | .convert s d a => (match vT cfg nid s d (x a) H with | some r => gA r.1 fun v => gH r.2 fun H' => k v H' | none => none)
 | .makeSlice t l c => (match xV cfg nid t (x l) (x c) H with | some r => gA r.1 fun v => gH r.2 fun H' => k v H' | none => none)
 | .call c => (match evOp cfg nid (.call c) ty x H with | some r => gA r.1 fun v => gH r.2 fun H' => k v H' | none => none)
 | o => (match xOp cfg nid o ty x H with | some r => gA r.1 fun v => k v r.2 | none => none)
theorem qjS (cfg : Cfg) (nid : Option Nat) (o : Op) (ty : TypeId) (x : Operand → AV) (H : AH) (k : AV → AH → Option β) : yOp cfg nid o ty x H k = (evOp cfg nid o ty x H).bind fun r => k r.1 r.2 := by
 have em : ∀ (q : Option (AV × AH)), (match q with | some r => gA r.1 fun v => gH r.2 fun H' => k v H' | none => none) = q.bind fun r => k r.1 r.2 := fun q => by cases q <;> simp [yP, qbS]
 have em' : ∀ (q : Option (AV × AH)), (match q with | some r => gA r.1 fun v => k v r.2 | none => none) = q.bind fun r => k r.1 r.2 := fun q => by cases q <;> simp [yP]
 cases o with
 | move a => simp [yOp, evOp, qdv]
 | assign a => simp [yOp, evOp, qdv]
 | alloc t =>
  simp only [yOp, evOp, qhZ]
  cases cfg.ty t with
  | none => rfl
  | some ti =>
   simp only
   split
   ·simp only [qjt, qgN]
    cases aNew nid H (yd cfg t ti.zero) <;> rfl
   ·rfl
 | box t a =>
  simp only [yOp, evOp, yBox]
  cases (x a).cells with
  | none => rfl
  | some cs =>
   simp only [vV, v8, qgN]
   cases aNew nid H (.rows (bigZ cs) cs.length [cs]) <;> rfl
 | store t a v =>
  simp only [yOp, evOp]
  cases cfg.sz t with
  | none => rfl
  | some n =>
   simp only [qhU]
   cases xa n H (x a) (x v) <;> rfl
 | buildSlice t len parts => simp only [yOp]; rw [em]; rfl
 | convert s d a => simp only [yOp]; rw [em]; rfl
 | makeSlice t l c => simp only [yOp]; rw [em]; rfl
 | call c => simp only [yOp]; rw [em]
 | _ => simp only [yOp]; rw [em', qjU]
mutual
def AV.same : AV → AV → Bool
 | .int a b, .int c d => qS a c && decide (b = d)
 | .bool a, .bool b => a == b
 | .str a, .str b => a == b
 | .agg a, .agg b => xq a b
 | .tup a, .tup b => xq a b
 | .nilS, .nilS => true
 | .sl a, .sl b => qbK a b
 | .em, .em => true
 | .nilP, .nilP => true
 | .nilF, .nilF => true
 | .nilM, .nilM => true
 | .nilI, .nilI => true
 | .junk, .junk => true
 | .fn (.func f) a b, .fn (.func g) c d => qkG f g && (xq a c && xq b d)
 | .cptr a i, .cptr b j => qkG i j && xq a b
 | _, _ => false
def xq : List AV → List AV → Bool
 | [], [] => true
 | a :: l, b :: m => a.same b && xq l m
 | _, _ => false
def qbK : List (List AV) → List (List AV) → Bool
 | [], [] => true
 | a :: l, b :: m => xq a b && qbK l m
 | _, _ => false
end
mutual
theorem AV.same_eq : ∀ {a b : AV}, a.same b = true → a = b
 | .int a b, y, h => by
  cases y <;> simp [AV.same, qS] at h
  rw [h.1, h.2]
 | .bool a, y, h => by cases y <;> simp [AV.same] at h; rw [h]
 | .str a, y, h => by cases y <;> simp [AV.same] at h; rw [h]
 | .agg a, y, h => by cases y <;> simp [AV.same] at h; rw [xx h]
 | .tup a, y, h => by cases y <;> simp [AV.same] at h; rw [xx h]
 | .nilS, y, h => by cases y <;> simp [AV.same] at h; rfl
 | .sl a, y, h => by cases y <;> simp [AV.same] at h; rw [qfb h]
 | .em, y, h => by cases y <;> simp [AV.same] at h; rfl
 | .nilP, y, h => by cases y <;> simp [AV.same] at h; rfl
 | .nilF, y, h => by cases y <;> simp [AV.same] at h; rfl
 | .nilM, y, h => by cases y <;> simp [AV.same] at h; rfl
 | .nilI, y, h => by cases y <;> simp [AV.same] at h; rfl
 | .junk, y, h => by cases y <;> simp [AV.same] at h; rfl
 | .fn f a b, y, h => by
  cases f <;> cases y <;> first | (rename_i g c d; cases g <;> simp [AV.same] at h; rw [h.1, xx h.2.1, xx h.2.2]) | simp [AV.same] at h
 | .cptr a i, y, h => by
  cases y <;> simp [AV.same] at h
  rw [h.1, xx h.2]
 | .ms _ _ _, y, h => by cases y <;> simp [AV.same] at h
 | .ptr _ _ _, y, h => by cases y <;> simp [AV.same] at h
 | .yld _, y, h => by cases y <;> simp [AV.same] at h
 | .mp _, y, h => by cases y <;> simp [AV.same] at h
 | .ifc _ _, y, h => by cases y <;> simp [AV.same] at h
theorem xx : ∀ {a b : List AV}, xq a b = true → a = b
 | [], [], _ => rfl
 | a :: l, b :: m, h => by
  simp only [xq, qks] at h
  rw [AV.same_eq h.1, xx h.2]
 | [], _ :: _, h => by simp [xq] at h
 | _ :: _, [], h => by simp [xq] at h
theorem qfb : ∀ {a b : List (List AV)}, qbK a b = true → a = b
 | [], [], _ => rfl
 | a :: l, b :: m, h => by
  simp only [qbK, qks] at h
  rw [xx h.1, qfb h.2]
 | [], _ :: _, h => by simp [qbK] at h
 | _ :: _, [], h => by simp [qbK] at h
end
structure Fact where
 frz : Bool
 f : Nat
 args : List AV
 v : AV
def Fact.Ok (cfg : Cfg) (e : Fact) : Prop := (if e.frz then EVf (EV cfg) e.f e.args else EVs (EV cfg) e.f e.args) = some e.v
def qQ (cfg : Cfg) : List Fact → Prop
 | [] => True
 | e :: l => e.Ok cfg ∧ qQ cfg l
theorem qQ.nil {cfg : Cfg} : qQ cfg [] := trivial
theorem qQ.consF {cfg : Cfg} {f : Nat} {args : List AV} {v : AV} {l : List Fact} (h : EVf (EV cfg) f args = some v) (t : qQ cfg l) : qQ cfg (⟨true, f, args, v⟩ :: l) := ⟨h, t⟩
noncomputable def zD (frz : Bool) (f : Nat) (args : List AV) (fs : List Fact) : Option AV :=
 List.rec (motive := fun _ => Option AV) none (fun e _ ih => cond (qkG e.f f && (e.frz == frz && xq e.args args)) (some e.v) ih) fs
theorem zZ {cfg : Cfg} {frz : Bool} {f : Nat} {args : List AV} {v : AV} : ∀ {fs : List Fact}, qQ cfg fs → zD frz f args fs = some v → (if frz then EVf (EV cfg) f args else EVs (EV cfg) f args) = some v
 | [], _, h => by cases h
 | e :: l, hok, h => by
  have hd : zD frz f args (e :: l) = cond (qkG e.f f && (e.frz == frz && xq e.args args)) (some e.v) (zD frz f args l) := rfl
  rw [hd] at h
  cases hc : (qkG e.f f && (e.frz == frz && xq e.args args)) with
  | true =>
   rw [hc] at h
   simp only [qks, beq_iff_eq] at hc
   cases h
   have := hok.1
   unfold Fact.Ok at this
   rw [← qkt hc.1, ← hc.2.1, ← xx hc.2.2]
   exact this
  | false =>
   rw [hc] at h
   exact zZ hok.2 h
noncomputable def qcF (cfg : Cfg) (cf : Orac) (nid : Option Nat) (t : Tgt) (args : List AV) (H : AH) (k : AV → AH → Option β) : Option β :=
 match qo cfg cf nid t args H with
 | some r => gA r.1 fun v => gH r.2 fun H' => k v H'
 | none => none
noncomputable def qhX (_cfg : Cfg) (cf : Orac) (fs : List Fact) (f : Nat) (al : List AV) (k : AV → Option β) : Option β :=
 cond (qg 0 al)
  (match zD false f al fs with
  | some v => cond v.scalar (k v) none
  | none => (match cf (.f f) al [] with | some r => gA r.1 fun v => cond v.scalar (k v) none | none => none)) none
noncomputable def qhY (_cfg : Cfg) (cf : Orac) (fs : List Fact) (f : Nat) (al : List AV) (k : AV → Option β) : Option β :=
 cond (qg 0 al)
  (match zD true f al fs with
  | some v => cond (v.refsLt 0) (k v) none
  | none => (match cf (.f f) al [] with | some r => gA (r.1.frz r.1.msIds r.2).fg fun v => cond (v.refsLt 0) (k v) none | none => none)) none
noncomputable def qe0 (cfg : Cfg) (cf : Orac) (fs : List Fact) (nid : Option Nat) (t : Tgt) (args : List AV) (H : AH) (k : AV → AH → Option β) : Option β :=
 match t with
 | .y id => qcF cfg cf nid (.y id) args H k
 | .f f =>
  match cfg.mode f with
  | .scal => gL gA (args.map fun a => (a.snap H).fg) fun al => qhX cfg cf fs f al fun v => k v H
  | .pfrz => gL gA (args.map AV.fg) fun al => qhY cfg cf fs f al fun v => k v H
  | _ => qcF cfg cf nid (.f f) args H k
noncomputable def qhW (cfg : Cfg) (cf : Orac) (fs : List Fact) (nid : Option Nat) (f : AV) (args : List AV) (H : AH) (k : AV → AH → Option β) : Option β :=
 match vU f args with
 | some t => qe0 cfg cf fs nid t.1 t.2 H k
 | none => none
def Le (cf cf' : Orac) : Prop := ∀ t a H r, cf t a H = some r → cf' t a H = some r
theorem qf1 {cfg : Cfg} {cf : Orac} (hcf : Le cf (EV cfg)) {fs : List Fact} (hfs : qQ cfg fs) {nid : Option Nat} {t : Tgt} {args : List AV} {H : AH} {k : AV → AH → Option β} {r : β}
  (h : qe0 cfg cf fs nid t args H k = some r) : ∃ q, qo cfg (EV cfg) nid t args H = some q ∧ k q.1 q.2 = some r := by
 have hev : Ev (fun _ => EV cfg) cf := fun t a H r h => ⟨0, fun _ _ => hcf t a H r h⟩
 have gen : ∀ (t : Tgt), qcF cfg cf nid t args H k = some r → ∃ q, qo cfg (EV cfg) nid t args H = some q ∧ k q.1 q.2 = some r := by
  intro t h
  unfold qcF at h
  split at h
  ·rename_i q hq
   rw [yP, qbS] at h
   obtain ⟨n, hn⟩ := qfO hev cfg nid t args H q hq
   exact ⟨q, hn n (qku _), h⟩
  ·cases h
 cases t with
 | y id => exact gen _ h
 | f f =>
  simp only [qe0] at h
  cases hm : cfg.mode f with
  | scal =>
   simp only [hm, xL yP] at h
   unfold qhX at h
   obtain ⟨h1, h⟩ := qa h
   simp only [qo, hm, h1, if_true]
   split at h
   ·rename_i v hv
    obtain ⟨h2, h⟩ := qa h
    have := zZ hfs hv
    simp only [qkz, if_false] at this
    unfold EVs at this
    obtain ⟨q, hq, rfl⟩ := qkr.1 this
    rw [hq]
    exact ⟨(q.1, H), by simp only [qkA, h2, if_true], h⟩
   ·split at h
    ·rename_i q hq
     rw [yP] at h
     obtain ⟨h2, h⟩ := qa h
     rw [hcf _ _ _ _ hq]
     exact ⟨(q.1, H), by simp only [qkA, h2, if_true], h⟩
    ·cases h
  | pfrz =>
   simp only [hm, xL yP] at h
   unfold qhY at h
   obtain ⟨h1, h⟩ := qa h
   simp only [qo, hm, h1, if_true]
   split at h
   ·rename_i v hv
    obtain ⟨h2, h⟩ := qa h
    have := zZ hfs hv
    simp only [if_true] at this
    unfold EVf at this
    obtain ⟨q, hq, rfl⟩ := qkr.1 this
    rw [hq]
    exact ⟨((q.1.frz q.1.msIds q.2).fg, H), by simp only [qkA, h2, if_true], h⟩
   ·split at h
    ·rename_i q hq
     rw [yP] at h
     obtain ⟨h2, h⟩ := qa h
     rw [hcf _ _ _ _ hq]
     exact ⟨((q.1.frz q.1.msIds q.2).fg, H), by simp only [qkA, h2, if_true], h⟩
    ·cases h
  | _ => simp only [hm] at h; exact gen _ h
noncomputable def zq (cfg : Cfg) (cf : Orac) (fs : List Fact) (nid : Option Nat) (o : Op) (ty : TypeId) (x : Operand → AV) (H : AH) (k : AV → AH → Option β) : Option β :=
 match o with
 | .call c =>
  (match c.callee with
  | .value f => gL gW (c.args.toList.map x) fun args => qhW cfg cf fs nid (x f) args H k
  | _ => yOp cfg nid (.call c) ty x H k)
 | o => yOp cfg nid o ty x H k
noncomputable def qeI (cfg : Cfg) (cf : Orac) (fs : List Fact) (frz : Bool) (nid : Option Nat) (o : Oper) (x : Operand → AV) (H : AH) (k : AV → AH → Option β) : Option β :=
 match frz with
 | false => zq cfg cf fs nid o.op o.type x H k
 | true => gS (o.op.operands.toList.flatMap fun a => (x a).msIds) fun ids => gH (qm ids H) fun H' => zq cfg cf fs nid o.op o.type (fun a => (x a).frz ids H) H' k
theorem qbX {cfg : Cfg} {cf : Orac} (hcf : Le cf (EV cfg)) {fs : List Fact} (hfs : qQ cfg fs) {nid : Option Nat} {o : Oper} {x : Operand → AV} {H : AH} {k : AV → AH → Option β} {r : β}
  (h : zq cfg cf fs nid o.op o.type x H k = some r) : ∃ q, qv cfg (EV cfg) false nid o x H = some q ∧ k q.1 q.2 = some r := by
 obtain ⟨dst, op, ty, pos, after, guard⟩ := o
 unfold qv
 simp only [qkz, if_false] at h ⊢
 have plain : ∀ (op : Op), yOp cfg nid op ty x H k = some r → ∃ q, evOp cfg nid op ty x H = some q ∧ k q.1 q.2 = some r := by
  intro op h
  rw [qjS] at h
  exact qkq.1 h
 cases op with
 | call c =>
  obtain ⟨callee, args, argTypes⟩ := c
  cases callee with
  | value f =>
   simp only [zq, xL qdv] at h ⊢
   unfold qhW at h
   split at h
   ·rename_i t ht
    rw [ht]
    exact qf1 hcf hfs h
   ·cases h
  | builtin b => simp only [zq] at h ⊢; exact plain _ h
  | invoke rv nm => simp only [zq] at h ⊢; exact plain _ h
 | _ => simp only [zq] at h ⊢; exact plain _ h
theorem qcA {cfg : Cfg} {cf : Orac} (hcf : Le cf (EV cfg)) {fs : List Fact} (hfs : qQ cfg fs) {frz : Bool} {nid : Option Nat} {o : Oper} {x : Operand → AV} {H : AH} {k : AV → AH → Option β} {r : β}
  (h : qeI cfg cf fs frz nid o x H k = some r) : ∃ q, qv cfg (EV cfg) frz nid o x H = some q ∧ k q.1 q.2 = some r := by
 cases frz with
 | false => exact qbX hcf hfs h
 | true =>
  simp only [qeI, vV, qbS] at h
  obtain ⟨q, h1, h2⟩ := qbX hcf hfs h
  refine ⟨q, ?_, h2⟩
  unfold qv at h1 ⊢
  simpa using h1
noncomputable def yOps (cfg : Cfg) (cf : Orac) (fs : List Fact) (f rid : Nat) (ops : Array Oper) (n : Nat) : Nat → List Oper → Ov → AH → (Ov → AH → Option β) → Option β
 | _, [], ov, H, K => K ov H
 | i, o :: rest, ov, H, K =>
  match zl ops ov o with
  | none => none
  | some b =>
   cond b (qeI cfg cf fs (cfg.frz f rid i) none o (opdO ov) H fun v H' => yOps cfg cf fs f rid ops n (i + 1) rest (putO n ov o.dst v) H' K)
    (yOps cfg cf fs f rid ops n (i + 1) rest (putO n ov o.dst (.tup [])) H K)
theorem qa0 {cfg : Cfg} {cf : Orac} (hcf : Le cf (EV cfg)) {fs : List Fact} (hfs : qQ cfg fs) {f rid n : Nat} {ops : Array Oper} {r : β} : ∀ {l : List Oper} {i : Nat} {ov : Ov} {H : AH} {K : Ov → AH → Option β}, OvOk n ov → yOps cfg cf fs f rid ops n i l ov H K = some r →
  ∃ ov' H', OvOk n ov' ∧ x9 cfg (EV cfg) f rid ops i l (den n ov) H = some (den n ov', H') ∧ K ov' H' = some r
 | [], i, ov, H, K, hok, h => ⟨ov, H, hok, rfl, h⟩
 | o :: l, i, ov, H, K, hok, h => by
  rw [yOps] at h
  rw [x9, qcJ hok]
  cases hw : zl ops ov o with
  | none => rw [hw] at h; cases h
  | some b =>
   rw [hw] at h
   simp only [qkA]
   cases b with
   | true =>
    simp only [cond_true] at h
    obtain ⟨q, h1, h2⟩ := qcA hcf hfs h
    simp only [if_true, qah hok, h1, qkA]
    obtain ⟨ov', H', h3, h4, h5⟩ := qa0 hcf hfs (qbM hok _ _) h2
    rw [qaC] at h4
    exact ⟨ov', H', h3, h4, h5⟩
   | false =>
    simp only [cond_false] at h
    simp only [qkz, if_false]
    obtain ⟨ov', H', h3, h4, h5⟩ := qa0 hcf hfs (qbM hok _ _) h
    rw [qaC] at h4
    exact ⟨ov', H', h3, h4, h5⟩
noncomputable def qcE (cfg : Cfg) (cf : Orac) (fs : List Fact) (f rid : Nat) (ops : Array Oper) (n : Nat) : Nat → Nat → List Oper → Ov → AH → (List DR → Ov → AH → Option β) → Option β
 | _, _, [], ov, H, K => K [] ov H
 | i, at_, o :: rest, ov, H, K =>
  match zl ops ov o with
  | none => none
  | some b =>
   fNat (at_ + zB cfg o) fun at' =>
   cond b (qeI cfg cf fs (cfg.frz f rid i) (some at_) o (opdO ov) H fun v H' => qcE cfg cf fs f rid ops n (i + 1) at' rest (putO n ov o.dst v) H' fun fps ov' H'' => K (drOf cfg (cfg.frz f rid i) at_ o (opdO ov) H v H' :: fps) ov' H'')
    (qcE cfg cf fs f rid ops n (i + 1) at' rest (putO n ov o.dst (.tup [])) H fun fps ov' H'' => K (drNo H :: fps) ov' H'')
theorem qaw {cfg : Cfg} {cf : Orac} (hcf : Le cf (EV cfg)) {fs : List Fact} (hfs : qQ cfg fs) {f rid n : Nat} {ops : Array Oper} {r : β} : ∀ {l : List Oper} {i at_ : Nat} {ov : Ov} {H : AH} {K : List DR → Ov → AH → Option β}, OvOk n ov → qcE cfg cf fs f rid ops n i at_ l ov H K = some r →
  ∃ fps ov' H', OvOk n ov' ∧ vM cfg (EV cfg) f rid ops i at_ l (den n ov) H = some (fps, den n ov', H') ∧ K fps ov' H' = some r
 | [], i, at_, ov, H, K, hok, h => ⟨[], ov, H, hok, rfl, h⟩
 | o :: l, i, at_, ov, H, K, hok, h => by
  rw [qcE] at h
  rw [vM, qcJ hok]
  cases hw : zl ops ov o with
  | none => rw [hw] at h; cases h
  | some b =>
   rw [hw] at h
   simp only [qkA]
   simp only [v8] at h
   cases b with
   | true =>
    simp only [cond_true] at h
    obtain ⟨q, h1, h2⟩ := qcA hcf hfs h
    simp only [if_true, qah hok, h1, qkA]
    obtain ⟨fps, ov', H', h3, h4, h5⟩ := qaw hcf hfs (qbM hok _ _) h2
    rw [qaC] at h4
    exact ⟨_, ov', H', h3, by rw [h4]; rfl, h5⟩
   | false =>
    simp only [cond_false] at h
    simp only [qkz, if_false]
    obtain ⟨fps, ov', H', h3, h4, h5⟩ := qaw hcf hfs (qbM hok _ _) h
    rw [qaC] at h4
    exact ⟨_, ov', H', h3, by rw [h4]; rfl, h5⟩
def yV : Nat → List Nat → Bool
 | _, [] => true
 | i, k :: ks => qkJ i k && yV (k + 1) ks
noncomputable def qeL (ks : List Nat) (ov : Ov) : (Ov → α) → α :=
 List.rec (motive := fun _ => (Ov → α) → α) (fun K => K []) (fun t _ ih K => gW (qT t ov) fun v => ih fun l => K ((t, v) :: l)) ks
theorem qi0 (ks : List Nat) (ov : Ov) : ∀ (K : Ov → α), qeL ks ov K = K (ks.map fun t => (t, qT t ov)) := by
 induction ks with
 | nil => intro K; rfl
 | cons t l ih =>
  intro K
  have : qeL (t :: l) ov K = gW (qT t ov) fun v => qeL l ov fun l => K ((t, v) :: l) := rfl
  rw [this, qdv, ih, List.map_cons]
theorem ze : ∀ (ks : List Nat) (fr : List AV) (i t : Nat), yV i ks = true → (q5 i ks fr)[t]? = if t < fr.length then some (if i + t ∈ ks then (fr[t]?).getD .junk else .junk) else none
 | ks, [], i, t, _ => by cases ks <;> simp [q5]
 | [], a :: fr, i, t, h => by
  rw [q5]
  cases t with
  | zero => simp
  | succ t =>
   simp only [List.getElem?_cons_succ]
   rw [ze [] fr i t rfl]
   simp
 | k :: ks, a :: fr, i, t, h => by
  rw [yV, qks, Nat.ble_eq] at h
  rw [q5]
  have hge : ∀ (l : List Nat) (j : Nat), yV j l = true → ∀ x ∈ l, j ≤ x := by
   intro l
   induction l with
   | nil => intro j _ x hx; cases hx
   | cons y l ih =>
    intro j hj x hx
    rw [yV, qks, Nat.ble_eq] at hj
    rcases List.mem_cons.1 hx with rfl | hx
    ·exact hj.1
    ·have := ih _ hj.2 x hx; omega
  split
  ·rename_i e
   have e := qkt e
   subst e
   cases t with
   | zero => simp
   | succ t =>
    simp only [List.getElem?_cons_succ]
    rw [ze ks fr (i + 1) t h.2]
    have e1 : i + (t + 1) = i + 1 + t := by omega
    have e2 : ¬ i + 1 + t = i := by omega
    simp only [List.length_cons, Nat.add_lt_add_iff_right, e1, List.mem_cons, e2, false_or]
  ·rename_i e
   have hne : i ≠ k := fun h' => e (by rw [h']; exact Nat.beq_refl _)
   cases t with
   | zero =>
    have : i ∉ k :: ks := by
     intro hm
     rcases List.mem_cons.1 hm with rfl | hm
     ·exact hne rfl
     ·have := hge _ _ h.2 i hm; omega
    simp [this]
   | succ t =>
    simp only [List.getElem?_cons_succ]
    rw [ze (k :: ks) fr (i + 1) t (by rw [yV, qks, Nat.ble_eq]; exact ⟨by omega, h.2⟩)]
    have e1 : i + (t + 1) = i + 1 + t := by omega
    simp only [List.length_cons, Nat.add_lt_add_iff_right, e1]
theorem qih (ks : List Nat) (g : Nat → AV) (t : Nat) : qT t (ks.map fun t => (t, g t)) = if t ∈ ks then g t else .junk := by
 induction ks with
 | nil => rfl
 | cons k l ih =>
  rw [List.map_cons, ym, ih]
  by_cases e : k = t
  ·subst e; simp
  ·have h1 : qkG k t = false := by rw [← Bool.not_eq_true]; intro h'; exact e (qkt h')
   have h2 : ¬ t = k := fun h => e h.symm
   rw [h1, cond_false]
   simp only [List.mem_cons, h2, false_or]
noncomputable def qcB (n : Nat) (ts : Option (List Nat)) (ov : Ov) (K : Ov → Option β) : Option β :=
 match ts with
 | none => K ov
 | some ks => cond (yV 0 ks && ks.all fun t => Nat.blt t n) (qeL ks ov K) none
theorem qav {n : Nat} {ts : Option (List Nat)} {ov : Ov} {K : Ov → Option β} {r : β} (hok : OvOk n ov) (h : qcB n ts ov K = some r) : ∃ ov', OvOk n ov' ∧ qE ts (den n ov) = den n ov' ∧ K ov' = some r := by
 cases ts with
 | none => exact ⟨ov, hok, rfl, h⟩
 | some ks =>
  simp only [qcB, qi0] at h
  cases hc : (yV 0 ks && ks.all fun t => Nat.blt t n) with
  | false => rw [hc] at h; cases h
  | true =>
   rw [hc] at h
   rw [qks, List.all_eq_true] at hc
   have hok' : OvOk n (ks.map fun t => (t, qT t ov)) := by
    intro p hp
    obtain ⟨t, ht, rfl⟩ := List.mem_map.1 hp
    have := hc.2 t ht
    simpa [qkI] using this
   refine ⟨_, hok', (qea hok' ?_ fun t ht => ?_).symm, h⟩
   ·show (q5 0 ks (den n ov)).length = n
    rw [(yp (ts := ks) (fr := den n ov) (k := 0)).1, qan]
   ·show (q5 0 ks (den n ov))[t]? = _
    rw [ze _ _ _ _ hc.1, qan, if_pos ht, Nat.zero_add, qih, qao hok, if_pos ht]
    rfl
noncomputable def za (n : Nat) : List (Tmp × Nat) → Ov → AH → (Ov → AH → Option β) → Option β
 | [], ov, H, K => K ov H
 | p :: l, ov, H, K =>
  match qT p.1 ov with
  | .nilS => fNat H.length fun i => cond (Nat.blt p.1 n) (gS (H ++ [.rows true p.2 []]) fun H' => za n l ((p.1, .ms i 0 0) :: ov) H' K) none
  | .ptr _ _ _ => (match xr p.1 p.2 (den n ov) H with | q => gH q.2 fun H' => za n l ov H' K)
  | _ => za n l ov H K
theorem qil {t sz : Nat} {fr : List AV} {H : AH} {id r off : Nat} (h : fr[t]? = some (.ptr id r off)) : (xr t sz fr H).1 = fr := by
 unfold xr
 rw [h]
 simp only
 split
 ·split
  ·split <;> rfl
  ·rfl
 ·rfl
theorem xH {n : Nat} {r : β} : ∀ {ls : List (Tmp × Nat)} {ov : Ov} {H : AH} {K : Ov → AH → Option β}, OvOk n ov → za n ls ov H K = some r → ∃ ov' H', OvOk n ov' ∧ qx ls (den n ov) H = (den n ov', H') ∧ K ov' H' = some r
 | [], ov, H, K, hok, h => ⟨ov, H, hok, rfl, h⟩
 | p :: l, ov, H, K, hok, h => by
  rw [za] at h
  rw [qx]
  have hget : (den n ov)[p.1]? = if p.1 < n then some (qT p.1 ov) else none := qao hok p.1
  split at h
  ·rename_i hv
   simp only [v8] at h
   cases hb : Nat.blt p.1 n with
   | false => rw [hb] at h; cases h
   | true =>
    rw [hb] at h
    simp only [cond_true, vV] at h
    have hlt : p.1 < n := by simpa [qkI] using hb
    have hl1 : xr p.1 p.2 (den n ov) H = (den n ((p.1, .ms H.length 0 0) :: ov), H ++ [.rows true p.2 []]) := by
     unfold xr
     rw [hget, if_pos hlt, hv]; rfl
    rw [hl1]
    exact xH (fun q hq => (List.mem_cons.1 hq).elim (fun e => by subst e; exact hlt) (hok q)) h
  ·rename_i id r' off hv
   simp only [qbS] at h
   by_cases hlt : p.1 < n
   ·rw [qil (by rw [hget, if_pos hlt, hv])]
    exact xH hok h
   ·rw [qba hok hlt] at hv; cases hv
  ·rename_i h1 h2
   have hl1 : xr p.1 p.2 (den n ov) H = (den n ov, H) := by
    unfold xr
    rw [hget]
    by_cases hlt : p.1 < n
    ·rw [if_pos hlt]
     split
     ·rename_i e; exact absurd (Option.some.inj e) h1
     ·rename_i a b c e; exact absurd (Option.some.inj e) (h2 a b c)
     ·rfl
    ·rw [if_neg hlt]
   rw [hl1]
   exact xH hok h
def spGo : Nat → List AV → Ov
 | _, [] => []
 | i, .junk :: l => spGo (i + 1) l
 | i, v :: l => (i, v) :: spGo (i + 1) l
theorem qe6 : ∀ (l : List AV) (i t : Nat), qT t (spGo i l) = if i ≤ t then (l[t - i]?).getD .junk else .junk
 | [], i, t => by simp [spGo, qa9]
 | a :: l, i, t => by
  have ih := qe6 l (i + 1) t
  have key : ∀ (ov : Ov), ov = (i, a) :: spGo (i + 1) l → qT t ov = if i ≤ t then ((a :: l)[t - i]?).getD .junk else .junk := by
   intro ov e
   rw [e, ym, ih]
   by_cases e2 : i = t
   ·subst e2; simp
   ·have h1 : qkG i t = false := by rw [← Bool.not_eq_true]; intro h'; exact e2 (qkt h')
    simp only [h1, cond_false]
    by_cases h3 : i + 1 ≤ t
    ·have h4 : t - i = (t - (i + 1)) + 1 := by omega
     rw [if_pos h3, if_pos (by omega), h4, List.getElem?_cons_succ]
    ·rw [if_neg h3, if_neg (by omega)]
  cases a with
  | junk =>
   show qT t (spGo (i + 1) l) = _
   rw [ih]
   by_cases h3 : i + 1 ≤ t
   ·have h4 : t - i = (t - (i + 1)) + 1 := by omega
    rw [if_pos h3, if_pos (by omega), h4, List.getElem?_cons_succ]
   ·rw [if_neg h3]
    by_cases e2 : i = t
    ·subst e2; simp
    ·rw [if_neg (by omega)]
  | _ => exact key _ rfl
theorem qad : ∀ (l : List AV) (i n : Nat), i + l.length ≤ n → OvOk n (spGo i l)
 | [], i, n, _ => fun p hp => by cases hp
 | a :: l, i, n, h => by
  simp only [List.length_cons] at h
  have ih := qad l (i + 1) n (by omega)
  have key : OvOk n ((i, a) :: spGo (i + 1) l) := fun p hp => by
   rcases List.mem_cons.1 hp with rfl | hp
   ·show i < n; omega
   ·exact ih p hp
  cases a <;> first | exact key | exact ih
theorem qfN (l : List AV) : den l.length (spGo 0 l) = l := by
 have hok := qad l 0 l.length (by omega)
 refine qea hok rfl fun t ht => ?_
 rw [qe6, if_pos (Nat.zero_le _), Nat.sub_zero, qkv ht]; rfl
noncomputable def yGc (n k : Nat) (ov : Ov) (H : AH) (K : Ov → AH → Option β) : Option β :=
 cond (qkJ H.length k) (K ov H) (match yx k (den n ov) H with | q => gS (spGo 0 q.1) fun ov' => gL gP ov' fun ov' => gH q.2 fun H' => K ov' H')
theorem qiT (ρ : Nat → Nat) (l : List AV) : (renL ρ l).length = l.length := by rw [vN]; simp
theorem qiw (k : Nat) (fr : List AV) (H : AH) : (yx k fr H).1.length = fr.length := by
 unfold yx
 simp only
 cases vg H (q8 k H (2 * H.length + 16) [] (qj k fr ++ ve k (H.take k))) with
 | none => rfl
 | some bs =>
  simp only
  split
  ·exact qiT _ _
  ·rfl
theorem qiM {n k : Nat} {ov : Ov} {H : AH} {K : Ov → AH → Option β} {r : β} (hok : OvOk n ov) (h : yGc n k ov H K = some r) : ∃ ov' H', OvOk n ov' ∧ gc k (den n ov) H = (den n ov', H') ∧ K ov' H' = some r := by
 unfold yGc at h
 unfold gc
 cases hb : qkJ H.length k with
 | true => rw [hb] at h; exact ⟨ov, H, hok, by simp, h⟩
 | false =>
  rw [hb] at h
  simp only [cond_false] at h
  rw [vV, xL qjs, qbS] at h
  have hl : (yx k (den n ov) H).1.length = n := by rw [qiw, qan]
  have := qfN (yx k (den n ov) H).1
  rw [hl] at this
  refine ⟨_, _, ?_, ?_, h⟩
  ·exact qad _ _ _ (by omega)
  ·simp only [qkz, if_false, this]
noncomputable def qgW (n k : Nat) (ts : Option (List Tmp)) (ls : List (Tmp × Nat)) (ov : Ov) (H : AH) (K : Ov → AH → Option β) : Option β :=
 qcB n ts ov fun ov => za n ls ov H fun ov H => yGc n k ov H K
theorem qcD {n k : Nat} {ts : Option (List Tmp)} {ls : List (Tmp × Nat)} {ov : Ov} {H : AH} {K : Ov → AH → Option β} {r : β} (hok : OvOk n ov) (h : qgW n k ts ls ov H K = some r) :
  ∃ ov' H', OvOk n ov' ∧ xD k ts ls (den n ov) H = (den n ov', H') ∧ K ov' H' = some r := by
 obtain ⟨ov1, h1, h2, h⟩ := qav hok h
 obtain ⟨ov2, H2, h3, h4, h⟩ := xH h1 h
 obtain ⟨ov3, H3, h5, h6, h⟩ := qiM h3 h
 refine ⟨ov3, H3, h5, ?_, h⟩
 unfold xD
 rw [h2, h4]
 exact h6
abbrev YE (β : Type) := Ex → Ov → AH → Option β
noncomputable def qeJ (n k : Nat) (ts : Option (List Tmp)) (ls : List (Tmp × Nat)) (body : Ov → AH → YE β → Option β) : Nat → Ov → AH → YE β → Option β
 | 0, _, _, _ => none
 | m + 1, ov, H, K => body ov H fun e ov' H' =>
  match e with
  | .normal => qgW n k ts ls ov' H' fun ov2 H2 => qeJ n k ts ls body m ov2 H2 K
  | e => K e ov' H'
noncomputable def qhV (cfg : Cfg) (cf : Orac) (f : Nat) (rd : Option Nat) (n bs : Nat) (g : Operand) (ps : Array Tmp) (assign body : Code) (ov : Ov) (H : AH) (K : YE β) : Option β :=
 gL gW (den n ov) fun fr =>
 match yh cfg cf f rd bs g ps assign body fr H with
 | none => none
 | some q => gS (spGo 0 q.2.1) fun ov' => gL gP ov' fun ov' => gH q.2.2 fun H' => cond (qkG q.2.1.length n) (K q.1 ov' H') none
noncomputable def yC (cfg : Cfg) (cf : Orac) (fs : List Fact) (m f : Nat) (rd : Option Nat) (n bs : Nat) : Code → Ov → AH → YE β → Option β
 | .skip, ov, H, K => K .normal ov H
 | .label _, ov, H, K => K .normal ov H
 | .region id ops draw, ov, H, K =>
  match draw with
  | true => cond (zG ops) (gS (H ++ qkE (places cfg ops.toList) .res) fun H1 => qcE cfg cf fs f id ops n 0 H.length ops.toList ov H1 fun fps ov' H' => cond (qam (ancs [] ops.toList) H1 fps) (K .normal ov' H') none) none
  | false => yOps cfg cf fs f id ops n 0 ops.toList ov H fun ov' H' => K .normal ov' H'
 | .seq a b, ov, H, K => yC cfg cf fs m f rd n bs a ov H fun e ov' H' =>
  match e with
  | .normal => qcB n (cfg.cut f (qf b)) ov' fun ov2 => yC cfg cf fs m f rd n bs b ov2 H' K
  | e => K e ov' H'
 | .cond c a b, ov, H, K =>
  match opdO ov c with
  | .bool t => (match t with | true => yC cfg cf fs m f rd n bs a ov H K | false => yC cfg cf fs m f rd n bs b ov H K)
  | _ => none
 | .block id a, ov, H, K => yC cfg cf fs m f rd n bs a ov H fun e ov' H' =>
  match e with
  | .exit id' => cond (qkG id' id) (K .normal ov' H') (K (.exit id') ov' H')
  | e => K e ov' H'
 | .loop a, ov, H, K => qgW n bs (cfg.keepIn f (qf a)) (cfg.lift f (qf a)) ov H fun ov H =>
   qeJ n bs (cfg.keepIn f (qf a)) (cfg.lift f (qf a)) (yC cfg cf fs m f rd n bs a) m ov H fun e ov H => qcB n (cfg.keepOut f (qf a)) ov fun ov => K e ov H
 | .scope a, ov, H, K => yC cfg cf fs m f rd n bs a ov H fun e ov' H' =>
  match e with
  | .goto _ => none
  | e => K e ov' H'
 | .exit id, ov, H, K => K (.exit id) ov H
 | .goto _, _, _, _ => none
 | .ret, ov, H, K => K .ret ov H
 | .rangeFunc g ps assign body, ov, H, K => za n (cfg.lift f (qf body)) ov H fun ov H => qhV cfg cf f rd n bs g ps assign body ov H K
 | .refuse _, _, _, _ => none
theorem qcC {n k : Nat} {ts : Option (List Tmp)} {ls : List (Tmp × Nat)} {body : Ov → AH → YE β → Option β} {den' : Den} {r : β}
  (hb : ∀ {ov H K}, OvOk n ov → body ov H K = some r → ∃ e ov' H', OvOk n ov' ∧ den' (den n ov) H = some (e, den n ov', H') ∧ K e ov' H' = some r) :
  ∀ (m : Nat) {ov : Ov} {H : AH} {K : YE β}, OvOk n ov → qeJ n k ts ls body m ov H K = some r → ∃ e ov' H', OvOk n ov' ∧ xc k ts ls den' m (den n ov, H) = some (e, den n ov', H') ∧ K e ov' H' = some r
 | 0, ov, H, K, _, h => by cases h
 | m + 1, ov, H, K, hok, h => by
  rw [qeJ] at h
  obtain ⟨e, ov1, H1, h1, h2, h3⟩ := hb hok h
  rw [xc]
  simp only [h2, qkA]
  cases e with
  | normal =>
   simp only at h3 ⊢
   obtain ⟨ov2, H2, h4, h5, h6⟩ := qcD h1 h3
   rw [h5]
   exact qcC hb m h4 h6
  | exit id => exact ⟨_, ov1, H1, h1, rfl, h3⟩
  | goto l => exact ⟨_, ov1, H1, h1, rfl, h3⟩
  | ret => exact ⟨_, ov1, H1, h1, rfl, h3⟩
theorem qdV {cfg : Cfg} {cf : Orac} (hcf : Le cf (EV cfg)) {fs : List Fact} (hfs : qQ cfg fs) {m f : Nat} {rd : Option Nat} {n bs : Nat} {r : β} : ∀ (c : Code) {ov : Ov} {H : AH} {K : YE β}, OvOk n ov → yC cfg cf fs m f rd n bs c ov H K = some r →
  ∃ e ov' H', OvOk n ov' ∧ evC cfg (EV cfg) f rd bs c (den n ov) H = some (e, den n ov', H') ∧ K e ov' H' = some r := by
 intro c
 induction c with
 | skip => intro ov H K hok h; exact ⟨_, ov, H, hok, by simp only [evC], h⟩
 | label l => intro ov H K hok h; exact ⟨_, ov, H, hok, by simp only [evC], h⟩
 | exit id => intro ov H K hok h; exact ⟨_, ov, H, hok, by simp only [evC], h⟩
 | ret => intro ov H K hok h; exact ⟨_, ov, H, hok, by simp only [evC], h⟩
 | goto l => intro ov H K hok h; cases h
 | refuse s => intro ov H K hok h; cases h
 | region id ops draw =>
  intro ov H K hok h
  simp only [yC] at h
  simp only [evC]
  cases draw with
  | true =>
   simp only at h
   obtain ⟨h1, h⟩ := qa h
   rw [vV] at h
   obtain ⟨fps, ov', H', h2, h3, h⟩ := qaw hcf hfs hok h
   obtain ⟨h4, h⟩ := qa h
   exact ⟨_, ov', H', h2, by simp only [if_true, h1, h3, qkA, h4], h⟩
  | false =>
   simp only at h
   obtain ⟨ov', H', h2, h3, h⟩ := qa0 hcf hfs hok h
   exact ⟨_, ov', H', h2, by simp only [qkz, if_false, h3, qkD], h⟩
 | seq x y ihx ihy =>
  intro ov H K hok h
  simp only [yC] at h
  simp only [evC]
  obtain ⟨e, ov1, H1, h1, h2, h⟩ := ihx hok h
  rw [h2]
  simp only [qkA]
  cases e with
  | normal =>
   simp only at h ⊢
   obtain ⟨ov2, h3, h4, h⟩ := qav h1 h
   rw [h4]
   exact ihy h3 h
  | exit id => exact ⟨_, ov1, H1, h1, rfl, h⟩
  | goto l => exact ⟨_, ov1, H1, h1, rfl, h⟩
  | ret => exact ⟨_, ov1, H1, h1, rfl, h⟩
 | cond c x y ihx ihy =>
  intro ov H K hok h
  simp only [yC] at h
  simp only [evC, qah hok]
  split at h
  ·rename_i t ht
   rw [ht]
   cases t with
   | true => exact ihx hok h
   | false => exact ihy hok h
  ·cases h
 | block id x ih =>
  intro ov H K hok h
  simp only [yC] at h
  simp only [evC]
  obtain ⟨e, ov1, H1, h1, h2, h⟩ := ih hok h
  rw [h2]
  simp only [qkA]
  cases e with
  | normal => exact ⟨_, ov1, H1, h1, rfl, h⟩
  | exit id' =>
   simp only at h ⊢
   cases hb : qkG id' id with
   | true => rw [hb] at h; exact ⟨_, ov1, H1, h1, by simp, h⟩
   | false => rw [hb] at h; exact ⟨_, ov1, H1, h1, by simp, h⟩
  | goto l => exact ⟨_, ov1, H1, h1, rfl, h⟩
  | ret => exact ⟨_, ov1, H1, h1, rfl, h⟩
 | loop x ih =>
  intro ov H K hok h
  simp only [yC] at h
  simp only [evC]
  obtain ⟨ov1, H1, h1, h2, h⟩ := qcD hok h
  rw [h2]
  obtain ⟨e, ov2, H2, h3, h4, h⟩ := qcC (den' := evC cfg (EV cfg) f rd bs x) (fun hok h => ih hok h) m h1 h
  obtain ⟨ov3, h5, h6, h⟩ := qav h3 h
  rw [qbV h4]
  exact ⟨e, ov3, H2, h5, by simp only [qkD, h6], h⟩
 | scope x ih =>
  intro ov H K hok h
  simp only [yC] at h
  simp only [evC]
  obtain ⟨e, ov1, H1, h1, h2, h⟩ := ih hok h
  rw [h2]
  simp only [qkA]
  cases e with
  | goto l => cases h
  | normal => exact ⟨_, ov1, H1, h1, rfl, h⟩
  | exit id => exact ⟨_, ov1, H1, h1, rfl, h⟩
  | ret => exact ⟨_, ov1, H1, h1, rfl, h⟩
 | rangeFunc g ps assign body =>
  intro ov H K hok h
  simp only [yC] at h
  simp only [evC]
  obtain ⟨ov1, H1, h1, h2, h⟩ := xH hok h
  rw [h2]
  simp only
  unfold qhV at h
  rw [xL qdv] at h
  split at h
  ·cases h
  ·rename_i q hq
   have hq : yh cfg (EV cfg) f rd bs g ps assign body (den n ov1) H1 = some q := by
    unfold yh at hq ⊢
    split at hq
    ·rename_i hl
     rw [if_pos hl]
     split at hq
     ·split at hq
      ·cases hq
      ·rename_i hx
       rw [if_neg hx]
       obtain ⟨q2, hq2, hq⟩ := qkq.1 hq
       rw [hcf _ _ _ _ hq2]
       exact hq
     ·cases hq
    ·cases hq
   rw [vV, xL qjs, qbS] at h
   obtain ⟨hl, h⟩ := qa h
   have hl := qkt hl
   have hd := qfN q.2.1
   rw [hl] at hd
   refine ⟨q.1, _, q.2.2, ?_, ?_, h⟩
   ·exact qad _ _ _ (by omega)
   ·rw [hq, hd]
noncomputable def resO (rs : List ResultVar) (ty : TypeId → Option TI) (ov : Ov) (H : AH) : Option (List AV) :=
 match rs with
 | [] => some []
 | .tmp t :: l => (resO l ty ov H).map fun vs => qT t ov :: vs
 | .cell a t :: l =>
  match ty t with
  | some ti => (xh ti.d.agg ti.sz H (qT a ov)).bind fun v => (resO l ty ov H).map fun vs => v :: vs
  | none => none
theorem qd0 {n : Nat} {ov : Ov} (hok : OvOk n ov) (ty : TypeId → Option TI) (H : AH) : ∀ rs : List ResultVar, q4 rs ty (den n ov) H = resO rs ty ov H
 | [] => rfl
 | .tmp t :: l => by
  have : (den n ov).getD t .junk = qT t ov := congrFun (qah hok) (.tmp t)
  simp only [q4, resO, qd0 hok ty H l, this]
 | .cell a t :: l => by
  have : (den n ov).getD a .junk = qT a ov := congrFun (qah hok) (.tmp a)
  simp only [q4, resO, qd0 hok ty H l, this]
  cases ty t <;> rfl
noncomputable def yEnd (cfg : Cfg) (f n : Nat) (rs : List ResultVar) : YE (AV × AH) := fun e ov H =>
 match e with
 | .normal | .ret => za n (cfg.lift f 0) ov H fun ov H => (match resO rs cfg.ty ov H with | some vs => gA (vZ vs) fun v => some (v, H) | none => none)
 | _ => none
def qaQ : Nat → List AV → Ov
 | _, [] => []
 | i, a :: l => (i, a) :: qaQ (i + 1) l
theorem qcx : ∀ (l : List AV) (i n : Nat), i + l.length ≤ n → OvOk n (qaQ i l)
 | [], i, n, _ => fun p hp => by cases hp
 | a :: l, i, n, h => by
  simp only [List.length_cons] at h
  intro p hp
  rcases List.mem_cons.1 hp with rfl | hp
  ·show i < n; omega
  ·exact qcx l (i + 1) n (by omega) p hp
theorem qex : ∀ (l : List AV) (i t : Nat), qT t (qaQ i l) = if i ≤ t then (l[t - i]?).getD .junk else .junk
 | [], i, t => by simp [qaQ, qa9]
 | a :: l, i, t => by
  rw [qaQ, ym, qex l (i + 1) t]
  by_cases e2 : i = t
  ·subst e2; simp
  ·have h1 : qkG i t = false := by rw [← Bool.not_eq_true]; intro h'; exact e2 (qkt h')
   simp only [h1, cond_false]
   by_cases h3 : i + 1 ≤ t
   ·have h4 : t - i = (t - (i + 1)) + 1 := by omega
    rw [if_pos h3, if_pos (by omega), h4, List.getElem?_cons_succ]
   ·rw [if_neg h3, if_neg (by omega)]
theorem qjd {l : List AV} {n : Nat} (h : l.length ≤ n) : den n (qaQ 0 l) = l ++ qkE (n - l.length) .junk := by
 refine qea (qcx l 0 n (by omega)) (by simp; omega) fun t ht => ?_
 rw [qex, if_pos (Nat.zero_le _), Nat.sub_zero]
 by_cases hl : t < l.length
 ·rw [qkx hl, qkv hl]; rfl
 ·rw [qkB (by omega), List.getElem?_replicate, if_pos (by omega), List.getElem?_eq_none (by omega)]; rfl
noncomputable def yY2 (id : Nat) : YE (AV × AH) := fun e _ H =>
 match H[id]? with
 | some (.loop f' fr' ps' assign' body' _ _) =>
  match e with
  | .normal => gS (H.set id (.loop f' fr' ps' assign' body' none .ready)) fun H' => some (.bool true, H')
  | .ret => gS (H.set id (.loop f' fr' ps' assign' body' (some .ret) .done)) fun H' => some (.bool false, H')
  | .exit x => gS (H.set id (.loop f' fr' ps' assign' body' (some (.exit x)) .done)) fun H' => some (.bool false, H')
  | .goto _ => none
 | _ => none
noncomputable def yF (cfg : Cfg) (look : Nat → Option Func) (fs : List Fact) (m : Nat) : Nat → Orac
 | 0, _, _, _ => none
 | d + 1, .f f, args, H =>
  match cfg.ext f with
  | some s => s args H
  | none =>
   if cfg.known f then
    match look f with
    | some fn =>
     match fn.body with
     | some c => cond (qkJ args.length fn.ntmps) (fNat H.length fun bs => fNat fn.ntmps fun n => gS (qaQ 0 args) fun ov => yC cfg (yF cfg look fs m d) fs m f none n bs c ov H (yEnd cfg f n fn.results.toList)) none
     | none => none
    | none => none
   else none
 | d + 1, .y id, args, H =>
  match H[id]? with
  | some (.loop f fr ps assign body _ .ready) =>
   cond (qkG args.length ps.length)
    (fNat H.length fun bs => fNat (vt fr ps args).length fun n => gS (spGo 0 (vt fr ps args)) fun ov => yC cfg (yF cfg look fs m d) fs m f (some id) n bs assign ov H fun e ov H =>
     match e with
     | .normal =>
      (match H[id]? with
      | some (.loop f' fr' ps' assign' body' pend' .ready) => gS (H.set id (.loop f' fr' ps' assign' body' pend' .busy)) fun H' => yC cfg (yF cfg look fs m d) fs m f (some id) n bs body ov H' (yY2 id)
      | _ => none)
     | _ => none) none
  | _ => none
theorem qgX (cfg : Cfg) {look : Nat → Option Func} (hl : ∀ f fn, look f = some fn → cfg.P.funcs[f]? = some fn) {fs : List Fact} (hfs : qQ cfg fs) (m : Nat) : ∀ (d : Nat) (t : Tgt) (a : List AV) (H : AH) (r), yF cfg look fs m d t a H = some r → EV cfg t a H = some r
 | 0, _, _, _, _, h => by cases h
 | d + 1, t, a, H, r, h => by
  have ih := qgX cfg hl hfs m d
  refine qeX ?_
  cases t with
  | f f =>
   simp only [yF] at h
   unfold qX
   split at h
   ·rename_i s hs
    simp only [hs]
    exact h
   ·rename_i hs
    simp only [hs]
    split at h
    ·rename_i hk
     rw [if_pos hk]
     split at h
     ·rename_i fn hf
      simp only [hl f fn hf]
      split at h
      ·rename_i c hb
       simp only [hb]
       obtain ⟨hle, h⟩ := qa h
       rw [Nat.ble_eq] at hle
       simp only [v8, vV] at h
       obtain ⟨e, ov', H', h1, h2, h3⟩ := qdV ih hfs c (qcx a 0 fn.ntmps (by omega)) h
       rw [qjd hle] at h2
       rw [h2]
       simp only [qkA]
       unfold yEnd at h3
       have fin : ∀ (e : Ex), (e = .normal ∨ e = .ret) → (za fn.ntmps (cfg.lift f 0) ov' H' fun ov H => (match resO fn.results.toList cfg.ty ov H with | some vs => gA (vZ vs) fun v => some (v, H) | none => none)) = some r →
         y0 cfg fn.results.toList (e, qx (cfg.lift f 0) (den fn.ntmps ov') H') = some r := by
        intro e he h3
        obtain ⟨ov2, H2, h4, h5, h6⟩ := xH h1 h3
        rw [h5]
        unfold y0
        rcases he with rfl | rfl <;>
        ·simp only [qd0 h4]
         split at h6
         ·rename_i vs hv
          rw [yP] at h6
          rw [hv]
          exact h6
         ·cases h6
       cases e with
       | normal => exact fin _ (.inl rfl) h3
       | ret => exact fin _ (.inr rfl) h3
       | exit x => cases h3
       | goto l => cases h3
      ·cases h
     ·cases h
    ·cases h
  | y id =>
   simp only [yF] at h
   unfold qX
   split at h
   ·rename_i f fr ps assign body p hlp
    simp only [hlp]
    obtain ⟨hlen, h⟩ := qa h
    rw [if_pos (qkt hlen)]
    simp only [v8, vV] at h
    obtain ⟨e, ov1, H1, h1, h2, h3⟩ := qdV ih hfs assign (qad _ 0 _ (by omega)) h
    rw [qfN] at h2
    rw [h2]
    simp only [qkA]
    cases e with
    | normal =>
     simp only at h3 ⊢
     split at h3
     ·rename_i f' fr' ps' assign' body' pend' hl1
      simp only [hl1]
      obtain ⟨e2, ov2, H2, h4, h5, h6⟩ := qdV ih hfs body h1 h3
      rw [h5]
      simp only [qkA]
      unfold yY2 at h6
      split at h6
      ·rename_i hl2
       simp only [hl2]
       cases e2 with
       | normal => simp only [vV] at h6; exact h6
       | ret => simp only [vV] at h6; exact h6
       | exit x => simp only [vV] at h6; exact h6
       | goto l => cases h6
      ·cases h6
     ·cases h3
    | exit x => cases h3
    | goto l => cases h3
    | ret => cases h3
   ·cases h
theorem qj6 {cfg : Cfg} {look : Nat → Option Func} (hl : ∀ f fn, look f = some fn → cfg.P.funcs[f]? = some fn) {fs : List Fact} (hfs : qQ cfg fs) {f : Nat} {args : List AV} {v : AV} (m d : Nat)
  (h : (match yF cfg look fs m d (.f f) args [] with | some r => some r.1 | none => none) = some v) : EVs (EV cfg) f args = some v := by
 unfold EVs
 cases hx : yF cfg look fs m d (.f f) args [] with
 | none => rw [hx] at h; cases h
 | some r => rw [hx] at h; rw [qgX cfg hl hfs m d _ _ _ _ hx]; exact h
theorem qj7 {cfg : Cfg} {look : Nat → Option Func} (hl : ∀ f fn, look f = some fn → cfg.P.funcs[f]? = some fn) {fs : List Fact} (hfs : qQ cfg fs) {f : Nat} {args : List AV} {v : AV} (m d : Nat)
  (h : (match yF cfg look fs m d (.f f) args [] with | some r => gA (r.1.frz r.1.msIds r.2).fg some | none => none) = some v) : EVf (EV cfg) f args = some v := by
 unfold EVf
 cases hx : yF cfg look fs m d (.f f) args [] with
 | none => rw [hx] at h; cases h
 | some r => rw [hx] at h; rw [qgX cfg hl hfs m d _ _ _ _ hx]; simp only [yP] at h; exact h
def zE : List AV → AH → Option (AV × AH)
 | [.str s, .int .u8 c], H => some (.int .i64 (Go.Lib.indexByte s c.toNat.toUInt8), H)
 | _, _ => none
def xS : List AV → AH → Option (AV × AH)
 | [.str s, .str t], H => if s.length < 4294967281 then some (.bool (Go.Lib.contains s t), H) else none
 | _, _ => none
def qcs : List AV → AH → Option (AV × AH)
 | [.str s, .int .i64 10, .int .i64 64], H =>
  if s.length ≤ 281474976710656 then
   match Go.Lib.parseUintB 64 s with
   | .ok u => some (.tup [.int .u64 u, .nilI], H)
   | Go.Lib.NumEnd.syntax => some (.tup [.int .u64 0, .ifc 114 .junk], H)
   | .range => some (.tup [.int .u64 18446744073709551615, .ifc 114 .junk], H)
  else none
 | _, _ => none
end Go.Av
end
section
namespace Go.Proofs.YtnmfakkjnbpjpaaDoor
open Go.Av
def qgZ : BT TI := .node 74 ({ d := .struct [(0, 72)], sz := 2, bytes := 32, zero := [.nilP, .nilS], eq := false }) (.node 40 ({ d := .struct [(0, 9), (1, 3), (2, 23)], sz := 3, bytes := 32, zero := [.str [], .int .i64 0, .int .i64 0], eq := true }) (.node 21 ({ d := .int .i32, sz := 1, bytes := 4, zero := [.int .i32 0], eq := false }) (.node 12 ({ d := .int .u64, sz := 1, bytes := 8, zero := [.int .u64 0], eq := false }) (.node 5 ({ d := .int .u8, sz := 1, bytes := 1, zero := [.int .u8 0], eq := false }) (.node 3 ({ d := .int .i64, sz := 1, bytes := 8, zero := [.int .i64 0], eq := false }) (.node 2 ({ d := .int .i64, sz := 1, bytes := 8, zero := [.int .i64 0], eq := false }) (.node 1 ({ d := .func, sz := 1, bytes := 8, zero := [.nilF], eq := false }) .leaf .leaf) .leaf) (.node 4 ({ d := .bool, sz := 1, bytes := 1, zero := [.bool false], eq := false }) .leaf .leaf)) (.node 7 ({ d := .struct [(0, 2), (1, 3), (2, 4), (3, 6)], sz := 4, bytes := 24, zero := [.int .i64 0, .int .i64 0, .bool false, .int .u8 0], eq := true }) (.node 6 ({ d := .int .u8, sz := 1, bytes := 1, zero := [.int .u8 0], eq := false }) .leaf .leaf) (.node 9 ({ d := .str, sz := 1, bytes := 16, zero := [.str []], eq := false }) .leaf .leaf))) (.node 17 ({ d := .ptr 147, sz := 1, bytes := 8, zero := [.nilP], eq := false }) (.node 15 ({ d := .ptr 136, sz := 1, bytes := 8, zero := [.nilP], eq := false }) (.node 13 ({ d := .struct [(0, 9), (1, 12)], sz := 2, bytes := 24, zero := [.str [], .int .u64 0], eq := false }) .leaf .leaf) (.node 16 ({ d := .ptr 139, sz := 1, bytes := 8, zero := [.nilP], eq := false }) .leaf .leaf)) (.node 19 ({ d := .struct [(0, 17)], sz := 1, bytes := 8, zero := [.nilP], eq := false }) (.node 18 ({ d := .struct [(0, 17)], sz := 1, bytes := 8, zero := [.nilP], eq := false }) .leaf .leaf) (.node 20 ({ d := .iface, sz := 1, bytes := 16, zero := [.nilI], eq := false }) .leaf .leaf)))) (.node 31 ({ d := .func, sz := 1, bytes := 8, zero := [.nilF], eq := false }) (.node 27 ({ d := .func, sz := 1, bytes := 8, zero := [.nilF], eq := false }) (.node 24 ({ d := .struct [(0, 23), (1, 3)], sz := 2, bytes := 16, zero := [.int .i64 0, .int .i64 0], eq := true }) (.node 23 ({ d := .int .i64, sz := 1, bytes := 8, zero := [.int .i64 0], eq := false }) (.node 22 ({ d := .slice 30, sz := 1, bytes := 24, zero := [.nilS], eq := false }) .leaf .leaf) .leaf) (.node 25 ({ d := .struct [(0, 23), (1, 3)], sz := 2, bytes := 16, zero := [.int .i64 0, .int .i64 0], eq := true }) .leaf .leaf)) (.node 29 ({ d := .struct [(0, 3), (1, 3), (2, 3), (3, 9)], sz := 4, bytes := 40, zero := [.int .i64 0, .int .i64 0, .int .i64 0, .str []], eq := true }) (.node 28 ({ d := .func, sz := 1, bytes := 8, zero := [.nilF], eq := false }) .leaf .leaf) (.node 30 ({ d := .struct [(0, 3), (1, 3), (2, 3), (3, 9)], sz := 4, bytes := 40, zero := [.int .i64 0, .int .i64 0, .int .i64 0, .str []], eq := true }) .leaf .leaf))) (.node 35 ({ d := .func, sz := 1, bytes := 8, zero := [.nilF], eq := false }) (.node 33 ({ d := .slice 5, sz := 1, bytes := 24, zero := [.nilS], eq := false }) (.node 32 ({ d := .func, sz := 1, bytes := 8, zero := [.nilF], eq := false }) .leaf .leaf) (.node 34 ({ d := .func, sz := 1, bytes := 8, zero := [.nilF], eq := false }) .leaf .leaf)) (.node 38 ({ d := .func, sz := 1, bytes := 8, zero := [.nilF], eq := false }) (.node 36 ({ d := .func, sz := 1, bytes := 8, zero := [.nilF], eq := false }) .leaf .leaf) (.node 39 ({ d := .ptr 41, sz := 1, bytes := 8, zero := [.nilP], eq := false }) .leaf .leaf))))) (.node 58 ({ d := .func, sz := 1, bytes := 8, zero := [.nilF], eq := false }) (.node 49 ({ d := .func, sz := 1, bytes := 8, zero := [.nilF], eq := false }) (.node 45 ({ d := .struct [(0, 9), (1, 3), (2, 3), (3, 23), (4, 22)], sz := 5, bytes := 64, zero := [.str [], .int .i64 0, .int .i64 0, .int .i64 0, .nilS], eq := false }) (.node 43 ({ d := .ptr 45, sz := 1, bytes := 8, zero := [.nilP], eq := false }) (.node 42 ({ d := .func, sz := 1, bytes := 8, zero := [.nilF], eq := false }) (.node 41 ({ d := .struct [(0, 9), (1, 3), (2, 23)], sz := 3, bytes := 32, zero := [.str [], .int .i64 0, .int .i64 0], eq := true }) .leaf .leaf) .leaf) (.node 44 ({ d := .struct [(0, 9), (1, 3), (2, 3), (3, 23), (4, 22)], sz := 5, bytes := 64, zero := [.str [], .int .i64 0, .int .i64 0, .int .i64 0, .nilS], eq := false }) .leaf .leaf)) (.node 47 ({ d := .slice 9, sz := 1, bytes := 24, zero := [.nilS], eq := false }) (.node 46 ({ d := .func, sz := 1, bytes := 8, zero := [.nilF], eq := false }) .leaf .leaf) (.node 48 ({ d := .func, sz := 1, bytes := 8, zero := [.nilF], eq := false }) .leaf .leaf))) (.node 53 ({ d := .struct [(0, 3), (1, 3), (2, 9), (3, 51)], sz := 4, bytes := 56, zero := [.int .i64 0, .int .i64 0, .str [], .nilS], eq := false }) (.node 51 ({ d := .slice 53, sz := 1, bytes := 24, zero := [.nilS], eq := false }) (.node 50 ({ d := .func, sz := 1, bytes := 8, zero := [.nilF], eq := false }) .leaf .leaf) (.node 52 ({ d := .struct [(0, 3), (1, 3), (2, 9), (3, 51)], sz := 4, bytes := 56, zero := [.int .i64 0, .int .i64 0, .str [], .nilS], eq := false }) .leaf .leaf)) (.node 55 ({ d := .func, sz := 1, bytes := 8, zero := [.nilF], eq := false }) (.node 54 ({ d := .func, sz := 1, bytes := 8, zero := [.nilF], eq := false }) .leaf .leaf) (.node 57 ({ d := .func, sz := 1, bytes := 8, zero := [.nilF], eq := false }) .leaf .leaf)))) (.node 66 ({ d := .func, sz := 1, bytes := 8, zero := [.nilF], eq := false }) (.node 62 ({ d := .func, sz := 1, bytes := 8, zero := [.nilF], eq := false }) (.node 60 ({ d := .func, sz := 1, bytes := 8, zero := [.nilF], eq := false }) (.node 59 ({ d := .func, sz := 1, bytes := 8, zero := [.nilF], eq := false }) .leaf .leaf) (.node 61 ({ d := .func, sz := 1, bytes := 8, zero := [.nilF], eq := false }) .leaf .leaf)) (.node 64 ({ d := .func, sz := 1, bytes := 8, zero := [.nilF], eq := false }) (.node 63 ({ d := .func, sz := 1, bytes := 8, zero := [.nilF], eq := false }) .leaf .leaf) (.node 65 ({ d := .func, sz := 1, bytes := 8, zero := [.nilF], eq := false }) .leaf .leaf))) (.node 70 ({ d := .ptr 72, sz := 1, bytes := 8, zero := [.nilP], eq := false }) (.node 68 ({ d := .func, sz := 1, bytes := 8, zero := [.nilF], eq := false }) (.node 67 ({ d := .func, sz := 1, bytes := 8, zero := [.nilF], eq := false }) .leaf .leaf) (.node 69 ({ d := .ptr 74, sz := 1, bytes := 8, zero := [.nilP], eq := false }) .leaf .leaf)) (.node 72 ({ d := .struct [(0, 70), (1, 33)], sz := 2, bytes := 32, zero := [.nilP, .nilS], eq := false }) (.node 71 ({ d := .struct [(0, 70), (1, 33)], sz := 2, bytes := 32, zero := [.nilP, .nilS], eq := false }) .leaf .leaf) (.node 73 ({ d := .struct [(0, 72)], sz := 2, bytes := 32, zero := [.nilP, .nilS], eq := false }) .leaf .leaf)))))) (.node 112 ({ d := .int .i64, sz := 1, bytes := 8, zero := [.int .i64 0], eq := false }) (.node 93 ({ d := .func, sz := 1, bytes := 8, zero := [.nilF], eq := false }) (.node 85 ({ d := .func, sz := 1, bytes := 8, zero := [.nilF], eq := false }) (.node 79 ({ d := .iface, sz := 1, bytes := 16, zero := [.nilI], eq := false }) (.node 77 ({ d := .func, sz := 1, bytes := 8, zero := [.nilF], eq := false }) (.node 76 ({ d := .func, sz := 1, bytes := 8, zero := [.nilF], eq := false }) (.node 75 ({ d := .func, sz := 1, bytes := 8, zero := [.nilF], eq := false }) .leaf .leaf) .leaf) (.node 78 ({ d := .iface, sz := 1, bytes := 16, zero := [.nilI], eq := false }) .leaf .leaf)) (.node 82 ({ d := .int .u64, sz := 1, bytes := 8, zero := [.int .u64 0], eq := false }) (.node 81 ({ d := .func, sz := 1, bytes := 8, zero := [.nilF], eq := false }) .leaf .leaf) (.node 84 ({ d := .func, sz := 1, bytes := 8, zero := [.nilF], eq := false }) .leaf .leaf))) (.node 89 ({ d := .func, sz := 1, bytes := 8, zero := [.nilF], eq := false }) (.node 87 ({ d := .func, sz := 1, bytes := 8, zero := [.nilF], eq := false }) (.node 86 ({ d := .func, sz := 1, bytes := 8, zero := [.nilF], eq := false }) .leaf .leaf) (.node 88 ({ d := .func, sz := 1, bytes := 8, zero := [.nilF], eq := false }) .leaf .leaf)) (.node 91 ({ d := .func, sz := 1, bytes := 8, zero := [.nilF], eq := false }) (.node 90 ({ d := .func, sz := 1, bytes := 8, zero := [.nilF], eq := false }) .leaf .leaf) (.node 92 ({ d := .func, sz := 1, bytes := 8, zero := [.nilF], eq := false }) .leaf .leaf)))) (.node 102 ({ d := .func, sz := 1, bytes := 8, zero := [.nilF], eq := false }) (.node 98 ({ d := .ptr 5, sz := 1, bytes := 8, zero := [.nilP], eq := false }) (.node 96 ({ d := .func, sz := 1, bytes := 8, zero := [.nilF], eq := false }) (.node 95 ({ d := .func, sz := 1, bytes := 8, zero := [.nilF], eq := false }) (.node 94 ({ d := .func, sz := 1, bytes := 8, zero := [.nilF], eq := false }) .leaf .leaf) .leaf) (.node 97 ({ d := .func, sz := 1, bytes := 8, zero := [.nilF], eq := false }) .leaf .leaf)) (.node 100 ({ d := .int .u64, sz := 1, bytes := 8, zero := [.int .u64 0], eq := false }) (.node 99 ({ d := .func, sz := 1, bytes := 8, zero := [.nilF], eq := false }) .leaf .leaf) (.node 101 ({ d := .array 24 5, sz := 24, bytes := 24, zero := [.int .u8 0, .int .u8 0, .int .u8 0, .int .u8 0, .int .u8 0, .int .u8 0, .int .u8 0, .int .u8 0, .int .u8 0, .int .u8 0, .int .u8 0, .int .u8 0, .int .u8 0, .int .u8 0, .int .u8 0, .int .u8 0, .int .u8 0, .int .u8 0, .int .u8 0, .int .u8 0, .int .u8 0, .int .u8 0, .int .u8 0, .int .u8 0], eq := false }) .leaf .leaf))) (.node 107 ({ d := .func, sz := 1, bytes := 8, zero := [.nilF], eq := false }) (.node 105 ({ d := .func, sz := 1, bytes := 8, zero := [.nilF], eq := false }) (.node 103 ({ d := .func, sz := 1, bytes := 8, zero := [.nilF], eq := false }) .leaf .leaf) (.node 106 ({ d := .func, sz := 1, bytes := 8, zero := [.nilF], eq := false }) .leaf .leaf)) (.node 110 ({ d := .func, sz := 1, bytes := 8, zero := [.nilF], eq := false }) (.node 108 ({ d := .func, sz := 1, bytes := 8, zero := [.nilF], eq := false }) .leaf .leaf) (.node 111 ({ d := .func, sz := 1, bytes := 8, zero := [.nilF], eq := false }) .leaf .leaf))))) (.node 130 ({ d := .ptr 132, sz := 1, bytes := 8, zero := [.nilP], eq := false }) (.node 121 ({ d := .array 65 5, sz := 65, bytes := 65, zero := [.int .u8 0, .int .u8 0, .int .u8 0, .int .u8 0, .int .u8 0, .int .u8 0, .int .u8 0, .int .u8 0, .int .u8 0, .int .u8 0, .int .u8 0, .int .u8 0, .int .u8 0, .int .u8 0, .int .u8 0, .int .u8 0, .int .u8 0, .int .u8 0, .int .u8 0, .int .u8 0, .int .u8 0, .int .u8 0, .int .u8 0, .int .u8 0, .int .u8 0, .int .u8 0, .int .u8 0, .int .u8 0, .int .u8 0, .int .u8 0, .int .u8 0, .int .u8 0, .int .u8 0, .int .u8 0, .int .u8 0, .int .u8 0, .int .u8 0, .int .u8 0, .int .u8 0, .int .u8 0, .int .u8 0, .int .u8 0, .int .u8 0, .int .u8 0, .int .u8 0, .int .u8 0, .int .u8 0, .int .u8 0, .int .u8 0, .int .u8 0, .int .u8 0, .int .u8 0, .int .u8 0, .int .u8 0, .int .u8 0, .int .u8 0, .int .u8 0, .int .u8 0, .int .u8 0, .int .u8 0, .int .u8 0, .int .u8 0, .int .u8 0, .int .u8 0, .int .u8 0], eq := false }) (.node 117 ({ d := .func, sz := 1, bytes := 8, zero := [.nilF], eq := false }) (.node 115 ({ d := .func, sz := 1, bytes := 8, zero := [.nilF], eq := false }) (.node 114 ({ d := .ptr 125, sz := 1, bytes := 8, zero := [.nilP], eq := false }) (.node 113 ({ d := .func, sz := 1, bytes := 8, zero := [.nilF], eq := false }) .leaf .leaf) .leaf) (.node 116 ({ d := .func, sz := 1, bytes := 8, zero := [.nilF], eq := false }) .leaf .leaf)) (.node 119 ({ d := .array 20 82, sz := 20, bytes := 160, zero := [.int .u64 0, .int .u64 0, .int .u64 0, .int .u64 0, .int .u64 0, .int .u64 0, .int .u64 0, .int .u64 0, .int .u64 0, .int .u64 0, .int .u64 0, .int .u64 0, .int .u64 0, .int .u64 0, .int .u64 0, .int .u64 0, .int .u64 0, .int .u64 0, .int .u64 0, .int .u64 0], eq := false }) (.node 118 ({ d := .func, sz := 1, bytes := 8, zero := [.nilF], eq := false }) .leaf .leaf) (.node 120 ({ d := .int .u32, sz := 1, bytes := 4, zero := [.int .u32 0], eq := false }) .leaf .leaf))) (.node 125 ({ d := .struct [(0, 9), (1, 9), (2, 79)], sz := 3, bytes := 48, zero := [.str [], .str [], .nilI], eq := false }) (.node 123 ({ d := .func, sz := 1, bytes := 8, zero := [.nilF], eq := false }) (.node 122 ({ d := .func, sz := 1, bytes := 8, zero := [.nilF], eq := false }) .leaf .leaf) (.node 124 ({ d := .struct [(0, 9), (1, 9), (2, 79)], sz := 3, bytes := 48, zero := [.str [], .str [], .nilI], eq := false }) .leaf .leaf)) (.node 128 ({ d := .func, sz := 1, bytes := 8, zero := [.nilF], eq := false }) (.node 126 ({ d := .func, sz := 1, bytes := 8, zero := [.nilF], eq := false }) .leaf .leaf) (.node 129 ({ d := .func, sz := 1, bytes := 8, zero := [.nilF], eq := false }) .leaf .leaf)))) (.node 140 ({ d := .func, sz := 1, bytes := 8, zero := [.nilF], eq := false }) (.node 134 ({ d := .array 64 5, sz := 64, bytes := 64, zero := [.int .u8 0, .int .u8 0, .int .u8 0, .int .u8 0, .int .u8 0, .int .u8 0, .int .u8 0, .int .u8 0, .int .u8 0, .int .u8 0, .int .u8 0, .int .u8 0, .int .u8 0, .int .u8 0, .int .u8 0, .int .u8 0, .int .u8 0, .int .u8 0, .int .u8 0, .int .u8 0, .int .u8 0, .int .u8 0, .int .u8 0, .int .u8 0, .int .u8 0, .int .u8 0, .int .u8 0, .int .u8 0, .int .u8 0, .int .u8 0, .int .u8 0, .int .u8 0, .int .u8 0, .int .u8 0, .int .u8 0, .int .u8 0, .int .u8 0, .int .u8 0, .int .u8 0, .int .u8 0, .int .u8 0, .int .u8 0, .int .u8 0, .int .u8 0, .int .u8 0, .int .u8 0, .int .u8 0, .int .u8 0, .int .u8 0, .int .u8 0, .int .u8 0, .int .u8 0, .int .u8 0, .int .u8 0, .int .u8 0, .int .u8 0, .int .u8 0, .int .u8 0, .int .u8 0, .int .u8 0, .int .u8 0, .int .u8 0, .int .u8 0, .int .u8 0], eq := false }) (.node 132 ({ d := .struct [(0, 9)], sz := 1, bytes := 16, zero := [.str []], eq := true }) (.node 131 ({ d := .struct [(0, 9)], sz := 1, bytes := 16, zero := [.str []], eq := true }) .leaf .leaf) (.node 133 ({ d := .array 32 5, sz := 32, bytes := 32, zero := [.int .u8 0, .int .u8 0, .int .u8 0, .int .u8 0, .int .u8 0, .int .u8 0, .int .u8 0, .int .u8 0, .int .u8 0, .int .u8 0, .int .u8 0, .int .u8 0, .int .u8 0, .int .u8 0, .int .u8 0, .int .u8 0, .int .u8 0, .int .u8 0, .int .u8 0, .int .u8 0, .int .u8 0, .int .u8 0, .int .u8 0, .int .u8 0, .int .u8 0, .int .u8 0, .int .u8 0, .int .u8 0, .int .u8 0, .int .u8 0, .int .u8 0, .int .u8 0], eq := false }) .leaf .leaf)) (.node 137 ({ d := .array 0 16, sz := 0, bytes := 0, zero := [], eq := false }) (.node 135 ({ d := .struct [(0, 17), (1, 17), (2, 17), (3, 9)], sz := 4, bytes := 40, zero := [.nilP, .nilP, .nilP, .str []], eq := false }) .leaf .leaf) (.node 138 ({ d := .struct [(0, 137)], sz := 0, bytes := 0, zero := [], eq := false }) .leaf .leaf))) (.node 144 ({ d := .int .i32, sz := 1, bytes := 4, zero := [.int .i32 0], eq := false }) (.node 142 ({ d := .int .u8, sz := 1, bytes := 1, zero := [.int .u8 0], eq := false }) (.node 141 ({ d := .int .u8, sz := 1, bytes := 1, zero := [.int .u8 0], eq := false }) .leaf .leaf) (.node 143 ({ d := .func, sz := 1, bytes := 8, zero := [.nilF], eq := false }) .leaf .leaf)) (.node 146 ({ d := .struct [(0, 12), (1, 12), (2, 120), (3, 141), (4, 5), (5, 5), (6, 142), (7, 143), (8, 98), (9, 144), (10, 145)], sz := 11, bytes := 48, zero := [.int .u64 0, .int .u64 0, .int .u32 0, .int .u8 0, .int .u8 0, .int .u8 0, .int .u8 0, .nilF, .nilP, .int .i32 0, .int .i32 0], eq := false }) (.node 145 ({ d := .int .i32, sz := 1, bytes := 4, zero := [.int .i32 0], eq := false }) .leaf .leaf) (.node 147 ({ d := .struct [(0, 12), (1, 12), (2, 120), (3, 141), (4, 5), (5, 5), (6, 142), (7, 143), (8, 98), (9, 144), (10, 145)], sz := 11, bytes := 48, zero := [.int .u64 0, .int .u64 0, .int .u32 0, .int .u8 0, .int .u8 0, .int .u8 0, .int .u8 0, .nilF, .nilP, .int .i32 0, .int .i32 0], eq := false }) .leaf .leaf))))))
def qjD : BT CMode := .node 37 (.scal) (.node 27 (.scal) (.node 10 (.scal) (.node 8 (.scal) (.node 6 (.pfrz) (.node 4 (.scal) .leaf .leaf) .leaf) (.node 9 (.scal) .leaf .leaf)) (.node 14 (.inpf) (.node 13 (.inpl) (.node 11 (.scal) .leaf .leaf) .leaf) (.node 26 (.inpf) .leaf .leaf))) (.node 32 (.inpf) (.node 30 (.inpf) (.node 29 (.scal) (.node 28 (.scal) .leaf .leaf) .leaf) (.node 31 (.inpf) .leaf .leaf)) (.node 35 (.inpf) (.node 34 (.inpf) (.node 33 (.scal) .leaf .leaf) .leaf) (.node 36 (.scal) .leaf .leaf)))) (.node 81 (.scal) (.node 58 (.scal) (.node 49 (.scal) (.node 39 (.inpf) (.node 38 (.scal) .leaf .leaf) .leaf) (.node 51 (.pfrz) .leaf .leaf)) (.node 77 (.scal) (.node 61 (.scal) (.node 60 (.inpf) .leaf .leaf) .leaf) (.node 80 (.scal) .leaf .leaf))) (.node 106 (.scal) (.node 101 (.scal) (.node 100 (.scal) (.node 99 (.scal) .leaf .leaf) .leaf) (.node 103 (.scal) .leaf .leaf)) (.node 111 (.scal) (.node 110 (.scal) (.node 108 (.scal) .leaf .leaf) .leaf) (.node 112 (.scal) .leaf .leaf))))
def qj4 : BT (BT (List Nat)) := .leaf
noncomputable def qeM {α : Type} (a b : Nat) (t : BT (BT α)) : Option α := match t.look a with | some u => u.look b | none => none
noncomputable def qjG (f r k : Nat) : Bool := match qeM f r qj4 with | some l => q9 k l | none => false
def qjE : BT (BT (List Tmp × List Tmp)) := .node 78 (.node 36 ([1, 8, 9, 10, 11, 12, 13, 99, 100, 101], [6, 7, 9, 12, 13]) .leaf .leaf) (.node 13 (.node 0 ([0], []) .leaf .leaf) (.node 6 (.node 5 ([0, 3, 4, 5], [2, 3, 5]) .leaf .leaf) (.node 4 (.node 5 ([0, 3, 4], [0, 3]) .leaf .leaf) .leaf .leaf) (.node 8 (.node 4 ([0, 1, 5], [4]) .leaf .leaf) .leaf .leaf)) (.node 35 (.node 2 ([0, 1, 5], [0, 5]) .leaf .leaf) (.node 32 (.node 3 ([0, 2, 3], [2]) .leaf .leaf) .leaf .leaf) (.node 39 (.node 3 ([0, 2, 3, 15, 16, 17], [0, 2, 3]) .leaf .leaf) .leaf .leaf))) (.node 94 (.node 10 ([0, 3, 4, 5], [2, 3]) .leaf .leaf) (.node 84 (.node 1 ([0, 1, 4], [0, 1, 4]) .leaf .leaf) (.node 81 (.node 15 ([0, 1, 5, 6, 7, 8, 9, 10], [4]) .leaf .leaf) .leaf .leaf) (.node 85 (.node 18 ([0, 1, 3, 4, 10, 11, 12, 13, 17], [0, 1, 3, 4, 10, 11, 12, 13]) (.node 11 ([0, 1, 3, 4, 10, 11, 12, 13, 14, 15, 16], [0, 1, 3, 4, 10, 11, 12, 13]) .leaf .leaf) .leaf) .leaf .leaf)) (.node 110 (.node 8 ([4, 6, 7, 8], [4, 6]) (.node 3 ([0, 4, 5], [0, 4]) .leaf .leaf) .leaf) (.node 101 (.node 11 ([0, 1, 5, 6, 7, 8, 10], [4]) (.node 5 ([0, 1, 5, 6, 7, 8, 9], [0, 1, 5, 6, 7, 8]) .leaf .leaf) .leaf) .leaf .leaf) .leaf))
def qka : BT (BT (List Tmp)) := .leaf
def qjF : BT (BT (List (Tmp × Nat))) := .node 32 (.node 3 ([(3, 1)]) .leaf .leaf) (.node 6 (.node 5 ([(5, 4)]) .leaf .leaf) .leaf .leaf) (.node 85 (.node 18 ([(10, 1)]) (.node 11 ([(10, 1)]) .leaf .leaf) .leaf) .leaf .leaf)
def yK (f : Nat) : List (Nat × (List AV → AH → Option (AV × AH))) → Option (List AV → AH → Option (AV × AH))
 | [] => none
 | p :: l => if qkG p.1 f then some p.2 else yK f l
noncomputable def qgU : List (Nat × (List AV → AH → Option (AV × AH))) := []
noncomputable def qfJ : List (Nat × (List AV → AH → Option (AV × AH))) := (28, zE) :: (49, xS) :: (59, qcs) :: qgU
theorem qhH : qgU = [] := rfl
def qi2 : BT Unit := .node 64 (()) (.node 31 (()) (.node 13 (()) (.node 9 (()) (.node 6 (()) (.node 4 (()) .leaf .leaf) (.node 8 (()) .leaf .leaf)) (.node 11 (()) (.node 10 (()) .leaf .leaf) .leaf)) (.node 27 (()) (.node 22 (()) (.node 14 (()) .leaf .leaf) (.node 26 (()) .leaf .leaf)) (.node 30 (()) (.node 29 (()) .leaf .leaf) .leaf))) (.node 38 (()) (.node 35 (()) (.node 33 (()) (.node 32 (()) .leaf .leaf) (.node 34 (()) .leaf .leaf)) (.node 37 (()) (.node 36 (()) .leaf .leaf) .leaf)) (.node 58 (()) (.node 51 (()) (.node 39 (()) .leaf .leaf) (.node 52 (()) .leaf .leaf)) (.node 61 (()) (.node 60 (()) .leaf .leaf) .leaf)))) (.node 97 (()) (.node 83 (()) (.node 80 (()) (.node 78 (()) (.node 66 (()) .leaf .leaf) (.node 79 (()) .leaf .leaf)) (.node 82 (()) (.node 81 (()) .leaf .leaf) .leaf)) (.node 94 (()) (.node 85 (()) (.node 84 (()) .leaf .leaf) (.node 93 (()) .leaf .leaf)) (.node 96 (()) (.node 95 (()) .leaf .leaf) .leaf))) (.node 105 (()) (.node 102 (()) (.node 100 (()) (.node 98 (()) .leaf .leaf) (.node 101 (()) .leaf .leaf)) (.node 104 (()) (.node 103 (()) .leaf .leaf) .leaf)) (.node 110 (()) (.node 108 (()) (.node 106 (()) .leaf .leaf) (.node 109 (()) .leaf .leaf)) (.node 112 (()) (.node 111 (()) .leaf .leaf) .leaf))))
def qj9 : BT Unit := .node 53 (()) (.node 51 (()) .leaf .leaf) .leaf
def qkc : BT Unit := .leaf
def qjX : BT Unit := .leaf
def qkb : BT TypeId := .leaf
def qj8 : BT Unit := .leaf
def qj0 : BT (List Nat) := .node 80 ([3, 79]) (.node 37 ([9, 23]) (.node 26 ([22, 25]) .leaf .leaf) (.node 56 ([5, 4]) .leaf .leaf)) (.node 104 ([33, 9]) (.node 83 ([82, 79]) .leaf .leaf) (.node 127 ([120, 120]) .leaf .leaf))
noncomputable def qiu : List (Nat × Func) := []
noncomputable def qhC : BT Func := .node 61 (Tryd.f61) (.node 31 (Tryd.f31) (.node 14 (Tryd.f14) (.node 9 (Tryd.f9) (.node 6 (Tryd.f6) (.node 4 (Tryd.f4) .leaf .leaf) (.node 8 (Tryd.f8) .leaf .leaf)) (.node 11 (Tryd.f11) (.node 10 (Tryd.f10) .leaf .leaf) (.node 13 (Tryd.f13) .leaf .leaf))) (.node 28 (Tryd.f28) (.node 26 (Tryd.f26) (.node 22 (Tryd.f22) .leaf .leaf) (.node 27 (Tryd.f27) .leaf .leaf)) (.node 30 (Tryd.f30) (.node 29 (Tryd.f29) .leaf .leaf) .leaf))) (.node 39 (Tryd.f39) (.node 35 (Tryd.f35) (.node 33 (Tryd.f33) (.node 32 (Tryd.f32) .leaf .leaf) (.node 34 (Tryd.f34) .leaf .leaf)) (.node 37 (Tryd.f37) (.node 36 (Tryd.f36) .leaf .leaf) (.node 38 (Tryd.f38) .leaf .leaf))) (.node 58 (Tryd.f58) (.node 51 (Tryd.f51) (.node 49 (Tryd.f49) .leaf .leaf) (.node 52 (Tryd.f52) .leaf .leaf)) (.node 60 (Tryd.f60) (.node 59 (Tryd.f59) .leaf .leaf) .leaf)))) (.node 97 (Tryd.f97) (.node 83 (Tryd.f83) (.node 79 (Tryd.f79) (.node 66 (Tryd.f66) (.node 64 (Tryd.f64) .leaf .leaf) (.node 78 (Tryd.f78) .leaf .leaf)) (.node 81 (Tryd.f81) (.node 80 (Tryd.f80) .leaf .leaf) (.node 82 (Tryd.f82) .leaf .leaf))) (.node 94 (Tryd.f94) (.node 85 (Tryd.f85) (.node 84 (Tryd.f84) .leaf .leaf) (.node 93 (Tryd.f93) .leaf .leaf)) (.node 96 (Tryd.f96) (.node 95 (Tryd.f95) .leaf .leaf) .leaf))) (.node 105 (Tryd.f105) (.node 102 (Tryd.f102) (.node 100 (Tryd.f100) (.node 98 (Tryd.f98) .leaf .leaf) (.node 101 (Tryd.f101) .leaf .leaf)) (.node 104 (Tryd.f104) (.node 103 (Tryd.f103) .leaf .leaf) .leaf)) (.node 110 (Tryd.f110) (.node 108 (Tryd.f108) (.node 106 (Tryd.f106) .leaf .leaf) (.node 109 (Tryd.f109) .leaf .leaf)) (.node 112 (Tryd.f112) (.node 111 (Tryd.f111) .leaf .leaf) .leaf))))
theorem qju : qhC.All fun f fn => Tryd.prog.funcs[f]? = some fn := (BT.all_node Tryd.func61 (BT.all_node Tryd.func31 (BT.all_node Tryd.func14 (BT.all_node Tryd.func9 (BT.all_node Tryd.func6 (BT.all_node Tryd.func4 trivial trivial) (BT.all_node Tryd.func8 trivial trivial)) (BT.all_node Tryd.func11 (BT.all_node Tryd.func10 trivial trivial) (BT.all_node Tryd.func13 trivial trivial))) (BT.all_node Tryd.func28 (BT.all_node Tryd.func26 (BT.all_node Tryd.func22 trivial trivial) (BT.all_node Tryd.func27 trivial trivial)) (BT.all_node Tryd.func30 (BT.all_node Tryd.func29 trivial trivial) trivial))) (BT.all_node Tryd.func39 (BT.all_node Tryd.func35 (BT.all_node Tryd.func33 (BT.all_node Tryd.func32 trivial trivial) (BT.all_node Tryd.func34 trivial trivial)) (BT.all_node Tryd.func37 (BT.all_node Tryd.func36 trivial trivial) (BT.all_node Tryd.func38 trivial trivial))) (BT.all_node Tryd.func58 (BT.all_node Tryd.func51 (BT.all_node Tryd.func49 trivial trivial) (BT.all_node Tryd.func52 trivial trivial)) (BT.all_node Tryd.func60 (BT.all_node Tryd.func59 trivial trivial) trivial)))) (BT.all_node Tryd.func97 (BT.all_node Tryd.func83 (BT.all_node Tryd.func79 (BT.all_node Tryd.func66 (BT.all_node Tryd.func64 trivial trivial) (BT.all_node Tryd.func78 trivial trivial)) (BT.all_node Tryd.func81 (BT.all_node Tryd.func80 trivial trivial) (BT.all_node Tryd.func82 trivial trivial))) (BT.all_node Tryd.func94 (BT.all_node Tryd.func85 (BT.all_node Tryd.func84 trivial trivial) (BT.all_node Tryd.func93 trivial trivial)) (BT.all_node Tryd.func96 (BT.all_node Tryd.func95 trivial trivial) trivial))) (BT.all_node Tryd.func105 (BT.all_node Tryd.func102 (BT.all_node Tryd.func100 (BT.all_node Tryd.func98 trivial trivial) (BT.all_node Tryd.func101 trivial trivial)) (BT.all_node Tryd.func104 (BT.all_node Tryd.func103 trivial trivial) trivial)) (BT.all_node Tryd.func110 (BT.all_node Tryd.func108 (BT.all_node Tryd.func106 trivial trivial) (BT.all_node Tryd.func109 trivial trivial)) (BT.all_node Tryd.func112 (BT.all_node Tryd.func111 trivial trivial) trivial)))))
noncomputable def cfg : Cfg := { P := Tryd.prog, ty := fun t => qgZ.look t, mode := fun f => match qjD.look f with | some m => m | none => .imp, frz := fun f r k => qjG f r k, mask := fun f r => qeM f r qjE, cut := fun f r => qeM f r qka, tup := fun t => qj0.look t, ext := fun f => yK f qfJ, known := fun f => (qi2.look f).isSome, dat := fun t => (qj9.look t).isSome, inl := fun f => qbQ f qiu, lift := fun f r => match qeM f r qjF with | some l => l | none => [], ems := fun t => (qj8.look t).isSome, ali := fun t => (qkc.look t).isSome, wrt := fun t => (qjX.look t).isSome, bld := fun t => qkb.look t }
theorem qkn {fs : List Fact} (hfs : qQ cfg fs) {f : Nat} {args : List AV} {v : AV} (m d : Nat) (h : (match yF cfg (fun f => qhC.look f) fs m d (.f f) args [] with | some r => some r.1 | none => none) = some v) : EVs (EV cfg) f args = some v := qj6 (fun _ _ h => BT.all_look qju h) hfs m d h
theorem qhF {fs : List Fact} (hfs : qQ cfg fs) {f : Nat} {args : List AV} {v : AV} (m d : Nat) (h : (match yF cfg (fun f => qhC.look f) fs m d (.f f) args [] with | some r => gA (r.1.frz r.1.msIds r.2).fg some | none => none) = some v) : EVf (EV cfg) f args = some v := qj7 (fun _ _ h => BT.all_look qju h) hfs m d h
instance inl_ok : InlOk cfg := InlOk.of qiu (fun _ => rfl) trivial
noncomputable def qjO : Den := evC cfg (EV cfg) 13 none 1 (sub (qF Tryd.f13) [0, 0])
noncomputable def qjR : Ex × List AV × AH → Option (MV × List (List AV)) := kAft (Cfg.keepOut cfg 13 0) (kRun cfg (EV cfg) (kfN cfg 6) 13 none 1 (qjq cfg 3 (Cfg.lift cfg 13 0) Tryd.f13.results.toList) ([.block 0]))
noncomputable def qjL : List AV × AH → Option (MV × List (List AV)) := fun p => kOpt (LOOP 1 (some [0]) ([]) qjO p) qjR
noncomputable abbrev xm (h0 : Rz) : Option (MV × List (List AV)) := qjL  (((fx 59 [(0, .ptr 0 0 0)]) : List AV), ([.rows true 3 h0] : AH))
theorem qge (c : Int) {P : AV → Prop} (h : Gets (bif decide (c ≥ 48) then some (.bool (decide (c ≤ 57))) else some (.bool false)) P) : Gets (EVs (EV cfg) 29 [.int .u8 c]) P :=
  gE (fun _ => funS rfl rfl Tryd.func29 rfl) (by kernel_rfl) h
theorem qgc (c : Int) {P : AV → Prop} (h : Gets (bif decide (c ≥ 97) then some (.bool (decide (c ≤ 122))) else some (.bool false)) P) : Gets (EVs (EV cfg) 37 [.int .u8 c]) P :=
  gE (fun _ => funS rfl rfl Tryd.func37 rfl) (by kernel_rfl) h
theorem qh9 (c : Int) {P : AV → Prop} (h : Gets (bif decide (c ≥ 65) then bif decide (c ≤ 90) then some (.bool true) else some (.bool (c == 95)) else some (.bool (c == 95))) P) : Gets (EVs (EV cfg) 33 [.int .u8 c]) P :=
  gE (fun _ => funS rfl rfl Tryd.func33 rfl) (by kernel_rfl) h
theorem qe9 (c : Int) {P : AV → Prop} (h : Gets (kOpt (EVs (EV cfg) 29 [AV.int .u8 c]) fun v => qD v fun b => bif b then some (.bool true) else kOpt (EVs (EV cfg) 37 [AV.int .u8 c]) fun v => qD v fun b => bif b then some (.bool true) else kOpt (EVs (EV cfg) 33 [AV.int .u8 c]) fun v => qD v fun b => bif b then some (.bool true) else some (.bool (c == 64))) P) : Gets (EVs (EV cfg) 36 [.int .u8 c]) P :=
  gE (fun _ => funS rfl rfl Tryd.func36 rfl) (by kernel_rfl) h
theorem qgf (c : Int) {P : AV → Prop} (h : Gets (bif c == 9 then some (.bool true) else bif c == 10 then some (.bool true) else bif c == 13 then some (.bool true) else some (.bool (c == 32))) P) : Gets (EVs (EV cfg) 27 [.int .u8 c]) P :=
  gE (fun _ => funS rfl rfl Tryd.func27 rfl) (by kernel_rfl) h
theorem qg6 (w : Bz) {P : AV → Prop} (h : Gets (bif ! w == [] then kOpt (bif qkJ (1 + List.length w) 9223372036854775807 then some (.str ((32 : UInt8) :: w)) else none) fun v => kStr v fun s => kOpt (bif qkJ (List.length s + 1) 9223372036854775807 then some (.str (List.append s [(32 : UInt8)])) else none) fun v => kStr v fun s => kOpt (EVs (EV cfg) 49 [AV.str [(32 : UInt8), (97 : UInt8), (102 : UInt8), (116 : UInt8), (101 : UInt8), (114 : UInt8), (32 : UInt8), (97 : UInt8), (110 : UInt8), (100 : UInt8), (32 : UInt8), (97 : UInt8), (110 : UInt8), (100 : UInt8), (97 : UInt8), (108 : UInt8), (115 : UInt8), (111 : UInt8), (32 : UInt8), (98 : UInt8), (101 : UInt8), (103 : UInt8), (105 : UInt8), (110 : UInt8), (32 : UInt8), (99 : UInt8), (97 : UInt8), (115 : UInt8), (101 : UInt8), (32 : UInt8), (99 : UInt8), (97 : UInt8), (116 : UInt8), (99 : UInt8), (104 : UInt8), (32 : UInt8), (100 : UInt8), (105 : UInt8), (118 : UInt8), (32 : UInt8), (101 : UInt8), (110 : UInt8), (100 : UInt8), (32 : UInt8), (102 : UInt8), (117 : UInt8), (110 : UInt8), (32 : UInt8), (110 : UInt8), (111 : UInt8), (116 : UInt8), (32 : UInt8), (111 : UInt8), (102 : UInt8), (32 : UInt8), (111 : UInt8), (114 : UInt8), (32 : UInt8), (111 : UInt8), (114 : UInt8), (101 : UInt8), (108 : UInt8), (115 : UInt8), (101 : UInt8), (32 : UInt8), (114 : UInt8), (101 : UInt8), (99 : UInt8), (101 : UInt8), (105 : UInt8), (118 : UInt8), (101 : UInt8), (32 : UInt8), (114 : UInt8), (101 : UInt8), (109 : UInt8), (32 : UInt8), (116 : UInt8), (114 : UInt8), (121 : UInt8), (32 : UInt8), (119 : UInt8), (104 : UInt8), (101 : UInt8), (110 : UInt8), (32 : UInt8)], .str s]) fun v => qD v fun b => some (.bool b) else some (.bool false)) P) : Gets (EVs (EV cfg) 38 [.str w]) P :=
  gE (fun _ => funS rfl rfl Tryd.func38 rfl) (by kernel_rfl) h
theorem qcQ (s : Bz) (p e : Int) {P : AV × List (List AV) → Prop} (h : Gets (bif decide (p ≥ (s.length : Int)) then some (AV.tup [AV.int .u8 0, .bool false], [[.str s, .int .i64 p, .int .i64 e]]) else bif qk 0 p then kOpt (qkw s (p.toNat)) fun b => some (AV.tup [AV.int .u8 (↑ (UInt8.toNat b) : Int), .bool true], [[.str s, .int .i64 p, .int .i64 e]]) else none) P) : Gets (EVd (EV cfg) 26 [.ptr 0 0 0] 3 [[AV.str s, AV.int .i64 p, AV.int .i64 e]]) P :=
  gE (fun _ => funD rfl rfl Tryd.func26 rfl) (by kernel_rfl) h
theorem qcO (s : Bz) (p e : Int) {P : MV × List (List AV) → Prop} (h : Gets (xm [[.str s, .int .i64 p, .int .i64 e]]) P) : Gets (EVm (EV cfg) 13 [.ptr 0 0 0] 3 [[AV.str s, AV.int .i64 p, AV.int .i64 e]]) P :=
  gE (fun _ => funM rfl rfl Tryd.func13 rfl) (by kernel_rfl) h
theorem qgd (s : Bz) (p e k : Int) (w : Bz) {P : AV × List (List AV) → Prop} (h : Gets (bif decide ((w.length : Int) > 64) then some (.agg [.int .i64 k, .int .i64 0, .int .i64 0, .str w], [[.str s, .int .i64 p, .int .i64 343]]) else some (.agg [.int .i64 k, .int .i64 0, .int .i64 0, .str w], [[.str s, .int .i64 p, .int .i64 e]])) P) : Gets (EVd (EV cfg) 34 [.ptr 0 0 0, .int .i64 k, .str w] 3 [[AV.str s, AV.int .i64 p, AV.int .i64 e]]) P :=
  gE (fun _ => funD rfl rfl Tryd.func34 rfl) (by kernel_rfl) h
noncomputable abbrev za19 (q : AV × List (List AV)) (n_1 : Int) (s : Bz) (n : Int) : Option (MV × List (List AV)) := kOpt (qkw q.2 0) fun row => bif qkJ 2 (List.length row) then xm (List.set q.2 0 (List.append (List.append (List.take 1 row) [AV.int .i64 (IntKind.wrap .i64 (n_1 + IntKind.wrap .i64 ((s.length : Int) - n)))]) (List.drop 2 row))) else none
noncomputable abbrev za18 (v : AV) (q : AV × List (List AV)) (s : Bz) (n : Int) : Option (MV × List (List AV)) := kInt .i64 v fun n_1 => za19 q n_1 s n
noncomputable abbrev za17 (row : List AV) (q : AV × List (List AV)) (s : Bz) (n : Int) : Option (MV × List (List AV)) := kOpt (qkw row 1) fun v => za18 v q s n
noncomputable abbrev za16 (q : AV × List (List AV)) (s : Bz) (n : Int) : Option (MV × List (List AV)) := kOpt (qkw q.2 0) fun row => za17 row q s n
noncomputable abbrev za15 (v : AV) (q : AV × List (List AV)) (s : Bz) : Option (MV × List (List AV)) := kInt .i64 v fun n => za16 q s n
noncomputable abbrev za14 (row : List AV) (q : AV × List (List AV)) (s : Bz) : Option (MV × List (List AV)) := kOpt (qkw row 1) fun v => za15 v q s
noncomputable abbrev za13 (q : AV × List (List AV)) (s : Bz) : Option (MV × List (List AV)) := kOpt (qkw q.2 0) fun row => za14 row q s
noncomputable abbrev za12 (v : AV) (q : AV × List (List AV)) : Option (MV × List (List AV)) := kStr v fun s => za13 q s
noncomputable abbrev za11 (row : List AV) (q : AV × List (List AV)) : Option (MV × List (List AV)) := kOpt (qkw row 0) fun v => za12 v q
noncomputable abbrev za10 (q : AV × List (List AV)) : Option (MV × List (List AV)) := kOpt (qkw q.2 0) fun row => za11 row q
noncomputable abbrev za23 (q : AV × List (List AV)) (n_1 n : Int) : Option (MV × List (List AV)) := kOpt (qkw q.2 0) fun row => bif qkJ 2 (List.length row) then xm (List.set q.2 0 (List.append (List.append (List.take 1 row) [AV.int .i64 (IntKind.wrap .i64 (n_1 + n))]) (List.drop 2 row))) else none
noncomputable abbrev za22 (v : AV) (q : AV × List (List AV)) (n : Int) : Option (MV × List (List AV)) := kInt .i64 v fun n_1 => za23 q n_1 n
noncomputable abbrev za21 (row : List AV) (q : AV × List (List AV)) (n : Int) : Option (MV × List (List AV)) := kOpt (qkw row 1) fun v => za22 v q n
noncomputable abbrev za20 (q : AV × List (List AV)) (n : Int) : Option (MV × List (List AV)) := kOpt (qkw q.2 0) fun row => za21 row q n
noncomputable abbrev za9 (n : Int) (q : AV × List (List AV)) : Option (MV × List (List AV)) := bif decide (n < 0) then za10 q else za20 q n
noncomputable abbrev za8 (v : AV) (q : AV × List (List AV)) : Option (MV × List (List AV)) := kInt .i64 v fun n => za9 n q
noncomputable abbrev za7 (s : Bz) (n : Int) (q : AV × List (List AV)) : Option (MV × List (List AV)) := kOpt (EVs (EV cfg) 28 [.str (List.take (List.length s - n.toNat) (List.drop (n.toNat) s)), .int .u8 10]) fun v => za8 v q
noncomputable abbrev za6 (n : Int) (s : Bz) (q : AV × List (List AV)) : Option (MV × List (List AV)) := bif qk 0 n && qk n (s.length : Int) then za7 s n q else none
noncomputable abbrev za5 (v : AV) (s : Bz) (q : AV × List (List AV)) : Option (MV × List (List AV)) := kInt .i64 v fun n => za6 n s q
noncomputable abbrev za4 (row : List AV) (s : Bz) (q : AV × List (List AV)) : Option (MV × List (List AV)) := kOpt (qkw row 1) fun v => za5 v s q
noncomputable abbrev za3 (q : AV × List (List AV)) (s : Bz) : Option (MV × List (List AV)) := kOpt (qkw q.2 0) fun row => za4 row s q
noncomputable abbrev za2 (v : AV) (q : AV × List (List AV)) : Option (MV × List (List AV)) := kStr v fun s => za3 q s
noncomputable abbrev za1 (row : List AV) (q : AV × List (List AV)) : Option (MV × List (List AV)) := kOpt (qkw row 0) fun v => za2 v q
noncomputable abbrev za0 (q : AV × List (List AV)) : Option (MV × List (List AV)) := kOpt (qkw q.2 0) fun row => za1 row q
theorem zr (h0 : Rz) {P : MV × List (List AV) → Prop} (h : Gets (kOpt (EVd (EV cfg) 26 [.ptr 0 0 0] 3 h0) fun q => kTup q.1 fun cs => qy cs fun c cs => kInt .u8 c fun n => qy cs fun c cs => qD c fun b => kNil cs (bif b then kOpt (EVs (EV cfg) 27 [AV.int .u8 n]) fun v => qD v fun b_1 => bif b_1 then kOpt (qkw q.2 0) fun row => kOpt (qkw row 1) fun v => kInt .i64 v fun n => kOpt (qkw q.2 0) fun row => bif qkJ 2 (List.length row) then xm (List.set q.2 0 (List.append (List.append (List.take 1 row) [AV.int .i64 (IntKind.wrap .i64 (n + 1))]) (List.drop 2 row))) else none else bif b then bif n == 37 then za0 q else some (MV.unit, q.2) else some (MV.unit, q.2) else bif b then bif n == (37 : Int) then za0 q else some (MV.unit, q.2) else some (MV.unit, q.2))) P) : Gets (xm h0) P :=
  gE (fun _ => yW (cfg := cfg) (f := 13) (rd := none) (bs := 1)) (by kernel_rfl) h
theorem qgG {s t : List UInt8} (h : s.length < 4294967281) : EVs (EV cfg) 49 [.str s, .str t] = some (.bool (Go.Lib.contains s t)) := by
 refine qiL (H := []) (qeX ?_)
 have hx : cfg.ext 49 = some xS := rfl
 unfold qX
 simp only [hx]
 unfold xS
 simp only [if_pos h]
def scR (s : List UInt8) (p : Nat) (e : Int) : List (List AV) := [[.str s, .int .i64 (p : Int), .int .i64 e]]
theorem qgQ {s : List UInt8} {p : Nat} {e : Int} {b : UInt8} (h : s[p]? = some b) : EVd (EV cfg) 26 [.ptr 0 0 0] 3 (scR s p e) = some (.tup [.int .u8 (b.toNat : Int), .bool true], scR s p e) := by
 have hlt : p < s.length := (qkp.1 h).1
 apply Gets.get
 refine qcQ _ _ _ ?_
 rw [decide_eq_false (show ¬ ((p : Int) ≥ (s.length : Int)) by omega)]
 have h0 : qk 0 (p : Int) = true := by simp
 rw [h0, Int.toNat_natCast, List.get?Internal_eq_getElem?, h]
 exact ⟨_, rfl, rfl⟩
theorem qiY {s : List UInt8} {p : Nat} {e : Int} (h : s.length ≤ p) : EVd (EV cfg) 26 [.ptr 0 0 0] 3 (scR s p e) = some (.tup [.int .u8 0, .bool false], scR s p e) := by
 apply Gets.get
 refine qcQ _ _ _ ?_
 rw [decide_eq_true (show ((p : Int) ≥ (s.length : Int)) by omega)]
 exact ⟨_, rfl, rfl⟩
theorem qfQ (c : Int) : EVs (EV cfg) 27 [.int .u8 c] = some (.bool (c == 9 || c == 10 || c == 13 || c == 32)) := by
 apply Gets.get
 refine qgf _ ?_
 cases h1 : c == 9 <;> cases h2 : c == 10 <;> cases h3 : c == 13 <;> simp
theorem qcH {x : Int} (h0 : -9223372036854775808 ≤ x) (h1 : x ≤ 9223372036854775807) : IntKind.wrap .i64 x = x := by
 simp [IntKind.wrap, IntKind.bits, IntKind.signed]; omega
theorem qg4 {s : List UInt8} {p : Nat} {e : Int} {P : MV × List (List AV) → Prop} (hl : s.length < 1099511627776) (h : s[p]? = some 32) (hn : Gets (xm (scR s (p + 1) e)) P) : Gets (xm (scR s p e)) P := by
 have hlt : p < s.length := (qkp.1 h).1
 refine zr _ ?_
 unfold za0 za1 za2 za3 za4 za5 za6 za7 za8 za9 za20 za21 za22 za23 za10 za11 za12 za13 za14 za15 za16 za17 za18 za19
 rw [qgQ h]
 simp only [kOpt, kTup, qy, kInt, qS, cond_true, qD, kNil]
 rw [qfQ]
 simp only [kOpt, qD]
 have hw : IntKind.wrap .i64 ((p : Int) + 1) = ((p + 1 : Nat) : Int) := by rw [qcH (by omega) (by omega)]; omega
 simpa [scR, kOpt, kInt, qS, hw] using hn
theorem qh5 {s : List UInt8} {p : Nat} {e : Int} {b : UInt8} {P : MV × List (List AV) → Prop} (h : s[p]? = some b) (h1 : b ≠ 9) (h2 : b ≠ 10) (h3 : b ≠ 13) (h4 : b ≠ 32) (h5 : b ≠ 37) (hn : P (.unit, scR s p e)) : Gets (xm (scR s p e)) P := by
 refine zr _ ?_
 unfold za0 za1 za2 za3 za4 za5 za6 za7 za8 za9 za20 za21 za22 za23 za10 za11 za12 za13 za14 za15 za16 za17 za18 za19
 rw [qgQ h]
 simp only [kOpt, kTup, qy, kInt, qS, cond_true, qD, kNil]
 rw [qfQ]
 have ne : ∀ k : UInt8, b ≠ k → ((b.toNat : Int) == (k.toNat : Int)) = false := fun k hk => by
  simp only [beq_eq_false_iff_ne, ne_eq]
  intro he
  exact hk (UInt8.toNat.inj (by omega))
 have e1 : ((b.toNat : Int) == 9) = false := ne 9 h1
 have e2 : ((b.toNat : Int) == 10) = false := ne 10 h2
 have e3 : ((b.toNat : Int) == 13) = false := ne 13 h3
 have e4 : ((b.toNat : Int) == 32) = false := ne 32 h4
 have e5 : ((b.toNat : Int) == 37) = false := ne 37 h5
 simp only [e1, e2, e3, e4, e5, Bool.or_self, kOpt, qD, cond_false]
 exact ⟨_, rfl, hn⟩
theorem qh6 {s : List UInt8} {p : Nat} {e : Int} {P : MV × List (List AV) → Prop} (h : s.length ≤ p) (hn : P (.unit, scR s p e)) : Gets (xm (scR s p e)) P := by
 refine zr _ ?_
 unfold za0 za1 za2 za3 za4 za5 za6 za7 za8 za9 za20 za21 za22 za23 za10 za11 za12 za13 za14 za15 za16 za17 za18 za19
 rw [qiY h]
 simp only [kOpt, kTup, qy, kInt, qS, cond_true, qD, kNil, cond_false]
 exact ⟨_, rfl, hn⟩
noncomputable def qjN : Den := evC cfg (EV cfg) 35 none 1 (sub (qF Tryd.f35) [1, 1, 0, 0, 0])
noncomputable def qjQ : Ex × List AV × AH → Option (AV × List (List AV)) := kAft (Cfg.keepOut cfg 35 (qf (sub (qF Tryd.f35) [1, 1, 0, 0, 0]))) (qdq 0 (kSeq (fun (fr : List AV) (H : AH) => qdp (Cfg.cut cfg 35 (qf (sub (qF Tryd.f35) [1, 1, 1]))) fr H fun (fr : List AV) (H : AH) => qK cfg (EV cfg) (kfN cfg 6) 35 none 1 (sub (qF Tryd.f35) [1, 1, 1]) fr H (qht cfg 3 (Cfg.lift cfg 35 0) (Array.toList (Func.results Tryd.f35)))) (qht cfg 3 (Cfg.lift cfg 35 0) (Array.toList (Func.results Tryd.f35)))))
noncomputable def qjK : List AV × AH → Option (AV × List (List AV)) := fun (p : List AV × AH) => kOpt (LOOP 1 (some [0, 1, 5]) [] qjN p) qjQ
noncomputable def qkf : Den := evC cfg (EV cfg) 6 none 0 (sub (qF Tryd.f6) [1, 0, 1, 1, 1, 1, 0, 0, 0])
noncomputable def qkj : Ex × List AV × AH → Option AV := kAft (Cfg.keepOut cfg 6 5) (kRun cfg (EV cfg) (kfN cfg 6) 6 none 0 (qjr cfg (Cfg.lift cfg 6 0) Tryd.f6.results.toList) ([.block 0, .seq (sub (qF Tryd.f6) [1, 0, 1, 1, 1, 1, 1]), .scope]))
noncomputable def qiI : List AV × AH → Option AV := fun p => kOpt (LOOP 0 (some [0, 3, 4, 5]) ([(5, 4)]) qkf p) qkj
noncomputable abbrev yE (p : Int) (h0 : Rz) : Option (AV × List (List AV)) := qjK  (((fx 50 [(0, .ptr 0 0 0), (1, .fn (Fn.func 36) [] []), (5, .int .i64 p)]) : List AV), ([.rows true 3 h0] : AH))
noncomputable abbrev qh0 (t : Bz) (nv5 : Nat) (c0_0 c0_1 : Int) (c1_0 : Bz) (c1_1 c1_2 : Int) (h2 : Rz) : Option (AV) := qiI  (((fx 46 [(0, .str t), (3, .ptr 0 0 0), (4, .ptr 1 0 0), (5, .ms 2 0 nv5)]) : List AV), ([.rows false 2 [[.int .i64 c0_0, .int .i64 c0_1]], .rows false 3 [[.str c1_0, .int .i64 c1_1, .int .i64 c1_2]], .rows true 4 h2] : AH))
noncomputable abbrev qgO (t : Bz) (nv5 : Nat) (c0_0 c0_1 : Int) (h1 h2 : Rz) : Option (AV) := qiI  (((fx 46 [(0, .str t), (3, .ptr 0 0 0), (4, .ptr 1 0 0), (5, .ms 2 0 nv5)]) : List AV), ([.rows false 2 [[.int .i64 c0_0, .int .i64 c0_1]], .rows true 3 h1, .rows true 4 h2] : AH))
theorem qg7 (s : Bz) (p e : Int) {P : AV × List (List AV) → Prop} (h : Gets (yE p [[.str s, .int .i64 p, .int .i64 e]]) P) : Gets (EVd (EV cfg) 35 [.ptr 0 0 0, .fn (Fn.func 36) [] []] 3 [[AV.str s, AV.int .i64 p, AV.int .i64 e]]) P :=
  gE (fun _ => funD rfl rfl Tryd.func35 rfl) (by kernel_rfl) h
noncomputable abbrev zb8 (c : AV) (cs : List AV) (n n_1 n_2 : Int) (q : AV × List (List AV)) : Option (AV × List (List AV)) := kStr c fun s => kNil cs (some (.agg [.int .i64 n, .int .i64 n_1, .int .i64 n_2, .str s], q.2))
noncomputable abbrev zb7 (cs : List AV) (n n_1 n_2 : Int) (q : AV × List (List AV)) : Option (AV × List (List AV)) := qy cs fun c cs => zb8 c cs n n_1 n_2 q
noncomputable abbrev zb6 (c : AV) (cs : List AV) (n n_1 : Int) (q : AV × List (List AV)) : Option (AV × List (List AV)) := kInt .i64 c fun n_2 => zb7 cs n n_1 n_2 q
noncomputable abbrev zb5 (cs : List AV) (n n_1 : Int) (q : AV × List (List AV)) : Option (AV × List (List AV)) := qy cs fun c cs => zb6 c cs n n_1 q
noncomputable abbrev zb4 (c : AV) (cs : List AV) (n : Int) (q : AV × List (List AV)) : Option (AV × List (List AV)) := kInt .i64 c fun n_1 => zb5 cs n n_1 q
noncomputable abbrev zb3 (cs : List AV) (n : Int) (q : AV × List (List AV)) : Option (AV × List (List AV)) := qy cs fun c cs => zb4 c cs n q
noncomputable abbrev zb2 (c : AV) (cs : List AV) (q : AV × List (List AV)) : Option (AV × List (List AV)) := kInt .i64 c fun n => zb3 cs n q
noncomputable abbrev zb1 (cs : List AV) (q : AV × List (List AV)) : Option (AV × List (List AV)) := qy cs fun c cs => zb2 c cs q
noncomputable abbrev zb0 (q : AV × List (List AV)) : Option (AV × List (List AV)) := kAgg q.1 fun cs => zb1 cs q
theorem qg8 (s : Bz) (p e : Int) {P : AV × List (List AV) → Prop} (h : Gets (bif qk 0 p then kOpt (qkw s (p.toNat)) fun b => kOpt (EVs (EV cfg) 29 [AV.int .u8 (↑ (UInt8.toNat b) : Int)]) fun v => qD v fun b_1 => bif b_1 then kOpt (EVd (EV cfg) 30 [.ptr 0 0 0] 3 [[.str s, .int .i64 p, .int .i64 e]]) fun q => zb0 q else bif (↑ (UInt8.toNat b) : Int) == 36 then kOpt (EVd (EV cfg) 31 [.ptr 0 0 0] 3 [[.str s, .int .i64 p, .int .i64 e]]) fun q => zb0 q else bif (↑ (UInt8.toNat b) : Int) == 39 then kOpt (EVd (EV cfg) 32 [.ptr 0 0 0] 3 [[.str s, .int .i64 p, .int .i64 e]]) fun q => zb0 q else kOpt (EVs (EV cfg) 33 [AV.int .u8 (↑ (UInt8.toNat b) : Int)]) fun v => qD v fun b_2 => bif b_2 then kOpt (EVd (EV cfg) 35 [.ptr 0 0 0, AV.fn (Fn.func 36) [] []] 3 [[.str s, .int .i64 p, .int .i64 e]]) fun q => kStr q.1 fun s => kOpt (EVd (EV cfg) 34 [.ptr 0 0 0, .int .i64 3, .str s] 3 q.2) fun q => zb0 q else kOpt (EVs (EV cfg) 37 [AV.int .u8 (↑ (UInt8.toNat b) : Int)]) fun v => qD v fun b => bif b then kOpt (EVd (EV cfg) 35 [.ptr 0 0 0, AV.fn (Fn.func 36) [] []] 3 [[.str s, .int .i64 p, .int .i64 e]]) fun q => kStr q.1 fun s => kOpt (EVs (EV cfg) 38 [.str s]) fun v => qD v fun b => bif b then some (.agg [.int .i64 4, .int .i64 0, .int .i64 0, .str s], q.2) else kOpt (EVd (EV cfg) 34 [.ptr 0 0 0, .int .i64 2, .str s] 3 q.2) fun q => zb0 q else kOpt (EVd (EV cfg) 39 [.ptr 0 0 0] 3 [[.str s, .int .i64 p, .int .i64 e]]) fun q => zb0 q else none) P) : Gets (EVd (EV cfg) 14 [.ptr 0 0 0] 3 [[AV.str s, AV.int .i64 p, AV.int .i64 e]]) P :=
  gE (fun _ => funD rfl rfl Tryd.func14 rfl) (by kernel_rfl) h
theorem qcP (t : Bz) {P : AV → Prop} (h : Gets (bif decide ((t.length : Int) > 65536) then some (AV.tup [.sl [], .agg [.int .i64 3, .int .i64 0]]) else qh0 t 0 0 0 t 0 (0 : Int) []) P) : Gets (EVf (EV cfg) 6 [.str t]) P :=
  gE (fun _ => funF rfl rfl Tryd.func6 rfl) (by kernel_rfl) h
theorem qaS (p : Int) (h0 : Rz) {P : AV × List (List AV) → Prop} (h : Gets (kOpt (qkw h0 0) fun row => kOpt (qkw row 1) fun v => kInt .i64 v fun n => kOpt (qkw h0 0) fun row => kOpt (qkw row 0) fun v => kStr v fun s => bif decide (n < (s.length : Int)) then kOpt (qkw h0 0) fun row => kOpt (qkw row 0) fun v => kStr v fun s => kOpt (qkw h0 0) fun row => kOpt (qkw row 1) fun v => kInt .i64 v fun n => bif qk 0 n then kOpt (qkw s (n.toNat)) fun b => kOpt (EVs (EV cfg) 36 [AV.int .u8 (↑ (UInt8.toNat b) : Int)]) fun v => qD v fun b => bif b then kOpt (qkw h0 0) fun row => kOpt (qkw row 1) fun v => kInt .i64 v fun n => kOpt (qkw h0 0) fun row => bif qkJ 2 (List.length row) then yE p (List.set h0 0 (List.append (List.append (List.take 1 row) [AV.int .i64 (IntKind.wrap .i64 (n + 1))]) (List.drop 2 row))) else none else kOpt (qkw h0 0) fun row => kOpt (qkw row 0) fun v => kStr v fun s => kOpt (qkw h0 0) fun row => kOpt (qkw row 1) fun v => kInt .i64 v fun n => bif qk 0 n && qk n (s.length : Int) then bif qk (0 : Int) p && qk p (↑ (n.toNat) : Int) then some (.str (List.take (Int.toNat n - p.toNat) (List.drop (p.toNat) s)), h0) else none else none else none else kOpt (qkw h0 0) fun row => kOpt (qkw row 0) fun v => kStr v fun s => kOpt (qkw h0 0) fun row => kOpt (qkw row 1) fun v => kInt .i64 v fun n => bif qk 0 n && qk n (s.length : Int) then bif qk 0 p && qk p (↑ (n.toNat) : Int) then some (.str (List.take (Int.toNat n - p.toNat) (List.drop (p.toNat) s)), h0) else none else none) P) : Gets (yE p h0) P :=
  gE (fun _ => yW (cfg := cfg) (f := 35) (rd := none) (bs := 1)) (by kernel_rfl) h
noncomputable abbrev zb14 (q : AV × List (List AV)) (n : Int) : Option (AV) := kOpt (qkw q.2 0) fun row => kOpt (qkw row 2) fun v => kInt .i64 v fun n_5 => some (AV.tup [.sl [], .agg [.int .i64 n_5, .int .i64 n]])
noncomputable abbrev zb13 (n_4 : Int) (q : AV × List (List AV)) (n : Int) (nv5 : Nat) (h2 : Rz) (t : Bz) (c0_0 c0_1 n_1 n_2 : Int) (s : Bz) : Option (AV) := bif n_4 != 0 then zb14 q n else bif qkJ (0 + nv5) (List.length h2) && yy (nv5 + 1) 40 then qgO t (nv5 + 1) c0_0 c0_1 q.2 (List.append (List.take nv5 h2) [[AV.int .i64 n_1, .int .i64 n_2, .int .i64 n, .str s]]) else none
noncomputable abbrev zb12 (v : AV) (q : AV × List (List AV)) (n : Int) (nv5 : Nat) (h2 : Rz) (t : Bz) (c0_0 c0_1 n_1 n_2 : Int) (s : Bz) : Option (AV) := kInt .i64 v fun n_4 => zb13 n_4 q n nv5 h2 t c0_0 c0_1 n_1 n_2 s
noncomputable abbrev zb11 (row : List AV) (q : AV × List (List AV)) (n : Int) (nv5 : Nat) (h2 : Rz) (t : Bz) (c0_0 c0_1 n_1 n_2 : Int) (s : Bz) : Option (AV) := kOpt (qkw row 2) fun v => zb12 v q n nv5 h2 t c0_0 c0_1 n_1 n_2 s
noncomputable abbrev zb10 (q : AV × List (List AV)) (n : Int) (nv5 : Nat) (h2 : Rz) (t : Bz) (c0_0 c0_1 n_1 n_2 : Int) (s : Bz) : Option (AV) := kOpt (qkw q.2 0) fun row => zb11 row q n nv5 h2 t c0_0 c0_1 n_1 n_2 s
noncomputable abbrev zb9 (q : MV × List (List AV)) (t : Bz) (nv5 : Nat) (h2 : Rz) (c0_0 c0_1 : Int) : Option (AV) := qak q.1 (kOpt (qkw q.2 0) fun row => kOpt (qkw row 1) fun v => kInt .i64 v fun n => bif decide (n ≥ (t.length : Int)) then bif qkJ (0 + nv5) (List.length h2) && true then some (AV.tup [.sl (List.take nv5 h2), .agg [.int .i64 0, .int .i64 0]]) else none else kOpt (EVd (EV cfg) 14 [.ptr 0 0 0] 3 q.2) fun q => kAgg q.1 fun cs => qy cs fun c cs => kInt .i64 c fun n_1 => qy cs fun c cs => kInt .i64 c fun n_2 => qy cs fun c cs => kInt .i64 c fun n_3 => qy cs fun c cs => kStr c fun s => kNil cs (zb10 q n nv5 h2 t c0_0 c0_1 n_1 n_2 s))
theorem qf2 (t : Bz) (nv5 : Nat) (c0_0 c0_1 : Int) (c1_0 : Bz) (c1_1 c1_2 : Int) (h2 : Rz) {P : AV → Prop} (h : Gets (kOpt (EVm (EV cfg) 13 [.ptr 0 0 0] 3 [[.str c1_0, .int .i64 c1_1, .int .i64 c1_2]]) fun q => zb9 q t nv5 h2 c0_0 c0_1) P) : Gets (qh0 t nv5 c0_0 c0_1 c1_0 c1_1 c1_2 h2) P :=
  gE (fun _ => yW (cfg := cfg) (f := 6) (rd := none) (bs := 0)) (by kernel_rfl) h
theorem qe1 (t : Bz) (nv5 : Nat) (c0_0 c0_1 : Int) (h1 h2 : Rz) {P : AV → Prop} (h : Gets (kOpt (EVm (EV cfg) 13 [.ptr 0 0 0] 3 h1) fun q => zb9 q t nv5 h2 c0_0 c0_1) P) : Gets (qgO t nv5 c0_0 c0_1 h1 h2) P :=
  gE (fun _ => yW (cfg := cfg) (f := 6) (rd := none) (bs := 0)) (by kernel_rfl) h
def qby (c : Int) : Bool := decide (c ≥ 48) && decide (c ≤ 57)
def qa5 (c : Int) : Bool := decide (c ≥ 97) && decide (c ≤ 122)
def bigB (c : Int) : Bool := decide (c ≥ 65) && decide (c ≤ 90) || c == 95
def qd4 (c : Int) : Bool := qby c || qa5 c || bigB c || c == 64
theorem qfM (c : Int) : EVs (EV cfg) 29 [.int .u8 c] = some (.bool (qby c)) := by
 apply Gets.get
 refine qge _ ?_
 unfold qby
 cases decide (c ≥ 48) <;> simp
theorem qe7 (c : Int) : EVs (EV cfg) 37 [.int .u8 c] = some (.bool (qa5 c)) := by
 apply Gets.get
 refine qgc _ ?_
 unfold qa5
 cases decide (c ≥ 97) <;> simp
theorem qiF (c : Int) : EVs (EV cfg) 33 [.int .u8 c] = some (.bool (bigB c)) := by
 apply Gets.get
 refine qh9 _ ?_
 unfold bigB
 cases decide (c ≥ 65) <;> cases decide (c ≤ 90) <;> simp
theorem qim (c : Int) : EVs (EV cfg) 36 [.int .u8 c] = some (.bool (qd4 c)) := by
 apply Gets.get
 refine qe9 _ ?_
 rw [qfM, qe7, qiF]
 unfold qd4
 cases qby c <;> cases qa5 c <;> cases bigB c <;> simp
theorem qib {s : List UInt8} {p i : Nat} {e : Int} {b : UInt8} {P : AV × List (List AV) → Prop} (hl : s.length < 1099511627776) (h : s[i]? = some b) (hb : qd4 (b.toNat : Int) = true) (hn : Gets (yE (p : Int) (scR s (i + 1) e)) P) : Gets (yE (p : Int) (scR s i e)) P := by
 have hlt : i < s.length := (qkp.1 h).1
 refine qaS _ _ ?_
 have hw : IntKind.wrap .i64 ((i : Int) + 1) = ((i + 1 : Nat) : Int) := by rw [qcH (by omega) (by omega)]; omega
 have hd : decide ((i : Int) < (s.length : Int)) = true := decide_eq_true (by omega)
 have h0 : qk 0 (i : Int) = true := by simp
 simp only [scR, qkw, kOpt, kInt, qS, cond_true, kStr, hd, h0, Int.toNat_natCast]
 rw [List.get?Internal_eq_getElem?, h]
 simp only [kOpt]
 rw [qim, hb]
 simpa [scR, kOpt, qD, kInt, qS, hw] using hn
theorem qic {s : List UInt8} {p i : Nat} {e : Int} {P : AV × List (List AV) → Prop} (hp : p ≤ i) (h : s.length = i) (hn : P (.str ((s.drop p).take (i - p)), scR s i e)) : Gets (yE (p : Int) (scR s i e)) P := by
 refine qaS _ _ ?_
 have hd : decide ((i : Int) < (s.length : Int)) = false := decide_eq_false (by omega)
 have h0 : qk 0 (i : Int) = true := by simp
 have h1 : qk (i : Int) (s.length : Int) = true := by simp; omega
 have h2 : qk 0 (p : Int) = true := by simp
 have h3 : qk (p : Int) (i : Int) = true := by simp; omega
 simp only [scR, qkw, kOpt, kInt, qS, cond_true, cond_false, kStr, hd, h0, h1, h2, h3, Int.toNat_natCast, Bool.and_self]
 exact ⟨_, rfl, hn⟩
def qC (n : Nat) : List UInt8 := qkE n 32 ++ [97]
theorem vq (n : Nat) : (qC n).length = n + 1 := by simp [qC]
theorem qiE {n i : Nat} (h : i < n) : (qC n)[i]? = some 32 := by
 unfold qC
 rw [qkx (by simpa using h), List.getElem?_replicate, if_pos h]
theorem qbz (n : Nat) : (qC n)[n]? = some 97 := by
 unfold qC
 rw [qkB (by simp)]
 simp
theorem qga {n : Nat} {e : Int} (hn : n < 1000000) : EVm (EV cfg) 13 [.ptr 0 0 0] 3 (scR (qC n) 0 e) = some (.unit, scR (qC n) n e) := by
 apply Gets.get
 refine qcO _ _ _ ?_
 have go : ∀ k p : Nat, p + k = n → Gets (xm (scR (qC n) p e)) (· = (.unit, scR (qC n) n e)) := by
  intro k
  induction k with
  | zero =>
   intro p hp
   have : p = n := by omega
   subst this
   exact qh5 (qbz p) (by decide) (by decide) (by decide) (by decide) (by decide) rfl
  | succ k ih =>
   intro p hp
   exact qg4 (by rw [vq]; omega) (qiE (by omega)) (ih (p + 1) (by omega))
 exact go n 0 (by omega)
theorem qh7 {n : Nat} {e : Int} : EVm (EV cfg) 13 [.ptr 0 0 0] 3 (scR (qC n) (n + 1) e) = some (.unit, scR (qC n) (n + 1) e) := by
 apply Gets.get
 refine qcO _ _ _ ?_
 exact qh6 (by rw [vq]; omega) rfl
theorem qiS {n : Nat} {e : Int} (hn : n < 1000000) : EVd (EV cfg) 35 [.ptr 0 0 0, .fn (.func 36) [] []] 3 (scR (qC n) n e) = some (.str [97], scR (qC n) (n + 1) e) := by
 apply Gets.get
 refine qg7 _ _ _ ?_
 refine qib (by rw [vq]; omega) (qbz n) (by decide) ?_
 refine qic (by omega) (vq n) ?_
 have : ((qC n).drop n).take (n + 1 - n) = [97] := by
  unfold qC
  rw [List.drop_left' (by simp)]
  simp
 rw [this]
theorem qjY : EVs (EV cfg) 38 [.str [97]] = some (.bool false) := by
 apply Gets.get
 refine qg6 _ ?_
 simp only [List.length_cons, List.length_nil, kOpt, kStr, List.append]
 have h1 : (!([97] : List UInt8) == []) = true := by decide
 rw [h1]
 have h2 : qkJ (1 + (0 + 1)) 9223372036854775807 = true := by decide
 have h3 : qkJ (0 + 1 + 1 + 1) 9223372036854775807 = true := by decide
 simp only [cond_true, h2, kOpt, kStr, List.length_cons, List.length_nil, h3, List.append]
 rw [qgG (by decide)]
 exact ⟨_, rfl, by congr⟩
theorem qjC {s : List UInt8} {p : Nat} {e k : Int} : EVd (EV cfg) 34 [.ptr 0 0 0, .int .i64 k, .str [97]] 3 (scR s p e) = some (.agg [.int .i64 k, .int .i64 0, .int .i64 0, .str [97]], scR s p e) := by
 apply Gets.get
 refine qgd _ _ _ _ _ ?_
 exact ⟨_, rfl, rfl⟩
theorem qj2 {n : Nat} {e : Int} (hn : n < 1000000) : EVd (EV cfg) 14 [.ptr 0 0 0] 3 (scR (qC n) n e) = some (.agg [.int .i64 2, .int .i64 0, .int .i64 0, .str [97]], scR (qC n) (n + 1) e) := by
 apply Gets.get
 refine qg8 _ _ _ ?_
 unfold zb0 zb1 zb2 zb3 zb4 zb5 zb6 zb7 zb8
 have h0 : qk 0 (n : Int) = true := by simp
 rw [h0, Int.toNat_natCast, List.get?Internal_eq_getElem?, qbz]
 simp only [cond_true, kOpt]
 have hd : qby (((97 : UInt8).toNat : Nat) : Int) = false := by decide
 have hb : bigB (((97 : UInt8).toNat : Nat) : Int) = false := by decide
 have hs : qa5 (((97 : UInt8).toNat : Nat) : Int) = true := by decide
 have e1 : ((((97 : UInt8).toNat : Nat) : Int) == 36) = false := by decide
 have e2 : ((((97 : UInt8).toNat : Nat) : Int) == 39) = false := by decide
 have hr := qiS (e := e) hn
 unfold scR at hr
 rw [qfM, hd]
 simp only [kOpt, qD, cond_false, e1, e2]
 rw [qiF, hb]
 simp only [kOpt, qD, cond_false]
 rw [qe7, hs]
 simp only [kOpt, qD, cond_true]
 rw [hr]
 simp only [kOpt, kStr]
 rw [qjY]
 simp only [kOpt, qD, cond_false]
 have hna := qjC (s := qC n) (p := n + 1) (e := e) (k := 2)
 unfold scR at hna
 rw [hna]
 exact ⟨_, rfl, rfl⟩
theorem qh8 {s : List UInt8} (h : 65536 < s.length) : EVf (EV cfg) 6 [.str s] = some (.tup [.sl [], .agg [.int .i64 3, .int .i64 0]]) := by
 apply Gets.get
 refine qcP _ ?_
 rw [decide_eq_true (show ((s.length : Nat) : Int) > 65536 by omega)]
 exact ⟨_, rfl, rfl⟩
theorem qg5 {n : Nat} (h : n + 1 ≤ 65536) : EVf (EV cfg) 6 [.str (qC n)] = some (.tup [.sl [[.int .i64 2, .int .i64 0, .int .i64 n, .str [97]]], .agg [.int .i64 0, .int .i64 0]]) := by
 apply Gets.get
 refine qcP _ ?_
 rw [decide_eq_false (show ¬ (((qC n).length : Nat) : Int) > 65536 by rw [vq]; omega)]
 simp only [cond_false]
 refine qf2 _ _ _ _ _ _ _ _ ?_
 unfold zb9 zb10 zb11 zb12 zb13 zb14
 have hs := qga (n := n) (e := 0) (by omega)
 unfold scR at hs
 rw [show (((0 : Nat) : Int)) = 0 from rfl] at hs
 rw [hs]
 have hx := qj2 (n := n) (e := 0) (by omega)
 unfold scR at hx
 have hd : decide ((n : Int) ≥ (((qC n).length : Nat) : Int)) = false := decide_eq_false (by rw [vq]; omega)
 simp only [kOpt, qak, qkw, kInt, qS, cond_true, hd, cond_false]
 rw [hx]
 have hf : yy 1 40 = true := by decide
 simp only [kOpt, kAgg, qy, kInt, qS, cond_true, kStr, kNil, qkw, List.take_zero, List.length_nil, Nat.zero_add]
 have hne : ((0 : Int) != 0) = false := by decide
 have hb : qkJ 0 0 = true := rfl
 simp only [hne, cond_false, hb, hf, Bool.and_self, cond_true]
 refine qe1 _ _ _ _ _ _ ?_
 unfold zb9 zb10 zb11 zb12 zb13 zb14
 have hs2 := qh7 (n := n) (e := 0)
 unfold scR at hs2
 rw [hs2]
 have hd2 : decide (((n + 1 : Nat) : Int) ≥ (((qC n).length : Nat) : Int)) = true := decide_eq_true (by rw [vq]; omega)
 simp only [kOpt, qak, qkw, kInt, qS, cond_true, hd2]
 exact ⟨_, rfl, rfl⟩
end Go.Proofs.YtnmfakkjnbpjpaaDoor
end
