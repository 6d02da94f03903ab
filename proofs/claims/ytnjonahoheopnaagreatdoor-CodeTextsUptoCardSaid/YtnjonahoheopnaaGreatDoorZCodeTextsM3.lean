/-
  Parts of the proof of CodeTextsUptoCardSaid, put together: the abstract evaluation and its contracts. Own work.
  What is proved: each lemma as it stands; no condition.
-/
import Derived.LoopNIn
import Derived.KernelRfl
import Derived.Lib.Bytealg
import Derived.Lib.IndexMore
import Derived.Lib.ParseIntB
import Derived.Lib.ItoaNum
import Derived.Lib.Join
import Derived.Test.YtnjonahoheopnaaGreatDoorZCodeTextsM2
open Bool renaming and_eq_true → qqi, false_eq_true → qqq, not_eq_true → qqK
open List renaming getElem?_eq_some_iff → qqj, getElem?_eq_getElem → qqm, length → qqp, length_cons → qqr, getElem?_append_left → qqs, getElem?_set → qqu, length_append → qqv, getElem?_append_right → qqw, mem_of_getElem? → qqx, get?Internal → qqy, length_nil → qqA, append → qqE, getElem?_cons_succ → qqF, replicate → qqG, mem_cons → qqH, mem_append → qqI, take → qqM, append_eq → qqO
open Option renaming bind_eq_some_iff → qqk, map_eq_some_iff → qql, bind_some → qqt, map_some → qqD
open Nat renaming eq_of_beq_eq_true → qqn, le_refl → qqo, beq → qqz, ble → qqB, mul_le_mul_right → qqC, blt_eq → qqL
open Array renaming getElem?_toList → qqJ
open Int renaming toNat → qqN
set_option maxRecDepth 1000000
set_option maxHeartbeats 0
section
namespace Go.Av
variable {C C' C1 C2 : qb} {μ μ' μ1 : MMap} {H H' H1 H2 : AH} {w w' w1 : World} {P : Program}
section
variable {F : Fence} {n : Nat} {Q : Exit → Act → World → Prop} {a : Act} {b : Frame} {k : List Item} {cs : List Frame}
theorem xL {c : Code} : step P (lone (b.atR a (.code (.scope c) :: k)) cs w) = .next (lone (b.atR a (.code c :: .inScope c :: k)) cs w) :=
 step_lone_go (by simp [stepG, stepG.exec, Frame.atR])
theorem qgM {c : Code} : step P (lone (b.atR a (.inScope c :: k)) cs w) = .next (lone (b.atR a k) cs w) :=
 step_lone_go (by simp [stepG, stepG.exec, Frame.atR])
theorem qjE {c : Code} (h : c.wpIn F n P Q a w) (hg : ∀ l a w, ¬ Q (.goto l) a w) : (Code.scope c).wpIn F n P Q a w := by
 intro b k cs hro hb hr
 have h0 : (lone (b.atR a (.code (.scope c) :: k)) cs w).fenced P F := fenced_calm hb hr rfl
 obtain ⟨e, a₁, w₁, hq, harr⟩ := h b (.inScope c :: k) cs hro hb hr
 cases e with
 | normal => exact ⟨.normal, a₁, w₁, hq, .head h0 xL (StepsIn.trans harr (.one (fenced_calm hb hr rfl) qgM))⟩
 | exit id =>
  have hx : exitTo id (.inScope c :: k) = exitTo id k := by simp [exitTo]
  exact ⟨.exit id, a₁, w₁, hq, fun k' hk => .head h0 xL (harr.1 k' (by rw [hx]; exact hk)),
   fun hr' hk => let ⟨k₁, h1, h2⟩ := harr.2 hr' (by rw [hx]; exact hk); ⟨k₁, h1, .head h0 xL h2⟩⟩
 | goto l => exact absurd hq (hg l _ _)
 | ret => exact ⟨_, a₁, w₁, hq, .of_steps (.one h0 xL) harr⟩
 | panic ch => exact ⟨_, a₁, w₁, hq, .of_steps (.one h0 xL) harr⟩
 | outgrown => exact ⟨_, a₁, w₁, hq, .of_steps (.one h0 xL) harr⟩
end
def mark (D : Nat) : Deferred := { target := .collected D, args := #[] }
def qaD (B : Nat) (μ : MMap) (H : AH) (w : World) (ds : List Deferred) : Prop :=
 B ≤ w.heap.size ∧ ∃ Ds : List Nat, ds = Ds.map mark ∧ Ds.Nodup ∧ ∀ D ∈ Ds, B ≤ D ∧ w.heap[D]? = some (.deferred (some [])) ∧ ¬ Live H μ D
theorem qaD.ext {B k : Nat} {ds : List Deferred} (h : qaD B μ H w ds) (hx : Ext k C μ H w C' μ' H' w') : qaD B μ' H' w' ds := by
 obtain ⟨hb, Ds, h1, h2, h3⟩ := h
 refine ⟨Nat.le_trans hb hx.size, Ds, h1, h2, fun D hD => ?_⟩
 obtain ⟨e1, e2, e3⟩ := h3 D hD
 obtain ⟨f1, f2, _⟩ := hx.fr D (Array.getElem?_eq_some_iff.1 e2).1 e3
 exact ⟨e1, by rw [f1]; exact e2, f2⟩
def Ex.to : Ex → Exit
 | .normal => .normal
 | .exit id => .exit id
 | .goto l => .goto l
 | .ret => .ret
def zb [Lent] (k B : Nat) (C : qb) (μ : MMap) (H : AH) (w : World) (r : Ex × List AV × AH) : Exit → Act → World → Prop := fun e a' w' =>
 e = r.1.to ∧ ∃ C' μ', qj C' μ' r.2.1 a'.tmps ∧ Wld C' μ' r.2.2 w' ∧ Ext k C μ H w C' μ' r.2.2 w' ∧ qaD B μ' r.2.2 w' a'.defers
theorem zb.mono [Lent] {k k' B : Nat} {r : Ex × List AV × AH} {e : Exit} {a' : Act} {w2 : World} (h : zb k' B C1 μ1 H1 w1 r e a' w2) (hx : Ext k C μ H w C1 μ1 H1 w1) (hk : k ≤ k') : zb k B C μ H w r e a' w2 := by
 obtain ⟨h1, C', μ', h2, h3, h4, h5⟩ := h
 exact ⟨h1, C', μ', h2, h3, hx.trans h4 hk, h5⟩
def RdOk (rd : Option Nat) (F : Fence) (μ : MMap) (k : Nat) : Prop :=
 match rd with
 | none => F = Fence.wide
 | some l => l < k ∧ ∃ m, μ l = some m ∧ F = Fence.wide.inRound m.block
theorem RdOk.wide {rd : Option Nat} {F : Fence} {k : Nat} (h : RdOk rd F μ k) : yd F := by
 cases rd with
 | none => exact .inl h
 | some l => obtain ⟨_, m, _, h⟩ := h; exact .inr ⟨_, h⟩
theorem RdOk.ext {rd : Option Nat} {F : Fence} {k k' : Nat} (h : RdOk rd F μ k) (hm : ∀ id m, id < k → μ id = some m → ∃ m', μ' id = some m' ∧ m.le m') (hk : k ≤ k') : RdOk rd F μ' k' := by
 cases rd with
 | none => exact h
 | some l => obtain ⟨h1, m, h2, h3⟩ := h; obtain ⟨m', e1, e2⟩ := hm l m h1 h2; exact ⟨by omega, m', e1, by rw [e2.1]; exact h3⟩
theorem qj.ext [Lent] {k : Nat} {fr : List AV} {t : Array Value} (h : qj C μ fr t) (hw : Wld C μ H w) (hx : Ext k C μ H w C' μ' H' w') (hk : H.length ≤ k) : qj C' μ' fr t :=
 h.monoG hx.cl fun id m hm => hx.mu id m (Nat.lt_of_lt_of_le (hw.dom id m hm) hk) hm
theorem zy : ∀ {ts : List Tmp} {fr : List AV} {k : Nat}, (vL k ts fr).length = fr.length ∧ ∀ (i : Nat) a, (vL k ts fr)[i]? = some a → a = .junk ∨ fr[i]? = some a
 | _, [], _ => by simp [vL]
 | [], x :: fr, k => by
  have ih := zy (ts := []) (fr := fr) (k := k)
  refine ⟨by simp [vL, ih.1], fun i a h => ?_⟩
  cases i with
  | zero => simp [vL] at h; exact .inl h.symm
  | succ i => simp [vL] at h; simpa using ih.2 i a h
 | t :: ts, x :: fr, k => by
  have ih1 := zy (ts := ts) (fr := fr) (k := k + 1)
  have ih2 := zy (ts := t :: ts) (fr := fr) (k := k + 1)
  rw [vL]
  split
  ·refine ⟨by simp [ih1.1], fun i a h => ?_⟩
   cases i with
   | zero => simp at h; subst h; exact .inr rfl
   | succ i => simpa using ih1.2 i a (by simpa using h)
  ·refine ⟨by simp [ih2.1], fun i a h => ?_⟩
   cases i with
   | zero => simp at h; exact .inl h.symm
   | succ i => simpa using ih2.2 i a (by simpa using h)
theorem yM [Lent] {ts : Option (List Tmp)} {fr : List AV} {t : Array Value} (h : qj C μ fr t) : qj C μ (qO ts fr) t := by
 cases ts with
 | none => exact h
 | some ks =>
  obtain ⟨h1, h2⟩ := zy (ts := ks) (fr := fr) (k := 0)
  refine ⟨by show (vL 0 ks fr).length = _; rw [h1, h.1], fun i a v e1 e2 => ?_⟩
  rcases h2 i a e1 with rfl | e3
  ·exact .junk v
  ·exact h.2 i a v e3 e2
theorem qi5 [Lent] (h : Wld C μ H w) {fr : List AV} {tmps : Array Value} (hf : qj C μ fr tmps) (k : Nat) (hk : k ≤ H.length) : ∃ μ', Wld C μ' (gc k fr H).2 w ∧ qj C μ' (gc k fr H).1 tmps ∧ Ext k C μ H w C μ' (gc k fr H).2 w := by
 obtain ⟨μ', g1, g2, g3, g4, g5⟩ := qeW h hf k hk
 exact ⟨μ', g1, g2, ⟨rfl, rfl, rfl, qqo _, fun _ _ _ h => h, fun id m hid hm => ⟨m, g3 id m hid hm, .refl m⟩, fun b _ hnl => ⟨rfl, fun hl => hnl (g4 b hl), rfl⟩, g5⟩⟩
theorem qj.setA [Lent] {fr : List AV} {tmps : Array Value} (h : qj C μ fr tmps) {i : Nat} {a : AV} (ha : ∀ v, tmps[i]? = some v → Rep C μ a v) : qj C μ (fr.set i a) tmps := by
 refine ⟨by simpa using h.1, fun j x v e1 e2 => ?_⟩
 rw [qqu] at e1
 split at e1
 ·rename_i e
  subst e
  split at e1
  ·cases e1; exact ha v e2
  ·cases e1
 ·exact h.2 j x v e1 e2
theorem Wld.reRow [Lent] (h : Wld C μ H w) {id n : Nat} {d : Bool} {rs rs' : List (List AV)} (hi : H[id]? = some (.rows d n rs)) (hne : rs ≠ []) (hr : ∀ m, μ id = some m → q4 C μ w m (.rows d n rs) → q4 C μ w m (.rows false n rs')) :
  Wld C μ (H.set id (.rows false n rs')) w ∧ ∀ j, j ≤ H.length → Ext j C μ H w C μ (H.set id (.rows false n rs')) w := by
 obtain ⟨m, hm, h1, h2, h3⟩ := h.liveX hi rfl (by cases rs <;> first | rfl | exact absurd rfl hne)
 exact ⟨h.setBlk hi rfl rfl hm rfl (fun _ _ => rfl) (hr m hm h3) (fun hd => by cases hd), fun j hj => Ext.setBlk h hi rfl hm rfl (fun _ _ => rfl) rfl rfl rfl hj⟩
theorem qkc [Lent] (h : Wld C μ H w) {fr : List AV} {tmps : Array Value} (hf : qj C μ fr tmps) (t sz : Nat) :
  Wld C μ (yq t sz fr H).2 w ∧ qj C μ (yq t sz fr H).1 tmps ∧ H.length ≤ (yq t sz fr H).2.length ∧ ∀ j, j ≤ H.length → Ext j C μ H w C μ (yq t sz fr H).2 w := by
 have triv : Wld C μ H w ∧ qj C μ fr tmps ∧ H.length ≤ H.length ∧ ∀ j, j ≤ H.length → Ext j C μ H w C μ H w := ⟨h, hf, qqo _, fun j hj => Ext.refl hj⟩
 unfold yq
 split
 ·rename_i hn
  obtain ⟨n1, n2⟩ := h.newV (nid := none) (blk := .rows true sz []) rfl rfl rfl (fun _ => rfl)
  refine ⟨n1, hf.setA fun v hv => ?_, by simp, n2⟩
  have := hf.2 t _ v hn hv
  cases this
  exact .msN _ _
 ·rename_i id r off hp
  split
  ·rename_i d n rs hi
   split
   ·rename_i row hr
    split
    ·rename_i ho
     have hne : rs ≠ [] := by rintro rfl; simp at hr
     obtain ⟨r1, r2⟩ := h.reRow (rs' := rs.set r (row.set off (.ms H.length 0 0))) hi hne (fun m hm hb => by
      obtain ⟨b1, b2, b3, b4⟩ := hb
      refine ⟨b1, by simpa using b2, fun i row' hi' => ?_, b4⟩
      rw [qqu] at hi'
      split at hi'
      ·rename_i e
       subst e
       split at hi'
       ·cases hi'
        refine ⟨by simpa using (b3 r row hr).1, fun j x hj => ?_⟩
        rw [qqu] at hj
        split at hj
        ·rename_i e2
         subst e2
         split at hj
         ·cases hj
          obtain ⟨_, v, c2, c3⟩ := (b3 r row hr).2 off _ ho
          refine ⟨rfl, v, c2, ?_⟩
          cases c3
          exact .msN _ _
         ·cases hj
        ·exact (b3 r row hr).2 j x hj
       ·cases hi'
      ·exact b3 i row' hi')
     obtain ⟨n1, n2⟩ := r1.newV (nid := none) (blk := .rows true sz []) rfl rfl rfl (fun _ => rfl)
     exact ⟨n1, hf, by simp, fun j hj => (r2 j hj).trans (n2 j (by simpa using hj)) (qqo _)⟩
    ·exact triv
   ·exact triv
  ·exact triv
 ·exact triv
theorem qav [Lent] : ∀ (ls : List (Tmp × Nat)) {H : AH} {fr : List AV} {tmps : Array Value}, Wld C μ H w → qj C μ fr tmps →
  Wld C μ (qJ ls fr H).2 w ∧ qj C μ (qJ ls fr H).1 tmps ∧ H.length ≤ (qJ ls fr H).2.length ∧ ∀ j, j ≤ H.length → Ext j C μ H w C μ (qJ ls fr H).2 w
 | [], H, fr, tmps, h, hf => ⟨h, hf, qqo _, fun j hj => Ext.refl hj⟩
 | p :: l, H, fr, tmps, h, hf => by
  obtain ⟨a1, a2, a3, a4⟩ := qkc h hf p.1 p.2
  obtain ⟨b1, b2, b3, b4⟩ := qav l a1 a2
  exact ⟨b1, b2, Nat.le_trans a3 b3, fun j hj => (a4 j hj).trans (b4 j (Nat.le_trans hj a3)) (qqo _)⟩
theorem qi3 [Lent] (h : Wld C μ H w) {fr : List AV} {tmps : Array Value} (hf : qj C μ fr tmps) (ts : Option (List Tmp)) (ls : List (Tmp × Nat)) (k : Nat) (hk : k ≤ H.length) :
  ∃ μ', Wld C μ' (xa k ts ls fr H).2 w ∧ qj C μ' (xa k ts ls fr H).1 tmps ∧ Ext k C μ H w C μ' (xa k ts ls fr H).2 w := by
 obtain ⟨a1, a2, a3, a4⟩ := qav ls h (yM (ts := ts) hf)
 obtain ⟨μ', g1, g2, g3⟩ := qi5 a1 a2 k (Nat.le_trans hk a3)
 exact ⟨μ', g1, g2, (a4 k hk).trans g3 (qqo _)⟩
theorem zQ {α : Type} {g : Nat → Option α} {r : α} (h : lim g = some r) : ∃ n, g n = some r := by
 unfold lim at h
 split at h
 ·rename_i he
  cases h
  exact ⟨_, Classical.choose_spec (Classical.choose_spec he)⟩
 ·cases h
theorem qey [Lent] {F : Fence} {k B : Nat} {ts : Option (List Tmp)} {ls : List (Tmp × Nat)} {body : Den} {c : Code} {rd : Option Nat} {r : Ex × List AV × AH} {C0 : qb} {μ0 : MMap} {H0 : AH} {w0 : World}
  (hbody : ∀ {fr : List AV} {H : AH} {q : Ex × List AV × AH}, body fr H = some q → ∀ {C : qb} {μ : MMap} {w : World} {a : Act}, k ≤ H.length → RdOk rd F μ k → qj C μ fr a.tmps → Wld C μ H w → qaD B μ H w a.defers → c.wpIn F 0 P (zb k B C μ H w q) a w)
  (hk : k ≤ H0.length) : ∀ (n : Nat) {p : List AV × AH}, vW k ts ls body n p = some r → ∀ {C : qb} {μ : MMap} {w : World} {a : Act}, k ≤ p.2.length → RdOk rd F μ k → qj C μ p.1 a.tmps → Wld C μ p.2 w → qaD B μ p.2 w a.defers →
   Ext k C0 μ0 H0 w0 C μ p.2 w → Code.roundsIn F 0 P c (zb k B C0 μ0 H0 w0 r) n a w
 | 0, p, h => by cases h
 | n + 1, p, h => by
  intro hkl hrd hf hw hm hx
  rw [vW] at h
  obtain ⟨q, hq, h⟩ := qqk.1 h
  refine wpIn_mono (hbody hq hkl hrd hf hw hm) fun e a' w' hp => ?_
  obtain ⟨he, C', μ'', p1, p2, p3, p4⟩ := hp
  have hx' := hx.trans p3 (qqo _)
  cases hq1 : q.1 with
  | normal =>
   rw [hq1] at he h
   subst he
   obtain ⟨μ', g1, g2, g3⟩ := qi3 p2 p1 ts ls k hx'.len
   exact qey hbody hk n h g3.len ((hrd.ext p3.mu (qqo _)).ext g3.mu (qqo _)) g2 g1 (p4.ext g3) (hx'.trans g3 (qqo _))
  | exit id =>
   rw [hq1] at he h
   cases h
   subst he
   exact ⟨rfl, C', μ'', p1, p2, hx', p4⟩
  | goto l =>
   rw [hq1] at he h
   cases h
   subst he
   exact ⟨rfl, C', μ'', p1, p2, hx', p4⟩
  | ret =>
   rw [hq1] at he h
   cases h
   subst he
   exact ⟨rfl, C', μ'', p1, p2, hx', p4⟩
variable {C C' C1 C2 : qb} {μ μ' μ1 : MMap} {H H' H1 H2 : AH} {w w' w1 : World} {P : Program}
structure OracOk2 [Lent] (cfg : Cfg) (cf : Orac) : Prop where
 calls : y4 cfg cf
 enters : ∀ h args H r, cf (.f h) args H = some r → cfg.ext h = none → ∀ vs w, (callFunc h vs).run cfg.P w = .ok (.enter h vs) w
theorem qnR [Lent] (h : Wld C μ H w) {f : Nat} {fr : List AV} {assign body : Code} {ps : Array Tmp} {fn : FuncId} {tmps : Array Value} {dblk : Nat} (hf : qj C μ fr tmps) (hs : w.heap.size < w1.heap.size)
  (hold : ∀ b, b < w.heap.size → w1.heap[b]? = w.heap[b]?) {l : Nat} (hl : w.heap.size ≤ l)
  (hnew : w1.heap[l]? = some (.loop { state := .ready, pending := none, fn, tmps, params := ps, assign, body, defers := dblk })) (ho : w1.os = w.os) (ht : w1.tape = w.tape) (hu : w1.output = w.output) :
  Wld C (upd μ H.length (MI.mk4 l 0 0 0)) (H ++ [.loop f fr ps.toList assign body none .ready]) w1 ∧ Ext H.length C μ H w C (upd μ H.length (MI.mk4 l 0 0 0)) (H ++ [.loop f fr ps.toList assign body none .ready]) w1 ∧
   (∀ id m, μ id = some m → upd μ H.length (MI.mk4 l 0 0 0) id = some m) ∧ (∀ b, Live (H ++ [.loop f fr ps.toList assign body none .ready]) (upd μ H.length (MI.mk4 l 0 0 0)) b → Live H μ b ∨ b = l) := by
 have hll : l < w1.heap.size := (Array.getElem?_eq_some_iff.1 hnew).1
 have hw1 : Wld C μ H w1 := h.world (by omega) (fun b hb => hold b hb)
 have hmu : ∀ id m, μ id = some m → upd μ H.length (MI.mk4 l 0 0 0) id = some m := by
  intro id m hm
  have := h.dom id m hm
  unfold upd
  rw [if_neg (by omega)]; exact hm
 obtain ⟨n1, n2, n3, n4, n5⟩ := hw1.new4 (nid := none) (k := H.length) (blk := .loop f fr ps.toList assign body none .ready) (H' := H ++ [.loop f fr ps.toList assign body none .ready]) (B := l) (b0 := 0) (n0 := 0) (z0 := 0) rfl (fun hl' => by have := h.live_lt hl'; omega) hll
  (fun o => by
   cases hc : C l o with
   | none => rfl
   | some v => have := h.block_lt hc; omega) (h.lent_none hl) rfl ⟨_, hnew, rfl, rfl, rfl, rfl, rfl, hf.mono (fun _ _ _ h => h) hmu⟩
 refine ⟨n1, ⟨ho, ht, hu, by omega, fun _ _ _ h => h, fun id m _ hm => ⟨_, hmu id m hm, .refl _⟩, fun b hb hnl => ⟨hold b hb, fun hl' => ?_, rfl⟩, n3⟩, hmu, n4⟩
 rcases n4 b hl' with h1 | h1
 ·exact hnl h1
 ·omega
theorem qfB [Lent] {cfg : Cfg} {cf : Orac} (hO : OracOk2 cfg cf) {F : Fence} {rd : Option Nat} {f B k : Nat} {g : Operand} {ps : Array Tmp} {assign body : Code} {fr : List AV} {r : Ex × List AV × AH} {a : Act}
  (he : yn cfg cf f rd k g ps assign body fr H = some r) (hk : k ≤ H.length) (hrd : RdOk rd F μ k) (hf : qj C μ fr a.tmps) (hw : Wld C μ H w) (hm : qaD B μ H w a.defers) :
  (Code.rangeFunc g ps assign body).wpIn F 0 cfg.P (zb k B C μ H w r) a w := by
 have hrd := hrd.ext (fun _ _ _ h => ⟨_, h, .refl _⟩) hk
 unfold yn at he
 split at he
 case isFalse => cases he
 rename_i hrl
 split at he
 case h_2 => cases he
 rename_i h first caps hg
 split at he
 case isTrue => cases he
 rename_i hext
 have hext : cfg.ext h = none := by
  cases hh : cfg.ext h with
  | none => rfl
  | some s => rw [hh] at hext; simp at hext
 obtain ⟨q, hq, he⟩ := qqk.1 he
 have hgr := zP hf g
 rw [hg] at hgr
 generalize hgv : a.eval g = gv at hgr
 cases hgr with
 | fn _ _ _ vf vc hl1 hl2 h1 h2 =>
 refine wpIn_rangeFunc fun fn hfn => ?_
 have hwide := hrd.wide
 have hmf : qj C μ (qO (cfg.keepIn f (qe body)) fr) a.tmps := yM hf
 -- what lies behind the loop
 have core : ∀ (l : Nat) (ms : List Deferred) (w1 : World) (dblk : Nat), w.heap.size < w1.heap.size → (∀ b, b < w.heap.size → w1.heap[b]? = w.heap[b]?) → w.heap.size ≤ l →
   w1.heap[l]? = some (.loop { state := .ready, pending := none, fn, tmps := a.tmps, params := ps, assign, body, defers := dblk }) → w1.os = w.os → w1.tape = w.tape → w1.output = w.output →
   (ms = [] ∨ ∃ D, ms = [mark D] ∧ w.heap.size ≤ D ∧ D ≠ l ∧ w1.heap[D]? = some (.deferred (some []))) →
   CallsIn F (0 - 1) cfg.P h (vf.toArray ++ #[.func (.yield l) #[] #[]] ++ vc.toArray) w1 (rangePost F 0 cfg.P l (zb k B C μ H w r) { a with defers := ms ++ a.defers }) := by
  intro l ms w1 dblk hs hold hl hnew ho ht hu hms
  obtain ⟨g1, g2, g3, g4⟩ := qnR (f := f) hw hmf hs hold hl hnew ho ht hu
  have hargs : qj C (upd μ H.length (MI.mk4 l 0 0 0)) (first ++ [.yld H.length] ++ caps) (vf.toArray ++ #[.func (.yield l) #[] #[]] ++ vc.toArray) := by
   refine ⟨by simp [hl1, hl2], fun i x v e1 e2 => ?_⟩
   rw [← qqJ] at e2
   simp only [Array.toList_append] at e2
   rcases Nat.lt_or_ge i (first.length + 1) with hlt | hge
   ·rw [qqs (by simpa using hlt)] at e1
    rw [qqs (by first | omega | (simp; omega))] at e2
    rcases Nat.lt_or_ge i first.length with hlt' | hge'
    ·rw [qqs hlt'] at e1
     rw [qqs (by first | omega | (simp; omega))] at e2
     exact (h1 i x v e1 (by simpa using e2)).mono (fun _ _ _ h => h) g3
    ·have hi : i = first.length := by omega
     subst hi
     rw [qqw (qqo _)] at e1
     rw [qqw (by first | omega | (simp; omega))] at e2
     simp [hl1] at e1 e2
     subst e1; subst e2
     exact .yld H.length (MI.mk4 l 0 0 0) (by unfold upd; rw [if_pos rfl])
   ·rw [qqw (by simpa using hge)] at e1
    rw [qqw (by first | omega | (simp; omega))] at e2
    have : i - (vf.toArray.toList ++ #[Value.func (.yield l) #[] #[]].toList).length = i - (first ++ [AV.yld H.length]).length := by simp [hl1]
    rw [this] at e2
    exact (h2 _ x v e1 (by simpa using e2)).mono (fun _ _ _ h => h) g3
  have hcall := hO.calls _ _ _ _ _ hq C _ w1 _ _ hargs g1 rfl
  unfold qL at hcall
  rw [hO.enters _ _ _ _ hq hext] at hcall
  refine hwide.calls (hcall.mono fun e w3 hp => ?_)
  obtain ⟨v, rfl, C3, μ3, p1, p2, p3⟩ := hp
  have hle : H.length < (H ++ [ABlk.loop f (qO (cfg.keepIn f (qe body)) fr) ps.toList assign body none .ready]).length := by simp
  obtain ⟨⟨l', b0, s0, z0, D0⟩, hm3, hbl3, -⟩ := p3.mu H.length (MI.mk4 l 0 0 0) hle (by unfold upd; rw [if_pos rfl])
  have hbl3 : l = l' := (show l' = l from hbl3).symm
  subst hbl3
  split at he
  case h_2 => cases he
  rename_i lf lfr lps lassign lbody pend st hlq
  split at he
  case h_1 => cases he
  rename_i hst
  obtain ⟨e2, e3, rc, e4, e5, e6, _⟩ := p2.liveM hlq rfl hm3
  simp only at e4
  have hend := run_endLoop (P := cfg.P) e4 (by rw [e5]; exact hst)
  refine ⟨rc.pending, _, hend, ?_⟩
  -- the world behind it
  have hkill : Wld C3 μ3 (q.2.set H.length .dead) (w3.putObj l (.loop { rc with state := .exhausted })) := by
   refine (p2.kill H.length (by rw [hlq]; simp)).worldG (by simp) (fun b hb hor => ?_)
   refine World.putObj_heap_other fun hbl => ?_
   subst hbl
   rcases hor with hl' | ⟨o, hc'⟩ | ⟨o, hc'⟩
   ·obtain ⟨_, hl''⟩ := hl'.of_kill
    exact hl'' _ hm3 (fun id' b' m' i1 i2 i3 i4 i5 => i4 (p2.inj _ _ _ _ _ _ i1 hlq i2 rfl i3 hm3 _ i5 (.inl rfl))) rfl
   ·exact hc' (e3 o)
   ·exact hc' ((p2.liveH hlq rfl hm3 _ (.inl rfl)).2.2.1 o)
  have hf3 : qj C3 μ3 (qO (cfg.keepOut f (qe body)) fr) a.tmps := (yM hf).monoG p3.cl (fun id m hm => p3.mu id m (by have := hw.dom id m hm; simp; omega) (g3 id m hm))
  obtain ⟨μ4, k1, k2, k3⟩ := qi5 hkill hf3 k (by simp; have := p3.len; simp at this; omega)
  have hx1 : Ext H.length C μ H w C3 μ3 q.2 w3 := g2.trans p3 (by simp)
  have hx : Ext k C μ H w C3 μ4 (gc k (qO (cfg.keepOut f (qe body)) fr) (q.2.set H.length .dead)).2 (w3.putObj l (.loop { rc with state := .exhausted })) := by
   refine ⟨hx1.os, hx1.tape, hx1.output, by have := hx1.size; simpa using this, hx1.cl, fun id m hid hm => let ⟨m1, f1, f2⟩ := hx1.mu id m (by omega) hm; let ⟨m2, f3, f4⟩ := k3.mu id m1 hid f1; ⟨m2, f3, f2.trans f4⟩, fun b hb hnl => ?_, k3.len⟩
   obtain ⟨f1, f2, f3⟩ := hx1.fr b hb hnl
   refine ⟨by rw [World.putObj_heap_other (by omega)]; exact f1, fun hl' => ?_, f3⟩
   have hb3 : b < (w3.putObj l (.loop { rc with state := .exhausted })).heap.size := by have := hx1.size; simp; omega
   exact (k3.fr b hb3 (fun hl'' => f2 hl''.of_kill.1)).2.1 hl'
  have hmarks : qaD B μ4 (gc k (qO (cfg.keepOut f (qe body)) fr) (q.2.set H.length .dead)).2 (w3.putObj l (.loop { rc with state := .exhausted })) (ms ++ a.defers) := by
   obtain ⟨hb, Ds, d1, d2, d3⟩ := hm.ext hx
   have hB : B ≤ w.heap.size := hm.1
   obtain ⟨_, Ds', d1', _, d3'⟩ := hm
   have hinj : Ds.map mark = Ds'.map mark := by rw [← d1, ← d1']
   have hDs : Ds = Ds' := by
    have : ∀ (x y : List Nat), x.map mark = y.map mark → x = y := by
     intro x
     induction x with
     | nil => intro y h; cases y with
      | nil => rfl
      | cons => simp at h
     | cons a x ih =>
      intro y h
      cases y with
      | nil => simp at h
      | cons b y =>
       simp only [List.map_cons, List.cons.injEq] at h
       obtain ⟨h1, h2⟩ := h
       have : a = b := by unfold mark at h1; cases h1; rfl
       rw [this, ih y h2]
    exact this _ _ hinj
   rcases hms with rfl | ⟨D, rfl, hD1, hD2, hD3⟩
   ·exact ⟨hb, Ds, d1, d2, d3⟩
   ·have hDlt : D < w1.heap.size := (Array.getElem?_eq_some_iff.1 hD3).1
    have hDl1 : ¬ Live (H ++ [ABlk.loop f (qO (cfg.keepIn f (qe body)) fr) ps.toList assign body none .ready]) (upd μ H.length (MI.mk4 l 0 0 0)) D := by
     intro hl'
     rcases g4 D hl' with h | h
     ·have := hw.live_lt h; omega
     ·exact hD2 h
    obtain ⟨f1, f2, _⟩ := p3.fr D hDlt hDl1
    refine ⟨hb, D :: Ds, by simp [d1], List.nodup_cons.2 ⟨fun hmem => ?_, d2⟩, fun D' hD' => ?_⟩
    ·rw [hDs] at hmem
     have := (Array.getElem?_eq_some_iff.1 (d3' D hmem).2.1).1
     omega
    ·rcases qqH.1 hD' with rfl | hmem
     ·refine ⟨by omega, by rw [World.putObj_heap_other hD2, f1]; exact hD3, fun hl' => ?_⟩
      have hb3 : D' < (w3.putObj l (.loop { rc with state := .exhausted })).heap.size := by have := p3.size; simp; omega
      exact (k3.fr D' hb3 (fun hl'' => f2 hl''.of_kill.1)).2.1 hl'
     ·exact d3 D' hmem
  have fin : ∀ e, r = (e, gc k (qO (cfg.keepOut f (qe body)) fr) (q.2.set H.length .dead)) → zb k B C μ H w r e.to { a with defers := ms ++ a.defers } (w3.putObj l (.loop { rc with state := .exhausted })) := by
   intro e hr
   subst hr
   exact ⟨rfl, C3, μ4, k2, k1, hx, hmarks⟩
  rw [e6] at fin ⊢
  split at he
  ·cases he; exact fin .normal rfl
  ·cases he; exact wpIn_ret (fin .ret rfl)
  ·rename_i x; cases he; exact wpIn_exit (fin (.exit x) rfl)
  ·cases he
 have hres : ∀ l w, (resolve a.eval (rangeCall g l) 0).run cfg.P w = .ok { target := .fn (.func h) vc.toArray, args := vf.toArray ++ #[.func (.yield l) #[] #[]] } w := by
  intro l w
  rw [qcU (f := g) rfl, hgv]
  simp [Deferred.ofValue, Act.eval]
 have hinv : ∀ l w, (invoke (.fn (.func h) vc.toArray) (vf.toArray ++ #[.func (.yield l) #[] #[]])).run cfg.P w = .ok (.enter h (vf.toArray ++ #[.func (.yield l) #[] #[]] ++ vc.toArray)) w := by
  intro l w
  rw [invoke]
  exact hO.enters _ _ _ _ hq hext _ w
 have hdep : F.depth.isSome = true → 1 ≤ 0 := fun hh => by rw [hwide.depth] at hh; simp at hh
 cases rd with
 | none =>
  have hFw : F = Fence.wide := hrd
  have hro : F.round = none := by rw [hFw]; rfl
  rw [hro]
  refine ⟨w.heap.size + 1, [mark w.heap.size], _, _, _, h, _, _, run_enterLoop_outer fn a.tmps ps assign body, hres _ _, fun f' _ => hwide.fn f', hinv _ _, hdep, ?_⟩
  refine core (w.heap.size + 1) [mark w.heap.size] _ w.heap.size (by simp; omega) (fun b hb => ?_) (by omega) ?_ rfl rfl rfl (.inr ⟨w.heap.size, rfl, qqo _, by omega, ?_⟩)
  ·show ((w.heap.push _).push _)[b]? = _
   rw [Array.getElem?_push, if_neg (by simp; omega), Array.getElem?_push, if_neg (by omega)]
  ·show ((w.heap.push _).push _)[w.heap.size + 1]? = _
   rw [Array.getElem?_push, if_pos (by simp)]
  ·show ((w.heap.push _).push _)[w.heap.size]? = _
   rw [Array.getElem?_push, if_neg (by simp), Array.getElem?_push, if_pos rfl]
 | some l0 =>
  obtain ⟨hl0, m0, hm0, hFr⟩ := hrd
  have hro : F.round = some m0.block := by rw [hFr]; rfl
  rw [hro]
  unfold qiB at hrl
  simp only at hrl
  split at hrl
  case h_2 => cases hrl
  rename_i hb0
  obtain ⟨i2, i3, r0, i4, _⟩ := hw.liveM hb0 rfl hm0
  refine ⟨w.heap.size, [], _, _, _, h, _, _, run_enterLoop_inner i4 fn a.tmps ps assign body, hres _ _, fun f' _ => hwide.fn f', hinv _ _, hdep, ?_⟩
  refine core w.heap.size [] _ r0.defers (by simp) (fun b hb => ?_) (qqo _) ?_ rfl rfl rfl (.inl rfl)
  ·show (w.heap.push _)[b]? = _
   rw [Array.getElem?_push, if_neg (by omega)]
  ·show (w.heap.push _)[w.heap.size]? = _
   rw [Array.getElem?_push, if_pos rfl]
variable {C C' C1 C2 : qb} {μ μ' μ1 : MMap} {H H' H1 H2 : AH} {w w' w1 : World} {P : Program}
theorem z6 {D : List Nat} {i : Nat} {o : Oper} : ∀ (l : List Oper) (k : Nat), (i, o) ∈ xS D k l ↔ k ≤ i ∧ l[i - k]? = some o ∧ D.any (qqz i) = false ∧ rdyB D o = true
 | [], k => by simp [xS]
 | o' :: l, k => by
  have ih := z6 (D := D) (i := i) (o := o) l (k + 1)
  rw [xS]
  by_cases e : i = k
  ·subst e
   have hno : ¬ (i, o) ∈ xS D (i + 1) l := fun h => by have := (ih.1 h).1; omega
   split
   ·rename_i h
    simp only [qqi, Bool.not_eq_true'] at h
    simp only [qqH, Prod.mk.injEq, true_and, hno, or_false, qqo, Nat.sub_self, List.getElem?_cons_zero, Option.some.injEq]
    constructor
    ·intro e; subst e; exact ⟨rfl, h.1, h.2⟩
    ·intro e; exact e.1.symm
   ·rename_i h
    simp only [qqi, Bool.not_eq_true'] at h
    simp only [hno, false_iff, qqo, Nat.sub_self, List.getElem?_cons_zero, Option.some.injEq, true_and]
    intro e
    obtain ⟨rfl, e2⟩ := e
    exact h e2
  ·have hs : ∀ (x : Oper), (k ≤ i ∧ (x :: l)[i - k]? = some o ∧ D.any (qqz i) = false ∧ rdyB D o = true) ↔ (k + 1 ≤ i ∧ l[i - (k + 1)]? = some o ∧ D.any (qqz i) = false ∧ rdyB D o = true) := by
    intro x
    constructor
    ·rintro ⟨h1, h2, h3⟩
     have : i - k = (i - (k + 1)) + 1 := by omega
     rw [this, qqF] at h2
     exact ⟨by omega, h2, h3⟩
    ·rintro ⟨h1, h2, h3⟩
     have : i - k = (i - (k + 1)) + 1 := by omega
     rw [this, qqF]
     exact ⟨by omega, h2, h3⟩
   rw [hs o', ← ih]
   split
   ·simp only [qqH, Prod.mk.injEq, e, false_and, false_or]
   ·rfl
theorem qbB {ops : Array Oper} {listed : Array Bool} {D : List Nat} (hs : listed.size = ops.size) (hD : ∀ j, listed.getD j false = D.any (qqz j)) (i : Nat) : i ∈ Region.ready .any ops listed ↔ ∃ o, (i, o) ∈ xS D 0 ops.toList := by
 rw [mem_ready]
 constructor
 ·rintro ⟨h1, o, h2, h3⟩
  have hlt : i < ops.size := (Array.getElem?_eq_some_iff.1 h2).1
  refine ⟨o, (z6 _ _).2 ⟨Nat.zero_le _, by rw [Nat.sub_zero, qqJ]; exact h2, ?_, ?_⟩⟩
  ·rw [← hD, ← qaH (by omega)]; exact h1
  ·unfold rdyB
   rw [List.all_eq_true]
   intro e he
   cases hb : Region.binds .any e with
   | false => simp
   | true => rw [← hD, h3 e (Array.mem_toList_iff.1 he) hb]; rfl
 ·rintro ⟨o, h⟩
  obtain ⟨_, h2, h3, h4⟩ := (z6 _ _).1 h
  rw [Nat.sub_zero, qqJ] at h2
  have hlt : i < ops.size := (Array.getElem?_eq_some_iff.1 h2).1
  refine ⟨by rw [qaH (by omega), hD]; exact h3, o, h2, fun e he hb => ?_⟩
  unfold rdyB at h4
  have := List.all_eq_true.1 h4 e (Array.mem_toList_iff.2 he)
  rw [hb] at this
  rw [hD]
  simpa using this
theorem qgj {F : Nat → List AV → AH → Option (List (List AV × AH))} {G : Nat → Oper → Option (List AV × AH)} : ∀ {l : List (Nat × Oper)} {L : List (List AV × AH)}, qb6 F G l = some L → ∀ p ∈ l, ∃ q L1, G p.1 p.2 = some q ∧ F p.1 q.1 q.2 = some L1 ∧ ∀ x ∈ L1, x ∈ L
 | [], _, _, p, hp => by cases hp
 | x :: l, L, h, p, hp => by
  rw [qb6] at h
  obtain ⟨q, h1, h⟩ := qqk.1 h
  obtain ⟨L1, h2, h⟩ := qqk.1 h
  obtain ⟨L2, h3, e⟩ := qql.1 h
  subst e
  rcases qqH.1 hp with rfl | hp
  ·exact ⟨q, L1, h1, h2, fun x hx => List.mem_append_left _ hx⟩
  ·obtain ⟨q', L1', g1, g2, g3⟩ := qgj h3 p hp
   exact ⟨q', L1', g1, g2, fun x hx => List.mem_append_right _ (g3 x hx)⟩
theorem qnf [Lent] {cfg : Cfg} (hc : CfgTy cfg) {cf : Orac} (hO : y4 cfg cf) {Fn : Fence} (hF : yd Fn) {f rid : Nat} {ops : Array Oper} {Q : Exit → Act → World → Prop} {C0 : qb} {μ0 : MMap} {H0 : AH} {w0 : World} {k : Nat} {ds : List Deferred} :
  ∀ (n : Nat) (D : List Nat) (listed : Array Bool) {fr : List AV} {H : AH} {L : List (List AV × AH)} {C : qb} {μ : MMap} {w : World} {a : Act}, zG cfg cf f rid ops n D fr H = some L → listed.size = ops.size → (∀ j, listed.getD j false = D.any (qqz j)) →
   qj C μ fr a.tmps → Wld C μ H w → Ext k C0 μ0 H0 w0 C μ H w → a.defers = ds →
   (∀ q ∈ L, ∀ C μ w a, qj C μ q.1 a.tmps → Wld C μ q.2 w → Ext k C0 μ0 H0 w0 C μ q.2 w → a.defers = ds → Q .normal a w) → wpAnyIn Fn 0 cfg.P .any ops Q n listed a w := by
 have hnil : ∀ {D : List Nat} {listed : Array Bool}, listed.size = ops.size → (∀ j, listed.getD j false = D.any (qqz j)) → ((xS D 0 ops.toList).isEmpty = true ↔ Region.ready .any ops listed = []) := by
  intro D listed hs hD
  constructor
  ·intro h
   rw [List.isEmpty_iff] at h
   refine List.eq_nil_iff_forall_not_mem.2 fun i hi => ?_
   obtain ⟨o, ho⟩ := (qbB hs hD i).1 hi
   rw [h] at ho; cases ho
  ·intro h
   rw [List.isEmpty_iff]
   refine List.eq_nil_iff_forall_not_mem.2 fun p hp => ?_
   have := (qbB hs hD p.1).2 ⟨p.2, hp⟩
   rw [h] at this; cases this
 intro n
 induction n with
 | zero =>
  intro D listed fr H L C μ w a he hs hD hf hw hx hds hL
  rw [zG] at he
  split at he
  ·rename_i h
   cases he
   exact ⟨(hnil hs hD).1 h, hL _ (List.mem_singleton.2 rfl) C μ w a hf hw hx hds⟩
  ·cases he
 | succ n ih =>
  intro D listed fr H L C μ w a he hs hD hf hw hx hds hL
  rw [zG] at he
  split at he
  ·rename_i h
   cases he
   have hr := (hnil hs hD).1 h
   exact ⟨fun _ => hL _ (List.mem_singleton.2 rfl) C μ w a hf hw hx hds, fun i hi => by rw [hr] at hi; cases hi⟩
  ·rename_i h
   refine ⟨fun hr => absurd ((hnil hs hD).2 hr) h, fun i hi => ?_⟩
   obtain ⟨o, ho⟩ := (qbB hs hD i).1 hi
   obtain ⟨q, L1, g1, g2, g3⟩ := qgj he _ ho
   obtain ⟨_, h2, _, _⟩ := (z6 _ _).1 ho
   rw [Nat.sub_zero, qqJ] at h2
   have hlt : i < ops.size := (Array.getElem?_eq_some_iff.1 h2).1
   have hD' : ∀ j, (listed.setIfInBounds i true).getD j false = (i :: D).any (qqz j) := by
    intro j
    have := congrFun (qi4 listed (i := i) (by omega)) j
    rw [this]
    by_cases e : j = i
    ·subst e; rw [qbu]; simp
    ·rw [qaL e, hD]
     have : qqz j i = false := by rw [← qqK]; intro h'; exact e (qqn h')
     simp [this]
   simp only at g1 g2
   unfold qgk at g1
   obtain ⟨b, hb, g1⟩ := qqk.1 g1
   have hwan := qaR hf hb
   unfold wpOpIn
   simp only [h2]
   cases b with
   | true =>
    rw [if_pos hwan]
    simp only [if_true] at g1
    obtain ⟨r, e1, e⟩ := qql.1 g1
    subst e
    refine qdn hF ((qa8 hc hO (zP hf) hw e1).mono fun v w1 ⟨C1, μ1, p1, p2, p3⟩ => ?_)
    have hf1 : qj C1 μ1 fr a.tmps := hf.monoG p3.cl (fun id m hm => p3.mu id m (hw.dom id m hm) hm)
    exact ih (i :: D) _ g2 (by simpa using hs) hD' (zO hf1 p1) p2 (hx.trans p3 hx.len) (by rw [yL]; exact hds) fun q hq => hL q (g3 q hq)
   | false =>
    rw [if_neg (by rw [hwan]; simp)]
    simp only [qqq, if_false] at g1
    cases g1
    exact ⟨fun f _ => hF.fn f, ih (i :: D) _ g2 (by simpa using hs) hD' (zO hf qdf) hw hx (by rw [yL]; exact hds) fun q hq => hL q (g3 q hq)⟩
theorem ql2 [Lent] {cfg : Cfg} (hc : CfgTy cfg) {cf : Orac} (hO : y4 cfg cf) (hm : cfg.P.follows .mixedOrders = true) {Fn : Fence} (hF : yd Fn) {f rid : Nat} {ops : Array Oper} {fr : List AV} {L : List (List AV × AH)} {a : Act}
  (he : zG cfg cf f rid ops ops.size [] fr H = some L) (hf : qj C μ fr a.tmps) (hw : Wld C μ H w) {Q : Exit → Act → World → Prop}
  (hq : ∀ q ∈ L, ∀ C' μ' w' a', qj C' μ' q.1 a'.tmps → Wld C' μ' q.2 w' → Ext H.length C μ H w C' μ' q.2 w' → a'.defers = a.defers → Q .normal a' w') : (Code.region rid ops true).wpIn Fn 0 cfg.P Q a w := by
 refine wpIn_region_any hm ?_
 refine qnf hc hO hF (C0 := C) (μ0 := μ) (H0 := H) (w0 := w) (k := H.length) (ds := a.defers) ops.size [] _ he (by simp) (fun j => ?_) hf (hw.heap rfl) ?_ rfl hq
 ·rw [Array.getD_eq_getD_getElem?]
  rcases Nat.lt_or_ge j ops.size with h | h
  ·simp [h]
  ·simp [h]
 ·exact ⟨rfl, rfl, rfl, qqo _, fun _ _ _ h => h, fun _ _ _ h => ⟨_, h, .refl _⟩, fun b _ hnl => ⟨rfl, fun hl => hnl hl, rfl⟩, qqo _⟩
theorem qf7 [Lent] {tmps : Array Value} : ∀ (ts : List Tmp) {fr : List AV}, qj C μ fr tmps → qj C μ (qf8 ts fr) tmps
 | [], _, h => h
 | t :: ts, fr, h => by
  have : qf8 (t :: ts) fr = qf8 ts (fr.set t .junk) := rfl
  rw [this]
  exact qf7 ts (h.setA fun v _ => .junk v)
theorem qbI {c : Code} {p : Nat × Array Oper} (h : qba c = some p) : c = .region p.1 p.2 true ∧ qg0 p.2 = true := by
 unfold qba at h
 split at h
 ·split at h
  ·rename_i h1
   cases h
   exact ⟨rfl, h1⟩
  ·cases h
 ·cases h
theorem qdN [Lent] {cfg : Cfg} (hc : CfgTy cfg) {cf : Orac} (hO : OracOk2 cfg cf) (hmx : cfg.P.follows .mixedOrders = true) {F : Fence} {rd : Option Nat} {f B k : Nat} : ∀ (c : Code) {fr : List AV} {H : AH} {r : Ex × List AV × AH}, evC cfg cf f rd k c fr H = some r →
  ∀ {C : qb} {μ : MMap} {w : World} {a : Act}, k ≤ H.length → RdOk rd F μ k → qj C μ fr a.tmps → Wld C μ H w → qaD B μ H w a.defers → c.wpIn F 0 cfg.P (zb k B C μ H w r) a w := by
 intro c
 induction c with
 | skip =>
  intro fr H r he C μ w a hk hrd hf hw hm
  rw [evC.eq_def] at he; simp only at he; cases he
  exact wpIn_skip ⟨rfl, C, μ, hf, hw, Ext.refl hk, hm⟩
 | label l =>
  intro fr H r he C μ w a hk hrd hf hw hm
  rw [evC.eq_def] at he; simp only at he; cases he
  exact wpIn_label ⟨rfl, C, μ, hf, hw, Ext.refl hk, hm⟩
 | exit id =>
  intro fr H r he C μ w a hk hrd hf hw hm
  rw [evC.eq_def] at he; simp only at he; cases he
  exact wpIn_exit ⟨rfl, C, μ, hf, hw, Ext.refl hk, hm⟩
 | ret =>
  intro fr H r he C μ w a hk hrd hf hw hm
  rw [evC.eq_def] at he; simp only at he; cases he
  exact wpIn_ret ⟨rfl, C, μ, hf, hw, Ext.refl hk, hm⟩
 | goto l =>
  intro fr H r he
  rw [evC.eq_def] at he; simp only at he; cases he
 | refuse s =>
  intro fr H r he
  rw [evC.eq_def] at he; simp only at he; cases he
 | region id ops draw =>
  intro fr H r he C μ w a hk hrd hf hw hm
  rw [evC.eq_def] at he
  simp only at he
  have fin : ∀ (fr' : List AV) (H' : AH) C' μ' w' (a' : Act), qj C' μ' fr' a'.tmps → Wld C' μ' H' w' → Ext H.length C μ H w C' μ' H' w' → a'.defers = a.defers → zb k B C μ H w (.normal, fr', H') .normal a' w' :=
   fun fr' H' C' μ' w' a' g1 g2 g3 g4 => ⟨rfl, C', μ', g1, g2, g3.less hk, by rw [g4]; exact hm.ext g3⟩
  cases draw with
  | true =>
   simp only [if_true] at he
   split at he
   case isFalse => cases he
   rename_i hst
   obtain ⟨q, hq, he⟩ := qqk.1 he
   split at he
   case isFalse => cases he
   rename_i hdy
   obtain ⟨fps, fr', H'⟩ := q
   cases he
   exact qlZ hc hO.calls hmx hrd.wide hst hq hdy hf hw (fin fr' H')
  | false =>
   simp only [qqq, if_false] at he
   obtain ⟨q, hq, e⟩ := qql.1 he
   obtain ⟨fr', H'⟩ := q
   cases e
   refine wpIn_region ?_
   have := qbH hc hO.calls hrd.wide (Q := zb k B C μ H w (.normal, fr', H')) ops.toList 0 hq (fun i => by rw [qqJ, Nat.zero_add]) hf hw (fin fr' H')
   rw [List.range_eq_range']
   simpa using this
 | seq x y ihx ihy =>
  intro fr H r he C μ w a hk hrd hf hw hm
  rw [evC.eq_def] at he
  simp only at he
  split at he
  case h_1 p hp =>
   obtain ⟨rfl, _⟩ := qbI hp
   obtain ⟨L, hL, he⟩ := qqk.1 he
   refine wpIn_seq (ql2 hc hO.calls hmx hrd.wide hL hf hw fun q hq C1 μ1 w1 a1 g1 g2 g3 g4 => ?_)
   obtain ⟨q2, hq2, e⟩ := qql.1 (qjW he q hq)
   subst e
   have h4 := g3.less hk
   refine wpIn_mono (ihy hq2 h4.len (hrd.ext h4.mu (qqo _)) (yM g1) g2 (by rw [g4]; exact hm.ext g3)) fun e' a2 w2 hp2 => ?_
   obtain ⟨p1, C2, μ2, p2, p3, p4, p5⟩ := zb.mono hp2 h4 (qqo _)
   obtain ⟨μ3, r1, r2, r3⟩ := qi5 p3 (qf7 (dsts (.region p.1 p.2 true) ++ dsts y) p2) k p4.len
   exact ⟨p1, C2, μ3, r2, r1, p4.trans r3 (qqo _), p5.ext r3⟩
  obtain ⟨q, hq, he⟩ := qqk.1 he
  refine wpIn_seq (wpIn_mono (ihx hq hk hrd hf hw hm) fun e a1 w1 hp => ?_)
  cases hq1 : q.1 with
  | normal =>
   obtain ⟨h1, C1, μ1, h2, h3, h4, h5⟩ := hp
   rw [hq1] at h1 he
   subst h1
   refine wpIn_mono (ihy he h4.len (hrd.ext h4.mu (qqo _)) (yM h2) h3 h5) fun e' a2 w2 hp2 => hp2.mono h4 (qqo _)
  | exit id =>
   rw [hq1] at he
   cases he
   have : e = .exit id := by rw [hp.1, hq1]; rfl
   subst this
   exact ⟨rfl, hp.2⟩
  | goto l =>
   rw [hq1] at he
   cases he
   have : e = .goto l := by rw [hp.1, hq1]; rfl
   subst this
   exact ⟨rfl, hp.2⟩
  | ret =>
   rw [hq1] at he
   cases he
   have : e = .ret := by rw [hp.1, hq1]; rfl
   subst this
   exact ⟨rfl, hp.2⟩
 | cond c x y ihx ihy =>
  intro fr H r he C μ w a hk hrd hf hw hm
  rw [evC.eq_def] at he
  simp only at he
  split at he
  case h_2 => cases he
  rename_i t ht
  have hcr := zP hf c
  rw [ht] at hcr
  generalize hv : a.eval c = v at hcr
  cases hcr
  cases t with
  | true => exact wpIn_cond_true hv (ihx (by simpa using he) hk hrd hf hw hm)
  | false => exact wpIn_cond_false hv (ihy (by simpa using he) hk hrd hf hw hm)
 | block id x ih =>
  intro fr H r he C μ w a hk hrd hf hw hm
  rw [evC.eq_def] at he
  simp only at he
  obtain ⟨q, hq, he⟩ := qqk.1 he
  refine wpIn_block (wpIn_mono (ih hq hk hrd hf hw hm) fun e a1 w1 hp => ?_)
  cases hq1 : q.1 with
  | normal =>
   rw [hq1] at he
   cases he
   have : e = .normal := by rw [hp.1, hq1]; rfl
   subst this
   exact hp
  | exit id' =>
   rw [hq1] at he
   simp only at he
   have : e = .exit id' := by rw [hp.1, hq1]; rfl
   subst this
   simp only [Exit.inBlock]
   by_cases e : id' = id
   ·subst e
    rw [if_pos (Nat.beq_refl _)] at he
    cases he
    rw [if_pos rfl]
    exact ⟨rfl, hp.2⟩
   ·have : ¬ qqz id' id = true := fun h => e (qqn h)
    rw [if_neg this] at he
    cases he
    rw [if_neg e]
    exact hp
  | goto l =>
   rw [hq1] at he
   cases he
   have : e = .goto l := by rw [hp.1, hq1]; rfl
   subst this
   exact hp
  | ret =>
   rw [hq1] at he
   cases he
   have : e = .ret := by rw [hp.1, hq1]; rfl
   subst this
   exact hp
 | loop x ih =>
  intro fr H r he C μ w a hk hrd hf hw hm
  rw [evC.eq_def] at he
  simp only at he
  obtain ⟨q, hq, e⟩ := qql.1 he
  obtain ⟨n, hn⟩ := zQ hq
  obtain ⟨μ', g1, g2, g3⟩ := qi3 hw hf (cfg.keepIn f (qe x)) (cfg.lift f (qe x)) k hk
  refine wpIn_mono (wpIn_loop_rounds n (qey (rd := rd) (fun hq => ih hq) hk n hn g3.len (hrd.ext g3.mu (qqo _)) g2 g1 (hm.ext g3) g3)) fun e' a' w' hp => ?_
  obtain ⟨h1, C1, μ1, h2, h3, h4, h5⟩ := hp
  subst e
  exact ⟨h1, C1, μ1, yM h2, h3, h4, h5⟩
 | scope x ih =>
  intro fr H r he C μ w a hk hrd hf hw hm
  rw [evC.eq_def] at he
  simp only at he
  obtain ⟨q, hq, he⟩ := qqk.1 he
  have hqr : (∀ l, q.1 ≠ .goto l) ∧ q = r := by
   cases hq1 : q.1 with
   | goto l => rw [hq1] at he; cases he
   | normal => rw [hq1] at he; simp only [Option.some.injEq] at he; exact ⟨nofun, he⟩
   | exit id => rw [hq1] at he; simp only [Option.some.injEq] at he; exact ⟨nofun, he⟩
   | ret => rw [hq1] at he; simp only [Option.some.injEq] at he; exact ⟨nofun, he⟩
  obtain ⟨h1, rfl⟩ := hqr
  refine qjE (ih hq hk hrd hf hw hm) fun l a1 w1 hp => ?_
  have := hp.1
  cases hq1 : q.1 with
  | goto l => exact h1 l hq1
  | _ => rw [hq1] at this; cases this
 | rangeFunc g ps assign body =>
  intro fr H r he C μ w a hk hrd hf hw hm
  rw [evC.eq_def] at he
  simp only at he
  obtain ⟨a1, a2, a3, a4⟩ := qav (cfg.lift f (qe body)) hw hf
  exact wpIn_mono (qfB hO he (Nat.le_trans hk a3) hrd a2 a1 (hm.ext (a4 k hk))) fun e a' w' hp => hp.mono (a4 k hk) (qqo _)
def qbX (tmps : Array Value) : ResultVar → Sem Value
 | .tmp t => pure (tmps.getD t undef)
 | .cell a t => do loadVar t (← asAddr (tmps.getD a undef))
theorem qan [Lent] {cfg : Cfg} (hc : CfgTy cfg) {fr : List AV} {tmps : Array Value} (hf : qj C μ fr tmps) (hw : Wld C μ H w) : ∀ (rs : List ResultVar) {vs : List AV}, vK rs cfg.ty fr H = some vs →
  ∃ us : List Value, (rs.mapM (qbX tmps)).run cfg.P w = .ok us w ∧ vs.length = us.length ∧
   ∀ (i : Nat) a v, vs[i]? = some a → us[i]? = some v → Rep C μ a v
 | [], vs, he => by
  simp only [vK] at he
  cases he
  exact ⟨[], by simp, rfl, fun i a v h => by simp at h⟩
 | .tmp t :: l, vs, he => by
  simp only [vK] at he
  obtain ⟨vs', hvs, e⟩ := qql.1 he
  cases e
  obtain ⟨us, h1, h2, h3⟩ := qan hc hf hw l hvs
  refine ⟨tmps.getD t undef :: us, ?_, by simp [h2], fun i a v e1 e2 => ?_⟩
  ·simp only [List.mapM_cons, Sem.run_bind, qbX, Sem.run_pure, Result.andThen_ok, h1]
  ·cases i with
   | zero => simp at e1 e2; subst e1; subst e2; simpa [opd, Act.eval] using zP (a := ⟨tmps, []⟩) hf (.tmp t)
   | succ i => exact h3 i a v (by simpa using e1) (by simpa using e2)
 | .cell a t :: l, vs, he => by
  simp only [vK] at he
  split at he
  case h_2 => cases he
  rename_i ti hti
  obtain ⟨x, hx, he⟩ := qqk.1 he
  obtain ⟨vs', hvs, e⟩ := qql.1 he
  cases e
  obtain ⟨us, h1, h2, h3⟩ := qan hc hf hw l hvs
  have hr : Rep C μ (fr.getD a .junk) (tmps.getD a undef) := by simpa [opd, Act.eval] using zP (a := ⟨tmps, []⟩) hf (.tmp a)
  obtain ⟨ad, u, g1, g2, g3⟩ := qfM hw (hc.ty _ _ hti) hr hx
  refine ⟨u :: us, ?_, by simp [h2], fun i a v e1 e2 => ?_⟩
  ·have ga : (qbX tmps (.cell a t)).run cfg.P w = .ok u w := by simp only [qbX, g1, asAddr, Sem.run_bind, Sem.run_pure, Result.andThen_ok, g2]
   simp only [List.mapM_cons, Sem.run_bind, ga, Sem.run_pure, Result.andThen_ok, h1]
  ·cases i with
   | zero => simp at e1 e2; subst e1; subst e2; exact g3
   | succ i => exact h3 i a v (by simpa using e1) (by simpa using e2)
theorem qhA [Lent] {cfg : Cfg} (hc : CfgTy cfg) {fn : Func} {fr : List AV} {tmps : Array Value} (hf : qj C μ fr tmps) (hw : Wld C μ H w) {vs : List AV} (he : vK fn.results.toList cfg.ty fr H = some vs) :
  ∃ v, (results fn tmps).run cfg.P w = .ok v w ∧ Rep C μ (xO vs) v := by
 obtain ⟨us, h1, h2, h3⟩ := qan hc hf hw _ he
 refine ⟨if h : us.toArray.size = 1 then us.toArray[0] else .tuple us.toArray, ?_, ?_⟩
 ·have hr : results fn tmps = (fn.results.mapM (qbX tmps) >>= fun vs => pure (if h : vs.size = 1 then vs[0] else .tuple vs)) := rfl
  rw [hr, Array.mapM_eq_mapM_toList]
  simp only [Sem.run_bind, Sem.run_map, Result.andThen_ok, Sem.run_pure, h1]
 ·cases us with
  | nil =>
   cases vs with
   | nil => exact .tup [] [] rfl (fun i a v h => by simp at h)
   | cons x l => simp at h2
  | cons u us =>
   cases vs with
   | nil => simp at h2
   | cons x l =>
    cases us with
    | nil =>
     cases l with
     | nil => simpa [xO] using h3 0 x u rfl rfl
     | cons y l => simp at h2
    | cons u' us =>
     cases l with
     | nil => simp at h2
     | cons y l =>
      have : xO (x :: y :: l) = .tup (x :: y :: l) := rfl
      rw [this, dif_neg (by simp)]
      exact .tup _ _ h2 h3
theorem qku {cfg : Cfg} {rs : List ResultVar} {q : Ex × List AV × AH} {r : AV} (h : qak cfg rs q = some (r, H')) : (q.1 = .normal ∨ q.1 = .ret) ∧ H' = q.2.2 ∧ ∃ vs, vK rs cfg.ty q.2.1 q.2.2 = some vs ∧ r = xO vs := by
 unfold qak at h
 split at h
 ·rename_i hq
  obtain ⟨vs, h1, e⟩ := qql.1 h
  cases e
  exact ⟨.inl hq, rfl, vs, h1, rfl⟩
 ·rename_i hq
  obtain ⟨vs, h1, e⟩ := qql.1 h
  cases e
  exact ⟨.inr hq, rfl, vs, h1, rfl⟩
 ·cases h
theorem qdr [Lent] {fn : Func} {tmps : Array Value} {R : Ending → World → Prop} {B k : Nat} {C0 : qb} {μ0 : MMap} {H0 : AH} {w0 : World} (hB : B = w0.heap.size)
  (hend : ∀ w', Wld C μ H w' → Ext k C0 μ0 H0 w0 C μ H w' → ∃ v, (results fn tmps).run P w' = .ok v w' ∧ R (.returned v) w') : ∀ (Ds : List Nat) {w : World}, Ds.Nodup → (∀ D ∈ Ds, B ≤ D ∧ w.heap[D]? = some (.deferred (some [])) ∧ ¬ Live H μ D) →
   Wld C μ H w → Ext k C0 μ0 H0 w0 C μ H w → LeavesInM Fence.wide 0 P fn tmps R (Ds.map mark) .returning w
 | [], w, _, _, hw, hx => hend w hw hx
 | D :: Ds, w, hnd, hD, hw, hx => by
  obtain ⟨d1, d2, d3⟩ := hD D (List.mem_cons_self ..)
  obtain ⟨hnm, hnd'⟩ := List.nodup_cons.1 hnd
  refine ⟨by simp, .inl ⟨D, _, rfl, run_takeDeferred d2, ?_⟩⟩
  have hne : ∀ b, b ≠ D → (w.putObj D (.deferred none)).heap[b]? = w.heap[b]? := fun b hb => World.putObj_heap_other hb
  refine qdr hB hend Ds hnd' (fun D' hD' => ?_) (hw.worldG (by simp) (fun b hb hor => hne b fun e => ?_)) ⟨hx.os, hx.tape, hx.output, by simpa using hx.size, hx.cl, hx.mu, fun b hb hnl => ?_, hx.len⟩
  ·obtain ⟨g1, g2, g3⟩ := hD D' (List.mem_cons_of_mem _ hD')
   exact ⟨g1, by rw [hne D' (fun e => hnm (by rw [← e]; exact hD'))]; exact g2, g3⟩
  ·subst e
   rcases hor with hl | ⟨o, hc⟩ | ⟨o, hc⟩
   ·exact d3 hl
   ·cases hco : C b o with
    | none => exact hc hco
    | some v =>
     have := hw.cl b o v hco
     simp only [World.cell?, d2] at this
     cases this
   ·cases hco : Lent.l b o with
    | none => exact hc hco
    | some v =>
     have := (hw.lnt.1 b o v hco).1
     simp only [World.cell?, d2] at this
     cases this
  ·obtain ⟨f1, f2, f3⟩ := hx.fr b hb hnl
   exact ⟨by rw [hne b (by omega)]; exact f1, f2, f3⟩
variable {C C' C1 C2 : qb} {μ μ' μ1 : MMap} {H H' H1 H2 : AH} {w w' w1 : World} {P : Program}
structure CfgOk [Lent] (cfg : Cfg) : Prop where
 ty : CfgTy cfg
 mixed : cfg.P.follows .mixedOrders = true
 named : ∀ f fn, cfg.known f = true → cfg.P.funcs[f]? = some fn → (fn.name == "runtime.NumGoroutine") = false
 ext : ∀ f s, cfg.ext f = some s → ∀ args H r H', s args H = some (r, H') → ∀ C μ w vs, qj C μ args vs → Wld C μ H w → qL cfg.P (callFunc f vs) w (qZ C μ H w r H')
theorem qfu {f : FuncId} {fn : Func} {c : Code} (hf : P.funcs[f]? = some fn) (hn : (fn.name == "runtime.NumGoroutine") = false) (hb : fn.body = some c) (vs : Array Value) (w : World) : (callFunc f vs).run P w = .ok (.enter f vs) w := by
 unfold callFunc
 simp only [Sem.run_bind, run_program, Result.andThen_ok, hf, hn, hb, Option.isNone_some, qqq, if_false]
 simp
theorem qoW [Lent] {args : List AV} {vs : Array Value} (h : qj C μ args vs) (n : Nat) : qj C μ (args ++ qqG (n - args.length) .junk) (vs ++ Array.replicate (n - vs.size) undef) := by
 refine ⟨by simp [h.1], fun i a v e1 e2 => ?_⟩
 rcases Nat.lt_or_ge i args.length with hlt | hge
 ·rw [qqs hlt] at e1
  rw [Array.getElem?_append_left (by rw [← h.1]; exact hlt)] at e2
  exact h.2 i a v e1 e2
 ·rw [qqw hge] at e1
  have := qqx e1
  rw [List.mem_replicate] at this
  rw [this.2]
  exact .junk v
theorem qcT [Lent] : ∀ (ps : List Tmp) {args : List AV} {vs : List Value} {fr : List AV} {tmps : Array Value}, (∀ (i : Nat) a v, args[i]? = some a → vs[i]? = some v → Rep C μ a v) → args.length = vs.length → qj C μ fr tmps →
  qj C μ (xf fr ps args) ((ps.zip vs).foldl (fun t (p, v) => t.setIfInBounds p v) tmps)
 | [], args, vs, fr, tmps, _, _, hf => by cases args <;> simpa [xf] using hf
 | p :: ps, [], vs, fr, tmps, _, hl, hf => by
  have : vs = [] := List.eq_nil_of_length_eq_zero (by simpa using hl.symm)
  subst this
  simpa [xf] using hf
 | p :: ps, x :: args, [], fr, tmps, _, hl, hf => by simp at hl
 | p :: ps, x :: args, v :: vs, fr, tmps, h, hl, hf => by
  rw [xf, List.zip_cons_cons, List.foldl_cons]
  refine qcT ps (fun i a u e1 e2 => h (i + 1) a u (by simpa using e1) (by simpa using e2)) (by simpa using hl) ?_
  exact zO (a := ⟨tmps, []⟩) (dst := some p) hf (h 0 x v rfl rfl)
theorem qm3 [Lent] {cfg : Cfg} (ok : CfgOk cfg) {cf : Orac} (hO : OracOk2 cfg cf) {f : Nat} {fn : Func} {c : Code} {args : List AV} {vs : Array Value} {r : AV} (hf : cfg.P.funcs[f]? = some fn) (hb : fn.body = some c)
  (he : ((evC cfg cf f none H.length c (args ++ qqG (fn.ntmps - args.length) .junk) H).bind fun r => qak cfg fn.results.toList (r.1, qJ (cfg.lift f 0) r.2.1 r.2.2)) = some (r, H')) (ha : qj C μ args vs) (hw : Wld C μ H w) :
  CallsIn Fence.wide 0 cfg.P f vs w fun e w' => ∃ v, e = .returned v ∧ qZ C μ H w r H' v w' := by
 obtain ⟨q, hq, he⟩ := qqk.1 he
 obtain ⟨h1, rfl, us, h3, rfl⟩ := qku he
 refine callsIn_of_wp_marks hf hb trivial (wpIn_mono (qdN ok.ty hO ok.mixed (B := w.heap.size) c hq (F := Fence.wide) (qqo _) rfl (qoW ha fn.ntmps) hw ⟨qqo _, [], rfl, List.nodup_nil, fun D h => by cases h⟩) fun e a' w' hp => ?_)
 obtain ⟨e1, C', μ', e2, e3, e4, hmk⟩ := hp
 obtain ⟨l1, l2, l3, l4⟩ := qav (cfg.lift f 0) e3 e2
 obtain ⟨hB, Ds, m1, m2, m3⟩ := hmk.ext (l4 _ (qqo _))
 replace e2 := l2
 replace e4 := e4.trans (l4 _ e4.len) (qqo _)
 replace e3 := l1
 have hl : LeavesInM Fence.wide 0 cfg.P fn a'.tmps (fun e w' => ∃ v, e = .returned v ∧ qZ C μ H w (xO us) (qJ (cfg.lift f 0) q.2.1 q.2.2).2 v w') a'.defers .returning w' := by
  rw [m1]
  refine qdr rfl (fun w2 g1 g2 => ?_) Ds m2 m3 e3 e4
  obtain ⟨v, r1, r2⟩ := qhA ok.ty e2 g1 h3
  exact ⟨v, r1, v, rfl, C', μ', r2, g1, g2⟩
 rcases h1 with h1 | h1
 ·rw [h1] at e1
  subst e1
  exact hl
 ·rw [h1] at e1
  subst e1
  exact hl
theorem qjX [Lent] {cfg : Cfg} (ok : CfgOk cfg) {cf : Orac} (hO : OracOk2 cfg cf) {id : Nat} {args : List AV} {vs : Array Value} {r : AV} (he : vg cfg cf (.y id) args H = some (r, H')) (ha : qj C μ args vs) (hw : Wld C μ H w) {m : MI} (hm : μ id = some m) :
  qL cfg.P (Instr.yield m.block vs) w (qZ C μ H w r H') := by
 unfold vg at he
 simp only at he
 split at he
 case h_2 => cases he
 rename_i f fr ps assign body pend hid
 split at he
 case isFalse => cases he
 rename_i hlen
 obtain ⟨q1, hq1, he⟩ := qqk.1 he
 split at he
 case h_2 => cases he
 rename_i f1 fr1 ps1 assign1 body1 pend1 hx1 hid1
 obtain ⟨q2, hq2, he⟩ := qqk.1 he
 split at he
 case h_2 => cases he
 rename_i f2 fr2 ps2 assign2 body2 pend2 st2 hid2
 obtain ⟨i2, i3, rc, i4, i5, i6, i7, i8, i9, i10⟩ := hw.liveM hid rfl hm
 have hidl : id < H.length := (qqj.1 hid).1
 have hvs : vs.size = rc.params.size := by rw [← ha.1, hlen, ← i7]; simp
 unfold qL
 rw [run_yield i4 hvs]
 simp only
 rw [i8, i9]
 have htm : ((rc.params.zip vs).foldl (fun tmps (t, a) => tmps.setIfInBounds t a) rc.tmps) = ((ps.zip vs.toList).foldl (fun t (p, v) => t.setIfInBounds p v) rc.tmps) := by
  rw [← Array.foldl_toList, Array.toList_zip, i7]
 have hfr0 : qj C μ (xf fr ps args) ((rc.params.zip vs).foldl (fun tmps (t, a) => tmps.setIfInBounds t a) rc.tmps) := by
  rw [htm]
  exact qcT ps (fun i a v e1 e2 => ha.2 i a v e1 (by rw [← qqJ]; exact e2)) (by rw [ha.1]; simp) i10
 have hrd : RdOk (some id) (Fence.wide.inRound m.block) μ H.length := ⟨hidl, m, hm, rfl⟩
 refine roundIn_of_wpIn trivial (wpIn_mono (qdN ok.ty hO ok.mixed (B := w.heap.size) assign hq1 (a := ⟨_, []⟩) (qqo _) hrd hfr0 hw ⟨qqo _, [], rfl, List.nodup_nil, fun D h => by cases h⟩) fun e a1 w1 hp => ?_)
 obtain ⟨e1, C1, μ1, p1, p2, p3, p4⟩ := hp
 rw [hx1] at e1
 subst e1
 obtain ⟨m1, hm1, hb1, -⟩ := p3.mu id m hidl hm
 obtain ⟨j2, j3, rc1, j4, j5, j6, j7, j8, j9, j10⟩ := p2.liveM hid1 rfl hm1
 rw [hb1] at j2 j3 j4
 have hidl1 : id < q1.2.2.length := (qqj.1 hid1).1
 refine ⟨_, run_beginRound j4 j5, ?_⟩
 have hw2 : Wld C1 μ1 (q1.2.2.set id (.loop f1 fr1 ps1 assign1 body1 pend1 .busy)) (w1.putObj m.block (.loop { rc1 with state := .busy })) :=
  p2.setBlk hid1 rfl rfl hm1 (by simp) (fun b hb => World.putObj_heap_other (hb1 ▸ hb)) ⟨{ rc1 with state := .busy }, by rw [hb1]; exact World.putObj_heap_same j2, rfl, j6, j7, j8, j9, j10⟩
 have hx2 : Ext q1.2.2.length C1 μ1 q1.2.2 w1 C1 μ1 (q1.2.2.set id (.loop f1 fr1 ps1 assign1 body1 pend1 .busy)) (w1.putObj m.block (.loop { rc1 with state := .busy })) :=
  Ext.setBlk p2 hid1 rfl hm1 (by simp) (fun b hb => World.putObj_heap_other (hb1 ▸ hb)) rfl rfl rfl (qqo _)
 have hx12 := p3.trans hx2 p3.len
 have hrd2 : RdOk (some id) (Fence.wide.inRound m.block) μ1 H.length := ⟨hidl, m1, hm1, by rw [hb1]⟩
 refine wpIn_mono (qdN ok.ty hO ok.mixed (B := w.heap.size) body hq2 (by simpa using p3.len) hrd2 p1 hw2 (p4.ext hx2)) fun e a2 w3 hp => ?_
 obtain ⟨e2, C3, μ3, g1, g2, g3, g4⟩ := hp
 obtain ⟨m3, hm3, hb3, -⟩ := g3.mu id m1 hidl hm1
 rw [hb1] at hb3
 obtain ⟨k2, k3, rc3, k4, k5, k6, k7, k8, k9, k10⟩ := g2.liveM hid2 rfl hm3
 rw [hb3] at k2 k3 k4
 have fin : ∀ (jump : Option Code) , ∃ v w4, (Instr.endRound m.block jump).run cfg.P w3 = .ok v w4 ∧
   qZ C μ H w (.bool jump.isNone) (q2.2.2.set id (.loop f2 fr2 ps2 assign2 body2 jump (if jump.isNone then .ready else .done))) v w4 := by
  intro jump
  refine ⟨_, _, run_endRound jump k4, C3, μ3, .bool _, ?_, ?_⟩
  ·exact g2.setBlk hid2 rfl rfl hm3 (by simp) (fun b hb => World.putObj_heap_other (hb3 ▸ hb)) ⟨{ rc3 with state := if jump.isNone then .ready else .done, pending := jump }, by rw [hb3]; exact World.putObj_heap_same k2, rfl, rfl, k7, k8, k9, k10⟩
  ·have := Ext.setBlk (k := q2.2.2.length) (blk' := .loop f2 fr2 ps2 assign2 body2 jump (if jump.isNone then .ready else .done)) g2 hid2 rfl hm3 (w' := w3.putObj m.block (.loop { rc3 with state := if jump.isNone then .ready else .done, pending := jump })) (by simp) (fun b hb => World.putObj_heap_other (hb3 ▸ hb)) rfl rfl rfl (qqo _)
   exact (hx12.trans g3 (qqo _)).trans this (hx12.trans g3 (qqo _)).len
 split at he
 ·rename_i hx
  cases he
  rw [hx] at e2; subst e2
  obtain ⟨v, w4, r1, r2⟩ := fin none
  exact ⟨v, w4, r1, v, rfl, r2⟩
 ·rename_i hx
  cases he
  rw [hx] at e2; subst e2
  obtain ⟨v, w4, r1, r2⟩ := fin (some .ret)
  exact ⟨v, w4, r1, v, rfl, r2⟩
 ·rename_i x hx
  cases he
  rw [hx] at e2; subst e2
  obtain ⟨v, w4, r1, r2⟩ := fin (some (.exit x))
  exact ⟨v, w4, r1, v, rfl, r2⟩
 ·cases he
theorem qjf [Lent] {cfg : Cfg} (ok : CfgOk cfg) {cf : Orac} (hO : OracOk2 cfg cf) : OracOk2 cfg (vg cfg cf) := by
 have key : ∀ f args H r, vg cfg cf (.f f) args H = some r → cfg.ext f = none → ∃ fn c, cfg.known f = true ∧ cfg.P.funcs[f]? = some fn ∧ fn.body = some c ∧ ((evC cfg cf f none H.length c (args ++ qqG (fn.ntmps - args.length) .junk) H).bind fun r => qak cfg fn.results.toList (r.1, qJ (cfg.lift f 0) r.2.1 r.2.2)) = some r := by
  intro f args H r he hx
  unfold vg at he
  simp only [hx] at he
  split at he
  case isFalse => cases he
  rename_i hk
  split at he
  case h_2 => cases he
  rename_i fn hf
  split at he
  case h_2 => cases he
  rename_i c hb
  exact ⟨fn, c, hk, hf, hb, he⟩
 have enters : ∀ h args H r, vg cfg cf (.f h) args H = some r → cfg.ext h = none → ∀ vs w, (callFunc h vs).run cfg.P w = .ok (.enter h vs) w := by
  intro h args H r he hx vs w
  obtain ⟨fn, c, h1, h2, h3, _⟩ := key h args H r he hx
  exact qfu h2 (ok.named _ _ h1 h2) h3 vs w
 refine ⟨fun t args H r H' he C μ w vs s ha hw ht => ?_, enters⟩
 cases t with
 | f f =>
  have hs : s = callFunc f vs := ht
  subst hs
  cases hx : cfg.ext f with
  | some sp =>
   unfold vg at he
   simp only [hx] at he
   exact ok.ext f sp hx args H r H' he C μ w vs ha hw
  | none =>
   unfold qL
   rw [enters _ _ _ _ he hx]
   obtain ⟨fn, c, _, h2, h3, h4⟩ := key _ _ _ _ he hx
   exact qm3 ok hO h2 h3 h4 ha hw
 | y id =>
  obtain ⟨m, hm, hs⟩ := ht
  subst hs
  exact qjX ok hO he ha hw hm
theorem qdM [Lent] {cfg : Cfg} (ok : CfgOk cfg) : ∀ n, OracOk2 cfg (evF cfg n)
 | 0 => ⟨fun t args H r H' he => (by cases he), fun h args H r he => (by cases he)⟩
 | n + 1 => qjf ok (qdM ok n)
theorem qou [Lent] {cfg : Cfg} (ok : CfgOk cfg) : OracOk2 cfg (EV cfg) := by
 refine ⟨fun t args H r H' he => ?_, fun h args H r he => ?_⟩
 ·obtain ⟨n, hn⟩ := zQ he
  exact (qdM ok n).calls t args H r H' hn
 ·obtain ⟨n, hn⟩ := zQ he
  exact (qdM ok n).enters h args H r hn
theorem qov [Lent] {cfg : Cfg} (ok : CfgOk cfg) {f : FuncId} {args : List AV} {vs : Array Value} {r : AV} (hx : cfg.ext f = none) (he : EV cfg (.f f) args H = some (r, H')) (ha : qj C μ args vs) (hw : Wld C μ H w) :
  Calls cfg.P f vs w fun e w' => ∃ v, e = .returned v ∧ qZ C μ H w r H' v w' := by
 have hO := qou ok
 have h := hO.calls _ _ _ _ _ he C μ w vs _ ha hw rfl
 unfold qL at h
 rw [hO.enters _ _ _ _ he hx] at h
 exact callsIn_wide.1 h
section
variable {α β : Type}
def EvG (cf : Nat → Orac) (c : Orac) (G : Orac → Option α) : Prop := ∀ r, G c = some r → ∃ n, ∀ m, n ≤ m → G (cf m) = some r
def Ev (cf : Nat → Orac) (c : Orac) : Prop := ∀ t a H, EvG cf c (fun o => o t a H)
variable {cf : Nat → Orac} {c : Orac}
theorem EvG.const (x : Option α) : EvG cf c (fun _ => x) := fun _r h => ⟨0, fun _ _ => h⟩
theorem EvG.bind {X : Orac → Option α} {K : Orac → α → Option β} (hX : EvG cf c X) (hK : ∀ a, EvG cf c (fun o => K o a)) : EvG cf c (fun o => (X o).bind (K o)) := by
 intro r h
 obtain ⟨a, h1, h2⟩ := qqk.1 h
 obtain ⟨n, hn⟩ := hX a h1
 obtain ⟨n', hn'⟩ := hK a r h2
 exact ⟨max n n', fun m hm => by
  show (X (cf m)).bind (K (cf m)) = some r
  rw [hn m (by omega)]
  exact hn' m (by omega)⟩
theorem EvG.map {X : Orac → Option α} (f : α → β) (hX : EvG cf c X) : EvG cf c (fun o => (X o).map f) := by
 intro r h
 obtain ⟨a, h1, h2⟩ := qql.1 h
 obtain ⟨n, hn⟩ := hX a h1
 exact ⟨n, fun m hm => by
  show (X (cf m)).map f = some r
  rw [hn m hm, ← h2]; rfl⟩
theorem EvG.ite {p : Prop} [Decidable p] {X Y : Orac → Option α} (hX : EvG cf c X) (hY : EvG cf c Y) : EvG cf c (fun o => if p then X o else Y o) := by
 by_cases h : p
 ·simp only [if_pos h]; exact hX
 ·simp only [if_neg h]; exact hY
theorem qcr (h : Ev cf c) (f : Nat) : ∀ l : List AV, EvG cf c (fun o => ym o f l)
 | [] => EvG.const _
 | a :: l => by
  simp only [ym]
  exact (h _ _ _).bind fun r => (EvG.const _).bind fun _ => qcr h f l
theorem qjm (h : Ev cf c) (cfg : Cfg) (nid : Option Nat) (t : Tgt) (args : List AV) (H : AH) : EvG cf c (fun o => qw cfg o nid t args H) := by
 cases t with
 | y id => exact (h _ _ _).bind fun r => EvG.const _
 | f f =>
  simp only [qw]
  cases cfg.mode f with
  | scal => exact EvG.ite ((h _ _ _).bind fun r => EvG.const _) (EvG.const _)
  | pfrz => exact EvG.ite ((h _ _ _).bind fun r => EvG.const _) (EvG.const _)
  | nfrz => exact EvG.ite ((h _ _ _).bind fun r => EvG.const _) (EvG.const _)
  | wfrz => exact EvG.ite ((h _ _ _).bind fun r => EvG.const _) (EvG.const _)
  | pown => exact EvG.ite ((h _ _ _).bind fun r => EvG.const _) (EvG.const _)
  | inpl =>
   cases qr 0 args with
   | nil => exact EvG.ite ((h _ _ _).bind fun r => EvG.const _) (EvG.const _)
   | cons id l =>
    refine EvG.ite ?_ (EvG.const _)
    cases hb : H[id]? with
    | none => exact EvG.const _
    | some b =>
     cases b with
     | rows d sz rs => exact EvG.ite ((h _ _ _).bind fun r => EvG.const _) (EvG.const _)
     | _ => exact EvG.const _
  | inpf =>
   cases qr 0 args with
   | nil => exact EvG.const _
   | cons id l =>
    refine EvG.ite ?_ (EvG.const _)
    cases hb : H[id]? with
    | none => exact EvG.const _
    | some b =>
     cases b with
     | rows d sz rs => exact EvG.ite ((h _ _ _).bind fun r => EvG.const _) (EvG.const _)
     | _ => exact EvG.const _
  | slf =>
   cases qr 0 args with
   | nil => exact EvG.const _
   | cons id l =>
    refine EvG.ite ?_ (EvG.const _)
    cases hb : H[id]? with
    | none => exact EvG.const _
    | some b =>
     cases b with
     | rows d sz rs => exact EvG.ite ((h _ _ _).bind fun r => EvG.const _) (EvG.const _)
     | _ => exact EvG.const _
  | bld =>
   cases qr 0 args with
   | nil => exact EvG.const _
   | cons id l =>
    refine EvG.ite ?_ (EvG.const _)
    cases hb : H[id]? with
    | none => exact EvG.const _
    | some b =>
     cases b with
     | bld T e s => exact (h _ _ _).bind fun r => EvG.const _
     | _ => exact EvG.const _
  | imp => exact (h _ _ _).bind fun r => EvG.const _
  | ifrz => exact (h _ _ _).bind fun r => EvG.const _
  | sub => exact (EvG.const _).bind fun s => (h _ _ _).bind fun r => EvG.const _
  | rgn => exact EvG.ite ((h _ _ _).bind fun r => EvG.const _) (EvG.const _)
  | over =>
   dsimp only
   rcases args with _ | ⟨a, _ | ⟨b, l⟩⟩
   ·exact EvG.const _
   ·dsimp only
    cases qr 0 a.alts with
    | nil => exact EvG.const _
    | cons id l =>
     refine EvG.ite ?_ (EvG.const _)
     cases hb : H[id]? with
     | none => exact EvG.const _
     | some b =>
      cases b with
      | reg => exact (qcr h _ _).map _
      | spl => exact (qcr h _ _).map _
      | _ => exact EvG.const _
   ·exact EvG.const _
theorem qdK (h : Ev cf c) (cfg : Cfg) (frz : Bool) (nid : Option Nat) (o : Oper) (x : Operand → AV) (H : AH) : EvG cf c (fun q => qD cfg q frz nid o x H) := by
 have core : ∀ (x : Operand → AV) (H : AH), EvG cf c (fun q => match o.op with
    | .call cl =>
     match cl.callee with
     | .value f => (xp (x f) (cl.args.toList.map x)).bind fun t => qw cfg q nid t.1 t.2 H
     | _ => evOp cfg nid o.op o.type x H
    | _ => evOp cfg nid o.op o.type x H) := by
  intro x H
  split
  ·split
   ·exact (EvG.const _).bind fun t => qjm h cfg nid _ _ _
   ·exact EvG.const _
  ·exact EvG.const _
 unfold qD
 cases frz with
 | true => simp only [if_true]; exact core _ _
 | false => simp only [qqq, if_false]; exact core _ _
theorem qcH (h : Ev cf c) (cfg : Cfg) (f rid : Nat) (ops : Array Oper) : ∀ (l : List Oper) (k : Nat) (fr : List AV) (H : AH), EvG cf c (fun q => xK cfg q f rid ops k l fr H)
 | [], k, fr, H => EvG.const _
 | o :: l, k, fr, H => by
  simp only [xK]
  refine (EvG.const _).bind fun b => EvG.ite ((qdK h cfg _ _ _ _ _).bind fun r => qcH h cfg f rid ops l _ _ _) (qcH h cfg f rid ops l _ _ _)
theorem qbr (h : Ev cf c) (cfg : Cfg) (f rid : Nat) (ops : Array Oper) : ∀ (l : List Oper) (k at_ : Nat) (fr : List AV) (H : AH), EvG cf c (fun q => vM cfg q f rid ops k at_ l fr H)
 | [], k, at_, fr, H => EvG.const _
 | o :: l, k, at_, fr, H => by
  simp only [vM]
  refine (EvG.const _).bind fun b => EvG.ite ((qdK h cfg _ _ _ _ _).bind fun r => (qbr h cfg f rid ops l _ _ _ _).map _) ((qbr h cfg f rid ops l _ _ _ _).map _)
theorem qfL {k : Nat} {ts : Option (List Tmp)} {ls : List (Tmp × Nat)} {body : Den} : ∀ {n : Nat} {p : List AV × AH} {r : Ex × List AV × AH}, vW k ts ls body n p = some r → vW k ts ls body (n + 1) p = some r
 | 0, _, _, h => by cases h
 | n + 1, p, r, h => by
  rw [vW] at h ⊢
  obtain ⟨q, h1, h2⟩ := qqk.1 h
  rw [h1]
  simp only [qqt]
  cases hq : q.1 with
  | normal =>
   rw [hq] at h2
   exact qfL h2
  | exit id => rw [hq] at h2; exact h2
  | goto l => rw [hq] at h2; exact h2
  | ret => rw [hq] at h2; exact h2
theorem qmP {g : Nat → Option α} (hs : ∀ n r, g n = some r → g (n + 1) = some r) {n : Nat} {r : α} (h : g n = some r) : lim g = some r := by
 have up : ∀ {n : Nat} {r : α}, g n = some r → ∀ d, g (n + d) = some r := by
  intro n r h d
  induction d with
  | zero => exact h
  | succ d ih => exact hs _ _ ih
 have he : ∃ (n : Nat) (r : α), g n = some r := ⟨n, r, h⟩
 unfold lim
 rw [dif_pos he]
 have hc := Classical.choose_spec (Classical.choose_spec he)
 have e1 := up h (Classical.choose he)
 have e2 := up hc n
 rw [Nat.add_comm] at e2
 rw [e1] at e2
 exact e2.symm
theorem qcf {k : Nat} {ts : Option (List Tmp)} {ls : List (Tmp × Nat)} {body : Den} {n : Nat} {p : List AV × AH} {r : Ex × List AV × AH} (h : vW k ts ls body n p = some r) : LOOP k ts ls body p = some r :=
 qmP (g := fun n => vW k ts ls body n p) (fun _ _ h => qfL h) h
theorem qiK {k : Nat} {ts : Option (List Tmp)} {ls : List (Tmp × Nat)} {body : Orac → Den} (hb : ∀ fr H, EvG cf c (fun q => body q fr H)) : ∀ (n : Nat) (p : List AV × AH), EvG cf c (fun q => vW k ts ls (body q) n p)
 | 0, _ => EvG.const _
 | n + 1, p => by
  simp only [vW]
  refine (hb _ _).bind fun r => ?_
  cases r.1 with
  | normal => exact qiK hb n _
  | exit id => exact EvG.const _
  | goto l => exact EvG.const _
  | ret => exact EvG.const _
theorem qpj {k : Nat} {ts : Option (List Tmp)} {ls : List (Tmp × Nat)} {body : Orac → Den} (hb : ∀ fr H, EvG cf c (fun q => body q fr H)) (p : List AV × AH) : EvG cf c (fun q => LOOP k ts ls (body q) p) := by
 intro r h
 obtain ⟨n, hn⟩ := zQ h
 obtain ⟨m, hm⟩ := qiK hb n p r hn
 exact ⟨m, fun i hi => qcf (hm i hi)⟩
theorem qe0 (h : Ev cf c) (cfg : Cfg) (f rid : Nat) (ops : Array Oper) : ∀ (n : Nat) (D : List Nat) (fr : List AV) (H : AH), EvG cf c (fun q => zG cfg q f rid ops n D fr H)
 | 0, D, fr, H => EvG.const _
 | n + 1, D, fr, H => by
  simp only [zG]
  refine EvG.ite (EvG.const _) ?_
  have key : ∀ l : List (Nat × Oper), EvG cf c (fun q => qb6 (fun i fr H => zG cfg q f rid ops n (i :: D) fr H) (fun i o => qgk cfg q f rid ops i o fr H) l) := by
   intro l
   induction l with
   | nil => exact EvG.const _
   | cons p l ih =>
    simp only [qb6]
    refine EvG.bind ?_ fun q => (qe0 h cfg f rid ops n _ _ _).bind fun L => ih.map _
    simp only [qgk]
    exact (EvG.const _).bind fun b => EvG.ite ((qdK h cfg _ _ _ _ _).map _) (EvG.const _)
  exact key _
theorem qlh {F : Orac → List AV → AH → Option (Ex × List AV × AH)} (hF : ∀ fr H, EvG cf c (fun q => F q fr H)) (l : List (List AV × AH)) : EvG cf c (fun q => zm (F q) l) := by
 have key : ∀ (r : Ex × List AV × AH) (l : List (List AV × AH)), yH (F c) r l = true → ∃ n, ∀ m, n ≤ m → yH (F (cf m)) r l = true := by
  intro r l
  induction l with
  | nil => intro _; exact ⟨0, fun _ _ => rfl⟩
  | cons x l ih =>
   intro h
   simp only [yH, qqi] at h
   obtain ⟨n1, hn1⟩ := ih h.2
   have h1 := h.1
   split at h1
   ·rename_i r' hr'
    obtain ⟨n2, hn2⟩ := hF _ _ _ hr'
    refine ⟨max n1 n2, fun m hm => ?_⟩
    simp only [yH, qqi]
    have h2 : F (cf m) x.1 x.2 = some r' := hn2 m (by omega)
    exact ⟨by rw [h2]; exact h1, hn1 m (by omega)⟩
   ·cases h1
 cases l with
 | nil => exact EvG.const _
 | cons x l =>
  intro r h
  obtain ⟨r', h1, h⟩ := qqk.1 h
  split at h
  ·rename_i h2
   cases h
   obtain ⟨n1, hn1⟩ := hF _ _ _ h1
   obtain ⟨n2, hn2⟩ := key _ _ h2
   refine ⟨max n1 n2, fun m hm => ?_⟩
   have h3 : F (cf m) x.1 x.2 = some _ := hn1 m (by omega)
   simp only [zm, h3, qqt, hn2 m (by omega), if_true]
  ·cases h
theorem qje (h : Ev cf c) (cfg : Cfg) (f : Nat) (rd : Option Nat) (k : Nat) : ∀ (cd : Code) (fr : List AV) (H : AH), EvG cf c (fun q => evC cfg q f rd k cd fr H) := by
 intro cd
 induction cd with
 | skip => intro fr H; simp only [evC]; exact EvG.const _
 | label l => intro fr H; simp only [evC]; exact EvG.const _
 | exit id => intro fr H; simp only [evC]; exact EvG.const _
 | ret => intro fr H; simp only [evC]; exact EvG.const _
 | goto l => intro fr H; simp only [evC]; exact EvG.const _
 | refuse s => intro fr H; simp only [evC]; exact EvG.const _
 | region id ops draw =>
  intro fr H
  simp only [evC]
  cases draw with
  | true => simp only [if_true]; exact EvG.ite ((qbr h cfg f id ops _ _ _ _ _).bind fun q => EvG.const _) (EvG.const _)
  | false => simp only [qqq, if_false]; exact (qcH h cfg f id ops _ _ _ _).map _
 | seq x y ihx ihy =>
  intro fr H
  simp only [evC]
  split
  ·exact (qe0 h cfg f _ _ _ _ _ _).bind fun L => qlh (fun fr H => (ihy _ _).map _) L
  refine (ihx _ _).bind fun r => ?_
  cases r.1 with
  | normal => exact ihy _ _
  | exit id => exact EvG.const _
  | goto l => exact EvG.const _
  | ret => exact EvG.const _
 | cond cnd x y ihx ihy =>
  intro fr H
  simp only [evC]
  split
  ·exact EvG.ite (ihx _ _) (ihy _ _)
  ·exact EvG.const _
 | block id x ih =>
  intro fr H
  simp only [evC]
  exact (ih _ _).bind fun r => EvG.const _
 | loop x ih =>
  intro fr H
  simp only [evC]
  exact (qpj ih _).map _
 | scope x ih =>
  intro fr H
  simp only [evC]
  exact (ih _ _).bind fun r => EvG.const _
 | rangeFunc g ps assign body =>
  intro fr H
  simp only [evC, yn]
  refine EvG.ite ?_ (EvG.const _)
  split
  ·exact EvG.ite (EvG.const _) ((h _ _ _).bind fun r => EvG.const _)
  ·exact EvG.const _
theorem qhp (h : Ev cf c) (cfg : Cfg) (t : Tgt) (args : List AV) (H : AH) : EvG cf c (fun q => vg cfg q t args H) := by
 unfold vg
 cases t with
 | f f =>
  simp only
  split
  ·exact EvG.const _
  ·refine EvG.ite ?_ (EvG.const _)
   split
   ·split
    ·exact (qje h cfg f none _ _ _ _).bind fun r => EvG.const _
    ·exact EvG.const _
   ·exact EvG.const _
 | y id =>
  simp only
  split
  ·refine EvG.ite ((qje h cfg _ _ _ _ _ _).bind fun r => ?_) (EvG.const _)
   split
   ·exact (qje h cfg _ _ _ _ _ _).bind fun q => EvG.const _
   ·exact EvG.const _
  ·exact EvG.const _
end
theorem qeZ (cfg : Cfg) : ∀ (n : Nat) (t : Tgt) (a : List AV) (H : AH) (r : AV × AH), evF cfg n t a H = some r → evF cfg (n + 1) t a H = some r
 | 0, t, a, H, r, h => by cases h
 | n + 1, t, a, H, r, h => by
  have hev : Ev (fun _ => evF cfg (n + 1)) (evF cfg n) := fun t a H r h => ⟨0, fun _ _ => qeZ cfg n t a H r h⟩
  obtain ⟨m, hm⟩ := qhp hev cfg t a H r h
  exact hm m (qqo _)
theorem qqh (cfg : Cfg) : Ev (evF cfg) (EV cfg) := by
 intro t a H r h
 obtain ⟨n, hn⟩ := zQ h
 refine ⟨n, fun m hm => ?_⟩
 obtain ⟨d, rfl⟩ := Nat.exists_eq_add_of_le hm
 induction d with
 | zero => exact hn
 | succ d ih => exact qeZ cfg _ t a H r (ih (by omega))
theorem qbx {cfg : Cfg} {t : Tgt} {a : List AV} {H : AH} {r : AV × AH} (h : vg cfg (EV cfg) t a H = some r) : EV cfg t a H = some r := by
 obtain ⟨n, hn⟩ := qhp (qqh cfg) cfg t a H r h
 exact qmP (g := fun n => evF cfg n t a H) (fun n r h => qeZ cfg n t a H r h) (n := n + 1) (hn n (qqo _))
theorem qdT {k : Nat} {ts : Option (List Tmp)} {ls : List (Tmp × Nat)} {body : Den} {p : List AV × AH} {q : Ex × List AV × AH} (h : body p.1 p.2 = some q) (hq : ∀ x, q ≠ (.normal, x)) : LOOP k ts ls body p = some q := by
 refine qcf (n := 1) ?_
 rw [vW, h]
 obtain ⟨e, q⟩ := q
 cases e with
 | normal => exact absurd rfl (hq q)
 | exit id => rfl
 | goto l => rfl
 | ret => rfl
theorem qnp {k : Nat} {ts : Option (List Tmp)} {ls : List (Tmp × Nat)} {body : Den} {p : List AV × AH} {fr1 : List AV} {H1 : AH} {r : Ex × List AV × AH} (h : body p.1 p.2 = some (.normal, fr1, H1)) (hr : LOOP k ts ls body (xa k ts ls fr1 H1) = some r) : LOOP k ts ls body p = some r := by
 obtain ⟨n, hn⟩ := zQ hr
 refine qcf (n := n + 1) ?_
 rw [vW, h]
 exact hn
variable {α : Type}
abbrev KV (α : Type) := AV → Option α
abbrev KH (α : Type) := AV → AH → Option α
abbrev KE (α : Type) := Ex → List AV → AH → Option α
abbrev KF (α : Type) := Tgt → List AV → AH → (AV × AH → Option α) → Option α
inductive FK where
 | int (k : IntKind)
 | bool
 | str
 | sl
 | any
def kInt (kd : IntKind) (v : AV) (k : Int → Option α) : Option α :=
 match v with
 | .int k' n => cond (yA k' kd) (k n) none
 | _ => none
def q6 (v : AV) (k : Bool → Option α) : Option α :=
 match v with
 | .bool b => k b
 | _ => none
def kStr (v : AV) (k : List UInt8 → Option α) : Option α :=
 match v with
 | .str s => k s
 | _ => none
def kSl (v : AV) (k : List (List AV) → Option α) : Option α :=
 match v with
 | .sl rows => k rows
 | _ => none
def kAgg (v : AV) (k : List AV → Option α) : Option α :=
 match v with
 | .agg cs => k cs
 | _ => none
def kOpt {β : Type} (o : Option β) (k : β → Option α) : Option α :=
 match o with
 | some b => k b
 | none => none
def q8 (l : List AV) (k : AV → List AV → Option α) : Option α :=
 match l with
 | c :: cs => k c cs
 | [] => none
def kNil (l : List AV) (x : Option α) : Option α :=
 match l with
 | [] => x
 | _ => none
def zB (s : FK) (v : AV) (k : KV α) : Option α :=
 match s with
 | .int kd => kInt kd v fun n => k (.int kd n)
 | .bool => q6 v fun b => k (.bool b)
 | .str => kStr v fun s => k (.str s)
 | .sl => kSl v fun rows => k (.sl rows)
 | .any => k v
def zC : List FK → List AV → (List AV → Option α) → Option α
 | [], l, k => kNil l (k [])
 | s :: ss, l, k => q8 l fun c cs => zB s c fun v => zC ss cs fun vs => k (v :: vs)
def qmR (sl : Bool) : TD → FK
 | .int k => .int k
 | .bool => .bool
 | .str => .str
 | .slice _ => if sl then .sl else .any
 | _ => .any
def qfN (cfg : Cfg) (p : TypeId → Bool) : Nat → TypeId → Option (List FK)
 | 0, _ => none
 | n + 1, t =>
  match cfg.td t with
  | some (.struct fs) => (fs.foldr (fun f acc => match qfN cfg p n f.2, acc with | some l, some a => some (l ++ a) | _, _ => none) (some []))
  | some (.array m e) => (match qfN cfg p n e with | some l => some ((qqG m l).flatten) | none => none)
  | some d => some [qmR (p t) d]
  | none => none
def kTy1 (p : TypeId → Bool) (cfg : Cfg) (t : TypeId) (v : AV) (k : KV α) : Option α :=
 match cfg.td t with
 | some d =>
  match d with
  | .struct _ => (match qfN cfg p 6 t with | some ss => kAgg v fun cs => zC ss cs fun vs => k (.agg vs) | none => k v)
  | .array _ _ => (match qfN cfg p 6 t with | some ss => kAgg v fun cs => zC ss cs fun vs => k (.agg vs) | none => k v)
  | d => zB (qmR (p t) d) v k
 | none => k v
def kTup (v : AV) (k : List AV → Option α) : Option α :=
 match v with
 | .tup cs => k cs
 | _ => none
def kTys (p : TypeId → Bool) (cfg : Cfg) : List TypeId → List AV → (List AV → Option α) → Option α
 | [], l, k => kNil l (k [])
 | t :: ts, l, k => q8 l fun c cs => kTy1 p cfg t c fun v => kTys p cfg ts cs fun vs => k (v :: vs)
def kTy (p : TypeId → Bool) (cfg : Cfg) (t : TypeId) (v : AV) (k : KV α) : Option α :=
 match cfg.tup t with
 | some ts => kTup v fun cs => kTys p cfg ts cs fun vs => k (.tup vs)
 | none => kTy1 p cfg t v k
def AV.regA (i : Nat) : AV → AV
 | .agg cs => .agg (cs.map (AV.regn i))
 | a => a
def noTy : TypeId → Bool := fun _ => false
def qbt : TypeId → Bool := fun _ => true
def qqb (cfg : Cfg) (H : AH) (a : AV) : TypeId → Bool :=
 match a with
 | .cptr _ _ => cfg.dat
 | .ptr id _ _ => if vE H id then cfg.dat else noTy
 | _ => noTy
def kNew (nid : Option Nat) (H : AH) (b : ABlk) (k : Nat → AH → Option α) : Option α :=
 match nid with
 | none => k H.length (H ++ [b])
 | some i => kOpt H[i]? fun x => match x with | .res => k i (H.set i b) | _ => none
def ql6 (cfg : Cfg) (t : TypeId) : Bool := match cfg.td t with | some d => d.agg | none => false
def zS (agg : Bool) (v : AV) (k : List AV → Option α) : Option α :=
 cond agg (kAgg v fun cs => cond (vh cs) (k cs) none) (cond v.isCell (k [v]) none)
def qlF (t : Bool) (a b : AV) (k : KV α) : Option α :=
 match a, b with
 | .bool p, .bool q => k (.bool (cond t p q))
 | .int k1 p, .int k2 q => cond (yA k1 k2) (k (.int k1 (cond t p q))) (cond t (k a) (k b))
 | a, b => cond t (k a) (k b)
def qfZ (place : Nat → Option (Nat × Nat × Bool)) (cells : List AV) : List (Nat × AV) → (List AV → Option α) → Option α
 | [], k => k cells
 | (i, v) :: rest, k =>
  match place i with
  | some (off, size, agg) => zS agg v fun cs => cond (qqz cs.length size && qqB (off + size) cells.length) (qfZ place (cells.take off ++ cs ++ cells.drop (off + size)) rest k) none
  | none => none
def qd7 (cfg : Cfg) : List (Nat × TypeId) → Option (List (Nat × Nat × Bool))
 | [] => some []
 | (off, t) :: l =>
  match cfg.sz t, qd7 cfg l with
  | some n, some ps => some ((off, n, ql6 cfg t) :: ps)
  | _, _ => none
def qhR (agg : Bool) (n : Nat) (rows : List (List AV)) : List (Nat × AV) → (List (List AV) → Option α) → Option α
 | [], k => k rows
 | (i, v) :: rest, k => zS agg v fun cs => cond (qqz cs.length n && Nat.blt i rows.length) (qhR agg n (rows.set i cs) rest k) none
def kBlk (H : AH) (id : Nat) (k : Nat → List (List AV) → Option α) : Option α :=
 kOpt H[id]? fun b => match b with | .rows _ sz rs => k sz rs | .froz _ sz rs => k sz rs | _ => none
def qec (H : AH) (id : Nat) (k : Bool → Nat → List (List AV) → Option α) : Option α :=
 kOpt H[id]? fun b => match b with | .rows d sz rs => k d sz rs | _ => none
def zX (agg : Bool) (n : Nat) (cells : List AV) (off : Nat) (k : KV α) : Option α :=
 cond agg (cond (qqB (off + n) cells.length) (k (.agg ((cells.drop off).take n))) none) (kOpt cells[off]? k)
def qfV (agg : Bool) (n : Nat) (H : AH) (p : AV) (k : KV α) : Option α :=
 match p with
 | .ptr id r off => kBlk H id fun _ rs => kOpt rs[r]? fun row => zX agg n row off k
 | .cptr cs off => zX agg n cs off k
 | .lpt cs off => zX agg n (cs.map AV.lend) off k
 | .rpt id cs off => kOpt H[id]? fun b => match b with
  | .reg => zX agg n (cs.map (AV.regn id)) off k
  | .spl => cond agg (cond (qqz n 4) (zC [.int .i64, .int .i64, .str, .sl] ((cs.drop off).take 4) fun vs => k (.alt [.agg (vs.map (AV.regn id)), .agg qd5, .agg row0])) none) (kOpt (qgN cs off) fun rows => k (.rsl id rows))
  | _ => none
 | _ => none
def qiP (agg : Bool) (n : Nat) (H : AH) (p v : AV) (k : AH → Option α) : Option α :=
 match p with
 | .ptr id r off => zS agg v fun cs => qec H id fun d sz rs => kOpt rs[r]? fun row => cond (qqz cs.length n && qqB (off + n) row.length) (k (H.set id (.rows (d && qk 0 cs) sz (rs.set r (row.take off ++ cs ++ row.drop (off + n)))))) none
 | .rpt id cs off => kOpt H[id]? fun b => match b with | .spl => cond (qqz n 4) (cond (zN ((cs.drop off).take 4) && is77 v) (k H) none) (cond (qqz n 7 && qf4 (cs.drop off) && qaG v) (k H) none) | _ => none
 | _ => none
def qdz (v : AV) (k : KV α) : Option α :=
 match v with
 | .ptr id r off => k (.ptr id r off)
 | .cptr cs off => k (.cptr cs off)
 | .fn (.func f) a b => k (.fn (.func f) a b)
 | .mp id => k (.mp id)
 | .yld id => k (.yld id)
 | _ => none
def qg (a b : Int) : Bool := decide (a ≤ b)
def qz (a b : Int) : Bool := decide (a < b)
def qdB (lo hi : Nat) (x : Option AV) (dflt : Nat) (k : Nat → Option α) : Option α :=
 match x with
 | none => k dflt
 | some v => match v with | .int _ i => cond (qg lo i && qg i hi) (k i.toNat) none | _ => none
def zR (n : Nat) (lo hi mx : Option AV) (k : Nat → Nat → Option α) : Option α :=
 cond (hi.isNone && mx.isSome) none (qdB 0 n hi n fun h => qdB h n mx h fun _ => qdB 0 h lo 0 fun l => k l h)
def qiQ (cfg : Cfg) (t : TypeId) (H : AH) (x : AV) (lo hi mx : Option AV) (k : KV α) : Option α :=
 match cfg.td t with
 | some .str => (match mx with | none => (match x with | .str s => zR s.length lo hi none fun l h => k (.str ((s.drop l).take (h - l))) | _ => none) | _ => none)
 | some (.slice e) =>
  match cfg.sz e with
  | some n =>
   match x with
   | .nilS => zR 0 lo hi mx fun _ _ => k .nilS
   | .sl rows => zR rows.length lo hi mx fun l h => cond (qad n rows) (match cfg.ems t with | false => k (.sl ((rows.drop l).take (h - l))) | true => k (slE true rows l h)) none
   | .ms id off len => zR len lo hi mx fun l h => kBlk H id fun sz _ => cond (qqz sz n) (k (.ms id (off + l) (h - l))) none
   | .wr _ v => (match lo, hi, mx with
    | none, some hv, none => (match hv with
     | .int _ h => (match v with
      | .sl rows => cond (qg 0 h && qg h rows.length) (k (.wr h.toNat (.sl rows))) none
      | .ms id off len => cond (qg 0 h && qg h len) (k (.wr h.toNat (.ms id off len))) none
      | _ => none)
     | _ => none)
    | _, _, _ => none)
   | _ => none
  | none => none
 | _ => none
def qcv (cfg : Cfg) (t : TypeId) (H : AH) (x i : AV) (k : KV α) : Option α :=
 match i with
 | .int _ i =>
  match cfg.td t with
  | some (.slice e) =>
   match cfg.sz e with
   | some n =>
    match x with
    | .ms id off len => kBlk H id fun sz _ => cond (qqz sz n && qg 0 i && qz i len) (k (.ptr id (off + i.toNat) 0)) none
    | .sl rows => cond (qg 0 i && qz i rows.length) (kOpt rows[i.toNat]? fun row => cond (qqz row.length n) (k (.cptr row 0)) none) none
    | .lsl rows => cond (qg 0 i && qz i rows.length) (kOpt rows[i.toNat]? fun row => cond (qqz row.length n) (k (.lpt row 0)) none) none
    | .rsl id rows => cond (qg 0 i && qz i rows.length) (kOpt rows[i.toNat]? fun row => cond (qqz row.length n) (k (.rpt id row 0)) none) none
    | _ => none
   | none => none
  | some (.array n e) =>
   match cfg.sz e with
   | some sz =>
    match x with
    | .ptr id r off => cond (qg 0 i && qz i n) (k (.ptr id r (off + i.toNat * sz))) none
    | .cptr cs off => cond (qg 0 i && qz i n) (k (.cptr cs (off + i.toNat * sz))) none
    | _ => none
   | none => none
  | _ => none
 | _ => none
def qiX (cfg : Cfg) (t : TypeId) (x i : AV) (k : KV α) : Option α :=
 match i with
 | .int _ i =>
  match cfg.td t with
  | some (.array n e) =>
   match cfg.ty e with
   | some ti => kAgg x fun cs => cond (qg 0 i && qz i n) (zX ti.d.agg ti.sz cs (i.toNat * ti.sz) k) none
   | none => none
  | some .str => kStr x fun s => cond (qg 0 i) (kOpt s[i.toNat]? fun b => k (.int .u8 b.toNat)) none
  | _ => none
 | _ => none
def qiY (cfg : Cfg) (t : TypeId) (x : AV) (f : Nat) (k : KV α) : Option α :=
 match cfg.td t with
 | some (.struct fs) =>
  match fs[f]? with
  | some (off, ft) => (match cfg.ty ft with | some ti => kAgg x fun cs => zX ti.d.agg ti.sz cs off k | none => none)
  | none => none
 | _ => none
def qcB (cfg : Cfg) (t : TypeId) (x : AV) (f : Nat) (k : KV α) : Option α :=
 match cfg.td t with
 | some (.struct fs) =>
  match fs[f]? with
  | some (o, ft) =>
   match cfg.sz ft with
   | some (_ + 1) => (match x with | .ptr id r off => k (.ptr id r (off + o)) | .cptr cs off => k (.cptr cs (off + o)) | .rpt id cs off => k (.rpt id cs (off + o)) | _ => none)
   | _ => none
  | none => none
 | _ => none
def qeU (cfg : Cfg) (nid : Option Nat) (src dst : TypeId) (x : AV) (H : AH) (k : KH α) : Option α :=
 match cfg.td src, cfg.td dst with
 | some (.int _), some (.int kd) => (match x with | .int _ n => k (.int kd (kd.wrap n)) H | _ => none)
 | some .str, some .str => kStr x fun s => k (.str s) H
 | some .str, some (.slice e) =>
  match cfg.td e with
  | some (.int .u8) => kStr x fun s => kNew nid H (.rows true 1 (ya s)) fun i H' => k (.ms i 0 s.length) H'
  | _ => none
 | some (.slice e), some .str =>
  match cfg.td e with
  | some (.int .u8) => kOpt (v7 H 1 x) fun rows => kOpt (vS rows) fun bs => k (.str bs) H
  | _ => none
 | _, _ => none
def qgU (H : AH) (n : Nat) (x : AV) (k : List (List AV) → Option α) : Option α :=
 match x with
 | .nilS => k []
 | .em => k []
 | .sl rows => cond (qad n rows) (k rows) none
 | .ms id off len => kBlk H id fun sz rs => cond (qqz sz n && qqB (off + len) rs.length) (k ((rs.drop off).take len)) none
 | _ => none
def kSrc (isStr : Bool) (H : AH) (n : Nat) (x : AV) (k : List (List AV) → Option α) : Option α :=
 cond isStr (kStr x fun b => cond (qqz n 1) (k (ya b)) none) (qgU H n x k)
def qkN (cfg : Cfg) (t : TypeId) : Bool := match cfg.td t with | some .str => true | _ => false
def qgW (cfg : Cfg) (nid : Option Nat) (t xt : TypeId) (s x : AV) (H : AH) (k : KH α) : Option α :=
 match cfg.td t, cfg.td xt with
 | some (.slice e), some xd =>
  match cfg.ty e with
  | some ei =>
   cond (xd.notInt && Nat.blt 0 ei.sz && qqz ei.zero.length ei.sz)
    (kSrc (qkN cfg xt) H ei.sz x fun news =>
     match s with
     | .nilS => cond news.isEmpty (k .nilS H) (cond (yY news.length ei.bytes) (kNew nid H (.rows (vJ H x) ei.sz news) fun i H' => k (.ms i 0 news.length) H') none)
     | .ms id off len => qec H id fun d sz rs => cond (qqz sz ei.sz && qqB (off + len) rs.length && yY (len + news.length) ei.bytes)
       (kNew nid (H.set id .dead) (.rows (d && vJ H x) sz ((rs.drop off).take len ++ news)) fun i H' => k (.ms i 0 (len + news.length)) H') none
     | _ => none) none
  | none => none
 | _, _ => none
def kLen (cfg : Cfg) (t : TypeId) (x : AV) (H : AH) (k : KV α) : Option α :=
 match cfg.td t with
 | some .str => kStr x fun s => k (.int .i64 s.length)
 | some (.slice _) => (match x with | .nilS => k (.int .i64 0) | .em => k (.int .i64 0) | .sl rows => k (.int .i64 rows.length) | .ms _ _ len => k (.int .i64 len) | .lsl rows => k (.int .i64 rows.length) | .rsl _ rows => k (.int .i64 rows.length) | _ => none)
 | some (.array n _) => k (.int .i64 n)
 | some (.map _ _) => (match x with | .nilM => k (.int .i64 0) | .mp id => (kOpt H[id]? fun b => match b with | .mp es => k (.int .i64 es.length) | _ => none) | _ => none)
 | _ => none
def qhT (cfg : Cfg) (nid : Option Nat) (t : TypeId) (len cap : AV) (H : AH) (k : KH α) : Option α :=
 match cfg.td t with
 | some (.slice e) =>
  match cfg.ty e with
  | some ei =>
   cond (xN ei) (kInt .i64 len fun n => kInt .i64 cap fun c =>
    cond (qg 0 n && qg n c && qg (c * ei.bytes) 140737488355328 && qg c 9223372036854775807) (kNew nid H (.rows true ei.sz (qqG n.toNat ei.zero)) fun i H' => k (.ms i 0 n.toNat) H') none) none
  | none => none
 | _ => none
def qiU (cfg : Cfg) (nid : Option Nat) (t : TypeId) (len cap : AV) (H : AH) (k : KH α) : Option α :=
 match cfg.wrt t with
 | false => qhT cfg nid t len cap H k
 | true =>
  match len, cap with
  | .int _ n, .int _ c => cond (decide (n = c)) (qhT cfg nid t len cap H fun v H' => match v with | .ms id off l => k (.wr l (.ms id off l)) H' | _ => none) none
  | _, _ => none
def kCap (cfg : Cfg) (t : TypeId) (x : AV) (k : KV α) : Option α :=
 match cfg.td t with
 | some (.slice _) => (match x with | .wr _ v => (match v with | .sl rows => k (.int .i64 rows.length) | .ms _ _ len => k (.int .i64 len) | _ => none) | _ => none)
 | _ => none
def qiZ (cfg : Cfg) (t : TypeId) (x : AV) (H : AH) (k : AH → Option α) : Option α :=
 match cfg.td t with
 | some (.slice e) =>
  match x with
  | .nilS => k H
  | .ms id off len =>
   match cfg.ty e with
   | some ei => qec H id fun d sz rs => cond (xN ei && qqz sz ei.sz && qqB (off + len) rs.length) (k (H.set id (.rows d sz (rs.take off ++ qqG len ei.zero ++ rs.drop (off + len))))) none
   | none => none
  | _ => none
 | _ => none
def qlJ (cfg : Cfg) (t xt : TypeId) (d s : AV) (H : AH) (k : KH α) : Option α :=
 match cfg.td t with
 | some (.slice e) =>
  match d with
  | .ms id off len =>
   match cfg.sz e with
   | some n => qec H id fun d sz rs => kSrc (qkN cfg xt) H n s fun news => cond (qqz sz n && qqB (off + len) rs.length && Nat.blt 0 sz)
     (k (.int .i64 (Nat.min news.length len)) (H.set id (.rows (d && vJ H s) sz (rs.take off ++ news.take len ++ rs.drop (off + (news.take len).length))))) none
   | none => none
  | _ => none
 | _ => none
def kOp (cfg : Cfg) (nid : Option Nat) (o : Op) (ty : TypeId) (x : Operand → AV) (H : AH) (k : KH α) : Option α :=
 match o with
 | .move a | .assign a => k (x a) H
 | .pick c a b => q6 (x c) fun t => qlF t (x a) (x b) fun v => k v H
 | .alloc t =>
  match cfg.ty t with
  | some ti => cond (vh ti.zero) (kNew nid H (zh cfg t ti.zero) fun i H' => k (.ptr i 0 0) H') none
  | none => none
 | .box t a => zS (ql6 cfg t) (x a) fun cs => kNew nid H (qbb cfg t cs) fun i H' => k (.ptr i 0 0) H'
 | .build t parts =>
  match cfg.ty t with
  | some ti =>
   cond (vh ti.zero)
    (match ti.d with
    | .struct fs =>
     match qd7 cfg fs with
     | some ps => qfZ (fun i => ps[i]?) ti.zero (parts.toList.map fun p => (p.1, x p.2)) fun cs => k (.agg (cfg.fga t cs)) H
     | none => none
    | .array _ e =>
     match cfg.sz e with
     | some n => qfZ (fun i => some (i * n, n, ql6 cfg e)) ti.zero (parts.toList.map fun p => (p.1, x p.2)) fun cs => k (.agg cs) H
     | none => none
    | _ => none) none
  | none => none
 | .buildSlice t len parts =>
  match cfg.td t with
  | some (.slice e) =>
   match cfg.ty e with
   | some ei =>
    cond (xN ei && qqB (len * ei.sz) 16777216)
     (qhR ei.d.agg ei.sz (qqG len ei.zero) (parts.toList.map fun p => (p.1, x p.2)) fun rows => kNew nid H (.rows (ql 0 rows) ei.sz rows) fun i H' => k (.ms i 0 len) H') none
   | none => none
  | _ => none
 | .load t a =>
  match cfg.ty t with
  | some ti => match x a with
   | .lpt cs off => zX ti.d.agg ti.sz cs off fun v => kTy cfg.dat cfg t v fun v => cond ti.d.agg (k v.lendA H) (k v.lend H)
   | .rpt id cs off => kOpt H[id]? fun b => match b with
    | .reg => zX ti.d.agg ti.sz cs off fun v => kTy cfg.dat cfg t v fun v => cond ti.d.agg (k (v.regA id) H) (k (v.regn id) H)
    | _ => qfV ti.d.agg ti.sz H (.rpt id cs off) fun v => k v H
   | p => qfV ti.d.agg ti.sz H p fun v => kTy (qqb cfg H p) cfg t v fun v => k v H
  | none => none
 | .store t a v =>
  match cfg.ty t with
  | some ti => qiP ti.d.agg ti.sz H (x a) (x v) fun H' => k .junk H'
  | none => none
 | .nilCheck a => qdz (x a) fun v => k v H
 | .binOp op t a b _ => kOpt (aBin cfg (litN a b) op t (x a) (x b)) fun v => kTy noTy cfg ty v fun v => k v H
 | .unOp op _ a => kOpt (aUn op (x a)) fun v => kTy noTy cfg ty v fun v => k v H
 | .convert s d a => qeU cfg nid s d (x a) H k
 | .makeFunc f first caps => k (.fn f (first.toList.map x) (caps.toList.map x)) H
 | .makeSlice t l c => qiU cfg nid t (x l) (x c) H k
 | .slice t a lo hi mx => qiQ cfg t H (x a) (lo.map x) (hi.map x) (mx.map x) fun v => k v H
 | .fieldAddr t a f => qcB cfg t (x a) f fun v => k v H
 | .field t a f => qiY cfg t (x a) f fun v => kTy noTy cfg ty v fun v => k v H
 | .indexAddr t a i => qcv cfg t H (x a).unwr (x i) fun v => k v H
 | .index t a i => qiX cfg t (x a) (x i) fun v => kTy noTy cfg ty v fun v => k v H
 | .extract t i => (match x t with | .tup vs => kOpt vs[i]? fun v => kTy noTy cfg ty v fun v => k v H | _ => none)
 | .call c =>
  match c.callee with
  | .builtin b =>
   match b, c.args.toList, c.argTypes.toList with
   | .len, [a], [t] => kLen cfg t (x a).unwr H fun v => k v H
   | .cap, [a], [t] => kCap cfg t (x a) fun v => k v H
   | .append, [s, a], [t, xt] => qgW cfg nid t xt (x s) (x a) H k
   | .copy, [d, s], [t, xt] => qlJ cfg t xt (x d).unwr (x s) H k
   | .clear, [a], [t] => qiZ cfg t (x a) H fun H' => k (.tup []) H'
   | .min, [a, b], _ => kOpt (aMin (fun b a => decide (b < a)) [x a, x b]) fun v => kTy noTy cfg ty v fun v => k v H
   | .max, [a, b], _ => kOpt (aMin (fun b a => decide (a < b)) [x a, x b]) fun v => kTy noTy cfg ty v fun v => k v H
   | _, _, _ => none
  | _ => none
 | _ => none
def qfY (g s : Bool) (H : AH) (v : AV) (k : KV α) : Option α :=
 match v with
 | .ms id off len => kBlk H id fun _ rs => cond (qqB (off + len) rs.length && (vE H id || ql 0 ((rs.drop off).take len))) (k (.sl ((rs.drop off).take len))) none
 | .nilS => k (cond g (.sl []) .nilS)
 | .em => k (cond g (.sl []) .em)
 | .wr n v => (match v with | .sl rows => k (cond g (.sl (rows.take n)) (.wr n (.sl rows))) | _ => none)
 | .ptr id r off => cond s (kBlk H id fun _ rs => kOpt rs[r]? fun row => cond (qk 0 row) (k (.cptr row off)) none) (k (.ptr id r off))
 | .rsl id rows => cond s (kOpt H[id]? fun b => match b with | .reg => k (.sl rows) | _ => none) (k (.rsl id rows))
 | a => k a
def y9 (g s : Bool) (H : AH) : List AV → (List AV → Option α) → Option α
 | [], k => k []
 | a :: l, k => qfY g s H a fun a => y9 g s H l fun l => k (a :: l)
def qcy (s : Bool) (H : AH) (v : AV) (k : KV α) : Option α :=
 match v with
 | .agg cs => y9 true s H cs fun cs => k (.agg cs)
 | .tup cs => cond s (k ((AV.tup cs).fg)) (y9 true s H cs fun cs => k (.tup cs))
 | .fn f a b => cond s (y9 false s H a fun a => y9 false s H b fun b => k (.fn f a b)) (k (.fn f a b))
 | a => qfY true s H a k
def qlG (H : AH) (v : AV) (k : KV α) : Option α :=
 match v with
 | .agg cs => y9 false false H cs fun cs => k (.agg cs)
 | .tup cs => y9 false false H cs fun cs => k (.tup cs)
 | a => qfY false false H a k
def qdA (H : AH) : List AV → (List AV → Option α) → Option α
 | [], k => k []
 | a :: l, k => qlG H a fun a => qdA H l fun l => k (a :: l)
def qhX (H : AH) : List AV → (List AV → Option α) → Option α
 | [], k => k []
 | a :: l, k => qcy true H a fun a => qhX H l fun l => k (a :: l)
inductive OV where
 | nil
 | own (sz : Nat) (rs : List (List AV)) (off len : Nat)
def ovOf (r : AV × AH) : Option OV :=
 match r.1 with
 | .nilS => some .nil
 | .ms id off len =>
  match r.2[id]? with
  | some (.rows d sz rs) => if d || ql 0 rs then some (.own sz rs off len) else none
  | _ => none
 | _ => none
def qoH (r : AV × AH) : Option (OV × AV) :=
 match r.1 with
 | .tup [a, s] => cond s.scalar1 (match ovOf (a, r.2) with | some o => some (o, s) | none => none) none
 | _ => none
def EVd (cf : Orac) (f : Nat) (args : List AV) (sz : Nat) (rs : List (List AV)) : Option (AV × List (List AV)) := (cf (.f f) args [.rows true sz rs]).bind (qi7 sz)
def EVx (cf : Orac) (f : Nat) (args : List AV) (sz : Nat) (rs : List (List AV)) : Option (AV × List (List AV)) := (cf (.f f) args [.rows false sz rs]).bind (qio sz)
open Classical in
noncomputable def EVk (cf : Orac) (f : Nat) (args : List AV) (sz : Nat) (rs : List (List AV)) : Option AV := (EVx cf f args sz rs).bind fun q => if q.2 = rs then some q.1 else none
theorem qot {cf : Orac} {f : Nat} {args : List AV} {sz : Nat} {rs : List (List AV)} {v : AV} (h : EVk cf f args sz rs = some v) : EVx cf f args sz rs = some (v, rs) := by
 unfold EVk at h
 obtain ⟨q, h1, h2⟩ := qqk.1 h
 split at h2
 ·rename_i e
  rw [h1, ← Option.some.inj h2, ← e]
 ·cases h2
def EVs (cf : Orac) (f : Nat) (args : List AV) : Option AV := (cf (.f f) args []).map fun r => r.1
def EVf (cf : Orac) (f : Nat) (args : List AV) : Option AV := (cf (.f f) args []).map fun r => (r.1.frz r.1.msIds r.2).fg
def EVo (cf : Orac) (f : Nat) (args : List AV) : Option OV := (cf (.f f) args []).bind ovOf
def EVw (cf : Orac) (f : Nat) (args : List AV) : Option AV := (cf (.f f) args []).map fun r => r.1.frzW r.1.msIdsW r.2
def kWr (v : AV) (k : Nat → List (List AV) → Option α) : Option α :=
 match v with
 | .wr n (.sl rows) => k n rows
 | _ => none
def EVn (cf : Orac) (f : Nat) (args : List AV) : Option AV := (cf (.f f) args []).bind fun r => qhN r.2 r.1
def EVg (cf : Orac) (f : Nat) (args : List AV) : Option AV := (cf (.f f) args []).bind fun r => qfy r.2 r.1
def EVz (cf : Orac) (f : Nat) (a : AV) : Option Unit := (cf (.f f) [a] [.spl]).bind qgR
def EVb (cf : Orac) (f : Nat) (args : List AV) (T e : TypeId) (s : List UInt8) : Option (AV × List UInt8) := (cf (.f f) args [.bld T e s]).bind (qbc T e)
def qf3 (cf : Orac) (f : Nat) : List AV → Option α → Option α
 | [], k => k
 | a :: l, k => kOpt (EVz cf f a) fun _ => qf3 cf f l k
def EVq (cf : Orac) (f : Nat) (args : List AV) : Option (OV × AV) := (cf (.f f) args []).bind qoH
def kOwn (o : OV) (x : Option α) (k : Nat → List (List AV) → Nat → Nat → Option α) : Option α :=
 match o with
 | .nil => x
 | .own sz rs off len => k sz rs off len
inductive MV where
 | unit
 | nil
 | sl (off len : Nat)
 | int (k : IntKind) (n : Int)
 | bool (b : Bool)
def mvOf : AV → Option MV
 | .tup [] => some .unit
 | .nilS => some .nil
 | .ms id off len => if qqz id 0 then some (.sl off len) else none
 | .int k n => some (.int k n)
 | .bool b => some (.bool b)
 | _ => none
def MV.av (id : Nat) : MV → AV
 | .unit => .tup []
 | .nil => .nilS
 | .sl off len => .ms id off len
 | .int k n => .int k n
 | .bool b => .bool b
def EVm (cf : Orac) (f : Nat) (args : List AV) (sz : Nat) (rs : List (List AV)) : Option (MV × List (List AV)) :=
 (cf (.f f) args [.rows true sz rs]).bind fun r => (qiJ sz r).bind fun q => (mvOf q.1).map fun v => (v, q.2)
def EVu (cf : Orac) (f : Nat) (args : List AV) : Option MV := (cf (.f f) args []).bind fun r => if r.1.refsLt 0 then mvOf r.1 else none
def kMSl (v : MV) (x : Option α) (k : Nat → Nat → Option α) : Option α :=
 match v with
 | .nil => x
 | .sl off len => k off len
 | _ => none
def qiV (v : MV) (x : Option α) : Option α :=
 match v with
 | .unit => x
 | _ => none
def qhV (kd : IntKind) (v : MV) (k : Int → Option α) : Option α :=
 match v with
 | .int q n => cond (yA q kd) (k n) none
 | _ => none
def qiW (v : MV) (k : Bool → Option α) : Option α :=
 match v with
 | .bool b => k b
 | _ => none
def qmO (cfg : Cfg) (ty : TypeId) : Nat :=
 match cfg.td ty with
 | some (.slice _) => 1
 | some (.int _) => 2
 | some .bool => 3
 | _ => 0
def qoI (cfg : Cfg) (ty : TypeId) : IntKind :=
 match cfg.td ty with
 | some (.int k) => k
 | _ => .i64
def qhU (kd : Nat) (ik : IntKind) (id : Nat) (v : MV) (k : KV α) : Option α :=
 match kd with
 | 0 => qiV v (k (.tup []))
 | 1 => kMSl v (k .nilS) fun off len => k (.ms id off len)
 | 2 => qhV ik v fun n => k (.int ik n)
 | _ => qiW v fun b => k (.bool b)
noncomputable def qeb (cfg : Cfg) (cf : Orac) (kf : KF α) (nid : Option Nat) (ty : TypeId) (t : Tgt) (args : List AV) (H : AH) (k : KH α) : Option α :=
 match t with
 | .y id => kf (.y id) args H fun r => kOpt (yX nid H.length r.1 r.2) fun r => kTy noTy cfg ty r.1 fun v => k v r.2
 | .f f =>
  match cfg.mode f with
  | .scal => qhX H args fun al => cond (qk 0 al) (match cfg.inl f with
   | some _ => kf (.f f) al [] fun r => kTy noTy cfg ty r.1 fun v => cond v.scalar (k v H) none
   | none => kOpt (EVs cf f al) fun v => kTy noTy cfg ty v fun v => cond v.scalar (k v H) none) none
  | .pfrz => cond (qk 0 (args.map AV.fg)) (match cfg.inl f with
   | some _ => kf (.f f) (args.map AV.fg) [] fun r => qcy false r.2 r.1 fun v => kTy qbt cfg ty v fun v => cond (v.refsLt 0) (k v H) none
   | none => kOpt (EVf cf f (args.map AV.fg)) fun v => kTy qbt cfg ty v fun v => cond (v.refsLt 0) (k v H) none) none
  | .wfrz => cond (qk 0 args) (kOpt (EVw cf f args) fun v => match cfg.td ty with
    | some (.slice _) => kWr v fun n rows => k (.wr n (.sl rows)) H
    | _ => kTy noTy cfg ty v fun v => cond (v.refsLt 0) (k v H) none) none
  | .nfrz => cond (qk 0 (args.map AV.fg)) (kOpt (EVn cf f (args.map AV.fg)) fun V => kTy qbt cfg ty V fun V => k V.lendT H) none
  | .pown => match cfg.tup ty with
   | some [_, t2] => cond (qk 0 args) (kOpt (EVq cf f args) fun q => kTy1 noTy cfg t2 q.2 fun s => kOwn q.1 (k (.tup [.nilS, s]) H) fun sz rs off len => kNew nid H (.rows true sz rs) fun i H' => k (.tup [.ms i off len, s]) H') none
   | _ => cond (qk 0 args) (match cfg.inl f with
   | some _ => kf (.f f) args [] fun r => kOpt (ovOf r) fun o => kOwn o (k .nilS H) fun sz rs off len => kNew nid H (.rows true sz rs) fun i H' => k (.ms i off len) H'
   | none => kOpt (EVo cf f args) fun o => kOwn o (k .nilS H) fun sz rs off len => kNew nid H (.rows true sz rs) fun i H' => k (.ms i off len) H') none
  | .inpl =>
   match qr 0 args with
   | id :: l => cond (vm [id] l) (kOpt H[id]? fun b => match b with
     | .rows d sz rs => cond (d || ql 0 rs) (kOpt (EVm cf f (renL (fun _ => 0) args) sz rs) fun q => qhU (qmO cfg ty) (qoI cfg ty) id q.1 fun v => k v (H.set id (.rows true sz q.2))) none
     | _ => none) none
   | [] => cond (qk 0 args) (kOpt (EVu cf f args) fun v => qhU (qmO cfg ty) (qoI cfg ty) 0 v fun v => k v H) none
  | .imp => kf (.f f) args H fun r => kOpt (yX nid H.length r.1 r.2) fun r => kTy noTy cfg ty r.1 fun v => k v r.2
  | .ifrz => kf (.f f) args H fun r => kOpt (yX nid H.length (r.1.frz r.1.msIds r.2) (qv r.1.msIds r.2)) fun r => kTy noTy cfg ty r.1 fun v => k v r.2
  | .inpf =>
   match qr 0 args with
   | id :: l => cond (vm [id] l) (kOpt H[id]? fun b => match b with
     | .rows d sz rs => cond (d || ql 0 rs) (kOpt (EVd cf f (renL (fun _ => 0) args) sz rs) fun q => kTy qbt cfg ty q.1 fun v => k v (H.set id (.rows true sz q.2))) none
     | _ => none) none
   | [] => none
  | .slf =>
   match qr 0 args with
   | id :: l => cond (vm [id] l) (kOpt H[id]? fun b => match b with
     | .rows _ sz rs => cond (vm [id] (xx 0 rs)) (kOpt (EVk cf f (renL (fun _ => 0) args) sz (renR (fun _ => 0) rs)) fun q => kTy qbt cfg ty q fun v => k v (H.set id (.rows false sz (renR (fun _ => id) (renR (fun _ => 0) rs))))) none
     | _ => none) none
   | [] => none
  | .rgn => cond (qk 0 (args.map AV.fg)) (kOpt (EVg cf f (args.map AV.fg)) fun V => kTy qbt cfg ty V fun V => kNew nid H .reg fun i H' => k (rgIn i V) H') none
  | .over =>
   match args with
   | [a] =>
    (match qr 0 a.alts with
    | id :: l => cond (vm [id] l) (kOpt H[id]? fun b => match b with
      | .reg => qf3 cf f (renL (fun _ => 0) a.alts) (k (.tup []) (H.set id .spl))
      | .spl => qf3 cf f (renL (fun _ => 0) a.alts) (k (.tup []) H)
      | _ => none) none
    | [] => none)
   | _ => none
  | .bld =>
   match qr 0 args with
   | id :: l => cond (vm [id] l) (kOpt H[id]? fun b => match b with
     | .bld T e s => kOpt (EVb cf f (renL (fun _ => 0) args) T e s) fun q => kTy qbt cfg ty q.1 fun v => k v (H.set id (.bld T e q.2))
     | _ => none) none
   | [] => none
  | .sub => kOpt (qbg H args) fun s => kf (.f f) (renL (vG 0 s.1) args) s.2 fun r => kOpt (qfq s.1.length r) fun q => kOpt (xq nid H (q.2.length - s.1.length)) fun p => kTy noTy cfg ty (q.1.ren (xi (s.1 ++ p.1))) fun v => k v (yf p.2 (s.1 ++ p.1) q.2)
def kTgt (f : AV) (args : List AV) (k : Tgt → List AV → Option α) : Option α :=
 match f with
 | .fn (.func g) first caps => k (.f g) (first ++ args ++ caps)
 | .yld id => k (.y id) args
 | _ => none
def opEq : Operand → Operand → Bool
 | .tmp a, .tmp b => qqz a b
 | _, _ => false
def frzX : List Operand → List AV → (Operand → AV) → Operand → AV
 | b :: l, v :: al, x, a => cond (opEq b a) v (frzX l al x a)
 | _, _, x, a => x a
noncomputable def qhW (cfg : Cfg) (nid : Option Nat) (o : Oper) (x : Operand → AV) (H : AH) (k : KH α) : Option α :=
 qdA H (o.op.operands.toList.map x) fun al =>
  kOp cfg nid o.op o.type (frzX o.op.operands.toList al fun a => (x a).frz (o.op.operands.toList.flatMap fun a => (x a).msIds) H) (qv (o.op.operands.toList.flatMap fun a => (x a).msIds) H) k
noncomputable def qhS (cfg : Cfg) (cf : Orac) (kf : KF α) (frz : Bool) (nid : Option Nat) (o : Oper) (x : Operand → AV) (H : AH) (k : KH α) : Option α :=
 cond frz
  (match o.op with
   | .call c =>
    match c.callee with
    | .value f => qdA H (c.args.toList.map x) fun al => kTgt ((x f).frz (o.op.operands.toList.flatMap fun a => (x a).msIds) H) al fun t al =>
      qeb cfg cf kf nid o.type t al (qv (o.op.operands.toList.flatMap fun a => (x a).msIds) H) k
    | _ => qhW cfg nid o x H k
   | _ => qhW cfg nid o x H k)
  (match o.op with
   | .call c =>
    match c.callee with
    | .value f => kTgt (x f) (c.args.toList.map x) fun t al => qeb cfg cf kf nid o.type t al H k
    | _ => kOp cfg nid o.op o.type x H k
   | _ => kOp cfg nid o.op o.type x H k)
def qd9 (ops : Array Oper) (fr : List AV) (o : Oper) (k : Bool → List AV → Option α) : Option α :=
 match o.guard with
 | none => k true fr
 | some (j, want) =>
  match (ops[j]?).bind (·.dst) with
  | some d => kOpt fr[d]? fun v => match v with
   | .tup l => (match l with | [] => k false fr | _ => none)
   | v => q6 v fun b => cond b (k want (fr.set d (.bool true))) (k (!want) (fr.set d (.bool false)))
  | none => none
noncomputable def kOps (cfg : Cfg) (cf : Orac) (kf : KF α) (f rid : Nat) (ops : Array Oper) : Nat → List Oper → List AV → AH → (List AV → AH → Option α) → Option α
 | _, [], fr, H, k => k fr H
 | n, o :: rest, fr, H, k => qd9 ops fr o fun b fr =>
   cond b (qhS cfg cf kf (cfg.frz f rid n) none o (opd fr) H fun v H' => kOps cfg cf kf f rid ops (n + 1) rest (put fr o.dst v) H' k) (kOps cfg cf kf f rid ops (n + 1) rest (put fr o.dst (.tup [])) H k)
noncomputable def qf1 (cfg : Cfg) (cf : Orac) (kf : KF α) (f rid : Nat) (ops : Array Oper) : Nat → Nat → List Oper → List AV → AH → (List DR → List AV → AH → Option α) → Option α
 | _, _, [], fr, H, k => k [] fr H
 | n, at_, o :: rest, fr, H, k => qd9 ops fr o fun b fr =>
   cond b
    (qhS cfg cf kf (cfg.frz f rid n) (some at_) o (opd fr) H fun v H' =>
     qf1 cfg cf kf f rid ops (n + 1) (at_ + qag cfg o) rest (put fr o.dst v) H' fun fps fr' H'' => k (drOf cfg (cfg.frz f rid n) at_ o (opd fr) H v H' :: fps) fr' H'')
    (qf1 cfg cf kf f rid ops (n + 1) (at_ + qag cfg o) rest (put fr o.dst (.tup [])) H fun fps fr' H'' => k (drNo H :: fps) fr' H'')
open Classical in
noncomputable def CUT {β : Type} (p : β) : Option β := if ∃ q : β, some q = some p then some p else none
theorem qpX {β : Type} (p : β) : CUT p = some p := if_pos ⟨p, rfl⟩
noncomputable def qb1 (ts : Option (List Tmp)) (fr : List AV) (H : AH) (g : List AV → AH → Option α) : Option α :=
 match ts with
 | none => g fr H
 | some ks => kOpt (CUT (qO (some ks) fr, H)) fun p => g p.1 p.2
theorem qkk {ts : Option (List Tmp)} {fr : List AV} {H : AH} {g : List AV → AH → Option α} {r : α} (h : qb1 ts fr H g = some r) : g (qO ts fr) H = some r := by
 cases ts with
 | none => exact h
 | some ks =>
  have h : kOpt (CUT (qO (some ks) fr, H)) (fun p => g p.1 p.2) = some r := h
  rw [qpX] at h
  exact h
def kSeq (nx : List AV → AH → Option α) (k : KE α) : KE α := fun e fr H =>
 match e with
 | .normal => nx fr H
 | e => k e fr H
def yi (id : Nat) (k : KE α) : KE α := fun e fr H =>
 match e with
 | .exit id' => cond (qqz id' id) (k .normal fr H) (k (.exit id') fr H)
 | e => k e fr H
def qdw (k : KE α) : KE α := fun e fr H =>
 match e with
 | .goto _ => none
 | e => k e fr H
def kAft (ts : Option (List Tmp)) (k : KE α) (r : Ex × List AV × AH) : Option α := k r.1 (qO ts r.2.1) r.2.2
def known (fr : List AV) (c : Operand) (b : Bool) : List AV :=
 match c with
 | .tmp d => fr.set d (.bool b)
 | _ => fr
def qoL (b : ABlk) (k : Option Code → Option α) : Option α :=
 match b with
 | .loop _ _ _ _ _ pend st => (match st with | .busy => none | _ => k pend)
 | _ => none
def qiS (pend : Option Code) (k : KE α) (fr : List AV) (H : AH) : Option α :=
 match pend with
 | none => k .normal fr H
 | some c => (match c with | .ret => k .ret fr H | .exit id => k (.exit id) fr H | _ => none)
def qbo (bs n : Nat) (fr : List AV) (k : KE α) (H : AH) : Option α :=
 kOpt H[n]? fun b => qoL b fun pend => qiS pend k (gc bs fr (H.set n .dead)).1 (gc bs fr (H.set n .dead)).2
def qmV (cfg : Cfg) (_cf : Orac) (kf : KF α) (f : Nat) (rd : Option Nat) (bs : Nat) (g : AV) (ps : List Tmp) (assign body : Code) (fr : List AV) (H : AH) (k : KE α) : Option α :=
 cond (qiB rd H)
  (match g with
   | .fn (.func h) first caps => cond (cfg.ext h).isNone
     (kf (.f h) (first ++ [.yld H.length] ++ caps) (H ++ [.loop f (qO (cfg.keepIn f (qe body)) fr) ps assign body none .ready]) fun r =>
      qbo bs H.length (qO (cfg.keepOut f (qe body)) fr) k r.2) none
   | _ => none) none
noncomputable def q5 (cfg : Cfg) (cf : Orac) (kf : KF α) (f : Nat) (rd : Option Nat) (bs : Nat) : Code → List AV → AH → KE α → Option α
 | .skip, fr, H, k => k .normal fr H
 | .label _, fr, H, k => k .normal fr H
 | .region id ops draw, fr, H, k =>
  cond draw
   (cond (x9 ops)
    (qf1 cfg cf kf f id ops 0 H.length ops.toList fr (H ++ qqG (places cfg ops.toList) .res) fun fps fr' H' => cond (qaJ (ancs [] ops.toList) (H ++ qqG (places cfg ops.toList) .res) fps) (k .normal fr' H') none) none)
   (kOps cfg cf kf f id ops 0 ops.toList fr H fun fr' H' => k .normal fr' H')
 | .seq a b, fr, H, k => q5 cfg cf kf f rd bs a fr H (kSeq (fun fr H => qb1 (cfg.cut f (qe b)) fr H fun fr H => q5 cfg cf kf f rd bs b fr H k) k)
 | .cond c a b, fr, H, k => q6 (opd fr c) fun t => cond t (q5 cfg cf kf f rd bs a (known fr c true) H k) (q5 cfg cf kf f rd bs b (known fr c false) H k)
 | .block id a, fr, H, k => q5 cfg cf kf f rd bs a fr H (yi id k)
 | .loop a, fr, H, k => kOpt (LOOP bs (cfg.keepIn f (qe a)) (cfg.lift f (qe a)) (evC cfg cf f rd bs a) (xa bs (cfg.keepIn f (qe a)) (cfg.lift f (qe a)) fr H)) (kAft (cfg.keepOut f (qe a)) k)
 | .scope a, fr, H, k => q5 cfg cf kf f rd bs a fr H (qdw k)
 | .exit id, fr, H, k => k (.exit id) fr H
 | .goto _, _, _, _ => none
 | .ret, fr, H, k => k .ret fr H
 | .rangeFunc g ps assign body, fr, H, k => qmV cfg cf kf f rd bs (opd (qJ (cfg.lift f (qe body)) fr H).1 g) ps.toList assign body (qJ (cfg.lift f (qe body)) fr H).1 (qJ (cfg.lift f (qe body)) fr H).2 k
 | .refuse _, _, _, _ => none
inductive Ko where
 | seq (c : Code)
 | block (id : Nat)
 | scope
noncomputable def kRun (cfg : Cfg) (cf : Orac) (kf : KF α) (f : Nat) (rd : Option Nat) (bs : Nat) (k : KE α) : List Ko → KE α
 | [] => k
 | .seq c :: s => kSeq (fun fr H => qb1 (cfg.cut f (qe c)) fr H fun fr H => q5 cfg cf kf f rd bs c fr H (kRun cfg cf kf f rd bs k s)) (kRun cfg cf kf f rd bs k s)
 | .block id :: s => yi id (kRun cfg cf kf f rd bs k s)
 | .scope :: s => qdw (kRun cfg cf kf f rd bs k s)
def kRes (cfg : Cfg) (fr : List AV) (H : AH) : List ResultVar → (List AV → Option α) → Option α
 | [], k => k []
 | .tmp t :: l, k => kRes cfg fr H l fun vs => k (fr.getD t .junk :: vs)
 | .cell a t :: l, k =>
  match cfg.ty t with
  | some ti => qfV ti.d.agg ti.sz H (fr.getD a .junk) fun v => kTy noTy cfg t v fun v => kRes cfg fr H l fun vs => k (v :: vs)
  | none => none
variable {α : Type} {r : α} {H : AH}
theorem qc {b : Bool} {x : Option α} (h : cond b x none = some r) : b = true ∧ x = some r := by cases b <;> simp_all
theorem ql1 {b : Bool} {x : Option α} (h : cond b none x = some r) : b = false ∧ x = some r := by cases b <;> simp_all
theorem vX {b : Bool} {x y : Option α} (h : cond b x y = some r) : (b = true ∧ x = some r) ∨ (b = false ∧ y = some r) := by cases b <;> simp_all
theorem qdt {a b : IntKind} (h : yA a b = true) : a = b := by simpa [yA] using h
theorem qT {a b : Int} : qg a b = true ↔ a ≤ b := by simp [qg]
theorem yz {a b : Int} : qz a b = true ↔ a < b := by simp [qz]
theorem qah {kd : IntKind} {v : AV} {k : Int → Option α} (h : kInt kd v k = some r) : ∃ n, v = .int kd n ∧ k n = some r := by
 unfold kInt at h
 split at h
 ·obtain ⟨h1, h2⟩ := qc h
  rw [qdt h1]; exact ⟨_, rfl, h2⟩
 ·cases h
theorem qaA {v : AV} {k : Bool → Option α} (h : q6 v k = some r) : ∃ b, v = .bool b ∧ k b = some r := by
 unfold q6 at h; split at h
 ·exact ⟨_, rfl, h⟩
 ·cases h
theorem yB {v : AV} {k : List UInt8 → Option α} (h : kStr v k = some r) : ∃ b, v = .str b ∧ k b = some r := by
 unfold kStr at h; split at h
 ·exact ⟨_, rfl, h⟩
 ·cases h
theorem qbp {v : AV} {k : List AV → Option α} (h : kAgg v k = some r) : ∃ b, v = .agg b ∧ k b = some r := by
 unfold kAgg at h; split at h
 ·exact ⟨_, rfl, h⟩
 ·cases h
theorem qi {β : Type} {o : Option β} {k : β → Option α} (h : kOpt o k = some r) : ∃ b, o = some b ∧ k b = some r := by
 unfold kOpt at h; split at h
 ·exact ⟨_, rfl, h⟩
 ·cases h
theorem yO {l : List AV} {k : AV → List AV → Option α} (h : q8 l k = some r) : ∃ a b, l = a :: b ∧ k a b = some r := by
 unfold q8 at h; split at h
 ·exact ⟨_, _, rfl, h⟩
 ·cases h
theorem qdy {l : List AV} {x : Option α} (h : kNil l x = some r) : l = [] ∧ x = some r := by
 unfold kNil at h; split at h
 ·exact ⟨rfl, h⟩
 ·cases h
theorem qeA {s : FK} {v : AV} {k : KV α} (h : zB s v k = some r) : k v = some r := by
 cases s with
 | int kd => obtain ⟨n, rfl, h1⟩ := qah h; exact h1
 | bool => obtain ⟨n, rfl, h1⟩ := qaA h; exact h1
 | str => obtain ⟨n, rfl, h1⟩ := yB h; exact h1
 | sl =>
  have h : kSl v (fun rows => k (.sl rows)) = some r := h
  unfold kSl at h
  split at h
  ·exact h
  ·cases h
 | any => exact h
theorem qbC : ∀ {ss : List FK} {l : List AV} {k : List AV → Option α}, zC ss l k = some r → k l = some r
 | [], l, k, h => by
  obtain ⟨rfl, h1⟩ := qdy h
  exact h1
 | s :: ss, l, k, h => by
  obtain ⟨a, b, rfl, h1⟩ := yO h
  exact qbC (k := fun vs => k (a :: vs)) (qeA (k := fun v => zC ss b fun vs => k (v :: vs)) h1)
theorem qlK {l0 : List AV} {k : List AV → Option α} (h0 : zC [.int .i64, .int .i64, .str, .sl] l0 k = some r) : zN l0 = true ∧ k l0 = some r := by
 refine ⟨?_, qbC h0⟩
 simp only [zC] at h0
 obtain ⟨a, l1, rfl, h1⟩ := yO h0
 obtain ⟨n, rfl, h2⟩ := qah (k := fun n => q8 l1 fun c cs => zB (.int .i64) c fun v => q8 cs fun c cs => zB .str c fun v1 => q8 cs fun c cs => zB .sl c fun v2 => kNil cs (k [.int .i64 n, v, v1, v2])) h1
 obtain ⟨a, l2, rfl, h3⟩ := yO h2
 obtain ⟨m, rfl, h4⟩ := qah (k := fun m => q8 l2 fun c cs => zB .str c fun v1 => q8 cs fun c cs => zB .sl c fun v2 => kNil cs (k [.int .i64 n, .int .i64 m, v1, v2])) h3
 obtain ⟨a, l3, rfl, h5⟩ := yO h4
 obtain ⟨s, rfl, h6⟩ := yB (k := fun s => q8 l3 fun c cs => zB .sl c fun v2 => kNil cs (k [.int .i64 n, .int .i64 m, .str s, v2])) h5
 obtain ⟨a, l4, rfl, h7⟩ := yO h6
 have h8 : kSl a (fun rows => kNil l4 (k [.int .i64 n, .int .i64 m, .str s, .sl rows])) = some r := h7
 unfold kSl at h8
 split at h8
 ·obtain ⟨rfl, _⟩ := qdy h8
  rfl
 ·cases h8
theorem qdv {p : TypeId → Bool} {cfg : Cfg} {t : TypeId} {v : AV} {k : KV α} (h : kTy1 p cfg t v k = some r) : k v = some r := by
 unfold kTy1 at h
 have agg : ∀ {ss : List FK}, (kAgg v fun cs => zC ss cs fun vs => k (.agg vs)) = some r → k v = some r := by
  intro ss h
  obtain ⟨cs, rfl, h⟩ := qbp h
  exact qbC (k := fun vs => k (.agg vs)) h
 split at h
 ·split at h
  ·split at h
   ·exact agg h
   ·exact h
  ·split at h
   ·exact agg h
   ·exact h
  ·exact qeA h
 ·exact h
theorem qhl {p : TypeId → Bool} {cfg : Cfg} : ∀ {ts : List TypeId} {l : List AV} {k : List AV → Option α}, kTys p cfg ts l k = some r → k l = some r
 | [], l, k, h => by
  rw [kTys] at h
  obtain ⟨h1, h2⟩ := qdy h
  rw [h1]; exact h2
 | t :: ts, l, k, h => by
  rw [kTys] at h
  obtain ⟨a, b, rfl, h⟩ := yO h
  have h1 := qdv (k := fun v => kTys p cfg ts b fun vs => k (v :: vs)) h
  exact qhl (k := fun vs => k (a :: vs)) h1
theorem qF {p : TypeId → Bool} {cfg : Cfg} {t : TypeId} {v : AV} {k : KV α} (h : kTy p cfg t v k = some r) : k v = some r := by
 unfold kTy at h
 split at h
 ·unfold kTup at h
  split at h
  ·exact qhl (k := fun vs => k (.tup vs)) h
  ·cases h
 ·exact qdv h
theorem xg {nid : Option Nat} {b : ABlk} {k : Nat → AH → Option α} (h : kNew nid H b k = some r) : ∃ i H', aNew nid H b = some (i, H') ∧ k i H' = some r := by
 unfold kNew at h
 unfold aNew
 cases nid with
 | none => exact ⟨_, _, rfl, h⟩
 | some i =>
  simp only at h ⊢
  obtain ⟨x, hx, h⟩ := qi h
  rw [hx]
  split at h
  ·exact ⟨_, _, rfl, h⟩
  ·cases h
theorem qi1 {v : AV} (h : v.isCell = true) : v.cells = some [v] := by cases v <;> simp_all [AV.isCell, AV.cells]
theorem za {agg : Bool} {v : AV} {k : List AV → Option α} (h : zS agg v k = some r) : ∃ cs, v.cells = some cs ∧ k cs = some r := by
 unfold zS at h
 rcases vX h with ⟨_, h⟩ | ⟨_, h⟩
 ·obtain ⟨cs, rfl, h⟩ := qbp h
  obtain ⟨h1, h2⟩ := qc h
  exact ⟨cs, by simp [AV.cells, h1], h2⟩
 ·obtain ⟨h1, h2⟩ := qc h
  exact ⟨_, qi1 h1, h2⟩
theorem qlE {t : Bool} {a b : AV} {k : KV α} (h : qlF t a b k = some r) : k (if t then a else b) = some r := by
 have sp : ∀ {a b : AV}, cond t (k a) (k b) = some r → k (if t then a else b) = some r := by
  intro a b h
  cases t <;> simpa using h
 unfold qlF at h
 split at h
 ·cases t <;> simpa using h
 ·rcases vX h with ⟨h1, h⟩ | ⟨_, h⟩
  ·have := qdt h1; subst this
   cases t <;> simpa using h
  ·exact sp h
 ·exact sp h
theorem qcA {place : Nat → Option (Nat × Nat × Bool)} {place' : Nat → Option (Nat × Nat)} (hp : ∀ i off n g, place i = some (off, n, g) → place' i = some (off, n)) : ∀ {parts : List (Nat × AV)} {cells : List AV} {k : List AV → Option α},
  qfZ place cells parts k = some r → ∃ cs, z8 place' cells parts = some cs ∧ k cs = some r
 | [], cells, k, h => ⟨cells, rfl, h⟩
 | (i, v) :: rest, cells, k, h => by
  rw [qfZ] at h
  split at h
  ·rename_i off n g hi
   obtain ⟨cs, h1, h⟩ := za h
   obtain ⟨h2, h⟩ := qc h
   obtain ⟨cs', h3, h4⟩ := qcA hp h
   refine ⟨cs', ?_, h4⟩
   rw [qqi] at h2
   rw [z8, hp _ _ _ _ hi, h1]
   simp only
   rw [if_pos]
   ·exact h3
   ·rw [qqi, beq_iff_eq]
    exact ⟨qqn h2.1, h2.2⟩
  ·cases h
theorem qfF {cfg : Cfg} : ∀ {fs : List (Nat × TypeId)} {ps : List (Nat × Nat × Bool)}, qd7 cfg fs = some ps → ∃ qs, yy cfg fs = some qs ∧ ∀ (i off n : Nat) (g : Bool), ps[i]? = some (off, n, g) → qs[i]? = some (off, n)
 | [], ps, h => by cases h; exact ⟨[], rfl, fun i off n g h => by simp at h⟩
 | (off, t) :: l, ps, h => by
  rw [qd7] at h
  split at h
  ·rename_i n ps' h1 h2
   cases h
   obtain ⟨qs, h3, h4⟩ := qfF h2
   refine ⟨(off, n) :: qs, by rw [yy, h1, h3], fun i o m g hi => ?_⟩
   cases i with
   | zero => simp at hi ⊢; exact ⟨hi.1, hi.2.1⟩
   | succ i => simpa using h4 i o m g (by simpa using hi)
  ·cases h
theorem qfS {agg : Bool} {n : Nat} : ∀ {parts : List (Nat × AV)} {rows : List (List AV)} {k : List (List AV) → Option α}, qhR agg n rows parts k = some r → ∃ rs, zJ n rows parts = some rs ∧ k rs = some r
 | [], rows, k, h => ⟨rows, rfl, h⟩
 | (i, v) :: rest, rows, k, h => by
  rw [qhR] at h
  obtain ⟨cs, h1, h⟩ := za h
  obtain ⟨h2, h⟩ := qc h
  obtain ⟨rs, h3, h4⟩ := qfS h
  refine ⟨rs, ?_, h4⟩
  rw [qqi] at h2
  rw [zJ, h1]
  simp only
  rw [if_pos]
  ·exact h3
  ·rw [qqi, beq_iff_eq]
   exact ⟨qqn h2.1, h2.2⟩
theorem zo {id : Nat} {k : Nat → List (List AV) → Option α} (h : kBlk H id k = some r) : ∃ sz rs, qx H id = some (sz, rs) ∧ k sz rs = some r := by
 unfold kBlk at h
 obtain ⟨b, hb, h⟩ := qi h
 unfold qx
 rw [hb]
 split at h
 ·exact ⟨_, _, rfl, h⟩
 ·exact ⟨_, _, rfl, h⟩
 ·cases h
theorem zA {g s : Bool} {v : AV} {k : KV α} (h : qfY g s H v k = some r) : (∀ ids, (∀ id off len, v = .ms id off len → id ∈ ids) → s = false → k (cond g (v.frz1 ids H).fg1 (v.frz1 ids H)) = some r) ∧ (s = true → k (cond g (v.snap1 H).fg1 (v.snap1 H)) = some r) := by
 unfold qfY at h
 split at h
 ·rename_i id off len
  obtain ⟨sz, rs, h1, h⟩ := zo h
  rcases hc : (qqB (off + len) rs.length && (vE H id || ql 0 ((rs.drop off).take len))) with _ | _
  ·rw [hc] at h; cases h
  ·rw [hc] at h
   have h : k (.sl ((rs.drop off).take len)) = some r := h
   have aux : ∀ ids : List Nat, id ∈ ids → (AV.ms id off len).frz1 ids H = .sl ((rs.drop off).take len) := by
    intro ids hi
    simp only [AV.frz1, h1]
    rw [if_pos]
    rw [Bool.and_assoc, hc, Bool.and_true]
    exact qM.2 hi
   refine ⟨fun ids hi _ => ?_, fun _ => ?_⟩
   ·rw [aux ids (hi _ _ _ rfl)]; cases g <;> exact h
   ·simp only [AV.snap1]; rw [aux [id] (by simp)]; cases g <;> exact h
 ·refine ⟨fun ids _ _ => ?_, fun _ => ?_⟩ <;> (cases g <;> exact h)
 ·refine ⟨fun ids _ _ => ?_, fun _ => ?_⟩ <;> (cases g <;> exact h)
 ·split at h
  ·refine ⟨fun ids _ _ => ?_, fun _ => ?_⟩ <;> (cases g <;> exact h)
  ·cases h
 ·rename_i id r' off
  cases s with
  | false => exact ⟨fun ids _ _ => by cases g <;> exact h, fun h => by cases h⟩
  | true =>
   refine ⟨fun _ _ h => by (cases h), fun _ => ?_⟩
   obtain ⟨sz, rs, h1, h⟩ := zo h
   obtain ⟨row, h2, h⟩ := qi h
   obtain ⟨h3, h⟩ := qc h
   simp only [AV.snap1, h1, h2, qgp, h3, if_true]
   cases g <;> exact h
 ·rename_i id rows
  cases s with
  | false => exact ⟨fun ids _ _ => by cases g <;> exact h, fun h => by cases h⟩
  | true =>
   refine ⟨fun _ _ h => by (cases h), fun _ => ?_⟩
   obtain ⟨b, h1, h⟩ := qi h
   split at h
   ·simp only [AV.snap1, h1]
    cases rows <;> cases g <;> exact h
   ·cases h
 ·rename_i hn1 hn2 hn4 hn6 hn3 hn5
  refine ⟨fun ids _ _ => ?_, fun _ => ?_⟩
  ·have : v.frz1 ids H = v := by
    cases v <;> first | rfl | exact absurd rfl (hn1 _ _ _)
   rw [this]
   have : v.fg1 = v := by
    cases v <;> first | rfl | exact absurd rfl hn2 | exact absurd rfl hn4 | exact absurd rfl (hn6 _ _)
   rw [this]; cases g <;> exact h
  ·have : v.snap1 H = v := by
    cases v <;> first | rfl | exact absurd rfl (hn1 _ _ _) | exact absurd rfl (hn3 _ _ _) | exact absurd rfl (hn5 _ _)
   rw [this]
   have : v.fg1 = v := by
    cases v <;> first | rfl | exact absurd rfl hn2 | exact absurd rfl hn4 | exact absurd rfl (hn6 _ _)
   rw [this]; cases g <;> exact h
theorem qai {g : Bool} {ids : List Nat} : ∀ {l : List AV} {k : List AV → Option α}, (∀ v ∈ l, ∀ id off len, v = .ms id off len → id ∈ ids) → y9 g false H l k = some r → k (l.map fun v => cond g (v.frz1 ids H).fg1 (v.frz1 ids H)) = some r
 | [], k, _, h => h
 | a :: l, k, hi, h => by
  rw [y9] at h
  have h1 := (zA h).1 ids (hi a (by simp)) rfl
  exact qai (k := fun l => k (cond g (a.frz1 ids H).fg1 (a.frz1 ids H) :: l)) (fun v hv => hi v (by simp [hv])) h1
theorem qax {g : Bool} : ∀ {l : List AV} {k : List AV → Option α}, y9 g true H l k = some r → k (l.map fun v => cond g (v.snap1 H).fg1 (v.snap1 H)) = some r
 | [], k, h => h
 | a :: l, k, h => by
  rw [y9] at h
  have h1 := (zA h).2 rfl
  exact qax (k := fun l => k (cond g (a.snap1 H).fg1 (a.snap1 H) :: l)) h1
theorem qbm {l : List AV} {v : AV} (hv : v ∈ l) {id off len : Nat} (h : v = .ms id off len) : id ∈ l.flatMap AV.msId := by
 subst h
 exact List.mem_flatMap.2 ⟨_, hv, by simp [AV.msId]⟩
theorem qhn {v : AV} {k : KV α} (h : qcy false H v k = some r) : k (v.frz v.msIds H).fg = some r := by
 unfold qcy at h
 split at h
 ·rename_i cs
  have := qai (ids := cs.flatMap AV.msId) (fun v hv id off len e => qbm hv e) h
  simpa [AV.frz, AV.fg, AV.msIds, Function.comp_def] using this
 ·rename_i cs
  have := qai (k := fun cs => k (.tup cs)) (ids := cs.flatMap AV.msId) (fun v hv id off len e => qbm hv e) h
  simpa [AV.frz, AV.fg, AV.msIds, Function.comp_def] using this
 ·exact h
 ·rename_i h1 h2 h3
  have h4 := (zA h).1 v.msIds (fun id off len e => by subst e; simp [AV.msIds, AV.msId]) rfl
  have e1 : v.frz v.msIds H = v.frz1 v.msIds H := by
   cases v <;> first | rfl | exact absurd rfl (h1 _) | exact absurd rfl (h2 _)
  have e2 : (v.frz1 v.msIds H).fg = (v.frz1 v.msIds H).fg1 := by
   cases v <;> first | rfl | exact absurd rfl (h1 _) | exact absurd rfl (h2 _) | skip
   simp only [AV.frz1]
   split
   ·split <;> rfl
   ·rfl
  rw [e1, e2]; exact h4
theorem qlH {v : AV} {k : KV α} (h : qcy true H v k = some r) : k (v.snap H).fg = some r := by
 unfold qcy at h
 split at h
 ·rename_i cs
  have := qax h
  simpa [AV.snap, AV.fg, Function.comp_def] using this
 ·exact h
 ·rename_i f a b
  have h2 := qax (k := fun a => y9 false true H b fun b => k (.fn f a b)) h
  have h3 := qax (k := fun b => k (.fn f (a.map (AV.snap1 H)) b)) h2
  exact h3
 ·rename_i h1 h2 h3
  have h4 := (zA h).2 rfl
  have e1 : v.snap H = v.snap1 H := by
   cases v <;> first | rfl | exact absurd rfl (h1 _) | exact absurd rfl (h3 _ _ _)
  have e2 : (v.snap1 H).fg = (v.snap1 H).fg1 := by
   cases v <;> first | rfl | exact absurd rfl (h1 _) | exact absurd rfl (h2 _) | skip
   ·simp only [AV.snap1, AV.frz1]
    split
    ·split <;> rfl
    ·rfl
   ·simp only [AV.snap1]
    split
    ·split <;> rfl
    ·rfl
   ·simp only [AV.snap1]
    split <;> rfl
  rw [e1, e2]; exact h4
theorem qf2 : ∀ {l : List AV} {k : List AV → Option α}, qhX H l k = some r → k (l.map fun a => (a.snap H).fg) = some r
 | [], k, h => h
 | a :: l, k, h => by
  rw [qhX] at h
  have h1 := qlH h
  exact qf2 (k := fun l => k ((a.snap H).fg :: l)) h1
theorem qaB {id : Nat} {k : Bool → Nat → List (List AV) → Option α} (h : qec H id k = some r) : ∃ d sz rs, H[id]? = some (.rows d sz rs) ∧ k d sz rs = some r := by
 unfold qec at h
 obtain ⟨b, hb, h⟩ := qi h
 split at h
 ·exact ⟨_, _, _, hb, h⟩
 ·cases h
theorem xu {agg : Bool} {n off : Nat} {cells : List AV} {k : KV α} (h : zX agg n cells off k = some r) :
  ∃ v, (if agg then (if qqB (off + n) cells.length then some (AV.agg ((cells.drop off).take n)) else none) else cells[off]?) = some v ∧ k v = some r := by
 unfold zX at h
 rcases vX h with ⟨rfl, h⟩ | ⟨rfl, h⟩
 ·obtain ⟨h1, h2⟩ := qc h
  exact ⟨_, by simp [h1], h2⟩
 ·obtain ⟨v, h1, h2⟩ := qi h
  exact ⟨v, by simp [h1], h2⟩
theorem qcu {agg : Bool} {n : Nat} {p : AV} {k : KV α} (h : qfV agg n H p k = some r) : ∃ v, yc agg n H p = some v ∧ k v = some r := by
 unfold qfV at h
 unfold yc
 split at h
 ·obtain ⟨sz, rs, h1, h⟩ := zo h
  obtain ⟨row, h2, h⟩ := qi h
  obtain ⟨v, h3, h4⟩ := xu h
  exact ⟨v, by simp only [h1, h2]; exact h3, h4⟩
 ·obtain ⟨v, h3, h4⟩ := xu h
  exact ⟨v, h3, h4⟩
 ·obtain ⟨v, h3, h4⟩ := xu h
  refine ⟨v, ?_, h4⟩
  rw [← h3]
  simp only [List.length_map, List.map_take, List.map_drop, List.getElem?_map]
 ·obtain ⟨b, h1, h⟩ := qi h
  split at h
  ·obtain ⟨v, h3, h4⟩ := xu h
   refine ⟨v, ?_, h4⟩
   simp only [h1]
   rw [← h3]
   simp only [List.length_map, List.map_take, List.map_drop, List.getElem?_map]
  ·simp only [h1]
   rcases vX h with ⟨ha, h⟩ | ⟨ha, h⟩
   ·obtain ⟨h2, h⟩ := qc h
    obtain ⟨h3, h⟩ := qlK h
    exact ⟨_, by rw [if_pos ha, if_pos (by rw [h2, h3]; rfl)], h⟩
   ·obtain ⟨rows, h2, h⟩ := qi h
    exact ⟨_, by rw [if_neg (by rw [ha]; simp)]; unfold qgO; rw [h2]; rfl, h⟩
  ·cases h
 ·cases h
theorem qkf {agg : Bool} {n : Nat} {p v : AV} {k : AH → Option α} (h : qiP agg n H p v k = some r) : ∃ H', xT n H p v = some H' ∧ k H' = some r := by
 unfold qiP at h
 unfold xT
 split at h
 ·obtain ⟨cs, h1, h⟩ := za h
  obtain ⟨d, sz, rs, h2, h⟩ := qaB h
  obtain ⟨row, h3, h⟩ := qi h
  obtain ⟨h4, h⟩ := qc h
  rw [qqi] at h4
  refine ⟨_, ?_, h⟩
  simp only [h1, h2, h3]
  rw [if_pos]
  rw [qqi, beq_iff_eq]
  exact ⟨qqn h4.1, h4.2⟩
 ·obtain ⟨b, h1, h⟩ := qi h
  split at h
  ·rcases vX h with ⟨h4, h⟩ | ⟨h4, h⟩
   ·obtain ⟨h2, h⟩ := qc h
    refine ⟨H, ?_, h⟩
    have h77 : is77 v = true := by rw [qqi] at h2; exact h2.2
    have hv : ∃ cs, v.cells = some cs := by
     rcases qkO h77 with rfl | rfl
     ·exact ⟨_, rfl⟩
     ·exact ⟨_, rfl⟩
    obtain ⟨cs, hv⟩ := hv
    simp only [hv, h1]
    rw [if_pos (by rw [h4, Bool.true_and]; exact h2)]
   ·obtain ⟨h2, h⟩ := qc h
    refine ⟨H, ?_, h⟩
    have h99 : qaG v = true := by rw [qqi] at h2; exact h2.2
    have hv : ∃ cs, v.cells = some cs := by
     unfold qaG at h99
     split at h99
     ·exact ⟨_, rfl⟩
     ·exact ⟨_, rfl⟩
     ·cases h99
    obtain ⟨cs, hv⟩ := hv
    simp only [hv, h1]
    rw [if_neg (by rw [h4]; simp), if_pos h2]
  ·cases h
 ·cases h
theorem qbD {lo hi d : Nat} {x : Option AV} {k : Nat → Option α} (h : qdB lo hi x d k = some r) : ∃ n, zH lo hi x d = some n ∧ k n = some r := by
 unfold qdB at h
 unfold zH
 split at h
 ·exact ⟨_, rfl, h⟩
 ·split at h
  ·obtain ⟨h1, h⟩ := qc h
   rw [qqi, qT, qT] at h1
   exact ⟨_, by simp only; rw [if_pos h1], h⟩
  ·cases h
theorem y8 {n : Nat} {lo hi mx : Option AV} {k : Nat → Nat → Option α} (h : zR n lo hi mx k = some r) : ∃ l h', zj n lo hi mx = some (l, h') ∧ k l h' = some r := by
 unfold zR at h
 obtain ⟨h0, h⟩ := ql1 h
 obtain ⟨a, h1, h⟩ := qbD h
 obtain ⟨b, h2, h⟩ := qbD h
 obtain ⟨c, h3, h⟩ := qbD h
 refine ⟨c, a, ?_, h⟩
 unfold zj
 rw [if_neg (by rw [h0]; simp), h1]
 simp only [h2, h3]
theorem qkg {cfg : Cfg} {t : TypeId} {x : AV} {lo hi mx : Option AV} {k : KV α} (h : qiQ cfg t H x lo hi mx k = some r) : ∃ v, zI cfg t H x lo hi mx = some v ∧ k v = some r := by
 unfold qiQ at h
 unfold zI
 split at h
 ·rename_i ht
  rw [ht]
  split at h
  ·split at h
   ·obtain ⟨l, h', h1, h⟩ := y8 h
    exact ⟨_, by simp only [h1], h⟩
   ·cases h
  ·cases h
 ·rename_i e ht
  rw [ht]
  split at h
  ·rename_i n hn
   split at h
   ·obtain ⟨l, h', h1, h⟩ := y8 h
    exact ⟨_, by simp only [hn, h1], h⟩
   ·rename_i rows
    obtain ⟨l, h', h1, h⟩ := y8 h
    obtain ⟨h2, h⟩ := qc h
    refine ⟨slE (cfg.ems t) rows l h', by simp only [hn, h1, h2, if_true], ?_⟩
    split at h
    ·rename_i he; rw [he]; exact h
    ·rename_i he; rw [he]; exact h
   ·obtain ⟨l, h', h1, h⟩ := y8 h
    obtain ⟨sz, rs, h2, h⟩ := zo h
    obtain ⟨h3, hz⟩ := qc h
    have := qqn h3
    subst this
    exact ⟨_, by simp [hn, h1, h2], hz⟩
   ·split at h
    ·split at h
     ·rename_i kd hh _
      split at h
      ·obtain ⟨h2, hz⟩ := qc h
       rw [qqi, qT, qT] at h2
       exact ⟨_, by simp only [hn, AV.lenW]; rw [if_pos h2], hz⟩
      ·obtain ⟨h2, hz⟩ := qc h
       rw [qqi, qT, qT] at h2
       exact ⟨_, by simp only [hn, AV.lenW]; rw [if_pos h2], hz⟩
      ·cases h
     ·cases h
    ·cases h
   ·cases h
  ·cases h
 ·cases h
theorem qfW {cfg : Cfg} {t : TypeId} {x i : AV} {k : KV α} (h : qcv cfg t H x i k = some r) : ∃ v, xe cfg t H x i = some v ∧ k v = some r := by
 unfold qcv at h
 unfold xe
 split at h
 case h_2 => cases h
 rename_i kk i
 split at h
 ·rename_i e ht
  rw [ht]
  split at h
  case h_2 => cases h
  rename_i n hn
  split at h
  ·obtain ⟨sz, rs, h1, h⟩ := zo h
   obtain ⟨h2, hz⟩ := qc h
   rw [qqi, qqi, qT, yz] at h2
   have := qqn h2.1.1
   subst this
   exact ⟨_, by simp [hn, h1, h2.1.2, h2.2], hz⟩
  ·obtain ⟨h2, h⟩ := qc h
   rw [qqi, qT, yz] at h2
   obtain ⟨row, h3, h⟩ := qi h
   obtain ⟨h4, hz⟩ := qc h
   refine ⟨.cptr row 0, ?_, hz⟩
   have h5 := qqn h4
   simp only [hn, if_pos h2, h3]
   rw [if_pos (by rw [h5]; exact beq_self_eq_true n)]
  ·obtain ⟨h2, h⟩ := qc h
   rw [qqi, qT, yz] at h2
   obtain ⟨row, h3, h⟩ := qi h
   obtain ⟨h4, hz⟩ := qc h
   refine ⟨.lpt row 0, ?_, hz⟩
   have h5 := qqn h4
   simp only [hn, if_pos h2, h3]
   rw [if_pos (by rw [h5]; exact beq_self_eq_true n)]
  ·rename_i id rows
   obtain ⟨h2, h⟩ := qc h
   rw [qqi, qT, yz] at h2
   obtain ⟨row, h3, h⟩ := qi h
   obtain ⟨h4, hz⟩ := qc h
   refine ⟨.rpt id row 0, ?_, hz⟩
   have h5 := qqn h4
   simp only [hn, if_pos h2, h3]
   rw [if_pos (by rw [h5]; exact beq_self_eq_true n)]
  ·cases h
 ·rename_i m e ht
  rw [ht]
  split at h
  case h_2 => cases h
  rename_i n hn
  split at h
  ·obtain ⟨h2, h⟩ := qc h
   rw [qqi, qT, yz] at h2
   exact ⟨_, by simp [hn, h2.1, h2.2], h⟩
  ·obtain ⟨h2, h⟩ := qc h
   rw [qqi, qT, yz] at h2
   exact ⟨_, by simp [hn, h2.1, h2.2], h⟩
  ·cases h
 ·cases h
theorem qoF {cfg : Cfg} {t : TypeId} {ti : TI} (h : cfg.ty t = some ti) : cfg.sz t = some ti.sz ∧ cfg.td t = some ti.d := by
 unfold Cfg.sz Cfg.td; rw [h]; exact ⟨rfl, rfl⟩
theorem qki {cfg : Cfg} {t : TypeId} {x i : AV} {k : KV α} (h : qiX cfg t x i k = some r) : ∃ v, qcc cfg t x i = some v ∧ k v = some r := by
 unfold qiX at h
 unfold qcc
 split at h
 case h_2 => cases h
 rename_i kk i
 split at h
 ·rename_i n e ht
  rw [ht]
  split at h
  case h_2 => cases h
  rename_i ti hti
  obtain ⟨cs, rfl, h⟩ := qbp h
  obtain ⟨h2, h⟩ := qc h
  rw [qqi, qT, yz] at h2
  obtain ⟨v, h3, h⟩ := xu h
  refine ⟨v, ?_, h⟩
  simp only [(qoF hti).1]
  rw [if_pos h2]
  unfold qef
  rw [hti]
  exact h3
 ·rename_i ht
  rw [ht]
  obtain ⟨s, rfl, h⟩ := yB h
  obtain ⟨h2, h⟩ := qc h
  rw [qT] at h2
  obtain ⟨b, h3, h⟩ := qi h
  exact ⟨_, by simp [h2, h3], h⟩
 ·cases h
theorem qkj {cfg : Cfg} {t : TypeId} {x : AV} {f : Nat} {k : KV α} (h : qiY cfg t x f k = some r) : ∃ v, qcd cfg t x f = some v ∧ k v = some r := by
 unfold qiY at h
 unfold qcd
 split at h
 case h_2 => cases h
 rename_i fs ht
 rw [ht]
 split at h
 case h_2 => cases h
 rename_i off ft hf
 split at h
 case h_2 => cases h
 rename_i ti hti
 obtain ⟨cs, rfl, h⟩ := qbp h
 obtain ⟨v, h3, h⟩ := xu h
 refine ⟨v, ?_, h⟩
 simp only [hf]
 unfold qef
 rw [hti]
 exact h3
theorem qf0 {cfg : Cfg} {t : TypeId} {x : AV} {f : Nat} {k : KV α} (h : qcB cfg t x f k = some r) : ∃ v, yS cfg t x f = some v ∧ k v = some r := by
 unfold qcB at h
 unfold yS
 split at h
 case h_2 => cases h
 rename_i fs ht
 rw [ht]
 simp only
 split at h
 case h_2 => cases h
 rename_i off ft hf
 simp only [hf]
 split at h
 case h_2 => cases h
 rename_i n hn
 split at h
 ·exact ⟨_, by simp only [hn], h⟩
 ·exact ⟨_, by simp only [hn], h⟩
 ·exact ⟨_, by simp only [hn], h⟩
 ·cases h
variable {α : Type} {r : α} {H : AH}
theorem qiR {n : Nat} {x : AV} {k : List (List AV) → Option α} (h : qgU H n x k = some r) : ∃ rows, v7 H n x = some rows ∧ k rows = some r := by
 unfold qgU at h
 unfold v7
 split at h
 ·exact ⟨_, rfl, h⟩
 ·exact ⟨_, rfl, h⟩
 ·obtain ⟨h1, hz⟩ := qc h
  exact ⟨_, by simp only [h1, if_true], hz⟩
 ·obtain ⟨sz, rs, h1, h⟩ := zo h
  obtain ⟨h2, hz⟩ := qc h
  rw [qqi] at h2
  refine ⟨_, ?_, hz⟩
  simp only [h1]
  rw [if_pos]
  rw [qqi, beq_iff_eq]
  exact ⟨qqn h2.1, h2.2⟩
 ·cases h
theorem qhm {b : Bool} {n : Nat} {x : AV} {k : List (List AV) → Option α} (h : kSrc b H n x k = some r) : ∃ rows, vV H n x = some rows ∧ k rows = some r := by
 unfold kSrc at h
 rcases vX h with ⟨_, h⟩ | ⟨_, h⟩
 ·obtain ⟨s, rfl, h⟩ := yB h
  obtain ⟨h1, hz⟩ := qc h
  exact ⟨_, by simp only [vV, h1, if_true], hz⟩
 ·obtain ⟨rows, h1, hz⟩ := qiR h
  refine ⟨rows, ?_, hz⟩
  unfold vV
  split
  ·simp [v7] at h1
  ·exact h1
theorem qhC {cfg : Cfg} {nid : Option Nat} {s d : TypeId} {x : AV} {k : KH α} (h : qeU cfg nid s d x H k = some r) : ∃ v H', xI cfg nid s d x H = some (v, H') ∧ k v H' = some r := by
 unfold qeU at h
 unfold xI
 split at h
 ·rename_i hs hd
  split at h
  ·exact ⟨_, _, by simp only [hs, hd], h⟩
  ·cases h
 ·rename_i hs hd
  obtain ⟨b, rfl, hz⟩ := yB h
  exact ⟨_, _, by simp only [hs, hd], hz⟩
 ·rename_i e hs hd
  split at h
  ·rename_i hte
   obtain ⟨b, rfl, h0⟩ := yB h
   obtain ⟨i, H', h1, hz⟩ := xg h0
   exact ⟨_, _, by simp only [hs, hd, hte, h1], hz⟩
  ·cases h
 ·rename_i e hs hd
  split at h
  ·rename_i hte
   obtain ⟨rows, h1, h⟩ := qi h
   obtain ⟨bs, h2, hz⟩ := qi h
   refine ⟨.str bs, H, ?_, hz⟩
   simp only [hs, hd]
   cases x <;> first | (simp only [hte, h1, h2]; done) | (simp [v7] at h1)
  ·cases h
 ·cases h
theorem qi0 {cfg : Cfg} {nid : Option Nat} {t xt : TypeId} {s x : AV} {k : KH α} (h : qgW cfg nid t xt s x H k = some r) : ∃ v H', zq cfg nid t xt s x H = some (v, H') ∧ k v H' = some r := by
 unfold qgW at h
 unfold zq
 split at h
 case h_2 => cases h
 rename_i e xd ht hxt
 split at h
 case h_2 => cases h
 rename_i ei hei
 obtain ⟨h1, h⟩ := qc h
 obtain ⟨news, h2, h⟩ := qhm h
 simp only [ht, hxt, hei, h1, if_true, h2]
 split at h
 ·rcases vX h with ⟨h3, hz⟩ | ⟨h3, h⟩
  ·exact ⟨_, _, by simp only [h3, if_true], hz⟩
  ·obtain ⟨h4, h⟩ := qc h
   obtain ⟨i, H', h5, hz⟩ := xg h
   exact ⟨_, _, by simp only [h3, qqq, if_false, h4, if_true, h5], hz⟩
 ·obtain ⟨d, sz, rs, h3, h⟩ := qaB h
  obtain ⟨h4, h⟩ := qc h
  obtain ⟨i, H', h5, hz⟩ := xg h
  exact ⟨_, _, by simp only [h3, h4, if_true, h5], hz⟩
 ·cases h
theorem qmW {cfg : Cfg} {t : TypeId} {x : AV} {k : KV α} (h : kLen cfg t x H k = some r) : ∃ v, aLen cfg t x H = some v ∧ k v = some r := by
 unfold kLen at h
 unfold aLen
 split at h
 ·rename_i ht
  obtain ⟨s, rfl, hz⟩ := yB h
  exact ⟨_, by simp only [ht], hz⟩
 ·rename_i e ht
  split at h
  ·exact ⟨_, by simp only [ht], h⟩
  ·exact ⟨_, by simp only [ht], h⟩
  ·exact ⟨_, by simp only [ht], h⟩
  ·exact ⟨_, by simp only [ht], h⟩
  ·exact ⟨_, by simp only [ht], h⟩
  ·exact ⟨_, by simp only [ht], h⟩
  ·cases h
 ·rename_i n e ht
  exact ⟨_, by simp only [ht], h⟩
 ·rename_i a b ht
  split at h
  ·exact ⟨_, by simp only [ht], h⟩
  ·obtain ⟨b, h1, h⟩ := qi h
   split at h
   ·exact ⟨_, by simp only [ht, h1], h⟩
   ·cases h
  ·cases h
 ·cases h
theorem qfU {cfg : Cfg} {nid : Option Nat} {t : TypeId} {l c : AV} {k : KH α} (h : qhT cfg nid t l c H k = some r) : ∃ v H', z7 cfg nid t l c H = some (v, H') ∧ k v H' = some r := by
 unfold qhT at h
 unfold z7
 split at h
 case h_2 => cases h
 rename_i e ht
 split at h
 case h_2 => cases h
 rename_i ei hei
 obtain ⟨h1, h⟩ := qc h
 obtain ⟨n, rfl, ha⟩ := qah h
 obtain ⟨m, rfl, hb⟩ := qah ha
 obtain ⟨h2, hd⟩ := qc hb
 obtain ⟨i, H', h3, hz⟩ := xg hd
 rw [qqi, qqi, qqi, qT, qT, qT, qT] at h2
 exact ⟨_, _, by simp only [ht, hei, h1, if_true]; rw [if_pos ⟨h2.1.1.1, h2.1.1.2, h2.1.2, h2.2⟩]; simp only [h3], hz⟩
theorem qkh {cfg : Cfg} {nid : Option Nat} {t : TypeId} {l c : AV} {k : KH α} (h : qiU cfg nid t l c H k = some r) : ∃ v H', y3 cfg nid t l c H = some (v, H') ∧ k v H' = some r := by
 unfold qiU at h
 unfold y3
 split at h
 ·rename_i hw
  rw [hw]
  exact qfU h
 ·rename_i hw
  rw [hw]
  split at h
  ·obtain ⟨h1, h⟩ := qc h
   obtain ⟨v, H', h2, h⟩ := qfU h
   split at h
   ·refine ⟨_, _, ?_, h⟩
    simp only
    rw [if_pos h1, h2]; rfl
   ·cases h
  ·cases h
theorem qmY {cfg : Cfg} {t : TypeId} {x : AV} {k : KV α} (h : kCap cfg t x k = some r) : ∃ v, aCap cfg t x = some v ∧ k v = some r := by
 unfold kCap at h
 unfold aCap
 split at h
 ·rename_i e ht
  split at h
  ·split at h
   ·exact ⟨_, by simp only [ht, AV.lenW, qqD], h⟩
   ·exact ⟨_, by simp only [ht, AV.lenW, qqD], h⟩
   ·cases h
  ·cases h
 ·cases h
theorem qnU {v : AV} {k : Nat → List (List AV) → Option α} (h : kWr v k = some r) : ∃ n rows, v = .wr n (.sl rows) ∧ k n rows = some r := by
 unfold kWr at h
 split at h
 ·exact ⟨_, _, rfl, h⟩
 ·cases h
theorem qgV {v : AV} {k : KV α} {cfg : Cfg} {nid : Option Nat} {a : Operand} {ty : TypeId} {x : Operand → AV} (hx : x a = v) (h : qdz v k = some r) : evOp cfg nid (.nilCheck a) ty x H = some (v, H) ∧ k v = some r := by
 unfold qdz at h
 simp only [evOp, hx]
 split at h <;> first | exact ⟨rfl, h⟩ | cases h
theorem qkl {cfg : Cfg} {t : TypeId} {x : AV} {k : AH → Option α} (h : qiZ cfg t x H k = some r) : ∃ H', qce cfg t x H = some H' ∧ k H' = some r := by
 unfold qiZ at h
 unfold qce
 split at h
 case h_2 => cases h
 rename_i e he
 rw [he]
 split at h
 ·exact ⟨H, rfl, h⟩
 ·rename_i id off len
  split at h
  case h_2 => cases h
  rename_i ei hei
  obtain ⟨d, sz, rs, h1, h⟩ := qaB h
  obtain ⟨h2, hz⟩ := qc h
  exact ⟨_, by simp only [hei, h1, h2, if_true], hz⟩
 ·cases h
theorem qlI {cfg : Cfg} {t xt : TypeId} {d s : AV} {k : KH α} (h : qlJ cfg t xt d s H k = some r) : ∃ v H', qeg cfg t d s H = some (v, H') ∧ k v H' = some r := by
 unfold qlJ at h
 unfold qeg
 split at h
 case h_2 => cases h
 rename_i e he
 rw [he]
 split at h
 case h_2 => cases h
 rename_i id off len
 split at h
 case h_2 => cases h
 rename_i n hn
 obtain ⟨db, sz, rs, h1, h⟩ := qaB h
 obtain ⟨news, h2, h⟩ := qhm h
 obtain ⟨h3, hz⟩ := qc h
 exact ⟨_, _, by simp only [hn, h1, h2, h3, if_true], hz⟩
theorem qiT {cfg : Cfg} {nid : Option Nat} {o : Op} {ty : TypeId} {x : Operand → AV} {k : KH α} (h : kOp cfg nid o ty x H k = some r) : ∃ v H', evOp cfg nid o ty x H = some (v, H') ∧ k v H' = some r := by
 cases o with
 | move a => exact ⟨_, _, rfl, h⟩
 | assign a => exact ⟨_, _, rfl, h⟩
 | pick c a b =>
  simp only [kOp] at h
  obtain ⟨t, h1, h⟩ := qaA h
  have := qlE (k := fun v => k v H) h
  exact ⟨_, _, by simp only [evOp, h1], this⟩
 | alloc t =>
  simp only [kOp] at h
  split at h
  ·rename_i ti hti
   obtain ⟨h1, h⟩ := qc h
   obtain ⟨i, H', h2, hz⟩ := xg h
   exact ⟨_, _, by simp only [evOp, hti, h1, if_true, h2], hz⟩
  ·cases h
 | box t a =>
  simp only [kOp] at h
  obtain ⟨cs, h1, h⟩ := za h
  obtain ⟨i, H', h2, hz⟩ := xg h
  exact ⟨_, _, by simp only [evOp, h1, h2], hz⟩
 | build t parts =>
  simp only [kOp] at h
  split at h
  case h_2 => cases h
  rename_i ti hti
  obtain ⟨h1, h⟩ := qc h
  split at h
  ·rename_i fs hfs
   split at h
   case h_2 => cases h
   rename_i ps hps
   obtain ⟨qs, h2, h3⟩ := qfF hps
   obtain ⟨cs, h4, hz⟩ := qcA (place' := fun i => qs[i]?) (fun i off n g hi => h3 i off n g hi) h
   exact ⟨_, _, by simp only [evOp, hti, h1, if_true, hfs, h2, h4, qqD], hz⟩
  ·rename_i m e hfs
   split at h
   case h_2 => cases h
   rename_i n hn
   obtain ⟨cs, h4, hz⟩ := qcA (place' := fun i => some (i * n, n)) (fun i off m g hi => by cases hi; rfl) h
   exact ⟨_, _, by simp only [evOp, hti, h1, if_true, hfs, hn, h4, qqD], hz⟩
  ·cases h
 | buildSlice t len parts =>
  simp only [kOp] at h
  split at h
  case h_2 => cases h
  rename_i e ht
  split at h
  case h_2 => cases h
  rename_i ei hei
  obtain ⟨h1, h⟩ := qc h
  obtain ⟨rows, h2, h⟩ := qfS h
  obtain ⟨i, H', h3, hz⟩ := xg h
  exact ⟨_, _, by simp only [evOp, ht, hei, h1, if_true, h2, h3], hz⟩
 | load t a =>
  simp only [kOp] at h
  split at h
  case h_2 => cases h
  rename_i ti hti
  split at h
  ·rename_i cs off hx
   obtain ⟨v, h1, h⟩ := xu h
   have h2 := qF (k := fun v => cond ti.d.agg (k v.lendA H) (k v.lend H)) h
   rcases vX h2 with ⟨ha, h2⟩ | ⟨ha, h2⟩
   ·rw [ha] at h1
    simp only [if_true] at h1
    split at h1
    ·rename_i hb
     cases h1
     refine ⟨_, _, ?_, h2⟩
     simp only [evOp, hti, hx, yc, ha, if_true, hb, qqD, AV.lendA]
    ·cases h1
   ·rw [ha] at h1
    simp only [qqq, if_false] at h1
    refine ⟨_, _, ?_, h2⟩
    simp only [evOp, hti, hx, yc, ha, qqq, if_false, h1, qqD]
  ·rename_i id cs off hx
   obtain ⟨b, hb0, h⟩ := qi h
   split at h
   ·obtain ⟨v, h1, h⟩ := xu h
    have h2 := qF (k := fun v => cond ti.d.agg (k (v.regA id) H) (k (v.regn id) H)) h
    rcases vX h2 with ⟨ha, h2⟩ | ⟨ha, h2⟩
    ·rw [ha] at h1
     simp only [if_true] at h1
     split at h1
     ·rename_i hb
      cases h1
      refine ⟨_, _, ?_, h2⟩
      simp only [evOp, hti, hx, yc, hb0, ha, if_true, hb, qqD, AV.regA]
     ·cases h1
    ·rw [ha] at h1
     simp only [qqq, if_false] at h1
     refine ⟨_, _, ?_, h2⟩
     simp only [evOp, hti, hx, yc, hb0, ha, qqq, if_false, h1, qqD]
   ·obtain ⟨v, h1, h⟩ := qcu h
    exact ⟨_, _, by simp only [evOp, hti, hx, h1, qqD], h⟩
  ·obtain ⟨v, h1, h⟩ := qcu h
   exact ⟨_, _, by simp only [evOp, hti, h1, qqD], qF (k := fun v => k v H) h⟩
 | store t a v =>
  simp only [kOp] at h
  split at h
  case h_2 => cases h
  rename_i ti hti
  obtain ⟨H', h1, hz⟩ := qkf h
  exact ⟨_, _, by simp only [evOp, (qoF hti).1, h1, qqD], hz⟩
 | nilCheck a =>
  obtain ⟨h1, h2⟩ := qgV (cfg := cfg) (nid := nid) (ty := ty) (H := H) (x := x) (a := a) (k := fun v => k v H) rfl h
  exact ⟨_, _, h1, h2⟩
 | binOp op t a b yt =>
  simp only [kOp] at h
  obtain ⟨v, h1, h⟩ := qi h
  exact ⟨_, _, by simp only [evOp, h1, qqD], qF (k := fun v => k v H) h⟩
 | unOp op t a =>
  simp only [kOp] at h
  obtain ⟨v, h1, h⟩ := qi h
  exact ⟨_, _, by simp only [evOp, h1, qqD], qF (k := fun v => k v H) h⟩
 | convert s d a => exact qhC h
 | makeFunc f first caps => exact ⟨_, _, rfl, h⟩
 | makeSlice t l c => exact qkh h
 | slice t a lo hi mx =>
  simp only [kOp] at h
  obtain ⟨v, h1, hz⟩ := qkg h
  exact ⟨_, _, by simp only [evOp, h1, qqD], hz⟩
 | fieldAddr t a f =>
  simp only [kOp] at h
  obtain ⟨v, h1, hz⟩ := qf0 h
  exact ⟨_, _, by simp only [evOp, h1, qqD], hz⟩
 | field t a f =>
  simp only [kOp] at h
  obtain ⟨v, h1, h⟩ := qkj h
  exact ⟨_, _, by simp only [evOp, h1, qqD], qF (k := fun v => k v H) h⟩
 | indexAddr t a i =>
  simp only [kOp] at h
  obtain ⟨v, h1, hz⟩ := qfW h
  exact ⟨_, _, by simp only [evOp, h1, qqD], hz⟩
 | index t a i =>
  simp only [kOp] at h
  obtain ⟨v, h1, h⟩ := qki h
  exact ⟨_, _, by simp only [evOp, h1, qqD], qF (k := fun v => k v H) h⟩
 | extract t i =>
  simp only [kOp] at h
  split at h
  ·rename_i vs hvs
   obtain ⟨v, h1, h⟩ := qi h
   exact ⟨_, _, by simp only [evOp, hvs, h1, qqD], qF (k := fun v => k v H) h⟩
  ·cases h
 | call c =>
  simp only [kOp] at h
  obtain ⟨callee, args, argTypes⟩ := c
  simp only at h
  simp only [evOp]
  split at h
  case h_2 => cases h
  generalize args.toList = al at *
  generalize argTypes.toList = tl at *
  split at h
  ·obtain ⟨v, h1, hz⟩ := qmW h
   exact ⟨_, _, by simp only [h1, qqD], hz⟩
  ·obtain ⟨v, h1, hz⟩ := qmY h
   exact ⟨_, _, by simp only [h1, qqD], hz⟩
  ·exact qi0 h
  ·rename_i d s t xt
   obtain ⟨v, H', h1, hz⟩ := qlI h
   exact ⟨_, _, h1, hz⟩
  ·obtain ⟨v, h1, hz⟩ := qkl h
   exact ⟨_, _, by simp only [h1, qqD], hz⟩
  ·obtain ⟨v, h1, h⟩ := qi h
   exact ⟨_, _, by simp only [h1, qqD], qF (k := fun v => k v H) h⟩
  ·obtain ⟨v, h1, h⟩ := qi h
   exact ⟨_, _, by simp only [h1, qqD], qF (k := fun v => k v H) h⟩
  ·cases h
 | _ => simp only [kOp] at h; cases h
def KfOk (cf : Orac) (kf : KF α) : Prop := ∀ t a H k r, kf t a H k = some r → ∃ q, cf t a H = some q ∧ k q = some r
theorem qcD {cf : Orac} {f : Nat} : ∀ {l : List AV} {k : Option α}, qf3 cf f l k = some r → ym cf f l = some () ∧ k = some r
 | [], _, h => ⟨rfl, h⟩
 | a :: l, k, h => by
  rw [qf3] at h
  obtain ⟨u, h1, h⟩ := qi h
  obtain ⟨h2, hz⟩ := qcD h
  refine ⟨?_, hz⟩
  unfold EVz at h1
  obtain ⟨q, h3, h4⟩ := qqk.1 h1
  rw [ym, h3]
  simp only [qqt, h4, h2]
theorem qlL {cfg : Cfg} {cf : Orac} {kf : KF α} (hkf : KfOk cf kf) {nid : Option Nat} {ty : TypeId} {t : Tgt} {args : List AV} {k : KH α} (h : qeb cfg cf kf nid ty t args H k = some r) : ∃ v H', qw cfg cf nid t args H = some (v, H') ∧ k v H' = some r := by
 cases t with
 | y id =>
  simp only [qeb] at h
  obtain ⟨q, h1, h⟩ := hkf _ _ _ _ _ h
  obtain ⟨p, h2, h⟩ := qi h
  exact ⟨_, _, by simp only [qw, h1, qqt]; exact h2, qF (k := fun v => k v p.2) h⟩
 | f f =>
  simp only [qeb] at h
  cases hm : cfg.mode f with
  | scal =>
   simp only [hm] at h
   obtain ⟨h1, h⟩ := qc (qf2 h)
   split at h
   ·obtain ⟨q, h5, h⟩ := hkf _ _ _ _ _ h
    have h3 := qF (k := fun v => cond v.scalar (k v H) none) h
    obtain ⟨h4, hz⟩ := qc h3
    exact ⟨q.1, H, by simp only [qw, hm, h1, if_true, h5, qqt, h4], hz⟩
   obtain ⟨v, h2, h⟩ := qi h
   have h3 := qF (k := fun v => cond v.scalar (k v H) none) h
   obtain ⟨h4, hz⟩ := qc h3
   unfold EVs at h2
   obtain ⟨q, h5, h6⟩ := qql.1 h2
   exact ⟨v, H, by simp only [qw, hm, h1, if_true, h5, qqt, h6, h4], hz⟩
  | pfrz =>
   simp only [hm] at h
   obtain ⟨h1, h⟩ := qc h
   split at h
   ·obtain ⟨q, h5, h⟩ := hkf _ _ _ _ _ h
    have h2 := qhn (k := fun v => kTy qbt cfg ty v fun v => cond (v.refsLt 0) (k v H) none) h
    have h3 := qF (k := fun v => cond (v.refsLt 0) (k v H) none) h2
    obtain ⟨h4, hz⟩ := qc h3
    exact ⟨_, H, by simp only [qw, hm, h1, if_true, h5, qqt, h4], hz⟩
   obtain ⟨v, h2, h⟩ := qi h
   have h3 := qF (k := fun v => cond (v.refsLt 0) (k v H) none) h
   obtain ⟨h4, hz⟩ := qc h3
   unfold EVf at h2
   obtain ⟨q, h5, h6⟩ := qql.1 h2
   exact ⟨v, H, by simp only [qw, hm, h1, if_true, h5, qqt, h6, h4], hz⟩
  | pown =>
   simp only [hm] at h
   split at h
   ·rename_i t1 t2 _
    obtain ⟨h1, h⟩ := qc h
    obtain ⟨q, h2, h⟩ := qi h
    obtain ⟨p, h5, h6⟩ := qqk.1 h2
    unfold qoH at h6
    split at h6
    case h_2 => cases h6
    rename_i a sc hp
    obtain ⟨h7, h6⟩ := qc h6
    split at h6
    case h_2 => cases h6
    rename_i o ho
    cases h6
    have h := qdv (k := fun s => kOwn o (k (.tup [.nilS, s]) H) fun sz rs off len => kNew nid H (.rows true sz rs) fun i H' => k (.tup [.ms i off len, s]) H') h
    unfold ovOf at ho
    split at ho
    ·rename_i hq
     cases ho
     refine ⟨.tup [.nilS, sc], H, ?_, h⟩
     have hq : a = .nilS := hq
     simp only [qw, hm, h1, if_true, h5, qqt, qaX, hp, h7, hq, xQ, AV.refsLt, qqD]
    ·rename_i id off len hq
     split at ho
     case h_2 => cases ho
     rename_i sz rs hid
     split at ho
     case isFalse => cases ho
     rename_i hr
     cases ho
     simp only [kOwn] at h
     obtain ⟨i, H', h8, hz⟩ := xg h
     have hq : a = .ms id off len := hq
     refine ⟨_, _, ?_, hz⟩
     simp only [qw, hm, h1, if_true, h5, qqt, qaX, hp, h7, hq, xQ, hid, hr, h8, qqD]
    ·cases ho
   ·obtain ⟨h1, h⟩ := qc h
    have key : ∃ q o, cf (.f f) args [] = some q ∧ ovOf q = some o ∧ (kOwn o (k .nilS H) fun sz rs off len => kNew nid H (.rows true sz rs) fun i H' => k (.ms i off len) H') = some r := by
     split at h
     ·obtain ⟨q, h5, h⟩ := hkf _ _ _ _ _ h
      obtain ⟨o, h6, h⟩ := qi h
      exact ⟨q, o, h5, h6, h⟩
     ·obtain ⟨o, h2, h⟩ := qi h
      unfold EVo at h2
      obtain ⟨q, h5, h6⟩ := qqk.1 h2
      exact ⟨q, o, h5, h6, h⟩
    obtain ⟨q, o, h5, h6, h⟩ := key
    unfold ovOf at h6
    split at h6
    ·rename_i hq
     cases h6
     exact ⟨.nilS, H, by simp only [qw, hm, h1, if_true, h5, qqt, qaX, xQ, hq, AV.refsLt], h⟩
    ·rename_i id off len hq
     split at h6
     case h_2 => cases h6
     rename_i sz rs hid
     split at h6
     case isFalse => cases h6
     rename_i hr
     cases h6
     simp only [kOwn] at h
     obtain ⟨i, H', h7, hz⟩ := xg h
     exact ⟨_, _, by simp only [qw, hm, h1, if_true, h5, qqt, qaX, xQ, hq, hid, hr, h7], hz⟩
    ·cases h6
  | inpl =>
   simp only [hm] at h
   have res : ∀ (kd : Nat) (ik : IntKind) (id : Nat) (v : MV) (k : KV α), qhU kd ik id v k = some r → k (v.av id) = some r := by
    intro kd ik id v k h
    unfold qhU at h
    split at h
    ·cases v <;> first | exact h | exact absurd h (by simp [qiV])
    ·cases v <;> first | exact h | exact absurd h (by simp [kMSl])
    ·cases v with
     | int q n =>
      obtain ⟨h1, h2⟩ := qc h
      rw [← qdt h1] at h2
      exact h2
     | _ => exact absurd h (by simp [qhV])
    ·cases v <;> first | exact h | exact absurd h (by simp [qiW])
   split at h
   case h_2 =>
    rename_i hids
    obtain ⟨h1, h⟩ := qc h
    obtain ⟨v1, h2, h⟩ := qi h
    unfold EVu at h2
    obtain ⟨r1, h5, h6⟩ := qqk.1 h2
    split at h6
    case isFalse => cases h6
    rename_i hrf
    have hav : r1.1 = v1.av 0 := by
     unfold mvOf at h6
     split at h6
     ·rename_i e; cases h6; rw [e]; rfl
     ·rename_i e; cases h6; rw [e]; rfl
     ·rename_i i off len e
      rw [e] at hrf
      simp [AV.refsLt, qqL] at hrf
     ·rename_i e; cases h6; rw [e]; rfl
     ·rename_i e; cases h6; rw [e]; rfl
     ·cases h6
    refine ⟨v1.av 0, H, ?_, res _ _ _ _ (fun v => k v H) h⟩
    simp only [qw, hm, hids, h1, if_true, h5, qqt, hrf]
    rw [hav]
   rename_i id l hids
   obtain ⟨h1, h⟩ := qc h
   obtain ⟨b, h2, h⟩ := qi h
   split at h
   case h_2 => cases h
   rename_i d sz rs
   obtain ⟨h3, h⟩ := qc h
   obtain ⟨q, h4, h⟩ := qi h
   unfold EVm at h4
   obtain ⟨r1, h5, h6⟩ := qqk.1 h4
   obtain ⟨q1, h7, h8⟩ := qqk.1 h6
   obtain ⟨v1, h9, h10⟩ := qql.1 h8
   cases h10
   have hav : q1.1.ren (fun _ => id) = v1.av id := by
    unfold mvOf at h9
    split at h9
    ·rename_i e; cases h9; rw [e]; simp [AV.ren, renL, MV.av]
    ·rename_i e; cases h9; rw [e]; simp [AV.ren, MV.av]
    ·rename_i i off len e
     split at h9
     ·cases h9; rw [e]; simp [AV.ren, MV.av]
     ·cases h9
    ·rename_i e; cases h9; rw [e]; simp [AV.ren, MV.av]
    ·rename_i e; cases h9; rw [e]; simp [AV.ren, MV.av]
    ·cases h9
   have hk : k (v1.av id) (H.set id (.rows true sz q1.2)) = some r := res _ _ _ _ (fun v => k v (H.set id (.rows true sz q1.2))) h
   refine ⟨v1.av id, _, ?_, hk⟩
   simp only [qw, hm, hids, h1, if_true, h2, h3, h5, qqt, h7, qqD, hav]
  | inpf =>
   simp only [hm] at h
   split at h
   case h_2 => cases h
   rename_i id l hids
   obtain ⟨h1, h⟩ := qc h
   obtain ⟨b, h2, h⟩ := qi h
   split at h
   case h_2 => cases h
   rename_i d sz rs
   obtain ⟨h3, h⟩ := qc h
   obtain ⟨q, h4, h⟩ := qi h
   unfold EVd at h4
   obtain ⟨r1, h5, h6⟩ := qqk.1 h4
   have hk := qF (k := fun v => k v (H.set id (.rows true sz q.2))) h
   refine ⟨q.1, _, ?_, hk⟩
   simp only [qw, hm, hids, h1, if_true, h2, h3, h5, qqt, h6, qqD]
  | slf =>
   simp only [hm] at h
   split at h
   case h_2 => cases h
   rename_i id l hids
   obtain ⟨h1, h⟩ := qc h
   obtain ⟨b, h2, h⟩ := qi h
   split at h
   case h_2 => cases h
   rename_i d sz rs
   obtain ⟨h3, h⟩ := qc h
   obtain ⟨q, h4, h⟩ := qi h
   have h4 := qot h4
   unfold EVx at h4
   obtain ⟨r1, h5, h6⟩ := qqk.1 h4
   have hk := qF (k := fun v => k v (H.set id (.rows false sz (renR (fun _ => id) (renR (fun _ => 0) rs))))) h
   refine ⟨q, _, ?_, hk⟩
   simp only [qw, hm, hids, h1, if_true, h2, h3, h5, qqt, h6, qqD]
  | wfrz =>
   simp only [hm] at h
   obtain ⟨h1, h⟩ := qc h
   obtain ⟨v, h2, h⟩ := qi h
   unfold EVw at h2
   obtain ⟨q, h5, h6⟩ := qql.1 h2
   split at h
   ·obtain ⟨n, rows, rfl, hz⟩ := qnU h
    exact ⟨_, H, by simp only [qw, hm, h1, if_true, h5, qqt, h6]; rfl, hz⟩
   ·have h3 := qF (k := fun v => cond (v.refsLt 0) (k v H) none) h
    obtain ⟨h4, hz⟩ := qc h3
    exact ⟨v, H, by simp only [qw, hm, h1, if_true, h5, qqt, h6, h4], hz⟩
  | nfrz =>
   simp only [hm] at h
   obtain ⟨h1, h⟩ := qc h
   obtain ⟨V, h2, h⟩ := qi h
   have h3 := qF (k := fun V => k V.lendT H) h
   unfold EVn at h2
   obtain ⟨q, h5, h6⟩ := qqk.1 h2
   exact ⟨_, _, by simp only [qw, hm, h1, if_true, h5, qqt, h6, qqD], h3⟩
  | rgn =>
   simp only [hm] at h
   obtain ⟨h1, h⟩ := qc h
   obtain ⟨V, h2, h⟩ := qi h
   have h3 := qF (k := fun V => kNew nid H .reg fun i H' => k (rgIn i V) H') h
   obtain ⟨i, H', h4, hz⟩ := xg h3
   unfold EVg at h2
   obtain ⟨q, h5, h6⟩ := qqk.1 h2
   exact ⟨_, _, by simp only [qw, hm, h1, if_true, h5, qqt, h6, h4, qqD], hz⟩
  | bld =>
   simp only [hm] at h
   split at h
   case h_2 => cases h
   rename_i id l hids
   obtain ⟨h1, h⟩ := qc h
   obtain ⟨b, h2, h⟩ := qi h
   split at h
   case h_2 => cases h
   rename_i T e s
   obtain ⟨q, h4, h⟩ := qi h
   unfold EVb at h4
   obtain ⟨r1, h5, h6⟩ := qqk.1 h4
   have hk := qF (k := fun v => k v (H.set id (.bld T e q.2))) h
   refine ⟨_, _, ?_, hk⟩
   simp only [qw, hm, hids, h1, if_true, h2, h5, qqt, h6, qqD]
  | over =>
   simp only [hm] at h
   split at h
   case h_2 => cases h
   rename_i a
   split at h
   case h_2 => cases h
   rename_i id l hids
   obtain ⟨h1, h⟩ := qc h
   obtain ⟨b, h2, h⟩ := qi h
   split at h
   ·obtain ⟨h3, hz⟩ := qcD h
    exact ⟨_, _, by simp only [qw, hm, hids, h1, if_true, h2, h3, qqD], hz⟩
   ·obtain ⟨h3, hz⟩ := qcD h
    exact ⟨_, _, by simp only [qw, hm, hids, h1, if_true, h2, h3, qqD], hz⟩
   ·cases h
  | imp =>
   simp only [hm] at h
   obtain ⟨q, h1, h⟩ := hkf _ _ _ _ _ h
   obtain ⟨p, h2, h⟩ := qi h
   exact ⟨_, _, by simp only [qw, hm, h1, qqt]; exact h2, qF (k := fun v => k v p.2) h⟩
  | sub =>
   simp only [hm] at h
   obtain ⟨s, h0, h⟩ := qi h
   obtain ⟨q, h1, h⟩ := hkf _ _ _ _ _ h
   obtain ⟨p, h2, h⟩ := qi h
   obtain ⟨p2, h3, h⟩ := qi h
   exact ⟨_, _, by simp only [qw, hm, h0, h1, h2, h3, qqt, qqD], qF (k := fun v => k v (yf p2.2 (s.1 ++ p2.1) p.2)) h⟩
  | ifrz =>
   simp only [hm] at h
   obtain ⟨q, h1, h⟩ := hkf _ _ _ _ _ h
   obtain ⟨p, h2, h⟩ := qi h
   exact ⟨_, _, by simp only [qw, hm, h1, qqt]; exact h2, qF (k := fun v => k v p.2) h⟩
theorem qmU {f : AV} {args : List AV} {k : Tgt → List AV → Option α} (h : kTgt f args k = some r) : ∃ t, xp f args = some t ∧ k t.1 t.2 = some r := by
 unfold kTgt at h
 unfold xp
 split at h
 ·exact ⟨_, rfl, h⟩
 ·exact ⟨_, rfl, h⟩
 ·cases h
theorem qmX {ids : List Nat} {v : AV} {k : KV α} (hi : ∀ id ∈ v.msIds, id ∈ ids) (h : qlG H v k = some r) : k (v.frz ids H) = some r := by
 unfold qlG at h
 split at h
 ·rename_i cs
  have := qai (ids := ids) (fun v hv id off len e => hi id (qbm hv e)) h
  simpa [AV.frz, Function.comp_def] using this
 ·rename_i cs
  have := qai (k := fun cs => k (.tup cs)) (ids := ids) (fun v hv id off len e => hi id (qbm hv e)) h
  simpa [AV.frz, Function.comp_def] using this
 ·rename_i h1 h2
  have h4 := (zA h).1 ids (fun id off len e => hi id (by subst e; simp [AV.msIds, AV.msId])) rfl
  have e1 : v.frz ids H = v.frz1 ids H := by
   cases v <;> first | rfl | exact absurd rfl (h1 _) | exact absurd rfl (h2 _)
  rw [e1]; exact h4
theorem qcx {ids : List Nat} : ∀ {l : List AV} {k : List AV → Option α}, (∀ v ∈ l, ∀ id ∈ v.msIds, id ∈ ids) → qdA H l k = some r → k (l.map fun v => v.frz ids H) = some r
 | [], k, _, h => h
 | a :: l, k, hi, h => by
  rw [qdA] at h
  have h1 := qmX (ids := ids) (hi a (by simp)) h
  exact qcx (k := fun l => k (a.frz ids H :: l)) (fun v hv => hi v (by simp [hv])) h1
theorem qoX {a b : Operand} (h : opEq a b = true) : a = b := by
 cases a <;> cases b <;> simp_all [opEq]
theorem qkP {y : Operand → AV} (a : Operand) : ∀ l : List Operand, frzX l (l.map y) y a = y a
 | [] => rfl
 | b :: l => by
  rw [List.map_cons, frzX]
  cases hb : opEq b a with
  | true => rw [cond_true, qoX hb]
  | false => rw [cond_false]; exact qkP a l
theorem qfX {cfg : Cfg} {nid : Option Nat} {o : Oper} {x : Operand → AV} {k : KH α} (h : qhW cfg nid o x H k = some r) :
  kOp cfg nid o.op o.type (fun a => (x a).frz (o.op.operands.toList.flatMap fun a => (x a).msIds) H) (qv (o.op.operands.toList.flatMap fun a => (x a).msIds) H) k = some r := by
 unfold qhW at h
 have h1 := qcx (ids := o.op.operands.toList.flatMap fun a => (x a).msIds) (fun v hv id hid => by
  obtain ⟨a, ha, rfl⟩ := List.mem_map.1 hv
  exact List.mem_flatMap.2 ⟨a, ha, hid⟩) h
 rw [List.map_map] at h1
 have e : frzX o.op.operands.toList (o.op.operands.toList.map ((fun v => v.frz (o.op.operands.toList.flatMap fun a => (x a).msIds) H) ∘ x)) (fun a => (x a).frz (o.op.operands.toList.flatMap fun a => (x a).msIds) H) = fun a => (x a).frz (o.op.operands.toList.flatMap fun a => (x a).msIds) H := funext fun a => qkP a _
 rw [e] at h1
 exact h1
theorem qfT {cfg : Cfg} {cf : Orac} {kf : KF α} (hkf : KfOk cf kf) {frz : Bool} {nid : Option Nat} {o : Oper} {x : Operand → AV} {k : KH α} (h : qhS cfg cf kf frz nid o x H k = some r) : ∃ v H', qD cfg cf frz nid o x H = some (v, H') ∧ k v H' = some r := by
 have core : ∀ {x : Operand → AV} {H : AH}, (match o.op with
   | .call c =>
    match c.callee with
    | .value f => kTgt (x f) (c.args.toList.map x) fun t al => qeb cfg cf kf nid o.type t al H k
    | _ => kOp cfg nid o.op o.type x H k
   | _ => kOp cfg nid o.op o.type x H k) = some r → ∃ v H', (match o.op with
    | .call c =>
     match c.callee with
     | .value f => (xp (x f) (c.args.toList.map x)).bind fun t => qw cfg cf nid t.1 t.2 H
     | _ => evOp cfg nid o.op o.type x H
    | _ => evOp cfg nid o.op o.type x H) = some (v, H') ∧ k v H' = some r := by
  intro x H h
  cases ho : o.op with
  | call c =>
   simp only [ho] at h ⊢
   cases hc : c.callee with
   | value f =>
    simp only [hc] at h ⊢
    obtain ⟨t, h1, h⟩ := qmU h
    obtain ⟨v, H', h2, hz⟩ := qlL hkf h
    exact ⟨v, H', by rw [h1]; exact h2, hz⟩
   | _ => simp only [hc] at h ⊢; exact qiT h
  | _ => simp only [ho] at h ⊢; exact qiT h
 unfold qhS at h
 unfold qD
 cases frz with
 | true =>
  simp only [cond_true] at h
  simp only [if_true]
  refine core (x := fun a => (x a).frz (o.op.operands.toList.flatMap fun a => (x a).msIds) H) (H := qv (o.op.operands.toList.flatMap fun a => (x a).msIds) H) ?_
  cases ho : o.op with
  | call c =>
   simp only [ho] at h ⊢
   cases hc : c.callee with
   | value f =>
    simp only [hc] at h ⊢
    have h1 := qcx (ids := (Op.call c).operands.toList.flatMap fun a => (x a).msIds) (fun v hv id hid => by
     obtain ⟨a, ha, rfl⟩ := List.mem_map.1 hv
     refine List.mem_flatMap.2 ⟨a, ?_, hid⟩
     simp [Op.operands, Call.operands, hc, Array.mem_toList_iff.1 ha]) h
    rw [List.map_map] at h1
    exact h1
   | _ => simp only [hc] at h ⊢; have h := qfX h; rw [ho] at h; exact h
  | _ => simp only [ho] at h ⊢; have h := qfX h; rw [ho] at h; exact h
 | false => simp only [cond_false] at h; simp only [qqq, if_false]; exact core h
theorem qeL {fr : List AV} {d : Nat} {v : AV} (h : fr[d]? = some v) : fr.set d v = fr := by
 obtain ⟨hl, e⟩ := qqj.1 h
 rw [← e]; exact List.set_getElem_self hl
theorem qdu {ops : Array Oper} {fr : List AV} {o : Oper} {k : Bool → List AV → Option α} (h : qd9 ops fr o k = some r) : ∃ b, vp ops fr o = some b ∧ k b fr = some r := by
 unfold qd9 at h
 unfold vp
 split at h
 ·rename_i hg; rw [hg]; exact ⟨true, rfl, h⟩
 ·rename_i j want hg
  rw [hg]
  simp only
  split at h
  ·rename_i d hd
   rw [hd]
   simp only
   obtain ⟨v, h1, h⟩ := qi h
   rw [h1]
   split at h
   ·split at h
    ·exact ⟨false, rfl, h⟩
    ·cases h
   ·obtain ⟨b, rfl, h⟩ := qaA h
    simp only
    refine ⟨_, rfl, ?_⟩
    rcases vX h with ⟨rfl, h⟩ | ⟨rfl, h⟩
    ·rw [qeL h1] at h
     cases want <;> exact h
    ·rw [qeL h1] at h
     cases want <;> exact h
  ·cases h
theorem qdx {cfg : Cfg} {cf : Orac} {kf : KF α} (hkf : KfOk cf kf) {f rid : Nat} {ops : Array Oper} : ∀ {l : List Oper} {n : Nat} {fr : List AV} {H : AH} {k : List AV → AH → Option α}, kOps cfg cf kf f rid ops n l fr H k = some r → ∃ q, xK cfg cf f rid ops n l fr H = some q ∧ k q.1 q.2 = some r
 | [], n, fr, H, k, h => ⟨(fr, H), rfl, h⟩
 | o :: l, n, fr, H, k, h => by
  rw [kOps] at h
  obtain ⟨b, h1, h⟩ := qdu h
  rw [xK, h1]
  simp only [qqt]
  rcases vX h with ⟨rfl, h⟩ | ⟨rfl, h⟩
  ·obtain ⟨v, H', h2, h⟩ := qfT hkf h
   simp only [if_true, h2, qqt]
   exact qdx hkf h
  ·simp only [qqq, if_false]
   exact qdx hkf h
theorem qcC {cfg : Cfg} {cf : Orac} {kf : KF α} (hkf : KfOk cf kf) {f rid : Nat} {ops : Array Oper} : ∀ {l : List Oper} {n at_ : Nat} {fr : List AV} {H : AH} {k : List DR → List AV → AH → Option α}, qf1 cfg cf kf f rid ops n at_ l fr H k = some r →
  ∃ q, vM cfg cf f rid ops n at_ l fr H = some q ∧ k q.1 q.2.1 q.2.2 = some r
 | [], n, at_, fr, H, k, h => ⟨([], fr, H), rfl, h⟩
 | o :: l, n, at_, fr, H, k, h => by
  rw [qf1] at h
  obtain ⟨b, h1, h⟩ := qdu h
  rw [vM, h1]
  simp only [qqt]
  rcases vX h with ⟨rfl, h9⟩ | ⟨rfl, h9⟩
  ·obtain ⟨v, H', h2, h8⟩ := qfT hkf h9
   simp only [if_true, h2, qqt]
   obtain ⟨q, h3, hz⟩ := qcC hkf h8
   exact ⟨_, by rw [h3]; rfl, hz⟩
  ·simp only [qqq, if_false]
   obtain ⟨q, h3, hz⟩ := qcC hkf h9
   exact ⟨_, by rw [h3]; rfl, hz⟩
theorem qfP {fr : List AV} {c : Operand} {b : Bool} (h : opd fr c = .bool b) : known fr c b = fr := by
 cases c with
 | tmp d =>
  simp only [known]
  have hg : fr[d]? = some (.bool b) := by
   have h' : fr.getD d .junk = .bool b := h
   rw [List.getD_eq_getElem?_getD] at h'
   cases hd : fr[d]? with
   | none => rw [hd] at h'; cases h'
   | some v => rw [hd] at h'; simp at h'; rw [h']
  exact qeL hg
 | _ => rfl
theorem qaz {cfg : Cfg} {cf : Orac} {kf : KF α} (hkf : KfOk cf kf) {f : Nat} {rd : Option Nat} {bs : Nat} : ∀ (c : Code) {fr : List AV} {H : AH} {k : KE α}, q5 cfg cf kf f rd bs c fr H k = some r → ∃ q, evC cfg cf f rd bs c fr H = some q ∧ k q.1 q.2.1 q.2.2 = some r := by
 intro c
 induction c with
 | skip => intro fr H k h; exact ⟨(.normal, fr, H), by simp only [evC], by simpa only [q5] using h⟩
 | label l => intro fr H k h; exact ⟨(.normal, fr, H), by simp only [evC], by simpa only [q5] using h⟩
 | exit id => intro fr H k h; exact ⟨(.exit id, fr, H), by simp only [evC], by simpa only [q5] using h⟩
 | ret => intro fr H k h; exact ⟨(.ret, fr, H), by simp only [evC], by simpa only [q5] using h⟩
 | goto l => intro fr H k h; simp only [q5] at h; cases h
 | refuse s => intro fr H k h; simp only [q5] at h; cases h
 | region id ops draw =>
  intro fr H k h
  simp only [q5] at h
  simp only [evC]
  cases draw with
  | true =>
   simp only [cond_true] at h
   simp only [if_true]
   obtain ⟨h1, h⟩ := qc h
   obtain ⟨q, h2, h⟩ := qcC hkf h
   obtain ⟨h3, hz⟩ := qc h
   exact ⟨(.normal, q.2), by simp only [h1, if_true, h2, qqt, h3], hz⟩
  | false =>
   simp only [cond_false] at h
   simp only [qqq, if_false]
   obtain ⟨q, h2, hz⟩ := qdx hkf h
   exact ⟨(.normal, q), by simp only [h2, qqD], hz⟩
 | seq x y ihx ihy =>
  intro fr H k h
  simp only [q5] at h
  simp only [evC]
  cases hco : qba x with
  | some p =>
   obtain ⟨rfl, hcc⟩ := qbI hco
   simp only [q5, cond_true] at h
   obtain ⟨h1, _⟩ := qc h
   unfold x9 at h1
   rw [hcc] at h1
   simp at h1
  | none => ?_
  simp only
  obtain ⟨q, h1, h⟩ := ihx h
  rw [h1]
  simp only [qqt]
  unfold kSeq at h
  cases hq : q.1 with
  | normal => simp only [hq] at h ⊢; exact ihy (qkk h)
  | exit id => simp only [hq] at h ⊢; exact ⟨_, rfl, h⟩
  | goto l => simp only [hq] at h ⊢; exact ⟨_, rfl, h⟩
  | ret => simp only [hq] at h ⊢; exact ⟨_, rfl, h⟩
 | cond cnd x y ihx ihy =>
  intro fr H k h
  simp only [q5] at h
  simp only [evC]
  obtain ⟨b, h1, h⟩ := qaA h
  rw [h1]
  simp only
  rcases vX h with ⟨rfl, h⟩ | ⟨rfl, h⟩
  ·rw [qfP h1] at h
   simp only [if_true]; exact ihx h
  ·rw [qfP h1] at h
   simp only [qqq, if_false]; exact ihy h
 | block id x ih =>
  intro fr H k h
  simp only [q5] at h
  simp only [evC]
  obtain ⟨q, h1, h⟩ := ih h
  rw [h1]
  simp only [qqt]
  unfold yi at h
  cases hq : q.1 with
  | normal => simp only [hq] at h ⊢; exact ⟨_, rfl, by rw [hq]; exact h⟩
  | exit id' =>
   simp only [hq] at h ⊢
   rcases vX h with ⟨h2, hz⟩ | ⟨h2, hz⟩
   ·exact ⟨_, by simp only [h2, if_true]; rfl, hz⟩
   ·exact ⟨q, by simp only [h2, qqq, if_false], by rw [hq]; exact hz⟩
  | goto l => simp only [hq] at h ⊢; exact ⟨_, rfl, by rw [hq]; exact h⟩
  | ret => simp only [hq] at h ⊢; exact ⟨_, rfl, by rw [hq]; exact h⟩
 | loop x ih =>
  intro fr H k h
  simp only [q5] at h
  simp only [evC]
  obtain ⟨q, h1, hz⟩ := qi h
  exact ⟨(q.1, qO (cfg.keepOut f (qe x)) q.2.1, q.2.2), by rw [h1]; rfl, hz⟩
 | scope x ih =>
  intro fr H k h
  simp only [q5] at h
  simp only [evC]
  obtain ⟨q, h1, h⟩ := ih h
  rw [h1]
  simp only [qqt]
  unfold qdw at h
  cases hq : q.1 with
  | goto l => simp only [hq] at h; cases h
  | normal => simp only [hq] at h ⊢; exact ⟨_, rfl, by rw [hq]; exact h⟩
  | exit id => simp only [hq] at h ⊢; exact ⟨_, rfl, by rw [hq]; exact h⟩
  | ret => simp only [hq] at h ⊢; exact ⟨_, rfl, by rw [hq]; exact h⟩
 | rangeFunc g ps assign body =>
  intro fr H k h
  simp only [q5] at h
  simp only [evC]
  generalize (qJ (cfg.lift f (qe body)) fr H).1 = fr at h ⊢
  generalize (qJ (cfg.lift f (qe body)) _ H).2 = H at h ⊢
  unfold qmV at h
  obtain ⟨h1, h⟩ := qc h
  split at h
  case h_2 => cases h
  rename_i g' first caps hg
  obtain ⟨h2, h⟩ := qc h
  obtain ⟨q, h3, h⟩ := hkf _ _ _ _ _ h
  unfold qbo at h
  obtain ⟨b, h4, h⟩ := qi h
  unfold qoL at h
  split at h
  case h_2 => cases h
  rename_i pend st
  have hx : ¬ (cfg.ext g').isSome = true := by
   cases he : cfg.ext g' with
   | none => simp
   | some s => rw [he] at h2; cases h2
  have hst : st ≠ .busy := by
   intro e; subst e; simp at h
  have hpk : qiS pend k (gc bs (qO (cfg.keepOut f (qe body)) fr) (q.2.set H.length .dead)).1 (gc bs (qO (cfg.keepOut f (qe body)) fr) (q.2.set H.length .dead)).2 = some r := by
   cases st with
   | busy => exact absurd rfl hst
   | _ => exact h
  unfold yn
  rw [if_pos h1, hg]
  simp only [hx, h3, qqt, h4]
  unfold qiS at hpk
  cases st with
  | busy => exact absurd rfl hst
  | _ =>
   cases pend with
   | none => exact ⟨_, rfl, hpk⟩
   | some c =>
    cases c <;> first | exact ⟨_, rfl, hpk⟩ | cases hpk
theorem qbn {cfg : Cfg} {fr : List AV} : ∀ {rs : List ResultVar} {k : List AV → Option α}, kRes cfg fr H rs k = some r → ∃ vs, vK rs cfg.ty fr H = some vs ∧ k vs = some r
 | [], k, h => ⟨[], rfl, h⟩
 | .tmp t :: l, k, h => by
  rw [kRes] at h
  obtain ⟨vs, h1, hz⟩ := qbn h
  exact ⟨_, by simp only [vK, h1, qqD], hz⟩
 | .cell a t :: l, k, h => by
  rw [kRes] at h
  split at h
  ·rename_i ti hti
   obtain ⟨v, h1, h⟩ := qcu h
   have h2 := qF (k := fun v => kRes cfg fr H l fun vs => k (v :: vs)) h
   obtain ⟨vs, h3, hz⟩ := qbn h2
   exact ⟨_, by simp only [vK, hti, h1, qqt, h3, qqD], hz⟩
  ·cases h
variable {α : Type}
def fxGo (i : Nat) (l : List (Nat × AV)) : Nat → List AV
 | 0 => []
 | n + 1 => match l with
  | [] => .junk :: fxGo (i + 1) [] n
  | p :: l' => if qqz p.1 i then p.2 :: fxGo (i + 1) l' n else .junk :: fxGo (i + 1) (p :: l') n
def fx (n : Nat) (l : List (Nat × AV)) : List AV := fxGo 0 l n
def qn (fn : Func) : Code := match fn.body with | some c => c | none => .skip
def sub : Code → List Nat → Code
 | c, [] => c
 | .seq a b, i :: l => match i with | 0 => sub a l | _ => sub b l
 | .cond _ a b, i :: l => match i with | 0 => sub a l | _ => sub b l
 | .block _ a, _ :: l => sub a l
 | .loop a, _ :: l => sub a l
 | .scope a, _ :: l => sub a l
 | .rangeFunc _ _ a b, i :: l => match i with | 0 => sub a l | _ => sub b l
 | c, _ => c
def rngB (fn : Func) (f : Nat) (p : List Nat) (fr : List AV) (pend : Option Code) (st : LoopState) : ABlk :=
 match sub (qn fn) p with
 | .rangeFunc _ ps a b => .loop f fr ps.toList a b pend st
 | _ => .dead
noncomputable def kLp (k : Nat) (ts : Option (List Tmp)) (ls : List (Tmp × Nat)) (L : Den) (A : Ex × List AV × AH → Option α) : KE α := fun e fr H =>
 match e with
 | .normal => kOpt (LOOP k ts ls L (xa k ts ls fr H)) A
 | e => A (e, fr, H)
theorem qly {cfg : Cfg} {kf : KF α} (hkf : KfOk (EV cfg) kf) {f : Nat} {rd : Option Nat} {bs : Nat} {c : Code} {k : Nat} {ts : Option (List Tmp)} {ls : List (Tmp × Nat)} {A : Ex × List AV × AH → Option α} {fr : List AV} {H : AH} {r : α}
  (h : q5 cfg (EV cfg) kf f rd bs c fr H (kLp k ts ls (evC cfg (EV cfg) f rd bs c) A) = some r) : kOpt (LOOP k ts ls (evC cfg (EV cfg) f rd bs c) (fr, H)) A = some r := by
 obtain ⟨⟨e, fr1, H1⟩, h1, h2⟩ := qaz hkf c h
 cases e with
 | normal =>
  simp only [kLp] at h2
  cases hl : LOOP k ts ls (evC cfg (EV cfg) f rd bs c) (xa k ts ls fr1 H1) with
  | none => rw [hl] at h2; cases h2
  | some q =>
   rw [hl] at h2
   rw [qnp (p := (fr, H)) h1 hl]
   exact h2
 | exit id => rw [qdT (p := (fr, H)) h1 (fun x => by intro h; cases h)]; exact h2
 | goto l => rw [qdT (p := (fr, H)) h1 (fun x => by intro h; cases h)]; exact h2
 | ret => rw [qdT (p := (fr, H)) h1 (fun x => by intro h; cases h)]; exact h2
def qay (cfg : Cfg) (ls : List (Tmp × Nat)) (g : AV → AH → Option α) (rs : List ResultVar) : KE α := fun e fr H =>
 match e with
 | .normal => kRes cfg (qJ ls fr H).1 (qJ ls fr H).2 rs fun vs => g (xO vs) (qJ ls fr H).2
 | .ret => kRes cfg (qJ ls fr H).1 (qJ ls fr H).2 rs fun vs => g (xO vs) (qJ ls fr H).2
 | _ => none
def x7 (cfg : Cfg) (ls : List (Tmp × Nat)) (rs : List ResultVar) : KE AV := qay cfg ls (fun v _ => some v) rs
def qqc (cfg : Cfg) (ls : List (Tmp × Nat)) (rs : List ResultVar) : KE AV := qay cfg ls (fun v H => qcy false H v some) rs
noncomputable def qcw (cfg : Cfg) (cf : Orac) (kf : KF α) (f : Nat) (fn : Func) (c : Code) (args : List AV) (H : AH) (fin : KE α) : Option α :=
 q5 cfg cf kf f none H.length c (args ++ qqG (fn.ntmps - args.length) .junk) H fin
theorem qeB {cfg : Cfg} {kf : KF α} (hkf : KfOk (EV cfg) kf) {g : AV → AH → Option α} {f : Nat} {fn : Func} {args : List AV} {H : AH} {r : α} (hx : cfg.ext f = none) (hk : cfg.known f = true) (hf : cfg.P.funcs[f]? = some fn) (hb : fn.body = some (qn fn))
  (h : qcw cfg (EV cfg) kf f fn (qn fn) args H (qay cfg (cfg.lift f 0) g fn.results.toList) = some r) : ∃ v H', EV cfg (.f f) args H = some (v, H') ∧ g v H' = some r := by
 unfold qcw at h
 obtain ⟨q, h1, h⟩ := qaz hkf _ h
 have key : ∀ (vs : List AV), vK fn.results.toList cfg.ty (qJ (cfg.lift f 0) q.2.1 q.2.2).1 (qJ (cfg.lift f 0) q.2.1 q.2.2).2 = some vs → (q.1 = .normal ∨ q.1 = .ret) → EV cfg (.f f) args H = some (xO vs, (qJ (cfg.lift f 0) q.2.1 q.2.2).2) := by
  intro vs h2 hq
  refine qbx ?_
  unfold vg
  simp only [hx, hk, if_true, hf, hb, h1, qqt]
  unfold qak
  rcases hq with hq | hq <;> simp only [hq, h2, qqD]
 unfold qay at h
 split at h
 ·rename_i hq
  obtain ⟨vs, h2, h⟩ := qbn h
  exact ⟨_, _, key vs h2 (.inl hq), h⟩
 ·rename_i hq
  obtain ⟨vs, h2, h⟩ := qbn h
  exact ⟨_, _, key vs h2 (.inr hq), h⟩
 ·cases h
def kY2 (id : Nat) (K : AV × AH → Option α) : KE α := fun e _ H =>
 kOpt H[id]? fun b => match b with
  | .loop f fr ps a b _ _ => (match e with
   | .normal => K (.bool true, H.set id (.loop f fr ps a b none .ready))
   | .ret => K (.bool false, H.set id (.loop f fr ps a b (some .ret) .done))
   | .exit x => K (.bool false, H.set id (.loop f fr ps a b (some (.exit x)) .done))
   | .goto _ => none)
  | _ => none
noncomputable def kY1 (cfg : Cfg) (cf : Orac) (kf : KF α) (bs f id : Nat) (body : Code) (K : AV × AH → Option α) : KE α := fun e fr H =>
 match e with
 | .normal => kOpt H[id]? fun b => match b with
  | .loop f' fr' ps' a' b' p' st => (match st with
   | .ready => q5 cfg cf kf f (some id) bs body fr (H.set id (.loop f' fr' ps' a' b' p' .busy)) (kY2 id K)
   | _ => none)
  | _ => none
 | _ => none
noncomputable def kY (cfg : Cfg) (cf : Orac) (kf : KF α) (id : Nat) (args : List AV) (H : AH) (K : AV × AH → Option α) : Option α :=
 kOpt H[id]? fun b => match b with
  | .loop f fr ps assign body _ st => (match st with
   | .ready => cond (qqz args.length ps.length) (q5 cfg cf kf f (some id) H.length assign (xf fr ps args) H (kY1 cfg cf kf H.length f id body K)) none
   | _ => none)
  | _ => none
theorem qnT {cfg : Cfg} {kf : KF α} (hkf : KfOk (EV cfg) kf) {id : Nat} {args : List AV} {H : AH} {K : AV × AH → Option α} {r : α} (h : kY cfg (EV cfg) kf id args H K = some r) : ∃ q, EV cfg (.y id) args H = some q ∧ K q = some r := by
 unfold kY at h
 obtain ⟨b, h1, h⟩ := qi h
 cases b with
 | loop f fr ps assign body pend st =>
  simp only at h
  cases st with
  | ready =>
   simp only at h
   obtain ⟨h2, h⟩ := qc h
   obtain ⟨q, h3, h⟩ := qaz hkf _ h
   unfold kY1 at h
   cases hq : q.1 with
   | normal =>
    rw [hq] at h
    simp only at h
    obtain ⟨b, h4, h⟩ := qi h
    cases b with
    | loop f' fr' ps' a' b' p' st' =>
     simp only at h
     cases st' with
     | ready =>
      simp only at h
      obtain ⟨q2, h5, h⟩ := qaz hkf _ h
      unfold kY2 at h
      obtain ⟨b, h6, h⟩ := qi h
      cases b with
      | loop f2 fr2 ps2 a2 b2 p2 st2 =>
       have key : ∀ q', vg cfg (EV cfg) (.y id) args H = some q' → K q' = some r → ∃ q, EV cfg (.y id) args H = some q ∧ K q = some r := fun q' h8 h9 => ⟨q', qbx h8, h9⟩
       cases hq2 : q2.1 with
       | normal =>
        rw [hq2] at h
        refine key _ ?_ h
        unfold vg
        simp only [h1, if_pos (qqn h2), h3, qqt, hq, h4, h5, h6, hq2]
       | ret =>
        rw [hq2] at h
        refine key _ ?_ h
        unfold vg
        simp only [h1, if_pos (qqn h2), h3, qqt, hq, h4, h5, h6, hq2]
       | exit x =>
        rw [hq2] at h
        refine key _ ?_ h
        unfold vg
        simp only [h1, if_pos (qqn h2), h3, qqt, hq, h4, h5, h6, hq2]
       | goto x => rw [hq2] at h; cases h
      | _ => cases h
     | _ => cases h
    | _ => cases h
   | _ => rw [hq] at h; cases h
  | _ => cases h
 | _ => cases h
class InlOk (cfg : Cfg) : Prop where
 ok : ∀ f fn, cfg.inl f = some fn → cfg.ext f = none ∧ cfg.known f = true ∧ cfg.P.funcs[f]? = some fn ∧ fn.body = some (qn fn)
def qed (f : Nat) : List (Nat × Func) → Option Func
 | [] => none
 | p :: l => if qqz p.1 f then some p.2 else qed f l
def qnq (cfg : Cfg) : List (Nat × Func) → Prop
 | [] => True
 | p :: l => (cfg.ext p.1 = none ∧ cfg.known p.1 = true ∧ cfg.P.funcs[p.1]? = some p.2 ∧ p.2.body = some (qn p.2)) ∧ qnq cfg l
theorem InlOk.of {cfg : Cfg} (tab : List (Nat × Func)) (h : ∀ f, cfg.inl f = qed f tab) (ha : qnq cfg tab) : InlOk cfg where
 ok := by
  intro f fn hf
  rw [h] at hf
  clear h
  induction tab with
  | nil => cases hf
  | cons p l ih =>
   rw [qed] at hf
   split at hf
   ·rename_i e
    have e := qqn e
    cases hf
    rw [← e]
    exact ha.1
   ·exact ih ha.2 hf
noncomputable def kfN (cfg : Cfg) : Nat → KF α
 | 0 => fun t a H k => kOpt (EV cfg t a H) k
 | n + 1 => fun t a H k => match t with
  | .f f => (match cfg.inl f with
   | some fn => qcw cfg (EV cfg) (kfN cfg n) f fn (qn fn) a H (qay cfg (cfg.lift f 0) (fun v H => k (v, H)) fn.results.toList)
   | none => kOpt (EV cfg (.f f) a H) k)
  | .y id => kY cfg (EV cfg) (kfN cfg n) id a H k
theorem qfQ {cfg : Cfg} [InlOk cfg] : ∀ n, KfOk (α := α) (EV cfg) (kfN cfg n)
 | 0 => fun t a H k r h => qi h
 | n + 1 => fun t a H k r h => by
  unfold kfN at h
  cases t with
  | f f =>
   simp only at h
   split at h
   ·rename_i fn hf
    obtain ⟨o1, o2, o3, o4⟩ := InlOk.ok f fn hf
    obtain ⟨v, H', h1, h2⟩ := qeB (qfQ n) o1 o2 o3 o4 h
    exact ⟨_, h1, h2⟩
   ·exact qi h
  | y id => exact qnT (qfQ n) h
theorem qS {cfg : Cfg} [InlOk cfg] {f : Nat} {rd : Option Nat} {bs : Nat} {c : Code} {k : Nat} {ts : Option (List Tmp)} {ls : List (Tmp × Nat)} {A : Ex × List AV × AH → Option α} {fr : List AV} {H : AH} {r : α}
  (h : q5 cfg (EV cfg) (kfN cfg 6) f rd bs c fr H (kLp k ts ls (evC cfg (EV cfg) f rd bs c) A) = some r) : kOpt (LOOP k ts ls (evC cfg (EV cfg) f rd bs c) (fr, H)) A = some r := qly (qfQ 6) h
theorem qcz {cfg : Cfg} [InlOk cfg] {g : AV → AH → Option α} {f : Nat} {fn : Func} {args : List AV} {H : AH} {r : α} (hx : cfg.ext f = none) (hk : cfg.known f = true) (hf : cfg.P.funcs[f]? = some fn) (hb : fn.body = some (qn fn))
  (h : qcw cfg (EV cfg) (kfN cfg 6) f fn (qn fn) args H (qay cfg (cfg.lift f 0) g fn.results.toList) = some r) : ∃ v H', EV cfg (.f f) args H = some (v, H') ∧ g v H' = some r := qeB (qfQ 6) hx hk hf hb h
def Gets {β : Type} (o : Option β) (P : β → Prop) : Prop := ∃ r, o = some r ∧ P r
theorem Gets.ev {β : Type} {o o' : Option β} {P : β → Prop} (h : ∀ r, o = some r → o' = some r) (hy : Gets o P) : Gets o' P := by
 obtain ⟨r, h1, h2⟩ := hy
 exact ⟨r, h r h1, h2⟩
theorem Gets.eq {β : Type} {o o' : Option β} {P : β → Prop} (h : o' = o) (hy : Gets o P) : Gets o' P := h ▸ hy
theorem gE {β : Type} {o o' x : Option β} {P : β → Prop} (f : ∀ r, o = some r → o' = some r) (e : o = x) (h : Gets x P) : Gets o' P := Gets.ev f (Gets.eq e h)
theorem Gets.mono {β : Type} {o : Option β} {P Q : β → Prop} (h : Gets o P) (hq : ∀ b, P b → Q b) : Gets o Q := by
 obtain ⟨r, h1, h2⟩ := h
 exact ⟨r, h1, hq r h2⟩
theorem Gets.bind {β γ : Type} {o : Option β} {k : β → Option γ} {Q : β → Prop} {P : γ → Prop} (h : Gets o Q) (hk : ∀ b, Q b → Gets (k b) P) : Gets (kOpt o k) P := by
 obtain ⟨r, h1, h2⟩ := h
 subst h1
 exact hk r h2
@[simp] theorem qW {β : Type} {a : β} {P : β → Prop} : Gets (some a) P ↔ P a := ⟨fun ⟨r, h1, h2⟩ => by cases h1; exact h2, fun h => ⟨a, rfl, h⟩⟩
theorem Gets.get {β : Type} {o : Option β} {a : β} (h : Gets o (· = a)) : o = some a := by
 obtain ⟨r, h1, h2⟩ := h
 rw [h1, h2]
theorem qjz {cfg : Cfg} {f : Nat} {args : List AV} {v : AV} {H : AH} (h : EV cfg (.f f) args [] = some (v, H)) : EVs (EV cfg) f args = some v := by unfold EVs; rw [h]; rfl
theorem qpW {cfg : Cfg} {f : Nat} {args : List AV} {v v' : AV} {H : AH} (h : EV cfg (.f f) args [] = some (v', H)) (e : (v'.frz v'.msIds H).fg = v) : EVf (EV cfg) f args = some v := by unfold EVf; rw [h]; exact congrArg some e
theorem funS {cfg : Cfg} [InlOk cfg] {f : Nat} {fn : Func} {args : List AV} {r : AV} (hx : cfg.ext f = none) (hk : cfg.known f = true) (hf : cfg.P.funcs[f]? = some fn) (hb : fn.body = some (qn fn))
  (h : qcw cfg (EV cfg) (kfN cfg 6) f fn (qn fn) args [] (x7 cfg (cfg.lift f 0) fn.results.toList) = some r) : EVs (EV cfg) f args = some r := by
 obtain ⟨v, H', h1, h2⟩ := qcz hx hk hf hb h
 cases h2
 exact qjz h1
theorem funF {cfg : Cfg} [InlOk cfg] {f : Nat} {fn : Func} {args : List AV} {r : AV} (hx : cfg.ext f = none) (hk : cfg.known f = true) (hf : cfg.P.funcs[f]? = some fn) (hb : fn.body = some (qn fn))
  (h : qcw cfg (EV cfg) (kfN cfg 6) f fn (qn fn) args [] (qqc cfg (cfg.lift f 0) fn.results.toList) = some r) : EVf (EV cfg) f args = some r := by
 obtain ⟨v, H', h1, h2⟩ := qcz hx hk hf hb h
 exact qpW h1 (Option.some.inj (qhn h2))
def qea (cfg : Cfg) (T e : TypeId) (ls : List (Tmp × Nat)) (rs : List ResultVar) : KE (AV × List UInt8) := qay cfg ls (fun v H => qbc T e (v, H)) rs
theorem funB {cfg : Cfg} [InlOk cfg] {f : Nat} {fn : Func} {args : List AV} {T e : TypeId} {s : List UInt8} {r : AV × List UInt8} (hx : cfg.ext f = none) (hk : cfg.known f = true) (hf : cfg.P.funcs[f]? = some fn) (hb : fn.body = some (qn fn))
  (h : qcw cfg (EV cfg) (kfN cfg 6) f fn (qn fn) args [.bld T e s] (qea cfg T e (cfg.lift f 0) fn.results.toList) = some r) : EVb (EV cfg) f args T e s = some r := by
 obtain ⟨v, H', h1, h2⟩ := qcz hx hk hf hb h
 unfold EVb; rw [h1]; exact h2
@[simp] theorem nble (a b : Nat) : qqB a b = decide (a ≤ b) := by
 rcases h : qqB a b with _ | _
 ·rw [eq_comm, decide_eq_false_iff_not]; intro h'; rw [Nat.ble_eq_true_of_le h'] at h; cases h
 ·rw [eq_comm, decide_eq_true_eq]; exact Nat.le_of_ble_eq_true h
@[simp] theorem nbeq (a b : Nat) : qqz a b = decide (a = b) := by
 rcases h : qqz a b with _ | _
 ·rw [eq_comm, decide_eq_false_iff_not]; intro h'; rw [h', Nat.beq_refl] at h; cases h
 ·rw [eq_comm, decide_eq_true_eq]; exact qqn h
@[simp] theorem leInt_eq (a b : Int) : qg a b = decide (a ≤ b) := rfl
@[simp] theorem ltInt_eq (a b : Int) : qz a b = decide (a < b) := rfl
theorem beqD {β : Type} [BEq β] [LawfulBEq β] [DecidableEq β] (a b : β) : (a == b) = decide (a = b) := by
 by_cases h : a = b
 ·subst h; simp
 ·simp [h]
def AV.IsInt (v : AV) : Prop := ∃ n, v = .int .i64 n
def AV.IsBool (v : AV) : Prop := ∃ b, v = .bool b
@[simp] theorem isInt_int (n : Int) : (AV.int .i64 n).IsInt := ⟨n, rfl⟩
@[simp] theorem isBool_bool (b : Bool) : (AV.bool b).IsBool := ⟨b, rfl⟩
@[simp] theorem qa {β : Type} (b : β) (k : β → Option α) : kOpt (some b) k = k b := rfl
@[simp] theorem kOptNone {β : Type} (k : β → Option α) : kOpt none k = none := rfl
@[simp] theorem kMInt_int (kd : IntKind) (n : Int) (k : Int → Option α) : qhV kd (.int kd n) k = k n := by simp [qhV, yA]
@[simp] theorem qq (kd : IntKind) (n : Int) (k : Int → Option α) : kInt kd (.int kd n) k = k n := by simp [kInt, yA]
@[simp] theorem qY (b : Bool) (k : Bool → Option α) : q6 (.bool b) k = k b := rfl
@[simp] theorem qd (s : List UInt8) (k : List UInt8 → Option α) : kStr (.str s) k = k s := rfl
@[simp] theorem kAgg_agg (cs : List AV) (k : List AV → Option α) : kAgg (.agg cs) k = k cs := rfl
@[simp] theorem qE (c : AV) (cs : List AV) (k : AV → List AV → Option α) : q8 (c :: cs) k = k c cs := rfl
@[simp] theorem qV (x : Option α) : kNil [] x = x := rfl
@[simp] theorem kMSl_nil (x : Option α) (k : Nat → Nat → Option α) : kMSl .nil x k = x := rfl
@[simp] theorem kMSl_sl (off len : Nat) (x : Option α) (k : Nat → Nat → Option α) : kMSl (.sl off len) x k = k off len := rfl
@[simp] theorem kMUnit_unit (x : Option α) : qiV .unit x = x := rfl
@[simp] theorem kMBool_bool (b : Bool) (k : Bool → Option α) : qiW (.bool b) k = k b := rfl
@[simp] theorem kOwn_nil (x : Option α) (k : Nat → List (List AV) → Nat → Nat → Option α) : kOwn .nil x k = x := rfl
@[simp] theorem kOwn_own (sz : Nat) (rs : List (List AV)) (off len : Nat) (x : Option α) (k : Nat → List (List AV) → Nat → Nat → Option α) : kOwn (.own sz rs off len) x k = k sz rs off len := rfl
@[simp] theorem zz (rs : List (List AV)) (k : List (List AV) → Option α) : kSl (.sl rs) k = k rs := rfl
@[simp] theorem qB {β : Type} (l : List β) (i : Nat) : qqy l i = l[i]? := rfl
variable {α β : Type}
def qbq (b : Bool) (k : Bool → α) : α := match b with | true => k true | false => k false
def fNat (n : Nat) (k : Nat → α) : α := match n with | 0 => k 0 | m + 1 => k (m + 1)
def fInt (n : Int) (k : Int → α) : α := match n with | .ofNat m => fNat m fun m => k (.ofNat m) | .negSucc m => fNat m fun m => k (.negSucc m)
def fL (g : β → (β → α) → α) : List β → (List β → α) → α
 | [], k => k []
 | a :: l, k => g a fun a' => fL g l fun l' => k (a' :: l')
def qlU (kd : IntKind) (k : IntKind → α) : α := match kd with
 | .i64 => k .i64
 | .u64 => k .u64
 | .u8 => k .u8
 | .i32 => k .i32
 | .u32 => k .u32
 | x => k x
def qgd (b : UInt8) (k : UInt8 → α) : α := fNat b.toNat fun n => k (UInt8.ofNat n)
def fAV : Nat → AV → (AV → α) → α
 | 0, v, k => k v
 | n + 1, v, k => match v with
  | .int kd m => qlU kd fun kd => fInt m fun m => k (.int kd m)
  | .bool b => qbq b fun b => k (.bool b)
  | .str s => fL qgd s fun s => k (.str s)
  | .agg cs => fL (fAV n) cs fun cs => k (.agg cs)
  | .tup cs => fL (fAV n) cs fun cs => k (.tup cs)
  | .nilS => k .nilS
  | .sl rows => fL (fL (fAV n)) rows fun rows => k (.sl rows)
  | .em => k .em
  | .ms a b c => fNat a fun a => fNat b fun b => fNat c fun c => k (.ms a b c)
  | .nilP => k .nilP
  | .ptr a b c => fNat a fun a => fNat b fun b => fNat c fun c => k (.ptr a b c)
  | .cptr cs o => fL (fAV n) cs fun cs => fNat o fun o => k (.cptr cs o)
  | .fn f a b => fL (fAV n) a fun a => fL (fAV n) b fun b => k (.fn f a b)
  | .yld a => fNat a fun a => k (.yld a)
  | .nilF => k .nilF
  | .nilM => k .nilM
  | .mp a => fNat a fun a => k (.mp a)
  | .nilI => k .nilI
  | .ifc t v => fAV n v fun v => k (.ifc t v)
  | .junk => k .junk
  | .lsl r => k (.lsl r)
  | .lpt c o => k (.lpt c o)
  | .rsl i r => k (.rsl i r)
  | .rpt i c o => k (.rpt i c o)
  | .alt l => k (.alt l)
  | .wr a b => k (.wr a b)
def fB (b : ABlk) (k : ABlk → α) : α := match b with
 | .rows d sz rs => qbq d fun d => fNat sz fun sz => fL (fL (fAV 1)) rs fun rs => k (.rows d sz rs)
 | .froz d sz rs => qbq d fun d => fNat sz fun sz => fL (fL (fAV 1)) rs fun rs => k (.froz d sz rs)
 | .mp es => fL (fun (e : AV × AV) k => k e) es fun es => k (.mp es)
 | .loop f fr ps a b p s => fL (fAV 1) fr fun fr => k (.loop f fr ps a b p s)
 | .dead => k .dead
 | .res => k .res
 | .reg => k .reg
 | .spl => k .spl
 | .bld T e s => k (.bld T e s)
def fH (H : AH) (k : AH → α) : α := fL fB H k
theorem zF {g : β → (β → α) → α} (hg : ∀ b k, g b k = k b) : ∀ (l : List β) (k : List β → α), fL g l k = k l
 | [], _ => rfl
 | a :: l, k => by rw [fL, hg, zF hg l]
theorem qa7 (b : Bool) (k : Bool → α) : qbq b k = k b := by cases b <;> rfl
theorem xj (b : Nat) (k : Nat → α) : fNat b k = k b := by cases b <;> rfl
theorem qkQ (b : Int) (k : Int → α) : fInt b k = k b := by cases b <;> simp only [fInt, xj]
theorem qjb (b : IntKind) (k : IntKind → α) : qlU b k = k b := by cases b <;> rfl
theorem qeY (b : UInt8) (k : UInt8 → α) : qgd b k = k b := by simp [qgd, xj]
theorem qge : ∀ (n : Nat) (v : AV) (k : AV → α), fAV n v k = k v
 | 0, _, _ => rfl
 | n + 1, v, k => by
  have e1 : ∀ (l : List AV) (k : List AV → α), fL (fAV n) l k = k l := zF (qge n)
  have e2 : ∀ (l : List (List AV)) (k : List (List AV) → α), fL (fL (fAV n)) l k = k l := zF e1
  cases v <;> simp only [fAV, qjb, qkQ, qa7, xj, e1, e2, zF qeY, qge n]
theorem qqe (b : ABlk) (k : ABlk → α) : fB b k = k b := by
 have e1 : ∀ (l : List AV) (k : List AV → α), fL (fAV 1) l k = k l := zF (qge 1)
 have e2 : ∀ (l : List (List AV)) (k : List (List AV) → α), fL (fL (fAV 1)) l k = k l := zF e1
 cases b <;> simp only [fB, qa7, xj, e1, e2, zF (g := fun (e : AV × AV) (k : AV × AV → α) => k e) (fun _ _ => rfl)]
theorem qhY (H : AH) (k : AH → α) : fH H k = k H := zF qqe H k
def fFr (fr : List AV) (k : List AV → α) : α := fL (fun v k => match v with | .junk => k .junk | v => k v) fr k
theorem qa6 (fr : List AV) (k : List AV → α) : fFr fr k = k fr := zF (fun v k => by cases v <;> rfl) fr k
def qp2 (c a b : AV) (H : AH) : Option (AV × AH) :=
 match c with
 | .bool t => some (if t then a else b, H)
 | _ => none
def qpr (cfg : Cfg) (nid : Option Nat) (t : TypeId) (H : AH) : Option (AV × AH) :=
 match cfg.ty t with
 | some ti =>
  if vh ti.zero then
   match aNew nid H (zh cfg t ti.zero) with
   | some (k, H') => some (.ptr k 0 0, H')
   | none => none
  else none
 | none => none
def xBox (cfg : Cfg) (t : TypeId) (nid : Option Nat) (a : AV) (H : AH) : Option (AV × AH) :=
 match a.cells with
 | some cs =>
  match aNew nid H (qbb cfg t cs) with
  | some (k, H') => some (.ptr k 0 0, H')
  | none => none
 | none => none
def qpq (cfg : Cfg) (t : TypeId) (parts : List (Nat × AV)) (H : AH) : Option (AV × AH) :=
 match cfg.ty t with
 | some ti =>
  if vh ti.zero then
   match ti.d with
   | .struct fs =>
    match yy cfg fs with
    | some ps => (z8 (fun i => ps[i]?) ti.zero parts).map fun cs => (.agg (cfg.fga t cs), H)
    | none => none
   | .array _ e =>
    match cfg.sz e with
    | some n => (z8 (fun i => some (i * n, n)) ti.zero parts).map fun cs => (.agg cs, H)
    | none => none
   | _ => none
  else none
 | none => none
def qej (cfg : Cfg) (nid : Option Nat) (t : TypeId) (len : Nat) (parts : List (Nat × AV)) (H : AH) : Option (AV × AH) :=
 match cfg.td t with
 | some (.slice e) =>
  match cfg.ty e with
  | some ei =>
   if xN ei && qqB (len * ei.sz) 16777216 then
    match zJ ei.sz (qqG len ei.zero) parts with
    | some rows =>
     match aNew nid H (.rows (ql 0 rows) ei.sz rows) with
     | some (k, H') => some (.ms k 0 len, H')
     | none => none
    | none => none
   else none
  | none => none
 | _ => none
def qp3 (cfg : Cfg) (t : TypeId) (a : AV) (H : AH) : Option (AV × AH) :=
 match cfg.ty t with
 | some ti => (yc ti.d.agg ti.sz H a).map fun v => (v, H)
 | none => none
def qpo (cfg : Cfg) (t : TypeId) (a v : AV) (H : AH) : Option (AV × AH) :=
 match cfg.sz t with
 | some n => (xT n H a v).map fun H' => (.junk, H')
 | none => none
def xNil (a : AV) (H : AH) : Option (AV × AH) :=
 match a with
 | .ptr id r off => some (.ptr id r off, H)
 | .cptr cs off => some (.cptr cs off, H)
 | .fn (.func f) a b => some (.fn (.func f) a b, H)
 | .mp id => some (.mp id, H)
 | .yld id => some (.yld id, H)
 | _ => none
def qnu (t : AV) (i : Nat) (H : AH) : Option (AV × AH) :=
 match t with
 | .tup vs => (vs[i]?).map fun v => (v, H)
 | _ => none
def xOp (cfg : Cfg) (nid : Option Nat) (o : Op) (ty : TypeId) (x : Operand → AV) (H : AH) : Option (AV × AH) :=
 match o with
 | .move a | .assign a => some (x a, H)
 | .pick c a b => qp2 (x c) (x a) (x b) H
 | .alloc t => qpr cfg nid t H
 | .box t a => xBox cfg t nid (x a) H
 | .build t parts => qpq cfg t (parts.toList.map fun p => (p.1, x p.2)) H
 | .buildSlice t len parts => qej cfg nid t len (parts.toList.map fun p => (p.1, x p.2)) H
 | .load t a => qp3 cfg t (x a) H
 | .store t a v => qpo cfg t (x a) (x v) H
 | .nilCheck a => xNil (x a) H
 | .binOp op t a b _ => (aBin cfg (litN a b) op t (x a) (x b)).map fun v => (v, H)
 | .unOp op _ a => (aUn op (x a)).map fun v => (v, H)
 | .convert s d a => xI cfg nid s d (x a) H
 | .makeFunc f first caps => some (.fn f (first.toList.map x) (caps.toList.map x), H)
 | .makeSlice t l c => y3 cfg nid t (x l) (x c) H
 | .slice t a lo hi mx => (zI cfg t H (x a) (lo.map x) (hi.map x) (mx.map x)).map fun v => (v, H)
 | .fieldAddr t a f => (yS cfg t (x a) f).map fun v => (v, H)
 | .field t a f => (qcd cfg t (x a) f).map fun v => (v, H)
 | .indexAddr t a i => (xe cfg t H (x a).unwr (x i)).map fun v => (v, H)
 | .index t a i => (qcc cfg t (x a) (x i)).map fun v => (v, H)
 | .extract t i => qnu (x t) i H
 | o => evOp cfg nid o ty x H
theorem qmj (cfg : Cfg) (nid : Option Nat) (o : Op) (ty : TypeId) (x : Operand → AV) (H : AH) : xOp cfg nid o ty x H = evOp cfg nid o ty x H := by cases o <;> rfl
def qpp (cfg : Cfg) (cf : Orac) (nid : Option Nat) (f : AV) (args : List AV) (H : AH) : Option (AV × AH) := (xp f args).bind fun t => qw cfg cf nid t.1 t.2 H
def qp4 (cfg : Cfg) (cf : Orac) (nid : Option Nat) (o : Op) (c : Call) (ty : TypeId) (x : Operand → AV) (H : AH) : Option (AV × AH) :=
 match c.callee with
 | .value f => qpp cfg cf nid (x f) (c.args.toList.map x) H
 | _ => evOp cfg nid o ty x H
def qmi (cfg : Cfg) (cf : Orac) (nid : Option Nat) (o : Op) (ty : TypeId) (x : Operand → AV) (H : AH) : Option (AV × AH) :=
 match o with
 | .call c => qp4 cfg cf nid (.call c) c ty x H
 | o => xOp cfg nid o ty x H
def qhK (cfg : Cfg) (cf : Orac) (frz : Bool) (nid : Option Nat) (o : Oper) (x : Operand → AV) (H : AH) : Option (AV × AH) :=
 match frz with
 | false => qmi cfg cf nid o.op o.type x H
 | true => qD cfg cf true nid o x H
theorem qh3 (cfg : Cfg) (cf : Orac) (frz : Bool) (nid : Option Nat) (o : Oper) (x : Operand → AV) (H : AH) : qhK cfg cf frz nid o x H = qD cfg cf frz nid o x H := by
 cases frz with
 | true => rfl
 | false =>
  obtain ⟨dst, op, ty, pos, after, guard⟩ := o
  unfold qhK qmi qD
  simp only [qqq, if_false, qmj]
  cases op with
  | call c =>
   obtain ⟨callee, args, argTypes⟩ := c
   cases callee <;> rfl
  | _ => rfl
def qkL (o : Op) : Bool := match o with
 | .alloc _ | .box _ _ | .buildSlice _ _ _ | .store _ _ _ | .convert _ _ _ | .makeSlice _ _ _ | .call _ => false
 | _ => true
def xRes (q : Bool) (o : Option (AV × AH)) (k : AV → AH → Option β) : Option β :=
 match o with
 | none => none
 | some r => fAV 12 r.1 fun v => cond q (k v r.2) (fH r.2 fun H => k v H)
theorem qkH (q : Bool) (o : Option (AV × AH)) (k : AV → AH → Option β) : xRes q o k = o.bind fun r => k r.1 r.2 := by
 cases o with
 | none => rfl
 | some r => cases q <;> simp [xRes, qge, qhY]
def xOps (cfg : Cfg) (cf : Orac) (f rid : Nat) (ops : Array Oper) : Nat → List Oper → List AV → AH → Option (List AV × AH)
 | _, [], fr, H => some (fr, H)
 | k, o :: rest, fr, H =>
  match vp ops fr o with
  | none => none
  | some b =>
   cond b (xRes (qkL o.op && !cfg.frz f rid k) (qhK cfg cf (cfg.frz f rid k) none o (opd fr) H) fun v H' => fFr (put fr o.dst v) fun fr' => xOps cfg cf f rid ops (k + 1) rest fr' H')
    (fFr (put fr o.dst (.tup [])) fun fr' => xOps cfg cf f rid ops (k + 1) rest fr' H)
theorem qkI (cfg : Cfg) (cf : Orac) (f rid : Nat) (ops : Array Oper) : ∀ (l : List Oper) (k : Nat) (fr : List AV) (H : AH), xOps cfg cf f rid ops k l fr H = xK cfg cf f rid ops k l fr H
 | [], _, _, _ => rfl
 | o :: l, k, fr, H => by
  rw [xOps, xK]
  cases vp ops fr o with
  | none => rfl
  | some b => cases b <;> simp [qkH, qh3, qa6, qkI cfg cf f rid ops l]
def qff (cfg : Cfg) (cf : Orac) (f rid : Nat) (ops : Array Oper) : Nat → Nat → List Oper → List AV → AH → Option (List DR × List AV × AH)
 | _, _, [], fr, H => some ([], fr, H)
 | k, at_, o :: rest, fr, H =>
  match vp ops fr o with
  | none => none
  | some b =>
   fNat (at_ + qag cfg o) fun at' =>
   cond b (xRes (qkL o.op && !cfg.frz f rid k) (qhK cfg cf (cfg.frz f rid k) (some at_) o (opd fr) H) fun v H' => fFr (put fr o.dst v) fun fr' =>
     match qff cfg cf f rid ops (k + 1) at' rest fr' H' with
     | none => none
     | some q => some (drOf cfg (cfg.frz f rid k) at_ o (opd fr) H v H' :: q.1, q.2))
    (fFr (put fr o.dst (.tup [])) fun fr' =>
     match qff cfg cf f rid ops (k + 1) at' rest fr' H with
     | none => none
     | some q => some (drNo H :: q.1, q.2))
theorem qh5 (cfg : Cfg) (cf : Orac) (f rid : Nat) (ops : Array Oper) : ∀ (l : List Oper) (k at_ : Nat) (fr : List AV) (H : AH), qff cfg cf f rid ops k at_ l fr H = vM cfg cf f rid ops k at_ l fr H
 | [], _, _, _, _ => rfl
 | o :: l, k, at_, fr, H => by
  have em : ∀ (x : Option (List DR × List AV × AH)) (g : List DR × List AV × AH → List DR × List AV × AH), (match x with | none => none | some q => some (g q)) = x.map g := fun x g => by cases x <;> rfl
  rw [qff, vM]
  cases vp ops fr o with
  | none => rfl
  | some b => cases b <;> simp [qkH, qh3, qa6, xj, qh5 cfg cf f rid ops l, em]
def qhL (k : Nat) (ts : Option (List Tmp)) (ls : List (Tmp × Nat)) (body : Den) : Nat → List AV → AH → Option (Ex × List AV × AH)
 | 0, _, _ => none
 | n + 1, fr, H =>
  match body fr H with
  | none => none
  | some r =>
   match r.1 with
   | .normal => fFr (xa k ts ls r.2.1 r.2.2).1 fun fr' => fH (xa k ts ls r.2.1 r.2.2).2 fun H' => qhL k ts ls body n fr' H'
   | e => some (e, r.2)
theorem qh4 (k : Nat) (ts : Option (List Tmp)) (ls : List (Tmp × Nat)) (body : Den) : ∀ (n : Nat) (fr : List AV) (H : AH), qhL k ts ls body n fr H = vW k ts ls body n (fr, H)
 | 0, _, _ => rfl
 | n + 1, fr, H => by
  rw [qhL, vW]
  show _ = (body fr H).bind _
  cases body fr H with
  | none => rfl
  | some r =>
   simp only [qqt]
   cases hr : r.1 <;> simp [qa6, qhY, qh4 k ts ls body n]
def xC (cfg : Cfg) (cf : Orac) (m : Nat) (f : Nat) (rd : Option Nat) (bs : Nat) : Code → List AV → AH → Option (Ex × List AV × AH)
 | .skip, fr, H => some (.normal, fr, H)
 | .label _, fr, H => some (.normal, fr, H)
 | .region id ops draw, fr, H =>
  if draw then
   if x9 ops then
    match qff cfg cf f id ops 0 H.length ops.toList fr (H ++ qqG (places cfg ops.toList) .res) with
    | none => none
    | some q => if qaJ (ancs [] ops.toList) (H ++ qqG (places cfg ops.toList) .res) q.1 then some (.normal, q.2) else none
   else none
  else match xOps cfg cf f id ops 0 ops.toList fr H with
   | none => none
   | some q => some (.normal, q)
 | .seq a b, fr, H =>
  match xC cfg cf m f rd bs a fr H with
  | none => none
  | some r =>
   match r.1 with
   | .normal => fFr (qO (cfg.cut f (qe b)) r.2.1) fun fr' => xC cfg cf m f rd bs b fr' r.2.2
   | e => some (e, r.2)
 | .cond c a b, fr, H =>
  match opd fr c with
  | .bool t => if t then xC cfg cf m f rd bs a fr H else xC cfg cf m f rd bs b fr H
  | _ => none
 | .block id a, fr, H =>
  match xC cfg cf m f rd bs a fr H with
  | none => none
  | some r =>
   match r.1 with
   | .exit id' => some (if qqz id' id then (.normal, r.2) else r)
   | _ => some r
 | .loop a, fr, H =>
  match fFr (xa bs (cfg.keepIn f (qe a)) (cfg.lift f (qe a)) fr H).1 fun fr' => fH (xa bs (cfg.keepIn f (qe a)) (cfg.lift f (qe a)) fr H).2 fun H' => qhL bs (cfg.keepIn f (qe a)) (cfg.lift f (qe a)) (xC cfg cf m f rd bs a) m fr' H' with
  | none => none
  | some r => fFr (qO (cfg.keepOut f (qe a)) r.2.1) fun fr' => some (r.1, fr', r.2.2)
 | .scope a, fr, H =>
  match xC cfg cf m f rd bs a fr H with
  | none => none
  | some r =>
   match r.1 with
   | .goto _ => none
   | _ => some r
 | .exit id, fr, H => some (.exit id, fr, H)
 | .goto _, _, _ => none
 | .ret, fr, H => some (.ret, fr, H)
 | .rangeFunc g ps assign body, fr, H => fFr (qJ (cfg.lift f (qe body)) fr H).1 fun fr' => fH (qJ (cfg.lift f (qe body)) fr H).2 fun H' => yn cfg cf f rd bs g ps assign body fr' H'
 | .refuse _, _, _ => none
theorem qp5 (cfg : Cfg) {cf cf' : Orac} (hcf : ∀ t a H r, cf t a H = some r → cf' t a H = some r) (m : Nat) (f : Nat) (rd : Option Nat) (bs : Nat) : ∀ (cd : Code) (fr : List AV) (H : AH) (r), xC cfg cf m f rd bs cd fr H = some r → evC cfg cf' f rd bs cd fr H = some r := by
 have hev : Ev (fun _ => cf') cf := fun t a H r h => ⟨0, fun _ _ => hcf t a H r h⟩
 have key : ∀ {γ : Type} {G : Orac → Option γ}, EvG (fun _ => cf') cf G → ∀ r, G cf = some r → G cf' = some r := fun h r hr => by
  obtain ⟨n, hn⟩ := h r hr
  exact hn n (qqo _)
 intro cd
 induction cd with
 | skip => intro fr H r h; exact h
 | label l => intro fr H r h; exact h
 | exit id => intro fr H r h; exact h
 | ret => intro fr H r h; exact h
 | goto l => intro fr H r h; cases h
 | refuse s => intro fr H r h; cases h
 | region id ops draw =>
  intro fr H r h
  simp only [xC, evC] at h ⊢
  cases draw with
  | true =>
   simp only [if_true] at h ⊢
   split at h
   ·rename_i hd
    rw [if_pos hd]
    rw [qh5] at h
    cases hq : vM cfg cf f id ops 0 H.length ops.toList fr (H ++ qqG (places cfg ops.toList) .res) with
    | none => rw [hq] at h; cases h
    | some q =>
     rw [hq] at h
     have h2 := key (G := fun o => vM cfg o f id ops 0 H.length ops.toList fr (H ++ qqG (places cfg ops.toList) .res)) (qbr hev cfg f id ops _ _ _ _ _) q hq
     rw [h2]
     exact h
   ·cases h
  | false =>
   simp only [qqq, if_false] at h ⊢
   rw [qkI] at h
   refine key (G := fun q => (xK cfg q f id ops 0 ops.toList fr H).map fun q => (Ex.normal, q)) ((qcH hev cfg f id ops _ _ _ _).map _) r ?_
   rw [← h]
   cases xK cfg cf f id ops 0 ops.toList fr H <;> rfl
 | seq x y ihx ihy =>
  intro fr H r h
  simp only [xC, evC] at h ⊢
  cases hco : qba x with
  | some p =>
   obtain ⟨rfl, hcc⟩ := qbI hco
   have h1 : x9 p.2 = false := by unfold x9; rw [hcc]; rfl
   simp only [xC, if_true, h1, qqq, if_false] at h
   cases h
  | none => ?_
  simp only
  split at h
  ·cases h
  ·rename_i q hq
   rw [ihx _ _ _ hq]
   simp only [qqt]
   cases hq1 : q.1 with
   | normal => rw [hq1] at h; rw [qa6] at h; exact ihy _ _ _ h
   | exit id => rw [hq1] at h; exact h
   | goto l => rw [hq1] at h; exact h
   | ret => rw [hq1] at h; exact h
 | cond cnd x y ihx ihy =>
  intro fr H r h
  simp only [xC, evC] at h ⊢
  split at h
  ·rename_i t ht
   rw [ht]
   cases t with
   | true => exact ihx _ _ _ h
   | false => exact ihy _ _ _ h
  ·cases h
 | block id x ih =>
  intro fr H r h
  simp only [xC, evC] at h ⊢
  split at h
  ·cases h
  ·rename_i q hq
   rw [ih _ _ _ hq]
   exact h
 | loop x ih =>
  intro fr H r h
  simp only [xC, evC] at h ⊢
  split at h
  ·cases h
  ·rename_i q hq
   rw [qa6, qhY, qh4] at hq
   rw [qa6] at h
   have hl : LOOP bs (cfg.keepIn f (qe x)) (cfg.lift f (qe x)) (evC cfg cf' f rd bs x) (xa bs (cfg.keepIn f (qe x)) (cfg.lift f (qe x)) fr H) = some q := by
    refine qcf (n := m) ?_
    have up : ∀ (n : Nat) (p : List AV × AH) (r), vW bs (cfg.keepIn f (qe x)) (cfg.lift f (qe x)) (xC cfg cf m f rd bs x) n p = some r → vW bs (cfg.keepIn f (qe x)) (cfg.lift f (qe x)) (evC cfg cf' f rd bs x) n p = some r := by
     intro n
     induction n with
     | zero => intro p r h; cases h
     | succ n ihn =>
      intro p r h
      rw [vW] at h ⊢
      obtain ⟨q, h1, h2⟩ := qqk.1 h
      rw [ih _ _ _ h1]
      simp only [qqt]
      cases hq : q.1 with
      | normal => rw [hq] at h2; exact ihn _ _ h2
      | exit id => rw [hq] at h2; exact h2
      | goto l => rw [hq] at h2; exact h2
      | ret => rw [hq] at h2; exact h2
    exact up _ _ _ hq
   rw [hl]
   exact h
 | scope x ih =>
  intro fr H r h
  simp only [xC, evC] at h ⊢
  split at h
  ·cases h
  ·rename_i q hq
   rw [ih _ _ _ hq]
   exact h
 | rangeFunc g ps assign body =>
  intro fr H r h
  simp only [xC, evC, qa6, qhY] at h ⊢
  unfold yn at h ⊢
  split at h
  ·rename_i hl
   rw [if_pos hl]
   split at h
   ·split at h
    ·cases h
    ·rename_i hx
     rw [if_neg hx]
     obtain ⟨q, hq, h⟩ := qqk.1 h
     rw [hcf _ _ _ _ hq]
     exact h
   ·cases h
  ·cases h
variable {α β : Type}
noncomputable def gL (g : β → (β → α) → α) (l : List β) : (List β → α) → α :=
 List.rec (motive := fun _ => (List β → α) → α) (fun k => k []) (fun a _ ih k => g a fun a' => ih fun l' => k (a' :: l')) l
noncomputable def gS (l : List β) : (List β → α) → α :=
 List.rec (motive := fun _ => (List β → α) → α) (fun k => k []) (fun a _ ih k => ih fun l' => k (a :: l')) l
theorem x8 {g : β → (β → α) → α} (hg : ∀ b k, g b k = k b) : ∀ (l : List β) (k : List β → α), gL g l k = k l
 | [], _ => rfl
 | a :: l, k => by
  have : gL g (a :: l) k = g a fun a' => gL g l fun l' => k (a' :: l') := rfl
  rw [this, hg, x8 hg l]
theorem xy : ∀ (l : List β) (k : List β → α), gS l k = k l
 | [], _ => rfl
 | a :: l, k => by
  have : gS (a :: l) k = gS l fun l' => k (a :: l') := rfl
  rw [this, xy l]
def gA1 (v : AV) (k : AV → α) : α := match v with
 | .int kd m => qlU kd fun kd => fInt m fun m => k (.int kd m)
 | .bool b => qbq b fun b => k (.bool b)
 | .str s => fL qgd s fun s => k (.str s)
 | .ms a b c => fNat a fun a => fNat b fun b => fNat c fun c => k (.ms a b c)
 | .ptr a b c => fNat a fun a => fNat b fun b => fNat c fun c => k (.ptr a b c)
 | v => k v
theorem qi6 (v : AV) (k : AV → α) : gA1 v k = k v := by
 cases v <;> simp only [gA1, qjb, qkQ, qa7, xj, zF qeY]
noncomputable def gA2 (v : AV) (k : AV → α) : α := match v with
 | .agg cs => gL gA1 cs fun cs => k (.agg cs)
 | .sl rows => gL (gL gA1) rows fun rows => k (.sl rows)
 | .cptr cs o => gL gA1 cs fun cs => fNat o fun o => k (.cptr cs o)
 | .fn f a b => gL gA1 a fun a => gL gA1 b fun b => k (.fn f a b)
 | v => gA1 v k
theorem qm2 (v : AV) (k : AV → α) : gA2 v k = k v := by
 have e1 : ∀ (l : List AV) (k : List AV → α), gL gA1 l k = k l := x8 qi6
 cases v <;> simp only [gA2, qi6, e1, xj, x8 e1]
noncomputable def gA (v : AV) (k : AV → α) : α := match v with
 | .tup cs => gL gA2 cs fun cs => k (.tup cs)
 | .ifc t v => gA2 v fun v => k (.ifc t v)
 | v => gA2 v k
theorem zY (v : AV) (k : AV → α) : gA v k = k v := by
 cases v <;> simp only [gA, qm2, x8 qm2]
def gW (v : AV) (k : AV → α) : α := match v with
 | .int a b => k (.int a b)
 | .bool a => k (.bool a)
 | .str a => k (.str a)
 | .agg a => k (.agg a)
 | .tup a => k (.tup a)
 | .nilS => k .nilS
 | .sl a => k (.sl a)
 | .em => k .em
 | .ms a b c => k (.ms a b c)
 | .nilP => k .nilP
 | .ptr a b c => k (.ptr a b c)
 | .cptr a b => k (.cptr a b)
 | .fn a b c => k (.fn a b c)
 | .yld a => k (.yld a)
 | .nilF => k .nilF
 | .nilM => k .nilM
 | .mp a => k (.mp a)
 | .nilI => k .nilI
 | .ifc a b => k (.ifc a b)
 | .junk => k .junk
 | .lsl r => k (.lsl r)
 | .lpt c o => k (.lpt c o)
 | .rsl i r => k (.rsl i r)
 | .rpt i c o => k (.rpt i c o)
 | .alt l => k (.alt l)
 | .wr a b => k (.wr a b)
theorem qee (v : AV) (k : AV → α) : gW v k = k v := by cases v <;> rfl
noncomputable def gB (b : ABlk) (k : ABlk → α) : α := match b with
 | .rows d sz rs => qbq d fun d => fNat sz fun sz => gL (gL gA1) rs fun rs => k (.rows d sz rs)
 | .froz d sz rs => qbq d fun d => fNat sz fun sz => gL (gL gA1) rs fun rs => k (.froz d sz rs)
 | .mp es => gS es fun es => k (.mp es)
 | .loop f fr ps a b p s => gL gA1 fr fun fr => k (.loop f fr ps a b p s)
 | .dead => k .dead
 | .res => k .res
 | .reg => k .reg
 | .spl => k .spl
 | .bld T e s => fL qgd s fun s => k (.bld T e s)
theorem qlR (b : ABlk) (k : ABlk → α) : gB b k = k b := by
 have e1 : ∀ (l : List AV) (k : List AV → α), gL gA1 l k = k l := x8 qi6
 cases b <;> simp only [gB, qa7, xj, e1, x8 e1, xy, zF qeY]
noncomputable def gP (p : Nat × AV) (k : Nat × AV → α) : α := gA p.2 fun v => k (p.1, v)
theorem qlQ (p : Nat × AV) (k : Nat × AV → α) : gP p k = k p := by unfold gP; rw [zY]
noncomputable def gH (H : AH) (k : AH → α) : α := gL gB H k
theorem qcG (H : AH) (k : AH → α) : gH H k = k H := x8 qlR H k
abbrev Ov := List (Nat × AV)
def den (n : Nat) (ov : Ov) : List AV := ov.foldr (fun p fr => fr.set p.1 p.2) (qqG n .junk)
noncomputable def vB (t : Nat) (ov : Ov) : AV := List.rec (motive := fun _ => AV) .junk (fun p _ ih => cond (qqz p.1 t) p.2 ih) ov
theorem qdk (t : Nat) : vB t [] = .junk := rfl
theorem zu (t : Nat) (p : Nat × AV) (ov : Ov) : vB t (p :: ov) = cond (qqz p.1 t) p.2 (vB t ov) := rfl
def OvOk (n : Nat) (ov : Ov) : Prop := ∀ p ∈ ov, p.1 < n
theorem qb7 (n : Nat) (ov : Ov) : (den n ov).length = n := by
 induction ov with
 | nil => simp [den]
 | cons p l ih => simp only [den, List.foldr_cons, List.length_set]; exact ih
theorem qb8 {n : Nat} {ov : Ov} (h : OvOk n ov) (t : Nat) : (den n ov)[t]? = if t < n then some (vB t ov) else none := by
 induction ov with
 | nil =>
  simp only [den, List.foldr_nil, qdk, List.getElem?_replicate]
 | cons p l ih =>
  have hl : OvOk n l := fun q hq => h q (List.mem_cons_of_mem _ hq)
  have hp : p.1 < n := h p (List.mem_cons_self ..)
  have : (den n (p :: l))[t]? = ((den n l).set p.1 p.2)[t]? := rfl
  rw [this, qqu, ih hl, qb7, zu]
  by_cases e : p.1 = t
  ·subst e; simp [hp]
  ·have : qqz p.1 t = false := by rw [← qqK]; intro h'; exact e (qqn h')
   rw [if_neg e, this]; rfl
theorem qdl {n : Nat} {ov : Ov} (h : OvOk n ov) {t : Nat} (ht : ¬ t < n) : vB t ov = .junk := by
 induction ov with
 | nil => rfl
 | cons p l ih =>
  have hp : p.1 < n := h p (List.mem_cons_self ..)
  have : qqz p.1 t = false := by rw [← qqK]; intro h'; have := qqn h'; omega
  rw [zu, this]
  exact ih fun q hq => h q (List.mem_cons_of_mem _ hq)
theorem qgZ {n : Nat} {ov : Ov} (h : OvOk n ov) {fr : List AV} (hl : fr.length = n) (hg : ∀ t, t < n → fr[t]? = some (vB t ov)) : den n ov = fr := by
 apply List.ext_getElem?
 intro t
 rw [qb8 h]
 split
 ·rename_i ht; exact (hg t ht).symm
 ·rename_i ht; exact (List.getElem?_eq_none (by omega)).symm
noncomputable def opdO (ov : Ov) : Operand → AV
 | .tmp t => vB t ov
 | .const v => ofValue v
 | .global _ => .junk
 | .func f => .fn (.func f) [] []
theorem qbY {n : Nat} {ov : Ov} (h : OvOk n ov) : opd (den n ov) = opdO ov := by
 funext o
 cases o with
 | tmp t =>
  show (den n ov).getD t .junk = vB t ov
  rw [List.getD_eq_getElem?_getD, qb8 h]
  split
  ·rfl
  ·rename_i ht; exact (qdl h ht).symm
 | _ => rfl
def putO (n : Nat) (ov : Ov) (dst : Option Tmp) (v : AV) : Ov :=
 match dst with
 | some d => cond (Nat.blt d n) ((d, v) :: ov) ov
 | none => ov
theorem qd6 {n : Nat} {ov : Ov} (h : OvOk n ov) (dst : Option Tmp) (v : AV) : OvOk n (putO n ov dst v) := by
 cases dst with
 | none => exact h
 | some d =>
  simp only [putO]
  cases hd : Nat.blt d n with
  | false => exact h
  | true =>
   intro p hp
   rw [cond_true] at hp
   rcases qqH.1 hp with rfl | hp
   ·simpa [qqL] using hd
   ·exact h p hp
theorem qcq {n : Nat} {ov : Ov} (dst : Option Tmp) (v : AV) : den n (putO n ov dst v) = put (den n ov) dst v := by
 cases dst with
 | none => rfl
 | some d =>
  simp only [putO, put]
  cases hd : Nat.blt d n with
  | true => rfl
  | false =>
   have hd : ¬ d < n := by rw [← qqK, qqL] at hd; exact hd
   show den n ov = _
   rw [List.set_eq_of_length_le (by rw [qb7]; exact Nat.le_of_not_lt hd)]
noncomputable def qaE (ops : Array Oper) (ov : Ov) (o : Oper) : Option Bool :=
 match o.guard with
 | none => some true
 | some (j, want) =>
  match (ops[j]?).bind (·.dst) with
  | some d =>
   match vB d ov with
   | .bool b => some (b == want)
   | .tup [] => some false
   | _ => none
  | none => none
theorem qfl {n : Nat} {ov : Ov} (h : OvOk n ov) (ops : Array Oper) (o : Oper) : vp ops (den n ov) o = qaE ops ov o := by
 unfold vp qaE
 cases o.guard with
 | none => rfl
 | some p =>
  obtain ⟨j, want⟩ := p
  simp only
  cases (ops[j]?).bind (·.dst) with
  | none => rfl
  | some d =>
   simp only
   rw [qb8 h]
   by_cases hd : d < n
   ·rw [if_pos hd]
    cases vB d ov <;> try rfl
    rename_i vs; cases vs <;> rfl
   ·rw [if_neg hd, qdl h hd]
noncomputable def qh1 (n : Nat) (H : AH) (p v : AV) (k : AH → Option β) : Option β :=
 match p with
 | .ptr id r off =>
  match v.cells with
  | some cs =>
   match H[id]? with
   | some (.rows d sz rs) =>
    match rs[r]? with
    | some row => if cs.length == n && qqB (off + n) row.length then
      gS (row.take off ++ cs ++ row.drop (off + n)) fun row' => gS (rs.set r row') fun rs' => qbq (d && qk 0 cs) fun d' => gS (H.set id (.rows d' sz rs')) k
     else none
    | none => none
   | _ => none
  | none => none
 | .rpt id cs o => (xT n H (.rpt id cs o) v).bind k
 | _ => none
theorem qmc (n : Nat) (H : AH) (p v : AV) (k : AH → Option β) : qh1 n H p v k = (xT n H p v).bind k := by
 unfold qh1 xT
 cases p with
 | ptr id r off =>
  simp only
  cases hv : v.cells with
  | none => simp
  | some cs =>
   simp only
   cases hH : H[id]? with
   | none => simp
   | some b =>
    cases b <;> simp only [Option.bind_none]
    rename_i d sz rs
    cases hr : rs[r]? with
    | none => simp
    | some row =>
     simp only
     split <;> simp [xy, qa7]
 | rpt id cs o => rfl
 | _ => simp
noncomputable def yNew (nid : Option Nat) (H : AH) (b : ABlk) (k : Nat → AH → Option β) : Option β :=
 match nid with
 | none => fNat H.length fun i => gS (H ++ [b]) fun H' => k i H'
 | some i =>
  match H[i]? with
  | some .res => gS (H.set i b) fun H' => k i H'
  | _ => none
theorem qkG (nid : Option Nat) (H : AH) (b : ABlk) (k : Nat → AH → Option β) : yNew nid H b k = (aNew nid H b).bind fun r => k r.1 r.2 := by
 cases nid with
 | none => simp [yNew, aNew, xj, xy]
 | some i =>
  simp only [yNew, aNew]
  cases H[i]? with
  | none => rfl
  | some b => cases b <;> simp [xy]
noncomputable def qmh (cfg : Cfg) (nid : Option Nat) (t : TypeId) (H : AH) (k : AV → AH → Option β) : Option β :=
 match cfg.ty t with
 | some ti => if vh ti.zero then gB (zh cfg t ti.zero) fun b => yNew nid H b fun i H' => k (.ptr i 0 0) H' else none
 | none => none
noncomputable def yBox (cfg : Cfg) (t : TypeId) (nid : Option Nat) (a : AV) (H : AH) (k : AV → AH → Option β) : Option β :=
 match a.cells with
 | some cs => gS cs fun cs => gB (qbb cfg t cs) fun b => yNew nid H b fun i H' => k (.ptr i 0 0) H'
 | none => none
noncomputable def yOp (cfg : Cfg) (nid : Option Nat) (o : Op) (ty : TypeId) (x : Operand → AV) (H : AH) (k : AV → AH → Option β) : Option β :=
 match o with
 | .move a | .assign a => gW (x a) fun v => k v H
 | .alloc t => qmh cfg nid t H k
 | .box t a => yBox cfg t nid (x a) H k
 | .store t a v =>
  match cfg.sz t with
  | some n => qh1 n H (x a) (x v) fun H' => k .junk H'
  | none => none
 | .buildSlice t len parts => (match qej cfg nid t len (parts.toList.map fun p => (p.1, x p.2)) H with | some r => gA r.1 fun v => gH r.2 fun H' => k v H' | none => none)
 | .convert s d a => (match xI cfg nid s d (x a) H with | some r => gA r.1 fun v => gH r.2 fun H' => k v H' | none => none)
 | .makeSlice t l c => (match y3 cfg nid t (x l) (x c) H with | some r => gA r.1 fun v => gH r.2 fun H' => k v H' | none => none)
 | .call c => (match evOp cfg nid (.call c) ty x H with | some r => gA r.1 fun v => gH r.2 fun H' => k v H' | none => none)
 | o => (match xOp cfg nid o ty x H with | some r => gA r.1 fun v => k v r.2 | none => none)
theorem qpn (cfg : Cfg) (nid : Option Nat) (o : Op) (ty : TypeId) (x : Operand → AV) (H : AH) (k : AV → AH → Option β) : yOp cfg nid o ty x H k = (evOp cfg nid o ty x H).bind fun r => k r.1 r.2 := by
 have em : ∀ (q : Option (AV × AH)), (match q with | some r => gA r.1 fun v => gH r.2 fun H' => k v H' | none => none) = q.bind fun r => k r.1 r.2 := fun q => by cases q <;> simp [zY, qcG]
 have em' : ∀ (q : Option (AV × AH)), (match q with | some r => gA r.1 fun v => k v r.2 | none => none) = q.bind fun r => k r.1 r.2 := fun q => by cases q <;> simp [zY]
 cases o with
 | move a => simp [yOp, evOp, qee]
 | assign a => simp [yOp, evOp, qee]
 | alloc t =>
  simp only [yOp, evOp, qmh]
  cases cfg.ty t with
  | none => rfl
  | some ti =>
   simp only
   split
   ·simp only [qlR, qkG]
    cases aNew nid H (zh cfg t ti.zero) <;> rfl
   ·rfl
 | box t a =>
  simp only [yOp, evOp, yBox]
  cases (x a).cells with
  | none => rfl
  | some cs =>
   simp only [xy, qlR, qkG]
   cases aNew nid H (qbb cfg t cs) <;> rfl
 | store t a v =>
  simp only [yOp, evOp]
  cases cfg.sz t with
  | none => rfl
  | some n =>
   simp only [qmc]
   cases xT n H (x a) (x v) <;> rfl
 | buildSlice t len parts => simp only [yOp]; rw [em]; rfl
 | convert s d a => simp only [yOp]; rw [em]; rfl
 | makeSlice t l c => simp only [yOp]; rw [em]; rfl
 | call c => simp only [yOp]; rw [em]
 | _ => simp only [yOp]; rw [em', qmj]
structure Fact where
 frz : Bool
 f : Nat
 args : List AV
 v : AV
def Fact.Ok (cfg : Cfg) (e : Fact) : Prop := (if e.frz then EVf (EV cfg) e.f e.args else EVs (EV cfg) e.f e.args) = some e.v
def vq (cfg : Cfg) : List Fact → Prop
 | [] => True
 | e :: l => e.Ok cfg ∧ vq cfg l
theorem vq.nil {cfg : Cfg} : vq cfg [] := trivial
theorem vq.consF {cfg : Cfg} {f : Nat} {args : List AV} {v : AV} {l : List Fact} (h : EVf (EV cfg) f args = some v) (t : vq cfg l) : vq cfg (⟨true, f, args, v⟩ :: l) := ⟨h, t⟩
noncomputable def qa5 (frz : Bool) (f : Nat) (args : List AV) (fs : List Fact) : Option AV :=
 List.rec (motive := fun _ => Option AV) none (fun e _ ih => cond (qqz e.f f && (e.frz == frz && xJ e.args args)) (some e.v) ih) fs
theorem qbG {cfg : Cfg} {frz : Bool} {f : Nat} {args : List AV} {v : AV} : ∀ {fs : List Fact}, vq cfg fs → qa5 frz f args fs = some v → (if frz then EVf (EV cfg) f args else EVs (EV cfg) f args) = some v
 | [], _, h => by cases h
 | e :: l, hok, h => by
  have hd : qa5 frz f args (e :: l) = cond (qqz e.f f && (e.frz == frz && xJ e.args args)) (some e.v) (qa5 frz f args l) := rfl
  rw [hd] at h
  cases hc : (qqz e.f f && (e.frz == frz && xJ e.args args)) with
  | true =>
   rw [hc] at h
   simp only [qqi, beq_iff_eq] at hc
   cases h
   have := hok.1
   unfold Fact.Ok at this
   rw [← qqn hc.1, ← hc.2.1, ← xA hc.2.2]
   exact this
  | false =>
   rw [hc] at h
   exact qbG hok.2 h
noncomputable def qfe (cfg : Cfg) (cf : Orac) (nid : Option Nat) (t : Tgt) (args : List AV) (H : AH) (k : AV → AH → Option β) : Option β :=
 match qw cfg cf nid t args H with
 | some r => gA r.1 fun v => gH r.2 fun H' => k v H'
 | none => none
noncomputable def qmf (_cfg : Cfg) (cf : Orac) (fs : List Fact) (f : Nat) (al : List AV) (k : AV → Option β) : Option β :=
 cond (qk 0 al)
  (match qa5 false f al fs with
  | some v => cond v.scalar (k v) none
  | none => (match cf (.f f) al [] with | some r => gA r.1 fun v => cond v.scalar (k v) none | none => none)) none
noncomputable def qmg (_cfg : Cfg) (cf : Orac) (fs : List Fact) (f : Nat) (al : List AV) (k : AV → Option β) : Option β :=
 cond (qk 0 al)
  (match qa5 true f al fs with
  | some v => cond (v.refsLt 0) (k v) none
  | none => (match cf (.f f) al [] with | some r => gA (r.1.frz r.1.msIds r.2).fg fun v => cond (v.refsLt 0) (k v) none | none => none)) none
noncomputable def qh2 (cfg : Cfg) (cf : Orac) (fs : List Fact) (nid : Option Nat) (t : Tgt) (args : List AV) (H : AH) (k : AV → AH → Option β) : Option β :=
 match t with
 | .y id => qfe cfg cf nid (.y id) args H k
 | .f f =>
  match cfg.mode f with
  | .scal => gL gA (args.map fun a => (a.snap H).fg) fun al => qmf cfg cf fs f al fun v => k v H
  | .pfrz => gL gA (args.map AV.fg) fun al => qmg cfg cf fs f al fun v => k v H
  | _ => qfe cfg cf nid (.f f) args H k
noncomputable def qme (cfg : Cfg) (cf : Orac) (fs : List Fact) (nid : Option Nat) (f : AV) (args : List AV) (H : AH) (k : AV → AH → Option β) : Option β :=
 match xp f args with
 | some t => qh2 cfg cf fs nid t.1 t.2 H k
 | none => none
def Le (cf cf' : Orac) : Prop := ∀ t a H r, cf t a H = some r → cf' t a H = some r
theorem qjB {cfg : Cfg} {cf : Orac} (hcf : Le cf (EV cfg)) {fs : List Fact} (hfs : vq cfg fs) {nid : Option Nat} {t : Tgt} {args : List AV} {H : AH} {k : AV → AH → Option β} {r : β}
  (h : qh2 cfg cf fs nid t args H k = some r) : ∃ q, qw cfg (EV cfg) nid t args H = some q ∧ k q.1 q.2 = some r := by
 have hev : Ev (fun _ => EV cfg) cf := fun t a H r h => ⟨0, fun _ _ => hcf t a H r h⟩
 have gen : ∀ (t : Tgt), qfe cfg cf nid t args H k = some r → ∃ q, qw cfg (EV cfg) nid t args H = some q ∧ k q.1 q.2 = some r := by
  intro t h
  unfold qfe at h
  split at h
  ·rename_i q hq
   rw [zY, qcG] at h
   obtain ⟨n, hn⟩ := qjm hev cfg nid t args H q hq
   exact ⟨q, hn n (qqo _), h⟩
  ·cases h
 cases t with
 | y id => exact gen _ h
 | f f =>
  simp only [qh2] at h
  cases hm : cfg.mode f with
  | scal =>
   simp only [hm, x8 zY] at h
   unfold qmf at h
   obtain ⟨h1, h⟩ := qc h
   simp only [qw, hm, h1, if_true]
   split at h
   ·rename_i v hv
    obtain ⟨h2, h⟩ := qc h
    have := qbG hfs hv
    simp only [qqq, if_false] at this
    unfold EVs at this
    obtain ⟨q, hq, rfl⟩ := qql.1 this
    rw [hq]
    exact ⟨(q.1, H), by simp only [qqt, h2, if_true], h⟩
   ·split at h
    ·rename_i q hq
     rw [zY] at h
     obtain ⟨h2, h⟩ := qc h
     rw [hcf _ _ _ _ hq]
     exact ⟨(q.1, H), by simp only [qqt, h2, if_true], h⟩
    ·cases h
  | pfrz =>
   simp only [hm, x8 zY] at h
   unfold qmg at h
   obtain ⟨h1, h⟩ := qc h
   simp only [qw, hm, h1, if_true]
   split at h
   ·rename_i v hv
    obtain ⟨h2, h⟩ := qc h
    have := qbG hfs hv
    simp only [if_true] at this
    unfold EVf at this
    obtain ⟨q, hq, rfl⟩ := qql.1 this
    rw [hq]
    exact ⟨((q.1.frz q.1.msIds q.2).fg, H), by simp only [qqt, h2, if_true], h⟩
   ·split at h
    ·rename_i q hq
     rw [zY] at h
     obtain ⟨h2, h⟩ := qc h
     rw [hcf _ _ _ _ hq]
     exact ⟨((q.1.frz q.1.msIds q.2).fg, H), by simp only [qqt, h2, if_true], h⟩
    ·cases h
  | _ => simp only [hm] at h; exact gen _ h
noncomputable def qaN (cfg : Cfg) (cf : Orac) (fs : List Fact) (nid : Option Nat) (o : Op) (ty : TypeId) (x : Operand → AV) (H : AH) (k : AV → AH → Option β) : Option β :=
 match o with
 | .call c =>
  (match c.callee with
  | .value f => gL gW (c.args.toList.map x) fun args => qme cfg cf fs nid (x f) args H k
  | _ => yOp cfg nid (.call c) ty x H k)
 | o => yOp cfg nid o ty x H k
noncomputable def qhI (cfg : Cfg) (cf : Orac) (fs : List Fact) (frz : Bool) (nid : Option Nat) (o : Oper) (x : Operand → AV) (H : AH) (k : AV → AH → Option β) : Option β :=
 match frz with
 | false => qaN cfg cf fs nid o.op o.type x H k
 | true => gS (o.op.operands.toList.flatMap fun a => (x a).msIds) fun ids => gH (qv ids H) fun H' => qaN cfg cf fs nid o.op o.type (fun a => (x a).frz ids H) H' k
theorem qei {cfg : Cfg} {cf : Orac} (hcf : Le cf (EV cfg)) {fs : List Fact} (hfs : vq cfg fs) {nid : Option Nat} {o : Oper} {x : Operand → AV} {H : AH} {k : AV → AH → Option β} {r : β}
  (h : qaN cfg cf fs nid o.op o.type x H k = some r) : ∃ q, qD cfg (EV cfg) false nid o x H = some q ∧ k q.1 q.2 = some r := by
 obtain ⟨dst, op, ty, pos, after, guard⟩ := o
 unfold qD
 simp only [qqq, if_false] at h ⊢
 have plain : ∀ (op : Op), yOp cfg nid op ty x H k = some r → ∃ q, evOp cfg nid op ty x H = some q ∧ k q.1 q.2 = some r := by
  intro op h
  rw [qpn] at h
  exact qqk.1 h
 cases op with
 | call c =>
  obtain ⟨callee, args, argTypes⟩ := c
  cases callee with
  | value f =>
   simp only [qaN, x8 qee] at h ⊢
   unfold qme at h
   split at h
   ·rename_i t ht
    rw [ht]
    exact qjB hcf hfs h
   ·cases h
  | builtin b => simp only [qaN] at h ⊢; exact plain _ h
  | invoke rv nm => simp only [qaN] at h ⊢; exact plain _ h
 | _ => simp only [qaN] at h ⊢; exact plain _ h
theorem qe9 {cfg : Cfg} {cf : Orac} (hcf : Le cf (EV cfg)) {fs : List Fact} (hfs : vq cfg fs) {frz : Bool} {nid : Option Nat} {o : Oper} {x : Operand → AV} {H : AH} {k : AV → AH → Option β} {r : β}
  (h : qhI cfg cf fs frz nid o x H k = some r) : ∃ q, qD cfg (EV cfg) frz nid o x H = some q ∧ k q.1 q.2 = some r := by
 cases frz with
 | false => exact qei hcf hfs h
 | true =>
  simp only [qhI, xy, qcG] at h
  obtain ⟨q, h1, h2⟩ := qei hcf hfs h
  refine ⟨q, ?_, h2⟩
  unfold qD at h1 ⊢
  simpa using h1
noncomputable def yOps (cfg : Cfg) (cf : Orac) (fs : List Fact) (f rid : Nat) (ops : Array Oper) (n : Nat) : Nat → List Oper → Ov → AH → (Ov → AH → Option β) → Option β
 | _, [], ov, H, K => K ov H
 | i, o :: rest, ov, H, K =>
  match qaE ops ov o with
  | none => none
  | some b =>
   cond b (qhI cfg cf fs (cfg.frz f rid i) none o (opdO ov) H fun v H' => yOps cfg cf fs f rid ops n (i + 1) rest (putO n ov o.dst v) H' K)
    (yOps cfg cf fs f rid ops n (i + 1) rest (putO n ov o.dst (.tup [])) H K)
theorem qc1 {cfg : Cfg} {cf : Orac} (hcf : Le cf (EV cfg)) {fs : List Fact} (hfs : vq cfg fs) {f rid n : Nat} {ops : Array Oper} {r : β} : ∀ {l : List Oper} {i : Nat} {ov : Ov} {H : AH} {K : Ov → AH → Option β}, OvOk n ov → yOps cfg cf fs f rid ops n i l ov H K = some r →
  ∃ ov' H', OvOk n ov' ∧ xK cfg (EV cfg) f rid ops i l (den n ov) H = some (den n ov', H') ∧ K ov' H' = some r
 | [], i, ov, H, K, hok, h => ⟨ov, H, hok, rfl, h⟩
 | o :: l, i, ov, H, K, hok, h => by
  rw [yOps] at h
  rw [xK, qfl hok]
  cases hw : qaE ops ov o with
  | none => rw [hw] at h; cases h
  | some b =>
   rw [hw] at h
   simp only [qqt]
   cases b with
   | true =>
    simp only [cond_true] at h
    obtain ⟨q, h1, h2⟩ := qe9 hcf hfs h
    simp only [if_true, qbY hok, h1, qqt]
    obtain ⟨ov', H', h3, h4, h5⟩ := qc1 hcf hfs (qd6 hok _ _) h2
    rw [qcq] at h4
    exact ⟨ov', H', h3, h4, h5⟩
   | false =>
    simp only [cond_false] at h
    simp only [qqq, if_false]
    obtain ⟨ov', H', h3, h4, h5⟩ := qc1 hcf hfs (qd6 hok _ _) h
    rw [qcq] at h4
    exact ⟨ov', H', h3, h4, h5⟩
noncomputable def qfd (cfg : Cfg) (cf : Orac) (fs : List Fact) (f rid : Nat) (ops : Array Oper) (n : Nat) : Nat → Nat → List Oper → Ov → AH → (List DR → Ov → AH → Option β) → Option β
 | _, _, [], ov, H, K => K [] ov H
 | i, at_, o :: rest, ov, H, K =>
  match qaE ops ov o with
  | none => none
  | some b =>
   fNat (at_ + qag cfg o) fun at' =>
   cond b (qhI cfg cf fs (cfg.frz f rid i) (some at_) o (opdO ov) H fun v H' => qfd cfg cf fs f rid ops n (i + 1) at' rest (putO n ov o.dst v) H' fun fps ov' H'' => K (drOf cfg (cfg.frz f rid i) at_ o (opdO ov) H v H' :: fps) ov' H'')
    (qfd cfg cf fs f rid ops n (i + 1) at' rest (putO n ov o.dst (.tup [])) H fun fps ov' H'' => K (drNo H :: fps) ov' H'')
theorem qci {cfg : Cfg} {cf : Orac} (hcf : Le cf (EV cfg)) {fs : List Fact} (hfs : vq cfg fs) {f rid n : Nat} {ops : Array Oper} {r : β} : ∀ {l : List Oper} {i at_ : Nat} {ov : Ov} {H : AH} {K : List DR → Ov → AH → Option β}, OvOk n ov → qfd cfg cf fs f rid ops n i at_ l ov H K = some r →
  ∃ fps ov' H', OvOk n ov' ∧ vM cfg (EV cfg) f rid ops i at_ l (den n ov) H = some (fps, den n ov', H') ∧ K fps ov' H' = some r
 | [], i, at_, ov, H, K, hok, h => ⟨[], ov, H, hok, rfl, h⟩
 | o :: l, i, at_, ov, H, K, hok, h => by
  rw [qfd] at h
  rw [vM, qfl hok]
  cases hw : qaE ops ov o with
  | none => rw [hw] at h; cases h
  | some b =>
   rw [hw] at h
   simp only [qqt]
   simp only [xj] at h
   cases b with
   | true =>
    simp only [cond_true] at h
    obtain ⟨q, h1, h2⟩ := qe9 hcf hfs h
    simp only [if_true, qbY hok, h1, qqt]
    obtain ⟨fps, ov', H', h3, h4, h5⟩ := qci hcf hfs (qd6 hok _ _) h2
    rw [qcq] at h4
    exact ⟨_, ov', H', h3, by rw [h4]; rfl, h5⟩
   | false =>
    simp only [cond_false] at h
    simp only [qqq, if_false]
    obtain ⟨fps, ov', H', h3, h4, h5⟩ := qci hcf hfs (qd6 hok _ _) h
    rw [qcq] at h4
    exact ⟨_, ov', H', h3, by rw [h4]; rfl, h5⟩
def qae : Nat → List Nat → Bool
 | _, [] => true
 | i, k :: ks => qqB i k && qae (k + 1) ks
noncomputable def qhO (ks : List Nat) (ov : Ov) : (Ov → α) → α :=
 List.rec (motive := fun _ => (Ov → α) → α) (fun K => K []) (fun t _ ih K => gW (vB t ov) fun v => ih fun l => K ((t, v) :: l)) ks
theorem qnQ (ks : List Nat) (ov : Ov) : ∀ (K : Ov → α), qhO ks ov K = K (ks.map fun t => (t, vB t ov)) := by
 induction ks with
 | nil => intro K; rfl
 | cons t l ih =>
  intro K
  have : qhO (t :: l) ov K = gW (vB t ov) fun v => qhO l ov fun l => K ((t, v) :: l) := rfl
  rw [this, qee, ih, List.map_cons]
theorem qaw : ∀ (ks : List Nat) (fr : List AV) (i t : Nat), qae i ks = true → (vL i ks fr)[t]? = if t < fr.length then some (if i + t ∈ ks then (fr[t]?).getD .junk else .junk) else none
 | ks, [], i, t, _ => by cases ks <;> simp [vL]
 | [], a :: fr, i, t, h => by
  rw [vL]
  cases t with
  | zero => simp
  | succ t =>
   simp only [qqF]
   rw [qaw [] fr i t rfl]
   simp
 | k :: ks, a :: fr, i, t, h => by
  rw [qae, qqi, Nat.ble_eq] at h
  rw [vL]
  have hge : ∀ (l : List Nat) (j : Nat), qae j l = true → ∀ x ∈ l, j ≤ x := by
   intro l
   induction l with
   | nil => intro j _ x hx; cases hx
   | cons y l ih =>
    intro j hj x hx
    rw [qae, qqi, Nat.ble_eq] at hj
    rcases qqH.1 hx with rfl | hx
    ·exact hj.1
    ·have := ih _ hj.2 x hx; omega
  split
  ·rename_i e
   have e := qqn e
   subst e
   cases t with
   | zero => simp
   | succ t =>
    simp only [qqF]
    rw [qaw ks fr (i + 1) t h.2]
    have e1 : i + (t + 1) = i + 1 + t := by omega
    have e2 : ¬ i + 1 + t = i := by omega
    simp only [qqr, Nat.add_lt_add_iff_right, e1, qqH, e2, false_or]
  ·rename_i e
   have hne : i ≠ k := fun h' => e (by rw [h']; exact Nat.beq_refl _)
   cases t with
   | zero =>
    have : i ∉ k :: ks := by
     intro hm
     rcases qqH.1 hm with rfl | hm
     ·exact hne rfl
     ·have := hge _ _ h.2 i hm; omega
    simp [this]
   | succ t =>
    simp only [qqF]
    rw [qaw (k :: ks) fr (i + 1) t (by rw [qae, qqi, Nat.ble_eq]; exact ⟨by omega, h.2⟩)]
    have e1 : i + (t + 1) = i + 1 + t := by omega
    simp only [qqr, Nat.add_lt_add_iff_right, e1]
theorem qmM (ks : List Nat) (g : Nat → AV) (t : Nat) : vB t (ks.map fun t => (t, g t)) = if t ∈ ks then g t else .junk := by
 induction ks with
 | nil => rfl
 | cons k l ih =>
  rw [List.map_cons, zu, ih]
  by_cases e : k = t
  ·subst e; simp
  ·have h1 : qqz k t = false := by rw [← qqK]; intro h'; exact e (qqn h')
   have h2 : ¬ t = k := fun h => e h.symm
   rw [h1, cond_false]
   simp only [qqH, h2, false_or]
noncomputable def qfa (n : Nat) (ts : Option (List Nat)) (ov : Ov) (K : Ov → Option β) : Option β :=
 match ts with
 | none => K ov
 | some ks => cond (qae 0 ks && ks.all fun t => Nat.blt t n) (qhO ks ov K) none
theorem qch {n : Nat} {ts : Option (List Nat)} {ov : Ov} {K : Ov → Option β} {r : β} (hok : OvOk n ov) (h : qfa n ts ov K = some r) : ∃ ov', OvOk n ov' ∧ qO ts (den n ov) = den n ov' ∧ K ov' = some r := by
 cases ts with
 | none => exact ⟨ov, hok, rfl, h⟩
 | some ks =>
  simp only [qfa, qnQ] at h
  cases hc : (qae 0 ks && ks.all fun t => Nat.blt t n) with
  | false => rw [hc] at h; cases h
  | true =>
   rw [hc] at h
   rw [qqi, List.all_eq_true] at hc
   have hok' : OvOk n (ks.map fun t => (t, vB t ov)) := by
    intro p hp
    obtain ⟨t, ht, rfl⟩ := List.mem_map.1 hp
    have := hc.2 t ht
    simpa [qqL] using this
   refine ⟨_, hok', (qgZ hok' ?_ fun t ht => ?_).symm, h⟩
   ·show (vL 0 ks (den n ov)).length = n
    rw [(zy (ts := ks) (fr := den n ov) (k := 0)).1, qb7]
   ·show (vL 0 ks (den n ov))[t]? = _
    rw [qaw _ _ _ _ hc.1, qb7, if_pos ht, Nat.zero_add, qmM, qb8 hok, if_pos ht]
    rfl
noncomputable def qas (n : Nat) : List (Tmp × Nat) → Ov → AH → (Ov → AH → Option β) → Option β
 | [], ov, H, K => K ov H
 | p :: l, ov, H, K =>
  match vB p.1 ov with
  | .nilS => fNat H.length fun i => cond (Nat.blt p.1 n) (gS (H ++ [.rows true p.2 []]) fun H' => qas n l ((p.1, .ms i 0 0) :: ov) H' K) none
  | .ptr _ _ _ => (match yq p.1 p.2 (den n ov) H with | q => gH q.2 fun H' => qas n l ov H' K)
  | _ => qas n l ov H K
theorem qmQ {t sz : Nat} {fr : List AV} {H : AH} {id r off : Nat} (h : fr[t]? = some (.ptr id r off)) : (yq t sz fr H).1 = fr := by
 unfold yq
 rw [h]
 simp only
 split
 ·split
  ·split <;> rfl
  ·rfl
 ·rfl
theorem yJ {n : Nat} {r : β} : ∀ {ls : List (Tmp × Nat)} {ov : Ov} {H : AH} {K : Ov → AH → Option β}, OvOk n ov → qas n ls ov H K = some r → ∃ ov' H', OvOk n ov' ∧ qJ ls (den n ov) H = (den n ov', H') ∧ K ov' H' = some r
 | [], ov, H, K, hok, h => ⟨ov, H, hok, rfl, h⟩
 | p :: l, ov, H, K, hok, h => by
  rw [qas] at h
  rw [qJ]
  have hget : (den n ov)[p.1]? = if p.1 < n then some (vB p.1 ov) else none := qb8 hok p.1
  split at h
  ·rename_i hv
   simp only [xj] at h
   cases hb : Nat.blt p.1 n with
   | false => rw [hb] at h; cases h
   | true =>
    rw [hb] at h
    simp only [cond_true, xy] at h
    have hlt : p.1 < n := by simpa [qqL] using hb
    have hl1 : yq p.1 p.2 (den n ov) H = (den n ((p.1, .ms H.length 0 0) :: ov), H ++ [.rows true p.2 []]) := by
     unfold yq
     rw [hget, if_pos hlt, hv]; rfl
    rw [hl1]
    exact yJ (fun q hq => (qqH.1 hq).elim (fun e => by subst e; exact hlt) (hok q)) h
  ·rename_i id r' off hv
   simp only [qcG] at h
   by_cases hlt : p.1 < n
   ·rw [qmQ (by rw [hget, if_pos hlt, hv])]
    exact yJ hok h
   ·rw [qdl hok hlt] at hv; cases hv
  ·rename_i h1 h2
   have hl1 : yq p.1 p.2 (den n ov) H = (den n ov, H) := by
    unfold yq
    rw [hget]
    by_cases hlt : p.1 < n
    ·rw [if_pos hlt]
     split
     ·rename_i e; exact absurd (Option.some.inj e) h1
     ·rename_i a b c e; exact absurd (Option.some.inj e) (h2 a b c)
     ·rfl
    ·rw [if_neg hlt]
   rw [hl1]
   exact yJ hok h
def spGo : Nat → List AV → Ov
 | _, [] => []
 | i, .junk :: l => spGo (i + 1) l
 | i, v :: l => (i, v) :: spGo (i + 1) l
theorem qin : ∀ (l : List AV) (i t : Nat), vB t (spGo i l) = if i ≤ t then (l[t - i]?).getD .junk else .junk
 | [], i, t => by simp [spGo, qdk]
 | a :: l, i, t => by
  have ih := qin l (i + 1) t
  have key : ∀ (ov : Ov), ov = (i, a) :: spGo (i + 1) l → vB t ov = if i ≤ t then ((a :: l)[t - i]?).getD .junk else .junk := by
   intro ov e
   rw [e, zu, ih]
   by_cases e2 : i = t
   ·subst e2; simp
   ·have h1 : qqz i t = false := by rw [← qqK]; intro h'; exact e2 (qqn h')
    simp only [h1, cond_false]
    by_cases h3 : i + 1 ≤ t
    ·have h4 : t - i = (t - (i + 1)) + 1 := by omega
     rw [if_pos h3, if_pos (by omega), h4, qqF]
    ·rw [if_neg h3, if_neg (by omega)]
  cases a with
  | junk =>
   show vB t (spGo (i + 1) l) = _
   rw [ih]
   by_cases h3 : i + 1 ≤ t
   ·have h4 : t - i = (t - (i + 1)) + 1 := by omega
    rw [if_pos h3, if_pos (by omega), h4, qqF]
   ·rw [if_neg h3]
    by_cases e2 : i = t
    ·subst e2; simp
    ·rw [if_neg (by omega)]
  | _ => exact key _ rfl
theorem qaF : ∀ (l : List AV) (i n : Nat), i + l.length ≤ n → OvOk n (spGo i l)
 | [], i, n, _ => fun p hp => by cases hp
 | a :: l, i, n, h => by
  simp only [qqr] at h
  have ih := qaF l (i + 1) n (by omega)
  have key : OvOk n ((i, a) :: spGo (i + 1) l) := fun p hp => by
   rcases qqH.1 hp with rfl | hp
   ·show i < n; omega
   ·exact ih p hp
  cases a <;> first | exact key | exact ih
theorem qgo (l : List AV) : den l.length (spGo 0 l) = l := by
 have hok := qaF l 0 l.length (by omega)
 refine qgZ hok rfl fun t ht => ?_
 rw [qin, if_pos (Nat.zero_le _), Nat.sub_zero, qqm ht]; rfl
noncomputable def yGc (n k : Nat) (ov : Ov) (H : AH) (K : Ov → AH → Option β) : Option β :=
 cond (qqB H.length k) (K ov H) (match zE k (den n ov) H with | q => gS (spGo 0 q.1) fun ov' => gL gP ov' fun ov' => gH q.2 fun H' => K ov' H')
theorem qnJ (ρ : Nat → Nat) (l : List AV) : (renL ρ l).length = l.length := by rw [xB]; simp
theorem qm1 (k : Nat) (fr : List AV) (H : AH) : (zE k fr H).1.length = fr.length := by
 unfold zE
 simp only
 cases vU H (vQ k H (2 * H.length + 16) [] (qr k fr ++ vT k (H.take k))) with
 | none => rfl
 | some bs =>
  simp only
  split
  ·exact qnJ _ _
  ·rfl
theorem qnt {n k : Nat} {ov : Ov} {H : AH} {K : Ov → AH → Option β} {r : β} (hok : OvOk n ov) (h : yGc n k ov H K = some r) : ∃ ov' H', OvOk n ov' ∧ gc k (den n ov) H = (den n ov', H') ∧ K ov' H' = some r := by
 unfold yGc at h
 unfold gc
 cases hb : qqB H.length k with
 | true => rw [hb] at h; exact ⟨ov, H, hok, by simp, h⟩
 | false =>
  rw [hb] at h
  simp only [cond_false] at h
  rw [xy, x8 qlQ, qcG] at h
  have hl : (zE k (den n ov) H).1.length = n := by rw [qm1, qb7]
  have := qgo (zE k (den n ov) H).1
  rw [hl] at this
  refine ⟨_, _, ?_, ?_, h⟩
  ·exact qaF _ _ _ (by omega)
  ·simp only [qqq, if_false, this]
noncomputable def qkW (n k : Nat) (ts : Option (List Tmp)) (ls : List (Tmp × Nat)) (ov : Ov) (H : AH) (K : Ov → AH → Option β) : Option β :=
 qfa n ts ov fun ov => qas n ls ov H fun ov H => yGc n k ov H K
theorem qfc {n k : Nat} {ts : Option (List Tmp)} {ls : List (Tmp × Nat)} {ov : Ov} {H : AH} {K : Ov → AH → Option β} {r : β} (hok : OvOk n ov) (h : qkW n k ts ls ov H K = some r) :
  ∃ ov' H', OvOk n ov' ∧ xa k ts ls (den n ov) H = (den n ov', H') ∧ K ov' H' = some r := by
 obtain ⟨ov1, h1, h2, h⟩ := qch hok h
 obtain ⟨ov2, H2, h3, h4, h⟩ := yJ h1 h
 obtain ⟨ov3, H3, h5, h6, h⟩ := qnt h3 h
 refine ⟨ov3, H3, h5, ?_, h⟩
 unfold xa
 rw [h2, h4]
 exact h6
abbrev YE (β : Type) := Ex → Ov → AH → Option β
noncomputable def qhJ (n k : Nat) (ts : Option (List Tmp)) (ls : List (Tmp × Nat)) (body : Ov → AH → YE β → Option β) : Nat → Ov → AH → YE β → Option β
 | 0, _, _, _ => none
 | m + 1, ov, H, K => body ov H fun e ov' H' =>
  match e with
  | .normal => qkW n k ts ls ov' H' fun ov2 H2 => qhJ n k ts ls body m ov2 H2 K
  | e => K e ov' H'
noncomputable def qmd (cfg : Cfg) (cf : Orac) (f : Nat) (rd : Option Nat) (n bs : Nat) (g : Operand) (ps : Array Tmp) (assign body : Code) (ov : Ov) (H : AH) (K : YE β) : Option β :=
 gL gW (den n ov) fun fr =>
 match yn cfg cf f rd bs g ps assign body fr H with
 | none => none
 | some q => gS (spGo 0 q.2.1) fun ov' => gL gP ov' fun ov' => gH q.2.2 fun H' => cond (qqz q.2.1.length n) (K q.1 ov' H') none
noncomputable def yC (cfg : Cfg) (cf : Orac) (fs : List Fact) (m f : Nat) (rd : Option Nat) (n bs : Nat) : Code → Ov → AH → YE β → Option β
 | .skip, ov, H, K => K .normal ov H
 | .label _, ov, H, K => K .normal ov H
 | .region id ops draw, ov, H, K =>
  match draw with
  | true => cond (x9 ops) (gS (H ++ qqG (places cfg ops.toList) .res) fun H1 => qfd cfg cf fs f id ops n 0 H.length ops.toList ov H1 fun fps ov' H' => cond (qaJ (ancs [] ops.toList) H1 fps) (K .normal ov' H') none) none
  | false => yOps cfg cf fs f id ops n 0 ops.toList ov H fun ov' H' => K .normal ov' H'
 | .seq a b, ov, H, K =>
  match qba a with
  | some p =>
   gL gW (den n ov) fun fr =>
   match (zG cfg cf f p.1 p.2 p.2.size [] fr H).bind fun L => zm (fun fr H => (xC cfg cf m f rd bs b (qO (cfg.cut f (qe b)) fr) H).map (qg1 bs (dsts a ++ dsts b))) L with
   | none => none
   | some q => gS (spGo 0 q.2.1) fun ov' => gL gP ov' fun ov' => gH q.2.2 fun H' => cond (qqz q.2.1.length n) (K q.1 ov' H') none
  | none => yC cfg cf fs m f rd n bs a ov H fun e ov' H' =>
   match e with
   | .normal => qfa n (cfg.cut f (qe b)) ov' fun ov2 => yC cfg cf fs m f rd n bs b ov2 H' K
   | e => K e ov' H'
 | .cond c a b, ov, H, K =>
  match opdO ov c with
  | .bool t => (match t with | true => yC cfg cf fs m f rd n bs a ov H K | false => yC cfg cf fs m f rd n bs b ov H K)
  | _ => none
 | .block id a, ov, H, K => yC cfg cf fs m f rd n bs a ov H fun e ov' H' =>
  match e with
  | .exit id' => cond (qqz id' id) (K .normal ov' H') (K (.exit id') ov' H')
  | e => K e ov' H'
 | .loop a, ov, H, K => qkW n bs (cfg.keepIn f (qe a)) (cfg.lift f (qe a)) ov H fun ov H =>
   qhJ n bs (cfg.keepIn f (qe a)) (cfg.lift f (qe a)) (yC cfg cf fs m f rd n bs a) m ov H fun e ov H => qfa n (cfg.keepOut f (qe a)) ov fun ov => K e ov H
 | .scope a, ov, H, K => yC cfg cf fs m f rd n bs a ov H fun e ov' H' =>
  match e with
  | .goto _ => none
  | e => K e ov' H'
 | .exit id, ov, H, K => K (.exit id) ov H
 | .goto _, _, _, _ => none
 | .ret, ov, H, K => K .ret ov H
 | .rangeFunc g ps assign body, ov, H, K => qas n (cfg.lift f (qe body)) ov H fun ov H => qmd cfg cf f rd n bs g ps assign body ov H K
 | .refuse _, _, _, _ => none
theorem qfb {n k : Nat} {ts : Option (List Tmp)} {ls : List (Tmp × Nat)} {body : Ov → AH → YE β → Option β} {den' : Den} {r : β}
  (hb : ∀ {ov H K}, OvOk n ov → body ov H K = some r → ∃ e ov' H', OvOk n ov' ∧ den' (den n ov) H = some (e, den n ov', H') ∧ K e ov' H' = some r) :
  ∀ (m : Nat) {ov : Ov} {H : AH} {K : YE β}, OvOk n ov → qhJ n k ts ls body m ov H K = some r → ∃ e ov' H', OvOk n ov' ∧ vW k ts ls den' m (den n ov, H) = some (e, den n ov', H') ∧ K e ov' H' = some r
 | 0, ov, H, K, _, h => by cases h
 | m + 1, ov, H, K, hok, h => by
  rw [qhJ] at h
  obtain ⟨e, ov1, H1, h1, h2, h3⟩ := hb hok h
  rw [vW]
  simp only [h2, qqt]
  cases e with
  | normal =>
   simp only at h3 ⊢
   obtain ⟨ov2, H2, h4, h5, h6⟩ := qfc h1 h3
   rw [h5]
   exact qfb hb m h4 h6
  | exit id => exact ⟨_, ov1, H1, h1, rfl, h3⟩
  | goto l => exact ⟨_, ov1, H1, h1, rfl, h3⟩
  | ret => exact ⟨_, ov1, H1, h1, rfl, h3⟩
theorem qgE {cfg : Cfg} {cf : Orac} (hcf : Le cf (EV cfg)) {fs : List Fact} (hfs : vq cfg fs) {m f : Nat} {rd : Option Nat} {n bs : Nat} {r : β} : ∀ (c : Code) {ov : Ov} {H : AH} {K : YE β}, OvOk n ov → yC cfg cf fs m f rd n bs c ov H K = some r →
  ∃ e ov' H', OvOk n ov' ∧ evC cfg (EV cfg) f rd bs c (den n ov) H = some (e, den n ov', H') ∧ K e ov' H' = some r := by
 intro c
 induction c with
 | skip => intro ov H K hok h; exact ⟨_, ov, H, hok, by simp only [evC], h⟩
 | label l => intro ov H K hok h; exact ⟨_, ov, H, hok, by simp only [evC], h⟩
 | exit id => intro ov H K hok h; exact ⟨_, ov, H, hok, by simp only [evC], h⟩
 | ret => intro ov H K hok h; exact ⟨_, ov, H, hok, by simp only [evC], h⟩
 | goto l => intro ov H K hok h; cases h
 | refuse s => intro ov H K hok h; cases h
 | region id ops draw =>
  intro ov H K hok h
  simp only [yC] at h
  simp only [evC]
  cases draw with
  | true =>
   simp only at h
   obtain ⟨h1, h⟩ := qc h
   rw [xy] at h
   obtain ⟨fps, ov', H', h2, h3, h⟩ := qci hcf hfs hok h
   obtain ⟨h4, h⟩ := qc h
   exact ⟨_, ov', H', h2, by simp only [if_true, h1, h3, qqt, h4], h⟩
  | false =>
   simp only at h
   obtain ⟨ov', H', h2, h3, h⟩ := qc1 hcf hfs hok h
   exact ⟨_, ov', H', h2, by simp only [qqq, if_false, h3, qqD], h⟩
 | seq x y ihx ihy =>
  intro ov H K hok h
  simp only [yC] at h
  simp only [evC]
  cases hco : qba x with
  | some p =>
   simp only [hco] at h ⊢
   rw [x8 qee] at h
   split at h
   ·cases h
   ·rename_i q hq
    obtain ⟨L, hL, hq⟩ := qqk.1 hq
    have hev : Ev (fun _ => EV cfg) cf := fun t a H r h => ⟨0, fun _ _ => hcf t a H r h⟩
    obtain ⟨_, hL'⟩ := qe0 hev cfg f p.1 p.2 _ _ _ _ _ hL
    have hL' : zG cfg (EV cfg) f p.1 p.2 p.2.size [] (den n ov) H = some L := hL' _ (qqo _)
    have hq' := qiu (G := fun fr H => (evC cfg (EV cfg) f rd bs y (qO (cfg.cut f (qe y)) fr) H).map (qg1 bs (dsts x ++ dsts y))) (fun fr H r hr => by
     obtain ⟨r', hr', e⟩ := qql.1 hr
     rw [qp5 cfg hcf m f rd bs y _ _ _ hr', ← e]; rfl) hq
    rw [xy, x8 qlQ, qcG] at h
    obtain ⟨hl, h⟩ := qc h
    have hl := qqn hl
    have hd := qgo q.2.1
    rw [hl] at hd
    refine ⟨q.1, _, q.2.2, ?_, ?_, h⟩
    ·exact qaF _ _ _ (by omega)
    ·rw [hL', qqt, hq', hd]
  | none => ?_
  simp only [hco] at h ⊢
  obtain ⟨e, ov1, H1, h1, h2, h⟩ := ihx hok h
  rw [h2]
  simp only [qqt]
  cases e with
  | normal =>
   simp only at h ⊢
   obtain ⟨ov2, h3, h4, h⟩ := qch h1 h
   rw [h4]
   exact ihy h3 h
  | exit id => exact ⟨_, ov1, H1, h1, rfl, h⟩
  | goto l => exact ⟨_, ov1, H1, h1, rfl, h⟩
  | ret => exact ⟨_, ov1, H1, h1, rfl, h⟩
 | cond c x y ihx ihy =>
  intro ov H K hok h
  simp only [yC] at h
  simp only [evC, qbY hok]
  split at h
  ·rename_i t ht
   rw [ht]
   cases t with
   | true => exact ihx hok h
   | false => exact ihy hok h
  ·cases h
 | block id x ih =>
  intro ov H K hok h
  simp only [yC] at h
  simp only [evC]
  obtain ⟨e, ov1, H1, h1, h2, h⟩ := ih hok h
  rw [h2]
  simp only [qqt]
  cases e with
  | normal => exact ⟨_, ov1, H1, h1, rfl, h⟩
  | exit id' =>
   simp only at h ⊢
   cases hb : qqz id' id with
   | true => rw [hb] at h; exact ⟨_, ov1, H1, h1, by simp, h⟩
   | false => rw [hb] at h; exact ⟨_, ov1, H1, h1, by simp, h⟩
  | goto l => exact ⟨_, ov1, H1, h1, rfl, h⟩
  | ret => exact ⟨_, ov1, H1, h1, rfl, h⟩
 | loop x ih =>
  intro ov H K hok h
  simp only [yC] at h
  simp only [evC]
  obtain ⟨ov1, H1, h1, h2, h⟩ := qfc hok h
  rw [h2]
  obtain ⟨e, ov2, H2, h3, h4, h⟩ := qfb (den' := evC cfg (EV cfg) f rd bs x) (fun hok h => ih hok h) m h1 h
  obtain ⟨ov3, h5, h6, h⟩ := qch h3 h
  rw [qcf h4]
  exact ⟨e, ov3, H2, h5, by simp only [qqD, h6], h⟩
 | scope x ih =>
  intro ov H K hok h
  simp only [yC] at h
  simp only [evC]
  obtain ⟨e, ov1, H1, h1, h2, h⟩ := ih hok h
  rw [h2]
  simp only [qqt]
  cases e with
  | goto l => cases h
  | normal => exact ⟨_, ov1, H1, h1, rfl, h⟩
  | exit id => exact ⟨_, ov1, H1, h1, rfl, h⟩
  | ret => exact ⟨_, ov1, H1, h1, rfl, h⟩
 | rangeFunc g ps assign body =>
  intro ov H K hok h
  simp only [yC] at h
  simp only [evC]
  obtain ⟨ov1, H1, h1, h2, h⟩ := yJ hok h
  rw [h2]
  simp only
  unfold qmd at h
  rw [x8 qee] at h
  split at h
  ·cases h
  ·rename_i q hq
   have hq : yn cfg (EV cfg) f rd bs g ps assign body (den n ov1) H1 = some q := by
    unfold yn at hq ⊢
    split at hq
    ·rename_i hl
     rw [if_pos hl]
     split at hq
     ·split at hq
      ·cases hq
      ·rename_i hx
       rw [if_neg hx]
       obtain ⟨q2, hq2, hq⟩ := qqk.1 hq
       rw [hcf _ _ _ _ hq2]
       exact hq
     ·cases hq
    ·cases hq
   rw [xy, x8 qlQ, qcG] at h
   obtain ⟨hl, h⟩ := qc h
   have hl := qqn hl
   have hd := qgo q.2.1
   rw [hl] at hd
   refine ⟨q.1, _, q.2.2, ?_, ?_, h⟩
   ·exact qaF _ _ _ (by omega)
   ·rw [hq, hd]
noncomputable def resO (rs : List ResultVar) (ty : TypeId → Option TI) (ov : Ov) (H : AH) : Option (List AV) :=
 match rs with
 | [] => some []
 | .tmp t :: l => (resO l ty ov H).map fun vs => vB t ov :: vs
 | .cell a t :: l =>
  match ty t with
  | some ti => (yc ti.d.agg ti.sz H (vB a ov)).bind fun v => (resO l ty ov H).map fun vs => v :: vs
  | none => none
theorem qgP {n : Nat} {ov : Ov} (hok : OvOk n ov) (ty : TypeId → Option TI) (H : AH) : ∀ rs : List ResultVar, vK rs ty (den n ov) H = resO rs ty ov H
 | [] => rfl
 | .tmp t :: l => by
  have : (den n ov).getD t .junk = vB t ov := congrFun (qbY hok) (.tmp t)
  simp only [vK, resO, qgP hok ty H l, this]
 | .cell a t :: l => by
  have : (den n ov).getD a .junk = vB a ov := congrFun (qbY hok) (.tmp a)
  simp only [vK, resO, qgP hok ty H l, this]
  cases ty t <;> rfl
noncomputable def yEnd (cfg : Cfg) (f n : Nat) (rs : List ResultVar) : YE (AV × AH) := fun e ov H =>
 match e with
 | .normal | .ret => qas n (cfg.lift f 0) ov H fun ov H => (match resO rs cfg.ty ov H with | some vs => gA (xO vs) fun v => some (v, H) | none => none)
 | _ => none
def qcL : Nat → List AV → Ov
 | _, [] => []
 | i, a :: l => (i, a) :: qcL (i + 1) l
theorem qe6 : ∀ (l : List AV) (i n : Nat), i + l.length ≤ n → OvOk n (qcL i l)
 | [], i, n, _ => fun p hp => by cases hp
 | a :: l, i, n, h => by
  simp only [qqr] at h
  intro p hp
  rcases qqH.1 hp with rfl | hp
  ·show i < n; omega
  ·exact qe6 l (i + 1) n (by omega) p hp
theorem qhw : ∀ (l : List AV) (i t : Nat), vB t (qcL i l) = if i ≤ t then (l[t - i]?).getD .junk else .junk
 | [], i, t => by simp [qcL, qdk]
 | a :: l, i, t => by
  rw [qcL, zu, qhw l (i + 1) t]
  by_cases e2 : i = t
  ·subst e2; simp
  ·have h1 : qqz i t = false := by rw [← qqK]; intro h'; exact e2 (qqn h')
   simp only [h1, cond_false]
   by_cases h3 : i + 1 ≤ t
   ·have h4 : t - i = (t - (i + 1)) + 1 := by omega
    rw [if_pos h3, if_pos (by omega), h4, qqF]
   ·rw [if_neg h3, if_neg (by omega)]
theorem qn2 {l : List AV} {n : Nat} (h : l.length ≤ n) : den n (qcL 0 l) = l ++ qqG (n - l.length) .junk := by
 refine qgZ (qe6 l 0 n (by omega)) (by simp; omega) fun t ht => ?_
 rw [qhw, if_pos (Nat.zero_le _), Nat.sub_zero]
 by_cases hl : t < l.length
 ·rw [qqs hl, qqm hl]; rfl
 ·rw [qqw (by omega), List.getElem?_replicate, if_pos (by omega), List.getElem?_eq_none (by omega)]; rfl
noncomputable def yY2 (id : Nat) : YE (AV × AH) := fun e _ H =>
 match H[id]? with
 | some (.loop f' fr' ps' assign' body' _ _) =>
  match e with
  | .normal => gS (H.set id (.loop f' fr' ps' assign' body' none .ready)) fun H' => some (.bool true, H')
  | .ret => gS (H.set id (.loop f' fr' ps' assign' body' (some .ret) .done)) fun H' => some (.bool false, H')
  | .exit x => gS (H.set id (.loop f' fr' ps' assign' body' (some (.exit x)) .done)) fun H' => some (.bool false, H')
  | .goto _ => none
 | _ => none
noncomputable def yF (cfg : Cfg) (look : Nat → Option Func) (fs : List Fact) (m : Nat) : Nat → Orac
 | 0, _, _, _ => none
 | d + 1, .f f, args, H =>
  match cfg.ext f with
  | some s => s args H
  | none =>
   if cfg.known f then
    match look f with
    | some fn =>
     match fn.body with
     | some c => cond (qqB args.length fn.ntmps) (fNat H.length fun bs => fNat fn.ntmps fun n => gS (qcL 0 args) fun ov => yC cfg (yF cfg look fs m d) fs m f none n bs c ov H (yEnd cfg f n fn.results.toList)) none
     | none => none
    | none => none
   else none
 | d + 1, .y id, args, H =>
  match H[id]? with
  | some (.loop f fr ps assign body _ .ready) =>
   cond (qqz args.length ps.length)
    (fNat H.length fun bs => fNat (xf fr ps args).length fun n => gS (spGo 0 (xf fr ps args)) fun ov => yC cfg (yF cfg look fs m d) fs m f (some id) n bs assign ov H fun e ov H =>
     match e with
     | .normal =>
      (match H[id]? with
      | some (.loop f' fr' ps' assign' body' pend' .ready) => gS (H.set id (.loop f' fr' ps' assign' body' pend' .busy)) fun H' => yC cfg (yF cfg look fs m d) fs m f (some id) n bs body ov H' (yY2 id)
      | _ => none)
     | _ => none) none
  | _ => none
theorem qkX (cfg : Cfg) {look : Nat → Option Func} (hl : ∀ f fn, look f = some fn → cfg.P.funcs[f]? = some fn) {fs : List Fact} (hfs : vq cfg fs) (m : Nat) : ∀ (d : Nat) (t : Tgt) (a : List AV) (H : AH) (r), yF cfg look fs m d t a H = some r → EV cfg t a H = some r
 | 0, _, _, _, _, h => by cases h
 | d + 1, t, a, H, r, h => by
  have ih := qkX cfg hl hfs m d
  refine qbx ?_
  cases t with
  | f f =>
   simp only [yF] at h
   unfold vg
   split at h
   ·rename_i s hs
    simp only [hs]
    exact h
   ·rename_i hs
    simp only [hs]
    split at h
    ·rename_i hk
     rw [if_pos hk]
     split at h
     ·rename_i fn hf
      simp only [hl f fn hf]
      split at h
      ·rename_i c hb
       simp only [hb]
       obtain ⟨hle, h⟩ := qc h
       rw [Nat.ble_eq] at hle
       simp only [xj, xy] at h
       obtain ⟨e, ov', H', h1, h2, h3⟩ := qgE ih hfs c (qe6 a 0 fn.ntmps (by omega)) h
       rw [qn2 hle] at h2
       rw [h2]
       simp only [qqt]
       unfold yEnd at h3
       have fin : ∀ (e : Ex), (e = .normal ∨ e = .ret) → (qas fn.ntmps (cfg.lift f 0) ov' H' fun ov H => (match resO fn.results.toList cfg.ty ov H with | some vs => gA (xO vs) fun v => some (v, H) | none => none)) = some r →
         qak cfg fn.results.toList (e, qJ (cfg.lift f 0) (den fn.ntmps ov') H') = some r := by
        intro e he h3
        obtain ⟨ov2, H2, h4, h5, h6⟩ := yJ h1 h3
        rw [h5]
        unfold qak
        rcases he with rfl | rfl <;>
        ·simp only [qgP h4]
         split at h6
         ·rename_i vs hv
          rw [zY] at h6
          rw [hv]
          exact h6
         ·cases h6
       cases e with
       | normal => exact fin _ (.inl rfl) h3
       | ret => exact fin _ (.inr rfl) h3
       | exit x => cases h3
       | goto l => cases h3
      ·cases h
     ·cases h
    ·cases h
  | y id =>
   simp only [yF] at h
   unfold vg
   split at h
   ·rename_i f fr ps assign body p hlp
    simp only [hlp]
    obtain ⟨hlen, h⟩ := qc h
    rw [if_pos (qqn hlen)]
    simp only [xj, xy] at h
    obtain ⟨e, ov1, H1, h1, h2, h3⟩ := qgE ih hfs assign (qaF _ 0 _ (by omega)) h
    rw [qgo] at h2
    rw [h2]
    simp only [qqt]
    cases e with
    | normal =>
     simp only at h3 ⊢
     split at h3
     ·rename_i f' fr' ps' assign' body' pend' hl1
      simp only [hl1]
      obtain ⟨e2, ov2, H2, h4, h5, h6⟩ := qgE ih hfs body h1 h3
      rw [h5]
      simp only [qqt]
      unfold yY2 at h6
      split at h6
      ·rename_i hl2
       simp only [hl2]
       cases e2 with
       | normal => simp only [xy] at h6; exact h6
       | ret => simp only [xy] at h6; exact h6
       | exit x => simp only [xy] at h6; exact h6
       | goto l => cases h6
      ·cases h6
     ·cases h3
    | exit x => cases h3
    | goto l => cases h3
    | ret => cases h3
   ·cases h
theorem qpH {cfg : Cfg} {look : Nat → Option Func} (hl : ∀ f fn, look f = some fn → cfg.P.funcs[f]? = some fn) {fs : List Fact} (hfs : vq cfg fs) {f : Nat} {args : List AV} {v : AV} (m d : Nat)
  (h : (match yF cfg look fs m d (.f f) args [] with | some r => some r.1 | none => none) = some v) : EVs (EV cfg) f args = some v := by
 unfold EVs
 cases hx : yF cfg look fs m d (.f f) args [] with
 | none => rw [hx] at h; cases h
 | some r => rw [hx] at h; rw [qkX cfg hl hfs m d _ _ _ _ hx]; exact h
theorem qpI {cfg : Cfg} {look : Nat → Option Func} (hl : ∀ f fn, look f = some fn → cfg.P.funcs[f]? = some fn) {fs : List Fact} (hfs : vq cfg fs) {f : Nat} {args : List AV} {v : AV} (m d : Nat)
  (h : (match yF cfg look fs m d (.f f) args [] with | some r => gA (r.1.frz r.1.msIds r.2).fg some | none => none) = some v) : EVf (EV cfg) f args = some v := by
 unfold EVf
 cases hx : yF cfg look fs m d (.f f) args [] with
 | none => rw [hx] at h; cases h
 | some r => rw [hx] at h; rw [qkX cfg hl hfs m d _ _ _ _ hx]; simp only [zY] at h; exact h
def qgg : List AV → AH → Option (AV × AH)
 | [.str a, .str b], H => some (.int .i64 (if a == b then 0 else if Op.bytesLess a b then -1 else 1), H)
 | _, _ => none
def qdJ : List AV → AH → Option (AV × AH)
 | [.str s, .int .u8 c], H => some (.int .i64 (Go.Lib.indexByte s c.toNat.toUInt8), H)
 | _, _ => none
def yZ : List AV → AH → Option (AV × AH)
 | [.str s, .str t], H => if s.length < 4294967281 then some (.bool (Go.Lib.contains s t), H) else none
 | _, _ => none
def qjc : List AV → AH → Option (AV × AH)
 | [.str s, .int .i64 10, .int .i64 64], H =>
  if s.length ≤ 281474976710656 then
   match Go.Lib.parseUintB 64 s with
   | .ok u => some (.tup [.int .u64 u, .nilI], H)
   | Go.Lib.NumEnd.syntax => some (.tup [.int .u64 0, .ifc 198 .junk], H)
   | .range => some (.tup [.int .u64 18446744073709551615, .ifc 198 .junk], H)
  else none
 | _, _ => none
def decF : Nat → Nat → List UInt8
 | 0, _ => []
 | k + 1, u => if Nat.blt u 10 then [UInt8.ofNat (48 + u)] else decF k (u / 10) ++ [UInt8.ofNat (48 + u % 10)]
theorem qb9 : ∀ (k u : Nat), u < 10 ^ (k + 1) → decF (k + 1) u = Go.Lib.decDigits u
 | 0, u, h => by
  rw [decF, Go.Lib.decDigits]
  have h : u < 10 := by simpa using h
  rw [if_pos (by rw [qqL]; exact h), dif_pos h]
 | k + 1, u, h => by
  rw [decF, Go.Lib.decDigits]
  by_cases hu : u < 10
  ·rw [if_pos (by rw [qqL]; exact hu), dif_pos hu]
  ·rw [if_neg (by rw [qqL]; exact hu), dif_neg hu, qb9 k (u / 10) (by rw [Nat.pow_succ] at h; omega)]
def vC (n : Int) : List UInt8 := if n < 0 then 45 :: decF 20 n.natAbs else decF 20 n.toNat
theorem qa3 {n : Int} (h0 : -9223372036854775808 ≤ n) (h1 : n ≤ 9223372036854775807) : vC n = Go.Lib.itoa n := by
 unfold vC Go.Lib.itoa
 have h2 : n.natAbs < 10 ^ 19 := by omega
 rw [qb9 19 _ (by omega), qb9 19 _ (by omega)]
def qb5 : List AV → AH → Option (AV × AH)
 | [.int .i64 n], H => if -9223372036854775808 ≤ n ∧ n ≤ 9223372036854775807 then some (.str (vC n), H) else none
 | _, _ => none
def qbT : List (List AV) → Option (List (List UInt8))
 | [] => some []
 | [.str s] :: l => match qbT l with | some q => some (s :: q) | none => none
 | _ :: _ => none
def qkS : List AV → AH → Option (AV × AH)
 | [.sl rows, .str sep], H =>
  match qbT rows with
  | some xs => if xs.length ≤ 140737488355328 ∧ (Go.Lib.join xs sep).length ≤ 140737488355328 then some (.str (Go.Lib.join xs sep), H) else none
  | none => none
 | _, _ => none
def yQ (tab : TypeId → Option TypeId) (T e : TypeId) : Bool := match tab T with | some e' => qqz e' e | none => false
def yD (tab : TypeId → Option TypeId) : List AV → AH → Option (AV × AH)
 | [.ptr 0 0 0, .int .u8 c], .bld T e s :: H => if yQ tab T e = true ∧ 0 ≤ c ∧ c ≤ 255 ∧ s.length < 140737488355328 then some (.nilI, .bld T e (s ++ [c.toNat.toUInt8]) :: H) else none
 | _, _ => none
def xR (tab : TypeId → Option TypeId) : List AV → AH → Option (AV × AH)
 | [.ptr 0 0 0, .str t], .bld T e s :: H => if yQ tab T e = true ∧ s.length + t.length ≤ 140737488355328 then some (.tup [.int .i64 t.length, .nilI], .bld T e (s ++ t) :: H) else none
 | _, _ => none
def qal (tab : TypeId → Option TypeId) : List AV → AH → Option (AV × AH)
 | [.ptr 0 0 0], .bld T e s :: H => if yQ tab T e = true ∧ s.length < 140737488355328 then some (.str s, .bld T e s :: H) else none
 | _, _ => none
end Go.Av
end
