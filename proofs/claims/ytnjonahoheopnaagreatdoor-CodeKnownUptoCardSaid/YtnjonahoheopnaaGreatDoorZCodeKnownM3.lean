/-
  Parts of the proof of CodeKnownUptoCardSaid, put together: the abstract evaluation and its contracts. Own work.
  What is proved: each lemma as it stands; no condition.
-/
import Derived.LoopNIn
import Derived.KernelRfl
import Derived.Lib.Bytealg
import Derived.Lib.IndexMore
import Derived.Lib.ParseIntB
import Derived.Lib.ItoaNum
import Derived.Lib.Join
import Derived.Test.YtnjonahoheopnaaGreatDoorProg
import Derived.Shelf.Strings.Builder1
import Derived.Shelf.Strings.Builder2
import Derived.Shelf.Strings.OnBuilder
import Derived.Shelf.Small.Strs
import Derived.Shelf.Small.Wraps
import Derived.Shelf.Strings.BuilderF
import Derived.Shelf.Strings.BuilderK
import Derived.Shelf.Strings.Builder2Cap
import Derived.Shelf.Strconv.Itoa0
import Derived.Shelf.Strconv.Itoa1
import Derived.Shelf.LaysM
import Derived.Shelf.Strconv.Itoa2
import Derived.Shelf.Strconv.Itoa3
import Derived.Shelf.Strconv.Clone
import Derived.Shelf.Strconv.SyntaxError
import Derived.Shelf.Strconv.Lower
import Derived.Shelf.Strconv.ParseUint10
import Derived.Shelf.Strconv.ParseUint10Empty
import Derived.Shelf.Strconv.RangeError
import Derived.Shelf.Strconv.ParseUintEmpty
import Derived.Shelf.Strconv.ParseUint10b64
import Derived.Shelf.Strconv.ParseUint10b32
import Derived.Shelf.Strconv.ParseUint10b16
import Derived.Shelf.Strconv.ParseUint10b8
import Derived.Ground.MpProg
import Derived.Shelf.Pu.ParseUintPublic10
import Derived.Shelf.Strings.Search1
import Derived.Shelf.Strings.Search2
import Derived.Shelf.Strings.Search3
import Derived.Shelf.Strings.Shaped
import Derived.Shelf.Strings.Prefix
import Derived.Shelf.Bits.Mul64
import Derived.Shelf.Slices.Turned
import Derived.Ground.Names2Prog
import Derived.Shelf.Slices.SearchI
import Derived.Lib.AtoiErrMem
import Derived.Lib.FrozenHead2
import Derived.Lib.UnsafeStr
import Derived.WalkKit
import Derived.RowKit
import Derived.Shelf.RegionOpenPlain
import Derived.Test.YtnjonahoheopnaaGreatDoorRows
import Derived.ProofKit
import Derived.OpenShut
import Derived.JoinedCond
import Derived.ChangeArms
import Derived.Lib.AppendIntMem
import Derived.Deep.DeepHandedRow
import Derived.MakeChecks
import Derived.Stop.LaidErr
import Derived.LaidLaws
import Derived.Lib.LaidTab
import Derived.Deep.DeepWitnessRowRef
import Derived.LaidMore
import Derived.SevenTiedAt
import Derived.Test.YtnjonahoheopnaaGreatDoorCards
import Derived.Test.YtnjonahoheopnaaGreatDoorTie
import Derived.Test.YtnjonahoheopnaaGreatDoorZCodeKnownM2
open List renaming getElem?_eq_some_iff → qiM, getElem?_eq_getElem → qiS, getElem?_set → qiT, getElem?_append_left → qiU, getElem?_append_right → qiV, mem_of_getElem? → qiZ, replicate → qi0, mem_append → qi2, mem_cons → qi4
open Option renaming map_eq_some_iff → qiN, bind_eq_some_iff → qiO, bind_some → qi1
open Bool renaming and_eq_true → qiP, false_eq_true → qiW
open Nat renaming eq_of_beq_eq_true → qiQ, le_refl → qiR, mul_le_mul_right → qiX, beq → qiY, blt_eq → qi3
set_option maxRecDepth 1000000
set_option maxHeartbeats 0
section
namespace Go.Av
variable {C C' C1 C2 : qa} {μ μ' μ1 : MMap} {H H' H1 H2 : AH} {w w' w1 : World} {P : Program}
section
variable {F : Fence} {n : Nat} {Q : Exit → Act → World → Prop} {a : Act} {b : Frame} {k : List Item} {cs : List Frame}
theorem vH {c : Code} : step P (lone (b.atR a (.code (.scope c) :: k)) cs w) = .next (lone (b.atR a (.code c :: .inScope c :: k)) cs w) :=
 step_lone_go (by simp [stepG, stepG.exec, Frame.atR])
theorem qdb {c : Code} : step P (lone (b.atR a (.inScope c :: k)) cs w) = .next (lone (b.atR a k) cs w) :=
 step_lone_go (by simp [stepG, stepG.exec, Frame.atR])
theorem qfa {c : Code} (h : c.wpIn F n P Q a w) (hg : ∀ l a w, ¬ Q (.goto l) a w) : (Code.scope c).wpIn F n P Q a w := by
 intro b k cs hro hb hr
 have h0 : (lone (b.atR a (.code (.scope c) :: k)) cs w).fenced P F := fenced_calm hb hr rfl
 obtain ⟨e, a₁, w₁, hq, harr⟩ := h b (.inScope c :: k) cs hro hb hr
 cases e with
 | normal => exact ⟨.normal, a₁, w₁, hq, .head h0 vH (StepsIn.trans harr (.one (fenced_calm hb hr rfl) qdb))⟩
 | exit id =>
  have hx : exitTo id (.inScope c :: k) = exitTo id k := by simp [exitTo]
  exact ⟨.exit id, a₁, w₁, hq, fun k' hk => .head h0 vH (harr.1 k' (by rw [hx]; exact hk)),
   fun hr' hk => let ⟨k₁, h1, h2⟩ := harr.2 hr' (by rw [hx]; exact hk); ⟨k₁, h1, .head h0 vH h2⟩⟩
 | goto l => exact absurd hq (hg l _ _)
 | ret => exact ⟨_, a₁, w₁, hq, .of_steps (.one h0 vH) harr⟩
 | panic ch => exact ⟨_, a₁, w₁, hq, .of_steps (.one h0 vH) harr⟩
 | outgrown => exact ⟨_, a₁, w₁, hq, .of_steps (.one h0 vH) harr⟩
end
def mark (D : Nat) : Deferred := { target := .collected D, args := #[] }
def yM (B : Nat) (μ : MMap) (H : AH) (w : World) (ds : List Deferred) : Prop :=
 B ≤ w.heap.size ∧ ∃ Ds : List Nat, ds = Ds.map mark ∧ Ds.Nodup ∧ ∀ D ∈ Ds, B ≤ D ∧ w.heap[D]? = some (.deferred (some [])) ∧ ¬ Live H μ D
theorem yM.ext {B k : Nat} {ds : List Deferred} (h : yM B μ H w ds) (hx : Ext k C μ H w C' μ' H' w') : yM B μ' H' w' ds := by
 obtain ⟨hb, Ds, h1, h2, h3⟩ := h
 refine ⟨Nat.le_trans hb hx.size, Ds, h1, h2, fun D hD => ?_⟩
 obtain ⟨e1, e2, e3⟩ := h3 D hD
 obtain ⟨f1, f2, _⟩ := hx.fr D (Array.getElem?_eq_some_iff.1 e2).1 e3
 exact ⟨e1, by rw [f1]; exact e2, f2⟩
def Ex.to : Ex → Exit
 | .normal => .normal
 | .exit id => .exit id
 | .goto l => .goto l
 | .ret => .ret
def xG [Lent] (k B : Nat) (C : qa) (μ : MMap) (H : AH) (w : World) (r : Ex × List AV × AH) : Exit → Act → World → Prop := fun e a' w' =>
 e = r.1.to ∧ ∃ C' μ', qc C' μ' r.2.1 a'.tmps ∧ Wld C' μ' r.2.2 w' ∧ Ext k C μ H w C' μ' r.2.2 w' ∧ yM B μ' r.2.2 w' a'.defers
theorem xG.mono [Lent] {k k' B : Nat} {r : Ex × List AV × AH} {e : Exit} {a' : Act} {w2 : World} (h : xG k' B C1 μ1 H1 w1 r e a' w2) (hx : Ext k C μ H w C1 μ1 H1 w1) (hk : k ≤ k') : xG k B C μ H w r e a' w2 := by
 obtain ⟨h1, C', μ', h2, h3, h4, h5⟩ := h
 exact ⟨h1, C', μ', h2, h3, hx.trans h4 hk, h5⟩
def RdOk (rd : Option Nat) (F : Fence) (μ : MMap) (k : Nat) : Prop :=
 match rd with
 | none => F = Fence.wide
 | some l => l < k ∧ ∃ m, μ l = some m ∧ F = Fence.wide.inRound m.block
theorem RdOk.wide {rd : Option Nat} {F : Fence} {k : Nat} (h : RdOk rd F μ k) : vU F := by
 cases rd with
 | none => exact .inl h
 | some l => obtain ⟨_, m, _, h⟩ := h; exact .inr ⟨_, h⟩
theorem RdOk.ext {rd : Option Nat} {F : Fence} {k k' : Nat} (h : RdOk rd F μ k) (hm : ∀ id m, id < k → μ id = some m → ∃ m', μ' id = some m' ∧ m.le m') (hk : k ≤ k') : RdOk rd F μ' k' := by
 cases rd with
 | none => exact h
 | some l => obtain ⟨h1, m, h2, h3⟩ := h; obtain ⟨m', e1, e2⟩ := hm l m h1 h2; exact ⟨by omega, m', e1, by rw [e2.1]; exact h3⟩
theorem qc.ext [Lent] {k : Nat} {fr : List AV} {t : Array Value} (h : qc C μ fr t) (hw : Wld C μ H w) (hx : Ext k C μ H w C' μ' H' w') (hk : H.length ≤ k) : qc C' μ' fr t :=
 h.monoG hx.cl fun id m hm => hx.mu id m (Nat.lt_of_lt_of_le (hw.dom id m hm) hk) hm
theorem x7 : ∀ {ts : List Tmp} {fr : List AV} {k : Nat}, (qO k ts fr).length = fr.length ∧ ∀ (i : Nat) a, (qO k ts fr)[i]? = some a → a = .junk ∨ fr[i]? = some a
 | _, [], _ => by simp [qO]
 | [], x :: fr, k => by
  have ih := x7 (ts := []) (fr := fr) (k := k)
  refine ⟨by simp [qO, ih.1], fun i a h => ?_⟩
  cases i with
  | zero => simp [qO] at h; exact .inl h.symm
  | succ i => simp [qO] at h; simpa using ih.2 i a h
 | t :: ts, x :: fr, k => by
  have ih1 := x7 (ts := ts) (fr := fr) (k := k + 1)
  have ih2 := x7 (ts := t :: ts) (fr := fr) (k := k + 1)
  rw [qO]
  split
  ·refine ⟨by simp [ih1.1], fun i a h => ?_⟩
   cases i with
   | zero => simp at h; subst h; exact .inr rfl
   | succ i => simpa using ih1.2 i a (by simpa using h)
  ·refine ⟨by simp [ih2.1], fun i a h => ?_⟩
   cases i with
   | zero => simp at h; exact .inl h.symm
   | succ i => simpa using ih2.2 i a (by simpa using h)
theorem xp [Lent] {ts : Option (List Tmp)} {fr : List AV} {t : Array Value} (h : qc C μ fr t) : qc C μ (qF ts fr) t := by
 cases ts with
 | none => exact h
 | some ks =>
  obtain ⟨h1, h2⟩ := x7 (ts := ks) (fr := fr) (k := 0)
  refine ⟨by show (qO 0 ks fr).length = _; rw [h1, h.1], fun i a v e1 e2 => ?_⟩
  rcases h2 i a e1 with rfl | e3
  ·exact .junk v
  ·exact h.2 i a v e3 e2
theorem qeD [Lent] (h : Wld C μ H w) {fr : List AV} {tmps : Array Value} (hf : qc C μ fr tmps) (k : Nat) (hk : k ≤ H.length) : ∃ μ', Wld C μ' (gc k fr H).2 w ∧ qc C μ' (gc k fr H).1 tmps ∧ Ext k C μ H w C μ' (gc k fr H).2 w := by
 obtain ⟨μ', g1, g2, g3, g4, g5⟩ := qbR h hf k hk
 exact ⟨μ', g1, g2, ⟨rfl, rfl, rfl, qiR _, fun _ _ _ h => h, fun id m hid hm => ⟨m, g3 id m hid hm, .refl m⟩, fun b _ hnl => ⟨rfl, fun hl => hnl (g4 b hl), rfl⟩, g5⟩⟩
theorem qc.setA [Lent] {fr : List AV} {tmps : Array Value} (h : qc C μ fr tmps) {i : Nat} {a : AV} (ha : ∀ v, tmps[i]? = some v → Rep C μ a v) : qc C μ (fr.set i a) tmps := by
 refine ⟨by simpa using h.1, fun j x v e1 e2 => ?_⟩
 rw [qiT] at e1
 split at e1
 ·rename_i e
  subst e
  split at e1
  ·cases e1; exact ha v e2
  ·cases e1
 ·exact h.2 j x v e1 e2
theorem Wld.reRow [Lent] (h : Wld C μ H w) {id n : Nat} {d : Bool} {rs rs' : List (List AV)} (hi : H[id]? = some (.rows d n rs)) (hne : rs ≠ []) (hr : ∀ m, μ id = some m → qw C μ w m (.rows d n rs) → qw C μ w m (.rows false n rs')) :
  Wld C μ (H.set id (.rows false n rs')) w ∧ ∀ j, j ≤ H.length → Ext j C μ H w C μ (H.set id (.rows false n rs')) w := by
 obtain ⟨m, hm, h1, h2, h3⟩ := h.liveX hi rfl (by cases rs <;> first | rfl | exact absurd rfl hne)
 exact ⟨h.setBlk hi rfl rfl hm rfl (fun _ _ => rfl) (hr m hm h3) (fun hd => by cases hd), fun j hj => Ext.setBlk h hi rfl hm rfl (fun _ _ => rfl) rfl rfl rfl hj⟩
theorem qfr [Lent] (h : Wld C μ H w) {fr : List AV} {tmps : Array Value} (hf : qc C μ fr tmps) (t sz : Nat) :
  Wld C μ (v8 t sz fr H).2 w ∧ qc C μ (v8 t sz fr H).1 tmps ∧ H.length ≤ (v8 t sz fr H).2.length ∧ ∀ j, j ≤ H.length → Ext j C μ H w C μ (v8 t sz fr H).2 w := by
 have triv : Wld C μ H w ∧ qc C μ fr tmps ∧ H.length ≤ H.length ∧ ∀ j, j ≤ H.length → Ext j C μ H w C μ H w := ⟨h, hf, qiR _, fun j hj => Ext.refl hj⟩
 unfold v8
 split
 ·rename_i hn
  obtain ⟨n1, n2⟩ := h.newV (nid := none) (blk := .rows true sz []) rfl rfl rfl (fun _ => rfl)
  refine ⟨n1, hf.setA fun v hv => ?_, by simp, n2⟩
  have := hf.2 t _ v hn hv
  cases this
  exact .msN _ _
 ·rename_i id r off hp
  split
  ·rename_i d n rs hi
   split
   ·rename_i row hr
    split
    ·rename_i ho
     have hne : rs ≠ [] := by rintro rfl; simp at hr
     obtain ⟨r1, r2⟩ := h.reRow (rs' := rs.set r (row.set off (.ms H.length 0 0))) hi hne (fun m hm hb => by
      obtain ⟨b1, b2, b3, b4⟩ := hb
      refine ⟨b1, by simpa using b2, fun i row' hi' => ?_, b4⟩
      rw [qiT] at hi'
      split at hi'
      ·rename_i e
       subst e
       split at hi'
       ·cases hi'
        refine ⟨by simpa using (b3 r row hr).1, fun j x hj => ?_⟩
        rw [qiT] at hj
        split at hj
        ·rename_i e2
         subst e2
         split at hj
         ·cases hj
          obtain ⟨_, v, c2, c3⟩ := (b3 r row hr).2 off _ ho
          refine ⟨rfl, v, c2, ?_⟩
          cases c3
          exact .msN _ _
         ·cases hj
        ·exact (b3 r row hr).2 j x hj
       ·cases hi'
      ·exact b3 i row' hi')
     obtain ⟨n1, n2⟩ := r1.newV (nid := none) (blk := .rows true sz []) rfl rfl rfl (fun _ => rfl)
     exact ⟨n1, hf, by simp, fun j hj => (r2 j hj).trans (n2 j (by simpa using hj)) (qiR _)⟩
    ·exact triv
   ·exact triv
  ·exact triv
 ·exact triv
theorem yG [Lent] : ∀ (ls : List (Tmp × Nat)) {H : AH} {fr : List AV} {tmps : Array Value}, Wld C μ H w → qc C μ fr tmps →
  Wld C μ (qN ls fr H).2 w ∧ qc C μ (qN ls fr H).1 tmps ∧ H.length ≤ (qN ls fr H).2.length ∧ ∀ j, j ≤ H.length → Ext j C μ H w C μ (qN ls fr H).2 w
 | [], H, fr, tmps, h, hf => ⟨h, hf, qiR _, fun j hj => Ext.refl hj⟩
 | p :: l, H, fr, tmps, h, hf => by
  obtain ⟨a1, a2, a3, a4⟩ := qfr h hf p.1 p.2
  obtain ⟨b1, b2, b3, b4⟩ := yG l a1 a2
  exact ⟨b1, b2, Nat.le_trans a3 b3, fun j hj => (a4 j hj).trans (b4 j (Nat.le_trans hj a3)) (qiR _)⟩
theorem qeB [Lent] (h : Wld C μ H w) {fr : List AV} {tmps : Array Value} (hf : qc C μ fr tmps) (ts : Option (List Tmp)) (ls : List (Tmp × Nat)) (k : Nat) (hk : k ≤ H.length) :
  ∃ μ', Wld C μ' (vX k ts ls fr H).2 w ∧ qc C μ' (vX k ts ls fr H).1 tmps ∧ Ext k C μ H w C μ' (vX k ts ls fr H).2 w := by
 obtain ⟨a1, a2, a3, a4⟩ := yG ls h (xp (ts := ts) hf)
 obtain ⟨μ', g1, g2, g3⟩ := qeD a1 a2 k (Nat.le_trans hk a3)
 exact ⟨μ', g1, g2, (a4 k hk).trans g3 (qiR _)⟩
theorem za {α : Type} {g : Nat → Option α} {r : α} (h : lim g = some r) : ∃ n, g n = some r := by
 unfold lim at h
 split at h
 ·rename_i he
  cases h
  exact ⟨_, Classical.choose_spec (Classical.choose_spec he)⟩
 ·cases h
theorem qbA [Lent] {F : Fence} {k B : Nat} {ts : Option (List Tmp)} {ls : List (Tmp × Nat)} {body : Den} {c : Code} {rd : Option Nat} {r : Ex × List AV × AH} {C0 : qa} {μ0 : MMap} {H0 : AH} {w0 : World}
  (hbody : ∀ {fr : List AV} {H : AH} {q : Ex × List AV × AH}, body fr H = some q → ∀ {C : qa} {μ : MMap} {w : World} {a : Act}, k ≤ H.length → RdOk rd F μ k → qc C μ fr a.tmps → Wld C μ H w → yM B μ H w a.defers → c.wpIn F 0 P (xG k B C μ H w q) a w)
  (hk : k ≤ H0.length) : ∀ (n : Nat) {p : List AV × AH}, vj k ts ls body n p = some r → ∀ {C : qa} {μ : MMap} {w : World} {a : Act}, k ≤ p.2.length → RdOk rd F μ k → qc C μ p.1 a.tmps → Wld C μ p.2 w → yM B μ p.2 w a.defers →
   Ext k C0 μ0 H0 w0 C μ p.2 w → Code.roundsIn F 0 P c (xG k B C0 μ0 H0 w0 r) n a w
 | 0, p, h => by cases h
 | n + 1, p, h => by
  intro hkl hrd hf hw hm hx
  rw [vj] at h
  obtain ⟨q, hq, h⟩ := qiO.1 h
  refine wpIn_mono (hbody hq hkl hrd hf hw hm) fun e a' w' hp => ?_
  obtain ⟨he, C', μ'', p1, p2, p3, p4⟩ := hp
  have hx' := hx.trans p3 (qiR _)
  cases hq1 : q.1 with
  | normal =>
   rw [hq1] at he h
   subst he
   obtain ⟨μ', g1, g2, g3⟩ := qeB p2 p1 ts ls k hx'.len
   exact qbA hbody hk n h g3.len ((hrd.ext p3.mu (qiR _)).ext g3.mu (qiR _)) g2 g1 (p4.ext g3) (hx'.trans g3 (qiR _))
  | exit id =>
   rw [hq1] at he h
   cases h
   subst he
   exact ⟨rfl, C', μ'', p1, p2, hx', p4⟩
  | goto l =>
   rw [hq1] at he h
   cases h
   subst he
   exact ⟨rfl, C', μ'', p1, p2, hx', p4⟩
  | ret =>
   rw [hq1] at he h
   cases h
   subst he
   exact ⟨rfl, C', μ'', p1, p2, hx', p4⟩
variable {C C' C1 C2 : qa} {μ μ' μ1 : MMap} {H H' H1 H2 : AH} {w w' w1 : World} {P : Program}
structure OracOk2 [Lent] (cfg : Cfg) (cf : Orac) : Prop where
 calls : xD cfg cf
 enters : ∀ h args H r, cf (.f h) args H = some r → cfg.ext h = none → ∀ vs w, (callFunc h vs).run cfg.P w = .ok (.enter h vs) w
theorem qhD [Lent] (h : Wld C μ H w) {f : Nat} {fr : List AV} {assign body : Code} {ps : Array Tmp} {fn : FuncId} {tmps : Array Value} {dblk : Nat} (hf : qc C μ fr tmps) (hs : w.heap.size < w1.heap.size)
  (hold : ∀ b, b < w.heap.size → w1.heap[b]? = w.heap[b]?) {l : Nat} (hl : w.heap.size ≤ l)
  (hnew : w1.heap[l]? = some (.loop { state := .ready, pending := none, fn, tmps, params := ps, assign, body, defers := dblk })) (ho : w1.os = w.os) (ht : w1.tape = w.tape) (hu : w1.output = w.output) :
  Wld C (upd μ H.length (MI.mk4 l 0 0 0)) (H ++ [.loop f fr ps.toList assign body none .ready]) w1 ∧ Ext H.length C μ H w C (upd μ H.length (MI.mk4 l 0 0 0)) (H ++ [.loop f fr ps.toList assign body none .ready]) w1 ∧
   (∀ id m, μ id = some m → upd μ H.length (MI.mk4 l 0 0 0) id = some m) ∧ (∀ b, Live (H ++ [.loop f fr ps.toList assign body none .ready]) (upd μ H.length (MI.mk4 l 0 0 0)) b → Live H μ b ∨ b = l) := by
 have hll : l < w1.heap.size := (Array.getElem?_eq_some_iff.1 hnew).1
 have hw1 : Wld C μ H w1 := h.world (by omega) (fun b hb => hold b hb)
 have hmu : ∀ id m, μ id = some m → upd μ H.length (MI.mk4 l 0 0 0) id = some m := by
  intro id m hm
  have := h.dom id m hm
  unfold upd
  rw [if_neg (by omega)]; exact hm
 obtain ⟨n1, n2, n3, n4, n5⟩ := hw1.new4 (nid := none) (k := H.length) (blk := .loop f fr ps.toList assign body none .ready) (H' := H ++ [.loop f fr ps.toList assign body none .ready]) (B := l) (b0 := 0) (n0 := 0) (z0 := 0) rfl (fun hl' => by have := h.live_lt hl'; omega) hll
  (fun o => by
   cases hc : C l o with
   | none => rfl
   | some v => have := h.block_lt hc; omega) (h.lent_none hl) rfl ⟨_, hnew, rfl, rfl, rfl, rfl, rfl, hf.mono (fun _ _ _ h => h) hmu⟩
 refine ⟨n1, ⟨ho, ht, hu, by omega, fun _ _ _ h => h, fun id m _ hm => ⟨_, hmu id m hm, .refl _⟩, fun b hb hnl => ⟨hold b hb, fun hl' => ?_, rfl⟩, n3⟩, hmu, n4⟩
 rcases n4 b hl' with h1 | h1
 ·exact hnl h1
 ·omega
theorem qcn [Lent] {cfg : Cfg} {cf : Orac} (hO : OracOk2 cfg cf) {F : Fence} {rd : Option Nat} {f B k : Nat} {g : Operand} {ps : Array Tmp} {assign body : Code} {fr : List AV} {r : Ex × List AV × AH} {a : Act}
  (he : xw cfg cf f rd k g ps assign body fr H = some r) (hk : k ≤ H.length) (hrd : RdOk rd F μ k) (hf : qc C μ fr a.tmps) (hw : Wld C μ H w) (hm : yM B μ H w a.defers) :
  (Code.rangeFunc g ps assign body).wpIn F 0 cfg.P (xG k B C μ H w r) a w := by
 have hrd := hrd.ext (fun _ _ _ h => ⟨_, h, .refl _⟩) hk
 unfold xw at he
 split at he
 case isFalse => cases he
 rename_i hrl
 split at he
 case h_2 => cases he
 rename_i h first caps hg
 split at he
 case isTrue => cases he
 rename_i hext
 have hext : cfg.ext h = none := by
  cases hh : cfg.ext h with
  | none => rfl
  | some s => rw [hh] at hext; simp at hext
 obtain ⟨q, hq, he⟩ := qiO.1 he
 have hgr := yf hf g
 rw [hg] at hgr
 generalize hgv : a.eval g = gv at hgr
 cases hgr with
 | fn _ _ _ vf vc hl1 hl2 h1 h2 =>
 refine wpIn_rangeFunc fun fn hfn => ?_
 have hwide := hrd.wide
 have hmf : qc C μ (qF (cfg.keepIn f (qd body)) fr) a.tmps := xp hf
 -- what lies behind the loop
 have core : ∀ (l : Nat) (ms : List Deferred) (w1 : World) (dblk : Nat), w.heap.size < w1.heap.size → (∀ b, b < w.heap.size → w1.heap[b]? = w.heap[b]?) → w.heap.size ≤ l →
   w1.heap[l]? = some (.loop { state := .ready, pending := none, fn, tmps := a.tmps, params := ps, assign, body, defers := dblk }) → w1.os = w.os → w1.tape = w.tape → w1.output = w.output →
   (ms = [] ∨ ∃ D, ms = [mark D] ∧ w.heap.size ≤ D ∧ D ≠ l ∧ w1.heap[D]? = some (.deferred (some []))) →
   CallsIn F (0 - 1) cfg.P h (vf.toArray ++ #[.func (.yield l) #[] #[]] ++ vc.toArray) w1 (rangePost F 0 cfg.P l (xG k B C μ H w r) { a with defers := ms ++ a.defers }) := by
  intro l ms w1 dblk hs hold hl hnew ho ht hu hms
  obtain ⟨g1, g2, g3, g4⟩ := qhD (f := f) hw hmf hs hold hl hnew ho ht hu
  have hargs : qc C (upd μ H.length (MI.mk4 l 0 0 0)) (first ++ [.yld H.length] ++ caps) (vf.toArray ++ #[.func (.yield l) #[] #[]] ++ vc.toArray) := by
   refine ⟨by simp [hl1, hl2], fun i x v e1 e2 => ?_⟩
   rw [← Array.getElem?_toList] at e2
   simp only [Array.toList_append] at e2
   rcases Nat.lt_or_ge i (first.length + 1) with hlt | hge
   ·rw [qiU (by simpa using hlt)] at e1
    rw [qiU (by first | omega | (simp; omega))] at e2
    rcases Nat.lt_or_ge i first.length with hlt' | hge'
    ·rw [qiU hlt'] at e1
     rw [qiU (by first | omega | (simp; omega))] at e2
     exact (h1 i x v e1 (by simpa using e2)).mono (fun _ _ _ h => h) g3
    ·have hi : i = first.length := by omega
     subst hi
     rw [qiV (qiR _)] at e1
     rw [qiV (by first | omega | (simp; omega))] at e2
     simp [hl1] at e1 e2
     subst e1; subst e2
     exact .yld H.length (MI.mk4 l 0 0 0) (by unfold upd; rw [if_pos rfl])
   ·rw [qiV (by simpa using hge)] at e1
    rw [qiV (by first | omega | (simp; omega))] at e2
    have : i - (vf.toArray.toList ++ #[Value.func (.yield l) #[] #[]].toList).length = i - (first ++ [AV.yld H.length]).length := by simp [hl1]
    rw [this] at e2
    exact (h2 _ x v e1 (by simpa using e2)).mono (fun _ _ _ h => h) g3
  have hcall := hO.calls _ _ _ _ _ hq C _ w1 _ _ hargs g1 rfl
  unfold qq at hcall
  rw [hO.enters _ _ _ _ hq hext] at hcall
  refine hwide.calls (hcall.mono fun e w3 hp => ?_)
  obtain ⟨v, rfl, C3, μ3, p1, p2, p3⟩ := hp
  have hle : H.length < (H ++ [ABlk.loop f (qF (cfg.keepIn f (qd body)) fr) ps.toList assign body none .ready]).length := by simp
  obtain ⟨⟨l', b0, s0, z0, D0⟩, hm3, hbl3, -⟩ := p3.mu H.length (MI.mk4 l 0 0 0) hle (by unfold upd; rw [if_pos rfl])
  have hbl3 : l = l' := (show l' = l from hbl3).symm
  subst hbl3
  split at he
  case h_2 => cases he
  rename_i lf lfr lps lassign lbody pend st hlq
  split at he
  case h_1 => cases he
  rename_i hst
  obtain ⟨e2, e3, rc, e4, e5, e6, _⟩ := p2.liveM hlq rfl hm3
  simp only at e4
  have hend := run_endLoop (P := cfg.P) e4 (by rw [e5]; exact hst)
  refine ⟨rc.pending, _, hend, ?_⟩
  -- the world behind it
  have hkill : Wld C3 μ3 (q.2.set H.length .dead) (w3.putObj l (.loop { rc with state := .exhausted })) := by
   refine (p2.kill H.length (by rw [hlq]; simp)).worldG (by simp) (fun b hb hor => ?_)
   refine World.putObj_heap_other fun hbl => ?_
   subst hbl
   rcases hor with hl' | ⟨o, hc'⟩ | ⟨o, hc'⟩
   ·obtain ⟨_, hl''⟩ := hl'.of_kill
    exact hl'' _ hm3 (fun id' b' m' i1 i2 i3 i4 i5 => i4 (p2.inj _ _ _ _ _ _ i1 hlq i2 rfl i3 hm3 _ i5 (.inl rfl))) rfl
   ·exact hc' (e3 o)
   ·exact hc' ((p2.liveH hlq rfl hm3 _ (.inl rfl)).2.2.1 o)
  have hf3 : qc C3 μ3 (qF (cfg.keepOut f (qd body)) fr) a.tmps := (xp hf).monoG p3.cl (fun id m hm => p3.mu id m (by have := hw.dom id m hm; simp; omega) (g3 id m hm))
  obtain ⟨μ4, k1, k2, k3⟩ := qeD hkill hf3 k (by simp; have := p3.len; simp at this; omega)
  have hx1 : Ext H.length C μ H w C3 μ3 q.2 w3 := g2.trans p3 (by simp)
  have hx : Ext k C μ H w C3 μ4 (gc k (qF (cfg.keepOut f (qd body)) fr) (q.2.set H.length .dead)).2 (w3.putObj l (.loop { rc with state := .exhausted })) := by
   refine ⟨hx1.os, hx1.tape, hx1.output, by have := hx1.size; simpa using this, hx1.cl, fun id m hid hm => let ⟨m1, f1, f2⟩ := hx1.mu id m (by omega) hm; let ⟨m2, f3, f4⟩ := k3.mu id m1 hid f1; ⟨m2, f3, f2.trans f4⟩, fun b hb hnl => ?_, k3.len⟩
   obtain ⟨f1, f2, f3⟩ := hx1.fr b hb hnl
   refine ⟨by rw [World.putObj_heap_other (by omega)]; exact f1, fun hl' => ?_, f3⟩
   have hb3 : b < (w3.putObj l (.loop { rc with state := .exhausted })).heap.size := by have := hx1.size; simp; omega
   exact (k3.fr b hb3 (fun hl'' => f2 hl''.of_kill.1)).2.1 hl'
  have hmarks : yM B μ4 (gc k (qF (cfg.keepOut f (qd body)) fr) (q.2.set H.length .dead)).2 (w3.putObj l (.loop { rc with state := .exhausted })) (ms ++ a.defers) := by
   obtain ⟨hb, Ds, d1, d2, d3⟩ := hm.ext hx
   have hB : B ≤ w.heap.size := hm.1
   obtain ⟨_, Ds', d1', _, d3'⟩ := hm
   have hinj : Ds.map mark = Ds'.map mark := by rw [← d1, ← d1']
   have hDs : Ds = Ds' := by
    have : ∀ (x y : List Nat), x.map mark = y.map mark → x = y := by
     intro x
     induction x with
     | nil => intro y h; cases y with
      | nil => rfl
      | cons => simp at h
     | cons a x ih =>
      intro y h
      cases y with
      | nil => simp at h
      | cons b y =>
       simp only [List.map_cons, List.cons.injEq] at h
       obtain ⟨h1, h2⟩ := h
       have : a = b := by unfold mark at h1; cases h1; rfl
       rw [this, ih y h2]
    exact this _ _ hinj
   rcases hms with rfl | ⟨D, rfl, hD1, hD2, hD3⟩
   ·exact ⟨hb, Ds, d1, d2, d3⟩
   ·have hDlt : D < w1.heap.size := (Array.getElem?_eq_some_iff.1 hD3).1
    have hDl1 : ¬ Live (H ++ [ABlk.loop f (qF (cfg.keepIn f (qd body)) fr) ps.toList assign body none .ready]) (upd μ H.length (MI.mk4 l 0 0 0)) D := by
     intro hl'
     rcases g4 D hl' with h | h
     ·have := hw.live_lt h; omega
     ·exact hD2 h
    obtain ⟨f1, f2, _⟩ := p3.fr D hDlt hDl1
    refine ⟨hb, D :: Ds, by simp [d1], List.nodup_cons.2 ⟨fun hmem => ?_, d2⟩, fun D' hD' => ?_⟩
    ·rw [hDs] at hmem
     have := (Array.getElem?_eq_some_iff.1 (d3' D hmem).2.1).1
     omega
    ·rcases qi4.1 hD' with rfl | hmem
     ·refine ⟨by omega, by rw [World.putObj_heap_other hD2, f1]; exact hD3, fun hl' => ?_⟩
      have hb3 : D' < (w3.putObj l (.loop { rc with state := .exhausted })).heap.size := by have := p3.size; simp; omega
      exact (k3.fr D' hb3 (fun hl'' => f2 hl''.of_kill.1)).2.1 hl'
     ·exact d3 D' hmem
  have fin : ∀ e, r = (e, gc k (qF (cfg.keepOut f (qd body)) fr) (q.2.set H.length .dead)) → xG k B C μ H w r e.to { a with defers := ms ++ a.defers } (w3.putObj l (.loop { rc with state := .exhausted })) := by
   intro e hr
   subst hr
   exact ⟨rfl, C3, μ4, k2, k1, hx, hmarks⟩
  rw [e6] at fin ⊢
  split at he
  ·cases he; exact fin .normal rfl
  ·cases he; exact wpIn_ret (fin .ret rfl)
  ·rename_i x; cases he; exact wpIn_exit (fin (.exit x) rfl)
  ·cases he
 have hres : ∀ l w, (resolve a.eval (rangeCall g l) 0).run cfg.P w = .ok { target := .fn (.func h) vc.toArray, args := vf.toArray ++ #[.func (.yield l) #[] #[]] } w := by
  intro l w
  rw [qaA (f := g) rfl, hgv]
  simp [Deferred.ofValue, Act.eval]
 have hinv : ∀ l w, (invoke (.fn (.func h) vc.toArray) (vf.toArray ++ #[.func (.yield l) #[] #[]])).run cfg.P w = .ok (.enter h (vf.toArray ++ #[.func (.yield l) #[] #[]] ++ vc.toArray)) w := by
  intro l w
  rw [invoke]
  exact hO.enters _ _ _ _ hq hext _ w
 have hdep : F.depth.isSome = true → 1 ≤ 0 := fun hh => by rw [hwide.depth] at hh; simp at hh
 cases rd with
 | none =>
  have hFw : F = Fence.wide := hrd
  have hro : F.round = none := by rw [hFw]; rfl
  rw [hro]
  refine ⟨w.heap.size + 1, [mark w.heap.size], _, _, _, h, _, _, run_enterLoop_outer fn a.tmps ps assign body, hres _ _, fun f' _ => hwide.fn f', hinv _ _, hdep, ?_⟩
  refine core (w.heap.size + 1) [mark w.heap.size] _ w.heap.size (by simp; omega) (fun b hb => ?_) (by omega) ?_ rfl rfl rfl (.inr ⟨w.heap.size, rfl, qiR _, by omega, ?_⟩)
  ·show ((w.heap.push _).push _)[b]? = _
   rw [Array.getElem?_push, if_neg (by simp; omega), Array.getElem?_push, if_neg (by omega)]
  ·show ((w.heap.push _).push _)[w.heap.size + 1]? = _
   rw [Array.getElem?_push, if_pos (by simp)]
  ·show ((w.heap.push _).push _)[w.heap.size]? = _
   rw [Array.getElem?_push, if_neg (by simp), Array.getElem?_push, if_pos rfl]
 | some l0 =>
  obtain ⟨hl0, m0, hm0, hFr⟩ := hrd
  have hro : F.round = some m0.block := by rw [hFr]; rfl
  rw [hro]
  unfold qgZ at hrl
  simp only at hrl
  split at hrl
  case h_2 => cases hrl
  rename_i hb0
  obtain ⟨i2, i3, r0, i4, _⟩ := hw.liveM hb0 rfl hm0
  refine ⟨w.heap.size, [], _, _, _, h, _, _, run_enterLoop_inner i4 fn a.tmps ps assign body, hres _ _, fun f' _ => hwide.fn f', hinv _ _, hdep, ?_⟩
  refine core w.heap.size [] _ r0.defers (by simp) (fun b hb => ?_) (qiR _) ?_ rfl rfl rfl (.inl rfl)
  ·show (w.heap.push _)[b]? = _
   rw [Array.getElem?_push, if_neg (by omega)]
  ·show (w.heap.push _)[w.heap.size]? = _
   rw [Array.getElem?_push, if_pos rfl]
variable {C C' C1 C2 : qa} {μ μ' μ1 : MMap} {H H' H1 H2 : AH} {w w' w1 : World} {P : Program}
theorem yn {D : List Nat} {i : Nat} {o : Oper} : ∀ (l : List Oper) (k : Nat), (i, o) ∈ vN D k l ↔ k ≤ i ∧ l[i - k]? = some o ∧ D.any (qiY i) = false ∧ rdyB D o = true
 | [], k => by simp [vN]
 | o' :: l, k => by
  have ih := yn (D := D) (i := i) (o := o) l (k + 1)
  rw [vN]
  by_cases e : i = k
  ·subst e
   have hno : ¬ (i, o) ∈ vN D (i + 1) l := fun h => by have := (ih.1 h).1; omega
   split
   ·rename_i h
    simp only [qiP, Bool.not_eq_true'] at h
    simp only [qi4, Prod.mk.injEq, true_and, hno, or_false, qiR, Nat.sub_self, List.getElem?_cons_zero, Option.some.injEq]
    constructor
    ·intro e; subst e; exact ⟨rfl, h.1, h.2⟩
    ·intro e; exact e.1.symm
   ·rename_i h
    simp only [qiP, Bool.not_eq_true'] at h
    simp only [hno, false_iff, qiR, Nat.sub_self, List.getElem?_cons_zero, Option.some.injEq, true_and]
    intro e
    obtain ⟨rfl, e2⟩ := e
    exact h e2
  ·have hs : ∀ (x : Oper), (k ≤ i ∧ (x :: l)[i - k]? = some o ∧ D.any (qiY i) = false ∧ rdyB D o = true) ↔ (k + 1 ≤ i ∧ l[i - (k + 1)]? = some o ∧ D.any (qiY i) = false ∧ rdyB D o = true) := by
    intro x
    constructor
    ·rintro ⟨h1, h2, h3⟩
     have : i - k = (i - (k + 1)) + 1 := by omega
     rw [this, List.getElem?_cons_succ] at h2
     exact ⟨by omega, h2, h3⟩
    ·rintro ⟨h1, h2, h3⟩
     have : i - k = (i - (k + 1)) + 1 := by omega
     rw [this, List.getElem?_cons_succ]
     exact ⟨by omega, h2, h3⟩
   rw [hs o', ← ih]
   split
   ·simp only [qi4, Prod.mk.injEq, e, false_and, false_or]
   ·rfl
theorem zC {ops : Array Oper} {listed : Array Bool} {D : List Nat} (hs : listed.size = ops.size) (hD : ∀ j, listed.getD j false = D.any (qiY j)) (i : Nat) : i ∈ Region.ready .any ops listed ↔ ∃ o, (i, o) ∈ vN D 0 ops.toList := by
 rw [mem_ready]
 constructor
 ·rintro ⟨h1, o, h2, h3⟩
  have hlt : i < ops.size := (Array.getElem?_eq_some_iff.1 h2).1
  refine ⟨o, (yn _ _).2 ⟨Nat.zero_le _, by rw [Nat.sub_zero, Array.getElem?_toList]; exact h2, ?_, ?_⟩⟩
  ·rw [← hD, ← yQ (by omega)]; exact h1
  ·unfold rdyB
   rw [List.all_eq_true]
   intro e he
   cases hb : Region.binds .any e with
   | false => simp
   | true => rw [← hD, h3 e (Array.mem_toList_iff.1 he) hb]; rfl
 ·rintro ⟨o, h⟩
  obtain ⟨_, h2, h3, h4⟩ := (yn _ _).1 h
  rw [Nat.sub_zero, Array.getElem?_toList] at h2
  have hlt : i < ops.size := (Array.getElem?_eq_some_iff.1 h2).1
  refine ⟨by rw [yQ (by omega), hD]; exact h3, o, h2, fun e he hb => ?_⟩
  unfold rdyB at h4
  have := List.all_eq_true.1 h4 e (Array.mem_toList_iff.2 he)
  rw [hb] at this
  rw [hD]
  simpa using this
theorem qcM {F : Nat → List AV → AH → Option (List (List AV × AH))} {G : Nat → Oper → Option (List AV × AH)} : ∀ {l : List (Nat × Oper)} {L : List (List AV × AH)}, zZ F G l = some L → ∀ p ∈ l, ∃ q L1, G p.1 p.2 = some q ∧ F p.1 q.1 q.2 = some L1 ∧ ∀ x ∈ L1, x ∈ L
 | [], _, _, p, hp => by cases hp
 | x :: l, L, h, p, hp => by
  rw [zZ] at h
  obtain ⟨q, h1, h⟩ := qiO.1 h
  obtain ⟨L1, h2, h⟩ := qiO.1 h
  obtain ⟨L2, h3, e⟩ := qiN.1 h
  subst e
  rcases qi4.1 hp with rfl | hp
  ·exact ⟨q, L1, h1, h2, fun x hx => List.mem_append_left _ hx⟩
  ·obtain ⟨q', L1', g1, g2, g3⟩ := qcM h3 p hp
   exact ⟨q', L1', g1, g2, fun x hx => List.mem_append_right _ (g3 x hx)⟩
theorem qhk [Lent] {cfg : Cfg} (hc : CfgTy cfg) {cf : Orac} (hO : xD cfg cf) {Fn : Fence} (hF : vU Fn) {f rid : Nat} {ops : Array Oper} {Q : Exit → Act → World → Prop} {C0 : qa} {μ0 : MMap} {H0 : AH} {w0 : World} {k : Nat} {ds : List Deferred} :
  ∀ (n : Nat) (D : List Nat) (listed : Array Bool) {fr : List AV} {H : AH} {L : List (List AV × AH)} {C : qa} {μ : MMap} {w : World} {a : Act}, yb cfg cf f rid ops n D fr H = some L → listed.size = ops.size → (∀ j, listed.getD j false = D.any (qiY j)) →
   qc C μ fr a.tmps → Wld C μ H w → Ext k C0 μ0 H0 w0 C μ H w → a.defers = ds →
   (∀ q ∈ L, ∀ C μ w a, qc C μ q.1 a.tmps → Wld C μ q.2 w → Ext k C0 μ0 H0 w0 C μ q.2 w → a.defers = ds → Q .normal a w) → wpAnyIn Fn 0 cfg.P .any ops Q n listed a w := by
 have hnil : ∀ {D : List Nat} {listed : Array Bool}, listed.size = ops.size → (∀ j, listed.getD j false = D.any (qiY j)) → ((vN D 0 ops.toList).isEmpty = true ↔ Region.ready .any ops listed = []) := by
  intro D listed hs hD
  constructor
  ·intro h
   rw [List.isEmpty_iff] at h
   refine List.eq_nil_iff_forall_not_mem.2 fun i hi => ?_
   obtain ⟨o, ho⟩ := (zC hs hD i).1 hi
   rw [h] at ho; cases ho
  ·intro h
   rw [List.isEmpty_iff]
   refine List.eq_nil_iff_forall_not_mem.2 fun p hp => ?_
   have := (zC hs hD p.1).2 ⟨p.2, hp⟩
   rw [h] at this; cases this
 intro n
 induction n with
 | zero =>
  intro D listed fr H L C μ w a he hs hD hf hw hx hds hL
  rw [yb] at he
  split at he
  ·rename_i h
   cases he
   exact ⟨(hnil hs hD).1 h, hL _ (List.mem_singleton.2 rfl) C μ w a hf hw hx hds⟩
  ·cases he
 | succ n ih =>
  intro D listed fr H L C μ w a he hs hD hf hw hx hds hL
  rw [yb] at he
  split at he
  ·rename_i h
   cases he
   have hr := (hnil hs hD).1 h
   exact ⟨fun _ => hL _ (List.mem_singleton.2 rfl) C μ w a hf hw hx hds, fun i hi => by rw [hr] at hi; cases hi⟩
  ·rename_i h
   refine ⟨fun hr => absurd ((hnil hs hD).2 hr) h, fun i hi => ?_⟩
   obtain ⟨o, ho⟩ := (zC hs hD i).1 hi
   obtain ⟨q, L1, g1, g2, g3⟩ := qcM he _ ho
   obtain ⟨_, h2, _, _⟩ := (yn _ _).1 ho
   rw [Nat.sub_zero, Array.getElem?_toList] at h2
   have hlt : i < ops.size := (Array.getElem?_eq_some_iff.1 h2).1
   have hD' : ∀ j, (listed.setIfInBounds i true).getD j false = (i :: D).any (qiY j) := by
    intro j
    have := congrFun (qeC listed (i := i) (by omega)) j
    rw [this]
    by_cases e : j = i
    ·subst e; rw [zv]; simp
    ·rw [yT e, hD]
     have : qiY j i = false := by rw [← Bool.not_eq_true]; intro h'; exact e (qiQ h')
     simp [this]
   simp only at g1 g2
   unfold qcN at g1
   obtain ⟨b, hb, g1⟩ := qiO.1 g1
   have hwan := yX hf hb
   unfold wpOpIn
   simp only [h2]
   cases b with
   | true =>
    rw [if_pos hwan]
    simp only [if_true] at g1
    obtain ⟨r, e1, e⟩ := qiN.1 g1
    subst e
    refine qaS hF ((zi hc hO (yf hf) hw e1).mono fun v w1 ⟨C1, μ1, p1, p2, p3⟩ => ?_)
    have hf1 : qc C1 μ1 fr a.tmps := hf.monoG p3.cl (fun id m hm => p3.mu id m (hw.dom id m hm) hm)
    exact ih (i :: D) _ g2 (by simpa using hs) hD' (yc hf1 p1) p2 (hx.trans p3 hx.len) (by rw [xo]; exact hds) fun q hq => hL q (g3 q hq)
   | false =>
    rw [if_neg (by rw [hwan]; simp)]
    simp only [qiW, if_false] at g1
    cases g1
    exact ⟨fun f _ => hF.fn f, ih (i :: D) _ g2 (by simpa using hs) hD' (yc hf qaM) hw hx (by rw [xo]; exact hds) fun q hq => hL q (g3 q hq)⟩
theorem qgy [Lent] {cfg : Cfg} (hc : CfgTy cfg) {cf : Orac} (hO : xD cfg cf) (hm : cfg.P.follows .mixedOrders = true) {Fn : Fence} (hF : vU Fn) {f rid : Nat} {ops : Array Oper} {fr : List AV} {L : List (List AV × AH)} {a : Act}
  (he : yb cfg cf f rid ops ops.size [] fr H = some L) (hf : qc C μ fr a.tmps) (hw : Wld C μ H w) {Q : Exit → Act → World → Prop}
  (hq : ∀ q ∈ L, ∀ C' μ' w' a', qc C' μ' q.1 a'.tmps → Wld C' μ' q.2 w' → Ext H.length C μ H w C' μ' q.2 w' → a'.defers = a.defers → Q .normal a' w') : (Code.region rid ops true).wpIn Fn 0 cfg.P Q a w := by
 refine wpIn_region_any hm ?_
 refine qhk hc hO hF (C0 := C) (μ0 := μ) (H0 := H) (w0 := w) (k := H.length) (ds := a.defers) ops.size [] _ he (by simp) (fun j => ?_) hf (hw.heap rfl) ?_ rfl hq
 ·rw [Array.getD_eq_getD_getElem?]
  rcases Nat.lt_or_ge j ops.size with h | h
  ·simp [h]
  ·simp [h]
 ·exact ⟨rfl, rfl, rfl, qiR _, fun _ _ _ h => h, fun _ _ _ h => ⟨_, h, .refl _⟩, fun b _ hnl => ⟨rfl, fun hl => hnl hl, rfl⟩, qiR _⟩
theorem qcB [Lent] {tmps : Array Value} : ∀ (ts : List Tmp) {fr : List AV}, qc C μ fr tmps → qc C μ (qcC ts fr) tmps
 | [], _, h => h
 | t :: ts, fr, h => by
  have : qcC (t :: ts) fr = qcC ts (fr.set t .junk) := rfl
  rw [this]
  exact qcB ts (h.setA fun v _ => .junk v)
theorem qbC {c : Code} {p : Nat × Array Oper} (h : qaa c = some p) : c = .region p.1 p.2 true ∧ qdk p.2 = true := by
 unfold qaa at h
 split at h
 ·split at h
  ·rename_i h1
   cases h
   exact ⟨rfl, h1⟩
  ·cases h
 ·cases h
theorem qa7 [Lent] {cfg : Cfg} (hc : CfgTy cfg) {cf : Orac} (hO : OracOk2 cfg cf) (hmx : cfg.P.follows .mixedOrders = true) {F : Fence} {rd : Option Nat} {f B k : Nat} : ∀ (c : Code) {fr : List AV} {H : AH} {r : Ex × List AV × AH}, evC cfg cf f rd k c fr H = some r →
  ∀ {C : qa} {μ : MMap} {w : World} {a : Act}, k ≤ H.length → RdOk rd F μ k → qc C μ fr a.tmps → Wld C μ H w → yM B μ H w a.defers → c.wpIn F 0 cfg.P (xG k B C μ H w r) a w := by
 intro c
 induction c with
 | skip =>
  intro fr H r he C μ w a hk hrd hf hw hm
  rw [evC.eq_def] at he; simp only at he; cases he
  exact wpIn_skip ⟨rfl, C, μ, hf, hw, Ext.refl hk, hm⟩
 | label l =>
  intro fr H r he C μ w a hk hrd hf hw hm
  rw [evC.eq_def] at he; simp only at he; cases he
  exact wpIn_label ⟨rfl, C, μ, hf, hw, Ext.refl hk, hm⟩
 | exit id =>
  intro fr H r he C μ w a hk hrd hf hw hm
  rw [evC.eq_def] at he; simp only at he; cases he
  exact wpIn_exit ⟨rfl, C, μ, hf, hw, Ext.refl hk, hm⟩
 | ret =>
  intro fr H r he C μ w a hk hrd hf hw hm
  rw [evC.eq_def] at he; simp only at he; cases he
  exact wpIn_ret ⟨rfl, C, μ, hf, hw, Ext.refl hk, hm⟩
 | goto l =>
  intro fr H r he
  rw [evC.eq_def] at he; simp only at he; cases he
 | refuse s =>
  intro fr H r he
  rw [evC.eq_def] at he; simp only at he; cases he
 | region id ops draw =>
  intro fr H r he C μ w a hk hrd hf hw hm
  rw [evC.eq_def] at he
  simp only at he
  have fin : ∀ (fr' : List AV) (H' : AH) C' μ' w' (a' : Act), qc C' μ' fr' a'.tmps → Wld C' μ' H' w' → Ext H.length C μ H w C' μ' H' w' → a'.defers = a.defers → xG k B C μ H w (.normal, fr', H') .normal a' w' :=
   fun fr' H' C' μ' w' a' g1 g2 g3 g4 => ⟨rfl, C', μ', g1, g2, g3.less hk, by rw [g4]; exact hm.ext g3⟩
  cases draw with
  | true =>
   simp only [if_true] at he
   split at he
   case isFalse => cases he
   rename_i hst
   obtain ⟨q, hq, he⟩ := qiO.1 he
   split at he
   case isFalse => cases he
   rename_i hdy
   obtain ⟨fps, fr', H'⟩ := q
   cases he
   exact qgx hc hO.calls hmx hrd.wide hst hq hdy hf hw (fin fr' H')
  | false =>
   simp only [qiW, if_false] at he
   obtain ⟨q, hq, e⟩ := qiN.1 he
   obtain ⟨fr', H'⟩ := q
   cases e
   refine wpIn_region ?_
   have := zH hc hO.calls hrd.wide (Q := xG k B C μ H w (.normal, fr', H')) ops.toList 0 hq (fun i => by rw [Array.getElem?_toList, Nat.zero_add]) hf hw (fin fr' H')
   rw [List.range_eq_range']
   simpa using this
 | seq x y ihx ihy =>
  intro fr H r he C μ w a hk hrd hf hw hm
  rw [evC.eq_def] at he
  simp only at he
  split at he
  case h_1 p hp =>
   obtain ⟨rfl, _⟩ := qbC hp
   obtain ⟨L, hL, he⟩ := qiO.1 he
   refine wpIn_seq (qgy hc hO.calls hmx hrd.wide hL hf hw fun q hq C1 μ1 w1 a1 g1 g2 g3 g4 => ?_)
   obtain ⟨q2, hq2, e⟩ := qiN.1 (qfi he q hq)
   subst e
   have h4 := g3.less hk
   refine wpIn_mono (ihy hq2 h4.len (hrd.ext h4.mu (qiR _)) (xp g1) g2 (by rw [g4]; exact hm.ext g3)) fun e' a2 w2 hp2 => ?_
   obtain ⟨p1, C2, μ2, p2, p3, p4, p5⟩ := xG.mono hp2 h4 (qiR _)
   obtain ⟨μ3, r1, r2, r3⟩ := qeD p3 (qcB (dsts (.region p.1 p.2 true) ++ dsts y) p2) k p4.len
   exact ⟨p1, C2, μ3, r2, r1, p4.trans r3 (qiR _), p5.ext r3⟩
  obtain ⟨q, hq, he⟩ := qiO.1 he
  refine wpIn_seq (wpIn_mono (ihx hq hk hrd hf hw hm) fun e a1 w1 hp => ?_)
  cases hq1 : q.1 with
  | normal =>
   obtain ⟨h1, C1, μ1, h2, h3, h4, h5⟩ := hp
   rw [hq1] at h1 he
   subst h1
   refine wpIn_mono (ihy he h4.len (hrd.ext h4.mu (qiR _)) (xp h2) h3 h5) fun e' a2 w2 hp2 => hp2.mono h4 (qiR _)
  | exit id =>
   rw [hq1] at he
   cases he
   have : e = .exit id := by rw [hp.1, hq1]; rfl
   subst this
   exact ⟨rfl, hp.2⟩
  | goto l =>
   rw [hq1] at he
   cases he
   have : e = .goto l := by rw [hp.1, hq1]; rfl
   subst this
   exact ⟨rfl, hp.2⟩
  | ret =>
   rw [hq1] at he
   cases he
   have : e = .ret := by rw [hp.1, hq1]; rfl
   subst this
   exact ⟨rfl, hp.2⟩
 | cond c x y ihx ihy =>
  intro fr H r he C μ w a hk hrd hf hw hm
  rw [evC.eq_def] at he
  simp only at he
  split at he
  case h_2 => cases he
  rename_i t ht
  have hcr := yf hf c
  rw [ht] at hcr
  generalize hv : a.eval c = v at hcr
  cases hcr
  cases t with
  | true => exact wpIn_cond_true hv (ihx (by simpa using he) hk hrd hf hw hm)
  | false => exact wpIn_cond_false hv (ihy (by simpa using he) hk hrd hf hw hm)
 | block id x ih =>
  intro fr H r he C μ w a hk hrd hf hw hm
  rw [evC.eq_def] at he
  simp only at he
  obtain ⟨q, hq, he⟩ := qiO.1 he
  refine wpIn_block (wpIn_mono (ih hq hk hrd hf hw hm) fun e a1 w1 hp => ?_)
  cases hq1 : q.1 with
  | normal =>
   rw [hq1] at he
   cases he
   have : e = .normal := by rw [hp.1, hq1]; rfl
   subst this
   exact hp
  | exit id' =>
   rw [hq1] at he
   simp only at he
   have : e = .exit id' := by rw [hp.1, hq1]; rfl
   subst this
   simp only [Exit.inBlock]
   by_cases e : id' = id
   ·subst e
    rw [if_pos (Nat.beq_refl _)] at he
    cases he
    rw [if_pos rfl]
    exact ⟨rfl, hp.2⟩
   ·have : ¬ qiY id' id = true := fun h => e (qiQ h)
    rw [if_neg this] at he
    cases he
    rw [if_neg e]
    exact hp
  | goto l =>
   rw [hq1] at he
   cases he
   have : e = .goto l := by rw [hp.1, hq1]; rfl
   subst this
   exact hp
  | ret =>
   rw [hq1] at he
   cases he
   have : e = .ret := by rw [hp.1, hq1]; rfl
   subst this
   exact hp
 | loop x ih =>
  intro fr H r he C μ w a hk hrd hf hw hm
  rw [evC.eq_def] at he
  simp only at he
  obtain ⟨q, hq, e⟩ := qiN.1 he
  obtain ⟨n, hn⟩ := za hq
  obtain ⟨μ', g1, g2, g3⟩ := qeB hw hf (cfg.keepIn f (qd x)) (cfg.lift f (qd x)) k hk
  refine wpIn_mono (wpIn_loop_rounds n (qbA (rd := rd) (fun hq => ih hq) hk n hn g3.len (hrd.ext g3.mu (qiR _)) g2 g1 (hm.ext g3) g3)) fun e' a' w' hp => ?_
  obtain ⟨h1, C1, μ1, h2, h3, h4, h5⟩ := hp
  subst e
  exact ⟨h1, C1, μ1, xp h2, h3, h4, h5⟩
 | scope x ih =>
  intro fr H r he C μ w a hk hrd hf hw hm
  rw [evC.eq_def] at he
  simp only at he
  obtain ⟨q, hq, he⟩ := qiO.1 he
  have hqr : (∀ l, q.1 ≠ .goto l) ∧ q = r := by
   cases hq1 : q.1 with
   | goto l => rw [hq1] at he; cases he
   | normal => rw [hq1] at he; simp only [Option.some.injEq] at he; exact ⟨nofun, he⟩
   | exit id => rw [hq1] at he; simp only [Option.some.injEq] at he; exact ⟨nofun, he⟩
   | ret => rw [hq1] at he; simp only [Option.some.injEq] at he; exact ⟨nofun, he⟩
  obtain ⟨h1, rfl⟩ := hqr
  refine qfa (ih hq hk hrd hf hw hm) fun l a1 w1 hp => ?_
  have := hp.1
  cases hq1 : q.1 with
  | goto l => exact h1 l hq1
  | _ => rw [hq1] at this; cases this
 | rangeFunc g ps assign body =>
  intro fr H r he C μ w a hk hrd hf hw hm
  rw [evC.eq_def] at he
  simp only at he
  obtain ⟨a1, a2, a3, a4⟩ := yG (cfg.lift f (qd body)) hw hf
  exact wpIn_mono (qcn hO he (Nat.le_trans hk a3) hrd a2 a1 (hm.ext (a4 k hk))) fun e a' w' hp => hp.mono (a4 k hk) (qiR _)
def zS (tmps : Array Value) : ResultVar → Sem Value
 | .tmp t => pure (tmps.getD t undef)
 | .cell a t => do loadVar t (← asAddr (tmps.getD a undef))
theorem yx [Lent] {cfg : Cfg} (hc : CfgTy cfg) {fr : List AV} {tmps : Array Value} (hf : qc C μ fr tmps) (hw : Wld C μ H w) : ∀ (rs : List ResultVar) {vs : List AV}, vp rs cfg.ty fr H = some vs →
  ∃ us : List Value, (rs.mapM (zS tmps)).run cfg.P w = .ok us w ∧ vs.length = us.length ∧
   ∀ (i : Nat) a v, vs[i]? = some a → us[i]? = some v → Rep C μ a v
 | [], vs, he => by
  simp only [vp] at he
  cases he
  exact ⟨[], by simp, rfl, fun i a v h => by simp at h⟩
 | .tmp t :: l, vs, he => by
  simp only [vp] at he
  obtain ⟨vs', hvs, e⟩ := qiN.1 he
  cases e
  obtain ⟨us, h1, h2, h3⟩ := yx hc hf hw l hvs
  refine ⟨tmps.getD t undef :: us, ?_, by simp [h2], fun i a v e1 e2 => ?_⟩
  ·simp only [List.mapM_cons, Sem.run_bind, zS, Sem.run_pure, Result.andThen_ok, h1]
  ·cases i with
   | zero => simp at e1 e2; subst e1; subst e2; simpa [opd, Act.eval] using yf (a := ⟨tmps, []⟩) hf (.tmp t)
   | succ i => exact h3 i a v (by simpa using e1) (by simpa using e2)
 | .cell a t :: l, vs, he => by
  simp only [vp] at he
  split at he
  case h_2 => cases he
  rename_i ti hti
  obtain ⟨x, hx, he⟩ := qiO.1 he
  obtain ⟨vs', hvs, e⟩ := qiN.1 he
  cases e
  obtain ⟨us, h1, h2, h3⟩ := yx hc hf hw l hvs
  have hr : Rep C μ (fr.getD a .junk) (tmps.getD a undef) := by simpa [opd, Act.eval] using yf (a := ⟨tmps, []⟩) hf (.tmp a)
  obtain ⟨ad, u, g1, g2, g3⟩ := qcw hw (hc.ty _ _ hti) hr hx
  refine ⟨u :: us, ?_, by simp [h2], fun i a v e1 e2 => ?_⟩
  ·have ga : (zS tmps (.cell a t)).run cfg.P w = .ok u w := by simp only [zS, g1, asAddr, Sem.run_bind, Sem.run_pure, Result.andThen_ok, g2]
   simp only [List.mapM_cons, Sem.run_bind, ga, Sem.run_pure, Result.andThen_ok, h1]
  ·cases i with
   | zero => simp at e1 e2; subst e1; subst e2; exact g3
   | succ i => exact h3 i a v (by simpa using e1) (by simpa using e2)
theorem qdK [Lent] {cfg : Cfg} (hc : CfgTy cfg) {fn : Func} {fr : List AV} {tmps : Array Value} (hf : qc C μ fr tmps) (hw : Wld C μ H w) {vs : List AV} (he : vp fn.results.toList cfg.ty fr H = some vs) :
  ∃ v, (results fn tmps).run cfg.P w = .ok v w ∧ Rep C μ (xR vs) v := by
 obtain ⟨us, h1, h2, h3⟩ := yx hc hf hw _ he
 refine ⟨if h : us.toArray.size = 1 then us.toArray[0] else .tuple us.toArray, ?_, ?_⟩
 ·have hr : results fn tmps = (fn.results.mapM (zS tmps) >>= fun vs => pure (if h : vs.size = 1 then vs[0] else .tuple vs)) := rfl
  rw [hr, Array.mapM_eq_mapM_toList]
  simp only [Sem.run_bind, Sem.run_map, Result.andThen_ok, Sem.run_pure, h1]
 ·cases us with
  | nil =>
   cases vs with
   | nil => exact .tup [] [] rfl (fun i a v h => by simp at h)
   | cons x l => simp at h2
  | cons u us =>
   cases vs with
   | nil => simp at h2
   | cons x l =>
    cases us with
    | nil =>
     cases l with
     | nil => simpa [xR] using h3 0 x u rfl rfl
     | cons y l => simp at h2
    | cons u' us =>
     cases l with
     | nil => simp at h2
     | cons y l =>
      have : xR (x :: y :: l) = .tup (x :: y :: l) := rfl
      rw [this, dif_neg (by simp)]
      exact .tup _ _ h2 h3
theorem qfA {cfg : Cfg} {rs : List ResultVar} {q : Ex × List AV × AH} {r : AV} (h : zd cfg rs q = some (r, H')) : (q.1 = .normal ∨ q.1 = .ret) ∧ H' = q.2.2 ∧ ∃ vs, vp rs cfg.ty q.2.1 q.2.2 = some vs ∧ r = xR vs := by
 unfold zd at h
 split at h
 ·rename_i hq
  obtain ⟨vs, h1, e⟩ := qiN.1 h
  cases e
  exact ⟨.inl hq, rfl, vs, h1, rfl⟩
 ·rename_i hq
  obtain ⟨vs, h1, e⟩ := qiN.1 h
  cases e
  exact ⟨.inr hq, rfl, vs, h1, rfl⟩
 ·cases h
theorem qaW [Lent] {fn : Func} {tmps : Array Value} {R : Ending → World → Prop} {B k : Nat} {C0 : qa} {μ0 : MMap} {H0 : AH} {w0 : World} (hB : B = w0.heap.size)
  (hend : ∀ w', Wld C μ H w' → Ext k C0 μ0 H0 w0 C μ H w' → ∃ v, (results fn tmps).run P w' = .ok v w' ∧ R (.returned v) w') : ∀ (Ds : List Nat) {w : World}, Ds.Nodup → (∀ D ∈ Ds, B ≤ D ∧ w.heap[D]? = some (.deferred (some [])) ∧ ¬ Live H μ D) →
   Wld C μ H w → Ext k C0 μ0 H0 w0 C μ H w → LeavesInM Fence.wide 0 P fn tmps R (Ds.map mark) .returning w
 | [], w, _, _, hw, hx => hend w hw hx
 | D :: Ds, w, hnd, hD, hw, hx => by
  obtain ⟨d1, d2, d3⟩ := hD D (List.mem_cons_self ..)
  obtain ⟨hnm, hnd'⟩ := List.nodup_cons.1 hnd
  refine ⟨by simp, .inl ⟨D, _, rfl, run_takeDeferred d2, ?_⟩⟩
  have hne : ∀ b, b ≠ D → (w.putObj D (.deferred none)).heap[b]? = w.heap[b]? := fun b hb => World.putObj_heap_other hb
  refine qaW hB hend Ds hnd' (fun D' hD' => ?_) (hw.worldG (by simp) (fun b hb hor => hne b fun e => ?_)) ⟨hx.os, hx.tape, hx.output, by simpa using hx.size, hx.cl, hx.mu, fun b hb hnl => ?_, hx.len⟩
  ·obtain ⟨g1, g2, g3⟩ := hD D' (List.mem_cons_of_mem _ hD')
   exact ⟨g1, by rw [hne D' (fun e => hnm (by rw [← e]; exact hD'))]; exact g2, g3⟩
  ·subst e
   rcases hor with hl | ⟨o, hc⟩ | ⟨o, hc⟩
   ·exact d3 hl
   ·cases hco : C b o with
    | none => exact hc hco
    | some v =>
     have := hw.cl b o v hco
     simp only [World.cell?, d2] at this
     cases this
   ·cases hco : Lent.l b o with
    | none => exact hc hco
    | some v =>
     have := (hw.lnt.1 b o v hco).1
     simp only [World.cell?, d2] at this
     cases this
  ·obtain ⟨f1, f2, f3⟩ := hx.fr b hb hnl
   exact ⟨by rw [hne b (by omega)]; exact f1, f2, f3⟩
variable {C C' C1 C2 : qa} {μ μ' μ1 : MMap} {H H' H1 H2 : AH} {w w' w1 : World} {P : Program}
structure CfgOk [Lent] (cfg : Cfg) : Prop where
 ty : CfgTy cfg
 mixed : cfg.P.follows .mixedOrders = true
 named : ∀ f fn, cfg.known f = true → cfg.P.funcs[f]? = some fn → (fn.name == "runtime.NumGoroutine") = false
 ext : ∀ f s, cfg.ext f = some s → ∀ args H r H', s args H = some (r, H') → ∀ C μ w vs, qc C μ args vs → Wld C μ H w → qq cfg.P (callFunc f vs) w (qv C μ H w r H')
theorem qcf {f : FuncId} {fn : Func} {c : Code} (hf : P.funcs[f]? = some fn) (hn : (fn.name == "runtime.NumGoroutine") = false) (hb : fn.body = some c) (vs : Array Value) (w : World) : (callFunc f vs).run P w = .ok (.enter f vs) w := by
 unfold callFunc
 simp only [Sem.run_bind, run_program, Result.andThen_ok, hf, hn, hb, Option.isNone_some, qiW, if_false]
 simp
theorem qh1 [Lent] {args : List AV} {vs : Array Value} (h : qc C μ args vs) (n : Nat) : qc C μ (args ++ qi0 (n - args.length) .junk) (vs ++ Array.replicate (n - vs.size) undef) := by
 refine ⟨by simp [h.1], fun i a v e1 e2 => ?_⟩
 rcases Nat.lt_or_ge i args.length with hlt | hge
 ·rw [qiU hlt] at e1
  rw [Array.getElem?_append_left (by rw [← h.1]; exact hlt)] at e2
  exact h.2 i a v e1 e2
 ·rw [qiV hge] at e1
  have := qiZ e1
  rw [List.mem_replicate] at this
  rw [this.2]
  exact .junk v
theorem qaz [Lent] : ∀ (ps : List Tmp) {args : List AV} {vs : List Value} {fr : List AV} {tmps : Array Value}, (∀ (i : Nat) a v, args[i]? = some a → vs[i]? = some v → Rep C μ a v) → args.length = vs.length → qc C μ fr tmps →
  qc C μ (vq fr ps args) ((ps.zip vs).foldl (fun t (p, v) => t.setIfInBounds p v) tmps)
 | [], args, vs, fr, tmps, _, _, hf => by cases args <;> simpa [vq] using hf
 | p :: ps, [], vs, fr, tmps, _, hl, hf => by
  have : vs = [] := List.eq_nil_of_length_eq_zero (by simpa using hl.symm)
  subst this
  simpa [vq] using hf
 | p :: ps, x :: args, [], fr, tmps, _, hl, hf => by simp at hl
 | p :: ps, x :: args, v :: vs, fr, tmps, h, hl, hf => by
  rw [vq, List.zip_cons_cons, List.foldl_cons]
  refine qaz ps (fun i a u e1 e2 => h (i + 1) a u (by simpa using e1) (by simpa using e2)) (by simpa using hl) ?_
  exact yc (a := ⟨tmps, []⟩) (dst := some p) hf (h 0 x v rfl rfl)
theorem qhb [Lent] {cfg : Cfg} (ok : CfgOk cfg) {cf : Orac} (hO : OracOk2 cfg cf) {f : Nat} {fn : Func} {c : Code} {args : List AV} {vs : Array Value} {r : AV} (hf : cfg.P.funcs[f]? = some fn) (hb : fn.body = some c)
  (he : ((evC cfg cf f none H.length c (args ++ qi0 (fn.ntmps - args.length) .junk) H).bind fun r => zd cfg fn.results.toList (r.1, qN (cfg.lift f 0) r.2.1 r.2.2)) = some (r, H')) (ha : qc C μ args vs) (hw : Wld C μ H w) :
  CallsIn Fence.wide 0 cfg.P f vs w fun e w' => ∃ v, e = .returned v ∧ qv C μ H w r H' v w' := by
 obtain ⟨q, hq, he⟩ := qiO.1 he
 obtain ⟨h1, rfl, us, h3, rfl⟩ := qfA he
 refine callsIn_of_wp_marks hf hb trivial (wpIn_mono (qa7 ok.ty hO ok.mixed (B := w.heap.size) c hq (F := Fence.wide) (qiR _) rfl (qh1 ha fn.ntmps) hw ⟨qiR _, [], rfl, List.nodup_nil, fun D h => by cases h⟩) fun e a' w' hp => ?_)
 obtain ⟨e1, C', μ', e2, e3, e4, hmk⟩ := hp
 obtain ⟨l1, l2, l3, l4⟩ := yG (cfg.lift f 0) e3 e2
 obtain ⟨hB, Ds, m1, m2, m3⟩ := hmk.ext (l4 _ (qiR _))
 replace e2 := l2
 replace e4 := e4.trans (l4 _ e4.len) (qiR _)
 replace e3 := l1
 have hl : LeavesInM Fence.wide 0 cfg.P fn a'.tmps (fun e w' => ∃ v, e = .returned v ∧ qv C μ H w (xR us) (qN (cfg.lift f 0) q.2.1 q.2.2).2 v w') a'.defers .returning w' := by
  rw [m1]
  refine qaW rfl (fun w2 g1 g2 => ?_) Ds m2 m3 e3 e4
  obtain ⟨v, r1, r2⟩ := qdK ok.ty e2 g1 h3
  exact ⟨v, r1, v, rfl, C', μ', r2, g1, g2⟩
 rcases h1 with h1 | h1
 ·rw [h1] at e1
  subst e1
  exact hl
 ·rw [h1] at e1
  subst e1
  exact hl
theorem qfj [Lent] {cfg : Cfg} (ok : CfgOk cfg) {cf : Orac} (hO : OracOk2 cfg cf) {id : Nat} {args : List AV} {vs : Array Value} {r : AV} (he : vM cfg cf (.y id) args H = some (r, H')) (ha : qc C μ args vs) (hw : Wld C μ H w) {m : MI} (hm : μ id = some m) :
  qq cfg.P (Instr.yield m.block vs) w (qv C μ H w r H') := by
 unfold vM at he
 simp only at he
 split at he
 case h_2 => cases he
 rename_i f fr ps assign body pend hid
 split at he
 case isFalse => cases he
 rename_i hlen
 obtain ⟨q1, hq1, he⟩ := qiO.1 he
 split at he
 case h_2 => cases he
 rename_i f1 fr1 ps1 assign1 body1 pend1 hx1 hid1
 obtain ⟨q2, hq2, he⟩ := qiO.1 he
 split at he
 case h_2 => cases he
 rename_i f2 fr2 ps2 assign2 body2 pend2 st2 hid2
 obtain ⟨i2, i3, rc, i4, i5, i6, i7, i8, i9, i10⟩ := hw.liveM hid rfl hm
 have hidl : id < H.length := (qiM.1 hid).1
 have hvs : vs.size = rc.params.size := by rw [← ha.1, hlen, ← i7]; simp
 unfold qq
 rw [run_yield i4 hvs]
 simp only
 rw [i8, i9]
 have htm : ((rc.params.zip vs).foldl (fun tmps (t, a) => tmps.setIfInBounds t a) rc.tmps) = ((ps.zip vs.toList).foldl (fun t (p, v) => t.setIfInBounds p v) rc.tmps) := by
  rw [← Array.foldl_toList, Array.toList_zip, i7]
 have hfr0 : qc C μ (vq fr ps args) ((rc.params.zip vs).foldl (fun tmps (t, a) => tmps.setIfInBounds t a) rc.tmps) := by
  rw [htm]
  exact qaz ps (fun i a v e1 e2 => ha.2 i a v e1 (by rw [← Array.getElem?_toList]; exact e2)) (by rw [ha.1]; simp) i10
 have hrd : RdOk (some id) (Fence.wide.inRound m.block) μ H.length := ⟨hidl, m, hm, rfl⟩
 refine roundIn_of_wpIn trivial (wpIn_mono (qa7 ok.ty hO ok.mixed (B := w.heap.size) assign hq1 (a := ⟨_, []⟩) (qiR _) hrd hfr0 hw ⟨qiR _, [], rfl, List.nodup_nil, fun D h => by cases h⟩) fun e a1 w1 hp => ?_)
 obtain ⟨e1, C1, μ1, p1, p2, p3, p4⟩ := hp
 rw [hx1] at e1
 subst e1
 obtain ⟨m1, hm1, hb1, -⟩ := p3.mu id m hidl hm
 obtain ⟨j2, j3, rc1, j4, j5, j6, j7, j8, j9, j10⟩ := p2.liveM hid1 rfl hm1
 rw [hb1] at j2 j3 j4
 have hidl1 : id < q1.2.2.length := (qiM.1 hid1).1
 refine ⟨_, run_beginRound j4 j5, ?_⟩
 have hw2 : Wld C1 μ1 (q1.2.2.set id (.loop f1 fr1 ps1 assign1 body1 pend1 .busy)) (w1.putObj m.block (.loop { rc1 with state := .busy })) :=
  p2.setBlk hid1 rfl rfl hm1 (by simp) (fun b hb => World.putObj_heap_other (hb1 ▸ hb)) ⟨{ rc1 with state := .busy }, by rw [hb1]; exact World.putObj_heap_same j2, rfl, j6, j7, j8, j9, j10⟩
 have hx2 : Ext q1.2.2.length C1 μ1 q1.2.2 w1 C1 μ1 (q1.2.2.set id (.loop f1 fr1 ps1 assign1 body1 pend1 .busy)) (w1.putObj m.block (.loop { rc1 with state := .busy })) :=
  Ext.setBlk p2 hid1 rfl hm1 (by simp) (fun b hb => World.putObj_heap_other (hb1 ▸ hb)) rfl rfl rfl (qiR _)
 have hx12 := p3.trans hx2 p3.len
 have hrd2 : RdOk (some id) (Fence.wide.inRound m.block) μ1 H.length := ⟨hidl, m1, hm1, by rw [hb1]⟩
 refine wpIn_mono (qa7 ok.ty hO ok.mixed (B := w.heap.size) body hq2 (by simpa using p3.len) hrd2 p1 hw2 (p4.ext hx2)) fun e a2 w3 hp => ?_
 obtain ⟨e2, C3, μ3, g1, g2, g3, g4⟩ := hp
 obtain ⟨m3, hm3, hb3, -⟩ := g3.mu id m1 hidl hm1
 rw [hb1] at hb3
 obtain ⟨k2, k3, rc3, k4, k5, k6, k7, k8, k9, k10⟩ := g2.liveM hid2 rfl hm3
 rw [hb3] at k2 k3 k4
 have fin : ∀ (jump : Option Code) , ∃ v w4, (Instr.endRound m.block jump).run cfg.P w3 = .ok v w4 ∧
   qv C μ H w (.bool jump.isNone) (q2.2.2.set id (.loop f2 fr2 ps2 assign2 body2 jump (if jump.isNone then .ready else .done))) v w4 := by
  intro jump
  refine ⟨_, _, run_endRound jump k4, C3, μ3, .bool _, ?_, ?_⟩
  ·exact g2.setBlk hid2 rfl rfl hm3 (by simp) (fun b hb => World.putObj_heap_other (hb3 ▸ hb)) ⟨{ rc3 with state := if jump.isNone then .ready else .done, pending := jump }, by rw [hb3]; exact World.putObj_heap_same k2, rfl, rfl, k7, k8, k9, k10⟩
  ·have := Ext.setBlk (k := q2.2.2.length) (blk' := .loop f2 fr2 ps2 assign2 body2 jump (if jump.isNone then .ready else .done)) g2 hid2 rfl hm3 (w' := w3.putObj m.block (.loop { rc3 with state := if jump.isNone then .ready else .done, pending := jump })) (by simp) (fun b hb => World.putObj_heap_other (hb3 ▸ hb)) rfl rfl rfl (qiR _)
   exact (hx12.trans g3 (qiR _)).trans this (hx12.trans g3 (qiR _)).len
 split at he
 ·rename_i hx
  cases he
  rw [hx] at e2; subst e2
  obtain ⟨v, w4, r1, r2⟩ := fin none
  exact ⟨v, w4, r1, v, rfl, r2⟩
 ·rename_i hx
  cases he
  rw [hx] at e2; subst e2
  obtain ⟨v, w4, r1, r2⟩ := fin (some .ret)
  exact ⟨v, w4, r1, v, rfl, r2⟩
 ·rename_i x hx
  cases he
  rw [hx] at e2; subst e2
  obtain ⟨v, w4, r1, r2⟩ := fin (some (.exit x))
  exact ⟨v, w4, r1, v, rfl, r2⟩
 ·cases he
theorem qeM [Lent] {cfg : Cfg} (ok : CfgOk cfg) {cf : Orac} (hO : OracOk2 cfg cf) : OracOk2 cfg (vM cfg cf) := by
 have key : ∀ f args H r, vM cfg cf (.f f) args H = some r → cfg.ext f = none → ∃ fn c, cfg.known f = true ∧ cfg.P.funcs[f]? = some fn ∧ fn.body = some c ∧ ((evC cfg cf f none H.length c (args ++ qi0 (fn.ntmps - args.length) .junk) H).bind fun r => zd cfg fn.results.toList (r.1, qN (cfg.lift f 0) r.2.1 r.2.2)) = some r := by
  intro f args H r he hx
  unfold vM at he
  simp only [hx] at he
  split at he
  case isFalse => cases he
  rename_i hk
  split at he
  case h_2 => cases he
  rename_i fn hf
  split at he
  case h_2 => cases he
  rename_i c hb
  exact ⟨fn, c, hk, hf, hb, he⟩
 have enters : ∀ h args H r, vM cfg cf (.f h) args H = some r → cfg.ext h = none → ∀ vs w, (callFunc h vs).run cfg.P w = .ok (.enter h vs) w := by
  intro h args H r he hx vs w
  obtain ⟨fn, c, h1, h2, h3, _⟩ := key h args H r he hx
  exact qcf h2 (ok.named _ _ h1 h2) h3 vs w
 refine ⟨fun t args H r H' he C μ w vs s ha hw ht => ?_, enters⟩
 cases t with
 | f f =>
  have hs : s = callFunc f vs := ht
  subst hs
  cases hx : cfg.ext f with
  | some sp =>
   unfold vM at he
   simp only [hx] at he
   exact ok.ext f sp hx args H r H' he C μ w vs ha hw
  | none =>
   unfold qq
   rw [enters _ _ _ _ he hx]
   obtain ⟨fn, c, _, h2, h3, h4⟩ := key _ _ _ _ he hx
   exact qhb ok hO h2 h3 h4 ha hw
 | y id =>
  obtain ⟨m, hm, hs⟩ := ht
  subst hs
  exact qfj ok hO he ha hw hm
theorem qa6 [Lent] {cfg : Cfg} (ok : CfgOk cfg) : ∀ n, OracOk2 cfg (evF cfg n)
 | 0 => ⟨fun t args H r H' he => (by cases he), fun h args H r he => (by cases he)⟩
 | n + 1 => qeM ok (qa6 ok n)
theorem qhQ [Lent] {cfg : Cfg} (ok : CfgOk cfg) : OracOk2 cfg (EV cfg) := by
 refine ⟨fun t args H r H' he => ?_, fun h args H r he => ?_⟩
 ·obtain ⟨n, hn⟩ := za he
  exact (qa6 ok n).calls t args H r H' hn
 ·obtain ⟨n, hn⟩ := za he
  exact (qa6 ok n).enters h args H r hn
theorem qhR [Lent] {cfg : Cfg} (ok : CfgOk cfg) {f : FuncId} {args : List AV} {vs : Array Value} {r : AV} (hx : cfg.ext f = none) (he : EV cfg (.f f) args H = some (r, H')) (ha : qc C μ args vs) (hw : Wld C μ H w) :
  Calls cfg.P f vs w fun e w' => ∃ v, e = .returned v ∧ qv C μ H w r H' v w' := by
 have hO := qhQ ok
 have h := hO.calls _ _ _ _ _ he C μ w vs _ ha hw rfl
 unfold qq at h
 rw [hO.enters _ _ _ _ he hx] at h
 exact callsIn_wide.1 h
section
variable {α β : Type}
def EvG (cf : Nat → Orac) (c : Orac) (G : Orac → Option α) : Prop := ∀ r, G c = some r → ∃ n, ∀ m, n ≤ m → G (cf m) = some r
def Ev (cf : Nat → Orac) (c : Orac) : Prop := ∀ t a H, EvG cf c (fun o => o t a H)
variable {cf : Nat → Orac} {c : Orac}
theorem EvG.const (x : Option α) : EvG cf c (fun _ => x) := fun _r h => ⟨0, fun _ _ => h⟩
theorem EvG.bind {X : Orac → Option α} {K : Orac → α → Option β} (hX : EvG cf c X) (hK : ∀ a, EvG cf c (fun o => K o a)) : EvG cf c (fun o => (X o).bind (K o)) := by
 intro r h
 obtain ⟨a, h1, h2⟩ := qiO.1 h
 obtain ⟨n, hn⟩ := hX a h1
 obtain ⟨n', hn'⟩ := hK a r h2
 exact ⟨max n n', fun m hm => by
  show (X (cf m)).bind (K (cf m)) = some r
  rw [hn m (by omega)]
  exact hn' m (by omega)⟩
theorem EvG.map {X : Orac → Option α} (f : α → β) (hX : EvG cf c X) : EvG cf c (fun o => (X o).map f) := by
 intro r h
 obtain ⟨a, h1, h2⟩ := qiN.1 h
 obtain ⟨n, hn⟩ := hX a h1
 exact ⟨n, fun m hm => by
  show (X (cf m)).map f = some r
  rw [hn m hm, ← h2]; rfl⟩
theorem EvG.ite {p : Prop} [Decidable p] {X Y : Orac → Option α} (hX : EvG cf c X) (hY : EvG cf c Y) : EvG cf c (fun o => if p then X o else Y o) := by
 by_cases h : p
 ·simp only [if_pos h]; exact hX
 ·simp only [if_neg h]; exact hY
theorem qap (h : Ev cf c) (f : Nat) : ∀ l : List AV, EvG cf c (fun o => xS o f l)
 | [] => EvG.const _
 | a :: l => by
  simp only [xS]
  exact (h _ _ _).bind fun r => (EvG.const _).bind fun _ => qap h f l
theorem qeU (h : Ev cf c) (cfg : Cfg) (nid : Option Nat) (t : Tgt) (args : List AV) (H : AH) : EvG cf c (fun o => qI cfg o nid t args H) := by
 cases t with
 | y id => exact (h _ _ _).bind fun r => EvG.const _
 | f f =>
  simp only [qI]
  cases cfg.mode f with
  | scal => exact EvG.ite ((h _ _ _).bind fun r => EvG.const _) (EvG.const _)
  | pfrz => exact EvG.ite ((h _ _ _).bind fun r => EvG.const _) (EvG.const _)
  | nfrz => exact EvG.ite ((h _ _ _).bind fun r => EvG.const _) (EvG.const _)
  | wfrz => exact EvG.ite ((h _ _ _).bind fun r => EvG.const _) (EvG.const _)
  | pown => exact EvG.ite ((h _ _ _).bind fun r => EvG.const _) (EvG.const _)
  | inpl =>
   cases qi 0 args with
   | nil => exact EvG.ite ((h _ _ _).bind fun r => EvG.const _) (EvG.const _)
   | cons id l =>
    refine EvG.ite ?_ (EvG.const _)
    cases hb : H[id]? with
    | none => exact EvG.const _
    | some b =>
     cases b with
     | rows d sz rs => exact EvG.ite ((h _ _ _).bind fun r => EvG.const _) (EvG.const _)
     | _ => exact EvG.const _
  | inpf =>
   cases qi 0 args with
   | nil => exact EvG.const _
   | cons id l =>
    refine EvG.ite ?_ (EvG.const _)
    cases hb : H[id]? with
    | none => exact EvG.const _
    | some b =>
     cases b with
     | rows d sz rs => exact EvG.ite ((h _ _ _).bind fun r => EvG.const _) (EvG.const _)
     | _ => exact EvG.const _
  | slf =>
   cases qi 0 args with
   | nil => exact EvG.const _
   | cons id l =>
    refine EvG.ite ?_ (EvG.const _)
    cases hb : H[id]? with
    | none => exact EvG.const _
    | some b =>
     cases b with
     | rows d sz rs => exact EvG.ite ((h _ _ _).bind fun r => EvG.const _) (EvG.const _)
     | _ => exact EvG.const _
  | bld =>
   cases qi 0 args with
   | nil => exact EvG.const _
   | cons id l =>
    refine EvG.ite ?_ (EvG.const _)
    cases hb : H[id]? with
    | none => exact EvG.const _
    | some b =>
     cases b with
     | bld T e s => exact (h _ _ _).bind fun r => EvG.const _
     | _ => exact EvG.const _
  | imp => exact (h _ _ _).bind fun r => EvG.const _
  | ifrz => exact (h _ _ _).bind fun r => EvG.const _
  | sub => exact (EvG.const _).bind fun s => (h _ _ _).bind fun r => EvG.const _
  | rgn => exact EvG.ite ((h _ _ _).bind fun r => EvG.const _) (EvG.const _)
  | over =>
   dsimp only
   rcases args with _ | ⟨a, _ | ⟨b, l⟩⟩
   ·exact EvG.const _
   ·dsimp only
    cases qi 0 a.alts with
    | nil => exact EvG.const _
    | cons id l =>
     refine EvG.ite ?_ (EvG.const _)
     cases hb : H[id]? with
     | none => exact EvG.const _
     | some b =>
      cases b with
      | reg => exact (qap h _ _).map _
      | spl => exact (qap h _ _).map _
      | _ => exact EvG.const _
   ·exact EvG.const _
theorem qa4 (h : Ev cf c) (cfg : Cfg) (frz : Bool) (nid : Option Nat) (o : Oper) (x : Operand → AV) (H : AH) : EvG cf c (fun q => qn cfg q frz nid o x H) := by
 have core : ∀ (x : Operand → AV) (H : AH), EvG cf c (fun q => match o.op with
    | .call cl =>
     match cl.callee with
     | .value f => (v7 (x f) (cl.args.toList.map x)).bind fun t => qI cfg q nid t.1 t.2 H
     | _ => evOp cfg nid o.op o.type x H
    | _ => evOp cfg nid o.op o.type x H) := by
  intro x H
  split
  ·split
   ·exact (EvG.const _).bind fun t => qeU h cfg nid _ _ _
   ·exact EvG.const _
  ·exact EvG.const _
 unfold qn
 cases frz with
 | true => simp only [if_true]; exact core _ _
 | false => simp only [qiW, if_false]; exact core _ _
theorem qau (h : Ev cf c) (cfg : Cfg) (f rid : Nat) (ops : Array Oper) : ∀ (l : List Oper) (k : Nat) (fr : List AV) (H : AH), EvG cf c (fun q => xa cfg q f rid ops k l fr H)
 | [], k, fr, H => EvG.const _
 | o :: l, k, fr, H => by
  simp only [xa]
  refine (EvG.const _).bind fun b => EvG.ite ((qa4 h cfg _ _ _ _ _).bind fun r => qau h cfg f rid ops l _ _ _) (qau h cfg f rid ops l _ _ _)
theorem zt (h : Ev cf c) (cfg : Cfg) (f rid : Nat) (ops : Array Oper) : ∀ (l : List Oper) (k at_ : Nat) (fr : List AV) (H : AH), EvG cf c (fun q => q4 cfg q f rid ops k at_ l fr H)
 | [], k, at_, fr, H => EvG.const _
 | o :: l, k, at_, fr, H => by
  simp only [q4]
  refine (EvG.const _).bind fun b => EvG.ite ((qa4 h cfg _ _ _ _ _).bind fun r => (zt h cfg f rid ops l _ _ _ _).map _) ((zt h cfg f rid ops l _ _ _ _).map _)
theorem qcv {k : Nat} {ts : Option (List Tmp)} {ls : List (Tmp × Nat)} {body : Den} : ∀ {n : Nat} {p : List AV × AH} {r : Ex × List AV × AH}, vj k ts ls body n p = some r → vj k ts ls body (n + 1) p = some r
 | 0, _, _, h => by cases h
 | n + 1, p, r, h => by
  rw [vj] at h ⊢
  obtain ⟨q, h1, h2⟩ := qiO.1 h
  rw [h1]
  simp only [qi1]
  cases hq : q.1 with
  | normal =>
   rw [hq] at h2
   exact qcv h2
  | exit id => rw [hq] at h2; exact h2
  | goto l => rw [hq] at h2; exact h2
  | ret => rw [hq] at h2; exact h2
theorem qg5 {g : Nat → Option α} (hs : ∀ n r, g n = some r → g (n + 1) = some r) {n : Nat} {r : α} (h : g n = some r) : lim g = some r := by
 have up : ∀ {n : Nat} {r : α}, g n = some r → ∀ d, g (n + d) = some r := by
  intro n r h d
  induction d with
  | zero => exact h
  | succ d ih => exact hs _ _ ih
 have he : ∃ (n : Nat) (r : α), g n = some r := ⟨n, r, h⟩
 unfold lim
 rw [dif_pos he]
 have hc := Classical.choose_spec (Classical.choose_spec he)
 have e1 := up h (Classical.choose he)
 have e2 := up hc n
 rw [Nat.add_comm] at e2
 rw [e1] at e2
 exact e2.symm
theorem qdq {k : Nat} {ts : Option (List Tmp)} {ls : List (Tmp × Nat)} {body : Den} {n : Nat} {p : List AV × AH} {r : Ex × List AV × AH} (h : vj k ts ls body n p = some r) : LOOP k ts ls body p = some r :=
 qg5 (g := fun n => vj k ts ls body n p) (fun _ _ h => qcv h) h
theorem qew {k : Nat} {ts : Option (List Tmp)} {ls : List (Tmp × Nat)} {body : Orac → Den} (hb : ∀ fr H, EvG cf c (fun q => body q fr H)) : ∀ (n : Nat) (p : List AV × AH), EvG cf c (fun q => vj k ts ls (body q) n p)
 | 0, _ => EvG.const _
 | n + 1, p => by
  simp only [vj]
  refine (hb _ _).bind fun r => ?_
  cases r.1 with
  | normal => exact qew hb n _
  | exit id => exact EvG.const _
  | goto l => exact EvG.const _
  | ret => exact EvG.const _
theorem qid {k : Nat} {ts : Option (List Tmp)} {ls : List (Tmp × Nat)} {body : Orac → Den} (hb : ∀ fr H, EvG cf c (fun q => body q fr H)) (p : List AV × AH) : EvG cf c (fun q => LOOP k ts ls (body q) p) := by
 intro r h
 obtain ⟨n, hn⟩ := za h
 obtain ⟨m, hm⟩ := qew hb n p r hn
 exact ⟨m, fun i hi => qdq (hm i hi)⟩
theorem qbV (h : Ev cf c) (cfg : Cfg) (f rid : Nat) (ops : Array Oper) : ∀ (n : Nat) (D : List Nat) (fr : List AV) (H : AH), EvG cf c (fun q => yb cfg q f rid ops n D fr H)
 | 0, D, fr, H => EvG.const _
 | n + 1, D, fr, H => by
  simp only [yb]
  refine EvG.ite (EvG.const _) ?_
  have key : ∀ l : List (Nat × Oper), EvG cf c (fun q => zZ (fun i fr H => yb cfg q f rid ops n (i :: D) fr H) (fun i o => qcN cfg q f rid ops i o fr H) l) := by
   intro l
   induction l with
   | nil => exact EvG.const _
   | cons p l ih =>
    simp only [zZ]
    refine EvG.bind ?_ fun q => (qbV h cfg f rid ops n _ _ _).bind fun L => ih.map _
    simp only [qcN]
    exact (EvG.const _).bind fun b => EvG.ite ((qa4 h cfg _ _ _ _ _).map _) (EvG.const _)
  exact key _
theorem qf7 {F : Orac → List AV → AH → Option (Ex × List AV × AH)} (hF : ∀ fr H, EvG cf c (fun q => F q fr H)) (l : List (List AV × AH)) : EvG cf c (fun q => xP (F q) l) := by
 have key : ∀ (r : Ex × List AV × AH) (l : List (List AV × AH)), xi (F c) r l = true → ∃ n, ∀ m, n ≤ m → xi (F (cf m)) r l = true := by
  intro r l
  induction l with
  | nil => intro _; exact ⟨0, fun _ _ => rfl⟩
  | cons x l ih =>
   intro h
   simp only [xi, qiP] at h
   obtain ⟨n1, hn1⟩ := ih h.2
   have h1 := h.1
   split at h1
   ·rename_i r' hr'
    obtain ⟨n2, hn2⟩ := hF _ _ _ hr'
    refine ⟨max n1 n2, fun m hm => ?_⟩
    simp only [xi, qiP]
    have h2 : F (cf m) x.1 x.2 = some r' := hn2 m (by omega)
    exact ⟨by rw [h2]; exact h1, hn1 m (by omega)⟩
   ·cases h1
 cases l with
 | nil => exact EvG.const _
 | cons x l =>
  intro r h
  obtain ⟨r', h1, h⟩ := qiO.1 h
  split at h
  ·rename_i h2
   cases h
   obtain ⟨n1, hn1⟩ := hF _ _ _ h1
   obtain ⟨n2, hn2⟩ := key _ _ h2
   refine ⟨max n1 n2, fun m hm => ?_⟩
   have h3 : F (cf m) x.1 x.2 = some _ := hn1 m (by omega)
   simp only [xP, h3, qi1, hn2 m (by omega), if_true]
  ·cases h
theorem qeL (h : Ev cf c) (cfg : Cfg) (f : Nat) (rd : Option Nat) (k : Nat) : ∀ (cd : Code) (fr : List AV) (H : AH), EvG cf c (fun q => evC cfg q f rd k cd fr H) := by
 intro cd
 induction cd with
 | skip => intro fr H; simp only [evC]; exact EvG.const _
 | label l => intro fr H; simp only [evC]; exact EvG.const _
 | exit id => intro fr H; simp only [evC]; exact EvG.const _
 | ret => intro fr H; simp only [evC]; exact EvG.const _
 | goto l => intro fr H; simp only [evC]; exact EvG.const _
 | refuse s => intro fr H; simp only [evC]; exact EvG.const _
 | region id ops draw =>
  intro fr H
  simp only [evC]
  cases draw with
  | true => simp only [if_true]; exact EvG.ite ((zt h cfg f id ops _ _ _ _ _).bind fun q => EvG.const _) (EvG.const _)
  | false => simp only [qiW, if_false]; exact (qau h cfg f id ops _ _ _ _).map _
 | seq x y ihx ihy =>
  intro fr H
  simp only [evC]
  split
  ·exact (qbV h cfg f _ _ _ _ _ _).bind fun L => qf7 (fun fr H => (ihy _ _).map _) L
  refine (ihx _ _).bind fun r => ?_
  cases r.1 with
  | normal => exact ihy _ _
  | exit id => exact EvG.const _
  | goto l => exact EvG.const _
  | ret => exact EvG.const _
 | cond cnd x y ihx ihy =>
  intro fr H
  simp only [evC]
  split
  ·exact EvG.ite (ihx _ _) (ihy _ _)
  ·exact EvG.const _
 | block id x ih =>
  intro fr H
  simp only [evC]
  exact (ih _ _).bind fun r => EvG.const _
 | loop x ih =>
  intro fr H
  simp only [evC]
  exact (qid ih _).map _
 | scope x ih =>
  intro fr H
  simp only [evC]
  exact (ih _ _).bind fun r => EvG.const _
 | rangeFunc g ps assign body =>
  intro fr H
  simp only [evC, xw]
  refine EvG.ite ?_ (EvG.const _)
  split
  ·exact EvG.ite (EvG.const _) ((h _ _ _).bind fun r => EvG.const _)
  ·exact EvG.const _
theorem qdE (h : Ev cf c) (cfg : Cfg) (t : Tgt) (args : List AV) (H : AH) : EvG cf c (fun q => vM cfg q t args H) := by
 unfold vM
 cases t with
 | f f =>
  simp only
  split
  ·exact EvG.const _
  ·refine EvG.ite ?_ (EvG.const _)
   split
   ·split
    ·exact (qeL h cfg f none _ _ _ _).bind fun r => EvG.const _
    ·exact EvG.const _
   ·exact EvG.const _
 | y id =>
  simp only
  split
  ·refine EvG.ite ((qeL h cfg _ _ _ _ _ _).bind fun r => ?_) (EvG.const _)
   split
   ·exact (qeL h cfg _ _ _ _ _ _).bind fun q => EvG.const _
   ·exact EvG.const _
  ·exact EvG.const _
end
theorem qbU (cfg : Cfg) : ∀ (n : Nat) (t : Tgt) (a : List AV) (H : AH) (r : AV × AH), evF cfg n t a H = some r → evF cfg (n + 1) t a H = some r
 | 0, t, a, H, r, h => by cases h
 | n + 1, t, a, H, r, h => by
  have hev : Ev (fun _ => evF cfg (n + 1)) (evF cfg n) := fun t a H r h => ⟨0, fun _ _ => qbU cfg n t a H r h⟩
  obtain ⟨m, hm⟩ := qdE hev cfg t a H r h
  exact hm m (qiR _)
theorem qiL (cfg : Cfg) : Ev (evF cfg) (EV cfg) := by
 intro t a H r h
 obtain ⟨n, hn⟩ := za h
 refine ⟨n, fun m hm => ?_⟩
 obtain ⟨d, rfl⟩ := Nat.exists_eq_add_of_le hm
 induction d with
 | zero => exact hn
 | succ d ih => exact qbU cfg _ t a H r (ih (by omega))
theorem qiK {cfg : Cfg} {t : Tgt} {a : List AV} {H : AH} {r : AV × AH} (h : vM cfg (EV cfg) t a H = some r) : EV cfg t a H = some r := by
 obtain ⟨n, hn⟩ := qdE (qiL cfg) cfg t a H r h
 exact qg5 (g := fun n => evF cfg n t a H) (fun n r h => qbU cfg n t a H r h) (n := n + 1) (hn n (qiR _))
variable {α : Type}
inductive FK where
 | int (k : IntKind)
 | bool
 | str
 | sl
 | any
def kInt (kd : IntKind) (v : AV) (k : Int → Option α) : Option α :=
 match v with
 | .int k' n => cond (yr k' kd) (k n) none
 | _ => none
def qiH (v : AV) (k : Bool → Option α) : Option α :=
 match v with
 | .bool b => k b
 | _ => none
def kStr (v : AV) (k : List UInt8 → Option α) : Option α :=
 match v with
 | .str s => k s
 | _ => none
def kSl (v : AV) (k : List (List AV) → Option α) : Option α :=
 match v with
 | .sl rows => k rows
 | _ => none
def kAgg (v : AV) (k : List AV → Option α) : Option α :=
 match v with
 | .agg cs => k cs
 | _ => none
def kOpt {β : Type} (o : Option β) (k : β → Option α) : Option α :=
 match o with
 | some b => k b
 | none => none
def qiG (l : List AV) (k : AV → List AV → Option α) : Option α :=
 match l with
 | c :: cs => k c cs
 | [] => none
def kNil (l : List AV) (x : Option α) : Option α :=
 match l with
 | [] => x
 | _ => none
def qiF (a b : Int) : Bool := decide (a ≤ b)
def qiE (a b : Int) : Bool := decide (a < b)
inductive OV where
 | nil
 | own (sz : Nat) (rs : List (List AV)) (off len : Nat)
def EVs (cf : Orac) (f : Nat) (args : List AV) : Option AV := (cf (.f f) args []).map fun r => r.1
def EVf (cf : Orac) (f : Nat) (args : List AV) : Option AV := (cf (.f f) args []).map fun r => (r.1.frz r.1.msIds r.2).fg
def kOwn (o : OV) (x : Option α) (k : Nat → List (List AV) → Nat → Nat → Option α) : Option α :=
 match o with
 | .nil => x
 | .own sz rs off len => k sz rs off len
inductive MV where
 | unit
 | nil
 | sl (off len : Nat)
 | int (k : IntKind) (n : Int)
 | bool (b : Bool)
def kMSl (v : MV) (x : Option α) (k : Nat → Nat → Option α) : Option α :=
 match v with
 | .nil => x
 | .sl off len => k off len
 | _ => none
def qio (v : MV) (x : Option α) : Option α :=
 match v with
 | .unit => x
 | _ => none
def qhU (kd : IntKind) (v : MV) (k : Int → Option α) : Option α :=
 match v with
 | .int q n => cond (yr q kd) (k n) none
 | _ => none
def qip (v : MV) (k : Bool → Option α) : Option α :=
 match v with
 | .bool b => k b
 | _ => none
def known (fr : List AV) (c : Operand) (b : Bool) : List AV :=
 match c with
 | .tmp d => fr.set d (.bool b)
 | _ => fr
inductive Ko where
 | seq (c : Code)
 | block (id : Nat)
 | scope
variable {α : Type} {r : α} {H : AH}
theorem qL {b : Bool} {x : Option α} (h : cond b x none = some r) : b = true ∧ x = some r := by cases b <;> simp_all
variable {α : Type}
def qhh (fn : Func) : Code := match fn.body with | some c => c | none => .skip
def sub : Code → List Nat → Code
 | c, [] => c
 | .seq a b, i :: l => match i with | 0 => sub a l | _ => sub b l
 | .cond _ a b, i :: l => match i with | 0 => sub a l | _ => sub b l
 | .block _ a, _ :: l => sub a l
 | .loop a, _ :: l => sub a l
 | .scope a, _ :: l => sub a l
 | .rangeFunc _ _ a b, i :: l => match i with | 0 => sub a l | _ => sub b l
 | c, _ => c
class InlOk (cfg : Cfg) : Prop where
 ok : ∀ f fn, cfg.inl f = some fn → cfg.ext f = none ∧ cfg.known f = true ∧ cfg.P.funcs[f]? = some fn ∧ fn.body = some (qhh fn)
def qbk (f : Nat) : List (Nat × Func) → Option Func
 | [] => none
 | p :: l => if qiY p.1 f then some p.2 else qbk f l
def qhn (cfg : Cfg) : List (Nat × Func) → Prop
 | [] => True
 | p :: l => (cfg.ext p.1 = none ∧ cfg.known p.1 = true ∧ cfg.P.funcs[p.1]? = some p.2 ∧ p.2.body = some (qhh p.2)) ∧ qhn cfg l
theorem InlOk.of {cfg : Cfg} (tab : List (Nat × Func)) (h : ∀ f, cfg.inl f = qbk f tab) (ha : qhn cfg tab) : InlOk cfg where
 ok := by
  intro f fn hf
  rw [h] at hf
  clear h
  induction tab with
  | nil => cases hf
  | cons p l ih =>
   rw [qbk] at hf
   split at hf
   ·rename_i e
    have e := qiQ e
    cases hf
    rw [← e]
    exact ha.1
   ·exact ih ha.2 hf
def Gets {β : Type} (o : Option β) (P : β → Prop) : Prop := ∃ r, o = some r ∧ P r
theorem Gets.ev {β : Type} {o o' : Option β} {P : β → Prop} (h : ∀ r, o = some r → o' = some r) (hy : Gets o P) : Gets o' P := by
 obtain ⟨r, h1, h2⟩ := hy
 exact ⟨r, h r h1, h2⟩
theorem Gets.eq {β : Type} {o o' : Option β} {P : β → Prop} (h : o' = o) (hy : Gets o P) : Gets o' P := h ▸ hy
theorem gE {β : Type} {o o' x : Option β} {P : β → Prop} (f : ∀ r, o = some r → o' = some r) (e : o = x) (h : Gets x P) : Gets o' P := Gets.ev f (Gets.eq e h)
theorem Gets.mono {β : Type} {o : Option β} {P Q : β → Prop} (h : Gets o P) (hq : ∀ b, P b → Q b) : Gets o Q := by
 obtain ⟨r, h1, h2⟩ := h
 exact ⟨r, h1, hq r h2⟩
theorem Gets.bind {β γ : Type} {o : Option β} {k : β → Option γ} {Q : β → Prop} {P : γ → Prop} (h : Gets o Q) (hk : ∀ b, Q b → Gets (k b) P) : Gets (kOpt o k) P := by
 obtain ⟨r, h1, h2⟩ := h
 subst h1
 exact hk r h2
@[simp] theorem gets_some {β : Type} {a : β} {P : β → Prop} : Gets (some a) P ↔ P a := ⟨fun ⟨r, h1, h2⟩ => by cases h1; exact h2, fun h => ⟨a, rfl, h⟩⟩
theorem Gets.get {β : Type} {o : Option β} {a : β} (h : Gets o (· = a)) : o = some a := by
 obtain ⟨r, h1, h2⟩ := h
 rw [h1, h2]
@[simp] theorem nble (a b : Nat) : Nat.ble a b = decide (a ≤ b) := by
 rcases h : Nat.ble a b with _ | _
 ·rw [eq_comm, decide_eq_false_iff_not]; intro h'; rw [Nat.ble_eq_true_of_le h'] at h; cases h
 ·rw [eq_comm, decide_eq_true_eq]; exact Nat.le_of_ble_eq_true h
@[simp] theorem nbeq (a b : Nat) : qiY a b = decide (a = b) := by
 rcases h : qiY a b with _ | _
 ·rw [eq_comm, decide_eq_false_iff_not]; intro h'; rw [h', Nat.beq_refl] at h; cases h
 ·rw [eq_comm, decide_eq_true_eq]; exact qiQ h
@[simp] theorem leInt_eq (a b : Int) : qiF a b = decide (a ≤ b) := rfl
@[simp] theorem ltInt_eq (a b : Int) : qiE a b = decide (a < b) := rfl
def AV.IsInt (v : AV) : Prop := ∃ n, v = .int .i64 n
def AV.IsBool (v : AV) : Prop := ∃ b, v = .bool b
@[simp] theorem isInt_int (n : Int) : (AV.int .i64 n).IsInt := ⟨n, rfl⟩
@[simp] theorem isBool_bool (b : Bool) : (AV.bool b).IsBool := ⟨b, rfl⟩
@[simp] theorem kOptSome {β : Type} (b : β) (k : β → Option α) : kOpt (some b) k = k b := rfl
@[simp] theorem kOptNone {β : Type} (k : β → Option α) : kOpt none k = none := rfl
@[simp] theorem kMInt_int (kd : IntKind) (n : Int) (k : Int → Option α) : qhU kd (.int kd n) k = k n := by simp [qhU, yr]
@[simp] theorem kInt_int (kd : IntKind) (n : Int) (k : Int → Option α) : kInt kd (.int kd n) k = k n := by simp [kInt, yr]
@[simp] theorem kBool_bool (b : Bool) (k : Bool → Option α) : qiH (.bool b) k = k b := rfl
@[simp] theorem kStr_str (s : List UInt8) (k : List UInt8 → Option α) : kStr (.str s) k = k s := rfl
@[simp] theorem kAgg_agg (cs : List AV) (k : List AV → Option α) : kAgg (.agg cs) k = k cs := rfl
@[simp] theorem kCons_cons (c : AV) (cs : List AV) (k : AV → List AV → Option α) : qiG (c :: cs) k = k c cs := rfl
@[simp] theorem kNil_nil (x : Option α) : kNil [] x = x := rfl
@[simp] theorem kMSl_nil (x : Option α) (k : Nat → Nat → Option α) : kMSl .nil x k = x := rfl
@[simp] theorem kMSl_sl (off len : Nat) (x : Option α) (k : Nat → Nat → Option α) : kMSl (.sl off len) x k = k off len := rfl
@[simp] theorem kMUnit_unit (x : Option α) : qio .unit x = x := rfl
@[simp] theorem kMBool_bool (b : Bool) (k : Bool → Option α) : qip (.bool b) k = k b := rfl
@[simp] theorem kOwn_nil (x : Option α) (k : Nat → List (List AV) → Nat → Nat → Option α) : kOwn .nil x k = x := rfl
@[simp] theorem kOwn_own (sz : Nat) (rs : List (List AV)) (off len : Nat) (x : Option α) (k : Nat → List (List AV) → Nat → Nat → Option α) : kOwn (.own sz rs off len) x k = k sz rs off len := rfl
@[simp] theorem kSl_sl (rs : List (List AV)) (k : List (List AV) → Option α) : kSl (.sl rs) k = k rs := rfl
@[simp] theorem get?Internal_eq {β : Type} (l : List β) (i : Nat) : List.get?Internal l i = l[i]? := rfl
variable {α β : Type}
def zs (b : Bool) (k : Bool → α) : α := match b with | true => k true | false => k false
def fNat (n : Nat) (k : Nat → α) : α := match n with | 0 => k 0 | m + 1 => k (m + 1)
def fInt (n : Int) (k : Int → α) : α := match n with | .ofNat m => fNat m fun m => k (.ofNat m) | .negSucc m => fNat m fun m => k (.negSucc m)
def fL (g : β → (β → α) → α) : List β → (List β → α) → α
 | [], k => k []
 | a :: l, k => g a fun a' => fL g l fun l' => k (a' :: l')
def qgs (kd : IntKind) (k : IntKind → α) : α := match kd with
 | .i64 => k .i64
 | .u64 => k .u64
 | .u8 => k .u8
 | .i32 => k .i32
 | .u32 => k .u32
 | x => k x
def qcG (b : UInt8) (k : UInt8 → α) : α := fNat b.toNat fun n => k (UInt8.ofNat n)
def fAV : Nat → AV → (AV → α) → α
 | 0, v, k => k v
 | n + 1, v, k => match v with
  | .int kd m => qgs kd fun kd => fInt m fun m => k (.int kd m)
  | .bool b => zs b fun b => k (.bool b)
  | .str s => fL qcG s fun s => k (.str s)
  | .agg cs => fL (fAV n) cs fun cs => k (.agg cs)
  | .tup cs => fL (fAV n) cs fun cs => k (.tup cs)
  | .nilS => k .nilS
  | .sl rows => fL (fL (fAV n)) rows fun rows => k (.sl rows)
  | .em => k .em
  | .ms a b c => fNat a fun a => fNat b fun b => fNat c fun c => k (.ms a b c)
  | .nilP => k .nilP
  | .ptr a b c => fNat a fun a => fNat b fun b => fNat c fun c => k (.ptr a b c)
  | .cptr cs o => fL (fAV n) cs fun cs => fNat o fun o => k (.cptr cs o)
  | .fn f a b => fL (fAV n) a fun a => fL (fAV n) b fun b => k (.fn f a b)
  | .yld a => fNat a fun a => k (.yld a)
  | .nilF => k .nilF
  | .nilM => k .nilM
  | .mp a => fNat a fun a => k (.mp a)
  | .nilI => k .nilI
  | .ifc t v => fAV n v fun v => k (.ifc t v)
  | .junk => k .junk
  | .lsl r => k (.lsl r)
  | .lpt c o => k (.lpt c o)
  | .rsl i r => k (.rsl i r)
  | .rpt i c o => k (.rpt i c o)
  | .alt l => k (.alt l)
  | .wr a b => k (.wr a b)
def fB (b : ABlk) (k : ABlk → α) : α := match b with
 | .rows d sz rs => zs d fun d => fNat sz fun sz => fL (fL (fAV 1)) rs fun rs => k (.rows d sz rs)
 | .froz d sz rs => zs d fun d => fNat sz fun sz => fL (fL (fAV 1)) rs fun rs => k (.froz d sz rs)
 | .mp es => fL (fun (e : AV × AV) k => k e) es fun es => k (.mp es)
 | .loop f fr ps a b p s => fL (fAV 1) fr fun fr => k (.loop f fr ps a b p s)
 | .dead => k .dead
 | .res => k .res
 | .reg => k .reg
 | .spl => k .spl
 | .bld T e s => k (.bld T e s)
def fH (H : AH) (k : AH → α) : α := fL fB H k
theorem ya {g : β → (β → α) → α} (hg : ∀ b k, g b k = k b) : ∀ (l : List β) (k : List β → α), fL g l k = k l
 | [], _ => rfl
 | a :: l, k => by rw [fL, hg, ya hg l]
theorem zg (b : Bool) (k : Bool → α) : zs b k = k b := by cases b <;> rfl
theorem q9 (b : Nat) (k : Nat → α) : fNat b k = k b := by cases b <;> rfl
theorem qfT (b : Int) (k : Int → α) : fInt b k = k b := by cases b <;> simp only [fInt, q9]
theorem qeI (b : IntKind) (k : IntKind → α) : qgs b k = k b := by cases b <;> rfl
theorem qbT (b : UInt8) (k : UInt8 → α) : qcG b k = k b := by simp [qcG, q9]
theorem qcH : ∀ (n : Nat) (v : AV) (k : AV → α), fAV n v k = k v
 | 0, _, _ => rfl
 | n + 1, v, k => by
  have e1 : ∀ (l : List AV) (k : List AV → α), fL (fAV n) l k = k l := ya (qcH n)
  have e2 : ∀ (l : List (List AV)) (k : List (List AV) → α), fL (fL (fAV n)) l k = k l := ya e1
  cases v <;> simp only [fAV, qeI, qfT, zg, q9, e1, e2, ya qbT, qcH n]
theorem qiJ (b : ABlk) (k : ABlk → α) : fB b k = k b := by
 have e1 : ∀ (l : List AV) (k : List AV → α), fL (fAV 1) l k = k l := ya (qcH 1)
 have e2 : ∀ (l : List (List AV)) (k : List (List AV) → α), fL (fL (fAV 1)) l k = k l := ya e1
 cases b <;> simp only [fB, zg, q9, e1, e2, ya (g := fun (e : AV × AV) (k : AV × AV → α) => k e) (fun _ _ => rfl)]
theorem qdY (H : AH) (k : AH → α) : fH H k = k H := ya qiJ H k
def fFr (fr : List AV) (k : List AV → α) : α := fL (fun v k => match v with | .junk => k .junk | v => k v) fr k
theorem zf (fr : List AV) (k : List AV → α) : fFr fr k = k fr := ya (fun v k => by cases v <;> rfl) fr k
def qiz (c a b : AV) (H : AH) : Option (AV × AH) :=
 match c with
 | .bool t => some (if t then a else b, H)
 | _ => none
def qii (cfg : Cfg) (nid : Option Nat) (t : TypeId) (H : AH) : Option (AV × AH) :=
 match cfg.ty t with
 | some ti =>
  if qQ ti.zero then
   match aNew nid H (yj cfg t ti.zero) with
   | some (k, H') => some (.ptr k 0 0, H')
   | none => none
  else none
 | none => none
def xBox (cfg : Cfg) (t : TypeId) (nid : Option Nat) (a : AV) (H : AH) : Option (AV × AH) :=
 match a.cells with
 | some cs =>
  match aNew nid H (qab cfg t cs) with
  | some (k, H') => some (.ptr k 0 0, H')
  | none => none
 | none => none
def qih (cfg : Cfg) (t : TypeId) (parts : List (Nat × AV)) (H : AH) : Option (AV × AH) :=
 match cfg.ty t with
 | some ti =>
  if qQ ti.zero then
   match ti.d with
   | .struct fs =>
    match yd cfg fs with
    | some ps => (zx (fun i => ps[i]?) ti.zero parts).map fun cs => (.agg (cfg.fga t cs), H)
    | none => none
   | .array _ e =>
    match cfg.sz e with
    | some n => (zx (fun i => some (i * n, n)) ti.zero parts).map fun cs => (.agg cs, H)
    | none => none
   | _ => none
  else none
 | none => none
def qbp (cfg : Cfg) (nid : Option Nat) (t : TypeId) (len : Nat) (parts : List (Nat × AV)) (H : AH) : Option (AV × AH) :=
 match cfg.td t with
 | some (.slice e) =>
  match cfg.ty e with
  | some ei =>
   if xQ ei && Nat.ble (len * ei.sz) 16777216 then
    match yJ ei.sz (qi0 len ei.zero) parts with
    | some rows =>
     match aNew nid H (.rows (qf 0 rows) ei.sz rows) with
     | some (k, H') => some (.ms k 0 len, H')
     | none => none
    | none => none
   else none
  | none => none
 | _ => none
def qiA (cfg : Cfg) (t : TypeId) (a : AV) (H : AH) : Option (AV × AH) :=
 match cfg.ty t with
 | some ti => (yK ti.d.agg ti.sz H a).map fun v => (v, H)
 | none => none
def qif (cfg : Cfg) (t : TypeId) (a v : AV) (H : AH) : Option (AV × AH) :=
 match cfg.sz t with
 | some n => (xk n H a v).map fun H' => (.junk, H')
 | none => none
def xNil (a : AV) (H : AH) : Option (AV × AH) :=
 match a with
 | .ptr id r off => some (.ptr id r off, H)
 | .cptr cs off => some (.cptr cs off, H)
 | .fn (.func f) a b => some (.fn (.func f) a b, H)
 | .mp id => some (.mp id, H)
 | .yld id => some (.yld id, H)
 | _ => none
def qhp (t : AV) (i : Nat) (H : AH) : Option (AV × AH) :=
 match t with
 | .tup vs => (vs[i]?).map fun v => (v, H)
 | _ => none
def xOp (cfg : Cfg) (nid : Option Nat) (o : Op) (ty : TypeId) (x : Operand → AV) (H : AH) : Option (AV × AH) :=
 match o with
 | .move a | .assign a => some (x a, H)
 | .pick c a b => qiz (x c) (x a) (x b) H
 | .alloc t => qii cfg nid t H
 | .box t a => xBox cfg t nid (x a) H
 | .build t parts => qih cfg t (parts.toList.map fun p => (p.1, x p.2)) H
 | .buildSlice t len parts => qbp cfg nid t len (parts.toList.map fun p => (p.1, x p.2)) H
 | .load t a => qiA cfg t (x a) H
 | .store t a v => qif cfg t (x a) (x v) H
 | .nilCheck a => xNil (x a) H
 | .binOp op t a b _ => (aBin cfg (litN a b) op t (x a) (x b)).map fun v => (v, H)
 | .unOp op _ a => (aUn op (x a)).map fun v => (v, H)
 | .convert s d a => xl cfg nid s d (x a) H
 | .makeFunc f first caps => some (.fn f (first.toList.map x) (caps.toList.map x), H)
 | .makeSlice t l c => yv cfg nid t (x l) (x c) H
 | .slice t a lo hi mx => (zl cfg t H (x a) (lo.map x) (hi.map x) (mx.map x)).map fun v => (v, H)
 | .fieldAddr t a f => (yL cfg t (x a) f).map fun v => (v, H)
 | .field t a f => (qc3 cfg t (x a) f).map fun v => (v, H)
 | .indexAddr t a i => (vT cfg t H (x a).unwr (x i)).map fun v => (v, H)
 | .index t a i => (qc2 cfg t (x a) (x i)).map fun v => (v, H)
 | .extract t i => qhp (x t) i H
 | o => evOp cfg nid o ty x H
theorem qgM (cfg : Cfg) (nid : Option Nat) (o : Op) (ty : TypeId) (x : Operand → AV) (H : AH) : xOp cfg nid o ty x H = evOp cfg nid o ty x H := by cases o <;> rfl
def qig (cfg : Cfg) (cf : Orac) (nid : Option Nat) (f : AV) (args : List AV) (H : AH) : Option (AV × AH) := (v7 f args).bind fun t => qI cfg cf nid t.1 t.2 H
def qiB (cfg : Cfg) (cf : Orac) (nid : Option Nat) (o : Op) (c : Call) (ty : TypeId) (x : Operand → AV) (H : AH) : Option (AV × AH) :=
 match c.callee with
 | .value f => qig cfg cf nid (x f) (c.args.toList.map x) H
 | _ => evOp cfg nid o ty x H
def qgL (cfg : Cfg) (cf : Orac) (nid : Option Nat) (o : Op) (ty : TypeId) (x : Operand → AV) (H : AH) : Option (AV × AH) :=
 match o with
 | .call c => qiB cfg cf nid (.call c) c ty x H
 | o => xOp cfg nid o ty x H
def qdT (cfg : Cfg) (cf : Orac) (frz : Bool) (nid : Option Nat) (o : Oper) (x : Operand → AV) (H : AH) : Option (AV × AH) :=
 match frz with
 | false => qgL cfg cf nid o.op o.type x H
 | true => qn cfg cf true nid o x H
theorem qd6 (cfg : Cfg) (cf : Orac) (frz : Bool) (nid : Option Nat) (o : Oper) (x : Operand → AV) (H : AH) : qdT cfg cf frz nid o x H = qn cfg cf frz nid o x H := by
 cases frz with
 | true => rfl
 | false =>
  obtain ⟨dst, op, ty, pos, after, guard⟩ := o
  unfold qdT qgL qn
  simp only [qiW, if_false, qgM]
  cases op with
  | call c =>
   obtain ⟨callee, args, argTypes⟩ := c
   cases callee <;> rfl
  | _ => rfl
def qfQ (o : Op) : Bool := match o with
 | .alloc _ | .box _ _ | .buildSlice _ _ _ | .store _ _ _ | .convert _ _ _ | .makeSlice _ _ _ | .call _ => false
 | _ => true
def xRes (q : Bool) (o : Option (AV × AH)) (k : AV → AH → Option β) : Option β :=
 match o with
 | none => none
 | some r => fAV 12 r.1 fun v => cond q (k v r.2) (fH r.2 fun H => k v H)
theorem qfM (q : Bool) (o : Option (AV × AH)) (k : AV → AH → Option β) : xRes q o k = o.bind fun r => k r.1 r.2 := by
 cases o with
 | none => rfl
 | some r => cases q <;> simp [xRes, qcH, qdY]
def xOps (cfg : Cfg) (cf : Orac) (f rid : Nat) (ops : Array Oper) : Nat → List Oper → List AV → AH → Option (List AV × AH)
 | _, [], fr, H => some (fr, H)
 | k, o :: rest, fr, H =>
  match qK ops fr o with
  | none => none
  | some b =>
   cond b (xRes (qfQ o.op && !cfg.frz f rid k) (qdT cfg cf (cfg.frz f rid k) none o (opd fr) H) fun v H' => fFr (put fr o.dst v) fun fr' => xOps cfg cf f rid ops (k + 1) rest fr' H')
    (fFr (put fr o.dst (.tup [])) fun fr' => xOps cfg cf f rid ops (k + 1) rest fr' H)
theorem qfN (cfg : Cfg) (cf : Orac) (f rid : Nat) (ops : Array Oper) : ∀ (l : List Oper) (k : Nat) (fr : List AV) (H : AH), xOps cfg cf f rid ops k l fr H = xa cfg cf f rid ops k l fr H
 | [], _, _, _ => rfl
 | o :: l, k, fr, H => by
  rw [xOps, xa]
  cases qK ops fr o with
  | none => rfl
  | some b => cases b <;> simp [qfM, qd6, zf, qfN cfg cf f rid ops l]
def qb8 (cfg : Cfg) (cf : Orac) (f rid : Nat) (ops : Array Oper) : Nat → Nat → List Oper → List AV → AH → Option (List DR × List AV × AH)
 | _, _, [], fr, H => some ([], fr, H)
 | k, at_, o :: rest, fr, H =>
  match qK ops fr o with
  | none => none
  | some b =>
   fNat (at_ + zW cfg o) fun at' =>
   cond b (xRes (qfQ o.op && !cfg.frz f rid k) (qdT cfg cf (cfg.frz f rid k) (some at_) o (opd fr) H) fun v H' => fFr (put fr o.dst v) fun fr' =>
     match qb8 cfg cf f rid ops (k + 1) at' rest fr' H' with
     | none => none
     | some q => some (drOf cfg (cfg.frz f rid k) at_ o (opd fr) H v H' :: q.1, q.2))
    (fFr (put fr o.dst (.tup [])) fun fr' =>
     match qb8 cfg cf f rid ops (k + 1) at' rest fr' H with
     | none => none
     | some q => some (drNo H :: q.1, q.2))
theorem qd8 (cfg : Cfg) (cf : Orac) (f rid : Nat) (ops : Array Oper) : ∀ (l : List Oper) (k at_ : Nat) (fr : List AV) (H : AH), qb8 cfg cf f rid ops k at_ l fr H = q4 cfg cf f rid ops k at_ l fr H
 | [], _, _, _, _ => rfl
 | o :: l, k, at_, fr, H => by
  have em : ∀ (x : Option (List DR × List AV × AH)) (g : List DR × List AV × AH → List DR × List AV × AH), (match x with | none => none | some q => some (g q)) = x.map g := fun x g => by cases x <;> rfl
  rw [qb8, q4]
  cases qK ops fr o with
  | none => rfl
  | some b => cases b <;> simp [qfM, qd6, zf, q9, qd8 cfg cf f rid ops l, em]
def qdU (k : Nat) (ts : Option (List Tmp)) (ls : List (Tmp × Nat)) (body : Den) : Nat → List AV → AH → Option (Ex × List AV × AH)
 | 0, _, _ => none
 | n + 1, fr, H =>
  match body fr H with
  | none => none
  | some r =>
   match r.1 with
   | .normal => fFr (vX k ts ls r.2.1 r.2.2).1 fun fr' => fH (vX k ts ls r.2.1 r.2.2).2 fun H' => qdU k ts ls body n fr' H'
   | e => some (e, r.2)
theorem qd7 (k : Nat) (ts : Option (List Tmp)) (ls : List (Tmp × Nat)) (body : Den) : ∀ (n : Nat) (fr : List AV) (H : AH), qdU k ts ls body n fr H = vj k ts ls body n (fr, H)
 | 0, _, _ => rfl
 | n + 1, fr, H => by
  rw [qdU, vj]
  show _ = (body fr H).bind _
  cases body fr H with
  | none => rfl
  | some r =>
   simp only [qi1]
   cases hr : r.1 <;> simp [zf, qdY, qd7 k ts ls body n]
def xC (cfg : Cfg) (cf : Orac) (m : Nat) (f : Nat) (rd : Option Nat) (bs : Nat) : Code → List AV → AH → Option (Ex × List AV × AH)
 | .skip, fr, H => some (.normal, fr, H)
 | .label _, fr, H => some (.normal, fr, H)
 | .region id ops draw, fr, H =>
  if draw then
   if xK ops then
    match qb8 cfg cf f id ops 0 H.length ops.toList fr (H ++ qi0 (places cfg ops.toList) .res) with
    | none => none
    | some q => if z6 (ancs [] ops.toList) (H ++ qi0 (places cfg ops.toList) .res) q.1 then some (.normal, q.2) else none
   else none
  else match xOps cfg cf f id ops 0 ops.toList fr H with
   | none => none
   | some q => some (.normal, q)
 | .seq a b, fr, H =>
  match xC cfg cf m f rd bs a fr H with
  | none => none
  | some r =>
   match r.1 with
   | .normal => fFr (qF (cfg.cut f (qd b)) r.2.1) fun fr' => xC cfg cf m f rd bs b fr' r.2.2
   | e => some (e, r.2)
 | .cond c a b, fr, H =>
  match opd fr c with
  | .bool t => if t then xC cfg cf m f rd bs a fr H else xC cfg cf m f rd bs b fr H
  | _ => none
 | .block id a, fr, H =>
  match xC cfg cf m f rd bs a fr H with
  | none => none
  | some r =>
   match r.1 with
   | .exit id' => some (if qiY id' id then (.normal, r.2) else r)
   | _ => some r
 | .loop a, fr, H =>
  match fFr (vX bs (cfg.keepIn f (qd a)) (cfg.lift f (qd a)) fr H).1 fun fr' => fH (vX bs (cfg.keepIn f (qd a)) (cfg.lift f (qd a)) fr H).2 fun H' => qdU bs (cfg.keepIn f (qd a)) (cfg.lift f (qd a)) (xC cfg cf m f rd bs a) m fr' H' with
  | none => none
  | some r => fFr (qF (cfg.keepOut f (qd a)) r.2.1) fun fr' => some (r.1, fr', r.2.2)
 | .scope a, fr, H =>
  match xC cfg cf m f rd bs a fr H with
  | none => none
  | some r =>
   match r.1 with
   | .goto _ => none
   | _ => some r
 | .exit id, fr, H => some (.exit id, fr, H)
 | .goto _, _, _ => none
 | .ret, fr, H => some (.ret, fr, H)
 | .rangeFunc g ps assign body, fr, H => fFr (qN (cfg.lift f (qd body)) fr H).1 fun fr' => fH (qN (cfg.lift f (qd body)) fr H).2 fun H' => xw cfg cf f rd bs g ps assign body fr' H'
 | .refuse _, _, _ => none
theorem qiC (cfg : Cfg) {cf cf' : Orac} (hcf : ∀ t a H r, cf t a H = some r → cf' t a H = some r) (m : Nat) (f : Nat) (rd : Option Nat) (bs : Nat) : ∀ (cd : Code) (fr : List AV) (H : AH) (r), xC cfg cf m f rd bs cd fr H = some r → evC cfg cf' f rd bs cd fr H = some r := by
 have hev : Ev (fun _ => cf') cf := fun t a H r h => ⟨0, fun _ _ => hcf t a H r h⟩
 have key : ∀ {γ : Type} {G : Orac → Option γ}, EvG (fun _ => cf') cf G → ∀ r, G cf = some r → G cf' = some r := fun h r hr => by
  obtain ⟨n, hn⟩ := h r hr
  exact hn n (qiR _)
 intro cd
 induction cd with
 | skip => intro fr H r h; exact h
 | label l => intro fr H r h; exact h
 | exit id => intro fr H r h; exact h
 | ret => intro fr H r h; exact h
 | goto l => intro fr H r h; cases h
 | refuse s => intro fr H r h; cases h
 | region id ops draw =>
  intro fr H r h
  simp only [xC, evC] at h ⊢
  cases draw with
  | true =>
   simp only [if_true] at h ⊢
   split at h
   ·rename_i hd
    rw [if_pos hd]
    rw [qd8] at h
    cases hq : q4 cfg cf f id ops 0 H.length ops.toList fr (H ++ qi0 (places cfg ops.toList) .res) with
    | none => rw [hq] at h; cases h
    | some q =>
     rw [hq] at h
     have h2 := key (G := fun o => q4 cfg o f id ops 0 H.length ops.toList fr (H ++ qi0 (places cfg ops.toList) .res)) (zt hev cfg f id ops _ _ _ _ _) q hq
     rw [h2]
     exact h
   ·cases h
  | false =>
   simp only [qiW, if_false] at h ⊢
   rw [qfN] at h
   refine key (G := fun q => (xa cfg q f id ops 0 ops.toList fr H).map fun q => (Ex.normal, q)) ((qau hev cfg f id ops _ _ _ _).map _) r ?_
   rw [← h]
   cases xa cfg cf f id ops 0 ops.toList fr H <;> rfl
 | seq x y ihx ihy =>
  intro fr H r h
  simp only [xC, evC] at h ⊢
  cases hco : qaa x with
  | some p =>
   obtain ⟨rfl, hcc⟩ := qbC hco
   have h1 : xK p.2 = false := by unfold xK; rw [hcc]; rfl
   simp only [xC, if_true, h1, qiW, if_false] at h
   cases h
  | none => ?_
  simp only
  split at h
  ·cases h
  ·rename_i q hq
   rw [ihx _ _ _ hq]
   simp only [qi1]
   cases hq1 : q.1 with
   | normal => rw [hq1] at h; rw [zf] at h; exact ihy _ _ _ h
   | exit id => rw [hq1] at h; exact h
   | goto l => rw [hq1] at h; exact h
   | ret => rw [hq1] at h; exact h
 | cond cnd x y ihx ihy =>
  intro fr H r h
  simp only [xC, evC] at h ⊢
  split at h
  ·rename_i t ht
   rw [ht]
   cases t with
   | true => exact ihx _ _ _ h
   | false => exact ihy _ _ _ h
  ·cases h
 | block id x ih =>
  intro fr H r h
  simp only [xC, evC] at h ⊢
  split at h
  ·cases h
  ·rename_i q hq
   rw [ih _ _ _ hq]
   exact h
 | loop x ih =>
  intro fr H r h
  simp only [xC, evC] at h ⊢
  split at h
  ·cases h
  ·rename_i q hq
   rw [zf, qdY, qd7] at hq
   rw [zf] at h
   have hl : LOOP bs (cfg.keepIn f (qd x)) (cfg.lift f (qd x)) (evC cfg cf' f rd bs x) (vX bs (cfg.keepIn f (qd x)) (cfg.lift f (qd x)) fr H) = some q := by
    refine qdq (n := m) ?_
    have up : ∀ (n : Nat) (p : List AV × AH) (r), vj bs (cfg.keepIn f (qd x)) (cfg.lift f (qd x)) (xC cfg cf m f rd bs x) n p = some r → vj bs (cfg.keepIn f (qd x)) (cfg.lift f (qd x)) (evC cfg cf' f rd bs x) n p = some r := by
     intro n
     induction n with
     | zero => intro p r h; cases h
     | succ n ihn =>
      intro p r h
      rw [vj] at h ⊢
      obtain ⟨q, h1, h2⟩ := qiO.1 h
      rw [ih _ _ _ h1]
      simp only [qi1]
      cases hq : q.1 with
      | normal => rw [hq] at h2; exact ihn _ _ h2
      | exit id => rw [hq] at h2; exact h2
      | goto l => rw [hq] at h2; exact h2
      | ret => rw [hq] at h2; exact h2
    exact up _ _ _ hq
   rw [hl]
   exact h
 | scope x ih =>
  intro fr H r h
  simp only [xC, evC] at h ⊢
  split at h
  ·cases h
  ·rename_i q hq
   rw [ih _ _ _ hq]
   exact h
 | rangeFunc g ps assign body =>
  intro fr H r h
  simp only [xC, evC, zf, qdY] at h ⊢
  unfold xw at h ⊢
  split at h
  ·rename_i hl
   rw [if_pos hl]
   split at h
   ·split at h
    ·cases h
    ·rename_i hx
     rw [if_neg hx]
     obtain ⟨q, hq, h⟩ := qiO.1 h
     rw [hcf _ _ _ _ hq]
     exact h
   ·cases h
  ·cases h
variable {α β : Type}
noncomputable def gL (g : β → (β → α) → α) (l : List β) : (List β → α) → α :=
 List.rec (motive := fun _ => (List β → α) → α) (fun k => k []) (fun a _ ih k => g a fun a' => ih fun l' => k (a' :: l')) l
noncomputable def gS (l : List β) : (List β → α) → α :=
 List.rec (motive := fun _ => (List β → α) → α) (fun k => k []) (fun a _ ih k => ih fun l' => k (a :: l')) l
theorem vR {g : β → (β → α) → α} (hg : ∀ b k, g b k = k b) : ∀ (l : List β) (k : List β → α), gL g l k = k l
 | [], _ => rfl
 | a :: l, k => by
  have : gL g (a :: l) k = g a fun a' => gL g l fun l' => k (a' :: l') := rfl
  rw [this, hg, vR hg l]
theorem vt : ∀ (l : List β) (k : List β → α), gS l k = k l
 | [], _ => rfl
 | a :: l, k => by
  have : gS (a :: l) k = gS l fun l' => k (a :: l') := rfl
  rw [this, vt l]
def gA1 (v : AV) (k : AV → α) : α := match v with
 | .int kd m => qgs kd fun kd => fInt m fun m => k (.int kd m)
 | .bool b => zs b fun b => k (.bool b)
 | .str s => fL qcG s fun s => k (.str s)
 | .ms a b c => fNat a fun a => fNat b fun b => fNat c fun c => k (.ms a b c)
 | .ptr a b c => fNat a fun a => fNat b fun b => fNat c fun c => k (.ptr a b c)
 | v => k v
theorem qeE (v : AV) (k : AV → α) : gA1 v k = k v := by
 cases v <;> simp only [gA1, qeI, qfT, zg, q9, ya qbT]
noncomputable def gA2 (v : AV) (k : AV → α) : α := match v with
 | .agg cs => gL gA1 cs fun cs => k (.agg cs)
 | .sl rows => gL (gL gA1) rows fun rows => k (.sl rows)
 | .cptr cs o => gL gA1 cs fun cs => fNat o fun o => k (.cptr cs o)
 | .fn f a b => gL gA1 a fun a => gL gA1 b fun b => k (.fn f a b)
 | v => gA1 v k
theorem qha (v : AV) (k : AV → α) : gA2 v k = k v := by
 have e1 : ∀ (l : List AV) (k : List AV → α), gL gA1 l k = k l := vR qeE
 cases v <;> simp only [gA2, qeE, e1, q9, vR e1]
noncomputable def gA (v : AV) (k : AV → α) : α := match v with
 | .tup cs => gL gA2 cs fun cs => k (.tup cs)
 | .ifc t v => gA2 v fun v => k (.ifc t v)
 | v => gA2 v k
theorem yl (v : AV) (k : AV → α) : gA v k = k v := by
 cases v <;> simp only [gA, qha, vR qha]
def gW (v : AV) (k : AV → α) : α := match v with
 | .int a b => k (.int a b)
 | .bool a => k (.bool a)
 | .str a => k (.str a)
 | .agg a => k (.agg a)
 | .tup a => k (.tup a)
 | .nilS => k .nilS
 | .sl a => k (.sl a)
 | .em => k .em
 | .ms a b c => k (.ms a b c)
 | .nilP => k .nilP
 | .ptr a b c => k (.ptr a b c)
 | .cptr a b => k (.cptr a b)
 | .fn a b c => k (.fn a b c)
 | .yld a => k (.yld a)
 | .nilF => k .nilF
 | .nilM => k .nilM
 | .mp a => k (.mp a)
 | .nilI => k .nilI
 | .ifc a b => k (.ifc a b)
 | .junk => k .junk
 | .lsl r => k (.lsl r)
 | .lpt c o => k (.lpt c o)
 | .rsl i r => k (.rsl i r)
 | .rpt i c o => k (.rpt i c o)
 | .alt l => k (.alt l)
 | .wr a b => k (.wr a b)
theorem qbl (v : AV) (k : AV → α) : gW v k = k v := by cases v <;> rfl
noncomputable def gB (b : ABlk) (k : ABlk → α) : α := match b with
 | .rows d sz rs => zs d fun d => fNat sz fun sz => gL (gL gA1) rs fun rs => k (.rows d sz rs)
 | .froz d sz rs => zs d fun d => fNat sz fun sz => gL (gL gA1) rs fun rs => k (.froz d sz rs)
 | .mp es => gS es fun es => k (.mp es)
 | .loop f fr ps a b p s => gL gA1 fr fun fr => k (.loop f fr ps a b p s)
 | .dead => k .dead
 | .res => k .res
 | .reg => k .reg
 | .spl => k .spl
 | .bld T e s => fL qcG s fun s => k (.bld T e s)
theorem qgp (b : ABlk) (k : ABlk → α) : gB b k = k b := by
 have e1 : ∀ (l : List AV) (k : List AV → α), gL gA1 l k = k l := vR qeE
 cases b <;> simp only [gB, zg, q9, e1, vR e1, vt, ya qbT]
noncomputable def gP (p : Nat × AV) (k : Nat × AV → α) : α := gA p.2 fun v => k (p.1, v)
theorem qgo (p : Nat × AV) (k : Nat × AV → α) : gP p k = k p := by unfold gP; rw [yl]
noncomputable def gH (H : AH) (k : AH → α) : α := gL gB H k
theorem qat (H : AH) (k : AH → α) : gH H k = k H := vR qgp H k
abbrev Ov := List (Nat × AV)
def den (n : Nat) (ov : Ov) : List AV := ov.foldr (fun p fr => fr.set p.1 p.2) (qi0 n .junk)
noncomputable def qE (t : Nat) (ov : Ov) : AV := List.rec (motive := fun _ => AV) .junk (fun p _ ih => cond (qiY p.1 t) p.2 ih) ov
theorem qaP (t : Nat) : qE t [] = .junk := rfl
theorem xX (t : Nat) (p : Nat × AV) (ov : Ov) : qE t (p :: ov) = cond (qiY p.1 t) p.2 (qE t ov) := rfl
def OvOk (n : Nat) (ov : Ov) : Prop := ∀ p ∈ ov, p.1 < n
theorem z7 (n : Nat) (ov : Ov) : (den n ov).length = n := by
 induction ov with
 | nil => simp [den]
 | cons p l ih => simp only [den, List.foldr_cons, List.length_set]; exact ih
theorem z8 {n : Nat} {ov : Ov} (h : OvOk n ov) (t : Nat) : (den n ov)[t]? = if t < n then some (qE t ov) else none := by
 induction ov with
 | nil =>
  simp only [den, List.foldr_nil, qaP, List.getElem?_replicate]
 | cons p l ih =>
  have hl : OvOk n l := fun q hq => h q (List.mem_cons_of_mem _ hq)
  have hp : p.1 < n := h p (List.mem_cons_self ..)
  have : (den n (p :: l))[t]? = ((den n l).set p.1 p.2)[t]? := rfl
  rw [this, qiT, ih hl, z7, xX]
  by_cases e : p.1 = t
  ·subst e; simp [hp]
  ·have : qiY p.1 t = false := by rw [← Bool.not_eq_true]; intro h'; exact e (qiQ h')
   rw [if_neg e, this]; rfl
theorem qaQ {n : Nat} {ov : Ov} (h : OvOk n ov) {t : Nat} (ht : ¬ t < n) : qE t ov = .junk := by
 induction ov with
 | nil => rfl
 | cons p l ih =>
  have hp : p.1 < n := h p (List.mem_cons_self ..)
  have : qiY p.1 t = false := by rw [← Bool.not_eq_true]; intro h'; have := qiQ h'; omega
  rw [xX, this]
  exact ih fun q hq => h q (List.mem_cons_of_mem _ hq)
theorem qdi {n : Nat} {ov : Ov} (h : OvOk n ov) {fr : List AV} (hl : fr.length = n) (hg : ∀ t, t < n → fr[t]? = some (qE t ov)) : den n ov = fr := by
 apply List.ext_getElem?
 intro t
 rw [z8 h]
 split
 ·rename_i ht; exact (hg t ht).symm
 ·rename_i ht; exact (List.getElem?_eq_none (by omega)).symm
noncomputable def opdO (ov : Ov) : Operand → AV
 | .tmp t => qE t ov
 | .const v => ofValue v
 | .global _ => .junk
 | .func f => .fn (.func f) [] []
theorem zT {n : Nat} {ov : Ov} (h : OvOk n ov) : opd (den n ov) = opdO ov := by
 funext o
 cases o with
 | tmp t =>
  show (den n ov).getD t .junk = qE t ov
  rw [List.getD_eq_getElem?_getD, z8 h]
  split
  ·rfl
  ·rename_i ht; exact (qaQ h ht).symm
 | _ => rfl
def putO (n : Nat) (ov : Ov) (dst : Option Tmp) (v : AV) : Ov :=
 match dst with
 | some d => cond (Nat.blt d n) ((d, v) :: ov) ov
 | none => ov
theorem qbi {n : Nat} {ov : Ov} (h : OvOk n ov) (dst : Option Tmp) (v : AV) : OvOk n (putO n ov dst v) := by
 cases dst with
 | none => exact h
 | some d =>
  simp only [putO]
  cases hd : Nat.blt d n with
  | false => exact h
  | true =>
   intro p hp
   rw [cond_true] at hp
   rcases qi4.1 hp with rfl | hp
   ·simpa [qi3] using hd
   ·exact h p hp
theorem qao {n : Nat} {ov : Ov} (dst : Option Tmp) (v : AV) : den n (putO n ov dst v) = put (den n ov) dst v := by
 cases dst with
 | none => rfl
 | some d =>
  simp only [putO, put]
  cases hd : Nat.blt d n with
  | true => rfl
  | false =>
   have hd : ¬ d < n := by rw [← Bool.not_eq_true, qi3] at hd; exact hd
   show den n ov = _
   rw [List.set_eq_of_length_le (by rw [z7]; exact Nat.le_of_not_lt hd)]
noncomputable def yN (ops : Array Oper) (ov : Ov) (o : Oper) : Option Bool :=
 match o.guard with
 | none => some true
 | some (j, want) =>
  match (ops[j]?).bind (·.dst) with
  | some d =>
   match qE d ov with
   | .bool b => some (b == want)
   | .tup [] => some false
   | _ => none
  | none => none
theorem qca {n : Nat} {ov : Ov} (h : OvOk n ov) (ops : Array Oper) (o : Oper) : qK ops (den n ov) o = yN ops ov o := by
 unfold qK yN
 cases o.guard with
 | none => rfl
 | some p =>
  obtain ⟨j, want⟩ := p
  simp only
  cases (ops[j]?).bind (·.dst) with
  | none => rfl
  | some d =>
   simp only
   rw [z8 h]
   by_cases hd : d < n
   ·rw [if_pos hd]
    cases qE d ov <;> try rfl
    rename_i vs; cases vs <;> rfl
   ·rw [if_neg hd, qaQ h hd]
noncomputable def qd4 (n : Nat) (H : AH) (p v : AV) (k : AH → Option β) : Option β :=
 match p with
 | .ptr id r off =>
  match v.cells with
  | some cs =>
   match H[id]? with
   | some (.rows d sz rs) =>
    match rs[r]? with
    | some row => if cs.length == n && Nat.ble (off + n) row.length then
      gS (row.take off ++ cs ++ row.drop (off + n)) fun row' => gS (rs.set r row') fun rs' => zs (d && qg 0 cs) fun d' => gS (H.set id (.rows d' sz rs')) k
     else none
    | none => none
   | _ => none
  | none => none
 | .rpt id cs o => (xk n H (.rpt id cs o) v).bind k
 | _ => none
theorem qgF (n : Nat) (H : AH) (p v : AV) (k : AH → Option β) : qd4 n H p v k = (xk n H p v).bind k := by
 unfold qd4 xk
 cases p with
 | ptr id r off =>
  simp only
  cases hv : v.cells with
  | none => simp
  | some cs =>
   simp only
   cases hH : H[id]? with
   | none => simp
   | some b =>
    cases b <;> simp only [Option.bind_none]
    rename_i d sz rs
    cases hr : rs[r]? with
    | none => simp
    | some row =>
     simp only
     split <;> simp [vt, zg]
 | rpt id cs o => rfl
 | _ => simp
noncomputable def yNew (nid : Option Nat) (H : AH) (b : ABlk) (k : Nat → AH → Option β) : Option β :=
 match nid with
 | none => fNat H.length fun i => gS (H ++ [b]) fun H' => k i H'
 | some i =>
  match H[i]? with
  | some .res => gS (H.set i b) fun H' => k i H'
  | _ => none
theorem qfL (nid : Option Nat) (H : AH) (b : ABlk) (k : Nat → AH → Option β) : yNew nid H b k = (aNew nid H b).bind fun r => k r.1 r.2 := by
 cases nid with
 | none => simp [yNew, aNew, q9, vt]
 | some i =>
  simp only [yNew, aNew]
  cases H[i]? with
  | none => rfl
  | some b => cases b <;> simp [vt]
noncomputable def qgK (cfg : Cfg) (nid : Option Nat) (t : TypeId) (H : AH) (k : AV → AH → Option β) : Option β :=
 match cfg.ty t with
 | some ti => if qQ ti.zero then gB (yj cfg t ti.zero) fun b => yNew nid H b fun i H' => k (.ptr i 0 0) H' else none
 | none => none
noncomputable def yBox (cfg : Cfg) (t : TypeId) (nid : Option Nat) (a : AV) (H : AH) (k : AV → AH → Option β) : Option β :=
 match a.cells with
 | some cs => gS cs fun cs => gB (qab cfg t cs) fun b => yNew nid H b fun i H' => k (.ptr i 0 0) H'
 | none => none
noncomputable def yOp (cfg : Cfg) (nid : Option Nat) (o : Op) (ty : TypeId) (x : Operand → AV) (H : AH) (k : AV → AH → Option β) : Option β :=
 match o with
 | .move a | .assign a => gW (x a) fun v => k v H
 | .alloc t => qgK cfg nid t H k
 | .box t a => yBox cfg t nid (x a) H k
 | .store t a v =>
  match cfg.sz t with
  | some n => qd4 n H (x a) (x v) fun H' => k .junk H'
  | none => none
 | .buildSlice t len parts => (match qbp cfg nid t len (parts.toList.map fun p => (p.1, x p.2)) H with | some r => gA r.1 fun v => gH r.2 fun H' => k v H' | none => none)
 | .convert s d a => (match xl cfg nid s d (x a) H with | some r => gA r.1 fun v => gH r.2 fun H' => k v H' | none => none)
 | .makeSlice t l c => (match yv cfg nid t (x l) (x c) H with | some r => gA r.1 fun v => gH r.2 fun H' => k v H' | none => none)
 | .call c => (match evOp cfg nid (.call c) ty x H with | some r => gA r.1 fun v => gH r.2 fun H' => k v H' | none => none)
 | o => (match xOp cfg nid o ty x H with | some r => gA r.1 fun v => k v r.2 | none => none)
theorem qie (cfg : Cfg) (nid : Option Nat) (o : Op) (ty : TypeId) (x : Operand → AV) (H : AH) (k : AV → AH → Option β) : yOp cfg nid o ty x H k = (evOp cfg nid o ty x H).bind fun r => k r.1 r.2 := by
 have em : ∀ (q : Option (AV × AH)), (match q with | some r => gA r.1 fun v => gH r.2 fun H' => k v H' | none => none) = q.bind fun r => k r.1 r.2 := fun q => by cases q <;> simp [yl, qat]
 have em' : ∀ (q : Option (AV × AH)), (match q with | some r => gA r.1 fun v => k v r.2 | none => none) = q.bind fun r => k r.1 r.2 := fun q => by cases q <;> simp [yl]
 cases o with
 | move a => simp [yOp, evOp, qbl]
 | assign a => simp [yOp, evOp, qbl]
 | alloc t =>
  simp only [yOp, evOp, qgK]
  cases cfg.ty t with
  | none => rfl
  | some ti =>
   simp only
   split
   ·simp only [qgp, qfL]
    cases aNew nid H (yj cfg t ti.zero) <;> rfl
   ·rfl
 | box t a =>
  simp only [yOp, evOp, yBox]
  cases (x a).cells with
  | none => rfl
  | some cs =>
   simp only [vt, qgp, qfL]
   cases aNew nid H (qab cfg t cs) <;> rfl
 | store t a v =>
  simp only [yOp, evOp]
  cases cfg.sz t with
  | none => rfl
  | some n =>
   simp only [qgF]
   cases xk n H (x a) (x v) <;> rfl
 | buildSlice t len parts => simp only [yOp]; rw [em]; rfl
 | convert s d a => simp only [yOp]; rw [em]; rfl
 | makeSlice t l c => simp only [yOp]; rw [em]; rfl
 | call c => simp only [yOp]; rw [em]
 | _ => simp only [yOp]; rw [em', qgM]
structure Fact where
 frz : Bool
 f : Nat
 args : List AV
 v : AV
def Fact.Ok (cfg : Cfg) (e : Fact) : Prop := (if e.frz then EVf (EV cfg) e.f e.args else EVs (EV cfg) e.f e.args) = some e.v
def qB (cfg : Cfg) : List Fact → Prop
 | [] => True
 | e :: l => e.Ok cfg ∧ qB cfg l
theorem qB.nil {cfg : Cfg} : qB cfg [] := trivial
theorem qB.consF {cfg : Cfg} {f : Nat} {args : List AV} {v : AV} {l : List Fact} (h : EVf (EV cfg) f args = some v) (t : qB cfg l) : qB cfg (⟨true, f, args, v⟩ :: l) := ⟨h, t⟩
noncomputable def ze (frz : Bool) (f : Nat) (args : List AV) (fs : List Fact) : Option AV :=
 List.rec (motive := fun _ => Option AV) none (fun e _ ih => cond (qiY e.f f && (e.frz == frz && vG e.args args)) (some e.v) ih) fs
theorem zF {cfg : Cfg} {frz : Bool} {f : Nat} {args : List AV} {v : AV} : ∀ {fs : List Fact}, qB cfg fs → ze frz f args fs = some v → (if frz then EVf (EV cfg) f args else EVs (EV cfg) f args) = some v
 | [], _, h => by cases h
 | e :: l, hok, h => by
  have hd : ze frz f args (e :: l) = cond (qiY e.f f && (e.frz == frz && vG e.args args)) (some e.v) (ze frz f args l) := rfl
  rw [hd] at h
  cases hc : (qiY e.f f && (e.frz == frz && vG e.args args)) with
  | true =>
   rw [hc] at h
   simp only [qiP, beq_iff_eq] at hc
   cases h
   have := hok.1
   unfold Fact.Ok at this
   rw [← qiQ hc.1, ← hc.2.1, ← vw hc.2.2]
   exact this
  | false =>
   rw [hc] at h
   exact zF hok.2 h
noncomputable def qb7 (cfg : Cfg) (cf : Orac) (nid : Option Nat) (t : Tgt) (args : List AV) (H : AH) (k : AV → AH → Option β) : Option β :=
 match qI cfg cf nid t args H with
 | some r => gA r.1 fun v => gH r.2 fun H' => k v H'
 | none => none
noncomputable def qgI (_cfg : Cfg) (cf : Orac) (fs : List Fact) (f : Nat) (al : List AV) (k : AV → Option β) : Option β :=
 cond (qg 0 al)
  (match ze false f al fs with
  | some v => cond v.scalar (k v) none
  | none => (match cf (.f f) al [] with | some r => gA r.1 fun v => cond v.scalar (k v) none | none => none)) none
noncomputable def qgJ (_cfg : Cfg) (cf : Orac) (fs : List Fact) (f : Nat) (al : List AV) (k : AV → Option β) : Option β :=
 cond (qg 0 al)
  (match ze true f al fs with
  | some v => cond (v.refsLt 0) (k v) none
  | none => (match cf (.f f) al [] with | some r => gA (r.1.frz r.1.msIds r.2).fg fun v => cond (v.refsLt 0) (k v) none | none => none)) none
noncomputable def qd5 (cfg : Cfg) (cf : Orac) (fs : List Fact) (nid : Option Nat) (t : Tgt) (args : List AV) (H : AH) (k : AV → AH → Option β) : Option β :=
 match t with
 | .y id => qb7 cfg cf nid (.y id) args H k
 | .f f =>
  match cfg.mode f with
  | .scal => gL gA (args.map fun a => (a.snap H).fg) fun al => qgI cfg cf fs f al fun v => k v H
  | .pfrz => gL gA (args.map AV.fg) fun al => qgJ cfg cf fs f al fun v => k v H
  | _ => qb7 cfg cf nid (.f f) args H k
noncomputable def qgH (cfg : Cfg) (cf : Orac) (fs : List Fact) (nid : Option Nat) (f : AV) (args : List AV) (H : AH) (k : AV → AH → Option β) : Option β :=
 match v7 f args with
 | some t => qd5 cfg cf fs nid t.1 t.2 H k
 | none => none
def Le (cf cf' : Orac) : Prop := ∀ t a H r, cf t a H = some r → cf' t a H = some r
theorem qe8 {cfg : Cfg} {cf : Orac} (hcf : Le cf (EV cfg)) {fs : List Fact} (hfs : qB cfg fs) {nid : Option Nat} {t : Tgt} {args : List AV} {H : AH} {k : AV → AH → Option β} {r : β}
  (h : qd5 cfg cf fs nid t args H k = some r) : ∃ q, qI cfg (EV cfg) nid t args H = some q ∧ k q.1 q.2 = some r := by
 have hev : Ev (fun _ => EV cfg) cf := fun t a H r h => ⟨0, fun _ _ => hcf t a H r h⟩
 have gen : ∀ (t : Tgt), qb7 cfg cf nid t args H k = some r → ∃ q, qI cfg (EV cfg) nid t args H = some q ∧ k q.1 q.2 = some r := by
  intro t h
  unfold qb7 at h
  split at h
  ·rename_i q hq
   rw [yl, qat] at h
   obtain ⟨n, hn⟩ := qeU hev cfg nid t args H q hq
   exact ⟨q, hn n (qiR _), h⟩
  ·cases h
 cases t with
 | y id => exact gen _ h
 | f f =>
  simp only [qd5] at h
  cases hm : cfg.mode f with
  | scal =>
   simp only [hm, vR yl] at h
   unfold qgI at h
   obtain ⟨h1, h⟩ := qL h
   simp only [qI, hm, h1, if_true]
   split at h
   ·rename_i v hv
    obtain ⟨h2, h⟩ := qL h
    have := zF hfs hv
    simp only [qiW, if_false] at this
    unfold EVs at this
    obtain ⟨q, hq, rfl⟩ := qiN.1 this
    rw [hq]
    exact ⟨(q.1, H), by simp only [qi1, h2, if_true], h⟩
   ·split at h
    ·rename_i q hq
     rw [yl] at h
     obtain ⟨h2, h⟩ := qL h
     rw [hcf _ _ _ _ hq]
     exact ⟨(q.1, H), by simp only [qi1, h2, if_true], h⟩
    ·cases h
  | pfrz =>
   simp only [hm, vR yl] at h
   unfold qgJ at h
   obtain ⟨h1, h⟩ := qL h
   simp only [qI, hm, h1, if_true]
   split at h
   ·rename_i v hv
    obtain ⟨h2, h⟩ := qL h
    have := zF hfs hv
    simp only [if_true] at this
    unfold EVf at this
    obtain ⟨q, hq, rfl⟩ := qiN.1 this
    rw [hq]
    exact ⟨((q.1.frz q.1.msIds q.2).fg, H), by simp only [qi1, h2, if_true], h⟩
   ·split at h
    ·rename_i q hq
     rw [yl] at h
     obtain ⟨h2, h⟩ := qL h
     rw [hcf _ _ _ _ hq]
     exact ⟨((q.1.frz q.1.msIds q.2).fg, H), by simp only [qi1, h2, if_true], h⟩
    ·cases h
  | _ => simp only [hm] at h; exact gen _ h
noncomputable def yW (cfg : Cfg) (cf : Orac) (fs : List Fact) (nid : Option Nat) (o : Op) (ty : TypeId) (x : Operand → AV) (H : AH) (k : AV → AH → Option β) : Option β :=
 match o with
 | .call c =>
  (match c.callee with
  | .value f => gL gW (c.args.toList.map x) fun args => qgH cfg cf fs nid (x f) args H k
  | _ => yOp cfg nid (.call c) ty x H k)
 | o => yOp cfg nid o ty x H k
noncomputable def qdR (cfg : Cfg) (cf : Orac) (fs : List Fact) (frz : Bool) (nid : Option Nat) (o : Oper) (x : Operand → AV) (H : AH) (k : AV → AH → Option β) : Option β :=
 match frz with
 | false => yW cfg cf fs nid o.op o.type x H k
 | true => gS (o.op.operands.toList.flatMap fun a => (x a).msIds) fun ids => gH (ql ids H) fun H' => yW cfg cf fs nid o.op o.type (fun a => (x a).frz ids H) H' k
theorem qbo {cfg : Cfg} {cf : Orac} (hcf : Le cf (EV cfg)) {fs : List Fact} (hfs : qB cfg fs) {nid : Option Nat} {o : Oper} {x : Operand → AV} {H : AH} {k : AV → AH → Option β} {r : β}
  (h : yW cfg cf fs nid o.op o.type x H k = some r) : ∃ q, qn cfg (EV cfg) false nid o x H = some q ∧ k q.1 q.2 = some r := by
 obtain ⟨dst, op, ty, pos, after, guard⟩ := o
 unfold qn
 simp only [qiW, if_false] at h ⊢
 have plain : ∀ (op : Op), yOp cfg nid op ty x H k = some r → ∃ q, evOp cfg nid op ty x H = some q ∧ k q.1 q.2 = some r := by
  intro op h
  rw [qie] at h
  exact qiO.1 h
 cases op with
 | call c =>
  obtain ⟨callee, args, argTypes⟩ := c
  cases callee with
  | value f =>
   simp only [yW, vR qbl] at h ⊢
   unfold qgH at h
   split at h
   ·rename_i t ht
    rw [ht]
    exact qe8 hcf hfs h
   ·cases h
  | builtin b => simp only [yW] at h ⊢; exact plain _ h
  | invoke rv nm => simp only [yW] at h ⊢; exact plain _ h
 | _ => simp only [yW] at h ⊢; exact plain _ h
theorem qb2 {cfg : Cfg} {cf : Orac} (hcf : Le cf (EV cfg)) {fs : List Fact} (hfs : qB cfg fs) {frz : Bool} {nid : Option Nat} {o : Oper} {x : Operand → AV} {H : AH} {k : AV → AH → Option β} {r : β}
  (h : qdR cfg cf fs frz nid o x H k = some r) : ∃ q, qn cfg (EV cfg) frz nid o x H = some q ∧ k q.1 q.2 = some r := by
 cases frz with
 | false => exact qbo hcf hfs h
 | true =>
  simp only [qdR, vt, qat] at h
  obtain ⟨q, h1, h2⟩ := qbo hcf hfs h
  refine ⟨q, ?_, h2⟩
  unfold qn at h1 ⊢
  simpa using h1
noncomputable def yOps (cfg : Cfg) (cf : Orac) (fs : List Fact) (f rid : Nat) (ops : Array Oper) (n : Nat) : Nat → List Oper → Ov → AH → (Ov → AH → Option β) → Option β
 | _, [], ov, H, K => K ov H
 | i, o :: rest, ov, H, K =>
  match yN ops ov o with
  | none => none
  | some b =>
   cond b (qdR cfg cf fs (cfg.frz f rid i) none o (opdO ov) H fun v H' => yOps cfg cf fs f rid ops n (i + 1) rest (putO n ov o.dst v) H' K)
    (yOps cfg cf fs f rid ops n (i + 1) rest (putO n ov o.dst (.tup [])) H K)
theorem qaF {cfg : Cfg} {cf : Orac} (hcf : Le cf (EV cfg)) {fs : List Fact} (hfs : qB cfg fs) {f rid n : Nat} {ops : Array Oper} {r : β} : ∀ {l : List Oper} {i : Nat} {ov : Ov} {H : AH} {K : Ov → AH → Option β}, OvOk n ov → yOps cfg cf fs f rid ops n i l ov H K = some r →
  ∃ ov' H', OvOk n ov' ∧ xa cfg (EV cfg) f rid ops i l (den n ov) H = some (den n ov', H') ∧ K ov' H' = some r
 | [], i, ov, H, K, hok, h => ⟨ov, H, hok, rfl, h⟩
 | o :: l, i, ov, H, K, hok, h => by
  rw [yOps] at h
  rw [xa, qca hok]
  cases hw : yN ops ov o with
  | none => rw [hw] at h; cases h
  | some b =>
   rw [hw] at h
   simp only [qi1]
   cases b with
   | true =>
    simp only [cond_true] at h
    obtain ⟨q, h1, h2⟩ := qb2 hcf hfs h
    simp only [if_true, zT hok, h1, qi1]
    obtain ⟨ov', H', h3, h4, h5⟩ := qaF hcf hfs (qbi hok _ _) h2
    rw [qao] at h4
    exact ⟨ov', H', h3, h4, h5⟩
   | false =>
    simp only [cond_false] at h
    simp only [qiW, if_false]
    obtain ⟨ov', H', h3, h4, h5⟩ := qaF hcf hfs (qbi hok _ _) h
    rw [qao] at h4
    exact ⟨ov', H', h3, h4, h5⟩
noncomputable def qb6 (cfg : Cfg) (cf : Orac) (fs : List Fact) (f rid : Nat) (ops : Array Oper) (n : Nat) : Nat → Nat → List Oper → Ov → AH → (List DR → Ov → AH → Option β) → Option β
 | _, _, [], ov, H, K => K [] ov H
 | i, at_, o :: rest, ov, H, K =>
  match yN ops ov o with
  | none => none
  | some b =>
   fNat (at_ + zW cfg o) fun at' =>
   cond b (qdR cfg cf fs (cfg.frz f rid i) (some at_) o (opdO ov) H fun v H' => qb6 cfg cf fs f rid ops n (i + 1) at' rest (putO n ov o.dst v) H' fun fps ov' H'' => K (drOf cfg (cfg.frz f rid i) at_ o (opdO ov) H v H' :: fps) ov' H'')
    (qb6 cfg cf fs f rid ops n (i + 1) at' rest (putO n ov o.dst (.tup [])) H fun fps ov' H'' => K (drNo H :: fps) ov' H'')
theorem qag {cfg : Cfg} {cf : Orac} (hcf : Le cf (EV cfg)) {fs : List Fact} (hfs : qB cfg fs) {f rid n : Nat} {ops : Array Oper} {r : β} : ∀ {l : List Oper} {i at_ : Nat} {ov : Ov} {H : AH} {K : List DR → Ov → AH → Option β}, OvOk n ov → qb6 cfg cf fs f rid ops n i at_ l ov H K = some r →
  ∃ fps ov' H', OvOk n ov' ∧ q4 cfg (EV cfg) f rid ops i at_ l (den n ov) H = some (fps, den n ov', H') ∧ K fps ov' H' = some r
 | [], i, at_, ov, H, K, hok, h => ⟨[], ov, H, hok, rfl, h⟩
 | o :: l, i, at_, ov, H, K, hok, h => by
  rw [qb6] at h
  rw [q4, qca hok]
  cases hw : yN ops ov o with
  | none => rw [hw] at h; cases h
  | some b =>
   rw [hw] at h
   simp only [qi1]
   simp only [q9] at h
   cases b with
   | true =>
    simp only [cond_true] at h
    obtain ⟨q, h1, h2⟩ := qb2 hcf hfs h
    simp only [if_true, zT hok, h1, qi1]
    obtain ⟨fps, ov', H', h3, h4, h5⟩ := qag hcf hfs (qbi hok _ _) h2
    rw [qao] at h4
    exact ⟨_, ov', H', h3, by rw [h4]; rfl, h5⟩
   | false =>
    simp only [cond_false] at h
    simp only [qiW, if_false]
    obtain ⟨fps, ov', H', h3, h4, h5⟩ := qag hcf hfs (qbi hok _ _) h
    rw [qao] at h4
    exact ⟨_, ov', H', h3, by rw [h4]; rfl, h5⟩
def yq : Nat → List Nat → Bool
 | _, [] => true
 | i, k :: ks => Nat.ble i k && yq (k + 1) ks
noncomputable def qdV (ks : List Nat) (ov : Ov) : (Ov → α) → α :=
 List.rec (motive := fun _ => (Ov → α) → α) (fun K => K []) (fun t _ ih K => gW (qE t ov) fun v => ih fun l => K ((t, v) :: l)) ks
theorem qhC (ks : List Nat) (ov : Ov) : ∀ (K : Ov → α), qdV ks ov K = K (ks.map fun t => (t, qE t ov)) := by
 induction ks with
 | nil => intro K; rfl
 | cons t l ih =>
  intro K
  have : qdV (t :: l) ov K = gW (qE t ov) fun v => qdV l ov fun l => K ((t, v) :: l) := rfl
  rw [this, qbl, ih, List.map_cons]
theorem yH : ∀ (ks : List Nat) (fr : List AV) (i t : Nat), yq i ks = true → (qO i ks fr)[t]? = if t < fr.length then some (if i + t ∈ ks then (fr[t]?).getD .junk else .junk) else none
 | ks, [], i, t, _ => by cases ks <;> simp [qO]
 | [], a :: fr, i, t, h => by
  rw [qO]
  cases t with
  | zero => simp
  | succ t =>
   simp only [List.getElem?_cons_succ]
   rw [yH [] fr i t rfl]
   simp
 | k :: ks, a :: fr, i, t, h => by
  rw [yq, qiP, Nat.ble_eq] at h
  rw [qO]
  have hge : ∀ (l : List Nat) (j : Nat), yq j l = true → ∀ x ∈ l, j ≤ x := by
   intro l
   induction l with
   | nil => intro j _ x hx; cases hx
   | cons y l ih =>
    intro j hj x hx
    rw [yq, qiP, Nat.ble_eq] at hj
    rcases qi4.1 hx with rfl | hx
    ·exact hj.1
    ·have := ih _ hj.2 x hx; omega
  split
  ·rename_i e
   have e := qiQ e
   subst e
   cases t with
   | zero => simp
   | succ t =>
    simp only [List.getElem?_cons_succ]
    rw [yH ks fr (i + 1) t h.2]
    have e1 : i + (t + 1) = i + 1 + t := by omega
    have e2 : ¬ i + 1 + t = i := by omega
    simp only [List.length_cons, Nat.add_lt_add_iff_right, e1, qi4, e2, false_or]
  ·rename_i e
   have hne : i ≠ k := fun h' => e (by rw [h']; exact Nat.beq_refl _)
   cases t with
   | zero =>
    have : i ∉ k :: ks := by
     intro hm
     rcases qi4.1 hm with rfl | hm
     ·exact hne rfl
     ·have := hge _ _ h.2 i hm; omega
    simp [this]
   | succ t =>
    simp only [List.getElem?_cons_succ]
    rw [yH (k :: ks) fr (i + 1) t (by rw [yq, qiP, Nat.ble_eq]; exact ⟨by omega, h.2⟩)]
    have e1 : i + (t + 1) = i + 1 + t := by omega
    simp only [List.length_cons, Nat.add_lt_add_iff_right, e1]
theorem qg2 (ks : List Nat) (g : Nat → AV) (t : Nat) : qE t (ks.map fun t => (t, g t)) = if t ∈ ks then g t else .junk := by
 induction ks with
 | nil => rfl
 | cons k l ih =>
  rw [List.map_cons, xX, ih]
  by_cases e : k = t
  ·subst e; simp
  ·have h1 : qiY k t = false := by rw [← Bool.not_eq_true]; intro h'; exact e (qiQ h')
   have h2 : ¬ t = k := fun h => e h.symm
   rw [h1, cond_false]
   simp only [qi4, h2, false_or]
noncomputable def qb3 (n : Nat) (ts : Option (List Nat)) (ov : Ov) (K : Ov → Option β) : Option β :=
 match ts with
 | none => K ov
 | some ks => cond (yq 0 ks && ks.all fun t => Nat.blt t n) (qdV ks ov K) none
theorem qaf {n : Nat} {ts : Option (List Nat)} {ov : Ov} {K : Ov → Option β} {r : β} (hok : OvOk n ov) (h : qb3 n ts ov K = some r) : ∃ ov', OvOk n ov' ∧ qF ts (den n ov) = den n ov' ∧ K ov' = some r := by
 cases ts with
 | none => exact ⟨ov, hok, rfl, h⟩
 | some ks =>
  simp only [qb3, qhC] at h
  cases hc : (yq 0 ks && ks.all fun t => Nat.blt t n) with
  | false => rw [hc] at h; cases h
  | true =>
   rw [hc] at h
   rw [qiP, List.all_eq_true] at hc
   have hok' : OvOk n (ks.map fun t => (t, qE t ov)) := by
    intro p hp
    obtain ⟨t, ht, rfl⟩ := List.mem_map.1 hp
    have := hc.2 t ht
    simpa [qi3] using this
   refine ⟨_, hok', (qdi hok' ?_ fun t ht => ?_).symm, h⟩
   ·show (qO 0 ks (den n ov)).length = n
    rw [(x7 (ts := ks) (fr := den n ov) (k := 0)).1, z7]
   ·show (qO 0 ks (den n ov))[t]? = _
    rw [yH _ _ _ _ hc.1, z7, if_pos ht, Nat.zero_add, qg2, z8 hok, if_pos ht]
    rfl
noncomputable def yB (n : Nat) : List (Tmp × Nat) → Ov → AH → (Ov → AH → Option β) → Option β
 | [], ov, H, K => K ov H
 | p :: l, ov, H, K =>
  match qE p.1 ov with
  | .nilS => fNat H.length fun i => cond (Nat.blt p.1 n) (gS (H ++ [.rows true p.2 []]) fun H' => yB n l ((p.1, .ms i 0 0) :: ov) H' K) none
  | .ptr _ _ _ => (match v8 p.1 p.2 (den n ov) H with | q => gH q.2 fun H' => yB n l ov H' K)
  | _ => yB n l ov H K
theorem qg6 {t sz : Nat} {fr : List AV} {H : AH} {id r off : Nat} (h : fr[t]? = some (.ptr id r off)) : (v8 t sz fr H).1 = fr := by
 unfold v8
 rw [h]
 simp only
 split
 ·split
  ·split <;> rfl
  ·rfl
 ·rfl
theorem xn {n : Nat} {r : β} : ∀ {ls : List (Tmp × Nat)} {ov : Ov} {H : AH} {K : Ov → AH → Option β}, OvOk n ov → yB n ls ov H K = some r → ∃ ov' H', OvOk n ov' ∧ qN ls (den n ov) H = (den n ov', H') ∧ K ov' H' = some r
 | [], ov, H, K, hok, h => ⟨ov, H, hok, rfl, h⟩
 | p :: l, ov, H, K, hok, h => by
  rw [yB] at h
  rw [qN]
  have hget : (den n ov)[p.1]? = if p.1 < n then some (qE p.1 ov) else none := z8 hok p.1
  split at h
  ·rename_i hv
   simp only [q9] at h
   cases hb : Nat.blt p.1 n with
   | false => rw [hb] at h; cases h
   | true =>
    rw [hb] at h
    simp only [cond_true, vt] at h
    have hlt : p.1 < n := by simpa [qi3] using hb
    have hl1 : v8 p.1 p.2 (den n ov) H = (den n ((p.1, .ms H.length 0 0) :: ov), H ++ [.rows true p.2 []]) := by
     unfold v8
     rw [hget, if_pos hlt, hv]; rfl
    rw [hl1]
    exact xn (fun q hq => (qi4.1 hq).elim (fun e => by subst e; exact hlt) (hok q)) h
  ·rename_i id r' off hv
   simp only [qat] at h
   by_cases hlt : p.1 < n
   ·rw [qg6 (by rw [hget, if_pos hlt, hv])]
    exact xn hok h
   ·rw [qaQ hok hlt] at hv; cases hv
  ·rename_i h1 h2
   have hl1 : v8 p.1 p.2 (den n ov) H = (den n ov, H) := by
    unfold v8
    rw [hget]
    by_cases hlt : p.1 < n
    ·rw [if_pos hlt]
     split
     ·rename_i e; exact absurd (Option.some.inj e) h1
     ·rename_i a b c e; exact absurd (Option.some.inj e) (h2 a b c)
     ·rfl
    ·rw [if_neg hlt]
   rw [hl1]
   exact xn hok h
def spGo : Nat → List AV → Ov
 | _, [] => []
 | i, .junk :: l => spGo (i + 1) l
 | i, v :: l => (i, v) :: spGo (i + 1) l
theorem qef : ∀ (l : List AV) (i t : Nat), qE t (spGo i l) = if i ≤ t then (l[t - i]?).getD .junk else .junk
 | [], i, t => by simp [spGo, qaP]
 | a :: l, i, t => by
  have ih := qef l (i + 1) t
  have key : ∀ (ov : Ov), ov = (i, a) :: spGo (i + 1) l → qE t ov = if i ≤ t then ((a :: l)[t - i]?).getD .junk else .junk := by
   intro ov e
   rw [e, xX, ih]
   by_cases e2 : i = t
   ·subst e2; simp
   ·have h1 : qiY i t = false := by rw [← Bool.not_eq_true]; intro h'; exact e2 (qiQ h')
    simp only [h1, cond_false]
    by_cases h3 : i + 1 ≤ t
    ·have h4 : t - i = (t - (i + 1)) + 1 := by omega
     rw [if_pos h3, if_pos (by omega), h4, List.getElem?_cons_succ]
    ·rw [if_neg h3, if_neg (by omega)]
  cases a with
  | junk =>
   show qE t (spGo (i + 1) l) = _
   rw [ih]
   by_cases h3 : i + 1 ≤ t
   ·have h4 : t - i = (t - (i + 1)) + 1 := by omega
    rw [if_pos h3, if_pos (by omega), h4, List.getElem?_cons_succ]
   ·rw [if_neg h3]
    by_cases e2 : i = t
    ·subst e2; simp
    ·rw [if_neg (by omega)]
  | _ => exact key _ rfl
theorem yO : ∀ (l : List AV) (i n : Nat), i + l.length ≤ n → OvOk n (spGo i l)
 | [], i, n, _ => fun p hp => by cases hp
 | a :: l, i, n, h => by
  simp only [List.length_cons] at h
  have ih := yO l (i + 1) n (by omega)
  have key : OvOk n ((i, a) :: spGo (i + 1) l) := fun p hp => by
   rcases qi4.1 hp with rfl | hp
   ·show i < n; omega
   ·exact ih p hp
  cases a <;> first | exact key | exact ih
theorem qcR (l : List AV) : den l.length (spGo 0 l) = l := by
 have hok := yO l 0 l.length (by omega)
 refine qdi hok rfl fun t ht => ?_
 rw [qef, if_pos (Nat.zero_le _), Nat.sub_zero, qiS ht]; rfl
noncomputable def yGc (n k : Nat) (ov : Ov) (H : AH) (K : Ov → AH → Option β) : Option β :=
 cond (Nat.ble H.length k) (K ov H) (match x9 k (den n ov) H with | q => gS (spGo 0 q.1) fun ov' => gL gP ov' fun ov' => gH q.2 fun H' => K ov' H')
theorem qhx (ρ : Nat → Nat) (l : List AV) : (renL ρ l).length = l.length := by rw [vA]; simp
theorem qg9 (k : Nat) (fr : List AV) (H : AH) : (x9 k fr H).1.length = fr.length := by
 unfold x9
 simp only
 cases qW H (qS k H (2 * H.length + 16) [] (qi k fr ++ qV k (H.take k))) with
 | none => rfl
 | some bs =>
  simp only
  split
  ·exact qhx _ _
  ·rfl
theorem qho {n k : Nat} {ov : Ov} {H : AH} {K : Ov → AH → Option β} {r : β} (hok : OvOk n ov) (h : yGc n k ov H K = some r) : ∃ ov' H', OvOk n ov' ∧ gc k (den n ov) H = (den n ov', H') ∧ K ov' H' = some r := by
 unfold yGc at h
 unfold gc
 cases hb : Nat.ble H.length k with
 | true => rw [hb] at h; exact ⟨ov, H, hok, by simp, h⟩
 | false =>
  rw [hb] at h
  simp only [cond_false] at h
  rw [vt, vR qgo, qat] at h
  have hl : (x9 k (den n ov) H).1.length = n := by rw [qg9, z7]
  have := qcR (x9 k (den n ov) H).1
  rw [hl] at this
  refine ⟨_, _, ?_, ?_, h⟩
  ·exact yO _ _ _ (by omega)
  ·simp only [qiW, if_false, this]
noncomputable def qfX (n k : Nat) (ts : Option (List Tmp)) (ls : List (Tmp × Nat)) (ov : Ov) (H : AH) (K : Ov → AH → Option β) : Option β :=
 qb3 n ts ov fun ov => yB n ls ov H fun ov H => yGc n k ov H K
theorem qb5 {n k : Nat} {ts : Option (List Tmp)} {ls : List (Tmp × Nat)} {ov : Ov} {H : AH} {K : Ov → AH → Option β} {r : β} (hok : OvOk n ov) (h : qfX n k ts ls ov H K = some r) :
  ∃ ov' H', OvOk n ov' ∧ vX k ts ls (den n ov) H = (den n ov', H') ∧ K ov' H' = some r := by
 obtain ⟨ov1, h1, h2, h⟩ := qaf hok h
 obtain ⟨ov2, H2, h3, h4, h⟩ := xn h1 h
 obtain ⟨ov3, H3, h5, h6, h⟩ := qho h3 h
 refine ⟨ov3, H3, h5, ?_, h⟩
 unfold vX
 rw [h2, h4]
 exact h6
abbrev YE (β : Type) := Ex → Ov → AH → Option β
noncomputable def qdS (n k : Nat) (ts : Option (List Tmp)) (ls : List (Tmp × Nat)) (body : Ov → AH → YE β → Option β) : Nat → Ov → AH → YE β → Option β
 | 0, _, _, _ => none
 | m + 1, ov, H, K => body ov H fun e ov' H' =>
  match e with
  | .normal => qfX n k ts ls ov' H' fun ov2 H2 => qdS n k ts ls body m ov2 H2 K
  | e => K e ov' H'
noncomputable def qgG (cfg : Cfg) (cf : Orac) (f : Nat) (rd : Option Nat) (n bs : Nat) (g : Operand) (ps : Array Tmp) (assign body : Code) (ov : Ov) (H : AH) (K : YE β) : Option β :=
 gL gW (den n ov) fun fr =>
 match xw cfg cf f rd bs g ps assign body fr H with
 | none => none
 | some q => gS (spGo 0 q.2.1) fun ov' => gL gP ov' fun ov' => gH q.2.2 fun H' => cond (qiY q.2.1.length n) (K q.1 ov' H') none
noncomputable def yC (cfg : Cfg) (cf : Orac) (fs : List Fact) (m f : Nat) (rd : Option Nat) (n bs : Nat) : Code → Ov → AH → YE β → Option β
 | .skip, ov, H, K => K .normal ov H
 | .label _, ov, H, K => K .normal ov H
 | .region id ops draw, ov, H, K =>
  match draw with
  | true => cond (xK ops) (gS (H ++ qi0 (places cfg ops.toList) .res) fun H1 => qb6 cfg cf fs f id ops n 0 H.length ops.toList ov H1 fun fps ov' H' => cond (z6 (ancs [] ops.toList) H1 fps) (K .normal ov' H') none) none
  | false => yOps cfg cf fs f id ops n 0 ops.toList ov H fun ov' H' => K .normal ov' H'
 | .seq a b, ov, H, K =>
  match qaa a with
  | some p =>
   gL gW (den n ov) fun fr =>
   match (yb cfg cf f p.1 p.2 p.2.size [] fr H).bind fun L => xP (fun fr H => (xC cfg cf m f rd bs b (qF (cfg.cut f (qd b)) fr) H).map (qdl bs (dsts a ++ dsts b))) L with
   | none => none
   | some q => gS (spGo 0 q.2.1) fun ov' => gL gP ov' fun ov' => gH q.2.2 fun H' => cond (qiY q.2.1.length n) (K q.1 ov' H') none
  | none => yC cfg cf fs m f rd n bs a ov H fun e ov' H' =>
   match e with
   | .normal => qb3 n (cfg.cut f (qd b)) ov' fun ov2 => yC cfg cf fs m f rd n bs b ov2 H' K
   | e => K e ov' H'
 | .cond c a b, ov, H, K =>
  match opdO ov c with
  | .bool t => (match t with | true => yC cfg cf fs m f rd n bs a ov H K | false => yC cfg cf fs m f rd n bs b ov H K)
  | _ => none
 | .block id a, ov, H, K => yC cfg cf fs m f rd n bs a ov H fun e ov' H' =>
  match e with
  | .exit id' => cond (qiY id' id) (K .normal ov' H') (K (.exit id') ov' H')
  | e => K e ov' H'
 | .loop a, ov, H, K => qfX n bs (cfg.keepIn f (qd a)) (cfg.lift f (qd a)) ov H fun ov H =>
   qdS n bs (cfg.keepIn f (qd a)) (cfg.lift f (qd a)) (yC cfg cf fs m f rd n bs a) m ov H fun e ov H => qb3 n (cfg.keepOut f (qd a)) ov fun ov => K e ov H
 | .scope a, ov, H, K => yC cfg cf fs m f rd n bs a ov H fun e ov' H' =>
  match e with
  | .goto _ => none
  | e => K e ov' H'
 | .exit id, ov, H, K => K (.exit id) ov H
 | .goto _, _, _, _ => none
 | .ret, ov, H, K => K .ret ov H
 | .rangeFunc g ps assign body, ov, H, K => yB n (cfg.lift f (qd body)) ov H fun ov H => qgG cfg cf f rd n bs g ps assign body ov H K
 | .refuse _, _, _, _ => none
theorem qb4 {n k : Nat} {ts : Option (List Tmp)} {ls : List (Tmp × Nat)} {body : Ov → AH → YE β → Option β} {den' : Den} {r : β}
  (hb : ∀ {ov H K}, OvOk n ov → body ov H K = some r → ∃ e ov' H', OvOk n ov' ∧ den' (den n ov) H = some (e, den n ov', H') ∧ K e ov' H' = some r) :
  ∀ (m : Nat) {ov : Ov} {H : AH} {K : YE β}, OvOk n ov → qdS n k ts ls body m ov H K = some r → ∃ e ov' H', OvOk n ov' ∧ vj k ts ls den' m (den n ov, H) = some (e, den n ov', H') ∧ K e ov' H' = some r
 | 0, ov, H, K, _, h => by cases h
 | m + 1, ov, H, K, hok, h => by
  rw [qdS] at h
  obtain ⟨e, ov1, H1, h1, h2, h3⟩ := hb hok h
  rw [vj]
  simp only [h2, qi1]
  cases e with
  | normal =>
   simp only at h3 ⊢
   obtain ⟨ov2, H2, h4, h5, h6⟩ := qb5 h1 h3
   rw [h5]
   exact qb4 hb m h4 h6
  | exit id => exact ⟨_, ov1, H1, h1, rfl, h3⟩
  | goto l => exact ⟨_, ov1, H1, h1, rfl, h3⟩
  | ret => exact ⟨_, ov1, H1, h1, rfl, h3⟩
theorem qc8 {cfg : Cfg} {cf : Orac} (hcf : Le cf (EV cfg)) {fs : List Fact} (hfs : qB cfg fs) {m f : Nat} {rd : Option Nat} {n bs : Nat} {r : β} : ∀ (c : Code) {ov : Ov} {H : AH} {K : YE β}, OvOk n ov → yC cfg cf fs m f rd n bs c ov H K = some r →
  ∃ e ov' H', OvOk n ov' ∧ evC cfg (EV cfg) f rd bs c (den n ov) H = some (e, den n ov', H') ∧ K e ov' H' = some r := by
 intro c
 induction c with
 | skip => intro ov H K hok h; exact ⟨_, ov, H, hok, by simp only [evC], h⟩
 | label l => intro ov H K hok h; exact ⟨_, ov, H, hok, by simp only [evC], h⟩
 | exit id => intro ov H K hok h; exact ⟨_, ov, H, hok, by simp only [evC], h⟩
 | ret => intro ov H K hok h; exact ⟨_, ov, H, hok, by simp only [evC], h⟩
 | goto l => intro ov H K hok h; cases h
 | refuse s => intro ov H K hok h; cases h
 | region id ops draw =>
  intro ov H K hok h
  simp only [yC] at h
  simp only [evC]
  cases draw with
  | true =>
   simp only at h
   obtain ⟨h1, h⟩ := qL h
   rw [vt] at h
   obtain ⟨fps, ov', H', h2, h3, h⟩ := qag hcf hfs hok h
   obtain ⟨h4, h⟩ := qL h
   exact ⟨_, ov', H', h2, by simp only [if_true, h1, h3, qi1, h4], h⟩
  | false =>
   simp only at h
   obtain ⟨ov', H', h2, h3, h⟩ := qaF hcf hfs hok h
   exact ⟨_, ov', H', h2, by simp only [qiW, if_false, h3, Option.map_some], h⟩
 | seq x y ihx ihy =>
  intro ov H K hok h
  simp only [yC] at h
  simp only [evC]
  cases hco : qaa x with
  | some p =>
   simp only [hco] at h ⊢
   rw [vR qbl] at h
   split at h
   ·cases h
   ·rename_i q hq
    obtain ⟨L, hL, hq⟩ := qiO.1 hq
    have hev : Ev (fun _ => EV cfg) cf := fun t a H r h => ⟨0, fun _ _ => hcf t a H r h⟩
    obtain ⟨_, hL'⟩ := qbV hev cfg f p.1 p.2 _ _ _ _ _ hL
    have hL' : yb cfg (EV cfg) f p.1 p.2 p.2.size [] (den n ov) H = some L := hL' _ (qiR _)
    have hq' := qek (G := fun fr H => (evC cfg (EV cfg) f rd bs y (qF (cfg.cut f (qd y)) fr) H).map (qdl bs (dsts x ++ dsts y))) (fun fr H r hr => by
     obtain ⟨r', hr', e⟩ := qiN.1 hr
     rw [qiC cfg hcf m f rd bs y _ _ _ hr', ← e]; rfl) hq
    rw [vt, vR qgo, qat] at h
    obtain ⟨hl, h⟩ := qL h
    have hl := qiQ hl
    have hd := qcR q.2.1
    rw [hl] at hd
    refine ⟨q.1, _, q.2.2, ?_, ?_, h⟩
    ·exact yO _ _ _ (by omega)
    ·rw [hL', qi1, hq', hd]
  | none => ?_
  simp only [hco] at h ⊢
  obtain ⟨e, ov1, H1, h1, h2, h⟩ := ihx hok h
  rw [h2]
  simp only [qi1]
  cases e with
  | normal =>
   simp only at h ⊢
   obtain ⟨ov2, h3, h4, h⟩ := qaf h1 h
   rw [h4]
   exact ihy h3 h
  | exit id => exact ⟨_, ov1, H1, h1, rfl, h⟩
  | goto l => exact ⟨_, ov1, H1, h1, rfl, h⟩
  | ret => exact ⟨_, ov1, H1, h1, rfl, h⟩
 | cond c x y ihx ihy =>
  intro ov H K hok h
  simp only [yC] at h
  simp only [evC, zT hok]
  split at h
  ·rename_i t ht
   rw [ht]
   cases t with
   | true => exact ihx hok h
   | false => exact ihy hok h
  ·cases h
 | block id x ih =>
  intro ov H K hok h
  simp only [yC] at h
  simp only [evC]
  obtain ⟨e, ov1, H1, h1, h2, h⟩ := ih hok h
  rw [h2]
  simp only [qi1]
  cases e with
  | normal => exact ⟨_, ov1, H1, h1, rfl, h⟩
  | exit id' =>
   simp only at h ⊢
   cases hb : qiY id' id with
   | true => rw [hb] at h; exact ⟨_, ov1, H1, h1, by simp, h⟩
   | false => rw [hb] at h; exact ⟨_, ov1, H1, h1, by simp, h⟩
  | goto l => exact ⟨_, ov1, H1, h1, rfl, h⟩
  | ret => exact ⟨_, ov1, H1, h1, rfl, h⟩
 | loop x ih =>
  intro ov H K hok h
  simp only [yC] at h
  simp only [evC]
  obtain ⟨ov1, H1, h1, h2, h⟩ := qb5 hok h
  rw [h2]
  obtain ⟨e, ov2, H2, h3, h4, h⟩ := qb4 (den' := evC cfg (EV cfg) f rd bs x) (fun hok h => ih hok h) m h1 h
  obtain ⟨ov3, h5, h6, h⟩ := qaf h3 h
  rw [qdq h4]
  exact ⟨e, ov3, H2, h5, by simp only [Option.map_some, h6], h⟩
 | scope x ih =>
  intro ov H K hok h
  simp only [yC] at h
  simp only [evC]
  obtain ⟨e, ov1, H1, h1, h2, h⟩ := ih hok h
  rw [h2]
  simp only [qi1]
  cases e with
  | goto l => cases h
  | normal => exact ⟨_, ov1, H1, h1, rfl, h⟩
  | exit id => exact ⟨_, ov1, H1, h1, rfl, h⟩
  | ret => exact ⟨_, ov1, H1, h1, rfl, h⟩
 | rangeFunc g ps assign body =>
  intro ov H K hok h
  simp only [yC] at h
  simp only [evC]
  obtain ⟨ov1, H1, h1, h2, h⟩ := xn hok h
  rw [h2]
  simp only
  unfold qgG at h
  rw [vR qbl] at h
  split at h
  ·cases h
  ·rename_i q hq
   have hq : xw cfg (EV cfg) f rd bs g ps assign body (den n ov1) H1 = some q := by
    unfold xw at hq ⊢
    split at hq
    ·rename_i hl
     rw [if_pos hl]
     split at hq
     ·split at hq
      ·cases hq
      ·rename_i hx
       rw [if_neg hx]
       obtain ⟨q2, hq2, hq⟩ := qiO.1 hq
       rw [hcf _ _ _ _ hq2]
       exact hq
     ·cases hq
    ·cases hq
   rw [vt, vR qgo, qat] at h
   obtain ⟨hl, h⟩ := qL h
   have hl := qiQ hl
   have hd := qcR q.2.1
   rw [hl] at hd
   refine ⟨q.1, _, q.2.2, ?_, ?_, h⟩
   ·exact yO _ _ _ (by omega)
   ·rw [hq, hd]
noncomputable def resO (rs : List ResultVar) (ty : TypeId → Option TI) (ov : Ov) (H : AH) : Option (List AV) :=
 match rs with
 | [] => some []
 | .tmp t :: l => (resO l ty ov H).map fun vs => qE t ov :: vs
 | .cell a t :: l =>
  match ty t with
  | some ti => (yK ti.d.agg ti.sz H (qE a ov)).bind fun v => (resO l ty ov H).map fun vs => v :: vs
  | none => none
theorem qdc {n : Nat} {ov : Ov} (hok : OvOk n ov) (ty : TypeId → Option TI) (H : AH) : ∀ rs : List ResultVar, vp rs ty (den n ov) H = resO rs ty ov H
 | [] => rfl
 | .tmp t :: l => by
  have : (den n ov).getD t .junk = qE t ov := congrFun (zT hok) (.tmp t)
  simp only [vp, resO, qdc hok ty H l, this]
 | .cell a t :: l => by
  have : (den n ov).getD a .junk = qE a ov := congrFun (zT hok) (.tmp a)
  simp only [vp, resO, qdc hok ty H l, this]
  cases ty t <;> rfl
noncomputable def yEnd (cfg : Cfg) (f n : Nat) (rs : List ResultVar) : YE (AV × AH) := fun e ov H =>
 match e with
 | .normal | .ret => yB n (cfg.lift f 0) ov H fun ov H => (match resO rs cfg.ty ov H with | some vs => gA (xR vs) fun v => some (v, H) | none => none)
 | _ => none
def qaw : Nat → List AV → Ov
 | _, [] => []
 | i, a :: l => (i, a) :: qaw (i + 1) l
theorem qbZ : ∀ (l : List AV) (i n : Nat), i + l.length ≤ n → OvOk n (qaw i l)
 | [], i, n, _ => fun p hp => by cases hp
 | a :: l, i, n, h => by
  simp only [List.length_cons] at h
  intro p hp
  rcases qi4.1 hp with rfl | hp
  ·show i < n; omega
  ·exact qbZ l (i + 1) n (by omega) p hp
theorem qdH : ∀ (l : List AV) (i t : Nat), qE t (qaw i l) = if i ≤ t then (l[t - i]?).getD .junk else .junk
 | [], i, t => by simp [qaw, qaP]
 | a :: l, i, t => by
  rw [qaw, xX, qdH l (i + 1) t]
  by_cases e2 : i = t
  ·subst e2; simp
  ·have h1 : qiY i t = false := by rw [← Bool.not_eq_true]; intro h'; exact e2 (qiQ h')
   simp only [h1, cond_false]
   by_cases h3 : i + 1 ≤ t
   ·have h4 : t - i = (t - (i + 1)) + 1 := by omega
    rw [if_pos h3, if_pos (by omega), h4, List.getElem?_cons_succ]
   ·rw [if_neg h3, if_neg (by omega)]
theorem qhM {l : List AV} {n : Nat} (h : l.length ≤ n) : den n (qaw 0 l) = l ++ qi0 (n - l.length) .junk := by
 refine qdi (qbZ l 0 n (by omega)) (by simp; omega) fun t ht => ?_
 rw [qdH, if_pos (Nat.zero_le _), Nat.sub_zero]
 by_cases hl : t < l.length
 ·rw [qiU hl, qiS hl]; rfl
 ·rw [qiV (by omega), List.getElem?_replicate, if_pos (by omega), List.getElem?_eq_none (by omega)]; rfl
noncomputable def yY2 (id : Nat) : YE (AV × AH) := fun e _ H =>
 match H[id]? with
 | some (.loop f' fr' ps' assign' body' _ _) =>
  match e with
  | .normal => gS (H.set id (.loop f' fr' ps' assign' body' none .ready)) fun H' => some (.bool true, H')
  | .ret => gS (H.set id (.loop f' fr' ps' assign' body' (some .ret) .done)) fun H' => some (.bool false, H')
  | .exit x => gS (H.set id (.loop f' fr' ps' assign' body' (some (.exit x)) .done)) fun H' => some (.bool false, H')
  | .goto _ => none
 | _ => none
noncomputable def yF (cfg : Cfg) (look : Nat → Option Func) (fs : List Fact) (m : Nat) : Nat → Orac
 | 0, _, _, _ => none
 | d + 1, .f f, args, H =>
  match cfg.ext f with
  | some s => s args H
  | none =>
   if cfg.known f then
    match look f with
    | some fn =>
     match fn.body with
     | some c => cond (Nat.ble args.length fn.ntmps) (fNat H.length fun bs => fNat fn.ntmps fun n => gS (qaw 0 args) fun ov => yC cfg (yF cfg look fs m d) fs m f none n bs c ov H (yEnd cfg f n fn.results.toList)) none
     | none => none
    | none => none
   else none
 | d + 1, .y id, args, H =>
  match H[id]? with
  | some (.loop f fr ps assign body _ .ready) =>
   cond (qiY args.length ps.length)
    (fNat H.length fun bs => fNat (vq fr ps args).length fun n => gS (spGo 0 (vq fr ps args)) fun ov => yC cfg (yF cfg look fs m d) fs m f (some id) n bs assign ov H fun e ov H =>
     match e with
     | .normal =>
      (match H[id]? with
      | some (.loop f' fr' ps' assign' body' pend' .ready) => gS (H.set id (.loop f' fr' ps' assign' body' pend' .busy)) fun H' => yC cfg (yF cfg look fs m d) fs m f (some id) n bs body ov H' (yY2 id)
      | _ => none)
     | _ => none) none
  | _ => none
theorem qfY (cfg : Cfg) {look : Nat → Option Func} (hl : ∀ f fn, look f = some fn → cfg.P.funcs[f]? = some fn) {fs : List Fact} (hfs : qB cfg fs) (m : Nat) : ∀ (d : Nat) (t : Tgt) (a : List AV) (H : AH) (r), yF cfg look fs m d t a H = some r → EV cfg t a H = some r
 | 0, _, _, _, _, h => by cases h
 | d + 1, t, a, H, r, h => by
  have ih := qfY cfg hl hfs m d
  refine qiK ?_
  cases t with
  | f f =>
   simp only [yF] at h
   unfold vM
   split at h
   ·rename_i s hs
    simp only [hs]
    exact h
   ·rename_i hs
    simp only [hs]
    split at h
    ·rename_i hk
     rw [if_pos hk]
     split at h
     ·rename_i fn hf
      simp only [hl f fn hf]
      split at h
      ·rename_i c hb
       simp only [hb]
       obtain ⟨hle, h⟩ := qL h
       rw [Nat.ble_eq] at hle
       simp only [q9, vt] at h
       obtain ⟨e, ov', H', h1, h2, h3⟩ := qc8 ih hfs c (qbZ a 0 fn.ntmps (by omega)) h
       rw [qhM hle] at h2
       rw [h2]
       simp only [qi1]
       unfold yEnd at h3
       have fin : ∀ (e : Ex), (e = .normal ∨ e = .ret) → (yB fn.ntmps (cfg.lift f 0) ov' H' fun ov H => (match resO fn.results.toList cfg.ty ov H with | some vs => gA (xR vs) fun v => some (v, H) | none => none)) = some r →
         zd cfg fn.results.toList (e, qN (cfg.lift f 0) (den fn.ntmps ov') H') = some r := by
        intro e he h3
        obtain ⟨ov2, H2, h4, h5, h6⟩ := xn h1 h3
        rw [h5]
        unfold zd
        rcases he with rfl | rfl <;>
        ·simp only [qdc h4]
         split at h6
         ·rename_i vs hv
          rw [yl] at h6
          rw [hv]
          exact h6
         ·cases h6
       cases e with
       | normal => exact fin _ (.inl rfl) h3
       | ret => exact fin _ (.inr rfl) h3
       | exit x => cases h3
       | goto l => cases h3
      ·cases h
     ·cases h
    ·cases h
  | y id =>
   simp only [yF] at h
   unfold vM
   split at h
   ·rename_i f fr ps assign body p hlp
    simp only [hlp]
    obtain ⟨hlen, h⟩ := qL h
    rw [if_pos (qiQ hlen)]
    simp only [q9, vt] at h
    obtain ⟨e, ov1, H1, h1, h2, h3⟩ := qc8 ih hfs assign (yO _ 0 _ (by omega)) h
    rw [qcR] at h2
    rw [h2]
    simp only [qi1]
    cases e with
    | normal =>
     simp only at h3 ⊢
     split at h3
     ·rename_i f' fr' ps' assign' body' pend' hl1
      simp only [hl1]
      obtain ⟨e2, ov2, H2, h4, h5, h6⟩ := qc8 ih hfs body h1 h3
      rw [h5]
      simp only [qi1]
      unfold yY2 at h6
      split at h6
      ·rename_i hl2
       simp only [hl2]
       cases e2 with
       | normal => simp only [vt] at h6; exact h6
       | ret => simp only [vt] at h6; exact h6
       | exit x => simp only [vt] at h6; exact h6
       | goto l => cases h6
      ·cases h6
     ·cases h3
    | exit x => cases h3
    | goto l => cases h3
    | ret => cases h3
   ·cases h
theorem qit {cfg : Cfg} {look : Nat → Option Func} (hl : ∀ f fn, look f = some fn → cfg.P.funcs[f]? = some fn) {fs : List Fact} (hfs : qB cfg fs) {f : Nat} {args : List AV} {v : AV} (m d : Nat)
  (h : (match yF cfg look fs m d (.f f) args [] with | some r => some r.1 | none => none) = some v) : EVs (EV cfg) f args = some v := by
 unfold EVs
 cases hx : yF cfg look fs m d (.f f) args [] with
 | none => rw [hx] at h; cases h
 | some r => rw [hx] at h; rw [qfY cfg hl hfs m d _ _ _ _ hx]; exact h
theorem qiu {cfg : Cfg} {look : Nat → Option Func} (hl : ∀ f fn, look f = some fn → cfg.P.funcs[f]? = some fn) {fs : List Fact} (hfs : qB cfg fs) {f : Nat} {args : List AV} {v : AV} (m d : Nat)
  (h : (match yF cfg look fs m d (.f f) args [] with | some r => gA (r.1.frz r.1.msIds r.2).fg some | none => none) = some v) : EVf (EV cfg) f args = some v := by
 unfold EVf
 cases hx : yF cfg look fs m d (.f f) args [] with
 | none => rw [hx] at h; cases h
 | some r => rw [hx] at h; rw [qfY cfg hl hfs m d _ _ _ _ hx]; simp only [yl] at h; exact h
def qcJ : List AV → AH → Option (AV × AH)
 | [.str a, .str b], H => some (.int .i64 (if a == b then 0 else if Op.bytesLess a b then -1 else 1), H)
 | _, _ => none
def qa3 : List AV → AH → Option (AV × AH)
 | [.str s, .int .u8 c], H => some (.int .i64 (Go.Lib.indexByte s c.toNat.toUInt8), H)
 | _, _ => none
def zG : List AV → AH → Option (AV × AH)
 | [.str s, .str t], H => if s.length < 4294967281 then some (.bool (Go.Lib.contains s t), H) else none
 | _, _ => none
def qeJ : List AV → AH → Option (AV × AH)
 | [.str s, .int .i64 10, .int .i64 64], H =>
  if s.length ≤ 281474976710656 then
   match Go.Lib.parseUintB 64 s with
   | .ok u => some (.tup [.int .u64 u, .nilI], H)
   | Go.Lib.NumEnd.syntax => some (.tup [.int .u64 0, .ifc 198 .junk], H)
   | .range => some (.tup [.int .u64 18446744073709551615, .ifc 198 .junk], H)
  else none
 | _, _ => none
def decF : Nat → Nat → List UInt8
 | 0, _ => []
 | k + 1, u => if Nat.blt u 10 then [UInt8.ofNat (48 + u)] else decF k (u / 10) ++ [UInt8.ofNat (48 + u % 10)]
theorem qdj : ∀ (k u : Nat), u < 10 ^ (k + 1) → decF (k + 1) u = Go.Lib.decDigits u
 | 0, u, h => by
  rw [decF, Go.Lib.decDigits]
  have h : u < 10 := by simpa using h
  rw [if_pos (by rw [qi3]; exact h), dif_pos h]
 | k + 1, u, h => by
  rw [decF, Go.Lib.decDigits]
  by_cases hu : u < 10
  ·rw [if_pos (by rw [qi3]; exact hu), dif_pos hu]
  ·rw [if_neg (by rw [qi3]; exact hu), dif_neg hu, qdj k (u / 10) (by rw [Nat.pow_succ] at h; omega)]
def qgj (n : Int) : List UInt8 := if n < 0 then 45 :: decF 20 n.natAbs else decF 20 n.toNat
theorem qhF {n : Int} (h0 : -9223372036854775808 ≤ n) (h1 : n ≤ 9223372036854775807) : qgj n = Go.Lib.itoa n := by
 unfold qgj Go.Lib.itoa
 have h2 : n.natAbs < 10 ^ 19 := by omega
 rw [qdj 19 _ (by omega), qdj 19 _ (by omega)]
def qdh : List AV → AH → Option (AV × AH)
 | [.int .i64 n], H => if -9223372036854775808 ≤ n ∧ n ≤ 9223372036854775807 then some (.str (qgj n), H) else none
 | _, _ => none
def zO : List (List AV) → Option (List (List UInt8))
 | [] => some []
 | [.str s] :: l => match zO l with | some q => some (s :: q) | none => none
 | _ :: _ => none
def qfV : List AV → AH → Option (AV × AH)
 | [.sl rows, .str sep], H =>
  match zO rows with
  | some xs => if xs.length ≤ 140737488355328 ∧ (Go.Lib.join xs sep).length ≤ 140737488355328 then some (.str (Go.Lib.join xs sep), H) else none
  | none => none
 | _, _ => none
def qcy (tab : TypeId → Option TypeId) (T e : TypeId) : Bool := match tab T with | some e' => qiY e' e | none => false
def zh (tab : TypeId → Option TypeId) : List AV → AH → Option (AV × AH)
 | [.ptr 0 0 0, .int .u8 c], .bld T e s :: H => if qcy tab T e = true ∧ 0 ≤ c ∧ c ≤ 255 ∧ s.length < 140737488355328 then some (.nilI, .bld T e (s ++ [c.toNat.toUInt8]) :: H) else none
 | _, _ => none
def yg (tab : TypeId → Option TypeId) : List AV → AH → Option (AV × AH)
 | [.ptr 0 0 0, .str t], .bld T e s :: H => if qcy tab T e = true ∧ s.length + t.length ≤ 140737488355328 then some (.tup [.int .i64 t.length, .nilI], .bld T e (s ++ t) :: H) else none
 | _, _ => none
def qa2 (tab : TypeId → Option TypeId) : List AV → AH → Option (AV × AH)
 | [.ptr 0 0 0], .bld T e s :: H => if qcy tab T e = true ∧ s.length < 140737488355328 then some (.str s, .bld T e s :: H) else none
 | _, _ => none
end Go.Av
end
section
namespace Go.Proofs.YtnjonahoheopnaaGreatDoor
open Go.Av
def qf0 : BT TI := .node 118 ({ d := .func, sz := 1, bytes := 8, zero := [.nilF], eq := false }) (.node 62 ({ d := .func, sz := 1, bytes := 8, zero := [.nilF], eq := false }) (.node 33 ({ d := .func, sz := 1, bytes := 8, zero := [.nilF], eq := false }) (.node 18 ({ d := .struct [(0, 17)], sz := 1, bytes := 8, zero := [.nilP], eq := false }) (.node 7 ({ d := .struct [(0, 2), (1, 3), (2, 4), (3, 6)], sz := 4, bytes := 24, zero := [.int .i64 0, .int .i64 0, .bool false, .int .u8 0], eq := true }) (.node 4 ({ d := .bool, sz := 1, bytes := 1, zero := [.bool false], eq := false }) (.node 2 ({ d := .int .i64, sz := 1, bytes := 8, zero := [.int .i64 0], eq := false }) (.node 1 ({ d := .func, sz := 1, bytes := 8, zero := [.nilF], eq := false }) .leaf .leaf) (.node 3 ({ d := .int .i64, sz := 1, bytes := 8, zero := [.int .i64 0], eq := false }) .leaf .leaf)) (.node 6 ({ d := .int .u8, sz := 1, bytes := 1, zero := [.int .u8 0], eq := false }) (.node 5 ({ d := .int .u8, sz := 1, bytes := 1, zero := [.int .u8 0], eq := false }) .leaf .leaf) .leaf)) (.node 15 ({ d := .ptr 231, sz := 1, bytes := 8, zero := [.nilP], eq := false }) (.node 12 ({ d := .int .u64, sz := 1, bytes := 8, zero := [.int .u64 0], eq := false }) (.node 9 ({ d := .str, sz := 1, bytes := 16, zero := [.str []], eq := false }) .leaf .leaf) (.node 13 ({ d := .struct [(0, 9), (1, 12)], sz := 2, bytes := 24, zero := [.str [], .int .u64 0], eq := false }) .leaf .leaf)) (.node 17 ({ d := .ptr 242, sz := 1, bytes := 8, zero := [.nilP], eq := false }) (.node 16 ({ d := .ptr 234, sz := 1, bytes := 8, zero := [.nilP], eq := false }) .leaf .leaf) .leaf))) (.node 26 ({ d := .func, sz := 1, bytes := 8, zero := [.nilF], eq := false }) (.node 22 ({ d := .slice 56, sz := 1, bytes := 24, zero := [.nilS], eq := false }) (.node 20 ({ d := .iface, sz := 1, bytes := 16, zero := [.nilI], eq := false }) (.node 19 ({ d := .struct [(0, 17)], sz := 1, bytes := 8, zero := [.nilP], eq := false }) .leaf .leaf) (.node 21 ({ d := .int .i32, sz := 1, bytes := 4, zero := [.int .i32 0], eq := false }) .leaf .leaf)) (.node 24 ({ d := .int .i64, sz := 1, bytes := 8, zero := [.int .i64 0], eq := false }) (.node 23 ({ d := .func, sz := 1, bytes := 8, zero := [.nilF], eq := false }) .leaf .leaf) .leaf)) (.node 29 ({ d := .func, sz := 1, bytes := 8, zero := [.nilF], eq := false }) (.node 28 ({ d := .func, sz := 1, bytes := 8, zero := [.nilF], eq := false }) (.node 27 ({ d := .func, sz := 1, bytes := 8, zero := [.nilF], eq := false }) .leaf .leaf) .leaf) (.node 31 ({ d := .struct [(0, 24), (1, 3)], sz := 2, bytes := 16, zero := [.int .i64 0, .int .i64 0], eq := true }) (.node 30 ({ d := .struct [(0, 24), (1, 3)], sz := 2, bytes := 16, zero := [.int .i64 0, .int .i64 0], eq := true }) .leaf .leaf) .leaf)))) (.node 49 ({ d := .func, sz := 1, bytes := 8, zero := [.nilF], eq := false }) (.node 40 ({ d := .func, sz := 1, bytes := 8, zero := [.nilF], eq := false }) (.node 37 ({ d := .struct [(0, 3), (1, 3), (2, 9), (3, 35)], sz := 4, bytes := 56, zero := [.int .i64 0, .int .i64 0, .str [], .nilS], eq := false }) (.node 35 ({ d := .slice 37, sz := 1, bytes := 24, zero := [.nilS], eq := false }) (.node 34 ({ d := .func, sz := 1, bytes := 8, zero := [.nilF], eq := false }) .leaf .leaf) (.node 36 ({ d := .struct [(0, 3), (1, 3), (2, 9), (3, 35)], sz := 4, bytes := 56, zero := [.int .i64 0, .int .i64 0, .str [], .nilS], eq := false }) .leaf .leaf)) (.node 39 ({ d := .struct [(0, 3), (1, 3), (2, 3), (3, 37)], sz := 7, bytes := 80, zero := [.int .i64 0, .int .i64 0, .int .i64 0, .int .i64 0, .int .i64 0, .str [], .nilS], eq := false }) (.node 38 ({ d := .struct [(0, 3), (1, 3), (2, 3), (3, 37)], sz := 7, bytes := 80, zero := [.int .i64 0, .int .i64 0, .int .i64 0, .int .i64 0, .int .i64 0, .str [], .nilS], eq := false }) .leaf .leaf) .leaf)) (.node 45 ({ d := .func, sz := 1, bytes := 8, zero := [.nilF], eq := false }) (.node 42 ({ d := .func, sz := 1, bytes := 8, zero := [.nilF], eq := false }) (.node 41 ({ d := .func, sz := 1, bytes := 8, zero := [.nilF], eq := false }) .leaf .leaf) (.node 43 ({ d := .slice 39, sz := 1, bytes := 24, zero := [.nilS], eq := false }) .leaf .leaf)) (.node 48 ({ d := .func, sz := 1, bytes := 8, zero := [.nilF], eq := false }) (.node 46 ({ d := .func, sz := 1, bytes := 8, zero := [.nilF], eq := false }) .leaf .leaf) .leaf))) (.node 56 ({ d := .struct [(0, 3), (1, 3), (2, 3), (3, 9)], sz := 4, bytes := 40, zero := [.int .i64 0, .int .i64 0, .int .i64 0, .str []], eq := true }) (.node 53 ({ d := .slice 3, sz := 1, bytes := 24, zero := [.nilS], eq := false }) (.node 51 ({ d := .func, sz := 1, bytes := 8, zero := [.nilF], eq := false }) (.node 50 ({ d := .func, sz := 1, bytes := 8, zero := [.nilF], eq := false }) .leaf .leaf) (.node 52 ({ d := .func, sz := 1, bytes := 8, zero := [.nilF], eq := false }) .leaf .leaf)) (.node 55 ({ d := .struct [(0, 3), (1, 3), (2, 3), (3, 9)], sz := 4, bytes := 40, zero := [.int .i64 0, .int .i64 0, .int .i64 0, .str []], eq := true }) (.node 54 ({ d := .func, sz := 1, bytes := 8, zero := [.nilF], eq := false }) .leaf .leaf) .leaf)) (.node 59 ({ d := .func, sz := 1, bytes := 8, zero := [.nilF], eq := false }) (.node 58 ({ d := .func, sz := 1, bytes := 8, zero := [.nilF], eq := false }) (.node 57 ({ d := .slice 9, sz := 1, bytes := 24, zero := [.nilS], eq := false }) .leaf .leaf) .leaf) (.node 61 ({ d := .func, sz := 1, bytes := 8, zero := [.nilF], eq := false }) (.node 60 ({ d := .func, sz := 1, bytes := 8, zero := [.nilF], eq := false }) .leaf .leaf) .leaf))))) (.node 90 ({ d := .func, sz := 1, bytes := 8, zero := [.nilF], eq := false }) (.node 77 ({ d := .struct [(0, 43)], sz := 1, bytes := 24, zero := [.nilS], eq := false }) (.node 69 ({ d := .func, sz := 1, bytes := 8, zero := [.nilF], eq := false }) (.node 66 ({ d := .struct [(0, 9), (1, 3), (2, 24)], sz := 3, bytes := 32, zero := [.str [], .int .i64 0, .int .i64 0], eq := true }) (.node 64 ({ d := .func, sz := 1, bytes := 8, zero := [.nilF], eq := false }) (.node 63 ({ d := .func, sz := 1, bytes := 8, zero := [.nilF], eq := false }) .leaf .leaf) (.node 65 ({ d := .ptr 67, sz := 1, bytes := 8, zero := [.nilP], eq := false }) .leaf .leaf)) (.node 68 ({ d := .func, sz := 1, bytes := 8, zero := [.nilF], eq := false }) (.node 67 ({ d := .struct [(0, 9), (1, 3), (2, 24)], sz := 3, bytes := 32, zero := [.str [], .int .i64 0, .int .i64 0], eq := true }) .leaf .leaf) .leaf)) (.node 74 ({ d := .func, sz := 1, bytes := 8, zero := [.nilF], eq := false }) (.node 71 ({ d := .func, sz := 1, bytes := 8, zero := [.nilF], eq := false }) (.node 70 ({ d := .func, sz := 1, bytes := 8, zero := [.nilF], eq := false }) .leaf .leaf) (.node 72 ({ d := .slice 79, sz := 1, bytes := 24, zero := [.nilS], eq := false }) .leaf .leaf)) (.node 76 ({ d := .struct [(0, 43)], sz := 1, bytes := 24, zero := [.nilS], eq := false }) (.node 75 ({ d := .ptr 77, sz := 1, bytes := 8, zero := [.nilP], eq := false }) .leaf .leaf) .leaf))) (.node 84 ({ d := .map 3 37, sz := 1, bytes := 8, zero := [.nilM], eq := false }) (.node 81 ({ d := .func, sz := 1, bytes := 8, zero := [.nilF], eq := false }) (.node 79 ({ d := .struct [(0, 37), (4, 35), (5, 35)], sz := 6, bytes := 104, zero := [.int .i64 0, .int .i64 0, .str [], .nilS, .nilS, .nilS], eq := false }) (.node 78 ({ d := .struct [(0, 37), (4, 35), (5, 35)], sz := 6, bytes := 104, zero := [.int .i64 0, .int .i64 0, .str [], .nilS, .nilS, .nilS], eq := false }) .leaf .leaf) (.node 80 ({ d := .func, sz := 1, bytes := 8, zero := [.nilF], eq := false }) .leaf .leaf)) (.node 83 ({ d := .ptr 86, sz := 1, bytes := 8, zero := [.nilP], eq := false }) (.node 82 ({ d := .func, sz := 1, bytes := 8, zero := [.nilF], eq := false }) .leaf .leaf) .leaf)) (.node 87 ({ d := .int .i64, sz := 1, bytes := 8, zero := [.int .i64 0], eq := false }) (.node 86 ({ d := .struct [(0, 37), (4, 3), (5, 35), (6, 35), (7, 84), (8, 4)], sz := 9, bytes := 128, zero := [.int .i64 0, .int .i64 0, .str [], .nilS, .int .i64 0, .nilS, .nilS, .nilM, .bool false], eq := false }) (.node 85 ({ d := .struct [(0, 37), (4, 3), (5, 35), (6, 35), (7, 84), (8, 4)], sz := 9, bytes := 128, zero := [.int .i64 0, .int .i64 0, .str [], .nilS, .int .i64 0, .nilS, .nilS, .nilM, .bool false], eq := false }) .leaf .leaf) .leaf) (.node 89 ({ d := .func, sz := 1, bytes := 8, zero := [.nilF], eq := false }) (.node 88 ({ d := .func, sz := 1, bytes := 8, zero := [.nilF], eq := false }) .leaf .leaf) .leaf)))) (.node 103 ({ d := .struct [(0, 102)], sz := 2, bytes := 32, zero := [.nilP, .nilS], eq := false }) (.node 97 ({ d := .func, sz := 1, bytes := 8, zero := [.nilF], eq := false }) (.node 94 ({ d := .func, sz := 1, bytes := 8, zero := [.nilF], eq := false }) (.node 92 ({ d := .slice 5, sz := 1, bytes := 24, zero := [.nilS], eq := false }) (.node 91 ({ d := .func, sz := 1, bytes := 8, zero := [.nilF], eq := false }) .leaf .leaf) (.node 93 ({ d := .func, sz := 1, bytes := 8, zero := [.nilF], eq := false }) .leaf .leaf)) (.node 96 ({ d := .func, sz := 1, bytes := 8, zero := [.nilF], eq := false }) (.node 95 ({ d := .func, sz := 1, bytes := 8, zero := [.nilF], eq := false }) .leaf .leaf) .leaf)) (.node 100 ({ d := .ptr 102, sz := 1, bytes := 8, zero := [.nilP], eq := false }) (.node 99 ({ d := .ptr 104, sz := 1, bytes := 8, zero := [.nilP], eq := false }) (.node 98 ({ d := .func, sz := 1, bytes := 8, zero := [.nilF], eq := false }) .leaf .leaf) .leaf) (.node 102 ({ d := .struct [(0, 100), (1, 92)], sz := 2, bytes := 32, zero := [.nilP, .nilS], eq := false }) (.node 101 ({ d := .struct [(0, 100), (1, 92)], sz := 2, bytes := 32, zero := [.nilP, .nilS], eq := false }) .leaf .leaf) .leaf))) (.node 111 ({ d := .func, sz := 1, bytes := 8, zero := [.nilF], eq := false }) (.node 107 ({ d := .iface, sz := 1, bytes := 16, zero := [.nilI], eq := false }) (.node 105 ({ d := .func, sz := 1, bytes := 8, zero := [.nilF], eq := false }) (.node 104 ({ d := .struct [(0, 102)], sz := 2, bytes := 32, zero := [.nilP, .nilS], eq := false }) .leaf .leaf) (.node 106 ({ d := .func, sz := 1, bytes := 8, zero := [.nilF], eq := false }) .leaf .leaf)) (.node 110 ({ d := .func, sz := 1, bytes := 8, zero := [.nilF], eq := false }) (.node 108 ({ d := .iface, sz := 1, bytes := 16, zero := [.nilI], eq := false }) .leaf .leaf) .leaf)) (.node 115 ({ d := .func, sz := 1, bytes := 8, zero := [.nilF], eq := false }) (.node 114 ({ d := .func, sz := 1, bytes := 8, zero := [.nilF], eq := false }) (.node 112 ({ d := .func, sz := 1, bytes := 8, zero := [.nilF], eq := false }) .leaf .leaf) .leaf) (.node 117 ({ d := .func, sz := 1, bytes := 8, zero := [.nilF], eq := false }) (.node 116 ({ d := .func, sz := 1, bytes := 8, zero := [.nilF], eq := false }) .leaf .leaf) .leaf)))))) (.node 179 ({ d := .slice 178, sz := 1, bytes := 24, zero := [.nilS], eq := false }) (.node 148 ({ d := .func, sz := 1, bytes := 8, zero := [.nilF], eq := false }) (.node 133 ({ d := .func, sz := 1, bytes := 8, zero := [.nilF], eq := false }) (.node 126 ({ d := .func, sz := 1, bytes := 8, zero := [.nilF], eq := false }) (.node 122 ({ d := .func, sz := 1, bytes := 8, zero := [.nilF], eq := false }) (.node 120 ({ d := .func, sz := 1, bytes := 8, zero := [.nilF], eq := false }) (.node 119 ({ d := .func, sz := 1, bytes := 8, zero := [.nilF], eq := false }) .leaf .leaf) (.node 121 ({ d := .func, sz := 1, bytes := 8, zero := [.nilF], eq := false }) .leaf .leaf)) (.node 125 ({ d := .func, sz := 1, bytes := 8, zero := [.nilF], eq := false }) (.node 123 ({ d := .func, sz := 1, bytes := 8, zero := [.nilF], eq := false }) .leaf .leaf) .leaf)) (.node 130 ({ d := .func, sz := 1, bytes := 8, zero := [.nilF], eq := false }) (.node 128 ({ d := .func, sz := 1, bytes := 8, zero := [.nilF], eq := false }) (.node 127 ({ d := .func, sz := 1, bytes := 8, zero := [.nilF], eq := false }) .leaf .leaf) (.node 129 ({ d := .func, sz := 1, bytes := 8, zero := [.nilF], eq := false }) .leaf .leaf)) (.node 132 ({ d := .func, sz := 1, bytes := 8, zero := [.nilF], eq := false }) (.node 131 ({ d := .func, sz := 1, bytes := 8, zero := [.nilF], eq := false }) .leaf .leaf) .leaf))) (.node 140 ({ d := .func, sz := 1, bytes := 8, zero := [.nilF], eq := false }) (.node 137 ({ d := .func, sz := 1, bytes := 8, zero := [.nilF], eq := false }) (.node 135 ({ d := .func, sz := 1, bytes := 8, zero := [.nilF], eq := false }) (.node 134 ({ d := .func, sz := 1, bytes := 8, zero := [.nilF], eq := false }) .leaf .leaf) (.node 136 ({ d := .func, sz := 1, bytes := 8, zero := [.nilF], eq := false }) .leaf .leaf)) (.node 139 ({ d := .func, sz := 1, bytes := 8, zero := [.nilF], eq := false }) (.node 138 ({ d := .ptr 5, sz := 1, bytes := 8, zero := [.nilP], eq := false }) .leaf .leaf) .leaf)) (.node 144 ({ d := .func, sz := 1, bytes := 8, zero := [.nilF], eq := false }) (.node 143 ({ d := .func, sz := 1, bytes := 8, zero := [.nilF], eq := false }) (.node 141 ({ d := .int .u64, sz := 1, bytes := 8, zero := [.int .u64 0], eq := false }) .leaf .leaf) .leaf) (.node 146 ({ d := .ptr 4, sz := 1, bytes := 8, zero := [.nilP], eq := false }) (.node 145 ({ d := .func, sz := 1, bytes := 8, zero := [.nilF], eq := false }) .leaf .leaf) .leaf)))) (.node 163 ({ d := .func, sz := 1, bytes := 8, zero := [.nilF], eq := false }) (.node 157 ({ d := .func, sz := 1, bytes := 8, zero := [.nilF], eq := false }) (.node 152 ({ d := .func, sz := 1, bytes := 8, zero := [.nilF], eq := false }) (.node 150 ({ d := .func, sz := 1, bytes := 8, zero := [.nilF], eq := false }) (.node 149 ({ d := .map 3 4, sz := 1, bytes := 8, zero := [.nilM], eq := false }) .leaf .leaf) (.node 151 ({ d := .func, sz := 1, bytes := 8, zero := [.nilF], eq := false }) .leaf .leaf)) (.node 155 ({ d := .func, sz := 1, bytes := 8, zero := [.nilF], eq := false }) (.node 154 ({ d := .func, sz := 1, bytes := 8, zero := [.nilF], eq := false }) .leaf .leaf) .leaf)) (.node 160 ({ d := .func, sz := 1, bytes := 8, zero := [.nilF], eq := false }) (.node 159 ({ d := .func, sz := 1, bytes := 8, zero := [.nilF], eq := false }) (.node 158 ({ d := .func, sz := 1, bytes := 8, zero := [.nilF], eq := false }) .leaf .leaf) .leaf) (.node 162 ({ d := .array 24 5, sz := 24, bytes := 24, zero := [.int .u8 0, .int .u8 0, .int .u8 0, .int .u8 0, .int .u8 0, .int .u8 0, .int .u8 0, .int .u8 0, .int .u8 0, .int .u8 0, .int .u8 0, .int .u8 0, .int .u8 0, .int .u8 0, .int .u8 0, .int .u8 0, .int .u8 0, .int .u8 0, .int .u8 0, .int .u8 0, .int .u8 0, .int .u8 0, .int .u8 0, .int .u8 0], eq := false }) (.node 161 ({ d := .func, sz := 1, bytes := 8, zero := [.nilF], eq := false }) .leaf .leaf) .leaf))) (.node 172 ({ d := .func, sz := 1, bytes := 8, zero := [.nilF], eq := false }) (.node 169 ({ d := .func, sz := 1, bytes := 8, zero := [.nilF], eq := false }) (.node 166 ({ d := .func, sz := 1, bytes := 8, zero := [.nilF], eq := false }) (.node 164 ({ d := .func, sz := 1, bytes := 8, zero := [.nilF], eq := false }) .leaf .leaf) (.node 167 ({ d := .int .u64, sz := 1, bytes := 8, zero := [.int .u64 0], eq := false }) .leaf .leaf)) (.node 171 ({ d := .func, sz := 1, bytes := 8, zero := [.nilF], eq := false }) (.node 170 ({ d := .func, sz := 1, bytes := 8, zero := [.nilF], eq := false }) .leaf .leaf) .leaf)) (.node 176 ({ d := .func, sz := 1, bytes := 8, zero := [.nilF], eq := false }) (.node 175 ({ d := .array 2 35, sz := 2, bytes := 48, zero := [.nilS, .nilS], eq := false }) (.node 174 ({ d := .func, sz := 1, bytes := 8, zero := [.nilF], eq := false }) .leaf .leaf) .leaf) (.node 178 ({ d := .struct [(0, 37), (4, 37)], sz := 8, bytes := 112, zero := [.int .i64 0, .int .i64 0, .str [], .nilS, .int .i64 0, .int .i64 0, .str [], .nilS], eq := false }) (.node 177 ({ d := .struct [(0, 37), (4, 37)], sz := 8, bytes := 112, zero := [.int .i64 0, .int .i64 0, .str [], .nilS, .int .i64 0, .int .i64 0, .str [], .nilS], eq := false }) .leaf .leaf) .leaf))))) (.node 209 ({ d := .struct [(0, 9), (1, 9), (2, 108)], sz := 3, bytes := 48, zero := [.str [], .str [], .nilI], eq := false }) (.node 193 ({ d := .int .u32, sz := 1, bytes := 4, zero := [.int .u32 0], eq := false }) (.node 186 ({ d := .struct [(0, 184), (6, 4)], sz := 7, bytes := 96, zero := [.int .i64 0, .int .i64 0, .str [], .nilS, .nilS, .int .i64 0, .bool false], eq := false }) (.node 183 ({ d := .struct [(0, 37), (4, 182), (5, 3)], sz := 6, bytes := 88, zero := [.int .i64 0, .int .i64 0, .str [], .nilS, .nilS, .int .i64 0], eq := false }) (.node 181 ({ d := .ptr 186, sz := 1, bytes := 8, zero := [.nilP], eq := false }) (.node 180 ({ d := .func, sz := 1, bytes := 8, zero := [.nilF], eq := false }) .leaf .leaf) (.node 182 ({ d := .slice 244, sz := 1, bytes := 24, zero := [.nilS], eq := false }) .leaf .leaf)) (.node 185 ({ d := .struct [(0, 184), (6, 4)], sz := 7, bytes := 96, zero := [.int .i64 0, .int .i64 0, .str [], .nilS, .nilS, .int .i64 0, .bool false], eq := false }) (.node 184 ({ d := .struct [(0, 37), (4, 182), (5, 3)], sz := 6, bytes := 88, zero := [.int .i64 0, .int .i64 0, .str [], .nilS, .nilS, .int .i64 0], eq := false }) .leaf .leaf) .leaf)) (.node 190 ({ d := .func, sz := 1, bytes := 8, zero := [.nilF], eq := false }) (.node 188 ({ d := .func, sz := 1, bytes := 8, zero := [.nilF], eq := false }) (.node 187 ({ d := .func, sz := 1, bytes := 8, zero := [.nilF], eq := false }) .leaf .leaf) (.node 189 ({ d := .func, sz := 1, bytes := 8, zero := [.nilF], eq := false }) .leaf .leaf)) (.node 192 ({ d := .array 20 141, sz := 20, bytes := 160, zero := [.int .u64 0, .int .u64 0, .int .u64 0, .int .u64 0, .int .u64 0, .int .u64 0, .int .u64 0, .int .u64 0, .int .u64 0, .int .u64 0, .int .u64 0, .int .u64 0, .int .u64 0, .int .u64 0, .int .u64 0, .int .u64 0, .int .u64 0, .int .u64 0, .int .u64 0, .int .u64 0], eq := false }) (.node 191 ({ d := .func, sz := 1, bytes := 8, zero := [.nilF], eq := false }) .leaf .leaf) .leaf))) (.node 202 ({ d := .struct [(0, 141), (1, 141)], sz := 2, bytes := 16, zero := [.int .u64 0, .int .u64 0], eq := true }) (.node 199 ({ d := .func, sz := 1, bytes := 8, zero := [.nilF], eq := false }) (.node 195 ({ d := .func, sz := 1, bytes := 8, zero := [.nilF], eq := false }) (.node 194 ({ d := .array 65 5, sz := 65, bytes := 65, zero := [.int .u8 0, .int .u8 0, .int .u8 0, .int .u8 0, .int .u8 0, .int .u8 0, .int .u8 0, .int .u8 0, .int .u8 0, .int .u8 0, .int .u8 0, .int .u8 0, .int .u8 0, .int .u8 0, .int .u8 0, .int .u8 0, .int .u8 0, .int .u8 0, .int .u8 0, .int .u8 0, .int .u8 0, .int .u8 0, .int .u8 0, .int .u8 0, .int .u8 0, .int .u8 0, .int .u8 0, .int .u8 0, .int .u8 0, .int .u8 0, .int .u8 0, .int .u8 0, .int .u8 0, .int .u8 0, .int .u8 0, .int .u8 0, .int .u8 0, .int .u8 0, .int .u8 0, .int .u8 0, .int .u8 0, .int .u8 0, .int .u8 0, .int .u8 0, .int .u8 0, .int .u8 0, .int .u8 0, .int .u8 0, .int .u8 0, .int .u8 0, .int .u8 0, .int .u8 0, .int .u8 0, .int .u8 0, .int .u8 0, .int .u8 0, .int .u8 0, .int .u8 0, .int .u8 0, .int .u8 0, .int .u8 0, .int .u8 0, .int .u8 0, .int .u8 0, .int .u8 0], eq := false }) .leaf .leaf) (.node 198 ({ d := .ptr 210, sz := 1, bytes := 8, zero := [.nilP], eq := false }) .leaf .leaf)) (.node 201 ({ d := .struct [(0, 141), (1, 141)], sz := 2, bytes := 16, zero := [.int .u64 0, .int .u64 0], eq := true }) (.node 200 ({ d := .func, sz := 1, bytes := 8, zero := [.nilF], eq := false }) .leaf .leaf) .leaf)) (.node 205 ({ d := .func, sz := 1, bytes := 8, zero := [.nilF], eq := false }) (.node 204 ({ d := .func, sz := 1, bytes := 8, zero := [.nilF], eq := false }) (.node 203 ({ d := .func, sz := 1, bytes := 8, zero := [.nilF], eq := false }) .leaf .leaf) .leaf) (.node 208 ({ d := .func, sz := 1, bytes := 8, zero := [.nilF], eq := false }) (.node 207 ({ d := .func, sz := 1, bytes := 8, zero := [.nilF], eq := false }) .leaf .leaf) .leaf)))) (.node 230 ({ d := .struct [(0, 17), (1, 17), (2, 17), (3, 9)], sz := 4, bytes := 40, zero := [.nilP, .nilP, .nilP, .str []], eq := false }) (.node 216 ({ d := .array 32 5, sz := 32, bytes := 32, zero := [.int .u8 0, .int .u8 0, .int .u8 0, .int .u8 0, .int .u8 0, .int .u8 0, .int .u8 0, .int .u8 0, .int .u8 0, .int .u8 0, .int .u8 0, .int .u8 0, .int .u8 0, .int .u8 0, .int .u8 0, .int .u8 0, .int .u8 0, .int .u8 0, .int .u8 0, .int .u8 0, .int .u8 0, .int .u8 0, .int .u8 0, .int .u8 0, .int .u8 0, .int .u8 0, .int .u8 0, .int .u8 0, .int .u8 0, .int .u8 0, .int .u8 0, .int .u8 0], eq := false }) (.node 213 ({ d := .func, sz := 1, bytes := 8, zero := [.nilF], eq := false }) (.node 211 ({ d := .func, sz := 1, bytes := 8, zero := [.nilF], eq := false }) (.node 210 ({ d := .struct [(0, 9), (1, 9), (2, 108)], sz := 3, bytes := 48, zero := [.str [], .str [], .nilI], eq := false }) .leaf .leaf) (.node 212 ({ d := .ptr 202, sz := 1, bytes := 8, zero := [.nilP], eq := false }) .leaf .leaf)) (.node 215 ({ d := .func, sz := 1, bytes := 8, zero := [.nilF], eq := false }) (.node 214 ({ d := .func, sz := 1, bytes := 8, zero := [.nilF], eq := false }) .leaf .leaf) .leaf)) (.node 219 ({ d := .struct [(0, 9)], sz := 1, bytes := 16, zero := [.str []], eq := true }) (.node 218 ({ d := .ptr 220, sz := 1, bytes := 8, zero := [.nilP], eq := false }) (.node 217 ({ d := .array 64 5, sz := 64, bytes := 64, zero := [.int .u8 0, .int .u8 0, .int .u8 0, .int .u8 0, .int .u8 0, .int .u8 0, .int .u8 0, .int .u8 0, .int .u8 0, .int .u8 0, .int .u8 0, .int .u8 0, .int .u8 0, .int .u8 0, .int .u8 0, .int .u8 0, .int .u8 0, .int .u8 0, .int .u8 0, .int .u8 0, .int .u8 0, .int .u8 0, .int .u8 0, .int .u8 0, .int .u8 0, .int .u8 0, .int .u8 0, .int .u8 0, .int .u8 0, .int .u8 0, .int .u8 0, .int .u8 0, .int .u8 0, .int .u8 0, .int .u8 0, .int .u8 0, .int .u8 0, .int .u8 0, .int .u8 0, .int .u8 0, .int .u8 0, .int .u8 0, .int .u8 0, .int .u8 0, .int .u8 0, .int .u8 0, .int .u8 0, .int .u8 0, .int .u8 0, .int .u8 0, .int .u8 0, .int .u8 0, .int .u8 0, .int .u8 0, .int .u8 0, .int .u8 0, .int .u8 0, .int .u8 0, .int .u8 0, .int .u8 0, .int .u8 0, .int .u8 0, .int .u8 0, .int .u8 0], eq := false }) .leaf .leaf) .leaf) (.node 222 ({ d := .ptr 37, sz := 1, bytes := 8, zero := [.nilP], eq := false }) (.node 220 ({ d := .struct [(0, 9)], sz := 1, bytes := 16, zero := [.str []], eq := true }) .leaf .leaf) .leaf))) (.node 239 ({ d := .int .i32, sz := 1, bytes := 4, zero := [.int .i32 0], eq := false }) (.node 236 ({ d := .int .u8, sz := 1, bytes := 1, zero := [.int .u8 0], eq := false }) (.node 233 ({ d := .struct [(0, 232)], sz := 0, bytes := 0, zero := [], eq := false }) (.node 232 ({ d := .array 0 16, sz := 0, bytes := 0, zero := [], eq := false }) .leaf .leaf) (.node 235 ({ d := .func, sz := 1, bytes := 8, zero := [.nilF], eq := false }) .leaf .leaf)) (.node 238 ({ d := .func, sz := 1, bytes := 8, zero := [.nilF], eq := false }) (.node 237 ({ d := .int .u8, sz := 1, bytes := 1, zero := [.int .u8 0], eq := false }) .leaf .leaf) .leaf)) (.node 242 ({ d := .struct [(0, 12), (1, 12), (2, 193), (3, 236), (4, 5), (5, 5), (6, 237), (7, 238), (8, 138), (9, 239), (10, 240)], sz := 11, bytes := 48, zero := [.int .u64 0, .int .u64 0, .int .u32 0, .int .u8 0, .int .u8 0, .int .u8 0, .int .u8 0, .nilF, .nilP, .int .i32 0, .int .i32 0], eq := false }) (.node 241 ({ d := .struct [(0, 12), (1, 12), (2, 193), (3, 236), (4, 5), (5, 5), (6, 237), (7, 238), (8, 138), (9, 239), (10, 240)], sz := 11, bytes := 48, zero := [.int .u64 0, .int .u64 0, .int .u32 0, .int .u8 0, .int .u8 0, .int .u8 0, .int .u8 0, .nilF, .nilP, .int .i32 0, .int .i32 0], eq := false }) (.node 240 ({ d := .int .i32, sz := 1, bytes := 4, zero := [.int .i32 0], eq := false }) .leaf .leaf) .leaf) (.node 244 ({ d := .struct [(0, 3), (1, 37)], sz := 5, bytes := 64, zero := [.int .i64 0, .int .i64 0, .int .i64 0, .str [], .nilS], eq := false }) (.node 243 ({ d := .struct [(0, 3), (1, 37)], sz := 5, bytes := 64, zero := [.int .i64 0, .int .i64 0, .int .i64 0, .str [], .nilS], eq := false }) .leaf .leaf) .leaf))))))
def qh2 : BT CMode := .node 130 (.pfrz) (.node 64 (.scal) (.node 30 (.pfrz) (.node 22 (.pfrz) (.node 19 (.pfrz) (.node 16 (.scal) (.node 6 (.scal) .leaf .leaf) (.node 18 (.scal) .leaf .leaf)) (.node 21 (.pfrz) (.node 20 (.pfrz) .leaf .leaf) .leaf)) (.node 26 (.pfrz) (.node 24 (.pfrz) (.node 23 (.pfrz) .leaf .leaf) (.node 25 (.pfrz) .leaf .leaf)) (.node 29 (.scal) (.node 27 (.scal) .leaf .leaf) .leaf))) (.node 50 (.sub) (.node 45 (.pfrz) (.node 40 (.pfrz) (.node 31 (.pfrz) .leaf .leaf) (.node 44 (.scal) .leaf .leaf)) (.node 48 (.pfrz) (.node 46 (.sub) .leaf .leaf) .leaf)) (.node 54 (.sub) (.node 52 (.pfrz) (.node 51 (.sub) .leaf .leaf) (.node 53 (.scal) .leaf .leaf)) (.node 59 (.scal) (.node 56 (.scal) .leaf .leaf) .leaf)))) (.node 100 (.scal) (.node 92 (.sub) (.node 88 (.scal) (.node 66 (.bld) (.node 65 (.bld) .leaf .leaf) (.node 68 (.bld) .leaf .leaf)) (.node 91 (.sub) (.node 90 (.pfrz) .leaf .leaf) .leaf)) (.node 97 (.sub) (.node 95 (.sub) (.node 94 (.pown) .leaf .leaf) (.node 96 (.sub) .leaf .leaf)) (.node 99 (.slf) (.node 98 (.sub) .leaf .leaf) .leaf))) (.node 111 (.scal) (.node 104 (.scal) (.node 102 (.sub) (.node 101 (.scal) .leaf .leaf) (.node 103 (.sub) .leaf .leaf)) (.node 110 (.scal) (.node 109 (.scal) .leaf .leaf) .leaf)) (.node 115 (.bld) (.node 113 (.bld) (.node 112 (.scal) .leaf .leaf) (.node 114 (.bld) .leaf .leaf)) (.node 123 (.scal) (.node 116 (.bld) .leaf .leaf) .leaf))))) (.node 174 (.scal) (.node 150 (.scal) (.node 138 (.pfrz) (.node 135 (.sub) (.node 132 (.scal) (.node 131 (.sub) .leaf .leaf) (.node 134 (.scal) .leaf .leaf)) (.node 137 (.pown) (.node 136 (.pfrz) .leaf .leaf) .leaf)) (.node 142 (.scal) (.node 140 (.scal) (.node 139 (.scal) .leaf .leaf) (.node 141 (.pfrz) .leaf .leaf)) (.node 144 (.scal) (.node 143 (.scal) .leaf .leaf) .leaf))) (.node 167 (.scal) (.node 163 (.scal) (.node 152 (.scal) (.node 151 (.scal) .leaf .leaf) (.node 157 (.scal) .leaf .leaf)) (.node 165 (.pfrz) (.node 164 (.pfrz) .leaf .leaf) .leaf)) (.node 171 (.scal) (.node 169 (.scal) (.node 168 (.inpf) .leaf .leaf) (.node 170 (.scal) .leaf .leaf)) (.node 173 (.scal) (.node 172 (.scal) .leaf .leaf) .leaf)))) (.node 204 (.inpf) (.node 194 (.scal) (.node 191 (.inpf) (.node 179 (.scal) (.node 176 (.scal) .leaf .leaf) (.node 190 (.inpf) .leaf .leaf)) (.node 193 (.scal) (.node 192 (.scal) .leaf .leaf) .leaf)) (.node 201 (.inpf) (.node 199 (.pfrz) (.node 195 (.scal) .leaf .leaf) (.node 200 (.inpl) .leaf .leaf)) (.node 203 (.inpf) (.node 202 (.inpl) .leaf .leaf) .leaf))) (.node 212 (.scal) (.node 209 (.scal) (.node 206 (.inpf) (.node 205 (.scal) .leaf .leaf) (.node 207 (.pfrz) .leaf .leaf)) (.node 211 (.scal) (.node 210 (.scal) .leaf .leaf) .leaf)) (.node 217 (.scal) (.node 215 (.scal) (.node 213 (.inpf) .leaf .leaf) (.node 216 (.scal) .leaf .leaf)) (.node 219 (.scal) (.node 218 (.scal) .leaf .leaf) .leaf)))))
def qir : BT (BT (List Nat)) := .node 20 (.node 1 ([3, 7, 9, 11]) .leaf .leaf) (.node 18 (.node 6 ([4]) .leaf .leaf) (.node 6 (.node 4 ([4, 6]) (.node 3 ([4, 6]) (.node 2 ([4]) .leaf .leaf) .leaf) (.node 6 ([3]) (.node 5 ([2]) .leaf .leaf) .leaf)) .leaf .leaf) .leaf) (.node 96 (.node 21 ([3]) .leaf .leaf) (.node 47 (.node 1 ([1]) .leaf .leaf) .leaf .leaf) .leaf)
noncomputable def qdW {α : Type} (a b : Nat) (t : BT (BT α)) : Option α := match t.look a with | some u => u.look b | none => none
noncomputable def qh8 (f r k : Nat) : Bool := match qdW f r qir with | some l => qT k l | none => false
def qh3 : BT (BT (List Tmp × List Tmp)) := .node 131 (.node 16 ([3, 69, 70, 71], []) .leaf .leaf) (.node 90 (.node 3 ([3, 6, 7, 8], [3]) .leaf .leaf) (.node 47 (.node 3 ([3, 8, 9], [3]) .leaf .leaf) (.node 27 (.node 4 ([0, 1, 5], [4]) .leaf .leaf) (.node 21 (.node 6 ([0, 6, 10, 11, 12], [6, 7, 8, 9, 11]) .leaf .leaf) (.node 19 (.node 6 ([6, 19, 20, 21], [6]) .leaf .leaf) .leaf .leaf) .leaf) (.node 46 (.node 11 ([0, 4, 7, 37, 38, 39], [0, 4, 7]) (.node 4 ([0, 3, 4, 20, 21, 22], [0, 3, 4]) .leaf .leaf) .leaf) (.node 45 (.node 5 ([4, 16, 17, 18], [4]) .leaf .leaf) .leaf .leaf) .leaf)) (.node 65 (.node 19 ([0, 76, 77, 78], [0]) .leaf .leaf) (.node 64 (.node 4 ([2, 3], [2, 3]) .leaf .leaf) (.node 48 (.node 3 ([0, 2, 3, 4], [2, 3]) .leaf .leaf) .leaf .leaf) .leaf) (.node 89 (.node 7 ([2, 3, 4], [2, 3, 4, 5]) .leaf .leaf) (.node 88 (.node 4 ([0, 1, 5], [4]) .leaf .leaf) .leaf .leaf) .leaf))) (.node 104 (.node 2 ([0, 1, 7, 8], [4]) .leaf .leaf) (.node 96 (.node 15 ([0, 7, 48], [0, 7]) .leaf .leaf) (.node 95 (.node 15 ([2], []) .leaf .leaf) (.node 93 (.node 1 ([0, 1, 6, 7], []) .leaf .leaf) .leaf .leaf) .leaf) (.node 102 (.node 1 ([0, 6, 7, 8], []) .leaf .leaf) (.node 99 (.node 6 ([1, 2, 3, 4, 18, 19, 20], [2, 3, 4]) .leaf .leaf) .leaf .leaf) .leaf)) (.node 115 (.node 3 ([0, 3, 4], [0]) .leaf .leaf) (.node 114 (.node 1 ([0, 6, 7, 8], []) .leaf .leaf) (.node 112 (.node 4 ([3, 8, 9, 10], [3]) .leaf .leaf) .leaf .leaf) .leaf) (.node 130 (.node 14 ([2, 4, 5, 73, 74, 77, 78, 79], [2, 3, 4, 5, 73, 74]) (.node 11 ([2, 4, 5, 73, 74], [2, 3, 4]) .leaf .leaf) .leaf) .leaf .leaf)))) (.node 166 (.node 1 ([0, 1, 3], []) .leaf .leaf) (.node 147 (.node 1 ([0, 1, 4], [0, 1, 4]) .leaf .leaf) (.node 138 (.node 4 ([0, 1, 2, 6, 24, 25, 26], [0, 1, 2, 6, 7]) .leaf .leaf) (.node 136 (.node 3 ([3], [3, 4]) .leaf .leaf) (.node 134 (.node 9 ([5, 6, 70, 71], [5]) (.node 2 ([5], [4]) .leaf .leaf) .leaf) .leaf .leaf) .leaf) (.node 144 (.node 15 ([0, 1, 5, 6, 7, 8, 9, 10], [4]) .leaf .leaf) (.node 143 (.node 5 ([4, 32, 33, 34], [2, 3, 4]) .leaf .leaf) .leaf .leaf) .leaf)) (.node 162 (.node 0 ([0, 1, 2], [1, 2]) .leaf .leaf) (.node 149 (.node 7 ([3], [0, 3]) (.node 1 ([0, 3], []) .leaf .leaf) .leaf) (.node 148 (.node 18 ([0, 1, 3, 4, 10, 11, 12, 13, 17], [0, 1, 3, 4, 10, 11, 12, 13]) (.node 11 ([0, 1, 3, 4, 10, 11, 12, 13, 14, 15, 16], [0, 1, 3, 4, 10, 11, 12, 13]) .leaf .leaf) .leaf) .leaf .leaf) .leaf) (.node 165 (.node 5 ([4], [4, 5]) .leaf .leaf) (.node 164 (.node 11 ([3, 7, 29], [7]) (.node 6 ([3], [3]) .leaf .leaf) .leaf) .leaf .leaf) .leaf))) (.node 204 (.node 4 ([7], [0, 5, 6, 7]) .leaf .leaf) (.node 192 (.node 2 ([0, 1, 7, 8], [4]) .leaf .leaf) (.node 174 (.node 11 ([0, 1, 5, 6, 7, 8, 10], [4]) (.node 5 ([0, 1, 5, 6, 7, 8, 9], [0, 1, 5, 6, 7, 8]) .leaf .leaf) .leaf) (.node 169 (.node 2 ([0, 1, 7, 8], [4]) .leaf .leaf) .leaf .leaf) .leaf) (.node 198 (.node 1 ([0, 3], []) .leaf .leaf) (.node 193 (.node 8 ([4, 6, 7, 8], [4, 6]) (.node 3 ([0, 4, 5], [0, 4]) .leaf .leaf) .leaf) .leaf .leaf) .leaf)) (.node 214 (.node 0 ([0, 1], []) .leaf .leaf) (.node 211 (.node 3 ([3, 6, 7, 8], [2, 3]) .leaf .leaf) (.node 205 (.node 1 ([2, 3], [4]) .leaf .leaf) .leaf .leaf) .leaf) (.node 217 (.node 2 ([0, 1, 2, 11, 12, 13], [0, 1, 6]) .leaf .leaf) .leaf .leaf))))
def qix : BT (BT (List Tmp)) := .leaf
def qh4 : BT (BT (List (Tmp × Nat))) := .node 137 (.node 0 ([(2, 4)]) .leaf .leaf) (.node 94 (.node 0 ([(2, 7)]) .leaf .leaf) (.node 90 (.node 3 ([(3, 4)]) .leaf .leaf) (.node 89 (.node 7 ([(2, 6), (4, 6)]) .leaf .leaf) .leaf .leaf) .leaf) (.node 134 (.node 9 ([(5, 8)]) (.node 2 ([(5, 8)]) .leaf .leaf) .leaf) (.node 96 (.node 15 ([(7, 4)]) .leaf .leaf) .leaf .leaf) .leaf)) (.node 164 (.node 11 ([(7, 1)]) .leaf .leaf) (.node 149 (.node 7 ([(3, 4)]) (.node 1 ([(3, 4)]) .leaf .leaf) .leaf) (.node 148 (.node 18 ([(10, 1)]) (.node 11 ([(10, 1)]) .leaf .leaf) .leaf) .leaf .leaf) .leaf) (.node 198 (.node 1 ([(3, 4)]) .leaf .leaf) (.node 165 (.node 5 ([(4, 4)]) .leaf .leaf) .leaf .leaf) .leaf))
def yR (f : Nat) : List (Nat × (List AV → AH → Option (AV × AH))) → Option (List AV → AH → Option (AV × AH))
 | [] => none
 | p :: l => if qiY p.1 f then some p.2 else yR f l
def xB : BT TypeId := .node 104 (5) (.node 102 (5) .leaf .leaf) .leaf
noncomputable def qfU : List (Nat × (List AV → AH → Option (AV × AH))) := []
noncomputable def zY : List (Nat × (List AV → AH → Option (AV × AH))) := (29, qdh) :: (59, zG) :: (66, (qa2 xB.look)) :: (68, (yg xB.look)) :: (113, (zh xB.look)) :: (219, qcJ) :: qfU
theorem qcI : qfU = [] := rfl
def qhE : BT Unit := .node 135 (()) (.node 90 (()) (.node 45 (()) (.node 24 (()) (.node 20 (()) (.node 18 (()) (.node 16 (()) (.node 6 (()) .leaf .leaf) .leaf) (.node 19 (()) .leaf .leaf)) (.node 22 (()) (.node 21 (()) .leaf .leaf) (.node 23 (()) .leaf .leaf))) (.node 30 (()) (.node 26 (()) (.node 25 (()) .leaf .leaf) (.node 27 (()) .leaf .leaf)) (.node 40 (()) (.node 31 (()) .leaf .leaf) (.node 44 (()) .leaf .leaf)))) (.node 53 (()) (.node 49 (()) (.node 47 (()) (.node 46 (()) .leaf .leaf) (.node 48 (()) .leaf .leaf)) (.node 51 (()) (.node 50 (()) .leaf .leaf) (.node 52 (()) .leaf .leaf))) (.node 64 (()) (.node 56 (()) (.node 54 (()) .leaf .leaf) (.node 63 (()) .leaf .leaf)) (.node 88 (()) (.node 65 (()) .leaf .leaf) (.node 89 (()) .leaf .leaf))))) (.node 107 (()) (.node 98 (()) (.node 94 (()) (.node 92 (()) (.node 91 (()) .leaf .leaf) (.node 93 (()) .leaf .leaf)) (.node 96 (()) (.node 95 (()) .leaf .leaf) (.node 97 (()) .leaf .leaf))) (.node 102 (()) (.node 100 (()) (.node 99 (()) .leaf .leaf) (.node 101 (()) .leaf .leaf)) (.node 104 (()) (.node 103 (()) .leaf .leaf) (.node 105 (()) .leaf .leaf)))) (.node 116 (()) (.node 111 (()) (.node 109 (()) (.node 108 (()) .leaf .leaf) (.node 110 (()) .leaf .leaf)) (.node 114 (()) (.node 112 (()) .leaf .leaf) (.node 115 (()) .leaf .leaf))) (.node 131 (()) (.node 129 (()) (.node 123 (()) .leaf .leaf) (.node 130 (()) .leaf .leaf)) (.node 133 (()) (.node 132 (()) .leaf .leaf) (.node 134 (()) .leaf .leaf)))))) (.node 178 (()) (.node 152 (()) (.node 144 (()) (.node 140 (()) (.node 138 (()) (.node 137 (()) (.node 136 (()) .leaf .leaf) .leaf) (.node 139 (()) .leaf .leaf)) (.node 142 (()) (.node 141 (()) .leaf .leaf) (.node 143 (()) .leaf .leaf))) (.node 148 (()) (.node 146 (()) (.node 145 (()) .leaf .leaf) (.node 147 (()) .leaf .leaf)) (.node 150 (()) (.node 149 (()) .leaf .leaf) (.node 151 (()) .leaf .leaf)))) (.node 169 (()) (.node 165 (()) (.node 163 (()) (.node 162 (()) .leaf .leaf) (.node 164 (()) .leaf .leaf)) (.node 167 (()) (.node 166 (()) .leaf .leaf) (.node 168 (()) .leaf .leaf))) (.node 174 (()) (.node 171 (()) (.node 170 (()) .leaf .leaf) (.node 173 (()) .leaf .leaf)) (.node 176 (()) (.node 175 (()) .leaf .leaf) (.node 177 (()) .leaf .leaf))))) (.node 203 (()) (.node 193 (()) (.node 189 (()) (.node 187 (()) (.node 179 (()) .leaf .leaf) (.node 188 (()) .leaf .leaf)) (.node 191 (()) (.node 190 (()) .leaf .leaf) (.node 192 (()) .leaf .leaf))) (.node 199 (()) (.node 195 (()) (.node 194 (()) .leaf .leaf) (.node 198 (()) .leaf .leaf)) (.node 201 (()) (.node 200 (()) .leaf .leaf) (.node 202 (()) .leaf .leaf)))) (.node 211 (()) (.node 207 (()) (.node 205 (()) (.node 204 (()) .leaf .leaf) (.node 206 (()) .leaf .leaf)) (.node 209 (()) (.node 208 (()) .leaf .leaf) (.node 210 (()) .leaf .leaf))) (.node 215 (()) (.node 213 (()) (.node 212 (()) .leaf .leaf) (.node 214 (()) .leaf .leaf)) (.node 217 (()) (.node 216 (()) .leaf .leaf) (.node 218 (()) .leaf .leaf))))))
def qiw : BT Unit := .leaf
def qiy : BT Unit := .leaf
def qij : BT Unit := .leaf
def qiv : BT Unit := .leaf
def qim : BT (List Nat) := .node 142 ([141, 108]) (.node 73 ([72, 24]) (.node 44 ([43, 24]) (.node 32 ([22, 31]) (.node 25 ([9, 24]) .leaf .leaf) .leaf) (.node 47 ([37, 4, 3, 24]) .leaf .leaf)) (.node 113 ([5, 4]) (.node 109 ([3, 108]) .leaf .leaf) (.node 124 ([3, 4]) .leaf .leaf))) (.node 165 ([92, 9]) (.node 153 ([37, 4]) (.node 147 ([79, 4]) .leaf .leaf) (.node 156 ([37, 24]) .leaf .leaf)) (.node 206 ([193, 193]) (.node 173 ([35, 4]) .leaf .leaf) (.node 228 ([141, 141]) .leaf .leaf)))
noncomputable def qg8 : List (Nat × Func) := [(108, Tryz.f108), (133, Tryz.f133), (149, Tryz.f149), (166, Tryz.f166)]
noncomputable def qgq : BT Func := .node 133 (Tryz.f133) (.node 68 (Tryz.f68) (.node 44 (Tryz.f44) (.node 24 (Tryz.f24) (.node 20 (Tryz.f20) (.node 18 (Tryz.f18) (.node 16 (Tryz.f16) (.node 6 (Tryz.f6) .leaf .leaf) .leaf) (.node 19 (Tryz.f19) .leaf .leaf)) (.node 22 (Tryz.f22) (.node 21 (Tryz.f21) .leaf .leaf) (.node 23 (Tryz.f23) .leaf .leaf))) (.node 29 (Tryz.f29) (.node 26 (Tryz.f26) (.node 25 (Tryz.f25) .leaf .leaf) (.node 27 (Tryz.f27) .leaf .leaf)) (.node 31 (Tryz.f31) (.node 30 (Tryz.f30) .leaf .leaf) (.node 40 (Tryz.f40) .leaf .leaf)))) (.node 53 (Tryz.f53) (.node 49 (Tryz.f49) (.node 47 (Tryz.f47) (.node 46 (Tryz.f46) (.node 45 (Tryz.f45) .leaf .leaf) .leaf) (.node 48 (Tryz.f48) .leaf .leaf)) (.node 51 (Tryz.f51) (.node 50 (Tryz.f50) .leaf .leaf) (.node 52 (Tryz.f52) .leaf .leaf))) (.node 63 (Tryz.f63) (.node 56 (Tryz.f56) (.node 54 (Tryz.f54) .leaf .leaf) (.node 59 (Tryz.f59) .leaf .leaf)) (.node 65 (Tryz.f65) (.node 64 (Tryz.f64) .leaf .leaf) (.node 66 (Tryz.f66) .leaf .leaf))))) (.node 104 (Tryz.f104) (.node 96 (Tryz.f96) (.node 92 (Tryz.f92) (.node 90 (Tryz.f90) (.node 89 (Tryz.f89) (.node 88 (Tryz.f88) .leaf .leaf) .leaf) (.node 91 (Tryz.f91) .leaf .leaf)) (.node 94 (Tryz.f94) (.node 93 (Tryz.f93) .leaf .leaf) (.node 95 (Tryz.f95) .leaf .leaf))) (.node 100 (Tryz.f100) (.node 98 (Tryz.f98) (.node 97 (Tryz.f97) .leaf .leaf) (.node 99 (Tryz.f99) .leaf .leaf)) (.node 102 (Tryz.f102) (.node 101 (Tryz.f101) .leaf .leaf) (.node 103 (Tryz.f103) .leaf .leaf)))) (.node 114 (Tryz.f114) (.node 110 (Tryz.f110) (.node 108 (Tryz.f108) (.node 107 (Tryz.f107) (.node 105 (Tryz.f105) .leaf .leaf) .leaf) (.node 109 (Tryz.f109) .leaf .leaf)) (.node 112 (Tryz.f112) (.node 111 (Tryz.f111) .leaf .leaf) (.node 113 (Tryz.f113) .leaf .leaf))) (.node 129 (Tryz.f129) (.node 116 (Tryz.f116) (.node 115 (Tryz.f115) .leaf .leaf) (.node 123 (Tryz.f123) .leaf .leaf)) (.node 131 (Tryz.f131) (.node 130 (Tryz.f130) .leaf .leaf) (.node 132 (Tryz.f132) .leaf .leaf)))))) (.node 177 (Tryz.f177) (.node 150 (Tryz.f150) (.node 142 (Tryz.f142) (.node 138 (Tryz.f138) (.node 136 (Tryz.f136) (.node 135 (Tryz.f135) (.node 134 (Tryz.f134) .leaf .leaf) .leaf) (.node 137 (Tryz.f137) .leaf .leaf)) (.node 140 (Tryz.f140) (.node 139 (Tryz.f139) .leaf .leaf) (.node 141 (Tryz.f141) .leaf .leaf))) (.node 146 (Tryz.f146) (.node 144 (Tryz.f144) (.node 143 (Tryz.f143) .leaf .leaf) (.node 145 (Tryz.f145) .leaf .leaf)) (.node 148 (Tryz.f148) (.node 147 (Tryz.f147) .leaf .leaf) (.node 149 (Tryz.f149) .leaf .leaf)))) (.node 168 (Tryz.f168) (.node 164 (Tryz.f164) (.node 162 (Tryz.f162) (.node 152 (Tryz.f152) (.node 151 (Tryz.f151) .leaf .leaf) .leaf) (.node 163 (Tryz.f163) .leaf .leaf)) (.node 166 (Tryz.f166) (.node 165 (Tryz.f165) .leaf .leaf) (.node 167 (Tryz.f167) .leaf .leaf))) (.node 173 (Tryz.f173) (.node 170 (Tryz.f170) (.node 169 (Tryz.f169) .leaf .leaf) (.node 171 (Tryz.f171) .leaf .leaf)) (.node 175 (Tryz.f175) (.node 174 (Tryz.f174) .leaf .leaf) (.node 176 (Tryz.f176) .leaf .leaf))))) (.node 203 (Tryz.f203) (.node 193 (Tryz.f193) (.node 189 (Tryz.f189) (.node 187 (Tryz.f187) (.node 179 (Tryz.f179) (.node 178 (Tryz.f178) .leaf .leaf) .leaf) (.node 188 (Tryz.f188) .leaf .leaf)) (.node 191 (Tryz.f191) (.node 190 (Tryz.f190) .leaf .leaf) (.node 192 (Tryz.f192) .leaf .leaf))) (.node 199 (Tryz.f199) (.node 195 (Tryz.f195) (.node 194 (Tryz.f194) .leaf .leaf) (.node 198 (Tryz.f198) .leaf .leaf)) (.node 201 (Tryz.f201) (.node 200 (Tryz.f200) .leaf .leaf) (.node 202 (Tryz.f202) .leaf .leaf)))) (.node 211 (Tryz.f211) (.node 207 (Tryz.f207) (.node 205 (Tryz.f205) (.node 204 (Tryz.f204) .leaf .leaf) (.node 206 (Tryz.f206) .leaf .leaf)) (.node 209 (Tryz.f209) (.node 208 (Tryz.f208) .leaf .leaf) (.node 210 (Tryz.f210) .leaf .leaf))) (.node 215 (Tryz.f215) (.node 213 (Tryz.f213) (.node 212 (Tryz.f212) .leaf .leaf) (.node 214 (Tryz.f214) .leaf .leaf)) (.node 217 (Tryz.f217) (.node 216 (Tryz.f216) .leaf .leaf) (.node 218 (Tryz.f218) .leaf .leaf))))))
theorem qhV : qgq.All fun f fn => Tryz.prog.funcs[f]? = some fn := (BT.all_node Tryz.func133 (BT.all_node Tryz.func68 (BT.all_node Tryz.func44 (BT.all_node Tryz.func24 (BT.all_node Tryz.func20 (BT.all_node Tryz.func18 (BT.all_node Tryz.func16 (BT.all_node Tryz.func6 trivial trivial) trivial) (BT.all_node Tryz.func19 trivial trivial)) (BT.all_node Tryz.func22 (BT.all_node Tryz.func21 trivial trivial) (BT.all_node Tryz.func23 trivial trivial))) (BT.all_node Tryz.func29 (BT.all_node Tryz.func26 (BT.all_node Tryz.func25 trivial trivial) (BT.all_node Tryz.func27 trivial trivial)) (BT.all_node Tryz.func31 (BT.all_node Tryz.func30 trivial trivial) (BT.all_node Tryz.func40 trivial trivial)))) (BT.all_node Tryz.func53 (BT.all_node Tryz.func49 (BT.all_node Tryz.func47 (BT.all_node Tryz.func46 (BT.all_node Tryz.func45 trivial trivial) trivial) (BT.all_node Tryz.func48 trivial trivial)) (BT.all_node Tryz.func51 (BT.all_node Tryz.func50 trivial trivial) (BT.all_node Tryz.func52 trivial trivial))) (BT.all_node Tryz.func63 (BT.all_node Tryz.func56 (BT.all_node Tryz.func54 trivial trivial) (BT.all_node Tryz.func59 trivial trivial)) (BT.all_node Tryz.func65 (BT.all_node Tryz.func64 trivial trivial) (BT.all_node Tryz.func66 trivial trivial))))) (BT.all_node Tryz.func104 (BT.all_node Tryz.func96 (BT.all_node Tryz.func92 (BT.all_node Tryz.func90 (BT.all_node Tryz.func89 (BT.all_node Tryz.func88 trivial trivial) trivial) (BT.all_node Tryz.func91 trivial trivial)) (BT.all_node Tryz.func94 (BT.all_node Tryz.func93 trivial trivial) (BT.all_node Tryz.func95 trivial trivial))) (BT.all_node Tryz.func100 (BT.all_node Tryz.func98 (BT.all_node Tryz.func97 trivial trivial) (BT.all_node Tryz.func99 trivial trivial)) (BT.all_node Tryz.func102 (BT.all_node Tryz.func101 trivial trivial) (BT.all_node Tryz.func103 trivial trivial)))) (BT.all_node Tryz.func114 (BT.all_node Tryz.func110 (BT.all_node Tryz.func108 (BT.all_node Tryz.func107 (BT.all_node Tryz.func105 trivial trivial) trivial) (BT.all_node Tryz.func109 trivial trivial)) (BT.all_node Tryz.func112 (BT.all_node Tryz.func111 trivial trivial) (BT.all_node Tryz.func113 trivial trivial))) (BT.all_node Tryz.func129 (BT.all_node Tryz.func116 (BT.all_node Tryz.func115 trivial trivial) (BT.all_node Tryz.func123 trivial trivial)) (BT.all_node Tryz.func131 (BT.all_node Tryz.func130 trivial trivial) (BT.all_node Tryz.func132 trivial trivial)))))) (BT.all_node Tryz.func177 (BT.all_node Tryz.func150 (BT.all_node Tryz.func142 (BT.all_node Tryz.func138 (BT.all_node Tryz.func136 (BT.all_node Tryz.func135 (BT.all_node Tryz.func134 trivial trivial) trivial) (BT.all_node Tryz.func137 trivial trivial)) (BT.all_node Tryz.func140 (BT.all_node Tryz.func139 trivial trivial) (BT.all_node Tryz.func141 trivial trivial))) (BT.all_node Tryz.func146 (BT.all_node Tryz.func144 (BT.all_node Tryz.func143 trivial trivial) (BT.all_node Tryz.func145 trivial trivial)) (BT.all_node Tryz.func148 (BT.all_node Tryz.func147 trivial trivial) (BT.all_node Tryz.func149 trivial trivial)))) (BT.all_node Tryz.func168 (BT.all_node Tryz.func164 (BT.all_node Tryz.func162 (BT.all_node Tryz.func152 (BT.all_node Tryz.func151 trivial trivial) trivial) (BT.all_node Tryz.func163 trivial trivial)) (BT.all_node Tryz.func166 (BT.all_node Tryz.func165 trivial trivial) (BT.all_node Tryz.func167 trivial trivial))) (BT.all_node Tryz.func173 (BT.all_node Tryz.func170 (BT.all_node Tryz.func169 trivial trivial) (BT.all_node Tryz.func171 trivial trivial)) (BT.all_node Tryz.func175 (BT.all_node Tryz.func174 trivial trivial) (BT.all_node Tryz.func176 trivial trivial))))) (BT.all_node Tryz.func203 (BT.all_node Tryz.func193 (BT.all_node Tryz.func189 (BT.all_node Tryz.func187 (BT.all_node Tryz.func179 (BT.all_node Tryz.func178 trivial trivial) trivial) (BT.all_node Tryz.func188 trivial trivial)) (BT.all_node Tryz.func191 (BT.all_node Tryz.func190 trivial trivial) (BT.all_node Tryz.func192 trivial trivial))) (BT.all_node Tryz.func199 (BT.all_node Tryz.func195 (BT.all_node Tryz.func194 trivial trivial) (BT.all_node Tryz.func198 trivial trivial)) (BT.all_node Tryz.func201 (BT.all_node Tryz.func200 trivial trivial) (BT.all_node Tryz.func202 trivial trivial)))) (BT.all_node Tryz.func211 (BT.all_node Tryz.func207 (BT.all_node Tryz.func205 (BT.all_node Tryz.func204 trivial trivial) (BT.all_node Tryz.func206 trivial trivial)) (BT.all_node Tryz.func209 (BT.all_node Tryz.func208 trivial trivial) (BT.all_node Tryz.func210 trivial trivial))) (BT.all_node Tryz.func215 (BT.all_node Tryz.func213 (BT.all_node Tryz.func212 trivial trivial) (BT.all_node Tryz.func214 trivial trivial)) (BT.all_node Tryz.func217 (BT.all_node Tryz.func216 trivial trivial) (BT.all_node Tryz.func218 trivial trivial)))))))
noncomputable def cfg : Cfg := { P := Tryz.prog, ty := fun t => qf0.look t, mode := fun f => match qh2.look f with | some m => m | none => .imp, frz := fun f r k => qh8 f r k, mask := fun f r => qdW f r qh3, cut := fun f r => qdW f r qix, tup := fun t => qim.look t, ext := fun f => yR f zY, known := fun f => (qhE.look f).isSome, dat := fun t => (qiw.look t).isSome, inl := fun f => qbk f qg8, lift := fun f r => match qdW f r qh4 with | some l => l | none => [], ems := fun t => (qiv.look t).isSome, ali := fun t => (qiy.look t).isSome, wrt := fun t => (qij.look t).isSome, bld := fun t => xB.look t }
theorem qiI {fs : List Fact} (hfs : qB cfg fs) {f : Nat} {args : List AV} {v : AV} (m d : Nat) (h : (match yF cfg (fun f => qgq.look f) fs m d (.f f) args [] with | some r => some r.1 | none => none) = some v) : EVs (EV cfg) f args = some v := qit (fun _ _ h => BT.all_look qhV h) hfs m d h
theorem qbm {fs : List Fact} (hfs : qB cfg fs) {f : Nat} {args : List AV} {v : AV} (m d : Nat) (h : (match yF cfg (fun f => qgq.look f) fs m d (.f f) args [] with | some r => gA (r.1.frz r.1.msIds r.2).fg some | none => none) = some v) : EVf (EV cfg) f args = some v := qiu (fun _ _ h => BT.all_look qhV h) hfs m d h
instance inl_ok : InlOk cfg := InlOk.of qg8 (fun _ => rfl) ⟨⟨rfl, rfl, Tryz.func108, rfl⟩, ⟨⟨rfl, rfl, Tryz.func133, rfl⟩, ⟨⟨rfl, rfl, Tryz.func149, rfl⟩, ⟨⟨rfl, rfl, Tryz.func166, rfl⟩, trivial⟩⟩⟩⟩
end Go.Proofs.YtnjonahoheopnaaGreatDoor
end
section
namespace Go.Av
def cmpS (a b : List UInt8) : Int := if a == b then 0 else if Op.bytesLess a b then -1 else 1
theorem zu : ∀ a b : List UInt8, Lib.compareBytes a b = cmpS a b
 | [], [] => rfl
 | [], _ :: _ => by simp [Lib.compareBytes, cmpS, Op.bytesLess]
 | _ :: _, [] => by simp [Lib.compareBytes, cmpS, Op.bytesLess]
 | a :: l, b :: m => by
  rw [Lib.compareBytes, zu l m]
  unfold cmpS
  by_cases h : a = b
  ·subst h
   have : ¬ a < a := by simp
   by_cases h2 : l = m
   ·subst h2; simp
   ·simp [Op.bytesLess, h2]
  ·have h' : (a :: l == b :: m) = false := by simp [h]
   rw [h']
   simp only [qiW, if_false, Op.bytesLess]
   by_cases hlt : a < b
   ·simp [hlt]
   ·have : b < a := by
     have h1 : ¬ a.toNat < b.toNat := hlt
     have h2 : a.toNat ≠ b.toNat := fun e => h (UInt8.toNat.inj e)
     show b.toNat < a.toNat
     omega
    simp [hlt, this, h]
theorem qeK [Lent] {P : Program} {f : FuncId} {fn : Func} (hf : P.funcs[f]? = some fn) (hn : (fn.name == "runtime.NumGoroutine") = false) (hb : fn.body.isNone = true) (hx : Extern.findNext fn = none)
  (he : Extern.find fn = some Extern.BytealgCompare.compare) {args : List AV} {H H' : AH} {r : AV} (hr : qcJ args H = some (r, H')) {C : qa} {μ : MMap} {w : World} {vs : Array Value} (ha : qc C μ args vs) (hw : Wld C μ H w) :
  qq P (callFunc f vs) w (qv C μ H w r H') := by
 unfold qcJ at hr
 split at hr
 ·rename_i H0 a b
  cases hr
  obtain ⟨hl, hv⟩ := ha
  obtain ⟨x, y, rfl⟩ : ∃ x y, vs = #[x, y] := by
   obtain ⟨l⟩ := vs
   match l, hl with
   | [x, y], _ => exact ⟨x, y, rfl⟩
  have h0 := hv 0 _ _ rfl rfl
  have h1 := hv 1 _ _ rfl rfl
  cases h0
  cases h1
  have hrun : (callFunc f #[.string ⟨a.toArray⟩, .string ⟨b.toArray⟩]).run P w = .ok (.value (.int .i64 (cmpS a b))) w := by
   unfold callFunc
   simp only [Sem.run_bind, run_program, Result.andThen_ok, hf, hn, hb, qiW, if_false, if_true, run_mark, hx, he, Lib.run_compareString, Sem.run_pure]
   rw [zu]
  unfold qq
  rw [hrun]
  exact ⟨C, μ, .int _ _, hw, Ext.refl (qiR _)⟩
 ·cases hr
end Go.Av
namespace Go.Proofs.YtnjonahoheopnaaGreatDoor
open Go.Av
theorem qil : qf0.All fun t ti => tiOf Tryz.prog t = some ti := by
 unfold qf0
 repeat (first | exact trivial | refine BT.all_node (by show tiOf Tryz.prog _ = _; kernel_rfl) ?_ ?_)
theorem qhA : Tryz.prog.funcs.toList.all (fun fn => !(fn.name == "runtime.NumGoroutine")) = true := by kernel_rfl
theorem qhB : Tryz.prog.follows .mixedOrders = true := by kernel_rfl
end Go.Proofs.YtnjonahoheopnaaGreatDoor
end
section
namespace Go.Proofs
open Go.Shelf
def Tryz.lays156_ren : Go.Shelf.Ren := ⟨fun | 156 => 32 | 165 => 67 | 166 => 68 | 169 => 66 | 240 => 116 | 241 => 117 | 276 => 153 | 277 => 154 | n => n, fun | 31 => 57 | 9 => 9 | 3 => 3 | 4 => 4 | 0 => 0 | 20 => 20 | 72 => 102 | 76 => 109 | 70 => 100 | 37 => 92 | 75 => 108 | 127 => 138 | 164 => 168 | 5 => 5 | 80 => 105 | n => n, fun | n => n⟩
theorem Tryz.lays156 : Go.Proofs.Lays.n156 Tryz.prog Tryz.lays156_ren := {
 mixed := by kernel_rfl
 f156 := Tryz.func32.trans (congrArg some (by kernel_rfl))
 f165 := Tryz.func67.trans (congrArg some (by kernel_rfl))
 f166 := Tryz.func68.trans (congrArg some (by kernel_rfl))
 f169 := Tryz.func66.trans (congrArg some (by kernel_rfl))
 f240 := Tryz.func116.trans (congrArg some (by kernel_rfl))
 f241 := Tryz.func117.trans (congrArg some (by kernel_rfl))
 f276 := Tryz.func153.trans (congrArg some (by kernel_rfl))
 f277 := Tryz.func154.trans (congrArg some (by kernel_rfl))
 t0 := Tryz.underlying0
 a0 := Tryz.isAgg0
 z0 := Tryz.sizeOf0
 v0 := Tryz.zeroValue0
 t3 := Tryz.underlying3
 a3 := Tryz.isAgg3
 z3 := Tryz.sizeOf3
 v3 := Tryz.zeroValue3
 t4 := Tryz.underlying4
 a4 := Tryz.isAgg4
 z4 := Tryz.sizeOf4
 v4 := Tryz.zeroValue4
 t9 := Tryz.underlying9
 a9 := Tryz.isAgg9
 z9 := Tryz.sizeOf9
 v9 := Tryz.zeroValue9
 t20 := Tryz.underlying20
 a20 := Tryz.isAgg20
 z20 := Tryz.sizeOf20
 v20 := Tryz.zeroValue20
 t31 := Tryz.underlying57
 a31 := Tryz.isAgg57
 z31 := Tryz.sizeOf57
 v31 := Tryz.zeroValue57
 t37 := Tryz.underlying92
 a37 := Tryz.isAgg92
 z37 := Tryz.sizeOf92
 v37 := Tryz.zeroValue92
 t70 := Tryz.underlying100
 a70 := Tryz.isAgg100
 z70 := Tryz.sizeOf100
 v70 := Tryz.zeroValue100
 t72 := Tryz.underlying102
 a72 := Tryz.isAgg102
 z72 := Tryz.sizeOf102
 v72 := Tryz.zeroValue102
 t75 := Tryz.underlying108
 a75 := Tryz.isAgg108
 z75 := Tryz.sizeOf108
 v75 := Tryz.zeroValue108
 t76 := Tryz.underlying109
 a76 := Tryz.isAgg109
 z76 := Tryz.sizeOf109
 v76 := Tryz.zeroValue109
 t127 := Tryz.underlying138
 a127 := Tryz.isAgg138
 z127 := Tryz.sizeOf138
 v127 := Tryz.zeroValue138
 t164 := Tryz.underlying168
 a164 := Tryz.isAgg168
 z164 := Tryz.sizeOf168
 v164 := Tryz.zeroValue168 }
theorem Tryz.Builder_Extra_156 : Builder.Extra Tryz.prog Tryz.lays156_ren := {
 sizeBuilder := by kernel_rfl
 liesBuilder := by kernel_rfl
 t5 := Tryz.underlying5
 a5 := Tryz.isAgg5
 z5 := Tryz.sizeOf5
 v5 := Tryz.zeroValue5
 infoByte := by kernel_rfl
 cellsByte := by kernel_rfl
 sizeByte := by kernel_rfl
 neB5 := by decide }
open Go.RowKit in
theorem Tryz.strings_Join_none (a : Option Addr) (c : Nat) (sep : ByteArray) (w : World) :
  Calls Tryz.prog 32 #[.slice a 0 c, .string sep] w fun e w' => e = .returned (.string ⟨#[]⟩) ∧ w' = w := Any.strings_Join_none Tryz.lays156 Tryz.Builder_Extra_156 a c sep w
open Go.RowKit in
theorem Tryz.strings_Join (bk o c : Nat) (xs : List ByteArray) (sep : ByteArray) (w : World) (hcells : ∀ (j : Nat) x, xs[j]? = some x → w.cell? ⟨bk, o + j, none⟩ = some (.string x)) (hbk : bk < w.heap.size) (hN : xs.length ≤ 140737488355328) (hcap : xs.length ≤ c) (hlen : (Lib.join (xs.map (·.data.toList)) sep.data.toList).length ≤ 140737488355328) :
  Calls Tryz.prog 32 #[.slice (some ⟨bk, o, none⟩) xs.length c, .string sep] w fun e w' => e = .returned (.string ⟨(Lib.join (xs.map (·.data.toList)) sep.data.toList).toArray⟩) ∧ Below w.heap.size w w' := Any.strings_Join Tryz.lays156 Tryz.Builder_Extra_156 bk o c xs sep w hcells hbk hN hcap hlen
def Tryz.lays137_ren : Go.Shelf.Ren := ⟨fun | 137 => 77 | 217 => 123 | 266 => 157 | n => n, fun | 9 => 9 | 5 => 5 | 3 => 3 | n => n, fun | n => n⟩
theorem Tryz.lays137 : Go.Proofs.Lays.n137 Tryz.prog Tryz.lays137_ren := {
 mixed := by kernel_rfl
 f137 := Tryz.func77.trans (congrArg some (by kernel_rfl))
 f217 := Tryz.func123.trans (congrArg some (by kernel_rfl))
 f266 := Tryz.func157.trans (congrArg some (by kernel_rfl))
 t3 := Tryz.underlying3
 a3 := Tryz.isAgg3
 z3 := Tryz.sizeOf3
 v3 := Tryz.zeroValue3
 t5 := Tryz.underlying5
 a5 := Tryz.isAgg5
 z5 := Tryz.sizeOf5
 v5 := Tryz.zeroValue5
 t9 := Tryz.underlying9
 a9 := Tryz.isAgg9
 z9 := Tryz.sizeOf9
 v9 := Tryz.zeroValue9 }
open Go.RowKit in
theorem Tryz.strings_IndexByte (s : ByteArray) (c : Int) (w : World) :
  Calls Tryz.prog 77 #[.string s, .int .u8 c] w fun e w' => e = .returned (.int .i64 (Lib.indexByte s.data.toList c.toNat.toUInt8)) ∧ w' = w := Any.strings_IndexByte Tryz.lays137 s c w
def Tryz.laysM171_ren : Go.Shelf.Ren := ⟨fun | 171 => 29 | 243 => 63 | 246 => 107 | 283 => 145 | 284 => 146 | 285 => 147 | 286 => 148 | 129 => 176 | 317 => 175 | 318 => 177 | 319 => 178 | 320 => 179 | 337 => 194 | 338 => 195 | n => n, fun | 3 => 3 | 9 => 9 | 2 => 2 | 4 => 4 | 171 => 162 | 0 => 0 | 53 => 141 | 37 => 92 | 5 => 5 | 173 => 165 | 212 => 192 | 51 => 193 | 20 => 20 | 213 => 194 | 46 => 167 | 232 => 216 | 233 => 217 | n => n, fun | 17 => 1 | 18 => 4 | 19 => 5 | n => n⟩
theorem Tryz.laysM171 : Go.Proofs.LaysM.n171 Tryz.prog Tryz.laysM171_ren := {
 mixed := by kernel_rfl
 f129 := Tryz.func176.trans (congrArg some (by kernel_rfl))
 f171 := Tryz.func29.trans (congrArg some (by kernel_rfl))
 f243 := Tryz.func63.trans (congrArg some (by kernel_rfl))
 f246 := Tryz.func107.trans (congrArg some (by kernel_rfl))
 f283 := Tryz.func145.trans (congrArg some (by kernel_rfl))
 f284 := Tryz.func146.trans (congrArg some (by kernel_rfl))
 f285 := Tryz.func147.trans (congrArg some (by kernel_rfl))
 f286 := Tryz.func148.trans (congrArg some (by kernel_rfl))
 f317 := Tryz.func175.trans (congrArg some (by kernel_rfl))
 f318 := Tryz.func177.trans (congrArg some (by kernel_rfl))
 f319 := Tryz.func178.trans (congrArg some (by kernel_rfl))
 f320 := Tryz.func179.trans (congrArg some (by kernel_rfl))
 f337 := Tryz.func194.trans (congrArg some (by kernel_rfl))
 f338 := Tryz.func195.trans (congrArg some (by kernel_rfl))
 t0 := Tryz.underlying0
 a0 := Tryz.isAgg0
 z0 := Tryz.sizeOf0
 v0 := Tryz.zeroValue0
 t2 := Tryz.underlying2
 a2 := Tryz.isAgg2
 z2 := Tryz.sizeOf2
 v2 := Tryz.zeroValue2
 t3 := Tryz.underlying3
 a3 := Tryz.isAgg3
 z3 := Tryz.sizeOf3
 v3 := Tryz.zeroValue3
 t4 := Tryz.underlying4
 a4 := Tryz.isAgg4
 z4 := Tryz.sizeOf4
 v4 := Tryz.zeroValue4
 t5 := Tryz.underlying5
 a5 := Tryz.isAgg5
 z5 := Tryz.sizeOf5
 v5 := Tryz.zeroValue5
 t9 := Tryz.underlying9
 a9 := Tryz.isAgg9
 z9 := Tryz.sizeOf9
 v9 := Tryz.zeroValue9
 t20 := Tryz.underlying20
 a20 := Tryz.isAgg20
 z20 := Tryz.sizeOf20
 v20 := Tryz.zeroValue20
 t37 := Tryz.underlying92
 a37 := Tryz.isAgg92
 z37 := Tryz.sizeOf92
 v37 := Tryz.zeroValue92
 t46 := Tryz.underlying167
 a46 := Tryz.isAgg167
 z46 := Tryz.sizeOf167
 v46 := Tryz.zeroValue167
 t51 := Tryz.underlying193
 a51 := Tryz.isAgg193
 z51 := Tryz.sizeOf193
 v51 := Tryz.zeroValue193
 t53 := Tryz.underlying141
 a53 := Tryz.isAgg141
 z53 := Tryz.sizeOf141
 v53 := Tryz.zeroValue141
 t171 := Tryz.underlying162
 a171 := Tryz.isAgg162
 z171 := Tryz.sizeOf162
 v171 := Tryz.zeroValue162
 t173 := Tryz.underlying165
 a173 := Tryz.isAgg165
 z173 := Tryz.sizeOf165
 v173 := Tryz.zeroValue165
 t212 := Tryz.underlying192
 a212 := Tryz.isAgg192
 z212 := Tryz.sizeOf192
 v212 := Tryz.zeroValue192
 t213 := Tryz.underlying194
 a213 := Tryz.isAgg194
 z213 := Tryz.sizeOf194
 t232 := Tryz.underlying216
 a232 := Tryz.isAgg216
 z232 := Tryz.sizeOf216
 v232 := Tryz.zeroValue216
 t233 := Tryz.underlying217
 a233 := Tryz.isAgg217
 z233 := Tryz.sizeOf217
 v233 := Tryz.zeroValue217
 g17 := by kernel_rfl
 g18 := by kernel_rfl
 g19 := by kernel_rfl
 i0 := by kernel_rfl
 i2 := by kernel_rfl
 i3 := by kernel_rfl
 i4 := by kernel_rfl
 i5 := by kernel_rfl
 i9 := by kernel_rfl
 i20 := by kernel_rfl
 i37 := by kernel_rfl
 i46 := by kernel_rfl
 i51 := by kernel_rfl
 i53 := by kernel_rfl
 i171 := by kernel_rfl
 i173 := by kernel_rfl
 i212 := by kernel_rfl
 i232 := by kernel_rfl
 i233 := by kernel_rfl
 m17 := by kernel_rfl
 m18 := by kernel_rfl
 m19 := by kernel_rfl }
open Go.RowKit Go.Sort Go.Lib in
theorem Tryz.strconv_Itoa (n : Int) (h0 : -9223372036854775808 ≤ n) (h1 : n ≤ 9223372036854775807) (w : World) (htab : Lib.TabIs Tryz.prog w "internal/strconv.uint64pow10" .u64 Lib.pow10Tab) :
  Calls Tryz.prog 29 #[.int .i64 n] w fun e w' => e = .returned (.string ⟨(Lib.itoa n).toArray⟩) ∧ ∃ k os, w' = grow (w.drewN k) os := Any.strconv_Itoa Tryz.laysM171 n h0 h1 w htab
def Tryz.laysPu14_ren : Go.Shelf.Ren := ⟨fun | 14 => 124 | 16 => 158 | 17 => 159 | 19 => 180 | 20 => 181 | 21 => 182 | 22 => 183 | 23 => 184 | 24 => 185 | 25 => 196 | 27 => 29 | 26 => 197 | 28 => 63 | 29 => 107 | 30 => 145 | 31 => 146 | 32 => 147 | 33 => 148 | 35 => 176 | 34 => 175 | 36 => 177 | 37 => 178 | 38 => 179 | 39 => 194 | 40 => 195 | n => n, fun | 9 => 9 | 3 => 3 | 22 => 141 | 24 => 108 | 25 => 142 | 4 => 4 | 34 => 196 | 5 => 5 | 36 => 167 | 37 => 92 | 0 => 0 | 39 => 198 | 21 => 21 | 44 => 210 | 47 => 138 | 50 => 220 | 48 => 218 | 2 => 2 | 52 => 162 | 55 => 165 | 59 => 192 | 60 => 193 | 20 => 20 | 61 => 194 | 65 => 216 | 66 => 217 | 67 => 105 | n => n, fun | 0 => 2 | 1 => 3 | 2 => 1 | 3 => 4 | 4 => 5 | n => n⟩
theorem Tryz.laysPu14 : Go.Proofs.LaysPu.n14 Tryz.prog Tryz.laysPu14_ren := {
 mixed := by kernel_rfl
 f14 := Tryz.func124.trans (congrArg some (by kernel_rfl))
 f16 := Tryz.func158.trans (congrArg some (by kernel_rfl))
 f17 := Tryz.func159.trans (congrArg some (by kernel_rfl))
 f19 := Tryz.func180.trans (congrArg some (by kernel_rfl))
 f20 := Tryz.func181.trans (congrArg some (by kernel_rfl))
 f21 := Tryz.func182.trans (congrArg some (by kernel_rfl))
 f22 := Tryz.func183.trans (congrArg some (by kernel_rfl))
 f23 := Tryz.func184.trans (congrArg some (by kernel_rfl))
 f24 := Tryz.func185.trans (congrArg some (by kernel_rfl))
 f25 := Tryz.func196.trans (congrArg some (by kernel_rfl))
 f26 := Tryz.func197.trans (congrArg some (by kernel_rfl))
 f27 := Tryz.func29.trans (congrArg some (by kernel_rfl))
 f28 := Tryz.func63.trans (congrArg some (by kernel_rfl))
 f29 := Tryz.func107.trans (congrArg some (by kernel_rfl))
 f30 := Tryz.func145.trans (congrArg some (by kernel_rfl))
 f31 := Tryz.func146.trans (congrArg some (by kernel_rfl))
 f32 := Tryz.func147.trans (congrArg some (by kernel_rfl))
 f33 := Tryz.func148.trans (congrArg some (by kernel_rfl))
 f34 := Tryz.func175.trans (congrArg some (by kernel_rfl))
 f35 := Tryz.func176.trans (congrArg some (by kernel_rfl))
 f36 := Tryz.func177.trans (congrArg some (by kernel_rfl))
 f37 := Tryz.func178.trans (congrArg some (by kernel_rfl))
 f38 := Tryz.func179.trans (congrArg some (by kernel_rfl))
 f39 := Tryz.func194.trans (congrArg some (by kernel_rfl))
 f40 := Tryz.func195.trans (congrArg some (by kernel_rfl))
 t0 := Tryz.underlying0
 a0 := Tryz.isAgg0
 z0 := Tryz.sizeOf0
 v0 := Tryz.zeroValue0
 i0 := by kernel_rfl
 t2 := Tryz.underlying2
 a2 := Tryz.isAgg2
 z2 := Tryz.sizeOf2
 v2 := Tryz.zeroValue2
 i2 := by kernel_rfl
 t3 := Tryz.underlying3
 a3 := Tryz.isAgg3
 z3 := Tryz.sizeOf3
 v3 := Tryz.zeroValue3
 i3 := by kernel_rfl
 t4 := Tryz.underlying4
 a4 := Tryz.isAgg4
 z4 := Tryz.sizeOf4
 v4 := Tryz.zeroValue4
 i4 := by kernel_rfl
 t5 := Tryz.underlying5
 a5 := Tryz.isAgg5
 z5 := Tryz.sizeOf5
 v5 := Tryz.zeroValue5
 i5 := by kernel_rfl
 t9 := Tryz.underlying9
 a9 := Tryz.isAgg9
 z9 := Tryz.sizeOf9
 v9 := Tryz.zeroValue9
 i9 := by kernel_rfl
 t20 := Tryz.underlying20
 a20 := Tryz.isAgg20
 z20 := Tryz.sizeOf20
 v20 := Tryz.zeroValue20
 i20 := by kernel_rfl
 t21 := Tryz.underlying21
 a21 := Tryz.isAgg21
 z21 := Tryz.sizeOf21
 v21 := Tryz.zeroValue21
 i21 := by kernel_rfl
 t22 := Tryz.underlying141
 a22 := Tryz.isAgg141
 z22 := Tryz.sizeOf141
 v22 := Tryz.zeroValue141
 i22 := by kernel_rfl
 t24 := Tryz.underlying108
 a24 := Tryz.isAgg108
 z24 := Tryz.sizeOf108
 v24 := Tryz.zeroValue108
 i24 := by kernel_rfl
 t25 := Tryz.underlying142
 a25 := Tryz.isAgg142
 z25 := Tryz.sizeOf142
 v25 := Tryz.zeroValue142
 i25 := by kernel_rfl
 t34 := Tryz.underlying196
 a34 := Tryz.isAgg196
 z34 := Tryz.sizeOf196
 v34 := Tryz.zeroValue196
 i34 := by kernel_rfl
 c34 := by kernel_rfl
 t36 := Tryz.underlying167
 a36 := Tryz.isAgg167
 z36 := Tryz.sizeOf167
 v36 := Tryz.zeroValue167
 i36 := by kernel_rfl
 t37 := Tryz.underlying92
 a37 := Tryz.isAgg92
 z37 := Tryz.sizeOf92
 v37 := Tryz.zeroValue92
 i37 := by kernel_rfl
 t39 := Tryz.underlying198
 a39 := Tryz.isAgg198
 z39 := Tryz.sizeOf198
 v39 := Tryz.zeroValue198
 i39 := by kernel_rfl
 t44 := Tryz.underlying210
 a44 := Tryz.isAgg210
 z44 := Tryz.sizeOf210
 v44 := Tryz.zeroValue210
 i44 := by kernel_rfl
 t47 := Tryz.underlying138
 a47 := Tryz.isAgg138
 z47 := Tryz.sizeOf138
 v47 := Tryz.zeroValue138
 i47 := by kernel_rfl
 t48 := Tryz.underlying218
 a48 := Tryz.isAgg218
 z48 := Tryz.sizeOf218
 v48 := Tryz.zeroValue218
 i48 := by kernel_rfl
 t50 := Tryz.underlying220
 a50 := Tryz.isAgg220
 z50 := Tryz.sizeOf220
 v50 := Tryz.zeroValue220
 i50 := by kernel_rfl
 t52 := Tryz.underlying162
 a52 := Tryz.isAgg162
 z52 := Tryz.sizeOf162
 v52 := Tryz.zeroValue162
 i52 := by kernel_rfl
 t55 := Tryz.underlying165
 a55 := Tryz.isAgg165
 z55 := Tryz.sizeOf165
 v55 := Tryz.zeroValue165
 i55 := by kernel_rfl
 t59 := Tryz.underlying192
 a59 := Tryz.isAgg192
 z59 := Tryz.sizeOf192
 v59 := Tryz.zeroValue192
 i59 := by kernel_rfl
 t60 := Tryz.underlying193
 a60 := Tryz.isAgg193
 z60 := Tryz.sizeOf193
 v60 := Tryz.zeroValue193
 i60 := by kernel_rfl
 t61 := Tryz.underlying194
 a61 := Tryz.isAgg194
 z61 := Tryz.sizeOf194
 t65 := Tryz.underlying216
 a65 := Tryz.isAgg216
 z65 := Tryz.sizeOf216
 v65 := Tryz.zeroValue216
 i65 := by kernel_rfl
 t66 := Tryz.underlying217
 a66 := Tryz.isAgg217
 z66 := Tryz.sizeOf217
 v66 := Tryz.zeroValue217
 i66 := by kernel_rfl
 t67 := Tryz.underlying105
 a67 := Tryz.isAgg105
 z67 := Tryz.sizeOf105
 v67 := Tryz.zeroValue105
 i67 := by kernel_rfl
 g0 := by kernel_rfl
 m0 := by kernel_rfl
 g1 := by kernel_rfl
 m1 := by kernel_rfl
 g2 := by kernel_rfl
 m2 := by kernel_rfl
 g3 := by kernel_rfl
 m3 := by kernel_rfl
 g4 := by kernel_rfl
 m4 := by kernel_rfl }
open Go.RowKit in
theorem Tryz.strconv_ParseUint_10_at64_ok (s : ByteArray) (hmax : s.size ≤ 9223372036854775806) (u : Nat) (h : Lib.parseUintB 64 s.data.toList = .ok u) (w : World) :
  Calls Tryz.prog 124 #[.string s, .int .i64 10, .int .i64 64] w fun e w' => e = .returned (.tuple #[.int .u64 u, .nilIface]) ∧ (w' = w ∨ w' = Lib.bytesWorld w 5 s) := Any.strconv_ParseUint_10_at64_ok Tryz.laysPu14 s hmax u h w
open Go.RowKit in
theorem Tryz.strconv_ParseUint_10_at64_syntax (s : ByteArray) (hlim : s.size ≤ 281474976710656) (h : Lib.parseUintB 64 s.data.toList = Go.Lib.NumEnd.syntax) (ev : Value) (w : World) (hv : w.cell? ⟨2, 0, none⟩ = some ev) (hev : ev = .nilIface ∨ ∃ te pe, ev = .iface te pe) :
  Calls Tryz.prog 124 #[.string s, .int .i64 10, .int .i64 64] w fun e w' => ∃ N, e = .returned (.tuple #[.int .u64 0, .iface 198 (.pointer (some ⟨N, 0, none⟩))]) ∧ w.heap.size ≤ N ∧ w'.heap[N]? = some (.cells #[.string ⟨#[80, 97, 114, 115, 101, 85, 105, 110, 116]⟩, .string s, ev] 210 (0, 0)) ∧ Below w.heap.size w w' := Any.strconv_ParseUint_10_at64_syntax Tryz.laysPu14 s hlim h ev w hv hev
open Go.RowKit in
theorem Tryz.strconv_ParseUint_10_at64_range (s : ByteArray) (hlim : s.size ≤ 281474976710656) (h : Lib.parseUintB 64 s.data.toList = .range) (ev : Value) (w : World) (hv : w.cell? ⟨3, 0, none⟩ = some ev) (hev : ev = .nilIface ∨ ∃ te pe, ev = .iface te pe) :
  Calls Tryz.prog 124 #[.string s, .int .i64 10, .int .i64 64] w fun e w' => ∃ N, e = .returned (.tuple #[.int .u64 18446744073709551615, .iface 198 (.pointer (some ⟨N, 0, none⟩))]) ∧ w.heap.size ≤ N ∧ w'.heap[N]? = some (.cells #[.string ⟨#[80, 97, 114, 115, 101, 85, 105, 110, 116]⟩, .string s, ev] 210 (0, 0)) ∧ Below w.heap.size w w' := Any.strconv_ParseUint_10_at64_range Tryz.laysPu14 s hlim h ev w hv hev
def Tryz.lays144_ren : Go.Shelf.Ren := ⟨fun | 144 => 59 | 143 => 105 | 219 => 144 | 217 => 123 | 225 => 172 | 224 => 173 | 267 => 174 | 266 => 157 | 314 => 193 | n => n, fun | 9 => 9 | 4 => 4 | 3 => 3 | 5 => 5 | 46 => 167 | 146 => 206 | 51 => 193 | n => n, fun | 1 => 0 | n => n⟩
theorem Tryz.lays144 : Go.Proofs.Lays.n144 Tryz.prog Tryz.lays144_ren := {
 mixed := by kernel_rfl
 f143 := Tryz.func105.trans (congrArg some (by kernel_rfl))
 f144 := Tryz.func59.trans (congrArg some (by kernel_rfl))
 f217 := Tryz.func123.trans (congrArg some (by kernel_rfl))
 f219 := Tryz.func144.trans (congrArg some (by kernel_rfl))
 f224 := Tryz.func173.trans (congrArg some (by kernel_rfl))
 f225 := Tryz.func172.trans (congrArg some (by kernel_rfl))
 f266 := Tryz.func157.trans (congrArg some (by kernel_rfl))
 f267 := Tryz.func174.trans (congrArg some (by kernel_rfl))
 f314 := Tryz.func193.trans (congrArg some (by kernel_rfl))
 t3 := Tryz.underlying3
 a3 := Tryz.isAgg3
 z3 := Tryz.sizeOf3
 v3 := Tryz.zeroValue3
 t4 := Tryz.underlying4
 a4 := Tryz.isAgg4
 z4 := Tryz.sizeOf4
 v4 := Tryz.zeroValue4
 t5 := Tryz.underlying5
 a5 := Tryz.isAgg5
 z5 := Tryz.sizeOf5
 v5 := Tryz.zeroValue5
 t9 := Tryz.underlying9
 a9 := Tryz.isAgg9
 z9 := Tryz.sizeOf9
 v9 := Tryz.zeroValue9
 t46 := Tryz.underlying167
 a46 := Tryz.isAgg167
 z46 := Tryz.sizeOf167
 v46 := Tryz.zeroValue167
 t51 := Tryz.underlying193
 a51 := Tryz.isAgg193
 z51 := Tryz.sizeOf193
 v51 := Tryz.zeroValue193
 t146 := Tryz.underlying206
 a146 := Tryz.isAgg206
 z146 := Tryz.sizeOf206
 v146 := Tryz.zeroValue206
 g1 := by kernel_rfl }
open Go.RowKit Go.Lib in
theorem Tryz.strings_Contains (s sub : ByteArray) (m : Int) (w : World) (hs : s.size < 4294967281) (hm : w.cell? ⟨0, 0, none⟩ = some (.int .i64 m)) :
  Calls Tryz.prog 59 #[.string s, .string sub] w fun e w' => e = .returned (.bool (Lib.contains s.data.toList sub.data.toList)) ∧ w' = w := Any.strings_Contains Tryz.lays144 s sub m w hs hm
def Tryz.laysM144_ren : Go.Shelf.Ren := ⟨fun | 144 => 59 | 143 => 105 | 219 => 144 | 217 => 123 | 225 => 172 | 224 => 173 | 267 => 174 | 266 => 157 | 314 => 193 | n => n, fun | 9 => 9 | 4 => 4 | 3 => 3 | 5 => 5 | 46 => 167 | 146 => 206 | 51 => 193 | n => n, fun | 1 => 0 | n => n⟩
theorem Tryz.laysM144 : Go.Proofs.LaysM.n144 Tryz.prog Tryz.laysM144_ren := {
 mixed := by kernel_rfl
 f143 := Tryz.func105.trans (congrArg some (by kernel_rfl))
 f144 := Tryz.func59.trans (congrArg some (by kernel_rfl))
 f217 := Tryz.func123.trans (congrArg some (by kernel_rfl))
 f219 := Tryz.func144.trans (congrArg some (by kernel_rfl))
 f224 := Tryz.func173.trans (congrArg some (by kernel_rfl))
 f225 := Tryz.func172.trans (congrArg some (by kernel_rfl))
 f266 := Tryz.func157.trans (congrArg some (by kernel_rfl))
 f267 := Tryz.func174.trans (congrArg some (by kernel_rfl))
 f314 := Tryz.func193.trans (congrArg some (by kernel_rfl))
 t3 := Tryz.underlying3
 a3 := Tryz.isAgg3
 z3 := Tryz.sizeOf3
 v3 := Tryz.zeroValue3
 t4 := Tryz.underlying4
 a4 := Tryz.isAgg4
 z4 := Tryz.sizeOf4
 v4 := Tryz.zeroValue4
 t5 := Tryz.underlying5
 a5 := Tryz.isAgg5
 z5 := Tryz.sizeOf5
 v5 := Tryz.zeroValue5
 t9 := Tryz.underlying9
 a9 := Tryz.isAgg9
 z9 := Tryz.sizeOf9
 v9 := Tryz.zeroValue9
 t46 := Tryz.underlying167
 a46 := Tryz.isAgg167
 z46 := Tryz.sizeOf167
 v46 := Tryz.zeroValue167
 t51 := Tryz.underlying193
 a51 := Tryz.isAgg193
 z51 := Tryz.sizeOf193
 v51 := Tryz.zeroValue193
 t146 := Tryz.underlying206
 a146 := Tryz.isAgg206
 z146 := Tryz.sizeOf206
 v146 := Tryz.zeroValue206
 g1 := by kernel_rfl
 i3 := by kernel_rfl
 i4 := by kernel_rfl
 i5 := by kernel_rfl
 i9 := by kernel_rfl
 i46 := by kernel_rfl
 i51 := by kernel_rfl
 i146 := by kernel_rfl
 m1 := by kernel_rfl
 s1_3 := fun w h => Go.Proofs.cell_of_shapedOpen_int (zero := #[.int .i64 0]) (t := 3) h (of_decide_eq_true (by kernel_rfl)) (by kernel_rfl) rfl (by kernel_rfl) (by kernel_rfl) Tryz.underlying3 }
end Go.Proofs
end
section
namespace Go.Proofs.YtnjonahoheopnaaGreatDoor
open Go.Av Go.RowKit
theorem qD {P : Program} {f : FuncId} {fn : Func} {c : Code} (hf : P.funcs[f]? = some fn) (hn : (fn.name == "runtime.NumGoroutine") = false) (hb : fn.body = some c) {vs : Array Value} {w : World} {Q : Value → World → Prop}
  (h : Calls P f vs w fun e w' => ∃ v, e = .returned v ∧ Q v w') : qq P (callFunc f vs) w Q := by
 unfold qq
 rw [qcf hf hn hb vs w]
 exact callsIn_wide.2 h
theorem yY {vs : Array Value} (h : 2 = vs.size) : ∃ x y, vs = #[x, y] := by
 obtain ⟨l⟩ := vs
 match l, h with
 | [x, y], _ => exact ⟨x, y, rfl⟩
theorem qiq [Lent] {args : List AV} {H H' : AH} {r : AV} {C : qa} {μ : MMap} {w : World} {vs : Array Value} (hr : qa3 args H = some (r, H')) (ha : qc C μ args vs) (hw : Wld C μ H w) :
  qq Tryz.prog (callFunc 77 vs) w (qv C μ H w r H') := by
 unfold qa3 at hr
 split at hr
 case h_2 => cases hr
 rename_i s c
 cases hr
 obtain ⟨hl, hv⟩ := ha
 obtain ⟨x, y, rfl⟩ := yY hl
 have h0 := hv 0 _ _ rfl rfl
 have h1 := hv 1 _ _ rfl rfl
 cases h0
 cases h1
 refine qD Tryz.func77 (by rfl) rfl ((Tryz.strings_IndexByte ⟨s.toArray⟩ c w).mono fun e w' ⟨e1, e2⟩ => ⟨_, e1, ?_⟩)
 subst e2
 exact ⟨C, μ, .int _ _, hw, Ext.refl (qiR _)⟩
theorem qfB [Lent] (hm : ∃ m, Lent.l 0 0 = some (.int .i64 m)) {args : List AV} {H H' : AH} {r : AV} {C : qa} {μ : MMap} {w : World} {vs : Array Value} (hr : zG args H = some (r, H')) (ha : qc C μ args vs) (hw : Wld C μ H w) :
  qq Tryz.prog (callFunc 59 vs) w (qv C μ H w r H') := by
 unfold zG at hr
 split at hr
 case h_2 => cases hr
 rename_i s t
 split at hr
 case isFalse => cases hr
 rename_i hlt
 cases hr
 obtain ⟨hl, hv⟩ := ha
 obtain ⟨x, y, rfl⟩ := yY hl
 have h0 := hv 0 _ _ rfl rfl
 have h1 := hv 1 _ _ rfl rfl
 cases h0
 cases h1
 obtain ⟨m, hm⟩ := hm
 refine qD Tryz.func59 (by rfl) rfl ((Tryz.strings_Contains ⟨s.toArray⟩ ⟨t.toArray⟩ m w (by simpa [ByteArray.size] using hlt) (hw.lnt.1 0 0 _ hm).1).mono fun e w' ⟨e1, e2⟩ => ⟨_, e1, ?_⟩)
 subst e2
 exact ⟨C, μ, .bool _, hw, Ext.refl (qiR _)⟩
theorem yE [Lent] {H : AH} {r : AV} {C : qa} {μ : MMap} {w w' : World} {v : Value} (hw : Wld C μ H w) (hb : Below w.heap.size w w') (hr : Rep C μ r v) : qv C μ H w r H v w' :=
 ⟨C, μ, hr, hw.world hb.size (fun b hlt => hb.block b hlt), ⟨hb.os, hb.tape, hb.output, hb.size, fun _ _ _ h => h, fun _ m _ h => ⟨m, h, .refl m⟩, fun b hlt hl => ⟨hb.block b hlt, hl, rfl⟩, qiR _⟩⟩
def qd2 [Lent] (g : Nat) : Prop := ∃ ev, Lent.l g 0 = some ev ∧ (ev = .nilIface ∨ ∃ te pe, ev = .iface te pe)
theorem qhy [Lent] (hS : qd2 2) (hR : qd2 3) {args : List AV} {H H' : AH} {r : AV} {C : qa} {μ : MMap} {w : World} {vs : Array Value} (hr : qeJ args H = some (r, H')) (ha : qc C μ args vs) (hw : Wld C μ H w) :
  qq Tryz.prog (callFunc 124 vs) w (qv C μ H w r H') := by
 unfold qeJ at hr
 split at hr
 case h_2 => cases hr
 rename_i s
 split at hr
 case isFalse => cases hr
 rename_i hlt
 obtain ⟨hl, hv⟩ := ha
 obtain ⟨x, y, z, rfl⟩ : ∃ x y z, vs = #[x, y, z] := by
  obtain ⟨l⟩ := vs
  match l, hl with
  | [x, y, z], _ => exact ⟨x, y, z, rfl⟩
 have h0 := hv 0 _ _ rfl rfl
 have h1 := hv 1 _ _ rfl rfl
 have h2 := hv 2 _ _ rfl rfl
 cases h0
 cases h1
 cases h2
 have hsz : (⟨s.toArray⟩ : ByteArray).size ≤ 281474976710656 := by simpa [ByteArray.size] using hlt
 split at hr
 ·rename_i u hu
  cases hr
  refine qD Tryz.func124 (by rfl) rfl ((Tryz.strconv_ParseUint_10_at64_ok ⟨s.toArray⟩ (by omega) u hu w).mono fun e w' ⟨e1, e2⟩ => ⟨_, e1, ?_⟩)
  have hrep : Rep C μ (.tup [.int .u64 u, .nilI]) (.tuple #[.int .u64 u, .nilIface]) := Rep.tup _ [.int .u64 u, .nilIface] rfl fun i a v ha hv => by
   rcases i with _ | _ | i
   ·simp at ha hv; subst ha; subst hv; exact .int _ _
   ·simp at ha hv; subst ha; subst hv; exact .nilI
   ·simp at ha
  rcases e2 with rfl | rfl
  ·exact ⟨C, μ, hrep, hw, Ext.refl (qiR _)⟩
  ·exact yE hw (Lib.bytesWorld_below _ _ _) hrep
 all_goals
  rename_i hu
  cases hr
  obtain ⟨ev, hS, hS2⟩ := hS
  obtain ⟨er, hR, hR2⟩ := hR
  first
   | refine qD Tryz.func124 (by rfl) rfl ((Tryz.strconv_ParseUint_10_at64_syntax ⟨s.toArray⟩ hsz hu ev w (hw.lnt.1 _ _ _ hS).1 hS2).mono fun e w' ⟨N, e1, _, _, e2⟩ => ⟨_, e1, ?_⟩)
   | refine qD Tryz.func124 (by rfl) rfl ((Tryz.strconv_ParseUint_10_at64_range ⟨s.toArray⟩ hsz hu er w (hw.lnt.1 _ _ _ hR).1 hR2).mono fun e w' ⟨N, e1, _, _, e2⟩ => ⟨_, e1, ?_⟩)
  refine yE hw e2 (Rep.tup _ [_, _] rfl fun i a v ha hv => ?_)
  rcases i with _ | _ | i
  ·simp at ha hv; subst ha; subst hv; exact .int _ _
  ·simp at ha hv; subst ha; subst hv; exact .ifc _ _ _ (.junk _)
  ·simp at ha
end Go.Proofs.YtnjonahoheopnaaGreatDoor
end
section
namespace Go.Av
variable {P : Program} {C : qa} {μ : MMap} {H H' : AH} {w w' : World}
theorem Wld.grow [Lent] (h : Wld C μ H w) {id : Nat} {blk blk' : ABlk} {m m' : MI} (hi : H[id]? = some blk) (hl : blk.live = true) (hl' : blk'.live = true) (hm : μ id = some m) (hmm : m.le m') (hsz : w.heap.size ≤ w'.heap.size)
  (hnew : ∀ x, m'.has x → m.has x ∨ (w.heap.size ≤ x ∧ x < w'.heap.size)) (hb : ∀ k, k < w.heap.size → ¬ m.has k → w'.heap[k]? = w.heap[k]?) (hr : qw C (upd μ id m') w' m' blk') (hfr : blk'.Free)
  (ho : w'.os = w.os) (ht : w'.tape = w.tape) (hu : w'.output = w.output) :
  Wld C (upd μ id m') (H.set id blk') w' ∧ Ext H.length C μ H w C (upd μ id m') (H.set id blk') w' := by
 have hlen : id < H.length := (qiM.1 hi).1
 have hself : upd μ id m' id = some m' := by unfold upd; rw [if_pos rfl]
 have hoth : ∀ j, j ≠ id → upd μ id m' j = μ j := fun j hj => by unfold upd; rw [if_neg hj]
 have hmu : MLe μ (upd μ id m') := by
  intro j mj hj
  by_cases e : j = id
  ·subst e; rw [hm] at hj; cases hj; exact ⟨m', hself, hmm⟩
  ·exact ⟨mj, by rw [hoth j e]; exact hj, .refl _⟩
 have hcell : ∀ b o v, w.cell? ⟨b, o, none⟩ = some v → ¬ m.has b → w'.cell? ⟨b, o, none⟩ = some v ∧ w'.frozen? ⟨b, o, none⟩ = w.frozen? ⟨b, o, none⟩ := by
  intro b o v hc hnb
  have hlt : b < w.heap.size := World.block_lt_of_cell? w _ hc
  have := hb b hlt hnb
  exact ⟨by simp only [World.cell?, this] at hc ⊢; exact hc, by simp only [World.frozen?, this]⟩
 have aux : ∀ (j : Nat) bj, (H.set id blk')[j]? = some bj → (j = id ∧ bj = blk') ∨ (j ≠ id ∧ H[j]? = some bj) := by
  intro j bj hj
  rw [qiT] at hj
  split at hj
  ·rename_i e; subst e
   try rw [if_pos hlen] at hj
   cases hj; exact .inl ⟨rfl, rfl⟩
  ·rename_i e; exact .inr ⟨fun e' => e e'.symm, hj⟩
 have apart : ∀ (j : Nat) bj mj, j ≠ id → H[j]? = some bj → bj.live = true → μ j = some mj → ∀ x, mj.has x → x < w.heap.size ∧ ¬ m.has x := by
  intro j bj mj hne e hbl f1 x hx
  exact ⟨(h.liveH e hbl f1 x hx).1, fun he => hne (h.inj j id bj _ mj m e hi hbl hl f1 hm x hx he)⟩
 refine ⟨⟨fun b o v hc => ?_, fun j mj hj => ?_, fun j hj => ?_, fun j b hj hbl => ?_, fun j d sz rs hj => ?_, fun i i' b b' m1 m2 e1 e2 e3 e4 e5 e6 x e7 e8 => ?_, h.free.set hfr, ?_⟩,
  ⟨ho, ht, hu, hsz, fun _ _ _ h => h, fun i mi _ hmi => hmu i mi hmi, fun b hlt hnl => ?_, by simp⟩⟩
 ·exact (hcell b o v (h.cl b o v hc) fun e => by rw [(h.liveH hi hl hm b e).2.1 o] at hc; cases hc).1
 ·simp only [List.length_set]
  by_cases e : j = id
  ·subst e; exact hlen
  ·rw [hoth j e] at hj; exact h.dom j mj hj
 ·rcases aux j _ hj with ⟨_, e⟩ | ⟨hne, e⟩
  ·rw [← e] at hl'; cases hl'
  ·rw [hoth j hne]; exact h.res j e
 ·rcases aux j b hj with ⟨rfl, rfl⟩ | ⟨hne, e⟩
  ·refine ⟨fun hn => (by rw [hself] at hn; cases hn), fun mj hmj => ?_⟩
   rw [hself] at hmj; cases hmj
   refine ⟨fun x hx => ?_, hr⟩
   rcases hnew x hx with hx | ⟨hx1, hx2⟩
   ·obtain ⟨q1, q2⟩ := h.liveH hi hl hm x hx
    exact ⟨Nat.lt_of_lt_of_le q1 hsz, q2⟩
   ·refine ⟨hx2, fun o => ?_, h.lent_none hx1⟩
    cases hc : C x o with
    | none => rfl
    | some v => exact absurd (h.block_lt hc) (by omega)
  ·rw [hoth j hne]
   refine ⟨(h.live j b e hbl).1, fun mj f1 => ?_⟩
   obtain ⟨f2, f4⟩ := (h.live j b e hbl).2 mj f1
   have q := fun x (hx : mj.has x) => apart j b mj hne e hbl f1 x hx
   exact ⟨fun x hx => ⟨Nat.lt_of_lt_of_le (f2 x hx).1 hsz, (f2 x hx).2⟩, f4.monoG (fun _ _ _ h => h) hmu (fun x hx => hb x (q x hx).1 (q x hx).2)⟩
 ·rcases aux j _ hj with ⟨_, e⟩ | ⟨hne, e⟩
  ·rw [← e] at hl'; cases hl'
  ·rw [hoth j hne]
   refine ⟨(h.froz j d sz rs e).1, fun mj f1 => ?_⟩
   exact ((h.froz j d sz rs e).2 mj f1).monoG (fun _ _ _ h => h) hmu (.refl _)
 ·have cross : ∀ (j : Nat) bj mj, j ≠ id → H[j]? = some bj → bj.live = true → μ j = some mj → ∀ x, m'.has x → ¬ mj.has x := by
   intro j bj mj hne e hbl f1 x hx0 hxj
   obtain ⟨f2, f3⟩ := apart j bj mj hne e hbl f1 x hxj
   rcases hnew x hx0 with hx | ⟨hx1, _⟩
   ·exact f3 hx
   ·omega
  rcases aux i b e1 with ⟨rfl, rfl⟩ | ⟨hne, e⟩ <;> rcases aux i' b' e2 with ⟨rfl, rfl⟩ | ⟨hne', e'⟩
  ·rfl
  ·rw [hself] at e5; cases e5; rw [hoth _ hne'] at e6
   exact (cross i' b' m2 hne' e' e4 e6 x e7 e8).elim
  ·rw [hoth _ hne] at e5; rw [hself] at e6; cases e6
   exact (cross i b m1 hne e e3 e5 x e8 e7).elim
  ·rw [hoth _ hne] at e5; rw [hoth _ hne'] at e6
   exact h.inj i i' b b' m1 m2 e e' e3 e4 e5 e6 x e7 e8
 ·refine ⟨fun b o v hc => ?_, fun hu' b o v hn hc => ?_, fun b hb' => h.lnt.2.2 b (Nat.le_trans hsz hb')⟩
  ·have hnm : ¬ m.has b := fun e => by rw [(h.liveH hi hl hm b e).2.2.1 o] at hc; cases hc
   refine ⟨(hcell b o v (h.lnt.1 b o v hc).1 hnm).1, fun ob hk => ?_⟩
   rw [hb b (World.block_lt_of_cell? w _ (h.lnt.1 b o v hc).1) hnm]
   exact (h.lnt.1 b o v hc).2 ob hk
  ·rw [(hcell b o v (h.cl b o v hc) fun e => by rw [(h.liveH hi hl hm b e).2.1 o] at hc; cases hc).2]
   exact h.lnt.2.1 hu' b o v hn hc
 ·have hnm : ¬ m.has b := fun e => hnl ⟨id, blk, m, hi, hl, hm, e⟩
  refine ⟨hb b hlt hnm, fun hl2 => ?_, rfl⟩
  obtain ⟨j, bj, mj, e1, e2, e3, e5⟩ := hl2
  rcases aux j bj e1 with ⟨rfl, rfl⟩ | ⟨hne, e⟩
  ·rw [hself] at e3; cases e3
   rcases hnew b e5 with hx | ⟨hx, _⟩
   ·exact hnm hx
   ·omega
  ·rw [hoth j hne] at e3
   exact hnl ⟨j, bj, mj, e, e2, e3, e5⟩
def MI.plus (m : MI) (g : Option Nat) : MI := { m with D := fun b o => match m.D b o with | some x => some x | none => if g = some b then some (.bool false) else none }
theorem MI.plus_le (m : MI) (g : Option Nat) : m.le (m.plus g) := ⟨rfl, rfl, rfl, rfl, fun b o v h => by simp only [MI.plus, h]⟩
theorem MI.plus_has {m : MI} {g : Option Nat} {x : Nat} (h : (m.plus g).has x) : m.has x ∨ g = some x := by
 rcases h with e | ⟨o, e⟩
 ·exact .inl (.inl e)
 ·simp only [MI.plus] at e
  split at e
  ·rename_i v hv; exact .inl (.inr ⟨o, by rw [hv]; exact fun h => by cases h⟩)
  ·split at e
   ·rename_i hg; exact .inr hg
   ·exact absurd rfl e
theorem MI.has_plus {m : MI} {g : Option Nat} {x : Nat} (h : g = some x) : (m.plus g).has x := by
 refine .inr ⟨0, ?_⟩
 simp only [MI.plus]
 split
 ·exact fun h => by cases h
 ·rw [if_pos h]; exact fun h => by cases h
end Go.Av
end
section
namespace Go.Proofs.YtnjonahoheopnaaGreatDoor
open Go.RowKit Go.Lib
def zm (w : World) (v v' : Value) : Prop := v'.ownBlock = v.ownBlock ∨ ∃ g, v'.ownBlock = some g ∧ w.heap.size ≤ g
structure Kept2 (w w' : World) (b : Nat) (v : Value) : Prop where
 os : w'.os = w.os
 tape : w'.tape = w.tape
 output : w'.output = w.output
 size : w.heap.size ≤ w'.heap.size
 block : ∀ k, k < w.heap.size → k ≠ b → some k ≠ v.ownBlock → w'.heap[k]? = w.heap[k]?
theorem qfG {P : Program} (w : World) (t ty e : TypeId) (i : TypeInfo) (z : Value) (ht : P.underlying t = some (.slice e)) (hi : P.info? e = some i) (hz : i.zero = some z) (hsize : i.size = 1) (hby : i.bytes = 1) (hzs : z.cells.size = 1)
  (v : Value) (n : Nat) (xs : List Value) (hown : w.ownsRowF 0 e 1 v n xs) (a : Addr) (m c : Nat) (news : List Value) (hl : news.length = m * 1) (hnews : ∀ j u, news[j]? = some u → w.cell? (a.add j) = some u) (h1 : ∀ u ∈ news, u.oneCell' = true)
  (hb : n + m ≤ 140737488355328) :
  ∃ v' w', (Builtin.append_ #[t, t] ty #[v, .slice (some a) m c]).run P w = .ok v' w' ∧ w'.ownsRowF 0 e 1 v' (n + m) (xs ++ news) ∧ w.grownBy w' v.ownBlock ∧ zm w v v' ∧ (v' = .slice none 0 0 ↔ v = .slice none 0 0 ∧ m = 0) := by
 obtain ⟨v', w', hr, h2, h3, h4⟩ := run_append_ownF (P := P) w 0 t ty e i z 1 1 ht hi hz hsize hby hzs (by decide) v n xs hown a m c news hl hnews h1 (by unfold maxLen; omega) (by omega) (Nat.zero_le _)
 refine ⟨v', w', hr, h2, h3, ?_, h4⟩
 rcases hown.2 with ⟨rfl, rfl⟩ | ⟨g, cap, cur, fz, rfl, _, hg, hfz, hnc, hcm, hcs, htake⟩
 ·obtain ⟨v2, w2, hr2, h22, _, _⟩ := run_append_ownF (P := P) w w.heap.size t ty e i z 1 1 ht hi hz hsize hby hzs (by decide) (.slice none 0 0) 0 xs ⟨hown.1, .inl ⟨rfl, rfl⟩⟩ a m c news hl hnews h1 (by unfold maxLen; omega) (by omega) (qiR _)
  rw [hr] at hr2
  cases hr2
  cases hv : v'.ownBlock with
  | none => exact .inl (by rw [hv]; rfl)
  | some g => exact .inr ⟨g, hv, (h22.lt g hv).1⟩
 ·by_cases hroom : n + m ≤ cap
  ·have hr2 := run_append_roomF (P := P) w t ty e i ht hi g n cap cur fz hg (by rw [hsize]; exact hfz) a m c news (by rw [hsize]; exact hl) hnews h1 hroom (by rw [hsize, hl, hcs]; omega)
   rw [hr] at hr2
   cases hr2
   exact .inl rfl
  ·have holds : ∀ j u, xs[j]? = some u → w.cell? ((⟨g, 0, none⟩ : Addr).add j) = some u := hown.cells (g := g) rfl
   have hr2 := run_append_grow (P := P) w t ty e i z ht hi hz ⟨g, 0, none⟩ n cap xs (by rw [hsize]; exact hown.1) holds a m c news (by rw [hsize]; exact hl) hnews (by omega) (by omega) (growslice_fits (by omega) (by rw [hby]; omega))
   rw [hr] at hr2
   cases hr2
   exact .inr ⟨_, rfl, qiR _⟩
theorem qeX {P : Program} (w : World) (t u ty e : TypeId) (i : TypeInfo) (ht : P.underlying t = some (.slice e)) (hu : P.underlying u = some .string) (hi : P.info? e = some i) (hz : i.zero = some (.int .u8 0)) (hsize : i.size = 1) (hby : i.bytes = 1)
  (v : Value) (n : Nat) (xs : List Value) (hown : w.ownsRowF 0 e 1 v n xs) (s : ByteArray) (hb : n + s.size ≤ 140737488355328) :
  ∃ v' w', (Builtin.append_ #[t, u] ty #[v, .string s]).run P w = .ok v' w' ∧ w'.ownsRowF 0 e 1 v' (n + s.size) (xs ++ strCells s) ∧ w.grownBy w' v.ownBlock ∧ zm w v v' ∧ (v' = .slice none 0 0 ↔ v = .slice none 0 0 ∧ s.size = 0) := by
 obtain ⟨v', w', hr, h2, h3, h4⟩ := run_append_own_stringF (P := P) w 0 t u ty e i ht hu hi hz hsize hby v n xs hown s (by unfold maxLen; omega) hb (Nat.zero_le _)
 refine ⟨v', w', hr, h2, h3, ?_, h4⟩
 rcases hown.2 with ⟨rfl, rfl⟩ | ⟨g, cap, cur, fz, rfl, _, hg, hfz, hnc, hcm, hcs, htake⟩
 ·obtain ⟨v2, w2, hr2, h22, _, _⟩ := run_append_own_stringF (P := P) w w.heap.size t u ty e i ht hu hi hz hsize hby (.slice none 0 0) 0 xs ⟨hown.1, .inl ⟨rfl, rfl⟩⟩ s (by unfold maxLen; omega) hb (qiR _)
  rw [hr] at hr2
  cases hr2
  cases hv : v'.ownBlock with
  | none => exact .inl (by rw [hv]; rfl)
  | some g => exact .inr ⟨g, hv, (h22.lt g hv).1⟩
 ·by_cases hroom : n + s.size ≤ cap
  ·have hr2 := run_append_room_stringF (P := P) w t u ty e i ht hu hi hsize g n cap cur fz hg (by simpa using hfz) s hroom (by omega)
   rw [hr] at hr2
   cases hr2
   exact .inl rfl
  ·have holds : ∀ j u, xs[j]? = some u → w.cell? ((⟨g, 0, none⟩ : Addr).add j) = some u := hown.cells (g := g) rfl
   have hr2 := run_append_grow_string (P := P) w t u ty e i (.int .u8 0) ht hu hi hz ⟨g, 0, none⟩ n cap xs (by rw [hsize]; exact hown.1) holds s (by omega) (by omega) (growslice_fits (by omega) (by rw [hby]; omega))
   rw [hr] at hr2
   cases hr2
   exact .inr ⟨_, rfl, qiR _⟩
theorem qe9 {P : Program} {w : World} {ops : Array Oper} {rest : List Oper} {o : Oper} {a : Act} {Q : Exit → Act → World → Prop} (hgd : o.guard = none) (s x : Operand) (t : TypeId)
  (ho : o.op = .call { callee := .builtin .append, args := #[s, x], argTypes := #[t, t] })
  (e : TypeId) (i : TypeInfo) (z : Value) (ht : P.underlying t = some (.slice e)) (hi : P.info? e = some i) (hz : i.zero = some z)
  (hsize : i.size = 1) (hby : i.bytes = 1) (hzs : z.cells.size = 1)
  (v : Value) (n : Nat) (xs : List Value) (hs : a.eval s = v) (hown : w.ownsRowF 0 e 1 v n xs)
  (ad : Addr) (m c : Nat) (news : List Value) (hx : a.eval x = .slice (some ad) m c) (hl : news.length = m * 1) (hnews : ∀ j u, news[j]? = some u → w.cell? (ad.add j) = some u) (h1 : ∀ u ∈ news, u.oneCell' = true)
  (hb : n + m ≤ 140737488355328)
  (h : ∀ v' w', w'.ownsRowF 0 e 1 v' (n + m) (xs ++ news) → w.grownBy w' v.ownBlock → zm w v v' → (v' = .slice none 0 0 ↔ v = .slice none 0 0 ∧ m = 0) → wpList P ops Q rest (a.put o.dst v') w') : wpList P ops Q (o :: rest) a w := by
 refine wpList_plain hgd fun K hK => ?_
 obtain ⟨v', w', hr, h2, h3, h4, h5⟩ := qfG (P := P) w t o.type e i z ht hi hz hsize hby hzs v n xs hown ad m c news hl hnews h1 hb
 unfold Oper.wp execOp
 simp only [ho, resolve, invoke, builtin, Sem.run_bind, Sem.run_pure, Result.andThen_ok, List.map_toArray, List.map_cons, List.map_nil, hs, hx, hr]
 exact hK _ _ (h v' w' h2 h3 h4 h5)
theorem qea {P : Program} {w : World} {ops : Array Oper} {rest : List Oper} {o : Oper} {a : Act} {Q : Exit → Act → World → Prop} (hgd : o.guard = none) (sl x : Operand) (t u : TypeId)
  (ho : o.op = .call { callee := .builtin .append, args := #[sl, x], argTypes := #[t, u] })
  (e : TypeId) (i : TypeInfo) (ht : P.underlying t = some (.slice e)) (hu : P.underlying u = some .string) (hi : P.info? e = some i) (hz : i.zero = some (.int .u8 0))
  (hsize : i.size = 1) (hby : i.bytes = 1)
  (v : Value) (n : Nat) (xs : List Value) (hs : a.eval sl = v) (hown : w.ownsRowF 0 e 1 v n xs) (s : ByteArray) (hx : a.eval x = .string s)
  (hb : n + s.size ≤ 140737488355328)
  (h : ∀ v' w', w'.ownsRowF 0 e 1 v' (n + s.size) (xs ++ strCells s) → w.grownBy w' v.ownBlock → zm w v v' → (v' = .slice none 0 0 ↔ v = .slice none 0 0 ∧ s.size = 0) → wpList P ops Q rest (a.put o.dst v') w') : wpList P ops Q (o :: rest) a w := by
 refine wpList_plain hgd fun K hK => ?_
 obtain ⟨v', w', hr, h2, h3, h4, h5⟩ := qeX (P := P) w t u o.type e i ht hu hi hz hsize hby v n xs hown s hb
 unfold Oper.wp execOp
 simp only [ho, resolve, invoke, builtin, Sem.run_bind, Sem.run_pure, Result.andThen_ok, List.map_toArray, List.map_cons, List.map_nil, hs, hx, hr]
 exact hK _ _ (h v' w' h2 h3 h4 h5)
structure BldTy (T : TypeId) : Prop where
 lies : liesAt Tryz.prog Tryz.prog.depth T (2 / Tryz.prog.cellsOf T) 0 102 1 = true
 ne : T ≠ 5
theorem qfF (b : Nat) (w : World) (h0 : w.cell? ⟨b, 0, none⟩ = some (.pointer (some ⟨b, 0, none⟩))) :
  Calls Tryz.prog 116 #[.pointer (some ⟨b, 0, none⟩)] w fun e w' => e = .returned (.tuple #[]) ∧ w' = w := by
 obtain ⟨j, hj, _⟩ := qiN.1 (show (Tryz.prog.info? 102).map (·.size) = some 2 by kernel_rfl)
 go_enter Tryz.func116, Tryz.ntmps116
 go_wp2
 rw [Lib.run_neq_ptr_same w _ Tryz.underlying100 hj]
 go_wp2
 go_end0
 exact ⟨rfl, rfl⟩
theorem qeW {T : TypeId} (hT : BldTy T) (b : Nat) (w : World) (h0 : w.cell? ⟨b, 0, none⟩ = some (.pointer none)) (hsh : w.shape? b = some (T, 2)) (hfz : w.frozen? ⟨b, 0, none⟩ = false) :
  Calls Tryz.prog 116 #[.pointer (some ⟨b, 0, none⟩)] w fun e w' => e = .returned (.tuple #[]) ∧ w' = w.setCell ⟨b, 0, none⟩ (.pointer (some ⟨b, 0, none⟩)) := by
 obtain ⟨j, hj, hjs⟩ := qiN.1 (show (Tryz.prog.info? 102).map (·.size) = some 2 by kernel_rfl)
 go_enter Tryz.func116, Tryz.ntmps116
 go_wp2
 rw [Lib.run_to_unsafe w ⟨b, 0, none⟩ Tryz.underlying100 Tryz.underlying168 hj (by rw [hjs]; decide) hsh (Nat.zero_lt_succ 1)]
 simp only [Result.andThen]
 rw [Oper.upon_value]
 go_wp2
 rw [run_callFunc_extern Tryz.func153 (by kernel_rfl) (by kernel_rfl) (by kernel_rfl) (e := Extern.AbiNoEscape.same) (by kernel_rfl)]
 rw [Lib.run_noEscape]
 simp only [Result.andThen]
 rw [Oper.upon_value]
 go_wp2
 rw [Lib.run_from_unsafe w ⟨b, 0, none⟩ Tryz.underlying168 Tryz.underlying100 hj hsh hT.lies]
 simp only [Result.andThen]
 rw [Oper.upon_value]
 go_wp2
 go_end0
 exact ⟨rfl, rfl⟩
structure Only1 (w w' : World) (b : Nat) : Prop where
 os : w'.os = w.os
 tape : w'.tape = w.tape
 output : w'.output = w.output
 size : w'.heap.size = w.heap.size
 block : ∀ k, k ≠ b → w'.heap[k]? = w.heap[k]?
theorem qhj {T : TypeId} (hT : BldTy T) (b : Nat) (p v : Value) (n : Nat) (bs : List Value) (w : World) (hbk : w.heap[b]? = some (.cells #[p, v] T (0, 0))) (hp : p = .pointer none ∨ p = .pointer (some ⟨b, 0, none⟩))
  (hown : w.ownsRowF 0 5 1 v n bs) (hne : v.ownBlock ≠ some b) :
  Calls Tryz.prog 116 #[.pointer (some ⟨b, 0, none⟩)] w fun e w' => e = .returned (.tuple #[]) ∧ w'.heap[b]? = some (.cells #[.pointer (some ⟨b, 0, none⟩), v] T (0, 0)) ∧ w'.ownsRowF 0 5 1 v n bs ∧
   Only1 w w' b := by
 have hc0 : w.cell? ⟨b, 0, none⟩ = some p := by rw [Lib.cell_of_heap hbk]; rfl
 rcases hp with rfl | rfl
 ·refine (qeW hT b w hc0 (by simp [World.shape?, hbk]) (Lib.frozen_of_heap hbk 0)).mono ?_
  rintro e w' ⟨rfl, rfl⟩
  have hk : ∀ k, k ≠ b → (w.setCell ⟨b, 0, none⟩ (.pointer (some ⟨b, 0, none⟩))).heap[k]? = w.heap[k]? := fun k hk => Below.heap_setCell _ _ _ _ hk
  refine ⟨rfl, by simp [World.setCell, Array.getElem?_modify, hbk], hown.kept (row := some b) ⟨rfl, rfl, rfl, by simp [World.setCell], fun k _ hk' => hk k (fun e => hk' (by rw [e]))⟩ (.inr hne), ⟨rfl, rfl, rfl, by simp [World.setCell], hk⟩⟩
 ·refine (qfF b w hc0).mono ?_
  rintro e w' ⟨rfl, rfl⟩
  exact ⟨rfl, hbk, hown, ⟨rfl, rfl, rfl, rfl, fun _ _ => rfl⟩⟩
theorem qgz {T : TypeId} (hT : BldTy T) (b : Nat) (p v : Value) (bs : List Value) (c : Int) (w : World) (hbk0 : w.heap[b]? = some (.cells #[p, v] T (0, 0))) (hp : p = .pointer none ∨ p = .pointer (some ⟨b, 0, none⟩))
  (hown0 : w.ownsRowF 0 5 1 v bs.length bs) (hne : v.ownBlock ≠ some b) (hlen : bs.length + 1 ≤ 140737488355328) :
  Calls Tryz.prog 113 #[.pointer (some ⟨b, 0, none⟩), .int .u8 c] w fun e w' => e = .returned .nilIface ∧ ∃ v', w'.heap[b]? = some (.cells #[.pointer (some ⟨b, 0, none⟩), v'] T (0, 0)) ∧
   w'.ownsRowF 0 5 1 v' (bs.length + 1) (bs ++ [.int .u8 c]) ∧ v'.ownBlock ≠ some b ∧ Kept2 w w' b v ∧ zm w v v' := by
 obtain ⟨i0, hi, hi2⟩ := qiN.1 (show (Tryz.prog.info? 5).map (fun i => (i.zero, i.size, i.bytes)) = some (some (.int .u8 0), 1, 1) by kernel_rfl)
 simp only [Prod.mk.injEq] at hi2
 obtain ⟨hz0, hz1, hz2⟩ := hi2
 have hlt0 : b < w.heap.size := by
  rcases Nat.lt_or_ge b w.heap.size with h' | h'
  ·exact h'
  ·simp [Array.getElem?_eq_none h'] at hbk0
 go_enter Tryz.func113, Tryz.ntmps113
 go_wp2_with (go_at_call 116; refine (qhj hT b p v _ bs _ hbk0 hp hown0 hne).mono ?_)
 rintro e w1 ⟨rfl, hbk, hown, hk⟩
 have c0 : w1.cell? ⟨b, 0, none⟩ = some (.pointer (some ⟨b, 0, none⟩)) := by rw [Lib.cell_of_heap hbk]; rfl
 have c1 : w1.cell? ⟨b, 1, none⟩ = some v := by rw [Lib.cell_of_heap hbk]; rfl
 have hlt : b < w1.heap.size := by rw [hk.size]; exact hlt0
 go_wp2_with (at_builtin; go_loud (refine qe9 rfl _ _ 92 rfl 5 i0 (.int .u8 0) Tryz.underlying92 hi hz0 hz1 hz2 rfl _ _ _ rfl (hown.alloc _) ⟨w1.heap.size, 0, none⟩ 1 1 [.int .u8 c] rfl rfl ?c1 ?c2 ?c3 ?_))
 case c1 =>
  intro j u hj
  match j, hj with
  | 0, hj => simp at hj; subst hj; simp [Addr.add]
 case c2 => intro u hu; simp at hu; subst hu; rfl
 case c3 => exact hlen
 intro v' w2 hown' hgrow hnew hnil
 have hb2 : w2.heap[b]? = some (.cells #[.pointer (some ⟨b, 0, none⟩), v] T (0, 0)) := by
  rw [hgrow.block b (by simp; omega) (fun e => hne e.symm), Lib.alloc_old w1 _ b hlt]
  exact hbk
 have d0 : w2.cell? ⟨b, 0, none⟩ = some (.pointer (some ⟨b, 0, none⟩)) := by rw [Lib.cell_of_heap hb2]; rfl
 have d1 : w2.cell? ⟨b, 1, none⟩ = some v := by rw [Lib.cell_of_heap hb2]; rfl
 have f1 : w2.frozen? ⟨b, 1, none⟩ = false := Lib.frozen_of_heap hb2 1
 obtain ⟨g, cap, rfl⟩ : ∃ g cap, v' = .slice (some ⟨g, 0, none⟩) (bs.length + 1) cap := by
  rcases hown'.2 with ⟨_, h0⟩ | ⟨g, cap, cur, fz, hv, _⟩
  ·omega
  ·exact ⟨g, cap, hv⟩
 go_wp2
 go_ret
 have hne' : (Value.slice (some ⟨g, 0, none⟩) (bs.length + 1) cap).ownBlock ≠ some b := by
  rcases hnew with h | ⟨g', h, hg'⟩
  ·rw [h]; exact hne
  ·rw [h]; intro e; cases e; simp at hg'; omega
 refine ⟨rfl, _, by simp [World.setCell, Array.getElem?_modify, hb2], hown'.kept (row := some b) ⟨rfl, rfl, rfl, by simp [World.setCell], fun k _ hk' => Below.heap_setCell _ _ _ _ (fun e => hk' (by simp [e]))⟩ (.inr hne'), hne', ?_, ?_⟩
 ·exact ⟨hgrow.os.trans hk.os, hgrow.tape.trans hk.tape, hgrow.output.trans hk.output, by have := hgrow.size; simp [World.setCell] at this ⊢; have := hk.size; omega, fun k hlt' hkb hkv => by
   rw [Below.heap_setCell _ _ _ _ hkb, hgrow.block k (by have := hk.size; simp; omega) hkv, Lib.alloc_old w1 _ k (by rw [hk.size]; exact hlt'), hk.block k hkb]⟩
 ·rcases hnew with h | ⟨g', h, hg'⟩
  ·exact .inl h
  ·exact .inr ⟨g', h, by have := hk.size; simp at hg'; omega⟩
theorem qeV {T : TypeId} (hT : BldTy T) (b : Nat) (p v : Value) (bs : List Value) (s : ByteArray) (w : World) (hbk0 : w.heap[b]? = some (.cells #[p, v] T (0, 0))) (hp : p = .pointer none ∨ p = .pointer (some ⟨b, 0, none⟩))
  (hown0 : w.ownsRowF 0 5 1 v bs.length bs) (hne : v.ownBlock ≠ some b) (hlen : bs.length + s.size ≤ 140737488355328) :
  Calls Tryz.prog 68 #[.pointer (some ⟨b, 0, none⟩), .string s] w fun e w' => e = .returned (.tuple #[.int .i64 s.size, .nilIface]) ∧ ∃ v', w'.heap[b]? = some (.cells #[.pointer (some ⟨b, 0, none⟩), v'] T (0, 0)) ∧
   w'.ownsRowF 0 5 1 v' (bs.length + s.size) (bs ++ strCells s) ∧ v'.ownBlock ≠ some b ∧ Kept2 w w' b v ∧ zm w v v' ∧ (v' = .slice none 0 0 ↔ v = .slice none 0 0 ∧ s.size = 0) := by
 obtain ⟨i0, hi, hi2⟩ := qiN.1 (show (Tryz.prog.info? 5).map (fun i => (i.zero, i.size, i.bytes)) = some (some (.int .u8 0), 1, 1) by kernel_rfl)
 simp only [Prod.mk.injEq] at hi2
 obtain ⟨hz0, hz1, hz2⟩ := hi2
 have hlt0 : b < w.heap.size := by
  rcases Nat.lt_or_ge b w.heap.size with h' | h'
  ·exact h'
  ·simp [Array.getElem?_eq_none h'] at hbk0
 go_enter Tryz.func68, Tryz.ntmps68
 go_wp2_with (go_at_call 116; refine (qhj hT b p v _ bs _ hbk0 hp hown0 hne).mono ?_)
 rintro e w1 ⟨rfl, hbk, hown, hk⟩
 have c0 : w1.cell? ⟨b, 0, none⟩ = some (.pointer (some ⟨b, 0, none⟩)) := by rw [Lib.cell_of_heap hbk]; rfl
 have c1 : w1.cell? ⟨b, 1, none⟩ = some v := by rw [Lib.cell_of_heap hbk]; rfl
 have hlt : b < w1.heap.size := by rw [hk.size]; exact hlt0
 go_wp2_with (at_builtin; go_loud (refine qea rfl _ _ 92 9 rfl 5 i0 Tryz.underlying92 Tryz.underlying9 hi hz0 hz1 hz2 _ _ _ rfl hown s rfl ?c3 ?_))
 case c3 => exact hlen
 intro v' w2 hown' hgrow hnew hnil
 have hb2 : w2.heap[b]? = some (.cells #[.pointer (some ⟨b, 0, none⟩), v] T (0, 0)) := by
  rw [hgrow.block b hlt (fun e => hne e.symm)]
  exact hbk
 have d0 : w2.cell? ⟨b, 0, none⟩ = some (.pointer (some ⟨b, 0, none⟩)) := by rw [Lib.cell_of_heap hb2]; rfl
 have d1 : w2.cell? ⟨b, 1, none⟩ = some v := by rw [Lib.cell_of_heap hb2]; rfl
 have f1 : w2.frozen? ⟨b, 1, none⟩ = false := Lib.frozen_of_heap hb2 1
 obtain ⟨ao, n', cap, rfl⟩ : ∃ ao n' cap, v' = .slice ao n' cap := by
  rcases hown'.2 with ⟨hv, _⟩ | ⟨g, cap, cur, fz, hv, _⟩
  ·exact ⟨_, _, _, hv⟩
  ·exact ⟨_, _, _, hv⟩
 go_wp2
 go_ret2
 have hne' : (Value.slice ao n' cap).ownBlock ≠ some b := by
  rcases hnew with h | ⟨g', h, hg'⟩
  ·rw [h]; exact hne
  ·rw [h]; intro e; cases e; omega
 refine ⟨rfl, _, by simp [World.setCell, Array.getElem?_modify, hb2], hown'.kept (row := some b) ⟨rfl, rfl, rfl, by simp [World.setCell], fun k _ hk' => Below.heap_setCell _ _ _ _ (fun e => hk' (by simp [e]))⟩ (.inr hne'), hne', ?_, ?_, by simpa using hnil⟩
 ·exact ⟨hgrow.os.trans hk.os, hgrow.tape.trans hk.tape, hgrow.output.trans hk.output, by have := hgrow.size; simp [World.setCell] at this ⊢; have := hk.size; omega, fun k hlt' hkb hkv => by
   rw [Below.heap_setCell _ _ _ _ hkb, hgrow.block k (by have := hk.size; omega) hkv, hk.block k hkb]⟩
 ·rcases hnew with h | ⟨g', h, hg'⟩
  ·exact .inl h
  ·exact .inr ⟨g', h, by have := hk.size; omega⟩
theorem qib {T : TypeId} (b : Nat) (p v : Value) (l : List UInt8) (w : World) (hbk : w.heap[b]? = some (.cells #[p, v] T (0, 0)))
  (hown0 : w.ownsRowF 0 5 1 v l.length (byteCells l)) (hne : v.ownBlock ≠ some b) (hnil : l = [] → v = .slice none 0 0) :
  Calls Tryz.prog 66 #[.pointer (some ⟨b, 0, none⟩)] w fun e w' => e = .returned (.string ⟨l.toArray⟩) ∧ w'.heap[b]? = some (.cells #[p, v] T (0, 0)) ∧
   w'.ownsRowF 0 5 1 v l.length (byteCells l) ∧ Kept2 w w' b v := by
 have mixed : Tryz.prog.follows .mixedOrders = true := by kernel_rfl
 by_cases h0 : l = []
 ·obtain rfl := h0
  obtain rfl := hnil rfl
  have hUS : ∀ W : World, ∀ q, (Builtin.unsafeString_ #[138, 3] 9 #[.pointer q, .int .i64 0]).run Tryz.prog W = .ok (.string .empty) W := fun W q => Lib.run_unsafeString_none W _ _ _ q
  have c1 : w.drew.cell? ⟨b, 1, none⟩ = some (.slice none 0 0) := by
   have : w.drew.heap[b]? = some (.cells #[p, .slice none 0 0] T (0, 0)) := hbk
   rw [Lib.cell_of_heap this]; rfl
  have hSD : (Builtin.unsafeSliceData_ #[92] 138 #[.slice none 0 0]).run Tryz.prog w.drew = .ok (.pointer none) w.drew := rfl
  go_enter Tryz.func66, Tryz.ntmps66
  go_wp2
  go_region_o
  all_goals (go_wp2; go_ret; exact ⟨rfl, hbk, hown0, ⟨rfl, rfl, rfl, qiR _, fun _ _ _ _ => rfl⟩⟩)
 ·have hl0 : l.length ≠ 0 := by simpa using h0
  have hown := hown0
  obtain ⟨g, cap, cur, fz, rfl, hg, hfz, hnc, hcm, hcs, htake⟩ : ∃ g cap cur fz, v = .slice (some ⟨g, 0, none⟩) l.length cap ∧ w.heap[g]? = some (.cells cur 5 fz) ∧ fz.2 ≤ l.length * 1 ∧ l.length ≤ cap ∧ cap ≤ maxLen ∧ cur.size = cap * 1 ∧ cur.toList.take (l.length * 1) = Lib.byteCells l := by
   rcases hown.2 with ⟨_, hz⟩ | ⟨g, cap, cur, fz, hv, _, r⟩
   ·exact absurd hz hl0
   ·exact ⟨g, cap, cur, fz, hv, r⟩
  have hgb : g ≠ b := fun e => hne (by simp [Value.ownBlock, e])
  have c1 : w.drew.cell? ⟨b, 1, none⟩ = some (.slice (some ⟨g, 0, none⟩) l.length cap) := by
   have : w.drew.heap[b]? = some (.cells #[p, .slice (some ⟨g, 0, none⟩) l.length cap] T (0, 0)) := hbk
   rw [Lib.cell_of_heap this]; rfl
  have hSD : (Builtin.unsafeSliceData_ #[92] 138 #[.slice (some ⟨g, 0, none⟩) l.length cap]).run Tryz.prog w.drew = .ok (.pointer (some ⟨g, 0, none⟩)) w.drew :=
   Lib.run_unsafeSliceData_row _ _ _ _ _ _ (by omega)
  have hUS : (Builtin.unsafeString_ #[138, 3] 9 #[.pointer (some ⟨g, 0, none⟩), .int .i64 l.length]).run Tryz.prog w.drew = .ok (.string ⟨l.toArray⟩) (w.drew.freeze ⟨g, 0, none⟩ l.length) := by
   refine Lib.run_unsafeString_row w.drew 138 3 9 5 Tryz.underlying138 (by kernel_rfl) g cur.size (by have hg' : w.drew.heap[g]? = some (.cells cur 5 fz) := hg; simp [World.shape?, hg']) l h0 (by omega) (by unfold maxLen at hcm; omega) ?_
   intro j x hx
   exact hown.cells (g := g) rfl j (.int .u8 x.toNat) (by simp [Lib.byteCells, hx])
  have hA : Lib.BuilderAtF T 5 0 b p (Lib.byteCells l) w.drew := ⟨Nat.zero_le _, _, hbk, by rw [Lib.byteCells_length]; exact hown0, hne⟩
  have hF := hA.froze (g := g) (cap := cap) (by rw [Lib.byteCells_length]; exact c1)
  rw [Lib.byteCells_length] at hF
  have hfin : (w.drew.freeze ⟨g, 0, none⟩ l.length).heap[b]? = some (.cells #[p, .slice (some ⟨g, 0, none⟩) l.length cap] T (0, 0)) ∧
   (w.drew.freeze ⟨g, 0, none⟩ l.length).ownsRowF 0 5 1 (.slice (some ⟨g, 0, none⟩) l.length cap) l.length (byteCells l) ∧ Kept2 w (w.drew.freeze ⟨g, 0, none⟩ l.length) b (.slice (some ⟨g, 0, none⟩) l.length cap) := by
   have hfb : ∀ k, k ≠ g → (w.drew.freeze ⟨g, 0, none⟩ l.length).heap[k]? = w.heap[k]? := fun k hk => by
    unfold World.freeze
    split
    ·rfl
    ·simp [Array.getElem?_modify, hk.symm]
     rfl
   have hb' := (hfb b hgb.symm).trans hbk
   obtain ⟨_, v2, q1, q2, q3⟩ := hF
   rw [hb'] at q1
   simp only [Option.some.injEq, Obj.cells.injEq, Array.mk.injEq, List.cons.injEq] at q1
   obtain ⟨⟨_, rfl, _⟩, _⟩ := q1
   rw [Lib.byteCells_length] at q2
   refine ⟨hb', q2, ?_⟩
   have hs : (w.drew.freeze ⟨g, 0, none⟩ l.length).os = w.os ∧ (w.drew.freeze ⟨g, 0, none⟩ l.length).tape = w.tape ∧ (w.drew.freeze ⟨g, 0, none⟩ l.length).output = w.output ∧ (w.drew.freeze ⟨g, 0, none⟩ l.length).heap.size = w.heap.size := by
    unfold World.freeze
    split
    ·exact ⟨rfl, rfl, rfl, rfl⟩
    ·exact ⟨rfl, rfl, rfl, by simp⟩
   exact ⟨hs.1, hs.2.1, hs.2.2.1, by rw [hs.2.2.2]; exact qiR _, fun k _ _ hk => hfb k fun e => hk (by rw [e]; rfl)⟩
  clear hF hA
  go_enter Tryz.func66, Tryz.ntmps66
  go_wp2
  go_region_o
  all_goals (go_wp2; go_ret; exact ⟨rfl, hfin⟩)
end Go.Proofs.YtnjonahoheopnaaGreatDoor
end
section
namespace Go.Av
abbrev Rz := List (List AV)
abbrev Bz := List UInt8
inductive Tm where
 | mk (k n : Int) (s : List UInt8) (l : List Tm)
 deriving Inhabited
namespace Tm
def str : Tm → List UInt8 | mk _ _ s _ => s
end Tm
mutual
def Tm.cells : Tm → List AV
 | .mk k n s l => [.int .i64 k, .int .i64 n, .str s, .sl (zr l)]
def zr : List Tm → List (List AV)
 | [] => []
 | t :: l => t.cells :: zr l
end
theorem qdz : ∀ l : List Tm, zr l = l.map Tm.cells
 | [] => by rw [zr]; rfl
 | t :: l => by rw [zr, qdz l]; rfl
@[simp] theorem rowsT_length (l : List Tm) : (zr l).length = l.length := by rw [qdz]; simp
@[simp] theorem rowsT_nil : zr [] = [] := by rw [zr]
mutual
/-- no list is longer than is counted here, no text -/
def Tm.Ok : Tm → Prop
 | .mk _ _ s l => s.length < 1099511627776 ∧ l.length < 1099511627776 ∧ OkL l
def OkL : List Tm → Prop
 | [] => True
 | t :: l => t.Ok ∧ OkL l
end
theorem qfW {l : List Tm} : OkL l ↔ ∀ t ∈ l, t.Ok := by
 induction l with
 | nil => simp [OkL]
 | cons t l ih => simp [OkL, ih]
theorem Tm.Ok.str {k n : Int} {s : List UInt8} {l : List Tm} (h : (Tm.mk k n s l).Ok) : s.length < 1099511627776 := by rw [Tm.Ok] at h; exact h.1
theorem Tm.Ok.len {k n : Int} {s : List UInt8} {l : List Tm} (h : (Tm.mk k n s l).Ok) : l.length < 1099511627776 := by rw [Tm.Ok] at h; exact h.2.1
theorem Tm.Ok.sub {k n : Int} {s : List UInt8} {l : List Tm} (h : (Tm.mk k n s l).Ok) {t : Tm} (ht : t ∈ l) : t.Ok := by rw [Tm.Ok] at h; exact qfW.1 h.2.2 t ht
theorem OkL.get {l : List Tm} (h : OkL l) {t : Tm} (ht : t ∈ l) : t.Ok := qfW.1 h t ht
mutual
def Tm.w : Tm → Nat
 | .mk _ _ s l => 1 + s.length + wL l
def wL : List Tm → Nat
 | [] => 0
 | t :: l => t.w + wL l
end
@[simp] theorem wL_nil : wL [] = 0 := by rw [wL]
@[simp] theorem wL_cons (t : Tm) (l : List Tm) : wL (t :: l) = t.w + wL l := by rw [wL]
@[simp] theorem wL_append (a b : List Tm) : wL (a ++ b) = wL a + wL b := by
 induction a with
 | nil => simp
 | cons t l ih => simp [ih]; omega
end Go.Av
end
section
namespace Go.Proofs.YtnjonahoheopnaaGreatDoor
open Go.Av
def C0 (W : World) : qa := fun b o => W.cell? ⟨b, o, none⟩
def M0 : MMap := fun _ => none
structure TermTys (P : Program) (tT tL tI tS : TypeId) : Prop where
 uT : ∃ f0 f1 f2 f3 : Field, P.underlying tT = some (.struct #[f0, f1, f2, f3]) ∧ f0.type = tI ∧ f0.offset = 0 ∧ f1.type = tI ∧ f1.offset = 1 ∧ f2.type = tS ∧ f2.offset = 2 ∧ f3.type = tL ∧ f3.offset = 3
 uL : P.underlying tL = some (.slice tT)
 uI : P.underlying tI = some (.int .i64)
 uS : P.underlying tS = some .string
 cT : P.cellsOf tT = 4
 cL : P.cellsOf tL = 1
 cI : P.cellsOf tI = 1
 cS : P.cellsOf tS = 1
section
variable {H : Type} {enc : TypeId × Value → H} {P : Program} {W : World} {tT tL tI tS : TypeId}
end
end Go.Proofs.YtnjonahoheopnaaGreatDoor
end
section
namespace Go.Proofs.YtnjonahoheopnaaGreatDoor
open Go.Av Go.RowKit
theorem qbr : ∀ {rows : List (List AV)} {xs : List (List UInt8)}, zO rows = some xs → rows = xs.map fun s => [.str s]
 | [], xs, h => by simp [zO] at h; subst h; rfl
 | row :: l, xs, h => by
  unfold zO at h
  split at h
  ·rename_i heq; cases heq
  ·rename_i s l' heq
   cases heq
   split at h
   ·rename_i q hq; cases h; rw [List.map_cons, ← qbr hq]
   ·cases h
  ·cases h
def OkU [Lent] (f : FuncId) (s : List AV → AH → Option (AV × AH)) : Prop :=
 ∀ args H r H', s args H = some (r, H') → ∀ C μ w vs, qc C μ args vs → Wld C μ H w → qq Tryz.prog (callFunc f vs) w (qv C μ H w r H')
theorem qeu [Lent] {f : FuncId} {s : List AV → AH → Option (AV × AH)} : ∀ {l : List (Nat × (List AV → AH → Option (AV × AH)))}, (∀ p ∈ l, OkU p.1 p.2) → yR f l = some s → OkU f s
 | [], _, h => by cases h
 | p :: l, hp, h => by
  rw [yR] at h
  split at h
  ·rename_i e
   have e := qiQ e
   cases h
   subst e
   exact hp p (by simp)
  ·exact qeu (fun q hq => hp q (by simp [hq])) h
theorem qbQ {T e : TypeId} (h : qcy xB.look T e = true) : e = 5 ∧ BldTy T := by
 have ok : xB.All fun T e => e = 5 ∧ BldTy T := by
  unfold xB
  repeat (first | exact trivial | refine BT.all_node ⟨rfl, ⟨by kernel_rfl, by decide⟩⟩ ?_ ?_)
 unfold qcy at h
 split at h
 ·rename_i e' he
  obtain ⟨h1, h2⟩ := BT.all_look ok he
  exact ⟨by rw [← h1]; exact (qiQ h).symm, h2⟩
 ·cases h
section
variable [Lent] {C : qa} {μ : MMap} {w w' : World}
theorem qdm {T e : TypeId} {s : List UInt8} {l : AH} {x : Value} (hr : Rep C μ (.ptr 0 0 0) x) (hw : Wld C μ (.bld T e s :: l) w) : ∃ m, μ 0 = some m ∧ x = .pointer (some ⟨m.block, 0, none⟩) ∧ zn w m T e s := by
 cases hr with
 | ptr _ _ _ m hm =>
  have hb : zn w m T e s := (hw.liveM (id := 0) rfl rfl hm).2.2
  refine ⟨m, hm, ?_, hb⟩
  rw [hb.1]
  simp
theorem qbY {T e : TypeId} {s s' : List UInt8} {l : AH} {m : MI} {v v' p' : Value} {r : AV} {rv : Value} (hw : Wld C μ (.bld T e s :: l) w) (hm : μ 0 = some m) (hb0 : m.base = 0) (hold : ∀ g, v.ownBlock = some g → m.has g)
  (hk : Kept2 w w' m.block v) (hnew : w'.heap[m.block]? = some (.cells #[p', v'] T (0, 0))) (hp' : p' = .pointer none ∨ p' = .pointer (some ⟨m.block, 0, none⟩)) (hown : w'.ownsRowF 0 e 1 v' s'.length (Lib.byteCells s')) (hne : v'.ownBlock ≠ some m.block)
  (hnil : s' = [] → v' = .slice none 0 0) (hbuf : zm w v v') (hr : ∀ μ', Rep C μ' r rv) : qv C μ (.bld T e s :: l) w r (.bld T e s' :: l) rv w' := by
 have hbl : ∀ x, v'.ownBlock = some x → m.has x ∨ (w.heap.size ≤ x ∧ x < w'.heap.size) := fun x hx => by
  rcases hbuf with h | ⟨g, h, hg⟩
  ·exact .inl (hold x (h ▸ hx))
  ·rw [hx] at h; cases h; exact .inr ⟨hg, (hown.lt x hx).2⟩
 obtain ⟨a1, a2⟩ := hw.grow (id := 0) (blk' := .bld T e s') (m' := m.plus v'.ownBlock) rfl rfl rfl hm (m.plus_le _) hk.size
  (fun x hx => by
   rcases MI.plus_has hx with h | h
   ·exact .inl h
   ·exact hbl x h)
  (fun k hk1 hk2 => hk.block k hk1 (fun e => hk2 (e ▸ m.has_block)) (fun e => hk2 (hold k e.symm)))
  ⟨hb0, p', v', hnew, hp', hown, hne, hnil, fun g hg => MI.has_plus hg⟩ trivial hk.os hk.tape hk.output
 exact ⟨C, _, hr _, a1, a2⟩
theorem qd9 : OkU 113 (zh xB.look) := fun args H r H' hr C μ w vs ha hw => by
 unfold zh at hr
 split at hr
 case h_2 => cases hr
 rename_i c T e s l
 split at hr
 case isFalse => cases hr
 rename_i hc
 cases hr
 obtain ⟨h1, h2, h3, h4⟩ := hc
 obtain ⟨rfl, hT⟩ := qbQ h1
 obtain ⟨hl, hv⟩ := ha
 obtain ⟨x, y, rfl⟩ := yY hl
 have q1 := hv 1 _ _ rfl rfl
 cases q1
 obtain ⟨m, hm, rfl, hb0, p, v, b1, b2, b3, b4, b5, b6⟩ := qdm (hv 0 _ _ rfl rfl) hw
 rw [← Lib.byteCells_length s] at b3
 refine qD Tryz.func113 (by rfl) rfl ((qgz hT m.block p v (Lib.byteCells s) c w b1 b2 b3 b4 (by rw [Lib.byteCells_length]; omega)).mono fun e' w' ⟨e1, v', e2, e3, e4, e5, e6⟩ => ⟨_, e1, ?_⟩)
 have hcat : Lib.byteCells s ++ [.int .u8 c] = Lib.byteCells (s ++ [c.toNat.toUInt8]) := by
  simp [Lib.byteCells]
  omega
 rw [hcat, Lib.byteCells_length] at e3
 refine qbY hw hm hb0 b6 e5 e2 (.inr rfl) (by simpa using e3) e4 (fun h => by simp at h) e6 fun _ => .nilI
theorem qc9 : OkU 68 (yg xB.look) := fun args H r H' hr C μ w vs ha hw => by
 unfold yg at hr
 split at hr
 case h_2 => cases hr
 rename_i t T e s l
 split at hr
 case isFalse => cases hr
 rename_i hc
 cases hr
 obtain ⟨h1, h2⟩ := hc
 obtain ⟨rfl, hT⟩ := qbQ h1
 obtain ⟨hl, hv⟩ := ha
 obtain ⟨x, y, rfl⟩ := yY hl
 have q1 := hv 1 _ _ rfl rfl
 cases q1
 obtain ⟨m, hm, rfl, hb0, p, v, b1, b2, b3, b4, b5, b6⟩ := qdm (hv 0 _ _ rfl rfl) hw
 rw [← Lib.byteCells_length s] at b3
 have hts : (⟨t.toArray⟩ : ByteArray).size = t.length := by simp [ByteArray.size]
 refine qD Tryz.func68 (by rfl) rfl ((qeV hT m.block p v (Lib.byteCells s) ⟨t.toArray⟩ w b1 b2 b3 b4 (by rw [Lib.byteCells_length, hts]; omega)).mono fun e' w' ⟨e1, v', e2, e3, e4, e5, e6, e7⟩ => ⟨_, e1, ?_⟩)
 have hcat : Lib.byteCells s ++ Lib.strCells ⟨t.toArray⟩ = Lib.byteCells (s ++ t) := by
  simp [Lib.byteCells, Lib.strCells]
 rw [hcat, Lib.byteCells_length, hts] at e3
 refine qbY hw hm hb0 b6 e5 e2 (.inr rfl) (by simpa using e3) e4 (fun h => ?_) e6 fun _ => ?_
 ·simp only [List.append_eq_nil_iff] at h
  exact e7.2 ⟨b5 h.1, by rw [hts, h.2]; rfl⟩
 ·rw [hts]
  exact Rep.tup [.int .i64 t.length, .nilI] [.int .i64 t.length, .nilIface] rfl fun i a u h1 h2 => by
   rcases i with _ | _ | i
   ·simp at h1 h2; subst h1; subst h2; exact .int _ _
   ·simp at h1 h2; subst h1; subst h2; exact .nilI
   ·simp at h1
theorem qgQ : OkU 66 (qa2 xB.look) := fun args H r H' hr C μ w vs ha hw => by
 unfold qa2 at hr
 split at hr
 case h_2 => cases hr
 rename_i T e s l
 split at hr
 case isFalse => cases hr
 rename_i hc
 cases hr
 obtain ⟨h1, h2⟩ := hc
 obtain ⟨rfl, hT⟩ := qbQ h1
 obtain ⟨hl, hv⟩ := ha
 obtain ⟨x, rfl⟩ : ∃ x, vs = #[x] := by
  obtain ⟨l⟩ := vs
  match l, hl with
  | [x], _ => exact ⟨x, rfl⟩
 obtain ⟨m, hm, rfl, hb0, p, v, b1, b2, b3, b4, b5, b6⟩ := qdm (hv 0 _ _ rfl rfl) hw
 refine qD Tryz.func66 (by rfl) rfl ((qib m.block p v s w b1 b3 b4 b5).mono fun e' w' ⟨e1, e2, e3, e4⟩ => ⟨_, e1, ?_⟩)
 exact qbY hw hm hb0 b6 e4 e2 b2 e3 b4 b5 (.inl rfl) fun _ => .str _
end
section
variable [Lent] {C : qa} {μ : MMap} {w w' : World}
def qhX [Lent] (g : Nat) : Prop := ∃ v t fz, Lent.l g 0 = some v ∧ Lent.k g = some (.cells (Lib.pow10Tab.map fun z => Value.int .u64 z).toArray t fz)
theorem qh6 (hT : ∃ g, Tryz.prog.globalNamed "internal/strconv.uint64pow10" = some g ∧ qhX g) : OkU 29 qdh := fun args H r H' hr C μ w vs ha hw => by
 unfold qdh at hr
 split at hr
 case h_2 => cases hr
 rename_i n
 split at hr
 case isFalse => cases hr
 rename_i hc
 cases hr
 obtain ⟨hl, hv⟩ := ha
 obtain ⟨x, rfl⟩ : ∃ x, vs = #[x] := by
  obtain ⟨l⟩ := vs
  match l, hl with
  | [x], _ => exact ⟨x, rfl⟩
 have q0 := hv 0 _ _ rfl rfl
 cases q0
 obtain ⟨g, hg, v, t, fz, t1, t2⟩ := hT
 have htab : Lib.TabIs Tryz.prog w "internal/strconv.uint64pow10" .u64 Lib.pow10Tab := by
  have := (hw.lnt.1 g 0 v t1).2 _ t2
  unfold Lib.TabIs World.var?
  simp only [hg, qi1, this]
 refine qD Tryz.func29 (by rfl) rfl ((Tryz.strconv_Itoa n hc.1 hc.2 w htab).mono fun e w' ⟨e1, k, os, e2⟩ => ⟨_, e1, ?_⟩)
 subst e2
 rw [qhF hc.1 hc.2]
 exact yE hw (Go.Lib.below_grow _ w (qiR _) k os) (.str _)
theorem qh5 : OkU 32 qfV := fun args H r H' hr C μ w vs ha hw => by
 unfold qfV at hr
 split at hr
 case h_2 => cases hr
 rename_i rows sep
 split at hr
 case h_2 => cases hr
 rename_i xs hxs
 split at hr
 case isFalse => cases hr
 rename_i hc
 cases hr
 obtain rfl := qbr hxs
 obtain ⟨hl, hv⟩ := ha
 obtain ⟨x, y, rfl⟩ := yY hl
 have q0 := hv 0 _ _ rfl rfl
 have q1 := hv 1 _ _ rfl rfl
 cases q1
 generalize hrows : xs.map (fun s => [AV.str s]) = rows at q0
 by_cases hx : xs = []
 ·subst hx
  simp at hrows
  subst hrows
  have fin : ∀ a c, x = .slice a 0 c → qq Tryz.prog (callFunc 32 #[x, .string ⟨sep.toArray⟩]) w (qv C μ H w (.str (Lib.join [] sep)) H) := fun a c hxx => by
   subst hxx
   refine qD Tryz.func32 (by rfl) rfl ((Tryz.strings_Join_none a c ⟨sep.toArray⟩ w).mono fun e w' ⟨e1, e2⟩ => ⟨_, e1, ?_⟩)
   subst e2
   exact ⟨C, μ, .str [], hw, Ext.refl (qiR _)⟩
  cases q0 with
  | slNil => exact fin _ _ rfl
  | sl _ a cap sz vals h1 h2 h3 h4 h5 h6 h7 => exact fin _ _ rfl
 ·cases q0 with
  | slNil => simp at hrows; exact absurd hrows hx
  | sl _ a cap sz vals h1 h2 h3 h4 h5 h6 h7 =>
   subst hrows
   have hne : xs.map (fun s => [AV.str s]) ≠ [] := by simpa using hx
   obtain ⟨bk, o, sp⟩ := a
   obtain rfl : sp = none := h1 hne
   have hsz : sz = 1 := by
    cases xs with
    | nil => exact absurd rfl hx
    | cons s l => exact (h2 0 [.str s] rfl).symm
   subst hsz
   have hcell : ∀ (j : Nat) s, xs[j]? = some s → w.cell? ⟨bk, o + j, none⟩ = some (.string ⟨s.toArray⟩) := fun j s hj => by
    have g1 : (xs.map (fun s => [AV.str s]))[j]? = some [.str s] := by simp [hj]
    have g2 := hw.cl _ _ _ (h3 j 0 _ (.str s) g1 rfl)
    have g3 := h4 j 0 _ (.str s) g1 rfl
    generalize vals j 0 = u at g2 g3
    cases g3
    simpa using g2
   have hbk : bk < w.heap.size := by
    cases xs with
    | nil => exact absurd rfl hx
    | cons s l => exact World.block_lt_of_cell? w _ (hcell 0 s rfl)
   have hlen : ((xs.map fun s => (⟨s.toArray⟩ : ByteArray)).map (·.data.toList)) = xs := by rw [List.map_map]; exact List.map_id xs
   have := Tryz.strings_Join bk o cap (xs.map fun s => ⟨s.toArray⟩) ⟨sep.toArray⟩ w (fun j x hj => by
    simp only [List.getElem?_map, qiN] at hj
    obtain ⟨s, hs, rfl⟩ := hj
    exact hcell j s hs) hbk (by simpa using hc.1) (by simpa using h6) (by rw [hlen]; exact hc.2)
   rw [hlen] at this
   have hll : (xs.map fun s => [AV.str s]).length = (xs.map fun s => (⟨s.toArray⟩ : ByteArray)).length := by simp
   rw [hll]
   exact qD Tryz.func32 (by rfl) rfl (this.mono fun e w' ⟨e1, e2⟩ => ⟨_, e1, yE hw e2 (.str _)⟩)
end
structure Vars [Lent] : Prop where
 m : ∃ m, Lent.l 0 0 = some (.int .i64 m)
 e : (yR 124 zY).isSome = true → qd2 2 ∧ qd2 3
 t : ∃ g, Tryz.prog.globalNamed "internal/strconv.uint64pow10" = some g ∧ qhX g
theorem qg3 (f : FuncId) (fn : Func) (h : Tryz.prog.funcs[f]? = some fn) : (fn.name == "runtime.NumGoroutine") = false := by
 have h1 := List.all_eq_true.1 qhA fn (by
  rw [← Array.getElem?_toList] at h
  exact qiZ h)
 simpa using h1
theorem qh9 [Lent] {args : List AV} {H H' : AH} {r : AV} {C : qa} {μ : MMap} {w : World} {vs : Array Value} (hr : qcJ args H = some (r, H')) (ha : qc C μ args vs) (hw : Wld C μ H w) : qq Tryz.prog (callFunc 219 vs) w (qv C μ H w r H') := qeK (P := Tryz.prog) Tryz.func219 (by rfl) (by rfl) (by kernel_rfl) (by kernel_rfl) hr ha hw
theorem qia [Lent] (h : Vars) : CfgOk cfg where
 ty := ⟨fun t ti h => BT.all_look qil h⟩
 mixed := qhB
 named := fun f fn _ h => qg3 f fn h
 ext := fun f s hs => by
  have hs : yR f zY = some s := hs
  refine qeu (l := zY) ?_ hs
  unfold zY
  rw [qcI]
  simp only [List.forall_mem_cons, List.not_mem_nil, false_implies, implies_true, and_true]
  and_intros
  all_goals first
   | exact qd9
   | exact qc9
   | exact qgQ
   | exact qh5
   | exact qh6 h.t
   | exact fun _ _ _ _ hr _ _ _ _ ha hw => qiq hr ha hw
   | exact fun _ _ _ _ hr _ _ _ _ ha hw => qfB h.m hr ha hw
   | exact fun _ _ _ _ hr _ _ _ _ ha hw => qhy (h.e rfl).1 (h.e rfl).2 hr ha hw
   | exact fun _ _ _ _ hr _ _ _ _ ha hw => qh9 hr ha hw
@[instance_reducible] def xZ (W : World) : Lent := ⟨fun b o => if (b = 0 ∨ b = 1 ∨ b = 2 ∨ b = 3) ∧ o = 0 then W.cell? ⟨b, o, none⟩ else none, False, fun _ => True, fun b => if b = 1 then W.heap[b]? else none⟩
theorem wldU (W : World) : @Wld (xZ W) (C0 W) M0 [] W := by
 letI := xZ W
 exact ⟨fun _ _ _ h => h, fun id m h => (by cases h), fun id h => (by simp at h), fun id b h => (by simp at h), fun id d sz rs h => (by simp at h), fun i i' b b' m m' h => (by simp at h), xx.nil, by
  refine ⟨fun b o v h => ?_, fun h => h.elim, fun _ _ => trivial⟩
  have h : (if (b = 0 ∨ b = 1 ∨ b = 2 ∨ b = 3) ∧ o = 0 then W.cell? ⟨b, o, none⟩ else none) = some v := h
  split at h
  ·refine ⟨h, fun ob hk => ?_⟩
   have hk : (if b = 1 then W.heap[b]? else none) = some ob := hk
   split at hk
   ·exact hk
   ·cases hk
  ·cases h⟩
end Go.Proofs.YtnjonahoheopnaaGreatDoor
end
section
namespace Go.Proofs.YtnjonahoheopnaaGreatDoor
open Go.Av Go.ChangeShapes Go.WideShapes Go.ChangeAt Go.RowKit
theorem qhz : ownKnob Tryz.prog.godebug = none := by kernel_rfl
theorem qhw [Lent] {C : qa} : qc C M0 [] #[] := ⟨rfl, fun i c v hc hv => by simp at hc⟩
section
variable {H : Type} {enc : TypeId × Value → H} {P : Program} {W W' : World}
theorem qg1 {f : Func} {s : ChangeSpec} {apart fresh handsOn again : Bool} {args : Array Value} {v : Value} {ds gs : List (DataW H)} {before pa pv : List MemPlace}
  (hW : DataW.Whole enc P f.params.toList s.vars apart W args.toList ds gs before)
  (hres : ∀ (b : Nat) (sp : Nat → Bool) (hd : Bool), DataW.TrodAll enc P W' b sp hd f.resultTypes.toList (v.resultList f.resultTypes.size) (s.fn H (ds ++ gs)).results [])
  (hargs : ∀ sp : Nat → Bool, (∀ p ∈ before, sp p.block = true) → DataW.TrodAll enc P W' 0 sp true f.params.toList args.toList (s.fn H (ds ++ gs)).args pa)
  (hvars : ∀ sp : Nat → Bool, (∀ p ∈ before, sp p.block = true) → DataW.TrodVars enc P W' sp s.vars (s.fn H (ds ++ gs)).vars pv)
  (hps : before = pa ++ pv) (hk : W.keptBut W' (· ∈ before)) (hfz : ∀ b o, b < W.heap.size → W'.frozen? ⟨b, o, none⟩ = W.frozen? ⟨b, o, none⟩)
  (hok : ∀ (j : Nat) (t : TypeId) (r : Value), f.resultTypes[j]? = some t → (v.resultList f.resultTypes.size)[j]? = some r → Value.okWide P W' .any 0 t r) :
  s.post enc P f apart fresh handsOn again W args v W' := by
 have hlt := hW.lt
 have hold : ∀ p ∈ before, (fun b => decide (b < W.heap.size)) p.block = true := fun p hp => by simpa using hlt p hp
 refine ⟨ds, gs, before, [], pa, pv, hW, hres _ _ _, hargs _ hold, hvars _ hold, World.keptBut_mono (fun p hp => ⟨hp, ?_⟩) hk, fun _ => ?_⟩
 ·rw [hps, qi2] at hp
  exact Or.inr hp
 ·obtain ⟨_, _, _, _, _, hz, hn⟩ := hW
  refine ⟨hok, _, _, ([] ++ pa) ++ pv, ⟨[] ++ pa, pv, trodAll_append (hargs _ (fun _ _ => rfl)) (hres _ _ _), hvars _ (fun _ _ => rfl), rfl, ?_, ?_⟩, ?_⟩
  ·intro b off hp
   have hp' : MemPlace.cell b off ∈ before := by rw [hps]; simpa using hp
   rw [hfz b off (hlt _ hp')]
   exact hz b off hp'
  ·intro ha
   have := hn ha
   rw [hps] at this
   simpa using this
  ·intro p hp _
   rw [hps]
   simpa using hp
theorem qey (h : ∀ b, b < W.heap.size → W'.heap[b]? = W.heap[b]?) (ho : W'.os = W.os) (hu : W'.output = W.output) (may : MemPlace → Prop) : W.keptBut W' may := by
 refine ⟨ho, hu, fun i hi => ?_⟩
 rw [h i hi]
 cases W.heap[i]? with
 | none => rfl
 | some o => cases o <;> simp
theorem frozen_of_heap (h : ∀ b, b < W.heap.size → W'.heap[b]? = W.heap[b]?) (b o : Nat) (hb : b < W.heap.size) : W'.frozen? ⟨b, o, none⟩ = W.frozen? ⟨b, o, none⟩ := by
 simp only [World.frozen?]; rw [h b hb]
structure Opened (enc : TypeId × Value → H) (P : Program) (W : World) (t : TypeId) (v : Value) (d : DataW H) (ps : List MemPlace) (a : AV) : Prop where
 rep : Rep (C0 W) M0 a v
 back : ∀ (W' : World) (sp : Nat → Bool), (∀ p ∈ ps, W.sameAt W' p) → (∀ p ∈ ps, sp p.block = true) → DataW.Trod enc P W' 0 sp true t v d ps
end
structure VarsW (W : World) : Prop where
 m : ∃ m, W.cell? ⟨0, 0, none⟩ = some (.int .i64 m)
 s : ∃ ev, W.cell? ⟨2, 0, none⟩ = some ev ∧ (ev = .nilIface ∨ ∃ te pe, ev = .iface te pe)
 r : ∃ ev, W.cell? ⟨3, 0, none⟩ = some ev ∧ (ev = .nilIface ∨ ∃ te pe, ev = .iface te pe)
 t : Lib.TabIs Tryz.prog W "internal/strconv.uint64pow10" .u64 Lib.pow10Tab
theorem qhT (L : Lent) (C : qa) (hL : ∀ b, L.nw b) : @LC L C = C := by
 funext b o
 unfold LC
 rw [if_pos (hL b)]
theorem qgX {L : Lent} [L' : Lent] {C : qa} {μ : MMap} {a : AV} {v : Value} (e : @LC L' C = @LC L C) (h : @Rep L C μ a v) : @Rep L' C μ a v := by
 induction h with
 | int k n => exact .int k n
 | bool b => exact .bool b
 | str s => exact .str s
 | agg cs vs hl _ ih => exact .agg cs vs hl ih
 | tup cs vs hl _ ih => exact .tup cs vs hl ih
 | nilS => exact .nilS
 | slNil => exact .slNil
 | em a cap => exact .em a cap
 | sl rows a cap sz vals h1 h2 h3 _ h5 h6 h7 ih => exact .sl rows a cap sz vals h1 h2 h3 ih h5 h6 h7
 | ms id off len cap a m hm hl ha => exact .ms id off len cap a m hm hl ha
 | msN id off => exact .msN id off
 | nilP => exact .nilP
 | ptr id row off m hm => exact .ptr id row off m hm
 | cptr cells off b o vals hc _ ih => exact .cptr cells off b o vals hc ih
 | fn f first caps vf vc h1 h2 _ _ i1 i2 => exact .fn f first caps vf vc h1 h2 i1 i2
 | yld id m hm => exact .yld id m hm
 | nilF => exact .nilF
 | nilM => exact .nilM
 | mp id m hm => exact .mp id m hm
 | nilI => exact .nilI
 | ifc t a v _ ih => exact .ifc t a v ih
 | lsl rows v h => exact .lsl rows v (by rw [e]; exact h)
 | lpt cells off b o vals hc hr => exact .lpt cells off b o vals (by rw [e]; exact hc) (by rw [e]; exact hr)
 | rsl id rows v D hD h => exact .rsl id rows v D hD h
 | rpt id cells off b o vals m hm hc hr => exact .rpt id cells off b o vals m hm hc hr
 | alt l i a v ha _ ih => exact .alt l i a v ha ih
 | wr n a ad c hn _ ih => exact .wr n a ad c hn ih
 | junk v => exact .junk v
theorem qgW {W : World} {C : qa} {μ : MMap} {a : AV} {v : Value} (h : Rep C μ a v) : @Rep (xZ W) C μ a v :=
 @qgX _ (xZ W) _ _ _ _ (Eq.trans (qhT (xZ W) C fun _ => trivial) (Eq.symm (qhT instLent C fun _ => trivial))) h
theorem qhI (W : World) {C : qa} {μ : MMap} {al : List AV} {vs : Array Value} (h : qc C μ al vs) : @qc (xZ W) C μ al vs := ⟨h.1, fun i a v h1 h2 => qgW (h.2 i a v h1 h2)⟩
structure VarsC (W : World) : Prop where
 m : ∃ m, W.cell? ⟨0, 0, none⟩ = some (.int .i64 m)
 t : Lib.TabIs Tryz.prog W "internal/strconv.uint64pow10" .u64 Lib.pow10Tab
theorem qik {W : World} (h : VarsC W) : @Vars (xZ W) := by
 letI := xZ W
 have g1 : Tryz.prog.globalNamed "internal/strconv.uint64pow10" = some 1 := by kernel_rfl
 have hl : ∀ b, (b = 0 ∨ b = 1 ∨ b = 2 ∨ b = 3) → (xZ W).l b 0 = W.cell? ⟨b, 0, none⟩ := fun b hb => if_pos ⟨hb, rfl⟩
 refine ⟨?_, fun hx => ?_, _, g1, ?_⟩
 ·obtain ⟨m, hm⟩ := h.m
  exact ⟨m, (hl _ (.inl rfl)).trans hm⟩
 ·unfold zY at hx
  rw [qcI] at hx
  cases hx
 ·have ht := h.t
  have h0 := ht.cell g1 0 (by decide)
  unfold Lib.TabIs World.var? at ht
  rw [g1] at ht
  simp only [qi1] at ht
  split at ht
  ·rename_i cs t fz hw
   cases ht
   exact ⟨_, t, fz, (hl _ (.inr (.inl rfl))).trans h0, (if_pos rfl).trans hw⟩
  ·cases ht
theorem qf9 {f : FuncId} {args : List AV} {vs : Array Value} {W : World} (hx : cfg.ext f = none) (hv : VarsC W) (he : EVs (EV cfg) f args = some (.bool true)) (ha : @qc (xZ W) (C0 W) M0 args vs) :
  Calls Tryz.prog f vs W fun e W' => e = .returned (.bool true) ∧ (∀ b, b < W.heap.size → W'.heap[b]? = W.heap[b]?) ∧ W.heap.size ≤ W'.heap.size ∧ W'.os = W.os ∧ W'.output = W.output := by
 letI := xZ W
 unfold EVs at he
 obtain ⟨q, h1, h2⟩ := qiN.1 he
 have := qhR (qia (qik hv)) hx (r := q.1) (H' := q.2) h1 ha (wldU W)
 refine this.mono fun e W' ⟨v, hv, C', μ', p1, p2, p3⟩ => ?_
 rw [h2] at p1
 cases p1
 refine ⟨hv, fun b hb => (p3.fr b hb vg).1, p3.size, p3.os, p3.output⟩
def qcx : List (String × DataW Unit) := [("math/bits.deBruijn32tab", Rows.laid_math_bits_deBruijn32tab), ("math/bits.deBruijn64tab", Rows.laid_math_bits_deBruijn64tab), ("internal/strconv.uint64pow10", Rows.laid_internal_strconv_uint64pow10)]
theorem qiD {W : World} (hsh : W.ShapedOpen Tryz.prog) (h : laidMetH Tryz.prog qcx W) : VarsC W := by
 rw [MakeChecks.laidMetH_plain _ _ _ (by kernel_rfl)] at h
 have g1 : Tryz.prog.globalNamed "internal/strconv.uint64pow10" = some 1 := by kernel_rfl
 have etab : (Rows.laid_internal_strconv_uint64pow10 : DataW Unit) = Lib.tabData .u64 Lib.pow10Tab := by kernel_rfl
 exact ⟨Tryz.laysM144.s1_3 W hsh,
  Go.Lib.tabIs_of_head (t := 192) (e := 141) (n := 20) g1 (by kernel_rfl) Tryz.underlying192 Tryz.underlying141 (by kernel_rfl) (by kernel_rfl) (by rw [← etab]; exact h.tail.tail)⟩
theorem metC (os : Os) (args : Array Value) : laidMetH Tryz.prog qcx ((World.doorLaid Tryz.prog 400 os).forCall (fun _ _ => 0) ⟨#[], args, []⟩).memory :=
 laidMetH_of_parts3 (fuel := 8) (laidMet_of_run' 8 (by kernel_rfl) (by kernel_rfl)) (by kernel_rfl) (by kernel_rfl)
end Go.Proofs.YtnjonahoheopnaaGreatDoor
end
