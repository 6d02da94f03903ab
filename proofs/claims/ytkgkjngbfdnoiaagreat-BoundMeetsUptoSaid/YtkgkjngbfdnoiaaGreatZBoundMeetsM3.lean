/-
  Parts of the proof of BoundMeetsUptoSaid, put together: the abstract evaluation and its contracts. Own work.
  What is proved: each lemma as it stands; no condition.
-/
import Derived.KernelRfl
import Derived.Test.YtkgkjngbfdnoiaaGreatProg
import Derived.Lib.Bytealg
import Derived.Test.YtkgkjngbfdnoiaaGreatRows
import Derived.ProofKit
import Derived.OpenShut
import Derived.JoinedCond
import Derived.ChangeArms
import Derived.RowKit
import Derived.WalkKit
import Derived.Test.YtkgkjngbfdnoiaaGreatZBoundMeetsM2

section
namespace Go.Av
variable {α : Type} {r : α} {H : AH}

theorem cond_some {b : Bool} {x : Option α} (h : cond b x none = some r) : b = true ∧ x = some r := by cases b <;> simp_all
theorem condn_some {b : Bool} {x : Option α} (h : cond b none x = some r) : b = false ∧ x = some r := by cases b <;> simp_all
theorem cond_or {b : Bool} {x y : Option α} (h : cond b x y = some r) : (b = true ∧ x = some r) ∨ (b = false ∧ y = some r) := by cases b <;> simp_all
theorem kindEq_eq {a b : IntKind} (h : kindEq a b = true) : a = b := by simpa [kindEq] using h
theorem leInt_iff {a b : Int} : leInt a b = true ↔ a ≤ b := by simp [leInt]
theorem ltInt_iff {a b : Int} : ltInt a b = true ↔ a < b := by simp [ltInt]

theorem kInt_some {kd : IntKind} {v : AV} {k : Int → Option α} (h : kInt kd v k = some r) : ∃ n, v = .int kd n ∧ k n = some r := by
 unfold kInt at h
 split at h
 ·obtain ⟨h1, h2⟩ := cond_some h
  rw [kindEq_eq h1]; exact ⟨_, rfl, h2⟩
 ·cases h
theorem kBool_some {v : AV} {k : Bool → Option α} (h : kBool v k = some r) : ∃ b, v = .bool b ∧ k b = some r := by
 unfold kBool at h; split at h
 ·exact ⟨_, rfl, h⟩
 ·cases h
theorem kStr_some {v : AV} {k : List UInt8 → Option α} (h : kStr v k = some r) : ∃ b, v = .str b ∧ k b = some r := by
 unfold kStr at h; split at h
 ·exact ⟨_, rfl, h⟩
 ·cases h
theorem kAgg_some {v : AV} {k : List AV → Option α} (h : kAgg v k = some r) : ∃ b, v = .agg b ∧ k b = some r := by
 unfold kAgg at h; split at h
 ·exact ⟨_, rfl, h⟩
 ·cases h
theorem kOpt_some {β : Type} {o : Option β} {k : β → Option α} (h : kOpt o k = some r) : ∃ b, o = some b ∧ k b = some r := by
 unfold kOpt at h; split at h
 ·exact ⟨_, rfl, h⟩
 ·cases h
theorem kCons_some {l : List AV} {k : AV → List AV → Option α} (h : kCons l k = some r) : ∃ a b, l = a :: b ∧ k a b = some r := by
 unfold kCons at h; split at h
 ·exact ⟨_, _, rfl, h⟩
 ·cases h
theorem kNil_some {l : List AV} {x : Option α} (h : kNil l x = some r) : l = [] ∧ x = some r := by
 unfold kNil at h; split at h
 ·exact ⟨rfl, h⟩
 ·cases h

theorem kForce_some {s : FK} {v : AV} {k : KV α} (h : kForce s v k = some r) : k v = some r := by
 cases s with
 | int kd => obtain ⟨n, rfl, h1⟩ := kInt_some h; exact h1
 | bool => obtain ⟨n, rfl, h1⟩ := kBool_some h; exact h1
 | str => obtain ⟨n, rfl, h1⟩ := kStr_some h; exact h1
 | sl =>
  have h : kSl v (fun rows => k (.sl rows)) = some r := h
  unfold kSl at h
  split at h
  ·exact h
  ·cases h
 | any => exact h
theorem kCells_some : ∀ {ss : List FK} {l : List AV} {k : List AV → Option α}, kCells ss l k = some r → k l = some r
 | [], l, k, h => by
  obtain ⟨rfl, h1⟩ := kNil_some h
  exact h1
 | s :: ss, l, k, h => by
  obtain ⟨a, b, rfl, h1⟩ := kCons_some h
  exact kCells_some (k := fun vs => k (a :: vs)) (kForce_some (k := fun v => kCells ss b fun vs => k (v :: vs)) h1)
theorem kCells_row {l0 : List AV} {k : List AV → Option α} (h0 : kCells [.int .i64, .int .i64, .str, .sl] l0 k = some r) : termRow l0 = true ∧ k l0 = some r := by
 refine ⟨?_, kCells_some h0⟩
 simp only [kCells] at h0
 obtain ⟨a, l1, rfl, h1⟩ := kCons_some h0
 obtain ⟨n, rfl, h2⟩ := kInt_some (k := fun n => kCons l1 fun c cs => kForce (.int .i64) c fun v => kCons cs fun c cs => kForce .str c fun v1 => kCons cs fun c cs => kForce .sl c fun v2 => kNil cs (k [.int .i64 n, v, v1, v2])) h1
 obtain ⟨a, l2, rfl, h3⟩ := kCons_some h2
 obtain ⟨m, rfl, h4⟩ := kInt_some (k := fun m => kCons l2 fun c cs => kForce .str c fun v1 => kCons cs fun c cs => kForce .sl c fun v2 => kNil cs (k [.int .i64 n, .int .i64 m, v1, v2])) h3
 obtain ⟨a, l3, rfl, h5⟩ := kCons_some h4
 obtain ⟨s, rfl, h6⟩ := kStr_some (k := fun s => kCons l3 fun c cs => kForce .sl c fun v2 => kNil cs (k [.int .i64 n, .int .i64 m, .str s, v2])) h5
 obtain ⟨a, l4, rfl, h7⟩ := kCons_some h6
 have h8 : kSl a (fun rows => kNil l4 (k [.int .i64 n, .int .i64 m, .str s, .sl rows])) = some r := h7
 unfold kSl at h8
 split at h8
 ·obtain ⟨rfl, _⟩ := kNil_some h8
  rfl
 ·cases h8
theorem kTy1_some {p : TypeId → Bool} {cfg : Cfg} {t : TypeId} {v : AV} {k : KV α} (h : kTy1 p cfg t v k = some r) : k v = some r := by
 unfold kTy1 at h
 have agg : ∀ {ss : List FK}, (kAgg v fun cs => kCells ss cs fun vs => k (.agg vs)) = some r → k v = some r := by
  intro ss h
  obtain ⟨cs, rfl, h⟩ := kAgg_some h
  exact kCells_some (k := fun vs => k (.agg vs)) h
 split at h
 ·split at h
  ·split at h
   ·exact agg h
   ·exact h
  ·split at h
   ·exact agg h
   ·exact h
  ·exact kForce_some h
 ·exact h

theorem kTys_some {p : TypeId → Bool} {cfg : Cfg} : ∀ {ts : List TypeId} {l : List AV} {k : List AV → Option α}, kTys p cfg ts l k = some r → k l = some r
 | [], l, k, h => by
  rw [kTys] at h
  obtain ⟨h1, h2⟩ := kNil_some h
  rw [h1]; exact h2
 | t :: ts, l, k, h => by
  rw [kTys] at h
  obtain ⟨a, b, rfl, h⟩ := kCons_some h
  have h1 := kTy1_some (k := fun v => kTys p cfg ts b fun vs => k (v :: vs)) h
  exact kTys_some (k := fun vs => k (a :: vs)) h1
theorem kTy_some {p : TypeId → Bool} {cfg : Cfg} {t : TypeId} {v : AV} {k : KV α} (h : kTy p cfg t v k = some r) : k v = some r := by
 unfold kTy at h
 split at h
 ·unfold kTup at h
  split at h
  ·exact kTys_some (k := fun vs => k (.tup vs)) h
  ·cases h
 ·exact kTy1_some h

theorem kNew_some {nid : Option Nat} {b : ABlk} {k : Nat → AH → Option α} (h : kNew nid H b k = some r) : ∃ i H', aNew nid H b = some (i, H') ∧ k i H' = some r := by
 unfold kNew at h
 unfold aNew
 cases nid with
 | none => exact ⟨_, _, rfl, h⟩
 | some i =>
  simp only at h ⊢
  obtain ⟨x, hx, h⟩ := kOpt_some h
  rw [hx]
  split at h
  ·exact ⟨_, _, rfl, h⟩
  ·cases h

theorem isCell_cells {v : AV} (h : v.isCell = true) : v.cells = some [v] := by cases v <;> simp_all [AV.isCell, AV.cells]
theorem kCellsOf_some {agg : Bool} {v : AV} {k : List AV → Option α} (h : kCellsOf agg v k = some r) : ∃ cs, v.cells = some cs ∧ k cs = some r := by
 unfold kCellsOf at h
 rcases cond_or h with ⟨_, h⟩ | ⟨_, h⟩
 ·obtain ⟨cs, rfl, h⟩ := kAgg_some h
  obtain ⟨h1, h2⟩ := cond_some h
  exact ⟨cs, by simp [AV.cells, h1], h2⟩
 ·obtain ⟨h1, h2⟩ := cond_some h
  exact ⟨_, isCell_cells h1, h2⟩

theorem kPick_some {t : Bool} {a b : AV} {k : KV α} (h : kPick t a b k = some r) : k (if t then a else b) = some r := by
 have sp : ∀ {a b : AV}, cond t (k a) (k b) = some r → k (if t then a else b) = some r := by
  intro a b h
  cases t <;> simpa using h
 unfold kPick at h
 split at h
 ·cases t <;> simpa using h
 ·rcases cond_or h with ⟨h1, h⟩ | ⟨_, h⟩
  ·have := kindEq_eq h1; subst this
   cases t <;> simpa using h
  ·exact sp h
 ·exact sp h

theorem kFill_some {place : Nat → Option (Nat × Nat × Bool)} {place' : Nat → Option (Nat × Nat)} (hp : ∀ i off n g, place i = some (off, n, g) → place' i = some (off, n)) : ∀ {parts : List (Nat × AV)} {cells : List AV} {k : List AV → Option α},
  kFill place cells parts k = some r → ∃ cs, aFill place' cells parts = some cs ∧ k cs = some r
 | [], cells, k, h => ⟨cells, rfl, h⟩
 | (i, v) :: rest, cells, k, h => by
  rw [kFill] at h
  split at h
  ·rename_i off n g hi
   obtain ⟨cs, h1, h⟩ := kCellsOf_some h
   obtain ⟨h2, h⟩ := cond_some h
   obtain ⟨cs', h3, h4⟩ := kFill_some hp h
   refine ⟨cs', ?_, h4⟩
   rw [Bool.and_eq_true] at h2
   rw [aFill, hp _ _ _ _ hi, h1]
   simp only
   rw [if_pos]
   ·exact h3
   ·rw [Bool.and_eq_true, beq_iff_eq]
    exact ⟨Nat.eq_of_beq_eq_true h2.1, h2.2⟩
  ·cases h

theorem placesK_of {cfg : Cfg} : ∀ {fs : List (Nat × TypeId)} {ps : List (Nat × Nat × Bool)}, placesK cfg fs = some ps → ∃ qs, placesOf cfg fs = some qs ∧ ∀ (i off n : Nat) (g : Bool), ps[i]? = some (off, n, g) → qs[i]? = some (off, n)
 | [], ps, h => by cases h; exact ⟨[], rfl, fun i off n g h => by simp at h⟩
 | (off, t) :: l, ps, h => by
  rw [placesK] at h
  split at h
  ·rename_i n ps' h1 h2
   cases h
   obtain ⟨qs, h3, h4⟩ := placesK_of h2
   refine ⟨(off, n) :: qs, by rw [placesOf, h1, h3], fun i o m g hi => ?_⟩
   cases i with
   | zero => simp at hi ⊢; exact ⟨hi.1, hi.2.1⟩
   | succ i => simpa using h4 i o m g (by simpa using hi)
  ·cases h

theorem kRows_some {agg : Bool} {n : Nat} : ∀ {parts : List (Nat × AV)} {rows : List (List AV)} {k : List (List AV) → Option α}, kRows agg n rows parts k = some r → ∃ rs, aRows n rows parts = some rs ∧ k rs = some r
 | [], rows, k, h => ⟨rows, rfl, h⟩
 | (i, v) :: rest, rows, k, h => by
  rw [kRows] at h
  obtain ⟨cs, h1, h⟩ := kCellsOf_some h
  obtain ⟨h2, h⟩ := cond_some h
  obtain ⟨rs, h3, h4⟩ := kRows_some h
  refine ⟨rs, ?_, h4⟩
  rw [Bool.and_eq_true] at h2
  rw [aRows, h1]
  simp only
  rw [if_pos]
  ·exact h3
  ·rw [Bool.and_eq_true, beq_iff_eq]
   exact ⟨Nat.eq_of_beq_eq_true h2.1, h2.2⟩

theorem kBlk_some {id : Nat} {k : Nat → List (List AV) → Option α} (h : kBlk H id k = some r) : ∃ sz rs, blkRows H id = some (sz, rs) ∧ k sz rs = some r := by
 unfold kBlk at h
 obtain ⟨b, hb, h⟩ := kOpt_some h
 unfold blkRows
 rw [hb]
 split at h
 ·exact ⟨_, _, rfl, h⟩
 ·exact ⟨_, _, rfl, h⟩
 ·cases h
theorem kFrz1_some {g s : Bool} {v : AV} {k : KV α} (h : kFrz1 g s H v k = some r) : (∀ ids, (∀ id off len, v = .ms id off len → id ∈ ids) → s = false → k (cond g (v.frz1 ids H).fg1 (v.frz1 ids H)) = some r) ∧ (s = true → k (cond g (v.snap1 H).fg1 (v.snap1 H)) = some r) := by
 unfold kFrz1 at h
 split at h
 ·rename_i id off len
  obtain ⟨sz, rs, h1, h⟩ := kBlk_some h
  rcases hc : (Nat.ble (off + len) rs.length && (blkFree H id || refsLtR 0 ((rs.drop off).take len))) with _ | _
  ·rw [hc] at h; cases h
  ·rw [hc] at h
   have h : k (.sl ((rs.drop off).take len)) = some r := h
   have aux : ∀ ids : List Nat, id ∈ ids → (AV.ms id off len).frz1 ids H = .sl ((rs.drop off).take len) := by
    intro ids hi
    simp only [AV.frz1, h1]
    rw [if_pos]
    rw [Bool.and_assoc, hc, Bool.and_true]
    exact hasId_iff.2 hi
   refine ⟨fun ids hi _ => ?_, fun _ => ?_⟩
   ·rw [aux ids (hi _ _ _ rfl)]; cases g <;> exact h
   ·simp only [AV.snap1]; rw [aux [id] (by simp)]; cases g <;> exact h
 ·refine ⟨fun ids _ _ => ?_, fun _ => ?_⟩ <;> (cases g <;> exact h)
 ·refine ⟨fun ids _ _ => ?_, fun _ => ?_⟩ <;> (cases g <;> exact h)
 ·rename_i id r' off
  cases s with
  | false => exact ⟨fun ids _ _ => by cases g <;> exact h, fun h => by cases h⟩
  | true =>
   refine ⟨fun _ _ h => by (cases h), fun _ => ?_⟩
   obtain ⟨sz, rs, h1, h⟩ := kBlk_some h
   obtain ⟨row, h2, h⟩ := kOpt_some h
   obtain ⟨h3, h⟩ := cond_some h
   simp only [AV.snap1, h1, h2, dataL, h3, if_true]
   cases g <;> exact h
 ·rename_i id rows
  cases s with
  | false => exact ⟨fun ids _ _ => by cases g <;> exact h, fun h => by cases h⟩
  | true =>
   refine ⟨fun _ _ h => by (cases h), fun _ => ?_⟩
   obtain ⟨b, h1, h⟩ := kOpt_some h
   split at h
   ·simp only [AV.snap1, h1]
    cases rows <;> cases g <;> exact h
   ·cases h
 ·rename_i hn1 hn2 hn4 hn3 hn5
  refine ⟨fun ids _ _ => ?_, fun _ => ?_⟩
  ·have : v.frz1 ids H = v := by
    cases v <;> first | rfl | exact absurd rfl (hn1 _ _ _)
   rw [this]
   have : v.fg1 = v := by
    cases v <;> first | rfl | exact absurd rfl hn2 | exact absurd rfl hn4
   rw [this]; cases g <;> exact h
  ·have : v.snap1 H = v := by
    cases v <;> first | rfl | exact absurd rfl (hn1 _ _ _) | exact absurd rfl (hn3 _ _ _) | exact absurd rfl (hn5 _ _)
   rw [this]
   have : v.fg1 = v := by
    cases v <;> first | rfl | exact absurd rfl hn2 | exact absurd rfl hn4
   rw [this]; cases g <;> exact h

theorem kFrzL_frz {g : Bool} {ids : List Nat} : ∀ {l : List AV} {k : List AV → Option α}, (∀ v ∈ l, ∀ id off len, v = .ms id off len → id ∈ ids) → kFrzL g false H l k = some r → k (l.map fun v => cond g (v.frz1 ids H).fg1 (v.frz1 ids H)) = some r
 | [], k, _, h => h
 | a :: l, k, hi, h => by
  rw [kFrzL] at h
  have h1 := (kFrz1_some h).1 ids (hi a (by simp)) rfl
  exact kFrzL_frz (k := fun l => k (cond g (a.frz1 ids H).fg1 (a.frz1 ids H) :: l)) (fun v hv => hi v (by simp [hv])) h1
theorem kFrzL_snap {g : Bool} : ∀ {l : List AV} {k : List AV → Option α}, kFrzL g true H l k = some r → k (l.map fun v => cond g (v.snap1 H).fg1 (v.snap1 H)) = some r
 | [], k, h => h
 | a :: l, k, h => by
  rw [kFrzL] at h
  have h1 := (kFrz1_some h).2 rfl
  exact kFrzL_snap (k := fun l => k (cond g (a.snap1 H).fg1 (a.snap1 H) :: l)) h1

theorem msIds_mem {l : List AV} {v : AV} (hv : v ∈ l) {id off len : Nat} (h : v = .ms id off len) : id ∈ l.flatMap AV.msId := by
 subst h
 exact List.mem_flatMap.2 ⟨_, hv, by simp [AV.msId]⟩

theorem kFrzA_frz {v : AV} {k : KV α} (h : kFrzA false H v k = some r) : k (v.frz v.msIds H).fg = some r := by
 unfold kFrzA at h
 split at h
 ·rename_i cs
  have := kFrzL_frz (ids := cs.flatMap AV.msId) (fun v hv id off len e => msIds_mem hv e) h
  simpa [AV.frz, AV.fg, AV.msIds, Function.comp_def] using this
 ·rename_i cs
  have := kFrzL_frz (k := fun cs => k (.tup cs)) (ids := cs.flatMap AV.msId) (fun v hv id off len e => msIds_mem hv e) h
  simpa [AV.frz, AV.fg, AV.msIds, Function.comp_def] using this
 ·exact h
 ·rename_i h1 h2 h3
  have h4 := (kFrz1_some h).1 v.msIds (fun id off len e => by subst e; simp [AV.msIds, AV.msId]) rfl
  have e1 : v.frz v.msIds H = v.frz1 v.msIds H := by
   cases v <;> first | rfl | exact absurd rfl (h1 _) | exact absurd rfl (h2 _)
  have e2 : (v.frz1 v.msIds H).fg = (v.frz1 v.msIds H).fg1 := by
   cases v <;> first | rfl | exact absurd rfl (h1 _) | exact absurd rfl (h2 _) | skip
   simp only [AV.frz1]
   split
   ·split <;> rfl
   ·rfl
  rw [e1, e2]; exact h4
theorem kFrzA_snap {v : AV} {k : KV α} (h : kFrzA true H v k = some r) : k (v.snap H).fg = some r := by
 unfold kFrzA at h
 split at h
 ·rename_i cs
  have := kFrzL_snap h
  simpa [AV.snap, AV.fg, Function.comp_def] using this
 ·exact h
 ·rename_i f a b
  have h2 := kFrzL_snap (k := fun a => kFrzL false true H b fun b => k (.fn f a b)) h
  have h3 := kFrzL_snap (k := fun b => k (.fn f (a.map (AV.snap1 H)) b)) h2
  exact h3
 ·rename_i h1 h2 h3
  have h4 := (kFrz1_some h).2 rfl
  have e1 : v.snap H = v.snap1 H := by
   cases v <;> first | rfl | exact absurd rfl (h1 _) | exact absurd rfl (h3 _ _ _)
  have e2 : (v.snap1 H).fg = (v.snap1 H).fg1 := by
   cases v <;> first | rfl | exact absurd rfl (h1 _) | exact absurd rfl (h2 _) | skip
   ·simp only [AV.snap1, AV.frz1]
    split
    ·split <;> rfl
    ·rfl
   ·simp only [AV.snap1]
    split
    ·split <;> rfl
    ·rfl
   ·simp only [AV.snap1]
    split <;> rfl
  rw [e1, e2]; exact h4
theorem kArgs_some : ∀ {l : List AV} {k : List AV → Option α}, kArgs H l k = some r → k (l.map fun a => (a.snap H).fg) = some r
 | [], k, h => h
 | a :: l, k, h => by
  rw [kArgs] at h
  have h1 := kFrzA_snap h
  exact kArgs_some (k := fun l => k ((a.snap H).fg :: l)) h1

theorem kBlkW_some {id : Nat} {k : Bool → Nat → List (List AV) → Option α} (h : kBlkW H id k = some r) : ∃ d sz rs, H[id]? = some (.rows d sz rs) ∧ k d sz rs = some r := by
 unfold kBlkW at h
 obtain ⟨b, hb, h⟩ := kOpt_some h
 split at h
 ·exact ⟨_, _, _, hb, h⟩
 ·cases h

theorem kPart_some {agg : Bool} {n off : Nat} {cells : List AV} {k : KV α} (h : kPart agg n cells off k = some r) :
  ∃ v, (if agg then (if Nat.ble (off + n) cells.length then some (AV.agg ((cells.drop off).take n)) else none) else cells[off]?) = some v ∧ k v = some r := by
 unfold kPart at h
 rcases cond_or h with ⟨rfl, h⟩ | ⟨rfl, h⟩
 ·obtain ⟨h1, h2⟩ := cond_some h
  exact ⟨_, by simp [h1], h2⟩
 ·obtain ⟨v, h1, h2⟩ := kOpt_some h
  exact ⟨v, by simp [h1], h2⟩

theorem kLoad_some {agg : Bool} {n : Nat} {p : AV} {k : KV α} (h : kLoad agg n H p k = some r) : ∃ v, aLoad agg n H p = some v ∧ k v = some r := by
 unfold kLoad at h
 unfold aLoad
 split at h
 ·obtain ⟨sz, rs, h1, h⟩ := kBlk_some h
  obtain ⟨row, h2, h⟩ := kOpt_some h
  obtain ⟨v, h3, h4⟩ := kPart_some h
  exact ⟨v, by simp only [h1, h2]; exact h3, h4⟩
 ·obtain ⟨v, h3, h4⟩ := kPart_some h
  exact ⟨v, h3, h4⟩
 ·obtain ⟨v, h3, h4⟩ := kPart_some h
  refine ⟨v, ?_, h4⟩
  rw [← h3]
  simp only [List.length_map, List.map_take, List.map_drop, List.getElem?_map]
 ·obtain ⟨b, h1, h⟩ := kOpt_some h
  split at h
  ·obtain ⟨h2, h⟩ := cond_some h
   obtain ⟨h3, h⟩ := kCells_row h
   exact ⟨_, by simp only [h1]; rw [if_pos (by rw [h2, h3]; rfl)], h⟩
  ·cases h
 ·cases h

theorem kStore_some {agg : Bool} {n : Nat} {p v : AV} {k : AH → Option α} (h : kStore agg n H p v k = some r) : ∃ H', aStore n H p v = some H' ∧ k H' = some r := by
 unfold kStore at h
 unfold aStore
 split at h
 ·obtain ⟨cs, h1, h⟩ := kCellsOf_some h
  obtain ⟨d, sz, rs, h2, h⟩ := kBlkW_some h
  obtain ⟨row, h3, h⟩ := kOpt_some h
  obtain ⟨h4, h⟩ := cond_some h
  rw [Bool.and_eq_true] at h4
  refine ⟨_, ?_, h⟩
  simp only [h1, h2, h3]
  rw [if_pos]
  rw [Bool.and_eq_true, beq_iff_eq]
  exact ⟨Nat.eq_of_beq_eq_true h4.1, h4.2⟩
 ·obtain ⟨b, h1, h⟩ := kOpt_some h
  split at h
  ·obtain ⟨h2, h⟩ := cond_some h
   refine ⟨H, ?_, h⟩
   have h77 : is77 v = true := by rw [Bool.and_eq_true] at h2; exact h2.2
   have hv : ∃ cs, v.cells = some cs := by
    rcases is77_eq h77 with rfl | rfl
    ·exact ⟨_, rfl⟩
    ·exact ⟨_, rfl⟩
   obtain ⟨cs, hv⟩ := hv
   simp only [hv, h1]
   rw [if_pos h2]
  ·cases h
 ·cases h

theorem kBound_some {lo hi d : Nat} {x : Option AV} {k : Nat → Option α} (h : kBound lo hi x d k = some r) : ∃ n, bound? lo hi x d = some n ∧ k n = some r := by
 unfold kBound at h
 unfold bound?
 split at h
 ·exact ⟨_, rfl, h⟩
 ·split at h
  ·obtain ⟨h1, h⟩ := cond_some h
   rw [Bool.and_eq_true, leInt_iff, leInt_iff] at h1
   exact ⟨_, by simp only; rw [if_pos h1], h⟩
  ·cases h

theorem kSliceBd_some {n : Nat} {lo hi mx : Option AV} {k : Nat → Nat → Option α} (h : kSliceBd n lo hi mx k = some r) : ∃ l h', sliceBd n lo hi mx = some (l, h') ∧ k l h' = some r := by
 unfold kSliceBd at h
 obtain ⟨h0, h⟩ := condn_some h
 obtain ⟨a, h1, h⟩ := kBound_some h
 obtain ⟨b, h2, h⟩ := kBound_some h
 obtain ⟨c, h3, h⟩ := kBound_some h
 refine ⟨c, a, ?_, h⟩
 unfold sliceBd
 rw [if_neg (by rw [h0]; simp), h1]
 simp only [h2, h3]

theorem kSlice_some {cfg : Cfg} {t : TypeId} {x : AV} {lo hi mx : Option AV} {k : KV α} (h : kSlice cfg t H x lo hi mx k = some r) : ∃ v, aSlice cfg t H x lo hi mx = some v ∧ k v = some r := by
 unfold kSlice at h
 unfold aSlice
 split at h
 ·rename_i ht
  rw [ht]
  split at h
  ·split at h
   ·obtain ⟨l, h', h1, h⟩ := kSliceBd_some h
    exact ⟨_, by simp only [h1], h⟩
   ·cases h
  ·cases h
 ·rename_i e ht
  rw [ht]
  split at h
  ·rename_i n hn
   split at h
   ·obtain ⟨l, h', h1, h⟩ := kSliceBd_some h
    exact ⟨_, by simp only [hn, h1], h⟩
   ·rename_i rows
    obtain ⟨l, h', h1, h⟩ := kSliceBd_some h
    obtain ⟨h2, h⟩ := cond_some h
    refine ⟨slE (cfg.ems t) rows l h', by simp only [hn, h1, h2, if_true], ?_⟩
    split at h
    ·rename_i he; rw [he]; exact h
    ·rename_i he; rw [he]; exact h
   ·obtain ⟨l, h', h1, h⟩ := kSliceBd_some h
    obtain ⟨sz, rs, h2, h⟩ := kBlk_some h
    obtain ⟨h3, hz⟩ := cond_some h
    have := Nat.eq_of_beq_eq_true h3
    subst this
    exact ⟨_, by simp [hn, h1, h2], hz⟩
   ·cases h
  ·cases h
 ·cases h

theorem kIndexAddr_some {cfg : Cfg} {t : TypeId} {x i : AV} {k : KV α} (h : kIndexAddr cfg t H x i k = some r) : ∃ v, aIndexAddr cfg t H x i = some v ∧ k v = some r := by
 unfold kIndexAddr at h
 unfold aIndexAddr
 split at h
 case h_2 => cases h
 rename_i kk i
 split at h
 ·rename_i e ht
  rw [ht]
  split at h
  case h_2 => cases h
  rename_i n hn
  split at h
  ·obtain ⟨sz, rs, h1, h⟩ := kBlk_some h
   obtain ⟨h2, hz⟩ := cond_some h
   rw [Bool.and_eq_true, Bool.and_eq_true, leInt_iff, ltInt_iff] at h2
   have := Nat.eq_of_beq_eq_true h2.1.1
   subst this
   exact ⟨_, by simp [hn, h1, h2.1.2, h2.2], hz⟩
  ·obtain ⟨h2, h⟩ := cond_some h
   rw [Bool.and_eq_true, leInt_iff, ltInt_iff] at h2
   obtain ⟨row, h3, h⟩ := kOpt_some h
   obtain ⟨h4, hz⟩ := cond_some h
   refine ⟨.cptr row 0, ?_, hz⟩
   have h5 := Nat.eq_of_beq_eq_true h4
   simp only [hn, if_pos h2, h3]
   rw [if_pos (by rw [h5]; exact beq_self_eq_true n)]
  ·obtain ⟨h2, h⟩ := cond_some h
   rw [Bool.and_eq_true, leInt_iff, ltInt_iff] at h2
   obtain ⟨row, h3, h⟩ := kOpt_some h
   obtain ⟨h4, hz⟩ := cond_some h
   refine ⟨.lpt row 0, ?_, hz⟩
   have h5 := Nat.eq_of_beq_eq_true h4
   simp only [hn, if_pos h2, h3]
   rw [if_pos (by rw [h5]; exact beq_self_eq_true n)]
  ·rename_i id rows
   obtain ⟨h2, h⟩ := cond_some h
   rw [Bool.and_eq_true, leInt_iff, ltInt_iff] at h2
   obtain ⟨row, h3, h⟩ := kOpt_some h
   obtain ⟨h4, hz⟩ := cond_some h
   refine ⟨.rpt id row, ?_, hz⟩
   have h5 := Nat.eq_of_beq_eq_true h4
   simp only [hn, if_pos h2, h3]
   rw [if_pos (by rw [h5]; exact beq_self_eq_true n)]
  ·cases h
 ·rename_i m e ht
  rw [ht]
  split at h
  case h_2 => cases h
  rename_i n hn
  split at h
  ·obtain ⟨h2, h⟩ := cond_some h
   rw [Bool.and_eq_true, leInt_iff, ltInt_iff] at h2
   exact ⟨_, by simp [hn, h2.1, h2.2], h⟩
  ·obtain ⟨h2, h⟩ := cond_some h
   rw [Bool.and_eq_true, leInt_iff, ltInt_iff] at h2
   exact ⟨_, by simp [hn, h2.1, h2.2], h⟩
  ·cases h
 ·cases h

theorem ty_sz {cfg : Cfg} {t : TypeId} {ti : TI} (h : cfg.ty t = some ti) : cfg.sz t = some ti.sz ∧ cfg.td t = some ti.d := by
 unfold Cfg.sz Cfg.td; rw [h]; exact ⟨rfl, rfl⟩

theorem kIndex_some {cfg : Cfg} {t : TypeId} {x i : AV} {k : KV α} (h : kIndex cfg t x i k = some r) : ∃ v, aIndex cfg t x i = some v ∧ k v = some r := by
 unfold kIndex at h
 unfold aIndex
 split at h
 case h_2 => cases h
 rename_i kk i
 split at h
 ·rename_i n e ht
  rw [ht]
  split at h
  case h_2 => cases h
  rename_i ti hti
  obtain ⟨cs, rfl, h⟩ := kAgg_some h
  obtain ⟨h2, h⟩ := cond_some h
  rw [Bool.and_eq_true, leInt_iff, ltInt_iff] at h2
  obtain ⟨v, h3, h⟩ := kPart_some h
  refine ⟨v, ?_, h⟩
  simp only [(ty_sz hti).1]
  rw [if_pos h2]
  unfold aPart
  rw [hti]
  exact h3
 ·rename_i ht
  rw [ht]
  obtain ⟨s, rfl, h⟩ := kStr_some h
  obtain ⟨h2, h⟩ := cond_some h
  rw [leInt_iff] at h2
  obtain ⟨b, h3, h⟩ := kOpt_some h
  exact ⟨_, by simp [h2, h3], h⟩
 ·cases h

theorem kField_some {cfg : Cfg} {t : TypeId} {x : AV} {f : Nat} {k : KV α} (h : kField cfg t x f k = some r) : ∃ v, aField cfg t x f = some v ∧ k v = some r := by
 unfold kField at h
 unfold aField
 split at h
 case h_2 => cases h
 rename_i fs ht
 rw [ht]
 split at h
 case h_2 => cases h
 rename_i off ft hf
 split at h
 case h_2 => cases h
 rename_i ti hti
 obtain ⟨cs, rfl, h⟩ := kAgg_some h
 obtain ⟨v, h3, h⟩ := kPart_some h
 refine ⟨v, ?_, h⟩
 simp only [hf]
 unfold aPart
 rw [hti]
 exact h3

theorem kFieldAddr_some {cfg : Cfg} {t : TypeId} {x : AV} {f : Nat} {k : KV α} (h : kFieldAddr cfg t x f k = some r) : ∃ v, aFieldAddr cfg t x f = some v ∧ k v = some r := by
 unfold kFieldAddr at h
 unfold aFieldAddr
 split at h
 case h_2 => cases h
 rename_i fs ht
 rw [ht]
 simp only
 split at h
 case h_2 => cases h
 rename_i off ft hf
 simp only [hf]
 split at h
 case h_2 => cases h
 rename_i n hn
 split at h
 ·exact ⟨_, by simp only [hn], h⟩
 ·exact ⟨_, by simp only [hn], h⟩
 ·cases h
end Go.Av
end

section
namespace Go.Av
variable {α : Type} {r : α} {H : AH}

theorem kRowsOf_some {n : Nat} {x : AV} {k : List (List AV) → Option α} (h : kRowsOf H n x k = some r) : ∃ rows, rowsOf H n x = some rows ∧ k rows = some r := by
 unfold kRowsOf at h
 unfold rowsOf
 split at h
 ·exact ⟨_, rfl, h⟩
 ·exact ⟨_, rfl, h⟩
 ·obtain ⟨h1, hz⟩ := cond_some h
  exact ⟨_, by simp only [h1, if_true], hz⟩
 ·obtain ⟨sz, rs, h1, h⟩ := kBlk_some h
  obtain ⟨h2, hz⟩ := cond_some h
  rw [Bool.and_eq_true] at h2
  refine ⟨_, ?_, hz⟩
  simp only [h1]
  rw [if_pos]
  rw [Bool.and_eq_true, beq_iff_eq]
  exact ⟨Nat.eq_of_beq_eq_true h2.1, h2.2⟩
 ·cases h

theorem kSrc_some {b : Bool} {n : Nat} {x : AV} {k : List (List AV) → Option α} (h : kSrc b H n x k = some r) : ∃ rows, srcRows H n x = some rows ∧ k rows = some r := by
 unfold kSrc at h
 rcases cond_or h with ⟨_, h⟩ | ⟨_, h⟩
 ·obtain ⟨s, rfl, h⟩ := kStr_some h
  obtain ⟨h1, hz⟩ := cond_some h
  exact ⟨_, by simp only [srcRows, h1, if_true], hz⟩
 ·obtain ⟨rows, h1, hz⟩ := kRowsOf_some h
  refine ⟨rows, ?_, hz⟩
  unfold srcRows
  split
  ·simp [rowsOf] at h1
  ·exact h1

theorem kConvert_some {cfg : Cfg} {nid : Option Nat} {s d : TypeId} {x : AV} {k : KH α} (h : kConvert cfg nid s d x H k = some r) : ∃ v H', aConvert cfg nid s d x H = some (v, H') ∧ k v H' = some r := by
 unfold kConvert at h
 unfold aConvert
 split at h
 ·rename_i hs hd
  split at h
  ·exact ⟨_, _, by simp only [hs, hd], h⟩
  ·cases h
 ·rename_i hs hd
  obtain ⟨b, rfl, hz⟩ := kStr_some h
  exact ⟨_, _, by simp only [hs, hd], hz⟩
 ·rename_i e hs hd
  split at h
  ·rename_i hte
   obtain ⟨b, rfl, h0⟩ := kStr_some h
   obtain ⟨i, H', h1, hz⟩ := kNew_some h0
   exact ⟨_, _, by simp only [hs, hd, hte, h1], hz⟩
  ·cases h
 ·rename_i e hs hd
  split at h
  ·rename_i hte
   obtain ⟨rows, h1, h⟩ := kOpt_some h
   obtain ⟨bs, h2, hz⟩ := kOpt_some h
   refine ⟨.str bs, H, ?_, hz⟩
   simp only [hs, hd]
   cases x <;> first | (simp only [hte, h1, h2]; done) | (simp [rowsOf] at h1)
  ·cases h
 ·cases h

theorem kAppend_some {cfg : Cfg} {nid : Option Nat} {t xt : TypeId} {s x : AV} {k : KH α} (h : kAppend cfg nid t xt s x H k = some r) : ∃ v H', aAppend cfg nid t xt s x H = some (v, H') ∧ k v H' = some r := by
 unfold kAppend at h
 unfold aAppend
 split at h
 case h_2 => cases h
 rename_i e xd ht hxt
 split at h
 case h_2 => cases h
 rename_i ei hei
 obtain ⟨h1, h⟩ := cond_some h
 obtain ⟨news, h2, h⟩ := kSrc_some h
 simp only [ht, hxt, hei, h1, if_true, h2]
 split at h
 ·rcases cond_or h with ⟨h3, hz⟩ | ⟨h3, h⟩
  ·exact ⟨_, _, by simp only [h3, if_true], hz⟩
  ·obtain ⟨h4, h⟩ := cond_some h
   obtain ⟨i, H', h5, hz⟩ := kNew_some h
   exact ⟨_, _, by simp only [h3, Bool.false_eq_true, if_false, h4, if_true, h5], hz⟩
 ·obtain ⟨d, sz, rs, h3, h⟩ := kBlkW_some h
  obtain ⟨h4, h⟩ := cond_some h
  obtain ⟨i, H', h5, hz⟩ := kNew_some h
  exact ⟨_, _, by simp only [h3, h4, if_true, h5], hz⟩
 ·cases h

theorem kLen_some {cfg : Cfg} {t : TypeId} {x : AV} {k : KV α} (h : kLen cfg t x H k = some r) : ∃ v, aLen cfg t x H = some v ∧ k v = some r := by
 unfold kLen at h
 unfold aLen
 split at h
 ·rename_i ht
  obtain ⟨s, rfl, hz⟩ := kStr_some h
  exact ⟨_, by simp only [ht], hz⟩
 ·rename_i e ht
  split at h
  ·exact ⟨_, by simp only [ht], h⟩
  ·exact ⟨_, by simp only [ht], h⟩
  ·exact ⟨_, by simp only [ht], h⟩
  ·exact ⟨_, by simp only [ht], h⟩
  ·exact ⟨_, by simp only [ht], h⟩
  ·exact ⟨_, by simp only [ht], h⟩
  ·cases h
 ·rename_i n e ht
  exact ⟨_, by simp only [ht], h⟩
 ·rename_i a b ht
  split at h
  ·exact ⟨_, by simp only [ht], h⟩
  ·obtain ⟨b, h1, h⟩ := kOpt_some h
   split at h
   ·exact ⟨_, by simp only [ht, h1], h⟩
   ·cases h
  ·cases h
 ·cases h

theorem kMake_some {cfg : Cfg} {nid : Option Nat} {t : TypeId} {l c : AV} {k : KH α} (h : kMake cfg nid t l c H k = some r) : ∃ v H', aMake cfg nid t l c H = some (v, H') ∧ k v H' = some r := by
 unfold kMake at h
 unfold aMake
 split at h
 case h_2 => cases h
 rename_i e ht
 split at h
 case h_2 => cases h
 rename_i ei hei
 obtain ⟨h1, h⟩ := cond_some h
 obtain ⟨n, rfl, ha⟩ := kInt_some h
 obtain ⟨m, rfl, hb⟩ := kInt_some ha
 obtain ⟨h2, hd⟩ := cond_some hb
 obtain ⟨i, H', h3, hz⟩ := kNew_some hd
 rw [Bool.and_eq_true, Bool.and_eq_true, Bool.and_eq_true, leInt_iff, leInt_iff, leInt_iff, leInt_iff] at h2
 exact ⟨_, _, by simp only [ht, hei, h1, if_true]; rw [if_pos ⟨h2.1.1.1, h2.1.1.2, h2.1.2, h2.2⟩]; simp only [h3], hz⟩

theorem kNilCheck_some {v : AV} {k : KV α} {cfg : Cfg} {nid : Option Nat} {a : Operand} {ty : TypeId} {x : Operand → AV} (hx : x a = v) (h : kNilCheck v k = some r) : evOp cfg nid (.nilCheck a) ty x H = some (v, H) ∧ k v = some r := by
 unfold kNilCheck at h
 simp only [evOp, hx]
 split at h <;> first | exact ⟨rfl, h⟩ | cases h

theorem kClear_some {cfg : Cfg} {t : TypeId} {x : AV} {k : AH → Option α} (h : kClear cfg t x H k = some r) : ∃ H', aClear cfg t x H = some H' ∧ k H' = some r := by
 unfold kClear at h
 unfold aClear
 split at h
 case h_2 => cases h
 rename_i e he
 rw [he]
 split at h
 ·exact ⟨H, rfl, h⟩
 ·rename_i id off len
  split at h
  case h_2 => cases h
  rename_i ei hei
  obtain ⟨d, sz, rs, h1, h⟩ := kBlkW_some h
  obtain ⟨h2, hz⟩ := cond_some h
  exact ⟨_, by simp only [hei, h1, h2, if_true], hz⟩
 ·cases h
theorem kCopy_some {cfg : Cfg} {t xt : TypeId} {d s : AV} {k : KH α} (h : kCopy cfg t xt d s H k = some r) : ∃ v H', aCopy cfg t d s H = some (v, H') ∧ k v H' = some r := by
 unfold kCopy at h
 unfold aCopy
 split at h
 case h_2 => cases h
 rename_i e he
 rw [he]
 split at h
 case h_2 => cases h
 rename_i id off len
 split at h
 case h_2 => cases h
 rename_i n hn
 obtain ⟨db, sz, rs, h1, h⟩ := kBlkW_some h
 obtain ⟨news, h2, h⟩ := kSrc_some h
 obtain ⟨h3, hz⟩ := cond_some h
 exact ⟨_, _, by simp only [hn, h1, h2, h3, if_true], hz⟩

theorem kOp_some {cfg : Cfg} {nid : Option Nat} {o : Op} {ty : TypeId} {x : Operand → AV} {k : KH α} (h : kOp cfg nid o ty x H k = some r) : ∃ v H', evOp cfg nid o ty x H = some (v, H') ∧ k v H' = some r := by
 cases o with
 | move a => exact ⟨_, _, rfl, h⟩
 | assign a => exact ⟨_, _, rfl, h⟩
 | pick c a b =>
  simp only [kOp] at h
  obtain ⟨t, h1, h⟩ := kBool_some h
  have := kPick_some (k := fun v => k v H) h
  exact ⟨_, _, by simp only [evOp, h1], this⟩
 | alloc t =>
  simp only [kOp] at h
  split at h
  ·rename_i ti hti
   obtain ⟨h1, h⟩ := cond_some h
   obtain ⟨i, H', h2, hz⟩ := kNew_some h
   exact ⟨_, _, by simp only [evOp, hti, h1, if_true, h2], hz⟩
  ·cases h
 | box t a =>
  simp only [kOp] at h
  obtain ⟨cs, h1, h⟩ := kCellsOf_some h
  obtain ⟨i, H', h2, hz⟩ := kNew_some h
  exact ⟨_, _, by simp only [evOp, h1, h2], hz⟩
 | build t parts =>
  simp only [kOp] at h
  split at h
  case h_2 => cases h
  rename_i ti hti
  obtain ⟨h1, h⟩ := cond_some h
  split at h
  ·rename_i fs hfs
   split at h
   case h_2 => cases h
   rename_i ps hps
   obtain ⟨qs, h2, h3⟩ := placesK_of hps
   obtain ⟨cs, h4, hz⟩ := kFill_some (place' := fun i => qs[i]?) (fun i off n g hi => h3 i off n g hi) h
   exact ⟨_, _, by simp only [evOp, hti, h1, if_true, hfs, h2, h4, Option.map_some], hz⟩
  ·rename_i m e hfs
   split at h
   case h_2 => cases h
   rename_i n hn
   obtain ⟨cs, h4, hz⟩ := kFill_some (place' := fun i => some (i * n, n)) (fun i off m g hi => by cases hi; rfl) h
   exact ⟨_, _, by simp only [evOp, hti, h1, if_true, hfs, hn, h4, Option.map_some], hz⟩
  ·cases h
 | buildSlice t len parts =>
  simp only [kOp] at h
  split at h
  case h_2 => cases h
  rename_i e ht
  split at h
  case h_2 => cases h
  rename_i ei hei
  obtain ⟨h1, h⟩ := cond_some h
  obtain ⟨rows, h2, h⟩ := kRows_some h
  obtain ⟨i, H', h3, hz⟩ := kNew_some h
  exact ⟨_, _, by simp only [evOp, ht, hei, h1, if_true, h2, h3], hz⟩
 | load t a =>
  simp only [kOp] at h
  split at h
  case h_2 => cases h
  rename_i ti hti
  split at h
  ·rename_i cs off hx
   obtain ⟨v, h1, h⟩ := kPart_some h
   have h2 := kTy_some (k := fun v => cond ti.d.agg (k v.lendA H) (k v.lend H)) h
   rcases cond_or h2 with ⟨ha, h2⟩ | ⟨ha, h2⟩
   ·rw [ha] at h1
    simp only [if_true] at h1
    split at h1
    ·rename_i hb
     cases h1
     refine ⟨_, _, ?_, h2⟩
     simp only [evOp, hti, hx, aLoad, ha, if_true, hb, Option.map_some, AV.lendA]
    ·cases h1
   ·rw [ha] at h1
    simp only [Bool.false_eq_true, if_false] at h1
    refine ⟨_, _, ?_, h2⟩
    simp only [evOp, hti, hx, aLoad, ha, Bool.false_eq_true, if_false, h1, Option.map_some]
  ·rename_i id cs hx
   obtain ⟨v, h1, h⟩ := kLoad_some h
   exact ⟨_, _, by simp only [evOp, hti, hx, h1, Option.map_some], h⟩
  ·obtain ⟨v, h1, h⟩ := kLoad_some h
   exact ⟨_, _, by simp only [evOp, hti, h1, Option.map_some], kTy_some (k := fun v => k v H) h⟩
 | store t a v =>
  simp only [kOp] at h
  split at h
  case h_2 => cases h
  rename_i ti hti
  obtain ⟨H', h1, hz⟩ := kStore_some h
  exact ⟨_, _, by simp only [evOp, (ty_sz hti).1, h1, Option.map_some], hz⟩
 | nilCheck a =>
  obtain ⟨h1, h2⟩ := kNilCheck_some (cfg := cfg) (nid := nid) (ty := ty) (H := H) (x := x) (a := a) (k := fun v => k v H) rfl h
  exact ⟨_, _, h1, h2⟩
 | binOp op t a b yt =>
  simp only [kOp] at h
  obtain ⟨v, h1, h⟩ := kOpt_some h
  exact ⟨_, _, by simp only [evOp, h1, Option.map_some], kTy_some (k := fun v => k v H) h⟩
 | unOp op t a =>
  simp only [kOp] at h
  obtain ⟨v, h1, h⟩ := kOpt_some h
  exact ⟨_, _, by simp only [evOp, h1, Option.map_some], kTy_some (k := fun v => k v H) h⟩
 | convert s d a => exact kConvert_some h
 | makeFunc f first caps => exact ⟨_, _, rfl, h⟩
 | makeSlice t l c => exact kMake_some h
 | slice t a lo hi mx =>
  simp only [kOp] at h
  obtain ⟨v, h1, hz⟩ := kSlice_some h
  exact ⟨_, _, by simp only [evOp, h1, Option.map_some], hz⟩
 | fieldAddr t a f =>
  simp only [kOp] at h
  obtain ⟨v, h1, hz⟩ := kFieldAddr_some h
  exact ⟨_, _, by simp only [evOp, h1, Option.map_some], hz⟩
 | field t a f =>
  simp only [kOp] at h
  obtain ⟨v, h1, h⟩ := kField_some h
  exact ⟨_, _, by simp only [evOp, h1, Option.map_some], kTy_some (k := fun v => k v H) h⟩
 | indexAddr t a i =>
  simp only [kOp] at h
  obtain ⟨v, h1, hz⟩ := kIndexAddr_some h
  exact ⟨_, _, by simp only [evOp, h1, Option.map_some], hz⟩
 | index t a i =>
  simp only [kOp] at h
  obtain ⟨v, h1, h⟩ := kIndex_some h
  exact ⟨_, _, by simp only [evOp, h1, Option.map_some], kTy_some (k := fun v => k v H) h⟩
 | extract t i =>
  simp only [kOp] at h
  split at h
  ·rename_i vs hvs
   obtain ⟨v, h1, h⟩ := kOpt_some h
   exact ⟨_, _, by simp only [evOp, hvs, h1, Option.map_some], kTy_some (k := fun v => k v H) h⟩
  ·cases h
 | call c =>
  simp only [kOp] at h
  obtain ⟨callee, args, argTypes⟩ := c
  simp only at h
  simp only [evOp]
  split at h
  case h_2 => cases h
  generalize args.toList = al at *
  generalize argTypes.toList = tl at *
  split at h
  ·obtain ⟨v, h1, hz⟩ := kLen_some h
   exact ⟨_, _, by simp only [h1, Option.map_some], hz⟩
  ·exact kAppend_some h
  ·rename_i d s t xt
   obtain ⟨v, H', h1, hz⟩ := kCopy_some h
   exact ⟨_, _, h1, hz⟩
  ·obtain ⟨v, h1, hz⟩ := kClear_some h
   exact ⟨_, _, by simp only [h1, Option.map_some], hz⟩
  ·obtain ⟨v, h1, h⟩ := kOpt_some h
   exact ⟨_, _, by simp only [h1, Option.map_some], kTy_some (k := fun v => k v H) h⟩
  ·obtain ⟨v, h1, h⟩ := kOpt_some h
   exact ⟨_, _, by simp only [h1, Option.map_some], kTy_some (k := fun v => k v H) h⟩
  ·cases h
 | _ => simp only [kOp] at h; cases h

def KfOk (cf : Orac) (kf : KF α) : Prop := ∀ t a H k r, kf t a H k = some r → ∃ q, cf t a H = some q ∧ k q = some r

theorem kAlts_some {cf : Orac} {f : Nat} : ∀ {l : List AV} {k : Option α}, kAlts cf f l k = some r → overAll cf f l = some () ∧ k = some r
 | [], _, h => ⟨rfl, h⟩
 | a :: l, k, h => by
  rw [kAlts] at h
  obtain ⟨u, h1, h⟩ := kOpt_some h
  obtain ⟨h2, hz⟩ := kAlts_some h
  refine ⟨?_, hz⟩
  unfold EVz at h1
  obtain ⟨q, h3, h4⟩ := Option.bind_eq_some_iff.1 h1
  rw [overAll, h3]
  simp only [Option.bind_some, h4, h2]
theorem kCall_some {cfg : Cfg} {cf : Orac} {kf : KF α} (hkf : KfOk cf kf) {nid : Option Nat} {ty : TypeId} {t : Tgt} {args : List AV} {k : KH α} (h : kCall cfg cf kf nid ty t args H k = some r) : ∃ v H', callT cfg cf nid t args H = some (v, H') ∧ k v H' = some r := by
 cases t with
 | y id =>
  simp only [kCall] at h
  obtain ⟨q, h1, h⟩ := hkf _ _ _ _ _ h
  obtain ⟨p, h2, h⟩ := kOpt_some h
  exact ⟨_, _, by simp only [callT, h1, Option.bind_some]; exact h2, kTy_some (k := fun v => k v p.2) h⟩
 | f f =>
  simp only [kCall] at h
  cases hm : cfg.mode f with
  | scal =>
   simp only [hm] at h
   obtain ⟨h1, h⟩ := cond_some (kArgs_some h)
   split at h
   ·obtain ⟨q, h5, h⟩ := hkf _ _ _ _ _ h
    have h3 := kTy_some (k := fun v => cond v.scalar (k v H) none) h
    obtain ⟨h4, hz⟩ := cond_some h3
    exact ⟨q.1, H, by simp only [callT, hm, h1, if_true, h5, Option.bind_some, h4], hz⟩
   obtain ⟨v, h2, h⟩ := kOpt_some h
   have h3 := kTy_some (k := fun v => cond v.scalar (k v H) none) h
   obtain ⟨h4, hz⟩ := cond_some h3
   unfold EVs at h2
   obtain ⟨q, h5, h6⟩ := Option.map_eq_some_iff.1 h2
   exact ⟨v, H, by simp only [callT, hm, h1, if_true, h5, Option.bind_some, h6, h4], hz⟩
  | pfrz =>
   simp only [hm] at h
   obtain ⟨h1, h⟩ := cond_some h
   split at h
   ·obtain ⟨q, h5, h⟩ := hkf _ _ _ _ _ h
    have h2 := kFrzA_frz (k := fun v => kTy allTy cfg ty v fun v => cond (v.refsLt 0) (k v H) none) h
    have h3 := kTy_some (k := fun v => cond (v.refsLt 0) (k v H) none) h2
    obtain ⟨h4, hz⟩ := cond_some h3
    exact ⟨_, H, by simp only [callT, hm, h1, if_true, h5, Option.bind_some, h4], hz⟩
   obtain ⟨v, h2, h⟩ := kOpt_some h
   have h3 := kTy_some (k := fun v => cond (v.refsLt 0) (k v H) none) h
   obtain ⟨h4, hz⟩ := cond_some h3
   unfold EVf at h2
   obtain ⟨q, h5, h6⟩ := Option.map_eq_some_iff.1 h2
   exact ⟨v, H, by simp only [callT, hm, h1, if_true, h5, Option.bind_some, h6, h4], hz⟩
  | pown =>
   simp only [hm] at h
   split at h
   ·rename_i t1 t2 _
    obtain ⟨h1, h⟩ := cond_some h
    obtain ⟨q, h2, h⟩ := kOpt_some h
    obtain ⟨p, h5, h6⟩ := Option.bind_eq_some_iff.1 h2
    unfold ovOf2 at h6
    split at h6
    case h_2 => cases h6
    rename_i a sc hp
    obtain ⟨h7, h6⟩ := cond_some h6
    split at h6
    case h_2 => cases h6
    rename_i o ho
    cases h6
    have h := kTy1_some (k := fun s => kOwn o (k (.tup [.nilS, s]) H) fun sz rs off len => kNew nid H (.rows true sz rs) fun i H' => k (.tup [.ms i off len, s]) H') h
    unfold ovOf at ho
    split at ho
    ·rename_i hq
     cases ho
     refine ⟨.tup [.nilS, sc], H, ?_, h⟩
     have hq : a = .nilS := hq
     simp only [callT, hm, h1, if_true, h5, Option.bind_some, ownRes, hp, h7, hq, ownRes1, AV.refsLt, Option.map_some]
    ·rename_i id off len hq
     split at ho
     case h_2 => cases ho
     rename_i sz rs hid
     split at ho
     case isFalse => cases ho
     rename_i hr
     cases ho
     simp only [kOwn] at h
     obtain ⟨i, H', h8, hz⟩ := kNew_some h
     have hq : a = .ms id off len := hq
     refine ⟨_, _, ?_, hz⟩
     simp only [callT, hm, h1, if_true, h5, Option.bind_some, ownRes, hp, h7, hq, ownRes1, hid, hr, h8, Option.map_some]
    ·cases ho
   ·obtain ⟨h1, h⟩ := cond_some h
    have key : ∃ q o, cf (.f f) args [] = some q ∧ ovOf q = some o ∧ (kOwn o (k .nilS H) fun sz rs off len => kNew nid H (.rows true sz rs) fun i H' => k (.ms i off len) H') = some r := by
     split at h
     ·obtain ⟨q, h5, h⟩ := hkf _ _ _ _ _ h
      obtain ⟨o, h6, h⟩ := kOpt_some h
      exact ⟨q, o, h5, h6, h⟩
     ·obtain ⟨o, h2, h⟩ := kOpt_some h
      unfold EVo at h2
      obtain ⟨q, h5, h6⟩ := Option.bind_eq_some_iff.1 h2
      exact ⟨q, o, h5, h6, h⟩
    obtain ⟨q, o, h5, h6, h⟩ := key
    unfold ovOf at h6
    split at h6
    ·rename_i hq
     cases h6
     exact ⟨.nilS, H, by simp only [callT, hm, h1, if_true, h5, Option.bind_some, ownRes, ownRes1, hq, AV.refsLt], h⟩
    ·rename_i id off len hq
     split at h6
     case h_2 => cases h6
     rename_i sz rs hid
     split at h6
     case isFalse => cases h6
     rename_i hr
     cases h6
     simp only [kOwn] at h
     obtain ⟨i, H', h7, hz⟩ := kNew_some h
     exact ⟨_, _, by simp only [callT, hm, h1, if_true, h5, Option.bind_some, ownRes, ownRes1, hq, hid, hr, h7], hz⟩
    ·cases h6
  | inpl =>
   simp only [hm] at h
   have res : ∀ (kd : Nat) (ik : IntKind) (id : Nat) (v : MV) (k : KV α), kMRes kd ik id v k = some r → k (v.av id) = some r := by
    intro kd ik id v k h
    unfold kMRes at h
    split at h
    ·cases v <;> first | exact h | exact absurd h (by simp [kMUnit])
    ·cases v <;> first | exact h | exact absurd h (by simp [kMSl])
    ·cases v with
     | int q n =>
      obtain ⟨h1, h2⟩ := cond_some h
      rw [← kindEq_eq h1] at h2
      exact h2
     | _ => exact absurd h (by simp [kMInt])
    ·cases v <;> first | exact h | exact absurd h (by simp [kMBool])
   split at h
   case h_2 =>
    rename_i hids
    obtain ⟨h1, h⟩ := cond_some h
    obtain ⟨v1, h2, h⟩ := kOpt_some h
    unfold EVu at h2
    obtain ⟨r1, h5, h6⟩ := Option.bind_eq_some_iff.1 h2
    split at h6
    case isFalse => cases h6
    rename_i hrf
    have hav : r1.1 = v1.av 0 := by
     unfold mvOf at h6
     split at h6
     ·rename_i e; cases h6; rw [e]; rfl
     ·rename_i e; cases h6; rw [e]; rfl
     ·rename_i i off len e
      rw [e] at hrf
      simp [AV.refsLt, Nat.blt_eq] at hrf
     ·rename_i e; cases h6; rw [e]; rfl
     ·rename_i e; cases h6; rw [e]; rfl
     ·cases h6
    refine ⟨v1.av 0, H, ?_, res _ _ _ _ (fun v => k v H) h⟩
    simp only [callT, hm, hids, h1, if_true, h5, Option.bind_some, hrf]
    rw [hav]
   rename_i id l hids
   obtain ⟨h1, h⟩ := cond_some h
   obtain ⟨b, h2, h⟩ := kOpt_some h
   split at h
   case h_2 => cases h
   rename_i d sz rs
   obtain ⟨h3, h⟩ := cond_some h
   obtain ⟨q, h4, h⟩ := kOpt_some h
   unfold EVm at h4
   obtain ⟨r1, h5, h6⟩ := Option.bind_eq_some_iff.1 h4
   obtain ⟨q1, h7, h8⟩ := Option.bind_eq_some_iff.1 h6
   obtain ⟨v1, h9, h10⟩ := Option.map_eq_some_iff.1 h8
   cases h10
   have hav : q1.1.ren (fun _ => id) = v1.av id := by
    unfold mvOf at h9
    split at h9
    ·rename_i e; cases h9; rw [e]; simp [AV.ren, renL, MV.av]
    ·rename_i e; cases h9; rw [e]; simp [AV.ren, MV.av]
    ·rename_i i off len e
     split at h9
     ·cases h9; rw [e]; simp [AV.ren, MV.av]
     ·cases h9
    ·rename_i e; cases h9; rw [e]; simp [AV.ren, MV.av]
    ·rename_i e; cases h9; rw [e]; simp [AV.ren, MV.av]
    ·cases h9
   have hk : k (v1.av id) (H.set id (.rows true sz q1.2)) = some r := res _ _ _ _ (fun v => k v (H.set id (.rows true sz q1.2))) h
   refine ⟨v1.av id, _, ?_, hk⟩
   simp only [callT, hm, hids, h1, if_true, h2, h3, h5, Option.bind_some, h7, Option.map_some, hav]
  | inpf =>
   simp only [hm] at h
   split at h
   case h_2 => cases h
   rename_i id l hids
   obtain ⟨h1, h⟩ := cond_some h
   obtain ⟨b, h2, h⟩ := kOpt_some h
   split at h
   case h_2 => cases h
   rename_i d sz rs
   obtain ⟨h3, h⟩ := cond_some h
   obtain ⟨q, h4, h⟩ := kOpt_some h
   unfold EVd at h4
   obtain ⟨r1, h5, h6⟩ := Option.bind_eq_some_iff.1 h4
   have hk := kTy_some (k := fun v => k v (H.set id (.rows true sz q.2))) h
   refine ⟨q.1, _, ?_, hk⟩
   simp only [callT, hm, hids, h1, if_true, h2, h3, h5, Option.bind_some, h6, Option.map_some]
  | slf =>
   simp only [hm] at h
   split at h
   case h_2 => cases h
   rename_i id l hids
   obtain ⟨h1, h⟩ := cond_some h
   obtain ⟨b, h2, h⟩ := kOpt_some h
   split at h
   case h_2 => cases h
   rename_i d sz rs
   obtain ⟨h3, h⟩ := cond_some h
   obtain ⟨q, h4, h⟩ := kOpt_some h
   have h4 := EVk_some h4
   unfold EVx at h4
   obtain ⟨r1, h5, h6⟩ := Option.bind_eq_some_iff.1 h4
   have hk := kTy_some (k := fun v => k v (H.set id (.rows false sz (renR (fun _ => id) (renR (fun _ => 0) rs))))) h
   refine ⟨q, _, ?_, hk⟩
   simp only [callT, hm, hids, h1, if_true, h2, h3, h5, Option.bind_some, h6, Option.map_some]
  | rgn =>
   simp only [hm] at h
   obtain ⟨h1, h⟩ := cond_some h
   obtain ⟨V, h2, h⟩ := kOpt_some h
   have h3 := kTy_some (k := fun V => kNew nid H .reg fun i H' => k (rgIn i V) H') h
   obtain ⟨i, H', h4, hz⟩ := kNew_some h3
   unfold EVg at h2
   obtain ⟨q, h5, h6⟩ := Option.bind_eq_some_iff.1 h2
   exact ⟨_, _, by simp only [callT, hm, h1, if_true, h5, Option.bind_some, h6, h4, Option.map_some], hz⟩
  | over =>
   simp only [hm] at h
   split at h
   case h_2 => cases h
   rename_i a
   split at h
   case h_2 => cases h
   rename_i id l hids
   obtain ⟨h1, h⟩ := cond_some h
   obtain ⟨b, h2, h⟩ := kOpt_some h
   split at h
   ·obtain ⟨h3, hz⟩ := kAlts_some h
    exact ⟨_, _, by simp only [callT, hm, hids, h1, if_true, h2, h3, Option.map_some], hz⟩
   ·obtain ⟨h3, hz⟩ := kAlts_some h
    exact ⟨_, _, by simp only [callT, hm, hids, h1, if_true, h2, h3, Option.map_some], hz⟩
   ·cases h
  | imp =>
   simp only [hm] at h
   obtain ⟨q, h1, h⟩ := hkf _ _ _ _ _ h
   obtain ⟨p, h2, h⟩ := kOpt_some h
   exact ⟨_, _, by simp only [callT, hm, h1, Option.bind_some]; exact h2, kTy_some (k := fun v => k v p.2) h⟩
  | ifrz =>
   simp only [hm] at h
   obtain ⟨q, h1, h⟩ := hkf _ _ _ _ _ h
   obtain ⟨p, h2, h⟩ := kOpt_some h
   exact ⟨_, _, by simp only [callT, hm, h1, Option.bind_some]; exact h2, kTy_some (k := fun v => k v p.2) h⟩

theorem kTgt_some {f : AV} {args : List AV} {k : Tgt → List AV → Option α} (h : kTgt f args k = some r) : ∃ t, tgtOf f args = some t ∧ k t.1 t.2 = some r := by
 unfold kTgt at h
 unfold tgtOf
 split at h
 ·exact ⟨_, rfl, h⟩
 ·exact ⟨_, rfl, h⟩
 ·cases h

theorem kFrzV_frz {ids : List Nat} {v : AV} {k : KV α} (hi : ∀ id ∈ v.msIds, id ∈ ids) (h : kFrzV H v k = some r) : k (v.frz ids H) = some r := by
 unfold kFrzV at h
 split at h
 ·rename_i cs
  have := kFrzL_frz (ids := ids) (fun v hv id off len e => hi id (msIds_mem hv e)) h
  simpa [AV.frz, Function.comp_def] using this
 ·rename_i cs
  have := kFrzL_frz (k := fun cs => k (.tup cs)) (ids := ids) (fun v hv id off len e => hi id (msIds_mem hv e)) h
  simpa [AV.frz, Function.comp_def] using this
 ·rename_i h1 h2
  have h4 := (kFrz1_some h).1 ids (fun id off len e => hi id (by subst e; simp [AV.msIds, AV.msId])) rfl
  have e1 : v.frz ids H = v.frz1 ids H := by
   cases v <;> first | rfl | exact absurd rfl (h1 _) | exact absurd rfl (h2 _)
  rw [e1]; exact h4
theorem kFrzVs_frz {ids : List Nat} : ∀ {l : List AV} {k : List AV → Option α}, (∀ v ∈ l, ∀ id ∈ v.msIds, id ∈ ids) → kFrzVs H l k = some r → k (l.map fun v => v.frz ids H) = some r
 | [], k, _, h => h
 | a :: l, k, hi, h => by
  rw [kFrzVs] at h
  have h1 := kFrzV_frz (ids := ids) (hi a (by simp)) h
  exact kFrzVs_frz (k := fun l => k (a.frz ids H :: l)) (fun v hv => hi v (by simp [hv])) h1

theorem opEq_eq {a b : Operand} (h : opEq a b = true) : a = b := by
 cases a <;> cases b <;> simp_all [opEq]
theorem frzX_eq {y : Operand → AV} (a : Operand) : ∀ l : List Operand, frzX l (l.map y) y a = y a
 | [] => rfl
 | b :: l => by
  rw [List.map_cons, frzX]
  cases hb : opEq b a with
  | true => rw [cond_true, opEq_eq hb]
  | false => rw [cond_false]; exact frzX_eq a l
theorem kFrzO_some {cfg : Cfg} {nid : Option Nat} {o : Oper} {x : Operand → AV} {k : KH α} (h : kFrzO cfg nid o x H k = some r) :
  kOp cfg nid o.op o.type (fun a => (x a).frz (o.op.operands.toList.flatMap fun a => (x a).msIds) H) (frzBlks (o.op.operands.toList.flatMap fun a => (x a).msIds) H) k = some r := by
 unfold kFrzO at h
 have h1 := kFrzVs_frz (ids := o.op.operands.toList.flatMap fun a => (x a).msIds) (fun v hv id hid => by
  obtain ⟨a, ha, rfl⟩ := List.mem_map.1 hv
  exact List.mem_flatMap.2 ⟨a, ha, hid⟩) h
 rw [List.map_map] at h1
 have e : frzX o.op.operands.toList (o.op.operands.toList.map ((fun v => v.frz (o.op.operands.toList.flatMap fun a => (x a).msIds) H) ∘ x)) (fun a => (x a).frz (o.op.operands.toList.flatMap fun a => (x a).msIds) H) = fun a => (x a).frz (o.op.operands.toList.flatMap fun a => (x a).msIds) H := funext fun a => frzX_eq a _
 rw [e] at h1
 exact h1
theorem kOper_some {cfg : Cfg} {cf : Orac} {kf : KF α} (hkf : KfOk cf kf) {frz : Bool} {nid : Option Nat} {o : Oper} {x : Operand → AV} {k : KH α} (h : kOper cfg cf kf frz nid o x H k = some r) : ∃ v H', evOper cfg cf frz nid o x H = some (v, H') ∧ k v H' = some r := by
 have core : ∀ {x : Operand → AV} {H : AH}, (match o.op with
   | .call c =>
    match c.callee with
    | .value f => kTgt (x f) (c.args.toList.map x) fun t al => kCall cfg cf kf nid o.type t al H k
    | _ => kOp cfg nid o.op o.type x H k
   | _ => kOp cfg nid o.op o.type x H k) = some r → ∃ v H', (match o.op with
    | .call c =>
     match c.callee with
     | .value f => (tgtOf (x f) (c.args.toList.map x)).bind fun t => callT cfg cf nid t.1 t.2 H
     | _ => evOp cfg nid o.op o.type x H
    | _ => evOp cfg nid o.op o.type x H) = some (v, H') ∧ k v H' = some r := by
  intro x H h
  cases ho : o.op with
  | call c =>
   simp only [ho] at h ⊢
   cases hc : c.callee with
   | value f =>
    simp only [hc] at h ⊢
    obtain ⟨t, h1, h⟩ := kTgt_some h
    obtain ⟨v, H', h2, hz⟩ := kCall_some hkf h
    exact ⟨v, H', by rw [h1]; exact h2, hz⟩
   | _ => simp only [hc] at h ⊢; exact kOp_some h
  | _ => simp only [ho] at h ⊢; exact kOp_some h
 unfold kOper at h
 unfold evOper
 cases frz with
 | true =>
  simp only [cond_true] at h
  simp only [if_true]
  refine core (x := fun a => (x a).frz (o.op.operands.toList.flatMap fun a => (x a).msIds) H) (H := frzBlks (o.op.operands.toList.flatMap fun a => (x a).msIds) H) ?_
  cases ho : o.op with
  | call c =>
   simp only [ho] at h ⊢
   cases hc : c.callee with
   | value f =>
    simp only [hc] at h ⊢
    have h1 := kFrzVs_frz (ids := (Op.call c).operands.toList.flatMap fun a => (x a).msIds) (fun v hv id hid => by
     obtain ⟨a, ha, rfl⟩ := List.mem_map.1 hv
     refine List.mem_flatMap.2 ⟨a, ?_, hid⟩
     simp [Op.operands, Call.operands, hc, Array.mem_toList_iff.1 ha]) h
    rw [List.map_map] at h1
    exact h1
   | _ => simp only [hc] at h ⊢; have h := kFrzO_some h; rw [ho] at h; exact h
  | _ => simp only [ho] at h ⊢; have h := kFrzO_some h; rw [ho] at h; exact h
 | false => simp only [cond_false] at h; simp only [Bool.false_eq_true, if_false]; exact core h

theorem set_self {fr : List AV} {d : Nat} {v : AV} (h : fr[d]? = some v) : fr.set d v = fr := by
 obtain ⟨hl, e⟩ := List.getElem?_eq_some_iff.1 h
 rw [← e]; exact List.set_getElem_self hl

theorem kWanted_some {ops : Array Oper} {fr : List AV} {o : Oper} {k : Bool → List AV → Option α} (h : kWanted ops fr o k = some r) : ∃ b, wantedA ops fr o = some b ∧ k b fr = some r := by
 unfold kWanted at h
 unfold wantedA
 split at h
 ·rename_i hg; rw [hg]; exact ⟨true, rfl, h⟩
 ·rename_i j want hg
  rw [hg]
  simp only
  split at h
  ·rename_i d hd
   rw [hd]
   simp only
   obtain ⟨v, h1, h⟩ := kOpt_some h
   rw [h1]
   split at h
   ·split at h
    ·exact ⟨false, rfl, h⟩
    ·cases h
   ·obtain ⟨b, rfl, h⟩ := kBool_some h
    simp only
    refine ⟨_, rfl, ?_⟩
    rcases cond_or h with ⟨rfl, h⟩ | ⟨rfl, h⟩
    ·rw [set_self h1] at h
     cases want <;> exact h
    ·rw [set_self h1] at h
     cases want <;> exact h
  ·cases h

theorem kOps_some {cfg : Cfg} {cf : Orac} {kf : KF α} (hkf : KfOk cf kf) {f rid : Nat} {ops : Array Oper} : ∀ {l : List Oper} {n : Nat} {fr : List AV} {H : AH} {k : List AV → AH → Option α}, kOps cfg cf kf f rid ops n l fr H k = some r → ∃ q, evOps cfg cf f rid ops n l fr H = some q ∧ k q.1 q.2 = some r
 | [], n, fr, H, k, h => ⟨(fr, H), rfl, h⟩
 | o :: l, n, fr, H, k, h => by
  rw [kOps] at h
  obtain ⟨b, h1, h⟩ := kWanted_some h
  rw [evOps, h1]
  simp only [Option.bind_some]
  rcases cond_or h with ⟨rfl, h⟩ | ⟨rfl, h⟩
  ·obtain ⟨v, H', h2, h⟩ := kOper_some hkf h
   simp only [if_true, h2, Option.bind_some]
   exact kOps_some hkf h
  ·simp only [Bool.false_eq_true, if_false]
   exact kOps_some hkf h

theorem cond_if {β : Type} (b : Bool) (x y : β) : cond b x y = if b then x else y := by cases b <;> rfl

theorem kDraw_some {cfg : Cfg} {cf : Orac} {kf : KF α} (hkf : KfOk cf kf) {f rid : Nat} {ops : Array Oper} : ∀ {l : List Oper} {n at_ : Nat} {fr : List AV} {H : AH} {k : List FP → List AV → AH → Option α}, kDraw cfg cf kf f rid ops n at_ l fr H k = some r →
  ∃ q, evDraw cfg cf f rid ops n at_ l fr H = some q ∧ k q.1 q.2.1 q.2.2 = some r
 | [], n, at_, fr, H, k, h => ⟨([], fr, H), rfl, h⟩
 | o :: l, n, at_, fr, H, k, h => by
  rw [kDraw] at h
  obtain ⟨b, h1, h⟩ := kWanted_some h
  rw [evDraw, h1]
  simp only [Option.bind_some]
  rcases cond_or h with ⟨rfl, h9⟩ | ⟨rfl, h9⟩
  ·obtain ⟨v, H', h2, h8⟩ := kOper_some hkf h9
   simp only [if_true, h2, Option.bind_some]
   rw [cond_if] at h8
   obtain ⟨q, h3, hz⟩ := kDraw_some hkf h8
   exact ⟨_, by rw [h3]; rfl, hz⟩
  ·simp only [Bool.false_eq_true, if_false]
   rw [cond_if] at h9
   obtain ⟨q, h3, hz⟩ := kDraw_some hkf h9
   exact ⟨_, by rw [h3]; rfl, hz⟩

theorem known_self {fr : List AV} {c : Operand} {b : Bool} (h : opd fr c = .bool b) : known fr c b = fr := by
 cases c with
 | tmp d =>
  simp only [known]
  have hg : fr[d]? = some (.bool b) := by
   have h' : fr.getD d .junk = .bool b := h
   rw [List.getD_eq_getElem?_getD] at h'
   cases hd : fr[d]? with
   | none => rw [hd] at h'; cases h'
   | some v => rw [hd] at h'; simp at h'; rw [h']
  exact set_self hg
 | _ => rfl

theorem kCode_some {cfg : Cfg} {cf : Orac} {kf : KF α} (hkf : KfOk cf kf) {f : Nat} {rd : Option Nat} {bs : Nat} : ∀ (c : Code) {fr : List AV} {H : AH} {k : KE α}, kCode cfg cf kf f rd bs c fr H k = some r → ∃ q, evC cfg cf f rd bs c fr H = some q ∧ k q.1 q.2.1 q.2.2 = some r := by
 intro c
 induction c with
 | skip => intro fr H k h; exact ⟨(.normal, fr, H), by simp only [evC], by simpa only [kCode] using h⟩
 | label l => intro fr H k h; exact ⟨(.normal, fr, H), by simp only [evC], by simpa only [kCode] using h⟩
 | exit id => intro fr H k h; exact ⟨(.exit id, fr, H), by simp only [evC], by simpa only [kCode] using h⟩
 | ret => intro fr H k h; exact ⟨(.ret, fr, H), by simp only [evC], by simpa only [kCode] using h⟩
 | goto l => intro fr H k h; simp only [kCode] at h; cases h
 | refuse s => intro fr H k h; simp only [kCode] at h; cases h
 | region id ops draw =>
  intro fr H k h
  simp only [kCode] at h
  simp only [evC]
  cases draw with
  | true =>
   simp only [cond_true] at h
   simp only [if_true]
   obtain ⟨h1, h⟩ := cond_some h
   obtain ⟨q, h2, h⟩ := kDraw_some hkf h
   obtain ⟨h3, hz⟩ := cond_some h
   exact ⟨(.normal, q.2), by simp only [h1, if_true, h2, Option.bind_some, h3], hz⟩
  | false =>
   simp only [cond_false] at h
   simp only [Bool.false_eq_true, if_false]
   obtain ⟨q, h2, hz⟩ := kOps_some hkf h
   exact ⟨(.normal, q), by simp only [h2, Option.map_some], hz⟩
 | seq x y ihx ihy =>
  intro fr H k h
  simp only [kCode] at h
  simp only [evC]
  obtain ⟨q, h1, h⟩ := ihx h
  rw [h1]
  simp only [Option.bind_some]
  unfold kSeq at h
  cases hq : q.1 with
  | normal => simp only [hq] at h ⊢; exact ihy (kCutTo_some h)
  | exit id => simp only [hq] at h ⊢; exact ⟨_, rfl, h⟩
  | goto l => simp only [hq] at h ⊢; exact ⟨_, rfl, h⟩
  | ret => simp only [hq] at h ⊢; exact ⟨_, rfl, h⟩
 | cond cnd x y ihx ihy =>
  intro fr H k h
  simp only [kCode] at h
  simp only [evC]
  obtain ⟨b, h1, h⟩ := kBool_some h
  rw [h1]
  simp only
  rcases cond_or h with ⟨rfl, h⟩ | ⟨rfl, h⟩
  ·rw [known_self h1] at h
   simp only [if_true]; exact ihx h
  ·rw [known_self h1] at h
   simp only [Bool.false_eq_true, if_false]; exact ihy h
 | block id x ih =>
  intro fr H k h
  simp only [kCode] at h
  simp only [evC]
  obtain ⟨q, h1, h⟩ := ih h
  rw [h1]
  simp only [Option.bind_some]
  unfold kBlock at h
  cases hq : q.1 with
  | normal => simp only [hq] at h ⊢; exact ⟨_, rfl, by rw [hq]; exact h⟩
  | exit id' =>
   simp only [hq] at h ⊢
   rcases cond_or h with ⟨h2, hz⟩ | ⟨h2, hz⟩
   ·exact ⟨_, by simp only [h2, if_true]; rfl, hz⟩
   ·exact ⟨q, by simp only [h2, Bool.false_eq_true, if_false], by rw [hq]; exact hz⟩
  | goto l => simp only [hq] at h ⊢; exact ⟨_, rfl, by rw [hq]; exact h⟩
  | ret => simp only [hq] at h ⊢; exact ⟨_, rfl, by rw [hq]; exact h⟩
 | loop x ih =>
  intro fr H k h
  simp only [kCode] at h
  simp only [evC]
  obtain ⟨q, h1, hz⟩ := kOpt_some h
  exact ⟨(q.1, maskFr (cfg.keepOut f (firstRid x)) q.2.1, q.2.2), by rw [h1]; rfl, hz⟩
 | scope x ih =>
  intro fr H k h
  simp only [kCode] at h
  simp only [evC]
  obtain ⟨q, h1, h⟩ := ih h
  rw [h1]
  simp only [Option.bind_some]
  unfold kScope at h
  cases hq : q.1 with
  | goto l => simp only [hq] at h; cases h
  | normal => simp only [hq] at h ⊢; exact ⟨_, rfl, by rw [hq]; exact h⟩
  | exit id => simp only [hq] at h ⊢; exact ⟨_, rfl, by rw [hq]; exact h⟩
  | ret => simp only [hq] at h ⊢; exact ⟨_, rfl, by rw [hq]; exact h⟩
 | rangeFunc g ps assign body =>
  intro fr H k h
  simp only [kCode] at h
  simp only [evC]
  generalize (liftFr (cfg.lift f (firstRid body)) fr H).1 = fr at h ⊢
  generalize (liftFr (cfg.lift f (firstRid body)) _ H).2 = H at h ⊢
  unfold kRange at h
  obtain ⟨h1, h⟩ := cond_some h
  split at h
  case h_2 => cases h
  rename_i g' first caps hg
  obtain ⟨h2, h⟩ := cond_some h
  obtain ⟨q, h3, h⟩ := hkf _ _ _ _ _ h
  unfold kRangeEnd at h
  obtain ⟨b, h4, h⟩ := kOpt_some h
  unfold kPend at h
  split at h
  case h_2 => cases h
  rename_i pend st
  have hx : ¬ (cfg.ext g').isSome = true := by
   cases he : cfg.ext g' with
   | none => simp
   | some s => rw [he] at h2; cases h2
  have hst : st ≠ .busy := by
   intro e; subst e; simp at h
  have hpk : kPendK pend k (gc bs (maskFr (cfg.keepOut f (firstRid body)) fr) (q.2.set H.length .dead)).1 (gc bs (maskFr (cfg.keepOut f (firstRid body)) fr) (q.2.set H.length .dead)).2 = some r := by
   cases st with
   | busy => exact absurd rfl hst
   | _ => exact h
  unfold evRange
  rw [if_pos h1, hg]
  simp only [hx, h3, Option.bind_some, h4]
  unfold kPendK at hpk
  cases st with
  | busy => exact absurd rfl hst
  | _ =>
   cases pend with
   | none => exact ⟨_, rfl, hpk⟩
   | some c =>
    cases c <;> first | exact ⟨_, rfl, hpk⟩ | cases hpk

theorem kRes_some {cfg : Cfg} {fr : List AV} : ∀ {rs : List ResultVar} {k : List AV → Option α}, kRes cfg fr H rs k = some r → ∃ vs, resVals rs cfg.ty fr H = some vs ∧ k vs = some r
 | [], k, h => ⟨[], rfl, h⟩
 | .tmp t :: l, k, h => by
  rw [kRes] at h
  obtain ⟨vs, h1, hz⟩ := kRes_some h
  exact ⟨_, by simp only [resVals, h1, Option.map_some], hz⟩
 | .cell a t :: l, k, h => by
  rw [kRes] at h
  split at h
  ·rename_i ti hti
   obtain ⟨v, h1, h⟩ := kLoad_some h
   have h2 := kTy_some (k := fun v => kRes cfg fr H l fun vs => k (v :: vs)) h
   obtain ⟨vs, h3, hz⟩ := kRes_some h2
   exact ⟨_, by simp only [resVals, hti, h1, Option.bind_some, h3, Option.map_some], hz⟩
  ·cases h

end Go.Av
end

section
namespace Go.Av
variable {α : Type}

def fxGo (i : Nat) (l : List (Nat × AV)) : Nat → List AV
 | 0 => []
 | n + 1 => match l with
  | [] => .junk :: fxGo (i + 1) [] n
  | p :: l' => if Nat.beq p.1 i then p.2 :: fxGo (i + 1) l' n else .junk :: fxGo (i + 1) (p :: l') n

def fx (n : Nat) (l : List (Nat × AV)) : List AV := fxGo 0 l n

def bodyOf (fn : Func) : Code := match fn.body with | some c => c | none => .skip

def sub : Code → List Nat → Code
 | c, [] => c
 | .seq a b, i :: l => match i with | 0 => sub a l | _ => sub b l
 | .cond _ a b, i :: l => match i with | 0 => sub a l | _ => sub b l
 | .block _ a, _ :: l => sub a l
 | .loop a, _ :: l => sub a l
 | .scope a, _ :: l => sub a l
 | .rangeFunc _ _ a b, i :: l => match i with | 0 => sub a l | _ => sub b l
 | c, _ => c

def rngB (fn : Func) (f : Nat) (p : List Nat) (fr : List AV) (pend : Option Code) (st : LoopState) : ABlk :=
 match sub (bodyOf fn) p with
 | .rangeFunc _ ps a b => .loop f fr ps.toList a b pend st
 | _ => .dead
noncomputable def kLp (k : Nat) (ts : Option (List Tmp)) (ls : List (Tmp × Nat)) (L : Den) (A : Ex × List AV × AH → Option α) : KE α := fun e fr H =>
 match e with
 | .normal => kOpt (LOOP k ts ls L (headFr k ts ls fr H)) A
 | e => A (e, fr, H)

theorem loop_stepK {cfg : Cfg} {kf : KF α} (hkf : KfOk (EV cfg) kf) {f : Nat} {rd : Option Nat} {bs : Nat} {c : Code} {k : Nat} {ts : Option (List Tmp)} {ls : List (Tmp × Nat)} {A : Ex × List AV × AH → Option α} {fr : List AV} {H : AH} {r : α}
  (h : kCode cfg (EV cfg) kf f rd bs c fr H (kLp k ts ls (evC cfg (EV cfg) f rd bs c) A) = some r) : kOpt (LOOP k ts ls (evC cfg (EV cfg) f rd bs c) (fr, H)) A = some r := by
 obtain ⟨⟨e, fr1, H1⟩, h1, h2⟩ := kCode_some hkf c h
 cases e with
 | normal =>
  simp only [kLp] at h2
  cases hl : LOOP k ts ls (evC cfg (EV cfg) f rd bs c) (headFr k ts ls fr1 H1) with
  | none => rw [hl] at h2; cases h2
  | some q =>
   rw [hl] at h2
   rw [LOOP_step (p := (fr, H)) h1 hl]
   exact h2
 | exit id => rw [LOOP_exit (p := (fr, H)) h1 (fun x => by intro h; cases h)]; exact h2
 | goto l => rw [LOOP_exit (p := (fr, H)) h1 (fun x => by intro h; cases h)]; exact h2
 | ret => rw [LOOP_exit (p := (fr, H)) h1 (fun x => by intro h; cases h)]; exact h2

def kFinG (cfg : Cfg) (ls : List (Tmp × Nat)) (g : AV → AH → Option α) (rs : List ResultVar) : KE α := fun e fr H =>
 match e with
 | .normal => kRes cfg (liftFr ls fr H).1 (liftFr ls fr H).2 rs fun vs => g (result1 vs) (liftFr ls fr H).2
 | .ret => kRes cfg (liftFr ls fr H).1 (liftFr ls fr H).2 rs fun vs => g (result1 vs) (liftFr ls fr H).2
 | _ => none

def kFinS (cfg : Cfg) (ls : List (Tmp × Nat)) (rs : List ResultVar) : KE AV := kFinG cfg ls (fun v _ => some v) rs
def kFinF (cfg : Cfg) (ls : List (Tmp × Nat)) (rs : List ResultVar) : KE AV := kFinG cfg ls (fun v H => kFrzA false H v some) rs
def kFinO (cfg : Cfg) (ls : List (Tmp × Nat)) (rs : List ResultVar) : KE OV := kFinG cfg ls (fun v H => ovOf (v, H)) rs
noncomputable def kFunG (cfg : Cfg) (cf : Orac) (kf : KF α) (f : Nat) (fn : Func) (c : Code) (args : List AV) (H : AH) (fin : KE α) : Option α :=
 kCode cfg cf kf f none H.length c (args ++ List.replicate (fn.ntmps - args.length) .junk) H fin

theorem kFinG_someK {cfg : Cfg} {kf : KF α} (hkf : KfOk (EV cfg) kf) {g : AV → AH → Option α} {f : Nat} {fn : Func} {args : List AV} {H : AH} {r : α} (hx : cfg.ext f = none) (hk : cfg.known f = true) (hf : cfg.P.funcs[f]? = some fn) (hb : fn.body = some (bodyOf fn))
  (h : kFunG cfg (EV cfg) kf f fn (bodyOf fn) args H (kFinG cfg (cfg.lift f 0) g fn.results.toList) = some r) : ∃ v H', EV cfg (.f f) args H = some (v, H') ∧ g v H' = some r := by
 unfold kFunG at h
 obtain ⟨q, h1, h⟩ := kCode_some hkf _ h
 have key : ∀ (vs : List AV), resVals fn.results.toList cfg.ty (liftFr (cfg.lift f 0) q.2.1 q.2.2).1 (liftFr (cfg.lift f 0) q.2.1 q.2.2).2 = some vs → (q.1 = .normal ∨ q.1 = .ret) → EV cfg (.f f) args H = some (result1 vs, (liftFr (cfg.lift f 0) q.2.1 q.2.2).2) := by
  intro vs h2 hq
  refine EV_of ?_
  unfold evBody
  simp only [hx, hk, if_true, hf, hb, h1, Option.bind_some]
  unfold finish
  rcases hq with hq | hq <;> simp only [hq, h2, Option.map_some]
 unfold kFinG at h
 split at h
 ·rename_i hq
  obtain ⟨vs, h2, h⟩ := kRes_some h
  exact ⟨_, _, key vs h2 (.inl hq), h⟩
 ·rename_i hq
  obtain ⟨vs, h2, h⟩ := kRes_some h
  exact ⟨_, _, key vs h2 (.inr hq), h⟩
 ·cases h

def kY2 (id : Nat) (K : AV × AH → Option α) : KE α := fun e _ H =>
 kOpt H[id]? fun b => match b with
  | .loop f fr ps a b _ _ => (match e with
   | .normal => K (.bool true, H.set id (.loop f fr ps a b none .ready))
   | .ret => K (.bool false, H.set id (.loop f fr ps a b (some .ret) .done))
   | .exit x => K (.bool false, H.set id (.loop f fr ps a b (some (.exit x)) .done))
   | .goto _ => none)
  | _ => none
noncomputable def kY1 (cfg : Cfg) (cf : Orac) (kf : KF α) (bs f id : Nat) (body : Code) (K : AV × AH → Option α) : KE α := fun e fr H =>
 match e with
 | .normal => kOpt H[id]? fun b => match b with
  | .loop f' fr' ps' a' b' p' st => (match st with
   | .ready => kCode cfg cf kf f (some id) bs body fr (H.set id (.loop f' fr' ps' a' b' p' .busy)) (kY2 id K)
   | _ => none)
  | _ => none
 | _ => none
noncomputable def kY (cfg : Cfg) (cf : Orac) (kf : KF α) (id : Nat) (args : List AV) (H : AH) (K : AV × AH → Option α) : Option α :=
 kOpt H[id]? fun b => match b with
  | .loop f fr ps assign body _ st => (match st with
   | .ready => cond (Nat.beq args.length ps.length) (kCode cfg cf kf f (some id) H.length assign (setParams fr ps args) H (kY1 cfg cf kf H.length f id body K)) none
   | _ => none)
  | _ => none
theorem kY_someK {cfg : Cfg} {kf : KF α} (hkf : KfOk (EV cfg) kf) {id : Nat} {args : List AV} {H : AH} {K : AV × AH → Option α} {r : α} (h : kY cfg (EV cfg) kf id args H K = some r) : ∃ q, EV cfg (.y id) args H = some q ∧ K q = some r := by
 unfold kY at h
 obtain ⟨b, h1, h⟩ := kOpt_some h
 cases b with
 | loop f fr ps assign body pend st =>
  simp only at h
  cases st with
  | ready =>
   simp only at h
   obtain ⟨h2, h⟩ := cond_some h
   obtain ⟨q, h3, h⟩ := kCode_some hkf _ h
   unfold kY1 at h
   cases hq : q.1 with
   | normal =>
    rw [hq] at h
    simp only at h
    obtain ⟨b, h4, h⟩ := kOpt_some h
    cases b with
    | loop f' fr' ps' a' b' p' st' =>
     simp only at h
     cases st' with
     | ready =>
      simp only at h
      obtain ⟨q2, h5, h⟩ := kCode_some hkf _ h
      unfold kY2 at h
      obtain ⟨b, h6, h⟩ := kOpt_some h
      cases b with
      | loop f2 fr2 ps2 a2 b2 p2 st2 =>
       have key : ∀ q', evBody cfg (EV cfg) (.y id) args H = some q' → K q' = some r → ∃ q, EV cfg (.y id) args H = some q ∧ K q = some r := fun q' h8 h9 => ⟨q', EV_of h8, h9⟩
       cases hq2 : q2.1 with
       | normal =>
        rw [hq2] at h
        refine key _ ?_ h
        unfold evBody
        simp only [h1, if_pos (Nat.eq_of_beq_eq_true h2), h3, Option.bind_some, hq, h4, h5, h6, hq2]
       | ret =>
        rw [hq2] at h
        refine key _ ?_ h
        unfold evBody
        simp only [h1, if_pos (Nat.eq_of_beq_eq_true h2), h3, Option.bind_some, hq, h4, h5, h6, hq2]
       | exit x =>
        rw [hq2] at h
        refine key _ ?_ h
        unfold evBody
        simp only [h1, if_pos (Nat.eq_of_beq_eq_true h2), h3, Option.bind_some, hq, h4, h5, h6, hq2]
       | goto x => rw [hq2] at h; cases h
      | _ => cases h
     | _ => cases h
    | _ => cases h
   | _ => rw [hq] at h; cases h
  | _ => cases h
 | _ => cases h

class InlOk (cfg : Cfg) : Prop where
 ok : ∀ f fn, cfg.inl f = some fn → cfg.ext f = none ∧ cfg.known f = true ∧ cfg.P.funcs[f]? = some fn ∧ fn.body = some (bodyOf fn)

def inlLook (f : Nat) : List (Nat × Func) → Option Func
 | [] => none
 | p :: l => if Nat.beq p.1 f then some p.2 else inlLook f l
def InlAll (cfg : Cfg) : List (Nat × Func) → Prop
 | [] => True
 | p :: l => (cfg.ext p.1 = none ∧ cfg.known p.1 = true ∧ cfg.P.funcs[p.1]? = some p.2 ∧ p.2.body = some (bodyOf p.2)) ∧ InlAll cfg l
theorem InlOk.of {cfg : Cfg} (tab : List (Nat × Func)) (h : ∀ f, cfg.inl f = inlLook f tab) (ha : InlAll cfg tab) : InlOk cfg where
 ok := by
  intro f fn hf
  rw [h] at hf
  clear h
  induction tab with
  | nil => cases hf
  | cons p l ih =>
   rw [inlLook] at hf
   split at hf
   ·rename_i e
    have e := Nat.eq_of_beq_eq_true e
    cases hf
    rw [← e]
    exact ha.1
   ·exact ih ha.2 hf
noncomputable def kfN (cfg : Cfg) : Nat → KF α
 | 0 => fun t a H k => kOpt (EV cfg t a H) k
 | n + 1 => fun t a H k => match t with
  | .f f => (match cfg.inl f with
   | some fn => kFunG cfg (EV cfg) (kfN cfg n) f fn (bodyOf fn) a H (kFinG cfg (cfg.lift f 0) (fun v H => k (v, H)) fn.results.toList)
   | none => kOpt (EV cfg (.f f) a H) k)
  | .y id => kY cfg (EV cfg) (kfN cfg n) id a H k

theorem kfN_ok {cfg : Cfg} [InlOk cfg] : ∀ n, KfOk (α := α) (EV cfg) (kfN cfg n)
 | 0 => fun t a H k r h => kOpt_some h
 | n + 1 => fun t a H k r h => by
  unfold kfN at h
  cases t with
  | f f =>
   simp only at h
   split at h
   ·rename_i fn hf
    obtain ⟨o1, o2, o3, o4⟩ := InlOk.ok f fn hf
    obtain ⟨v, H', h1, h2⟩ := kFinG_someK (kfN_ok n) o1 o2 o3 o4 h
    exact ⟨_, h1, h2⟩
   ·exact kOpt_some h
  | y id => exact kY_someK (kfN_ok n) h

theorem loop_step {cfg : Cfg} [InlOk cfg] {f : Nat} {rd : Option Nat} {bs : Nat} {c : Code} {k : Nat} {ts : Option (List Tmp)} {ls : List (Tmp × Nat)} {A : Ex × List AV × AH → Option α} {fr : List AV} {H : AH} {r : α}
  (h : kCode cfg (EV cfg) (kfN cfg 6) f rd bs c fr H (kLp k ts ls (evC cfg (EV cfg) f rd bs c) A) = some r) : kOpt (LOOP k ts ls (evC cfg (EV cfg) f rd bs c) (fr, H)) A = some r := loop_stepK (kfN_ok 6) h
theorem kFinG_some {cfg : Cfg} [InlOk cfg] {g : AV → AH → Option α} {f : Nat} {fn : Func} {args : List AV} {H : AH} {r : α} (hx : cfg.ext f = none) (hk : cfg.known f = true) (hf : cfg.P.funcs[f]? = some fn) (hb : fn.body = some (bodyOf fn))
  (h : kFunG cfg (EV cfg) (kfN cfg 6) f fn (bodyOf fn) args H (kFinG cfg (cfg.lift f 0) g fn.results.toList) = some r) : ∃ v H', EV cfg (.f f) args H = some (v, H') ∧ g v H' = some r := kFinG_someK (kfN_ok 6) hx hk hf hb h
def Gets {β : Type} (o : Option β) (P : β → Prop) : Prop := ∃ r, o = some r ∧ P r

theorem Gets.ev {β : Type} {o o' : Option β} {P : β → Prop} (h : ∀ r, o = some r → o' = some r) (hy : Gets o P) : Gets o' P := by
 obtain ⟨r, h1, h2⟩ := hy
 exact ⟨r, h r h1, h2⟩
theorem Gets.eq {β : Type} {o o' : Option β} {P : β → Prop} (h : o' = o) (hy : Gets o P) : Gets o' P := h ▸ hy
theorem Gets.mono {β : Type} {o : Option β} {P Q : β → Prop} (h : Gets o P) (hq : ∀ b, P b → Q b) : Gets o Q := by
 obtain ⟨r, h1, h2⟩ := h
 exact ⟨r, h1, hq r h2⟩
theorem Gets.bind {β γ : Type} {o : Option β} {k : β → Option γ} {Q : β → Prop} {P : γ → Prop} (h : Gets o Q) (hk : ∀ b, Q b → Gets (k b) P) : Gets (kOpt o k) P := by
 obtain ⟨r, h1, h2⟩ := h
 subst h1
 exact hk r h2
@[simp] theorem gets_some {β : Type} {a : β} {P : β → Prop} : Gets (some a) P ↔ P a := ⟨fun ⟨r, h1, h2⟩ => by cases h1; exact h2, fun h => ⟨a, rfl, h⟩⟩
theorem Gets.get {β : Type} {o : Option β} {a : β} (h : Gets o (· = a)) : o = some a := by
 obtain ⟨r, h1, h2⟩ := h
 rw [h1, h2]
theorem EVs_of {cfg : Cfg} {f : Nat} {args : List AV} {v : AV} {H : AH} (h : EV cfg (.f f) args [] = some (v, H)) : EVs (EV cfg) f args = some v := by unfold EVs; rw [h]; rfl
theorem EVf_of {cfg : Cfg} {f : Nat} {args : List AV} {v v' : AV} {H : AH} (h : EV cfg (.f f) args [] = some (v', H)) (e : (v'.frz v'.msIds H).fg = v) : EVf (EV cfg) f args = some v := by unfold EVf; rw [h]; exact congrArg some e
theorem EVo_of {cfg : Cfg} {f : Nat} {args : List AV} {v : OV} {r : AV × AH} (h : EV cfg (.f f) args [] = some r) (e : ovOf r = some v) : EVo (EV cfg) f args = some v := by unfold EVo; rw [h]; exact e

theorem funS {cfg : Cfg} [InlOk cfg] {f : Nat} {fn : Func} {args : List AV} {r : AV} (hx : cfg.ext f = none) (hk : cfg.known f = true) (hf : cfg.P.funcs[f]? = some fn) (hb : fn.body = some (bodyOf fn))
  (h : kFunG cfg (EV cfg) (kfN cfg 6) f fn (bodyOf fn) args [] (kFinS cfg (cfg.lift f 0) fn.results.toList) = some r) : EVs (EV cfg) f args = some r := by
 obtain ⟨v, H', h1, h2⟩ := kFinG_some hx hk hf hb h
 cases h2
 exact EVs_of h1
theorem funF {cfg : Cfg} [InlOk cfg] {f : Nat} {fn : Func} {args : List AV} {r : AV} (hx : cfg.ext f = none) (hk : cfg.known f = true) (hf : cfg.P.funcs[f]? = some fn) (hb : fn.body = some (bodyOf fn))
  (h : kFunG cfg (EV cfg) (kfN cfg 6) f fn (bodyOf fn) args [] (kFinF cfg (cfg.lift f 0) fn.results.toList) = some r) : EVf (EV cfg) f args = some r := by
 obtain ⟨v, H', h1, h2⟩ := kFinG_some hx hk hf hb h
 exact EVf_of h1 (Option.some.inj (kFrzA_frz h2))
theorem funO {cfg : Cfg} [InlOk cfg] {f : Nat} {fn : Func} {args : List AV} {r : OV} (hx : cfg.ext f = none) (hk : cfg.known f = true) (hf : cfg.P.funcs[f]? = some fn) (hb : fn.body = some (bodyOf fn))
  (h : kFunG cfg (EV cfg) (kfN cfg 6) f fn (bodyOf fn) args [] (kFinO cfg (cfg.lift f 0) fn.results.toList) = some r) : EVo (EV cfg) f args = some r := by
 obtain ⟨v, H', h1, h2⟩ := kFinG_some hx hk hf hb h
 exact EVo_of h1 h2
def kFinX (cfg : Cfg) (sz : Nat) (ls : List (Tmp × Nat)) (rs : List ResultVar) : KE (AV × List (List AV)) := kFinG cfg ls (fun v H => kBlkW H 0 fun d sz' rows =>
 cond (!d && Nat.beq sz' sz && noneIn0 v.msIds && allIn [0] (idsGeR 0 rows)) (kFrzA false H v fun v' => cond (v'.refsLt 0) (some (v', rows)) none) none) rs
theorem funX {cfg : Cfg} [InlOk cfg] {f sz : Nat} {fn : Func} {args : List AV} {rows : List (List AV)} {r : AV × List (List AV)} (hx : cfg.ext f = none) (hk : cfg.known f = true) (hf : cfg.P.funcs[f]? = some fn) (hb : fn.body = some (bodyOf fn))
  (h : kFunG cfg (EV cfg) (kfN cfg 6) f fn (bodyOf fn) args [.rows false sz rows] (kFinX cfg sz (cfg.lift f 0) fn.results.toList) = some r) : EVx (EV cfg) f args sz rows = some r := by
 obtain ⟨v, H', h1, h2⟩ := kFinG_some hx hk hf hb h
 unfold EVx
 rw [h1]
 obtain ⟨d, sz', rs', h3, h4⟩ := kBlkW_some h2
 obtain ⟨h5, h6⟩ := cond_some h4
 have h7 := kFrzA_frz (k := fun v' => cond (v'.refsLt 0) (some (v', rs')) none) h6
 obtain ⟨h8, h9⟩ := cond_some h7
 simp only [Bool.and_eq_true, Bool.not_eq_true'] at h5
 obtain ⟨⟨⟨hd, hs⟩, hn⟩, ha⟩ := h5
 subst hd
 cases H' with
 | nil => simp at h3
 | cons b l =>
  simp only [List.getElem?_cons_zero, Option.some.injEq] at h3
  subst h3
  simp only [Option.bind_some, slfRes, hs, hn, h8, ha, Bool.and_self, if_true]
  exact h9
def kRgCell {α : Type} (G : AH) (c : AV) (k : List (List AV) → Option α) : Option α :=
 match c with
 | .rsl id rows => kOpt G[id]? fun b => match b with | .reg => k rows | _ => none
 | .sl rows => cond rows.isEmpty (k []) none
 | .nilS => k []
 | .em => k []
 | _ => none
def kRgTm {α : Type} (G : AH) (a : AV) (k : AV → Option α) : Option α :=
 match a with
 | .agg [.int .i64 x, .int .i64 n, .str s, c] => kRgCell G c fun rows => k (.agg [.int .i64 x, .int .i64 n, .str s, .sl rows])
 | _ => none
def kRgL {α : Type} (G : AH) : List AV → (List AV → Option α) → Option α
 | [], _ => none
 | a :: l, k => cond a.plain (kRgL G l fun q => k (a :: q)) (cond (plainL l) (kRgTm G a fun x => k (x :: l)) none)
def kRgData {α : Type} (G : AH) (a : AV) (k : AV → Option α) : Option α :=
 match a with
 | .tup l => kRgL G l fun q => k (.tup q)
 | a => kRgTm G a k
theorem kRgCell_some {α : Type} {G : AH} {c : AV} {k : List (List AV) → Option α} {r : α} (h : kRgCell G c k = some r) : ∃ rows, rgCell G c = some rows ∧ k rows = some r := by
 unfold kRgCell at h
 split at h
 ·obtain ⟨b, h1, h⟩ := kOpt_some h
  split at h
  ·exact ⟨_, by simp only [rgCell, h1], h⟩
  ·cases h
 ·rename_i rows
  obtain ⟨h1, h⟩ := cond_some h
  cases rows with
  | nil => exact ⟨_, rfl, h⟩
  | cons => cases h1
 ·exact ⟨_, rfl, h⟩
 ·exact ⟨_, rfl, h⟩
 ·cases h
theorem kRgTm_some {α : Type} {G : AH} {a : AV} {k : AV → Option α} {r : α} (h : kRgTm G a k = some r) : ∃ V, rgTm G a = some V ∧ k V = some r := by
 unfold kRgTm at h
 split at h
 ·obtain ⟨rows, h1, h⟩ := kRgCell_some h
  exact ⟨_, by simp only [rgTm, h1, Option.map_some], h⟩
 ·cases h
theorem kRgL_some {α : Type} {G : AH} : ∀ {l : List AV} {k : List AV → Option α} {r : α}, kRgL G l k = some r → ∃ q, rgL G l = some q ∧ k q = some r
 | [], _, _, h => by cases h
 | a :: l, k, r, h => by
  rw [kRgL] at h
  rcases cond_or h with ⟨hp, h⟩ | ⟨hp, h⟩
  ·obtain ⟨q, h1, h2⟩ := kRgL_some h
   exact ⟨_, by simp only [rgL, hp, if_true, h1, Option.map_some], h2⟩
  ·obtain ⟨hl, h⟩ := cond_some h
   obtain ⟨x, h1, h2⟩ := kRgTm_some h
   exact ⟨_, by simp only [rgL, hp, Bool.false_eq_true, if_false, hl, if_true, h1, Option.map_some], h2⟩
theorem kRgData_some {α : Type} {G : AH} {a : AV} {k : AV → Option α} {r : α} (h : kRgData G a k = some r) : ∃ V, rgData G a = some V ∧ k V = some r := by
 unfold kRgData at h
 split at h
 ·obtain ⟨q, h1, h2⟩ := kRgL_some h
  exact ⟨_, by simp only [rgData, h1, Option.map_some], h2⟩
 ·rename_i hn
  obtain ⟨V, h1, h2⟩ := kRgTm_some h
  refine ⟨V, ?_, h2⟩
  rw [← h1]
  cases a <;> first | rfl | exact absurd rfl (hn _)
def kFinR (cfg : Cfg) (ls : List (Tmp × Nat)) (rs : List ResultVar) : KE AV := kFinG cfg ls (fun v H => kRgData H v some) rs
theorem funR {cfg : Cfg} [InlOk cfg] {f : Nat} {fn : Func} {args : List AV} {r : AV} (hx : cfg.ext f = none) (hk : cfg.known f = true) (hf : cfg.P.funcs[f]? = some fn) (hb : fn.body = some (bodyOf fn))
  (h : kFunG cfg (EV cfg) (kfN cfg 6) f fn (bodyOf fn) args [] (kFinR cfg (cfg.lift f 0) fn.results.toList) = some r) : EVg (EV cfg) f args = some r := by
 obtain ⟨v, H', h1, h2⟩ := kFinG_some hx hk hf hb h
 obtain ⟨V, h3, h4⟩ := kRgData_some h2
 cases h4
 unfold EVg; rw [h1]; exact h3
def kFinZ (cfg : Cfg) (ls : List (Tmp × Nat)) (rs : List ResultVar) : KE Unit := kFinG cfg ls (fun v H => overRes (v, H)) rs
theorem funZ {cfg : Cfg} [InlOk cfg] {f : Nat} {fn : Func} {a : AV} {r : Unit} (hx : cfg.ext f = none) (hk : cfg.known f = true) (hf : cfg.P.funcs[f]? = some fn) (hb : fn.body = some (bodyOf fn))
  (h : kFunG cfg (EV cfg) (kfN cfg 6) f fn (bodyOf fn) [a] [.spl] (kFinZ cfg (cfg.lift f 0) fn.results.toList) = some r) : EVz (EV cfg) f a = some r := by
 obtain ⟨v, H', h1, h2⟩ := kFinG_some hx hk hf hb h
 unfold EVz; rw [h1]; exact h2
@[simp] theorem nble (a b : Nat) : Nat.ble a b = decide (a ≤ b) := by
 rcases h : Nat.ble a b with _ | _
 ·rw [eq_comm, decide_eq_false_iff_not]; intro h'; rw [Nat.ble_eq_true_of_le h'] at h; cases h
 ·rw [eq_comm, decide_eq_true_eq]; exact Nat.le_of_ble_eq_true h
@[simp] theorem nbeq (a b : Nat) : Nat.beq a b = decide (a = b) := by
 rcases h : Nat.beq a b with _ | _
 ·rw [eq_comm, decide_eq_false_iff_not]; intro h'; rw [h', Nat.beq_refl] at h; cases h
 ·rw [eq_comm, decide_eq_true_eq]; exact Nat.eq_of_beq_eq_true h
@[simp] theorem leInt_eq (a b : Int) : leInt a b = decide (a ≤ b) := rfl
@[simp] theorem ltInt_eq (a b : Int) : ltInt a b = decide (a < b) := rfl
theorem beqD {β : Type} [BEq β] [LawfulBEq β] [DecidableEq β] (a b : β) : (a == b) = decide (a = b) := by
 by_cases h : a = b
 ·subst h; simp
 ·simp [h]
theorem bneD {β : Type} [BEq β] [LawfulBEq β] [DecidableEq β] (a b : β) : (a != b) = !decide (a = b) := by rw [bne, beqD]
def AV.IsInt (v : AV) : Prop := ∃ n, v = .int .i64 n
def AV.IsBool (v : AV) : Prop := ∃ b, v = .bool b
@[simp] theorem isInt_int (n : Int) : (AV.int .i64 n).IsInt := ⟨n, rfl⟩
@[simp] theorem isBool_bool (b : Bool) : (AV.bool b).IsBool := ⟨b, rfl⟩

@[simp] theorem kOptSome {β : Type} (b : β) (k : β → Option α) : kOpt (some b) k = k b := rfl
@[simp] theorem kOptNone {β : Type} (k : β → Option α) : kOpt none k = none := rfl
@[simp] theorem kMInt_int (kd : IntKind) (n : Int) (k : Int → Option α) : kMInt kd (.int kd n) k = k n := by simp [kMInt, kindEq]
@[simp] theorem kInt_int (kd : IntKind) (n : Int) (k : Int → Option α) : kInt kd (.int kd n) k = k n := by simp [kInt, kindEq]
@[simp] theorem kBool_bool (b : Bool) (k : Bool → Option α) : kBool (.bool b) k = k b := rfl
@[simp] theorem kStr_str (s : List UInt8) (k : List UInt8 → Option α) : kStr (.str s) k = k s := rfl
@[simp] theorem kAgg_agg (cs : List AV) (k : List AV → Option α) : kAgg (.agg cs) k = k cs := rfl
@[simp] theorem kCons_cons (c : AV) (cs : List AV) (k : AV → List AV → Option α) : kCons (c :: cs) k = k c cs := rfl
@[simp] theorem kNil_nil (x : Option α) : kNil [] x = x := rfl
@[simp] theorem kMSl_nil (x : Option α) (k : Nat → Nat → Option α) : kMSl .nil x k = x := rfl
@[simp] theorem kMSl_sl (off len : Nat) (x : Option α) (k : Nat → Nat → Option α) : kMSl (.sl off len) x k = k off len := rfl
@[simp] theorem kMUnit_unit (x : Option α) : kMUnit .unit x = x := rfl
@[simp] theorem kMBool_bool (b : Bool) (k : Bool → Option α) : kMBool (.bool b) k = k b := rfl
@[simp] theorem kOwn_nil (x : Option α) (k : Nat → List (List AV) → Nat → Nat → Option α) : kOwn .nil x k = x := rfl
@[simp] theorem kOwn_own (sz : Nat) (rs : List (List AV)) (off len : Nat) (x : Option α) (k : Nat → List (List AV) → Nat → Nat → Option α) : kOwn (.own sz rs off len) x k = k sz rs off len := rfl
@[simp] theorem kSl_sl (rs : List (List AV)) (k : List (List AV) → Option α) : kSl (.sl rs) k = k rs := rfl
@[simp] theorem get?Internal_eq {β : Type} (l : List β) (i : Nat) : List.get?Internal l i = l[i]? := rfl
end Go.Av
end

section
namespace Go.Av
variable {α β : Type}

def fBool (b : Bool) (k : Bool → α) : α := match b with | true => k true | false => k false
def fNat (n : Nat) (k : Nat → α) : α := match n with | 0 => k 0 | m + 1 => k (m + 1)
def fInt (n : Int) (k : Int → α) : α := match n with | .ofNat m => fNat m fun m => k (.ofNat m) | .negSucc m => fNat m fun m => k (.negSucc m)
def fL (g : β → (β → α) → α) : List β → (List β → α) → α
 | [], k => k []
 | a :: l, k => g a fun a' => fL g l fun l' => k (a' :: l')
def fKind (kd : IntKind) (k : IntKind → α) : α := match kd with
 | .i64 => k .i64
 | .u64 => k .u64
 | .u8 => k .u8
 | .i32 => k .i32
 | .u32 => k .u32
 | x => k x
def fByte (b : UInt8) (k : UInt8 → α) : α := fNat b.toNat fun n => k (UInt8.ofNat n)
theorem fL_eq {g : β → (β → α) → α} (hg : ∀ b k, g b k = k b) : ∀ (l : List β) (k : List β → α), fL g l k = k l
 | [], _ => rfl
 | a :: l, k => by rw [fL, hg, fL_eq hg l]
theorem fBool_eq (b : Bool) (k : Bool → α) : fBool b k = k b := by cases b <;> rfl
theorem fNat_eq (b : Nat) (k : Nat → α) : fNat b k = k b := by cases b <;> rfl
theorem fInt_eq (b : Int) (k : Int → α) : fInt b k = k b := by cases b <;> simp only [fInt, fNat_eq]
theorem fKind_eq (b : IntKind) (k : IntKind → α) : fKind b k = k b := by cases b <;> rfl
theorem fByte_eq (b : UInt8) (k : UInt8 → α) : fByte b k = k b := by simp [fByte, fNat_eq]
def xPick (c a b : AV) (H : AH) : Option (AV × AH) :=
 match c with
 | .bool t => some (if t then a else b, H)
 | _ => none
def xAlloc (cfg : Cfg) (nid : Option Nat) (t : TypeId) (H : AH) : Option (AV × AH) :=
 match cfg.ty t with
 | some ti =>
  if allCells ti.zero then
   match aNew nid H (.rows (bigZ (cfg.fga t ti.zero)) ti.zero.length [cfg.fga t ti.zero]) with
   | some (k, H') => some (.ptr k 0 0, H')
   | none => none
  else none
 | none => none
def xBox (nid : Option Nat) (a : AV) (H : AH) : Option (AV × AH) :=
 match a.cells with
 | some cs =>
  match aNew nid H (.rows (bigZ cs) cs.length [cs]) with
  | some (k, H') => some (.ptr k 0 0, H')
  | none => none
 | none => none
def xBuild (cfg : Cfg) (t : TypeId) (parts : List (Nat × AV)) (H : AH) : Option (AV × AH) :=
 match cfg.ty t with
 | some ti =>
  if allCells ti.zero then
   match ti.d with
   | .struct fs =>
    match placesOf cfg fs with
    | some ps => (aFill (fun i => ps[i]?) ti.zero parts).map fun cs => (.agg (cfg.fga t cs), H)
    | none => none
   | .array _ e =>
    match cfg.sz e with
    | some n => (aFill (fun i => some (i * n, n)) ti.zero parts).map fun cs => (.agg cs, H)
    | none => none
   | _ => none
  else none
 | none => none
def xBuildSlice (cfg : Cfg) (nid : Option Nat) (t : TypeId) (len : Nat) (parts : List (Nat × AV)) (H : AH) : Option (AV × AH) :=
 match cfg.td t with
 | some (.slice e) =>
  match cfg.ty e with
  | some ei =>
   if rowZero ei && Nat.ble (len * ei.sz) 16777216 then
    match aRows ei.sz (List.replicate len ei.zero) parts with
    | some rows =>
     match aNew nid H (.rows (refsLtR 0 rows) ei.sz rows) with
     | some (k, H') => some (.ms k 0 len, H')
     | none => none
    | none => none
   else none
  | none => none
 | _ => none
def xLoad (cfg : Cfg) (t : TypeId) (a : AV) (H : AH) : Option (AV × AH) :=
 match cfg.ty t with
 | some ti => (aLoad ti.d.agg ti.sz H a).map fun v => (v, H)
 | none => none
def xStore (cfg : Cfg) (t : TypeId) (a v : AV) (H : AH) : Option (AV × AH) :=
 match cfg.sz t with
 | some n => (aStore n H a v).map fun H' => (.junk, H')
 | none => none
def xNil (a : AV) (H : AH) : Option (AV × AH) :=
 match a with
 | .ptr id r off => some (.ptr id r off, H)
 | .cptr cs off => some (.cptr cs off, H)
 | .fn (.func f) a b => some (.fn (.func f) a b, H)
 | .mp id => some (.mp id, H)
 | .yld id => some (.yld id, H)
 | _ => none
def xExtract (t : AV) (i : Nat) (H : AH) : Option (AV × AH) :=
 match t with
 | .tup vs => (vs[i]?).map fun v => (v, H)
 | _ => none
def xOp (cfg : Cfg) (nid : Option Nat) (o : Op) (ty : TypeId) (x : Operand → AV) (H : AH) : Option (AV × AH) :=
 match o with
 | .move a | .assign a => some (x a, H)
 | .pick c a b => xPick (x c) (x a) (x b) H
 | .alloc t => xAlloc cfg nid t H
 | .box _ a => xBox nid (x a) H
 | .build t parts => xBuild cfg t (parts.toList.map fun p => (p.1, x p.2)) H
 | .buildSlice t len parts => xBuildSlice cfg nid t len (parts.toList.map fun p => (p.1, x p.2)) H
 | .load t a => xLoad cfg t (x a) H
 | .store t a v => xStore cfg t (x a) (x v) H
 | .nilCheck a => xNil (x a) H
 | .binOp op t a b _ => (aBin cfg op t (x a) (x b)).map fun v => (v, H)
 | .unOp op _ a => (aUn op (x a)).map fun v => (v, H)
 | .convert s d a => aConvert cfg nid s d (x a) H
 | .makeFunc f first caps => some (.fn f (first.toList.map x) (caps.toList.map x), H)
 | .makeSlice t l c => aMake cfg nid t (x l) (x c) H
 | .slice t a lo hi mx => (aSlice cfg t H (x a) (lo.map x) (hi.map x) (mx.map x)).map fun v => (v, H)
 | .fieldAddr t a f => (aFieldAddr cfg t (x a) f).map fun v => (v, H)
 | .field t a f => (aField cfg t (x a) f).map fun v => (v, H)
 | .indexAddr t a i => (aIndexAddr cfg t H (x a) (x i)).map fun v => (v, H)
 | .index t a i => (aIndex cfg t (x a) (x i)).map fun v => (v, H)
 | .extract t i => xExtract (x t) i H
 | o => evOp cfg nid o ty x H
theorem xOp_eq (cfg : Cfg) (nid : Option Nat) (o : Op) (ty : TypeId) (x : Operand → AV) (H : AH) : xOp cfg nid o ty x H = evOp cfg nid o ty x H := by cases o <;> rfl

end Go.Av
end

section
namespace Go.Av
variable {α β : Type}

noncomputable def gL (g : β → (β → α) → α) (l : List β) : (List β → α) → α :=
 List.rec (motive := fun _ => (List β → α) → α) (fun k => k []) (fun a _ ih k => g a fun a' => ih fun l' => k (a' :: l')) l
noncomputable def gS (l : List β) : (List β → α) → α :=
 List.rec (motive := fun _ => (List β → α) → α) (fun k => k []) (fun a _ ih k => ih fun l' => k (a :: l')) l
theorem gL_eq {g : β → (β → α) → α} (hg : ∀ b k, g b k = k b) : ∀ (l : List β) (k : List β → α), gL g l k = k l
 | [], _ => rfl
 | a :: l, k => by
  have : gL g (a :: l) k = g a fun a' => gL g l fun l' => k (a' :: l') := rfl
  rw [this, hg, gL_eq hg l]
theorem gS_eq : ∀ (l : List β) (k : List β → α), gS l k = k l
 | [], _ => rfl
 | a :: l, k => by
  have : gS (a :: l) k = gS l fun l' => k (a :: l') := rfl
  rw [this, gS_eq l]
def gA1 (v : AV) (k : AV → α) : α := match v with
 | .int kd m => fKind kd fun kd => fInt m fun m => k (.int kd m)
 | .bool b => fBool b fun b => k (.bool b)
 | .str s => fL fByte s fun s => k (.str s)
 | .ms a b c => fNat a fun a => fNat b fun b => fNat c fun c => k (.ms a b c)
 | .ptr a b c => fNat a fun a => fNat b fun b => fNat c fun c => k (.ptr a b c)
 | v => k v
theorem gA1_eq (v : AV) (k : AV → α) : gA1 v k = k v := by
 cases v <;> simp only [gA1, fKind_eq, fInt_eq, fBool_eq, fNat_eq, fL_eq fByte_eq]
noncomputable def gA2 (v : AV) (k : AV → α) : α := match v with
 | .agg cs => gL gA1 cs fun cs => k (.agg cs)
 | .sl rows => gL (gL gA1) rows fun rows => k (.sl rows)
 | .cptr cs o => gL gA1 cs fun cs => fNat o fun o => k (.cptr cs o)
 | .fn f a b => gL gA1 a fun a => gL gA1 b fun b => k (.fn f a b)
 | v => gA1 v k
theorem gA2_eq (v : AV) (k : AV → α) : gA2 v k = k v := by
 have e1 : ∀ (l : List AV) (k : List AV → α), gL gA1 l k = k l := gL_eq gA1_eq
 cases v <;> simp only [gA2, gA1_eq, e1, fNat_eq, gL_eq e1]
noncomputable def gA (v : AV) (k : AV → α) : α := match v with
 | .tup cs => gL gA2 cs fun cs => k (.tup cs)
 | .ifc t v => gA2 v fun v => k (.ifc t v)
 | v => gA2 v k
theorem gA_eq (v : AV) (k : AV → α) : gA v k = k v := by
 cases v <;> simp only [gA, gA2_eq, gL_eq gA2_eq]
def gW (v : AV) (k : AV → α) : α := match v with
 | .int a b => k (.int a b)
 | .bool a => k (.bool a)
 | .str a => k (.str a)
 | .agg a => k (.agg a)
 | .tup a => k (.tup a)
 | .nilS => k .nilS
 | .sl a => k (.sl a)
 | .em => k .em
 | .ms a b c => k (.ms a b c)
 | .nilP => k .nilP
 | .ptr a b c => k (.ptr a b c)
 | .cptr a b => k (.cptr a b)
 | .fn a b c => k (.fn a b c)
 | .yld a => k (.yld a)
 | .nilF => k .nilF
 | .nilM => k .nilM
 | .mp a => k (.mp a)
 | .nilI => k .nilI
 | .ifc a b => k (.ifc a b)
 | .junk => k .junk
 | .lsl r => k (.lsl r)
 | .lpt c o => k (.lpt c o)
 | .rsl i r => k (.rsl i r)
 | .rpt i c => k (.rpt i c)
 | .alt l => k (.alt l)
theorem gW_eq (v : AV) (k : AV → α) : gW v k = k v := by cases v <;> rfl
noncomputable def gB (b : ABlk) (k : ABlk → α) : α := match b with
 | .rows d sz rs => fBool d fun d => fNat sz fun sz => gL (gL gA1) rs fun rs => k (.rows d sz rs)
 | .froz d sz rs => fBool d fun d => fNat sz fun sz => gL (gL gA1) rs fun rs => k (.froz d sz rs)
 | .mp es => gS es fun es => k (.mp es)
 | .loop f fr ps a b p s => gL gA1 fr fun fr => k (.loop f fr ps a b p s)
 | .dead => k .dead
 | .res => k .res
 | .reg => k .reg
 | .spl => k .spl
theorem gB_eq (b : ABlk) (k : ABlk → α) : gB b k = k b := by
 have e1 : ∀ (l : List AV) (k : List AV → α), gL gA1 l k = k l := gL_eq gA1_eq
 cases b <;> simp only [gB, fBool_eq, fNat_eq, e1, gL_eq e1, gS_eq]
noncomputable def gP (p : Nat × AV) (k : Nat × AV → α) : α := gA p.2 fun v => k (p.1, v)
theorem gP_eq (p : Nat × AV) (k : Nat × AV → α) : gP p k = k p := by unfold gP; rw [gA_eq]
noncomputable def gH (H : AH) (k : AH → α) : α := gL gB H k
theorem gH_eq (H : AH) (k : AH → α) : gH H k = k H := gL_eq gB_eq H k

abbrev Ov := List (Nat × AV)
def den (n : Nat) (ov : Ov) : List AV := ov.foldr (fun p fr => fr.set p.1 p.2) (List.replicate n .junk)
noncomputable def ovGet (t : Nat) (ov : Ov) : AV := List.rec (motive := fun _ => AV) .junk (fun p _ ih => cond (Nat.beq p.1 t) p.2 ih) ov
theorem ovGet_nil (t : Nat) : ovGet t [] = .junk := rfl
theorem ovGet_cons (t : Nat) (p : Nat × AV) (ov : Ov) : ovGet t (p :: ov) = cond (Nat.beq p.1 t) p.2 (ovGet t ov) := rfl
def OvOk (n : Nat) (ov : Ov) : Prop := ∀ p ∈ ov, p.1 < n
theorem den_len (n : Nat) (ov : Ov) : (den n ov).length = n := by
 induction ov with
 | nil => simp [den]
 | cons p l ih => simp only [den, List.foldr_cons, List.length_set]; exact ih
theorem den_get {n : Nat} {ov : Ov} (h : OvOk n ov) (t : Nat) : (den n ov)[t]? = if t < n then some (ovGet t ov) else none := by
 induction ov with
 | nil =>
  simp only [den, List.foldr_nil, ovGet_nil, List.getElem?_replicate]
 | cons p l ih =>
  have hl : OvOk n l := fun q hq => h q (List.mem_cons_of_mem _ hq)
  have hp : p.1 < n := h p (List.mem_cons_self ..)
  have : (den n (p :: l))[t]? = ((den n l).set p.1 p.2)[t]? := rfl
  rw [this, List.getElem?_set, ih hl, den_len, ovGet_cons]
  by_cases e : p.1 = t
  ·subst e; simp [hp]
  ·have : Nat.beq p.1 t = false := by rw [← Bool.not_eq_true]; intro h'; exact e (Nat.eq_of_beq_eq_true h')
   rw [if_neg e, this]; rfl
theorem ovGet_big {n : Nat} {ov : Ov} (h : OvOk n ov) {t : Nat} (ht : ¬ t < n) : ovGet t ov = .junk := by
 induction ov with
 | nil => rfl
 | cons p l ih =>
  have hp : p.1 < n := h p (List.mem_cons_self ..)
  have : Nat.beq p.1 t = false := by rw [← Bool.not_eq_true]; intro h'; have := Nat.eq_of_beq_eq_true h'; omega
  rw [ovGet_cons, this]
  exact ih fun q hq => h q (List.mem_cons_of_mem _ hq)
theorem den_ext {n : Nat} {ov : Ov} (h : OvOk n ov) {fr : List AV} (hl : fr.length = n) (hg : ∀ t, t < n → fr[t]? = some (ovGet t ov)) : den n ov = fr := by
 apply List.ext_getElem?
 intro t
 rw [den_get h]
 split
 ·rename_i ht; exact (hg t ht).symm
 ·rename_i ht; exact (List.getElem?_eq_none (by omega)).symm
noncomputable def opdO (ov : Ov) : Operand → AV
 | .tmp t => ovGet t ov
 | .const v => ofValue v
 | .global _ => .junk
 | .func f => .fn (.func f) [] []
theorem opdO_eq {n : Nat} {ov : Ov} (h : OvOk n ov) : opd (den n ov) = opdO ov := by
 funext o
 cases o with
 | tmp t =>
  show (den n ov).getD t .junk = ovGet t ov
  rw [List.getD_eq_getElem?_getD, den_get h]
  split
  ·rfl
  ·rename_i ht; exact (ovGet_big h ht).symm
 | _ => rfl
def putO (n : Nat) (ov : Ov) (dst : Option Tmp) (v : AV) : Ov :=
 match dst with
 | some d => cond (Nat.blt d n) ((d, v) :: ov) ov
 | none => ov
theorem putO_ok {n : Nat} {ov : Ov} (h : OvOk n ov) (dst : Option Tmp) (v : AV) : OvOk n (putO n ov dst v) := by
 cases dst with
 | none => exact h
 | some d =>
  simp only [putO]
  cases hd : Nat.blt d n with
  | false => exact h
  | true =>
   intro p hp
   rw [cond_true] at hp
   rcases List.mem_cons.1 hp with rfl | hp
   ·simpa [Nat.blt_eq] using hd
   ·exact h p hp
theorem putO_den {n : Nat} {ov : Ov} (dst : Option Tmp) (v : AV) : den n (putO n ov dst v) = put (den n ov) dst v := by
 cases dst with
 | none => rfl
 | some d =>
  simp only [putO, put]
  cases hd : Nat.blt d n with
  | true => rfl
  | false =>
   have hd : ¬ d < n := by rw [← Bool.not_eq_true, Nat.blt_eq] at hd; exact hd
   show den n ov = _
   rw [List.set_eq_of_length_le (by rw [den_len]; exact Nat.le_of_not_lt hd)]
noncomputable def wantedO (ops : Array Oper) (ov : Ov) (o : Oper) : Option Bool :=
 match o.guard with
 | none => some true
 | some (j, want) =>
  match (ops[j]?).bind (·.dst) with
  | some d =>
   match ovGet d ov with
   | .bool b => some (b == want)
   | .tup [] => some false
   | _ => none
  | none => none
theorem wantedO_eq {n : Nat} {ov : Ov} (h : OvOk n ov) (ops : Array Oper) (o : Oper) : wantedA ops (den n ov) o = wantedO ops ov o := by
 unfold wantedA wantedO
 cases o.guard with
 | none => rfl
 | some p =>
  obtain ⟨j, want⟩ := p
  simp only
  cases (ops[j]?).bind (·.dst) with
  | none => rfl
  | some d =>
   simp only
   rw [den_get h]
   by_cases hd : d < n
   ·rw [if_pos hd]
    cases ovGet d ov <;> try rfl
    rename_i vs; cases vs <;> rfl
   ·rw [if_neg hd, ovGet_big h hd]

noncomputable def yStore (n : Nat) (H : AH) (p v : AV) (k : AH → Option β) : Option β :=
 match p with
 | .ptr id r off =>
  match v.cells with
  | some cs =>
   match H[id]? with
   | some (.rows d sz rs) =>
    match rs[r]? with
    | some row => if cs.length == n && Nat.ble (off + n) row.length then
      gS (row.take off ++ cs ++ row.drop (off + n)) fun row' => gS (rs.set r row') fun rs' => fBool (d && refsLtL 0 cs) fun d' => gS (H.set id (.rows d' sz rs')) k
     else none
    | none => none
   | _ => none
  | none => none
 | .rpt id cs => (aStore n H (.rpt id cs) v).bind k
 | _ => none
theorem yStore_eq (n : Nat) (H : AH) (p v : AV) (k : AH → Option β) : yStore n H p v k = (aStore n H p v).bind k := by
 unfold yStore aStore
 cases p with
 | ptr id r off =>
  simp only
  cases hv : v.cells with
  | none => simp
  | some cs =>
   simp only
   cases hH : H[id]? with
   | none => simp
   | some b =>
    cases b <;> simp only [Option.bind_none]
    rename_i d sz rs
    cases hr : rs[r]? with
    | none => simp
    | some row =>
     simp only
     split <;> simp [gS_eq, fBool_eq]
 | rpt id cs => rfl
 | _ => simp
noncomputable def yNew (nid : Option Nat) (H : AH) (b : ABlk) (k : Nat → AH → Option β) : Option β :=
 match nid with
 | none => fNat H.length fun i => gS (H ++ [b]) fun H' => k i H'
 | some i =>
  match H[i]? with
  | some .res => gS (H.set i b) fun H' => k i H'
  | _ => none
theorem yNew_eq (nid : Option Nat) (H : AH) (b : ABlk) (k : Nat → AH → Option β) : yNew nid H b k = (aNew nid H b).bind fun r => k r.1 r.2 := by
 cases nid with
 | none => simp [yNew, aNew, fNat_eq, gS_eq]
 | some i =>
  simp only [yNew, aNew]
  cases H[i]? with
  | none => rfl
  | some b => cases b <;> simp [gS_eq]
noncomputable def yAlloc (cfg : Cfg) (nid : Option Nat) (t : TypeId) (H : AH) (k : AV → AH → Option β) : Option β :=
 match cfg.ty t with
 | some ti => if allCells ti.zero then gL gA1 (cfg.fga t ti.zero) fun row => fNat ti.zero.length fun sz => yNew nid H (.rows (bigZ row) sz [row]) fun i H' => k (.ptr i 0 0) H' else none
 | none => none
noncomputable def yBox (nid : Option Nat) (a : AV) (H : AH) (k : AV → AH → Option β) : Option β :=
 match a.cells with
 | some cs => gS cs fun cs => fNat cs.length fun sz => yNew nid H (.rows (bigZ cs) sz [cs]) fun i H' => k (.ptr i 0 0) H'
 | none => none
noncomputable def yOp (cfg : Cfg) (nid : Option Nat) (o : Op) (ty : TypeId) (x : Operand → AV) (H : AH) (k : AV → AH → Option β) : Option β :=
 match o with
 | .move a | .assign a => gW (x a) fun v => k v H
 | .alloc t => yAlloc cfg nid t H k
 | .box _ a => yBox nid (x a) H k
 | .store t a v =>
  match cfg.sz t with
  | some n => yStore n H (x a) (x v) fun H' => k .junk H'
  | none => none
 | .buildSlice t len parts => (match xBuildSlice cfg nid t len (parts.toList.map fun p => (p.1, x p.2)) H with | some r => gA r.1 fun v => gH r.2 fun H' => k v H' | none => none)
 | .convert s d a => (match aConvert cfg nid s d (x a) H with | some r => gA r.1 fun v => gH r.2 fun H' => k v H' | none => none)
 | .makeSlice t l c => (match aMake cfg nid t (x l) (x c) H with | some r => gA r.1 fun v => gH r.2 fun H' => k v H' | none => none)
 | .call c => (match evOp cfg nid (.call c) ty x H with | some r => gA r.1 fun v => gH r.2 fun H' => k v H' | none => none)
 | o => (match xOp cfg nid o ty x H with | some r => gA r.1 fun v => k v r.2 | none => none)
theorem yOp_eq (cfg : Cfg) (nid : Option Nat) (o : Op) (ty : TypeId) (x : Operand → AV) (H : AH) (k : AV → AH → Option β) : yOp cfg nid o ty x H k = (evOp cfg nid o ty x H).bind fun r => k r.1 r.2 := by
 have em : ∀ (q : Option (AV × AH)), (match q with | some r => gA r.1 fun v => gH r.2 fun H' => k v H' | none => none) = q.bind fun r => k r.1 r.2 := fun q => by cases q <;> simp [gA_eq, gH_eq]
 have em' : ∀ (q : Option (AV × AH)), (match q with | some r => gA r.1 fun v => k v r.2 | none => none) = q.bind fun r => k r.1 r.2 := fun q => by cases q <;> simp [gA_eq]
 cases o with
 | move a => simp [yOp, evOp, gW_eq]
 | assign a => simp [yOp, evOp, gW_eq]
 | alloc t =>
  simp only [yOp, evOp, yAlloc]
  cases cfg.ty t with
  | none => rfl
  | some ti =>
   simp only
   split
   ·simp only [gL_eq gA1_eq, fNat_eq, yNew_eq]
    cases aNew nid H (.rows (bigZ (cfg.fga t ti.zero)) ti.zero.length [cfg.fga t ti.zero]) <;> rfl
   ·rfl
 | box t a =>
  simp only [yOp, evOp, yBox]
  cases (x a).cells with
  | none => rfl
  | some cs =>
   simp only [gS_eq, fNat_eq, yNew_eq]
   cases aNew nid H (.rows (bigZ cs) cs.length [cs]) <;> rfl
 | store t a v =>
  simp only [yOp, evOp]
  cases cfg.sz t with
  | none => rfl
  | some n =>
   simp only [yStore_eq]
   cases aStore n H (x a) (x v) <;> rfl
 | buildSlice t len parts => simp only [yOp]; rw [em]; rfl
 | convert s d a => simp only [yOp]; rw [em]; rfl
 | makeSlice t l c => simp only [yOp]; rw [em]; rfl
 | call c => simp only [yOp]; rw [em]
 | _ => simp only [yOp]; rw [em', xOp_eq]

mutual
def AV.same : AV → AV → Bool
 | .int a b, .int c d => kindEq a c && decide (b = d)
 | .bool a, .bool b => a == b
 | .str a, .str b => a == b
 | .agg a, .agg b => sameL a b
 | .tup a, .tup b => sameL a b
 | .nilS, .nilS => true
 | .sl a, .sl b => sameR a b
 | .em, .em => true
 | .nilP, .nilP => true
 | .nilF, .nilF => true
 | .nilM, .nilM => true
 | .nilI, .nilI => true
 | .junk, .junk => true
 | .fn (.func f) a b, .fn (.func g) c d => Nat.beq f g && (sameL a c && sameL b d)
 | .cptr a i, .cptr b j => Nat.beq i j && sameL a b
 | _, _ => false
def sameL : List AV → List AV → Bool
 | [], [] => true
 | a :: l, b :: m => a.same b && sameL l m
 | _, _ => false
def sameR : List (List AV) → List (List AV) → Bool
 | [], [] => true
 | a :: l, b :: m => sameL a b && sameR l m
 | _, _ => false
end
mutual
theorem AV.same_eq : ∀ {a b : AV}, a.same b = true → a = b
 | .int a b, y, h => by
  cases y <;> simp [AV.same, kindEq] at h
  rw [h.1, h.2]
 | .bool a, y, h => by cases y <;> simp [AV.same] at h; rw [h]
 | .str a, y, h => by cases y <;> simp [AV.same] at h; rw [h]
 | .agg a, y, h => by cases y <;> simp [AV.same] at h; rw [sameL_eq h]
 | .tup a, y, h => by cases y <;> simp [AV.same] at h; rw [sameL_eq h]
 | .nilS, y, h => by cases y <;> simp [AV.same] at h; rfl
 | .sl a, y, h => by cases y <;> simp [AV.same] at h; rw [sameR_eq h]
 | .em, y, h => by cases y <;> simp [AV.same] at h; rfl
 | .nilP, y, h => by cases y <;> simp [AV.same] at h; rfl
 | .nilF, y, h => by cases y <;> simp [AV.same] at h; rfl
 | .nilM, y, h => by cases y <;> simp [AV.same] at h; rfl
 | .nilI, y, h => by cases y <;> simp [AV.same] at h; rfl
 | .junk, y, h => by cases y <;> simp [AV.same] at h; rfl
 | .fn f a b, y, h => by
  cases f <;> cases y <;> first | (rename_i g c d; cases g <;> simp [AV.same] at h; rw [h.1, sameL_eq h.2.1, sameL_eq h.2.2]) | simp [AV.same] at h
 | .cptr a i, y, h => by
  cases y <;> simp [AV.same] at h
  rw [h.1, sameL_eq h.2]
 | .ms _ _ _, y, h => by cases y <;> simp [AV.same] at h
 | .ptr _ _ _, y, h => by cases y <;> simp [AV.same] at h
 | .yld _, y, h => by cases y <;> simp [AV.same] at h
 | .mp _, y, h => by cases y <;> simp [AV.same] at h
 | .ifc _ _, y, h => by cases y <;> simp [AV.same] at h
theorem sameL_eq : ∀ {a b : List AV}, sameL a b = true → a = b
 | [], [], _ => rfl
 | a :: l, b :: m, h => by
  simp only [sameL, Bool.and_eq_true] at h
  rw [AV.same_eq h.1, sameL_eq h.2]
 | [], _ :: _, h => by simp [sameL] at h
 | _ :: _, [], h => by simp [sameL] at h
theorem sameR_eq : ∀ {a b : List (List AV)}, sameR a b = true → a = b
 | [], [], _ => rfl
 | a :: l, b :: m, h => by
  simp only [sameR, Bool.and_eq_true] at h
  rw [sameL_eq h.1, sameR_eq h.2]
 | [], _ :: _, h => by simp [sameR] at h
 | _ :: _, [], h => by simp [sameR] at h
end
structure Fact where
 frz : Bool
 f : Nat
 args : List AV
 v : AV
def Fact.Ok (cfg : Cfg) (e : Fact) : Prop := (if e.frz then EVf (EV cfg) e.f e.args else EVs (EV cfg) e.f e.args) = some e.v
def FactsOk (cfg : Cfg) : List Fact → Prop
 | [] => True
 | e :: l => e.Ok cfg ∧ FactsOk cfg l
theorem FactsOk.nil {cfg : Cfg} : FactsOk cfg [] := trivial
theorem FactsOk.consS {cfg : Cfg} {f : Nat} {args : List AV} {v : AV} {l : List Fact} (h : EVs (EV cfg) f args = some v) (t : FactsOk cfg l) : FactsOk cfg (⟨false, f, args, v⟩ :: l) := ⟨h, t⟩
theorem FactsOk.consF {cfg : Cfg} {f : Nat} {args : List AV} {v : AV} {l : List Fact} (h : EVf (EV cfg) f args = some v) (t : FactsOk cfg l) : FactsOk cfg (⟨true, f, args, v⟩ :: l) := ⟨h, t⟩
noncomputable def factLook (frz : Bool) (f : Nat) (args : List AV) (fs : List Fact) : Option AV :=
 List.rec (motive := fun _ => Option AV) none (fun e _ ih => cond (Nat.beq e.f f && (e.frz == frz && sameL e.args args)) (some e.v) ih) fs
theorem factLook_ok {cfg : Cfg} {frz : Bool} {f : Nat} {args : List AV} {v : AV} : ∀ {fs : List Fact}, FactsOk cfg fs → factLook frz f args fs = some v → (if frz then EVf (EV cfg) f args else EVs (EV cfg) f args) = some v
 | [], _, h => by cases h
 | e :: l, hok, h => by
  have hd : factLook frz f args (e :: l) = cond (Nat.beq e.f f && (e.frz == frz && sameL e.args args)) (some e.v) (factLook frz f args l) := rfl
  rw [hd] at h
  cases hc : (Nat.beq e.f f && (e.frz == frz && sameL e.args args)) with
  | true =>
   rw [hc] at h
   simp only [Bool.and_eq_true, beq_iff_eq] at hc
   cases h
   have := hok.1
   unfold Fact.Ok at this
   rw [← Nat.eq_of_beq_eq_true hc.1, ← hc.2.1, ← sameL_eq hc.2.2]
   exact this
  | false =>
   rw [hc] at h
   exact factLook_ok hok.2 h

noncomputable def yCallG (cfg : Cfg) (cf : Orac) (nid : Option Nat) (t : Tgt) (args : List AV) (H : AH) (k : AV → AH → Option β) : Option β :=
 match callT cfg cf nid t args H with
 | some r => gA r.1 fun v => gH r.2 fun H' => k v H'
 | none => none
noncomputable def yCallS (_cfg : Cfg) (cf : Orac) (fs : List Fact) (f : Nat) (al : List AV) (k : AV → Option β) : Option β :=
 cond (refsLtL 0 al)
  (match factLook false f al fs with
  | some v => cond v.scalar (k v) none
  | none => (match cf (.f f) al [] with | some r => gA r.1 fun v => cond v.scalar (k v) none | none => none)) none
noncomputable def yCallF (_cfg : Cfg) (cf : Orac) (fs : List Fact) (f : Nat) (al : List AV) (k : AV → Option β) : Option β :=
 cond (refsLtL 0 al)
  (match factLook true f al fs with
  | some v => cond (v.refsLt 0) (k v) none
  | none => (match cf (.f f) al [] with | some r => gA (r.1.frz r.1.msIds r.2).fg fun v => cond (v.refsLt 0) (k v) none | none => none)) none
noncomputable def yCallT (cfg : Cfg) (cf : Orac) (fs : List Fact) (nid : Option Nat) (t : Tgt) (args : List AV) (H : AH) (k : AV → AH → Option β) : Option β :=
 match t with
 | .y id => yCallG cfg cf nid (.y id) args H k
 | .f f =>
  match cfg.mode f with
  | .scal => gL gA (args.map fun a => (a.snap H).fg) fun al => yCallS cfg cf fs f al fun v => k v H
  | .pfrz => gL gA (args.map AV.fg) fun al => yCallF cfg cf fs f al fun v => k v H
  | _ => yCallG cfg cf nid (.f f) args H k
noncomputable def yCallV (cfg : Cfg) (cf : Orac) (fs : List Fact) (nid : Option Nat) (f : AV) (args : List AV) (H : AH) (k : AV → AH → Option β) : Option β :=
 match tgtOf f args with
 | some t => yCallT cfg cf fs nid t.1 t.2 H k
 | none => none
def Le (cf cf' : Orac) : Prop := ∀ t a H r, cf t a H = some r → cf' t a H = some r
theorem yCallT_some {cfg : Cfg} {cf : Orac} (hcf : Le cf (EV cfg)) {fs : List Fact} (hfs : FactsOk cfg fs) {nid : Option Nat} {t : Tgt} {args : List AV} {H : AH} {k : AV → AH → Option β} {r : β}
  (h : yCallT cfg cf fs nid t args H k = some r) : ∃ q, callT cfg (EV cfg) nid t args H = some q ∧ k q.1 q.2 = some r := by
 have hev : Ev (fun _ => EV cfg) cf := fun t a H r h => ⟨0, fun _ _ => hcf t a H r h⟩
 have gen : ∀ (t : Tgt), yCallG cfg cf nid t args H k = some r → ∃ q, callT cfg (EV cfg) nid t args H = some q ∧ k q.1 q.2 = some r := by
  intro t h
  unfold yCallG at h
  split at h
  ·rename_i q hq
   rw [gA_eq, gH_eq] at h
   obtain ⟨n, hn⟩ := callT_ev hev cfg nid t args H q hq
   exact ⟨q, hn n (Nat.le_refl _), h⟩
  ·cases h
 cases t with
 | y id => exact gen _ h
 | f f =>
  simp only [yCallT] at h
  cases hm : cfg.mode f with
  | scal =>
   simp only [hm, gL_eq gA_eq] at h
   unfold yCallS at h
   obtain ⟨h1, h⟩ := cond_some h
   simp only [callT, hm, h1, if_true]
   split at h
   ·rename_i v hv
    obtain ⟨h2, h⟩ := cond_some h
    have := factLook_ok hfs hv
    simp only [Bool.false_eq_true, if_false] at this
    unfold EVs at this
    obtain ⟨q, hq, rfl⟩ := Option.map_eq_some_iff.1 this
    rw [hq]
    exact ⟨(q.1, H), by simp only [Option.bind_some, h2, if_true], h⟩
   ·split at h
    ·rename_i q hq
     rw [gA_eq] at h
     obtain ⟨h2, h⟩ := cond_some h
     rw [hcf _ _ _ _ hq]
     exact ⟨(q.1, H), by simp only [Option.bind_some, h2, if_true], h⟩
    ·cases h
  | pfrz =>
   simp only [hm, gL_eq gA_eq] at h
   unfold yCallF at h
   obtain ⟨h1, h⟩ := cond_some h
   simp only [callT, hm, h1, if_true]
   split at h
   ·rename_i v hv
    obtain ⟨h2, h⟩ := cond_some h
    have := factLook_ok hfs hv
    simp only [if_true] at this
    unfold EVf at this
    obtain ⟨q, hq, rfl⟩ := Option.map_eq_some_iff.1 this
    rw [hq]
    exact ⟨((q.1.frz q.1.msIds q.2).fg, H), by simp only [Option.bind_some, h2, if_true], h⟩
   ·split at h
    ·rename_i q hq
     rw [gA_eq] at h
     obtain ⟨h2, h⟩ := cond_some h
     rw [hcf _ _ _ _ hq]
     exact ⟨((q.1.frz q.1.msIds q.2).fg, H), by simp only [Option.bind_some, h2, if_true], h⟩
    ·cases h
  | _ => simp only [hm] at h; exact gen _ h
noncomputable def yOper1 (cfg : Cfg) (cf : Orac) (fs : List Fact) (nid : Option Nat) (o : Op) (ty : TypeId) (x : Operand → AV) (H : AH) (k : AV → AH → Option β) : Option β :=
 match o with
 | .call c =>
  (match c.callee with
  | .value f => gL gW (c.args.toList.map x) fun args => yCallV cfg cf fs nid (x f) args H k
  | _ => yOp cfg nid (.call c) ty x H k)
 | o => yOp cfg nid o ty x H k
noncomputable def yOper (cfg : Cfg) (cf : Orac) (fs : List Fact) (frz : Bool) (nid : Option Nat) (o : Oper) (x : Operand → AV) (H : AH) (k : AV → AH → Option β) : Option β :=
 match frz with
 | false => yOper1 cfg cf fs nid o.op o.type x H k
 | true => gS (o.op.operands.toList.flatMap fun a => (x a).msIds) fun ids => gH (frzBlks ids H) fun H' => yOper1 cfg cf fs nid o.op o.type (fun a => (x a).frz ids H) H' k
theorem yOper1_some {cfg : Cfg} {cf : Orac} (hcf : Le cf (EV cfg)) {fs : List Fact} (hfs : FactsOk cfg fs) {nid : Option Nat} {o : Oper} {x : Operand → AV} {H : AH} {k : AV → AH → Option β} {r : β}
  (h : yOper1 cfg cf fs nid o.op o.type x H k = some r) : ∃ q, evOper cfg (EV cfg) false nid o x H = some q ∧ k q.1 q.2 = some r := by
 obtain ⟨dst, op, ty, pos, after, guard⟩ := o
 unfold evOper
 simp only [Bool.false_eq_true, if_false] at h ⊢
 have plain : ∀ (op : Op), yOp cfg nid op ty x H k = some r → ∃ q, evOp cfg nid op ty x H = some q ∧ k q.1 q.2 = some r := by
  intro op h
  rw [yOp_eq] at h
  exact Option.bind_eq_some_iff.1 h
 cases op with
 | call c =>
  obtain ⟨callee, args, argTypes⟩ := c
  cases callee with
  | value f =>
   simp only [yOper1, gL_eq gW_eq] at h ⊢
   unfold yCallV at h
   split at h
   ·rename_i t ht
    rw [ht]
    exact yCallT_some hcf hfs h
   ·cases h
  | builtin b => simp only [yOper1] at h ⊢; exact plain _ h
  | invoke rv nm => simp only [yOper1] at h ⊢; exact plain _ h
 | _ => simp only [yOper1] at h ⊢; exact plain _ h
theorem yOper_some {cfg : Cfg} {cf : Orac} (hcf : Le cf (EV cfg)) {fs : List Fact} (hfs : FactsOk cfg fs) {frz : Bool} {nid : Option Nat} {o : Oper} {x : Operand → AV} {H : AH} {k : AV → AH → Option β} {r : β}
  (h : yOper cfg cf fs frz nid o x H k = some r) : ∃ q, evOper cfg (EV cfg) frz nid o x H = some q ∧ k q.1 q.2 = some r := by
 cases frz with
 | false => exact yOper1_some hcf hfs h
 | true =>
  simp only [yOper, gS_eq, gH_eq] at h
  obtain ⟨q, h1, h2⟩ := yOper1_some hcf hfs h
  refine ⟨q, ?_, h2⟩
  unfold evOper at h1 ⊢
  simpa using h1

noncomputable def yOps (cfg : Cfg) (cf : Orac) (fs : List Fact) (f rid : Nat) (ops : Array Oper) (n : Nat) : Nat → List Oper → Ov → AH → (Ov → AH → Option β) → Option β
 | _, [], ov, H, K => K ov H
 | i, o :: rest, ov, H, K =>
  match wantedO ops ov o with
  | none => none
  | some b =>
   cond b (yOper cfg cf fs (cfg.frz f rid i) none o (opdO ov) H fun v H' => yOps cfg cf fs f rid ops n (i + 1) rest (putO n ov o.dst v) H' K)
    (yOps cfg cf fs f rid ops n (i + 1) rest (putO n ov o.dst (.tup [])) H K)
theorem yOps_some {cfg : Cfg} {cf : Orac} (hcf : Le cf (EV cfg)) {fs : List Fact} (hfs : FactsOk cfg fs) {f rid n : Nat} {ops : Array Oper} {r : β} : ∀ {l : List Oper} {i : Nat} {ov : Ov} {H : AH} {K : Ov → AH → Option β}, OvOk n ov → yOps cfg cf fs f rid ops n i l ov H K = some r →
  ∃ ov' H', OvOk n ov' ∧ evOps cfg (EV cfg) f rid ops i l (den n ov) H = some (den n ov', H') ∧ K ov' H' = some r
 | [], i, ov, H, K, hok, h => ⟨ov, H, hok, rfl, h⟩
 | o :: l, i, ov, H, K, hok, h => by
  rw [yOps] at h
  rw [evOps, wantedO_eq hok]
  cases hw : wantedO ops ov o with
  | none => rw [hw] at h; cases h
  | some b =>
   rw [hw] at h
   simp only [Option.bind_some]
   cases b with
   | true =>
    simp only [cond_true] at h
    obtain ⟨q, h1, h2⟩ := yOper_some hcf hfs h
    simp only [if_true, opdO_eq hok, h1, Option.bind_some]
    obtain ⟨ov', H', h3, h4, h5⟩ := yOps_some hcf hfs (putO_ok hok _ _) h2
    rw [putO_den] at h4
    exact ⟨ov', H', h3, h4, h5⟩
   | false =>
    simp only [cond_false] at h
    simp only [Bool.false_eq_true, if_false]
    obtain ⟨ov', H', h3, h4, h5⟩ := yOps_some hcf hfs (putO_ok hok _ _) h
    rw [putO_den] at h4
    exact ⟨ov', H', h3, h4, h5⟩
noncomputable def yDraw (cfg : Cfg) (cf : Orac) (fs : List Fact) (f rid : Nat) (ops : Array Oper) (n : Nat) : Nat → Nat → List Oper → Ov → AH → (List FP → Ov → AH → Option β) → Option β
 | _, _, [], ov, H, K => K [] ov H
 | i, at_, o :: rest, ov, H, K =>
  match wantedO ops ov o with
  | none => none
  | some b =>
   fNat (if makes cfg o then at_ + 1 else at_) fun at' =>
   cond b (yOper cfg cf fs (cfg.frz f rid i) (some at_) o (opdO ov) H fun v H' => yDraw cfg cf fs f rid ops n (i + 1) at' rest (putO n ov o.dst v) H' fun fps ov' H'' => K (fpOper cfg (cfg.frz f rid i) at_ o (opdO ov) :: fps) ov' H'')
    (yDraw cfg cf fs f rid ops n (i + 1) at' rest (putO n ov o.dst (.tup [])) H fun fps ov' H'' => K (.none :: fps) ov' H'')
theorem yDraw_some {cfg : Cfg} {cf : Orac} (hcf : Le cf (EV cfg)) {fs : List Fact} (hfs : FactsOk cfg fs) {f rid n : Nat} {ops : Array Oper} {r : β} : ∀ {l : List Oper} {i at_ : Nat} {ov : Ov} {H : AH} {K : List FP → Ov → AH → Option β}, OvOk n ov → yDraw cfg cf fs f rid ops n i at_ l ov H K = some r →
  ∃ fps ov' H', OvOk n ov' ∧ evDraw cfg (EV cfg) f rid ops i at_ l (den n ov) H = some (fps, den n ov', H') ∧ K fps ov' H' = some r
 | [], i, at_, ov, H, K, hok, h => ⟨[], ov, H, hok, rfl, h⟩
 | o :: l, i, at_, ov, H, K, hok, h => by
  rw [yDraw] at h
  rw [evDraw, wantedO_eq hok]
  cases hw : wantedO ops ov o with
  | none => rw [hw] at h; cases h
  | some b =>
   rw [hw] at h
   simp only [Option.bind_some]
   simp only [fNat_eq] at h
   cases b with
   | true =>
    simp only [cond_true] at h
    obtain ⟨q, h1, h2⟩ := yOper_some hcf hfs h
    simp only [if_true, opdO_eq hok, h1, Option.bind_some]
    obtain ⟨fps, ov', H', h3, h4, h5⟩ := yDraw_some hcf hfs (putO_ok hok _ _) h2
    rw [putO_den] at h4
    exact ⟨_, ov', H', h3, by rw [h4]; rfl, h5⟩
   | false =>
    simp only [cond_false] at h
    simp only [Bool.false_eq_true, if_false]
    obtain ⟨fps, ov', H', h3, h4, h5⟩ := yDraw_some hcf hfs (putO_ok hok _ _) h
    rw [putO_den] at h4
    exact ⟨_, ov', H', h3, by rw [h4]; rfl, h5⟩

def risesB : Nat → List Nat → Bool
 | _, [] => true
 | i, k :: ks => Nat.ble i k && risesB (k + 1) ks
noncomputable def maskO (ks : List Nat) (ov : Ov) : (Ov → α) → α :=
 List.rec (motive := fun _ => (Ov → α) → α) (fun K => K []) (fun t _ ih K => gW (ovGet t ov) fun v => ih fun l => K ((t, v) :: l)) ks
theorem maskO_eq (ks : List Nat) (ov : Ov) : ∀ (K : Ov → α), maskO ks ov K = K (ks.map fun t => (t, ovGet t ov)) := by
 induction ks with
 | nil => intro K; rfl
 | cons t l ih =>
  intro K
  have : maskO (t :: l) ov K = gW (ovGet t ov) fun v => maskO l ov fun l => K ((t, v) :: l) := rfl
  rw [this, gW_eq, ih, List.map_cons]
theorem keepGo_get : ∀ (ks : List Nat) (fr : List AV) (i t : Nat), risesB i ks = true → (keepGo i ks fr)[t]? = if t < fr.length then some (if i + t ∈ ks then (fr[t]?).getD .junk else .junk) else none
 | ks, [], i, t, _ => by cases ks <;> simp [keepGo]
 | [], a :: fr, i, t, h => by
  rw [keepGo]
  cases t with
  | zero => simp
  | succ t =>
   simp only [List.getElem?_cons_succ]
   rw [keepGo_get [] fr i t rfl]
   simp
 | k :: ks, a :: fr, i, t, h => by
  rw [risesB, Bool.and_eq_true, Nat.ble_eq] at h
  rw [keepGo]
  have hge : ∀ (l : List Nat) (j : Nat), risesB j l = true → ∀ x ∈ l, j ≤ x := by
   intro l
   induction l with
   | nil => intro j _ x hx; cases hx
   | cons y l ih =>
    intro j hj x hx
    rw [risesB, Bool.and_eq_true, Nat.ble_eq] at hj
    rcases List.mem_cons.1 hx with rfl | hx
    ·exact hj.1
    ·have := ih _ hj.2 x hx; omega
  split
  ·rename_i e
   have e := Nat.eq_of_beq_eq_true e
   subst e
   cases t with
   | zero => simp
   | succ t =>
    simp only [List.getElem?_cons_succ]
    rw [keepGo_get ks fr (i + 1) t h.2]
    have e1 : i + (t + 1) = i + 1 + t := by omega
    have e2 : ¬ i + 1 + t = i := by omega
    simp only [List.length_cons, Nat.add_lt_add_iff_right, e1, List.mem_cons, e2, false_or]
  ·rename_i e
   have hne : i ≠ k := fun h' => e (by rw [h']; exact Nat.beq_refl _)
   cases t with
   | zero =>
    have : i ∉ k :: ks := by
     intro hm
     rcases List.mem_cons.1 hm with rfl | hm
     ·exact hne rfl
     ·have := hge _ _ h.2 i hm; omega
    simp [this]
   | succ t =>
    simp only [List.getElem?_cons_succ]
    rw [keepGo_get (k :: ks) fr (i + 1) t (by rw [risesB, Bool.and_eq_true, Nat.ble_eq]; exact ⟨by omega, h.2⟩)]
    have e1 : i + (t + 1) = i + 1 + t := by omega
    simp only [List.length_cons, Nat.add_lt_add_iff_right, e1]
theorem ovGet_map (ks : List Nat) (g : Nat → AV) (t : Nat) : ovGet t (ks.map fun t => (t, g t)) = if t ∈ ks then g t else .junk := by
 induction ks with
 | nil => rfl
 | cons k l ih =>
  rw [List.map_cons, ovGet_cons, ih]
  by_cases e : k = t
  ·subst e; simp
  ·have h1 : Nat.beq k t = false := by rw [← Bool.not_eq_true]; intro h'; exact e (Nat.eq_of_beq_eq_true h')
   have h2 : ¬ t = k := fun h => e h.symm
   rw [h1, cond_false]
   simp only [List.mem_cons, h2, false_or]
noncomputable def yMask (n : Nat) (ts : Option (List Nat)) (ov : Ov) (K : Ov → Option β) : Option β :=
 match ts with
 | none => K ov
 | some ks => cond (risesB 0 ks && ks.all fun t => Nat.blt t n) (maskO ks ov K) none
theorem yMask_some {n : Nat} {ts : Option (List Nat)} {ov : Ov} {K : Ov → Option β} {r : β} (hok : OvOk n ov) (h : yMask n ts ov K = some r) : ∃ ov', OvOk n ov' ∧ maskFr ts (den n ov) = den n ov' ∧ K ov' = some r := by
 cases ts with
 | none => exact ⟨ov, hok, rfl, h⟩
 | some ks =>
  simp only [yMask, maskO_eq] at h
  cases hc : (risesB 0 ks && ks.all fun t => Nat.blt t n) with
  | false => rw [hc] at h; cases h
  | true =>
   rw [hc] at h
   rw [Bool.and_eq_true, List.all_eq_true] at hc
   have hok' : OvOk n (ks.map fun t => (t, ovGet t ov)) := by
    intro p hp
    obtain ⟨t, ht, rfl⟩ := List.mem_map.1 hp
    have := hc.2 t ht
    simpa [Nat.blt_eq] using this
   refine ⟨_, hok', (den_ext hok' ?_ fun t ht => ?_).symm, h⟩
   ·show (keepGo 0 ks (den n ov)).length = n
    rw [(keepGo_rep (ts := ks) (fr := den n ov) (k := 0)).1, den_len]
   ·show (keepGo 0 ks (den n ov))[t]? = _
    rw [keepGo_get _ _ _ _ hc.1, den_len, if_pos ht, Nat.zero_add, ovGet_map, den_get hok, if_pos ht]
    rfl
noncomputable def yLift (n : Nat) : List (Tmp × Nat) → Ov → AH → (Ov → AH → Option β) → Option β
 | [], ov, H, K => K ov H
 | p :: l, ov, H, K =>
  match ovGet p.1 ov with
  | .nilS => fNat H.length fun i => cond (Nat.blt p.1 n) (gS (H ++ [.rows true p.2 []]) fun H' => yLift n l ((p.1, .ms i 0 0) :: ov) H' K) none
  | .ptr _ _ _ => (match lift1 p.1 p.2 (den n ov) H with | q => gH q.2 fun H' => yLift n l ov H' K)
  | _ => yLift n l ov H K
theorem lift1_ptr {t sz : Nat} {fr : List AV} {H : AH} {id r off : Nat} (h : fr[t]? = some (.ptr id r off)) : (lift1 t sz fr H).1 = fr := by
 unfold lift1
 rw [h]
 simp only
 split
 ·split
  ·split <;> rfl
  ·rfl
 ·rfl
theorem yLift_some {n : Nat} {r : β} : ∀ {ls : List (Tmp × Nat)} {ov : Ov} {H : AH} {K : Ov → AH → Option β}, OvOk n ov → yLift n ls ov H K = some r → ∃ ov' H', OvOk n ov' ∧ liftFr ls (den n ov) H = (den n ov', H') ∧ K ov' H' = some r
  | [], ov, H, K, hok, h => ⟨ov, H, hok, rfl, h⟩
  | p :: l, ov, H, K, hok, h => by
    rw [yLift] at h
    rw [liftFr]
    have hget : (den n ov)[p.1]? = if p.1 < n then some (ovGet p.1 ov) else none := den_get hok p.1
    split at h
    · rename_i hv
      simp only [fNat_eq] at h
      cases hb : Nat.blt p.1 n with
      | false => rw [hb] at h; cases h
      | true =>
        rw [hb] at h
        simp only [cond_true, gS_eq] at h
        have hlt : p.1 < n := by simpa [Nat.blt_eq] using hb
        have hl1 : lift1 p.1 p.2 (den n ov) H = (den n ((p.1, .ms H.length 0 0) :: ov), H ++ [.rows true p.2 []]) := by
          unfold lift1
          rw [hget, if_pos hlt, hv]; rfl
        rw [hl1]
        exact yLift_some (fun q hq => by rcases List.mem_cons.1 hq with rfl | hq; · exact hlt
                                         · exact hok q hq) h
    · rename_i id r' off hv
      simp only [gH_eq] at h
      by_cases hlt : p.1 < n
      · rw [lift1_ptr (by rw [hget, if_pos hlt, hv])]
        exact yLift_some hok h
      · rw [ovGet_big hok hlt] at hv; cases hv
    · rename_i h1 h2
      have hl1 : lift1 p.1 p.2 (den n ov) H = (den n ov, H) := by
        unfold lift1
        rw [hget]
        by_cases hlt : p.1 < n
        · rw [if_pos hlt]
          split
          · rename_i e; exact absurd (Option.some.inj e) h1
          · rename_i a b c e; exact absurd (Option.some.inj e) (h2 a b c)
          · rfl
        · rw [if_neg hlt]
      rw [hl1]
      exact yLift_some hok h
def spGo : Nat → List AV → Ov
 | _, [] => []
 | i, .junk :: l => spGo (i + 1) l
 | i, v :: l => (i, v) :: spGo (i + 1) l
theorem spGo_get : ∀ (l : List AV) (i t : Nat), ovGet t (spGo i l) = if i ≤ t then (l[t - i]?).getD .junk else .junk
 | [], i, t => by simp [spGo, ovGet_nil]
 | a :: l, i, t => by
  have ih := spGo_get l (i + 1) t
  have key : ∀ (ov : Ov), ov = (i, a) :: spGo (i + 1) l → ovGet t ov = if i ≤ t then ((a :: l)[t - i]?).getD .junk else .junk := by
   intro ov e
   rw [e, ovGet_cons, ih]
   by_cases e2 : i = t
   ·subst e2; simp
   ·have h1 : Nat.beq i t = false := by rw [← Bool.not_eq_true]; intro h'; exact e2 (Nat.eq_of_beq_eq_true h')
    simp only [h1, cond_false]
    by_cases h3 : i + 1 ≤ t
    ·have h4 : t - i = (t - (i + 1)) + 1 := by omega
     rw [if_pos h3, if_pos (by omega), h4, List.getElem?_cons_succ]
    ·rw [if_neg h3, if_neg (by omega)]
  cases a with
  | junk =>
   show ovGet t (spGo (i + 1) l) = _
   rw [ih]
   by_cases h3 : i + 1 ≤ t
   ·have h4 : t - i = (t - (i + 1)) + 1 := by omega
    rw [if_pos h3, if_pos (by omega), h4, List.getElem?_cons_succ]
   ·rw [if_neg h3]
    by_cases e2 : i = t
    ·subst e2; simp
    ·rw [if_neg (by omega)]
  | _ => exact key _ rfl
theorem spGo_ok : ∀ (l : List AV) (i n : Nat), i + l.length ≤ n → OvOk n (spGo i l)
 | [], i, n, _ => fun p hp => by cases hp
 | a :: l, i, n, h => by
  simp only [List.length_cons] at h
  have ih := spGo_ok l (i + 1) n (by omega)
  have key : OvOk n ((i, a) :: spGo (i + 1) l) := fun p hp => by
   rcases List.mem_cons.1 hp with rfl | hp
   ·show i < n; omega
   ·exact ih p hp
  cases a <;> first | exact key | exact ih
theorem den_sp (l : List AV) : den l.length (spGo 0 l) = l := by
 have hok := spGo_ok l 0 l.length (by omega)
 refine den_ext hok rfl fun t ht => ?_
 rw [spGo_get, if_pos (Nat.zero_le _), Nat.sub_zero, List.getElem?_eq_getElem ht]; rfl
noncomputable def yGc (n k : Nat) (ov : Ov) (H : AH) (K : Ov → AH → Option β) : Option β :=
 cond (Nat.ble H.length k) (K ov H) (match gcAll k (den n ov) H with | q => gS (spGo 0 q.1) fun ov' => gL gP ov' fun ov' => gH q.2 fun H' => K ov' H')
theorem renL_len (ρ : Nat → Nat) (l : List AV) : (renL ρ l).length = l.length := by rw [renL_map]; simp
theorem gcAll_len (k : Nat) (fr : List AV) (H : AH) : (gcAll k fr H).1.length = fr.length := by
 unfold gcAll
 simp only
 cases blksOf H (reach k H (2 * H.length + 16) [] (idsGeL k fr ++ idsGeH k (H.take k))) with
 | none => rfl
 | some bs =>
  simp only
  split
  ·exact renL_len _ _
  ·rfl
theorem yGc_some {n k : Nat} {ov : Ov} {H : AH} {K : Ov → AH → Option β} {r : β} (hok : OvOk n ov) (h : yGc n k ov H K = some r) : ∃ ov' H', OvOk n ov' ∧ gc k (den n ov) H = (den n ov', H') ∧ K ov' H' = some r := by
 unfold yGc at h
 unfold gc
 cases hb : Nat.ble H.length k with
 | true => rw [hb] at h; exact ⟨ov, H, hok, by simp, h⟩
 | false =>
  rw [hb] at h
  simp only [cond_false] at h
  rw [gS_eq, gL_eq gP_eq, gH_eq] at h
  have hl : (gcAll k (den n ov) H).1.length = n := by rw [gcAll_len, den_len]
  have := den_sp (gcAll k (den n ov) H).1
  rw [hl] at this
  refine ⟨_, _, ?_, ?_, h⟩
  ·exact spGo_ok _ _ _ (by omega)
  ·simp only [Bool.false_eq_true, if_false, this]
noncomputable def yHead (n k : Nat) (ts : Option (List Tmp)) (ls : List (Tmp × Nat)) (ov : Ov) (H : AH) (K : Ov → AH → Option β) : Option β :=
 yMask n ts ov fun ov => yLift n ls ov H fun ov H => yGc n k ov H K
theorem yHead_some {n k : Nat} {ts : Option (List Tmp)} {ls : List (Tmp × Nat)} {ov : Ov} {H : AH} {K : Ov → AH → Option β} {r : β} (hok : OvOk n ov) (h : yHead n k ts ls ov H K = some r) :
  ∃ ov' H', OvOk n ov' ∧ headFr k ts ls (den n ov) H = (den n ov', H') ∧ K ov' H' = some r := by
 obtain ⟨ov1, h1, h2, h⟩ := yMask_some hok h
 obtain ⟨ov2, H2, h3, h4, h⟩ := yLift_some h1 h
 obtain ⟨ov3, H3, h5, h6, h⟩ := yGc_some h3 h
 refine ⟨ov3, H3, h5, ?_, h⟩
 unfold headFr
 rw [h2, h4]
 exact h6

abbrev YE (β : Type) := Ex → Ov → AH → Option β
noncomputable def yLoop (n k : Nat) (ts : Option (List Tmp)) (ls : List (Tmp × Nat)) (body : Ov → AH → YE β → Option β) : Nat → Ov → AH → YE β → Option β
 | 0, _, _, _ => none
 | m + 1, ov, H, K => body ov H fun e ov' H' =>
  match e with
  | .normal => yHead n k ts ls ov' H' fun ov2 H2 => yLoop n k ts ls body m ov2 H2 K
  | e => K e ov' H'
noncomputable def yRange (cfg : Cfg) (cf : Orac) (f : Nat) (rd : Option Nat) (n bs : Nat) (g : Operand) (ps : Array Tmp) (assign body : Code) (ov : Ov) (H : AH) (K : YE β) : Option β :=
 gL gW (den n ov) fun fr =>
 match evRange cfg cf f rd bs g ps assign body fr H with
 | none => none
 | some q => gS (spGo 0 q.2.1) fun ov' => gL gP ov' fun ov' => gH q.2.2 fun H' => cond (Nat.beq q.2.1.length n) (K q.1 ov' H') none
noncomputable def yC (cfg : Cfg) (cf : Orac) (fs : List Fact) (m f : Nat) (rd : Option Nat) (n bs : Nat) : Code → Ov → AH → YE β → Option β
 | .skip, ov, H, K => K .normal ov H
 | .label _, ov, H, K => K .normal ov H
 | .region id ops draw, ov, H, K =>
  match draw with
  | true => cond (drawStat ops) (gS (H ++ List.replicate (places cfg ops.toList) .res) fun H1 => yDraw cfg cf fs f id ops n 0 H.length ops.toList ov H1 fun fps ov' H' => cond (dynAll (ancs [] ops.toList) 0 fps) (K .normal ov' H') none) none
  | false => yOps cfg cf fs f id ops n 0 ops.toList ov H fun ov' H' => K .normal ov' H'
 | .seq a b, ov, H, K => yC cfg cf fs m f rd n bs a ov H fun e ov' H' =>
  match e with
  | .normal => yMask n (cfg.cut f (firstRid b)) ov' fun ov2 => yC cfg cf fs m f rd n bs b ov2 H' K
  | e => K e ov' H'
 | .cond c a b, ov, H, K =>
  match opdO ov c with
  | .bool t => (match t with | true => yC cfg cf fs m f rd n bs a ov H K | false => yC cfg cf fs m f rd n bs b ov H K)
  | _ => none
 | .block id a, ov, H, K => yC cfg cf fs m f rd n bs a ov H fun e ov' H' =>
  match e with
  | .exit id' => cond (Nat.beq id' id) (K .normal ov' H') (K (.exit id') ov' H')
  | e => K e ov' H'
 | .loop a, ov, H, K => yHead n bs (cfg.keepIn f (firstRid a)) (cfg.lift f (firstRid a)) ov H fun ov H =>
   yLoop n bs (cfg.keepIn f (firstRid a)) (cfg.lift f (firstRid a)) (yC cfg cf fs m f rd n bs a) m ov H fun e ov H => yMask n (cfg.keepOut f (firstRid a)) ov fun ov => K e ov H
 | .scope a, ov, H, K => yC cfg cf fs m f rd n bs a ov H fun e ov' H' =>
  match e with
  | .goto _ => none
  | e => K e ov' H'
 | .exit id, ov, H, K => K (.exit id) ov H
 | .goto _, _, _, _ => none
 | .ret, ov, H, K => K .ret ov H
 | .rangeFunc g ps assign body, ov, H, K => yLift n (cfg.lift f (firstRid body)) ov H fun ov H => yRange cfg cf f rd n bs g ps assign body ov H K
 | .refuse _, _, _, _ => none

theorem yLoop_some {n k : Nat} {ts : Option (List Tmp)} {ls : List (Tmp × Nat)} {body : Ov → AH → YE β → Option β} {den' : Den} {r : β}
  (hb : ∀ {ov H K}, OvOk n ov → body ov H K = some r → ∃ e ov' H', OvOk n ov' ∧ den' (den n ov) H = some (e, den n ov', H') ∧ K e ov' H' = some r) :
  ∀ (m : Nat) {ov : Ov} {H : AH} {K : YE β}, OvOk n ov → yLoop n k ts ls body m ov H K = some r → ∃ e ov' H', OvOk n ov' ∧ loopN k ts ls den' m (den n ov, H) = some (e, den n ov', H') ∧ K e ov' H' = some r
 | 0, ov, H, K, _, h => by cases h
 | m + 1, ov, H, K, hok, h => by
  rw [yLoop] at h
  obtain ⟨e, ov1, H1, h1, h2, h3⟩ := hb hok h
  rw [loopN]
  simp only [h2, Option.bind_some]
  cases e with
  | normal =>
   simp only at h3 ⊢
   obtain ⟨ov2, H2, h4, h5, h6⟩ := yHead_some h1 h3
   rw [h5]
   exact yLoop_some hb m h4 h6
  | exit id => exact ⟨_, ov1, H1, h1, rfl, h3⟩
  | goto l => exact ⟨_, ov1, H1, h1, rfl, h3⟩
  | ret => exact ⟨_, ov1, H1, h1, rfl, h3⟩

theorem yC_some {cfg : Cfg} {cf : Orac} (hcf : Le cf (EV cfg)) {fs : List Fact} (hfs : FactsOk cfg fs) {m f : Nat} {rd : Option Nat} {n bs : Nat} {r : β} : ∀ (c : Code) {ov : Ov} {H : AH} {K : YE β}, OvOk n ov → yC cfg cf fs m f rd n bs c ov H K = some r →
  ∃ e ov' H', OvOk n ov' ∧ evC cfg (EV cfg) f rd bs c (den n ov) H = some (e, den n ov', H') ∧ K e ov' H' = some r := by
 intro c
 induction c with
 | skip => intro ov H K hok h; exact ⟨_, ov, H, hok, by simp only [evC], h⟩
 | label l => intro ov H K hok h; exact ⟨_, ov, H, hok, by simp only [evC], h⟩
 | exit id => intro ov H K hok h; exact ⟨_, ov, H, hok, by simp only [evC], h⟩
 | ret => intro ov H K hok h; exact ⟨_, ov, H, hok, by simp only [evC], h⟩
 | goto l => intro ov H K hok h; cases h
 | refuse s => intro ov H K hok h; cases h
 | region id ops draw =>
  intro ov H K hok h
  simp only [yC] at h
  simp only [evC]
  cases draw with
  | true =>
   simp only at h
   obtain ⟨h1, h⟩ := cond_some h
   rw [gS_eq] at h
   obtain ⟨fps, ov', H', h2, h3, h⟩ := yDraw_some hcf hfs hok h
   obtain ⟨h4, h⟩ := cond_some h
   exact ⟨_, ov', H', h2, by simp only [if_true, h1, h3, Option.bind_some, h4], h⟩
  | false =>
   simp only at h
   obtain ⟨ov', H', h2, h3, h⟩ := yOps_some hcf hfs hok h
   exact ⟨_, ov', H', h2, by simp only [Bool.false_eq_true, if_false, h3, Option.map_some], h⟩
 | seq x y ihx ihy =>
  intro ov H K hok h
  simp only [yC] at h
  simp only [evC]
  obtain ⟨e, ov1, H1, h1, h2, h⟩ := ihx hok h
  rw [h2]
  simp only [Option.bind_some]
  cases e with
  | normal =>
   simp only at h ⊢
   obtain ⟨ov2, h3, h4, h⟩ := yMask_some h1 h
   rw [h4]
   exact ihy h3 h
  | exit id => exact ⟨_, ov1, H1, h1, rfl, h⟩
  | goto l => exact ⟨_, ov1, H1, h1, rfl, h⟩
  | ret => exact ⟨_, ov1, H1, h1, rfl, h⟩
 | cond c x y ihx ihy =>
  intro ov H K hok h
  simp only [yC] at h
  simp only [evC, opdO_eq hok]
  split at h
  ·rename_i t ht
   rw [ht]
   cases t with
   | true => exact ihx hok h
   | false => exact ihy hok h
  ·cases h
 | block id x ih =>
  intro ov H K hok h
  simp only [yC] at h
  simp only [evC]
  obtain ⟨e, ov1, H1, h1, h2, h⟩ := ih hok h
  rw [h2]
  simp only [Option.bind_some]
  cases e with
  | normal => exact ⟨_, ov1, H1, h1, rfl, h⟩
  | exit id' =>
   simp only at h ⊢
   cases hb : Nat.beq id' id with
   | true => rw [hb] at h; exact ⟨_, ov1, H1, h1, by simp, h⟩
   | false => rw [hb] at h; exact ⟨_, ov1, H1, h1, by simp, h⟩
  | goto l => exact ⟨_, ov1, H1, h1, rfl, h⟩
  | ret => exact ⟨_, ov1, H1, h1, rfl, h⟩
 | loop x ih =>
  intro ov H K hok h
  simp only [yC] at h
  simp only [evC]
  obtain ⟨ov1, H1, h1, h2, h⟩ := yHead_some hok h
  rw [h2]
  obtain ⟨e, ov2, H2, h3, h4, h⟩ := yLoop_some (den' := evC cfg (EV cfg) f rd bs x) (fun hok h => ih hok h) m h1 h
  obtain ⟨ov3, h5, h6, h⟩ := yMask_some h3 h
  rw [LOOP_of h4]
  exact ⟨e, ov3, H2, h5, by simp only [Option.map_some, h6], h⟩
 | scope x ih =>
  intro ov H K hok h
  simp only [yC] at h
  simp only [evC]
  obtain ⟨e, ov1, H1, h1, h2, h⟩ := ih hok h
  rw [h2]
  simp only [Option.bind_some]
  cases e with
  | goto l => cases h
  | normal => exact ⟨_, ov1, H1, h1, rfl, h⟩
  | exit id => exact ⟨_, ov1, H1, h1, rfl, h⟩
  | ret => exact ⟨_, ov1, H1, h1, rfl, h⟩
 | rangeFunc g ps assign body =>
  intro ov H K hok h
  simp only [yC] at h
  simp only [evC]
  obtain ⟨ov1, H1, h1, h2, h⟩ := yLift_some hok h
  rw [h2]
  simp only
  unfold yRange at h
  rw [gL_eq gW_eq] at h
  split at h
  ·cases h
  ·rename_i q hq
   have hq : evRange cfg (EV cfg) f rd bs g ps assign body (den n ov1) H1 = some q := by
    unfold evRange at hq ⊢
    split at hq
    ·rename_i hl
     rw [if_pos hl]
     split at hq
     ·split at hq
      ·cases hq
      ·rename_i hx
       rw [if_neg hx]
       obtain ⟨q2, hq2, hq⟩ := Option.bind_eq_some_iff.1 hq
       rw [hcf _ _ _ _ hq2]
       exact hq
     ·cases hq
    ·cases hq
   rw [gS_eq, gL_eq gP_eq, gH_eq] at h
   obtain ⟨hl, h⟩ := cond_some h
   have hl := Nat.eq_of_beq_eq_true hl
   have hd := den_sp q.2.1
   rw [hl] at hd
   refine ⟨q.1, _, q.2.2, ?_, ?_, h⟩
   ·exact spGo_ok _ _ _ (by omega)
   ·rw [hq, hd]

noncomputable def resO (rs : List ResultVar) (ty : TypeId → Option TI) (ov : Ov) (H : AH) : Option (List AV) :=
 match rs with
 | [] => some []
 | .tmp t :: l => (resO l ty ov H).map fun vs => ovGet t ov :: vs
 | .cell a t :: l =>
  match ty t with
  | some ti => (aLoad ti.d.agg ti.sz H (ovGet a ov)).bind fun v => (resO l ty ov H).map fun vs => v :: vs
  | none => none
theorem resO_eq {n : Nat} {ov : Ov} (hok : OvOk n ov) (ty : TypeId → Option TI) (H : AH) : ∀ rs : List ResultVar, resVals rs ty (den n ov) H = resO rs ty ov H
 | [] => rfl
 | .tmp t :: l => by
  have : (den n ov).getD t .junk = ovGet t ov := congrFun (opdO_eq hok) (.tmp t)
  simp only [resVals, resO, resO_eq hok ty H l, this]
 | .cell a t :: l => by
  have : (den n ov).getD a .junk = ovGet a ov := congrFun (opdO_eq hok) (.tmp a)
  simp only [resVals, resO, resO_eq hok ty H l, this]
  cases ty t <;> rfl
noncomputable def yEnd (cfg : Cfg) (f n : Nat) (rs : List ResultVar) : YE (AV × AH) := fun e ov H =>
 match e with
 | .normal | .ret => yLift n (cfg.lift f 0) ov H fun ov H => (match resO rs cfg.ty ov H with | some vs => gA (result1 vs) fun v => some (v, H) | none => none)
 | _ => none
def argsO : Nat → List AV → Ov
 | _, [] => []
 | i, a :: l => (i, a) :: argsO (i + 1) l
theorem argsO_ok : ∀ (l : List AV) (i n : Nat), i + l.length ≤ n → OvOk n (argsO i l)
 | [], i, n, _ => fun p hp => by cases hp
 | a :: l, i, n, h => by
  simp only [List.length_cons] at h
  intro p hp
  rcases List.mem_cons.1 hp with rfl | hp
  ·show i < n; omega
  ·exact argsO_ok l (i + 1) n (by omega) p hp
theorem argsO_get : ∀ (l : List AV) (i t : Nat), ovGet t (argsO i l) = if i ≤ t then (l[t - i]?).getD .junk else .junk
 | [], i, t => by simp [argsO, ovGet_nil]
 | a :: l, i, t => by
  rw [argsO, ovGet_cons, argsO_get l (i + 1) t]
  by_cases e2 : i = t
  ·subst e2; simp
  ·have h1 : Nat.beq i t = false := by rw [← Bool.not_eq_true]; intro h'; exact e2 (Nat.eq_of_beq_eq_true h')
   simp only [h1, cond_false]
   by_cases h3 : i + 1 ≤ t
   ·have h4 : t - i = (t - (i + 1)) + 1 := by omega
    rw [if_pos h3, if_pos (by omega), h4, List.getElem?_cons_succ]
   ·rw [if_neg h3, if_neg (by omega)]
theorem den_args {l : List AV} {n : Nat} (h : l.length ≤ n) : den n (argsO 0 l) = l ++ List.replicate (n - l.length) .junk := by
 refine den_ext (argsO_ok l 0 n (by omega)) (by simp; omega) fun t ht => ?_
 rw [argsO_get, if_pos (Nat.zero_le _), Nat.sub_zero]
 by_cases hl : t < l.length
 ·rw [List.getElem?_append_left hl, List.getElem?_eq_getElem hl]; rfl
 ·rw [List.getElem?_append_right (by omega), List.getElem?_replicate, if_pos (by omega), List.getElem?_eq_none (by omega)]; rfl
noncomputable def yY2 (id : Nat) : YE (AV × AH) := fun e _ H =>
 match H[id]? with
 | some (.loop f' fr' ps' assign' body' _ _) =>
  match e with
  | .normal => gS (H.set id (.loop f' fr' ps' assign' body' none .ready)) fun H' => some (.bool true, H')
  | .ret => gS (H.set id (.loop f' fr' ps' assign' body' (some .ret) .done)) fun H' => some (.bool false, H')
  | .exit x => gS (H.set id (.loop f' fr' ps' assign' body' (some (.exit x)) .done)) fun H' => some (.bool false, H')
  | .goto _ => none
 | _ => none
noncomputable def yF (cfg : Cfg) (look : Nat → Option Func) (fs : List Fact) (m : Nat) : Nat → Orac
 | 0, _, _, _ => none
 | d + 1, .f f, args, H =>
  match cfg.ext f with
  | some s => s args H
  | none =>
   if cfg.known f then
    match look f with
    | some fn =>
     match fn.body with
     | some c => cond (Nat.ble args.length fn.ntmps) (fNat H.length fun bs => fNat fn.ntmps fun n => gS (argsO 0 args) fun ov => yC cfg (yF cfg look fs m d) fs m f none n bs c ov H (yEnd cfg f n fn.results.toList)) none
     | none => none
    | none => none
   else none
 | d + 1, .y id, args, H =>
  match H[id]? with
  | some (.loop f fr ps assign body _ .ready) =>
   cond (Nat.beq args.length ps.length)
    (fNat H.length fun bs => fNat (setParams fr ps args).length fun n => gS (spGo 0 (setParams fr ps args)) fun ov => yC cfg (yF cfg look fs m d) fs m f (some id) n bs assign ov H fun e ov H =>
     match e with
     | .normal =>
      (match H[id]? with
      | some (.loop f' fr' ps' assign' body' pend' .ready) => gS (H.set id (.loop f' fr' ps' assign' body' pend' .busy)) fun H' => yC cfg (yF cfg look fs m d) fs m f (some id) n bs body ov H' (yY2 id)
      | _ => none)
     | _ => none) none
  | _ => none
theorem yF_EV (cfg : Cfg) {look : Nat → Option Func} (hl : ∀ f fn, look f = some fn → cfg.P.funcs[f]? = some fn) {fs : List Fact} (hfs : FactsOk cfg fs) (m : Nat) : ∀ (d : Nat) (t : Tgt) (a : List AV) (H : AH) (r), yF cfg look fs m d t a H = some r → EV cfg t a H = some r
 | 0, _, _, _, _, h => by cases h
 | d + 1, t, a, H, r, h => by
  have ih := yF_EV cfg hl hfs m d
  refine EV_of ?_
  cases t with
  | f f =>
   simp only [yF] at h
   unfold evBody
   split at h
   ·rename_i s hs
    simp only [hs]
    exact h
   ·rename_i hs
    simp only [hs]
    split at h
    ·rename_i hk
     rw [if_pos hk]
     split at h
     ·rename_i fn hf
      simp only [hl f fn hf]
      split at h
      ·rename_i c hb
       simp only [hb]
       obtain ⟨hle, h⟩ := cond_some h
       rw [Nat.ble_eq] at hle
       simp only [fNat_eq, gS_eq] at h
       obtain ⟨e, ov', H', h1, h2, h3⟩ := yC_some ih hfs c (argsO_ok a 0 fn.ntmps (by omega)) h
       rw [den_args hle] at h2
       rw [h2]
       simp only [Option.bind_some]
       unfold yEnd at h3
       have fin : ∀ (e : Ex), (e = .normal ∨ e = .ret) → (yLift fn.ntmps (cfg.lift f 0) ov' H' fun ov H => (match resO fn.results.toList cfg.ty ov H with | some vs => gA (result1 vs) fun v => some (v, H) | none => none)) = some r →
         finish cfg fn.results.toList (e, liftFr (cfg.lift f 0) (den fn.ntmps ov') H') = some r := by
        intro e he h3
        obtain ⟨ov2, H2, h4, h5, h6⟩ := yLift_some h1 h3
        rw [h5]
        unfold finish
        rcases he with rfl | rfl <;>
        ·simp only [resO_eq h4]
         split at h6
         ·rename_i vs hv
          rw [gA_eq] at h6
          rw [hv]
          exact h6
         ·cases h6
       cases e with
       | normal => exact fin _ (.inl rfl) h3
       | ret => exact fin _ (.inr rfl) h3
       | exit x => cases h3
       | goto l => cases h3
      ·cases h
     ·cases h
    ·cases h
  | y id =>
   simp only [yF] at h
   unfold evBody
   split at h
   ·rename_i f fr ps assign body p hlp
    simp only [hlp]
    obtain ⟨hlen, h⟩ := cond_some h
    rw [if_pos (Nat.eq_of_beq_eq_true hlen)]
    simp only [fNat_eq, gS_eq] at h
    obtain ⟨e, ov1, H1, h1, h2, h3⟩ := yC_some ih hfs assign (spGo_ok _ 0 _ (by omega)) h
    rw [den_sp] at h2
    rw [h2]
    simp only [Option.bind_some]
    cases e with
    | normal =>
     simp only at h3 ⊢
     split at h3
     ·rename_i f' fr' ps' assign' body' pend' hl1
      simp only [hl1]
      obtain ⟨e2, ov2, H2, h4, h5, h6⟩ := yC_some ih hfs body h1 h3
      rw [h5]
      simp only [Option.bind_some]
      unfold yY2 at h6
      split at h6
      ·rename_i hl2
       simp only [hl2]
       cases e2 with
       | normal => simp only [gS_eq] at h6; exact h6
       | ret => simp only [gS_eq] at h6; exact h6
       | exit x => simp only [gS_eq] at h6; exact h6
       | goto l => cases h6
      ·cases h6
     ·cases h3
    | exit x => cases h3
    | goto l => cases h3
    | ret => cases h3
   ·cases h

theorem fact_S {cfg : Cfg} {look : Nat → Option Func} (hl : ∀ f fn, look f = some fn → cfg.P.funcs[f]? = some fn) {fs : List Fact} (hfs : FactsOk cfg fs) {f : Nat} {args : List AV} {v : AV} (m d : Nat)
  (h : (match yF cfg look fs m d (.f f) args [] with | some r => some r.1 | none => none) = some v) : EVs (EV cfg) f args = some v := by
 unfold EVs
 cases hx : yF cfg look fs m d (.f f) args [] with
 | none => rw [hx] at h; cases h
 | some r => rw [hx] at h; rw [yF_EV cfg hl hfs m d _ _ _ _ hx]; exact h
theorem fact_F {cfg : Cfg} {look : Nat → Option Func} (hl : ∀ f fn, look f = some fn → cfg.P.funcs[f]? = some fn) {fs : List Fact} (hfs : FactsOk cfg fs) {f : Nat} {args : List AV} {v : AV} (m d : Nat)
  (h : (match yF cfg look fs m d (.f f) args [] with | some r => gA (r.1.frz r.1.msIds r.2).fg some | none => none) = some v) : EVf (EV cfg) f args = some v := by
 unfold EVf
 cases hx : yF cfg look fs m d (.f f) args [] with
 | none => rw [hx] at h; cases h
 | some r => rw [hx] at h; rw [yF_EV cfg hl hfs m d _ _ _ _ hx]; simp only [gA_eq] at h; exact h
end Go.Av
end

section
namespace Go.Av
def extCmp : List AV → AH → Option (AV × AH)
 | [.str a, .str b], H => some (.int .i64 (if a == b then 0 else if Op.bytesLess a b then -1 else 1), H)
 | _, _ => none
end Go.Av
end

section
namespace Go.Proofs.YtkgkjngbfdnoiaaGreat
open Go.Av
set_option maxRecDepth 100000

def zr0 : List AV := [.int .u64 0, .int .u64 0, .int .u32 0, .int .u8 0, .int .u8 0, .int .u8 0, .int .u8 0, .nilF, .nilP, .int .i32 0, .int .i32 0]
def tyTab : BT TI := .node 147 ⟨.func, 1, 8, [.nilF]⟩ (.node 77 ⟨.struct [(0, 4), (1, 22), (2, 75)], 3, 56, [.bool false, .nilS, .nilS]⟩ (.node 39 ⟨.func, 1, 8, [.nilF]⟩ (.node 22 ⟨.slice 24, 1, 24, [.nilS]⟩ (.node 12 ⟨.int .u64, 1, 8, [.int .u64 0]⟩ (.node 5 ⟨.int .u8, 1, 1, [.int .u8 0]⟩ (.node 3 ⟨.int .i64, 1, 8, [.int .i64 0]⟩ (.node 2 ⟨.int .i64, 1, 8, [.int .i64 0]⟩ (.node 1 ⟨.func, 1, 8, [.nilF]⟩ .leaf .leaf) .leaf) (.node 4 ⟨.bool, 1, 1, [.bool false]⟩ .leaf .leaf)) (.node 7 ⟨.struct [(0, 2), (1, 3), (2, 4), (3, 6)], 4, 24, [.int .i64 0, .int .i64 0, .bool false, .int .u8 0]⟩ (.node 6 ⟨.int .u8, 1, 1, [.int .u8 0]⟩ .leaf .leaf) (.node 9 ⟨.str, 1, 16, [.str []]⟩ .leaf .leaf))) (.node 17 ⟨.ptr 287, 1, 8, [.nilP]⟩ (.node 15 ⟨.ptr 275, 1, 8, [.nilP]⟩ (.node 13 ⟨.struct [(0, 9), (1, 12)], 2, 24, [.str [], .int .u64 0]⟩ .leaf .leaf) (.node 16 ⟨.ptr 278, 1, 8, [.nilP]⟩ .leaf .leaf)) (.node 19 ⟨.struct [(0, 17)], 1, 8, [.nilP]⟩ (.node 18 ⟨.struct [(0, 17)], 1, 8, [.nilP]⟩ .leaf .leaf) (.node 21 ⟨.int .i32, 1, 4, [.int .i32 0]⟩ .leaf .leaf)))) (.node 30 ⟨.func, 1, 8, [.nilF]⟩ (.node 26 ⟨.struct [(0, 24), (4, 25), (5, 3)], 6, 88, [.int .i64 0, .int .i64 0, .str [], .nilS, .nilS, .int .i64 0]⟩ (.node 24 ⟨.struct [(0, 3), (1, 3), (2, 9), (3, 22)], 4, 56, [.int .i64 0, .int .i64 0, .str [], .nilS]⟩ (.node 23 ⟨.struct [(0, 3), (1, 3), (2, 9), (3, 22)], 4, 56, [.int .i64 0, .int .i64 0, .str [], .nilS]⟩ .leaf .leaf) (.node 25 ⟨.slice 91, 1, 24, [.nilS]⟩ .leaf .leaf)) (.node 28 ⟨.func, 1, 8, [.nilF]⟩ (.node 27 ⟨.struct [(0, 24), (4, 25), (5, 3)], 6, 88, [.int .i64 0, .int .i64 0, .str [], .nilS, .nilS, .int .i64 0]⟩ .leaf .leaf) (.node 29 ⟨.func, 1, 8, [.nilF]⟩ .leaf .leaf))) (.node 35 ⟨.func, 1, 8, [.nilF]⟩ (.node 33 ⟨.func, 1, 8, [.nilF]⟩ (.node 31 ⟨.int .i64, 1, 8, [.int .i64 0]⟩ .leaf .leaf) (.node 34 ⟨.func, 1, 8, [.nilF]⟩ .leaf .leaf)) (.node 37 ⟨.func, 1, 8, [.nilF]⟩ (.node 36 ⟨.func, 1, 8, [.nilF]⟩ .leaf .leaf) (.node 38 ⟨.func, 1, 8, [.nilF]⟩ .leaf .leaf))))) (.node 59 ⟨.struct [(0, 3), (1, 3), (2, 3), (3, 24)], 7, 80, [.int .i64 0, .int .i64 0, .int .i64 0, .int .i64 0, .int .i64 0, .str [], .nilS]⟩ (.node 51 ⟨.func, 1, 8, [.nilF]⟩ (.node 45 ⟨.func, 1, 8, [.nilF]⟩ (.node 42 ⟨.func, 1, 8, [.nilF]⟩ (.node 41 ⟨.func, 1, 8, [.nilF]⟩ (.node 40 ⟨.func, 1, 8, [.nilF]⟩ .leaf .leaf) .leaf) (.node 43 ⟨.func, 1, 8, [.nilF]⟩ .leaf .leaf)) (.node 48 ⟨.func, 1, 8, [.nilF]⟩ (.node 47 ⟨.func, 1, 8, [.nilF]⟩ .leaf .leaf) (.node 49 ⟨.slice 56, 1, 24, [.nilS]⟩ .leaf .leaf))) (.node 55 ⟨.struct [(0, 24), (4, 22), (5, 22)], 6, 104, [.int .i64 0, .int .i64 0, .str [], .nilS, .nilS, .nilS]⟩ (.node 53 ⟨.func, 1, 8, [.nilF]⟩ (.node 52 ⟨.func, 1, 8, [.nilF]⟩ .leaf .leaf) (.node 54 ⟨.func, 1, 8, [.nilF]⟩ .leaf .leaf)) (.node 57 ⟨.slice 60, 1, 24, [.nilS]⟩ (.node 56 ⟨.struct [(0, 24), (4, 22), (5, 22)], 6, 104, [.int .i64 0, .int .i64 0, .str [], .nilS, .nilS, .nilS]⟩ .leaf .leaf) (.node 58 ⟨.func, 1, 8, [.nilF]⟩ .leaf .leaf)))) (.node 69 ⟨.func, 1, 8, [.nilF]⟩ (.node 64 ⟨.func, 1, 8, [.nilF]⟩ (.node 61 ⟨.func, 1, 8, [.nilF]⟩ (.node 60 ⟨.struct [(0, 3), (1, 3), (2, 3), (3, 24)], 7, 80, [.int .i64 0, .int .i64 0, .int .i64 0, .int .i64 0, .int .i64 0, .str [], .nilS]⟩ .leaf .leaf) (.node 63 ⟨.func, 1, 8, [.nilF]⟩ .leaf .leaf)) (.node 66 ⟨.slice 3, 1, 24, [.nilS]⟩ (.node 65 ⟨.func, 1, 8, [.nilF]⟩ .leaf .leaf) (.node 67 ⟨.func, 1, 8, [.nilF]⟩ .leaf .leaf))) (.node 73 ⟨.func, 1, 8, [.nilF]⟩ (.node 71 ⟨.func, 1, 8, [.nilF]⟩ (.node 70 ⟨.func, 1, 8, [.nilF]⟩ .leaf .leaf) (.node 72 ⟨.func, 1, 8, [.nilF]⟩ .leaf .leaf)) (.node 75 ⟨.slice 82, 1, 24, [.nilS]⟩ (.node 74 ⟨.func, 1, 8, [.nilF]⟩ .leaf .leaf) (.node 76 ⟨.struct [(0, 4), (1, 22), (2, 75)], 3, 56, [.bool false, .nilS, .nilS]⟩ .leaf .leaf)))))) (.node 113 ⟨.func, 1, 8, [.nilF]⟩ (.node 97 ⟨.struct [(0, 27), (6, 4)], 7, 96, [.int .i64 0, .int .i64 0, .str [], .nilS, .nilS, .int .i64 0, .bool false]⟩ (.node 88 ⟨.func, 1, 8, [.nilF]⟩ (.node 83 ⟨.func, 1, 8, [.nilF]⟩ (.node 81 ⟨.struct [(0, 3), (1, 22)], 2, 32, [.int .i64 0, .nilS]⟩ (.node 80 ⟨.func, 1, 8, [.nilF]⟩ (.node 79 ⟨.func, 1, 8, [.nilF]⟩ .leaf .leaf) .leaf) (.node 82 ⟨.struct [(0, 3), (1, 22)], 2, 32, [.int .i64 0, .nilS]⟩ .leaf .leaf)) (.node 86 ⟨.func, 1, 8, [.nilF]⟩ (.node 84 ⟨.func, 1, 8, [.nilF]⟩ .leaf .leaf) (.node 87 ⟨.func, 1, 8, [.nilF]⟩ .leaf .leaf))) (.node 93 ⟨.func, 1, 8, [.nilF]⟩ (.node 90 ⟨.struct [(0, 3), (1, 24)], 5, 64, [.int .i64 0, .int .i64 0, .int .i64 0, .str [], .nilS]⟩ (.node 89 ⟨.func, 1, 8, [.nilF]⟩ .leaf .leaf) (.node 91 ⟨.struct [(0, 3), (1, 24)], 5, 64, [.int .i64 0, .int .i64 0, .int .i64 0, .str [], .nilS]⟩ .leaf .leaf)) (.node 95 ⟨.ptr 97, 1, 8, [.nilP]⟩ (.node 94 ⟨.func, 1, 8, [.nilF]⟩ .leaf .leaf) (.node 96 ⟨.struct [(0, 27), (6, 4)], 7, 96, [.int .i64 0, .int .i64 0, .str [], .nilS, .nilS, .int .i64 0, .bool false]⟩ .leaf .leaf)))) (.node 105 ⟨.func, 1, 8, [.nilF]⟩ (.node 101 ⟨.func, 1, 8, [.nilF]⟩ (.node 99 ⟨.func, 1, 8, [.nilF]⟩ (.node 98 ⟨.func, 1, 8, [.nilF]⟩ .leaf .leaf) (.node 100 ⟨.func, 1, 8, [.nilF]⟩ .leaf .leaf)) (.node 103 ⟨.func, 1, 8, [.nilF]⟩ (.node 102 ⟨.func, 1, 8, [.nilF]⟩ .leaf .leaf) (.node 104 ⟨.func, 1, 8, [.nilF]⟩ .leaf .leaf))) (.node 109 ⟨.func, 1, 8, [.nilF]⟩ (.node 107 ⟨.func, 1, 8, [.nilF]⟩ (.node 106 ⟨.func, 1, 8, [.nilF]⟩ .leaf .leaf) (.node 108 ⟨.func, 1, 8, [.nilF]⟩ .leaf .leaf)) (.node 111 ⟨.func, 1, 8, [.nilF]⟩ (.node 110 ⟨.func, 1, 8, [.nilF]⟩ .leaf .leaf) (.node 112 ⟨.func, 1, 8, [.nilF]⟩ .leaf .leaf))))) (.node 131 ⟨.struct [(0, 24), (4, 3), (5, 22), (6, 22), (7, 25), (8, 4)], 9, 144, [.int .i64 0, .int .i64 0, .str [], .nilS, .int .i64 0, .nilS, .nilS, .nilS, .bool false]⟩ (.node 123 ⟨.ptr 126, 1, 8, [.nilP]⟩ (.node 119 ⟨.func, 1, 8, [.nilF]⟩ (.node 116 ⟨.func, 1, 8, [.nilF]⟩ (.node 115 ⟨.func, 1, 8, [.nilF]⟩ .leaf .leaf) (.node 118 ⟨.func, 1, 8, [.nilF]⟩ .leaf .leaf)) (.node 121 ⟨.func, 1, 8, [.nilF]⟩ (.node 120 ⟨.func, 1, 8, [.nilF]⟩ .leaf .leaf) (.node 122 ⟨.func, 1, 8, [.nilF]⟩ .leaf .leaf))) (.node 127 ⟨.int .i64, 1, 8, [.int .i64 0]⟩ (.node 125 ⟨.struct [(0, 24), (4, 3), (5, 22), (6, 22), (7, 124), (8, 4)], 9, 128, [.int .i64 0, .int .i64 0, .str [], .nilS, .int .i64 0, .nilS, .nilS, .nilM, .bool false]⟩ (.node 124 ⟨.map 3 24, 1, 8, [.nilM]⟩ .leaf .leaf) (.node 126 ⟨.struct [(0, 24), (4, 3), (5, 22), (6, 22), (7, 124), (8, 4)], 9, 128, [.int .i64 0, .int .i64 0, .str [], .nilS, .int .i64 0, .nilS, .nilS, .nilM, .bool false]⟩ .leaf .leaf)) (.node 129 ⟨.ptr 131, 1, 8, [.nilP]⟩ (.node 128 ⟨.func, 1, 8, [.nilF]⟩ .leaf .leaf) (.node 130 ⟨.struct [(0, 24), (4, 3), (5, 22), (6, 22), (7, 25), (8, 4)], 9, 144, [.int .i64 0, .int .i64 0, .str [], .nilS, .int .i64 0, .nilS, .nilS, .nilS, .bool false]⟩ .leaf .leaf)))) (.node 139 ⟨.func, 1, 8, [.nilF]⟩ (.node 135 ⟨.struct [(0, 57)], 1, 24, [.nilS]⟩ (.node 133 ⟨.ptr 135, 1, 8, [.nilP]⟩ (.node 132 ⟨.func, 1, 8, [.nilF]⟩ .leaf .leaf) (.node 134 ⟨.struct [(0, 57)], 1, 24, [.nilS]⟩ .leaf .leaf)) (.node 137 ⟨.func, 1, 8, [.nilF]⟩ (.node 136 ⟨.func, 1, 8, [.nilF]⟩ .leaf .leaf) (.node 138 ⟨.func, 1, 8, [.nilF]⟩ .leaf .leaf))) (.node 143 ⟨.func, 1, 8, [.nilF]⟩ (.node 141 ⟨.func, 1, 8, [.nilF]⟩ (.node 140 ⟨.func, 1, 8, [.nilF]⟩ .leaf .leaf) (.node 142 ⟨.func, 1, 8, [.nilF]⟩ .leaf .leaf)) (.node 145 ⟨.func, 1, 8, [.nilF]⟩ (.node 144 ⟨.func, 1, 8, [.nilF]⟩ .leaf .leaf) (.node 146 ⟨.func, 1, 8, [.nilF]⟩ .leaf .leaf))))))) (.node 217 ⟨.struct [(0, 215), (2, 216)], 402, 5616, [.int .u64 0, .int .u64 0, .int .i64 0, .int .i64 0, .str [], .nilS, .int .i64 0, .int .i64 0, .str [], .nilS, .int .i64 0, .int .i64 0, .str [], .nilS, .int .i64 0, .int .i64 0, .str [], .nilS, .int .i64 0, .int .i64 0, .str [], .nilS, .int .i64 0, .int .i64 0, .str [], .nilS, .int .i64 0, .int .i64 0, .str [], .nilS, .int .i64 0, .int .i64 0, .str [], .nilS, .int .i64 0, .int .i64 0, .str [], .nilS, .int .i64 0, .int .i64 0, .str [], .nilS, .int .i64 0, .int .i64 0, .str [], .nilS, .int .i64 0, .int .i64 0, .str [], .nilS, .int .i64 0, .int .i64 0, .str [], .nilS, .int .i64 0, .int .i64 0, .str [], .nilS, .int .i64 0, .int .i64 0, .str [], .nilS, .int .i64 0, .int .i64 0, .str [], .nilS, .int .i64 0, .int .i64 0, .str [], .nilS, .int .i64 0, .int .i64 0, .str [], .nilS, .int .i64 0, .int .i64 0, .str [], .nilS, .int .i64 0, .int .i64 0, .str [], .nilS, .int .i64 0, .int .i64 0, .str [], .nilS, .int .i64 0, .int .i64 0, .str [], .nilS, .int .i64 0, .int .i64 0, .str [], .nilS, .int .i64 0, .int .i64 0, .str [], .nilS, .int .i64 0, .int .i64 0, .str [], .nilS, .int .i64 0, .int .i64 0, .str [], .nilS, .int .i64 0, .int .i64 0, .str [], .nilS, .int .i64 0, .int .i64 0, .str [], .nilS, .int .i64 0, .int .i64 0, .str [], .nilS, .int .i64 0, .int .i64 0, .str [], .nilS, .int .i64 0, .int .i64 0, .str [], .nilS, .int .i64 0, .int .i64 0, .str [], .nilS, .int .i64 0, .int .i64 0, .str [], .nilS, .int .i64 0, .int .i64 0, .str [], .nilS, .int .i64 0, .int .i64 0, .str [], .nilS, .int .i64 0, .int .i64 0, .str [], .nilS, .int .i64 0, .int .i64 0, .str [], .nilS, .int .i64 0, .int .i64 0, .str [], .nilS, .int .i64 0, .int .i64 0, .str [], .nilS, .int .i64 0, .int .i64 0, .str [], .nilS, .int .i64 0, .int .i64 0, .str [], .nilS, .int .i64 0, .int .i64 0, .str [], .nilS, .int .i64 0, .int .i64 0, .str [], .nilS, .int .i64 0, .int .i64 0, .str [], .nilS, .int .i64 0, .int .i64 0, .str [], .nilS, .int .i64 0, .int .i64 0, .str [], .nilS, .int .i64 0, .int .i64 0, .str [], .nilS, .int .i64 0, .int .i64 0, .str [], .nilS, .int .i64 0, .int .i64 0, .str [], .nilS, .int .i64 0, .int .i64 0, .str [], .nilS, .int .i64 0, .int .i64 0, .str [], .nilS, .int .i64 0, .int .i64 0, .str [], .nilS, .int .i64 0, .int .i64 0, .str [], .nilS, .int .i64 0, .int .i64 0, .str [], .nilS, .int .i64 0, .int .i64 0, .str [], .nilS, .int .i64 0, .int .i64 0, .str [], .nilS, .int .i64 0, .int .i64 0, .str [], .nilS, .int .i64 0, .int .i64 0, .str [], .nilS, .int .i64 0, .int .i64 0, .str [], .nilS, .int .i64 0, .int .i64 0, .str [], .nilS, .int .i64 0, .int .i64 0, .str [], .nilS, .int .i64 0, .int .i64 0, .str [], .nilS, .int .i64 0, .int .i64 0, .str [], .nilS, .int .i64 0, .int .i64 0, .str [], .nilS, .int .i64 0, .int .i64 0, .str [], .nilS, .int .i64 0, .int .i64 0, .str [], .nilS, .int .i64 0, .int .i64 0, .str [], .nilS, .int .i64 0, .int .i64 0, .str [], .nilS, .int .i64 0, .int .i64 0, .str [], .nilS, .int .i64 0, .int .i64 0, .str [], .nilS, .int .i64 0, .int .i64 0, .str [], .nilS, .int .i64 0, .int .i64 0, .str [], .nilS, .int .i64 0, .int .i64 0, .str [], .nilS, .int .i64 0, .int .i64 0, .str [], .nilS, .int .i64 0, .int .i64 0, .str [], .nilS, .int .i64 0, .int .i64 0, .str [], .nilS, .int .i64 0, .int .i64 0, .str [], .nilS, .int .i64 0, .int .i64 0, .str [], .nilS, .int .i64 0, .int .i64 0, .str [], .nilS, .int .i64 0, .int .i64 0, .str [], .nilS, .int .i64 0, .int .i64 0, .str [], .nilS, .int .i64 0, .int .i64 0, .str [], .nilS, .int .i64 0, .int .i64 0, .str [], .nilS, .int .i64 0, .int .i64 0, .str [], .nilS, .int .i64 0, .int .i64 0, .str [], .nilS, .int .i64 0, .int .i64 0, .str [], .nilS, .int .i64 0, .int .i64 0, .str [], .nilS, .int .i64 0, .int .i64 0, .str [], .nilS, .int .i64 0, .int .i64 0, .str [], .nilS, .int .i64 0, .int .i64 0, .str [], .nilS, .int .i64 0, .int .i64 0, .str [], .nilS, .int .i64 0, .int .i64 0, .str [], .nilS, .int .i64 0, .int .i64 0, .str [], .nilS, .int .i64 0, .int .i64 0, .str [], .nilS, .int .i64 0, .int .i64 0, .str [], .nilS, .int .i64 0, .int .i64 0, .str [], .nilS, .int .i64 0, .int .i64 0, .str [], .nilS, .int .i64 0, .int .i64 0, .str [], .nilS, .int .i64 0, .int .i64 0, .str [], .nilS, .int .i64 0, .int .i64 0, .str [], .nilS]⟩ (.node 184 ⟨.ptr 4, 1, 8, [.nilP]⟩ (.node 166 ⟨.func, 1, 8, [.nilF]⟩ (.node 156 ⟨.func, 1, 8, [.nilF]⟩ (.node 152 ⟨.func, 1, 8, [.nilF]⟩ (.node 150 ⟨.struct [(0, 4), (1, 4), (2, 4), (3, 24), (7, 82)], 9, 96, [.bool false, .bool false, .bool false, .int .i64 0, .int .i64 0, .str [], .nilS, .int .i64 0, .nilS]⟩ (.node 149 ⟨.func, 1, 8, [.nilF]⟩ (.node 148 ⟨.func, 1, 8, [.nilF]⟩ .leaf .leaf) .leaf) (.node 151 ⟨.struct [(0, 4), (1, 4), (2, 4), (3, 24), (7, 82)], 9, 96, [.bool false, .bool false, .bool false, .int .i64 0, .int .i64 0, .str [], .nilS, .int .i64 0, .nilS]⟩ .leaf .leaf)) (.node 154 ⟨.func, 1, 8, [.nilF]⟩ (.node 153 ⟨.func, 1, 8, [.nilF]⟩ .leaf .leaf) (.node 155 ⟨.func, 1, 8, [.nilF]⟩ .leaf .leaf))) (.node 161 ⟨.func, 1, 8, [.nilF]⟩ (.node 158 ⟨.func, 1, 8, [.nilF]⟩ (.node 157 ⟨.func, 1, 8, [.nilF]⟩ .leaf .leaf) (.node 160 ⟨.func, 1, 8, [.nilF]⟩ .leaf .leaf)) (.node 163 ⟨.func, 1, 8, [.nilF]⟩ (.node 162 ⟨.func, 1, 8, [.nilF]⟩ .leaf .leaf) (.node 165 ⟨.func, 1, 8, [.nilF]⟩ .leaf .leaf)))) (.node 174 ⟨.func, 1, 8, [.nilF]⟩ (.node 170 ⟨.func, 1, 8, [.nilF]⟩ (.node 168 ⟨.func, 1, 8, [.nilF]⟩ (.node 167 ⟨.slice 5, 1, 24, [.nilS]⟩ .leaf .leaf) (.node 169 ⟨.func, 1, 8, [.nilF]⟩ .leaf .leaf)) (.node 172 ⟨.func, 1, 8, [.nilF]⟩ (.node 171 ⟨.func, 1, 8, [.nilF]⟩ .leaf .leaf) (.node 173 ⟨.func, 1, 8, [.nilF]⟩ .leaf .leaf))) (.node 179 ⟨.func, 1, 8, [.nilF]⟩ (.node 176 ⟨.func, 1, 8, [.nilF]⟩ (.node 175 ⟨.func, 1, 8, [.nilF]⟩ .leaf .leaf) (.node 177 ⟨.func, 1, 8, [.nilF]⟩ .leaf .leaf)) (.node 182 ⟨.func, 1, 8, [.nilF]⟩ (.node 181 ⟨.func, 1, 8, [.nilF]⟩ .leaf .leaf) (.node 183 ⟨.func, 1, 8, [.nilF]⟩ .leaf .leaf))))) (.node 201 ⟨.func, 1, 8, [.nilF]⟩ (.node 193 ⟨.func, 1, 8, [.nilF]⟩ (.node 189 ⟨.func, 1, 8, [.nilF]⟩ (.node 187 ⟨.func, 1, 8, [.nilF]⟩ (.node 185 ⟨.func, 1, 8, [.nilF]⟩ .leaf .leaf) (.node 188 ⟨.func, 1, 8, [.nilF]⟩ .leaf .leaf)) (.node 191 ⟨.func, 1, 8, [.nilF]⟩ (.node 190 ⟨.func, 1, 8, [.nilF]⟩ .leaf .leaf) (.node 192 ⟨.func, 1, 8, [.nilF]⟩ .leaf .leaf))) (.node 197 ⟨.func, 1, 8, [.nilF]⟩ (.node 195 ⟨.func, 1, 8, [.nilF]⟩ (.node 194 ⟨.func, 1, 8, [.nilF]⟩ .leaf .leaf) (.node 196 ⟨.func, 1, 8, [.nilF]⟩ .leaf .leaf)) (.node 199 ⟨.func, 1, 8, [.nilF]⟩ (.node 198 ⟨.func, 1, 8, [.nilF]⟩ .leaf .leaf) (.node 200 ⟨.func, 1, 8, [.nilF]⟩ .leaf .leaf)))) (.node 209 ⟨.slice 208, 1, 24, [.nilS]⟩ (.node 205 ⟨.func, 1, 8, [.nilF]⟩ (.node 203 ⟨.int .u64, 1, 8, [.int .u64 0]⟩ (.node 202 ⟨.func, 1, 8, [.nilF]⟩ .leaf .leaf) (.node 204 ⟨.func, 1, 8, [.nilF]⟩ .leaf .leaf)) (.node 207 ⟨.struct [(0, 24), (4, 24)], 8, 112, [.int .i64 0, .int .i64 0, .str [], .nilS, .int .i64 0, .int .i64 0, .str [], .nilS]⟩ (.node 206 ⟨.func, 1, 8, [.nilF]⟩ .leaf .leaf) (.node 208 ⟨.struct [(0, 24), (4, 24)], 8, 112, [.int .i64 0, .int .i64 0, .str [], .nilS, .int .i64 0, .int .i64 0, .str [], .nilS]⟩ .leaf .leaf))) (.node 213 ⟨.int .u64, 1, 8, [.int .u64 0]⟩ (.node 211 ⟨.ptr 218, 1, 8, [.nilP]⟩ (.node 210 ⟨.func, 1, 8, [.nilF]⟩ .leaf .leaf) (.node 212 ⟨.func, 1, 8, [.nilF]⟩ .leaf .leaf)) (.node 215 ⟨.struct [(0, 213), (1, 213)], 2, 16, [.int .u64 0, .int .u64 0]⟩ (.node 214 ⟨.struct [(0, 213), (1, 213)], 2, 16, [.int .u64 0, .int .u64 0]⟩ .leaf .leaf) (.node 216 ⟨.array 100 24, 400, 5600, [.int .i64 0, .int .i64 0, .str [], .nilS, .int .i64 0, .int .i64 0, .str [], .nilS, .int .i64 0, .int .i64 0, .str [], .nilS, .int .i64 0, .int .i64 0, .str [], .nilS, .int .i64 0, .int .i64 0, .str [], .nilS, .int .i64 0, .int .i64 0, .str [], .nilS, .int .i64 0, .int .i64 0, .str [], .nilS, .int .i64 0, .int .i64 0, .str [], .nilS, .int .i64 0, .int .i64 0, .str [], .nilS, .int .i64 0, .int .i64 0, .str [], .nilS, .int .i64 0, .int .i64 0, .str [], .nilS, .int .i64 0, .int .i64 0, .str [], .nilS, .int .i64 0, .int .i64 0, .str [], .nilS, .int .i64 0, .int .i64 0, .str [], .nilS, .int .i64 0, .int .i64 0, .str [], .nilS, .int .i64 0, .int .i64 0, .str [], .nilS, .int .i64 0, .int .i64 0, .str [], .nilS, .int .i64 0, .int .i64 0, .str [], .nilS, .int .i64 0, .int .i64 0, .str [], .nilS, .int .i64 0, .int .i64 0, .str [], .nilS, .int .i64 0, .int .i64 0, .str [], .nilS, .int .i64 0, .int .i64 0, .str [], .nilS, .int .i64 0, .int .i64 0, .str [], .nilS, .int .i64 0, .int .i64 0, .str [], .nilS, .int .i64 0, .int .i64 0, .str [], .nilS, .int .i64 0, .int .i64 0, .str [], .nilS, .int .i64 0, .int .i64 0, .str [], .nilS, .int .i64 0, .int .i64 0, .str [], .nilS, .int .i64 0, .int .i64 0, .str [], .nilS, .int .i64 0, .int .i64 0, .str [], .nilS, .int .i64 0, .int .i64 0, .str [], .nilS, .int .i64 0, .int .i64 0, .str [], .nilS, .int .i64 0, .int .i64 0, .str [], .nilS, .int .i64 0, .int .i64 0, .str [], .nilS, .int .i64 0, .int .i64 0, .str [], .nilS, .int .i64 0, .int .i64 0, .str [], .nilS, .int .i64 0, .int .i64 0, .str [], .nilS, .int .i64 0, .int .i64 0, .str [], .nilS, .int .i64 0, .int .i64 0, .str [], .nilS, .int .i64 0, .int .i64 0, .str [], .nilS, .int .i64 0, .int .i64 0, .str [], .nilS, .int .i64 0, .int .i64 0, .str [], .nilS, .int .i64 0, .int .i64 0, .str [], .nilS, .int .i64 0, .int .i64 0, .str [], .nilS, .int .i64 0, .int .i64 0, .str [], .nilS, .int .i64 0, .int .i64 0, .str [], .nilS, .int .i64 0, .int .i64 0, .str [], .nilS, .int .i64 0, .int .i64 0, .str [], .nilS, .int .i64 0, .int .i64 0, .str [], .nilS, .int .i64 0, .int .i64 0, .str [], .nilS, .int .i64 0, .int .i64 0, .str [], .nilS, .int .i64 0, .int .i64 0, .str [], .nilS, .int .i64 0, .int .i64 0, .str [], .nilS, .int .i64 0, .int .i64 0, .str [], .nilS, .int .i64 0, .int .i64 0, .str [], .nilS, .int .i64 0, .int .i64 0, .str [], .nilS, .int .i64 0, .int .i64 0, .str [], .nilS, .int .i64 0, .int .i64 0, .str [], .nilS, .int .i64 0, .int .i64 0, .str [], .nilS, .int .i64 0, .int .i64 0, .str [], .nilS, .int .i64 0, .int .i64 0, .str [], .nilS, .int .i64 0, .int .i64 0, .str [], .nilS, .int .i64 0, .int .i64 0, .str [], .nilS, .int .i64 0, .int .i64 0, .str [], .nilS, .int .i64 0, .int .i64 0, .str [], .nilS, .int .i64 0, .int .i64 0, .str [], .nilS, .int .i64 0, .int .i64 0, .str [], .nilS, .int .i64 0, .int .i64 0, .str [], .nilS, .int .i64 0, .int .i64 0, .str [], .nilS, .int .i64 0, .int .i64 0, .str [], .nilS, .int .i64 0, .int .i64 0, .str [], .nilS, .int .i64 0, .int .i64 0, .str [], .nilS, .int .i64 0, .int .i64 0, .str [], .nilS, .int .i64 0, .int .i64 0, .str [], .nilS, .int .i64 0, .int .i64 0, .str [], .nilS, .int .i64 0, .int .i64 0, .str [], .nilS, .int .i64 0, .int .i64 0, .str [], .nilS, .int .i64 0, .int .i64 0, .str [], .nilS, .int .i64 0, .int .i64 0, .str [], .nilS, .int .i64 0, .int .i64 0, .str [], .nilS, .int .i64 0, .int .i64 0, .str [], .nilS, .int .i64 0, .int .i64 0, .str [], .nilS, .int .i64 0, .int .i64 0, .str [], .nilS, .int .i64 0, .int .i64 0, .str [], .nilS, .int .i64 0, .int .i64 0, .str [], .nilS, .int .i64 0, .int .i64 0, .str [], .nilS, .int .i64 0, .int .i64 0, .str [], .nilS, .int .i64 0, .int .i64 0, .str [], .nilS, .int .i64 0, .int .i64 0, .str [], .nilS, .int .i64 0, .int .i64 0, .str [], .nilS, .int .i64 0, .int .i64 0, .str [], .nilS, .int .i64 0, .int .i64 0, .str [], .nilS, .int .i64 0, .int .i64 0, .str [], .nilS, .int .i64 0, .int .i64 0, .str [], .nilS, .int .i64 0, .int .i64 0, .str [], .nilS, .int .i64 0, .int .i64 0, .str [], .nilS, .int .i64 0, .int .i64 0, .str [], .nilS, .int .i64 0, .int .i64 0, .str [], .nilS, .int .i64 0, .int .i64 0, .str [], .nilS, .int .i64 0, .int .i64 0, .str [], .nilS]⟩ .leaf .leaf)))))) (.node 252 ⟨.ptr 24, 1, 8, [.nilP]⟩ (.node 235 ⟨.func, 1, 8, [.nilF]⟩ (.node 227 ⟨.func, 1, 8, [.nilF]⟩ (.node 223 ⟨.func, 1, 8, [.nilF]⟩ (.node 221 ⟨.func, 1, 8, [.nilF]⟩ (.node 220 ⟨.func, 1, 8, [.nilF]⟩ (.node 218 ⟨.struct [(0, 215), (2, 216)], 402, 5616, [.int .u64 0, .int .u64 0, .int .i64 0, .int .i64 0, .str [], .nilS, .int .i64 0, .int .i64 0, .str [], .nilS, .int .i64 0, .int .i64 0, .str [], .nilS, .int .i64 0, .int .i64 0, .str [], .nilS, .int .i64 0, .int .i64 0, .str [], .nilS, .int .i64 0, .int .i64 0, .str [], .nilS, .int .i64 0, .int .i64 0, .str [], .nilS, .int .i64 0, .int .i64 0, .str [], .nilS, .int .i64 0, .int .i64 0, .str [], .nilS, .int .i64 0, .int .i64 0, .str [], .nilS, .int .i64 0, .int .i64 0, .str [], .nilS, .int .i64 0, .int .i64 0, .str [], .nilS, .int .i64 0, .int .i64 0, .str [], .nilS, .int .i64 0, .int .i64 0, .str [], .nilS, .int .i64 0, .int .i64 0, .str [], .nilS, .int .i64 0, .int .i64 0, .str [], .nilS, .int .i64 0, .int .i64 0, .str [], .nilS, .int .i64 0, .int .i64 0, .str [], .nilS, .int .i64 0, .int .i64 0, .str [], .nilS, .int .i64 0, .int .i64 0, .str [], .nilS, .int .i64 0, .int .i64 0, .str [], .nilS, .int .i64 0, .int .i64 0, .str [], .nilS, .int .i64 0, .int .i64 0, .str [], .nilS, .int .i64 0, .int .i64 0, .str [], .nilS, .int .i64 0, .int .i64 0, .str [], .nilS, .int .i64 0, .int .i64 0, .str [], .nilS, .int .i64 0, .int .i64 0, .str [], .nilS, .int .i64 0, .int .i64 0, .str [], .nilS, .int .i64 0, .int .i64 0, .str [], .nilS, .int .i64 0, .int .i64 0, .str [], .nilS, .int .i64 0, .int .i64 0, .str [], .nilS, .int .i64 0, .int .i64 0, .str [], .nilS, .int .i64 0, .int .i64 0, .str [], .nilS, .int .i64 0, .int .i64 0, .str [], .nilS, .int .i64 0, .int .i64 0, .str [], .nilS, .int .i64 0, .int .i64 0, .str [], .nilS, .int .i64 0, .int .i64 0, .str [], .nilS, .int .i64 0, .int .i64 0, .str [], .nilS, .int .i64 0, .int .i64 0, .str [], .nilS, .int .i64 0, .int .i64 0, .str [], .nilS, .int .i64 0, .int .i64 0, .str [], .nilS, .int .i64 0, .int .i64 0, .str [], .nilS, .int .i64 0, .int .i64 0, .str [], .nilS, .int .i64 0, .int .i64 0, .str [], .nilS, .int .i64 0, .int .i64 0, .str [], .nilS, .int .i64 0, .int .i64 0, .str [], .nilS, .int .i64 0, .int .i64 0, .str [], .nilS, .int .i64 0, .int .i64 0, .str [], .nilS, .int .i64 0, .int .i64 0, .str [], .nilS, .int .i64 0, .int .i64 0, .str [], .nilS, .int .i64 0, .int .i64 0, .str [], .nilS, .int .i64 0, .int .i64 0, .str [], .nilS, .int .i64 0, .int .i64 0, .str [], .nilS, .int .i64 0, .int .i64 0, .str [], .nilS, .int .i64 0, .int .i64 0, .str [], .nilS, .int .i64 0, .int .i64 0, .str [], .nilS, .int .i64 0, .int .i64 0, .str [], .nilS, .int .i64 0, .int .i64 0, .str [], .nilS, .int .i64 0, .int .i64 0, .str [], .nilS, .int .i64 0, .int .i64 0, .str [], .nilS, .int .i64 0, .int .i64 0, .str [], .nilS, .int .i64 0, .int .i64 0, .str [], .nilS, .int .i64 0, .int .i64 0, .str [], .nilS, .int .i64 0, .int .i64 0, .str [], .nilS, .int .i64 0, .int .i64 0, .str [], .nilS, .int .i64 0, .int .i64 0, .str [], .nilS, .int .i64 0, .int .i64 0, .str [], .nilS, .int .i64 0, .int .i64 0, .str [], .nilS, .int .i64 0, .int .i64 0, .str [], .nilS, .int .i64 0, .int .i64 0, .str [], .nilS, .int .i64 0, .int .i64 0, .str [], .nilS, .int .i64 0, .int .i64 0, .str [], .nilS, .int .i64 0, .int .i64 0, .str [], .nilS, .int .i64 0, .int .i64 0, .str [], .nilS, .int .i64 0, .int .i64 0, .str [], .nilS, .int .i64 0, .int .i64 0, .str [], .nilS, .int .i64 0, .int .i64 0, .str [], .nilS, .int .i64 0, .int .i64 0, .str [], .nilS, .int .i64 0, .int .i64 0, .str [], .nilS, .int .i64 0, .int .i64 0, .str [], .nilS, .int .i64 0, .int .i64 0, .str [], .nilS, .int .i64 0, .int .i64 0, .str [], .nilS, .int .i64 0, .int .i64 0, .str [], .nilS, .int .i64 0, .int .i64 0, .str [], .nilS, .int .i64 0, .int .i64 0, .str [], .nilS, .int .i64 0, .int .i64 0, .str [], .nilS, .int .i64 0, .int .i64 0, .str [], .nilS, .int .i64 0, .int .i64 0, .str [], .nilS, .int .i64 0, .int .i64 0, .str [], .nilS, .int .i64 0, .int .i64 0, .str [], .nilS, .int .i64 0, .int .i64 0, .str [], .nilS, .int .i64 0, .int .i64 0, .str [], .nilS, .int .i64 0, .int .i64 0, .str [], .nilS, .int .i64 0, .int .i64 0, .str [], .nilS, .int .i64 0, .int .i64 0, .str [], .nilS, .int .i64 0, .int .i64 0, .str [], .nilS, .int .i64 0, .int .i64 0, .str [], .nilS, .int .i64 0, .int .i64 0, .str [], .nilS, .int .i64 0, .int .i64 0, .str [], .nilS, .int .i64 0, .int .i64 0, .str [], .nilS]⟩ .leaf .leaf) .leaf) (.node 222 ⟨.func, 1, 8, [.nilF]⟩ .leaf .leaf)) (.node 225 ⟨.func, 1, 8, [.nilF]⟩ (.node 224 ⟨.func, 1, 8, [.nilF]⟩ .leaf .leaf) (.node 226 ⟨.func, 1, 8, [.nilF]⟩ .leaf .leaf))) (.node 231 ⟨.func, 1, 8, [.nilF]⟩ (.node 229 ⟨.array 2 22, 2, 48, [.nilS, .nilS]⟩ (.node 228 ⟨.func, 1, 8, [.nilF]⟩ .leaf .leaf) (.node 230 ⟨.func, 1, 8, [.nilF]⟩ .leaf .leaf)) (.node 233 ⟨.func, 1, 8, [.nilF]⟩ (.node 232 ⟨.func, 1, 8, [.nilF]⟩ .leaf .leaf) (.node 234 ⟨.map 3 4, 1, 8, [.nilM]⟩ .leaf .leaf)))) (.node 244 ⟨.func, 1, 8, [.nilF]⟩ (.node 239 ⟨.int .i64, 1, 8, [.int .i64 0]⟩ (.node 237 ⟨.func, 1, 8, [.nilF]⟩ (.node 236 ⟨.func, 1, 8, [.nilF]⟩ .leaf .leaf) (.node 238 ⟨.func, 1, 8, [.nilF]⟩ .leaf .leaf)) (.node 242 ⟨.func, 1, 8, [.nilF]⟩ (.node 241 ⟨.func, 1, 8, [.nilF]⟩ .leaf .leaf) (.node 243 ⟨.func, 1, 8, [.nilF]⟩ .leaf .leaf))) (.node 248 ⟨.func, 1, 8, [.nilF]⟩ (.node 246 ⟨.int .u32, 1, 4, [.int .u32 0]⟩ (.node 245 ⟨.func, 1, 8, [.nilF]⟩ .leaf .leaf) (.node 247 ⟨.func, 1, 8, [.nilF]⟩ .leaf .leaf)) (.node 250 ⟨.ptr 215, 1, 8, [.nilP]⟩ (.node 249 ⟨.func, 1, 8, [.nilF]⟩ .leaf .leaf) (.node 251 ⟨.func, 1, 8, [.nilF]⟩ .leaf .leaf))))) (.node 269 ⟨.func, 1, 8, [.nilF]⟩ (.node 260 ⟨.func, 1, 8, [.nilF]⟩ (.node 256 ⟨.func, 1, 8, [.nilF]⟩ (.node 254 ⟨.func, 1, 8, [.nilF]⟩ (.node 253 ⟨.func, 1, 8, [.nilF]⟩ .leaf .leaf) (.node 255 ⟨.func, 1, 8, [.nilF]⟩ .leaf .leaf)) (.node 258 ⟨.int .u64, 1, 8, [.int .u64 0]⟩ (.node 257 ⟨.func, 1, 8, [.nilF]⟩ .leaf .leaf) (.node 259 ⟨.func, 1, 8, [.nilF]⟩ .leaf .leaf))) (.node 264 ⟨.func, 1, 8, [.nilF]⟩ (.node 262 ⟨.ptr 3, 1, 8, [.nilP]⟩ (.node 261 ⟨.func, 1, 8, [.nilF]⟩ .leaf .leaf) (.node 263 ⟨.func, 1, 8, [.nilF]⟩ .leaf .leaf)) (.node 267 ⟨.func, 1, 8, [.nilF]⟩ (.node 265 ⟨.func, 1, 8, [.nilF]⟩ .leaf .leaf) (.node 268 ⟨.func, 1, 8, [.nilF]⟩ .leaf .leaf)))) (.node 280 ⟨.int .u8, 1, 1, [.int .u8 0]⟩ (.node 274 ⟨.struct [(0, 17), (1, 17), (2, 17), (3, 9)], 4, 40, [.nilP, .nilP, .nilP, .str []]⟩ (.node 272 ⟨.func, 1, 8, [.nilF]⟩ (.node 270 ⟨.ptr 258, 1, 8, [.nilP]⟩ .leaf .leaf) (.node 273 ⟨.func, 1, 8, [.nilF]⟩ .leaf .leaf)) (.node 277 ⟨.struct [(0, 276)], 0, 0, []⟩ (.node 276 ⟨.array 0 16, 0, 0, []⟩ .leaf .leaf) (.node 279 ⟨.func, 1, 8, [.nilF]⟩ .leaf .leaf))) (.node 284 ⟨.int .i32, 1, 4, [.int .i32 0]⟩ (.node 282 ⟨.func, 1, 8, [.nilF]⟩ (.node 281 ⟨.int .u8, 1, 1, [.int .u8 0]⟩ .leaf .leaf) (.node 283 ⟨.ptr 5, 1, 8, [.nilP]⟩ .leaf .leaf)) (.node 286 ⟨.struct [(0, 12), (1, 12), (2, 246), (3, 280), (4, 5), (5, 5), (6, 281), (7, 282), (8, 283), (9, 284), (10, 285)], 11, 48, zr0⟩ (.node 285 ⟨.int .i32, 1, 4, [.int .i32 0]⟩ .leaf .leaf) (.node 287 ⟨.struct [(0, 12), (1, 12), (2, 246), (3, 280), (4, 5), (5, 5), (6, 281), (7, 282), (8, 283), (9, 284), (10, 285)], 11, 48, zr0⟩ .leaf .leaf)))))))
def modeTab : BT CMode := .node 152 (.scal) (.node 76 (.pfrz) (.node 36 (.scal) (.node 22 (.scal) (.node 14 (.scal) (.node 6 (.scal) (.node 4 (.scal) (.node 3 (.scal) .leaf .leaf) (.node 5 (.scal) .leaf .leaf)) (.node 11 (.scal) (.node 10 (.scal) .leaf .leaf) (.node 13 (.scal) .leaf .leaf))) (.node 18 (.pfrz) (.node 16 (.pfrz) (.node 15 (.pfrz) .leaf .leaf) (.node 17 (.pfrz) .leaf .leaf)) (.node 21 (.scal) (.node 19 (.scal) .leaf .leaf) .leaf))) (.node 29 (.pfrz) (.node 26 (.scal) (.node 24 (.pfrz) (.node 23 (.pown) .leaf .leaf) (.node 25 (.pfrz) .leaf .leaf)) (.node 28 (.pfrz) (.node 27 (.scal) .leaf .leaf) .leaf)) (.node 33 (.pfrz) (.node 31 (.scal) (.node 30 (.scal) .leaf .leaf) (.node 32 (.scal) .leaf .leaf)) (.node 35 (.scal) (.node 34 (.pfrz) .leaf .leaf) .leaf)))) (.node 62 (.pfrz) (.node 54 (.pfrz) (.node 41 (.scal) (.node 38 (.scal) (.node 37 (.scal) .leaf .leaf) (.node 39 (.scal) .leaf .leaf)) (.node 53 (.slf) (.node 47 (.pown) .leaf .leaf) .leaf)) (.node 59 (.scal) (.node 56 (.pfrz) (.node 55 (.scal) .leaf .leaf) (.node 58 (.scal) .leaf .leaf)) (.node 61 (.pfrz) (.node 60 (.scal) .leaf .leaf) .leaf))) (.node 69 (.scal) (.node 66 (.scal) (.node 64 (.scal) (.node 63 (.pfrz) .leaf .leaf) (.node 65 (.scal) .leaf .leaf)) (.node 68 (.pfrz) (.node 67 (.scal) .leaf .leaf) .leaf)) (.node 73 (.scal) (.node 71 (.pfrz) (.node 70 (.inpf) .leaf .leaf) (.node 72 (.scal) .leaf .leaf)) (.node 75 (.pfrz) (.node 74 (.pfrz) .leaf .leaf) .leaf))))) (.node 104 (.pfrz) (.node 90 (.scal) (.node 83 (.scal) (.node 80 (.pfrz) (.node 78 (.scal) (.node 77 (.scal) .leaf .leaf) (.node 79 (.pfrz) .leaf .leaf)) (.node 82 (.pfrz) (.node 81 (.pfrz) .leaf .leaf) .leaf)) (.node 87 (.pfrz) (.node 85 (.pfrz) (.node 84 (.pfrz) .leaf .leaf) (.node 86 (.scal) .leaf .leaf)) (.node 89 (.pfrz) (.node 88 (.scal) .leaf .leaf) .leaf))) (.node 97 (.pfrz) (.node 94 (.scal) (.node 92 (.inpf) (.node 91 (.scal) .leaf .leaf) (.node 93 (.scal) .leaf .leaf)) (.node 96 (.pfrz) (.node 95 (.scal) .leaf .leaf) .leaf)) (.node 101 (.pfrz) (.node 99 (.pown) (.node 98 (.scal) .leaf .leaf) (.node 100 (.pfrz) .leaf .leaf)) (.node 103 (.pown) (.node 102 (.scal) .leaf .leaf) .leaf)))) (.node 136 (.scal) (.node 123 (.scal) (.node 120 (.scal) (.node 106 (.scal) (.node 105 (.pfrz) .leaf .leaf) (.node 110 (.pfrz) .leaf .leaf)) (.node 122 (.pfrz) (.node 121 (.pfrz) .leaf .leaf) .leaf)) (.node 132 (.scal) (.node 126 (.pown) (.node 124 (.scal) .leaf .leaf) (.node 130 (.scal) .leaf .leaf)) (.node 135 (.inpl) (.node 134 (.scal) .leaf .leaf) .leaf))) (.node 145 (.scal) (.node 142 (.scal) (.node 140 (.pfrz) (.node 137 (.pfrz) .leaf .leaf) (.node 141 (.pfrz) .leaf .leaf)) (.node 144 (.scal) (.node 143 (.scal) .leaf .leaf) .leaf)) (.node 149 (.scal) (.node 147 (.scal) (.node 146 (.scal) .leaf .leaf) (.node 148 (.scal) .leaf .leaf)) (.node 151 (.scal) (.node 150 (.scal) .leaf .leaf) .leaf)))))) (.node 233 (.inpf) (.node 182 (.pfrz) (.node 167 (.pfrz) (.node 160 (.scal) (.node 156 (.inpf) (.node 154 (.pfrz) (.node 153 (.scal) .leaf .leaf) (.node 155 (.inpf) .leaf .leaf)) (.node 158 (.inpl) (.node 157 (.inpf) .leaf .leaf) (.node 159 (.slf) .leaf .leaf))) (.node 164 (.pfrz) (.node 162 (.scal) (.node 161 (.scal) .leaf .leaf) (.node 163 (.pfrz) .leaf .leaf)) (.node 166 (.pfrz) (.node 165 (.pfrz) .leaf .leaf) .leaf))) (.node 175 (.scal) (.node 172 (.inpf) (.node 170 (.scal) (.node 168 (.scal) .leaf .leaf) (.node 171 (.scal) .leaf .leaf)) (.node 174 (.pfrz) (.node 173 (.inpf) .leaf .leaf) .leaf)) (.node 179 (.pfrz) (.node 177 (.pfrz) (.node 176 (.scal) .leaf .leaf) (.node 178 (.pfrz) .leaf .leaf)) (.node 181 (.pfrz) (.node 180 (.pfrz) .leaf .leaf) .leaf)))) (.node 218 (.scal) (.node 210 (.scal) (.node 187 (.pfrz) (.node 184 (.pfrz) (.node 183 (.scal) .leaf .leaf) (.node 185 (.pfrz) .leaf .leaf)) (.node 208 (.scal) (.node 200 (.pown) .leaf .leaf) .leaf)) (.node 214 (.scal) (.node 212 (.scal) (.node 211 (.inpl) .leaf .leaf) (.node 213 (.scal) .leaf .leaf)) (.node 217 (.scal) (.node 215 (.scal) .leaf .leaf) .leaf))) (.node 225 (.scal) (.node 222 (.scal) (.node 220 (.scal) (.node 219 (.scal) .leaf .leaf) (.node 221 (.scal) .leaf .leaf)) (.node 224 (.scal) (.node 223 (.scal) .leaf .leaf) .leaf)) (.node 229 (.scal) (.node 227 (.scal) (.node 226 (.scal) .leaf .leaf) (.node 228 (.scal) .leaf .leaf)) (.node 232 (.scal) (.node 230 (.scal) .leaf .leaf) .leaf))))) (.node 276 (.scal) (.node 248 (.scal) (.node 241 (.inpl) (.node 237 (.scal) (.node 235 (.scal) (.node 234 (.scal) .leaf .leaf) (.node 236 (.pfrz) .leaf .leaf)) (.node 240 (.inpf) (.node 239 (.pfrz) .leaf .leaf) .leaf)) (.node 245 (.pfrz) (.node 243 (.inpf) (.node 242 (.inpf) .leaf .leaf) (.node 244 (.scal) .leaf .leaf)) (.node 247 (.pfrz) (.node 246 (.scal) .leaf .leaf) .leaf))) (.node 255 (.scal) (.node 252 (.pfrz) (.node 250 (.scal) (.node 249 (.scal) .leaf .leaf) (.node 251 (.pfrz) .leaf .leaf)) (.node 254 (.pfrz) (.node 253 (.scal) .leaf .leaf) .leaf)) (.node 260 (.pfrz) (.node 258 (.scal) (.node 256 (.pfrz) .leaf .leaf) (.node 259 (.pfrz) .leaf .leaf)) (.node 275 (.inpl) (.node 271 (.scal) .leaf .leaf) .leaf)))) (.node 298 (.scal) (.node 290 (.scal) (.node 287 (.scal) (.node 285 (.scal) (.node 277 (.inpl) .leaf .leaf) (.node 286 (.scal) .leaf .leaf)) (.node 289 (.scal) (.node 288 (.pfrz) .leaf .leaf) .leaf)) (.node 295 (.scal) (.node 292 (.pfrz) (.node 291 (.inpl) .leaf .leaf) (.node 294 (.inpf) .leaf .leaf)) (.node 297 (.pfrz) (.node 296 (.pfrz) .leaf .leaf) .leaf))) (.node 310 (.pfrz) (.node 302 (.inpl) (.node 300 (.pfrz) (.node 299 (.pfrz) .leaf .leaf) (.node 301 (.inpl) .leaf .leaf)) (.node 309 (.pfrz) (.node 308 (.scal) .leaf .leaf) .leaf)) (.node 315 (.pfrz) (.node 313 (.inpl) (.node 312 (.scal) .leaf .leaf) (.node 314 (.inpf) .leaf .leaf)) (.node 318 (.inpl) (.node 316 (.inpl) .leaf .leaf) .leaf))))))
def frzTab : BT (BT (List Nat)) := .node 82 (.node 2 ([3, 9]) .leaf .leaf) (.node 56 (.node 25 ([3]) (.node 20 ([9]) .leaf .leaf) .leaf) (.node 32 (.node 3 ([8]) (.node 2 ([4]) .leaf .leaf) .leaf) (.node 22 (.node 1 ([3, 10, 23]) .leaf .leaf) (.node 11 (.node 1 ([5]) .leaf .leaf) .leaf .leaf) .leaf) (.node 54 (.node 8 ([2]) (.node 6 ([12]) .leaf .leaf) .leaf) (.node 46 (.node 6 ([4]) .leaf .leaf) .leaf .leaf) .leaf)) (.node 61 (.node 5 ([15]) (.node 1 ([5]) .leaf .leaf) .leaf) (.node 59 (.node 4 ([3, 6, 8]) (.node 2 ([3, 5]) .leaf .leaf) (.node 5 ([46]) .leaf .leaf)) (.node 57 (.node 19 ([4]) .leaf .leaf) .leaf .leaf) .leaf) (.node 79 (.node 1 ([5]) .leaf .leaf) (.node 75 (.node 12 ([1]) .leaf .leaf) .leaf .leaf) .leaf))) (.node 140 (.node 6 ([1]) (.node 5 ([8, 10]) .leaf .leaf) .leaf) (.node 113 (.node 1 ([3, 7, 9, 11]) .leaf .leaf) (.node 101 (.node 1 ([3, 8, 12]) .leaf .leaf) (.node 84 (.node 5 ([6]) .leaf .leaf) .leaf .leaf) .leaf) (.node 122 (.node 3 ([3]) .leaf .leaf) (.node 115 (.node 1 ([1]) .leaf .leaf) .leaf .leaf) .leaf)) (.node 184 (.node 1 ([6, 8]) .leaf .leaf) (.node 165 (.node 5 ([6]) .leaf .leaf) (.node 156 (.node 7 ([2]) .leaf .leaf) .leaf .leaf) .leaf) (.node 267 (.node 5 ([6]) .leaf .leaf) (.node 189 (.node 21 ([3]) .leaf .leaf) .leaf .leaf) .leaf)))
noncomputable def look2 {α : Type} (a b : Nat) (t : BT (BT α)) : Option α := match t.look a with | some u => u.look b | none => none
noncomputable def frzLook (f r k : Nat) : Bool := match look2 f r frzTab with | some l => hasId k l | none => false

def maskTab : BT (BT (List Tmp × List Tmp)) := .node 156 (.node 3 ([2, 3, 10, 11, 12], [2, 3]) .leaf .leaf) (.node 68 (.node 4 ([1, 4, 5, 9, 10, 11], [1, 2, 3, 4]) .leaf .leaf) (.node 40 (.node 2 ([0, 3], [2]) .leaf .leaf) (.node 24 (.node 4 ([0, 1, 2, 6, 24, 25, 26], [0, 1, 2, 6, 7]) .leaf .leaf) (.node 14 (.node 7 ([0, 3, 6], [0, 3, 4]) (.node 2 ([0, 3, 5], [0, 3, 4]) .leaf .leaf) .leaf) (.node 9 (.node 18 ([3, 4, 6, 12, 13], [3, 6, 12]) .leaf .leaf) (.node 7 (.node 4 ([0, 2, 4, 7], [0, 2, 4, 6]) .leaf .leaf) (.node 6 (.node 9 ([1, 3, 4, 8], [1, 3]) .leaf .leaf) .leaf .leaf) .leaf) (.node 10 (.node 13 ([2, 5, 6, 11], [2, 5]) (.node 9 ([2, 5, 6, 10], [2, 5, 6]) .leaf .leaf) (.node 16 ([2, 5, 6, 11, 12], [2, 5, 6, 11]) .leaf .leaf)) .leaf .leaf)) (.node 20 (.node 2 ([1, 2], []) .leaf .leaf) (.node 16 (.node 3 ([1, 2, 3, 4], [2, 3]) .leaf .leaf) .leaf .leaf) (.node 23 (.node 3 ([0, 3, 4], [3]) .leaf .leaf) .leaf .leaf))) (.node 31 (.node 6 ([2, 4, 9, 11], [6, 7]) .leaf .leaf) (.node 27 (.node 2 ([0, 3], [2]) .leaf .leaf) (.node 26 (.node 4 ([0, 1, 5], [4]) .leaf .leaf) (.node 25 (.node 4 ([0, 1, 2, 6, 8], [0, 1, 2, 6, 7]) .leaf .leaf) .leaf .leaf) .leaf) (.node 29 (.node 6 ([2, 4, 6, 10, 12], [6, 7, 8]) .leaf .leaf) .leaf .leaf)) (.node 34 (.node 6 ([5, 7], [5]) .leaf .leaf) (.node 33 (.node 5 ([4, 16, 17, 18], [4]) .leaf .leaf) .leaf .leaf) (.node 35 (.node 4 ([0, 1, 5], [4]) .leaf .leaf) .leaf .leaf)))) (.node 54 (.node 4 ([2, 4, 5, 11, 12, 13], [2, 4, 5]) .leaf .leaf) (.node 47 (.node 4 ([0, 3, 4], [0, 3]) .leaf .leaf) (.node 44 (.node 7 ([0, 6, 10, 11, 12], [6, 7, 8, 9, 11]) .leaf .leaf) (.node 43 (.node 6 ([0, 6, 10, 11, 12], [6, 7, 8, 9, 11]) .leaf .leaf) (.node 42 (.node 3 ([0, 3, 4], [3]) .leaf .leaf) .leaf .leaf) .leaf) (.node 45 (.node 4 ([0, 1, 5], [4]) .leaf .leaf) .leaf .leaf)) (.node 49 (.node 6 ([4, 6, 7], [6]) .leaf .leaf) (.node 48 (.node 6 ([6, 19, 20, 21], [6]) .leaf .leaf) .leaf .leaf) (.node 52 (.node 1 ([0, 2], []) .leaf .leaf) .leaf .leaf))) (.node 60 (.node 11 ([3, 5], [2]) (.node 5 ([1, 3, 4], [2, 3]) .leaf .leaf) .leaf) (.node 57 (.node 9 ([1, 4, 6, 8, 9, 10], [4, 5, 8, 9]) .leaf .leaf) (.node 56 (.node 9 ([1, 4, 8, 9, 32, 33, 34], [4, 5, 8, 9]) .leaf .leaf) (.node 55 (.node 2 ([0, 3], [2]) .leaf .leaf) .leaf .leaf) .leaf) (.node 58 (.node 4 ([2, 3, 5], [4]) .leaf .leaf) .leaf .leaf)) (.node 65 (.node 11 ([2, 3, 6], [4]) (.node 6 ([2, 3, 5], [2, 3, 4]) .leaf .leaf) .leaf) (.node 61 (.node 3 ([1, 2, 3, 4], [2, 3]) .leaf .leaf) .leaf .leaf) (.node 67 (.node 12 ([2, 3, 5], [4]) .leaf .leaf) .leaf .leaf))))) (.node 116 (.node 10 ([1, 2, 5, 8, 9], [1, 5, 8]) (.node 3 ([1, 2, 5, 7], [1, 2, 5]) .leaf .leaf) .leaf) (.node 97 (.node 7 ([2, 4, 7, 43, 44, 45], [6, 7, 8]) .leaf .leaf) (.node 84 (.node 3 ([0, 2, 3, 4], [2, 3]) .leaf .leaf) (.node 76 (.node 3 ([1, 2, 3, 4], [1, 2, 3]) .leaf .leaf) (.node 75 (.node 9 ([3, 4, 8, 9], [4, 8]) .leaf .leaf) (.node 74 (.node 3 ([0, 3, 4], [3]) .leaf .leaf) .leaf .leaf) .leaf) (.node 77 (.node 4 ([0, 1, 5], [4]) .leaf .leaf) .leaf .leaf)) (.node 91 (.node 4 ([2, 3], [2, 3]) .leaf .leaf) (.node 86 (.node 3 ([3, 6, 16, 17, 18], [4, 6]) .leaf .leaf) .leaf .leaf) (.node 93 (.node 3 ([1, 5, 6], [4]) .leaf .leaf) .leaf .leaf))) (.node 105 (.node 3 ([0, 3, 4], [3]) .leaf .leaf) (.node 103 (.node 7 ([2, 3, 4], [2, 3, 4, 5]) .leaf .leaf) (.node 100 (.node 7 ([3, 6, 10, 11, 12], [6, 7, 11]) .leaf .leaf) (.node 99 (.node 6 ([4, 6, 7], [2, 3, 6]) .leaf .leaf) .leaf .leaf) .leaf) (.node 104 (.node 3 ([3, 6, 7, 8], [3]) .leaf .leaf) .leaf .leaf)) (.node 114 (.node 11 ([0, 4, 7, 37, 38, 39], [0, 4, 7]) (.node 4 ([0, 3, 4, 20, 21, 22], [0, 3, 4]) .leaf .leaf) .leaf) (.node 106 (.node 5 ([1, 2, 5, 6], [5]) .leaf .leaf) .leaf .leaf) (.node 115 (.node 3 ([3, 8, 9], [3]) .leaf .leaf) .leaf .leaf)))) (.node 135 (.node 9 ([0, 1, 5, 6, 7], [0, 5]) (.node 4 ([0, 1, 5], [0, 4]) .leaf .leaf) .leaf) (.node 124 (.node 2 ([0, 1, 7, 8], [4]) .leaf .leaf) (.node 122 (.node 3 ([3], [3, 4]) .leaf .leaf) (.node 120 (.node 4 ([0, 1, 5], [4]) .leaf .leaf) (.node 117 (.node 3 ([0, 3, 4], [3]) .leaf .leaf) .leaf .leaf) .leaf) (.node 123 (.node 5 ([2], [2]) .leaf .leaf) .leaf .leaf)) (.node 128 (.node 5 ([0, 1, 5, 6], [0, 5]) .leaf .leaf) (.node 127 (.node 7 ([3, 5, 10, 11, 12, 16, 17, 18], [3, 5, 10, 11, 12]) (.node 4 ([3, 10, 11, 12], [3]) .leaf .leaf) .leaf) .leaf .leaf) (.node 134 (.node 1 ([2, 3], [4]) .leaf .leaf) .leaf .leaf))) (.node 140 (.node 3 ([0, 2, 3, 4], [2, 3]) .leaf .leaf) (.node 138 (.node 7 ([0, 3, 4, 5, 6], [0, 3, 4, 5]) (.node 3 ([0, 3, 4], [3]) .leaf .leaf) (.node 14 ([0, 3, 4, 8], [0, 3, 4, 8]) .leaf .leaf)) (.node 137 (.node 12 ([4, 5, 6, 7], [4, 6]) .leaf .leaf) (.node 136 (.node 9 ([5, 6, 70, 71], [5]) (.node 2 ([5], [4]) .leaf .leaf) .leaf) .leaf .leaf) .leaf) (.node 139 (.node 7 ([0, 1, 5, 6, 7, 8], [0, 1, 5, 6, 7]) (.node 3 ([0, 1, 5, 6], [5]) .leaf .leaf) (.node 11 ([0, 1, 5, 6, 7, 9], [0, 1, 5, 6, 7, 9]) .leaf .leaf)) .leaf .leaf)) (.node 147 (.node 2 ([0, 3], [2]) .leaf .leaf) (.node 146 (.node 4 ([2, 3, 5], [4]) .leaf .leaf) .leaf .leaf) (.node 150 (.node 2 ([0, 1, 2, 11, 12, 13], [0, 1, 6]) .leaf .leaf) .leaf .leaf)))))) (.node 246 (.node 2 ([1, 4], [1, 4]) .leaf .leaf) (.node 199 (.node 1 ([0, 1, 6, 7], []) .leaf .leaf) (.node 176 (.node 6 ([1, 3, 4], [3]) .leaf .leaf) (.node 165 (.node 3 ([0, 2, 3, 4], [2, 3]) .leaf .leaf) (.node 160 (.node 2 ([0, 3], [2]) .leaf .leaf) (.node 159 (.node 6 ([1, 2, 3, 4, 18, 19, 20], [2, 3, 4]) .leaf .leaf) (.node 157 (.node 3 ([0, 5, 8, 9, 10], [4, 5]) .leaf .leaf) .leaf .leaf) .leaf) (.node 162 (.node 5 ([1, 4, 5], [2, 3, 4]) .leaf .leaf) .leaf .leaf)) (.node 168 (.node 2 ([0, 1, 7, 8], [4]) .leaf .leaf) (.node 166 (.node 3 ([0, 3, 6, 7], [4, 5, 6]) .leaf .leaf) .leaf .leaf) (.node 175 (.node 4 ([1, 3], [2]) .leaf .leaf) .leaf .leaf))) (.node 188 (.node 15 ([2], []) .leaf .leaf) (.node 183 (.node 2 ([0, 3, 5], [3, 4]) .leaf .leaf) (.node 180 (.node 2 ([1, 4], [1, 4]) .leaf .leaf) (.node 179 (.node 7 ([6, 10, 11, 38, 39, 40], [6, 7, 11]) .leaf .leaf) .leaf .leaf) .leaf) (.node 187 (.node 14 ([2, 4, 5, 73, 74, 77, 78, 79], [2, 3, 4, 5, 73, 74]) (.node 11 ([2, 4, 5, 73, 74], [2, 3, 4]) .leaf .leaf) .leaf) .leaf .leaf)) (.node 192 (.node 10 ([0, 5, 7], []) .leaf .leaf) (.node 189 (.node 15 ([0, 7, 48], [0, 7]) .leaf .leaf) .leaf .leaf) (.node 193 (.node 11 ([0, 5, 6], [0, 5]) .leaf .leaf) .leaf .leaf)))) (.node 223 (.node 6 ([2, 3, 5], [4]) .leaf .leaf) (.node 210 (.node 5 ([4, 32, 33, 34], [2, 3, 4]) .leaf .leaf) (.node 203 (.node 1 ([0, 6, 7, 8], []) .leaf .leaf) (.node 202 (.node 2 ([0, 1, 5], [0]) .leaf .leaf) (.node 201 (.node 14 ([1, 2, 8, 9], [1, 8]) .leaf .leaf) .leaf .leaf) .leaf) (.node 205 (.node 3 ([0, 1, 5, 6], [5]) .leaf .leaf) .leaf .leaf)) (.node 216 (.node 2 ([0, 1, 2, 3, 4, 10, 11], []) .leaf .leaf) (.node 214 (.node 2 ([0, 1, 7, 8], [4]) .leaf .leaf) .leaf .leaf) (.node 219 (.node 3 ([3, 6, 7, 8], [2, 3]) .leaf .leaf) .leaf .leaf))) (.node 235 (.node 2 ([0, 1, 5], [4]) .leaf .leaf) (.node 231 (.node 4 ([3, 4, 9, 10, 11], [2, 3]) .leaf .leaf) (.node 229 (.node 3 ([0, 1, 5, 6], [5]) .leaf .leaf) (.node 225 (.node 4 ([0, 1, 5], [4]) .leaf .leaf) .leaf .leaf) .leaf) (.node 234 (.node 2 ([0, 1, 5], [4]) .leaf .leaf) .leaf .leaf)) (.node 238 (.node 7 ([3], [0, 3]) (.node 1 ([0, 3], []) .leaf .leaf) .leaf) (.node 236 (.node 2 ([0, 1, 4, 6], [4, 5]) .leaf .leaf) .leaf .leaf) (.node 242 (.node 4 ([7], [0, 5, 6, 7]) .leaf .leaf) .leaf .leaf))))) (.node 282 (.node 14 ([0, 1, 2, 3, 9, 10, 11], [0, 1, 2, 3, 9, 10]) (.node 5 ([0, 1, 2, 3, 9, 10], [0, 1, 2, 3, 9, 10]) (.node 3 ([0, 1, 2, 3, 9, 10], [8]) .leaf .leaf) .leaf) (.node 20 ([0, 1, 2, 3, 9, 10, 12], [0, 1, 2, 3, 9, 10]) .leaf .leaf)) (.node 272 (.node 2 ([0, 1, 5], [4]) .leaf .leaf) (.node 263 (.node 4 ([0, 1, 5, 6, 7, 8], [0, 1, 5, 6, 7]) .leaf .leaf) (.node 259 (.node 11 ([3, 7, 29], [7]) (.node 6 ([3], [3]) .leaf .leaf) .leaf) (.node 257 (.node 0 ([0, 1, 2], [1, 2]) .leaf .leaf) (.node 255 (.node 2 ([0, 1, 5], [4]) .leaf .leaf) .leaf .leaf) .leaf) (.node 260 (.node 5 ([4], [4, 5]) .leaf .leaf) .leaf .leaf)) (.node 267 (.node 3 ([0, 2, 3, 4], [2, 3]) .leaf .leaf) (.node 264 (.node 2 ([0, 1, 4, 6], [4, 5]) .leaf .leaf) .leaf .leaf) (.node 270 (.node 16 ([3, 69, 70, 71], []) .leaf .leaf) .leaf .leaf))) (.node 277 (.node 4 ([0, 1, 2, 3, 8, 9], [0, 1, 2, 3, 8]) (.node 1 ([0, 1, 2, 3, 8], []) .leaf .leaf) .leaf) (.node 275 (.node 7 ([0, 1, 2, 6], []) (.node 2 ([0, 1, 2, 6, 7, 8], [0, 1, 2, 6, 7]) .leaf .leaf) (.node 9 ([0, 1, 2, 6, 7, 8], [0, 1, 2, 6, 7]) .leaf .leaf)) (.node 274 (.node 1 ([0, 3], []) .leaf .leaf) (.node 273 (.node 1 ([0, 1, 3], []) .leaf .leaf) .leaf .leaf) .leaf) (.node 276 (.node 4 ([1, 2, 15, 16, 17], [6]) .leaf .leaf) .leaf .leaf)) (.node 279 (.node 5 ([0, 1, 8, 9, 10, 11], []) .leaf .leaf) (.node 278 (.node 8 ([0, 3, 8, 9, 12], []) (.node 4 ([0, 3, 8, 9, 10, 11], [0, 3, 8, 9, 10]) .leaf .leaf) .leaf) .leaf .leaf) (.node 281 (.node 2 ([0, 8, 9], []) .leaf .leaf) .leaf .leaf)))) (.node 303 (.node 1 ([0, 2, 3, 4, 10], []) .leaf .leaf) (.node 299 (.node 14 ([2, 3, 4, 12], [2, 6, 7]) .leaf .leaf) (.node 288 (.node 6 ([1, 7, 8], [1]) .leaf .leaf) (.node 284 (.node 13 ([0, 1, 4, 12, 13], [0, 1, 4, 12, 13]) (.node 5 ([0, 1, 4, 12, 13], [0, 1, 4, 12, 13]) (.node 3 ([0, 1, 4, 12, 13], [0, 1, 4, 12, 13]) .leaf .leaf) .leaf) (.node 15 ([0, 1, 4, 12, 13], [0, 1, 4, 12, 13]) .leaf .leaf)) (.node 283 (.node 5 ([0, 1, 4, 11, 12], [0, 1, 4, 11, 12]) (.node 3 ([0, 1, 4, 11, 12], [0, 1, 4, 11, 12]) .leaf .leaf) .leaf) .leaf .leaf) .leaf) (.node 289 (.node 5 ([3, 4], [2]) .leaf .leaf) .leaf .leaf)) (.node 301 (.node 4 ([0, 1, 2, 3, 8, 9], [0, 1, 2, 3, 8]) (.node 1 ([0, 1, 2, 3, 8], []) .leaf .leaf) .leaf) (.node 300 (.node 3 ([0, 3, 4], [3]) .leaf .leaf) .leaf .leaf) (.node 302 (.node 15 ([0, 2, 4, 14, 15], [0, 2, 14]) (.node 9 ([0, 10, 13], []) (.node 3 ([0, 1, 4, 10, 11], [0, 1, 10]) .leaf .leaf) .leaf) (.node 33 ([0, 1, 2, 3, 4, 18, 19, 20, 21, 22], [0, 1, 2, 3, 4, 18, 19, 20]) (.node 21 ([0, 14, 17], []) .leaf .leaf) .leaf)) .leaf .leaf))) (.node 314 (.node 3 ([0, 3, 5], [3]) .leaf .leaf) (.node 311 (.node 0 ([0, 1], []) .leaf .leaf) (.node 309 (.node 2 ([0, 1, 5], [0, 1, 5]) .leaf .leaf) .leaf .leaf) (.node 313 (.node 17 ([0, 4, 5, 70, 71], [6]) .leaf .leaf) .leaf .leaf)) (.node 316 (.node 2 ([0, 2, 4, 10, 11], [0, 2, 4, 10]) .leaf .leaf) (.node 315 (.node 2 ([0, 1, 5, 7], [0, 1, 5, 7]) .leaf .leaf) .leaf .leaf) (.node 318 (.node 1 ([0, 1, 2, 3, 10], []) .leaf .leaf) .leaf .leaf))))))
def cutTab : BT (BT (List Tmp)) := .node 315 (.node 6 ([0, 7, 8]) (.node 4 ([0, 1, 5, 7]) .leaf .leaf) .leaf) (.node 309 (.node 6 ([0, 1, 5]) (.node 4 ([0, 1, 5]) .leaf .leaf) .leaf) .leaf .leaf) .leaf
def liftTab : BT (BT (List (Tmp × Nat))) := .node 136 (.node 9 ([(5, 8)]) (.node 2 ([(5, 8)]) .leaf .leaf) .leaf) (.node 75 (.node 9 ([(8, 4)]) .leaf .leaf) (.node 56 (.node 9 ([(8, 4), (9, 2)]) .leaf .leaf) (.node 47 (.node 0 ([(2, 1)]) .leaf .leaf) (.node 42 (.node 3 ([(3, 7)]) .leaf .leaf) (.node 23 (.node 3 ([(3, 4)]) (.node 0 ([(2, 4)]) .leaf .leaf) .leaf) .leaf .leaf) .leaf) (.node 54 (.node 4 ([(5, 4)]) .leaf .leaf) (.node 49 (.node 6 ([(6, 7)]) .leaf .leaf) .leaf .leaf) .leaf)) (.node 68 (.node 4 ([(4, 1)]) .leaf .leaf) (.node 60 (.node 11 ([(3, 4)]) (.node 5 ([(3, 4)]) .leaf .leaf) .leaf) (.node 57 (.node 9 ([(8, 4), (9, 2)]) .leaf .leaf) .leaf .leaf) .leaf) (.node 74 (.node 3 ([(3, 1)]) .leaf .leaf) .leaf .leaf))) (.node 105 (.node 3 ([(3, 4)]) .leaf .leaf) (.node 103 (.node 7 ([(2, 6), (4, 6)]) (.node 0 ([(2, 6)]) .leaf .leaf) .leaf) (.node 99 (.node 6 ([(6, 6)]) (.node 0 ([(2, 6)]) .leaf .leaf) .leaf) (.node 76 (.node 3 ([(3, 4)]) .leaf .leaf) .leaf .leaf) .leaf) (.node 104 (.node 3 ([(3, 4)]) .leaf .leaf) .leaf .leaf)) (.node 126 (.node 0 ([(2, 4)]) .leaf .leaf) (.node 117 (.node 3 ([(3, 7)]) .leaf .leaf) (.node 116 (.node 10 ([(5, 7)]) (.node 3 ([(5, 7)]) .leaf .leaf) .leaf) .leaf .leaf) .leaf) (.node 127 (.node 7 ([(3, 2), (16, 2)]) (.node 4 ([(3, 2)]) .leaf .leaf) .leaf) .leaf .leaf)))) (.node 200 (.node 0 ([(2, 7)]) .leaf .leaf) (.node 157 (.node 3 ([(5, 4)]) .leaf .leaf) (.node 140 (.node 3 ([(3, 4)]) .leaf .leaf) (.node 139 (.node 7 ([(5, 4)]) (.node 3 ([(5, 4)]) .leaf .leaf) (.node 11 ([(5, 4)]) .leaf .leaf)) (.node 138 (.node 7 ([(3, 2)]) (.node 3 ([(3, 2)]) .leaf .leaf) (.node 14 ([(3, 2)]) .leaf .leaf)) .leaf .leaf) .leaf) (.node 156 (.node 3 ([(3, 4)]) .leaf .leaf) .leaf .leaf)) (.node 189 (.node 15 ([(7, 4)]) .leaf .leaf) (.node 180 (.node 2 ([(4, 4)]) .leaf .leaf) (.node 166 (.node 3 ([(6, 4)]) .leaf .leaf) .leaf .leaf) .leaf) (.node 193 (.node 11 ([(5, 4)]) .leaf .leaf) .leaf .leaf))) (.node 260 (.node 5 ([(4, 4)]) .leaf .leaf) (.node 238 (.node 7 ([(3, 4)]) (.node 1 ([(3, 4)]) .leaf .leaf) .leaf) (.node 205 (.node 3 ([(5, 7)]) .leaf .leaf) (.node 201 (.node 14 ([(8, 7)]) .leaf .leaf) .leaf .leaf) .leaf) (.node 259 (.node 11 ([(7, 1)]) .leaf .leaf) .leaf .leaf)) (.node 300 (.node 3 ([(3, 5)]) .leaf .leaf) (.node 274 (.node 1 ([(3, 4)]) .leaf .leaf) (.node 263 (.node 4 ([(6, 5)]) .leaf .leaf) .leaf .leaf) .leaf) (.node 314 (.node 3 ([(3, 5)]) .leaf .leaf) .leaf .leaf))))
def extLook (f : Nat) : List (Nat × (List AV → AH → Option (AV × AH))) → Option (List AV → AH → Option (AV × AH))
 | [] => none
 | p :: l => if Nat.beq p.1 f then some p.2 else extLook f l
noncomputable def extRest : List (Nat × (List AV → AH → Option (AV × AH))) := []
noncomputable def extTab : List (Nat × (List AV → AH → Option (AV × AH))) := (308, extCmp) :: extRest
theorem extRest_ok : extRest = [] := rfl
def knownTab : BT Unit := .node 160 (()) (.node 81 (()) (.node 41 (()) (.node 21 (()) (.node 11 (()) (.node 6 (()) (.node 4 (()) (.node 3 (()) (.node 2 (()) .leaf .leaf) .leaf) (.node 5 (()) .leaf .leaf)) (.node 9 (()) (.node 8 (()) (.node 7 (()) .leaf .leaf) .leaf) (.node 10 (()) .leaf .leaf))) (.node 16 (()) (.node 14 (()) (.node 13 (()) (.node 12 (()) .leaf .leaf) .leaf) (.node 15 (()) .leaf .leaf)) (.node 19 (()) (.node 18 (()) (.node 17 (()) .leaf .leaf) .leaf) (.node 20 (()) .leaf .leaf)))) (.node 31 (()) (.node 26 (()) (.node 24 (()) (.node 23 (()) (.node 22 (()) .leaf .leaf) .leaf) (.node 25 (()) .leaf .leaf)) (.node 29 (()) (.node 28 (()) (.node 27 (()) .leaf .leaf) .leaf) (.node 30 (()) .leaf .leaf))) (.node 36 (()) (.node 34 (()) (.node 33 (()) (.node 32 (()) .leaf .leaf) .leaf) (.node 35 (()) .leaf .leaf)) (.node 39 (()) (.node 38 (()) (.node 37 (()) .leaf .leaf) .leaf) (.node 40 (()) .leaf .leaf))))) (.node 61 (()) (.node 51 (()) (.node 46 (()) (.node 44 (()) (.node 43 (()) (.node 42 (()) .leaf .leaf) .leaf) (.node 45 (()) .leaf .leaf)) (.node 49 (()) (.node 48 (()) (.node 47 (()) .leaf .leaf) .leaf) (.node 50 (()) .leaf .leaf))) (.node 56 (()) (.node 54 (()) (.node 53 (()) (.node 52 (()) .leaf .leaf) .leaf) (.node 55 (()) .leaf .leaf)) (.node 59 (()) (.node 58 (()) (.node 57 (()) .leaf .leaf) .leaf) (.node 60 (()) .leaf .leaf)))) (.node 71 (()) (.node 66 (()) (.node 64 (()) (.node 63 (()) (.node 62 (()) .leaf .leaf) .leaf) (.node 65 (()) .leaf .leaf)) (.node 69 (()) (.node 68 (()) (.node 67 (()) .leaf .leaf) .leaf) (.node 70 (()) .leaf .leaf))) (.node 76 (()) (.node 74 (()) (.node 73 (()) (.node 72 (()) .leaf .leaf) .leaf) (.node 75 (()) .leaf .leaf)) (.node 79 (()) (.node 78 (()) (.node 77 (()) .leaf .leaf) .leaf) (.node 80 (()) .leaf .leaf)))))) (.node 121 (()) (.node 101 (()) (.node 91 (()) (.node 86 (()) (.node 84 (()) (.node 83 (()) (.node 82 (()) .leaf .leaf) .leaf) (.node 85 (()) .leaf .leaf)) (.node 89 (()) (.node 88 (()) (.node 87 (()) .leaf .leaf) .leaf) (.node 90 (()) .leaf .leaf))) (.node 96 (()) (.node 94 (()) (.node 93 (()) (.node 92 (()) .leaf .leaf) .leaf) (.node 95 (()) .leaf .leaf)) (.node 99 (()) (.node 98 (()) (.node 97 (()) .leaf .leaf) .leaf) (.node 100 (()) .leaf .leaf)))) (.node 111 (()) (.node 106 (()) (.node 104 (()) (.node 103 (()) (.node 102 (()) .leaf .leaf) .leaf) (.node 105 (()) .leaf .leaf)) (.node 109 (()) (.node 108 (()) (.node 107 (()) .leaf .leaf) .leaf) (.node 110 (()) .leaf .leaf))) (.node 116 (()) (.node 114 (()) (.node 113 (()) (.node 112 (()) .leaf .leaf) .leaf) (.node 115 (()) .leaf .leaf)) (.node 119 (()) (.node 118 (()) (.node 117 (()) .leaf .leaf) .leaf) (.node 120 (()) .leaf .leaf))))) (.node 141 (()) (.node 131 (()) (.node 126 (()) (.node 124 (()) (.node 123 (()) (.node 122 (()) .leaf .leaf) .leaf) (.node 125 (()) .leaf .leaf)) (.node 129 (()) (.node 128 (()) (.node 127 (()) .leaf .leaf) .leaf) (.node 130 (()) .leaf .leaf))) (.node 136 (()) (.node 134 (()) (.node 133 (()) (.node 132 (()) .leaf .leaf) .leaf) (.node 135 (()) .leaf .leaf)) (.node 139 (()) (.node 138 (()) (.node 137 (()) .leaf .leaf) .leaf) (.node 140 (()) .leaf .leaf)))) (.node 151 (()) (.node 146 (()) (.node 144 (()) (.node 143 (()) (.node 142 (()) .leaf .leaf) .leaf) (.node 145 (()) .leaf .leaf)) (.node 149 (()) (.node 148 (()) (.node 147 (()) .leaf .leaf) .leaf) (.node 150 (()) .leaf .leaf))) (.node 156 (()) (.node 154 (()) (.node 153 (()) (.node 152 (()) .leaf .leaf) .leaf) (.node 155 (()) .leaf .leaf)) (.node 158 (()) (.node 157 (()) .leaf .leaf) (.node 159 (()) .leaf .leaf))))))) (.node 239 (()) (.node 200 (()) (.node 180 (()) (.node 170 (()) (.node 165 (()) (.node 163 (()) (.node 162 (()) (.node 161 (()) .leaf .leaf) .leaf) (.node 164 (()) .leaf .leaf)) (.node 168 (()) (.node 167 (()) (.node 166 (()) .leaf .leaf) .leaf) (.node 169 (()) .leaf .leaf))) (.node 175 (()) (.node 173 (()) (.node 172 (()) (.node 171 (()) .leaf .leaf) .leaf) (.node 174 (()) .leaf .leaf)) (.node 178 (()) (.node 177 (()) (.node 176 (()) .leaf .leaf) .leaf) (.node 179 (()) .leaf .leaf)))) (.node 190 (()) (.node 185 (()) (.node 183 (()) (.node 182 (()) (.node 181 (()) .leaf .leaf) .leaf) (.node 184 (()) .leaf .leaf)) (.node 188 (()) (.node 187 (()) (.node 186 (()) .leaf .leaf) .leaf) (.node 189 (()) .leaf .leaf))) (.node 195 (()) (.node 193 (()) (.node 192 (()) (.node 191 (()) .leaf .leaf) .leaf) (.node 194 (()) .leaf .leaf)) (.node 198 (()) (.node 197 (()) (.node 196 (()) .leaf .leaf) .leaf) (.node 199 (()) .leaf .leaf))))) (.node 220 (()) (.node 210 (()) (.node 205 (()) (.node 203 (()) (.node 202 (()) (.node 201 (()) .leaf .leaf) .leaf) (.node 204 (()) .leaf .leaf)) (.node 208 (()) (.node 207 (()) (.node 206 (()) .leaf .leaf) .leaf) (.node 209 (()) .leaf .leaf))) (.node 215 (()) (.node 213 (()) (.node 212 (()) (.node 211 (()) .leaf .leaf) .leaf) (.node 214 (()) .leaf .leaf)) (.node 218 (()) (.node 217 (()) (.node 216 (()) .leaf .leaf) .leaf) (.node 219 (()) .leaf .leaf)))) (.node 230 (()) (.node 225 (()) (.node 223 (()) (.node 222 (()) (.node 221 (()) .leaf .leaf) .leaf) (.node 224 (()) .leaf .leaf)) (.node 228 (()) (.node 227 (()) (.node 226 (()) .leaf .leaf) .leaf) (.node 229 (()) .leaf .leaf))) (.node 235 (()) (.node 233 (()) (.node 232 (()) (.node 231 (()) .leaf .leaf) .leaf) (.node 234 (()) .leaf .leaf)) (.node 237 (()) (.node 236 (()) .leaf .leaf) (.node 238 (()) .leaf .leaf)))))) (.node 279 (()) (.node 259 (()) (.node 249 (()) (.node 244 (()) (.node 242 (()) (.node 241 (()) (.node 240 (()) .leaf .leaf) .leaf) (.node 243 (()) .leaf .leaf)) (.node 247 (()) (.node 246 (()) (.node 245 (()) .leaf .leaf) .leaf) (.node 248 (()) .leaf .leaf))) (.node 254 (()) (.node 252 (()) (.node 251 (()) (.node 250 (()) .leaf .leaf) .leaf) (.node 253 (()) .leaf .leaf)) (.node 257 (()) (.node 256 (()) (.node 255 (()) .leaf .leaf) .leaf) (.node 258 (()) .leaf .leaf)))) (.node 269 (()) (.node 264 (()) (.node 262 (()) (.node 261 (()) (.node 260 (()) .leaf .leaf) .leaf) (.node 263 (()) .leaf .leaf)) (.node 267 (()) (.node 266 (()) (.node 265 (()) .leaf .leaf) .leaf) (.node 268 (()) .leaf .leaf))) (.node 274 (()) (.node 272 (()) (.node 271 (()) (.node 270 (()) .leaf .leaf) .leaf) (.node 273 (()) .leaf .leaf)) (.node 277 (()) (.node 276 (()) (.node 275 (()) .leaf .leaf) .leaf) (.node 278 (()) .leaf .leaf))))) (.node 299 (()) (.node 289 (()) (.node 284 (()) (.node 282 (()) (.node 281 (()) (.node 280 (()) .leaf .leaf) .leaf) (.node 283 (()) .leaf .leaf)) (.node 287 (()) (.node 286 (()) (.node 285 (()) .leaf .leaf) .leaf) (.node 288 (()) .leaf .leaf))) (.node 294 (()) (.node 292 (()) (.node 291 (()) (.node 290 (()) .leaf .leaf) .leaf) (.node 293 (()) .leaf .leaf)) (.node 297 (()) (.node 296 (()) (.node 295 (()) .leaf .leaf) .leaf) (.node 298 (()) .leaf .leaf)))) (.node 310 (()) (.node 304 (()) (.node 302 (()) (.node 301 (()) (.node 300 (()) .leaf .leaf) .leaf) (.node 303 (()) .leaf .leaf)) (.node 307 (()) (.node 306 (()) (.node 305 (()) .leaf .leaf) .leaf) (.node 309 (()) .leaf .leaf))) (.node 315 (()) (.node 313 (()) (.node 312 (()) (.node 311 (()) .leaf .leaf) .leaf) (.node 314 (()) .leaf .leaf)) (.node 317 (()) (.node 316 (()) .leaf .leaf) (.node 318 (()) .leaf .leaf)))))))
def datTab : BT Unit := .node 56 (()) (.node 25 (()) (.node 24 (()) (.node 22 (()) .leaf .leaf) .leaf) (.node 49 (()) (.node 27 (()) .leaf .leaf) .leaf)) (.node 82 (()) (.node 77 (()) (.node 75 (()) .leaf .leaf) .leaf) (.node 97 (()) (.node 91 (()) .leaf .leaf) .leaf))
def aliTab : BT Unit := .node 77 (()) (.node 27 (()) .leaf .leaf) .leaf
def emsTab : BT Unit := .leaf
def tupTab : BT (List Nat) := .node 117 ([49, 4]) (.node 68 ([57, 31]) (.node 46 ([3, 31]) (.node 44 ([24, 4, 31]) (.node 32 ([24, 31]) .leaf .leaf) .leaf) (.node 62 ([24, 4, 3, 31]) (.node 50 ([49, 31]) .leaf .leaf) .leaf)) (.node 92 ([66, 4]) (.node 85 ([24, 4]) (.node 78 ([77, 31]) .leaf .leaf) .leaf) (.node 114 ([3, 24, 31]) .leaf .leaf))) (.node 186 ([57, 66]) (.node 178 ([56, 4]) (.node 164 ([22, 4]) (.node 159 ([3, 4]) .leaf .leaf) .leaf) (.node 180 ([25, 4]) .leaf .leaf)) (.node 266 ([213, 213]) (.node 240 ([3, 239]) (.node 219 ([4, 4]) .leaf .leaf) .leaf) (.node 271 ([3, 3]) .leaf .leaf)))
noncomputable def inlTab : List (Nat × Func) := [(169, Tryz.f169), (186, Tryz.f186), (207, Tryz.f207), (209, Tryz.f209), (231, Tryz.f231), (238, Tryz.f238), (257, Tryz.f257), (273, Tryz.f273), (274, Tryz.f274), (293, Tryz.f293), (311, Tryz.f311)]
noncomputable def fnTab : BT Func := .node 160 (Tryz.f160) (.node 81 (Tryz.f81) (.node 41 (Tryz.f41) (.node 21 (Tryz.f21) (.node 11 (Tryz.f11) (.node 6 (Tryz.f6) (.node 4 (Tryz.f4) (.node 3 (Tryz.f3) (.node 2 (Tryz.f2) .leaf .leaf) .leaf) (.node 5 (Tryz.f5) .leaf .leaf)) (.node 9 (Tryz.f9) (.node 8 (Tryz.f8) (.node 7 (Tryz.f7) .leaf .leaf) .leaf) (.node 10 (Tryz.f10) .leaf .leaf))) (.node 16 (Tryz.f16) (.node 14 (Tryz.f14) (.node 13 (Tryz.f13) (.node 12 (Tryz.f12) .leaf .leaf) .leaf) (.node 15 (Tryz.f15) .leaf .leaf)) (.node 19 (Tryz.f19) (.node 18 (Tryz.f18) (.node 17 (Tryz.f17) .leaf .leaf) .leaf) (.node 20 (Tryz.f20) .leaf .leaf)))) (.node 31 (Tryz.f31) (.node 26 (Tryz.f26) (.node 24 (Tryz.f24) (.node 23 (Tryz.f23) (.node 22 (Tryz.f22) .leaf .leaf) .leaf) (.node 25 (Tryz.f25) .leaf .leaf)) (.node 29 (Tryz.f29) (.node 28 (Tryz.f28) (.node 27 (Tryz.f27) .leaf .leaf) .leaf) (.node 30 (Tryz.f30) .leaf .leaf))) (.node 36 (Tryz.f36) (.node 34 (Tryz.f34) (.node 33 (Tryz.f33) (.node 32 (Tryz.f32) .leaf .leaf) .leaf) (.node 35 (Tryz.f35) .leaf .leaf)) (.node 39 (Tryz.f39) (.node 38 (Tryz.f38) (.node 37 (Tryz.f37) .leaf .leaf) .leaf) (.node 40 (Tryz.f40) .leaf .leaf))))) (.node 61 (Tryz.f61) (.node 51 (Tryz.f51) (.node 46 (Tryz.f46) (.node 44 (Tryz.f44) (.node 43 (Tryz.f43) (.node 42 (Tryz.f42) .leaf .leaf) .leaf) (.node 45 (Tryz.f45) .leaf .leaf)) (.node 49 (Tryz.f49) (.node 48 (Tryz.f48) (.node 47 (Tryz.f47) .leaf .leaf) .leaf) (.node 50 (Tryz.f50) .leaf .leaf))) (.node 56 (Tryz.f56) (.node 54 (Tryz.f54) (.node 53 (Tryz.f53) (.node 52 (Tryz.f52) .leaf .leaf) .leaf) (.node 55 (Tryz.f55) .leaf .leaf)) (.node 59 (Tryz.f59) (.node 58 (Tryz.f58) (.node 57 (Tryz.f57) .leaf .leaf) .leaf) (.node 60 (Tryz.f60) .leaf .leaf)))) (.node 71 (Tryz.f71) (.node 66 (Tryz.f66) (.node 64 (Tryz.f64) (.node 63 (Tryz.f63) (.node 62 (Tryz.f62) .leaf .leaf) .leaf) (.node 65 (Tryz.f65) .leaf .leaf)) (.node 69 (Tryz.f69) (.node 68 (Tryz.f68) (.node 67 (Tryz.f67) .leaf .leaf) .leaf) (.node 70 (Tryz.f70) .leaf .leaf))) (.node 76 (Tryz.f76) (.node 74 (Tryz.f74) (.node 73 (Tryz.f73) (.node 72 (Tryz.f72) .leaf .leaf) .leaf) (.node 75 (Tryz.f75) .leaf .leaf)) (.node 79 (Tryz.f79) (.node 78 (Tryz.f78) (.node 77 (Tryz.f77) .leaf .leaf) .leaf) (.node 80 (Tryz.f80) .leaf .leaf)))))) (.node 121 (Tryz.f121) (.node 101 (Tryz.f101) (.node 91 (Tryz.f91) (.node 86 (Tryz.f86) (.node 84 (Tryz.f84) (.node 83 (Tryz.f83) (.node 82 (Tryz.f82) .leaf .leaf) .leaf) (.node 85 (Tryz.f85) .leaf .leaf)) (.node 89 (Tryz.f89) (.node 88 (Tryz.f88) (.node 87 (Tryz.f87) .leaf .leaf) .leaf) (.node 90 (Tryz.f90) .leaf .leaf))) (.node 96 (Tryz.f96) (.node 94 (Tryz.f94) (.node 93 (Tryz.f93) (.node 92 (Tryz.f92) .leaf .leaf) .leaf) (.node 95 (Tryz.f95) .leaf .leaf)) (.node 99 (Tryz.f99) (.node 98 (Tryz.f98) (.node 97 (Tryz.f97) .leaf .leaf) .leaf) (.node 100 (Tryz.f100) .leaf .leaf)))) (.node 111 (Tryz.f111) (.node 106 (Tryz.f106) (.node 104 (Tryz.f104) (.node 103 (Tryz.f103) (.node 102 (Tryz.f102) .leaf .leaf) .leaf) (.node 105 (Tryz.f105) .leaf .leaf)) (.node 109 (Tryz.f109) (.node 108 (Tryz.f108) (.node 107 (Tryz.f107) .leaf .leaf) .leaf) (.node 110 (Tryz.f110) .leaf .leaf))) (.node 116 (Tryz.f116) (.node 114 (Tryz.f114) (.node 113 (Tryz.f113) (.node 112 (Tryz.f112) .leaf .leaf) .leaf) (.node 115 (Tryz.f115) .leaf .leaf)) (.node 119 (Tryz.f119) (.node 118 (Tryz.f118) (.node 117 (Tryz.f117) .leaf .leaf) .leaf) (.node 120 (Tryz.f120) .leaf .leaf))))) (.node 141 (Tryz.f141) (.node 131 (Tryz.f131) (.node 126 (Tryz.f126) (.node 124 (Tryz.f124) (.node 123 (Tryz.f123) (.node 122 (Tryz.f122) .leaf .leaf) .leaf) (.node 125 (Tryz.f125) .leaf .leaf)) (.node 129 (Tryz.f129) (.node 128 (Tryz.f128) (.node 127 (Tryz.f127) .leaf .leaf) .leaf) (.node 130 (Tryz.f130) .leaf .leaf))) (.node 136 (Tryz.f136) (.node 134 (Tryz.f134) (.node 133 (Tryz.f133) (.node 132 (Tryz.f132) .leaf .leaf) .leaf) (.node 135 (Tryz.f135) .leaf .leaf)) (.node 139 (Tryz.f139) (.node 138 (Tryz.f138) (.node 137 (Tryz.f137) .leaf .leaf) .leaf) (.node 140 (Tryz.f140) .leaf .leaf)))) (.node 151 (Tryz.f151) (.node 146 (Tryz.f146) (.node 144 (Tryz.f144) (.node 143 (Tryz.f143) (.node 142 (Tryz.f142) .leaf .leaf) .leaf) (.node 145 (Tryz.f145) .leaf .leaf)) (.node 149 (Tryz.f149) (.node 148 (Tryz.f148) (.node 147 (Tryz.f147) .leaf .leaf) .leaf) (.node 150 (Tryz.f150) .leaf .leaf))) (.node 156 (Tryz.f156) (.node 154 (Tryz.f154) (.node 153 (Tryz.f153) (.node 152 (Tryz.f152) .leaf .leaf) .leaf) (.node 155 (Tryz.f155) .leaf .leaf)) (.node 158 (Tryz.f158) (.node 157 (Tryz.f157) .leaf .leaf) (.node 159 (Tryz.f159) .leaf .leaf))))))) (.node 239 (Tryz.f239) (.node 200 (Tryz.f200) (.node 180 (Tryz.f180) (.node 170 (Tryz.f170) (.node 165 (Tryz.f165) (.node 163 (Tryz.f163) (.node 162 (Tryz.f162) (.node 161 (Tryz.f161) .leaf .leaf) .leaf) (.node 164 (Tryz.f164) .leaf .leaf)) (.node 168 (Tryz.f168) (.node 167 (Tryz.f167) (.node 166 (Tryz.f166) .leaf .leaf) .leaf) (.node 169 (Tryz.f169) .leaf .leaf))) (.node 175 (Tryz.f175) (.node 173 (Tryz.f173) (.node 172 (Tryz.f172) (.node 171 (Tryz.f171) .leaf .leaf) .leaf) (.node 174 (Tryz.f174) .leaf .leaf)) (.node 178 (Tryz.f178) (.node 177 (Tryz.f177) (.node 176 (Tryz.f176) .leaf .leaf) .leaf) (.node 179 (Tryz.f179) .leaf .leaf)))) (.node 190 (Tryz.f190) (.node 185 (Tryz.f185) (.node 183 (Tryz.f183) (.node 182 (Tryz.f182) (.node 181 (Tryz.f181) .leaf .leaf) .leaf) (.node 184 (Tryz.f184) .leaf .leaf)) (.node 188 (Tryz.f188) (.node 187 (Tryz.f187) (.node 186 (Tryz.f186) .leaf .leaf) .leaf) (.node 189 (Tryz.f189) .leaf .leaf))) (.node 195 (Tryz.f195) (.node 193 (Tryz.f193) (.node 192 (Tryz.f192) (.node 191 (Tryz.f191) .leaf .leaf) .leaf) (.node 194 (Tryz.f194) .leaf .leaf)) (.node 198 (Tryz.f198) (.node 197 (Tryz.f197) (.node 196 (Tryz.f196) .leaf .leaf) .leaf) (.node 199 (Tryz.f199) .leaf .leaf))))) (.node 220 (Tryz.f220) (.node 210 (Tryz.f210) (.node 205 (Tryz.f205) (.node 203 (Tryz.f203) (.node 202 (Tryz.f202) (.node 201 (Tryz.f201) .leaf .leaf) .leaf) (.node 204 (Tryz.f204) .leaf .leaf)) (.node 208 (Tryz.f208) (.node 207 (Tryz.f207) (.node 206 (Tryz.f206) .leaf .leaf) .leaf) (.node 209 (Tryz.f209) .leaf .leaf))) (.node 215 (Tryz.f215) (.node 213 (Tryz.f213) (.node 212 (Tryz.f212) (.node 211 (Tryz.f211) .leaf .leaf) .leaf) (.node 214 (Tryz.f214) .leaf .leaf)) (.node 218 (Tryz.f218) (.node 217 (Tryz.f217) (.node 216 (Tryz.f216) .leaf .leaf) .leaf) (.node 219 (Tryz.f219) .leaf .leaf)))) (.node 230 (Tryz.f230) (.node 225 (Tryz.f225) (.node 223 (Tryz.f223) (.node 222 (Tryz.f222) (.node 221 (Tryz.f221) .leaf .leaf) .leaf) (.node 224 (Tryz.f224) .leaf .leaf)) (.node 228 (Tryz.f228) (.node 227 (Tryz.f227) (.node 226 (Tryz.f226) .leaf .leaf) .leaf) (.node 229 (Tryz.f229) .leaf .leaf))) (.node 235 (Tryz.f235) (.node 233 (Tryz.f233) (.node 232 (Tryz.f232) (.node 231 (Tryz.f231) .leaf .leaf) .leaf) (.node 234 (Tryz.f234) .leaf .leaf)) (.node 237 (Tryz.f237) (.node 236 (Tryz.f236) .leaf .leaf) (.node 238 (Tryz.f238) .leaf .leaf)))))) (.node 279 (Tryz.f279) (.node 259 (Tryz.f259) (.node 249 (Tryz.f249) (.node 244 (Tryz.f244) (.node 242 (Tryz.f242) (.node 241 (Tryz.f241) (.node 240 (Tryz.f240) .leaf .leaf) .leaf) (.node 243 (Tryz.f243) .leaf .leaf)) (.node 247 (Tryz.f247) (.node 246 (Tryz.f246) (.node 245 (Tryz.f245) .leaf .leaf) .leaf) (.node 248 (Tryz.f248) .leaf .leaf))) (.node 254 (Tryz.f254) (.node 252 (Tryz.f252) (.node 251 (Tryz.f251) (.node 250 (Tryz.f250) .leaf .leaf) .leaf) (.node 253 (Tryz.f253) .leaf .leaf)) (.node 257 (Tryz.f257) (.node 256 (Tryz.f256) (.node 255 (Tryz.f255) .leaf .leaf) .leaf) (.node 258 (Tryz.f258) .leaf .leaf)))) (.node 269 (Tryz.f269) (.node 264 (Tryz.f264) (.node 262 (Tryz.f262) (.node 261 (Tryz.f261) (.node 260 (Tryz.f260) .leaf .leaf) .leaf) (.node 263 (Tryz.f263) .leaf .leaf)) (.node 267 (Tryz.f267) (.node 266 (Tryz.f266) (.node 265 (Tryz.f265) .leaf .leaf) .leaf) (.node 268 (Tryz.f268) .leaf .leaf))) (.node 274 (Tryz.f274) (.node 272 (Tryz.f272) (.node 271 (Tryz.f271) (.node 270 (Tryz.f270) .leaf .leaf) .leaf) (.node 273 (Tryz.f273) .leaf .leaf)) (.node 277 (Tryz.f277) (.node 276 (Tryz.f276) (.node 275 (Tryz.f275) .leaf .leaf) .leaf) (.node 278 (Tryz.f278) .leaf .leaf))))) (.node 299 (Tryz.f299) (.node 289 (Tryz.f289) (.node 284 (Tryz.f284) (.node 282 (Tryz.f282) (.node 281 (Tryz.f281) (.node 280 (Tryz.f280) .leaf .leaf) .leaf) (.node 283 (Tryz.f283) .leaf .leaf)) (.node 287 (Tryz.f287) (.node 286 (Tryz.f286) (.node 285 (Tryz.f285) .leaf .leaf) .leaf) (.node 288 (Tryz.f288) .leaf .leaf))) (.node 294 (Tryz.f294) (.node 292 (Tryz.f292) (.node 291 (Tryz.f291) (.node 290 (Tryz.f290) .leaf .leaf) .leaf) (.node 293 (Tryz.f293) .leaf .leaf)) (.node 297 (Tryz.f297) (.node 296 (Tryz.f296) (.node 295 (Tryz.f295) .leaf .leaf) .leaf) (.node 298 (Tryz.f298) .leaf .leaf)))) (.node 310 (Tryz.f310) (.node 304 (Tryz.f304) (.node 302 (Tryz.f302) (.node 301 (Tryz.f301) (.node 300 (Tryz.f300) .leaf .leaf) .leaf) (.node 303 (Tryz.f303) .leaf .leaf)) (.node 307 (Tryz.f307) (.node 306 (Tryz.f306) (.node 305 (Tryz.f305) .leaf .leaf) .leaf) (.node 309 (Tryz.f309) .leaf .leaf))) (.node 315 (Tryz.f315) (.node 313 (Tryz.f313) (.node 312 (Tryz.f312) (.node 311 (Tryz.f311) .leaf .leaf) .leaf) (.node 314 (Tryz.f314) .leaf .leaf)) (.node 317 (Tryz.f317) (.node 316 (Tryz.f316) .leaf .leaf) (.node 318 (Tryz.f318) .leaf .leaf)))))))
theorem fn_ok : fnTab.All fun f fn => Tryz.prog.funcs[f]? = some fn := (BT.all_node Tryz.func160 (BT.all_node Tryz.func81 (BT.all_node Tryz.func41 (BT.all_node Tryz.func21 (BT.all_node Tryz.func11 (BT.all_node Tryz.func6 (BT.all_node Tryz.func4 (BT.all_node Tryz.func3 (BT.all_node Tryz.func2 trivial trivial) trivial) (BT.all_node Tryz.func5 trivial trivial)) (BT.all_node Tryz.func9 (BT.all_node Tryz.func8 (BT.all_node Tryz.func7 trivial trivial) trivial) (BT.all_node Tryz.func10 trivial trivial))) (BT.all_node Tryz.func16 (BT.all_node Tryz.func14 (BT.all_node Tryz.func13 (BT.all_node Tryz.func12 trivial trivial) trivial) (BT.all_node Tryz.func15 trivial trivial)) (BT.all_node Tryz.func19 (BT.all_node Tryz.func18 (BT.all_node Tryz.func17 trivial trivial) trivial) (BT.all_node Tryz.func20 trivial trivial)))) (BT.all_node Tryz.func31 (BT.all_node Tryz.func26 (BT.all_node Tryz.func24 (BT.all_node Tryz.func23 (BT.all_node Tryz.func22 trivial trivial) trivial) (BT.all_node Tryz.func25 trivial trivial)) (BT.all_node Tryz.func29 (BT.all_node Tryz.func28 (BT.all_node Tryz.func27 trivial trivial) trivial) (BT.all_node Tryz.func30 trivial trivial))) (BT.all_node Tryz.func36 (BT.all_node Tryz.func34 (BT.all_node Tryz.func33 (BT.all_node Tryz.func32 trivial trivial) trivial) (BT.all_node Tryz.func35 trivial trivial)) (BT.all_node Tryz.func39 (BT.all_node Tryz.func38 (BT.all_node Tryz.func37 trivial trivial) trivial) (BT.all_node Tryz.func40 trivial trivial))))) (BT.all_node Tryz.func61 (BT.all_node Tryz.func51 (BT.all_node Tryz.func46 (BT.all_node Tryz.func44 (BT.all_node Tryz.func43 (BT.all_node Tryz.func42 trivial trivial) trivial) (BT.all_node Tryz.func45 trivial trivial)) (BT.all_node Tryz.func49 (BT.all_node Tryz.func48 (BT.all_node Tryz.func47 trivial trivial) trivial) (BT.all_node Tryz.func50 trivial trivial))) (BT.all_node Tryz.func56 (BT.all_node Tryz.func54 (BT.all_node Tryz.func53 (BT.all_node Tryz.func52 trivial trivial) trivial) (BT.all_node Tryz.func55 trivial trivial)) (BT.all_node Tryz.func59 (BT.all_node Tryz.func58 (BT.all_node Tryz.func57 trivial trivial) trivial) (BT.all_node Tryz.func60 trivial trivial)))) (BT.all_node Tryz.func71 (BT.all_node Tryz.func66 (BT.all_node Tryz.func64 (BT.all_node Tryz.func63 (BT.all_node Tryz.func62 trivial trivial) trivial) (BT.all_node Tryz.func65 trivial trivial)) (BT.all_node Tryz.func69 (BT.all_node Tryz.func68 (BT.all_node Tryz.func67 trivial trivial) trivial) (BT.all_node Tryz.func70 trivial trivial))) (BT.all_node Tryz.func76 (BT.all_node Tryz.func74 (BT.all_node Tryz.func73 (BT.all_node Tryz.func72 trivial trivial) trivial) (BT.all_node Tryz.func75 trivial trivial)) (BT.all_node Tryz.func79 (BT.all_node Tryz.func78 (BT.all_node Tryz.func77 trivial trivial) trivial) (BT.all_node Tryz.func80 trivial trivial)))))) (BT.all_node Tryz.func121 (BT.all_node Tryz.func101 (BT.all_node Tryz.func91 (BT.all_node Tryz.func86 (BT.all_node Tryz.func84 (BT.all_node Tryz.func83 (BT.all_node Tryz.func82 trivial trivial) trivial) (BT.all_node Tryz.func85 trivial trivial)) (BT.all_node Tryz.func89 (BT.all_node Tryz.func88 (BT.all_node Tryz.func87 trivial trivial) trivial) (BT.all_node Tryz.func90 trivial trivial))) (BT.all_node Tryz.func96 (BT.all_node Tryz.func94 (BT.all_node Tryz.func93 (BT.all_node Tryz.func92 trivial trivial) trivial) (BT.all_node Tryz.func95 trivial trivial)) (BT.all_node Tryz.func99 (BT.all_node Tryz.func98 (BT.all_node Tryz.func97 trivial trivial) trivial) (BT.all_node Tryz.func100 trivial trivial)))) (BT.all_node Tryz.func111 (BT.all_node Tryz.func106 (BT.all_node Tryz.func104 (BT.all_node Tryz.func103 (BT.all_node Tryz.func102 trivial trivial) trivial) (BT.all_node Tryz.func105 trivial trivial)) (BT.all_node Tryz.func109 (BT.all_node Tryz.func108 (BT.all_node Tryz.func107 trivial trivial) trivial) (BT.all_node Tryz.func110 trivial trivial))) (BT.all_node Tryz.func116 (BT.all_node Tryz.func114 (BT.all_node Tryz.func113 (BT.all_node Tryz.func112 trivial trivial) trivial) (BT.all_node Tryz.func115 trivial trivial)) (BT.all_node Tryz.func119 (BT.all_node Tryz.func118 (BT.all_node Tryz.func117 trivial trivial) trivial) (BT.all_node Tryz.func120 trivial trivial))))) (BT.all_node Tryz.func141 (BT.all_node Tryz.func131 (BT.all_node Tryz.func126 (BT.all_node Tryz.func124 (BT.all_node Tryz.func123 (BT.all_node Tryz.func122 trivial trivial) trivial) (BT.all_node Tryz.func125 trivial trivial)) (BT.all_node Tryz.func129 (BT.all_node Tryz.func128 (BT.all_node Tryz.func127 trivial trivial) trivial) (BT.all_node Tryz.func130 trivial trivial))) (BT.all_node Tryz.func136 (BT.all_node Tryz.func134 (BT.all_node Tryz.func133 (BT.all_node Tryz.func132 trivial trivial) trivial) (BT.all_node Tryz.func135 trivial trivial)) (BT.all_node Tryz.func139 (BT.all_node Tryz.func138 (BT.all_node Tryz.func137 trivial trivial) trivial) (BT.all_node Tryz.func140 trivial trivial)))) (BT.all_node Tryz.func151 (BT.all_node Tryz.func146 (BT.all_node Tryz.func144 (BT.all_node Tryz.func143 (BT.all_node Tryz.func142 trivial trivial) trivial) (BT.all_node Tryz.func145 trivial trivial)) (BT.all_node Tryz.func149 (BT.all_node Tryz.func148 (BT.all_node Tryz.func147 trivial trivial) trivial) (BT.all_node Tryz.func150 trivial trivial))) (BT.all_node Tryz.func156 (BT.all_node Tryz.func154 (BT.all_node Tryz.func153 (BT.all_node Tryz.func152 trivial trivial) trivial) (BT.all_node Tryz.func155 trivial trivial)) (BT.all_node Tryz.func158 (BT.all_node Tryz.func157 trivial trivial) (BT.all_node Tryz.func159 trivial trivial))))))) (BT.all_node Tryz.func239 (BT.all_node Tryz.func200 (BT.all_node Tryz.func180 (BT.all_node Tryz.func170 (BT.all_node Tryz.func165 (BT.all_node Tryz.func163 (BT.all_node Tryz.func162 (BT.all_node Tryz.func161 trivial trivial) trivial) (BT.all_node Tryz.func164 trivial trivial)) (BT.all_node Tryz.func168 (BT.all_node Tryz.func167 (BT.all_node Tryz.func166 trivial trivial) trivial) (BT.all_node Tryz.func169 trivial trivial))) (BT.all_node Tryz.func175 (BT.all_node Tryz.func173 (BT.all_node Tryz.func172 (BT.all_node Tryz.func171 trivial trivial) trivial) (BT.all_node Tryz.func174 trivial trivial)) (BT.all_node Tryz.func178 (BT.all_node Tryz.func177 (BT.all_node Tryz.func176 trivial trivial) trivial) (BT.all_node Tryz.func179 trivial trivial)))) (BT.all_node Tryz.func190 (BT.all_node Tryz.func185 (BT.all_node Tryz.func183 (BT.all_node Tryz.func182 (BT.all_node Tryz.func181 trivial trivial) trivial) (BT.all_node Tryz.func184 trivial trivial)) (BT.all_node Tryz.func188 (BT.all_node Tryz.func187 (BT.all_node Tryz.func186 trivial trivial) trivial) (BT.all_node Tryz.func189 trivial trivial))) (BT.all_node Tryz.func195 (BT.all_node Tryz.func193 (BT.all_node Tryz.func192 (BT.all_node Tryz.func191 trivial trivial) trivial) (BT.all_node Tryz.func194 trivial trivial)) (BT.all_node Tryz.func198 (BT.all_node Tryz.func197 (BT.all_node Tryz.func196 trivial trivial) trivial) (BT.all_node Tryz.func199 trivial trivial))))) (BT.all_node Tryz.func220 (BT.all_node Tryz.func210 (BT.all_node Tryz.func205 (BT.all_node Tryz.func203 (BT.all_node Tryz.func202 (BT.all_node Tryz.func201 trivial trivial) trivial) (BT.all_node Tryz.func204 trivial trivial)) (BT.all_node Tryz.func208 (BT.all_node Tryz.func207 (BT.all_node Tryz.func206 trivial trivial) trivial) (BT.all_node Tryz.func209 trivial trivial))) (BT.all_node Tryz.func215 (BT.all_node Tryz.func213 (BT.all_node Tryz.func212 (BT.all_node Tryz.func211 trivial trivial) trivial) (BT.all_node Tryz.func214 trivial trivial)) (BT.all_node Tryz.func218 (BT.all_node Tryz.func217 (BT.all_node Tryz.func216 trivial trivial) trivial) (BT.all_node Tryz.func219 trivial trivial)))) (BT.all_node Tryz.func230 (BT.all_node Tryz.func225 (BT.all_node Tryz.func223 (BT.all_node Tryz.func222 (BT.all_node Tryz.func221 trivial trivial) trivial) (BT.all_node Tryz.func224 trivial trivial)) (BT.all_node Tryz.func228 (BT.all_node Tryz.func227 (BT.all_node Tryz.func226 trivial trivial) trivial) (BT.all_node Tryz.func229 trivial trivial))) (BT.all_node Tryz.func235 (BT.all_node Tryz.func233 (BT.all_node Tryz.func232 (BT.all_node Tryz.func231 trivial trivial) trivial) (BT.all_node Tryz.func234 trivial trivial)) (BT.all_node Tryz.func237 (BT.all_node Tryz.func236 trivial trivial) (BT.all_node Tryz.func238 trivial trivial)))))) (BT.all_node Tryz.func279 (BT.all_node Tryz.func259 (BT.all_node Tryz.func249 (BT.all_node Tryz.func244 (BT.all_node Tryz.func242 (BT.all_node Tryz.func241 (BT.all_node Tryz.func240 trivial trivial) trivial) (BT.all_node Tryz.func243 trivial trivial)) (BT.all_node Tryz.func247 (BT.all_node Tryz.func246 (BT.all_node Tryz.func245 trivial trivial) trivial) (BT.all_node Tryz.func248 trivial trivial))) (BT.all_node Tryz.func254 (BT.all_node Tryz.func252 (BT.all_node Tryz.func251 (BT.all_node Tryz.func250 trivial trivial) trivial) (BT.all_node Tryz.func253 trivial trivial)) (BT.all_node Tryz.func257 (BT.all_node Tryz.func256 (BT.all_node Tryz.func255 trivial trivial) trivial) (BT.all_node Tryz.func258 trivial trivial)))) (BT.all_node Tryz.func269 (BT.all_node Tryz.func264 (BT.all_node Tryz.func262 (BT.all_node Tryz.func261 (BT.all_node Tryz.func260 trivial trivial) trivial) (BT.all_node Tryz.func263 trivial trivial)) (BT.all_node Tryz.func267 (BT.all_node Tryz.func266 (BT.all_node Tryz.func265 trivial trivial) trivial) (BT.all_node Tryz.func268 trivial trivial))) (BT.all_node Tryz.func274 (BT.all_node Tryz.func272 (BT.all_node Tryz.func271 (BT.all_node Tryz.func270 trivial trivial) trivial) (BT.all_node Tryz.func273 trivial trivial)) (BT.all_node Tryz.func277 (BT.all_node Tryz.func276 (BT.all_node Tryz.func275 trivial trivial) trivial) (BT.all_node Tryz.func278 trivial trivial))))) (BT.all_node Tryz.func299 (BT.all_node Tryz.func289 (BT.all_node Tryz.func284 (BT.all_node Tryz.func282 (BT.all_node Tryz.func281 (BT.all_node Tryz.func280 trivial trivial) trivial) (BT.all_node Tryz.func283 trivial trivial)) (BT.all_node Tryz.func287 (BT.all_node Tryz.func286 (BT.all_node Tryz.func285 trivial trivial) trivial) (BT.all_node Tryz.func288 trivial trivial))) (BT.all_node Tryz.func294 (BT.all_node Tryz.func292 (BT.all_node Tryz.func291 (BT.all_node Tryz.func290 trivial trivial) trivial) (BT.all_node Tryz.func293 trivial trivial)) (BT.all_node Tryz.func297 (BT.all_node Tryz.func296 (BT.all_node Tryz.func295 trivial trivial) trivial) (BT.all_node Tryz.func298 trivial trivial)))) (BT.all_node Tryz.func310 (BT.all_node Tryz.func304 (BT.all_node Tryz.func302 (BT.all_node Tryz.func301 (BT.all_node Tryz.func300 trivial trivial) trivial) (BT.all_node Tryz.func303 trivial trivial)) (BT.all_node Tryz.func307 (BT.all_node Tryz.func306 (BT.all_node Tryz.func305 trivial trivial) trivial) (BT.all_node Tryz.func309 trivial trivial))) (BT.all_node Tryz.func315 (BT.all_node Tryz.func313 (BT.all_node Tryz.func312 (BT.all_node Tryz.func311 trivial trivial) trivial) (BT.all_node Tryz.func314 trivial trivial)) (BT.all_node Tryz.func317 (BT.all_node Tryz.func316 trivial trivial) (BT.all_node Tryz.func318 trivial trivial))))))))

noncomputable def cfg : Cfg := { P := Tryz.prog, ty := fun t => tyTab.look t, mode := fun f => match modeTab.look f with | some m => m | none => .imp, frz := fun f r k => frzLook f r k, mask := fun f r => look2 f r maskTab, cut := fun f r => look2 f r cutTab, tup := fun t => tupTab.look t, ext := fun f => extLook f extTab, known := fun f => (knownTab.look f).isSome, dat := fun t => (datTab.look t).isSome, inl := fun f => inlLook f inlTab, lift := fun f r => match look2 f r liftTab with | some l => l | none => [], ems := fun t => (emsTab.look t).isSome, ali := fun t => (aliTab.look t).isSome }
theorem factS {fs : List Fact} (hfs : FactsOk cfg fs) {f : Nat} {args : List AV} {v : AV} (m d : Nat) (h : (match yF cfg (fun f => fnTab.look f) fs m d (.f f) args [] with | some r => some r.1 | none => none) = some v) : EVs (EV cfg) f args = some v := fact_S (fun _ _ h => BT.all_look fn_ok h) hfs m d h
theorem factF {fs : List Fact} (hfs : FactsOk cfg fs) {f : Nat} {args : List AV} {v : AV} (m d : Nat) (h : (match yF cfg (fun f => fnTab.look f) fs m d (.f f) args [] with | some r => gA (r.1.frz r.1.msIds r.2).fg some | none => none) = some v) : EVf (EV cfg) f args = some v := fact_F (fun _ _ h => BT.all_look fn_ok h) hfs m d h
instance inl_ok : InlOk cfg := InlOk.of inlTab (fun _ => rfl) ⟨⟨rfl, rfl, Tryz.func169, rfl⟩, ⟨⟨rfl, rfl, Tryz.func186, rfl⟩, ⟨⟨rfl, rfl, Tryz.func207, rfl⟩, ⟨⟨rfl, rfl, Tryz.func209, rfl⟩, ⟨⟨rfl, rfl, Tryz.func231, rfl⟩, ⟨⟨rfl, rfl, Tryz.func238, rfl⟩, ⟨⟨rfl, rfl, Tryz.func257, rfl⟩, ⟨⟨rfl, rfl, Tryz.func273, rfl⟩, ⟨⟨rfl, rfl, Tryz.func274, rfl⟩, ⟨⟨rfl, rfl, Tryz.func293, rfl⟩, ⟨⟨rfl, rfl, Tryz.func311, rfl⟩, trivial⟩⟩⟩⟩⟩⟩⟩⟩⟩⟩⟩
end Go.Proofs.YtkgkjngbfdnoiaaGreat
end

section
namespace Go.Av

def cmpS (a b : List UInt8) : Int := if a == b then 0 else if Op.bytesLess a b then -1 else 1

theorem compareBytes_eq : ∀ a b : List UInt8, Lib.compareBytes a b = cmpS a b
 | [], [] => rfl
 | [], _ :: _ => by simp [Lib.compareBytes, cmpS, Op.bytesLess]
 | _ :: _, [] => by simp [Lib.compareBytes, cmpS, Op.bytesLess]
 | a :: l, b :: m => by
  rw [Lib.compareBytes, compareBytes_eq l m]
  unfold cmpS
  by_cases h : a = b
  ·subst h
   have : ¬ a < a := by simp
   by_cases h2 : l = m
   ·subst h2; simp
   ·simp [Op.bytesLess, h2]
  ·have h' : (a :: l == b :: m) = false := by simp [h]
   rw [h']
   simp only [Bool.false_eq_true, if_false, Op.bytesLess]
   by_cases hlt : a < b
   ·simp [hlt]
   ·have : b < a := by
     have h1 : ¬ a.toNat < b.toNat := hlt
     have h2 : a.toNat ≠ b.toNat := fun e => h (UInt8.toNat.inj e)
     show b.toNat < a.toNat
     omega
    simp [hlt, this, h]

theorem extCmp_sound [Lent] {P : Program} {f : FuncId} {fn : Func} (hf : P.funcs[f]? = some fn) (hn : (fn.name == "runtime.NumGoroutine") = false) (hb : fn.body.isNone = true) (hx : Extern.findNext fn = none)
  (he : Extern.find fn = some Extern.BytealgCompare.compare) {args : List AV} {H H' : AH} {r : AV} (hr : extCmp args H = some (r, H')) {C : Claims} {μ : MMap} {w : World} {vs : Array Value} (ha : FrRep C μ args vs) (hw : Wld C μ H w) :
  CallR P (callFunc f vs) w (Post1 C μ H w r H') := by
 unfold extCmp at hr
 split at hr
 ·rename_i H0 a b
  cases hr
  obtain ⟨hl, hv⟩ := ha
  obtain ⟨x, y, rfl⟩ : ∃ x y, vs = #[x, y] := by
   obtain ⟨l⟩ := vs
   match l, hl with
   | [x, y], _ => exact ⟨x, y, rfl⟩
  have h0 := hv 0 _ _ rfl rfl
  have h1 := hv 1 _ _ rfl rfl
  cases h0
  cases h1
  have hrun : (callFunc f #[.string ⟨a.toArray⟩, .string ⟨b.toArray⟩]).run P w = .ok (.value (.int .i64 (cmpS a b))) w := by
   unfold callFunc
   simp only [Sem.run_bind, run_program, Result.andThen_ok, hf, hn, hb, Bool.false_eq_true, if_false, if_true, run_mark, hx, he, Lib.run_compareString, Sem.run_pure]
   rw [compareBytes_eq]
  unfold CallR
  rw [hrun]
  exact ⟨C, μ, .int _ _, hw, Ext.refl (Nat.le_refl _)⟩
 ·cases hr
end Go.Av
namespace Go.Proofs.YtkgkjngbfdnoiaaGreat
open Go.Av
set_option maxRecDepth 100000

theorem tys_ok : tyTab.All fun t ti => tiOf Tryz.prog t = some ti := by
 unfold tyTab
 repeat (first | exact trivial | refine BT.all_node (by show tiOf Tryz.prog _ = _; kernel_rfl) ?_ ?_)

theorem names_ok : Tryz.prog.funcs.toList.all (fun fn => !(fn.name == "runtime.NumGoroutine")) = true := by kernel_rfl
theorem mixed_ok : Tryz.prog.follows .mixedOrders = true := by kernel_rfl
end Go.Proofs.YtkgkjngbfdnoiaaGreat
end

section
namespace Go.Av

inductive Tm where
 | mk (k n : Int) (s : List UInt8) (l : List Tm)
 deriving Inhabited

namespace Tm
def kind : Tm → Int | mk k _ _ _ => k
def num : Tm → Int | mk _ n _ _ => n
def str : Tm → List UInt8 | mk _ _ s _ => s
def subs : Tm → List Tm | mk _ _ _ l => l
end Tm

mutual
def Tm.cells : Tm → List AV
 | .mk k n s l => [.int .i64 k, .int .i64 n, .str s, .sl (rowsT l)]
def rowsT : List Tm → List (List AV)
 | [] => []
 | t :: l => t.cells :: rowsT l
end

def Tm.av (t : Tm) : AV := .agg t.cells

theorem Tm.cells_mk (k n : Int) (s : List UInt8) (l : List Tm) : (Tm.mk k n s l).cells = [.int .i64 k, .int .i64 n, .str s, .sl (rowsT l)] := by rw [Tm.cells]
theorem Tm.av_mk (k n : Int) (s : List UInt8) (l : List Tm) : (Tm.mk k n s l).av = .agg [.int .i64 k, .int .i64 n, .str s, .sl (rowsT l)] := by rw [Tm.av, Tm.cells_mk]
theorem rowsT_map : ∀ l : List Tm, rowsT l = l.map Tm.cells
 | [] => by rw [rowsT]; rfl
 | t :: l => by rw [rowsT, rowsT_map l]; rfl
@[simp] theorem rowsT_length (l : List Tm) : (rowsT l).length = l.length := by rw [rowsT_map]; simp
@[simp] theorem rowsT_nil : rowsT [] = [] := by rw [rowsT]
theorem rowsT_cons (t : Tm) (l : List Tm) : rowsT (t :: l) = t.cells :: rowsT l := by rw [rowsT]
theorem rowsT_append (a b : List Tm) : rowsT (a ++ b) = rowsT a ++ rowsT b := by simp [rowsT_map]
theorem rowsT_take (n : Nat) (a : List Tm) : (rowsT a).take n = rowsT (a.take n) := by simp [rowsT_map, List.map_take]
theorem rowsT_drop (n : Nat) (a : List Tm) : (rowsT a).drop n = rowsT (a.drop n) := by simp [rowsT_map, List.map_drop]
theorem rowsT_get (l : List Tm) (i : Nat) : (rowsT l)[i]? = (l[i]?).map Tm.cells := by rw [rowsT_map]; simp
theorem rowsT_some {l : List Tm} {i : Nat} {k n : Int} {s : List UInt8} {l' : List Tm} (h : l[i]? = some (.mk k n s l')) : (rowsT l)[i]? = some [.int .i64 k, .int .i64 n, .str s, .sl (rowsT l')] := by rw [rowsT_get, h, ← Tm.cells_mk]; rfl
theorem rowsT_set (l : List Tm) (i : Nat) (t : Tm) : (rowsT l).set i t.cells = rowsT (l.set i t) := by simp [rowsT_map, List.map_set]

theorem cells_free (t : Tm) : refsLtL 0 t.cells = true := by
 obtain ⟨k, n, s, l⟩ := t
 rw [Tm.cells_mk]; rfl
theorem rowsT_free (l : List Tm) : refsLtR 0 (rowsT l) = true := by
 induction l with
 | nil => rw [rowsT]; rfl
 | cons t l ih => rw [rowsT, refsLtR, ih, cells_free]; rfl

mutual
/-- no list is longer than is counted here, no text -/
def Tm.Ok : Tm → Prop
 | .mk _ _ s l => s.length < 1099511627776 ∧ l.length < 1099511627776 ∧ OkL l
def OkL : List Tm → Prop
 | [] => True
 | t :: l => t.Ok ∧ OkL l
end
theorem OkL_iff {l : List Tm} : OkL l ↔ ∀ t ∈ l, t.Ok := by
 induction l with
 | nil => simp [OkL]
 | cons t l ih => simp [OkL, ih]
theorem Tm.Ok.str {k n : Int} {s : List UInt8} {l : List Tm} (h : (Tm.mk k n s l).Ok) : s.length < 1099511627776 := by rw [Tm.Ok] at h; exact h.1
theorem Tm.Ok.len {k n : Int} {s : List UInt8} {l : List Tm} (h : (Tm.mk k n s l).Ok) : l.length < 1099511627776 := by rw [Tm.Ok] at h; exact h.2.1
theorem Tm.Ok.sub {k n : Int} {s : List UInt8} {l : List Tm} (h : (Tm.mk k n s l).Ok) {t : Tm} (ht : t ∈ l) : t.Ok := by rw [Tm.Ok] at h; exact OkL_iff.1 h.2.2 t ht
theorem OkL.get {l : List Tm} (h : OkL l) {t : Tm} (ht : t ∈ l) : t.Ok := OkL_iff.1 h t ht

theorem Tm.ind {P : Tm → Prop} (h : ∀ k n s l, (∀ t ∈ l, P t) → P (.mk k n s l)) : ∀ t, P t
 | .mk k n s l => h k n s l (fun t _ => Tm.ind h t)

theorem wrap64 {x : Int} (h1 : -9223372036854775808 ≤ x) (h2 : x < 9223372036854775808) : IntKind.wrap .i64 x = x := by
 simp [IntKind.wrap, IntKind.bits, IntKind.signed]; omega
theorem wrap_succ {i n : Nat} (h : i < n) (hn : n < 1099511627776) : IntKind.wrap .i64 ((i : Int) + 1) = ((i + 1 : Nat) : Int) := by
 rw [wrap64 (by omega) (by omega)]; rfl
theorem leInt_zero (i : Nat) : leInt 0 (i : Int) = true := by simp [leInt]
theorem ltInt_nat (i n : Nat) : ltInt (i : Int) (n : Int) = decide (i < n) := by simp [ltInt]

def kTmC {α : Type} (l : List AV) (k : Int → Int → List UInt8 → List (List AV) → Option α) : Option α :=
 kCons l fun c cs => kInt .i64 c fun n => kCons cs fun c cs => kInt .i64 c fun m => kCons cs fun c cs => kStr c fun s => kCons cs fun c cs => kSl c fun A => kNil cs (k n m s A)
def kTmV {α : Type} (v : AV) (k : Int → Int → List UInt8 → List (List AV) → Option α) : Option α := kAgg v fun cs => kTmC cs k

theorem rowsT_at {α : Type} {l : List Tm} {i : Nat} {t : Tm} (h : l[i]? = some t) (k : List AV → Option α) : kOpt (List.get?Internal (rowsT l) (Int.toNat (i : Int))) k = k t.cells := by
 rw [get?Internal_eq, Int.toNat_natCast, rowsT_get, h]; rfl
end Go.Av
end

section
namespace Go.Av
mutual
def Tm.w : Tm → Nat
 | .mk _ _ s l => 1 + s.length + wL l
def wL : List Tm → Nat
 | [] => 0
 | t :: l => t.w + wL l
end
theorem Tm.w_mk (k n : Int) (s : List UInt8) (l : List Tm) : (Tm.mk k n s l).w = 1 + s.length + wL l := by rw [Tm.w]
theorem Tm.w_eq (t : Tm) : t.w = 1 + t.str.length + wL t.subs := by cases t; rw [Tm.w_mk]; rfl
@[simp] theorem wL_nil : wL [] = 0 := by rw [wL]
@[simp] theorem wL_cons (t : Tm) (l : List Tm) : wL (t :: l) = t.w + wL l := by rw [wL]
@[simp] theorem wL_append (a b : List Tm) : wL (a ++ b) = wL a + wL b := by
 induction a with
 | nil => simp
 | cons t l ih => simp [ih]; omega
theorem w_pos (t : Tm) : 1 ≤ t.w := by rw [Tm.w_eq]; omega
theorem wL_mem {t : Tm} {l : List Tm} (h : t ∈ l) : t.w ≤ wL l := by
 induction l with
 | nil => cases h
 | cons x l ih =>
  rw [wL_cons]
  rcases List.mem_cons.1 h with rfl | h
  ·omega
  ·have := ih h; omega
theorem wL_len (l : List Tm) : l.length ≤ wL l := by
 induction l with
 | nil => simp
 | cons x l ih => have := w_pos x; simp; omega
theorem ok_of_w (t : Tm) : t.w < 1099511627776 → t.Ok := by
 induction t using Tm.ind with
 | _ k n s l ih =>
  intro h
  rw [Tm.w_mk] at h
  rw [Tm.Ok]
  have := wL_len l
  exact ⟨by omega, by omega, OkL_iff.2 fun t ht => ih t ht (by have := wL_mem ht; omega)⟩
theorem okL_of_w {l : List Tm} (h : wL l < 1099511627776) : OkL l := OkL_iff.2 fun t ht => ok_of_w t (by have := wL_mem ht; omega)
theorem wL_rev (l : List Tm) : wL l.reverse = wL l := by
 induction l with
 | nil => rfl
 | cons x l ih => simp [ih]; omega
end Go.Av
end

section
namespace Go.Proofs.YtkgkjngbfdnoiaaGreat
open Go.Av

def C0 (W : World) : Claims := fun b o => W.cell? ⟨b, o, none⟩
def M0 : MMap := fun _ => none

theorem wld0 (W : World) : Wld (C0 W) M0 [] W where
 cl := fun _ _ _ h => h
 dom := fun id m h => by cases h
 res := fun id h => by simp at h
 live := fun id b h => by simp at h
 froz := fun id d sz rs h => by simp at h
 inj := fun i i' b b' m m' h => by simp at h
 free := FreeH.nil
 lnt := ⟨fun _ _ _ h => (by cases h), fun h => h.elim⟩

structure TermTys (P : Program) (tT tL tI tS : TypeId) : Prop where
 uT : ∃ f0 f1 f2 f3 : Field, P.underlying tT = some (.struct #[f0, f1, f2, f3]) ∧ f0.type = tI ∧ f0.offset = 0 ∧ f1.type = tI ∧ f1.offset = 1 ∧ f2.type = tS ∧ f2.offset = 2 ∧ f3.type = tL ∧ f3.offset = 3
 uL : P.underlying tL = some (.slice tT)
 uI : P.underlying tI = some (.int .i64)
 uS : P.underlying tS = some .string
 cT : P.cellsOf tT = 4
 cL : P.cellsOf tL = 1
 cI : P.cellsOf tI = 1
 cS : P.cellsOf tS = 1

section
variable {H : Type} {enc : TypeId × Value → H} {P : Program} {W : World} {tT tL tI tS : TypeId}

def CellsAre (W : World) (cs : List Value) (t : Tm) : Prop := cs.length = 4 ∧ ∀ (j : Nat) a v, t.cells[j]? = some a → cs[j]? = some v → a.isCell = true ∧ Rep (C0 W) M0 a v

theorem cells?_some {base : Nat} {a : Addr} {n : Nat} {cs : List Value} (h : W.cells? base a n = some cs) (hn : 0 < n) : a.spot = none ∧ cs.length = n ∧ ∀ (j : Nat) v, cs[j]? = some v → W.cell? ⟨a.block, a.off + j, none⟩ = some v := by
 unfold World.cells? at h
 split at h
 ·have hl : cs.length = n := by simpa using mapM_some_length h
  have hg : ∀ (j : Nat), j < n → W.cell? (a.add j) = cs[j]? := fun j hj => mapM_some_get h j j (by simp [hj])
  have hsp : a.spot = none := by
   have h0 := hg 0 hn
   rw [List.getElem?_eq_getElem (by omega)] at h0
   cases hs : a.spot with
   | none => rfl
   | some s =>
    simp only [World.cell?, Addr.add, if_pos, hs] at h0
    split at h0
    ·simp at h0
    ·cases h0
  refine ⟨hsp, hl, fun j v hv => ?_⟩
  have hj : j < n := by rw [← hl]; exact (List.getElem?_eq_some_iff.1 hv).1
  have := hg j hj
  rw [hv] at this
  rw [addr_add' _ _ hsp] at this
  exact this
 ·cases h

theorem bulk_part {H : Type} {d : DataW H} {l : List (DataW H)} (h : d ∈ l) : Rows.uptoBulk d ≤ Rows.uptoBulkAll l := by
 induction l with
 | nil => cases h
 | cons x r ih =>
  simp only [Rows.uptoBulkAll]
  cases List.mem_cons.1 h with
  | inl e => subst e; omega
  | inr e => have := ih e; omega
theorem bulk_terms {H : Type} : ∀ (l : List Tm) (ds : List (DataW H)), l.length = ds.length → (∀ (i : Nat) t d, l[i]? = some t → ds[i]? = some d → t.w ≤ Rows.uptoBulk d) → wL l ≤ Rows.uptoBulkAll ds
 | [], [], _, _ => by simp [Rows.uptoBulkAll]
 | t :: l, d :: ds, hl, h => by
  have h0 := h 0 t d rfl rfl
  have := bulk_terms l ds (by simpa using hl) (fun i t d ht hd => h (i + 1) t d (by simpa using ht) (by simpa using hd))
  simp only [wL_cons, Rows.uptoBulkAll]
  omega
theorem open_both (T : TermTys P tT tL tI tS) : ∀ (n : Nat),
  (∀ cs x, DataW.trod enc P W 0 (fun _ => true) true n tT cs = some x → ∃ t : Tm, CellsAre W cs t ∧ t.w ≤ Rows.uptoBulk x.1 ∧
   ∀ (W' : World) (sp : Nat → Bool), (∀ p ∈ x.2, W.sameAt W' p) → (∀ p ∈ x.2, sp p.block = true) → DataW.trod enc P W' 0 sp true n tT cs = some x) ∧
  (∀ cs x, DataW.trod enc P W 0 (fun _ => true) true n tL cs = some x → ∃ (l : List Tm) (v : Value), cs = [v] ∧ Rep (C0 W) M0 (.sl (rowsT l)) v ∧ wL l ≤ Rows.uptoBulk x.1 ∧
   ∀ (W' : World) (sp : Nat → Bool), (∀ p ∈ x.2, W.sameAt W' p) → (∀ p ∈ x.2, sp p.block = true) → DataW.trod enc P W' 0 sp true n tL cs = some x) := by
 intro n
 induction n with
 | zero => exact ⟨fun cs x h => by simp [DataW.trod] at h, fun cs x h => by simp [DataW.trod] at h⟩
 | succ n ih =>
  obtain ⟨ihT, ihL⟩ := ih
  refine ⟨fun cs x h => ?_, fun cs x h => ?_⟩
  ·obtain ⟨f0, f1, f2, f3, hu, t0, o0, t1, o1, t2, o2, t3, o3⟩ := T.uT
   obtain ⟨xs, n', e, rfl, hl, hxl, hx⟩ := DataW.trod_struct hu h
   obtain rfl : n' = n := by omega
   rw [T.cT] at hl
   obtain ⟨c0, c1, c2, c3, rfl⟩ : ∃ c0 c1 c2 c3, cs = [c0, c1, c2, c3] := by
    match cs, hl with
    | [a, b, c, d], _ => exact ⟨a, b, c, d, rfl⟩
   obtain ⟨x0, x1, x2, x3, rfl⟩ : ∃ c0 c1 c2 c3, xs = [c0, c1, c2, c3] := by
    match xs, hxl with
    | [a, b, c, d], _ => exact ⟨a, b, c, d, rfl⟩
   have h0 := hx 0 f0 rfl
   have h1 := hx 1 f1 rfl
   have h2 := hx 2 f2 rfl
   have h3 := hx 3 f3 rfl
   rw [t0, o0, T.cI] at h0
   rw [t1, o1, T.cI] at h1
   rw [t2, o2, T.cS] at h2
   rw [t3, o3, T.cL] at h3
   simp at h0 h1 h2 h3
   obtain ⟨k, e0, rfl, w0⟩ := DataW.trod_int T.uI h0
   obtain ⟨m, e1, rfl, w1⟩ := DataW.trod_int T.uI h1
   obtain ⟨s, e2, rfl, w2⟩ := DataW.trod_string T.uS h2
   obtain ⟨l, v, e3, hr, hb, hback⟩ := ihL _ _ h3
   simp at e0 e1 e2 e3
   subst e0 e1 e2 e3
   refine ⟨.mk k m s.data.toList l, ⟨rfl, fun j a u ha hu => ?_⟩, ?_, fun W' sp hs hp => ?_⟩
   ·rw [Tm.cells_mk] at ha
    match j, ha, hu with
    | 0, ha, hu => simp at ha hu; subst ha hu; exact ⟨rfl, .int _ _⟩
    | 1, ha, hu => simp at ha hu; subst ha hu; exact ⟨rfl, .int _ _⟩
    | 2, ha, hu =>
     simp at ha hu; subst ha hu
     refine ⟨rfl, ?_⟩
     have := Rep.str (C := C0 W) (μ := M0) s.data.toList
     simpa using this
    | 3, ha, hu => simp at ha hu; subst ha hu; exact ⟨rfl, hr⟩
    | (j + 4), ha, hu => simp at ha
   ·simp only [List.map_cons, List.map_nil, Rows.uptoBulk, Rows.uptoBulkAll]
    rw [Tm.w_mk]
    omega
   ·have hs3 : ∀ p ∈ x3.2, W.sameAt W' p := fun p hp => hs p (by simp [hp])
    have hp3 : ∀ p ∈ x3.2, sp p.block = true := fun p hpp => hp p (by simp [hpp])
    have b3 := hback W' sp hs3 hp3
    have b0 : DataW.trod enc P W' 0 sp true n' tI [Value.int .i64 k] = some (.lit (.int .i64 k), []) := by
     cases n' with
     | zero => simp [DataW.trod] at h0
     | succ q => simp [DataW.trod, T.uI, w0]
    have b1 : DataW.trod enc P W' 0 sp true n' tI [Value.int .i64 m] = some (.lit (.int .i64 m), []) := by
     cases n' with
     | zero => simp [DataW.trod] at h0
     | succ q => simp [DataW.trod, T.uI, w1]
    have b2 : DataW.trod enc P W' 0 sp true n' tS [Value.string s] = some (.lit (.string s.data.toList), []) := by
     cases n' with
     | zero => simp [DataW.trod] at h0
     | succ q => simp [DataW.trod, T.uS, w2]
    unfold DataW.trod
    rw [hu]
    simp [T.cT, t0, o0, t1, o1, t2, o2, t3, o3, T.cI, T.cS, T.cL, b0, b1, b2, b3]
  ·rcases DataW.trod_slice T.uL h with ⟨rfl, rfl⟩ | ⟨a, len, cap, elems, rest, n', e, rfl, rfl, hb, hlc, hmx, hel, hg, hsp, _⟩
   ·refine ⟨[], _, rfl, by rw [rowsT_nil]; exact .slNil, by simp, fun W' sp _ _ => ?_⟩
    simp [DataW.trod, T.uL]
   ·obtain rfl : n' = n := by omega
    obtain ⟨hrl, hrg⟩ := hsp rfl
    have one : ∀ (i : Nat) (y : DataW H × List MemPlace), (W.cells? 0 (a.add (i * P.cellsOf tT)) (P.cellsOf tT)).bind (DataW.trod enc P W 0 (fun _ => true) true n' tT) = some y →
      ∃ cs', W.cells? 0 (a.add (i * 4)) 4 = some cs' ∧ DataW.trod enc P W 0 (fun _ => true) true n' tT cs' = some y := by
     intro i y hy
     rw [T.cT] at hy
     exact Option.bind_eq_some_iff.1 hy
    -- the terms
    have tms : ∃ f : Nat → Tm, ∀ (i : Nat) y, elems[i]? = some y → ∃ cs', W.cells? 0 (a.add (i * 4)) 4 = some cs' ∧ CellsAre W cs' (f i) ∧ (f i).w ≤ Rows.uptoBulk y.1 := by
     have : ∀ i : Nat, ∃ t : Tm, ∀ y, elems[i]? = some y → ∃ cs', W.cells? 0 (a.add (i * 4)) 4 = some cs' ∧ CellsAre W cs' t ∧ t.w ≤ Rows.uptoBulk y.1 := by
      intro i
      cases hy : elems[i]? with
      | none => exact ⟨default, fun y h => by cases h⟩
      | some y =>
       have hi : i < len := by rw [← hel]; exact (List.getElem?_eq_some_iff.1 hy).1
       obtain ⟨cs', h1, h2⟩ := one i y ((hg i hi).trans hy)
       obtain ⟨t, h3, h4, _⟩ := ihT _ _ h2
       exact ⟨t, fun y' hy' => by cases hy'; exact ⟨cs', h1, h3, h4⟩⟩
     exact ⟨fun i => Classical.choose (this i), fun i => Classical.choose_spec (this i)⟩
    obtain ⟨f, hf⟩ := tms
    have hget : ∀ (i : Nat) (row : List AV), (rowsT ((List.range len).map f))[i]? = some row → i < len ∧ row = (f i).cells := by
     intro i row hi
     have hil : i < len := by have := (List.getElem?_eq_some_iff.1 hi).1; simpa using this
     refine ⟨hil, ?_⟩
     rw [rowsT_get, List.getElem?_map, List.getElem?_range hil] at hi
     simpa using hi.symm
    have hcell : ∀ (i j : Nat) (row : List AV) x, (rowsT ((List.range len).map f))[i]? = some row → row[j]? = some x → a.spot = none ∧ x.isCell = true ∧ ∃ v, W.cell? ⟨a.block, a.off + i * 4 + j, none⟩ = some v ∧ Rep (C0 W) M0 x v := by
     intro i j row x hi hj
     obtain ⟨hil, rfl⟩ := hget i row hi
     obtain ⟨cs', h1, h2, _⟩ := hf i _ (List.getElem?_eq_getElem (by omega))
     obtain ⟨s1, s2, s3⟩ := cells?_some h1 (by omega)
     have hspot : a.spot = none := by
      obtain ⟨cs0, q1, _⟩ := hf 0 _ (List.getElem?_eq_getElem (by omega))
      have := (cells?_some q1 (by omega)).1
      simpa [Addr.add] using this
     have hjl : j < cs'.length := by
      rw [h2.1]
      have := (List.getElem?_eq_some_iff.1 hj).1
      cases hfi : f i with
      | mk k n s l => rw [hfi, Tm.cells_mk] at this; simpa using this
     have h4 := h2.2 j x _ hj (List.getElem?_eq_getElem hjl)
     refine ⟨hspot, h4.1, _, ?_, h4.2⟩
     have := s3 j _ (List.getElem?_eq_getElem hjl)
     rw [addr_add' _ _ hspot] at this
     exact this
    refine ⟨(List.range len).map f, _, rfl, ?_, ?_, fun W' sp hs hp => ?_⟩
    ·have := Rep.sl (C := C0 W) (μ := M0) (rowsT ((List.range len).map f)) a cap 4 (fun i j => (W.cell? ⟨a.block, a.off + i * 4 + j, none⟩).getD undef) (fun hne => ?_) (fun i row hi => ?_) (fun i j row x hi hj => ?_) (fun i j row x hi hj => ?_) (fun i j row x hi hj => ?_) (by simpa using hlc) (rowsT_free _)
     ·simpa using this
     ·have hl0 : 0 < len := by
       rcases Nat.eq_zero_or_pos len with h0 | h0
       ·subst h0; exact absurd (by simp) hne
       ·exact h0
      obtain ⟨cs0, q1, _⟩ := hf 0 _ (List.getElem?_eq_getElem (by omega))
      have := (cells?_some q1 (by omega)).1
      simpa [Addr.add] using this
     ·obtain ⟨_, rfl⟩ := hget i row hi
      cases hfi : f i with
      | mk k n s l => rw [Tm.cells_mk]; rfl
     ·obtain ⟨_, _, v, h1, _⟩ := hcell i j row x hi hj
      show W.cell? _ = _
      rw [h1]; rfl
     ·obtain ⟨_, _, v, h1, h2⟩ := hcell i j row x hi hj
      rw [h1]; exact h2
     ·exact (hcell i j row x hi hj).2.1
    ·simp only [Rows.uptoBulk]
     have := bulk_terms ((List.range len).map f) (elems.map (·.1)) (by simp [hel]) (fun i t d ht hd => by
      rw [List.getElem?_map] at ht hd
      obtain ⟨j, hj, rfl⟩ := Option.map_eq_some_iff.1 ht
      obtain ⟨y, hy, rfl⟩ := Option.map_eq_some_iff.1 hd
      have hil : i < len := by have := (List.getElem?_eq_some_iff.1 hj).1; simpa using this
      rw [List.getElem?_range hil] at hj
      cases hj
      obtain ⟨_, _, _, h4⟩ := hf i y hy
      exact h4)
     omega
    ·have hrow : 0 < (elems.length + rest.length) → sp a.block = true := fun hpos => hp (.cell a.block (a.off + 0)) (by
      rw [List.mem_append]
      exact .inl (MemPlace.mem_row.2 ⟨0, Nat.mul_pos hpos (by rw [T.cT]; omega), rfl⟩))
     unfold DataW.trod at h ⊢
     rw [T.uL] at h ⊢
     simp only [if_true] at h ⊢
     rw [if_pos ⟨hb, hlc, hmx⟩] at h ⊢
     simp only [Option.map_eq_some_iff, Option.bind_eq_some_iff] at h ⊢
     obtain ⟨elems', he, rest', hr, hx⟩ := h
     have hlen : elems'.length = len := by simpa using mapM_some_length he
     have hrl' : rest'.length = cap - len := by simpa using mapM_some_length hr
     simp only [Prod.mk.injEq, DataW.slice.injEq] at hx
     have one' : ∀ (i : Nat) (y : DataW H × List MemPlace), i < elems'.length + rest'.length → y ∈ elems' ++ rest' →
       (W.cells? 0 (a.add (i * P.cellsOf tT)) (P.cellsOf tT)).bind (DataW.trod enc P W 0 (fun _ => true) true n' tT) = some y → (W'.cells? 0 (a.add (i * P.cellsOf tT)) (P.cellsOf tT)).bind (DataW.trod enc P W' 0 sp true n' tT) = some y := by
      intro i y hi hy hv
      simp only [Option.bind_eq_some_iff] at hv ⊢
      obtain ⟨cs', hc', hy'⟩ := hv
      obtain ⟨_, _, _, hbk⟩ := ihT _ _ hy'
      refine ⟨cs', World.cells?_carry hc' (fun p hpp => hs p ?_), hbk W' sp (fun p hpp => hs p ?_) (fun p hpp => hp p ?_)⟩
      ·rw [← hx.2]
       obtain ⟨j, hj, rfl⟩ := MemPlace.mem_row.1 hpp
       simp only [List.mem_append]
       left
       refine MemPlace.mem_row.2 ⟨i * P.cellsOf tT + j, ?_, ?_⟩
       ·calc i * P.cellsOf tT + j < i * P.cellsOf tT + P.cellsOf tT := by omega
         _ = (i + 1) * P.cellsOf tT := by rw [Nat.add_mul, Nat.one_mul]
         _ ≤ (elems'.length + rest'.length) * P.cellsOf tT := Nat.mul_le_mul_right _ hi
       ·unfold Addr.add
        split
        ·rename_i h0
         simp [h0]
        ·simp [Nat.add_assoc]
      ·rw [← hx.2]
       simp only [List.mem_append, List.mem_flatMap]
       right
       exact ⟨y, by simpa using hy, hpp⟩
      ·rw [← hx.2]
       simp only [List.mem_append, List.mem_flatMap]
       right
       exact ⟨y, by simpa using hy, hpp⟩
     refine ⟨elems', mapM_carry he (fun i y hi hy => one' i y (by have : i < len := (by simpa using hi); omega) (by simp [hy])), rest', ?_, by simp only [Prod.mk.injEq, DataW.slice.injEq]; exact hx⟩
     by_cases h0 : 0 < elems.length + rest.length
     ·rw [if_pos (hrow h0)]
      exact mapM_carry hr (fun j y hj hy => one' (len + j) y (by have : j < cap - len := (by simpa using hj); omega) (by simp [hy]))
     ·have hc0 : cap - len = 0 := by omega
      rw [hc0] at hr ⊢
      simp at hr
      subst hr
      split <;> rfl
end
end Go.Proofs.YtkgkjngbfdnoiaaGreat
end

section
namespace Go.Proofs.YtkgkjngbfdnoiaaGreat
open Go.Av Go.ChangeShapes Go.WideShapes Go.ChangeAt Go.RowKit
set_option maxRecDepth 100000

theorem own_knob : ownKnob Tryz.prog.godebug = none := by kernel_rfl

theorem term_tys : TermTys Tryz.prog 24 22 3 9 where
 uT := ⟨_, _, _, _, Tryz.underlying24, rfl, rfl, rfl, rfl, rfl, rfl, rfl, rfl⟩
 uL := Tryz.underlying22
 uI := Tryz.underlying3
 uS := Tryz.underlying9
 cT := by kernel_rfl
 cL := by kernel_rfl
 cI := by kernel_rfl
 cS := by kernel_rfl
theorem named_ok (f : FuncId) (fn : Func) (h : Tryz.prog.funcs[f]? = some fn) : (fn.name == "runtime.NumGoroutine") = false := by
 have h1 := List.all_eq_true.1 names_ok fn (by
  rw [← Array.getElem?_toList] at h
  exact List.mem_of_getElem? h)
 simpa using h1
theorem cmp_ok [Lent] {args : List AV} {H H' : AH} {r : AV} {C : Claims} {μ : MMap} {w : World} {vs : Array Value} (hr : extCmp args H = some (r, H')) (ha : FrRep C μ args vs) (hw : Wld C μ H w) :
  CallR Tryz.prog (callFunc 308 vs) w (Post1 C μ H w r H') :=
 extCmp_sound (P := Tryz.prog) Tryz.func308 (by rfl) (by rfl) (by kernel_rfl) (by kernel_rfl) hr ha hw
theorem cfg_ok [Lent] : CfgOk cfg where
  ty := ⟨fun t ti h => BT.all_look tys_ok h⟩
  mixed := mixed_ok
  named := fun f fn _ h => named_ok f fn h
  ext := fun f s h args H r H' hr C μ w vs ha hw => by
    have h : extLook f extTab = some s := h
    unfold extTab at h
    rw [extLook] at h
    split at h
    · rename_i e
      have e := Nat.eq_of_beq_eq_true e
      subst e
      cases h
      exact cmp_ok hr ha hw
    · rw [extRest_ok] at h
      first
        | (rw [extLook] at h; cases h; done)
        | (have okK : CfgOk K.cfg := {
             ty := ⟨fun t ti h => BT.all_look (show K.tyTab.All _ from tys_ok) h⟩
             mixed := mixed_ok
             named := fun f fn _ h => named_ok f fn h
             ext := fun f s h args H r H' hr C μ w vs ha hw => by
               have h : K.extLook f K.extTab = some s := h
               unfold K.extTab at h
               rw [K.extLook] at h
               split at h
               · rename_i e
                 have e := Nat.eq_of_beq_eq_true e
                 subst e
                 cases h
                 exact cmp_ok hr ha hw
               · rw [K.extRest_ok, K.extLook] at h
                 cases h }
           rw [extLook] at h
           split at h
           · rename_i e
             have e := Nat.eq_of_beq_eq_true e
             subst e
             cases h
             exact (EV_sound okK).calls _ _ _ _ _ hr C μ w vs _ ha hw rfl
           · rw [extLook] at h
             cases h)

theorem row_calls {f : FuncId} {args : List AV} {vs : Array Value} {W : World} (hx : cfg.ext f = none) (he : EVs (EV cfg) f args = some (.bool true)) (ha : FrRep (C0 W) M0 args vs) :
  Calls Tryz.prog f vs W fun e W' => e = .returned (.bool true) ∧ (∀ b, b < W.heap.size → W'.heap[b]? = W.heap[b]?) ∧ W.heap.size ≤ W'.heap.size ∧ W'.os = W.os ∧ W'.output = W.output := by
 unfold EVs at he
 obtain ⟨q, h1, h2⟩ := Option.map_eq_some_iff.1 he
 have := EV_calls cfg_ok hx (r := q.1) (H' := q.2) h1 ha (wld0 W)
 refine this.mono fun e W' ⟨v, hv, C', μ', p1, p2, p3⟩ => ?_
 rw [h2] at p1
 cases p1
 refine ⟨hv, fun b hb => (p3.fr b hb not_live_nil).1, p3.size, p3.os, p3.output⟩

section
variable {H : Type} {enc : TypeId × Value → H} {P : Program} {W W' : World}

theorem post_same {f : Func} {s : ChangeSpec} {apart fresh handsOn again : Bool} {args : Array Value} {v : Value} {ds gs : List (DataW H)} {before pa pv : List MemPlace}
  (hW : DataW.Whole enc P f.params.toList s.vars apart W args.toList ds gs before)
  (hres : ∀ (b : Nat) (sp : Nat → Bool) (hd : Bool), DataW.TrodAll enc P W' b sp hd f.resultTypes.toList (v.resultList f.resultTypes.size) (s.fn H (ds ++ gs)).results [])
  (hargs : ∀ sp : Nat → Bool, (∀ p ∈ before, sp p.block = true) → DataW.TrodAll enc P W' 0 sp true f.params.toList args.toList (s.fn H (ds ++ gs)).args pa)
  (hvars : ∀ sp : Nat → Bool, (∀ p ∈ before, sp p.block = true) → DataW.TrodVars enc P W' sp s.vars (s.fn H (ds ++ gs)).vars pv)
  (hps : before = pa ++ pv) (hk : W.keptBut W' (· ∈ before)) (hfz : ∀ b o, b < W.heap.size → W'.frozen? ⟨b, o, none⟩ = W.frozen? ⟨b, o, none⟩)
  (hok : ∀ (j : Nat) (t : TypeId) (r : Value), f.resultTypes[j]? = some t → (v.resultList f.resultTypes.size)[j]? = some r → Value.okWide P W' .any 0 t r) :
  s.post enc P f apart fresh handsOn again W args v W' := by
 have hlt := hW.lt
 have hold : ∀ p ∈ before, (fun b => decide (b < W.heap.size)) p.block = true := fun p hp => by simpa using hlt p hp
 refine ⟨ds, gs, before, [], pa, pv, hW, hres _ _ _, hargs _ hold, hvars _ hold, World.keptBut_mono (fun p hp => ⟨hp, ?_⟩) hk, fun _ => ?_⟩
 ·rw [hps, List.mem_append] at hp
  exact Or.inr hp
 ·obtain ⟨_, _, _, _, _, hz, hn⟩ := hW
  refine ⟨hok, _, _, ([] ++ pa) ++ pv, ⟨[] ++ pa, pv, trodAll_append (hargs _ (fun _ _ => rfl)) (hres _ _ _), hvars _ (fun _ _ => rfl), rfl, ?_, ?_⟩, ?_⟩
  ·intro b off hp
   have hp' : MemPlace.cell b off ∈ before := by rw [hps]; simpa using hp
   rw [hfz b off (hlt _ hp')]
   exact hz b off hp'
  ·intro ha
   have := hn ha
   rw [hps] at this
   simpa using this
  ·intro p hp _
   rw [hps]
   simpa using hp

theorem kept_of_heap (h : ∀ b, b < W.heap.size → W'.heap[b]? = W.heap[b]?) (ho : W'.os = W.os) (hu : W'.output = W.output) (may : MemPlace → Prop) : W.keptBut W' may := by
 refine ⟨ho, hu, fun i hi => ?_⟩
 rw [h i hi]
 cases W.heap[i]? with
 | none => rfl
 | some o => cases o <;> simp

theorem same_of_heap (h : ∀ b, b < W.heap.size → W'.heap[b]? = W.heap[b]?) {p : MemPlace} (hp : p.block < W.heap.size) : W.sameAt W' p := by
 cases p with
 | cell b o => simp only [World.sameAt, World.cell?]; rw [h b hp]
 | map b => exact h b hp

theorem frozen_of_heap (h : ∀ b, b < W.heap.size → W'.heap[b]? = W.heap[b]?) (b o : Nat) (hb : b < W.heap.size) : W'.frozen? ⟨b, o, none⟩ = W.frozen? ⟨b, o, none⟩ := by
 simp only [World.frozen?]; rw [h b hb]

structure Opened (enc : TypeId × Value → H) (P : Program) (W : World) (t : TypeId) (v : Value) (d : DataW H) (ps : List MemPlace) (a : AV) : Prop where
 rep : Rep (C0 W) M0 a v
 back : ∀ (W' : World) (sp : Nat → Bool), (∀ p ∈ ps, W.sameAt W' p) → (∀ p ∈ ps, sp p.block = true) → DataW.Trod enc P W' 0 sp true t v d ps

theorem open_term {tT tL tI tS : TypeId} (T : TermTys P tT tL tI tS) {r : Reach} {b0 : Nat} {v : Value} {d : DataW H} {ps : List MemPlace} (hval : Value.okWide P W r b0 tT v) (hd : DataW.Trod enc P W 0 (fun _ => true) true tT v d ps) :
  ∃ t : Tm, Opened enc P W tT v d ps t.av ∧ t.w ≤ Rows.uptoBulk d := by
 obtain ⟨f0, f1, f2, f3, hu, _⟩ := T.uT
 obtain ⟨cs, rfl, hsz⟩ := okWide_struct hu hval
 obtain ⟨n, hn⟩ := hd
 obtain ⟨t, h1, h2, h3⟩ := (open_both T n).1 _ _ hn
 refine ⟨t, ⟨?_, fun W' sp hs hp => ⟨n, h3 W' sp hs hp⟩⟩, h2⟩
 have := Rep.agg (C := C0 W) (μ := M0) t.cells cs.toList (by
  have := h1.1
  cases t with
  | mk k n s l => rw [Tm.cells_mk]; simpa [Value.cells] using this.symm) (fun i a v ha hv => (h1.2 i a v ha (by simpa [Value.cells] using hv)).2)
 simpa [Tm.av] using this

end

theorem rep_three {C : Claims} {a b c : AV} {x y z : Value} (h1 : Rep C M0 a x) (h2 : Rep C M0 b y) (h3 : Rep C M0 c z) : FrRep C M0 [a, b, c] #[x, y, z] := ⟨rfl, fun i c v hc hv => by
 match i, hc, hv with
 | 0, hc, hv => simp at hc hv; subst hc hv; exact h1
 | 1, hc, hv => simp at hc hv; subst hc hv; exact h2
 | 2, hc, hv => simp at hc hv; subst hc hv; exact h3
 | (i + 3), hc, hv => simp at hc⟩
end Go.Proofs.YtkgkjngbfdnoiaaGreat
end

section
namespace Go.Av
mutual
def AV.wt : AV → Nat
 | .str s => s.length + 1
 | .sl rows => wtR rows + 1
 | _ => 1
def wtL : List AV → Nat
 | [] => 0
 | a :: l => a.wt + wtL l
def wtR : List (List AV) → Nat
 | [] => 0
 | a :: l => wtL a + wtR l
end
@[simp] theorem wtL_nil : wtL [] = 0 := by rw [wtL]
@[simp] theorem wtL_cons (a : AV) (l : List AV) : wtL (a :: l) = a.wt + wtL l := by rw [wtL]
@[simp] theorem wtR_nil : wtR [] = 0 := by rw [wtR]
@[simp] theorem wtR_cons (a : List AV) (l : List (List AV)) : wtR (a :: l) = wtL a + wtR l := by rw [wtR]
@[simp] theorem wt_int (k : IntKind) (n : Int) : (AV.int k n).wt = 1 := by rw [AV.wt] <;> simp
@[simp] theorem wt_bool (b : Bool) : (AV.bool b).wt = 1 := by rw [AV.wt] <;> simp
@[simp] theorem wt_str (s : List UInt8) : (AV.str s).wt = s.length + 1 := by rw [AV.wt]
@[simp] theorem wt_sl (r : List (List AV)) : (AV.sl r).wt = wtR r + 1 := by rw [AV.wt]
theorem wtL_append (a b : List AV) : wtL (a ++ b) = wtL a + wtL b := by
 induction a with
 | nil => simp
 | cons x l ih => simp [ih]; omega
end Go.Av
namespace Go.Proofs.YtkgkjngbfdnoiaaGreat
open Go.Av Go.WideShapes
def tiled (P : Program) : Nat → List Field → Option Nat
 | off, [] => some off
 | off, f :: fs => if f.offset = off then tiled P (off + P.cellsOf f.type) fs else none
def goodTy (P : Program) (ts : List TypeId) (t : TypeId) : Bool :=
 match P.underlying t with
 | some (.int _) | some .bool | some .string => decide (P.cellsOf t = 1)
 | some (.struct fs) => decide (tiled P 0 fs.toList = some (P.cellsOf t)) && fs.toList.all (fun f => decide (f.type ∈ ts))
 | some (.slice e) => decide (P.cellsOf t = 1) && (decide (e ∈ ts) && decide (0 < P.cellsOf e))
 | _ => false
def Lay (P : Program) : Nat → TypeId → List AV → Prop
 | 0, _, _ => False
 | n + 1, t, cz =>
  match P.underlying t with
  | some (.int k) => ∃ m, cz = [.int k m] ∧ (Lit.int k m).wf = true
  | some .bool => ∃ b, cz = [.bool b]
  | some .string => ∃ s, cz = [.str s]
  | some (.struct fs) => cz.length = P.cellsOf t ∧ ∀ (i : Nat) f, fs[i]? = some f → Lay P n f.type ((cz.drop f.offset).take (P.cellsOf f.type))
  | some (.slice e) => ∃ rows, cz = [.sl rows] ∧ ∀ row ∈ rows, row.length = P.cellsOf e ∧ Lay P n e row
  | _ => False
def CellsR (W : World) (cs : List Value) (cz : List AV) : Prop := cz.length = cs.length ∧ ∀ (j : Nat) a v, cz[j]? = some a → cs[j]? = some v → a.isCell = true ∧ Rep (C0 W) M0 a v
theorem CellsR.nil {W : World} : CellsR W [] [] := ⟨rfl, fun j a v h => by simp at h⟩
theorem CellsR.one {W : World} {a : AV} {v : Value} (h1 : a.isCell = true) (h2 : Rep (C0 W) M0 a v) : CellsR W [v] [a] := ⟨rfl, fun j a' v' ha hv => by
 match j, ha, hv with
 | 0, ha, hv => simp at ha hv; subst ha hv; exact ⟨h1, h2⟩
 | j + 1, ha, hv => simp at ha⟩
theorem CellsR.append {W : World} {cs cs' : List Value} {cz cz' : List AV} (h : CellsR W cs cz) (h' : CellsR W cs' cz') : CellsR W (cs ++ cs') (cz ++ cz') := by
 refine ⟨by simp [h.1, h'.1], fun j a v ha hv => ?_⟩
 by_cases hj : j < cz.length
 ·rw [List.getElem?_append_left hj] at ha
  rw [List.getElem?_append_left (by rw [← h.1]; exact hj)] at hv
  exact h.2 j a v ha hv
 ·rw [List.getElem?_append_right (by omega)] at ha
  rw [List.getElem?_append_right (by rw [← h.1]; omega), ← h.1] at hv
  exact h'.2 _ a v ha hv
section
variable {H : Type} {enc : TypeId × Value → H} {P : Program} {W : World}
def Opens (enc : TypeId × Value → H) (P : Program) (W : World) (n : Nat) (t : TypeId) : Prop :=
 ∀ cs x, DataW.trod enc P W 0 (fun _ => true) true n t cs = some x → ∃ cz, CellsR W cs cz ∧ cs.length = P.cellsOf t ∧ Lay P n t cz ∧ wtL cz ≤ Rows.uptoBulk x.1 ∧ refsLtL 0 cz = true ∧
  ∀ (W' : World) (sp : Nat → Bool), (∀ p ∈ x.2, W.sameAt W' p) → (∀ p ∈ x.2, sp p.block = true) → DataW.trod enc P W' 0 sp true n t cs = some x
theorem open_fields {n : Nat} {ts : List TypeId} (ih : ∀ t ∈ ts, Opens enc P W n t) {cs : List Value} : ∀ (fs : List Field) (off : Nat), tiled P off fs = some cs.length → (∀ f ∈ fs, f.type ∈ ts) →
  ∀ xs, (fs.mapM fun f => DataW.trod enc P W 0 (fun _ => true) true n f.type ((cs.drop f.offset).take (P.cellsOf f.type))) = some xs →
  ∃ cz, CellsR W (cs.drop off) cz ∧ (∀ f ∈ fs, off ≤ f.offset ∧ Lay P n f.type ((cz.drop (f.offset - off)).take (P.cellsOf f.type))) ∧ wtL cz ≤ Rows.uptoBulkAll (xs.map (·.1)) ∧ refsLtL 0 cz = true ∧
   ∀ (W' : World) (sp : Nat → Bool), (∀ p ∈ xs.flatMap (·.2), W.sameAt W' p) → (∀ p ∈ xs.flatMap (·.2), sp p.block = true) →
    (fs.mapM fun f => DataW.trod enc P W' 0 sp true n f.type ((cs.drop f.offset).take (P.cellsOf f.type))) = some xs := by
 intro fs
 induction fs with
 | nil =>
  intro off ht _ xs hx
  rw [tiled] at ht
  cases ht
  simp at hx
  subst hx
  refine ⟨[], ?_, fun f hf => by simp at hf, by simp, rfl, fun W' sp _ _ => by simp⟩
  rw [List.drop_length]; exact CellsR.nil
 | cons f fs ihf =>
  intro off ht hin xs hx
  rw [tiled] at ht
  split at ht
  ·rename_i ho
   rw [List.mapM_cons] at hx
   obtain ⟨x, h1, hx⟩ := Option.bind_eq_some_iff.1 hx
   obtain ⟨ys, h2, hx⟩ := Option.bind_eq_some_iff.1 hx
   cases hx
   obtain ⟨a1, c1, l1, y1, w1, r1, b1⟩ := ih f.type (hin f (by simp)) _ _ h1
   obtain ⟨a2, c2, y2, w2, r2, b2⟩ := ihf (off + P.cellsOf f.type) ht (fun g hg => hin g (by simp [hg])) ys h2
   have hlen : a1.length = P.cellsOf f.type := by rw [c1.1, l1]
   refine ⟨a1 ++ a2, ?_, fun g hg => ?_, ?_, refsLtL_app r1 r2, fun W' sp hs hp => ?_⟩
   ·have := c1.append c2
    rw [ho, ← List.drop_drop, List.take_append_drop] at this
    exact this
   ·rcases List.mem_cons.1 hg with rfl | hg
    ·refine ⟨by omega, ?_⟩
     rw [ho, Nat.sub_self, List.drop_zero, ← hlen, List.take_append_of_le_length (Nat.le_refl _), List.take_length]
     exact y1
    ·obtain ⟨g1, g2⟩ := y2 g hg
     refine ⟨by omega, ?_⟩
     have : List.drop (g.offset - off) (a1 ++ a2) = List.drop (g.offset - (off + P.cellsOf f.type)) a2 := by
      have e : g.offset - off = a1.length + (g.offset - (off + P.cellsOf f.type)) := by omega
      rw [e, ← List.drop_drop, List.drop_left]
     rw [this]
     exact g2
   ·rw [wtL_append]
    simp only [List.map_cons, Rows.uptoBulkAll]
    omega
   ·rw [List.mapM_cons, b1 W' sp (fun p hpp => hs p (by simp [hpp])) (fun p hpp => hp p (by simp [hpp]))]
    have b3 := b2 W' sp (fun p hpp => hs p (by rw [List.flatMap_cons]; exact List.mem_append_right _ hpp)) (fun p hpp => hp p (by rw [List.flatMap_cons]; exact List.mem_append_right _ hpp))
    show Option.bind _ _ = _
    rw [Option.bind_some]
    show Option.bind _ _ = _
    rw [b3]; rfl
  ·cases ht
theorem bulk_rows {e : Nat} : ∀ (rows : List (List AV)) (ds : List (DataW H)), rows.length = ds.length → (∀ (i : Nat) row d, rows[i]? = some row → ds[i]? = some d → wtL row ≤ Rows.uptoBulk d) → wtR rows ≤ Rows.uptoBulkAll ds
 | [], [], _, _ => by simp [Rows.uptoBulkAll]
 | t :: l, d :: ds, hl, h => by
  have h0 := h 0 t d rfl rfl
  have := bulk_rows (e := e) l ds (by simpa using hl) (fun i t d ht hd => h (i + 1) t d (by simpa using ht) (by simpa using hd))
  simp only [wtR_cons, Rows.uptoBulkAll]
  omega
theorem open_gen {ts : List TypeId} (hts : ∀ t ∈ ts, goodTy P ts t = true) : ∀ (n : Nat), ∀ t ∈ ts, Opens enc P W n t := by
 intro n
 induction n with
 | zero => intro t _ cs x h; simp [DataW.trod] at h
 | succ n ih =>
  intro t ht cs x h
  have hg := hts t ht
  unfold goodTy at hg
  split at hg
  ·rename_i k hu
   obtain ⟨m, rfl, rfl, hw⟩ := DataW.trod_int hu h
   refine ⟨[.int k m], CellsR.one rfl (.int _ _), (of_decide_eq_true hg).symm, by unfold Lay; rw [hu]; exact ⟨m, rfl, hw⟩, by simp [Rows.uptoBulk], rfl, fun W' sp _ _ => ?_⟩
   simp [DataW.trod, hu, hw]
  ·rename_i hu
   obtain ⟨b, rfl, rfl⟩ := DataW.trod_bool hu h
   refine ⟨[.bool b], CellsR.one rfl (.bool _), (of_decide_eq_true hg).symm, by unfold Lay; rw [hu]; exact ⟨b, rfl⟩, by simp [Rows.uptoBulk], rfl, fun W' sp _ _ => ?_⟩
   simp [DataW.trod, hu]
  ·rename_i hu
   obtain ⟨s, rfl, rfl, hw⟩ := DataW.trod_string hu h
   refine ⟨[.str s.data.toList], CellsR.one rfl ?_, (of_decide_eq_true hg).symm, by unfold Lay; rw [hu]; exact ⟨_, rfl⟩, by simp [Rows.uptoBulk], rfl, fun W' sp _ _ => ?_⟩
   ·have := Rep.str (C := C0 W) (μ := M0) s.data.toList
    simpa using this
   ·simp [DataW.trod, hu, hw]
  ·rename_i fs hu
   rw [Bool.and_eq_true, decide_eq_true_eq, List.all_eq_true] at hg
   have h' := h
   unfold DataW.trod at h'
   rw [hu] at h'
   simp only [] at h'
   split at h'
   ·rename_i hl
    obtain ⟨xs, hx, rfl⟩ := Option.map_eq_some_iff.1 h'
    rw [← hl] at hg
    obtain ⟨cz, c, y, w, r, b⟩ := open_fields ih fs.toList 0 hg.1 (fun f hf => of_decide_eq_true (hg.2 f hf)) xs hx
    rw [List.drop_zero] at c
    refine ⟨cz, c, hl, ?_, ?_, r, fun W' sp hs hp => ?_⟩
    ·unfold Lay
     rw [hu]
     refine ⟨by rw [c.1, hl], fun i f hf => ?_⟩
     have := y f (by rw [← Array.getElem?_toList] at hf; exact List.mem_of_getElem? hf)
     rw [Nat.sub_zero] at this
     exact this.2
    ·simp only [Rows.uptoBulk]; omega
    ·unfold DataW.trod
     rw [hu]
     simp only []
     rw [if_pos hl, b W' sp hs hp]; rfl
   ·cases h'
  ·rename_i e hu
   rw [Bool.and_eq_true, Bool.and_eq_true, decide_eq_true_eq, decide_eq_true_eq, decide_eq_true_eq] at hg
   obtain ⟨hc1, he, hpos⟩ := hg
   rcases DataW.trod_slice hu h with ⟨rfl, rfl⟩ | ⟨a, len, cap, elems, rest, n', e', rfl, rfl, hb, hlc, hmx, hel, hg, hsp, _⟩
   ·refine ⟨[.sl []], CellsR.one rfl .slNil, hc1.symm, by unfold Lay; rw [hu]; exact ⟨[], rfl, fun r hr => by simp at hr⟩, by simp [Rows.uptoBulk], rfl, fun W' sp _ _ => ?_⟩
    simp [DataW.trod, hu]
   ·obtain rfl : n' = n := by omega
    obtain ⟨hrl, hrg⟩ := hsp rfl
    have ihe := ih e he
    have tms : ∃ f : Nat → List AV, ∀ (i : Nat) y, elems[i]? = some y → ∃ cs', W.cells? 0 (a.add (i * P.cellsOf e)) (P.cellsOf e) = some cs' ∧ CellsR W cs' (f i) ∧ cs'.length = P.cellsOf e ∧ Lay P n' e (f i) ∧ wtL (f i) ≤ Rows.uptoBulk y.1 ∧ refsLtL 0 (f i) = true := by
     have : ∀ i : Nat, ∃ t : List AV, ∀ y, elems[i]? = some y → ∃ cs', W.cells? 0 (a.add (i * P.cellsOf e)) (P.cellsOf e) = some cs' ∧ CellsR W cs' t ∧ cs'.length = P.cellsOf e ∧ Lay P n' e t ∧ wtL t ≤ Rows.uptoBulk y.1 ∧ refsLtL 0 t = true := by
      intro i
      cases hy : elems[i]? with
      | none => exact ⟨default, fun y h => by cases h⟩
      | some y =>
       have hi : i < len := by rw [← hel]; exact (List.getElem?_eq_some_iff.1 hy).1
       obtain ⟨cs', h1, h2⟩ := Option.bind_eq_some_iff.1 ((hg i hi).trans hy)
       obtain ⟨t, h3, h4, h5, h6, h7, _⟩ := ihe _ _ h2
       exact ⟨t, fun y' hy' => by cases hy'; exact ⟨cs', h1, h3, h4, h5, h6, h7⟩⟩
     exact ⟨fun i => Classical.choose (this i), fun i => Classical.choose_spec (this i)⟩
    obtain ⟨f, hf⟩ := tms
    have hget : ∀ (i : Nat) (row : List AV), ((List.range len).map f)[i]? = some row → i < len ∧ row = f i := by
     intro i row hi
     have hil : i < len := by have := (List.getElem?_eq_some_iff.1 hi).1; simpa using this
     refine ⟨hil, ?_⟩
     rw [List.getElem?_map, List.getElem?_range hil] at hi
     simpa using hi.symm
    have hrow : ∀ (i : Nat) (row : List AV), ((List.range len).map f)[i]? = some row → row.length = P.cellsOf e ∧ Lay P n' e row ∧ refsLtL 0 row = true := by
     intro i row hi
     obtain ⟨hil, rfl⟩ := hget i row hi
     obtain ⟨cs', h1, h2, h3, h4, h5, h6⟩ := hf i _ (List.getElem?_eq_getElem (by omega))
     exact ⟨by rw [h2.1, h3], h4, h6⟩
    have hspot : ((List.range len).map f) ≠ [] → a.spot = none := by
     intro hne
     have hl0 : 0 < len := by
      rcases Nat.eq_zero_or_pos len with h0 | h0
      ·subst h0; exact absurd (by simp) hne
      ·exact h0
     obtain ⟨cs0, q1, _⟩ := hf 0 _ (List.getElem?_eq_getElem (by omega))
     have := (cells?_some q1 (by omega)).1
     simpa [Addr.add] using this
    have hcell : ∀ (i j : Nat) (row : List AV) x, ((List.range len).map f)[i]? = some row → row[j]? = some x → x.isCell = true ∧ ∃ v, W.cell? ⟨a.block, a.off + i * P.cellsOf e + j, none⟩ = some v ∧ Rep (C0 W) M0 x v := by
     intro i j row x hi hj
     have hs := hspot (by intro h0; rw [h0] at hi; simp at hi)
     obtain ⟨hil, rfl⟩ := hget i row hi
     obtain ⟨cs', h1, h2, h3, _⟩ := hf i _ (List.getElem?_eq_getElem (by omega))
     obtain ⟨s1, s2, s3⟩ := cells?_some h1 (by omega)
     have hjl : j < cs'.length := by
      rw [← h2.1]
      exact (List.getElem?_eq_some_iff.1 hj).1
     have h4 := h2.2 j x _ hj (List.getElem?_eq_getElem hjl)
     refine ⟨h4.1, _, ?_, h4.2⟩
     have := s3 j _ (List.getElem?_eq_getElem hjl)
     rw [addr_add' _ _ hs] at this
     exact this
    have hfree : refsLtR 0 ((List.range len).map f) = true := by
     have : ∀ l : List (List AV), (∀ r ∈ l, refsLtL 0 r = true) → refsLtR 0 l = true := by
      intro l
      induction l with
      | nil => intro _; rfl
      | cons r l ih => intro h; rw [refsLtR, h r (by simp), ih fun q hq => h q (by simp [hq])]; rfl
     refine this _ fun r hr => ?_
     obtain ⟨i, hi⟩ := List.getElem?_of_mem hr
     exact (hrow i r hi).2.2
    refine ⟨[.sl ((List.range len).map f)], CellsR.one rfl ?_, hc1.symm, ?_, ?_, rfl, fun W' sp hs hp => ?_⟩
    ·have := Rep.sl (C := C0 W) (μ := M0) ((List.range len).map f) a cap (P.cellsOf e) (fun i j => (W.cell? ⟨a.block, a.off + i * P.cellsOf e + j, none⟩).getD undef) hspot (fun i row hi => (hrow i row hi).1) (fun i j row x hi hj => ?_) (fun i j row x hi hj => ?_) (fun i j row x hi hj => ?_) (by simpa using hlc) hfree
     ·simpa using this
     ·obtain ⟨_, v, h1, _⟩ := hcell i j row x hi hj
      show W.cell? _ = _
      rw [h1]; rfl
     ·obtain ⟨_, v, h1, h2⟩ := hcell i j row x hi hj
      rw [h1]; exact h2
     ·exact (hcell i j row x hi hj).1
    ·unfold Lay
     rw [hu]
     refine ⟨_, rfl, fun row hr => ?_⟩
     obtain ⟨i, hi⟩ := List.getElem?_of_mem hr
     exact ⟨(hrow i row hi).1, (hrow i row hi).2.1⟩
    ·simp only [Rows.uptoBulk, wtL_cons, wtL_nil, wt_sl]
     have := bulk_rows (e := 0) ((List.range len).map f) (elems.map (·.1)) (by simp [hel]) (fun i t d ht hd => by
      rw [List.getElem?_map] at ht hd
      obtain ⟨j, hj, rfl⟩ := Option.map_eq_some_iff.1 ht
      obtain ⟨y, hy, rfl⟩ := Option.map_eq_some_iff.1 hd
      have hil : i < len := by have := (List.getElem?_eq_some_iff.1 hj).1; simpa using this
      rw [List.getElem?_range hil] at hj
      cases hj
      obtain ⟨_, _, _, _, _, h5, _⟩ := hf i y hy
      exact h5)
     omega
    ·have hrow' : 0 < (elems.length + rest.length) → sp a.block = true := fun hps => hp (.cell a.block (a.off + 0)) (by
      rw [List.mem_append]
      exact .inl (MemPlace.mem_row.2 ⟨0, Nat.mul_pos hps hpos, rfl⟩))
     unfold DataW.trod at h ⊢
     rw [hu] at h ⊢
     simp only [if_true] at h ⊢
     rw [if_pos ⟨hb, hlc, hmx⟩] at h ⊢
     simp only [Option.map_eq_some_iff, Option.bind_eq_some_iff] at h ⊢
     obtain ⟨elems', he, rest', hr, hx⟩ := h
     have hlen : elems'.length = len := by simpa using mapM_some_length he
     have hrl' : rest'.length = cap - len := by simpa using mapM_some_length hr
     simp only [Prod.mk.injEq, DataW.slice.injEq] at hx
     have one' : ∀ (i : Nat) (y : DataW H × List MemPlace), i < elems'.length + rest'.length → y ∈ elems' ++ rest' →
       (W.cells? 0 (a.add (i * P.cellsOf e)) (P.cellsOf e)).bind (DataW.trod enc P W 0 (fun _ => true) true n' e) = some y → (W'.cells? 0 (a.add (i * P.cellsOf e)) (P.cellsOf e)).bind (DataW.trod enc P W' 0 sp true n' e) = some y := by
      intro i y hi hy hv
      simp only [Option.bind_eq_some_iff] at hv ⊢
      obtain ⟨cs', hc', hy'⟩ := hv
      obtain ⟨_, _, _, _, _, _, hbk⟩ := ihe _ _ hy'
      refine ⟨cs', World.cells?_carry hc' (fun p hpp => hs p ?_), hbk W' sp (fun p hpp => hs p ?_) (fun p hpp => hp p ?_)⟩
      ·rw [← hx.2]
       obtain ⟨j, hj, rfl⟩ := MemPlace.mem_row.1 hpp
       simp only [List.mem_append]
       left
       refine MemPlace.mem_row.2 ⟨i * P.cellsOf e + j, ?_, ?_⟩
       ·calc i * P.cellsOf e + j < i * P.cellsOf e + P.cellsOf e := by omega
         _ = (i + 1) * P.cellsOf e := by rw [Nat.add_mul, Nat.one_mul]
         _ ≤ (elems'.length + rest'.length) * P.cellsOf e := Nat.mul_le_mul_right _ hi
       ·unfold Addr.add
        split
        ·rename_i h0
         simp [h0]
        ·simp [Nat.add_assoc]
      ·rw [← hx.2]
       simp only [List.mem_append, List.mem_flatMap]
       right
       exact ⟨y, by simpa using hy, hpp⟩
      ·rw [← hx.2]
       simp only [List.mem_append, List.mem_flatMap]
       right
       exact ⟨y, by simpa using hy, hpp⟩
     refine ⟨elems', mapM_carry he (fun i y hi hy => one' i y (by have : i < len := (by simpa using hi); omega) (by simp [hy])), rest', ?_, by simp only [Prod.mk.injEq, DataW.slice.injEq]; exact hx⟩
     by_cases h0 : 0 < elems.length + rest.length
     ·rw [if_pos (hrow' h0)]
      exact mapM_carry hr (fun j y hj hy => one' (len + j) y (by have : j < cap - len := (by simpa using hj); omega) (by simp [hy]))
     ·have hc0 : cap - len = 0 := by omega
      rw [hc0] at hr ⊢
      simp at hr
      subst hr
      split <;> rfl
  ·cases hg
theorem open_struct {ts : List TypeId} (hts : ∀ t ∈ ts, goodTy P ts t = true) {t : TypeId} (ht : t ∈ ts) {fs : Array Field} (hu : P.underlying t = some (.struct fs)) {r : Reach} {b0 : Nat} {v : Value} {d : DataW H} {ps : List MemPlace}
  (hval : Value.okWide P W r b0 t v) (hd : DataW.Trod enc P W 0 (fun _ => true) true t v d ps) :
  ∃ (cz : List AV) (n : Nat), Opened enc P W t v d ps (.agg cz) ∧ Lay P n t cz ∧ wtL cz ≤ Rows.uptoBulk d := by
 obtain ⟨cs, rfl, hsz⟩ := okWide_struct hu hval
 obtain ⟨n, hn⟩ := hd
 obtain ⟨cz, h1, h2, h3, h4, h5, h6⟩ := open_gen hts n t ht _ _ hn
 refine ⟨cz, n, ⟨?_, fun W' sp hs hp => ⟨n, h6 W' sp hs hp⟩⟩, h3, h4⟩
 have := Rep.agg (C := C0 W) (μ := M0) cz cs.toList (by
  have := h1.1
  simpa [Value.cells] using this) (fun i a v ha hv => (h1.2 i a v ha (by simpa [Value.cells] using hv)).2)
 simpa using this
end
theorem lay_terms {P : Program} {tT tL tI tS : TypeId} (T : TermTys P tT tL tI tS) : ∀ (n : Nat),
  (∀ cz, Lay P n tT cz → ∃ t : Tm, cz = t.cells ∧ t.w < wtL cz) ∧ (∀ cz, Lay P n tL cz → ∃ l : List Tm, cz = [.sl (rowsT l)] ∧ wL l < wtL cz) := by
 intro n
 induction n with
 | zero => exact ⟨fun cz h => absurd h (by unfold Lay; exact id), fun cz h => absurd h (by unfold Lay; exact id)⟩
 | succ n ih =>
  refine ⟨fun cz h => ?_, fun cz h => ?_⟩
  ·obtain ⟨f0, f1, f2, f3, hu, t0, o0, t1, o1, t2, o2, t3, o3⟩ := T.uT
   unfold Lay at h
   rw [hu] at h
   obtain ⟨hl, hf⟩ := h
   rw [T.cT] at hl
   obtain ⟨c0, c1, c2, c3, rfl⟩ : ∃ c0 c1 c2 c3, cz = [c0, c1, c2, c3] := by
    match cz, hl with
    | [a, b, c, d], _ => exact ⟨a, b, c, d, rfl⟩
   have h0 := hf 0 f0 rfl
   have h1 := hf 1 f1 rfl
   have h2 := hf 2 f2 rfl
   have h3 := hf 3 f3 rfl
   rw [t0, o0, T.cI] at h0
   rw [t1, o1, T.cI] at h1
   rw [t2, o2, T.cS] at h2
   rw [t3, o3, T.cL] at h3
   simp at h0 h1 h2 h3
   cases n with
   | zero => exact absurd h0 (by unfold Lay; exact id)
   | succ n =>
    obtain ⟨l, e3, w3⟩ := ih.2 _ h3
    unfold Lay at h0 h1 h2
    rw [T.uI] at h0 h1
    rw [T.uS] at h2
    obtain ⟨k, e0, _⟩ := h0
    obtain ⟨m, e1, _⟩ := h1
    obtain ⟨s, e2⟩ := h2
    simp at e0 e1 e2 e3
    subst e0 e1 e2 e3
    refine ⟨.mk k m s l, by rw [Tm.cells_mk], ?_⟩
    rw [Tm.w_mk]
    simp only [wtL_cons, wtL_nil, wt_int, wt_str, wt_sl] at w3 ⊢
    omega
  ·unfold Lay at h
   rw [T.uL] at h
   obtain ⟨rows, rfl, hr⟩ := h
   have : ∀ rows : List (List AV), (∀ row ∈ rows, row.length = P.cellsOf tT ∧ Lay P n tT row) → ∃ l : List Tm, rows = rowsT l ∧ wL l ≤ wtR rows := by
    intro rows
    induction rows with
    | nil => intro _; exact ⟨[], by rw [rowsT_nil], by simp⟩
    | cons r rows ihr =>
     intro h
     obtain ⟨t, e1, w1⟩ := ih.1 r (h r (by simp)).2
     obtain ⟨l, e2, w2⟩ := ihr fun q hq => h q (by simp [hq])
     refine ⟨t :: l, by rw [rowsT_cons, ← e1, ← e2], ?_⟩
     simp; omega
   obtain ⟨l, rfl, w⟩ := this rows hr
   exact ⟨l, rfl, by simp; omega⟩
theorem lay_rows {α : Type} {P : Program} {n : Nat} {e : TypeId} {f : α → List AV} {w : α → Nat} (h : ∀ cz, Lay P n e cz → ∃ x : α, cz = f x ∧ w x < wtL cz) : ∀ rows : List (List AV), (∀ row ∈ rows, row.length = P.cellsOf e ∧ Lay P n e row) →
  ∃ l : List α, rows = l.map f ∧ (∀ x ∈ l, w x < wtR rows) ∧ l.length ≤ wtR rows := by
 intro rows
 induction rows with
 | nil => intro _; exact ⟨[], rfl, fun x hx => by simp at hx, by simp⟩
 | cons r rows ih =>
  intro hr
  obtain ⟨x, e1, w1⟩ := h r (hr r (by simp)).2
  obtain ⟨l, e2, w2, w3⟩ := ih fun q hq => hr q (by simp [hq])
  refine ⟨x :: l, by rw [List.map_cons, ← e1, ← e2], fun y hy => ?_, by simp; omega⟩
  rcases List.mem_cons.1 hy with rfl | hy
  ·simp; omega
  ·have := w2 y hy; simp; omega
theorem bulk_le {H : Type} {l : List (DataW H)} (hk : Rows.uptoSmall H l = true) {d : DataW H} (hd : d ∈ l) : Rows.uptoBulk d ≤ 1048576 := by
 have h : Rows.uptoBulkAll l ≤ 1048576 := of_decide_eq_true hk
 have := bulk_part hd
 omega
end Go.Proofs.YtkgkjngbfdnoiaaGreat
end
