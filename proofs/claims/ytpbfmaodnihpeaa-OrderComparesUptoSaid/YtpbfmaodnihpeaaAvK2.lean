/-
  What the evaluation with what follows handed along tells, the evaluation tells too: operations. Own work.
  What is proved: that, without condition.
-/
import Derived.Test.YtpbfmaodnihpeaaAvK
namespace Go.Av
variable {α : Type} {r : α} {H : AH}

theorem cond_some {b : Bool} {x : Option α} (h : cond b x none = some r) : b = true ∧ x = some r := by cases b <;> simp_all
theorem condn_some {b : Bool} {x : Option α} (h : cond b none x = some r) : b = false ∧ x = some r := by cases b <;> simp_all
theorem cond_or {b : Bool} {x y : Option α} (h : cond b x y = some r) : (b = true ∧ x = some r) ∨ (b = false ∧ y = some r) := by cases b <;> simp_all
theorem kindEq_eq {a b : IntKind} (h : kindEq a b = true) : a = b := by simpa [kindEq] using h
theorem leInt_iff {a b : Int} : leInt a b = true ↔ a ≤ b := by simp [leInt]
theorem ltInt_iff {a b : Int} : ltInt a b = true ↔ a < b := by simp [ltInt]

theorem kInt_some {kd : IntKind} {v : AV} {k : Int → Option α} (h : kInt kd v k = some r) : ∃ n, v = .int kd n ∧ k n = some r := by
  unfold kInt at h
  split at h
  · obtain ⟨h1, h2⟩ := cond_some h
    rw [kindEq_eq h1]; exact ⟨_, rfl, h2⟩
  · cases h
theorem kBool_some {v : AV} {k : Bool → Option α} (h : kBool v k = some r) : ∃ b, v = .bool b ∧ k b = some r := by
  unfold kBool at h; split at h
  · exact ⟨_, rfl, h⟩
  · cases h
theorem kStr_some {v : AV} {k : List UInt8 → Option α} (h : kStr v k = some r) : ∃ b, v = .str b ∧ k b = some r := by
  unfold kStr at h; split at h
  · exact ⟨_, rfl, h⟩
  · cases h
theorem kAgg_some {v : AV} {k : List AV → Option α} (h : kAgg v k = some r) : ∃ b, v = .agg b ∧ k b = some r := by
  unfold kAgg at h; split at h
  · exact ⟨_, rfl, h⟩
  · cases h
theorem kOpt_some {β : Type} {o : Option β} {k : β → Option α} (h : kOpt o k = some r) : ∃ b, o = some b ∧ k b = some r := by
  unfold kOpt at h; split at h
  · exact ⟨_, rfl, h⟩
  · cases h
theorem kCons_some {l : List AV} {k : AV → List AV → Option α} (h : kCons l k = some r) : ∃ a b, l = a :: b ∧ k a b = some r := by
  unfold kCons at h; split at h
  · exact ⟨_, _, rfl, h⟩
  · cases h
theorem kNil_some {l : List AV} {x : Option α} (h : kNil l x = some r) : l = [] ∧ x = some r := by
  unfold kNil at h; split at h
  · exact ⟨rfl, h⟩
  · cases h

theorem kForce_some {s : FK} {v : AV} {k : KV α} (h : kForce s v k = some r) : k v = some r := by
  cases s with
  | int kd => obtain ⟨n, rfl, h1⟩ := kInt_some h; exact h1
  | bool => obtain ⟨n, rfl, h1⟩ := kBool_some h; exact h1
  | str => obtain ⟨n, rfl, h1⟩ := kStr_some h; exact h1
  | sl =>
    have h : kSl v (fun rows => k (.sl rows)) = some r := h
    unfold kSl at h
    split at h
    · exact h
    · cases h
  | any => exact h
theorem kCells_some : ∀ {ss : List FK} {l : List AV} {k : List AV → Option α}, kCells ss l k = some r → k l = some r
  | [], l, k, h => by
    obtain ⟨rfl, h1⟩ := kNil_some h
    exact h1
  | s :: ss, l, k, h => by
    obtain ⟨a, b, rfl, h1⟩ := kCons_some h
    exact kCells_some (k := fun vs => k (a :: vs)) (kForce_some (k := fun v => kCells ss b fun vs => k (v :: vs)) h1)
theorem kTy_some {p : TypeId → Bool} {cfg : Cfg} {t : TypeId} {v : AV} {k : KV α} (h : kTy p cfg t v k = some r) : k v = some r := by
  unfold kTy at h
  have agg : ∀ {ss : List FK}, (kAgg v fun cs => kCells ss cs fun vs => k (.agg vs)) = some r → k v = some r := by
    intro ss h
    obtain ⟨cs, rfl, h⟩ := kAgg_some h
    exact kCells_some (k := fun vs => k (.agg vs)) h
  split at h
  · split at h
    · split at h
      · exact agg h
      · exact h
    · split at h
      · exact agg h
      · exact h
    · exact kForce_some h
  · exact h

theorem kNew_some {nid : Option Nat} {b : ABlk} {k : Nat → AH → Option α} (h : kNew nid H b k = some r) : ∃ i H', aNew nid H b = some (i, H') ∧ k i H' = some r := by
  unfold kNew at h
  unfold aNew
  cases nid with
  | none => exact ⟨_, _, rfl, h⟩
  | some i =>
    simp only at h ⊢
    obtain ⟨x, hx, h⟩ := kOpt_some h
    rw [hx]
    split at h
    · exact ⟨_, _, rfl, h⟩
    · cases h

theorem isCell_cells {v : AV} (h : v.isCell = true) : v.cells = some [v] := by cases v <;> simp_all [AV.isCell, AV.cells]
theorem kCellsOf_some {agg : Bool} {v : AV} {k : List AV → Option α} (h : kCellsOf agg v k = some r) : ∃ cs, v.cells = some cs ∧ k cs = some r := by
  unfold kCellsOf at h
  rcases cond_or h with ⟨_, h⟩ | ⟨_, h⟩
  · obtain ⟨cs, rfl, h⟩ := kAgg_some h
    obtain ⟨h1, h2⟩ := cond_some h
    exact ⟨cs, by simp [AV.cells, h1], h2⟩
  · obtain ⟨h1, h2⟩ := cond_some h
    exact ⟨_, isCell_cells h1, h2⟩

theorem kPick_some {t : Bool} {a b : AV} {k : KV α} (h : kPick t a b k = some r) : k (if t then a else b) = some r := by
  have sp : ∀ {a b : AV}, cond t (k a) (k b) = some r → k (if t then a else b) = some r := by
    intro a b h
    cases t <;> simpa using h
  unfold kPick at h
  split at h
  · cases t <;> simpa using h
  · rcases cond_or h with ⟨h1, h⟩ | ⟨_, h⟩
    · have := kindEq_eq h1; subst this
      cases t <;> simpa using h
    · exact sp h
  · exact sp h

theorem kFill_some {place : Nat → Option (Nat × Nat × Bool)} {place' : Nat → Option (Nat × Nat)} (hp : ∀ i off n g, place i = some (off, n, g) → place' i = some (off, n)) : ∀ {parts : List (Nat × AV)} {cells : List AV} {k : List AV → Option α},
    kFill place cells parts k = some r → ∃ cs, aFill place' cells parts = some cs ∧ k cs = some r
  | [], cells, k, h => ⟨cells, rfl, h⟩
  | (i, v) :: rest, cells, k, h => by
    rw [kFill] at h
    split at h
    · rename_i off n g hi
      obtain ⟨cs, h1, h⟩ := kCellsOf_some h
      obtain ⟨h2, h⟩ := cond_some h
      obtain ⟨cs', h3, h4⟩ := kFill_some hp h
      refine ⟨cs', ?_, h4⟩
      rw [Bool.and_eq_true] at h2
      rw [aFill, hp _ _ _ _ hi, h1]
      simp only
      rw [if_pos]
      · exact h3
      · rw [Bool.and_eq_true, beq_iff_eq]
        exact ⟨Nat.eq_of_beq_eq_true h2.1, h2.2⟩
    · cases h

theorem placesK_of {cfg : Cfg} : ∀ {fs : List (Nat × TypeId)} {ps : List (Nat × Nat × Bool)}, placesK cfg fs = some ps → ∃ qs, placesOf cfg fs = some qs ∧ ∀ (i off n : Nat) (g : Bool), ps[i]? = some (off, n, g) → qs[i]? = some (off, n)
  | [], ps, h => by cases h; exact ⟨[], rfl, fun i off n g h => by simp at h⟩
  | (off, t) :: l, ps, h => by
    rw [placesK] at h
    split at h
    · rename_i n ps' h1 h2
      cases h
      obtain ⟨qs, h3, h4⟩ := placesK_of h2
      refine ⟨(off, n) :: qs, by rw [placesOf, h1, h3], fun i o m g hi => ?_⟩
      cases i with
      | zero => simp at hi ⊢; exact ⟨hi.1, hi.2.1⟩
      | succ i => simpa using h4 i o m g (by simpa using hi)
    · cases h

theorem kRows_some {agg : Bool} {n : Nat} : ∀ {parts : List (Nat × AV)} {rows : List (List AV)} {k : List (List AV) → Option α}, kRows agg n rows parts k = some r → ∃ rs, aRows n rows parts = some rs ∧ k rs = some r
  | [], rows, k, h => ⟨rows, rfl, h⟩
  | (i, v) :: rest, rows, k, h => by
    rw [kRows] at h
    obtain ⟨cs, h1, h⟩ := kCellsOf_some h
    obtain ⟨h2, h⟩ := cond_some h
    obtain ⟨rs, h3, h4⟩ := kRows_some h
    refine ⟨rs, ?_, h4⟩
    rw [Bool.and_eq_true] at h2
    rw [aRows, h1]
    simp only
    rw [if_pos]
    · exact h3
    · rw [Bool.and_eq_true, beq_iff_eq]
      exact ⟨Nat.eq_of_beq_eq_true h2.1, h2.2⟩

theorem kBlk_some {id : Nat} {k : Nat → List (List AV) → Option α} (h : kBlk H id k = some r) : ∃ sz rs, blkRows H id = some (sz, rs) ∧ k sz rs = some r := by
  unfold kBlk at h
  obtain ⟨b, hb, h⟩ := kOpt_some h
  unfold blkRows
  rw [hb]
  split at h
  · exact ⟨_, _, rfl, h⟩
  · exact ⟨_, _, rfl, h⟩
  · cases h
theorem kFrz1_some {g s : Bool} {v : AV} {k : KV α} (h : kFrz1 g s H v k = some r) : (∀ ids, (∀ id off len, v = .ms id off len → id ∈ ids) → s = false → k (cond g (v.frz1 ids H).fg1 (v.frz1 ids H)) = some r) ∧ (s = true → k (cond g (v.snap1 H).fg1 (v.snap1 H)) = some r) := by
  unfold kFrz1 at h
  split at h
  · rename_i id off len
    obtain ⟨sz, rs, h1, h⟩ := kBlk_some h
    rcases hc : (Nat.ble (off + len) rs.length && (blkFree H id || refsLtR 0 ((rs.drop off).take len))) with _ | _
    · rw [hc] at h; cases h
    · rw [hc] at h
      have h : k (.sl ((rs.drop off).take len)) = some r := h
      have aux : ∀ ids : List Nat, id ∈ ids → (AV.ms id off len).frz1 ids H = .sl ((rs.drop off).take len) := by
        intro ids hi
        simp only [AV.frz1, h1]
        rw [if_pos]
        rw [Bool.and_assoc, hc, Bool.and_true]
        exact hasId_iff.2 hi
      refine ⟨fun ids hi _ => ?_, fun _ => ?_⟩
      · rw [aux ids (hi _ _ _ rfl)]; cases g <;> exact h
      · simp only [AV.snap1]; rw [aux [id] (by simp)]; cases g <;> exact h
  · refine ⟨fun ids _ _ => ?_, fun _ => ?_⟩ <;> (cases g <;> exact h)
  · rename_i id r' off
    cases s with
    | false => exact ⟨fun ids _ _ => by cases g <;> exact h, fun h => by cases h⟩
    | true =>
      refine ⟨fun _ _ h => by (cases h), fun _ => ?_⟩
      obtain ⟨sz, rs, h1, h⟩ := kBlk_some h
      obtain ⟨row, h2, h⟩ := kOpt_some h
      simp only [AV.snap1, h1, h2]
      cases g <;> exact h
  · rename_i hn1 hn2 hn3
    refine ⟨fun ids _ _ => ?_, fun _ => ?_⟩
    · have : v.frz1 ids H = v := by
        cases v <;> first | rfl | exact absurd rfl (hn1 _ _ _)
      rw [this]
      have : v.fg1 = v := by
        cases v <;> first | rfl | exact absurd rfl hn2
      rw [this]; cases g <;> exact h
    · have : v.snap1 H = v := by
        cases v <;> first | rfl | exact absurd rfl (hn1 _ _ _) | exact absurd rfl (hn3 _ _ _)
      rw [this]
      have : v.fg1 = v := by
        cases v <;> first | rfl | exact absurd rfl hn2
      rw [this]; cases g <;> exact h

theorem kFrzL_frz {g : Bool} {ids : List Nat} : ∀ {l : List AV} {k : List AV → Option α}, (∀ v ∈ l, ∀ id off len, v = .ms id off len → id ∈ ids) → kFrzL g false H l k = some r → k (l.map fun v => cond g (v.frz1 ids H).fg1 (v.frz1 ids H)) = some r
  | [], k, _, h => h
  | a :: l, k, hi, h => by
    rw [kFrzL] at h
    have h1 := (kFrz1_some h).1 ids (hi a (by simp)) rfl
    exact kFrzL_frz (k := fun l => k (cond g (a.frz1 ids H).fg1 (a.frz1 ids H) :: l)) (fun v hv => hi v (by simp [hv])) h1
theorem kFrzL_snap {g : Bool} : ∀ {l : List AV} {k : List AV → Option α}, kFrzL g true H l k = some r → k (l.map fun v => cond g (v.snap1 H).fg1 (v.snap1 H)) = some r
  | [], k, h => h
  | a :: l, k, h => by
    rw [kFrzL] at h
    have h1 := (kFrz1_some h).2 rfl
    exact kFrzL_snap (k := fun l => k (cond g (a.snap1 H).fg1 (a.snap1 H) :: l)) h1

theorem msIds_mem {l : List AV} {v : AV} (hv : v ∈ l) {id off len : Nat} (h : v = .ms id off len) : id ∈ l.flatMap AV.msId := by
  subst h
  exact List.mem_flatMap.2 ⟨_, hv, by simp [AV.msId]⟩

theorem kFrzA_frz {v : AV} {k : KV α} (h : kFrzA false H v k = some r) : k (v.frz v.msIds H).fg = some r := by
  unfold kFrzA at h
  split at h
  · rename_i cs
    have := kFrzL_frz (ids := cs.flatMap AV.msId) (fun v hv id off len e => msIds_mem hv e) h
    simpa [AV.frz, AV.fg, AV.msIds, Function.comp_def] using this
  · rename_i cs
    have := kFrzL_frz (k := fun cs => k (.tup cs)) (ids := cs.flatMap AV.msId) (fun v hv id off len e => msIds_mem hv e) h
    simpa [AV.frz, AV.fg, AV.msIds, Function.comp_def] using this
  · exact h
  · rename_i h1 h2 h3
    have h4 := (kFrz1_some h).1 v.msIds (fun id off len e => by subst e; simp [AV.msIds, AV.msId]) rfl
    have e1 : v.frz v.msIds H = v.frz1 v.msIds H := by
      cases v <;> first | rfl | exact absurd rfl (h1 _) | exact absurd rfl (h2 _)
    have e2 : (v.frz1 v.msIds H).fg = (v.frz1 v.msIds H).fg1 := by
      cases v <;> first | rfl | exact absurd rfl (h1 _) | exact absurd rfl (h2 _) | skip
      simp only [AV.frz1]
      split
      · split <;> rfl
      · rfl
    rw [e1, e2]; exact h4
theorem kFrzA_snap {v : AV} {k : KV α} (h : kFrzA true H v k = some r) : k (v.snap H).fg = some r := by
  unfold kFrzA at h
  split at h
  · rename_i cs
    have := kFrzL_snap h
    simpa [AV.snap, AV.fg, Function.comp_def] using this
  · exact h
  · rename_i f a b
    have h2 := kFrzL_snap (k := fun a => kFrzL false true H b fun b => k (.fn f a b)) h
    have h3 := kFrzL_snap (k := fun b => k (.fn f (a.map (AV.snap1 H)) b)) h2
    exact h3
  · rename_i h1 h2 h3
    have h4 := (kFrz1_some h).2 rfl
    have e1 : v.snap H = v.snap1 H := by
      cases v <;> first | rfl | exact absurd rfl (h1 _) | exact absurd rfl (h3 _ _ _)
    have e2 : (v.snap1 H).fg = (v.snap1 H).fg1 := by
      cases v <;> first | rfl | exact absurd rfl (h1 _) | exact absurd rfl (h2 _) | skip
      · simp only [AV.snap1, AV.frz1]
        split
        · split <;> rfl
        · rfl
      · simp only [AV.snap1]
        split
        · split <;> rfl
        · rfl
    rw [e1, e2]; exact h4
theorem kArgs_some : ∀ {l : List AV} {k : List AV → Option α}, kArgs H l k = some r → k (l.map fun a => (a.snap H).fg) = some r
  | [], k, h => h
  | a :: l, k, h => by
    rw [kArgs] at h
    have h1 := kFrzA_snap h
    exact kArgs_some (k := fun l => k ((a.snap H).fg :: l)) h1

theorem kBlkW_some {id : Nat} {k : Bool → Nat → List (List AV) → Option α} (h : kBlkW H id k = some r) : ∃ d sz rs, H[id]? = some (.rows d sz rs) ∧ k d sz rs = some r := by
  unfold kBlkW at h
  obtain ⟨b, hb, h⟩ := kOpt_some h
  split at h
  · exact ⟨_, _, _, hb, h⟩
  · cases h

theorem kPart_some {agg : Bool} {n off : Nat} {cells : List AV} {k : KV α} (h : kPart agg n cells off k = some r) :
    ∃ v, (if agg then (if Nat.ble (off + n) cells.length then some (AV.agg ((cells.drop off).take n)) else none) else cells[off]?) = some v ∧ k v = some r := by
  unfold kPart at h
  rcases cond_or h with ⟨rfl, h⟩ | ⟨rfl, h⟩
  · obtain ⟨h1, h2⟩ := cond_some h
    exact ⟨_, by simp [h1], h2⟩
  · obtain ⟨v, h1, h2⟩ := kOpt_some h
    exact ⟨v, by simp [h1], h2⟩

theorem kLoad_some {agg : Bool} {n : Nat} {p : AV} {k : KV α} (h : kLoad agg n H p k = some r) : ∃ v, aLoad agg n H p = some v ∧ k v = some r := by
  unfold kLoad at h
  unfold aLoad
  split at h
  · obtain ⟨sz, rs, h1, h⟩ := kBlk_some h
    obtain ⟨row, h2, h⟩ := kOpt_some h
    obtain ⟨v, h3, h4⟩ := kPart_some h
    exact ⟨v, by simp only [h1, h2]; exact h3, h4⟩
  · obtain ⟨v, h3, h4⟩ := kPart_some h
    exact ⟨v, h3, h4⟩
  · cases h

theorem kStore_some {agg : Bool} {n : Nat} {p v : AV} {k : AH → Option α} (h : kStore agg n H p v k = some r) : ∃ H', aStore n H p v = some H' ∧ k H' = some r := by
  unfold kStore at h
  unfold aStore
  split at h
  · obtain ⟨cs, h1, h⟩ := kCellsOf_some h
    obtain ⟨d, sz, rs, h2, h⟩ := kBlkW_some h
    obtain ⟨row, h3, h⟩ := kOpt_some h
    obtain ⟨h4, h⟩ := cond_some h
    rw [Bool.and_eq_true] at h4
    refine ⟨_, ?_, h⟩
    simp only [h1, h2, h3]
    rw [if_pos]
    rw [Bool.and_eq_true, beq_iff_eq]
    exact ⟨Nat.eq_of_beq_eq_true h4.1, h4.2⟩
  · cases h

theorem kBound_some {lo hi d : Nat} {x : Option AV} {k : Nat → Option α} (h : kBound lo hi x d k = some r) : ∃ n, bound? lo hi x d = some n ∧ k n = some r := by
  unfold kBound at h
  unfold bound?
  split at h
  · exact ⟨_, rfl, h⟩
  · split at h
    · obtain ⟨h1, h⟩ := cond_some h
      rw [Bool.and_eq_true, leInt_iff, leInt_iff] at h1
      exact ⟨_, by simp only; rw [if_pos h1], h⟩
    · cases h

theorem kSliceBd_some {n : Nat} {lo hi mx : Option AV} {k : Nat → Nat → Option α} (h : kSliceBd n lo hi mx k = some r) : ∃ l h', sliceBd n lo hi mx = some (l, h') ∧ k l h' = some r := by
  unfold kSliceBd at h
  obtain ⟨h0, h⟩ := condn_some h
  obtain ⟨a, h1, h⟩ := kBound_some h
  obtain ⟨b, h2, h⟩ := kBound_some h
  obtain ⟨c, h3, h⟩ := kBound_some h
  refine ⟨c, a, ?_, h⟩
  unfold sliceBd
  rw [if_neg (by rw [h0]; simp), h1]
  simp only [h2, h3]

theorem kSlice_some {cfg : Cfg} {t : TypeId} {x : AV} {lo hi mx : Option AV} {k : KV α} (h : kSlice cfg t H x lo hi mx k = some r) : ∃ v, aSlice cfg t H x lo hi mx = some v ∧ k v = some r := by
  unfold kSlice at h
  unfold aSlice
  split at h
  · rename_i ht
    rw [ht]
    split at h
    · split at h
      · obtain ⟨l, h', h1, h⟩ := kSliceBd_some h
        exact ⟨_, by simp only [h1], h⟩
      · cases h
    · cases h
  · rename_i e ht
    rw [ht]
    split at h
    · rename_i n hn
      split at h
      · obtain ⟨l, h', h1, h⟩ := kSliceBd_some h
        exact ⟨_, by simp only [hn, h1], h⟩
      · obtain ⟨l, h', h1, h⟩ := kSliceBd_some h
        obtain ⟨h2, h⟩ := cond_some h
        exact ⟨_, by simp only [hn, h1, h2, if_true], h⟩
      · obtain ⟨l, h', h1, h⟩ := kSliceBd_some h
        obtain ⟨sz, rs, h2, h⟩ := kBlk_some h
        obtain ⟨h3, hz⟩ := cond_some h
        have := Nat.eq_of_beq_eq_true h3
        subst this
        exact ⟨_, by simp [hn, h1, h2], hz⟩
      · cases h
    · cases h
  · cases h

theorem kIndexAddr_some {cfg : Cfg} {t : TypeId} {x i : AV} {k : KV α} (h : kIndexAddr cfg t H x i k = some r) : ∃ v, aIndexAddr cfg t H x i = some v ∧ k v = some r := by
  unfold kIndexAddr at h
  unfold aIndexAddr
  split at h
  case h_2 => cases h
  rename_i kk i
  split at h
  · rename_i e ht
    rw [ht]
    split at h
    case h_2 => cases h
    rename_i n hn
    split at h
    · obtain ⟨sz, rs, h1, h⟩ := kBlk_some h
      obtain ⟨h2, hz⟩ := cond_some h
      rw [Bool.and_eq_true, Bool.and_eq_true, leInt_iff, ltInt_iff] at h2
      have := Nat.eq_of_beq_eq_true h2.1.1
      subst this
      exact ⟨_, by simp [hn, h1, h2.1.2, h2.2], hz⟩
    · obtain ⟨h2, h⟩ := cond_some h
      rw [Bool.and_eq_true, leInt_iff, ltInt_iff] at h2
      obtain ⟨row, h3, h⟩ := kOpt_some h
      obtain ⟨h4, hz⟩ := cond_some h
      refine ⟨.cptr row 0, ?_, hz⟩
      have h5 := Nat.eq_of_beq_eq_true h4
      simp only [hn, if_pos h2, h3]
      rw [if_pos (by rw [h5]; exact beq_self_eq_true n)]
    · cases h
  · rename_i m e ht
    rw [ht]
    split at h
    case h_2 => cases h
    rename_i n hn
    split at h
    · obtain ⟨h2, h⟩ := cond_some h
      rw [Bool.and_eq_true, leInt_iff, ltInt_iff] at h2
      exact ⟨_, by simp [hn, h2.1, h2.2], h⟩
    · obtain ⟨h2, h⟩ := cond_some h
      rw [Bool.and_eq_true, leInt_iff, ltInt_iff] at h2
      exact ⟨_, by simp [hn, h2.1, h2.2], h⟩
    · cases h
  · cases h

theorem ty_sz {cfg : Cfg} {t : TypeId} {ti : TI} (h : cfg.ty t = some ti) : cfg.sz t = some ti.sz ∧ cfg.td t = some ti.d := by
  unfold Cfg.sz Cfg.td; rw [h]; exact ⟨rfl, rfl⟩

theorem kIndex_some {cfg : Cfg} {t : TypeId} {x i : AV} {k : KV α} (h : kIndex cfg t x i k = some r) : ∃ v, aIndex cfg t x i = some v ∧ k v = some r := by
  unfold kIndex at h
  unfold aIndex
  split at h
  case h_2 => cases h
  rename_i kk i
  split at h
  · rename_i n e ht
    rw [ht]
    split at h
    case h_2 => cases h
    rename_i ti hti
    obtain ⟨cs, rfl, h⟩ := kAgg_some h
    obtain ⟨h2, h⟩ := cond_some h
    rw [Bool.and_eq_true, leInt_iff, ltInt_iff] at h2
    obtain ⟨v, h3, h⟩ := kPart_some h
    refine ⟨v, ?_, h⟩
    simp only [(ty_sz hti).1]
    rw [if_pos h2]
    unfold aPart
    rw [hti]
    exact h3
  · rename_i ht
    rw [ht]
    obtain ⟨s, rfl, h⟩ := kStr_some h
    obtain ⟨h2, h⟩ := cond_some h
    rw [leInt_iff] at h2
    obtain ⟨b, h3, h⟩ := kOpt_some h
    exact ⟨_, by simp [h2, h3], h⟩
  · cases h

theorem kField_some {cfg : Cfg} {t : TypeId} {x : AV} {f : Nat} {k : KV α} (h : kField cfg t x f k = some r) : ∃ v, aField cfg t x f = some v ∧ k v = some r := by
  unfold kField at h
  unfold aField
  split at h
  case h_2 => cases h
  rename_i fs ht
  rw [ht]
  split at h
  case h_2 => cases h
  rename_i off ft hf
  split at h
  case h_2 => cases h
  rename_i ti hti
  obtain ⟨cs, rfl, h⟩ := kAgg_some h
  obtain ⟨v, h3, h⟩ := kPart_some h
  refine ⟨v, ?_, h⟩
  simp only [hf]
  unfold aPart
  rw [hti]
  exact h3

theorem kFieldAddr_some {cfg : Cfg} {t : TypeId} {x : AV} {f : Nat} {k : KV α} (h : kFieldAddr cfg t x f k = some r) : ∃ v, aFieldAddr cfg t x f = some v ∧ k v = some r := by
  unfold kFieldAddr at h
  unfold aFieldAddr
  split at h
  case h_2 => cases h
  rename_i fs ht
  rw [ht]
  simp only
  split at h
  case h_2 => cases h
  rename_i off ft hf
  simp only [hf]
  split at h
  case h_2 => cases h
  rename_i n hn
  split at h
  · exact ⟨_, by simp only [hn], h⟩
  · exact ⟨_, by simp only [hn], h⟩
  · cases h
end Go.Av
