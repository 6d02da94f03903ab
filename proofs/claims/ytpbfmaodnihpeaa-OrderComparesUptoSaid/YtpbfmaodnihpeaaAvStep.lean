/-
  The steps by which blocks come, change, are frozen, and get new numbers. Own work.
  What is proved: each step keeps the reading of the world; no condition.
-/
import Derived.Test.YtpbfmaodnihpeaaAvRep
namespace Go.Av
variable {C C' : Claims} {μ μ' : MMap} {H H' : AH} {w w' : World}

def upd (μ : MMap) (k : Nat) (m : MI) : MMap := fun id => if id = k then some m else μ id

theorem Wld.block_lt (h : Wld C μ H w) {b o : Nat} {v : Value} (hc : C b o = some v) : b < w.heap.size := World.block_lt_of_cell? w ⟨b, o, none⟩ (h.cl b o v hc)

theorem Wld.live_lt (h : Wld C μ H w) {b : Nat} (hl : Live H μ b) : b < w.heap.size := by
  obtain ⟨id, blk, m, h1, h2, h3, rfl⟩ := hl
  obtain ⟨m', h4, h5, _, _⟩ := h.live id blk h1 h2
  rw [h3] at h4
  cases h4
  exact h5

/-- the world may change in blocks that are neither live nor claimed, and grow -/
theorem Wld.world (h : Wld C μ H w) (hs : w.heap.size ≤ w'.heap.size) (hb : ∀ b, b < w.heap.size → (Live H μ b ∨ ∃ o, C b o ≠ none) → w'.heap[b]? = w.heap[b]?) : Wld C μ H w' where
  cl := fun b o v hc => by
    have h1 := h.cl b o v hc
    have h2 := hb b (h.block_lt hc) (.inr ⟨o, by rw [hc]; simp⟩)
    simp only [World.cell?] at h1 ⊢
    rw [h2]; exact h1
  dom := h.dom
  res := h.res
  live := fun id blk h1 h2 => by
    obtain ⟨m, h3, h4, h5, h6⟩ := h.live id blk h1 h2
    exact ⟨m, h3, Nat.lt_of_lt_of_le h4 hs, h5, h6.mono (fun _ _ _ h => h) (fun _ _ h => h) (hb _ h4 (.inl ⟨id, blk, m, h1, h2, h3, rfl⟩))⟩
  froz := h.froz
  inj := h.inj
  free := h.free

theorem Wld.heap (h : Wld C μ H w) (hw : w'.heap = w.heap) : Wld C μ H w' := h.world (by rw [hw]; exact Nat.le_refl _) (fun b _ _ => by rw [hw])

/-- a block that nobody may touch any more -/
theorem Wld.kill (h : Wld C μ H w) (id : Nat) (hr : H[id]? ≠ some .res) : Wld C μ (H.set id .dead) w where
  cl := h.cl
  dom := fun i m hm => by simpa using h.dom i m hm
  res := fun i hi => by
    rw [List.getElem?_set] at hi
    split at hi
    · split at hi <;> simp at hi
    · exact h.res i hi
  live := fun i blk h1 h2 => by
    rw [List.getElem?_set] at h1
    split at h1
    · split at h1
      · simp at h1; subst h1; simp [ABlk.live] at h2
      · simp at h1
    · exact h.live i blk h1 h2
  free := h.free.set trivial
  froz := fun i d sz rs h1 => by
    rw [List.getElem?_set] at h1
    split at h1
    · split at h1 <;> simp at h1
    · exact h.froz i d sz rs h1
  inj := fun i i' b b' m m' h1 h2 h3 h4 h5 h6 h7 => by
    rw [List.getElem?_set] at h1 h2
    split at h1
    · split at h1
      · simp at h1; subst h1; simp [ABlk.live] at h3
      · simp at h1
    · split at h2
      · split at h2
        · simp at h2; subst h2; simp [ABlk.live] at h4
        · simp at h2
      · exact h.inj i i' b b' m m' h1 h2 h3 h4 h5 h6 h7

theorem Live.of_kill {b id : Nat} (h : Live (H.set id .dead) μ b) : Live H μ b ∧ ∀ m, μ id = some m → (∀ (id' : Nat) b' m', H[id']? = some b' → b'.live = true → μ id' = some m' → id' ≠ id → m'.block ≠ m.block) → b ≠ m.block := by
  obtain ⟨i, blk, m, h1, h2, h3, rfl⟩ := h
  rw [List.getElem?_set] at h1
  split at h1
  · split at h1
    · simp at h1; subst h1; simp [ABlk.live] at h2
    · simp at h1
  · rename_i hne
    exact ⟨⟨i, blk, m, h1, h2, h3, rfl⟩, fun m' hm' hinj => hinj i blk m h1 h2 h3 (fun e => hne e.symm)⟩

/-- a new block, over memory that nobody else has -/
theorem Wld.new (h : Wld C μ H w) {nid : Option Nat} {k : Nat} {blk : ABlk} {m : MI} (hn : aNew nid H blk = some (k, H')) (hl : ¬ Live H μ m.block) (hm : m.block < w.heap.size) (hc : ∀ o, C m.block o = none)
    (hb : blk.live = true) (hr : BlkRep C (upd μ k m) w m blk) (hfr : blk.Free := by trivial) : Wld C (upd μ k m) H' w ∧ (∀ id m', μ id = some m' → upd μ k m id = some m') ∧ H.length ≤ H'.length ∧ (∀ b, Live H' (upd μ k m) b → Live H μ b ∨ b = m.block) ∧ H'[k]? = some blk := by
  have key : μ k = none ∧ k < H'.length ∧ H.length ≤ H'.length ∧ H'[k]? = some blk ∧ ∀ i, i ≠ k → H'[i]? = H[i]? := by
    unfold aNew at hn
    cases nid with
    | none =>
      simp only [Option.some.injEq, Prod.mk.injEq] at hn
      obtain ⟨rfl, rfl⟩ := hn
      refine ⟨?_, by simp, by simp, by simp, fun i hi => ?_⟩
      · cases hk : μ H.length with
        | none => rfl
        | some m' => exact absurd (h.dom _ _ hk) (Nat.lt_irrefl _)
      · rw [List.getElem?_append]
        split
        · rfl
        · rename_i hlt
          have : H.length < i := by omega
          rw [List.getElem?_eq_none (by simp; omega), List.getElem?_eq_none (by omega)]
    | some k' =>
      simp only at hn
      split at hn
      · rename_i hk
        simp only [Option.some.injEq, Prod.mk.injEq] at hn
        obtain ⟨rfl, rfl⟩ := hn
        have hlt : k' < H.length := (List.getElem?_eq_some_iff.1 hk).1
        exact ⟨h.res _ hk, by simpa using hlt, by simp, by simp [hlt], fun i hi => by rw [List.getElem?_set_ne (Ne.symm hi)]⟩
      · cases hn
  obtain ⟨h0, h1, hlen, h2, h3⟩ := key
  have hmu : ∀ id m', μ id = some m' → upd μ k m id = some m' := by
    intro id m' hid
    unfold upd
    by_cases e : id = k
    · subst e; rw [h0] at hid; cases hid
    · rw [if_neg e]; exact hid
  refine ⟨⟨h.cl, fun id m' hid => ?_, fun i hi => ?_, fun i b hi hb' => ?_, fun i d sz rs hi => ?_, ?_, fun i b hi => ?_⟩, hmu, hlen, ?_, h2⟩
  · unfold upd at hid
    by_cases e : id = k
    · subst e; exact h1
    · rw [if_neg e] at hid; exact Nat.lt_of_lt_of_le (h.dom id m' hid) hlen
  · by_cases e : i = k
    · subst e; rw [h2] at hi; cases hi; simp [ABlk.live] at hb
    · rw [h3 i e] at hi
      unfold upd; rw [if_neg e]; exact h.res i hi
  · by_cases e : i = k
    · subst e
      rw [h2] at hi; cases hi
      exact ⟨m, by unfold upd; rw [if_pos rfl], hm, hc, hr⟩
    · rw [h3 i e] at hi
      obtain ⟨m', e1, e2, e3, e4⟩ := h.live i b hi hb'
      exact ⟨m', hmu _ _ e1, e2, e3, e4.mono (fun _ _ _ h => h) hmu rfl⟩
  · by_cases e : i = k
    · subst e; rw [h2] at hi; cases hi; simp [ABlk.live] at hb
    · rw [h3 i e] at hi
      obtain ⟨m', e1, e2, e3, e4⟩ := h.froz i d sz rs hi
      exact ⟨m', hmu _ _ e1, e2, e3, e4.mono (fun _ _ _ h => h) hmu (fun _ _ _ _ _ _ => rfl)⟩
  · intro i i' b b' m1 m2 hi hi' hb1 hb2 hm1 hm2 he
    have aux : ∀ (j : Nat) bj mj, j ≠ k → H'[j]? = some bj → bj.live = true → upd μ k m j = some mj → mj.block ≠ m.block := by
      intro j bj mj hj hjk hjl hjm e
      rw [h3 j hj] at hjk
      unfold upd at hjm; rw [if_neg hj] at hjm
      exact hl ⟨j, bj, mj, hjk, hjl, hjm, e⟩
    by_cases e : i = k
    · by_cases e' : i' = k
      · rw [e, e']
      · subst e
        have : m1 = m := by unfold upd at hm1; rw [if_pos rfl] at hm1; exact (Option.some.inj hm1).symm
        subst this
        exact absurd he.symm (aux i' b' m2 e' hi' hb2 hm2)
    · by_cases e' : i' = k
      · subst e'
        have : m2 = m := by unfold upd at hm2; rw [if_pos rfl] at hm2; exact (Option.some.inj hm2).symm
        subst this
        exact absurd he (aux i b m1 e hi hb1 hm1)
      · rw [h3 i e] at hi; rw [h3 i' e'] at hi'
        unfold upd at hm1 hm2; rw [if_neg e] at hm1; rw [if_neg e'] at hm2
        exact h.inj i i' b b' m1 m2 hi hi' hb1 hb2 hm1 hm2 he
  · by_cases e : i = k
    · subst e; rw [h2] at hi; cases hi; exact hfr
    · rw [h3 i e] at hi; exact h.free i b hi
  · rintro b ⟨i, bi, mi, e1, e2, e3, rfl⟩
    by_cases e : i = k
    · subst e
      have : mi = m := by unfold upd at e3; rw [if_pos rfl] at e3; exact (Option.some.inj e3).symm
      subst this; exact .inr rfl
    · rw [h3 i e] at e1
      unfold upd at e3; rw [if_neg e] at e3
      exact .inl ⟨i, bi, mi, e1, e2, e3, rfl⟩

/-- a live block gets other contents, its own block of the world alone having changed -/
theorem Wld.setBlk (h : Wld C μ H w) {id : Nat} {blk blk' : ABlk} {m : MI} (hi : H[id]? = some blk) (hl : blk.live = true) (hl' : blk'.live = true) (hm : μ id = some m) (hs : w'.heap.size = w.heap.size)
    (hb : ∀ b, b ≠ m.block → w'.heap[b]? = w.heap[b]?) (hr : BlkRep C μ w' m blk') (hfr : blk'.Free := by trivial) : Wld C μ (H.set id blk') w' where
  free := h.free.set hfr
  cl := fun b o v hc => by
    obtain ⟨m', h3, h4, h5, _⟩ := h.live id blk hi hl
    rw [hm] at h3; cases h3
    have hne : b ≠ m.block := fun e => by subst e; rw [h5 o] at hc; cases hc
    have h1 := h.cl b o v hc
    simp only [World.cell?] at h1 ⊢
    rw [hb b hne]; exact h1
  dom := fun i m hm => by simpa using h.dom i m hm
  res := fun i hi' => by
    rw [List.getElem?_set] at hi'
    split at hi'
    · split at hi'
      · simp at hi'; subst hi'; simp [ABlk.live] at hl'
      · simp at hi'
    · exact h.res i hi'
  live := fun i b h1 h2 => by
    rw [List.getElem?_set] at h1
    split at h1
    · rename_i e
      subst e
      split at h1
      · simp at h1; subst h1
        obtain ⟨m', h3, h4, h5, _⟩ := h.live id blk hi hl
        rw [hm] at h3; cases h3
        exact ⟨m, hm, by rw [hs]; exact h4, h5, hr⟩
      · simp at h1
    · rename_i e
      obtain ⟨m', h3, h4, h5, h6⟩ := h.live i b h1 h2
      refine ⟨m', h3, by rw [hs]; exact h4, h5, h6.mono (fun _ _ _ h => h) (fun _ _ h => h) (hb _ fun e' => e ?_)⟩
      exact (h.inj i id b blk m' m h1 hi h2 hl h3 hm e').symm
  froz := fun i d sz rs h1 => by
    rw [List.getElem?_set] at h1
    split at h1
    · split at h1
      · simp at h1; subst h1; simp [ABlk.live] at hl'
      · simp at h1
    · exact h.froz i d sz rs h1
  inj := fun i i' b b' m m' h1 h2 h3 h4 h5 h6 h7 => by
    have aux : ∀ (j : Nat) bj, (H.set id blk')[j]? = some bj → bj.live = true → ∃ bj', H[j]? = some bj' ∧ bj'.live = true := by
      intro j bj hj hjl
      rw [List.getElem?_set] at hj
      split at hj
      · rename_i e; subst e; exact ⟨blk, hi, hl⟩
      · exact ⟨bj, hj, hjl⟩
    obtain ⟨b1, e1, e2⟩ := aux i b h1 h3
    obtain ⟨b2, e3, e4⟩ := aux i' b' h2 h4
    exact h.inj i i' b1 b2 m m' e1 e3 e2 e4 h5 h6 h7

theorem Live.set_iff {id b : Nat} {blk blk' : ABlk} (hi : H[id]? = some blk) (hl : blk.live = true) (h : Live (H.set id blk') μ b) : Live H μ b := by
  obtain ⟨i, bi, m, h1, h2, h3, rfl⟩ := h
  rw [List.getElem?_set] at h1
  split at h1
  · rename_i e; subst e; exact ⟨id, blk, m, hi, hl, h3, rfl⟩
  · exact ⟨i, bi, m, h1, h2, h3, rfl⟩

theorem Ext.setBlk (h : Wld C μ H w) {k id : Nat} {blk blk' : ABlk} {m : MI} (hi : H[id]? = some blk) (hl : blk.live = true) (hm : μ id = some m) (hs : w'.heap.size = w.heap.size)
    (hb : ∀ b, b ≠ m.block → w'.heap[b]? = w.heap[b]?) (ho : w'.os = w.os) (ht : w'.tape = w.tape) (hu : w'.output = w.output) (hk : k ≤ H.length) : Ext k C μ H w C μ (H.set id blk') w' :=
  ⟨ho, ht, hu, by rw [hs]; exact Nat.le_refl _, fun _ _ _ h => h, fun _ _ _ h => h, fun b _ hnl => ⟨hb b (fun e => hnl ⟨id, blk, m, hi, hl, hm, e.symm⟩), fun hl' => hnl (hl'.set_iff hi hl), rfl⟩, by simpa using hk⟩

/-! ### freezing -/
def frzC (C : Claims) (w : World) (m : MI) (n : Nat) : Claims := fun b o => if b = m.block then (if m.base ≤ o ∧ o < m.base + n then w.cell? ⟨b, o, none⟩ else none) else C b o

theorem Wld.freeze (h : Wld C μ H w) {id sz : Nat} {d : Bool} {rs : List (List AV)} (hi : H[id]? = some (.rows d sz rs)) : ∃ C', (∀ b o v, C b o = some v → C' b o = some v) ∧ Wld C' μ (H.set id (.froz d sz rs)) w ∧
    (∀ k, k ≤ H.length → Ext k C μ H w C' μ (H.set id (.froz d sz rs)) w) := by
  obtain ⟨m, hm, hlt, hc, hsz, hle, hrows, hcells⟩ := h.live id _ hi rfl
  have hC : ∀ b o v, C b o = some v → frzC C w m (rs.length * sz) b o = some v := by
    intro b o v hb
    unfold frzC
    by_cases e : b = m.block
    · subst e; rw [hc o] at hb; cases hb
    · rw [if_neg e]; exact hb
  have hlive : ∀ (i : Nat) b, (H.set id (.froz d sz rs))[i]? = some b → b.live = true → i ≠ id ∧ H[i]? = some b := by
    intro i b h1 h2
    rw [List.getElem?_set] at h1
    split at h1
    · split at h1
      · simp at h1; subst h1; simp [ABlk.live] at h2
      · simp at h1
    · rename_i e; exact ⟨fun e' => e e'.symm, h1⟩
  refine ⟨frzC C w m (rs.length * sz), hC, ⟨fun b o v hb => ?_, fun i m hm => by simpa using h.dom i m hm, fun i h1 => ?_, fun i b h1 h2 => ?_, fun i d s r h1 => ?_, ?_, h.free.set (b := .froz d sz rs) (fun hd => h.free.get hi hd)⟩, fun k hk => ⟨rfl, rfl, rfl, Nat.le_refl _, hC, fun _ _ _ h => h, fun b _ hnl => ⟨rfl, fun hl => ?_, ?_⟩, by simpa using hk⟩⟩
  · unfold frzC at hb
    by_cases e : b = m.block
    · rw [if_pos e] at hb
      split at hb
      · exact hb
      · cases hb
    · rw [if_neg e] at hb; exact h.cl b o v hb
  · rw [List.getElem?_set] at h1
    split at h1
    · split at h1 <;> simp at h1
    · exact h.res i h1
  · obtain ⟨e, h1⟩ := hlive i b h1 h2
    obtain ⟨m', h3, h4, h5, h6⟩ := h.live i b h1 h2
    have hne : m'.block ≠ m.block := fun he => e (h.inj i id b _ m' m h1 hi h2 rfl h3 hm he)
    exact ⟨m', h3, h4, fun o => by unfold frzC; rw [if_neg hne]; exact h5 o, h6.mono hC (fun _ _ h => h) rfl⟩
  · rw [List.getElem?_set] at h1
    split at h1
    · rename_i e
      subst e
      split at h1
      · simp only [Option.some.injEq, ABlk.froz.injEq] at h1
        obtain ⟨rfl, rfl, rfl⟩ := h1
        refine ⟨m, hm, hsz, hle, fun i row hir => ⟨(hrows i row hir).1, fun j x hj => ?_⟩⟩
        obtain ⟨hcell, v, hv, hrep⟩ := (hrows i row hir).2 j x hj
        have hjl : j < row.length := (List.getElem?_eq_some_iff.1 hj).1
        have hil : i < rs.length := (List.getElem?_eq_some_iff.1 hir).1
        have hlen := (hrows i row hir).1
        have hlt' : i * sz + j < rs.length * sz := by
          have : (i + 1) * sz ≤ rs.length * sz := Nat.mul_le_mul_right _ hil
          rw [Nat.add_mul] at this
          omega
        refine ⟨hcell, v, ?_, hrep.mono hC (fun _ _ h => h)⟩
        show frzC C w m (rs.length * sz) m.block (m.base + (i * sz + j)) = some v
        unfold frzC
        rw [if_pos rfl, if_pos (by omega)]
        exact hv
      · simp at h1
    · obtain ⟨m', e1, e2, e3, e4⟩ := h.froz i _ s r h1
      exact ⟨m', e1, e2, e3, e4.mono hC (fun _ _ h => h) (fun i j row x hi' hj' => by
        obtain ⟨_, v, hv, _⟩ := (e4 i row hi').2 j x hj'
        exact (hC _ _ _ hv).trans hv.symm)⟩
  · intro i i' b b' m1 m2 h1 h2 h3 h4
    obtain ⟨_, h1⟩ := hlive i b h1 h3
    obtain ⟨_, h2⟩ := hlive i' b' h2 h4
    exact h.inj i i' b b' m1 m2 h1 h2 h3 h4
  · obtain ⟨i, bi, mi, h1, h2, h3, rfl⟩ := hl
    obtain ⟨_, h1⟩ := hlive i bi h1 h2
    exact hnl ⟨i, bi, mi, h1, h2, h3, rfl⟩
  · have hne : b ≠ m.block := fun e => hnl ⟨id, _, m, hi, rfl, hm, e.symm⟩
    funext o
    unfold frzC
    rw [if_neg hne]

/-! ### new numbers -/
theorem blksOf_get {H : AH} : ∀ {L : List Nat} {bs : AH}, blksOf H L = some bs → bs.length = L.length ∧ ∀ (j : Nat) id, L[j]? = some id → ∃ b, H[id]? = some b ∧ bs[j]? = some b
  | [], bs, h => by
    simp [blksOf] at h; subst h
    exact ⟨rfl, fun j id hj => by simp at hj⟩
  | id :: L, bs, h => by
    rw [blksOf] at h
    split at h
    · rename_i b bs' h1 h2
      simp only [Option.some.injEq] at h
      subst h
      obtain ⟨e1, e2⟩ := blksOf_get h2
      refine ⟨by simp [e1], fun j id' hj => ?_⟩
      cases j with
      | zero => simp at hj; subst hj; exact ⟨b, h1, by simp⟩
      | succ j => exact (by simpa using e2 j id' (by simpa using hj))
    · cases h

theorem placeIn_some {id : Nat} : ∀ {L : List Nat} {k p : Nat}, placeIn id k L = some p → k ≤ p ∧ L[p - k]? = some id
  | [], k, p, h => by simp [placeIn] at h
  | a :: L, k, p, h => by
    rw [placeIn] at h
    split at h
    · rename_i he
      simp only [Option.some.injEq] at h
      subst h
      exact ⟨Nat.le_refl _, by simp [Nat.eq_of_beq_eq_true he]⟩
    · obtain ⟨e1, e2⟩ := placeIn_some h
      refine ⟨by omega, ?_⟩
      have : p - k = (p - (k + 1)) + 1 := by omega
      rw [this]; simpa using e2
theorem placeIn_mem {id : Nat} : ∀ {L : List Nat} {k : Nat}, id ∈ L → ∃ p, placeIn id k L = some p
  | [], _, h => by cases h
  | a :: L, k, h => by
    rw [placeIn]
    split
    · exact ⟨_, rfl⟩
    · rename_i he
      rcases List.mem_cons.1 h with e | e
      · subst e; exact absurd (Nat.beq_refl _) he
      · exact placeIn_mem e

theorem reach_nodup (k : Nat) (H : AH) : ∀ (n : Nat) (found todo : List Nat), found.Nodup → (reach k H n found todo).Nodup
  | 0, found, _, h => h
  | n + 1, found, [], h => h
  | n + 1, found, id :: todo, h => by
    rw [reach]
    split
    · exact reach_nodup k H n _ _ h
    · rename_i hn
      have hni : id ∉ found := fun hm => hn (hasId_iff.2 hm)
      refine reach_nodup k H n _ _ (List.nodup_append.2 ⟨h, by simp, ?_⟩)
      intro a ha b hb e
      simp at hb
      subst hb; subst e
      exact hni ha

theorem idsOne_ge (k id : Nat) : ∀ x ∈ (if Nat.blt id k then [] else [id]), k ≤ x := by
  intro x hx
  split at hx
  · cases hx
  · rename_i hn
    simp at hx; subst hx
    simpa [Nat.blt_eq] using hn
mutual
theorem AV.idsGe_ge (k : Nat) : ∀ a : AV, ∀ x ∈ a.idsGe k, k ≤ x
  | .agg cs, x, hx => idsGeL_ge k cs x (by simpa [AV.idsGe] using hx)
  | .tup cs, x, hx => idsGeL_ge k cs x (by simpa [AV.idsGe] using hx)
  | .sl rows, x, hx => by simp [AV.idsGe] at hx
  | .ms id _ _, x, hx => idsOne_ge k id x (by simpa [AV.idsGe] using hx)
  | .ptr id _ _, x, hx => idsOne_ge k id x (by simpa [AV.idsGe] using hx)
  | .cptr cs _, x, hx => idsGeL_ge k cs x (by simpa [AV.idsGe] using hx)
  | .fn _ a b, x, hx => by
    rw [AV.idsGe, List.mem_append] at hx
    rcases hx with hx | hx
    · exact idsGeL_ge k a x hx
    · exact idsGeL_ge k b x hx
  | .yld id, x, hx => idsOne_ge k id x (by simpa [AV.idsGe] using hx)
  | .mp id, x, hx => idsOne_ge k id x (by simpa [AV.idsGe] using hx)
  | .ifc _ v, x, hx => AV.idsGe_ge k v x (by simpa [AV.idsGe] using hx)
  | .int _ _, x, hx => by simp [AV.idsGe] at hx
  | .bool _, x, hx => by simp [AV.idsGe] at hx
  | .str _, x, hx => by simp [AV.idsGe] at hx
  | .nilS, x, hx => by simp [AV.idsGe] at hx
  | .nilP, x, hx => by simp [AV.idsGe] at hx
  | .nilF, x, hx => by simp [AV.idsGe] at hx
  | .nilM, x, hx => by simp [AV.idsGe] at hx
  | .nilI, x, hx => by simp [AV.idsGe] at hx
  | .junk, x, hx => by simp [AV.idsGe] at hx
theorem idsGeL_ge (k : Nat) : ∀ l : List AV, ∀ x ∈ idsGeL k l, k ≤ x
  | [], x, hx => by simp [idsGeL] at hx
  | a :: l, x, hx => by
    rw [idsGeL, List.mem_append] at hx
    rcases hx with hx | hx
    · exact AV.idsGe_ge k a x hx
    · exact idsGeL_ge k l x hx
theorem idsGeR_ge (k : Nat) : ∀ l : List (List AV), ∀ x ∈ idsGeR k l, k ≤ x
  | [], x, hx => by simp [idsGeR] at hx
  | a :: l, x, hx => by
    rw [idsGeR, List.mem_append] at hx
    rcases hx with hx | hx
    · exact idsGeL_ge k a x hx
    · exact idsGeR_ge k l x hx
end
theorem ABlk.idsGe_ge (k : Nat) (b : ABlk) : ∀ x ∈ b.idsGe k, k ≤ x := by
  intro x hx
  cases b with
  | rows d n rs =>
    cases d with
    | true => simp [ABlk.idsGe] at hx
    | false => exact idsGeR_ge k rs x (by simpa [ABlk.idsGe] using hx)
  | froz d n rs =>
    cases d with
    | true => simp [ABlk.idsGe] at hx
    | false => exact idsGeR_ge k rs x (by simpa [ABlk.idsGe] using hx)
  | mp es =>
    simp only [ABlk.idsGe, List.mem_flatMap, List.mem_append] at hx
    obtain ⟨e, _, hx | hx⟩ := hx
    · exact AV.idsGe_ge k _ x hx
    · exact AV.idsGe_ge k _ x hx
  | loop f fr ps a b p s => exact idsGeL_ge k fr x hx
  | dead => simp [ABlk.idsGe] at hx
  | res => simp [ABlk.idsGe] at hx
theorem idsGeH_ge (k : Nat) : ∀ H : AH, ∀ x ∈ idsGeH k H, k ≤ x
  | [], x, hx => by simp [idsGeH] at hx
  | a :: l, x, hx => by
    rw [idsGeH, List.mem_append] at hx
    rcases hx with hx | hx
    · exact ABlk.idsGe_ge k a x hx
    · exact idsGeH_ge k l x hx
theorem reach_ge (k : Nat) (H : AH) : ∀ (n : Nat) (found todo : List Nat), (∀ x ∈ found, k ≤ x) → (∀ x ∈ todo, k ≤ x) → ∀ x ∈ reach k H n found todo, k ≤ x
  | 0, found, _, h, _ => h
  | n + 1, found, [], h, _ => h
  | n + 1, found, id :: todo, h, ht => by
    rw [reach]
    have hid : k ≤ id := ht id (by simp)
    have ht' : ∀ x ∈ todo, k ≤ x := fun x hx => ht x (by simp [hx])
    split
    · exact reach_ge k H n _ _ h ht'
    · refine reach_ge k H n _ _ (fun x hx => ?_) (fun x hx => ?_)
      · rcases List.mem_append.1 hx with hx | hx
        · exact h x hx
        · simp at hx; subst hx; exact hid
      · rcases List.mem_append.1 hx with hx | hx
        · exact ht' x hx
        · unfold idsAt at hx
          split at hx
          · exact ABlk.idsGe_ge k _ x hx
          · cases hx

theorem live_ren (ρ : Nat → Nat) (b : ABlk) : (b.ren ρ).live = b.live := by cases b <;> rfl

theorem RowsRep.renm {k : Nat} {L : List Nat} {ρ : Nat → Nat} (hμ : ∀ id m, (id < k ∨ id ∈ L) → μ id = some m → μ' (ρ id) = some m) {g : Nat → Option Value} {sz : Nat} {rs : List (List AV)} (h : RowsRep C μ g sz rs)
    (hi : ∀ x ∈ idsGeR k rs, x ∈ L) : RowsRep C μ' g sz (renR ρ rs) := by
  intro i row hrow
  rw [renR_map] at hrow
  obtain ⟨r, hr, rfl⟩ := getElem?_map' hrow
  rw [renL_map]
  refine ⟨by simpa using (h i r hr).1, fun j x hx => ?_⟩
  obtain ⟨y, hy, rfl⟩ := getElem?_map' hx
  obtain ⟨h1, v, h2, h3⟩ := (h i r hr).2 j y hy
  exact ⟨by rw [isCell_ren]; exact h1, v, h2, h3.renm hμ (fun z hz => hi z (idsGeR_sub hr _ (idsGeL_sub hy z hz)))⟩
theorem RowsRep.free {g : Nat → Option Value} {sz : Nat} {rs : List (List AV)} (μ' : MMap) (h : RowsRep C μ g sz rs) (hr : refsLtR 0 rs = true) : RowsRep C μ' g sz rs := by
  intro i row hrow
  refine ⟨(h i row hrow).1, fun j x hx => ?_⟩
  obtain ⟨h1, v, h2, h3⟩ := (h i row hrow).2 j x hx
  exact ⟨h1, v, h2, h3.free μ' (refsLtL_get (refsLtR_get hr hrow) hx)⟩
theorem free_ren {ρ : Nat → Nat} {b : ABlk} (h : b.Free) : (b.ren ρ).Free := by
  cases b with
  | rows d sz rs => cases d with
    | true => exact h
    | false => exact fun h => by cases h
  | froz d sz rs => cases d with
    | true => exact h
    | false => exact fun h => by cases h
  | _ => trivial
theorem FrRep.renm {k : Nat} {L : List Nat} {ρ : Nat → Nat} (hμ : ∀ id m, (id < k ∨ id ∈ L) → μ id = some m → μ' (ρ id) = some m) {fr : List AV} {t : Array Value} (h : FrRep C μ fr t)
    (hi : ∀ x ∈ idsGeL k fr, x ∈ L) : FrRep C μ' (renL ρ fr) t := by
  rw [renL_map]
  refine ⟨by simpa using h.1, fun i a v h1 h2 => ?_⟩
  obtain ⟨y, hy, rfl⟩ := getElem?_map' h1
  exact (h.2 i y v hy h2).renm hμ (fun z hz => hi z (idsGeL_sub hy z hz))
theorem BlkRep.renm {k : Nat} {L : List Nat} {ρ : Nat → Nat} (hμ : ∀ id m, (id < k ∨ id ∈ L) → μ id = some m → μ' (ρ id) = some m) {m : MI} {b : ABlk} (h : BlkRep C μ w m b)
    (hi : ∀ x ∈ b.idsGe k, x ∈ L) (hfr : b.Free) : BlkRep C μ' w m (b.ren ρ) := by
  cases b with
  | rows d sz rs =>
    obtain ⟨h1, h2, h3, h4⟩ := h
    cases d with
    | true => exact ⟨h1, h2, h3.free μ' (hfr rfl), h4⟩
    | false => exact ⟨h1, by simp only [Bool.false_eq_true, if_false]; rw [renR_map, List.length_map]; exact h2, by simp only [Bool.false_eq_true, if_false]; exact h3.renm hμ (by simpa [ABlk.idsGe] using hi), h4⟩
  | froz sz rs => trivial
  | mp es =>
    obtain ⟨arr, clock, h1, h2, h3⟩ := h
    refine ⟨arr, clock, h1, by simpa using h2, fun i e me he hme => ?_⟩
    obtain ⟨y, hy, rfl⟩ := getElem?_map' he
    have hin : ∀ x, x ∈ y.1.idsGe k ++ y.2.idsGe k → x ∈ L := fun x hx => hi x (by
      simp only [ABlk.idsGe, List.mem_flatMap]
      exact ⟨y, List.mem_of_getElem? hy, hx⟩)
    exact ⟨(h3 i y me hy hme).1.renm hμ (fun z hz => hin z (List.mem_append.2 (.inl hz))), (h3 i y me hy hme).2.renm hμ (fun z hz => hin z (List.mem_append.2 (.inr hz)))⟩
  | loop f fr ps assign body pend st =>
    obtain ⟨r, h1, h2, h3, h4, h5, h6, h7⟩ := h
    exact ⟨r, h1, h2, h3, h4, h5, h6, h7.renm hμ hi⟩
  | dead => trivial
  | res => trivial

theorem gcAll_sound (h : Wld C μ H w) {fr : List AV} {tmps : Array Value} (hf : FrRep C μ fr tmps) (k : Nat) (hk : k ≤ H.length) : ∃ μ', Wld C μ' (gcAll k fr H).2 w ∧ FrRep C μ' (gcAll k fr H).1 tmps ∧
    (∀ id m, id < k → μ id = some m → μ' id = some m) ∧ (∀ b, Live (gcAll k fr H).2 μ' b → Live H μ b) ∧ k ≤ (gcAll k fr H).2.length := by
  have triv : ∃ μ', Wld C μ' H w ∧ FrRep C μ' fr tmps ∧ (∀ id m, id < k → μ id = some m → μ' id = some m) ∧ (∀ b, Live H μ' b → Live H μ b) ∧ k ≤ H.length := ⟨μ, h, hf, fun _ _ _ h => h, fun _ h => h, hk⟩
  unfold gcAll
  simp only
  generalize hL : reach k H (2 * H.length + 16) [] (idsGeL k fr ++ idsGeH k (H.take k)) = L
  have hnd : L.Nodup := hL ▸ reach_nodup k H _ _ _ List.nodup_nil
  have hge : ∀ x ∈ L, k ≤ x := hL ▸ reach_ge k H _ _ _ (fun _ hx => by cases hx) (fun x hx => by
    rcases List.mem_append.1 hx with hx | hx
    · exact idsGeL_ge k fr x hx
    · exact idsGeH_ge k _ x hx)
  cases hbs : blksOf H L with
  | none => exact triv
  | some bs =>
    simp only
    split
    case isFalse => exact triv
    rename_i hc
    simp only [Bool.and_eq_true, allIn_iff] at hc
    obtain ⟨⟨⟨hfr, htk⟩, hbk⟩, _⟩ := hc
    obtain ⟨hbl, hbg⟩ := blksOf_get hbs
    let μ' : MMap := fun id => if id < k then μ id else (L[id - k]?).bind μ
    let ρ := renTo k L
    have hμ : ∀ id m, (id < k ∨ id ∈ L) → μ id = some m → μ' (ρ id) = some m := by
      intro id m hid hm
      by_cases hlt : id < k
      · have hr : ρ id = id := by
          show renTo k L id = id
          unfold renTo
          rw [if_pos (by simpa [Nat.blt_eq] using hlt)]
        rw [hr]
        show (if id < k then μ id else _) = _
        rw [if_pos hlt]; exact hm
      · have hin : id ∈ L := hid.resolve_left hlt
        obtain ⟨p, hp⟩ := placeIn_mem (k := k) hin
        obtain ⟨e1, e2⟩ := placeIn_some hp
        have hr : ρ id = p := by
          show renTo k L id = p
          unfold renTo
          rw [if_neg (by simpa [Nat.blt_eq] using hlt), hp]
        rw [hr]
        show (if p < k then μ p else (L[p - k]?).bind μ) = some m
        rw [if_neg (by omega), e2]
        exact hm
    -- where a block of the new heap comes from
    have src : ∀ (i : Nat) b', (renH ρ (H.take k) ++ renH ρ bs)[i]? = some b' → ∃ o b, H[o]? = some b ∧ b' = b.ren ρ ∧ μ' i = μ o ∧ (∀ x ∈ b.idsGe k, x ∈ L) ∧ ((i < k ∧ o = i) ∨ (k ≤ i ∧ L[i - k]? = some o)) := by
      intro i b' hi
      have hlen : (renH ρ (H.take k)).length = k := by rw [renH_map]; simp; omega
      rw [List.getElem?_append] at hi
      split at hi
      · rename_i hlt
        rw [hlen] at hlt
        rw [renH_map] at hi
        obtain ⟨b, hb, rfl⟩ := getElem?_map' hi
        have hb' : H[i]? = some b := by rw [List.getElem?_take] at hb; rw [if_pos hlt] at hb; exact hb
        refine ⟨i, b, hb', rfl, ?_, fun x hx => htk x (idsGeH_sub hb x hx), .inl ⟨hlt, rfl⟩⟩
        show (if i < k then μ i else _) = _
        rw [if_pos hlt]
      · rename_i hlt
        rw [hlen] at hlt hi
        rw [renH_map] at hi
        obtain ⟨b, hb, rfl⟩ := getElem?_map' hi
        have hil : i - k < L.length := by rw [← hbl]; exact (List.getElem?_eq_some_iff.1 hb).1
        obtain ⟨o, ho⟩ : ∃ o, L[i - k]? = some o := ⟨_, List.getElem?_eq_getElem hil⟩
        obtain ⟨b2, e1, e2⟩ := hbg _ _ ho
        rw [hb] at e2; cases e2
        refine ⟨o, b, e1, rfl, ?_, fun x hx => hbk x (idsGeH_sub hb x hx), .inr ⟨by omega, ho⟩⟩
        show (if i < k then μ i else (L[i - k]?).bind μ) = _
        rw [if_neg (by omega), ho]; rfl
    have uniq : ∀ i i' o : Nat, ((i < k ∧ o = i) ∨ (k ≤ i ∧ L[i - k]? = some o)) → ((i' < k ∧ o = i') ∨ (k ≤ i' ∧ L[i' - k]? = some o)) → i = i' := by
      intro i i' o h1 h2
      rcases h1 with ⟨h1, e1⟩ | ⟨h1, e1⟩ <;> rcases h2 with ⟨h2, e2⟩ | ⟨h2, e2⟩
      · omega
      · have := hge o (List.mem_of_getElem? e2); omega
      · have := hge o (List.mem_of_getElem? e1); omega
      · have h3 : i - k < L.length := (List.getElem?_eq_some_iff.1 e1).1
        have h4 : i' - k < L.length := (List.getElem?_eq_some_iff.1 e2).1
        have h5 : L[i - k] = L[i' - k] := by
          rw [List.getElem?_eq_getElem h3] at e1
          rw [List.getElem?_eq_getElem h4] at e2
          exact (Option.some.inj e1).trans (Option.some.inj e2).symm
        have hpw := List.pairwise_iff_getElem.1 hnd
        rcases Nat.lt_trichotomy (i - k) (i' - k) with hlt | heq | hgt
        · exact absurd h5 (hpw _ _ h3 h4 hlt)
        · omega
        · exact absurd h5.symm (hpw _ _ h4 h3 hgt)
    refine ⟨μ', ⟨h.cl, fun id m hm => ?_, fun i hi => ?_, fun i b hi hb => ?_, fun i d sz rs hi => ?_, fun i i' b b' m m' hi hi' hb hb' hm hm' he => ?_, fun i b hi => ?_⟩, hf.renm hμ hfr, fun id m hid hm => ?_, fun b hb => ?_, ?_⟩
    · simp only [renH_map, List.length_append, List.length_map, List.length_take]
      by_cases hid : id < k
      · omega
      · have hm' : (L[id - k]?).bind μ = some m := by
          have : μ' id = some m := hm
          simp only [μ', if_neg hid] at this
          exact this
        cases hl : L[id - k]? with
        | none => rw [hl] at hm'; cases hm'
        | some o =>
          have := (List.getElem?_eq_some_iff.1 hl).1
          omega
    · obtain ⟨o, b, e1, e2, e3, _, _⟩ := src i _ hi
      have : b = .res := by cases b <;> simp [ABlk.ren] at e2; rfl
      subst this
      rw [e3]; exact h.res o e1
    · obtain ⟨o, b0, e1, rfl, e3, e4, _⟩ := src i _ hi
      rw [live_ren] at hb
      obtain ⟨m, h1, h2, h3, h4⟩ := h.live o b0 e1 hb
      exact ⟨m, by rw [e3]; exact h1, h2, h3, h4.renm hμ e4 (h.free.get e1)⟩
    · obtain ⟨o, b0, e1, e2, e3, e4, _⟩ := src i _ hi
      cases b0 <;> simp [ABlk.ren] at e2
      obtain ⟨rfl, rfl, rfl⟩ := e2
      obtain ⟨m, h1, h2, h3, h4⟩ := h.froz o _ _ _ e1
      cases d with
      | true => exact ⟨m, by rw [e3]; exact h1, h2, h3, h4.free μ' (h.free.get e1 rfl)⟩
      | false => exact ⟨m, by rw [e3]; exact h1, h2, by simp only [Bool.false_eq_true, if_false]; rw [renR_map, List.length_map]; exact h3, by simp only [Bool.false_eq_true, if_false]; exact h4.renm hμ (by simpa [ABlk.idsGe] using e4)⟩
    · obtain ⟨o, b0, e1, rfl, e3, _, e4⟩ := src i _ hi
      obtain ⟨o', b0', e1', rfl, e3', _, e4'⟩ := src i' _ hi'
      rw [live_ren] at hb hb'
      rw [e3] at hm; rw [e3'] at hm'
      have := h.inj o o' b0 b0' m m' e1 e1' hb hb' hm hm' he
      subst this
      exact uniq i i' o e4 e4'
    · obtain ⟨o, b0, e1, rfl, _, _, _⟩ := src i _ hi
      exact free_ren (h.free.get e1)
    · show (if id < k then μ id else _) = _
      rw [if_pos hid]; exact hm
    · obtain ⟨i, bi, m, e1, e2, e3, rfl⟩ := hb
      obtain ⟨o, b0, f1, rfl, f3, _, _⟩ := src i _ e1
      rw [live_ren] at e2
      rw [f3] at e3
      exact ⟨o, b0, m, f1, e2, e3, rfl⟩
    · simp only [renH_map, List.length_append, List.length_map, List.length_take]
      omega
theorem gc_sound (h : Wld C μ H w) {fr : List AV} {tmps : Array Value} (hf : FrRep C μ fr tmps) (k : Nat) (hk : k ≤ H.length) : ∃ μ', Wld C μ' (gc k fr H).2 w ∧ FrRep C μ' (gc k fr H).1 tmps ∧
    (∀ id m, id < k → μ id = some m → μ' id = some m) ∧ (∀ b, Live (gc k fr H).2 μ' b → Live H μ b) ∧ k ≤ (gc k fr H).2.length := by
  unfold gc
  split
  · exact ⟨μ, h, hf, fun _ _ _ h => h, fun _ h => h, hk⟩
  · exact gcAll_sound h hf k hk
end Go.Av
