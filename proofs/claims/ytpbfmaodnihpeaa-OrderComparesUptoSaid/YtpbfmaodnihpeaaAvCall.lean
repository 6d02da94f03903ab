/-
  Freezing; calls; one operation, calls and all. Own work.
  What is proved: each runs as the abstract evaluation says, if the calls do; no condition.
-/
import Derived.Test.YtpbfmaodnihpeaaAvOp
namespace Go.Av
variable {C C' C1 C2 : Claims} {μ μ' μ1 : MMap} {H H' H1 : AH} {w w' w1 : World} {P : Program}

/-! ### freezing blocks -/
theorem frzBlk_sound (h : Wld C μ H w) (id : Nat) : ∃ C', (∀ b o v, C b o = some v → C' b o = some v) ∧ Wld C' μ (frzBlk H id) w ∧ (∀ k, k ≤ H.length → Ext k C μ H w C' μ (frzBlk H id) w) := by
  unfold frzBlk
  split
  · rename_i sz rs hid; exact h.freeze hid
  · exact ⟨C, fun _ _ _ h => h, h, fun k hk => Ext.refl hk⟩

theorem frzBlk_len (H : AH) (id : Nat) : (frzBlk H id).length = H.length := by
  unfold frzBlk; split <;> simp
theorem frzBlks_len (ids : List Nat) : ∀ H : AH, (frzBlks ids H).length = H.length := by
  induction ids with
  | nil => intro H; rfl
  | cons i l ih => intro H; show (frzBlks l (frzBlk H i)).length = _; rw [ih, frzBlk_len]

theorem frzBlks_sound : ∀ (ids : List Nat) {C : Claims} {H : AH}, Wld C μ H w → ∃ C', (∀ b o v, C b o = some v → C' b o = some v) ∧ Wld C' μ (frzBlks ids H) w ∧ (∀ k, k ≤ H.length → Ext k C μ H w C' μ (frzBlks ids H) w)
  | [], C, H, h => ⟨C, fun _ _ _ h => h, h, fun k hk => Ext.refl hk⟩
  | i :: l, C, H, h => by
    obtain ⟨C1, a1, a2, a3⟩ := frzBlk_sound h i
    obtain ⟨C2, b1, b2, b3⟩ := frzBlks_sound l a2
    exact ⟨C2, fun b o v hh => b1 b o v (a1 b o v hh), b2, fun k hk => (a3 k hk).trans (b3 k (by rw [frzBlk_len]; exact hk)) (Nat.le_refl _)⟩

theorem frzBlk_keep {id i sz : Nat} {d : Bool} {rs : List (List AV)} (h : H[id]? = some (.froz d sz rs)) : (frzBlk H i)[id]? = some (.froz d sz rs) := by
  unfold frzBlk
  split
  · rename_i s r hi
    rw [List.getElem?_set]
    split
    · rename_i e; subst e; rw [h] at hi; cases hi
    · exact h
  · exact h
theorem frzBlks_keep {id sz : Nat} {d : Bool} {rs : List (List AV)} : ∀ (ids : List Nat) {H : AH}, H[id]? = some (.froz d sz rs) → (frzBlks ids H)[id]? = some (.froz d sz rs)
  | [], _, h => h
  | _ :: l, _, h => frzBlks_keep l (frzBlk_keep h)
theorem frzBlk_rows {id i : Nat} : blkRows (frzBlk H i) id = blkRows H id := by
  unfold frzBlk
  split
  · rename_i s r hi
    unfold blkRows
    rw [List.getElem?_set]
    by_cases e : i = id
    · subst e
      have := (List.getElem?_eq_some_iff.1 hi).1
      rw [if_pos rfl, if_pos this, hi]
    · rw [if_neg e]
  · rfl
theorem frzBlk_free {id i : Nat} : blkFree (frzBlk H i) id = blkFree H id := by
  unfold frzBlk
  split
  · rename_i s r hi
    unfold blkFree
    rw [List.getElem?_set]
    by_cases e : i = id
    · subst e
      have := (List.getElem?_eq_some_iff.1 hi).1
      rw [if_pos rfl, if_pos this, hi]
    · rw [if_neg e]
  · rfl
theorem frzBlk_self {id sz : Nat} {rs : List (List AV)} (h : blkRows H id = some (sz, rs)) : (frzBlk H id)[id]? = some (.froz (blkFree H id) sz rs) := by
  unfold blkRows at h
  unfold frzBlk blkFree
  split at h
  · rename_i s r hi
    cases h
    have := (List.getElem?_eq_some_iff.1 hi).1
    simp only [hi]
    rw [List.getElem?_set, if_pos rfl, if_pos this]
  · rename_i s r hi
    cases h
    simp only [hi]
  · cases h
theorem frzBlks_get {id sz : Nat} {rs : List (List AV)} : ∀ {ids : List Nat} {H : AH}, blkRows H id = some (sz, rs) → id ∈ ids → (frzBlks ids H)[id]? = some (.froz (blkFree H id) sz rs)
  | [], _, _, hi => by cases hi
  | i :: l, H, h, hi => by
    by_cases e : id = i
    · subst e; exact frzBlks_keep l (frzBlk_self h)
    · show (frzBlks l (frzBlk H i))[id]? = _
      rw [← frzBlk_free (i := i)]
      exact frzBlks_get (by rw [frzBlk_rows]; exact h) ((List.mem_cons.1 hi).resolve_left e)

theorem sl_of_frz {m : MI} {sz off len cap : Nat} {rs : List (List AV)} {a : Addr} (hf : FrzRep C μ m sz rs) (hle : off + len ≤ rs.length) (hl : len ≤ cap) (ha : cap ≠ 0 → a = ⟨m.block, m.base + off * m.sz, none⟩ ∧ (off + cap) * m.sz ≤ m.size) (hfr : refsLtR 0 ((rs.drop off).take len) = true) :
    Rep C μ (.sl ((rs.drop off).take len)) (.slice (some a) len cap) := by
  obtain ⟨hsz, _, hrows⟩ := hf
  have hlen : ((rs.drop off).take len).length = len := by simp; omega
  have get : ∀ (i : Nat) row, ((rs.drop off).take len)[i]? = some row → i < len ∧ rs[off + i]? = some row := fun i row h => drop_take_get h
  have addr : ∀ (i : Nat) row, ((rs.drop off).take len)[i]? = some row → a = ⟨m.block, m.base + off * m.sz, none⟩ := fun i row h => (ha (by have := (get i row h).1; omega)).1
  have cell : ∀ (i j : Nat) row x, ((rs.drop off).take len)[i]? = some row → row[j]? = some x → x.isCell = true ∧ ∃ v, C a.block (a.off + i * sz + j) = some v ∧ Rep C μ x v := by
    intro i j row x hi hj
    obtain ⟨_, hr⟩ := get i row hi
    obtain ⟨e1, v, e2, e3⟩ := (hrows _ row hr).2 j x hj
    refine ⟨e1, v, ?_, e3⟩
    rw [addr i row hi]
    rw [← e2]
    simp only
    congr 1
    rw [hsz, Nat.add_mul]; omega
  have := Rep.sl (C := C) (μ := μ) ((rs.drop off).take len) a cap sz (fun i j => (C a.block (a.off + i * sz + j)).getD undef)
    (fun hne => by
      cases hx : (rs.drop off).take len with
      | nil => exact absurd hx hne
      | cons r l => rw [addr 0 r (by rw [hx]; rfl)])
    (fun i row hi => (hrows _ row (get i row hi).2).1)
    (fun i j row x hi hj => by obtain ⟨_, v, e2, _⟩ := cell i j row x hi hj; rw [e2]; rfl)
    (fun i j row x hi hj => by obtain ⟨_, v, e2, e3⟩ := cell i j row x hi hj; rw [e2]; exact e3)
    (fun i j row x hi hj => (cell i j row x hi hj).1)
    (by rw [hlen]; exact hl) hfr
  rw [hlen] at this
  exact this

/-- 'these blocks are frozen' -/
def AllFrz (C : Claims) (μ : MMap) (H : AH) (ids : List Nat) : Prop := ∀ id sz rs, id ∈ ids → blkRows H id = some (sz, rs) → ∃ m, μ id = some m ∧ FrzRep C μ m sz rs ∧ (blkFree H id = true → refsLtR 0 rs = true)

theorem AllFrz.of {ids : List Nat} (h : Wld C μ (frzBlks ids H) w) : AllFrz C μ H ids := fun id sz rs hi hb => by
  obtain ⟨m, h1, h2⟩ := h.froz id _ sz rs (frzBlks_get hb hi)
  exact ⟨m, h1, h2, h.free.get (frzBlks_get hb hi)⟩

theorem Rep.frz1 {ids : List Nat} {a : AV} {v : Value} (hf : AllFrz C μ H ids) (h : Rep C μ a v) : Rep C μ (a.frz1 ids H) v := by
  cases a with
  | ms id off len =>
    simp only [AV.frz1]
    split
    · rename_i sz rs hb
      split
      · rename_i hc
        rw [Bool.and_eq_true, Bool.and_eq_true, Nat.ble_eq, hasId_iff, Bool.or_eq_true] at hc
        obtain ⟨m, hm, hfr, hfr2⟩ := hf id sz rs hc.1.1 hb
        cases h with
        | ms _ _ _ cap ad m' hm' hl ha =>
          rw [hm] at hm'; cases hm'
          exact sl_of_frz hfr hc.1.2 hl ha (hc.2.elim (fun hd => refsLtR_take (refsLtR_drop (hfr2 hd))) (fun h => h))
      · exact h
    · exact h
  | _ => exact h

theorem Rep.frzA {ids : List Nat} {a : AV} {v : Value} (hf : AllFrz C μ H ids) (h : Rep C μ a v) : Rep C μ (a.frz ids H) v := by
  cases a with
  | agg cs =>
    cases h with
    | agg _ vs hl hr =>
      exact .agg _ vs (by simpa using hl) (fun i a v h1 h2 => by
        obtain ⟨b, hb, rfl⟩ := getElem?_map' h1
        exact (hr i b v hb h2).frz1 hf)
  | tup cs =>
    cases h with
    | tup _ vs hl hr =>
      exact .tup _ vs (by simpa using hl) (fun i a v h1 h2 => by
        obtain ⟨b, hb, rfl⟩ := getElem?_map' h1
        exact (hr i b v hb h2).frz1 hf)
  | _ => exact Rep.frz1 hf h

theorem Rep.snap1 {ids : List Nat} (hid : ∀ id, id < H.length → id ∈ ids) {a : AV} {v : Value} (hf : AllFrz C μ H ids) (h : Rep C μ a v) : Rep C μ (a.snap1 H) v := by
  have hlt : ∀ id sz rs, blkRows H id = some (sz, rs) → id ∈ ids := by
    intro id sz rs hb
    refine hid id ?_
    unfold blkRows at hb
    cases hh : H[id]? with
    | none => rw [hh] at hb; cases hb
    | some b => exact (List.getElem?_eq_some_iff.1 hh).1
  cases a with
  | ms id off len =>
    simp only [AV.snap1]
    exact Rep.frz1 (ids := [id]) (fun id' sz rs hi hb => hf id' sz rs (hlt _ _ _ hb) hb) h
  | ptr id r off =>
    simp only [AV.snap1]
    split
    · rename_i sz rs hb
      split
      · rename_i row hrow
        obtain ⟨m, hm, ⟨hsz, _, hrows⟩, _⟩ := hf id sz rs (hlt _ _ _ hb) hb
        cases h with
        | ptr _ _ _ m' hm' =>
          rw [hm] at hm'; cases hm'
          have cell : ∀ (j : Nat) x, row[j]? = some x → ∃ v, C m.block (m.base + r * m.sz + j) = some v ∧ Rep C μ x v := by
            intro j x hj
            obtain ⟨_, v, e2, e3⟩ := (hrows r row hrow).2 j x hj
            refine ⟨v, ?_, e3⟩
            rw [← e2, hsz]
            simp only
            congr 1; omega
          exact .cptr row off m.block (m.base + r * m.sz) (fun j => (C m.block (m.base + r * m.sz + j)).getD undef)
            (fun j x hj => by obtain ⟨v, e2, _⟩ := cell j x hj; rw [e2]; rfl) (fun j x hj => by obtain ⟨v, e2, e3⟩ := cell j x hj; rw [e2]; exact e3)
      · exact h
    · exact h
  | _ => exact h

theorem Rep.snapA {ids : List Nat} (hid : ∀ id, id < H.length → id ∈ ids) {a : AV} {v : Value} (hf : AllFrz C μ H ids) (h : Rep C μ a v) : Rep C μ (a.snap H) v := by
  cases a with
  | agg cs =>
    cases h with
    | agg _ vs hl hr =>
      exact .agg _ vs (by simpa using hl) (fun i a v h1 h2 => by
        obtain ⟨b, hb, rfl⟩ := getElem?_map' h1
        exact (hr i b v hb h2).snap1 hid hf)
  | fn f p q =>
    cases h with
    | fn _ _ _ vf vc hl1 hl2 h1 h2 =>
      exact .fn f _ _ vf vc (by simpa using hl1) (by simpa using hl2) (fun i a v e1 e2 => by
        obtain ⟨b, hb, rfl⟩ := getElem?_map' e1
        exact (h1 i b v hb e2).snap1 hid hf) (fun i a v e1 e2 => by
        obtain ⟨b, hb, rfl⟩ := getElem?_map' e1
        exact (h2 i b v hb e2).snap1 hid hf)
  | _ => exact Rep.snap1 hid hf h

theorem Rep.fgA {a : AV} {v : Value} (h : Rep C μ a v) : Rep C μ a.fg v := by
  cases a with
  | agg cs => cases h with | agg _ vs hl hr => exact .agg _ vs (by simpa using hl) (fun i a v h1 h2 => by obtain ⟨b, hb, rfl⟩ := getElem?_map' h1; exact (hr i b v hb h2).fg1)
  | tup cs => cases h with | tup _ vs hl hr => exact .tup _ vs (by simpa using hl) (fun i a v h1 h2 => by obtain ⟨b, hb, rfl⟩ := getElem?_map' h1; exact (hr i b v hb h2).fg1)
  | _ => exact h.fg1

theorem FrRep.fg {args : List AV} {vs : Array Value} (h : FrRep C μ args vs) : FrRep C μ (args.map AV.fg) vs := ⟨by simpa using h.1, fun i a v h1 h2 => by
  obtain ⟨b, hb, rfl⟩ := getElem?_map' h1
  exact (h.2 i b v hb h2).fgA⟩

/-! ### scalars -/
theorem Rep.scalar1 {a : AV} {v : Value} (hs : a.scalar1 = true) (h : Rep C μ a v) : Rep C' μ' a v := by
  cases h with
  | int k n => exact .int k n
  | bool b => exact .bool b
  | str s => exact .str s
  | nilS => exact .nilS
  | nilP => exact .nilP
  | _ => simp [AV.scalar1] at hs

theorem scalarL_get {l : List AV} (h : scalarL l = true) {i : Nat} {a : AV} (ha : l[i]? = some a) : a.scalar1 = true := by
  induction l generalizing i with
  | nil => simp at ha
  | cons b l ih =>
    rw [scalarL, Bool.and_eq_true] at h
    cases i with
    | zero => simp at ha; subst ha; exact h.1
    | succ i => exact ih h.2 (by simpa using ha)

theorem Rep.scalarA {a : AV} {v : Value} (hs : a.scalar = true) (h : Rep C μ a v) : Rep C' μ' a v := by
  cases a with
  | agg cs =>
    cases h with | agg _ vs hl hr => exact .agg cs vs hl (fun i a v h1 h2 => (hr i a v h1 h2).scalar1 (scalarL_get (by simpa [AV.scalar] using hs) h1))
  | tup cs =>
    cases h with | tup _ vs hl hr => exact .tup cs vs hl (fun i a v h1 h2 => (hr i a v h1 h2).scalar1 (scalarL_get (by simpa [AV.scalar] using hs) h1))
  | _ => exact Rep.scalar1 (by simpa [AV.scalar] using hs) h

/-! ### a call that is handed no blocks -/
theorem not_live_nil {b : Nat} : ¬ Live [] μ b := by
  rintro ⟨id, blk, m, h, _⟩
  simp at h

theorem Wld.nil (h : Wld C μ H w) : Wld C (fun _ => none) [] w where
  cl := h.cl
  dom := fun id m hm => by cases hm
  res := fun id hi => rfl
  live := fun id blk h1 => by simp at h1
  froz := fun id d sz rs h1 => by simp at h1
  inj := fun i i' b b' m m' h1 => by simp at h1
  free := FreeH.nil

theorem Wld.back (h : Wld C μ H w) (hx : Ext 0 C (fun _ => none) [] w C1 μ1 H1 w1) (h1 : Wld C1 μ1 H1 w1) : Wld C1 μ H w1 ∧ ∀ k, k ≤ H.length → Ext k C μ H w C1 μ H w1 := by
  have hfr : ∀ b, b < w.heap.size → w1.heap[b]? = w.heap[b]? ∧ C1 b = C b := fun b hb => ⟨(hx.fr b hb not_live_nil).1, (hx.fr b hb not_live_nil).2.2⟩
  refine ⟨⟨h1.cl, h.dom, h.res, fun id blk e1 e2 => ?_, fun id d sz rs e1 => ?_, h.inj, h.free⟩, fun k hk => ⟨hx.os, hx.tape, hx.output, hx.size, hx.cl, fun _ _ _ h => h, fun b hb hnl => ⟨(hfr b hb).1, hnl, (hfr b hb).2⟩, hk⟩⟩
  · obtain ⟨m, h3, h4, h5, h6⟩ := h.live id blk e1 e2
    exact ⟨m, h3, Nat.lt_of_lt_of_le h4 hx.size, fun o => by rw [(hfr _ h4).2]; exact h5 o, h6.mono hx.cl (fun _ _ h => h) (hfr _ h4).1⟩
  · obtain ⟨m, e2, e3, e4, e5⟩ := h.froz id d sz rs e1
    refine ⟨m, e2, e3, e4, e5.mono hx.cl (fun _ _ h => h) (fun i j row x hi hj => ?_)⟩
    obtain ⟨_, v, hv, _⟩ := (e5 i row hi).2 j x hj
    exact (hx.cl _ _ _ hv).trans hv.symm

/-! ### what a call does -/
def CallR (P : Program) (s : Sem Next) (w : World) (R : Value → World → Prop) : Prop :=
  match s.run P w with
  | .ok (.value v) w' => R v w'
  | .ok .skip w' => R undef w'
  | .ok (.enter f args) w' => CallsIn Fence.wide 0 P f args w' fun e w'' => ∃ v, e = .returned v ∧ R v w''
  | .ok (.round l f t as bd) w' => RoundIn Fence.wide 0 P l f t as bd w' fun e w'' => ∃ v, e = .returned v ∧ R v w''
  | _ => False

theorem CallR.mono {s : Sem Next} {R R' : Value → World → Prop} (h : CallR P s w R) (hr : ∀ v w', R v w' → R' v w') : CallR P s w R' := by
  unfold CallR at *
  generalize s.run P w = x at *
  cases x with
  | ok n w' =>
    cases n <;> simp only at h ⊢ <;> first | exact hr _ _ h | exact h.elim | skip
    · exact h.mono fun e w'' ⟨v, h1, h2⟩ => ⟨v, h1, hr _ _ h2⟩
    · exact h.mono fun e w'' ⟨v, h1, h2⟩ => ⟨v, h1, hr _ _ h2⟩
  | halt _ _ => exact h

def TgtIs (μ : MMap) (t : Tgt) (vs : Array Value) (s : Sem Next) : Prop :=
  match t with
  | .f f => s = callFunc f vs
  | .y id => ∃ m, μ id = some m ∧ s = Instr.yield m.block vs

def Post1 (C : Claims) (μ : MMap) (H : AH) (w : World) (r : AV) (H' : AH) (v : Value) (w' : World) : Prop := ∃ C' μ', Rep C' μ' r v ∧ Wld C' μ' H' w' ∧ Ext H.length C μ H w C' μ' H' w'

def OracOk (cfg : Cfg) (cf : Orac) : Prop := ∀ t args H r H', cf t args H = some (r, H') → ∀ C μ w vs s, FrRep C μ args vs → Wld C μ H w → TgtIs μ t vs s → CallR cfg.P s w (Post1 C μ H w r H')

theorem FrRep.free {as : List AV} {vs : Array Value} (μ' : MMap) (h : FrRep C μ as vs) (hr : refsLtL 0 as = true) : FrRep C μ' as vs := ⟨h.1, fun i a v h1 h2 => (h.2 i a v h1 h2).free μ' (refsLtL_get hr h1)⟩

theorem callT_sound {cfg : Cfg} {cf : Orac} (hO : OracOk cfg cf) {nid : Option Nat} {t : Tgt} {args : List AV} {vs : Array Value} {s : Sem Next} {r : AV} (ha : FrRep C μ args vs) (h : Wld C μ H w) (ht : TgtIs μ t vs s)
    (he : callT cfg cf nid t args H = some (r, H')) : CallR cfg.P s w (Post1 C μ H w r H') := by
  have imp : ∀ {r1 : AV} {H1 : AH} {v : Value} {w1 : World}, impRes nid H.length r1 H1 = some (r, H') → Post1 C μ H w r1 H1 v w1 → Post1 C μ H w r H' v w1 := by
    intro r1 H1 v w1 hi ⟨C1, μ1, e1, e2, e3⟩
    have hf : FrRep C1 μ1 [r1] #[v] := ⟨rfl, fun i a u h1 h2 => by
      cases i with
      | zero => simp at h1 h2; subst h1; subst h2; exact e1
      | succ i => simp at h1⟩
    obtain ⟨μ', g1, g2, g3, g4, g5⟩ := gc_sound e2 hf H.length e3.len
    have fin : ∀ {r' : AV} {H2 : AH}, gc H.length [r1] H1 = ([r'], H2) → Post1 C μ H w r' H2 v w1 := by
      intro r' H2 hg
      rw [hg] at g1 g2 g4 g5
      refine ⟨C1, μ', g2.2 0 r' v rfl rfl, g1, ⟨e3.os, e3.tape, e3.output, e3.size, e3.cl, fun id m hid hm => g3 id m hid (e3.mu id m hid hm), fun b hb hnl => ?_, g5⟩⟩
      obtain ⟨f1, f2, f3⟩ := e3.fr b hb hnl
      exact ⟨f1, fun hl => f2 (g4 b hl), f3⟩
    unfold impRes at hi
    split at hi
    · rename_i r' H2 hg
      split at hi
      · cases hi; exact fin hg
      · split at hi
        · cases hi; exact fin hg
        · cases hi
    · cases hi
  unfold callT at he
  split at he
  · rename_i id
    obtain ⟨q, hq, hi⟩ := Option.bind_eq_some_iff.1 he
    exact (hO _ _ _ _ _ hq C μ w vs s ha h ht).mono fun v w1 hp => imp hi hp
  · rename_i f
    split at he
    · -- scal
      split at he
      case isFalse => cases he
      rename_i hfree
      obtain ⟨q, hq, hi⟩ := Option.bind_eq_some_iff.1 he
      split at hi
      case isFalse => cases hi
      rename_i hsc
      cases hi
      obtain ⟨C1, a1, a2, a3⟩ := frzBlks_sound (List.range H.length) h
      have hall := AllFrz.of a2
      have hid : ∀ id, id < H.length → id ∈ List.range H.length := fun id h => List.mem_range.2 h
      have ha1 : FrRep C1 μ (args.map fun a => (a.snap H).fg) vs := ⟨by simpa using ha.1, fun i a v h1 h2 => by
        obtain ⟨b, hb, rfl⟩ := getElem?_map' h1
        exact (((ha.2 i b v hb h2).mono a1 (fun _ _ h => h)).snapA hid hall).fgA⟩
      refine (hO _ _ _ _ _ hq C1 (fun _ => none) w vs s (ha1.free _ hfree) a2.nil ht).mono fun v w1 ⟨C2, μ2, e1, e2, e3⟩ => ?_
      have hfr : ∀ b, b < w.heap.size → w1.heap[b]? = w.heap[b]? := fun b hb => (e3.fr b hb not_live_nil).1
      exact ⟨C, μ, e1.scalarA hsc, h.world e3.size (fun b hb _ => hfr b hb), ⟨e3.os, e3.tape, e3.output, e3.size, fun _ _ _ h => h, fun _ _ _ h => h, fun b hb hnl => ⟨hfr b hb, hnl, rfl⟩, Nat.le_refl _⟩⟩
    · -- pfrz
      split at he
      case isFalse => cases he
      rename_i hfree
      obtain ⟨q, hq, hi⟩ := Option.bind_eq_some_iff.1 he
      split at hi
      case isFalse => cases hi
      rename_i hrf
      cases hi
      refine (hO _ _ _ _ _ hq C (fun _ => none) w vs s (ha.fg.free _ hfree) h.nil ht).mono fun v w1 ⟨C2, μ2, e1, e2, e3⟩ => ?_
      obtain ⟨C3, a1, a2, a3⟩ := frzBlks_sound q.1.msIds e2
      obtain ⟨b1, b2⟩ := h.back (e3.trans (a3 0 (Nat.zero_le _)) (Nat.le_refl _)) a2
      exact ⟨C3, μ, ((e1.mono a1 (fun _ _ h => h)).frzA (AllFrz.of a2)).fgA.free μ hrf, b1, b2 _ (Nat.le_refl _)⟩
    · -- pown
      split at he
      case isFalse => cases he
      rename_i hfree
      obtain ⟨q, hq, hi⟩ := Option.bind_eq_some_iff.1 he
      refine (hO _ _ _ _ _ hq C (fun _ => none) w vs s (ha.fg.free _ hfree) h.nil ht).mono fun v w1 ⟨C2, μ2, e1, e2, e3⟩ => ?_
      obtain ⟨b1, b2⟩ := h.back e3 e2
      unfold ownRes at hi
      split at hi
      · rename_i id off len hqr
        split at hi
        case h_2 => cases hi
        rename_i d sz rs hid
        split at hi
        case isFalse => cases hi
        rename_i hrr
        have hrr : refsLtR 0 rs = true := by
          rw [Bool.or_eq_true] at hrr
          exact hrr.elim (fun hd => e2.free.get hid hd) (fun h => h)
        split at hi
        case h_2 => cases hi
        rename_i k H2 hnew
        cases hi
        obtain ⟨m, hm, hlt, hc, hblk⟩ := e2.live id _ hid rfl
        have hge : ¬ m.block < w.heap.size := fun hb => (e3.fr _ hb not_live_nil).2.1 ⟨id, _, m, hid, rfl, hm, rfl⟩
        have hnl : ¬ Live H μ m.block := fun hl => hge (h.live_lt hl)
        obtain ⟨n1, n2, n3, n4, n5⟩ := b1.new hnew hnl hlt hc rfl (by
          obtain ⟨c1, c2, c3, c4⟩ := hblk
          exact ⟨c1, c2, fun i row hi => ⟨(c3 i row hi).1, fun j x hj => by
            obtain ⟨d1, u, d2, d3⟩ := (c3 i row hi).2 j x hj
            exact ⟨d1, u, d2, d3.free _ (refsLtL_get (refsLtR_get hrr hi) hj)⟩⟩, c4⟩) (fun _ => hrr)
        rw [hqr] at e1
        cases e1 with
        | ms _ _ _ cap ad m' hm' hl had =>
          rw [hm] at hm'; cases hm'
          have b3 := b2 _ (Nat.le_refl _)
          refine ⟨C2, upd μ k m, .ms k off len cap ad m (by unfold upd; rw [if_pos rfl]) hl had, n1, ⟨b3.os, b3.tape, b3.output, b3.size, b3.cl, fun id m' _ hm' => n2 id m' hm', fun b hb hnl' => ?_, n3⟩⟩
          obtain ⟨f1, f2, f3⟩ := b3.fr b hb hnl'
          refine ⟨f1, fun hl => ?_, f3⟩
          rcases n4 b hl with hl | hl
          · exact hnl' hl
          · exact hge (by rw [← hl]; exact hb)
      · rename_i hqr
        split at hi
        · rename_i hrf
          cases hi
          exact ⟨C2, μ, e1.free μ hrf, b1, b2 _ (Nat.le_refl _)⟩
        · cases hi
    · -- imp
      obtain ⟨q, hq, hi⟩ := Option.bind_eq_some_iff.1 he
      exact (hO _ _ _ _ _ hq C μ w vs s ha h ht).mono fun v w1 hp => imp hi hp
    · -- ifrz
      obtain ⟨q, hq, hi⟩ := Option.bind_eq_some_iff.1 he
      refine (hO _ _ _ _ _ hq C μ w vs s ha h ht).mono fun v w1 ⟨C2, μ2, e1, e2, e3⟩ => imp hi ?_
      obtain ⟨C3, a1, a2, a3⟩ := frzBlks_sound q.1.msIds e2
      exact ⟨C3, μ2, (e1.mono a1 (fun _ _ h => h)).frzA (AllFrz.of a2), a2, e3.trans (a3 _ e3.len) (Nat.le_refl _)⟩
end Go.Av
