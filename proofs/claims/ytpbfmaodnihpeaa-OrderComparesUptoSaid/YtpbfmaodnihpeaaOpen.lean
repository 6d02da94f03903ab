/-
  How an argument's reading stands as abstract data, and that it reads the same in a later world. Own work.
  What is proved: for terms and lists of terms; no condition.
-/
import Derived.Test.YtpbfmaodnihpeaaTm
import Derived.Test.YtpbfmaodnihpeaaRows
import Derived.ProofKit
import Derived.OpenShut
import Derived.JoinedCond
import Derived.ChangeArms
import Derived.RowKit
import Derived.WalkKit
namespace Go.Proofs.Ytpbfmaodnihpeaa
open Go.Av

/-- all that a world holds is claimed -/
def C0 (W : World) : Claims := fun b o => W.cell? ⟨b, o, none⟩
def M0 : MMap := fun _ => none

theorem wld0 (W : World) : Wld (C0 W) M0 [] W where
  cl := fun _ _ _ h => h
  dom := fun id m h => by cases h
  res := fun id h => by simp at h
  live := fun id b h => by simp at h
  froz := fun id d sz rs h => by simp at h
  inj := fun i i' b b' m m' h => by simp at h
  free := FreeH.nil

structure TermTys (P : Program) (tT tL tI tS : TypeId) : Prop where
  uT : ∃ f0 f1 f2 f3 : Field, P.underlying tT = some (.struct #[f0, f1, f2, f3]) ∧ f0.type = tI ∧ f0.offset = 0 ∧ f1.type = tI ∧ f1.offset = 1 ∧ f2.type = tS ∧ f2.offset = 2 ∧ f3.type = tL ∧ f3.offset = 3
  uL : P.underlying tL = some (.slice tT)
  uI : P.underlying tI = some (.int .i64)
  uS : P.underlying tS = some .string
  cT : P.cellsOf tT = 4
  cL : P.cellsOf tL = 1
  cI : P.cellsOf tI = 1
  cS : P.cellsOf tS = 1

section
variable {H : Type} {enc : TypeId × Value → H} {P : Program} {W : World} {tT tL tI tS : TypeId}

/-- what a row of cells is as a term, in a world -/
def CellsAre (W : World) (cs : List Value) (t : Tm) : Prop := cs.length = 4 ∧ ∀ (j : Nat) a v, t.cells[j]? = some a → cs[j]? = some v → a.isCell = true ∧ Rep (C0 W) M0 a v

theorem cells?_some {base : Nat} {a : Addr} {n : Nat} {cs : List Value} (h : W.cells? base a n = some cs) (hn : 0 < n) : a.spot = none ∧ cs.length = n ∧ ∀ (j : Nat) v, cs[j]? = some v → W.cell? ⟨a.block, a.off + j, none⟩ = some v := by
  unfold World.cells? at h
  split at h
  · have hl : cs.length = n := by simpa using mapM_some_length h
    have hg : ∀ (j : Nat), j < n → W.cell? (a.add j) = cs[j]? := fun j hj => mapM_some_get h j j (by simp [hj])
    have hsp : a.spot = none := by
      have h0 := hg 0 hn
      rw [List.getElem?_eq_getElem (by omega)] at h0
      cases hs : a.spot with
      | none => rfl
      | some s =>
        simp only [World.cell?, Addr.add, if_pos, hs] at h0
        split at h0
        · simp at h0
        · cases h0
    refine ⟨hsp, hl, fun j v hv => ?_⟩
    have hj : j < n := by rw [← hl]; exact (List.getElem?_eq_some_iff.1 hv).1
    have := hg j hj
    rw [hv] at this
    rw [addr_add' _ _ hsp] at this
    exact this
  · cases h

theorem fieldI {n : Nat} {cs : List Value} {x : DataW H × List MemPlace} (T : TermTys P tT tL tI tS) {sp : Nat → Bool} {hd : Bool} (h : DataW.trod enc P W 0 sp hd n tI cs = some x) : ∃ k, cs = [.int .i64 k] ∧ x = (.lit (.int .i64 k), []) ∧ (Lit.int .i64 k).wf = true := DataW.trod_int T.uI h

theorem bulk_one {H : Type} (d : DataW H) : 1 ≤ Rows.uptoBulk d := by
  cases d with
  | lit l => cases l <;> simp [Rows.uptoBulk]
  | nil => simp [Rows.uptoBulk]
  | ptr d => simp [Rows.uptoBulk]
  | slice elems spare => simp [Rows.uptoBulk]
  | agg parts => simp [Rows.uptoBulk]
  | iface t d => simp [Rows.uptoBulk]
  | map entries => simp [Rows.uptoBulk]
  | held h => simp [Rows.uptoBulk]
theorem bulk_part {H : Type} {d : DataW H} {l : List (DataW H)} (h : d ∈ l) : Rows.uptoBulk d ≤ Rows.uptoBulkAll l := by
  induction l with
  | nil => cases h
  | cons x r ih =>
    simp only [Rows.uptoBulkAll]
    cases List.mem_cons.1 h with
    | inl e => subst e; omega
    | inr e => have := ih e; omega
theorem bulk_length {H : Type} (l : List (DataW H)) : l.length ≤ Rows.uptoBulkAll l := by
  induction l with
  | nil => simp [Rows.uptoBulkAll]
  | cons x r ih => have := bulk_one x; simp only [Rows.uptoBulkAll, List.length_cons]; omega
theorem bulk_slice {H : Type} {B : Nat} (es rs : List (DataW H)) (h : Rows.uptoBulk (.slice es rs) < B) : es.length < B ∧ ∀ d ∈ es, Rows.uptoBulk d < B := by
  simp only [Rows.uptoBulk] at h
  have := bulk_length es
  exact ⟨by omega, fun d hd => by have := bulk_part hd; omega⟩

/-- a term is opened -/
theorem open_both (T : TermTys P tT tL tI tS) : ∀ (n : Nat),
    (∀ cs x, DataW.trod enc P W 0 (fun _ => true) true n tT cs = some x → ∃ t : Tm, CellsAre W cs t ∧ (Rows.uptoBulk x.1 < 1099511627776 → t.Ok) ∧
      ∀ (W' : World) (sp : Nat → Bool), (∀ p ∈ x.2, W.sameAt W' p) → (∀ p ∈ x.2, sp p.block = true) → DataW.trod enc P W' 0 sp true n tT cs = some x) ∧
    (∀ cs x, DataW.trod enc P W 0 (fun _ => true) true n tL cs = some x → ∃ (l : List Tm) (v : Value), cs = [v] ∧ Rep (C0 W) M0 (.sl (rowsT l)) v ∧ (Rows.uptoBulk x.1 < 1099511627776 → OkL l ∧ l.length < 1099511627776) ∧
      ∀ (W' : World) (sp : Nat → Bool), (∀ p ∈ x.2, W.sameAt W' p) → (∀ p ∈ x.2, sp p.block = true) → DataW.trod enc P W' 0 sp true n tL cs = some x) := by
  intro n
  induction n with
  | zero => exact ⟨fun cs x h => by simp [DataW.trod] at h, fun cs x h => by simp [DataW.trod] at h⟩
  | succ n ih =>
    obtain ⟨ihT, ihL⟩ := ih
    refine ⟨fun cs x h => ?_, fun cs x h => ?_⟩
    · obtain ⟨f0, f1, f2, f3, hu, t0, o0, t1, o1, t2, o2, t3, o3⟩ := T.uT
      obtain ⟨xs, n', e, rfl, hl, hxl, hx⟩ := DataW.trod_struct hu h
      obtain rfl : n' = n := by omega
      rw [T.cT] at hl
      obtain ⟨c0, c1, c2, c3, rfl⟩ : ∃ c0 c1 c2 c3, cs = [c0, c1, c2, c3] := by
        match cs, hl with
        | [a, b, c, d], _ => exact ⟨a, b, c, d, rfl⟩
      obtain ⟨x0, x1, x2, x3, rfl⟩ : ∃ c0 c1 c2 c3, xs = [c0, c1, c2, c3] := by
        match xs, hxl with
        | [a, b, c, d], _ => exact ⟨a, b, c, d, rfl⟩
      have h0 := hx 0 f0 rfl
      have h1 := hx 1 f1 rfl
      have h2 := hx 2 f2 rfl
      have h3 := hx 3 f3 rfl
      rw [t0, o0, T.cI] at h0
      rw [t1, o1, T.cI] at h1
      rw [t2, o2, T.cS] at h2
      rw [t3, o3, T.cL] at h3
      simp at h0 h1 h2 h3
      obtain ⟨k, e0, rfl, w0⟩ := DataW.trod_int T.uI h0
      obtain ⟨m, e1, rfl, w1⟩ := DataW.trod_int T.uI h1
      obtain ⟨s, e2, rfl, w2⟩ := DataW.trod_string T.uS h2
      obtain ⟨l, v, e3, hr, hb, hback⟩ := ihL _ _ h3
      simp at e0 e1 e2 e3
      subst e0 e1 e2 e3
      refine ⟨.mk k m s.data.toList l, ⟨rfl, fun j a u ha hu => ?_⟩, fun hbk => ?_, fun W' sp hs hp => ?_⟩
      · rw [Tm.cells_mk] at ha
        match j, ha, hu with
        | 0, ha, hu => simp at ha hu; subst ha hu; exact ⟨rfl, .int _ _⟩
        | 1, ha, hu => simp at ha hu; subst ha hu; exact ⟨rfl, .int _ _⟩
        | 2, ha, hu =>
          simp at ha hu; subst ha hu
          refine ⟨rfl, ?_⟩
          have := Rep.str (C := C0 W) (μ := M0) s.data.toList
          simpa using this
        | 3, ha, hu => simp at ha hu; subst ha hu; exact ⟨rfl, hr⟩
        | (j + 4), ha, hu => simp at ha
      · simp only [List.map_cons, List.map_nil, Rows.uptoBulk, Rows.uptoBulkAll] at hbk
        have := hb (by omega)
        rw [Tm.Ok]
        exact ⟨by omega, this.2, this.1⟩
      · have hs3 : ∀ p ∈ x3.2, W.sameAt W' p := fun p hp => hs p (by simp [hp])
        have hp3 : ∀ p ∈ x3.2, sp p.block = true := fun p hpp => hp p (by simp [hpp])
        have b3 := hback W' sp hs3 hp3
        have b0 : DataW.trod enc P W' 0 sp true n' tI [Value.int .i64 k] = some (.lit (.int .i64 k), []) := by
          cases n' with
          | zero => simp [DataW.trod] at h0
          | succ q => simp [DataW.trod, T.uI, w0]
        have b1 : DataW.trod enc P W' 0 sp true n' tI [Value.int .i64 m] = some (.lit (.int .i64 m), []) := by
          cases n' with
          | zero => simp [DataW.trod] at h0
          | succ q => simp [DataW.trod, T.uI, w1]
        have b2 : DataW.trod enc P W' 0 sp true n' tS [Value.string s] = some (.lit (.string s.data.toList), []) := by
          cases n' with
          | zero => simp [DataW.trod] at h0
          | succ q => simp [DataW.trod, T.uS, w2]
        unfold DataW.trod
        rw [hu]
        simp [T.cT, t0, o0, t1, o1, t2, o2, t3, o3, T.cI, T.cS, T.cL, b0, b1, b2, b3]
    · rcases DataW.trod_slice T.uL h with ⟨rfl, rfl⟩ | ⟨a, len, cap, elems, rest, n', e, rfl, rfl, hb, hlc, hmx, hel, hg, hsp, _⟩
      · refine ⟨[], _, rfl, by rw [rowsT_nil]; exact .slNil, fun _ => ⟨trivial, by simp⟩, fun W' sp _ _ => ?_⟩
        simp [DataW.trod, T.uL]
      · obtain rfl : n' = n := by omega
        obtain ⟨hrl, hrg⟩ := hsp rfl
        have one : ∀ (i : Nat) (y : DataW H × List MemPlace), (W.cells? 0 (a.add (i * P.cellsOf tT)) (P.cellsOf tT)).bind (DataW.trod enc P W 0 (fun _ => true) true n' tT) = some y →
            ∃ cs', W.cells? 0 (a.add (i * 4)) 4 = some cs' ∧ DataW.trod enc P W 0 (fun _ => true) true n' tT cs' = some y := by
          intro i y hy
          rw [T.cT] at hy
          exact Option.bind_eq_some_iff.1 hy
        -- the terms
        have tms : ∃ f : Nat → Tm, ∀ (i : Nat) y, elems[i]? = some y → ∃ cs', W.cells? 0 (a.add (i * 4)) 4 = some cs' ∧ CellsAre W cs' (f i) ∧ (Rows.uptoBulk y.1 < 1099511627776 → (f i).Ok) := by
          have : ∀ i : Nat, ∃ t : Tm, ∀ y, elems[i]? = some y → ∃ cs', W.cells? 0 (a.add (i * 4)) 4 = some cs' ∧ CellsAre W cs' t ∧ (Rows.uptoBulk y.1 < 1099511627776 → t.Ok) := by
            intro i
            cases hy : elems[i]? with
            | none => exact ⟨default, fun y h => by cases h⟩
            | some y =>
              have hi : i < len := by rw [← hel]; exact (List.getElem?_eq_some_iff.1 hy).1
              obtain ⟨cs', h1, h2⟩ := one i y ((hg i hi).trans hy)
              obtain ⟨t, h3, h4, _⟩ := ihT _ _ h2
              exact ⟨t, fun y' hy' => by cases hy'; exact ⟨cs', h1, h3, h4⟩⟩
          exact ⟨fun i => Classical.choose (this i), fun i => Classical.choose_spec (this i)⟩
        obtain ⟨f, hf⟩ := tms
        have hget : ∀ (i : Nat) (row : List AV), (rowsT ((List.range len).map f))[i]? = some row → i < len ∧ row = (f i).cells := by
          intro i row hi
          have hil : i < len := by have := (List.getElem?_eq_some_iff.1 hi).1; simpa using this
          refine ⟨hil, ?_⟩
          rw [rowsT_get, List.getElem?_map, List.getElem?_range hil] at hi
          simpa using hi.symm
        have hcell : ∀ (i j : Nat) (row : List AV) x, (rowsT ((List.range len).map f))[i]? = some row → row[j]? = some x → a.spot = none ∧ x.isCell = true ∧ ∃ v, W.cell? ⟨a.block, a.off + i * 4 + j, none⟩ = some v ∧ Rep (C0 W) M0 x v := by
          intro i j row x hi hj
          obtain ⟨hil, rfl⟩ := hget i row hi
          obtain ⟨cs', h1, h2, _⟩ := hf i _ (List.getElem?_eq_getElem (by omega))
          obtain ⟨s1, s2, s3⟩ := cells?_some h1 (by omega)
          have hspot : a.spot = none := by
            obtain ⟨cs0, q1, _⟩ := hf 0 _ (List.getElem?_eq_getElem (by omega))
            have := (cells?_some q1 (by omega)).1
            simpa [Addr.add] using this
          have hjl : j < cs'.length := by
            rw [h2.1]
            have := (List.getElem?_eq_some_iff.1 hj).1
            cases hfi : f i with
            | mk k n s l => rw [hfi, Tm.cells_mk] at this; simpa using this
          have h4 := h2.2 j x _ hj (List.getElem?_eq_getElem hjl)
          refine ⟨hspot, h4.1, _, ?_, h4.2⟩
          have := s3 j _ (List.getElem?_eq_getElem hjl)
          rw [addr_add' _ _ hspot] at this
          exact this
        refine ⟨(List.range len).map f, _, rfl, ?_, fun hbk => ?_, fun W' sp hs hp => ?_⟩
        · have := Rep.sl (C := C0 W) (μ := M0) (rowsT ((List.range len).map f)) a cap 4 (fun i j => (W.cell? ⟨a.block, a.off + i * 4 + j, none⟩).getD undef) (fun hne => ?_) (fun i row hi => ?_) (fun i j row x hi hj => ?_) (fun i j row x hi hj => ?_) (fun i j row x hi hj => ?_) (by simpa using hlc) (rowsT_free _)
          · simpa using this
          · have hl0 : 0 < len := by
              rcases Nat.eq_zero_or_pos len with h0 | h0
              · subst h0; exact absurd (by simp) hne
              · exact h0
            obtain ⟨cs0, q1, _⟩ := hf 0 _ (List.getElem?_eq_getElem (by omega))
            have := (cells?_some q1 (by omega)).1
            simpa [Addr.add] using this
          · obtain ⟨_, rfl⟩ := hget i row hi
            cases hfi : f i with
            | mk k n s l => rw [Tm.cells_mk]; rfl
          · obtain ⟨_, _, v, h1, _⟩ := hcell i j row x hi hj
            show W.cell? _ = _
            rw [h1]; rfl
          · obtain ⟨_, _, v, h1, h2⟩ := hcell i j row x hi hj
            rw [h1]; exact h2
          · exact (hcell i j row x hi hj).2.1
        · have hle := bulk_slice (elems.map (·.1)) (rest.map (·.1)) hbk
          refine ⟨OkL_iff.2 fun t ht => ?_, by simpa [hel] using hle.1⟩
          obtain ⟨i, hi, rfl⟩ := List.mem_map.1 ht
          have hi' : i < len := by simpa using hi
          obtain ⟨_, _, _, h4⟩ := hf i _ (List.getElem?_eq_getElem (by omega))
          exact h4 (hle.2 _ (List.mem_map.2 ⟨_, List.getElem_mem _, rfl⟩))
        · have hrow : 0 < (elems.length + rest.length) → sp a.block = true := fun hpos => hp (.cell a.block (a.off + 0)) (by
            rw [List.mem_append]
            exact .inl (MemPlace.mem_row.2 ⟨0, Nat.mul_pos hpos (by rw [T.cT]; omega), rfl⟩))
          unfold DataW.trod at h ⊢
          rw [T.uL] at h ⊢
          simp only [if_true] at h ⊢
          rw [if_pos ⟨hb, hlc, hmx⟩] at h ⊢
          simp only [Option.map_eq_some_iff, Option.bind_eq_some_iff] at h ⊢
          obtain ⟨elems', he, rest', hr, hx⟩ := h
          have hlen : elems'.length = len := by simpa using mapM_some_length he
          have hrl' : rest'.length = cap - len := by simpa using mapM_some_length hr
          simp only [Prod.mk.injEq, DataW.slice.injEq] at hx
          have one' : ∀ (i : Nat) (y : DataW H × List MemPlace), i < elems'.length + rest'.length → y ∈ elems' ++ rest' →
              (W.cells? 0 (a.add (i * P.cellsOf tT)) (P.cellsOf tT)).bind (DataW.trod enc P W 0 (fun _ => true) true n' tT) = some y → (W'.cells? 0 (a.add (i * P.cellsOf tT)) (P.cellsOf tT)).bind (DataW.trod enc P W' 0 sp true n' tT) = some y := by
            intro i y hi hy hv
            simp only [Option.bind_eq_some_iff] at hv ⊢
            obtain ⟨cs', hc', hy'⟩ := hv
            obtain ⟨_, _, _, hbk⟩ := ihT _ _ hy'
            refine ⟨cs', World.cells?_carry hc' (fun p hpp => hs p ?_), hbk W' sp (fun p hpp => hs p ?_) (fun p hpp => hp p ?_)⟩
            · rw [← hx.2]
              obtain ⟨j, hj, rfl⟩ := MemPlace.mem_row.1 hpp
              simp only [List.mem_append]
              left
              refine MemPlace.mem_row.2 ⟨i * P.cellsOf tT + j, ?_, ?_⟩
              · calc i * P.cellsOf tT + j < i * P.cellsOf tT + P.cellsOf tT := by omega
                  _ = (i + 1) * P.cellsOf tT := by rw [Nat.add_mul, Nat.one_mul]
                  _ ≤ (elems'.length + rest'.length) * P.cellsOf tT := Nat.mul_le_mul_right _ hi
              · unfold Addr.add
                split
                · rename_i h0
                  simp [h0]
                · simp [Nat.add_assoc]
            · rw [← hx.2]
              simp only [List.mem_append, List.mem_flatMap]
              right
              exact ⟨y, by simpa using hy, hpp⟩
            · rw [← hx.2]
              simp only [List.mem_append, List.mem_flatMap]
              right
              exact ⟨y, by simpa using hy, hpp⟩
          refine ⟨elems', mapM_carry he (fun i y hi hy => one' i y (by have : i < len := (by simpa using hi); omega) (by simp [hy])), rest', ?_, by simp only [Prod.mk.injEq, DataW.slice.injEq]; exact hx⟩
          by_cases h0 : 0 < elems.length + rest.length
          · rw [if_pos (hrow h0)]
            exact mapM_carry hr (fun j y hj hy => one' (len + j) y (by have : j < cap - len := (by simpa using hj); omega) (by simp [hy]))
          · have hc0 : cap - len = 0 := by omega
            rw [hc0] at hr ⊢
            simp at hr
            subst hr
            split <;> rfl
end
end Go.Proofs.Ytpbfmaodnihpeaa
