/-
  Parts of the proof of GuardAppliesUptoSaid, put together: the abstract evaluation and its contracts. Own work.
  What is proved: each lemma as it stands; no condition.
-/
import Derived.Test.YtkgkjngbfdnoiaaGreatRows
import Derived.ProofKit
import Derived.OpenShut
import Derived.JoinedCond
import Derived.ChangeArms
import Derived.RowKit
import Derived.WalkKit
import Derived.Test.YtkgkjngbfdnoiaaGreatZGuardAppliesM3

section
namespace Go.Av

inductive Tm where
  | mk (k n : Int) (s : List UInt8) (l : List Tm)
  deriving Inhabited

namespace Tm
def kind : Tm → Int | mk k _ _ _ => k
def num : Tm → Int | mk _ n _ _ => n
def str : Tm → List UInt8 | mk _ _ s _ => s
def subs : Tm → List Tm | mk _ _ _ l => l
end Tm

mutual
def Tm.cells : Tm → List AV
  | .mk k n s l => [.int .i64 k, .int .i64 n, .str s, .sl (rowsT l)]
def rowsT : List Tm → List (List AV)
  | [] => []
  | t :: l => t.cells :: rowsT l
end

def Tm.av (t : Tm) : AV := .agg t.cells

theorem Tm.cells_mk (k n : Int) (s : List UInt8) (l : List Tm) : (Tm.mk k n s l).cells = [.int .i64 k, .int .i64 n, .str s, .sl (rowsT l)] := by rw [Tm.cells]
theorem Tm.av_mk (k n : Int) (s : List UInt8) (l : List Tm) : (Tm.mk k n s l).av = .agg [.int .i64 k, .int .i64 n, .str s, .sl (rowsT l)] := by rw [Tm.av, Tm.cells_mk]
theorem rowsT_map : ∀ l : List Tm, rowsT l = l.map Tm.cells
  | [] => by rw [rowsT]; rfl
  | t :: l => by rw [rowsT, rowsT_map l]; rfl
@[simp] theorem rowsT_length (l : List Tm) : (rowsT l).length = l.length := by rw [rowsT_map]; simp
@[simp] theorem rowsT_nil : rowsT [] = [] := by rw [rowsT]
theorem rowsT_cons (t : Tm) (l : List Tm) : rowsT (t :: l) = t.cells :: rowsT l := by rw [rowsT]
theorem rowsT_append (a b : List Tm) : rowsT (a ++ b) = rowsT a ++ rowsT b := by simp [rowsT_map]
theorem rowsT_take (n : Nat) (a : List Tm) : (rowsT a).take n = rowsT (a.take n) := by simp [rowsT_map, List.map_take]
theorem rowsT_drop (n : Nat) (a : List Tm) : (rowsT a).drop n = rowsT (a.drop n) := by simp [rowsT_map, List.map_drop]
theorem rowsT_get (l : List Tm) (i : Nat) : (rowsT l)[i]? = (l[i]?).map Tm.cells := by rw [rowsT_map]; simp
theorem rowsT_some {l : List Tm} {i : Nat} {k n : Int} {s : List UInt8} {l' : List Tm} (h : l[i]? = some (.mk k n s l')) : (rowsT l)[i]? = some [.int .i64 k, .int .i64 n, .str s, .sl (rowsT l')] := by rw [rowsT_get, h, ← Tm.cells_mk]; rfl
theorem rowsT_set (l : List Tm) (i : Nat) (t : Tm) : (rowsT l).set i t.cells = rowsT (l.set i t) := by simp [rowsT_map, List.map_set]

theorem cells_free (t : Tm) : refsLtL 0 t.cells = true := by
  obtain ⟨k, n, s, l⟩ := t
  rw [Tm.cells_mk]; rfl
theorem rowsT_free (l : List Tm) : refsLtR 0 (rowsT l) = true := by
  induction l with
  | nil => rw [rowsT]; rfl
  | cons t l ih => rw [rowsT, refsLtR, ih, cells_free]; rfl

mutual
/-- no list is longer than is counted here, no text -/
def Tm.Ok : Tm → Prop
  | .mk _ _ s l => s.length < 1099511627776 ∧ l.length < 1099511627776 ∧ OkL l
def OkL : List Tm → Prop
  | [] => True
  | t :: l => t.Ok ∧ OkL l
end
theorem OkL_iff {l : List Tm} : OkL l ↔ ∀ t ∈ l, t.Ok := by
  induction l with
  | nil => simp [OkL]
  | cons t l ih => simp [OkL, ih]
theorem Tm.Ok.str {k n : Int} {s : List UInt8} {l : List Tm} (h : (Tm.mk k n s l).Ok) : s.length < 1099511627776 := by rw [Tm.Ok] at h; exact h.1
theorem Tm.Ok.len {k n : Int} {s : List UInt8} {l : List Tm} (h : (Tm.mk k n s l).Ok) : l.length < 1099511627776 := by rw [Tm.Ok] at h; exact h.2.1
theorem Tm.Ok.sub {k n : Int} {s : List UInt8} {l : List Tm} (h : (Tm.mk k n s l).Ok) {t : Tm} (ht : t ∈ l) : t.Ok := by rw [Tm.Ok] at h; exact OkL_iff.1 h.2.2 t ht
theorem OkL.get {l : List Tm} (h : OkL l) {t : Tm} (ht : t ∈ l) : t.Ok := OkL_iff.1 h t ht

theorem Tm.ind {P : Tm → Prop} (h : ∀ k n s l, (∀ t ∈ l, P t) → P (.mk k n s l)) : ∀ t, P t
  | .mk k n s l => h k n s l (fun t _ => Tm.ind h t)

theorem wrap64 {x : Int} (h1 : -9223372036854775808 ≤ x) (h2 : x < 9223372036854775808) : IntKind.wrap .i64 x = x := by
  simp [IntKind.wrap, IntKind.bits, IntKind.signed]; omega
theorem wrap_succ {i n : Nat} (h : i < n) (hn : n < 1099511627776) : IntKind.wrap .i64 ((i : Int) + 1) = ((i + 1 : Nat) : Int) := by
  rw [wrap64 (by omega) (by omega)]; rfl
theorem leInt_zero (i : Nat) : leInt 0 (i : Int) = true := by simp [leInt]
theorem ltInt_nat (i n : Nat) : ltInt (i : Int) (n : Int) = decide (i < n) := by simp [ltInt]

def kTmC {α : Type} (l : List AV) (k : Int → Int → List UInt8 → List (List AV) → Option α) : Option α :=
  kCons l fun c cs => kInt .i64 c fun n => kCons cs fun c cs => kInt .i64 c fun m => kCons cs fun c cs => kStr c fun s => kCons cs fun c cs => kSl c fun A => kNil cs (k n m s A)
def kTmV {α : Type} (v : AV) (k : Int → Int → List UInt8 → List (List AV) → Option α) : Option α := kAgg v fun cs => kTmC cs k

theorem rowsT_at {α : Type} {l : List Tm} {i : Nat} {t : Tm} (h : l[i]? = some t) (k : List AV → Option α) : kOpt (List.get?Internal (rowsT l) (Int.toNat (i : Int))) k = k t.cells := by
  rw [get?Internal_eq, Int.toNat_natCast, rowsT_get, h]; rfl
end Go.Av
end

section
namespace Go.Av
mutual
def Tm.w : Tm → Nat
  | .mk _ _ s l => 1 + s.length + wL l
def wL : List Tm → Nat
  | [] => 0
  | t :: l => t.w + wL l
end
theorem Tm.w_mk (k n : Int) (s : List UInt8) (l : List Tm) : (Tm.mk k n s l).w = 1 + s.length + wL l := by rw [Tm.w]
theorem Tm.w_eq (t : Tm) : t.w = 1 + t.str.length + wL t.subs := by cases t; rw [Tm.w_mk]; rfl
@[simp] theorem wL_nil : wL [] = 0 := by rw [wL]
@[simp] theorem wL_cons (t : Tm) (l : List Tm) : wL (t :: l) = t.w + wL l := by rw [wL]
@[simp] theorem wL_append (a b : List Tm) : wL (a ++ b) = wL a + wL b := by
  induction a with
  | nil => simp
  | cons t l ih => simp [ih]; omega
theorem w_pos (t : Tm) : 1 ≤ t.w := by rw [Tm.w_eq]; omega
theorem wL_mem {t : Tm} {l : List Tm} (h : t ∈ l) : t.w ≤ wL l := by
  induction l with
  | nil => cases h
  | cons x l ih =>
    rw [wL_cons]
    rcases List.mem_cons.1 h with rfl | h
    · omega
    · have := ih h; omega
theorem wL_len (l : List Tm) : l.length ≤ wL l := by
  induction l with
  | nil => simp
  | cons x l ih => have := w_pos x; simp; omega
theorem ok_of_w (t : Tm) : t.w < 1099511627776 → t.Ok := by
  induction t using Tm.ind with
  | _ k n s l ih =>
    intro h
    rw [Tm.w_mk] at h
    rw [Tm.Ok]
    have := wL_len l
    exact ⟨by omega, by omega, OkL_iff.2 fun t ht => ih t ht (by have := wL_mem ht; omega)⟩
theorem okL_of_w {l : List Tm} (h : wL l < 1099511627776) : OkL l := OkL_iff.2 fun t ht => ok_of_w t (by have := wL_mem ht; omega)
theorem wL_rev (l : List Tm) : wL l.reverse = wL l := by
  induction l with
  | nil => rfl
  | cons x l ih => simp [ih]; omega
end Go.Av
end

section
namespace Go.Proofs.YtkgkjngbfdnoiaaGreat
open Go.Av

def C0 (W : World) : Claims := fun b o => W.cell? ⟨b, o, none⟩
def M0 : MMap := fun _ => none

theorem wld0 (W : World) : Wld (C0 W) M0 [] W where
  cl := fun _ _ _ h => h
  dom := fun id m h => by cases h
  res := fun id h => by simp at h
  live := fun id b h => by simp at h
  froz := fun id d sz rs h => by simp at h
  inj := fun i i' b b' m m' h => by simp at h
  free := FreeH.nil
  lnt := ⟨fun _ _ _ h => (by cases h), fun h => h.elim⟩

structure TermTys (P : Program) (tT tL tI tS : TypeId) : Prop where
  uT : ∃ f0 f1 f2 f3 : Field, P.underlying tT = some (.struct #[f0, f1, f2, f3]) ∧ f0.type = tI ∧ f0.offset = 0 ∧ f1.type = tI ∧ f1.offset = 1 ∧ f2.type = tS ∧ f2.offset = 2 ∧ f3.type = tL ∧ f3.offset = 3
  uL : P.underlying tL = some (.slice tT)
  uI : P.underlying tI = some (.int .i64)
  uS : P.underlying tS = some .string
  cT : P.cellsOf tT = 4
  cL : P.cellsOf tL = 1
  cI : P.cellsOf tI = 1
  cS : P.cellsOf tS = 1

section
variable {H : Type} {enc : TypeId × Value → H} {P : Program} {W : World} {tT tL tI tS : TypeId}

def CellsAre (W : World) (cs : List Value) (t : Tm) : Prop := cs.length = 4 ∧ ∀ (j : Nat) a v, t.cells[j]? = some a → cs[j]? = some v → a.isCell = true ∧ Rep (C0 W) M0 a v

theorem cells?_some {base : Nat} {a : Addr} {n : Nat} {cs : List Value} (h : W.cells? base a n = some cs) (hn : 0 < n) : a.spot = none ∧ cs.length = n ∧ ∀ (j : Nat) v, cs[j]? = some v → W.cell? ⟨a.block, a.off + j, none⟩ = some v := by
  unfold World.cells? at h
  split at h
  · have hl : cs.length = n := by simpa using mapM_some_length h
    have hg : ∀ (j : Nat), j < n → W.cell? (a.add j) = cs[j]? := fun j hj => mapM_some_get h j j (by simp [hj])
    have hsp : a.spot = none := by
      have h0 := hg 0 hn
      rw [List.getElem?_eq_getElem (by omega)] at h0
      cases hs : a.spot with
      | none => rfl
      | some s =>
        simp only [World.cell?, Addr.add, if_pos, hs] at h0
        split at h0
        · simp at h0
        · cases h0
    refine ⟨hsp, hl, fun j v hv => ?_⟩
    have hj : j < n := by rw [← hl]; exact (List.getElem?_eq_some_iff.1 hv).1
    have := hg j hj
    rw [hv] at this
    rw [addr_add' _ _ hsp] at this
    exact this
  · cases h

theorem bulk_part {H : Type} {d : DataW H} {l : List (DataW H)} (h : d ∈ l) : Rows.uptoBulk d ≤ Rows.uptoBulkAll l := by
  induction l with
  | nil => cases h
  | cons x r ih =>
    simp only [Rows.uptoBulkAll]
    cases List.mem_cons.1 h with
    | inl e => subst e; omega
    | inr e => have := ih e; omega
theorem bulk_terms {H : Type} : ∀ (l : List Tm) (ds : List (DataW H)), l.length = ds.length → (∀ (i : Nat) t d, l[i]? = some t → ds[i]? = some d → t.w ≤ Rows.uptoBulk d) → wL l ≤ Rows.uptoBulkAll ds
  | [], [], _, _ => by simp [Rows.uptoBulkAll]
  | t :: l, d :: ds, hl, h => by
    have h0 := h 0 t d rfl rfl
    have := bulk_terms l ds (by simpa using hl) (fun i t d ht hd => h (i + 1) t d (by simpa using ht) (by simpa using hd))
    simp only [wL_cons, Rows.uptoBulkAll]
    omega
theorem open_both (T : TermTys P tT tL tI tS) : ∀ (n : Nat),
    (∀ cs x, DataW.trod enc P W 0 (fun _ => true) true n tT cs = some x → ∃ t : Tm, CellsAre W cs t ∧ t.w ≤ Rows.uptoBulk x.1 ∧
      ∀ (W' : World) (sp : Nat → Bool), (∀ p ∈ x.2, W.sameAt W' p) → (∀ p ∈ x.2, sp p.block = true) → DataW.trod enc P W' 0 sp true n tT cs = some x) ∧
    (∀ cs x, DataW.trod enc P W 0 (fun _ => true) true n tL cs = some x → ∃ (l : List Tm) (v : Value), cs = [v] ∧ Rep (C0 W) M0 (.sl (rowsT l)) v ∧ wL l ≤ Rows.uptoBulk x.1 ∧
      ∀ (W' : World) (sp : Nat → Bool), (∀ p ∈ x.2, W.sameAt W' p) → (∀ p ∈ x.2, sp p.block = true) → DataW.trod enc P W' 0 sp true n tL cs = some x) := by
  intro n
  induction n with
  | zero => exact ⟨fun cs x h => by simp [DataW.trod] at h, fun cs x h => by simp [DataW.trod] at h⟩
  | succ n ih =>
    obtain ⟨ihT, ihL⟩ := ih
    refine ⟨fun cs x h => ?_, fun cs x h => ?_⟩
    · obtain ⟨f0, f1, f2, f3, hu, t0, o0, t1, o1, t2, o2, t3, o3⟩ := T.uT
      obtain ⟨xs, n', e, rfl, hl, hxl, hx⟩ := DataW.trod_struct hu h
      obtain rfl : n' = n := by omega
      rw [T.cT] at hl
      obtain ⟨c0, c1, c2, c3, rfl⟩ : ∃ c0 c1 c2 c3, cs = [c0, c1, c2, c3] := by
        match cs, hl with
        | [a, b, c, d], _ => exact ⟨a, b, c, d, rfl⟩
      obtain ⟨x0, x1, x2, x3, rfl⟩ : ∃ c0 c1 c2 c3, xs = [c0, c1, c2, c3] := by
        match xs, hxl with
        | [a, b, c, d], _ => exact ⟨a, b, c, d, rfl⟩
      have h0 := hx 0 f0 rfl
      have h1 := hx 1 f1 rfl
      have h2 := hx 2 f2 rfl
      have h3 := hx 3 f3 rfl
      rw [t0, o0, T.cI] at h0
      rw [t1, o1, T.cI] at h1
      rw [t2, o2, T.cS] at h2
      rw [t3, o3, T.cL] at h3
      simp at h0 h1 h2 h3
      obtain ⟨k, e0, rfl, w0⟩ := DataW.trod_int T.uI h0
      obtain ⟨m, e1, rfl, w1⟩ := DataW.trod_int T.uI h1
      obtain ⟨s, e2, rfl, w2⟩ := DataW.trod_string T.uS h2
      obtain ⟨l, v, e3, hr, hb, hback⟩ := ihL _ _ h3
      simp at e0 e1 e2 e3
      subst e0 e1 e2 e3
      refine ⟨.mk k m s.data.toList l, ⟨rfl, fun j a u ha hu => ?_⟩, ?_, fun W' sp hs hp => ?_⟩
      · rw [Tm.cells_mk] at ha
        match j, ha, hu with
        | 0, ha, hu => simp at ha hu; subst ha hu; exact ⟨rfl, .int _ _⟩
        | 1, ha, hu => simp at ha hu; subst ha hu; exact ⟨rfl, .int _ _⟩
        | 2, ha, hu =>
          simp at ha hu; subst ha hu
          refine ⟨rfl, ?_⟩
          have := Rep.str (C := C0 W) (μ := M0) s.data.toList
          simpa using this
        | 3, ha, hu => simp at ha hu; subst ha hu; exact ⟨rfl, hr⟩
        | (j + 4), ha, hu => simp at ha
      · simp only [List.map_cons, List.map_nil, Rows.uptoBulk, Rows.uptoBulkAll]
        rw [Tm.w_mk]
        omega
      · have hs3 : ∀ p ∈ x3.2, W.sameAt W' p := fun p hp => hs p (by simp [hp])
        have hp3 : ∀ p ∈ x3.2, sp p.block = true := fun p hpp => hp p (by simp [hpp])
        have b3 := hback W' sp hs3 hp3
        have b0 : DataW.trod enc P W' 0 sp true n' tI [Value.int .i64 k] = some (.lit (.int .i64 k), []) := by
          cases n' with
          | zero => simp [DataW.trod] at h0
          | succ q => simp [DataW.trod, T.uI, w0]
        have b1 : DataW.trod enc P W' 0 sp true n' tI [Value.int .i64 m] = some (.lit (.int .i64 m), []) := by
          cases n' with
          | zero => simp [DataW.trod] at h0
          | succ q => simp [DataW.trod, T.uI, w1]
        have b2 : DataW.trod enc P W' 0 sp true n' tS [Value.string s] = some (.lit (.string s.data.toList), []) := by
          cases n' with
          | zero => simp [DataW.trod] at h0
          | succ q => simp [DataW.trod, T.uS, w2]
        unfold DataW.trod
        rw [hu]
        simp [T.cT, t0, o0, t1, o1, t2, o2, t3, o3, T.cI, T.cS, T.cL, b0, b1, b2, b3]
    · rcases DataW.trod_slice T.uL h with ⟨rfl, rfl⟩ | ⟨a, len, cap, elems, rest, n', e, rfl, rfl, hb, hlc, hmx, hel, hg, hsp, _⟩
      · refine ⟨[], _, rfl, by rw [rowsT_nil]; exact .slNil, by simp, fun W' sp _ _ => ?_⟩
        simp [DataW.trod, T.uL]
      · obtain rfl : n' = n := by omega
        obtain ⟨hrl, hrg⟩ := hsp rfl
        have one : ∀ (i : Nat) (y : DataW H × List MemPlace), (W.cells? 0 (a.add (i * P.cellsOf tT)) (P.cellsOf tT)).bind (DataW.trod enc P W 0 (fun _ => true) true n' tT) = some y →
            ∃ cs', W.cells? 0 (a.add (i * 4)) 4 = some cs' ∧ DataW.trod enc P W 0 (fun _ => true) true n' tT cs' = some y := by
          intro i y hy
          rw [T.cT] at hy
          exact Option.bind_eq_some_iff.1 hy
        -- the terms
        have tms : ∃ f : Nat → Tm, ∀ (i : Nat) y, elems[i]? = some y → ∃ cs', W.cells? 0 (a.add (i * 4)) 4 = some cs' ∧ CellsAre W cs' (f i) ∧ (f i).w ≤ Rows.uptoBulk y.1 := by
          have : ∀ i : Nat, ∃ t : Tm, ∀ y, elems[i]? = some y → ∃ cs', W.cells? 0 (a.add (i * 4)) 4 = some cs' ∧ CellsAre W cs' t ∧ t.w ≤ Rows.uptoBulk y.1 := by
            intro i
            cases hy : elems[i]? with
            | none => exact ⟨default, fun y h => by cases h⟩
            | some y =>
              have hi : i < len := by rw [← hel]; exact (List.getElem?_eq_some_iff.1 hy).1
              obtain ⟨cs', h1, h2⟩ := one i y ((hg i hi).trans hy)
              obtain ⟨t, h3, h4, _⟩ := ihT _ _ h2
              exact ⟨t, fun y' hy' => by cases hy'; exact ⟨cs', h1, h3, h4⟩⟩
          exact ⟨fun i => Classical.choose (this i), fun i => Classical.choose_spec (this i)⟩
        obtain ⟨f, hf⟩ := tms
        have hget : ∀ (i : Nat) (row : List AV), (rowsT ((List.range len).map f))[i]? = some row → i < len ∧ row = (f i).cells := by
          intro i row hi
          have hil : i < len := by have := (List.getElem?_eq_some_iff.1 hi).1; simpa using this
          refine ⟨hil, ?_⟩
          rw [rowsT_get, List.getElem?_map, List.getElem?_range hil] at hi
          simpa using hi.symm
        have hcell : ∀ (i j : Nat) (row : List AV) x, (rowsT ((List.range len).map f))[i]? = some row → row[j]? = some x → a.spot = none ∧ x.isCell = true ∧ ∃ v, W.cell? ⟨a.block, a.off + i * 4 + j, none⟩ = some v ∧ Rep (C0 W) M0 x v := by
          intro i j row x hi hj
          obtain ⟨hil, rfl⟩ := hget i row hi
          obtain ⟨cs', h1, h2, _⟩ := hf i _ (List.getElem?_eq_getElem (by omega))
          obtain ⟨s1, s2, s3⟩ := cells?_some h1 (by omega)
          have hspot : a.spot = none := by
            obtain ⟨cs0, q1, _⟩ := hf 0 _ (List.getElem?_eq_getElem (by omega))
            have := (cells?_some q1 (by omega)).1
            simpa [Addr.add] using this
          have hjl : j < cs'.length := by
            rw [h2.1]
            have := (List.getElem?_eq_some_iff.1 hj).1
            cases hfi : f i with
            | mk k n s l => rw [hfi, Tm.cells_mk] at this; simpa using this
          have h4 := h2.2 j x _ hj (List.getElem?_eq_getElem hjl)
          refine ⟨hspot, h4.1, _, ?_, h4.2⟩
          have := s3 j _ (List.getElem?_eq_getElem hjl)
          rw [addr_add' _ _ hspot] at this
          exact this
        refine ⟨(List.range len).map f, _, rfl, ?_, ?_, fun W' sp hs hp => ?_⟩
        · have := Rep.sl (C := C0 W) (μ := M0) (rowsT ((List.range len).map f)) a cap 4 (fun i j => (W.cell? ⟨a.block, a.off + i * 4 + j, none⟩).getD undef) (fun hne => ?_) (fun i row hi => ?_) (fun i j row x hi hj => ?_) (fun i j row x hi hj => ?_) (fun i j row x hi hj => ?_) (by simpa using hlc) (rowsT_free _)
          · simpa using this
          · have hl0 : 0 < len := by
              rcases Nat.eq_zero_or_pos len with h0 | h0
              · subst h0; exact absurd (by simp) hne
              · exact h0
            obtain ⟨cs0, q1, _⟩ := hf 0 _ (List.getElem?_eq_getElem (by omega))
            have := (cells?_some q1 (by omega)).1
            simpa [Addr.add] using this
          · obtain ⟨_, rfl⟩ := hget i row hi
            cases hfi : f i with
            | mk k n s l => rw [Tm.cells_mk]; rfl
          · obtain ⟨_, _, v, h1, _⟩ := hcell i j row x hi hj
            show W.cell? _ = _
            rw [h1]; rfl
          · obtain ⟨_, _, v, h1, h2⟩ := hcell i j row x hi hj
            rw [h1]; exact h2
          · exact (hcell i j row x hi hj).2.1
        · simp only [Rows.uptoBulk]
          have := bulk_terms ((List.range len).map f) (elems.map (·.1)) (by simp [hel]) (fun i t d ht hd => by
            rw [List.getElem?_map] at ht hd
            obtain ⟨j, hj, rfl⟩ := Option.map_eq_some_iff.1 ht
            obtain ⟨y, hy, rfl⟩ := Option.map_eq_some_iff.1 hd
            have hil : i < len := by have := (List.getElem?_eq_some_iff.1 hj).1; simpa using this
            rw [List.getElem?_range hil] at hj
            cases hj
            obtain ⟨_, _, _, h4⟩ := hf i y hy
            exact h4)
          omega
        · have hrow : 0 < (elems.length + rest.length) → sp a.block = true := fun hpos => hp (.cell a.block (a.off + 0)) (by
            rw [List.mem_append]
            exact .inl (MemPlace.mem_row.2 ⟨0, Nat.mul_pos hpos (by rw [T.cT]; omega), rfl⟩))
          unfold DataW.trod at h ⊢
          rw [T.uL] at h ⊢
          simp only [if_true] at h ⊢
          rw [if_pos ⟨hb, hlc, hmx⟩] at h ⊢
          simp only [Option.map_eq_some_iff, Option.bind_eq_some_iff] at h ⊢
          obtain ⟨elems', he, rest', hr, hx⟩ := h
          have hlen : elems'.length = len := by simpa using mapM_some_length he
          have hrl' : rest'.length = cap - len := by simpa using mapM_some_length hr
          simp only [Prod.mk.injEq, DataW.slice.injEq] at hx
          have one' : ∀ (i : Nat) (y : DataW H × List MemPlace), i < elems'.length + rest'.length → y ∈ elems' ++ rest' →
              (W.cells? 0 (a.add (i * P.cellsOf tT)) (P.cellsOf tT)).bind (DataW.trod enc P W 0 (fun _ => true) true n' tT) = some y → (W'.cells? 0 (a.add (i * P.cellsOf tT)) (P.cellsOf tT)).bind (DataW.trod enc P W' 0 sp true n' tT) = some y := by
            intro i y hi hy hv
            simp only [Option.bind_eq_some_iff] at hv ⊢
            obtain ⟨cs', hc', hy'⟩ := hv
            obtain ⟨_, _, _, hbk⟩ := ihT _ _ hy'
            refine ⟨cs', World.cells?_carry hc' (fun p hpp => hs p ?_), hbk W' sp (fun p hpp => hs p ?_) (fun p hpp => hp p ?_)⟩
            · rw [← hx.2]
              obtain ⟨j, hj, rfl⟩ := MemPlace.mem_row.1 hpp
              simp only [List.mem_append]
              left
              refine MemPlace.mem_row.2 ⟨i * P.cellsOf tT + j, ?_, ?_⟩
              · calc i * P.cellsOf tT + j < i * P.cellsOf tT + P.cellsOf tT := by omega
                  _ = (i + 1) * P.cellsOf tT := by rw [Nat.add_mul, Nat.one_mul]
                  _ ≤ (elems'.length + rest'.length) * P.cellsOf tT := Nat.mul_le_mul_right _ hi
              · unfold Addr.add
                split
                · rename_i h0
                  simp [h0]
                · simp [Nat.add_assoc]
            · rw [← hx.2]
              simp only [List.mem_append, List.mem_flatMap]
              right
              exact ⟨y, by simpa using hy, hpp⟩
            · rw [← hx.2]
              simp only [List.mem_append, List.mem_flatMap]
              right
              exact ⟨y, by simpa using hy, hpp⟩
          refine ⟨elems', mapM_carry he (fun i y hi hy => one' i y (by have : i < len := (by simpa using hi); omega) (by simp [hy])), rest', ?_, by simp only [Prod.mk.injEq, DataW.slice.injEq]; exact hx⟩
          by_cases h0 : 0 < elems.length + rest.length
          · rw [if_pos (hrow h0)]
            exact mapM_carry hr (fun j y hj hy => one' (len + j) y (by have : j < cap - len := (by simpa using hj); omega) (by simp [hy]))
          · have hc0 : cap - len = 0 := by omega
            rw [hc0] at hr ⊢
            simp at hr
            subst hr
            split <;> rfl
end
end Go.Proofs.YtkgkjngbfdnoiaaGreat
end

section
namespace Go.Proofs.YtkgkjngbfdnoiaaGreat
open Go.Av Go.ChangeShapes Go.WideShapes Go.ChangeAt Go.RowKit
set_option maxRecDepth 100000

theorem own_knob : ownKnob Tryz.prog.godebug = none := by kernel_rfl

theorem term_tys : TermTys Tryz.prog 24 22 3 9 where
  uT := ⟨_, _, _, _, Tryz.underlying24, rfl, rfl, rfl, rfl, rfl, rfl, rfl, rfl⟩
  uL := Tryz.underlying22
  uI := Tryz.underlying3
  uS := Tryz.underlying9
  cT := by kernel_rfl
  cL := by kernel_rfl
  cI := by kernel_rfl
  cS := by kernel_rfl
theorem named_ok (f : FuncId) (fn : Func) (h : Tryz.prog.funcs[f]? = some fn) : (fn.name == "runtime.NumGoroutine") = false := by
  have h1 := List.all_eq_true.1 names_ok fn (by
    rw [← Array.getElem?_toList] at h
    exact List.mem_of_getElem? h)
  simpa using h1
theorem cmp_ok [Lent] {args : List AV} {H H' : AH} {r : AV} {C : Claims} {μ : MMap} {w : World} {vs : Array Value} (hr : extCmp args H = some (r, H')) (ha : FrRep C μ args vs) (hw : Wld C μ H w) :
    CallR Tryz.prog (callFunc 308 vs) w (Post1 C μ H w r H') :=
  extCmp_sound (P := Tryz.prog) Tryz.func308 (by rfl) (by rfl) (by kernel_rfl) (by kernel_rfl) hr ha hw
theorem cfg_ok [Lent] : CfgOk cfg where
  ty := ⟨fun t ti h => BT.all_look tys_ok h⟩
  mixed := mixed_ok
  named := fun f fn _ h => named_ok f fn h
  ext := fun f s h args H r H' hr C μ w vs ha hw => by
    have h : extLook f extTab = some s := h
    unfold extTab at h
    rw [extLook] at h
    split at h
    · rename_i e
      have e := Nat.eq_of_beq_eq_true e
      subst e
      cases h
      exact cmp_ok hr ha hw
    · rw [extRest_ok] at h
      first
        | (rw [extLook] at h; cases h; done)
        | (have okK : CfgOk K.cfg := {
             ty := ⟨fun t ti h => BT.all_look (show K.tyTab.All _ from tys_ok) h⟩
             mixed := mixed_ok
             named := fun f fn _ h => named_ok f fn h
             ext := fun f s h args H r H' hr C μ w vs ha hw => by
               have h : K.extLook f K.extTab = some s := h
               unfold K.extTab at h
               rw [K.extLook] at h
               split at h
               · rename_i e
                 have e := Nat.eq_of_beq_eq_true e
                 subst e
                 cases h
                 exact cmp_ok hr ha hw
               · rw [K.extRest_ok, K.extLook] at h
                 cases h }
           rw [extLook] at h
           split at h
           · rename_i e
             have e := Nat.eq_of_beq_eq_true e
             subst e
             cases h
             exact (EV_sound okK).calls _ _ _ _ _ hr C μ w vs _ ha hw rfl
           · rw [extLook] at h
             cases h)

theorem row_calls {f : FuncId} {args : List AV} {vs : Array Value} {W : World} (hx : cfg.ext f = none) (he : EVs (EV cfg) f args = some (.bool true)) (ha : FrRep (C0 W) M0 args vs) :
    Calls Tryz.prog f vs W fun e W' => e = .returned (.bool true) ∧ (∀ b, b < W.heap.size → W'.heap[b]? = W.heap[b]?) ∧ W.heap.size ≤ W'.heap.size ∧ W'.os = W.os ∧ W'.output = W.output := by
  unfold EVs at he
  obtain ⟨q, h1, h2⟩ := Option.map_eq_some_iff.1 he
  have := EV_calls cfg_ok hx (r := q.1) (H' := q.2) h1 ha (wld0 W)
  refine this.mono fun e W' ⟨v, hv, C', μ', p1, p2, p3⟩ => ?_
  rw [h2] at p1
  cases p1
  refine ⟨hv, fun b hb => (p3.fr b hb not_live_nil).1, p3.size, p3.os, p3.output⟩

section
variable {H : Type} {enc : TypeId × Value → H} {P : Program} {W W' : World}

theorem post_same {f : Func} {s : ChangeSpec} {apart fresh handsOn again : Bool} {args : Array Value} {v : Value} {ds gs : List (DataW H)} {before pa pv : List MemPlace}
    (hW : DataW.Whole enc P f.params.toList s.vars apart W args.toList ds gs before)
    (hres : ∀ (b : Nat) (sp : Nat → Bool) (hd : Bool), DataW.TrodAll enc P W' b sp hd f.resultTypes.toList (v.resultList f.resultTypes.size) (s.fn H (ds ++ gs)).results [])
    (hargs : ∀ sp : Nat → Bool, (∀ p ∈ before, sp p.block = true) → DataW.TrodAll enc P W' 0 sp true f.params.toList args.toList (s.fn H (ds ++ gs)).args pa)
    (hvars : ∀ sp : Nat → Bool, (∀ p ∈ before, sp p.block = true) → DataW.TrodVars enc P W' sp s.vars (s.fn H (ds ++ gs)).vars pv)
    (hps : before = pa ++ pv) (hk : W.keptBut W' (· ∈ before)) (hfz : ∀ b o, b < W.heap.size → W'.frozen? ⟨b, o, none⟩ = W.frozen? ⟨b, o, none⟩)
    (hok : ∀ (j : Nat) (t : TypeId) (r : Value), f.resultTypes[j]? = some t → (v.resultList f.resultTypes.size)[j]? = some r → Value.okWide P W' .any 0 t r) :
    s.post enc P f apart fresh handsOn again W args v W' := by
  have hlt := hW.lt
  have hold : ∀ p ∈ before, (fun b => decide (b < W.heap.size)) p.block = true := fun p hp => by simpa using hlt p hp
  refine ⟨ds, gs, before, [], pa, pv, hW, hres _ _ _, hargs _ hold, hvars _ hold, World.keptBut_mono (fun p hp => ⟨hp, ?_⟩) hk, fun _ => ?_⟩
  · rw [hps, List.mem_append] at hp
    exact Or.inr hp
  · obtain ⟨_, _, _, _, _, hz, hn⟩ := hW
    refine ⟨hok, _, _, ([] ++ pa) ++ pv, ⟨[] ++ pa, pv, trodAll_append (hargs _ (fun _ _ => rfl)) (hres _ _ _), hvars _ (fun _ _ => rfl), rfl, ?_, ?_⟩, ?_⟩
    · intro b off hp
      have hp' : MemPlace.cell b off ∈ before := by rw [hps]; simpa using hp
      rw [hfz b off (hlt _ hp')]
      exact hz b off hp'
    · intro ha
      have := hn ha
      rw [hps] at this
      simpa using this
    · intro p hp _
      rw [hps]
      simpa using hp

theorem kept_of_heap (h : ∀ b, b < W.heap.size → W'.heap[b]? = W.heap[b]?) (ho : W'.os = W.os) (hu : W'.output = W.output) (may : MemPlace → Prop) : W.keptBut W' may := by
  refine ⟨ho, hu, fun i hi => ?_⟩
  rw [h i hi]
  cases W.heap[i]? with
  | none => rfl
  | some o => cases o <;> simp

theorem same_of_heap (h : ∀ b, b < W.heap.size → W'.heap[b]? = W.heap[b]?) {p : MemPlace} (hp : p.block < W.heap.size) : W.sameAt W' p := by
  cases p with
  | cell b o => simp only [World.sameAt, World.cell?]; rw [h b hp]
  | map b => exact h b hp

theorem frozen_of_heap (h : ∀ b, b < W.heap.size → W'.heap[b]? = W.heap[b]?) (b o : Nat) (hb : b < W.heap.size) : W'.frozen? ⟨b, o, none⟩ = W.frozen? ⟨b, o, none⟩ := by
  simp only [World.frozen?]; rw [h b hb]

structure Opened (enc : TypeId × Value → H) (P : Program) (W : World) (t : TypeId) (v : Value) (d : DataW H) (ps : List MemPlace) (a : AV) : Prop where
  rep : Rep (C0 W) M0 a v
  back : ∀ (W' : World) (sp : Nat → Bool), (∀ p ∈ ps, W.sameAt W' p) → (∀ p ∈ ps, sp p.block = true) → DataW.Trod enc P W' 0 sp true t v d ps

theorem open_terms {tT tL tI tS : TypeId} (T : TermTys P tT tL tI tS) {r : Reach} {b0 : Nat} {v : Value} {d : DataW H} {ps : List MemPlace} (hval : Value.okWide P W r b0 tL v) (hd : DataW.Trod enc P W 0 (fun _ => true) true tL v d ps) :
    ∃ l : List Tm, Opened enc P W tL v d ps (.sl (rowsT l)) ∧ wL l ≤ Rows.uptoBulk d := by
  obtain ⟨a, len, cap, rfl⟩ := okWide_slice T.uL hval
  obtain ⟨n, hn⟩ := hd
  obtain ⟨l, v, h0, h1, h2, h3⟩ := (open_both T n).2 _ _ hn
  have h0 : [Value.slice a len cap] = [v] := by simpa [Value.cells] using h0
  cases h0
  exact ⟨l, ⟨h1, fun W' sp hs hp => ⟨n, h3 W' sp hs hp⟩⟩, h2⟩

theorem open_int {tI : TypeId} (hu : P.underlying tI = some (.int .i64)) {r : Reach} {b0 : Nat} {v : Value} {d : DataW H} {ps : List MemPlace} (hval : Value.okWide P W r b0 tI v) (hd : DataW.Trod enc P W 0 (fun _ => true) true tI v d ps) :
    ∃ k : Int, Opened enc P W tI v d ps (.int .i64 k) ∧ (Lit.int .i64 k).wf = true := by
  obtain ⟨k, rfl⟩ := okWide_int hu hval
  obtain ⟨n, hn⟩ := hd
  obtain ⟨k', e0, ex, w0⟩ := DataW.trod_int hu hn
  have e0 : [Value.int .i64 k] = [Value.int .i64 k'] := by simpa [Value.cells] using e0
  cases e0
  cases ex
  refine ⟨k, ⟨.int _ _, fun W' sp _ _ => ⟨n, ?_⟩⟩, w0⟩
  cases n with
  | zero => simp [DataW.trod] at hn
  | succ q => simp [DataW.trod, hu, w0, Value.cells]

theorem open_str {tS : TypeId} (hu : P.underlying tS = some .string) {r : Reach} {b0 : Nat} {v : Value} {d : DataW H} {ps : List MemPlace} (hval : Value.okWide P W r b0 tS v) (hd : DataW.Trod enc P W 0 (fun _ => true) true tS v d ps) :
    ∃ s : List UInt8, Opened enc P W tS v d ps (.str s) ∧ s.length ≤ Rows.uptoBulk d := by
  obtain ⟨s, rfl⟩ := okWide_string hu hval
  obtain ⟨n, hn⟩ := hd
  obtain ⟨s', e0, ex, w0⟩ := DataW.trod_string hu hn
  have e0 : [Value.string s] = [Value.string s'] := by simpa [Value.cells] using e0
  cases e0
  cases ex
  refine ⟨s.data.toList, ⟨by simpa using Rep.str (C := C0 W) (μ := M0) s.data.toList, fun W' sp _ _ => ⟨n, ?_⟩⟩, by simp [Rows.uptoBulk]⟩
  cases n with
  | zero => simp [DataW.trod] at hn
  | succ q => simp [DataW.trod, hu, w0, Value.cells]
end

theorem bulk_of {H : Type} {l : List (DataW H)} (hk : Rows.uptoSmall H l = true) {d : DataW H} (hd : d ∈ l) : Rows.uptoBulk d < 1099511627776 := by
  have h : Rows.uptoBulkAll l ≤ 1048576 := of_decide_eq_true hk
  have := bulk_part hd
  omega
theorem rep_three {C : Claims} {a b c : AV} {x y z : Value} (h1 : Rep C M0 a x) (h2 : Rep C M0 b y) (h3 : Rep C M0 c z) : FrRep C M0 [a, b, c] #[x, y, z] := ⟨rfl, fun i c v hc hv => by
  match i, hc, hv with
  | 0, hc, hv => simp at hc hv; subst hc hv; exact h1
  | 1, hc, hv => simp at hc hv; subst hc hv; exact h2
  | 2, hc, hv => simp at hc hv; subst hc hv; exact h3
  | (i + 3), hc, hv => simp at hc⟩
end Go.Proofs.YtkgkjngbfdnoiaaGreat
end

section
namespace Go.Proofs.YtkgkjngbfdnoiaaGreat.R
open Go.Av
set_option maxRecDepth 100000
def lookN {α : Type} (f : Nat) : List (Nat × α) → Option α
  | [] => none
  | p :: l => if Nat.beq p.1 f then some p.2 else lookN f l
theorem inlLook_mem {f : Nat} {fn : Func} : ∀ {l : List (Nat × Func)}, inlLook f l = some fn → ∃ p ∈ l, p.1 = f
  | [], h => by cases h
  | q :: l, h => by
    rw [inlLook] at h
    split at h
    · rename_i e
      exact ⟨q, by simp, Nat.eq_of_beq_eq_true e⟩
    · obtain ⟨p, h1, h2⟩ := inlLook_mem h
      exact ⟨p, by simp [h1], h2⟩
def modeL : List (Nat × CMode) := [(71, .rgn), (20, .over), (17, .rgn), (24, .rgn), (28, .rgn), (97, .rgn), (179, .rgn), (62, .rgn)]
def kL : List (Nat × Unit) := [(15, ()), (19, ()), (23, ()), (26, ()), (41, ()), (77, ()), (120, ()), (68, ()), (69, ()), (86, ()), (89, ()), (90, ()), (70, ()), (92, ()), (88, ()), (91, ()), (14, ()), (16, ()), (21, ()), (22, ()), (27, ()), (32, ()), (55, ()), (58, ()), (59, ()), (60, ()), (61, ()), (18, ()), (25, ()), (29, ()), (31, ()), (63, ()), (65, ()), (67, ()), (30, ()), (103, ()), (252, ()), (64, ()), (66, ())]
open Classical in
noncomputable def extCopy (args : List AV) (H : AH) : Option (AV × AH) :=
  match args, H with
  | [.agg [a, b, c, .sl rows]], [] => if ∃ t : Tm, t.Ok ∧ t.av = .agg [a, b, c, .sl rows] then some (.agg [a, b, c, .rsl 0 rows], [.reg]) else none
  | _, _ => none
noncomputable def xL : List (Nat × (List AV → AH → Option (AV × AH))) := [(71, extCopy)]
def frzL : List (Nat × Nat × Nat) := [(4, 4, 3)]
def frzIn (f r k : Nat) : List (Nat × Nat × Nat) → Bool
  | [] => false
  | p :: l => (Nat.beq p.1 f && (Nat.beq p.2.1 r && Nat.beq p.2.2 k)) || frzIn f r k l
noncomputable def ext (f : Nat) : Option (List AV → AH → Option (AV × AH)) :=
  match lookN f xL with
  | some s => some s
  | none => match lookN f kL with
    | some _ => some (EV Go.Proofs.YtkgkjngbfdnoiaaGreat.cfg (.f f))
    | none => Go.Proofs.YtkgkjngbfdnoiaaGreat.cfg.ext f
noncomputable def cfg : Cfg := { Go.Proofs.YtkgkjngbfdnoiaaGreat.cfg with mode := fun f => match lookN f modeL with | some m => m | none => Go.Proofs.YtkgkjngbfdnoiaaGreat.cfg.mode f, frz := fun f r k => frzIn f r k frzL || Go.Proofs.YtkgkjngbfdnoiaaGreat.cfg.frz f r k, ext := ext }
theorem inl_none : inlTab.all (fun p => (lookN p.1 xL).isNone && (lookN p.1 kL).isNone) = true := rfl
instance inl_ok : InlOk cfg where
  ok f fn h := by
    have h : inlLook f inlTab = some fn := h
    obtain ⟨h1, h2, h3, h4⟩ := Go.Proofs.YtkgkjngbfdnoiaaGreat.inl_ok.ok f fn h
    refine ⟨?_, h2, h3, h4⟩
    obtain ⟨p, hp, rfl⟩ := inlLook_mem h
    have := List.all_eq_true.1 inl_none p hp
    rw [Bool.and_eq_true, Option.isNone_iff_eq_none, Option.isNone_iff_eq_none] at this
    show ext p.1 = none
    unfold ext
    rw [this.1, this.2]
    exact h1
theorem ev_k {f : Nat} (hx : (lookN f xL).isNone = true) (hk : (lookN f kL).isSome = true) (args : List AV) (H : AH) : EV cfg (.f f) args H = EV Go.Proofs.YtkgkjngbfdnoiaaGreat.cfg (.f f) args H := by
  have he : cfg.ext f = some (EV Go.Proofs.YtkgkjngbfdnoiaaGreat.cfg (.f f)) := by
    show ext f = _
    unfold ext
    rw [Option.isNone_iff_eq_none] at hx
    obtain ⟨u, hu⟩ := Option.isSome_iff_exists.1 hk
    rw [hx, hu]
  have h1 : ∀ n, evF cfg (n + 1) (.f f) args H = EV Go.Proofs.YtkgkjngbfdnoiaaGreat.cfg (.f f) args H := fun n => by
    show evBody cfg (evF cfg n) (.f f) args H = _
    unfold evBody
    simp only [he]
  have h0 : evF cfg 0 (.f f) args H = none := rfl
  cases h : EV Go.Proofs.YtkgkjngbfdnoiaaGreat.cfg (.f f) args H with
  | some r => exact lim_eq (g := fun n => evF cfg n (.f f) args H) (fun n r h => evF_succ cfg n (.f f) args H r h) (n := 1) ((h1 0).trans h)
  | none =>
    have : ¬ ∃ (n : Nat) (r : AV × AH), evF cfg n (.f f) args H = some r := by
      rintro ⟨n, r, hr⟩
      cases n with
      | zero => rw [h0] at hr; cases hr
      | succ n => rw [h1, h] at hr; cases hr
    exact dif_neg this
theorem evs_k {f : Nat} (args : List AV) (hx : (lookN f xL).isNone = true) (hk : (lookN f kL).isSome = true) : EVs (EV cfg) f args = EVs (EV Go.Proofs.YtkgkjngbfdnoiaaGreat.cfg) f args := by unfold EVs; rw [ev_k hx hk]
theorem evf_k {f : Nat} (args : List AV) (hx : (lookN f xL).isNone = true) (hk : (lookN f kL).isSome = true) : EVf (EV cfg) f args = EVf (EV Go.Proofs.YtkgkjngbfdnoiaaGreat.cfg) f args := by unfold EVf; rw [ev_k hx hk]
theorem evo_k {f : Nat} (args : List AV) (hx : (lookN f xL).isNone = true) (hk : (lookN f kL).isSome = true) : EVo (EV cfg) f args = EVo (EV Go.Proofs.YtkgkjngbfdnoiaaGreat.cfg) f args := by unfold EVo; rw [ev_k hx hk]
theorem evd_k {f : Nat} (args : List AV) (sz : Nat) (rs : List (List AV)) (hx : (lookN f xL).isNone = true) (hk : (lookN f kL).isSome = true) : EVd (EV cfg) f args sz rs = EVd (EV Go.Proofs.YtkgkjngbfdnoiaaGreat.cfg) f args sz rs := by unfold EVd; rw [ev_k hx hk]
end Go.Proofs.YtkgkjngbfdnoiaaGreat.R
end

section
namespace Go.Proofs.YtkgkjngbfdnoiaaGreat.R
open Go.Av
set_option maxRecDepth 100000
set_option maxHeartbeats 0

noncomputable def Lra20_0 : Den := evC cfg (EV cfg) 20 none 1 (sub (bodyOf Tryz.f20) [1, 1, 0, 0])
noncomputable def Ara20_0 : Ex × List AV × AH → Option Unit := kAft (Cfg.keepOut cfg 20 2) (kRun cfg (EV cfg) (kfN cfg 6) 20 none 1 (kFinZ cfg (Cfg.lift cfg 20 0) Tryz.f20.results.toList) ([.block 0]))
noncomputable def Wra20_0 : List AV × AH → Option Unit := fun p => kOpt (LOOP 1 (some [1, 2]) ([]) Lra20_0 p) Ara20_0
noncomputable def Lra24_0 : Den := evC cfg (EV cfg) 24 none 0 (sub (bodyOf Tryz.f24) [1, 1, 0, 1, 0, 0])
noncomputable def Ara24_0 : Ex × List AV × AH → Option AV := kAft (Cfg.keepOut cfg 24 4) (kRun cfg (EV cfg) (kfN cfg 6) 24 none 0 (kFinR cfg (Cfg.lift cfg 24 0) Tryz.f24.results.toList) ([.block 0, .seq (sub (bodyOf Tryz.f24) [1, 1, 1])]))
noncomputable def Wra24_0 : List AV × AH → Option AV := fun p => kOpt (LOOP 0 (some [0, 1, 2, 6, 24, 25, 26]) ([]) Lra24_0 p) Ara24_0
noncomputable abbrev wra20_0 (l : List (List AV)) (v2 : Int) (c1_0 : Int) (c1_1 : Int) (c1_2 : List UInt8) : Option (Unit) := Wra20_0  (((fx 21 [(1, AV.ptr (1 : Nat) (0 : Nat) (0 : Nat)), (2, AV.int IntKind.i64 v2)]) : List AV), ([ABlk.spl, ABlk.rows false (4 : Nat) [[AV.int IntKind.i64 c1_0, AV.int IntKind.i64 c1_1, AV.str c1_2, AV.rsl (0 : Nat) l]]] : AH))
noncomputable abbrev wra20_0a (v2 : Int) (c1_0 : Int) (c1_1 : Int) (c1_2 : List UInt8) (c1_3 : List (List AV)) : Option (Unit) := Wra20_0  (((fx 21 [(1, AV.ptr (1 : Nat) (0 : Nat) (0 : Nat)), (2, AV.int IntKind.i64 v2)]) : List AV), ([ABlk.spl, ABlk.rows false (4 : Nat) [[AV.int IntKind.i64 c1_0, AV.int IntKind.i64 c1_1, AV.str c1_2, AV.sl c1_3]]] : AH))
noncomputable abbrev wra24_0 (op : List UInt8) (L : List (List AV)) (pid : Int) (v26 : Int) (c0_0 : Int) (c0_1 : Int) (c0_2 : List UInt8) (c0_3 : List (List AV)) : Option (AV) := Wra24_0  (((fx 50 [(0, AV.str op), (1, AV.sl L), (2, AV.int IntKind.i64 pid), (6, AV.ptr (0 : Nat) (0 : Nat) (0 : Nat)), (24, AV.sl L), (25, AV.int IntKind.i64 (↑(List.length L) : Int)), (26, AV.int IntKind.i64 v26)]) : List AV), ([ABlk.rows false (4 : Nat) [[AV.int IntKind.i64 c0_0, AV.int IntKind.i64 c0_1, AV.str c0_2, AV.sl c0_3]]] : AH))
theorem overT_run (k : Int) (n : Int) (s : List UInt8) (l : List (List AV)) {P : Unit → Prop} (h : Gets (wra20_0 l (0 : Int) k n s) P) : Gets (EVz (EV cfg) 20 (AV.agg [AV.int IntKind.i64 k, AV.int IntKind.i64 n, AV.str s, AV.rsl (0 : Nat) l])) P :=
  Gets.ev (fun _ h => funZ rfl rfl Tryz.func20 rfl h) (Gets.eq (by kernel_rfl) h)
theorem overE_run (k : Int) (n : Int) (s : List UInt8) {P : Unit → Prop} (h : Gets (wra20_0a (0 : Int) k n s []) P) : Gets (EVz (EV cfg) 20 (AV.agg [AV.int IntKind.i64 k, AV.int IntKind.i64 n, AV.str s, AV.sl []])) P :=
  Gets.ev (fun _ h => funZ rfl rfl Tryz.func20 rfl h) (Gets.eq (by kernel_rfl) h)
theorem gApplyR_run (op : List UInt8) (L : List (List AV)) (pid : Int) {P : AV → Prop} (h : Gets (kOpt (EVf (EV cfg) 89 [.str op]) fun (v : AV) => kSl v fun (rows : List (List AV)) => kOpt (EVs (EV cfg) 88 [.sl rows, .int .i64 (↑(List.length L) : Int)]) fun (v : AV) => kBool v fun 
  (b : Bool) => bif !b then some (AV.tup [.agg [AV.int .i64 (0 : Int), .int .i64 (0 : Int), .str [], .sl []], .int .i64 (2 : Int)]) else kOpt (EVs (EV cfg) 90 [AV.int .i64 pid]) fun (v : 
  AV) => kBool v fun (b : Bool) => bif !b then some (AV.tup [.agg [AV.int .i64 (0 : Int), .int .i64 (0 : Int), .str [], .sl []], .int .i64 (2 : Int)]) else wra24_0 op L pid (0 : Int) (0 
  : Int) (0 : Int) [] []) P) : Gets (EVg (EV cfg) 24 ([AV.str op, AV.sl L, AV.int IntKind.i64 pid] : List AV)) P :=
  Gets.ev (fun _ h => funR rfl rfl Tryz.func24 rfl h) (Gets.eq (by kernel_rfl) h)
theorem law17Applies_run (op : List UInt8) (L : List (List AV)) (self : Int) {P : AV → Prop} (h : Gets (bif refsLtL 0 [.sl L, .agg [AV.int .i64 (0 : Int), .int .i64 (0 : Int), .str [], .sl [], .sl [], .int .i64 (0 : Int)]] then kOpt (EVs (EV cfg) 14 [.sl L, .agg [AV.int .i64 (0 : Int), .int 
  .i64 (0 : Int), .str [], .sl [], .sl [], .int .i64 (0 : Int)]]) fun (v : AV) => kBool v fun (b : Bool) => bif b then some (.bool true) else bif decide ((↑(List.length op) : Int) > (100 
  : Int)) then some (.bool true) else kOpt (EVo (EV cfg) 23 [.sl L]) fun (o : OV) => kOwn o (kOpt (EVg (EV cfg) 24 [.str op, .sl [], .int .i64 self]) fun (V : AV) => kTup V fun (cs : 
  List AV) => kCons cs fun (c : AV) (cs : List AV) => kAgg c fun (cs_1 : List AV) => kCons cs_1 fun (c : AV) (cs_2 : List AV) => kInt .i64 c fun (n : Int) => kCons cs_2 fun (c : AV) (cs_3 
  : List AV) => kInt .i64 c fun (n_1 : Int) => kCons cs_3 fun (c : AV) (cs_4 : List AV) => kStr c fun (s : List UInt8) => kCons cs_4 fun (c : AV) (cs_5 : List AV) => kSl c fun (rows : 
  List (List AV)) => kNil cs_5 (kCons cs fun (c : AV) (cs : List AV) => kInt .i64 c fun (n_2 : Int) => kNil cs (kOpt (EVf (EV cfg) 25 [.str op, .sl L, .int .i64 self]) fun (v : AV) => 
  kTup v fun (cs : List AV) => kCons cs fun (c : AV) (cs : List AV) => kAgg c fun (cs_6 : List AV) => kCons cs_6 fun (c : AV) (cs_7 : List AV) => kInt .i64 c fun (n_3 : Int) => kCons 
  cs_7 fun (c : AV) (cs_8 : List AV) => kInt .i64 c fun (n_4 : Int) => kCons cs_8 fun (c : AV) (cs_9 : List AV) => kStr c fun (s_1 : List UInt8) => kCons cs_9 fun (c : AV) (cs_10 : List 
  AV) => kSl c fun (rows_1 : List (List AV)) => kNil cs_10 (kCons cs fun (c : AV) (cs : List AV) => kInt .i64 c fun (n_5 : Int) => kNil cs (bif n_2 != n_5 then some (.bool false) else 
  kOpt (EVs (EV cfg) 19 [.agg [AV.int .i64 n, .int .i64 n_1, .str s, .sl rows], .agg [AV.int .i64 n_3, .int .i64 n_4, .str s_1, .sl rows_1]]) fun (v : AV) => kBool v fun (b : Bool) => bif 
  !b then some (.bool false) else kOpt (EVz (EV cfg) 20 (.agg [AV.int .i64 n, .int .i64 n_1, .str s, AV.rsl 0 rows])) fun (x : Unit) => bif refsLtL 0 [.sl [], .sl L] then kOpt (EVs (EV 
  cfg) 26 [.sl [], .sl L]) fun (v : AV) => kBool v fun (b : Bool) => bif b then kOpt (EVs (EV cfg) 22 []) fun (v : AV) => kBool v fun (b : Bool) => some (.bool b) else some (.bool false) 
  else none))))) fun (sz : Nat) (rs : List (List AV)) (off len : Nat) => bif Nat.ble (off + len) (List.length rs) && true then kOpt (EVg (EV cfg) 24 [.str op, .sl (List.take len (List.drop 
  off rs)), .int .i64 self]) fun (V : AV) => kTup V fun (cs : List AV) => kCons cs fun (c : AV) (cs : List AV) => kAgg c fun (cs_1 : List AV) => kCons cs_1 fun (c : AV) (cs_2 : List AV) 
  => kInt .i64 c fun (n : Int) => kCons cs_2 fun (c : AV) (cs_3 : List AV) => kInt .i64 c fun (n_1 : Int) => kCons cs_3 fun (c : AV) (cs_4 : List AV) => kStr c fun (s : List UInt8) => 
  kCons cs_4 fun (c : AV) (cs_5 : List AV) => kSl c fun (rows : List (List AV)) => kNil cs_5 (kCons cs fun (c : AV) (cs : List AV) => kInt .i64 c fun (n_2 : Int) => kNil cs (kOpt (EVf 
  (EV cfg) 25 [.str op, .sl L, .int .i64 self]) fun (v : AV) => kTup v fun (cs : List AV) => kCons cs fun (c : AV) (cs : List AV) => kAgg c fun (cs_6 : List AV) => kCons cs_6 fun (c : 
  AV) (cs_7 : List AV) => kInt .i64 c fun (n_3 : Int) => kCons cs_7 fun (c : AV) (cs_8 : List AV) => kInt .i64 c fun (n_4 : Int) => kCons cs_8 fun (c : AV) (cs_9 : List AV) => kStr c 
  fun (s_1 : List UInt8) => kCons cs_9 fun (c : AV) (cs_10 : List AV) => kSl c fun (rows_1 : List (List AV)) => kNil cs_10 (kCons cs fun (c : AV) (cs : List AV) => kInt .i64 c fun (n_5 
  : Int) => kNil cs (bif n_2 != n_5 then some (.bool false) else kOpt (EVs (EV cfg) 19 [.agg [AV.int .i64 n, .int .i64 n_1, .str s, .sl rows], .agg [AV.int .i64 n_3, .int .i64 n_4, .str s_1, 
  .sl rows_1]]) fun (v : AV) => kBool v fun (b : Bool) => bif !b then some (.bool false) else kOpt (EVz (EV cfg) 20 (.agg [AV.int .i64 n, .int .i64 n_1, .str s, AV.rsl 0 rows])) fun (x 
  : Unit) => bif Nat.ble (off + len) (List.length rs) && true then kOpt (EVs (EV cfg) 26 [.sl (List.take len (List.drop off rs)), .sl L]) fun (v : AV) => kBool v fun (b : Bool) => bif 
  b then kOpt (EVs (EV cfg) 22 []) fun (v : AV) => kBool v fun (b : Bool) => some (.bool b) else some (.bool false) else none)))) else none else none) P) : Gets (EVs (EV cfg) 4 ([AV.str op, AV.sl L, AV.int IntKind.i64 self] : List AV)) P :=
  Gets.ev (fun _ h => funS rfl rfl Tryz.func4 rfl h) (Gets.eq (by kernel_rfl) h)
theorem wra20_0_step (l : List (List AV)) (v2 : Int) (c1_0 : Int) (c1_1 : Int) (c1_2 : List UInt8) {P : Unit → Prop} (h : Gets (bif decide (v2 < (↑(List.length l) : Int)) then bif leInt (0 : Int) v2 && ltInt v2 (↑(List.length l) : Int) then kOpt (List.get?Internal l (Int.toNat v2)) fun (row : List AV) => bif 
  Nat.beq (List.length row) 4 then kCons row fun (c : AV) (cs : List AV) => kInt .i64 c fun (n : Int) => kCons cs fun (c : AV) (cs : List AV) => kInt .i64 c fun (n_1 : Int) => kCons cs 
  fun (c : AV) (cs : List AV) => kStr c fun (s : List UInt8) => kCons cs fun (c : AV) (cs : List AV) => kSl c fun (rows : List (List AV)) => kNil cs (kOpt (EVz (EV cfg) 20 (.agg [AV.int 
  .i64 n, .int .i64 n_1, .str s, AV.rsl 0 rows])) fun (x : Unit) => kOpt (EVz (EV cfg) 20 (.agg [AV.int .i64 (77 : Int), .int .i64 (0 : Int), .str [], .sl []])) fun (x : Unit) => bif leInt 
  (0 : Int) v2 && ltInt v2 (↑(List.length l) : Int) then kOpt (List.get?Internal l (Int.toNat v2)) fun (row : List AV) => bif Nat.beq (List.length row) 4 then bif termRow row && true 
  then wra20_0 l (IntKind.wrap .i64 (v2 + (1 : Int))) c1_0 c1_1 c1_2 else none else none else none) else none else none else some PUnit.unit) P) : Gets (wra20_0 l v2 c1_0 c1_1 c1_2) P :=
  Gets.ev (fun _ h => loop_step (cfg := cfg) (f := 20) (rd := none) (bs := 1) h) (Gets.eq (by kernel_rfl) h)
theorem wra20_0a_step (v2 : Int) (c1_0 : Int) (c1_1 : Int) (c1_2 : List UInt8) (c1_3 : List (List AV)) {P : Unit → Prop} (h : Gets (bif decide (v2 < (↑(List.length c1_3) : Int)) then bif leInt (0 : Int) v2 && ltInt v2 (↑(List.length c1_3) : Int) then kOpt (List.get?Internal c1_3 (Int.toNat v2)) fun (row : List AV) 
  => bif Nat.beq (List.length row) 4 then bif Nat.ble 4 (List.length row) then kTmC (List.take 4 row) fun (n n : Int) (s : List UInt8) (rows : List (List AV)) => none else none else none 
  else none else some PUnit.unit) P) : Gets (wra20_0a v2 c1_0 c1_1 c1_2 c1_3) P :=
  Gets.ev (fun _ h => loop_step (cfg := cfg) (f := 20) (rd := none) (bs := 1) h) (Gets.eq (by kernel_rfl) h)
theorem wra24_0_step (op : List UInt8) (L : List (List AV)) (pid : Int) (v26 : Int) (c0_0 : Int) (c0_1 : Int) (c0_2 : List UInt8) (c0_3 : List (List AV)) {P : AV → Prop} (h : Gets (bif decide (v26 < (↑(List.length L) : Int)) then bif leInt (0 : Int) v26 && ltInt v26 (↑(List.length L) : Int) then kOpt (List.get?Internal L (Int.toNat v26)) fun (row : List AV) => 
  bif Nat.beq (List.length row) 4 then bif Nat.ble 4 (List.length row) then kTmC (List.take 4 row) fun (n n_1 : Int) (s : List UInt8) (rows : List (List AV)) => (kOpt (EVs (EV cfg) 91 
  [.agg [AV.int .i64 n, .int .i64 n_1, .str s, .sl rows]]) fun (v : AV) => kInt .i64 v fun (n : Int) => bif n != (0 : Int) then some (AV.tup [.agg [AV.int .i64 (0 : Int), .int .i64 (0 : Int), 
  .str [], .sl []], .int .i64 (2 : Int)]) else wra24_0 op L pid (IntKind.wrap .i64 (v26 + (1 : Int))) c0_0 c0_1 c0_2 c0_3) else none else none else none else kOpt (EVd (EV cfg) 92 [.ptr 
  0 0 0, .str op, .sl L] 7 [[AV.int .i64 (0 : Int), .int .i64 (0 : Int), .str [], .sl [], .sl [], .int .i64 pid, .bool false]]) fun (q : AV × List (List AV)) => kTmV q.1 fun (n n_1 : Int) 
  (s : List UInt8) (rows : List (List AV)) => (kOpt (List.get?Internal q.2 0) fun (row : List AV) => kOpt (List.get?Internal row 6) fun (v : AV) => kBool v fun (b : Bool) => bif b then 
  some (AV.tup [.agg [AV.int .i64 (0 : Int), .int .i64 (0 : Int), .str [], .sl []], .int .i64 (10 : Int)]) else kOpt (EVg (EV cfg) 71 [.agg [AV.int .i64 n, .int .i64 n_1, .str s, .sl rows]]) 
  fun (V : AV) => kTmV V fun (n n_2 : Int) (s : List UInt8) (rows : List (List AV)) => (some (AV.tup [.agg [AV.int .i64 n, .int .i64 n_2, .str s, .sl rows], .int .i64 (0 : Int)])))) P) : Gets (wra24_0 op L pid v26 c0_0 c0_1 c0_2 c0_3) P :=
  Gets.ev (fun _ h => loop_step (cfg := cfg) (f := 24) (rd := none) (bs := 0) h) (Gets.eq (by kernel_rfl) h)
end Go.Proofs.YtkgkjngbfdnoiaaGreat.R
end

section
namespace Go.Proofs.YtkgkjngbfdnoiaaGreat
open Go.Av
set_option maxRecDepth 100000
set_option maxHeartbeats 0

noncomputable def Lhc63_0 : Den := evC cfg (EV cfg) 159 none 1 (sub (bodyOf Tryz.f159) [1, 1, 1, 0, 1, 0, 0])
noncomputable def Ahc63_0 : Ex × List AV × AH → Option (AV × List (List AV)) := kAft (Cfg.keepOut cfg 159 6) (kRun cfg (EV cfg) (kfN cfg 6) 159 none 1 (kFinX cfg 1 (Cfg.lift cfg 159 0) Tryz.f159.results.toList) ([.block 0, .seq (sub (bodyOf Tryz.f159) [1, 1, 1, 1])]))
noncomputable def Whc63_0 : List AV × AH → Option (AV × List (List AV)) := fun p => kOpt (LOOP 1 (some [1, 2, 3, 4, 18, 19, 20]) ([]) Lhc63_0 p) Ahc63_0
noncomputable abbrev whc63_0 (lt : List (List AV)) (v20 : Int) (c1_0 : Int) (c1_1 : Int) (c1_2 : List UInt8) (c2_0 : Int) (c2_1 : Int) (c2_2 : List UInt8) (c2_3 : List (List AV)) (h3 : List (List AV)) : Option (AV × List (List AV)) := Whc63_0  (((fx 35 [(1, AV.ptr (0 : Nat) (0 : Nat) (0 : Nat)), (2, AV.ptr (1 : Nat) (0 : Nat) (0 : Nat)), (3, AV.ptr (2 : Nat) (0 : Nat) (0 : Nat)), (4, AV.ms (3 : Nat) (0 : Nat) (Int.toNat (↑(List.length lt) : Int))), (18, AV.lsl lt), (19, AV.int IntKind.i64 (↑(List.length lt) : Int)), (20, AV.int IntKind.i64 v20)]) : List AV), ([ABlk.rows false (1 : Nat) [[AV.fn (Fn.func 159) [] [AV.ptr (0 : Nat) (0 : Nat) (0 : Nat)]]], ABlk.rows false (4 : Nat) [[AV.int IntKind.i64 c1_0, AV.int IntKind.i64 c1_1, AV.str c1_2, AV.lsl lt]], ABlk.rows false (4 : Nat) [[AV.int IntKind.i64 c2_0, AV.int IntKind.i64 c2_1, AV.str c2_2, AV.sl c2_3]], ABlk.rows true (4 : Nat) h3] : AH))
theorem term_Copy_runL (kt : Int) (nt : Int) (st : List UInt8) (lt : List (List AV)) {P : AV → Prop} (h : Gets (kOpt (EVk (EV cfg) 159 [.agg [AV.int .i64 kt, .int .i64 nt, .str st, AV.lsl lt], .ptr 0 0 0] 1 [[AV.fn (Fn.func 159) [] [.ptr 0 0 0]]]) fun (q : AV) => kTmV q fun (n n_1 : Int) (s : List 
  UInt8) (rows : List (List AV)) => (some (.agg [AV.int .i64 n, .int .i64 n_1, .str s, .sl rows]))) P) : Gets (EVf (EV cfg) 71 ([AV.agg [AV.int IntKind.i64 kt, AV.int IntKind.i64 nt, AV.str st, AV.lsl lt]] : List AV)) P :=
  Gets.ev (fun _ h => funF rfl rfl Tryz.func71 rfl h) (Gets.eq (by kernel_rfl) h)
theorem copyInL_run (kt : Int) (nt : Int) (st : List UInt8) (lt : List (List AV)) {P : AV × List (List AV) → Prop} (h : Gets (bif (↑(List.length lt) : Int) == (0 : Int) then bif AV.refsLt 0 (.agg [AV.int .i64 kt, .int .i64 nt, .str st, .sl []]) then some (.agg [AV.int .i64 kt, .int .i64 nt, .str st, .sl []], [[AV.fn 
  (Fn.func 159) [] [.ptr 0 0 0]]]) else none else bif leInt (0 : Int) (↑(List.length lt) : Int) && leInt (↑(List.length lt) : Int) (↑(List.length lt) : Int) && leInt ((↑(List.length lt) 
  : Int) * (56 : Int)) (140737488355328 : Int) && leInt (↑(List.length lt) : Int) (9223372036854775807 : Int) then whc63_0 lt (0 : Int) kt nt st (0 : Int) (0 : Int) [] [] (List.replicate 
  (Int.toNat (↑(List.length lt) : Int)) [AV.int .i64 (0 : Int), .int .i64 (0 : Int), .str [], .nilS]) else none) P) : Gets (EVx (EV cfg) 159 ([AV.agg [AV.int IntKind.i64 kt, AV.int IntKind.i64 nt, AV.str st, AV.lsl lt], AV.ptr (0 : Nat) (0 : Nat) (0 : Nat)] : List AV) 1 [[(AV.fn (Fn.func 159) [] [AV.ptr 0 0 0])]]) P :=
  Gets.ev (fun _ h => funX rfl rfl Tryz.func159 rfl h) (Gets.eq (by kernel_rfl) h)
theorem whc63_0_step (lt : List (List AV)) (v20 : Int) (c1_0 : Int) (c1_1 : Int) (c1_2 : List UInt8) (c2_0 : Int) (c2_1 : Int) (c2_2 : List UInt8) (c2_3 : List (List AV)) (h3 : List (List AV)) {P : AV × List (List AV) → Prop} (h : Gets (bif decide (v20 < (↑(List.length lt) : Int)) then bif leInt (0 : Int) v20 && ltInt v20 (↑(List.length lt) : Int) then kOpt (List.get?Internal lt (Int.toNat v20)) fun (row : List AV) 
  => bif Nat.beq (List.length row) 4 then bif Nat.ble 4 (List.length row) then kTmC (List.take 4 row) fun (n n_1 : Int) (s : List UInt8) (rows : List (List AV)) => (kOpt (EVk (EV cfg) 
  159 [.agg [AV.int .i64 n, .int .i64 n_1, .str s, AV.lsl rows], .ptr 0 0 0] 1 [[AV.fn (Fn.func 159) [] [.ptr 0 0 0]]]) fun (q : AV) => kTmV q fun (n n_2 : Int) (s : List UInt8) (rows : List 
  (List AV)) => (bif leInt (0 : Int) v20 && ltInt v20 (↑(Int.toNat (↑(List.length lt) : Int)) : Int) then kOpt (List.get?Internal h3 (0 + Int.toNat v20)) fun (row : List AV) => bif Nat.ble 
  4 (List.length row) then whc63_0 lt (IntKind.wrap .i64 (v20 + (1 : Int))) c1_0 c1_1 c1_2 c2_0 c2_1 c2_2 c2_3 (List.set h3 (0 + Int.toNat v20) (.int .i64 n :: .int .i64 n_2 :: .str s 
  :: .sl rows :: List.drop 4 row)) else none else none)) else none else none else none else bif Nat.ble (0 + Int.toNat (↑(List.length lt) : Int)) (List.length h3) && true then some (.agg 
  [AV.int .i64 c1_0, .int .i64 c1_1, .str c1_2, .sl (List.take (Int.toNat (↑(List.length lt) : Int)) h3)], [[AV.fn (Fn.func 159) [] [.ptr 0 0 0]]]) else none) P) : Gets (whc63_0 lt v20 c1_0 c1_1 c1_2 c2_0 c2_1 c2_2 c2_3 h3) P :=
  Gets.ev (fun _ h => loop_step (cfg := cfg) (f := 159) (rd := none) (bs := 1) h) (Gets.eq (by kernel_rfl) h)
end Go.Proofs.YtkgkjngbfdnoiaaGreat
end

section
namespace Go.Proofs.YtkgkjngbfdnoiaaGreat
open Go.Av
set_option maxRecDepth 100000
set_option maxHeartbeats 0

noncomputable def Lh47_0 : Den := evC cfg (EV cfg) 106 none 0 (sub (bodyOf Tryz.f106) [1, 1, 1, 0, 1, 0, 0])
noncomputable def Ah47_0 : Ex × List AV × AH → Option AV := kAft (Cfg.keepOut cfg 106 5) (kRun cfg (EV cfg) (kfN cfg 6) 106 none 0 (kFinS cfg (Cfg.lift cfg 106 0) Tryz.f106.results.toList) ([.block 0, .seq (sub (bodyOf Tryz.f106) [1, 1, 1, 1])]))
noncomputable def Wh47_0 : List AV × AH → Option AV := fun p => kOpt (LOOP 0 (some [1, 2, 5, 6]) ([]) Lh47_0 p) Ah47_0
noncomputable abbrev wh47_0 (most : Int) (v5 : Int) (v6 : Int) (c0_0 : Int) (c0_1 : Int) (c0_2 : List UInt8) (c0_3 : List (List AV)) : Option (AV) := Wh47_0  (((fx 43 [(1, AV.int IntKind.i64 most), (2, AV.ptr (0 : Nat) (0 : Nat) (0 : Nat)), (5, AV.int IntKind.i64 v5), (6, AV.int IntKind.i64 v6)]) : List AV), ([ABlk.rows false (4 : Nat) [[AV.int IntKind.i64 c0_0, AV.int IntKind.i64 c0_1, AV.str c0_2, AV.sl c0_3]]] : AH))
theorem kitBig_run (kt : Int) (nt : Int) (st : List UInt8) (lt : List (List AV)) (most : Int) {P : AV → Prop} (h : Gets (kOpt (EVs (EV cfg) 106 [.agg [.int .i64 kt, .int .i64 nt, .str st, .sl lt], .int .i64 (IntKind.wrap .i64 (most + (1 : Int)))]) fun (v : AV) => kInt .i64 v fun (n : Int) => some (.bool 
  (decide (n > most)))) P) : Gets (EVs (EV cfg) 41 ([AV.agg [AV.int IntKind.i64 kt, AV.int IntKind.i64 nt, AV.str st, AV.sl lt], AV.int IntKind.i64 most] : List AV)) P :=
  Gets.ev (fun _ h => funS rfl rfl Tryz.func41 rfl h) (Gets.eq (by kernel_rfl) h)
theorem kitSize_run (kt : Int) (nt : Int) (st : List UInt8) (lt : List (List AV)) (most : Int) {P : AV → Prop} (h : Gets (bif decide ((↑(List.length st) : Int) > (100 : Int)) then some (.int .i64 most) else bif decide ((↑(List.length lt) : Int) > most) then some (.int .i64 most) else wh47_0 most (1 : Int) 
  (0 : Int) kt nt st lt) P) : Gets (EVs (EV cfg) 106 ([AV.agg [AV.int IntKind.i64 kt, AV.int IntKind.i64 nt, AV.str st, AV.sl lt], AV.int IntKind.i64 most] : List AV)) P :=
  Gets.ev (fun _ h => funS rfl rfl Tryz.func106 rfl h) (Gets.eq (by kernel_rfl) h)
theorem wh47_0_step (most : Int) (v5 : Int) (v6 : Int) (c0_0 : Int) (c0_1 : Int) (c0_2 : List UInt8) (c0_3 : List (List AV)) {P : AV → Prop} (h : Gets (bif decide (v6 < (↑(List.length c0_3) : Int)) then bif decide (v5 < most) then bif leInt (0 : Int) v6 && ltInt v6 (↑(List.length c0_3) : Int) then kOpt (List.get?Internal c0_3 (Int.toNat 
  v6)) fun (row : List AV) => bif Nat.beq (List.length row) 4 then bif Nat.ble 4 (List.length row) then kTmC (List.take 4 row) fun (n n_1 : Int) (s : List UInt8) (rows : List (List AV)) 
  => (kOpt (EVs (EV cfg) 106 [.agg [.int .i64 n, .int .i64 n_1, .str s, .sl rows], .int .i64 (IntKind.wrap .i64 (most - v5))]) fun (v : AV) => kInt .i64 v fun (n : Int) => wh47_0 most 
  (IntKind.wrap .i64 (v5 + n)) (IntKind.wrap .i64 (v6 + (1 : Int))) c0_0 c0_1 c0_2 c0_3) else none else none else none else some (.int .i64 v5) else some (.int .i64 v5)) P) : Gets (wh47_0 most v5 v6 c0_0 c0_1 c0_2 c0_3) P :=
  Gets.ev (fun _ h => loop_step (cfg := cfg) (f := 106) (rd := none) (bs := 0) h) (Gets.eq (by kernel_rfl) h)
end Go.Proofs.YtkgkjngbfdnoiaaGreat
end

section
namespace Go.Av
@[simp] theorem Tm.kind_mk (k n : Int) (s : List UInt8) (l : List Tm) : (Tm.mk k n s l).kind = k := rfl
@[simp] theorem Tm.num_mk (k n : Int) (s : List UInt8) (l : List Tm) : (Tm.mk k n s l).num = n := rfl
@[simp] theorem Tm.str_mk (k n : Int) (s : List UInt8) (l : List Tm) : (Tm.mk k n s l).str = s := rfl
@[simp] theorem Tm.subs_mk (k n : Int) (s : List UInt8) (l : List Tm) : (Tm.mk k n s l).subs = l := rfl
@[simp] theorem Tm.eta (t : Tm) : Tm.mk t.kind t.num t.str t.subs = t := by cases t; rfl
theorem Tm.cells_eq (t : Tm) : t.cells = [.int .i64 t.kind, .int .i64 t.num, .str t.str, .sl (rowsT t.subs)] := by cases t; rw [Tm.cells_mk]; rfl
@[simp] theorem cells_fold (k n : Int) (s : List UInt8) (l : List Tm) : [AV.int .i64 k, AV.int .i64 n, AV.str s, AV.sl (rowsT l)] = (Tm.mk k n s l).cells := (Tm.cells_mk k n s l).symm
@[simp] theorem cells_fold0 (k n : Int) (s : List UInt8) : [AV.int .i64 k, AV.int .i64 n, AV.str s, AV.sl []] = (Tm.mk k n s []).cells := by rw [Tm.cells_mk, rowsT_nil]
@[simp] theorem agg_cells (t : Tm) : AV.agg t.cells = t.av := rfl
@[simp] theorem rowsT_one (t : Tm) : [t.cells] = rowsT [t] := by rw [rowsT_cons, rowsT_nil]
@[simp] theorem rowsT_cons' (t : Tm) (l : List Tm) : t.cells :: rowsT l = rowsT (t :: l) := (rowsT_cons t l).symm
@[simp] theorem rowsT_append' (a b : List Tm) : rowsT a ++ rowsT b = rowsT (a ++ b) := (rowsT_append a b).symm
@[simp] theorem rowsT_app (a b : List Tm) : List.append (rowsT a) (rowsT b) = rowsT (a ++ b) := (rowsT_append a b).symm
@[simp] theorem rowsT_take' (n : Nat) (a : List Tm) : (rowsT a).take n = rowsT (a.take n) := rowsT_take n a
@[simp] theorem rowsT_drop' (n : Nat) (a : List Tm) : (rowsT a).drop n = rowsT (a.drop n) := rowsT_drop n a
@[simp] theorem rowsT_set' (l : List Tm) (i : Nat) (t : Tm) : (rowsT l).set i t.cells = rowsT (l.set i t) := rowsT_set l i t
@[simp] theorem rowsT_get' (l : List Tm) (i : Nat) : (rowsT l)[i]? = (l[i]?).map Tm.cells := rowsT_get l i
@[simp] theorem rowsT_getElem (l : List Tm) (i : Nat) (h : i < (rowsT l).length) : (rowsT l)[i] = (l[i]'(by simpa using h)).cells := by
  have h1 := rowsT_get l i
  rw [List.getElem?_eq_getElem h, List.getElem?_eq_getElem (by simpa using h)] at h1
  exact Option.some.inj h1
@[simp] theorem kOpt_map {α β γ : Type} (o : Option β) (g : β → γ) (k : γ → Option α) : kOpt (o.map g) k = kOpt o fun x => k (g x) := by cases o <;> rfl
@[simp] theorem length_cells (t : Tm) : t.cells.length = 4 := by rw [Tm.cells_eq]; rfl
@[simp] theorem take_cells (t : Tm) : t.cells.take 4 = t.cells := by rw [Tm.cells_eq]; rfl
@[simp] theorem drop_cells (t : Tm) : t.cells.drop 4 = [] := by rw [Tm.cells_eq]; rfl
@[simp] theorem cells_0 (t : Tm) : t.cells[0]? = some (.int .i64 t.kind) := by rw [Tm.cells_eq]; rfl
@[simp] theorem cells_1 (t : Tm) : t.cells[1]? = some (.int .i64 t.num) := by rw [Tm.cells_eq]; rfl
@[simp] theorem cells_2 (t : Tm) : t.cells[2]? = some (.str t.str) := by rw [Tm.cells_eq]; rfl
@[simp] theorem cells_3 (t : Tm) : t.cells[3]? = some (.sl (rowsT t.subs)) := by rw [Tm.cells_eq]; rfl
@[simp] theorem refs_cells (n : Nat) (t : Tm) : refsLtL n t.cells = true := by rw [Tm.cells_eq]; rfl
@[simp] theorem allCells_cells (t : Tm) : allCells t.cells = true := by rw [Tm.cells_eq]; rfl
@[simp] theorem rowsT_free' (l : List Tm) : refsLtR 0 (rowsT l) = true := rowsT_free l
@[simp] theorem rowsOk_rowsT (l : List Tm) : rowsOk 4 (rowsT l) = true := by
  cases l with
  | nil => rw [rowsT_nil]; rfl
  | cons t l => rw [rowsT_cons, rowsOk, length_cells]; rfl
@[simp] theorem kTmC_cells {α : Type} (t : Tm) (k : Int → Int → List UInt8 → List (List AV) → Option α) : kTmC t.cells k = k t.kind t.num t.str (rowsT t.subs) := by rw [Tm.cells_eq]; rfl
@[simp] theorem kTmV_av {α : Type} (t : Tm) (k : Int → Int → List UInt8 → List (List AV) → Option α) : kTmV t.av k = k t.kind t.num t.str (rowsT t.subs) := by rw [Tm.av, Tm.cells_eq]; rfl

theorem wrap_s {i n : Nat} (h : i < n) (hn : n < 1099511627776) : IntKind.wrap .i64 ((i : Int) + 1) = (i : Int) + 1 := wrap64 (by omega) (by omega)
@[simp] theorem cast_nn (q : Nat) : (0 ≤ (q : Int) + 1) = True := eq_true (by omega)
@[simp] theorem cast_le1 (q n : Nat) : ((q : Int) + 1 ≤ (n : Int)) = (q + 1 ≤ n) := propext (by omega)
@[simp] theorem cast_lt1 (q n : Nat) : ((q : Int) + 1 < (n : Int)) = (q + 1 < n) := propext (by omega)
@[simp] theorem cast_nn' (q : Nat) : (0 < (q : Int) + 1) = True := eq_true (by omega)
@[simp] theorem cast_ne0 (q : Nat) : ((q : Int) + 1 == 0) = false := by rw [beqD]; exact decide_eq_false (by omega)
@[simp] theorem cast_lt_s (q : Nat) : ((q : Int) < (q : Int) + 1) = True := eq_true (by omega)
@[simp] theorem cast_le_s (q : Nat) : ((q : Int) ≤ (q : Int) + 1) = True := eq_true (by omega)
theorem wrapN {n : Nat} (hn : n < 4398046511104) : IntKind.wrap .i64 (n : Int) = n := wrap64 (by omega) (by omega)
end Go.Av
end

section
namespace Go.Av

def numC (a b : Int) : Int := if a < b then -1 else if b < a then 1 else 0
def strC (a b : List UInt8) : Int := if a = b then 0 else if Op.bytesLess a b then -1 else 1

mutual
def cmpT : Tm → Tm → Int
  | .mk k n s l, b =>
    if numC k b.kind ≠ 0 then numC k b.kind
    else if k = 1 ∨ k = 3 ∨ k = 4 ∨ k = 6 then numC n b.num
    else if k = 2 then strC s b.str
    else if k = 5 then (if numC n b.num ≠ 0 then numC n b.num else if numC l.length b.subs.length ≠ 0 then numC l.length b.subs.length else cmpE l b.subs)
    else if k = 7 ∨ k = 9 then (if numC l.length b.subs.length ≠ 0 then numC l.length b.subs.length else cmpE l b.subs)
    else 0
def cmpE : List Tm → List Tm → Int
  | [], [] => 0
  | [], _ :: _ => -1
  | _ :: _, [] => 1
  | a :: l, b :: l' => if cmpT a b ≠ 0 then cmpT a b else cmpE l l'
end

def cmpL (l l' : List Tm) : Int := if numC l.length l'.length ≠ 0 then numC l.length l'.length else cmpE l l'

theorem numC_zero {a b : Int} : numC a b = 0 ↔ a = b := by unfold numC; split <;> (try split) <;> omega
theorem numC_self (a : Int) : numC a a = 0 := numC_zero.2 rfl

theorem cmpT_eq (k n : Int) (s : List UInt8) (l : List Tm) (k' n' : Int) (s' : List UInt8) (l' : List Tm) : cmpT (.mk k n s l) (.mk k' n' s' l') =
    if numC k k' ≠ 0 then numC k k' else if k = 1 ∨ k = 3 ∨ k = 4 ∨ k = 6 then numC n n' else if k = 2 then strC s s'
    else if k = 5 then (if numC n n' ≠ 0 then numC n n' else cmpL l l') else if k = 7 ∨ k = 9 then cmpL l l' else 0 := by
  rw [cmpT]; rfl
theorem cmpE_cons (a b : Tm) (l l' : List Tm) : cmpE (a :: l) (b :: l') = if cmpT a b ≠ 0 then cmpT a b else cmpE l l' := by rw [cmpE]
theorem cmpE_nil : cmpE [] [] = 0 := by rw [cmpE]
theorem cmpE_nil_cons (b : Tm) (l' : List Tm) : cmpE [] (b :: l') = -1 := by rw [cmpE]
theorem cmpE_cons_nil (a : Tm) (l : List Tm) : cmpE (a :: l) [] = 1 := by rw [cmpE]

theorem bytesLess_irrefl : ∀ a : List UInt8, Op.bytesLess a a = false
  | [] => rfl
  | a :: l => by rw [Op.bytesLess, bytesLess_irrefl l]; simp
end Go.Av
end

section
namespace Go.Av

def C3 (p q r : Int) : Prop := (p ≤ 0 → q ≤ 0 → r ≤ 0) ∧ (p < 0 → q ≤ 0 → r < 0) ∧ (p ≤ 0 → q < 0 → r < 0) ∧ (0 ≤ p → 0 ≤ q → 0 ≤ r) ∧ (0 < p → 0 ≤ q → 0 < r) ∧ (0 ≤ p → 0 < q → 0 < r)

end Go.Av
end

section
namespace Go.Av
def soundB (k n : Int) (s : List UInt8) (m : Nat) : Bool :=
  if k = 1 then decide (-576460752303423488 ≤ n) && (decide (n ≤ 576460752303423487) && (decide (s = []) && decide (m = 0)))
  else if k = 2 then decide (n = 0) && (decide (s.length ≤ 64) && decide (m = 0))
  else if k = 3 then decide (0 ≤ n) && (decide (n ≤ 1073741824) && (decide (s = []) && decide (m = 0)))
  else if k = 4 then decide (0 ≤ n) && (decide (n ≤ 1073741824) && (decide (s = []) && decide (m = 0)))
  else if k = 6 then decide (0 ≤ n) && (decide (n ≤ 1073741824) && (decide (s = []) && decide (m = 0)))
  else if k = 5 then decide (0 ≤ n) && (decide (n ≤ 1073741824) && (decide (s = []) && decide (m ≤ 64)))
  else if k = 7 then decide (n = 0) && (decide (s = []) && decide (m ≤ 64))
  else if k = 8 then decide (n = 0) && (decide (s = []) && decide (m = 0))
  else if k = 9 then decide (n = 0) && (decide (s = []) && decide (m = 2))
  else false
def Tm.sound (t : Tm) : Bool := soundB t.kind t.num t.str t.subs.length
def Tm.own (t : Tm) : Nat := if t.kind = 7 ∨ t.kind = 5 then 2 else 1
theorem bif_some' (a b : Bool) : (bif a then some (AV.bool b) else some (AV.bool false)) = some (.bool (a && b)) := by cases a <;> rfl
theorem beqNil (s : List UInt8) : (s == []) = decide (s = []) := by cases s <;> simp
theorem beqI (a b : Int) : (a == b) = decide (a = b) := by simp [beqD]
mutual
/-- may all parts of a term be? -/
def Tm.parts : Tm → Bool
  | .mk k n s l => soundB k n s l.length && partsL l
def partsL : List Tm → Bool
  | [] => true
  | t :: l => t.parts && partsL l
end
mutual
/-- how many words all parts have -/
def Tm.words : Tm → Nat
  | .mk k n s l => (Tm.mk k n s l).own + wordsL l
def wordsL : List Tm → Nat
  | [] => 0
  | t :: l => t.words + wordsL l
end
theorem Tm.parts_eq (t : Tm) : t.parts = (t.sound && partsL t.subs) := by cases t; rw [Tm.parts]; rfl
theorem Tm.words_eq (t : Tm) : t.words = t.own + wordsL t.subs := by cases t; rw [Tm.words]; rfl
theorem partsL_append (a b : List Tm) : partsL (a ++ b) = (partsL a && partsL b) := by
  induction a with
  | nil => simp [partsL]
  | cons x l ih => simp [partsL, ih, Bool.and_assoc]
theorem wordsL_append (a b : List Tm) : wordsL (a ++ b) = wordsL a + wordsL b := by
  induction a with
  | nil => simp [wordsL]
  | cons x l ih => simp [wordsL, ih]; omega
theorem partsL_rev (a : List Tm) : partsL a.reverse = partsL a := by
  induction a with
  | nil => rfl
  | cons x l ih => simp [partsL_append, partsL, ih, Bool.and_comm]
theorem wordsL_rev (a : List Tm) : wordsL a.reverse = wordsL a := by
  induction a with
  | nil => rfl
  | cons x l ih => simp [wordsL_append, wordsL, ih]; omega
theorem Tm.own_le (t : Tm) : t.own ≤ 2 ∧ 1 ≤ t.own := by unfold Tm.own; split <;> omega
theorem words_le (t : Tm) : t.words ≤ 2 * t.w := by
  induction t using Tm.ind with
  | _ k n s l ih =>
    have h1 : wordsL l ≤ 2 * wL l := by
      clear n s
      induction l with
      | nil => simp [wordsL]
      | cons x l ih2 =>
        have := ih x (by simp)
        have := ih2 (fun t ht => ih t (by simp [ht]))
        simp [wordsL]; omega
    have := (Tm.mk k n s l).own_le
    rw [Tm.words, Tm.w_mk]; omega
def chkS (R : List Tm) (wd : Nat) : Int := if partsL R then (if 65536 < wd + wordsL R then 3 else 0) else 2
def Tm.chk (t : Tm) : Int := chkS [t] 0
theorem chkS_bad {R : List Tm} {x : Tm} {wd : Nat} (h : x.sound = false) : chkS (R ++ [x]) wd = 2 := by
  unfold chkS
  rw [partsL_append]
  simp [partsL, Tm.parts_eq, h]
theorem chkS_step {R : List Tm} {x : Tm} {wd : Nat} (h : x.sound = true) : chkS (R ++ x.subs.reverse) (wd + x.own) = chkS (R ++ [x]) wd := by
  unfold chkS
  simp only [partsL_append, partsL_rev, wordsL_append, wordsL_rev, partsL, wordsL, Tm.parts_eq, Tm.words_eq, h, Bool.true_and, Bool.and_true]
  have : wd + x.own + (wordsL R + wordsL x.subs) = wd + (wordsL R + (x.own + wordsL x.subs + 0)) := by omega
  rw [this]

end Go.Av
end

section
namespace Go.Av
def Tells (p : Prop) (v : AV) : Prop := ∃ b : Bool, v = .bool b ∧ (b = true ↔ p)
theorem tells_bool {p : Prop} {b : Bool} : Tells p (.bool b) ↔ (b = true ↔ p) := ⟨fun ⟨_, h1, h2⟩ => by cases h1; exact h2, fun h => ⟨b, rfl, h⟩⟩
end Go.Av
namespace Go.Proofs.YtkgkjngbfdnoiaaGreat
open Go.Av

theorem fits56 {n : Nat} (h : n ≤ 1099511627776) : fitsIn n 56 = true := by
  unfold fitsIn
  rw [Bool.and_eq_true, Nat.ble_eq, Nat.ble_eq]
  omega

theorem av_unf (t : Tm) : (AV.agg [.int .i64 t.kind, .int .i64 t.num, .str t.str, .sl (rowsT t.subs)]) = t.av := by rw [Tm.av, Tm.cells_eq]
end Go.Proofs.YtkgkjngbfdnoiaaGreat
end

section
namespace Go.Proofs.YtkgkjngbfdnoiaaGreat
open Go.Av
def copyCell : List (List AV) := [[AV.fn (Fn.func 159) [] [AV.ptr 0 0 0]]]
end Go.Proofs.YtkgkjngbfdnoiaaGreat
end

section
namespace Go.Proofs.YtkgkjngbfdnoiaaGreat
open Go.Av
def avL (t : Tm) : AV := .agg [.int .i64 t.kind, .int .i64 t.num, .str t.str, .lsl (rowsT t.subs)]
theorem avL_mk (k n : Int) (s : List UInt8) (l : List Tm) : avL (Tm.mk k n s l) = .agg [.int .i64 k, .int .i64 n, .str s, .lsl (rowsT l)] := rfl
theorem copyInL_ev (t : Tm) : t.Ok → EVx (EV cfg) 159 [avL t, .ptr 0 0 0] 1 copyCell = some (t.av, copyCell) := by
  induction t using Tm.ind with
  | _ k n s l ih =>
    intro hok
    have hlen := hok.len
    have loop : ∀ (d i : Nat), i + d = l.length → Gets (whc63_0 (rowsT l) i k n s 0 0 [] [] (rowsT (l.take i) ++ List.replicate d [.int .i64 0, .int .i64 0, .str [], .nilS])) (· = ((Tm.mk k n s l).av, copyCell)) := by
      intro d
      induction d with
      | zero =>
        intro i hi
        refine whc63_0_step _ _ _ _ _ _ _ _ _ _ ?_
        obtain rfl : i = l.length := by omega
        have e : l.take l.length = l := List.take_of_length_le (Nat.le_refl _)
        rw [e]
        simp
        rfl
      | succ d ihd =>
        intro i hi
        refine whc63_0_step _ _ _ _ _ _ _ _ _ _ ?_
        have hil : i < l.length := by omega
        have hx : l[i]? = some l[i] := List.getElem?_eq_getElem hil
        have hxl := List.mem_of_getElem? hx
        have hix := EVk_of (ih l[i] hxl (hok.sub hxl))
        have hih := ihd (i + 1) (by omega)
        have hw := wrap_s hil hlen
        have e1 : l.take (i + 1) = l.take i ++ [l[i]] := by rw [List.take_add_one, hx]; rfl
        have ht : (rowsT (l.take i)).length = i := by rw [rowsT_length, List.length_take]; omega
        have g : (rowsT (l.take i) ++ List.replicate (d + 1) [AV.int .i64 0, .int .i64 0, .str [], .nilS])[i]? = some [AV.int .i64 0, .int .i64 0, .str [], .nilS] := by
          rw [List.getElem?_append_right (by omega), ht, Nat.sub_self]; rfl
        have g2 : (rowsT (l.take i) ++ List.replicate (d + 1) [AV.int .i64 0, .int .i64 0, .str [], .nilS]).set i l[i].cells = rowsT (l.take (i + 1)) ++ List.replicate d [AV.int .i64 0, .int .i64 0, .str [], .nilS] := by
          rw [List.set_append_right _ _ (by omega), e1, rowsT_append, rowsT_cons, rowsT_nil]
          have e3 : i - (rowsT (l.take i)).length = 0 := by omega
          rw [e3, List.replicate_succ, List.set_cons_zero, List.append_assoc]; rfl
        simp only [copyCell, avL] at hix
        simp [hil, hx, hix, g, hw]
        rw [g2]
        simpa using hih
    apply Gets.get
    rw [Tm.av_mk, avL_mk]
    refine copyInL_run _ _ _ _ ?_
    rw [rowsT_length]
    by_cases hl : l.length = 0
    · have : l = [] := List.length_eq_zero_iff.1 hl
      subst this
      simp [copyCell, AV.refsLt, refsLtL]
    · have hl' : ((l.length : Int) == 0) = false := by rw [beqD]; exact decide_eq_false (by omega)
      have h56 : leInt ((l.length : Int) * 56) 140737488355328 = true := by simp [leInt]; omega
      have hm : leInt (l.length : Int) 9223372036854775807 = true := by simp [leInt]; omega
      have hz : leInt 0 (l.length : Int) = true := leInt_zero _
      have hs : leInt (l.length : Int) (l.length : Int) = true := by simp [leInt]
      rw [hl', h56, hm, hz, hs]
      have := loop l.length 0 (by omega)
      rw [Tm.av_mk] at this
      simpa using this
theorem copyL_ev {t : Tm} (h : t.Ok) : EVf (EV cfg) 71 [avL t] = some t.av := by
  have h1 := EVk_of (copyInL_ev t h)
  obtain ⟨k, n, s, l⟩ := t
  rw [Tm.av_mk, avL_mk] at h1 ⊢
  apply Gets.get
  refine term_Copy_runL _ _ _ _ ?_
  simp only [copyCell] at h1
  rw [h1]
  simp [← Tm.av_mk]
end Go.Proofs.YtkgkjngbfdnoiaaGreat
end

section
namespace Go.Proofs.YtkgkjngbfdnoiaaGreat
open Go.Av
set_option maxRecDepth 20000
def avR (id : Nat) (t : Tm) : AV := .agg [.int .i64 t.kind, .int .i64 t.num, .str t.str, .rsl id (rowsT t.subs)]

theorem rep0_rows {L : Lent} {C : Claims} {μ : MMap} (l : List Tm) (ih : ∀ t ∈ l, ∀ v, @Rep L C μ (.sl (rowsT t.subs)) v → Rep0 C (.sl (rowsT t.subs)) v) {v : Value} (h : @Rep L C μ (.sl (rowsT l)) v) : Rep0 C (.sl (rowsT l)) v := by
  generalize hR : rowsT l = R at h
  cases h with
  | slNil => exact .slNil
  | sl _ a cap sz vals hs hsz hc hr hcell hcap hfree =>
    refine .sl R a cap sz vals hs hsz hc (fun i j row x h1 h2 => ?_) hcell hcap hfree
    have hrep := hr i j row x h1 h2
    rw [← hR, rowsT_get] at h1
    cases hl : l[i]? with
    | none => rw [hl] at h1; cases h1
    | some t =>
      rw [hl] at h1
      cases h1
      obtain ⟨k, n, s, l'⟩ := t
      rw [Tm.cells_mk] at h2
      match j, h2 with
      | 0, h2 => cases h2; generalize vals i 0 = u at hrep ⊢; cases hrep; exact .int _ _
      | 1, h2 => cases h2; generalize vals i 1 = u at hrep ⊢; cases hrep; exact .int _ _
      | 2, h2 => cases h2; generalize vals i 2 = u at hrep ⊢; cases hrep; exact .str _
      | 3, h2 => cases h2; exact ih _ (List.mem_of_getElem? hl) _ hrep
      | j + 4, h2 => simp at h2
theorem rep0_tm {L : Lent} {C : Claims} {μ : MMap} (t : Tm) : ∀ v, @Rep L C μ (.sl (rowsT t.subs)) v → Rep0 C (.sl (rowsT t.subs)) v := by
  induction t using Tm.ind with
  | _ k n s l ih => exact fun v h => rep0_rows l ih h
theorem Rep0.claims {D D' : Claims} {a : AV} {v : Value} (hD : ∀ b o v, D b o = some v → D' b o = some v) (h : Rep0 D a v) : Rep0 D' a v := by
  induction h with
  | int k n => exact .int k n
  | bool b => exact .bool b
  | str s => exact .str s
  | nilS => exact .nilS
  | slNil => exact .slNil
  | em a cap => exact .em a cap
  | sl rows a cap sz vals hs hsz hc _ hcell hcap hfree ih => exact .sl rows a cap sz vals hs hsz (fun i j row x h1 h2 => hD _ _ _ (hc i j row x h1 h2)) ih hcell hcap hfree

@[reducible] def lentAll (L : Lent) (C : Claims) : Lent := ⟨fun b o => match C b o with | some v => some v | none => L.l b o, True⟩
theorem rows_claim {D : Claims} {l : List Tm} {v : Value} (h : Rep0 D (.sl (rowsT l)) v) (hl : rowsT l ≠ []) : ∃ b o, D b o ≠ none := by
  generalize hR : rowsT l = R at h
  cases h with
  | slNil => exact absurd hR hl
  | sl _ a cap sz vals hs hsz hc hr hcell hcap hfree =>
    cases l with
    | nil => exact absurd (by rw [rowsT]) hl
    | cons t l =>
      obtain ⟨k, n, s, l'⟩ := t
      have h1 : R[0]? = some [.int .i64 k, .int .i64 n, .str s, .sl (rowsT l')] := by rw [← hR, rowsT_get]; exact congrArg some (Tm.cells_mk k n s l')
      exact ⟨_, _, by rw [hc 0 0 _ _ h1 rfl]; simp⟩

theorem EVf_get {cf : Orac} {f : Nat} {al : List AV} {v : AV} (h : EVf cf f al = some v) : ∃ r H, cf (.f f) al [] = some (r, H) ∧ (r.frz r.msIds H).fg = v := by
  unfold EVf at h
  cases hc : cf (.f f) al [] with
  | none => rw [hc] at h; cases h
  | some q => rw [hc] at h; exact ⟨q.1, q.2, rfl, Option.some.inj h⟩
theorem lent_call [Lent] (hu : Lent.u) {f : FuncId} {al : List AV} {k n : Int} {s : List UInt8} {l : List Tm} (he : EVf (EV cfg) f al = some (Tm.mk k n s l).av) {w : World} {vs : Array Value} (hw : Wld (fun _ => fun _ => none) (fun _ => none) [] w) (ha : FrRep (fun _ => fun _ => none) (fun _ => none) al vs) :
    CallR Tryz.prog (callFunc f vs) w (fun v w1 => ∃ (D : Claims) (v3 : Value), v = .agg [.int .i64 k, .int .i64 n, .string ⟨s.toArray⟩, v3].toArray ∧ Rep0 D (.sl (rowsT l)) v3 ∧ (∀ b o u, D b o = some u → w1.cell? ⟨b, o, none⟩ = some u ∧ w1.frozen? ⟨b, o, none⟩ = false ∧ w.heap.size ≤ b) ∧
      (∀ b, b < w.heap.size → w1.heap[b]? = w.heap[b]?) ∧ w.heap.size ≤ w1.heap.size ∧ w1.os = w.os ∧ w1.tape = w.tape ∧ w1.output = w.output) := by
  have he2 := EVf_get he
  clear he
  obtain ⟨qr, qH, hq, hqe⟩ := he2
  have hO := EV_sound cfg_ok
  have hcall := hO.calls _ _ _ _ _ hq (fun _ => fun _ => none) (fun _ => none) w vs _ ha hw rfl
  refine hcall.mono fun v w1 ⟨C2, μ2, e1, e2, e3⟩ => ?_
  obtain ⟨C3, a1, a2, a3⟩ := frzBlks_sound qr.msIds e2
  have x := e3.trans (a3 0 (Nat.zero_le _)) (Nat.le_refl _)
  have r1 : Rep C3 μ2 (Tm.mk k n s l).av v := by
    rw [← hqe]
    exact ((e1.mono a1 (fun _ _ h => h)).frzA (AllFrz.of a2)).fgA
  rw [Tm.av_mk] at r1
  cases r1 with
  | agg _ us hl hh =>
  match us, hl, hh with
  | [u0, u1, u2, u3], _, hh =>
  have h0 : Rep0 C3 (.sl (rowsT l)) u3 := rep0_tm (.mk k n s l) u3 (hh 3 _ _ rfl rfl)
  have q0 := hh 0 _ _ rfl rfl
  have q1 := hh 1 _ _ rfl rfl
  have q2 := hh 2 _ _ rfl rfl
  cases q0; cases q1; cases q2
  refine ⟨C3, u3, rfl, h0, fun b o u h => ⟨a2.cl b o u h, a2.lnt.2 hu b o u h, ?_⟩, fun b hb => (x.fr b hb not_live_nil).1, x.size, x.os, x.tape, x.output⟩
  rcases Nat.lt_or_ge b w.heap.size with hb | hb
  · have h5 := (x.fr b hb not_live_nil).2.2
    rw [h5] at h; cases h
  · exact hb
theorem reg_call [L : Lent] {f : FuncId} {al : List AV} {t : Tm} (he : EVf (EV cfg) f al = some t.av) {C : Claims} {w : World} {vs : Array Value} (hw : Wld C (fun _ => none) [] w) (ha' : @FrRep (lentAll L C) (fun _ => fun _ => none) (fun _ => none) al vs) :
    CallR Tryz.prog (callFunc f vs) w (Post1 C (fun _ => none) [] w (avR 0 t) [.reg]) := by
  have hlent : ∀ b o v, (lentAll L C).l b o = some v → w.cell? ⟨b, o, none⟩ = some v := fun b o v h => by
    have h : (match C b o with | some v => some v | none => L.l b o) = some v := h
    split at h
    · rename_i u hu; cases h; exact hw.cl _ _ _ hu
    · exact hw.lnt.1 _ _ _ h
  have hw' : @Wld (lentAll L C) (fun _ => fun _ => none) (fun _ => none) [] w :=
    @Wld.mk (lentAll L C) _ _ _ _ (fun b o v h => (nomatch h)) (fun id m hm => (nomatch hm)) (fun id hi => rfl) (fun id blk h1 => (by simp at h1)) (fun id d sz rs h1 => (by simp at h1)) (fun i i' b b' m m' h1 => (by simp at h1)) FreeH.nil ⟨hlent, fun _ b o v h => (nomatch h)⟩
  obtain ⟨k, n, s, l⟩ := t
  refine (@lent_call (lentAll L C) trivial _ _ _ _ _ _ he _ _ hw' ha').mono fun v w1 ⟨C3, u3, hv, h0, hD, old, hsz, hos, htp, hou⟩ => ?_
  subst hv
  have hw1 : Wld C (fun _ => none) [] w1 := hw.world hsz old
  have fin : ∀ μ' : MMap, (rowsT l ≠ [] → ∃ m, μ' 0 = some m ∧ m.D = C3) → Rep C μ' (avR 0 (.mk k n s l)) (.agg [.int .i64 k, .int .i64 n, .string ⟨s.toArray⟩, u3].toArray) := by
    intro μ' hm
    refine Rep.agg _ [.int .i64 k, .int .i64 n, .string ⟨s.toArray⟩, u3] rfl (fun i a v h1 h2 => ?_)
    match i, h1, h2 with
    | 0, h1, h2 => cases h1; cases h2; exact .int _ _
    | 1, h1, h2 => cases h1; cases h2; exact .int _ _
    | 2, h1, h2 => cases h1; cases h2; exact .str _
    | 3, h1, h2 => cases h1; cases h2; exact .rsl 0 _ _ C3 hm h0
    | i + 4, h1, h2 => simp at h1
  by_cases hex : ∃ b o, C3 b o ≠ none
  · obtain ⟨b0, o0, hb0⟩ := hex
    have hhas : ∀ b, (MI.mk b0 0 0 0 C3).has b → ∃ o u, C3 b o = some u := by
      rintro b (h | ⟨o, h⟩)
      · have : b0 = b := h
        subst this
        cases hc : C3 b0 o0 with
        | none => exact absurd hc hb0
        | some u => exact ⟨o0, u, hc⟩
      · cases hc : C3 b o with
        | none => exact absurd hc h
        | some u => exact ⟨o, u, hc⟩
    have hge : ∀ b, (MI.mk b0 0 0 0 C3).has b → w.heap.size ≤ b := fun b hb => by
      obtain ⟨o, u, hc⟩ := hhas b hb
      exact (hD b o u hc).2.2
    have hlt : ∀ b, (MI.mk b0 0 0 0 C3).has b → b < w1.heap.size := fun b hb => by
      obtain ⟨o, u, hc⟩ := hhas b hb
      exact World.block_lt_of_cell? w1 ⟨b, o, none⟩ ((hD b o u hc).1)
    obtain ⟨n1, n2, n3, n4, n5⟩ := hw1.new (nid := none) (k := 0) (H' := [.reg]) (blk := .reg) (m := MI.mk b0 0 0 0 C3) rfl (fun b hb => not_live_nil) hlt
      (fun b hb o => by
        cases hc : C b o with
        | none => rfl
        | some u => have h5 := hw.block_lt hc; have h6 := hge b hb; omega)
      (fun b hb => hw.lent_none (hge b hb)) rfl (fun b o u hd => ⟨(hD b o u hd).1, (hD b o u hd).2.1⟩)
    refine ⟨C, _, fin _ (fun _ => ⟨_, by unfold upd; rw [if_pos rfl], rfl⟩), n1, ⟨hos, htp, hou, hsz, fun _ _ _ h => h, fun id m _ hm => (nomatch hm), fun b hb hnl => ⟨old b hb, fun hl => ?_, rfl⟩, Nat.zero_le _⟩⟩
    rcases n4 b hl with h | h
    · exact not_live_nil h
    · have := hge b h; omega
  · obtain ⟨n1, n2⟩ := hw1.newV (nid := none) (k := 0) (H' := [.reg]) (blk := .reg) rfl rfl rfl trivial
    have n3 := n2 0 (Nat.zero_le _)
    refine ⟨C, _, fin (fun _ => none) (fun hne => absurd (rows_claim h0 hne) hex), n1, ⟨hos, htp, hou, hsz, fun _ _ _ h => h, fun id m _ hm => (nomatch hm), fun b hb hnl => ⟨old b hb, fun hl => ?_, rfl⟩, Nat.zero_le _⟩⟩
    obtain ⟨i, bi, mi, h1, h2, h3, h4⟩ := hl
    cases h3
theorem copy_reg [L : Lent] {t : Tm} (hok : t.Ok) {C : Claims} {w : World} {vs : Array Value} (hw : Wld C (fun _ => none) [] w) (ha : FrRep C (fun _ => none) [t.av] vs) :
    CallR Tryz.prog (callFunc 71 vs) w (Post1 C (fun _ => none) [] w (avR 0 t) [.reg]) := by
  have ha' : @FrRep (lentAll L C) (fun _ => fun _ => none) (fun _ => none) [avL t] vs := by
    obtain ⟨h1, h2⟩ := ha
    refine ⟨by simpa using h1, fun i a v hi hv => ?_⟩
    match i, hi with
    | 0, hi =>
      cases hi
      have h3 := h2 0 t.av v rfl hv
      obtain ⟨k, n, s, l⟩ := t
      rw [Tm.av_mk] at h3
      rw [avL_mk]
      cases h3 with
      | agg _ us hl hh =>
        refine @Rep.agg (lentAll L C) _ _ _ us hl (fun i a v h1 h2 => ?_)
        match i, h1 with
        | 0, h1 => cases h1; have h4 := hh 0 _ v rfl h2; cases h4; exact @Rep.int (lentAll L C) _ _ _ _
        | 1, h1 => cases h1; have h4 := hh 1 _ v rfl h2; cases h4; exact @Rep.int (lentAll L C) _ _ _ _
        | 2, h1 => cases h1; have h4 := hh 2 _ v rfl h2; cases h4; exact @Rep.str (lentAll L C) _ _ _
        | 3, h1 =>
          cases h1
          have h4 := hh 3 _ v rfl h2
          exact @Rep.lsl (lentAll L C) _ _ _ _ (Rep0.claims (fun b o v h => by show (match C b o with | some v => some v | none => L.l b o) = some v; rw [h]) (rep0_tm (.mk k n s l) v h4))
        | i + 4, h1 => simp at h1
    | i + 1, hi => simp at hi
  exact reg_call (f := 71) (al := [avL t]) (copyL_ev hok) hw ha'
end Go.Proofs.YtkgkjngbfdnoiaaGreat
end

section
namespace Go.Proofs.YtkgkjngbfdnoiaaGreat
open Go.Av
set_option maxRecDepth 100000
set_option maxHeartbeats 0

noncomputable def Ly99_0 : Den := evC cfg (EV cfg) 246 none 0 (sub (bodyOf Tryz.f246) [1, 1, 0, 0, 0])
noncomputable def Ay99_0 : Ex × List AV × AH → Option AV := kAft (Cfg.keepOut cfg 246 2) (kRun cfg (EV cfg) (kfN cfg 6) 246 none 0 (kFinS cfg (Cfg.lift cfg 246 0) Tryz.f246.results.toList) ([.block 0, .seq (sub (bodyOf Tryz.f246) [1, 1, 1])]))
noncomputable def Wy99_0 : List AV × AH → Option AV := fun p => kOpt (LOOP 0 (some [1, 4]) ([]) Ly99_0 p) Ay99_0
noncomputable def Ly20_0 : Den := evC cfg (EV cfg) 25 none 0 (sub (bodyOf Tryz.f25) [1, 1, 0, 1, 0, 0])
noncomputable def Ay20_0 : Ex × List AV × AH → Option AV := kAft (Cfg.keepOut cfg 25 4) (kRun cfg (EV cfg) (kfN cfg 6) 25 none 0 (kFinF cfg (Cfg.lift cfg 25 0) Tryz.f25.results.toList) ([.block 0, .seq (sub (bodyOf Tryz.f25) [1, 1, 1])]))
noncomputable def Wy20_0 : List AV × AH → Option AV := fun p => kOpt (LOOP 0 (some [0, 1, 2, 6, 8]) ([]) Ly20_0 p) Ay20_0
noncomputable def Ly30_0 : Den := evC cfg (EV cfg) 76 none 0 (sub (bodyOf Tryz.f76) [1, 1, 0, 1, 0, 0])
noncomputable def Ay30_0 : Ex × List AV × AH → Option AV := kAft (Cfg.keepOut cfg 76 3) (kRun cfg (EV cfg) (kfN cfg 6) 76 none 0 (kFinF cfg (Cfg.lift cfg 76 0) Tryz.f76.results.toList) ([.block 0, .seq (sub (bodyOf Tryz.f76) [1, 1, 1])]))
noncomputable def Wy30_0 : List AV × AH → Option AV := fun p => kOpt (LOOP 0 (some [1, 2, 3, 4]) ([(3, 4)]) Ly30_0 p) Ay30_0
noncomputable def Ly120_0 : Den := evC cfg (EV cfg) 229 none 0 (sub (bodyOf Tryz.f229) [1, 1, 0, 1, 0, 0])
noncomputable def Ay120_0 : Ex × List AV × AH → Option AV := kAft (Cfg.keepOut cfg 229 3) (kRun cfg (EV cfg) (kfN cfg 6) 229 none 0 (kFinS cfg (Cfg.lift cfg 229 0) Tryz.f229.results.toList) ([.block 0, .seq (sub (bodyOf Tryz.f229) [1, 1, 1])]))
noncomputable def Wy120_0 : List AV × AH → Option AV := fun p => kOpt (LOOP 0 (some [0, 1, 5, 6]) ([]) Ly120_0 p) Ay120_0
noncomputable abbrev wy99_0 (v4 : Int) (c0_0 : Int) (c0_1 : Int) (c0_2 : List UInt8) (c0_3 : List (List AV)) : Option (AV) := Wy99_0  (((fx 18 [(1, AV.ptr (0 : Nat) (0 : Nat) (0 : Nat)), (4, AV.int IntKind.i64 v4)]) : List AV), ([ABlk.rows false (4 : Nat) [[AV.int IntKind.i64 c0_0, AV.int IntKind.i64 c0_1, AV.str c0_2, AV.sl c0_3]]] : AH))
noncomputable abbrev wy20_0 (op : List UInt8) (L : List (List AV)) (self : Int) (v8 : Int) (c0_0 : Int) (c0_1 : Int) (c0_2 : List UInt8) (c0_3 : List (List AV)) : Option (AV) := Wy20_0  (((fx 47 [(0, AV.str op), (1, AV.sl L), (2, AV.int IntKind.i64 self), (6, AV.ptr (0 : Nat) (0 : Nat) (0 : Nat)), (8, AV.int IntKind.i64 v8)]) : List AV), ([ABlk.rows false (4 : Nat) [[AV.int IntKind.i64 c0_0, AV.int IntKind.i64 c0_1, AV.str c0_2, AV.sl c0_3]]] : AH))
noncomputable abbrev wy30_0 (nv3 : Nat) (v4 : Int) (c0_0 : Int) (c0_1 : Int) (c0_2 : List UInt8) (c0_3 : List (List AV)) (c1_0 : Int) (c1_1 : Int) (c1_2 : List UInt8) (c1_3 : List (List AV)) (h2 : List (List AV)) : Option (AV) := Wy30_0  (((fx 24 [(1, AV.ptr (0 : Nat) (0 : Nat) (0 : Nat)), (2, AV.ptr (1 : Nat) (0 : Nat) (0 : Nat)), (3, AV.ms (2 : Nat) (0 : Nat) nv3), (4, AV.int IntKind.i64 v4)]) : List AV), ([ABlk.rows false (4 : Nat) [[AV.int IntKind.i64 c0_0, AV.int IntKind.i64 c0_1, AV.str c0_2, AV.sl c0_3]], ABlk.rows false (4 : Nat) [[AV.int IntKind.i64 c1_0, AV.int IntKind.i64 c1_1, AV.str c1_2, AV.sl c1_3]], ABlk.rows true (4 : Nat) h2] : AH))
noncomputable abbrev wy120_0 (A : List (List AV)) (B : List (List AV)) (v5 : Int) (v6 : Int) : Option (AV) := Wy120_0  (((fx 32 [(0, AV.sl A), (1, AV.sl B), (5, AV.int IntKind.i64 v5), (6, AV.int IntKind.i64 v6)]) : List AV), ([] : AH))
theorem r17Truth_run (b : Bool) {P : AV → Prop} (h : Gets (bif b then some (.agg [AV.int .i64 (2 : Int), .int .i64 (0 : Int), .str [(116 : UInt8), (114 : UInt8), (117 : UInt8), (101 : UInt8)], .sl []]) else some (.agg [AV.int .i64 (2 : Int), .int 
  .i64 (0 : Int), .str [(102 : UInt8), (97 : UInt8), (108 : UInt8), (115 : UInt8), (101 : UInt8)], .sl []])) P) : Gets (EVf (EV cfg) 245 ([AV.bool b] : List AV)) P :=
  Gets.ev (fun _ h => funF rfl rfl Tryz.func245 rfl h) (Gets.eq (by kernel_rfl) h)
theorem r17Truths_run (kt : Int) (nt : Int) (st : List UInt8) (lt : List (List AV)) {P : AV → Prop} (h : Gets (bif kt != (2 : Int) then some (AV.tup [.bool false, .bool false]) else bif !st == [(116 : UInt8), (114 : UInt8), (117 : UInt8), (101 : UInt8)] then bif !st == [(102 : UInt8), (97 : 
  UInt8), (108 : UInt8), (115 : UInt8), (101 : UInt8)] then some (AV.tup [.bool false, .bool false]) else some (AV.tup [.bool (st == [(116 : UInt8), (114 : UInt8), (117 : UInt8), (101 
  : UInt8)]), .bool true]) else some (AV.tup [.bool (st == [(116 : UInt8), (114 : UInt8), (117 : UInt8), (101 : UInt8)]), .bool true])) P) : Gets (EVs (EV cfg) 237 ([AV.agg [AV.int IntKind.i64 kt, AV.int IntKind.i64 nt, AV.str st, AV.sl lt]] : List AV)) P :=
  Gets.ev (fun _ h => funS rfl rfl Tryz.func237 rfl h) (Gets.eq (by kernel_rfl) h)
theorem r17Within_run (n : Int) {P : AV → Prop} (h : Gets (bif decide (n < (-576460752303423488 : Int)) then some (AV.tup [.agg [AV.int .i64 (0 : Int), .int .i64 (0 : Int), .str [], .sl []], .bool false]) else bif decide (n > (576460752303423487 
  : Int)) then some (AV.tup [.agg [AV.int .i64 (0 : Int), .int .i64 (0 : Int), .str [], .sl []], .bool false]) else some (AV.tup [.agg [AV.int .i64 (1 : Int), .int .i64 n, .str [], .sl []], 
  .bool true])) P) : Gets (EVf (EV cfg) 247 ([AV.int IntKind.i64 n] : List AV)) P :=
  Gets.ev (fun _ h => funF rfl rfl Tryz.func247 rfl h) (Gets.eq (by kernel_rfl) h)
theorem r17Product_run (a : Int) (b : Int) {P : AV → Prop} (h : Gets (bif a == (0 : Int) then kOpt (EVf (EV cfg) 247 [AV.int .i64 (0 : Int)]) fun (v : AV) => kTup v fun (cs : List AV) => kCons cs fun (c : AV) (cs : List AV) => kAgg c fun (cs_1 : List AV) 
  => kCons cs_1 fun (c : AV) (cs_2 : List AV) => kInt .i64 c fun (n : Int) => kCons cs_2 fun (c : AV) (cs_3 : List AV) => kInt .i64 c fun (n_1 : Int) => kCons cs_3 fun (c : AV) (cs_4 
  : List AV) => kStr c fun (s : List UInt8) => kCons cs_4 fun (c : AV) (cs_5 : List AV) => kSl c fun (rows : List (List AV)) => kNil cs_5 (kCons cs fun (c : AV) (cs : List AV) => kBool 
  c fun (b : Bool) => kNil cs (some (AV.tup [.agg [AV.int .i64 n, .int .i64 n_1, .str s, .sl rows], .bool b]))) else bif b == (0 : Int) then kOpt (EVf (EV cfg) 247 [AV.int .i64 (0 : Int)]) 
  fun (v : AV) => kTup v fun (cs : List AV) => kCons cs fun (c : AV) (cs : List AV) => kAgg c fun (cs_1 : List AV) => kCons cs_1 fun (c : AV) (cs_2 : List AV) => kInt .i64 c fun (n : 
  Int) => kCons cs_2 fun (c : AV) (cs_3 : List AV) => kInt .i64 c fun (n_1 : Int) => kCons cs_3 fun (c : AV) (cs_4 : List AV) => kStr c fun (s : List UInt8) => kCons cs_4 fun (c : AV) 
  (cs_5 : List AV) => kSl c fun (rows : List (List AV)) => kNil cs_5 (kCons cs fun (c : AV) (cs : List AV) => kBool c fun (b : Bool) => kNil cs (some (AV.tup [.agg [AV.int .i64 n, .int 
  .i64 n_1, .str s, .sl rows], .bool b]))) else bif decide (a > (0 : Int)) then bif decide (b > (0 : Int)) then kOpt (fromSem (Op.intDiv BinOp.quo .i64 (576460752303423487 : Int) b)) 
  fun (v : AV) => kInt .i64 v fun (n : Int) => bif decide (a > n) then some (AV.tup [.agg [AV.int .i64 (0 : Int), .int .i64 (0 : Int), .str [], .sl []], .bool false]) else bif decide (a 
  < (0 : Int)) then bif decide (b < (0 : Int)) then kOpt (fromSem (Op.intDiv BinOp.quo .i64 (576460752303423487 : Int) b)) fun (v : AV) => kInt .i64 v fun (n : Int) => bif decide (a < 
  n) then some (AV.tup [.agg [AV.int .i64 (0 : Int), .int .i64 (0 : Int), .str [], .sl []], .bool false]) else bif decide (a > (0 : Int)) then bif decide (b < (0 : Int)) then kOpt (fromSem 
  (Op.intDiv BinOp.quo .i64 (-576460752303423488 : Int) a)) fun (v : AV) => kInt .i64 v fun (n : Int) => bif decide (b < n) then some (AV.tup [.agg [AV.int .i64 (0 : Int), .int .i64 (0 
  : Int), .str [], .sl []], .bool false]) else bif decide (a < (0 : Int)) then bif decide (b > (0 : Int)) then kOpt (fromSem (Op.intDiv BinOp.quo .i64 (-576460752303423488 : Int) b)) 
  fun (v : AV) => kInt .i64 v fun (n : Int) => bif decide (a < n) then some (AV.tup [.agg [AV.int .i64 (0 : Int), .int .i64 (0 : Int), .str [], .sl []], .bool false]) else kOpt (EVf (EV 
  cfg) 247 [AV.int .i64 (IntKind.wrap .i64 (a * b))]) fun (v : AV) => kTup v fun (cs : List AV) => kCons cs fun (c : AV) (cs : List AV) => kAgg c fun (cs_1 : List AV) => kCons cs_1 fun 
  (c : AV) (cs_2 : List AV) => kInt .i64 c fun (n : Int) => kCons cs_2 fun (c : AV) (cs_3 : List AV) => kInt .i64 c fun (n_1 : Int) => kCons cs_3 fun (c : AV) (cs_4 : List AV) => kStr 
  c fun (s : List UInt8) => kCons cs_4 fun (c : AV) (cs_5 : List AV) => kSl c fun (rows : List (List AV)) => kNil cs_5 (kCons cs fun (c : AV) (cs : List AV) => kBool c fun (b : Bool) 
  => kNil cs (some (AV.tup [.agg [AV.int .i64 n, .int .i64 n_1, .str s, .sl rows], .bool b]))) else kOpt (EVf (EV cfg) 247 [AV.int .i64 (IntKind.wrap .i64 (a * b))]) fun (v : AV) => kTup 
  v fun (cs : List AV) => kCons cs fun (c : AV) (cs : List AV) => kAgg c fun (cs_1 : List AV) => kCons cs_1 fun (c : AV) (cs_2 : List AV) => kInt .i64 c fun (n : Int) => kCons cs_2 fun 
  (c : AV) (cs_3 : List AV) => kInt .i64 c fun (n_1 : Int) => kCons cs_3 fun (c : AV) (cs_4 : List AV) => kStr c fun (s : List UInt8) => kCons cs_4 fun (c : AV) (cs_5 : List AV) => kSl 
  c fun (rows : List (List AV)) => kNil cs_5 (kCons cs fun (c : AV) (cs : List AV) => kBool c fun (b : Bool) => kNil cs (some (AV.tup [.agg [AV.int .i64 n, .int .i64 n_1, .str s, .sl rows], 
  .bool b]))) else kOpt (EVf (EV cfg) 247 [AV.int .i64 (IntKind.wrap .i64 (a * b))]) fun (v : AV) => kTup v fun (cs : List AV) => kCons cs fun (c : AV) (cs : List AV) => kAgg c fun (cs_1 
  : List AV) => kCons cs_1 fun (c : AV) (cs_2 : List AV) => kInt .i64 c fun (n : Int) => kCons cs_2 fun (c : AV) (cs_3 : List AV) => kInt .i64 c fun (n_1 : Int) => kCons cs_3 fun (c : 
  AV) (cs_4 : List AV) => kStr c fun (s : List UInt8) => kCons cs_4 fun (c : AV) (cs_5 : List AV) => kSl c fun (rows : List (List AV)) => kNil cs_5 (kCons cs fun (c : AV) (cs : List AV) 
  => kBool c fun (b : Bool) => kNil cs (some (AV.tup [.agg [AV.int .i64 n, .int .i64 n_1, .str s, .sl rows], .bool b]))) else bif decide (a < (0 : Int)) then bif decide (b > (0 : Int)) 
  then kOpt (fromSem (Op.intDiv BinOp.quo .i64 (-576460752303423488 : Int) b)) fun (v : AV) => kInt .i64 v fun (n : Int) => bif decide (a < n) then some (AV.tup [.agg [AV.int .i64 (0 : 
  Int), .int .i64 (0 : Int), .str [], .sl []], .bool false]) else kOpt (EVf (EV cfg) 247 [AV.int .i64 (IntKind.wrap .i64 (a * b))]) fun (v : AV) => kTup v fun (cs : List AV) => kCons cs 
  fun (c : AV) (cs : List AV) => kAgg c fun (cs_1 : List AV) => kCons cs_1 fun (c : AV) (cs_2 : List AV) => kInt .i64 c fun (n : Int) => kCons cs_2 fun (c : AV) (cs_3 : List AV) => kInt 
  .i64 c fun (n_1 : Int) => kCons cs_3 fun (c : AV) (cs_4 : List AV) => kStr c fun (s : List UInt8) => kCons cs_4 fun (c : AV) (cs_5 : List AV) => kSl c fun (rows : List (List AV)) => 
  kNil cs_5 (kCons cs fun (c : AV) (cs : List AV) => kBool c fun (b : Bool) => kNil cs (some (AV.tup [.agg [AV.int .i64 n, .int .i64 n_1, .str s, .sl rows], .bool b]))) else kOpt (EVf (EV 
  cfg) 247 [AV.int .i64 (IntKind.wrap .i64 (a * b))]) fun (v : AV) => kTup v fun (cs : List AV) => kCons cs fun (c : AV) (cs : List AV) => kAgg c fun (cs_1 : List AV) => kCons cs_1 fun 
  (c : AV) (cs_2 : List AV) => kInt .i64 c fun (n : Int) => kCons cs_2 fun (c : AV) (cs_3 : List AV) => kInt .i64 c fun (n_1 : Int) => kCons cs_3 fun (c : AV) (cs_4 : List AV) => kStr 
  c fun (s : List UInt8) => kCons cs_4 fun (c : AV) (cs_5 : List AV) => kSl c fun (rows : List (List AV)) => kNil cs_5 (kCons cs fun (c : AV) (cs : List AV) => kBool c fun (b : Bool) 
  => kNil cs (some (AV.tup [.agg [AV.int .i64 n, .int .i64 n_1, .str s, .sl rows], .bool b]))) else kOpt (EVf (EV cfg) 247 [AV.int .i64 (IntKind.wrap .i64 (a * b))]) fun (v : AV) => kTup 
  v fun (cs : List AV) => kCons cs fun (c : AV) (cs : List AV) => kAgg c fun (cs_1 : List AV) => kCons cs_1 fun (c : AV) (cs_2 : List AV) => kInt .i64 c fun (n : Int) => kCons cs_2 fun 
  (c : AV) (cs_3 : List AV) => kInt .i64 c fun (n_1 : Int) => kCons cs_3 fun (c : AV) (cs_4 : List AV) => kStr c fun (s : List UInt8) => kCons cs_4 fun (c : AV) (cs_5 : List AV) => kSl 
  c fun (rows : List (List AV)) => kNil cs_5 (kCons cs fun (c : AV) (cs : List AV) => kBool c fun (b : Bool) => kNil cs (some (AV.tup [.agg [AV.int .i64 n, .int .i64 n_1, .str s, .sl rows], 
  .bool b]))) else bif decide (a < (0 : Int)) then bif decide (b > (0 : Int)) then kOpt (fromSem (Op.intDiv BinOp.quo .i64 (-576460752303423488 : Int) b)) fun (v : AV) => kInt .i64 v 
  fun (n : Int) => bif decide (a < n) then some (AV.tup [.agg [AV.int .i64 (0 : Int), .int .i64 (0 : Int), .str [], .sl []], .bool false]) else kOpt (EVf (EV cfg) 247 [AV.int .i64 (IntKind.wrap 
  .i64 (a * b))]) fun (v : AV) => kTup v fun (cs : List AV) => kCons cs fun (c : AV) (cs : List AV) => kAgg c fun (cs_1 : List AV) => kCons cs_1 fun (c : AV) (cs_2 : List AV) => kInt 
  .i64 c fun (n : Int) => kCons cs_2 fun (c : AV) (cs_3 : List AV) => kInt .i64 c fun (n_1 : Int) => kCons cs_3 fun (c : AV) (cs_4 : List AV) => kStr c fun (s : List UInt8) => kCons cs_4 
  fun (c : AV) (cs_5 : List AV) => kSl c fun (rows : List (List AV)) => kNil cs_5 (kCons cs fun (c : AV) (cs : List AV) => kBool c fun (b : Bool) => kNil cs (some (AV.tup [.agg [AV.int 
  .i64 n, .int .i64 n_1, .str s, .sl rows], .bool b]))) else kOpt (EVf (EV cfg) 247 [AV.int .i64 (IntKind.wrap .i64 (a * b))]) fun (v : AV) => kTup v fun (cs : List AV) => kCons cs fun 
  (c : AV) (cs : List AV) => kAgg c fun (cs_1 : List AV) => kCons cs_1 fun (c : AV) (cs_2 : List AV) => kInt .i64 c fun (n : Int) => kCons cs_2 fun (c : AV) (cs_3 : List AV) => kInt .i64 
  c fun (n_1 : Int) => kCons cs_3 fun (c : AV) (cs_4 : List AV) => kStr c fun (s : List UInt8) => kCons cs_4 fun (c : AV) (cs_5 : List AV) => kSl c fun (rows : List (List AV)) => kNil 
  cs_5 (kCons cs fun (c : AV) (cs : List AV) => kBool c fun (b : Bool) => kNil cs (some (AV.tup [.agg [AV.int .i64 n, .int .i64 n_1, .str s, .sl rows], .bool b]))) else kOpt (EVf (EV cfg) 
  247 [AV.int .i64 (IntKind.wrap .i64 (a * b))]) fun (v : AV) => kTup v fun (cs : List AV) => kCons cs fun (c : AV) (cs : List AV) => kAgg c fun (cs_1 : List AV) => kCons cs_1 fun (c : 
  AV) (cs_2 : List AV) => kInt .i64 c fun (n : Int) => kCons cs_2 fun (c : AV) (cs_3 : List AV) => kInt .i64 c fun (n_1 : Int) => kCons cs_3 fun (c : AV) (cs_4 : List AV) => kStr c fun 
  (s : List UInt8) => kCons cs_4 fun (c : AV) (cs_5 : List AV) => kSl c fun (rows : List (List AV)) => kNil cs_5 (kCons cs fun (c : AV) (cs : List AV) => kBool c fun (b : Bool) => kNil 
  cs (some (AV.tup [.agg [AV.int .i64 n, .int .i64 n_1, .str s, .sl rows], .bool b]))) else bif decide (a > (0 : Int)) then bif decide (b < (0 : Int)) then kOpt (fromSem (Op.intDiv BinOp.quo 
  .i64 (-576460752303423488 : Int) a)) fun (v : AV) => kInt .i64 v fun (n : Int) => bif decide (b < n) then some (AV.tup [.agg [AV.int .i64 (0 : Int), .int .i64 (0 : Int), .str [], .sl 
  []], .bool false]) else bif decide (a < (0 : Int)) then bif decide (b > (0 : Int)) then kOpt (fromSem (Op.intDiv BinOp.quo .i64 (-576460752303423488 : Int) b)) fun (v : AV) => kInt 
  .i64 v fun (n : Int) => bif decide (a < n) then some (AV.tup [.agg [AV.int .i64 (0 : Int), .int .i64 (0 : Int), .str [], .sl []], .bool false]) else kOpt (EVf (EV cfg) 247 [AV.int .i64 
  (IntKind.wrap .i64 (a * b))]) fun (v : AV) => kTup v fun (cs : List AV) => kCons cs fun (c : AV) (cs : List AV) => kAgg c fun (cs_1 : List AV) => kCons cs_1 fun (c : AV) (cs_2 : List 
  AV) => kInt .i64 c fun (n : Int) => kCons cs_2 fun (c : AV) (cs_3 : List AV) => kInt .i64 c fun (n_1 : Int) => kCons cs_3 fun (c : AV) (cs_4 : List AV) => kStr c fun (s : List UInt8) 
  => kCons cs_4 fun (c : AV) (cs_5 : List AV) => kSl c fun (rows : List (List AV)) => kNil cs_5 (kCons cs fun (c : AV) (cs : List AV) => kBool c fun (b : Bool) => kNil cs (some (AV.tup 
  [.agg [AV.int .i64 n, .int .i64 n_1, .str s, .sl rows], .bool b]))) else kOpt (EVf (EV cfg) 247 [AV.int .i64 (IntKind.wrap .i64 (a * b))]) fun (v : AV) => kTup v fun (cs : List AV) => kCons 
  cs fun (c : AV) (cs : List AV) => kAgg c fun (cs_1 : List AV) => kCons cs_1 fun (c : AV) (cs_2 : List AV) => kInt .i64 c fun (n : Int) => kCons cs_2 fun (c : AV) (cs_3 : List AV) => 
  kInt .i64 c fun (n_1 : Int) => kCons cs_3 fun (c : AV) (cs_4 : List AV) => kStr c fun (s : List UInt8) => kCons cs_4 fun (c : AV) (cs_5 : List AV) => kSl c fun (rows : List (List AV)) 
  => kNil cs_5 (kCons cs fun (c : AV) (cs : List AV) => kBool c fun (b : Bool) => kNil cs (some (AV.tup [.agg [AV.int .i64 n, .int .i64 n_1, .str s, .sl rows], .bool b]))) else kOpt (EVf 
  (EV cfg) 247 [AV.int .i64 (IntKind.wrap .i64 (a * b))]) fun (v : AV) => kTup v fun (cs : List AV) => kCons cs fun (c : AV) (cs : List AV) => kAgg c fun (cs_1 : List AV) => kCons cs_1 
  fun (c : AV) (cs_2 : List AV) => kInt .i64 c fun (n : Int) => kCons cs_2 fun (c : AV) (cs_3 : List AV) => kInt .i64 c fun (n_1 : Int) => kCons cs_3 fun (c : AV) (cs_4 : List AV) => 
  kStr c fun (s : List UInt8) => kCons cs_4 fun (c : AV) (cs_5 : List AV) => kSl c fun (rows : List (List AV)) => kNil cs_5 (kCons cs fun (c : AV) (cs : List AV) => kBool c fun (b : Bool) 
  => kNil cs (some (AV.tup [.agg [AV.int .i64 n, .int .i64 n_1, .str s, .sl rows], .bool b]))) else bif decide (a < (0 : Int)) then bif decide (b > (0 : Int)) then kOpt (fromSem (Op.intDiv 
  BinOp.quo .i64 (-576460752303423488 : Int) b)) fun (v : AV) => kInt .i64 v fun (n : Int) => bif decide (a < n) then some (AV.tup [.agg [AV.int .i64 (0 : Int), .int .i64 (0 : Int), .str 
  [], .sl []], .bool false]) else kOpt (EVf (EV cfg) 247 [AV.int .i64 (IntKind.wrap .i64 (a * b))]) fun (v : AV) => kTup v fun (cs : List AV) => kCons cs fun (c : AV) (cs : List AV) => 
  kAgg c fun (cs_1 : List AV) => kCons cs_1 fun (c : AV) (cs_2 : List AV) => kInt .i64 c fun (n : Int) => kCons cs_2 fun (c : AV) (cs_3 : List AV) => kInt .i64 c fun (n_1 : Int) => kCons 
  cs_3 fun (c : AV) (cs_4 : List AV) => kStr c fun (s : List UInt8) => kCons cs_4 fun (c : AV) (cs_5 : List AV) => kSl c fun (rows : List (List AV)) => kNil cs_5 (kCons cs fun (c : AV) 
  (cs : List AV) => kBool c fun (b : Bool) => kNil cs (some (AV.tup [.agg [AV.int .i64 n, .int .i64 n_1, .str s, .sl rows], .bool b]))) else kOpt (EVf (EV cfg) 247 [AV.int .i64 (IntKind.wrap 
  .i64 (a * b))]) fun (v : AV) => kTup v fun (cs : List AV) => kCons cs fun (c : AV) (cs : List AV) => kAgg c fun (cs_1 : List AV) => kCons cs_1 fun (c : AV) (cs_2 : List AV) => kInt 
  .i64 c fun (n : Int) => kCons cs_2 fun (c : AV) (cs_3 : List AV) => kInt .i64 c fun (n_1 : Int) => kCons cs_3 fun (c : AV) (cs_4 : List AV) => kStr c fun (s : List UInt8) => kCons cs_4 
  fun (c : AV) (cs_5 : List AV) => kSl c fun (rows : List (List AV)) => kNil cs_5 (kCons cs fun (c : AV) (cs : List AV) => kBool c fun (b : Bool) => kNil cs (some (AV.tup [.agg [AV.int 
  .i64 n, .int .i64 n_1, .str s, .sl rows], .bool b]))) else kOpt (EVf (EV cfg) 247 [AV.int .i64 (IntKind.wrap .i64 (a * b))]) fun (v : AV) => kTup v fun (cs : List AV) => kCons cs fun 
  (c : AV) (cs : List AV) => kAgg c fun (cs_1 : List AV) => kCons cs_1 fun (c : AV) (cs_2 : List AV) => kInt .i64 c fun (n : Int) => kCons cs_2 fun (c : AV) (cs_3 : List AV) => kInt .i64 
  c fun (n_1 : Int) => kCons cs_3 fun (c : AV) (cs_4 : List AV) => kStr c fun (s : List UInt8) => kCons cs_4 fun (c : AV) (cs_5 : List AV) => kSl c fun (rows : List (List AV)) => kNil 
  cs_5 (kCons cs fun (c : AV) (cs : List AV) => kBool c fun (b : Bool) => kNil cs (some (AV.tup [.agg [AV.int .i64 n, .int .i64 n_1, .str s, .sl rows], .bool b]))) else bif decide (a < 
  (0 : Int)) then bif decide (b > (0 : Int)) then kOpt (fromSem (Op.intDiv BinOp.quo .i64 (-576460752303423488 : Int) b)) fun (v : AV) => kInt .i64 v fun (n : Int) => bif decide (a < 
  n) then some (AV.tup [.agg [AV.int .i64 (0 : Int), .int .i64 (0 : Int), .str [], .sl []], .bool false]) else kOpt (EVf (EV cfg) 247 [AV.int .i64 (IntKind.wrap .i64 (a * b))]) fun (v : AV) 
  => kTup v fun (cs : List AV) => kCons cs fun (c : AV) (cs : List AV) => kAgg c fun (cs_1 : List AV) => kCons cs_1 fun (c : AV) (cs_2 : List AV) => kInt .i64 c fun (n : Int) => kCons 
  cs_2 fun (c : AV) (cs_3 : List AV) => kInt .i64 c fun (n_1 : Int) => kCons cs_3 fun (c : AV) (cs_4 : List AV) => kStr c fun (s : List UInt8) => kCons cs_4 fun (c : AV) (cs_5 : List 
  AV) => kSl c fun (rows : List (List AV)) => kNil cs_5 (kCons cs fun (c : AV) (cs : List AV) => kBool c fun (b : Bool) => kNil cs (some (AV.tup [.agg [AV.int .i64 n, .int .i64 n_1, .str 
  s, .sl rows], .bool b]))) else kOpt (EVf (EV cfg) 247 [AV.int .i64 (IntKind.wrap .i64 (a * b))]) fun (v : AV) => kTup v fun (cs : List AV) => kCons cs fun (c : AV) (cs : List AV) => kAgg 
  c fun (cs_1 : List AV) => kCons cs_1 fun (c : AV) (cs_2 : List AV) => kInt .i64 c fun (n : Int) => kCons cs_2 fun (c : AV) (cs_3 : List AV) => kInt .i64 c fun (n_1 : Int) => kCons cs_3 
  fun (c : AV) (cs_4 : List AV) => kStr c fun (s : List UInt8) => kCons cs_4 fun (c : AV) (cs_5 : List AV) => kSl c fun (rows : List (List AV)) => kNil cs_5 (kCons cs fun (c : AV) (cs 
  : List AV) => kBool c fun (b : Bool) => kNil cs (some (AV.tup [.agg [AV.int .i64 n, .int .i64 n_1, .str s, .sl rows], .bool b]))) else kOpt (EVf (EV cfg) 247 [AV.int .i64 (IntKind.wrap 
  .i64 (a * b))]) fun (v : AV) => kTup v fun (cs : List AV) => kCons cs fun (c : AV) (cs : List AV) => kAgg c fun (cs_1 : List AV) => kCons cs_1 fun (c : AV) (cs_2 : List AV) => kInt 
  .i64 c fun (n : Int) => kCons cs_2 fun (c : AV) (cs_3 : List AV) => kInt .i64 c fun (n_1 : Int) => kCons cs_3 fun (c : AV) (cs_4 : List AV) => kStr c fun (s : List UInt8) => kCons cs_4 
  fun (c : AV) (cs_5 : List AV) => kSl c fun (rows : List (List AV)) => kNil cs_5 (kCons cs fun (c : AV) (cs : List AV) => kBool c fun (b : Bool) => kNil cs (some (AV.tup [.agg [AV.int 
  .i64 n, .int .i64 n_1, .str s, .sl rows], .bool b]))) else bif decide (a > (0 : Int)) then bif decide (b < (0 : Int)) then kOpt (fromSem (Op.intDiv BinOp.quo .i64 (-576460752303423488 
  : Int) a)) fun (v : AV) => kInt .i64 v fun (n : Int) => bif decide (b < n) then some (AV.tup [.agg [AV.int .i64 (0 : Int), .int .i64 (0 : Int), .str [], .sl []], .bool false]) else bif 
  decide (a < (0 : Int)) then bif decide (b > (0 : Int)) then kOpt (fromSem (Op.intDiv BinOp.quo .i64 (-576460752303423488 : Int) b)) fun (v : AV) => kInt .i64 v fun (n : Int) => bif 
  decide (a < n) then some (AV.tup [.agg [AV.int .i64 (0 : Int), .int .i64 (0 : Int), .str [], .sl []], .bool false]) else kOpt (EVf (EV cfg) 247 [AV.int .i64 (IntKind.wrap .i64 (a * b))]) 
  fun (v : AV) => kTup v fun (cs : List AV) => kCons cs fun (c : AV) (cs : List AV) => kAgg c fun (cs_1 : List AV) => kCons cs_1 fun (c : AV) (cs_2 : List AV) => kInt .i64 c fun (n : 
  Int) => kCons cs_2 fun (c : AV) (cs_3 : List AV) => kInt .i64 c fun (n_1 : Int) => kCons cs_3 fun (c : AV) (cs_4 : List AV) => kStr c fun (s : List UInt8) => kCons cs_4 fun (c : AV) 
  (cs_5 : List AV) => kSl c fun (rows : List (List AV)) => kNil cs_5 (kCons cs fun (c : AV) (cs : List AV) => kBool c fun (b : Bool) => kNil cs (some (AV.tup [.agg [AV.int .i64 n, .int 
  .i64 n_1, .str s, .sl rows], .bool b]))) else kOpt (EVf (EV cfg) 247 [AV.int .i64 (IntKind.wrap .i64 (a * b))]) fun (v : AV) => kTup v fun (cs : List AV) => kCons cs fun (c : AV) (cs 
  : List AV) => kAgg c fun (cs_1 : List AV) => kCons cs_1 fun (c : AV) (cs_2 : List AV) => kInt .i64 c fun (n : Int) => kCons cs_2 fun (c : AV) (cs_3 : List AV) => kInt .i64 c fun (n_1 
  : Int) => kCons cs_3 fun (c : AV) (cs_4 : List AV) => kStr c fun (s : List UInt8) => kCons cs_4 fun (c : AV) (cs_5 : List AV) => kSl c fun (rows : List (List AV)) => kNil cs_5 (kCons 
  cs fun (c : AV) (cs : List AV) => kBool c fun (b : Bool) => kNil cs (some (AV.tup [.agg [AV.int .i64 n, .int .i64 n_1, .str s, .sl rows], .bool b]))) else kOpt (EVf (EV cfg) 247 [AV.int 
  .i64 (IntKind.wrap .i64 (a * b))]) fun (v : AV) => kTup v fun (cs : List AV) => kCons cs fun (c : AV) (cs : List AV) => kAgg c fun (cs_1 : List AV) => kCons cs_1 fun (c : AV) (cs_2 
  : List AV) => kInt .i64 c fun (n : Int) => kCons cs_2 fun (c : AV) (cs_3 : List AV) => kInt .i64 c fun (n_1 : Int) => kCons cs_3 fun (c : AV) (cs_4 : List AV) => kStr c fun (s : List 
  UInt8) => kCons cs_4 fun (c : AV) (cs_5 : List AV) => kSl c fun (rows : List (List AV)) => kNil cs_5 (kCons cs fun (c : AV) (cs : List AV) => kBool c fun (b : Bool) => kNil cs (some 
  (AV.tup [.agg [AV.int .i64 n, .int .i64 n_1, .str s, .sl rows], .bool b]))) else bif decide (a < (0 : Int)) then bif decide (b > (0 : Int)) then kOpt (fromSem (Op.intDiv BinOp.quo .i64 
  (-576460752303423488 : Int) b)) fun (v : AV) => kInt .i64 v fun (n : Int) => bif decide (a < n) then some (AV.tup [.agg [AV.int .i64 (0 : Int), .int .i64 (0 : Int), .str [], .sl []], 
  .bool false]) else kOpt (EVf (EV cfg) 247 [AV.int .i64 (IntKind.wrap .i64 (a * b))]) fun (v : AV) => kTup v fun (cs : List AV) => kCons cs fun (c : AV) (cs : List AV) => kAgg c fun (cs_1 
  : List AV) => kCons cs_1 fun (c : AV) (cs_2 : List AV) => kInt .i64 c fun (n : Int) => kCons cs_2 fun (c : AV) (cs_3 : List AV) => kInt .i64 c fun (n_1 : Int) => kCons cs_3 fun (c : 
  AV) (cs_4 : List AV) => kStr c fun (s : List UInt8) => kCons cs_4 fun (c : AV) (cs_5 : List AV) => kSl c fun (rows : List (List AV)) => kNil cs_5 (kCons cs fun (c : AV) (cs : List AV) 
  => kBool c fun (b : Bool) => kNil cs (some (AV.tup [.agg [AV.int .i64 n, .int .i64 n_1, .str s, .sl rows], .bool b]))) else kOpt (EVf (EV cfg) 247 [AV.int .i64 (IntKind.wrap .i64 (a * b))]) 
  fun (v : AV) => kTup v fun (cs : List AV) => kCons cs fun (c : AV) (cs : List AV) => kAgg c fun (cs_1 : List AV) => kCons cs_1 fun (c : AV) (cs_2 : List AV) => kInt .i64 c fun (n : 
  Int) => kCons cs_2 fun (c : AV) (cs_3 : List AV) => kInt .i64 c fun (n_1 : Int) => kCons cs_3 fun (c : AV) (cs_4 : List AV) => kStr c fun (s : List UInt8) => kCons cs_4 fun (c : AV) 
  (cs_5 : List AV) => kSl c fun (rows : List (List AV)) => kNil cs_5 (kCons cs fun (c : AV) (cs : List AV) => kBool c fun (b : Bool) => kNil cs (some (AV.tup [.agg [AV.int .i64 n, .int 
  .i64 n_1, .str s, .sl rows], .bool b]))) else kOpt (EVf (EV cfg) 247 [AV.int .i64 (IntKind.wrap .i64 (a * b))]) fun (v : AV) => kTup v fun (cs : List AV) => kCons cs fun (c : AV) (cs 
  : List AV) => kAgg c fun (cs_1 : List AV) => kCons cs_1 fun (c : AV) (cs_2 : List AV) => kInt .i64 c fun (n : Int) => kCons cs_2 fun (c : AV) (cs_3 : List AV) => kInt .i64 c fun (n_1 
  : Int) => kCons cs_3 fun (c : AV) (cs_4 : List AV) => kStr c fun (s : List UInt8) => kCons cs_4 fun (c : AV) (cs_5 : List AV) => kSl c fun (rows : List (List AV)) => kNil cs_5 (kCons 
  cs fun (c : AV) (cs : List AV) => kBool c fun (b : Bool) => kNil cs (some (AV.tup [.agg [AV.int .i64 n, .int .i64 n_1, .str s, .sl rows], .bool b]))) else bif decide (a < (0 : Int)) then 
  bif decide (b > (0 : Int)) then kOpt (fromSem (Op.intDiv BinOp.quo .i64 (-576460752303423488 : Int) b)) fun (v : AV) => kInt .i64 v fun (n : Int) => bif decide (a < n) then some (AV.tup 
  [.agg [AV.int .i64 (0 : Int), .int .i64 (0 : Int), .str [], .sl []], .bool false]) else kOpt (EVf (EV cfg) 247 [AV.int .i64 (IntKind.wrap .i64 (a * b))]) fun (v : AV) => kTup v fun (cs 
  : List AV) => kCons cs fun (c : AV) (cs : List AV) => kAgg c fun (cs_1 : List AV) => kCons cs_1 fun (c : AV) (cs_2 : List AV) => kInt .i64 c fun (n : Int) => kCons cs_2 fun (c : AV) 
  (cs_3 : List AV) => kInt .i64 c fun (n_1 : Int) => kCons cs_3 fun (c : AV) (cs_4 : List AV) => kStr c fun (s : List UInt8) => kCons cs_4 fun (c : AV) (cs_5 : List AV) => kSl c fun (rows 
  : List (List AV)) => kNil cs_5 (kCons cs fun (c : AV) (cs : List AV) => kBool c fun (b : Bool) => kNil cs (some (AV.tup [.agg [AV.int .i64 n, .int .i64 n_1, .str s, .sl rows], .bool b]))) 
  else kOpt (EVf (EV cfg) 247 [AV.int .i64 (IntKind.wrap .i64 (a * b))]) fun (v : AV) => kTup v fun (cs : List AV) => kCons cs fun (c : AV) (cs : List AV) => kAgg c fun (cs_1 : List AV) 
  => kCons cs_1 fun (c : AV) (cs_2 : List AV) => kInt .i64 c fun (n : Int) => kCons cs_2 fun (c : AV) (cs_3 : List AV) => kInt .i64 c fun (n_1 : Int) => kCons cs_3 fun (c : AV) (cs_4 
  : List AV) => kStr c fun (s : List UInt8) => kCons cs_4 fun (c : AV) (cs_5 : List AV) => kSl c fun (rows : List (List AV)) => kNil cs_5 (kCons cs fun (c : AV) (cs : List AV) => kBool 
  c fun (b : Bool) => kNil cs (some (AV.tup [.agg [AV.int .i64 n, .int .i64 n_1, .str s, .sl rows], .bool b]))) else kOpt (EVf (EV cfg) 247 [AV.int .i64 (IntKind.wrap .i64 (a * b))]) fun 
  (v : AV) => kTup v fun (cs : List AV) => kCons cs fun (c : AV) (cs : List AV) => kAgg c fun (cs_1 : List AV) => kCons cs_1 fun (c : AV) (cs_2 : List AV) => kInt .i64 c fun (n : Int) 
  => kCons cs_2 fun (c : AV) (cs_3 : List AV) => kInt .i64 c fun (n_1 : Int) => kCons cs_3 fun (c : AV) (cs_4 : List AV) => kStr c fun (s : List UInt8) => kCons cs_4 fun (c : AV) (cs_5 
  : List AV) => kSl c fun (rows : List (List AV)) => kNil cs_5 (kCons cs fun (c : AV) (cs : List AV) => kBool c fun (b : Bool) => kNil cs (some (AV.tup [.agg [AV.int .i64 n, .int .i64 n_1, 
  .str s, .sl rows], .bool b]))) else bif decide (a < (0 : Int)) then bif decide (b < (0 : Int)) then kOpt (fromSem (Op.intDiv BinOp.quo .i64 (576460752303423487 : Int) b)) fun (v : AV) 
  => kInt .i64 v fun (n : Int) => bif decide (a < n) then some (AV.tup [.agg [AV.int .i64 (0 : Int), .int .i64 (0 : Int), .str [], .sl []], .bool false]) else bif decide (a > (0 : Int)) 
  then bif decide (b < (0 : Int)) then kOpt (fromSem (Op.intDiv BinOp.quo .i64 (-576460752303423488 : Int) a)) fun (v : AV) => kInt .i64 v fun (n : Int) => bif decide (b < n) then some 
  (AV.tup [.agg [AV.int .i64 (0 : Int), .int .i64 (0 : Int), .str [], .sl []], .bool false]) else bif decide (a < (0 : Int)) then bif decide (b > (0 : Int)) then kOpt (fromSem (Op.intDiv 
  BinOp.quo .i64 (-576460752303423488 : Int) b)) fun (v : AV) => kInt .i64 v fun (n : Int) => bif decide (a < n) then some (AV.tup [.agg [AV.int .i64 (0 : Int), .int .i64 (0 : Int), .str 
  [], .sl []], .bool false]) else kOpt (EVf (EV cfg) 247 [AV.int .i64 (IntKind.wrap .i64 (a * b))]) fun (v : AV) => kTup v fun (cs : List AV) => kCons cs fun (c : AV) (cs : List AV) => 
  kAgg c fun (cs_1 : List AV) => kCons cs_1 fun (c : AV) (cs_2 : List AV) => kInt .i64 c fun (n : Int) => kCons cs_2 fun (c : AV) (cs_3 : List AV) => kInt .i64 c fun (n_1 : Int) => kCons 
  cs_3 fun (c : AV) (cs_4 : List AV) => kStr c fun (s : List UInt8) => kCons cs_4 fun (c : AV) (cs_5 : List AV) => kSl c fun (rows : List (List AV)) => kNil cs_5 (kCons cs fun (c : AV) 
  (cs : List AV) => kBool c fun (b : Bool) => kNil cs (some (AV.tup [.agg [AV.int .i64 n, .int .i64 n_1, .str s, .sl rows], .bool b]))) else kOpt (EVf (EV cfg) 247 [AV.int .i64 (IntKind.wrap 
  .i64 (a * b))]) fun (v : AV) => kTup v fun (cs : List AV) => kCons cs fun (c : AV) (cs : List AV) => kAgg c fun (cs_1 : List AV) => kCons cs_1 fun (c : AV) (cs_2 : List AV) => kInt 
  .i64 c fun (n : Int) => kCons cs_2 fun (c : AV) (cs_3 : List AV) => kInt .i64 c fun (n_1 : Int) => kCons cs_3 fun (c : AV) (cs_4 : List AV) => kStr c fun (s : List UInt8) => kCons cs_4 
  fun (c : AV) (cs_5 : List AV) => kSl c fun (rows : List (List AV)) => kNil cs_5 (kCons cs fun (c : AV) (cs : List AV) => kBool c fun (b : Bool) => kNil cs (some (AV.tup [.agg [AV.int 
  .i64 n, .int .i64 n_1, .str s, .sl rows], .bool b]))) else kOpt (EVf (EV cfg) 247 [AV.int .i64 (IntKind.wrap .i64 (a * b))]) fun (v : AV) => kTup v fun (cs : List AV) => kCons cs fun 
  (c : AV) (cs : List AV) => kAgg c fun (cs_1 : List AV) => kCons cs_1 fun (c : AV) (cs_2 : List AV) => kInt .i64 c fun (n : Int) => kCons cs_2 fun (c : AV) (cs_3 : List AV) => kInt .i64 
  c fun (n_1 : Int) => kCons cs_3 fun (c : AV) (cs_4 : List AV) => kStr c fun (s : List UInt8) => kCons cs_4 fun (c : AV) (cs_5 : List AV) => kSl c fun (rows : List (List AV)) => kNil 
  cs_5 (kCons cs fun (c : AV) (cs : List AV) => kBool c fun (b : Bool) => kNil cs (some (AV.tup [.agg [AV.int .i64 n, .int .i64 n_1, .str s, .sl rows], .bool b]))) else bif decide (a < 
  (0 : Int)) then bif decide (b > (0 : Int)) then kOpt (fromSem (Op.intDiv BinOp.quo .i64 (-576460752303423488 : Int) b)) fun (v : AV) => kInt .i64 v fun (n : Int) => bif decide (a < 
  n) then some (AV.tup [.agg [AV.int .i64 (0 : Int), .int .i64 (0 : Int), .str [], .sl []], .bool false]) else kOpt (EVf (EV cfg) 247 [AV.int .i64 (IntKind.wrap .i64 (a * b))]) fun (v : AV) 
  => kTup v fun (cs : List AV) => kCons cs fun (c : AV) (cs : List AV) => kAgg c fun (cs_1 : List AV) => kCons cs_1 fun (c : AV) (cs_2 : List AV) => kInt .i64 c fun (n : Int) => kCons 
  cs_2 fun (c : AV) (cs_3 : List AV) => kInt .i64 c fun (n_1 : Int) => kCons cs_3 fun (c : AV) (cs_4 : List AV) => kStr c fun (s : List UInt8) => kCons cs_4 fun (c : AV) (cs_5 : List 
  AV) => kSl c fun (rows : List (List AV)) => kNil cs_5 (kCons cs fun (c : AV) (cs : List AV) => kBool c fun (b : Bool) => kNil cs (some (AV.tup [.agg [AV.int .i64 n, .int .i64 n_1, .str 
  s, .sl rows], .bool b]))) else kOpt (EVf (EV cfg) 247 [AV.int .i64 (IntKind.wrap .i64 (a * b))]) fun (v : AV) => kTup v fun (cs : List AV) => kCons cs fun (c : AV) (cs : List AV) => kAgg 
  c fun (cs_1 : List AV) => kCons cs_1 fun (c : AV) (cs_2 : List AV) => kInt .i64 c fun (n : Int) => kCons cs_2 fun (c : AV) (cs_3 : List AV) => kInt .i64 c fun (n_1 : Int) => kCons cs_3 
  fun (c : AV) (cs_4 : List AV) => kStr c fun (s : List UInt8) => kCons cs_4 fun (c : AV) (cs_5 : List AV) => kSl c fun (rows : List (List AV)) => kNil cs_5 (kCons cs fun (c : AV) (cs 
  : List AV) => kBool c fun (b : Bool) => kNil cs (some (AV.tup [.agg [AV.int .i64 n, .int .i64 n_1, .str s, .sl rows], .bool b]))) else kOpt (EVf (EV cfg) 247 [AV.int .i64 (IntKind.wrap 
  .i64 (a * b))]) fun (v : AV) => kTup v fun (cs : List AV) => kCons cs fun (c : AV) (cs : List AV) => kAgg c fun (cs_1 : List AV) => kCons cs_1 fun (c : AV) (cs_2 : List AV) => kInt 
  .i64 c fun (n : Int) => kCons cs_2 fun (c : AV) (cs_3 : List AV) => kInt .i64 c fun (n_1 : Int) => kCons cs_3 fun (c : AV) (cs_4 : List AV) => kStr c fun (s : List UInt8) => kCons cs_4 
  fun (c : AV) (cs_5 : List AV) => kSl c fun (rows : List (List AV)) => kNil cs_5 (kCons cs fun (c : AV) (cs : List AV) => kBool c fun (b : Bool) => kNil cs (some (AV.tup [.agg [AV.int 
  .i64 n, .int .i64 n_1, .str s, .sl rows], .bool b]))) else bif decide (a < (0 : Int)) then bif decide (b > (0 : Int)) then kOpt (fromSem (Op.intDiv BinOp.quo .i64 (-576460752303423488 
  : Int) b)) fun (v : AV) => kInt .i64 v fun (n : Int) => bif decide (a < n) then some (AV.tup [.agg [AV.int .i64 (0 : Int), .int .i64 (0 : Int), .str [], .sl []], .bool false]) else kOpt 
  (EVf (EV cfg) 247 [AV.int .i64 (IntKind.wrap .i64 (a * b))]) fun (v : AV) => kTup v fun (cs : List AV) => kCons cs fun (c : AV) (cs : List AV) => kAgg c fun (cs_1 : List AV) => kCons 
  cs_1 fun (c : AV) (cs_2 : List AV) => kInt .i64 c fun (n : Int) => kCons cs_2 fun (c : AV) (cs_3 : List AV) => kInt .i64 c fun (n_1 : Int) => kCons cs_3 fun (c : AV) (cs_4 : List AV) 
  => kStr c fun (s : List UInt8) => kCons cs_4 fun (c : AV) (cs_5 : List AV) => kSl c fun (rows : List (List AV)) => kNil cs_5 (kCons cs fun (c : AV) (cs : List AV) => kBool c fun (b 
  : Bool) => kNil cs (some (AV.tup [.agg [AV.int .i64 n, .int .i64 n_1, .str s, .sl rows], .bool b]))) else kOpt (EVf (EV cfg) 247 [AV.int .i64 (IntKind.wrap .i64 (a * b))]) fun (v : AV) 
  => kTup v fun (cs : List AV) => kCons cs fun (c : AV) (cs : List AV) => kAgg c fun (cs_1 : List AV) => kCons cs_1 fun (c : AV) (cs_2 : List AV) => kInt .i64 c fun (n : Int) => kCons 
  cs_2 fun (c : AV) (cs_3 : List AV) => kInt .i64 c fun (n_1 : Int) => kCons cs_3 fun (c : AV) (cs_4 : List AV) => kStr c fun (s : List UInt8) => kCons cs_4 fun (c : AV) (cs_5 : List 
  AV) => kSl c fun (rows : List (List AV)) => kNil cs_5 (kCons cs fun (c : AV) (cs : List AV) => kBool c fun (b : Bool) => kNil cs (some (AV.tup [.agg [AV.int .i64 n, .int .i64 n_1, .str 
  s, .sl rows], .bool b]))) else kOpt (EVf (EV cfg) 247 [AV.int .i64 (IntKind.wrap .i64 (a * b))]) fun (v : AV) => kTup v fun (cs : List AV) => kCons cs fun (c : AV) (cs : List AV) => kAgg 
  c fun (cs_1 : List AV) => kCons cs_1 fun (c : AV) (cs_2 : List AV) => kInt .i64 c fun (n : Int) => kCons cs_2 fun (c : AV) (cs_3 : List AV) => kInt .i64 c fun (n_1 : Int) => kCons cs_3 
  fun (c : AV) (cs_4 : List AV) => kStr c fun (s : List UInt8) => kCons cs_4 fun (c : AV) (cs_5 : List AV) => kSl c fun (rows : List (List AV)) => kNil cs_5 (kCons cs fun (c : AV) (cs 
  : List AV) => kBool c fun (b : Bool) => kNil cs (some (AV.tup [.agg [AV.int .i64 n, .int .i64 n_1, .str s, .sl rows], .bool b]))) else bif decide (a > (0 : Int)) then bif decide (b < 
  (0 : Int)) then kOpt (fromSem (Op.intDiv BinOp.quo .i64 (-576460752303423488 : Int) a)) fun (v : AV) => kInt .i64 v fun (n : Int) => bif decide (b < n) then some (AV.tup [.agg [AV.int 
  .i64 (0 : Int), .int .i64 (0 : Int), .str [], .sl []], .bool false]) else bif decide (a < (0 : Int)) then bif decide (b > (0 : Int)) then kOpt (fromSem (Op.intDiv BinOp.quo .i64 (-576460752303423488 
  : Int) b)) fun (v : AV) => kInt .i64 v fun (n : Int) => bif decide (a < n) then some (AV.tup [.agg [AV.int .i64 (0 : Int), .int .i64 (0 : Int), .str [], .sl []], .bool false]) else kOpt 
  (EVf (EV cfg) 247 [AV.int .i64 (IntKind.wrap .i64 (a * b))]) fun (v : AV) => kTup v fun (cs : List AV) => kCons cs fun (c : AV) (cs : List AV) => kAgg c fun (cs_1 : List AV) => kCons 
  cs_1 fun (c : AV) (cs_2 : List AV) => kInt .i64 c fun (n : Int) => kCons cs_2 fun (c : AV) (cs_3 : List AV) => kInt .i64 c fun (n_1 : Int) => kCons cs_3 fun (c : AV) (cs_4 : List AV) 
  => kStr c fun (s : List UInt8) => kCons cs_4 fun (c : AV) (cs_5 : List AV) => kSl c fun (rows : List (List AV)) => kNil cs_5 (kCons cs fun (c : AV) (cs : List AV) => kBool c fun (b 
  : Bool) => kNil cs (some (AV.tup [.agg [AV.int .i64 n, .int .i64 n_1, .str s, .sl rows], .bool b]))) else kOpt (EVf (EV cfg) 247 [AV.int .i64 (IntKind.wrap .i64 (a * b))]) fun (v : AV) 
  => kTup v fun (cs : List AV) => kCons cs fun (c : AV) (cs : List AV) => kAgg c fun (cs_1 : List AV) => kCons cs_1 fun (c : AV) (cs_2 : List AV) => kInt .i64 c fun (n : Int) => kCons 
  cs_2 fun (c : AV) (cs_3 : List AV) => kInt .i64 c fun (n_1 : Int) => kCons cs_3 fun (c : AV) (cs_4 : List AV) => kStr c fun (s : List UInt8) => kCons cs_4 fun (c : AV) (cs_5 : List 
  AV) => kSl c fun (rows : List (List AV)) => kNil cs_5 (kCons cs fun (c : AV) (cs : List AV) => kBool c fun (b : Bool) => kNil cs (some (AV.tup [.agg [AV.int .i64 n, .int .i64 n_1, .str 
  s, .sl rows], .bool b]))) else kOpt (EVf (EV cfg) 247 [AV.int .i64 (IntKind.wrap .i64 (a * b))]) fun (v : AV) => kTup v fun (cs : List AV) => kCons cs fun (c : AV) (cs : List AV) => kAgg 
  c fun (cs_1 : List AV) => kCons cs_1 fun (c : AV) (cs_2 : List AV) => kInt .i64 c fun (n : Int) => kCons cs_2 fun (c : AV) (cs_3 : List AV) => kInt .i64 c fun (n_1 : Int) => kCons cs_3 
  fun (c : AV) (cs_4 : List AV) => kStr c fun (s : List UInt8) => kCons cs_4 fun (c : AV) (cs_5 : List AV) => kSl c fun (rows : List (List AV)) => kNil cs_5 (kCons cs fun (c : AV) (cs 
  : List AV) => kBool c fun (b : Bool) => kNil cs (some (AV.tup [.agg [AV.int .i64 n, .int .i64 n_1, .str s, .sl rows], .bool b]))) else bif decide (a < (0 : Int)) then bif decide (b > 
  (0 : Int)) then kOpt (fromSem (Op.intDiv BinOp.quo .i64 (-576460752303423488 : Int) b)) fun (v : AV) => kInt .i64 v fun (n : Int) => bif decide (a < n) then some (AV.tup [.agg [AV.int 
  .i64 (0 : Int), .int .i64 (0 : Int), .str [], .sl []], .bool false]) else kOpt (EVf (EV cfg) 247 [AV.int .i64 (IntKind.wrap .i64 (a * b))]) fun (v : AV) => kTup v fun (cs : List AV) => 
  kCons cs fun (c : AV) (cs : List AV) => kAgg c fun (cs_1 : List AV) => kCons cs_1 fun (c : AV) (cs_2 : List AV) => kInt .i64 c fun (n : Int) => kCons cs_2 fun (c : AV) (cs_3 : List 
  AV) => kInt .i64 c fun (n_1 : Int) => kCons cs_3 fun (c : AV) (cs_4 : List AV) => kStr c fun (s : List UInt8) => kCons cs_4 fun (c : AV) (cs_5 : List AV) => kSl c fun (rows : List (List 
  AV)) => kNil cs_5 (kCons cs fun (c : AV) (cs : List AV) => kBool c fun (b : Bool) => kNil cs (some (AV.tup [.agg [AV.int .i64 n, .int .i64 n_1, .str s, .sl rows], .bool b]))) else kOpt 
  (EVf (EV cfg) 247 [AV.int .i64 (IntKind.wrap .i64 (a * b))]) fun (v : AV) => kTup v fun (cs : List AV) => kCons cs fun (c : AV) (cs : List AV) => kAgg c fun (cs_1 : List AV) => kCons 
  cs_1 fun (c : AV) (cs_2 : List AV) => kInt .i64 c fun (n : Int) => kCons cs_2 fun (c : AV) (cs_3 : List AV) => kInt .i64 c fun (n_1 : Int) => kCons cs_3 fun (c : AV) (cs_4 : List AV) 
  => kStr c fun (s : List UInt8) => kCons cs_4 fun (c : AV) (cs_5 : List AV) => kSl c fun (rows : List (List AV)) => kNil cs_5 (kCons cs fun (c : AV) (cs : List AV) => kBool c fun (b 
  : Bool) => kNil cs (some (AV.tup [.agg [AV.int .i64 n, .int .i64 n_1, .str s, .sl rows], .bool b]))) else kOpt (EVf (EV cfg) 247 [AV.int .i64 (IntKind.wrap .i64 (a * b))]) fun (v : AV) 
  => kTup v fun (cs : List AV) => kCons cs fun (c : AV) (cs : List AV) => kAgg c fun (cs_1 : List AV) => kCons cs_1 fun (c : AV) (cs_2 : List AV) => kInt .i64 c fun (n : Int) => kCons 
  cs_2 fun (c : AV) (cs_3 : List AV) => kInt .i64 c fun (n_1 : Int) => kCons cs_3 fun (c : AV) (cs_4 : List AV) => kStr c fun (s : List UInt8) => kCons cs_4 fun (c : AV) (cs_5 : List 
  AV) => kSl c fun (rows : List (List AV)) => kNil cs_5 (kCons cs fun (c : AV) (cs : List AV) => kBool c fun (b : Bool) => kNil cs (some (AV.tup [.agg [AV.int .i64 n, .int .i64 n_1, .str 
  s, .sl rows], .bool b]))) else bif decide (a < (0 : Int)) then bif decide (b > (0 : Int)) then kOpt (fromSem (Op.intDiv BinOp.quo .i64 (-576460752303423488 : Int) b)) fun (v : AV) => 
  kInt .i64 v fun (n : Int) => bif decide (a < n) then some (AV.tup [.agg [AV.int .i64 (0 : Int), .int .i64 (0 : Int), .str [], .sl []], .bool false]) else kOpt (EVf (EV cfg) 247 [AV.int 
  .i64 (IntKind.wrap .i64 (a * b))]) fun (v : AV) => kTup v fun (cs : List AV) => kCons cs fun (c : AV) (cs : List AV) => kAgg c fun (cs_1 : List AV) => kCons cs_1 fun (c : AV) (cs_2 
  : List AV) => kInt .i64 c fun (n : Int) => kCons cs_2 fun (c : AV) (cs_3 : List AV) => kInt .i64 c fun (n_1 : Int) => kCons cs_3 fun (c : AV) (cs_4 : List AV) => kStr c fun (s : List 
  UInt8) => kCons cs_4 fun (c : AV) (cs_5 : List AV) => kSl c fun (rows : List (List AV)) => kNil cs_5 (kCons cs fun (c : AV) (cs : List AV) => kBool c fun (b : Bool) => kNil cs (some 
  (AV.tup [.agg [AV.int .i64 n, .int .i64 n_1, .str s, .sl rows], .bool b]))) else kOpt (EVf (EV cfg) 247 [AV.int .i64 (IntKind.wrap .i64 (a * b))]) fun (v : AV) => kTup v fun (cs : List 
  AV) => kCons cs fun (c : AV) (cs : List AV) => kAgg c fun (cs_1 : List AV) => kCons cs_1 fun (c : AV) (cs_2 : List AV) => kInt .i64 c fun (n : Int) => kCons cs_2 fun (c : AV) (cs_3 
  : List AV) => kInt .i64 c fun (n_1 : Int) => kCons cs_3 fun (c : AV) (cs_4 : List AV) => kStr c fun (s : List UInt8) => kCons cs_4 fun (c : AV) (cs_5 : List AV) => kSl c fun (rows : 
  List (List AV)) => kNil cs_5 (kCons cs fun (c : AV) (cs : List AV) => kBool c fun (b : Bool) => kNil cs (some (AV.tup [.agg [AV.int .i64 n, .int .i64 n_1, .str s, .sl rows], .bool b]))) 
  else kOpt (EVf (EV cfg) 247 [AV.int .i64 (IntKind.wrap .i64 (a * b))]) fun (v : AV) => kTup v fun (cs : List AV) => kCons cs fun (c : AV) (cs : List AV) => kAgg c fun (cs_1 : List AV) 
  => kCons cs_1 fun (c : AV) (cs_2 : List AV) => kInt .i64 c fun (n : Int) => kCons cs_2 fun (c : AV) (cs_3 : List AV) => kInt .i64 c fun (n_1 : Int) => kCons cs_3 fun (c : AV) (cs_4 
  : List AV) => kStr c fun (s : List UInt8) => kCons cs_4 fun (c : AV) (cs_5 : List AV) => kSl c fun (rows : List (List AV)) => kNil cs_5 (kCons cs fun (c : AV) (cs : List AV) => kBool 
  c fun (b : Bool) => kNil cs (some (AV.tup [.agg [AV.int .i64 n, .int .i64 n_1, .str s, .sl rows], .bool b]))) else bif decide (a > (0 : Int)) then bif decide (b < (0 : Int)) then kOpt 
  (fromSem (Op.intDiv BinOp.quo .i64 (-576460752303423488 : Int) a)) fun (v : AV) => kInt .i64 v fun (n : Int) => bif decide (b < n) then some (AV.tup [.agg [AV.int .i64 (0 : Int), .int 
  .i64 (0 : Int), .str [], .sl []], .bool false]) else bif decide (a < (0 : Int)) then bif decide (b > (0 : Int)) then kOpt (fromSem (Op.intDiv BinOp.quo .i64 (-576460752303423488 : Int) 
  b)) fun (v : AV) => kInt .i64 v fun (n : Int) => bif decide (a < n) then some (AV.tup [.agg [AV.int .i64 (0 : Int), .int .i64 (0 : Int), .str [], .sl []], .bool false]) else kOpt (EVf 
  (EV cfg) 247 [AV.int .i64 (IntKind.wrap .i64 (a * b))]) fun (v : AV) => kTup v fun (cs : List AV) => kCons cs fun (c : AV) (cs : List AV) => kAgg c fun (cs_1 : List AV) => kCons cs_1 
  fun (c : AV) (cs_2 : List AV) => kInt .i64 c fun (n : Int) => kCons cs_2 fun (c : AV) (cs_3 : List AV) => kInt .i64 c fun (n_1 : Int) => kCons cs_3 fun (c : AV) (cs_4 : List AV) => 
  kStr c fun (s : List UInt8) => kCons cs_4 fun (c : AV) (cs_5 : List AV) => kSl c fun (rows : List (List AV)) => kNil cs_5 (kCons cs fun (c : AV) (cs : List AV) => kBool c fun (b : Bool) 
  => kNil cs (some (AV.tup [.agg [AV.int .i64 n, .int .i64 n_1, .str s, .sl rows], .bool b]))) else kOpt (EVf (EV cfg) 247 [AV.int .i64 (IntKind.wrap .i64 (a * b))]) fun (v : AV) => kTup 
  v fun (cs : List AV) => kCons cs fun (c : AV) (cs : List AV) => kAgg c fun (cs_1 : List AV) => kCons cs_1 fun (c : AV) (cs_2 : List AV) => kInt .i64 c fun (n : Int) => kCons cs_2 fun 
  (c : AV) (cs_3 : List AV) => kInt .i64 c fun (n_1 : Int) => kCons cs_3 fun (c : AV) (cs_4 : List AV) => kStr c fun (s : List UInt8) => kCons cs_4 fun (c : AV) (cs_5 : List AV) => kSl 
  c fun (rows : List (List AV)) => kNil cs_5 (kCons cs fun (c : AV) (cs : List AV) => kBool c fun (b : Bool) => kNil cs (some (AV.tup [.agg [AV.int .i64 n, .int .i64 n_1, .str s, .sl rows], 
  .bool b]))) else kOpt (EVf (EV cfg) 247 [AV.int .i64 (IntKind.wrap .i64 (a * b))]) fun (v : AV) => kTup v fun (cs : List AV) => kCons cs fun (c : AV) (cs : List AV) => kAgg c fun (cs_1 
  : List AV) => kCons cs_1 fun (c : AV) (cs_2 : List AV) => kInt .i64 c fun (n : Int) => kCons cs_2 fun (c : AV) (cs_3 : List AV) => kInt .i64 c fun (n_1 : Int) => kCons cs_3 fun (c : 
  AV) (cs_4 : List AV) => kStr c fun (s : List UInt8) => kCons cs_4 fun (c : AV) (cs_5 : List AV) => kSl c fun (rows : List (List AV)) => kNil cs_5 (kCons cs fun (c : AV) (cs : List AV) 
  => kBool c fun (b : Bool) => kNil cs (some (AV.tup [.agg [AV.int .i64 n, .int .i64 n_1, .str s, .sl rows], .bool b]))) else bif decide (a < (0 : Int)) then bif decide (b > (0 : Int)) 
  then kOpt (fromSem (Op.intDiv BinOp.quo .i64 (-576460752303423488 : Int) b)) fun (v : AV) => kInt .i64 v fun (n : Int) => bif decide (a < n) then some (AV.tup [.agg [AV.int .i64 (0 : 
  Int), .int .i64 (0 : Int), .str [], .sl []], .bool false]) else kOpt (EVf (EV cfg) 247 [AV.int .i64 (IntKind.wrap .i64 (a * b))]) fun (v : AV) => kTup v fun (cs : List AV) => kCons cs 
  fun (c : AV) (cs : List AV) => kAgg c fun (cs_1 : List AV) => kCons cs_1 fun (c : AV) (cs_2 : List AV) => kInt .i64 c fun (n : Int) => kCons cs_2 fun (c : AV) (cs_3 : List AV) => kInt 
  .i64 c fun (n_1 : Int) => kCons cs_3 fun (c : AV) (cs_4 : List AV) => kStr c fun (s : List UInt8) => kCons cs_4 fun (c : AV) (cs_5 : List AV) => kSl c fun (rows : List (List AV)) => 
  kNil cs_5 (kCons cs fun (c : AV) (cs : List AV) => kBool c fun (b : Bool) => kNil cs (some (AV.tup [.agg [AV.int .i64 n, .int .i64 n_1, .str s, .sl rows], .bool b]))) else kOpt (EVf (EV 
  cfg) 247 [AV.int .i64 (IntKind.wrap .i64 (a * b))]) fun (v : AV) => kTup v fun (cs : List AV) => kCons cs fun (c : AV) (cs : List AV) => kAgg c fun (cs_1 : List AV) => kCons cs_1 fun 
  (c : AV) (cs_2 : List AV) => kInt .i64 c fun (n : Int) => kCons cs_2 fun (c : AV) (cs_3 : List AV) => kInt .i64 c fun (n_1 : Int) => kCons cs_3 fun (c : AV) (cs_4 : List AV) => kStr 
  c fun (s : List UInt8) => kCons cs_4 fun (c : AV) (cs_5 : List AV) => kSl c fun (rows : List (List AV)) => kNil cs_5 (kCons cs fun (c : AV) (cs : List AV) => kBool c fun (b : Bool) 
  => kNil cs (some (AV.tup [.agg [AV.int .i64 n, .int .i64 n_1, .str s, .sl rows], .bool b]))) else kOpt (EVf (EV cfg) 247 [AV.int .i64 (IntKind.wrap .i64 (a * b))]) fun (v : AV) => kTup 
  v fun (cs : List AV) => kCons cs fun (c : AV) (cs : List AV) => kAgg c fun (cs_1 : List AV) => kCons cs_1 fun (c : AV) (cs_2 : List AV) => kInt .i64 c fun (n : Int) => kCons cs_2 fun 
  (c : AV) (cs_3 : List AV) => kInt .i64 c fun (n_1 : Int) => kCons cs_3 fun (c : AV) (cs_4 : List AV) => kStr c fun (s : List UInt8) => kCons cs_4 fun (c : AV) (cs_5 : List AV) => kSl 
  c fun (rows : List (List AV)) => kNil cs_5 (kCons cs fun (c : AV) (cs : List AV) => kBool c fun (b : Bool) => kNil cs (some (AV.tup [.agg [AV.int .i64 n, .int .i64 n_1, .str s, .sl rows], 
  .bool b]))) else bif decide (a < (0 : Int)) then bif decide (b > (0 : Int)) then kOpt (fromSem (Op.intDiv BinOp.quo .i64 (-576460752303423488 : Int) b)) fun (v : AV) => kInt .i64 v 
  fun (n : Int) => bif decide (a < n) then some (AV.tup [.agg [AV.int .i64 (0 : Int), .int .i64 (0 : Int), .str [], .sl []], .bool false]) else kOpt (EVf (EV cfg) 247 [AV.int .i64 (IntKind.wrap 
  .i64 (a * b))]) fun (v : AV) => kTup v fun (cs : List AV) => kCons cs fun (c : AV) (cs : List AV) => kAgg c fun (cs_1 : List AV) => kCons cs_1 fun (c : AV) (cs_2 : List AV) => kInt 
  .i64 c fun (n : Int) => kCons cs_2 fun (c : AV) (cs_3 : List AV) => kInt .i64 c fun (n_1 : Int) => kCons cs_3 fun (c : AV) (cs_4 : List AV) => kStr c fun (s : List UInt8) => kCons cs_4 
  fun (c : AV) (cs_5 : List AV) => kSl c fun (rows : List (List AV)) => kNil cs_5 (kCons cs fun (c : AV) (cs : List AV) => kBool c fun (b : Bool) => kNil cs (some (AV.tup [.agg [AV.int 
  .i64 n, .int .i64 n_1, .str s, .sl rows], .bool b]))) else kOpt (EVf (EV cfg) 247 [AV.int .i64 (IntKind.wrap .i64 (a * b))]) fun (v : AV) => kTup v fun (cs : List AV) => kCons cs fun 
  (c : AV) (cs : List AV) => kAgg c fun (cs_1 : List AV) => kCons cs_1 fun (c : AV) (cs_2 : List AV) => kInt .i64 c fun (n : Int) => kCons cs_2 fun (c : AV) (cs_3 : List AV) => kInt .i64 
  c fun (n_1 : Int) => kCons cs_3 fun (c : AV) (cs_4 : List AV) => kStr c fun (s : List UInt8) => kCons cs_4 fun (c : AV) (cs_5 : List AV) => kSl c fun (rows : List (List AV)) => kNil 
  cs_5 (kCons cs fun (c : AV) (cs : List AV) => kBool c fun (b : Bool) => kNil cs (some (AV.tup [.agg [AV.int .i64 n, .int .i64 n_1, .str s, .sl rows], .bool b]))) else kOpt (EVf (EV cfg) 
  247 [AV.int .i64 (IntKind.wrap .i64 (a * b))]) fun (v : AV) => kTup v fun (cs : List AV) => kCons cs fun (c : AV) (cs : List AV) => kAgg c fun (cs_1 : List AV) => kCons cs_1 fun (c : 
  AV) (cs_2 : List AV) => kInt .i64 c fun (n : Int) => kCons cs_2 fun (c : AV) (cs_3 : List AV) => kInt .i64 c fun (n_1 : Int) => kCons cs_3 fun (c : AV) (cs_4 : List AV) => kStr c fun 
  (s : List UInt8) => kCons cs_4 fun (c : AV) (cs_5 : List AV) => kSl c fun (rows : List (List AV)) => kNil cs_5 (kCons cs fun (c : AV) (cs : List AV) => kBool c fun (b : Bool) => kNil 
  cs (some (AV.tup [.agg [AV.int .i64 n, .int .i64 n_1, .str s, .sl rows], .bool b]))) else bif decide (a < (0 : Int)) then bif decide (b < (0 : Int)) then kOpt (fromSem (Op.intDiv BinOp.quo 
  .i64 (576460752303423487 : Int) b)) fun (v : AV) => kInt .i64 v fun (n : Int) => bif decide (a < n) then some (AV.tup [.agg [AV.int .i64 (0 : Int), .int .i64 (0 : Int), .str [], .sl []], 
  .bool false]) else bif decide (a > (0 : Int)) then bif decide (b < (0 : Int)) then kOpt (fromSem (Op.intDiv BinOp.quo .i64 (-576460752303423488 : Int) a)) fun (v : AV) => kInt .i64 
  v fun (n : Int) => bif decide (b < n) then some (AV.tup [.agg [AV.int .i64 (0 : Int), .int .i64 (0 : Int), .str [], .sl []], .bool false]) else bif decide (a < (0 : Int)) then bif decide 
  (b > (0 : Int)) then kOpt (fromSem (Op.intDiv BinOp.quo .i64 (-576460752303423488 : Int) b)) fun (v : AV) => kInt .i64 v fun (n : Int) => bif decide (a < n) then some (AV.tup [.agg 
  [AV.int .i64 (0 : Int), .int .i64 (0 : Int), .str [], .sl []], .bool false]) else kOpt (EVf (EV cfg) 247 [AV.int .i64 (IntKind.wrap .i64 (a * b))]) fun (v : AV) => kTup v fun (cs : List 
  AV) => kCons cs fun (c : AV) (cs : List AV) => kAgg c fun (cs_1 : List AV) => kCons cs_1 fun (c : AV) (cs_2 : List AV) => kInt .i64 c fun (n : Int) => kCons cs_2 fun (c : AV) (cs_3 
  : List AV) => kInt .i64 c fun (n_1 : Int) => kCons cs_3 fun (c : AV) (cs_4 : List AV) => kStr c fun (s : List UInt8) => kCons cs_4 fun (c : AV) (cs_5 : List AV) => kSl c fun (rows : 
  List (List AV)) => kNil cs_5 (kCons cs fun (c : AV) (cs : List AV) => kBool c fun (b : Bool) => kNil cs (some (AV.tup [.agg [AV.int .i64 n, .int .i64 n_1, .str s, .sl rows], .bool b]))) 
  else kOpt (EVf (EV cfg) 247 [AV.int .i64 (IntKind.wrap .i64 (a * b))]) fun (v : AV) => kTup v fun (cs : List AV) => kCons cs fun (c : AV) (cs : List AV) => kAgg c fun (cs_1 : List AV) 
  => kCons cs_1 fun (c : AV) (cs_2 : List AV) => kInt .i64 c fun (n : Int) => kCons cs_2 fun (c : AV) (cs_3 : List AV) => kInt .i64 c fun (n_1 : Int) => kCons cs_3 fun (c : AV) (cs_4 
  : List AV) => kStr c fun (s : List UInt8) => kCons cs_4 fun (c : AV) (cs_5 : List AV) => kSl c fun (rows : List (List AV)) => kNil cs_5 (kCons cs fun (c : AV) (cs : List AV) => kBool 
  c fun (b : Bool) => kNil cs (some (AV.tup [.agg [AV.int .i64 n, .int .i64 n_1, .str s, .sl rows], .bool b]))) else kOpt (EVf (EV cfg) 247 [AV.int .i64 (IntKind.wrap .i64 (a * b))]) fun 
  (v : AV) => kTup v fun (cs : List AV) => kCons cs fun (c : AV) (cs : List AV) => kAgg c fun (cs_1 : List AV) => kCons cs_1 fun (c : AV) (cs_2 : List AV) => kInt .i64 c fun (n : Int) 
  => kCons cs_2 fun (c : AV) (cs_3 : List AV) => kInt .i64 c fun (n_1 : Int) => kCons cs_3 fun (c : AV) (cs_4 : List AV) => kStr c fun (s : List UInt8) => kCons cs_4 fun (c : AV) (cs_5 
  : List AV) => kSl c fun (rows : List (List AV)) => kNil cs_5 (kCons cs fun (c : AV) (cs : List AV) => kBool c fun (b : Bool) => kNil cs (some (AV.tup [.agg [AV.int .i64 n, .int .i64 n_1, 
  .str s, .sl rows], .bool b]))) else bif decide (a < (0 : Int)) then bif decide (b > (0 : Int)) then kOpt (fromSem (Op.intDiv BinOp.quo .i64 (-576460752303423488 : Int) b)) fun (v : 
  AV) => kInt .i64 v fun (n : Int) => bif decide (a < n) then some (AV.tup [.agg [AV.int .i64 (0 : Int), .int .i64 (0 : Int), .str [], .sl []], .bool false]) else kOpt (EVf (EV cfg) 247 
  [AV.int .i64 (IntKind.wrap .i64 (a * b))]) fun (v : AV) => kTup v fun (cs : List AV) => kCons cs fun (c : AV) (cs : List AV) => kAgg c fun (cs_1 : List AV) => kCons cs_1 fun (c : AV) 
  (cs_2 : List AV) => kInt .i64 c fun (n : Int) => kCons cs_2 fun (c : AV) (cs_3 : List AV) => kInt .i64 c fun (n_1 : Int) => kCons cs_3 fun (c : AV) (cs_4 : List AV) => kStr c fun (s 
  : List UInt8) => kCons cs_4 fun (c : AV) (cs_5 : List AV) => kSl c fun (rows : List (List AV)) => kNil cs_5 (kCons cs fun (c : AV) (cs : List AV) => kBool c fun (b : Bool) => kNil cs 
  (some (AV.tup [.agg [AV.int .i64 n, .int .i64 n_1, .str s, .sl rows], .bool b]))) else kOpt (EVf (EV cfg) 247 [AV.int .i64 (IntKind.wrap .i64 (a * b))]) fun (v : AV) => kTup v fun (cs : 
  List AV) => kCons cs fun (c : AV) (cs : List AV) => kAgg c fun (cs_1 : List AV) => kCons cs_1 fun (c : AV) (cs_2 : List AV) => kInt .i64 c fun (n : Int) => kCons cs_2 fun (c : AV) (cs_3 
  : List AV) => kInt .i64 c fun (n_1 : Int) => kCons cs_3 fun (c : AV) (cs_4 : List AV) => kStr c fun (s : List UInt8) => kCons cs_4 fun (c : AV) (cs_5 : List AV) => kSl c fun (rows : 
  List (List AV)) => kNil cs_5 (kCons cs fun (c : AV) (cs : List AV) => kBool c fun (b : Bool) => kNil cs (some (AV.tup [.agg [AV.int .i64 n, .int .i64 n_1, .str s, .sl rows], .bool b]))) 
  else kOpt (EVf (EV cfg) 247 [AV.int .i64 (IntKind.wrap .i64 (a * b))]) fun (v : AV) => kTup v fun (cs : List AV) => kCons cs fun (c : AV) (cs : List AV) => kAgg c fun (cs_1 : List AV) 
  => kCons cs_1 fun (c : AV) (cs_2 : List AV) => kInt .i64 c fun (n : Int) => kCons cs_2 fun (c : AV) (cs_3 : List AV) => kInt .i64 c fun (n_1 : Int) => kCons cs_3 fun (c : AV) (cs_4 
  : List AV) => kStr c fun (s : List UInt8) => kCons cs_4 fun (c : AV) (cs_5 : List AV) => kSl c fun (rows : List (List AV)) => kNil cs_5 (kCons cs fun (c : AV) (cs : List AV) => kBool 
  c fun (b : Bool) => kNil cs (some (AV.tup [.agg [AV.int .i64 n, .int .i64 n_1, .str s, .sl rows], .bool b]))) else bif decide (a < (0 : Int)) then bif decide (b > (0 : Int)) then kOpt 
  (fromSem (Op.intDiv BinOp.quo .i64 (-576460752303423488 : Int) b)) fun (v : AV) => kInt .i64 v fun (n : Int) => bif decide (a < n) then some (AV.tup [.agg [AV.int .i64 (0 : Int), .int 
  .i64 (0 : Int), .str [], .sl []], .bool false]) else kOpt (EVf (EV cfg) 247 [AV.int .i64 (IntKind.wrap .i64 (a * b))]) fun (v : AV) => kTup v fun (cs : List AV) => kCons cs fun (c : AV) 
  (cs : List AV) => kAgg c fun (cs_1 : List AV) => kCons cs_1 fun (c : AV) (cs_2 : List AV) => kInt .i64 c fun (n : Int) => kCons cs_2 fun (c : AV) (cs_3 : List AV) => kInt .i64 c fun 
  (n_1 : Int) => kCons cs_3 fun (c : AV) (cs_4 : List AV) => kStr c fun (s : List UInt8) => kCons cs_4 fun (c : AV) (cs_5 : List AV) => kSl c fun (rows : List (List AV)) => kNil cs_5 
  (kCons cs fun (c : AV) (cs : List AV) => kBool c fun (b : Bool) => kNil cs (some (AV.tup [.agg [AV.int .i64 n, .int .i64 n_1, .str s, .sl rows], .bool b]))) else kOpt (EVf (EV cfg) 247 
  [AV.int .i64 (IntKind.wrap .i64 (a * b))]) fun (v : AV) => kTup v fun (cs : List AV) => kCons cs fun (c : AV) (cs : List AV) => kAgg c fun (cs_1 : List AV) => kCons cs_1 fun (c : AV) 
  (cs_2 : List AV) => kInt .i64 c fun (n : Int) => kCons cs_2 fun (c : AV) (cs_3 : List AV) => kInt .i64 c fun (n_1 : Int) => kCons cs_3 fun (c : AV) (cs_4 : List AV) => kStr c fun (s 
  : List UInt8) => kCons cs_4 fun (c : AV) (cs_5 : List AV) => kSl c fun (rows : List (List AV)) => kNil cs_5 (kCons cs fun (c : AV) (cs : List AV) => kBool c fun (b : Bool) => kNil cs 
  (some (AV.tup [.agg [AV.int .i64 n, .int .i64 n_1, .str s, .sl rows], .bool b]))) else kOpt (EVf (EV cfg) 247 [AV.int .i64 (IntKind.wrap .i64 (a * b))]) fun (v : AV) => kTup v fun (cs : 
  List AV) => kCons cs fun (c : AV) (cs : List AV) => kAgg c fun (cs_1 : List AV) => kCons cs_1 fun (c : AV) (cs_2 : List AV) => kInt .i64 c fun (n : Int) => kCons cs_2 fun (c : AV) (cs_3 
  : List AV) => kInt .i64 c fun (n_1 : Int) => kCons cs_3 fun (c : AV) (cs_4 : List AV) => kStr c fun (s : List UInt8) => kCons cs_4 fun (c : AV) (cs_5 : List AV) => kSl c fun (rows : 
  List (List AV)) => kNil cs_5 (kCons cs fun (c : AV) (cs : List AV) => kBool c fun (b : Bool) => kNil cs (some (AV.tup [.agg [AV.int .i64 n, .int .i64 n_1, .str s, .sl rows], .bool b]))) 
  else bif decide (a > (0 : Int)) then bif decide (b < (0 : Int)) then kOpt (fromSem (Op.intDiv BinOp.quo .i64 (-576460752303423488 : Int) a)) fun (v : AV) => kInt .i64 v fun (n : Int) 
  => bif decide (b < n) then some (AV.tup [.agg [AV.int .i64 (0 : Int), .int .i64 (0 : Int), .str [], .sl []], .bool false]) else bif decide (a < (0 : Int)) then bif decide (b > (0 : Int)) 
  then kOpt (fromSem (Op.intDiv BinOp.quo .i64 (-576460752303423488 : Int) b)) fun (v : AV) => kInt .i64 v fun (n : Int) => bif decide (a < n) then some (AV.tup [.agg [AV.int .i64 (0 : 
  Int), .int .i64 (0 : Int), .str [], .sl []], .bool false]) else kOpt (EVf (EV cfg) 247 [AV.int .i64 (IntKind.wrap .i64 (a * b))]) fun (v : AV) => kTup v fun (cs : List AV) => kCons cs 
  fun (c : AV) (cs : List AV) => kAgg c fun (cs_1 : List AV) => kCons cs_1 fun (c : AV) (cs_2 : List AV) => kInt .i64 c fun (n : Int) => kCons cs_2 fun (c : AV) (cs_3 : List AV) => kInt 
  .i64 c fun (n_1 : Int) => kCons cs_3 fun (c : AV) (cs_4 : List AV) => kStr c fun (s : List UInt8) => kCons cs_4 fun (c : AV) (cs_5 : List AV) => kSl c fun (rows : List (List AV)) => 
  kNil cs_5 (kCons cs fun (c : AV) (cs : List AV) => kBool c fun (b : Bool) => kNil cs (some (AV.tup [.agg [AV.int .i64 n, .int .i64 n_1, .str s, .sl rows], .bool b]))) else kOpt (EVf (EV 
  cfg) 247 [AV.int .i64 (IntKind.wrap .i64 (a * b))]) fun (v : AV) => kTup v fun (cs : List AV) => kCons cs fun (c : AV) (cs : List AV) => kAgg c fun (cs_1 : List AV) => kCons cs_1 fun 
  (c : AV) (cs_2 : List AV) => kInt .i64 c fun (n : Int) => kCons cs_2 fun (c : AV) (cs_3 : List AV) => kInt .i64 c fun (n_1 : Int) => kCons cs_3 fun (c : AV) (cs_4 : List AV) => kStr 
  c fun (s : List UInt8) => kCons cs_4 fun (c : AV) (cs_5 : List AV) => kSl c fun (rows : List (List AV)) => kNil cs_5 (kCons cs fun (c : AV) (cs : List AV) => kBool c fun (b : Bool) 
  => kNil cs (some (AV.tup [.agg [AV.int .i64 n, .int .i64 n_1, .str s, .sl rows], .bool b]))) else kOpt (EVf (EV cfg) 247 [AV.int .i64 (IntKind.wrap .i64 (a * b))]) fun (v : AV) => kTup 
  v fun (cs : List AV) => kCons cs fun (c : AV) (cs : List AV) => kAgg c fun (cs_1 : List AV) => kCons cs_1 fun (c : AV) (cs_2 : List AV) => kInt .i64 c fun (n : Int) => kCons cs_2 fun 
  (c : AV) (cs_3 : List AV) => kInt .i64 c fun (n_1 : Int) => kCons cs_3 fun (c : AV) (cs_4 : List AV) => kStr c fun (s : List UInt8) => kCons cs_4 fun (c : AV) (cs_5 : List AV) => kSl 
  c fun (rows : List (List AV)) => kNil cs_5 (kCons cs fun (c : AV) (cs : List AV) => kBool c fun (b : Bool) => kNil cs (some (AV.tup [.agg [AV.int .i64 n, .int .i64 n_1, .str s, .sl rows], 
  .bool b]))) else bif decide (a < (0 : Int)) then bif decide (b > (0 : Int)) then kOpt (fromSem (Op.intDiv BinOp.quo .i64 (-576460752303423488 : Int) b)) fun (v : AV) => kInt .i64 v 
  fun (n : Int) => bif decide (a < n) then some (AV.tup [.agg [AV.int .i64 (0 : Int), .int .i64 (0 : Int), .str [], .sl []], .bool false]) else kOpt (EVf (EV cfg) 247 [AV.int .i64 (IntKind.wrap 
  .i64 (a * b))]) fun (v : AV) => kTup v fun (cs : List AV) => kCons cs fun (c : AV) (cs : List AV) => kAgg c fun (cs_1 : List AV) => kCons cs_1 fun (c : AV) (cs_2 : List AV) => kInt 
  .i64 c fun (n : Int) => kCons cs_2 fun (c : AV) (cs_3 : List AV) => kInt .i64 c fun (n_1 : Int) => kCons cs_3 fun (c : AV) (cs_4 : List AV) => kStr c fun (s : List UInt8) => kCons cs_4 
  fun (c : AV) (cs_5 : List AV) => kSl c fun (rows : List (List AV)) => kNil cs_5 (kCons cs fun (c : AV) (cs : List AV) => kBool c fun (b : Bool) => kNil cs (some (AV.tup [.agg [AV.int 
  .i64 n, .int .i64 n_1, .str s, .sl rows], .bool b]))) else kOpt (EVf (EV cfg) 247 [AV.int .i64 (IntKind.wrap .i64 (a * b))]) fun (v : AV) => kTup v fun (cs : List AV) => kCons cs fun 
  (c : AV) (cs : List AV) => kAgg c fun (cs_1 : List AV) => kCons cs_1 fun (c : AV) (cs_2 : List AV) => kInt .i64 c fun (n : Int) => kCons cs_2 fun (c : AV) (cs_3 : List AV) => kInt .i64 
  c fun (n_1 : Int) => kCons cs_3 fun (c : AV) (cs_4 : List AV) => kStr c fun (s : List UInt8) => kCons cs_4 fun (c : AV) (cs_5 : List AV) => kSl c fun (rows : List (List AV)) => kNil 
  cs_5 (kCons cs fun (c : AV) (cs : List AV) => kBool c fun (b : Bool) => kNil cs (some (AV.tup [.agg [AV.int .i64 n, .int .i64 n_1, .str s, .sl rows], .bool b]))) else kOpt (EVf (EV cfg) 
  247 [AV.int .i64 (IntKind.wrap .i64 (a * b))]) fun (v : AV) => kTup v fun (cs : List AV) => kCons cs fun (c : AV) (cs : List AV) => kAgg c fun (cs_1 : List AV) => kCons cs_1 fun (c : 
  AV) (cs_2 : List AV) => kInt .i64 c fun (n : Int) => kCons cs_2 fun (c : AV) (cs_3 : List AV) => kInt .i64 c fun (n_1 : Int) => kCons cs_3 fun (c : AV) (cs_4 : List AV) => kStr c fun 
  (s : List UInt8) => kCons cs_4 fun (c : AV) (cs_5 : List AV) => kSl c fun (rows : List (List AV)) => kNil cs_5 (kCons cs fun (c : AV) (cs : List AV) => kBool c fun (b : Bool) => kNil 
  cs (some (AV.tup [.agg [AV.int .i64 n, .int .i64 n_1, .str s, .sl rows], .bool b]))) else bif decide (a < (0 : Int)) then bif decide (b > (0 : Int)) then kOpt (fromSem (Op.intDiv BinOp.quo 
  .i64 (-576460752303423488 : Int) b)) fun (v : AV) => kInt .i64 v fun (n : Int) => bif decide (a < n) then some (AV.tup [.agg [AV.int .i64 (0 : Int), .int .i64 (0 : Int), .str [], .sl 
  []], .bool false]) else kOpt (EVf (EV cfg) 247 [AV.int .i64 (IntKind.wrap .i64 (a * b))]) fun (v : AV) => kTup v fun (cs : List AV) => kCons cs fun (c : AV) (cs : List AV) => kAgg c fun 
  (cs_1 : List AV) => kCons cs_1 fun (c : AV) (cs_2 : List AV) => kInt .i64 c fun (n : Int) => kCons cs_2 fun (c : AV) (cs_3 : List AV) => kInt .i64 c fun (n_1 : Int) => kCons cs_3 fun 
  (c : AV) (cs_4 : List AV) => kStr c fun (s : List UInt8) => kCons cs_4 fun (c : AV) (cs_5 : List AV) => kSl c fun (rows : List (List AV)) => kNil cs_5 (kCons cs fun (c : AV) (cs : List 
  AV) => kBool c fun (b : Bool) => kNil cs (some (AV.tup [.agg [AV.int .i64 n, .int .i64 n_1, .str s, .sl rows], .bool b]))) else kOpt (EVf (EV cfg) 247 [AV.int .i64 (IntKind.wrap .i64 (a 
  * b))]) fun (v : AV) => kTup v fun (cs : List AV) => kCons cs fun (c : AV) (cs : List AV) => kAgg c fun (cs_1 : List AV) => kCons cs_1 fun (c : AV) (cs_2 : List AV) => kInt .i64 c fun 
  (n : Int) => kCons cs_2 fun (c : AV) (cs_3 : List AV) => kInt .i64 c fun (n_1 : Int) => kCons cs_3 fun (c : AV) (cs_4 : List AV) => kStr c fun (s : List UInt8) => kCons cs_4 fun (c 
  : AV) (cs_5 : List AV) => kSl c fun (rows : List (List AV)) => kNil cs_5 (kCons cs fun (c : AV) (cs : List AV) => kBool c fun (b : Bool) => kNil cs (some (AV.tup [.agg [AV.int .i64 n, 
  .int .i64 n_1, .str s, .sl rows], .bool b]))) else kOpt (EVf (EV cfg) 247 [AV.int .i64 (IntKind.wrap .i64 (a * b))]) fun (v : AV) => kTup v fun (cs : List AV) => kCons cs fun (c : AV) 
  (cs : List AV) => kAgg c fun (cs_1 : List AV) => kCons cs_1 fun (c : AV) (cs_2 : List AV) => kInt .i64 c fun (n : Int) => kCons cs_2 fun (c : AV) (cs_3 : List AV) => kInt .i64 c fun 
  (n_1 : Int) => kCons cs_3 fun (c : AV) (cs_4 : List AV) => kStr c fun (s : List UInt8) => kCons cs_4 fun (c : AV) (cs_5 : List AV) => kSl c fun (rows : List (List AV)) => kNil cs_5 
  (kCons cs fun (c : AV) (cs : List AV) => kBool c fun (b : Bool) => kNil cs (some (AV.tup [.agg [AV.int .i64 n, .int .i64 n_1, .str s, .sl rows], .bool b]))) else bif decide (a > (0 : 
  Int)) then bif decide (b < (0 : Int)) then kOpt (fromSem (Op.intDiv BinOp.quo .i64 (-576460752303423488 : Int) a)) fun (v : AV) => kInt .i64 v fun (n : Int) => bif decide (b < n) then 
  some (AV.tup [.agg [AV.int .i64 (0 : Int), .int .i64 (0 : Int), .str [], .sl []], .bool false]) else bif decide (a < (0 : Int)) then bif decide (b > (0 : Int)) then kOpt (fromSem (Op.intDiv 
  BinOp.quo .i64 (-576460752303423488 : Int) b)) fun (v : AV) => kInt .i64 v fun (n : Int) => bif decide (a < n) then some (AV.tup [.agg [AV.int .i64 (0 : Int), .int .i64 (0 : Int), .str 
  [], .sl []], .bool false]) else kOpt (EVf (EV cfg) 247 [AV.int .i64 (IntKind.wrap .i64 (a * b))]) fun (v : AV) => kTup v fun (cs : List AV) => kCons cs fun (c : AV) (cs : List AV) => 
  kAgg c fun (cs_1 : List AV) => kCons cs_1 fun (c : AV) (cs_2 : List AV) => kInt .i64 c fun (n : Int) => kCons cs_2 fun (c : AV) (cs_3 : List AV) => kInt .i64 c fun (n_1 : Int) => kCons 
  cs_3 fun (c : AV) (cs_4 : List AV) => kStr c fun (s : List UInt8) => kCons cs_4 fun (c : AV) (cs_5 : List AV) => kSl c fun (rows : List (List AV)) => kNil cs_5 (kCons cs fun (c : AV) 
  (cs : List AV) => kBool c fun (b : Bool) => kNil cs (some (AV.tup [.agg [AV.int .i64 n, .int .i64 n_1, .str s, .sl rows], .bool b]))) else kOpt (EVf (EV cfg) 247 [AV.int .i64 (IntKind.wrap 
  .i64 (a * b))]) fun (v : AV) => kTup v fun (cs : List AV) => kCons cs fun (c : AV) (cs : List AV) => kAgg c fun (cs_1 : List AV) => kCons cs_1 fun (c : AV) (cs_2 : List AV) => kInt 
  .i64 c fun (n : Int) => kCons cs_2 fun (c : AV) (cs_3 : List AV) => kInt .i64 c fun (n_1 : Int) => kCons cs_3 fun (c : AV) (cs_4 : List AV) => kStr c fun (s : List UInt8) => kCons cs_4 
  fun (c : AV) (cs_5 : List AV) => kSl c fun (rows : List (List AV)) => kNil cs_5 (kCons cs fun (c : AV) (cs : List AV) => kBool c fun (b : Bool) => kNil cs (some (AV.tup [.agg [AV.int 
  .i64 n, .int .i64 n_1, .str s, .sl rows], .bool b]))) else kOpt (EVf (EV cfg) 247 [AV.int .i64 (IntKind.wrap .i64 (a * b))]) fun (v : AV) => kTup v fun (cs : List AV) => kCons cs fun 
  (c : AV) (cs : List AV) => kAgg c fun (cs_1 : List AV) => kCons cs_1 fun (c : AV) (cs_2 : List AV) => kInt .i64 c fun (n : Int) => kCons cs_2 fun (c : AV) (cs_3 : List AV) => kInt .i64 
  c fun (n_1 : Int) => kCons cs_3 fun (c : AV) (cs_4 : List AV) => kStr c fun (s : List UInt8) => kCons cs_4 fun (c : AV) (cs_5 : List AV) => kSl c fun (rows : List (List AV)) => kNil 
  cs_5 (kCons cs fun (c : AV) (cs : List AV) => kBool c fun (b : Bool) => kNil cs (some (AV.tup [.agg [AV.int .i64 n, .int .i64 n_1, .str s, .sl rows], .bool b]))) else bif decide (a < 
  (0 : Int)) then bif decide (b > (0 : Int)) then kOpt (fromSem (Op.intDiv BinOp.quo .i64 (-576460752303423488 : Int) b)) fun (v : AV) => kInt .i64 v fun (n : Int) => bif decide (a < 
  n) then some (AV.tup [.agg [AV.int .i64 (0 : Int), .int .i64 (0 : Int), .str [], .sl []], .bool false]) else kOpt (EVf (EV cfg) 247 [AV.int .i64 (IntKind.wrap .i64 (a * b))]) fun (v : AV) 
  => kTup v fun (cs : List AV) => kCons cs fun (c : AV) (cs : List AV) => kAgg c fun (cs_1 : List AV) => kCons cs_1 fun (c : AV) (cs_2 : List AV) => kInt .i64 c fun (n : Int) => kCons 
  cs_2 fun (c : AV) (cs_3 : List AV) => kInt .i64 c fun (n_1 : Int) => kCons cs_3 fun (c : AV) (cs_4 : List AV) => kStr c fun (s : List UInt8) => kCons cs_4 fun (c : AV) (cs_5 : List 
  AV) => kSl c fun (rows : List (List AV)) => kNil cs_5 (kCons cs fun (c : AV) (cs : List AV) => kBool c fun (b : Bool) => kNil cs (some (AV.tup [.agg [AV.int .i64 n, .int .i64 n_1, .str 
  s, .sl rows], .bool b]))) else kOpt (EVf (EV cfg) 247 [AV.int .i64 (IntKind.wrap .i64 (a * b))]) fun (v : AV) => kTup v fun (cs : List AV) => kCons cs fun (c : AV) (cs : List AV) => kAgg 
  c fun (cs_1 : List AV) => kCons cs_1 fun (c : AV) (cs_2 : List AV) => kInt .i64 c fun (n : Int) => kCons cs_2 fun (c : AV) (cs_3 : List AV) => kInt .i64 c fun (n_1 : Int) => kCons cs_3 
  fun (c : AV) (cs_4 : List AV) => kStr c fun (s : List UInt8) => kCons cs_4 fun (c : AV) (cs_5 : List AV) => kSl c fun (rows : List (List AV)) => kNil cs_5 (kCons cs fun (c : AV) (cs 
  : List AV) => kBool c fun (b : Bool) => kNil cs (some (AV.tup [.agg [AV.int .i64 n, .int .i64 n_1, .str s, .sl rows], .bool b]))) else kOpt (EVf (EV cfg) 247 [AV.int .i64 (IntKind.wrap 
  .i64 (a * b))]) fun (v : AV) => kTup v fun (cs : List AV) => kCons cs fun (c : AV) (cs : List AV) => kAgg c fun (cs_1 : List AV) => kCons cs_1 fun (c : AV) (cs_2 : List AV) => kInt 
  .i64 c fun (n : Int) => kCons cs_2 fun (c : AV) (cs_3 : List AV) => kInt .i64 c fun (n_1 : Int) => kCons cs_3 fun (c : AV) (cs_4 : List AV) => kStr c fun (s : List UInt8) => kCons cs_4 
  fun (c : AV) (cs_5 : List AV) => kSl c fun (rows : List (List AV)) => kNil cs_5 (kCons cs fun (c : AV) (cs : List AV) => kBool c fun (b : Bool) => kNil cs (some (AV.tup [.agg [AV.int 
  .i64 n, .int .i64 n_1, .str s, .sl rows], .bool b]))) else bif decide (a < (0 : Int)) then bif decide (b > (0 : Int)) then kOpt (fromSem (Op.intDiv BinOp.quo .i64 (-576460752303423488 
  : Int) b)) fun (v : AV) => kInt .i64 v fun (n : Int) => bif decide (a < n) then some (AV.tup [.agg [AV.int .i64 (0 : Int), .int .i64 (0 : Int), .str [], .sl []], .bool false]) else kOpt 
  (EVf (EV cfg) 247 [AV.int .i64 (IntKind.wrap .i64 (a * b))]) fun (v : AV) => kTup v fun (cs : List AV) => kCons cs fun (c : AV) (cs : List AV) => kAgg c fun (cs_1 : List AV) => kCons 
  cs_1 fun (c : AV) (cs_2 : List AV) => kInt .i64 c fun (n : Int) => kCons cs_2 fun (c : AV) (cs_3 : List AV) => kInt .i64 c fun (n_1 : Int) => kCons cs_3 fun (c : AV) (cs_4 : List AV) 
  => kStr c fun (s : List UInt8) => kCons cs_4 fun (c : AV) (cs_5 : List AV) => kSl c fun (rows : List (List AV)) => kNil cs_5 (kCons cs fun (c : AV) (cs : List AV) => kBool c fun (b 
  : Bool) => kNil cs (some (AV.tup [.agg [AV.int .i64 n, .int .i64 n_1, .str s, .sl rows], .bool b]))) else kOpt (EVf (EV cfg) 247 [AV.int .i64 (IntKind.wrap .i64 (a * b))]) fun (v : AV) 
  => kTup v fun (cs : List AV) => kCons cs fun (c : AV) (cs : List AV) => kAgg c fun (cs_1 : List AV) => kCons cs_1 fun (c : AV) (cs_2 : List AV) => kInt .i64 c fun (n : Int) => kCons 
  cs_2 fun (c : AV) (cs_3 : List AV) => kInt .i64 c fun (n_1 : Int) => kCons cs_3 fun (c : AV) (cs_4 : List AV) => kStr c fun (s : List UInt8) => kCons cs_4 fun (c : AV) (cs_5 : List 
  AV) => kSl c fun (rows : List (List AV)) => kNil cs_5 (kCons cs fun (c : AV) (cs : List AV) => kBool c fun (b : Bool) => kNil cs (some (AV.tup [.agg [AV.int .i64 n, .int .i64 n_1, .str 
  s, .sl rows], .bool b]))) else kOpt (EVf (EV cfg) 247 [AV.int .i64 (IntKind.wrap .i64 (a * b))]) fun (v : AV) => kTup v fun (cs : List AV) => kCons cs fun (c : AV) (cs : List AV) => kAgg 
  c fun (cs_1 : List AV) => kCons cs_1 fun (c : AV) (cs_2 : List AV) => kInt .i64 c fun (n : Int) => kCons cs_2 fun (c : AV) (cs_3 : List AV) => kInt .i64 c fun (n_1 : Int) => kCons cs_3 
  fun (c : AV) (cs_4 : List AV) => kStr c fun (s : List UInt8) => kCons cs_4 fun (c : AV) (cs_5 : List AV) => kSl c fun (rows : List (List AV)) => kNil cs_5 (kCons cs fun (c : AV) (cs 
  : List AV) => kBool c fun (b : Bool) => kNil cs (some (AV.tup [.agg [AV.int .i64 n, .int .i64 n_1, .str s, .sl rows], .bool b])))) P) : Gets (EVf (EV cfg) 296 ([AV.int IntKind.i64 a, AV.int IntKind.i64 b] : List AV)) P :=
  Gets.ev (fun _ h => funF rfl rfl Tryz.func296 rfl h) (Gets.eq (by kernel_rfl) h)
theorem r17Kinds_run (op : List UInt8) (kt : Int) (nt : Int) (st : List UInt8) (lt : List (List AV)) {P : AV → Prop} (h : Gets (bif op == [(105 : UInt8), (115 : UInt8), (95 : UInt8), (97 : UInt8), (116 : UInt8), (111 : UInt8), (109 : UInt8)] then some (.bool (kt == (2 : Int))) else bif op == [(105 : UInt8), 
  (115 : UInt8), (95 : UInt8), (105 : UInt8), (110 : UInt8), (116 : UInt8), (101 : UInt8), (103 : UInt8), (101 : UInt8), (114 : UInt8)] then some (.bool (kt == (1 : Int))) else bif op 
  == [(105 : UInt8), (115 : UInt8), (95 : UInt8), (108 : UInt8), (105 : UInt8), (115 : UInt8), (116 : UInt8)] then bif kt == (9 : Int) then some (.bool true) else some (.bool (kt == (8 
  : Int))) else bif op == [(105 : UInt8), (115 : UInt8), (95 : UInt8), (116 : UInt8), (117 : UInt8), (112 : UInt8), (108 : UInt8), (101 : UInt8)] then some (.bool (kt == (7 : Int))) else 
  bif op == [(105 : UInt8), (115 : UInt8), (95 : UInt8), (112 : UInt8), (105 : UInt8), (100 : UInt8)] then some (.bool (kt == (6 : Int))) else bif op == [(105 : UInt8), (115 : UInt8), 
  (95 : UInt8), (102 : UInt8), (117 : UInt8), (110 : UInt8), (99 : UInt8), (116 : UInt8), (105 : UInt8), (111 : UInt8), (110 : UInt8)] then some (.bool (kt == (5 : Int))) else bif kt 
  == (3 : Int) then some (.bool true) else some (.bool (kt == (4 : Int)))) P) : Gets (EVs (EV cfg) 248 ([AV.str op, AV.agg [AV.int IntKind.i64 kt, AV.int IntKind.i64 nt, AV.str st, AV.sl lt]] : List AV)) P :=
  Gets.ev (fun _ h => funS rfl rfl Tryz.func248 rfl h) (Gets.eq (by kernel_rfl) h)
theorem r17Length_run (kt : Int) (nt : Int) (st : List UInt8) (lt : List (List AV)) {P : AV → Prop} (h : Gets (wy99_0 (0 : Int) kt nt st lt) P) : Gets (EVs (EV cfg) 246 ([AV.agg [AV.int IntKind.i64 kt, AV.int IntKind.i64 nt, AV.str st, AV.sl lt]] : List AV)) P :=
  Gets.ev (fun _ h => funS rfl rfl Tryz.func246 rfl h) (Gets.eq (by kernel_rfl) h)
theorem r17One_run (op : List UInt8) (kt : Int) (nt : Int) (st : List UInt8) (lt : List (List AV)) {P : AV → Prop} (h : Gets (bif op == [(110 : UInt8), (111 : UInt8), (116 : UInt8)] then kOpt (EVs (EV cfg) 237 [.agg [AV.int .i64 kt, .int .i64 nt, .str st, .sl lt]]) fun (v : AV) => kTup v fun (cs : List AV) => 
  kCons cs fun (c : AV) (cs : List AV) => kBool c fun (b : Bool) => kCons cs fun (c : AV) (cs : List AV) => kBool c fun (b_1 : Bool) => kNil cs (kOpt (EVf (EV cfg) 245 [.bool !b]) fun 
  (v : AV) => kTmV v fun (n n_1 : Int) (s : List UInt8) (rows : List (List AV)) => (some (AV.tup [.agg [AV.int .i64 n, .int .i64 n_1, .str s, .sl rows], .bool b_1]))) else bif op == [(116 
  : UInt8), (117 : UInt8), (112 : UInt8), (108 : UInt8), (101 : UInt8), (95 : UInt8), (115 : UInt8), (105 : UInt8), (122 : UInt8), (101 : UInt8)] then some (AV.tup [.agg [AV.int .i64 (1 
  : Int), .int .i64 (↑(List.length lt) : Int), .str [], .sl []], .bool (kt == (7 : Int))]) else bif op == [(115 : UInt8), (105 : UInt8), (122 : UInt8), (101 : UInt8)] then some (AV.tup 
  [.agg [AV.int .i64 (1 : Int), .int .i64 (↑(List.length lt) : Int), .str [], .sl []], .bool (kt == (7 : Int))]) else bif op == [(104 : UInt8), (100 : UInt8)] then bif kt != (9 : Int) then 
  some (AV.tup [.agg [AV.int .i64 (0 : Int), .int .i64 (0 : Int), .str [], .sl []], .bool false]) else bif op == [(104 : UInt8), (100 : UInt8)] then bif ltInt (0 : Int) (↑(List.length lt) 
  : Int) then kOpt (List.get?Internal lt 0) fun (row : List AV) => bif Nat.beq (List.length row) 4 then bif Nat.ble 4 (List.length row) then kTmC (List.take 4 row) fun (n n_1 : Int) (s 
  : List UInt8) (rows : List (List AV)) => (some (AV.tup [.agg [AV.int .i64 n, .int .i64 n_1, .str s, .sl rows], .bool true])) else none else none else none else bif ltInt (1 : Int) (↑(List.length 
  lt) : Int) then kOpt (List.get?Internal lt 1) fun (row : List AV) => bif Nat.beq (List.length row) 4 then bif Nat.ble 4 (List.length row) then kTmC (List.take 4 row) fun (n n_1 : Int) 
  (s : List UInt8) (rows : List (List AV)) => (some (AV.tup [.agg [AV.int .i64 n, .int .i64 n_1, .str s, .sl rows], .bool true])) else none else none else none else bif op == [(116 : UInt8), 
  (108 : UInt8)] then bif kt != (9 : Int) then some (AV.tup [.agg [AV.int .i64 (0 : Int), .int .i64 (0 : Int), .str [], .sl []], .bool false]) else bif op == [(104 : UInt8), (100 : UInt8)] 
  then bif ltInt (0 : Int) (↑(List.length lt) : Int) then kOpt (List.get?Internal lt 0) fun (row : List AV) => bif Nat.beq (List.length row) 4 then bif Nat.ble 4 (List.length row) then 
  kTmC (List.take 4 row) fun (n n_1 : Int) (s : List UInt8) (rows : List (List AV)) => (some (AV.tup [.agg [AV.int .i64 n, .int .i64 n_1, .str s, .sl rows], .bool true])) else none else 
  none else none else bif ltInt (1 : Int) (↑(List.length lt) : Int) then kOpt (List.get?Internal lt 1) fun (row : List AV) => bif Nat.beq (List.length row) 4 then bif Nat.ble 4 (List.length 
  row) then kTmC (List.take 4 row) fun (n n_1 : Int) (s : List UInt8) (rows : List (List AV)) => (some (AV.tup [.agg [AV.int .i64 n, .int .i64 n_1, .str s, .sl rows], .bool true])) else 
  none else none else none else bif op == [(108 : UInt8), (101 : UInt8), (110 : UInt8), (103 : UInt8), (116 : UInt8), (104 : UInt8)] then kOpt (EVs (EV cfg) 246 [.agg [AV.int .i64 kt, .int 
  .i64 nt, .str st, .sl lt]]) fun (v : AV) => kTup v fun (cs : List AV) => kCons cs fun (c : AV) (cs : List AV) => kInt .i64 c fun (n : Int) => kCons cs fun (c : AV) (cs : List AV) => 
  kBool c fun (b : Bool) => kNil cs (some (AV.tup [.agg [AV.int .i64 (1 : Int), .int .i64 n, .str [], .sl []], .bool b])) else bif op == [(98 : UInt8), (110 : UInt8), (111 : UInt8), (116 
  : UInt8)] then bif kt != (1 : Int) then some (AV.tup [.agg [AV.int .i64 (0 : Int), .int .i64 (0 : Int), .str [], .sl []], .bool false]) else bif op == [(98 : UInt8), (110 : UInt8), (111 
  : UInt8), (116 : UInt8)] then kOpt (EVf (EV cfg) 247 [AV.int .i64 (IntKind.wrap .i64 ((-1 : Int) - nt))]) fun (v : AV) => kTup v fun (cs : List AV) => kCons cs fun (c : AV) (cs : List 
  AV) => kAgg c fun (cs_1 : List AV) => kCons cs_1 fun (c : AV) (cs_2 : List AV) => kInt .i64 c fun (n : Int) => kCons cs_2 fun (c : AV) (cs_3 : List AV) => kInt .i64 c fun (n_1 : Int) 
  => kCons cs_3 fun (c : AV) (cs_4 : List AV) => kStr c fun (s : List UInt8) => kCons cs_4 fun (c : AV) (cs_5 : List AV) => kSl c fun (rows : List (List AV)) => kNil cs_5 (kCons cs fun 
  (c : AV) (cs : List AV) => kBool c fun (b : Bool) => kNil cs (some (AV.tup [.agg [AV.int .i64 n, .int .i64 n_1, .str s, .sl rows], .bool b]))) else bif op == [(45 : UInt8)] then kOpt 
  (EVf (EV cfg) 247 [AV.int .i64 (IntKind.wrap .i64 ((0 : Int) - nt))]) fun (v : AV) => kTup v fun (cs : List AV) => kCons cs fun (c : AV) (cs : List AV) => kAgg c fun (cs_1 : List AV) 
  => kCons cs_1 fun (c : AV) (cs_2 : List AV) => kInt .i64 c fun (n : Int) => kCons cs_2 fun (c : AV) (cs_3 : List AV) => kInt .i64 c fun (n_1 : Int) => kCons cs_3 fun (c : AV) (cs_4 
  : List AV) => kStr c fun (s : List UInt8) => kCons cs_4 fun (c : AV) (cs_5 : List AV) => kSl c fun (rows : List (List AV)) => kNil cs_5 (kCons cs fun (c : AV) (cs : List AV) => kBool 
  c fun (b : Bool) => kNil cs (some (AV.tup [.agg [AV.int .i64 n, .int .i64 n_1, .str s, .sl rows], .bool b]))) else bif op == [(97 : UInt8), (98 : UInt8), (115 : UInt8)] then bif decide 
  (nt < (0 : Int)) then kOpt (EVf (EV cfg) 247 [AV.int .i64 (IntKind.wrap .i64 ((0 : Int) - nt))]) fun (v : AV) => kTup v fun (cs : List AV) => kCons cs fun (c : AV) (cs : List AV) => kAgg 
  c fun (cs_1 : List AV) => kCons cs_1 fun (c : AV) (cs_2 : List AV) => kInt .i64 c fun (n : Int) => kCons cs_2 fun (c : AV) (cs_3 : List AV) => kInt .i64 c fun (n_1 : Int) => kCons cs_3 
  fun (c : AV) (cs_4 : List AV) => kStr c fun (s : List UInt8) => kCons cs_4 fun (c : AV) (cs_5 : List AV) => kSl c fun (rows : List (List AV)) => kNil cs_5 (kCons cs fun (c : AV) (cs 
  : List AV) => kBool c fun (b : Bool) => kNil cs (some (AV.tup [.agg [AV.int .i64 n, .int .i64 n_1, .str s, .sl rows], .bool b]))) else some (AV.tup [.agg [AV.int .i64 kt, .int .i64 nt, 
  .str st, .sl lt], .bool true]) else some (AV.tup [.agg [AV.int .i64 kt, .int .i64 nt, .str st, .sl lt], .bool true]) else bif op == [(97 : UInt8), (98 : UInt8), (115 : UInt8)] then bif 
  kt != (1 : Int) then some (AV.tup [.agg [AV.int .i64 (0 : Int), .int .i64 (0 : Int), .str [], .sl []], .bool false]) else bif op == [(98 : UInt8), (110 : UInt8), (111 : UInt8), (116 : 
  UInt8)] then kOpt (EVf (EV cfg) 247 [AV.int .i64 (IntKind.wrap .i64 ((-1 : Int) - nt))]) fun (v : AV) => kTup v fun (cs : List AV) => kCons cs fun (c : AV) (cs : List AV) => kAgg c fun 
  (cs_1 : List AV) => kCons cs_1 fun (c : AV) (cs_2 : List AV) => kInt .i64 c fun (n : Int) => kCons cs_2 fun (c : AV) (cs_3 : List AV) => kInt .i64 c fun (n_1 : Int) => kCons cs_3 fun 
  (c : AV) (cs_4 : List AV) => kStr c fun (s : List UInt8) => kCons cs_4 fun (c : AV) (cs_5 : List AV) => kSl c fun (rows : List (List AV)) => kNil cs_5 (kCons cs fun (c : AV) (cs : List 
  AV) => kBool c fun (b : Bool) => kNil cs (some (AV.tup [.agg [AV.int .i64 n, .int .i64 n_1, .str s, .sl rows], .bool b]))) else bif op == [(45 : UInt8)] then kOpt (EVf (EV cfg) 247 [AV.int 
  .i64 (IntKind.wrap .i64 ((0 : Int) - nt))]) fun (v : AV) => kTup v fun (cs : List AV) => kCons cs fun (c : AV) (cs : List AV) => kAgg c fun (cs_1 : List AV) => kCons cs_1 fun (c : AV) 
  (cs_2 : List AV) => kInt .i64 c fun (n : Int) => kCons cs_2 fun (c : AV) (cs_3 : List AV) => kInt .i64 c fun (n_1 : Int) => kCons cs_3 fun (c : AV) (cs_4 : List AV) => kStr c fun (s 
  : List UInt8) => kCons cs_4 fun (c : AV) (cs_5 : List AV) => kSl c fun (rows : List (List AV)) => kNil cs_5 (kCons cs fun (c : AV) (cs : List AV) => kBool c fun (b : Bool) => kNil cs 
  (some (AV.tup [.agg [AV.int .i64 n, .int .i64 n_1, .str s, .sl rows], .bool b]))) else bif op == [(97 : UInt8), (98 : UInt8), (115 : UInt8)] then bif decide (nt < (0 : Int)) then kOpt 
  (EVf (EV cfg) 247 [AV.int .i64 (IntKind.wrap .i64 ((0 : Int) - nt))]) fun (v : AV) => kTup v fun (cs : List AV) => kCons cs fun (c : AV) (cs : List AV) => kAgg c fun (cs_1 : List AV) 
  => kCons cs_1 fun (c : AV) (cs_2 : List AV) => kInt .i64 c fun (n : Int) => kCons cs_2 fun (c : AV) (cs_3 : List AV) => kInt .i64 c fun (n_1 : Int) => kCons cs_3 fun (c : AV) (cs_4 
  : List AV) => kStr c fun (s : List UInt8) => kCons cs_4 fun (c : AV) (cs_5 : List AV) => kSl c fun (rows : List (List AV)) => kNil cs_5 (kCons cs fun (c : AV) (cs : List AV) => kBool 
  c fun (b : Bool) => kNil cs (some (AV.tup [.agg [AV.int .i64 n, .int .i64 n_1, .str s, .sl rows], .bool b]))) else some (AV.tup [.agg [AV.int .i64 kt, .int .i64 nt, .str st, .sl lt], .bool 
  true]) else some (AV.tup [.agg [AV.int .i64 kt, .int .i64 nt, .str st, .sl lt], .bool true]) else bif op == [(43 : UInt8)] then bif kt != (1 : Int) then some (AV.tup [.agg [AV.int .i64 
  (0 : Int), .int .i64 (0 : Int), .str [], .sl []], .bool false]) else bif op == [(98 : UInt8), (110 : UInt8), (111 : UInt8), (116 : UInt8)] then kOpt (EVf (EV cfg) 247 [AV.int .i64 (IntKind.wrap 
  .i64 ((-1 : Int) - nt))]) fun (v : AV) => kTup v fun (cs : List AV) => kCons cs fun (c : AV) (cs : List AV) => kAgg c fun (cs_1 : List AV) => kCons cs_1 fun (c : AV) (cs_2 : List AV) 
  => kInt .i64 c fun (n : Int) => kCons cs_2 fun (c : AV) (cs_3 : List AV) => kInt .i64 c fun (n_1 : Int) => kCons cs_3 fun (c : AV) (cs_4 : List AV) => kStr c fun (s : List UInt8) => 
  kCons cs_4 fun (c : AV) (cs_5 : List AV) => kSl c fun (rows : List (List AV)) => kNil cs_5 (kCons cs fun (c : AV) (cs : List AV) => kBool c fun (b : Bool) => kNil cs (some (AV.tup [.agg 
  [AV.int .i64 n, .int .i64 n_1, .str s, .sl rows], .bool b]))) else bif op == [(45 : UInt8)] then kOpt (EVf (EV cfg) 247 [AV.int .i64 (IntKind.wrap .i64 ((0 : Int) - nt))]) fun (v : AV) 
  => kTup v fun (cs : List AV) => kCons cs fun (c : AV) (cs : List AV) => kAgg c fun (cs_1 : List AV) => kCons cs_1 fun (c : AV) (cs_2 : List AV) => kInt .i64 c fun (n : Int) => kCons 
  cs_2 fun (c : AV) (cs_3 : List AV) => kInt .i64 c fun (n_1 : Int) => kCons cs_3 fun (c : AV) (cs_4 : List AV) => kStr c fun (s : List UInt8) => kCons cs_4 fun (c : AV) (cs_5 : List 
  AV) => kSl c fun (rows : List (List AV)) => kNil cs_5 (kCons cs fun (c : AV) (cs : List AV) => kBool c fun (b : Bool) => kNil cs (some (AV.tup [.agg [AV.int .i64 n, .int .i64 n_1, .str 
  s, .sl rows], .bool b]))) else bif op == [(97 : UInt8), (98 : UInt8), (115 : UInt8)] then bif decide (nt < (0 : Int)) then kOpt (EVf (EV cfg) 247 [AV.int .i64 (IntKind.wrap .i64 ((0 : 
  Int) - nt))]) fun (v : AV) => kTup v fun (cs : List AV) => kCons cs fun (c : AV) (cs : List AV) => kAgg c fun (cs_1 : List AV) => kCons cs_1 fun (c : AV) (cs_2 : List AV) => kInt .i64 
  c fun (n : Int) => kCons cs_2 fun (c : AV) (cs_3 : List AV) => kInt .i64 c fun (n_1 : Int) => kCons cs_3 fun (c : AV) (cs_4 : List AV) => kStr c fun (s : List UInt8) => kCons cs_4 fun 
  (c : AV) (cs_5 : List AV) => kSl c fun (rows : List (List AV)) => kNil cs_5 (kCons cs fun (c : AV) (cs : List AV) => kBool c fun (b : Bool) => kNil cs (some (AV.tup [.agg [AV.int .i64 
  n, .int .i64 n_1, .str s, .sl rows], .bool b]))) else some (AV.tup [.agg [AV.int .i64 kt, .int .i64 nt, .str st, .sl lt], .bool true]) else some (AV.tup [.agg [AV.int .i64 kt, .int .i64 
  nt, .str st, .sl lt], .bool true]) else bif op == [(45 : UInt8)] then bif kt != (1 : Int) then some (AV.tup [.agg [AV.int .i64 (0 : Int), .int .i64 (0 : Int), .str [], .sl []], .bool 
  false]) else bif op == [(98 : UInt8), (110 : UInt8), (111 : UInt8), (116 : UInt8)] then kOpt (EVf (EV cfg) 247 [AV.int .i64 (IntKind.wrap .i64 ((-1 : Int) - nt))]) fun (v : AV) => kTup 
  v fun (cs : List AV) => kCons cs fun (c : AV) (cs : List AV) => kAgg c fun (cs_1 : List AV) => kCons cs_1 fun (c : AV) (cs_2 : List AV) => kInt .i64 c fun (n : Int) => kCons cs_2 fun 
  (c : AV) (cs_3 : List AV) => kInt .i64 c fun (n_1 : Int) => kCons cs_3 fun (c : AV) (cs_4 : List AV) => kStr c fun (s : List UInt8) => kCons cs_4 fun (c : AV) (cs_5 : List AV) => kSl 
  c fun (rows : List (List AV)) => kNil cs_5 (kCons cs fun (c : AV) (cs : List AV) => kBool c fun (b : Bool) => kNil cs (some (AV.tup [.agg [AV.int .i64 n, .int .i64 n_1, .str s, .sl rows], 
  .bool b]))) else bif op == [(45 : UInt8)] then kOpt (EVf (EV cfg) 247 [AV.int .i64 (IntKind.wrap .i64 ((0 : Int) - nt))]) fun (v : AV) => kTup v fun (cs : List AV) => kCons cs fun (c 
  : AV) (cs : List AV) => kAgg c fun (cs_1 : List AV) => kCons cs_1 fun (c : AV) (cs_2 : List AV) => kInt .i64 c fun (n : Int) => kCons cs_2 fun (c : AV) (cs_3 : List AV) => kInt .i64 
  c fun (n_1 : Int) => kCons cs_3 fun (c : AV) (cs_4 : List AV) => kStr c fun (s : List UInt8) => kCons cs_4 fun (c : AV) (cs_5 : List AV) => kSl c fun (rows : List (List AV)) => kNil 
  cs_5 (kCons cs fun (c : AV) (cs : List AV) => kBool c fun (b : Bool) => kNil cs (some (AV.tup [.agg [AV.int .i64 n, .int .i64 n_1, .str s, .sl rows], .bool b]))) else bif op == [(97 : 
  UInt8), (98 : UInt8), (115 : UInt8)] then bif decide (nt < (0 : Int)) then kOpt (EVf (EV cfg) 247 [AV.int .i64 (IntKind.wrap .i64 ((0 : Int) - nt))]) fun (v : AV) => kTup v fun (cs : 
  List AV) => kCons cs fun (c : AV) (cs : List AV) => kAgg c fun (cs_1 : List AV) => kCons cs_1 fun (c : AV) (cs_2 : List AV) => kInt .i64 c fun (n : Int) => kCons cs_2 fun (c : AV) (cs_3 
  : List AV) => kInt .i64 c fun (n_1 : Int) => kCons cs_3 fun (c : AV) (cs_4 : List AV) => kStr c fun (s : List UInt8) => kCons cs_4 fun (c : AV) (cs_5 : List AV) => kSl c fun (rows : 
  List (List AV)) => kNil cs_5 (kCons cs fun (c : AV) (cs : List AV) => kBool c fun (b : Bool) => kNil cs (some (AV.tup [.agg [AV.int .i64 n, .int .i64 n_1, .str s, .sl rows], .bool b]))) 
  else some (AV.tup [.agg [AV.int .i64 kt, .int .i64 nt, .str st, .sl lt], .bool true]) else some (AV.tup [.agg [AV.int .i64 kt, .int .i64 nt, .str st, .sl lt], .bool true]) else kOpt (EVs 
  (EV cfg) 248 [.str op, .agg [AV.int .i64 kt, .int .i64 nt, .str st, .sl lt]]) fun (v : AV) => kBool v fun (b : Bool) => kOpt (EVf (EV cfg) 245 [.bool b]) fun (v : AV) => kTmV v fun (n 
  n_1 : Int) (s : List UInt8) (rows : List (List AV)) => (some (AV.tup [.agg [AV.int .i64 n, .int .i64 n_1, .str s, .sl rows], .bool true]))) P) : Gets (EVf (EV cfg) 177 ([AV.str op, AV.agg [AV.int IntKind.i64 kt, AV.int IntKind.i64 nt, AV.str st, AV.sl lt]] : List AV)) P :=
  Gets.ev (fun _ h => funF rfl rfl Tryz.func177 rfl h) (Gets.eq (by kernel_rfl) h)
theorem r17Compares_run (op : List UInt8) (c : Int) {P : AV → Prop} (h : Gets (bif op == [(61 : UInt8), (61 : UInt8)] then some (.bool (c == (0 : Int))) else bif op == [(61 : UInt8), (58 : UInt8), (61 : UInt8)] then some (.bool (c == (0 : Int))) else bif op == 
  [(47 : UInt8), (61 : UInt8)] then some (.bool (c != (0 : Int))) else bif op == [(61 : UInt8), (47 : UInt8), (61 : UInt8)] then some (.bool (c != (0 : Int))) else bif op == [(60 : UInt8)] 
  then some (.bool (decide (c < (0 : Int)))) else bif op == [(61 : UInt8), (60 : UInt8)] then some (.bool (decide (c ≤ (0 : Int)))) else bif op == [(62 : UInt8)] then some (.bool (decide 
  (c > (0 : Int)))) else some (.bool (decide (c ≥ (0 : Int))))) P) : Gets (EVs (EV cfg) 249 ([AV.str op, AV.int IntKind.i64 c] : List AV)) P :=
  Gets.ev (fun _ h => funS rfl rfl Tryz.func249 rfl h) (Gets.eq (by kernel_rfl) h)
theorem r17Bools_run (op : List UInt8) (a : Bool) (b : Bool) {P : AV → Prop} (h : Gets (bif op == [(97 : UInt8), (110 : UInt8), (100 : UInt8)] then bif a then some (.bool b) else some (.bool false) else bif op == [(97 : UInt8), (110 : UInt8), (100 : UInt8), (97 : UInt8), 
  (108 : UInt8), (115 : UInt8), (111 : UInt8)] then bif a then some (.bool b) else some (.bool false) else bif op == [(111 : UInt8), (114 : UInt8)] then bif a then some (.bool true) else 
  some (.bool b) else bif op == [(111 : UInt8), (114 : UInt8), (101 : UInt8), (108 : UInt8), (115 : UInt8), (101 : UInt8)] then bif a then some (.bool true) else some (.bool b) else some 
  (.bool !a == b)) P) : Gets (EVs (EV cfg) 250 ([AV.str op, AV.bool a, AV.bool b] : List AV)) P :=
  Gets.ev (fun _ h => funS rfl rfl Tryz.func250 rfl h) (Gets.eq (by kernel_rfl) h)
theorem r17Numbers_run (op : List UInt8) (a : Int) (b : Int) {P : AV → Prop} (h : Gets (bif op == [(43 : UInt8)] then kOpt (EVf (EV cfg) 247 [AV.int .i64 (IntKind.wrap .i64 (a + b))]) fun (v : AV) => kTup v fun (cs : List AV) => kCons cs fun (c : AV) (cs : List AV) => kAgg 
  c fun (cs_1 : List AV) => kCons cs_1 fun (c : AV) (cs_2 : List AV) => kInt .i64 c fun (n : Int) => kCons cs_2 fun (c : AV) (cs_3 : List AV) => kInt .i64 c fun (n_1 : Int) => kCons cs_3 
  fun (c : AV) (cs_4 : List AV) => kStr c fun (s : List UInt8) => kCons cs_4 fun (c : AV) (cs_5 : List AV) => kSl c fun (rows : List (List AV)) => kNil cs_5 (kCons cs fun (c : AV) (cs 
  : List AV) => kBool c fun (b : Bool) => kNil cs (some (AV.tup [.agg [AV.int .i64 n, .int .i64 n_1, .str s, .sl rows], .bool b]))) else bif op == [(45 : UInt8)] then kOpt (EVf (EV cfg) 
  247 [AV.int .i64 (IntKind.wrap .i64 (a - b))]) fun (v : AV) => kTup v fun (cs : List AV) => kCons cs fun (c : AV) (cs : List AV) => kAgg c fun (cs_1 : List AV) => kCons cs_1 fun (c : 
  AV) (cs_2 : List AV) => kInt .i64 c fun (n : Int) => kCons cs_2 fun (c : AV) (cs_3 : List AV) => kInt .i64 c fun (n_1 : Int) => kCons cs_3 fun (c : AV) (cs_4 : List AV) => kStr c fun 
  (s : List UInt8) => kCons cs_4 fun (c : AV) (cs_5 : List AV) => kSl c fun (rows : List (List AV)) => kNil cs_5 (kCons cs fun (c : AV) (cs : List AV) => kBool c fun (b : Bool) => kNil 
  cs (some (AV.tup [.agg [AV.int .i64 n, .int .i64 n_1, .str s, .sl rows], .bool b]))) else bif op == [(42 : UInt8)] then kOpt (EVf (EV cfg) 296 [AV.int .i64 a, .int .i64 b]) fun (v : AV) 
  => kTup v fun (cs : List AV) => kCons cs fun (c : AV) (cs : List AV) => kAgg c fun (cs_1 : List AV) => kCons cs_1 fun (c : AV) (cs_2 : List AV) => kInt .i64 c fun (n : Int) => kCons 
  cs_2 fun (c : AV) (cs_3 : List AV) => kInt .i64 c fun (n_1 : Int) => kCons cs_3 fun (c : AV) (cs_4 : List AV) => kStr c fun (s : List UInt8) => kCons cs_4 fun (c : AV) (cs_5 : List 
  AV) => kSl c fun (rows : List (List AV)) => kNil cs_5 (kCons cs fun (c : AV) (cs : List AV) => kBool c fun (b : Bool) => kNil cs (some (AV.tup [.agg [AV.int .i64 n, .int .i64 n_1, .str 
  s, .sl rows], .bool b]))) else bif op == [(100 : UInt8), (105 : UInt8), (118 : UInt8)] then bif b == (0 : Int) then some (AV.tup [.agg [AV.int .i64 (0 : Int), .int .i64 (0 : Int), .str 
  [], .sl []], .bool false]) else bif op == [(100 : UInt8), (105 : UInt8), (118 : UInt8)] then kOpt (fromSem (Op.intDiv BinOp.quo .i64 a b)) fun (v : AV) => kInt .i64 v fun (n : Int) 
  => kOpt (EVf (EV cfg) 247 [AV.int .i64 n]) fun (v : AV) => kTup v fun (cs : List AV) => kCons cs fun (c : AV) (cs : List AV) => kAgg c fun (cs_1 : List AV) => kCons cs_1 fun (c : AV) 
  (cs_2 : List AV) => kInt .i64 c fun (n : Int) => kCons cs_2 fun (c : AV) (cs_3 : List AV) => kInt .i64 c fun (n_1 : Int) => kCons cs_3 fun (c : AV) (cs_4 : List AV) => kStr c fun (s 
  : List UInt8) => kCons cs_4 fun (c : AV) (cs_5 : List AV) => kSl c fun (rows : List (List AV)) => kNil cs_5 (kCons cs fun (c : AV) (cs : List AV) => kBool c fun (b : Bool) => kNil cs 
  (some (AV.tup [.agg [AV.int .i64 n, .int .i64 n_1, .str s, .sl rows], .bool b]))) else kOpt (fromSem (Op.intDiv BinOp.rem .i64 a b)) fun (v : AV) => kInt .i64 v fun (n : Int) => kOpt 
  (EVf (EV cfg) 247 [AV.int .i64 n]) fun (v : AV) => kTup v fun (cs : List AV) => kCons cs fun (c : AV) (cs : List AV) => kAgg c fun (cs_1 : List AV) => kCons cs_1 fun (c : AV) (cs_2 : 
  List AV) => kInt .i64 c fun (n : Int) => kCons cs_2 fun (c : AV) (cs_3 : List AV) => kInt .i64 c fun (n_1 : Int) => kCons cs_3 fun (c : AV) (cs_4 : List AV) => kStr c fun (s : List 
  UInt8) => kCons cs_4 fun (c : AV) (cs_5 : List AV) => kSl c fun (rows : List (List AV)) => kNil cs_5 (kCons cs fun (c : AV) (cs : List AV) => kBool c fun (b : Bool) => kNil cs (some 
  (AV.tup [.agg [AV.int .i64 n, .int .i64 n_1, .str s, .sl rows], .bool b]))) else bif op == [(114 : UInt8), (101 : UInt8), (109 : UInt8)] then bif b == (0 : Int) then some (AV.tup [.agg 
  [AV.int .i64 (0 : Int), .int .i64 (0 : Int), .str [], .sl []], .bool false]) else bif op == [(100 : UInt8), (105 : UInt8), (118 : UInt8)] then kOpt (fromSem (Op.intDiv BinOp.quo .i64 
  a b)) fun (v : AV) => kInt .i64 v fun (n : Int) => kOpt (EVf (EV cfg) 247 [AV.int .i64 n]) fun (v : AV) => kTup v fun (cs : List AV) => kCons cs fun (c : AV) (cs : List AV) => kAgg c 
  fun (cs_1 : List AV) => kCons cs_1 fun (c : AV) (cs_2 : List AV) => kInt .i64 c fun (n : Int) => kCons cs_2 fun (c : AV) (cs_3 : List AV) => kInt .i64 c fun (n_1 : Int) => kCons cs_3 
  fun (c : AV) (cs_4 : List AV) => kStr c fun (s : List UInt8) => kCons cs_4 fun (c : AV) (cs_5 : List AV) => kSl c fun (rows : List (List AV)) => kNil cs_5 (kCons cs fun (c : AV) (cs 
  : List AV) => kBool c fun (b : Bool) => kNil cs (some (AV.tup [.agg [AV.int .i64 n, .int .i64 n_1, .str s, .sl rows], .bool b]))) else kOpt (fromSem (Op.intDiv BinOp.rem .i64 a b)) fun 
  (v : AV) => kInt .i64 v fun (n : Int) => kOpt (EVf (EV cfg) 247 [AV.int .i64 n]) fun (v : AV) => kTup v fun (cs : List AV) => kCons cs fun (c : AV) (cs : List AV) => kAgg c fun (cs_1 
  : List AV) => kCons cs_1 fun (c : AV) (cs_2 : List AV) => kInt .i64 c fun (n : Int) => kCons cs_2 fun (c : AV) (cs_3 : List AV) => kInt .i64 c fun (n_1 : Int) => kCons cs_3 fun (c : 
  AV) (cs_4 : List AV) => kStr c fun (s : List UInt8) => kCons cs_4 fun (c : AV) (cs_5 : List AV) => kSl c fun (rows : List (List AV)) => kNil cs_5 (kCons cs fun (c : AV) (cs : List AV) 
  => kBool c fun (b : Bool) => kNil cs (some (AV.tup [.agg [AV.int .i64 n, .int .i64 n_1, .str s, .sl rows], .bool b]))) else bif op == [(98 : UInt8), (97 : UInt8), (110 : UInt8), (100 
  : UInt8)] then kOpt (fromSem (Op.intBits BinOp.and .i64 a b)) fun (v : AV) => kInt .i64 v fun (n : Int) => kOpt (EVf (EV cfg) 247 [AV.int .i64 n]) fun (v : AV) => kTup v fun (cs : List 
  AV) => kCons cs fun (c : AV) (cs : List AV) => kAgg c fun (cs_1 : List AV) => kCons cs_1 fun (c : AV) (cs_2 : List AV) => kInt .i64 c fun (n : Int) => kCons cs_2 fun (c : AV) (cs_3 
  : List AV) => kInt .i64 c fun (n_1 : Int) => kCons cs_3 fun (c : AV) (cs_4 : List AV) => kStr c fun (s : List UInt8) => kCons cs_4 fun (c : AV) (cs_5 : List AV) => kSl c fun (rows : 
  List (List AV)) => kNil cs_5 (kCons cs fun (c : AV) (cs : List AV) => kBool c fun (b : Bool) => kNil cs (some (AV.tup [.agg [AV.int .i64 n, .int .i64 n_1, .str s, .sl rows], .bool b]))) 
  else bif op == [(98 : UInt8), (111 : UInt8), (114 : UInt8)] then kOpt (fromSem (Op.intBits BinOp.or .i64 a b)) fun (v : AV) => kInt .i64 v fun (n : Int) => kOpt (EVf (EV cfg) 247 [AV.int 
  .i64 n]) fun (v : AV) => kTup v fun (cs : List AV) => kCons cs fun (c : AV) (cs : List AV) => kAgg c fun (cs_1 : List AV) => kCons cs_1 fun (c : AV) (cs_2 : List AV) => kInt .i64 c 
  fun (n : Int) => kCons cs_2 fun (c : AV) (cs_3 : List AV) => kInt .i64 c fun (n_1 : Int) => kCons cs_3 fun (c : AV) (cs_4 : List AV) => kStr c fun (s : List UInt8) => kCons cs_4 fun 
  (c : AV) (cs_5 : List AV) => kSl c fun (rows : List (List AV)) => kNil cs_5 (kCons cs fun (c : AV) (cs : List AV) => kBool c fun (b : Bool) => kNil cs (some (AV.tup [.agg [AV.int .i64 
  n, .int .i64 n_1, .str s, .sl rows], .bool b]))) else kOpt (fromSem (Op.intBits BinOp.xor .i64 a b)) fun (v : AV) => kInt .i64 v fun (n : Int) => kOpt (EVf (EV cfg) 247 [AV.int .i64 n]) 
  fun (v : AV) => kTup v fun (cs : List AV) => kCons cs fun (c : AV) (cs : List AV) => kAgg c fun (cs_1 : List AV) => kCons cs_1 fun (c : AV) (cs_2 : List AV) => kInt .i64 c fun (n : 
  Int) => kCons cs_2 fun (c : AV) (cs_3 : List AV) => kInt .i64 c fun (n_1 : Int) => kCons cs_3 fun (c : AV) (cs_4 : List AV) => kStr c fun (s : List UInt8) => kCons cs_4 fun (c : AV) 
  (cs_5 : List AV) => kSl c fun (rows : List (List AV)) => kNil cs_5 (kCons cs fun (c : AV) (cs : List AV) => kBool c fun (b : Bool) => kNil cs (some (AV.tup [.agg [AV.int .i64 n, .int 
  .i64 n_1, .str s, .sl rows], .bool b])))) P) : Gets (EVf (EV cfg) 251 ([AV.str op, AV.int IntKind.i64 a, AV.int IntKind.i64 b] : List AV)) P :=
  Gets.ev (fun _ h => funF rfl rfl Tryz.func251 rfl h) (Gets.eq (by kernel_rfl) h)
theorem r17Two_run (op : List UInt8) (ka : Int) (na : Int) (sa : List UInt8) (la : List (List AV)) (kb : Int) (nb : Int) (sb : List UInt8) (lb : List (List AV)) {P : AV → Prop} (h : Gets (bif op == [(61 : UInt8), (61 : UInt8)] then kOpt (EVs (EV cfg) 151 [.agg [AV.int .i64 ka, .int .i64 na, .str sa, .sl la], .agg [AV.int .i64 kb, .int .i64 nb, .str sb, .sl lb]]) fun (v : 
  AV) => kInt .i64 v fun (n : Int) => kOpt (EVs (EV cfg) 249 [.str op, .int .i64 n]) fun (v : AV) => kBool v fun (b : Bool) => kOpt (EVf (EV cfg) 245 [.bool b]) fun (v : AV) => kTmV v 
  fun (n n_1 : Int) (s : List UInt8) (rows : List (List AV)) => (some (AV.tup [.agg [AV.int .i64 n, .int .i64 n_1, .str s, .sl rows], .bool true])) else bif op == [(61 : UInt8), (58 : UInt8), 
  (61 : UInt8)] then kOpt (EVs (EV cfg) 151 [.agg [AV.int .i64 ka, .int .i64 na, .str sa, .sl la], .agg [AV.int .i64 kb, .int .i64 nb, .str sb, .sl lb]]) fun (v : AV) => kInt .i64 v fun (n 
  : Int) => kOpt (EVs (EV cfg) 249 [.str op, .int .i64 n]) fun (v : AV) => kBool v fun (b : Bool) => kOpt (EVf (EV cfg) 245 [.bool b]) fun (v : AV) => kTmV v fun (n n_1 : Int) (s : List 
  UInt8) (rows : List (List AV)) => (some (AV.tup [.agg [AV.int .i64 n, .int .i64 n_1, .str s, .sl rows], .bool true])) else bif op == [(47 : UInt8), (61 : UInt8)] then kOpt (EVs (EV cfg) 
  151 [.agg [AV.int .i64 ka, .int .i64 na, .str sa, .sl la], .agg [AV.int .i64 kb, .int .i64 nb, .str sb, .sl lb]]) fun (v : AV) => kInt .i64 v fun (n : Int) => kOpt (EVs (EV cfg) 249 [.str 
  op, .int .i64 n]) fun (v : AV) => kBool v fun (b : Bool) => kOpt (EVf (EV cfg) 245 [.bool b]) fun (v : AV) => kTmV v fun (n n_1 : Int) (s : List UInt8) (rows : List (List AV)) => (some 
  (AV.tup [.agg [AV.int .i64 n, .int .i64 n_1, .str s, .sl rows], .bool true])) else bif op == [(61 : UInt8), (47 : UInt8), (61 : UInt8)] then kOpt (EVs (EV cfg) 151 [.agg [AV.int .i64 ka, 
  .int .i64 na, .str sa, .sl la], .agg [AV.int .i64 kb, .int .i64 nb, .str sb, .sl lb]]) fun (v : AV) => kInt .i64 v fun (n : Int) => kOpt (EVs (EV cfg) 249 [.str op, .int .i64 n]) fun 
  (v : AV) => kBool v fun (b : Bool) => kOpt (EVf (EV cfg) 245 [.bool b]) fun (v : AV) => kTmV v fun (n n_1 : Int) (s : List UInt8) (rows : List (List AV)) => (some (AV.tup [.agg [AV.int 
  .i64 n, .int .i64 n_1, .str s, .sl rows], .bool true])) else bif op == [(60 : UInt8)] then kOpt (EVs (EV cfg) 151 [.agg [AV.int .i64 ka, .int .i64 na, .str sa, .sl la], .agg [AV.int .i64 
  kb, .int .i64 nb, .str sb, .sl lb]]) fun (v : AV) => kInt .i64 v fun (n : Int) => kOpt (EVs (EV cfg) 249 [.str op, .int .i64 n]) fun (v : AV) => kBool v fun (b : Bool) => kOpt (EVf 
  (EV cfg) 245 [.bool b]) fun (v : AV) => kTmV v fun (n n_1 : Int) (s : List UInt8) (rows : List (List AV)) => (some (AV.tup [.agg [AV.int .i64 n, .int .i64 n_1, .str s, .sl rows], .bool 
  true])) else bif op == [(61 : UInt8), (60 : UInt8)] then kOpt (EVs (EV cfg) 151 [.agg [AV.int .i64 ka, .int .i64 na, .str sa, .sl la], .agg [AV.int .i64 kb, .int .i64 nb, .str sb, .sl lb]]) 
  fun (v : AV) => kInt .i64 v fun (n : Int) => kOpt (EVs (EV cfg) 249 [.str op, .int .i64 n]) fun (v : AV) => kBool v fun (b : Bool) => kOpt (EVf (EV cfg) 245 [.bool b]) fun (v : AV) => 
  kTmV v fun (n n_1 : Int) (s : List UInt8) (rows : List (List AV)) => (some (AV.tup [.agg [AV.int .i64 n, .int .i64 n_1, .str s, .sl rows], .bool true])) else bif op == [(62 : UInt8)] 
  then kOpt (EVs (EV cfg) 151 [.agg [AV.int .i64 ka, .int .i64 na, .str sa, .sl la], .agg [AV.int .i64 kb, .int .i64 nb, .str sb, .sl lb]]) fun (v : AV) => kInt .i64 v fun (n : Int) => kOpt 
  (EVs (EV cfg) 249 [.str op, .int .i64 n]) fun (v : AV) => kBool v fun (b : Bool) => kOpt (EVf (EV cfg) 245 [.bool b]) fun (v : AV) => kTmV v fun (n n_1 : Int) (s : List UInt8) (rows 
  : List (List AV)) => (some (AV.tup [.agg [AV.int .i64 n, .int .i64 n_1, .str s, .sl rows], .bool true])) else bif op == [(62 : UInt8), (61 : UInt8)] then kOpt (EVs (EV cfg) 151 [.agg 
  [AV.int .i64 ka, .int .i64 na, .str sa, .sl la], .agg [AV.int .i64 kb, .int .i64 nb, .str sb, .sl lb]]) fun (v : AV) => kInt .i64 v fun (n : Int) => kOpt (EVs (EV cfg) 249 [.str op, .int 
  .i64 n]) fun (v : AV) => kBool v fun (b : Bool) => kOpt (EVf (EV cfg) 245 [.bool b]) fun (v : AV) => kTmV v fun (n n_1 : Int) (s : List UInt8) (rows : List (List AV)) => (some (AV.tup 
  [.agg [AV.int .i64 n, .int .i64 n_1, .str s, .sl rows], .bool true])) else bif op == [(97 : UInt8), (110 : UInt8), (100 : UInt8)] then kOpt (EVs (EV cfg) 237 [.agg [AV.int .i64 ka, .int 
  .i64 na, .str sa, .sl la]]) fun (v : AV) => kTup v fun (cs : List AV) => kCons cs fun (c : AV) (cs : List AV) => kBool c fun (b : Bool) => kCons cs fun (c : AV) (cs : List AV) => kBool 
  c fun (b_1 : Bool) => kNil cs (kOpt (EVs (EV cfg) 237 [.agg [AV.int .i64 kb, .int .i64 nb, .str sb, .sl lb]]) fun (v : AV) => kTup v fun (cs : List AV) => kCons cs fun (c : AV) (cs : List 
  AV) => kBool c fun (b_2 : Bool) => kCons cs fun (c : AV) (cs : List AV) => kBool c fun (b_3 : Bool) => kNil cs (kOpt (EVs (EV cfg) 250 [.str op, .bool b, .bool b_2]) fun (v : AV) => 
  kBool v fun (b : Bool) => kOpt (EVf (EV cfg) 245 [.bool b]) fun (v : AV) => kTmV v fun (n n_1 : Int) (s : List UInt8) (rows : List (List AV)) => (bif b_1 then some (AV.tup [.agg [AV.int 
  .i64 n, .int .i64 n_1, .str s, .sl rows], .bool b_3]) else some (AV.tup [.agg [AV.int .i64 n, .int .i64 n_1, .str s, .sl rows], .bool false])))) else bif op == [(111 : UInt8), (114 : 
  UInt8)] then kOpt (EVs (EV cfg) 237 [.agg [AV.int .i64 ka, .int .i64 na, .str sa, .sl la]]) fun (v : AV) => kTup v fun (cs : List AV) => kCons cs fun (c : AV) (cs : List AV) => kBool c 
  fun (b : Bool) => kCons cs fun (c : AV) (cs : List AV) => kBool c fun (b_1 : Bool) => kNil cs (kOpt (EVs (EV cfg) 237 [.agg [AV.int .i64 kb, .int .i64 nb, .str sb, .sl lb]]) fun (v : AV) 
  => kTup v fun (cs : List AV) => kCons cs fun (c : AV) (cs : List AV) => kBool c fun (b_2 : Bool) => kCons cs fun (c : AV) (cs : List AV) => kBool c fun (b_3 : Bool) => kNil cs (kOpt 
  (EVs (EV cfg) 250 [.str op, .bool b, .bool b_2]) fun (v : AV) => kBool v fun (b : Bool) => kOpt (EVf (EV cfg) 245 [.bool b]) fun (v : AV) => kTmV v fun (n n_1 : Int) (s : List UInt8) 
  (rows : List (List AV)) => (bif b_1 then some (AV.tup [.agg [AV.int .i64 n, .int .i64 n_1, .str s, .sl rows], .bool b_3]) else some (AV.tup [.agg [AV.int .i64 n, .int .i64 n_1, .str s, 
  .sl rows], .bool false])))) else bif op == [(120 : UInt8), (111 : UInt8), (114 : UInt8)] then kOpt (EVs (EV cfg) 237 [.agg [AV.int .i64 ka, .int .i64 na, .str sa, .sl la]]) fun (v : AV) 
  => kTup v fun (cs : List AV) => kCons cs fun (c : AV) (cs : List AV) => kBool c fun (b : Bool) => kCons cs fun (c : AV) (cs : List AV) => kBool c fun (b_1 : Bool) => kNil cs (kOpt (EVs 
  (EV cfg) 237 [.agg [AV.int .i64 kb, .int .i64 nb, .str sb, .sl lb]]) fun (v : AV) => kTup v fun (cs : List AV) => kCons cs fun (c : AV) (cs : List AV) => kBool c fun (b_2 : Bool) => kCons 
  cs fun (c : AV) (cs : List AV) => kBool c fun (b_3 : Bool) => kNil cs (kOpt (EVs (EV cfg) 250 [.str op, .bool b, .bool b_2]) fun (v : AV) => kBool v fun (b : Bool) => kOpt (EVf (EV 
  cfg) 245 [.bool b]) fun (v : AV) => kTmV v fun (n n_1 : Int) (s : List UInt8) (rows : List (List AV)) => (bif b_1 then some (AV.tup [.agg [AV.int .i64 n, .int .i64 n_1, .str s, .sl rows], 
  .bool b_3]) else some (AV.tup [.agg [AV.int .i64 n, .int .i64 n_1, .str s, .sl rows], .bool false])))) else bif op == [(97 : UInt8), (110 : UInt8), (100 : UInt8), (97 : UInt8), (108 : 
  UInt8), (115 : UInt8), (111 : UInt8)] then kOpt (EVs (EV cfg) 237 [.agg [AV.int .i64 ka, .int .i64 na, .str sa, .sl la]]) fun (v : AV) => kTup v fun (cs : List AV) => kCons cs fun (c : 
  AV) (cs : List AV) => kBool c fun (b : Bool) => kCons cs fun (c : AV) (cs : List AV) => kBool c fun (b_1 : Bool) => kNil cs (kOpt (EVs (EV cfg) 237 [.agg [AV.int .i64 kb, .int .i64 nb, 
  .str sb, .sl lb]]) fun (v : AV) => kTup v fun (cs : List AV) => kCons cs fun (c : AV) (cs : List AV) => kBool c fun (b_2 : Bool) => kCons cs fun (c : AV) (cs : List AV) => kBool c fun 
  (b_3 : Bool) => kNil cs (kOpt (EVs (EV cfg) 250 [.str op, .bool b, .bool b_2]) fun (v : AV) => kBool v fun (b : Bool) => kOpt (EVf (EV cfg) 245 [.bool b]) fun (v : AV) => kTmV v fun 
  (n n_1 : Int) (s : List UInt8) (rows : List (List AV)) => (bif b_1 then some (AV.tup [.agg [AV.int .i64 n, .int .i64 n_1, .str s, .sl rows], .bool b_3]) else some (AV.tup [.agg [AV.int 
  .i64 n, .int .i64 n_1, .str s, .sl rows], .bool false])))) else bif op == [(111 : UInt8), (114 : UInt8), (101 : UInt8), (108 : UInt8), (115 : UInt8), (101 : UInt8)] then kOpt (EVs (EV 
  cfg) 237 [.agg [AV.int .i64 ka, .int .i64 na, .str sa, .sl la]]) fun (v : AV) => kTup v fun (cs : List AV) => kCons cs fun (c : AV) (cs : List AV) => kBool c fun (b : Bool) => kCons cs 
  fun (c : AV) (cs : List AV) => kBool c fun (b_1 : Bool) => kNil cs (kOpt (EVs (EV cfg) 237 [.agg [AV.int .i64 kb, .int .i64 nb, .str sb, .sl lb]]) fun (v : AV) => kTup v fun (cs : List 
  AV) => kCons cs fun (c : AV) (cs : List AV) => kBool c fun (b_2 : Bool) => kCons cs fun (c : AV) (cs : List AV) => kBool c fun (b_3 : Bool) => kNil cs (kOpt (EVs (EV cfg) 250 [.str 
  op, .bool b, .bool b_2]) fun (v : AV) => kBool v fun (b : Bool) => kOpt (EVf (EV cfg) 245 [.bool b]) fun (v : AV) => kTmV v fun (n n_1 : Int) (s : List UInt8) (rows : List (List AV)) 
  => (bif b_1 then some (AV.tup [.agg [AV.int .i64 n, .int .i64 n_1, .str s, .sl rows], .bool b_3]) else some (AV.tup [.agg [AV.int .i64 n, .int .i64 n_1, .str s, .sl rows], .bool false])))) 
  else bif op == [(101 : UInt8), (108 : UInt8), (101 : UInt8), (109 : UInt8), (101 : UInt8), (110 : UInt8), (116 : UInt8)] then bif ka != (1 : Int) then some (AV.tup [.agg [AV.int .i64 
  (0 : Int), .int .i64 (0 : Int), .str [], .sl []], .bool false]) else bif kb != (7 : Int) then some (AV.tup [.agg [AV.int .i64 (0 : Int), .int .i64 (0 : Int), .str [], .sl []], .bool false]) 
  else bif decide (na < (1 : Int)) then some (AV.tup [.agg [AV.int .i64 (0 : Int), .int .i64 (0 : Int), .str [], .sl []], .bool false]) else bif decide (na > (↑(List.length lb) : Int)) 
  then some (AV.tup [.agg [AV.int .i64 (0 : Int), .int .i64 (0 : Int), .str [], .sl []], .bool false]) else bif leInt (0 : Int) (IntKind.wrap .i64 (na - (1 : Int))) && ltInt (IntKind.wrap 
  .i64 (na - (1 : Int))) (↑(List.length lb) : Int) then kOpt (List.get?Internal lb (Int.toNat (IntKind.wrap .i64 (na - (1 : Int))))) fun (row : List AV) => bif Nat.beq (List.length row) 
  4 then bif Nat.ble 4 (List.length row) then kTmC (List.take 4 row) fun (n n_1 : Int) (s : List UInt8) (rows : List (List AV)) => (some (AV.tup [.agg [AV.int .i64 n, .int .i64 n_1, .str 
  s, .sl rows], .bool true])) else none else none else none else bif ka != (1 : Int) then some (AV.tup [.agg [AV.int .i64 (0 : Int), .int .i64 (0 : Int), .str [], .sl []], .bool false]) 
  else bif kb != (1 : Int) then some (AV.tup [.agg [AV.int .i64 (0 : Int), .int .i64 (0 : Int), .str [], .sl []], .bool false]) else kOpt (EVf (EV cfg) 251 [.str op, .int .i64 na, .int 
  .i64 nb]) fun (v : AV) => kTup v fun (cs : List AV) => kCons cs fun (c : AV) (cs : List AV) => kAgg c fun (cs_1 : List AV) => kCons cs_1 fun (c : AV) (cs_2 : List AV) => kInt .i64 c 
  fun (n : Int) => kCons cs_2 fun (c : AV) (cs_3 : List AV) => kInt .i64 c fun (n_1 : Int) => kCons cs_3 fun (c : AV) (cs_4 : List AV) => kStr c fun (s : List UInt8) => kCons cs_4 fun 
  (c : AV) (cs_5 : List AV) => kSl c fun (rows : List (List AV)) => kNil cs_5 (kCons cs fun (c : AV) (cs : List AV) => kBool c fun (b : Bool) => kNil cs (some (AV.tup [.agg [AV.int .i64 
  n, .int .i64 n_1, .str s, .sl rows], .bool b])))) P) : Gets (EVf (EV cfg) 178 ([AV.str op, AV.agg [AV.int IntKind.i64 ka, AV.int IntKind.i64 na, AV.str sa, AV.sl la], AV.agg [AV.int IntKind.i64 kb, AV.int IntKind.i64 nb, AV.str sb, AV.sl lb]] : List AV)) P :=
  Gets.ev (fun _ h => funF rfl rfl Tryz.func178 rfl h) (Gets.eq (by kernel_rfl) h)
theorem r17Apply1_run (op : List UInt8) (L : List (List AV)) (self : Int) {P : AV → Prop} (h : Gets (bif (↑(List.length L) : Int) == (1 : Int) then bif ltInt (0 : Int) (↑(List.length L) : Int) then kOpt (List.get?Internal L 0) fun (row : List AV) => bif Nat.beq (List.length row) 4 
  then bif Nat.ble 4 (List.length row) then kTmC (List.take 4 row) fun (n n_1 : Int) (s : List UInt8) (rows : List (List AV)) => (kOpt (EVf (EV cfg) 177 [.str op, .agg [AV.int .i64 n, .int 
  .i64 n_1, .str s, .sl rows]]) fun (v : AV) => kTup v fun (cs : List AV) => kCons cs fun (c : AV) (cs : List AV) => kAgg c fun (cs_1 : List AV) => kCons cs_1 fun (c : AV) (cs_2 : List 
  AV) => kInt .i64 c fun (n : Int) => kCons cs_2 fun (c : AV) (cs_3 : List AV) => kInt .i64 c fun (n_2 : Int) => kCons cs_3 fun (c : AV) (cs_4 : List AV) => kStr c fun (s : List UInt8) 
  => kCons cs_4 fun (c : AV) (cs_5 : List AV) => kSl c fun (rows : List (List AV)) => kNil cs_5 (kCons cs fun (c : AV) (cs : List AV) => kBool c fun (b : Bool) => kNil cs (bif !b then 
  some (AV.tup [.agg [AV.int .i64 (0 : Int), .int .i64 (0 : Int), .str [], .sl []], .bool false]) else some (AV.tup [.agg [AV.int .i64 n, .int .i64 n_2, .str s, .sl rows], .bool true])))) 
  else none else none else none else bif (↑(List.length L) : Int) == (2 : Int) then bif ltInt (0 : Int) (↑(List.length L) : Int) then kOpt (List.get?Internal L 0) fun (row : List AV) 
  => bif Nat.beq (List.length row) 4 then bif Nat.ble 4 (List.length row) then kTmC (List.take 4 row) fun (n n_1 : Int) (s : List UInt8) (rows : List (List AV)) => (bif ltInt (1 : Int) 
  (↑(List.length L) : Int) then kOpt (List.get?Internal L 1) fun (row : List AV) => bif Nat.beq (List.length row) 4 then bif Nat.ble 4 (List.length row) then kTmC (List.take 4 row) fun 
  (n_2 n_3 : Int) (s_1 : List UInt8) (rows_1 : List (List AV)) => (kOpt (EVf (EV cfg) 178 [.str op, .agg [AV.int .i64 n, .int .i64 n_1, .str s, .sl rows], .agg [AV.int .i64 n_2, .int .i64 
  n_3, .str s_1, .sl rows_1]]) fun (v : AV) => kTup v fun (cs : List AV) => kCons cs fun (c : AV) (cs : List AV) => kAgg c fun (cs_1 : List AV) => kCons cs_1 fun (c : AV) (cs_2 : List 
  AV) => kInt .i64 c fun (n : Int) => kCons cs_2 fun (c : AV) (cs_3 : List AV) => kInt .i64 c fun (n_4 : Int) => kCons cs_3 fun (c : AV) (cs_4 : List AV) => kStr c fun (s : List UInt8) 
  => kCons cs_4 fun (c : AV) (cs_5 : List AV) => kSl c fun (rows : List (List AV)) => kNil cs_5 (kCons cs fun (c : AV) (cs : List AV) => kBool c fun (b : Bool) => kNil cs (bif !b then 
  some (AV.tup [.agg [AV.int .i64 (0 : Int), .int .i64 (0 : Int), .str [], .sl []], .bool false]) else some (AV.tup [.agg [AV.int .i64 n, .int .i64 n_4, .str s, .sl rows], .bool true])))) 
  else none else none else none) else none else none else none else some (AV.tup [.agg [AV.int .i64 (6 : Int), .int .i64 self, .str [], .sl []], .bool true])) P) : Gets (EVf (EV cfg) 96 ([AV.str op, AV.sl L, AV.int IntKind.i64 self] : List AV)) P :=
  Gets.ev (fun _ h => funF rfl rfl Tryz.func96 rfl h) (Gets.eq (by kernel_rfl) h)
theorem r17Self_run (n : Int) {P : AV → Prop} (h : Gets (bif decide (n ≥ (1 : Int)) then some (.bool (decide (n ≤ (1073741824 : Int)))) else some (.bool false)) P) : Gets (EVs (EV cfg) 94 ([AV.int IntKind.i64 n] : List AV)) P :=
  Gets.ev (fun _ h => funS rfl rfl Tryz.func94 rfl h) (Gets.eq (by kernel_rfl) h)
theorem r17Apply_run (op : List UInt8) (L : List (List AV)) (self : Int) {P : AV → Prop} (h : Gets (kOpt (EVs (EV cfg) 93 [.str op, .int .i64 (↑(List.length L) : Int)]) fun (v : AV) => kBool v fun (b : Bool) => bif !b then some (AV.tup [.agg [AV.int .i64 (0 : Int), .int .i64 (0 : Int), 
  .str [], .sl []], .int .i64 (2 : Int)]) else kOpt (EVs (EV cfg) 94 [AV.int .i64 self]) fun (v : AV) => kBool v fun (b : Bool) => bif !b then some (AV.tup [.agg [AV.int .i64 (0 : Int), .int 
  .i64 (0 : Int), .str [], .sl []], .int .i64 (2 : Int)]) else wy20_0 op L self (0 : Int) (0 : Int) (0 : Int) [] []) P) : Gets (EVf (EV cfg) 25 ([AV.str op, AV.sl L, AV.int IntKind.i64 self] : List AV)) P :=
  Gets.ev (fun _ h => funF rfl rfl Tryz.func25 rfl h) (Gets.eq (by kernel_rfl) h)
theorem r02Copy_run (kt : Int) (nt : Int) (st : List UInt8) (lt : List (List AV)) {P : AV → Prop} (h : Gets (wy30_0 0 (0 : Int) kt nt st lt (0 : Int) (0 : Int) [] [] []) P) : Gets (EVf (EV cfg) 76 ([AV.agg [AV.int IntKind.i64 kt, AV.int IntKind.i64 nt, AV.str st, AV.sl lt]] : List AV)) P :=
  Gets.ev (fun _ h => funF rfl rfl Tryz.func76 rfl h) (Gets.eq (by kernel_rfl) h)
theorem r03Numbers_run (a : Int) (b : Int) {P : AV → Prop} (h : Gets (bif decide (a < b) then some (.int .i64 (-1 : Int)) else bif decide (a > b) then some (.int .i64 (1 : Int)) else some (.int .i64 (0 : Int))) P) : Gets (EVs (EV cfg) 227 ([AV.int IntKind.i64 a, AV.int IntKind.i64 b] : List AV)) P :=
  Gets.ev (fun _ h => funS rfl rfl Tryz.func227 rfl h) (Gets.eq (by kernel_rfl) h)
theorem r03Texts_run (a : List UInt8) (b : List UInt8) {P : AV → Prop} (h : Gets (bif Op.bytesLess a b then some (.int .i64 (-1 : Int)) else bif !(Op.bytesLess a b || a == b) then some (.int .i64 (1 : Int)) else some (.int .i64 (0 : Int))) P) : Gets (EVs (EV cfg) 228 ([AV.str a, AV.str b] : List AV)) P :=
  Gets.ev (fun _ h => funS rfl rfl Tryz.func228 rfl h) (Gets.eq (by kernel_rfl) h)
theorem r03Lists_run (A : List (List AV)) (B : List (List AV)) {P : AV → Prop} (h : Gets (kOpt (EVs (EV cfg) 227 [AV.int .i64 (↑(List.length A) : Int), .int .i64 (↑(List.length B) : Int)]) fun (v : AV) => kInt .i64 v fun (n : Int) => wy120_0 A B n (0 : Int)) P) : Gets (EVs (EV cfg) 229 ([AV.sl A, AV.sl B] : List AV)) P :=
  Gets.ev (fun _ h => funS rfl rfl Tryz.func229 rfl h) (Gets.eq (by kernel_rfl) h)
theorem r03Compare_run (ka : Int) (na : Int) (sa : List UInt8) (la : List (List AV)) (kb : Int) (nb : Int) (sb : List UInt8) (lb : List (List AV)) {P : AV → Prop} (h : Gets (kOpt (EVs (EV cfg) 227 [AV.int .i64 ka, .int .i64 kb]) fun (v : AV) => kInt .i64 v fun (n : Int) => bif n != (0 : Int) then some (.int .i64 n) else bif ka == (1 : Int) then kOpt (EVs 
  (EV cfg) 227 [AV.int .i64 na, .int .i64 nb]) fun (v : AV) => kInt .i64 v fun (n : Int) => some (.int .i64 n) else bif ka == (3 : Int) then kOpt (EVs (EV cfg) 227 [AV.int .i64 na, .int .i64 
  nb]) fun (v : AV) => kInt .i64 v fun (n : Int) => some (.int .i64 n) else bif ka == (4 : Int) then kOpt (EVs (EV cfg) 227 [AV.int .i64 na, .int .i64 nb]) fun (v : AV) => kInt .i64 v fun 
  (n : Int) => some (.int .i64 n) else bif ka == (6 : Int) then kOpt (EVs (EV cfg) 227 [AV.int .i64 na, .int .i64 nb]) fun (v : AV) => kInt .i64 v fun (n : Int) => some (.int .i64 n) else 
  bif ka == (2 : Int) then kOpt (EVs (EV cfg) 228 [.str sa, .str sb]) fun (v : AV) => kInt .i64 v fun (n : Int) => some (.int .i64 n) else bif ka == (5 : Int) then kOpt (EVs (EV cfg) 
  227 [AV.int .i64 na, .int .i64 nb]) fun (v : AV) => kInt .i64 v fun (n : Int) => bif n != (0 : Int) then some (.int .i64 n) else kOpt (EVs (EV cfg) 229 [.sl la, .sl lb]) fun (v : AV) 
  => kInt .i64 v fun (n : Int) => some (.int .i64 n) else bif ka == (7 : Int) then kOpt (EVs (EV cfg) 229 [.sl la, .sl lb]) fun (v : AV) => kInt .i64 v fun (n : Int) => some (.int .i64 
  n) else bif ka == (9 : Int) then kOpt (EVs (EV cfg) 229 [.sl la, .sl lb]) fun (v : AV) => kInt .i64 v fun (n : Int) => some (.int .i64 n) else some (.int .i64 (0 : Int))) P) : Gets (EVs (EV cfg) 151 ([AV.agg [AV.int IntKind.i64 ka, AV.int IntKind.i64 na, AV.str sa, AV.sl la], AV.agg [AV.int IntKind.i64 kb, AV.int IntKind.i64 nb, AV.str sb, AV.sl lb]] : List AV)) P :=
  Gets.ev (fun _ h => funS rfl rfl Tryz.func151 rfl h) (Gets.eq (by kernel_rfl) h)
theorem wy99_0_step (v4 : Int) (c0_0 : Int) (c0_1 : Int) (c0_2 : List UInt8) (c0_3 : List (List AV)) {P : AV → Prop} (h : Gets (bif c0_0 == (9 : Int) then bif ltInt (1 : Int) (↑(List.length c0_3) : Int) then kOpt (List.get?Internal c0_3 1) fun (row : List AV) => bif Nat.beq (List.length row) 4 then bif Nat.ble 
  4 (List.length row) then kTmC (List.take 4 row) fun (n n_1 : Int) (s : List UInt8) (rows : List (List AV)) => (wy99_0 (IntKind.wrap .i64 (v4 + (1 : Int))) n n_1 s rows) else none else 
  none else none else some (AV.tup [AV.int .i64 v4, .bool (c0_0 == (8 : Int))])) P) : Gets (wy99_0 v4 c0_0 c0_1 c0_2 c0_3) P :=
  Gets.ev (fun _ h => loop_step (cfg := cfg) (f := 246) (rd := none) (bs := 0) h) (Gets.eq (by kernel_rfl) h)
theorem wy20_0_step (op : List UInt8) (L : List (List AV)) (self : Int) (v8 : Int) (c0_0 : Int) (c0_1 : Int) (c0_2 : List UInt8) (c0_3 : List (List AV)) {P : AV → Prop} (h : Gets (bif decide (v8 < (↑(List.length L) : Int)) then bif leInt (0 : Int) v8 && ltInt v8 (↑(List.length L) : Int) then kOpt (List.get?Internal L (Int.toNat v8)) fun (row : List AV) => bif 
  Nat.beq (List.length row) 4 then bif Nat.ble 4 (List.length row) then kTmC (List.take 4 row) fun (n n_1 : Int) (s : List UInt8) (rows : List (List AV)) => (kOpt (EVs (EV cfg) 95 [.agg 
  [AV.int .i64 n, .int .i64 n_1, .str s, .sl rows]]) fun (v : AV) => kInt .i64 v fun (n : Int) => bif n != (0 : Int) then some (AV.tup [.agg [AV.int .i64 (0 : Int), .int .i64 (0 : Int), .str 
  [], .sl []], .int .i64 (2 : Int)]) else wy20_0 op L self (IntKind.wrap .i64 (v8 + (1 : Int))) c0_0 c0_1 c0_2 c0_3) else none else none else none else kOpt (EVf (EV cfg) 96 [.str op, 
  .sl L, .int .i64 self]) fun (v : AV) => kTup v fun (cs : List AV) => kCons cs fun (c : AV) (cs : List AV) => kAgg c fun (cs_1 : List AV) => kCons cs_1 fun (c : AV) (cs_2 : List AV) 
  => kInt .i64 c fun (n : Int) => kCons cs_2 fun (c : AV) (cs_3 : List AV) => kInt .i64 c fun (n_1 : Int) => kCons cs_3 fun (c : AV) (cs_4 : List AV) => kStr c fun (s : List UInt8) => 
  kCons cs_4 fun (c : AV) (cs_5 : List AV) => kSl c fun (rows : List (List AV)) => kNil cs_5 (kCons cs fun (c : AV) (cs : List AV) => kBool c fun (b : Bool) => kNil cs (bif !b then some 
  (AV.tup [.agg [AV.int .i64 (0 : Int), .int .i64 (0 : Int), .str [], .sl []], .int .i64 (10 : Int)]) else kOpt (EVf (EV cfg) 76 [.agg [AV.int .i64 n, .int .i64 n_1, .str s, .sl rows]]) fun 
  (v : AV) => kTmV v fun (n n_2 : Int) (s : List UInt8) (rows : List (List AV)) => (some (AV.tup [.agg [AV.int .i64 n, .int .i64 n_2, .str s, .sl rows], .int .i64 (0 : Int)]))))) P) : Gets (wy20_0 op L self v8 c0_0 c0_1 c0_2 c0_3) P :=
  Gets.ev (fun _ h => loop_step (cfg := cfg) (f := 25) (rd := none) (bs := 0) h) (Gets.eq (by kernel_rfl) h)
theorem wy30_0_step (nv3 : Nat) (v4 : Int) (c0_0 : Int) (c0_1 : Int) (c0_2 : List UInt8) (c0_3 : List (List AV)) (c1_0 : Int) (c1_1 : Int) (c1_2 : List UInt8) (c1_3 : List (List AV)) (h2 : List (List AV)) {P : AV → Prop} (h : Gets (bif decide (v4 < (↑(List.length c0_3) : Int)) then bif leInt (0 : Int) v4 && ltInt v4 (↑(List.length c0_3) : Int) then kOpt (List.get?Internal c0_3 (Int.toNat v4)) fun (row : List AV) 
  => bif Nat.beq (List.length row) 4 then bif Nat.ble 4 (List.length row) then kTmC (List.take 4 row) fun (n n_1 : Int) (s : List UInt8) (rows : List (List AV)) => (kOpt (EVf (EV cfg) 
  76 [.agg [AV.int .i64 n, .int .i64 n_1, .str s, .sl rows]]) fun (v : AV) => kTmV v fun (n n_2 : Int) (s : List UInt8) (rows : List (List AV)) => (bif Nat.ble (0 + nv3) (List.length h2) 
  && fitsIn (nv3 + 1) 56 then wy30_0 (nv3 + 1) (IntKind.wrap .i64 (v4 + (1 : Int))) c0_0 c0_1 c0_2 c0_3 c1_0 c1_1 c1_2 c1_3 (List.append (List.take nv3 h2) [[AV.int .i64 n, .int .i64 n_2, 
  .str s, .sl rows]]) else none)) else none else none else none else bif Nat.ble (0 + nv3) (List.length h2) && true then some (.agg [AV.int .i64 c0_0, .int .i64 c0_1, .str c0_2, .sl (List.take 
  nv3 h2)]) else none) P) : Gets (wy30_0 nv3 v4 c0_0 c0_1 c0_2 c0_3 c1_0 c1_1 c1_2 c1_3 h2) P :=
  Gets.ev (fun _ h => loop_step (cfg := cfg) (f := 76) (rd := none) (bs := 0) h) (Gets.eq (by kernel_rfl) h)
theorem wy120_0_step (A : List (List AV)) (B : List (List AV)) (v5 : Int) (v6 : Int) {P : AV → Prop} (h : Gets (bif decide (v6 < (↑(List.length A) : Int)) then bif v5 == (0 : Int) then bif leInt (0 : Int) v6 && ltInt v6 (↑(List.length A) : Int) then kOpt (List.get?Internal A (Int.toNat v6)) fun 
  (row : List AV) => bif Nat.beq (List.length row) 4 then bif Nat.ble 4 (List.length row) then kTmC (List.take 4 row) fun (n n_1 : Int) (s : List UInt8) (rows : List (List AV)) => (bif 
  leInt (0 : Int) v6 && ltInt v6 (↑(List.length B) : Int) then kOpt (List.get?Internal B (Int.toNat v6)) fun (row : List AV) => bif Nat.beq (List.length row) 4 then bif Nat.ble 4 (List.length 
  row) then kTmC (List.take 4 row) fun (n_2 n_3 : Int) (s_1 : List UInt8) (rows_1 : List (List AV)) => (kOpt (EVs (EV cfg) 151 [.agg [AV.int .i64 n, .int .i64 n_1, .str s, .sl rows], .agg 
  [AV.int .i64 n_2, .int .i64 n_3, .str s_1, .sl rows_1]]) fun (v : AV) => kInt .i64 v fun (n : Int) => wy120_0 A B n (IntKind.wrap .i64 (v6 + (1 : Int)))) else none else none else none) 
  else none else none else none else some (.int .i64 v5) else some (.int .i64 v5)) P) : Gets (wy120_0 A B v5 v6) P :=
  Gets.ev (fun _ h => loop_step (cfg := cfg) (f := 229) (rd := none) (bs := 0) h) (Gets.eq (by kernel_rfl) h)
end Go.Proofs.YtkgkjngbfdnoiaaGreat
end

section
namespace Go.Av
def numT (i : Int) : Tm := .mk 1 i [] []
def symT (s : List UInt8) : Tm := .mk 2 0 s []
def zeroT : Tm := .mk 0 0 [] []
theorem numT_av (i : Int) : (numT i).av = .agg [.int .i64 1, .int .i64 i, .str [], .sl []] := by rw [numT, Tm.av_mk, rowsT_nil]
theorem symT_av (s : List UInt8) : (symT s).av = .agg [.int .i64 2, .int .i64 0, .str s, .sl []] := by rw [symT, Tm.av_mk, rowsT_nil]
theorem zeroT_av : zeroT.av = .agg [.int .i64 0, .int .i64 0, .str [], .sl []] := by rw [zeroT, Tm.av_mk, rowsT_nil]
def InB (a : Int) : Prop := -576460752303423488 ≤ a ∧ a ≤ 576460752303423487
instance (a : Int) : Decidable (InB a) := inferInstanceAs (Decidable (_ ∧ _))
theorem numT_chk {a : Int} (h : InB a) : (numT a).chk = 0 := by
  obtain ⟨h1, h2⟩ := h
  simp [numT, Tm.chk, chkS, partsL, Tm.parts, soundB, wordsL, Tm.words, Tm.own, Tm.kind, h1, h2]
def withinG (n : Int) : Option Tm := if InB n then some (numT n) else none
theorem ofInt_ext {a : Int} (h : InB a) : BitVec.ofInt 64 a = (BitVec.ofInt 60 a).signExtend 64 := by
  obtain ⟨h1, h2⟩ := h
  apply BitVec.eq_of_toInt_eq
  rw [BitVec.toInt_signExtend_of_le (by omega), BitVec.toInt_ofInt, BitVec.toInt_ofInt]
  rw [Int.bmod_eq_of_le (by omega) (by omega), Int.bmod_eq_of_le (by omega) (by omega)]
theorem wrap_toNat (r : BitVec 64) : IntKind.wrap .i64 r.toNat = r.toInt := by
  have h := r.isLt
  rw [BitVec.toInt_eq_toNat_cond]
  simp [IntKind.wrap, IntKind.bits, IntKind.signed]
  omega
def bvG (op : BinOp) (a b : Int) : Int :=
  match op with
  | .and => (BitVec.ofInt 60 a &&& BitVec.ofInt 60 b).toInt
  | .or => (BitVec.ofInt 60 a ||| BitVec.ofInt 60 b).toInt
  | _ => (BitVec.ofInt 60 a ^^^ BitVec.ofInt 60 b).toInt
theorem bvG_and {a b : Int} (ha : InB a) (hb : InB b) : fromSem (Op.intBits .and .i64 a b) = some (.int .i64 (bvG .and a b)) := by
  have : fromSem (Op.intBits .and .i64 a b) = some (.int .i64 (IntKind.wrap .i64 (BitVec.ofInt 64 a &&& BitVec.ofInt 64 b).toNat)) := rfl
  rw [this, wrap_toNat, ofInt_ext ha, ofInt_ext hb, ← BitVec.signExtend_and, BitVec.toInt_signExtend_of_le (by omega)]; rfl
theorem bvG_or {a b : Int} (ha : InB a) (hb : InB b) : fromSem (Op.intBits .or .i64 a b) = some (.int .i64 (bvG .or a b)) := by
  have : fromSem (Op.intBits .or .i64 a b) = some (.int .i64 (IntKind.wrap .i64 (BitVec.ofInt 64 a ||| BitVec.ofInt 64 b).toNat)) := rfl
  rw [this, wrap_toNat, ofInt_ext ha, ofInt_ext hb, ← BitVec.signExtend_or, BitVec.toInt_signExtend_of_le (by omega)]; rfl
theorem bvG_xor {a b : Int} (ha : InB a) (hb : InB b) : fromSem (Op.intBits .xor .i64 a b) = some (.int .i64 (bvG .xor a b)) := by
  have : fromSem (Op.intBits .xor .i64 a b) = some (.int .i64 (IntKind.wrap .i64 (BitVec.ofInt 64 a ^^^ BitVec.ofInt 64 b).toNat)) := rfl
  rw [this, wrap_toNat, ofInt_ext ha, ofInt_ext hb, ← BitVec.signExtend_xor, BitVec.toInt_signExtend_of_le (by omega)]; rfl
end Go.Av
namespace Go.Av
def numbersG (op : List UInt8) (a b : Int) : Option Tm :=
  if op = [43] then withinG (a + b)
  else if op = [45] then withinG (a - b)
  else if op = [42] then withinG (a * b)
  else if op = [98, 97, 110, 100] then withinG (bvG .and a b)
  else if op = [98, 111, 114] then withinG (bvG .or a b)
  else if op = [98, 120, 111, 114] then withinG (bvG .xor a b)
  else if b = 0 then none
  else if op = [100, 105, 118] then withinG (a.tdiv b)
  else withinG (a.tmod b)
theorem beqS (a b : List UInt8) : (a == b) = decide (a = b) := by by_cases h : a = b <;> simp [h]
theorem intDiv_quo {a b : Int} (h : b ≠ 0) : fromSem (Op.intDiv .quo .i64 a b) = some (.int .i64 (IntKind.wrap .i64 (a.tdiv b))) := by
  unfold Op.intDiv; rw [if_neg h]; rfl
theorem intDiv_rem {a b : Int} (h : b ≠ 0) : fromSem (Op.intDiv .rem .i64 a b) = some (.int .i64 (a.tmod b)) := by
  unfold Op.intDiv; rw [if_neg h]; rfl
theorem tdiv_abs {a b : Int} (_h : b ≠ 0) : (a.tdiv b).natAbs ≤ a.natAbs := by
  rw [Int.natAbs_tdiv]; exact Nat.div_le_self _ _
structure Env where
  obj : Tm
  binds : List (Int × Tm)
  self : Int
def bindsR (l : List (Int × Tm)) : List (List AV) := l.map fun p => .int .i64 p.1 :: p.2.cells
theorem bindsR_len (l : List (Int × Tm)) : (bindsR l).length = l.length := by simp [bindsR]
theorem bindsR_get (l : List (Int × Tm)) (i : Nat) : (bindsR l)[i]? = (l[i]?).map fun p => .int .i64 p.1 :: p.2.cells := by simp [bindsR]
abbrev mR (e : Env) (b : Bool) : List (List AV) := [[.int .i64 e.obj.kind, .int .i64 e.obj.num, .str e.obj.str, .sl (rowsT e.obj.subs), .sl (bindsR e.binds), .int .i64 e.self, .bool b]]
def Res (e : Env) (o : Option Tm) (r : AV × List (List AV)) : Prop :=
  match o with
  | some t => r = (t.av, mR e false)
  | none => r.2 = mR e true ∧ ∃ t : Tm, r.1 = t.av
end Go.Av
namespace Go.Av
def tru : List UInt8 := [116, 114, 117, 101]
def fal : List UInt8 := [102, 97, 108, 115, 101]
def truthT (b : Bool) : Tm := symT (if b then tru else fal)
def boolG (t : Tm) : Option Bool := if t.kind = 2 ∧ t.str = tru then some true else if t.kind = 2 ∧ t.str = fal then some false else none
def twoG (op : List UInt8) (a b : Tm) : Option Tm :=
  if op = [61, 61] then some (truthT (decide (cmpT a b = 0)))
  else if op = [61, 58, 61] then some (truthT (decide (cmpT a b = 0)))
  else if op = [47, 61] then some (truthT (!decide (cmpT a b = 0)))
  else if op = [61, 47, 61] then some (truthT (!decide (cmpT a b = 0)))
  else if op = [60] then some (truthT (decide (cmpT a b < 0)))
  else if op = [61, 60] then some (truthT (decide (cmpT a b ≤ 0)))
  else if op = [62] then some (truthT (decide (cmpT a b > 0)))
  else if op = [62, 61] then some (truthT (decide (cmpT a b ≥ 0)))
  else if op = [97, 110, 100] ∨ op = [97, 110, 100, 97, 108, 115, 111] then (boolG a).bind fun x => (boolG b).map fun y => truthT (x && y)
  else if op = [111, 114] ∨ op = [111, 114, 101, 108, 115, 101] then (boolG a).bind fun x => (boolG b).map fun y => truthT (x || y)
  else if op = [120, 111, 114] then (boolG a).bind fun x => (boolG b).map fun y => truthT (x != y)
  else if op = [101, 108, 101, 109, 101, 110, 116] then (if a.kind = 1 ∧ 1 ≤ a.num ∧ b.kind = 7 ∧ a.num ≤ b.subs.length then b.subs[(a.num - 1).toNat]? else none)
  else if a.kind = 1 ∧ b.kind = 1 then numbersG op a.num b.num else none
end Go.Av
namespace Go.Av
def opsTab : List (List UInt8 × List Int) := [
  ([115, 101, 108, 102], [0]),
  ([105, 115, 95, 97, 116, 111, 109], [1]),
  ([105, 115, 95, 105, 110, 116, 101, 103, 101, 114], [1]),
  ([105, 115, 95, 108, 105, 115, 116], [1]),
  ([105, 115, 95, 116, 117, 112, 108, 101], [1]),
  ([105, 115, 95, 112, 105, 100], [1]),
  ([105, 115, 95, 102, 117, 110, 99, 116, 105, 111, 110], [1]),
  ([105, 115, 95, 114, 101, 102, 101, 114, 101, 110, 99, 101], [1]),
  ([110, 111, 116], [1]),
  ([98, 110, 111, 116], [1]),
  ([97, 98, 115], [1]),
  ([116, 117, 112, 108, 101, 95, 115, 105, 122, 101], [1]),
  ([115, 105, 122, 101], [1]),
  ([104, 100], [1]),
  ([116, 108], [1]),
  ([108, 101, 110, 103, 116, 104], [1]),
  ([43], [1, 2]),
  ([45], [1, 2]),
  ([61, 61], [2]),
  ([61, 58, 61], [2]),
  ([47, 61], [2]),
  ([61, 47, 61], [2]),
  ([60], [2]),
  ([61, 60], [2]),
  ([62], [2]),
  ([62, 61], [2]),
  ([97, 110, 100], [2]),
  ([111, 114], [2]),
  ([120, 111, 114], [2]),
  ([97, 110, 100, 97, 108, 115, 111], [2]),
  ([111, 114, 101, 108, 115, 101], [2]),
  ([42], [2]),
  ([100, 105, 118], [2]),
  ([114, 101, 109], [2]),
  ([98, 97, 110, 100], [2]),
  ([98, 111, 114], [2]),
  ([98, 120, 111, 114], [2]),
  ([101, 108, 101, 109, 101, 110, 116], [2])]
def lookS {β : Type} (op : List UInt8) (d : β) : List (List UInt8 × β) → β
  | [] => d
  | p :: l => bif op == p.1 then p.2 else lookS op d l
theorem lookS_map {β γ : Type} (g : β → γ) (op : List UInt8) (d : β) : ∀ l : List (List UInt8 × β), lookS op (g d) (l.map fun p => (p.1, g p.2)) = g (lookS op d l)
  | [] => rfl
  | p :: l => by
    rw [List.map_cons, lookS, lookS, lookS_map g op d l]
    cases op == p.1 <;> rfl
def opsG (op : List UInt8) : List Int := lookS op [] opsTab
def intsR (l : List Int) : List (List AV) := l.map fun n => [.int .i64 n]
theorem intsR_len (l : List Int) : (intsR l).length = l.length := by simp [intsR]
theorem intsR_get (l : List Int) (i : Nat) : (intsR l)[i]? = (l[i]?).map fun n => [AV.int .i64 n] := by simp [intsR]
def selfG (n : Int) : Bool := decide (1 ≤ n) && decide (n ≤ 1073741824)
theorem numT_ok (n : Int) : (numT n).Ok := by simp [numT, Tm.Ok, OkL]
theorem within_ok {n : Int} {t : Tm} (h : withinG n = some t) : t.Ok ∧ t = numT n := by
  unfold withinG at h
  split at h
  · cases h; exact ⟨numT_ok n, rfl⟩
  · cases h
theorem numbersG_ok {op : List UInt8} {a b : Int} {t : Tm} (h : numbersG op a b = some t) : t.Ok ∧ ∃ n, t = numT n := by
  unfold numbersG at h
  repeat' split at h
  all_goals first | (cases h; done) | exact ⟨(within_ok h).1, _, (within_ok h).2⟩
theorem Tm.Ok.subs {t : Tm} (h : t.Ok) {x : Tm} (hx : x ∈ t.subs) : x.Ok := by
  obtain ⟨k, n, s, l⟩ := t
  exact h.sub hx
end Go.Av
end

section
namespace Go.Av
theorem wrapU {n : Nat} (h : n < 18446744073709551616) : IntKind.wrap .u64 (n : Int) = n := by
  simp [IntKind.wrap, IntKind.bits, IntKind.signed]; omega
def SetRow (p : Nat → Bool) (r : List AV) : Prop := ∃ (lo hi : Nat) (l : List AV), r = .int .u64 lo :: .int .u64 hi :: l ∧ lo < 18446744073709551616 ∧ hi < 18446744073709551616 ∧ (∀ n, n < 64 → lo.testBit n = p n) ∧ ∀ n, n < 64 → hi.testBit n = p (n + 64)
end Go.Av
namespace Go.Av
theorem store_get {r cs : List AV} {o k : Nat} (hc : cs.length = 4) (h : o + 4 ≤ r.length) (hk : k < o ∨ o + 4 ≤ k) : (List.append (List.append (r.take o) cs) (r.drop (o + 4)))[k]? = r[k]? := by
  show ((r.take o ++ cs) ++ r.drop (o + 4))[k]? = r[k]?
  have hl : (r.take o).length = o := by simp; omega
  rcases hk with hk | hk
  · rw [List.getElem?_append_left (by simp; omega), List.getElem?_append_left (by omega), List.getElem?_take, if_pos hk]
  · rw [List.getElem?_append_right (by simp; omega), List.getElem?_drop]
    congr 1
    simp [hc]
    omega
theorem store_len {r cs : List AV} {o : Nat} (hc : cs.length = 4) (h : o + 4 ≤ r.length) : (List.append (List.append (r.take o) cs) (r.drop (o + 4))).length = r.length := by
  show ((r.take o ++ cs) ++ r.drop (o + 4)).length = r.length
  simp [hc]; omega
theorem store_same {r cs : List AV} {o : Nat} (hc : cs.length = 4) (h : o + 4 ≤ r.length) : ((List.append (List.append (r.take o) cs) (r.drop (o + 4))).drop o).take 4 = cs := by
  show (((r.take o ++ cs) ++ r.drop (o + 4)).drop o).take 4 = cs
  have hl : (r.take o).length = o := by simp; omega
  rw [List.append_assoc, List.drop_append_of_le_length (by omega), List.drop_of_length_le (by omega), List.nil_append, List.take_append_of_le_length (by omega), List.take_of_length_le (by omega)]
theorem store_other {r cs : List AV} {o o' : Nat} (hc : cs.length = 4) (h : o + 4 ≤ r.length) (hd : o' + 4 ≤ o ∨ o + 4 ≤ o') : ((List.append (List.append (r.take o) cs) (r.drop (o + 4))).drop o').take 4 = (r.drop o').take 4 := by
  apply List.ext_getElem?
  intro j
  by_cases hj : j < 4
  · rw [List.getElem?_take, List.getElem?_take, if_pos hj, if_pos hj, List.getElem?_drop, List.getElem?_drop, store_get hc h (by omega)]
  · rw [List.getElem?_take, List.getElem?_take, if_neg hj, if_neg hj]
def mayB : Int → List (Int × Tm) → Bool
  | _, [] => true
  | last, p :: l => decide (last < p.1) && (decide (p.1 ≤ 99) && (decide (p.2.chk = 0) && mayB p.1 l))
def lookB (n : Int) : List (Int × Tm) → Option Tm
  | [] => none
  | p :: l => if p.1 = n then some p.2 else lookB n l
structure BRow (m : List (Int × Tm)) (r : List AV) : Prop where
  len : r.length = 402
  set : SetRow (fun i => (lookB i m).isSome) r
  cells : ∀ i : Nat, i < 100 → ∀ t, lookB i m = some t → (r.drop (2 + i * 4)).take 4 = t.cells
  free : refsLtL 0 r = true
end Go.Av
namespace Go.Av
theorem lookB_snoc (n : Int) (p : Int × Tm) : ∀ m : List (Int × Tm), lookB n (m ++ [p]) = match lookB n m with | some t => some t | none => if p.1 = n then some p.2 else none
  | [] => by simp [lookB]
  | q :: m => by
    rw [List.cons_append, lookB, lookB]
    by_cases h : q.1 = n
    · rw [if_pos h, if_pos h]
    · rw [if_neg h, if_neg h]; exact lookB_snoc n p m
theorem BRow.add {m : List (Int × Tm)} {r r' : List AV} {n : Nat} {t : Tm} (h : BRow m r) (hn : n < 100) (hnew : lookB n m = none)
    (h1 : SetRow (fun i => (fun i : Nat => (lookB i m).isSome) i || decide (i = n)) r') (h2 : r'.drop 2 = r.drop 2) (h3 : r'.length = r.length) (h4 : refsLtL 0 r = true → refsLtL 0 r' = true) :
    BRow (m ++ [((n : Int), t)]) (List.append (List.append (r'.take (2 + n * 4)) t.cells) (r'.drop (2 + n * 4 + 4))) := by
  have hl : r'.length = 402 := by rw [h3, h.len]
  have hc : t.cells.length = 4 := length_cells t
  have ho : 2 + n * 4 + 4 ≤ r'.length := by omega
  have hd : ∀ j, (r'.drop (2 + j)) = r.drop (2 + j) := by
    intro j
    rw [← List.drop_drop, ← List.drop_drop, h2]
  refine ⟨by rw [store_len hc ho, hl], ?_, fun i hi t' ht' => ?_, ?_⟩
  · obtain ⟨lo, hi, l, rfl, a1, a2, a3, a4⟩ := h1
    obtain ⟨o, ho'⟩ : ∃ o, 2 + n * 4 = o + 2 := ⟨n * 4, by omega⟩
    have lk : ∀ i : Nat, (lookB i (m ++ [((n : Int), t)])).isSome = ((lookB i m).isSome || decide (i = n)) := by
      intro i
      rw [lookB_snoc]
      cases hx : lookB (i : Int) m with
      | some x => rfl
      | none =>
        by_cases hi : i = n
        · subst hi; simp
        · have : ¬ ((n : Int) = (i : Int)) := by omega
          simp [this, hi]
    refine ⟨lo, hi, (l.take o ++ t.cells) ++ l.drop (o + 4), ?_, a1, a2, fun i hi => ?_, fun i hi => ?_⟩
    · rw [ho']; rfl
    · exact (a3 i hi).trans (lk i).symm
    · exact (a4 i hi).trans (lk (i + 64)).symm
  · rw [lookB_snoc] at ht'
    by_cases hin : i = n
    · subst hin
      rw [hnew] at ht'
      simp at ht'
      subst ht'
      exact store_same hc ho
    · cases hx : lookB (i : Int) m with
      | none =>
        rw [hx] at ht'
        have : ¬ ((n : Int) = (i : Int)) := by omega
        simp [this] at ht'
      | some x =>
        rw [hx] at ht'
        cases ht'
        rw [store_other hc ho (by omega), hd]
        exact h.cells i hi _ hx
  · show refsLtL 0 ((r'.take (2 + n * 4) ++ t.cells) ++ r'.drop (2 + n * 4 + 4)) = true
    have hf := h4 h.free
    exact refsLtL_app (refsLtL_app (refsLtL_take hf) (cells_free t)) (refsLtL_drop hf)
end Go.Av
end

section
namespace Go.Av
theorem chk_zero {t : Tm} : t.chk = 0 ↔ t.parts = true ∧ t.words ≤ 65536 := by
  unfold Tm.chk chkS
  simp only [partsL, wordsL, Bool.and_true, Nat.zero_add, Nat.add_zero]
  cases h : t.parts with
  | false => simp
  | true =>
    simp
theorem wL_parts (l : List Tm) (h : ∀ x ∈ l, x.parts = true → x.w ≤ 65 * x.words) : partsL l = true → wL l ≤ 65 * wordsL l := by
  induction l with
  | nil => intro _; simp
  | cons x l ih =>
    intro hp
    rw [partsL, Bool.and_eq_true] at hp
    have h1 := h x (by simp) hp.1
    have h2 := ih (fun y hy => h y (by simp [hy])) hp.2
    rw [wL_cons, wordsL]; omega
theorem sound_str {k n : Int} {s : List UInt8} {m : Nat} (h : soundB k n s m = true) : s.length ≤ 64 ∧ m ≤ 64 := by
  unfold soundB at h
  repeat' split at h
  all_goals simp at h
  all_goals first | (obtain ⟨_, _, h3, h4⟩ := h; subst h3; simp; omega) | (obtain ⟨_, h3, h4⟩ := h; subst h3; simp; omega) | omega
theorem w_parts (t : Tm) : t.parts = true → t.w ≤ 65 * t.words := by
  induction t using Tm.ind with
  | _ k n s l ih =>
    intro hp
    rw [Tm.parts, Bool.and_eq_true] at hp
    have h1 := sound_str hp.1
    have h2 := wL_parts l ih hp.2
    have h3 := (Tm.mk k n s l).own_le
    rw [Tm.w_mk, Tm.words]; omega
theorem w_chk {t : Tm} (h : t.chk = 0) : t.w ≤ 4259840 := by
  obtain ⟨h1, h2⟩ := chk_zero.1 h
  have := w_parts t h1
  omega
theorem subs_chk {t : Tm} (h : t.chk = 0) : t.subs.length ≤ 64 := by
  obtain ⟨h1, _⟩ := chk_zero.1 h
  rw [Tm.parts_eq, Bool.and_eq_true] at h1
  exact (sound_str h1.1).2
theorem wordsL_mem {x : Tm} {l : List Tm} (h : x ∈ l) : x.words ≤ wordsL l := by
  induction l with
  | nil => cases h
  | cons y l ih =>
    rw [wordsL]
    rcases List.mem_cons.1 h with rfl | h
    · omega
    · have := ih h; omega
theorem partsL_mem {l : List Tm} (h : partsL l = true) : ∀ x ∈ l, x.parts = true := by
  induction l with
  | nil => intro x hx; cases hx
  | cons y l ih =>
    intro x hx
    rw [partsL, Bool.and_eq_true] at h
    rcases List.mem_cons.1 hx with rfl | hx
    · exact h.1
    · exact ih h.2 x hx
theorem chk_sub {t x : Tm} (h : t.chk = 0) (hx : x ∈ t.subs) : x.chk = 0 := by
  obtain ⟨h1, h2⟩ := chk_zero.1 h
  rw [Tm.parts_eq, Bool.and_eq_true] at h1
  have := wordsL_mem hx
  rw [Tm.words_eq] at h2
  exact chk_zero.2 ⟨partsL_mem h1.2 x hx, by omega⟩
theorem cons_chk {t : Tm} (h : t.chk = 0) (hk : t.kind = 9) : ∃ a b, t.subs = [a, b] := by
  obtain ⟨h1, _⟩ := chk_zero.1 h
  rw [Tm.parts_eq, Bool.and_eq_true] at h1
  have h2 : soundB t.kind t.num t.str t.subs.length = true := h1.1
  rw [hk] at h2
  simp [soundB] at h2
  match hl : t.subs, h2.2.2 with
  | [a, b], _ => exact ⟨a, b, rfl⟩
theorem int_chk {t : Tm} (h : t.chk = 0) (hk : t.kind = 1) : InB t.num ∧ t = numT t.num := by
  obtain ⟨h1, _⟩ := chk_zero.1 h
  obtain ⟨k, n, s, l⟩ := t
  simp only [Tm.kind_mk] at hk
  subst hk
  rw [Tm.parts_eq, Bool.and_eq_true] at h1
  have h2 : soundB 1 n s l.length = true := h1.1
  simp [soundB] at h2
  obtain ⟨a, b, c, d⟩ := h2
  subst c d
  exact ⟨⟨a, b⟩, rfl⟩
def lenT : Nat → Tm → Option Nat
  | 0, _ => none
  | n + 1, t => if t.kind = 9 then (match t.subs with | [_, b] => (lenT n b).map (· + 1) | _ => none) else if t.kind = 8 then some 0 else none
def lenG (t : Tm) : Option Nat := lenT t.w t
theorem lenT_le : ∀ (n : Nat) (t : Tm) (m : Nat), lenT n t = some m → m ≤ n
  | 0, _, _, h => by cases h
  | n + 1, t, m, h => by
    rw [lenT] at h
    split at h
    · split at h
      · obtain ⟨x, h1, rfl⟩ := Option.map_eq_some_iff.1 h
        have := lenT_le n _ x h1
        omega
      · cases h
    · split at h
      · cases h; omega
      · cases h
theorem lenT_more : ∀ (n m : Nat) (t : Tm), t.w ≤ n → t.w ≤ m → lenT n t = lenT m t := by
  intro n
  induction n with
  | zero => intro m t h; have := w_pos t; omega
  | succ n ih =>
    intro m t hn hm
    obtain ⟨m, rfl⟩ : ∃ k, m = k + 1 := ⟨m - 1, by have := w_pos t; omega⟩
    rw [lenT, lenT]
    by_cases h9 : t.kind = 9
    · rw [if_pos h9, if_pos h9]
      have hw := t.w_eq
      cases hs : t.subs with
      | nil => rfl
      | cons a l =>
        cases l with
        | nil => rfl
        | cons b l =>
          cases l with
          | nil =>
            rw [hs] at hw
            simp only [wL_cons, wL_nil] at hw
            simp only []
            rw [ih m b (by omega) (by omega)]
          | cons c l => rfl
    · rw [if_neg h9, if_neg h9]
theorem lenG_cons {t a b : Tm} (hk : t.kind = 9) (hs : t.subs = [a, b]) : lenG t = (lenG b).map (· + 1) := by
  have hw := t.w_eq
  rw [hs] at hw
  simp only [wL_cons, wL_nil] at hw
  unfold lenG
  obtain ⟨n, hn⟩ : ∃ n, t.w = n + 1 := ⟨t.w - 1, by have := w_pos t; omega⟩
  rw [hn, lenT, if_pos hk, hs]
  simp only []
  rw [lenT_more n b.w b (by omega) (Nat.le_refl _)]
theorem lenG_nil {t : Tm} (hk : t.kind = 8) : lenG t = some 0 := by
  unfold lenG
  obtain ⟨n, hn⟩ : ∃ n, t.w = n + 1 := ⟨t.w - 1, by have := w_pos t; omega⟩
  rw [hn, lenT, if_neg (by omega), if_pos hk]
theorem lenG_none {t : Tm} (h9 : t.kind ≠ 9) (h8 : t.kind ≠ 8) : lenG t = none := by
  unfold lenG
  obtain ⟨n, hn⟩ : ∃ n, t.w = n + 1 := ⟨t.w - 1, by have := w_pos t; omega⟩
  rw [hn, lenT, if_neg h9, if_neg h8]
theorem lenG_le {t : Tm} {m : Nat} (h : lenG t = some m) : m ≤ t.w := lenT_le _ _ _ h
def oneG (op : List UInt8) (t : Tm) : Option Tm :=
  if op = [105, 115, 95, 97, 116, 111, 109] then some (truthT (decide (t.kind = 2)))
  else if op = [105, 115, 95, 105, 110, 116, 101, 103, 101, 114] then some (truthT (decide (t.kind = 1)))
  else if op = [105, 115, 95, 108, 105, 115, 116] then some (truthT (decide (t.kind = 9) || decide (t.kind = 8)))
  else if op = [105, 115, 95, 116, 117, 112, 108, 101] then some (truthT (decide (t.kind = 7)))
  else if op = [105, 115, 95, 112, 105, 100] then some (truthT (decide (t.kind = 6)))
  else if op = [105, 115, 95, 102, 117, 110, 99, 116, 105, 111, 110] then some (truthT (decide (t.kind = 5)))
  else if op = [105, 115, 95, 114, 101, 102, 101, 114, 101, 110, 99, 101] then some (truthT (decide (t.kind = 3) || decide (t.kind = 4)))
  else if op = [110, 111, 116] then (boolG t).map fun b => truthT (!b)
  else if op = [98, 110, 111, 116] then (if t.kind = 1 then withinG (-1 - t.num) else none)
  else if op = [43] then (if t.kind = 1 then withinG t.num else none)
  else if op = [45] then (if t.kind = 1 then withinG (-t.num) else none)
  else if op = [97, 98, 115] then (if t.kind = 1 then withinG (if t.num < 0 then -t.num else t.num) else none)
  else if op = [116, 117, 112, 108, 101, 95, 115, 105, 122, 101] then (if t.kind = 7 then withinG t.subs.length else none)
  else if op = [115, 105, 122, 101] then (if t.kind = 7 then withinG t.subs.length else none)
  else if op = [108, 101, 110, 103, 116, 104] then (lenG t).bind fun n => withinG n
  else if t.kind = 9 then (if op = [104, 100] then t.subs[0]? else t.subs[1]?)
  else none
def applyG (op : List UInt8) (l : List Tm) (self : Int) : Option Tm :=
  match l with
  | [a] => oneG op a
  | [a, b] => twoG op a b
  | _ => some (.mk 6 self [] [])
theorem withinG_chk {n : Int} {v : Tm} (h : withinG n = some v) : v.chk = 0 := by
  unfold withinG at h
  split at h
  · rename_i hb; cases h; exact numT_chk hb
  · cases h
theorem truthT_chk (b : Bool) : (truthT b).chk = 0 := by cases b <;> decide
structure EnvOk (e : Env) : Prop where
  obj : e.obj.chk = 0
  may : mayB (-1) e.binds = true
  self : selfG e.self = true
theorem mayB_len : ∀ {l : List (Int × Tm)} {last : Int}, mayB last l = true → (l.length : Int) ≤ max 0 (99 - last)
  | [], _, _ => by simp; omega
  | p :: l, last, h => by
    simp only [mayB, Bool.and_eq_true, decide_eq_true_eq] at h
    have := mayB_len h.2.2.2
    simp only [List.length_cons]
    omega
theorem EnvOk.len {e : Env} (h : EnvOk e) : e.binds.length ≤ 100 := by have := mayB_len h.may; omega
end Go.Av
end

section
namespace Go.Proofs.YtkgkjngbfdnoiaaGreat
open Go.Av
set_option maxRecDepth 100000
set_option maxHeartbeats 0

noncomputable def Lq33_0 : Den := evC cfg (EV cfg) 238 none 5 (sub (bodyOf Tryz.f238) [1, 0, 0])
noncomputable def Aq33_0 : Ex × List AV × AH → Option AV := kAft (Cfg.keepOut cfg 238 (firstRid (sub (bodyOf Tryz.f238) [1, 0, 0]))) (kBlock 0 (kFinG cfg (Cfg.lift cfg 238 0) (fun (v : AV) (H : AH) => (fun (r : AV × AH) => kRangeEnd 0 4 (fx 17 [(2, AV.ptr 1 0 0), (3, AV.ptr 2 0 0)]) (kBlock 0 (kSeq (fun (fr : List AV) (H : AH) => kCutTo (Cfg.cut cfg 91 (firstRid (sub (bodyOf Tryz.f91) [1, 1, 1]))) fr H fun (fr : List AV) (H : AH) => kCode cfg (EV cfg) (kfN cfg 6) 91 none 0 (sub (bodyOf Tryz.f91) [1, 1, 1]) fr H (kFinS cfg (Cfg.lift cfg 91 0) (Array.toList (Func.results Tryz.f91)))) (kFinS cfg (Cfg.lift cfg 91 0) (Array.toList (Func.results Tryz.f91))))) (Prod.snd r)) (v, H)) (Array.toList (Func.results (Prod.snd (238, Tryz.f238))))))
noncomputable def Wq33_0 : List AV × AH → Option AV := fun (p : List AV × AH) => kOpt (LOOP 5 (some [0, 3]) [(3, 4)] Lq33_0 p) Aq33_0
noncomputable def Lq33_1 : Den := evC cfg (EV cfg) 273 none 10 (sub (bodyOf Tryz.f273) [1, 0, 0])
noncomputable def Aq33_1 : Ex × List AV × AH → Option AV := kAft (Cfg.keepOut cfg 273 (firstRid (sub (bodyOf Tryz.f273) [1, 0, 0]))) (kBlock 0 (kFinG cfg (Cfg.lift cfg 273 0) (fun (v : AV) (H : AH) => (fun (r : AV × AH) => kRangeEnd 5 9 (fx 38 [(0, AV.yld 4), (3, AV.ptr 5 0 0)]) (kBlock 2 (kBlock 1 (kLp 5 (some [0, 3]) [(3, 4)] Lq33_0 Aq33_0))) (Prod.snd r)) (v, H)) (Array.toList (Func.results (Prod.snd (273, Tryz.f273))))))
noncomputable def Wq33_1 : List AV × AH → Option AV := fun (p : List AV × AH) => kOpt (LOOP 10 (some [0, 1, 3]) [] Lq33_1 p) Aq33_1
noncomputable abbrev wq33_0 (c0_0 : Int) (c0_1 : Int) (c0_2 : List UInt8) (c0_3 : List (List AV)) (c1_0 : Int) (c2_0 : Int) (c3_0 : Int) (c3_1 : Int) (c3_2 : List UInt8) (c3_3 : List (List AV)) (nc5_0 : Nat) (h6 : List (List AV)) : Option (AV) := Wq33_0  (((fx 38 [(0, AV.yld (4 : Nat)), (3, AV.ptr (5 : Nat) (0 : Nat) (0 : Nat))]) : List AV), ([ABlk.rows false (4 : Nat) [[AV.int IntKind.i64 c0_0, AV.int IntKind.i64 c0_1, AV.str c0_2, AV.sl c0_3]], ABlk.rows false (1 : Nat) [[AV.int IntKind.i64 c1_0]], ABlk.rows false (1 : Nat) [[AV.int IntKind.i64 c2_0]], ABlk.rows false (4 : Nat) [[AV.int IntKind.i64 c3_0, AV.int IntKind.i64 c3_1, AV.str c3_2, AV.sl c3_3]], rngB Tryz.f91 (91 : Nat) [(1 : Nat), (1 : Nat), (0 : Nat), (1 : Nat), (0 : Nat)] (fx 17 [(2, AV.ptr (1 : Nat) (0 : Nat) (0 : Nat)), (3, AV.ptr (2 : Nat) (0 : Nat) (0 : Nat))]) none LoopState.ready, ABlk.rows false (1 : Nat) [[AV.ms (6 : Nat) (0 : Nat) nc5_0]], ABlk.rows true (4 : Nat) h6] : AH))
noncomputable abbrev wq33_1 (v3 : Int) (c0_0 : Int) (c0_1 : Int) (c0_2 : List UInt8) (c0_3 : List (List AV)) (c1_0 : Int) (c2_0 : Int) (c3_0 : Int) (c3_1 : Int) (c3_2 : List UInt8) (c3_3 : List (List AV)) (nc5_0 : Nat) (h6 : List (List AV)) (c7_0 : Int) (c7_1 : Int) (c7_2 : List UInt8) (c7_3 : List (List AV)) (c8_0 : List (List AV)) : Option (AV) := Wq33_1  (((fx 19 [(0, AV.yld (9 : Nat)), (1, AV.ptr (8 : Nat) (0 : Nat) (0 : Nat)), (3, AV.int IntKind.i64 v3)]) : List AV), ([ABlk.rows false (4 : Nat) [[AV.int IntKind.i64 c0_0, AV.int IntKind.i64 c0_1, AV.str c0_2, AV.sl c0_3]], ABlk.rows false (1 : Nat) [[AV.int IntKind.i64 c1_0]], ABlk.rows false (1 : Nat) [[AV.int IntKind.i64 c2_0]], ABlk.rows false (4 : Nat) [[AV.int IntKind.i64 c3_0, AV.int IntKind.i64 c3_1, AV.str c3_2, AV.sl c3_3]], rngB Tryz.f91 (91 : Nat) [(1 : Nat), (1 : Nat), (0 : Nat), (1 : Nat), (0 : Nat)] (fx 17 [(2, AV.ptr (1 : Nat) (0 : Nat) (0 : Nat)), (3, AV.ptr (2 : Nat) (0 : Nat) (0 : Nat))]) none LoopState.ready, ABlk.rows false (1 : Nat) [[AV.ms (6 : Nat) (0 : Nat) nc5_0]], ABlk.rows true (4 : Nat) h6, ABlk.rows false (4 : Nat) [[AV.int IntKind.i64 c7_0, AV.int IntKind.i64 c7_1, AV.str c7_2, AV.sl c7_3]], ABlk.rows false (1 : Nat) [[AV.sl c8_0]], rngB Tryz.f238 (238 : Nat) [(1 : Nat), (0 : Nat), (0 : Nat), (1 : Nat), (0 : Nat), (1 : Nat), (1 : Nat), (1 : Nat), (1 : Nat), (0 : Nat)] (fx 38 [(3, AV.ptr (5 : Nat) (0 : Nat) (0 : Nat))]) none LoopState.ready] : AH))
noncomputable abbrev wq33_1a (v3 : Int) (c0_0 : Int) (c0_1 : Int) (c0_2 : List UInt8) (c0_3 : List (List AV)) (c1_0 : Int) (c2_0 : Int) (c3_0 : Int) (c3_1 : Int) (c3_2 : List UInt8) (c3_3 : List (List AV)) (nc5_0 : Nat) (c7_0 : Int) (c7_1 : Int) (c7_2 : List UInt8) (c7_3 : List (List AV)) (c8_0 : List (List AV)) (h10 : List (List AV)) : Option (AV) := Wq33_1  (((fx 19 [(0, AV.yld (9 : Nat)), (1, AV.ptr (8 : Nat) (0 : Nat) (0 : Nat)), (3, AV.int IntKind.i64 v3)]) : List AV), ([ABlk.rows false (4 : Nat) [[AV.int IntKind.i64 c0_0, AV.int IntKind.i64 c0_1, AV.str c0_2, AV.sl c0_3]], ABlk.rows false (1 : Nat) [[AV.int IntKind.i64 c1_0]], ABlk.rows false (1 : Nat) [[AV.int IntKind.i64 c2_0]], ABlk.rows false (4 : Nat) [[AV.int IntKind.i64 c3_0, AV.int IntKind.i64 c3_1, AV.str c3_2, AV.sl c3_3]], rngB Tryz.f91 (91 : Nat) [(1 : Nat), (1 : Nat), (0 : Nat), (1 : Nat), (0 : Nat)] (fx 17 [(2, AV.ptr (1 : Nat) (0 : Nat) (0 : Nat)), (3, AV.ptr (2 : Nat) (0 : Nat) (0 : Nat))]) none LoopState.ready, ABlk.rows false (1 : Nat) [[AV.ms (10 : Nat) (0 : Nat) nc5_0]], ABlk.dead, ABlk.rows false (4 : Nat) [[AV.int IntKind.i64 c7_0, AV.int IntKind.i64 c7_1, AV.str c7_2, AV.sl c7_3]], ABlk.rows false (1 : Nat) [[AV.sl c8_0]], rngB Tryz.f238 (238 : Nat) [(1 : Nat), (0 : Nat), (0 : Nat), (1 : Nat), (0 : Nat), (1 : Nat), (1 : Nat), (1 : Nat), (1 : Nat), (0 : Nat)] (fx 38 [(3, AV.ptr (5 : Nat) (0 : Nat) (0 : Nat))]) none LoopState.ready, ABlk.rows true (4 : Nat) h10] : AH))
theorem term_sound_run (kt : Int) (nt : Int) (st : List UInt8) (lt : List (List AV)) {P : AV → Prop} (h : Gets (bif kt == (1 : Int) then bif decide (nt ≥ (-576460752303423488 : Int)) then bif decide (nt ≤ (576460752303423487 : Int)) then bif st == [] then some (.bool ((↑(List.length lt) : Int) 
  == (0 : Int))) else some (.bool false) else some (.bool false) else some (.bool false) else bif kt == (2 : Int) then bif nt == (0 : Int) then bif decide ((↑(List.length st) : Int) ≤ 
  (64 : Int)) then some (.bool ((↑(List.length lt) : Int) == (0 : Int))) else some (.bool false) else some (.bool false) else bif kt == (3 : Int) then bif decide (nt ≥ (0 : Int)) then 
  bif decide (nt ≤ (1073741824 : Int)) then bif st == [] then bif (↑(List.length lt) : Int) == (0 : Int) then some (.bool true) else bif kt == (5 : Int) then some (.bool (decide ((↑(List.length 
  lt) : Int) ≤ (64 : Int)))) else some (.bool false) else some (.bool false) else some (.bool false) else some (.bool false) else bif kt == (4 : Int) then bif decide (nt ≥ (0 : Int)) 
  then bif decide (nt ≤ (1073741824 : Int)) then bif st == [] then bif (↑(List.length lt) : Int) == (0 : Int) then some (.bool true) else bif kt == (5 : Int) then some (.bool (decide 
  ((↑(List.length lt) : Int) ≤ (64 : Int)))) else some (.bool false) else some (.bool false) else some (.bool false) else some (.bool false) else bif kt == (6 : Int) then bif decide (nt 
  ≥ (0 : Int)) then bif decide (nt ≤ (1073741824 : Int)) then bif st == [] then bif (↑(List.length lt) : Int) == (0 : Int) then some (.bool true) else bif kt == (5 : Int) then some (.bool 
  (decide ((↑(List.length lt) : Int) ≤ (64 : Int)))) else some (.bool false) else some (.bool false) else some (.bool false) else some (.bool false) else bif kt == (5 : Int) then bif 
  decide (nt ≥ (0 : Int)) then bif decide (nt ≤ (1073741824 : Int)) then bif st == [] then bif (↑(List.length lt) : Int) == (0 : Int) then some (.bool true) else bif kt == (5 : Int) then 
  some (.bool (decide ((↑(List.length lt) : Int) ≤ (64 : Int)))) else some (.bool false) else some (.bool false) else some (.bool false) else some (.bool false) else bif kt == (7 : Int) 
  then bif nt == (0 : Int) then bif st == [] then some (.bool (decide ((↑(List.length lt) : Int) ≤ (64 : Int)))) else some (.bool false) else some (.bool false) else bif kt == (8 : Int) 
  then bif nt == (0 : Int) then bif st == [] then some (.bool ((↑(List.length lt) : Int) == (0 : Int))) else some (.bool false) else some (.bool false) else bif kt == (9 : Int) then bif 
  nt == (0 : Int) then bif st == [] then some (.bool ((↑(List.length lt) : Int) == (2 : Int))) else some (.bool false) else some (.bool false) else some (.bool false)) P) : Gets (EVs (EV cfg) 170 ([AV.agg [AV.int IntKind.i64 kt, AV.int IntKind.i64 nt, AV.str st, AV.sl lt]] : List AV)) P :=
  Gets.ev (fun _ h => funS rfl rfl Tryz.func170 rfl h) (Gets.eq (by kernel_rfl) h)
theorem term_own_run (kt : Int) (nt : Int) (st : List UInt8) (lt : List (List AV)) {P : AV → Prop} (h : Gets (bif kt == (7 : Int) then some (.int .i64 (2 : Int)) else bif kt == (5 : Int) then some (.int .i64 (2 : Int)) else some (.int .i64 (1 : Int))) P) : Gets (EVs (EV cfg) 171 ([AV.agg [AV.int IntKind.i64 kt, AV.int IntKind.i64 nt, AV.str st, AV.sl lt]] : List AV)) P :=
  Gets.ev (fun _ h => funS rfl rfl Tryz.func171 rfl h) (Gets.eq (by kernel_rfl) h)
theorem term_Check_run (kt : Int) (nt : Int) (st : List UInt8) (lt : List (List AV)) {P : AV → Prop} (h : Gets (wq33_0 kt nt st lt (0 : Int) (0 : Int) kt nt st lt 1 [[.int .i64 kt, .int .i64 nt, .str st, .sl lt]]) P) : Gets (EVs (EV cfg) 91 ([AV.agg [AV.int IntKind.i64 kt, AV.int IntKind.i64 nt, AV.str st, AV.sl lt]] : List AV)) P :=
  Gets.ev (fun _ h => funS rfl rfl Tryz.func91 rfl h) (Gets.eq (by kernel_rfl) h)
theorem wq33_0_step (c0_0 : Int) (c0_1 : Int) (c0_2 : List UInt8) (c0_3 : List (List AV)) (c1_0 : Int) (c2_0 : Int) (c3_0 : Int) (c3_1 : Int) (c3_2 : List UInt8) (c3_3 : List (List AV)) (nc5_0 : Nat) (h6 : List (List AV)) {P : AV → Prop} (h : Gets (bif decide ((↑nc5_0 : Int) > (0 : Int)) then bif leInt (0 : Int) (IntKind.wrap .i64 ((↑nc5_0 : Int) - (1 : Int))) && ltInt (IntKind.wrap .i64 ((↑nc5_0 : Int) - (1 : Int))) (↑nc5_0 : 
  Int) then kOpt (List.get?Internal h6 (0 + Int.toNat (IntKind.wrap .i64 ((↑nc5_0 : Int) - (1 : Int))))) fun (row : List AV) => bif Nat.ble 4 (List.length row) then kTmC (List.take 4 
  row) fun (n n_1 : Int) (s : List UInt8) (rows : List (List AV)) => (bif leInt (0 : Int) (IntKind.wrap .i64 ((↑nc5_0 : Int) - (1 : Int))) && leInt (IntKind.wrap .i64 ((↑nc5_0 : Int) 
  - (1 : Int))) (↑nc5_0 : Int) then kOpt (EVs (EV cfg) 170 [.agg [.int .i64 n, .int .i64 n_1, .str s, .sl rows]]) fun (v : AV) => kBool v fun (b : Bool) => bif !b then some (.int .i64 
  (2 : Int)) else kOpt (EVs (EV cfg) 171 [.agg [.int .i64 n, .int .i64 n_1, .str s, .sl rows]]) fun (v : AV) => kInt .i64 v fun (n_2 : Int) => wq33_1 (IntKind.wrap .i64 ((↑(List.length 
  rows) : Int) - (1 : Int))) c0_0 c0_1 c0_2 c0_3 c1_0 (IntKind.wrap .i64 (c2_0 + n_2)) c3_0 c3_1 c3_2 c3_3 (Int.toNat (IntKind.wrap .i64 ((↑nc5_0 : Int) - (1 : Int))) - 0) h6 n n_1 s 
  rows rows else none) else none else none else bif decide (c2_0 > (65536 : Int)) then some (.int .i64 (3 : Int)) else some (.int .i64 (0 : Int))) P) : Gets (wq33_0 c0_0 c0_1 c0_2 c0_3 c1_0 c2_0 c3_0 c3_1 c3_2 c3_3 nc5_0 h6) P :=
  Gets.ev (fun _ h => loop_step (cfg := cfg) (f := 238) (rd := none) (bs := 5) h) (Gets.eq (by kernel_rfl) h)
theorem wq33_1_step (v3 : Int) (c0_0 : Int) (c0_1 : Int) (c0_2 : List UInt8) (c0_3 : List (List AV)) (c1_0 : Int) (c2_0 : Int) (c3_0 : Int) (c3_1 : Int) (c3_2 : List UInt8) (c3_3 : List (List AV)) (nc5_0 : Nat) (h6 : List (List AV)) (c7_0 : Int) (c7_1 : Int) (c7_2 : List UInt8) (c7_3 : List (List AV)) (c8_0 : List (List AV)) {P : AV → Prop} (h : Gets (bif decide (v3 ≥ (0 : Int)) then bif leInt (0 : Int) v3 && ltInt v3 (↑(List.length c8_0) : Int) then kOpt (List.get?Internal c8_0 (Int.toNat v3)) fun (row : List AV) => bif Nat.beq 
  (List.length row) 4 then bif Nat.ble 4 (List.length row) then kTmC (List.take 4 row) fun (n n_1 : Int) (s : List UInt8) (rows : List (List AV)) => (bif Nat.ble (0 + nc5_0) (List.length 
  h6) && fitsIn (nc5_0 + 1) 56 then bif leInt (0 : Int) (↑nc5_0 : Int) && ltInt (↑nc5_0 : Int) (↑(nc5_0 + 1) : Int) then kOpt (List.get?Internal (List.append (List.take nc5_0 h6) [[.int 
  .i64 (0 : Int), .int .i64 (0 : Int), .str [], .nilS]]) (0 + Int.toNat (↑nc5_0 : Int))) fun (row : List AV) => bif Nat.ble 4 (List.length row) then wq33_1a (IntKind.wrap .i64 (v3 - (1 
  : Int))) c0_0 c0_1 c0_2 c0_3 c1_0 c2_0 c3_0 c3_1 c3_2 c3_3 (nc5_0 + 1) c7_0 c7_1 c7_2 c7_3 c8_0 (List.set (List.append (List.take nc5_0 h6) [[.int .i64 (0 : Int), .int .i64 (0 : Int), 
  .str [], .nilS]]) (0 + Int.toNat (↑nc5_0 : Int)) (.int .i64 n :: .int .i64 n_1 :: .str s :: .sl rows :: List.drop 4 row)) else none else none else none) else none else none else none 
  else wq33_0 c0_0 c0_1 c0_2 c0_3 c1_0 c2_0 c3_0 c3_1 c3_2 c3_3 nc5_0 h6) P) : Gets (wq33_1 v3 c0_0 c0_1 c0_2 c0_3 c1_0 c2_0 c3_0 c3_1 c3_2 c3_3 nc5_0 h6 c7_0 c7_1 c7_2 c7_3 c8_0) P :=
  Gets.ev (fun _ h => loop_step (cfg := cfg) (f := 273) (rd := none) (bs := 10) h) (Gets.eq (by kernel_rfl) h)
theorem wq33_1a_step (v3 : Int) (c0_0 : Int) (c0_1 : Int) (c0_2 : List UInt8) (c0_3 : List (List AV)) (c1_0 : Int) (c2_0 : Int) (c3_0 : Int) (c3_1 : Int) (c3_2 : List UInt8) (c3_3 : List (List AV)) (nc5_0 : Nat) (c7_0 : Int) (c7_1 : Int) (c7_2 : List UInt8) (c7_3 : List (List AV)) (c8_0 : List (List AV)) (h10 : List (List AV)) {P : AV → Prop} (h : Gets (bif decide (v3 ≥ (0 : Int)) then bif leInt (0 : Int) v3 && ltInt v3 (↑(List.length c8_0) : Int) then kOpt (List.get?Internal c8_0 (Int.toNat v3)) fun (row : List AV) => bif Nat.beq 
  (List.length row) 4 then bif Nat.ble 4 (List.length row) then kTmC (List.take 4 row) fun (n n_1 : Int) (s : List UInt8) (rows : List (List AV)) => (bif Nat.ble (0 + nc5_0) (List.length 
  h10) && fitsIn (nc5_0 + 1) 56 then bif leInt (0 : Int) (↑nc5_0 : Int) && ltInt (↑nc5_0 : Int) (↑(nc5_0 + 1) : Int) then kOpt (List.get?Internal (List.append (List.take nc5_0 h10) [[.int 
  .i64 (0 : Int), .int .i64 (0 : Int), .str [], .nilS]]) (0 + Int.toNat (↑nc5_0 : Int))) fun (row : List AV) => bif Nat.ble 4 (List.length row) then wq33_1a (IntKind.wrap .i64 (v3 - (1 
  : Int))) c0_0 c0_1 c0_2 c0_3 c1_0 c2_0 c3_0 c3_1 c3_2 c3_3 (nc5_0 + 1) c7_0 c7_1 c7_2 c7_3 c8_0 (List.set (List.append (List.take nc5_0 h10) [[.int .i64 (0 : Int), .int .i64 (0 : Int), 
  .str [], .nilS]]) (0 + Int.toNat (↑nc5_0 : Int)) (.int .i64 n :: .int .i64 n_1 :: .str s :: .sl rows :: List.drop 4 row)) else none else none else none) else none else none else none 
  else wq33_0 c0_0 c0_1 c0_2 c0_3 c1_0 c2_0 c3_0 c3_1 c3_2 c3_3 nc5_0 h10) P) : Gets (wq33_1a v3 c0_0 c0_1 c0_2 c0_3 c1_0 c2_0 c3_0 c3_1 c3_2 c3_3 nc5_0 c7_0 c7_1 c7_2 c7_3 c8_0 h10) P :=
  Gets.ev (fun _ h => loop_step (cfg := cfg) (f := 273) (rd := none) (bs := 10) h) (Gets.eq (by kernel_rfl) h)
end Go.Proofs.YtkgkjngbfdnoiaaGreat
end

section
namespace Go.Proofs.YtkgkjngbfdnoiaaGreat
open Go.Av

theorem sound_ev (t : Tm) : EVs (EV cfg) 170 [t.av] = some (.bool t.sound) := by
  obtain ⟨k, n, s, l⟩ := t
  apply Gets.get
  rw [Tm.av_mk]
  refine term_sound_run _ _ _ _ ?_
  simp only [Tm.sound, Tm.kind_mk, Tm.num_mk, Tm.str_mk, Tm.subs_mk, rowsT_length, beqI, beqNil, soundB]
  by_cases h1 : k = 1
  · subst h1; simp [bif_some'] <;> (try rw [Bool.eq_iff_iff]) <;> (try simp) <;> first | omega | grind
  by_cases h2 : k = 2
  · subst h2; simp [bif_some'] <;> (try rw [Bool.eq_iff_iff]) <;> (try simp) <;> first | omega | grind
  by_cases h3 : k = 3
  · subst h3; simp [bif_some'] <;> (try rw [Bool.eq_iff_iff]) <;> (try simp) <;> first | omega | grind
  by_cases h4 : k = 4
  · subst h4; simp [bif_some'] <;> (try rw [Bool.eq_iff_iff]) <;> (try simp) <;> first | omega | grind
  by_cases h6 : k = 6
  · subst h6; simp [bif_some'] <;> (try rw [Bool.eq_iff_iff]) <;> (try simp) <;> first | omega | grind
  by_cases h5 : k = 5
  · subst h5
    cases l with
    | nil => simp [bif_some'] <;> (try rw [Bool.eq_iff_iff]) <;> (try simp) <;> first | omega | grind
    | cons x l =>
      have hx : ¬ ((l.length : Int) + 1 = 0) := by omega
      simp [hx, bif_some'] <;> (try rw [Bool.eq_iff_iff]) <;> (try simp) <;> first | omega | grind
  by_cases h7 : k = 7
  · subst h7; simp [bif_some'] <;> (try rw [Bool.eq_iff_iff]) <;> (try simp) <;> first | omega | grind
  by_cases h8 : k = 8
  · subst h8; simp [bif_some'] <;> (try rw [Bool.eq_iff_iff]) <;> (try simp) <;> first | omega | grind
  by_cases h9 : k = 9
  · subst h9; simp [bif_some'] <;> (try rw [Bool.eq_iff_iff]) <;> (try simp) <;> first | omega | grind
  simp [h1, h2, h3, h4, h5, h6, h7, h8, h9]
theorem own_ev (t : Tm) : EVs (EV cfg) 171 [t.av] = some (.int .i64 t.own) := by
  obtain ⟨k, n, s, l⟩ := t
  apply Gets.get
  rw [Tm.av_mk]
  refine term_own_run _ _ _ _ ?_
  simp only [Tm.own, Tm.kind_mk, beqI]
  by_cases h7 : k = 7
  · simp [h7]
  · by_cases h5 : k = 5
    · simp [h5]
    · simp [h7, h5]
end Go.Proofs.YtkgkjngbfdnoiaaGreat
end

section
namespace Go.Proofs.YtkgkjngbfdnoiaaGreat
open Go.Av

theorem app_get0 (l : List (List AV)) (z : List AV) : (l ++ [z])[l.length]? = some z := by simp
theorem app_set0 (l : List (List AV)) (z c : List AV) : (l ++ [z]).set l.length c = l ++ [c] := by simp

theorem push_a {t x : Tm} (hx : x.subs.length < 1099511627776) {wd : Int} {P : AV → Prop} : ∀ (j : Nat) (R : List Tm), j ≤ x.subs.length → R.length + j < 1099511627776 →
    Gets (wq33_0 t.kind t.num t.str (rowsT t.subs) 0 wd t.kind t.num t.str (rowsT t.subs) (R.length + j) (rowsT (R ++ (x.subs.take j).reverse))) P →
    Gets (wq33_1a ((j : Int) - 1) t.kind t.num t.str (rowsT t.subs) 0 wd t.kind t.num t.str (rowsT t.subs) R.length x.kind x.num x.str (rowsT x.subs) (rowsT x.subs) (rowsT R)) P
  | 0, R, _, _, h => by
    refine wq33_1a_step _ _ _ _ _ _ _ _ _ _ _ _ _ _ _ _ _ _ ?_
    simpa using h
  | j + 1, R, hj, hR, h => by
    have ih := push_a (t := t) hx (wd := wd) (P := P) j (R ++ [x.subs[j]]) (by omega) (by simp; omega)
    have e1 : x.subs.take (j + 1) = x.subs.take j ++ [x.subs[j]] := by rw [List.take_add_one, List.getElem?_eq_getElem (by omega)]; rfl
    have e4 : R ++ (x.subs.take j ++ [x.subs[j]]).reverse = R ++ x.subs[j] :: (x.subs.take j).reverse := by rw [List.reverse_append]; rfl
    rw [e1, e4, show R.length + (j + 1) = R.length + 1 + j by omega] at h
    refine wq33_1a_step _ _ _ _ _ _ _ _ _ _ _ _ _ _ _ _ _ _ ?_
    have hw : IntKind.wrap .i64 ((j : Int) - 1) = (j : Int) - 1 := wrap64 (by omega) (by omega)
    have hjl : j < x.subs.length := by omega
    have e2 : ((j + 1 : Nat) : Int) - 1 = j := by omega
    rw [e2]
    have ht : List.take R.length (rowsT R) = rowsT R := List.take_of_length_le (by simp)
    have g0 := app_get0 (rowsT R) [.int .i64 0, .int .i64 0, .str [], .nilS]
    have s0 := app_set0 (rowsT R) [.int .i64 0, .int .i64 0, .str [], .nilS] x.subs[j].cells
    rw [rowsT_length] at g0 s0
    simp [hjl, hw, fits56 (show R.length + 1 ≤ 1099511627776 by omega), ht] at ih ⊢
    exact ih h

theorem push_m {t x : Tm} (hx : x.subs.length < 1099511627776) {wd : Int} {P : AV → Prop} {R : List Tm} {Z : List (List AV)} (hR : R.length + x.subs.length < 1099511627776)
    (h0 : x.subs = [] → Gets (wq33_0 t.kind t.num t.str (rowsT t.subs) 0 wd t.kind t.num t.str (rowsT t.subs) R.length (rowsT R ++ Z)) P)
    (h : x.subs ≠ [] → Gets (wq33_0 t.kind t.num t.str (rowsT t.subs) 0 wd t.kind t.num t.str (rowsT t.subs) (R ++ x.subs.reverse).length (rowsT (R ++ x.subs.reverse))) P) :
    Gets (wq33_1 ((x.subs.length : Int) - 1) t.kind t.num t.str (rowsT t.subs) 0 wd t.kind t.num t.str (rowsT t.subs) R.length (rowsT R ++ Z) x.kind x.num x.str (rowsT x.subs) (rowsT x.subs)) P := by
  refine wq33_1_step _ _ _ _ _ _ _ _ _ _ _ _ _ _ _ _ _ _ ?_
  rcases Nat.eq_zero_or_pos x.subs.length with hz | hp
  · have hz' : x.subs = [] := List.length_eq_zero_iff.1 hz
    have := h0 hz'
    simpa [hz'] using this
  · obtain ⟨j, hj⟩ : ∃ j, x.subs.length = j + 1 := ⟨x.subs.length - 1, by omega⟩
    have hne : x.subs ≠ [] := by intro e; rw [e] at hp; simp at hp
    have hjl : j < x.subs.length := by omega
    have e2 : (x.subs.length : Int) - 1 = j := by omega
    have hw : IntKind.wrap .i64 ((j : Int) - 1) = (j : Int) - 1 := wrap64 (by omega) (by omega)
    have ht : List.take R.length (rowsT R ++ Z) = rowsT R := by rw [List.take_append_of_le_length (by simp), List.take_of_length_le (by simp)]
    have e5 : x.subs = x.subs.take j ++ [x.subs[j]] := by
      have : x.subs.take (j + 1) = x.subs := List.take_of_length_le (by omega)
      rw [List.take_add_one, List.getElem?_eq_getElem hjl] at this
      exact this.symm
    have e6 : R ++ x.subs.reverse = R ++ [x.subs[j]] ++ (x.subs.take j).reverse := by
      conv => lhs; rw [e5]
      rw [List.reverse_append, List.append_assoc]; rfl
    have := push_a (t := t) hx (wd := wd) (P := P) j (R ++ [x.subs[j]]) (by omega) (by simp; omega) (by
      have h := h hne
      rw [e6] at h
      have e7 : (R ++ [x.subs[j]] ++ (x.subs.take j).reverse).length = (R ++ [x.subs[j]]).length + j := by
        rw [List.length_append, List.length_reverse, List.length_take]; omega
      rw [e7] at h
      exact h)
    rw [e2]
    simp at this
    simp [hjl, hw, fits56 (show R.length + 1 ≤ 1099511627776 by omega), ht]
    exact this

theorem check_m {t : Tm} : ∀ (n : Nat) (R : List Tm) (Z : List (List AV)) (wd : Nat), wL R ≤ n → n < 1099511627776 → wd + 2 * wL R < 9007199254740992 →
    Gets (wq33_0 t.kind t.num t.str (rowsT t.subs) 0 (wd : Int) t.kind t.num t.str (rowsT t.subs) R.length (rowsT R ++ Z)) (· = .int .i64 (chkS R wd)) := by
  intro n
  induction n with
  | zero =>
    intro R Z wd hn _ _
    have : R = [] := by
      have := wL_len R
      exact List.length_eq_zero_iff.1 (by omega)
    subst this
    refine wq33_0_step _ _ _ _ _ _ _ _ _ _ _ _ ?_
    by_cases h : 65536 < wd
    · have h' : (65536 : Int) < wd := by omega
      simp [h, h', chkS, partsL, wordsL]
    · have h' : ¬ (65536 : Int) < wd := by omega
      simp [h, h', chkS, partsL, wordsL]
  | succ n ih =>
    intro R Z wd hn hN hw
    rcases List.eq_nil_or_concat R with rfl | ⟨R0, x, rfl⟩
    · refine wq33_0_step _ _ _ _ _ _ _ _ _ _ _ _ ?_
      by_cases h : 65536 < wd
      · have h' : (65536 : Int) < wd := by omega
        simp [h, h', chkS, partsL, wordsL]
      · have h' : ¬ (65536 : Int) < wd := by omega
        simp [h, h', chkS, partsL, wordsL]
    · rw [List.concat_eq_append] at *
      have hwx := x.w_eq
      have ho := x.own_le
      simp only [wL_append, wL_cons, wL_nil] at hn hw
      have hl0 := wL_len R0
      have hls := wL_len x.subs
      have hsd := sound_ev x
      have how := own_ev x
      refine wq33_0_step _ _ _ _ _ _ _ _ _ _ _ _ ?_
      have e1 : (R0 ++ [x]).length = R0.length + 1 := by simp
      have hw1 : IntKind.wrap .i64 (R0.length : Int) = R0.length := wrapN (by omega)
      have hw2 : IntKind.wrap .i64 ((wd : Int) + x.own) = ((wd + x.own : Nat) : Int) := by rw [wrap64 (by omega) (by omega)]; omega
      have hw3 : IntKind.wrap .i64 ((x.subs.length : Int) - 1) = (x.subs.length : Int) - 1 := wrap64 (by omega) (by omega)
      have g : (rowsT (R0 ++ [x]) ++ Z)[R0.length]? = some x.cells := by
        rw [List.getElem?_append_left (by simp), rowsT_get]; simp
      cases hs : x.sound with
      | false =>
        rw [hs] at hsd
        simp [e1, hw1, g, hsd, chkS_bad hs]
      | true =>
        rw [hs] at hsd
        have e3 : rowsT (R0 ++ [x]) ++ Z = rowsT R0 ++ (x.cells :: Z) := by rw [rowsT_append, List.append_assoc, rowsT_cons, rowsT_nil]; rfl
        have := push_m (t := t) (x := x) (R := R0) (Z := x.cells :: Z) (wd := ((wd + x.own : Nat) : Int)) (P := (· = .int .i64 (chkS (R0 ++ [x]) wd))) (by omega) (by omega)
          (fun hz => by
            have := ih R0 (x.cells :: Z) (wd + x.own) (by omega) (by omega) (by omega)
            rw [← chkS_step hs, hz, List.reverse_nil, List.append_nil]
            exact this)
          (fun hz => by
            have := ih (R0 ++ x.subs.reverse) [] (wd + x.own) (by rw [wL_append, wL_rev]; omega) (by omega) (by rw [wL_append, wL_rev]; omega)
            rw [← chkS_step hs]
            rw [List.append_nil] at this
            exact this)
        simp only [e1, e3] at g ⊢
        simp only [Int.natCast_add] at hw2 this
        simp [hw1, g, hsd, how, hw2, hw3]
        exact this

theorem check_ev {t : Tm} (h : t.w < 1099511627776) : EVs (EV cfg) 91 [t.av] = some (.int .i64 t.chk) := by
  have := check_m (t := t) _ [t] [] 0 (Nat.le_refl _) (by simpa using h) (by simp; omega)
  apply Gets.get
  rw [Tm.av, Tm.cells_eq]
  refine term_Check_run _ _ _ _ ?_
  rw [← Tm.cells_eq, rowsT_one, Tm.chk]
  simpa using this
end Go.Proofs.YtkgkjngbfdnoiaaGreat
end
