/-
  What an operation looks at, and what it changes. Own work.
  What is proved: the abstract evaluation of an operation depends on its operands and on the blocks of its footprint alone, and changes those that it is said to write; no condition.
-/
import Derived.Test.YtpbfmaodnihpeaaAvReg
namespace Go.Av
variable {H H' H2 : AH}

theorem map_congr {x y : Operand → AV} {l : List Operand} (h : ∀ a ∈ l, x a = y a) : l.map x = l.map y := List.map_congr_left h
theorem mapP_congr {x y : Operand → AV} {l : List (Nat × Operand)} (h : ∀ a ∈ l.map (·.2), x a = y a) : (l.map fun p => (p.1, x p.2)) = l.map fun p => (p.1, y p.2) :=
  List.map_congr_left fun p hp => by rw [h p.2 (List.mem_map.2 ⟨p, hp, rfl⟩)]
theorem opt_congr {x y : Operand → AV} {o : Option Operand} (h : ∀ a ∈ o.toArray, x a = y a) : o.map x = o.map y := by
  cases o with
  | none => rfl
  | some a => simp only [Option.map_some]; rw [h a (by simp)]

theorem evOp_congr {cfg : Cfg} {nid : Option Nat} {op : Op} {ty : TypeId} {x y : Operand → AV} (h : ∀ a ∈ op.operands, x a = y a) : evOp cfg nid op ty x H = evOp cfg nid op ty y H := by
  cases op with
  | move a | assign a | box _ a | load _ a | nilCheck a | unOp _ _ a | convert _ _ a | fieldAddr _ a _ | field _ a _ | extract a _ =>
    have := h a (by simp [Op.operands])
    simp only [evOp, this]
  | pick c a b =>
    have h1 := h c (by simp [Op.operands])
    have h2 := h a (by simp [Op.operands])
    have h3 := h b (by simp [Op.operands])
    simp only [evOp, h1, h2, h3]
  | store _ a b | binOp _ _ a b _ | makeSlice _ a b | indexAddr _ a b | index _ a b =>
    have h1 := h a (by simp [Op.operands])
    have h2 := h b (by simp [Op.operands])
    simp only [evOp, h1, h2]
  | build _ ps =>
    have := mapP_congr (x := x) (y := y) (l := ps.toList) (fun a ha => h a (by simp only [Op.operands, List.mem_toArray]; exact ha))
    simp only [evOp, this]
  | buildSlice _ _ ps =>
    have := mapP_congr (x := x) (y := y) (l := ps.toList) (fun a ha => h a (by simp only [Op.operands, List.mem_toArray]; exact ha))
    simp only [evOp, this]
  | makeFunc f p q =>
    have h1 := map_congr (x := x) (y := y) (l := p.toList) (fun a ha => h a (by simp only [Op.operands, Array.mem_append]; exact .inl (Array.mem_toList_iff.1 ha)))
    have h2 := map_congr (x := x) (y := y) (l := q.toList) (fun a ha => h a (by simp only [Op.operands, Array.mem_append]; exact .inr (Array.mem_toList_iff.1 ha)))
    simp only [evOp, h1, h2]
  | slice _ a l hi m =>
    have h1 := h a (by simp [Op.operands])
    have h2 := opt_congr (x := x) (y := y) (o := l) (fun a ha => h a (by simp only [Op.operands, Array.mem_append]; simp [ha]))
    have h3 := opt_congr (x := x) (y := y) (o := hi) (fun a ha => h a (by simp only [Op.operands, Array.mem_append]; simp [ha]))
    have h4 := opt_congr (x := x) (y := y) (o := m) (fun a ha => h a (by simp only [Op.operands, Array.mem_append]; simp [ha]))
    simp only [evOp, h1, h2, h3, h4]
  | call c =>
    have hm : ∀ a ∈ c.args.toList, x a = y a := fun a ha => h a (by simp only [Op.operands, Call.operands, Array.mem_append]; exact .inr (Array.mem_toList_iff.1 ha))
    obtain ⟨callee, args, argTypes⟩ := c
    simp only at hm
    simp only [evOp]
    generalize args.toList = l at hm
    generalize argTypes.toList = ts
    clear h
    split
    · rw [hm _ (by simp)]
    · rw [hm _ (by simp), hm _ (by simp)]
    · rw [hm _ (by simp), hm _ (by simp)]
    · rw [hm _ (by simp)]
    · rw [hm _ (by simp), hm _ (by simp)]
    · rw [hm _ (by simp), hm _ (by simp)]
    · rfl
  | _ => rfl

theorem evOper_congr {cfg : Cfg} {cf : Orac} {frz : Bool} {nid : Option Nat} {o : Oper} {x y : Operand → AV} (h : ∀ a ∈ o.op.operands, x a = y a) : evOper cfg cf frz nid o x H = evOper cfg cf frz nid o y H := by
  have hids : (o.op.operands.toList.flatMap fun a => (x a).msIds) = o.op.operands.toList.flatMap fun a => (y a).msIds := by
    have : (o.op.operands.toList.map fun a => (x a).msIds) = o.op.operands.toList.map fun a => (y a).msIds := List.map_congr_left fun a ha => by rw [h a (Array.mem_toList_iff.1 ha)]
    rw [List.flatMap_def, List.flatMap_def, this]
  have core : ∀ {x y : Operand → AV} {H : AH}, (∀ a ∈ o.op.operands, x a = y a) →
      (match o.op with
        | .call c =>
          match c.callee with
          | .value f => (tgtOf (x f) (c.args.toList.map x)).bind fun t => callT cfg cf nid t.1 t.2 H
          | _ => evOp cfg nid o.op o.type x H
        | _ => evOp cfg nid o.op o.type x H) =
      (match o.op with
        | .call c =>
          match c.callee with
          | .value f => (tgtOf (y f) (c.args.toList.map y)).bind fun t => callT cfg cf nid t.1 t.2 H
          | _ => evOp cfg nid o.op o.type y H
        | _ => evOp cfg nid o.op o.type y H) := by
    intro x y H h
    rw [evOp_congr h]
    split
    · rename_i c ho
      split
      · rename_i f hf
        have h1 : x f = y f := h f (by rw [ho]; simp [Op.operands, Call.operands, hf])
        have h2 := map_congr (x := x) (y := y) (l := c.args.toList) (fun a ha => h a (by rw [ho]; simp only [Op.operands, Call.operands, Array.mem_append]; exact .inr (Array.mem_toList_iff.1 ha)))
        rw [h1, h2]
      · rfl
    · rfl
  unfold evOper
  cases frz with
  | false => simp only [Bool.false_eq_true, if_false]; exact core h
  | true =>
    simp only [if_true]
    rw [hids]
    exact core (fun a ha => by rw [h a ha])

/-! ### what is looked at -/
theorem blkRows_agr {id : Nat} (h : H2[id]? = H[id]?) : blkRows H2 id = blkRows H id := by unfold blkRows; rw [h]

theorem blkFree_agr {id : Nat} (h : H2[id]? = H[id]?) : blkFree H2 id = blkFree H id := by unfold blkFree; rw [h]
theorem srcFree_agr {p : AV} (h : ∀ id ∈ p.hid, H2[id]? = H[id]?) : srcFree H2 p = srcFree H p := by
  cases p with
  | ms id off len => simp only [srcFree]; rw [blkFree_agr (h id (by simp [AV.hid]))]
  | _ => rfl

theorem aLoad_agr {agg : Bool} {n : Nat} {p : AV} (h : ∀ id ∈ p.hid, H2[id]? = H[id]?) : aLoad agg n H2 p = aLoad agg n H p := by
  unfold aLoad
  split
  · rename_i id r off; rw [blkRows_agr (h id (by simp [AV.hid]))]
  · rfl
  · rfl

theorem rowsOf_agr {n : Nat} {p : AV} (h : ∀ id ∈ p.hid, H2[id]? = H[id]?) : rowsOf H2 n p = rowsOf H n p := by
  unfold rowsOf
  split
  · rfl
  · rfl
  · rename_i id off len; rw [blkRows_agr (h id (by simp [AV.hid]))]
  · rfl

theorem srcRows_agr {n : Nat} {p : AV} (h : ∀ id ∈ p.hid, H2[id]? = H[id]?) : srcRows H2 n p = srcRows H n p := by
  unfold srcRows
  split
  · rfl
  · exact rowsOf_agr h

theorem aIndexAddr_agr {cfg : Cfg} {t : TypeId} {p i : AV} (h : ∀ id ∈ p.hid, H2[id]? = H[id]?) : aIndexAddr cfg t H2 p i = aIndexAddr cfg t H p i := by
  unfold aIndexAddr
  split
  · rename_i id _ _ _ _ _; rw [blkRows_agr (h id (by simp [AV.hid]))]
  all_goals rfl

theorem aSlice_agr {cfg : Cfg} {t : TypeId} {p : AV} {lo hi mx : Option AV} (h : ∀ id ∈ p.hid, H2[id]? = H[id]?) : aSlice cfg t H2 p lo hi mx = aSlice cfg t H p lo hi mx := by
  unfold aSlice
  split
  · rfl
  · rfl
  · rfl
  · rename_i id off len _; rw [blkRows_agr (h id (by simp [AV.hid]))]
  · rfl

theorem aLen_agr {cfg : Cfg} {t : TypeId} {p : AV} (h : ∀ id ∈ p.hid, H2[id]? = H[id]?) : aLen cfg t p H2 = aLen cfg t p H := by
  unfold aLen
  split <;> first | rfl | skip
  rename_i id _; rw [h id (by simp [AV.hid])]

theorem snap1_agr {p : AV} (h : ∀ id ∈ p.hid, H2[id]? = H[id]?) : p.snap1 H2 = p.snap1 H := by
  cases p with
  | ms id off len => simp only [AV.snap1, AV.frz1]; rw [blkRows_agr (h id (by simp [AV.hid])), blkFree_agr (h id (by simp [AV.hid]))]
  | ptr id r off => simp only [AV.snap1]; rw [blkRows_agr (h id (by simp [AV.hid]))]
  | _ => rfl

theorem snap1L_agr {l : List AV} (h : ∀ id ∈ l.flatMap AV.hid, H2[id]? = H[id]?) : l.map (AV.snap1 H2) = l.map (AV.snap1 H) :=
  List.map_congr_left fun p hp => snap1_agr fun id hi => h id (List.mem_flatMap.2 ⟨p, hp, hi⟩)

theorem snap_agr {p : AV} (h : ∀ id ∈ p.hids, H2[id]? = H[id]?) : p.snap H2 = p.snap H := by
  cases p with
  | agg cs => simp only [AV.snap]; rw [snap1L_agr (fun id hi => h id (by simpa [AV.hids] using hi))]
  | fn f a b => simp only [AV.snap]; rw [snap1L_agr (fun id hi => h id (by simp only [AV.hids, List.mem_append]; exact .inl hi)), snap1L_agr (fun id hi => h id (by simp only [AV.hids, List.mem_append]; exact .inr hi))]
  | ms id off len => exact snap1_agr (p := .ms id off len) h
  | ptr id r off => exact snap1_agr (p := .ptr id r off) h
  | _ => rfl

/-! ### what is changed -/
def Upd (wr : List Nat) (H2 H' H2' : AH) : Prop := H2'.length = H2.length ∧ ∀ id, H2'[id]? = if id ∈ wr then H'[id]? else H2[id]?

theorem Upd.same {wr : List Nat} (h : ∀ id ∈ wr, H2[id]? = H[id]?) : Upd wr H2 H H2 := ⟨rfl, fun id => by
  split
  · rename_i hi; exact h id hi
  · rfl⟩

theorem Upd.set {wr : List Nat} (h : ∀ id ∈ wr, H2[id]? = H[id]?) (hl : H2.length = H.length) {k : Nat} {b : ABlk} (hk : k ∈ wr) : Upd wr H2 (H.set k b) (H2.set k b) := ⟨by simp, fun id => by
  by_cases e : k = id
  · subst e
    rw [if_pos hk, List.getElem?_set, List.getElem?_set, if_pos rfl, if_pos rfl, hl]
  · rw [List.getElem?_set, if_neg e, List.getElem?_set, if_neg e]
    split
    · rename_i hi; exact h id hi
    · rfl⟩

theorem loc_read {g g2 : Option AV} {r : AV} {wr : List Nat} (he : (g.map fun v => (v, H)) = some (r, H')) (hg : g2 = g) (h : ∀ id ∈ wr, H2[id]? = H[id]?) : ∃ H2', (g2.map fun v => (v, H2)) = some (r, H2') ∧ Upd wr H2 H' H2' := by
  subst hg
  obtain ⟨v, hv, e⟩ := Option.map_eq_some_iff.1 he
  cases e
  exact ⟨H2, by rw [hv]; rfl, Upd.same h⟩

theorem loc_new {at_ k : Nat} {b : ABlk} {wr : List Nat} (hn : aNew (some at_) H b = some (k, H')) (h : ∀ id ∈ wr, H2[id]? = H[id]?) (hl : H2.length = H.length) (hk : at_ ∈ wr) : ∃ H2', aNew (some at_) H2 b = some (k, H2') ∧ Upd wr H2 H' H2' := by
  unfold aNew at hn ⊢
  simp only at hn ⊢
  rw [h _ hk]
  split at hn
  · cases hn
    exact ⟨_, rfl, Upd.set h hl hk⟩
  · cases hn
end Go.Av
