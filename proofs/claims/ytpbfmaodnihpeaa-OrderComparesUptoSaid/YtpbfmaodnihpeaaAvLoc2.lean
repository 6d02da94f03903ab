/-
  What an operation looks at, and what it changes: every kind of operation. Own work.
  What is proved: the abstract evaluation of an operation depends on the blocks of its footprint alone, and changes those that it is said to write; no condition.
-/
import Derived.Test.YtpbfmaodnihpeaaAvLoc
namespace Go.Av
variable {H H' H2 : AH}

theorem Upd.of_set {wr : List Nat} {k : Nat} {b : ABlk} {H2' : AH} (h : Upd wr (H2.set k b) H' H2') (hk : k ∈ wr) : Upd wr H2 H' H2' := ⟨by rw [h.1]; simp, fun id => by
  rw [h.2 id]
  split
  · rfl
  · rename_i hi
    rw [List.getElem?_set, if_neg]
    intro e; subst e; exact hi hk⟩

theorem aStore_local {n : Nat} {p v : AV} (he : aStore n H p v = some H') (h : ∀ id ∈ p.hid, H2[id]? = H[id]?) (hl : H2.length = H.length) : ∃ H2', aStore n H2 p v = some H2' ∧ Upd p.hid H2 H' H2' := by
  unfold aStore at he ⊢
  split at he
  · rename_i id r off cs hv
    have hid : id ∈ (AV.ptr id r off).hid := by simp [AV.hid]
    rw [h id hid]
    split at he
    · rename_i sz rs _
      split at he
      · rename_i row hrow
        split at he
        · rename_i hc
          cases he
          simp only [hrow, hc, if_true]
          exact ⟨_, rfl, Upd.set h hl hid⟩
        · cases he
      · cases he
    · cases he
  · cases he

theorem aConvert_local {cfg : Cfg} {at_ : Nat} {s d : TypeId} {x r : AV} {wr : List Nat} (he : aConvert cfg (some at_) s d x H = some (r, H')) (h : ∀ id ∈ x.hid, H2[id]? = H[id]?) (hwr : ∀ id ∈ wr, H2[id]? = H[id]?) (hl : H2.length = H.length) (hk : at_ ∈ wr) :
    ∃ H2', aConvert cfg (some at_) s d x H2 = some (r, H2') ∧ Upd wr H2 H' H2' := by
  unfold aConvert at he ⊢
  split at he
  · cases he; exact ⟨H2, rfl, Upd.same hwr⟩
  · cases he; exact ⟨H2, rfl, Upd.same hwr⟩
  · rename_i sd e t hs hd
    split at he
    · rename_i hte
      split at he
      · rename_i k H1 hnew
        cases he
        obtain ⟨H2', e1, e2⟩ := loc_new hnew hwr hl hk
        simp only [e1]
        exact ⟨H2', rfl, e2⟩
      · cases he
    · cases he
  · rename_i e hs hd hne
    split at he
    · rename_i rows hte hrows
      rw [rowsOf_agr h]
      split at he
      · rename_i bs hbs
        cases he
        exact ⟨H2, by simp only [hte, hrows, hbs], Upd.same hwr⟩
      · cases he
    · cases he
  · cases he

theorem aMake_local {cfg : Cfg} {at_ : Nat} {t : TypeId} {l c r : AV} {wr : List Nat} (he : aMake cfg (some at_) t l c H = some (r, H')) (hwr : ∀ id ∈ wr, H2[id]? = H[id]?) (hl : H2.length = H.length) (hk : at_ ∈ wr) :
    ∃ H2', aMake cfg (some at_) t l c H2 = some (r, H2') ∧ Upd wr H2 H' H2' := by
  unfold aMake at he ⊢
  split at he
  · split at he
    · split at he
      · rename_i h1
        split at he
        · rename_i h2
          split at he
          · rename_i k H1 hnew
            cases he
            obtain ⟨H2', e1, e2⟩ := loc_new hnew hwr hl hk
            simp only [h1, if_true, h2, e1]
            exact ⟨H2', by simp, e2⟩
          · cases he
        · cases he
      · cases he
    · cases he
  · cases he

theorem aAppend_local {cfg : Cfg} {at_ : Nat} {t xt : TypeId} {s x r : AV} {wr : List Nat} (he : aAppend cfg (some at_) t xt s x H = some (r, H')) (hx : ∀ id ∈ x.hid, H2[id]? = H[id]?) (hwr : ∀ id ∈ wr, H2[id]? = H[id]?) (hl : H2.length = H.length) (hk : at_ ∈ wr)
    (hs : ∀ id ∈ s.hid, id ∈ wr) : ∃ H2', aAppend cfg (some at_) t xt s x H2 = some (r, H2') ∧ Upd wr H2 H' H2' := by
  unfold aAppend at he ⊢
  split at he
  case h_2 => cases he
  split at he
  case h_2 => cases he
  split at he
  case isFalse => cases he
  rename_i h1
  rw [if_pos h1, srcRows_agr hx, srcFree_agr hx]
  split at he
  case h_2 => cases he
  split at he
  · split at he
    · rename_i h2
      cases he
      rw [if_pos h2]
      exact ⟨H2, rfl, Upd.same hwr⟩
    · rename_i h2
      rw [if_neg h2]
      split at he
      · rename_i h3
        rw [if_pos h3]
        split at he
        · rename_i k H1 hnew
          cases he
          obtain ⟨H2', e1, e2⟩ := loc_new hnew hwr hl hk
          simp only [e1]
          exact ⟨H2', rfl, e2⟩
        · cases he
      · cases he
  · rename_i id off len
    have hid : id ∈ wr := hs id (by simp [AV.hid])
    rw [hwr id hid]
    split at he
    · rename_i sz rs _
      split at he
      · rename_i h2
        rw [if_pos h2]
        split at he
        · rename_i k H1 hnew
          cases he
          obtain ⟨H2', e1, e2⟩ := loc_new (H2 := H2.set id .dead) hnew (fun j hj => by
            rw [List.getElem?_set, List.getElem?_set]
            split
            · rw [hl]
            · exact hwr j hj) (by simpa using hl) hk
          simp only [e1]
          exact ⟨H2', rfl, e2.of_set hid⟩
        · cases he
      · cases he
    · cases he
  · cases he

theorem callT_local {cfg : Cfg} {cf : Orac} {at_ : Nat} {t : Tgt} {args : List AV} {r : AV} (he : callT cfg cf (some at_) t args H = some (r, H')) (hw : (fpCall cfg at_ t args).wall = false) (hl : H2.length = H.length)
    (hr : ∀ id ∈ (fpCall cfg at_ t args).rd, H2[id]? = H[id]?) (hwr : ∀ id ∈ (fpCall cfg at_ t args).wr, H2[id]? = H[id]?) : ∃ H2', callT cfg cf (some at_) t args H2 = some (r, H2') ∧ Upd (fpCall cfg at_ t args).wr H2 H' H2' := by
  cases t with
  | y id => simp [fpCall] at hw
  | f f =>
    simp only [fpCall, callT] at *
    cases hm : cfg.mode f with
    | scal =>
      simp only [hm] at *
      have hs : (args.map fun a => (a.snap H2).fg) = (args.map fun a => (a.snap H).fg) := List.map_congr_left fun p hp => by rw [snap_agr fun id hi => hr id (List.mem_flatMap.2 ⟨p, hp, hi⟩)]
      rw [hs]
      split at he
      case isFalse => cases he
      rename_i h1
      rw [if_pos h1]
      obtain ⟨q, hq, he⟩ := Option.bind_eq_some_iff.1 he
      rw [hq]
      split at he
      case isFalse => cases he
      rename_i h2
      cases he
      exact ⟨H2, by simp [h2], Upd.same hwr⟩
    | pfrz =>
      simp only [hm] at *
      split at he
      case isFalse => cases he
      rename_i h1
      rw [if_pos h1]
      obtain ⟨q, hq, he⟩ := Option.bind_eq_some_iff.1 he
      rw [hq]
      split at he
      case isFalse => cases he
      rename_i h2
      cases he
      exact ⟨H2, by simp [h2], Upd.same (fun id hi => by simp [FP.none] at hi)⟩
    | pown =>
      simp only [hm] at *
      split at he
      case isFalse => cases he
      rename_i h1
      rw [if_pos h1]
      obtain ⟨q, hq, he⟩ := Option.bind_eq_some_iff.1 he
      rw [hq]
      simp only [Option.bind_some]
      unfold ownRes at he ⊢
      split at he
      · split at he
        · split at he
          · rename_i h2
            rw [if_pos h2]
            split at he
            · rename_i k H1 hnew
              cases he
              obtain ⟨H2', e1, e2⟩ := loc_new hnew hwr hl (by simp)
              simp only [e1]
              exact ⟨H2', rfl, e2⟩
            · cases he
          · cases he
        · cases he
      · split at he
        · rename_i h2
          cases he
          rw [if_pos h2]
          exact ⟨H2, rfl, Upd.same hwr⟩
        · cases he
    | imp => simp [hm] at hw
    | ifrz => simp [hm] at hw

theorem evOper_local {cfg : Cfg} {cf : Orac} {frz : Bool} {at_ : Nat} {o : Oper} {x : Operand → AV} {r : AV} (he : evOper cfg cf frz (some at_) o x H = some (r, H')) (hw : (fpOper cfg frz at_ o x).wall = false) (hl : H2.length = H.length)
    (hr : ∀ id ∈ (fpOper cfg frz at_ o x).rd, H2[id]? = H[id]?) (hwr : ∀ id ∈ (fpOper cfg frz at_ o x).wr, H2[id]? = H[id]?) : ∃ H2', evOper cfg cf frz (some at_) o x H2 = some (r, H2') ∧ Upd (fpOper cfg frz at_ o x).wr H2 H' H2' := by
  obtain ⟨dst, op, ty, pos, after, guard⟩ := o
  cases frz with
  | true => simp [fpOper] at hw
  | false =>
    unfold evOper at he ⊢
    simp only [Bool.false_eq_true, if_false] at he ⊢
    unfold fpOper at hw hr hwr ⊢
    simp only [Bool.false_eq_true, if_false] at hw hr hwr ⊢
    cases op with
    | move a => simp only [evOp] at *; cases he; exact ⟨H2, rfl, Upd.same hwr⟩
    | assign a => simp only [evOp] at *; cases he; exact ⟨H2, rfl, Upd.same hwr⟩
    | pick c a b =>
      simp only [evOp] at *
      split at he
      · cases he; exact ⟨H2, rfl, Upd.same hwr⟩
      · cases he
    | alloc t =>
      simp only [evOp] at *
      split at he
      · split at he
        · rename_i h1
          rw [if_pos h1]
          split at he
          · rename_i k H1 hnew
            cases he
            obtain ⟨H2', e1, e2⟩ := loc_new hnew hwr hl (by simp)
            simp only [e1]
            exact ⟨H2', rfl, e2⟩
          · cases he
        · cases he
      · cases he
    | box t a =>
      simp only [evOp] at *
      split at he
      · split at he
        · rename_i k H1 hnew
          cases he
          obtain ⟨H2', e1, e2⟩ := loc_new hnew hwr hl (by simp)
          simp only [e1]
          exact ⟨H2', rfl, e2⟩
        · cases he
      · cases he
    | build t parts =>
      simp only [evOp] at *
      split at he
      · split at he
        · rename_i h1
          rw [if_pos h1]
          split at he
          · split at he
            · obtain ⟨cs, hcs, e⟩ := Option.map_eq_some_iff.1 he
              cases e
              rw [hcs]
              exact ⟨H2, rfl, Upd.same hwr⟩
            · cases he
          · split at he
            · obtain ⟨cs, hcs, e⟩ := Option.map_eq_some_iff.1 he
              cases e
              rw [hcs]
              exact ⟨H2, rfl, Upd.same hwr⟩
            · cases he
          · cases he
        · cases he
      · cases he
    | buildSlice t len parts =>
      simp only [evOp] at *
      split at he
      · split at he
        · split at he
          · rename_i h1
            rw [if_pos h1]
            split at he
            · split at he
              · rename_i k H1 hnew
                cases he
                obtain ⟨H2', e1, e2⟩ := loc_new hnew hwr hl (by simp)
                simp only [e1]
                exact ⟨H2', rfl, e2⟩
              · cases he
            · cases he
          · cases he
        · cases he
      · cases he
    | load t a =>
      simp only [evOp] at *
      split at he
      · exact loc_read he (aLoad_agr hr) hwr
      · cases he
    | store t a v =>
      simp only [evOp] at *
      split at he
      · obtain ⟨H1, h1, e⟩ := Option.map_eq_some_iff.1 he
        cases e
        obtain ⟨H2', e1, e2⟩ := aStore_local h1 hwr hl
        rw [e1]
        exact ⟨H2', rfl, e2⟩
      · cases he
    | nilCheck a =>
      simp only [evOp] at *
      split at he <;> first | (cases he; exact ⟨H2, rfl, Upd.same hwr⟩) | cases he
    | binOp op t a b yt => simp only [evOp] at *; exact loc_read he rfl hwr
    | unOp op t a => simp only [evOp] at *; exact loc_read he rfl hwr
    | convert s d a => simp only [evOp] at *; exact aConvert_local he hr hwr hl (by simp)
    | makeFunc f first caps => simp only [evOp] at *; cases he; exact ⟨H2, rfl, Upd.same hwr⟩
    | makeSlice t l c => simp only [evOp] at *; exact aMake_local he hwr hl (by simp)
    | slice t a lo hi mx => simp only [evOp] at *; exact loc_read he (aSlice_agr hr) hwr
    | fieldAddr t a f => simp only [evOp] at *; exact loc_read he rfl hwr
    | field t a f => simp only [evOp] at *; exact loc_read he rfl hwr
    | indexAddr t a i => simp only [evOp] at *; exact loc_read he (aIndexAddr_agr hr) hwr
    | index t a i => simp only [evOp] at *; exact loc_read he rfl hwr
    | extract t i =>
      simp only [evOp] at *
      split at he
      · exact loc_read he rfl hwr
      · cases he
    | call c =>
      obtain ⟨callee, args, argTypes⟩ := c
      cases callee with
      | value f =>
        simp only at *
        obtain ⟨t, ht, he⟩ := Option.bind_eq_some_iff.1 he
        simp only [ht] at hw hr hwr ⊢
        exact callT_local he hw hl hr hwr
      | invoke rv nm => simp at hw
      | builtin b =>
        simp only [evOp] at he ⊢
        simp only at hw hr hwr
        generalize args.toList = al at *
        generalize argTypes.toList = tl at *
        split at he
        · rename_i hb; cases hb; exact loc_read he (aLen_agr hr) hwr
        · rename_i hb; cases hb; exact aAppend_local he hr hwr hl (by simp) (fun id hi => by simp [hi])
        · rename_i hb; cases hb; simp at hw
        · rename_i hb; cases hb; simp at hw
        · rename_i hb; cases hb; exact loc_read he rfl hwr
        · rename_i hb; cases hb; exact loc_read he rfl hwr
        · cases he
    | _ => simp only [evOp] at he; cases he
end Go.Av
