/-
  Parts of the proof of SpecMakesUptoSaid, put together: the abstract evaluation and its contracts. Own work.
  What is proved: each lemma as it stands; no condition.
-/
import Derived.KernelRfl
import Derived.Test.YtonmmmgffeoiiaaGreatProg
import Derived.Lib.Bytealg
import Derived.Test.YtonmmmgffeoiiaaGreatRows
import Derived.ProofKit
import Derived.OpenShut
import Derived.JoinedCond
import Derived.ChangeArms
import Derived.RowKit
import Derived.WalkKit
import Derived.Test.YtonmmmgffeoiiaaGreatZSpecMakesM2

section
namespace Go.Av
variable {α : Type} {r : α} {H : AH}

theorem kRowsOf_some {n : Nat} {x : AV} {k : List (List AV) → Option α} (h : kRowsOf H n x k = some r) : ∃ rows, rowsOf H n x = some rows ∧ k rows = some r := by
  unfold kRowsOf at h
  unfold rowsOf
  split at h
  · exact ⟨_, rfl, h⟩
  · exact ⟨_, rfl, h⟩
  · obtain ⟨h1, hz⟩ := cond_some h
    exact ⟨_, by simp only [h1, if_true], hz⟩
  · obtain ⟨sz, rs, h1, h⟩ := kBlk_some h
    obtain ⟨h2, hz⟩ := cond_some h
    rw [Bool.and_eq_true] at h2
    refine ⟨_, ?_, hz⟩
    simp only [h1]
    rw [if_pos]
    rw [Bool.and_eq_true, beq_iff_eq]
    exact ⟨Nat.eq_of_beq_eq_true h2.1, h2.2⟩
  · cases h

theorem kSrc_some {b : Bool} {n : Nat} {x : AV} {k : List (List AV) → Option α} (h : kSrc b H n x k = some r) : ∃ rows, srcRows H n x = some rows ∧ k rows = some r := by
  unfold kSrc at h
  rcases cond_or h with ⟨_, h⟩ | ⟨_, h⟩
  · obtain ⟨s, rfl, h⟩ := kStr_some h
    obtain ⟨h1, hz⟩ := cond_some h
    exact ⟨_, by simp only [srcRows, h1, if_true], hz⟩
  · obtain ⟨rows, h1, hz⟩ := kRowsOf_some h
    refine ⟨rows, ?_, hz⟩
    unfold srcRows
    split
    · simp [rowsOf] at h1
    · exact h1

theorem kConvert_some {cfg : Cfg} {nid : Option Nat} {s d : TypeId} {x : AV} {k : KH α} (h : kConvert cfg nid s d x H k = some r) : ∃ v H', aConvert cfg nid s d x H = some (v, H') ∧ k v H' = some r := by
  unfold kConvert at h
  unfold aConvert
  split at h
  · rename_i hs hd
    split at h
    · exact ⟨_, _, by simp only [hs, hd], h⟩
    · cases h
  · rename_i hs hd
    obtain ⟨b, rfl, hz⟩ := kStr_some h
    exact ⟨_, _, by simp only [hs, hd], hz⟩
  · rename_i e hs hd
    split at h
    · rename_i hte
      obtain ⟨b, rfl, h0⟩ := kStr_some h
      obtain ⟨i, H', h1, hz⟩ := kNew_some h0
      exact ⟨_, _, by simp only [hs, hd, hte, h1], hz⟩
    · cases h
  · rename_i e hs hd
    split at h
    · rename_i hte
      obtain ⟨rows, h1, h⟩ := kOpt_some h
      obtain ⟨bs, h2, hz⟩ := kOpt_some h
      refine ⟨.str bs, H, ?_, hz⟩
      simp only [hs, hd]
      cases x <;> first | (simp only [hte, h1, h2]; done) | (simp [rowsOf] at h1)
    · cases h
  · cases h

theorem kAppend_some {cfg : Cfg} {nid : Option Nat} {t xt : TypeId} {s x : AV} {k : KH α} (h : kAppend cfg nid t xt s x H k = some r) : ∃ v H', aAppend cfg nid t xt s x H = some (v, H') ∧ k v H' = some r := by
  unfold kAppend at h
  unfold aAppend
  split at h
  case h_2 => cases h
  rename_i e xd ht hxt
  split at h
  case h_2 => cases h
  rename_i ei hei
  obtain ⟨h1, h⟩ := cond_some h
  obtain ⟨news, h2, h⟩ := kSrc_some h
  simp only [ht, hxt, hei, h1, if_true, h2]
  split at h
  · rcases cond_or h with ⟨h3, hz⟩ | ⟨h3, h⟩
    · exact ⟨_, _, by simp only [h3, if_true], hz⟩
    · obtain ⟨h4, h⟩ := cond_some h
      obtain ⟨i, H', h5, hz⟩ := kNew_some h
      exact ⟨_, _, by simp only [h3, Bool.false_eq_true, if_false, h4, if_true, h5], hz⟩
  · obtain ⟨d, sz, rs, h3, h⟩ := kBlkW_some h
    obtain ⟨h4, h⟩ := cond_some h
    obtain ⟨i, H', h5, hz⟩ := kNew_some h
    exact ⟨_, _, by simp only [h3, h4, if_true, h5], hz⟩
  · cases h

theorem kLen_some {cfg : Cfg} {t : TypeId} {x : AV} {k : KV α} (h : kLen cfg t x H k = some r) : ∃ v, aLen cfg t x H = some v ∧ k v = some r := by
  unfold kLen at h
  unfold aLen
  split at h
  · rename_i ht
    obtain ⟨s, rfl, hz⟩ := kStr_some h
    exact ⟨_, by simp only [ht], hz⟩
  · rename_i e ht
    split at h
    · exact ⟨_, by simp only [ht], h⟩
    · exact ⟨_, by simp only [ht], h⟩
    · exact ⟨_, by simp only [ht], h⟩
    · exact ⟨_, by simp only [ht], h⟩
    · cases h
  · rename_i n e ht
    exact ⟨_, by simp only [ht], h⟩
  · rename_i a b ht
    split at h
    · exact ⟨_, by simp only [ht], h⟩
    · obtain ⟨b, h1, h⟩ := kOpt_some h
      split at h
      · exact ⟨_, by simp only [ht, h1], h⟩
      · cases h
    · cases h
  · cases h

theorem kMake_some {cfg : Cfg} {nid : Option Nat} {t : TypeId} {l c : AV} {k : KH α} (h : kMake cfg nid t l c H k = some r) : ∃ v H', aMake cfg nid t l c H = some (v, H') ∧ k v H' = some r := by
  unfold kMake at h
  unfold aMake
  split at h
  case h_2 => cases h
  rename_i e ht
  split at h
  case h_2 => cases h
  rename_i ei hei
  obtain ⟨h1, h⟩ := cond_some h
  obtain ⟨n, rfl, ha⟩ := kInt_some h
  obtain ⟨m, rfl, hb⟩ := kInt_some ha
  obtain ⟨h2, hd⟩ := cond_some hb
  obtain ⟨i, H', h3, hz⟩ := kNew_some hd
  rw [Bool.and_eq_true, Bool.and_eq_true, Bool.and_eq_true, leInt_iff, leInt_iff, leInt_iff, leInt_iff] at h2
  exact ⟨_, _, by simp only [ht, hei, h1, if_true]; rw [if_pos ⟨h2.1.1.1, h2.1.1.2, h2.1.2, h2.2⟩]; simp only [h3], hz⟩

theorem kNilCheck_some {v : AV} {k : KV α} {cfg : Cfg} {nid : Option Nat} {a : Operand} {ty : TypeId} {x : Operand → AV} (hx : x a = v) (h : kNilCheck v k = some r) : evOp cfg nid (.nilCheck a) ty x H = some (v, H) ∧ k v = some r := by
  unfold kNilCheck at h
  simp only [evOp, hx]
  split at h <;> first | exact ⟨rfl, h⟩ | cases h

theorem kClear_some {cfg : Cfg} {t : TypeId} {x : AV} {k : AH → Option α} (h : kClear cfg t x H k = some r) : ∃ H', aClear cfg t x H = some H' ∧ k H' = some r := by
  unfold kClear at h
  unfold aClear
  split at h
  case h_2 => cases h
  rename_i e he
  rw [he]
  split at h
  · exact ⟨H, rfl, h⟩
  · rename_i id off len
    split at h
    case h_2 => cases h
    rename_i ei hei
    obtain ⟨d, sz, rs, h1, h⟩ := kBlkW_some h
    obtain ⟨h2, hz⟩ := cond_some h
    exact ⟨_, by simp only [hei, h1, h2, if_true], hz⟩
  · cases h
theorem kCopy_some {cfg : Cfg} {t xt : TypeId} {d s : AV} {k : KH α} (h : kCopy cfg t xt d s H k = some r) : ∃ v H', aCopy cfg t d s H = some (v, H') ∧ k v H' = some r := by
  unfold kCopy at h
  unfold aCopy
  split at h
  case h_2 => cases h
  rename_i e he
  rw [he]
  split at h
  case h_2 => cases h
  rename_i id off len
  split at h
  case h_2 => cases h
  rename_i n hn
  obtain ⟨db, sz, rs, h1, h⟩ := kBlkW_some h
  obtain ⟨news, h2, h⟩ := kSrc_some h
  obtain ⟨h3, hz⟩ := cond_some h
  exact ⟨_, _, by simp only [hn, h1, h2, h3, if_true], hz⟩

theorem kOp_some {cfg : Cfg} {nid : Option Nat} {o : Op} {ty : TypeId} {x : Operand → AV} {k : KH α} (h : kOp cfg nid o ty x H k = some r) : ∃ v H', evOp cfg nid o ty x H = some (v, H') ∧ k v H' = some r := by
  cases o with
  | move a => exact ⟨_, _, rfl, h⟩
  | assign a => exact ⟨_, _, rfl, h⟩
  | pick c a b =>
    simp only [kOp] at h
    obtain ⟨t, h1, h⟩ := kBool_some h
    have := kPick_some (k := fun v => k v H) h
    exact ⟨_, _, by simp only [evOp, h1], this⟩
  | alloc t =>
    simp only [kOp] at h
    split at h
    · rename_i ti hti
      obtain ⟨h1, h⟩ := cond_some h
      obtain ⟨i, H', h2, hz⟩ := kNew_some h
      exact ⟨_, _, by simp only [evOp, hti, h1, if_true, h2], hz⟩
    · cases h
  | box t a =>
    simp only [kOp] at h
    obtain ⟨cs, h1, h⟩ := kCellsOf_some h
    obtain ⟨i, H', h2, hz⟩ := kNew_some h
    exact ⟨_, _, by simp only [evOp, h1, h2], hz⟩
  | build t parts =>
    simp only [kOp] at h
    split at h
    case h_2 => cases h
    rename_i ti hti
    obtain ⟨h1, h⟩ := cond_some h
    split at h
    · rename_i fs hfs
      split at h
      case h_2 => cases h
      rename_i ps hps
      obtain ⟨qs, h2, h3⟩ := placesK_of hps
      obtain ⟨cs, h4, hz⟩ := kFill_some (place' := fun i => qs[i]?) (fun i off n g hi => h3 i off n g hi) h
      exact ⟨_, _, by simp only [evOp, hti, h1, if_true, hfs, h2, h4, Option.map_some], hz⟩
    · rename_i m e hfs
      split at h
      case h_2 => cases h
      rename_i n hn
      obtain ⟨cs, h4, hz⟩ := kFill_some (place' := fun i => some (i * n, n)) (fun i off m g hi => by cases hi; rfl) h
      exact ⟨_, _, by simp only [evOp, hti, h1, if_true, hfs, hn, h4, Option.map_some], hz⟩
    · cases h
  | buildSlice t len parts =>
    simp only [kOp] at h
    split at h
    case h_2 => cases h
    rename_i e ht
    split at h
    case h_2 => cases h
    rename_i ei hei
    obtain ⟨h1, h⟩ := cond_some h
    obtain ⟨rows, h2, h⟩ := kRows_some h
    obtain ⟨i, H', h3, hz⟩ := kNew_some h
    exact ⟨_, _, by simp only [evOp, ht, hei, h1, if_true, h2, h3], hz⟩
  | load t a =>
    simp only [kOp] at h
    split at h
    case h_2 => cases h
    rename_i ti hti
    obtain ⟨v, h1, h⟩ := kLoad_some h
    exact ⟨_, _, by simp only [evOp, hti, h1, Option.map_some], kTy_some (k := fun v => k v H) h⟩
  | store t a v =>
    simp only [kOp] at h
    split at h
    case h_2 => cases h
    rename_i ti hti
    obtain ⟨H', h1, hz⟩ := kStore_some h
    exact ⟨_, _, by simp only [evOp, (ty_sz hti).1, h1, Option.map_some], hz⟩
  | nilCheck a =>
    obtain ⟨h1, h2⟩ := kNilCheck_some (cfg := cfg) (nid := nid) (ty := ty) (H := H) (x := x) (a := a) (k := fun v => k v H) rfl h
    exact ⟨_, _, h1, h2⟩
  | binOp op t a b yt =>
    simp only [kOp] at h
    obtain ⟨v, h1, h⟩ := kOpt_some h
    exact ⟨_, _, by simp only [evOp, h1, Option.map_some], kTy_some (k := fun v => k v H) h⟩
  | unOp op t a =>
    simp only [kOp] at h
    obtain ⟨v, h1, h⟩ := kOpt_some h
    exact ⟨_, _, by simp only [evOp, h1, Option.map_some], kTy_some (k := fun v => k v H) h⟩
  | convert s d a => exact kConvert_some h
  | makeFunc f first caps => exact ⟨_, _, rfl, h⟩
  | makeSlice t l c => exact kMake_some h
  | slice t a lo hi mx =>
    simp only [kOp] at h
    obtain ⟨v, h1, hz⟩ := kSlice_some h
    exact ⟨_, _, by simp only [evOp, h1, Option.map_some], hz⟩
  | fieldAddr t a f =>
    simp only [kOp] at h
    obtain ⟨v, h1, hz⟩ := kFieldAddr_some h
    exact ⟨_, _, by simp only [evOp, h1, Option.map_some], hz⟩
  | field t a f =>
    simp only [kOp] at h
    obtain ⟨v, h1, h⟩ := kField_some h
    exact ⟨_, _, by simp only [evOp, h1, Option.map_some], kTy_some (k := fun v => k v H) h⟩
  | indexAddr t a i =>
    simp only [kOp] at h
    obtain ⟨v, h1, hz⟩ := kIndexAddr_some h
    exact ⟨_, _, by simp only [evOp, h1, Option.map_some], hz⟩
  | index t a i =>
    simp only [kOp] at h
    obtain ⟨v, h1, h⟩ := kIndex_some h
    exact ⟨_, _, by simp only [evOp, h1, Option.map_some], kTy_some (k := fun v => k v H) h⟩
  | extract t i =>
    simp only [kOp] at h
    split at h
    · rename_i vs hvs
      obtain ⟨v, h1, h⟩ := kOpt_some h
      exact ⟨_, _, by simp only [evOp, hvs, h1, Option.map_some], kTy_some (k := fun v => k v H) h⟩
    · cases h
  | call c =>
    simp only [kOp] at h
    obtain ⟨callee, args, argTypes⟩ := c
    simp only at h
    simp only [evOp]
    split at h
    case h_2 => cases h
    generalize args.toList = al at *
    generalize argTypes.toList = tl at *
    split at h
    · obtain ⟨v, h1, hz⟩ := kLen_some h
      exact ⟨_, _, by simp only [h1, Option.map_some], hz⟩
    · exact kAppend_some h
    · rename_i d s t xt
      obtain ⟨v, H', h1, hz⟩ := kCopy_some h
      exact ⟨_, _, h1, hz⟩
    · obtain ⟨v, h1, hz⟩ := kClear_some h
      exact ⟨_, _, by simp only [h1, Option.map_some], hz⟩
    · obtain ⟨v, h1, h⟩ := kOpt_some h
      exact ⟨_, _, by simp only [h1, Option.map_some], kTy_some (k := fun v => k v H) h⟩
    · obtain ⟨v, h1, h⟩ := kOpt_some h
      exact ⟨_, _, by simp only [h1, Option.map_some], kTy_some (k := fun v => k v H) h⟩
    · cases h
  | _ => simp only [kOp] at h; cases h

def KfOk (cf : Orac) (kf : KF α) : Prop := ∀ t a H k r, kf t a H k = some r → ∃ q, cf t a H = some q ∧ k q = some r

theorem kCall_some {cfg : Cfg} {cf : Orac} {kf : KF α} (hkf : KfOk cf kf) {nid : Option Nat} {ty : TypeId} {t : Tgt} {args : List AV} {k : KH α} (h : kCall cfg cf kf nid ty t args H k = some r) : ∃ v H', callT cfg cf nid t args H = some (v, H') ∧ k v H' = some r := by
  cases t with
  | y id =>
    simp only [kCall] at h
    obtain ⟨q, h1, h⟩ := hkf _ _ _ _ _ h
    obtain ⟨p, h2, h⟩ := kOpt_some h
    exact ⟨_, _, by simp only [callT, h1, Option.bind_some]; exact h2, kTy_some (k := fun v => k v p.2) h⟩
  | f f =>
    simp only [kCall] at h
    cases hm : cfg.mode f with
    | scal =>
      simp only [hm] at h
      obtain ⟨h1, h⟩ := cond_some (kArgs_some h)
      split at h
      · obtain ⟨q, h5, h⟩ := hkf _ _ _ _ _ h
        have h3 := kTy_some (k := fun v => cond v.scalar (k v H) none) h
        obtain ⟨h4, hz⟩ := cond_some h3
        exact ⟨q.1, H, by simp only [callT, hm, h1, if_true, h5, Option.bind_some, h4], hz⟩
      obtain ⟨v, h2, h⟩ := kOpt_some h
      have h3 := kTy_some (k := fun v => cond v.scalar (k v H) none) h
      obtain ⟨h4, hz⟩ := cond_some h3
      unfold EVs at h2
      obtain ⟨q, h5, h6⟩ := Option.map_eq_some_iff.1 h2
      exact ⟨v, H, by simp only [callT, hm, h1, if_true, h5, Option.bind_some, h6, h4], hz⟩
    | pfrz =>
      simp only [hm] at h
      obtain ⟨h1, h⟩ := cond_some h
      split at h
      · obtain ⟨q, h5, h⟩ := hkf _ _ _ _ _ h
        have h2 := kFrzA_frz (k := fun v => kTy allTy cfg ty v fun v => cond (v.refsLt 0) (k v H) none) h
        have h3 := kTy_some (k := fun v => cond (v.refsLt 0) (k v H) none) h2
        obtain ⟨h4, hz⟩ := cond_some h3
        exact ⟨_, H, by simp only [callT, hm, h1, if_true, h5, Option.bind_some, h4], hz⟩
      obtain ⟨v, h2, h⟩ := kOpt_some h
      have h3 := kTy_some (k := fun v => cond (v.refsLt 0) (k v H) none) h
      obtain ⟨h4, hz⟩ := cond_some h3
      unfold EVf at h2
      obtain ⟨q, h5, h6⟩ := Option.map_eq_some_iff.1 h2
      exact ⟨v, H, by simp only [callT, hm, h1, if_true, h5, Option.bind_some, h6, h4], hz⟩
    | pown =>
      simp only [hm] at h
      split at h
      · rename_i t1 t2 _
        obtain ⟨h1, h⟩ := cond_some h
        obtain ⟨q, h2, h⟩ := kOpt_some h
        obtain ⟨p, h5, h6⟩ := Option.bind_eq_some_iff.1 h2
        unfold ovOf2 at h6
        split at h6
        case h_2 => cases h6
        rename_i a sc hp
        obtain ⟨h7, h6⟩ := cond_some h6
        split at h6
        case h_2 => cases h6
        rename_i o ho
        cases h6
        have h := kTy1_some (k := fun s => kOwn o (k (.tup [.nilS, s]) H) fun sz rs off len => kNew nid H (.rows true sz rs) fun i H' => k (.tup [.ms i off len, s]) H') h
        unfold ovOf at ho
        split at ho
        · rename_i hq
          cases ho
          refine ⟨.tup [.nilS, sc], H, ?_, h⟩
          have hq : a = .nilS := hq
          simp only [callT, hm, h1, if_true, h5, Option.bind_some, ownRes, hp, h7, hq, ownRes1, AV.refsLt, Option.map_some]
        · rename_i id off len hq
          split at ho
          case h_2 => cases ho
          rename_i sz rs hid
          split at ho
          case isFalse => cases ho
          rename_i hr
          cases ho
          simp only [kOwn] at h
          obtain ⟨i, H', h8, hz⟩ := kNew_some h
          have hq : a = .ms id off len := hq
          refine ⟨_, _, ?_, hz⟩
          simp only [callT, hm, h1, if_true, h5, Option.bind_some, ownRes, hp, h7, hq, ownRes1, hid, hr, h8, Option.map_some]
        · cases ho
      · obtain ⟨h1, h⟩ := cond_some h
        have key : ∃ q o, cf (.f f) args [] = some q ∧ ovOf q = some o ∧ (kOwn o (k .nilS H) fun sz rs off len => kNew nid H (.rows true sz rs) fun i H' => k (.ms i off len) H') = some r := by
          split at h
          · obtain ⟨q, h5, h⟩ := hkf _ _ _ _ _ h
            obtain ⟨o, h6, h⟩ := kOpt_some h
            exact ⟨q, o, h5, h6, h⟩
          · obtain ⟨o, h2, h⟩ := kOpt_some h
            unfold EVo at h2
            obtain ⟨q, h5, h6⟩ := Option.bind_eq_some_iff.1 h2
            exact ⟨q, o, h5, h6, h⟩
        obtain ⟨q, o, h5, h6, h⟩ := key
        unfold ovOf at h6
        split at h6
        · rename_i hq
          cases h6
          exact ⟨.nilS, H, by simp only [callT, hm, h1, if_true, h5, Option.bind_some, ownRes, ownRes1, hq, AV.refsLt], h⟩
        · rename_i id off len hq
          split at h6
          case h_2 => cases h6
          rename_i sz rs hid
          split at h6
          case isFalse => cases h6
          rename_i hr
          cases h6
          simp only [kOwn] at h
          obtain ⟨i, H', h7, hz⟩ := kNew_some h
          exact ⟨_, _, by simp only [callT, hm, h1, if_true, h5, Option.bind_some, ownRes, ownRes1, hq, hid, hr, h7], hz⟩
        · cases h6
    | inpl =>
      simp only [hm] at h
      have res : ∀ (kd : Nat) (ik : IntKind) (id : Nat) (v : MV) (k : KV α), kMRes kd ik id v k = some r → k (v.av id) = some r := by
        intro kd ik id v k h
        unfold kMRes at h
        split at h
        · cases v <;> first | exact h | exact absurd h (by simp [kMUnit])
        · cases v <;> first | exact h | exact absurd h (by simp [kMSl])
        · cases v with
          | int q n =>
            obtain ⟨h1, h2⟩ := cond_some h
            rw [← kindEq_eq h1] at h2
            exact h2
          | _ => exact absurd h (by simp [kMInt])
        · cases v <;> first | exact h | exact absurd h (by simp [kMBool])
      split at h
      case h_2 =>
        rename_i hids
        obtain ⟨h1, h⟩ := cond_some h
        obtain ⟨v1, h2, h⟩ := kOpt_some h
        unfold EVu at h2
        obtain ⟨r1, h5, h6⟩ := Option.bind_eq_some_iff.1 h2
        split at h6
        case isFalse => cases h6
        rename_i hrf
        have hav : r1.1 = v1.av 0 := by
          unfold mvOf at h6
          split at h6
          · rename_i e; cases h6; rw [e]; rfl
          · rename_i e; cases h6; rw [e]; rfl
          · rename_i i off len e
            rw [e] at hrf
            simp [AV.refsLt, Nat.blt_eq] at hrf
          · rename_i e; cases h6; rw [e]; rfl
          · rename_i e; cases h6; rw [e]; rfl
          · cases h6
        refine ⟨v1.av 0, H, ?_, res _ _ _ _ (fun v => k v H) h⟩
        simp only [callT, hm, hids, h1, if_true, h5, Option.bind_some, hrf]
        rw [hav]
      rename_i id l hids
      obtain ⟨h1, h⟩ := cond_some h
      obtain ⟨b, h2, h⟩ := kOpt_some h
      split at h
      case h_2 => cases h
      rename_i d sz rs
      obtain ⟨h3, h⟩ := cond_some h
      obtain ⟨q, h4, h⟩ := kOpt_some h
      unfold EVm at h4
      obtain ⟨r1, h5, h6⟩ := Option.bind_eq_some_iff.1 h4
      obtain ⟨q1, h7, h8⟩ := Option.bind_eq_some_iff.1 h6
      obtain ⟨v1, h9, h10⟩ := Option.map_eq_some_iff.1 h8
      cases h10
      have hav : q1.1.ren (fun _ => id) = v1.av id := by
        unfold mvOf at h9
        split at h9
        · rename_i e; cases h9; rw [e]; simp [AV.ren, renL, MV.av]
        · rename_i e; cases h9; rw [e]; simp [AV.ren, MV.av]
        · rename_i i off len e
          split at h9
          · cases h9; rw [e]; simp [AV.ren, MV.av]
          · cases h9
        · rename_i e; cases h9; rw [e]; simp [AV.ren, MV.av]
        · rename_i e; cases h9; rw [e]; simp [AV.ren, MV.av]
        · cases h9
      have hk : k (v1.av id) (H.set id (.rows true sz q1.2)) = some r := res _ _ _ _ (fun v => k v (H.set id (.rows true sz q1.2))) h
      refine ⟨v1.av id, _, ?_, hk⟩
      simp only [callT, hm, hids, h1, if_true, h2, h3, h5, Option.bind_some, h7, Option.map_some, hav]
    | inpf =>
      simp only [hm] at h
      split at h
      case h_2 => cases h
      rename_i id l hids
      obtain ⟨h1, h⟩ := cond_some h
      obtain ⟨b, h2, h⟩ := kOpt_some h
      split at h
      case h_2 => cases h
      rename_i d sz rs
      obtain ⟨h3, h⟩ := cond_some h
      obtain ⟨q, h4, h⟩ := kOpt_some h
      unfold EVd at h4
      obtain ⟨r1, h5, h6⟩ := Option.bind_eq_some_iff.1 h4
      have hk := kTy_some (k := fun v => k v (H.set id (.rows true sz q.2))) h
      refine ⟨q.1, _, ?_, hk⟩
      simp only [callT, hm, hids, h1, if_true, h2, h3, h5, Option.bind_some, h6, Option.map_some]
    | slf =>
      simp only [hm] at h
      split at h
      case h_2 => cases h
      rename_i id l hids
      obtain ⟨h1, h⟩ := cond_some h
      obtain ⟨b, h2, h⟩ := kOpt_some h
      split at h
      case h_2 => cases h
      rename_i d sz rs
      obtain ⟨h3, h⟩ := cond_some h
      obtain ⟨q, h4, h⟩ := kOpt_some h
      have h4 := EVk_some h4
      unfold EVx at h4
      obtain ⟨r1, h5, h6⟩ := Option.bind_eq_some_iff.1 h4
      have hk := kTy_some (k := fun v => k v (H.set id (.rows false sz (renR (fun _ => id) (renR (fun _ => 0) rs))))) h
      refine ⟨q, _, ?_, hk⟩
      simp only [callT, hm, hids, h1, if_true, h2, h3, h5, Option.bind_some, h6, Option.map_some]
    | imp =>
      simp only [hm] at h
      obtain ⟨q, h1, h⟩ := hkf _ _ _ _ _ h
      obtain ⟨p, h2, h⟩ := kOpt_some h
      exact ⟨_, _, by simp only [callT, hm, h1, Option.bind_some]; exact h2, kTy_some (k := fun v => k v p.2) h⟩
    | ifrz =>
      simp only [hm] at h
      obtain ⟨q, h1, h⟩ := hkf _ _ _ _ _ h
      obtain ⟨p, h2, h⟩ := kOpt_some h
      exact ⟨_, _, by simp only [callT, hm, h1, Option.bind_some]; exact h2, kTy_some (k := fun v => k v p.2) h⟩

theorem kTgt_some {f : AV} {args : List AV} {k : Tgt → List AV → Option α} (h : kTgt f args k = some r) : ∃ t, tgtOf f args = some t ∧ k t.1 t.2 = some r := by
  unfold kTgt at h
  unfold tgtOf
  split at h
  · exact ⟨_, rfl, h⟩
  · exact ⟨_, rfl, h⟩
  · cases h

theorem kFrzV_frz {ids : List Nat} {v : AV} {k : KV α} (hi : ∀ id ∈ v.msIds, id ∈ ids) (h : kFrzV H v k = some r) : k (v.frz ids H) = some r := by
  unfold kFrzV at h
  split at h
  · rename_i cs
    have := kFrzL_frz (ids := ids) (fun v hv id off len e => hi id (msIds_mem hv e)) h
    simpa [AV.frz, Function.comp_def] using this
  · rename_i cs
    have := kFrzL_frz (k := fun cs => k (.tup cs)) (ids := ids) (fun v hv id off len e => hi id (msIds_mem hv e)) h
    simpa [AV.frz, Function.comp_def] using this
  · rename_i h1 h2
    have h4 := (kFrz1_some h).1 ids (fun id off len e => hi id (by subst e; simp [AV.msIds, AV.msId])) rfl
    have e1 : v.frz ids H = v.frz1 ids H := by
      cases v <;> first | rfl | exact absurd rfl (h1 _) | exact absurd rfl (h2 _)
    rw [e1]; exact h4
theorem kFrzVs_frz {ids : List Nat} : ∀ {l : List AV} {k : List AV → Option α}, (∀ v ∈ l, ∀ id ∈ v.msIds, id ∈ ids) → kFrzVs H l k = some r → k (l.map fun v => v.frz ids H) = some r
  | [], k, _, h => h
  | a :: l, k, hi, h => by
    rw [kFrzVs] at h
    have h1 := kFrzV_frz (ids := ids) (hi a (by simp)) h
    exact kFrzVs_frz (k := fun l => k (a.frz ids H :: l)) (fun v hv => hi v (by simp [hv])) h1

theorem opEq_eq {a b : Operand} (h : opEq a b = true) : a = b := by
  cases a <;> cases b <;> simp_all [opEq]
theorem frzX_eq {y : Operand → AV} (a : Operand) : ∀ l : List Operand, frzX l (l.map y) y a = y a
  | [] => rfl
  | b :: l => by
    rw [List.map_cons, frzX]
    cases hb : opEq b a with
    | true => rw [cond_true, opEq_eq hb]
    | false => rw [cond_false]; exact frzX_eq a l
theorem kFrzO_some {cfg : Cfg} {nid : Option Nat} {o : Oper} {x : Operand → AV} {k : KH α} (h : kFrzO cfg nid o x H k = some r) :
    kOp cfg nid o.op o.type (fun a => (x a).frz (o.op.operands.toList.flatMap fun a => (x a).msIds) H) (frzBlks (o.op.operands.toList.flatMap fun a => (x a).msIds) H) k = some r := by
  unfold kFrzO at h
  have h1 := kFrzVs_frz (ids := o.op.operands.toList.flatMap fun a => (x a).msIds) (fun v hv id hid => by
    obtain ⟨a, ha, rfl⟩ := List.mem_map.1 hv
    exact List.mem_flatMap.2 ⟨a, ha, hid⟩) h
  rw [List.map_map] at h1
  have e : frzX o.op.operands.toList (o.op.operands.toList.map ((fun v => v.frz (o.op.operands.toList.flatMap fun a => (x a).msIds) H) ∘ x)) (fun a => (x a).frz (o.op.operands.toList.flatMap fun a => (x a).msIds) H) = fun a => (x a).frz (o.op.operands.toList.flatMap fun a => (x a).msIds) H := funext fun a => frzX_eq a _
  rw [e] at h1
  exact h1
theorem kOper_some {cfg : Cfg} {cf : Orac} {kf : KF α} (hkf : KfOk cf kf) {frz : Bool} {nid : Option Nat} {o : Oper} {x : Operand → AV} {k : KH α} (h : kOper cfg cf kf frz nid o x H k = some r) : ∃ v H', evOper cfg cf frz nid o x H = some (v, H') ∧ k v H' = some r := by
  have core : ∀ {x : Operand → AV} {H : AH}, (match o.op with
      | .call c =>
        match c.callee with
        | .value f => kTgt (x f) (c.args.toList.map x) fun t al => kCall cfg cf kf nid o.type t al H k
        | _ => kOp cfg nid o.op o.type x H k
      | _ => kOp cfg nid o.op o.type x H k) = some r → ∃ v H', (match o.op with
        | .call c =>
          match c.callee with
          | .value f => (tgtOf (x f) (c.args.toList.map x)).bind fun t => callT cfg cf nid t.1 t.2 H
          | _ => evOp cfg nid o.op o.type x H
        | _ => evOp cfg nid o.op o.type x H) = some (v, H') ∧ k v H' = some r := by
    intro x H h
    cases ho : o.op with
    | call c =>
      simp only [ho] at h ⊢
      cases hc : c.callee with
      | value f =>
        simp only [hc] at h ⊢
        obtain ⟨t, h1, h⟩ := kTgt_some h
        obtain ⟨v, H', h2, hz⟩ := kCall_some hkf h
        exact ⟨v, H', by rw [h1]; exact h2, hz⟩
      | _ => simp only [hc] at h ⊢; exact kOp_some h
    | _ => simp only [ho] at h ⊢; exact kOp_some h
  unfold kOper at h
  unfold evOper
  cases frz with
  | true =>
    simp only [cond_true] at h
    simp only [if_true]
    refine core (x := fun a => (x a).frz (o.op.operands.toList.flatMap fun a => (x a).msIds) H) (H := frzBlks (o.op.operands.toList.flatMap fun a => (x a).msIds) H) ?_
    cases ho : o.op with
    | call c =>
      simp only [ho] at h ⊢
      cases hc : c.callee with
      | value f =>
        simp only [hc] at h ⊢
        have h1 := kFrzVs_frz (ids := (Op.call c).operands.toList.flatMap fun a => (x a).msIds) (fun v hv id hid => by
          obtain ⟨a, ha, rfl⟩ := List.mem_map.1 hv
          refine List.mem_flatMap.2 ⟨a, ?_, hid⟩
          simp [Op.operands, Call.operands, hc, Array.mem_toList_iff.1 ha]) h
        rw [List.map_map] at h1
        exact h1
      | _ => simp only [hc] at h ⊢; have h := kFrzO_some h; rw [ho] at h; exact h
    | _ => simp only [ho] at h ⊢; have h := kFrzO_some h; rw [ho] at h; exact h
  | false => simp only [cond_false] at h; simp only [Bool.false_eq_true, if_false]; exact core h

theorem set_self {fr : List AV} {d : Nat} {v : AV} (h : fr[d]? = some v) : fr.set d v = fr := by
  obtain ⟨hl, e⟩ := List.getElem?_eq_some_iff.1 h
  rw [← e]; exact List.set_getElem_self hl

theorem kWanted_some {ops : Array Oper} {fr : List AV} {o : Oper} {k : Bool → List AV → Option α} (h : kWanted ops fr o k = some r) : ∃ b, wantedA ops fr o = some b ∧ k b fr = some r := by
  unfold kWanted at h
  unfold wantedA
  split at h
  · rename_i hg; rw [hg]; exact ⟨true, rfl, h⟩
  · rename_i j want hg
    rw [hg]
    simp only
    split at h
    · rename_i d hd
      rw [hd]
      simp only
      obtain ⟨v, h1, h⟩ := kOpt_some h
      rw [h1]
      split at h
      · split at h
        · exact ⟨false, rfl, h⟩
        · cases h
      · obtain ⟨b, rfl, h⟩ := kBool_some h
        simp only
        refine ⟨_, rfl, ?_⟩
        rcases cond_or h with ⟨rfl, h⟩ | ⟨rfl, h⟩
        · rw [set_self h1] at h
          cases want <;> exact h
        · rw [set_self h1] at h
          cases want <;> exact h
    · cases h

theorem kOps_some {cfg : Cfg} {cf : Orac} {kf : KF α} (hkf : KfOk cf kf) {f rid : Nat} {ops : Array Oper} : ∀ {l : List Oper} {n : Nat} {fr : List AV} {H : AH} {k : List AV → AH → Option α}, kOps cfg cf kf f rid ops n l fr H k = some r → ∃ q, evOps cfg cf f rid ops n l fr H = some q ∧ k q.1 q.2 = some r
  | [], n, fr, H, k, h => ⟨(fr, H), rfl, h⟩
  | o :: l, n, fr, H, k, h => by
    rw [kOps] at h
    obtain ⟨b, h1, h⟩ := kWanted_some h
    rw [evOps, h1]
    simp only [Option.bind_some]
    rcases cond_or h with ⟨rfl, h⟩ | ⟨rfl, h⟩
    · obtain ⟨v, H', h2, h⟩ := kOper_some hkf h
      simp only [if_true, h2, Option.bind_some]
      exact kOps_some hkf h
    · simp only [Bool.false_eq_true, if_false]
      exact kOps_some hkf h

theorem cond_if {β : Type} (b : Bool) (x y : β) : cond b x y = if b then x else y := by cases b <;> rfl

theorem kDraw_some {cfg : Cfg} {cf : Orac} {kf : KF α} (hkf : KfOk cf kf) {f rid : Nat} {ops : Array Oper} : ∀ {l : List Oper} {n at_ : Nat} {fr : List AV} {H : AH} {k : List FP → List AV → AH → Option α}, kDraw cfg cf kf f rid ops n at_ l fr H k = some r →
    ∃ q, evDraw cfg cf f rid ops n at_ l fr H = some q ∧ k q.1 q.2.1 q.2.2 = some r
  | [], n, at_, fr, H, k, h => ⟨([], fr, H), rfl, h⟩
  | o :: l, n, at_, fr, H, k, h => by
    rw [kDraw] at h
    obtain ⟨b, h1, h⟩ := kWanted_some h
    rw [evDraw, h1]
    simp only [Option.bind_some]
    rcases cond_or h with ⟨rfl, h9⟩ | ⟨rfl, h9⟩
    · obtain ⟨v, H', h2, h8⟩ := kOper_some hkf h9
      simp only [if_true, h2, Option.bind_some]
      rw [cond_if] at h8
      obtain ⟨q, h3, hz⟩ := kDraw_some hkf h8
      exact ⟨_, by rw [h3]; rfl, hz⟩
    · simp only [Bool.false_eq_true, if_false]
      rw [cond_if] at h9
      obtain ⟨q, h3, hz⟩ := kDraw_some hkf h9
      exact ⟨_, by rw [h3]; rfl, hz⟩

theorem known_self {fr : List AV} {c : Operand} {b : Bool} (h : opd fr c = .bool b) : known fr c b = fr := by
  cases c with
  | tmp d =>
    simp only [known]
    have hg : fr[d]? = some (.bool b) := by
      have h' : fr.getD d .junk = .bool b := h
      rw [List.getD_eq_getElem?_getD] at h'
      cases hd : fr[d]? with
      | none => rw [hd] at h'; cases h'
      | some v => rw [hd] at h'; simp at h'; rw [h']
    exact set_self hg
  | _ => rfl

theorem kCode_some {cfg : Cfg} {cf : Orac} {kf : KF α} (hkf : KfOk cf kf) {f : Nat} {rd : Option Nat} {bs : Nat} : ∀ (c : Code) {fr : List AV} {H : AH} {k : KE α}, kCode cfg cf kf f rd bs c fr H k = some r → ∃ q, evC cfg cf f rd bs c fr H = some q ∧ k q.1 q.2.1 q.2.2 = some r := by
  intro c
  induction c with
  | skip => intro fr H k h; exact ⟨(.normal, fr, H), by simp only [evC], by simpa only [kCode] using h⟩
  | label l => intro fr H k h; exact ⟨(.normal, fr, H), by simp only [evC], by simpa only [kCode] using h⟩
  | exit id => intro fr H k h; exact ⟨(.exit id, fr, H), by simp only [evC], by simpa only [kCode] using h⟩
  | ret => intro fr H k h; exact ⟨(.ret, fr, H), by simp only [evC], by simpa only [kCode] using h⟩
  | goto l => intro fr H k h; simp only [kCode] at h; cases h
  | refuse s => intro fr H k h; simp only [kCode] at h; cases h
  | region id ops draw =>
    intro fr H k h
    simp only [kCode] at h
    simp only [evC]
    cases draw with
    | true =>
      simp only [cond_true] at h
      simp only [if_true]
      obtain ⟨h1, h⟩ := cond_some h
      obtain ⟨q, h2, h⟩ := kDraw_some hkf h
      obtain ⟨h3, hz⟩ := cond_some h
      exact ⟨(.normal, q.2), by simp only [h1, if_true, h2, Option.bind_some, h3], hz⟩
    | false =>
      simp only [cond_false] at h
      simp only [Bool.false_eq_true, if_false]
      obtain ⟨q, h2, hz⟩ := kOps_some hkf h
      exact ⟨(.normal, q), by simp only [h2, Option.map_some], hz⟩
  | seq x y ihx ihy =>
    intro fr H k h
    simp only [kCode] at h
    simp only [evC]
    obtain ⟨q, h1, h⟩ := ihx h
    rw [h1]
    simp only [Option.bind_some]
    unfold kSeq at h
    cases hq : q.1 with
    | normal => simp only [hq] at h ⊢; exact ihy (kCutTo_some h)
    | exit id => simp only [hq] at h ⊢; exact ⟨_, rfl, h⟩
    | goto l => simp only [hq] at h ⊢; exact ⟨_, rfl, h⟩
    | ret => simp only [hq] at h ⊢; exact ⟨_, rfl, h⟩
  | cond cnd x y ihx ihy =>
    intro fr H k h
    simp only [kCode] at h
    simp only [evC]
    obtain ⟨b, h1, h⟩ := kBool_some h
    rw [h1]
    simp only
    rcases cond_or h with ⟨rfl, h⟩ | ⟨rfl, h⟩
    · rw [known_self h1] at h
      simp only [if_true]; exact ihx h
    · rw [known_self h1] at h
      simp only [Bool.false_eq_true, if_false]; exact ihy h
  | block id x ih =>
    intro fr H k h
    simp only [kCode] at h
    simp only [evC]
    obtain ⟨q, h1, h⟩ := ih h
    rw [h1]
    simp only [Option.bind_some]
    unfold kBlock at h
    cases hq : q.1 with
    | normal => simp only [hq] at h ⊢; exact ⟨_, rfl, by rw [hq]; exact h⟩
    | exit id' =>
      simp only [hq] at h ⊢
      rcases cond_or h with ⟨h2, hz⟩ | ⟨h2, hz⟩
      · exact ⟨_, by simp only [h2, if_true]; rfl, hz⟩
      · exact ⟨q, by simp only [h2, Bool.false_eq_true, if_false], by rw [hq]; exact hz⟩
    | goto l => simp only [hq] at h ⊢; exact ⟨_, rfl, by rw [hq]; exact h⟩
    | ret => simp only [hq] at h ⊢; exact ⟨_, rfl, by rw [hq]; exact h⟩
  | loop x ih =>
    intro fr H k h
    simp only [kCode] at h
    simp only [evC]
    obtain ⟨q, h1, hz⟩ := kOpt_some h
    exact ⟨(q.1, maskFr (cfg.keepOut f (firstRid x)) q.2.1, q.2.2), by rw [h1]; rfl, hz⟩
  | scope x ih =>
    intro fr H k h
    simp only [kCode] at h
    simp only [evC]
    obtain ⟨q, h1, h⟩ := ih h
    rw [h1]
    simp only [Option.bind_some]
    unfold kScope at h
    cases hq : q.1 with
    | goto l => simp only [hq] at h; cases h
    | normal => simp only [hq] at h ⊢; exact ⟨_, rfl, by rw [hq]; exact h⟩
    | exit id => simp only [hq] at h ⊢; exact ⟨_, rfl, by rw [hq]; exact h⟩
    | ret => simp only [hq] at h ⊢; exact ⟨_, rfl, by rw [hq]; exact h⟩
  | rangeFunc g ps assign body =>
    intro fr H k h
    simp only [kCode] at h
    simp only [evC]
    generalize (liftFr (cfg.lift f (firstRid body)) fr H).1 = fr at h ⊢
    generalize (liftFr (cfg.lift f (firstRid body)) _ H).2 = H at h ⊢
    unfold kRange at h
    obtain ⟨h1, h⟩ := cond_some h
    split at h
    case h_2 => cases h
    rename_i g' first caps hg
    obtain ⟨h2, h⟩ := cond_some h
    obtain ⟨q, h3, h⟩ := hkf _ _ _ _ _ h
    unfold kRangeEnd at h
    obtain ⟨b, h4, h⟩ := kOpt_some h
    unfold kPend at h
    split at h
    case h_2 => cases h
    rename_i pend st
    have hx : ¬ (cfg.ext g').isSome = true := by
      cases he : cfg.ext g' with
      | none => simp
      | some s => rw [he] at h2; cases h2
    have hst : st ≠ .busy := by
      intro e; subst e; simp at h
    have hpk : kPendK pend k (gc bs (maskFr (cfg.keepOut f (firstRid body)) fr) (q.2.set H.length .dead)).1 (gc bs (maskFr (cfg.keepOut f (firstRid body)) fr) (q.2.set H.length .dead)).2 = some r := by
      cases st with
      | busy => exact absurd rfl hst
      | _ => exact h
    unfold evRange
    rw [if_pos h1, hg]
    simp only [hx, h3, Option.bind_some, h4]
    unfold kPendK at hpk
    cases st with
    | busy => exact absurd rfl hst
    | _ =>
      cases pend with
      | none => exact ⟨_, rfl, hpk⟩
      | some c =>
        cases c <;> first | exact ⟨_, rfl, hpk⟩ | cases hpk

theorem kRes_some {cfg : Cfg} {fr : List AV} : ∀ {rs : List ResultVar} {k : List AV → Option α}, kRes cfg fr H rs k = some r → ∃ vs, resVals rs cfg.ty fr H = some vs ∧ k vs = some r
  | [], k, h => ⟨[], rfl, h⟩
  | .tmp t :: l, k, h => by
    rw [kRes] at h
    obtain ⟨vs, h1, hz⟩ := kRes_some h
    exact ⟨_, by simp only [resVals, h1, Option.map_some], hz⟩
  | .cell a t :: l, k, h => by
    rw [kRes] at h
    split at h
    · rename_i ti hti
      obtain ⟨v, h1, h⟩ := kLoad_some h
      have h2 := kTy_some (k := fun v => kRes cfg fr H l fun vs => k (v :: vs)) h
      obtain ⟨vs, h3, hz⟩ := kRes_some h2
      exact ⟨_, by simp only [resVals, hti, h1, Option.bind_some, h3, Option.map_some], hz⟩
    · cases h

end Go.Av
end

section
namespace Go.Av
variable {α : Type}

def fxGo (i : Nat) (l : List (Nat × AV)) : Nat → List AV
  | 0 => []
  | n + 1 => match l with
    | [] => .junk :: fxGo (i + 1) [] n
    | p :: l' => if Nat.beq p.1 i then p.2 :: fxGo (i + 1) l' n else .junk :: fxGo (i + 1) (p :: l') n

def fx (n : Nat) (l : List (Nat × AV)) : List AV := fxGo 0 l n

def bodyOf (fn : Func) : Code := match fn.body with | some c => c | none => .skip

def sub : Code → List Nat → Code
  | c, [] => c
  | .seq a b, i :: l => match i with | 0 => sub a l | _ => sub b l
  | .cond _ a b, i :: l => match i with | 0 => sub a l | _ => sub b l
  | .block _ a, _ :: l => sub a l
  | .loop a, _ :: l => sub a l
  | .scope a, _ :: l => sub a l
  | .rangeFunc _ _ a b, i :: l => match i with | 0 => sub a l | _ => sub b l
  | c, _ => c

def rngB (fn : Func) (f : Nat) (p : List Nat) (fr : List AV) (pend : Option Code) (st : LoopState) : ABlk :=
  match sub (bodyOf fn) p with
  | .rangeFunc _ ps a b => .loop f fr ps.toList a b pend st
  | _ => .dead
noncomputable def kLp (k : Nat) (ts : Option (List Tmp)) (ls : List (Tmp × Nat)) (L : Den) (A : Ex × List AV × AH → Option α) : KE α := fun e fr H =>
  match e with
  | .normal => kOpt (LOOP k ts ls L (headFr k ts ls fr H)) A
  | e => A (e, fr, H)

theorem loop_stepK {cfg : Cfg} {kf : KF α} (hkf : KfOk (EV cfg) kf) {f : Nat} {rd : Option Nat} {bs : Nat} {c : Code} {k : Nat} {ts : Option (List Tmp)} {ls : List (Tmp × Nat)} {A : Ex × List AV × AH → Option α} {fr : List AV} {H : AH} {r : α}
    (h : kCode cfg (EV cfg) kf f rd bs c fr H (kLp k ts ls (evC cfg (EV cfg) f rd bs c) A) = some r) : kOpt (LOOP k ts ls (evC cfg (EV cfg) f rd bs c) (fr, H)) A = some r := by
  obtain ⟨⟨e, fr1, H1⟩, h1, h2⟩ := kCode_some hkf c h
  cases e with
  | normal =>
    simp only [kLp] at h2
    cases hl : LOOP k ts ls (evC cfg (EV cfg) f rd bs c) (headFr k ts ls fr1 H1) with
    | none => rw [hl] at h2; cases h2
    | some q =>
      rw [hl] at h2
      rw [LOOP_step (p := (fr, H)) h1 hl]
      exact h2
  | exit id => rw [LOOP_exit (p := (fr, H)) h1 (fun x => by intro h; cases h)]; exact h2
  | goto l => rw [LOOP_exit (p := (fr, H)) h1 (fun x => by intro h; cases h)]; exact h2
  | ret => rw [LOOP_exit (p := (fr, H)) h1 (fun x => by intro h; cases h)]; exact h2

def kFinG (cfg : Cfg) (ls : List (Tmp × Nat)) (g : AV → AH → Option α) (rs : List ResultVar) : KE α := fun e fr H =>
  match e with
  | .normal => kRes cfg (liftFr ls fr H).1 (liftFr ls fr H).2 rs fun vs => g (result1 vs) (liftFr ls fr H).2
  | .ret => kRes cfg (liftFr ls fr H).1 (liftFr ls fr H).2 rs fun vs => g (result1 vs) (liftFr ls fr H).2
  | _ => none

def kFinS (cfg : Cfg) (ls : List (Tmp × Nat)) (rs : List ResultVar) : KE AV := kFinG cfg ls (fun v _ => some v) rs
def kFinF (cfg : Cfg) (ls : List (Tmp × Nat)) (rs : List ResultVar) : KE AV := kFinG cfg ls (fun v H => kFrzA false H v some) rs
def kFinO (cfg : Cfg) (ls : List (Tmp × Nat)) (rs : List ResultVar) : KE OV := kFinG cfg ls (fun v H => ovOf (v, H)) rs
def kFinQ (cfg : Cfg) (ls : List (Tmp × Nat)) (rs : List ResultVar) : KE (OV × AV) := kFinG cfg ls (fun v H => ovOf2 (v, H)) rs
def kFinM (cfg : Cfg) (sz : Nat) (ls : List (Tmp × Nat)) (rs : List ResultVar) : KE (MV × List (List AV)) := kFinG cfg ls (fun v H => (mutRes sz (v, H)).bind fun q => (mvOf q.1).map fun v => (v, q.2)) rs
noncomputable def kFunG (cfg : Cfg) (cf : Orac) (kf : KF α) (f : Nat) (fn : Func) (c : Code) (args : List AV) (H : AH) (fin : KE α) : Option α :=
  kCode cfg cf kf f none H.length c (args ++ List.replicate (fn.ntmps - args.length) .junk) H fin

theorem kFinG_someK {cfg : Cfg} {kf : KF α} (hkf : KfOk (EV cfg) kf) {g : AV → AH → Option α} {f : Nat} {fn : Func} {args : List AV} {H : AH} {r : α} (hx : cfg.ext f = none) (hk : cfg.known f = true) (hf : cfg.P.funcs[f]? = some fn) (hb : fn.body = some (bodyOf fn))
    (h : kFunG cfg (EV cfg) kf f fn (bodyOf fn) args H (kFinG cfg (cfg.lift f 0) g fn.results.toList) = some r) : ∃ v H', EV cfg (.f f) args H = some (v, H') ∧ g v H' = some r := by
  unfold kFunG at h
  obtain ⟨q, h1, h⟩ := kCode_some hkf _ h
  have key : ∀ (vs : List AV), resVals fn.results.toList cfg.ty (liftFr (cfg.lift f 0) q.2.1 q.2.2).1 (liftFr (cfg.lift f 0) q.2.1 q.2.2).2 = some vs → (q.1 = .normal ∨ q.1 = .ret) → EV cfg (.f f) args H = some (result1 vs, (liftFr (cfg.lift f 0) q.2.1 q.2.2).2) := by
    intro vs h2 hq
    refine EV_of ?_
    unfold evBody
    simp only [hx, hk, if_true, hf, hb, h1, Option.bind_some]
    unfold finish
    rcases hq with hq | hq <;> simp only [hq, h2, Option.map_some]
  unfold kFinG at h
  split at h
  · rename_i hq
    obtain ⟨vs, h2, h⟩ := kRes_some h
    exact ⟨_, _, key vs h2 (.inl hq), h⟩
  · rename_i hq
    obtain ⟨vs, h2, h⟩ := kRes_some h
    exact ⟨_, _, key vs h2 (.inr hq), h⟩
  · cases h

def kY2 (id : Nat) (K : AV × AH → Option α) : KE α := fun e _ H =>
  kOpt H[id]? fun b => match b with
    | .loop f fr ps a b _ _ => (match e with
      | .normal => K (.bool true, H.set id (.loop f fr ps a b none .ready))
      | .ret => K (.bool false, H.set id (.loop f fr ps a b (some .ret) .done))
      | .exit x => K (.bool false, H.set id (.loop f fr ps a b (some (.exit x)) .done))
      | .goto _ => none)
    | _ => none
noncomputable def kY1 (cfg : Cfg) (cf : Orac) (kf : KF α) (bs f id : Nat) (body : Code) (K : AV × AH → Option α) : KE α := fun e fr H =>
  match e with
  | .normal => kOpt H[id]? fun b => match b with
    | .loop f' fr' ps' a' b' p' st => (match st with
      | .ready => kCode cfg cf kf f (some id) bs body fr (H.set id (.loop f' fr' ps' a' b' p' .busy)) (kY2 id K)
      | _ => none)
    | _ => none
  | _ => none
noncomputable def kY (cfg : Cfg) (cf : Orac) (kf : KF α) (id : Nat) (args : List AV) (H : AH) (K : AV × AH → Option α) : Option α :=
  kOpt H[id]? fun b => match b with
    | .loop f fr ps assign body _ st => (match st with
      | .ready => cond (Nat.beq args.length ps.length) (kCode cfg cf kf f (some id) H.length assign (setParams fr ps args) H (kY1 cfg cf kf H.length f id body K)) none
      | _ => none)
    | _ => none
theorem kY_someK {cfg : Cfg} {kf : KF α} (hkf : KfOk (EV cfg) kf) {id : Nat} {args : List AV} {H : AH} {K : AV × AH → Option α} {r : α} (h : kY cfg (EV cfg) kf id args H K = some r) : ∃ q, EV cfg (.y id) args H = some q ∧ K q = some r := by
  unfold kY at h
  obtain ⟨b, h1, h⟩ := kOpt_some h
  cases b with
  | loop f fr ps assign body pend st =>
    simp only at h
    cases st with
    | ready =>
      simp only at h
      obtain ⟨h2, h⟩ := cond_some h
      obtain ⟨q, h3, h⟩ := kCode_some hkf _ h
      unfold kY1 at h
      cases hq : q.1 with
      | normal =>
        rw [hq] at h
        simp only at h
        obtain ⟨b, h4, h⟩ := kOpt_some h
        cases b with
        | loop f' fr' ps' a' b' p' st' =>
          simp only at h
          cases st' with
          | ready =>
            simp only at h
            obtain ⟨q2, h5, h⟩ := kCode_some hkf _ h
            unfold kY2 at h
            obtain ⟨b, h6, h⟩ := kOpt_some h
            cases b with
            | loop f2 fr2 ps2 a2 b2 p2 st2 =>
              have key : ∀ q', evBody cfg (EV cfg) (.y id) args H = some q' → K q' = some r → ∃ q, EV cfg (.y id) args H = some q ∧ K q = some r := fun q' h8 h9 => ⟨q', EV_of h8, h9⟩
              cases hq2 : q2.1 with
              | normal =>
                rw [hq2] at h
                refine key _ ?_ h
                unfold evBody
                simp only [h1, if_pos (Nat.eq_of_beq_eq_true h2), h3, Option.bind_some, hq, h4, h5, h6, hq2]
              | ret =>
                rw [hq2] at h
                refine key _ ?_ h
                unfold evBody
                simp only [h1, if_pos (Nat.eq_of_beq_eq_true h2), h3, Option.bind_some, hq, h4, h5, h6, hq2]
              | exit x =>
                rw [hq2] at h
                refine key _ ?_ h
                unfold evBody
                simp only [h1, if_pos (Nat.eq_of_beq_eq_true h2), h3, Option.bind_some, hq, h4, h5, h6, hq2]
              | goto x => rw [hq2] at h; cases h
            | _ => cases h
          | _ => cases h
        | _ => cases h
      | _ => rw [hq] at h; cases h
    | _ => cases h
  | _ => cases h

class InlOk (cfg : Cfg) : Prop where
  ok : ∀ f fn, cfg.inl f = some fn → cfg.ext f = none ∧ cfg.known f = true ∧ cfg.P.funcs[f]? = some fn ∧ fn.body = some (bodyOf fn)

def inlLook (f : Nat) : List (Nat × Func) → Option Func
  | [] => none
  | p :: l => if Nat.beq p.1 f then some p.2 else inlLook f l
def InlAll (cfg : Cfg) : List (Nat × Func) → Prop
  | [] => True
  | p :: l => (cfg.ext p.1 = none ∧ cfg.known p.1 = true ∧ cfg.P.funcs[p.1]? = some p.2 ∧ p.2.body = some (bodyOf p.2)) ∧ InlAll cfg l
theorem InlOk.of {cfg : Cfg} (tab : List (Nat × Func)) (h : ∀ f, cfg.inl f = inlLook f tab) (ha : InlAll cfg tab) : InlOk cfg where
  ok := by
    intro f fn hf
    rw [h] at hf
    clear h
    induction tab with
    | nil => cases hf
    | cons p l ih =>
      rw [inlLook] at hf
      split at hf
      · rename_i e
        have e := Nat.eq_of_beq_eq_true e
        cases hf
        rw [← e]
        exact ha.1
      · exact ih ha.2 hf
noncomputable def kfN (cfg : Cfg) : Nat → KF α
  | 0 => fun t a H k => kOpt (EV cfg t a H) k
  | n + 1 => fun t a H k => match t with
    | .f f => (match cfg.inl f with
      | some fn => kFunG cfg (EV cfg) (kfN cfg n) f fn (bodyOf fn) a H (kFinG cfg (cfg.lift f 0) (fun v H => k (v, H)) fn.results.toList)
      | none => kOpt (EV cfg (.f f) a H) k)
    | .y id => kY cfg (EV cfg) (kfN cfg n) id a H k

theorem kfN_ok {cfg : Cfg} [InlOk cfg] : ∀ n, KfOk (α := α) (EV cfg) (kfN cfg n)
  | 0 => fun t a H k r h => kOpt_some h
  | n + 1 => fun t a H k r h => by
    unfold kfN at h
    cases t with
    | f f =>
      simp only at h
      split at h
      · rename_i fn hf
        obtain ⟨o1, o2, o3, o4⟩ := InlOk.ok f fn hf
        obtain ⟨v, H', h1, h2⟩ := kFinG_someK (kfN_ok n) o1 o2 o3 o4 h
        exact ⟨_, h1, h2⟩
      · exact kOpt_some h
    | y id => exact kY_someK (kfN_ok n) h

theorem loop_step {cfg : Cfg} [InlOk cfg] {f : Nat} {rd : Option Nat} {bs : Nat} {c : Code} {k : Nat} {ts : Option (List Tmp)} {ls : List (Tmp × Nat)} {A : Ex × List AV × AH → Option α} {fr : List AV} {H : AH} {r : α}
    (h : kCode cfg (EV cfg) (kfN cfg 6) f rd bs c fr H (kLp k ts ls (evC cfg (EV cfg) f rd bs c) A) = some r) : kOpt (LOOP k ts ls (evC cfg (EV cfg) f rd bs c) (fr, H)) A = some r := loop_stepK (kfN_ok 6) h
theorem kFinG_some {cfg : Cfg} [InlOk cfg] {g : AV → AH → Option α} {f : Nat} {fn : Func} {args : List AV} {H : AH} {r : α} (hx : cfg.ext f = none) (hk : cfg.known f = true) (hf : cfg.P.funcs[f]? = some fn) (hb : fn.body = some (bodyOf fn))
    (h : kFunG cfg (EV cfg) (kfN cfg 6) f fn (bodyOf fn) args H (kFinG cfg (cfg.lift f 0) g fn.results.toList) = some r) : ∃ v H', EV cfg (.f f) args H = some (v, H') ∧ g v H' = some r := kFinG_someK (kfN_ok 6) hx hk hf hb h
def Gets {β : Type} (o : Option β) (P : β → Prop) : Prop := ∃ r, o = some r ∧ P r

theorem Gets.ev {β : Type} {o o' : Option β} {P : β → Prop} (h : ∀ r, o = some r → o' = some r) (hy : Gets o P) : Gets o' P := by
  obtain ⟨r, h1, h2⟩ := hy
  exact ⟨r, h r h1, h2⟩
theorem Gets.eq {β : Type} {o o' : Option β} {P : β → Prop} (h : o' = o) (hy : Gets o P) : Gets o' P := h ▸ hy
theorem Gets.mono {β : Type} {o : Option β} {P Q : β → Prop} (h : Gets o P) (hq : ∀ b, P b → Q b) : Gets o Q := by
  obtain ⟨r, h1, h2⟩ := h
  exact ⟨r, h1, hq r h2⟩
theorem Gets.bind {β γ : Type} {o : Option β} {k : β → Option γ} {Q : β → Prop} {P : γ → Prop} (h : Gets o Q) (hk : ∀ b, Q b → Gets (k b) P) : Gets (kOpt o k) P := by
  obtain ⟨r, h1, h2⟩ := h
  subst h1
  exact hk r h2
@[simp] theorem gets_some {β : Type} {a : β} {P : β → Prop} : Gets (some a) P ↔ P a := ⟨fun ⟨r, h1, h2⟩ => by cases h1; exact h2, fun h => ⟨a, rfl, h⟩⟩
theorem Gets.get {β : Type} {o : Option β} {a : β} (h : Gets o (· = a)) : o = some a := by
  obtain ⟨r, h1, h2⟩ := h
  rw [h1, h2]
theorem EVs_of {cfg : Cfg} {f : Nat} {args : List AV} {v : AV} {H : AH} (h : EV cfg (.f f) args [] = some (v, H)) : EVs (EV cfg) f args = some v := by unfold EVs; rw [h]; rfl
theorem EVf_of {cfg : Cfg} {f : Nat} {args : List AV} {v v' : AV} {H : AH} (h : EV cfg (.f f) args [] = some (v', H)) (e : (v'.frz v'.msIds H).fg = v) : EVf (EV cfg) f args = some v := by unfold EVf; rw [h]; exact congrArg some e
theorem EVo_of {cfg : Cfg} {f : Nat} {args : List AV} {v : OV} {r : AV × AH} (h : EV cfg (.f f) args [] = some r) (e : ovOf r = some v) : EVo (EV cfg) f args = some v := by unfold EVo; rw [h]; exact e

theorem funS {cfg : Cfg} [InlOk cfg] {f : Nat} {fn : Func} {args : List AV} {r : AV} (hx : cfg.ext f = none) (hk : cfg.known f = true) (hf : cfg.P.funcs[f]? = some fn) (hb : fn.body = some (bodyOf fn))
    (h : kFunG cfg (EV cfg) (kfN cfg 6) f fn (bodyOf fn) args [] (kFinS cfg (cfg.lift f 0) fn.results.toList) = some r) : EVs (EV cfg) f args = some r := by
  obtain ⟨v, H', h1, h2⟩ := kFinG_some hx hk hf hb h
  cases h2
  exact EVs_of h1
theorem funF {cfg : Cfg} [InlOk cfg] {f : Nat} {fn : Func} {args : List AV} {r : AV} (hx : cfg.ext f = none) (hk : cfg.known f = true) (hf : cfg.P.funcs[f]? = some fn) (hb : fn.body = some (bodyOf fn))
    (h : kFunG cfg (EV cfg) (kfN cfg 6) f fn (bodyOf fn) args [] (kFinF cfg (cfg.lift f 0) fn.results.toList) = some r) : EVf (EV cfg) f args = some r := by
  obtain ⟨v, H', h1, h2⟩ := kFinG_some hx hk hf hb h
  exact EVf_of h1 (Option.some.inj (kFrzA_frz h2))
theorem funO {cfg : Cfg} [InlOk cfg] {f : Nat} {fn : Func} {args : List AV} {r : OV} (hx : cfg.ext f = none) (hk : cfg.known f = true) (hf : cfg.P.funcs[f]? = some fn) (hb : fn.body = some (bodyOf fn))
    (h : kFunG cfg (EV cfg) (kfN cfg 6) f fn (bodyOf fn) args [] (kFinO cfg (cfg.lift f 0) fn.results.toList) = some r) : EVo (EV cfg) f args = some r := by
  obtain ⟨v, H', h1, h2⟩ := kFinG_some hx hk hf hb h
  exact EVo_of h1 h2
theorem funQ {cfg : Cfg} [InlOk cfg] {f : Nat} {fn : Func} {args : List AV} {r : OV × AV} (hx : cfg.ext f = none) (hk : cfg.known f = true) (hf : cfg.P.funcs[f]? = some fn) (hb : fn.body = some (bodyOf fn))
    (h : kFunG cfg (EV cfg) (kfN cfg 6) f fn (bodyOf fn) args [] (kFinQ cfg (cfg.lift f 0) fn.results.toList) = some r) : EVq (EV cfg) f args = some r := by
  obtain ⟨v, H', h1, h2⟩ := kFinG_some hx hk hf hb h
  unfold EVq; rw [h1]; exact h2
theorem funM {cfg : Cfg} [InlOk cfg] {f sz : Nat} {fn : Func} {args : List AV} {rows : List (List AV)} {r : MV × List (List AV)} (hx : cfg.ext f = none) (hk : cfg.known f = true) (hf : cfg.P.funcs[f]? = some fn) (hb : fn.body = some (bodyOf fn))
    (h : kFunG cfg (EV cfg) (kfN cfg 6) f fn (bodyOf fn) args [.rows true sz rows] (kFinM cfg sz (cfg.lift f 0) fn.results.toList) = some r) : EVm (EV cfg) f args sz rows = some r := by
  obtain ⟨v, H', h1, h2⟩ := kFinG_some hx hk hf hb h
  unfold EVm
  rw [h1]
  exact h2
def kFinX (cfg : Cfg) (sz : Nat) (ls : List (Tmp × Nat)) (rs : List ResultVar) : KE (AV × List (List AV)) := kFinG cfg ls (fun v H => kBlkW H 0 fun d sz' rows =>
  cond (!d && Nat.beq sz' sz && noneIn0 v.msIds && allIn [0] (idsGeR 0 rows)) (kFrzA false H v fun v' => cond (v'.refsLt 0) (some (v', rows)) none) none) rs
theorem funX {cfg : Cfg} [InlOk cfg] {f sz : Nat} {fn : Func} {args : List AV} {rows : List (List AV)} {r : AV × List (List AV)} (hx : cfg.ext f = none) (hk : cfg.known f = true) (hf : cfg.P.funcs[f]? = some fn) (hb : fn.body = some (bodyOf fn))
    (h : kFunG cfg (EV cfg) (kfN cfg 6) f fn (bodyOf fn) args [.rows false sz rows] (kFinX cfg sz (cfg.lift f 0) fn.results.toList) = some r) : EVx (EV cfg) f args sz rows = some r := by
  obtain ⟨v, H', h1, h2⟩ := kFinG_some hx hk hf hb h
  unfold EVx
  rw [h1]
  obtain ⟨d, sz', rs', h3, h4⟩ := kBlkW_some h2
  obtain ⟨h5, h6⟩ := cond_some h4
  have h7 := kFrzA_frz (k := fun v' => cond (v'.refsLt 0) (some (v', rs')) none) h6
  obtain ⟨h8, h9⟩ := cond_some h7
  simp only [Bool.and_eq_true, Bool.not_eq_true'] at h5
  obtain ⟨⟨⟨hd, hs⟩, hn⟩, ha⟩ := h5
  subst hd
  cases H' with
  | nil => simp at h3
  | cons b l =>
    simp only [List.getElem?_cons_zero, Option.some.injEq] at h3
    subst h3
    simp only [Option.bind_some, slfRes, hs, hn, h8, ha, Bool.and_self, if_true]
    exact h9
@[simp] theorem nble (a b : Nat) : Nat.ble a b = decide (a ≤ b) := by
  rcases h : Nat.ble a b with _ | _
  · rw [eq_comm, decide_eq_false_iff_not]; intro h'; rw [Nat.ble_eq_true_of_le h'] at h; cases h
  · rw [eq_comm, decide_eq_true_eq]; exact Nat.le_of_ble_eq_true h
@[simp] theorem nbeq (a b : Nat) : Nat.beq a b = decide (a = b) := by
  rcases h : Nat.beq a b with _ | _
  · rw [eq_comm, decide_eq_false_iff_not]; intro h'; rw [h', Nat.beq_refl] at h; cases h
  · rw [eq_comm, decide_eq_true_eq]; exact Nat.eq_of_beq_eq_true h
@[simp] theorem leInt_eq (a b : Int) : leInt a b = decide (a ≤ b) := rfl
@[simp] theorem ltInt_eq (a b : Int) : ltInt a b = decide (a < b) := rfl
theorem beqD {β : Type} [BEq β] [LawfulBEq β] [DecidableEq β] (a b : β) : (a == b) = decide (a = b) := by
  by_cases h : a = b
  · subst h; simp
  · simp [h]
theorem bneD {β : Type} [BEq β] [LawfulBEq β] [DecidableEq β] (a b : β) : (a != b) = !decide (a = b) := by rw [bne, beqD]
def AV.IsInt (v : AV) : Prop := ∃ n, v = .int .i64 n
def AV.IsBool (v : AV) : Prop := ∃ b, v = .bool b
@[simp] theorem isInt_int (n : Int) : (AV.int .i64 n).IsInt := ⟨n, rfl⟩
@[simp] theorem isBool_bool (b : Bool) : (AV.bool b).IsBool := ⟨b, rfl⟩

@[simp] theorem kOptSome {β : Type} (b : β) (k : β → Option α) : kOpt (some b) k = k b := rfl
@[simp] theorem kOptNone {β : Type} (k : β → Option α) : kOpt none k = none := rfl
@[simp] theorem kMInt_int (kd : IntKind) (n : Int) (k : Int → Option α) : kMInt kd (.int kd n) k = k n := by simp [kMInt, kindEq]
@[simp] theorem kInt_int (kd : IntKind) (n : Int) (k : Int → Option α) : kInt kd (.int kd n) k = k n := by simp [kInt, kindEq]
@[simp] theorem kBool_bool (b : Bool) (k : Bool → Option α) : kBool (.bool b) k = k b := rfl
@[simp] theorem kStr_str (s : List UInt8) (k : List UInt8 → Option α) : kStr (.str s) k = k s := rfl
@[simp] theorem kAgg_agg (cs : List AV) (k : List AV → Option α) : kAgg (.agg cs) k = k cs := rfl
@[simp] theorem kCons_cons (c : AV) (cs : List AV) (k : AV → List AV → Option α) : kCons (c :: cs) k = k c cs := rfl
@[simp] theorem kNil_nil (x : Option α) : kNil [] x = x := rfl
@[simp] theorem kMSl_nil (x : Option α) (k : Nat → Nat → Option α) : kMSl .nil x k = x := rfl
@[simp] theorem kMSl_sl (off len : Nat) (x : Option α) (k : Nat → Nat → Option α) : kMSl (.sl off len) x k = k off len := rfl
@[simp] theorem kMUnit_unit (x : Option α) : kMUnit .unit x = x := rfl
@[simp] theorem kMBool_bool (b : Bool) (k : Bool → Option α) : kMBool (.bool b) k = k b := rfl
@[simp] theorem kOwn_nil (x : Option α) (k : Nat → List (List AV) → Nat → Nat → Option α) : kOwn .nil x k = x := rfl
@[simp] theorem kOwn_own (sz : Nat) (rs : List (List AV)) (off len : Nat) (x : Option α) (k : Nat → List (List AV) → Nat → Nat → Option α) : kOwn (.own sz rs off len) x k = k sz rs off len := rfl
@[simp] theorem kSl_sl (rs : List (List AV)) (k : List (List AV) → Option α) : kSl (.sl rs) k = k rs := rfl
@[simp] theorem get?Internal_eq {β : Type} (l : List β) (i : Nat) : List.get?Internal l i = l[i]? := rfl
end Go.Av
end

section
namespace Go.Av
variable {α β : Type}

def fBool (b : Bool) (k : Bool → α) : α := match b with | true => k true | false => k false
def fNat (n : Nat) (k : Nat → α) : α := match n with | 0 => k 0 | m + 1 => k (m + 1)
def fInt (n : Int) (k : Int → α) : α := match n with | .ofNat m => fNat m fun m => k (.ofNat m) | .negSucc m => fNat m fun m => k (.negSucc m)
def fL (g : β → (β → α) → α) : List β → (List β → α) → α
  | [], k => k []
  | a :: l, k => g a fun a' => fL g l fun l' => k (a' :: l')
def fKind (kd : IntKind) (k : IntKind → α) : α := match kd with
  | .i64 => k .i64
  | .u64 => k .u64
  | .u8 => k .u8
  | .i32 => k .i32
  | .u32 => k .u32
  | x => k x
def fByte (b : UInt8) (k : UInt8 → α) : α := fNat b.toNat fun n => k (UInt8.ofNat n)
theorem fL_eq {g : β → (β → α) → α} (hg : ∀ b k, g b k = k b) : ∀ (l : List β) (k : List β → α), fL g l k = k l
  | [], _ => rfl
  | a :: l, k => by rw [fL, hg, fL_eq hg l]
theorem fBool_eq (b : Bool) (k : Bool → α) : fBool b k = k b := by cases b <;> rfl
theorem fNat_eq (b : Nat) (k : Nat → α) : fNat b k = k b := by cases b <;> rfl
theorem fInt_eq (b : Int) (k : Int → α) : fInt b k = k b := by cases b <;> simp only [fInt, fNat_eq]
theorem fKind_eq (b : IntKind) (k : IntKind → α) : fKind b k = k b := by cases b <;> rfl
theorem fByte_eq (b : UInt8) (k : UInt8 → α) : fByte b k = k b := by simp [fByte, fNat_eq]
def xPick (c a b : AV) (H : AH) : Option (AV × AH) :=
  match c with
  | .bool t => some (if t then a else b, H)
  | _ => none
def xAlloc (cfg : Cfg) (nid : Option Nat) (t : TypeId) (H : AH) : Option (AV × AH) :=
  match cfg.ty t with
  | some ti =>
    if allCells ti.zero then
      match aNew nid H (.rows (bigZ (cfg.fga t ti.zero)) ti.zero.length [cfg.fga t ti.zero]) with
      | some (k, H') => some (.ptr k 0 0, H')
      | none => none
    else none
  | none => none
def xBox (nid : Option Nat) (a : AV) (H : AH) : Option (AV × AH) :=
  match a.cells with
  | some cs =>
    match aNew nid H (.rows (bigZ cs) cs.length [cs]) with
    | some (k, H') => some (.ptr k 0 0, H')
    | none => none
  | none => none
def xBuild (cfg : Cfg) (t : TypeId) (parts : List (Nat × AV)) (H : AH) : Option (AV × AH) :=
  match cfg.ty t with
  | some ti =>
    if allCells ti.zero then
      match ti.d with
      | .struct fs =>
        match placesOf cfg fs with
        | some ps => (aFill (fun i => ps[i]?) ti.zero parts).map fun cs => (.agg (cfg.fga t cs), H)
        | none => none
      | .array _ e =>
        match cfg.sz e with
        | some n => (aFill (fun i => some (i * n, n)) ti.zero parts).map fun cs => (.agg cs, H)
        | none => none
      | _ => none
    else none
  | none => none
def xBuildSlice (cfg : Cfg) (nid : Option Nat) (t : TypeId) (len : Nat) (parts : List (Nat × AV)) (H : AH) : Option (AV × AH) :=
  match cfg.td t with
  | some (.slice e) =>
    match cfg.ty e with
    | some ei =>
      if rowZero ei && Nat.ble (len * ei.sz) 16777216 then
        match aRows ei.sz (List.replicate len ei.zero) parts with
        | some rows =>
          match aNew nid H (.rows (refsLtR 0 rows) ei.sz rows) with
          | some (k, H') => some (.ms k 0 len, H')
          | none => none
        | none => none
      else none
    | none => none
  | _ => none
def xLoad (cfg : Cfg) (t : TypeId) (a : AV) (H : AH) : Option (AV × AH) :=
  match cfg.ty t with
  | some ti => (aLoad ti.d.agg ti.sz H a).map fun v => (v, H)
  | none => none
def xStore (cfg : Cfg) (t : TypeId) (a v : AV) (H : AH) : Option (AV × AH) :=
  match cfg.sz t with
  | some n => (aStore n H a v).map fun H' => (.junk, H')
  | none => none
def xNil (a : AV) (H : AH) : Option (AV × AH) :=
  match a with
  | .ptr id r off => some (.ptr id r off, H)
  | .cptr cs off => some (.cptr cs off, H)
  | .fn (.func f) a b => some (.fn (.func f) a b, H)
  | .mp id => some (.mp id, H)
  | .yld id => some (.yld id, H)
  | _ => none
def xExtract (t : AV) (i : Nat) (H : AH) : Option (AV × AH) :=
  match t with
  | .tup vs => (vs[i]?).map fun v => (v, H)
  | _ => none
def xOp (cfg : Cfg) (nid : Option Nat) (o : Op) (ty : TypeId) (x : Operand → AV) (H : AH) : Option (AV × AH) :=
  match o with
  | .move a | .assign a => some (x a, H)
  | .pick c a b => xPick (x c) (x a) (x b) H
  | .alloc t => xAlloc cfg nid t H
  | .box _ a => xBox nid (x a) H
  | .build t parts => xBuild cfg t (parts.toList.map fun p => (p.1, x p.2)) H
  | .buildSlice t len parts => xBuildSlice cfg nid t len (parts.toList.map fun p => (p.1, x p.2)) H
  | .load t a => xLoad cfg t (x a) H
  | .store t a v => xStore cfg t (x a) (x v) H
  | .nilCheck a => xNil (x a) H
  | .binOp op t a b _ => (aBin cfg op t (x a) (x b)).map fun v => (v, H)
  | .unOp op _ a => (aUn op (x a)).map fun v => (v, H)
  | .convert s d a => aConvert cfg nid s d (x a) H
  | .makeFunc f first caps => some (.fn f (first.toList.map x) (caps.toList.map x), H)
  | .makeSlice t l c => aMake cfg nid t (x l) (x c) H
  | .slice t a lo hi mx => (aSlice cfg t H (x a) (lo.map x) (hi.map x) (mx.map x)).map fun v => (v, H)
  | .fieldAddr t a f => (aFieldAddr cfg t (x a) f).map fun v => (v, H)
  | .field t a f => (aField cfg t (x a) f).map fun v => (v, H)
  | .indexAddr t a i => (aIndexAddr cfg t H (x a) (x i)).map fun v => (v, H)
  | .index t a i => (aIndex cfg t (x a) (x i)).map fun v => (v, H)
  | .extract t i => xExtract (x t) i H
  | o => evOp cfg nid o ty x H
theorem xOp_eq (cfg : Cfg) (nid : Option Nat) (o : Op) (ty : TypeId) (x : Operand → AV) (H : AH) : xOp cfg nid o ty x H = evOp cfg nid o ty x H := by cases o <;> rfl

end Go.Av
end

section
namespace Go.Av
variable {α β : Type}

noncomputable def gL (g : β → (β → α) → α) (l : List β) : (List β → α) → α :=
  List.rec (motive := fun _ => (List β → α) → α) (fun k => k []) (fun a _ ih k => g a fun a' => ih fun l' => k (a' :: l')) l
noncomputable def gS (l : List β) : (List β → α) → α :=
  List.rec (motive := fun _ => (List β → α) → α) (fun k => k []) (fun a _ ih k => ih fun l' => k (a :: l')) l
theorem gL_eq {g : β → (β → α) → α} (hg : ∀ b k, g b k = k b) : ∀ (l : List β) (k : List β → α), gL g l k = k l
  | [], _ => rfl
  | a :: l, k => by
    have : gL g (a :: l) k = g a fun a' => gL g l fun l' => k (a' :: l') := rfl
    rw [this, hg, gL_eq hg l]
theorem gS_eq : ∀ (l : List β) (k : List β → α), gS l k = k l
  | [], _ => rfl
  | a :: l, k => by
    have : gS (a :: l) k = gS l fun l' => k (a :: l') := rfl
    rw [this, gS_eq l]
def gA1 (v : AV) (k : AV → α) : α := match v with
  | .int kd m => fKind kd fun kd => fInt m fun m => k (.int kd m)
  | .bool b => fBool b fun b => k (.bool b)
  | .str s => fL fByte s fun s => k (.str s)
  | .ms a b c => fNat a fun a => fNat b fun b => fNat c fun c => k (.ms a b c)
  | .ptr a b c => fNat a fun a => fNat b fun b => fNat c fun c => k (.ptr a b c)
  | v => k v
theorem gA1_eq (v : AV) (k : AV → α) : gA1 v k = k v := by
  cases v <;> simp only [gA1, fKind_eq, fInt_eq, fBool_eq, fNat_eq, fL_eq fByte_eq]
noncomputable def gA2 (v : AV) (k : AV → α) : α := match v with
  | .agg cs => gL gA1 cs fun cs => k (.agg cs)
  | .sl rows => gL (gL gA1) rows fun rows => k (.sl rows)
  | .cptr cs o => gL gA1 cs fun cs => fNat o fun o => k (.cptr cs o)
  | .fn f a b => gL gA1 a fun a => gL gA1 b fun b => k (.fn f a b)
  | v => gA1 v k
theorem gA2_eq (v : AV) (k : AV → α) : gA2 v k = k v := by
  have e1 : ∀ (l : List AV) (k : List AV → α), gL gA1 l k = k l := gL_eq gA1_eq
  cases v <;> simp only [gA2, gA1_eq, e1, fNat_eq, gL_eq e1]
noncomputable def gA (v : AV) (k : AV → α) : α := match v with
  | .tup cs => gL gA2 cs fun cs => k (.tup cs)
  | .ifc t v => gA2 v fun v => k (.ifc t v)
  | v => gA2 v k
theorem gA_eq (v : AV) (k : AV → α) : gA v k = k v := by
  cases v <;> simp only [gA, gA2_eq, gL_eq gA2_eq]
def gW (v : AV) (k : AV → α) : α := match v with
  | .int a b => k (.int a b)
  | .bool a => k (.bool a)
  | .str a => k (.str a)
  | .agg a => k (.agg a)
  | .tup a => k (.tup a)
  | .nilS => k .nilS
  | .sl a => k (.sl a)
  | .em => k .em
  | .ms a b c => k (.ms a b c)
  | .nilP => k .nilP
  | .ptr a b c => k (.ptr a b c)
  | .cptr a b => k (.cptr a b)
  | .fn a b c => k (.fn a b c)
  | .yld a => k (.yld a)
  | .nilF => k .nilF
  | .nilM => k .nilM
  | .mp a => k (.mp a)
  | .nilI => k .nilI
  | .ifc a b => k (.ifc a b)
  | .junk => k .junk
theorem gW_eq (v : AV) (k : AV → α) : gW v k = k v := by cases v <;> rfl
noncomputable def gB (b : ABlk) (k : ABlk → α) : α := match b with
  | .rows d sz rs => fBool d fun d => fNat sz fun sz => gL (gL gA1) rs fun rs => k (.rows d sz rs)
  | .froz d sz rs => fBool d fun d => fNat sz fun sz => gL (gL gA1) rs fun rs => k (.froz d sz rs)
  | .mp es => gS es fun es => k (.mp es)
  | .loop f fr ps a b p s => gL gA1 fr fun fr => k (.loop f fr ps a b p s)
  | .dead => k .dead
  | .res => k .res
theorem gB_eq (b : ABlk) (k : ABlk → α) : gB b k = k b := by
  have e1 : ∀ (l : List AV) (k : List AV → α), gL gA1 l k = k l := gL_eq gA1_eq
  cases b <;> simp only [gB, fBool_eq, fNat_eq, e1, gL_eq e1, gS_eq]
noncomputable def gP (p : Nat × AV) (k : Nat × AV → α) : α := gA p.2 fun v => k (p.1, v)
theorem gP_eq (p : Nat × AV) (k : Nat × AV → α) : gP p k = k p := by unfold gP; rw [gA_eq]
noncomputable def gH (H : AH) (k : AH → α) : α := gL gB H k
theorem gH_eq (H : AH) (k : AH → α) : gH H k = k H := gL_eq gB_eq H k

abbrev Ov := List (Nat × AV)
def den (n : Nat) (ov : Ov) : List AV := ov.foldr (fun p fr => fr.set p.1 p.2) (List.replicate n .junk)
noncomputable def ovGet (t : Nat) (ov : Ov) : AV := List.rec (motive := fun _ => AV) .junk (fun p _ ih => cond (Nat.beq p.1 t) p.2 ih) ov
theorem ovGet_nil (t : Nat) : ovGet t [] = .junk := rfl
theorem ovGet_cons (t : Nat) (p : Nat × AV) (ov : Ov) : ovGet t (p :: ov) = cond (Nat.beq p.1 t) p.2 (ovGet t ov) := rfl
def OvOk (n : Nat) (ov : Ov) : Prop := ∀ p ∈ ov, p.1 < n
theorem den_len (n : Nat) (ov : Ov) : (den n ov).length = n := by
  induction ov with
  | nil => simp [den]
  | cons p l ih => simp only [den, List.foldr_cons, List.length_set]; exact ih
theorem den_get {n : Nat} {ov : Ov} (h : OvOk n ov) (t : Nat) : (den n ov)[t]? = if t < n then some (ovGet t ov) else none := by
  induction ov with
  | nil =>
    simp only [den, List.foldr_nil, ovGet_nil, List.getElem?_replicate]
  | cons p l ih =>
    have hl : OvOk n l := fun q hq => h q (List.mem_cons_of_mem _ hq)
    have hp : p.1 < n := h p (List.mem_cons_self ..)
    have : (den n (p :: l))[t]? = ((den n l).set p.1 p.2)[t]? := rfl
    rw [this, List.getElem?_set, ih hl, den_len, ovGet_cons]
    by_cases e : p.1 = t
    · subst e; simp [hp]
    · have : Nat.beq p.1 t = false := by rw [← Bool.not_eq_true]; intro h'; exact e (Nat.eq_of_beq_eq_true h')
      rw [if_neg e, this]; rfl
theorem ovGet_big {n : Nat} {ov : Ov} (h : OvOk n ov) {t : Nat} (ht : ¬ t < n) : ovGet t ov = .junk := by
  induction ov with
  | nil => rfl
  | cons p l ih =>
    have hp : p.1 < n := h p (List.mem_cons_self ..)
    have : Nat.beq p.1 t = false := by rw [← Bool.not_eq_true]; intro h'; have := Nat.eq_of_beq_eq_true h'; omega
    rw [ovGet_cons, this]
    exact ih fun q hq => h q (List.mem_cons_of_mem _ hq)
theorem den_ext {n : Nat} {ov : Ov} (h : OvOk n ov) {fr : List AV} (hl : fr.length = n) (hg : ∀ t, t < n → fr[t]? = some (ovGet t ov)) : den n ov = fr := by
  apply List.ext_getElem?
  intro t
  rw [den_get h]
  split
  · rename_i ht; exact (hg t ht).symm
  · rename_i ht; exact (List.getElem?_eq_none (by omega)).symm
noncomputable def opdO (ov : Ov) : Operand → AV
  | .tmp t => ovGet t ov
  | .const v => ofValue v
  | .global _ => .junk
  | .func f => .fn (.func f) [] []
theorem opdO_eq {n : Nat} {ov : Ov} (h : OvOk n ov) : opd (den n ov) = opdO ov := by
  funext o
  cases o with
  | tmp t =>
    show (den n ov).getD t .junk = ovGet t ov
    rw [List.getD_eq_getElem?_getD, den_get h]
    split
    · rfl
    · rename_i ht; exact (ovGet_big h ht).symm
  | _ => rfl
def putO (n : Nat) (ov : Ov) (dst : Option Tmp) (v : AV) : Ov :=
  match dst with
  | some d => cond (Nat.blt d n) ((d, v) :: ov) ov
  | none => ov
theorem putO_ok {n : Nat} {ov : Ov} (h : OvOk n ov) (dst : Option Tmp) (v : AV) : OvOk n (putO n ov dst v) := by
  cases dst with
  | none => exact h
  | some d =>
    simp only [putO]
    cases hd : Nat.blt d n with
    | false => exact h
    | true =>
      intro p hp
      rw [cond_true] at hp
      rcases List.mem_cons.1 hp with rfl | hp
      · simpa [Nat.blt_eq] using hd
      · exact h p hp
theorem putO_den {n : Nat} {ov : Ov} (dst : Option Tmp) (v : AV) : den n (putO n ov dst v) = put (den n ov) dst v := by
  cases dst with
  | none => rfl
  | some d =>
    simp only [putO, put]
    cases hd : Nat.blt d n with
    | true => rfl
    | false =>
      have hd : ¬ d < n := by rw [← Bool.not_eq_true, Nat.blt_eq] at hd; exact hd
      show den n ov = _
      rw [List.set_eq_of_length_le (by rw [den_len]; exact Nat.le_of_not_lt hd)]
noncomputable def wantedO (ops : Array Oper) (ov : Ov) (o : Oper) : Option Bool :=
  match o.guard with
  | none => some true
  | some (j, want) =>
    match (ops[j]?).bind (·.dst) with
    | some d =>
      match ovGet d ov with
      | .bool b => some (b == want)
      | .tup [] => some false
      | _ => none
    | none => none
theorem wantedO_eq {n : Nat} {ov : Ov} (h : OvOk n ov) (ops : Array Oper) (o : Oper) : wantedA ops (den n ov) o = wantedO ops ov o := by
  unfold wantedA wantedO
  cases o.guard with
  | none => rfl
  | some p =>
    obtain ⟨j, want⟩ := p
    simp only
    cases (ops[j]?).bind (·.dst) with
    | none => rfl
    | some d =>
      simp only
      rw [den_get h]
      by_cases hd : d < n
      · rw [if_pos hd]
        cases ovGet d ov <;> try rfl
        rename_i vs; cases vs <;> rfl
      · rw [if_neg hd, ovGet_big h hd]

noncomputable def yStore (n : Nat) (H : AH) (p v : AV) (k : AH → Option β) : Option β :=
  match p with
  | .ptr id r off =>
    match v.cells with
    | some cs =>
      match H[id]? with
      | some (.rows d sz rs) =>
        match rs[r]? with
        | some row => if cs.length == n && Nat.ble (off + n) row.length then
            gS (row.take off ++ cs ++ row.drop (off + n)) fun row' => gS (rs.set r row') fun rs' => fBool (d && refsLtL 0 cs) fun d' => gS (H.set id (.rows d' sz rs')) k
          else none
        | none => none
      | _ => none
    | none => none
  | _ => none
theorem yStore_eq (n : Nat) (H : AH) (p v : AV) (k : AH → Option β) : yStore n H p v k = (aStore n H p v).bind k := by
  unfold yStore aStore
  cases p with
  | ptr id r off =>
    simp only
    cases hv : v.cells with
    | none => simp
    | some cs =>
      simp only
      cases hH : H[id]? with
      | none => simp
      | some b =>
        cases b <;> simp only [Option.bind_none]
        rename_i d sz rs
        cases hr : rs[r]? with
        | none => simp
        | some row =>
          simp only
          split <;> simp [gS_eq, fBool_eq]
  | _ => simp
noncomputable def yNew (nid : Option Nat) (H : AH) (b : ABlk) (k : Nat → AH → Option β) : Option β :=
  match nid with
  | none => fNat H.length fun i => gS (H ++ [b]) fun H' => k i H'
  | some i =>
    match H[i]? with
    | some .res => gS (H.set i b) fun H' => k i H'
    | _ => none
theorem yNew_eq (nid : Option Nat) (H : AH) (b : ABlk) (k : Nat → AH → Option β) : yNew nid H b k = (aNew nid H b).bind fun r => k r.1 r.2 := by
  cases nid with
  | none => simp [yNew, aNew, fNat_eq, gS_eq]
  | some i =>
    simp only [yNew, aNew]
    cases H[i]? with
    | none => rfl
    | some b => cases b <;> simp [gS_eq]
noncomputable def yAlloc (cfg : Cfg) (nid : Option Nat) (t : TypeId) (H : AH) (k : AV → AH → Option β) : Option β :=
  match cfg.ty t with
  | some ti => if allCells ti.zero then gL gA1 (cfg.fga t ti.zero) fun row => fNat ti.zero.length fun sz => yNew nid H (.rows (bigZ row) sz [row]) fun i H' => k (.ptr i 0 0) H' else none
  | none => none
noncomputable def yBox (nid : Option Nat) (a : AV) (H : AH) (k : AV → AH → Option β) : Option β :=
  match a.cells with
  | some cs => gS cs fun cs => fNat cs.length fun sz => yNew nid H (.rows (bigZ cs) sz [cs]) fun i H' => k (.ptr i 0 0) H'
  | none => none
noncomputable def yOp (cfg : Cfg) (nid : Option Nat) (o : Op) (ty : TypeId) (x : Operand → AV) (H : AH) (k : AV → AH → Option β) : Option β :=
  match o with
  | .move a | .assign a => gW (x a) fun v => k v H
  | .alloc t => yAlloc cfg nid t H k
  | .box _ a => yBox nid (x a) H k
  | .store t a v =>
    match cfg.sz t with
    | some n => yStore n H (x a) (x v) fun H' => k .junk H'
    | none => none
  | .buildSlice t len parts => (match xBuildSlice cfg nid t len (parts.toList.map fun p => (p.1, x p.2)) H with | some r => gA r.1 fun v => gH r.2 fun H' => k v H' | none => none)
  | .convert s d a => (match aConvert cfg nid s d (x a) H with | some r => gA r.1 fun v => gH r.2 fun H' => k v H' | none => none)
  | .makeSlice t l c => (match aMake cfg nid t (x l) (x c) H with | some r => gA r.1 fun v => gH r.2 fun H' => k v H' | none => none)
  | .call c => (match evOp cfg nid (.call c) ty x H with | some r => gA r.1 fun v => gH r.2 fun H' => k v H' | none => none)
  | o => (match xOp cfg nid o ty x H with | some r => gA r.1 fun v => k v r.2 | none => none)
theorem yOp_eq (cfg : Cfg) (nid : Option Nat) (o : Op) (ty : TypeId) (x : Operand → AV) (H : AH) (k : AV → AH → Option β) : yOp cfg nid o ty x H k = (evOp cfg nid o ty x H).bind fun r => k r.1 r.2 := by
  have em : ∀ (q : Option (AV × AH)), (match q with | some r => gA r.1 fun v => gH r.2 fun H' => k v H' | none => none) = q.bind fun r => k r.1 r.2 := fun q => by cases q <;> simp [gA_eq, gH_eq]
  have em' : ∀ (q : Option (AV × AH)), (match q with | some r => gA r.1 fun v => k v r.2 | none => none) = q.bind fun r => k r.1 r.2 := fun q => by cases q <;> simp [gA_eq]
  cases o with
  | move a => simp [yOp, evOp, gW_eq]
  | assign a => simp [yOp, evOp, gW_eq]
  | alloc t =>
    simp only [yOp, evOp, yAlloc]
    cases cfg.ty t with
    | none => rfl
    | some ti =>
      simp only
      split
      · simp only [gL_eq gA1_eq, fNat_eq, yNew_eq]
        cases aNew nid H (.rows (bigZ (cfg.fga t ti.zero)) ti.zero.length [cfg.fga t ti.zero]) <;> rfl
      · rfl
  | box t a =>
    simp only [yOp, evOp, yBox]
    cases (x a).cells with
    | none => rfl
    | some cs =>
      simp only [gS_eq, fNat_eq, yNew_eq]
      cases aNew nid H (.rows (bigZ cs) cs.length [cs]) <;> rfl
  | store t a v =>
    simp only [yOp, evOp]
    cases cfg.sz t with
    | none => rfl
    | some n =>
      simp only [yStore_eq]
      cases aStore n H (x a) (x v) <;> rfl
  | buildSlice t len parts => simp only [yOp]; rw [em]; rfl
  | convert s d a => simp only [yOp]; rw [em]; rfl
  | makeSlice t l c => simp only [yOp]; rw [em]; rfl
  | call c => simp only [yOp]; rw [em]
  | _ => simp only [yOp]; rw [em', xOp_eq]

mutual
def AV.same : AV → AV → Bool
  | .int a b, .int c d => kindEq a c && decide (b = d)
  | .bool a, .bool b => a == b
  | .str a, .str b => a == b
  | .agg a, .agg b => sameL a b
  | .tup a, .tup b => sameL a b
  | .nilS, .nilS => true
  | .sl a, .sl b => sameR a b
  | .em, .em => true
  | .nilP, .nilP => true
  | .nilF, .nilF => true
  | .nilM, .nilM => true
  | .nilI, .nilI => true
  | .junk, .junk => true
  | .fn (.func f) a b, .fn (.func g) c d => Nat.beq f g && (sameL a c && sameL b d)
  | .cptr a i, .cptr b j => Nat.beq i j && sameL a b
  | _, _ => false
def sameL : List AV → List AV → Bool
  | [], [] => true
  | a :: l, b :: m => a.same b && sameL l m
  | _, _ => false
def sameR : List (List AV) → List (List AV) → Bool
  | [], [] => true
  | a :: l, b :: m => sameL a b && sameR l m
  | _, _ => false
end
mutual
theorem AV.same_eq : ∀ {a b : AV}, a.same b = true → a = b
  | .int a b, y, h => by
    cases y <;> simp [AV.same, kindEq] at h
    rw [h.1, h.2]
  | .bool a, y, h => by cases y <;> simp [AV.same] at h; rw [h]
  | .str a, y, h => by cases y <;> simp [AV.same] at h; rw [h]
  | .agg a, y, h => by cases y <;> simp [AV.same] at h; rw [sameL_eq h]
  | .tup a, y, h => by cases y <;> simp [AV.same] at h; rw [sameL_eq h]
  | .nilS, y, h => by cases y <;> simp [AV.same] at h; rfl
  | .sl a, y, h => by cases y <;> simp [AV.same] at h; rw [sameR_eq h]
  | .em, y, h => by cases y <;> simp [AV.same] at h; rfl
  | .nilP, y, h => by cases y <;> simp [AV.same] at h; rfl
  | .nilF, y, h => by cases y <;> simp [AV.same] at h; rfl
  | .nilM, y, h => by cases y <;> simp [AV.same] at h; rfl
  | .nilI, y, h => by cases y <;> simp [AV.same] at h; rfl
  | .junk, y, h => by cases y <;> simp [AV.same] at h; rfl
  | .fn f a b, y, h => by
    cases f <;> cases y <;> first | (rename_i g c d; cases g <;> simp [AV.same] at h; rw [h.1, sameL_eq h.2.1, sameL_eq h.2.2]) | simp [AV.same] at h
  | .cptr a i, y, h => by
    cases y <;> simp [AV.same] at h
    rw [h.1, sameL_eq h.2]
  | .ms _ _ _, y, h => by cases y <;> simp [AV.same] at h
  | .ptr _ _ _, y, h => by cases y <;> simp [AV.same] at h
  | .yld _, y, h => by cases y <;> simp [AV.same] at h
  | .mp _, y, h => by cases y <;> simp [AV.same] at h
  | .ifc _ _, y, h => by cases y <;> simp [AV.same] at h
theorem sameL_eq : ∀ {a b : List AV}, sameL a b = true → a = b
  | [], [], _ => rfl
  | a :: l, b :: m, h => by
    simp only [sameL, Bool.and_eq_true] at h
    rw [AV.same_eq h.1, sameL_eq h.2]
  | [], _ :: _, h => by simp [sameL] at h
  | _ :: _, [], h => by simp [sameL] at h
theorem sameR_eq : ∀ {a b : List (List AV)}, sameR a b = true → a = b
  | [], [], _ => rfl
  | a :: l, b :: m, h => by
    simp only [sameR, Bool.and_eq_true] at h
    rw [sameL_eq h.1, sameR_eq h.2]
  | [], _ :: _, h => by simp [sameR] at h
  | _ :: _, [], h => by simp [sameR] at h
end
structure Fact where
  frz : Bool
  f : Nat
  args : List AV
  v : AV
def Fact.Ok (cfg : Cfg) (e : Fact) : Prop := (if e.frz then EVf (EV cfg) e.f e.args else EVs (EV cfg) e.f e.args) = some e.v
def FactsOk (cfg : Cfg) : List Fact → Prop
  | [] => True
  | e :: l => e.Ok cfg ∧ FactsOk cfg l
theorem FactsOk.nil {cfg : Cfg} : FactsOk cfg [] := trivial
theorem FactsOk.consS {cfg : Cfg} {f : Nat} {args : List AV} {v : AV} {l : List Fact} (h : EVs (EV cfg) f args = some v) (t : FactsOk cfg l) : FactsOk cfg (⟨false, f, args, v⟩ :: l) := ⟨h, t⟩
theorem FactsOk.consF {cfg : Cfg} {f : Nat} {args : List AV} {v : AV} {l : List Fact} (h : EVf (EV cfg) f args = some v) (t : FactsOk cfg l) : FactsOk cfg (⟨true, f, args, v⟩ :: l) := ⟨h, t⟩
noncomputable def factLook (frz : Bool) (f : Nat) (args : List AV) (fs : List Fact) : Option AV :=
  List.rec (motive := fun _ => Option AV) none (fun e _ ih => cond (Nat.beq e.f f && (e.frz == frz && sameL e.args args)) (some e.v) ih) fs
theorem factLook_ok {cfg : Cfg} {frz : Bool} {f : Nat} {args : List AV} {v : AV} : ∀ {fs : List Fact}, FactsOk cfg fs → factLook frz f args fs = some v → (if frz then EVf (EV cfg) f args else EVs (EV cfg) f args) = some v
  | [], _, h => by cases h
  | e :: l, hok, h => by
    have hd : factLook frz f args (e :: l) = cond (Nat.beq e.f f && (e.frz == frz && sameL e.args args)) (some e.v) (factLook frz f args l) := rfl
    rw [hd] at h
    cases hc : (Nat.beq e.f f && (e.frz == frz && sameL e.args args)) with
    | true =>
      rw [hc] at h
      simp only [Bool.and_eq_true, beq_iff_eq] at hc
      cases h
      have := hok.1
      unfold Fact.Ok at this
      rw [← Nat.eq_of_beq_eq_true hc.1, ← hc.2.1, ← sameL_eq hc.2.2]
      exact this
    | false =>
      rw [hc] at h
      exact factLook_ok hok.2 h

noncomputable def yCallG (cfg : Cfg) (cf : Orac) (nid : Option Nat) (t : Tgt) (args : List AV) (H : AH) (k : AV → AH → Option β) : Option β :=
  match callT cfg cf nid t args H with
  | some r => gA r.1 fun v => gH r.2 fun H' => k v H'
  | none => none
noncomputable def yCallS (_cfg : Cfg) (cf : Orac) (fs : List Fact) (f : Nat) (al : List AV) (k : AV → Option β) : Option β :=
  cond (refsLtL 0 al)
    (match factLook false f al fs with
    | some v => cond v.scalar (k v) none
    | none => (match cf (.f f) al [] with | some r => gA r.1 fun v => cond v.scalar (k v) none | none => none)) none
noncomputable def yCallF (_cfg : Cfg) (cf : Orac) (fs : List Fact) (f : Nat) (al : List AV) (k : AV → Option β) : Option β :=
  cond (refsLtL 0 al)
    (match factLook true f al fs with
    | some v => cond (v.refsLt 0) (k v) none
    | none => (match cf (.f f) al [] with | some r => gA (r.1.frz r.1.msIds r.2).fg fun v => cond (v.refsLt 0) (k v) none | none => none)) none
noncomputable def yCallT (cfg : Cfg) (cf : Orac) (fs : List Fact) (nid : Option Nat) (t : Tgt) (args : List AV) (H : AH) (k : AV → AH → Option β) : Option β :=
  match t with
  | .y id => yCallG cfg cf nid (.y id) args H k
  | .f f =>
    match cfg.mode f with
    | .scal => gL gA (args.map fun a => (a.snap H).fg) fun al => yCallS cfg cf fs f al fun v => k v H
    | .pfrz => gL gA (args.map AV.fg) fun al => yCallF cfg cf fs f al fun v => k v H
    | _ => yCallG cfg cf nid (.f f) args H k
noncomputable def yCallV (cfg : Cfg) (cf : Orac) (fs : List Fact) (nid : Option Nat) (f : AV) (args : List AV) (H : AH) (k : AV → AH → Option β) : Option β :=
  match tgtOf f args with
  | some t => yCallT cfg cf fs nid t.1 t.2 H k
  | none => none
def Le (cf cf' : Orac) : Prop := ∀ t a H r, cf t a H = some r → cf' t a H = some r
theorem yCallT_some {cfg : Cfg} {cf : Orac} (hcf : Le cf (EV cfg)) {fs : List Fact} (hfs : FactsOk cfg fs) {nid : Option Nat} {t : Tgt} {args : List AV} {H : AH} {k : AV → AH → Option β} {r : β}
    (h : yCallT cfg cf fs nid t args H k = some r) : ∃ q, callT cfg (EV cfg) nid t args H = some q ∧ k q.1 q.2 = some r := by
  have hev : Ev (fun _ => EV cfg) cf := fun t a H r h => ⟨0, fun _ _ => hcf t a H r h⟩
  have gen : ∀ (t : Tgt), yCallG cfg cf nid t args H k = some r → ∃ q, callT cfg (EV cfg) nid t args H = some q ∧ k q.1 q.2 = some r := by
    intro t h
    unfold yCallG at h
    split at h
    · rename_i q hq
      rw [gA_eq, gH_eq] at h
      obtain ⟨n, hn⟩ := callT_ev hev cfg nid t args H q hq
      exact ⟨q, hn n (Nat.le_refl _), h⟩
    · cases h
  cases t with
  | y id => exact gen _ h
  | f f =>
    simp only [yCallT] at h
    cases hm : cfg.mode f with
    | scal =>
      simp only [hm, gL_eq gA_eq] at h
      unfold yCallS at h
      obtain ⟨h1, h⟩ := cond_some h
      simp only [callT, hm, h1, if_true]
      split at h
      · rename_i v hv
        obtain ⟨h2, h⟩ := cond_some h
        have := factLook_ok hfs hv
        simp only [Bool.false_eq_true, if_false] at this
        unfold EVs at this
        obtain ⟨q, hq, rfl⟩ := Option.map_eq_some_iff.1 this
        rw [hq]
        exact ⟨(q.1, H), by simp only [Option.bind_some, h2, if_true], h⟩
      · split at h
        · rename_i q hq
          rw [gA_eq] at h
          obtain ⟨h2, h⟩ := cond_some h
          rw [hcf _ _ _ _ hq]
          exact ⟨(q.1, H), by simp only [Option.bind_some, h2, if_true], h⟩
        · cases h
    | pfrz =>
      simp only [hm, gL_eq gA_eq] at h
      unfold yCallF at h
      obtain ⟨h1, h⟩ := cond_some h
      simp only [callT, hm, h1, if_true]
      split at h
      · rename_i v hv
        obtain ⟨h2, h⟩ := cond_some h
        have := factLook_ok hfs hv
        simp only [if_true] at this
        unfold EVf at this
        obtain ⟨q, hq, rfl⟩ := Option.map_eq_some_iff.1 this
        rw [hq]
        exact ⟨((q.1.frz q.1.msIds q.2).fg, H), by simp only [Option.bind_some, h2, if_true], h⟩
      · split at h
        · rename_i q hq
          rw [gA_eq] at h
          obtain ⟨h2, h⟩ := cond_some h
          rw [hcf _ _ _ _ hq]
          exact ⟨((q.1.frz q.1.msIds q.2).fg, H), by simp only [Option.bind_some, h2, if_true], h⟩
        · cases h
    | _ => simp only [hm] at h; exact gen _ h
noncomputable def yOper1 (cfg : Cfg) (cf : Orac) (fs : List Fact) (nid : Option Nat) (o : Op) (ty : TypeId) (x : Operand → AV) (H : AH) (k : AV → AH → Option β) : Option β :=
  match o with
  | .call c =>
    (match c.callee with
    | .value f => gL gW (c.args.toList.map x) fun args => yCallV cfg cf fs nid (x f) args H k
    | _ => yOp cfg nid (.call c) ty x H k)
  | o => yOp cfg nid o ty x H k
noncomputable def yOper (cfg : Cfg) (cf : Orac) (fs : List Fact) (frz : Bool) (nid : Option Nat) (o : Oper) (x : Operand → AV) (H : AH) (k : AV → AH → Option β) : Option β :=
  match frz with
  | false => yOper1 cfg cf fs nid o.op o.type x H k
  | true => gS (o.op.operands.toList.flatMap fun a => (x a).msIds) fun ids => gH (frzBlks ids H) fun H' => yOper1 cfg cf fs nid o.op o.type (fun a => (x a).frz ids H) H' k
theorem yOper1_some {cfg : Cfg} {cf : Orac} (hcf : Le cf (EV cfg)) {fs : List Fact} (hfs : FactsOk cfg fs) {nid : Option Nat} {o : Oper} {x : Operand → AV} {H : AH} {k : AV → AH → Option β} {r : β}
    (h : yOper1 cfg cf fs nid o.op o.type x H k = some r) : ∃ q, evOper cfg (EV cfg) false nid o x H = some q ∧ k q.1 q.2 = some r := by
  obtain ⟨dst, op, ty, pos, after, guard⟩ := o
  unfold evOper
  simp only [Bool.false_eq_true, if_false] at h ⊢
  have plain : ∀ (op : Op), yOp cfg nid op ty x H k = some r → ∃ q, evOp cfg nid op ty x H = some q ∧ k q.1 q.2 = some r := by
    intro op h
    rw [yOp_eq] at h
    exact Option.bind_eq_some_iff.1 h
  cases op with
  | call c =>
    obtain ⟨callee, args, argTypes⟩ := c
    cases callee with
    | value f =>
      simp only [yOper1, gL_eq gW_eq] at h ⊢
      unfold yCallV at h
      split at h
      · rename_i t ht
        rw [ht]
        exact yCallT_some hcf hfs h
      · cases h
    | builtin b => simp only [yOper1] at h ⊢; exact plain _ h
    | invoke rv nm => simp only [yOper1] at h ⊢; exact plain _ h
  | _ => simp only [yOper1] at h ⊢; exact plain _ h
theorem yOper_some {cfg : Cfg} {cf : Orac} (hcf : Le cf (EV cfg)) {fs : List Fact} (hfs : FactsOk cfg fs) {frz : Bool} {nid : Option Nat} {o : Oper} {x : Operand → AV} {H : AH} {k : AV → AH → Option β} {r : β}
    (h : yOper cfg cf fs frz nid o x H k = some r) : ∃ q, evOper cfg (EV cfg) frz nid o x H = some q ∧ k q.1 q.2 = some r := by
  cases frz with
  | false => exact yOper1_some hcf hfs h
  | true =>
    simp only [yOper, gS_eq, gH_eq] at h
    obtain ⟨q, h1, h2⟩ := yOper1_some hcf hfs h
    refine ⟨q, ?_, h2⟩
    unfold evOper at h1 ⊢
    simpa using h1

noncomputable def yOps (cfg : Cfg) (cf : Orac) (fs : List Fact) (f rid : Nat) (ops : Array Oper) (n : Nat) : Nat → List Oper → Ov → AH → (Ov → AH → Option β) → Option β
  | _, [], ov, H, K => K ov H
  | i, o :: rest, ov, H, K =>
    match wantedO ops ov o with
    | none => none
    | some b =>
      cond b (yOper cfg cf fs (cfg.frz f rid i) none o (opdO ov) H fun v H' => yOps cfg cf fs f rid ops n (i + 1) rest (putO n ov o.dst v) H' K)
        (yOps cfg cf fs f rid ops n (i + 1) rest (putO n ov o.dst (.tup [])) H K)
theorem yOps_some {cfg : Cfg} {cf : Orac} (hcf : Le cf (EV cfg)) {fs : List Fact} (hfs : FactsOk cfg fs) {f rid n : Nat} {ops : Array Oper} {r : β} : ∀ {l : List Oper} {i : Nat} {ov : Ov} {H : AH} {K : Ov → AH → Option β}, OvOk n ov → yOps cfg cf fs f rid ops n i l ov H K = some r →
    ∃ ov' H', OvOk n ov' ∧ evOps cfg (EV cfg) f rid ops i l (den n ov) H = some (den n ov', H') ∧ K ov' H' = some r
  | [], i, ov, H, K, hok, h => ⟨ov, H, hok, rfl, h⟩
  | o :: l, i, ov, H, K, hok, h => by
    rw [yOps] at h
    rw [evOps, wantedO_eq hok]
    cases hw : wantedO ops ov o with
    | none => rw [hw] at h; cases h
    | some b =>
      rw [hw] at h
      simp only [Option.bind_some]
      cases b with
      | true =>
        simp only [cond_true] at h
        obtain ⟨q, h1, h2⟩ := yOper_some hcf hfs h
        simp only [if_true, opdO_eq hok, h1, Option.bind_some]
        obtain ⟨ov', H', h3, h4, h5⟩ := yOps_some hcf hfs (putO_ok hok _ _) h2
        rw [putO_den] at h4
        exact ⟨ov', H', h3, h4, h5⟩
      | false =>
        simp only [cond_false] at h
        simp only [Bool.false_eq_true, if_false]
        obtain ⟨ov', H', h3, h4, h5⟩ := yOps_some hcf hfs (putO_ok hok _ _) h
        rw [putO_den] at h4
        exact ⟨ov', H', h3, h4, h5⟩
noncomputable def yDraw (cfg : Cfg) (cf : Orac) (fs : List Fact) (f rid : Nat) (ops : Array Oper) (n : Nat) : Nat → Nat → List Oper → Ov → AH → (List FP → Ov → AH → Option β) → Option β
  | _, _, [], ov, H, K => K [] ov H
  | i, at_, o :: rest, ov, H, K =>
    match wantedO ops ov o with
    | none => none
    | some b =>
      fNat (if makes cfg o then at_ + 1 else at_) fun at' =>
      cond b (yOper cfg cf fs (cfg.frz f rid i) (some at_) o (opdO ov) H fun v H' => yDraw cfg cf fs f rid ops n (i + 1) at' rest (putO n ov o.dst v) H' fun fps ov' H'' => K (fpOper cfg (cfg.frz f rid i) at_ o (opdO ov) :: fps) ov' H'')
        (yDraw cfg cf fs f rid ops n (i + 1) at' rest (putO n ov o.dst (.tup [])) H fun fps ov' H'' => K (.none :: fps) ov' H'')
theorem yDraw_some {cfg : Cfg} {cf : Orac} (hcf : Le cf (EV cfg)) {fs : List Fact} (hfs : FactsOk cfg fs) {f rid n : Nat} {ops : Array Oper} {r : β} : ∀ {l : List Oper} {i at_ : Nat} {ov : Ov} {H : AH} {K : List FP → Ov → AH → Option β}, OvOk n ov → yDraw cfg cf fs f rid ops n i at_ l ov H K = some r →
    ∃ fps ov' H', OvOk n ov' ∧ evDraw cfg (EV cfg) f rid ops i at_ l (den n ov) H = some (fps, den n ov', H') ∧ K fps ov' H' = some r
  | [], i, at_, ov, H, K, hok, h => ⟨[], ov, H, hok, rfl, h⟩
  | o :: l, i, at_, ov, H, K, hok, h => by
    rw [yDraw] at h
    rw [evDraw, wantedO_eq hok]
    cases hw : wantedO ops ov o with
    | none => rw [hw] at h; cases h
    | some b =>
      rw [hw] at h
      simp only [Option.bind_some]
      simp only [fNat_eq] at h
      cases b with
      | true =>
        simp only [cond_true] at h
        obtain ⟨q, h1, h2⟩ := yOper_some hcf hfs h
        simp only [if_true, opdO_eq hok, h1, Option.bind_some]
        obtain ⟨fps, ov', H', h3, h4, h5⟩ := yDraw_some hcf hfs (putO_ok hok _ _) h2
        rw [putO_den] at h4
        exact ⟨_, ov', H', h3, by rw [h4]; rfl, h5⟩
      | false =>
        simp only [cond_false] at h
        simp only [Bool.false_eq_true, if_false]
        obtain ⟨fps, ov', H', h3, h4, h5⟩ := yDraw_some hcf hfs (putO_ok hok _ _) h
        rw [putO_den] at h4
        exact ⟨_, ov', H', h3, by rw [h4]; rfl, h5⟩

def risesB : Nat → List Nat → Bool
  | _, [] => true
  | i, k :: ks => Nat.ble i k && risesB (k + 1) ks
noncomputable def maskO (ks : List Nat) (ov : Ov) : (Ov → α) → α :=
  List.rec (motive := fun _ => (Ov → α) → α) (fun K => K []) (fun t _ ih K => gW (ovGet t ov) fun v => ih fun l => K ((t, v) :: l)) ks
theorem maskO_eq (ks : List Nat) (ov : Ov) : ∀ (K : Ov → α), maskO ks ov K = K (ks.map fun t => (t, ovGet t ov)) := by
  induction ks with
  | nil => intro K; rfl
  | cons t l ih =>
    intro K
    have : maskO (t :: l) ov K = gW (ovGet t ov) fun v => maskO l ov fun l => K ((t, v) :: l) := rfl
    rw [this, gW_eq, ih, List.map_cons]
theorem keepGo_get : ∀ (ks : List Nat) (fr : List AV) (i t : Nat), risesB i ks = true → (keepGo i ks fr)[t]? = if t < fr.length then some (if i + t ∈ ks then (fr[t]?).getD .junk else .junk) else none
  | ks, [], i, t, _ => by cases ks <;> simp [keepGo]
  | [], a :: fr, i, t, h => by
    rw [keepGo]
    cases t with
    | zero => simp
    | succ t =>
      simp only [List.getElem?_cons_succ]
      rw [keepGo_get [] fr i t rfl]
      simp
  | k :: ks, a :: fr, i, t, h => by
    rw [risesB, Bool.and_eq_true, Nat.ble_eq] at h
    rw [keepGo]
    have hge : ∀ (l : List Nat) (j : Nat), risesB j l = true → ∀ x ∈ l, j ≤ x := by
      intro l
      induction l with
      | nil => intro j _ x hx; cases hx
      | cons y l ih =>
        intro j hj x hx
        rw [risesB, Bool.and_eq_true, Nat.ble_eq] at hj
        rcases List.mem_cons.1 hx with rfl | hx
        · exact hj.1
        · have := ih _ hj.2 x hx; omega
    split
    · rename_i e
      have e := Nat.eq_of_beq_eq_true e
      subst e
      cases t with
      | zero => simp
      | succ t =>
        simp only [List.getElem?_cons_succ]
        rw [keepGo_get ks fr (i + 1) t h.2]
        have e1 : i + (t + 1) = i + 1 + t := by omega
        have e2 : ¬ i + 1 + t = i := by omega
        simp only [List.length_cons, Nat.add_lt_add_iff_right, e1, List.mem_cons, e2, false_or]
    · rename_i e
      have hne : i ≠ k := fun h' => e (by rw [h']; exact Nat.beq_refl _)
      cases t with
      | zero =>
        have : i ∉ k :: ks := by
          intro hm
          rcases List.mem_cons.1 hm with rfl | hm
          · exact hne rfl
          · have := hge _ _ h.2 i hm; omega
        simp [this]
      | succ t =>
        simp only [List.getElem?_cons_succ]
        rw [keepGo_get (k :: ks) fr (i + 1) t (by rw [risesB, Bool.and_eq_true, Nat.ble_eq]; exact ⟨by omega, h.2⟩)]
        have e1 : i + (t + 1) = i + 1 + t := by omega
        simp only [List.length_cons, Nat.add_lt_add_iff_right, e1]
theorem ovGet_map (ks : List Nat) (g : Nat → AV) (t : Nat) : ovGet t (ks.map fun t => (t, g t)) = if t ∈ ks then g t else .junk := by
  induction ks with
  | nil => rfl
  | cons k l ih =>
    rw [List.map_cons, ovGet_cons, ih]
    by_cases e : k = t
    · subst e; simp
    · have h1 : Nat.beq k t = false := by rw [← Bool.not_eq_true]; intro h'; exact e (Nat.eq_of_beq_eq_true h')
      have h2 : ¬ t = k := fun h => e h.symm
      rw [h1, cond_false]
      simp only [List.mem_cons, h2, false_or]
noncomputable def yMask (n : Nat) (ts : Option (List Nat)) (ov : Ov) (K : Ov → Option β) : Option β :=
  match ts with
  | none => K ov
  | some ks => cond (risesB 0 ks && ks.all fun t => Nat.blt t n) (maskO ks ov K) none
theorem yMask_some {n : Nat} {ts : Option (List Nat)} {ov : Ov} {K : Ov → Option β} {r : β} (hok : OvOk n ov) (h : yMask n ts ov K = some r) : ∃ ov', OvOk n ov' ∧ maskFr ts (den n ov) = den n ov' ∧ K ov' = some r := by
  cases ts with
  | none => exact ⟨ov, hok, rfl, h⟩
  | some ks =>
    simp only [yMask, maskO_eq] at h
    cases hc : (risesB 0 ks && ks.all fun t => Nat.blt t n) with
    | false => rw [hc] at h; cases h
    | true =>
      rw [hc] at h
      rw [Bool.and_eq_true, List.all_eq_true] at hc
      have hok' : OvOk n (ks.map fun t => (t, ovGet t ov)) := by
        intro p hp
        obtain ⟨t, ht, rfl⟩ := List.mem_map.1 hp
        have := hc.2 t ht
        simpa [Nat.blt_eq] using this
      refine ⟨_, hok', (den_ext hok' ?_ fun t ht => ?_).symm, h⟩
      · show (keepGo 0 ks (den n ov)).length = n
        rw [(keepGo_rep (ts := ks) (fr := den n ov) (k := 0)).1, den_len]
      · show (keepGo 0 ks (den n ov))[t]? = _
        rw [keepGo_get _ _ _ _ hc.1, den_len, if_pos ht, Nat.zero_add, ovGet_map, den_get hok, if_pos ht]
        rfl
noncomputable def yLift (n : Nat) : List (Tmp × Nat) → Ov → AH → (Ov → AH → Option β) → Option β
  | [], ov, H, K => K ov H
  | p :: l, ov, H, K =>
    match ovGet p.1 ov with
    | .nilS => fNat H.length fun i => cond (Nat.blt p.1 n) (gS (H ++ [.rows true p.2 []]) fun H' => yLift n l ((p.1, .ms i 0 0) :: ov) H' K) none
    | .ptr _ _ _ => (match lift1 p.1 p.2 (den n ov) H with | q => gH q.2 fun H' => yLift n l ov H' K)
    | _ => yLift n l ov H K
theorem lift1_ptr {t sz : Nat} {fr : List AV} {H : AH} {id r off : Nat} (h : fr[t]? = some (.ptr id r off)) : (lift1 t sz fr H).1 = fr := by
  unfold lift1
  rw [h]
  simp only
  split
  · split
    · split <;> rfl
    · rfl
  · rfl
theorem yLift_some {n : Nat} {r : β} : ∀ {ls : List (Tmp × Nat)} {ov : Ov} {H : AH} {K : Ov → AH → Option β}, OvOk n ov → yLift n ls ov H K = some r → ∃ ov' H', OvOk n ov' ∧ liftFr ls (den n ov) H = (den n ov', H') ∧ K ov' H' = some r
  | [], ov, H, K, hok, h => ⟨ov, H, hok, rfl, h⟩
  | p :: l, ov, H, K, hok, h => by
    rw [yLift] at h
    rw [liftFr]
    have hget : (den n ov)[p.1]? = if p.1 < n then some (ovGet p.1 ov) else none := den_get hok p.1
    split at h
    · rename_i hv
      simp only [fNat_eq] at h
      cases hb : Nat.blt p.1 n with
      | false => rw [hb] at h; cases h
      | true =>
        rw [hb] at h
        simp only [cond_true, gS_eq] at h
        have hlt : p.1 < n := by simpa [Nat.blt_eq] using hb
        have hl1 : lift1 p.1 p.2 (den n ov) H = (den n ((p.1, .ms H.length 0 0) :: ov), H ++ [.rows true p.2 []]) := by
          unfold lift1
          rw [hget, if_pos hlt, hv]; rfl
        rw [hl1]
        exact yLift_some (fun q hq => by rcases List.mem_cons.1 hq with rfl | hq; · exact hlt
                                         · exact hok q hq) h
    · rename_i id r' off hv
      simp only [gH_eq] at h
      by_cases hlt : p.1 < n
      · rw [lift1_ptr (by rw [hget, if_pos hlt, hv])]
        exact yLift_some hok h
      · rw [ovGet_big hok hlt] at hv; cases hv
    · rename_i h1 h2
      have hl1 : lift1 p.1 p.2 (den n ov) H = (den n ov, H) := by
        unfold lift1
        rw [hget]
        by_cases hlt : p.1 < n
        · rw [if_pos hlt]
          split
          · rename_i e; exact absurd (Option.some.inj e) h1
          · rename_i a b c e; exact absurd (Option.some.inj e) (h2 a b c)
          · rfl
        · rw [if_neg hlt]
      rw [hl1]
      exact yLift_some hok h
def spGo : Nat → List AV → Ov
  | _, [] => []
  | i, .junk :: l => spGo (i + 1) l
  | i, v :: l => (i, v) :: spGo (i + 1) l
theorem spGo_get : ∀ (l : List AV) (i t : Nat), ovGet t (spGo i l) = if i ≤ t then (l[t - i]?).getD .junk else .junk
  | [], i, t => by simp [spGo, ovGet_nil]
  | a :: l, i, t => by
    have ih := spGo_get l (i + 1) t
    have key : ∀ (ov : Ov), ov = (i, a) :: spGo (i + 1) l → ovGet t ov = if i ≤ t then ((a :: l)[t - i]?).getD .junk else .junk := by
      intro ov e
      rw [e, ovGet_cons, ih]
      by_cases e2 : i = t
      · subst e2; simp
      · have h1 : Nat.beq i t = false := by rw [← Bool.not_eq_true]; intro h'; exact e2 (Nat.eq_of_beq_eq_true h')
        simp only [h1, cond_false]
        by_cases h3 : i + 1 ≤ t
        · have h4 : t - i = (t - (i + 1)) + 1 := by omega
          rw [if_pos h3, if_pos (by omega), h4, List.getElem?_cons_succ]
        · rw [if_neg h3, if_neg (by omega)]
    cases a with
    | junk =>
      show ovGet t (spGo (i + 1) l) = _
      rw [ih]
      by_cases h3 : i + 1 ≤ t
      · have h4 : t - i = (t - (i + 1)) + 1 := by omega
        rw [if_pos h3, if_pos (by omega), h4, List.getElem?_cons_succ]
      · rw [if_neg h3]
        by_cases e2 : i = t
        · subst e2; simp
        · rw [if_neg (by omega)]
    | _ => exact key _ rfl
theorem spGo_ok : ∀ (l : List AV) (i n : Nat), i + l.length ≤ n → OvOk n (spGo i l)
  | [], i, n, _ => fun p hp => by cases hp
  | a :: l, i, n, h => by
    simp only [List.length_cons] at h
    have ih := spGo_ok l (i + 1) n (by omega)
    have key : OvOk n ((i, a) :: spGo (i + 1) l) := fun p hp => by
      rcases List.mem_cons.1 hp with rfl | hp
      · show i < n; omega
      · exact ih p hp
    cases a <;> first | exact key | exact ih
theorem den_sp (l : List AV) : den l.length (spGo 0 l) = l := by
  have hok := spGo_ok l 0 l.length (by omega)
  refine den_ext hok rfl fun t ht => ?_
  rw [spGo_get, if_pos (Nat.zero_le _), Nat.sub_zero, List.getElem?_eq_getElem ht]; rfl
noncomputable def yGc (n k : Nat) (ov : Ov) (H : AH) (K : Ov → AH → Option β) : Option β :=
  cond (Nat.ble H.length k) (K ov H) (match gcAll k (den n ov) H with | q => gS (spGo 0 q.1) fun ov' => gL gP ov' fun ov' => gH q.2 fun H' => K ov' H')
theorem renL_len (ρ : Nat → Nat) (l : List AV) : (renL ρ l).length = l.length := by rw [renL_map]; simp
theorem gcAll_len (k : Nat) (fr : List AV) (H : AH) : (gcAll k fr H).1.length = fr.length := by
  unfold gcAll
  simp only
  cases blksOf H (reach k H (2 * H.length + 16) [] (idsGeL k fr ++ idsGeH k (H.take k))) with
  | none => rfl
  | some bs =>
    simp only
    split
    · exact renL_len _ _
    · rfl
theorem yGc_some {n k : Nat} {ov : Ov} {H : AH} {K : Ov → AH → Option β} {r : β} (hok : OvOk n ov) (h : yGc n k ov H K = some r) : ∃ ov' H', OvOk n ov' ∧ gc k (den n ov) H = (den n ov', H') ∧ K ov' H' = some r := by
  unfold yGc at h
  unfold gc
  cases hb : Nat.ble H.length k with
  | true => rw [hb] at h; exact ⟨ov, H, hok, by simp, h⟩
  | false =>
    rw [hb] at h
    simp only [cond_false] at h
    rw [gS_eq, gL_eq gP_eq, gH_eq] at h
    have hl : (gcAll k (den n ov) H).1.length = n := by rw [gcAll_len, den_len]
    have := den_sp (gcAll k (den n ov) H).1
    rw [hl] at this
    refine ⟨_, _, ?_, ?_, h⟩
    · exact spGo_ok _ _ _ (by omega)
    · simp only [Bool.false_eq_true, if_false, this]
noncomputable def yHead (n k : Nat) (ts : Option (List Tmp)) (ls : List (Tmp × Nat)) (ov : Ov) (H : AH) (K : Ov → AH → Option β) : Option β :=
  yMask n ts ov fun ov => yLift n ls ov H fun ov H => yGc n k ov H K
theorem yHead_some {n k : Nat} {ts : Option (List Tmp)} {ls : List (Tmp × Nat)} {ov : Ov} {H : AH} {K : Ov → AH → Option β} {r : β} (hok : OvOk n ov) (h : yHead n k ts ls ov H K = some r) :
    ∃ ov' H', OvOk n ov' ∧ headFr k ts ls (den n ov) H = (den n ov', H') ∧ K ov' H' = some r := by
  obtain ⟨ov1, h1, h2, h⟩ := yMask_some hok h
  obtain ⟨ov2, H2, h3, h4, h⟩ := yLift_some h1 h
  obtain ⟨ov3, H3, h5, h6, h⟩ := yGc_some h3 h
  refine ⟨ov3, H3, h5, ?_, h⟩
  unfold headFr
  rw [h2, h4]
  exact h6

abbrev YE (β : Type) := Ex → Ov → AH → Option β
noncomputable def yLoop (n k : Nat) (ts : Option (List Tmp)) (ls : List (Tmp × Nat)) (body : Ov → AH → YE β → Option β) : Nat → Ov → AH → YE β → Option β
  | 0, _, _, _ => none
  | m + 1, ov, H, K => body ov H fun e ov' H' =>
    match e with
    | .normal => yHead n k ts ls ov' H' fun ov2 H2 => yLoop n k ts ls body m ov2 H2 K
    | e => K e ov' H'
noncomputable def yRange (cfg : Cfg) (cf : Orac) (f : Nat) (rd : Option Nat) (n bs : Nat) (g : Operand) (ps : Array Tmp) (assign body : Code) (ov : Ov) (H : AH) (K : YE β) : Option β :=
  gL gW (den n ov) fun fr =>
  match evRange cfg cf f rd bs g ps assign body fr H with
  | none => none
  | some q => gS (spGo 0 q.2.1) fun ov' => gL gP ov' fun ov' => gH q.2.2 fun H' => cond (Nat.beq q.2.1.length n) (K q.1 ov' H') none
noncomputable def yC (cfg : Cfg) (cf : Orac) (fs : List Fact) (m f : Nat) (rd : Option Nat) (n bs : Nat) : Code → Ov → AH → YE β → Option β
  | .skip, ov, H, K => K .normal ov H
  | .label _, ov, H, K => K .normal ov H
  | .region id ops draw, ov, H, K =>
    match draw with
    | true => cond (drawStat ops) (gS (H ++ List.replicate (places cfg ops.toList) .res) fun H1 => yDraw cfg cf fs f id ops n 0 H.length ops.toList ov H1 fun fps ov' H' => cond (dynAll (ancs [] ops.toList) 0 fps) (K .normal ov' H') none) none
    | false => yOps cfg cf fs f id ops n 0 ops.toList ov H fun ov' H' => K .normal ov' H'
  | .seq a b, ov, H, K => yC cfg cf fs m f rd n bs a ov H fun e ov' H' =>
    match e with
    | .normal => yMask n (cfg.cut f (firstRid b)) ov' fun ov2 => yC cfg cf fs m f rd n bs b ov2 H' K
    | e => K e ov' H'
  | .cond c a b, ov, H, K =>
    match opdO ov c with
    | .bool t => (match t with | true => yC cfg cf fs m f rd n bs a ov H K | false => yC cfg cf fs m f rd n bs b ov H K)
    | _ => none
  | .block id a, ov, H, K => yC cfg cf fs m f rd n bs a ov H fun e ov' H' =>
    match e with
    | .exit id' => cond (Nat.beq id' id) (K .normal ov' H') (K (.exit id') ov' H')
    | e => K e ov' H'
  | .loop a, ov, H, K => yHead n bs (cfg.keepIn f (firstRid a)) (cfg.lift f (firstRid a)) ov H fun ov H =>
      yLoop n bs (cfg.keepIn f (firstRid a)) (cfg.lift f (firstRid a)) (yC cfg cf fs m f rd n bs a) m ov H fun e ov H => yMask n (cfg.keepOut f (firstRid a)) ov fun ov => K e ov H
  | .scope a, ov, H, K => yC cfg cf fs m f rd n bs a ov H fun e ov' H' =>
    match e with
    | .goto _ => none
    | e => K e ov' H'
  | .exit id, ov, H, K => K (.exit id) ov H
  | .goto _, _, _, _ => none
  | .ret, ov, H, K => K .ret ov H
  | .rangeFunc g ps assign body, ov, H, K => yLift n (cfg.lift f (firstRid body)) ov H fun ov H => yRange cfg cf f rd n bs g ps assign body ov H K
  | .refuse _, _, _, _ => none

theorem yLoop_some {n k : Nat} {ts : Option (List Tmp)} {ls : List (Tmp × Nat)} {body : Ov → AH → YE β → Option β} {den' : Den} {r : β}
    (hb : ∀ {ov H K}, OvOk n ov → body ov H K = some r → ∃ e ov' H', OvOk n ov' ∧ den' (den n ov) H = some (e, den n ov', H') ∧ K e ov' H' = some r) :
    ∀ (m : Nat) {ov : Ov} {H : AH} {K : YE β}, OvOk n ov → yLoop n k ts ls body m ov H K = some r → ∃ e ov' H', OvOk n ov' ∧ loopN k ts ls den' m (den n ov, H) = some (e, den n ov', H') ∧ K e ov' H' = some r
  | 0, ov, H, K, _, h => by cases h
  | m + 1, ov, H, K, hok, h => by
    rw [yLoop] at h
    obtain ⟨e, ov1, H1, h1, h2, h3⟩ := hb hok h
    rw [loopN]
    simp only [h2, Option.bind_some]
    cases e with
    | normal =>
      simp only at h3 ⊢
      obtain ⟨ov2, H2, h4, h5, h6⟩ := yHead_some h1 h3
      rw [h5]
      exact yLoop_some hb m h4 h6
    | exit id => exact ⟨_, ov1, H1, h1, rfl, h3⟩
    | goto l => exact ⟨_, ov1, H1, h1, rfl, h3⟩
    | ret => exact ⟨_, ov1, H1, h1, rfl, h3⟩

theorem yC_some {cfg : Cfg} {cf : Orac} (hcf : Le cf (EV cfg)) {fs : List Fact} (hfs : FactsOk cfg fs) {m f : Nat} {rd : Option Nat} {n bs : Nat} {r : β} : ∀ (c : Code) {ov : Ov} {H : AH} {K : YE β}, OvOk n ov → yC cfg cf fs m f rd n bs c ov H K = some r →
    ∃ e ov' H', OvOk n ov' ∧ evC cfg (EV cfg) f rd bs c (den n ov) H = some (e, den n ov', H') ∧ K e ov' H' = some r := by
  intro c
  induction c with
  | skip => intro ov H K hok h; exact ⟨_, ov, H, hok, by simp only [evC], h⟩
  | label l => intro ov H K hok h; exact ⟨_, ov, H, hok, by simp only [evC], h⟩
  | exit id => intro ov H K hok h; exact ⟨_, ov, H, hok, by simp only [evC], h⟩
  | ret => intro ov H K hok h; exact ⟨_, ov, H, hok, by simp only [evC], h⟩
  | goto l => intro ov H K hok h; cases h
  | refuse s => intro ov H K hok h; cases h
  | region id ops draw =>
    intro ov H K hok h
    simp only [yC] at h
    simp only [evC]
    cases draw with
    | true =>
      simp only at h
      obtain ⟨h1, h⟩ := cond_some h
      rw [gS_eq] at h
      obtain ⟨fps, ov', H', h2, h3, h⟩ := yDraw_some hcf hfs hok h
      obtain ⟨h4, h⟩ := cond_some h
      exact ⟨_, ov', H', h2, by simp only [if_true, h1, h3, Option.bind_some, h4], h⟩
    | false =>
      simp only at h
      obtain ⟨ov', H', h2, h3, h⟩ := yOps_some hcf hfs hok h
      exact ⟨_, ov', H', h2, by simp only [Bool.false_eq_true, if_false, h3, Option.map_some], h⟩
  | seq x y ihx ihy =>
    intro ov H K hok h
    simp only [yC] at h
    simp only [evC]
    obtain ⟨e, ov1, H1, h1, h2, h⟩ := ihx hok h
    rw [h2]
    simp only [Option.bind_some]
    cases e with
    | normal =>
      simp only at h ⊢
      obtain ⟨ov2, h3, h4, h⟩ := yMask_some h1 h
      rw [h4]
      exact ihy h3 h
    | exit id => exact ⟨_, ov1, H1, h1, rfl, h⟩
    | goto l => exact ⟨_, ov1, H1, h1, rfl, h⟩
    | ret => exact ⟨_, ov1, H1, h1, rfl, h⟩
  | cond c x y ihx ihy =>
    intro ov H K hok h
    simp only [yC] at h
    simp only [evC, opdO_eq hok]
    split at h
    · rename_i t ht
      rw [ht]
      cases t with
      | true => exact ihx hok h
      | false => exact ihy hok h
    · cases h
  | block id x ih =>
    intro ov H K hok h
    simp only [yC] at h
    simp only [evC]
    obtain ⟨e, ov1, H1, h1, h2, h⟩ := ih hok h
    rw [h2]
    simp only [Option.bind_some]
    cases e with
    | normal => exact ⟨_, ov1, H1, h1, rfl, h⟩
    | exit id' =>
      simp only at h ⊢
      cases hb : Nat.beq id' id with
      | true => rw [hb] at h; exact ⟨_, ov1, H1, h1, by simp, h⟩
      | false => rw [hb] at h; exact ⟨_, ov1, H1, h1, by simp, h⟩
    | goto l => exact ⟨_, ov1, H1, h1, rfl, h⟩
    | ret => exact ⟨_, ov1, H1, h1, rfl, h⟩
  | loop x ih =>
    intro ov H K hok h
    simp only [yC] at h
    simp only [evC]
    obtain ⟨ov1, H1, h1, h2, h⟩ := yHead_some hok h
    rw [h2]
    obtain ⟨e, ov2, H2, h3, h4, h⟩ := yLoop_some (den' := evC cfg (EV cfg) f rd bs x) (fun hok h => ih hok h) m h1 h
    obtain ⟨ov3, h5, h6, h⟩ := yMask_some h3 h
    rw [LOOP_of h4]
    exact ⟨e, ov3, H2, h5, by simp only [Option.map_some, h6], h⟩
  | scope x ih =>
    intro ov H K hok h
    simp only [yC] at h
    simp only [evC]
    obtain ⟨e, ov1, H1, h1, h2, h⟩ := ih hok h
    rw [h2]
    simp only [Option.bind_some]
    cases e with
    | goto l => cases h
    | normal => exact ⟨_, ov1, H1, h1, rfl, h⟩
    | exit id => exact ⟨_, ov1, H1, h1, rfl, h⟩
    | ret => exact ⟨_, ov1, H1, h1, rfl, h⟩
  | rangeFunc g ps assign body =>
    intro ov H K hok h
    simp only [yC] at h
    simp only [evC]
    obtain ⟨ov1, H1, h1, h2, h⟩ := yLift_some hok h
    rw [h2]
    simp only
    unfold yRange at h
    rw [gL_eq gW_eq] at h
    split at h
    · cases h
    · rename_i q hq
      have hq : evRange cfg (EV cfg) f rd bs g ps assign body (den n ov1) H1 = some q := by
        unfold evRange at hq ⊢
        split at hq
        · rename_i hl
          rw [if_pos hl]
          split at hq
          · split at hq
            · cases hq
            · rename_i hx
              rw [if_neg hx]
              obtain ⟨q2, hq2, hq⟩ := Option.bind_eq_some_iff.1 hq
              rw [hcf _ _ _ _ hq2]
              exact hq
          · cases hq
        · cases hq
      rw [gS_eq, gL_eq gP_eq, gH_eq] at h
      obtain ⟨hl, h⟩ := cond_some h
      have hl := Nat.eq_of_beq_eq_true hl
      have hd := den_sp q.2.1
      rw [hl] at hd
      refine ⟨q.1, _, q.2.2, ?_, ?_, h⟩
      · exact spGo_ok _ _ _ (by omega)
      · rw [hq, hd]

noncomputable def resO (rs : List ResultVar) (ty : TypeId → Option TI) (ov : Ov) (H : AH) : Option (List AV) :=
  match rs with
  | [] => some []
  | .tmp t :: l => (resO l ty ov H).map fun vs => ovGet t ov :: vs
  | .cell a t :: l =>
    match ty t with
    | some ti => (aLoad ti.d.agg ti.sz H (ovGet a ov)).bind fun v => (resO l ty ov H).map fun vs => v :: vs
    | none => none
theorem resO_eq {n : Nat} {ov : Ov} (hok : OvOk n ov) (ty : TypeId → Option TI) (H : AH) : ∀ rs : List ResultVar, resVals rs ty (den n ov) H = resO rs ty ov H
  | [] => rfl
  | .tmp t :: l => by
    have : (den n ov).getD t .junk = ovGet t ov := congrFun (opdO_eq hok) (.tmp t)
    simp only [resVals, resO, resO_eq hok ty H l, this]
  | .cell a t :: l => by
    have : (den n ov).getD a .junk = ovGet a ov := congrFun (opdO_eq hok) (.tmp a)
    simp only [resVals, resO, resO_eq hok ty H l, this]
    cases ty t <;> rfl
noncomputable def yEnd (cfg : Cfg) (f n : Nat) (rs : List ResultVar) : YE (AV × AH) := fun e ov H =>
  match e with
  | .normal | .ret => yLift n (cfg.lift f 0) ov H fun ov H => (match resO rs cfg.ty ov H with | some vs => gA (result1 vs) fun v => some (v, H) | none => none)
  | _ => none
def argsO : Nat → List AV → Ov
  | _, [] => []
  | i, a :: l => (i, a) :: argsO (i + 1) l
theorem argsO_ok : ∀ (l : List AV) (i n : Nat), i + l.length ≤ n → OvOk n (argsO i l)
  | [], i, n, _ => fun p hp => by cases hp
  | a :: l, i, n, h => by
    simp only [List.length_cons] at h
    intro p hp
    rcases List.mem_cons.1 hp with rfl | hp
    · show i < n; omega
    · exact argsO_ok l (i + 1) n (by omega) p hp
theorem argsO_get : ∀ (l : List AV) (i t : Nat), ovGet t (argsO i l) = if i ≤ t then (l[t - i]?).getD .junk else .junk
  | [], i, t => by simp [argsO, ovGet_nil]
  | a :: l, i, t => by
    rw [argsO, ovGet_cons, argsO_get l (i + 1) t]
    by_cases e2 : i = t
    · subst e2; simp
    · have h1 : Nat.beq i t = false := by rw [← Bool.not_eq_true]; intro h'; exact e2 (Nat.eq_of_beq_eq_true h')
      simp only [h1, cond_false]
      by_cases h3 : i + 1 ≤ t
      · have h4 : t - i = (t - (i + 1)) + 1 := by omega
        rw [if_pos h3, if_pos (by omega), h4, List.getElem?_cons_succ]
      · rw [if_neg h3, if_neg (by omega)]
theorem den_args {l : List AV} {n : Nat} (h : l.length ≤ n) : den n (argsO 0 l) = l ++ List.replicate (n - l.length) .junk := by
  refine den_ext (argsO_ok l 0 n (by omega)) (by simp; omega) fun t ht => ?_
  rw [argsO_get, if_pos (Nat.zero_le _), Nat.sub_zero]
  by_cases hl : t < l.length
  · rw [List.getElem?_append_left hl, List.getElem?_eq_getElem hl]; rfl
  · rw [List.getElem?_append_right (by omega), List.getElem?_replicate, if_pos (by omega), List.getElem?_eq_none (by omega)]; rfl
noncomputable def yY2 (id : Nat) : YE (AV × AH) := fun e _ H =>
  match H[id]? with
  | some (.loop f' fr' ps' assign' body' _ _) =>
    match e with
    | .normal => gS (H.set id (.loop f' fr' ps' assign' body' none .ready)) fun H' => some (.bool true, H')
    | .ret => gS (H.set id (.loop f' fr' ps' assign' body' (some .ret) .done)) fun H' => some (.bool false, H')
    | .exit x => gS (H.set id (.loop f' fr' ps' assign' body' (some (.exit x)) .done)) fun H' => some (.bool false, H')
    | .goto _ => none
  | _ => none
noncomputable def yF (cfg : Cfg) (look : Nat → Option Func) (fs : List Fact) (m : Nat) : Nat → Orac
  | 0, _, _, _ => none
  | d + 1, .f f, args, H =>
    match cfg.ext f with
    | some s => s args H
    | none =>
      if cfg.known f then
        match look f with
        | some fn =>
          match fn.body with
          | some c => cond (Nat.ble args.length fn.ntmps) (fNat H.length fun bs => fNat fn.ntmps fun n => gS (argsO 0 args) fun ov => yC cfg (yF cfg look fs m d) fs m f none n bs c ov H (yEnd cfg f n fn.results.toList)) none
          | none => none
        | none => none
      else none
  | d + 1, .y id, args, H =>
    match H[id]? with
    | some (.loop f fr ps assign body _ .ready) =>
      cond (Nat.beq args.length ps.length)
        (fNat H.length fun bs => fNat (setParams fr ps args).length fun n => gS (spGo 0 (setParams fr ps args)) fun ov => yC cfg (yF cfg look fs m d) fs m f (some id) n bs assign ov H fun e ov H =>
          match e with
          | .normal =>
            (match H[id]? with
            | some (.loop f' fr' ps' assign' body' pend' .ready) => gS (H.set id (.loop f' fr' ps' assign' body' pend' .busy)) fun H' => yC cfg (yF cfg look fs m d) fs m f (some id) n bs body ov H' (yY2 id)
            | _ => none)
          | _ => none) none
    | _ => none
theorem yF_EV (cfg : Cfg) {look : Nat → Option Func} (hl : ∀ f fn, look f = some fn → cfg.P.funcs[f]? = some fn) {fs : List Fact} (hfs : FactsOk cfg fs) (m : Nat) : ∀ (d : Nat) (t : Tgt) (a : List AV) (H : AH) (r), yF cfg look fs m d t a H = some r → EV cfg t a H = some r
  | 0, _, _, _, _, h => by cases h
  | d + 1, t, a, H, r, h => by
    have ih := yF_EV cfg hl hfs m d
    refine EV_of ?_
    cases t with
    | f f =>
      simp only [yF] at h
      unfold evBody
      split at h
      · rename_i s hs
        simp only [hs]
        exact h
      · rename_i hs
        simp only [hs]
        split at h
        · rename_i hk
          rw [if_pos hk]
          split at h
          · rename_i fn hf
            simp only [hl f fn hf]
            split at h
            · rename_i c hb
              simp only [hb]
              obtain ⟨hle, h⟩ := cond_some h
              rw [Nat.ble_eq] at hle
              simp only [fNat_eq, gS_eq] at h
              obtain ⟨e, ov', H', h1, h2, h3⟩ := yC_some ih hfs c (argsO_ok a 0 fn.ntmps (by omega)) h
              rw [den_args hle] at h2
              rw [h2]
              simp only [Option.bind_some]
              unfold yEnd at h3
              have fin : ∀ (e : Ex), (e = .normal ∨ e = .ret) → (yLift fn.ntmps (cfg.lift f 0) ov' H' fun ov H => (match resO fn.results.toList cfg.ty ov H with | some vs => gA (result1 vs) fun v => some (v, H) | none => none)) = some r →
                  finish cfg fn.results.toList (e, liftFr (cfg.lift f 0) (den fn.ntmps ov') H') = some r := by
                intro e he h3
                obtain ⟨ov2, H2, h4, h5, h6⟩ := yLift_some h1 h3
                rw [h5]
                unfold finish
                rcases he with rfl | rfl <;>
                · simp only [resO_eq h4]
                  split at h6
                  · rename_i vs hv
                    rw [gA_eq] at h6
                    rw [hv]
                    exact h6
                  · cases h6
              cases e with
              | normal => exact fin _ (.inl rfl) h3
              | ret => exact fin _ (.inr rfl) h3
              | exit x => cases h3
              | goto l => cases h3
            · cases h
          · cases h
        · cases h
    | y id =>
      simp only [yF] at h
      unfold evBody
      split at h
      · rename_i f fr ps assign body p hlp
        simp only [hlp]
        obtain ⟨hlen, h⟩ := cond_some h
        rw [if_pos (Nat.eq_of_beq_eq_true hlen)]
        simp only [fNat_eq, gS_eq] at h
        obtain ⟨e, ov1, H1, h1, h2, h3⟩ := yC_some ih hfs assign (spGo_ok _ 0 _ (by omega)) h
        rw [den_sp] at h2
        rw [h2]
        simp only [Option.bind_some]
        cases e with
        | normal =>
          simp only at h3 ⊢
          split at h3
          · rename_i f' fr' ps' assign' body' pend' hl1
            simp only [hl1]
            obtain ⟨e2, ov2, H2, h4, h5, h6⟩ := yC_some ih hfs body h1 h3
            rw [h5]
            simp only [Option.bind_some]
            unfold yY2 at h6
            split at h6
            · rename_i hl2
              simp only [hl2]
              cases e2 with
              | normal => simp only [gS_eq] at h6; exact h6
              | ret => simp only [gS_eq] at h6; exact h6
              | exit x => simp only [gS_eq] at h6; exact h6
              | goto l => cases h6
            · cases h6
          · cases h3
        | exit x => cases h3
        | goto l => cases h3
        | ret => cases h3
      · cases h

theorem fact_S {cfg : Cfg} {look : Nat → Option Func} (hl : ∀ f fn, look f = some fn → cfg.P.funcs[f]? = some fn) {fs : List Fact} (hfs : FactsOk cfg fs) {f : Nat} {args : List AV} {v : AV} (m d : Nat)
    (h : (match yF cfg look fs m d (.f f) args [] with | some r => some r.1 | none => none) = some v) : EVs (EV cfg) f args = some v := by
  unfold EVs
  cases hx : yF cfg look fs m d (.f f) args [] with
  | none => rw [hx] at h; cases h
  | some r => rw [hx] at h; rw [yF_EV cfg hl hfs m d _ _ _ _ hx]; exact h
theorem fact_F {cfg : Cfg} {look : Nat → Option Func} (hl : ∀ f fn, look f = some fn → cfg.P.funcs[f]? = some fn) {fs : List Fact} (hfs : FactsOk cfg fs) {f : Nat} {args : List AV} {v : AV} (m d : Nat)
    (h : (match yF cfg look fs m d (.f f) args [] with | some r => gA (r.1.frz r.1.msIds r.2).fg some | none => none) = some v) : EVf (EV cfg) f args = some v := by
  unfold EVf
  cases hx : yF cfg look fs m d (.f f) args [] with
  | none => rw [hx] at h; cases h
  | some r => rw [hx] at h; rw [yF_EV cfg hl hfs m d _ _ _ _ hx]; simp only [gA_eq] at h; exact h
end Go.Av
end

section
namespace Go.Av
def extCmp : List AV → AH → Option (AV × AH)
  | [.str a, .str b], H => some (.int .i64 (if a == b then 0 else if Op.bytesLess a b then -1 else 1), H)
  | _, _ => none
end Go.Av
end

section
namespace Go.Proofs.YtonmmmgffeoiiaaGreat
open Go.Av
set_option maxRecDepth 100000

def tyTab : BT TI := .node 97 ({ d := .slice 5, sz := 1, bytes := 24, zero := [.nilS] }) (.node 50 ({ d := .func, sz := 1, bytes := 8, zero := [.nilF] }) (.node 26 ({ d := .func, sz := 1, bytes := 8, zero := [.nilF] }) (.node 15 ({ d := .ptr 170, sz := 1, bytes := 8, zero := [.nilP] }) (.node 6 ({ d := .int .u8, sz := 1, bytes := 1, zero := [.int .u8 0] }) (.node 3 ({ d := .int .i64, sz := 1, bytes := 8, zero := [.int .i64 0] }) (.node 2 ({ d := .int .i64, sz := 1, bytes := 8, zero := [.int .i64 0] }) (.node 1 ({ d := .func, sz := 1, bytes := 8, zero := [.nilF] }) .leaf .leaf) .leaf) (.node 5 ({ d := .int .u8, sz := 1, bytes := 1, zero := [.int .u8 0] }) (.node 4 ({ d := .bool, sz := 1, bytes := 1, zero := [.bool false] }) .leaf .leaf) .leaf)) (.node 12 ({ d := .int .u64, sz := 1, bytes := 8, zero := [.int .u64 0] }) (.node 9 ({ d := .str, sz := 1, bytes := 16, zero := [.str []] }) (.node 7 ({ d := .struct [(0, 2), (1, 3), (2, 4), (3, 6)], sz := 4, bytes := 24, zero := [.int .i64 0, .int .i64 0, .bool false, .int .u8 0] }) .leaf .leaf) .leaf) (.node 13 ({ d := .struct [(0, 9), (1, 12)], sz := 2, bytes := 24, zero := [.str [], .int .u64 0] }) .leaf .leaf))) (.node 21 ({ d := .int .i32, sz := 1, bytes := 4, zero := [.int .i32 0] }) (.node 18 ({ d := .struct [(0, 17)], sz := 1, bytes := 8, zero := [.nilP] }) (.node 17 ({ d := .ptr 183, sz := 1, bytes := 8, zero := [.nilP] }) (.node 16 ({ d := .ptr 173, sz := 1, bytes := 8, zero := [.nilP] }) .leaf .leaf) .leaf) (.node 19 ({ d := .struct [(0, 17)], sz := 1, bytes := 8, zero := [.nilP] }) .leaf .leaf)) (.node 24 ({ d := .struct [(0, 3), (1, 3), (2, 9), (3, 22)], sz := 4, bytes := 56, zero := [.int .i64 0, .int .i64 0, .str [], .nilS] }) (.node 23 ({ d := .struct [(0, 3), (1, 3), (2, 9), (3, 22)], sz := 4, bytes := 56, zero := [.int .i64 0, .int .i64 0, .str [], .nilS] }) (.node 22 ({ d := .slice 24, sz := 1, bytes := 24, zero := [.nilS] }) .leaf .leaf) .leaf) (.node 25 ({ d := .func, sz := 1, bytes := 8, zero := [.nilF] }) .leaf .leaf)))) (.node 39 ({ d := .func, sz := 1, bytes := 8, zero := [.nilF] }) (.node 33 ({ d := .func, sz := 1, bytes := 8, zero := [.nilF] }) (.node 31 ({ d := .func, sz := 1, bytes := 8, zero := [.nilF] }) (.node 29 ({ d := .func, sz := 1, bytes := 8, zero := [.nilF] }) (.node 27 ({ d := .int .i64, sz := 1, bytes := 8, zero := [.int .i64 0] }) .leaf .leaf) .leaf) (.node 32 ({ d := .func, sz := 1, bytes := 8, zero := [.nilF] }) .leaf .leaf)) (.node 36 ({ d := .slice 43, sz := 1, bytes := 24, zero := [.nilS] }) (.node 35 ({ d := .func, sz := 1, bytes := 8, zero := [.nilF] }) (.node 34 ({ d := .func, sz := 1, bytes := 8, zero := [.nilF] }) .leaf .leaf) .leaf) (.node 38 ({ d := .func, sz := 1, bytes := 8, zero := [.nilF] }) .leaf .leaf))) (.node 44 ({ d := .func, sz := 1, bytes := 8, zero := [.nilF] }) (.node 42 ({ d := .struct [(0, 24), (4, 22), (5, 22)], sz := 6, bytes := 104, zero := [.int .i64 0, .int .i64 0, .str [], .nilS, .nilS, .nilS] }) (.node 41 ({ d := .func, sz := 1, bytes := 8, zero := [.nilF] }) (.node 40 ({ d := .func, sz := 1, bytes := 8, zero := [.nilF] }) .leaf .leaf) .leaf) (.node 43 ({ d := .struct [(0, 24), (4, 22), (5, 22)], sz := 6, bytes := 104, zero := [.int .i64 0, .int .i64 0, .str [], .nilS, .nilS, .nilS] }) .leaf .leaf)) (.node 48 ({ d := .func, sz := 1, bytes := 8, zero := [.nilF] }) (.node 47 ({ d := .func, sz := 1, bytes := 8, zero := [.nilF] }) (.node 46 ({ d := .func, sz := 1, bytes := 8, zero := [.nilF] }) .leaf .leaf) .leaf) (.node 49 ({ d := .func, sz := 1, bytes := 8, zero := [.nilF] }) .leaf .leaf))))) (.node 77 ({ d := .func, sz := 1, bytes := 8, zero := [.nilF] }) (.node 64 ({ d := .func, sz := 1, bytes := 8, zero := [.nilF] }) (.node 59 ({ d := .func, sz := 1, bytes := 8, zero := [.nilF] }) (.node 55 ({ d := .func, sz := 1, bytes := 8, zero := [.nilF] }) (.node 53 ({ d := .func, sz := 1, bytes := 8, zero := [.nilF] }) (.node 52 ({ d := .func, sz := 1, bytes := 8, zero := [.nilF] }) .leaf .leaf) .leaf) (.node 58 ({ d := .func, sz := 1, bytes := 8, zero := [.nilF] }) (.node 57 ({ d := .func, sz := 1, bytes := 8, zero := [.nilF] }) .leaf .leaf) .leaf)) (.node 62 ({ d := .func, sz := 1, bytes := 8, zero := [.nilF] }) (.node 61 ({ d := .func, sz := 1, bytes := 8, zero := [.nilF] }) (.node 60 ({ d := .func, sz := 1, bytes := 8, zero := [.nilF] }) .leaf .leaf) .leaf) (.node 63 ({ d := .func, sz := 1, bytes := 8, zero := [.nilF] }) .leaf .leaf))) (.node 71 ({ d := .func, sz := 1, bytes := 8, zero := [.nilF] }) (.node 67 ({ d := .func, sz := 1, bytes := 8, zero := [.nilF] }) (.node 66 ({ d := .func, sz := 1, bytes := 8, zero := [.nilF] }) (.node 65 ({ d := .func, sz := 1, bytes := 8, zero := [.nilF] }) .leaf .leaf) .leaf) (.node 69 ({ d := .func, sz := 1, bytes := 8, zero := [.nilF] }) .leaf .leaf)) (.node 75 ({ d := .struct [(0, 24), (4, 72), (5, 3)], sz := 6, bytes := 88, zero := [.int .i64 0, .int .i64 0, .str [], .nilS, .nilS, .int .i64 0] }) (.node 74 ({ d := .func, sz := 1, bytes := 8, zero := [.nilF] }) (.node 72 ({ d := .slice 112, sz := 1, bytes := 24, zero := [.nilS] }) .leaf .leaf) .leaf) (.node 76 ({ d := .struct [(0, 24), (4, 72), (5, 3)], sz := 6, bytes := 88, zero := [.int .i64 0, .int .i64 0, .str [], .nilS, .nilS, .int .i64 0] }) .leaf .leaf)))) (.node 87 ({ d := .func, sz := 1, bytes := 8, zero := [.nilF] }) (.node 82 ({ d := .func, sz := 1, bytes := 8, zero := [.nilF] }) (.node 80 ({ d := .func, sz := 1, bytes := 8, zero := [.nilF] }) (.node 79 ({ d := .func, sz := 1, bytes := 8, zero := [.nilF] }) (.node 78 ({ d := .func, sz := 1, bytes := 8, zero := [.nilF] }) .leaf .leaf) .leaf) (.node 81 ({ d := .func, sz := 1, bytes := 8, zero := [.nilF] }) .leaf .leaf)) (.node 85 ({ d := .func, sz := 1, bytes := 8, zero := [.nilF] }) (.node 84 ({ d := .func, sz := 1, bytes := 8, zero := [.nilF] }) (.node 83 ({ d := .ptr 4, sz := 1, bytes := 8, zero := [.nilP] }) .leaf .leaf) .leaf) (.node 86 ({ d := .func, sz := 1, bytes := 8, zero := [.nilF] }) .leaf .leaf))) (.node 92 ({ d := .func, sz := 1, bytes := 8, zero := [.nilF] }) (.node 90 ({ d := .func, sz := 1, bytes := 8, zero := [.nilF] }) (.node 89 ({ d := .slice 3, sz := 1, bytes := 24, zero := [.nilS] }) (.node 88 ({ d := .func, sz := 1, bytes := 8, zero := [.nilF] }) .leaf .leaf) .leaf) (.node 91 ({ d := .func, sz := 1, bytes := 8, zero := [.nilF] }) .leaf .leaf)) (.node 95 ({ d := .func, sz := 1, bytes := 8, zero := [.nilF] }) (.node 94 ({ d := .func, sz := 1, bytes := 8, zero := [.nilF] }) (.node 93 ({ d := .func, sz := 1, bytes := 8, zero := [.nilF] }) .leaf .leaf) .leaf) (.node 96 ({ d := .func, sz := 1, bytes := 8, zero := [.nilF] }) .leaf .leaf)))))) (.node 141 ({ d := .func, sz := 1, bytes := 8, zero := [.nilF] }) (.node 120 ({ d := .struct [(0, 118), (1, 118)], sz := 2, bytes := 16, zero := [.int .u64 0, .int .u64 0] }) (.node 110 ({ d := .func, sz := 1, bytes := 8, zero := [.nilF] }) (.node 104 ({ d := .struct [(0, 76), (6, 4)], sz := 7, bytes := 96, zero := [.int .i64 0, .int .i64 0, .str [], .nilS, .nilS, .int .i64 0, .bool false] }) (.node 101 ({ d := .func, sz := 1, bytes := 8, zero := [.nilF] }) (.node 99 ({ d := .func, sz := 1, bytes := 8, zero := [.nilF] }) (.node 98 ({ d := .array 2 22, sz := 2, bytes := 48, zero := [.nilS, .nilS] }) .leaf .leaf) .leaf) (.node 103 ({ d := .struct [(0, 76), (6, 4)], sz := 7, bytes := 96, zero := [.int .i64 0, .int .i64 0, .str [], .nilS, .nilS, .int .i64 0, .bool false] }) (.node 102 ({ d := .ptr 104, sz := 1, bytes := 8, zero := [.nilP] }) .leaf .leaf) .leaf)) (.node 108 ({ d := .func, sz := 1, bytes := 8, zero := [.nilF] }) (.node 107 ({ d := .func, sz := 1, bytes := 8, zero := [.nilF] }) (.node 106 ({ d := .func, sz := 1, bytes := 8, zero := [.nilF] }) .leaf .leaf) .leaf) (.node 109 ({ d := .func, sz := 1, bytes := 8, zero := [.nilF] }) .leaf .leaf))) (.node 115 ({ d := .func, sz := 1, bytes := 8, zero := [.nilF] }) (.node 113 ({ d := .func, sz := 1, bytes := 8, zero := [.nilF] }) (.node 112 ({ d := .struct [(0, 3), (1, 24)], sz := 5, bytes := 64, zero := [.int .i64 0, .int .i64 0, .int .i64 0, .str [], .nilS] }) (.node 111 ({ d := .struct [(0, 3), (1, 24)], sz := 5, bytes := 64, zero := [.int .i64 0, .int .i64 0, .int .i64 0, .str [], .nilS] }) .leaf .leaf) .leaf) (.node 114 ({ d := .func, sz := 1, bytes := 8, zero := [.nilF] }) .leaf .leaf)) (.node 118 ({ d := .int .u64, sz := 1, bytes := 8, zero := [.int .u64 0] }) (.node 117 ({ d := .func, sz := 1, bytes := 8, zero := [.nilF] }) (.node 116 ({ d := .func, sz := 1, bytes := 8, zero := [.nilF] }) .leaf .leaf) .leaf) (.node 119 ({ d := .struct [(0, 118), (1, 118)], sz := 2, bytes := 16, zero := [.int .u64 0, .int .u64 0] }) .leaf .leaf)))) (.node 130 ({ d := .func, sz := 1, bytes := 8, zero := [.nilF] }) (.node 125 ({ d := .func, sz := 1, bytes := 8, zero := [.nilF] }) (.node 123 ({ d := .ptr 140, sz := 1, bytes := 8, zero := [.nilP] }) (.node 122 ({ d := .func, sz := 1, bytes := 8, zero := [.nilF] }) (.node 121 ({ d := .func, sz := 1, bytes := 8, zero := [.nilF] }) .leaf .leaf) .leaf) (.node 124 ({ d := .func, sz := 1, bytes := 8, zero := [.nilF] }) .leaf .leaf)) (.node 128 ({ d := .func, sz := 1, bytes := 8, zero := [.nilF] }) (.node 127 ({ d := .func, sz := 1, bytes := 8, zero := [.nilF] }) (.node 126 ({ d := .func, sz := 1, bytes := 8, zero := [.nilF] }) .leaf .leaf) .leaf) (.node 129 ({ d := .func, sz := 1, bytes := 8, zero := [.nilF] }) .leaf .leaf))) (.node 136 ({ d := .ptr 120, sz := 1, bytes := 8, zero := [.nilP] }) (.node 134 ({ d := .func, sz := 1, bytes := 8, zero := [.nilF] }) (.node 133 ({ d := .func, sz := 1, bytes := 8, zero := [.nilF] }) (.node 131 ({ d := .func, sz := 1, bytes := 8, zero := [.nilF] }) .leaf .leaf) .leaf) (.node 135 ({ d := .func, sz := 1, bytes := 8, zero := [.nilF] }) .leaf .leaf)) (.node 139 ({ d := .struct [(0, 120), (2, 138)], sz := 402, bytes := 5616, zero := [.int .u64 0, .int .u64 0, .int .i64 0, .int .i64 0, .str [], .nilS, .int .i64 0, .int .i64 0, .str [], .nilS, .int .i64 0, .int .i64 0, .str [], .nilS, .int .i64 0, .int .i64 0, .str [], .nilS, .int .i64 0, .int .i64 0, .str [], .nilS, .int .i64 0, .int .i64 0, .str [], .nilS, .int .i64 0, .int .i64 0, .str [], .nilS, .int .i64 0, .int .i64 0, .str [], .nilS, .int .i64 0, .int .i64 0, .str [], .nilS, .int .i64 0, .int .i64 0, .str [], .nilS, .int .i64 0, .int .i64 0, .str [], .nilS, .int .i64 0, .int .i64 0, .str [], .nilS, .int .i64 0, .int .i64 0, .str [], .nilS, .int .i64 0, .int .i64 0, .str [], .nilS, .int .i64 0, .int .i64 0, .str [], .nilS, .int .i64 0, .int .i64 0, .str [], .nilS, .int .i64 0, .int .i64 0, .str [], .nilS, .int .i64 0, .int .i64 0, .str [], .nilS, .int .i64 0, .int .i64 0, .str [], .nilS, .int .i64 0, .int .i64 0, .str [], .nilS, .int .i64 0, .int .i64 0, .str [], .nilS, .int .i64 0, .int .i64 0, .str [], .nilS, .int .i64 0, .int .i64 0, .str [], .nilS, .int .i64 0, .int .i64 0, .str [], .nilS, .int .i64 0, .int .i64 0, .str [], .nilS, .int .i64 0, .int .i64 0, .str [], .nilS, .int .i64 0, .int .i64 0, .str [], .nilS, .int .i64 0, .int .i64 0, .str [], .nilS, .int .i64 0, .int .i64 0, .str [], .nilS, .int .i64 0, .int .i64 0, .str [], .nilS, .int .i64 0, .int .i64 0, .str [], .nilS, .int .i64 0, .int .i64 0, .str [], .nilS, .int .i64 0, .int .i64 0, .str [], .nilS, .int .i64 0, .int .i64 0, .str [], .nilS, .int .i64 0, .int .i64 0, .str [], .nilS, .int .i64 0, .int .i64 0, .str [], .nilS, .int .i64 0, .int .i64 0, .str [], .nilS, .int .i64 0, .int .i64 0, .str [], .nilS, .int .i64 0, .int .i64 0, .str [], .nilS, .int .i64 0, .int .i64 0, .str [], .nilS, .int .i64 0, .int .i64 0, .str [], .nilS, .int .i64 0, .int .i64 0, .str [], .nilS, .int .i64 0, .int .i64 0, .str [], .nilS, .int .i64 0, .int .i64 0, .str [], .nilS, .int .i64 0, .int .i64 0, .str [], .nilS, .int .i64 0, .int .i64 0, .str [], .nilS, .int .i64 0, .int .i64 0, .str [], .nilS, .int .i64 0, .int .i64 0, .str [], .nilS, .int .i64 0, .int .i64 0, .str [], .nilS, .int .i64 0, .int .i64 0, .str [], .nilS, .int .i64 0, .int .i64 0, .str [], .nilS, .int .i64 0, .int .i64 0, .str [], .nilS, .int .i64 0, .int .i64 0, .str [], .nilS, .int .i64 0, .int .i64 0, .str [], .nilS, .int .i64 0, .int .i64 0, .str [], .nilS, .int .i64 0, .int .i64 0, .str [], .nilS, .int .i64 0, .int .i64 0, .str [], .nilS, .int .i64 0, .int .i64 0, .str [], .nilS, .int .i64 0, .int .i64 0, .str [], .nilS, .int .i64 0, .int .i64 0, .str [], .nilS, .int .i64 0, .int .i64 0, .str [], .nilS, .int .i64 0, .int .i64 0, .str [], .nilS, .int .i64 0, .int .i64 0, .str [], .nilS, .int .i64 0, .int .i64 0, .str [], .nilS, .int .i64 0, .int .i64 0, .str [], .nilS, .int .i64 0, .int .i64 0, .str [], .nilS, .int .i64 0, .int .i64 0, .str [], .nilS, .int .i64 0, .int .i64 0, .str [], .nilS, .int .i64 0, .int .i64 0, .str [], .nilS, .int .i64 0, .int .i64 0, .str [], .nilS, .int .i64 0, .int .i64 0, .str [], .nilS, .int .i64 0, .int .i64 0, .str [], .nilS, .int .i64 0, .int .i64 0, .str [], .nilS, .int .i64 0, .int .i64 0, .str [], .nilS, .int .i64 0, .int .i64 0, .str [], .nilS, .int .i64 0, .int .i64 0, .str [], .nilS, .int .i64 0, .int .i64 0, .str [], .nilS, .int .i64 0, .int .i64 0, .str [], .nilS, .int .i64 0, .int .i64 0, .str [], .nilS, .int .i64 0, .int .i64 0, .str [], .nilS, .int .i64 0, .int .i64 0, .str [], .nilS, .int .i64 0, .int .i64 0, .str [], .nilS, .int .i64 0, .int .i64 0, .str [], .nilS, .int .i64 0, .int .i64 0, .str [], .nilS, .int .i64 0, .int .i64 0, .str [], .nilS, .int .i64 0, .int .i64 0, .str [], .nilS, .int .i64 0, .int .i64 0, .str [], .nilS, .int .i64 0, .int .i64 0, .str [], .nilS, .int .i64 0, .int .i64 0, .str [], .nilS, .int .i64 0, .int .i64 0, .str [], .nilS, .int .i64 0, .int .i64 0, .str [], .nilS, .int .i64 0, .int .i64 0, .str [], .nilS, .int .i64 0, .int .i64 0, .str [], .nilS, .int .i64 0, .int .i64 0, .str [], .nilS, .int .i64 0, .int .i64 0, .str [], .nilS, .int .i64 0, .int .i64 0, .str [], .nilS, .int .i64 0, .int .i64 0, .str [], .nilS, .int .i64 0, .int .i64 0, .str [], .nilS, .int .i64 0, .int .i64 0, .str [], .nilS, .int .i64 0, .int .i64 0, .str [], .nilS] }) (.node 138 ({ d := .array 100 24, sz := 400, bytes := 5600, zero := [.int .i64 0, .int .i64 0, .str [], .nilS, .int .i64 0, .int .i64 0, .str [], .nilS, .int .i64 0, .int .i64 0, .str [], .nilS, .int .i64 0, .int .i64 0, .str [], .nilS, .int .i64 0, .int .i64 0, .str [], .nilS, .int .i64 0, .int .i64 0, .str [], .nilS, .int .i64 0, .int .i64 0, .str [], .nilS, .int .i64 0, .int .i64 0, .str [], .nilS, .int .i64 0, .int .i64 0, .str [], .nilS, .int .i64 0, .int .i64 0, .str [], .nilS, .int .i64 0, .int .i64 0, .str [], .nilS, .int .i64 0, .int .i64 0, .str [], .nilS, .int .i64 0, .int .i64 0, .str [], .nilS, .int .i64 0, .int .i64 0, .str [], .nilS, .int .i64 0, .int .i64 0, .str [], .nilS, .int .i64 0, .int .i64 0, .str [], .nilS, .int .i64 0, .int .i64 0, .str [], .nilS, .int .i64 0, .int .i64 0, .str [], .nilS, .int .i64 0, .int .i64 0, .str [], .nilS, .int .i64 0, .int .i64 0, .str [], .nilS, .int .i64 0, .int .i64 0, .str [], .nilS, .int .i64 0, .int .i64 0, .str [], .nilS, .int .i64 0, .int .i64 0, .str [], .nilS, .int .i64 0, .int .i64 0, .str [], .nilS, .int .i64 0, .int .i64 0, .str [], .nilS, .int .i64 0, .int .i64 0, .str [], .nilS, .int .i64 0, .int .i64 0, .str [], .nilS, .int .i64 0, .int .i64 0, .str [], .nilS, .int .i64 0, .int .i64 0, .str [], .nilS, .int .i64 0, .int .i64 0, .str [], .nilS, .int .i64 0, .int .i64 0, .str [], .nilS, .int .i64 0, .int .i64 0, .str [], .nilS, .int .i64 0, .int .i64 0, .str [], .nilS, .int .i64 0, .int .i64 0, .str [], .nilS, .int .i64 0, .int .i64 0, .str [], .nilS, .int .i64 0, .int .i64 0, .str [], .nilS, .int .i64 0, .int .i64 0, .str [], .nilS, .int .i64 0, .int .i64 0, .str [], .nilS, .int .i64 0, .int .i64 0, .str [], .nilS, .int .i64 0, .int .i64 0, .str [], .nilS, .int .i64 0, .int .i64 0, .str [], .nilS, .int .i64 0, .int .i64 0, .str [], .nilS, .int .i64 0, .int .i64 0, .str [], .nilS, .int .i64 0, .int .i64 0, .str [], .nilS, .int .i64 0, .int .i64 0, .str [], .nilS, .int .i64 0, .int .i64 0, .str [], .nilS, .int .i64 0, .int .i64 0, .str [], .nilS, .int .i64 0, .int .i64 0, .str [], .nilS, .int .i64 0, .int .i64 0, .str [], .nilS, .int .i64 0, .int .i64 0, .str [], .nilS, .int .i64 0, .int .i64 0, .str [], .nilS, .int .i64 0, .int .i64 0, .str [], .nilS, .int .i64 0, .int .i64 0, .str [], .nilS, .int .i64 0, .int .i64 0, .str [], .nilS, .int .i64 0, .int .i64 0, .str [], .nilS, .int .i64 0, .int .i64 0, .str [], .nilS, .int .i64 0, .int .i64 0, .str [], .nilS, .int .i64 0, .int .i64 0, .str [], .nilS, .int .i64 0, .int .i64 0, .str [], .nilS, .int .i64 0, .int .i64 0, .str [], .nilS, .int .i64 0, .int .i64 0, .str [], .nilS, .int .i64 0, .int .i64 0, .str [], .nilS, .int .i64 0, .int .i64 0, .str [], .nilS, .int .i64 0, .int .i64 0, .str [], .nilS, .int .i64 0, .int .i64 0, .str [], .nilS, .int .i64 0, .int .i64 0, .str [], .nilS, .int .i64 0, .int .i64 0, .str [], .nilS, .int .i64 0, .int .i64 0, .str [], .nilS, .int .i64 0, .int .i64 0, .str [], .nilS, .int .i64 0, .int .i64 0, .str [], .nilS, .int .i64 0, .int .i64 0, .str [], .nilS, .int .i64 0, .int .i64 0, .str [], .nilS, .int .i64 0, .int .i64 0, .str [], .nilS, .int .i64 0, .int .i64 0, .str [], .nilS, .int .i64 0, .int .i64 0, .str [], .nilS, .int .i64 0, .int .i64 0, .str [], .nilS, .int .i64 0, .int .i64 0, .str [], .nilS, .int .i64 0, .int .i64 0, .str [], .nilS, .int .i64 0, .int .i64 0, .str [], .nilS, .int .i64 0, .int .i64 0, .str [], .nilS, .int .i64 0, .int .i64 0, .str [], .nilS, .int .i64 0, .int .i64 0, .str [], .nilS, .int .i64 0, .int .i64 0, .str [], .nilS, .int .i64 0, .int .i64 0, .str [], .nilS, .int .i64 0, .int .i64 0, .str [], .nilS, .int .i64 0, .int .i64 0, .str [], .nilS, .int .i64 0, .int .i64 0, .str [], .nilS, .int .i64 0, .int .i64 0, .str [], .nilS, .int .i64 0, .int .i64 0, .str [], .nilS, .int .i64 0, .int .i64 0, .str [], .nilS, .int .i64 0, .int .i64 0, .str [], .nilS, .int .i64 0, .int .i64 0, .str [], .nilS, .int .i64 0, .int .i64 0, .str [], .nilS, .int .i64 0, .int .i64 0, .str [], .nilS, .int .i64 0, .int .i64 0, .str [], .nilS, .int .i64 0, .int .i64 0, .str [], .nilS, .int .i64 0, .int .i64 0, .str [], .nilS, .int .i64 0, .int .i64 0, .str [], .nilS, .int .i64 0, .int .i64 0, .str [], .nilS, .int .i64 0, .int .i64 0, .str [], .nilS] }) (.node 137 ({ d := .func, sz := 1, bytes := 8, zero := [.nilF] }) .leaf .leaf) .leaf) (.node 140 ({ d := .struct [(0, 120), (2, 138)], sz := 402, bytes := 5616, zero := [.int .u64 0, .int .u64 0, .int .i64 0, .int .i64 0, .str [], .nilS, .int .i64 0, .int .i64 0, .str [], .nilS, .int .i64 0, .int .i64 0, .str [], .nilS, .int .i64 0, .int .i64 0, .str [], .nilS, .int .i64 0, .int .i64 0, .str [], .nilS, .int .i64 0, .int .i64 0, .str [], .nilS, .int .i64 0, .int .i64 0, .str [], .nilS, .int .i64 0, .int .i64 0, .str [], .nilS, .int .i64 0, .int .i64 0, .str [], .nilS, .int .i64 0, .int .i64 0, .str [], .nilS, .int .i64 0, .int .i64 0, .str [], .nilS, .int .i64 0, .int .i64 0, .str [], .nilS, .int .i64 0, .int .i64 0, .str [], .nilS, .int .i64 0, .int .i64 0, .str [], .nilS, .int .i64 0, .int .i64 0, .str [], .nilS, .int .i64 0, .int .i64 0, .str [], .nilS, .int .i64 0, .int .i64 0, .str [], .nilS, .int .i64 0, .int .i64 0, .str [], .nilS, .int .i64 0, .int .i64 0, .str [], .nilS, .int .i64 0, .int .i64 0, .str [], .nilS, .int .i64 0, .int .i64 0, .str [], .nilS, .int .i64 0, .int .i64 0, .str [], .nilS, .int .i64 0, .int .i64 0, .str [], .nilS, .int .i64 0, .int .i64 0, .str [], .nilS, .int .i64 0, .int .i64 0, .str [], .nilS, .int .i64 0, .int .i64 0, .str [], .nilS, .int .i64 0, .int .i64 0, .str [], .nilS, .int .i64 0, .int .i64 0, .str [], .nilS, .int .i64 0, .int .i64 0, .str [], .nilS, .int .i64 0, .int .i64 0, .str [], .nilS, .int .i64 0, .int .i64 0, .str [], .nilS, .int .i64 0, .int .i64 0, .str [], .nilS, .int .i64 0, .int .i64 0, .str [], .nilS, .int .i64 0, .int .i64 0, .str [], .nilS, .int .i64 0, .int .i64 0, .str [], .nilS, .int .i64 0, .int .i64 0, .str [], .nilS, .int .i64 0, .int .i64 0, .str [], .nilS, .int .i64 0, .int .i64 0, .str [], .nilS, .int .i64 0, .int .i64 0, .str [], .nilS, .int .i64 0, .int .i64 0, .str [], .nilS, .int .i64 0, .int .i64 0, .str [], .nilS, .int .i64 0, .int .i64 0, .str [], .nilS, .int .i64 0, .int .i64 0, .str [], .nilS, .int .i64 0, .int .i64 0, .str [], .nilS, .int .i64 0, .int .i64 0, .str [], .nilS, .int .i64 0, .int .i64 0, .str [], .nilS, .int .i64 0, .int .i64 0, .str [], .nilS, .int .i64 0, .int .i64 0, .str [], .nilS, .int .i64 0, .int .i64 0, .str [], .nilS, .int .i64 0, .int .i64 0, .str [], .nilS, .int .i64 0, .int .i64 0, .str [], .nilS, .int .i64 0, .int .i64 0, .str [], .nilS, .int .i64 0, .int .i64 0, .str [], .nilS, .int .i64 0, .int .i64 0, .str [], .nilS, .int .i64 0, .int .i64 0, .str [], .nilS, .int .i64 0, .int .i64 0, .str [], .nilS, .int .i64 0, .int .i64 0, .str [], .nilS, .int .i64 0, .int .i64 0, .str [], .nilS, .int .i64 0, .int .i64 0, .str [], .nilS, .int .i64 0, .int .i64 0, .str [], .nilS, .int .i64 0, .int .i64 0, .str [], .nilS, .int .i64 0, .int .i64 0, .str [], .nilS, .int .i64 0, .int .i64 0, .str [], .nilS, .int .i64 0, .int .i64 0, .str [], .nilS, .int .i64 0, .int .i64 0, .str [], .nilS, .int .i64 0, .int .i64 0, .str [], .nilS, .int .i64 0, .int .i64 0, .str [], .nilS, .int .i64 0, .int .i64 0, .str [], .nilS, .int .i64 0, .int .i64 0, .str [], .nilS, .int .i64 0, .int .i64 0, .str [], .nilS, .int .i64 0, .int .i64 0, .str [], .nilS, .int .i64 0, .int .i64 0, .str [], .nilS, .int .i64 0, .int .i64 0, .str [], .nilS, .int .i64 0, .int .i64 0, .str [], .nilS, .int .i64 0, .int .i64 0, .str [], .nilS, .int .i64 0, .int .i64 0, .str [], .nilS, .int .i64 0, .int .i64 0, .str [], .nilS, .int .i64 0, .int .i64 0, .str [], .nilS, .int .i64 0, .int .i64 0, .str [], .nilS, .int .i64 0, .int .i64 0, .str [], .nilS, .int .i64 0, .int .i64 0, .str [], .nilS, .int .i64 0, .int .i64 0, .str [], .nilS, .int .i64 0, .int .i64 0, .str [], .nilS, .int .i64 0, .int .i64 0, .str [], .nilS, .int .i64 0, .int .i64 0, .str [], .nilS, .int .i64 0, .int .i64 0, .str [], .nilS, .int .i64 0, .int .i64 0, .str [], .nilS, .int .i64 0, .int .i64 0, .str [], .nilS, .int .i64 0, .int .i64 0, .str [], .nilS, .int .i64 0, .int .i64 0, .str [], .nilS, .int .i64 0, .int .i64 0, .str [], .nilS, .int .i64 0, .int .i64 0, .str [], .nilS, .int .i64 0, .int .i64 0, .str [], .nilS, .int .i64 0, .int .i64 0, .str [], .nilS, .int .i64 0, .int .i64 0, .str [], .nilS, .int .i64 0, .int .i64 0, .str [], .nilS, .int .i64 0, .int .i64 0, .str [], .nilS, .int .i64 0, .int .i64 0, .str [], .nilS, .int .i64 0, .int .i64 0, .str [], .nilS, .int .i64 0, .int .i64 0, .str [], .nilS] }) .leaf .leaf))))) (.node 161 ({ d := .ptr 24, sz := 1, bytes := 8, zero := [.nilP] }) (.node 151 ({ d := .struct [(0, 24), (4, 24)], sz := 8, bytes := 112, zero := [.int .i64 0, .int .i64 0, .str [], .nilS, .int .i64 0, .int .i64 0, .str [], .nilS] }) (.node 146 ({ d := .func, sz := 1, bytes := 8, zero := [.nilF] }) (.node 144 ({ d := .func, sz := 1, bytes := 8, zero := [.nilF] }) (.node 143 ({ d := .func, sz := 1, bytes := 8, zero := [.nilF] }) (.node 142 ({ d := .func, sz := 1, bytes := 8, zero := [.nilF] }) .leaf .leaf) .leaf) (.node 145 ({ d := .func, sz := 1, bytes := 8, zero := [.nilF] }) .leaf .leaf)) (.node 149 ({ d := .func, sz := 1, bytes := 8, zero := [.nilF] }) (.node 148 ({ d := .func, sz := 1, bytes := 8, zero := [.nilF] }) (.node 147 ({ d := .func, sz := 1, bytes := 8, zero := [.nilF] }) .leaf .leaf) .leaf) (.node 150 ({ d := .func, sz := 1, bytes := 8, zero := [.nilF] }) .leaf .leaf))) (.node 156 ({ d := .func, sz := 1, bytes := 8, zero := [.nilF] }) (.node 154 ({ d := .func, sz := 1, bytes := 8, zero := [.nilF] }) (.node 153 ({ d := .slice 152, sz := 1, bytes := 24, zero := [.nilS] }) (.node 152 ({ d := .struct [(0, 24), (4, 24)], sz := 8, bytes := 112, zero := [.int .i64 0, .int .i64 0, .str [], .nilS, .int .i64 0, .int .i64 0, .str [], .nilS] }) .leaf .leaf) .leaf) (.node 155 ({ d := .func, sz := 1, bytes := 8, zero := [.nilF] }) .leaf .leaf)) (.node 159 ({ d := .func, sz := 1, bytes := 8, zero := [.nilF] }) (.node 158 ({ d := .func, sz := 1, bytes := 8, zero := [.nilF] }) (.node 157 ({ d := .func, sz := 1, bytes := 8, zero := [.nilF] }) .leaf .leaf) .leaf) (.node 160 ({ d := .func, sz := 1, bytes := 8, zero := [.nilF] }) .leaf .leaf)))) (.node 174 ({ d := .func, sz := 1, bytes := 8, zero := [.nilF] }) (.node 167 ({ d := .int .u64, sz := 1, bytes := 8, zero := [.int .u64 0] }) (.node 164 ({ d := .func, sz := 1, bytes := 8, zero := [.nilF] }) (.node 163 ({ d := .func, sz := 1, bytes := 8, zero := [.nilF] }) (.node 162 ({ d := .func, sz := 1, bytes := 8, zero := [.nilF] }) .leaf .leaf) .leaf) (.node 166 ({ d := .func, sz := 1, bytes := 8, zero := [.nilF] }) .leaf .leaf)) (.node 171 ({ d := .array 0 16, sz := 0, bytes := 0, zero := [] }) (.node 169 ({ d := .struct [(0, 17), (1, 17), (2, 17), (3, 9)], sz := 4, bytes := 40, zero := [.nilP, .nilP, .nilP, .str []] }) (.node 168 ({ d := .func, sz := 1, bytes := 8, zero := [.nilF] }) .leaf .leaf) .leaf) (.node 172 ({ d := .struct [(0, 171)], sz := 0, bytes := 0, zero := [] }) .leaf .leaf))) (.node 179 ({ d := .ptr 5, sz := 1, bytes := 8, zero := [.nilP] }) (.node 177 ({ d := .int .u8, sz := 1, bytes := 1, zero := [.int .u8 0] }) (.node 176 ({ d := .int .u8, sz := 1, bytes := 1, zero := [.int .u8 0] }) (.node 175 ({ d := .int .u32, sz := 1, bytes := 4, zero := [.int .u32 0] }) .leaf .leaf) .leaf) (.node 178 ({ d := .func, sz := 1, bytes := 8, zero := [.nilF] }) .leaf .leaf)) (.node 182 ({ d := .struct [(0, 12), (1, 12), (2, 175), (3, 176), (4, 5), (5, 5), (6, 177), (7, 178), (8, 179), (9, 180), (10, 181)], sz := 11, bytes := 48, zero := [.int .u64 0, .int .u64 0, .int .u32 0, .int .u8 0, .int .u8 0, .int .u8 0, .int .u8 0, .nilF, .nilP, .int .i32 0, .int .i32 0] }) (.node 181 ({ d := .int .i32, sz := 1, bytes := 4, zero := [.int .i32 0] }) (.node 180 ({ d := .int .i32, sz := 1, bytes := 4, zero := [.int .i32 0] }) .leaf .leaf) .leaf) (.node 183 ({ d := .struct [(0, 12), (1, 12), (2, 175), (3, 176), (4, 5), (5, 5), (6, 177), (7, 178), (8, 179), (9, 180), (10, 181)], sz := 11, bytes := 48, zero := [.int .u64 0, .int .u64 0, .int .u32 0, .int .u8 0, .int .u8 0, .int .u8 0, .int .u8 0, .nilF, .nilP, .int .i32 0, .int .i32 0] }) .leaf .leaf))))))
def modeTab : BT CMode := .node 92 (.inpf) (.node 45 (.scal) (.node 24 (.pfrz) (.node 14 (.scal) (.node 8 (.pfrz) (.node 5 (.scal) (.node 4 (.scal) (.node 3 (.scal) .leaf .leaf) .leaf) (.node 7 (.pfrz) (.node 6 (.scal) .leaf .leaf) .leaf)) (.node 11 (.scal) (.node 10 (.scal) (.node 9 (.pfrz) .leaf .leaf) .leaf) (.node 12 (.scal) .leaf .leaf))) (.node 19 (.scal) (.node 17 (.scal) (.node 16 (.pfrz) (.node 15 (.pfrz) .leaf .leaf) .leaf) (.node 18 (.scal) .leaf .leaf)) (.node 22 (.scal) (.node 21 (.scal) (.node 20 (.scal) .leaf .leaf) .leaf) (.node 23 (.pfrz) .leaf .leaf)))) (.node 35 (.pfrz) (.node 30 (.scal) (.node 27 (.scal) (.node 26 (.pfrz) (.node 25 (.pfrz) .leaf .leaf) .leaf) (.node 29 (.pfrz) (.node 28 (.pown) .leaf .leaf) .leaf)) (.node 33 (.pfrz) (.node 32 (.pfrz) (.node 31 (.pown) .leaf .leaf) .leaf) (.node 34 (.scal) .leaf .leaf))) (.node 40 (.pfrz) (.node 38 (.pfrz) (.node 37 (.pfrz) (.node 36 (.pfrz) .leaf .leaf) .leaf) (.node 39 (.scal) .leaf .leaf)) (.node 43 (.pfrz) (.node 42 (.pfrz) (.node 41 (.pown) .leaf .leaf) .leaf) (.node 44 (.pfrz) .leaf .leaf))))) (.node 68 (.scal) (.node 56 (.pfrz) (.node 51 (.scal) (.node 48 (.pfrz) (.node 47 (.pfrz) (.node 46 (.scal) .leaf .leaf) .leaf) (.node 50 (.pfrz) (.node 49 (.pfrz) .leaf .leaf) .leaf)) (.node 54 (.pfrz) (.node 53 (.scal) (.node 52 (.pfrz) .leaf .leaf) .leaf) (.node 55 (.pfrz) .leaf .leaf))) (.node 62 (.pfrz) (.node 59 (.pfrz) (.node 58 (.pfrz) (.node 57 (.scal) .leaf .leaf) .leaf) (.node 60 (.pfrz) .leaf .leaf)) (.node 65 (.scal) (.node 64 (.scal) (.node 63 (.slf) .leaf .leaf) .leaf) (.node 67 (.scal) .leaf .leaf)))) (.node 79 (.scal) (.node 74 (.scal) (.node 72 (.scal) (.node 71 (.pfrz) (.node 69 (.pown) .leaf .leaf) .leaf) (.node 73 (.pfrz) .leaf .leaf)) (.node 77 (.pfrz) (.node 76 (.scal) (.node 75 (.pfrz) .leaf .leaf) .leaf) (.node 78 (.scal) .leaf .leaf))) (.node 85 (.pfrz) (.node 83 (.scal) (.node 81 (.pfrz) (.node 80 (.pfrz) .leaf .leaf) .leaf) (.node 84 (.pfrz) .leaf .leaf)) (.node 90 (.pfrz) (.node 87 (.scal) (.node 86 (.scal) .leaf .leaf) .leaf) (.node 91 (.pfrz) .leaf .leaf)))))) (.node 137 (.scal) (.node 114 (.scal) (.node 103 (.pfrz) (.node 98 (.pfrz) (.node 95 (.pfrz) (.node 94 (.scal) (.node 93 (.scal) .leaf .leaf) .leaf) (.node 97 (.pfrz) (.node 96 (.scal) .leaf .leaf) .leaf)) (.node 101 (.pfrz) (.node 100 (.pfrz) (.node 99 (.scal) .leaf .leaf) .leaf) (.node 102 (.pfrz) .leaf .leaf))) (.node 108 (.scal) (.node 106 (.scal) (.node 105 (.pfrz) (.node 104 (.pfrz) .leaf .leaf) .leaf) (.node 107 (.scal) .leaf .leaf)) (.node 112 (.scal) (.node 111 (.inpl) (.node 110 (.scal) .leaf .leaf) .leaf) (.node 113 (.scal) .leaf .leaf)))) (.node 126 (.pfrz) (.node 121 (.inpf) (.node 118 (.scal) (.node 117 (.inpf) (.node 116 (.inpl) .leaf .leaf) .leaf) (.node 120 (.inpf) (.node 119 (.pfrz) .leaf .leaf) .leaf)) (.node 124 (.inpf) (.node 123 (.inpl) (.node 122 (.inpf) .leaf .leaf) .leaf) (.node 125 (.pfrz) .leaf .leaf))) (.node 131 (.scal) (.node 129 (.pfrz) (.node 128 (.scal) (.node 127 (.pfrz) .leaf .leaf) .leaf) (.node 130 (.scal) .leaf .leaf)) (.node 134 (.pfrz) (.node 133 (.scal) (.node 132 (.scal) .leaf .leaf) .leaf) (.node 135 (.pfrz) .leaf .leaf))))) (.node 158 (.inpl) (.node 148 (.scal) (.node 143 (.inpf) (.node 140 (.scal) (.node 139 (.pfrz) (.node 138 (.scal) .leaf .leaf) .leaf) (.node 142 (.inpf) (.node 141 (.inpf) .leaf .leaf) .leaf)) (.node 146 (.scal) (.node 145 (.pfrz) (.node 144 (.pfrz) .leaf .leaf) .leaf) (.node 147 (.pfrz) .leaf .leaf))) (.node 153 (.scal) (.node 151 (.scal) (.node 150 (.scal) (.node 149 (.scal) .leaf .leaf) .leaf) (.node 152 (.pfrz) .leaf .leaf)) (.node 156 (.pfrz) (.node 155 (.scal) (.node 154 (.scal) .leaf .leaf) .leaf) (.node 157 (.inpf) .leaf .leaf)))) (.node 169 (.scal) (.node 163 (.scal) (.node 161 (.inpf) (.node 160 (.scal) (.node 159 (.inpf) .leaf .leaf) .leaf) (.node 162 (.scal) .leaf .leaf)) (.node 166 (.scal) (.node 165 (.pfrz) (.node 164 (.scal) .leaf .leaf) .leaf) (.node 167 (.pfrz) .leaf .leaf))) (.node 175 (.scal) (.node 172 (.scal) (.node 171 (.scal) (.node 170 (.scal) .leaf .leaf) .leaf) (.node 173 (.inpf) .leaf .leaf)) (.node 178 (.scal) (.node 177 (.scal) (.node 176 (.scal) .leaf .leaf) .leaf) (.node 179 (.scal) .leaf .leaf))))))
def frzTab : BT (BT (List Nat)) := .node 40 (.node 5 ([6]) .leaf .leaf) (.node 25 (.node 1 ([3, 5]) .leaf .leaf) (.node 23 (.node 8 ([2]) (.node 6 ([12]) .leaf .leaf) .leaf) (.node 14 (.node 3 ([8]) (.node 2 ([4]) .leaf .leaf) .leaf) .leaf .leaf) (.node 24 (.node 6 ([1]) (.node 5 ([19]) .leaf .leaf) .leaf) .leaf .leaf)) (.node 36 (.node 1 ([3, 8, 12]) .leaf .leaf) (.node 26 (.node 1 ([3, 5]) .leaf .leaf) .leaf .leaf) .leaf)) (.node 81 (.node 12 ([1]) .leaf .leaf) (.node 49 (.node 5 ([6]) .leaf .leaf) (.node 48 (.node 3 ([3]) .leaf .leaf) .leaf .leaf) (.node 59 (.node 1 ([6, 8]) .leaf .leaf) .leaf .leaf)) (.node 121 (.node 7 ([2]) .leaf .leaf) (.node 102 (.node 5 ([6]) .leaf .leaf) .leaf .leaf) .leaf))
noncomputable def look2 {α : Type} (a b : Nat) (t : BT (BT α)) : Option α := match t.look a with | some u => u.look b | none => none
noncomputable def frzLook (f r k : Nat) : Bool := match look2 f r frzTab with | some l => hasId k l | none => false

def maskTab : BT (BT (List Tmp × List Tmp)) := .node 82 (.node 0 ([0, 1, 2], [1, 2]) .leaf .leaf) (.node 41 (.node 7 ([2, 3, 4], [2, 3, 4, 5]) .leaf .leaf) (.node 23 (.node 4 ([2, 4, 5, 11, 12, 13], [2, 4, 5]) .leaf .leaf) (.node 13 (.node 2 ([1, 2], []) .leaf .leaf) (.node 9 (.node 6 ([2, 4, 6, 10, 12], [6, 7, 8]) .leaf .leaf) (.node 6 (.node 2 ([0, 3], [2]) .leaf .leaf) (.node 4 (.node 9 ([1, 3, 4, 8], [1, 3]) .leaf .leaf) .leaf .leaf) .leaf) (.node 11 (.node 6 ([2, 4, 9, 11], [6, 7]) .leaf .leaf) .leaf .leaf)) (.node 17 (.node 4 ([0, 1, 5], [4]) .leaf .leaf) (.node 16 (.node 6 ([5, 7], [5]) .leaf .leaf) (.node 15 (.node 5 ([4, 16, 17, 18], [4]) .leaf .leaf) .leaf .leaf) .leaf) (.node 22 (.node 9 ([0, 3, 5, 6], [0, 2, 3]) (.node 2 ([0, 3], [0, 2]) .leaf .leaf) .leaf) .leaf .leaf))) (.node 32 (.node 7 ([3, 6, 10, 11, 12], [6, 7, 11]) .leaf .leaf) (.node 29 (.node 7 ([2, 4, 7, 43, 44, 45], [6, 7, 8]) .leaf .leaf) (.node 28 (.node 3 ([0, 3, 4], [3]) .leaf .leaf) (.node 24 (.node 3 ([0, 2, 4, 5], [2, 4]) .leaf .leaf) .leaf .leaf) .leaf) (.node 31 (.node 6 ([4, 6, 7], [2, 3, 6]) .leaf .leaf) .leaf .leaf)) (.node 34 (.node 4 ([0, 1, 5], [4]) .leaf .leaf) (.node 33 (.node 3 ([1, 2, 3, 4], [1, 2, 3]) .leaf .leaf) .leaf .leaf) (.node 40 (.node 3 ([0, 2, 3, 4], [2, 3]) .leaf .leaf) .leaf .leaf)))) (.node 57 (.node 2 ([0, 3, 5], [3, 4]) .leaf .leaf) (.node 49 (.node 3 ([0, 2, 3, 4], [2, 3]) .leaf .leaf) (.node 46 (.node 4 ([2, 3], [2, 3]) .leaf .leaf) (.node 44 (.node 3 ([0, 3, 4], [3]) .leaf .leaf) (.node 43 (.node 3 ([3, 6, 7, 8], [3]) .leaf .leaf) .leaf .leaf) .leaf) (.node 48 (.node 3 ([3], [3, 4]) .leaf .leaf) .leaf .leaf)) (.node 52 (.node 7 ([6, 10, 11, 38, 39, 40], [6, 7, 11]) .leaf .leaf) (.node 51 (.node 5 ([1, 2, 5, 6], [5]) .leaf .leaf) .leaf .leaf) (.node 54 (.node 2 ([1, 4], [1, 4]) .leaf .leaf) .leaf .leaf))) (.node 72 (.node 3 ([3, 6, 16, 17, 18], [4, 6]) .leaf .leaf) (.node 64 (.node 4 ([1, 3], [2]) .leaf .leaf) (.node 63 (.node 6 ([1, 2, 3, 4, 18, 19, 20], [2, 3, 4]) .leaf .leaf) (.node 62 (.node 14 ([2, 4, 5, 73, 74, 77, 78, 79], [2, 3, 4, 5, 73, 74]) (.node 11 ([2, 4, 5, 73, 74], [2, 3, 4]) .leaf .leaf) .leaf) .leaf .leaf) .leaf) (.node 65 (.node 6 ([1, 3, 4], [3]) .leaf .leaf) .leaf .leaf)) (.node 80 (.node 3 ([0, 3, 4], [3]) .leaf .leaf) (.node 76 (.node 2 ([0, 1, 5], [4]) .leaf .leaf) .leaf .leaf) (.node 81 (.node 9 ([3, 4, 8, 9], [4, 8]) .leaf .leaf) .leaf .leaf))))) (.node 125 (.node 2 ([0, 1, 5], [0, 1, 5]) .leaf .leaf) (.node 98 (.node 3 ([0, 3, 4], [3]) .leaf .leaf) (.node 91 (.node 4 ([1, 4, 5, 9, 10, 11], [1, 2, 3, 4]) .leaf .leaf) (.node 88 (.node 7 ([3], [0, 3]) (.node 1 ([0, 3], []) .leaf .leaf) .leaf) (.node 85 (.node 5 ([4], [4, 5]) .leaf .leaf) (.node 84 (.node 11 ([3, 7, 29], [7]) (.node 6 ([3], [3]) .leaf .leaf) .leaf) .leaf .leaf) .leaf) (.node 89 (.node 1 ([0, 1, 3], []) .leaf .leaf) .leaf .leaf)) (.node 96 (.node 2 ([0, 3], [2]) .leaf .leaf) (.node 95 (.node 6 ([1, 7, 8], [1]) .leaf .leaf) (.node 93 (.node 5 ([1, 4, 5], [2, 3, 4]) .leaf .leaf) .leaf .leaf) .leaf) (.node 97 (.node 14 ([2, 3, 4, 12], [2, 6, 7]) .leaf .leaf) .leaf .leaf))) (.node 116 (.node 17 ([0, 4, 5, 70, 71], [6]) .leaf .leaf) (.node 110 (.node 5 ([4, 32, 33, 34], [2, 3, 4]) .leaf .leaf) (.node 103 (.node 3 ([0, 3, 6, 7], [4, 5, 6]) .leaf .leaf) (.node 102 (.node 3 ([0, 2, 3, 4], [2, 3]) .leaf .leaf) .leaf .leaf) .leaf) (.node 115 (.node 4 ([3, 4, 9, 10, 11], [2, 3]) .leaf .leaf) .leaf .leaf)) (.node 121 (.node 3 ([2, 3, 10, 11, 12], [2, 3]) .leaf .leaf) (.node 117 (.node 3 ([0, 3, 5], [3]) .leaf .leaf) .leaf .leaf) (.node 122 (.node 3 ([0, 5, 8, 9, 10], [4, 5]) .leaf .leaf) .leaf .leaf)))) (.node 146 (.node 2 ([1, 4], [1, 4]) .leaf .leaf) (.node 131 (.node 2 ([0, 1, 5], [4]) .leaf .leaf) (.node 129 (.node 2 ([0, 1, 5, 7], [0, 1, 5, 7]) .leaf .leaf) (.node 128 (.node 4 ([2, 3, 5], [4]) .leaf .leaf) (.node 127 (.node 2 ([0, 1, 4, 6], [4, 5]) .leaf .leaf) .leaf .leaf) .leaf) (.node 130 (.node 2 ([0, 1, 5], [4]) .leaf .leaf) .leaf .leaf)) (.node 136 (.node 1 ([0, 3], []) .leaf .leaf) (.node 132 (.node 3 ([1, 5, 6], [4]) .leaf .leaf) .leaf .leaf) (.node 140 (.node 9 ([5, 6, 70, 71], [5]) (.node 2 ([5], [4]) .leaf .leaf) .leaf) .leaf .leaf))) (.node 166 (.node 2 ([0, 1, 7, 8], [4]) .leaf .leaf) (.node 160 (.node 1 ([2, 3], [4]) .leaf .leaf) (.node 159 (.node 4 ([7], [0, 5, 6, 7]) .leaf .leaf) (.node 153 (.node 2 ([0, 1, 7, 8], [4]) .leaf .leaf) .leaf .leaf) .leaf) (.node 164 (.node 3 ([0, 1, 5, 6], [5]) .leaf .leaf) .leaf .leaf)) (.node 174 (.node 0 ([0, 1], []) .leaf .leaf) (.node 171 (.node 3 ([3, 6, 7, 8], [2, 3]) .leaf .leaf) .leaf .leaf) (.node 177 (.node 2 ([0, 1, 2, 11, 12, 13], [0, 1, 6]) .leaf .leaf) .leaf .leaf)))))
def cutTab : BT (BT (List Tmp)) := .node 129 (.node 6 ([0, 7, 8]) (.node 4 ([0, 1, 5, 7]) .leaf .leaf) .leaf) (.node 125 (.node 6 ([0, 1, 5]) (.node 4 ([0, 1, 5]) .leaf .leaf) .leaf) .leaf .leaf) .leaf
def liftTab : BT (BT (List (Tmp × Nat))) := .node 81 (.node 9 ([(8, 4)]) .leaf .leaf) (.node 41 (.node 7 ([(2, 6), (4, 6)]) (.node 0 ([(2, 6)]) .leaf .leaf) .leaf) (.node 28 (.node 3 ([(3, 4)]) (.node 0 ([(2, 4)]) .leaf .leaf) .leaf) (.node 23 (.node 4 ([(5, 4)]) .leaf .leaf) (.node 22 (.node 9 ([(5, 4)]) .leaf .leaf) .leaf .leaf) (.node 24 (.node 3 ([(4, 4)]) .leaf .leaf) .leaf .leaf)) (.node 33 (.node 3 ([(3, 4)]) .leaf .leaf) (.node 31 (.node 6 ([(6, 6)]) (.node 0 ([(2, 6)]) .leaf .leaf) .leaf) .leaf .leaf) .leaf)) (.node 54 (.node 2 ([(4, 4)]) .leaf .leaf) (.node 44 (.node 3 ([(3, 4)]) .leaf .leaf) (.node 43 (.node 3 ([(3, 4)]) .leaf .leaf) .leaf .leaf) .leaf) (.node 80 (.node 3 ([(3, 1)]) .leaf .leaf) (.node 69 (.node 0 ([(2, 4)]) .leaf .leaf) .leaf .leaf) .leaf))) (.node 103 (.node 3 ([(6, 4)]) .leaf .leaf) (.node 88 (.node 7 ([(3, 4)]) (.node 1 ([(3, 4)]) .leaf .leaf) .leaf) (.node 85 (.node 5 ([(4, 4)]) .leaf .leaf) (.node 84 (.node 11 ([(7, 1)]) .leaf .leaf) .leaf .leaf) .leaf) (.node 98 (.node 3 ([(3, 5)]) .leaf .leaf) (.node 91 (.node 4 ([(4, 1)]) .leaf .leaf) .leaf .leaf) .leaf)) (.node 122 (.node 3 ([(5, 4)]) .leaf .leaf) (.node 121 (.node 3 ([(3, 4)]) .leaf .leaf) (.node 117 (.node 3 ([(3, 5)]) .leaf .leaf) .leaf .leaf) .leaf) (.node 140 (.node 9 ([(5, 8)]) (.node 2 ([(5, 8)]) .leaf .leaf) .leaf) (.node 136 (.node 1 ([(3, 4)]) .leaf .leaf) .leaf .leaf) .leaf)))
def extLook (f : Nat) : List (Nat × (List AV → AH → Option (AV × AH))) → Option (List AV → AH → Option (AV × AH))
  | [] => none
  | p :: l => if Nat.beq p.1 f then some p.2 else extLook f l
def extTab : List (Nat × (List AV → AH → Option (AV × AH))) := [(179, extCmp)]
def knownTab : BT Unit := .node 90 (()) (.node 46 (()) (.node 24 (()) (.node 13 (()) (.node 7 (()) (.node 4 (()) (.node 3 (()) (.node 2 (()) .leaf .leaf) .leaf) (.node 6 (()) (.node 5 (()) .leaf .leaf) .leaf)) (.node 10 (()) (.node 9 (()) (.node 8 (()) .leaf .leaf) .leaf) (.node 12 (()) (.node 11 (()) .leaf .leaf) .leaf))) (.node 19 (()) (.node 16 (()) (.node 15 (()) (.node 14 (()) .leaf .leaf) .leaf) (.node 18 (()) (.node 17 (()) .leaf .leaf) .leaf)) (.node 22 (()) (.node 21 (()) (.node 20 (()) .leaf .leaf) .leaf) (.node 23 (()) .leaf .leaf)))) (.node 35 (()) (.node 30 (()) (.node 27 (()) (.node 26 (()) (.node 25 (()) .leaf .leaf) .leaf) (.node 29 (()) (.node 28 (()) .leaf .leaf) .leaf)) (.node 33 (()) (.node 32 (()) (.node 31 (()) .leaf .leaf) .leaf) (.node 34 (()) .leaf .leaf))) (.node 41 (()) (.node 38 (()) (.node 37 (()) (.node 36 (()) .leaf .leaf) .leaf) (.node 40 (()) (.node 39 (()) .leaf .leaf) .leaf)) (.node 44 (()) (.node 43 (()) (.node 42 (()) .leaf .leaf) .leaf) (.node 45 (()) .leaf .leaf))))) (.node 68 (()) (.node 57 (()) (.node 52 (()) (.node 49 (()) (.node 48 (()) (.node 47 (()) .leaf .leaf) .leaf) (.node 51 (()) (.node 50 (()) .leaf .leaf) .leaf)) (.node 55 (()) (.node 54 (()) (.node 53 (()) .leaf .leaf) .leaf) (.node 56 (()) .leaf .leaf))) (.node 63 (()) (.node 60 (()) (.node 59 (()) (.node 58 (()) .leaf .leaf) .leaf) (.node 62 (()) (.node 61 (()) .leaf .leaf) .leaf)) (.node 66 (()) (.node 65 (()) (.node 64 (()) .leaf .leaf) .leaf) (.node 67 (()) .leaf .leaf)))) (.node 79 (()) (.node 74 (()) (.node 71 (()) (.node 70 (()) (.node 69 (()) .leaf .leaf) .leaf) (.node 73 (()) (.node 72 (()) .leaf .leaf) .leaf)) (.node 77 (()) (.node 76 (()) (.node 75 (()) .leaf .leaf) .leaf) (.node 78 (()) .leaf .leaf))) (.node 85 (()) (.node 82 (()) (.node 81 (()) (.node 80 (()) .leaf .leaf) .leaf) (.node 84 (()) (.node 83 (()) .leaf .leaf) .leaf)) (.node 88 (()) (.node 87 (()) (.node 86 (()) .leaf .leaf) .leaf) (.node 89 (()) .leaf .leaf)))))) (.node 135 (()) (.node 113 (()) (.node 102 (()) (.node 96 (()) (.node 93 (()) (.node 92 (()) (.node 91 (()) .leaf .leaf) .leaf) (.node 95 (()) (.node 94 (()) .leaf .leaf) .leaf)) (.node 99 (()) (.node 98 (()) (.node 97 (()) .leaf .leaf) .leaf) (.node 101 (()) (.node 100 (()) .leaf .leaf) .leaf))) (.node 108 (()) (.node 105 (()) (.node 104 (()) (.node 103 (()) .leaf .leaf) .leaf) (.node 107 (()) (.node 106 (()) .leaf .leaf) .leaf)) (.node 111 (()) (.node 110 (()) (.node 109 (()) .leaf .leaf) .leaf) (.node 112 (()) .leaf .leaf)))) (.node 124 (()) (.node 119 (()) (.node 116 (()) (.node 115 (()) (.node 114 (()) .leaf .leaf) .leaf) (.node 118 (()) (.node 117 (()) .leaf .leaf) .leaf)) (.node 122 (()) (.node 121 (()) (.node 120 (()) .leaf .leaf) .leaf) (.node 123 (()) .leaf .leaf))) (.node 130 (()) (.node 127 (()) (.node 126 (()) (.node 125 (()) .leaf .leaf) .leaf) (.node 129 (()) (.node 128 (()) .leaf .leaf) .leaf)) (.node 133 (()) (.node 132 (()) (.node 131 (()) .leaf .leaf) .leaf) (.node 134 (()) .leaf .leaf))))) (.node 157 (()) (.node 146 (()) (.node 141 (()) (.node 138 (()) (.node 137 (()) (.node 136 (()) .leaf .leaf) .leaf) (.node 140 (()) (.node 139 (()) .leaf .leaf) .leaf)) (.node 144 (()) (.node 143 (()) (.node 142 (()) .leaf .leaf) .leaf) (.node 145 (()) .leaf .leaf))) (.node 152 (()) (.node 149 (()) (.node 148 (()) (.node 147 (()) .leaf .leaf) .leaf) (.node 151 (()) (.node 150 (()) .leaf .leaf) .leaf)) (.node 155 (()) (.node 154 (()) (.node 153 (()) .leaf .leaf) .leaf) (.node 156 (()) .leaf .leaf)))) (.node 168 (()) (.node 163 (()) (.node 160 (()) (.node 159 (()) (.node 158 (()) .leaf .leaf) .leaf) (.node 162 (()) (.node 161 (()) .leaf .leaf) .leaf)) (.node 166 (()) (.node 165 (()) (.node 164 (()) .leaf .leaf) .leaf) (.node 167 (()) .leaf .leaf))) (.node 174 (()) (.node 171 (()) (.node 170 (()) (.node 169 (()) .leaf .leaf) .leaf) (.node 173 (()) (.node 172 (()) .leaf .leaf) .leaf)) (.node 177 (()) (.node 176 (()) (.node 175 (()) .leaf .leaf) .leaf) (.node 178 (()) .leaf .leaf))))))
def datTab : BT Unit := .node 72 (()) (.node 36 (()) (.node 24 (()) (.node 22 (()) .leaf .leaf) .leaf) (.node 43 (()) .leaf .leaf)) (.node 104 (()) (.node 76 (()) .leaf .leaf) (.node 112 (()) .leaf .leaf))
def aliTab : BT Unit := .node 76 (()) .leaf .leaf
def emsTab : BT Unit := .leaf
def tupTab : BT (List Nat) := .node 68 ([22, 4]) (.node 45 ([24, 27]) (.node 30 ([3, 27]) (.node 28 ([24, 4, 27]) .leaf .leaf) (.node 37 ([36, 27]) .leaf .leaf)) (.node 54 ([36, 4]) (.node 51 ([3, 24, 27]) .leaf .leaf) (.node 56 ([24, 4]) .leaf .leaf))) (.node 105 ([3, 4]) (.node 73 ([72, 4]) (.node 70 ([43, 4]) .leaf .leaf) (.node 100 ([89, 4]) .leaf .leaf)) (.node 165 ([118, 118]) (.node 132 ([4, 4]) .leaf .leaf) .leaf))
noncomputable def inlTab : List (Nat × Func) := [(61, Tryz.f61), (66, Tryz.f66), (70, Tryz.f70), (82, Tryz.f82), (88, Tryz.f88), (89, Tryz.f89), (109, Tryz.f109), (115, Tryz.f115), (136, Tryz.f136), (168, Tryz.f168), (174, Tryz.f174)]
noncomputable def fnTab : BT Func := .node 90 (Tryz.f90) (.node 46 (Tryz.f46) (.node 24 (Tryz.f24) (.node 13 (Tryz.f13) (.node 7 (Tryz.f7) (.node 4 (Tryz.f4) (.node 3 (Tryz.f3) (.node 2 (Tryz.f2) .leaf .leaf) .leaf) (.node 6 (Tryz.f6) (.node 5 (Tryz.f5) .leaf .leaf) .leaf)) (.node 10 (Tryz.f10) (.node 9 (Tryz.f9) (.node 8 (Tryz.f8) .leaf .leaf) .leaf) (.node 12 (Tryz.f12) (.node 11 (Tryz.f11) .leaf .leaf) .leaf))) (.node 19 (Tryz.f19) (.node 16 (Tryz.f16) (.node 15 (Tryz.f15) (.node 14 (Tryz.f14) .leaf .leaf) .leaf) (.node 18 (Tryz.f18) (.node 17 (Tryz.f17) .leaf .leaf) .leaf)) (.node 22 (Tryz.f22) (.node 21 (Tryz.f21) (.node 20 (Tryz.f20) .leaf .leaf) .leaf) (.node 23 (Tryz.f23) .leaf .leaf)))) (.node 35 (Tryz.f35) (.node 30 (Tryz.f30) (.node 27 (Tryz.f27) (.node 26 (Tryz.f26) (.node 25 (Tryz.f25) .leaf .leaf) .leaf) (.node 29 (Tryz.f29) (.node 28 (Tryz.f28) .leaf .leaf) .leaf)) (.node 33 (Tryz.f33) (.node 32 (Tryz.f32) (.node 31 (Tryz.f31) .leaf .leaf) .leaf) (.node 34 (Tryz.f34) .leaf .leaf))) (.node 41 (Tryz.f41) (.node 38 (Tryz.f38) (.node 37 (Tryz.f37) (.node 36 (Tryz.f36) .leaf .leaf) .leaf) (.node 40 (Tryz.f40) (.node 39 (Tryz.f39) .leaf .leaf) .leaf)) (.node 44 (Tryz.f44) (.node 43 (Tryz.f43) (.node 42 (Tryz.f42) .leaf .leaf) .leaf) (.node 45 (Tryz.f45) .leaf .leaf))))) (.node 68 (Tryz.f68) (.node 57 (Tryz.f57) (.node 52 (Tryz.f52) (.node 49 (Tryz.f49) (.node 48 (Tryz.f48) (.node 47 (Tryz.f47) .leaf .leaf) .leaf) (.node 51 (Tryz.f51) (.node 50 (Tryz.f50) .leaf .leaf) .leaf)) (.node 55 (Tryz.f55) (.node 54 (Tryz.f54) (.node 53 (Tryz.f53) .leaf .leaf) .leaf) (.node 56 (Tryz.f56) .leaf .leaf))) (.node 63 (Tryz.f63) (.node 60 (Tryz.f60) (.node 59 (Tryz.f59) (.node 58 (Tryz.f58) .leaf .leaf) .leaf) (.node 62 (Tryz.f62) (.node 61 (Tryz.f61) .leaf .leaf) .leaf)) (.node 66 (Tryz.f66) (.node 65 (Tryz.f65) (.node 64 (Tryz.f64) .leaf .leaf) .leaf) (.node 67 (Tryz.f67) .leaf .leaf)))) (.node 79 (Tryz.f79) (.node 74 (Tryz.f74) (.node 71 (Tryz.f71) (.node 70 (Tryz.f70) (.node 69 (Tryz.f69) .leaf .leaf) .leaf) (.node 73 (Tryz.f73) (.node 72 (Tryz.f72) .leaf .leaf) .leaf)) (.node 77 (Tryz.f77) (.node 76 (Tryz.f76) (.node 75 (Tryz.f75) .leaf .leaf) .leaf) (.node 78 (Tryz.f78) .leaf .leaf))) (.node 85 (Tryz.f85) (.node 82 (Tryz.f82) (.node 81 (Tryz.f81) (.node 80 (Tryz.f80) .leaf .leaf) .leaf) (.node 84 (Tryz.f84) (.node 83 (Tryz.f83) .leaf .leaf) .leaf)) (.node 88 (Tryz.f88) (.node 87 (Tryz.f87) (.node 86 (Tryz.f86) .leaf .leaf) .leaf) (.node 89 (Tryz.f89) .leaf .leaf)))))) (.node 135 (Tryz.f135) (.node 113 (Tryz.f113) (.node 102 (Tryz.f102) (.node 96 (Tryz.f96) (.node 93 (Tryz.f93) (.node 92 (Tryz.f92) (.node 91 (Tryz.f91) .leaf .leaf) .leaf) (.node 95 (Tryz.f95) (.node 94 (Tryz.f94) .leaf .leaf) .leaf)) (.node 99 (Tryz.f99) (.node 98 (Tryz.f98) (.node 97 (Tryz.f97) .leaf .leaf) .leaf) (.node 101 (Tryz.f101) (.node 100 (Tryz.f100) .leaf .leaf) .leaf))) (.node 108 (Tryz.f108) (.node 105 (Tryz.f105) (.node 104 (Tryz.f104) (.node 103 (Tryz.f103) .leaf .leaf) .leaf) (.node 107 (Tryz.f107) (.node 106 (Tryz.f106) .leaf .leaf) .leaf)) (.node 111 (Tryz.f111) (.node 110 (Tryz.f110) (.node 109 (Tryz.f109) .leaf .leaf) .leaf) (.node 112 (Tryz.f112) .leaf .leaf)))) (.node 124 (Tryz.f124) (.node 119 (Tryz.f119) (.node 116 (Tryz.f116) (.node 115 (Tryz.f115) (.node 114 (Tryz.f114) .leaf .leaf) .leaf) (.node 118 (Tryz.f118) (.node 117 (Tryz.f117) .leaf .leaf) .leaf)) (.node 122 (Tryz.f122) (.node 121 (Tryz.f121) (.node 120 (Tryz.f120) .leaf .leaf) .leaf) (.node 123 (Tryz.f123) .leaf .leaf))) (.node 130 (Tryz.f130) (.node 127 (Tryz.f127) (.node 126 (Tryz.f126) (.node 125 (Tryz.f125) .leaf .leaf) .leaf) (.node 129 (Tryz.f129) (.node 128 (Tryz.f128) .leaf .leaf) .leaf)) (.node 133 (Tryz.f133) (.node 132 (Tryz.f132) (.node 131 (Tryz.f131) .leaf .leaf) .leaf) (.node 134 (Tryz.f134) .leaf .leaf))))) (.node 157 (Tryz.f157) (.node 146 (Tryz.f146) (.node 141 (Tryz.f141) (.node 138 (Tryz.f138) (.node 137 (Tryz.f137) (.node 136 (Tryz.f136) .leaf .leaf) .leaf) (.node 140 (Tryz.f140) (.node 139 (Tryz.f139) .leaf .leaf) .leaf)) (.node 144 (Tryz.f144) (.node 143 (Tryz.f143) (.node 142 (Tryz.f142) .leaf .leaf) .leaf) (.node 145 (Tryz.f145) .leaf .leaf))) (.node 152 (Tryz.f152) (.node 149 (Tryz.f149) (.node 148 (Tryz.f148) (.node 147 (Tryz.f147) .leaf .leaf) .leaf) (.node 151 (Tryz.f151) (.node 150 (Tryz.f150) .leaf .leaf) .leaf)) (.node 155 (Tryz.f155) (.node 154 (Tryz.f154) (.node 153 (Tryz.f153) .leaf .leaf) .leaf) (.node 156 (Tryz.f156) .leaf .leaf)))) (.node 168 (Tryz.f168) (.node 163 (Tryz.f163) (.node 160 (Tryz.f160) (.node 159 (Tryz.f159) (.node 158 (Tryz.f158) .leaf .leaf) .leaf) (.node 162 (Tryz.f162) (.node 161 (Tryz.f161) .leaf .leaf) .leaf)) (.node 166 (Tryz.f166) (.node 165 (Tryz.f165) (.node 164 (Tryz.f164) .leaf .leaf) .leaf) (.node 167 (Tryz.f167) .leaf .leaf))) (.node 174 (Tryz.f174) (.node 171 (Tryz.f171) (.node 170 (Tryz.f170) (.node 169 (Tryz.f169) .leaf .leaf) .leaf) (.node 173 (Tryz.f173) (.node 172 (Tryz.f172) .leaf .leaf) .leaf)) (.node 177 (Tryz.f177) (.node 176 (Tryz.f176) (.node 175 (Tryz.f175) .leaf .leaf) .leaf) (.node 178 (Tryz.f178) .leaf .leaf))))))
theorem fn_ok : fnTab.All fun f fn => Tryz.prog.funcs[f]? = some fn := (BT.all_node Tryz.func90 (BT.all_node Tryz.func46 (BT.all_node Tryz.func24 (BT.all_node Tryz.func13 (BT.all_node Tryz.func7 (BT.all_node Tryz.func4 (BT.all_node Tryz.func3 (BT.all_node Tryz.func2 trivial trivial) trivial) (BT.all_node Tryz.func6 (BT.all_node Tryz.func5 trivial trivial) trivial)) (BT.all_node Tryz.func10 (BT.all_node Tryz.func9 (BT.all_node Tryz.func8 trivial trivial) trivial) (BT.all_node Tryz.func12 (BT.all_node Tryz.func11 trivial trivial) trivial))) (BT.all_node Tryz.func19 (BT.all_node Tryz.func16 (BT.all_node Tryz.func15 (BT.all_node Tryz.func14 trivial trivial) trivial) (BT.all_node Tryz.func18 (BT.all_node Tryz.func17 trivial trivial) trivial)) (BT.all_node Tryz.func22 (BT.all_node Tryz.func21 (BT.all_node Tryz.func20 trivial trivial) trivial) (BT.all_node Tryz.func23 trivial trivial)))) (BT.all_node Tryz.func35 (BT.all_node Tryz.func30 (BT.all_node Tryz.func27 (BT.all_node Tryz.func26 (BT.all_node Tryz.func25 trivial trivial) trivial) (BT.all_node Tryz.func29 (BT.all_node Tryz.func28 trivial trivial) trivial)) (BT.all_node Tryz.func33 (BT.all_node Tryz.func32 (BT.all_node Tryz.func31 trivial trivial) trivial) (BT.all_node Tryz.func34 trivial trivial))) (BT.all_node Tryz.func41 (BT.all_node Tryz.func38 (BT.all_node Tryz.func37 (BT.all_node Tryz.func36 trivial trivial) trivial) (BT.all_node Tryz.func40 (BT.all_node Tryz.func39 trivial trivial) trivial)) (BT.all_node Tryz.func44 (BT.all_node Tryz.func43 (BT.all_node Tryz.func42 trivial trivial) trivial) (BT.all_node Tryz.func45 trivial trivial))))) (BT.all_node Tryz.func68 (BT.all_node Tryz.func57 (BT.all_node Tryz.func52 (BT.all_node Tryz.func49 (BT.all_node Tryz.func48 (BT.all_node Tryz.func47 trivial trivial) trivial) (BT.all_node Tryz.func51 (BT.all_node Tryz.func50 trivial trivial) trivial)) (BT.all_node Tryz.func55 (BT.all_node Tryz.func54 (BT.all_node Tryz.func53 trivial trivial) trivial) (BT.all_node Tryz.func56 trivial trivial))) (BT.all_node Tryz.func63 (BT.all_node Tryz.func60 (BT.all_node Tryz.func59 (BT.all_node Tryz.func58 trivial trivial) trivial) (BT.all_node Tryz.func62 (BT.all_node Tryz.func61 trivial trivial) trivial)) (BT.all_node Tryz.func66 (BT.all_node Tryz.func65 (BT.all_node Tryz.func64 trivial trivial) trivial) (BT.all_node Tryz.func67 trivial trivial)))) (BT.all_node Tryz.func79 (BT.all_node Tryz.func74 (BT.all_node Tryz.func71 (BT.all_node Tryz.func70 (BT.all_node Tryz.func69 trivial trivial) trivial) (BT.all_node Tryz.func73 (BT.all_node Tryz.func72 trivial trivial) trivial)) (BT.all_node Tryz.func77 (BT.all_node Tryz.func76 (BT.all_node Tryz.func75 trivial trivial) trivial) (BT.all_node Tryz.func78 trivial trivial))) (BT.all_node Tryz.func85 (BT.all_node Tryz.func82 (BT.all_node Tryz.func81 (BT.all_node Tryz.func80 trivial trivial) trivial) (BT.all_node Tryz.func84 (BT.all_node Tryz.func83 trivial trivial) trivial)) (BT.all_node Tryz.func88 (BT.all_node Tryz.func87 (BT.all_node Tryz.func86 trivial trivial) trivial) (BT.all_node Tryz.func89 trivial trivial)))))) (BT.all_node Tryz.func135 (BT.all_node Tryz.func113 (BT.all_node Tryz.func102 (BT.all_node Tryz.func96 (BT.all_node Tryz.func93 (BT.all_node Tryz.func92 (BT.all_node Tryz.func91 trivial trivial) trivial) (BT.all_node Tryz.func95 (BT.all_node Tryz.func94 trivial trivial) trivial)) (BT.all_node Tryz.func99 (BT.all_node Tryz.func98 (BT.all_node Tryz.func97 trivial trivial) trivial) (BT.all_node Tryz.func101 (BT.all_node Tryz.func100 trivial trivial) trivial))) (BT.all_node Tryz.func108 (BT.all_node Tryz.func105 (BT.all_node Tryz.func104 (BT.all_node Tryz.func103 trivial trivial) trivial) (BT.all_node Tryz.func107 (BT.all_node Tryz.func106 trivial trivial) trivial)) (BT.all_node Tryz.func111 (BT.all_node Tryz.func110 (BT.all_node Tryz.func109 trivial trivial) trivial) (BT.all_node Tryz.func112 trivial trivial)))) (BT.all_node Tryz.func124 (BT.all_node Tryz.func119 (BT.all_node Tryz.func116 (BT.all_node Tryz.func115 (BT.all_node Tryz.func114 trivial trivial) trivial) (BT.all_node Tryz.func118 (BT.all_node Tryz.func117 trivial trivial) trivial)) (BT.all_node Tryz.func122 (BT.all_node Tryz.func121 (BT.all_node Tryz.func120 trivial trivial) trivial) (BT.all_node Tryz.func123 trivial trivial))) (BT.all_node Tryz.func130 (BT.all_node Tryz.func127 (BT.all_node Tryz.func126 (BT.all_node Tryz.func125 trivial trivial) trivial) (BT.all_node Tryz.func129 (BT.all_node Tryz.func128 trivial trivial) trivial)) (BT.all_node Tryz.func133 (BT.all_node Tryz.func132 (BT.all_node Tryz.func131 trivial trivial) trivial) (BT.all_node Tryz.func134 trivial trivial))))) (BT.all_node Tryz.func157 (BT.all_node Tryz.func146 (BT.all_node Tryz.func141 (BT.all_node Tryz.func138 (BT.all_node Tryz.func137 (BT.all_node Tryz.func136 trivial trivial) trivial) (BT.all_node Tryz.func140 (BT.all_node Tryz.func139 trivial trivial) trivial)) (BT.all_node Tryz.func144 (BT.all_node Tryz.func143 (BT.all_node Tryz.func142 trivial trivial) trivial) (BT.all_node Tryz.func145 trivial trivial))) (BT.all_node Tryz.func152 (BT.all_node Tryz.func149 (BT.all_node Tryz.func148 (BT.all_node Tryz.func147 trivial trivial) trivial) (BT.all_node Tryz.func151 (BT.all_node Tryz.func150 trivial trivial) trivial)) (BT.all_node Tryz.func155 (BT.all_node Tryz.func154 (BT.all_node Tryz.func153 trivial trivial) trivial) (BT.all_node Tryz.func156 trivial trivial)))) (BT.all_node Tryz.func168 (BT.all_node Tryz.func163 (BT.all_node Tryz.func160 (BT.all_node Tryz.func159 (BT.all_node Tryz.func158 trivial trivial) trivial) (BT.all_node Tryz.func162 (BT.all_node Tryz.func161 trivial trivial) trivial)) (BT.all_node Tryz.func166 (BT.all_node Tryz.func165 (BT.all_node Tryz.func164 trivial trivial) trivial) (BT.all_node Tryz.func167 trivial trivial))) (BT.all_node Tryz.func174 (BT.all_node Tryz.func171 (BT.all_node Tryz.func170 (BT.all_node Tryz.func169 trivial trivial) trivial) (BT.all_node Tryz.func173 (BT.all_node Tryz.func172 trivial trivial) trivial)) (BT.all_node Tryz.func177 (BT.all_node Tryz.func176 (BT.all_node Tryz.func175 trivial trivial) trivial) (BT.all_node Tryz.func178 trivial trivial)))))))

noncomputable def cfg : Cfg := { P := Tryz.prog, ty := fun t => tyTab.look t, mode := fun f => match modeTab.look f with | some m => m | none => .imp, frz := fun f r k => frzLook f r k, mask := fun f r => look2 f r maskTab, cut := fun f r => look2 f r cutTab, tup := fun t => tupTab.look t, ext := fun f => extLook f extTab, known := fun f => (knownTab.look f).isSome, dat := fun t => (datTab.look t).isSome, inl := fun f => inlLook f inlTab, lift := fun f r => match look2 f r liftTab with | some l => l | none => [], ems := fun t => (emsTab.look t).isSome, ali := fun t => (aliTab.look t).isSome }
theorem factS {fs : List Fact} (hfs : FactsOk cfg fs) {f : Nat} {args : List AV} {v : AV} (m d : Nat) (h : (match yF cfg (fun f => fnTab.look f) fs m d (.f f) args [] with | some r => some r.1 | none => none) = some v) : EVs (EV cfg) f args = some v := fact_S (fun _ _ h => BT.all_look fn_ok h) hfs m d h
theorem factF {fs : List Fact} (hfs : FactsOk cfg fs) {f : Nat} {args : List AV} {v : AV} (m d : Nat) (h : (match yF cfg (fun f => fnTab.look f) fs m d (.f f) args [] with | some r => gA (r.1.frz r.1.msIds r.2).fg some | none => none) = some v) : EVf (EV cfg) f args = some v := fact_F (fun _ _ h => BT.all_look fn_ok h) hfs m d h
instance inl_ok : InlOk cfg := InlOk.of inlTab (fun _ => rfl) ⟨⟨rfl, rfl, Tryz.func61, rfl⟩, ⟨⟨rfl, rfl, Tryz.func66, rfl⟩, ⟨⟨rfl, rfl, Tryz.func70, rfl⟩, ⟨⟨rfl, rfl, Tryz.func82, rfl⟩, ⟨⟨rfl, rfl, Tryz.func88, rfl⟩, ⟨⟨rfl, rfl, Tryz.func89, rfl⟩, ⟨⟨rfl, rfl, Tryz.func109, rfl⟩, ⟨⟨rfl, rfl, Tryz.func115, rfl⟩, ⟨⟨rfl, rfl, Tryz.func136, rfl⟩, ⟨⟨rfl, rfl, Tryz.func168, rfl⟩, ⟨⟨rfl, rfl, Tryz.func174, rfl⟩, trivial⟩⟩⟩⟩⟩⟩⟩⟩⟩⟩⟩
end Go.Proofs.YtonmmmgffeoiiaaGreat
end

section
namespace Go.Av

def cmpS (a b : List UInt8) : Int := if a == b then 0 else if Op.bytesLess a b then -1 else 1

theorem compareBytes_eq : ∀ a b : List UInt8, Lib.compareBytes a b = cmpS a b
  | [], [] => rfl
  | [], _ :: _ => by simp [Lib.compareBytes, cmpS, Op.bytesLess]
  | _ :: _, [] => by simp [Lib.compareBytes, cmpS, Op.bytesLess]
  | a :: l, b :: m => by
    rw [Lib.compareBytes, compareBytes_eq l m]
    unfold cmpS
    by_cases h : a = b
    · subst h
      have : ¬ a < a := by simp
      by_cases h2 : l = m
      · subst h2; simp
      · simp [Op.bytesLess, h2]
    · have h' : (a :: l == b :: m) = false := by simp [h]
      rw [h']
      simp only [Bool.false_eq_true, if_false, Op.bytesLess]
      by_cases hlt : a < b
      · simp [hlt]
      · have : b < a := by
          have h1 : ¬ a.toNat < b.toNat := hlt
          have h2 : a.toNat ≠ b.toNat := fun e => h (UInt8.toNat.inj e)
          show b.toNat < a.toNat
          omega
        simp [hlt, this, h]

theorem extCmp_sound {P : Program} {f : FuncId} {fn : Func} (hf : P.funcs[f]? = some fn) (hn : (fn.name == "runtime.NumGoroutine") = false) (hb : fn.body.isNone = true) (hx : Extern.findNext fn = none)
    (he : Extern.find fn = some Extern.BytealgCompare.compare) {args : List AV} {H H' : AH} {r : AV} (hr : extCmp args H = some (r, H')) {C : Claims} {μ : MMap} {w : World} {vs : Array Value} (ha : FrRep C μ args vs) (hw : Wld C μ H w) :
    CallR P (callFunc f vs) w (Post1 C μ H w r H') := by
  unfold extCmp at hr
  split at hr
  · rename_i H0 a b
    cases hr
    obtain ⟨hl, hv⟩ := ha
    obtain ⟨x, y, rfl⟩ : ∃ x y, vs = #[x, y] := by
      obtain ⟨l⟩ := vs
      match l, hl with
      | [x, y], _ => exact ⟨x, y, rfl⟩
    have h0 := hv 0 _ _ rfl rfl
    have h1 := hv 1 _ _ rfl rfl
    cases h0
    cases h1
    have hrun : (callFunc f #[.string ⟨a.toArray⟩, .string ⟨b.toArray⟩]).run P w = .ok (.value (.int .i64 (cmpS a b))) w := by
      unfold callFunc
      simp only [Sem.run_bind, run_program, Result.andThen_ok, hf, hn, hb, Bool.false_eq_true, if_false, if_true, run_mark, hx, he, Lib.run_compareString, Sem.run_pure]
      rw [compareBytes_eq]
    unfold CallR
    rw [hrun]
    exact ⟨C, μ, .int _ _, hw, Ext.refl (Nat.le_refl _)⟩
  · cases hr
end Go.Av
namespace Go.Proofs.YtonmmmgffeoiiaaGreat
open Go.Av
set_option maxRecDepth 100000

theorem tys_ok : tyTab.All fun t ti => tiOf Tryz.prog t = some ti := by
  unfold tyTab
  repeat (first | exact trivial | refine BT.all_node (by show tiOf Tryz.prog _ = _; kernel_rfl) ?_ ?_)

theorem names_ok : Tryz.prog.funcs.toList.all (fun fn => !(fn.name == "runtime.NumGoroutine")) = true := by kernel_rfl
theorem mixed_ok : Tryz.prog.follows .mixedOrders = true := by kernel_rfl
end Go.Proofs.YtonmmmgffeoiiaaGreat
end

section
namespace Go.Av

inductive Tm where
  | mk (k n : Int) (s : List UInt8) (l : List Tm)
  deriving Inhabited

namespace Tm
def kind : Tm → Int | mk k _ _ _ => k
def num : Tm → Int | mk _ n _ _ => n
def str : Tm → List UInt8 | mk _ _ s _ => s
def subs : Tm → List Tm | mk _ _ _ l => l
end Tm

mutual
def Tm.cells : Tm → List AV
  | .mk k n s l => [.int .i64 k, .int .i64 n, .str s, .sl (rowsT l)]
def rowsT : List Tm → List (List AV)
  | [] => []
  | t :: l => t.cells :: rowsT l
end

def Tm.av (t : Tm) : AV := .agg t.cells

theorem Tm.cells_mk (k n : Int) (s : List UInt8) (l : List Tm) : (Tm.mk k n s l).cells = [.int .i64 k, .int .i64 n, .str s, .sl (rowsT l)] := by rw [Tm.cells]
theorem Tm.av_mk (k n : Int) (s : List UInt8) (l : List Tm) : (Tm.mk k n s l).av = .agg [.int .i64 k, .int .i64 n, .str s, .sl (rowsT l)] := by rw [Tm.av, Tm.cells_mk]
theorem rowsT_map : ∀ l : List Tm, rowsT l = l.map Tm.cells
  | [] => by rw [rowsT]; rfl
  | t :: l => by rw [rowsT, rowsT_map l]; rfl
@[simp] theorem rowsT_length (l : List Tm) : (rowsT l).length = l.length := by rw [rowsT_map]; simp
@[simp] theorem rowsT_nil : rowsT [] = [] := by rw [rowsT]
theorem rowsT_cons (t : Tm) (l : List Tm) : rowsT (t :: l) = t.cells :: rowsT l := by rw [rowsT]
theorem rowsT_append (a b : List Tm) : rowsT (a ++ b) = rowsT a ++ rowsT b := by simp [rowsT_map]
theorem rowsT_take (n : Nat) (a : List Tm) : (rowsT a).take n = rowsT (a.take n) := by simp [rowsT_map, List.map_take]
theorem rowsT_drop (n : Nat) (a : List Tm) : (rowsT a).drop n = rowsT (a.drop n) := by simp [rowsT_map, List.map_drop]
theorem rowsT_get (l : List Tm) (i : Nat) : (rowsT l)[i]? = (l[i]?).map Tm.cells := by rw [rowsT_map]; simp
theorem rowsT_set (l : List Tm) (i : Nat) (t : Tm) : (rowsT l).set i t.cells = rowsT (l.set i t) := by simp [rowsT_map, List.map_set]

theorem cells_free (t : Tm) : refsLtL 0 t.cells = true := by
  obtain ⟨k, n, s, l⟩ := t
  rw [Tm.cells_mk]; rfl
theorem rowsT_free (l : List Tm) : refsLtR 0 (rowsT l) = true := by
  induction l with
  | nil => rw [rowsT]; rfl
  | cons t l ih => rw [rowsT, refsLtR, ih, cells_free]; rfl

mutual
/-- no list is longer than is counted here, no text -/
def Tm.Ok : Tm → Prop
  | .mk _ _ s l => s.length < 1099511627776 ∧ l.length < 1099511627776 ∧ OkL l
def OkL : List Tm → Prop
  | [] => True
  | t :: l => t.Ok ∧ OkL l
end
theorem OkL_iff {l : List Tm} : OkL l ↔ ∀ t ∈ l, t.Ok := by
  induction l with
  | nil => simp [OkL]
  | cons t l ih => simp [OkL, ih]
theorem Tm.Ok.str {k n : Int} {s : List UInt8} {l : List Tm} (h : (Tm.mk k n s l).Ok) : s.length < 1099511627776 := by rw [Tm.Ok] at h; exact h.1
theorem Tm.Ok.len {k n : Int} {s : List UInt8} {l : List Tm} (h : (Tm.mk k n s l).Ok) : l.length < 1099511627776 := by rw [Tm.Ok] at h; exact h.2.1
theorem Tm.Ok.sub {k n : Int} {s : List UInt8} {l : List Tm} (h : (Tm.mk k n s l).Ok) {t : Tm} (ht : t ∈ l) : t.Ok := by rw [Tm.Ok] at h; exact OkL_iff.1 h.2.2 t ht
theorem OkL.get {l : List Tm} (h : OkL l) {t : Tm} (ht : t ∈ l) : t.Ok := OkL_iff.1 h t ht

theorem Tm.ind {P : Tm → Prop} (h : ∀ k n s l, (∀ t ∈ l, P t) → P (.mk k n s l)) : ∀ t, P t
  | .mk k n s l => h k n s l (fun t _ => Tm.ind h t)

theorem wrap64 {x : Int} (h1 : -9223372036854775808 ≤ x) (h2 : x < 9223372036854775808) : IntKind.wrap .i64 x = x := by
  simp [IntKind.wrap, IntKind.bits, IntKind.signed]; omega
theorem wrap_succ {i n : Nat} (h : i < n) (hn : n < 1099511627776) : IntKind.wrap .i64 ((i : Int) + 1) = ((i + 1 : Nat) : Int) := by
  rw [wrap64 (by omega) (by omega)]; rfl
theorem leInt_zero (i : Nat) : leInt 0 (i : Int) = true := by simp [leInt]
theorem ltInt_nat (i n : Nat) : ltInt (i : Int) (n : Int) = decide (i < n) := by simp [ltInt]

def kTmC {α : Type} (l : List AV) (k : Int → Int → List UInt8 → List (List AV) → Option α) : Option α :=
  kCons l fun c cs => kInt .i64 c fun n => kCons cs fun c cs => kInt .i64 c fun m => kCons cs fun c cs => kStr c fun s => kCons cs fun c cs => kSl c fun A => kNil cs (k n m s A)
def kTmV {α : Type} (v : AV) (k : Int → Int → List UInt8 → List (List AV) → Option α) : Option α := kAgg v fun cs => kTmC cs k

theorem rowsT_at {α : Type} {l : List Tm} {i : Nat} {t : Tm} (h : l[i]? = some t) (k : List AV → Option α) : kOpt (List.get?Internal (rowsT l) (Int.toNat (i : Int))) k = k t.cells := by
  rw [get?Internal_eq, Int.toNat_natCast, rowsT_get, h]; rfl
end Go.Av
end

section
namespace Go.Av
mutual
def Tm.w : Tm → Nat
  | .mk _ _ s l => 1 + s.length + wL l
def wL : List Tm → Nat
  | [] => 0
  | t :: l => t.w + wL l
end
theorem Tm.w_mk (k n : Int) (s : List UInt8) (l : List Tm) : (Tm.mk k n s l).w = 1 + s.length + wL l := by rw [Tm.w]
theorem Tm.w_eq (t : Tm) : t.w = 1 + t.str.length + wL t.subs := by cases t; rw [Tm.w_mk]; rfl
@[simp] theorem wL_nil : wL [] = 0 := by rw [wL]
@[simp] theorem wL_cons (t : Tm) (l : List Tm) : wL (t :: l) = t.w + wL l := by rw [wL]
@[simp] theorem wL_append (a b : List Tm) : wL (a ++ b) = wL a + wL b := by
  induction a with
  | nil => simp
  | cons t l ih => simp [ih]; omega
theorem w_pos (t : Tm) : 1 ≤ t.w := by rw [Tm.w_eq]; omega
theorem wL_mem {t : Tm} {l : List Tm} (h : t ∈ l) : t.w ≤ wL l := by
  induction l with
  | nil => cases h
  | cons x l ih =>
    rw [wL_cons]
    rcases List.mem_cons.1 h with rfl | h
    · omega
    · have := ih h; omega
theorem wL_len (l : List Tm) : l.length ≤ wL l := by
  induction l with
  | nil => simp
  | cons x l ih => have := w_pos x; simp; omega
theorem ok_of_w (t : Tm) : t.w < 1099511627776 → t.Ok := by
  induction t using Tm.ind with
  | _ k n s l ih =>
    intro h
    rw [Tm.w_mk] at h
    rw [Tm.Ok]
    have := wL_len l
    exact ⟨by omega, by omega, OkL_iff.2 fun t ht => ih t ht (by have := wL_mem ht; omega)⟩
theorem wL_rev (l : List Tm) : wL l.reverse = wL l := by
  induction l with
  | nil => rfl
  | cons x l ih => simp [ih]; omega
end Go.Av
end

section
namespace Go.Proofs.YtonmmmgffeoiiaaGreat
open Go.Av

def C0 (W : World) : Claims := fun b o => W.cell? ⟨b, o, none⟩
def M0 : MMap := fun _ => none

theorem wld0 (W : World) : Wld (C0 W) M0 [] W where
  cl := fun _ _ _ h => h
  dom := fun id m h => by cases h
  res := fun id h => by simp at h
  live := fun id b h => by simp at h
  froz := fun id d sz rs h => by simp at h
  inj := fun i i' b b' m m' h => by simp at h
  free := FreeH.nil

structure TermTys (P : Program) (tT tL tI tS : TypeId) : Prop where
  uT : ∃ f0 f1 f2 f3 : Field, P.underlying tT = some (.struct #[f0, f1, f2, f3]) ∧ f0.type = tI ∧ f0.offset = 0 ∧ f1.type = tI ∧ f1.offset = 1 ∧ f2.type = tS ∧ f2.offset = 2 ∧ f3.type = tL ∧ f3.offset = 3
  uL : P.underlying tL = some (.slice tT)
  uI : P.underlying tI = some (.int .i64)
  uS : P.underlying tS = some .string
  cT : P.cellsOf tT = 4
  cL : P.cellsOf tL = 1
  cI : P.cellsOf tI = 1
  cS : P.cellsOf tS = 1

section
variable {H : Type} {enc : TypeId × Value → H} {P : Program} {W : World} {tT tL tI tS : TypeId}

def CellsAre (W : World) (cs : List Value) (t : Tm) : Prop := cs.length = 4 ∧ ∀ (j : Nat) a v, t.cells[j]? = some a → cs[j]? = some v → a.isCell = true ∧ Rep (C0 W) M0 a v

theorem cells?_some {base : Nat} {a : Addr} {n : Nat} {cs : List Value} (h : W.cells? base a n = some cs) (hn : 0 < n) : a.spot = none ∧ cs.length = n ∧ ∀ (j : Nat) v, cs[j]? = some v → W.cell? ⟨a.block, a.off + j, none⟩ = some v := by
  unfold World.cells? at h
  split at h
  · have hl : cs.length = n := by simpa using mapM_some_length h
    have hg : ∀ (j : Nat), j < n → W.cell? (a.add j) = cs[j]? := fun j hj => mapM_some_get h j j (by simp [hj])
    have hsp : a.spot = none := by
      have h0 := hg 0 hn
      rw [List.getElem?_eq_getElem (by omega)] at h0
      cases hs : a.spot with
      | none => rfl
      | some s =>
        simp only [World.cell?, Addr.add, if_pos, hs] at h0
        split at h0
        · simp at h0
        · cases h0
    refine ⟨hsp, hl, fun j v hv => ?_⟩
    have hj : j < n := by rw [← hl]; exact (List.getElem?_eq_some_iff.1 hv).1
    have := hg j hj
    rw [hv] at this
    rw [addr_add' _ _ hsp] at this
    exact this
  · cases h

theorem bulk_part {H : Type} {d : DataW H} {l : List (DataW H)} (h : d ∈ l) : Rows.uptoBulk d ≤ Rows.uptoBulkAll l := by
  induction l with
  | nil => cases h
  | cons x r ih =>
    simp only [Rows.uptoBulkAll]
    cases List.mem_cons.1 h with
    | inl e => subst e; omega
    | inr e => have := ih e; omega
theorem bulk_terms {H : Type} : ∀ (l : List Tm) (ds : List (DataW H)), l.length = ds.length → (∀ (i : Nat) t d, l[i]? = some t → ds[i]? = some d → t.w ≤ Rows.uptoBulk d) → wL l ≤ Rows.uptoBulkAll ds
  | [], [], _, _ => by simp [Rows.uptoBulkAll]
  | t :: l, d :: ds, hl, h => by
    have h0 := h 0 t d rfl rfl
    have := bulk_terms l ds (by simpa using hl) (fun i t d ht hd => h (i + 1) t d (by simpa using ht) (by simpa using hd))
    simp only [wL_cons, Rows.uptoBulkAll]
    omega
theorem open_both (T : TermTys P tT tL tI tS) : ∀ (n : Nat),
    (∀ cs x, DataW.trod enc P W 0 (fun _ => true) true n tT cs = some x → ∃ t : Tm, CellsAre W cs t ∧ t.w ≤ Rows.uptoBulk x.1 ∧
      ∀ (W' : World) (sp : Nat → Bool), (∀ p ∈ x.2, W.sameAt W' p) → (∀ p ∈ x.2, sp p.block = true) → DataW.trod enc P W' 0 sp true n tT cs = some x) ∧
    (∀ cs x, DataW.trod enc P W 0 (fun _ => true) true n tL cs = some x → ∃ (l : List Tm) (v : Value), cs = [v] ∧ Rep (C0 W) M0 (.sl (rowsT l)) v ∧ wL l ≤ Rows.uptoBulk x.1 ∧
      ∀ (W' : World) (sp : Nat → Bool), (∀ p ∈ x.2, W.sameAt W' p) → (∀ p ∈ x.2, sp p.block = true) → DataW.trod enc P W' 0 sp true n tL cs = some x) := by
  intro n
  induction n with
  | zero => exact ⟨fun cs x h => by simp [DataW.trod] at h, fun cs x h => by simp [DataW.trod] at h⟩
  | succ n ih =>
    obtain ⟨ihT, ihL⟩ := ih
    refine ⟨fun cs x h => ?_, fun cs x h => ?_⟩
    · obtain ⟨f0, f1, f2, f3, hu, t0, o0, t1, o1, t2, o2, t3, o3⟩ := T.uT
      obtain ⟨xs, n', e, rfl, hl, hxl, hx⟩ := DataW.trod_struct hu h
      obtain rfl : n' = n := by omega
      rw [T.cT] at hl
      obtain ⟨c0, c1, c2, c3, rfl⟩ : ∃ c0 c1 c2 c3, cs = [c0, c1, c2, c3] := by
        match cs, hl with
        | [a, b, c, d], _ => exact ⟨a, b, c, d, rfl⟩
      obtain ⟨x0, x1, x2, x3, rfl⟩ : ∃ c0 c1 c2 c3, xs = [c0, c1, c2, c3] := by
        match xs, hxl with
        | [a, b, c, d], _ => exact ⟨a, b, c, d, rfl⟩
      have h0 := hx 0 f0 rfl
      have h1 := hx 1 f1 rfl
      have h2 := hx 2 f2 rfl
      have h3 := hx 3 f3 rfl
      rw [t0, o0, T.cI] at h0
      rw [t1, o1, T.cI] at h1
      rw [t2, o2, T.cS] at h2
      rw [t3, o3, T.cL] at h3
      simp at h0 h1 h2 h3
      obtain ⟨k, e0, rfl, w0⟩ := DataW.trod_int T.uI h0
      obtain ⟨m, e1, rfl, w1⟩ := DataW.trod_int T.uI h1
      obtain ⟨s, e2, rfl, w2⟩ := DataW.trod_string T.uS h2
      obtain ⟨l, v, e3, hr, hb, hback⟩ := ihL _ _ h3
      simp at e0 e1 e2 e3
      subst e0 e1 e2 e3
      refine ⟨.mk k m s.data.toList l, ⟨rfl, fun j a u ha hu => ?_⟩, ?_, fun W' sp hs hp => ?_⟩
      · rw [Tm.cells_mk] at ha
        match j, ha, hu with
        | 0, ha, hu => simp at ha hu; subst ha hu; exact ⟨rfl, .int _ _⟩
        | 1, ha, hu => simp at ha hu; subst ha hu; exact ⟨rfl, .int _ _⟩
        | 2, ha, hu =>
          simp at ha hu; subst ha hu
          refine ⟨rfl, ?_⟩
          have := Rep.str (C := C0 W) (μ := M0) s.data.toList
          simpa using this
        | 3, ha, hu => simp at ha hu; subst ha hu; exact ⟨rfl, hr⟩
        | (j + 4), ha, hu => simp at ha
      · simp only [List.map_cons, List.map_nil, Rows.uptoBulk, Rows.uptoBulkAll]
        rw [Tm.w_mk]
        omega
      · have hs3 : ∀ p ∈ x3.2, W.sameAt W' p := fun p hp => hs p (by simp [hp])
        have hp3 : ∀ p ∈ x3.2, sp p.block = true := fun p hpp => hp p (by simp [hpp])
        have b3 := hback W' sp hs3 hp3
        have b0 : DataW.trod enc P W' 0 sp true n' tI [Value.int .i64 k] = some (.lit (.int .i64 k), []) := by
          cases n' with
          | zero => simp [DataW.trod] at h0
          | succ q => simp [DataW.trod, T.uI, w0]
        have b1 : DataW.trod enc P W' 0 sp true n' tI [Value.int .i64 m] = some (.lit (.int .i64 m), []) := by
          cases n' with
          | zero => simp [DataW.trod] at h0
          | succ q => simp [DataW.trod, T.uI, w1]
        have b2 : DataW.trod enc P W' 0 sp true n' tS [Value.string s] = some (.lit (.string s.data.toList), []) := by
          cases n' with
          | zero => simp [DataW.trod] at h0
          | succ q => simp [DataW.trod, T.uS, w2]
        unfold DataW.trod
        rw [hu]
        simp [T.cT, t0, o0, t1, o1, t2, o2, t3, o3, T.cI, T.cS, T.cL, b0, b1, b2, b3]
    · rcases DataW.trod_slice T.uL h with ⟨rfl, rfl⟩ | ⟨a, len, cap, elems, rest, n', e, rfl, rfl, hb, hlc, hmx, hel, hg, hsp, _⟩
      · refine ⟨[], _, rfl, by rw [rowsT_nil]; exact .slNil, by simp, fun W' sp _ _ => ?_⟩
        simp [DataW.trod, T.uL]
      · obtain rfl : n' = n := by omega
        obtain ⟨hrl, hrg⟩ := hsp rfl
        have one : ∀ (i : Nat) (y : DataW H × List MemPlace), (W.cells? 0 (a.add (i * P.cellsOf tT)) (P.cellsOf tT)).bind (DataW.trod enc P W 0 (fun _ => true) true n' tT) = some y →
            ∃ cs', W.cells? 0 (a.add (i * 4)) 4 = some cs' ∧ DataW.trod enc P W 0 (fun _ => true) true n' tT cs' = some y := by
          intro i y hy
          rw [T.cT] at hy
          exact Option.bind_eq_some_iff.1 hy
        -- the terms
        have tms : ∃ f : Nat → Tm, ∀ (i : Nat) y, elems[i]? = some y → ∃ cs', W.cells? 0 (a.add (i * 4)) 4 = some cs' ∧ CellsAre W cs' (f i) ∧ (f i).w ≤ Rows.uptoBulk y.1 := by
          have : ∀ i : Nat, ∃ t : Tm, ∀ y, elems[i]? = some y → ∃ cs', W.cells? 0 (a.add (i * 4)) 4 = some cs' ∧ CellsAre W cs' t ∧ t.w ≤ Rows.uptoBulk y.1 := by
            intro i
            cases hy : elems[i]? with
            | none => exact ⟨default, fun y h => by cases h⟩
            | some y =>
              have hi : i < len := by rw [← hel]; exact (List.getElem?_eq_some_iff.1 hy).1
              obtain ⟨cs', h1, h2⟩ := one i y ((hg i hi).trans hy)
              obtain ⟨t, h3, h4, _⟩ := ihT _ _ h2
              exact ⟨t, fun y' hy' => by cases hy'; exact ⟨cs', h1, h3, h4⟩⟩
          exact ⟨fun i => Classical.choose (this i), fun i => Classical.choose_spec (this i)⟩
        obtain ⟨f, hf⟩ := tms
        have hget : ∀ (i : Nat) (row : List AV), (rowsT ((List.range len).map f))[i]? = some row → i < len ∧ row = (f i).cells := by
          intro i row hi
          have hil : i < len := by have := (List.getElem?_eq_some_iff.1 hi).1; simpa using this
          refine ⟨hil, ?_⟩
          rw [rowsT_get, List.getElem?_map, List.getElem?_range hil] at hi
          simpa using hi.symm
        have hcell : ∀ (i j : Nat) (row : List AV) x, (rowsT ((List.range len).map f))[i]? = some row → row[j]? = some x → a.spot = none ∧ x.isCell = true ∧ ∃ v, W.cell? ⟨a.block, a.off + i * 4 + j, none⟩ = some v ∧ Rep (C0 W) M0 x v := by
          intro i j row x hi hj
          obtain ⟨hil, rfl⟩ := hget i row hi
          obtain ⟨cs', h1, h2, _⟩ := hf i _ (List.getElem?_eq_getElem (by omega))
          obtain ⟨s1, s2, s3⟩ := cells?_some h1 (by omega)
          have hspot : a.spot = none := by
            obtain ⟨cs0, q1, _⟩ := hf 0 _ (List.getElem?_eq_getElem (by omega))
            have := (cells?_some q1 (by omega)).1
            simpa [Addr.add] using this
          have hjl : j < cs'.length := by
            rw [h2.1]
            have := (List.getElem?_eq_some_iff.1 hj).1
            cases hfi : f i with
            | mk k n s l => rw [hfi, Tm.cells_mk] at this; simpa using this
          have h4 := h2.2 j x _ hj (List.getElem?_eq_getElem hjl)
          refine ⟨hspot, h4.1, _, ?_, h4.2⟩
          have := s3 j _ (List.getElem?_eq_getElem hjl)
          rw [addr_add' _ _ hspot] at this
          exact this
        refine ⟨(List.range len).map f, _, rfl, ?_, ?_, fun W' sp hs hp => ?_⟩
        · have := Rep.sl (C := C0 W) (μ := M0) (rowsT ((List.range len).map f)) a cap 4 (fun i j => (W.cell? ⟨a.block, a.off + i * 4 + j, none⟩).getD undef) (fun hne => ?_) (fun i row hi => ?_) (fun i j row x hi hj => ?_) (fun i j row x hi hj => ?_) (fun i j row x hi hj => ?_) (by simpa using hlc) (rowsT_free _)
          · simpa using this
          · have hl0 : 0 < len := by
              rcases Nat.eq_zero_or_pos len with h0 | h0
              · subst h0; exact absurd (by simp) hne
              · exact h0
            obtain ⟨cs0, q1, _⟩ := hf 0 _ (List.getElem?_eq_getElem (by omega))
            have := (cells?_some q1 (by omega)).1
            simpa [Addr.add] using this
          · obtain ⟨_, rfl⟩ := hget i row hi
            cases hfi : f i with
            | mk k n s l => rw [Tm.cells_mk]; rfl
          · obtain ⟨_, _, v, h1, _⟩ := hcell i j row x hi hj
            show W.cell? _ = _
            rw [h1]; rfl
          · obtain ⟨_, _, v, h1, h2⟩ := hcell i j row x hi hj
            rw [h1]; exact h2
          · exact (hcell i j row x hi hj).2.1
        · simp only [Rows.uptoBulk]
          have := bulk_terms ((List.range len).map f) (elems.map (·.1)) (by simp [hel]) (fun i t d ht hd => by
            rw [List.getElem?_map] at ht hd
            obtain ⟨j, hj, rfl⟩ := Option.map_eq_some_iff.1 ht
            obtain ⟨y, hy, rfl⟩ := Option.map_eq_some_iff.1 hd
            have hil : i < len := by have := (List.getElem?_eq_some_iff.1 hj).1; simpa using this
            rw [List.getElem?_range hil] at hj
            cases hj
            obtain ⟨_, _, _, h4⟩ := hf i y hy
            exact h4)
          omega
        · have hrow : 0 < (elems.length + rest.length) → sp a.block = true := fun hpos => hp (.cell a.block (a.off + 0)) (by
            rw [List.mem_append]
            exact .inl (MemPlace.mem_row.2 ⟨0, Nat.mul_pos hpos (by rw [T.cT]; omega), rfl⟩))
          unfold DataW.trod at h ⊢
          rw [T.uL] at h ⊢
          simp only [if_true] at h ⊢
          rw [if_pos ⟨hb, hlc, hmx⟩] at h ⊢
          simp only [Option.map_eq_some_iff, Option.bind_eq_some_iff] at h ⊢
          obtain ⟨elems', he, rest', hr, hx⟩ := h
          have hlen : elems'.length = len := by simpa using mapM_some_length he
          have hrl' : rest'.length = cap - len := by simpa using mapM_some_length hr
          simp only [Prod.mk.injEq, DataW.slice.injEq] at hx
          have one' : ∀ (i : Nat) (y : DataW H × List MemPlace), i < elems'.length + rest'.length → y ∈ elems' ++ rest' →
              (W.cells? 0 (a.add (i * P.cellsOf tT)) (P.cellsOf tT)).bind (DataW.trod enc P W 0 (fun _ => true) true n' tT) = some y → (W'.cells? 0 (a.add (i * P.cellsOf tT)) (P.cellsOf tT)).bind (DataW.trod enc P W' 0 sp true n' tT) = some y := by
            intro i y hi hy hv
            simp only [Option.bind_eq_some_iff] at hv ⊢
            obtain ⟨cs', hc', hy'⟩ := hv
            obtain ⟨_, _, _, hbk⟩ := ihT _ _ hy'
            refine ⟨cs', World.cells?_carry hc' (fun p hpp => hs p ?_), hbk W' sp (fun p hpp => hs p ?_) (fun p hpp => hp p ?_)⟩
            · rw [← hx.2]
              obtain ⟨j, hj, rfl⟩ := MemPlace.mem_row.1 hpp
              simp only [List.mem_append]
              left
              refine MemPlace.mem_row.2 ⟨i * P.cellsOf tT + j, ?_, ?_⟩
              · calc i * P.cellsOf tT + j < i * P.cellsOf tT + P.cellsOf tT := by omega
                  _ = (i + 1) * P.cellsOf tT := by rw [Nat.add_mul, Nat.one_mul]
                  _ ≤ (elems'.length + rest'.length) * P.cellsOf tT := Nat.mul_le_mul_right _ hi
              · unfold Addr.add
                split
                · rename_i h0
                  simp [h0]
                · simp [Nat.add_assoc]
            · rw [← hx.2]
              simp only [List.mem_append, List.mem_flatMap]
              right
              exact ⟨y, by simpa using hy, hpp⟩
            · rw [← hx.2]
              simp only [List.mem_append, List.mem_flatMap]
              right
              exact ⟨y, by simpa using hy, hpp⟩
          refine ⟨elems', mapM_carry he (fun i y hi hy => one' i y (by have : i < len := (by simpa using hi); omega) (by simp [hy])), rest', ?_, by simp only [Prod.mk.injEq, DataW.slice.injEq]; exact hx⟩
          by_cases h0 : 0 < elems.length + rest.length
          · rw [if_pos (hrow h0)]
            exact mapM_carry hr (fun j y hj hy => one' (len + j) y (by have : j < cap - len := (by simpa using hj); omega) (by simp [hy]))
          · have hc0 : cap - len = 0 := by omega
            rw [hc0] at hr ⊢
            simp at hr
            subst hr
            split <;> rfl
end
end Go.Proofs.YtonmmmgffeoiiaaGreat
end

section
namespace Go.Proofs.YtonmmmgffeoiiaaGreat
open Go.Av Go.ChangeShapes Go.WideShapes Go.ChangeAt Go.RowKit
set_option maxRecDepth 100000

theorem own_knob : ownKnob Tryz.prog.godebug = none := by kernel_rfl

theorem term_tys : TermTys Tryz.prog 24 22 3 9 where
  uT := ⟨_, _, _, _, Tryz.underlying24, rfl, rfl, rfl, rfl, rfl, rfl, rfl, rfl⟩
  uL := Tryz.underlying22
  uI := Tryz.underlying3
  uS := Tryz.underlying9
  cT := by kernel_rfl
  cL := by kernel_rfl
  cI := by kernel_rfl
  cS := by kernel_rfl
theorem cfg_ok : CfgOk cfg where
  ty := ⟨fun t ti h => BT.all_look tys_ok h⟩
  mixed := mixed_ok
  named := fun f fn _ h => by
    have h1 := List.all_eq_true.1 names_ok fn (by
      rw [← Array.getElem?_toList] at h
      exact List.mem_of_getElem? h)
    simpa using h1
  ext := fun f s h args H r H' hr C μ w vs ha hw => by
    have h : extLook f extTab = some s := h
    unfold extTab at h
    rw [extLook] at h
    split at h
    · rename_i e
      have e := Nat.eq_of_beq_eq_true e
      subst e
      cases h
      exact extCmp_sound (P := Tryz.prog) Tryz.func179 (by rfl) (by rfl) (by kernel_rfl) (by kernel_rfl) hr ha hw
    · cases h

theorem row_calls {f : FuncId} {args : List AV} {vs : Array Value} {W : World} (hx : cfg.ext f = none) (he : EVs (EV cfg) f args = some (.bool true)) (ha : FrRep (C0 W) M0 args vs) :
    Calls Tryz.prog f vs W fun e W' => e = .returned (.bool true) ∧ (∀ b, b < W.heap.size → W'.heap[b]? = W.heap[b]?) ∧ W.heap.size ≤ W'.heap.size ∧ W'.os = W.os ∧ W'.output = W.output := by
  unfold EVs at he
  obtain ⟨q, h1, h2⟩ := Option.map_eq_some_iff.1 he
  have := EV_calls cfg_ok hx (r := q.1) (H' := q.2) h1 ha (wld0 W)
  refine this.mono fun e W' ⟨v, hv, C', μ', p1, p2, p3⟩ => ?_
  rw [h2] at p1
  cases p1
  refine ⟨hv, fun b hb => (p3.fr b hb not_live_nil).1, p3.size, p3.os, p3.output⟩

section
variable {H : Type} {enc : TypeId × Value → H} {P : Program} {W W' : World}

theorem post_same {f : Func} {s : ChangeSpec} {apart fresh handsOn again : Bool} {args : Array Value} {v : Value} {ds gs : List (DataW H)} {before pa pv : List MemPlace}
    (hW : DataW.Whole enc P f.params.toList s.vars apart W args.toList ds gs before)
    (hres : ∀ (b : Nat) (sp : Nat → Bool) (hd : Bool), DataW.TrodAll enc P W' b sp hd f.resultTypes.toList (v.resultList f.resultTypes.size) (s.fn H (ds ++ gs)).results [])
    (hargs : ∀ sp : Nat → Bool, (∀ p ∈ before, sp p.block = true) → DataW.TrodAll enc P W' 0 sp true f.params.toList args.toList (s.fn H (ds ++ gs)).args pa)
    (hvars : ∀ sp : Nat → Bool, (∀ p ∈ before, sp p.block = true) → DataW.TrodVars enc P W' sp s.vars (s.fn H (ds ++ gs)).vars pv)
    (hps : before = pa ++ pv) (hk : W.keptBut W' (· ∈ before)) (hfz : ∀ b o, b < W.heap.size → W'.frozen? ⟨b, o, none⟩ = W.frozen? ⟨b, o, none⟩)
    (hok : ∀ (j : Nat) (t : TypeId) (r : Value), f.resultTypes[j]? = some t → (v.resultList f.resultTypes.size)[j]? = some r → Value.okWide P W' .any 0 t r) :
    s.post enc P f apart fresh handsOn again W args v W' := by
  have hlt := hW.lt
  have hold : ∀ p ∈ before, (fun b => decide (b < W.heap.size)) p.block = true := fun p hp => by simpa using hlt p hp
  refine ⟨ds, gs, before, [], pa, pv, hW, hres _ _ _, hargs _ hold, hvars _ hold, World.keptBut_mono (fun p hp => ⟨hp, ?_⟩) hk, fun _ => ?_⟩
  · rw [hps, List.mem_append] at hp
    exact Or.inr hp
  · obtain ⟨_, _, _, _, _, hz, hn⟩ := hW
    refine ⟨hok, _, _, ([] ++ pa) ++ pv, ⟨[] ++ pa, pv, trodAll_append (hargs _ (fun _ _ => rfl)) (hres _ _ _), hvars _ (fun _ _ => rfl), rfl, ?_, ?_⟩, ?_⟩
    · intro b off hp
      have hp' : MemPlace.cell b off ∈ before := by rw [hps]; simpa using hp
      rw [hfz b off (hlt _ hp')]
      exact hz b off hp'
    · intro ha
      have := hn ha
      rw [hps] at this
      simpa using this
    · intro p hp _
      rw [hps]
      simpa using hp

theorem kept_of_heap (h : ∀ b, b < W.heap.size → W'.heap[b]? = W.heap[b]?) (ho : W'.os = W.os) (hu : W'.output = W.output) (may : MemPlace → Prop) : W.keptBut W' may := by
  refine ⟨ho, hu, fun i hi => ?_⟩
  rw [h i hi]
  cases W.heap[i]? with
  | none => rfl
  | some o => cases o <;> simp

theorem same_of_heap (h : ∀ b, b < W.heap.size → W'.heap[b]? = W.heap[b]?) {p : MemPlace} (hp : p.block < W.heap.size) : W.sameAt W' p := by
  cases p with
  | cell b o => simp only [World.sameAt, World.cell?]; rw [h b hp]
  | map b => exact h b hp

theorem frozen_of_heap (h : ∀ b, b < W.heap.size → W'.heap[b]? = W.heap[b]?) (b o : Nat) (hb : b < W.heap.size) : W'.frozen? ⟨b, o, none⟩ = W.frozen? ⟨b, o, none⟩ := by
  simp only [World.frozen?]; rw [h b hb]

structure Opened (enc : TypeId × Value → H) (P : Program) (W : World) (t : TypeId) (v : Value) (d : DataW H) (ps : List MemPlace) (a : AV) : Prop where
  rep : Rep (C0 W) M0 a v
  back : ∀ (W' : World) (sp : Nat → Bool), (∀ p ∈ ps, W.sameAt W' p) → (∀ p ∈ ps, sp p.block = true) → DataW.Trod enc P W' 0 sp true t v d ps

theorem open_term {tT tL tI tS : TypeId} (T : TermTys P tT tL tI tS) {r : Reach} {b0 : Nat} {v : Value} {d : DataW H} {ps : List MemPlace} (hval : Value.okWide P W r b0 tT v) (hd : DataW.Trod enc P W 0 (fun _ => true) true tT v d ps) :
    ∃ t : Tm, Opened enc P W tT v d ps t.av ∧ t.w ≤ Rows.uptoBulk d := by
  obtain ⟨f0, f1, f2, f3, hu, _⟩ := T.uT
  obtain ⟨cs, rfl, hsz⟩ := okWide_struct hu hval
  obtain ⟨n, hn⟩ := hd
  obtain ⟨t, h1, h2, h3⟩ := (open_both T n).1 _ _ hn
  refine ⟨t, ⟨?_, fun W' sp hs hp => ⟨n, h3 W' sp hs hp⟩⟩, h2⟩
  have := Rep.agg (C := C0 W) (μ := M0) t.cells cs.toList (by
    have := h1.1
    cases t with
    | mk k n s l => rw [Tm.cells_mk]; simpa [Value.cells] using this.symm) (fun i a v ha hv => (h1.2 i a v ha (by simpa [Value.cells] using hv)).2)
  simpa [Tm.av] using this

end

theorem rep_two {C : Claims} {a b : AV} {x y : Value} (h1 : Rep C M0 a x) (h2 : Rep C M0 b y) : FrRep C M0 [a, b] #[x, y] := ⟨rfl, fun i c v hc hv => by
  match i, hc, hv with
  | 0, hc, hv => simp at hc hv; subst hc hv; exact h1
  | 1, hc, hv => simp at hc hv; subst hc hv; exact h2
  | (i + 2), hc, hv => simp at hc⟩
end Go.Proofs.YtonmmmgffeoiiaaGreat
end

section
namespace Go.Av
mutual
def AV.wt : AV → Nat
  | .str s => s.length + 1
  | .sl rows => wtR rows + 1
  | _ => 1
def wtL : List AV → Nat
  | [] => 0
  | a :: l => a.wt + wtL l
def wtR : List (List AV) → Nat
  | [] => 0
  | a :: l => wtL a + wtR l
end
@[simp] theorem wtL_nil : wtL [] = 0 := by rw [wtL]
@[simp] theorem wtL_cons (a : AV) (l : List AV) : wtL (a :: l) = a.wt + wtL l := by rw [wtL]
@[simp] theorem wtR_nil : wtR [] = 0 := by rw [wtR]
@[simp] theorem wtR_cons (a : List AV) (l : List (List AV)) : wtR (a :: l) = wtL a + wtR l := by rw [wtR]
@[simp] theorem wt_int (k : IntKind) (n : Int) : (AV.int k n).wt = 1 := by rw [AV.wt] <;> simp
@[simp] theorem wt_bool (b : Bool) : (AV.bool b).wt = 1 := by rw [AV.wt] <;> simp
@[simp] theorem wt_str (s : List UInt8) : (AV.str s).wt = s.length + 1 := by rw [AV.wt]
@[simp] theorem wt_sl (r : List (List AV)) : (AV.sl r).wt = wtR r + 1 := by rw [AV.wt]
theorem wtL_append (a b : List AV) : wtL (a ++ b) = wtL a + wtL b := by
  induction a with
  | nil => simp
  | cons x l ih => simp [ih]; omega
end Go.Av
namespace Go.Proofs.YtonmmmgffeoiiaaGreat
open Go.Av Go.WideShapes
def tiled (P : Program) : Nat → List Field → Option Nat
  | off, [] => some off
  | off, f :: fs => if f.offset = off then tiled P (off + P.cellsOf f.type) fs else none
def goodTy (P : Program) (ts : List TypeId) (t : TypeId) : Bool :=
  match P.underlying t with
  | some (.int _) | some .bool | some .string => decide (P.cellsOf t = 1)
  | some (.struct fs) => decide (tiled P 0 fs.toList = some (P.cellsOf t)) && fs.toList.all (fun f => decide (f.type ∈ ts))
  | some (.slice e) => decide (P.cellsOf t = 1) && (decide (e ∈ ts) && decide (0 < P.cellsOf e))
  | _ => false
def Lay (P : Program) : Nat → TypeId → List AV → Prop
  | 0, _, _ => False
  | n + 1, t, cz =>
    match P.underlying t with
    | some (.int k) => ∃ m, cz = [.int k m] ∧ (Lit.int k m).wf = true
    | some .bool => ∃ b, cz = [.bool b]
    | some .string => ∃ s, cz = [.str s]
    | some (.struct fs) => cz.length = P.cellsOf t ∧ ∀ (i : Nat) f, fs[i]? = some f → Lay P n f.type ((cz.drop f.offset).take (P.cellsOf f.type))
    | some (.slice e) => ∃ rows, cz = [.sl rows] ∧ ∀ row ∈ rows, row.length = P.cellsOf e ∧ Lay P n e row
    | _ => False
def CellsR (W : World) (cs : List Value) (cz : List AV) : Prop := cz.length = cs.length ∧ ∀ (j : Nat) a v, cz[j]? = some a → cs[j]? = some v → a.isCell = true ∧ Rep (C0 W) M0 a v
theorem CellsR.nil {W : World} : CellsR W [] [] := ⟨rfl, fun j a v h => by simp at h⟩
theorem CellsR.one {W : World} {a : AV} {v : Value} (h1 : a.isCell = true) (h2 : Rep (C0 W) M0 a v) : CellsR W [v] [a] := ⟨rfl, fun j a' v' ha hv => by
  match j, ha, hv with
  | 0, ha, hv => simp at ha hv; subst ha hv; exact ⟨h1, h2⟩
  | j + 1, ha, hv => simp at ha⟩
theorem CellsR.append {W : World} {cs cs' : List Value} {cz cz' : List AV} (h : CellsR W cs cz) (h' : CellsR W cs' cz') : CellsR W (cs ++ cs') (cz ++ cz') := by
  refine ⟨by simp [h.1, h'.1], fun j a v ha hv => ?_⟩
  by_cases hj : j < cz.length
  · rw [List.getElem?_append_left hj] at ha
    rw [List.getElem?_append_left (by rw [← h.1]; exact hj)] at hv
    exact h.2 j a v ha hv
  · rw [List.getElem?_append_right (by omega)] at ha
    rw [List.getElem?_append_right (by rw [← h.1]; omega), ← h.1] at hv
    exact h'.2 _ a v ha hv
section
variable {H : Type} {enc : TypeId × Value → H} {P : Program} {W : World}
def Opens (enc : TypeId × Value → H) (P : Program) (W : World) (n : Nat) (t : TypeId) : Prop :=
  ∀ cs x, DataW.trod enc P W 0 (fun _ => true) true n t cs = some x → ∃ cz, CellsR W cs cz ∧ cs.length = P.cellsOf t ∧ Lay P n t cz ∧ wtL cz ≤ Rows.uptoBulk x.1 ∧ refsLtL 0 cz = true ∧
    ∀ (W' : World) (sp : Nat → Bool), (∀ p ∈ x.2, W.sameAt W' p) → (∀ p ∈ x.2, sp p.block = true) → DataW.trod enc P W' 0 sp true n t cs = some x
theorem open_fields {n : Nat} {ts : List TypeId} (ih : ∀ t ∈ ts, Opens enc P W n t) {cs : List Value} : ∀ (fs : List Field) (off : Nat), tiled P off fs = some cs.length → (∀ f ∈ fs, f.type ∈ ts) →
    ∀ xs, (fs.mapM fun f => DataW.trod enc P W 0 (fun _ => true) true n f.type ((cs.drop f.offset).take (P.cellsOf f.type))) = some xs →
    ∃ cz, CellsR W (cs.drop off) cz ∧ (∀ f ∈ fs, off ≤ f.offset ∧ Lay P n f.type ((cz.drop (f.offset - off)).take (P.cellsOf f.type))) ∧ wtL cz ≤ Rows.uptoBulkAll (xs.map (·.1)) ∧ refsLtL 0 cz = true ∧
      ∀ (W' : World) (sp : Nat → Bool), (∀ p ∈ xs.flatMap (·.2), W.sameAt W' p) → (∀ p ∈ xs.flatMap (·.2), sp p.block = true) →
        (fs.mapM fun f => DataW.trod enc P W' 0 sp true n f.type ((cs.drop f.offset).take (P.cellsOf f.type))) = some xs := by
  intro fs
  induction fs with
  | nil =>
    intro off ht _ xs hx
    rw [tiled] at ht
    cases ht
    simp at hx
    subst hx
    refine ⟨[], ?_, fun f hf => by simp at hf, by simp, rfl, fun W' sp _ _ => by simp⟩
    rw [List.drop_length]; exact CellsR.nil
  | cons f fs ihf =>
    intro off ht hin xs hx
    rw [tiled] at ht
    split at ht
    · rename_i ho
      rw [List.mapM_cons] at hx
      obtain ⟨x, h1, hx⟩ := Option.bind_eq_some_iff.1 hx
      obtain ⟨ys, h2, hx⟩ := Option.bind_eq_some_iff.1 hx
      cases hx
      obtain ⟨a1, c1, l1, y1, w1, r1, b1⟩ := ih f.type (hin f (by simp)) _ _ h1
      obtain ⟨a2, c2, y2, w2, r2, b2⟩ := ihf (off + P.cellsOf f.type) ht (fun g hg => hin g (by simp [hg])) ys h2
      have hlen : a1.length = P.cellsOf f.type := by rw [c1.1, l1]
      refine ⟨a1 ++ a2, ?_, fun g hg => ?_, ?_, refsLtL_app r1 r2, fun W' sp hs hp => ?_⟩
      · have := c1.append c2
        rw [ho, ← List.drop_drop, List.take_append_drop] at this
        exact this
      · rcases List.mem_cons.1 hg with rfl | hg
        · refine ⟨by omega, ?_⟩
          rw [ho, Nat.sub_self, List.drop_zero, ← hlen, List.take_append_of_le_length (Nat.le_refl _), List.take_length]
          exact y1
        · obtain ⟨g1, g2⟩ := y2 g hg
          refine ⟨by omega, ?_⟩
          have : List.drop (g.offset - off) (a1 ++ a2) = List.drop (g.offset - (off + P.cellsOf f.type)) a2 := by
            have e : g.offset - off = a1.length + (g.offset - (off + P.cellsOf f.type)) := by omega
            rw [e, ← List.drop_drop, List.drop_left]
          rw [this]
          exact g2
      · rw [wtL_append]
        simp only [List.map_cons, Rows.uptoBulkAll]
        omega
      · rw [List.mapM_cons, b1 W' sp (fun p hpp => hs p (by simp [hpp])) (fun p hpp => hp p (by simp [hpp]))]
        have b3 := b2 W' sp (fun p hpp => hs p (by rw [List.flatMap_cons]; exact List.mem_append_right _ hpp)) (fun p hpp => hp p (by rw [List.flatMap_cons]; exact List.mem_append_right _ hpp))
        show Option.bind _ _ = _
        rw [Option.bind_some]
        show Option.bind _ _ = _
        rw [b3]; rfl
    · cases ht
theorem bulk_rows {e : Nat} : ∀ (rows : List (List AV)) (ds : List (DataW H)), rows.length = ds.length → (∀ (i : Nat) row d, rows[i]? = some row → ds[i]? = some d → wtL row ≤ Rows.uptoBulk d) → wtR rows ≤ Rows.uptoBulkAll ds
  | [], [], _, _ => by simp [Rows.uptoBulkAll]
  | t :: l, d :: ds, hl, h => by
    have h0 := h 0 t d rfl rfl
    have := bulk_rows (e := e) l ds (by simpa using hl) (fun i t d ht hd => h (i + 1) t d (by simpa using ht) (by simpa using hd))
    simp only [wtR_cons, Rows.uptoBulkAll]
    omega
theorem open_gen {ts : List TypeId} (hts : ∀ t ∈ ts, goodTy P ts t = true) : ∀ (n : Nat), ∀ t ∈ ts, Opens enc P W n t := by
  intro n
  induction n with
  | zero => intro t _ cs x h; simp [DataW.trod] at h
  | succ n ih =>
    intro t ht cs x h
    have hg := hts t ht
    unfold goodTy at hg
    split at hg
    · rename_i k hu
      obtain ⟨m, rfl, rfl, hw⟩ := DataW.trod_int hu h
      refine ⟨[.int k m], CellsR.one rfl (.int _ _), (of_decide_eq_true hg).symm, by unfold Lay; rw [hu]; exact ⟨m, rfl, hw⟩, by simp [Rows.uptoBulk], rfl, fun W' sp _ _ => ?_⟩
      simp [DataW.trod, hu, hw]
    · rename_i hu
      obtain ⟨b, rfl, rfl⟩ := DataW.trod_bool hu h
      refine ⟨[.bool b], CellsR.one rfl (.bool _), (of_decide_eq_true hg).symm, by unfold Lay; rw [hu]; exact ⟨b, rfl⟩, by simp [Rows.uptoBulk], rfl, fun W' sp _ _ => ?_⟩
      simp [DataW.trod, hu]
    · rename_i hu
      obtain ⟨s, rfl, rfl, hw⟩ := DataW.trod_string hu h
      refine ⟨[.str s.data.toList], CellsR.one rfl ?_, (of_decide_eq_true hg).symm, by unfold Lay; rw [hu]; exact ⟨_, rfl⟩, by simp [Rows.uptoBulk], rfl, fun W' sp _ _ => ?_⟩
      · have := Rep.str (C := C0 W) (μ := M0) s.data.toList
        simpa using this
      · simp [DataW.trod, hu, hw]
    · rename_i fs hu
      rw [Bool.and_eq_true, decide_eq_true_eq, List.all_eq_true] at hg
      have h' := h
      unfold DataW.trod at h'
      rw [hu] at h'
      simp only [] at h'
      split at h'
      · rename_i hl
        obtain ⟨xs, hx, rfl⟩ := Option.map_eq_some_iff.1 h'
        rw [← hl] at hg
        obtain ⟨cz, c, y, w, r, b⟩ := open_fields ih fs.toList 0 hg.1 (fun f hf => of_decide_eq_true (hg.2 f hf)) xs hx
        rw [List.drop_zero] at c
        refine ⟨cz, c, hl, ?_, ?_, r, fun W' sp hs hp => ?_⟩
        · unfold Lay
          rw [hu]
          refine ⟨by rw [c.1, hl], fun i f hf => ?_⟩
          have := y f (by rw [← Array.getElem?_toList] at hf; exact List.mem_of_getElem? hf)
          rw [Nat.sub_zero] at this
          exact this.2
        · simp only [Rows.uptoBulk]; omega
        · unfold DataW.trod
          rw [hu]
          simp only []
          rw [if_pos hl, b W' sp hs hp]; rfl
      · cases h'
    · rename_i e hu
      rw [Bool.and_eq_true, Bool.and_eq_true, decide_eq_true_eq, decide_eq_true_eq, decide_eq_true_eq] at hg
      obtain ⟨hc1, he, hpos⟩ := hg
      rcases DataW.trod_slice hu h with ⟨rfl, rfl⟩ | ⟨a, len, cap, elems, rest, n', e', rfl, rfl, hb, hlc, hmx, hel, hg, hsp, _⟩
      · refine ⟨[.sl []], CellsR.one rfl .slNil, hc1.symm, by unfold Lay; rw [hu]; exact ⟨[], rfl, fun r hr => by simp at hr⟩, by simp [Rows.uptoBulk], rfl, fun W' sp _ _ => ?_⟩
        simp [DataW.trod, hu]
      · obtain rfl : n' = n := by omega
        obtain ⟨hrl, hrg⟩ := hsp rfl
        have ihe := ih e he
        have tms : ∃ f : Nat → List AV, ∀ (i : Nat) y, elems[i]? = some y → ∃ cs', W.cells? 0 (a.add (i * P.cellsOf e)) (P.cellsOf e) = some cs' ∧ CellsR W cs' (f i) ∧ cs'.length = P.cellsOf e ∧ Lay P n' e (f i) ∧ wtL (f i) ≤ Rows.uptoBulk y.1 ∧ refsLtL 0 (f i) = true := by
          have : ∀ i : Nat, ∃ t : List AV, ∀ y, elems[i]? = some y → ∃ cs', W.cells? 0 (a.add (i * P.cellsOf e)) (P.cellsOf e) = some cs' ∧ CellsR W cs' t ∧ cs'.length = P.cellsOf e ∧ Lay P n' e t ∧ wtL t ≤ Rows.uptoBulk y.1 ∧ refsLtL 0 t = true := by
            intro i
            cases hy : elems[i]? with
            | none => exact ⟨default, fun y h => by cases h⟩
            | some y =>
              have hi : i < len := by rw [← hel]; exact (List.getElem?_eq_some_iff.1 hy).1
              obtain ⟨cs', h1, h2⟩ := Option.bind_eq_some_iff.1 ((hg i hi).trans hy)
              obtain ⟨t, h3, h4, h5, h6, h7, _⟩ := ihe _ _ h2
              exact ⟨t, fun y' hy' => by cases hy'; exact ⟨cs', h1, h3, h4, h5, h6, h7⟩⟩
          exact ⟨fun i => Classical.choose (this i), fun i => Classical.choose_spec (this i)⟩
        obtain ⟨f, hf⟩ := tms
        have hget : ∀ (i : Nat) (row : List AV), ((List.range len).map f)[i]? = some row → i < len ∧ row = f i := by
          intro i row hi
          have hil : i < len := by have := (List.getElem?_eq_some_iff.1 hi).1; simpa using this
          refine ⟨hil, ?_⟩
          rw [List.getElem?_map, List.getElem?_range hil] at hi
          simpa using hi.symm
        have hrow : ∀ (i : Nat) (row : List AV), ((List.range len).map f)[i]? = some row → row.length = P.cellsOf e ∧ Lay P n' e row ∧ refsLtL 0 row = true := by
          intro i row hi
          obtain ⟨hil, rfl⟩ := hget i row hi
          obtain ⟨cs', h1, h2, h3, h4, h5, h6⟩ := hf i _ (List.getElem?_eq_getElem (by omega))
          exact ⟨by rw [h2.1, h3], h4, h6⟩
        have hspot : ((List.range len).map f) ≠ [] → a.spot = none := by
          intro hne
          have hl0 : 0 < len := by
            rcases Nat.eq_zero_or_pos len with h0 | h0
            · subst h0; exact absurd (by simp) hne
            · exact h0
          obtain ⟨cs0, q1, _⟩ := hf 0 _ (List.getElem?_eq_getElem (by omega))
          have := (cells?_some q1 (by omega)).1
          simpa [Addr.add] using this
        have hcell : ∀ (i j : Nat) (row : List AV) x, ((List.range len).map f)[i]? = some row → row[j]? = some x → x.isCell = true ∧ ∃ v, W.cell? ⟨a.block, a.off + i * P.cellsOf e + j, none⟩ = some v ∧ Rep (C0 W) M0 x v := by
          intro i j row x hi hj
          have hs := hspot (by intro h0; rw [h0] at hi; simp at hi)
          obtain ⟨hil, rfl⟩ := hget i row hi
          obtain ⟨cs', h1, h2, h3, _⟩ := hf i _ (List.getElem?_eq_getElem (by omega))
          obtain ⟨s1, s2, s3⟩ := cells?_some h1 (by omega)
          have hjl : j < cs'.length := by
            rw [← h2.1]
            exact (List.getElem?_eq_some_iff.1 hj).1
          have h4 := h2.2 j x _ hj (List.getElem?_eq_getElem hjl)
          refine ⟨h4.1, _, ?_, h4.2⟩
          have := s3 j _ (List.getElem?_eq_getElem hjl)
          rw [addr_add' _ _ hs] at this
          exact this
        have hfree : refsLtR 0 ((List.range len).map f) = true := by
          have : ∀ l : List (List AV), (∀ r ∈ l, refsLtL 0 r = true) → refsLtR 0 l = true := by
            intro l
            induction l with
            | nil => intro _; rfl
            | cons r l ih => intro h; rw [refsLtR, h r (by simp), ih fun q hq => h q (by simp [hq])]; rfl
          refine this _ fun r hr => ?_
          obtain ⟨i, hi⟩ := List.getElem?_of_mem hr
          exact (hrow i r hi).2.2
        refine ⟨[.sl ((List.range len).map f)], CellsR.one rfl ?_, hc1.symm, ?_, ?_, rfl, fun W' sp hs hp => ?_⟩
        · have := Rep.sl (C := C0 W) (μ := M0) ((List.range len).map f) a cap (P.cellsOf e) (fun i j => (W.cell? ⟨a.block, a.off + i * P.cellsOf e + j, none⟩).getD undef) hspot (fun i row hi => (hrow i row hi).1) (fun i j row x hi hj => ?_) (fun i j row x hi hj => ?_) (fun i j row x hi hj => ?_) (by simpa using hlc) hfree
          · simpa using this
          · obtain ⟨_, v, h1, _⟩ := hcell i j row x hi hj
            show W.cell? _ = _
            rw [h1]; rfl
          · obtain ⟨_, v, h1, h2⟩ := hcell i j row x hi hj
            rw [h1]; exact h2
          · exact (hcell i j row x hi hj).1
        · unfold Lay
          rw [hu]
          refine ⟨_, rfl, fun row hr => ?_⟩
          obtain ⟨i, hi⟩ := List.getElem?_of_mem hr
          exact ⟨(hrow i row hi).1, (hrow i row hi).2.1⟩
        · simp only [Rows.uptoBulk, wtL_cons, wtL_nil, wt_sl]
          have := bulk_rows (e := 0) ((List.range len).map f) (elems.map (·.1)) (by simp [hel]) (fun i t d ht hd => by
            rw [List.getElem?_map] at ht hd
            obtain ⟨j, hj, rfl⟩ := Option.map_eq_some_iff.1 ht
            obtain ⟨y, hy, rfl⟩ := Option.map_eq_some_iff.1 hd
            have hil : i < len := by have := (List.getElem?_eq_some_iff.1 hj).1; simpa using this
            rw [List.getElem?_range hil] at hj
            cases hj
            obtain ⟨_, _, _, _, _, h5, _⟩ := hf i y hy
            exact h5)
          omega
        · have hrow' : 0 < (elems.length + rest.length) → sp a.block = true := fun hps => hp (.cell a.block (a.off + 0)) (by
            rw [List.mem_append]
            exact .inl (MemPlace.mem_row.2 ⟨0, Nat.mul_pos hps hpos, rfl⟩))
          unfold DataW.trod at h ⊢
          rw [hu] at h ⊢
          simp only [if_true] at h ⊢
          rw [if_pos ⟨hb, hlc, hmx⟩] at h ⊢
          simp only [Option.map_eq_some_iff, Option.bind_eq_some_iff] at h ⊢
          obtain ⟨elems', he, rest', hr, hx⟩ := h
          have hlen : elems'.length = len := by simpa using mapM_some_length he
          have hrl' : rest'.length = cap - len := by simpa using mapM_some_length hr
          simp only [Prod.mk.injEq, DataW.slice.injEq] at hx
          have one' : ∀ (i : Nat) (y : DataW H × List MemPlace), i < elems'.length + rest'.length → y ∈ elems' ++ rest' →
              (W.cells? 0 (a.add (i * P.cellsOf e)) (P.cellsOf e)).bind (DataW.trod enc P W 0 (fun _ => true) true n' e) = some y → (W'.cells? 0 (a.add (i * P.cellsOf e)) (P.cellsOf e)).bind (DataW.trod enc P W' 0 sp true n' e) = some y := by
            intro i y hi hy hv
            simp only [Option.bind_eq_some_iff] at hv ⊢
            obtain ⟨cs', hc', hy'⟩ := hv
            obtain ⟨_, _, _, _, _, _, hbk⟩ := ihe _ _ hy'
            refine ⟨cs', World.cells?_carry hc' (fun p hpp => hs p ?_), hbk W' sp (fun p hpp => hs p ?_) (fun p hpp => hp p ?_)⟩
            · rw [← hx.2]
              obtain ⟨j, hj, rfl⟩ := MemPlace.mem_row.1 hpp
              simp only [List.mem_append]
              left
              refine MemPlace.mem_row.2 ⟨i * P.cellsOf e + j, ?_, ?_⟩
              · calc i * P.cellsOf e + j < i * P.cellsOf e + P.cellsOf e := by omega
                  _ = (i + 1) * P.cellsOf e := by rw [Nat.add_mul, Nat.one_mul]
                  _ ≤ (elems'.length + rest'.length) * P.cellsOf e := Nat.mul_le_mul_right _ hi
              · unfold Addr.add
                split
                · rename_i h0
                  simp [h0]
                · simp [Nat.add_assoc]
            · rw [← hx.2]
              simp only [List.mem_append, List.mem_flatMap]
              right
              exact ⟨y, by simpa using hy, hpp⟩
            · rw [← hx.2]
              simp only [List.mem_append, List.mem_flatMap]
              right
              exact ⟨y, by simpa using hy, hpp⟩
          refine ⟨elems', mapM_carry he (fun i y hi hy => one' i y (by have : i < len := (by simpa using hi); omega) (by simp [hy])), rest', ?_, by simp only [Prod.mk.injEq, DataW.slice.injEq]; exact hx⟩
          by_cases h0 : 0 < elems.length + rest.length
          · rw [if_pos (hrow' h0)]
            exact mapM_carry hr (fun j y hj hy => one' (len + j) y (by have : j < cap - len := (by simpa using hj); omega) (by simp [hy]))
          · have hc0 : cap - len = 0 := by omega
            rw [hc0] at hr ⊢
            simp at hr
            subst hr
            split <;> rfl
    · cases hg
theorem open_slice {ts : List TypeId} (hts : ∀ t ∈ ts, goodTy P ts t = true) {t e : TypeId} (ht : t ∈ ts) (hu : P.underlying t = some (.slice e)) {r : Reach} {b0 : Nat} {v : Value} {d : DataW H} {ps : List MemPlace}
    (hval : Value.okWide P W r b0 t v) (hd : DataW.Trod enc P W 0 (fun _ => true) true t v d ps) :
    ∃ (rows : List (List AV)) (n : Nat), Opened enc P W t v d ps (.sl rows) ∧ (∀ row ∈ rows, row.length = P.cellsOf e ∧ Lay P n e row) ∧ wtR rows < Rows.uptoBulk d := by
  obtain ⟨a, len, cap, rfl⟩ := okWide_slice hu hval
  obtain ⟨n, hn⟩ := hd
  obtain ⟨cz, h1, h2, h3, h4, h5, h6⟩ := open_gen hts n t ht _ _ hn
  cases n with
  | zero => exact absurd h3 (by unfold Lay; exact id)
  | succ n =>
    unfold Lay at h3
    rw [hu] at h3
    obtain ⟨rows, rfl, h3⟩ := h3
    refine ⟨rows, n, ⟨?_, fun W' sp hs hp => ⟨n + 1, h6 W' sp hs hp⟩⟩, h3, ?_⟩
    · exact (h1.2 0 _ _ rfl (by simp [Value.cells])).2
    · simp at h4; exact h4
end
theorem lay_terms {P : Program} {tT tL tI tS : TypeId} (T : TermTys P tT tL tI tS) : ∀ (n : Nat),
    (∀ cz, Lay P n tT cz → ∃ t : Tm, cz = t.cells ∧ t.w < wtL cz) ∧ (∀ cz, Lay P n tL cz → ∃ l : List Tm, cz = [.sl (rowsT l)] ∧ wL l < wtL cz) := by
  intro n
  induction n with
  | zero => exact ⟨fun cz h => absurd h (by unfold Lay; exact id), fun cz h => absurd h (by unfold Lay; exact id)⟩
  | succ n ih =>
    refine ⟨fun cz h => ?_, fun cz h => ?_⟩
    · obtain ⟨f0, f1, f2, f3, hu, t0, o0, t1, o1, t2, o2, t3, o3⟩ := T.uT
      unfold Lay at h
      rw [hu] at h
      obtain ⟨hl, hf⟩ := h
      rw [T.cT] at hl
      obtain ⟨c0, c1, c2, c3, rfl⟩ : ∃ c0 c1 c2 c3, cz = [c0, c1, c2, c3] := by
        match cz, hl with
        | [a, b, c, d], _ => exact ⟨a, b, c, d, rfl⟩
      have h0 := hf 0 f0 rfl
      have h1 := hf 1 f1 rfl
      have h2 := hf 2 f2 rfl
      have h3 := hf 3 f3 rfl
      rw [t0, o0, T.cI] at h0
      rw [t1, o1, T.cI] at h1
      rw [t2, o2, T.cS] at h2
      rw [t3, o3, T.cL] at h3
      simp at h0 h1 h2 h3
      cases n with
      | zero => exact absurd h0 (by unfold Lay; exact id)
      | succ n =>
        obtain ⟨l, e3, w3⟩ := ih.2 _ h3
        unfold Lay at h0 h1 h2
        rw [T.uI] at h0 h1
        rw [T.uS] at h2
        obtain ⟨k, e0, _⟩ := h0
        obtain ⟨m, e1, _⟩ := h1
        obtain ⟨s, e2⟩ := h2
        simp at e0 e1 e2 e3
        subst e0 e1 e2 e3
        refine ⟨.mk k m s l, by rw [Tm.cells_mk], ?_⟩
        rw [Tm.w_mk]
        simp only [wtL_cons, wtL_nil, wt_int, wt_str, wt_sl] at w3 ⊢
        omega
    · unfold Lay at h
      rw [T.uL] at h
      obtain ⟨rows, rfl, hr⟩ := h
      have : ∀ rows : List (List AV), (∀ row ∈ rows, row.length = P.cellsOf tT ∧ Lay P n tT row) → ∃ l : List Tm, rows = rowsT l ∧ wL l ≤ wtR rows := by
        intro rows
        induction rows with
        | nil => intro _; exact ⟨[], by rw [rowsT_nil], by simp⟩
        | cons r rows ihr =>
          intro h
          obtain ⟨t, e1, w1⟩ := ih.1 r (h r (by simp)).2
          obtain ⟨l, e2, w2⟩ := ihr fun q hq => h q (by simp [hq])
          refine ⟨t :: l, by rw [rowsT_cons, ← e1, ← e2], ?_⟩
          simp; omega
      obtain ⟨l, rfl, w⟩ := this rows hr
      exact ⟨l, rfl, by simp; omega⟩
theorem lay_rows {α : Type} {P : Program} {n : Nat} {e : TypeId} {f : α → List AV} {w : α → Nat} (h : ∀ cz, Lay P n e cz → ∃ x : α, cz = f x ∧ w x < wtL cz) : ∀ rows : List (List AV), (∀ row ∈ rows, row.length = P.cellsOf e ∧ Lay P n e row) →
    ∃ l : List α, rows = l.map f ∧ (∀ x ∈ l, w x < wtR rows) ∧ l.length ≤ wtR rows := by
  intro rows
  induction rows with
  | nil => intro _; exact ⟨[], rfl, fun x hx => by simp at hx, by simp⟩
  | cons r rows ih =>
    intro hr
    obtain ⟨x, e1, w1⟩ := h r (hr r (by simp)).2
    obtain ⟨l, e2, w2, w3⟩ := ih fun q hq => hr q (by simp [hq])
    refine ⟨x :: l, by rw [List.map_cons, ← e1, ← e2], fun y hy => ?_, by simp; omega⟩
    rcases List.mem_cons.1 hy with rfl | hy
    · simp; omega
    · have := w2 y hy; simp; omega
theorem bulk_le {H : Type} {l : List (DataW H)} (hk : Rows.uptoSmall H l = true) {d : DataW H} (hd : d ∈ l) : Rows.uptoBulk d ≤ 1048576 := by
  have h : Rows.uptoBulkAll l ≤ 1048576 := of_decide_eq_true hk
  have := bulk_part hd
  omega
end Go.Proofs.YtonmmmgffeoiiaaGreat
end

section
namespace Go.Av
@[simp] theorem Tm.kind_mk (k n : Int) (s : List UInt8) (l : List Tm) : (Tm.mk k n s l).kind = k := rfl
@[simp] theorem Tm.num_mk (k n : Int) (s : List UInt8) (l : List Tm) : (Tm.mk k n s l).num = n := rfl
@[simp] theorem Tm.str_mk (k n : Int) (s : List UInt8) (l : List Tm) : (Tm.mk k n s l).str = s := rfl
@[simp] theorem Tm.subs_mk (k n : Int) (s : List UInt8) (l : List Tm) : (Tm.mk k n s l).subs = l := rfl
@[simp] theorem Tm.eta (t : Tm) : Tm.mk t.kind t.num t.str t.subs = t := by cases t; rfl
theorem Tm.cells_eq (t : Tm) : t.cells = [.int .i64 t.kind, .int .i64 t.num, .str t.str, .sl (rowsT t.subs)] := by cases t; rw [Tm.cells_mk]; rfl
@[simp] theorem cells_fold (k n : Int) (s : List UInt8) (l : List Tm) : [AV.int .i64 k, AV.int .i64 n, AV.str s, AV.sl (rowsT l)] = (Tm.mk k n s l).cells := (Tm.cells_mk k n s l).symm
@[simp] theorem cells_fold0 (k n : Int) (s : List UInt8) : [AV.int .i64 k, AV.int .i64 n, AV.str s, AV.sl []] = (Tm.mk k n s []).cells := by rw [Tm.cells_mk, rowsT_nil]
@[simp] theorem agg_cells (t : Tm) : AV.agg t.cells = t.av := rfl
@[simp] theorem rowsT_one (t : Tm) : [t.cells] = rowsT [t] := by rw [rowsT_cons, rowsT_nil]
@[simp] theorem rowsT_cons' (t : Tm) (l : List Tm) : t.cells :: rowsT l = rowsT (t :: l) := (rowsT_cons t l).symm
@[simp] theorem rowsT_append' (a b : List Tm) : rowsT a ++ rowsT b = rowsT (a ++ b) := (rowsT_append a b).symm
@[simp] theorem rowsT_app (a b : List Tm) : List.append (rowsT a) (rowsT b) = rowsT (a ++ b) := (rowsT_append a b).symm
@[simp] theorem rowsT_take' (n : Nat) (a : List Tm) : (rowsT a).take n = rowsT (a.take n) := rowsT_take n a
@[simp] theorem rowsT_drop' (n : Nat) (a : List Tm) : (rowsT a).drop n = rowsT (a.drop n) := rowsT_drop n a
@[simp] theorem rowsT_set' (l : List Tm) (i : Nat) (t : Tm) : (rowsT l).set i t.cells = rowsT (l.set i t) := rowsT_set l i t
@[simp] theorem rowsT_get' (l : List Tm) (i : Nat) : (rowsT l)[i]? = (l[i]?).map Tm.cells := rowsT_get l i
@[simp] theorem rowsT_getElem (l : List Tm) (i : Nat) (h : i < (rowsT l).length) : (rowsT l)[i] = (l[i]'(by simpa using h)).cells := by
  have h1 := rowsT_get l i
  rw [List.getElem?_eq_getElem h, List.getElem?_eq_getElem (by simpa using h)] at h1
  exact Option.some.inj h1
@[simp] theorem kOpt_map {α β γ : Type} (o : Option β) (g : β → γ) (k : γ → Option α) : kOpt (o.map g) k = kOpt o fun x => k (g x) := by cases o <;> rfl
@[simp] theorem length_cells (t : Tm) : t.cells.length = 4 := by rw [Tm.cells_eq]; rfl
@[simp] theorem take_cells (t : Tm) : t.cells.take 4 = t.cells := by rw [Tm.cells_eq]; rfl
@[simp] theorem drop_cells (t : Tm) : t.cells.drop 4 = [] := by rw [Tm.cells_eq]; rfl
@[simp] theorem cells_0 (t : Tm) : t.cells[0]? = some (.int .i64 t.kind) := by rw [Tm.cells_eq]; rfl
@[simp] theorem cells_1 (t : Tm) : t.cells[1]? = some (.int .i64 t.num) := by rw [Tm.cells_eq]; rfl
@[simp] theorem cells_2 (t : Tm) : t.cells[2]? = some (.str t.str) := by rw [Tm.cells_eq]; rfl
@[simp] theorem cells_3 (t : Tm) : t.cells[3]? = some (.sl (rowsT t.subs)) := by rw [Tm.cells_eq]; rfl
@[simp] theorem refs_cells (n : Nat) (t : Tm) : refsLtL n t.cells = true := by rw [Tm.cells_eq]; rfl
@[simp] theorem allCells_cells (t : Tm) : allCells t.cells = true := by rw [Tm.cells_eq]; rfl
@[simp] theorem rowsT_free' (l : List Tm) : refsLtR 0 (rowsT l) = true := rowsT_free l
@[simp] theorem rowsOk_rowsT (l : List Tm) : rowsOk 4 (rowsT l) = true := by
  cases l with
  | nil => rw [rowsT_nil]; rfl
  | cons t l => rw [rowsT_cons, rowsOk, length_cells]; rfl
@[simp] theorem kTmC_cells {α : Type} (t : Tm) (k : Int → Int → List UInt8 → List (List AV) → Option α) : kTmC t.cells k = k t.kind t.num t.str (rowsT t.subs) := by rw [Tm.cells_eq]; rfl
@[simp] theorem kTmV_av {α : Type} (t : Tm) (k : Int → Int → List UInt8 → List (List AV) → Option α) : kTmV t.av k = k t.kind t.num t.str (rowsT t.subs) := by rw [Tm.av, Tm.cells_eq]; rfl

theorem wrap_s {i n : Nat} (h : i < n) (hn : n < 1099511627776) : IntKind.wrap .i64 ((i : Int) + 1) = (i : Int) + 1 := wrap64 (by omega) (by omega)
@[simp] theorem cast_nn (q : Nat) : (0 ≤ (q : Int) + 1) = True := eq_true (by omega)
@[simp] theorem cast_le1 (q n : Nat) : ((q : Int) + 1 ≤ (n : Int)) = (q + 1 ≤ n) := propext (by omega)
@[simp] theorem cast_lt1 (q n : Nat) : ((q : Int) + 1 < (n : Int)) = (q + 1 < n) := propext (by omega)
@[simp] theorem cast_nn' (q : Nat) : (0 < (q : Int) + 1) = True := eq_true (by omega)
@[simp] theorem cast_ne0 (q : Nat) : ((q : Int) + 1 == 0) = false := by rw [beqD]; exact decide_eq_false (by omega)
@[simp] theorem cast_lt_s (q : Nat) : ((q : Int) < (q : Int) + 1) = True := eq_true (by omega)
@[simp] theorem cast_le_s (q : Nat) : ((q : Int) ≤ (q : Int) + 1) = True := eq_true (by omega)
theorem wrapN {n : Nat} (hn : n < 4398046511104) : IntKind.wrap .i64 (n : Int) = n := wrap64 (by omega) (by omega)
end Go.Av
end

section
namespace Go.Av

def C3 (p q r : Int) : Prop := (p ≤ 0 → q ≤ 0 → r ≤ 0) ∧ (p < 0 → q ≤ 0 → r < 0) ∧ (p ≤ 0 → q < 0 → r < 0) ∧ (0 ≤ p → 0 ≤ q → 0 ≤ r) ∧ (0 < p → 0 ≤ q → 0 < r) ∧ (0 ≤ p → 0 < q → 0 < r)

end Go.Av
end

section
namespace Go.Av
def soundB (k n : Int) (s : List UInt8) (m : Nat) : Bool :=
  if k = 1 then decide (-576460752303423488 ≤ n) && (decide (n ≤ 576460752303423487) && (decide (s = []) && decide (m = 0)))
  else if k = 2 then decide (n = 0) && (decide (s.length ≤ 64) && decide (m = 0))
  else if k = 3 then decide (0 ≤ n) && (decide (n ≤ 1073741824) && (decide (s = []) && decide (m = 0)))
  else if k = 4 then decide (0 ≤ n) && (decide (n ≤ 1073741824) && (decide (s = []) && decide (m = 0)))
  else if k = 6 then decide (0 ≤ n) && (decide (n ≤ 1073741824) && (decide (s = []) && decide (m = 0)))
  else if k = 5 then decide (0 ≤ n) && (decide (n ≤ 1073741824) && (decide (s = []) && decide (m ≤ 64)))
  else if k = 7 then decide (n = 0) && (decide (s = []) && decide (m ≤ 64))
  else if k = 8 then decide (n = 0) && (decide (s = []) && decide (m = 0))
  else if k = 9 then decide (n = 0) && (decide (s = []) && decide (m = 2))
  else false
def Tm.sound (t : Tm) : Bool := soundB t.kind t.num t.str t.subs.length
def Tm.own (t : Tm) : Nat := if t.kind = 7 ∨ t.kind = 5 then 2 else 1
theorem bif_some' (a b : Bool) : (bif a then some (AV.bool b) else some (AV.bool false)) = some (.bool (a && b)) := by cases a <;> rfl
theorem beqNil (s : List UInt8) : (s == []) = decide (s = []) := by cases s <;> simp
theorem beqI (a b : Int) : (a == b) = decide (a = b) := by simp [beqD]
mutual
/-- may all parts of a term be? -/
def Tm.parts : Tm → Bool
  | .mk k n s l => soundB k n s l.length && partsL l
def partsL : List Tm → Bool
  | [] => true
  | t :: l => t.parts && partsL l
end
mutual
/-- how many words all parts have -/
def Tm.words : Tm → Nat
  | .mk k n s l => (Tm.mk k n s l).own + wordsL l
def wordsL : List Tm → Nat
  | [] => 0
  | t :: l => t.words + wordsL l
end
theorem Tm.parts_eq (t : Tm) : t.parts = (t.sound && partsL t.subs) := by cases t; rw [Tm.parts]; rfl
theorem Tm.words_eq (t : Tm) : t.words = t.own + wordsL t.subs := by cases t; rw [Tm.words]; rfl
theorem partsL_append (a b : List Tm) : partsL (a ++ b) = (partsL a && partsL b) := by
  induction a with
  | nil => simp [partsL]
  | cons x l ih => simp [partsL, ih, Bool.and_assoc]
theorem wordsL_append (a b : List Tm) : wordsL (a ++ b) = wordsL a + wordsL b := by
  induction a with
  | nil => simp [wordsL]
  | cons x l ih => simp [wordsL, ih]; omega
theorem partsL_rev (a : List Tm) : partsL a.reverse = partsL a := by
  induction a with
  | nil => rfl
  | cons x l ih => simp [partsL_append, partsL, ih, Bool.and_comm]
theorem wordsL_rev (a : List Tm) : wordsL a.reverse = wordsL a := by
  induction a with
  | nil => rfl
  | cons x l ih => simp [wordsL_append, wordsL, ih]; omega
theorem Tm.own_le (t : Tm) : t.own ≤ 2 ∧ 1 ≤ t.own := by unfold Tm.own; split <;> omega
theorem words_le (t : Tm) : t.words ≤ 2 * t.w := by
  induction t using Tm.ind with
  | _ k n s l ih =>
    have h1 : wordsL l ≤ 2 * wL l := by
      clear n s
      induction l with
      | nil => simp [wordsL]
      | cons x l ih2 =>
        have := ih x (by simp)
        have := ih2 (fun t ht => ih t (by simp [ht]))
        simp [wordsL]; omega
    have := (Tm.mk k n s l).own_le
    rw [Tm.words, Tm.w_mk]; omega
def chkS (R : List Tm) (wd : Nat) : Int := if partsL R then (if 65536 < wd + wordsL R then 3 else 0) else 2
def Tm.chk (t : Tm) : Int := chkS [t] 0
theorem chkS_bad {R : List Tm} {x : Tm} {wd : Nat} (h : x.sound = false) : chkS (R ++ [x]) wd = 2 := by
  unfold chkS
  rw [partsL_append]
  simp [partsL, Tm.parts_eq, h]
theorem chkS_step {R : List Tm} {x : Tm} {wd : Nat} (h : x.sound = true) : chkS (R ++ x.subs.reverse) (wd + x.own) = chkS (R ++ [x]) wd := by
  unfold chkS
  simp only [partsL_append, partsL_rev, wordsL_append, wordsL_rev, partsL, wordsL, Tm.parts_eq, Tm.words_eq, h, Bool.true_and, Bool.and_true]
  have : wd + x.own + (wordsL R + wordsL x.subs) = wd + (wordsL R + (x.own + wordsL x.subs + 0)) := by omega
  rw [this]

end Go.Av
end

section
namespace Go.Av
def symT (s : List UInt8) : Tm := .mk 2 0 s []
def tupT (l : List Tm) : Tm := .mk 7 0 [] l
def zeroT : Tm := .mk 0 0 [] []
theorem symT_av (s : List UInt8) : (symT s).av = .agg [.int .i64 2, .int .i64 0, .str s, .sl []] := by rw [symT, Tm.av_mk, rowsT_nil]
def InB (a : Int) : Prop := -576460752303423488 ≤ a ∧ a ≤ 576460752303423487
instance (a : Int) : Decidable (InB a) := inferInstanceAs (Decidable (_ ∧ _))
end Go.Av
namespace Go.Av
theorem beqS (a b : List UInt8) : (a == b) = decide (a = b) := by by_cases h : a = b <;> simp [h]
structure Env where
  obj : Tm
  binds : List (Int × Tm)
  self : Int
end Go.Av
namespace Go.Av
end Go.Av
namespace Go.Av
def opsTab : List (List UInt8 × List Int) := [
  ([115, 101, 108, 102], [0]),
  ([105, 115, 95, 97, 116, 111, 109], [1]),
  ([105, 115, 95, 105, 110, 116, 101, 103, 101, 114], [1]),
  ([105, 115, 95, 108, 105, 115, 116], [1]),
  ([105, 115, 95, 116, 117, 112, 108, 101], [1]),
  ([105, 115, 95, 112, 105, 100], [1]),
  ([105, 115, 95, 102, 117, 110, 99, 116, 105, 111, 110], [1]),
  ([105, 115, 95, 114, 101, 102, 101, 114, 101, 110, 99, 101], [1]),
  ([110, 111, 116], [1]),
  ([98, 110, 111, 116], [1]),
  ([97, 98, 115], [1]),
  ([116, 117, 112, 108, 101, 95, 115, 105, 122, 101], [1]),
  ([115, 105, 122, 101], [1]),
  ([104, 100], [1]),
  ([116, 108], [1]),
  ([108, 101, 110, 103, 116, 104], [1]),
  ([43], [1, 2]),
  ([45], [1, 2]),
  ([61, 61], [2]),
  ([61, 58, 61], [2]),
  ([47, 61], [2]),
  ([61, 47, 61], [2]),
  ([60], [2]),
  ([61, 60], [2]),
  ([62], [2]),
  ([62, 61], [2]),
  ([97, 110, 100], [2]),
  ([111, 114], [2]),
  ([120, 111, 114], [2]),
  ([97, 110, 100, 97, 108, 115, 111], [2]),
  ([111, 114, 101, 108, 115, 101], [2]),
  ([42], [2]),
  ([100, 105, 118], [2]),
  ([114, 101, 109], [2]),
  ([98, 97, 110, 100], [2]),
  ([98, 111, 114], [2]),
  ([98, 120, 111, 114], [2]),
  ([101, 108, 101, 109, 101, 110, 116], [2])]
def lookS {β : Type} (op : List UInt8) (d : β) : List (List UInt8 × β) → β
  | [] => d
  | p :: l => bif op == p.1 then p.2 else lookS op d l
theorem lookS_map {β γ : Type} (g : β → γ) (op : List UInt8) (d : β) : ∀ l : List (List UInt8 × β), lookS op (g d) (l.map fun p => (p.1, g p.2)) = g (lookS op d l)
  | [] => rfl
  | p :: l => by
    rw [List.map_cons, lookS, lookS, lookS_map g op d l]
    cases op == p.1 <;> rfl
def opsG (op : List UInt8) : List Int := lookS op [] opsTab
def intsR (l : List Int) : List (List AV) := l.map fun n => [.int .i64 n]
theorem intsR_len (l : List Int) : (intsR l).length = l.length := by simp [intsR]
theorem intsR_get (l : List Int) (i : Nat) : (intsR l)[i]? = (l[i]?).map fun n => [AV.int .i64 n] := by simp [intsR]
def selfG (n : Int) : Bool := decide (1 ≤ n) && decide (n ≤ 1073741824)
theorem Tm.Ok.subs {t : Tm} (h : t.Ok) {x : Tm} (hx : x ∈ t.subs) : x.Ok := by
  obtain ⟨k, n, s, l⟩ := t
  exact h.sub hx
end Go.Av
end

section
namespace Go.Av
def digitG (b : UInt8) : Option Int := if b.toNat < 48 then none else if b.toNat > 57 then none else some ((b.toNat : Int) - 48)
def varG : List UInt8 → Option Int
  | [a, b] => if a.toNat = 36 then digitG b else none
  | [a, b, c] => if a.toNat = 36 ∧ b.toNat ≠ 48 then (digitG b).bind fun x => (digitG c).map fun y => x * 10 + y else none
  | _ => none
theorem digitG_in {b : UInt8} {x : Int} (h : digitG b = some x) : 0 ≤ x ∧ x ≤ 9 := by
  unfold digitG at h
  split at h
  · cases h
  · split at h
    · cases h
    · cases h; omega
theorem varG2 (a b : UInt8) : varG [a, b] = if a.toNat = 36 then digitG b else none := rfl
theorem varG3 (a b c : UInt8) : varG [a, b, c] = if a.toNat = 36 ∧ b.toNat ≠ 48 then (digitG b).bind fun x => (digitG c).map fun y => x * 10 + y else none := rfl
theorem varG_in {s : List UInt8} {x : Int} (h : varG s = some x) : 0 ≤ x ∧ x ≤ 99 := by
  unfold varG at h
  split at h
  · split at h
    · have := digitG_in h; omega
    · cases h
  · split at h
    · obtain ⟨a, h1, h2⟩ := Option.bind_eq_some_iff.1 h
      obtain ⟨b, h3, rfl⟩ := Option.map_eq_some_iff.1 h2
      have := digitG_in h1
      have := digitG_in h3
      omega
    · cases h
  · cases h
def varT (t : Tm) : Option Int := if t.kind = 2 ∧ t.chk = 0 then varG t.str else none
theorem wrapU {n : Nat} (h : n < 18446744073709551616) : IntKind.wrap .u64 (n : Int) = n := by
  simp [IntKind.wrap, IntKind.bits, IntKind.signed]; omega
theorem shl_one {n : Nat} (h : n < 64) : fromSem (Op.shift .shl .u64 1 .i64 (n : Int)) = some (.int .u64 ((2 ^ n : Nat) : Int)) := by
  have hp : 2 ^ n < 18446744073709551616 := by
    have : 2 ^ n < 2 ^ 64 := Nat.pow_lt_pow_right (by omega) h
    simpa using this
  have : fromSem (Op.shift .shl .u64 1 .i64 (n : Int)) = some (.int .u64 (IntKind.wrap .u64 (1 * 2 ^ (min (n : Int).toNat 64)))) := by
    unfold Op.shift
    rw [if_neg (by omega)]; rfl
  rw [this, Int.toNat_natCast, Nat.min_eq_left (by omega), Int.one_mul]
  have e : ((2 : Int) ^ n) = ((2 ^ n : Nat) : Int) := by simp
  rw [e, wrapU hp]
theorem or_bits {a b : Nat} (ha : a < 18446744073709551616) (hb : b < 18446744073709551616) : fromSem (Op.intBits .or .u64 (a : Int) (b : Int)) = some (.int .u64 ((a ||| b : Nat) : Int)) := by
  have : fromSem (Op.intBits .or .u64 (a : Int) (b : Int)) = some (.int .u64 (IntKind.wrap .u64 (BitVec.ofInt 64 (a : Int) ||| BitVec.ofInt 64 (b : Int)).toNat)) := rfl
  rw [this]
  have ea : (BitVec.ofInt 64 (a : Int)).toNat = a := by simp [BitVec.toNat_ofInt]; omega
  have eb : (BitVec.ofInt 64 (b : Int)).toNat = b := by simp [BitVec.toNat_ofInt]; omega
  have hlt := (BitVec.ofInt 64 (a : Int) ||| BitVec.ofInt 64 (b : Int)).isLt
  rw [wrapU (by simpa using hlt), BitVec.toNat_or, ea, eb]
theorem shr_bit {a n : Nat} (ha : a < 18446744073709551616) (hn : n < 64) : fromSem (Op.shift .shr .u64 (a : Int) .i64 (n : Int)) = some (.int .u64 ((a / 2 ^ n : Nat) : Int)) := by
  have : fromSem (Op.shift .shr .u64 (a : Int) .i64 (n : Int)) = some (.int .u64 (Int.fdiv a (2 ^ (min (n : Int).toNat 64)))) := by
    unfold Op.shift
    rw [if_neg (by omega)]; rfl
  rw [this, Int.toNat_natCast, Nat.min_eq_left (by omega)]
  have e : ((2 : Int) ^ n) = ((2 ^ n : Nat) : Int) := by simp
  rw [e, Int.fdiv_eq_ediv_of_nonneg _ (Int.natCast_nonneg _)]
  rfl
theorem and_one {a : Nat} (ha : a < 18446744073709551616) : fromSem (Op.intBits .and .u64 (a : Int) 1) = some (.int .u64 ((a % 2 : Nat) : Int)) := by
  have : fromSem (Op.intBits .and .u64 (a : Int) 1) = some (.int .u64 (IntKind.wrap .u64 (BitVec.ofInt 64 (a : Int) &&& BitVec.ofInt 64 1).toNat)) := rfl
  rw [this]
  have ea : (BitVec.ofInt 64 (a : Int)).toNat = a := by simp [BitVec.toNat_ofInt]; omega
  have eb : (BitVec.ofInt 64 (1 : Int)).toNat = 1 := by decide
  rw [BitVec.toNat_and, ea, eb, Nat.and_one_is_mod, wrapU (by omega)]
def SetRow (p : Nat → Bool) (r : List AV) : Prop := ∃ (lo hi : Nat) (l : List AV), r = .int .u64 lo :: .int .u64 hi :: l ∧ lo < 18446744073709551616 ∧ hi < 18446744073709551616 ∧ (∀ n, n < 64 → lo.testBit n = p n) ∧ ∀ n, n < 64 → hi.testBit n = p (n + 64)
end Go.Av
namespace Go.Av
theorem store_get {r cs : List AV} {o k : Nat} (hc : cs.length = 4) (h : o + 4 ≤ r.length) (hk : k < o ∨ o + 4 ≤ k) : (List.append (List.append (r.take o) cs) (r.drop (o + 4)))[k]? = r[k]? := by
  show ((r.take o ++ cs) ++ r.drop (o + 4))[k]? = r[k]?
  have hl : (r.take o).length = o := by simp; omega
  rcases hk with hk | hk
  · rw [List.getElem?_append_left (by simp; omega), List.getElem?_append_left (by omega), List.getElem?_take, if_pos hk]
  · rw [List.getElem?_append_right (by simp; omega), List.getElem?_drop]
    congr 1
    simp [hc]
    omega
theorem store_len {r cs : List AV} {o : Nat} (hc : cs.length = 4) (h : o + 4 ≤ r.length) : (List.append (List.append (r.take o) cs) (r.drop (o + 4))).length = r.length := by
  show ((r.take o ++ cs) ++ r.drop (o + 4)).length = r.length
  simp [hc]; omega
theorem store_same {r cs : List AV} {o : Nat} (hc : cs.length = 4) (h : o + 4 ≤ r.length) : ((List.append (List.append (r.take o) cs) (r.drop (o + 4))).drop o).take 4 = cs := by
  show (((r.take o ++ cs) ++ r.drop (o + 4)).drop o).take 4 = cs
  have hl : (r.take o).length = o := by simp; omega
  rw [List.append_assoc, List.drop_append_of_le_length (by omega), List.drop_of_length_le (by omega), List.nil_append, List.take_append_of_le_length (by omega), List.take_of_length_le (by omega)]
theorem store_other {r cs : List AV} {o o' : Nat} (hc : cs.length = 4) (h : o + 4 ≤ r.length) (hd : o' + 4 ≤ o ∨ o + 4 ≤ o') : ((List.append (List.append (r.take o) cs) (r.drop (o + 4))).drop o').take 4 = (r.drop o').take 4 := by
  apply List.ext_getElem?
  intro j
  by_cases hj : j < 4
  · rw [List.getElem?_take, List.getElem?_take, if_pos hj, if_pos hj, List.getElem?_drop, List.getElem?_drop, store_get hc h (by omega)]
  · rw [List.getElem?_take, List.getElem?_take, if_neg hj, if_neg hj]
def mayB : Int → List (Int × Tm) → Bool
  | _, [] => true
  | last, p :: l => decide (last < p.1) && (decide (p.1 ≤ 99) && (decide (p.2.chk = 0) && mayB p.1 l))
def lookB (n : Int) : List (Int × Tm) → Option Tm
  | [] => none
  | p :: l => if p.1 = n then some p.2 else lookB n l
structure BRow (m : List (Int × Tm)) (r : List AV) : Prop where
  len : r.length = 402
  set : SetRow (fun i => (lookB i m).isSome) r
  cells : ∀ i : Nat, i < 100 → ∀ t, lookB i m = some t → (r.drop (2 + i * 4)).take 4 = t.cells
  free : refsLtL 0 r = true
end Go.Av
namespace Go.Av
theorem lookB_snoc (n : Int) (p : Int × Tm) : ∀ m : List (Int × Tm), lookB n (m ++ [p]) = match lookB n m with | some t => some t | none => if p.1 = n then some p.2 else none
  | [] => by simp [lookB]
  | q :: m => by
    rw [List.cons_append, lookB, lookB]
    by_cases h : q.1 = n
    · rw [if_pos h, if_pos h]
    · rw [if_neg h, if_neg h]; exact lookB_snoc n p m
theorem BRow.add {m : List (Int × Tm)} {r r' : List AV} {n : Nat} {t : Tm} (h : BRow m r) (hn : n < 100) (hnew : lookB n m = none)
    (h1 : SetRow (fun i => (fun i : Nat => (lookB i m).isSome) i || decide (i = n)) r') (h2 : r'.drop 2 = r.drop 2) (h3 : r'.length = r.length) (h4 : refsLtL 0 r = true → refsLtL 0 r' = true) :
    BRow (m ++ [((n : Int), t)]) (List.append (List.append (r'.take (2 + n * 4)) t.cells) (r'.drop (2 + n * 4 + 4))) := by
  have hl : r'.length = 402 := by rw [h3, h.len]
  have hc : t.cells.length = 4 := length_cells t
  have ho : 2 + n * 4 + 4 ≤ r'.length := by omega
  have hd : ∀ j, (r'.drop (2 + j)) = r.drop (2 + j) := by
    intro j
    rw [← List.drop_drop, ← List.drop_drop, h2]
  refine ⟨by rw [store_len hc ho, hl], ?_, fun i hi t' ht' => ?_, ?_⟩
  · obtain ⟨lo, hi, l, rfl, a1, a2, a3, a4⟩ := h1
    obtain ⟨o, ho'⟩ : ∃ o, 2 + n * 4 = o + 2 := ⟨n * 4, by omega⟩
    have lk : ∀ i : Nat, (lookB i (m ++ [((n : Int), t)])).isSome = ((lookB i m).isSome || decide (i = n)) := by
      intro i
      rw [lookB_snoc]
      cases hx : lookB (i : Int) m with
      | some x => rfl
      | none =>
        by_cases hi : i = n
        · subst hi; simp
        · have : ¬ ((n : Int) = (i : Int)) := by omega
          simp [this, hi]
    refine ⟨lo, hi, (l.take o ++ t.cells) ++ l.drop (o + 4), ?_, a1, a2, fun i hi => ?_, fun i hi => ?_⟩
    · rw [ho']; rfl
    · exact (a3 i hi).trans (lk i).symm
    · exact (a4 i hi).trans (lk (i + 64)).symm
  · rw [lookB_snoc] at ht'
    by_cases hin : i = n
    · subst hin
      rw [hnew] at ht'
      simp at ht'
      subst ht'
      exact store_same hc ho
    · cases hx : lookB (i : Int) m with
      | none =>
        rw [hx] at ht'
        have : ¬ ((n : Int) = (i : Int)) := by omega
        simp [this] at ht'
      | some x =>
        rw [hx] at ht'
        cases ht'
        rw [store_other hc ho (by omega), hd]
        exact h.cells i hi _ hx
  · show refsLtL 0 ((r'.take (2 + n * 4) ++ t.cells) ++ r'.drop (2 + n * 4 + 4)) = true
    have hf := h4 h.free
    exact refsLtL_app (refsLtL_app (refsLtL_take hf) (cells_free t)) (refsLtL_drop hf)
end Go.Av
end

section
namespace Go.Av
mutual
/-- is a term an expression over some variables? -/
def isG (V : List Int) : Tm → Bool
  | .mk k n s l =>
    if k = 2 then (match varT (.mk k n s l) with | none => true | some x => decide (x ∈ V))
    else if k = 9 then allG V l
    else if k = 7 then
      (match l with
       | [] => false
       | (.mk k1 _ s1 l1) :: rest =>
         if k1 = 7 then decide (rest.length = 0) && allG V l1
         else if k1 = 2 then (if s1 = [99, 111, 110, 115, 116] then decide (rest.length = 1) else decide ((rest.length : Int) ∈ opsG s1) && allG V rest)
         else false)
    else true
def allG (V : List Int) : List Tm → Bool
  | [] => true
  | t :: l => isG V t && allG V l
end
theorem isG_atom {V : List Int} {t : Tm} (h : t.kind = 2) : isG V t = (match varT t with | none => true | some x => decide (x ∈ V)) := by
  obtain ⟨k, n, s, l⟩ := t
  simp only [Tm.kind_mk] at h
  rw [isG.eq_def]; simp only []; rw [if_pos h]
theorem isG_cons {V : List Int} {t : Tm} (h : t.kind = 9) : isG V t = allG V t.subs := by
  obtain ⟨k, n, s, l⟩ := t
  simp only [Tm.kind_mk] at h
  subst h
  rw [isG.eq_def]; simp only []; rw [if_neg (by omega), if_pos trivial]; rfl
theorem isG_nil {V : List Int} {t : Tm} (h : t.kind = 7) (hl : t.subs = []) : isG V t = false := by
  obtain ⟨k, n, s, l⟩ := t
  simp only [Tm.kind_mk, Tm.subs_mk] at h hl
  subst h hl
  rw [isG.eq_def]; simp only []; rw [if_neg (by omega), if_neg (by omega), if_pos trivial]
theorem isG_tup {V : List Int} {t f : Tm} {r : List Tm} (h : t.kind = 7) (hl : t.subs = f :: r) : isG V t =
    if f.kind = 7 then decide (r.length = 0) && allG V f.subs
    else if f.kind = 2 then (if f.str = [99, 111, 110, 115, 116] then decide (r.length = 1) else decide ((r.length : Int) ∈ opsG f.str) && allG V r) else false := by
  obtain ⟨k, n, s, l⟩ := t
  obtain ⟨k1, n1, s1, l1⟩ := f
  simp only [Tm.kind_mk, Tm.subs_mk] at h hl
  subst h hl
  rw [isG.eq_def]; simp only []; rw [if_neg (by omega), if_neg (by omega), if_pos trivial]; rfl
theorem isG_other {V : List Int} {t : Tm} (h2 : t.kind ≠ 2) (h9 : t.kind ≠ 9) (h7 : t.kind ≠ 7) : isG V t = true := by
  obtain ⟨k, n, s, l⟩ := t
  simp only [Tm.kind_mk] at h2 h9 h7
  rw [isG.eq_def]; simp only []; rw [if_neg h2, if_neg h9, if_neg h7]
def checkG (V : List Int) (t : Tm) : Int := if t.chk = 0 then (if isG V t then 0 else 10) else 2
end Go.Av
end

section
namespace Go.Av
theorem chk_zero {t : Tm} : t.chk = 0 ↔ t.parts = true ∧ t.words ≤ 65536 := by
  unfold Tm.chk chkS
  simp only [partsL, wordsL, Bool.and_true, Nat.zero_add, Nat.add_zero]
  cases h : t.parts with
  | false => simp
  | true =>
    simp
theorem wL_parts (l : List Tm) (h : ∀ x ∈ l, x.parts = true → x.w ≤ 65 * x.words) : partsL l = true → wL l ≤ 65 * wordsL l := by
  induction l with
  | nil => intro _; simp
  | cons x l ih =>
    intro hp
    rw [partsL, Bool.and_eq_true] at hp
    have h1 := h x (by simp) hp.1
    have h2 := ih (fun y hy => h y (by simp [hy])) hp.2
    rw [wL_cons, wordsL]; omega
theorem sound_str {k n : Int} {s : List UInt8} {m : Nat} (h : soundB k n s m = true) : s.length ≤ 64 ∧ m ≤ 64 := by
  unfold soundB at h
  repeat' split at h
  all_goals simp at h
  all_goals first | (obtain ⟨_, _, h3, h4⟩ := h; subst h3; simp; omega) | (obtain ⟨_, h3, h4⟩ := h; subst h3; simp; omega) | omega
theorem w_parts (t : Tm) : t.parts = true → t.w ≤ 65 * t.words := by
  induction t using Tm.ind with
  | _ k n s l ih =>
    intro hp
    rw [Tm.parts, Bool.and_eq_true] at hp
    have h1 := sound_str hp.1
    have h2 := wL_parts l ih hp.2
    have h3 := (Tm.mk k n s l).own_le
    rw [Tm.w_mk, Tm.words]; omega
theorem w_chk {t : Tm} (h : t.chk = 0) : t.w ≤ 4259840 := by
  obtain ⟨h1, h2⟩ := chk_zero.1 h
  have := w_parts t h1
  omega
theorem subs_chk {t : Tm} (h : t.chk = 0) : t.subs.length ≤ 64 := by
  obtain ⟨h1, _⟩ := chk_zero.1 h
  rw [Tm.parts_eq, Bool.and_eq_true] at h1
  exact (sound_str h1.1).2
theorem wordsL_mem {x : Tm} {l : List Tm} (h : x ∈ l) : x.words ≤ wordsL l := by
  induction l with
  | nil => cases h
  | cons y l ih =>
    rw [wordsL]
    rcases List.mem_cons.1 h with rfl | h
    · omega
    · have := ih h; omega
theorem partsL_mem {l : List Tm} (h : partsL l = true) : ∀ x ∈ l, x.parts = true := by
  induction l with
  | nil => intro x hx; cases hx
  | cons y l ih =>
    intro x hx
    rw [partsL, Bool.and_eq_true] at h
    rcases List.mem_cons.1 hx with rfl | hx
    · exact h.1
    · exact ih h.2 x hx
theorem chk_sub {t x : Tm} (h : t.chk = 0) (hx : x ∈ t.subs) : x.chk = 0 := by
  obtain ⟨h1, h2⟩ := chk_zero.1 h
  rw [Tm.parts_eq, Bool.and_eq_true] at h1
  have := wordsL_mem hx
  rw [Tm.words_eq] at h2
  exact chk_zero.2 ⟨partsL_mem h1.2 x hx, by omega⟩
theorem cons_chk {t : Tm} (h : t.chk = 0) (hk : t.kind = 9) : ∃ a b, t.subs = [a, b] := by
  obtain ⟨h1, _⟩ := chk_zero.1 h
  rw [Tm.parts_eq, Bool.and_eq_true] at h1
  have h2 : soundB t.kind t.num t.str t.subs.length = true := h1.1
  rw [hk] at h2
  simp [soundB] at h2
  match hl : t.subs, h2.2.2 with
  | [a, b], _ => exact ⟨a, b, rfl⟩
def listT (l : List Tm) : Tm := l.foldr (fun x e => .mk 9 0 [] [x, e]) (.mk 8 0 [] [])
structure EnvOk (e : Env) : Prop where
  obj : e.obj.chk = 0
  may : mayB (-1) e.binds = true
  self : selfG e.self = true
theorem mayB_len : ∀ {l : List (Int × Tm)} {last : Int}, mayB last l = true → (l.length : Int) ≤ max 0 (99 - last)
  | [], _, _ => by simp; omega
  | p :: l, last, h => by
    simp only [mayB, Bool.and_eq_true, decide_eq_true_eq] at h
    have := mayB_len h.2.2.2
    simp only [List.length_cons]
    omega
theorem EnvOk.len {e : Env} (h : EnvOk e) : e.binds.length ≤ 100 := by have := mayB_len h.may; omega
end Go.Av
end

section
namespace Go.Proofs.YtonmmmgffeoiiaaGreat
open Go.Av
set_option maxRecDepth 100000
set_option maxHeartbeats 0

noncomputable def Ls78_0 : Den := evC cfg (EV cfg) 89 none 4 (sub (bodyOf Tryz.f89) [1, 0, 0])
noncomputable def As78_0 : Ex × List AV × AH → Option AV := kAft (Cfg.keepOut cfg 89 (firstRid (sub (bodyOf Tryz.f89) [1, 0, 0]))) (kBlock 0 (kFinG cfg (Cfg.lift cfg 89 0) (fun (v : AV) (H : AH) => (fun (r : AV × AH) => kRangeEnd 0 3 (fx 16 [(3, AV.ptr 0 0 0), (4, AV.ptr 1 0 0)]) (kBlock 0 (kSeq (fun (fr : List AV) (H : AH) => kCutTo (Cfg.cut cfg 48 (firstRid (sub (bodyOf Tryz.f48) [1, 1]))) fr H fun (fr : List AV) (H : AH) => kCode cfg (EV cfg) (kfN cfg 6) 48 none 0 (sub (bodyOf Tryz.f48) [1, 1]) fr H (kFinF cfg (Cfg.lift cfg 48 0) (Array.toList (Func.results Tryz.f48)))) (kFinF cfg (Cfg.lift cfg 48 0) (Array.toList (Func.results Tryz.f48))))) (Prod.snd r)) (v, H)) (Array.toList (Func.results (Prod.snd (89, Tryz.f89))))))
noncomputable def Ws78_0 : List AV × AH → Option AV := fun (p : List AV × AH) => kOpt (LOOP 4 (some [0, 1, 3]) [] Ls78_0 p) As78_0
noncomputable abbrev ws78_0 (v3 : Int) (c0_0 : Int) (c0_1 : Int) (c0_2 : List UInt8) (c0_3 : List (List AV)) (c1_0 : Int) (c1_1 : Int) (c1_2 : List UInt8) (c1_3 : List (List AV)) (c2_0 : List (List AV)) : Option (AV) := Ws78_0  (((fx 19 [(0, AV.yld (3 : Nat)), (1, AV.ptr (2 : Nat) (0 : Nat) (0 : Nat)), (3, AV.int IntKind.i64 v3)]) : List AV), ([ABlk.rows false (4 : Nat) [[AV.int IntKind.i64 c0_0, AV.int IntKind.i64 c0_1, AV.str c0_2, AV.sl c0_3]], ABlk.rows false (4 : Nat) [[AV.int IntKind.i64 c1_0, AV.int IntKind.i64 c1_1, AV.str c1_2, AV.sl c1_3]], ABlk.rows false (1 : Nat) [[AV.sl c2_0]], rngB Tryz.f48 (48 : Nat) [(1 : Nat), (0 : Nat), (1 : Nat), (0 : Nat)] (fx 16 [(3, AV.ptr (0 : Nat) (0 : Nat) (0 : Nat))]) none LoopState.ready] : AH))
theorem guardIs_run (kt : Int) (nt : Int) (st : List UInt8) (lt : List (List AV)) (V : List (List AV)) {P : AV → Prop} (h : Gets (bif kt == (2 : Int) then kOpt (EVs (EV cfg) 106 [.agg [.int .i64 kt, .int .i64 nt, .str st, .sl lt]]) fun (v : AV) => kTup v fun (cs : List AV) => kCons cs fun (c : AV) (cs : List AV) 
  => kInt .i64 c fun (n : Int) => kCons cs fun (c : AV) (cs : List AV) => kBool c fun (b : Bool) => kNil cs (bif !b then some (.bool true) else kOpt (EVs (EV cfg) 137 [.sl V, .int .i64 
  n]) fun (v : AV) => kBool v fun (b : Bool) => some (.bool b)) else bif kt == (9 : Int) then kOpt (EVs (EV cfg) 138 [.sl lt, .sl V]) fun (v : AV) => kBool v fun (b : Bool) => some (.bool 
  b) else bif kt == (7 : Int) then bif (↑(List.length lt) : Int) == (0 : Int) then some (.bool false) else bif ltInt (0 : Int) (↑(List.length lt) : Int) then kOpt (List.get?Internal lt 
  0) fun (row : List AV) => bif Nat.beq (List.length row) 4 then bif Nat.ble 4 (List.length row) then kTmC (List.take 4 row) fun (n n_1 : Int) (s : List UInt8) (rows : List (List AV)) 
  => (bif leInt (1 : Int) (↑(List.length lt) : Int) then bif rowsOk 4 lt then bif n == (7 : Int) then bif (↑(List.length (List.take (List.length lt - 1) (List.drop 1 lt))) : Int) == (0 
  : Int) then kOpt (EVs (EV cfg) 138 [.sl rows, .sl V]) fun (v : AV) => kBool v fun (b : Bool) => some (.bool b) else some (.bool false) else bif n != (2 : Int) then some (.bool false) 
  else bif s == [(99 : UInt8), (111 : UInt8), (110 : UInt8), (115 : UInt8), (116 : UInt8)] then some (.bool ((↑(List.length (List.take (List.length lt - 1) (List.drop 1 lt))) : Int) == 
  (1 : Int))) else kOpt (EVf (EV cfg) 139 [.str s]) fun (v : AV) => kSl v fun (rows : List (List AV)) => kOpt (EVs (EV cfg) 137 [.sl rows, .int .i64 (↑(List.length (List.take (List.length 
  lt - 1) (List.drop 1 lt))) : Int)]) fun (v : AV) => kBool v fun (b : Bool) => bif b then kOpt (EVs (EV cfg) 138 [.sl (List.take (List.length lt - 1) (List.drop 1 lt)), .sl V]) fun (v 
  : AV) => kBool v fun (b : Bool) => some (.bool b) else some (.bool false) else none else none) else none else none else none else some (.bool true)) P) : Gets (EVs (EV cfg) 113 ([AV.agg [AV.int IntKind.i64 kt, AV.int IntKind.i64 nt, AV.str st, AV.sl lt], AV.sl V] : List AV)) P :=
  Gets.ev (fun _ h => funS rfl rfl Tryz.func113 rfl h) (Gets.eq (by kernel_rfl) h)
theorem guardAll_run (L : List (List AV)) (V : List (List AV)) {P : AV → Prop} (h : Gets (kOpt (EVs (EV cfg) 154 [.sl L, AV.fn (Fn.func 155) [] [AV.cptr [.sl V] 0]]) fun (v : AV) => kBool v fun (b : Bool) => some (.bool !b)) P) : Gets (EVs (EV cfg) 138 ([AV.sl L, AV.sl V] : List AV)) P :=
  Gets.ev (fun _ h => funS rfl rfl Tryz.func138 rfl h) (Gets.eq (by kernel_rfl) h)
theorem guardCheck_run (kt : Int) (nt : Int) (st : List UInt8) (lt : List (List AV)) (V : List (List AV)) {P : AV → Prop} (h : Gets (kOpt (EVs (EV cfg) 46 [.agg [.int .i64 kt, .int .i64 nt, .str st, .sl lt]]) fun (v : AV) => kInt .i64 v fun (n : Int) => bif n != (0 : Int) then some (.int .i64 (2 : Int)) else kOpt 
  (EVs (EV cfg) 113 [.agg [.int .i64 kt, .int .i64 nt, .str st, .sl lt], .sl V]) fun (v : AV) => kBool v fun (b : Bool) => bif !b then some (.int .i64 (10 : Int)) else some (.int .i64 
  (0 : Int))) P) : Gets (EVs (EV cfg) 86 ([AV.agg [AV.int IntKind.i64 kt, AV.int IntKind.i64 nt, AV.str st, AV.sl lt], AV.sl V] : List AV)) P :=
  Gets.ev (fun _ h => funS rfl rfl Tryz.func86 rfl h) (Gets.eq (by kernel_rfl) h)
theorem makeList_run (L : List (List AV)) (kt : Int) (nt : Int) (st : List UInt8) (lt : List (List AV)) {P : AV → Prop} (h : Gets (ws78_0 (IntKind.wrap .i64 ((↑(List.length L) : Int) - (1 : Int))) kt nt st lt (0 : Int) (0 : Int) [] [] L) P) : Gets (EVf (EV cfg) 48 ([AV.sl L, AV.agg [AV.int IntKind.i64 kt, AV.int IntKind.i64 nt, AV.str st, AV.sl lt]] : List AV)) P :=
  Gets.ev (fun _ h => funF rfl rfl Tryz.func48 rfl h) (Gets.eq (by kernel_rfl) h)
theorem ws78_0_step (v3 : Int) (c0_0 : Int) (c0_1 : Int) (c0_2 : List UInt8) (c0_3 : List (List AV)) (c1_0 : Int) (c1_1 : Int) (c1_2 : List UInt8) (c1_3 : List (List AV)) (c2_0 : List (List AV)) {P : AV → Prop} (h : Gets (bif decide (v3 ≥ (0 : Int)) then bif leInt (0 : Int) v3 && ltInt v3 (↑(List.length c2_0) : Int) then kOpt (List.get?Internal c2_0 (Int.toNat v3)) fun (row : List AV) => bif Nat.beq 
  (List.length row) 4 then bif Nat.ble 4 (List.length row) then kTmC (List.take 4 row) fun (n n_1 : Int) (s : List UInt8) (rows : List (List AV)) => (ws78_0 (IntKind.wrap .i64 (v3 - (1 
  : Int))) (9 : Int) (0 : Int) [] [[.int .i64 n, .int .i64 n_1, .str s, .sl rows], [.int .i64 c0_0, .int .i64 c0_1, .str c0_2, .sl c0_3]] c1_0 c1_1 c1_2 c1_3 c2_0) else none else none 
  else none else some (.agg [.int .i64 c0_0, .int .i64 c0_1, .str c0_2, .sl c0_3])) P) : Gets (ws78_0 v3 c0_0 c0_1 c0_2 c0_3 c1_0 c1_1 c1_2 c1_3 c2_0) P :=
  Gets.ev (fun _ h => loop_step (cfg := cfg) (f := 89) (rd := none) (bs := 4) h) (Gets.eq (by kernel_rfl) h)
end Go.Proofs.YtonmmmgffeoiiaaGreat
end

section
namespace Go.Proofs.YtonmmmgffeoiiaaGreat
open Go.Av
set_option maxRecDepth 100000
set_option maxHeartbeats 0

noncomputable def Lt86_0 : Den := evC cfg (EV cfg) 166 none 0 (sub (bodyOf Tryz.f166) [1, 0, 1, 0, 0])
noncomputable def At86_0 : Ex × List AV × AH → Option AV := kAft (Cfg.keepOut cfg 166 2) (kRun cfg (EV cfg) (kfN cfg 6) 166 none 0 (kFinS cfg (Cfg.lift cfg 166 0) Tryz.f166.results.toList) ([.block 0, .seq (sub (bodyOf Tryz.f166) [1, 1])]))
noncomputable def Wt86_0 : List AV × AH → Option AV := fun p => kOpt (LOOP 0 (some [0, 1, 7, 8]) ([]) Lt86_0 p) At86_0
noncomputable abbrev wt86_0 (L : List (List AV)) (V : List (List AV)) (v8 : Int) : Option (AV) := Wt86_0  (((fx 19 [(0, AV.sl L), (1, AV.fn (Fn.func 155) [] [AV.cptr [AV.sl V] (0 : Nat)]), (7, AV.int IntKind.i64 (↑(List.length L) : Int)), (8, AV.int IntKind.i64 v8)]) : List AV), ([] : AH))
theorem contFunc_run (L : List (List AV)) (V : List (List AV)) {P : AV → Prop} (h : Gets (kOpt (EVs (EV cfg) 166 [.sl L, AV.fn (Fn.func 155) [] [AV.cptr [.sl V] 0]]) fun (v : AV) => kInt .i64 v fun (n : Int) => some (.bool (decide (n ≥ (0 : Int))))) P) : Gets (EVs (EV cfg) 154 ([AV.sl L, AV.fn (Fn.func 155) [] [AV.cptr [AV.sl V] (0 : Nat)]] : List AV)) P :=
  Gets.ev (fun _ h => funS rfl rfl Tryz.func154 rfl h) (Gets.eq (by kernel_rfl) h)
theorem indFunc_run (L : List (List AV)) (V : List (List AV)) {P : AV → Prop} (h : Gets (wt86_0 L V (0 : Int)) P) : Gets (EVs (EV cfg) 166 ([AV.sl L, AV.fn (Fn.func 155) [] [AV.cptr [AV.sl V] (0 : Nat)]] : List AV)) P :=
  Gets.ev (fun _ h => funS rfl rfl Tryz.func166 rfl h) (Gets.eq (by kernel_rfl) h)
theorem allIn_run (ke : Int) (ne : Int) (se : List UInt8) (le : List (List AV)) (V : List (List AV)) {P : AV → Prop} (h : Gets (kOpt (EVs (EV cfg) 113 [.agg [.int .i64 ke, .int .i64 ne, .str se, .sl le], .sl V]) fun (v : AV) => kBool v fun (b : Bool) => some (.bool !b)) P) : Gets (EVs (EV cfg) 155 ([AV.agg [AV.int IntKind.i64 ke, AV.int IntKind.i64 ne, AV.str se, AV.sl le], AV.cptr [AV.sl V] (0 : Nat)] : List AV)) P :=
  Gets.ev (fun _ h => funS rfl rfl Tryz.func155 rfl h) (Gets.eq (by kernel_rfl) h)
theorem wt86_0_step (L : List (List AV)) (V : List (List AV)) (v8 : Int) {P : AV → Prop} (h : Gets (bif decide (v8 < (↑(List.length L) : Int)) then bif leInt (0 : Int) v8 && ltInt v8 (↑(List.length L) : Int) then kOpt (List.get?Internal L (Int.toNat v8)) fun (row : List AV) => bif 
  Nat.beq (List.length row) 4 then bif Nat.ble 4 (List.length row) then kTmC (List.take 4 row) fun (n n_1 : Int) (s : List UInt8) (rows : List (List AV)) => (kOpt (EVs (EV cfg) 155 [.agg 
  [.int .i64 n, .int .i64 n_1, .str s, .sl rows], AV.cptr [.sl V] 0]) fun (v : AV) => kBool v fun (b : Bool) => bif b then some (.int .i64 v8) else wt86_0 L V (IntKind.wrap .i64 (v8 + 
  (1 : Int)))) else none else none else none else some (.int .i64 (-1 : Int))) P) : Gets (wt86_0 L V v8) P :=
  Gets.ev (fun _ h => loop_step (cfg := cfg) (f := 166) (rd := none) (bs := 0) h) (Gets.eq (by kernel_rfl) h)
end Go.Proofs.YtonmmmgffeoiiaaGreat
end

section
namespace Go.Proofs.YtonmmmgffeoiiaaGreat
open Go.Av
set_option maxRecDepth 100000
set_option maxHeartbeats 0

noncomputable def Lp71_0 : Den := evC cfg (EV cfg) 110 none 0 (sub (bodyOf Tryz.f110) [1, 1, 1, 0, 1, 0, 0])
noncomputable def Ap71_0 : Ex × List AV × AH → Option AV := kAft (Cfg.keepOut cfg 110 5) (kRun cfg (EV cfg) (kfN cfg 6) 110 none 0 (kFinS cfg (Cfg.lift cfg 110 0) Tryz.f110.results.toList) ([.block 0, .seq (sub (bodyOf Tryz.f110) [1, 1, 1, 1])]))
noncomputable def Wp71_0 : List AV × AH → Option AV := fun p => kOpt (LOOP 0 (some [4, 32, 33, 34]) ([]) Lp71_0 p) Ap71_0
noncomputable abbrev wp71_0 (s : List UInt8) (v4 : Int) (v34 : Int) (h0 : List (List AV)) : Option (AV) := Wp71_0  (((fx 52 [(4, AV.int IntKind.i64 v4), (32, AV.ms (0 : Nat) (0 : Nat) (List.length (List.take (List.length s - (1 : Nat)) (List.drop (1 : Nat) s)))), (33, AV.int IntKind.i64 (↑(List.length (List.take (List.length s - (1 : Nat)) (List.drop (1 : Nat) s))) : Int)), (34, AV.int IntKind.i64 v34)]) : List AV), ([ABlk.rows true (1 : Nat) h0] : AH))
theorem patNumber_run (s : List UInt8) {P : AV → Prop} (h : Gets (bif decide ((↑(List.length s) : Int) < (2 : Int)) then some (AV.tup [.int .i64 (0 : Int), .bool false]) else bif decide ((↑(List.length s) : Int) > (3 : Int)) then some (AV.tup [.int 
  .i64 (0 : Int), .bool false]) else kOpt (List.get?Internal s 0) fun (b : UInt8) => bif (↑(UInt8.toNat b) : Int) != (36 : Int) then some (AV.tup [.int .i64 (0 : Int), .bool false]) else 
  bif (↑(List.length s) : Int) == (3 : Int) then kOpt (List.get?Internal s 1) fun (b : UInt8) => bif (↑(UInt8.toNat b) : Int) == (48 : Int) then some (AV.tup [.int .i64 (0 : Int), .bool 
  false]) else bif leInt (1 : Int) (↑(List.length s) : Int) then wp71_0 s (0 : Int) (0 : Int) (List.map (fun (b : UInt8) => [.int .u8 (↑(UInt8.toNat b) : Int)]) (List.take (List.length 
  s - 1) (List.drop 1 s))) else none else bif leInt (1 : Int) (↑(List.length s) : Int) then wp71_0 s (0 : Int) (0 : Int) (List.map (fun (b : UInt8) => [.int .u8 (↑(UInt8.toNat b) : Int)]) 
  (List.take (List.length s - 1) (List.drop 1 s))) else none) P) : Gets (EVs (EV cfg) 110 ([AV.str s] : List AV)) P :=
  Gets.ev (fun _ h => funS rfl rfl Tryz.func110 rfl h) (Gets.eq (by kernel_rfl) h)
theorem patMay_run (kt : Int) (nt : Int) (st : List UInt8) (lt : List (List AV)) {P : AV → Prop} (h : Gets (kOpt (EVs (EV cfg) 46 [.agg [.int .i64 kt, .int .i64 nt, .str st, .sl lt]]) fun (v : AV) => kInt .i64 v fun (n : Int) => some (.bool (n == (0 : Int)))) P) : Gets (EVs (EV cfg) 108 ([AV.agg [AV.int IntKind.i64 kt, AV.int IntKind.i64 nt, AV.str st, AV.sl lt]] : List AV)) P :=
  Gets.ev (fun _ h => funS rfl rfl Tryz.func108 rfl h) (Gets.eq (by kernel_rfl) h)
theorem patVar_run (kt : Int) (nt : Int) (st : List UInt8) (lt : List (List AV)) {P : AV → Prop} (h : Gets (bif kt != (2 : Int) then some (AV.tup [.int .i64 (0 : Int), .bool false]) else kOpt (EVs (EV cfg) 108 [.agg [.int .i64 kt, .int .i64 nt, .str st, .sl lt]]) fun (v : AV) => kBool v fun 
  (b : Bool) => bif !b then some (AV.tup [.int .i64 (0 : Int), .bool false]) else kOpt (EVs (EV cfg) 110 [.str st]) fun (v : AV) => kTup v fun (cs : List AV) => kCons cs fun (c : AV) (cs 
  : List AV) => kInt .i64 c fun (n : Int) => kCons cs fun (c : AV) (cs : List AV) => kBool c fun (b : Bool) => kNil cs (some (AV.tup [.int .i64 n, .bool b]))) P) : Gets (EVs (EV cfg) 106 ([AV.agg [AV.int IntKind.i64 kt, AV.int IntKind.i64 nt, AV.str st, AV.sl lt]] : List AV)) P :=
  Gets.ev (fun _ h => funS rfl rfl Tryz.func106 rfl h) (Gets.eq (by kernel_rfl) h)
theorem setHas_run (n : Int) (r : List AV) {P : AV → Prop} (h : Gets (bif decide (n < (64 : Int)) then kOpt (List.get?Internal r 0) fun (v : AV) => kInt .u64 v fun (n_1 : Int) => kOpt (fromSem (Op.shift BinOp.shr .u64 n_1 .i64 n)) fun (v : AV) => kInt 
  .u64 v fun (n : Int) => kOpt (fromSem (Op.intBits BinOp.and .u64 n (1 : Int))) fun (v : AV) => kInt .u64 v fun (n : Int) => some (.bool (n == (1 : Int))) else kOpt (List.get?Internal 
  r 1) fun (v : AV) => kInt .u64 v fun (n_1 : Int) => kOpt (fromSem (Op.shift BinOp.shr .u64 n_1 .i64 (IntKind.wrap .i64 (n - (64 : Int))))) fun (v : AV) => kInt .u64 v fun (n : Int) 
  => kOpt (fromSem (Op.intBits BinOp.and .u64 n (1 : Int))) fun (v : AV) => kInt .u64 v fun (n : Int) => some (.bool (n == (1 : Int)))) P) : Gets (EVs (EV cfg) 112 ([AV.cptr r (0 : Nat), AV.int IntKind.i64 n] : List AV)) P :=
  Gets.ev (fun _ h => funS rfl rfl Tryz.func112 rfl h) (Gets.eq (by kernel_rfl) h)
theorem wp71_0_step (s : List UInt8) (v4 : Int) (v34 : Int) (h0 : List (List AV)) {P : AV → Prop} (h : Gets (bif decide (v34 < (↑(List.length (List.take (List.length s - 1) (List.drop 1 s))) : Int)) then bif leInt (0 : Int) v34 && ltInt v34 (↑(List.length (List.take (List.length s - 1) (List.drop 
  1 s))) : Int) then kOpt (List.get?Internal h0 (0 + Int.toNat v34)) fun (row : List AV) => kOpt (List.get?Internal row 0) fun (v : AV) => kInt .u8 v fun (n : Int) => bif decide (n < 
  (48 : Int)) then some (AV.tup [.int .i64 (0 : Int), .bool false]) else bif decide (n > (57 : Int)) then some (AV.tup [.int .i64 (0 : Int), .bool false]) else wp71_0 s (IntKind.wrap 
  .i64 (IntKind.wrap .i64 (v4 * (10 : Int)) + IntKind.wrap .i64 (IntKind.wrap .u8 (n - (48 : Int))))) (IntKind.wrap .i64 (v34 + (1 : Int))) h0 else none else some (AV.tup [.int .i64 v4, 
  .bool true])) P) : Gets (wp71_0 s v4 v34 h0) P :=
  Gets.ev (fun _ h => loop_step (cfg := cfg) (f := 110) (rd := none) (bs := 0) h) (Gets.eq (by kernel_rfl) h)
end Go.Proofs.YtonmmmgffeoiiaaGreat
end
