/-
  What the evaluation with what follows handed along tells, the evaluation tells too: calls, regions, code, functions. Own work.
  What is proved: that, without condition.
-/
import Derived.Test.YtpbfmaodnihpeaaAvK2
namespace Go.Av
variable {α : Type} {r : α} {H : AH}

theorem kRowsOf_some {n : Nat} {x : AV} {k : List (List AV) → Option α} (h : kRowsOf H n x k = some r) : ∃ rows, rowsOf H n x = some rows ∧ k rows = some r := by
  unfold kRowsOf at h
  unfold rowsOf
  split at h
  · exact ⟨_, rfl, h⟩
  · obtain ⟨h1, hz⟩ := cond_some h
    exact ⟨_, by simp only [h1, if_true], hz⟩
  · obtain ⟨sz, rs, h1, h⟩ := kBlk_some h
    obtain ⟨h2, hz⟩ := cond_some h
    rw [Bool.and_eq_true] at h2
    refine ⟨_, ?_, hz⟩
    simp only [h1]
    rw [if_pos]
    rw [Bool.and_eq_true, beq_iff_eq]
    exact ⟨Nat.eq_of_beq_eq_true h2.1, h2.2⟩
  · cases h

theorem kSrc_some {b : Bool} {n : Nat} {x : AV} {k : List (List AV) → Option α} (h : kSrc b H n x k = some r) : ∃ rows, srcRows H n x = some rows ∧ k rows = some r := by
  unfold kSrc at h
  rcases cond_or h with ⟨_, h⟩ | ⟨_, h⟩
  · obtain ⟨s, rfl, h⟩ := kStr_some h
    obtain ⟨h1, hz⟩ := cond_some h
    exact ⟨_, by simp only [srcRows, h1, if_true], hz⟩
  · obtain ⟨rows, h1, hz⟩ := kRowsOf_some h
    refine ⟨rows, ?_, hz⟩
    unfold srcRows
    split
    · simp [rowsOf] at h1
    · exact h1

theorem kConvert_some {cfg : Cfg} {nid : Option Nat} {s d : TypeId} {x : AV} {k : KH α} (h : kConvert cfg nid s d x H k = some r) : ∃ v H', aConvert cfg nid s d x H = some (v, H') ∧ k v H' = some r := by
  unfold kConvert at h
  unfold aConvert
  split at h
  · rename_i hs hd
    split at h
    · exact ⟨_, _, by simp only [hs, hd], h⟩
    · cases h
  · rename_i hs hd
    obtain ⟨b, rfl, hz⟩ := kStr_some h
    exact ⟨_, _, by simp only [hs, hd], hz⟩
  · rename_i e hs hd
    split at h
    · rename_i hte
      obtain ⟨b, rfl, h0⟩ := kStr_some h
      obtain ⟨i, H', h1, hz⟩ := kNew_some h0
      exact ⟨_, _, by simp only [hs, hd, hte, h1], hz⟩
    · cases h
  · rename_i e hs hd
    split at h
    · rename_i hte
      obtain ⟨rows, h1, h⟩ := kOpt_some h
      obtain ⟨bs, h2, hz⟩ := kOpt_some h
      refine ⟨.str bs, H, ?_, hz⟩
      simp only [hs, hd]
      cases x <;> first | (simp only [hte, h1, h2]; done) | (simp [rowsOf] at h1)
    · cases h
  · cases h

theorem kAppend_some {cfg : Cfg} {nid : Option Nat} {t xt : TypeId} {s x : AV} {k : KH α} (h : kAppend cfg nid t xt s x H k = some r) : ∃ v H', aAppend cfg nid t xt s x H = some (v, H') ∧ k v H' = some r := by
  unfold kAppend at h
  unfold aAppend
  split at h
  case h_2 => cases h
  rename_i e xd ht hxt
  split at h
  case h_2 => cases h
  rename_i ei hei
  obtain ⟨h1, h⟩ := cond_some h
  obtain ⟨news, h2, h⟩ := kSrc_some h
  simp only [ht, hxt, hei, h1, if_true, h2]
  split at h
  · rcases cond_or h with ⟨h3, hz⟩ | ⟨h3, h⟩
    · exact ⟨_, _, by simp only [h3, if_true], hz⟩
    · obtain ⟨h4, h⟩ := cond_some h
      obtain ⟨i, H', h5, hz⟩ := kNew_some h
      exact ⟨_, _, by simp only [h3, Bool.false_eq_true, if_false, h4, if_true, h5], hz⟩
  · obtain ⟨d, sz, rs, h3, h⟩ := kBlkW_some h
    obtain ⟨h4, h⟩ := cond_some h
    obtain ⟨i, H', h5, hz⟩ := kNew_some h
    exact ⟨_, _, by simp only [h3, h4, if_true, h5], hz⟩
  · cases h

theorem kLen_some {cfg : Cfg} {t : TypeId} {x : AV} {k : KV α} (h : kLen cfg t x H k = some r) : ∃ v, aLen cfg t x H = some v ∧ k v = some r := by
  unfold kLen at h
  unfold aLen
  split at h
  · rename_i ht
    obtain ⟨s, rfl, hz⟩ := kStr_some h
    exact ⟨_, by simp only [ht], hz⟩
  · rename_i e ht
    split at h
    · exact ⟨_, by simp only [ht], h⟩
    · exact ⟨_, by simp only [ht], h⟩
    · exact ⟨_, by simp only [ht], h⟩
    · cases h
  · rename_i n e ht
    exact ⟨_, by simp only [ht], h⟩
  · rename_i a b ht
    split at h
    · exact ⟨_, by simp only [ht], h⟩
    · obtain ⟨b, h1, h⟩ := kOpt_some h
      split at h
      · exact ⟨_, by simp only [ht, h1], h⟩
      · cases h
    · cases h
  · cases h

theorem kMake_some {cfg : Cfg} {nid : Option Nat} {t : TypeId} {l c : AV} {k : KH α} (h : kMake cfg nid t l c H k = some r) : ∃ v H', aMake cfg nid t l c H = some (v, H') ∧ k v H' = some r := by
  unfold kMake at h
  unfold aMake
  split at h
  case h_2 => cases h
  rename_i e ht
  split at h
  case h_2 => cases h
  rename_i ei hei
  obtain ⟨h1, h⟩ := cond_some h
  obtain ⟨n, rfl, ha⟩ := kInt_some h
  obtain ⟨m, rfl, hb⟩ := kInt_some ha
  obtain ⟨h2, hd⟩ := cond_some hb
  obtain ⟨i, H', h3, hz⟩ := kNew_some hd
  rw [Bool.and_eq_true, Bool.and_eq_true, Bool.and_eq_true, leInt_iff, leInt_iff, leInt_iff, leInt_iff] at h2
  exact ⟨_, _, by simp only [ht, hei, h1, if_true]; rw [if_pos ⟨h2.1.1.1, h2.1.1.2, h2.1.2, h2.2⟩]; simp only [h3], hz⟩

theorem kNilCheck_some {v : AV} {k : KV α} {cfg : Cfg} {nid : Option Nat} {a : Operand} {ty : TypeId} {x : Operand → AV} (hx : x a = v) (h : kNilCheck v k = some r) : evOp cfg nid (.nilCheck a) ty x H = some (v, H) ∧ k v = some r := by
  unfold kNilCheck at h
  simp only [evOp, hx]
  split at h <;> first | exact ⟨rfl, h⟩ | cases h

theorem kOp_some {cfg : Cfg} {nid : Option Nat} {o : Op} {ty : TypeId} {x : Operand → AV} {k : KH α} (h : kOp cfg nid o ty x H k = some r) : ∃ v H', evOp cfg nid o ty x H = some (v, H') ∧ k v H' = some r := by
  cases o with
  | move a => exact ⟨_, _, rfl, h⟩
  | assign a => exact ⟨_, _, rfl, h⟩
  | pick c a b =>
    simp only [kOp] at h
    obtain ⟨t, h1, h⟩ := kBool_some h
    have := kPick_some (k := fun v => k v H) h
    exact ⟨_, _, by simp only [evOp, h1], this⟩
  | alloc t =>
    simp only [kOp] at h
    split at h
    · rename_i ti hti
      obtain ⟨h1, h⟩ := cond_some h
      obtain ⟨i, H', h2, hz⟩ := kNew_some h
      exact ⟨_, _, by simp only [evOp, hti, h1, if_true, h2], hz⟩
    · cases h
  | box t a =>
    simp only [kOp] at h
    obtain ⟨cs, h1, h⟩ := kCellsOf_some h
    obtain ⟨i, H', h2, hz⟩ := kNew_some h
    exact ⟨_, _, by simp only [evOp, h1, h2], hz⟩
  | build t parts =>
    simp only [kOp] at h
    split at h
    case h_2 => cases h
    rename_i ti hti
    obtain ⟨h1, h⟩ := cond_some h
    split at h
    · rename_i fs hfs
      split at h
      case h_2 => cases h
      rename_i ps hps
      obtain ⟨qs, h2, h3⟩ := placesK_of hps
      obtain ⟨cs, h4, hz⟩ := kFill_some (place' := fun i => qs[i]?) (fun i off n g hi => h3 i off n g hi) h
      exact ⟨_, _, by simp only [evOp, hti, h1, if_true, hfs, h2, h4, Option.map_some], hz⟩
    · rename_i m e hfs
      split at h
      case h_2 => cases h
      rename_i n hn
      obtain ⟨cs, h4, hz⟩ := kFill_some (place' := fun i => some (i * n, n)) (fun i off m g hi => by cases hi; rfl) h
      exact ⟨_, _, by simp only [evOp, hti, h1, if_true, hfs, hn, h4, Option.map_some], hz⟩
    · cases h
  | buildSlice t len parts =>
    simp only [kOp] at h
    split at h
    case h_2 => cases h
    rename_i e ht
    split at h
    case h_2 => cases h
    rename_i ei hei
    obtain ⟨h1, h⟩ := cond_some h
    obtain ⟨rows, h2, h⟩ := kRows_some h
    obtain ⟨i, H', h3, hz⟩ := kNew_some h
    exact ⟨_, _, by simp only [evOp, ht, hei, h1, if_true, h2, h3], hz⟩
  | load t a =>
    simp only [kOp] at h
    split at h
    case h_2 => cases h
    rename_i ti hti
    obtain ⟨v, h1, h⟩ := kLoad_some h
    exact ⟨_, _, by simp only [evOp, hti, h1, Option.map_some], kTy_some (k := fun v => k v H) h⟩
  | store t a v =>
    simp only [kOp] at h
    split at h
    case h_2 => cases h
    rename_i ti hti
    obtain ⟨H', h1, hz⟩ := kStore_some h
    exact ⟨_, _, by simp only [evOp, (ty_sz hti).1, h1, Option.map_some], hz⟩
  | nilCheck a =>
    obtain ⟨h1, h2⟩ := kNilCheck_some (cfg := cfg) (nid := nid) (ty := ty) (H := H) (x := x) (a := a) (k := fun v => k v H) rfl h
    exact ⟨_, _, h1, h2⟩
  | binOp op t a b yt =>
    simp only [kOp] at h
    obtain ⟨v, h1, h⟩ := kOpt_some h
    exact ⟨_, _, by simp only [evOp, h1, Option.map_some], kTy_some (k := fun v => k v H) h⟩
  | unOp op t a =>
    simp only [kOp] at h
    obtain ⟨v, h1, h⟩ := kOpt_some h
    exact ⟨_, _, by simp only [evOp, h1, Option.map_some], kTy_some (k := fun v => k v H) h⟩
  | convert s d a => exact kConvert_some h
  | makeFunc f first caps => exact ⟨_, _, rfl, h⟩
  | makeSlice t l c => exact kMake_some h
  | slice t a lo hi mx =>
    simp only [kOp] at h
    obtain ⟨v, h1, hz⟩ := kSlice_some h
    exact ⟨_, _, by simp only [evOp, h1, Option.map_some], hz⟩
  | fieldAddr t a f =>
    simp only [kOp] at h
    obtain ⟨v, h1, hz⟩ := kFieldAddr_some h
    exact ⟨_, _, by simp only [evOp, h1, Option.map_some], hz⟩
  | field t a f =>
    simp only [kOp] at h
    obtain ⟨v, h1, h⟩ := kField_some h
    exact ⟨_, _, by simp only [evOp, h1, Option.map_some], kTy_some (k := fun v => k v H) h⟩
  | indexAddr t a i =>
    simp only [kOp] at h
    obtain ⟨v, h1, hz⟩ := kIndexAddr_some h
    exact ⟨_, _, by simp only [evOp, h1, Option.map_some], hz⟩
  | index t a i =>
    simp only [kOp] at h
    obtain ⟨v, h1, h⟩ := kIndex_some h
    exact ⟨_, _, by simp only [evOp, h1, Option.map_some], kTy_some (k := fun v => k v H) h⟩
  | extract t i =>
    simp only [kOp] at h
    split at h
    · rename_i vs hvs
      obtain ⟨v, h1, h⟩ := kOpt_some h
      exact ⟨_, _, by simp only [evOp, hvs, h1, Option.map_some], kTy_some (k := fun v => k v H) h⟩
    · cases h
  | call c =>
    simp only [kOp] at h
    obtain ⟨callee, args, argTypes⟩ := c
    simp only at h
    simp only [evOp]
    split at h
    case h_2 => cases h
    generalize args.toList = al at *
    generalize argTypes.toList = tl at *
    split at h
    · obtain ⟨v, h1, hz⟩ := kLen_some h
      exact ⟨_, _, by simp only [h1, Option.map_some], hz⟩
    · exact kAppend_some h
    · obtain ⟨v, h1, h⟩ := kOpt_some h
      exact ⟨_, _, by simp only [h1], kTy_some (k := fun u => k u v.2) h⟩
    · obtain ⟨v, h1, hz⟩ := kOpt_some h
      exact ⟨_, _, by simp only [h1, Option.map_some], hz⟩
    · obtain ⟨v, h1, h⟩ := kOpt_some h
      exact ⟨_, _, by simp only [h1, Option.map_some], kTy_some (k := fun v => k v H) h⟩
    · obtain ⟨v, h1, h⟩ := kOpt_some h
      exact ⟨_, _, by simp only [h1, Option.map_some], kTy_some (k := fun v => k v H) h⟩
    · cases h
  | _ => simp only [kOp] at h; cases h

theorem kCall_some {cfg : Cfg} {cf : Orac} {nid : Option Nat} {ty : TypeId} {t : Tgt} {args : List AV} {k : KH α} (h : kCall cfg cf nid ty t args H k = some r) : ∃ v H', callT cfg cf nid t args H = some (v, H') ∧ k v H' = some r := by
  cases t with
  | y id =>
    simp only [kCall] at h
    obtain ⟨q, h1, h⟩ := kOpt_some h
    obtain ⟨p, h2, h⟩ := kOpt_some h
    exact ⟨_, _, by simp only [callT, h1, Option.bind_some]; exact h2, kTy_some (k := fun v => k v p.2) h⟩
  | f f =>
    simp only [kCall] at h
    cases hm : cfg.mode f with
    | scal =>
      simp only [hm] at h
      obtain ⟨h1, h⟩ := cond_some (kArgs_some h)
      obtain ⟨v, h2, h⟩ := kOpt_some h
      have h3 := kTy_some (k := fun v => cond v.scalar (k v H) none) h
      obtain ⟨h4, hz⟩ := cond_some h3
      unfold EVs at h2
      obtain ⟨q, h5, h6⟩ := Option.map_eq_some_iff.1 h2
      exact ⟨v, H, by simp only [callT, hm, h1, if_true, h5, Option.bind_some, h6, h4], hz⟩
    | pfrz =>
      simp only [hm] at h
      obtain ⟨h1, h⟩ := cond_some h
      obtain ⟨v, h2, h⟩ := kOpt_some h
      have h3 := kTy_some (k := fun v => cond (v.refsLt 0) (k v H) none) h
      obtain ⟨h4, hz⟩ := cond_some h3
      unfold EVf at h2
      obtain ⟨q, h5, h6⟩ := Option.map_eq_some_iff.1 h2
      exact ⟨v, H, by simp only [callT, hm, h1, if_true, h5, Option.bind_some, h6, h4], hz⟩
    | pown =>
      simp only [hm] at h
      obtain ⟨h1, h⟩ := cond_some h
      obtain ⟨o, h2, h⟩ := kOpt_some h
      unfold EVo at h2
      obtain ⟨q, h5, h6⟩ := Option.bind_eq_some_iff.1 h2
      unfold ovOf at h6
      split at h6
      · rename_i hq
        cases h6
        exact ⟨.nilS, H, by simp only [callT, hm, h1, if_true, h5, Option.bind_some, ownRes, hq, AV.refsLt], h⟩
      · rename_i id off len hq
        split at h6
        case h_2 => cases h6
        rename_i sz rs hid
        split at h6
        case isFalse => cases h6
        rename_i hr
        cases h6
        simp only [kOwn] at h
        obtain ⟨i, H', h7, hz⟩ := kNew_some h
        exact ⟨_, _, by simp only [callT, hm, h1, if_true, h5, Option.bind_some, ownRes, hq, hid, hr, h7], hz⟩
      · cases h6
    | imp =>
      simp only [hm] at h
      obtain ⟨q, h1, h⟩ := kOpt_some h
      obtain ⟨p, h2, h⟩ := kOpt_some h
      exact ⟨_, _, by simp only [callT, hm, h1, Option.bind_some]; exact h2, kTy_some (k := fun v => k v p.2) h⟩
    | ifrz =>
      simp only [hm] at h
      obtain ⟨q, h1, h⟩ := kOpt_some h
      obtain ⟨p, h2, h⟩ := kOpt_some h
      exact ⟨_, _, by simp only [callT, hm, h1, Option.bind_some]; exact h2, kTy_some (k := fun v => k v p.2) h⟩

theorem kTgt_some {f : AV} {args : List AV} {k : Tgt → List AV → Option α} (h : kTgt f args k = some r) : ∃ t, tgtOf f args = some t ∧ k t.1 t.2 = some r := by
  unfold kTgt at h
  unfold tgtOf
  split at h
  · exact ⟨_, rfl, h⟩
  · exact ⟨_, rfl, h⟩
  · cases h

theorem kOper_some {cfg : Cfg} {cf : Orac} {frz : Bool} {nid : Option Nat} {o : Oper} {x : Operand → AV} {k : KH α} (h : kOper cfg cf frz nid o x H k = some r) : ∃ v H', evOper cfg cf frz nid o x H = some (v, H') ∧ k v H' = some r := by
  have core : ∀ {x : Operand → AV} {H : AH}, (match o.op with
      | .call c =>
        match c.callee with
        | .value f => kTgt (x f) (c.args.toList.map x) fun t as => kCall cfg cf nid o.type t as H k
        | _ => kOp cfg nid o.op o.type x H k
      | _ => kOp cfg nid o.op o.type x H k) = some r → ∃ v H', (match o.op with
        | .call c =>
          match c.callee with
          | .value f => (tgtOf (x f) (c.args.toList.map x)).bind fun t => callT cfg cf nid t.1 t.2 H
          | _ => evOp cfg nid o.op o.type x H
        | _ => evOp cfg nid o.op o.type x H) = some (v, H') ∧ k v H' = some r := by
    intro x H h
    cases ho : o.op with
    | call c =>
      simp only [ho] at h ⊢
      cases hc : c.callee with
      | value f =>
        simp only [hc] at h ⊢
        obtain ⟨t, h1, h⟩ := kTgt_some h
        obtain ⟨v, H', h2, hz⟩ := kCall_some h
        exact ⟨v, H', by rw [h1]; exact h2, hz⟩
      | _ => simp only [hc] at h ⊢; exact kOp_some h
    | _ => simp only [ho] at h ⊢; exact kOp_some h
  unfold kOper at h
  unfold evOper
  cases frz with
  | true => simp only [cond_true] at h; simp only [if_true]; exact core h
  | false => simp only [cond_false] at h; simp only [Bool.false_eq_true, if_false]; exact core h

theorem set_self {fr : List AV} {d : Nat} {v : AV} (h : fr[d]? = some v) : fr.set d v = fr := by
  obtain ⟨hl, e⟩ := List.getElem?_eq_some_iff.1 h
  rw [← e]; exact List.set_getElem_self hl

theorem kWanted_some {ops : Array Oper} {fr : List AV} {o : Oper} {k : Bool → List AV → Option α} (h : kWanted ops fr o k = some r) : ∃ b, wantedA ops fr o = some b ∧ k b fr = some r := by
  unfold kWanted at h
  unfold wantedA
  split at h
  · rename_i hg; rw [hg]; exact ⟨true, rfl, h⟩
  · rename_i j want hg
    rw [hg]
    simp only
    split at h
    · rename_i d hd
      rw [hd]
      simp only
      obtain ⟨v, h1, h⟩ := kOpt_some h
      obtain ⟨b, rfl, h⟩ := kBool_some h
      rw [h1]
      simp only
      refine ⟨_, rfl, ?_⟩
      rcases cond_or h with ⟨rfl, h⟩ | ⟨rfl, h⟩
      · rw [set_self h1] at h
        cases want <;> exact h
      · rw [set_self h1] at h
        cases want <;> exact h
    · cases h

theorem kOps_some {cfg : Cfg} {cf : Orac} {f rid : Nat} {ops : Array Oper} : ∀ {l : List Oper} {n : Nat} {fr : List AV} {H : AH} {k : List AV → AH → Option α}, kOps cfg cf f rid ops n l fr H k = some r → ∃ q, evOps cfg cf f rid ops n l fr H = some q ∧ k q.1 q.2 = some r
  | [], n, fr, H, k, h => ⟨(fr, H), rfl, h⟩
  | o :: l, n, fr, H, k, h => by
    rw [kOps] at h
    obtain ⟨b, h1, h⟩ := kWanted_some h
    rw [evOps, h1]
    simp only [Option.bind_some]
    rcases cond_or h with ⟨rfl, h⟩ | ⟨rfl, h⟩
    · obtain ⟨v, H', h2, h⟩ := kOper_some h
      simp only [if_true, h2, Option.bind_some]
      exact kOps_some h
    · simp only [Bool.false_eq_true, if_false]
      exact kOps_some h

theorem cond_if {β : Type} (b : Bool) (x y : β) : cond b x y = if b then x else y := by cases b <;> rfl

theorem kDraw_some {cfg : Cfg} {cf : Orac} {f rid : Nat} {ops : Array Oper} : ∀ {l : List Oper} {n at_ : Nat} {fr : List AV} {H : AH} {k : List FP → List AV → AH → Option α}, kDraw cfg cf f rid ops n at_ l fr H k = some r →
    ∃ q, evDraw cfg cf f rid ops n at_ l fr H = some q ∧ k q.1 q.2.1 q.2.2 = some r
  | [], n, at_, fr, H, k, h => ⟨([], fr, H), rfl, h⟩
  | o :: l, n, at_, fr, H, k, h => by
    rw [kDraw] at h
    obtain ⟨b, h1, h⟩ := kWanted_some h
    rw [evDraw, h1]
    simp only [Option.bind_some]
    rcases cond_or h with ⟨rfl, h9⟩ | ⟨rfl, h9⟩
    · obtain ⟨v, H', h2, h8⟩ := kOper_some h9
      simp only [if_true, h2, Option.bind_some]
      rw [cond_if] at h8
      obtain ⟨q, h3, hz⟩ := kDraw_some h8
      exact ⟨_, by rw [h3]; rfl, hz⟩
    · simp only [Bool.false_eq_true, if_false]
      rw [cond_if] at h9
      obtain ⟨q, h3, hz⟩ := kDraw_some h9
      exact ⟨_, by rw [h3]; rfl, hz⟩

theorem known_self {fr : List AV} {c : Operand} {b : Bool} (h : opd fr c = .bool b) : known fr c b = fr := by
  cases c with
  | tmp d =>
    simp only [known]
    have hg : fr[d]? = some (.bool b) := by
      have h' : fr.getD d .junk = .bool b := h
      rw [List.getD_eq_getElem?_getD] at h'
      cases hd : fr[d]? with
      | none => rw [hd] at h'; cases h'
      | some v => rw [hd] at h'; simp at h'; rw [h']
    exact set_self hg
  | _ => rfl

theorem kCode_some {cfg : Cfg} {cf : Orac} {f : Nat} {rd : Option Nat} : ∀ (c : Code) {fr : List AV} {H : AH} {k : KE α}, kCode cfg cf f rd c fr H k = some r → ∃ q, evC cfg cf f rd c fr H = some q ∧ k q.1 q.2.1 q.2.2 = some r := by
  intro c
  induction c with
  | skip => intro fr H k h; exact ⟨(.normal, fr, H), by simp only [evC], by simpa only [kCode] using h⟩
  | label l => intro fr H k h; exact ⟨(.normal, fr, H), by simp only [evC], by simpa only [kCode] using h⟩
  | exit id => intro fr H k h; exact ⟨(.exit id, fr, H), by simp only [evC], by simpa only [kCode] using h⟩
  | ret => intro fr H k h; exact ⟨(.ret, fr, H), by simp only [evC], by simpa only [kCode] using h⟩
  | goto l => intro fr H k h; simp only [kCode] at h; cases h
  | refuse s => intro fr H k h; simp only [kCode] at h; cases h
  | region id ops draw =>
    intro fr H k h
    simp only [kCode] at h
    simp only [evC]
    cases draw with
    | true =>
      simp only [cond_true] at h
      simp only [if_true]
      obtain ⟨h1, h⟩ := cond_some h
      obtain ⟨q, h2, h⟩ := kDraw_some h
      obtain ⟨h3, hz⟩ := cond_some h
      exact ⟨(.normal, q.2), by simp only [h1, if_true, h2, Option.bind_some, h3], hz⟩
    | false =>
      simp only [cond_false] at h
      simp only [Bool.false_eq_true, if_false]
      obtain ⟨q, h2, hz⟩ := kOps_some h
      exact ⟨(.normal, q), by simp only [h2, Option.map_some], hz⟩
  | seq x y ihx ihy =>
    intro fr H k h
    simp only [kCode] at h
    simp only [evC]
    obtain ⟨q, h1, h⟩ := ihx h
    rw [h1]
    simp only [Option.bind_some]
    unfold kSeq at h
    cases hq : q.1 with
    | normal => simp only [hq] at h ⊢; exact ihy h
    | exit id => simp only [hq] at h ⊢; exact ⟨_, rfl, h⟩
    | goto l => simp only [hq] at h ⊢; exact ⟨_, rfl, h⟩
    | ret => simp only [hq] at h ⊢; exact ⟨_, rfl, h⟩
  | cond cnd x y ihx ihy =>
    intro fr H k h
    simp only [kCode] at h
    simp only [evC]
    obtain ⟨b, h1, h⟩ := kBool_some h
    rw [h1]
    simp only
    rcases cond_or h with ⟨rfl, h⟩ | ⟨rfl, h⟩
    · rw [known_self h1] at h
      simp only [if_true]; exact ihx h
    · rw [known_self h1] at h
      simp only [Bool.false_eq_true, if_false]; exact ihy h
  | block id x ih =>
    intro fr H k h
    simp only [kCode] at h
    simp only [evC]
    obtain ⟨q, h1, h⟩ := ih h
    rw [h1]
    simp only [Option.bind_some]
    unfold kBlock at h
    cases hq : q.1 with
    | normal => simp only [hq] at h ⊢; exact ⟨_, rfl, by rw [hq]; exact h⟩
    | exit id' =>
      simp only [hq] at h ⊢
      rcases cond_or h with ⟨h2, hz⟩ | ⟨h2, hz⟩
      · exact ⟨_, by simp only [h2, if_true]; rfl, hz⟩
      · exact ⟨q, by simp only [h2, Bool.false_eq_true, if_false], by rw [hq]; exact hz⟩
    | goto l => simp only [hq] at h ⊢; exact ⟨_, rfl, by rw [hq]; exact h⟩
    | ret => simp only [hq] at h ⊢; exact ⟨_, rfl, by rw [hq]; exact h⟩
  | loop x ih =>
    intro fr H k h
    simp only [kCode] at h
    simp only [evC]
    obtain ⟨q, h1, hz⟩ := kOpt_some h
    exact ⟨(q.1, maskFr (cfg.keepOut f (firstRid x)) q.2.1, q.2.2), by rw [h1]; rfl, hz⟩
  | scope x ih =>
    intro fr H k h
    simp only [kCode] at h
    simp only [evC]
    obtain ⟨q, h1, h⟩ := ih h
    rw [h1]
    simp only [Option.bind_some]
    unfold kScope at h
    cases hq : q.1 with
    | goto l => simp only [hq] at h; cases h
    | normal => simp only [hq] at h ⊢; exact ⟨_, rfl, by rw [hq]; exact h⟩
    | exit id => simp only [hq] at h ⊢; exact ⟨_, rfl, by rw [hq]; exact h⟩
    | ret => simp only [hq] at h ⊢; exact ⟨_, rfl, by rw [hq]; exact h⟩
  | rangeFunc g ps assign body =>
    intro fr H k h
    simp only [kCode] at h
    obtain ⟨q, h1, hz⟩ := kOpt_some h
    exact ⟨q, h1, hz⟩

theorem kRes_some {cfg : Cfg} {fr : List AV} : ∀ {rs : List ResultVar} {k : List AV → Option α}, kRes cfg fr H rs k = some r → ∃ vs, resVals rs cfg.ty fr H = some vs ∧ k vs = some r
  | [], k, h => ⟨[], rfl, h⟩
  | .tmp t :: l, k, h => by
    rw [kRes] at h
    obtain ⟨vs, h1, hz⟩ := kRes_some h
    exact ⟨_, by simp only [resVals, h1, Option.map_some], hz⟩
  | .cell a t :: l, k, h => by
    rw [kRes] at h
    split at h
    · rename_i ti hti
      obtain ⟨v, h1, h⟩ := kLoad_some h
      have h2 := kTy_some (k := fun v => kRes cfg fr H l fun vs => k (v :: vs)) h
      obtain ⟨vs, h3, hz⟩ := kRes_some h2
      exact ⟨_, by simp only [resVals, hti, h1, Option.bind_some, h3, Option.map_some], hz⟩
    · cases h

theorem kFun_some {cfg : Cfg} {cf : Orac} {f : Nat} {fn : Func} {c : Code} {args : List AV} {r : AV × AH} (hx : cfg.ext f = none) (hk : cfg.known f = true) (hf : cfg.P.funcs[f]? = some fn) (hb : fn.body = some c) (h : kFun cfg cf f fn c args H = some r) :
    evBody cfg cf (.f f) args H = some r := by
  unfold kFun at h
  obtain ⟨q, h1, h⟩ := kCode_some c h
  unfold evBody
  simp only [hx, hk, if_true, hf, hb, h1, Option.bind_some]
  unfold kFin at h
  unfold finish
  split at h
  · rename_i hq
    obtain ⟨vs, h2, h⟩ := kRes_some h
    cases h
    simp only [hq, h2, Option.map_some]
  · rename_i hq
    obtain ⟨vs, h2, h⟩ := kRes_some h
    cases h
    simp only [hq, h2, Option.map_some]
  · cases h

/-- a loop's body -/
theorem kEnd_some {cfg : Cfg} {cf : Orac} {f : Nat} {rd : Option Nat} {c : Code} {fr : List AV} {q : Ex × List AV × AH} (h : kCode cfg cf f rd c fr H kEnd = some q) : evC cfg cf f rd c fr H = some q := by
  obtain ⟨p, h1, h2⟩ := kCode_some c h
  cases h2
  exact h1
end Go.Av
