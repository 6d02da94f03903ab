/-
  Parts of the proof of SpecRunsUptoSaid, put together: the abstract evaluation and its contracts. Own work.
  What is proved: each lemma as it stands; no condition.
-/
import Derived.KernelRfl
import Derived.Test.YtkgkjngbfdnoiaaGreatProg
import Derived.Lib.Bytealg
import Derived.Test.YtkgkjngbfdnoiaaGreatRows
import Derived.ProofKit
import Derived.OpenShut
import Derived.JoinedCond
import Derived.ChangeArms
import Derived.RowKit
import Derived.WalkKit
import Derived.Test.YtkgkjngbfdnoiaaGreatZSpecRunsM2
open List renaming get?Internal → qyG, length → qyH, getElem?_eq_getElem → qyI, getElem?_eq_some_iff → qyL, take → qyM, take_of_length_le → qyP, mem_of_getElem? → qyR, drop_eq_getElem_cons → qyS, getElem?_append_left → qyU, drop_eq_nil_of_le → qyV, getElem?_set → qyX, getElem?_append_right → qyZ, append → qy4, length_append → qy6, getElem?_cons_zero → qy8, length_take → qzb, length_cons → qzc, length_map → qzd, replicate → qzf, mem_append → qzi, drop → qzj, drop_zero → qzk, mem_cons → qzm, range → qzn
open Option renaming bind_eq_some_iff → qyJ, map_eq_some_iff → qyO, bind_some → qy0, map_some → qy7, isSome_some → qzl
open Bool renaming and_eq_true → qyK, and_self → qy2, false_eq_true → qza, true_and → qzg, not_true → qzh
open Nat renaming le_refl → qyN, ble → qyQ, eq_of_beq_eq_true → qyT, beq → qyW, beq_refl → qy1, mul_le_mul_right → qy5, ble_eq → qy9
open Int renaming toNat → qyY, toNat_natCast → qy3
open Array renaming toList → qze
set_option maxRecDepth 1000000
set_option maxHeartbeats 0
section
namespace Go.Av
variable {α : Type} {r : α} {H : AH}
theorem qmD {n : Nat} {x : AV} {k : List (List AV) → Option α} (h : qjR H n x k = some r) : ∃ rows, xT H n x = some rows ∧ k rows = some r := by
 unfold qjR at h
 unfold xT
 split at h
 ·exact ⟨_, rfl, h⟩
 ·exact ⟨_, rfl, h⟩
 ·obtain ⟨h1, hz⟩ := qv h
  exact ⟨_, by simp only [h1, if_true], hz⟩
 ·obtain ⟨sz, rs, h1, h⟩ := zS h
  obtain ⟨h2, hz⟩ := qv h
  rw [qyK] at h2
  refine ⟨_, ?_, hz⟩
  simp only [h1]
  rw [if_pos]
  rw [qyK, beq_iff_eq]
  exact ⟨qyT h2.1, h2.2⟩
 ·cases h
theorem qky {b : Bool} {n : Nat} {x : AV} {k : List (List AV) → Option α} (h : kSrc b H n x k = some r) : ∃ rows, xN H n x = some rows ∧ k rows = some r := by
 unfold kSrc at h
 rcases yh h with ⟨_, h⟩ | ⟨_, h⟩
 ·obtain ⟨s, rfl, h⟩ := zg h
  obtain ⟨h1, hz⟩ := qv h
  exact ⟨_, by simp only [xN, h1, if_true], hz⟩
 ·obtain ⟨rows, h1, hz⟩ := qmD h
  refine ⟨rows, ?_, hz⟩
  unfold xN
  split
  ·simp [xT] at h1
  ·exact h1
theorem qk8 {cfg : Cfg} {nid : Option Nat} {s d : TypeId} {x : AV} {k : KH α} (h : qhf cfg nid s d x H k = some r) : ∃ v H', zj cfg nid s d x H = some (v, H') ∧ k v H' = some r := by
 unfold qhf at h
 unfold zj
 split at h
 ·rename_i hs hd
  split at h
  ·exact ⟨_, _, by simp only [hs, hd], h⟩
  ·cases h
 ·rename_i hs hd
  obtain ⟨b, rfl, hz⟩ := zg h
  exact ⟨_, _, by simp only [hs, hd], hz⟩
 ·rename_i e hs hd
  split at h
  ·rename_i hte
   obtain ⟨b, rfl, h0⟩ := zg h
   obtain ⟨i, H', h1, hz⟩ := x6 h0
   exact ⟨_, _, by simp only [hs, hd, hte, h1], hz⟩
  ·cases h
 ·rename_i e hs hd
  split at h
  ·rename_i hte
   obtain ⟨rows, h1, h⟩ := qG h
   obtain ⟨bs, h2, hz⟩ := qG h
   refine ⟨.str bs, H, ?_, hz⟩
   simp only [hs, hd]
   cases x <;> first | (simp only [hte, h1, h2]; done) | (simp [xT] at h1)
  ·cases h
 ·cases h
theorem qmM {cfg : Cfg} {nid : Option Nat} {t xt : TypeId} {s x : AV} {k : KH α} (h : qjV cfg nid t xt s x H k = some r) : ∃ v H', zU cfg nid t xt s x H = some (v, H') ∧ k v H' = some r := by
 unfold qjV at h
 unfold zU
 split at h
 case h_2 => cases h
 rename_i e xd ht hxt
 split at h
 case h_2 => cases h
 rename_i ei hei
 obtain ⟨h1, h⟩ := qv h
 obtain ⟨news, h2, h⟩ := qky h
 simp only [ht, hxt, hei, h1, if_true, h2]
 split at h
 ·rcases yh h with ⟨h3, hz⟩ | ⟨h3, h⟩
  ·exact ⟨_, _, by simp only [h3, if_true], hz⟩
  ·obtain ⟨h4, h⟩ := qv h
   obtain ⟨i, H', h5, hz⟩ := x6 h
   exact ⟨_, _, by simp only [h3, qza, if_false, h4, if_true, h5], hz⟩
 ·obtain ⟨d, sz, rs, h3, h⟩ := zt h
  obtain ⟨h4, h⟩ := qv h
  obtain ⟨i, H', h5, hz⟩ := x6 h
  exact ⟨_, _, by simp only [h3, h4, if_true, h5], hz⟩
 ·cases h
theorem qsf {cfg : Cfg} {t : TypeId} {x : AV} {k : KV α} (h : kLen cfg t x H k = some r) : ∃ v, aLen cfg t x H = some v ∧ k v = some r := by
 unfold kLen at h
 unfold aLen
 split at h
 ·rename_i ht
  obtain ⟨s, rfl, hz⟩ := zg h
  exact ⟨_, by simp only [ht], hz⟩
 ·rename_i e ht
  split at h
  ·exact ⟨_, by simp only [ht], h⟩
  ·exact ⟨_, by simp only [ht], h⟩
  ·exact ⟨_, by simp only [ht], h⟩
  ·exact ⟨_, by simp only [ht], h⟩
  ·exact ⟨_, by simp only [ht], h⟩
  ·exact ⟨_, by simp only [ht], h⟩
  ·cases h
 ·rename_i n e ht
  exact ⟨_, by simp only [ht], h⟩
 ·rename_i a b ht
  split at h
  ·exact ⟨_, by simp only [ht], h⟩
  ·obtain ⟨b, h1, h⟩ := qG h
   split at h
   ·exact ⟨_, by simp only [ht, h1], h⟩
   ·cases h
  ·cases h
 ·cases h
theorem qqH {cfg : Cfg} {nid : Option Nat} {t : TypeId} {l c : AV} {k : KH α} (h : qqI cfg nid t l c H k = some r) : ∃ v H', qcf cfg nid t l c H = some (v, H') ∧ k v H' = some r := by
 unfold qqI at h
 unfold qcf
 split at h
 case h_2 => cases h
 rename_i e ht
 split at h
 case h_2 => cases h
 rename_i ei hei
 obtain ⟨h1, h⟩ := qv h
 obtain ⟨n, rfl, ha⟩ := qaR h
 obtain ⟨m, rfl, hb⟩ := qaR ha
 obtain ⟨h2, hd⟩ := qv hb
 obtain ⟨i, H', h3, hz⟩ := x6 hd
 rw [qyK, qyK, qyK, vZ, vZ, vZ, vZ] at h2
 exact ⟨_, _, by simp only [ht, hei, h1, if_true]; rw [if_pos ⟨h2.1.1.1, h2.1.1.2, h2.1.2, h2.2⟩]; simp only [h3], hz⟩
theorem qjU {v : AV} {k : KV α} {cfg : Cfg} {nid : Option Nat} {a : Operand} {ty : TypeId} {x : Operand → AV} (hx : x a = v) (h : qe0 v k = some r) : evOp cfg nid (.nilCheck a) ty x H = some (v, H) ∧ k v = some r := by
 unfold qe0 at h
 simp only [evOp, hx]
 split at h <;> first | exact ⟨rfl, h⟩ | cases h
theorem qoz {cfg : Cfg} {t : TypeId} {x : AV} {k : AH → Option α} (h : qmL cfg t x H k = some r) : ∃ H', qc9 cfg t x H = some H' ∧ k H' = some r := by
 unfold qmL at h
 unfold qc9
 split at h
 case h_2 => cases h
 rename_i e he
 rw [he]
 split at h
 ·exact ⟨H, rfl, h⟩
 ·rename_i id off len
  split at h
  case h_2 => cases h
  rename_i ei hei
  obtain ⟨d, sz, rs, h1, h⟩ := zt h
  obtain ⟨h2, hz⟩ := qv h
  exact ⟨_, by simp only [hei, h1, h2, if_true], hz⟩
 ·cases h
theorem qqN {cfg : Cfg} {t xt : TypeId} {d s : AV} {k : KH α} (h : qqO cfg t xt d s H k = some r) : ∃ v H', qfW cfg t d s H = some (v, H') ∧ k v H' = some r := by
 unfold qqO at h
 unfold qfW
 split at h
 case h_2 => cases h
 rename_i e he
 rw [he]
 split at h
 case h_2 => cases h
 rename_i id off len
 split at h
 case h_2 => cases h
 rename_i n hn
 obtain ⟨db, sz, rs, h1, h⟩ := zt h
 obtain ⟨news, h2, h⟩ := qky h
 obtain ⟨h3, hz⟩ := qv h
 exact ⟨_, _, by simp only [hn, h1, h2, h3, if_true], hz⟩
theorem qmH {cfg : Cfg} {nid : Option Nat} {o : Op} {ty : TypeId} {x : Operand → AV} {k : KH α} (h : kOp cfg nid o ty x H k = some r) : ∃ v H', evOp cfg nid o ty x H = some (v, H') ∧ k v H' = some r := by
 cases o with
 | move a => exact ⟨_, _, rfl, h⟩
 | assign a => exact ⟨_, _, rfl, h⟩
 | pick c a b =>
  simp only [kOp] at h
  obtain ⟨t, h1, h⟩ := qbm h
  have := qqF (k := fun v => k v H) h
  exact ⟨_, _, by simp only [evOp, h1], this⟩
 | alloc t =>
  simp only [kOp] at h
  split at h
  ·rename_i ti hti
   obtain ⟨h1, h⟩ := qv h
   obtain ⟨i, H', h2, hz⟩ := x6 h
   exact ⟨_, _, by simp only [evOp, hti, h1, if_true, h2], hz⟩
  ·cases h
 | box t a =>
  simp only [kOp] at h
  obtain ⟨cs, h1, h⟩ := zH h
  obtain ⟨i, H', h2, hz⟩ := x6 h
  exact ⟨_, _, by simp only [evOp, h1, h2], hz⟩
 | build t parts =>
  simp only [kOp] at h
  split at h
  case h_2 => cases h
  rename_i ti hti
  obtain ⟨h1, h⟩ := qv h
  split at h
  ·rename_i fs hfs
   split at h
   case h_2 => cases h
   rename_i ps hps
   obtain ⟨qs, h2, h3⟩ := qio hps
   obtain ⟨cs, h4, hz⟩ := qdE (place' := fun i => qs[i]?) (fun i off n g hi => h3 i off n g hi) h
   exact ⟨_, _, by simp only [evOp, hti, h1, if_true, hfs, h2, h4, qy7], hz⟩
  ·rename_i m e hfs
   split at h
   case h_2 => cases h
   rename_i n hn
   obtain ⟨cs, h4, hz⟩ := qdE (place' := fun i => some (i * n, n)) (fun i off m g hi => by cases hi; rfl) h
   exact ⟨_, _, by simp only [evOp, hti, h1, if_true, hfs, hn, h4, qy7], hz⟩
  ·cases h
 | buildSlice t len parts =>
  simp only [kOp] at h
  split at h
  case h_2 => cases h
  rename_i e ht
  split at h
  case h_2 => cases h
  rename_i ei hei
  obtain ⟨h1, h⟩ := qv h
  obtain ⟨rows, h2, h⟩ := qiJ h
  obtain ⟨i, H', h3, hz⟩ := x6 h
  exact ⟨_, _, by simp only [evOp, ht, hei, h1, if_true, h2, h3], hz⟩
 | load t a =>
  simp only [kOp] at h
  split at h
  case h_2 => cases h
  rename_i ti hti
  split at h
  ·rename_i cs off hx
   obtain ⟨v, h1, h⟩ := zq h
   have h2 := vJ (k := fun v => cond ti.d.agg (k v.lendA H) (k v.lend H)) h
   rcases yh h2 with ⟨ha, h2⟩ | ⟨ha, h2⟩
   ·rw [ha] at h1
    simp only [if_true] at h1
    split at h1
    ·rename_i hb
     cases h1
     refine ⟨_, _, ?_, h2⟩
     simp only [evOp, hti, hx, qaj, ha, if_true, hb, qy7, AV.lendA]
    ·cases h1
   ·rw [ha] at h1
    simp only [qza, if_false] at h1
    refine ⟨_, _, ?_, h2⟩
    simp only [evOp, hti, hx, qaj, ha, qza, if_false, h1, qy7]
  ·rename_i id cs hx
   obtain ⟨v, h1, h⟩ := qdB h
   exact ⟨_, _, by simp only [evOp, hti, hx, h1, qy7], h⟩
  ·obtain ⟨v, h1, h⟩ := qdB h
   exact ⟨_, _, by simp only [evOp, hti, h1, qy7], vJ (k := fun v => k v H) h⟩
 | store t a v =>
  simp only [kOp] at h
  split at h
  case h_2 => cases h
  rename_i ti hti
  obtain ⟨H', h1, hz⟩ := qou h
  exact ⟨_, _, by simp only [evOp, (quG hti).1, h1, qy7], hz⟩
 | nilCheck a =>
  obtain ⟨h1, h2⟩ := qjU (cfg := cfg) (nid := nid) (ty := ty) (H := H) (x := x) (a := a) (k := fun v => k v H) rfl h
  exact ⟨_, _, h1, h2⟩
 | binOp op t a b yt =>
  simp only [kOp] at h
  obtain ⟨v, h1, h⟩ := qG h
  exact ⟨_, _, by simp only [evOp, h1, qy7], vJ (k := fun v => k v H) h⟩
 | unOp op t a =>
  simp only [kOp] at h
  obtain ⟨v, h1, h⟩ := qG h
  exact ⟨_, _, by simp only [evOp, h1, qy7], vJ (k := fun v => k v H) h⟩
 | convert s d a => exact qk8 h
 | makeFunc f first caps => exact ⟨_, _, rfl, h⟩
 | makeSlice t l c => exact qqH h
 | slice t a lo hi mx =>
  simp only [kOp] at h
  obtain ⟨v, h1, hz⟩ := qov h
  exact ⟨_, _, by simp only [evOp, h1, qy7], hz⟩
 | fieldAddr t a f =>
  simp only [kOp] at h
  obtain ⟨v, h1, hz⟩ := qiS h
  exact ⟨_, _, by simp only [evOp, h1, qy7], hz⟩
 | field t a f =>
  simp only [kOp] at h
  obtain ⟨v, h1, h⟩ := qox h
  exact ⟨_, _, by simp only [evOp, h1, qy7], vJ (k := fun v => k v H) h⟩
 | indexAddr t a i =>
  simp only [kOp] at h
  obtain ⟨v, h1, hz⟩ := qiN h
  exact ⟨_, _, by simp only [evOp, h1, qy7], hz⟩
 | index t a i =>
  simp only [kOp] at h
  obtain ⟨v, h1, h⟩ := qow h
  exact ⟨_, _, by simp only [evOp, h1, qy7], vJ (k := fun v => k v H) h⟩
 | extract t i =>
  simp only [kOp] at h
  split at h
  ·rename_i vs hvs
   obtain ⟨v, h1, h⟩ := qG h
   exact ⟨_, _, by simp only [evOp, hvs, h1, qy7], vJ (k := fun v => k v H) h⟩
  ·cases h
 | call c =>
  simp only [kOp] at h
  obtain ⟨callee, args, argTypes⟩ := c
  simp only at h
  simp only [evOp]
  split at h
  case h_2 => cases h
  generalize args.toList = al at *
  generalize argTypes.toList = tl at *
  split at h
  ·obtain ⟨v, h1, hz⟩ := qsf h
   exact ⟨_, _, by simp only [h1, qy7], hz⟩
  ·exact qmM h
  ·rename_i d s t xt
   obtain ⟨v, H', h1, hz⟩ := qqN h
   exact ⟨_, _, h1, hz⟩
  ·obtain ⟨v, h1, hz⟩ := qoz h
   exact ⟨_, _, by simp only [h1, qy7], hz⟩
  ·obtain ⟨v, h1, h⟩ := qG h
   exact ⟨_, _, by simp only [h1, qy7], vJ (k := fun v => k v H) h⟩
  ·obtain ⟨v, h1, h⟩ := qG h
   exact ⟨_, _, by simp only [h1, qy7], vJ (k := fun v => k v H) h⟩
  ·cases h
 | _ => simp only [kOp] at h; cases h
def KfOk (cf : Orac) (kf : KF α) : Prop := ∀ t a H k r, kf t a H k = some r → ∃ q, cf t a H = some q ∧ k q = some r
theorem qdH {cf : Orac} {f : Nat} : ∀ {l : List AV} {k : Option α}, qiV cf f l k = some r → y7 cf f l = some () ∧ k = some r
 | [], _, h => ⟨rfl, h⟩
 | a :: l, k, h => by
  rw [qiV] at h
  obtain ⟨u, h1, h⟩ := qG h
  obtain ⟨h2, hz⟩ := qdH h
  refine ⟨?_, hz⟩
  unfold EVz at h1
  obtain ⟨q, h3, h4⟩ := qyJ.1 h1
  rw [y7, h3]
  simp only [qy0, h4, h2]
theorem qqQ {cfg : Cfg} {cf : Orac} {kf : KF α} (hkf : KfOk cf kf) {nid : Option Nat} {ty : TypeId} {t : Tgt} {args : List AV} {k : KH α} (h : qfQ cfg cf kf nid ty t args H k = some r) : ∃ v H', vr cfg cf nid t args H = some (v, H') ∧ k v H' = some r := by
 cases t with
 | y id =>
  simp only [qfQ] at h
  obtain ⟨q, h1, h⟩ := hkf _ _ _ _ _ h
  obtain ⟨p, h2, h⟩ := qG h
  exact ⟨_, _, by simp only [vr, h1, qy0]; exact h2, vJ (k := fun v => k v p.2) h⟩
 | f f =>
  simp only [qfQ] at h
  cases hm : cfg.mode f with
  | scal =>
   simp only [hm] at h
   obtain ⟨h1, h⟩ := qv (qiU h)
   split at h
   ·obtain ⟨q, h5, h⟩ := hkf _ _ _ _ _ h
    have h3 := vJ (k := fun v => cond v.scalar (k v H) none) h
    obtain ⟨h4, hz⟩ := qv h3
    exact ⟨q.1, H, by simp only [vr, hm, h1, if_true, h5, qy0, h4], hz⟩
   obtain ⟨v, h2, h⟩ := qG h
   have h3 := vJ (k := fun v => cond v.scalar (k v H) none) h
   obtain ⟨h4, hz⟩ := qv h3
   unfold EVs at h2
   obtain ⟨q, h5, h6⟩ := qyO.1 h2
   exact ⟨v, H, by simp only [vr, hm, h1, if_true, h5, qy0, h6, h4], hz⟩
  | pfrz =>
   simp only [hm] at h
   obtain ⟨h1, h⟩ := qv h
   split at h
   ·obtain ⟨q, h5, h⟩ := hkf _ _ _ _ _ h
    have h2 := qb8 (k := fun v => kTy qfU cfg ty v fun v => cond (v.refsLt 0) (k v H) none) h
    have h3 := vJ (k := fun v => cond (v.refsLt 0) (k v H) none) h2
    obtain ⟨h4, hz⟩ := qv h3
    exact ⟨_, H, by simp only [vr, hm, h1, if_true, h5, qy0, h4], hz⟩
   obtain ⟨v, h2, h⟩ := qG h
   have h3 := vJ (k := fun v => cond (v.refsLt 0) (k v H) none) h
   obtain ⟨h4, hz⟩ := qv h3
   unfold EVf at h2
   obtain ⟨q, h5, h6⟩ := qyO.1 h2
   exact ⟨v, H, by simp only [vr, hm, h1, if_true, h5, qy0, h6, h4], hz⟩
  | pown =>
   simp only [hm] at h
   split at h
   ·rename_i t1 t2 _
    obtain ⟨h1, h⟩ := qv h
    obtain ⟨q, h2, h⟩ := qG h
    obtain ⟨p, h5, h6⟩ := qyJ.1 h2
    unfold qqn at h6
    split at h6
    case h_2 => cases h6
    rename_i a sc hp
    obtain ⟨h7, h6⟩ := qv h6
    split at h6
    case h_2 => cases h6
    rename_i o ho
    cases h6
    have h := qeX (k := fun s => kOwn o (k (.tup [.nilS, s]) H) fun sz rs off len => kNew nid H (.rows true sz rs) fun i H' => k (.tup [.ms i off len, s]) H') h
    unfold ovOf at ho
    split at ho
    ·rename_i hq
     cases ho
     refine ⟨.tup [.nilS, sc], H, ?_, h⟩
     have hq : a = .nilS := hq
     simp only [vr, hm, h1, if_true, h5, qy0, qbI, hp, h7, hq, yz, AV.refsLt, qy7]
    ·rename_i id off len hq
     split at ho
     case h_2 => cases ho
     rename_i sz rs hid
     split at ho
     case isFalse => cases ho
     rename_i hr
     cases ho
     simp only [kOwn] at h
     obtain ⟨i, H', h8, hz⟩ := x6 h
     have hq : a = .ms id off len := hq
     refine ⟨_, _, ?_, hz⟩
     simp only [vr, hm, h1, if_true, h5, qy0, qbI, hp, h7, hq, yz, hid, hr, h8, qy7]
    ·cases ho
   ·obtain ⟨h1, h⟩ := qv h
    have key : ∃ q o, cf (.f f) args [] = some q ∧ ovOf q = some o ∧ (kOwn o (k .nilS H) fun sz rs off len => kNew nid H (.rows true sz rs) fun i H' => k (.ms i off len) H') = some r := by
     split at h
     ·obtain ⟨q, h5, h⟩ := hkf _ _ _ _ _ h
      obtain ⟨o, h6, h⟩ := qG h
      exact ⟨q, o, h5, h6, h⟩
     ·obtain ⟨o, h2, h⟩ := qG h
      unfold EVo at h2
      obtain ⟨q, h5, h6⟩ := qyJ.1 h2
      exact ⟨q, o, h5, h6, h⟩
    obtain ⟨q, o, h5, h6, h⟩ := key
    unfold ovOf at h6
    split at h6
    ·rename_i hq
     cases h6
     exact ⟨.nilS, H, by simp only [vr, hm, h1, if_true, h5, qy0, qbI, yz, hq, AV.refsLt], h⟩
    ·rename_i id off len hq
     split at h6
     case h_2 => cases h6
     rename_i sz rs hid
     split at h6
     case isFalse => cases h6
     rename_i hr
     cases h6
     simp only [kOwn] at h
     obtain ⟨i, H', h7, hz⟩ := x6 h
     exact ⟨_, _, by simp only [vr, hm, h1, if_true, h5, qy0, qbI, yz, hq, hid, hr, h7], hz⟩
    ·cases h6
  | inpl =>
   simp only [hm] at h
   have res : ∀ (kd : Nat) (ik : IntKind) (id : Nat) (v : MV) (k : KV α), qlu kd ik id v k = some r → k (v.av id) = some r := by
    intro kd ik id v k h
    unfold qlu at h
    split at h
    ·cases v <;> first | exact h | exact absurd h (by simp [zB])
    ·cases v <;> first | exact h | exact absurd h (by simp [kMSl])
    ·cases v with
     | int q n =>
      obtain ⟨h1, h2⟩ := qv h
      rw [← qeV h1] at h2
      exact h2
     | _ => exact absurd h (by simp [z8])
    ·cases v <;> first | exact h | exact absurd h (by simp [xr])
   split at h
   case h_2 =>
    rename_i hids
    obtain ⟨h1, h⟩ := qv h
    obtain ⟨v1, h2, h⟩ := qG h
    unfold EVu at h2
    obtain ⟨r1, h5, h6⟩ := qyJ.1 h2
    split at h6
    case isFalse => cases h6
    rename_i hrf
    have hav : r1.1 = v1.av 0 := by
     unfold mvOf at h6
     split at h6
     ·rename_i e; cases h6; rw [e]; rfl
     ·rename_i e; cases h6; rw [e]; rfl
     ·rename_i i off len e
      rw [e] at hrf
      simp [AV.refsLt, Nat.blt_eq] at hrf
     ·rename_i e; cases h6; rw [e]; rfl
     ·rename_i e; cases h6; rw [e]; rfl
     ·cases h6
    refine ⟨v1.av 0, H, ?_, res _ _ _ _ (fun v => k v H) h⟩
    simp only [vr, hm, hids, h1, if_true, h5, qy0, hrf]
    rw [hav]
   rename_i id l hids
   obtain ⟨h1, h⟩ := qv h
   obtain ⟨b, h2, h⟩ := qG h
   split at h
   case h_2 => cases h
   rename_i d sz rs
   obtain ⟨h3, h⟩ := qv h
   obtain ⟨q, h4, h⟩ := qG h
   unfold EVm at h4
   obtain ⟨r1, h5, h6⟩ := qyJ.1 h4
   obtain ⟨q1, h7, h8⟩ := qyJ.1 h6
   obtain ⟨v1, h9, h10⟩ := qyO.1 h8
   cases h10
   have hav : q1.1.ren (fun _ => id) = v1.av id := by
    unfold mvOf at h9
    split at h9
    ·rename_i e; cases h9; rw [e]; simp [AV.ren, renL, MV.av]
    ·rename_i e; cases h9; rw [e]; simp [AV.ren, MV.av]
    ·rename_i i off len e
     split at h9
     ·cases h9; rw [e]; simp [AV.ren, MV.av]
     ·cases h9
    ·rename_i e; cases h9; rw [e]; simp [AV.ren, MV.av]
    ·rename_i e; cases h9; rw [e]; simp [AV.ren, MV.av]
    ·cases h9
   have hk : k (v1.av id) (H.set id (.rows true sz q1.2)) = some r := res _ _ _ _ (fun v => k v (H.set id (.rows true sz q1.2))) h
   refine ⟨v1.av id, _, ?_, hk⟩
   simp only [vr, hm, hids, h1, if_true, h2, h3, h5, qy0, h7, qy7, hav]
  | inpf =>
   simp only [hm] at h
   split at h
   case h_2 => cases h
   rename_i id l hids
   obtain ⟨h1, h⟩ := qv h
   obtain ⟨b, h2, h⟩ := qG h
   split at h
   case h_2 => cases h
   rename_i d sz rs
   obtain ⟨h3, h⟩ := qv h
   obtain ⟨q, h4, h⟩ := qG h
   unfold EVd at h4
   obtain ⟨r1, h5, h6⟩ := qyJ.1 h4
   have hk := vJ (k := fun v => k v (H.set id (.rows true sz q.2))) h
   refine ⟨q.1, _, ?_, hk⟩
   simp only [vr, hm, hids, h1, if_true, h2, h3, h5, qy0, h6, qy7]
  | slf =>
   simp only [hm] at h
   split at h
   case h_2 => cases h
   rename_i id l hids
   obtain ⟨h1, h⟩ := qv h
   obtain ⟨b, h2, h⟩ := qG h
   split at h
   case h_2 => cases h
   rename_i d sz rs
   obtain ⟨h3, h⟩ := qv h
   obtain ⟨q, h4, h⟩ := qG h
   have h4 := qt5 h4
   unfold EVx at h4
   obtain ⟨r1, h5, h6⟩ := qyJ.1 h4
   have hk := vJ (k := fun v => k v (H.set id (.rows false sz (renR (fun _ => id) (renR (fun _ => 0) rs))))) h
   refine ⟨q, _, ?_, hk⟩
   simp only [vr, hm, hids, h1, if_true, h2, h3, h5, qy0, h6, qy7]
  | rgn =>
   simp only [hm] at h
   obtain ⟨h1, h⟩ := qv h
   obtain ⟨V, h2, h⟩ := qG h
   have h3 := vJ (k := fun V => kNew nid H .reg fun i H' => k (rgIn i V) H') h
   obtain ⟨i, H', h4, hz⟩ := x6 h3
   unfold EVg at h2
   obtain ⟨q, h5, h6⟩ := qyJ.1 h2
   exact ⟨_, _, by simp only [vr, hm, h1, if_true, h5, qy0, h6, h4, qy7], hz⟩
  | over =>
   simp only [hm] at h
   split at h
   case h_2 => cases h
   rename_i a
   split at h
   case h_2 => cases h
   rename_i id l hids
   obtain ⟨h1, h⟩ := qv h
   obtain ⟨b, h2, h⟩ := qG h
   split at h
   ·obtain ⟨h3, hz⟩ := qdH h
    exact ⟨_, _, by simp only [vr, hm, hids, h1, if_true, h2, h3, qy7], hz⟩
   ·obtain ⟨h3, hz⟩ := qdH h
    exact ⟨_, _, by simp only [vr, hm, hids, h1, if_true, h2, h3, qy7], hz⟩
   ·cases h
  | imp =>
   simp only [hm] at h
   obtain ⟨q, h1, h⟩ := hkf _ _ _ _ _ h
   obtain ⟨p, h2, h⟩ := qG h
   exact ⟨_, _, by simp only [vr, hm, h1, qy0]; exact h2, vJ (k := fun v => k v p.2) h⟩
  | ifrz =>
   simp only [hm] at h
   obtain ⟨q, h1, h⟩ := hkf _ _ _ _ _ h
   obtain ⟨p, h2, h⟩ := qG h
   exact ⟨_, _, by simp only [vr, hm, h1, qy0]; exact h2, vJ (k := fun v => k v p.2) h⟩
theorem qsd {f : AV} {args : List AV} {k : Tgt → List AV → Option α} (h : kTgt f args k = some r) : ∃ t, yJ f args = some t ∧ k t.1 t.2 = some r := by
 unfold kTgt at h
 unfold yJ
 split at h
 ·exact ⟨_, rfl, h⟩
 ·exact ⟨_, rfl, h⟩
 ·cases h
theorem qsg {ids : List Nat} {v : AV} {k : KV α} (hi : ∀ id ∈ v.msIds, id ∈ ids) (h : qqJ H v k = some r) : k (v.frz ids H) = some r := by
 unfold qqJ at h
 split at h
 ·rename_i cs
  have := qaS (ids := ids) (fun v hv id off len e => hi id (qb4 hv e)) h
  simpa [AV.frz, Function.comp_def] using this
 ·rename_i cs
  have := qaS (k := fun cs => k (.tup cs)) (ids := ids) (fun v hv id off len e => hi id (qb4 hv e)) h
  simpa [AV.frz, Function.comp_def] using this
 ·rename_i h1 h2
  have h4 := (z9 h).1 ids (fun id off len e => hi id (by subst e; simp [AV.msIds, AV.msId])) rfl
  have e1 : v.frz ids H = v.frz1 ids H := by
   cases v <;> first | rfl | exact absurd rfl (h1 _) | exact absurd rfl (h2 _)
  rw [e1]; exact h4
theorem qdD {ids : List Nat} : ∀ {l : List AV} {k : List AV → Option α}, (∀ v ∈ l, ∀ id ∈ v.msIds, id ∈ ids) → qe2 H l k = some r → k (l.map fun v => v.frz ids H) = some r
 | [], k, _, h => h
 | a :: l, k, hi, h => by
  rw [qe2] at h
  have h1 := qsg (ids := ids) (hi a (by simp)) h
  exact qdD (k := fun l => k (a.frz ids H :: l)) (fun v hv => hi v (by simp [hv])) h1
theorem qvf {a b : Operand} (h : opEq a b = true) : a = b := by
 cases a <;> cases b <;> simp_all [opEq]
theorem qpg {y : Operand → AV} (a : Operand) : ∀ l : List Operand, frzX l (l.map y) y a = y a
 | [] => rfl
 | b :: l => by
  rw [List.map_cons, frzX]
  cases hb : opEq b a with
  | true => rw [cond_true, qvf hb]
  | false => rw [cond_false]; exact qpg a l
theorem qiO {cfg : Cfg} {nid : Option Nat} {o : Oper} {x : Operand → AV} {k : KH α} (h : qlv cfg nid o x H k = some r) :
  kOp cfg nid o.op o.type (fun a => (x a).frz (o.op.operands.toList.flatMap fun a => (x a).msIds) H) (q6 (o.op.operands.toList.flatMap fun a => (x a).msIds) H) k = some r := by
 unfold qlv at h
 have h1 := qdD (ids := o.op.operands.toList.flatMap fun a => (x a).msIds) (fun v hv id hid => by
  obtain ⟨a, ha, rfl⟩ := List.mem_map.1 hv
  exact List.mem_flatMap.2 ⟨a, ha, hid⟩) h
 rw [List.map_map] at h1
 have e : frzX o.op.operands.toList (o.op.operands.toList.map ((fun v => v.frz (o.op.operands.toList.flatMap fun a => (x a).msIds) H) ∘ x)) (fun a => (x a).frz (o.op.operands.toList.flatMap fun a => (x a).msIds) H) = fun a => (x a).frz (o.op.operands.toList.flatMap fun a => (x a).msIds) H := funext fun a => qpg a _
 rw [e] at h1
 exact h1
theorem qiL {cfg : Cfg} {cf : Orac} {kf : KF α} (hkf : KfOk cf kf) {frz : Bool} {nid : Option Nat} {o : Oper} {x : Operand → AV} {k : KH α} (h : qlt cfg cf kf frz nid o x H k = some r) : ∃ v H', vU cfg cf frz nid o x H = some (v, H') ∧ k v H' = some r := by
 have core : ∀ {x : Operand → AV} {H : AH}, (match o.op with
   | .call c =>
    match c.callee with
    | .value f => kTgt (x f) (c.args.toList.map x) fun t al => qfQ cfg cf kf nid o.type t al H k
    | _ => kOp cfg nid o.op o.type x H k
   | _ => kOp cfg nid o.op o.type x H k) = some r → ∃ v H', (match o.op with
    | .call c =>
     match c.callee with
     | .value f => (yJ (x f) (c.args.toList.map x)).bind fun t => vr cfg cf nid t.1 t.2 H
     | _ => evOp cfg nid o.op o.type x H
    | _ => evOp cfg nid o.op o.type x H) = some (v, H') ∧ k v H' = some r := by
  intro x H h
  cases ho : o.op with
  | call c =>
   simp only [ho] at h ⊢
   cases hc : c.callee with
   | value f =>
    simp only [hc] at h ⊢
    obtain ⟨t, h1, h⟩ := qsd h
    obtain ⟨v, H', h2, hz⟩ := qqQ hkf h
    exact ⟨v, H', by rw [h1]; exact h2, hz⟩
   | _ => simp only [hc] at h ⊢; exact qmH h
  | _ => simp only [ho] at h ⊢; exact qmH h
 unfold qlt at h
 unfold vU
 cases frz with
 | true =>
  simp only [cond_true] at h
  simp only [if_true]
  refine core (x := fun a => (x a).frz (o.op.operands.toList.flatMap fun a => (x a).msIds) H) (H := q6 (o.op.operands.toList.flatMap fun a => (x a).msIds) H) ?_
  cases ho : o.op with
  | call c =>
   simp only [ho] at h ⊢
   cases hc : c.callee with
   | value f =>
    simp only [hc] at h ⊢
    have h1 := qdD (ids := (Op.call c).operands.toList.flatMap fun a => (x a).msIds) (fun v hv id hid => by
     obtain ⟨a, ha, rfl⟩ := List.mem_map.1 hv
     refine List.mem_flatMap.2 ⟨a, ?_, hid⟩
     simp [Op.operands, Call.operands, hc, Array.mem_toList_iff.1 ha]) h
    rw [List.map_map] at h1
    exact h1
   | _ => simp only [hc] at h ⊢; have h := qiO h; rw [ho] at h; exact h
  | _ => simp only [ho] at h ⊢; have h := qiO h; rw [ho] at h; exact h
 | false => simp only [cond_false] at h; simp only [qza, if_false]; exact core h
theorem qg6 {fr : List AV} {d : Nat} {v : AV} (h : fr[d]? = some v) : fr.set d v = fr := by
 obtain ⟨hl, e⟩ := qyL.1 h
 rw [← e]; exact List.set_getElem_self hl
theorem qeW {ops : Array Oper} {fr : List AV} {o : Oper} {k : Bool → List AV → Option α} (h : qfO ops fr o k = some r) : ∃ b, yu ops fr o = some b ∧ k b fr = some r := by
 unfold qfO at h
 unfold yu
 split at h
 ·rename_i hg; rw [hg]; exact ⟨true, rfl, h⟩
 ·rename_i j want hg
  rw [hg]
  simp only
  split at h
  ·rename_i d hd
   rw [hd]
   simp only
   obtain ⟨v, h1, h⟩ := qG h
   rw [h1]
   split at h
   ·split at h
    ·exact ⟨false, rfl, h⟩
    ·cases h
   ·obtain ⟨b, rfl, h⟩ := qbm h
    simp only
    refine ⟨_, rfl, ?_⟩
    rcases yh h with ⟨rfl, h⟩ | ⟨rfl, h⟩
    ·rw [qg6 h1] at h
     cases want <;> exact h
    ·rw [qg6 h1] at h
     cases want <;> exact h
  ·cases h
theorem qeY {cfg : Cfg} {cf : Orac} {kf : KF α} (hkf : KfOk cf kf) {f rid : Nat} {ops : Array Oper} : ∀ {l : List Oper} {n : Nat} {fr : List AV} {H : AH} {k : List AV → AH → Option α}, kOps cfg cf kf f rid ops n l fr H k = some r → ∃ q, qaG cfg cf f rid ops n l fr H = some q ∧ k q.1 q.2 = some r
 | [], n, fr, H, k, h => ⟨(fr, H), rfl, h⟩
 | o :: l, n, fr, H, k, h => by
  rw [kOps] at h
  obtain ⟨b, h1, h⟩ := qeW h
  rw [qaG, h1]
  simp only [qy0]
  rcases yh h with ⟨rfl, h⟩ | ⟨rfl, h⟩
  ·obtain ⟨v, H', h2, h⟩ := qiL hkf h
   simp only [if_true, h2, qy0]
   exact qeY hkf h
  ·simp only [qza, if_false]
   exact qeY hkf h
theorem qpk {β : Type} (b : Bool) (x y : β) : cond b x y = if b then x else y := by cases b <;> rfl
theorem qdG {cfg : Cfg} {cf : Orac} {kf : KF α} (hkf : KfOk cf kf) {f rid : Nat} {ops : Array Oper} : ∀ {l : List Oper} {n at_ : Nat} {fr : List AV} {H : AH} {k : List FP → List AV → AH → Option α}, qiT cfg cf kf f rid ops n at_ l fr H k = some r →
  ∃ q, yZ cfg cf f rid ops n at_ l fr H = some q ∧ k q.1 q.2.1 q.2.2 = some r
 | [], n, at_, fr, H, k, h => ⟨([], fr, H), rfl, h⟩
 | o :: l, n, at_, fr, H, k, h => by
  rw [qiT] at h
  obtain ⟨b, h1, h⟩ := qeW h
  rw [yZ, h1]
  simp only [qy0]
  rcases yh h with ⟨rfl, h9⟩ | ⟨rfl, h9⟩
  ·obtain ⟨v, H', h2, h8⟩ := qiL hkf h9
   simp only [if_true, h2, qy0]
   rw [qpk] at h8
   obtain ⟨q, h3, hz⟩ := qdG hkf h8
   exact ⟨_, by rw [h3]; rfl, hz⟩
  ·simp only [qza, if_false]
   rw [qpk] at h9
   obtain ⟨q, h3, hz⟩ := qdG hkf h9
   exact ⟨_, by rw [h3]; rfl, hz⟩
theorem qiH {fr : List AV} {c : Operand} {b : Bool} (h : opd fr c = .bool b) : known fr c b = fr := by
 cases c with
 | tmp d =>
  simp only [known]
  have hg : fr[d]? = some (.bool b) := by
   have h' : fr.getD d .junk = .bool b := h
   rw [List.getD_eq_getElem?_getD] at h'
   cases hd : fr[d]? with
   | none => rw [hd] at h'; cases h'
   | some v => rw [hd] at h'; simp at h'; rw [h']
  exact qg6 hg
 | _ => rfl
theorem qbl {cfg : Cfg} {cf : Orac} {kf : KF α} (hkf : KfOk cf kf) {f : Nat} {rd : Option Nat} {bs : Nat} : ∀ (c : Code) {fr : List AV} {H : AH} {k : KE α}, qT cfg cf kf f rd bs c fr H k = some r → ∃ q, evC cfg cf f rd bs c fr H = some q ∧ k q.1 q.2.1 q.2.2 = some r := by
 intro c
 induction c with
 | skip => intro fr H k h; exact ⟨(.normal, fr, H), by simp only [evC], by simpa only [qT] using h⟩
 | label l => intro fr H k h; exact ⟨(.normal, fr, H), by simp only [evC], by simpa only [qT] using h⟩
 | exit id => intro fr H k h; exact ⟨(.exit id, fr, H), by simp only [evC], by simpa only [qT] using h⟩
 | ret => intro fr H k h; exact ⟨(.ret, fr, H), by simp only [evC], by simpa only [qT] using h⟩
 | goto l => intro fr H k h; simp only [qT] at h; cases h
 | refuse s => intro fr H k h; simp only [qT] at h; cases h
 | region id ops draw =>
  intro fr H k h
  simp only [qT] at h
  simp only [evC]
  cases draw with
  | true =>
   simp only [cond_true] at h
   simp only [if_true]
   obtain ⟨h1, h⟩ := qv h
   obtain ⟨q, h2, h⟩ := qdG hkf h
   obtain ⟨h3, hz⟩ := qv h
   exact ⟨(.normal, q.2), by simp only [h1, if_true, h2, qy0, h3], hz⟩
  | false =>
   simp only [cond_false] at h
   simp only [qza, if_false]
   obtain ⟨q, h2, hz⟩ := qeY hkf h
   exact ⟨(.normal, q), by simp only [h2, qy7], hz⟩
 | seq x y ihx ihy =>
  intro fr H k h
  simp only [qT] at h
  simp only [evC]
  obtain ⟨q, h1, h⟩ := ihx h
  rw [h1]
  simp only [qy0]
  unfold kSeq at h
  cases hq : q.1 with
  | normal => simp only [hq] at h ⊢; exact ihy (qoy h)
  | exit id => simp only [hq] at h ⊢; exact ⟨_, rfl, h⟩
  | goto l => simp only [hq] at h ⊢; exact ⟨_, rfl, h⟩
  | ret => simp only [hq] at h ⊢; exact ⟨_, rfl, h⟩
 | cond cnd x y ihx ihy =>
  intro fr H k h
  simp only [qT] at h
  simp only [evC]
  obtain ⟨b, h1, h⟩ := qbm h
  rw [h1]
  simp only
  rcases yh h with ⟨rfl, h⟩ | ⟨rfl, h⟩
  ·rw [qiH h1] at h
   simp only [if_true]; exact ihx h
  ·rw [qiH h1] at h
   simp only [qza, if_false]; exact ihy h
 | block id x ih =>
  intro fr H k h
  simp only [qT] at h
  simp only [evC]
  obtain ⟨q, h1, h⟩ := ih h
  rw [h1]
  simp only [qy0]
  unfold vF at h
  cases hq : q.1 with
  | normal => simp only [hq] at h ⊢; exact ⟨_, rfl, by rw [hq]; exact h⟩
  | exit id' =>
   simp only [hq] at h ⊢
   rcases yh h with ⟨h2, hz⟩ | ⟨h2, hz⟩
   ·exact ⟨_, by simp only [h2, if_true]; rfl, hz⟩
   ·exact ⟨q, by simp only [h2, qza, if_false], by rw [hq]; exact hz⟩
  | goto l => simp only [hq] at h ⊢; exact ⟨_, rfl, by rw [hq]; exact h⟩
  | ret => simp only [hq] at h ⊢; exact ⟨_, rfl, by rw [hq]; exact h⟩
 | loop x ih =>
  intro fr H k h
  simp only [qT] at h
  simp only [evC]
  obtain ⟨q, h1, hz⟩ := qG h
  exact ⟨(q.1, vT (cfg.keepOut f (qq x)) q.2.1, q.2.2), by rw [h1]; rfl, hz⟩
 | scope x ih =>
  intro fr H k h
  simp only [qT] at h
  simp only [evC]
  obtain ⟨q, h1, h⟩ := ih h
  rw [h1]
  simp only [qy0]
  unfold qcU at h
  cases hq : q.1 with
  | goto l => simp only [hq] at h; cases h
  | normal => simp only [hq] at h ⊢; exact ⟨_, rfl, by rw [hq]; exact h⟩
  | exit id => simp only [hq] at h ⊢; exact ⟨_, rfl, by rw [hq]; exact h⟩
  | ret => simp only [hq] at h ⊢; exact ⟨_, rfl, by rw [hq]; exact h⟩
 | rangeFunc g ps assign body =>
  intro fr H k h
  simp only [qT] at h
  simp only [evC]
  generalize (vI (cfg.lift f (qq body)) fr H).1 = fr at h ⊢
  generalize (vI (cfg.lift f (qq body)) _ H).2 = H at h ⊢
  unfold qse at h
  obtain ⟨h1, h⟩ := qv h
  split at h
  case h_2 => cases h
  rename_i g' first caps hg
  obtain ⟨h2, h⟩ := qv h
  obtain ⟨q, h3, h⟩ := hkf _ _ _ _ _ h
  unfold xM at h
  obtain ⟨b, h4, h⟩ := qG h
  unfold quK at h
  split at h
  case h_2 => cases h
  rename_i pend st
  have hx : ¬ (cfg.ext g').isSome = true := by
   cases he : cfg.ext g' with
   | none => simp
   | some s => rw [he] at h2; cases h2
  have hst : st ≠ .busy := by
   intro e; subst e; simp at h
  have hpk : qmG pend k (gc bs (vT (cfg.keepOut f (qq body)) fr) (q.2.set H.length .dead)).1 (gc bs (vT (cfg.keepOut f (qq body)) fr) (q.2.set H.length .dead)).2 = some r := by
   cases st with
   | busy => exact absurd rfl hst
   | _ => exact h
  unfold qc2
  rw [if_pos h1, hg]
  simp only [hx, h3, qy0, h4]
  unfold qmG at hpk
  cases st with
  | busy => exact absurd rfl hst
  | _ =>
   cases pend with
   | none => exact ⟨_, rfl, hpk⟩
   | some c =>
    cases c <;> first | exact ⟨_, rfl, hpk⟩ | cases hpk
theorem qb6 {cfg : Cfg} {fr : List AV} : ∀ {rs : List ResultVar} {k : List AV → Option α}, kRes cfg fr H rs k = some r → ∃ vs, x8 rs cfg.ty fr H = some vs ∧ k vs = some r
 | [], k, h => ⟨[], rfl, h⟩
 | .tmp t :: l, k, h => by
  rw [kRes] at h
  obtain ⟨vs, h1, hz⟩ := qb6 h
  exact ⟨_, by simp only [x8, h1, qy7], hz⟩
 | .cell a t :: l, k, h => by
  rw [kRes] at h
  split at h
  ·rename_i ti hti
   obtain ⟨v, h1, h⟩ := qdB h
   have h2 := vJ (k := fun v => kRes cfg fr H l fun vs => k (v :: vs)) h
   obtain ⟨vs, h3, hz⟩ := qb6 h2
   exact ⟨_, by simp only [x8, hti, h1, qy0, h3, qy7], hz⟩
  ·cases h
variable {α : Type}
def fxGo (i : Nat) (l : List (Nat × AV)) : Nat → List AV
 | 0 => []
 | n + 1 => match l with
  | [] => .junk :: fxGo (i + 1) [] n
  | p :: l' => if qyW p.1 i then p.2 :: fxGo (i + 1) l' n else .junk :: fxGo (i + 1) (p :: l') n
def fx (n : Nat) (l : List (Nat × AV)) : List AV := fxGo 0 l n
def qe (fn : Func) : Code := match fn.body with | some c => c | none => .skip
def sub : Code → List Nat → Code
 | c, [] => c
 | .seq a b, i :: l => match i with | 0 => sub a l | _ => sub b l
 | .cond _ a b, i :: l => match i with | 0 => sub a l | _ => sub b l
 | .block _ a, _ :: l => sub a l
 | .loop a, _ :: l => sub a l
 | .scope a, _ :: l => sub a l
 | .rangeFunc _ _ a b, i :: l => match i with | 0 => sub a l | _ => sub b l
 | c, _ => c
def rngB (fn : Func) (f : Nat) (p : List Nat) (fr : List AV) (pend : Option Code) (st : LoopState) : ABlk :=
 match sub (qe fn) p with
 | .rangeFunc _ ps a b => .loop f fr ps.toList a b pend st
 | _ => .dead
def qb3 : Code → Array Oper
 | .region _ o _ => o
 | _ => #[]
noncomputable def kLp (k : Nat) (ts : Option (List Tmp)) (ls : List (Tmp × Nat)) (L : Den) (A : Ex × List AV × AH → Option α) : KE α := fun e fr H =>
 match e with
 | .normal => kOpt (LOOP k ts ls L (qag k ts ls fr H)) A
 | e => A (e, fr, H)
theorem qqw {cfg : Cfg} {kf : KF α} (hkf : KfOk (EV cfg) kf) {f : Nat} {rd : Option Nat} {bs : Nat} {c : Code} {k : Nat} {ts : Option (List Tmp)} {ls : List (Tmp × Nat)} {A : Ex × List AV × AH → Option α} {fr : List AV} {H : AH} {r : α}
  (h : qT cfg (EV cfg) kf f rd bs c fr H (kLp k ts ls (evC cfg (EV cfg) f rd bs c) A) = some r) : kOpt (LOOP k ts ls (evC cfg (EV cfg) f rd bs c) (fr, H)) A = some r := by
 obtain ⟨⟨e, fr1, H1⟩, h1, h2⟩ := qbl hkf c h
 cases e with
 | normal =>
  simp only [kLp] at h2
  cases hl : LOOP k ts ls (evC cfg (EV cfg) f rd bs c) (qag k ts ls fr1 H1) with
  | none => rw [hl] at h2; cases h2
  | some q =>
   rw [hl] at h2
   rw [qsQ (p := (fr, H)) h1 hl]
   exact h2
 | exit id => rw [qfn (p := (fr, H)) h1 (fun x => by intro h; cases h)]; exact h2
 | goto l => rw [qfn (p := (fr, H)) h1 (fun x => by intro h; cases h)]; exact h2
 | ret => rw [qfn (p := (fr, H)) h1 (fun x => by intro h; cases h)]; exact h2
def xa (cfg : Cfg) (ls : List (Tmp × Nat)) (g : AV → AH → Option α) (rs : List ResultVar) : KE α := fun e fr H =>
 match e with
 | .normal => kRes cfg (vI ls fr H).1 (vI ls fr H).2 rs fun vs => g (zn vs) (vI ls fr H).2
 | .ret => kRes cfg (vI ls fr H).1 (vI ls fr H).2 rs fun vs => g (zn vs) (vI ls fr H).2
 | _ => none
def vX (cfg : Cfg) (ls : List (Tmp × Nat)) (rs : List ResultVar) : KE AV := xa cfg ls (fun v _ => some v) rs
def vp (cfg : Cfg) (ls : List (Tmp × Nat)) (rs : List ResultVar) : KE AV := xa cfg ls (fun v H => qbk false H v some) rs
def quM (cfg : Cfg) (ls : List (Tmp × Nat)) (rs : List ResultVar) : KE OV := xa cfg ls (fun v H => ovOf (v, H)) rs
def qfP (cfg : Cfg) (ls : List (Tmp × Nat)) (rs : List ResultVar) : KE (OV × AV) := xa cfg ls (fun v H => qqn (v, H)) rs
def qiQ (cfg : Cfg) (sz : Nat) (ls : List (Tmp × Nat)) (rs : List ResultVar) : KE (MV × List (List AV)) := xa cfg ls (fun v H => (qiv sz (v, H)).bind fun q => (mvOf q.1).map fun v => (v, q.2)) rs
noncomputable def zr (cfg : Cfg) (cf : Orac) (kf : KF α) (f : Nat) (fn : Func) (c : Code) (args : List AV) (H : AH) (fin : KE α) : Option α :=
 qT cfg cf kf f none H.length c (args ++ qzf (fn.ntmps - args.length) .junk) H fin
theorem qgQ {cfg : Cfg} {kf : KF α} (hkf : KfOk (EV cfg) kf) {g : AV → AH → Option α} {f : Nat} {fn : Func} {args : List AV} {H : AH} {r : α} (hx : cfg.ext f = none) (hk : cfg.known f = true) (hf : cfg.P.funcs[f]? = some fn) (hb : fn.body = some (qe fn))
  (h : zr cfg (EV cfg) kf f fn (qe fn) args H (xa cfg (cfg.lift f 0) g fn.results.toList) = some r) : ∃ v H', EV cfg (.f f) args H = some (v, H') ∧ g v H' = some r := by
 unfold zr at h
 obtain ⟨q, h1, h⟩ := qbl hkf _ h
 have key : ∀ (vs : List AV), x8 fn.results.toList cfg.ty (vI (cfg.lift f 0) q.2.1 q.2.2).1 (vI (cfg.lift f 0) q.2.1 q.2.2).2 = some vs → (q.1 = .normal ∨ q.1 = .ret) → EV cfg (.f f) args H = some (zn vs, (vI (cfg.lift f 0) q.2.1 q.2.2).2) := by
  intro vs h2 hq
  refine qlx ?_
  unfold xk
  simp only [hx, hk, if_true, hf, hb, h1, qy0]
  unfold qcY
  rcases hq with hq | hq <;> simp only [hq, h2, qy7]
 unfold xa at h
 split at h
 ·rename_i hq
  obtain ⟨vs, h2, h⟩ := qb6 h
  exact ⟨_, _, key vs h2 (.inl hq), h⟩
 ·rename_i hq
  obtain ⟨vs, h2, h⟩ := qb6 h
  exact ⟨_, _, key vs h2 (.inr hq), h⟩
 ·cases h
def kY2 (id : Nat) (K : AV × AH → Option α) : KE α := fun e _ H =>
 kOpt H[id]? fun b => match b with
  | .loop f fr ps a b _ _ => (match e with
   | .normal => K (.bool true, H.set id (.loop f fr ps a b none .ready))
   | .ret => K (.bool false, H.set id (.loop f fr ps a b (some .ret) .done))
   | .exit x => K (.bool false, H.set id (.loop f fr ps a b (some (.exit x)) .done))
   | .goto _ => none)
  | _ => none
noncomputable def kY1 (cfg : Cfg) (cf : Orac) (kf : KF α) (bs f id : Nat) (body : Code) (K : AV × AH → Option α) : KE α := fun e fr H =>
 match e with
 | .normal => kOpt H[id]? fun b => match b with
  | .loop f' fr' ps' a' b' p' st => (match st with
   | .ready => qT cfg cf kf f (some id) bs body fr (H.set id (.loop f' fr' ps' a' b' p' .busy)) (kY2 id K)
   | _ => none)
  | _ => none
 | _ => none
noncomputable def kY (cfg : Cfg) (cf : Orac) (kf : KF α) (id : Nat) (args : List AV) (H : AH) (K : AV × AH → Option α) : Option α :=
 kOpt H[id]? fun b => match b with
  | .loop f fr ps assign body _ st => (match st with
   | .ready => cond (qyW args.length ps.length) (qT cfg cf kf f (some id) H.length assign (yC fr ps args) H (kY1 cfg cf kf H.length f id body K)) none
   | _ => none)
  | _ => none
theorem qts {cfg : Cfg} {kf : KF α} (hkf : KfOk (EV cfg) kf) {id : Nat} {args : List AV} {H : AH} {K : AV × AH → Option α} {r : α} (h : kY cfg (EV cfg) kf id args H K = some r) : ∃ q, EV cfg (.y id) args H = some q ∧ K q = some r := by
 unfold kY at h
 obtain ⟨b, h1, h⟩ := qG h
 cases b with
 | loop f fr ps assign body pend st =>
  simp only at h
  cases st with
  | ready =>
   simp only at h
   obtain ⟨h2, h⟩ := qv h
   obtain ⟨q, h3, h⟩ := qbl hkf _ h
   unfold kY1 at h
   cases hq : q.1 with
   | normal =>
    rw [hq] at h
    simp only at h
    obtain ⟨b, h4, h⟩ := qG h
    cases b with
    | loop f' fr' ps' a' b' p' st' =>
     simp only at h
     cases st' with
     | ready =>
      simp only at h
      obtain ⟨q2, h5, h⟩ := qbl hkf _ h
      unfold kY2 at h
      obtain ⟨b, h6, h⟩ := qG h
      cases b with
      | loop f2 fr2 ps2 a2 b2 p2 st2 =>
       have key : ∀ q', xk cfg (EV cfg) (.y id) args H = some q' → K q' = some r → ∃ q, EV cfg (.y id) args H = some q ∧ K q = some r := fun q' h8 h9 => ⟨q', qlx h8, h9⟩
       cases hq2 : q2.1 with
       | normal =>
        rw [hq2] at h
        refine key _ ?_ h
        unfold xk
        simp only [h1, if_pos (qyT h2), h3, qy0, hq, h4, h5, h6, hq2]
       | ret =>
        rw [hq2] at h
        refine key _ ?_ h
        unfold xk
        simp only [h1, if_pos (qyT h2), h3, qy0, hq, h4, h5, h6, hq2]
       | exit x =>
        rw [hq2] at h
        refine key _ ?_ h
        unfold xk
        simp only [h1, if_pos (qyT h2), h3, qy0, hq, h4, h5, h6, hq2]
       | goto x => rw [hq2] at h; cases h
      | _ => cases h
     | _ => cases h
    | _ => cases h
   | _ => rw [hq] at h; cases h
  | _ => cases h
 | _ => cases h
class InlOk (cfg : Cfg) : Prop where
 ok : ∀ f fn, cfg.inl f = some fn → cfg.ext f = none ∧ cfg.known f = true ∧ cfg.P.funcs[f]? = some fn ∧ fn.body = some (qe fn)
def qau (f : Nat) : List (Nat × Func) → Option Func
 | [] => none
 | p :: l => if qyW p.1 f then some p.2 else qau f l
def qsR (cfg : Cfg) : List (Nat × Func) → Prop
 | [] => True
 | p :: l => (cfg.ext p.1 = none ∧ cfg.known p.1 = true ∧ cfg.P.funcs[p.1]? = some p.2 ∧ p.2.body = some (qe p.2)) ∧ qsR cfg l
theorem InlOk.of {cfg : Cfg} (tab : List (Nat × Func)) (h : ∀ f, cfg.inl f = qau f tab) (ha : qsR cfg tab) : InlOk cfg where
 ok := by
  intro f fn hf
  rw [h] at hf
  clear h
  induction tab with
  | nil => cases hf
  | cons p l ih =>
   rw [qau] at hf
   split at hf
   ·rename_i e
    have e := qyT e
    cases hf
    rw [← e]
    exact ha.1
   ·exact ih ha.2 hf
noncomputable def kfN (cfg : Cfg) : Nat → KF α
 | 0 => fun t a H k => kOpt (EV cfg t a H) k
 | n + 1 => fun t a H k => match t with
  | .f f => (match cfg.inl f with
   | some fn => zr cfg (EV cfg) (kfN cfg n) f fn (qe fn) a H (xa cfg (cfg.lift f 0) (fun v H => k (v, H)) fn.results.toList)
   | none => kOpt (EV cfg (.f f) a H) k)
  | .y id => kY cfg (EV cfg) (kfN cfg n) id a H k
theorem qiI {cfg : Cfg} [InlOk cfg] : ∀ n, KfOk (α := α) (EV cfg) (kfN cfg n)
 | 0 => fun t a H k r h => qG h
 | n + 1 => fun t a H k r h => by
  unfold kfN at h
  cases t with
  | f f =>
   simp only at h
   split at h
   ·rename_i fn hf
    obtain ⟨o1, o2, o3, o4⟩ := InlOk.ok f fn hf
    obtain ⟨v, H', h1, h2⟩ := qgQ (qiI n) o1 o2 o3 o4 h
    exact ⟨_, h1, h2⟩
   ·exact qG h
  | y id => exact qts (qiI n) h
theorem qn {cfg : Cfg} [InlOk cfg] {f : Nat} {rd : Option Nat} {bs : Nat} {c : Code} {k : Nat} {ts : Option (List Tmp)} {ls : List (Tmp × Nat)} {A : Ex × List AV × AH → Option α} {fr : List AV} {H : AH} {r : α}
  (h : qT cfg (EV cfg) (kfN cfg 6) f rd bs c fr H (kLp k ts ls (evC cfg (EV cfg) f rd bs c) A) = some r) : kOpt (LOOP k ts ls (evC cfg (EV cfg) f rd bs c) (fr, H)) A = some r := qqw (qiI 6) h
theorem xX {cfg : Cfg} [InlOk cfg] {g : AV → AH → Option α} {f : Nat} {fn : Func} {args : List AV} {H : AH} {r : α} (hx : cfg.ext f = none) (hk : cfg.known f = true) (hf : cfg.P.funcs[f]? = some fn) (hb : fn.body = some (qe fn))
  (h : zr cfg (EV cfg) (kfN cfg 6) f fn (qe fn) args H (xa cfg (cfg.lift f 0) g fn.results.toList) = some r) : ∃ v H', EV cfg (.f f) args H = some (v, H') ∧ g v H' = some r := qgQ (qiI 6) hx hk hf hb h
def Gets {β : Type} (o : Option β) (P : β → Prop) : Prop := ∃ r, o = some r ∧ P r
theorem Gets.ev {β : Type} {o o' : Option β} {P : β → Prop} (h : ∀ r, o = some r → o' = some r) (hy : Gets o P) : Gets o' P := by
 obtain ⟨r, h1, h2⟩ := hy
 exact ⟨r, h r h1, h2⟩
theorem Gets.eq {β : Type} {o o' : Option β} {P : β → Prop} (h : o' = o) (hy : Gets o P) : Gets o' P := h ▸ hy
theorem gE {β : Type} {o o' x : Option β} {P : β → Prop} (f : ∀ r, o = some r → o' = some r) (e : o = x) (h : Gets x P) : Gets o' P := Gets.ev f (Gets.eq e h)
theorem Gets.mono {β : Type} {o : Option β} {P Q : β → Prop} (h : Gets o P) (hq : ∀ b, P b → Q b) : Gets o Q := by
 obtain ⟨r, h1, h2⟩ := h
 exact ⟨r, h1, hq r h2⟩
theorem Gets.bind {β γ : Type} {o : Option β} {k : β → Option γ} {Q : β → Prop} {P : γ → Prop} (h : Gets o Q) (hk : ∀ b, Q b → Gets (k b) P) : Gets (kOpt o k) P := by
 obtain ⟨r, h1, h2⟩ := h
 subst h1
 exact hk r h2
@[simp] theorem gets_some {β : Type} {a : β} {P : β → Prop} : Gets (some a) P ↔ P a := ⟨fun ⟨r, h1, h2⟩ => by cases h1; exact h2, fun h => ⟨a, rfl, h⟩⟩
theorem Gets.get {β : Type} {o : Option β} {a : β} (h : Gets o (· = a)) : o = some a := by
 obtain ⟨r, h1, h2⟩ := h
 rw [h1, h2]
theorem qsS {cfg : Cfg} {f : Nat} {args : List AV} {v : AV} {H : AH} (h : EV cfg (.f f) args [] = some (v, H)) : EVs (EV cfg) f args = some v := by unfold EVs; rw [h]; rfl
theorem qxN {cfg : Cfg} {f : Nat} {args : List AV} {v v' : AV} {H : AH} (h : EV cfg (.f f) args [] = some (v', H)) (e : (v'.frz v'.msIds H).fg = v) : EVf (EV cfg) f args = some v := by unfold EVf; rw [h]; exact congrArg some e
theorem qxM {cfg : Cfg} {f : Nat} {args : List AV} {v : OV} {r : AV × AH} (h : EV cfg (.f f) args [] = some r) (e : ovOf r = some v) : EVo (EV cfg) f args = some v := by unfold EVo; rw [h]; exact e
theorem funS {cfg : Cfg} [InlOk cfg] {f : Nat} {fn : Func} {args : List AV} {r : AV} (hx : cfg.ext f = none) (hk : cfg.known f = true) (hf : cfg.P.funcs[f]? = some fn) (hb : fn.body = some (qe fn))
  (h : zr cfg (EV cfg) (kfN cfg 6) f fn (qe fn) args [] (vX cfg (cfg.lift f 0) fn.results.toList) = some r) : EVs (EV cfg) f args = some r := by
 obtain ⟨v, H', h1, h2⟩ := xX hx hk hf hb h
 cases h2
 exact qsS h1
theorem funF {cfg : Cfg} [InlOk cfg] {f : Nat} {fn : Func} {args : List AV} {r : AV} (hx : cfg.ext f = none) (hk : cfg.known f = true) (hf : cfg.P.funcs[f]? = some fn) (hb : fn.body = some (qe fn))
  (h : zr cfg (EV cfg) (kfN cfg 6) f fn (qe fn) args [] (vp cfg (cfg.lift f 0) fn.results.toList) = some r) : EVf (EV cfg) f args = some r := by
 obtain ⟨v, H', h1, h2⟩ := xX hx hk hf hb h
 exact qxN h1 (Option.some.inj (qb8 h2))
theorem funO {cfg : Cfg} [InlOk cfg] {f : Nat} {fn : Func} {args : List AV} {r : OV} (hx : cfg.ext f = none) (hk : cfg.known f = true) (hf : cfg.P.funcs[f]? = some fn) (hb : fn.body = some (qe fn))
  (h : zr cfg (EV cfg) (kfN cfg 6) f fn (qe fn) args [] (quM cfg (cfg.lift f 0) fn.results.toList) = some r) : EVo (EV cfg) f args = some r := by
 obtain ⟨v, H', h1, h2⟩ := xX hx hk hf hb h
 exact qxM h1 h2
theorem funQ {cfg : Cfg} [InlOk cfg] {f : Nat} {fn : Func} {args : List AV} {r : OV × AV} (hx : cfg.ext f = none) (hk : cfg.known f = true) (hf : cfg.P.funcs[f]? = some fn) (hb : fn.body = some (qe fn))
  (h : zr cfg (EV cfg) (kfN cfg 6) f fn (qe fn) args [] (qfP cfg (cfg.lift f 0) fn.results.toList) = some r) : EVq (EV cfg) f args = some r := by
 obtain ⟨v, H', h1, h2⟩ := xX hx hk hf hb h
 unfold EVq; rw [h1]; exact h2
theorem funM {cfg : Cfg} [InlOk cfg] {f sz : Nat} {fn : Func} {args : List AV} {rows : List (List AV)} {r : MV × List (List AV)} (hx : cfg.ext f = none) (hk : cfg.known f = true) (hf : cfg.P.funcs[f]? = some fn) (hb : fn.body = some (qe fn))
  (h : zr cfg (EV cfg) (kfN cfg 6) f fn (qe fn) args [.rows true sz rows] (qiQ cfg sz (cfg.lift f 0) fn.results.toList) = some r) : EVm (EV cfg) f args sz rows = some r := by
 obtain ⟨v, H', h1, h2⟩ := xX hx hk hf hb h
 unfold EVm
 rw [h1]
 exact h2
def qab (cfg : Cfg) (sz : Nat) (ls : List (Tmp × Nat)) (rs : List ResultVar) : KE (AV × List (List AV)) := xa cfg ls (fun v H => qb9 H 0 fun d sz' rows =>
 cond (d && qyW sz' sz && qao v.msIds) (qbk false H v fun v' => cond (v'.refsLt 0) (some (v', rows)) none) none) rs
theorem funD {cfg : Cfg} [InlOk cfg] {f sz : Nat} {fn : Func} {args : List AV} {rows : List (List AV)} {r : AV × List (List AV)} (hx : cfg.ext f = none) (hk : cfg.known f = true) (hf : cfg.P.funcs[f]? = some fn) (hb : fn.body = some (qe fn))
  (h : zr cfg (EV cfg) (kfN cfg 6) f fn (qe fn) args [.rows true sz rows] (qab cfg sz (cfg.lift f 0) fn.results.toList) = some r) : EVd (EV cfg) f args sz rows = some r := by
 obtain ⟨v, H', h1, h2⟩ := xX hx hk hf hb h
 unfold EVd
 rw [h1]
 obtain ⟨d, sz', rs', h3, h4⟩ := zt h2
 obtain ⟨h5, h6⟩ := qv h4
 have h7 := qb8 (k := fun v' => cond (v'.refsLt 0) (some (v', rs')) none) h6
 obtain ⟨h8, h9⟩ := qv h7
 simp only [qyK] at h5
 obtain ⟨⟨hd, hs⟩, hn⟩ := h5
 subst hd
 cases H' with
 | nil => simp at h3
 | cons b l =>
  simp only [qy8, Option.some.injEq] at h3
  subst h3
  simp only [qy0, qi1, hs, hn, h8, qy2, if_true]
  exact h9
def qqL (cfg : Cfg) (sz : Nat) (ls : List (Tmp × Nat)) (rs : List ResultVar) : KE (AV × List (List AV)) := xa cfg ls (fun v H => qb9 H 0 fun d sz' rows =>
 cond (!d && qyW sz' sz && qao v.msIds && xJ [0] (ya 0 rows)) (qbk false H v fun v' => cond (v'.refsLt 0) (some (v', rows)) none) none) rs
theorem funX {cfg : Cfg} [InlOk cfg] {f sz : Nat} {fn : Func} {args : List AV} {rows : List (List AV)} {r : AV × List (List AV)} (hx : cfg.ext f = none) (hk : cfg.known f = true) (hf : cfg.P.funcs[f]? = some fn) (hb : fn.body = some (qe fn))
  (h : zr cfg (EV cfg) (kfN cfg 6) f fn (qe fn) args [.rows false sz rows] (qqL cfg sz (cfg.lift f 0) fn.results.toList) = some r) : EVx (EV cfg) f args sz rows = some r := by
 obtain ⟨v, H', h1, h2⟩ := xX hx hk hf hb h
 unfold EVx
 rw [h1]
 obtain ⟨d, sz', rs', h3, h4⟩ := zt h2
 obtain ⟨h5, h6⟩ := qv h4
 have h7 := qb8 (k := fun v' => cond (v'.refsLt 0) (some (v', rs')) none) h6
 obtain ⟨h8, h9⟩ := qv h7
 simp only [qyK, Bool.not_eq_true'] at h5
 obtain ⟨⟨⟨hd, hs⟩, hn⟩, ha⟩ := h5
 subst hd
 cases H' with
 | nil => simp at h3
 | cons b l =>
  simp only [qy8, Option.some.injEq] at h3
  subst h3
  simp only [qy0, qh5, hs, hn, h8, ha, qy2, if_true]
  exact h9
def qjT {α : Type} (G : AH) (c : AV) (k : List (List AV) → Option α) : Option α :=
 match c with
 | .rsl id rows => kOpt G[id]? fun b => match b with | .reg => k rows | _ => none
 | .sl rows => cond rows.isEmpty (k []) none
 | .nilS => k []
 | .em => k []
 | _ => none
def qls {α : Type} (G : AH) (a : AV) (k : AV → Option α) : Option α :=
 match a with
 | .agg [.int .i64 x, .int .i64 n, .str s, c] => qjT G c fun rows => k (.agg [.int .i64 x, .int .i64 n, .str s, .sl rows])
 | _ => none
def kRgL {α : Type} (G : AH) : List AV → (List AV → Option α) → Option α
 | [], _ => none
 | a :: l, k => cond a.plain (kRgL G l fun q => k (a :: q)) (cond (qeI l) (qls G a fun x => k (x :: l)) none)
def qjS {α : Type} (G : AH) (a : AV) (k : AV → Option α) : Option α :=
 match a with
 | .tup l => kRgL G l fun q => k (.tup q)
 | a => qls G a k
theorem qmF {α : Type} {G : AH} {c : AV} {k : List (List AV) → Option α} {r : α} (h : qjT G c k = some r) : ∃ rows, qeD G c = some rows ∧ k rows = some r := by
 unfold qjT at h
 split at h
 ·obtain ⟨b, h1, h⟩ := qG h
  split at h
  ·exact ⟨_, by simp only [qeD, h1], h⟩
  ·cases h
 ·rename_i rows
  obtain ⟨h1, h⟩ := qv h
  cases rows with
  | nil => exact ⟨_, rfl, h⟩
  | cons => cases h1
 ·exact ⟨_, rfl, h⟩
 ·exact ⟨_, rfl, h⟩
 ·cases h
theorem qiK {α : Type} {G : AH} {a : AV} {k : AV → Option α} {r : α} (h : qls G a k = some r) : ∃ V, rgTm G a = some V ∧ k V = some r := by
 unfold qls at h
 split at h
 ·obtain ⟨rows, h1, h⟩ := qmF h
  exact ⟨_, by simp only [rgTm, h1, qy7], h⟩
 ·cases h
theorem qkz {α : Type} {G : AH} : ∀ {l : List AV} {k : List AV → Option α} {r : α}, kRgL G l k = some r → ∃ q, rgL G l = some q ∧ k q = some r
 | [], _, _, h => by cases h
 | a :: l, k, r, h => by
  rw [kRgL] at h
  rcases yh h with ⟨hp, h⟩ | ⟨hp, h⟩
  ·obtain ⟨q, h1, h2⟩ := qkz h
   exact ⟨_, by simp only [rgL, hp, if_true, h1, qy7], h2⟩
  ·obtain ⟨hl, h⟩ := qv h
   obtain ⟨x, h1, h2⟩ := qiK h
   exact ⟨_, by simp only [rgL, hp, qza, if_false, hl, if_true, h1, qy7], h2⟩
theorem qmE {α : Type} {G : AH} {a : AV} {k : AV → Option α} {r : α} (h : qjS G a k = some r) : ∃ V, qcP G a = some V ∧ k V = some r := by
 unfold qjS at h
 split at h
 ·obtain ⟨q, h1, h2⟩ := qkz h
  exact ⟨_, by simp only [qcP, h1, qy7], h2⟩
 ·rename_i hn
  obtain ⟨V, h1, h2⟩ := qiK h
  refine ⟨V, ?_, h2⟩
  rw [← h1]
  cases a <;> first | rfl | exact absurd rfl (hn _)
def qqM (cfg : Cfg) (ls : List (Tmp × Nat)) (rs : List ResultVar) : KE AV := xa cfg ls (fun v H => qjS H v some) rs
theorem funR {cfg : Cfg} [InlOk cfg] {f : Nat} {fn : Func} {args : List AV} {r : AV} (hx : cfg.ext f = none) (hk : cfg.known f = true) (hf : cfg.P.funcs[f]? = some fn) (hb : fn.body = some (qe fn))
  (h : zr cfg (EV cfg) (kfN cfg 6) f fn (qe fn) args [] (qqM cfg (cfg.lift f 0) fn.results.toList) = some r) : EVg (EV cfg) f args = some r := by
 obtain ⟨v, H', h1, h2⟩ := xX hx hk hf hb h
 obtain ⟨V, h3, h4⟩ := qmE h2
 cases h4
 unfold EVg; rw [h1]; exact h3
def quL (cfg : Cfg) (ls : List (Tmp × Nat)) (rs : List ResultVar) : KE Unit := xa cfg ls (fun v H => qfI (v, H)) rs
theorem funZ {cfg : Cfg} [InlOk cfg] {f : Nat} {fn : Func} {a : AV} {r : Unit} (hx : cfg.ext f = none) (hk : cfg.known f = true) (hf : cfg.P.funcs[f]? = some fn) (hb : fn.body = some (qe fn))
  (h : zr cfg (EV cfg) (kfN cfg 6) f fn (qe fn) [a] [.spl] (quL cfg (cfg.lift f 0) fn.results.toList) = some r) : EVz (EV cfg) f a = some r := by
 obtain ⟨v, H', h1, h2⟩ := xX hx hk hf hb h
 unfold EVz; rw [h1]; exact h2
@[simp] theorem nble (a b : Nat) : qyQ a b = decide (a ≤ b) := by
 rcases h : qyQ a b with _ | _
 ·rw [eq_comm, decide_eq_false_iff_not]; intro h'; rw [Nat.ble_eq_true_of_le h'] at h; cases h
 ·rw [eq_comm, decide_eq_true_eq]; exact Nat.le_of_ble_eq_true h
@[simp] theorem nbeq (a b : Nat) : qyW a b = decide (a = b) := by
 rcases h : qyW a b with _ | _
 ·rw [eq_comm, decide_eq_false_iff_not]; intro h'; rw [h', qy1] at h; cases h
 ·rw [eq_comm, decide_eq_true_eq]; exact qyT h
@[simp] theorem leInt_eq (a b : Int) : qh a b = decide (a ≤ b) := rfl
@[simp] theorem ltInt_eq (a b : Int) : qg a b = decide (a < b) := rfl
theorem beqD {β : Type} [BEq β] [LawfulBEq β] [DecidableEq β] (a b : β) : (a == b) = decide (a = b) := by
 by_cases h : a = b
 ·subst h; simp
 ·simp [h]
theorem bneD {β : Type} [BEq β] [LawfulBEq β] [DecidableEq β] (a b : β) : (a != b) = !decide (a = b) := by rw [bne, beqD]
def AV.IsInt (v : AV) : Prop := ∃ n, v = .int .i64 n
def AV.IsBool (v : AV) : Prop := ∃ b, v = .bool b
@[simp] theorem isInt_int (n : Int) : (AV.int .i64 n).IsInt := ⟨n, rfl⟩
@[simp] theorem isBool_bool (b : Bool) : (AV.bool b).IsBool := ⟨b, rfl⟩
@[simp] theorem qc {β : Type} (b : β) (k : β → Option α) : kOpt (some b) k = k b := rfl
@[simp] theorem kOptNone {β : Type} (k : β → Option α) : kOpt none k = none := rfl
@[simp] theorem qe1 (kd : IntKind) (n : Int) (k : Int → Option α) : z8 kd (.int kd n) k = k n := by simp [z8, qaQ]
@[simp] theorem qm (kd : IntKind) (n : Int) (k : Int → Option α) : kInt kd (.int kd n) k = k n := by simp [kInt, qaQ]
@[simp] theorem qk (b : Bool) (k : Bool → Option α) : qf (.bool b) k = k b := rfl
@[simp] theorem yN (s : List UInt8) (k : List UInt8 → Option α) : kStr (.str s) k = k s := rfl
@[simp] theorem kAgg_agg (cs : List AV) (k : List AV → Option α) : kAgg (.agg cs) k = k cs := rfl
@[simp] theorem kCons_cons (c : AV) (cs : List AV) (k : AV → List AV → Option α) : qa (c :: cs) k = k c cs := rfl
@[simp] theorem kNil_nil (x : Option α) : kNil [] x = x := rfl
@[simp] theorem kMSl_nil (x : Option α) (k : Nat → Nat → Option α) : kMSl .nil x k = x := rfl
@[simp] theorem kMSl_sl (off len : Nat) (x : Option α) (k : Nat → Nat → Option α) : kMSl (.sl off len) x k = k off len := rfl
@[simp] theorem qgO (x : Option α) : zB .unit x = x := rfl
@[simp] theorem vV (b : Bool) (k : Bool → Option α) : xr (.bool b) k = k b := rfl
@[simp] theorem kOwn_nil (x : Option α) (k : Nat → List (List AV) → Nat → Nat → Option α) : kOwn .nil x k = x := rfl
@[simp] theorem qtu (sz : Nat) (rs : List (List AV)) (off len : Nat) (x : Option α) (k : Nat → List (List AV) → Nat → Nat → Option α) : kOwn (.own sz rs off len) x k = k sz rs off len := rfl
@[simp] theorem vE (rs : List (List AV)) (k : List (List AV) → Option α) : kSl (.sl rs) k = k rs := rfl
@[simp] theorem ql {β : Type} (l : List β) (i : Nat) : qyG l i = l[i]? := rfl
variable {α β : Type}
mutual
def AV.same : AV → AV → Bool
 | .int a b, .int c d => qaQ a c && decide (b = d)
 | .bool a, .bool b => a == b
 | .str a, .str b => a == b
 | .agg a, .agg b => qdp a b
 | .tup a, .tup b => qdp a b
 | .nilS, .nilS => true
 | .sl a, .sl b => quH a b
 | .em, .em => true
 | .nilP, .nilP => true
 | .nilF, .nilF => true
 | .nilM, .nilM => true
 | .nilI, .nilI => true
 | .junk, .junk => true
 | .fn (.func f) a b, .fn (.func g) c d => qyW f g && (qdp a c && qdp b d)
 | .cptr a i, .cptr b j => qyW i j && qdp a b
 | _, _ => false
def qdp : List AV → List AV → Bool
 | [], [] => true
 | a :: l, b :: m => a.same b && qdp l m
 | _, _ => false
def quH : List (List AV) → List (List AV) → Bool
 | [], [] => true
 | a :: l, b :: m => qdp a b && quH l m
 | _, _ => false
end
structure Fact where
 frz : Bool
 f : Nat
 args : List AV
 v : AV
def Fact.Ok (cfg : Cfg) (e : Fact) : Prop := (if e.frz then EVf (EV cfg) e.f e.args else EVs (EV cfg) e.f e.args) = some e.v
def qj9 (cfg : Cfg) : List Fact → Prop
 | [] => True
 | e :: l => e.Ok cfg ∧ qj9 cfg l
theorem qj9.nil {cfg : Cfg} : qj9 cfg [] := trivial
def qc1 : List AV → AH → Option (AV × AH)
 | [.str a, .str b], H => some (.int .i64 (if a == b then 0 else if Op.bytesLess a b then -1 else 1), H)
 | _, _ => none
end Go.Av
end
section
namespace Go.Proofs.YtkgkjngbfdnoiaaGreat
open Go.Av
def zr0 : List AV := [.int .u64 0, .int .u64 0, .int .u32 0, .int .u8 0, .int .u8 0, .int .u8 0, .int .u8 0, .nilF, .nilP, .int .i32 0, .int .i32 0]
def qh1 : BT TI := .node 132 ⟨.func, 1, 8, [.nilF]⟩ (.node 69 ⟨.func, 1, 8, [.nilF]⟩ (.node 35 ⟨.func, 1, 8, [.nilF]⟩ (.node 19 ⟨.struct [(0, 17)], 1, 8, [.nilP]⟩ (.node 9 ⟨.str, 1, 16, [.str []]⟩ (.node 4 ⟨.bool, 1, 1, [.bool false]⟩ (.node 2 ⟨.int .i64, 1, 8, [.int .i64 0]⟩ (.node 1 ⟨.func, 1, 8, [.nilF]⟩ .leaf .leaf) (.node 3 ⟨.int .i64, 1, 8, [.int .i64 0]⟩ .leaf .leaf)) (.node 6 ⟨.int .u8, 1, 1, [.int .u8 0]⟩ (.node 5 ⟨.int .u8, 1, 1, [.int .u8 0]⟩ .leaf .leaf) (.node 7 ⟨.struct [(0, 2), (1, 3), (2, 4), (3, 6)], 4, 24, [.int .i64 0, .int .i64 0, .bool false, .int .u8 0]⟩ .leaf .leaf))) (.node 16 ⟨.ptr 278, 1, 8, [.nilP]⟩ (.node 13 ⟨.struct [(0, 9), (1, 12)], 2, 24, [.str [], .int .u64 0]⟩ (.node 12 ⟨.int .u64, 1, 8, [.int .u64 0]⟩ .leaf .leaf) (.node 15 ⟨.ptr 275, 1, 8, [.nilP]⟩ .leaf .leaf)) (.node 18 ⟨.struct [(0, 17)], 1, 8, [.nilP]⟩ (.node 17 ⟨.ptr 287, 1, 8, [.nilP]⟩ .leaf .leaf) .leaf))) (.node 27 ⟨.struct [(0, 24), (4, 25), (5, 3)], 6, 88, [.int .i64 0, .int .i64 0, .str [], .nilS, .nilS, .int .i64 0]⟩ (.node 24 ⟨.struct [(0, 3), (1, 3), (2, 9), (3, 22)], 4, 56, [.int .i64 0, .int .i64 0, .str [], .nilS]⟩ (.node 22 ⟨.slice 24, 1, 24, [.nilS]⟩ (.node 21 ⟨.int .i32, 1, 4, [.int .i32 0]⟩ .leaf .leaf) (.node 23 ⟨.struct [(0, 3), (1, 3), (2, 9), (3, 22)], 4, 56, [.int .i64 0, .int .i64 0, .str [], .nilS]⟩ .leaf .leaf)) (.node 26 ⟨.struct [(0, 24), (4, 25), (5, 3)], 6, 88, [.int .i64 0, .int .i64 0, .str [], .nilS, .nilS, .int .i64 0]⟩ (.node 25 ⟨.slice 91, 1, 24, [.nilS]⟩ .leaf .leaf) .leaf)) (.node 31 ⟨.int .i64, 1, 8, [.int .i64 0]⟩ (.node 29 ⟨.func, 1, 8, [.nilF]⟩ (.node 28 ⟨.func, 1, 8, [.nilF]⟩ .leaf .leaf) (.node 30 ⟨.func, 1, 8, [.nilF]⟩ .leaf .leaf)) (.node 34 ⟨.func, 1, 8, [.nilF]⟩ (.node 33 ⟨.func, 1, 8, [.nilF]⟩ .leaf .leaf) .leaf)))) (.node 53 ⟨.func, 1, 8, [.nilF]⟩ (.node 43 ⟨.func, 1, 8, [.nilF]⟩ (.node 39 ⟨.func, 1, 8, [.nilF]⟩ (.node 37 ⟨.func, 1, 8, [.nilF]⟩ (.node 36 ⟨.func, 1, 8, [.nilF]⟩ .leaf .leaf) (.node 38 ⟨.func, 1, 8, [.nilF]⟩ .leaf .leaf)) (.node 41 ⟨.func, 1, 8, [.nilF]⟩ (.node 40 ⟨.func, 1, 8, [.nilF]⟩ .leaf .leaf) (.node 42 ⟨.func, 1, 8, [.nilF]⟩ .leaf .leaf))) (.node 49 ⟨.slice 56, 1, 24, [.nilS]⟩ (.node 47 ⟨.func, 1, 8, [.nilF]⟩ (.node 45 ⟨.func, 1, 8, [.nilF]⟩ .leaf .leaf) (.node 48 ⟨.func, 1, 8, [.nilF]⟩ .leaf .leaf)) (.node 52 ⟨.func, 1, 8, [.nilF]⟩ (.node 51 ⟨.func, 1, 8, [.nilF]⟩ .leaf .leaf) .leaf))) (.node 60 ⟨.struct [(0, 3), (1, 3), (2, 3), (3, 24)], 7, 80, [.int .i64 0, .int .i64 0, .int .i64 0, .int .i64 0, .int .i64 0, .str [], .nilS]⟩ (.node 57 ⟨.slice 60, 1, 24, [.nilS]⟩ (.node 55 ⟨.struct [(0, 24), (4, 22), (5, 22)], 6, 104, [.int .i64 0, .int .i64 0, .str [], .nilS, .nilS, .nilS]⟩ (.node 54 ⟨.func, 1, 8, [.nilF]⟩ .leaf .leaf) (.node 56 ⟨.struct [(0, 24), (4, 22), (5, 22)], 6, 104, [.int .i64 0, .int .i64 0, .str [], .nilS, .nilS, .nilS]⟩ .leaf .leaf)) (.node 59 ⟨.struct [(0, 3), (1, 3), (2, 3), (3, 24)], 7, 80, [.int .i64 0, .int .i64 0, .int .i64 0, .int .i64 0, .int .i64 0, .str [], .nilS]⟩ (.node 58 ⟨.func, 1, 8, [.nilF]⟩ .leaf .leaf) .leaf)) (.node 65 ⟨.func, 1, 8, [.nilF]⟩ (.node 63 ⟨.func, 1, 8, [.nilF]⟩ (.node 61 ⟨.func, 1, 8, [.nilF]⟩ .leaf .leaf) (.node 64 ⟨.func, 1, 8, [.nilF]⟩ .leaf .leaf)) (.node 67 ⟨.func, 1, 8, [.nilF]⟩ (.node 66 ⟨.slice 3, 1, 24, [.nilS]⟩ .leaf .leaf) .leaf))))) (.node 101 ⟨.func, 1, 8, [.nilF]⟩ (.node 86 ⟨.func, 1, 8, [.nilF]⟩ (.node 77 ⟨.struct [(0, 4), (1, 22), (2, 75)], 3, 56, [.bool false, .nilS, .nilS]⟩ (.node 73 ⟨.func, 1, 8, [.nilF]⟩ (.node 71 ⟨.func, 1, 8, [.nilF]⟩ (.node 70 ⟨.func, 1, 8, [.nilF]⟩ .leaf .leaf) (.node 72 ⟨.func, 1, 8, [.nilF]⟩ .leaf .leaf)) (.node 75 ⟨.slice 82, 1, 24, [.nilS]⟩ (.node 74 ⟨.func, 1, 8, [.nilF]⟩ .leaf .leaf) (.node 76 ⟨.struct [(0, 4), (1, 22), (2, 75)], 3, 56, [.bool false, .nilS, .nilS]⟩ .leaf .leaf))) (.node 82 ⟨.struct [(0, 3), (1, 22)], 2, 32, [.int .i64 0, .nilS]⟩ (.node 80 ⟨.func, 1, 8, [.nilF]⟩ (.node 79 ⟨.func, 1, 8, [.nilF]⟩ .leaf .leaf) (.node 81 ⟨.struct [(0, 3), (1, 22)], 2, 32, [.int .i64 0, .nilS]⟩ .leaf .leaf)) (.node 84 ⟨.func, 1, 8, [.nilF]⟩ (.node 83 ⟨.func, 1, 8, [.nilF]⟩ .leaf .leaf) .leaf))) (.node 94 ⟨.func, 1, 8, [.nilF]⟩ (.node 90 ⟨.struct [(0, 3), (1, 24)], 5, 64, [.int .i64 0, .int .i64 0, .int .i64 0, .str [], .nilS]⟩ (.node 88 ⟨.func, 1, 8, [.nilF]⟩ (.node 87 ⟨.func, 1, 8, [.nilF]⟩ .leaf .leaf) (.node 89 ⟨.func, 1, 8, [.nilF]⟩ .leaf .leaf)) (.node 93 ⟨.func, 1, 8, [.nilF]⟩ (.node 91 ⟨.struct [(0, 3), (1, 24)], 5, 64, [.int .i64 0, .int .i64 0, .int .i64 0, .str [], .nilS]⟩ .leaf .leaf) .leaf)) (.node 98 ⟨.func, 1, 8, [.nilF]⟩ (.node 96 ⟨.struct [(0, 27), (6, 4)], 7, 96, [.int .i64 0, .int .i64 0, .str [], .nilS, .nilS, .int .i64 0, .bool false]⟩ (.node 95 ⟨.ptr 97, 1, 8, [.nilP]⟩ .leaf .leaf) (.node 97 ⟨.struct [(0, 27), (6, 4)], 7, 96, [.int .i64 0, .int .i64 0, .str [], .nilS, .nilS, .int .i64 0, .bool false]⟩ .leaf .leaf)) (.node 100 ⟨.func, 1, 8, [.nilF]⟩ (.node 99 ⟨.func, 1, 8, [.nilF]⟩ .leaf .leaf) .leaf)))) (.node 118 ⟨.func, 1, 8, [.nilF]⟩ (.node 109 ⟨.func, 1, 8, [.nilF]⟩ (.node 105 ⟨.func, 1, 8, [.nilF]⟩ (.node 103 ⟨.func, 1, 8, [.nilF]⟩ (.node 102 ⟨.func, 1, 8, [.nilF]⟩ .leaf .leaf) (.node 104 ⟨.func, 1, 8, [.nilF]⟩ .leaf .leaf)) (.node 107 ⟨.func, 1, 8, [.nilF]⟩ (.node 106 ⟨.func, 1, 8, [.nilF]⟩ .leaf .leaf) (.node 108 ⟨.func, 1, 8, [.nilF]⟩ .leaf .leaf))) (.node 113 ⟨.func, 1, 8, [.nilF]⟩ (.node 111 ⟨.func, 1, 8, [.nilF]⟩ (.node 110 ⟨.func, 1, 8, [.nilF]⟩ .leaf .leaf) (.node 112 ⟨.func, 1, 8, [.nilF]⟩ .leaf .leaf)) (.node 116 ⟨.func, 1, 8, [.nilF]⟩ (.node 115 ⟨.func, 1, 8, [.nilF]⟩ .leaf .leaf) .leaf))) (.node 125 ⟨.struct [(0, 24), (4, 3), (5, 22), (6, 22), (7, 124), (8, 4)], 9, 128, [.int .i64 0, .int .i64 0, .str [], .nilS, .int .i64 0, .nilS, .nilS, .nilM, .bool false]⟩ (.node 122 ⟨.func, 1, 8, [.nilF]⟩ (.node 120 ⟨.func, 1, 8, [.nilF]⟩ (.node 119 ⟨.func, 1, 8, [.nilF]⟩ .leaf .leaf) (.node 121 ⟨.func, 1, 8, [.nilF]⟩ .leaf .leaf)) (.node 124 ⟨.map 3 24, 1, 8, [.nilM]⟩ (.node 123 ⟨.ptr 126, 1, 8, [.nilP]⟩ .leaf .leaf) .leaf)) (.node 129 ⟨.ptr 131, 1, 8, [.nilP]⟩ (.node 127 ⟨.int .i64, 1, 8, [.int .i64 0]⟩ (.node 126 ⟨.struct [(0, 24), (4, 3), (5, 22), (6, 22), (7, 124), (8, 4)], 9, 128, [.int .i64 0, .int .i64 0, .str [], .nilS, .int .i64 0, .nilS, .nilS, .nilM, .bool false]⟩ .leaf .leaf) (.node 128 ⟨.func, 1, 8, [.nilF]⟩ .leaf .leaf)) (.node 131 ⟨.struct [(0, 24), (4, 3), (5, 22), (6, 22), (7, 25), (8, 4)], 9, 144, [.int .i64 0, .int .i64 0, .str [], .nilS, .int .i64 0, .nilS, .nilS, .nilS, .bool false]⟩ (.node 130 ⟨.struct [(0, 24), (4, 3), (5, 22), (6, 22), (7, 25), (8, 4)], 9, 144, [.int .i64 0, .int .i64 0, .str [], .nilS, .int .i64 0, .nilS, .nilS, .nilS, .bool false]⟩ .leaf .leaf) .leaf)))))) (.node 209 ⟨.slice 208, 1, 24, [.nilS]⟩ (.node 162 ⟨.func, 1, 8, [.nilF]⟩ (.node 147 ⟨.func, 1, 8, [.nilF]⟩ (.node 140 ⟨.func, 1, 8, [.nilF]⟩ (.node 136 ⟨.func, 1, 8, [.nilF]⟩ (.node 134 ⟨.struct [(0, 57)], 1, 24, [.nilS]⟩ (.node 133 ⟨.ptr 135, 1, 8, [.nilP]⟩ .leaf .leaf) (.node 135 ⟨.struct [(0, 57)], 1, 24, [.nilS]⟩ .leaf .leaf)) (.node 138 ⟨.func, 1, 8, [.nilF]⟩ (.node 137 ⟨.func, 1, 8, [.nilF]⟩ .leaf .leaf) (.node 139 ⟨.func, 1, 8, [.nilF]⟩ .leaf .leaf))) (.node 144 ⟨.func, 1, 8, [.nilF]⟩ (.node 142 ⟨.func, 1, 8, [.nilF]⟩ (.node 141 ⟨.func, 1, 8, [.nilF]⟩ .leaf .leaf) (.node 143 ⟨.func, 1, 8, [.nilF]⟩ .leaf .leaf)) (.node 146 ⟨.func, 1, 8, [.nilF]⟩ (.node 145 ⟨.func, 1, 8, [.nilF]⟩ .leaf .leaf) .leaf))) (.node 154 ⟨.func, 1, 8, [.nilF]⟩ (.node 151 ⟨.struct [(0, 4), (1, 4), (2, 4), (3, 24), (7, 82)], 9, 96, [.bool false, .bool false, .bool false, .int .i64 0, .int .i64 0, .str [], .nilS, .int .i64 0, .nilS]⟩ (.node 149 ⟨.func, 1, 8, [.nilF]⟩ (.node 148 ⟨.func, 1, 8, [.nilF]⟩ .leaf .leaf) (.node 150 ⟨.struct [(0, 4), (1, 4), (2, 4), (3, 24), (7, 82)], 9, 96, [.bool false, .bool false, .bool false, .int .i64 0, .int .i64 0, .str [], .nilS, .int .i64 0, .nilS]⟩ .leaf .leaf)) (.node 153 ⟨.func, 1, 8, [.nilF]⟩ (.node 152 ⟨.func, 1, 8, [.nilF]⟩ .leaf .leaf) .leaf)) (.node 158 ⟨.func, 1, 8, [.nilF]⟩ (.node 156 ⟨.func, 1, 8, [.nilF]⟩ (.node 155 ⟨.func, 1, 8, [.nilF]⟩ .leaf .leaf) (.node 157 ⟨.func, 1, 8, [.nilF]⟩ .leaf .leaf)) (.node 161 ⟨.func, 1, 8, [.nilF]⟩ (.node 160 ⟨.func, 1, 8, [.nilF]⟩ .leaf .leaf) .leaf)))) (.node 179 ⟨.func, 1, 8, [.nilF]⟩ (.node 171 ⟨.func, 1, 8, [.nilF]⟩ (.node 167 ⟨.slice 5, 1, 24, [.nilS]⟩ (.node 165 ⟨.func, 1, 8, [.nilF]⟩ (.node 163 ⟨.func, 1, 8, [.nilF]⟩ .leaf .leaf) (.node 166 ⟨.func, 1, 8, [.nilF]⟩ .leaf .leaf)) (.node 169 ⟨.func, 1, 8, [.nilF]⟩ (.node 168 ⟨.func, 1, 8, [.nilF]⟩ .leaf .leaf) (.node 170 ⟨.func, 1, 8, [.nilF]⟩ .leaf .leaf))) (.node 175 ⟨.func, 1, 8, [.nilF]⟩ (.node 173 ⟨.func, 1, 8, [.nilF]⟩ (.node 172 ⟨.func, 1, 8, [.nilF]⟩ .leaf .leaf) (.node 174 ⟨.func, 1, 8, [.nilF]⟩ .leaf .leaf)) (.node 177 ⟨.func, 1, 8, [.nilF]⟩ (.node 176 ⟨.func, 1, 8, [.nilF]⟩ .leaf .leaf) .leaf))) (.node 191 ⟨.func, 1, 8, [.nilF]⟩ (.node 184 ⟨.ptr 4, 1, 8, [.nilP]⟩ (.node 182 ⟨.func, 1, 8, [.nilF]⟩ (.node 181 ⟨.func, 1, 8, [.nilF]⟩ .leaf .leaf) (.node 183 ⟨.func, 1, 8, [.nilF]⟩ .leaf .leaf)) (.node 187 ⟨.func, 1, 8, [.nilF]⟩ (.node 185 ⟨.func, 1, 8, [.nilF]⟩ .leaf .leaf) .leaf)) (.node 203 ⟨.int .u64, 1, 8, [.int .u64 0]⟩ (.node 194 ⟨.func, 1, 8, [.nilF]⟩ (.node 193 ⟨.func, 1, 8, [.nilF]⟩ .leaf .leaf) (.node 195 ⟨.func, 1, 8, [.nilF]⟩ .leaf .leaf)) (.node 208 ⟨.struct [(0, 24), (4, 24)], 8, 112, [.int .i64 0, .int .i64 0, .str [], .nilS, .int .i64 0, .int .i64 0, .str [], .nilS]⟩ (.node 207 ⟨.struct [(0, 24), (4, 24)], 8, 112, [.int .i64 0, .int .i64 0, .str [], .nilS, .int .i64 0, .int .i64 0, .str [], .nilS]⟩ .leaf .leaf) .leaf))))) (.node 246 ⟨.int .u32, 1, 4, [.int .u32 0]⟩ (.node 231 ⟨.func, 1, 8, [.nilF]⟩ (.node 218 ⟨.struct [(0, 215), (2, 216)], 402, 5616, [.int .u64 0, .int .u64 0, .int .i64 0, .int .i64 0, .str [], .nilS, .int .i64 0, .int .i64 0, .str [], .nilS, .int .i64 0, .int .i64 0, .str [], .nilS, .int .i64 0, .int .i64 0, .str [], .nilS, .int .i64 0, .int .i64 0, .str [], .nilS, .int .i64 0, .int .i64 0, .str [], .nilS, .int .i64 0, .int .i64 0, .str [], .nilS, .int .i64 0, .int .i64 0, .str [], .nilS, .int .i64 0, .int .i64 0, .str [], .nilS, .int .i64 0, .int .i64 0, .str [], .nilS, .int .i64 0, .int .i64 0, .str [], .nilS, .int .i64 0, .int .i64 0, .str [], .nilS, .int .i64 0, .int .i64 0, .str [], .nilS, .int .i64 0, .int .i64 0, .str [], .nilS, .int .i64 0, .int .i64 0, .str [], .nilS, .int .i64 0, .int .i64 0, .str [], .nilS, .int .i64 0, .int .i64 0, .str [], .nilS, .int .i64 0, .int .i64 0, .str [], .nilS, .int .i64 0, .int .i64 0, .str [], .nilS, .int .i64 0, .int .i64 0, .str [], .nilS, .int .i64 0, .int .i64 0, .str [], .nilS, .int .i64 0, .int .i64 0, .str [], .nilS, .int .i64 0, .int .i64 0, .str [], .nilS, .int .i64 0, .int .i64 0, .str [], .nilS, .int .i64 0, .int .i64 0, .str [], .nilS, .int .i64 0, .int .i64 0, .str [], .nilS, .int .i64 0, .int .i64 0, .str [], .nilS, .int .i64 0, .int .i64 0, .str [], .nilS, .int .i64 0, .int .i64 0, .str [], .nilS, .int .i64 0, .int .i64 0, .str [], .nilS, .int .i64 0, .int .i64 0, .str [], .nilS, .int .i64 0, .int .i64 0, .str [], .nilS, .int .i64 0, .int .i64 0, .str [], .nilS, .int .i64 0, .int .i64 0, .str [], .nilS, .int .i64 0, .int .i64 0, .str [], .nilS, .int .i64 0, .int .i64 0, .str [], .nilS, .int .i64 0, .int .i64 0, .str [], .nilS, .int .i64 0, .int .i64 0, .str [], .nilS, .int .i64 0, .int .i64 0, .str [], .nilS, .int .i64 0, .int .i64 0, .str [], .nilS, .int .i64 0, .int .i64 0, .str [], .nilS, .int .i64 0, .int .i64 0, .str [], .nilS, .int .i64 0, .int .i64 0, .str [], .nilS, .int .i64 0, .int .i64 0, .str [], .nilS, .int .i64 0, .int .i64 0, .str [], .nilS, .int .i64 0, .int .i64 0, .str [], .nilS, .int .i64 0, .int .i64 0, .str [], .nilS, .int .i64 0, .int .i64 0, .str [], .nilS, .int .i64 0, .int .i64 0, .str [], .nilS, .int .i64 0, .int .i64 0, .str [], .nilS, .int .i64 0, .int .i64 0, .str [], .nilS, .int .i64 0, .int .i64 0, .str [], .nilS, .int .i64 0, .int .i64 0, .str [], .nilS, .int .i64 0, .int .i64 0, .str [], .nilS, .int .i64 0, .int .i64 0, .str [], .nilS, .int .i64 0, .int .i64 0, .str [], .nilS, .int .i64 0, .int .i64 0, .str [], .nilS, .int .i64 0, .int .i64 0, .str [], .nilS, .int .i64 0, .int .i64 0, .str [], .nilS, .int .i64 0, .int .i64 0, .str [], .nilS, .int .i64 0, .int .i64 0, .str [], .nilS, .int .i64 0, .int .i64 0, .str [], .nilS, .int .i64 0, .int .i64 0, .str [], .nilS, .int .i64 0, .int .i64 0, .str [], .nilS, .int .i64 0, .int .i64 0, .str [], .nilS, .int .i64 0, .int .i64 0, .str [], .nilS, .int .i64 0, .int .i64 0, .str [], .nilS, .int .i64 0, .int .i64 0, .str [], .nilS, .int .i64 0, .int .i64 0, .str [], .nilS, .int .i64 0, .int .i64 0, .str [], .nilS, .int .i64 0, .int .i64 0, .str [], .nilS, .int .i64 0, .int .i64 0, .str [], .nilS, .int .i64 0, .int .i64 0, .str [], .nilS, .int .i64 0, .int .i64 0, .str [], .nilS, .int .i64 0, .int .i64 0, .str [], .nilS, .int .i64 0, .int .i64 0, .str [], .nilS, .int .i64 0, .int .i64 0, .str [], .nilS, .int .i64 0, .int .i64 0, .str [], .nilS, .int .i64 0, .int .i64 0, .str [], .nilS, .int .i64 0, .int .i64 0, .str [], .nilS, .int .i64 0, .int .i64 0, .str [], .nilS, .int .i64 0, .int .i64 0, .str [], .nilS, .int .i64 0, .int .i64 0, .str [], .nilS, .int .i64 0, .int .i64 0, .str [], .nilS, .int .i64 0, .int .i64 0, .str [], .nilS, .int .i64 0, .int .i64 0, .str [], .nilS, .int .i64 0, .int .i64 0, .str [], .nilS, .int .i64 0, .int .i64 0, .str [], .nilS, .int .i64 0, .int .i64 0, .str [], .nilS, .int .i64 0, .int .i64 0, .str [], .nilS, .int .i64 0, .int .i64 0, .str [], .nilS, .int .i64 0, .int .i64 0, .str [], .nilS, .int .i64 0, .int .i64 0, .str [], .nilS, .int .i64 0, .int .i64 0, .str [], .nilS, .int .i64 0, .int .i64 0, .str [], .nilS, .int .i64 0, .int .i64 0, .str [], .nilS, .int .i64 0, .int .i64 0, .str [], .nilS, .int .i64 0, .int .i64 0, .str [], .nilS, .int .i64 0, .int .i64 0, .str [], .nilS, .int .i64 0, .int .i64 0, .str [], .nilS]⟩ (.node 214 ⟨.struct [(0, 213), (1, 213)], 2, 16, [.int .u64 0, .int .u64 0]⟩ (.node 211 ⟨.ptr 218, 1, 8, [.nilP]⟩ (.node 210 ⟨.func, 1, 8, [.nilF]⟩ .leaf .leaf) (.node 213 ⟨.int .u64, 1, 8, [.int .u64 0]⟩ .leaf .leaf)) (.node 216 ⟨.array 100 24, 400, 5600, [.int .i64 0, .int .i64 0, .str [], .nilS, .int .i64 0, .int .i64 0, .str [], .nilS, .int .i64 0, .int .i64 0, .str [], .nilS, .int .i64 0, .int .i64 0, .str [], .nilS, .int .i64 0, .int .i64 0, .str [], .nilS, .int .i64 0, .int .i64 0, .str [], .nilS, .int .i64 0, .int .i64 0, .str [], .nilS, .int .i64 0, .int .i64 0, .str [], .nilS, .int .i64 0, .int .i64 0, .str [], .nilS, .int .i64 0, .int .i64 0, .str [], .nilS, .int .i64 0, .int .i64 0, .str [], .nilS, .int .i64 0, .int .i64 0, .str [], .nilS, .int .i64 0, .int .i64 0, .str [], .nilS, .int .i64 0, .int .i64 0, .str [], .nilS, .int .i64 0, .int .i64 0, .str [], .nilS, .int .i64 0, .int .i64 0, .str [], .nilS, .int .i64 0, .int .i64 0, .str [], .nilS, .int .i64 0, .int .i64 0, .str [], .nilS, .int .i64 0, .int .i64 0, .str [], .nilS, .int .i64 0, .int .i64 0, .str [], .nilS, .int .i64 0, .int .i64 0, .str [], .nilS, .int .i64 0, .int .i64 0, .str [], .nilS, .int .i64 0, .int .i64 0, .str [], .nilS, .int .i64 0, .int .i64 0, .str [], .nilS, .int .i64 0, .int .i64 0, .str [], .nilS, .int .i64 0, .int .i64 0, .str [], .nilS, .int .i64 0, .int .i64 0, .str [], .nilS, .int .i64 0, .int .i64 0, .str [], .nilS, .int .i64 0, .int .i64 0, .str [], .nilS, .int .i64 0, .int .i64 0, .str [], .nilS, .int .i64 0, .int .i64 0, .str [], .nilS, .int .i64 0, .int .i64 0, .str [], .nilS, .int .i64 0, .int .i64 0, .str [], .nilS, .int .i64 0, .int .i64 0, .str [], .nilS, .int .i64 0, .int .i64 0, .str [], .nilS, .int .i64 0, .int .i64 0, .str [], .nilS, .int .i64 0, .int .i64 0, .str [], .nilS, .int .i64 0, .int .i64 0, .str [], .nilS, .int .i64 0, .int .i64 0, .str [], .nilS, .int .i64 0, .int .i64 0, .str [], .nilS, .int .i64 0, .int .i64 0, .str [], .nilS, .int .i64 0, .int .i64 0, .str [], .nilS, .int .i64 0, .int .i64 0, .str [], .nilS, .int .i64 0, .int .i64 0, .str [], .nilS, .int .i64 0, .int .i64 0, .str [], .nilS, .int .i64 0, .int .i64 0, .str [], .nilS, .int .i64 0, .int .i64 0, .str [], .nilS, .int .i64 0, .int .i64 0, .str [], .nilS, .int .i64 0, .int .i64 0, .str [], .nilS, .int .i64 0, .int .i64 0, .str [], .nilS, .int .i64 0, .int .i64 0, .str [], .nilS, .int .i64 0, .int .i64 0, .str [], .nilS, .int .i64 0, .int .i64 0, .str [], .nilS, .int .i64 0, .int .i64 0, .str [], .nilS, .int .i64 0, .int .i64 0, .str [], .nilS, .int .i64 0, .int .i64 0, .str [], .nilS, .int .i64 0, .int .i64 0, .str [], .nilS, .int .i64 0, .int .i64 0, .str [], .nilS, .int .i64 0, .int .i64 0, .str [], .nilS, .int .i64 0, .int .i64 0, .str [], .nilS, .int .i64 0, .int .i64 0, .str [], .nilS, .int .i64 0, .int .i64 0, .str [], .nilS, .int .i64 0, .int .i64 0, .str [], .nilS, .int .i64 0, .int .i64 0, .str [], .nilS, .int .i64 0, .int .i64 0, .str [], .nilS, .int .i64 0, .int .i64 0, .str [], .nilS, .int .i64 0, .int .i64 0, .str [], .nilS, .int .i64 0, .int .i64 0, .str [], .nilS, .int .i64 0, .int .i64 0, .str [], .nilS, .int .i64 0, .int .i64 0, .str [], .nilS, .int .i64 0, .int .i64 0, .str [], .nilS, .int .i64 0, .int .i64 0, .str [], .nilS, .int .i64 0, .int .i64 0, .str [], .nilS, .int .i64 0, .int .i64 0, .str [], .nilS, .int .i64 0, .int .i64 0, .str [], .nilS, .int .i64 0, .int .i64 0, .str [], .nilS, .int .i64 0, .int .i64 0, .str [], .nilS, .int .i64 0, .int .i64 0, .str [], .nilS, .int .i64 0, .int .i64 0, .str [], .nilS, .int .i64 0, .int .i64 0, .str [], .nilS, .int .i64 0, .int .i64 0, .str [], .nilS, .int .i64 0, .int .i64 0, .str [], .nilS, .int .i64 0, .int .i64 0, .str [], .nilS, .int .i64 0, .int .i64 0, .str [], .nilS, .int .i64 0, .int .i64 0, .str [], .nilS, .int .i64 0, .int .i64 0, .str [], .nilS, .int .i64 0, .int .i64 0, .str [], .nilS, .int .i64 0, .int .i64 0, .str [], .nilS, .int .i64 0, .int .i64 0, .str [], .nilS, .int .i64 0, .int .i64 0, .str [], .nilS, .int .i64 0, .int .i64 0, .str [], .nilS, .int .i64 0, .int .i64 0, .str [], .nilS, .int .i64 0, .int .i64 0, .str [], .nilS, .int .i64 0, .int .i64 0, .str [], .nilS, .int .i64 0, .int .i64 0, .str [], .nilS, .int .i64 0, .int .i64 0, .str [], .nilS, .int .i64 0, .int .i64 0, .str [], .nilS, .int .i64 0, .int .i64 0, .str [], .nilS, .int .i64 0, .int .i64 0, .str [], .nilS, .int .i64 0, .int .i64 0, .str [], .nilS]⟩ (.node 215 ⟨.struct [(0, 213), (1, 213)], 2, 16, [.int .u64 0, .int .u64 0]⟩ .leaf .leaf) (.node 217 ⟨.struct [(0, 215), (2, 216)], 402, 5616, [.int .u64 0, .int .u64 0, .int .i64 0, .int .i64 0, .str [], .nilS, .int .i64 0, .int .i64 0, .str [], .nilS, .int .i64 0, .int .i64 0, .str [], .nilS, .int .i64 0, .int .i64 0, .str [], .nilS, .int .i64 0, .int .i64 0, .str [], .nilS, .int .i64 0, .int .i64 0, .str [], .nilS, .int .i64 0, .int .i64 0, .str [], .nilS, .int .i64 0, .int .i64 0, .str [], .nilS, .int .i64 0, .int .i64 0, .str [], .nilS, .int .i64 0, .int .i64 0, .str [], .nilS, .int .i64 0, .int .i64 0, .str [], .nilS, .int .i64 0, .int .i64 0, .str [], .nilS, .int .i64 0, .int .i64 0, .str [], .nilS, .int .i64 0, .int .i64 0, .str [], .nilS, .int .i64 0, .int .i64 0, .str [], .nilS, .int .i64 0, .int .i64 0, .str [], .nilS, .int .i64 0, .int .i64 0, .str [], .nilS, .int .i64 0, .int .i64 0, .str [], .nilS, .int .i64 0, .int .i64 0, .str [], .nilS, .int .i64 0, .int .i64 0, .str [], .nilS, .int .i64 0, .int .i64 0, .str [], .nilS, .int .i64 0, .int .i64 0, .str [], .nilS, .int .i64 0, .int .i64 0, .str [], .nilS, .int .i64 0, .int .i64 0, .str [], .nilS, .int .i64 0, .int .i64 0, .str [], .nilS, .int .i64 0, .int .i64 0, .str [], .nilS, .int .i64 0, .int .i64 0, .str [], .nilS, .int .i64 0, .int .i64 0, .str [], .nilS, .int .i64 0, .int .i64 0, .str [], .nilS, .int .i64 0, .int .i64 0, .str [], .nilS, .int .i64 0, .int .i64 0, .str [], .nilS, .int .i64 0, .int .i64 0, .str [], .nilS, .int .i64 0, .int .i64 0, .str [], .nilS, .int .i64 0, .int .i64 0, .str [], .nilS, .int .i64 0, .int .i64 0, .str [], .nilS, .int .i64 0, .int .i64 0, .str [], .nilS, .int .i64 0, .int .i64 0, .str [], .nilS, .int .i64 0, .int .i64 0, .str [], .nilS, .int .i64 0, .int .i64 0, .str [], .nilS, .int .i64 0, .int .i64 0, .str [], .nilS, .int .i64 0, .int .i64 0, .str [], .nilS, .int .i64 0, .int .i64 0, .str [], .nilS, .int .i64 0, .int .i64 0, .str [], .nilS, .int .i64 0, .int .i64 0, .str [], .nilS, .int .i64 0, .int .i64 0, .str [], .nilS, .int .i64 0, .int .i64 0, .str [], .nilS, .int .i64 0, .int .i64 0, .str [], .nilS, .int .i64 0, .int .i64 0, .str [], .nilS, .int .i64 0, .int .i64 0, .str [], .nilS, .int .i64 0, .int .i64 0, .str [], .nilS, .int .i64 0, .int .i64 0, .str [], .nilS, .int .i64 0, .int .i64 0, .str [], .nilS, .int .i64 0, .int .i64 0, .str [], .nilS, .int .i64 0, .int .i64 0, .str [], .nilS, .int .i64 0, .int .i64 0, .str [], .nilS, .int .i64 0, .int .i64 0, .str [], .nilS, .int .i64 0, .int .i64 0, .str [], .nilS, .int .i64 0, .int .i64 0, .str [], .nilS, .int .i64 0, .int .i64 0, .str [], .nilS, .int .i64 0, .int .i64 0, .str [], .nilS, .int .i64 0, .int .i64 0, .str [], .nilS, .int .i64 0, .int .i64 0, .str [], .nilS, .int .i64 0, .int .i64 0, .str [], .nilS, .int .i64 0, .int .i64 0, .str [], .nilS, .int .i64 0, .int .i64 0, .str [], .nilS, .int .i64 0, .int .i64 0, .str [], .nilS, .int .i64 0, .int .i64 0, .str [], .nilS, .int .i64 0, .int .i64 0, .str [], .nilS, .int .i64 0, .int .i64 0, .str [], .nilS, .int .i64 0, .int .i64 0, .str [], .nilS, .int .i64 0, .int .i64 0, .str [], .nilS, .int .i64 0, .int .i64 0, .str [], .nilS, .int .i64 0, .int .i64 0, .str [], .nilS, .int .i64 0, .int .i64 0, .str [], .nilS, .int .i64 0, .int .i64 0, .str [], .nilS, .int .i64 0, .int .i64 0, .str [], .nilS, .int .i64 0, .int .i64 0, .str [], .nilS, .int .i64 0, .int .i64 0, .str [], .nilS, .int .i64 0, .int .i64 0, .str [], .nilS, .int .i64 0, .int .i64 0, .str [], .nilS, .int .i64 0, .int .i64 0, .str [], .nilS, .int .i64 0, .int .i64 0, .str [], .nilS, .int .i64 0, .int .i64 0, .str [], .nilS, .int .i64 0, .int .i64 0, .str [], .nilS, .int .i64 0, .int .i64 0, .str [], .nilS, .int .i64 0, .int .i64 0, .str [], .nilS, .int .i64 0, .int .i64 0, .str [], .nilS, .int .i64 0, .int .i64 0, .str [], .nilS, .int .i64 0, .int .i64 0, .str [], .nilS, .int .i64 0, .int .i64 0, .str [], .nilS, .int .i64 0, .int .i64 0, .str [], .nilS, .int .i64 0, .int .i64 0, .str [], .nilS, .int .i64 0, .int .i64 0, .str [], .nilS, .int .i64 0, .int .i64 0, .str [], .nilS, .int .i64 0, .int .i64 0, .str [], .nilS, .int .i64 0, .int .i64 0, .str [], .nilS, .int .i64 0, .int .i64 0, .str [], .nilS, .int .i64 0, .int .i64 0, .str [], .nilS, .int .i64 0, .int .i64 0, .str [], .nilS, .int .i64 0, .int .i64 0, .str [], .nilS]⟩ .leaf .leaf))) (.node 228 ⟨.func, 1, 8, [.nilF]⟩ (.node 226 ⟨.func, 1, 8, [.nilF]⟩ (.node 220 ⟨.func, 1, 8, [.nilF]⟩ .leaf .leaf) (.node 227 ⟨.func, 1, 8, [.nilF]⟩ .leaf .leaf)) (.node 230 ⟨.func, 1, 8, [.nilF]⟩ (.node 229 ⟨.array 2 22, 2, 48, [.nilS, .nilS]⟩ .leaf .leaf) .leaf))) (.node 238 ⟨.func, 1, 8, [.nilF]⟩ (.node 235 ⟨.func, 1, 8, [.nilF]⟩ (.node 233 ⟨.func, 1, 8, [.nilF]⟩ (.node 232 ⟨.func, 1, 8, [.nilF]⟩ .leaf .leaf) (.node 234 ⟨.map 3 4, 1, 8, [.nilM]⟩ .leaf .leaf)) (.node 237 ⟨.func, 1, 8, [.nilF]⟩ (.node 236 ⟨.func, 1, 8, [.nilF]⟩ .leaf .leaf) .leaf)) (.node 243 ⟨.func, 1, 8, [.nilF]⟩ (.node 241 ⟨.func, 1, 8, [.nilF]⟩ (.node 239 ⟨.int .i64, 1, 8, [.int .i64 0]⟩ .leaf .leaf) (.node 242 ⟨.func, 1, 8, [.nilF]⟩ .leaf .leaf)) (.node 245 ⟨.func, 1, 8, [.nilF]⟩ (.node 244 ⟨.func, 1, 8, [.nilF]⟩ .leaf .leaf) .leaf)))) (.node 263 ⟨.func, 1, 8, [.nilF]⟩ (.node 254 ⟨.func, 1, 8, [.nilF]⟩ (.node 250 ⟨.ptr 215, 1, 8, [.nilP]⟩ (.node 248 ⟨.func, 1, 8, [.nilF]⟩ (.node 247 ⟨.func, 1, 8, [.nilF]⟩ .leaf .leaf) (.node 249 ⟨.func, 1, 8, [.nilF]⟩ .leaf .leaf)) (.node 252 ⟨.ptr 24, 1, 8, [.nilP]⟩ (.node 251 ⟨.func, 1, 8, [.nilF]⟩ .leaf .leaf) (.node 253 ⟨.func, 1, 8, [.nilF]⟩ .leaf .leaf))) (.node 258 ⟨.int .u64, 1, 8, [.int .u64 0]⟩ (.node 256 ⟨.func, 1, 8, [.nilF]⟩ (.node 255 ⟨.func, 1, 8, [.nilF]⟩ .leaf .leaf) (.node 257 ⟨.func, 1, 8, [.nilF]⟩ .leaf .leaf)) (.node 260 ⟨.func, 1, 8, [.nilF]⟩ (.node 259 ⟨.func, 1, 8, [.nilF]⟩ .leaf .leaf) .leaf))) (.node 281 ⟨.int .u8, 1, 1, [.int .u8 0]⟩ (.node 276 ⟨.array 0 16, 0, 0, []⟩ (.node 273 ⟨.func, 1, 8, [.nilF]⟩ (.node 265 ⟨.func, 1, 8, [.nilF]⟩ .leaf .leaf) (.node 274 ⟨.struct [(0, 17), (1, 17), (2, 17), (3, 9)], 4, 40, [.nilP, .nilP, .nilP, .str []]⟩ .leaf .leaf)) (.node 280 ⟨.int .u8, 1, 1, [.int .u8 0]⟩ (.node 277 ⟨.struct [(0, 276)], 0, 0, []⟩ .leaf .leaf) .leaf)) (.node 285 ⟨.int .i32, 1, 4, [.int .i32 0]⟩ (.node 283 ⟨.ptr 5, 1, 8, [.nilP]⟩ (.node 282 ⟨.func, 1, 8, [.nilF]⟩ .leaf .leaf) (.node 284 ⟨.int .i32, 1, 4, [.int .i32 0]⟩ .leaf .leaf)) (.node 287 ⟨.struct [(0, 12), (1, 12), (2, 246), (3, 280), (4, 5), (5, 5), (6, 281), (7, 282), (8, 283), (9, 284), (10, 285)], 11, 48, zr0⟩ (.node 286 ⟨.struct [(0, 12), (1, 12), (2, 246), (3, 280), (4, 5), (5, 5), (6, 281), (7, 282), (8, 283), (9, 284), (10, 285)], 11, 48, zr0⟩ .leaf .leaf) .leaf))))))
def qvi : BT CMode := .node 170 (.scal) (.node 94 (.scal) (.node 70 (.inpf) (.node 29 (.pfrz) (.node 19 (.scal) (.node 17 (.pfrz) (.node 15 (.pfrz) (.node 5 (.scal) .leaf .leaf) .leaf) (.node 18 (.pfrz) .leaf .leaf)) (.node 27 (.scal) (.node 26 (.scal) (.node 23 (.pown) .leaf .leaf) .leaf) (.node 28 (.pfrz) .leaf .leaf))) (.node 37 (.scal) (.node 32 (.scal) (.node 31 (.scal) (.node 30 (.scal) .leaf .leaf) .leaf) (.node 36 (.scal) .leaf .leaf)) (.node 68 (.pfrz) (.node 41 (.scal) .leaf .leaf) (.node 69 (.scal) .leaf .leaf)))) (.node 85 (.pfrz) (.node 75 (.pfrz) (.node 73 (.scal) (.node 72 (.scal) (.node 71 (.pfrz) .leaf .leaf) .leaf) (.node 74 (.pfrz) .leaf .leaf)) (.node 81 (.pfrz) (.node 76 (.pfrz) .leaf .leaf) (.node 84 (.pfrz) .leaf .leaf))) (.node 90 (.scal) (.node 88 (.scal) (.node 87 (.pfrz) (.node 86 (.scal) .leaf .leaf) .leaf) (.node 89 (.pfrz) .leaf .leaf)) (.node 92 (.inpf) (.node 91 (.scal) .leaf .leaf) (.node 93 (.scal) .leaf .leaf))))) (.node 151 (.scal) (.node 106 (.scal) (.node 99 (.pown) (.node 97 (.pfrz) (.node 96 (.pfrz) (.node 95 (.scal) .leaf .leaf) .leaf) (.node 98 (.scal) .leaf .leaf)) (.node 102 (.scal) (.node 101 (.pfrz) (.node 100 (.pfrz) .leaf .leaf) .leaf) (.node 103 (.pown) .leaf .leaf))) (.node 143 (.scal) (.node 134 (.scal) (.node 124 (.scal) (.node 122 (.pfrz) .leaf .leaf) .leaf) (.node 136 (.scal) .leaf .leaf)) (.node 149 (.scal) (.node 146 (.scal) .leaf .leaf) (.node 150 (.scal) .leaf .leaf)))) (.node 160 (.scal) (.node 156 (.inpf) (.node 154 (.pfrz) (.node 153 (.scal) (.node 152 (.scal) .leaf .leaf) .leaf) (.node 155 (.inpf) .leaf .leaf)) (.node 158 (.inpl) (.node 157 (.inpf) .leaf .leaf) (.node 159 (.slf) .leaf .leaf))) (.node 165 (.pfrz) (.node 163 (.pfrz) (.node 162 (.scal) (.node 161 (.scal) .leaf .leaf) .leaf) (.node 164 (.pfrz) .leaf .leaf)) (.node 167 (.pfrz) (.node 166 (.pfrz) .leaf .leaf) (.node 168 (.scal) .leaf .leaf)))))) (.node 243 (.inpf) (.node 218 (.scal) (.node 180 (.pfrz) (.node 175 (.scal) (.node 173 (.inpf) (.node 172 (.inpf) (.node 171 (.scal) .leaf .leaf) .leaf) (.node 174 (.pfrz) .leaf .leaf)) (.node 178 (.pfrz) (.node 177 (.pfrz) (.node 176 (.scal) .leaf .leaf) .leaf) (.node 179 (.pfrz) .leaf .leaf))) (.node 185 (.pfrz) (.node 183 (.scal) (.node 182 (.pfrz) (.node 181 (.pfrz) .leaf .leaf) .leaf) (.node 184 (.pfrz) .leaf .leaf)) (.node 208 (.scal) (.node 187 (.pfrz) .leaf .leaf) (.node 210 (.scal) .leaf .leaf)))) (.node 233 (.inpf) (.node 228 (.scal) (.node 226 (.scal) (.node 220 (.scal) (.node 219 (.scal) .leaf .leaf) .leaf) (.node 227 (.scal) .leaf .leaf)) (.node 230 (.scal) (.node 229 (.scal) .leaf .leaf) (.node 232 (.scal) .leaf .leaf))) (.node 239 (.pfrz) (.node 236 (.pfrz) (.node 235 (.scal) (.node 234 (.scal) .leaf .leaf) .leaf) (.node 237 (.scal) .leaf .leaf)) (.node 241 (.inpl) (.node 240 (.inpf) .leaf .leaf) (.node 242 (.inpf) .leaf .leaf))))) (.node 288 (.pfrz) (.node 253 (.scal) (.node 248 (.scal) (.node 246 (.scal) (.node 245 (.pfrz) (.node 244 (.scal) .leaf .leaf) .leaf) (.node 247 (.pfrz) .leaf .leaf)) (.node 251 (.pfrz) (.node 250 (.scal) (.node 249 (.scal) .leaf .leaf) .leaf) (.node 252 (.pfrz) .leaf .leaf))) (.node 259 (.pfrz) (.node 256 (.pfrz) (.node 255 (.scal) (.node 254 (.pfrz) .leaf .leaf) .leaf) (.node 258 (.scal) .leaf .leaf)) (.node 271 (.scal) (.node 260 (.pfrz) .leaf .leaf) (.node 287 (.scal) .leaf .leaf)))) (.node 299 (.pfrz) (.node 295 (.scal) (.node 292 (.pfrz) (.node 291 (.inpl) (.node 290 (.scal) .leaf .leaf) .leaf) (.node 294 (.inpf) .leaf .leaf)) (.node 297 (.pfrz) (.node 296 (.pfrz) .leaf .leaf) (.node 298 (.scal) .leaf .leaf))) (.node 312 (.scal) (.node 309 (.pfrz) (.node 308 (.scal) (.node 300 (.pfrz) .leaf .leaf) .leaf) (.node 310 (.pfrz) .leaf .leaf)) (.node 314 (.inpf) (.node 313 (.inpl) .leaf .leaf) (.node 315 (.pfrz) .leaf .leaf))))))
def qwo : BT (BT (List Nat)) := .node 122 (.node 3 ([3]) .leaf .leaf) (.node 84 (.node 5 ([6]) .leaf .leaf) (.node 75 (.node 12 ([1]) .leaf .leaf) (.node 32 (.node 3 ([8]) (.node 2 ([4]) .leaf .leaf) .leaf) .leaf .leaf) .leaf) (.node 101 (.node 1 ([3, 8, 12]) .leaf .leaf) .leaf .leaf)) (.node 165 (.node 5 ([6]) .leaf .leaf) (.node 156 (.node 7 ([2]) .leaf .leaf) .leaf .leaf) (.node 184 (.node 1 ([6, 8]) .leaf .leaf) .leaf .leaf))
noncomputable def qlq {α : Type} (a b : Nat) (t : BT (BT α)) : Option α := match t.look a with | some u => u.look b | none => none
noncomputable def qvq (f r k : Nat) : Bool := match qlq f r qwo with | some l => x4 k l | none => false
def qvj : BT (BT (List Tmp × List Tmp)) := .node 166 (.node 3 ([0, 3, 6, 7], [4, 5, 6]) .leaf .leaf) (.node 99 (.node 6 ([4, 6, 7], [2, 3, 6]) .leaf .leaf) (.node 74 (.node 3 ([0, 3, 4], [3]) .leaf .leaf) (.node 27 (.node 2 ([0, 3], [2]) .leaf .leaf) (.node 23 (.node 3 ([0, 3, 4], [3]) .leaf .leaf) (.node 20 (.node 2 ([1, 2], []) .leaf .leaf) .leaf .leaf) (.node 26 (.node 4 ([0, 1, 5], [4]) .leaf .leaf) .leaf .leaf)) (.node 31 (.node 6 ([2, 4, 9, 11], [6, 7]) .leaf .leaf) (.node 29 (.node 6 ([2, 4, 6, 10, 12], [6, 7, 8]) .leaf .leaf) .leaf .leaf) (.node 68 (.node 4 ([1, 4, 5, 9, 10, 11], [1, 2, 3, 4]) .leaf .leaf) .leaf .leaf))) (.node 86 (.node 3 ([3, 6, 16, 17, 18], [4, 6]) .leaf .leaf) (.node 76 (.node 3 ([1, 2, 3, 4], [1, 2, 3]) .leaf .leaf) (.node 75 (.node 9 ([3, 4, 8, 9], [4, 8]) .leaf .leaf) .leaf .leaf) (.node 84 (.node 3 ([0, 2, 3, 4], [2, 3]) .leaf .leaf) .leaf .leaf)) (.node 93 (.node 3 ([1, 5, 6], [4]) .leaf .leaf) (.node 91 (.node 4 ([2, 3], [2, 3]) .leaf .leaf) .leaf .leaf) (.node 97 (.node 7 ([2, 4, 7, 43, 44, 45], [6, 7, 8]) .leaf .leaf) .leaf .leaf)))) (.node 146 (.node 4 ([2, 3, 5], [4]) .leaf .leaf) (.node 122 (.node 3 ([3], [3, 4]) .leaf .leaf) (.node 103 (.node 7 ([2, 3, 4], [2, 3, 4, 5]) .leaf .leaf) (.node 100 (.node 7 ([3, 6, 10, 11, 12], [6, 7, 11]) .leaf .leaf) .leaf .leaf) (.node 106 (.node 5 ([1, 2, 5, 6], [5]) .leaf .leaf) .leaf .leaf)) (.node 134 (.node 1 ([2, 3], [4]) .leaf .leaf) (.node 124 (.node 2 ([0, 1, 7, 8], [4]) .leaf .leaf) .leaf .leaf) (.node 136 (.node 9 ([5, 6, 70, 71], [5]) (.node 2 ([5], [4]) .leaf .leaf) .leaf) .leaf .leaf))) (.node 159 (.node 6 ([1, 2, 3, 4, 18, 19, 20], [2, 3, 4]) .leaf .leaf) (.node 156 (.node 3 ([2, 3, 10, 11, 12], [2, 3]) .leaf .leaf) (.node 150 (.node 2 ([0, 1, 2, 11, 12, 13], [0, 1, 6]) .leaf .leaf) .leaf .leaf) (.node 157 (.node 3 ([0, 5, 8, 9, 10], [4, 5]) .leaf .leaf) .leaf .leaf)) (.node 162 (.node 5 ([1, 4, 5], [2, 3, 4]) .leaf .leaf) (.node 160 (.node 2 ([0, 3], [2]) .leaf .leaf) .leaf .leaf) (.node 165 (.node 3 ([0, 2, 3, 4], [2, 3]) .leaf .leaf) .leaf .leaf))))) (.node 242 (.node 4 ([7], [0, 5, 6, 7]) .leaf .leaf) (.node 210 (.node 5 ([4, 32, 33, 34], [2, 3, 4]) .leaf .leaf) (.node 179 (.node 7 ([6, 10, 11, 38, 39, 40], [6, 7, 11]) .leaf .leaf) (.node 175 (.node 4 ([1, 3], [2]) .leaf .leaf) (.node 168 (.node 2 ([0, 1, 7, 8], [4]) .leaf .leaf) .leaf .leaf) (.node 176 (.node 6 ([1, 3, 4], [3]) .leaf .leaf) .leaf .leaf)) (.node 183 (.node 2 ([0, 3, 5], [3, 4]) .leaf .leaf) (.node 180 (.node 2 ([1, 4], [1, 4]) .leaf .leaf) .leaf .leaf) (.node 187 (.node 14 ([2, 4, 5, 73, 74, 77, 78, 79], [2, 3, 4, 5, 73, 74]) (.node 11 ([2, 4, 5, 73, 74], [2, 3, 4]) .leaf .leaf) .leaf) .leaf .leaf))) (.node 234 (.node 2 ([0, 1, 5], [4]) .leaf .leaf) (.node 229 (.node 3 ([0, 1, 5, 6], [5]) .leaf .leaf) (.node 219 (.node 3 ([3, 6, 7, 8], [2, 3]) .leaf .leaf) .leaf .leaf) (.node 231 (.node 4 ([3, 4, 9, 10, 11], [2, 3]) .leaf .leaf) .leaf .leaf)) (.node 236 (.node 2 ([0, 1, 4, 6], [4, 5]) .leaf .leaf) (.node 235 (.node 2 ([0, 1, 5], [4]) .leaf .leaf) .leaf .leaf) (.node 238 (.node 7 ([3], [0, 3]) (.node 1 ([0, 3], []) .leaf .leaf) .leaf) .leaf .leaf)))) (.node 288 (.node 6 ([1, 7, 8], [1]) .leaf .leaf) (.node 259 (.node 11 ([3, 7, 29], [7]) (.node 6 ([3], [3]) .leaf .leaf) .leaf) (.node 255 (.node 2 ([0, 1, 5], [4]) .leaf .leaf) (.node 246 (.node 2 ([1, 4], [1, 4]) .leaf .leaf) .leaf .leaf) (.node 257 (.node 0 ([0, 1, 2], [1, 2]) .leaf .leaf) .leaf .leaf)) (.node 273 (.node 1 ([0, 1, 3], []) .leaf .leaf) (.node 260 (.node 5 ([4], [4, 5]) .leaf .leaf) .leaf .leaf) (.node 274 (.node 1 ([0, 3], []) .leaf .leaf) .leaf .leaf))) (.node 311 (.node 0 ([0, 1], []) .leaf .leaf) (.node 300 (.node 3 ([0, 3, 4], [3]) .leaf .leaf) (.node 299 (.node 14 ([2, 3, 4, 12], [2, 6, 7]) .leaf .leaf) .leaf .leaf) (.node 309 (.node 2 ([0, 1, 5], [0, 1, 5]) .leaf .leaf) .leaf .leaf)) (.node 314 (.node 3 ([0, 3, 5], [3]) .leaf .leaf) (.node 313 (.node 17 ([0, 4, 5, 70, 71], [6]) .leaf .leaf) .leaf .leaf) (.node 315 (.node 2 ([0, 1, 5, 7], [0, 1, 5, 7]) .leaf .leaf) .leaf .leaf)))))
def qwu : BT (BT (List Tmp)) := .node 315 (.node 6 ([0, 7, 8]) (.node 4 ([0, 1, 5, 7]) .leaf .leaf) .leaf) (.node 309 (.node 6 ([0, 1, 5]) (.node 4 ([0, 1, 5]) .leaf .leaf) .leaf) .leaf .leaf) .leaf
def qvm : BT (BT (List (Tmp × Nat))) := .node 157 (.node 3 ([(5, 4)]) .leaf .leaf) (.node 76 (.node 3 ([(3, 4)]) .leaf .leaf) (.node 74 (.node 3 ([(3, 1)]) .leaf .leaf) (.node 68 (.node 4 ([(4, 1)]) .leaf .leaf) (.node 23 (.node 3 ([(3, 4)]) (.node 0 ([(2, 4)]) .leaf .leaf) .leaf) .leaf .leaf) .leaf) (.node 75 (.node 9 ([(8, 4)]) .leaf .leaf) .leaf .leaf)) (.node 136 (.node 9 ([(5, 8)]) (.node 2 ([(5, 8)]) .leaf .leaf) .leaf) (.node 103 (.node 7 ([(2, 6), (4, 6)]) (.node 0 ([(2, 6)]) .leaf .leaf) .leaf) (.node 99 (.node 6 ([(6, 6)]) (.node 0 ([(2, 6)]) .leaf .leaf) .leaf) .leaf .leaf) .leaf) (.node 156 (.node 3 ([(3, 4)]) .leaf .leaf) .leaf .leaf))) (.node 260 (.node 5 ([(4, 4)]) .leaf .leaf) (.node 238 (.node 7 ([(3, 4)]) (.node 1 ([(3, 4)]) .leaf .leaf) .leaf) (.node 180 (.node 2 ([(4, 4)]) .leaf .leaf) (.node 166 (.node 3 ([(6, 4)]) .leaf .leaf) .leaf .leaf) .leaf) (.node 259 (.node 11 ([(7, 1)]) .leaf .leaf) .leaf .leaf)) (.node 300 (.node 3 ([(3, 5)]) .leaf .leaf) (.node 274 (.node 1 ([(3, 4)]) .leaf .leaf) .leaf .leaf) (.node 314 (.node 3 ([(3, 5)]) .leaf .leaf) .leaf .leaf)))
def x9 (f : Nat) : List (Nat × (List AV → AH → Option (AV × AH))) → Option (List AV → AH → Option (AV × AH))
 | [] => none
 | p :: l => if qyW p.1 f then some p.2 else x9 f l
noncomputable def qph : List (Nat × (List AV → AH → Option (AV × AH))) := []
noncomputable def qbP : List (Nat × (List AV → AH → Option (AV × AH))) := (308, qc1) :: qph
theorem qdO : qph = [] := rfl
def qtr : BT Unit := .node 174 (()) (.node 96 (()) (.node 70 (()) (.node 28 (()) (.node 19 (()) (.node 17 (()) (.node 15 (()) (.node 5 (()) .leaf .leaf) .leaf) (.node 18 (()) .leaf .leaf)) (.node 26 (()) (.node 23 (()) (.node 20 (()) .leaf .leaf) .leaf) (.node 27 (()) .leaf .leaf))) (.node 36 (()) (.node 31 (()) (.node 30 (()) (.node 29 (()) .leaf .leaf) .leaf) (.node 32 (()) .leaf .leaf)) (.node 68 (()) (.node 41 (()) (.node 37 (()) .leaf .leaf) .leaf) (.node 69 (()) .leaf .leaf)))) (.node 86 (()) (.node 75 (()) (.node 73 (()) (.node 72 (()) (.node 71 (()) .leaf .leaf) .leaf) (.node 74 (()) .leaf .leaf)) (.node 84 (()) (.node 81 (()) (.node 76 (()) .leaf .leaf) .leaf) (.node 85 (()) .leaf .leaf))) (.node 91 (()) (.node 89 (()) (.node 88 (()) (.node 87 (()) .leaf .leaf) .leaf) (.node 90 (()) .leaf .leaf)) (.node 94 (()) (.node 93 (()) (.node 92 (()) .leaf .leaf) .leaf) (.node 95 (()) .leaf .leaf))))) (.node 154 (()) (.node 124 (()) (.node 101 (()) (.node 99 (()) (.node 98 (()) (.node 97 (()) .leaf .leaf) .leaf) (.node 100 (()) .leaf .leaf)) (.node 106 (()) (.node 103 (()) (.node 102 (()) .leaf .leaf) .leaf) (.node 122 (()) .leaf .leaf))) (.node 149 (()) (.node 143 (()) (.node 136 (()) (.node 134 (()) .leaf .leaf) .leaf) (.node 146 (()) .leaf .leaf)) (.node 152 (()) (.node 151 (()) (.node 150 (()) .leaf .leaf) .leaf) (.node 153 (()) .leaf .leaf)))) (.node 164 (()) (.node 159 (()) (.node 157 (()) (.node 156 (()) (.node 155 (()) .leaf .leaf) .leaf) (.node 158 (()) .leaf .leaf)) (.node 162 (()) (.node 161 (()) (.node 160 (()) .leaf .leaf) .leaf) (.node 163 (()) .leaf .leaf))) (.node 169 (()) (.node 167 (()) (.node 166 (()) (.node 165 (()) .leaf .leaf) .leaf) (.node 168 (()) .leaf .leaf)) (.node 172 (()) (.node 171 (()) (.node 170 (()) .leaf .leaf) .leaf) (.node 173 (()) .leaf .leaf)))))) (.node 245 (()) (.node 220 (()) (.node 184 (()) (.node 179 (()) (.node 177 (()) (.node 176 (()) (.node 175 (()) .leaf .leaf) .leaf) (.node 178 (()) .leaf .leaf)) (.node 182 (()) (.node 181 (()) (.node 180 (()) .leaf .leaf) .leaf) (.node 183 (()) .leaf .leaf))) (.node 208 (()) (.node 187 (()) (.node 186 (()) (.node 185 (()) .leaf .leaf) .leaf) (.node 207 (()) .leaf .leaf)) (.node 218 (()) (.node 210 (()) (.node 209 (()) .leaf .leaf) .leaf) (.node 219 (()) .leaf .leaf)))) (.node 235 (()) (.node 230 (()) (.node 228 (()) (.node 227 (()) (.node 226 (()) .leaf .leaf) .leaf) (.node 229 (()) .leaf .leaf)) (.node 233 (()) (.node 232 (()) (.node 231 (()) .leaf .leaf) .leaf) (.node 234 (()) .leaf .leaf))) (.node 240 (()) (.node 238 (()) (.node 237 (()) (.node 236 (()) .leaf .leaf) .leaf) (.node 239 (()) .leaf .leaf)) (.node 243 (()) (.node 242 (()) (.node 241 (()) .leaf .leaf) .leaf) (.node 244 (()) .leaf .leaf))))) (.node 288 (()) (.node 255 (()) (.node 250 (()) (.node 248 (()) (.node 247 (()) (.node 246 (()) .leaf .leaf) .leaf) (.node 249 (()) .leaf .leaf)) (.node 253 (()) (.node 252 (()) (.node 251 (()) .leaf .leaf) .leaf) (.node 254 (()) .leaf .leaf))) (.node 260 (()) (.node 258 (()) (.node 257 (()) (.node 256 (()) .leaf .leaf) .leaf) (.node 259 (()) .leaf .leaf)) (.node 274 (()) (.node 273 (()) (.node 271 (()) .leaf .leaf) .leaf) (.node 287 (()) .leaf .leaf)))) (.node 299 (()) (.node 294 (()) (.node 292 (()) (.node 291 (()) (.node 290 (()) .leaf .leaf) .leaf) (.node 293 (()) .leaf .leaf)) (.node 297 (()) (.node 296 (()) (.node 295 (()) .leaf .leaf) .leaf) (.node 298 (()) .leaf .leaf))) (.node 312 (()) (.node 310 (()) (.node 309 (()) (.node 300 (()) .leaf .leaf) .leaf) (.node 311 (()) .leaf .leaf)) (.node 314 (()) (.node 313 (()) .leaf .leaf) (.node 315 (()) .leaf .leaf))))))
def qwt : BT Unit := .node 56 (()) (.node 25 (()) (.node 24 (()) (.node 22 (()) .leaf .leaf) .leaf) (.node 49 (()) (.node 27 (()) .leaf .leaf) .leaf)) (.node 82 (()) (.node 77 (()) (.node 75 (()) .leaf .leaf) .leaf) (.node 97 (()) (.node 91 (()) .leaf .leaf) .leaf))
def qwy : BT Unit := .node 77 (()) (.node 27 (()) .leaf .leaf) .leaf
def qws : BT Unit := .leaf
def qwf : BT (List Nat) := .node 117 ([49, 4]) (.node 68 ([57, 31]) (.node 46 ([3, 31]) (.node 44 ([24, 4, 31]) (.node 32 ([24, 31]) .leaf .leaf) .leaf) (.node 62 ([24, 4, 3, 31]) (.node 50 ([49, 31]) .leaf .leaf) .leaf)) (.node 92 ([66, 4]) (.node 85 ([24, 4]) (.node 78 ([77, 31]) .leaf .leaf) .leaf) (.node 114 ([3, 24, 31]) .leaf .leaf))) (.node 186 ([57, 66]) (.node 178 ([56, 4]) (.node 164 ([22, 4]) (.node 159 ([3, 4]) .leaf .leaf) .leaf) (.node 180 ([25, 4]) .leaf .leaf)) (.node 266 ([213, 213]) (.node 240 ([3, 239]) (.node 219 ([4, 4]) .leaf .leaf) .leaf) (.node 271 ([3, 3]) .leaf .leaf)))
noncomputable def qiY : List (Nat × Func) := [(169, Tryz.f169), (186, Tryz.f186), (207, Tryz.f207), (209, Tryz.f209), (231, Tryz.f231), (238, Tryz.f238), (257, Tryz.f257), (273, Tryz.f273), (274, Tryz.f274), (293, Tryz.f293), (311, Tryz.f311)]
noncomputable def cfg : Cfg := { P := Tryz.prog, ty := fun t => qh1.look t, mode := fun f => match qvi.look f with | some m => m | none => .imp, frz := fun f r k => qvq f r k, mask := fun f r => qlq f r qvj, cut := fun f r => qlq f r qwu, tup := fun t => qwf.look t, ext := fun f => x9 f qbP, known := fun f => (qtr.look f).isSome, dat := fun t => (qwt.look t).isSome, inl := fun f => qau f qiY, lift := fun f r => match qlq f r qvm with | some l => l | none => [], ems := fun t => (qws.look t).isSome, ali := fun t => (qwy.look t).isSome }
instance inl_ok : InlOk cfg := InlOk.of qiY (fun _ => rfl) ⟨⟨rfl, rfl, Tryz.func169, rfl⟩, ⟨⟨rfl, rfl, Tryz.func186, rfl⟩, ⟨⟨rfl, rfl, Tryz.func207, rfl⟩, ⟨⟨rfl, rfl, Tryz.func209, rfl⟩, ⟨⟨rfl, rfl, Tryz.func231, rfl⟩, ⟨⟨rfl, rfl, Tryz.func238, rfl⟩, ⟨⟨rfl, rfl, Tryz.func257, rfl⟩, ⟨⟨rfl, rfl, Tryz.func273, rfl⟩, ⟨⟨rfl, rfl, Tryz.func274, rfl⟩, ⟨⟨rfl, rfl, Tryz.func293, rfl⟩, ⟨⟨rfl, rfl, Tryz.func311, rfl⟩, trivial⟩⟩⟩⟩⟩⟩⟩⟩⟩⟩⟩
end Go.Proofs.YtkgkjngbfdnoiaaGreat
end
section
namespace Go.Av
def cmpS (a b : List UInt8) : Int := if a == b then 0 else if Op.bytesLess a b then -1 else 1
theorem qcd : ∀ a b : List UInt8, Lib.compareBytes a b = cmpS a b
 | [], [] => rfl
 | [], _ :: _ => by simp [Lib.compareBytes, cmpS, Op.bytesLess]
 | _ :: _, [] => by simp [Lib.compareBytes, cmpS, Op.bytesLess]
 | a :: l, b :: m => by
  rw [Lib.compareBytes, qcd l m]
  unfold cmpS
  by_cases h : a = b
  ·subst h
   have : ¬ a < a := by simp
   by_cases h2 : l = m
   ·subst h2; simp
   ·simp [Op.bytesLess, h2]
  ·have h' : (a :: l == b :: m) = false := by simp [h]
   rw [h']
   simp only [qza, if_false, Op.bytesLess]
   by_cases hlt : a < b
   ·simp [hlt]
   ·have : b < a := by
     have h1 : ¬ a.toNat < b.toNat := hlt
     have h2 : a.toNat ≠ b.toNat := fun e => h (UInt8.toNat.inj e)
     show b.toNat < a.toNat
     omega
    simp [hlt, this, h]
theorem qmY [Lent] {P : Program} {f : FuncId} {fn : Func} (hf : P.funcs[f]? = some fn) (hn : (fn.name == "runtime.NumGoroutine") = false) (hb : fn.body.isNone = true) (hx : Extern.findNext fn = none)
  (he : Extern.find fn = some Extern.BytealgCompare.compare) {args : List AV} {H H' : AH} {r : AV} (hr : qc1 args H = some (r, H')) {C : qu} {μ : MMap} {w : World} {vs : Array Value} (ha : qF C μ args vs) (hw : Wld C μ H w) :
  vD P (callFunc f vs) w (xn C μ H w r H') := by
 unfold qc1 at hr
 split at hr
 ·rename_i H0 a b
  cases hr
  obtain ⟨hl, hv⟩ := ha
  obtain ⟨x, y, rfl⟩ : ∃ x y, vs = #[x, y] := by
   obtain ⟨l⟩ := vs
   match l, hl with
   | [x, y], _ => exact ⟨x, y, rfl⟩
  have h0 := hv 0 _ _ rfl rfl
  have h1 := hv 1 _ _ rfl rfl
  cases h0
  cases h1
  have hrun : (callFunc f #[.string ⟨a.toArray⟩, .string ⟨b.toArray⟩]).run P w = .ok (.value (.int .i64 (cmpS a b))) w := by
   unfold callFunc
   simp only [Sem.run_bind, run_program, Result.andThen_ok, hf, hn, hb, qza, if_false, if_true, run_mark, hx, he, Lib.run_compareString, Sem.run_pure]
   rw [qcd]
  unfold vD
  rw [hrun]
  exact ⟨C, μ, .int _ _, hw, Ext.refl (qyN _)⟩
 ·cases hr
end Go.Av
namespace Go.Proofs.YtkgkjngbfdnoiaaGreat
open Go.Av
theorem qh0 : qh1.All fun t ti => tiOf Tryz.prog t = some ti := by
 unfold qh1
 repeat (first | exact trivial | refine BT.all_node (by show tiOf Tryz.prog _ = _; kernel_rfl) ?_ ?_)
theorem qti : Tryz.prog.funcs.toList.all (fun fn => !(fn.name == "runtime.NumGoroutine")) = true := by kernel_rfl
theorem qdv : Tryz.prog.follows .mixedOrders = true := by kernel_rfl
end Go.Proofs.YtkgkjngbfdnoiaaGreat
end
section
namespace Go.Av
abbrev Rz := List (List AV)
abbrev Bz := List UInt8
inductive Tm where
 | mk (k n : Int) (s : List UInt8) (l : List Tm)
 deriving Inhabited
namespace Tm
def kind : Tm → Int | mk k _ _ _ => k
def num : Tm → Int | mk _ n _ _ => n
def str : Tm → List UInt8 | mk _ _ s _ => s
def subs : Tm → List Tm | mk _ _ _ l => l
end Tm
mutual
def Tm.cells : Tm → List AV
 | .mk k n s l => [.int .i64 k, .int .i64 n, .str s, .sl (qb l)]
def qb : List Tm → List (List AV)
 | [] => []
 | t :: l => t.cells :: qb l
end
def Tm.av (t : Tm) : AV := .agg t.cells
theorem Tm.cells_mk (k n : Int) (s : List UInt8) (l : List Tm) : (Tm.mk k n s l).cells = [.int .i64 k, .int .i64 n, .str s, .sl (qb l)] := by rw [Tm.cells]
theorem Tm.av_mk (k n : Int) (s : List UInt8) (l : List Tm) : (Tm.mk k n s l).av = .agg [.int .i64 k, .int .i64 n, .str s, .sl (qb l)] := by rw [Tm.av, Tm.cells_mk]
theorem zb : ∀ l : List Tm, qb l = l.map Tm.cells
 | [] => by rw [qb]; rfl
 | t :: l => by rw [qb, zb l]; rfl
@[simp] theorem qd (l : List Tm) : (qb l).length = l.length := by rw [zb]; simp
@[simp] theorem qI : qb [] = [] := by rw [qb]
theorem qy (t : Tm) (l : List Tm) : qb (t :: l) = t.cells :: qb l := by rw [qb]
theorem q8 (a b : List Tm) : qb (a ++ b) = qb a ++ qb b := by simp [zb]
theorem qpT (n : Nat) (a : List Tm) : (qb a).take n = qb (a.take n) := by simp [zb, List.map_take]
theorem qpU (n : Nat) (a : List Tm) : (qb a).drop n = qb (a.drop n) := by simp [zb, List.map_drop]
theorem xx (l : List Tm) (i : Nat) : (qb l)[i]? = (l[i]?).map Tm.cells := by rw [zb]; simp
theorem qdr {l : List Tm} {i : Nat} {k n : Int} {s : List UInt8} {l' : List Tm} (h : l[i]? = some (.mk k n s l')) : (qb l)[i]? = some [.int .i64 k, .int .i64 n, .str s, .sl (qb l')] := by rw [xx, h, ← Tm.cells_mk]; rfl
theorem qrx (l : List Tm) (i : Nat) (t : Tm) : (qb l).set i t.cells = qb (l.set i t) := by simp [zb, List.map_set]
theorem qjf (t : Tm) : qz 0 t.cells = true := by
 obtain ⟨k, n, s, l⟩ := t
 rw [Tm.cells_mk]; rfl
theorem qia (l : List Tm) : qL 0 (qb l) = true := by
 induction l with
 | nil => rw [qb]; rfl
 | cons t l ih => rw [qb, qL, ih, qjf]; rfl
mutual
/-- no list is longer than is counted here, no text -/
def Tm.Ok : Tm → Prop
 | .mk _ _ s l => s.length < 1099511627776 ∧ l.length < 1099511627776 ∧ OkL l
def OkL : List Tm → Prop
 | [] => True
 | t :: l => t.Ok ∧ OkL l
end
theorem qfX {l : List Tm} : OkL l ↔ ∀ t ∈ l, t.Ok := by
 induction l with
 | nil => simp [OkL]
 | cons t l ih => simp [OkL, ih]
theorem Tm.Ok.str {k n : Int} {s : List UInt8} {l : List Tm} (h : (Tm.mk k n s l).Ok) : s.length < 1099511627776 := by rw [Tm.Ok] at h; exact h.1
theorem Tm.Ok.len {k n : Int} {s : List UInt8} {l : List Tm} (h : (Tm.mk k n s l).Ok) : l.length < 1099511627776 := by rw [Tm.Ok] at h; exact h.2.1
theorem Tm.Ok.sub {k n : Int} {s : List UInt8} {l : List Tm} (h : (Tm.mk k n s l).Ok) {t : Tm} (ht : t ∈ l) : t.Ok := by rw [Tm.Ok] at h; exact qfX.1 h.2.2 t ht
theorem OkL.get {l : List Tm} (h : OkL l) {t : Tm} (ht : t ∈ l) : t.Ok := qfX.1 h t ht
theorem Tm.ind {P : Tm → Prop} (h : ∀ k n s l, (∀ t ∈ l, P t) → P (.mk k n s l)) : ∀ t, P t
 | .mk k n s l => h k n s l (fun t _ => Tm.ind h t)
theorem qM {x : Int} (h1 : -9223372036854775808 ≤ x) (h2 : x < 9223372036854775808) : IntKind.wrap .i64 x = x := by
 simp [IntKind.wrap, IntKind.bits, IntKind.signed]; omega
theorem qJ {i n : Nat} (h : i < n) (hn : n < 1099511627776) : IntKind.wrap .i64 ((i : Int) + 1) = ((i + 1 : Nat) : Int) := by
 rw [qM (by omega) (by omega)]; rfl
theorem qw (i : Nat) : qh 0 (i : Int) = true := by simp [qh]
theorem qD (i n : Nat) : qg (i : Int) (n : Int) = decide (i < n) := by simp [qg]
def kTmC {α : Type} (l : List AV) (k : Int → Int → List UInt8 → List (List AV) → Option α) : Option α :=
 qa l fun c cs => kInt .i64 c fun n => qa cs fun c cs => kInt .i64 c fun m => qa cs fun c cs => kStr c fun s => qa cs fun c cs => kSl c fun A => kNil cs (k n m s A)
def kTmV {α : Type} (v : AV) (k : Int → Int → List UInt8 → List (List AV) → Option α) : Option α := kAgg v fun cs => kTmC cs k
theorem q9 {α : Type} {l : List Tm} {i : Nat} {t : Tm} (h : l[i]? = some t) (k : List AV → Option α) : kOpt (qyG (qb l) (qyY (i : Int))) k = k t.cells := by
 rw [ql, qy3, xx, h]; rfl
mutual
def Tm.w : Tm → Nat
 | .mk _ _ s l => 1 + s.length + wL l
def wL : List Tm → Nat
 | [] => 0
 | t :: l => t.w + wL l
end
theorem Tm.w_mk (k n : Int) (s : List UInt8) (l : List Tm) : (Tm.mk k n s l).w = 1 + s.length + wL l := by rw [Tm.w]
theorem Tm.w_eq (t : Tm) : t.w = 1 + t.str.length + wL t.subs := by cases t; rw [Tm.w_mk]; rfl
@[simp] theorem vQ : wL [] = 0 := by rw [wL]
@[simp] theorem qV (t : Tm) (l : List Tm) : wL (t :: l) = t.w + wL l := by rw [wL]
@[simp] theorem x5 (a b : List Tm) : wL (a ++ b) = wL a + wL b := by
 induction a with
 | nil => simp
 | cons t l ih => simp [ih]; omega
theorem vH (t : Tm) : 1 ≤ t.w := by rw [Tm.w_eq]; omega
theorem vY {t : Tm} {l : List Tm} (h : t ∈ l) : t.w ≤ wL l := by
 induction l with
 | nil => cases h
 | cons x l ih =>
  rw [qV]
  rcases qzm.1 h with rfl | h
  ·omega
  ·have := ih h; omega
theorem xB (l : List Tm) : l.length ≤ wL l := by
 induction l with
 | nil => simp
 | cons x l ih => have := vH x; simp; omega
theorem zQ (t : Tm) : t.w < 1099511627776 → t.Ok := by
 induction t using Tm.ind with
 | _ k n s l ih =>
  intro h
  rw [Tm.w_mk] at h
  rw [Tm.Ok]
  have := xB l
  exact ⟨by omega, by omega, qfX.2 fun t ht => ih t ht (by have := vY ht; omega)⟩
theorem qtg {l : List Tm} (h : wL l < 1099511627776) : OkL l := qfX.2 fun t ht => zQ t (by have := vY ht; omega)
theorem qrm (l : List Tm) : wL l.reverse = wL l := by
 induction l with
 | nil => rfl
 | cons x l ih => simp [ih]; omega
end Go.Av
end
section
namespace Go.Proofs.YtkgkjngbfdnoiaaGreat
open Go.Av
def C0 (W : World) : qu := fun b o => W.cell? ⟨b, o, none⟩
def M0 : MMap := fun _ => none
theorem wld0 (W : World) : Wld (C0 W) M0 [] W where
 cl := fun _ _ _ h => h
 dom := fun id m h => by cases h
 res := fun id h => by simp at h
 live := fun id b h => by simp at h
 froz := fun id d sz rs h => by simp at h
 inj := fun i i' b b' m m' h => by simp at h
 free := y9.nil
 lnt := ⟨fun _ _ _ h => (by cases h), fun h => h.elim⟩
structure TermTys (P : Program) (tT tL tI tS : TypeId) : Prop where
 uT : ∃ f0 f1 f2 f3 : Field, P.underlying tT = some (.struct #[f0, f1, f2, f3]) ∧ f0.type = tI ∧ f0.offset = 0 ∧ f1.type = tI ∧ f1.offset = 1 ∧ f2.type = tS ∧ f2.offset = 2 ∧ f3.type = tL ∧ f3.offset = 3
 uL : P.underlying tL = some (.slice tT)
 uI : P.underlying tI = some (.int .i64)
 uS : P.underlying tS = some .string
 cT : P.cellsOf tT = 4
 cL : P.cellsOf tL = 1
 cI : P.cellsOf tI = 1
 cS : P.cellsOf tS = 1
section
variable {H : Type} {enc : TypeId × Value → H} {P : Program} {W : World} {tT tL tI tS : TypeId}
def qhq (W : World) (cs : List Value) (t : Tm) : Prop := cs.length = 4 ∧ ∀ (j : Nat) a v, t.cells[j]? = some a → cs[j]? = some v → a.isCell = true ∧ Rep (C0 W) M0 a v
theorem qcB {base : Nat} {a : Addr} {n : Nat} {cs : List Value} (h : W.cells? base a n = some cs) (hn : 0 < n) : a.spot = none ∧ cs.length = n ∧ ∀ (j : Nat) v, cs[j]? = some v → W.cell? ⟨a.block, a.off + j, none⟩ = some v := by
 unfold World.cells? at h
 split at h
 ·have hl : cs.length = n := by simpa using mapM_some_length h
  have hg : ∀ (j : Nat), j < n → W.cell? (a.add j) = cs[j]? := fun j hj => mapM_some_get h j j (by simp [hj])
  have hsp : a.spot = none := by
   have h0 := hg 0 hn
   rw [qyI (by omega)] at h0
   cases hs : a.spot with
   | none => rfl
   | some s =>
    simp only [World.cell?, Addr.add, if_pos, hs] at h0
    split at h0
    ·simp at h0
    ·cases h0
  refine ⟨hsp, hl, fun j v hv => ?_⟩
  have hj : j < n := by rw [← hl]; exact (qyL.1 hv).1
  have := hg j hj
  rw [hv] at this
  rw [yH _ _ hsp] at this
  exact this
 ·cases h
theorem qsv {H : Type} {d : DataW H} {l : List (DataW H)} (h : d ∈ l) : Rows.uptoBulk d ≤ Rows.uptoBulkAll l := by
 induction l with
 | nil => cases h
 | cons x r ih =>
  simp only [Rows.uptoBulkAll]
  cases qzm.1 h with
  | inl e => subst e; omega
  | inr e => have := ih e; omega
theorem qjg {H : Type} : ∀ (l : List Tm) (ds : List (DataW H)), l.length = ds.length → (∀ (i : Nat) t d, l[i]? = some t → ds[i]? = some d → t.w ≤ Rows.uptoBulk d) → wL l ≤ Rows.uptoBulkAll ds
 | [], [], _, _ => by simp [Rows.uptoBulkAll]
 | t :: l, d :: ds, hl, h => by
  have h0 := h 0 t d rfl rfl
  have := qjg l ds (by simpa using hl) (fun i t d ht hd => h (i + 1) t d (by simpa using ht) (by simpa using hd))
  simp only [qV, Rows.uptoBulkAll]
  omega
theorem qrU (T : TermTys P tT tL tI tS) : ∀ (n : Nat),
  (∀ cs x, DataW.trod enc P W 0 (fun _ => true) true n tT cs = some x → ∃ t : Tm, qhq W cs t ∧ t.w ≤ Rows.uptoBulk x.1 ∧
   ∀ (W' : World) (sp : Nat → Bool), (∀ p ∈ x.2, W.sameAt W' p) → (∀ p ∈ x.2, sp p.block = true) → DataW.trod enc P W' 0 sp true n tT cs = some x) ∧
  (∀ cs x, DataW.trod enc P W 0 (fun _ => true) true n tL cs = some x → ∃ (l : List Tm) (v : Value), cs = [v] ∧ Rep (C0 W) M0 (.sl (qb l)) v ∧ wL l ≤ Rows.uptoBulk x.1 ∧
   ∀ (W' : World) (sp : Nat → Bool), (∀ p ∈ x.2, W.sameAt W' p) → (∀ p ∈ x.2, sp p.block = true) → DataW.trod enc P W' 0 sp true n tL cs = some x) := by
 intro n
 induction n with
 | zero => exact ⟨fun cs x h => by simp [DataW.trod] at h, fun cs x h => by simp [DataW.trod] at h⟩
 | succ n ih =>
  obtain ⟨ihT, ihL⟩ := ih
  refine ⟨fun cs x h => ?_, fun cs x h => ?_⟩
  ·obtain ⟨f0, f1, f2, f3, hu, t0, o0, t1, o1, t2, o2, t3, o3⟩ := T.uT
   obtain ⟨xs, n', e, rfl, hl, hxl, hx⟩ := DataW.trod_struct hu h
   obtain rfl : n' = n := by omega
   rw [T.cT] at hl
   obtain ⟨c0, c1, c2, c3, rfl⟩ : ∃ c0 c1 c2 c3, cs = [c0, c1, c2, c3] := by
    match cs, hl with
    | [a, b, c, d], _ => exact ⟨a, b, c, d, rfl⟩
   obtain ⟨x0, x1, x2, x3, rfl⟩ : ∃ c0 c1 c2 c3, xs = [c0, c1, c2, c3] := by
    match xs, hxl with
    | [a, b, c, d], _ => exact ⟨a, b, c, d, rfl⟩
   have h0 := hx 0 f0 rfl
   have h1 := hx 1 f1 rfl
   have h2 := hx 2 f2 rfl
   have h3 := hx 3 f3 rfl
   rw [t0, o0, T.cI] at h0
   rw [t1, o1, T.cI] at h1
   rw [t2, o2, T.cS] at h2
   rw [t3, o3, T.cL] at h3
   simp at h0 h1 h2 h3
   obtain ⟨k, e0, rfl, w0⟩ := DataW.trod_int T.uI h0
   obtain ⟨m, e1, rfl, w1⟩ := DataW.trod_int T.uI h1
   obtain ⟨s, e2, rfl, w2⟩ := DataW.trod_string T.uS h2
   obtain ⟨l, v, e3, hr, hb, hback⟩ := ihL _ _ h3
   simp at e0 e1 e2 e3
   subst e0 e1 e2 e3
   refine ⟨.mk k m s.data.toList l, ⟨rfl, fun j a u ha hu => ?_⟩, ?_, fun W' sp hs hp => ?_⟩
   ·rw [Tm.cells_mk] at ha
    match j, ha, hu with
    | 0, ha, hu => simp at ha hu; subst ha hu; exact ⟨rfl, .int _ _⟩
    | 1, ha, hu => simp at ha hu; subst ha hu; exact ⟨rfl, .int _ _⟩
    | 2, ha, hu =>
     simp at ha hu; subst ha hu
     refine ⟨rfl, ?_⟩
     have := Rep.str (C := C0 W) (μ := M0) s.data.toList
     simpa using this
    | 3, ha, hu => simp at ha hu; subst ha hu; exact ⟨rfl, hr⟩
    | (j + 4), ha, hu => simp at ha
   ·simp only [List.map_cons, List.map_nil, Rows.uptoBulk, Rows.uptoBulkAll]
    rw [Tm.w_mk]
    omega
   ·have hs3 : ∀ p ∈ x3.2, W.sameAt W' p := fun p hp => hs p (by simp [hp])
    have hp3 : ∀ p ∈ x3.2, sp p.block = true := fun p hpp => hp p (by simp [hpp])
    have b3 := hback W' sp hs3 hp3
    have b0 : DataW.trod enc P W' 0 sp true n' tI [Value.int .i64 k] = some (.lit (.int .i64 k), []) := by
     cases n' with
     | zero => simp [DataW.trod] at h0
     | succ q => simp [DataW.trod, T.uI, w0]
    have b1 : DataW.trod enc P W' 0 sp true n' tI [Value.int .i64 m] = some (.lit (.int .i64 m), []) := by
     cases n' with
     | zero => simp [DataW.trod] at h0
     | succ q => simp [DataW.trod, T.uI, w1]
    have b2 : DataW.trod enc P W' 0 sp true n' tS [Value.string s] = some (.lit (.string s.data.toList), []) := by
     cases n' with
     | zero => simp [DataW.trod] at h0
     | succ q => simp [DataW.trod, T.uS, w2]
    unfold DataW.trod
    rw [hu]
    simp [T.cT, t0, o0, t1, o1, t2, o2, t3, o3, T.cI, T.cS, T.cL, b0, b1, b2, b3]
  ·rcases DataW.trod_slice T.uL h with ⟨rfl, rfl⟩ | ⟨a, len, cap, elems, rest, n', e, rfl, rfl, hb, hlc, hmx, hel, hg, hsp, _⟩
   ·refine ⟨[], _, rfl, by rw [qI]; exact .slNil, by simp, fun W' sp _ _ => ?_⟩
    simp [DataW.trod, T.uL]
   ·obtain rfl : n' = n := by omega
    obtain ⟨hrl, hrg⟩ := hsp rfl
    have one : ∀ (i : Nat) (y : DataW H × List MemPlace), (W.cells? 0 (a.add (i * P.cellsOf tT)) (P.cellsOf tT)).bind (DataW.trod enc P W 0 (fun _ => true) true n' tT) = some y →
      ∃ cs', W.cells? 0 (a.add (i * 4)) 4 = some cs' ∧ DataW.trod enc P W 0 (fun _ => true) true n' tT cs' = some y := by
     intro i y hy
     rw [T.cT] at hy
     exact qyJ.1 hy
    -- the terms
    have tms : ∃ f : Nat → Tm, ∀ (i : Nat) y, elems[i]? = some y → ∃ cs', W.cells? 0 (a.add (i * 4)) 4 = some cs' ∧ qhq W cs' (f i) ∧ (f i).w ≤ Rows.uptoBulk y.1 := by
     have : ∀ i : Nat, ∃ t : Tm, ∀ y, elems[i]? = some y → ∃ cs', W.cells? 0 (a.add (i * 4)) 4 = some cs' ∧ qhq W cs' t ∧ t.w ≤ Rows.uptoBulk y.1 := by
      intro i
      cases hy : elems[i]? with
      | none => exact ⟨default, fun y h => by cases h⟩
      | some y =>
       have hi : i < len := by rw [← hel]; exact (qyL.1 hy).1
       obtain ⟨cs', h1, h2⟩ := one i y ((hg i hi).trans hy)
       obtain ⟨t, h3, h4, _⟩ := ihT _ _ h2
       exact ⟨t, fun y' hy' => by cases hy'; exact ⟨cs', h1, h3, h4⟩⟩
     exact ⟨fun i => Classical.choose (this i), fun i => Classical.choose_spec (this i)⟩
    obtain ⟨f, hf⟩ := tms
    have hget : ∀ (i : Nat) (row : List AV), (qb ((qzn len).map f))[i]? = some row → i < len ∧ row = (f i).cells := by
     intro i row hi
     have hil : i < len := by have := (qyL.1 hi).1; simpa using this
     refine ⟨hil, ?_⟩
     rw [xx, List.getElem?_map, List.getElem?_range hil] at hi
     simpa using hi.symm
    have hcell : ∀ (i j : Nat) (row : List AV) x, (qb ((qzn len).map f))[i]? = some row → row[j]? = some x → a.spot = none ∧ x.isCell = true ∧ ∃ v, W.cell? ⟨a.block, a.off + i * 4 + j, none⟩ = some v ∧ Rep (C0 W) M0 x v := by
     intro i j row x hi hj
     obtain ⟨hil, rfl⟩ := hget i row hi
     obtain ⟨cs', h1, h2, _⟩ := hf i _ (qyI (by omega))
     obtain ⟨s1, s2, s3⟩ := qcB h1 (by omega)
     have hspot : a.spot = none := by
      obtain ⟨cs0, q1, _⟩ := hf 0 _ (qyI (by omega))
      have := (qcB q1 (by omega)).1
      simpa [Addr.add] using this
     have hjl : j < cs'.length := by
      rw [h2.1]
      have := (qyL.1 hj).1
      cases hfi : f i with
      | mk k n s l => rw [hfi, Tm.cells_mk] at this; simpa using this
     have h4 := h2.2 j x _ hj (qyI hjl)
     refine ⟨hspot, h4.1, _, ?_, h4.2⟩
     have := s3 j _ (qyI hjl)
     rw [yH _ _ hspot] at this
     exact this
    refine ⟨(qzn len).map f, _, rfl, ?_, ?_, fun W' sp hs hp => ?_⟩
    ·have := Rep.sl (C := C0 W) (μ := M0) (qb ((qzn len).map f)) a cap 4 (fun i j => (W.cell? ⟨a.block, a.off + i * 4 + j, none⟩).getD undef) (fun hne => ?_) (fun i row hi => ?_) (fun i j row x hi hj => ?_) (fun i j row x hi hj => ?_) (fun i j row x hi hj => ?_) (by simpa using hlc) (qia _)
     ·simpa using this
     ·have hl0 : 0 < len := by
       rcases Nat.eq_zero_or_pos len with h0 | h0
       ·subst h0; exact absurd (by simp) hne
       ·exact h0
      obtain ⟨cs0, q1, _⟩ := hf 0 _ (qyI (by omega))
      have := (qcB q1 (by omega)).1
      simpa [Addr.add] using this
     ·obtain ⟨_, rfl⟩ := hget i row hi
      cases hfi : f i with
      | mk k n s l => rw [Tm.cells_mk]; rfl
     ·obtain ⟨_, _, v, h1, _⟩ := hcell i j row x hi hj
      show W.cell? _ = _
      rw [h1]; rfl
     ·obtain ⟨_, _, v, h1, h2⟩ := hcell i j row x hi hj
      rw [h1]; exact h2
     ·exact (hcell i j row x hi hj).2.1
    ·simp only [Rows.uptoBulk]
     have := qjg ((qzn len).map f) (elems.map (·.1)) (by simp [hel]) (fun i t d ht hd => by
      rw [List.getElem?_map] at ht hd
      obtain ⟨j, hj, rfl⟩ := qyO.1 ht
      obtain ⟨y, hy, rfl⟩ := qyO.1 hd
      have hil : i < len := by have := (qyL.1 hj).1; simpa using this
      rw [List.getElem?_range hil] at hj
      cases hj
      obtain ⟨_, _, _, h4⟩ := hf i y hy
      exact h4)
     omega
    ·have hrow : 0 < (elems.length + rest.length) → sp a.block = true := fun hpos => hp (.cell a.block (a.off + 0)) (by
      rw [qzi]
      exact .inl (MemPlace.mem_row.2 ⟨0, Nat.mul_pos hpos (by rw [T.cT]; omega), rfl⟩))
     unfold DataW.trod at h ⊢
     rw [T.uL] at h ⊢
     simp only [if_true] at h ⊢
     rw [if_pos ⟨hb, hlc, hmx⟩] at h ⊢
     simp only [qyO, qyJ] at h ⊢
     obtain ⟨elems', he, rest', hr, hx⟩ := h
     have hlen : elems'.length = len := by simpa using mapM_some_length he
     have hrl' : rest'.length = cap - len := by simpa using mapM_some_length hr
     simp only [Prod.mk.injEq, DataW.slice.injEq] at hx
     have one' : ∀ (i : Nat) (y : DataW H × List MemPlace), i < elems'.length + rest'.length → y ∈ elems' ++ rest' →
       (W.cells? 0 (a.add (i * P.cellsOf tT)) (P.cellsOf tT)).bind (DataW.trod enc P W 0 (fun _ => true) true n' tT) = some y → (W'.cells? 0 (a.add (i * P.cellsOf tT)) (P.cellsOf tT)).bind (DataW.trod enc P W' 0 sp true n' tT) = some y := by
      intro i y hi hy hv
      simp only [qyJ] at hv ⊢
      obtain ⟨cs', hc', hy'⟩ := hv
      obtain ⟨_, _, _, hbk⟩ := ihT _ _ hy'
      refine ⟨cs', World.cells?_carry hc' (fun p hpp => hs p ?_), hbk W' sp (fun p hpp => hs p ?_) (fun p hpp => hp p ?_)⟩
      ·rw [← hx.2]
       obtain ⟨j, hj, rfl⟩ := MemPlace.mem_row.1 hpp
       simp only [qzi]
       left
       refine MemPlace.mem_row.2 ⟨i * P.cellsOf tT + j, ?_, ?_⟩
       ·calc i * P.cellsOf tT + j < i * P.cellsOf tT + P.cellsOf tT := by omega
         _ = (i + 1) * P.cellsOf tT := by rw [Nat.add_mul, Nat.one_mul]
         _ ≤ (elems'.length + rest'.length) * P.cellsOf tT := qy5 _ hi
       ·unfold Addr.add
        split
        ·rename_i h0
         simp [h0]
        ·simp [Nat.add_assoc]
      ·rw [← hx.2]
       simp only [qzi, List.mem_flatMap]
       right
       exact ⟨y, by simpa using hy, hpp⟩
      ·rw [← hx.2]
       simp only [qzi, List.mem_flatMap]
       right
       exact ⟨y, by simpa using hy, hpp⟩
     refine ⟨elems', mapM_carry he (fun i y hi hy => one' i y (by have : i < len := (by simpa using hi); omega) (by simp [hy])), rest', ?_, by simp only [Prod.mk.injEq, DataW.slice.injEq]; exact hx⟩
     by_cases h0 : 0 < elems.length + rest.length
     ·rw [if_pos (hrow h0)]
      exact mapM_carry hr (fun j y hj hy => one' (len + j) y (by have : j < cap - len := (by simpa using hj); omega) (by simp [hy]))
     ·have hc0 : cap - len = 0 := by omega
      rw [hc0] at hr ⊢
      simp at hr
      subst hr
      split <;> rfl
end
end Go.Proofs.YtkgkjngbfdnoiaaGreat
end
section
namespace Go.Proofs.YtkgkjngbfdnoiaaGreat
open Go.Av Go.ChangeShapes Go.WideShapes Go.ChangeAt Go.RowKit
theorem qtc : ownKnob Tryz.prog.godebug = none := by kernel_rfl
theorem qlM : TermTys Tryz.prog 24 22 3 9 where
 uT := ⟨_, _, _, _, Tryz.underlying24, rfl, rfl, rfl, rfl, rfl, rfl, rfl, rfl⟩
 uL := Tryz.underlying22
 uI := Tryz.underlying3
 uS := Tryz.underlying9
 cT := by kernel_rfl
 cL := by kernel_rfl
 cI := by kernel_rfl
 cS := by kernel_rfl
theorem qdu (f : FuncId) (fn : Func) (h : Tryz.prog.funcs[f]? = some fn) : (fn.name == "runtime.NumGoroutine") = false := by
 have h1 := List.all_eq_true.1 qti fn (by
  rw [← Array.getElem?_toList] at h
  exact qyR h)
 simpa using h1
theorem qm7 [Lent] {args : List AV} {H H' : AH} {r : AV} {C : qu} {μ : MMap} {w : World} {vs : Array Value} (hr : qc1 args H = some (r, H')) (ha : qF C μ args vs) (hw : Wld C μ H w) :
  vD Tryz.prog (callFunc 308 vs) w (xn C μ H w r H') :=
 qmY (P := Tryz.prog) Tryz.func308 (by rfl) (by rfl) (by kernel_rfl) (by kernel_rfl) hr ha hw
theorem qc5 [Lent] : CfgOk cfg where
  ty := ⟨fun t ti h => BT.all_look qh0 h⟩
  mixed := qdv
  named := fun f fn _ h => qdu f fn h
  ext := fun f s h args H r H' hr C μ w vs ha hw => by
    have h : x9 f qbP = some s := h
    unfold qbP at h
    rw [x9] at h
    split at h
    · rename_i e
      have e := qyT e
      subst e
      cases h
      exact qm7 hr ha hw
    · rw [qdO] at h
      first
        | (rw [x9] at h; cases h; done)
        | (have okK : CfgOk K.cfg := {
             ty := ⟨fun t ti h => BT.all_look (show K.qh1.All _ from qh0) h⟩
             mixed := qdv
             named := fun f fn _ h => qdu f fn h
             ext := fun f s h args H r H' hr C μ w vs ha hw => by
               have h : K.x9 f K.qbP = some s := h
               unfold K.qbP at h
               rw [K.x9] at h
               split at h
               · rename_i e
                 have e := qyT e
                 subst e
                 cases h
                 exact qm7 hr ha hw
               · rw [K.qdO, K.x9] at h
                 cases h }
           rw [x9] at h
           split at h
           · rename_i e
             have e := qyT e
             subst e
             cases h
             exact (qbT okK).calls _ _ _ _ _ hr C μ w vs _ ha hw rfl
           · rw [x9] at h
             cases h)
theorem qkk {f : FuncId} {args : List AV} {vs : Array Value} {W : World} (hx : cfg.ext f = none) (he : EVs (EV cfg) f args = some (.bool true)) (ha : qF (C0 W) M0 args vs) :
  Calls Tryz.prog f vs W fun e W' => e = .returned (.bool true) ∧ (∀ b, b < W.heap.size → W'.heap[b]? = W.heap[b]?) ∧ W.heap.size ≤ W'.heap.size ∧ W'.os = W.os ∧ W'.output = W.output := by
 unfold EVs at he
 obtain ⟨q, h1, h2⟩ := qyO.1 he
 have := qnn qc5 hx (r := q.1) (H' := q.2) h1 ha (wld0 W)
 refine this.mono fun e W' ⟨v, hv, C', μ', p1, p2, p3⟩ => ?_
 rw [h2] at p1
 cases p1
 refine ⟨hv, fun b hb => (p3.fr b hb vS).1, p3.size, p3.os, p3.output⟩
section
variable {H : Type} {enc : TypeId × Value → H} {P : Program} {W W' : World}
theorem qrP {f : Func} {s : ChangeSpec} {apart fresh handsOn again : Bool} {args : Array Value} {v : Value} {ds gs : List (DataW H)} {before pa pv : List MemPlace}
  (hW : DataW.Whole enc P f.params.toList s.vars apart W args.toList ds gs before)
  (hres : ∀ (b : Nat) (sp : Nat → Bool) (hd : Bool), DataW.TrodAll enc P W' b sp hd f.resultTypes.toList (v.resultList f.resultTypes.size) (s.fn H (ds ++ gs)).results [])
  (hargs : ∀ sp : Nat → Bool, (∀ p ∈ before, sp p.block = true) → DataW.TrodAll enc P W' 0 sp true f.params.toList args.toList (s.fn H (ds ++ gs)).args pa)
  (hvars : ∀ sp : Nat → Bool, (∀ p ∈ before, sp p.block = true) → DataW.TrodVars enc P W' sp s.vars (s.fn H (ds ++ gs)).vars pv)
  (hps : before = pa ++ pv) (hk : W.keptBut W' (· ∈ before)) (hfz : ∀ b o, b < W.heap.size → W'.frozen? ⟨b, o, none⟩ = W.frozen? ⟨b, o, none⟩)
  (hok : ∀ (j : Nat) (t : TypeId) (r : Value), f.resultTypes[j]? = some t → (v.resultList f.resultTypes.size)[j]? = some r → Value.okWide P W' .any 0 t r) :
  s.post enc P f apart fresh handsOn again W args v W' := by
 have hlt := hW.lt
 have hold : ∀ p ∈ before, (fun b => decide (b < W.heap.size)) p.block = true := fun p hp => by simpa using hlt p hp
 refine ⟨ds, gs, before, [], pa, pv, hW, hres _ _ _, hargs _ hold, hvars _ hold, World.keptBut_mono (fun p hp => ⟨hp, ?_⟩) hk, fun _ => ?_⟩
 ·rw [hps, qzi] at hp
  exact Or.inr hp
 ·obtain ⟨_, _, _, _, _, hz, hn⟩ := hW
  refine ⟨hok, _, _, ([] ++ pa) ++ pv, ⟨[] ++ pa, pv, trodAll_append (hargs _ (fun _ _ => rfl)) (hres _ _ _), hvars _ (fun _ _ => rfl), rfl, ?_, ?_⟩, ?_⟩
  ·intro b off hp
   have hp' : MemPlace.cell b off ∈ before := by rw [hps]; simpa using hp
   rw [hfz b off (hlt _ hp')]
   exact hz b off hp'
  ·intro ha
   have := hn ha
   rw [hps] at this
   simpa using this
  ·intro p hp _
   rw [hps]
   simpa using hp
theorem qmA (h : ∀ b, b < W.heap.size → W'.heap[b]? = W.heap[b]?) (ho : W'.os = W.os) (hu : W'.output = W.output) (may : MemPlace → Prop) : W.keptBut W' may := by
 refine ⟨ho, hu, fun i hi => ?_⟩
 rw [h i hi]
 cases W.heap[i]? with
 | none => rfl
 | some o => cases o <;> simp
theorem qbC (h : ∀ b, b < W.heap.size → W'.heap[b]? = W.heap[b]?) {p : MemPlace} (hp : p.block < W.heap.size) : W.sameAt W' p := by
 cases p with
 | cell b o => simp only [World.sameAt, World.cell?]; rw [h b hp]
 | map b => exact h b hp
theorem qj0 (h : ∀ b, b < W.heap.size → W'.heap[b]? = W.heap[b]?) (b o : Nat) (hb : b < W.heap.size) : W'.frozen? ⟨b, o, none⟩ = W.frozen? ⟨b, o, none⟩ := by
 simp only [World.frozen?]; rw [h b hb]
structure Opened (enc : TypeId × Value → H) (P : Program) (W : World) (t : TypeId) (v : Value) (d : DataW H) (ps : List MemPlace) (a : AV) : Prop where
 rep : Rep (C0 W) M0 a v
 back : ∀ (W' : World) (sp : Nat → Bool), (∀ p ∈ ps, W.sameAt W' p) → (∀ p ∈ ps, sp p.block = true) → DataW.Trod enc P W' 0 sp true t v d ps
theorem qks {tT tL tI tS : TypeId} (T : TermTys P tT tL tI tS) {r : Reach} {b0 : Nat} {v : Value} {d : DataW H} {ps : List MemPlace} (hval : Value.okWide P W r b0 tT v) (hd : DataW.Trod enc P W 0 (fun _ => true) true tT v d ps) :
  ∃ t : Tm, Opened enc P W tT v d ps t.av ∧ t.w ≤ Rows.uptoBulk d := by
 obtain ⟨f0, f1, f2, f3, hu, _⟩ := T.uT
 obtain ⟨cs, rfl, hsz⟩ := okWide_struct hu hval
 obtain ⟨n, hn⟩ := hd
 obtain ⟨t, h1, h2, h3⟩ := (qrU T n).1 _ _ hn
 refine ⟨t, ⟨?_, fun W' sp hs hp => ⟨n, h3 W' sp hs hp⟩⟩, h2⟩
 have := Rep.agg (C := C0 W) (μ := M0) t.cells cs.toList (by
  have := h1.1
  cases t with
  | mk k n s l => rw [Tm.cells_mk]; simpa [Value.cells] using this.symm) (fun i a v ha hv => (h1.2 i a v ha (by simpa [Value.cells] using hv)).2)
 simpa [Tm.av] using this
theorem qtf {tI : TypeId} (hu : P.underlying tI = some (.int .i64)) {r : Reach} {b0 : Nat} {v : Value} {d : DataW H} {ps : List MemPlace} (hval : Value.okWide P W r b0 tI v) (hd : DataW.Trod enc P W 0 (fun _ => true) true tI v d ps) :
  ∃ k : Int, Opened enc P W tI v d ps (.int .i64 k) ∧ (Lit.int .i64 k).wf = true := by
 obtain ⟨k, rfl⟩ := okWide_int hu hval
 obtain ⟨n, hn⟩ := hd
 obtain ⟨k', e0, ex, w0⟩ := DataW.trod_int hu hn
 have e0 : [Value.int .i64 k] = [Value.int .i64 k'] := by simpa [Value.cells] using e0
 cases e0
 cases ex
 refine ⟨k, ⟨.int _ _, fun W' sp _ _ => ⟨n, ?_⟩⟩, w0⟩
 cases n with
 | zero => simp [DataW.trod] at hn
 | succ q => simp [DataW.trod, hu, w0, Value.cells]
end
theorem qrA {C : qu} {a b c : AV} {x y z : Value} (h1 : Rep C M0 a x) (h2 : Rep C M0 b y) (h3 : Rep C M0 c z) : qF C M0 [a, b, c] #[x, y, z] := ⟨rfl, fun i c v hc hv => by
 match i, hc, hv with
 | 0, hc, hv => simp at hc hv; subst hc hv; exact h1
 | 1, hc, hv => simp at hc hv; subst hc hv; exact h2
 | 2, hc, hv => simp at hc hv; subst hc hv; exact h3
 | (i + 3), hc, hv => simp at hc⟩
end Go.Proofs.YtkgkjngbfdnoiaaGreat
end
section
namespace Go.Proofs.YtkgkjngbfdnoiaaGreat.R
open Go.Av
def xW {α : Type} (f : Nat) : List (Nat × α) → Option α
 | [] => none
 | p :: l => if qyW p.1 f then some p.2 else xW f l
theorem qgR {f : Nat} {fn : Func} : ∀ {l : List (Nat × Func)}, qau f l = some fn → ∃ p ∈ l, p.1 = f
 | [], h => by cases h
 | q :: l, h => by
  rw [qau] at h
  split at h
  ·rename_i e
   exact ⟨q, by simp, qyT e⟩
  ·obtain ⟨p, h1, h2⟩ := qgR h
   exact ⟨p, by simp [h1], h2⟩
def qyv : List (Nat × CMode) := [(71, .rgn), (20, .over), (17, .rgn), (28, .rgn), (97, .rgn), (179, .rgn)]
def kL : List (Nat × Unit) := [(15, ()), (19, ()), (23, ()), (26, ()), (41, ()), (81, ()), (84, ()), (85, ()), (87, ()), (68, ()), (69, ()), (89, ()), (90, ()), (70, ()), (92, ()), (88, ()), (91, ()), (27, ()), (18, ()), (29, ()), (31, ()), (103, ()), (252, ()), (36, ())]
open Classical in
noncomputable def qc0 (args : List AV) (H : AH) : Option (AV × AH) :=
 match args, H with
 | [.agg [a, b, c, .sl rows]], [] => if ∃ t : Tm, t.Ok ∧ t.av = .agg [a, b, c, .sl rows] then some (.agg [a, b, c, .rsl 0 rows], [.reg]) else none
 | _, _ => none
noncomputable def xL : List (Nat × (List AV → AH → Option (AV × AH))) := [(71, qc0)]
def frzL : List (Nat × Nat × Nat) := []
def quQ (f r k : Nat) : List (Nat × Nat × Nat) → Bool
 | [] => false
 | p :: l => (qyW p.1 f && (qyW p.2.1 r && qyW p.2.2 k)) || quQ f r k l
noncomputable def ext (f : Nat) : Option (List AV → AH → Option (AV × AH)) :=
 match xW f xL with
 | some s => some s
 | none => match xW f kL with
  | some _ => some (EV Go.Proofs.YtkgkjngbfdnoiaaGreat.cfg (.f f))
  | none => Go.Proofs.YtkgkjngbfdnoiaaGreat.cfg.ext f
noncomputable def cfg : Cfg := { Go.Proofs.YtkgkjngbfdnoiaaGreat.cfg with mode := fun f => match xW f qyv with | some m => m | none => Go.Proofs.YtkgkjngbfdnoiaaGreat.cfg.mode f, frz := fun f r k => quQ f r k frzL || Go.Proofs.YtkgkjngbfdnoiaaGreat.cfg.frz f r k, ext := ext }
theorem qtz : qiY.all (fun p => (xW p.1 xL).isNone && (xW p.1 kL).isNone) = true := rfl
instance inl_ok : InlOk cfg where
 ok f fn h := by
  have h : qau f qiY = some fn := h
  obtain ⟨h1, h2, h3, h4⟩ := Go.Proofs.YtkgkjngbfdnoiaaGreat.inl_ok.ok f fn h
  refine ⟨?_, h2, h3, h4⟩
  obtain ⟨p, hp, rfl⟩ := qgR h
  have := List.all_eq_true.1 qtz p hp
  rw [qyK, Option.isNone_iff_eq_none, Option.isNone_iff_eq_none] at this
  show ext p.1 = none
  unfold ext
  rw [this.1, this.2]
  exact h1
theorem ev_k {f : Nat} (hx : (xW f xL).isNone = true) (hk : (xW f kL).isSome = true) (args : List AV) (H : AH) : EV cfg (.f f) args H = EV Go.Proofs.YtkgkjngbfdnoiaaGreat.cfg (.f f) args H := by
 have he : cfg.ext f = some (EV Go.Proofs.YtkgkjngbfdnoiaaGreat.cfg (.f f)) := by
  show ext f = _
  unfold ext
  rw [Option.isNone_iff_eq_none] at hx
  obtain ⟨u, hu⟩ := Option.isSome_iff_exists.1 hk
  rw [hx, hu]
 have h1 : ∀ n, evF cfg (n + 1) (.f f) args H = EV Go.Proofs.YtkgkjngbfdnoiaaGreat.cfg (.f f) args H := fun n => by
  show xk cfg (evF cfg n) (.f f) args H = _
  unfold xk
  simp only [he]
 have h0 : evF cfg 0 (.f f) args H = none := rfl
 cases h : EV Go.Proofs.YtkgkjngbfdnoiaaGreat.cfg (.f f) args H with
 | some r => exact qmw (g := fun n => evF cfg n (.f f) args H) (fun n r h => qdP cfg n (.f f) args H r h) (n := 1) ((h1 0).trans h)
 | none =>
  have : ¬ ∃ (n : Nat) (r : AV × AH), evF cfg n (.f f) args H = some r := by
   rintro ⟨n, r, hr⟩
   cases n with
   | zero => rw [h0] at hr; cases hr
   | succ n => rw [h1, h] at hr; cases hr
  exact dif_neg this
theorem qi7 {f : Nat} (args : List AV) (hx : (xW f xL).isNone = true) (hk : (xW f kL).isSome = true) : EVs (EV cfg) f args = EVs (EV Go.Proofs.YtkgkjngbfdnoiaaGreat.cfg) f args := by unfold EVs; rw [ev_k hx hk]
theorem qcc {f : Nat} (args : List AV) (hx : (xW f xL).isNone = true) (hk : (xW f kL).isSome = true) : EVf (EV cfg) f args = EVf (EV Go.Proofs.YtkgkjngbfdnoiaaGreat.cfg) f args := by unfold EVf; rw [ev_k hx hk]
theorem qyz {f : Nat} (args : List AV) (hx : (xW f xL).isNone = true) (hk : (xW f kL).isSome = true) : EVq (EV cfg) f args = EVq (EV Go.Proofs.YtkgkjngbfdnoiaaGreat.cfg) f args := by unfold EVq; rw [ev_k hx hk]
theorem qyA {f : Nat} (args : List AV) (sz : Nat) (rs : List (List AV)) (hx : (xW f xL).isNone = true) (hk : (xW f kL).isSome = true) : EVd (EV cfg) f args sz rs = EVd (EV Go.Proofs.YtkgkjngbfdnoiaaGreat.cfg) f args sz rs := by unfold EVd; rw [ev_k hx hk]
noncomputable def qtX : Den := evC cfg (EV cfg) 179 none 0 (sub (qe Tryz.f179) [1, 1, 1, 1, 1, 0, 1, 0, 0])
noncomputable def qt6 : Ex × List AV × AH → Option AV := kAft (Cfg.keepOut cfg 179 7) (kRun cfg (EV cfg) (kfN cfg 6) 179 none 0 (qqM cfg (Cfg.lift cfg 179 0) Tryz.f179.results.toList) ([.block 0, .seq (sub (qe Tryz.f179) [1, 1, 1, 1, 1, 1])]))
noncomputable def qnl : List AV × AH → Option AV := fun p => kOpt (LOOP 0 (some [6, 10, 11, 38, 39, 40]) ([]) qtX p) qt6
noncomputable def qvM : Den := evC cfg (EV cfg) 97 none 0 (sub (qe Tryz.f97) [1, 0, 1, 1, 1, 0, 1, 0, 0])
noncomputable def qv2 : Ex × List AV × AH → Option AV := kAft (Cfg.keepOut cfg 97 7) (kRun cfg (EV cfg) (kfN cfg 6) 97 none 0 (qqM cfg (Cfg.lift cfg 97 0) Tryz.f97.results.toList) ([.block 1, .seq (sub (qe Tryz.f97) [1, 0, 1, 1, 1, 1]), .scope]))
noncomputable def qps : List AV × AH → Option AV := fun p => kOpt (LOOP 0 (some [2, 4, 7, 43, 44, 45]) ([]) qvM p) qv2
noncomputable abbrev qg2 (bs : Rz) (v40 c0_0 c0_1 : Int) (c0_2 : Bz) (c0_3 : Rz) (c1_0 c1_1 : Int) (c1_2 : Bz) (c1_3 c1_4 : Rz) (c1_5 c2_0 c2_1 : Int) (c2_2 : Bz) (c2_3 : Rz) : Option (AV) := qnl  (((fx 56 [(6, .ptr 0 0 0), (10, .ptr 1 0 0), (11, .ptr 2 0 0), (38, .sl bs), (39, .int .i64 (bs.length : Int)), (40, .int .i64 v40)]) : List AV), ([.rows false 4 [[.int .i64 c0_0, .int .i64 c0_1, .str c0_2, .sl c0_3]], .rows false 6 [[.int .i64 c1_0, .int .i64 c1_1, .str c1_2, .sl c1_3, .sl c1_4, .int .i64 c1_5]], .rows false 4 [[.int .i64 c2_0, .int .i64 c2_1, .str c2_2, .sl c2_3]]] : AH))
noncomputable abbrev quW (self v45 c0_0 c0_1 : Int) (c0_2 : Bz) (c0_3 : Rz) (c1_0 c1_1 : Int) (c1_2 : Bz) (c1_3 : Rz) : Option (AV) := qps  (((fx 64 [(2, .int .i64 self), (4, .ptr 0 0 0), (7, .ptr 1 0 0), (43, .nilS), (44, .int .i64 (0 : Int)), (45, .int .i64 v45)]) : List AV), ([.rows false 4 [[.int .i64 c0_0, .int .i64 c0_1, .str c0_2, .sl c0_3]], .rows false 4 [[.int .i64 c1_0, .int .i64 c1_1, .str c1_2, .sl c1_3]]] : AH))
noncomputable abbrev qdd (self : Int) (sz off len : Nat) (v45 c0_0 c0_1 : Int) (c0_2 : Bz) (c0_3 : Rz) (c1_0 c1_1 : Int) (c1_2 : Bz) (c1_3 h2 : Rz) : Option (AV) := qps  (((fx 64 [(2, .int .i64 self), (4, .ptr 0 0 0), (7, .ptr 1 0 0), (43, .ms 2 off len), (44, .int .i64 (↑len : Int)), (45, .int .i64 v45)]) : List AV), ([.rows false 4 [[.int .i64 c0_0, .int .i64 c0_1, .str c0_2, .sl c0_3]], .rows false 4 [[.int .i64 c1_0, .int .i64 c1_1, .str c1_2, .sl c1_3]], .rows true sz h2] : AH))
noncomputable abbrev qeb (bs rows : Rz) (v40 c0_0 c0_1 : Int) (c0_2 : Bz) (c0_3 : Rz) (c1_0 c1_1 : Int) (c1_2 : Bz) (c1_3 c1_4 : Rz) (c1_5 c2_0 c2_1 : Int) (c2_2 : Bz) : Option (AV) := qnl  (((fx 56 [(6, .ptr 0 0 0), (10, .ptr 1 0 0), (11, .ptr 2 0 0), (38, .sl bs), (39, .int .i64 (bs.length : Int)), (40, .int .i64 v40)]) : List AV), ([.rows false 4 [[.int .i64 c0_0, .int .i64 c0_1, .str c0_2, .sl c0_3]], .rows false 6 [[.int .i64 c1_0, .int .i64 c1_1, .str c1_2, .sl c1_3, .sl c1_4, .int .i64 c1_5]], .rows false 4 [[.int .i64 c2_0, .int .i64 c2_1, .str c2_2, .rsl 3 rows]], .reg] : AH))
theorem qjz (kh nh : Int) (sh : Bz) (lh gs bs : Rz) (ko no : Int) (so : Bz) (lo : Rz) (self : Int) {P : AV → Prop} (h : Gets (kOpt (EVf (EV cfg) 252 [.agg [.int .i64 kh, .int .i64 nh, .str sh, .sl lh], .agg [.int .i64 ko, .int .i64 no, .str so, .sl lo]]) fun v => kTup v fun cs => qa cs fun c cs => kSl c fun rows => qa cs fun c cs => qf c fun b => kNil cs (bif ! b then some (AV.tup [.agg [.int .i64 0, .int .i64 0, .str [], .sl []], .bool false]) else kOpt (EVs (EV cfg) 86 [.sl gs, .agg [.int .i64 ko, .int .i64 no, .str so, .sl lo, .sl rows, .int .i64 self]]) fun v => qf v fun b => bif ! b then some (AV.tup [.agg [.int .i64 0, .int .i64 0, .str [], .sl []], .bool false]) else qg2 bs 0 0 0 [] [] ko no so lo rows self 0 0 [] [])) P) : Gets (EVg (EV cfg) 179 [.agg [.int .i64 kh, .int .i64 nh, .str sh, .sl lh, .sl gs, .sl bs], .agg [.int .i64 ko, .int .i64 no, .str so, .sl lo], .int .i64 self]) P :=
  gE (fun _ => funR rfl rfl Tryz.func179 rfl) (by kernel_rfl) h
noncomputable abbrev za0  : Option (AV) := some (AV.tup [AV.int .i64 0, .agg [.int .i64 0, .int .i64 0, .str [], .sl []], .int .i64 2])
theorem qjA (kt nt : Int) (st : Bz) (lt : Rz) (ko no : Int) (so : Bz) (lo : Rz) (self : Int) {P : AV → Prop} (h : Gets (kOpt (EVq (EV cfg) 103 [.agg [.int .i64 kt, .int .i64 nt, .str st, .sl lt]]) fun q => kInt .i64 q.2 fun n => kOwn q.1 (bif n != 0 then some (AV.tup [AV.int .i64 0, .agg [.int .i64 0, .int .i64 0, .str [], .sl []], .int .i64 n]) else bif ko != 7 then some (AV.tup [AV.int .i64 0, .agg [.int .i64 (0 : Int), .int .i64 0, .str [], .sl []], .int .i64 2]) else kOpt (EVs (EV cfg) 91 [.agg [.int .i64 ko, .int .i64 no, .str so, .sl lo]]) fun v => kInt .i64 v fun n => bif n != 0 then za0 else bif decide (self < 1) then za0 else bif decide (self > 1073741824) then za0 else quW self 0 ko no so lo 0 (0 : Int) [] []) fun sz rs off len => bif n != 0 then some (AV.tup [AV.int .i64 0, .agg [.int .i64 0, .int .i64 0, .str [], .sl []], .int .i64 n]) else bif ko != 7 then za0 else kOpt (EVs (EV cfg) 91 [.agg [.int .i64 ko, .int .i64 no, .str so, .sl lo]]) fun v => kInt .i64 v fun n => bif n != 0 then za0 else bif decide (self < 1) then za0 else bif decide (self > 1073741824) then za0 else qdd self sz off len 0 ko no so lo 0 0 [] [] rs) P) : Gets (EVg (EV cfg) 97 [.agg [.int .i64 kt, .int .i64 nt, .str st, .sl lt], .agg [.int .i64 ko, .int .i64 no, .str so, .sl lo], .int .i64 self]) P :=
  gE (fun _ => funR rfl rfl Tryz.func97 rfl) (by kernel_rfl) h
theorem qlP (kt nt : Int) (st : Bz) (lt : Rz) (ko no : Int) (so : Bz) (lo : Rz) (self : Int) {P : AV → Prop} (h : Gets (kOpt (EVg (EV cfg) 97 [.agg [.int .i64 kt, .int .i64 nt, .str st, .sl lt], .agg [.int .i64 ko, .int .i64 no, .str so, .sl lo], .int .i64 self]) fun V => kTup V fun cs => qa cs fun c cs => kInt .i64 c fun n => qa cs fun c cs => kAgg c fun cs_1 => qa cs_1 fun c cs_2 => kInt .i64 c fun n_1 => qa cs_2 fun c cs_3 => kInt .i64 c fun n_2 => qa cs_3 fun c cs_4 => kStr c fun s => qa cs_4 fun c cs_5 => kSl c fun rows => kNil cs_5 (qa cs fun c cs => kInt .i64 c fun n_3 => kNil cs (some (AV.tup [.agg [.int .i64 n_1, .int .i64 n_2, .str s, .sl rows], .bool (decide (n > 0)), .int .i64 n_3])))) P) : Gets (EVg (EV cfg) 28 [.agg [.int .i64 kt, .int .i64 nt, .str st, .sl lt], .agg [.int .i64 ko, .int .i64 no, .str so, .sl lo], .int .i64 self]) P :=
  gE (fun _ => funR rfl rfl Tryz.func28 rfl) (by kernel_rfl) h
theorem qk6 (kt nt : Int) (st : Bz) (lt : Rz) (ko no : Int) (so : Bz) (lo : Rz) (self : Int) {P : AV → Prop} (h : Gets (kOpt (EVs (EV cfg) 27 [.sl [[AV.int .i64 kt, .int .i64 nt, .str st, .sl lt], [AV.int .i64 ko, .int .i64 no, .str so, .sl lo]]]) fun v => qf v fun b => bif b then some (.bool true) else kOpt (EVf (EV cfg) 15 [.agg [.int .i64 kt, .int .i64 nt, .str st, .sl lt]]) fun v => kTmV v fun n n_1 s rows => (kOpt (EVf (EV cfg) 15 [.agg [.int .i64 ko, .int .i64 no, .str so, .sl lo]]) fun v => kTmV v fun n_2 n_3 s_1 rows_1 => (kOpt (EVg (EV cfg) 28 [.agg [.int .i64 n, .int .i64 n_1, .str s, .sl rows], .agg [.int .i64 n_2, .int .i64 n_3, .str s_1, .sl rows_1], .int .i64 self]) fun V => kTup V fun cs => qa cs fun c cs => kAgg c fun cs_1 => qa cs_1 fun c cs_2 => kInt .i64 c fun n_4 => qa cs_2 fun c cs_3 => kInt .i64 c fun n_5 => qa cs_3 fun c cs_4 => kStr c fun s_2 => qa cs_4 fun c cs_5 => kSl c fun rows_2 => kNil cs_5 (qa cs fun c cs => qf c fun b => qa cs fun c cs => kInt .i64 c fun n_6 => kNil cs (kOpt (EVf (EV cfg) 29 [.agg [.int .i64 kt, .int .i64 nt, .str st, .sl lt], .agg [.int .i64 ko, .int .i64 no, .str so, .sl lo], .int .i64 self]) fun v => kTup v fun cs => qa cs fun c cs => kAgg c fun cs_6 => qa cs_6 fun c cs_7 => kInt .i64 c fun n_7 => qa cs_7 fun c cs_8 => kInt .i64 c fun n_8 => qa cs_8 fun c cs_9 => kStr c fun s_3 => qa cs_9 fun c cs_10 => kSl c fun rows_3 => kNil cs_10 (qa cs fun c cs => qf c fun b_1 => qa cs fun c cs => kInt .i64 c fun n_9 => kNil cs (kOpt (EVs (EV cfg) 30 [AV.agg [.int .i64 n, .int .i64 n_1, .str s, .sl rows], AV.agg [.int .i64 n_2, .int .i64 n_3, .str s_1, .sl rows_1], .int .i64 self]) fun v => kTup v fun cs => qa cs fun c cs => kInt .i64 c fun n_10 => qa cs fun c cs => kInt .i64 c fun n_11 => kNil cs (kOpt (EVs (EV cfg) 31 [AV.agg [.int .i64 kt, .int .i64 nt, .str st, .sl lt], AV.agg [.int .i64 ko, .int .i64 no, .str so, .sl lo], .int .i64 self]) fun v => kTup v fun cs => qa cs fun c cs => kInt .i64 c fun n_12 => qa cs fun c cs => kInt .i64 c fun n_13 => kNil cs (bif n_6 != n_9 then some (.bool false) else bif ! b == b_1 then some (.bool false) else kOpt (EVs (EV cfg) 19 [AV.agg [.int .i64 n_4, .int .i64 n_5, .str s_2, .sl rows_2], AV.agg [.int .i64 n_7, .int .i64 n_8, .str s_3, .sl rows_3]]) fun v => qf v fun b => bif ! b then some (.bool false) else bif n_10 != n_12 then some (.bool false) else bif n_11 != n_13 then some (.bool false) else kOpt (EVz (EV cfg) 20 (AV.agg [.int .i64 n_4, .int .i64 n_5, .str s_2, AV.rsl 0 rows_2])) fun x => kOpt (EVs (EV cfg) 19 [AV.agg [.int .i64 n, .int .i64 n_1, .str s, .sl rows], AV.agg [.int .i64 kt, .int .i64 nt, .str st, .sl lt]]) fun v => qf v fun b => bif b then kOpt (EVs (EV cfg) 19 [AV.agg [.int .i64 n_2, .int .i64 n_3, .str s_1, .sl rows_1], AV.agg [.int .i64 ko, .int .i64 no, .str so, .sl lo]]) fun v => qf v fun b => bif b then kOpt (EVs (EV cfg) 32 []) fun v => qf v fun b => some (.bool b) else some (.bool false) else some (.bool false)))))))))) P) : Gets (EVs (EV cfg) 5 [.agg [.int .i64 kt, .int .i64 nt, .str st, .sl lt], .agg [.int .i64 ko, .int .i64 no, .str so, .sl lo], .int .i64 self]) P :=
  gE (fun _ => funS rfl rfl Tryz.func5 rfl) (by kernel_rfl) h
noncomputable abbrev za7  : Option (AV) := some (AV.tup [AV.agg [.int .i64 2, .int .i64 0, .str [(69 : UInt8), (88 : UInt8), (73 : UInt8), (84 : UInt8)], .sl []], .bool true])
noncomputable abbrev za6 (n n_1 : Int) (s : Bz) (rows : Rz) (c1_0 c1_1 : Int) (c1_2 : Bz) (c1_3 c1_4 : Rz) (c1_5 : Int) (bs : Rz) (v40 c0_0 c0_1 : Int) (c0_2 : Bz) (c0_3 : Rz) : Option (AV) := (kOpt (EVg (EV cfg) 17 [.agg [.int .i64 n, .int .i64 n_1, .str s, .sl rows], .agg [.int .i64 c1_0, .int .i64 c1_1, .str c1_2, .sl c1_3, .sl c1_4, .int .i64 c1_5]]) fun V => kTup V fun cs => qa cs fun c cs => kAgg c fun cs_1 => qa cs_1 fun c cs_2 => kInt .i64 c fun n => qa cs_2 fun c cs_3 => kInt .i64 c fun n_2 => qa cs_3 fun c cs_4 => kStr c fun s => qa cs_4 fun c cs_5 => kSl c fun rows => kNil cs_5 (qa cs fun c cs => kInt .i64 c fun n_3 => kNil cs (bif n_3 != 0 then za7 else qeb bs rows (IntKind.wrap .i64 (v40 + 1)) c0_0 c0_1 c0_2 c0_3 c1_0 c1_1 c1_2 c1_3 c1_4 c1_5 n n_2 s)))
noncomputable abbrev za5 (row : List AV) (c1_0 c1_1 : Int) (c1_2 : Bz) (c1_3 c1_4 : Rz) (c1_5 : Int) (bs : Rz) (v40 c0_0 c0_1 : Int) (c0_2 : Bz) (c0_3 : Rz) : Option (AV) := kTmC (qyM 4 row) fun n n_1 s rows => za6 n n_1 s rows c1_0 c1_1 c1_2 c1_3 c1_4 c1_5 bs v40 c0_0 c0_1 c0_2 c0_3
noncomputable abbrev za4 (row : List AV) (c1_0 c1_1 : Int) (c1_2 : Bz) (c1_3 c1_4 : Rz) (c1_5 : Int) (bs : Rz) (v40 c0_0 c0_1 : Int) (c0_2 : Bz) (c0_3 : Rz) : Option (AV) := bif qyQ 4 (qyH row) then za5 row c1_0 c1_1 c1_2 c1_3 c1_4 c1_5 bs v40 c0_0 c0_1 c0_2 c0_3 else none
noncomputable abbrev za3 (row : List AV) (c1_0 c1_1 : Int) (c1_2 : Bz) (c1_3 c1_4 : Rz) (c1_5 : Int) (bs : Rz) (v40 c0_0 c0_1 : Int) (c0_2 : Bz) (c0_3 : Rz) : Option (AV) := bif qyW (qyH row) 4 then za4 row c1_0 c1_1 c1_2 c1_3 c1_4 c1_5 bs v40 c0_0 c0_1 c0_2 c0_3 else none
noncomputable abbrev za2 (bs : Rz) (v40 c1_0 c1_1 : Int) (c1_2 : Bz) (c1_3 c1_4 : Rz) (c1_5 c0_0 c0_1 : Int) (c0_2 : Bz) (c0_3 : Rz) : Option (AV) := kOpt (qyG bs (v40.toNat)) fun row => za3 row c1_0 c1_1 c1_2 c1_3 c1_4 c1_5 bs v40 c0_0 c0_1 c0_2 c0_3
noncomputable abbrev za1 (v40 : Int) (bs : Rz) (c1_0 c1_1 : Int) (c1_2 : Bz) (c1_3 c1_4 : Rz) (c1_5 c0_0 c0_1 : Int) (c0_2 : Bz) (c0_3 : Rz) : Option (AV) := bif qh 0 v40 && qg v40 (bs.length : Int) then za2 bs v40 c1_0 c1_1 c1_2 c1_3 c1_4 c1_5 c0_0 c0_1 c0_2 c0_3 else none
theorem qkL (bs : Rz) (v40 c0_0 c0_1 : Int) (c0_2 : Bz) (c0_3 : Rz) (c1_0 c1_1 : Int) (c1_2 : Bz) (c1_3 c1_4 : Rz) (c1_5 c2_0 c2_1 : Int) (c2_2 : Bz) (c2_3 : Rz) {P : AV → Prop} (h : Gets (bif decide (v40 < (bs.length : Int)) then za1 v40 bs c1_0 c1_1 c1_2 c1_3 c1_4 c1_5 c0_0 c0_1 c0_2 c0_3 else bif List.isEmpty c2_3 then some (AV.tup [.agg [.int .i64 c2_0, .int .i64 c2_1, .str c2_2, .sl []], .bool true]) else none) P) : Gets (qg2 bs v40 c0_0 c0_1 c0_2 c0_3 c1_0 c1_1 c1_2 c1_3 c1_4 c1_5 c2_0 c2_1 c2_2 c2_3) P :=
  gE (fun _ => qn (cfg := cfg) (f := 179) (rd := none) (bs := 0)) (by kernel_rfl) h
theorem qdV (self : Int) (sz off len : Nat) (v45 c0_0 c0_1 : Int) (c0_2 : Bz) (c0_3 : Rz) (c1_0 c1_1 : Int) (c1_2 : Bz) (c1_3 h2 : Rz) {P : AV → Prop} (h : Gets (bif decide (v45 < (↑ len : Int)) then bif qyW sz 6 && qh 0 v45 && qg v45 (↑ len : Int) then kOpt (qyG h2 (off + v45.toNat)) fun row => bif qyQ 6 (qyH row) then qa (qyM 6 row) fun c cs => kInt .i64 c fun n => qa cs fun c cs => kInt .i64 c fun n_1 => qa cs fun c cs => kStr c fun s => qa cs fun c cs => kSl c fun rows => qa cs fun c cs => kSl c fun rows_1 => qa cs fun c cs => kSl c fun rows_2 => kNil cs (kOpt (EVg (EV cfg) 179 [.agg [.int .i64 n, .int .i64 n_1, .str s, .sl rows, .sl rows_1, .sl rows_2], .agg [.int .i64 c0_0, .int .i64 c0_1, .str c0_2, .sl c0_3], .int .i64 self]) fun V => kTup V fun cs => qa cs fun c cs => kAgg c fun cs_1 => qa cs_1 fun c cs_2 => kInt .i64 c fun n => qa cs_2 fun c cs_3 => kInt .i64 c fun n_2 => qa cs_3 fun c cs_4 => kStr c fun s => qa cs_4 fun c cs_5 => kSl c fun rows => kNil cs_5 (qa cs fun c cs => qf c fun b => kNil cs (bif ! b then qdd self sz off len (IntKind.wrap .i64 (v45 + 1)) c0_0 c0_1 c0_2 c0_3 c1_0 c1_1 c1_2 c1_3 h2 else some (AV.tup [AV.int .i64 (IntKind.wrap .i64 (v45 + 1)), .agg [.int .i64 n, .int .i64 n_2, .str s, .sl rows], .int .i64 0])))) else none else none else some (AV.tup [AV.int .i64 0, .agg [.int .i64 0, .int .i64 0, .str [], .sl []], .int .i64 0])) P) : Gets (qdd self sz off len v45 c0_0 c0_1 c0_2 c0_3 c1_0 c1_1 c1_2 c1_3 h2) P :=
  gE (fun _ => qn (cfg := cfg) (f := 97) (rd := none) (bs := 0)) (by kernel_rfl) h
theorem qcG (bs rows : Rz) (v40 c0_0 c0_1 : Int) (c0_2 : Bz) (c0_3 : Rz) (c1_0 c1_1 : Int) (c1_2 : Bz) (c1_3 c1_4 : Rz) (c1_5 c2_0 c2_1 : Int) (c2_2 : Bz) {P : AV → Prop} (h : Gets (bif decide (v40 < (bs.length : Int)) then za1 v40 bs c1_0 c1_1 c1_2 c1_3 c1_4 c1_5 c0_0 c0_1 c0_2 c0_3 else some (AV.tup [.agg [.int .i64 c2_0, .int .i64 c2_1, .str c2_2, .sl rows], .bool true])) P) : Gets (qeb bs rows v40 c0_0 c0_1 c0_2 c0_3 c1_0 c1_1 c1_2 c1_3 c1_4 c1_5 c2_0 c2_1 c2_2) P :=
  gE (fun _ => qn (cfg := cfg) (f := 179) (rd := none) (bs := 0)) (by kernel_rfl) h
noncomputable def qvU : Den := evC cfg (EV cfg) 20 none 1 (sub (qe Tryz.f20) [1, 1, 0, 0])
noncomputable def qwa : Ex × List AV × AH → Option Unit := kAft (Cfg.keepOut cfg 20 2) (kRun cfg (EV cfg) (kfN cfg 6) 20 none 1 (quL cfg (Cfg.lift cfg 20 0) Tryz.f20.results.toList) ([.block 0]))
noncomputable def qpt : List AV × AH → Option Unit := fun p => kOpt (LOOP 1 (some [1, 2]) ([]) qvU p) qwa
noncomputable abbrev qfx (l : Rz) (v2 c1_0 c1_1 : Int) (c1_2 : Bz) : Option (Unit) := qpt  (((fx 21 [(1, .ptr 1 0 0), (2, .int .i64 v2)]) : List AV), ([.spl, .rows false 4 [[.int .i64 c1_0, .int .i64 c1_1, .str c1_2, .rsl 0 l]]] : AH))
noncomputable abbrev qlB (v2 c1_0 c1_1 : Int) (c1_2 : Bz) (c1_3 : Rz) : Option (Unit) := qpt  (((fx 21 [(1, .ptr 1 0 0), (2, .int .i64 v2)]) : List AV), ([.spl, .rows false 4 [[.int .i64 c1_0, .int .i64 c1_1, .str c1_2, .sl c1_3]]] : AH))
theorem qrR (k n : Int) (s : Bz) (l : Rz) {P : Unit → Prop} (h : Gets (qfx l 0 k n s) P) : Gets (EVz (EV cfg) 20 (AV.agg [AV.int IntKind.i64 k, AV.int IntKind.i64 n, AV.str s, AV.rsl (0 : Nat) l])) P :=
  gE (fun _ => funZ rfl rfl Tryz.func20 rfl) (by kernel_rfl) h
theorem qrS (k n : Int) (s : Bz) {P : Unit → Prop} (h : Gets (qlB 0 k n s []) P) : Gets (EVz (EV cfg) 20 (AV.agg [AV.int IntKind.i64 k, AV.int IntKind.i64 n, AV.str s, AV.sl []])) P :=
  gE (fun _ => funZ rfl rfl Tryz.func20 rfl) (by kernel_rfl) h
theorem qqY (kt nt : Int) (st : Bz) (lt : Rz) (ke ne : Int) (se : Bz) (le bd : Rz) (self : Int) {P : AV → Prop} (h : Gets (kOpt (EVf (EV cfg) 68 [.agg [.int .i64 ke, .int .i64 ne, .str se, .sl le, .sl bd, .int .i64 self]]) fun v => kTup v fun cs => qa cs fun c cs => kSl c fun rows => qa cs fun c cs => qf c fun b => kNil cs (bif ! b then some (AV.tup [.agg [.int .i64 0, .int .i64 (0 : Int), .str [], .sl []], .int .i64 2]) else kOpt (EVs (EV cfg) 69 [.agg [.int .i64 kt, .int .i64 nt, .str st, .sl lt], .sl rows]) fun v => kInt .i64 v fun n => bif n != 0 then some (AV.tup [.agg [.int .i64 0, .int .i64 0, .str [], .sl []], .int .i64 2]) else kOpt (EVd (EV cfg) 70 [.ptr 0 0 0, .agg [.int .i64 kt, .int .i64 nt, .str st, .sl lt]] 7 [[AV.int .i64 ke, .int .i64 ne, .str se, .sl le, .sl bd, .int .i64 self, .bool false]]) fun q => kTmV q.1 fun n n_1 s rows => (kOpt (qyG q.2 0) fun row => kOpt (qyG row 6) fun v => qf v fun b => bif b then some (AV.tup [.agg [.int .i64 0, .int .i64 0, .str [], .sl []], .int .i64 10]) else kOpt (EVg (EV cfg) 71 [.agg [.int .i64 n, .int .i64 n_1, .str s, .sl rows]]) fun V => kTmV V fun n n_2 s rows => (some (AV.tup [.agg [.int .i64 n, .int .i64 n_2, .str s, .sl rows], .int .i64 0]))))) P) : Gets (EVg (EV cfg) 17 [.agg [.int .i64 kt, .int .i64 nt, .str st, .sl lt], .agg [.int .i64 ke, .int .i64 ne, .str se, .sl le, .sl bd, .int .i64 self]]) P :=
  gE (fun _ => funR rfl rfl Tryz.func17 rfl) (by kernel_rfl) h
theorem qej (l : Rz) (v2 c1_0 c1_1 : Int) (c1_2 : Bz) {P : Unit → Prop} (h : Gets (bif decide (v2 < (l.length : Int)) then bif qh 0 v2 && qg v2 (l.length : Int) then kOpt (qyG l (v2.toNat)) fun row => bif qyW (qyH row) 4 then qa row fun c cs => kInt .i64 c fun n => qa cs fun c cs => kInt .i64 c fun n_1 => qa cs fun c cs => kStr c fun s => qa cs fun c cs => kSl c fun rows => kNil cs (kOpt (EVz (EV cfg) 20 (.agg [.int .i64 n, .int .i64 n_1, .str s, AV.rsl 0 rows])) fun x => kOpt (EVz (EV cfg) 20 (.agg [.int .i64 77, .int .i64 0, .str [], .sl []])) fun x => bif qh 0 v2 && qg v2 (l.length : Int) then kOpt (qyG l (v2.toNat)) fun row => bif qyW (qyH row) 4 then bif zm row && true then qfx l (IntKind.wrap .i64 (v2 + 1)) c1_0 c1_1 c1_2 else none else none else none) else none else none else some PUnit.unit) P) : Gets (qfx l v2 c1_0 c1_1 c1_2) P :=
  gE (fun _ => qn (cfg := cfg) (f := 20) (rd := none) (bs := 1)) (by kernel_rfl) h
theorem qkM (v2 c1_0 c1_1 : Int) (c1_2 : Bz) (c1_3 : Rz) {P : Unit → Prop} (h : Gets (bif decide (v2 < (c1_3.length : Int)) then bif qh 0 v2 && qg v2 (c1_3.length : Int) then kOpt (qyG c1_3 (v2.toNat)) fun row => bif qyW (qyH row) 4 then bif qyQ 4 (qyH row) then kTmC (qyM 4 row) fun n n s rows => none else none else none else none else some PUnit.unit) P) : Gets (qlB v2 c1_0 c1_1 c1_2 c1_3) P :=
  gE (fun _ => qn (cfg := cfg) (f := 20) (rd := none) (bs := 1)) (by kernel_rfl) h
end Go.Proofs.YtkgkjngbfdnoiaaGreat.R
end
section
namespace Go.Proofs.YtkgkjngbfdnoiaaGreat
open Go.Av
noncomputable def qvW : Den := evC cfg (EV cfg) 159 none 1 (sub (qe Tryz.f159) [1, 1, 1, 0, 1, 0, 0])
noncomputable def qwc : Ex × List AV × AH → Option (AV × List (List AV)) := kAft (Cfg.keepOut cfg 159 6) (kRun cfg (EV cfg) (kfN cfg 6) 159 none 1 (qqL cfg 1 (Cfg.lift cfg 159 0) Tryz.f159.results.toList) ([.block 0, .seq (sub (qe Tryz.f159) [1, 1, 1, 1])]))
noncomputable def qvH : List AV × AH → Option (AV × List (List AV)) := fun p => kOpt (LOOP 1 (some [1, 2, 3, 4, 18, 19, 20]) ([]) qvW p) qwc
noncomputable abbrev qfz (lt : Rz) (v20 c1_0 c1_1 : Int) (c1_2 : Bz) (c2_0 c2_1 : Int) (c2_2 : Bz) (c2_3 h3 : Rz) : Option (AV × List (List AV)) := qvH  (((fx 35 [(1, .ptr 0 0 0), (2, .ptr 1 0 0), (3, .ptr 2 0 0), (4, .ms 3 0 (qyY (lt.length : Int))), (18, .lsl lt), (19, .int .i64 (lt.length : Int)), (20, .int .i64 v20)]) : List AV), ([.rows false 1 [[.fn (Fn.func 159) [] [.ptr 0 0 0]]], .rows false 4 [[.int .i64 c1_0, .int .i64 c1_1, .str c1_2, .lsl lt]], .rows false 4 [[.int .i64 c2_0, .int .i64 c2_1, .str c2_2, .sl c2_3]], .rows true 4 h3] : AH))
theorem qjv (kt : Int) (nt : Int) (st : Bz) (lt : Rz) {P : AV → Prop} (h : Gets (kOpt (EVk (EV cfg) 159 [.agg [AV.int .i64 kt, .int .i64 nt, .str st, AV.lsl lt], .ptr 0 0 0] 1 [[AV.fn (Fn.func 159) [] [.ptr 0 0 0]]]) fun (q : AV) => kTmV q fun (n n_1 : Int) (s : List 
  UInt8) (rows : Rz) => (some (.agg [AV.int .i64 n, .int .i64 n_1, .str s, .sl rows]))) P) : Gets (EVf (EV cfg) 71 ([AV.agg [AV.int IntKind.i64 kt, AV.int IntKind.i64 nt, AV.str st, AV.lsl lt]] : List AV)) P :=
  Gets.ev (fun _ h => funF rfl rfl Tryz.func71 rfl h) (Gets.eq (by kernel_rfl) h)
theorem qoO (kt nt : Int) (st : Bz) (lt : Rz) {P : AV × List (List AV) → Prop} (h : Gets (bif (lt.length : Int) == 0 then bif AV.refsLt 0 (.agg [.int .i64 kt, .int .i64 nt, .str st, .sl []]) then some (.agg [.int .i64 kt, .int .i64 nt, .str st, .sl []], [[AV.fn (Fn.func 159) [] [.ptr 0 0 0]]]) else none else bif qh 0 (lt.length : Int) && qh (lt.length : Int) (lt.length : Int) && qh ((↑ (qyH lt) : Int) * 56) 140737488355328 && qh (lt.length : Int) 9223372036854775807 then qfz lt 0 kt nt st 0 0 [] [] (qzf (qyY (lt.length : Int)) [AV.int .i64 0, .int .i64 0, .str [], .nilS]) else none) P) : Gets (EVx (EV cfg) 159 [.agg [.int .i64 kt, .int .i64 nt, .str st, .lsl lt], .ptr 0 0 0] 1 [[(AV.fn (Fn.func 159) [] [AV.ptr 0 0 0])]]) P :=
  gE (fun _ => funX rfl rfl Tryz.func159 rfl) (by kernel_rfl) h
theorem qeq (lt : Rz) (v20 c1_0 c1_1 : Int) (c1_2 : Bz) (c2_0 c2_1 : Int) (c2_2 : Bz) (c2_3 h3 : Rz) {P : AV × List (List AV) → Prop} (h : Gets (bif decide (v20 < (lt.length : Int)) then bif qh 0 v20 && qg v20 (lt.length : Int) then kOpt (qyG lt (v20.toNat)) fun row => bif qyW (qyH row) 4 then bif qyQ 4 (qyH row) then kTmC (qyM 4 row) fun n n_1 s rows => (kOpt (EVk (EV cfg) 159 [.agg [.int .i64 n, .int .i64 n_1, .str s, AV.lsl rows], .ptr 0 0 0] 1 [[AV.fn (Fn.func 159) [] [.ptr 0 0 0]]]) fun q => kTmV q fun n n_2 s rows => (bif qh 0 v20 && qg v20 (↑ (qyY (lt.length : Int)) : Int) then kOpt (qyG h3 (0 + v20.toNat)) fun row => bif qyQ 4 (qyH row) then qfz lt (IntKind.wrap .i64 (v20 + 1)) c1_0 c1_1 c1_2 c2_0 c2_1 c2_2 c2_3 (List.set h3 (0 + v20.toNat) (.int .i64 n :: .int .i64 n_2 :: .str s :: .sl rows :: qzj 4 row)) else none else none)) else none else none else none else bif qyQ (0 + qyY (lt.length : Int)) (qyH h3) && true then some (.agg [.int .i64 c1_0, .int .i64 c1_1, .str c1_2, .sl (qyM (qyY (lt.length : Int)) h3)], [[AV.fn (Fn.func 159) [] [.ptr 0 0 0]]]) else none) P) : Gets (qfz lt v20 c1_0 c1_1 c1_2 c2_0 c2_1 c2_2 c2_3 h3) P :=
  gE (fun _ => qn (cfg := cfg) (f := 159) (rd := none) (bs := 1)) (by kernel_rfl) h
noncomputable def qxG : Den := evC cfg (EV cfg) 159 none 1 (sub (qe Tryz.f159) [1, 1, 1, 0, 1, 0, 0])
noncomputable def qyo : Ex × List AV × AH → Option (AV × List (List AV)) := kAft (Cfg.keepOut cfg 159 6) (kRun cfg (EV cfg) (kfN cfg 6) 159 none 1 (qqL cfg 1 (Cfg.lift cfg 159 0) Tryz.f159.results.toList) ([.block 0, .seq (sub (qe Tryz.f159) [1, 1, 1, 1])]))
noncomputable def qw3 : List AV × AH → Option (AV × List (List AV)) := fun p => kOpt (LOOP 1 (some [1, 2, 3, 4, 18, 19, 20]) ([]) qxG p) qyo
noncomputable def qxH : Den := evC cfg (EV cfg) 106 none 0 (sub (qe Tryz.f106) [1, 1, 1, 0, 1, 0, 0])
noncomputable def qyp : Ex × List AV × AH → Option AV := kAft (Cfg.keepOut cfg 106 5) (kRun cfg (EV cfg) (kfN cfg 6) 106 none 0 (vX cfg (Cfg.lift cfg 106 0) Tryz.f106.results.toList) ([.block 0, .seq (sub (qe Tryz.f106) [1, 1, 1, 1])]))
noncomputable def qw4 : List AV × AH → Option AV := fun p => kOpt (LOOP 0 (some [1, 2, 5, 6]) ([]) qxH p) qyp
noncomputable abbrev qhT (lt : Rz) (v20 c1_0 c1_1 : Int) (c1_2 : Bz) (c1_3 : Rz) (c2_0 c2_1 : Int) (c2_2 : Bz) (c2_3 h3 : Rz) : Option (AV × List (List AV)) := qw3  (((fx 35 [(1, .ptr 0 0 0), (2, .ptr 1 0 0), (3, .ptr 2 0 0), (4, .ms 3 0 (qyY (lt.length : Int))), (18, .sl lt), (19, .int .i64 (lt.length : Int)), (20, .int .i64 v20)]) : List AV), ([.rows false 1 [[.fn (Fn.func 159) [] [.ptr 0 0 0]]], .rows false 4 [[.int .i64 c1_0, .int .i64 c1_1, .str c1_2, .sl c1_3]], .rows false 4 [[.int .i64 c2_0, .int .i64 c2_1, .str c2_2, .sl c2_3]], .rows true 4 h3] : AH))
noncomputable abbrev qhU (most v5 v6 c0_0 c0_1 : Int) (c0_2 : Bz) (c0_3 : Rz) : Option (AV) := qw4  (((fx 43 [(1, .int .i64 most), (2, .ptr 0 0 0), (5, .int .i64 v5), (6, .int .i64 v6)]) : List AV), ([.rows false 4 [[.int .i64 c0_0, .int .i64 c0_1, .str c0_2, .sl c0_3]]] : AH))
theorem qkO (kt nt : Int) (st : Bz) (lt : Rz) {P : AV → Prop} (h : Gets (kOpt (EVk (EV cfg) 159 [.agg [.int .i64 kt, .int .i64 nt, .str st, .sl lt], .ptr 0 0 0] 1 [[AV.fn (Fn.func 159) [] [.ptr 0 0 0]]]) fun q => kTmV q fun n n_1 s rows => (some (.agg [.int .i64 n, .int .i64 n_1, .str s, .sl rows]))) P) : Gets (EVf (EV cfg) 71 [.agg [.int .i64 kt, .int .i64 nt, .str st, .sl lt]]) P :=
  gE (fun _ => funF rfl rfl Tryz.func71 rfl) (by kernel_rfl) h
theorem qq5 (kt nt : Int) (st : Bz) (lt : Rz) {P : AV × List (List AV) → Prop} (h : Gets (bif (lt.length : Int) == 0 then bif AV.refsLt 0 (.agg [.int .i64 kt, .int .i64 nt, .str st, .sl []]) then some (.agg [.int .i64 kt, .int .i64 nt, .str st, .sl []], [[AV.fn (Fn.func 159) [] [.ptr 0 0 0]]]) else none else bif qh 0 (lt.length : Int) && qh (lt.length : Int) (lt.length : Int) && qh ((↑ (qyH lt) : Int) * 56) 140737488355328 && qh (lt.length : Int) 9223372036854775807 then qhT lt 0 kt nt st lt 0 0 [] [] (qzf (qyY (lt.length : Int)) [.int .i64 0, .int .i64 0, .str [], .nilS]) else none) P) : Gets (EVx (EV cfg) 159 [.agg [.int .i64 kt, .int .i64 nt, .str st, .sl lt], .ptr 0 0 0] 1 [[(AV.fn (Fn.func 159) [] [AV.ptr 0 0 0])]]) P :=
  gE (fun _ => funX rfl rfl Tryz.func159 rfl) (by kernel_rfl) h
theorem qqC (kt nt : Int) (st : Bz) (lt : Rz) (most : Int) {P : AV → Prop} (h : Gets (kOpt (EVs (EV cfg) 106 [.agg [.int .i64 kt, .int .i64 nt, .str st, .sl lt], .int .i64 (IntKind.wrap .i64 (most + 1))]) fun v => kInt .i64 v fun n => some (.bool (decide (n > most)))) P) : Gets (EVs (EV cfg) 41 [.agg [.int .i64 kt, .int .i64 nt, .str st, .sl lt], .int .i64 most]) P :=
  gE (fun _ => funS rfl rfl Tryz.func41 rfl) (by kernel_rfl) h
theorem qgM (kt nt : Int) (st : Bz) (lt : Rz) (most : Int) {P : AV → Prop} (h : Gets (bif decide ((st.length : Int) > 100) then some (.int .i64 most) else bif decide ((lt.length : Int) > most) then some (.int .i64 most) else qhU most 1 0 kt nt st lt) P) : Gets (EVs (EV cfg) 106 [.agg [.int .i64 kt, .int .i64 nt, .str st, .sl lt], .int .i64 most]) P :=
  gE (fun _ => funS rfl rfl Tryz.func106 rfl) (by kernel_rfl) h
theorem qgq (lt : Rz) (v20 c1_0 c1_1 : Int) (c1_2 : Bz) (c1_3 : Rz) (c2_0 c2_1 : Int) (c2_2 : Bz) (c2_3 h3 : Rz) {P : AV × List (List AV) → Prop} (h : Gets (bif decide (v20 < (lt.length : Int)) then bif qh 0 v20 && qg v20 (lt.length : Int) then kOpt (qyG lt (v20.toNat)) fun row => bif qyW (qyH row) 4 then bif qyQ 4 (qyH row) then kTmC (qyM 4 row) fun n n_1 s rows => (kOpt (EVk (EV cfg) 159 [.agg [.int .i64 n, .int .i64 n_1, .str s, .sl rows], .ptr 0 0 0] 1 [[AV.fn (Fn.func 159) [] [.ptr 0 0 0]]]) fun q => kTmV q fun n n_2 s rows => (bif qh 0 v20 && qg v20 (↑ (qyY (lt.length : Int)) : Int) then kOpt (qyG h3 (0 + v20.toNat)) fun row => bif qyQ 4 (qyH row) then qhT lt (IntKind.wrap .i64 (v20 + 1)) c1_0 c1_1 c1_2 c1_3 c2_0 c2_1 c2_2 c2_3 (List.set h3 (0 + v20.toNat) (.int .i64 n :: .int .i64 n_2 :: .str s :: .sl rows :: qzj 4 row)) else none else none)) else none else none else none else bif qyQ (0 + qyY (lt.length : Int)) (qyH h3) && true then some (.agg [.int .i64 c1_0, .int .i64 c1_1, .str c1_2, .sl (qyM (qyY (lt.length : Int)) h3)], [[AV.fn (Fn.func 159) [] [.ptr 0 0 0]]]) else none) P) : Gets (qhT lt v20 c1_0 c1_1 c1_2 c1_3 c2_0 c2_1 c2_2 c2_3 h3) P :=
  gE (fun _ => qn (cfg := cfg) (f := 159) (rd := none) (bs := 1)) (by kernel_rfl) h
theorem qgr (most v5 v6 c0_0 c0_1 : Int) (c0_2 : Bz) (c0_3 : Rz) {P : AV → Prop} (h : Gets (bif decide (v6 < (c0_3.length : Int)) then bif decide (v5 < most) then bif qh 0 v6 && qg v6 (c0_3.length : Int) then kOpt (qyG c0_3 (qyY v6)) fun row => bif qyW (qyH row) 4 then bif qyQ 4 (qyH row) then kTmC (qyM 4 row) fun n n_1 s rows => (kOpt (EVs (EV cfg) 106 [.agg [.int .i64 n, .int .i64 n_1, .str s, .sl rows], .int .i64 (IntKind.wrap .i64 (most - v5))]) fun v => kInt .i64 v fun n => qhU most (IntKind.wrap .i64 (v5 + n)) (IntKind.wrap .i64 (v6 + 1)) c0_0 c0_1 c0_2 c0_3) else none else none else none else some (.int .i64 v5) else some (.int .i64 v5)) P) : Gets (qhU most v5 v6 c0_0 c0_1 c0_2 c0_3) P :=
  gE (fun _ => qn (cfg := cfg) (f := 106) (rd := none) (bs := 0)) (by kernel_rfl) h
end Go.Proofs.YtkgkjngbfdnoiaaGreat
end
section
namespace Go.Av
@[simp] theorem Tm.kind_mk (k n : Int) (s : List UInt8) (l : List Tm) : (Tm.mk k n s l).kind = k := rfl
@[simp] theorem Tm.num_mk (k n : Int) (s : List UInt8) (l : List Tm) : (Tm.mk k n s l).num = n := rfl
@[simp] theorem Tm.str_mk (k n : Int) (s : List UInt8) (l : List Tm) : (Tm.mk k n s l).str = s := rfl
@[simp] theorem Tm.subs_mk (k n : Int) (s : List UInt8) (l : List Tm) : (Tm.mk k n s l).subs = l := rfl
@[simp] theorem Tm.eta (t : Tm) : Tm.mk t.kind t.num t.str t.subs = t := by cases t; rfl
theorem Tm.cells_eq (t : Tm) : t.cells = [.int .i64 t.kind, .int .i64 t.num, .str t.str, .sl (qb t.subs)] := by cases t; rw [Tm.cells_mk]; rfl
@[simp] theorem cells_fold (k n : Int) (s : List UInt8) (l : List Tm) : [AV.int .i64 k, AV.int .i64 n, AV.str s, AV.sl (qb l)] = (Tm.mk k n s l).cells := (Tm.cells_mk k n s l).symm
@[simp] theorem cells_fold0 (k n : Int) (s : List UInt8) : [AV.int .i64 k, AV.int .i64 n, AV.str s, AV.sl []] = (Tm.mk k n s []).cells := by rw [Tm.cells_mk, qI]
@[simp] theorem agg_cells (t : Tm) : AV.agg t.cells = t.av := rfl
@[simp] theorem qry (t : Tm) : [t.cells] = qb [t] := by rw [qy, qI]
@[simp] theorem rowsT_cons' (t : Tm) (l : List Tm) : t.cells :: qb l = qb (t :: l) := (qy t l).symm
@[simp] theorem rowsT_append' (a b : List Tm) : qb a ++ qb b = qb (a ++ b) := (q8 a b).symm
@[simp] theorem rowsT_app (a b : List Tm) : qy4 (qb a) (qb b) = qb (a ++ b) := (q8 a b).symm
@[simp] theorem rowsT_take' (n : Nat) (a : List Tm) : (qb a).take n = qb (a.take n) := qpT n a
@[simp] theorem rowsT_drop' (n : Nat) (a : List Tm) : (qb a).drop n = qb (a.drop n) := qpU n a
@[simp] theorem rowsT_set' (l : List Tm) (i : Nat) (t : Tm) : (qb l).set i t.cells = qb (l.set i t) := qrx l i t
@[simp] theorem rowsT_get' (l : List Tm) (i : Nat) : (qb l)[i]? = (l[i]?).map Tm.cells := xx l i
@[simp] theorem rowsT_getElem (l : List Tm) (i : Nat) (h : i < (qb l).length) : (qb l)[i] = (l[i]'(by simpa using h)).cells := by
 have h1 := xx l i
 rw [qyI h, qyI (by simpa using h)] at h1
 exact Option.some.inj h1
@[simp] theorem kOpt_map {α β γ : Type} (o : Option β) (g : β → γ) (k : γ → Option α) : kOpt (o.map g) k = kOpt o fun x => k (g x) := by cases o <;> rfl
@[simp] theorem qi (t : Tm) : t.cells.length = 4 := by rw [Tm.cells_eq]; rfl
@[simp] theorem qp (t : Tm) : t.cells.take 4 = t.cells := by rw [Tm.cells_eq]; rfl
@[simp] theorem drop_cells (t : Tm) : t.cells.drop 4 = [] := by rw [Tm.cells_eq]; rfl
@[simp] theorem cells_0 (t : Tm) : t.cells[0]? = some (.int .i64 t.kind) := by rw [Tm.cells_eq]; rfl
@[simp] theorem cells_1 (t : Tm) : t.cells[1]? = some (.int .i64 t.num) := by rw [Tm.cells_eq]; rfl
@[simp] theorem cells_2 (t : Tm) : t.cells[2]? = some (.str t.str) := by rw [Tm.cells_eq]; rfl
@[simp] theorem cells_3 (t : Tm) : t.cells[3]? = some (.sl (qb t.subs)) := by rw [Tm.cells_eq]; rfl
@[simp] theorem refs_cells (n : Nat) (t : Tm) : qz n t.cells = true := by rw [Tm.cells_eq]; rfl
@[simp] theorem allCells_cells (t : Tm) : xu t.cells = true := by rw [Tm.cells_eq]; rfl
@[simp] theorem rowsT_free' (l : List Tm) : qL 0 (qb l) = true := qia l
@[simp] theorem zc (l : List Tm) : ve 4 (qb l) = true := by
 cases l with
 | nil => rw [qI]; rfl
 | cons t l => rw [qy, ve, qi]; rfl
@[simp] theorem qt {α : Type} (t : Tm) (k : Int → Int → List UInt8 → List (List AV) → Option α) : kTmC t.cells k = k t.kind t.num t.str (qb t.subs) := by rw [Tm.cells_eq]; rfl
@[simp] theorem qE {α : Type} (t : Tm) (k : Int → Int → List UInt8 → List (List AV) → Option α) : kTmV t.av k = k t.kind t.num t.str (qb t.subs) := by rw [Tm.av, Tm.cells_eq]; rfl
theorem qlz {i n : Nat} (h : i < n) (hn : n < 1099511627776) : IntKind.wrap .i64 ((i : Int) + 1) = (i : Int) + 1 := qM (by omega) (by omega)
@[simp] theorem cast_nn (q : Nat) : (0 ≤ (q : Int) + 1) = True := eq_true (by omega)
@[simp] theorem cast_le1 (q n : Nat) : ((q : Int) + 1 ≤ (n : Int)) = (q + 1 ≤ n) := propext (by omega)
@[simp] theorem cast_lt1 (q n : Nat) : ((q : Int) + 1 < (n : Int)) = (q + 1 < n) := propext (by omega)
@[simp] theorem cast_nn' (q : Nat) : (0 < (q : Int) + 1) = True := eq_true (by omega)
@[simp] theorem cast_ne0 (q : Nat) : ((q : Int) + 1 == 0) = false := by rw [beqD]; exact decide_eq_false (by omega)
@[simp] theorem cast_lt_s (q : Nat) : ((q : Int) < (q : Int) + 1) = True := eq_true (by omega)
@[simp] theorem cast_le_s (q : Nat) : ((q : Int) ≤ (q : Int) + 1) = True := eq_true (by omega)
theorem quF {n : Nat} (hn : n < 4398046511104) : IntKind.wrap .i64 (n : Int) = n := qM (by omega) (by omega)
def numC (a b : Int) : Int := if a < b then -1 else if b < a then 1 else 0
def strC (a b : List UInt8) : Int := if a = b then 0 else if Op.bytesLess a b then -1 else 1
mutual
def cmpT : Tm → Tm → Int
 | .mk k n s l, b =>
  if numC k b.kind ≠ 0 then numC k b.kind
  else if k = 1 ∨ k = 3 ∨ k = 4 ∨ k = 6 then numC n b.num
  else if k = 2 then strC s b.str
  else if k = 5 then (if numC n b.num ≠ 0 then numC n b.num else if numC l.length b.subs.length ≠ 0 then numC l.length b.subs.length else cmpE l b.subs)
  else if k = 7 ∨ k = 9 then (if numC l.length b.subs.length ≠ 0 then numC l.length b.subs.length else cmpE l b.subs)
  else 0
def cmpE : List Tm → List Tm → Int
 | [], [] => 0
 | [], _ :: _ => -1
 | _ :: _, [] => 1
 | a :: l, b :: l' => if cmpT a b ≠ 0 then cmpT a b else cmpE l l'
end
def cmpL (l l' : List Tm) : Int := if numC l.length l'.length ≠ 0 then numC l.length l'.length else cmpE l l'
theorem qkt {a b : Int} : numC a b = 0 ↔ a = b := by unfold numC; split <;> (try split) <;> omega
theorem qrW (a : Int) : numC a a = 0 := qkt.2 rfl
theorem qpl (k n : Int) (s : List UInt8) (l : List Tm) (k' n' : Int) (s' : List UInt8) (l' : List Tm) : cmpT (.mk k n s l) (.mk k' n' s' l') =
  if numC k k' ≠ 0 then numC k k' else if k = 1 ∨ k = 3 ∨ k = 4 ∨ k = 6 then numC n n' else if k = 2 then strC s s'
  else if k = 5 then (if numC n n' ≠ 0 then numC n n' else cmpL l l') else if k = 7 ∨ k = 9 then cmpL l l' else 0 := by
 rw [cmpT]; rfl
theorem qce (a b : Tm) (l l' : List Tm) : cmpE (a :: l) (b :: l') = if cmpT a b ≠ 0 then cmpT a b else cmpE l l' := by rw [cmpE]
theorem qhi : cmpE [] [] = 0 := by rw [cmpE]
theorem qlf (b : Tm) (l' : List Tm) : cmpE [] (b :: l') = -1 := by rw [cmpE]
theorem qlg (a : Tm) (l : List Tm) : cmpE (a :: l) [] = 1 := by rw [cmpE]
theorem qbQ : ∀ a : List UInt8, Op.bytesLess a a = false
 | [] => rfl
 | a :: l => by rw [Op.bytesLess, qbQ l]; simp
def C3 (p q r : Int) : Prop := (p ≤ 0 → q ≤ 0 → r ≤ 0) ∧ (p < 0 → q ≤ 0 → r < 0) ∧ (p ≤ 0 → q < 0 → r < 0) ∧ (0 ≤ p → 0 ≤ q → 0 ≤ r) ∧ (0 < p → 0 ≤ q → 0 < r) ∧ (0 ≤ p → 0 < q → 0 < r)
def xS (k n : Int) (s : List UInt8) (m : Nat) : Bool :=
 if k = 1 then decide (-576460752303423488 ≤ n) && (decide (n ≤ 576460752303423487) && (decide (s = []) && decide (m = 0)))
 else if k = 2 then decide (n = 0) && (decide (s.length ≤ 64) && decide (m = 0))
 else if k = 3 then decide (0 ≤ n) && (decide (n ≤ 1073741824) && (decide (s = []) && decide (m = 0)))
 else if k = 4 then decide (0 ≤ n) && (decide (n ≤ 1073741824) && (decide (s = []) && decide (m = 0)))
 else if k = 6 then decide (0 ≤ n) && (decide (n ≤ 1073741824) && (decide (s = []) && decide (m = 0)))
 else if k = 5 then decide (0 ≤ n) && (decide (n ≤ 1073741824) && (decide (s = []) && decide (m ≤ 64)))
 else if k = 7 then decide (n = 0) && (decide (s = []) && decide (m ≤ 64))
 else if k = 8 then decide (n = 0) && (decide (s = []) && decide (m = 0))
 else if k = 9 then decide (n = 0) && (decide (s = []) && decide (m = 2))
 else false
def Tm.sound (t : Tm) : Bool := xS t.kind t.num t.str t.subs.length
def Tm.own (t : Tm) : Nat := if t.kind = 7 ∨ t.kind = 5 then 2 else 1
theorem vC (a b : Bool) : (bif a then some (AV.bool b) else some (AV.bool false)) = some (.bool (a && b)) := by cases a <;> rfl
theorem qsx (s : List UInt8) : (s == []) = decide (s = []) := by cases s <;> simp
theorem beqI (a b : Int) : (a == b) = decide (a = b) := by simp [beqD]
mutual
/-- may all parts of a term be? -/
def Tm.parts : Tm → Bool
 | .mk k n s l => xS k n s l.length && vn l
def vn : List Tm → Bool
 | [] => true
 | t :: l => t.parts && vn l
end
mutual
/-- how many words all parts have -/
def Tm.words : Tm → Nat
 | .mk k n s l => (Tm.mk k n s l).own + qU l
def qU : List Tm → Nat
 | [] => 0
 | t :: l => t.words + qU l
end
theorem Tm.parts_eq (t : Tm) : t.parts = (t.sound && vn t.subs) := by cases t; rw [Tm.parts]; rfl
theorem Tm.words_eq (t : Tm) : t.words = t.own + qU t.subs := by cases t; rw [Tm.words]; rfl
theorem qa3 (a b : List Tm) : vn (a ++ b) = (vn a && vn b) := by
 induction a with
 | nil => simp [vn]
 | cons x l ih => simp [vn, ih, Bool.and_assoc]
theorem qa0 (a b : List Tm) : qU (a ++ b) = qU a + qU b := by
 induction a with
 | nil => simp [qU]
 | cons x l ih => simp [qU, ih]; omega
theorem qql (a : List Tm) : vn a.reverse = vn a := by
 induction a with
 | nil => rfl
 | cons x l ih => simp [qa3, vn, ih, Bool.and_comm]
theorem qpF (a : List Tm) : qU a.reverse = qU a := by
 induction a with
 | nil => rfl
 | cons x l ih => simp [qa0, qU, ih]; omega
theorem Tm.own_le (t : Tm) : t.own ≤ 2 ∧ 1 ≤ t.own := by unfold Tm.own; split <;> omega
theorem qsX (t : Tm) : t.words ≤ 2 * t.w := by
 induction t using Tm.ind with
 | _ k n s l ih =>
  have h1 : qU l ≤ 2 * wL l := by
   clear n s
   induction l with
   | nil => simp [qU]
   | cons x l ih2 =>
    have := ih x (by simp)
    have := ih2 (fun t ht => ih t (by simp [ht]))
    simp [qU]; omega
  have := (Tm.mk k n s l).own_le
  rw [Tm.words, Tm.w_mk]; omega
def chkS (R : List Tm) (wd : Nat) : Int := if vn R then (if 65536 < wd + qU R then 3 else 0) else 2
def Tm.chk (t : Tm) : Int := chkS [t] 0
theorem qtQ {R : List Tm} {x : Tm} {wd : Nat} (h : x.sound = false) : chkS (R ++ [x]) wd = 2 := by
 unfold chkS
 rw [qa3]
 simp [vn, Tm.parts_eq, h]
theorem qkJ {R : List Tm} {x : Tm} {wd : Nat} (h : x.sound = true) : chkS (R ++ x.subs.reverse) (wd + x.own) = chkS (R ++ [x]) wd := by
 unfold chkS
 simp only [qa3, qql, qa0, qpF, vn, qU, Tm.parts_eq, Tm.words_eq, h, qzg, Bool.and_true]
 have : wd + x.own + (qU R + qU x.subs) = wd + (qU R + (x.own + qU x.subs + 0)) := by omega
 rw [this]
def qch (p : Prop) (v : AV) : Prop := ∃ b : Bool, v = .bool b ∧ (b = true ↔ p)
theorem xH {p : Prop} {b : Bool} : qch p (.bool b) ↔ (b = true ↔ p) := ⟨fun ⟨_, h1, h2⟩ => by cases h1; exact h2, fun h => ⟨b, rfl, h⟩⟩
end Go.Av
namespace Go.Proofs.YtkgkjngbfdnoiaaGreat
open Go.Av
theorem yb {n : Nat} (h : n ≤ 1099511627776) : qN n 56 = true := by
 unfold qN
 rw [qyK, qy9, qy9]
 omega
theorem qj (t : Tm) : (AV.agg [.int .i64 t.kind, .int .i64 t.num, .str t.str, .sl (qb t.subs)]) = t.av := by rw [Tm.av, Tm.cells_eq]
def xQ : List (List AV) := [[AV.fn (Fn.func 159) [] [AV.ptr 0 0 0]]]
theorem qsp (t : Tm) : t.Ok → EVx (EV cfg) 159 [t.av, .ptr 0 0 0] 1 xQ = some (t.av, xQ) := by
 induction t using Tm.ind with
 | _ k n s l ih =>
  intro hok
  have hlen := hok.len
  have loop : ∀ (d i : Nat), i + d = l.length → Gets (qhT (qb l) i k n s (qb l) 0 0 [] [] (qb (l.take i) ++ qzf d [.int .i64 0, .int .i64 0, .str [], .nilS])) (· = ((Tm.mk k n s l).av, xQ)) := by
   intro d
   induction d with
   | zero =>
    intro i hi
    refine qgq _ _ _ _ _ _ _ _ _ _ _ ?_
    obtain rfl : i = l.length := by omega
    have e : l.take l.length = l := qyP (qyN _)
    rw [e]
    simp
    rfl
   | succ d ihd =>
    intro i hi
    refine qgq _ _ _ _ _ _ _ _ _ _ _ ?_
    have hil : i < l.length := by omega
    have hx : l[i]? = some l[i] := qyI hil
    have hxl := qyR hx
    have hix := qjp (ih l[i] hxl (hok.sub hxl))
    have hih := ihd (i + 1) (by omega)
    have hw := qlz hil hlen
    have e1 : l.take (i + 1) = l.take i ++ [l[i]] := by rw [List.take_add_one, hx]; rfl
    have ht : (qb (l.take i)).length = i := by rw [qd, qzb]; omega
    have g : (qb (l.take i) ++ qzf (d + 1) [AV.int .i64 0, .int .i64 0, .str [], .nilS])[i]? = some [AV.int .i64 0, .int .i64 0, .str [], .nilS] := by
     rw [qyZ (by omega), ht, Nat.sub_self]; rfl
    have g2 : (qb (l.take i) ++ qzf (d + 1) [AV.int .i64 0, .int .i64 0, .str [], .nilS]).set i l[i].cells = qb (l.take (i + 1)) ++ qzf d [AV.int .i64 0, .int .i64 0, .str [], .nilS] := by
     rw [List.set_append_right _ _ (by omega), e1, q8, qy, qI]
     have e3 : i - (qb (l.take i)).length = 0 := by omega
     rw [e3, List.replicate_succ, List.set_cons_zero, List.append_assoc]; rfl
    simp only [xQ] at hix
    simp [hil, hx, hix, g, hw]
    rw [g2]
    simpa using hih
  apply Gets.get
  rw [Tm.av_mk]
  refine qq5 _ _ _ _ ?_
  rw [qd]
  by_cases hl : l.length = 0
  ·have : l = [] := List.length_eq_zero_iff.1 hl
   subst this
   simp [xQ, AV.refsLt, qz]
  ·have hl' : ((l.length : Int) == 0) = false := by rw [beqD]; exact decide_eq_false (by omega)
   have h56 : qh ((l.length : Int) * 56) 140737488355328 = true := by simp [qh]; omega
   have hm : qh (l.length : Int) 9223372036854775807 = true := by simp [qh]; omega
   have hz : qh 0 (l.length : Int) = true := qw _
   have hs : qh (l.length : Int) (l.length : Int) = true := by simp [qh]
   rw [hl', h56, hm, hz, hs]
   have := loop l.length 0 (by omega)
   rw [Tm.av_mk] at this
   simpa using this
theorem qpi {t : Tm} (h : t.Ok) : EVf (EV cfg) 71 [t.av] = some t.av := by
 have h1 := qjp (qsp t h)
 obtain ⟨k, n, s, l⟩ := t
 rw [Tm.av_mk] at h1 ⊢
 apply Gets.get
 refine qkO _ _ _ _ ?_
 simp only [xQ] at h1
 rw [h1]
 simp [← Tm.av_mk]
def avL (t : Tm) : AV := .agg [.int .i64 t.kind, .int .i64 t.num, .str t.str, .lsl (qb t.subs)]
theorem qnc (k n : Int) (s : List UInt8) (l : List Tm) : avL (Tm.mk k n s l) = .agg [.int .i64 k, .int .i64 n, .str s, .lsl (qb l)] := rfl
theorem qq6 (t : Tm) : t.Ok → EVx (EV cfg) 159 [avL t, .ptr 0 0 0] 1 xQ = some (t.av, xQ) := by
 induction t using Tm.ind with
 | _ k n s l ih =>
  intro hok
  have hlen := hok.len
  have loop : ∀ (d i : Nat), i + d = l.length → Gets (qfz (qb l) i k n s 0 0 [] [] (qb (l.take i) ++ qzf d [.int .i64 0, .int .i64 0, .str [], .nilS])) (· = ((Tm.mk k n s l).av, xQ)) := by
   intro d
   induction d with
   | zero =>
    intro i hi
    refine qeq _ _ _ _ _ _ _ _ _ _ ?_
    obtain rfl : i = l.length := by omega
    have e : l.take l.length = l := qyP (qyN _)
    rw [e]
    simp
    rfl
   | succ d ihd =>
    intro i hi
    refine qeq _ _ _ _ _ _ _ _ _ _ ?_
    have hil : i < l.length := by omega
    have hx : l[i]? = some l[i] := qyI hil
    have hxl := qyR hx
    have hix := qjp (ih l[i] hxl (hok.sub hxl))
    have hih := ihd (i + 1) (by omega)
    have hw := qlz hil hlen
    have e1 : l.take (i + 1) = l.take i ++ [l[i]] := by rw [List.take_add_one, hx]; rfl
    have ht : (qb (l.take i)).length = i := by rw [qd, qzb]; omega
    have g : (qb (l.take i) ++ qzf (d + 1) [AV.int .i64 0, .int .i64 0, .str [], .nilS])[i]? = some [AV.int .i64 0, .int .i64 0, .str [], .nilS] := by
     rw [qyZ (by omega), ht, Nat.sub_self]; rfl
    have g2 : (qb (l.take i) ++ qzf (d + 1) [AV.int .i64 0, .int .i64 0, .str [], .nilS]).set i l[i].cells = qb (l.take (i + 1)) ++ qzf d [AV.int .i64 0, .int .i64 0, .str [], .nilS] := by
     rw [List.set_append_right _ _ (by omega), e1, q8, qy, qI]
     have e3 : i - (qb (l.take i)).length = 0 := by omega
     rw [e3, List.replicate_succ, List.set_cons_zero, List.append_assoc]; rfl
    simp only [xQ, avL] at hix
    simp [hil, hx, hix, g, hw]
    rw [g2]
    simpa using hih
  apply Gets.get
  rw [Tm.av_mk, qnc]
  refine qoO _ _ _ _ ?_
  rw [qd]
  by_cases hl : l.length = 0
  ·have : l = [] := List.length_eq_zero_iff.1 hl
   subst this
   simp [xQ, AV.refsLt, qz]
  ·have hl' : ((l.length : Int) == 0) = false := by rw [beqD]; exact decide_eq_false (by omega)
   have h56 : qh ((l.length : Int) * 56) 140737488355328 = true := by simp [qh]; omega
   have hm : qh (l.length : Int) 9223372036854775807 = true := by simp [qh]; omega
   have hz : qh 0 (l.length : Int) = true := qw _
   have hs : qh (l.length : Int) (l.length : Int) = true := by simp [qh]
   rw [hl', h56, hm, hz, hs]
   have := loop l.length 0 (by omega)
   rw [Tm.av_mk] at this
   simpa using this
theorem qtM {t : Tm} (h : t.Ok) : EVf (EV cfg) 71 [avL t] = some t.av := by
 have h1 := qjp (qq6 t h)
 obtain ⟨k, n, s, l⟩ := t
 rw [Tm.av_mk, qnc] at h1 ⊢
 apply Gets.get
 refine qjv _ _ _ _ ?_
 simp only [xQ] at h1
 rw [h1]
 simp [← Tm.av_mk]
def avR (id : Nat) (t : Tm) : AV := .agg [.int .i64 t.kind, .int .i64 t.num, .str t.str, .rsl id (qb t.subs)]
theorem qrB {L : Lent} {C : qu} {μ : MMap} (l : List Tm) (ih : ∀ t ∈ l, ∀ v, @Rep L C μ (.sl (qb t.subs)) v → Rep0 C (.sl (qb t.subs)) v) {v : Value} (h : @Rep L C μ (.sl (qb l)) v) : Rep0 C (.sl (qb l)) v := by
 generalize hR : qb l = R at h
 cases h with
 | slNil => exact .slNil
 | sl _ a cap sz vals hs hsz hc hr hcell hcap hfree =>
  refine .sl R a cap sz vals hs hsz hc (fun i j row x h1 h2 => ?_) hcell hcap hfree
  have hrep := hr i j row x h1 h2
  rw [← hR, xx] at h1
  cases hl : l[i]? with
  | none => rw [hl] at h1; cases h1
  | some t =>
   rw [hl] at h1
   cases h1
   obtain ⟨k, n, s, l'⟩ := t
   rw [Tm.cells_mk] at h2
   match j, h2 with
   | 0, h2 => cases h2; generalize vals i 0 = u at hrep ⊢; cases hrep; exact .int _ _
   | 1, h2 => cases h2; generalize vals i 1 = u at hrep ⊢; cases hrep; exact .int _ _
   | 2, h2 => cases h2; generalize vals i 2 = u at hrep ⊢; cases hrep; exact .str _
   | 3, h2 => cases h2; exact ih _ (qyR hl) _ hrep
   | j + 4, h2 => simp at h2
theorem qo8 {L : Lent} {C : qu} {μ : MMap} (t : Tm) : ∀ v, @Rep L C μ (.sl (qb t.subs)) v → Rep0 C (.sl (qb t.subs)) v := by
 induction t using Tm.ind with
 | _ k n s l ih => exact fun v h => qrB l ih h
theorem Rep0.claims {D D' : qu} {a : AV} {v : Value} (hD : ∀ b o v, D b o = some v → D' b o = some v) (h : Rep0 D a v) : Rep0 D' a v := by
 induction h with
 | int k n => exact .int k n
 | bool b => exact .bool b
 | str s => exact .str s
 | nilS => exact .nilS
 | slNil => exact .slNil
 | em a cap => exact .em a cap
 | sl rows a cap sz vals hs hsz hc _ hcell hcap hfree ih => exact .sl rows a cap sz vals hs hsz (fun i j row x h1 h2 => hD _ _ _ (hc i j row x h1 h2)) ih hcell hcap hfree
@[reducible] def yB (L : Lent) (C : qu) : Lent := ⟨fun b o => match C b o with | some v => some v | none => L.l b o, True⟩
theorem qpS {D : qu} {l : List Tm} {v : Value} (h : Rep0 D (.sl (qb l)) v) (hl : qb l ≠ []) : ∃ b o, D b o ≠ none := by
 generalize hR : qb l = R at h
 cases h with
 | slNil => exact absurd hR hl
 | sl _ a cap sz vals hs hsz hc hr hcell hcap hfree =>
  cases l with
  | nil => exact absurd (by rw [qb]) hl
  | cons t l =>
   obtain ⟨k, n, s, l'⟩ := t
   have h1 : R[0]? = some [.int .i64 k, .int .i64 n, .str s, .sl (qb l')] := by rw [← hR, xx]; exact congrArg some (Tm.cells_mk k n s l')
   exact ⟨_, _, by rw [hc 0 0 _ _ h1 rfl]; simp⟩
theorem qvY {cf : Orac} {f : Nat} {al : List AV} {v : AV} (h : EVf cf f al = some v) : ∃ r H, cf (.f f) al [] = some (r, H) ∧ (r.frz r.msIds H).fg = v := by
 unfold EVf at h
 cases hc : cf (.f f) al [] with
 | none => rw [hc] at h; cases h
 | some q => rw [hc] at h; exact ⟨q.1, q.2, rfl, Option.some.inj h⟩
theorem qr6 [Lent] (hu : Lent.u) {f : FuncId} {al : List AV} {k n : Int} {s : List UInt8} {l : List Tm} (he : EVf (EV cfg) f al = some (Tm.mk k n s l).av) {w : World} {vs : Array Value} (hw : Wld (fun _ => fun _ => none) (fun _ => none) [] w) (ha : qF (fun _ => fun _ => none) (fun _ => none) al vs) :
  vD Tryz.prog (callFunc f vs) w (fun v w1 => ∃ (D : qu) (v3 : Value), v = .agg [.int .i64 k, .int .i64 n, .string ⟨s.toArray⟩, v3].toArray ∧ Rep0 D (.sl (qb l)) v3 ∧ (∀ b o u, D b o = some u → w1.cell? ⟨b, o, none⟩ = some u ∧ w1.frozen? ⟨b, o, none⟩ = false ∧ w.heap.size ≤ b) ∧
   (∀ b, b < w.heap.size → w1.heap[b]? = w.heap[b]?) ∧ w.heap.size ≤ w1.heap.size ∧ w1.os = w.os ∧ w1.tape = w.tape ∧ w1.output = w.output) := by
 have he2 := qvY he
 clear he
 obtain ⟨qr, qH, hq, hqe⟩ := he2
 have hO := qbT qc5
 have hcall := hO.calls _ _ _ _ _ hq (fun _ => fun _ => none) (fun _ => none) w vs _ ha hw rfl
 refine hcall.mono fun v w1 ⟨C2, μ2, e1, e2, e3⟩ => ?_
 obtain ⟨C3, a1, a2, a3⟩ := xz qr.msIds e2
 have x := e3.trans (a3 0 (Nat.zero_le _)) (qyN _)
 have r1 : Rep C3 μ2 (Tm.mk k n s l).av v := by
  rw [← hqe]
  exact ((e1.mono a1 (fun _ _ h => h)).frzA (xV.of a2)).fgA
 rw [Tm.av_mk] at r1
 cases r1 with
 | agg _ us hl hh =>
 match us, hl, hh with
 | [u0, u1, u2, u3], _, hh =>
 have h0 : Rep0 C3 (.sl (qb l)) u3 := qo8 (.mk k n s l) u3 (hh 3 _ _ rfl rfl)
 have q0 := hh 0 _ _ rfl rfl
 have q1 := hh 1 _ _ rfl rfl
 have q2 := hh 2 _ _ rfl rfl
 cases q0; cases q1; cases q2
 refine ⟨C3, u3, rfl, h0, fun b o u h => ⟨a2.cl b o u h, a2.lnt.2 hu b o u h, ?_⟩, fun b hb => (x.fr b hb vS).1, x.size, x.os, x.tape, x.output⟩
 rcases Nat.lt_or_ge b w.heap.size with hb | hb
 ·have h5 := (x.fr b hb vS).2.2
  rw [h5] at h; cases h
 ·exact hb
theorem qs9 [L : Lent] {f : FuncId} {al : List AV} {t : Tm} (he : EVf (EV cfg) f al = some t.av) {C : qu} {w : World} {vs : Array Value} (hw : Wld C (fun _ => none) [] w) (ha' : @qF (yB L C) (fun _ => fun _ => none) (fun _ => none) al vs) :
  vD Tryz.prog (callFunc f vs) w (xn C (fun _ => none) [] w (avR 0 t) [.reg]) := by
 have hlent : ∀ b o v, (yB L C).l b o = some v → w.cell? ⟨b, o, none⟩ = some v := fun b o v h => by
  have h : (match C b o with | some v => some v | none => L.l b o) = some v := h
  split at h
  ·rename_i u hu; cases h; exact hw.cl _ _ _ hu
  ·exact hw.lnt.1 _ _ _ h
 have hw' : @Wld (yB L C) (fun _ => fun _ => none) (fun _ => none) [] w :=
  @Wld.mk (yB L C) _ _ _ _ (fun b o v h => (nomatch h)) (fun id m hm => (nomatch hm)) (fun id hi => rfl) (fun id blk h1 => (by simp at h1)) (fun id d sz rs h1 => (by simp at h1)) (fun i i' b b' m m' h1 => (by simp at h1)) y9.nil ⟨hlent, fun _ b o v h => (nomatch h)⟩
 obtain ⟨k, n, s, l⟩ := t
 refine (@qr6 (yB L C) trivial _ _ _ _ _ _ he _ _ hw' ha').mono fun v w1 ⟨C3, u3, hv, h0, hD, old, hsz, hos, htp, hou⟩ => ?_
 subst hv
 have hw1 : Wld C (fun _ => none) [] w1 := hw.world hsz old
 have fin : ∀ μ' : MMap, (qb l ≠ [] → ∃ m, μ' 0 = some m ∧ m.D = C3) → Rep C μ' (avR 0 (.mk k n s l)) (.agg [.int .i64 k, .int .i64 n, .string ⟨s.toArray⟩, u3].toArray) := by
  intro μ' hm
  refine Rep.agg _ [.int .i64 k, .int .i64 n, .string ⟨s.toArray⟩, u3] rfl (fun i a v h1 h2 => ?_)
  match i, h1, h2 with
  | 0, h1, h2 => cases h1; cases h2; exact .int _ _
  | 1, h1, h2 => cases h1; cases h2; exact .int _ _
  | 2, h1, h2 => cases h1; cases h2; exact .str _
  | 3, h1, h2 => cases h1; cases h2; exact .rsl 0 _ _ C3 hm h0
  | i + 4, h1, h2 => simp at h1
 by_cases hex : ∃ b o, C3 b o ≠ none
 ·obtain ⟨b0, o0, hb0⟩ := hex
  have hhas : ∀ b, (MI.mk b0 0 0 0 C3).has b → ∃ o u, C3 b o = some u := by
   rintro b (h | ⟨o, h⟩)
   ·have : b0 = b := h
    subst this
    cases hc : C3 b0 o0 with
    | none => exact absurd hc hb0
    | some u => exact ⟨o0, u, hc⟩
   ·cases hc : C3 b o with
    | none => exact absurd hc h
    | some u => exact ⟨o, u, hc⟩
  have hge : ∀ b, (MI.mk b0 0 0 0 C3).has b → w.heap.size ≤ b := fun b hb => by
   obtain ⟨o, u, hc⟩ := hhas b hb
   exact (hD b o u hc).2.2
  have hlt : ∀ b, (MI.mk b0 0 0 0 C3).has b → b < w1.heap.size := fun b hb => by
   obtain ⟨o, u, hc⟩ := hhas b hb
   exact World.block_lt_of_cell? w1 ⟨b, o, none⟩ ((hD b o u hc).1)
  obtain ⟨n1, n2, n3, n4, n5⟩ := hw1.new (nid := none) (k := 0) (H' := [.reg]) (blk := .reg) (m := MI.mk b0 0 0 0 C3) rfl (fun b hb => vS) hlt
   (fun b hb o => by
    cases hc : C b o with
    | none => rfl
    | some u => have h5 := hw.block_lt hc; have h6 := hge b hb; omega)
   (fun b hb => hw.lent_none (hge b hb)) rfl (fun b o u hd => ⟨(hD b o u hd).1, (hD b o u hd).2.1⟩)
  refine ⟨C, _, fin _ (fun _ => ⟨_, by unfold upd; rw [if_pos rfl], rfl⟩), n1, ⟨hos, htp, hou, hsz, fun _ _ _ h => h, fun id m _ hm => (nomatch hm), fun b hb hnl => ⟨old b hb, fun hl => ?_, rfl⟩, Nat.zero_le _⟩⟩
  rcases n4 b hl with h | h
  ·exact vS h
  ·have := hge b h; omega
 ·obtain ⟨n1, n2⟩ := hw1.newV (nid := none) (k := 0) (H' := [.reg]) (blk := .reg) rfl rfl rfl trivial
  have n3 := n2 0 (Nat.zero_le _)
  refine ⟨C, _, fin (fun _ => none) (fun hne => absurd (qpS h0 hne) hex), n1, ⟨hos, htp, hou, hsz, fun _ _ _ h => h, fun id m _ hm => (nomatch hm), fun b hb hnl => ⟨old b hb, fun hl => ?_, rfl⟩, Nat.zero_le _⟩⟩
  obtain ⟨i, bi, mi, h1, h2, h3, h4⟩ := hl
  cases h3
theorem qtK [L : Lent] {t : Tm} (hok : t.Ok) {C : qu} {w : World} {vs : Array Value} (hw : Wld C (fun _ => none) [] w) (ha : qF C (fun _ => none) [t.av] vs) :
  vD Tryz.prog (callFunc 71 vs) w (xn C (fun _ => none) [] w (avR 0 t) [.reg]) := by
 have ha' : @qF (yB L C) (fun _ => fun _ => none) (fun _ => none) [avL t] vs := by
  obtain ⟨h1, h2⟩ := ha
  refine ⟨by simpa using h1, fun i a v hi hv => ?_⟩
  match i, hi with
  | 0, hi =>
   cases hi
   have h3 := h2 0 t.av v rfl hv
   obtain ⟨k, n, s, l⟩ := t
   rw [Tm.av_mk] at h3
   rw [qnc]
   cases h3 with
   | agg _ us hl hh =>
    refine @Rep.agg (yB L C) _ _ _ us hl (fun i a v h1 h2 => ?_)
    match i, h1 with
    | 0, h1 => cases h1; have h4 := hh 0 _ v rfl h2; cases h4; exact @Rep.int (yB L C) _ _ _ _
    | 1, h1 => cases h1; have h4 := hh 1 _ v rfl h2; cases h4; exact @Rep.int (yB L C) _ _ _ _
    | 2, h1 => cases h1; have h4 := hh 2 _ v rfl h2; cases h4; exact @Rep.str (yB L C) _ _ _
    | 3, h1 =>
     cases h1
     have h4 := hh 3 _ v rfl h2
     exact @Rep.lsl (yB L C) _ _ _ _ (Rep0.claims (fun b o v h => by show (match C b o with | some v => some v | none => L.l b o) = some v; rw [h]) (qo8 (.mk k n s l) v h4))
    | i + 4, h1 => simp at h1
  | i + 1, hi => simp at hi
 exact qs9 (f := 71) (al := [avL t]) (qtM hok) hw ha'
noncomputable def qw7 : Den := evC cfg (EV cfg) 246 none 0 (sub (qe Tryz.f246) [1, 1, 0, 0, 0])
noncomputable def qxP : Ex × List AV × AH → Option AV := kAft (Cfg.keepOut cfg 246 2) (kRun cfg (EV cfg) (kfN cfg 6) 246 none 0 (vX cfg (Cfg.lift cfg 246 0) Tryz.f246.results.toList) ([.block 0, .seq (sub (qe Tryz.f246) [1, 1, 1])]))
noncomputable def qwA : List AV × AH → Option AV := fun p => kOpt (LOOP 0 (some [1, 4]) ([]) qw7 p) qxP
noncomputable def qxa : Den := evC cfg (EV cfg) 165 none 0 (sub (qe Tryz.f165) [1, 1, 0, 1, 0, 0])
noncomputable def qxS : Ex × List AV × AH → Option AV := kAft (Cfg.keepOut cfg 165 3) (kRun cfg (EV cfg) (kfN cfg 6) 165 none 0 (vp cfg (Cfg.lift cfg 165 0) Tryz.f165.results.toList) ([.block 0, .seq (sub (qe Tryz.f165) [1, 1, 1])]))
noncomputable def qwD : List AV × AH → Option AV := fun p => kOpt (LOOP 0 (some [0, 2, 3, 4]) ([]) qxa p) qxS
noncomputable def qw9 : Den := evC cfg (EV cfg) 166 none 0 (sub (qe Tryz.f166) [1, 1, 0, 1, 0, 0])
noncomputable def qxR : Ex × List AV × AH → Option AV := kAft (Cfg.keepOut cfg 166 3) (kRun cfg (EV cfg) (kfN cfg 6) 166 none 0 (vp cfg (Cfg.lift cfg 166 0) Tryz.f166.results.toList) ([.block 0, .seq (sub (qe Tryz.f166) [1, 1, 1])]))
noncomputable def qwC : List AV × AH → Option AV := fun p => kOpt (LOOP 0 (some [0, 3, 6, 7]) ([(6, 4)]) qw9 p) qxR
noncomputable def qxd : Den := evC cfg (EV cfg) 75 none 0 (sub (qe Tryz.f75) [1, 1, 1, 0, 0, 1, 1, 1, 0, 1, 0, 1, 0, 0])
noncomputable def qxV : Ex × List AV × AH → Option AV := kAft (Cfg.keepOut cfg 75 9) (kRun cfg (EV cfg) (kfN cfg 6) 75 none 0 (vp cfg (Cfg.lift cfg 75 0) Tryz.f75.results.toList) ([.block 1, .seq (sub (qe Tryz.f75) [1, 1, 1, 0, 0, 1, 1, 1, 0, 1, 1]), .block 0, .seq (sub (qe Tryz.f75) [1, 1, 1, 1])]))
noncomputable def qwG : List AV × AH → Option AV := fun p => kOpt (LOOP 0 (some [3, 4, 8, 9]) ([(8, 4)]) qxd p) qxV
noncomputable def qxe : Den := evC cfg (EV cfg) 74 none 0 (sub (qe Tryz.f74) [1, 1, 0, 1, 0, 0])
noncomputable def qxW : Ex × List AV × AH → Option AV := kAft (Cfg.keepOut cfg 74 3) (kRun cfg (EV cfg) (kfN cfg 6) 74 none 0 (vp cfg (Cfg.lift cfg 74 0) Tryz.f74.results.toList) ([.block 0, .seq (sub (qe Tryz.f74) [1, 1, 1])]))
noncomputable def qwH : List AV × AH → Option AV := fun p => kOpt (LOOP 0 (some [0, 3, 4]) ([(3, 1)]) qxe p) qxW
noncomputable def qxf : Den := evC cfg (EV cfg) 183 none 0 (sub (qe Tryz.f183) [1, 0, 1, 0, 0])
noncomputable def qxX : Ex × List AV × AH → Option AV := kAft (Cfg.keepOut cfg 183 2) (kRun cfg (EV cfg) (kfN cfg 6) 183 none 0 (vX cfg (Cfg.lift cfg 183 0) Tryz.f183.results.toList) ([.block 0, .seq (sub (qe Tryz.f183) [1, 1])]))
noncomputable def qwI : List AV × AH → Option AV := fun p => kOpt (LOOP 0 (some [0, 3, 5]) ([]) qxf p) qxX
noncomputable def qw8 : Den := evC cfg (EV cfg) 236 none 0 (sub (qe Tryz.f236) [1, 0, 1, 0, 0])
noncomputable def qxQ : Ex × List AV × AH → Option AV := kAft (Cfg.keepOut cfg 236 2) (kRun cfg (EV cfg) (kfN cfg 6) 236 none 0 (vp cfg (Cfg.lift cfg 236 0) Tryz.f236.results.toList) ([.block 0, .seq (sub (qe Tryz.f236) [1, 1])]))
noncomputable def qwB : List AV × AH → Option AV := fun p => kOpt (LOOP 0 (some [0, 1, 4, 6]) ([]) qw8 p) qxQ
noncomputable def qxb : Den := evC cfg (EV cfg) 160 none 0 (sub (qe Tryz.f160) [1, 0, 1, 0, 0])
noncomputable def qxT : Ex × List AV × AH → Option AV := kAft (Cfg.keepOut cfg 160 2) (kRun cfg (EV cfg) (kfN cfg 6) 160 none 0 (vX cfg (Cfg.lift cfg 160 0) Tryz.f160.results.toList) ([.block 0, .seq (sub (qe Tryz.f160) [1, 1])]))
noncomputable def qwE : List AV × AH → Option AV := fun p => kOpt (LOOP 0 (some [0, 3]) ([]) qxb p) qxT
noncomputable def qxc : Den := evC cfg (EV cfg) 76 none 0 (sub (qe Tryz.f76) [1, 1, 0, 1, 0, 0])
noncomputable def qxU : Ex × List AV × AH → Option AV := kAft (Cfg.keepOut cfg 76 3) (kRun cfg (EV cfg) (kfN cfg 6) 76 none 0 (vp cfg (Cfg.lift cfg 76 0) Tryz.f76.results.toList) ([.block 0, .seq (sub (qe Tryz.f76) [1, 1, 1])]))
noncomputable def qwF : List AV × AH → Option AV := fun p => kOpt (LOOP 0 (some [1, 2, 3, 4]) ([(3, 4)]) qxc p) qxU
noncomputable def qvJ : Den := evC cfg (EV cfg) 229 none 0 (sub (qe Tryz.f229) [1, 1, 0, 1, 0, 0])
noncomputable def qvZ : Ex × List AV × AH → Option AV := kAft (Cfg.keepOut cfg 229 3) (kRun cfg (EV cfg) (kfN cfg 6) 229 none 0 (vX cfg (Cfg.lift cfg 229 0) Tryz.f229.results.toList) ([.block 0, .seq (sub (qe Tryz.f229) [1, 1, 1])]))
noncomputable def qvx : List AV × AH → Option AV := fun p => kOpt (LOOP 0 (some [0, 1, 5, 6]) ([]) qvJ p) qvZ
noncomputable abbrev qht (v4 c0_0 c0_1 : Int) (c0_2 : Bz) (c0_3 : Rz) : Option (AV) := qwA  (((fx 18 [(1, .ptr 0 0 0), (4, .int .i64 v4)]) : List AV), ([.rows false 4 [[.int .i64 c0_0, .int .i64 c0_1, .str c0_2, .sl c0_3]]] : AH))
noncomputable abbrev qhw (L : Rz) (v4 c0_0 c0_1 : Int) (c0_2 : Bz) (c0_3 : Rz) (c1_0 c1_1 : Int) (c1_2 : Bz) (c1_3 : Rz) : Option (AV) := qwD  (((fx 21 [(0, .sl L), (2, .ptr 0 0 0), (3, .ptr 1 0 0), (4, .int .i64 v4)]) : List AV), ([.rows false 4 [[.int .i64 c0_0, .int .i64 c0_1, .str c0_2, .sl c0_3]], .rows false 4 [[.int .i64 c1_0, .int .i64 c1_1, .str c1_2, .sl c1_3]]] : AH))
noncomputable abbrev qhv (L : Rz) (nv6 : Nat) (v7 c0_0 c0_1 : Int) (c0_2 : Bz) (c0_3 c0_4 : Rz) (c0_5 : Int) (h1 : Rz) : Option (AV) := qwC  (((fx 32 [(0, .sl L), (3, .ptr 0 0 0), (6, .ms 1 0 nv6), (7, .int .i64 v7)]) : List AV), ([.rows false 6 [[.int .i64 c0_0, .int .i64 c0_1, .str c0_2, .sl c0_3, .sl c0_4, .int .i64 c0_5]], .rows true 4 h1] : AH))
noncomputable abbrev qcE (nv8 : Nat) (v9 c0_0 c0_1 : Int) (c0_2 : Bz) (c0_3 c0_4 : Rz) (c0_5 c1_0 c1_1 : Int) (c1_2 : Bz) (c1_3 h2 : Rz) : Option (AV) := qwG  (((fx 159 [(3, .ptr 0 0 0), (4, .ptr 1 0 0), (8, .ms 2 0 nv8), (9, .int .i64 v9)]) : List AV), ([.rows false 6 [[.int .i64 c0_0, .int .i64 c0_1, .str c0_2, .sl c0_3, .sl c0_4, .int .i64 c0_5]], .rows false 4 [[.int .i64 c1_0, .int .i64 c1_1, .str c1_2, .sl c1_3]], .rows true 4 h2] : AH))
noncomputable abbrev qhy (bd : Rz) (nv3 : Nat) (v4 : Int) (h0 : Rz) : Option (AV) := qwH  (((fx 20 [(0, .sl bd), (3, .ms 0 0 nv3), (4, .int .i64 v4)]) : List AV), ([.rows true 1 h0] : AH))
noncomputable abbrev qhz (L : Rz) (v5 c0_0 c0_1 : Int) (c0_2 : Bz) (c0_3 c0_4 : Rz) (c0_5 : Int) : Option (AV) := qwI  (((fx 37 [(0, .sl L), (3, .ptr 0 0 0), (5, .int .i64 v5)]) : List AV), ([.rows false 6 [[.int .i64 c0_0, .int .i64 c0_1, .str c0_2, .sl c0_3, .sl c0_4, .int .i64 c0_5]]] : AH))
noncomputable abbrev qhu (bd : Rz) (n v6 c0_0 c0_1 : Int) (c0_2 : Bz) (c0_3 : Rz) : Option (AV) := qwB  (((fx 26 [(0, .sl bd), (1, .int .i64 n), (4, .ptr 0 0 0), (6, .int .i64 v6)]) : List AV), ([.rows false 4 [[.int .i64 c0_0, .int .i64 c0_1, .str c0_2, .sl c0_3]]] : AH))
noncomputable abbrev qd7 (bd : Rz) (v3 : Int) : Option (AV) := qwE  (((fx 51 [(0, .sl bd), (3, .int .i64 v3)]) : List AV), ([] : AH))
noncomputable abbrev qhx (nv3 : Nat) (v4 c0_0 c0_1 : Int) (c0_2 : Bz) (c0_3 : Rz) (c1_0 c1_1 : Int) (c1_2 : Bz) (c1_3 h2 : Rz) : Option (AV) := qwF  (((fx 24 [(1, .ptr 0 0 0), (2, .ptr 1 0 0), (3, .ms 2 0 nv3), (4, .int .i64 v4)]) : List AV), ([.rows false 4 [[.int .i64 c0_0, .int .i64 c0_1, .str c0_2, .sl c0_3]], .rows false 4 [[.int .i64 c1_0, .int .i64 c1_1, .str c1_2, .sl c1_3]], .rows true 4 h2] : AH))
noncomputable abbrev qcF (A B : Rz) (v5 v6 : Int) : Option (AV) := qvx  (((fx 32 [(0, .sl A), (1, .sl B), (5, .int .i64 v5), (6, .int .i64 v6)]) : List AV), ([] : AH))
theorem ql8 (b : Bool) {P : AV → Prop} (h : Gets (bif b then some (.agg [.int .i64 2, .int .i64 0, .str [(116 : UInt8), (114 : UInt8), (117 : UInt8), (101 : UInt8)], .sl []]) else some (.agg [.int .i64 2, .int .i64 0, .str [(102 : UInt8), (97 : UInt8), (108 : UInt8), (115 : UInt8), (101 : UInt8)], .sl []])) P) : Gets (EVf (EV cfg) 245 [.bool b]) P :=
  gE (fun _ => funF rfl rfl Tryz.func245 rfl) (by kernel_rfl) h
theorem qkV (kt nt : Int) (st : Bz) (lt : Rz) {P : AV → Prop} (h : Gets (bif kt != 2 then some (AV.tup [.bool false, .bool false]) else bif ! st == [(116 : UInt8), (114 : UInt8), (117 : UInt8), (101 : UInt8)] then bif ! st == [(102 : UInt8), (97 : UInt8), (108 : UInt8), (115 : UInt8), (101 : UInt8)] then some (AV.tup [.bool false, .bool false]) else some (AV.tup [.bool (st == [(116 : UInt8), (114 : UInt8), (117 : UInt8), (101 : UInt8)]), .bool true]) else some (AV.tup [.bool (st == [(116 : UInt8), (114 : UInt8), (117 : UInt8), (101 : UInt8)]), .bool true])) P) : Gets (EVs (EV cfg) 237 [.agg [.int .i64 kt, .int .i64 nt, .str st, .sl lt]]) P :=
  gE (fun _ => funS rfl rfl Tryz.func237 rfl) (by kernel_rfl) h
noncomputable abbrev ze0  : Option (AV) := some (AV.tup [.agg [.int .i64 0, .int .i64 0, .str [], .sl []], .bool false])
theorem qkT (n : Int) {P : AV → Prop} (h : Gets (bif decide (n < (- 576460752303423488)) then ze0 else bif decide (n > (576460752303423487 : Int)) then ze0 else some (AV.tup [.agg [.int .i64 1, .int .i64 n, .str [], .sl []], .bool true])) P) : Gets (EVf (EV cfg) 247 [.int .i64 n]) P :=
  gE (fun _ => funF rfl rfl Tryz.func247 rfl) (by kernel_rfl) h
noncomputable abbrev ze17 (n n_1 : Int) (s : Bz) (rows : Rz) (b : Bool) : Option (AV) := some (AV.tup [.agg [.int .i64 n, .int .i64 n_1, .str s, .sl rows], .bool b])
noncomputable abbrev ze16 (cs : List AV) (n n_1 : Int) (s : Bz) (rows : Rz) (b : Bool) : Option (AV) := kNil cs (ze17 n n_1 s rows b)
noncomputable abbrev ze15 (c : AV) (cs : List AV) (n n_1 : Int) (s : Bz) (rows : Rz) : Option (AV) := qf c fun b => ze16 cs n n_1 s rows b
noncomputable abbrev ze14 (cs : List AV) (n n_1 : Int) (s : Bz) (rows : Rz) : Option (AV) := qa cs fun c cs => ze15 c cs n n_1 s rows
noncomputable abbrev ze13 (cs_5 cs : List AV) (n n_1 : Int) (s : Bz) (rows : Rz) : Option (AV) := kNil cs_5 (ze14 cs n n_1 s rows)
noncomputable abbrev ze12 (c : AV) (cs_5 cs : List AV) (n n_1 : Int) (s : Bz) : Option (AV) := kSl c fun rows => ze13 cs_5 cs n n_1 s rows
noncomputable abbrev ze11 (cs_4 cs : List AV) (n n_1 : Int) (s : Bz) : Option (AV) := qa cs_4 fun c cs_5 => ze12 c cs_5 cs n n_1 s
noncomputable abbrev ze10 (c : AV) (cs_4 cs : List AV) (n n_1 : Int) : Option (AV) := kStr c fun s => ze11 cs_4 cs n n_1 s
noncomputable abbrev ze9 (cs_3 cs : List AV) (n n_1 : Int) : Option (AV) := qa cs_3 fun c cs_4 => ze10 c cs_4 cs n n_1
noncomputable abbrev ze8 (c : AV) (cs_3 cs : List AV) (n : Int) : Option (AV) := kInt .i64 c fun n_1 => ze9 cs_3 cs n n_1
noncomputable abbrev ze7 (cs_2 cs : List AV) (n : Int) : Option (AV) := qa cs_2 fun c cs_3 => ze8 c cs_3 cs n
noncomputable abbrev ze6 (c : AV) (cs_2 cs : List AV) : Option (AV) := kInt .i64 c fun n => ze7 cs_2 cs n
noncomputable abbrev ze5 (cs_1 cs : List AV) : Option (AV) := qa cs_1 fun c cs_2 => ze6 c cs_2 cs
noncomputable abbrev ze4 (c : AV) (cs : List AV) : Option (AV) := kAgg c fun cs_1 => ze5 cs_1 cs
noncomputable abbrev ze3 (cs : List AV) : Option (AV) := qa cs fun c cs => ze4 c cs
noncomputable abbrev ze2 (v : AV) : Option (AV) := kTup v fun cs => ze3 cs
noncomputable abbrev ze1  : Option (AV) := kOpt (EVf (EV cfg) 247 [AV.int .i64 0]) fun v => ze2 v
noncomputable abbrev ze23 (a b : Int) : Option (AV) := kOpt (EVf (EV cfg) 247 [AV.int .i64 (IntKind.wrap .i64 (a * b))]) fun v => ze2 v
noncomputable abbrev ze22 (a n b : Int) : Option (AV) := bif decide (a < n) then ze0 else ze23 a b
noncomputable abbrev ze21 (v : AV) (a b : Int) : Option (AV) := kInt .i64 v fun n => ze22 a n b
noncomputable abbrev ze20 (b a : Int) : Option (AV) := kOpt (qA (Op.intDiv BinOp.quo .i64 (- 576460752303423488) b)) fun v => ze21 v a b
noncomputable abbrev ze19 (b a : Int) : Option (AV) := bif decide (b > 0) then ze20 b a else ze23 a b
noncomputable abbrev ze18 (a b : Int) : Option (AV) := bif decide (a < 0) then ze19 b a else ze23 a b
noncomputable abbrev ze29  : Option (AV) := some (AV.tup [.agg [.int .i64 (0 : Int), .int .i64 0, .str [], .sl []], .bool false])
noncomputable abbrev ze28 (a n b : Int) : Option (AV) := bif decide (a < n) then ze29 else ze23 a b
noncomputable abbrev ze27 (v : AV) (a b : Int) : Option (AV) := kInt .i64 v fun n => ze28 a n b
noncomputable abbrev ze26 (b a : Int) : Option (AV) := kOpt (qA (Op.intDiv BinOp.quo .i64 (- 576460752303423488) b)) fun v => ze27 v a b
noncomputable abbrev ze25 (b a : Int) : Option (AV) := bif decide (b > 0) then ze26 b a else ze23 a b
noncomputable abbrev ze24 (a b : Int) : Option (AV) := bif decide (a < 0) then ze25 b a else ze23 a b
noncomputable abbrev ze34 (b n a : Int) : Option (AV) := bif decide (b < n) then ze0 else ze18 a b
noncomputable abbrev ze33 (v : AV) (b a : Int) : Option (AV) := kInt .i64 v fun n => ze34 b n a
noncomputable abbrev ze32 (a b : Int) : Option (AV) := kOpt (qA (Op.intDiv BinOp.quo .i64 (- 576460752303423488) a)) fun v => ze33 v b a
noncomputable abbrev ze31 (b a : Int) : Option (AV) := bif decide (b < 0) then ze32 a b else ze18 a b
noncomputable abbrev ze30 (a b : Int) : Option (AV) := bif decide (a > 0) then ze31 b a else ze18 a b
noncomputable abbrev ze37 (b a : Int) : Option (AV) := kOpt (qA (Op.intDiv BinOp.quo .i64 (- 576460752303423488 : Int) b)) fun v => ze21 v a b
noncomputable abbrev ze36 (b a : Int) : Option (AV) := bif decide (b > 0) then ze37 b a else ze23 a b
noncomputable abbrev ze35 (a b : Int) : Option (AV) := bif decide (a < 0) then ze36 b a else ze23 a b
theorem qjC (a b : Int) {P : AV → Prop} (h : Gets (bif a == 0 then ze1 else bif b == 0 then ze1 else bif decide (a > 0) then bif decide (b > 0) then kOpt (qA (Op.intDiv BinOp.quo .i64 576460752303423487 b)) fun v => kInt .i64 v fun n => bif decide (a > n) then ze0 else bif decide (a < 0) then bif decide (b < 0) then kOpt (qA (Op.intDiv BinOp.quo .i64 576460752303423487 b)) fun v => kInt .i64 v fun n => bif decide (a < n) then ze0 else bif decide (a > 0) then bif decide (b < 0) then kOpt (qA (Op.intDiv BinOp.quo .i64 (- 576460752303423488) a)) fun v => kInt .i64 v fun n => bif decide (b < n) then some (AV.tup [.agg [.int .i64 0, .int .i64 (0 : Int), .str [], .sl []], .bool false]) else ze18 a b else ze24 a b else ze18 a b else ze30 a b else bif decide (a > 0) then bif decide (b < 0) then kOpt (qA (Op.intDiv BinOp.quo .i64 (- 576460752303423488 : Int) a)) fun v => ze33 v b a else ze18 a b else ze18 a b else bif decide (a < 0) then bif decide (b < 0) then kOpt (qA (Op.intDiv BinOp.quo .i64 576460752303423487 b)) fun v => kInt .i64 v fun n => bif decide (a < n) then ze0 else bif decide (a > 0) then ze31 b a else ze35 a b else bif decide (a > 0) then bif decide (b < 0) then kOpt (qA (Op.intDiv BinOp.quo .i64 (- 576460752303423488) a)) fun v => kInt .i64 v fun n => bif decide (b < n) then ze0 else ze35 a b else ze18 a b else ze18 a b else bif decide (a > 0) then bif decide (b < 0) then ze32 a b else ze24 a b else ze18 a b else bif decide (a < 0) then bif decide (b < 0) then kOpt (qA (Op.intDiv BinOp.quo .i64 576460752303423487 b)) fun v => kInt .i64 v fun n => bif decide (a < n) then ze0 else ze30 a b else bif decide (a > 0) then bif decide (b < 0) then kOpt (qA (Op.intDiv BinOp.quo .i64 (- 576460752303423488) a)) fun v => kInt .i64 v fun n => bif decide (b < n) then ze0 else ze24 a b else ze18 a b else ze18 a b else bif decide (a > (0 : Int)) then ze31 b a else ze35 a b) P) : Gets (EVf (EV cfg) 296 [.int .i64 a, .int .i64 b]) P :=
  gE (fun _ => funF rfl rfl Tryz.func296 rfl) (by kernel_rfl) h
theorem qmb (op : Bz) (kt nt : Int) (st : Bz) (lt : Rz) {P : AV → Prop} (h : Gets (bif op == [(105 : UInt8), (115 : UInt8), (95 : UInt8), (97 : UInt8), (116 : UInt8), (111 : UInt8), (109 : UInt8)] then some (.bool (kt == 2)) else bif op == [(105 : UInt8), (115 : UInt8), (95 : UInt8), (105 : UInt8), (110 : UInt8), (116 : UInt8), (101 : UInt8), (103 : UInt8), (101 : UInt8), (114 : UInt8)] then some (.bool (kt == 1)) else bif op == [(105 : UInt8), (115 : UInt8), (95 : UInt8), (108 : UInt8), (105 : UInt8), (115 : UInt8), (116 : UInt8)] then bif kt == 9 then some (.bool true) else some (.bool (kt == (8 : Int))) else bif op == [(105 : UInt8), (115 : UInt8), (95 : UInt8), (116 : UInt8), (117 : UInt8), (112 : UInt8), (108 : UInt8), (101 : UInt8)] then some (.bool (kt == 7)) else bif op == [(105 : UInt8), (115 : UInt8), (95 : UInt8), (112 : UInt8), (105 : UInt8), (100 : UInt8)] then some (.bool (kt == 6)) else bif op == [(105 : UInt8), (115 : UInt8), (95 : UInt8), (102 : UInt8), (117 : UInt8), (110 : UInt8), (99 : UInt8), (116 : UInt8), (105 : UInt8), (111 : UInt8), (110 : UInt8)] then some (.bool (kt == 5)) else bif kt == 3 then some (.bool true) else some (.bool (kt == 4))) P) : Gets (EVs (EV cfg) 248 [.str op, .agg [.int .i64 kt, .int .i64 nt, .str st, .sl lt]]) P :=
  gE (fun _ => funS rfl rfl Tryz.func248 rfl) (by kernel_rfl) h
theorem qkY (kt nt : Int) (st : Bz) (lt : Rz) {P : AV → Prop} (h : Gets (qht 0 kt nt st lt) P) : Gets (EVs (EV cfg) 246 [.agg [.int .i64 kt, .int .i64 nt, .str st, .sl lt]]) P :=
  gE (fun _ => funS rfl rfl Tryz.func246 rfl) (by kernel_rfl) h
noncomputable abbrev ze42 (n n_1 : Int) (s : Bz) (rows : Rz) : Option (AV) := (some (AV.tup [.agg [.int .i64 n, .int .i64 n_1, .str s, .sl rows], .bool true]))
noncomputable abbrev ze41 (row : List AV) : Option (AV) := kTmC (qyM 4 row) fun n n_1 s rows => ze42 n n_1 s rows
noncomputable abbrev ze40 (row : List AV) : Option (AV) := bif qyQ 4 (qyH row) then ze41 row else none
noncomputable abbrev ze39 (row : List AV) : Option (AV) := bif qyW (qyH row) 4 then ze40 row else none
noncomputable abbrev ze38 (lt : Rz) : Option (AV) := kOpt (qyG lt 0) fun row => ze39 row
noncomputable abbrev ze43 (lt : Rz) : Option (AV) := kOpt (qyG lt 1) fun row => ze39 row
noncomputable abbrev ze46 (nt : Int) : Option (AV) := kOpt (EVf (EV cfg) 247 [AV.int .i64 (IntKind.wrap .i64 ((- 1) - nt))]) fun v => ze2 v
noncomputable abbrev ze48 (nt : Int) : Option (AV) := kOpt (EVf (EV cfg) 247 [AV.int .i64 (IntKind.wrap .i64 (0 - nt))]) fun v => ze2 v
noncomputable abbrev ze51 (kt nt : Int) (st : Bz) (lt : Rz) : Option (AV) := some (AV.tup [.agg [.int .i64 kt, .int .i64 nt, .str st, .sl lt], .bool true])
noncomputable abbrev ze50 (nt kt : Int) (st : Bz) (lt : Rz) : Option (AV) := bif decide (nt < 0) then ze48 nt else ze51 kt nt st lt
noncomputable abbrev ze49 (op : Bz) (nt kt : Int) (st : Bz) (lt : Rz) : Option (AV) := bif op == [(97 : UInt8), (98 : UInt8), (115 : UInt8)] then ze50 nt kt st lt else ze51 kt nt st lt
noncomputable abbrev ze47 (op : Bz) (nt kt : Int) (st : Bz) (lt : Rz) : Option (AV) := bif op == [(45 : UInt8)] then ze48 nt else ze49 op nt kt st lt
noncomputable abbrev ze45 (op : Bz) (nt kt : Int) (st : Bz) (lt : Rz) : Option (AV) := bif op == [(98 : UInt8), (110 : UInt8), (111 : UInt8), (116 : UInt8)] then ze46 nt else ze47 op nt kt st lt
noncomputable abbrev ze44 (kt : Int) (op : Bz) (nt : Int) (st : Bz) (lt : Rz) : Option (AV) := bif kt != 1 then ze0 else ze45 op nt kt st lt
noncomputable abbrev ze54 (v : AV) : Option (AV) := kTmV v fun n n_1 s rows => ze42 n n_1 s rows
noncomputable abbrev ze53 (b : Bool) : Option (AV) := kOpt (EVf (EV cfg) 245 [.bool b]) fun v => ze54 v
noncomputable abbrev ze52 (v : AV) : Option (AV) := qf v fun b => ze53 b
theorem qp0 (op : Bz) (kt nt : Int) (st : Bz) (lt : Rz) {P : AV → Prop} (h : Gets (bif op == [(110 : UInt8), (111 : UInt8), (116 : UInt8)] then kOpt (EVs (EV cfg) 237 [.agg [.int .i64 kt, .int .i64 nt, .str st, .sl lt]]) fun v => kTup v fun cs => qa cs fun c cs => qf c fun b => qa cs fun c cs => qf c fun b_1 => kNil cs (kOpt (EVf (EV cfg) 245 [.bool ! b]) fun v => kTmV v fun n n_1 s rows => (some (AV.tup [.agg [.int .i64 n, .int .i64 n_1, .str s, .sl rows], .bool b_1]))) else bif op == [(116 : UInt8), (117 : UInt8), (112 : UInt8), (108 : UInt8), (101 : UInt8), (95 : UInt8), (115 : UInt8), (105 : UInt8), (122 : UInt8), (101 : UInt8)] then some (AV.tup [.agg [.int .i64 (1 : Int), .int .i64 (lt.length : Int), .str [], .sl []], .bool (kt == 7)]) else bif op == [(115 : UInt8), (105 : UInt8), (122 : UInt8), (101 : UInt8)] then some (AV.tup [.agg [.int .i64 1, .int .i64 (lt.length : Int), .str [], .sl []], .bool (kt == 7)]) else bif op == [(104 : UInt8), (100 : UInt8)] then bif kt != 9 then ze0 else bif op == [(104 : UInt8), (100 : UInt8)] then bif qg 0 (↑ (qyH lt) : Int) then ze38 lt else none else bif qg 1 (↑ (qyH lt) : Int) then ze43 lt else none else bif op == [(116 : UInt8), (108 : UInt8)] then bif kt != 9 then ze0 else bif op == [(104 : UInt8), (100 : UInt8)] then bif qg 0 (lt.length : Int) then ze38 lt else none else bif qg 1 (lt.length : Int) then ze43 lt else none else bif op == [(108 : UInt8), (101 : UInt8), (110 : UInt8), (103 : UInt8), (116 : UInt8), (104 : UInt8)] then kOpt (EVs (EV cfg) 246 [.agg [.int .i64 kt, .int .i64 nt, .str st, .sl lt]]) fun v => kTup v fun cs => qa cs fun c cs => kInt .i64 c fun n => qa cs fun c cs => qf c fun b => kNil cs (some (AV.tup [.agg [.int .i64 1, .int .i64 n, .str [], .sl []], .bool b])) else bif op == [(98 : UInt8), (110 : UInt8), (111 : UInt8), (116 : UInt8)] then ze44 kt op nt st lt else bif op == [(97 : UInt8), (98 : UInt8), (115 : UInt8)] then ze44 kt op nt st lt else bif op == [(43 : UInt8)] then bif kt != 1 then ze0 else bif op == [(98 : UInt8), (110 : UInt8), (111 : UInt8), (116 : UInt8)] then ze46 nt else bif op == [(45 : UInt8)] then ze48 nt else bif op == [(97 : UInt8), (98 : UInt8), (115 : UInt8)] then bif decide (nt < 0) then kOpt (EVf (EV cfg) 247 [AV.int .i64 (IntKind.wrap .i64 ((0 : Int) - nt))]) fun v => ze2 v else ze51 kt nt st lt else ze51 kt nt st lt else bif op == [(45 : UInt8)] then ze44 kt op nt st lt else kOpt (EVs (EV cfg) 248 [.str op, .agg [.int .i64 kt, .int .i64 nt, .str st, .sl lt]]) fun v => ze52 v) P) : Gets (EVf (EV cfg) 177 [.str op, .agg [.int .i64 kt, .int .i64 nt, .str st, .sl lt]]) P :=
  gE (fun _ => funF rfl rfl Tryz.func177 rfl) (by kernel_rfl) h
theorem qij (op : Bz) (c : Int) {P : AV → Prop} (h : Gets (bif op == [(61 : UInt8), (61 : UInt8)] then some (.bool (c == 0)) else bif op == [(61 : UInt8), (58 : UInt8), (61 : UInt8)] then some (.bool (c == 0)) else bif op == [(47 : UInt8), (61 : UInt8)] then some (.bool (c != 0)) else bif op == [(61 : UInt8), (47 : UInt8), (61 : UInt8)] then some (.bool (c != 0)) else bif op == [(60 : UInt8)] then some (.bool (decide (c < 0))) else bif op == [(61 : UInt8), (60 : UInt8)] then some (.bool (decide (c ≤ 0))) else bif op == [(62 : UInt8)] then some (.bool (decide (c > 0))) else some (.bool (decide (c ≥ 0)))) P) : Gets (EVs (EV cfg) 249 [.str op, .int .i64 c]) P :=
  gE (fun _ => funS rfl rfl Tryz.func249 rfl) (by kernel_rfl) h
theorem qme (op : Bz) (a b : Bool) {P : AV → Prop} (h : Gets (bif op == [(97 : UInt8), (110 : UInt8), (100 : UInt8)] then bif a then some (.bool b) else some (.bool false) else bif op == [(97 : UInt8), (110 : UInt8), (100 : UInt8), (97 : UInt8), (108 : UInt8), (115 : UInt8), (111 : UInt8)] then bif a then some (.bool b) else some (.bool false) else bif op == [(111 : UInt8), (114 : UInt8)] then bif a then some (.bool true) else some (.bool b) else bif op == [(111 : UInt8), (114 : UInt8), (101 : UInt8), (108 : UInt8), (115 : UInt8), (101 : UInt8)] then bif a then some (.bool true) else some (.bool b) else some (.bool ! a == b)) P) : Gets (EVs (EV cfg) 250 [.str op, .bool a, .bool b]) P :=
  gE (fun _ => funS rfl rfl Tryz.func250 rfl) (by kernel_rfl) h
noncomputable abbrev ze59 (n : Int) : Option (AV) := kOpt (EVf (EV cfg) 247 [AV.int .i64 n]) fun v => ze2 v
noncomputable abbrev ze58 (v : AV) : Option (AV) := kInt .i64 v fun n => ze59 n
noncomputable abbrev ze57 (a b : Int) : Option (AV) := kOpt (qA (Op.intDiv BinOp.quo .i64 a b)) fun v => ze58 v
noncomputable abbrev ze60 (a b : Int) : Option (AV) := kOpt (qA (Op.intDiv BinOp.rem .i64 a b)) fun v => ze58 v
noncomputable abbrev ze56 (op : Bz) (a b : Int) : Option (AV) := bif op == [(100 : UInt8), (105 : UInt8), (118 : UInt8)] then ze57 a b else ze60 a b
noncomputable abbrev ze55 (b : Int) (op : Bz) (a : Int) : Option (AV) := bif b == 0 then ze0 else ze56 op a b
theorem qjD (op : Bz) (a b : Int) {P : AV → Prop} (h : Gets (bif op == [(43 : UInt8)] then kOpt (EVf (EV cfg) 247 [AV.int .i64 (IntKind.wrap .i64 (a + b))]) fun v => ze2 v else bif op == [(45 : UInt8)] then kOpt (EVf (EV cfg) 247 [AV.int .i64 (IntKind.wrap .i64 (a - b))]) fun v => ze2 v else bif op == [(42 : UInt8)] then kOpt (EVf (EV cfg) 296 [AV.int .i64 a, .int .i64 b]) fun v => ze2 v else bif op == [(100 : UInt8), (105 : UInt8), (118 : UInt8)] then ze55 b op a else bif op == [(114 : UInt8), (101 : UInt8), (109 : UInt8)] then ze55 b op a else bif op == [(98 : UInt8), (97 : UInt8), (110 : UInt8), (100 : UInt8)] then kOpt (qA (Op.intBits BinOp.and .i64 a b)) fun v => ze58 v else bif op == [(98 : UInt8), (111 : UInt8), (114 : UInt8)] then kOpt (qA (Op.intBits BinOp.or .i64 a b)) fun v => ze58 v else kOpt (qA (Op.intBits BinOp.xor .i64 a b)) fun v => ze58 v) P) : Gets (EVf (EV cfg) 251 [.str op, .int .i64 a, .int .i64 b]) P :=
  gE (fun _ => funF rfl rfl Tryz.func251 rfl) (by kernel_rfl) h
noncomputable abbrev ze63 (op : Bz) (n : Int) : Option (AV) := kOpt (EVs (EV cfg) 249 [.str op, .int .i64 n]) fun v => ze52 v
noncomputable abbrev ze62 (v : AV) (op : Bz) : Option (AV) := kInt .i64 v fun n => ze63 op n
noncomputable abbrev ze61 (ka na : Int) (sa : Bz) (la : Rz) (kb nb : Int) (sb : Bz) (lb : Rz) (op : Bz) : Option (AV) := kOpt (EVs (EV cfg) 151 [.agg [.int .i64 ka, .int .i64 na, .str sa, .sl la], .agg [.int .i64 kb, .int .i64 nb, .str sb, .sl lb]]) fun v => ze62 v op
noncomputable abbrev ze82 (b_1 : Bool) (n n_1 : Int) (s : Bz) (rows : Rz) (b_3 : Bool) : Option (AV) := (bif b_1 then some (AV.tup [.agg [.int .i64 n, .int .i64 n_1, .str s, .sl rows], .bool b_3]) else some (AV.tup [.agg [.int .i64 n, .int .i64 n_1, .str s, .sl rows], .bool false]))
noncomputable abbrev ze81 (v : AV) (b_1 b_3 : Bool) : Option (AV) := kTmV v fun n n_1 s rows => ze82 b_1 n n_1 s rows b_3
noncomputable abbrev ze80 (b b_1 b_3 : Bool) : Option (AV) := kOpt (EVf (EV cfg) 245 [.bool b]) fun v => ze81 v b_1 b_3
noncomputable abbrev ze79 (v : AV) (b_1 b_3 : Bool) : Option (AV) := qf v fun b => ze80 b b_1 b_3
noncomputable abbrev ze78 (op : Bz) (b b_2 b_1 b_3 : Bool) : Option (AV) := kOpt (EVs (EV cfg) 250 [.str op, .bool b, .bool b_2]) fun v => ze79 v b_1 b_3
noncomputable abbrev ze77 (cs : List AV) (op : Bz) (b b_2 b_1 b_3 : Bool) : Option (AV) := kNil cs (ze78 op b b_2 b_1 b_3)
noncomputable abbrev ze76 (c : AV) (cs : List AV) (op : Bz) (b b_2 b_1 : Bool) : Option (AV) := qf c fun b_3 => ze77 cs op b b_2 b_1 b_3
noncomputable abbrev ze75 (cs : List AV) (op : Bz) (b b_2 b_1 : Bool) : Option (AV) := qa cs fun c cs => ze76 c cs op b b_2 b_1
noncomputable abbrev ze74 (c : AV) (cs : List AV) (op : Bz) (b b_1 : Bool) : Option (AV) := qf c fun b_2 => ze75 cs op b b_2 b_1
noncomputable abbrev ze73 (cs : List AV) (op : Bz) (b b_1 : Bool) : Option (AV) := qa cs fun c cs => ze74 c cs op b b_1
noncomputable abbrev ze72 (v : AV) (op : Bz) (b b_1 : Bool) : Option (AV) := kTup v fun cs => ze73 cs op b b_1
noncomputable abbrev ze71 (kb nb : Int) (sb : Bz) (lb : Rz) (op : Bz) (b b_1 : Bool) : Option (AV) := kOpt (EVs (EV cfg) 237 [.agg [.int .i64 kb, .int .i64 nb, .str sb, .sl lb]]) fun v => ze72 v op b b_1
noncomputable abbrev ze70 (cs : List AV) (kb nb : Int) (sb : Bz) (lb : Rz) (op : Bz) (b b_1 : Bool) : Option (AV) := kNil cs (ze71 kb nb sb lb op b b_1)
noncomputable abbrev ze69 (c : AV) (cs : List AV) (kb nb : Int) (sb : Bz) (lb : Rz) (op : Bz) (b : Bool) : Option (AV) := qf c fun b_1 => ze70 cs kb nb sb lb op b b_1
noncomputable abbrev ze68 (cs : List AV) (kb nb : Int) (sb : Bz) (lb : Rz) (op : Bz) (b : Bool) : Option (AV) := qa cs fun c cs => ze69 c cs kb nb sb lb op b
noncomputable abbrev ze67 (c : AV) (cs : List AV) (kb nb : Int) (sb : Bz) (lb : Rz) (op : Bz) : Option (AV) := qf c fun b => ze68 cs kb nb sb lb op b
noncomputable abbrev ze66 (cs : List AV) (kb nb : Int) (sb : Bz) (lb : Rz) (op : Bz) : Option (AV) := qa cs fun c cs => ze67 c cs kb nb sb lb op
noncomputable abbrev ze65 (v : AV) (kb nb : Int) (sb : Bz) (lb : Rz) (op : Bz) : Option (AV) := kTup v fun cs => ze66 cs kb nb sb lb op
noncomputable abbrev ze64 (ka na : Int) (sa : Bz) (la : Rz) (kb nb : Int) (sb : Bz) (lb : Rz) (op : Bz) : Option (AV) := kOpt (EVs (EV cfg) 237 [.agg [.int .i64 ka, .int .i64 na, .str sa, .sl la]]) fun v => ze65 v kb nb sb lb op
theorem qpY (op : Bz) (ka na : Int) (sa : Bz) (la : Rz) (kb nb : Int) (sb : Bz) (lb : Rz) {P : AV → Prop} (h : Gets (bif op == [(61 : UInt8), (61 : UInt8)] then ze61 ka na sa la kb nb sb lb op else bif op == [(61 : UInt8), (58 : UInt8), (61 : UInt8)] then ze61 ka na sa la kb nb sb lb op else bif op == [(47 : UInt8), (61 : UInt8)] then ze61 ka na sa la kb nb sb lb op else bif op == [(61 : UInt8), (47 : UInt8), (61 : UInt8)] then ze61 ka na sa la kb nb sb lb op else bif op == [(60 : UInt8)] then ze61 ka na sa la kb nb sb lb op else bif op == [(61 : UInt8), (60 : UInt8)] then ze61 ka na sa la kb nb sb lb op else bif op == [(62 : UInt8)] then ze61 ka na sa la kb nb sb lb op else bif op == [(62 : UInt8), (61 : UInt8)] then ze61 ka na sa la kb nb sb lb op else bif op == [(97 : UInt8), (110 : UInt8), (100 : UInt8)] then ze64 ka na sa la kb nb sb lb op else bif op == [(111 : UInt8), (114 : UInt8)] then ze64 ka na sa la kb nb sb lb op else bif op == [(120 : UInt8), (111 : UInt8), (114 : UInt8)] then ze64 ka na sa la kb nb sb lb op else bif op == [(97 : UInt8), (110 : UInt8), (100 : UInt8), (97 : UInt8), (108 : UInt8), (115 : UInt8), (111 : UInt8)] then ze64 ka na sa la kb nb sb lb op else bif op == [(111 : UInt8), (114 : UInt8), (101 : UInt8), (108 : UInt8), (115 : UInt8), (101 : UInt8)] then ze64 ka na sa la kb nb sb lb op else bif op == [(101 : UInt8), (108 : UInt8), (101 : UInt8), (109 : UInt8), (101 : UInt8), (110 : UInt8), (116 : UInt8)] then bif ka != 1 then ze0 else bif kb != 7 then ze0 else bif decide (na < 1) then ze0 else bif decide (na > (lb.length : Int)) then ze0 else bif qh 0 (IntKind.wrap .i64 (na - 1)) && qg (IntKind.wrap .i64 (na - 1)) (lb.length : Int) then kOpt (qyG lb (qyY (IntKind.wrap .i64 (na - 1)))) fun row => ze39 row else none else bif ka != 1 then ze0 else bif kb != 1 then ze0 else kOpt (EVf (EV cfg) 251 [.str op, .int .i64 na, .int .i64 nb]) fun v => ze2 v) P) : Gets (EVf (EV cfg) 178 [.str op, .agg [.int .i64 ka, .int .i64 na, .str sa, .sl la], .agg [.int .i64 kb, .int .i64 nb, .str sb, .sl lb]]) P :=
  gE (fun _ => funF rfl rfl Tryz.func178 rfl) (by kernel_rfl) h
noncomputable abbrev ze83 (cs : List AV) (n n_2 : Int) (s : Bz) (rows : Rz) : Option (AV) := qa cs fun c cs => qf c fun b => kNil cs (bif ! b then ze0 else ze51 n n_2 s rows)
theorem qkZ (op : Bz) (L : Rz) (self : Int) {P : AV → Prop} (h : Gets (bif (L.length : Int) == 1 then bif qg 0 (L.length : Int) then kOpt (qyG L 0) fun row => bif qyW (qyH row) 4 then bif qyQ 4 (qyH row) then kTmC (qyM 4 row) fun n n_1 s rows => (kOpt (EVf (EV cfg) 177 [.str op, .agg [.int .i64 n, .int .i64 n_1, .str s, .sl rows]]) fun v => kTup v fun cs => qa cs fun c cs => kAgg c fun cs_1 => qa cs_1 fun c cs_2 => kInt .i64 c fun n => qa cs_2 fun c cs_3 => kInt .i64 c fun n_2 => qa cs_3 fun c cs_4 => kStr c fun s => qa cs_4 fun c cs_5 => kSl c fun rows => kNil cs_5 (ze83 cs n n_2 s rows)) else none else none else none else bif (L.length : Int) == 2 then bif qg 0 (L.length : Int) then kOpt (qyG L 0) fun row => bif qyW (qyH row) 4 then bif qyQ 4 (qyH row) then kTmC (qyM 4 row) fun n n_1 s rows => (bif qg 1 (L.length : Int) then kOpt (qyG L 1) fun row => bif qyW (qyH row) 4 then bif qyQ 4 (qyH row) then kTmC (qyM 4 row) fun n_2 n_3 s_1 rows_1 => (kOpt (EVf (EV cfg) 178 [.str op, .agg [.int .i64 n, .int .i64 n_1, .str s, .sl rows], .agg [.int .i64 n_2, .int .i64 n_3, .str s_1, .sl rows_1]]) fun v => kTup v fun cs => qa cs fun c cs => kAgg c fun cs_1 => qa cs_1 fun c cs_2 => kInt .i64 c fun n => qa cs_2 fun c cs_3 => kInt .i64 c fun n_4 => qa cs_3 fun c cs_4 => kStr c fun s => qa cs_4 fun c cs_5 => kSl c fun rows => kNil cs_5 (ze83 cs n n_4 s rows)) else none else none else none) else none else none else none else some (AV.tup [.agg [.int .i64 6, .int .i64 self, .str [], .sl []], .bool true])) P) : Gets (EVf (EV cfg) 96 [.str op, .sl L, .int .i64 self]) P :=
  gE (fun _ => funF rfl rfl Tryz.func96 rfl) (by kernel_rfl) h
theorem qnW (L : Rz) {P : AV → Prop} (h : Gets (qhw L (IntKind.wrap .i64 ((L.length : Int) - 1)) 0 0 [] [] 8 0 [] []) P) : Gets (EVf (EV cfg) 165 [.sl L]) P :=
  gE (fun _ => funF rfl rfl Tryz.func165 rfl) (by kernel_rfl) h
theorem ql5 (kt nt : Int) (st : Bz) (lt : Rz) (ok : Bool) {P : AV → Prop} (h : Gets (bif ! ok then ze0 else kOpt (EVs (EV cfg) 95 [.agg [.int .i64 kt, .int .i64 nt, .str st, .sl lt]]) fun v => kInt .i64 v fun n => bif n != 0 then ze0 else ze51 kt nt st lt) P) : Gets (EVf (EV cfg) 164 [.agg [.int .i64 kt, .int .i64 nt, .str st, .sl lt], .bool ok]) P :=
  gE (fun _ => funF rfl rfl Tryz.func164 rfl) (by kernel_rfl) h
theorem qkU (L : Rz) (ke ne : Int) (se : Bz) (le bd : Rz) (self : Int) {P : AV → Prop} (h : Gets (qhv L 0 0 ke ne se le bd self []) P) : Gets (EVf (EV cfg) 166 [.sl L, .agg [.int .i64 ke, .int .i64 ne, .str se, .sl le, .sl bd, .int .i64 self]]) P :=
  gE (fun _ => funF rfl rfl Tryz.func166 rfl) (by kernel_rfl) h
theorem qnX (op : Bz) (L : Rz) (ke ne : Int) (se : Bz) (le bd : Rz) (self : Int) {P : AV → Prop} (h : Gets (bif qg 0 (L.length : Int) then kOpt (qyG L 0) fun row => bif qyW (qyH row) 4 then bif qyQ 4 (qyH row) then kTmC (qyM 4 row) fun n n_1 s rows => (kOpt (EVf (EV cfg) 75 [.agg [.int .i64 n, .int .i64 n_1, .str s, .sl rows], .agg [.int .i64 ke, .int .i64 ne, .str se, .sl le, .sl bd, .int .i64 self]]) fun v => kTup v fun cs => qa cs fun c cs => kAgg c fun cs_1 => qa cs_1 fun c cs_2 => kInt .i64 c fun n => qa cs_2 fun c cs_3 => kInt .i64 c fun n_2 => qa cs_3 fun c cs_4 => kStr c fun s => qa cs_4 fun c cs_5 => kSl c fun rows => kNil cs_5 (qa cs fun c cs => qf c fun b => kNil cs (kOpt (EVs (EV cfg) 237 [.agg [.int .i64 n, .int .i64 n_2, .str s, .sl rows]]) fun v => kTup v fun cs => qa cs fun c cs => qf c fun b_1 => qa cs fun c cs => qf c fun b_2 => kNil cs (bif ! b then ze0 else bif ! b_2 then ze0 else bif ! b_1 == (op == [(97 : UInt8), (110 : UInt8), (100 : UInt8), (97 : UInt8), (108 : UInt8), (115 : UInt8), (111 : UInt8)]) then ze51 n n_2 s rows else bif qg 1 (L.length : Int) then kOpt (qyG L 1) fun row => bif qyW (qyH row) 4 then bif qyQ 4 (qyH row) then kTmC (qyM 4 row) fun n n_3 s rows => (kOpt (EVf (EV cfg) 75 [.agg [.int .i64 n, .int .i64 n_3, .str s, .sl rows], AV.agg [.int .i64 ke, .int .i64 ne, .str se, .sl le, .sl bd, .int .i64 self]]) fun v => kTup v fun cs => qa cs fun c cs => kAgg c fun cs_6 => qa cs_6 fun c cs_7 => kInt .i64 c fun n => qa cs_7 fun c cs_8 => kInt .i64 c fun n_4 => qa cs_8 fun c cs_9 => kStr c fun s => qa cs_9 fun c cs_10 => kSl c fun rows => kNil cs_10 (qa cs fun c cs => qf c fun b => kNil cs (kOpt (EVs (EV cfg) 237 [AV.agg [.int .i64 n, .int .i64 n_4, .str s, .sl rows]]) fun v => kTup v fun cs => qa cs fun c cs => qf c fun b_3 => qa cs fun c cs => qf c fun b_4 => kNil cs (bif b then some (AV.tup [AV.agg [.int .i64 n, .int .i64 n_4, .str s, .sl rows], .bool b_4]) else some (AV.tup [AV.agg [.int .i64 n, .int .i64 n_4, .str s, .sl rows], .bool false]))))) else none else none else none)))) else none else none else none) P) : Gets (EVf (EV cfg) 167 [.str op, .sl L, .agg [.int .i64 ke, .int .i64 ne, .str se, .sl le, .sl bd, .int .i64 self]]) P :=
  gE (fun _ => funF rfl rfl Tryz.func167 rfl) (by kernel_rfl) h
noncomputable abbrev ze91 (rows : Rz) (b : Bool) : Option (AV) := kOpt (EVf (EV cfg) 164 [.agg [.int .i64 9, .int .i64 0, .str [], .sl rows], .bool b]) fun v => ze2 v
noncomputable abbrev ze90 (cs : List AV) (rows : Rz) (b : Bool) : Option (AV) := kNil cs (ze91 rows b)
noncomputable abbrev ze89 (c : AV) (cs : List AV) (rows : Rz) : Option (AV) := qf c fun b => ze90 cs rows b
noncomputable abbrev ze88 (cs : List AV) (rows : Rz) : Option (AV) := qa cs fun c cs => ze89 c cs rows
noncomputable abbrev ze87 (c : AV) (cs : List AV) : Option (AV) := kSl c fun rows => ze88 cs rows
noncomputable abbrev ze86 (cs : List AV) : Option (AV) := qa cs fun c cs => ze87 c cs
noncomputable abbrev ze85 (v : AV) : Option (AV) := kTup v fun cs => ze86 cs
noncomputable abbrev ze84 (lt : Rz) (ke ne : Int) (se : Bz) (le bd : Rz) (self : Int) : Option (AV) := kOpt (EVf (EV cfg) 166 [.sl lt, .agg [.int .i64 ke, .int .i64 ne, .str se, .sl le, .sl bd, .int .i64 self]]) fun v => ze85 v
noncomputable abbrev ze92 (rows : Rz) (b : Bool) : Option (AV) := kOpt (EVf (EV cfg) 164 [.agg [.int .i64 7, .int .i64 0, .str [], .sl rows], .bool b]) fun v => ze2 v
noncomputable abbrev qug (cs : List AV) (n n_3 : Int) (s : Bz) (rows : Rz) : Option (AV) := qa cs fun c cs => qf c fun b => kNil cs (some (AV.tup [AV.agg [.int .i64 n, .int .i64 n_3, .str s, .sl rows], .bool b]))
noncomputable abbrev quh (cs_10 cs : List AV) (n n_3 : Int) (s : Bz) (rows : Rz) : Option (AV) := kNil cs_10 (qug cs n n_3 s rows)
noncomputable abbrev qui (c : AV) (cs_10 cs : List AV) (n n_3 : Int) (s : Bz) : Option (AV) := kSl c fun rows => quh cs_10 cs n n_3 s rows
noncomputable abbrev quj (cs_9 cs : List AV) (n n_3 : Int) (s : Bz) : Option (AV) := qa cs_9 fun c cs_10 => qui c cs_10 cs n n_3 s
noncomputable abbrev quk (c : AV) (cs_9 cs : List AV) (n n_3 : Int) : Option (AV) := kStr c fun s => quj cs_9 cs n n_3 s
noncomputable abbrev qul (cs_8 cs : List AV) (n n_3 : Int) : Option (AV) := qa cs_8 fun c cs_9 => quk c cs_9 cs n n_3
noncomputable abbrev qum (c : AV) (cs_8 cs : List AV) (n : Int) : Option (AV) := kInt .i64 c fun n_3 => qul cs_8 cs n n_3
noncomputable abbrev qun (cs_7 cs : List AV) (n : Int) : Option (AV) := qa cs_7 fun c cs_8 => qum c cs_8 cs n
noncomputable abbrev qup (c : AV) (cs_7 cs : List AV) : Option (AV) := kInt .i64 c fun n => qun cs_7 cs n
noncomputable abbrev quq (cs_6 cs : List AV) : Option (AV) := qa cs_6 fun c cs_7 => qup c cs_7 cs
noncomputable abbrev qur (c : AV) (cs : List AV) : Option (AV) := kAgg c fun cs_6 => quq cs_6 cs
noncomputable abbrev qus (cs : List AV) : Option (AV) := qa cs fun c cs => qur c cs
noncomputable abbrev qut (v : AV) : Option (AV) := kTup v fun cs => qus cs
noncomputable abbrev quu (n n_2 : Int) (s : Bz) (rows : Rz) (b : Bool) : Option (AV) := kOpt (EVf (EV cfg) 164 [.agg [.int .i64 n, .int .i64 n_2, .str s, .sl rows], .bool b]) fun v => qut v
noncomputable abbrev quv (cs : List AV) (n n_2 : Int) (s : Bz) (rows : Rz) (b : Bool) : Option (AV) := kNil cs (quu n n_2 s rows b)
noncomputable abbrev quw (c : AV) (cs : List AV) (n n_2 : Int) (s : Bz) (rows : Rz) : Option (AV) := qf c fun b => quv cs n n_2 s rows b
noncomputable abbrev qux (cs : List AV) (n n_2 : Int) (s : Bz) (rows : Rz) : Option (AV) := qa cs fun c cs => quw c cs n n_2 s rows
noncomputable abbrev quy (cs_5 cs : List AV) (n n_2 : Int) (s : Bz) (rows : Rz) : Option (AV) := kNil cs_5 (qux cs n n_2 s rows)
noncomputable abbrev quz (c : AV) (cs_5 cs : List AV) (n n_2 : Int) (s : Bz) : Option (AV) := kSl c fun rows => quy cs_5 cs n n_2 s rows
noncomputable abbrev quA (cs_4 cs : List AV) (n n_2 : Int) (s : Bz) : Option (AV) := qa cs_4 fun c cs_5 => quz c cs_5 cs n n_2 s
noncomputable abbrev quB (c : AV) (cs_4 cs : List AV) (n n_2 : Int) : Option (AV) := kStr c fun s => quA cs_4 cs n n_2 s
noncomputable abbrev quC (cs_3 cs : List AV) (n n_2 : Int) : Option (AV) := qa cs_3 fun c cs_4 => quB c cs_4 cs n n_2
noncomputable abbrev quD (c : AV) (cs_3 cs : List AV) (n : Int) : Option (AV) := kInt .i64 c fun n_2 => quC cs_3 cs n n_2
noncomputable abbrev quE (cs_2 cs : List AV) (n : Int) : Option (AV) := qa cs_2 fun c cs_3 => quD c cs_3 cs n
noncomputable abbrev ze99 (c : AV) (cs_2 cs : List AV) : Option (AV) := kInt .i64 c fun n => quE cs_2 cs n
noncomputable abbrev ze98 (cs_1 cs : List AV) : Option (AV) := qa cs_1 fun c cs_2 => ze99 c cs_2 cs
noncomputable abbrev ze97 (c : AV) (cs : List AV) : Option (AV) := kAgg c fun cs_1 => ze98 cs_1 cs
noncomputable abbrev ze96 (cs : List AV) : Option (AV) := qa cs fun c cs => ze97 c cs
noncomputable abbrev ze95 (v : AV) : Option (AV) := kTup v fun cs => ze96 cs
noncomputable abbrev ze94 (s : Bz) (rows : Rz) (self : Int) : Option (AV) := kOpt (EVf (EV cfg) 96 [.str s, .sl rows, .int .i64 self]) fun v => ze95 v
noncomputable abbrev ze93 (b : Bool) (s : Bz) (rows : Rz) (self : Int) : Option (AV) := bif ! b then ze0 else ze94 s rows self
noncomputable abbrev qua (n : Int) (rows : Rz) (ke ne : Int) (se : Bz) (le bd : Rz) (self : Int) (s : Bz) (lt : Rz) : Option (AV) := (bif n == 7 then kOpt (EVf (EV cfg) 166 [.sl rows, .agg [.int .i64 ke, .int .i64 ne, .str se, .sl le, .sl bd, .int .i64 self]]) fun v => kTup v fun cs => qa cs fun c cs => kSl c fun rows => qa cs fun c cs => qf c fun b => kNil cs (ze92 rows b) else bif s == [(99 : UInt8), (111 : UInt8), (110 : UInt8), (115 : UInt8), (116 : UInt8)] then bif qg 1 (lt.length : Int) then kOpt (qyG lt 1) fun row => bif qyW (qyH row) 4 then bif qyQ 4 (qyH row) then kTmC (qyM 4 row) fun n n_2 s rows => (some (AV.tup [.agg [.int .i64 n, .int .i64 n_2, .str s, .sl rows], .bool true])) else none else none else none else bif s == [(97 : UInt8), (110 : UInt8), (100 : UInt8), (97 : UInt8), (108 : UInt8), (115 : UInt8), (111 : UInt8)] then bif qh 1 (lt.length : Int) then bif ve 4 lt then kOpt (EVf (EV cfg) 167 [.str s, .sl (qyM (qyH lt - 1) (qzj 1 lt)), .agg [.int .i64 ke, .int .i64 ne, .str se, .sl le, .sl bd, .int .i64 self]]) fun v => kTup v fun cs => qa cs fun c cs => kAgg c fun cs_1 => qa cs_1 fun c cs_2 => kInt .i64 c fun n => qa cs_2 fun c cs_3 => kInt .i64 c fun n_2 => qa cs_3 fun c cs_4 => kStr c fun s => qa cs_4 fun c cs_5 => kSl c fun rows => kNil cs_5 (ze14 cs n n_2 s rows) else none else none else bif s == [(111 : UInt8), (114 : UInt8), (101 : UInt8), (108 : UInt8), (115 : UInt8), (101 : UInt8)] then bif qh 1 (lt.length : Int) then bif ve 4 lt then kOpt (EVf (EV cfg) 167 [.str s, .sl (qyM (qyH lt - 1) (qzj 1 lt)), .agg [.int .i64 ke, .int .i64 ne, .str se, .sl le, .sl bd, .int .i64 self]]) fun v => kTup v fun cs => qa cs fun c cs => kAgg c fun cs_1 => qa cs_1 fun c cs_2 => kInt .i64 c fun n => qa cs_2 fun c cs_3 => kInt .i64 c fun n_2 => qa cs_3 fun c cs_4 => kStr c fun s => qa cs_4 fun c cs_5 => kSl c fun rows => kNil cs_5 (ze14 cs n n_2 s rows) else none else none else bif qh 1 (lt.length : Int) then bif ve 4 lt then kOpt (EVf (EV cfg) 166 [.sl (qyM (qyH lt - 1) (qzj 1 lt)), .agg [.int .i64 ke, .int .i64 ne, .str se, .sl le, .sl bd, .int .i64 self]]) fun v => kTup v fun cs => qa cs fun c cs => kSl c fun rows => qa cs fun c cs => qf c fun b => kNil cs (ze93 b s rows self) else none else none)
noncomputable abbrev qub (row : List AV) (ke ne : Int) (se : Bz) (le bd : Rz) (self : Int) (lt : Rz) : Option (AV) := kTmC (qyM 4 row) fun n n_1 s rows => qua n rows ke ne se le bd self s lt
noncomputable abbrev quc (row : List AV) (ke ne : Int) (se : Bz) (le bd : Rz) (self : Int) (lt : Rz) : Option (AV) := bif qyQ 4 (qyH row) then qub row ke ne se le bd self lt else none
noncomputable abbrev qud (row : List AV) (ke ne : Int) (se : Bz) (le bd : Rz) (self : Int) (lt : Rz) : Option (AV) := bif qyW (qyH row) 4 then quc row ke ne se le bd self lt else none
noncomputable abbrev que (lt : Rz) (ke ne : Int) (se : Bz) (le bd : Rz) (self : Int) : Option (AV) := kOpt (qyG lt 0) fun row => qud row ke ne se le bd self lt
noncomputable abbrev quf (lt : Rz) (ke ne : Int) (se : Bz) (le bd : Rz) (self : Int) : Option (AV) := bif qg 0 (lt.length : Int) then que lt ke ne se le bd self else none
noncomputable abbrev qpE (kt nt : Int) (st : Bz) (lt : Rz) (ke ne : Int) (se : Bz) (le bd : Rz) (self : Int) : Option (AV) := bif kt != 7 then ze51 kt nt st lt else quf lt ke ne se le bd self
theorem ql7 (kt nt : Int) (st : Bz) (lt : Rz) (ke ne : Int) (se : Bz) (le bd : Rz) (self : Int) {P : AV → Prop} (h : Gets (kOpt (EVs (EV cfg) 162 [.agg [.int .i64 kt, .int .i64 nt, .str st, .sl lt]]) fun v => kTup v fun cs => qa cs fun c cs => kInt .i64 c fun n => qa cs fun c cs => qf c fun b => kNil cs (bif b then kOpt (EVf (EV cfg) 163 [.sl bd, .int .i64 n]) fun v => ze2 v else bif kt == 2 then bif st == [(36 : UInt8), (95 : UInt8)] then ze51 ke ne se le else bif kt == 2 then bif st == [(36 : UInt8), (36 : UInt8)] then qcE 0 0 ke ne se le bd self 0 0 [] [] [] else bif kt == 9 then ze84 lt ke ne se le bd self else bif kt != 7 then ze51 kt nt st lt else bif qg 0 (↑ (qyH lt) : Int) then kOpt (qyG lt 0) fun row => bif qyW (qyH row) 4 then bif qyQ 4 (qyH row) then kTmC (qyM 4 row) fun n n_1 s rows => (bif n == 7 then kOpt (EVf (EV cfg) 166 [.sl rows, .agg [.int .i64 ke, .int .i64 ne, .str se, .sl le, .sl bd, .int .i64 self]]) fun v => kTup v fun cs => qa cs fun c cs => kSl c fun rows => qa cs fun c cs => qf c fun b => kNil cs (ze92 rows b) else bif s == [(99 : UInt8), (111 : UInt8), (110 : UInt8), (115 : UInt8), (116 : UInt8)] then bif qg 1 (lt.length : Int) then kOpt (qyG lt 1) fun row => bif qyW (qyH row) 4 then bif qyQ 4 (qyH row) then kTmC (qyM 4 row) fun n n_2 s rows => (some (AV.tup [.agg [.int .i64 n, .int .i64 n_2, .str s, .sl rows], .bool true])) else none else none else none else bif s == [(97 : UInt8), (110 : UInt8), (100 : UInt8), (97 : UInt8), (108 : UInt8), (115 : UInt8), (111 : UInt8)] then bif qh 1 (lt.length : Int) then bif ve 4 lt then kOpt (EVf (EV cfg) 167 [.str s, .sl (qyM (qyH lt - 1) (qzj 1 lt)), .agg [.int .i64 ke, .int .i64 ne, .str se, .sl le, .sl bd, .int .i64 self]]) fun v => kTup v fun cs => qa cs fun c cs => kAgg c fun cs_1 => qa cs_1 fun c cs_2 => kInt .i64 c fun n => qa cs_2 fun c cs_3 => kInt .i64 c fun n_2 => qa cs_3 fun c cs_4 => kStr c fun s => qa cs_4 fun c cs_5 => kSl c fun rows => kNil cs_5 (ze14 cs n n_2 s rows) else none else none else bif s == [(111 : UInt8), (114 : UInt8), (101 : UInt8), (108 : UInt8), (115 : UInt8), (101 : UInt8)] then bif qh 1 (lt.length : Int) then bif ve 4 lt then kOpt (EVf (EV cfg) 167 [.str s, .sl (qyM (qyH lt - 1) (qzj 1 lt)), .agg [.int .i64 ke, .int .i64 ne, .str se, .sl le, .sl bd, .int .i64 self]]) fun v => kTup v fun cs => qa cs fun c cs => kAgg c fun cs_1 => qa cs_1 fun c cs_2 => kInt .i64 c fun n => qa cs_2 fun c cs_3 => kInt .i64 c fun n_2 => qa cs_3 fun c cs_4 => kStr c fun s => qa cs_4 fun c cs_5 => kSl c fun rows => kNil cs_5 (ze14 cs n n_2 s rows) else none else none else bif qh 1 (↑ (qyH lt) : Int) then bif ve 4 lt then kOpt (EVf (EV cfg) 166 [.sl (qyM (qyH lt - 1) (qzj 1 lt)), .agg [.int .i64 ke, .int .i64 ne, .str se, .sl le, .sl bd, .int .i64 self]]) fun v => kTup v fun cs => qa cs fun c cs => kSl c fun rows => qa cs fun c cs => qf c fun b => kNil cs (ze93 b s rows self) else none else none) else none else none else none else bif kt == 9 then kOpt (EVf (EV cfg) 166 [.sl lt, .agg [.int .i64 ke, .int .i64 ne, .str se, .sl le, .sl bd, .int .i64 self]]) fun v => kTup v fun cs => qa cs fun c cs => kSl c fun rows => qa cs fun c cs => qf c fun b => kNil cs (kOpt (EVf (EV cfg) 164 [.agg [.int .i64 9, .int .i64 (0 : Int), .str [], .sl rows], .bool b]) fun v => ze2 v) else qpE kt nt st lt ke ne se le bd self else bif kt == 2 then bif st == [(36 : UInt8), (36 : UInt8)] then qcE 0 0 ke ne se le bd self 0 0 [] [] [] else bif kt == (9 : Int) then ze84 lt ke ne se le bd self else qpE kt nt st lt ke ne se le bd self else bif kt == 9 then ze84 lt ke ne se le bd self else bif kt != 7 then ze51 kt nt st lt else bif qg 0 (lt.length : Int) then kOpt (qyG lt 0) fun row => bif qyW (qyH row) 4 then bif qyQ 4 (qyH row) then kTmC (qyM 4 row) fun n n_1 s rows => (bif n == 7 then kOpt (EVf (EV cfg) 166 [.sl rows, .agg [.int .i64 ke, .int .i64 ne, .str se, .sl le, .sl bd, .int .i64 self]]) fun v => kTup v fun cs => qa cs fun c cs => kSl c fun rows => qa cs fun c cs => qf c fun b => kNil cs (ze92 rows b) else bif s == [(99 : UInt8), (111 : UInt8), (110 : UInt8), (115 : UInt8), (116 : UInt8)] then bif qg 1 (↑ (qyH lt) : Int) then kOpt (qyG lt 1) fun row => bif qyW (qyH row) 4 then bif qyQ 4 (qyH row) then kTmC (qyM 4 row) fun n n_2 s rows => (some (AV.tup [.agg [.int .i64 n, .int .i64 n_2, .str s, .sl rows], .bool true])) else none else none else none else bif s == [(97 : UInt8), (110 : UInt8), (100 : UInt8), (97 : UInt8), (108 : UInt8), (115 : UInt8), (111 : UInt8)] then bif qh 1 (lt.length : Int) then bif ve 4 lt then kOpt (EVf (EV cfg) 167 [.str s, .sl (qyM (qyH lt - 1) (qzj 1 lt)), .agg [.int .i64 ke, .int .i64 ne, .str se, .sl le, .sl bd, .int .i64 self]]) fun v => kTup v fun cs => qa cs fun c cs => kAgg c fun cs_1 => qa cs_1 fun c cs_2 => kInt .i64 c fun n => qa cs_2 fun c cs_3 => kInt .i64 c fun n_2 => qa cs_3 fun c cs_4 => kStr c fun s => qa cs_4 fun c cs_5 => kSl c fun rows => kNil cs_5 (ze14 cs n n_2 s rows) else none else none else bif s == [(111 : UInt8), (114 : UInt8), (101 : UInt8), (108 : UInt8), (115 : UInt8), (101 : UInt8)] then bif qh 1 (lt.length : Int) then bif ve 4 lt then kOpt (EVf (EV cfg) 167 [.str s, .sl (qyM (qyH lt - 1) (qzj 1 lt)), .agg [.int .i64 ke, .int .i64 ne, .str se, .sl le, .sl bd, .int .i64 self]]) fun v => kTup v fun cs => qa cs fun c cs => kAgg c fun cs_1 => qa cs_1 fun c cs_2 => kInt .i64 c fun n => qa cs_2 fun c cs_3 => kInt .i64 c fun n_2 => qa cs_3 fun c cs_4 => kStr c fun s => qa cs_4 fun c cs_5 => kSl c fun rows => kNil cs_5 (ze14 cs n n_2 s rows) else none else none else bif qh 1 (lt.length : Int) then bif ve 4 lt then kOpt (EVf (EV cfg) 166 [.sl (qyM (qyH lt - 1) (qzj 1 lt)), .agg [.int .i64 ke, .int .i64 ne, .str se, .sl le, .sl bd, .int .i64 self]]) fun v => kTup v fun cs => qa cs fun c cs => kSl c fun rows => qa cs fun c cs => qf c fun b => kNil cs (ze93 b s rows self) else none else none) else none else none else none)) P) : Gets (EVf (EV cfg) 75 [.agg [.int .i64 kt, .int .i64 nt, .str st, .sl lt], .agg [.int .i64 ke, .int .i64 ne, .str se, .sl le, .sl bd, .int .i64 self]]) P :=
  gE (fun _ => funF rfl rfl Tryz.func75 rfl) (by kernel_rfl) h
theorem qnU (n : Int) {P : AV → Prop} (h : Gets (bif decide (n ≥ 1) then some (.bool (decide (n ≤ 1073741824))) else some (.bool false)) P) : Gets (EVs (EV cfg) 94 [.int .i64 n]) P :=
  gE (fun _ => funS rfl rfl Tryz.func94 rfl) (by kernel_rfl) h
theorem ql9 (bd : Rz) {P : AV → Prop} (h : Gets (qhy bd 0 0 []) P) : Gets (EVf (EV cfg) 74 [.sl bd]) P :=
  gE (fun _ => funF rfl rfl Tryz.func74 rfl) (by kernel_rfl) h
theorem qp4 (ke ne : Int) (se : Bz) (le bd : Rz) (self : Int) {P : AV → Prop} (h : Gets (kOpt (EVs (EV cfg) 95 [.agg [.int .i64 ke, .int .i64 ne, .str se, .sl le]]) fun v => kInt .i64 v fun n => bif n == 0 then kOpt (EVs (EV cfg) 160 [.sl bd]) fun v => qf v fun b => bif b then kOpt (EVs (EV cfg) 94 [AV.int .i64 self]) fun v => qf v fun b => some (.bool b) else some (.bool false) else some (.bool false)) P) : Gets (EVs (EV cfg) 72 [.agg [.int .i64 ke, .int .i64 ne, .str se, .sl le, .sl bd, .int .i64 self]]) P :=
  gE (fun _ => funS rfl rfl Tryz.func72 rfl) (by kernel_rfl) h
theorem qn0 (kt nt : Int) (st : Bz) (lt : Rz) (ke ne : Int) (se : Bz) (le bd : Rz) (self : Int) {P : AV → Prop} (h : Gets (kOpt (EVs (EV cfg) 72 [.agg [.int .i64 ke, .int .i64 ne, .str se, .sl le, .sl bd, .int .i64 self]]) fun v => qf v fun b => bif ! b then some (AV.tup [.agg [.int .i64 0, .int .i64 0, .str [], .sl []], .int .i64 2]) else kOpt (EVf (EV cfg) 74 [.sl bd]) fun v => kSl v fun rows => kOpt (EVs (EV cfg) 73 [.agg [.int .i64 kt, .int .i64 nt, .str st, .sl lt], .sl rows]) fun v => kInt .i64 v fun n => bif n != 0 then some (AV.tup [.agg [.int .i64 0, .int .i64 0, .str [], .sl []], .int .i64 2]) else kOpt (EVf (EV cfg) 75 [.agg [.int .i64 kt, .int .i64 nt, .str st, .sl lt], .agg [.int .i64 ke, .int .i64 ne, .str se, .sl le, .sl bd, .int .i64 self]]) fun v => kTup v fun cs => qa cs fun c cs => kAgg c fun cs_1 => qa cs_1 fun c cs_2 => kInt .i64 c fun n => qa cs_2 fun c cs_3 => kInt .i64 c fun n_1 => qa cs_3 fun c cs_4 => kStr c fun s => qa cs_4 fun c cs_5 => kSl c fun rows => kNil cs_5 (qa cs fun c cs => qf c fun b => kNil cs (bif ! b then some (AV.tup [.agg [.int .i64 0, .int .i64 0, .str [], .sl []], .int .i64 10]) else kOpt (EVf (EV cfg) 76 [.agg [.int .i64 n, .int .i64 n_1, .str s, .sl rows]]) fun v => kTmV v fun n n_2 s rows => (some (AV.tup [.agg [.int .i64 n, .int .i64 n_2, .str s, .sl rows], .int .i64 0]))))) P) : Gets (EVf (EV cfg) 18 [.agg [.int .i64 kt, .int .i64 nt, .str st, .sl lt], .agg [.int .i64 ke, .int .i64 ne, .str se, .sl le, .sl bd, .int .i64 self]]) P :=
  gE (fun _ => funF rfl rfl Tryz.func18 rfl) (by kernel_rfl) h
theorem qmc (L : Rz) (ke ne : Int) (se : Bz) (le bd : Rz) (self : Int) {P : AV → Prop} (h : Gets (qhz L 0 ke ne se le bd self) P) : Gets (EVs (EV cfg) 183 [.sl L, .agg [.int .i64 ke, .int .i64 ne, .str se, .sl le, .sl bd, .int .i64 self]]) P :=
  gE (fun _ => funS rfl rfl Tryz.func183 rfl) (by kernel_rfl) h
theorem qn7 (bd : Rz) (n : Int) {P : AV → Prop} (h : Gets (kOpt (EVs (EV cfg) 160 [.sl bd]) fun v => qf v fun b => bif ! b then ze0 else kOpt (EVf (EV cfg) 236 [.sl bd, .int .i64 n]) fun v => kTup v fun cs => qa cs fun c cs => kAgg c fun cs_1 => qa cs_1 fun c cs_2 => kInt .i64 c fun n => qa cs_2 fun c cs_3 => kInt .i64 c fun n_1 => qa cs_3 fun c cs_4 => kStr c fun s => qa cs_4 fun c cs_5 => kSl c fun rows => kNil cs_5 (qa cs fun c cs => qf c fun b => kNil cs (bif ! b then ze0 else kOpt (EVf (EV cfg) 76 [.agg [.int .i64 n, .int .i64 n_1, .str s, .sl rows]]) fun v => ze54 v))) P) : Gets (EVf (EV cfg) 163 [.sl bd, .int .i64 n]) P :=
  gE (fun _ => funF rfl rfl Tryz.func163 rfl) (by kernel_rfl) h
theorem qn3 (bd : Rz) (n : Int) {P : AV → Prop} (h : Gets (qhu bd n 0 0 0 [] []) P) : Gets (EVf (EV cfg) 236 [.sl bd, .int .i64 n]) P :=
  gE (fun _ => funF rfl rfl Tryz.func236 rfl) (by kernel_rfl) h
theorem qqa (bd : Rz) {P : AV → Prop} (h : Gets (qd7 bd 0) P) : Gets (EVs (EV cfg) 160 [.sl bd]) P :=
  gE (fun _ => funS rfl rfl Tryz.func160 rfl) (by kernel_rfl) h
theorem qoe (kt nt : Int) (st : Bz) (lt : Rz) {P : AV → Prop} (h : Gets (qhx 0 0 kt nt st lt 0 0 [] [] []) P) : Gets (EVf (EV cfg) 76 [.agg [.int .i64 kt, .int .i64 nt, .str st, .sl lt]]) P :=
  gE (fun _ => funF rfl rfl Tryz.func76 rfl) (by kernel_rfl) h
theorem qjF (a b : Int) {P : AV → Prop} (h : Gets (bif decide (a < b) then some (.int .i64 (- 1)) else bif decide (a > b) then some (.int .i64 1) else some (.int .i64 0)) P) : Gets (EVs (EV cfg) 227 [.int .i64 a, .int .i64 b]) P :=
  gE (fun _ => funS rfl rfl Tryz.func227 rfl) (by kernel_rfl) h
theorem qmj (a b : Bz) {P : AV → Prop} (h : Gets (bif Op.bytesLess a b then some (.int .i64 (- 1)) else bif ! (Op.bytesLess a b || a == b) then some (.int .i64 1) else some (.int .i64 0)) P) : Gets (EVs (EV cfg) 228 [.str a, .str b]) P :=
  gE (fun _ => funS rfl rfl Tryz.func228 rfl) (by kernel_rfl) h
theorem qmk (A B : Rz) {P : AV → Prop} (h : Gets (kOpt (EVs (EV cfg) 227 [AV.int .i64 (A.length : Int), .int .i64 (B.length : Int)]) fun v => kInt .i64 v fun n => qcF A B n 0) P) : Gets (EVs (EV cfg) 229 [.sl A, .sl B]) P :=
  gE (fun _ => funS rfl rfl Tryz.func229 rfl) (by kernel_rfl) h
noncomputable abbrev qhr (na nb : Int) : Option (AV) := kOpt (EVs (EV cfg) 227 [AV.int .i64 na, .int .i64 nb]) fun v => kInt .i64 v fun n => some (.int .i64 n)
noncomputable abbrev qln (la lb : Rz) : Option (AV) := kOpt (EVs (EV cfg) 229 [.sl la, .sl lb]) fun v => kInt .i64 v fun n => some (.int .i64 n)
theorem qjG (ka na : Int) (sa : Bz) (la : Rz) (kb nb : Int) (sb : Bz) (lb : Rz) {P : AV → Prop} (h : Gets (kOpt (EVs (EV cfg) 227 [AV.int .i64 ka, .int .i64 kb]) fun v => kInt .i64 v fun n => bif n != 0 then some (.int .i64 n) else bif ka == 1 then qhr na nb else bif ka == 3 then qhr na nb else bif ka == 4 then qhr na nb else bif ka == 6 then qhr na nb else bif ka == 2 then kOpt (EVs (EV cfg) 228 [.str sa, .str sb]) fun v => kInt .i64 v fun n => some (.int .i64 n) else bif ka == 5 then kOpt (EVs (EV cfg) 227 [AV.int .i64 na, .int .i64 nb]) fun v => kInt .i64 v fun n => bif n != 0 then some (.int .i64 n) else qln la lb else bif ka == 7 then qln la lb else bif ka == 9 then qln la lb else some (.int .i64 0)) P) : Gets (EVs (EV cfg) 151 [.agg [.int .i64 ka, .int .i64 na, .str sa, .sl la], .agg [.int .i64 kb, .int .i64 nb, .str sb, .sl lb]]) P :=
  gE (fun _ => funS rfl rfl Tryz.func151 rfl) (by kernel_rfl) h
theorem qnq (v4 c0_0 c0_1 : Int) (c0_2 : Bz) (c0_3 : Rz) {P : AV → Prop} (h : Gets (bif c0_0 == 9 then bif qg 1 (c0_3.length : Int) then kOpt (qyG c0_3 1) fun row => bif qyW (qyH row) 4 then bif qyQ 4 (qyH row) then kTmC (qyM 4 row) fun n n_1 s rows => (qht (IntKind.wrap .i64 (v4 + 1)) n n_1 s rows) else none else none else none else some (AV.tup [AV.int .i64 v4, .bool (c0_0 == 8)])) P) : Gets (qht v4 c0_0 c0_1 c0_2 c0_3) P :=
  gE (fun _ => qn (cfg := cfg) (f := 246) (rd := none) (bs := 0)) (by kernel_rfl) h
theorem qf1 (L : Rz) (v4 c0_0 c0_1 : Int) (c0_2 : Bz) (c0_3 : Rz) (c1_0 c1_1 : Int) (c1_2 : Bz) (c1_3 : Rz) {P : AV → Prop} (h : Gets (bif decide (v4 ≥ 0) then bif qh 0 v4 && qg v4 (L.length : Int) then kOpt (qyG L (v4.toNat)) fun row => bif qyW (qyH row) 4 then bif qyQ 4 (qyH row) then kTmC (qyM 4 row) fun n n_1 s rows => (qhw L (IntKind.wrap .i64 (v4 - 1)) c0_0 c0_1 c0_2 c0_3 9 0 [] [[AV.int .i64 n, .int .i64 n_1, .str s, .sl rows], [AV.int .i64 c1_0, .int .i64 c1_1, .str c1_2, .sl c1_3]]) else none else none else none else some (.agg [.int .i64 c1_0, .int .i64 c1_1, .str c1_2, .sl c1_3])) P) : Gets (qhw L v4 c0_0 c0_1 c0_2 c0_3 c1_0 c1_1 c1_2 c1_3) P :=
  gE (fun _ => qn (cfg := cfg) (f := 165) (rd := none) (bs := 0)) (by kernel_rfl) h
theorem qf0 (L : Rz) (nv6 : Nat) (v7 c0_0 c0_1 : Int) (c0_2 : Bz) (c0_3 c0_4 : Rz) (c0_5 : Int) (h1 : Rz) {P : AV → Prop} (h : Gets (bif decide (v7 < (L.length : Int)) then bif qh 0 v7 && qg v7 (L.length : Int) then kOpt (qyG L (v7.toNat)) fun row => bif qyW (qyH row) 4 then bif qyQ 4 (qyH row) then kTmC (qyM 4 row) fun n n_1 s rows => (kOpt (EVf (EV cfg) 75 [.agg [.int .i64 n, .int .i64 n_1, .str s, .sl rows], .agg [.int .i64 c0_0, .int .i64 c0_1, .str c0_2, .sl c0_3, .sl c0_4, .int .i64 c0_5]]) fun v => kTup v fun cs => qa cs fun c cs => kAgg c fun cs_1 => qa cs_1 fun c cs_2 => kInt .i64 c fun n => qa cs_2 fun c cs_3 => kInt .i64 c fun n_2 => qa cs_3 fun c cs_4 => kStr c fun s => qa cs_4 fun c cs_5 => kSl c fun rows => kNil cs_5 (qa cs fun c cs => qf c fun b => kNil cs (bif ! b then some (AV.tup [.sl [], .bool false]) else bif qyQ (0 + nv6) (qyH h1) && qN (nv6 + 1) 56 then qhv L (nv6 + 1) (IntKind.wrap .i64 (v7 + 1)) c0_0 c0_1 c0_2 c0_3 c0_4 c0_5 (qy4 (qyM nv6 h1) [[AV.int .i64 n, .int .i64 n_2, .str s, .sl rows]]) else none))) else none else none else none else bif qyQ (0 + nv6) (qyH h1) && true then some (AV.tup [.sl (qyM nv6 h1), .bool true]) else none) P) : Gets (qhv L nv6 v7 c0_0 c0_1 c0_2 c0_3 c0_4 c0_5 h1) P :=
  gE (fun _ => qn (cfg := cfg) (f := 166) (rd := none) (bs := 0)) (by kernel_rfl) h
theorem qf4 (nv8 : Nat) (v9 c0_0 c0_1 : Int) (c0_2 : Bz) (c0_3 c0_4 : Rz) (c0_5 c1_0 c1_1 : Int) (c1_2 : Bz) (c1_3 h2 : Rz) {P : AV → Prop} (h : Gets (bif decide (v9 < (c0_4.length : Int)) then bif qh 0 v9 && qg v9 (c0_4.length : Int) then kOpt (qyG c0_4 (v9.toNat)) fun row => bif qyW (qyH row) 5 then bif qyQ 5 (qyH row) then qa (qyM 4 (qzj 1 row)) fun c cs => kInt .i64 c fun n => qa cs fun c cs => kInt .i64 c fun n_1 => qa cs fun c cs => kStr c fun s => qa cs fun c cs => kSl c fun rows => kNil cs (bif qyQ (0 + nv8) (qyH h2) && qN (nv8 + 1) 56 then qcE (nv8 + 1) (IntKind.wrap .i64 (v9 + 1)) c0_0 c0_1 c0_2 c0_3 c0_4 c0_5 c1_0 c1_1 c1_2 c1_3 (qy4 (qyM nv8 h2) [[AV.int .i64 n, .int .i64 n_1, .str s, .sl rows]]) else none) else none else none else none else bif qyQ (0 + nv8) (qyH h2) && true then kOpt (EVf (EV cfg) 165 [.sl (qyM nv8 h2)]) fun v => kTmV v fun n n_1 s rows => (kOpt (EVf (EV cfg) 164 [.agg [.int .i64 n, .int .i64 n_1, .str s, .sl rows], .bool true]) fun v => kTup v fun cs => qa cs fun c cs => kAgg c fun cs_1 => qa cs_1 fun c cs_2 => kInt .i64 c fun n => qa cs_2 fun c cs_3 => kInt .i64 c fun n_2 => qa cs_3 fun c cs_4 => kStr c fun s => qa cs_4 fun c cs_5 => kSl c fun rows => kNil cs_5 (ze14 cs n n_2 s rows)) else none) P) : Gets (qcE nv8 v9 c0_0 c0_1 c0_2 c0_3 c0_4 c0_5 c1_0 c1_1 c1_2 c1_3 h2) P :=
  gE (fun _ => qn (cfg := cfg) (f := 75) (rd := none) (bs := 0)) (by kernel_rfl) h
theorem qf5 (bd : Rz) (nv3 : Nat) (v4 : Int) (h0 : Rz) {P : AV → Prop} (h : Gets (bif decide (v4 < (bd.length : Int)) then bif qh 0 v4 && qg v4 (bd.length : Int) then kOpt (qyG bd (v4.toNat)) fun row => bif qyW (qyH row) 5 then kOpt (qyG row 0) fun v => kInt .i64 v fun n => bif qyQ (0 + nv3) (qyH h0) && qN (nv3 + 1) 8 then qhy bd (nv3 + 1) (IntKind.wrap .i64 (v4 + 1)) (qy4 (qyM nv3 h0) [[AV.int .i64 n]]) else none else none else none else bif qyQ (0 + nv3) (qyH h0) && true then some (.sl (qyM nv3 h0)) else none) P) : Gets (qhy bd nv3 v4 h0) P :=
  gE (fun _ => qn (cfg := cfg) (f := 74) (rd := none) (bs := 0)) (by kernel_rfl) h
theorem qf6 (L : Rz) (v5 c0_0 c0_1 : Int) (c0_2 : Bz) (c0_3 c0_4 : Rz) (c0_5 : Int) {P : AV → Prop} (h : Gets (bif decide (v5 < (L.length : Int)) then bif qh 0 v5 && qg v5 (L.length : Int) then kOpt (qyG L (v5.toNat)) fun row => bif qyW (qyH row) 4 then bif qyQ 4 (qyH row) then kTmC (qyM 4 row) fun n n_1 s rows => (kOpt (EVf (EV cfg) 18 [.agg [.int .i64 n, .int .i64 n_1, .str s, .sl rows], .agg [.int .i64 c0_0, .int .i64 c0_1, .str c0_2, .sl c0_3, .sl c0_4, .int .i64 c0_5]]) fun v => kTup v fun cs => qa cs fun c cs => kAgg c fun cs_1 => qa cs_1 fun c cs_2 => kInt .i64 c fun n => qa cs_2 fun c cs_3 => kInt .i64 c fun n_2 => qa cs_3 fun c cs_4 => kStr c fun s => qa cs_4 fun c cs_5 => kSl c fun rows => kNil cs_5 (qa cs fun c cs => kInt .i64 c fun n_3 => kNil cs (bif n_3 != 0 then some (.bool false) else bif n != 2 then some (.bool false) else bif ! s == [(116 : UInt8), (114 : UInt8), (117 : UInt8), (101 : UInt8)] then some (.bool false) else qhz L (IntKind.wrap .i64 (v5 + 1)) c0_0 c0_1 c0_2 c0_3 c0_4 c0_5))) else none else none else none else kOpt (EVs (EV cfg) 72 [.agg [.int .i64 c0_0, .int .i64 c0_1, .str c0_2, .sl c0_3, .sl c0_4, .int .i64 c0_5]]) fun v => qf v fun b => some (.bool b)) P) : Gets (qhz L v5 c0_0 c0_1 c0_2 c0_3 c0_4 c0_5) P :=
  gE (fun _ => qn (cfg := cfg) (f := 183) (rd := none) (bs := 0)) (by kernel_rfl) h
theorem qfZ (bd : Rz) (n v6 c0_0 c0_1 : Int) (c0_2 : Bz) (c0_3 : Rz) {P : AV → Prop} (h : Gets (bif decide (v6 < (bd.length : Int)) then bif qh 0 v6 && qg v6 (bd.length : Int) then kOpt (qyG bd (v6.toNat)) fun row => bif qyW (qyH row) 5 then kOpt (qyG row 0) fun v => kInt .i64 v fun n_1 => bif n_1 == n then bif qh 0 v6 && qg v6 (↑ (qyH bd) : Int) then kOpt (qyG bd (v6.toNat)) fun row => bif qyW (qyH row) 5 then bif qyQ 5 (qyH row) then qa (qyM 4 (qzj 1 row)) fun c cs => kInt .i64 c fun n => qa cs fun c cs => kInt .i64 c fun n_2 => qa cs fun c cs => kStr c fun s => qa cs fun c cs => kSl c fun rows => kNil cs (ze51 n n_2 s rows) else none else none else none else qhu bd n (IntKind.wrap .i64 (v6 + 1)) c0_0 c0_1 c0_2 c0_3 else none else none else ze0) P) : Gets (qhu bd n v6 c0_0 c0_1 c0_2 c0_3) P :=
  gE (fun _ => qn (cfg := cfg) (f := 236) (rd := none) (bs := 0)) (by kernel_rfl) h
noncomputable abbrev qpv (cs : List AV) (n n_2 : Int) (s : Bz) (bd : Rz) (v3 : Int) : Option (AV) := qa cs fun c cs => kSl c fun rows => kNil cs (kOpt (EVs (EV cfg) 95 [.agg [.int .i64 n, .int .i64 n_2, .str s, .sl rows]]) fun v => kInt .i64 v fun n => bif n != 0 then some (.bool false) else qd7 bd (IntKind.wrap .i64 (v3 + 1)))
noncomputable abbrev qpw (c : AV) (cs : List AV) (n n_2 : Int) (bd : Rz) (v3 : Int) : Option (AV) := kStr c fun s => qpv cs n n_2 s bd v3
noncomputable abbrev qpx (cs : List AV) (n n_2 : Int) (bd : Rz) (v3 : Int) : Option (AV) := qa cs fun c cs => qpw c cs n n_2 bd v3
noncomputable abbrev qpy (c : AV) (cs : List AV) (n : Int) (bd : Rz) (v3 : Int) : Option (AV) := kInt .i64 c fun n_2 => qpx cs n n_2 bd v3
noncomputable abbrev qpz (cs : List AV) (n : Int) (bd : Rz) (v3 : Int) : Option (AV) := qa cs fun c cs => qpy c cs n bd v3
noncomputable abbrev qpA (c : AV) (cs : List AV) (bd : Rz) (v3 : Int) : Option (AV) := kInt .i64 c fun n => qpz cs n bd v3
noncomputable abbrev qpB (row : List AV) (bd : Rz) (v3 : Int) : Option (AV) := qa (qyM 4 (qzj 1 row)) fun c cs => qpA c cs bd v3
noncomputable abbrev qpC (row : List AV) (bd : Rz) (v3 : Int) : Option (AV) := bif qyQ 5 (qyH row) then qpB row bd v3 else none
noncomputable abbrev qpD (row : List AV) (bd : Rz) (v3 : Int) : Option (AV) := bif qyW (qyH row) 5 then qpC row bd v3 else none
noncomputable abbrev qlm (bd : Rz) (v3 : Int) : Option (AV) := kOpt (qyG bd (v3.toNat)) fun row => qpD row bd v3
theorem qf2 (bd : Rz) (v3 : Int) {P : AV → Prop} (h : Gets (bif decide (v3 < (bd.length : Int)) then bif qh 0 v3 && qg v3 (bd.length : Int) then kOpt (qyG bd (v3.toNat)) fun row => bif qyW (qyH row) 5 then kOpt (qyG row 0) fun v => kInt .i64 v fun n => bif decide (n < 0) then some (.bool false) else bif qh (0 : Int) v3 && qg v3 (bd.length : Int) then kOpt (qyG bd (v3.toNat)) fun row => bif qyW (qyH row) 5 then kOpt (qyG row 0) fun v => kInt .i64 v fun n => bif decide (n > 99) then some (.bool false) else bif decide (v3 > 0) then bif qh 0 v3 && qg v3 (↑ (qyH bd) : Int) then kOpt (qyG bd (v3.toNat)) fun row => bif qyW (qyH row) 5 then kOpt (qyG row 0) fun v => kInt .i64 v fun n => bif qh 0 (IntKind.wrap .i64 (v3 - 1)) && qg (IntKind.wrap .i64 (v3 - 1)) (bd.length : Int) then kOpt (qyG bd (qyY (IntKind.wrap .i64 (v3 - 1)))) fun row => bif qyW (qyH row) 5 then kOpt (qyG row 0) fun v => kInt .i64 v fun n_1 => bif decide (n ≤ n_1) then some (.bool false) else bif qh 0 v3 && qg v3 (bd.length : Int) then qlm bd v3 else none else none else none else none else none else bif qh 0 v3 && qg v3 (↑ (qyH bd) : Int) then qlm bd v3 else none else none else none else none else none else some (.bool true)) P) : Gets (qd7 bd v3) P :=
  gE (fun _ => qn (cfg := cfg) (f := 160) (rd := none) (bs := 0)) (by kernel_rfl) h
theorem qf3 (nv3 : Nat) (v4 c0_0 c0_1 : Int) (c0_2 : Bz) (c0_3 : Rz) (c1_0 c1_1 : Int) (c1_2 : Bz) (c1_3 h2 : Rz) {P : AV → Prop} (h : Gets (bif decide (v4 < (c0_3.length : Int)) then bif qh 0 v4 && qg v4 (c0_3.length : Int) then kOpt (qyG c0_3 (v4.toNat)) fun row => bif qyW (qyH row) 4 then bif qyQ 4 (qyH row) then kTmC (qyM 4 row) fun n n_1 s rows => (kOpt (EVf (EV cfg) 76 [.agg [.int .i64 n, .int .i64 n_1, .str s, .sl rows]]) fun v => kTmV v fun n n_2 s rows => (bif qyQ (0 + nv3) (qyH h2) && qN (nv3 + 1) 56 then qhx (nv3 + 1) (IntKind.wrap .i64 (v4 + 1)) c0_0 c0_1 c0_2 c0_3 c1_0 c1_1 c1_2 c1_3 (qy4 (qyM nv3 h2) [[AV.int .i64 n, .int .i64 n_2, .str s, .sl rows]]) else none)) else none else none else none else bif qyQ (0 + nv3) (qyH h2) && true then some (.agg [.int .i64 c0_0, .int .i64 c0_1, .str c0_2, .sl (qyM nv3 h2)]) else none) P) : Gets (qhx nv3 v4 c0_0 c0_1 c0_2 c0_3 c1_0 c1_1 c1_2 c1_3 h2) P :=
  gE (fun _ => qn (cfg := cfg) (f := 76) (rd := none) (bs := 0)) (by kernel_rfl) h
theorem qbu (A B : Rz) (v5 v6 : Int) {P : AV → Prop} (h : Gets (bif decide (v6 < (A.length : Int)) then bif v5 == 0 then bif qh 0 v6 && qg v6 (A.length : Int) then kOpt (qyG A (v6.toNat)) fun row => bif qyW (qyH row) 4 then bif qyQ 4 (qyH row) then kTmC (qyM 4 row) fun n n_1 s rows => (bif qh 0 v6 && qg v6 (B.length : Int) then kOpt (qyG B (v6.toNat)) fun row => bif qyW (qyH row) 4 then bif qyQ 4 (qyH row) then kTmC (qyM 4 row) fun n_2 n_3 s_1 rows_1 => (kOpt (EVs (EV cfg) 151 [.agg [.int .i64 n, .int .i64 n_1, .str s, .sl rows], .agg [.int .i64 n_2, .int .i64 n_3, .str s_1, .sl rows_1]]) fun v => kInt .i64 v fun n => qcF A B n (IntKind.wrap .i64 (v6 + 1))) else none else none else none) else none else none else none else some (.int .i64 v5) else some (.int .i64 v5)) P) : Gets (qcF A B v5 v6) P :=
  gE (fun _ => qn (cfg := cfg) (f := 229) (rd := none) (bs := 0)) (by kernel_rfl) h
end Go.Proofs.YtkgkjngbfdnoiaaGreat
end
section
namespace Go.Av
def numT (i : Int) : Tm := .mk 1 i [] []
def symT (s : List UInt8) : Tm := .mk 2 0 s []
def tupT (l : List Tm) : Tm := .mk 7 0 [] l
def qX : Tm := .mk 0 0 [] []
theorem qfM (i : Int) : (numT i).av = .agg [.int .i64 1, .int .i64 i, .str [], .sl []] := by rw [numT, Tm.av_mk, qI]
theorem qo4 (s : List UInt8) : (symT s).av = .agg [.int .i64 2, .int .i64 0, .str s, .sl []] := by rw [symT, Tm.av_mk, qI]
theorem vq : qX.av = .agg [.int .i64 0, .int .i64 0, .str [], .sl []] := by rw [qX, Tm.av_mk, qI]
def InB (a : Int) : Prop := -576460752303423488 ≤ a ∧ a ≤ 576460752303423487
instance (a : Int) : Decidable (InB a) := inferInstanceAs (Decidable (_ ∧ _))
theorem qth {a : Int} (h : InB a) : (numT a).chk = 0 := by
 obtain ⟨h1, h2⟩ := h
 simp [numT, Tm.chk, chkS, vn, Tm.parts, xS, qU, Tm.words, Tm.own, Tm.kind, h1, h2]
def qK (n : Int) : Option Tm := if InB n then some (numT n) else none
theorem zR {a : Int} (h : InB a) : BitVec.ofInt 64 a = (BitVec.ofInt 60 a).signExtend 64 := by
 obtain ⟨h1, h2⟩ := h
 apply BitVec.eq_of_toInt_eq
 rw [BitVec.toInt_signExtend_of_le (by omega), BitVec.toInt_ofInt, BitVec.toInt_ofInt]
 rw [Int.bmod_eq_of_le (by omega) (by omega), Int.bmod_eq_of_le (by omega) (by omega)]
theorem qa7 (r : BitVec 64) : IntKind.wrap .i64 r.toNat = r.toInt := by
 have h := r.isLt
 rw [BitVec.toInt_eq_toNat_cond]
 simp [IntKind.wrap, IntKind.bits, IntKind.signed]
 omega
def bvG (op : BinOp) (a b : Int) : Int :=
 match op with
 | .and => (BitVec.ofInt 60 a &&& BitVec.ofInt 60 b).toInt
 | .or => (BitVec.ofInt 60 a ||| BitVec.ofInt 60 b).toInt
 | _ => (BitVec.ofInt 60 a ^^^ BitVec.ofInt 60 b).toInt
theorem qpn {a b : Int} (ha : InB a) (hb : InB b) : qA (Op.intBits .and .i64 a b) = some (.int .i64 (bvG .and a b)) := by
 have : qA (Op.intBits .and .i64 a b) = some (.int .i64 (IntKind.wrap .i64 (BitVec.ofInt 64 a &&& BitVec.ofInt 64 b).toNat)) := rfl
 rw [this, qa7, zR ha, zR hb, ← BitVec.signExtend_and, BitVec.toInt_signExtend_of_le (by omega)]; rfl
theorem qsu {a b : Int} (ha : InB a) (hb : InB b) : qA (Op.intBits .or .i64 a b) = some (.int .i64 (bvG .or a b)) := by
 have : qA (Op.intBits .or .i64 a b) = some (.int .i64 (IntKind.wrap .i64 (BitVec.ofInt 64 a ||| BitVec.ofInt 64 b).toNat)) := rfl
 rw [this, qa7, zR ha, zR hb, ← BitVec.signExtend_or, BitVec.toInt_signExtend_of_le (by omega)]; rfl
theorem qpm {a b : Int} (ha : InB a) (hb : InB b) : qA (Op.intBits .xor .i64 a b) = some (.int .i64 (bvG .xor a b)) := by
 have : qA (Op.intBits .xor .i64 a b) = some (.int .i64 (IntKind.wrap .i64 (BitVec.ofInt 64 a ^^^ BitVec.ofInt 64 b).toNat)) := rfl
 rw [this, qa7, zR ha, zR hb, ← BitVec.signExtend_xor, BitVec.toInt_signExtend_of_le (by omega)]; rfl
def xF (op : List UInt8) (a b : Int) : Option Tm :=
 if op = [43] then qK (a + b)
 else if op = [45] then qK (a - b)
 else if op = [42] then qK (a * b)
 else if op = [98, 97, 110, 100] then qK (bvG .and a b)
 else if op = [98, 111, 114] then qK (bvG .or a b)
 else if op = [98, 120, 111, 114] then qK (bvG .xor a b)
 else if b = 0 then none
 else if op = [100, 105, 118] then qK (a.tdiv b)
 else qK (a.tmod b)
theorem beqS (a b : List UInt8) : (a == b) = decide (a = b) := by by_cases h : a = b <;> simp [h]
theorem xY {a b : Int} (h : b ≠ 0) : qA (Op.intDiv .quo .i64 a b) = some (.int .i64 (IntKind.wrap .i64 (a.tdiv b))) := by
 unfold Op.intDiv; rw [if_neg h]; rfl
theorem qiX {a b : Int} (h : b ≠ 0) : qA (Op.intDiv .rem .i64 a b) = some (.int .i64 (a.tmod b)) := by
 unfold Op.intDiv; rw [if_neg h]; rfl
theorem qlO {a b : Int} (_h : b ≠ 0) : (a.tdiv b).natAbs ≤ a.natAbs := by
 rw [Int.natAbs_tdiv]; exact Nat.div_le_self _ _
structure Env where
 obj : Tm
 binds : List (Int × Tm)
 self : Int
def qo (l : List (Int × Tm)) : List (List AV) := l.map fun p => .int .i64 p.1 :: p.2.cells
theorem qQ (l : List (Int × Tm)) : (qo l).length = l.length := by simp [qo]
theorem xI (l : List (Int × Tm)) (i : Nat) : (qo l)[i]? = (l[i]?).map fun p => .int .i64 p.1 :: p.2.cells := by simp [qo]
abbrev mR (e : Env) (b : Bool) : List (List AV) := [[.int .i64 e.obj.kind, .int .i64 e.obj.num, .str e.obj.str, .sl (qb e.obj.subs), .sl (qo e.binds), .int .i64 e.self, .bool b]]
def Res (e : Env) (o : Option Tm) (r : AV × List (List AV)) : Prop :=
 match o with
 | some t => r = (t.av, mR e false)
 | none => r.2 = mR e true ∧ ∃ t : Tm, r.1 = t.av
def tru : List UInt8 := [116, 114, 117, 101]
def fal : List UInt8 := [102, 97, 108, 115, 101]
def vh (b : Bool) : Tm := symT (if b then tru else fal)
def vu (t : Tm) : Option Bool := if t.kind = 2 ∧ t.str = tru then some true else if t.kind = 2 ∧ t.str = fal then some false else none
def twoG (op : List UInt8) (a b : Tm) : Option Tm :=
 if op = [61, 61] then some (vh (decide (cmpT a b = 0)))
 else if op = [61, 58, 61] then some (vh (decide (cmpT a b = 0)))
 else if op = [47, 61] then some (vh (!decide (cmpT a b = 0)))
 else if op = [61, 47, 61] then some (vh (!decide (cmpT a b = 0)))
 else if op = [60] then some (vh (decide (cmpT a b < 0)))
 else if op = [61, 60] then some (vh (decide (cmpT a b ≤ 0)))
 else if op = [62] then some (vh (decide (cmpT a b > 0)))
 else if op = [62, 61] then some (vh (decide (cmpT a b ≥ 0)))
 else if op = [97, 110, 100] ∨ op = [97, 110, 100, 97, 108, 115, 111] then (vu a).bind fun x => (vu b).map fun y => vh (x && y)
 else if op = [111, 114] ∨ op = [111, 114, 101, 108, 115, 101] then (vu a).bind fun x => (vu b).map fun y => vh (x || y)
 else if op = [120, 111, 114] then (vu a).bind fun x => (vu b).map fun y => vh (x != y)
 else if op = [101, 108, 101, 109, 101, 110, 116] then (if a.kind = 1 ∧ 1 ≤ a.num ∧ b.kind = 7 ∧ a.num ≤ b.subs.length then b.subs[(a.num - 1).toNat]? else none)
 else if a.kind = 1 ∧ b.kind = 1 then xF op a.num b.num else none
def qbJ : List (List UInt8 × List Int) := [
 ([115, 101, 108, 102], [0]),
 ([105, 115, 95, 97, 116, 111, 109], [1]),
 ([105, 115, 95, 105, 110, 116, 101, 103, 101, 114], [1]),
 ([105, 115, 95, 108, 105, 115, 116], [1]),
 ([105, 115, 95, 116, 117, 112, 108, 101], [1]),
 ([105, 115, 95, 112, 105, 100], [1]),
 ([105, 115, 95, 102, 117, 110, 99, 116, 105, 111, 110], [1]),
 ([105, 115, 95, 114, 101, 102, 101, 114, 101, 110, 99, 101], [1]),
 ([110, 111, 116], [1]),
 ([98, 110, 111, 116], [1]),
 ([97, 98, 115], [1]),
 ([116, 117, 112, 108, 101, 95, 115, 105, 122, 101], [1]),
 ([115, 105, 122, 101], [1]),
 ([104, 100], [1]),
 ([116, 108], [1]),
 ([108, 101, 110, 103, 116, 104], [1]),
 ([43], [1, 2]),
 ([45], [1, 2]),
 ([61, 61], [2]),
 ([61, 58, 61], [2]),
 ([47, 61], [2]),
 ([61, 47, 61], [2]),
 ([60], [2]),
 ([61, 60], [2]),
 ([62], [2]),
 ([62, 61], [2]),
 ([97, 110, 100], [2]),
 ([111, 114], [2]),
 ([120, 111, 114], [2]),
 ([97, 110, 100, 97, 108, 115, 111], [2]),
 ([111, 114, 101, 108, 115, 101], [2]),
 ([42], [2]),
 ([100, 105, 118], [2]),
 ([114, 101, 109], [2]),
 ([98, 97, 110, 100], [2]),
 ([98, 111, 114], [2]),
 ([98, 120, 111, 114], [2]),
 ([101, 108, 101, 109, 101, 110, 116], [2])]
def xO {β : Type} (op : List UInt8) (d : β) : List (List UInt8 × β) → β
 | [] => d
 | p :: l => bif op == p.1 then p.2 else xO op d l
theorem qeT {β γ : Type} (g : β → γ) (op : List UInt8) (d : β) : ∀ l : List (List UInt8 × β), xO op (g d) (l.map fun p => (p.1, g p.2)) = g (xO op d l)
 | [] => rfl
 | p :: l => by
  rw [List.map_cons, xO, xO, qeT g op d l]
  cases op == p.1 <;> rfl
def opsG (op : List UInt8) : List Int := xO op [] qbJ
def qx (l : List Int) : List (List AV) := l.map fun n => [.int .i64 n]
theorem q4 (l : List Int) : (qx l).length = l.length := by simp [qx]
theorem qaT (l : List Int) (i : Nat) : (qx l)[i]? = (l[i]?).map fun n => [AV.int .i64 n] := by simp [qx]
def y8 (n : Int) : Bool := decide (1 ≤ n) && decide (n ≤ 1073741824)
theorem qvh (n : Int) : (numT n).Ok := by simp [numT, Tm.Ok, OkL]
theorem qka {n : Int} {t : Tm} (h : qK n = some t) : t.Ok ∧ t = numT n := by
 unfold qK at h
 split at h
 ·cases h; exact ⟨qvh n, rfl⟩
 ·cases h
theorem qok {op : List UInt8} {a b : Int} {t : Tm} (h : xF op a b = some t) : t.Ok ∧ ∃ n, t = numT n := by
 unfold xF at h
 repeat' split at h
 all_goals first | (cases h; done) | exact ⟨(qka h).1, _, (qka h).2⟩
theorem Tm.Ok.subs {t : Tm} (h : t.Ok) {x : Tm} (hx : x ∈ t.subs) : x.Ok := by
 obtain ⟨k, n, s, l⟩ := t
 exact h.sub hx
def xD (b : UInt8) : Option Int := if b.toNat < 48 then none else if b.toNat > 57 then none else some ((b.toNat : Int) - 48)
def varG : List UInt8 → Option Int
 | [a, b] => if a.toNat = 36 then xD b else none
 | [a, b, c] => if a.toNat = 36 ∧ b.toNat ≠ 48 then (xD b).bind fun x => (xD c).map fun y => x * 10 + y else none
 | _ => none
theorem qaV {b : UInt8} {x : Int} (h : xD b = some x) : 0 ≤ x ∧ x ≤ 9 := by
 unfold xD at h
 split at h
 ·cases h
 ·split at h
  ·cases h
  ·cases h; omega
theorem qlp (a b : UInt8) : varG [a, b] = if a.toNat = 36 then xD b else none := rfl
theorem qfB (a b c : UInt8) : varG [a, b, c] = if a.toNat = 36 ∧ b.toNat ≠ 48 then (xD b).bind fun x => (xD c).map fun y => x * 10 + y else none := rfl
theorem qcL {s : List UInt8} {x : Int} (h : varG s = some x) : 0 ≤ x ∧ x ≤ 99 := by
 unfold varG at h
 split at h
 ·split at h
  ·have := qaV h; omega
  ·cases h
 ·split at h
  ·obtain ⟨a, h1, h2⟩ := qyJ.1 h
   obtain ⟨b, h3, rfl⟩ := qyO.1 h2
   have := qaV h1
   have := qaV h3
   omega
  ·cases h
 ·cases h
def varT (t : Tm) : Option Int := if t.kind = 2 ∧ t.chk = 0 then varG t.str else none
theorem qhI {n : Nat} (h : n < 18446744073709551616) : IntKind.wrap .u64 (n : Int) = n := by
 simp [IntKind.wrap, IntKind.bits, IntKind.signed]; omega
theorem qfF {n : Nat} (h : n < 64) : qA (Op.shift .shl .u64 1 .i64 (n : Int)) = some (.int .u64 ((2 ^ n : Nat) : Int)) := by
 have hp : 2 ^ n < 18446744073709551616 := by
  have : 2 ^ n < 2 ^ 64 := Nat.pow_lt_pow_right (by omega) h
  simpa using this
 have : qA (Op.shift .shl .u64 1 .i64 (n : Int)) = some (.int .u64 (IntKind.wrap .u64 (1 * 2 ^ (min (n : Int).toNat 64)))) := by
  unfold Op.shift
  rw [if_neg (by omega)]; rfl
 rw [this, qy3, Nat.min_eq_left (by omega), Int.one_mul]
 have e : ((2 : Int) ^ n) = ((2 ^ n : Nat) : Int) := by simp
 rw [e, qhI hp]
theorem qfJ {a b : Nat} (ha : a < 18446744073709551616) (hb : b < 18446744073709551616) : qA (Op.intBits .or .u64 (a : Int) (b : Int)) = some (.int .u64 ((a ||| b : Nat) : Int)) := by
 have : qA (Op.intBits .or .u64 (a : Int) (b : Int)) = some (.int .u64 (IntKind.wrap .u64 (BitVec.ofInt 64 (a : Int) ||| BitVec.ofInt 64 (b : Int)).toNat)) := rfl
 rw [this]
 have ea : (BitVec.ofInt 64 (a : Int)).toNat = a := by simp [BitVec.toNat_ofInt]; omega
 have eb : (BitVec.ofInt 64 (b : Int)).toNat = b := by simp [BitVec.toNat_ofInt]; omega
 have hlt := (BitVec.ofInt 64 (a : Int) ||| BitVec.ofInt 64 (b : Int)).isLt
 rw [qhI (by simpa using hlt), BitVec.toNat_or, ea, eb]
theorem qo5 {a n : Nat} (ha : a < 18446744073709551616) (hn : n < 64) : qA (Op.shift .shr .u64 (a : Int) .i64 (n : Int)) = some (.int .u64 ((a / 2 ^ n : Nat) : Int)) := by
 have : qA (Op.shift .shr .u64 (a : Int) .i64 (n : Int)) = some (.int .u64 (Int.fdiv a (2 ^ (min (n : Int).toNat 64)))) := by
  unfold Op.shift
  rw [if_neg (by omega)]; rfl
 rw [this, qy3, Nat.min_eq_left (by omega)]
 have e : ((2 : Int) ^ n) = ((2 ^ n : Nat) : Int) := by simp
 rw [e, Int.fdiv_eq_ediv_of_nonneg _ (Int.natCast_nonneg _)]
 rfl
theorem qpr {a : Nat} (ha : a < 18446744073709551616) : qA (Op.intBits .and .u64 (a : Int) 1) = some (.int .u64 ((a % 2 : Nat) : Int)) := by
 have : qA (Op.intBits .and .u64 (a : Int) 1) = some (.int .u64 (IntKind.wrap .u64 (BitVec.ofInt 64 (a : Int) &&& BitVec.ofInt 64 1).toNat)) := rfl
 rw [this]
 have ea : (BitVec.ofInt 64 (a : Int)).toNat = a := by simp [BitVec.toNat_ofInt]; omega
 have eb : (BitVec.ofInt 64 (1 : Int)).toNat = 1 := by decide
 rw [BitVec.toNat_and, ea, eb, Nat.and_one_is_mod, qhI (by omega)]
def zC (p : Nat → Bool) (r : List AV) : Prop := ∃ (lo hi : Nat) (l : List AV), r = .int .u64 lo :: .int .u64 hi :: l ∧ lo < 18446744073709551616 ∧ hi < 18446744073709551616 ∧ (∀ n, n < 64 → lo.testBit n = p n) ∧ ∀ n, n < 64 → hi.testBit n = p (n + 64)
theorem qrs {r cs : List AV} {o k : Nat} (hc : cs.length = 4) (h : o + 4 ≤ r.length) (hk : k < o ∨ o + 4 ≤ k) : (qy4 (qy4 (r.take o) cs) (r.drop (o + 4)))[k]? = r[k]? := by
 show ((r.take o ++ cs) ++ r.drop (o + 4))[k]? = r[k]?
 have hl : (r.take o).length = o := by simp; omega
 rcases hk with hk | hk
 ·rw [qyU (by simp; omega), qyU (by omega), List.getElem?_take, if_pos hk]
 ·rw [qyZ (by simp; omega), List.getElem?_drop]
  congr 1
  simp [hc]
  omega
theorem qrr {r cs : List AV} {o : Nat} (hc : cs.length = 4) (h : o + 4 ≤ r.length) : (qy4 (qy4 (r.take o) cs) (r.drop (o + 4))).length = r.length := by
 show ((r.take o ++ cs) ++ r.drop (o + 4)).length = r.length
 simp [hc]; omega
theorem qpK {r cs : List AV} {o : Nat} (hc : cs.length = 4) (h : o + 4 ≤ r.length) : ((qy4 (qy4 (r.take o) cs) (r.drop (o + 4))).drop o).take 4 = cs := by
 show (((r.take o ++ cs) ++ r.drop (o + 4)).drop o).take 4 = cs
 have hl : (r.take o).length = o := by simp; omega
 rw [List.append_assoc, List.drop_append_of_le_length (by omega), List.drop_of_length_le (by omega), List.nil_append, List.take_append_of_le_length (by omega), qyP (by omega)]
theorem qnD {r cs : List AV} {o o' : Nat} (hc : cs.length = 4) (h : o + 4 ≤ r.length) (hd : o' + 4 ≤ o ∨ o + 4 ≤ o') : ((qy4 (qy4 (r.take o) cs) (r.drop (o + 4))).drop o').take 4 = (r.drop o').take 4 := by
 apply List.ext_getElem?
 intro j
 by_cases hj : j < 4
 ·rw [List.getElem?_take, List.getElem?_take, if_pos hj, if_pos hj, List.getElem?_drop, List.getElem?_drop, qrs hc h (by omega)]
 ·rw [List.getElem?_take, List.getElem?_take, if_neg hj, if_neg hj]
def mayB : Int → List (Int × Tm) → Bool
 | _, [] => true
 | last, p :: l => decide (last < p.1) && (decide (p.1 ≤ 99) && (decide (p.2.chk = 0) && mayB p.1 l))
def qP (n : Int) : List (Int × Tm) → Option Tm
 | [] => none
 | p :: l => if p.1 = n then some p.2 else qP n l
structure BRow (m : List (Int × Tm)) (r : List AV) : Prop where
 len : r.length = 402
 set : zC (fun i => (qP i m).isSome) r
 cells : ∀ i : Nat, i < 100 → ∀ t, qP i m = some t → (r.drop (2 + i * 4)).take 4 = t.cells
 free : qz 0 r = true
theorem z5 (n : Int) (p : Int × Tm) : ∀ m : List (Int × Tm), qP n (m ++ [p]) = match qP n m with | some t => some t | none => if p.1 = n then some p.2 else none
 | [] => by simp [qP]
 | q :: m => by
  rw [List.cons_append, qP, qP]
  by_cases h : q.1 = n
  ·rw [if_pos h, if_pos h]
  ·rw [if_neg h, if_neg h]; exact z5 n p m
theorem xy {n : Int} {t : Tm} : ∀ {m : List (Int × Tm)}, qP n m = some t → (n, t) ∈ m
 | [], h => by cases h
 | q :: m, h => by
  rw [qP] at h
  by_cases hq : q.1 = n
  ·rw [if_pos hq] at h; cases h; subst hq; exact List.mem_cons_self
  ·rw [if_neg hq] at h; exact List.mem_cons_of_mem _ (xy h)
theorem qdw : ∀ {l : List (Int × Tm)} {last : Int}, mayB last l = true → ∀ p ∈ l, last < p.1 ∧ p.1 ≤ 99
 | [], _, _, p, hp => by cases hp
 | q :: l, last, h, p, hp => by
  simp only [mayB, qyK, decide_eq_true_eq] at h
  rcases qzm.1 hp with rfl | hp
  ·exact ⟨h.1, h.2.1⟩
  ·have := qdw h.2.2.2 p hp
   omega
theorem BRow.add {m : List (Int × Tm)} {r r' : List AV} {n : Nat} {t : Tm} (h : BRow m r) (hn : n < 100) (hnew : qP n m = none)
  (h1 : zC (fun i => (fun i : Nat => (qP i m).isSome) i || decide (i = n)) r') (h2 : r'.drop 2 = r.drop 2) (h3 : r'.length = r.length) (h4 : qz 0 r = true → qz 0 r' = true) :
  BRow (m ++ [((n : Int), t)]) (qy4 (qy4 (r'.take (2 + n * 4)) t.cells) (r'.drop (2 + n * 4 + 4))) := by
 have hl : r'.length = 402 := by rw [h3, h.len]
 have hc : t.cells.length = 4 := qi t
 have ho : 2 + n * 4 + 4 ≤ r'.length := by omega
 have hd : ∀ j, (r'.drop (2 + j)) = r.drop (2 + j) := by
  intro j
  rw [← List.drop_drop, ← List.drop_drop, h2]
 refine ⟨by rw [qrr hc ho, hl], ?_, fun i hi t' ht' => ?_, ?_⟩
 ·obtain ⟨lo, hi, l, rfl, a1, a2, a3, a4⟩ := h1
  obtain ⟨o, ho'⟩ : ∃ o, 2 + n * 4 = o + 2 := ⟨n * 4, by omega⟩
  have lk : ∀ i : Nat, (qP i (m ++ [((n : Int), t)])).isSome = ((qP i m).isSome || decide (i = n)) := by
   intro i
   rw [z5]
   cases hx : qP (i : Int) m with
   | some x => rfl
   | none =>
    by_cases hi : i = n
    ·subst hi; simp
    ·have : ¬ ((n : Int) = (i : Int)) := by omega
     simp [this, hi]
  refine ⟨lo, hi, (l.take o ++ t.cells) ++ l.drop (o + 4), ?_, a1, a2, fun i hi => ?_, fun i hi => ?_⟩
  ·rw [ho']; rfl
  ·exact (a3 i hi).trans (lk i).symm
  ·exact (a4 i hi).trans (lk (i + 64)).symm
 ·rw [z5] at ht'
  by_cases hin : i = n
  ·subst hin
   rw [hnew] at ht'
   simp at ht'
   subst ht'
   exact qpK hc ho
  ·cases hx : qP (i : Int) m with
   | none =>
    rw [hx] at ht'
    have : ¬ ((n : Int) = (i : Int)) := by omega
    simp [this] at ht'
   | some x =>
    rw [hx] at ht'
    cases ht'
    rw [qnD hc ho (by omega), hd]
    exact h.cells i hi _ hx
 ·show qz 0 ((r'.take (2 + n * 4) ++ t.cells) ++ r'.drop (2 + n * 4 + 4)) = true
  have hf := h4 h.free
  exact qaA (qaA (qeE hf) (qjf t)) (qeF hf)
def qcb (n : Int) (l : List (Int × Tm)) : Option Tm := if mayB (-1) l then qP n l else none
mutual
/-- is a term an expression over some variables? -/
def isG (V : List Int) : Tm → Bool
  | .mk k n s l =>
    if k = 2 then (match varT (.mk k n s l) with | none => true | some x => decide (x ∈ V))
    else if k = 9 then allG V l
    else if k = 7 then
      (match l with
       | [] => false
       | (.mk k1 _ s1 l1) :: rest =>
         if k1 = 7 then decide (rest.length = 0) && allG V l1
         else if k1 = 2 then (if s1 = [99, 111, 110, 115, 116] then decide (rest.length = 1) else decide ((rest.length : Int) ∈ opsG s1) && allG V rest)
         else false)
    else true
def allG (V : List Int) : List Tm → Bool
  | [] => true
  | t :: l => isG V t && allG V l
end
theorem qat {V : List Int} {t : Tm} (h : t.kind = 2) : isG V t = (match varT t with | none => true | some x => decide (x ∈ V)) := by
 obtain ⟨k, n, s, l⟩ := t
 simp only [Tm.kind_mk] at h
 rw [isG.eq_def]; simp only []; rw [if_pos h]
theorem qdK {V : List Int} {t : Tm} (h : t.kind = 9) : isG V t = allG V t.subs := by
 obtain ⟨k, n, s, l⟩ := t
 simp only [Tm.kind_mk] at h
 subst h
 rw [isG.eq_def]; simp only []; rw [if_neg (by omega), if_pos trivial]; rfl
theorem qcW {V : List Int} {t : Tm} (h : t.kind = 7) (hl : t.subs = []) : isG V t = false := by
 obtain ⟨k, n, s, l⟩ := t
 simp only [Tm.kind_mk, Tm.subs_mk] at h hl
 subst h hl
 rw [isG.eq_def]; simp only []; rw [if_neg (by omega), if_neg (by omega), if_pos trivial]
theorem qcV {V : List Int} {t f : Tm} {r : List Tm} (h : t.kind = 7) (hl : t.subs = f :: r) : isG V t =
  if f.kind = 7 then decide (r.length = 0) && allG V f.subs
  else if f.kind = 2 then (if f.str = [99, 111, 110, 115, 116] then decide (r.length = 1) else decide ((r.length : Int) ∈ opsG f.str) && allG V r) else false := by
 obtain ⟨k, n, s, l⟩ := t
 obtain ⟨k1, n1, s1, l1⟩ := f
 simp only [Tm.kind_mk, Tm.subs_mk] at h hl
 subst h hl
 rw [isG.eq_def]; simp only []; rw [if_neg (by omega), if_neg (by omega), if_pos trivial]; rfl
theorem qkA {V : List Int} {t : Tm} (h2 : t.kind ≠ 2) (h9 : t.kind ≠ 9) (h7 : t.kind ≠ 7) : isG V t = true := by
 obtain ⟨k, n, s, l⟩ := t
 simp only [Tm.kind_mk] at h2 h9 h7
 rw [isG.eq_def]; simp only []; rw [if_neg h2, if_neg h9, if_neg h7]
theorem qjk {V : List Int} : ∀ {l : List Tm}, allG V l = false ↔ ∃ x ∈ l, isG V x = false
 | [] => by simp [allG]
 | t :: l => by
  rw [allG, Bool.and_eq_false_iff, qjk (l := l)]
  simp
def xg (V : List Int) (t : Tm) : Int := if t.chk = 0 then (if isG V t then 0 else 10) else 2
end Go.Av
end
