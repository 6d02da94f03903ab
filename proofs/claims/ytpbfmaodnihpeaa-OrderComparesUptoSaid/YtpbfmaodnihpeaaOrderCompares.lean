/-
  OrderCompares answers true of any two terms, and leaves them as they were; where what it reads is of bulk at most 1048576.
-/
import Derived.Test.YtpbfmaodnihpeaaRowA
import Derived.Test.YtpbfmaodnihpeaaC3d
namespace Go.Proofs.Ytpbfmaodnihpeaa
open Go.Av Go.ChangeShapes Go.WideShapes Go.ChangeAt Go.RowKit
set_option maxRecDepth 100000

theorem own_knob : ownKnob Try.prog.godebug = none := by kernel_rfl

theorem term_tys : TermTys Try.prog 24 22 3 9 where
  uT := ⟨_, _, _, _, Try.underlying24, rfl, rfl, rfl, rfl, rfl, rfl, rfl, rfl⟩
  uL := Try.underlying22
  uI := Try.underlying3
  uS := Try.underlying9
  cT := by kernel_rfl
  cL := by kernel_rfl
  cI := by kernel_rfl
  cS := by kernel_rfl

theorem orderCompares_contract (H : Type) (enc : TypeId × Value → H) (W : World) (base : Nat) (args : Array Value) (ds gs : List (DataW H)) (before : List MemPlace)
    (hval : ∀ (j : Nat) t v, Try.f3.params[j]? = some t → args[j]? = some v → Value.okWide Try.prog W .any base t v)
    (hW : DataW.Whole enc Try.prog Try.f3.params.toList Rows.orderComparesSpec.vars false W args.toList ds gs before) (hk : Rows.uptoSmall H (ds ++ gs) = true) :
    Calls Try.prog 3 args W fun e W' => ∃ v, e = .returned v ∧ Rows.orderComparesSpec.post enc Try.prog Try.f3 false true false false W args v W' := by
  have hW' := hW
  have hlt := hW.lt
  obtain ⟨p, q, hA0, hV, rfl, hfz, hnd⟩ := hW
  have hA : DataW.TrodAll enc Try.prog W 0 (fun _ => true) true Try.f3.params.toList args.toList ds p := hA0
  rw [Try.params3] at hA hval
  obtain ⟨v0, vs0, d0, ds0, p0, q0, hargs, rfl, rfl, h0, r0⟩ := trodAll_cons hA
  obtain ⟨v1, vs1, d1, ds1, p1, q1, rfl, rfl, rfl, h1, r1⟩ := trodAll_cons r0
  obtain ⟨rfl, rfl, rfl⟩ := trodAll_nil r1
  obtain rfl : args = #[v0, v1] := by cases args; simp_all
  obtain ⟨rfl, rfl⟩ := trodVars_none hV
  obtain ⟨a, oa, ka⟩ := open_term term_tys (hval 0 24 v0 rfl rfl) h0
  obtain ⟨b, ob, kb⟩ := open_term term_tys (hval 1 24 v1 rfl rfl) h1
  clear hA0
  simp only [List.append_nil] at hW' hlt hk
  have ha := ka (bulk_of hk (by simp))
  have hb := kb (bulk_of hk (by simp))
  refine (row_calls rfl (orderCompares_ev ha hb) (rep_two oa.rep ob.rep)).mono fun e W' ⟨he, hh, hs, ho, hu⟩ => ?_
  subst he
  refine ⟨_, rfl, post_same (pa := p0 ++ (p1 ++ [])) (pv := []) hW' (fun _ _ _ => (trodAll_cons_mk (shut_bool Try.underlying4 _) trodAll_mk0)) (fun sp hp => ?_) (fun _ _ => rfl) (by simp)
    (kept_of_heap hh ho hu _) (frozen_of_heap hh) (ok_one (by kernel_rfl) rfl (okWide_bool_mk Try.underlying4 _))⟩
  refine trodAll_cons_mk (oa.back W' sp (fun p hpp => same_of_heap hh (hlt p (by simp [hpp]))) (fun p hpp => hp p (by simp [hpp])))
    (trodAll_cons_mk (ob.back W' sp (fun p hpp => same_of_heap hh (hlt p (by simp [hpp]))) (fun p hpp => hp p (by simp [hpp]))) trodAll_mk0)

theorem orderCompares_lifted (os : Os) (started : os.Started) (H : Type) (enc : TypeId × Value → H) (F : Stop.Interp) :
    ReturnsInHanded {} Try.checked os 3 .any ((Rows.OpenSpec.upto Rows.orderComparesSpec).pre6 enc Try.prog Try.f3 Rows.orderComparesUptoRow.domain false) (((Rows.OpenSpec.upto Rows.orderComparesSpec).at F).post enc Try.prog Try.f3 false true false false) := by
  refine returnsInHanded_of_cond (C := Try.checked) (s := Rows.OpenSpec.upto Rows.orderComparesSpec) (k := Rows.uptoSmall) rfl own_knob started (by kernel_rfl) Try.func3
    (OpenSpec.witness (enc := enc) (C := Try.checked) (s := Rows.OpenSpec.upto Rows.orderComparesSpec) (k := Rows.uptoSmall) rfl false ⟨#[], #[.agg #[.int .i64 0, .int .i64 0, .string ⟨#[]⟩, .slice none 0 0], .agg #[.int .i64 0, .int .i64 0, .string ⟨#[]⟩, .slice none 0 0]], []⟩ 8 (by kernel_rfl) (by kernel_rfl) (by kernel_rfl)
      (x := ([.agg [.lit (.int .i64 0), .lit (.int .i64 0), .lit (.string []), .nil], .agg [.lit (.int .i64 0), .lit (.int .i64 0), .lit (.string []), .nil]], [], [])) (by kernel_rfl) rfl (by kernel_rfl)) ?_
  intro W base args ds gs before hval hW _ hk _
  exact orderCompares_contract H enc W base args ds gs before hval hW hk

theorem orderCompares_over : Rows.orderComparesUptoRow.holds Try.pinned (Rows.OpenSpec.upto Rows.orderComparesSpec) :=
  OpenClaim.holds_of_cond 3 Try.f3 rfl rfl rfl rfl rfl rfl rfl ⟨rfl, rfl, rfl, rfl, rfl⟩ rfl rfl rfl rfl rfl (by kernel_rfl) Try.func3 (by kernel_rfl)
    (of_decide_eq_true (by kernel_rfl)) (by unfold Func.isWrapper; first | (rw [if_pos (by decide +kernel)]; kernel_rfl) | (rw [if_neg (by decide +kernel)]; exact ⟨rfl, rfl⟩))
    (fun os started H enc _ F => orderCompares_lifted os started H enc F)

theorem orderCompares_proved : Rows.OrderComparesUptoSaid :=
  orderCompares_over
end Go.Proofs.Ytpbfmaodnihpeaa
