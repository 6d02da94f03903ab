/-
  CodeJoins answers true of any term; where what it reads is of the bulk that the statement says.
-/
import Derived.Test.YtkohdkldmpiiiaaGreatZCodeJoinsM5
namespace Go.Proofs.YtkohdkldmpiiiaaGreat
open Go.Av Go.ChangeShapes Go.WideShapes Go.ChangeAt Go.RowKit
set_option maxRecDepth 100000

theorem codeJoins_contract (H : Type) (enc : TypeId × Value → H) (W : World) (base : Nat) (args : Array Value) (ds gs : List (DataW H)) (before : List MemPlace)
    (hval : ∀ (j : Nat) t v, Tryz.f5.params[j]? = some t → args[j]? = some v → Value.okWide Tryz.prog W .any base t v)
    (hW : DataW.Whole enc Tryz.prog Tryz.f5.params.toList Rows.codeJoinsSpec.vars false W args.toList ds gs before) (hk : Rows.uptoSmall H (ds ++ gs) = true) :
    Calls Tryz.prog 5 args W fun e W' => ∃ v, e = .returned v ∧ Rows.codeJoinsSpec.post enc Tryz.prog Tryz.f5 false true false false W args v W' := by
  have hW' := hW
  have hlt := hW.lt
  obtain ⟨p, q, hA0, hV, rfl, hfz, hnd⟩ := hW
  have hA : DataW.TrodAll enc Tryz.prog W 0 (fun _ => true) true Tryz.f5.params.toList args.toList ds p := hA0
  rw [Tryz.params5] at hA hval
  obtain ⟨v0, vs0, d0, ds0, p0, q0, hargs, rfl, rfl, h0, r0⟩ := trodAll_cons hA
  obtain ⟨rfl, rfl, rfl⟩ := trodAll_nil r0
  obtain rfl : args = #[v0] := by cases args; simp_all
  obtain ⟨rfl, rfl⟩ := trodVars_none hV
  obtain ⟨t, ot, kt⟩ := qp1 qq6 (hval 0 25 v0 rfl rfl) h0
  clear hA0
  simp only [List.append_nil] at hW' hlt hk
  have ht := Nat.lt_of_le_of_lt kt (qso (d := d0) hk (by simp))
  refine (qpV rfl (qma ht) (qsc ot.rep)).mono fun e W' ⟨he, hh, hs, ho, hu⟩ => ?_
  subst he
  refine ⟨_, rfl, qpZ (pa := (p0 ++ [])) (pv := []) hW' (fun _ _ _ => (trodAll_cons_mk (shut_bool Tryz.underlying4 _) trodAll_mk0)) (fun sp hp => ?_) (fun _ _ => rfl) (by simp)
    (qlC hh ho hu _) (qjh hh) (ok_one (by kernel_rfl) rfl (okWide_bool_mk Tryz.underlying4 _))⟩
  exact (trodAll_cons_mk (ot.back W' sp (fun p hpp => qld hh (hlt p (by simp [hpp]))) (fun p hpp => hp p (by simp [hpp])))
    trodAll_mk0)

theorem codeJoins_lifted (os : Os) (started : os.Started) (H : Type) (enc : TypeId × Value → H) (F : Stop.Interp) :
    ReturnsInHanded {} Tryz.checked os 5 .any ((Rows.OpenSpec.upto Rows.codeJoinsSpec).pre6 enc Tryz.prog Tryz.f5 Rows.codeJoinsUptoRow.domain false) (((Rows.OpenSpec.upto Rows.codeJoinsSpec).at F).post enc Tryz.prog Tryz.f5 false true false false) := by
  refine returnsInHanded_of_cond (C := Tryz.checked) (s := Rows.OpenSpec.upto Rows.codeJoinsSpec) (k := Rows.uptoSmall) rfl qrk started (by kernel_rfl) Tryz.func5
    (OpenSpec.witness (enc := enc) (C := Tryz.checked) (s := Rows.OpenSpec.upto Rows.codeJoinsSpec) (k := Rows.uptoSmall) rfl false ⟨#[], #[.agg #[.int .i64 0, .int .i64 0, .string ⟨#[]⟩, .slice none 0 0]], []⟩ 8 (by kernel_rfl) (by kernel_rfl) (by kernel_rfl)
      (x := ([.agg [.lit (.int .i64 0), .lit (.int .i64 0), .lit (.string []), .nil]], [], [])) (by kernel_rfl) rfl (by kernel_rfl)) ?_
  intro W base args ds gs before hval hW _ hk _
  exact codeJoins_contract H enc W base args ds gs before hval hW hk

theorem codeJoins_over : Rows.codeJoinsUptoRow.holds Tryz.pinned (Rows.OpenSpec.upto Rows.codeJoinsSpec) :=
  OpenClaim.holds_of_cond 5 Tryz.f5 rfl rfl rfl rfl rfl rfl rfl ⟨rfl, rfl, rfl, rfl, rfl⟩ rfl rfl rfl rfl rfl (by kernel_rfl) Tryz.func5 (by kernel_rfl)
    (of_decide_eq_true (by kernel_rfl)) (by unfold Func.isWrapper; first | (rw [if_pos (by decide +kernel)]; kernel_rfl) | (rw [if_neg (by decide +kernel)]; exact ⟨rfl, rfl⟩))
    (fun os started H enc _ F => codeJoins_lifted os started H enc F)

theorem codeJoins_proved : Rows.CodeJoinsUptoSaid :=
  codeJoins_over
end Go.Proofs.YtkohdkldmpiiiaaGreat
