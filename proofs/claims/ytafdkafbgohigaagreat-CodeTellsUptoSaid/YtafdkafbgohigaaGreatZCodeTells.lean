/-
  CodeTells answers true of any selection, object and identifier; where what it reads is of the bulk that the statement says.
-/
import Derived.Test.YtafdkafbgohigaaGreatZCodeTellsM6
namespace Go.Proofs.YtafdkafbgohigaaGreat
open Go.Av Go.ChangeShapes Go.WideShapes Go.ChangeAt Go.RowKit
set_option maxRecDepth 100000

theorem codeTells_contract (H : Type) (enc : TypeId × Value → H) (W : World) (base : Nat) (args : Array Value) (ds gs : List (DataW H)) (before : List MemPlace)
    (hval : ∀ (j : Nat) t v, Tryz.f5.params[j]? = some t → args[j]? = some v → Value.okWide Tryz.prog W .any base t v)
    (hW : DataW.Whole enc Tryz.prog Tryz.f5.params.toList Rows.codeTellsSpec.vars false W args.toList ds gs before) (hk : Rows.uptoSmall H (ds ++ gs) = true) :
    Calls Tryz.prog 5 args W fun e W' => ∃ v, e = .returned v ∧ Rows.codeTellsSpec.post enc Tryz.prog Tryz.f5 false true false false W args v W' := by
  have hW' := hW
  have hlt := hW.lt
  obtain ⟨p, q, hA0, hV, rfl, hfz, hnd⟩ := hW
  have hA : DataW.TrodAll enc Tryz.prog W 0 (fun _ => true) true Tryz.f5.params.toList args.toList ds p := hA0
  rw [Tryz.params5] at hA hval
  obtain ⟨v0, vs0, d0, ds0, p0, q0, hargs, rfl, rfl, h0, r0⟩ := trodAll_cons hA
  obtain ⟨v1, vs1, d1, ds1, p1, q1, rfl, rfl, rfl, h1, r1⟩ := trodAll_cons r0
  obtain ⟨v2, vs2, d2, ds2, p2, q2, rfl, rfl, rfl, h2, r2⟩ := trodAll_cons r1
  obtain ⟨rfl, rfl, rfl⟩ := trodAll_nil r2
  obtain rfl : args = #[v0, v1, v2] := by cases args; simp_all
  obtain ⟨rfl, rfl⟩ := trodVars_none hV
  obtain ⟨t, ot, kt⟩ := qna qoC (hval 0 25 v0 rfl rfl) h0
  obtain ⟨o, oo, ko⟩ := qna qoC (hval 1 25 v1 rfl rfl) h1
  obtain ⟨self, oself, kself⟩ := qwX Tryz.underlying3 (hval 2 3 v2 rfl rfl) h2
  clear hA0
  simp only [List.append_nil] at hW' hlt hk
  have ht := Nat.lt_of_le_of_lt kt (qr4 (d := d0) hk (by simp))
  have ho := Nat.lt_of_le_of_lt ko (qr4 (d := d1) hk (by simp))
  refine (quR rfl (qpN self ht ho) (quS ot.rep oo.rep oself.rep)).mono fun e W' ⟨he, hh, hs, ho, hu⟩ => ?_
  subst he
  refine ⟨_, rfl, quX (pa := (p0 ++ (p1 ++ (p2 ++ [])))) (pv := []) hW' (fun _ _ _ => (trodAll_cons_mk (shut_bool Tryz.underlying4 _) trodAll_mk0)) (fun sp hp => ?_) (fun _ _ => rfl) (by simp)
    (qpd hh ho hu _) (qmB hh) (ok_one (by kernel_rfl) rfl (okWide_bool_mk Tryz.underlying4 _))⟩
  exact (trodAll_cons_mk (ot.back W' sp (fun p hpp => qd1 hh (hlt p (by simp [hpp]))) (fun p hpp => hp p (by simp [hpp])))
    (trodAll_cons_mk (oo.back W' sp (fun p hpp => qd1 hh (hlt p (by simp [hpp]))) (fun p hpp => hp p (by simp [hpp])))
    (trodAll_cons_mk (oself.back W' sp (fun p hpp => qd1 hh (hlt p (by simp [hpp]))) (fun p hpp => hp p (by simp [hpp])))
    trodAll_mk0)))

theorem codeTells_lifted (os : Os) (started : os.Started) (H : Type) (enc : TypeId × Value → H) (F : Stop.Interp) :
    ReturnsInHanded {} Tryz.checked os 5 .any ((Rows.OpenSpec.upto Rows.codeTellsSpec).pre6 enc Tryz.prog Tryz.f5 Rows.codeTellsUptoRow.domain false) (((Rows.OpenSpec.upto Rows.codeTellsSpec).at F).post enc Tryz.prog Tryz.f5 false true false false) := by
  refine returnsInHanded_of_cond (C := Tryz.checked) (s := Rows.OpenSpec.upto Rows.codeTellsSpec) (k := Rows.uptoSmall) rfl qwV started (by kernel_rfl) Tryz.func5
    (OpenSpec.witness (enc := enc) (C := Tryz.checked) (s := Rows.OpenSpec.upto Rows.codeTellsSpec) (k := Rows.uptoSmall) rfl false ⟨#[], #[.agg #[.int .i64 0, .int .i64 0, .string ⟨#[]⟩, .slice none 0 0], .agg #[.int .i64 0, .int .i64 0, .string ⟨#[]⟩, .slice none 0 0], .int .i64 0], []⟩ 8 (by kernel_rfl) (by kernel_rfl) (by kernel_rfl)
      (x := ([.agg [.lit (.int .i64 0), .lit (.int .i64 0), .lit (.string []), .nil], .agg [.lit (.int .i64 0), .lit (.int .i64 0), .lit (.string []), .nil], .lit (.int .i64 0)], [], [])) (by kernel_rfl) rfl (by kernel_rfl)) ?_
  intro W base args ds gs before hval hW _ hk _
  exact codeTells_contract H enc W base args ds gs before hval hW hk

theorem codeTells_over : Rows.codeTellsUptoRow.holds Tryz.pinned (Rows.OpenSpec.upto Rows.codeTellsSpec) :=
  OpenClaim.holds_of_cond 5 Tryz.f5 rfl rfl rfl rfl rfl rfl rfl ⟨rfl, rfl, rfl, rfl, rfl⟩ rfl rfl rfl rfl rfl (by kernel_rfl) Tryz.func5 (by kernel_rfl)
    (of_decide_eq_true (by kernel_rfl)) (by unfold Func.isWrapper; first | (rw [if_pos (by decide +kernel)]; kernel_rfl) | (rw [if_neg (by decide +kernel)]; exact ⟨rfl, rfl⟩))
    (fun os started H enc _ F => codeTells_lifted os started H enc F)

theorem codeTells_proved : Rows.CodeTellsUptoSaid :=
  codeTells_over
end Go.Proofs.YtafdkafbgohigaaGreat
