/-
  CodeRuns answers true of any code, object and process; where what it reads is of bulk at most 1048576.
-/
import Derived.Test.YtafdkafbgohigaaGreatZCodeRunsM6
namespace Go.Proofs.YtafdkafbgohigaaGreat
open Go.Av Go.ChangeShapes Go.WideShapes Go.ChangeAt Go.RowKit
set_option maxRecDepth 100000

theorem codeRuns_contract (H : Type) (enc : TypeId × Value → H) (W : World) (base : Nat) (args : Array Value) (ds gs : List (DataW H)) (before : List MemPlace)
    (hval : ∀ (j : Nat) t v, Tryz.f3.params[j]? = some t → args[j]? = some v → Value.okWide Tryz.prog W .any base t v)
    (hW : DataW.Whole enc Tryz.prog Tryz.f3.params.toList Rows.codeRunsSpec.vars false W args.toList ds gs before) (hk : Rows.uptoSmall H (ds ++ gs) = true) :
    Calls Tryz.prog 3 args W fun e W' => ∃ v, e = .returned v ∧ Rows.codeRunsSpec.post enc Tryz.prog Tryz.f3 false true false false W args v W' := by
  have hW' := hW
  have hlt := hW.lt
  obtain ⟨p, q, hA0, hV, rfl, hfz, hnd⟩ := hW
  have hA : DataW.TrodAll enc Tryz.prog W 0 (fun _ => true) true Tryz.f3.params.toList args.toList ds p := hA0
  rw [Tryz.params3] at hA hval
  obtain ⟨v0, vs0, d0, ds0, p0, q0, hargs, rfl, rfl, h0, r0⟩ := trodAll_cons hA
  obtain ⟨v1, vs1, d1, ds1, p1, q1, rfl, rfl, rfl, h1, r1⟩ := trodAll_cons r0
  obtain ⟨v2, vs2, d2, ds2, p2, q2, rfl, rfl, rfl, h2, r2⟩ := trodAll_cons r1
  obtain ⟨rfl, rfl, rfl⟩ := trodAll_nil r2
  obtain rfl : args = #[v0, v1, v2] := by cases args; simp_all
  obtain ⟨rfl, rfl⟩ := trodVars_none hV
  obtain ⟨l, ol, kl⟩ := qtg  (hval 0 22 v0 rfl rfl) h0
  obtain ⟨o, oo, ko⟩ := qtf qmZ (hval 1 25 v1 rfl rfl) h1
  obtain ⟨self, oself, kself⟩ := quL Tryz.underlying3 (hval 2 3 v2 rfl rfl) h2
  clear hA0
  simp only [List.append_nil] at hW' hlt hk
  have hl := qqp (d := d0) hk (by simp)
  have ho := Nat.le_trans ko (qqp (d := d1) hk (by simp))
  refine (R.qlw rfl (R.qpU (fun x hx => Nat.le_trans (kl.1 x hx) hl) (Nat.le_trans kl.2 hl) ho self) (qsZ ol.rep oo.rep oself.rep)).mono fun e W' ⟨he, hh, hs, ho, hu⟩ => ?_
  subst he
  refine ⟨_, rfl, qta (pa := (p0 ++ (p1 ++ (p2 ++ [])))) (pv := []) hW' (fun _ _ _ => (trodAll_cons_mk (shut_bool Tryz.underlying4 _) trodAll_mk0)) (fun sp hp => ?_) (fun _ _ => rfl) (by simp)
    (qnJ hh ho hu _) (qk6 hh) (ok_one (by kernel_rfl) rfl (okWide_bool_mk Tryz.underlying4 _))⟩
  exact (trodAll_cons_mk (ol.back W' sp (fun p hpp => qc2 hh (hlt p (by simp [hpp]))) (fun p hpp => hp p (by simp [hpp])))
    (trodAll_cons_mk (oo.back W' sp (fun p hpp => qc2 hh (hlt p (by simp [hpp]))) (fun p hpp => hp p (by simp [hpp])))
    (trodAll_cons_mk (oself.back W' sp (fun p hpp => qc2 hh (hlt p (by simp [hpp]))) (fun p hpp => hp p (by simp [hpp])))
    trodAll_mk0)))

theorem codeRuns_lifted (os : Os) (started : os.Started) (H : Type) (enc : TypeId × Value → H) (F : Stop.Interp) :
    ReturnsInHanded {} Tryz.checked os 3 .any ((Rows.OpenSpec.upto Rows.codeRunsSpec).pre6 enc Tryz.prog Tryz.f3 Rows.codeRunsUptoRow.domain false) (((Rows.OpenSpec.upto Rows.codeRunsSpec).at F).post enc Tryz.prog Tryz.f3 false true false false) := by
  refine returnsInHanded_of_cond (C := Tryz.checked) (s := Rows.OpenSpec.upto Rows.codeRunsSpec) (k := Rows.uptoSmall) rfl quI started (by kernel_rfl) Tryz.func3
    (OpenSpec.witness (enc := enc) (C := Tryz.checked) (s := Rows.OpenSpec.upto Rows.codeRunsSpec) (k := Rows.uptoSmall) rfl false ⟨#[], #[.slice none 0 0, .agg #[.int .i64 0, .int .i64 0, .string ⟨#[]⟩, .slice none 0 0], .int .i64 0], []⟩ 8 (by kernel_rfl) (by kernel_rfl) (by kernel_rfl)
      (x := ([.nil, .agg [.lit (.int .i64 0), .lit (.int .i64 0), .lit (.string []), .nil], .lit (.int .i64 0)], [], [])) (by kernel_rfl) rfl (by kernel_rfl)) ?_
  intro W base args ds gs before hval hW _ hk _
  exact codeRuns_contract H enc W base args ds gs before hval hW hk

theorem codeRuns_over : Rows.codeRunsUptoRow.holds Tryz.pinned (Rows.OpenSpec.upto Rows.codeRunsSpec) :=
  OpenClaim.holds_of_cond 3 Tryz.f3 rfl rfl rfl rfl rfl rfl rfl ⟨rfl, rfl, rfl, rfl, rfl⟩ rfl rfl rfl rfl rfl (by kernel_rfl) Tryz.func3 (by kernel_rfl)
    (of_decide_eq_true (by kernel_rfl)) (by unfold Func.isWrapper; first | (rw [if_pos (by decide +kernel)]; kernel_rfl) | (rw [if_neg (by decide +kernel)]; exact ⟨rfl, rfl⟩))
    (fun os started H enc _ F => codeRuns_lifted os started H enc F)

theorem codeRuns_proved : Rows.CodeRunsUptoSaid :=
  codeRuns_over
end Go.Proofs.YtafdkafbgohigaaGreat
