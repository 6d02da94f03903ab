/-
  BoundSides answers true of any range and any keys; where what it reads is of bulk at most 1048576.
-/
import Derived.Test.YteojjjhhmbogfaaGreatZBoundSidesM5
namespace Go.Proofs.YteojjjhhmbogfaaGreat
open Go.Av Go.ChangeShapes Go.WideShapes Go.ChangeAt Go.RowKit
set_option maxRecDepth 100000

theorem boundSides_contract (H : Type) (enc : TypeId × Value → H) (W : World) (base : Nat) (args : Array Value) (ds gs : List (DataW H)) (before : List MemPlace)
    (hval : ∀ (j : Nat) t v, Tryz.f5.params[j]? = some t → args[j]? = some v → Value.okWide Tryz.prog W .any base t v)
    (hW : DataW.Whole enc Tryz.prog Tryz.f5.params.toList Rows.boundSidesSpec.vars false W args.toList ds gs before) (hk : Rows.uptoSmall H (ds ++ gs) = true) :
    Calls Tryz.prog 5 args W fun e W' => ∃ v, e = .returned v ∧ Rows.boundSidesSpec.post enc Tryz.prog Tryz.f5 false true false false W args v W' := by
  have hW' := hW
  have hlt := hW.lt
  obtain ⟨p, q, hA0, hV, rfl, hfz, hnd⟩ := hW
  have hA : DataW.TrodAll enc Tryz.prog W 0 (fun _ => true) true Tryz.f5.params.toList args.toList ds p := hA0
  rw [Tryz.params5] at hA hval
  obtain ⟨v0, vs0, d0, ds0, p0, q0, hargs, rfl, rfl, h0, r0⟩ := trodAll_cons hA
  obtain ⟨v1, vs1, d1, ds1, p1, q1, rfl, rfl, rfl, h1, r1⟩ := trodAll_cons r0
  obtain ⟨v2, vs2, d2, ds2, p2, q2, rfl, rfl, rfl, h2, r2⟩ := trodAll_cons r1
  obtain ⟨v3, vs3, d3, ds3, p3, q3, rfl, rfl, rfl, h3, r3⟩ := trodAll_cons r2
  obtain ⟨rfl, rfl, rfl⟩ := trodAll_nil r3
  obtain rfl : args = #[v0, v1, v2, v3] := by cases args; simp_all
  obtain ⟨rfl, rfl⟩ := trodVars_none hV
  obtain ⟨r, or, kr⟩ := open_range  (hval 0 36 v0 rfl rfl) h0
  obtain ⟨a, oa, ka⟩ := open_term term_tys (hval 1 24 v1 rfl rfl) h1
  obtain ⟨b, ob, kb⟩ := open_term term_tys (hval 2 24 v2 rfl rfl) h2
  obtain ⟨c, oc, kc⟩ := open_term term_tys (hval 3 24 v3 rfl rfl) h3
  clear hA0
  simp only [List.append_nil] at hW' hlt hk
  have hr := Nat.le_trans kr (bulk_le (d := d0) hk (by simp))
  have ha := Nat.le_trans ka (bulk_le (d := d1) hk (by simp))
  have hb := Nat.le_trans kb (bulk_le (d := d2) hk (by simp))
  have hc := Nat.le_trans kc (bulk_le (d := d3) hk (by simp))
  refine (row_calls rfl (boundSides_ev (by have := len_wL r.fst; omega) (fun x hx => by have := wL_mem hx; omega) ha hb hc) (rep_four or.rep oa.rep ob.rep oc.rep)).mono fun e W' ⟨he, hh, hs, ho, hu⟩ => ?_
  subst he
  refine ⟨_, rfl, post_same (pa := (p0 ++ (p1 ++ (p2 ++ (p3 ++ []))))) (pv := []) hW' (fun _ _ _ => (trodAll_cons_mk (shut_bool Tryz.underlying4 _) trodAll_mk0)) (fun sp hp => ?_) (fun _ _ => rfl) (by simp)
    (kept_of_heap hh ho hu _) (frozen_of_heap hh) (ok_one (by kernel_rfl) rfl (okWide_bool_mk Tryz.underlying4 _))⟩
  exact (trodAll_cons_mk (or.back W' sp (fun p hpp => same_of_heap hh (hlt p (by simp [hpp]))) (fun p hpp => hp p (by simp [hpp])))
    (trodAll_cons_mk (oa.back W' sp (fun p hpp => same_of_heap hh (hlt p (by simp [hpp]))) (fun p hpp => hp p (by simp [hpp])))
    (trodAll_cons_mk (ob.back W' sp (fun p hpp => same_of_heap hh (hlt p (by simp [hpp]))) (fun p hpp => hp p (by simp [hpp])))
    (trodAll_cons_mk (oc.back W' sp (fun p hpp => same_of_heap hh (hlt p (by simp [hpp]))) (fun p hpp => hp p (by simp [hpp])))
    trodAll_mk0))))

theorem boundSides_lifted (os : Os) (started : os.Started) (H : Type) (enc : TypeId × Value → H) (F : Stop.Interp) :
    ReturnsInHanded {} Tryz.checked os 5 .any ((Rows.OpenSpec.upto Rows.boundSidesSpec).pre6 enc Tryz.prog Tryz.f5 Rows.boundSidesUptoRow.domain false) (((Rows.OpenSpec.upto Rows.boundSidesSpec).at F).post enc Tryz.prog Tryz.f5 false true false false) := by
  refine returnsInHanded_of_cond (C := Tryz.checked) (s := Rows.OpenSpec.upto Rows.boundSidesSpec) (k := Rows.uptoSmall) rfl own_knob started (by kernel_rfl) Tryz.func5
    (OpenSpec.witness (enc := enc) (C := Tryz.checked) (s := Rows.OpenSpec.upto Rows.boundSidesSpec) (k := Rows.uptoSmall) rfl false ⟨#[], #[.agg #[.int .i64 0, .slice none 0 0], .agg #[.int .i64 0, .int .i64 0, .string ⟨#[]⟩, .slice none 0 0], .agg #[.int .i64 0, .int .i64 0, .string ⟨#[]⟩, .slice none 0 0], .agg #[.int .i64 0, .int .i64 0, .string ⟨#[]⟩, .slice none 0 0]], []⟩ 8 (by kernel_rfl) (by kernel_rfl) (by kernel_rfl)
      (x := ([.agg [.lit (.int .i64 0), .nil], .agg [.lit (.int .i64 0), .lit (.int .i64 0), .lit (.string []), .nil], .agg [.lit (.int .i64 0), .lit (.int .i64 0), .lit (.string []), .nil], .agg [.lit (.int .i64 0), .lit (.int .i64 0), .lit (.string []), .nil]], [], [])) (by kernel_rfl) rfl (by kernel_rfl)) ?_
  intro W base args ds gs before hval hW _ hk _
  exact boundSides_contract H enc W base args ds gs before hval hW hk

theorem boundSides_over : Rows.boundSidesUptoRow.holds Tryz.pinned (Rows.OpenSpec.upto Rows.boundSidesSpec) :=
  OpenClaim.holds_of_cond 5 Tryz.f5 rfl rfl rfl rfl rfl rfl rfl ⟨rfl, rfl, rfl, rfl, rfl⟩ rfl rfl rfl rfl rfl (by kernel_rfl) Tryz.func5 (by kernel_rfl)
    (of_decide_eq_true (by kernel_rfl)) (by unfold Func.isWrapper; first | (rw [if_pos (by decide +kernel)]; kernel_rfl) | (rw [if_neg (by decide +kernel)]; exact ⟨rfl, rfl⟩))
    (fun os started H enc _ F => boundSides_lifted os started H enc F)

theorem boundSides_proved : Rows.BoundSidesUptoSaid :=
  boundSides_over
end Go.Proofs.YteojjjhhmbogfaaGreat
