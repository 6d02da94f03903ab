/-
  The contract of the row ScanLong: what the call does, given what three package variables hold. Own work.
-/
import Derived.Deep.DeepHandedRow
import Derived.MakeChecks
import Derived.Stop.LaidErr
import Derived.LaidLaws
import Derived.Deep.DeepWitnessRowRef
import Derived.LaidMore
import Derived.SevenTiedAt
import Derived.Test.YtnmfakkjnbpjpaaDoorRows
import Derived.Test.YtnmfakkjnbpjpaaDoorCards
import Derived.Test.YtnmfakkjnbpjpaaDoorTie
import Derived.Test.YtnmfakkjnbpjpaaDoorZScanLongM4
namespace Go.Proofs.YtnmfakkjnbpjpaaDoor
open Go.Av Go.ChangeShapes Go.WideShapes Go.ChangeAt Go.RowKit
set_option maxRecDepth 100000

theorem scanLong_contract (H : Type) (enc : TypeId × Value → H) (W : World) (base : Nat) (args : Array Value) (ds gs : List (DataW H)) (before : List MemPlace)
    (hval : ∀ (j : Nat) t v, Tryd.f4.params[j]? = some t → args[j]? = some v → Value.okWide Tryd.prog W .any base t v)
    (hW : DataW.Whole enc Tryd.prog Tryd.f4.params.toList Rows.scanLongSpec.vars false W args.toList ds gs before) (_hk : Rows.uptoSmall H (ds ++ gs) = true)
    (hm : ∃ m, W.cell? ⟨0, 0, none⟩ = some (.int .i64 m)) (hS : ∃ ev, W.cell? ⟨2, 0, none⟩ = some ev ∧ (ev = .nilIface ∨ ∃ te pe, ev = .iface te pe)) (hR : ∃ ev, W.cell? ⟨3, 0, none⟩ = some ev ∧ (ev = .nilIface ∨ ∃ te pe, ev = .iface te pe)) :
    Calls Tryd.prog 4 args W fun e W' => ∃ v, e = .returned v ∧ Rows.scanLongSpec.post enc Tryd.prog Tryd.f4 false true false false W args v W' := by
  have hW' := hW
  have hlt := hW.lt
  obtain ⟨p, q, hA0, hV, rfl, hfz, hnd⟩ := hW
  have hA : DataW.TrodAll enc Tryd.prog W 0 (fun _ => true) true Tryd.f4.params.toList args.toList ds p := hA0
  rw [Tryd.params4] at hA hval
  obtain ⟨v0, vs0, d0, ds0, p0, q0, hargs, rfl, rfl, h0, r0⟩ := trodAll_cons hA
  obtain ⟨rfl, rfl, rfl⟩ := trodAll_nil r0
  obtain rfl : args = #[v0] := by cases args; simp_all
  obtain ⟨rfl, rfl⟩ := trodVars_none hV
  obtain ⟨n, on, kn⟩ := qiW Tryd.underlying3 (hval 0 3 v0 rfl rfl) h0
  clear hA0
  simp only [List.append_nil] at hW' hlt
  have hfr : @qe (qaj W) (C0 W) M0 [.int .i64 n] #[v0] := by
    have := on.rep
    cases this
    letI := qaj W
    exact ⟨rfl, fun i a v ha hv => by
      cases i with
      | zero => simp at ha hv; subst ha; subst hv; exact .int _ _
      | succ i => simp at ha⟩
  refine (qhe rfl hm hS hR (qgb n) hfr).mono fun e W' ⟨he, hh, hs, ho, hu⟩ => ?_
  subst he
  refine ⟨_, rfl, qig (pa := (p0 ++ [])) (pv := []) hW' (fun _ _ _ => (trodAll_cons_mk (shut_bool Tryd.underlying4 _) trodAll_mk0)) (fun sp hp => ?_) (fun _ _ => rfl) (by simp)
    (qfo hh ho hu _) (qd9 hh) (ok_one (by kernel_rfl) rfl (okWide_bool_mk Tryd.underlying4 _))⟩
  exact (trodAll_cons_mk (on.back W' sp (fun p hpp => qfa hh (hlt p (by simp [hpp]))) (fun p hpp => hp p (by simp [hpp])))
    trodAll_mk0)

theorem errStar : "*" ++ "errors.errorString" = "*errors.errorString" := by decide
theorem errRow (u : TypeId) (h : Tryd.prog.typeName? 3 u = some "*errors.errorString") : u = 130 :=
  typeName_ptr_named (nm := "errors.errorString") (by rw [errStar]; kernel_rfl) (by kernel_rfl) (by decide) u (by rw [errStar]; exact h)
theorem err_of_laid {W : World} (h : laidMetH Tryd.prog Rows.scanLongUptoRow.laid W) : (∃ ev, W.cell? ⟨2, 0, none⟩ = some ev ∧ (ev = .nilIface ∨ ∃ te pe, ev = .iface te pe)) ∧ ∃ ev, W.cell? ⟨3, 0, none⟩ = some ev ∧ (ev = .nilIface ∨ ∃ te pe, ev = .iface te pe) := by
  rw [MakeChecks.laidMetH_plain _ _ _ (by kernel_rfl)] at h
  have h3 := h.tail.tail.tail
  have g3 : Tryd.prog.globalNamed "strconv.ErrRange" = some 3 := by kernel_rfl
  have g2 : Tryd.prog.globalNamed "strconv.ErrSyntax" = some 2 := by kernel_rfl
  have t3 : (Tryd.prog.globals[3]?).map (·.type) = some 79 := by kernel_rfl
  have t2 : (Tryd.prog.globals[2]?).map (·.type) = some 79 := by kernel_rfl
  have c1 : Tryd.prog.cellsOf 132 = 1 := by kernel_rfl
  have c2 : Tryd.prog.cellsOf 9 = 1 := by kernel_rfl
  obtain ⟨a, sa, va, _⟩ := laid_sentinel h3 g3 t3 Tryd.underlying79 errRow Tryd.underlying130 Tryd.underlying132 rfl rfl Tryd.underlying9 c1 c2
  obtain ⟨b, sb, vb, _⟩ := laid_sentinel h3.tail g2 t2 Tryd.underlying79 errRow Tryd.underlying130 Tryd.underlying132 rfl rfl Tryd.underlying9 c1 c2
  exact ⟨⟨_, by simpa using World.var?_cell g2 vb 0, .inr ⟨_, _, rfl⟩⟩, _, by simpa using World.var?_cell g3 va 0, .inr ⟨_, _, rfl⟩⟩
theorem scanLong_met (os : Os) (args : Array Value) : laidMetH Tryd.prog Rows.scanLongUptoRow.laid ((World.doorLaid Tryd.prog 400 os).forCall (fun _ _ => 0) ⟨#[], args, []⟩).memory :=
  laidMetH_of_parts3 (fuel := 8) (laidMet_of_run' 8 (by kernel_rfl) (by kernel_rfl)) (by kernel_rfl) (by kernel_rfl)
theorem scanLong_row0 (os : Os) {H : Type} (enc : TypeId × Value → H) :
    (Rows.OpenSpec.upto Rows.scanLongSpec).preRow enc Tryd.prog Tryd.f4 [] false Rows.scanLongUptoRow.laid ((World.doorLaid Tryd.prog 400 os).forCall (fun _ _ => 0) ⟨#[], #[.int .i64 0], []⟩).memory #[.int .i64 0] := by
  have hw : (DataW.whole enc Tryd.prog ((World.doorLaid Tryd.prog 400 os).forCall (fun _ _ => 0) ⟨#[], #[.int .i64 0], []⟩).memory Tryd.f4.params.toList (Rows.OpenSpec.upto Rows.scanLongSpec).vars false #[Value.int .i64 0].toList 8).map (fun x => (x.1, x.2.1)) =
      some ([.lit (.int .i64 0)], []) := by kernel_rfl
  obtain ⟨⟨x1, x2, x3⟩, hx, hx1⟩ := Option.map_eq_some_iff.1 hw
  simp only [Prod.mk.injEq] at hx1
  obtain ⟨rfl, rfl⟩ := hx1
  exact OpenSpec.preRow_of_cond 8 hx (by kernel_rfl) (fun k hk => by cases hk; kernel_rfl) (by kernel_rfl) (scanLong_met os _)
theorem scanLong_lifted (os : Os) (started : os.Started) (H : Type) (enc : TypeId × Value → H) (F : Stop.Interp) :
    ReturnsInHanded {} Tryd.checked os 4 .any (Rows.scanLongUptoRow.pre enc Tryd.prog Tryd.f4 (Rows.OpenSpec.upto Rows.scanLongSpec)) (((Rows.OpenSpec.upto Rows.scanLongSpec).at F).post enc Tryd.prog Tryd.f4 false true false false) := by
  refine returnsInHanded_of_row (C := Tryd.checked) (s := Rows.OpenSpec.upto Rows.scanLongSpec) (conds := []) (apart := false) (laid := Rows.scanLongUptoRow.laid) qiV started (by kernel_rfl) Tryd.func4 ?_ ?_
  · exact witness_row_atRef (enc := enc) (C := Tryd.checked) false (World.doorLaid Tryd.prog 400 os) #[.int .i64 0] rfl (by kernel_rfl) (by kernel_rfl) (by kernel_rfl) (scanLong_row0 os enc)
  intro W base args ds gs before hval hW _ hk _ hL hsh _
  obtain ⟨hS, hR⟩ := err_of_laid hL
  exact scanLong_contract H enc W base args ds gs before hval hW (hk _ rfl) (Tryd.laysM144.s1_3 W hsh) hS hR
theorem scanLong_over : Rows.ScanLongUptoSaid :=
  OpenClaim.holds_of_cond 4 Tryd.f4 rfl rfl rfl rfl rfl rfl rfl ⟨rfl, rfl, rfl, rfl, rfl⟩ rfl rfl rfl rfl rfl (by kernel_rfl) Tryd.func4 (by kernel_rfl)
    (of_decide_eq_true (by kernel_rfl)) (by unfold Func.isWrapper; first | (rw [if_pos (by decide +kernel)]; kernel_rfl) | (rw [if_neg (by decide +kernel)]; exact ⟨rfl, rfl⟩))
    (fun os started H enc _ F => by rw [OpenClaim.pre_eq_preRow]; exact scanLong_lifted os started H enc F)
theorem scanLong_plain (f : FuncId) (fn : Func) (hf : Tryd.pinned.checked.prog.funcNamed "tenure/tenurelaw24.ScanLong" = some f) (hfn : Tryd.pinned.checked.prog.funcs[f]? = some fn) :
    true = Tryd.pinned.checked.prog.looks [] ∧ ∀ (j : Nat) t, fn.params[j]? = some t → Tryd.pinned.checked.prog.wantsStandIn t = false := by
  obtain rfl : f = 4 := Option.some.inj ((show Tryd.prog.funcNamed "tenure/tenurelaw24.ScanLong" = some 4 by kernel_rfl).symm.trans hf) |>.symm
  obtain rfl : fn = Tryd.f4 := (Option.some.inj (Tryd.func4.symm.trans hfn)).symm
  refine ⟨by kernel_rfl, fun j t ht => ?_⟩
  rw [Tryd.params4] at ht
  have hm : t ∈ [3] := by simpa using Array.mem_of_getElem? ht
  have hall : ([3].all fun u => !Tryd.prog.wantsStandIn u) = true := by kernel_rfl
  exact (show Tryd.prog.wantsStandIn t = false by simpa using List.all_eq_true.1 hall t hm)
theorem scanLong_proved : Rows.ScanLongUptoCardSaid :=
  Claim7.holds_tied_plain_at .later [] _ _ _ _ scanLong_over (fun _ h => by cases h) (by kernel_rfl) (fun _ h => by cases h) scanLongUpto_row_tie rfl ⟨rfl, rfl⟩ (by kernel_rfl) rfl scanLong_plain (by kernel_rfl)
end Go.Proofs.YtnmfakkjnbpjpaaDoor
