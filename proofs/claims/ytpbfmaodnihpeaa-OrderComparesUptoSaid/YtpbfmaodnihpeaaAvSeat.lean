/-
  The configuration of this seat is right: types, names, the function without a body. Own work.
  What is proved: CfgOk; no condition.
-/
import Derived.Test.YtpbfmaodnihpeaaAvCode4
import Derived.Test.YtpbfmaodnihpeaaAvCfg
import Derived.Lib.Bytealg
namespace Go.Av

def TysOk (P : Program) : List (Nat × TI) → Prop
  | [] => True
  | p :: l => tiOf P p.1 = some p.2 ∧ TysOk P l

/-- the order of two texts -/
def cmpS (a b : List UInt8) : Int := if a == b then 0 else if Op.bytesLess a b then -1 else 1

theorem compareBytes_eq : ∀ a b : List UInt8, Lib.compareBytes a b = cmpS a b
  | [], [] => rfl
  | [], _ :: _ => by simp [Lib.compareBytes, cmpS, Op.bytesLess]
  | _ :: _, [] => by simp [Lib.compareBytes, cmpS, Op.bytesLess]
  | a :: l, b :: m => by
    rw [Lib.compareBytes, compareBytes_eq l m]
    unfold cmpS
    by_cases h : a = b
    · subst h
      have : ¬ a < a := by simp
      by_cases h2 : l = m
      · subst h2; simp
      · simp [Op.bytesLess, h2]
    · have h' : (a :: l == b :: m) = false := by simp [h]
      rw [h']
      simp only [Bool.false_eq_true, if_false, Op.bytesLess]
      by_cases hlt : a < b
      · simp [hlt]
      · have : b < a := by
          have h1 : ¬ a.toNat < b.toNat := hlt
          have h2 : a.toNat ≠ b.toNat := fun e => h (UInt8.toNat.inj e)
          show b.toNat < a.toNat
          omega
        simp [hlt, this, h]

theorem extCmp_sound {P : Program} {f : FuncId} {fn : Func} (hf : P.funcs[f]? = some fn) (hn : (fn.name == "runtime.NumGoroutine") = false) (hb : fn.body.isNone = true) (hx : Extern.findNext fn = none)
    (he : Extern.find fn = some Extern.BytealgCompare.compare) {args : List AV} {H H' : AH} {r : AV} (hr : extCmp args H = some (r, H')) {C : Claims} {μ : MMap} {w : World} {vs : Array Value} (ha : FrRep C μ args vs) (hw : Wld C μ H w) :
    CallR P (callFunc f vs) w (Post1 C μ H w r H') := by
  unfold extCmp at hr
  split at hr
  · rename_i H0 a b
    cases hr
    obtain ⟨hl, hv⟩ := ha
    obtain ⟨x, y, rfl⟩ : ∃ x y, vs = #[x, y] := by
      obtain ⟨l⟩ := vs
      match l, hl with
      | [x, y], _ => exact ⟨x, y, rfl⟩
    have h0 := hv 0 _ _ rfl rfl
    have h1 := hv 1 _ _ rfl rfl
    cases h0
    cases h1
    have hrun : (callFunc f #[.string ⟨a.toArray⟩, .string ⟨b.toArray⟩]).run P w = .ok (.value (.int .i64 (cmpS a b))) w := by
      unfold callFunc
      simp only [Sem.run_bind, run_program, Result.andThen_ok, hf, hn, hb, Bool.false_eq_true, if_false, if_true, run_mark, hx, he, Lib.run_compareString, Sem.run_pure]
      rw [compareBytes_eq]
    unfold CallR
    rw [hrun]
    exact ⟨C, μ, .int _ _, hw, Ext.refl (Nat.le_refl _)⟩
  · cases hr
end Go.Av
namespace Go.Proofs.Ytpbfmaodnihpeaa
open Go.Av
set_option maxRecDepth 100000

theorem tys_look {P : Program} {t : Nat} {ti : TI} : ∀ {l : List (Nat × TI)}, TysOk P l → tyLook t l = some ti → tiOf P t = some ti
  | [], _, h => by cases h
  | p :: l, hk, h => by
    rw [tyLook] at h
    split at h
    · rename_i e
      cases h
      rw [← Nat.eq_of_beq_eq_true e]
      exact hk.1
    · exact tys_look hk.2 h

theorem tys_ok : TysOk Try.prog tyTab := by
  unfold tyTab
  repeat (first | exact trivial | refine ⟨by kernel_rfl, ?_⟩)

theorem names_ok : Try.prog.funcs.toList.all (fun fn => !(fn.name == "runtime.NumGoroutine")) = true := by kernel_rfl
theorem mixed_ok : Try.prog.follows .mixedOrders = true := by kernel_rfl
end Go.Proofs.Ytpbfmaodnihpeaa
