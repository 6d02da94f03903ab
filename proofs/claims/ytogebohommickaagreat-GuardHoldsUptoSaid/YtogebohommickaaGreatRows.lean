/-
  NARROWER THAN 'FOR EVERY INPUT', by the rows' own cells (each row's printed sentence says how): GuardEvals: loops · GuardHolds: loops · GuardApplies: loops.
  DERIVED. THE GIVEN ROWS OF THIS SEAT. 3 by the template 'for every input the law returns true; each argument reads behind the call as it read before'; 0 by the template 'total and deterministic' (their statements: YtogebohommickaaGreatTotals.lean).
  GIVEN WITH THE SEED: the statements are not yours to turn. If you find one false, say at which input.
  Laid BY PROGRAM, IN A SANDBOX (cutbox-rows.mjs): the forced cells as the released guide's own fill.sh prints them over the translation fa716f75ea1f9cef… (all of the seat's roots in one cut). By AI agents, Wed Nov 11 2026. No macro, syntax, notation, axiom, sorry.
-/
import Derived.Test.YtogebohommickaaGreatChecked
import GoSem.Claim
import GoSem.ClaimJoined
import GoSem.ClaimMapViews
import Derived.JoinedTies
import Derived.KernelRfl
namespace Go.Proofs.YtogebohommickaaGreat
/- THE CELL 'sum', in the pinned program and in every row, IS THE sha256 OF THE DUMP (.gsa) THAT YtogebohommickaaGreatProg.lean LOADS. Nothing in Lean hashes anything: it is a label: what it is worth is what the hold of that sum in a sandbox is worth. -/
noncomputable def Tryz.pinned : Pinned := { name := "ytogebohommickaagreat", sum := "fa716f75ea1f9cef8e8bafb2a4f7c434fd3aea648b824a211fdd828fcefb3a8a", checked := Tryz.checked }
namespace Rows
def none {H : Type} : Left H := { results := [], args := [] }

/-- 'tenurelaw17.GuardEvals': WHATEVER THE INPUT: true; the input reads as it did. -/
def guardEvalsSpec : ChangeSpec := { name := "guardEvals", fn := fun _ => fun
  | [d1, d2] => { results := [.lit (.bool true)], args := [d1, d2] }
  | _ => none }
def guardEvalsRow : OpenClaim := { program := "ytogebohommickaagreat", sum := "fa716f75ea1f9cef8e8bafb2a4f7c434fd3aea648b824a211fdd828fcefb3a8a", func := "tenure/tenurelaw17.GuardEvals", spec := "guardEvals", inPlace := ["internal/bytealg.abigen_runtime_cmpstring"], unfollowed := true, recurses := true, loops := true, apart := false }
def GuardEvalsSaid : Prop := guardEvalsRow.holds Tryz.pinned (OpenSpec.ofChange guardEvalsSpec)

/-- ITS FALSE NEIGHBOUR: 'it returns false'. Refute it at one input. -/
def guardEvalsWrong : ChangeSpec := { name := "guardEvals", fn := fun _ => fun
  | [d1, d2] => { results := [.lit (.bool false)], args := [d1, d2] }
  | _ => none }
def GuardEvalsWrongFalsely : Prop := guardEvalsRow.holds Tryz.pinned (OpenSpec.ofChange guardEvalsWrong)

/-- 'tenurelaw17.GuardHolds': WHATEVER THE INPUT: true; the input reads as it did. -/
def guardHoldsSpec : ChangeSpec := { name := "guardHolds", fn := fun _ => fun
  | [d1, d2] => { results := [.lit (.bool true)], args := [d1, d2] }
  | _ => none }
def guardHoldsRow : OpenClaim := { program := "ytogebohommickaagreat", sum := "fa716f75ea1f9cef8e8bafb2a4f7c434fd3aea648b824a211fdd828fcefb3a8a", func := "tenure/tenurelaw17.GuardHolds", spec := "guardHolds", inPlace := ["internal/bytealg.abigen_runtime_cmpstring"], unfollowed := true, recurses := true, loops := true, apart := false }
def GuardHoldsSaid : Prop := guardHoldsRow.holds Tryz.pinned (OpenSpec.ofChange guardHoldsSpec)

/-- ITS FALSE NEIGHBOUR: 'it returns false'. Refute it at one input. -/
def guardHoldsWrong : ChangeSpec := { name := "guardHolds", fn := fun _ => fun
  | [d1, d2] => { results := [.lit (.bool false)], args := [d1, d2] }
  | _ => none }
def GuardHoldsWrongFalsely : Prop := guardHoldsRow.holds Tryz.pinned (OpenSpec.ofChange guardHoldsWrong)

/-- 'tenurelaw17.GuardApplies': WHATEVER THE INPUT: true; the input reads as it did. -/
def guardAppliesSpec : ChangeSpec := { name := "guardApplies", fn := fun _ => fun
  | [d1, d2, d3] => { results := [.lit (.bool true)], args := [d1, d2, d3] }
  | _ => none }
def guardAppliesRow : OpenClaim := { program := "ytogebohommickaagreat", sum := "fa716f75ea1f9cef8e8bafb2a4f7c434fd3aea648b824a211fdd828fcefb3a8a", func := "tenure/tenurelaw17.GuardApplies", spec := "guardApplies", inPlace := ["internal/bytealg.abigen_runtime_cmpstring"], unfollowed := true, recurses := true, loops := true, apart := false }
def GuardAppliesSaid : Prop := guardAppliesRow.holds Tryz.pinned (OpenSpec.ofChange guardAppliesSpec)

/-- ITS FALSE NEIGHBOUR: 'it returns false'. Refute it at one input. -/
def guardAppliesWrong : ChangeSpec := { name := "guardApplies", fn := fun _ => fun
  | [d1, d2, d3] => { results := [.lit (.bool false)], args := [d1, d2, d3] }
  | _ => none }
def GuardAppliesWrongFalsely : Prop := guardAppliesRow.holds Tryz.pinned (OpenSpec.ofChange guardAppliesWrong)

/- THE SECOND FORM. 'bulk': how many values and letters a reading holds, each counted each time it is reached (what is shared counts as often as it is met; a slice's spare places count too). A statement '..UptoSaid' is the law's where the arguments, and the package variables that the reading takes, are together of bulk at most 1048576: NARROWER than '..Said'. Prove '..Said' where nothing that the law and all that it calls make is longer than what came in: it says more and counts as full. Else prove '..UptoSaid'. A law counts once. -/
mutual
def uptoBulk {H : Type} : DataW H → Nat
  | .lit (.string bytes) => bytes.length + 1
  | .lit _ => 1
  | .nil => 1
  | .ptr d => uptoBulk d + 1
  | .slice elems spare => uptoBulkAll elems + uptoBulkAll spare + 1
  | .agg parts => uptoBulkAll parts + 1
  | .iface _ d => uptoBulk d + 1
  | .map entries => uptoBulkEntries entries + 1
  | .held _ => 1
def uptoBulkAll {H : Type} : List (DataW H) → Nat
  | [] => 0
  | d :: r => uptoBulk d + uptoBulkAll r
def uptoBulkEntries {H : Type} : List (Lit × DataW H) → Nat
  | [] => 0
  | x :: r => uptoBulkEntry x + uptoBulkEntries r
def uptoBulkEntry {H : Type} : Lit × DataW H → Nat
  | (.string bytes, d) => bytes.length + uptoBulk d + 1
  | (_, d) => uptoBulk d + 1
 end
def uptoSmall : (H : Type) → List (DataW H) → Bool := fun _ ds => decide (uptoBulkAll ds ≤ 1048576)
def OpenSpec.upto (s : _root_.Go.ChangeSpec) : _root_.Go.OpenSpec := { _root_.Go.OpenSpec.ofChange s with cond := some uptoSmall }

/-- 'tenurelaw17.GuardEvals', WHERE WHAT IT READS IS OF BULK AT MOST 1048576: true; the input reads as it did. -/
def guardEvalsUptoRow : OpenClaim := { program := "ytogebohommickaagreat", sum := "fa716f75ea1f9cef8e8bafb2a4f7c434fd3aea648b824a211fdd828fcefb3a8a", func := "tenure/tenurelaw17.GuardEvals", spec := "guardEvals", inPlace := ["internal/bytealg.abigen_runtime_cmpstring"], unfollowed := true, recurses := true, loops := true, apart := false, narrowed := true }
def GuardEvalsUptoSaid : Prop := guardEvalsUptoRow.holds Tryz.pinned (OpenSpec.upto guardEvalsSpec)

/-- 'tenurelaw17.GuardHolds', WHERE WHAT IT READS IS OF BULK AT MOST 1048576: true; the input reads as it did. -/
def guardHoldsUptoRow : OpenClaim := { program := "ytogebohommickaagreat", sum := "fa716f75ea1f9cef8e8bafb2a4f7c434fd3aea648b824a211fdd828fcefb3a8a", func := "tenure/tenurelaw17.GuardHolds", spec := "guardHolds", inPlace := ["internal/bytealg.abigen_runtime_cmpstring"], unfollowed := true, recurses := true, loops := true, apart := false, narrowed := true }
def GuardHoldsUptoSaid : Prop := guardHoldsUptoRow.holds Tryz.pinned (OpenSpec.upto guardHoldsSpec)

/-- 'tenurelaw17.GuardApplies', WHERE WHAT IT READS IS OF BULK AT MOST 1048576: true; the input reads as it did. -/
def guardAppliesUptoRow : OpenClaim := { program := "ytogebohommickaagreat", sum := "fa716f75ea1f9cef8e8bafb2a4f7c434fd3aea648b824a211fdd828fcefb3a8a", func := "tenure/tenurelaw17.GuardApplies", spec := "guardApplies", inPlace := ["internal/bytealg.abigen_runtime_cmpstring"], unfollowed := true, recurses := true, loops := true, apart := false, narrowed := true }
def GuardAppliesUptoSaid : Prop := guardAppliesUptoRow.holds Tryz.pinned (OpenSpec.upto guardAppliesSpec)

end Rows
end Go.Proofs.YtogebohommickaaGreat
