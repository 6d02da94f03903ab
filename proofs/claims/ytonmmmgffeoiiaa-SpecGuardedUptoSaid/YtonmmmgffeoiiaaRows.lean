/-
  NARROWER THAN 'FOR EVERY INPUT', by the rows' own cells (each row's printed sentence says how): SpecMatches: loops · SpecGuarded: loops · SpecParts: loops.
  DERIVED. THE GIVEN ROWS OF THIS SEAT. 3 by the template 'for every input the law returns true; each argument reads behind the call as it read before'; 0 by the template 'total and deterministic' (their statements: YtonmmmgffeoiiaaTotals.lean).
  GIVEN WITH THE SEED: the statements are not yours to turn. If you find one false, say at which input.
  Laid BY PROGRAM, IN A SANDBOX (cutbox-rows.mjs): the forced cells as the released guide's own fill.sh prints them over the translation 6713ebd3b8dbcc8c… (all of the seat's roots in one cut). By AI agents, Wed Nov 11 2026. No macro, syntax, notation, axiom, sorry.
-/
import Derived.Test.YtonmmmgffeoiiaaChecked
import GoSem.Claim
import GoSem.ClaimJoined
import GoSem.ClaimMapViews
import Derived.JoinedTies
import Derived.KernelRfl
namespace Go.Proofs.Ytonmmmgffeoiiaa
/- THE CELL 'sum', in the pinned program and in every row, IS THE sha256 OF THE DUMP (.gsa) THAT YtonmmmgffeoiiaaProg.lean LOADS. Nothing in Lean hashes anything: it is a label: what it is worth is what the hold of that sum in a sandbox is worth. -/
noncomputable def Try.pinned : Pinned := { name := "ytonmmmgffeoiiaa", sum := "6713ebd3b8dbcc8cb169949c4027a7f97fddc64180c8ec90e285f0405ca08641", checked := Try.checked }
namespace Rows
def none {H : Type} : Left H := { results := [], args := [] }

/-- 'tenurelaw18.SpecMatches': WHATEVER THE INPUT: true; the input reads as it did. -/
def specMatchesSpec : ChangeSpec := { name := "specMatches", fn := fun _ => fun
  | [d1, d2] => { results := [.lit (.bool true)], args := [d1, d2] }
  | _ => none }
def specMatchesRow : OpenClaim := { program := "ytonmmmgffeoiiaa", sum := "6713ebd3b8dbcc8cb169949c4027a7f97fddc64180c8ec90e285f0405ca08641", func := "tenure/tenurelaw18.SpecMatches", spec := "specMatches", inPlace := ["internal/bytealg.abigen_runtime_cmpstring"], unfollowed := true, recurses := true, loops := true, apart := false }
def SpecMatchesSaid : Prop := specMatchesRow.holds Try.pinned (OpenSpec.ofChange specMatchesSpec)

/-- ITS FALSE NEIGHBOUR: 'it returns false'. Refute it at one input. -/
def specMatchesWrong : ChangeSpec := { name := "specMatches", fn := fun _ => fun
  | [d1, d2] => { results := [.lit (.bool false)], args := [d1, d2] }
  | _ => none }
def SpecMatchesWrongFalsely : Prop := specMatchesRow.holds Try.pinned (OpenSpec.ofChange specMatchesWrong)

/-- 'tenurelaw18.SpecGuarded': WHATEVER THE INPUT: true; the input reads as it did. -/
def specGuardedSpec : ChangeSpec := { name := "specGuarded", fn := fun _ => fun
  | [d1, d2, d3, d4] => { results := [.lit (.bool true)], args := [d1, d2, d3, d4] }
  | _ => none }
def specGuardedRow : OpenClaim := { program := "ytonmmmgffeoiiaa", sum := "6713ebd3b8dbcc8cb169949c4027a7f97fddc64180c8ec90e285f0405ca08641", func := "tenure/tenurelaw18.SpecGuarded", spec := "specGuarded", inPlace := ["internal/bytealg.abigen_runtime_cmpstring"], unfollowed := true, recurses := true, loops := true, apart := false }
def SpecGuardedSaid : Prop := specGuardedRow.holds Try.pinned (OpenSpec.ofChange specGuardedSpec)

/-- ITS FALSE NEIGHBOUR: 'it returns false'. Refute it at one input. -/
def specGuardedWrong : ChangeSpec := { name := "specGuarded", fn := fun _ => fun
  | [d1, d2, d3, d4] => { results := [.lit (.bool false)], args := [d1, d2, d3, d4] }
  | _ => none }
def SpecGuardedWrongFalsely : Prop := specGuardedRow.holds Try.pinned (OpenSpec.ofChange specGuardedWrong)

/-- 'tenurelaw18.SpecParts': WHATEVER THE INPUT: true; the input reads as it did. -/
def specPartsSpec : ChangeSpec := { name := "specParts", fn := fun _ => fun
  | [d1, d2, d3] => { results := [.lit (.bool true)], args := [d1, d2, d3] }
  | _ => none }
def specPartsRow : OpenClaim := { program := "ytonmmmgffeoiiaa", sum := "6713ebd3b8dbcc8cb169949c4027a7f97fddc64180c8ec90e285f0405ca08641", func := "tenure/tenurelaw18.SpecParts", spec := "specParts", inPlace := ["internal/bytealg.abigen_runtime_cmpstring"], unfollowed := true, recurses := true, loops := true, apart := false }
def SpecPartsSaid : Prop := specPartsRow.holds Try.pinned (OpenSpec.ofChange specPartsSpec)

/-- ITS FALSE NEIGHBOUR: 'it returns false'. Refute it at one input. -/
def specPartsWrong : ChangeSpec := { name := "specParts", fn := fun _ => fun
  | [d1, d2, d3] => { results := [.lit (.bool false)], args := [d1, d2, d3] }
  | _ => none }
def SpecPartsWrongFalsely : Prop := specPartsRow.holds Try.pinned (OpenSpec.ofChange specPartsWrong)

/- THE SECOND FORM. 'bulk': how many values and letters a reading holds, each counted each time it is reached (what is shared counts as often as it is met; a slice's spare places count too). A statement '..UptoSaid' is the law's where the arguments, and the package variables that the reading takes, are together of bulk at most 1048576: NARROWER than '..Said'. Prove '..Said' where nothing that the law and all that it calls make is longer than what came in: it says more and counts as full. Else prove '..UptoSaid'. A law counts once. -/
mutual
def uptoBulk {H : Type} : DataW H → Nat
  | .lit (.string bytes) => bytes.length + 1
  | .lit _ => 1
  | .nil => 1
  | .ptr d => uptoBulk d + 1
  | .slice elems spare => uptoBulkAll elems + uptoBulkAll spare + 1
  | .agg parts => uptoBulkAll parts + 1
  | .iface _ d => uptoBulk d + 1
  | .map entries => uptoBulkEntries entries + 1
  | .held _ => 1
def uptoBulkAll {H : Type} : List (DataW H) → Nat
  | [] => 0
  | d :: r => uptoBulk d + uptoBulkAll r
def uptoBulkEntries {H : Type} : List (Lit × DataW H) → Nat
  | [] => 0
  | x :: r => uptoBulkEntry x + uptoBulkEntries r
def uptoBulkEntry {H : Type} : Lit × DataW H → Nat
  | (.string bytes, d) => bytes.length + uptoBulk d + 1
  | (_, d) => uptoBulk d + 1
 end
def uptoSmall : (H : Type) → List (DataW H) → Bool := fun _ ds => decide (uptoBulkAll ds ≤ 1048576)
def OpenSpec.upto (s : _root_.Go.ChangeSpec) : _root_.Go.OpenSpec := { _root_.Go.OpenSpec.ofChange s with cond := some uptoSmall }

/-- 'tenurelaw18.SpecMatches', WHERE WHAT IT READS IS OF BULK AT MOST 1048576: true; the input reads as it did. -/
def specMatchesUptoRow : OpenClaim := { program := "ytonmmmgffeoiiaa", sum := "6713ebd3b8dbcc8cb169949c4027a7f97fddc64180c8ec90e285f0405ca08641", func := "tenure/tenurelaw18.SpecMatches", spec := "specMatches", inPlace := ["internal/bytealg.abigen_runtime_cmpstring"], unfollowed := true, recurses := true, loops := true, apart := false, narrowed := true }
def SpecMatchesUptoSaid : Prop := specMatchesUptoRow.holds Try.pinned (OpenSpec.upto specMatchesSpec)

/-- 'tenurelaw18.SpecGuarded', WHERE WHAT IT READS IS OF BULK AT MOST 1048576: true; the input reads as it did. -/
def specGuardedUptoRow : OpenClaim := { program := "ytonmmmgffeoiiaa", sum := "6713ebd3b8dbcc8cb169949c4027a7f97fddc64180c8ec90e285f0405ca08641", func := "tenure/tenurelaw18.SpecGuarded", spec := "specGuarded", inPlace := ["internal/bytealg.abigen_runtime_cmpstring"], unfollowed := true, recurses := true, loops := true, apart := false, narrowed := true }
def SpecGuardedUptoSaid : Prop := specGuardedUptoRow.holds Try.pinned (OpenSpec.upto specGuardedSpec)

/-- 'tenurelaw18.SpecParts', WHERE WHAT IT READS IS OF BULK AT MOST 1048576: true; the input reads as it did. -/
def specPartsUptoRow : OpenClaim := { program := "ytonmmmgffeoiiaa", sum := "6713ebd3b8dbcc8cb169949c4027a7f97fddc64180c8ec90e285f0405ca08641", func := "tenure/tenurelaw18.SpecParts", spec := "specParts", inPlace := ["internal/bytealg.abigen_runtime_cmpstring"], unfollowed := true, recurses := true, loops := true, apart := false, narrowed := true }
def SpecPartsUptoSaid : Prop := specPartsUptoRow.holds Try.pinned (OpenSpec.upto specPartsSpec)

end Rows
end Go.Proofs.Ytonmmmgffeoiiaa
