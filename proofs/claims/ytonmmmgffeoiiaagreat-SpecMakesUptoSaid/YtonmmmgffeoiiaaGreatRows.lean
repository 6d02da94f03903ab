/-
  NARROWER THAN 'FOR EVERY INPUT', by the rows' own cells (each row's printed sentence says how): SpecRuns: loops · SpecChecks: loops · SpecMakes: loops.
  DERIVED. THE GIVEN ROWS OF THIS SEAT. 3 by the template 'for every input the law returns true; each argument reads behind the call as it read before'; 0 by the template 'total and deterministic' (their statements: YtonmmmgffeoiiaaGreatTotals.lean).
  GIVEN WITH THE SEED: the statements are not yours to turn. If you find one false, say at which input.
  Laid BY PROGRAM, IN A SANDBOX (cutbox-rows.mjs): the forced cells as the released guide's own fill.sh prints them over the translation e2b9acb91666ede9… (all of the seat's roots in one cut). By AI agents, Wed Nov 11 2026. No macro, syntax, notation, axiom, sorry.
-/
import Derived.Test.YtonmmmgffeoiiaaGreatChecked
import GoSem.Claim
import GoSem.ClaimJoined
import GoSem.ClaimMapViews
import Derived.JoinedTies
import Derived.KernelRfl
namespace Go.Proofs.YtonmmmgffeoiiaaGreat
/- THE CELL 'sum', in the pinned program and in every row, IS THE sha256 OF THE DUMP (.gsa) THAT YtonmmmgffeoiiaaGreatProg.lean LOADS. Nothing in Lean hashes anything: it is a label: what it is worth is what the hold of that sum in a sandbox is worth. -/
noncomputable def Tryz.pinned : Pinned := { name := "ytonmmmgffeoiiaagreat", sum := "e2b9acb91666ede9dba35c1954ed829f61d495b1265b13a353157bceed534435", checked := Tryz.checked }
namespace Rows
def none {H : Type} : Left H := { results := [], args := [] }

/-- 'tenurelaw18.SpecRuns': WHATEVER THE INPUT: true; the input reads as it did. -/
def specRunsSpec : ChangeSpec := { name := "specRuns", fn := fun _ => fun
  | [d1, d2, d3] => { results := [.lit (.bool true)], args := [d1, d2, d3] }
  | _ => none }
def specRunsRow : OpenClaim := { program := "ytonmmmgffeoiiaagreat", sum := "e2b9acb91666ede9dba35c1954ed829f61d495b1265b13a353157bceed534435", func := "tenure/tenurelaw18.SpecRuns", spec := "specRuns", inPlace := ["internal/bytealg.abigen_runtime_cmpstring"], unfollowed := true, recurses := true, loops := true, apart := false }
def SpecRunsSaid : Prop := specRunsRow.holds Tryz.pinned (OpenSpec.ofChange specRunsSpec)

/-- ITS FALSE NEIGHBOUR: 'it returns false'. Refute it at one input. -/
def specRunsWrong : ChangeSpec := { name := "specRuns", fn := fun _ => fun
  | [d1, d2, d3] => { results := [.lit (.bool false)], args := [d1, d2, d3] }
  | _ => none }
def SpecRunsWrongFalsely : Prop := specRunsRow.holds Tryz.pinned (OpenSpec.ofChange specRunsWrong)

/-- 'tenurelaw18.SpecChecks': WHATEVER THE INPUT: true; the input reads as it did. -/
def specChecksSpec : ChangeSpec := { name := "specChecks", fn := fun _ => fun
  | [d] => { results := [.lit (.bool true)], args := [d] }
  | _ => none }
def specChecksRow : OpenClaim := { program := "ytonmmmgffeoiiaagreat", sum := "e2b9acb91666ede9dba35c1954ed829f61d495b1265b13a353157bceed534435", func := "tenure/tenurelaw18.SpecChecks", spec := "specChecks", inPlace := ["internal/bytealg.abigen_runtime_cmpstring"], unfollowed := true, recurses := true, loops := true, apart := false }
def SpecChecksSaid : Prop := specChecksRow.holds Tryz.pinned (OpenSpec.ofChange specChecksSpec)

/-- ITS FALSE NEIGHBOUR: 'it returns false'. Refute it at one input. -/
def specChecksWrong : ChangeSpec := { name := "specChecks", fn := fun _ => fun
  | [d] => { results := [.lit (.bool false)], args := [d] }
  | _ => none }
def SpecChecksWrongFalsely : Prop := specChecksRow.holds Tryz.pinned (OpenSpec.ofChange specChecksWrong)

/-- 'tenurelaw18.SpecMakes': WHATEVER THE INPUT: true; the input reads as it did. -/
def specMakesSpec : ChangeSpec := { name := "specMakes", fn := fun _ => fun
  | [d1, d2] => { results := [.lit (.bool true)], args := [d1, d2] }
  | _ => none }
def specMakesRow : OpenClaim := { program := "ytonmmmgffeoiiaagreat", sum := "e2b9acb91666ede9dba35c1954ed829f61d495b1265b13a353157bceed534435", func := "tenure/tenurelaw18.SpecMakes", spec := "specMakes", inPlace := ["internal/bytealg.abigen_runtime_cmpstring"], unfollowed := true, recurses := true, loops := true, apart := false }
def SpecMakesSaid : Prop := specMakesRow.holds Tryz.pinned (OpenSpec.ofChange specMakesSpec)

/-- ITS FALSE NEIGHBOUR: 'it returns false'. Refute it at one input. -/
def specMakesWrong : ChangeSpec := { name := "specMakes", fn := fun _ => fun
  | [d1, d2] => { results := [.lit (.bool false)], args := [d1, d2] }
  | _ => none }
def SpecMakesWrongFalsely : Prop := specMakesRow.holds Tryz.pinned (OpenSpec.ofChange specMakesWrong)

/- THE SECOND FORM. 'bulk': how many values and letters a reading holds, each counted each time it is reached (what is shared counts as often as it is met; a slice's spare places count too). A statement '..UptoSaid' is the law's where the arguments, and the package variables that the reading takes, are together of bulk at most 1048576: NARROWER than '..Said'. Prove '..Said' where nothing that the law and all that it calls make is longer than what came in: it says more and counts as full. Else prove '..UptoSaid'. A law counts once. -/
mutual
def uptoBulk {H : Type} : DataW H → Nat
  | .lit (.string bytes) => bytes.length + 1
  | .lit _ => 1
  | .nil => 1
  | .ptr d => uptoBulk d + 1
  | .slice elems spare => uptoBulkAll elems + uptoBulkAll spare + 1
  | .agg parts => uptoBulkAll parts + 1
  | .iface _ d => uptoBulk d + 1
  | .map entries => uptoBulkEntries entries + 1
  | .held _ => 1
def uptoBulkAll {H : Type} : List (DataW H) → Nat
  | [] => 0
  | d :: r => uptoBulk d + uptoBulkAll r
def uptoBulkEntries {H : Type} : List (Lit × DataW H) → Nat
  | [] => 0
  | x :: r => uptoBulkEntry x + uptoBulkEntries r
def uptoBulkEntry {H : Type} : Lit × DataW H → Nat
  | (.string bytes, d) => bytes.length + uptoBulk d + 1
  | (_, d) => uptoBulk d + 1
 end
def uptoSmall : (H : Type) → List (DataW H) → Bool := fun _ ds => decide (uptoBulkAll ds ≤ 1048576)
def OpenSpec.upto (s : _root_.Go.ChangeSpec) : _root_.Go.OpenSpec := { _root_.Go.OpenSpec.ofChange s with cond := some uptoSmall }

/-- 'tenurelaw18.SpecRuns', WHERE WHAT IT READS IS OF BULK AT MOST 1048576: true; the input reads as it did. -/
def specRunsUptoRow : OpenClaim := { program := "ytonmmmgffeoiiaagreat", sum := "e2b9acb91666ede9dba35c1954ed829f61d495b1265b13a353157bceed534435", func := "tenure/tenurelaw18.SpecRuns", spec := "specRuns", inPlace := ["internal/bytealg.abigen_runtime_cmpstring"], unfollowed := true, recurses := true, loops := true, apart := false, narrowed := true }
def SpecRunsUptoSaid : Prop := specRunsUptoRow.holds Tryz.pinned (OpenSpec.upto specRunsSpec)

/-- 'tenurelaw18.SpecChecks', WHERE WHAT IT READS IS OF BULK AT MOST 1048576: true; the input reads as it did. -/
def specChecksUptoRow : OpenClaim := { program := "ytonmmmgffeoiiaagreat", sum := "e2b9acb91666ede9dba35c1954ed829f61d495b1265b13a353157bceed534435", func := "tenure/tenurelaw18.SpecChecks", spec := "specChecks", inPlace := ["internal/bytealg.abigen_runtime_cmpstring"], unfollowed := true, recurses := true, loops := true, apart := false, narrowed := true }
def SpecChecksUptoSaid : Prop := specChecksUptoRow.holds Tryz.pinned (OpenSpec.upto specChecksSpec)

/-- 'tenurelaw18.SpecMakes', WHERE WHAT IT READS IS OF BULK AT MOST 1048576: true; the input reads as it did. -/
def specMakesUptoRow : OpenClaim := { program := "ytonmmmgffeoiiaagreat", sum := "e2b9acb91666ede9dba35c1954ed829f61d495b1265b13a353157bceed534435", func := "tenure/tenurelaw18.SpecMakes", spec := "specMakes", inPlace := ["internal/bytealg.abigen_runtime_cmpstring"], unfollowed := true, recurses := true, loops := true, apart := false, narrowed := true }
def SpecMakesUptoSaid : Prop := specMakesUptoRow.holds Tryz.pinned (OpenSpec.upto specMakesSpec)

end Rows
end Go.Proofs.YtonmmmgffeoiiaaGreat
