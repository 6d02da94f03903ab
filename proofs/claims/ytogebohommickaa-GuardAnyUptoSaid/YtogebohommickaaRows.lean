/-
  NARROWER THAN 'FOR EVERY INPUT', by the rows' own cells (each row's printed sentence says how): GuardChecks: loops · GuardConst: loops · GuardAny: loops · GuardOrders: loops.
  DERIVED. THE GIVEN ROWS OF THIS SEAT. 6 by the template 'for every input the law returns true; each argument reads behind the call as it read before'; 0 by the template 'total and deterministic' (their statements: YtogebohommickaaTotals.lean).
  GIVEN WITH THE SEED: the statements are not yours to turn. If you find one false, say at which input.
  Laid BY PROGRAM, IN A SANDBOX (cutbox-rows.mjs): the forced cells as the released guide's own fill.sh prints them over the translation 8c3e4360f3e23d9d… (all of the seat's roots in one cut). By AI agents, Wed Nov 11 2026. No macro, syntax, notation, axiom, sorry.
-/
import Derived.Test.YtogebohommickaaChecked
import GoSem.Claim
import GoSem.ClaimJoined
import GoSem.ClaimMapViews
import Derived.JoinedTies
import Derived.KernelRfl
namespace Go.Proofs.Ytogebohommickaa
/- THE CELL 'sum', in the pinned program and in every row, IS THE sha256 OF THE DUMP (.gsa) THAT YtogebohommickaaProg.lean LOADS. Nothing in Lean hashes anything: it is a label: what it is worth is what the hold of that sum in a sandbox is worth. -/
noncomputable def Try.pinned : Pinned := { name := "ytogebohommickaa", sum := "8c3e4360f3e23d9ddd0ef8c5b08a9fbaf5c91a6cbaf9c74c5f42911d20b1e91c", checked := Try.checked }
namespace Rows
def none {H : Type} : Left H := { results := [], args := [] }

/-- 'tenurelaw17.GuardChecks': WHATEVER THE INPUT: true; the input reads as it did. -/
def guardChecksSpec : ChangeSpec := { name := "guardChecks", fn := fun _ => fun
  | [d1, d2, d3] => { results := [.lit (.bool true)], args := [d1, d2, d3] }
  | _ => none }
def guardChecksRow : OpenClaim := { program := "ytogebohommickaa", sum := "8c3e4360f3e23d9ddd0ef8c5b08a9fbaf5c91a6cbaf9c74c5f42911d20b1e91c", func := "tenure/tenurelaw17.GuardChecks", spec := "guardChecks", inPlace := ["internal/bytealg.abigen_runtime_cmpstring"], unfollowed := true, recurses := true, loops := true, apart := false }
def GuardChecksSaid : Prop := guardChecksRow.holds Try.pinned (OpenSpec.ofChange guardChecksSpec)

/-- ITS FALSE NEIGHBOUR: 'it returns false'. Refute it at one input. -/
def guardChecksWrong : ChangeSpec := { name := "guardChecks", fn := fun _ => fun
  | [d1, d2, d3] => { results := [.lit (.bool false)], args := [d1, d2, d3] }
  | _ => none }
def GuardChecksWrongFalsely : Prop := guardChecksRow.holds Try.pinned (OpenSpec.ofChange guardChecksWrong)

/-- 'tenurelaw17.GuardConst': WHATEVER THE INPUT: true; the input reads as it did. -/
def guardConstSpec : ChangeSpec := { name := "guardConst", fn := fun _ => fun
  | [d1, d2] => { results := [.lit (.bool true)], args := [d1, d2] }
  | _ => none }
def guardConstRow : OpenClaim := { program := "ytogebohommickaa", sum := "8c3e4360f3e23d9ddd0ef8c5b08a9fbaf5c91a6cbaf9c74c5f42911d20b1e91c", func := "tenure/tenurelaw17.GuardConst", spec := "guardConst", inPlace := ["internal/bytealg.abigen_runtime_cmpstring"], unfollowed := true, recurses := true, loops := true, apart := false }
def GuardConstSaid : Prop := guardConstRow.holds Try.pinned (OpenSpec.ofChange guardConstSpec)

/-- ITS FALSE NEIGHBOUR: 'it returns false'. Refute it at one input. -/
def guardConstWrong : ChangeSpec := { name := "guardConst", fn := fun _ => fun
  | [d1, d2] => { results := [.lit (.bool false)], args := [d1, d2] }
  | _ => none }
def GuardConstWrongFalsely : Prop := guardConstRow.holds Try.pinned (OpenSpec.ofChange guardConstWrong)

/-- 'tenurelaw17.GuardAny': WHATEVER THE INPUT: true; the input reads as it did. -/
def guardAnySpec : ChangeSpec := { name := "guardAny", fn := fun _ => fun
  | [d1, d2, d3] => { results := [.lit (.bool true)], args := [d1, d2, d3] }
  | _ => none }
def guardAnyRow : OpenClaim := { program := "ytogebohommickaa", sum := "8c3e4360f3e23d9ddd0ef8c5b08a9fbaf5c91a6cbaf9c74c5f42911d20b1e91c", func := "tenure/tenurelaw17.GuardAny", spec := "guardAny", inPlace := ["internal/bytealg.abigen_runtime_cmpstring"], unfollowed := true, recurses := true, loops := true, apart := false }
def GuardAnySaid : Prop := guardAnyRow.holds Try.pinned (OpenSpec.ofChange guardAnySpec)

/-- ITS FALSE NEIGHBOUR: 'it returns false'. Refute it at one input. -/
def guardAnyWrong : ChangeSpec := { name := "guardAny", fn := fun _ => fun
  | [d1, d2, d3] => { results := [.lit (.bool false)], args := [d1, d2, d3] }
  | _ => none }
def GuardAnyWrongFalsely : Prop := guardAnyRow.holds Try.pinned (OpenSpec.ofChange guardAnyWrong)

/-- 'tenurelaw17.GuardKnown': WHATEVER THE INPUT: true; the input reads as it did. -/
def guardKnownSpec : ChangeSpec := { name := "guardKnown", fn := fun _ => fun
  | [] => { results := [.lit (.bool true)], args := [] }
  | _ => none }
def guardKnownRow : OpenClaim := { program := "ytogebohommickaa", sum := "8c3e4360f3e23d9ddd0ef8c5b08a9fbaf5c91a6cbaf9c74c5f42911d20b1e91c", func := "tenure/tenurelaw17.GuardKnown", spec := "guardKnown", inPlace := ["internal/bytealg.abigen_runtime_cmpstring"], unfollowed := true, recurses := true, apart := false }
def GuardKnownSaid : Prop := guardKnownRow.holds Try.pinned (OpenSpec.ofChange guardKnownSpec)

/-- ITS FALSE NEIGHBOUR: 'it returns false'. Refute it at one input. -/
def guardKnownWrong : ChangeSpec := { name := "guardKnown", fn := fun _ => fun
  | [] => { results := [.lit (.bool false)], args := [] }
  | _ => none }
def GuardKnownWrongFalsely : Prop := guardKnownRow.holds Try.pinned (OpenSpec.ofChange guardKnownWrong)

/-- 'tenurelaw17.GuardNumbers': WHATEVER THE INPUT: true; the input reads as it did. -/
def guardNumbersSpec : ChangeSpec := { name := "guardNumbers", fn := fun _ => fun
  | [d1, d2] => { results := [.lit (.bool true)], args := [d1, d2] }
  | _ => none }
def guardNumbersRow : OpenClaim := { program := "ytogebohommickaa", sum := "8c3e4360f3e23d9ddd0ef8c5b08a9fbaf5c91a6cbaf9c74c5f42911d20b1e91c", func := "tenure/tenurelaw17.GuardNumbers", spec := "guardNumbers", inPlace := ["internal/bytealg.abigen_runtime_cmpstring"], unfollowed := true, recurses := true, apart := false }
def GuardNumbersSaid : Prop := guardNumbersRow.holds Try.pinned (OpenSpec.ofChange guardNumbersSpec)

/-- ITS FALSE NEIGHBOUR: 'it returns false'. Refute it at one input. -/
def guardNumbersWrong : ChangeSpec := { name := "guardNumbers", fn := fun _ => fun
  | [d1, d2] => { results := [.lit (.bool false)], args := [d1, d2] }
  | _ => none }
def GuardNumbersWrongFalsely : Prop := guardNumbersRow.holds Try.pinned (OpenSpec.ofChange guardNumbersWrong)

/-- 'tenurelaw17.GuardOrders': WHATEVER THE INPUT: true; the input reads as it did. -/
def guardOrdersSpec : ChangeSpec := { name := "guardOrders", fn := fun _ => fun
  | [d1, d2] => { results := [.lit (.bool true)], args := [d1, d2] }
  | _ => none }
def guardOrdersRow : OpenClaim := { program := "ytogebohommickaa", sum := "8c3e4360f3e23d9ddd0ef8c5b08a9fbaf5c91a6cbaf9c74c5f42911d20b1e91c", func := "tenure/tenurelaw17.GuardOrders", spec := "guardOrders", inPlace := ["internal/bytealg.abigen_runtime_cmpstring"], unfollowed := true, recurses := true, loops := true, apart := false }
def GuardOrdersSaid : Prop := guardOrdersRow.holds Try.pinned (OpenSpec.ofChange guardOrdersSpec)

/-- ITS FALSE NEIGHBOUR: 'it returns false'. Refute it at one input. -/
def guardOrdersWrong : ChangeSpec := { name := "guardOrders", fn := fun _ => fun
  | [d1, d2] => { results := [.lit (.bool false)], args := [d1, d2] }
  | _ => none }
def GuardOrdersWrongFalsely : Prop := guardOrdersRow.holds Try.pinned (OpenSpec.ofChange guardOrdersWrong)

/- THE SECOND FORM. 'bulk': how many values and letters a reading holds, each counted each time it is reached (what is shared counts as often as it is met; a slice's spare places count too). A statement '..UptoSaid' is the law's where the arguments, and the package variables that the reading takes, are together of bulk at most 1048576: NARROWER than '..Said'. Prove '..Said' where nothing that the law and all that it calls make is longer than what came in: it says more and counts as full. Else prove '..UptoSaid'. A law counts once. -/
mutual
def uptoBulk {H : Type} : DataW H → Nat
  | .lit (.string bytes) => bytes.length + 1
  | .lit _ => 1
  | .nil => 1
  | .ptr d => uptoBulk d + 1
  | .slice elems spare => uptoBulkAll elems + uptoBulkAll spare + 1
  | .agg parts => uptoBulkAll parts + 1
  | .iface _ d => uptoBulk d + 1
  | .map entries => uptoBulkEntries entries + 1
  | .held _ => 1
def uptoBulkAll {H : Type} : List (DataW H) → Nat
  | [] => 0
  | d :: r => uptoBulk d + uptoBulkAll r
def uptoBulkEntries {H : Type} : List (Lit × DataW H) → Nat
  | [] => 0
  | x :: r => uptoBulkEntry x + uptoBulkEntries r
def uptoBulkEntry {H : Type} : Lit × DataW H → Nat
  | (.string bytes, d) => bytes.length + uptoBulk d + 1
  | (_, d) => uptoBulk d + 1
 end
def uptoSmall : (H : Type) → List (DataW H) → Bool := fun _ ds => decide (uptoBulkAll ds ≤ 1048576)
def OpenSpec.upto (s : _root_.Go.ChangeSpec) : _root_.Go.OpenSpec := { _root_.Go.OpenSpec.ofChange s with cond := some uptoSmall }

/-- 'tenurelaw17.GuardChecks', WHERE WHAT IT READS IS OF BULK AT MOST 1048576: true; the input reads as it did. -/
def guardChecksUptoRow : OpenClaim := { program := "ytogebohommickaa", sum := "8c3e4360f3e23d9ddd0ef8c5b08a9fbaf5c91a6cbaf9c74c5f42911d20b1e91c", func := "tenure/tenurelaw17.GuardChecks", spec := "guardChecks", inPlace := ["internal/bytealg.abigen_runtime_cmpstring"], unfollowed := true, recurses := true, loops := true, apart := false, narrowed := true }
def GuardChecksUptoSaid : Prop := guardChecksUptoRow.holds Try.pinned (OpenSpec.upto guardChecksSpec)

/-- 'tenurelaw17.GuardConst', WHERE WHAT IT READS IS OF BULK AT MOST 1048576: true; the input reads as it did. -/
def guardConstUptoRow : OpenClaim := { program := "ytogebohommickaa", sum := "8c3e4360f3e23d9ddd0ef8c5b08a9fbaf5c91a6cbaf9c74c5f42911d20b1e91c", func := "tenure/tenurelaw17.GuardConst", spec := "guardConst", inPlace := ["internal/bytealg.abigen_runtime_cmpstring"], unfollowed := true, recurses := true, loops := true, apart := false, narrowed := true }
def GuardConstUptoSaid : Prop := guardConstUptoRow.holds Try.pinned (OpenSpec.upto guardConstSpec)

/-- 'tenurelaw17.GuardAny', WHERE WHAT IT READS IS OF BULK AT MOST 1048576: true; the input reads as it did. -/
def guardAnyUptoRow : OpenClaim := { program := "ytogebohommickaa", sum := "8c3e4360f3e23d9ddd0ef8c5b08a9fbaf5c91a6cbaf9c74c5f42911d20b1e91c", func := "tenure/tenurelaw17.GuardAny", spec := "guardAny", inPlace := ["internal/bytealg.abigen_runtime_cmpstring"], unfollowed := true, recurses := true, loops := true, apart := false, narrowed := true }
def GuardAnyUptoSaid : Prop := guardAnyUptoRow.holds Try.pinned (OpenSpec.upto guardAnySpec)

/-- 'tenurelaw17.GuardKnown', WHERE WHAT IT READS IS OF BULK AT MOST 1048576: true; the input reads as it did. -/
def guardKnownUptoRow : OpenClaim := { program := "ytogebohommickaa", sum := "8c3e4360f3e23d9ddd0ef8c5b08a9fbaf5c91a6cbaf9c74c5f42911d20b1e91c", func := "tenure/tenurelaw17.GuardKnown", spec := "guardKnown", inPlace := ["internal/bytealg.abigen_runtime_cmpstring"], unfollowed := true, recurses := true, apart := false, narrowed := true }
def GuardKnownUptoSaid : Prop := guardKnownUptoRow.holds Try.pinned (OpenSpec.upto guardKnownSpec)

/-- 'tenurelaw17.GuardNumbers', WHERE WHAT IT READS IS OF BULK AT MOST 1048576: true; the input reads as it did. -/
def guardNumbersUptoRow : OpenClaim := { program := "ytogebohommickaa", sum := "8c3e4360f3e23d9ddd0ef8c5b08a9fbaf5c91a6cbaf9c74c5f42911d20b1e91c", func := "tenure/tenurelaw17.GuardNumbers", spec := "guardNumbers", inPlace := ["internal/bytealg.abigen_runtime_cmpstring"], unfollowed := true, recurses := true, apart := false, narrowed := true }
def GuardNumbersUptoSaid : Prop := guardNumbersUptoRow.holds Try.pinned (OpenSpec.upto guardNumbersSpec)

/-- 'tenurelaw17.GuardOrders', WHERE WHAT IT READS IS OF BULK AT MOST 1048576: true; the input reads as it did. -/
def guardOrdersUptoRow : OpenClaim := { program := "ytogebohommickaa", sum := "8c3e4360f3e23d9ddd0ef8c5b08a9fbaf5c91a6cbaf9c74c5f42911d20b1e91c", func := "tenure/tenurelaw17.GuardOrders", spec := "guardOrders", inPlace := ["internal/bytealg.abigen_runtime_cmpstring"], unfollowed := true, recurses := true, loops := true, apart := false, narrowed := true }
def GuardOrdersUptoSaid : Prop := guardOrdersUptoRow.holds Try.pinned (OpenSpec.upto guardOrdersSpec)

end Rows
end Go.Proofs.Ytogebohommickaa
