/-
  DERIVED. GIVEN WITH THE SEED: THE CARDS: each row of YtnmfakkjnbpjpaaDoorRows.lean that lists a variable, with what it lists TIED to the program's text (the seventh form; the later family's looks); each row that meets fmt, with fmt's text TOLD by the authors' own Lean function (tested against real Go, not proved from fmt's source: count such statements apart). THE CARD IS WHAT COUNTS. Prove the row's statement (the work); the ties are given (YtnmfakkjnbpjpaaDoorTie.lean); close each card by the builder's one call (the guide's Derived/Test/ToyasCard.lean, 'card_holds'). Laid BY PROGRAM, IN A SANDBOX (cutbox-door.mjs). By AI agents, Wed Nov 11 2026. No macro, syntax, notation, axiom, sorry.
-/
import Derived.Test.YtnmfakkjnbpjpaaDoorRows
import GoSem.ClaimSeven
namespace Go.Proofs.YtnmfakkjnbpjpaaDoor
namespace Rows

/-- THE TIED CARD OF 'tenurelaw24.ScanTells'. -/
def scanTellsCard : Claim7 := { stood := { row := scanTellsRow, standIns := [], harness := (true, "49140d4cb2d650afce1395d2315069b5fa390eb8bc23f2bda3bdbb25287a62cf"), looks := true }, kinds := [], alts := [], laidByText := true, laidKinds := [.data, .data, .data, .sentinel, .sentinel], laidTests := true, laidLooks := .later }
def ScanTellsCardSaid : Prop := Claim7.holds Tryd.pinned (.plain (OpenSpec.ofChange scanTellsSpec)) scanTellsCard

/-- THE TIED CARD OF 'tenurelaw24.ScanLong'. -/
def scanLongCard : Claim7 := { stood := { row := scanLongRow, standIns := [], harness := (true, "49140d4cb2d650afce1395d2315069b5fa390eb8bc23f2bda3bdbb25287a62cf"), looks := true }, kinds := [], alts := [], laidByText := true, laidKinds := [.data, .data, .data, .sentinel, .sentinel], laidTests := true, laidLooks := .later }
def ScanLongCardSaid : Prop := Claim7.holds Tryd.pinned (.plain (OpenSpec.ofChange scanLongSpec)) scanLongCard

/-- THE TIED CARD OF 'tenurelaw24.ScanKnown'. -/
def scanKnownCard : Claim7 := { stood := { row := scanKnownRow, standIns := [], harness := (true, "49140d4cb2d650afce1395d2315069b5fa390eb8bc23f2bda3bdbb25287a62cf"), looks := true }, kinds := [], alts := [], laidByText := true, laidKinds := [.data, .data, .data, .sentinel, .sentinel], laidTests := true, laidLooks := .later }
def ScanKnownCardSaid : Prop := Claim7.holds Tryd.pinned (.plain (OpenSpec.ofChange scanKnownSpec)) scanKnownCard

/-- THE SECOND FORM's CARD OF 'tenurelaw24.ScanTells'. -/
def scanTellsUptoCard : Claim7 := { stood := { row := scanTellsUptoRow, standIns := [], harness := (true, "49140d4cb2d650afce1395d2315069b5fa390eb8bc23f2bda3bdbb25287a62cf"), looks := true }, kinds := [], alts := [], laidByText := true, laidKinds := [.data, .data, .data, .sentinel, .sentinel], laidTests := true, laidLooks := .later }
def ScanTellsUptoCardSaid : Prop := Claim7.holds Tryd.pinned (.plain (OpenSpec.upto scanTellsSpec)) scanTellsUptoCard

/-- THE SECOND FORM's CARD OF 'tenurelaw24.ScanLong'. -/
def scanLongUptoCard : Claim7 := { stood := { row := scanLongUptoRow, standIns := [], harness := (true, "49140d4cb2d650afce1395d2315069b5fa390eb8bc23f2bda3bdbb25287a62cf"), looks := true }, kinds := [], alts := [], laidByText := true, laidKinds := [.data, .data, .data, .sentinel, .sentinel], laidTests := true, laidLooks := .later }
def ScanLongUptoCardSaid : Prop := Claim7.holds Tryd.pinned (.plain (OpenSpec.upto scanLongSpec)) scanLongUptoCard

/-- THE SECOND FORM's CARD OF 'tenurelaw24.ScanKnown'. -/
def scanKnownUptoCard : Claim7 := { stood := { row := scanKnownUptoRow, standIns := [], harness := (true, "49140d4cb2d650afce1395d2315069b5fa390eb8bc23f2bda3bdbb25287a62cf"), looks := true }, kinds := [], alts := [], laidByText := true, laidKinds := [.data, .data, .data, .sentinel, .sentinel], laidTests := true, laidLooks := .later }
def ScanKnownUptoCardSaid : Prop := Claim7.holds Tryd.pinned (.plain (OpenSpec.upto scanKnownSpec)) scanKnownUptoCard
end Rows
end Go.Proofs.YtnmfakkjnbpjpaaDoor
