/-
  DERIVED. GIVEN WITH THE SEED: THE CARDS: each row of YtnjonahoheopnaaGreatDoorRows.lean that lists a variable, with what it lists TIED to the program's text (the seventh form; the later family's looks); each row that meets fmt, with fmt's text TOLD by the authors' own Lean function (tested against real Go, not proved from fmt's source: count such statements apart). THE CARD IS WHAT COUNTS. Prove the row's statement (the work); the ties are given (YtnjonahoheopnaaGreatDoorTie.lean); close each card by the builder's one call (the guide's Derived/Test/ToyasCard.lean, 'card_holds'). Laid BY PROGRAM, IN A SANDBOX (cutbox-door.mjs). By AI agents, Wed Nov 11 2026. No macro, syntax, notation, axiom, sorry.
-/
import Derived.Test.YtnjonahoheopnaaGreatDoorRows
import GoSem.ClaimSeven
namespace Go.Proofs.YtnjonahoheopnaaGreatDoor
namespace Rows

/-- THE TIED CARD OF 'tenurelaw24.ScanWrites'. -/
def scanWritesCard : Claim7 := { stood := { row := scanWritesRow, standIns := [], harness := (true, "bc0548ef0a7adba22caf631b58009434357366090ee973489f74a1dc9856018f"), looks := true }, kinds := [], alts := [], laidByText := true, laidKinds := [.data, .data, .data, .sentinel, .sentinel], laidTests := true, laidLooks := .later }
def ScanWritesCardSaid : Prop := Claim7.holds Tryz.pinned (.plain (OpenSpec.ofChange scanWritesSpec)) scanWritesCard

/-- THE TIED CARD OF 'tenurelaw24.ScanBack'. -/
def scanBackCard : Claim7 := { stood := { row := scanBackRow, standIns := [], harness := (true, "bc0548ef0a7adba22caf631b58009434357366090ee973489f74a1dc9856018f"), looks := true }, kinds := [], alts := [], laidByText := true, laidKinds := [.data, .data, .data, .sentinel, .sentinel], laidTests := true, laidLooks := .later }
def ScanBackCardSaid : Prop := Claim7.holds Tryz.pinned (.plain (OpenSpec.ofChange scanBackSpec)) scanBackCard

/-- THE TIED CARD OF 'tenurelaw19.CodeTexts'. -/
def codeTextsCard : Claim7 := { stood := { row := codeTextsRow, standIns := [], harness := (true, "bc0548ef0a7adba22caf631b58009434357366090ee973489f74a1dc9856018f"), looks := true }, kinds := [], alts := [], laidByText := true, laidKinds := [.data, .data, .data], laidTests := true, laidLooks := .later }
def CodeTextsCardSaid : Prop := Claim7.holds Tryz.pinned (.plain (OpenSpec.ofChange codeTextsSpec)) codeTextsCard

/-- THE TIED CARD OF 'tenurelaw19.CodeKnown'. -/
def codeKnownCard : Claim7 := { stood := { row := codeKnownRow, standIns := [], harness := (true, "bc0548ef0a7adba22caf631b58009434357366090ee973489f74a1dc9856018f"), looks := true }, kinds := [], alts := [], laidByText := true, laidKinds := [.data, .data, .data], laidTests := true, laidLooks := .later }
def CodeKnownCardSaid : Prop := Claim7.holds Tryz.pinned (.plain (OpenSpec.ofChange codeKnownSpec)) codeKnownCard

/-- THE SECOND FORM's CARD OF 'tenurelaw24.ScanWrites'. -/
def scanWritesUptoCard : Claim7 := { stood := { row := scanWritesUptoRow, standIns := [], harness := (true, "bc0548ef0a7adba22caf631b58009434357366090ee973489f74a1dc9856018f"), looks := true }, kinds := [], alts := [], laidByText := true, laidKinds := [.data, .data, .data, .sentinel, .sentinel], laidTests := true, laidLooks := .later }
def ScanWritesUptoCardSaid : Prop := Claim7.holds Tryz.pinned (.plain (OpenSpec.upto scanWritesSpec)) scanWritesUptoCard

/-- THE SECOND FORM's CARD OF 'tenurelaw24.ScanBack'. -/
def scanBackUptoCard : Claim7 := { stood := { row := scanBackUptoRow, standIns := [], harness := (true, "bc0548ef0a7adba22caf631b58009434357366090ee973489f74a1dc9856018f"), looks := true }, kinds := [], alts := [], laidByText := true, laidKinds := [.data, .data, .data, .sentinel, .sentinel], laidTests := true, laidLooks := .later }
def ScanBackUptoCardSaid : Prop := Claim7.holds Tryz.pinned (.plain (OpenSpec.upto scanBackSpec)) scanBackUptoCard

/-- THE SECOND FORM's CARD OF 'tenurelaw19.CodeTexts'. -/
def codeTextsUptoCard : Claim7 := { stood := { row := codeTextsUptoRow, standIns := [], harness := (true, "bc0548ef0a7adba22caf631b58009434357366090ee973489f74a1dc9856018f"), looks := true }, kinds := [], alts := [], laidByText := true, laidKinds := [.data, .data, .data], laidTests := true, laidLooks := .later }
def CodeTextsUptoCardSaid : Prop := Claim7.holds Tryz.pinned (.plain (OpenSpec.upto codeTextsSpec)) codeTextsUptoCard

/-- THE SECOND FORM's CARD OF 'tenurelaw19.CodeKnown'. -/
def codeKnownUptoCard : Claim7 := { stood := { row := codeKnownUptoRow, standIns := [], harness := (true, "bc0548ef0a7adba22caf631b58009434357366090ee973489f74a1dc9856018f"), looks := true }, kinds := [], alts := [], laidByText := true, laidKinds := [.data, .data, .data], laidTests := true, laidLooks := .later }
def CodeKnownUptoCardSaid : Prop := Claim7.holds Tryz.pinned (.plain (OpenSpec.upto codeKnownSpec)) codeKnownUptoCard
end Rows
end Go.Proofs.YtnjonahoheopnaaGreatDoor
