/-
  DERIVED. GIVEN WITH THE SEED: THE CARDS: each row of YtimniinkpipnmaaGreatDoorRows.lean that lists a variable, with what it lists TIED to the program's text (the seventh form; the later family's looks); each row that meets fmt, with fmt's text TOLD by the authors' own Lean function (tested against real Go, not proved from fmt's source: count such statements apart). THE CARD IS WHAT COUNTS. Prove the row's statement (the work); the ties are given (YtimniinkpipnmaaGreatDoorTie.lean); close each card by the builder's one call (the guide's Derived/Test/ToyasCard.lean, 'card_holds'). Laid BY PROGRAM, IN A SANDBOX (cutbox-door.mjs). By AI agents, Wed Nov 11 2026. No macro, syntax, notation, axiom, sorry.
-/
import Derived.Test.YtimniinkpipnmaaGreatDoorRows
import GoSem.ClaimSeven
namespace Go.Proofs.YtimniinkpipnmaaGreatDoor
namespace Rows

/-- THE TIED CARD OF 'lariattop.TopNegates'. -/
def topNegatesCard : Claim7 := { stood := { row := topNegatesRow, standIns := [], harness := (true, "6e7b986e3a63c2c054a10a1f7e3ca409357bd38d0f684fd5b8aaf0fc49c4d2c2"), looks := false }, kinds := [], alts := [], laidByText := true, laidKinds := [.data, .data, .data], laidTests := true, laidLooks := .later }
def TopNegatesCardSaid : Prop := Claim7.holds Tryz.pinned (.plain (OpenSpec.ofChange topNegatesSpec)) topNegatesCard

/-- THE TIED CARD OF 'lariattop.TopWitness'. -/
def topWitnessCard : Claim7 := { stood := { row := topWitnessRow, standIns := [], harness := (true, "6e7b986e3a63c2c054a10a1f7e3ca409357bd38d0f684fd5b8aaf0fc49c4d2c2"), looks := false }, kinds := [], alts := [], laidByText := true, laidKinds := [.data, .data, .data], laidTests := true, laidLooks := .later }
def TopWitnessCardSaid : Prop := Claim7.holds Tryz.pinned (.plain (OpenSpec.ofChange topWitnessSpec)) topWitnessCard

/-- THE SECOND FORM's CARD OF 'lariattop.TopNegates'. -/
def topNegatesUptoCard : Claim7 := { stood := { row := topNegatesUptoRow, standIns := [], harness := (true, "6e7b986e3a63c2c054a10a1f7e3ca409357bd38d0f684fd5b8aaf0fc49c4d2c2"), looks := false }, kinds := [], alts := [], laidByText := true, laidKinds := [.data, .data, .data], laidTests := true, laidLooks := .later }
def TopNegatesUptoCardSaid : Prop := Claim7.holds Tryz.pinned (.plain (OpenSpec.upto topNegatesSpec)) topNegatesUptoCard

/-- THE SECOND FORM's CARD OF 'lariattop.TopWitness'. -/
def topWitnessUptoCard : Claim7 := { stood := { row := topWitnessUptoRow, standIns := [], harness := (true, "6e7b986e3a63c2c054a10a1f7e3ca409357bd38d0f684fd5b8aaf0fc49c4d2c2"), looks := false }, kinds := [], alts := [], laidByText := true, laidKinds := [.data, .data, .data], laidTests := true, laidLooks := .later }
def TopWitnessUptoCardSaid : Prop := Claim7.holds Tryz.pinned (.plain (OpenSpec.upto topWitnessSpec)) topWitnessUptoCard
end Rows
end Go.Proofs.YtimniinkpipnmaaGreatDoor
