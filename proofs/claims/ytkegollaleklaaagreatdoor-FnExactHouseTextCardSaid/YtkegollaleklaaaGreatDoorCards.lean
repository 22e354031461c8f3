/-
  DERIVED. GIVEN WITH THE SEED: THE CARDS: each row of YtkegollaleklaaaGreatDoorRows.lean that lists a variable, with what it lists TIED to the program's text (the seventh form; the later family's looks); each row that meets fmt, with fmt's text TOLD by the authors' own Lean function (tested against real Go, not proved from fmt's source: count such statements apart). THE CARD IS WHAT COUNTS. Prove the row's statement (the work); the ties are given (YtkegollaleklaaaGreatDoorTie.lean); close each card by the builder's one call (the guide's Derived/Test/ToyasCard.lean, 'card_holds'). Laid BY PROGRAM, IN A SANDBOX (cutbox-door.mjs). By AI agents, Wed Nov 11 2026. No macro, syntax, notation, axiom, sorry.
-/
import Derived.Test.YtkegollaleklaaaGreatDoorRows
import GoSem.ClaimSeven
namespace Go.Proofs.YtkegollaleklaaaGreatDoor
namespace Rows

/-- THE TIED CARD OF 'laws.FnExactHouseText'. -/
def fnExactHouseTextCard : Claim7 := { stood := { row := fnExactHouseTextRow, standIns := [], harness := (true, "8cb923cdaacd39ec8bb4c30ec38a635c1448a3127ad22158c4f39ae479f5dcc1"), looks := false }, kinds := [], alts := [], laidByText := true, laidKinds := [.data, .data, .data], laidTests := true, laidLooks := .later }
def FnExactHouseTextCardSaid : Prop := Claim7.holds Tryz.pinned (.plain (OpenSpec.ofChange fnExactHouseTextSpec)) fnExactHouseTextCard

/-- THE SECOND FORM's CARD OF 'laws.FnExactHouseText'. -/
def fnExactHouseTextUptoCard : Claim7 := { stood := { row := fnExactHouseTextUptoRow, standIns := [], harness := (true, "8cb923cdaacd39ec8bb4c30ec38a635c1448a3127ad22158c4f39ae479f5dcc1"), looks := false }, kinds := [], alts := [], laidByText := true, laidKinds := [.data, .data, .data], laidTests := true, laidLooks := .later }
def FnExactHouseTextUptoCardSaid : Prop := Claim7.holds Tryz.pinned (.plain (OpenSpec.upto fnExactHouseTextSpec)) fnExactHouseTextUptoCard
end Rows
end Go.Proofs.YtkegollaleklaaaGreatDoor
