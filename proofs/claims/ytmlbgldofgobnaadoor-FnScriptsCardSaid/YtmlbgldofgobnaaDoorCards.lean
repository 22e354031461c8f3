/-
  DERIVED. GIVEN WITH THE SEED: THE CARDS: each row of YtmlbgldofgobnaaDoorRows.lean that lists a variable, with what it lists TIED to the program's text (the seventh form; the later family's looks); each row that meets fmt, with fmt's text TOLD by the authors' own Lean function (tested against real Go, not proved from fmt's source: count such statements apart). THE CARD IS WHAT COUNTS. Prove the row's statement (the work); the ties are given (YtmlbgldofgobnaaDoorTie.lean); close each card by the builder's one call (the guide's Derived/Test/ToyasCard.lean, 'card_holds'). Laid BY PROGRAM, IN A SANDBOX (cutbox-door.mjs). By AI agents, Wed Nov 11 2026. No macro, syntax, notation, axiom, sorry.
-/
import Derived.Test.YtmlbgldofgobnaaDoorRows
import GoSem.ClaimSeven
namespace Go.Proofs.YtmlbgldofgobnaaDoor
namespace Rows

/-- THE TIED CARD OF 'laws.FnExactDeedOf'. -/
def fnExactDeedOfCard : Claim7 := { stood := { row := fnExactDeedOfRow, standIns := [], harness := (true, "29d85514d1ad44acd623f9022085acff3b28fe73e23aa0dd65e567bab6c3b4e1"), looks := false }, kinds := [], alts := [], laidByText := true, laidKinds := [.data, .data, .data, .data, .pinned], laidTests := true, laidLooks := .later }
def FnExactDeedOfCardSaid : Prop := Claim7.holds Tryd.pinned (.plain (OpenSpec.ofChange fnExactDeedOfSpec)) fnExactDeedOfCard

/-- THE TIED CARD OF 'laws.FnExactDeedsOf'. -/
def fnExactDeedsOfCard : Claim7 := { stood := { row := fnExactDeedsOfRow, standIns := [], harness := (true, "29d85514d1ad44acd623f9022085acff3b28fe73e23aa0dd65e567bab6c3b4e1"), looks := false }, kinds := [], alts := [], laidByText := true, laidKinds := [.data, .data, .data, .data, .pinned], laidTests := true, laidLooks := .later }
def FnExactDeedsOfCardSaid : Prop := Claim7.holds Tryd.pinned (.plain (OpenSpec.ofChange fnExactDeedsOfSpec)) fnExactDeedsOfCard

/-- THE TIED CARD OF 'laws.FnScripts'. -/
def fnScriptsCard : Claim7 := { stood := { row := fnScriptsRow, standIns := [], harness := (true, "29d85514d1ad44acd623f9022085acff3b28fe73e23aa0dd65e567bab6c3b4e1"), looks := false }, kinds := [], alts := [], laidByText := true, laidKinds := [.data, .data, .data, .data, .pinned], laidTests := true, laidLooks := .later }
def FnScriptsCardSaid : Prop := Claim7.holds Tryd.pinned (.plain (OpenSpec.ofChange fnScriptsSpec)) fnScriptsCard

/-- THE SECOND FORM's CARD OF 'laws.FnExactDeedOf'. -/
def fnExactDeedOfUptoCard : Claim7 := { stood := { row := fnExactDeedOfUptoRow, standIns := [], harness := (true, "29d85514d1ad44acd623f9022085acff3b28fe73e23aa0dd65e567bab6c3b4e1"), looks := false }, kinds := [], alts := [], laidByText := true, laidKinds := [.data, .data, .data, .data, .pinned], laidTests := true, laidLooks := .later }
def FnExactDeedOfUptoCardSaid : Prop := Claim7.holds Tryd.pinned (.plain (OpenSpec.upto fnExactDeedOfSpec)) fnExactDeedOfUptoCard

/-- THE SECOND FORM's CARD OF 'laws.FnExactDeedsOf'. -/
def fnExactDeedsOfUptoCard : Claim7 := { stood := { row := fnExactDeedsOfUptoRow, standIns := [], harness := (true, "29d85514d1ad44acd623f9022085acff3b28fe73e23aa0dd65e567bab6c3b4e1"), looks := false }, kinds := [], alts := [], laidByText := true, laidKinds := [.data, .data, .data, .data, .pinned], laidTests := true, laidLooks := .later }
def FnExactDeedsOfUptoCardSaid : Prop := Claim7.holds Tryd.pinned (.plain (OpenSpec.upto fnExactDeedsOfSpec)) fnExactDeedsOfUptoCard

/-- THE SECOND FORM's CARD OF 'laws.FnScripts'. -/
def fnScriptsUptoCard : Claim7 := { stood := { row := fnScriptsUptoRow, standIns := [], harness := (true, "29d85514d1ad44acd623f9022085acff3b28fe73e23aa0dd65e567bab6c3b4e1"), looks := false }, kinds := [], alts := [], laidByText := true, laidKinds := [.data, .data, .data, .data, .pinned], laidTests := true, laidLooks := .later }
def FnScriptsUptoCardSaid : Prop := Claim7.holds Tryd.pinned (.plain (OpenSpec.upto fnScriptsSpec)) fnScriptsUptoCard
end Rows
end Go.Proofs.YtmlbgldofgobnaaDoor
