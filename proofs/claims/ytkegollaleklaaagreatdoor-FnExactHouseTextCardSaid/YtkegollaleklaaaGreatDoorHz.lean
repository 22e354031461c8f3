/- Plain: outs, as types; marks that nobody looks at. No condition: lemmas. -/
import Derived.Test.YtkegollaleklaaaGreatDoorHe
namespace Go.Mach
set_option linter.unusedVariables false
end Go.Mach
namespace Go.Proofs.YtkegollaleklaaaGreatDoor.Tw
open Go.Mach
abbrev OuT := Int × EnT
abbrev ou0 : OuT := (0, en0)
def OutsLe (b : Nat) (l : List OuT) : Prop := l.length ≤ b ∧ ∀ e ∈ l, EnLe b e.2
end Go.Proofs.YtkegollaleklaaaGreatDoor.Tw
