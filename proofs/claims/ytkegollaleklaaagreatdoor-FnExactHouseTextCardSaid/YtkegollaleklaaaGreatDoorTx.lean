/- Twins that plain texts speak of, by definitions alone. No condition: definitions. -/
import Derived.Test.YtkegollaleklaaaGreatDoorTwHT
namespace Go.Proofs.YtkegollaleklaaaGreatDoor.Tw
open Go.Mach
set_option linter.unusedVariables false
end Go.Proofs.YtkegollaleklaaaGreatDoor.Tw
