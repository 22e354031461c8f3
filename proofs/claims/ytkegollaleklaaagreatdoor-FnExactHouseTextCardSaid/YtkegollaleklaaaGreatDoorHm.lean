/- Plain: marks of spans, rows of rows, entries. No condition: lemmas. -/
import Derived.Test.YtkegollaleklaaaGreatDoorHe
namespace Go.Proofs.YtkegollaleklaaaGreatDoor.Tw
open Go.Mach
set_option linter.unusedVariables false
set_option linter.unusedSimpArgs false
set_option maxRecDepth 20000
end Go.Proofs.YtkegollaleklaaaGreatDoor.Tw
