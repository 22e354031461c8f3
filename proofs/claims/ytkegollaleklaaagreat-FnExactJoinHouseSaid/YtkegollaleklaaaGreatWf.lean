/- Plain: what is known of arguments of such types. No condition: lemmas. -/
import Derived.Test.YtkegollaleklaaaGreatHe
namespace Go.Proofs.YtkegollaleklaaaGreat.Tw
open Go.Mach
set_option linter.unusedVariables false
abbrev wSpan : K := .pair kI kI
abbrev wSketch : K := .pair kI (.pair kI (.pair kI (.pair kI (.pair (.list kI) (.pair (.list kI) (.list (.list kI)))))))
abbrev wEntry : K := .pair kI (.pair kI (.pair (.list wSpan) wSketch))
theorem sk_of_wf {s : SkT} (h : Wf wSketch s) : SkLe 9223372036854775807 s := ⟨h.2.2.2.2.1.1, h.2.2.2.2.2.1.1, h.2.2.2.2.2.2.1, fun r hr => (h.2.2.2.2.2.2.2 r hr).1⟩
theorem en_of_wf {e : EnT} (h : Wf wEntry e) : EnLe 9223372036854775807 e := ⟨h.2.2.1.1, sk_of_wf h.2.2.2⟩
theorem ens_of_wf {l : List EnT} (h : Wf (.list wEntry) l) : EnsLe 9223372036854775807 l := ⟨h.1, fun e he => en_of_wf (h.2 e he)⟩
end Go.Proofs.YtkegollaleklaaaGreat.Tw
