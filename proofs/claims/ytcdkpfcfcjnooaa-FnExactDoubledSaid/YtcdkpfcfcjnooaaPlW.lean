/- Plain: what is known of arguments of such types. No condition: lemmas. -/
import Derived.Test.YtcdkpfcfcjnooaaPlF
namespace Go.Proofs.Ytcdkpfcfcjnooaa.Tw
open Go.Mach
set_option linter.unusedVariables false

abbrev kSpan : K := .pair kI kI
abbrev kSketch : K := .pair kI (.pair kI (.pair kI (.pair kI (.pair (.list kI) (.pair (.list kI) (.list (.list kI)))))))
abbrev kEntry : K := .pair kI (.pair kI (.pair (.list kSpan) kSketch))
abbrev kOut : K := .pair kI kEntry

theorem skLe_of_wf {s : SketchT} (h : Wf kSketch s) : SkLe big s := ⟨h.2.2.2.2.1.1, h.2.2.2.2.2.1.1, h.2.2.2.2.2.2.1, fun r hr => (h.2.2.2.2.2.2.2 r hr).1⟩
theorem enLe_of_wf {e : EntryT} (h : Wf kEntry e) : EnLe big e := ⟨h.2.2.1.1, skLe_of_wf h.2.2.2⟩
theorem enS_of_wf {l : List EntryT} (h : Wf (.list kEntry) l) : l.length ≤ big ∧ ∀ e ∈ l, EnLe big e := ⟨h.1, fun e he => enLe_of_wf (h.2 e he)⟩
theorem outS_of_wf {l : List OutT} (h : Wf (.list kOut) l) : l.length ≤ big ∧ ∀ o ∈ l, EnLe big o.2 := ⟨h.1, fun o ho => enLe_of_wf (h.2 o ho).2⟩

end Go.Proofs.Ytcdkpfcfcjnooaa.Tw
