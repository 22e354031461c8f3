/- Plain: What rows that are right take. No condition: lemmas. -/
import Derived.Test.YtkegollaleklaaaGreatRp
import Derived.Test.YtkegollaleklaaaGreatWf
namespace Go.Proofs.YtkegollaleklaaaGreat.Tw
open Go.Mach
set_option linter.unusedVariables false
set_option linter.unusedSimpArgs false
set_option maxRecDepth 20000
theorem szEn_le {e : EnT} (h : EnOk e) : szEn e ≤ 20000 := by
 have h1 := h.len
 have h2 := h.sk.toLe
 have h3 : sumL (fun _ : SpT => 2) e.2.2.1 ≤ e.2.2.1.length * 2 := sumL_le fun _ _ => Nat.le_refl _
 have h4 : sumL (fun r : List Int => r.length) e.2.2.2.2.2.2.2.2.2 ≤ e.2.2.2.2.2.2.2.2.2.length * 8 := sumL_le h2.2.2.2
 have := h2.1
 have := h2.2.1
 have := h2.2.2.1
 unfold szEn szSk
 omega
theorem RowOk.szs {l : List EnT} (h : RowOk l) : sumL szEn l ≤ 480000 := by
 have : sumL szEn l ≤ l.length * 20000 := sumL_le fun e he => szEn_le (h.ens e he)
 have := h.len
 omega
end Go.Proofs.YtkegollaleklaaaGreat.Tw
