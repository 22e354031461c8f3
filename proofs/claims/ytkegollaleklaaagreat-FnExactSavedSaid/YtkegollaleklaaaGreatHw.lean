/- Plain: houses as arguments. No condition: lemmas. -/
import Derived.Test.YtkegollaleklaaaGreatHh
namespace Go.Proofs.YtkegollaleklaaaGreat.Tw
open Go.Mach
set_option linter.unusedVariables false
set_option linter.unusedSimpArgs false
set_option maxRecDepth 20000
abbrev wSeat : K := .pair kI (.pair kI (.pair (.list wSpan) (.pair kI kI)))
abbrev wTurn : K := .pair kI (.pair .bool (.list kI))
abbrev wConf : K := .pair kI (.pair kI (.pair kI (.pair (.list kI) (.pair kI (.pair kI (.pair kI kI))))))
abbrev wHouse : K := .pair wConf (.pair kI (.pair .bool (.pair (.list wSeat) (.pair (.list (.list (.list wEntry))) (.pair (.list wTurn) (.pair kI (.pair (.list wEntry) (.list (.pair kI wEntry)))))))))
@[irreducible] def flatH (y : wHouse.T) : HsT := (y.1.1, y.1.2.1, y.1.2.2.1, y.1.2.2.2.1, y.1.2.2.2.2.1, y.1.2.2.2.2.2.1, y.1.2.2.2.2.2.2.1, y.1.2.2.2.2.2.2.2, y.2.1, y.2.2.1, y.2.2.2.1, y.2.2.2.2.1, y.2.2.2.2.2.1, y.2.2.2.2.2.2.1, y.2.2.2.2.2.2.2.1, y.2.2.2.2.2.2.2.2)
theorem hs_of_wf {x : wHouse.T} (h : Wf wHouse x) : HsLe 9223372036854775807 (flatH x) := by
 obtain ⟨⟨_, _, _, h1, _⟩, _, _, h2, h3, h4, _, h5, h6⟩ := h
 unfold flatH
 exact ⟨h1.1, ⟨h2.1, fun s hs => (h2.2 s hs).2.2.1.1⟩, ⟨h3.1, fun r hr => ⟨(h3.2 r hr).1, fun y hy => ens_of_wf ((h3.2 r hr).2 y hy)⟩⟩, ⟨h4.1, fun s hs => (h4.2 s hs).2.2.1⟩, ens_of_wf h5, outs_of_wf h6⟩
end Go.Proofs.YtkegollaleklaaaGreat.Tw
