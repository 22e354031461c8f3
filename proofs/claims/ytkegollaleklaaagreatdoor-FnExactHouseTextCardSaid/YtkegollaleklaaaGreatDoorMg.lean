/- Plain: sketches that are right, merged: the program's way and the reference's. No condition: lemmas. -/
import Derived.Test.YtkegollaleklaaaGreatDoorOk
namespace Go.Mach
end Go.Mach
namespace Go.Proofs.YtkegollaleklaaaGreatDoor.Tw
open Go.Mach
set_option linter.unusedVariables false
set_option linter.unusedSimpArgs false
set_option maxRecDepth 20000
theorem specMin_eq (a b : Int) : spec_l1Min (a, b) = some (min a b) := by simp only [spec_l1Min, bif_dec]; split <;> simp <;> omega
theorem specMax_eq (a b : Int) : spec_l1Max (a, b) = some (max a b) := by simp only [spec_l1Max, bif_dec]; split <;> simp <;> omega
theorem SkOk.toLe {s : SkT} (h : SkOk s) : SkLe 8 s := by
  obtain ⟨r0, r1, e, ⟨q0, _⟩, ⟨q1, _⟩⟩ := h.rows
  refine ⟨by rw [h.hist.1]; omega, by rw [h.regs.1]; omega, by rw [e]; simp, fun r hr => ?_⟩
  rw [e] at hr
  simp only [List.mem_cons, List.not_mem_nil, or_false] at hr
  rcases hr with rfl | rfl <;> omega
theorem SkLe.mono {a b : Nat} {s : SkT} (h : SkLe a s) (hab : a ≤ b) : SkLe b s := ⟨Nat.le_trans h.1 hab, Nat.le_trans h.2.1 hab, Nat.le_trans h.2.2.1 hab, fun r hr => Nat.le_trans (h.2.2.2 r hr) hab⟩
end Go.Proofs.YtkegollaleklaaaGreatDoor.Tw
