/- Plain: outs, as types; marks that nobody looks at. No condition: lemmas. -/
import Derived.Test.YtkegollaleklaaaGreatHe
namespace Go.Mach
set_option linter.unusedVariables false
def Mrk {α : Type} (mark : α × Int → Option (Int × α)) (sz : Nat) (x : α) : Prop := ∀ k : Int, 0 ≤ k → k + sz ≤ 1152921504606846976 → ∃ x', mark (x, k) = some (k + sz, x')
theorem Marks.mark {α : Type} {mark : α × Int → Option (Int × α)} {held : α × Int → Option Int} {n : Nat} {x : α} (h : Marks mark held n x) : Mrk mark n x := fun k h0 h1 => by
 obtain ⟨y, e, _⟩ := h k h0 h1
 exact ⟨y, e⟩
end Go.Mach
namespace Go.Proofs.YtkegollaleklaaaGreat.Tw
open Go.Mach
abbrev OuT := Int × EnT
abbrev ou0 : OuT := (0, en0)
def OutsLe (b : Nat) (l : List OuT) : Prop := l.length ≤ b ∧ ∀ e ∈ l, EnLe b e.2
end Go.Proofs.YtkegollaleklaaaGreat.Tw
