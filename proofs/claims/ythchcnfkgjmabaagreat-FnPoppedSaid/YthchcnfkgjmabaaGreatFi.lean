/- Plain: loops that find. No condition: lemmas. -/
import Derived.Test.YthchcnfkgjmabaaGreatAp
namespace Go.Proofs.YthchcnfkgjmabaaGreat.Tw
open Go.Mach
set_option linter.unusedVariables false
set_option linter.unusedSimpArgs false
set_option maxRecDepth 20000

/-! ### a loop that finds -/
theorem lp_find_from {σ β : Type} {S : σ → Option (σ ⊕ β)} (st : Nat → σ) {n : Nat} (p : Nat → Bool) {t : β} (e : Nat → β)
    (h1 : ∀ i, i < n → S (st i) = some (bif p i then .inr (e i) else .inl (st (i + 1)))) (h2 : S (st n) = some (.inr t)) : ∀ (f k : Nat), k ≤ n → n - k < f → iter S f (st k) = some (match (List.range' k (n - k)).find? p with | some i => e i | none => t)
  | 0, k, _, h => by omega
  | f + 1, k, hk, h => by
    simp only [iter]
    by_cases hn : k < n
    · rw [h1 k hn, show n - k = (n - (k + 1)) + 1 by omega, List.range'_succ, List.find?_cons]
      cases hp : p k with
      | true => simp
      | false =>
        simp only [cond_false]
        exact lp_find_from st p e h1 h2 f (k + 1) (by omega) (by omega)
    · obtain rfl : k = n := by omega
      rw [h2]
      simp
theorem lp_find {σ β : Type} {S : σ → Option (σ ⊕ β)} (st : Nat → σ) {n : Nat} (hn : n ≤ 1048576) (p : Nat → Bool) {t : β} (e : Nat → β)
    (h1 : ∀ i, i < n → S (st i) = some (bif p i then .inr (e i) else .inl (st (i + 1)))) (h2 : S (st n) = some (.inr t)) : lp S (st 0) = some (match (List.range n).find? p with | some i => e i | none => t) := by
  have := lp_find_from st p e h1 h2 bigN 0 (Nat.zero_le _) (by simp only [bigN]; omega)
  rw [Nat.sub_zero, ← List.range_eq_range'] at this
  exact this
theorem find_ok {n k : Nat} {p : Nat → Bool} (h : (List.range n).find? p = some k) : k < n ∧ p k = true :=
  ⟨List.mem_range.1 (List.mem_of_find?_eq_some h), List.find?_some h⟩

end Go.Proofs.YthchcnfkgjmabaaGreat.Tw
