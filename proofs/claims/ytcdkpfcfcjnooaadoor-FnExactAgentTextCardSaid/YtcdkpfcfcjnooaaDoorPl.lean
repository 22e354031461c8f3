/- Plain lemmas on loops and numbers, over the machine's words. No condition: lemmas. -/
import Derived.Test.YtcdkpfcfcjnooaaDoorXI
import Derived.IntWalk
namespace Go.Mach
set_option linter.unusedVariables false

/-- A loop, by what comes of it from each state. -/
theorem iter_run {α β : Type} {S : α → Option (α ⊕ β)} (μ : α → Nat) (I : α → Prop) (f : α → β)
    (h : ∀ d, I d → (∃ d', S d = some (.inl d') ∧ I d' ∧ μ d' < μ d ∧ f d' = f d) ∨ S d = some (.inr (f d))) : ∀ (n : Nat) (d : α), I d → μ d < n → iter S n d = some (f d)
  | 0, d, _, hm => by omega
  | n + 1, d, hi, hm => by
    simp only [iter]
    rcases h d hi with ⟨d', h1, h2, h3, h4⟩ | h1
    · rw [h1]
      simp only
      rw [iter_run μ I f h n d' h2 (by omega), h4]
    · rw [h1]

theorem chk_true {R : Type} {b : Bool} (h : b = true) (k : Option R) : chk b k = k := by rw [h]; rfl

theorem chk_dec {R : Type} {p : Prop} [Decidable p] (h : p) (k : Option R) : chk (decide p) k = k := chk_true (decide_eq_true h) k

theorem wrap_i64 {n : Int} (h1 : -9223372036854775808 ≤ n) (h2 : n ≤ 9223372036854775807) : IntKind.wrap .i64 n = n := Go.IntWalk.i64_in n ⟨h1, h2⟩

theorem getD_drop {α : Type} (l : List α) (i : Nat) (d : α) (h : i < l.length) : l.drop i = l.getD i d :: l.drop (i + 1) := by
  rw [List.drop_eq_getElem_cons h]
  simp [List.getD_eq_getElem?_getD, List.getElem?_eq_getElem h]

theorem toNat_succ {i : Int} (h : 0 ≤ i) : (i + 1).toNat = i.toNat + 1 := by omega

end Go.Mach
