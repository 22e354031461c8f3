/- Plain: texts cut at a byte, two ways. No condition: lemmas. -/
import Derived.Test.YtmlbgldofgobnaaDoorLp
import Derived.Lib.SplitLaws
namespace Go.Mach
open Go.Lib
set_option linter.unusedVariables false

/-- A text cut at each c; p: what stands ahead since the last cut. -/
def cutA (c : UInt8) (p : List UInt8) : List UInt8 → List (List UInt8)
  | [] => [p]
  | b :: l => if b = c then p :: cutA c [] l else cutA c (p ++ [b]) l

theorem cutA_ne (c : UInt8) : ∀ (l p : List UInt8), cutA c p l ≠ []
  | [], p => by simp [cutA]
  | b :: l, p => by
    unfold cutA
    split
    · simp
    · exact cutA_ne c l _

theorem cutA_head (c : UInt8) : ∀ (l p : List UInt8), cutA c p l = (p ++ (cutA c [] l).headD []) :: (cutA c [] l).tail
  | [], p => by simp [cutA]
  | b :: l, p => by
    unfold cutA
    split
    · simp
    · rw [cutA_head c l (p ++ [b]), cutA_head c l ([] ++ [b])]
      simp

theorem splitK_one (c : UInt8) : ∀ s : List UInt8, splitK [c] 0 (count s [c]) s = cutA c [] s
  | [] => by simp [count_one, splitK, cutA]
  | b :: l => by
    have ih := splitK_one c l
    by_cases h : b = c
    · subst h
      have hix : index (b :: l) [b] = 0 := by rw [index]; simp [List.isPrefixOf]
      rw [count_cons_eq, Nat.add_comm, splitK, hix]
      simp only [cutA, if_true, show ((0 : Int) == -1) = false from rfl, Bool.false_eq_true, if_false, Int.toNat_zero, Nat.zero_add, List.take_zero, List.length_cons, List.length_nil, List.drop_succ_cons, List.drop_zero]
      rw [ih]
    · have hp : ([c] : List UInt8).isPrefixOf (b :: l) = false := by simp [List.isPrefixOf, Ne.symm h]
      have hix : index (b :: l) [c] = if index l [c] == -1 then -1 else index l [c] + 1 := by rw [index, hp]; simp
      rw [count_cons_ne b c l h]
      simp only [cutA, h, if_false, List.nil_append]
      rw [cutA_head c l [b], ← ih]
      by_cases hm : index l [c] = -1
      · rw [count_miss hm]
        simp [splitK]
      · have hge := index_ge l [c]
        obtain ⟨j, hj⟩ : ∃ j : Nat, index l [c] = j := ⟨(index l [c]).toNat, by omega⟩
        have hjf : ((j : Int) == -1) = false := by rw [beq_eq_false_iff_ne]; omega
        rw [count_hit (by simp) hj]
        rw [Nat.add_comm 1]
        unfold splitK
        rw [hix, hj, hjf]
        have hjf2 : ((j : Int) + 1 == -1) = false := by rw [beq_eq_false_iff_ne]; omega
        simp only [Bool.false_eq_true, if_false, hjf2]
        rw [show ((j : Int) + 1).toNat = j + 1 by omega, Int.toNat_natCast]
        simp [Nat.add_right_comm j 1 1]

theorem cutA_len (c : UInt8) : ∀ (l p : List UInt8), (cutA c p l).length ≤ l.length + 1
  | [], p => by simp [cutA]
  | b :: l, p => by
    unfold cutA
    split
    · have := cutA_len c l []
      simp; omega
    · have := cutA_len c l (p ++ [b])
      simp; omega

theorem cutA_piece (c : UInt8) : ∀ (l p : List UInt8), ∀ x ∈ cutA c p l, x.length ≤ p.length + l.length
  | [], p, x, hx => by simp [cutA] at hx; simp [hx]
  | b :: l, p, x, hx => by
    unfold cutA at hx
    split at hx
    · simp only [List.mem_cons] at hx
      rcases hx with rfl | hx
      · simp
      · have := cutA_piece c l [] x hx
        simp at this ⊢; omega
    · have := cutA_piece c l (p ++ [b]) x hx
      simp at this ⊢; omega

end Go.Mach
