/- Plain: decimal digits, joined texts. No condition: lemmas. -/
import Derived.Test.YthchcnfkgjmabaaGreatDoorOk
import Derived.Test.YthchcnfkgjmabaaGreatDoorTx
import Derived.Lib.ItoaLen
namespace Go.Mach
set_option linter.unusedVariables false

theorem lit_nil : Array.toList (ByteArray.data { data := #[] }) = ([] : List UInt8) := rfl
theorem lit_one (a : UInt8) : Array.toList (ByteArray.data { data := #[a] }) = [a] := rfl
abbrev jn (l : List (List UInt8)) (sep : List UInt8) : List UInt8 := Lib.join l sep
theorem jn_snoc (l : List (List UInt8)) (y sep : List UInt8) (h : l ≠ []) : jn (l ++ [y]) sep = jn l sep ++ (sep ++ y) := by
  cases l with
  | nil => exact absurd rfl h
  | cons x r => simp [jn, Lib.join_cons, Lib.joinTail]
theorem jn_one (y sep : List UInt8) : jn ([] ++ [y]) sep = y := by simp [jn, Lib.join_one]
theorem jn_length (sep : List UInt8) (B : Nat) : ∀ (l : List (List UInt8)), (∀ x ∈ l, x.length ≤ B) → (jn l sep).length ≤ (B + sep.length) * l.length := by
  intro l
  cases l with
  | nil => intro _; simp [jn, Lib.join_nil]
  | cons x r =>
    intro h
    have h1 : ∀ (r : List (List UInt8)), (∀ x ∈ r, x.length ≤ B) → (Lib.joinTail sep r).length ≤ (B + sep.length) * r.length := by
      intro r
      induction r with
      | nil => intro _; simp [Lib.joinTail]
      | cons y r ih =>
        intro hr
        have := ih (fun z hz => hr z (List.mem_cons_of_mem _ hz))
        have hy := hr y List.mem_cons_self
        simp only [Lib.joinTail, List.map_cons, List.flatten_cons, List.length_append, List.length_cons] at this ⊢
        rw [Nat.mul_add]
        omega
    have h2 := h1 r (fun z hz => h z (List.mem_cons_of_mem _ hz))
    have h3 := h x List.mem_cons_self
    rw [jn, Lib.join_cons]
    simp only [List.length_append, List.length_cons]
    rw [Nat.mul_add]
    omega
theorem map_snoc {α β : Type} (f : α → β) (l : List α) (i : Nat) (d : α) (h : i < l.length) : (l.take (i + 1)).map f = (l.take i).map f ++ [f (l.getD i d)] := by
  rw [take_snoc d h, List.map_append]
  rfl
theorem take_ne_nil {α : Type} (l : List α) (i : Nat) (h : 0 < i) (h' : i ≤ l.length) : l.take i ≠ [] := by
  intro q
  have : (l.take i).length = 0 := by rw [q]; rfl
  rw [List.length_take] at this
  omega
end Go.Mach

namespace Go.Proofs.YthchcnfkgjmabaaGreatDoor.Tw
open Go.Mach
set_option linter.unusedVariables false
set_option linter.unusedSimpArgs false
set_option maxRecDepth 20000

def dg (n : Int) : List UInt8 := Lib.itoa n
theorem dg_le {n : Int} (h0 : 0 ≤ n) (h1 : n ≤ 1000000000000) : (dg n).length ≤ 21 := Lib.itoa_length_le n (by omega) (by omega)

theorem implDigits_eq {n : Int} (h0 : 0 ≤ n) (h1 : n ≤ 1000000000000) : impl_Digits n = some (dg n) := by
  simp only [impl_Digits, strconv_Itoa]
  rw [if_pos ⟨by omega, by omega⟩]
  rfl
theorem join_some {l : List (List UInt8)} {sep : List UInt8} (B : Nat) (h : ∀ x ∈ l, x.length ≤ B) (hl : l.length ≤ 1048576) (hB : B + sep.length ≤ 1000) : strings_Join (l, sep) = some (jn l sep) := by
  have h1 : (Lib.join l sep).length ≤ (B + sep.length) * l.length := jn_length sep B l h
  have h2 : (B + sep.length) * l.length ≤ 1000 * 1048576 := Nat.mul_le_mul hB hl
  simp only [strings_Join]
  rw [if_pos ⟨by omega, by omega⟩]

end Go.Proofs.YthchcnfkgjmabaaGreatDoor.Tw
