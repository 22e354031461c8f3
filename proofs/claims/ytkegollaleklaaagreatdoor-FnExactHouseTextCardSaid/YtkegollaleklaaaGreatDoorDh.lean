/- Plain: decimal digits, joined texts. No condition: lemmas. -/
import Derived.Test.YtkegollaleklaaaGreatDoorOk
import Derived.Test.YtkegollaleklaaaGreatDoorTx
import Derived.Lib.ItoaLen
namespace Go.Mach
set_option linter.unusedVariables false
theorem lit_nil : Array.toList (ByteArray.data { data := #[] }) = ([] : List UInt8) := rfl
theorem lit_one (a : UInt8) : Array.toList (ByteArray.data { data := #[a] }) = [a] := rfl
abbrev jn (l : List (List UInt8)) (sep : List UInt8) : List UInt8 := Lib.join l sep
theorem jn_snoc (l : List (List UInt8)) (y sep : List UInt8) (h : l ≠ []) : jn (l ++ [y]) sep = jn l sep ++ (sep ++ y) := by
  cases l with
  | nil => exact absurd rfl h
  | cons x r => simp [jn, Lib.join_cons, Lib.joinTail]
theorem jn_one (y sep : List UInt8) : jn ([] ++ [y]) sep = y := by simp [jn, Lib.join_one]
theorem jn_length (sep : List UInt8) (B : Nat) : ∀ (l : List (List UInt8)), (∀ x ∈ l, x.length ≤ B) → (jn l sep).length ≤ (B + sep.length) * l.length := by
  intro l
  cases l with
  | nil => intro _; simp [jn, Lib.join_nil]
  | cons x r =>
    intro h
    have h1 : ∀ (r : List (List UInt8)), (∀ x ∈ r, x.length ≤ B) → (Lib.joinTail sep r).length ≤ (B + sep.length) * r.length := by
      intro r
      induction r with
      | nil => intro _; simp [Lib.joinTail]
      | cons y r ih =>
        intro hr
        have := ih (fun z hz => hr z (List.mem_cons_of_mem _ hz))
        have hy := hr y List.mem_cons_self
        simp only [Lib.joinTail, List.map_cons, List.flatten_cons, List.length_append, List.length_cons] at this ⊢
        rw [Nat.mul_add]
        omega
    have h2 := h1 r (fun z hz => h z (List.mem_cons_of_mem _ hz))
    have h3 := h x List.mem_cons_self
    rw [jn, Lib.join_cons]
    simp only [List.length_append, List.length_cons]
    rw [Nat.mul_add]
    omega
theorem map_snoc {α β : Type} (f : α → β) (l : List α) (i : Nat) (d : α) (h : i < l.length) : (l.take (i + 1)).map f = (l.take i).map f ++ [f (l.getD i d)] := by
  rw [take_snoc d h, List.map_append]
  rfl
theorem take_ne_nil {α : Type} (l : List α) (i : Nat) (h : 0 < i) (h' : i ≤ l.length) : l.take i ≠ [] := by
  intro q
  have : (l.take i).length = 0 := by rw [q]; rfl
  rw [List.length_take] at this
  omega
end Go.Mach
namespace Go.Proofs.YtkegollaleklaaaGreatDoor.Tw
open Go.Mach
set_option linter.unusedVariables false
set_option linter.unusedSimpArgs false
set_option maxRecDepth 20000
def dg (n : Int) : List UInt8 := Lib.itoa n
theorem dg_le {n : Int} (h0 : 0 ≤ n) (h1 : n ≤ 1000000000000) : (dg n).length ≤ 21 := Lib.itoa_length_le n (by omega) (by omega)
theorem digLoop (b : Bool) : ∀ (k u : Nat) (out : List UInt8), u < 10 ^ k → out.length + k ≤ 1000 → u < 4611686018427387904 → ∀ f, k < f →
    iter spec_Digits_s124 f ((u : Int), b, out) = some (b, if u = 0 then out else Lib.decDigits u ++ out)
  | k, u, out, h, hl, hu, 0, hf => by omega
  | k, u, out, h, hl, hu, f + 1, hf => by
    by_cases h0 : u = 0
    · subst h0
      simp [iter, spec_Digits_s124]
    · match k, h, hl, hf with
      | 0, h, hl, hf => simp at h; omega
      | k + 1, h, hl, hf =>
        have e1 : ((u : Int) != 0) = true := by simpa using h0
        have e2 : Int.tmod (u : Int) 10 = ((u % 10 : Nat) : Int) := by rw [Int.tmod_eq_emod_of_nonneg (by omega)]; omega
        have e3 : IntKind.wrap .i64 (Int.tdiv (u : Int) 10) = ((u / 10 : Nat) : Int) := by
          rw [Int.tdiv_eq_ediv_of_nonneg (by omega), wr (by omega) (by omega)]
          omega
        have e4 : IntKind.wrap .i64 ((48 : Int) + ((u % 10 : Nat) : Int)) = ((48 + u % 10 : Nat) : Int) := by rw [wr (by omega) (by omega)]; omega
        have e5 : IntKind.wrap .u8 ((48 + u % 10 : Nat) : Int) = ((48 + u % 10 : Nat) : Int) := by
          show ((48 + u % 10 : Nat) : Int) % 256 = _
          omega
        have hs : spec_Digits_s124 ((u : Int), b, out) = some (.inl (((u / 10 : Nat) : Int), b, [UInt8.ofNat (48 + u % 10)] ++ out)) := by
          simp only [spec_Digits_s124, e1, cond_true, e2, dF (show ¬ (((u % 10 : Nat) : Int) < 0) by omega), cond_false, e4, e5, e3, List.map_cons, List.map_nil, Int.toNat_natCast, Option.bind_some]
          rw [chkD (by simp only [List.length_cons, List.length_nil]; omega)]
        have hlt : u / 10 < 10 ^ k := by
          rw [Nat.pow_succ] at h
          omega
        simp only [iter, hs]
        rw [digLoop b k (u / 10) _ hlt (by simp only [List.length_append, List.length_cons, List.length_nil]; omega) (by omega) f (by omega), if_neg h0]
        congr 2
        by_cases h9 : u < 10
        · rw [if_pos (by omega), Lib.decDigits.eq_def u, dif_pos h9, Nat.mod_eq_of_lt h9]
        · rw [if_neg (by omega), Lib.decDigits.eq_def u, dif_neg h9, List.append_assoc]
theorem specDigits_eq {n : Int} (h0 : 0 ≤ n) (h1 : n ≤ 1000000000000) : spec_Digits n = some (dg n) := by
  obtain ⟨u, rfl⟩ : ∃ u : Nat, n = (u : Int) := ⟨n.toNat, by omega⟩
  unfold dg
  rw [Lib.itoa_nonneg]
  by_cases hu : u = 0
  · subst hu
    have : Lib.decDigits 0 = [48] := by rw [Lib.decDigits.eq_def]; rfl
    rw [this]
    rfl
  · have e1 : ((u : Int) == 0) = false := by simpa using hu
    have q := digLoop false 13 u [] (by omega) (by simp) (by omega) bigN (by simp only [bigN]; omega)
    have q' : lp spec_Digits_s124 ((u : Int), false, []) = some (false, if u = 0 then [] else Lib.decDigits u ++ []) := q
    simp only [spec_Digits, e1, cond_false, dF (show ¬ ((u : Int) < 0) by omega), lit_nil, q', if_neg hu, Option.bind_some, List.append_nil]
theorem implDigits_eq {n : Int} (h0 : 0 ≤ n) (h1 : n ≤ 1000000000000) : impl_Digits n = some (dg n) := by
  simp only [impl_Digits, strconv_Itoa]
  rw [if_pos ⟨by omega, by omega⟩]
  rfl
theorem join_some {l : List (List UInt8)} {sep : List UInt8} (B : Nat) (h : ∀ x ∈ l, x.length ≤ B) (hl : l.length ≤ 1048576) (hB : B + sep.length ≤ 1000) : strings_Join (l, sep) = some (jn l sep) := by
  have h1 : (Lib.join l sep).length ≤ (B + sep.length) * l.length := jn_length sep B l h
  have h2 : (B + sep.length) * l.length ≤ 1000 * 1048576 := Nat.mul_le_mul hB hl
  simp only [strings_Join]
  rw [if_pos ⟨by omega, by omega⟩]
end Go.Proofs.YtkegollaleklaaaGreatDoor.Tw
