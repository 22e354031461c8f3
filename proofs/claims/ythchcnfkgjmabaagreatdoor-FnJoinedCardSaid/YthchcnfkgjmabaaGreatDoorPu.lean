/- Plain: texts of sets. No condition: lemmas. -/
import Derived.Test.YthchcnfkgjmabaaGreatDoorDi
namespace Go.Proofs.YthchcnfkgjmabaaGreatDoor.Tw
open Go.Mach
set_option linter.unusedVariables false
set_option linter.unusedSimpArgs false
set_option maxRecDepth 20000

theorem chkL {R : Type} {n : Nat} (h : n ≤ 1099511627776) (k : Option R) : chk (decide (n ≤ 1099511627776)) k = k := chkD h k

/-! ### sets -/
def spanT (x : SpT) : List UInt8 := if x.2 ≠ x.1 then dg x.1 ++ ([45] ++ dg x.2) else dg x.1
def setT (l : List SpT) : List UInt8 := jn (l.map spanT) [44]
def small4 (x : Int) : Prop := 0 ≤ x ∧ x ≤ 9999
theorem setOk_small {l : List SpT} (h : setOk l = true) : ∀ x ∈ l, small4 x.1 ∧ small4 x.2 := by
  intro x hx
  obtain ⟨h1, h2⟩ := setOk_iff.1 h
  have g1 := h1.mem x hx
  have g2 := h2 x hx
  exact ⟨⟨g2.1, by omega⟩, by omega, g2.2⟩
theorem dg4 {x : Int} (h : small4 x) : impl_Digits x = some (dg x) ∧ (dg x).length ≤ 21 :=
  ⟨implDigits_eq h.1 (by have := h.2; omega), dg_le h.1 (by have := h.2; omega)⟩
theorem spanT_le {x : SpT} (h : small4 x.1 ∧ small4 x.2) : (spanT x).length ≤ 43 := by
  have h1 := (dg4 h.1).2
  have h2 := (dg4 h.2).2
  unfold spanT
  split
  · simp only [List.length_append, List.length_cons, List.length_nil]; omega
  · omega
theorem setT_le {l : List SpT} (h : ∀ x ∈ l, small4 x.1 ∧ small4 x.2) : (setT l).length ≤ 44 * l.length := by
  have := jn_length [44] 43 (l.map spanT) (fun x hx => by
    obtain ⟨y, hy, rfl⟩ := List.mem_map.1 hx
    exact spanT_le (h y hy))
  simpa [setT] using this

theorem implSetText_eq {l : List SpT} (hl : l.length ≤ 1048576) (h : ∀ x ∈ l, small4 x.1 ∧ small4 x.2) : impl_SetText l = some (setT l) := by
  have q := lp_det (S := impl_SetText_s58) (fun i => ((l.take i).map spanT, l, (l.length : Int), (i : Int))) hl (b := l.map spanT) (fun i hi => by
    have hm := h _ (getD_mem (d := (0, 0)) hi)
    have htl : ((l.take i).map spanT).length ≤ 1048576 := by simp only [List.length_map, List.length_take]; omega
    rw [map_snoc spanT l i (0, 0) hi]
    simp only [impl_SetText_s58, ltn hi, cond_true, ixn hi, gxn, Option.bind_some, lit_one, wsucc (show i ≤ 1048576 by omega)]
    generalize l.getD i (0, 0) = x at hm ⊢
    obtain ⟨x1, x2⟩ := x
    obtain ⟨a2, a3⟩ := dg4 hm.1
    obtain ⟨b2, b3⟩ := dg4 hm.2
    simp only at a2 a3 b2 b3
    simp only [a2, b2, Option.bind_some, bne_cond, spanT]
    by_cases hq : x2 = x1
    · rw [if_pos hq, if_neg (by simpa using hq), fitsC (by simp only [List.length_cons, List.length_nil]; omega) (by omega)]
    · rw [if_neg hq, if_pos hq, chkL (by omega), chkL (by simp only [List.length_append, List.length_cons, List.length_nil]; omega), fitsC (by simp only [List.length_cons, List.length_nil]; omega) (by omega)]) (by simp only [impl_SetText_s58, ltF, cond_false, List.take_length])
  rw [cast0, List.take_zero, List.map_nil] at q
  simp only [impl_SetText, lnn, q, Option.bind_some, lit_one]
  rw [join_some 43 (fun x hx => by
    obtain ⟨y, hy, rfl⟩ := List.mem_map.1 hx
    exact spanT_le (h y hy)) (by simpa using hl) (by simp)]
  rfl

end Go.Proofs.YthchcnfkgjmabaaGreatDoor.Tw
