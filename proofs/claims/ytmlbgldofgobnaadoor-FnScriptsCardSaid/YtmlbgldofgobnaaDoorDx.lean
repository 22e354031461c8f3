/- Plain: deeds that are drawn; texts of deeds; the law FnScripts. No condition: lemmas. -/
import Derived.Test.YtmlbgldofgobnaaDoorSa
import Derived.Test.YtmlbgldofgobnaaDoorDw
namespace Go.Proofs.YtmlbgldofgobnaaDoor.Tw
open Go.Mach
set_option linter.unusedVariables false
set_option linter.unusedSimpArgs false

theorem l1Once_ok {c : CuT} (h : CuOk c) (n : Int) : ∃ x c', spec_l1Once (c, n) = some (x, c') ∧ CuOk c' := by
  obtain ⟨x, ⟨a1, b1, k1⟩, e, _, _, g3⟩ := l1Below_ok h n
  obtain ⟨a, b, k⟩ := c
  simp only [spec_l1Once, e, Option.bind_some]
  exact ⟨_, _, rfl, g3⟩

theorem l26Deed_ok {c : CuT} (h : CuOk c) : ∃ (d : DeedT) (c' : CuT), spec_l26Deed c = some (d, c') ∧ d.2.2.2.2.2.length ≤ 4 ∧ CuOk c' := by
  obtain ⟨a, b, k⟩ := c
  simp only [spec_l26Deed]
  obtain ⟨x1, ⟨p, q, r⟩, e, _, _, h⟩ := below_ok h (n := 9) (by omega)
  rw [e]; simp only [Option.bind_some]
  obtain ⟨x2, ⟨p, q, r⟩, e, _, _, h⟩ := below_ok h (n := 9) (by omega)
  rw [e]; simp only [Option.bind_some]
  obtain ⟨x3, ⟨p, q, r⟩, e, _, _, h⟩ := below_ok h (n := 300) (by omega)
  rw [e]; simp only [Option.bind_some]
  obtain ⟨x4, ⟨p, q, r⟩, e, _, _, h⟩ := below_ok h (n := 300) (by omega)
  rw [e]; simp only [Option.bind_some]
  obtain ⟨x5, ⟨p, q, r⟩, e, _, _, h⟩ := below_ok h (n := 20) (by omega)
  rw [e]; simp only [Option.bind_some]
  obtain ⟨n, ⟨p, q, r⟩, e, n1, n2, h⟩ := below_ok h (n := 4) (by omega)
  rw [e]; simp only [Option.bind_some]
  obtain ⟨⟨⟨z1, z2, z3, z4, z5, z6⟩, ⟨d1, d2, d3, d4, d5, d6⟩, u, v, w⟩, e, hq⟩ := lp_total (S := spec_l26Deed_s122)
    (I := fun m s => match s with | (_, _, d, n', i, cu) => n' = n ∧ (m : Int) + i = n ∧ 0 ≤ i ∧ (d.2.2.2.2.2.length : Int) = i ∧ CuOk cu) (Q := fun b => b.2.1.2.2.2.2.2.length ≤ 4 ∧ CuOk b.2.2) (fun m s hi => by
    obtain ⟨_, ⟨z1, z2, z3, z4, z5, z6⟩, ⟨d1, d2, d3, d4, d5, d6⟩, n', i, u, v, w⟩ := s
    obtain ⟨h1, h2, h3, h4, h5⟩ := hi
    try simp only at h1 h2 h3 h4 h5
    subst h1
    simp only [spec_l26Deed_s122]
    by_cases hc : i < n'
    · rw [dT hc, cond_true]
      obtain ⟨y, ⟨u', v', w'⟩, e, _, g⟩ := l1PickInt_ok h5 (l := [0, 5, 999999]) (by simp)
      rw [e]; simp only [Option.bind_some]
      rw [fitsC (by simp only [List.length_cons, List.length_nil]; omega) (by omega)]
      have hw : w64 (i + 1) = i + 1 := w64_ok (by omega) (by omega)
      refine .inr ⟨m - 1, _, by omega, rfl, rfl, ?_, ?_, ?_, g⟩
      · simp only [hw]; omega
      · simp only [hw]; omega
      · simp only [hw, List.length_append, List.length_cons, List.length_nil]; omega
    · rw [dF hc, cond_false]
      exact .inl ⟨_, rfl, by simp only; omega, h5⟩) (n := n.toNat) (s := ((), (0, 0, 0, 0, 0, ()), (x1, x2, x3, x4, x5, []), n, 0, p, q, r)) (by omega) ⟨rfl, by omega, by omega, rfl, h⟩
  rw [e]; simp only [Option.bind_some]
  exact ⟨_, _, rfl, hq.1, hq.2⟩

theorem l26Bent_ok {c : CuT} (h : CuOk c) : ∃ (d : DeedT) (c' : CuT), spec_l26Bent c = some (d, c') ∧ d.2.2.2.2.2.length ≤ 21 ∧ CuOk c' := by
  obtain ⟨a, b, k⟩ := c
  obtain ⟨⟨d1, d2, d3, d4, d5, d6⟩, ⟨p, q, r⟩, e, hd, h⟩ := l26Deed_ok h
  simp only at hd
  simp only [spec_l26Bent]
  rw [e]; simp only [Option.bind_some]
  obtain ⟨x1, ⟨p, q, r⟩, e, _, _, h⟩ := below_ok h (n := 12) (by omega)
  rw [e]; simp only [Option.bind_some]
  cases x1 == 0 with
  | true =>
    obtain ⟨y, ⟨p, q, r⟩, e, _, h⟩ := l1PickInt_ok h (l := [(-1), 9]) (by simp)
    rw [cond_true, e]
    exact ⟨_, _, rfl, by simp only; omega, h⟩
  | false =>
  rw [cond_false]
  cases x1 == 1 with
  | true =>
    obtain ⟨y, ⟨p, q, r⟩, e, _, h⟩ := l1PickInt_ok h (l := [(-1), 999999, 1000000]) (by simp)
    rw [cond_true, e]
    exact ⟨_, _, rfl, by simp only; omega, h⟩
  | false =>
  rw [cond_false]
  cases x1 == 2 with
  | true =>
    obtain ⟨y, ⟨p, q, r⟩, e, hy, h⟩ := l1PickInt_ok h (l := [20, 21]) (by simp)
    rw [cond_true, e]
    simp only [Option.bind_some]
    have hy : y = 20 ∨ y = 21 := by simpa using hy
    rw [g0_ok (by omega), g0_ok (by omega), chkD (by omega)]
    refine ⟨_, _, rfl, ?_, h⟩
    simp only [List.length_replicate]; omega
  | false => exact ⟨_, _, rfl, by simp only; omega, h⟩

theorem drawDeedText_ok {a : List Int} (h : a.length ≤ 1048576) : ∃ (d : DeedT), spec_DrawDeedText a = some d ∧ d.2.2.2.2.2.length ≤ 21 := by
  obtain ⟨⟨p, q, r⟩, e, h⟩ := l1New_ok h
  obtain ⟨⟨d1, d2, d3, d4, d5, d6⟩, ⟨p', q', r'⟩, e2, hd, h⟩ := l26Bent_ok h
  simp only [spec_DrawDeedText, e, Option.bind_some]
  rw [e2]
  exact ⟨_, rfl, hd⟩

theorem drawDeedsText_ok {a : List Int} (h : a.length ≤ 1048576) : ∃ (l : List DeedT), spec_DrawDeedsText a = some l ∧ l.length ≤ 6 ∧ ∀ d ∈ l, d.2.2.2.2.2.length ≤ 21 := by
  obtain ⟨⟨p, q, r⟩, e, h⟩ := l1New_ok h
  simp only [spec_DrawDeedsText, e, Option.bind_some]
  obtain ⟨n, ⟨p, q, r⟩, e, n1, n2, h⟩ := below_ok h (n := 5) (by omega)
  rw [e]; simp only [Option.bind_some]
  obtain ⟨⟨_, l, u, v, w⟩, e, hq⟩ := lp_total (S := spec_DrawDeedsText_s250)
    (I := fun m s => match s with | (_, l, n', i, cu) => n' = n ∧ (m : Int) + i = n ∧ 0 ≤ i ∧ (l.length : Int) = i ∧ (∀ d ∈ l, d.2.2.2.2.2.length ≤ 21) ∧ CuOk cu) (Q := fun b => b.2.1.length ≤ 5 ∧ (∀ d ∈ b.2.1, d.2.2.2.2.2.length ≤ 21) ∧ CuOk b.2.2) (fun m s hi => by
    obtain ⟨_, l, n', i, u, v, w⟩ := s
    obtain ⟨h1, h2, h3, h4, h6, h5⟩ := hi
    try simp only at h1 h2 h3 h4 h5 h6
    subst h1
    simp only [spec_DrawDeedsText_s250]
    by_cases hc : i < n'
    · rw [dT hc, cond_true]
      obtain ⟨⟨d1, d2, d3, d4, d5, d6⟩, ⟨u', v', w'⟩, e, hd, g⟩ := l26Deed_ok h5
      rw [e]; simp only [Option.bind_some]
      rw [fitsC (by simp only [List.length_cons, List.length_nil]; omega) (by omega)]
      have hw : w64 (i + 1) = i + 1 := w64_ok (by omega) (by omega)
      refine .inr ⟨m - 1, _, by omega, rfl, rfl, ?_, ?_, ?_, ?_, g⟩
      · simp only [hw]; omega
      · simp only [hw]; omega
      · simp only [hw, List.length_append, List.length_cons, List.length_nil]; omega
      · intro d hd'
        rcases List.mem_append.1 hd' with z | z
        · exact h6 d z
        · obtain rfl := List.mem_singleton.1 z
          exact Nat.le_trans hd (by omega)
    · rw [dF hc, cond_false]
      exact .inl ⟨_, rfl, by simp only; omega, h6, h5⟩) (n := n.toNat) (s := ((), [], n, 0, p, q, r)) (by omega) ⟨rfl, by omega, by omega, rfl, fun d hd => by simp at hd, h⟩
  rw [e]; simp only [Option.bind_some]
  simp only at hq
  obtain ⟨x, ⟨p, q, r⟩, e, h⟩ := l1Once_ok hq.2.2 5
  rw [e]; simp only [Option.bind_some]
  cases x with
  | true =>
    obtain ⟨⟨d1, d2, d3, d4, d5, d6⟩, ⟨p, q, r⟩, e, hd, h⟩ := l26Bent_ok h
    rw [cond_true, e]; simp only [Option.bind_some]
    rw [fitsC (by simp only [List.length_cons, List.length_nil]; omega) (by omega)]
    refine ⟨_, rfl, by simp only [List.length_append, List.length_cons, List.length_nil]; omega, fun d hd' => ?_⟩
    rcases List.mem_append.1 hd' with z | z
    · exact hq.2.1 d z
    · obtain rfl := List.mem_singleton.1 z
      exact hd
  | false => exact ⟨_, rfl, by omega, hq.2.1⟩

end Go.Proofs.YtmlbgldofgobnaaDoor.Tw
