/- Plain: what is drawn from a row of bytes. No condition: lemmas. -/
import Derived.Test.YthchcnfkgjmabaaGreatLp
import Derived.Test.YthchcnfkgjmabaaGreatTx
namespace Go.Proofs.YthchcnfkgjmabaaGreat.Tw
open Go.Mach
set_option linter.unusedVariables false
set_option linter.unusedSimpArgs false

/-- A loop that ends within n rounds, by what holds with n rounds to go. -/
theorem iter_total {σ β : Type} {S : σ → Option (σ ⊕ β)} (I : Nat → σ → Prop) (Q : β → Prop)
    (step : ∀ n s, I n s → (∃ b, S s = some (.inr b) ∧ Q b) ∨ (∃ m s', n = m + 1 ∧ S s = some (.inl s') ∧ I m s')) : ∀ (f n : Nat) (s : σ), n < f → I n s → ∃ b, iter S f s = some b ∧ Q b
  | 0, n, s, h, _ => by omega
  | f + 1, n, s, h, hi => by
    simp only [iter]
    rcases step n s hi with ⟨b, e, q⟩ | ⟨m, s', e, e2, i2⟩
    · rw [e]; exact ⟨b, rfl, q⟩
    · rw [e2]; exact iter_total I Q step f m s' (by omega) i2
theorem lp_total {σ β : Type} {S : σ → Option (σ ⊕ β)} (I : Nat → σ → Prop) (Q : β → Prop)
    (step : ∀ n s, I n s → (∃ b, S s = some (.inr b) ∧ Q b) ∨ (∃ m s', n = m + 1 ∧ S s = some (.inl s') ∧ I m s')) {n : Nat} {s : σ} (hn : n ≤ 2000000) (hi : I n s) : ∃ b, lp S s = some b ∧ Q b :=
  iter_total I Q step bigN n s (by simp only [bigN]; omega) hi

abbrev CuT := List Int × Int × Int
def CuOk (c : CuT) : Prop := 0 ≤ c.2.1 ∧ c.1.length ≤ 1048576

theorem and255 (x : Int) : 0 ≤ w64 (Int.ofNat (BitVec.toNat (BitVec.ofInt (64 : Nat) x &&& BitVec.ofInt (64 : Nat) (255 : Int)))) ∧ w64 (Int.ofNat (BitVec.toNat (BitVec.ofInt (64 : Nat) x &&& BitVec.ofInt (64 : Nat) (255 : Int)))) ≤ 255 := by
  have h : BitVec.toNat (BitVec.ofInt (64 : Nat) x &&& BitVec.ofInt (64 : Nat) (255 : Int)) ≤ 255 := by
    rw [BitVec.toNat_and]
    exact Nat.le_trans Nat.and_le_right (by decide)
  have h2 : (Int.ofNat (BitVec.toNat (BitVec.ofInt (64 : Nat) x &&& BitVec.ofInt (64 : Nat) (255 : Int)))) = ((BitVec.toNat (BitVec.ofInt (64 : Nat) x &&& BitVec.ofInt (64 : Nat) (255 : Int)) : Nat) : Int) := rfl
  rw [h2, w64_ok (by omega) (by omega)]
  omega

theorem l1Byte_ok {c : CuT} (h : CuOk c) : ∃ x c', spec_l1Byte c = some (x, c') ∧ 0 ≤ x ∧ x ≤ 255 ∧ CuOk c' := by
  obtain ⟨a, b, k⟩ := c
  obtain ⟨h1, h2⟩ := h
  simp only at h1 h2
  simp only [spec_l1Byte, Option.bind_some]
  by_cases hb : b < ln a
  · rw [dT hb, cond_true]
    simp only [lnn] at hb
    rw [ix_ok h1 (by omega)]
    refine ⟨_, _, rfl, (and255 _).1, (and255 _).2, ?_, h2⟩
    simp only
    rw [w64_ok (by omega) (by omega)]
    omega
  · rw [dF hb, cond_false]
    exact ⟨_, _, rfl, (and255 _).1, (and255 _).2, h1, h2⟩

theorem l1Below_ok {c : CuT} (h : CuOk c) (n : Int) : ∃ x c', spec_l1Below (c, n) = some (x, c') ∧ (n ≤ 0 → x = 0) ∧ (0 < n → 0 ≤ x ∧ x < n) ∧ CuOk c' := by
  obtain ⟨a, b, k⟩ := c
  simp only [spec_l1Below]
  by_cases h0 : n ≤ 0
  · rw [dT h0, cond_true]
    exact ⟨_, _, rfl, fun _ => rfl, fun z => by omega, h⟩
  rw [dF h0, cond_false]
  have hn : chk (!(decide (n = 0))) = fun (k : Option (Int × CuT)) => k := by
    funext k
    exact chk_ok (by rw [dF (by omega)]; rfl) k
  by_cases h1 : n ≤ 256
  · rw [dT h1, cond_true]
    obtain ⟨x, ⟨a1, b1, k1⟩, e, g1, g2, g3⟩ := l1Byte_ok h
    rw [e]
    simp only [Option.bind_some, hn]
    exact ⟨_, _, rfl, fun z => by omega, fun z => ⟨Int.tmod_nonneg _ g1, Int.tmod_lt_of_pos _ z⟩, g3⟩
  · rw [dF h1, cond_false]
    obtain ⟨x, ⟨a1, b1, k1⟩, e, x1, x2, g⟩ := l1Byte_ok h
    rw [e]; simp only [Option.bind_some]
    obtain ⟨y, ⟨a2, b2, k2⟩, e, y1, y2, g⟩ := l1Byte_ok g
    rw [e]; simp only [Option.bind_some]
    obtain ⟨z, ⟨a3, b3, k3⟩, e, z1, z2, g⟩ := l1Byte_ok g
    rw [e]; simp only [Option.bind_some]
    obtain ⟨u, ⟨a4, b4, k4⟩, e, u1, u2, g⟩ := l1Byte_ok g
    rw [e]; simp only [Option.bind_some, hn]
    rw [w64_ok (n := x * 16777216) (by omega) (by omega), w64_ok (n := y * 65536) (by omega) (by omega), w64_ok (n := z * 256) (by omega) (by omega), w64_ok (n := x * 16777216 + y * 65536) (by omega) (by omega),
      w64_ok (n := x * 16777216 + y * 65536 + z * 256) (by omega) (by omega), w64_ok (n := x * 16777216 + y * 65536 + z * 256 + u) (by omega) (by omega)]
    exact ⟨_, _, rfl, fun z => by omega, fun z => ⟨Int.tmod_nonneg _ (by omega), Int.tmod_lt_of_pos _ z⟩, g⟩

theorem below_ok {c : CuT} (h : CuOk c) {n : Int} (hn : 0 < n) : ∃ x c', spec_l1Below (c, n) = some (x, c') ∧ 0 ≤ x ∧ x < n ∧ CuOk c' := by
  obtain ⟨x, c', e, _, h2, h3⟩ := l1Below_ok h n
  exact ⟨x, c', e, (h2 hn).1, (h2 hn).2, h3⟩

theorem l1PickInt_ok {c : CuT} (h : CuOk c) {l : List Int} (hl : l ≠ []) : ∃ x c', spec_l1PickInt (c, l) = some (x, c') ∧ x ∈ l ∧ CuOk c' := by
  have h0 : 0 < l.length := List.length_pos_iff.2 hl
  obtain ⟨x, ⟨a1, b1, k1⟩, e, g1, g2, g3⟩ := below_ok (n := ln l) h (by simp only [lnn]; omega)
  obtain ⟨a, b, k⟩ := c
  simp only [lnn] at g2
  simp only [spec_l1PickInt, e, Option.bind_some]
  rw [ix_ok g1 (by omega)]
  refine ⟨_, _, rfl, ?_, g3⟩
  exact getD_mem (by omega)

theorem l1New_ok {a : List Int} (h : a.length ≤ 1048576) : ∃ c', spec_l1New a = some ((), c') ∧ CuOk c' := by
  obtain ⟨⟨q, r⟩, e, hq⟩ := lp_total (S := spec_l1New_s58) (I := fun n s => s.1 = a ∧ 0 ≤ s.2.2 ∧ (n : Int) + s.2.2 = 4000) (Q := fun b => b.1 = a) (fun n s hi => by
    obtain ⟨x, b, c⟩ := s
    obtain ⟨h1, h2, h3⟩ := hi
    simp only at h1 h2 h3
    subst h1
    simp only [spec_l1New_s58, lnn]
    by_cases hc : c < (x.length : Int)
    · rw [dT hc, cond_true]
      by_cases hd : c < 4000
      · rw [dT hd, cond_true, ix_ok h2 (by omega)]
        simp only [Option.bind_some]
        refine .inr ⟨n - 1, _, by omega, rfl, rfl, ?_⟩
        simp only
        rw [w64_ok (by omega) (by omega)]
        omega
      · rw [dF hd, cond_false]
        exact .inl ⟨_, rfl, rfl⟩
    · rw [dF hc, cond_false]
      exact .inl ⟨_, rfl, rfl⟩) (n := 4000) (s := (a, w64 (26583 + ln a), 0)) (by omega) ⟨rfl, by simp, by simp⟩
  simp only at hq
  subst hq
  simp only [spec_l1New, e, Option.bind_some]
  exact ⟨_, rfl, by simp, h⟩

end Go.Proofs.YthchcnfkgjmabaaGreat.Tw
