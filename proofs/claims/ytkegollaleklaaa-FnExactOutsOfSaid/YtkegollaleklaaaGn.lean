/- Plain: numbers written as bytes, and read. No condition: lemmas. -/
import Derived.Test.YtkegollaleklaaaOk
import Derived.Test.YtkegollaleklaaaTx
namespace Go.Mach
set_option linter.unusedVariables false

/-- A loop by a measure: it ends, with what E says. -/
theorem lp_meas_from {σ β : Type} {S : σ → Option (σ ⊕ β)} (I : σ → Prop) (μ : σ → Nat) (E : β → Prop)
    (h : ∀ s, I s → (∃ s', S s = some (.inl s') ∧ I s' ∧ μ s' < μ s) ∨ ∃ b, S s = some (.inr b) ∧ E b) : ∀ f s, I s → μ s < f → ∃ b, iter S f s = some b ∧ E b
  | 0, s, _, hm => by omega
  | f + 1, s, hi, hm => by
    simp only [iter]
    rcases h s hi with ⟨s', e1, e2, e3⟩ | ⟨b, e1, e2⟩
    · rw [e1]; exact lp_meas_from I μ E h f s' e2 (by omega)
    · rw [e1]; exact ⟨b, rfl, e2⟩
theorem lp_meas {σ β : Type} {S : σ → Option (σ ⊕ β)} (I : σ → Prop) (μ : σ → Nat) (E : β → Prop)
    (h : ∀ s, I s → (∃ s', S s = some (.inl s') ∧ I s' ∧ μ s' < μ s) ∨ ∃ b, S s = some (.inr b) ∧ E b) {s : σ} (hi : I s) (hm : μ s ≤ 4194304) : ∃ b, lp S s = some b ∧ E b :=
  lp_meas_from I μ E h bigN s hi (by simp only [bigN]; omega)

/-- A number by its digits to 128. -/
def enc : Nat → Int → List Int
  | 0, x => [x]
  | k + 1, x => if x < 128 then [x] else (x % 128 + 128) :: enc k (x / 128)
theorem enc_len : ∀ k x, (enc k x).length ≤ k + 1 ∧ 1 ≤ (enc k x).length
  | 0, x => by simp [enc]
  | k + 1, x => by
    unfold enc
    split
    · simp
    · have := enc_len k (x / 128)
      simp; omega
theorem enc_byte : ∀ k x, 0 ≤ x → x < 128 ^ (k + 1) → ∀ v ∈ enc k x, 0 ≤ v ∧ v ≤ 255
  | 0, x, h0, h1, v, hv => by
    simp only [enc, List.mem_singleton] at hv
    subst hv
    simp at h1
    omega
  | k + 1, x, h0, h1, v, hv => by
    unfold enc at hv
    split at hv
    · simp only [List.mem_singleton] at hv; omega
    · simp only [List.mem_cons] at hv
      rcases hv with rfl | hv
      · omega
      · exact enc_byte k (x / 128) (by omega) (by rw [Int.pow_succ] at h1; omega) v hv

theorem wrapB {x : Int} (h0 : 0 ≤ x) (h1 : x ≤ 255) : IntKind.wrap .u8 x = x := by
  show x % 256 = x
  omega
theorem orAdd {c v : Nat} {k : Nat} (h : c < 2 ^ k) : c ||| v * 2 ^ k = c + v * 2 ^ k := by
  have := Nat.two_pow_add_eq_or_of_lt h v
  rw [Nat.mul_comm v, Nat.or_comm, ← this, Nat.add_comm]
end Go.Mach
namespace Go.Proofs.Ytkegollaleklaaa.Tw
open Go.Mach
set_option linter.unusedVariables false
set_option linter.unusedSimpArgs false
set_option maxRecDepth 20000

/-- The bytes of a number. -/
def nB (x : Int) : List Int := bif inR x 0 2147483647 then enc 4 x else []
theorem nB_le (x : Int) : (nB x).length ≤ 5 := by
  unfold nB
  cases inR x 0 2147483647 with
  | false => simp
  | true => exact (enc_len 4 x).1

theorem nB_some {S : Int × List Int → Option (Int × List Int ⊕ Int × List Int)} (hS : ∀ x acc, 0 ≤ x → S (x, acc) = if x < 128 then some (.inr (x, acc)) else
      chk (fits (acc.length + 1) 1) (some (.inl (w64 (x / 128), acc ++ [IntKind.wrap .u8 (IntKind.wrap .i64 (x % 128 + 128))])))) :
    ∀ (k : Nat) (x : Int) (acc : List Int) (f : Nat), 0 ≤ x → x < 128 ^ (k + 1) → acc.length + k ≤ 100 → k < f → x ≤ 4611686018427387904 →
    ∃ m acc', iter S f (x, acc) = some (m, acc') ∧ acc' ++ [m] = acc ++ enc k x ∧ 0 ≤ m ∧ m < 128 ∧ acc'.length ≤ acc.length + k
  | k, x, acc, 0, _, _, _, hf, _ => by omega
  | 0, x, acc, f + 1, h0, h1, ha, hf, hb => by
    refine ⟨x, acc, ?_, by simp [enc], h0, by simpa using h1, by omega⟩
    simp only [iter, hS x acc h0]
    rw [if_pos (by simpa using h1)]
  | k + 1, x, acc, f + 1, h0, h1, ha, hf, hb => by
    by_cases hx : x < 128
    · refine ⟨x, acc, ?_, by simp [enc, hx], h0, hx, by omega⟩
      simp only [iter, hS x acc h0]
      rw [if_pos hx]
    · obtain ⟨m, acc', q1, q2, q3, q4, q5⟩ := nB_some hS k (x / 128) (acc ++ [x % 128 + 128]) f (by omega) (by rw [Int.pow_succ] at h1; omega) (by simp; omega) (by omega) (by omega)
      refine ⟨m, acc', ?_, ?_, q3, q4, by simp at q5; omega⟩
      · simp only [iter, hS x acc h0]
        rw [if_neg hx, wr (show -9223372036854775808 ≤ x % 128 + 128 by omega) (by omega), wrapB (by omega) (by omega), fitsC (by omega) (by omega), w64_ok (by omega) (by omega)]
        exact q1
      · rw [q2]; simp [enc, hx]

theorem specPut_eq (x : Int) : spec_PutNum x = some (nB x) := by
  unfold nB
  simp only [spec_PutNum, l1In_eq, Option.bind_some]
  cases h : inR x 0 2147483647 with
  | false => rfl
  | true =>
    obtain ⟨h0, h1⟩ := inR_iff.1 h
    obtain ⟨m, acc', q1, q2, q3, q4, q5⟩ := nB_some (S := spec_PutNum_s60) (fun x acc h0 => by
      simp only [spec_PutNum_s60, Int.tmod_eq_emod_of_nonneg h0, Int.tdiv_eq_ediv_of_nonneg h0, bif_dec, List.length_singleton]
      by_cases hx : x < 128
      · rw [if_neg (by omega), if_pos hx]
      · rw [if_pos (by omega), if_neg hx]) 4 x [] bigN h0 (by simp; omega) (by simp) (by simp only [bigN]; omega) (by omega)
    have : lp spec_PutNum_s60 (x, []) = some (m, acc') := q1
    simp only [this, Bool.not_true, cond_false, cond_true, Option.bind_some, List.length_singleton]
    rw [fitsC (by simp at q5; omega) (by omega), wrapB q3 (by omega), q2]
    rfl
theorem implPut_eq (x : Int) : impl_PutNum x = some (nB x) := by
  unfold nB
  simp only [impl_PutNum, within_eq, Option.bind_some]
  cases h : inR x 0 2147483647 with
  | false => rfl
  | true =>
    obtain ⟨h0, h1⟩ := inR_iff.1 h
    obtain ⟨m, acc', q1, q2, q3, q4, q5⟩ := nB_some (S := impl_PutNum_s60) (fun x acc h0 => by
      simp only [impl_PutNum_s60, Int.tmod_eq_emod_of_nonneg h0, Int.tdiv_eq_ediv_of_nonneg h0, bif_dec, List.length_singleton]
      by_cases hx : x < 128
      · rw [if_neg (by omega), if_pos hx]
      · rw [if_pos (by omega), if_neg hx]) 4 x [] bigN h0 (by simp; omega) (by simp) (by simp only [bigN]; omega) (by omega)
    have : lp impl_PutNum_s60 (x, []) = some (m, acc') := q1
    simp only [this, Bool.not_true, cond_false, cond_true, Option.bind_some, List.length_singleton]
    rw [fitsC (by simp at q5; omega) (by omega), wrapB q3 (by omega), q2]
    rfl

/-! ### numbers read -/
def Bts (a : List Int) : Prop := ∀ v ∈ a, 0 ≤ v ∧ v ≤ 255

theorem shl {v : Int} {i : Nat} (h0 : 0 ≤ v) (h1 : v ≤ 255) (hi : i < 5) : w64 ((Int.tmod v 128) * ((2 : Int) ^ min (Int.toNat ((7 : Int) * (i : Int))) (64 : Nat))) = v % 128 * 128 ^ i := by
  rw [Int.tmod_eq_emod_of_nonneg h0]
  have : i = 0 ∨ i = 1 ∨ i = 2 ∨ i = 3 ∨ i = 4 := by omega
  rcases this with rfl | rfl | rfl | rfl | rfl
  · rw [show (2 : Int) ^ min (Int.toNat (7 * ((0 : Nat) : Int))) 64 = 1 from rfl, show (128 : Int) ^ 0 = 1 from rfl]; exact w64_ok (by omega) (by omega)
  · rw [show (2 : Int) ^ min (Int.toNat (7 * ((1 : Nat) : Int))) 64 = 128 from rfl, show (128 : Int) ^ 1 = 128 from rfl]; exact w64_ok (by omega) (by omega)
  · rw [show (2 : Int) ^ min (Int.toNat (7 * ((2 : Nat) : Int))) 64 = 16384 from rfl, show (128 : Int) ^ 2 = 16384 from rfl]; exact w64_ok (by omega) (by omega)
  · rw [show (2 : Int) ^ min (Int.toNat (7 * ((3 : Nat) : Int))) 64 = 2097152 from rfl, show (128 : Int) ^ 3 = 2097152 from rfl]; exact w64_ok (by omega) (by omega)
  · rw [show (2 : Int) ^ min (Int.toNat (7 * ((4 : Nat) : Int))) 64 = 268435456 from rfl, show (128 : Int) ^ 4 = 268435456 from rfl]; exact w64_ok (by omega) (by omega)

theorem p128 {i : Nat} (hi : i < 5) : (1 : Int) ≤ 128 ^ i ∧ (128 : Int) ^ i ≤ 268435456 ∧ (128 : Int) ^ (i + 1) = 128 * 128 ^ i := by
  refine ⟨?_, ?_, by rw [Int.pow_succ]; omega⟩ <;>
  · have : i = 0 ∨ i = 1 ∨ i = 2 ∨ i = 3 ∨ i = 4 := by omega
    rcases this with rfl | rfl | rfl | rfl | rfl <;> simp

theorem orI {c v : Int} {i : Nat} (hi : i < 5) (h0 : 0 ≤ c) (h1 : c < 128 ^ i) (h2 : 0 ≤ v) (h3 : v < 128) :
    w64 (Int.ofNat (BitVec.toNat (BitVec.ofInt (64 : Nat) c ||| BitVec.ofInt (64 : Nat) (v * 128 ^ i)))) = c + v * 128 ^ i := by
  obtain ⟨p1, p2, p3⟩ := p128 hi
  have hm : v * 128 ^ i ≤ 127 * 128 ^ i := Int.mul_le_mul_of_nonneg_right (by omega) (by omega)
  have hm0 : 0 ≤ v * 128 ^ i := Int.mul_nonneg h2 (by omega)
  obtain ⟨cn, rfl⟩ := Int.eq_ofNat_of_zero_le h0
  obtain ⟨vn, rfl⟩ := Int.eq_ofNat_of_zero_le h2
  have e1 : ((vn : Int) * 128 ^ i) = ((vn * 2 ^ (7 * i) : Nat) : Int) := by
    rw [Int.natCast_mul, Nat.pow_mul]
    simp
  have hc : cn < 2 ^ (7 * i) := by
    have : ((cn : Nat) : Int) < ((2 ^ (7 * i) : Nat) : Int) := by rw [Nat.pow_mul]; simpa using h1
    omega
  rw [e1] at hm hm0 ⊢
  have t1 : BitVec.toNat (BitVec.ofInt 64 ((cn : Nat) : Int)) = cn := by
    rw [BitVec.toNat_ofInt]
    omega
  have t2 : BitVec.toNat (BitVec.ofInt 64 ((vn * 2 ^ (7 * i) : Nat) : Int)) = vn * 2 ^ (7 * i) := by
    rw [BitVec.toNat_ofInt]
    omega
  rw [BitVec.toNat_or, t1, t2, orAdd hc]
  have : (Int.ofNat (cn + vn * 2 ^ (7 * i))) = ((cn : Nat) : Int) + ((vn * 2 ^ (7 * i) : Nat) : Int) := by simp
  rw [this]
  exact w64_ok (by omega) (by omega)

theorem specGet_step {a : List Int} (hb : Bts a) (hl : a.length ≤ 1048576) {p i : Nat} {c : Int} (hi : i < 5) (hp : p + i < a.length) (h0 : 0 ≤ c) (h1 : c < 128 ^ i) :
    spec_GetNum_s58 (a, (p : Int), c, (i : Int)) = some (if a.getD (p + i) 0 < 128 then (if (0 < i ∧ a.getD (p + i) 0 = 0) ∨ c + a.getD (p + i) 0 % 128 * 128 ^ i > 2147483647 then .inr (.inl (0, 0, false))
      else .inr (.inl (c + a.getD (p + i) 0 % 128 * 128 ^ i, ((p + i + 1 : Nat) : Int), true))) else .inl (a, (p : Int), c + a.getD (p + i) 0 % 128 * 128 ^ i, ((i + 1 : Nat) : Int))) := by
  have hv := hb _ (getD_mem (d := 0) hp)
  have e1 : w64 ((p : Int) + (i : Int)) = ((p + i : Nat) : Int) := by rw [w64_ok (by omega) (by omega)]; omega
  have e2 : w64 ((a.length : Int) - (i : Int)) = (a.length : Int) - i := w64_ok (by omega) (by omega)
  have e3 : w64 (7 * (i : Int)) = 7 * i := w64_ok (by omega) (by omega)
  have e4 : w64 (((p + i : Nat) : Int) + 1) = ((p + i + 1 : Nat) : Int) := by rw [w64_ok (by omega) (by omega)]; omega
  simp only [spec_GetNum_s58, dT (show (i : Int) < 5 by omega), cond_true, dF (show ¬ (p : Int) < 0 by omega), cond_false, e1, lnn, e2, dF (show ¬ (p : Int) ≥ (a.length : Int) - i by omega), e3, dF (show ¬ 7 * (i : Int) < 0 by omega),
    Bool.not_false, chk_tt, ixn hp, gxn, Option.bind_some, bif_dec, wsucc (show i ≤ 1048576 by omega), e4]
  generalize a.getD (p + i) 0 = v at hv ⊢
  have ev : w64 v = v := w64_ok (by omega) (by omega)
  simp only [ev, shl hv.1 hv.2 hi]
  have hvm : 0 ≤ v % 128 ∧ v % 128 < 128 := by omega
  simp only [orI hi h0 h1 hvm.1 hvm.2, beq_cond, apply_ite some]
  by_cases g1 : v < 128
  · rw [if_pos g1, if_pos g1]
    by_cases g2 : (i : Int) > 0
    · rw [if_pos g2]
      by_cases g3 : v = 0
      · rw [if_pos g3, if_pos (.inl ⟨by omega, g3⟩)]
      · rw [if_neg g3]
        by_cases g4 : c + v % 128 * 128 ^ i > 2147483647
        · rw [if_pos g4, if_pos (.inr g4)]
        · rw [if_neg g4, if_neg (by rintro (q | q); exact g3 q.2; exact g4 q)]
    · rw [if_neg g2]
      by_cases g4 : c + v % 128 * 128 ^ i > 2147483647
      · rw [if_pos g4, if_pos (.inr g4)]
      · rw [if_neg g4, if_neg (by rintro (q | q); exact g2 (by omega); exact g4 q)]
  · rw [if_neg g1, if_neg g1]

theorem specGet_end {a : List Int} (hl : a.length ≤ 1048576) {p i : Nat} {c : Int} (hi : i < 5) (hp : ¬ p + i < a.length) (hp2 : p ≤ 1048576) : spec_GetNum_s58 (a, (p : Int), c, (i : Int)) = some (.inr (.inl (0, 0, false))) := by
  have e2 : w64 ((a.length : Int) - (i : Int)) = (a.length : Int) - i := w64_ok (by omega) (by omega)
  simp only [spec_GetNum_s58, dT (show (i : Int) < 5 by omega), cond_true, dF (show ¬ (p : Int) < 0 by omega), cond_false, lnn, e2, dT (show (p : Int) ≥ (a.length : Int) - i by omega)]

theorem implGet_step {a : List Int} (hb : Bts a) (hl : a.length ≤ 1048576) {p i : Nat} {c : Int} (hi : i < 5) (hp : p + i < a.length) (h0 : 0 ≤ c) (h1 : c < 128 ^ i) :
    impl_GetNum_s122 (a, (p : Int), c, (i : Int)) = some (if a.getD (p + i) 0 < 128 then (if ((nB (c + a.getD (p + i) 0 % 128 * 128 ^ i)).length : Int) = (i : Int) + 1 then
      .inr (.inl (c + a.getD (p + i) 0 % 128 * 128 ^ i, ((p + i + 1 : Nat) : Int), true)) else .inr (.inl (0, 0, false))) else .inl (a, (p : Int), c + a.getD (p + i) 0 % 128 * 128 ^ i, ((i + 1 : Nat) : Int))) := by
  have hv := hb _ (getD_mem (d := 0) hp)
  have e1 : w64 ((p : Int) + (i : Int)) = ((p + i : Nat) : Int) := by rw [w64_ok (by omega) (by omega)]; omega
  have e3 : w64 (7 * (i : Int)) = 7 * i := w64_ok (by omega) (by omega)
  have e4 : w64 (((p + i : Nat) : Int) + 1) = ((p + i + 1 : Nat) : Int) := by rw [w64_ok (by omega) (by omega)]; omega
  have e5 : w64 ((i : Int) + 1) = ((i + 1 : Nat) : Int) := wsucc (by omega)
  simp only [impl_GetNum_s122, dT (show (i : Int) < 5 by omega), cond_true, e1, lnn, ltn hp, e3, dF (show ¬ 7 * (i : Int) < 0 by omega),
    Bool.not_false, chk_tt, ixn hp, gxn, Option.bind_some, bif_dec, e5, e4, implPut_eq]
  generalize a.getD (p + i) 0 = v at hv ⊢
  have ev : w64 v = v := w64_ok (by omega) (by omega)
  simp only [ev, shl hv.1 hv.2 hi]
  have hvm : 0 ≤ v % 128 ∧ v % 128 < 128 := by omega
  obtain ⟨p1, p2, p3⟩ := p128 hi
  have hm : v % 128 * 128 ^ i ≤ 127 * 128 ^ i := Int.mul_le_mul_of_nonneg_right (by omega) (by omega)
  have hm0 : 0 ≤ v % 128 * 128 ^ i := Int.mul_nonneg hvm.1 (by omega)
  have ew : w64 (c + v % 128 * 128 ^ i) = c + v % 128 * 128 ^ i := w64_ok (by omega) (by omega)
  simp only [ew, bne_cond, apply_ite some]
  by_cases g1 : v < 128
  · rw [if_pos g1, if_pos g1]
    have : (((i + 1 : Nat) : Int)) = (i : Int) + 1 := by omega
    rw [this]
  · rw [if_neg g1, if_neg g1]

theorem implGet_end {a : List Int} (hl : a.length ≤ 1048576) {p i : Nat} {c : Int} (hi : i < 5) (hp : ¬ p + i < a.length) (hp2 : p ≤ 1048576) : impl_GetNum_s122 (a, (p : Int), c, (i : Int)) = some (.inr (.inr ())) := by
  have e1 : w64 ((p : Int) + (i : Int)) = ((p + i : Nat) : Int) := by rw [w64_ok (by omega) (by omega)]; omega
  simp only [impl_GetNum_s122, dT (show (i : Int) < 5 by omega), cond_true, e1, lnn, dF (show ¬ ((p + i : Nat) : Int) < (a.length : Int) by omega), cond_false]

/-- What a reading gives: some number that lies there, or nothing. -/
def GetR (a : List Int) (p : Nat) (r : Int × Int × Bool) : Prop := r = (0, 0, false) ∨ ∃ (n : Int) (q : Nat), r = (n, (q : Int), true) ∧ 0 ≤ n ∧ n ≤ 2147483647 ∧ p < q ∧ q ≤ a.length

theorem specGet_any {a : List Int} (hb : Bts a) (hl : a.length ≤ 1048576) {p : Nat} (hp : p ≤ 1048576) : ∃ r, spec_GetNum (a, (p : Int)) = some r ∧ GetR a p r := by
  have key : ∀ (k i : Nat) (c : Int) (f : Nat), i + k = 5 → 0 ≤ c → c < 128 ^ i → k < f → ∃ b, iter spec_GetNum_s58 f (a, (p : Int), c, (i : Int)) = some b ∧ (b = .inr () ∨ ∃ r, b = .inl r ∧ GetR a p r) := by
    intro k
    induction k with
    | zero =>
      intro i c f hi h0 h1 hf
      cases f with
      | zero => omega
      | succ f =>
        obtain rfl : i = 5 := by omega
        refine ⟨.inr (), ?_, .inl rfl⟩
        simp only [iter, spec_GetNum_s58, dF (show ¬ ((5 : Nat) : Int) < 5 by omega), cond_false]
    | succ k ih =>
      intro i c f hi h0 h1 hf
      cases f with
      | zero => omega
      | succ f =>
        have hi5 : i < 5 := by omega
        by_cases hpa : p + i < a.length
        · have hv := hb _ (getD_mem (d := 0) hpa)
          obtain ⟨p1, p2, p3⟩ := p128 hi5
          simp only [iter, specGet_step hb hl hi5 hpa h0 h1]
          generalize a.getD (p + i) 0 = v at hv ⊢
          have hvm : 0 ≤ v % 128 ∧ v % 128 < 128 := by omega
          have hm : v % 128 * 128 ^ i ≤ 127 * 128 ^ i := Int.mul_le_mul_of_nonneg_right (by omega) (by omega)
          have hm0 : 0 ≤ v % 128 * 128 ^ i := Int.mul_nonneg hvm.1 (by omega)
          by_cases g1 : v < 128
          · rw [if_pos g1]
            by_cases g2 : (0 < i ∧ v = 0) ∨ c + v % 128 * 128 ^ i > 2147483647
            · rw [if_pos g2]; exact ⟨_, rfl, .inr ⟨_, rfl, .inl rfl⟩⟩
            · rw [if_neg g2]; exact ⟨_, rfl, .inr ⟨_, rfl, .inr ⟨_, _, rfl, by omega, by omega, by omega, by omega⟩⟩⟩
          · rw [if_neg g1]
            exact ih (i + 1) _ f (by omega) (by omega) (by rw [p3]; omega) (by omega)
        · simp only [iter, specGet_end hl hi5 hpa hp]
          exact ⟨_, rfl, .inr ⟨_, rfl, .inl rfl⟩⟩
  obtain ⟨b, e1, e2⟩ := key 5 0 0 bigN (by omega) (by omega) (by simp) (by simp only [bigN]; omega)
  have h : lp spec_GetNum_s58 (a, (p : Int), 0, 0) = some b := e1
  simp only [spec_GetNum, h]
  rcases e2 with rfl | ⟨r, rfl, hr⟩
  · exact ⟨_, rfl, .inl rfl⟩
  · exact ⟨r, rfl, hr⟩

theorem nB_len_in {x : Int} {k : Int} (h : ((nB x).length : Int) = k + 1) (hk : 0 ≤ k) : 0 ≤ x ∧ x ≤ 2147483647 := by
  unfold nB at h
  cases hr : inR x 0 2147483647 with
  | false => rw [hr] at h; simp at h; omega
  | true => exact inR_iff.1 hr

theorem implGet_any {a : List Int} (hb : Bts a) (hl : a.length ≤ 1048576) {p : Nat} (hp : p ≤ 1048576) : ∃ r, impl_GetNum (a, (p : Int)) = some r ∧ GetR a p r := by
  have key : ∀ (k i : Nat) (c : Int) (f : Nat), i + k = 5 → 0 ≤ c → c < 128 ^ i → k < f → ∃ b, iter impl_GetNum_s122 f (a, (p : Int), c, (i : Int)) = some b ∧ (b = .inr () ∨ ∃ r, b = .inl r ∧ GetR a p r) := by
    intro k
    induction k with
    | zero =>
      intro i c f hi h0 h1 hf
      cases f with
      | zero => omega
      | succ f =>
        obtain rfl : i = 5 := by omega
        refine ⟨.inr (), ?_, .inl rfl⟩
        simp only [iter, impl_GetNum_s122, dF (show ¬ ((5 : Nat) : Int) < 5 by omega), cond_false]
    | succ k ih =>
      intro i c f hi h0 h1 hf
      cases f with
      | zero => omega
      | succ f =>
        have hi5 : i < 5 := by omega
        by_cases hpa : p + i < a.length
        · have hv := hb _ (getD_mem (d := 0) hpa)
          obtain ⟨p1, p2, p3⟩ := p128 hi5
          simp only [iter, implGet_step hb hl hi5 hpa h0 h1]
          generalize a.getD (p + i) 0 = v at hv ⊢
          have hvm : 0 ≤ v % 128 ∧ v % 128 < 128 := by omega
          have hm : v % 128 * 128 ^ i ≤ 127 * 128 ^ i := Int.mul_le_mul_of_nonneg_right (by omega) (by omega)
          have hm0 : 0 ≤ v % 128 * 128 ^ i := Int.mul_nonneg hvm.1 (by omega)
          by_cases g1 : v < 128
          · rw [if_pos g1]
            by_cases g2 : ((nB (c + v % 128 * 128 ^ i)).length : Int) = (i : Int) + 1
            · rw [if_pos g2]
              have := nB_len_in g2 (by omega)
              exact ⟨_, rfl, .inr ⟨_, rfl, .inr ⟨_, _, rfl, this.1, this.2, by omega, by omega⟩⟩⟩
            · rw [if_neg g2]; exact ⟨_, rfl, .inr ⟨_, rfl, .inl rfl⟩⟩
          · rw [if_neg g1]
            exact ih (i + 1) _ f (by omega) (by omega) (by rw [p3]; omega) (by omega)
        · simp only [iter, implGet_end hl hi5 hpa hp]
          exact ⟨_, rfl, .inl rfl⟩
  simp only [impl_GetNum, within_eq, Option.bind_some]
  cases hin : inR (p : Int) 0 (w64 (ln a - 1)) with
  | false => exact ⟨_, rfl, .inl rfl⟩
  | true =>
    obtain ⟨b, e1, e2⟩ := key 5 0 0 bigN (by omega) (by omega) (by simp) (by simp only [bigN]; omega)
    have h : lp impl_GetNum_s122 (a, (p : Int), 0, 0) = some b := e1
    simp only [Bool.not_true, cond_false, h]
    rcases e2 with rfl | ⟨r, rfl, hr⟩
    · exact ⟨_, rfl, .inl rfl⟩
    · exact ⟨r, rfl, hr⟩

/-! ### numbers read where they were written -/
theorem drop_getD {α : Type} {a l r : List α} {p i : Nat} {d : α} (h : a.drop p = l ++ r) (hi : i < l.length) : p + i < a.length ∧ a.getD (p + i) d = l.getD i d := by
  have h1 : (a.drop p).length = l.length + r.length := by rw [h]; simp
  rw [List.length_drop] at h1
  refine ⟨by omega, ?_⟩
  have : (a.drop p).getD i d = l.getD i d := by rw [h]; simp [List.getD_eq_getElem?_getD, List.getElem?_append_left hi]
  rw [← this]
  simp [List.getD_eq_getElem?_getD]

/-- The digits from the i-th on, of what is left. -/
theorem specGet_enc {a : List Int} (hb : Bts a) (hl : a.length ≤ 1048576) {p : Nat} {x : Int} (hx0 : 0 ≤ x) (hx1 : x ≤ 2147483647) {r : List Int} (h : a.drop p = nB x ++ r) :
    spec_GetNum (a, (p : Int)) = some (x, ((p + (nB x).length : Nat) : Int), true) := by
  have hin : nB x = enc 4 x := by unfold nB; rw [inR_iff.2 ⟨hx0, hx1⟩]; rfl
  have key : ∀ (k i : Nat) (c y : Int) (f : Nat), i + k = 4 → 0 ≤ c → c < 128 ^ i → 0 ≤ y → (0 < i → 0 < y) → c + y * 128 ^ i = x → a.drop (p + i) = enc k y ++ r → y < 128 ^ (k + 1) → k < f →
      iter spec_GetNum_s58 f (a, (p : Int), c, (i : Int)) = some (.inl (x, ((p + i + (enc k y).length : Nat) : Int), true)) := by
    intro k
    induction k with
    | zero =>
      intro i c y f hi h0 h1 hy hyi hx hd hy2 hf
      cases f with
      | zero => omega
      | succ f =>
        obtain rfl : i = 4 := by omega
        obtain ⟨g1, g2⟩ := drop_getD (i := 0) (d := 0) hd (by simp [enc])
        simp only [enc, Nat.add_zero] at g1 g2
        have g3 : a.getD (p + 4) 0 = y := by rw [g2]; rfl
        have hy3 : y < 128 := by simpa using hy2
        simp only [iter, specGet_step hb hl (show 4 < 5 by omega) g1 h0 h1, g3]
        have e : y % 128 = y := by omega
        rw [if_pos hy3, e, hx, if_neg (by rintro (q | q); have := hyi (by omega); omega; omega)]
        simp [enc]
    | succ k ih =>
      intro i c y f hi h0 h1 hy hyi hx hd hy2 hf
      cases f with
      | zero => omega
      | succ f =>
        obtain ⟨p1, p2, p3⟩ := p128 (show i < 5 by omega)
        by_cases hy3 : y < 128
        · have he : enc (k + 1) y = [y] := by simp [enc, hy3]
          rw [he] at hd ⊢
          obtain ⟨g1, g2⟩ := drop_getD (i := 0) (d := 0) hd (by simp)
          have g3 : a.getD (p + i) 0 = y := g2
          have g1' : p + i < a.length := g1
          simp only [iter, specGet_step hb hl (show i < 5 by omega) g1' h0 h1, g3]
          have e : y % 128 = y := by omega
          rw [if_pos hy3, e, hx, if_neg (by rintro (q | q); have := hyi q.1; omega; omega)]
          simp
        · have he : enc (k + 1) y = (y % 128 + 128) :: enc k (y / 128) := by simp [enc, hy3]
          rw [he] at hd ⊢
          obtain ⟨g1, g2⟩ := drop_getD (i := 0) (d := 0) hd (by simp)
          have g3 : a.getD (p + i) 0 = y % 128 + 128 := g2
          have g1' : p + i < a.length := g1
          simp only [iter, specGet_step hb hl (show i < 5 by omega) g1' h0 h1, g3]
          have e : (y % 128 + 128) % 128 = y % 128 := by omega
          rw [if_neg (by omega), e]
          have hm0 : 0 ≤ y % 128 * 128 ^ i := Int.mul_nonneg (by omega) (by omega)
          have hm : y % 128 * 128 ^ i ≤ 127 * 128 ^ i := Int.mul_le_mul_of_nonneg_right (by omega) (by omega)
          have hxx : c + y % 128 * 128 ^ i + y / 128 * 128 ^ (i + 1) = x := by
            rw [← hx, p3]
            have : y = y % 128 + 128 * (y / 128) := by omega
            have e2 : y * 128 ^ i = y % 128 * 128 ^ i + y / 128 * (128 * 128 ^ i) := by
              conv => lhs; rw [this]
              rw [Int.add_mul, Int.mul_comm 128 (y / 128), Int.mul_assoc]
            omega
          have hd2 : a.drop (p + (i + 1)) = enc k (y / 128) ++ r := by
            rw [← Nat.add_assoc, ← List.drop_drop, hd]
            rfl
          have := ih (i + 1) _ (y / 128) f (by omega) (by omega) (by rw [p3]; omega) (by omega) (by omega) hxx hd2 (by rw [Int.pow_succ] at hy2; omega) (by omega)
          simp only
          rw [this]
          simp only [List.length_cons, Option.some.injEq, Sum.inl.injEq, Prod.mk.injEq, true_and, and_true]
          omega
  have q := key 4 0 0 x bigN (by omega) (by omega) (by simp) hx0 (by omega) (by simp) (by rw [Nat.add_zero, h, hin]) (by simp; omega) (by simp only [bigN]; omega)
  have q' : lp spec_GetNum_s58 (a, (p : Int), 0, 0) = some (.inl (x, ((p + 0 + (enc 4 x).length : Nat) : Int), true)) := q
  simp only [spec_GetNum, q', hin]
  rfl

theorem implGet_enc {a : List Int} (hb : Bts a) (hl : a.length ≤ 1048576) {p : Nat} {x : Int} (hx0 : 0 ≤ x) (hx1 : x ≤ 2147483647) {r : List Int} (h : a.drop p = nB x ++ r) :
    impl_GetNum (a, (p : Int)) = some (x, ((p + (nB x).length : Nat) : Int), true) := by
  have hin : nB x = enc 4 x := by unfold nB; rw [inR_iff.2 ⟨hx0, hx1⟩]; rfl
  have key : ∀ (k i : Nat) (c y : Int) (f : Nat), i + k = 4 → 0 ≤ c → c < 128 ^ i → 0 ≤ y → (0 < i → 0 < y) → c + y * 128 ^ i = x → a.drop (p + i) = enc k y ++ r → y < 128 ^ (k + 1) → i + (enc k y).length = (enc 4 x).length → k < f →
      iter impl_GetNum_s122 f (a, (p : Int), c, (i : Int)) = some (.inl (x, ((p + i + (enc k y).length : Nat) : Int), true)) := by
    intro k
    induction k with
    | zero =>
      intro i c y f hi h0 h1 hy hyi hx hd hy2 hlen hf
      cases f with
      | zero => omega
      | succ f =>
        obtain rfl : i = 4 := by omega
        obtain ⟨g1, g2⟩ := drop_getD (i := 0) (d := 0) hd (by simp [enc])
        simp only [enc, Nat.add_zero] at g1 g2
        have g3 : a.getD (p + 4) 0 = y := by rw [g2]; rfl
        have hy3 : y < 128 := by simpa using hy2
        simp only [iter, implGet_step hb hl (show 4 < 5 by omega) g1 h0 h1, g3]
        have e : y % 128 = y := by omega
        have hlen' : 4 + 1 = (enc 4 x).length := hlen
        rw [if_pos hy3, e, hx, hin, ← hlen', if_pos (by omega)]
        simp [enc]
    | succ k ih =>
      intro i c y f hi h0 h1 hy hyi hx hd hy2 hlen hf
      cases f with
      | zero => omega
      | succ f =>
        obtain ⟨p1, p2, p3⟩ := p128 (show i < 5 by omega)
        by_cases hy3 : y < 128
        · have he : enc (k + 1) y = [y] := by simp [enc, hy3]
          rw [he] at hd hlen ⊢
          obtain ⟨g1, g2⟩ := drop_getD (i := 0) (d := 0) hd (by simp)
          have g3 : a.getD (p + i) 0 = y := g2
          have g1' : p + i < a.length := g1
          simp only [iter, implGet_step hb hl (show i < 5 by omega) g1' h0 h1, g3]
          have e : y % 128 = y := by omega
          simp only [List.length_singleton] at hlen
          rw [if_pos hy3, e, hx, hin, ← hlen, if_pos (by omega)]
          simp
        · have he : enc (k + 1) y = (y % 128 + 128) :: enc k (y / 128) := by simp [enc, hy3]
          rw [he] at hd hlen ⊢
          obtain ⟨g1, g2⟩ := drop_getD (i := 0) (d := 0) hd (by simp)
          have g3 : a.getD (p + i) 0 = y % 128 + 128 := g2
          have g1' : p + i < a.length := g1
          simp only [iter, implGet_step hb hl (show i < 5 by omega) g1' h0 h1, g3]
          have e : (y % 128 + 128) % 128 = y % 128 := by omega
          rw [if_neg (by omega), e]
          have hm0 : 0 ≤ y % 128 * 128 ^ i := Int.mul_nonneg (by omega) (by omega)
          have hm : y % 128 * 128 ^ i ≤ 127 * 128 ^ i := Int.mul_le_mul_of_nonneg_right (by omega) (by omega)
          have hxx : c + y % 128 * 128 ^ i + y / 128 * 128 ^ (i + 1) = x := by
            rw [← hx, p3]
            have : y = y % 128 + 128 * (y / 128) := by omega
            have e2 : y * 128 ^ i = y % 128 * 128 ^ i + y / 128 * (128 * 128 ^ i) := by
              conv => lhs; rw [this]
              rw [Int.add_mul, Int.mul_comm 128 (y / 128), Int.mul_assoc]
            omega
          have hd2 : a.drop (p + (i + 1)) = enc k (y / 128) ++ r := by
            rw [← Nat.add_assoc, ← List.drop_drop, hd]
            rfl
          have := ih (i + 1) _ (y / 128) f (by omega) (by omega) (by rw [p3]; omega) (by omega) (by omega) hxx hd2 (by rw [Int.pow_succ] at hy2; omega) (by simp at hlen; omega) (by omega)
          simp only
          rw [this]
          simp only [List.length_cons, Option.some.injEq, Sum.inl.injEq, Prod.mk.injEq, true_and, and_true]
          omega
  have q := key 4 0 0 x bigN (by omega) (by omega) (by simp) hx0 (by omega) (by simp) (by rw [Nat.add_zero, h, hin]) (by simp; omega) (by omega) (by simp only [bigN]; omega)
  have q' : lp impl_GetNum_s122 (a, (p : Int), 0, 0) = some (.inl (x, ((p + 0 + (enc 4 x).length : Nat) : Int), true)) := q
  have hp : p < a.length := by
    have := (drop_getD (i := 0) (d := 0) h (by rw [hin]; exact (enc_len 4 x).2)).1
    omega
  have hw : inR (p : Int) 0 (w64 (ln a - 1)) = true := by
    rw [w64_ok (by simp only [lnn]; omega) (by simp only [lnn]; omega)]
    exact inR_iff.2 ⟨by omega, by simp only [lnn]; omega⟩
  simp only [impl_GetNum, within_eq, Option.bind_some, hw, Bool.not_true, cond_false, q', hin]
  rfl

end Go.Proofs.Ytkegollaleklaaa.Tw
