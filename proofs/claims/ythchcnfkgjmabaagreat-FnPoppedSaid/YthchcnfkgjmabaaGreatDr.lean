/- Plain: sketches, sets, entries and rows that are drawn. No condition: lemmas. -/
import Derived.Test.YthchcnfkgjmabaaGreatRp
import Derived.Test.YthchcnfkgjmabaaGreatDw
namespace Go.Proofs.YthchcnfkgjmabaaGreat.Tw
open Go.Mach
set_option linter.unusedVariables false
set_option linter.unusedSimpArgs false
set_option maxRecDepth 20000

theorem clip_eq (a b : Int) : spec_l2Clip (a, b) = some (max 0 (min a b)) := by simp only [spec_l2Clip, specMin_eq, specMax_eq, Option.bind_some]

theorem tdiv_nn {a b : Int} (ha : 0 ≤ a) : Int.tdiv a b = a / b := Int.tdiv_eq_ediv_of_nonneg ha
theorem tmod_nn {a b : Int} (ha : 0 ≤ a) : Int.tmod a b = a % b := Int.tmod_eq_emod_of_nonneg ha

theorem bucket_ok (a : Int) : ∃ u, spec_BucketOf a = some u ∧ 0 ≤ u ∧ u < 8 := by
  obtain ⟨b, e, h1, h2⟩ := lp_total (S := spec_BucketOf_s60) (I := fun n s => 0 ≤ s.1 ∧ s.1 < (2 ^ n : Nat) ∧ (n : Int) + s.2 = 20 ∧ 0 ≤ s.2) (Q := fun b => 0 ≤ b ∧ b ≤ 20) (fun n s hi => by
    obtain ⟨x, d⟩ := s
    obtain ⟨h1, h2, h3, h4⟩ := hi
    simp only at h1 h2 h3 h4
    by_cases hx : x > 0
    · right
      match n, h2, h3 with
      | 0, h2, _ => simp at h2; omega
      | m + 1, h2, h3 =>
        refine ⟨m, (x / 2, d + 1), rfl, ?_, by first | omega | (simp only; omega), ?_, by first | omega | (simp only; omega), by first | omega | (simp only; omega)⟩
        · simp only [spec_BucketOf_s60, dT hx, cond_true, tdiv_nn h1]
          rw [w64_ok (by omega) (by have : x < (2 ^ (m + 1) : Nat) := h2; have : 2 ^ (m + 1) ≤ 2 ^ 20 := Nat.pow_le_pow_right (by omega) (by omega); omega), w64_ok (by omega) (by omega)]
        · simp only
          rw [Nat.pow_succ] at h2
          omega
    · left
      exact ⟨d, by simp only [spec_BucketOf_s60, dF hx, cond_false], by omega, by omega⟩) (n := 20) (s := (max 0 (min a 1000000), 0)) (by omega) ⟨by omega, by omega, by simp, by simp⟩
  simp only [spec_BucketOf, clip_eq, Option.bind_some, e]
  refine ⟨_, rfl, ?_⟩
  rw [w64_ok (n := b + 2) (by omega) (by omega), tdiv_nn (by omega), w64_ok (by omega) (by omega)]
  omega

theorem xor_rng {p q : Int} (hp : 0 ≤ p ∧ p < 65536) (hq : 0 ≤ q ∧ q < 65536) : 0 ≤ w64 (Int.ofNat (BitVec.toNat (BitVec.ofInt (64 : Nat) p ^^^ BitVec.ofInt (64 : Nat) q))) ∧ w64 (Int.ofNat (BitVec.toNat (BitVec.ofInt (64 : Nat) p ^^^ BitVec.ofInt (64 : Nat) q))) < 65536 := by
  have toN : ∀ {x : Int}, 0 ≤ x ∧ x < 65536 → (BitVec.ofInt 64 x).toNat < 2 ^ 16 := by
    intro x hx
    rw [BitVec.toNat_ofInt]
    omega
  have h : (BitVec.ofInt 64 p ^^^ BitVec.ofInt 64 q).toNat < 2 ^ 16 := by
    rw [BitVec.toNat_xor]
    exact Nat.xor_lt_two_pow (toN hp) (toN hq)
  have h2 : (Int.ofNat (BitVec.toNat (BitVec.ofInt (64 : Nat) p ^^^ BitVec.ofInt (64 : Nat) q))) = ((BitVec.toNat (BitVec.ofInt (64 : Nat) p ^^^ BitVec.ofInt (64 : Nat) q) : Nat) : Int) := rfl
  rw [h2, w64_ok (by omega) (by omega)]
  omega

theorem mix_ok (a : Int) : ∃ x, spec_Mix a = some x ∧ 0 ≤ x ∧ x < 65536 := by
  simp only [spec_Mix, clip_eq, Option.bind_some]
  have hb : 0 ≤ max 0 (min a 1000000) ∧ max 0 (min a 1000000) ≤ 1000000 := by omega
  generalize max 0 (min a 1000000) = b at hb
  rw [wr (n := b * 40503) (by omega) (by omega), wr (n := b * 40503 + 12345) (by omega) (by omega)]
  have hp : 0 ≤ Int.tmod (b * 40503 + 12345) 65536 ∧ Int.tmod (b * 40503 + 12345) 65536 < 65536 := by rw [tmod_nn (by omega)]; omega
  generalize Int.tmod (b * 40503 + 12345) 65536 = p at hp
  have hq : 0 ≤ Int.tdiv p 256 ∧ Int.tdiv p 256 < 65536 := by rw [tdiv_nn hp.1]; omega
  rw [wr (n := Int.tdiv p 256) (by omega) (by omega)]
  exact ⟨_, rfl, xor_rng hp hq⟩

theorem rank_ok (a : Int) : ∃ x, spec_RankOf a = some x := by
  obtain ⟨x, e, h1, h2⟩ := mix_ok a
  simp only [spec_RankOf, e, Option.bind_some]
  cases hx : (x == 0) with
  | true => exact ⟨17, rfl⟩
  | false =>
    have hx : x ≠ 0 := by simpa using hx
    obtain ⟨b, e2, _⟩ := lp_total (S := spec_RankOf_s124) (I := fun n s => 1 ≤ s.1 ∧ s.1 ≤ (n : Int) ∧ s.1 < 65536) (Q := fun _ => True) (fun n s hi => by
      obtain ⟨y, r⟩ := s
      obtain ⟨g1, g2, g3⟩ := hi
      simp only at g1 g2 g3
      simp only [spec_RankOf_s124, tmod_nn (show 0 ≤ y by omega), tdiv_nn (show 0 ≤ y by omega)]
      cases hy : (y % 2 == 0) with
      | true =>
        have hy : y % 2 = 0 := by simpa using hy
        right
        have hw : w64 (y / 2) = y / 2 := w64_ok (by omega) (by omega)
        exact ⟨n - 1, _, by omega, rfl, by simp only [hw]; omega, by simp only [hw]; omega, by simp only [hw]; omega⟩
      | false => exact .inl ⟨r, rfl, trivial⟩) (n := x.toNat) (s := (x, 1)) (by omega) ⟨by omega, by omega, h2⟩
    simp only [cond_false, e2, Option.bind_some]
    exact ⟨_, rfl⟩

/-! ### sketches -/
/-- A sketch with as many places as it needs. -/
def Shp3 (s : SkT) : Prop := s.2.2.2.2.1.length = 8 ∧ s.2.2.2.2.2.1.length = 8 ∧ s.2.2.2.2.2.2.length = 2 ∧ ∀ r ∈ s.2.2.2.2.2.2, r.length = 4

theorem Shp3.le {s : SkT} (h : Shp3 s) {b : Nat} (hb : 8 ≤ b) : SkLe b s := ⟨by have := h.1; omega, by have := h.2.1; omega, by have := h.2.2.1; omega, fun r hr => by have := h.2.2.2 r hr; omega⟩

theorem ins_rows {a : Int} {z : Int × Int × Int × Int × Unit × Unit × Unit} {f g h i : Int} {j k : List Int} {l : List (List Int)} (hl : l.length = 2 ∧ ∀ r ∈ l, r.length = 4) :
    ∃ r, lp spec_Insert_s32762 (a, z, (f, g, h, i, j, k, l), 0) = some r ∧ ∃ l', r = (z, f, g, h, i, j, k, l') ∧ l'.length = 2 ∧ ∀ r ∈ l', r.length = 4 := by
  obtain ⟨z1, z2, z3, z4, _, _, _⟩ := z
  refine lp_total (S := spec_Insert_s32762) (I := fun n s => ∃ l m, s = (a, (z1, z2, z3, z4, (), (), ()), (f, g, h, i, j, k, l), m) ∧ (l.length = 2 ∧ ∀ r ∈ l, r.length = 4) ∧ (n : Int) + m = 2 ∧ 0 ≤ m) (Q := fun r => ∃ l', r = ((z1, z2, z3, z4, (), (), ()), f, g, h, i, j, k, l') ∧ l'.length = 2 ∧ ∀ r ∈ l', r.length = 4) ?_ (n := 2) (by omega) ⟨l, 0, rfl, hl, by omega, by omega⟩
  rintro n s ⟨l, m, rfl, ⟨h1, h2⟩, h3, h4⟩
  by_cases hm : m < 2
  · right
    obtain ⟨x, e, x1, x2⟩ := mix_ok a
    have hrow : (gx l m []).length = 4 := h2 _ (getD_mem (by omega))
    have hw : w64 (x + m) = x + m := w64_ok (by omega) (by omega)
    have hc : 0 ≤ Int.tmod (x + m) 4 ∧ Int.tmod (x + m) 4 < 4 := by rw [tmod_nn (by omega)]; omega
    simp only [spec_Insert_s32762, dT hm, cond_true, e, Option.bind_some, hw, specAdd_eq, hrow]
    rw [ix_ok h4 (by omega), lx_ok (by omega), ix_ok h4 (by omega), lx_ok (by omega), ix_ok hc.1 (by omega), lx_ok (by omega), ix_ok hc.1 (by omega), lx_ok (by omega)]
    refine ⟨n - 1, _, by omega, rfl, _, _, rfl, ⟨by simp [h1], fun r hr => ?_⟩, by rw [w64_ok (by omega) (by omega)]; omega, by rw [w64_ok (by omega) (by omega)]; omega⟩
    rcases List.mem_or_eq_of_mem_set hr with hr | rfl
    · exact h2 r hr
    · rw [List.length_set]; exact hrow
  · left
    exact ⟨_, by simp only [spec_Insert_s32762, dF hm, cond_false], l, rfl, h1, h2⟩

theorem insert_ok {s : SkT} (hs : Shp3 s) (v : Int) : ∃ s' b, spec_Insert (s, v) = some (s', b) ∧ Shp3 s' := by
  obtain ⟨a, b, c, d, e, f, g⟩ := s
  have hle := hs.le (b := 1048576) (by omega)
  obtain ⟨h1, h2, h3, h4⟩ := hs
  simp only at h1 h2 h3 h4
  have hins : ∀ (z : Int × Int × Int × Int × List Int × List Int × List (List Int)) (r t u : Int), ∃ s' b', spec_Insert_l255 (v, z, (0, 0, 0, 0, (), (), ()), r, t, u, d, e, f, g) = some (s', b') ∧ Shp3 s' := by
    intro z r t u
    obtain ⟨z1, z2, z3, z4, z5, z6, z7⟩ := z
    obtain ⟨w, e1, w1, w2⟩ := bucket_ok v
    obtain ⟨x, e2, x1, x2⟩ := mix_ok v
    obtain ⟨y, e3⟩ := rank_ok v
    have hc : 0 ≤ Int.tmod x 8 ∧ Int.tmod x 8 < 8 := by rw [tmod_nn x1]; omega
    simp only [spec_Insert_l255, specMax_eq, e1, e2, e3, Option.bind_some, specAdd_eq]
    rw [ix_ok w1 (by omega), lx_ok (by omega), ix_ok w1 (by omega), lx_ok (by omega), ix_ok hc.1 (by omega), lx_ok (by omega), ix_ok hc.1 (by omega), lx_ok (by omega)]
    obtain ⟨rr, e4, l', rfl, l1, l2⟩ := ins_rows (a := v) (z := (0, 0, 0, 0, (), (), ())) (f := r) (g := t) (h := u) (i := max z4 v) (j := sx e w (ad (gx e w 0) 1)) (k := sx f (Int.tmod x 8) (max (gx f (Int.tmod x 8) 0) y)) (l := g) ⟨h3, h4⟩
    rw [e4]
    exact ⟨_, _, rfl, by simp [h1], by simp [h2], l1, l2⟩
  simp only [spec_Insert, l3Copy_eq hle, specSketchOk_eq hle, Option.bind_some, l1In_eq]
  cases skOk (a, b, c, d, e, f, g) with
  | false => exact ⟨_, _, rfl, h1, h2, h3, h4⟩
  | true =>
    simp only [Bool.not_true, cond_false]
    cases inR v 0 1000000 with
    | false => exact ⟨_, _, rfl, h1, h2, h3, h4⟩
    | true =>
      simp only [Bool.not_true, cond_false, specAdd_eq, specMin_eq, Option.bind_some]
      cases (a == 0) with
      | true =>
        obtain ⟨⟨q1, q2, q3, q4, q5, q6, q7⟩, b', e5, h5⟩ := hins (a, b, c, d, e, f, g) (ad a 1) (ad b v) v
        simp only [cond_true, e5, Option.bind_some]
        exact ⟨_, _, rfl, h5⟩
      | false =>
        obtain ⟨⟨q1, q2, q3, q4, q5, q6, q7⟩, b', e5, h5⟩ := hins (a, b, c, d, e, f, g) (ad a 1) (ad b v) (min c v)
        simp only [cond_false, e5, Option.bind_some]
        exact ⟨_, _, rfl, h5⟩

theorem sketched_ok {l : List Int} (hl : l.length ≤ 1048576) : ∃ s, spec_Sketched l = some s ∧ Shp3 s := by
  obtain ⟨r, e, s, rfl, hs⟩ := lp_total (S := spec_Sketched_s58) (I := fun n q => ∃ (s : SkT) (m : Int), q = (l, (0, 0, 0, 0, (), (), ()), s, m) ∧ Shp3 s ∧ (n : Int) + m = l.length ∧ 0 ≤ m) (Q := fun r => ∃ s : SkT, r = ((0, 0, 0, 0, (), (), ()), s) ∧ Shp3 s) (fun n q hi => by
    obtain ⟨⟨f, g, h, i, j, k, p⟩, m, rfl, hs, h1, h2⟩ := hi
    by_cases hm : m < (l.length : Int)
    · right
      obtain ⟨⟨q1, q2, q3, q4, q5, q6, q7⟩, b, e1, hs'⟩ := insert_ok hs (gx l m 0)
      simp only [spec_Sketched_s58, lnn, dT hm, cond_true, e1, Option.bind_some]
      rw [ix_ok h2 (by omega)]
      refine ⟨n - 1, _, by omega, rfl, _, _, rfl, hs', ?_, ?_⟩ <;> rw [w64_ok (by omega) (by omega)] <;> omega
    · left
      exact ⟨_, by simp only [spec_Sketched_s58, lnn, dF hm, cond_false], _, rfl, hs⟩) (n := l.length) (s := (l, (0, 0, 0, 0, (), (), ()), (0, 0, 0, 0, List.replicate 8 0, List.replicate 8 0, [List.replicate 4 0, List.replicate 4 0]), 0)) (by omega)
      ⟨_, _, rfl, ⟨by simp, by simp, by simp, by simp⟩, by omega, by omega⟩
  obtain ⟨q1, q2, q3, q4, q5, q6, q7⟩ := s
  simp only [spec_Sketched, spec_SketchNew, Option.bind_some, e]
  exact ⟨_, rfl, hs⟩

theorem values_ok {c : CuT} (h : CuOk c) : ∃ l c', spec_l3Values c = some (l, c') ∧ l.length ≤ 6 ∧ CuOk c' := by
  obtain ⟨a0, b0, k0⟩ := c
  obtain ⟨d, ⟨a, b, k⟩, e1, d1, d2, g1⟩ := below_ok h (n := 6) (by omega)
  obtain ⟨r, e2, l, ⟨a2, b2, k2⟩, rfl, hl, g2⟩ := lp_total (S := spec_l3Values_s122) (I := fun n s => ∃ l m c', s = ((), l, d, m, c') ∧ CuOk c' ∧ l.length + n ≤ 6 ∧ (n : Int) + m = d ∧ 0 ≤ m) (Q := fun r => ∃ l c', r = (l, c') ∧ l.length ≤ 6 ∧ CuOk c') (fun n s hi => by
    obtain ⟨l, m, ⟨x, y, z⟩, rfl, hc, h1, h2, h3⟩ := hi
    by_cases hm : m < d
    · right
      obtain ⟨g, ⟨x1, y1, z1⟩, e3, _, _, g3⟩ := l1Byte_ok hc
      obtain ⟨u, ⟨x2, y2, z2⟩, e4, _, g4⟩ := l1PickInt_ok g3 (l := [0, 1, 7, 8, 100, 5000, 1000000, g, 1000001, -1]) (by simp)
      simp only [spec_l3Values_s122, dT hm, cond_true, e3, e4, Option.bind_some]
      rw [fitsC (by simp; omega) (by omega)]
      refine ⟨n - 1, _, by omega, rfl, _, _, _, rfl, g4, by simp; omega, ?_, ?_⟩ <;> rw [w64_ok (by omega) (by omega)] <;> omega
    · left
      exact ⟨(l, x, y, z), by simp only [spec_l3Values_s122, dF hm, cond_false], l, (x, y, z), rfl, by omega, hc⟩) (n := d.toNat) (s := ((), [], d, 0, a, b, k)) (by omega) ⟨[], 0, (a, b, k), rfl, g1, by simp; omega, by omega, by omega⟩
  simp only [spec_l3Values, e1, e2, Option.bind_some]
  exact ⟨_, _, rfl, hl, g2⟩

theorem once_ok {c : CuT} (h : CuOk c) (n : Int) (hn : 0 < n) : ∃ b c', spec_l1Once (c, n) = some (b, c') ∧ CuOk c' := by
  obtain ⟨a, b, k⟩ := c
  obtain ⟨x, ⟨a1, b1, k1⟩, e, _, _, g⟩ := below_ok h hn
  simp only [spec_l1Once, e, Option.bind_some]
  exact ⟨_, _, rfl, g⟩

theorem right3_ok {c : CuT} (h : CuOk c) : ∃ s c', spec_l3Right c = some (s, c') ∧ Shp3 s ∧ CuOk c' := by
  obtain ⟨a, b, k⟩ := c
  obtain ⟨l, ⟨a1, b1, k1⟩, e1, hl, g1⟩ := values_ok h
  obtain ⟨⟨q1, q2, q3, q4, q5, q6, q7⟩, e2, hs⟩ := sketched_ok (l := l) (by omega)
  obtain ⟨o, ⟨a2, b2, k2⟩, e3, g2⟩ := once_ok g1 16 (by omega)
  simp only [spec_l3Right, e1, e2, e3, Option.bind_some]
  cases o with
  | false => exact ⟨_, _, rfl, hs, g2⟩
  | true =>
    simp only [cond_true]
    by_cases hq : q1 > 0
    · obtain ⟨x, ⟨a3, b3, k3⟩, e4, x1, x2, g3⟩ := below_ok g2 (n := 2) (by omega)
      have h5 : q5.length = 8 := hs.1
      simp only [dT hq, cond_true, e4, Option.bind_some, h5, dT (show 3 < 8 by omega), chk_tt]
      exact ⟨_, _, rfl, ⟨by simp [h5], hs.2⟩, g3⟩
    · simp only [dF hq, cond_false]
      exact ⟨_, _, rfl, hs, g2⟩

theorem draw3_ok {c : CuT} (h : CuOk c) : ∃ s c', spec_l3Draw c = some (s, c') ∧ SkLe 9 s ∧ CuOk c' := by
  obtain ⟨a, b, k⟩ := c
  obtain ⟨⟨q1, q2, q3, q4, q5, q6, q7⟩, ⟨a1, b1, k1⟩, e1, hs, g1⟩ := right3_ok h
  obtain ⟨x, ⟨a2, b2, k2⟩, e2, x1, x2, g2⟩ := below_ok g1 (n := 16) (by omega)
  have hle := hs.le (b := 9) (by omega)
  obtain ⟨h5, h6, h7, h8⟩ := hs
  simp only at h5 h6 h7 h8
  have h81 : (List.getD q7 1 []).length = 4 := h8 _ (getD_mem (by omega))
  simp only [spec_l3Draw, e1, e2, Option.bind_some]
  cases (x == 0) with
  | true =>
    obtain ⟨y, ⟨a3, b3, k3⟩, e3, _, g3⟩ := l1PickInt_ok g2 (l := [-1, 1000001, 500]) (by simp)
    simp only [cond_true, e3, Option.bind_some]
    exact ⟨_, _, rfl, hle, g3⟩
  | false =>
    simp only [cond_false]
    cases (x == 1) with
    | true =>
      obtain ⟨z, ⟨a3, b3, k3⟩, e3, z1, z2, g3⟩ := below_ok g2 (n := 8) (by omega)
      obtain ⟨y, ⟨a4, b4, k4⟩, e4, _, g4⟩ := l1PickInt_ok g3 (l := [-1, 17, 18]) (by simp)
      simp only [cond_true, e3, e4, Option.bind_some]
      rw [ix_ok z1 (by omega), lx_ok (by omega)]
      exact ⟨_, _, rfl, ⟨hle.1, by simp [h6], hle.2.2⟩, g4⟩
    | false =>
      simp only [cond_false]
      cases (x == 2) with
      | true =>
        simp only [cond_true]
        rw [fitsC (by omega) (by omega)]
        exact ⟨_, _, rfl, ⟨by simp [h5], hle.2⟩, g2⟩
      | false =>
        simp only [cond_false]
        cases (x == 3) with
        | true =>
          simp only [cond_true, h7, dT (show 0 ≤ 1 ∧ 1 ≤ 2 by omega), chk_tt]
          exact ⟨_, _, rfl, ⟨hle.1, hle.2.1, by simp; omega, fun r hr => hle.2.2.2 r (List.mem_of_mem_take hr)⟩, g2⟩
        | false =>
          simp only [cond_false]
          cases (x == 4) with
          | true =>
            obtain ⟨y, ⟨a3, b3, k3⟩, e3, _, g3⟩ := l1PickInt_ok g2 (l := [0, -1, 1000000001]) (by simp)
            simp only [cond_true, e3, Option.bind_some]
            exact ⟨_, _, rfl, hle, g3⟩
          | false =>
            simp only [cond_false]
            cases (x == 5) with
            | true =>
              obtain ⟨y, ⟨a3, b3, k3⟩, e3, _, g3⟩ := l1PickInt_ok g2 (l := [-1, 3, 1000000001]) (by simp)
              simp only [cond_true, e3, Option.bind_some, h7, h81, dT (show 1 < 2 by omega), dT (show 2 < 4 by omega), chk_tt]
              refine ⟨_, _, rfl, ⟨hle.1, hle.2.1, by simp [h7], fun r hr => ?_⟩, g3⟩
              rcases List.mem_or_eq_of_mem_set hr with hr | rfl
              · exact hle.2.2.2 r hr
              · rw [List.length_set, h81]; omega
            | false =>
              simp only [cond_false]
              exact ⟨_, _, rfl, hle, g2⟩

/-! ### sets -/
theorem right5_ok {c : CuT} (h : CuOk c) : ∃ l c', spec_l5Right c = some (l, c') ∧ l.length ≤ 7 ∧ CuOk c' := by
  obtain ⟨a0, b0, k0⟩ := c
  obtain ⟨d, ⟨a, b, k⟩, e1, d1, d2, g1⟩ := below_ok h (n := 7) (by omega)
  obtain ⟨r, e2, l, ⟨a2, b2, k2⟩, rfl, hl, g2⟩ := lp_total (S := spec_l5Right_s122) (I := fun n s => ∃ l m c', s = ((), l, d, m, c') ∧ CuOk c' ∧ l.length + n ≤ 7 ∧ (n : Int) + m = d ∧ 0 ≤ m ∧ Canon l ∧ ∀ y ∈ l, 0 ≤ y.1 ∧ y.2 ≤ 1000000) (Q := fun r => ∃ l c', r = (l, c') ∧ l.length ≤ 7 ∧ CuOk c') (fun n s hi => by
    obtain ⟨l, m, ⟨x, y, z⟩, rfl, hc, h1, h2, h3, h4, h5⟩ := hi
    by_cases hm : m < d
    · right
      obtain ⟨u1, ⟨x1, y1, z1⟩, f1, u11, u12, g1⟩ := below_ok hc (n := 20) (by omega)
      obtain ⟨u2, ⟨x2, y2, z2⟩, f2, u21, u22, g2⟩ := below_ok g1 (n := 20) (by omega)
      obtain ⟨u3, ⟨x3, y3, z3⟩, f3, u31, u32, g3⟩ := below_ok g2 (n := 10) (by omega)
      have hw : w64 (9990 + u3) = 9990 + u3 := w64_ok (by omega) (by omega)
      obtain ⟨lo, ⟨x4, y4, z4⟩, f4, hlo, g4⟩ := l1PickInt_ok g3 (l := [u1, u2, 9990 + u3]) (by simp)
      have hlo : 0 ≤ lo ∧ lo ≤ 9999 := by
        simp only [List.mem_cons, List.not_mem_nil, or_false] at hlo
        omega
      obtain ⟨u5, ⟨x5, y5, z5⟩, f5, u51, u52, g5⟩ := below_ok g4 (n := 3) (by omega)
      have hw2 : w64 (lo + u5) = lo + u5 := w64_ok (by omega) (by omega)
      have hput := put_eq (s := l) (x := (lo, min (lo + u5) 9999)) (by omega) ⟨hlo.1, by simp only; omega, by simp only; omega⟩ h4 h5
      simp only [spec_l5Right_s122, dT hm, cond_true, f1, f2, f3, hw, f4, f5, hw2, specMin_eq, hput, Option.bind_some]
      have hlen := putS_length (s := l) (x := (lo, min (lo + u5) 9999))
      refine ⟨n - 1, _, by omega, rfl, _, _, _, rfl, g5, by omega, ?_, ?_, (putS_ok h4 (by simp only; omega)).1, putS_small h5 hlo.1 (by simp only; omega)⟩ <;> rw [w64_ok (by omega) (by omega)] <;> omega
    · left
      exact ⟨(l, x, y, z), by simp only [spec_l5Right_s122, dF hm, cond_false], l, (x, y, z), rfl, by omega, hc⟩) (n := d.toNat) (s := ((), [], d, 0, a, b, k)) (by omega) ⟨[], 0, (a, b, k), rfl, g1, by simp; omega, by omega, by omega, by trivial, by simp⟩
  simp only [spec_l5Right, e1, e2, Option.bind_some]
  exact ⟨_, _, rfl, hl, g2⟩

theorem draw5_ok {c : CuT} (h : CuOk c) : ∃ l c', spec_l5Draw c = some (l, c') ∧ l.length ≤ 8 ∧ CuOk c' := by
  obtain ⟨a, b, k⟩ := c
  obtain ⟨l, ⟨a1, b1, k1⟩, e1, hl, g1⟩ := right5_ok h
  obtain ⟨o, ⟨a2, b2, k2⟩, e2, g2⟩ := once_ok g1 8 (by omega)
  simp only [spec_l5Draw, e1, e2, Option.bind_some]
  cases o with
  | false => exact ⟨_, _, rfl, by omega, g2⟩
  | true =>
    obtain ⟨y, ⟨a3, b3, k3⟩, e3, _, g3⟩ := l1PickInt_ok g2 (l := [-1, 3, 10000]) (by simp)
    obtain ⟨z, ⟨a4, b4, k4⟩, e4, _, g4⟩ := l1PickInt_ok g3 (l := [5, 10000, 9223372036854775807]) (by simp)
    simp only [cond_true, e3, e4, Option.bind_some]
    rw [fitsC (by simp; omega) (by omega)]
    exact ⟨_, _, rfl, by simp; omega, g4⟩

/-! ### items, entries, rows -/
theorem right6_ok {c : CuT} (h : CuOk c) : ∃ q1 q2 q3 q4 s c', spec_l6Right c = some ((q1, q2, q3, q4, s), c') ∧ Shp3 s ∧ CuOk c' := by
  obtain ⟨a, b, k⟩ := c
  obtain ⟨u1, ⟨a1, b1, k1⟩, e1, _, _, g1⟩ := below_ok h (n := 8) (by omega)
  obtain ⟨u2, ⟨a2, b2, k2⟩, e2, _, _, g2⟩ := below_ok g1 (n := 2) (by omega)
  obtain ⟨u3, ⟨a3, b3, k3⟩, e3, _, _, g3⟩ := below_ok g2 (n := 2) (by omega)
  obtain ⟨u4, ⟨a4, b4, k4⟩, e4, _, _, g4⟩ := below_ok g3 (n := 3) (by omega)
  obtain ⟨l, ⟨a5, b5, k5⟩, e5, hl, g5⟩ := values_ok g4
  obtain ⟨⟨q1, q2, q3, q4, q5, q6, q7⟩, e6, hs⟩ := sketched_ok (l := l) (by omega)
  simp only [spec_l6Right, e1, e2, e3, e4, e5, e6, Option.bind_some]
  exact ⟨_, _, _, _, _, _, rfl, hs, g5⟩

theorem entryOf_ok (a q1 q2 q3 q4 : Int) {s : SkT} (hs : Shp3 s) : ∃ e b, spec_EntryOf (a, q1, q2, q3, q4, s) = some (e, b) ∧ EnLe 9 e := by
  obtain ⟨s1, s2, s3, s4, s5, s6, s7⟩ := s
  have hle := hs.le (b := 1048576) (by omega)
  have h9 := hs.le (b := 9) (by omega)
  have hid : ∃ i, spec_IdOf (a, q1) = some i := by
    simp only [spec_IdOf, spec_l6Agent, l1In_eq, Option.bind_some]
    cases inR a 0 2 with
    | false => exact ⟨_, rfl⟩
    | true =>
      simp only [Bool.not_true, cond_false]
      cases inR q1 1 60 with
      | false => exact ⟨_, rfl⟩
      | true => exact ⟨_, rfl⟩
  have hok : ∃ b, spec_ItemOk (q1, q2, q3, q4, s1, s2, s3, s4, s5, s6, s7) = some b := by
    simp only [spec_ItemOk, spec_l6Place, l1In_eq, Option.bind_some, specSketchOk_eq hle]
    cases inR q1 1 60 <;> cases inR q2 0 1 <;> cases inR q3 0 4 <;> cases inR q4 0 20 <;> exact ⟨_, rfl⟩
  obtain ⟨i, e1⟩ := hid
  obtain ⟨b, e2⟩ := hok
  simp only [spec_EntryOf, e1, e2, Option.bind_some]
  cases b with
  | false => exact ⟨_, _, rfl, by simp [EnLe, SkLe]⟩
  | true =>
    simp only [Bool.not_true, cond_false]
    by_cases hi : i < 0
    · simp only [dT hi, cond_true]
      exact ⟨_, _, rfl, by simp [EnLe, SkLe]⟩
    · simp only [dF hi, cond_false, l3Copy_eq hle, Option.bind_some]
      exact ⟨_, _, rfl, by simp, h9⟩

theorem entry6_ok {c : CuT} (h : CuOk c) : ∃ e c', spec_l6Entry c = some (e, c') ∧ EnLe 9 e ∧ CuOk c' := by
  obtain ⟨a, b, k⟩ := c
  obtain ⟨u1, ⟨a1, b1, k1⟩, e1, _, _, g1⟩ := below_ok h (n := 3) (by omega)
  obtain ⟨p1, p2, p3, p4, s, ⟨a2, b2, k2⟩, e2, hs, g2⟩ := right6_ok g1
  obtain ⟨⟨x1, x2, x3, x4, x5, x6, x7, x8, x9, x10⟩, fl, e3, he⟩ := entryOf_ok u1 p1 p2 p3 p4 hs
  obtain ⟨s1, s2, s3, s4, s5, s6, s7⟩ := s
  obtain ⟨o1, ⟨a3, b3, k3⟩, e4, g3⟩ := once_ok g2 4 (by omega)
  have last : ∀ {c : CuT}, CuOk c → ∀ (x1 x2 : Int) (ids : List SpT) (s : SkT), ids.length ≤ 9 → SkLe 9 s → ∃ (b : Bool) (c1 : CuT), spec_l1Once (c, 20) = some (b, c1) ∧ CuOk c1 ∧ (b = true → ∃ y c2, spec_l1PickInt (c1, [-1, 5]) = some (y, c2) ∧ CuOk c2) := by
    intro c hc x1 x2 ids s h1 h2
    obtain ⟨b, c1, f1, f2⟩ := once_ok hc 20 (by omega)
    refine ⟨b, c1, f1, f2, fun _ => ?_⟩
    obtain ⟨y, c2, f3, _, f4⟩ := l1PickInt_ok f2 (l := [-1, 5]) (by simp)
    exact ⟨y, c2, f3, f4⟩
  simp only [spec_l6Entry, e1, e2, e3, e4, Option.bind_some]
  -- the set
  have hset : ∃ (ids : List SpT) (c4 : CuT), ids.length ≤ 9 ∧ CuOk c4 ∧ (o1 = true → spec_l5Draw (a3, b3, k3) = some (ids, c4)) ∧ (o1 = false → ids = x3 ∧ c4 = (a3, b3, k3)) := by
    cases o1 with
    | true =>
      obtain ⟨l, c4, f1, f2, f3⟩ := draw5_ok g3
      exact ⟨l, c4, by omega, f3, fun _ => f1, by simp⟩
    | false => exact ⟨x3, (a3, b3, k3), he.1, g3, by simp, fun _ => ⟨rfl, rfl⟩⟩
  obtain ⟨ids, ⟨a4, b4, k4⟩, hids, g4, t1, t2⟩ := hset
  obtain ⟨o2, ⟨a5, b5, k5⟩, e5, g5⟩ := once_ok g4 14 (by omega)
  have hsk : ∃ (sk : SkT) (c6 : CuT), SkLe 9 sk ∧ CuOk c6 ∧ (o2 = true → spec_l3Draw (a5, b5, k5) = some (sk, c6)) ∧ (o2 = false → sk = (x4, x5, x6, x7, x8, x9, x10) ∧ c6 = (a5, b5, k5)) := by
    cases o2 with
    | true =>
      obtain ⟨l, c6, f1, f2, f3⟩ := draw3_ok g5
      exact ⟨l, c6, f2, f3, fun _ => f1, by simp⟩
    | false => exact ⟨_, (a5, b5, k5), he.2, g5, by simp, fun _ => ⟨rfl, rfl⟩⟩
  obtain ⟨⟨w1, w2, w3, w4, w5, w6, w7⟩, ⟨a6, b6, k6⟩, hsk9, g6, v1, v2⟩ := hsk
  obtain ⟨o3, ⟨a7, b7, k7⟩, e7, g7, hpick⟩ := last g6 x1 x2 ids (w1, w2, w3, w4, w5, w6, w7) hids hsk9
  have fin : ∀ y : Int, EnLe 9 (y, x2, ids, w1, w2, w3, w4, w5, w6, w7) := fun y => ⟨hids, hsk9⟩
  cases o1 with
  | true =>
    have t1 := t1 rfl
    simp only [cond_true, t1, Option.bind_some, e5]
    cases o2 with
    | true =>
      have v1 := v1 rfl
      simp only [cond_true, v1, Option.bind_some, e7]
      cases o3 with
      | true =>
        obtain ⟨y, ⟨a8, b8, k8⟩, f1, f2⟩ := hpick rfl
        simp only [cond_true, f1, Option.bind_some]
        exact ⟨_, _, rfl, fin y, f2⟩
      | false =>
        simp only [cond_false]
        exact ⟨_, _, rfl, fin x1, g7⟩
    | false =>
      obtain ⟨v3, v4⟩ := v2 rfl
      simp only [Prod.mk.injEq] at v3 v4
      obtain ⟨rfl, rfl, rfl, rfl, rfl, rfl, rfl⟩ := v3
      obtain ⟨rfl, rfl, rfl⟩ := v4
      simp only [cond_false, e7, Option.bind_some]
      cases o3 with
      | true =>
        obtain ⟨y, ⟨a8, b8, k8⟩, f1, f2⟩ := hpick rfl
        simp only [cond_true, f1, Option.bind_some]
        exact ⟨_, _, rfl, fin y, f2⟩
      | false =>
        simp only [cond_false]
        exact ⟨_, _, rfl, fin x1, g7⟩
  | false =>
    obtain ⟨rfl, t4⟩ := t2 rfl
    simp only [Prod.mk.injEq] at t4
    obtain ⟨rfl, rfl, rfl⟩ := t4
    simp only [cond_false, e5, Option.bind_some]
    cases o2 with
    | true =>
      have v1 := v1 rfl
      simp only [cond_true, v1, Option.bind_some, e7]
      cases o3 with
      | true =>
        obtain ⟨y, ⟨a8, b8, k8⟩, f1, f2⟩ := hpick rfl
        simp only [cond_true, f1, Option.bind_some]
        exact ⟨_, _, rfl, fin y, f2⟩
      | false =>
        simp only [cond_false]
        exact ⟨_, _, rfl, fin x1, g7⟩
    | false =>
      obtain ⟨v3, v4⟩ := v2 rfl
      simp only [Prod.mk.injEq] at v3 v4
      obtain ⟨rfl, rfl, rfl, rfl, rfl, rfl, rfl⟩ := v3
      obtain ⟨rfl, rfl, rfl⟩ := v4
      simp only [cond_false, e7, Option.bind_some]
      cases o3 with
      | true =>
        obtain ⟨y, ⟨a8, b8, k8⟩, f1, f2⟩ := hpick rfl
        simp only [cond_true, f1, Option.bind_some]
        exact ⟨_, _, rfl, fin y, f2⟩
      | false =>
        simp only [cond_false]
        exact ⟨_, _, rfl, fin x1, g7⟩

/-- What is not right is not put into a row. -/
theorem specPush_bad {l : List EnT} {e : EnT} {j : Bool} (hl : RowOk l) (he : EnLe 9 e) (hb : enOk e = false) : spec_RowPush (l, e, j) = some (l, false) := by
  have hle := hl.toLe
  obtain ⟨x1, x2, x3, x4, x5, x6, x7, x8, x9, x10⟩ := e
  have hr : rowOk l = true := rowOk_iff.2 hl
  have hE := specEntryOk_eq (he.mono (b := 1048576) (by omega))
  simp only [spec_RowPush, l10Copy_eq hle, specRowOk_eq hle, hr, Option.bind_some, Bool.not_true, cond_false, hE, hb, Bool.not_false, cond_true]

theorem push_ok {l : List EnT} {e : EnT} (j : Bool) (hl : RowOk l) (he : EnLe 9 e) : ∃ l' b, spec_RowPush (l, e, j) = some (l', b) ∧ RowOk l' := by
  cases hb : enOk e with
  | false => exact ⟨_, _, specPush_bad hl he hb, hl⟩
  | true => exact ⟨_, _, specPush_eq hl (enOk_iff.1 hb), pushM_ok hl (enOk_iff.1 hb)⟩

theorem right10_ok {c : CuT} (h : CuOk c) : ∃ l c', spec_l10Right c = some (l, c') ∧ RowOk l ∧ CuOk c' := by
  obtain ⟨a0, b0, k0⟩ := c
  obtain ⟨d, ⟨a1, b1, k1⟩, e1, d1, d2, g1⟩ := below_ok h (n := 6) (by omega)
  obtain ⟨ag, ⟨a, b, k⟩, e2, _, _, g2⟩ := below_ok g1 (n := 3) (by omega)
  obtain ⟨r, e3, l, ⟨a3, b3, k3⟩, rfl, hl, g3⟩ := lp_total (S := spec_l10Right_s250) (I := fun n s => ∃ l m c', s = ((), (), l, d, ag, m, c') ∧ CuOk c' ∧ RowOk l ∧ (n : Int) + m = d ∧ 0 ≤ m) (Q := fun r => ∃ l c', r = ((), l, c') ∧ RowOk l ∧ CuOk c') (fun n s hi => by
    obtain ⟨l, m, ⟨x, y, z⟩, rfl, hc, h1, h2, h3⟩ := hi
    by_cases hm : m < d
    · right
      obtain ⟨p1, p2, p3, p4, ⟨s1, s2, s3, s4, s5, s6, s7⟩, ⟨x1, y1, z1⟩, f1, hs, g1⟩ := right6_ok hc
      obtain ⟨u, ⟨x2, y2, z2⟩, f2, _, _, g2⟩ := below_ok g1 (n := 30) (by omega)
      obtain ⟨⟨t1, t2, t3, t4, t5, t6, t7, t8, t9, t10⟩, fl, f3, he⟩ := entryOf_ok ag (w64 (1 + u)) p2 p3 p4 hs
      obtain ⟨o, ⟨x3, y3, z3⟩, f4, g3⟩ := once_ok g2 3 (by omega)
      obtain ⟨l', b', f5, hl'⟩ := push_ok o h1 he
      simp only [spec_l10Right_s250, dT hm, cond_true, f1, f2, f3, f4, f5, Option.bind_some]
      refine ⟨n - 1, _, by omega, rfl, _, _, _, rfl, g3, hl', ?_, ?_⟩ <;> rw [w64_ok (by omega) (by omega)] <;> omega
    · left
      exact ⟨((), l, x, y, z), by simp only [spec_l10Right_s250, dF hm, cond_false], l, (x, y, z), rfl, h1, hc⟩) (n := d.toNat) (s := ((), (), [], d, ag, 0, a, b, k)) (by omega) ⟨[], 0, (a, b, k), rfl, g2, rowOk_nil, by omega, by omega⟩
  simp only [spec_l10Right, e1, e2, e3, Option.bind_some]
  exact ⟨_, _, rfl, hl, g3⟩

theorem draw10_ok {c : CuT} (h : CuOk c) : ∃ l c', spec_l10Draw c = some (l, c') ∧ EnsLe 5001 l ∧ CuOk c' := by
  obtain ⟨a, b, k⟩ := c
  obtain ⟨l, ⟨a1, b1, k1⟩, e1, hl, g1⟩ := right10_ok h
  obtain ⟨x, ⟨a2, b2, k2⟩, e2, _, _, g2⟩ := below_ok g1 (n := 10) (by omega)
  have hlen := hl.len
  have hle : ∀ e ∈ l, EnLe 5001 e := fun e he => (hl.ens e he).toLe
  simp only [spec_l10Draw, e1, e2, Option.bind_some]
  cases (x == 0) with
  | true =>
    obtain ⟨⟨x1, x2, x3, x4, x5, x6, x7, x8, x9, x10⟩, ⟨a3, b3, k3⟩, e3, he, g3⟩ := entry6_ok g2
    simp only [cond_true, e3, Option.bind_some]
    rw [fitsC (by simp; omega) (by omega)]
    refine ⟨_, _, rfl, ⟨by simp; omega, fun e hm => ?_⟩, g3⟩
    simp only [List.mem_append, List.mem_singleton] at hm
    rcases hm with hm | rfl
    · exact hle e hm
    · exact he.mono (by omega)
  | false =>
    simp only [cond_false]
    cases (x == 1) with
    | false =>
      simp only [cond_false]
      exact ⟨_, _, rfl, ⟨by omega, hle⟩, g2⟩
    | true =>
      simp only [cond_true, lnn]
      by_cases hp : (l.length : Int) > 0
      · have hm : List.getD l 0 (0, 0, [], 0, 0, 0, 0, [], [], []) ∈ l := getD_mem (by omega)
        have h0 := l6Copy_eq ((hle _ hm).mono (b := 1048576) (by omega))
        simp only [dT hp, cond_true, dT (show 0 < l.length by omega), chk_tt, Option.bind_some]
        generalize hz : List.getD l 0 (0, 0, [], 0, 0, 0, 0, [], [], []) = z at hm h0
        obtain ⟨x1, x2, x3, x4, x5, x6, x7, x8, x9, x10⟩ := z
        simp only [hz, h0, Option.bind_some]
        rw [fitsC (by simp; omega) (by omega)]
        refine ⟨_, _, rfl, ⟨by simp; omega, fun e hm' => ?_⟩, g2⟩
        simp only [List.mem_append, List.mem_singleton] at hm'
        rcases hm' with hm' | rfl
        · exact hle e hm'
        · exact hle _ hm
      · simp only [dF hp, cond_false]
        exact ⟨_, _, rfl, ⟨by omega, hle⟩, g2⟩

end Go.Proofs.YthchcnfkgjmabaaGreat.Tw
