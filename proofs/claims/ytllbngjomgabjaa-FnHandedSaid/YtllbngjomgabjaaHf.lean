/- Plain: who hands over, in which order, and how fair that is. No condition: lemmas. -/
import Derived.Test.YtllbngjomgabjaaDw
namespace Go.Proofs.Ytllbngjomgabjaa.Tw
open Go.Mach
set_option linter.unusedVariables false
set_option linter.unusedSimpArgs false
set_option maxRecDepth 20000

/-- Rows of rows that are not too long. -/
def SmIntSS (l : List (List Int)) : Prop := l.length ≤ 1048576 ∧ ∀ r ∈ l, r.length ≤ 1048576

/-! ### bounds -/
def inR (x a b : Int) : Bool := decide (x ≥ a) && decide (x ≤ b)
theorem l1In_eq (x a b : Int) : spec_l1In (x, a, b) = some (inR x a b) := by unfold inR; simp only [spec_l1In]; cases decide (x ≥ a) <;> rfl
theorem within_eq (x a b : Int) : impl_within (x, a, b) = some (inR x a b) := by unfold inR; simp only [impl_within]; cases decide (x ≥ a) <;> rfl

theorem allWithin_eq {l : List Int} {n lo hi : Int} (hl : l.length ≤ 1048576) : impl_allWithin (l, n, lo, hi) = some (l.all (fun x => inR x lo hi) && ((l.length : Int) == n)) := by
  have := lp_all (S := impl_allWithin_s26) (t := .inr (l, n)) (e := .inl false) l 0 (fun i => (l, n, lo, hi, l, (l.length : Int), (i : Int))) hl (fun x => inR x lo hi) (fun i hi' _ => by
    simp only [impl_allWithin_s26, ltn hi', cond_true, ixn hi', gxn, within_eq, Option.bind_some, bnot_cond, wsucc (show i ≤ 1048576 by omega)]
    cases inR (l.getD i 0) lo hi <;> rfl) (by simp only [impl_allWithin_s26, ltF, cond_false])
  rw [cast0] at this
  simp only [impl_allWithin, lnn, this]
  cases l.all (fun x => inR x lo hi) <;> simp

theorem nums_eq {l : List Int} {lo hi : Int} (hl : l.length ≤ 1048576) : spec_l11Nums (l, lo, hi) = some (l.all (fun x => inR x lo hi) && ((l.length : Int) == 3)) := by
  have := lp_all (S := spec_l11Nums_s58) (t := .inr ()) (e := .inl false) l 0 (fun i => (l, lo, hi, (i : Int))) hl (fun x => inR x lo hi) (fun i hi' _ => by
    simp only [spec_l11Nums_s58, lnn, ltn hi', cond_true, ixn hi', gxn, l1In_eq, Option.bind_some, bnot_cond, wsucc (show i ≤ 1048576 by omega)]
    cases inR (l.getD i 0) lo hi <;> rfl) (by simp only [spec_l11Nums_s58, lnn, ltF, cond_false])
  rw [cast0] at this
  simp only [spec_l11Nums, lnn, this, bne]
  cases h : ((l.length : Int) == 3)
  · simp
  · cases l.all (fun x => inR x lo hi) <;> simp

def listOk (l : List Int) : Bool := !decide ((l.length : Int) > 40) && l.all (fun x => inR x 1 200)
def loadsOk (ls : List (List Int)) : Bool := ((ls.length : Int) == 3) && ls.all listOk

theorem implLoadsOk_eq {ls : List (List Int)} (h : SmIntSS ls) : impl_loadsOk ls = some (loadsOk ls) := by
  obtain ⟨hl, hr⟩ := h
  have := lp_all (S := impl_loadsOk_s26) (t := .inr ls) (e := .inl false) ls [] (fun i => (ls, ls, (ls.length : Int), (i : Int))) hl listOk (fun i hi hm => by
    simp only [impl_loadsOk_s26, ltn hi, cond_true, ixn hi, gxn, allWithin_eq (hr _ hm), lnn, beq_self_eq_true, Bool.and_true, Option.bind_some, bnot_cond, wsucc (show i ≤ 1048576 by omega)]
    unfold listOk
    generalize decide (((ls.getD i []).length : Int) > 40) = b1
    generalize (ls.getD i []).all (fun x => inR x 1 200) = b2
    cases b1 <;> cases b2 <;> rfl) (by simp only [impl_loadsOk_s26, ltF, cond_false])
  rw [cast0] at this
  simp only [impl_loadsOk, lnn, this, loadsOk]
  cases ls.all listOk <;> simp

theorem specLoadsOk_eq {ls : List (List Int)} (h : SmIntSS ls) : spec_l21Ok ls = some (loadsOk ls) := by
  obtain ⟨hl, hr⟩ := h
  have hin : ∀ i, i < ls.length → lp spec_l21Ok_s7462 (ls, (i : Int), 0) = some (bif (ls.getD i []).all (fun x => inR x 1 200) then .inr (ls, (i : Int)) else .inl false) := by
    intro i hi
    have := lp_all (S := spec_l21Ok_s7462) (t := .inr (ls, (i : Int))) (e := .inl false) (ls.getD i []) 0 (fun k => (ls, (i : Int), (k : Int))) (hr _ (getD_mem hi)) (fun x => inR x 1 200) (fun k hk _ => by
      simp only [spec_l21Ok_s7462, lnn, gxn, ixn hi, ltn hk, cond_true, ixn hk, l1In_eq, Option.bind_some, bnot_cond, wsucc (show k ≤ 1048576 by have := hr _ (getD_mem (d := []) hi); omega)]
      cases inR ((ls.getD i []).getD k 0) 1 200 <;> rfl) (by simp only [spec_l21Ok_s7462, lnn, gxn, ixn hi, ltF, cond_false])
    rwa [cast0] at this
  have := lp_all (S := spec_l21Ok_s58) (t := .inr ()) (e := .inl false) ls [] (fun i => (ls, (i : Int))) hl listOk (fun i hi hm => by
    simp only [spec_l21Ok_s58, lnn, ltn hi, cond_true, ixn hi, gxn, hin i hi]
    unfold listOk
    generalize decide (((ls.getD i []).length : Int) > 40) = b1
    generalize (ls.getD i []).all (fun x => inR x 1 200) = b2
    cases b1 <;> cases b2 <;> simp [wsucc (show i ≤ 1048576 by omega)]) (by simp only [spec_l21Ok_s58, lnn, ltF, cond_false])
  rw [cast0] at this
  simp only [spec_l21Ok, lnn, this, loadsOk, bne]
  cases h : ((ls.length : Int) == 3)
  · simp
  · cases ls.all listOk <;> simp

theorem inR_iff {x a b : Int} : inR x a b = true ↔ a ≤ x ∧ x ≤ b := by unfold inR; simp

/-! ### fair shares -/
/-- How one agent stands: what it has handed over and what it has left come to its rounds' worth; what is left is little. -/
def AI (q w s i a : Int) (fr : Bool) (l S Q : Int) : Prop :=
  s ≠ 0 → S + l = Q * w + (if i < a ∨ (i = a ∧ fr = false) then q * w else 0) ∧ l ≤ 199 + (if i = a ∧ fr = false then q * w else 0)

def NX (q a a' Q Q' : Int) : Prop := (a = 2 ∧ a' = 0 ∧ Q' = Q + q) ∨ (0 ≤ a ∧ a < 2 ∧ a' = a + 1 ∧ Q' = Q)

theorem AI.zero {q w s i a l S Q : Int} {fr : Bool} (h : s = 0) : AI q w s i a fr l S Q := fun hn => absurd h hn

theorem AI.nextO {q w s i a a' l S Q Q' : Int} {fr : Bool} (h : AI q w s i a fr l S Q) (hn : i ≠ a) (hx : NX q a a' Q Q') (hi : 0 ≤ i ∧ i ≤ 2) : AI q w s i a' true l S Q' := by
  intro hs
  obtain ⟨h1, h2⟩ := h hs
  have e2 : ¬ (i = a ∧ fr = false) := fun g => hn g.1
  rw [if_neg e2] at h2
  refine ⟨?_, by simp; omega⟩
  rcases hx with ⟨rfl, rfl, rfl⟩ | ⟨g1, g2, rfl, rfl⟩
  · rw [if_pos (by omega)] at h1
    rw [if_neg (by simp; omega), Int.add_mul]
    omega
  · by_cases g : i < a
    · rw [if_pos (.inl g)] at h1
      rw [if_pos (.inl (by omega))]
      exact h1
    · rw [if_neg (by simp; omega)] at h1
      rw [if_neg (by simp; omega)]
      exact h1

theorem AI.nextS {q w s a a' l S Q Q' : Int} (h : AI q w s a a false l S Q) (hl : l < s) (hs' : s ≤ 200) (hx : NX q a a' Q Q') : AI q w s a a' true l S Q' := by
  intro hs
  obtain ⟨h1, h2⟩ := h hs
  rw [if_pos (.inr ⟨rfl, rfl⟩)] at h1
  refine ⟨?_, by simp; omega⟩
  rcases hx with ⟨rfl, rfl, rfl⟩ | ⟨g1, g2, rfl, rfl⟩
  · rw [if_neg (by simp), Int.add_mul]
    omega
  · rw [if_pos (.inl (by omega))]
    exact h1

theorem AI.charge {q w s a l S Q : Int} (h : AI q w s a a true l S Q) : AI q w s a a false (l + q * w) S Q := by
  intro hs
  obtain ⟨h1, h2⟩ := h hs
  rw [if_neg (by simp)] at h1
  rw [if_neg (by simp)] at h2
  rw [if_pos (.inr ⟨rfl, rfl⟩), if_pos ⟨rfl, rfl⟩]
  omega

theorem AI.o {q w s i a l S Q : Int} {fr fr' : Bool} (h : AI q w s i a fr l S Q) (hn : i ≠ a) : AI q w s i a fr' l S Q := by
  intro hs
  have := h hs
  simpa [hn] using this

theorem AI.serve {q w s i a l S Q : Int} {fr : Bool} (h : AI q w s i a fr l S Q) {t : Int} (ht : 0 ≤ t) : AI q w s i a fr (l - t) (S + t) Q := by
  intro hs
  obtain ⟨h1, h2⟩ := h hs
  exact ⟨by omega, by omega⟩

theorem AI.few {q w s a l S Q : Int} (h : AI q w s a a true l S Q) (hs : s ≠ 0) : l ≤ 199 := by
  have := (h hs).2
  simpa using this

/-- How all stand. -/
def PI (q w0 w1 w2 s0 s1 s2 a : Int) (fr : Bool) (x y z S0 S1 S2 : Int) : Prop := ∃ Q, AI q w0 s0 0 a fr x S0 Q ∧ AI q w1 s1 1 a fr y S1 Q ∧ AI q w2 s2 2 a fr z S2 Q

theorem fair_pair {q Q wi wk Si Sk li lk : Int} {ci ck di dk : Prop} [Decidable ci] [Decidable ck] [Decidable di] [Decidable dk] (hq : 1 ≤ q) (hi : 1 ≤ wi ∧ wi ≤ 4) (hk : 1 ≤ wk ∧ wk ≤ 4) (h1 : Si + li = Q * wi + (if ci then q * wi else 0)) (h2 : Sk + lk = Q * wk + (if ck then q * wk else 0))
    (g1 : 0 ≤ li ∧ li ≤ 199 + (if di then q * wi else 0)) (g2 : 0 ≤ lk ∧ lk ≤ 199 + (if dk then q * wk else 0)) :
    Si * wk - Sk * wi ≤ (3 * q + 400) * wi * wk ∧ 0 - (3 * q + 400) * wi * wk ≤ Si * wk - Sk * wi := by
  rcases (by omega : wi = 1 ∨ wi = 2 ∨ wi = 3 ∨ wi = 4) with rfl | rfl | rfl | rfl <;> rcases (by omega : wk = 1 ∨ wk = 2 ∨ wk = 3 ∨ wk = 4) with rfl | rfl | rfl | rfl <;> (split at h1 <;> split at h2 <;> split at g1 <;> split at g2 <;> omega)

/-! ### one who is picked -/
/-- Numbers within bounds, three of them. -/
def Three (l : List Int) (a b : Int) : Prop := ∃ x y z, l = [x, y, z] ∧ a ≤ x ∧ x ≤ b ∧ a ≤ y ∧ y ≤ b ∧ a ≤ z ∧ z ≤ b

theorem three_of {l : List Int} {a b : Int} (h : (l.all (fun x => inR x a b) && ((l.length : Int) == 3)) = true) : Three l a b := by
  simp only [Bool.and_eq_true, beq_iff_eq] at h
  obtain ⟨h1, h2⟩ := h
  match l, (show l.length = 3 by omega), h1 with
  | [x, y, z], _, h1 =>
    simp only [List.all_cons, List.all_nil, Bool.and_eq_true, inR_iff] at h1
    exact ⟨x, y, z, rfl, h1.1.1, h1.1.2, h1.2.1.1, h1.2.1.2, h1.2.2.1.1, h1.2.2.1.2⟩

/-- Where a round of turns stands: the measure goes down until somebody is picked. -/
def dist (a at_ : Int) : Nat := if a = at_ then 0 else if (at_ = 0 ∧ a = 1) ∨ (at_ = 1 ∧ a = 2) ∨ (at_ = 2 ∧ a = 0) then 1 else 2
def sel (a x y z : Int) : Int := if a = 0 then x else if a = 1 then y else z
def mu (a at_ : Int) (fr : Bool) (x y z : Int) : Nat := 3 * (201 - (sel a x y z).toNat) + dist a at_ + (if fr then 0 else 3)

theorem pick_step {s0 s1 s2 w0 w1 w2 q x y z a at_ : Int} {fr : Bool} (hq : 1 ≤ q ∧ q ≤ 60) (hw0 : 1 ≤ w0 ∧ w0 ≤ 4) (hw1 : 1 ≤ w1 ∧ w1 ≤ 4) (hw2 : 1 ≤ w2 ∧ w2 ≤ 4)
    (hs0 : 0 ≤ s0 ∧ s0 ≤ 200) (hs1 : 0 ≤ s1 ∧ s1 ≤ 200) (hs2 : 0 ≤ s2 ∧ s2 ≤ 200) (ha : (a = 0 ∧ 0 < s0) ∨ (a = 1 ∧ 0 < s1) ∨ (a = 2 ∧ 0 < s2))
    (hat : at_ = 0 ∨ at_ = 1 ∨ at_ = 2) (hx : 0 ≤ x ∧ x ≤ 1000) (hy : 0 ≤ y ∧ y ≤ 1000) (hz : 0 ≤ z ∧ z ≤ 1000) :
    (∃ at' x' y' z', spec_Pick_s62 ([s0, s1, s2], [w0, w1, w2], q, (0, false, ()), at_, fr, [x, y, z]) = some (.inl ([s0, s1, s2], [w0, w1, w2], q, (0, false, ()), at', true, [x', y', z'])) ∧
        impl_Pick_s62 ([s0, s1, s2], [w0, w1, w2], q, (0, false, ()), at_, fr, [x, y, z]) = some (.inl ([s0, s1, s2], [w0, w1, w2], q, (0, false, ()), at', true, [x', y', z'])) ∧
        (at' = 0 ∨ at' = 1 ∨ at' = 2) ∧ (0 ≤ x' ∧ x' ≤ 1000) ∧ (0 ≤ y' ∧ y' ≤ 1000) ∧ (0 ≤ z' ∧ z' ≤ 1000) ∧ mu a at' true x' y' z' < mu a at_ fr x y z ∧
        ∀ S0 S1 S2, PI q w0 w1 w2 s0 s1 s2 at_ fr x y z S0 S1 S2 → PI q w0 w1 w2 s0 s1 s2 at' true x' y' z' S0 S1 S2) ∨
    (∃ x' y' z', spec_Pick_s62 ([s0, s1, s2], [w0, w1, w2], q, (0, false, ()), at_, fr, [x, y, z]) = some (.inr (at_, at_, false, [x', y', z'])) ∧
        impl_Pick_s62 ([s0, s1, s2], [w0, w1, w2], q, (0, false, ()), at_, fr, [x, y, z]) = some (.inr (at_, at_, false, [x', y', z'])) ∧
        sel at_ s0 s1 s2 ≠ 0 ∧ (0 ≤ x' ∧ x' ≤ 1000) ∧ (0 ≤ y' ∧ y' ≤ 1000) ∧ (0 ≤ z' ∧ z' ≤ 1000) ∧
        ∀ S0 S1 S2, PI q w0 w1 w2 s0 s1 s2 at_ fr x y z S0 S1 S2 → PI q w0 w1 w2 s0 s1 s2 at_ false x' y' z' (S0 + if at_ = 0 then s0 else 0) (S1 + if at_ = 1 then s1 else 0) (S2 + if at_ = 2 then s2 else 0)) := by
  have m0 : 1 ≤ q * w0 ∧ q * w0 ≤ 240 := ⟨by have := Int.mul_le_mul hq.1 hw0.1 (by omega) (by omega); omega, by have := Int.mul_le_mul hq.2 hw0.2 (by omega) (by omega); omega⟩
  have m1 : 1 ≤ q * w1 ∧ q * w1 ≤ 240 := ⟨by have := Int.mul_le_mul hq.1 hw1.1 (by omega) (by omega); omega, by have := Int.mul_le_mul hq.2 hw1.2 (by omega) (by omega); omega⟩
  have m2 : 1 ≤ q * w2 ∧ q * w2 ≤ 240 := ⟨by have := Int.mul_le_mul hq.1 hw2.1 (by omega) (by omega); omega, by have := Int.mul_le_mul hq.2 hw2.2 (by omega) (by omega); omega⟩
  have k0 : IntKind.wrap .i64 (q * w0) = q * w0 := wr (by omega) (by omega)
  have k1 : IntKind.wrap .i64 (q * w1) = q * w1 := wr (by omega) (by omega)
  have k2 : IntKind.wrap .i64 (q * w2) = q * w2 := wr (by omega) (by omega)
  have j0 : IntKind.wrap .i64 (x + q * w0) = x + q * w0 := wr (by omega) (by omega)
  have j1 : IntKind.wrap .i64 (y + q * w1) = y + q * w1 := wr (by omega) (by omega)
  have j2 : IntKind.wrap .i64 (z + q * w2) = z + q * w2 := wr (by omega) (by omega)
  have n1 : Int.tmod (IntKind.wrap .i64 1) 3 = 1 := by rw [wr (by omega) (by omega)]; rfl
  have n2 : Int.tmod (IntKind.wrap .i64 2) 3 = 2 := by rw [wr (by omega) (by omega)]; rfl
  have n3 : Int.tmod (IntKind.wrap .i64 3) 3 = 0 := by rw [wr (by omega) (by omega)]; rfl
  have f0 : IntKind.wrap .i64 (x - s0) = x - s0 := wr (by omega) (by omega)
  have f1 : IntKind.wrap .i64 (y - s1) = y - s1 := wr (by omega) (by omega)
  have f2 : IntKind.wrap .i64 (z - s2) = z - s2 := wr (by omega) (by omega)
  have t0 : IntKind.wrap .i64 (1000 - s0) = 1000 - s0 := wr (by omega) (by omega)
  have t1 : IntKind.wrap .i64 (1000 - s1) = 1000 - s1 := wr (by omega) (by omega)
  have t2 : IntKind.wrap .i64 (1000 - s2) = 1000 - s2 := wr (by omega) (by omega)
  have u0 : IntKind.wrap .i64 (x + q * w0 - s0) = x + q * w0 - s0 := wr (by omega) (by omega)
  have u1 : IntKind.wrap .i64 (y + q * w1 - s1) = y + q * w1 - s1 := wr (by omega) (by omega)
  have u2 : IntKind.wrap .i64 (z + q * w2 - s2) = z + q * w2 - s2 := wr (by omega) (by omega)
  have i0 : ∀ {R : Type} (k : Option R), ix 0 3 k = k := fun k => ix_ok (by omega) (by decide) k
  have i1 : ∀ {R : Type} (k : Option R), ix 1 3 k = k := fun k => ix_ok (by omega) (by decide) k
  have i2 : ∀ {R : Type} (k : Option R), ix 2 3 k = k := fun k => ix_ok (by omega) (by decide) k
  have x0 : ∀ {R : Type} (k : Option R), lx 0 3 k = k := fun k => lx_ok (by decide) k
  have x1 : ∀ {R : Type} (k : Option R), lx 1 3 k = k := fun k => lx_ok (by decide) k
  have x2 : ∀ {R : Type} (k : Option R), lx 2 3 k = k := fun k => lx_ok (by decide) k
  rcases hat with rfl | rfl | rfl
  · by_cases c0 : s0 = 0
    · left
      refine ⟨1, 0, y, z, ?_, ?_, by omega, by omega, hy, hz, ?_, ?_⟩
      · simp [gx, sx, w64, spec_Pick_s62, i0, x0, spec_l11Next, n1, c0]
      · simp [gx, sx, w64, impl_Pick_s62, i0, x0, n1, c0]
      · unfold mu dist sel; rcases ha with ⟨rfl, h⟩ | ⟨rfl, h⟩ | ⟨rfl, h⟩ <;> cases fr <;> simp <;> omega
      · exact fun S0 S1 S2 ⟨Q, p0, p1, p2⟩ => ⟨Q, AI.zero c0, p1.nextO (by omega) (.inr ⟨by omega, by omega, by omega, rfl⟩) (by omega), p2.nextO (by omega) (.inr ⟨by omega, by omega, by omega, rfl⟩) (by omega)⟩
    · have b0 : (s0 == 0) = false := beq_eq_false_iff_ne.2 c0
      cases fr
      · by_cases d : s0 ≤ x
        · right
          refine ⟨x - s0, y, z, ?_, ?_, by simp [sel, c0], by omega, hy, hz, ?_⟩
          · simp [gx, sx, w64, spec_Pick_s62, spec_Pick_l995, i0, x0, c0, b0, d, f0]
          · simp [gx, sx, w64, impl_Pick_s62, impl_Pick_l7959, i0, x0, c0, b0, d, f0]
          · exact fun S0 S1 S2 ⟨Q, p0, p1, p2⟩ => ⟨Q, by simpa using p0.serve (t := s0) (by omega), by simpa using p1, by simpa using p2⟩
        · left
          refine ⟨1, x, y, z, ?_, ?_, by omega, hx, hy, hz, ?_, ?_⟩
          · simp [gx, sx, w64, spec_Pick_s62, spec_Pick_l995, spec_l11Next, i0, x0, c0, b0, d, n1]
          · simp [gx, sx, w64, impl_Pick_s62, impl_Pick_l7959, i0, x0, c0, b0, d, n1]
          · unfold mu dist sel; rcases ha with ⟨rfl, h⟩ | ⟨rfl, h⟩ | ⟨rfl, h⟩ <;> simp <;> omega
          · exact fun S0 S1 S2 ⟨Q, p0, p1, p2⟩ => ⟨Q, p0.nextS (by omega) (by omega) (.inr ⟨by omega, by omega, by omega, rfl⟩), p1.nextO (by omega) (.inr ⟨by omega, by omega, by omega, rfl⟩) (by omega), p2.nextO (by omega) (.inr ⟨by omega, by omega, by omega, rfl⟩) (by omega)⟩
      · by_cases e : x + q * w0 < 1000
        · by_cases d : s0 ≤ x + q * w0
          · right
            refine ⟨x + q * w0 - s0, y, z, ?_, ?_, by simp [sel, c0], by omega, hy, hz, ?_⟩
            · simp [gx, sx, w64, spec_Pick_s62, spec_Pick_l995, spec_l1Min, i0, x0, c0, b0, d, e, k0, j0, u0]
            · simp [gx, sx, w64, impl_Pick_s62, impl_Pick_l7959, i0, x0, c0, b0, d, e, k0, j0, u0]
            · exact fun S0 S1 S2 ⟨Q, p0, p1, p2⟩ => ⟨Q, by simpa using p0.charge.serve (t := s0) (by omega), by simpa using p1.o (fr' := false) (by omega), by simpa using p2.o (fr' := false) (by omega)⟩
          · left
            refine ⟨1, x + q * w0, y, z, ?_, ?_, by omega, by omega, hy, hz, ?_, ?_⟩
            · simp [gx, sx, w64, spec_Pick_s62, spec_Pick_l995, spec_l11Next, spec_l1Min, i0, x0, c0, b0, d, e, n1, k0, j0]
            · simp [gx, sx, w64, impl_Pick_s62, impl_Pick_l7959, i0, x0, c0, b0, d, e, n1, k0, j0]
            · unfold mu dist sel; rcases ha with ⟨rfl, h⟩ | ⟨rfl, h⟩ | ⟨rfl, h⟩ <;> simp <;> omega
            · exact fun S0 S1 S2 ⟨Q, p0, p1, p2⟩ => ⟨Q, p0.charge.nextS (by omega) (by omega) (.inr ⟨by omega, by omega, by omega, rfl⟩), (p1.o (fr' := false) (by omega)).nextO (by omega) (.inr ⟨by omega, by omega, by omega, rfl⟩) (by omega), (p2.o (fr' := false) (by omega)).nextO (by omega) (.inr ⟨by omega, by omega, by omega, rfl⟩) (by omega)⟩
        · right
          have d : s0 ≤ 1000 := by omega
          refine ⟨1000 - s0, y, z, ?_, ?_, by simp [sel, c0], by omega, hy, hz, ?_⟩
          · simp [gx, sx, w64, spec_Pick_s62, spec_Pick_l995, spec_l1Min, i0, x0, c0, b0, d, e, k0, j0, t0]
          · simp [gx, sx, w64, impl_Pick_s62, impl_Pick_l7959, i0, x0, c0, b0, d, e, k0, j0, t0]
          · exact fun S0 S1 S2 ⟨Q, p0, p1, p2⟩ => absurd (p0.few c0) (by omega)
  · by_cases c1 : s1 = 0
    · left
      refine ⟨2, x, 0, z, ?_, ?_, by omega, hx, by omega, hz, ?_, ?_⟩
      · simp [gx, sx, w64, spec_Pick_s62, i1, x1, spec_l11Next, n2, c1]
      · simp [gx, sx, w64, impl_Pick_s62, i1, x1, n2, c1]
      · unfold mu dist sel; rcases ha with ⟨rfl, h⟩ | ⟨rfl, h⟩ | ⟨rfl, h⟩ <;> cases fr <;> simp <;> omega
      · exact fun S0 S1 S2 ⟨Q, p0, p1, p2⟩ => ⟨Q, p0.nextO (by omega) (.inr ⟨by omega, by omega, by omega, rfl⟩) (by omega), AI.zero c1, p2.nextO (by omega) (.inr ⟨by omega, by omega, by omega, rfl⟩) (by omega)⟩
    · have b1 : (s1 == 0) = false := beq_eq_false_iff_ne.2 c1
      cases fr
      · by_cases d : s1 ≤ y
        · right
          refine ⟨x, y - s1, z, ?_, ?_, by simp [sel, c1], hx, by omega, hz, ?_⟩
          · simp [gx, sx, w64, spec_Pick_s62, spec_Pick_l995, i1, x1, c1, b1, d, f1]
          · simp [gx, sx, w64, impl_Pick_s62, impl_Pick_l7959, i1, x1, c1, b1, d, f1]
          · exact fun S0 S1 S2 ⟨Q, p0, p1, p2⟩ => ⟨Q, by simpa using p0, by simpa using p1.serve (t := s1) (by omega), by simpa using p2⟩
        · left
          refine ⟨2, x, y, z, ?_, ?_, by omega, hx, hy, hz, ?_, ?_⟩
          · simp [gx, sx, w64, spec_Pick_s62, spec_Pick_l995, spec_l11Next, i1, x1, c1, b1, d, n2]
          · simp [gx, sx, w64, impl_Pick_s62, impl_Pick_l7959, i1, x1, c1, b1, d, n2]
          · unfold mu dist sel; rcases ha with ⟨rfl, h⟩ | ⟨rfl, h⟩ | ⟨rfl, h⟩ <;> simp <;> omega
          · exact fun S0 S1 S2 ⟨Q, p0, p1, p2⟩ => ⟨Q, p0.nextO (by omega) (.inr ⟨by omega, by omega, by omega, rfl⟩) (by omega), p1.nextS (by omega) (by omega) (.inr ⟨by omega, by omega, by omega, rfl⟩), p2.nextO (by omega) (.inr ⟨by omega, by omega, by omega, rfl⟩) (by omega)⟩
      · by_cases e : y + q * w1 < 1000
        · by_cases d : s1 ≤ y + q * w1
          · right
            refine ⟨x, y + q * w1 - s1, z, ?_, ?_, by simp [sel, c1], hx, by omega, hz, ?_⟩
            · simp [gx, sx, w64, spec_Pick_s62, spec_Pick_l995, spec_l1Min, i1, x1, c1, b1, d, e, k1, j1, u1]
            · simp [gx, sx, w64, impl_Pick_s62, impl_Pick_l7959, i1, x1, c1, b1, d, e, k1, j1, u1]
            · exact fun S0 S1 S2 ⟨Q, p0, p1, p2⟩ => ⟨Q, by simpa using p0.o (fr' := false) (by omega), by simpa using p1.charge.serve (t := s1) (by omega), by simpa using p2.o (fr' := false) (by omega)⟩
          · left
            refine ⟨2, x, y + q * w1, z, ?_, ?_, by omega, hx, by omega, hz, ?_, ?_⟩
            · simp [gx, sx, w64, spec_Pick_s62, spec_Pick_l995, spec_l11Next, spec_l1Min, i1, x1, c1, b1, d, e, n2, k1, j1]
            · simp [gx, sx, w64, impl_Pick_s62, impl_Pick_l7959, i1, x1, c1, b1, d, e, n2, k1, j1]
            · unfold mu dist sel; rcases ha with ⟨rfl, h⟩ | ⟨rfl, h⟩ | ⟨rfl, h⟩ <;> simp <;> omega
            · exact fun S0 S1 S2 ⟨Q, p0, p1, p2⟩ => ⟨Q, (p0.o (fr' := false) (by omega)).nextO (by omega) (.inr ⟨by omega, by omega, by omega, rfl⟩) (by omega), p1.charge.nextS (by omega) (by omega) (.inr ⟨by omega, by omega, by omega, rfl⟩), (p2.o (fr' := false) (by omega)).nextO (by omega) (.inr ⟨by omega, by omega, by omega, rfl⟩) (by omega)⟩
        · right
          have d : s1 ≤ 1000 := by omega
          refine ⟨x, 1000 - s1, z, ?_, ?_, by simp [sel, c1], hx, by omega, hz, ?_⟩
          · simp [gx, sx, w64, spec_Pick_s62, spec_Pick_l995, spec_l1Min, i1, x1, c1, b1, d, e, k1, j1, t1]
          · simp [gx, sx, w64, impl_Pick_s62, impl_Pick_l7959, i1, x1, c1, b1, d, e, k1, j1, t1]
          · exact fun S0 S1 S2 ⟨Q, p0, p1, p2⟩ => absurd (p1.few c1) (by omega)
  · by_cases c2 : s2 = 0
    · left
      refine ⟨0, x, y, 0, ?_, ?_, by omega, hx, hy, by omega, ?_, ?_⟩
      · simp [gx, sx, w64, spec_Pick_s62, i2, x2, spec_l11Next, n3, c2]
      · simp [gx, sx, w64, impl_Pick_s62, i2, x2, n3, c2]
      · unfold mu dist sel; rcases ha with ⟨rfl, h⟩ | ⟨rfl, h⟩ | ⟨rfl, h⟩ <;> cases fr <;> simp <;> omega
      · exact fun S0 S1 S2 ⟨Q, p0, p1, p2⟩ => ⟨Q + q, p0.nextO (by omega) (.inl ⟨rfl, rfl, rfl⟩) (by omega), p1.nextO (by omega) (.inl ⟨rfl, rfl, rfl⟩) (by omega), AI.zero c2⟩
    · have b2 : (s2 == 0) = false := beq_eq_false_iff_ne.2 c2
      cases fr
      · by_cases d : s2 ≤ z
        · right
          refine ⟨x, y, z - s2, ?_, ?_, by simp [sel, c2], hx, hy, by omega, ?_⟩
          · simp [gx, sx, w64, spec_Pick_s62, spec_Pick_l995, i2, x2, c2, b2, d, f2]
          · simp [gx, sx, w64, impl_Pick_s62, impl_Pick_l7959, i2, x2, c2, b2, d, f2]
          · exact fun S0 S1 S2 ⟨Q, p0, p1, p2⟩ => ⟨Q, by simpa using p0, by simpa using p1, by simpa using p2.serve (t := s2) (by omega)⟩
        · left
          refine ⟨0, x, y, z, ?_, ?_, by omega, hx, hy, hz, ?_, ?_⟩
          · simp [gx, sx, w64, spec_Pick_s62, spec_Pick_l995, spec_l11Next, i2, x2, c2, b2, d, n3]
          · simp [gx, sx, w64, impl_Pick_s62, impl_Pick_l7959, i2, x2, c2, b2, d, n3]
          · unfold mu dist sel; rcases ha with ⟨rfl, h⟩ | ⟨rfl, h⟩ | ⟨rfl, h⟩ <;> simp <;> omega
          · exact fun S0 S1 S2 ⟨Q, p0, p1, p2⟩ => ⟨Q + q, p0.nextO (by omega) (.inl ⟨rfl, rfl, rfl⟩) (by omega), p1.nextO (by omega) (.inl ⟨rfl, rfl, rfl⟩) (by omega), p2.nextS (by omega) (by omega) (.inl ⟨rfl, rfl, rfl⟩)⟩
      · by_cases e : z + q * w2 < 1000
        · by_cases d : s2 ≤ z + q * w2
          · right
            refine ⟨x, y, z + q * w2 - s2, ?_, ?_, by simp [sel, c2], hx, hy, by omega, ?_⟩
            · simp [gx, sx, w64, spec_Pick_s62, spec_Pick_l995, spec_l1Min, i2, x2, c2, b2, d, e, k2, j2, u2]
            · simp [gx, sx, w64, impl_Pick_s62, impl_Pick_l7959, i2, x2, c2, b2, d, e, k2, j2, u2]
            · exact fun S0 S1 S2 ⟨Q, p0, p1, p2⟩ => ⟨Q, by simpa using p0.o (fr' := false) (by omega), by simpa using p1.o (fr' := false) (by omega), by simpa using p2.charge.serve (t := s2) (by omega)⟩
          · left
            refine ⟨0, x, y, z + q * w2, ?_, ?_, by omega, hx, hy, by omega, ?_, ?_⟩
            · simp [gx, sx, w64, spec_Pick_s62, spec_Pick_l995, spec_l11Next, spec_l1Min, i2, x2, c2, b2, d, e, n3, k2, j2]
            · simp [gx, sx, w64, impl_Pick_s62, impl_Pick_l7959, i2, x2, c2, b2, d, e, n3, k2, j2]
            · unfold mu dist sel; rcases ha with ⟨rfl, h⟩ | ⟨rfl, h⟩ | ⟨rfl, h⟩ <;> simp <;> omega
            · exact fun S0 S1 S2 ⟨Q, p0, p1, p2⟩ => ⟨Q + q, (p0.o (fr' := false) (by omega)).nextO (by omega) (.inl ⟨rfl, rfl, rfl⟩) (by omega), (p1.o (fr' := false) (by omega)).nextO (by omega) (.inl ⟨rfl, rfl, rfl⟩) (by omega), p2.charge.nextS (by omega) (by omega) (.inl ⟨rfl, rfl, rfl⟩)⟩
        · right
          have d : s2 ≤ 1000 := by omega
          refine ⟨x, y, 1000 - s2, ?_, ?_, by simp [sel, c2], hx, hy, by omega, ?_⟩
          · simp [gx, sx, w64, spec_Pick_s62, spec_Pick_l995, spec_l1Min, i2, x2, c2, b2, d, e, k2, j2, t2]
          · simp [gx, sx, w64, impl_Pick_s62, impl_Pick_l7959, i2, x2, c2, b2, d, e, k2, j2, t2]
          · exact fun S0 S1 S2 ⟨Q, p0, p1, p2⟩ => absurd (p2.few c2) (by omega)
theorem limited_eq (n : Int) : impl_limited (n, 0, 200) = some (min (max n 0) 200) := by
  simp only [impl_limited, Option.some.injEq]
  split <;> split <;> omega

/-- What is picked. -/
def Picked (q w0 w1 w2 s0 s1 s2 a : Int) (fr : Bool) (x y z : Int) (r : Int × Int × Bool × List Int) : Prop :=
  (r = (-1, 0, true, [0, 0, 0]) ∧ s0 = 0 ∧ s1 = 0 ∧ s2 = 0) ∨
  ∃ w x' y' z', r = (w, w, false, [x', y', z']) ∧ (w = 0 ∨ w = 1 ∨ w = 2) ∧ sel w s0 s1 s2 ≠ 0 ∧ (0 ≤ x' ∧ x' ≤ 1000) ∧ (0 ≤ y' ∧ y' ≤ 1000) ∧ (0 ≤ z' ∧ z' ≤ 1000) ∧
    ∀ S0 S1 S2, PI q w0 w1 w2 s0 s1 s2 a fr x y z S0 S1 S2 → PI q w0 w1 w2 s0 s1 s2 w false x' y' z' (S0 + if w = 0 then s0 else 0) (S1 + if w = 1 then s1 else 0) (S2 + if w = 2 then s2 else 0)

theorem max_eq (s0 s1 s2 : Int) : slices_Max___int_int_ [s0, s1, s2] = some (max (max s0 s1) s2) := by
  have h : lp slices_Max___int_int__s122 ([s0, s1, s2], s0, 1) = some (max (max s0 s1) s2) := by
    have := lp_det (S := slices_Max___int_int__s122) (fun i => ([s0, s1, s2], (if i = 0 then s0 else if i = 1 then max s0 s1 else max (max s0 s1) s2), ((i + 1 : Nat) : Int))) (n := 2) (b := max (max s0 s1) s2) (by omega) (fun i hi => by
      have e2 : w64 2 = 2 := w64_ok (by omega) (by omega)
      have e3 : w64 3 = 3 := w64_ok (by omega) (by omega)
      match i, hi with
      | 0, _ =>
        simp [slices_Max___int_int__s122, ix, chk, gx, e2, e3, ln]
        split <;> omega
      | 1, _ =>
        simp [slices_Max___int_int__s122, ix, chk, gx, e2, e3, ln]
        split <;> omega) (by simp [slices_Max___int_int__s122, ln])
    exact this
  simp only [slices_Max___int_int_]
  simp [chk, h, ln]

theorem pick_ok {s0 s1 s2 q at_ x y z w0 w1 w2 : Int} {fr : Bool} (hq : 1 ≤ q ∧ q ≤ 60) (hW : (([w0, w1, w2] : List Int).all (fun x => inR x 1 4) && ((([w0, w1, w2] : List Int).length : Int) == 3)) = true)
    (hs0 : 0 ≤ s0 ∧ s0 ≤ 200) (hs1 : 0 ≤ s1 ∧ s1 ≤ 200) (hs2 : 0 ≤ s2 ∧ s2 ≤ 200) (hat : at_ = 0 ∨ at_ = 1 ∨ at_ = 2) (hx : 0 ≤ x ∧ x ≤ 1000) (hy : 0 ≤ y ∧ y ≤ 1000) (hz : 0 ≤ z ∧ z ≤ 1000) :
    ∃ r, spec_Pick ([s0, s1, s2], [w0, w1, w2], q, at_, fr, [x, y, z]) = some r ∧ impl_Pick ([s0, s1, s2], [w0, w1, w2], q, at_, fr, [x, y, z]) = some r ∧ Picked q w0 w1 w2 s0 s1 s2 at_ fr x y z r := by
  have hL : (([x, y, z] : List Int).all (fun x => inR x 0 1000) && ((([x, y, z] : List Int).length : Int) == 3)) = true := by
    simp [inR]; omega
  have hS : (([s0, s1, s2] : List Int).all (fun x => inR x 0 200) && ((([s0, s1, s2] : List Int).length : Int) == 3)) = true := by
    simp [inR]; omega
  have hq' : inR q 1 60 = true := inR_iff.2 hq
  have ha' : inR at_ 0 2 = true := inR_iff.2 (by omega)
  have hWl : ([w0, w1, w2] : List Int).length ≤ 1048576 := by simp
  obtain ⟨w01, w02, w11, w12, w21, w22⟩ : 1 ≤ w0 ∧ w0 ≤ 4 ∧ 1 ≤ w1 ∧ w1 ≤ 4 ∧ 1 ≤ w2 ∧ w2 ≤ 4 := by
    have := hW
    simp [inR] at this
    omega
  have c1 : spec_l11Copy (at_, fr, [x, y, z]) = some (at_, fr, [x, y, z]) := by
    simp only [spec_l11Copy]; rw [fitsC (by simp) (by omega)]; rfl
  have c2 : impl_copyTurn (at_, fr, [x, y, z]) = some (at_, fr, [x, y, z]) := by
    simp only [impl_copyTurn, impl_copyInts]; rw [fitsC (by simp) (by omega)]; rfl
  have tk1 : spec_TurnOk (at_, fr, [x, y, z]) = some true := by
    simp only [spec_TurnOk, spec_l6Agent, l1In_eq, ha', Option.bind_some, cond_true, nums_eq (l := [x, y, z]) (lo := 0) (hi := 1000) (by simp), hL]
  have tk2 : impl_TurnOk (at_, fr, [x, y, z]) = some true := by
    simp only [impl_TurnOk, within_eq, ha', Option.bind_some, cond_true, allWithin_eq (l := [x, y, z]) (n := 3) (lo := 0) (hi := 1000) (by simp), hL]
  simp only [spec_Pick, impl_Pick, c1, c2, Option.bind_some, nums_eq (l := [s0, s1, s2]) (lo := 0) (hi := 200) (by simp), allWithin_eq (l := [s0, s1, s2]) (n := 3) (lo := 0) (hi := 200) (by simp), hS, nums_eq hWl, allWithin_eq hWl, hW, l1In_eq, within_eq, hq', tk1, tk2, Bool.not_true, cond_false, max_eq,
    nums_eq (l := [s0, s1, s2]) (lo := 0) (hi := 0) (by simp)]
  by_cases h0 : s0 = 0 ∧ s1 = 0 ∧ s2 = 0
  · obtain ⟨rfl, rfl, rfl⟩ := h0
    exact ⟨(-1, 0, true, [0, 0, 0]), by simp [inR, spec_TurnNew, List.replicate], by simp [impl_TurnNew, List.replicate], .inl ⟨rfl, rfl, rfl, rfl⟩⟩
  · have n0 : (([s0, s1, s2] : List Int).all (fun x => inR x 0 0) && ((([s0, s1, s2] : List Int).length : Int) == 3)) = false := by
      simp [inR]; omega
    have n1 : (max (max s0 s1) s2 == 0) = false := beq_eq_false_iff_ne.2 (by omega)
    rw [n0, n1, cond_false, cond_false]
    obtain ⟨a, ha⟩ : ∃ a : Int, (a = 0 ∧ 0 < s0) ∨ (a = 1 ∧ 0 < s1) ∨ (a = 2 ∧ 0 < s2) := by
      by_cases g0 : 0 < s0
      · exact ⟨0, .inl ⟨rfl, g0⟩⟩
      · by_cases g1 : 0 < s1
        · exact ⟨1, .inr (.inl ⟨rfl, g1⟩)⟩
        · exact ⟨2, .inr (.inr ⟨rfl, by omega⟩)⟩
    obtain ⟨b, c, e1, e2, rfl, e3⟩ := lp_pair (S := spec_Pick_s62) (T := impl_Pick_s62) (s := ([s0, s1, s2], [w0, w1, w2], q, (0, false, ()), at_, fr, [x, y, z])) (t := ([s0, s1, s2], [w0, w1, w2], q, (0, false, ()), at_, fr, [x, y, z]))
      (R := fun s t => s = t ∧ ∃ a' f' x' y' z', s = ([s0, s1, s2], [w0, w1, w2], q, (0, false, ()), a', f', [x', y', z']) ∧ (a' = 0 ∨ a' = 1 ∨ a' = 2) ∧ (0 ≤ x' ∧ x' ≤ 1000) ∧ (0 ≤ y' ∧ y' ≤ 1000) ∧ (0 ≤ z' ∧ z' ≤ 1000) ∧ ∀ S0 S1 S2, PI q w0 w1 w2 s0 s1 s2 at_ fr x y z S0 S1 S2 → PI q w0 w1 w2 s0 s1 s2 a' f' x' y' z' S0 S1 S2)
      (μ := fun s => mu a s.2.2.2.2.1 s.2.2.2.2.2.1 (s.2.2.2.2.2.2.getD 0 0) (s.2.2.2.2.2.2.getD 1 0) (s.2.2.2.2.2.2.getD 2 0))
      (E := fun b c => b = c ∧ ∃ w x' y' z', b = (w, w, false, [x', y', z']) ∧ (w = 0 ∨ w = 1 ∨ w = 2) ∧ sel w s0 s1 s2 ≠ 0 ∧ (0 ≤ x' ∧ x' ≤ 1000) ∧ (0 ≤ y' ∧ y' ≤ 1000) ∧ (0 ≤ z' ∧ z' ≤ 1000) ∧ ∀ S0 S1 S2, PI q w0 w1 w2 s0 s1 s2 at_ fr x y z S0 S1 S2 → PI q w0 w1 w2 s0 s1 s2 w false x' y' z' (S0 + if w = 0 then s0 else 0) (S1 + if w = 1 then s1 else 0) (S2 + if w = 2 then s2 else 0))
      (by
        rintro s t ⟨rfl, at', fr', x', y', z', rfl, hat', hx', hy', hz', hpi⟩
        rcases pick_step hq ⟨w01, w02⟩ ⟨w11, w12⟩ ⟨w21, w22⟩ hs0 hs1 hs2 (a := a) ha hat' hx' hy' hz' (fr := fr') with ⟨a1, x1, y1, z1, p1, p2, p3, p4, p5, p6, p7, p8⟩ | ⟨x1, y1, z1, p1, p2, p3, p4, p5, p6, p8⟩
        · exact .inl ⟨_, _, p1, p2, ⟨rfl, _, _, _, _, _, rfl, p3, p4, p5, p6, fun S0 S1 S2 h => p8 _ _ _ (hpi _ _ _ h)⟩, p7⟩
        · exact .inr ⟨_, _, p1, p2, rfl, _, _, _, _, rfl, hat', p3, p4, p5, p6, fun S0 S1 S2 h => p8 _ _ _ (hpi _ _ _ h)⟩)
      ⟨rfl, _, _, _, _, _, rfl, hat, hx, hy, hz, fun _ _ _ h => h⟩ (by
        unfold mu dist
        dsimp only
        split <;> split <;> (try split) <;> omega)
    obtain ⟨w, x1, y1, z1, rfl, e4, e5, e6, e7, e8, e9⟩ := e3
    exact ⟨(w, w, false, [x1, y1, z1]), by rw [e1]; rfl, by rw [e2]; rfl, .inr ⟨w, x1, y1, z1, rfl, e4, e5, e6, e7, e8, e9⟩⟩

/-! ### all that is handed over -/
/-- What stands next in a row. -/
def szf (l : List Int) (a : Int) : Int := if a < (l.length : Int) then l.getD a.toNat 0 else 0

theorem szf_ok {l : List Int} {a : Int} (hl : listOk l = true) (ha : 0 ≤ a) : 0 ≤ szf l a ∧ szf l a ≤ 200 := by
  unfold szf
  split
  · have hm : l.getD a.toNat 0 ∈ l := getD_mem (by omega)
    unfold listOk at hl
    simp only [Bool.and_eq_true, List.all_eq_true, inR_iff] at hl
    have := hl.2 _ hm
    omega
  · omega

theorem spec_in {l0 l1 l2 : List Int} {a0 a1 a2 : Int} (W : List Int) (q n : Int) (out : List Int) (tA : Int) (tF : Bool) (tL : List Int) (i : Int) (hb : 0 ≤ a0 ∧ 0 ≤ a1 ∧ 0 ≤ a2) (m : Int) (o : Bool) :
    lp spec_Hand_s129610 ([l0, l1, l2], W, q, n, out, [a0, a1, a2], (tA, tF, tL), i, [0, 0, 0], 0, m, o) = some ([l0, l1, l2], W, q, n, out, [a0, a1, a2], (tA, tF, tL), i, [szf l0 a0, szf l1 a1, szf l2 a2], m, o) := by
  have i0 : ∀ {R : Type} (k : Option R), ix 0 3 k = k := fun k => ix_ok (by omega) (by decide) k
  have i1 : ∀ {R : Type} (k : Option R), ix 1 3 k = k := fun k => ix_ok (by omega) (by decide) k
  have i2 : ∀ {R : Type} (k : Option R), ix 2 3 k = k := fun k => ix_ok (by omega) (by decide) k
  have x0 : ∀ {R : Type} (k : Option R), lx 0 3 k = k := fun k => lx_ok (by decide) k
  have x1 : ∀ {R : Type} (k : Option R), lx 1 3 k = k := fun k => lx_ok (by decide) k
  have x2 : ∀ {R : Type} (k : Option R), lx 2 3 k = k := fun k => lx_ok (by decide) k
  have e1 : w64 (0 + 1) = 1 := w64_ok (by omega) (by omega)
  have e2 : w64 (1 + 1) = 2 := w64_ok (by omega) (by omega)
  have e3 : w64 (2 + 1) = 3 := w64_ok (by omega) (by omega)
  have := lp_det (S := spec_Hand_s129610) (fun i' => ([l0, l1, l2], W, q, n, out, [a0, a1, a2], (tA, tF, tL), i, (if i' = 0 then [0, 0, 0] else if i' = 1 then [szf l0 a0, 0, 0] else if i' = 2 then [szf l0 a0, szf l1 a1, 0] else [szf l0 a0, szf l1 a1, szf l2 a2]), (i' : Int), m, o)) (n := 3)
    (b := ([l0, l1, l2], W, q, n, out, [a0, a1, a2], (tA, tF, tL), i, [szf l0 a0, szf l1 a1, szf l2 a2], m, o)) (by omega) (fun i' hi => by
      match i', hi with
      | 0, _ =>
        by_cases h : a0 < (l0.length : Int)
        · have : ∀ {R : Type} (k : Option R), ix a0 l0.length k = k := fun k => ix_ok (by omega) (by omega) k
          simp [spec_Hand_s129610, i0, x0, gx, sx, e1, h, this, szf, -Int.reduceAdd, -Int.zero_add]
        · simp [spec_Hand_s129610, i0, x0, gx, sx, e1, h, szf, -Int.reduceAdd, -Int.zero_add]
      | 1, _ =>
        by_cases h : a1 < (l1.length : Int)
        · have : ∀ {R : Type} (k : Option R), ix a1 l1.length k = k := fun k => ix_ok (by omega) (by omega) k
          simp [spec_Hand_s129610, i1, x1, gx, sx, e2, h, this, szf, -Int.reduceAdd]
        · simp [spec_Hand_s129610, i1, x1, gx, sx, e2, h, szf, -Int.reduceAdd]
      | 2, _ =>
        by_cases h : a2 < (l2.length : Int)
        · have : ∀ {R : Type} (k : Option R), ix a2 l2.length k = k := fun k => ix_ok (by omega) (by omega) k
          simp [spec_Hand_s129610, i2, x2, gx, sx, e3, h, this, szf, -Int.reduceAdd]
        · simp [spec_Hand_s129610, i2, x2, gx, sx, e3, h, szf, -Int.reduceAdd]) (by simp [spec_Hand_s129610])
  exact this

theorem impl_in {l0 l1 l2 : List Int} {a0 a1 a2 : Int} (W : List Int) (q n : Int) (out : List Int) (tA : Int) (tF : Bool) (tL : List Int) (i : Int) (hb : 0 ≤ a0 ∧ 0 ≤ a1 ∧ 0 ≤ a2) :
    lp impl_Hand_s129610 ([l0, l1, l2], W, q, n, [a0, a1, a2], (tA, tF, tL), out, i, [0, 0, 0], [l0, l1, l2], 3, 0) = some ([l0, l1, l2], W, q, n, [a0, a1, a2], (tA, tF, tL), out, i, [szf l0 a0, szf l1 a1, szf l2 a2]) := by
  have i0 : ∀ {R : Type} (k : Option R), ix 0 3 k = k := fun k => ix_ok (by omega) (by decide) k
  have i1 : ∀ {R : Type} (k : Option R), ix 1 3 k = k := fun k => ix_ok (by omega) (by decide) k
  have i2 : ∀ {R : Type} (k : Option R), ix 2 3 k = k := fun k => ix_ok (by omega) (by decide) k
  have x0 : ∀ {R : Type} (k : Option R), lx 0 3 k = k := fun k => lx_ok (by decide) k
  have x1 : ∀ {R : Type} (k : Option R), lx 1 3 k = k := fun k => lx_ok (by decide) k
  have x2 : ∀ {R : Type} (k : Option R), lx 2 3 k = k := fun k => lx_ok (by decide) k
  have e1 : w64 (0 + 1) = 1 := w64_ok (by omega) (by omega)
  have e2 : w64 (1 + 1) = 2 := w64_ok (by omega) (by omega)
  have e3 : w64 (2 + 1) = 3 := w64_ok (by omega) (by omega)
  have := lp_det (S := impl_Hand_s129610) (fun i' => ([l0, l1, l2], W, q, n, [a0, a1, a2], (tA, tF, tL), out, i, (if i' = 0 then [0, 0, 0] else if i' = 1 then [szf l0 a0, 0, 0] else if i' = 2 then [szf l0 a0, szf l1 a1, 0] else [szf l0 a0, szf l1 a1, szf l2 a2]), [l0, l1, l2], 3, (i' : Int))) (n := 3)
    (b := ([l0, l1, l2], W, q, n, [a0, a1, a2], (tA, tF, tL), out, i, [szf l0 a0, szf l1 a1, szf l2 a2])) (by omega) (fun i' hi => by
      match i', hi with
      | 0, _ =>
        by_cases h : a0 < (l0.length : Int)
        · have : ∀ {R : Type} (k : Option R), ix a0 l0.length k = k := fun k => ix_ok (by omega) (by omega) k
          simp [impl_Hand_s129610, i0, x0, gx, sx, e1, h, this, szf, -Int.reduceAdd, -Int.zero_add]
        · simp [impl_Hand_s129610, i0, x0, gx, sx, e1, h, szf, -Int.reduceAdd, -Int.zero_add]
      | 1, _ =>
        by_cases h : a1 < (l1.length : Int)
        · have : ∀ {R : Type} (k : Option R), ix a1 l1.length k = k := fun k => ix_ok (by omega) (by omega) k
          simp [impl_Hand_s129610, i1, x1, gx, sx, e2, h, this, szf, -Int.reduceAdd]
        · simp [impl_Hand_s129610, i1, x1, gx, sx, e2, h, szf, -Int.reduceAdd]
      | 2, _ =>
        by_cases h : a2 < (l2.length : Int)
        · have : ∀ {R : Type} (k : Option R), ix a2 l2.length k = k := fun k => ix_ok (by omega) (by omega) k
          simp [impl_Hand_s129610, i2, x2, gx, sx, e3, h, this, szf, -Int.reduceAdd]
        · simp [impl_Hand_s129610, i2, x2, gx, sx, e3, h, szf, -Int.reduceAdd]) (by simp [impl_Hand_s129610])
  exact this

theorem szf_pos {l : List Int} {a : Int} (hl : listOk l = true) (ha : 0 ≤ a) : szf l a ≠ 0 ↔ a < (l.length : Int) := by
  unfold szf
  constructor
  · intro h
    by_cases g : a < (l.length : Int)
    · exact g
    · rw [if_neg g] at h; exact absurd rfl h
  · intro h
    rw [if_pos h]
    have hm : l.getD a.toNat 0 ∈ l := getD_mem (by omega)
    unfold listOk at hl
    simp only [Bool.and_eq_true, List.all_eq_true, inR_iff] at hl
    have := hl.2 _ hm
    omega

/-- What the first ones come to. -/
def sm (l : List Int) (a : Int) : Int := (l.take a.toNat).sum

theorem sm_succ {l : List Int} {a : Int} (ha : 0 ≤ a) (hl : a < (l.length : Int)) : sm l (a + 1) = sm l a + szf l a := by
  unfold sm szf
  rw [if_pos hl, show (a + 1).toNat = a.toNat + 1 by omega, List.take_add_one, List.sum_append]
  have : l[a.toNat]? = some (l.getD a.toNat 0) := by
    rw [List.getD_eq_getElem?_getD]
    cases h : l[a.toNat]? with
    | none => rw [List.getElem?_eq_none_iff] at h; omega
    | some y => rfl
  rw [this]
  simp

theorem AI.mono {q w s s' i a l S Q : Int} {fr : Bool} (h : AI q w s i a fr l S Q) (hs : s' ≠ 0 → s ≠ 0) : AI q w s' i a fr l S Q := fun g => h (hs g)

def cnt (o : List Int) (i : Int) : Int := ((o.filter (fun x => x == i)).length : Nat)

theorem cnt_nil (i : Int) : cnt [] i = 0 := rfl
theorem cnt_snoc (o : List Int) (w i : Int) : cnt (o ++ [w]) i = cnt o i + (if w = i then 1 else 0) := by
  unfold cnt
  rw [List.filter_append, List.length_append]
  by_cases h : w = i
  · simp [h]
  · simp [h, beq_eq_false_iff_ne.2 h]

abbrev HS : Type := (Int × Int × Int) × (Int × Bool × List Int) × List Int

def stepM (l0 l1 l2 W : List Int) (q : Int) (s : HS) : Option HS :=
  match impl_Pick ([szf l0 s.1.1, szf l1 s.1.2.1, szf l2 s.1.2.2], W, q, s.2.1) with
  | some (w, t) => if w < 0 then none else some ((s.1.1 + (if w = 0 then 1 else 0), s.1.2.1 + (if w = 1 then 1 else 0), s.1.2.2 + (if w = 2 then 1 else 0)), t, s.2.2 ++ [w])
  | none => none

def runM (l0 l1 l2 W : List Int) (q : Int) : Nat → Option HS
  | 0 => some ((0, 0, 0), (0, true, [0, 0, 0]), [])
  | k + 1 => (runM l0 l1 l2 W q k).bind (stepM l0 l1 l2 W q)

/-- How it stands when so many have handed over. -/
structure HI (l0 l1 l2 : List Int) (q w0 w1 w2 : Int) (k : Nat) (a0 a1 a2 tA : Int) (tF : Bool) (x y z : Int) (o : List Int) : Prop where
  len : o.length = k
  c0 : cnt o 0 = a0
  c1 : cnt o 1 = a1
  c2 : cnt o 2 = a2
  sum : (k : Int) = a0 + a1 + a2
  b0 : 0 ≤ a0 ∧ a0 ≤ (l0.length : Int)
  b1 : 0 ≤ a1 ∧ a1 ≤ (l1.length : Int)
  b2 : 0 ≤ a2 ∧ a2 ≤ (l2.length : Int)
  hA : tA = 0 ∨ tA = 1 ∨ tA = 2
  hx : 0 ≤ x ∧ x ≤ 1000
  hy : 0 ≤ y ∧ y ≤ 1000
  hz : 0 ≤ z ∧ z ≤ 1000
  pi : PI q w0 w1 w2 (szf l0 a0) (szf l1 a1) (szf l2 a2) tA tF x y z (sm l0 a0) (sm l1 a1) (sm l2 a2)

structure VL (l0 l1 l2 : List Int) (q w0 w1 w2 : Int) : Prop where
  l0 : listOk l0 = true
  l1 : listOk l1 = true
  l2 : listOk l2 = true
  w : (([w0, w1, w2] : List Int).all (fun x => inR x 1 4) && ((([w0, w1, w2] : List Int).length : Int) == 3)) = true
  q : 1 ≤ q ∧ q ≤ 60

theorem len40 {l : List Int} (h : listOk l = true) : l.length ≤ 40 := by
  unfold listOk at h
  simp only [Bool.and_eq_true, Bool.not_eq_true', decide_eq_false_iff_not] at h
  omega

theorem HI.zero {l0 l1 l2 : List Int} {q w0 w1 w2 : Int} : HI l0 l1 l2 q w0 w1 w2 0 0 0 0 0 true 0 0 0 [] where
  len := rfl
  c0 := rfl
  c1 := rfl
  c2 := rfl
  sum := rfl
  b0 := by omega
  b1 := by omega
  b2 := by omega
  hA := .inl rfl
  hx := by omega
  hy := by omega
  hz := by omega
  pi := ⟨0, fun _ => by simp [sm], fun _ => by simp [sm], fun _ => by simp [sm]⟩

theorem pick_at {l0 l1 l2 : List Int} {q w0 w1 w2 : Int} (V : VL l0 l1 l2 q w0 w1 w2) {k : Nat} {a0 a1 a2 tA : Int} {tF : Bool} {x y z : Int} {o : List Int} (h : HI l0 l1 l2 q w0 w1 w2 k a0 a1 a2 tA tF x y z o) :
    ∃ r, spec_Pick ([szf l0 a0, szf l1 a1, szf l2 a2], [w0, w1, w2], q, tA, tF, [x, y, z]) = some r ∧ impl_Pick ([szf l0 a0, szf l1 a1, szf l2 a2], [w0, w1, w2], q, tA, tF, [x, y, z]) = some r ∧ Picked q w0 w1 w2 (szf l0 a0) (szf l1 a1) (szf l2 a2) tA tF x y z r :=
  pick_ok V.q V.w (szf_ok V.l0 h.b0.1) (szf_ok V.l1 h.b1.1) (szf_ok V.l2 h.b2.1) h.hA h.hx h.hy h.hz

theorem HI.step {l0 l1 l2 : List Int} {q w0 w1 w2 : Int} (V : VL l0 l1 l2 q w0 w1 w2) {k : Nat} {a0 a1 a2 tA : Int} {tF : Bool} {x y z : Int} {o : List Int} (h : HI l0 l1 l2 q w0 w1 w2 k a0 a1 a2 tA tF x y z o)
    {w x' y' z' : Int} (hw : w = 0 ∨ w = 1 ∨ w = 2) (hsel : sel w (szf l0 a0) (szf l1 a1) (szf l2 a2) ≠ 0) (hx : 0 ≤ x' ∧ x' ≤ 1000) (hy : 0 ≤ y' ∧ y' ≤ 1000) (hz : 0 ≤ z' ∧ z' ≤ 1000)
    (hp : ∀ S0 S1 S2, PI q w0 w1 w2 (szf l0 a0) (szf l1 a1) (szf l2 a2) tA tF x y z S0 S1 S2 → PI q w0 w1 w2 (szf l0 a0) (szf l1 a1) (szf l2 a2) w false x' y' z' (S0 + if w = 0 then szf l0 a0 else 0) (S1 + if w = 1 then szf l1 a1 else 0) (S2 + if w = 2 then szf l2 a2 else 0)) :
    HI l0 l1 l2 q w0 w1 w2 (k + 1) (a0 + (if w = 0 then 1 else 0)) (a1 + (if w = 1 then 1 else 0)) (a2 + (if w = 2 then 1 else 0)) w false x' y' z' (o ++ [w]) := by
  have hpi := hp _ _ _ h.pi
  have hc : ∀ i, cnt (o ++ [w]) i = cnt o i + (if w = i then 1 else 0) := fun i => cnt_snoc o w i
  have less : ∀ {l : List Int} {a : Int}, listOk l = true → 0 ≤ a → szf l (a + 1) ≠ 0 → szf l a ≠ 0 := by
    intro l a hl ha hs
    rw [szf_pos hl (by omega)] at hs
    rw [szf_pos hl ha]
    omega
  have h0 := h.b0
  have h1 := h.b1
  have h2 := h.b2
  rcases hw with rfl | rfl | rfl
  · have g : a0 < (l0.length : Int) := (szf_pos V.l0 h.b0.1).1 (by simpa [sel] using hsel)
    obtain ⟨Q, p0, p1, p2⟩ := hpi
    simp only [if_pos, if_true, show ¬ ((0 : Int) = 1) by omega, show ¬ ((0 : Int) = 2) by omega, if_false, Int.add_zero] at p0 p1 p2 ⊢
    refine ⟨by simp [h.len], by rw [hc]; simp [h.c0], by rw [hc]; simp [h.c1], by rw [hc]; simp [h.c2], by have := h.sum; omega, by omega, h1, h2, .inl rfl, hx, hy, hz, Q, ?_, p1, p2⟩
    rw [sm_succ h.b0.1 g]
    exact p0.mono (less V.l0 h.b0.1)
  · have g : a1 < (l1.length : Int) := (szf_pos V.l1 h.b1.1).1 (by simpa [sel] using hsel)
    obtain ⟨Q, p0, p1, p2⟩ := hpi
    simp only [if_true, show ¬ ((1 : Int) = 0) by omega, show ¬ ((1 : Int) = 2) by omega, if_false, Int.add_zero] at p0 p1 p2 ⊢
    refine ⟨by simp [h.len], by rw [hc]; simp [h.c0], by rw [hc]; simp [h.c1], by rw [hc]; simp [h.c2], by have := h.sum; omega, h0, by omega, h2, .inr (.inl rfl), hx, hy, hz, Q, p0, ?_, p2⟩
    rw [sm_succ h.b1.1 g]
    exact p1.mono (less V.l1 h.b1.1)
  · have g : a2 < (l2.length : Int) := (szf_pos V.l2 h.b2.1).1 (by simpa [sel] using hsel)
    obtain ⟨Q, p0, p1, p2⟩ := hpi
    simp only [if_true, show ¬ ((2 : Int) = 0) by omega, show ¬ ((2 : Int) = 1) by omega, if_false, Int.add_zero] at p0 p1 p2 ⊢
    refine ⟨by simp [h.len], by rw [hc]; simp [h.c0], by rw [hc]; simp [h.c1], by rw [hc]; simp [h.c2], by have := h.sum; omega, h0, h1, by omega, .inr (.inr rfl), hx, hy, hz, Q, p0, p1, ?_⟩
    rw [sm_succ h.b2.1 g]
    exact p2.mono (less V.l2 h.b2.1)

/-- Where a state stands that was run to. -/
theorem run_inv {l0 l1 l2 : List Int} {q w0 w1 w2 : Int} (V : VL l0 l1 l2 q w0 w1 w2) : ∀ (k : Nat) (s : HS), runM l0 l1 l2 [w0, w1, w2] q k = some s → ∃ a0 a1 a2 tA tF x y z o, s = ((a0, a1, a2), (tA, tF, [x, y, z]), o) ∧ HI l0 l1 l2 q w0 w1 w2 k a0 a1 a2 tA tF x y z o
  | 0, s, h => by
    simp only [runM, Option.some.injEq] at h
    exact ⟨_, _, _, _, _, _, _, _, _, h.symm, HI.zero⟩
  | k + 1, s, h => by
    simp only [runM] at h
    cases hk : runM l0 l1 l2 [w0, w1, w2] q k with
    | none => rw [hk] at h; simp at h
    | some s1 =>
      rw [hk, Option.bind_some] at h
      obtain ⟨a0, a1, a2, tA, tF, x, y, z, o, rfl, hi⟩ := run_inv V k s1 hk
      obtain ⟨r, _, e2, e3⟩ := pick_at V hi
      simp only [stepM, e2] at h
      rcases e3 with ⟨rfl, _⟩ | ⟨w, x', y', z', rfl, hw, hsel, hx, hy, hz, hp⟩
      · simp at h
      · have : ¬ w < 0 := by omega
        simp only [if_neg this, Option.some.injEq] at h
        exact ⟨_, _, _, _, _, _, _, _, _, h.symm, hi.step V hw hsel hx hy hz hp⟩

/-- Nobody can hand over any more. -/
theorem stuck_all {l0 l1 l2 : List Int} {q w0 w1 w2 : Int} (V : VL l0 l1 l2 q w0 w1 w2) {k : Nat} {a0 a1 a2 tA : Int} {tF : Bool} {x y z : Int} {o : List Int} (h : HI l0 l1 l2 q w0 w1 w2 k a0 a1 a2 tA tF x y z o)
    (hs : stepM l0 l1 l2 [w0, w1, w2] q ((a0, a1, a2), (tA, tF, [x, y, z]), o) = none) : a0 = (l0.length : Int) ∧ a1 = (l1.length : Int) ∧ a2 = (l2.length : Int) := by
  obtain ⟨r, _, e2, e3⟩ := pick_at V h
  simp only [stepM, e2] at hs
  rcases e3 with ⟨rfl, z0, z1, z2⟩ | ⟨w, x', y', z', rfl, hw, hsel, hx, hy, hz, hp⟩
  · have g0 : ¬ a0 < (l0.length : Int) := fun g => (szf_pos V.l0 h.b0.1).2 g z0
    have g1 : ¬ a1 < (l1.length : Int) := fun g => (szf_pos V.l1 h.b1.1).2 g z1
    have g2 : ¬ a2 < (l2.length : Int) := fun g => (szf_pos V.l2 h.b2.1).2 g z2
    have := h.b0
    have := h.b1
    have := h.b2
    omega
  · have : ¬ w < 0 := by omega
    simp [if_neg this] at hs

theorem run_mono {l0 l1 l2 W : List Int} {q : Int} {k m : Nat} {s s' : HS} (hk : runM l0 l1 l2 W q k = some s) (hm : runM l0 l1 l2 W q m = some s') (hle : k ≤ m) : ∃ r, s'.2.2 = s.2.2 ++ r := by
  induction m generalizing s' with
  | zero =>
    obtain rfl : k = 0 := by omega
    rw [hk] at hm
    simp only [Option.some.injEq] at hm
    exact ⟨[], by simp [hm]⟩
  | succ m ih =>
    by_cases e : k = m + 1
    · subst e
      rw [hk] at hm
      simp only [Option.some.injEq] at hm
      exact ⟨[], by simp [hm]⟩
    · simp only [runM] at hm
      cases h1 : runM l0 l1 l2 W q m with
      | none => rw [h1] at hm; simp at hm
      | some s1 =>
        rw [h1, Option.bind_some] at hm
        obtain ⟨r, hr⟩ := ih h1 (by omega)
        simp only [stepM] at hm
        split at hm
        · split at hm
          · simp at hm
          · simp only [Option.some.injEq] at hm
            rw [← hm]
            exact ⟨r ++ [_], by simp only [hr]; rw [List.append_assoc]⟩
        · simp at hm

/-- Every earlier state was run to. -/
theorem run_before {l0 l1 l2 W : List Int} {q : Int} {m : Nat} {s' : HS} (hm : runM l0 l1 l2 W q m = some s') : ∀ k, k ≤ m → ∃ s, runM l0 l1 l2 W q k = some s := by
  induction m generalizing s' with
  | zero => intro k hk; obtain rfl : k = 0 := by omega
            exact ⟨_, hm⟩
  | succ m ih =>
    intro k hk
    by_cases e : k = m + 1
    · subst e; exact ⟨_, hm⟩
    · simp only [runM] at hm
      cases h1 : runM l0 l1 l2 W q m with
      | none => rw [h1] at hm; simp at hm
      | some s1 => exact ih h1 k (by omega)

def limN (n : Int) : Nat := (min (max n 0) 200).toNat

theorem hand_loop {l0 l1 l2 : List Int} {q n w0 w1 w2 : Int} (V : VL l0 l1 l2 q w0 w1 w2) :
    ∃ b c, lp spec_Hand_s506 ([l0, l1, l2], [w0, w1, w2], q, n, [], [0, 0, 0], (0, true, [0, 0, 0]), 0) = some b ∧ lp impl_Hand_s506 ([l0, l1, l2], [w0, w1, w2], q, n, [0, 0, 0], (0, true, [0, 0, 0]), [], 0) = some c ∧ (b = .inl c ∨ b = .inr c) ∧
      ∃ k s, runM l0 l1 l2 [w0, w1, w2] q k = some s ∧ s.2.2 = c ∧ k ≤ limN n ∧ (k = limN n ∨ stepM l0 l1 l2 [w0, w1, w2] q s = none) := by
  have j0 := len40 V.l0
  have j1 := len40 V.l1
  have j2 := len40 V.l2
  refine lp_pair (S := spec_Hand_s506) (T := impl_Hand_s506)
    (R := fun s t => ∃ (a0 a1 a2 tA x y z : Int) (tF : Bool) (out : List Int) (i : Nat), s = ([l0, l1, l2], [w0, w1, w2], q, n, out, [a0, a1, a2], (tA, tF, [x, y, z]), (i : Int)) ∧ t = ([l0, l1, l2], [w0, w1, w2], q, n, [a0, a1, a2], (tA, tF, [x, y, z]), out, (i : Int)) ∧
      runM l0 l1 l2 [w0, w1, w2] q i = some ((a0, a1, a2), (tA, tF, [x, y, z]), out) ∧ i ≤ limN n)
    (μ := fun s => 201 - s.2.2.2.2.2.2.2.toNat) (E := fun b c => (b = .inl c ∨ b = .inr c) ∧ ∃ k s, runM l0 l1 l2 [w0, w1, w2] q k = some s ∧ s.2.2 = c ∧ k ≤ limN n ∧ (k = limN n ∨ stepM l0 l1 l2 [w0, w1, w2] q s = none)) ?_ ⟨0, 0, 0, 0, 0, 0, 0, true, [], 0, rfl, rfl, rfl, by omega⟩ (by dsimp only; omega)
  rintro s t ⟨a0, a1, a2, tA, x, y, z, tF, out, i, rfl, rfl, hrun, hi⟩
  obtain ⟨a0', a1', a2', tA', tF', x0', y0', z0', o', heq, H⟩ := run_inv V i _ hrun
  simp only [Prod.mk.injEq, List.cons.injEq, and_true] at heq
  obtain ⟨⟨rfl, rfl, rfl⟩, ⟨rfl, rfl, rfl, rfl, rfl⟩, rfl⟩ := heq
  have ein := spec_in (l0 := l0) (l1 := l1) (l2 := l2) (a0 := a0) (a1 := a1) (a2 := a2) [w0, w1, w2] q n out tA tF [x, y, z] (i : Int) ⟨H.b0.1, H.b1.1, H.b2.1⟩ (i : Int) true
  have ein' := impl_in (l0 := l0) (l1 := l1) (l2 := l2) (a0 := a0) (a1 := a1) (a2 := a2) [w0, w1, w2] q n out tA tF [x, y, z] (i : Int) ⟨H.b0.1, H.b1.1, H.b2.1⟩
  obtain ⟨r, p1, p2, p3⟩ := pick_at V H
  have hln : ln [l0, l1, l2] = 3 := rfl
  have hlimI : ((limN n : Nat) : Int) = min (max n 0) 200 := by unfold limN; omega
  have ho := H.len
  have h200 : limN n ≤ 200 := by unfold limN; omega
  by_cases hin : (i : Int) < n ∧ (i : Int) < 200
  · have hlim : decide ((i : Int) < min (max n 0) 200) = true := dT (by omega)
    have hd1 : decide ((i : Int) < n) = true := dT hin.1
    have hd2 : decide ((i : Int) < 200) = true := dT hin.2
    simp only [spec_Hand_s506, impl_Hand_s506, hd1, hd2, cond_true, limited_eq, Option.bind_some, hlim, List.replicate, ein, hln, ein', p1, p2]
    rcases p3 with ⟨rfl, hz⟩ | ⟨w, x', y', z', rfl, hw, hsel, hx', hy', hz', hp⟩
    · right
      refine ⟨_, _, rfl, rfl, .inl rfl, i, _, hrun, rfl, hi, .inr ?_⟩
      simp [stepM, p2]
    · left
      have hneg : decide (w < 0) = false := dF (by omega)
      have hf : fits (out.length + [w].length) 8 = true := fits_ok (by simp; omega) (by simp; omega)
      have wi : w64 ((i : Int) + 1) = ((i + 1 : Nat) : Int) := wsucc (by omega)
      have hb0 := H.b0
      have hb1 := H.b1
      have hb2 := H.b2
      have wa0 : w64 (a0 + 1) = a0 + 1 := w64_ok (by omega) (by omega)
      have wa1 : w64 (a1 + 1) = a1 + 1 := w64_ok (by omega) (by omega)
      have wa2 : w64 (a2 + 1) = a2 + 1 := w64_ok (by omega) (by omega)
      have ixw : ∀ {R : Type} (k : Option R), ix w [a0, a1, a2].length k = k := fun k => ix_ok (by omega) (by simp; omega) k
      have lxw : ∀ {R : Type} (k : Option R), lx w [a0, a1, a2].length k = k := fun k => lx_ok (by simp; omega) k
      have hnext : runM l0 l1 l2 [w0, w1, w2] q (i + 1) = some ((a0 + (if w = 0 then 1 else 0), a1 + (if w = 1 then 1 else 0), a2 + (if w = 2 then 1 else 0)), (w, false, [x', y', z']), out ++ [w]) := by
        simp only [runM, hrun, Option.bind_some, stepM, p2]
        rw [if_neg (by omega)]
      simp only [hneg, cond_false, ixw, lxw, hf, chk, cond_true, wi]
      rcases hw with rfl | rfl | rfl
      · refine ⟨_, _, rfl, rfl, ⟨a0 + 1, a1, a2, 0, x', y', z', false, out ++ [0], i + 1, ?_, ?_, by simpa using hnext, by omega⟩, by dsimp only; omega⟩
        · simp [gx, sx, wa0]
        · simp [gx, sx, wa0]
      · refine ⟨_, _, rfl, rfl, ⟨a0, a1 + 1, a2, 1, x', y', z', false, out ++ [1], i + 1, ?_, ?_, by simpa using hnext, by omega⟩, by dsimp only; omega⟩
        · simp [gx, sx, wa1]
        · simp [gx, sx, wa1]
      · refine ⟨_, _, rfl, rfl, ⟨a0, a1, a2 + 1, 2, x', y', z', false, out ++ [2], i + 1, ?_, ?_, by simpa using hnext, by omega⟩, by dsimp only; omega⟩
        · simp [gx, sx, wa2]
        · simp [gx, sx, wa2]
  · right
    have hlim : decide ((i : Int) < min (max n 0) 200) = false := dF (by omega)
    refine ⟨.inr out, out, ?_, ?_, .inr rfl, i, _, hrun, rfl, hi, .inl (by omega)⟩
    · simp only [spec_Hand_s506]
      by_cases hd : (i : Int) < n
      · have hd2 : decide ((i : Int) < 200) = false := dF (by omega)
        simp only [dT hd, hd2, cond_true, cond_false]
      · simp only [dF hd, cond_false]
    · simp only [impl_Hand_s506, limited_eq, Option.bind_some, hlim, cond_false]

/-- Are the loads, the weights and the quantum right? -/
def hOk (ls : List (List Int)) (W : List Int) (q : Int) : Bool := loadsOk ls && (W.all (fun x => inR x 1 4) && ((W.length : Int) == 3)) && inR q 1 60

theorem hOk_get {ls : List (List Int)} {W : List Int} {q : Int} (h : hOk ls W q = true) : ∃ l0 l1 l2 w0 w1 w2, ls = [l0, l1, l2] ∧ W = [w0, w1, w2] ∧ VL l0 l1 l2 q w0 w1 w2 := by
  simp only [hOk, Bool.and_eq_true (loadsOk ls && _), Bool.and_eq_true (loadsOk ls)] at h
  obtain ⟨⟨hk, hW⟩, hq⟩ := h
  obtain ⟨w0, w1, w2, rfl, _⟩ := three_of hW
  unfold loadsOk at hk
  simp only [Bool.and_eq_true, beq_iff_eq, List.all_eq_true] at hk
  obtain ⟨l0, l1, l2, rfl⟩ : ∃ a b c, ls = [a, b, c] := by
    match ls, (show ls.length = 3 by omega) with
    | [a, b, c], _ => exact ⟨a, b, c, rfl⟩
  exact ⟨l0, l1, l2, w0, w1, w2, rfl, rfl, hk.2 l0 (by simp), hk.2 l1 (by simp), hk.2 l2 (by simp), hW, inR_iff.1 hq⟩

theorem hand_bad {ls : List (List Int)} {W : List Int} (q n : Int) (h : SmIntSS ls) (hl : W.length ≤ 1048576) (hb : hOk ls W q = false) : spec_Hand (ls, W, q, n) = some [] ∧ impl_Hand (ls, W, q, n) = some [] := by
  unfold hOk at hb
  simp only [spec_Hand, impl_Hand, specLoadsOk_eq h, implLoadsOk_eq h, Option.bind_some, spec_l21Weights, nums_eq hl, allWithin_eq hl, l1In_eq, within_eq]
  cases hk : loadsOk ls with
  | false => exact ⟨rfl, rfl⟩
  | true =>
    rw [hk, Bool.true_and] at hb
    simp only [Bool.not_true, cond_false]
    cases hW : (W.all (fun x => inR x 1 4) && ((W.length : Int) == 3)) with
    | false => exact ⟨rfl, rfl⟩
    | true =>
      rw [hW, Bool.true_and] at hb
      simp only [Bool.not_true, cond_false, cond_true, Option.bind_some, hb]
      exact ⟨rfl, rfl⟩

theorem hand_good {l0 l1 l2 : List Int} {q w0 w1 w2 : Int} (n : Int) (V : VL l0 l1 l2 q w0 w1 w2) (h : SmIntSS [l0, l1, l2]) :
    ∃ k s, spec_Hand ([l0, l1, l2], [w0, w1, w2], q, n) = some s.2.2 ∧ impl_Hand ([l0, l1, l2], [w0, w1, w2], q, n) = some s.2.2 ∧ runM l0 l1 l2 [w0, w1, w2] q k = some s ∧ k ≤ limN n ∧ (k = limN n ∨ stepM l0 l1 l2 [w0, w1, w2] q s = none) := by
  obtain ⟨b, c, e1, e2, e3, k, s, r1, rfl, r2, r3⟩ := hand_loop (n := n) V
  have hl : loadsOk [l0, l1, l2] = true := by simp [loadsOk, V.l0, V.l1, V.l2]
  have hq : inR q 1 60 = true := inR_iff.2 V.q
  have hW3 : ([w0, w1, w2] : List Int).length ≤ 1048576 := by simp
  refine ⟨k, s, ?_, ?_, r1, r2, r3⟩
  · simp only [spec_Hand, specLoadsOk_eq h, Option.bind_some, spec_l21Weights, nums_eq hW3, l1In_eq, hl, V.w, hq, Bool.not_true, cond_false, cond_true, spec_TurnNew, List.replicate, e1]
    rcases e3 with rfl | rfl <;> rfl
  · simp only [impl_Hand, implLoadsOk_eq h, Option.bind_some, allWithin_eq hW3, within_eq, hl, V.w, hq, Bool.not_true, cond_false, cond_true, impl_TurnNew, List.replicate, e2]

end Go.Proofs.Ytllbngjomgabjaa.Tw
