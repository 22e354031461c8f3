/- Plain: rows that are right: both programs tell the same. No condition: lemmas. -/
import Derived.Test.YthchcnfkgjmabaaGreatSm
import Derived.Test.YthchcnfkgjmabaaGreatHm
namespace Go.Proofs.YthchcnfkgjmabaaGreat.Tw
open Go.Mach
set_option linter.unusedVariables false
set_option linter.unusedSimpArgs false
set_option maxRecDepth 20000

/-! ### sets apart -/
def ovl (x y : SpT) : Bool := decide (x.1 ≤ y.2) && decide (y.1 ≤ x.2)
def apS (a b : List SpT) : Bool := setOk a && (setOk b && a.all fun x => b.all fun y => !ovl x y)

theorem specApart_eq {a b : List SpT} (ha : a.length ≤ 1048576) (hb : b.length ≤ 1048576) : spec_SetApart (a, b) = some (apS a b) := by
  have inner : ∀ i, i < a.length → lp spec_SetApart_s3730 (a, b, (i : Int), 0) = some (bif b.all (fun y => !ovl (a.getD i (0, 0)) y) then .inr (a, b, (i : Int)) else .inl false) := by
    intro i hi
    have q := lp_all (S := spec_SetApart_s3730) (t := .inr (a, b, (i : Int))) (e := .inl false) b (0, 0) (fun k => (a, b, (i : Int), (k : Int))) hb (fun y => !ovl (a.getD i (0, 0)) y) (fun k hk hm => by
      simp only [spec_SetApart_s3730, lnn, ltn hk, cond_true, ixn hi, ixn hk, gxn, wsucc (show k ≤ 1048576 by omega), Option.bind_some, ovl]
      cases decide ((a.getD i (0, 0)).1 ≤ (b.getD k (0, 0)).2) <;> cases decide ((b.getD k (0, 0)).1 ≤ (a.getD i (0, 0)).2) <;> rfl) (by simp only [spec_SetApart_s3730, lnn, ltF, cond_false])
    rw [cast0] at q
    exact q
  have q := lp_all (S := spec_SetApart_s58) (t := .inr ()) (e := .inl false) a (0, 0) (fun i => (a, b, (i : Int))) ha (fun x => b.all fun y => !ovl x y) (fun i hi hm => by
    simp only [spec_SetApart_s58, lnn, ltn hi, cond_true, inner i hi]
    cases b.all (fun y => !ovl (a.getD i (0, 0)) y)
    · rfl
    · simp only [cond_true, bx_inr, wsucc (show i ≤ 1048576 by omega)]) (by simp only [spec_SetApart_s58, lnn, ltF, cond_false])
  rw [cast0] at q
  unfold apS
  simp only [spec_SetApart, specSetOk_eq ha, specSetOk_eq hb, Option.bind_some, q]
  cases setOk a <;> cases setOk b <;> try rfl
  cases (a.all fun x => b.all fun y => !ovl x y) <;> rfl

theorem implApart_eq {a b : List SpT} (ha : a.length ≤ 1048576) (hb : b.length ≤ 1048576) : impl_SetApart (a, b) = some (apS a b) := by
  have inner : ∀ (i : Nat) (x : SpT), lp impl_SetApart_s14950 (b, x, a, (a.length : Int), (i : Int), b, (b.length : Int), 0) = some (bif b.all (fun y => !ovl x y) then .inr (b, a, (a.length : Int), (i : Int)) else .inl false) := by
    intro i x
    have q := lp_all (S := impl_SetApart_s14950) (t := .inr (b, a, (a.length : Int), (i : Int))) (e := .inl false) b (0, 0) (fun k => (b, x, a, (a.length : Int), (i : Int), b, (b.length : Int), (k : Int))) hb (fun y => !ovl x y) (fun k hk hm => by
      obtain ⟨x1, x2⟩ := x
      simp only [impl_SetApart_s14950, ltn hk, cond_true, ixn hk, gxn, wsucc (show k ≤ 1048576 by omega), Option.bind_some, ovl]
      cases decide (x1 ≤ (b.getD k (0, 0)).2) <;> cases decide ((b.getD k (0, 0)).1 ≤ x2) <;> rfl) (by simp only [impl_SetApart_s14950, ltF, cond_false])
    rw [cast0] at q
    exact q
  have q := lp_all (S := impl_SetApart_s58) (t := .inr ()) (e := .inl false) a (0, 0) (fun i => (b, a, (a.length : Int), (i : Int))) ha (fun x => b.all fun y => !ovl x y) (fun i hi hm => by
    simp only [impl_SetApart_s58, lnn, ltn hi, cond_true, ixn hi, gxn, Option.bind_some, inner i]
    cases b.all (fun y => !ovl (a.getD i (0, 0)) y)
    · rfl
    · simp only [cond_true, bx_inr, wsucc (show i ≤ 1048576 by omega)]) (by simp only [impl_SetApart_s58, ltF, cond_false])
  rw [cast0] at q
  unfold apS
  simp only [impl_SetApart, implSetOk_eq ha, implSetOk_eq hb, Option.bind_some, lnn, q]
  cases setOk a <;> cases setOk b <;> try rfl
  cases (a.all fun x => b.all fun y => !ovl x y) <;> rfl

/-- Apart: no number is in both. -/
theorem ap_iff {a b : List SpT} (ha : setOk a = true) (hb : setOk b = true) : apS a b = true ↔ ∀ n, hasN a n → ¬ hasN b n := by
  have ca := (setOk_iff.1 ha).1.mem
  have cb := (setOk_iff.1 hb).1.mem
  unfold apS
  rw [ha, hb]
  simp only [Bool.true_and, List.all_eq_true, ovl, Bool.not_eq_true', Bool.and_eq_false_imp, decide_eq_true_eq, decide_eq_false_iff_not]
  constructor
  · rintro h n ⟨x, hx, x1, x2⟩ ⟨y, hy, y1, y2⟩
    exact h x hx y hy (by omega) (by omega)
  · intro h x hx y hy h1 h2
    have := ca x hx
    have := cb y hy
    by_cases hc : x.1 ≤ y.1
    · exact h y.1 ⟨x, hx, hc, h2⟩ ⟨y, hy, by omega, by omega⟩
    · exact h x.1 ⟨x, hx, by omega, by omega⟩ ⟨y, hy, by omega, h1⟩

/-! ### rows -/
def rowAt (l : List EnT) (i : Nat) : Bool := enOk (l.getD i en0) && (List.range i).all fun k => apS (l.getD i en0).2.2.1 (l.getD k en0).2.2.1
def apart (l : List EnT) : Bool := (List.range l.length).all (rowAt l)
def rowOk (l : List EnT) : Bool := decide (l.length ≤ 24) && apart l

theorem specRowOk_eq {l : List EnT} (h : EnsLe 1048576 l) : spec_RowOk l = some (rowOk l) := by
  have inner : ∀ i, i < l.length → lp spec_RowOk_s7462 (l, (i : Int), 0) = some (bif (List.range i).all (fun k => apS (l.getD i en0).2.2.1 (l.getD k en0).2.2.1) then .inr (l, (i : Int)) else .inl false) := by
    intro i hi
    have hx := (h.2 _ (getD_mem (d := en0) hi)).1
    have q := lp_idx (S := spec_RowOk_s7462) (t := .inr (l, (i : Int))) (e := .inl false) (fun k => (l, (i : Int), (k : Int))) (n := i) (by have := h.1; omega) (fun k => apS (l.getD i en0).2.2.1 (l.getD k en0).2.2.1) (fun k hk => by
      have hy := (h.2 _ (getD_mem (d := en0) (show k < l.length by omega))).1
      have hl := h.1
      simp only [spec_RowOk_s7462, ltn hk, cond_true, ixn hi, ixn (show k < l.length by omega), gxn, Option.bind_some, wsucc (show k ≤ 1048576 by omega)]
      rw [specApart_eq hx hy, Option.bind_some, bnot_cond]
      cases apS (l.getD i en0).2.2.1 (l.getD k en0).2.2.1 <;> rfl) (by simp only [spec_RowOk_s7462, ltF, cond_false])
    rw [cast0] at q
    exact q
  have q := lp_idx (S := spec_RowOk_s58) (t := .inr ()) (e := .inl false) (fun i => (l, (i : Int))) h.1 (rowAt l) (fun i hi => by
    have he := specEntryOk_eq (h.2 _ (getD_mem (d := en0) hi))
    have hl := h.1
    have hin := inner i hi
    unfold rowAt
    simp only [spec_RowOk_s58, lnn, ltn hi, Option.bind_some, cond_true, ixn hi, gxn, bnot_cond, hin]
    generalize (List.range i).all (fun k => apS (l.getD i en0).2.2.1 (l.getD k en0).2.2.1) = r
    generalize hx : l.getD i (0, 0, [], 0, 0, 0, 0, [], [], []) = x
    have hx' : l.getD i en0 = x := hx
    rw [hx'] at he
    obtain ⟨x1, x2, x3, x4, x5, x6, x7, x8, x9, x10⟩ := x
    simp only [he, Option.bind_some]
    cases enOk (x1, x2, x3, x4, x5, x6, x7, x8, x9, x10)
    · rfl
    · cases r
      · rfl
      · simp only [cond_true, bx_inr, wsucc (show i ≤ 1048576 by omega), Bool.true_and]) (by simp only [spec_RowOk_s58, lnn, ltF, Option.bind_some, cond_false])
  rw [cast0] at q
  unfold rowOk apart
  simp only [spec_RowOk, lnn, Option.bind_some, q]
  by_cases hg : l.length ≤ 24
  · rw [dF (show ¬ (l.length : Int) > 24 by omega), dT hg]
    cases (List.range l.length).all (rowAt l) <;> rfl
  · rw [dT (show (l.length : Int) > 24 by omega), dF hg]
    rfl

theorem implAp_eq {l : List EnT} (h : EnsLe 1048576 l) : impl_apart l = some (apart l) := by
  have inner : ∀ i, i < l.length → lp impl_apart_s13518 (l, l.getD i en0, l, (l.length : Int), (i : Int), l.take i, (i : Int), 0) = some (bif (List.range i).all (fun k => apS (l.getD i en0).2.2.1 (l.getD k en0).2.2.1) then .inr (l, l, (l.length : Int), (i : Int)) else .inl false) := by
    intro i hi
    have hx := (h.2 _ (getD_mem (d := en0) hi)).1
    generalize l.getD i en0 = x at hx ⊢
    obtain ⟨x1, x2, x3, x4, x5, x6, x7, x8, x9, x10⟩ := x
    have q := lp_idx (S := impl_apart_s13518) (t := .inr (l, l, (l.length : Int), (i : Int))) (e := .inl false) (fun k => (l, (x1, x2, x3, x4, x5, x6, x7, x8, x9, x10), l, (l.length : Int), (i : Int), l.take i, (i : Int), (k : Int))) (n := i) (by have := h.1; omega) (fun k => apS x3 (l.getD k en0).2.2.1) (fun k hk => by
      have hy := (h.2 _ (getD_mem (d := en0) (show k < l.length by omega))).1
      have hl := h.1
      have hg : (l.take i).getD k en0 = l.getD k en0 := by simp [List.getD_eq_getElem?_getD, List.getElem?_take, hk]
      have hlen : (l.take i).length = i := by simp; omega
      simp only [impl_apart_s13518, ltn hk, cond_true, gxn, Option.bind_some, wsucc (show k ≤ 1048576 by omega)]
      rw [hlen, ixn hk]
      have hg' : (l.take i).getD k (0, 0, [], 0, 0, 0, 0, [], [], []) = l.getD k en0 := hg
      rw [hg']
      rw [implApart_eq hx hy, Option.bind_some, bnot_cond]
      cases apS x3 (l.getD k en0).2.2.1 <;> rfl) (by simp only [impl_apart_s13518, ltF, cond_false])
    rw [cast0] at q
    exact q
  have q := lp_idx (S := impl_apart_s26) (t := .inr ()) (e := .inl false) (fun i => (l, l, (l.length : Int), (i : Int))) h.1 (rowAt l) (fun i hi => by
    have he := implEntryOk_eq (h.2 _ (getD_mem (d := en0) hi))
    have hl := h.1
    have hin := inner i hi
    unfold rowAt
    have hlen : (l.take i).length = i := by simp; omega
    simp only [impl_apart_s26, lnn, ltn hi, Option.bind_some, cond_true, ixn hi, gxn, bnot_cond, Int.toNat_natCast, hlen]
    generalize (List.range i).all (fun k => apS (l.getD i en0).2.2.1 (l.getD k en0).2.2.1) = r at hin ⊢
    generalize hx : l.getD i (0, 0, [], 0, 0, 0, 0, [], [], []) = x
    have hx' : l.getD i en0 = x := hx
    rw [hx'] at he hin
    obtain ⟨x1, x2, x3, x4, x5, x6, x7, x8, x9, x10⟩ := x
    simp only [he, Option.bind_some]
    cases enOk (x1, x2, x3, x4, x5, x6, x7, x8, x9, x10)
    · rfl
    · rw [cond_true, hin, g0_ok (by omega), chkD (by omega)]
      cases r
      · rfl
      · simp only [cond_true, bx_inr, wsucc (show i ≤ 1048576 by omega), Bool.true_and]) (by simp only [impl_apart_s26, ltF, cond_false])
  rw [cast0] at q
  unfold apart
  simp only [impl_apart, lnn, q]
  cases (List.range l.length).all (rowAt l) <;> rfl

theorem implRowOk_eq {l : List EnT} (h : EnsLe 1048576 l) : impl_RowOk l = some (rowOk l) := by
  unfold rowOk
  simp only [impl_RowOk, implAp_eq h, lnn, Option.bind_some]
  by_cases hg : l.length ≤ 24
  · rw [dT (show (l.length : Int) ≤ 24 by omega), dT hg]
    cases apart l <;> rfl
  · rw [dF (show ¬ (l.length : Int) ≤ 24 by omega), dF hg]
    rfl

/-- A row is right. -/
structure RowOk (l : List EnT) : Prop where
  len : l.length ≤ 24
  ens : EnsOk l
  aps : ∀ i k, k < i → i < l.length → ∀ n, hasN (l.getD i en0).2.2.1 n → ¬ hasN (l.getD k en0).2.2.1 n

theorem EnOk.set {e : EnT} (h : EnOk e) : setOk e.2.2.1 = true := setOk_iff.2 ⟨h.ids, h.bnd⟩

theorem apart_iff {l : List EnT} : apart l = true ↔ EnsOk l ∧ ∀ i k, k < i → i < l.length → ∀ n, hasN (l.getD i en0).2.2.1 n → ¬ hasN (l.getD k en0).2.2.1 n := by
  unfold apart rowAt
  simp only [Bool.and_eq_true, List.all_eq_true, List.mem_range]
  constructor
  · intro h2
    have he : EnsOk l := fun e he => by
      obtain ⟨i, hi, rfl⟩ := List.mem_iff_getElem.1 he
      have := (h2 i hi).1
      rw [getD_get hi] at this
      exact enOk_iff.1 this
    refine ⟨he, fun i k hk hi => ?_⟩
    exact (ap_iff (he _ (getD_mem hi)).set (he _ (getD_mem (show k < l.length by omega))).set).1 ((h2 i hi).2 k hk)
  · rintro ⟨h2, h3⟩
    refine fun i hi => ⟨enOk_iff.2 (h2 _ (getD_mem hi)), fun k hk => ?_⟩
    exact (ap_iff (h2 _ (getD_mem hi)).set (h2 _ (getD_mem (show k < l.length by omega))).set).2 (h3 i k hk hi)
theorem rowOk_iff {l : List EnT} : rowOk l = true ↔ RowOk l := by
  unfold rowOk
  rw [Bool.and_eq_true, decide_eq_true_eq, apart_iff]
  exact ⟨fun h => ⟨h.1, h.2.1, h.2.2⟩, fun h => ⟨h.len, h.ens, h.aps⟩⟩

end Go.Proofs.YthchcnfkgjmabaaGreat.Tw
