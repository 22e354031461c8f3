/- Plain: what makes spans, sketches, entries right. No condition: lemmas. -/
import Derived.Test.YthchcnfkgjmabaaGreatHe
import Derived.Test.YthchcnfkgjmabaaGreatSp
namespace Go.Mach
/-- In order, neighbour by neighbour. -/
theorem can_iff : ∀ {l : List Sp2}, Canon l ↔ (∀ i, i < l.length → (l.getD i (0, 0)).1 ≤ (l.getD i (0, 0)).2) ∧ ∀ i, i + 1 < l.length → (l.getD i (0, 0)).2 + 1 < (l.getD (i + 1) (0, 0)).1
  | [] => by simp [Canon]
  | x :: r => by
    have ih := can_iff (l := r)
    constructor
    · rintro ⟨h1, h2, h3⟩
      obtain ⟨g1, g2⟩ := ih.1 h3
      refine ⟨fun i hi => ?_, fun i hi => ?_⟩
      · cases i with
        | zero => exact h1
        | succ i => exact g1 i (by simpa using hi)
      · cases i with
        | zero => exact h2 _ (getD_mem (by simpa using hi))
        | succ i => exact g2 i (by simpa using hi)
    · rintro ⟨h1, h2⟩
      have h3 : Canon r := ih.2 ⟨fun i hi => h1 (i + 1) (by simpa using hi), fun i hi => h2 (i + 1) (by simpa using hi)⟩
      refine ⟨h1 0 (by simp), fun y hy => ?_, h3⟩
      cases r with
      | nil => simp at hy
      | cons z r =>
        have q := h2 0 (by simp)
        have q' : x.2 + 1 < z.1 := q
        have := h3.head_le (n := y.1) ⟨y, hy, Int.le_refl _, h3.mem y hy⟩
        omega
end Go.Mach
namespace Go.Proofs.YthchcnfkgjmabaaGreat.Tw
open Go.Mach
set_option linter.unusedVariables false
set_option linter.unusedSimpArgs false
set_option maxRecDepth 20000

/-! ### bounds -/
def inR (x a b : Int) : Bool := decide (x ≥ a) && decide (x ≤ b)
theorem l1In_eq (x a b : Int) : spec_l1In (x, a, b) = some (inR x a b) := by unfold inR; simp only [spec_l1In]; cases decide (x ≥ a) <;> rfl
theorem within_eq (x a b : Int) : impl_within (x, a, b) = some (inR x a b) := by unfold inR; simp only [impl_within]; cases decide (x ≥ a) <;> rfl
theorem inR_iff {x a b : Int} : inR x a b = true ↔ a ≤ x ∧ x ≤ b := by unfold inR; simp
theorem bne_cond {α β : Type} [DecidableEq α] (u v : α) (x y : β) : (bif u != v then x else y) = if u = v then y else x := by
  by_cases h : u = v
  · rw [if_pos h, h, bne_self_eq_false, cond_false]
  · rw [if_neg h, bne_iff_ne.2 h, cond_true]
theorem beq_cond {α β : Type} [DecidableEq α] (u v : α) (x y : β) : (bif u == v then x else y) = if u = v then x else y := by
  by_cases h : u = v
  · rw [if_pos h, h, beq_self_eq_true, cond_true]
  · rw [if_neg h, beq_eq_false_iff_ne.2 h, cond_false]
theorem wpred {i : Nat} (h : 0 < i) (h' : i ≤ 1048576) : w64 ((i : Int) - 1) = ((i - 1 : Nat) : Int) := by
  rw [w64_ok (by omega) (by omega)]
  omega

/-! ### sets -/
def spanOk (l : List SpT) (i : Nat) : Bool :=
  inR (l.getD i (0, 0)).1 0 9999 && (inR (l.getD i (0, 0)).2 (l.getD i (0, 0)).1 9999 && !(decide (0 < i) && decide ((l.getD i (0, 0)).1 ≤ w64 ((l.getD (i - 1) (0, 0)).2 + 1))))
def setOk (l : List SpT) : Bool := (List.range l.length).all (spanOk l)

theorem setOk_iff {l : List SpT} : setOk l = true ↔ Canon l ∧ ∀ x ∈ l, 0 ≤ x.1 ∧ x.2 ≤ 9999 := by
  unfold setOk
  simp only [List.all_eq_true, List.mem_range, spanOk, Bool.and_eq_true, inR_iff, Bool.not_eq_true', Bool.and_eq_false_imp, decide_eq_true_eq, decide_eq_false_iff_not]
  rw [can_iff]
  constructor
  · intro h
    have hb : ∀ x ∈ l, 0 ≤ x.1 ∧ x.2 ≤ 9999 := by
      intro x hx
      obtain ⟨i, hi⟩ := List.getElem?_of_mem hx
      have hil := (List.getElem?_eq_some_iff.1 hi).1
      have := h i hil
      have e : l.getD i (0, 0) = x := by simp [List.getD_eq_getElem?_getD, hi]
      rw [e] at this
      exact ⟨this.1.1, this.2.1.2⟩
    refine ⟨⟨fun i hi => (h i hi).2.1.1, fun i hi => ?_⟩, hb⟩
    have h1 := (h (i + 1) hi).2.2 (by omega)
    have h2 := hb _ (getD_mem (d := (0, 0)) (show i < l.length by omega))
    have h3 := (h i (by omega)).2.1
    rw [Nat.add_sub_cancel, w64_ok (by omega) (by omega)] at h1
    omega
  · rintro ⟨⟨h1, h2⟩, h3⟩ i hi
    have q := h3 _ (getD_mem (d := (0, 0)) hi)
    have q1 := h1 i hi
    refine ⟨⟨q.1, by omega⟩, ⟨q1, q.2⟩, fun hp => ?_⟩
    have q2 := h3 _ (getD_mem (d := (0, 0)) (show i - 1 < l.length by omega))
    have q3 := h1 (i - 1) (by omega)
    have q4 := h2 (i - 1) (by omega)
    rw [show i - 1 + 1 = i by omega] at q4
    rw [w64_ok (by omega) (by omega)]
    omega

theorem lp_idx {σ β : Type} {S : σ → Option (σ ⊕ β)} (st : Nat → σ) {n : Nat} (hn : n ≤ 1048576) (p : Nat → Bool) {t e : β}
    (h1 : ∀ i, i < n → S (st i) = some (bif p i then .inl (st (i + 1)) else .inr e)) (h2 : S (st n) = some (.inr t)) : lp S (st 0) = some (bif (List.range n).all p then t else e) := by
  have := lp_exit_from st p h1 h2 bigN 0 (Nat.zero_le _) (by simp only [bigN]; omega)
  rw [Nat.sub_zero, ← List.range_eq_range'] at this
  exact this

theorem specSetOk_eq {l : List SpT} (hl : l.length ≤ 1048576) : spec_SetOk l = some (setOk l) := by
  have h := lp_idx (S := spec_SetOk_s26) (t := .inr ()) (e := .inl false) (fun i => (l, (i : Int))) hl (spanOk l) (fun i hi => by
    unfold spanOk
    simp only [spec_SetOk_s26, lnn, ltn hi, cond_true, ixn hi, gxn, l1In_eq, Option.bind_some, bnot_cond, wsucc (show i ≤ 1048576 by omega)]
    generalize hb1 : inR (l.getD i (0, 0)).1 0 9999 = b1
    generalize hb2 : inR (l.getD i (0, 0)).2 (l.getD i (0, 0)).1 9999 = b2
    cases b1 <;> cases b2 <;> try rfl
    by_cases hz : 0 < i
    · simp only [cond_true, dT (show (i : Int) > 0 by omega), wpred hz (show i ≤ 1048576 by omega), ixn (show i - 1 < l.length by omega), gxn, dT hz, Bool.true_and]
      cases decide ((l.getD i (0, 0)).1 ≤ w64 ((l.getD (i - 1) (0, 0)).2 + 1)) <;> rfl
    · simp only [cond_true, dF (show ¬ (i : Int) > 0 by omega), cond_false, dF hz]
      rfl) (by simp only [spec_SetOk_s26, lnn, ltF, cond_false])
  rw [cast0] at h
  simp only [spec_SetOk, h, setOk]
  cases (List.range l.length).all (spanOk l) <;> rfl

theorem implSetOk_eq {l : List SpT} (hl : l.length ≤ 1048576) : impl_SetOk l = some (setOk l) := by
  have h := lp_idx (S := impl_SetOk_s26) (t := .inr ()) (e := .inl false) (fun i => (l, l, (l.length : Int), (i : Int))) hl (spanOk l) (fun i hi => by
    unfold spanOk
    simp only [impl_SetOk_s26, lnn, ltn hi, cond_true, ixn hi, gxn, within_eq, Option.bind_some, bnot_cond, wsucc (show i ≤ 1048576 by omega)]
    generalize hb1 : inR (l.getD i (0, 0)).1 0 9999 = b1
    generalize hb2 : inR (l.getD i (0, 0)).2 (l.getD i (0, 0)).1 9999 = b2
    cases b1 <;> cases b2 <;> try rfl
    by_cases hz : 0 < i
    · simp only [cond_true, dT (show (i : Int) > 0 by omega), wpred hz (show i ≤ 1048576 by omega), ixn (show i - 1 < l.length by omega), gxn, dT hz, Bool.true_and]
      cases decide ((l.getD i (0, 0)).1 ≤ w64 ((l.getD (i - 1) (0, 0)).2 + 1)) <;> rfl
    · simp only [cond_true, dF (show ¬ (i : Int) > 0 by omega), cond_false, dF hz]
      rfl) (by simp only [impl_SetOk_s26, ltF, cond_false])
  rw [cast0] at h
  simp only [impl_SetOk, lnn, h, setOk]
  cases (List.range l.length).all (spanOk l) <;> rfl

/-! ### sketches -/
def l3L (l : List Int) (n most : Int) (z : Bool) : Bool := decide ((l.length : Int) = n) && l.all (fun x => inR x 0 most && !(z && (x != 0)))

theorem l3List_eq {l : List Int} {n most : Int} {z : Bool} (hl : l.length ≤ 1048576) : spec_l3List (l, n, most, z) = some (l3L l n most z) := by
  unfold l3L
  simp only [spec_l3List, lnn]
  rw [bne_cond]
  by_cases hn : (l.length : Int) = n
  · subst hn
    rw [if_pos rfl]
    have h := lp_all (S := spec_l3List_s58) (t := .inr ()) (e := .inl false) l 0 (fun i => (l, (l.length : Int), most, z, (i : Int))) hl (fun x => inR x 0 most && !(z && (x != 0))) (fun i hi _ => by
      simp only [spec_l3List_s58, ltn hi, cond_true, ixn hi, gxn, l1In_eq, Option.bind_some, bnot_cond, wsucc (show i ≤ 1048576 by omega)]
      generalize inR (l.getD i 0) 0 most = b1
      generalize (l.getD i 0 != 0) = b2
      cases b1 <;> cases b2 <;> cases z <;> rfl) (by simp only [spec_l3List_s58, ltF, cond_false])
    rw [cast0] at h
    rw [h]
    cases l.all (fun x => inR x 0 most && !(z && (x != 0))) <;> simp
  · rw [if_neg hn]
    simp [hn]

theorem l3L_iff {l : List Int} {n most : Int} {z : Bool} : l3L l n most z = true ↔ (l.length : Int) = n ∧ ∀ x ∈ l, (0 ≤ x ∧ x ≤ most) ∧ (z = true → x = 0) := by
  simp only [l3L, Bool.and_eq_true, decide_eq_true_eq, List.all_eq_true, inR_iff, Bool.not_eq_true']
  refine and_congr Iff.rfl (forall_congr' fun x => forall_congr' fun _ => and_congr Iff.rfl ?_)
  cases z <;> simp

/-- A sketch is right. -/
structure SkOk (s : SkT) : Prop where
  cnt : 0 ≤ s.1 ∧ s.1 ≤ 1000000000
  sum : 0 ≤ s.2.1 ∧ s.2.1 ≤ 1000000000
  min : 0 ≤ s.2.2.1 ∧ s.2.2.1 ≤ 1000000
  max : 0 ≤ s.2.2.2.1 ∧ s.2.2.2.1 ≤ 1000000
  le : s.2.2.1 ≤ s.2.2.2.1
  rows : ∃ r0 r1, s.2.2.2.2.2.2 = [r0, r1] ∧ ((r0.length = 4) ∧ ∀ x ∈ r0, (0 ≤ x ∧ x ≤ 1000000000) ∧ (s.1 = 0 → x = 0)) ∧ ((r1.length = 4) ∧ ∀ x ∈ r1, (0 ≤ x ∧ x ≤ 1000000000) ∧ (s.1 = 0 → x = 0))
  zero : s.1 = 0 → s.2.1 = 0 ∧ s.2.2.2.1 = 0
  hist : s.2.2.2.2.1.length = 8 ∧ ∀ x ∈ s.2.2.2.2.1, (0 ≤ x ∧ x ≤ 1000000000) ∧ (s.1 = 0 → x = 0)
  regs : s.2.2.2.2.2.1.length = 8 ∧ ∀ x ∈ s.2.2.2.2.2.1, (0 ≤ x ∧ x ≤ 17) ∧ (s.1 = 0 → x = 0)

def skOk (s : SkT) : Bool := inR s.1 0 1000000000 && (inR s.2.1 0 1000000000 && (inR s.2.2.1 0 1000000 && (inR s.2.2.2.1 0 1000000 && (!decide (s.2.2.1 > s.2.2.2.1) && ((s.2.2.2.2.2.2.length : Int) == 2 &&
  (!((s.1 == 0) && ((s.2.1 != 0) || (s.2.2.2.1 != 0))) && (l3L s.2.2.2.2.1 8 1000000000 (s.1 == 0) && (l3L s.2.2.2.2.2.1 8 17 (s.1 == 0) && (l3L (s.2.2.2.2.2.2.getD 0 []) 4 1000000000 (s.1 == 0) && l3L (s.2.2.2.2.2.2.getD 1 []) 4 1000000000 (s.1 == 0))))))))))

theorem skOk_iff {s : SkT} : skOk s = true ↔ SkOk s := by
  obtain ⟨a1, a2, a3, a4, a5, a6, a7⟩ := s
  simp only [skOk, Bool.and_eq_true, inR_iff, Bool.not_eq_true', decide_eq_false_iff_not, beq_iff_eq, l3L_iff]
  constructor
  · rintro ⟨h1, h2, h3, h4, h5, h6, h7, h8, h9, h10, h11⟩
    match a7, h6 with
    | [r0, r1], _ =>
      refine ⟨h1, h2, h3, h4, by dsimp only at h5 ⊢; omega, ⟨r0, r1, rfl, ⟨by have : (r0.length : Int) = 4 := h10.1; omega, fun x hx => ⟨(h10.2 x hx).1, fun hz => (h10.2 x hx).2 (by simpa using hz)⟩⟩, ⟨by have : (r1.length : Int) = 4 := h11.1; omega, fun x hx => ⟨(h11.2 x hx).1, fun hz => (h11.2 x hx).2 (by simpa using hz)⟩⟩⟩, fun hz => ?_,
        ⟨by have := h8.1; dsimp only; omega, fun x hx => ⟨(h8.2 x hx).1, fun hz => (h8.2 x hx).2 (by simpa using hz)⟩⟩, ⟨by have := h9.1; dsimp only; omega, fun x hx => ⟨(h9.2 x hx).1, fun hz => (h9.2 x hx).2 (by simpa using hz)⟩⟩⟩
      dsimp only at hz h7 ⊢
      subst hz
      simpa using h7
    | [], h => simp at h
    | [_], h => simp at h
    | _ :: _ :: _ :: _, h => simp at h; omega
  · rintro ⟨h1, h2, h3, h4, h5, ⟨r0, r1, h6, h10, h11⟩, h7, h8, h9⟩
    dsimp only at h6 h7 h8 h9 h10 h11
    subst h6
    have e0 : (r0.length : Int) = 4 := by omega
    have e1 : (r1.length : Int) = 4 := by omega
    refine ⟨h1, h2, h3, h4, by dsimp only at h5; omega, by simp, ?_, ⟨by omega, fun x hx => ⟨(h8.2 x hx).1, fun hz => (h8.2 x hx).2 (by simpa using hz)⟩⟩, ⟨by omega, fun x hx => ⟨(h9.2 x hx).1, fun hz => (h9.2 x hx).2 (by simpa using hz)⟩⟩,
      ⟨e0, fun x hx => ⟨(h10.2 x hx).1, fun hz => (h10.2 x hx).2 (by simpa using hz)⟩⟩, ⟨e1, fun x hx => ⟨(h11.2 x hx).1, fun hz => (h11.2 x hx).2 (by simpa using hz)⟩⟩⟩
    by_cases hz : a1 = 0
    · have := h7 hz
      simp [this.1, this.2]
    · simp [hz]

theorem getD_len {l : List (List Int)} {b : Nat} (h : ∀ r ∈ l, r.length ≤ b) (i : Nat) : (l.getD i []).length ≤ b := by
  rw [List.getD_eq_getElem?_getD]
  cases hq : l[i]? with
  | none => simp
  | some r => exact h r (List.mem_of_getElem? hq)

theorem specSketchOk_eq {s : SkT} (h : SkLe 1048576 s) : spec_SketchOk s = some (skOk s) := by
  obtain ⟨a1, a2, a3, a4, a5, a6, a7⟩ := s
  obtain ⟨w1, w2, w3, w4⟩ := h
  simp only at w1 w2 w3 w4
  unfold skOk
  simp only [spec_SketchOk, l1In_eq, Option.bind_some]
  have hj : (a7.length : Int) = 2 → ∀ z, spec_SketchOk_l31 ((a1, a2, a3, a4, a5, a6, a7), z) =
      some (l3L a5 8 1000000000 z && (l3L a6 8 17 z && (l3L (a7.getD 0 []) 4 1000000000 z && l3L (a7.getD 1 []) 4 1000000000 z))) := by
    intro hr z
    simp only [spec_SketchOk_l31, l3List_eq w1, l3List_eq w2, l3List_eq (getD_len w4 0), l3List_eq (getD_len w4 1), Option.bind_some]
    rw [chkD (by omega), chkD (by omega)]
    generalize l3L a5 8 1000000000 z = b1
    generalize l3L a6 8 17 z = b2
    cases b1 <;> cases b2 <;> try rfl
    cases l3L (a7.getD 0 []) 4 1000000000 z <;> rfl
  generalize inR a1 0 1000000000 = b1
  generalize inR a2 0 1000000000 = b2
  generalize inR a3 0 1000000 = b3
  generalize inR a4 0 1000000 = b4
  generalize decide (a3 > a4) = b5
  cases b1 <;> try rfl
  cases b2 <;> try rfl
  cases b3 <;> try rfl
  cases b4 <;> try rfl
  cases b5 <;> try rfl
  simp only [Bool.not_true, cond_false, Bool.true_and, Bool.not_false, lnn]
  by_cases hr : (a7.length : Int) = 2
  · rw [hj hr]
    have e1 : ((a7.length : Int) != 2) = false := by simpa using hr
    have e2 : ((a7.length : Int) == 2) = true := by simpa using hr
    rw [e1, e2]
    generalize (a1 == 0) = b6
    generalize (a2 != 0) = b7
    generalize (a4 != 0) = b8
    cases b6 <;> cases b7 <;> cases b8 <;> simp
  · have e1 : ((a7.length : Int) != 2) = true := by simpa using hr
    have e2 : ((a7.length : Int) == 2) = false := by simpa using hr
    rw [e1, e2]
    rfl

theorem copyInts_eq {l : List Int} (h : l.length ≤ 1048576) : impl_copyInts l = some l := by
  simp only [impl_copyInts]; rw [fitsC (by omega) (by omega)]

theorem counts_eq {c s mi ma : Int} {h r r0 r1 : List Int} (hh : h.length ≤ 1000) (hr : r.length ≤ 1000) (h0 : r0.length ≤ 1000) (h1 : r1.length ≤ 1000) :
    impl_counts (c, s, mi, ma, h, r, [r0, r1]) = some (h ++ r ++ r0 ++ r1) := by
  simp only [impl_counts]
  rw [copyInts_eq (by omega), Option.bind_some, fitsC (by omega) (by omega)]
  have : lp impl_counts_s58 (h ++ r, [r0, r1], 2, ((0 : Nat) : Int)) = some (h ++ r ++ r0 ++ r1) := by
    have e1 : w64 (((0 : Nat) : Int) + 1) = ((1 : Nat) : Int) := wsucc (by omega)
    have e2 : w64 (((1 : Nat) : Int) + 1) = ((2 : Nat) : Int) := wsucc (by omega)
    exact lp_det (S := impl_counts_s58) (n := 2) (b := h ++ r ++ r0 ++ r1) (fun i => ((if i = 0 then h ++ r else if i = 1 then h ++ r ++ r0 else h ++ r ++ r0 ++ r1), [r0, r1], 2, (i : Int))) (by omega) (fun i hi => by
      match i, hi with
      | 0, _ =>
        have g : gx [r0, r1] ((0 : Nat) : Int) [] = r0 := rfl
        have d : decide (((0 : Nat) : Int) < 2) = true := rfl
        simp only [impl_counts_s58, d, cond_true, if_pos, g, e1]
        rw [ixn (by simp), fitsC (by simp; omega) (by omega)]
        rfl
      | 1, _ =>
        have g : gx [r0, r1] ((1 : Nat) : Int) [] = r1 := rfl
        have d : decide (((1 : Nat) : Int) < 2) = true := rfl
        simp only [impl_counts_s58, d, cond_true, g, e2]
        rw [ixn (by simp), if_neg (by omega), if_true, fitsC (by simp; omega) (by omega)]
        rfl) rfl
  have e : ln [r0, r1] = 2 := rfl
  rw [e]
  rw [cast0] at this
  rw [this]
  rfl

def accW (l : List Int) : Nat → Int
  | 0 => 0
  | i + 1 => w64 (accW l i + l.getD i 0)

theorem accW_zero {l : List Int} (hl : l.length ≤ 100) (h : ∀ x ∈ l, 0 ≤ x ∧ x ≤ 1000000000) : ∀ i, i ≤ l.length → (0 ≤ accW l i ∧ accW l i ≤ i * 1000000000) ∧ (accW l i = 0 ↔ ∀ j, j < i → l.getD j 0 = 0)
  | 0, _ => ⟨⟨by simp [accW], by simp [accW]⟩, by simp [accW]⟩
  | i + 1, hi => by
    obtain ⟨⟨h1, h2⟩, h3⟩ := accW_zero hl h i (by omega)
    obtain ⟨q1, q2⟩ := h _ (getD_mem (d := 0) (show i < l.length by omega))
    have hw : accW l (i + 1) = accW l i + l.getD i 0 := by
      simp only [accW]
      exact w64_ok (by omega) (by omega)
    rw [hw]
    refine ⟨⟨by omega, by omega⟩, ?_⟩
    constructor
    · intro hz j hj
      by_cases hji : j = i
      · subst hji; omega
      · exact h3.1 (by omega) j (by omega)
    · intro hz
      rw [h3.2 fun j hj => hz j (by omega), hz i (by omega)]
      rfl

theorem implSketchOk_eq {s : SkT} (h : SkLe 1048576 s) : impl_SketchOk s = some (skOk s) := by
  obtain ⟨a1, a2, a3, a4, a5, a6, a7⟩ := s
  obtain ⟨w1, w2, w3, w4⟩ := h
  simp only at w1 w2 w3 w4
  have no : ¬ SkOk (a1, a2, a3, a4, a5, a6, a7) → (some false : Option Bool) = some (skOk (a1, a2, a3, a4, a5, a6, a7)) := by
    intro hn
    cases hq : skOk (a1, a2, a3, a4, a5, a6, a7) with
    | false => rfl
    | true => exact absurd (skOk_iff.1 hq) hn
  simp only [impl_SketchOk, lnn, bne_cond]
  by_cases h5 : (a5.length : Int) = 8
  · rw [if_pos h5]
    by_cases h6 : (a6.length : Int) = 8
    · rw [if_pos h6]
      by_cases h7 : (a7.length : Int) = 2
      · rw [if_pos h7]
        match a7, h7 with
        | [r0, r1], _ =>
          have g0 : List.getD [r0, r1] 0 [] = r0 := rfl
          have g1 : List.getD [r0, r1] 1 [] = r1 := rfl
          rw [g0, g1, chkD (by simp)]
          by_cases h8 : (r0.length : Int) = 4
          · rw [if_pos h8, chkD (by simp)]
            by_cases h9 : (r1.length : Int) = 4
            · rw [if_pos h9, counts_eq (by omega) (by omega) (by omega) (by omega), Option.bind_some]
              rw [fitsC (by simp; omega) (by omega)]
              generalize hL : a5 ++ a6 ++ r0 ++ r1 ++ [a1, a2, a3, a4] = L
              have hLlen : L.length = 28 := by rw [← hL]; simp; omega
              have hmem : ∀ x, x ∈ L ↔ (x ∈ a5 ∨ x ∈ a6 ∨ x ∈ r0 ∨ x ∈ r1 ∨ x = a1 ∨ x = a2 ∨ x = a3 ∨ x = a4) := by
                intro x
                rw [← hL]
                simp only [List.mem_append, List.mem_cons, List.not_mem_nil, or_false]
                simp only [or_assoc]
              have e1 := lp_all (S := impl_SketchOk_s122) (t := .inr ((a1, a2, a3, a4, a5, a6, [r0, r1]), accW L L.length)) (e := .inl false) L 0 (fun i => ((a1, a2, a3, a4, a5, a6, [r0, r1]), accW L i, L, (L.length : Int), (i : Int))) (by omega) (fun x => inR x 0 1000000000) (fun i hi _ => by
                simp only [impl_SketchOk_s122, ltn hi, cond_true, ixn hi, lxn hi, gxn, within_eq, Option.bind_some, bnot_cond, accW, wsucc (show i ≤ 1048576 by omega)]
                cases inR (L.getD i 0) 0 1000000000 <;> rfl) (by simp only [impl_SketchOk_s122, ltF, cond_false])
              have e2 : ∀ t : Int, lp impl_SketchOk_s250 ((a1, a2, a3, a4, a5, a6, [r0, r1]), t, a6, a6.length, 0) = some (bif a6.all (fun x => !decide (x > 17)) then .inr ((a1, a2, a3, a4, a5, a6, [r0, r1]), t) else .inl false) := by
                intro t
                exact lp_all (S := impl_SketchOk_s250) (t := .inr ((a1, a2, a3, a4, a5, a6, [r0, r1]), t)) (e := .inl false) a6 0 (fun i => ((a1, a2, a3, a4, a5, a6, [r0, r1]), t, a6, (a6.length : Int), (i : Int))) (by omega) (fun x => !decide (x > 17)) (fun i hi _ => by
                  simp only [impl_SketchOk_s250, ltn hi, cond_true, ixn hi, gxn, wsucc (show i ≤ 1048576 by omega)]
                  cases decide (a6.getD i 0 > 17) <;> rfl) (by simp only [impl_SketchOk_s250, ltF, cond_false])
              have e1 : lp impl_SketchOk_s122 ((a1, a2, a3, a4, a5, a6, [r0, r1]), 0, L, L.length, 0) = some (bif L.all (fun x => inR x 0 1000000000) then .inr ((a1, a2, a3, a4, a5, a6, [r0, r1]), accW L L.length) else .inl false) := e1
              rw [e1]
              by_cases hall : L.all (fun x => inR x 0 1000000000) = true
              · rw [hall]
                simp only [cond_true, bx_inr]
                rw [e2]
                have hin : ∀ x ∈ L, 0 ≤ x ∧ x ≤ 1000000000 := by simpa [inR_iff] using hall
                obtain ⟨_, hz⟩ := accW_zero (by omega) hin L.length (Nat.le_refl _)
                have hz' : accW L L.length = 0 ↔ ∀ x ∈ L, x = 0 := by
                  rw [hz]
                  constructor
                  · intro q x hx
                    obtain ⟨j, hj⟩ := List.getElem?_of_mem hx
                    have := q j (List.getElem?_eq_some_iff.1 hj).1
                    simpa [List.getD_eq_getElem?_getD, hj] using this
                  · intro q j hj
                    exact q _ (getD_mem hj)
                have h17 : a6.all (fun x => !decide (x > 17)) = true ↔ ∀ x ∈ a6, x ≤ 17 := by simp
                have i5 : ∀ x ∈ a5, 0 ≤ x ∧ x ≤ 1000000000 := fun x hx => hin x ((hmem x).2 (.inl hx))
                have i6 : ∀ x ∈ a6, 0 ≤ x ∧ x ≤ 1000000000 := fun x hx => hin x ((hmem x).2 (.inr (.inl hx)))
                have j0 : ∀ x ∈ r0, 0 ≤ x ∧ x ≤ 1000000000 := fun x hx => hin x ((hmem x).2 (.inr (.inr (.inl hx))))
                have j1 : ∀ x ∈ r1, 0 ≤ x ∧ x ≤ 1000000000 := fun x hx => hin x ((hmem x).2 (.inr (.inr (.inr (.inl hx)))))
                have k1 := hin a1 ((hmem a1).2 (by simp))
                have k2 := hin a2 ((hmem a2).2 (by simp))
                have k3 := hin a3 ((hmem a3).2 (by simp))
                have k4 := hin a4 ((hmem a4).2 (by simp))
                by_cases h17' : a6.all (fun x => !decide (x > 17)) = true
                · rw [h17']
                  simp only [cond_true, bx_inr]
                  have l17 := h17.1 h17'
                  rw [beq_cond]
                  by_cases hc : a1 = 0
                  · rw [if_pos hc]
                    congr 1
                    rw [Bool.eq_iff_iff, beq_iff_eq, hz', skOk_iff]
                    constructor
                    · intro hall0
                      have m2 := hall0 a2 ((hmem a2).2 (by simp))
                      have m3 := hall0 a3 ((hmem a3).2 (by simp))
                      have m4 := hall0 a4 ((hmem a4).2 (by simp))
                      exact ⟨k1, k2, by dsimp only; omega, by dsimp only; omega, by dsimp only; omega, ⟨r0, r1, rfl, ⟨by omega, fun x hx => ⟨j0 x hx, fun _ => hall0 x ((hmem x).2 (.inr (.inr (.inl hx))))⟩⟩,
                        ⟨by omega, fun x hx => ⟨j1 x hx, fun _ => hall0 x ((hmem x).2 (.inr (.inr (.inr (.inl hx)))))⟩⟩⟩, fun _ => ⟨m2, m4⟩,
                        ⟨by dsimp only; omega, fun x hx => ⟨i5 x hx, fun _ => hall0 x ((hmem x).2 (.inl hx))⟩⟩, ⟨by dsimp only; omega, fun x hx => ⟨⟨(i6 x hx).1, l17 x hx⟩, fun _ => hall0 x ((hmem x).2 (.inr (.inl hx)))⟩⟩⟩
                    · intro hs x hx
                      obtain ⟨s1, s2, s3, s4, s5, ⟨q0, q1, s6, s7, s8⟩, s9, s10, s11⟩ := hs
                      simp only [List.cons.injEq, and_true] at s6
                      obtain ⟨rfl, rfl⟩ := s6
                      obtain ⟨z2, z4⟩ := s9 hc
                      dsimp only at s3 s5 z2 z4
                      rcases (hmem x).1 hx with q | q | q | q | rfl | rfl | rfl | rfl
                      · exact (s10.2 x q).2 hc
                      · exact (s11.2 x q).2 hc
                      · exact (s7.2 x q).2 hc
                      · exact (s8.2 x q).2 hc
                      · exact hc
                      · exact z2
                      · omega
                      · exact z4
                  · rw [if_neg hc]
                    by_cases hle : a3 ≤ a4
                    · rw [decide_eq_true hle, cond_true]
                      congr 1
                      rw [Bool.eq_iff_iff, decide_eq_true_eq, skOk_iff]
                      constructor
                      · intro hm
                        exact ⟨k1, k2, by dsimp only; omega, by dsimp only; omega, hle, ⟨r0, r1, rfl, ⟨by omega, fun x hx => ⟨j0 x hx, fun q => absurd q hc⟩⟩, ⟨by omega, fun x hx => ⟨j1 x hx, fun q => absurd q hc⟩⟩⟩, fun q => absurd q hc,
                          ⟨by dsimp only; omega, fun x hx => ⟨i5 x hx, fun q => absurd q hc⟩⟩, ⟨by dsimp only; omega, fun x hx => ⟨⟨(i6 x hx).1, l17 x hx⟩, fun q => absurd q hc⟩⟩⟩
                      · intro hs
                        exact hs.max.2
                    · rw [decide_eq_false hle, cond_false]
                      exact no fun hs => hle hs.le
                · rw [Bool.not_eq_true] at h17'
                  rw [h17']
                  simp only [cond_false, bx_inl]
                  exact no fun hs => by rw [h17.2 fun x hx => (hs.regs.2 x hx).1.2] at h17'; simp at h17'
              · rw [Bool.not_eq_true] at hall
                rw [hall]
                simp only [cond_false, bx_inl]
                refine no fun hs => (by simp [hall] : ¬ L.all (fun x => inR x 0 1000000000) = true) ?_
                obtain ⟨s1, s2, s3, s4, s5, ⟨q0, q1, s6, s7, s8⟩, s9, s10, s11⟩ := hs
                simp only [List.cons.injEq, and_true] at s6
                obtain ⟨rfl, rfl⟩ := s6
                dsimp only at s1 s2 s3 s4 s5
                rw [List.all_eq_true]
                intro x hx
                rw [inR_iff]
                rcases (hmem x).1 hx with q | q | q | q | rfl | rfl | rfl | rfl
                · exact (s10.2 x q).1
                · have := (s11.2 x q).1; omega
                · exact (s7.2 x q).1
                · exact (s8.2 x q).1
                · exact s1
                · exact s2
                · omega
                · omega
            · rw [if_neg h9]
              exact no fun hs => h9 (by
                obtain ⟨q0, q1, s6, s7, s8⟩ := hs.rows
                simp only [List.cons.injEq, and_true] at s6
                obtain ⟨rfl, rfl⟩ := s6
                have := s8.1; omega)
          · rw [if_neg h8]
            exact no fun hs => h8 (by
              obtain ⟨q0, q1, s6, s7, s8⟩ := hs.rows
              simp only [List.cons.injEq, and_true] at s6
              obtain ⟨rfl, rfl⟩ := s6
              have := s7.1; omega)
        | [], h => simp at h
        | [_], h => simp at h
        | _ :: _ :: _ :: _, h => simp at h; omega
      · rw [if_neg h7]
        exact no fun hs => h7 (by
          obtain ⟨q0, q1, s6, _⟩ := hs.rows
          dsimp only at s6
          rw [s6]; rfl)
    · rw [if_neg h6]
      exact no fun hs => h6 (by have := hs.regs.1; dsimp only at this; omega)
  · rw [if_neg h5]
    exact no fun hs => h5 (by have := hs.hist.1; dsimp only at this; omega)

/-! ### entries -/
def enOk (e : EnT) : Bool := inR e.1 0 4 && inR e.2.1 0 20 && decide (e.2.2.1.length > 0) && setOk e.2.2.1 && skOk e.2.2.2

theorem specEntryOk_eq {e : EnT} (h : EnLe 1048576 e) : spec_EntryOk e = some (enOk e) := by
  obtain ⟨a1, a2, a3, s⟩ := e
  obtain ⟨a4, a5, a6, a7, a8, a9, a10⟩ := s
  obtain ⟨w1, w2⟩ := h
  have hs := specSketchOk_eq w2
  simp only at w1 hs
  unfold enOk
  simp only [spec_EntryOk, spec_l6Place, l1In_eq, Option.bind_some, specSetOk_eq w1, hs, lnn]
  have hd : decide ((a3.length : Int) > 0) = decide (a3.length > 0) := by rw [decide_eq_decide]; omega
  rw [hd]
  cases inR a1 0 4 <;> cases inR a2 0 20 <;> try rfl
  cases decide (a3.length > 0) <;> try rfl
  cases setOk a3 <;> rfl

theorem implEntryOk_eq {e : EnT} (h : EnLe 1048576 e) : impl_EntryOk e = some (enOk e) := by
  obtain ⟨a1, a2, a3, s⟩ := e
  obtain ⟨a4, a5, a6, a7, a8, a9, a10⟩ := s
  obtain ⟨w1, w2⟩ := h
  have hs := implSketchOk_eq w2
  simp only at w1 hs
  unfold enOk
  simp only [impl_EntryOk, within_eq, Option.bind_some, implSetOk_eq w1, hs, lnn]
  have hd : decide ((a3.length : Int) > 0) = decide (a3.length > 0) := by rw [decide_eq_decide]; omega
  rw [hd]
  cases inR a1 0 4 <;> cases inR a2 0 20 <;> try rfl
  cases decide (a3.length > 0) <;> cases setOk a3 <;> rfl

/-- An entry is right. -/
structure EnOk (e : EnT) : Prop where
  key : 0 ≤ e.1 ∧ e.1 ≤ 4
  win : 0 ≤ e.2.1 ∧ e.2.1 ≤ 20
  ids : Canon e.2.2.1
  bnd : ∀ x ∈ e.2.2.1, 0 ≤ x.1 ∧ x.2 ≤ 9999
  some_ : e.2.2.1 ≠ []
  sk : SkOk e.2.2.2

theorem enOk_iff {e : EnT} : enOk e = true ↔ EnOk e := by
  unfold enOk
  simp only [Bool.and_eq_true, inR_iff, decide_eq_true_eq, setOk_iff, skOk_iff]
  constructor
  · rintro ⟨⟨⟨⟨h1, h2⟩, h3⟩, h4, h5⟩, h6⟩
    exact ⟨h1, h2, h4, h5, fun q => by rw [q] at h3; simp at h3, h6⟩
  · rintro ⟨h1, h2, h4, h5, h3, h6⟩
    exact ⟨⟨⟨⟨h1, h2⟩, List.length_pos_iff.2 h3⟩, h4, h5⟩, h6⟩

end Go.Proofs.YthchcnfkgjmabaaGreat.Tw
