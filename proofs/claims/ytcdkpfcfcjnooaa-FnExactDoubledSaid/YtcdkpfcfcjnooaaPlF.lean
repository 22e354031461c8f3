/- Plain: comparisons of spans, sketches, entries; FnExactTotalSame. No condition: lemmas. -/
import Derived.Test.YtcdkpfcfcjnooaaPlE
namespace Go.Proofs.Ytcdkpfcfcjnooaa.Tw
open Go.Mach
set_option linter.unusedVariables false
set_option maxRecDepth 20000

theorem bne_cond {α β : Type} [DecidableEq α] (u v : α) (x y : β) : (bif u != v then x else y) = if u = v then y else x := by
  by_cases h : u = v
  · rw [if_pos h, h, bne_self_eq_false, cond_false]
  · rw [if_neg h, bne_iff_ne.2 h, cond_true]

theorem beq_cond {α β : Type} [DecidableEq α] (u v : α) (x y : β) : (bif u == v then x else y) = if u = v then x else y := by
  by_cases h : u = v
  · rw [if_pos h, beq_iff_eq.2 h, cond_true]
  · rw [if_neg h, beq_eq_false_iff_ne.2 h, cond_false]

theorem not_cond {β : Type} (p : Prop) [Decidable p] (x y : β) : (bif !decide p then x else y) = if p then y else x := by
  by_cases h : p <;> simp [h]

instance : DecidableEq SketchT := fun x y => @instDecidableEqProd _ _ _ (@instDecidableEqProd _ _ _ (@instDecidableEqProd _ _ _ (@instDecidableEqProd _ _ _ inferInstance))) x y
instance : DecidableEq EntryT := fun x y => @instDecidableEqProd _ _ _ (@instDecidableEqProd _ _ _ (@instDecidableEqProd _ _ _ (inferInstanceAs (DecidableEq SketchT)))) x y
instance : DecidableEq OutT := fun x y => @instDecidableEqProd _ _ _ (inferInstanceAs (DecidableEq EntryT)) x y

theorem span_same (x y : SpanT) : (x.1 == y.1 && (x.2 == y.2 && true)) = decide (x = y) := by
  rw [Bool.eq_iff_iff]
  simp [Prod.ext_iff]

/-! ### comparisons, one by one -/
theorem specL5Same_eq {a b : List SpanT} (ha : a.length ≤ 1048576) : spec_l5Same a b = some (decide (a = b)) := by
  refine eqS_run (S := fun d => spec_l5Same_s58 d.1 d.2.1 d.2.2) (0, 0) ha (fun i => (a, b, (i : Int))) (fun i hi hb hm => ?_) (fun hb => ?_)
  · simp only [spec_l5Same_s58, Int.toNat_natCast, wrap_nat (show i ≤ 1048576 by omega), span_same]
    rw [decide_eq_true (by omega : (i : Int) < a.length), cond_true, chk_dec (by omega), chk_dec hi, chk_dec (by omega), chk_dec (by omega)]
    first | rw [bne_cond] | rw [not_cond]
    split <;> rfl
  · simp only [spec_l5Same_s58]
    rw [decide_eq_false (by omega), cond_false]

theorem specL1Same_eq {a b : List Int} (ha : a.length ≤ 1048576) : spec_l1Same a b = some (decide (a = b)) := by
  refine eqS_run (S := fun d => spec_l1Same_s58 d.1 d.2.1 d.2.2) 0 ha (fun i => (a, b, (i : Int))) (fun i hi hb hm => ?_) (fun hb => ?_)
  · simp only [spec_l1Same_s58, Int.toNat_natCast, wrap_nat (show i ≤ 1048576 by omega)]
    rw [decide_eq_true (by omega : (i : Int) < a.length), cond_true, chk_dec (by omega), chk_dec hi, chk_dec (by omega), chk_dec (by omega)]
    first | rw [bne_cond] | rw [not_cond]
    split <;> rfl
  · simp only [spec_l1Same_s58]
    rw [decide_eq_false (by omega), cond_false]

theorem implSpanS_eq {a b : List SpanT} (ha : a.length ≤ 1048576) : impl_Span_ a b = some (decide (a = b)) := by
  refine eqS_run (S := fun d => impl_Span__s58 d.1 d.2.1 d.2.2.1 d.2.2.2) (0, 0) ha (fun i => (a, b, (a.length : Int), (i : Int))) (fun i hi hb hm => ?_) (fun hb => ?_)
  · simp only [impl_Span__s58, Int.toNat_natCast, wrap_nat (show i ≤ 1048576 by omega), span_same]
    rw [decide_eq_true (by omega : (i : Int) < a.length), cond_true, chk_dec (by omega), chk_dec hi, chk_dec (by omega), chk_dec (by omega)]
    first | rw [bne_cond] | rw [not_cond]
    split <;> rfl
  · simp only [impl_Span__s58]
    rw [decide_eq_false (by omega), cond_false]

theorem slicesEqInt_eq {a b : List Int} (ha : a.length ≤ 1048576) : slices_Equal___int_int_ a b = some (decide (a = b)) := by
  refine eqS_run (S := fun d => slices_Equal___int_int__s58 d.1 d.2.1 d.2.2.1 d.2.2.2) 0 ha (fun i => (a, b, (a.length : Int), (i : Int))) (fun i hi hb hm => ?_) (fun hb => ?_)
  · simp only [slices_Equal___int_int__s58, Int.toNat_natCast, wrap_nat (show i ≤ 1048576 by omega)]
    rw [decide_eq_true (by omega : (i : Int) < a.length), cond_true, chk_dec (by omega), chk_dec hi, chk_dec (by omega), chk_dec (by omega)]
    first | rw [bne_cond] | rw [not_cond]
    split <;> rfl
  · simp only [slices_Equal___int_int__s58]
    rw [decide_eq_false (by omega), cond_false]

theorem slicesEqFunc_eq {a b : List (List Int)} (ha : a.length ≤ 1048576) (hr : ∀ r ∈ a, r.length ≤ 1048576) : slices_EqualFunc_____int_____int___int___int_ a b = some (decide (a = b)) := by
  refine eqS_run (S := fun d => slices_EqualFunc_____int_____int___int___int__s58 d.1 d.2.2.1 d.2.2.2.1 d.2.2.2.2) [] ha (fun i => (b, (), a, (a.length : Int), (i : Int))) (fun i hi hb hm => ?_) (fun hb => ?_)
  · simp only [slices_EqualFunc_____int_____int___int___int__s58, Int.toNat_natCast, wrap_nat (show i ≤ 1048576 by omega)]
    rw [decide_eq_true (by omega : (i : Int) < a.length), cond_true, chk_dec (by omega), chk_dec hi, chk_dec (by omega), chk_dec (by omega), slicesEqInt_eq (hr _ hm), Option.bind_some]
    first | rw [bne_cond] | rw [not_cond]
    split <;> rfl
  · simp only [slices_EqualFunc_____int_____int___int___int__s58]
    rw [decide_eq_false (by omega), cond_false]

theorem lawsEqSpan_eq (x y : SpanT) : laws_eqSpan x.1 x.2 y.1 y.2 = some (decide (x = y)) := by
  obtain ⟨a, b⟩ := x
  obtain ⟨c, d⟩ := y
  unfold laws_eqSpan
  rw [bne_cond, bne_cond]
  by_cases h1 : a = c <;> by_cases h2 : b = d <;> simp [h1, h2]

theorem lawsEqSpanS_eq {a b : List SpanT} (ha : a.length ≤ 1048576) : laws_eqSpanS a b = some (decide (a = b)) := by
  refine eqS_run (S := fun d => laws_eqSpanS_s58 d.1 d.2.1 d.2.2) (0, 0) ha (fun i => (a, b, (i : Int))) (fun i hi hb hm => ?_) (fun hb => ?_)
  · simp only [laws_eqSpanS_s58, Int.toNat_natCast, wrap_nat (show i ≤ 1048576 by omega)]
    rw [decide_eq_true (by omega : (i : Int) < a.length), cond_true, chk_dec (by omega), chk_dec hi, chk_dec (by omega), chk_dec (by omega), lawsEqSpan_eq, Option.bind_some]
    first | rw [bne_cond] | rw [not_cond]
    split <;> rfl
  · simp only [laws_eqSpanS_s58]
    rw [decide_eq_false (by omega), cond_false]

theorem lawsEqIntS_eq {a b : List Int} (ha : a.length ≤ 1048576) : laws_eqIntS a b = some (decide (a = b)) := by
  refine eqS_run (S := fun d => laws_eqIntS_s58 d.1 d.2.1 d.2.2) 0 ha (fun i => (a, b, (i : Int))) (fun i hi hb hm => ?_) (fun hb => ?_)
  · simp only [laws_eqIntS_s58, Int.toNat_natCast, wrap_nat (show i ≤ 1048576 by omega)]
    rw [decide_eq_true (by omega : (i : Int) < a.length), cond_true, chk_dec (by omega), chk_dec hi, chk_dec (by omega), chk_dec (by omega)]
    first | rw [bne_cond] | rw [not_cond]
    split <;> rfl
  · simp only [laws_eqIntS_s58]
    rw [decide_eq_false (by omega), cond_false]

theorem lawsEqIntSS_eq {a b : List (List Int)} (ha : a.length ≤ 1048576) (hr : ∀ r ∈ a, r.length ≤ 1048576) : laws_eqIntSS a b = some (decide (a = b)) := by
  refine eqS_run (S := fun d => laws_eqIntSS_s58 d.1 d.2.1 d.2.2) [] ha (fun i => (a, b, (i : Int))) (fun i hi hb hm => ?_) (fun hb => ?_)
  · simp only [laws_eqIntSS_s58, Int.toNat_natCast, wrap_nat (show i ≤ 1048576 by omega)]
    rw [decide_eq_true (by omega : (i : Int) < a.length), cond_true, chk_dec (by omega), chk_dec hi, chk_dec (by omega), chk_dec (by omega), lawsEqIntS_eq (hr _ hm), Option.bind_some]
    first | rw [bne_cond] | rw [not_cond]
    split <;> rfl
  · simp only [laws_eqIntSS_s58]
    rw [decide_eq_false (by omega), cond_false]

/-! ### sketches -/
theorem specSketchSame_eq {x y : SketchT} (h : SkLe small x) : spec_SketchSame x.1 x.2.1 x.2.2.1 x.2.2.2.1 x.2.2.2.2.1 x.2.2.2.2.2.1 x.2.2.2.2.2.2 y.1 y.2.1 y.2.2.1 y.2.2.2.1 y.2.2.2.2.1 y.2.2.2.2.2.1 y.2.2.2.2.2.2 = some (decide (x = y)) := by
  obtain ⟨a1, a2, a3, a4, a5, a6, a7⟩ := x
  obtain ⟨b1, b2, b3, b4, b5, b6, b7⟩ := y
  obtain ⟨w1, w2, w3, w4⟩ := h
  dsimp only [hist, regs, rows] at w1 w2 w3 w4 ⊢
  unfold spec_SketchSame
  rw [specL1Same_eq w1, specL1Same_eq w2]
  have hrows : (bif (a7.length : Int) != (b7.length : Int) then some false else Option.bind (spec_SketchSame_l58 a1 a2 a3 a4 a5 a6 a7 b1 b2 b3 b4 b5 b6 b7 0) fun b98 => Sum.elim (fun d => some d) (fun _ => some true) b98) = some (decide (a7 = b7)) := by
    refine eqS_run (S := fun d => spec_SketchSame_s58 d.1.1 d.1.2.1 d.1.2.2.1 d.1.2.2.2.1 d.1.2.2.2.2.1 d.1.2.2.2.2.2.1 d.1.2.2.2.2.2.2 d.2.1.1 d.2.1.2.1 d.2.1.2.2.1 d.2.1.2.2.2.1 d.2.1.2.2.2.2.1 d.2.1.2.2.2.2.2.1 d.2.1.2.2.2.2.2.2 d.2.2) [] w3
      (fun i => ((a1, a2, a3, a4, a5, a6, a7), (b1, b2, b3, b4, b5, b6, b7), (i : Int))) (fun i hi hb hm => ?_) (fun hb => ?_)
    · simp only [spec_SketchSame_s58, Int.toNat_natCast, wrap_nat (show i ≤ 1048576 by have : a7.length ≤ 1048576 := w3; omega)]
      rw [decide_eq_true (by omega : (i : Int) < a7.length), cond_true, chk_dec (by omega), chk_dec hi, chk_dec (by omega), chk_dec (by omega), specL1Same_eq (w4 _ hm), Option.bind_some]
      first | rw [bne_cond] | rw [not_cond]
      split <;> rfl
    · simp only [spec_SketchSame_s58]
      rw [decide_eq_false (by omega), cond_false]
  simp only [hrows, Option.bind_some]
  by_cases q1 : a1 = b1 <;> by_cases q2 : a2 = b2 <;> by_cases q3 : a3 = b3 <;> by_cases q4 : a4 = b4 <;> by_cases q5 : a5 = b5 <;> by_cases q6 : a6 = b6 <;> simp [bne_cond, beq_cond, q1, q2, q3, q4, q5, q6]

theorem implSketchSame_eq {x y : SketchT} (h : SkLe small x) : impl_SketchSame x.1 x.2.1 x.2.2.1 x.2.2.2.1 x.2.2.2.2.1 x.2.2.2.2.2.1 x.2.2.2.2.2.2 y.1 y.2.1 y.2.2.1 y.2.2.2.1 y.2.2.2.2.1 y.2.2.2.2.2.1 y.2.2.2.2.2.2 = some (decide (x = y)) := by
  obtain ⟨a1, a2, a3, a4, a5, a6, a7⟩ := x
  obtain ⟨b1, b2, b3, b4, b5, b6, b7⟩ := y
  obtain ⟨w1, w2, w3, w4⟩ := h
  dsimp only [hist, regs, rows] at w1 w2 w3 w4 ⊢
  unfold impl_SketchSame
  rw [slicesEqInt_eq w1, slicesEqInt_eq w2, slicesEqFunc_eq w3 w4]
  simp only [Option.bind_some]
  by_cases q1 : a1 = b1 <;> by_cases q2 : a2 = b2 <;> by_cases q3 : a3 = b3 <;> by_cases q4 : a4 = b4 <;> by_cases q5 : a5 = b5 <;> by_cases q6 : a6 = b6 <;> simp [bne_cond, beq_cond, q1, q2, q3, q4, q5, q6]

theorem lawsEqSketch_eq {x y : SketchT} (h : SkLe small x) : laws_eqSketch x.1 x.2.1 x.2.2.1 x.2.2.2.1 x.2.2.2.2.1 x.2.2.2.2.2.1 x.2.2.2.2.2.2 y.1 y.2.1 y.2.2.1 y.2.2.2.1 y.2.2.2.2.1 y.2.2.2.2.2.1 y.2.2.2.2.2.2 = some (decide (x = y)) := by
  obtain ⟨a1, a2, a3, a4, a5, a6, a7⟩ := x
  obtain ⟨b1, b2, b3, b4, b5, b6, b7⟩ := y
  obtain ⟨w1, w2, w3, w4⟩ := h
  dsimp only [hist, regs, rows] at w1 w2 w3 w4 ⊢
  unfold laws_eqSketch
  rw [lawsEqIntS_eq w1, lawsEqIntS_eq w2, lawsEqIntSS_eq w3 w4]
  simp only [Option.bind_some]
  by_cases q1 : a1 = b1 <;> by_cases q2 : a2 = b2 <;> by_cases q3 : a3 = b3 <;> by_cases q4 : a4 = b4 <;> by_cases q5 : a5 = b5 <;> by_cases q6 : a6 = b6 <;> by_cases q7 : a7 = b7 <;> simp [bne_cond, beq_cond, q1, q2, q3, q4, q5, q6, q7]

/-! ### entries -/
theorem specEntrySame_eq {x y : EntryT} (h : EnLe small x) : spec_EntrySame x.1 x.2.1 x.2.2.1 x.2.2.2.1 x.2.2.2.2.1 x.2.2.2.2.2.1 x.2.2.2.2.2.2.1 x.2.2.2.2.2.2.2.1 x.2.2.2.2.2.2.2.2.1 x.2.2.2.2.2.2.2.2.2
    y.1 y.2.1 y.2.2.1 y.2.2.2.1 y.2.2.2.2.1 y.2.2.2.2.2.1 y.2.2.2.2.2.2.1 y.2.2.2.2.2.2.2.1 y.2.2.2.2.2.2.2.2.1 y.2.2.2.2.2.2.2.2.2 = some (decide (x = y)) := by
  obtain ⟨a1, a2, a3, a4⟩ := x
  obtain ⟨b1, b2, b3, b4⟩ := y
  obtain ⟨w1, w2⟩ := h
  dsimp only at w1 w2 ⊢
  unfold spec_EntrySame
  rw [specL5Same_eq w1, specSketchSame_eq w2]
  simp only [Option.bind_some]
  by_cases q1 : a1 = b1 <;> by_cases q2 : a2 = b2 <;> by_cases q3 : a3 = b3 <;> simp [bne_cond, beq_cond, q1, q2, q3]

theorem implEntrySame_eq {x y : EntryT} (h : EnLe small x) : impl_EntrySame x.1 x.2.1 x.2.2.1 x.2.2.2.1 x.2.2.2.2.1 x.2.2.2.2.2.1 x.2.2.2.2.2.2.1 x.2.2.2.2.2.2.2.1 x.2.2.2.2.2.2.2.2.1 x.2.2.2.2.2.2.2.2.2
    y.1 y.2.1 y.2.2.1 y.2.2.2.1 y.2.2.2.2.1 y.2.2.2.2.2.1 y.2.2.2.2.2.2.1 y.2.2.2.2.2.2.2.1 y.2.2.2.2.2.2.2.2.1 y.2.2.2.2.2.2.2.2.2 = some (decide (x = y)) := by
  obtain ⟨a1, a2, a3, a4⟩ := x
  obtain ⟨b1, b2, b3, b4⟩ := y
  obtain ⟨w1, w2⟩ := h
  dsimp only at w1 w2 ⊢
  unfold impl_EntrySame
  rw [implSpanS_eq w1, implSketchSame_eq w2]
  simp only [Option.bind_some]
  by_cases q1 : a1 = b1 <;> by_cases q2 : a2 = b2 <;> by_cases q3 : a3 = b3 <;> simp [bne_cond, beq_cond, q1, q2, q3]

theorem lawsEqEntry_eq {x y : EntryT} (h : EnLe small x) : laws_eqEntry x.1 x.2.1 x.2.2.1 x.2.2.2.1 x.2.2.2.2.1 x.2.2.2.2.2.1 x.2.2.2.2.2.2.1 x.2.2.2.2.2.2.2.1 x.2.2.2.2.2.2.2.2.1 x.2.2.2.2.2.2.2.2.2
    y.1 y.2.1 y.2.2.1 y.2.2.2.1 y.2.2.2.2.1 y.2.2.2.2.2.1 y.2.2.2.2.2.2.1 y.2.2.2.2.2.2.2.1 y.2.2.2.2.2.2.2.2.1 y.2.2.2.2.2.2.2.2.2 = some (decide (x = y)) := by
  obtain ⟨a1, a2, a3, a4⟩ := x
  obtain ⟨b1, b2, b3, b4⟩ := y
  obtain ⟨w1, w2⟩ := h
  dsimp only at w1 w2 ⊢
  unfold laws_eqEntry
  rw [lawsEqSpanS_eq w1, lawsEqSketch_eq w2]
  simp only [Option.bind_some]
  by_cases q1 : a1 = b1 <;> by_cases q2 : a2 = b2 <;> by_cases q3 : a3 = b3 <;> by_cases q4 : a4 = b4 <;> simp [bne_cond, beq_cond, q1, q2, q3, q4]

theorem specEntries_eq {a b : List EntryT} (ha : a.length ≤ 1048576) (hr : ∀ e ∈ a, EnLe small e) : spec_l10Entries a b = some (decide (a = b)) := by
  refine eqS_run (S := fun d => spec_l10Entries_s58 d.1 d.2.1 d.2.2) ent0 ha (fun i => (a, b, (i : Int))) (fun i hi hb hm => ?_) (fun hb => ?_)
  · simp only [spec_l10Entries_s58, Int.toNat_natCast, wrap_nat (show i ≤ 1048576 by omega)]
    rw [decide_eq_true (by omega : (i : Int) < a.length), cond_true, chk_dec (by omega), chk_dec hi, chk_dec (by omega), chk_dec (by omega), specEntrySame_eq (hr _ hm), Option.bind_some]
    by_cases h : a.getD i ent0 = b.getD i ent0
    · rw [if_pos h, decide_eq_true h]; rfl
    · rw [if_neg h, decide_eq_false h]; rfl
  · simp only [spec_l10Entries_s58]
    rw [decide_eq_false (by omega), cond_false]

theorem implEntries_eq {a b : List EntryT} (ha : a.length ≤ 1048576) (hr : ∀ e ∈ a, EnLe small e) : impl_Entry_ a b = some (decide (a = b)) := by
  refine eqS_run (S := fun d => impl_Entry__s58 d.1 d.2.2.1 d.2.2.2.1 d.2.2.2.2) ent0 ha (fun i => (b, (), a, (a.length : Int), (i : Int))) (fun i hi hb hm => ?_) (fun hb => ?_)
  · simp only [impl_Entry__s58, Int.toNat_natCast, wrap_nat (show i ≤ 1048576 by omega)]
    rw [decide_eq_true (by omega : (i : Int) < a.length), cond_true, chk_dec (by omega), chk_dec hi, chk_dec (by omega), chk_dec (by omega), implEntrySame_eq (hr _ hm), Option.bind_some]
    by_cases h : a.getD i ent0 = b.getD i ent0
    · rw [if_pos h, decide_eq_true h]; rfl
    · rw [if_neg h, decide_eq_false h]; rfl
  · simp only [impl_Entry__s58]
    rw [decide_eq_false (by omega), cond_false]

theorem lawsEqEntryS_eq {a b : List EntryT} (ha : a.length ≤ 1048576) (hr : ∀ e ∈ a, EnLe small e) : laws_eqEntryS a b = some (decide (a = b)) := by
  refine eqS_run (S := fun d => laws_eqEntryS_s58 d.1 d.2.1 d.2.2) ent0 ha (fun i => (a, b, (i : Int))) (fun i hi hb hm => ?_) (fun hb => ?_)
  · simp only [laws_eqEntryS_s58, Int.toNat_natCast, wrap_nat (show i ≤ 1048576 by omega)]
    rw [decide_eq_true (by omega : (i : Int) < a.length), cond_true, chk_dec (by omega), chk_dec hi, chk_dec (by omega), chk_dec (by omega), lawsEqEntry_eq (hr _ hm), Option.bind_some]
    by_cases h : a.getD i ent0 = b.getD i ent0
    · rw [if_pos h, decide_eq_true h]; rfl
    · rw [if_neg h, decide_eq_false h]; rfl
  · simp only [laws_eqEntryS_s58]
    rw [decide_eq_false (by omega), cond_false]

/-! ### the law -/
theorem totalSame_true {a b : List EntryT} (ha : a.length ≤ big ∧ ∀ e ∈ a, EnLe big e) (hb : b.length ≤ big ∧ ∀ e ∈ b, EnLe big e) : laws_FnExactTotalSame a b = some true := by
  unfold laws_FnExactTotalSame
  obtain ⟨r, e1, e2⟩ := szEntryS_is a 1048576 ha (by omega) (by omega)
  rw [e1, Option.bind_some]
  rcases e2 with rfl | ⟨e2, e3, l1, l2⟩
  · rfl
  rw [decide_eq_false (by omega), cond_false]
  obtain ⟨r', f1, f2⟩ := szEntryS_is b r hb e2 e3
  rw [f1, Option.bind_some]
  rcases f2 with rfl | ⟨f2, f3, m1, m2⟩
  · rfl
  rw [decide_eq_false (by omega), cond_false]
  simp only [toEntryS_eq l1 l2, toEntryS_eq m1 m2, Option.bind_some, spec_TotalSame, impl_TotalSame, specEntries_eq l1 l2, implEntries_eq l1 l2, lawsEqEntryS_eq l1 l2, lawsEqEntryS_eq m1 m2]
  simp

end Go.Proofs.Ytcdkpfcfcjnooaa.Tw
