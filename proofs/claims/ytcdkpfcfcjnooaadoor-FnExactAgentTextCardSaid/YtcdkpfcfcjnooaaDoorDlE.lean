/- Plain: spans, sketches, entries, outs: sizes, copies, comparisons, what is right (turned for the twins with lends). No condition: lemmas. -/
import Derived.Test.YtcdkpfcfcjnooaaDoorPlD
import Derived.Test.YtcdkpfcfcjnooaaDoorTwD
namespace Go.Proofs.YtcdkpfcfcjnooaaDoor.Tw
open Go.Mach
set_option linter.unusedVariables false
set_option maxRecDepth 20000

abbrev SpanT := Int × Int
abbrev SketchT := Int × Int × Int × Int × List Int × List Int × List (List Int)
abbrev EntryT := Int × Int × List SpanT × SketchT
abbrev OutT := Int × EntryT

abbrev hist (s : SketchT) := s.2.2.2.2.1
abbrev regs (s : SketchT) := s.2.2.2.2.2.1
abbrev rows (s : SketchT) := s.2.2.2.2.2.2

/-- Lists no longer than that. -/
def SkLe (b : Nat) (s : SketchT) : Prop := (hist s).length ≤ b ∧ (regs s).length ≤ b ∧ (rows s).length ≤ b ∧ ∀ r ∈ rows s, r.length ≤ b
def EnLe (b : Nat) (e : EntryT) : Prop := e.2.2.1.length ≤ b ∧ SkLe b e.2.2.2
def big : Nat := 9223372036854775807
def small : Nat := 1048576

/-! ### sizes -/
theorem szSpanS_is : IsSz laws_szSpanS (fun l => l.length ≤ big) (fun l => l.length ≤ small) := isSz_len
theorem szIntS_is : IsSz laws_szIntS (fun l => l.length ≤ big) (fun l => l.length ≤ small) := isSz_len

theorem szIntSS_is : IsSz laws_szIntSS (fun l => l.length ≤ big ∧ ∀ r ∈ l, r.length ≤ big) (fun l => l.length ≤ small ∧ ∀ r ∈ l, r.length ≤ small) :=
  isSz_list (S := fun d => laws_szIntSS_s122 d.1 d.2.1 d.2.2) szIntS_is [] (fun l i a hl hi => by
    simp only [laws_szIntSS_s122, Int.toNat_natCast, wrap_nat (show i ≤ 1048576 by omega)]
    rw [decide_eq_true (by omega : (i : Int) < l.length), cond_true, chk_dec (by omega), chk_dec hi]) (fun l a hl => by
    simp only [laws_szIntSS_s122]
    rw [decide_eq_false (by omega), cond_false])

theorem szSketch_is : IsSz (fun s : SketchT => laws_szSketch s.1 s.2.1 s.2.2.1 s.2.2.2.1 s.2.2.2.2.1 s.2.2.2.2.2.1 s.2.2.2.2.2.2) (SkLe big) (SkLe small) := by
  intro s a hw h0 h1
  obtain ⟨w1, w2, w3, w4⟩ := hw
  dsimp only [laws_szSketch]
  obtain ⟨b, e1, e2⟩ := szIntS_is (hist s) a w1 h0 h1
  rw [e1, Option.bind_some]
  rcases e2 with rfl | ⟨e2, e3, q1⟩
  · exact ⟨-1, rfl, .inl rfl⟩
  rw [decide_eq_false (by omega), cond_false]
  obtain ⟨c, f1, f2⟩ := szIntS_is (regs s) b w2 e2 (by omega)
  rw [f1, Option.bind_some]
  rcases f2 with rfl | ⟨f2, f3, q2⟩
  · exact ⟨-1, rfl, .inl rfl⟩
  rw [decide_eq_false (by omega), cond_false]
  obtain ⟨d, g1, g2⟩ := szIntSS_is (rows s) c ⟨w3, w4⟩ f2 (by omega)
  rw [g1, Option.bind_some]
  rcases g2 with rfl | ⟨g2, g3, q3, q4⟩
  · exact ⟨-1, rfl, .inl rfl⟩
  rw [decide_eq_false (by omega), cond_false]
  exact ⟨d, rfl, .inr ⟨g2, by omega, q1, q2, q3, q4⟩⟩

theorem szEntry_is : IsSz (fun e : EntryT => laws_szEntry e.1 e.2.1 e.2.2.1 e.2.2.2.1 e.2.2.2.2.1 e.2.2.2.2.2.1 e.2.2.2.2.2.2.1 e.2.2.2.2.2.2.2.1 e.2.2.2.2.2.2.2.2.1 e.2.2.2.2.2.2.2.2.2) (EnLe big) (EnLe small) := by
  intro e a hw h0 h1
  obtain ⟨w1, w2⟩ := hw
  dsimp only [laws_szEntry]
  obtain ⟨b, e1, e2⟩ := szSpanS_is e.2.2.1 a w1 h0 h1
  rw [e1, Option.bind_some]
  rcases e2 with rfl | ⟨e2, e3, q1⟩
  · exact ⟨-1, rfl, .inl rfl⟩
  rw [decide_eq_false (by omega), cond_false]
  obtain ⟨c, f1, f2⟩ := szSketch_is e.2.2.2 b w2 e2 (by omega)
  dsimp only at f1
  rw [f1, Option.bind_some]
  rcases f2 with rfl | ⟨f2, f3, q2⟩
  · exact ⟨-1, rfl, .inl rfl⟩
  rw [decide_eq_false (by omega), cond_false]
  exact ⟨c, rfl, .inr ⟨f2, by omega, q1, q2⟩⟩

abbrev ent0 : EntryT := (0, 0, [], 0, 0, 0, 0, [], [], [])

/-! ### copies -/
theorem toSpanS_eq {l : List SpanT} (hl : l.length ≤ 1048576) : laws_toSpanS l = some l := by
  unfold laws_toSpanS
  rw [chk_dec (by simp only [Int.toNat_natCast]; omega)]
  have : laws_toSpanS_l58 l (List.replicate (Int.toNat (l.length : Int)) (0, 0)) 0 = some l := by
    simp only [Int.toNat_natCast, ← cp_zero]
    refine (det_run (S := fun d => laws_toSpanS_s58 d.1 d.2.1 d.2.2) (fun i => (l, cp l (0, 0) i, (i : Int))) hl (fun i hi => ?_) ?_)
    · have h1 := cp_length l (0, 0) i (by omega)
      simp only [laws_toSpanS_s58, laws_toSpan, Int.toNat_natCast, wrap_nat (show i ≤ 1048576 by omega), h1]
      rw [decide_eq_true (by omega : (i : Int) < l.length), cond_true, chk_dec (by omega), chk_dec hi, Option.bind_some, chk_dec (by omega), chk_dec hi, chk_dec hi, ← cp_set l (0, 0) i hi]
    · simp only [laws_toSpanS_s58]
      rw [decide_eq_false (by omega), cond_false, cp_all]
  rw [this]
  rfl

theorem toIntS_eq {l : List Int} (hl : l.length ≤ 1048576) : laws_toIntS l = some l := by
  unfold laws_toIntS
  rw [chk_dec (by simp only [Int.toNat_natCast]; omega)]
  have : laws_toIntS_l58 l (List.replicate (Int.toNat (l.length : Int)) 0) 0 = some l := by
    simp only [Int.toNat_natCast, ← cp_zero]
    refine (det_run (S := fun d => laws_toIntS_s58 d.1 d.2.1 d.2.2) (fun i => (l, cp l 0 i, (i : Int))) hl (fun i hi => ?_) ?_)
    · have h1 := cp_length l 0 i (by omega)
      simp only [laws_toIntS_s58, Int.toNat_natCast, wrap_nat (show i ≤ 1048576 by omega), h1]
      rw [decide_eq_true (by omega : (i : Int) < l.length), cond_true, chk_dec (by omega), chk_dec hi, chk_dec (by omega), chk_dec hi, chk_dec hi, ← cp_set l 0 i hi]
    · simp only [laws_toIntS_s58]
      rw [decide_eq_false (by omega), cond_false, cp_all]
  rw [this]
  rfl

theorem toIntSS_eq {l : List (List Int)} (hl : l.length ≤ 1048576) (hr : ∀ r ∈ l, r.length ≤ 1048576) : laws_toIntSS l = some l := by
  unfold laws_toIntSS
  rw [chk_dec (by simp only [Int.toNat_natCast]; omega)]
  have : laws_toIntSS_l58 l (List.replicate (Int.toNat (l.length : Int)) []) 0 = some l := by
    simp only [Int.toNat_natCast, ← cp_zero]
    refine (det_run (S := fun d => laws_toIntSS_s58 d.1 d.2.1 d.2.2) (fun i => (l, cp l [] i, (i : Int))) hl (fun i hi => ?_) ?_)
    · have h1 := cp_length l [] i (by omega)
      simp only [laws_toIntSS_s58, Int.toNat_natCast, wrap_nat (show i ≤ 1048576 by omega), h1]
      rw [decide_eq_true (by omega : (i : Int) < l.length), cond_true, chk_dec (by omega), chk_dec hi, toIntS_eq (hr _ (getD_mem hi)), Option.bind_some, chk_dec (by omega), chk_dec hi, chk_dec hi, ← cp_set l [] i hi]
    · simp only [laws_toIntSS_s58]
      rw [decide_eq_false (by omega), cond_false, cp_all]
  rw [this]
  rfl

theorem toSketch_eq {s : SketchT} (h : SkLe small s) : laws_toSketch s.1 s.2.1 s.2.2.1 s.2.2.2.1 s.2.2.2.2.1 s.2.2.2.2.2.1 s.2.2.2.2.2.2 = some s := by
  obtain ⟨w1, w2, w3, w4⟩ := h
  unfold laws_toSketch
  rw [toIntS_eq w1, Option.bind_some, toIntS_eq w2, Option.bind_some, toIntSS_eq w3 w4, Option.bind_some]

theorem toEntry_eq {e : EntryT} (h : EnLe small e) : laws_toEntry e.1 e.2.1 e.2.2.1 e.2.2.2.1 e.2.2.2.2.1 e.2.2.2.2.2.1 e.2.2.2.2.2.2.1 e.2.2.2.2.2.2.2.1 e.2.2.2.2.2.2.2.2.1 e.2.2.2.2.2.2.2.2.2 =
    some e := by
  obtain ⟨w1, w2⟩ := h
  unfold laws_toEntry
  rw [toSpanS_eq w1, Option.bind_some, toSketch_eq w2, Option.bind_some]
  simp only [Option.bind_some]

theorem bne_cond {α β : Type} [DecidableEq α] (u v : α) (x y : β) : (bif u != v then x else y) = if u = v then y else x := by
  by_cases h : u = v
  · rw [if_pos h, h, bne_self_eq_false, cond_false]
  · rw [if_neg h, bne_iff_ne.2 h, cond_true]

theorem beq_cond {α β : Type} [DecidableEq α] (u v : α) (x y : β) : (bif u == v then x else y) = if u = v then x else y := by
  by_cases h : u = v
  · rw [if_pos h, beq_iff_eq.2 h, cond_true]
  · rw [if_neg h, beq_eq_false_iff_ne.2 h, cond_false]

theorem not_cond {β : Type} (p : Prop) [Decidable p] (x y : β) : (bif !decide p then x else y) = if p then y else x := by
  by_cases h : p <;> simp [h]

instance : DecidableEq SketchT := fun x y => @instDecidableEqProd _ _ _ (@instDecidableEqProd _ _ _ (@instDecidableEqProd _ _ _ (@instDecidableEqProd _ _ _ inferInstance))) x y
instance : DecidableEq EntryT := fun x y => @instDecidableEqProd _ _ _ (@instDecidableEqProd _ _ _ (@instDecidableEqProd _ _ _ (inferInstanceAs (DecidableEq SketchT)))) x y
instance : DecidableEq OutT := fun x y => @instDecidableEqProd _ _ _ (inferInstanceAs (DecidableEq EntryT)) x y

theorem span_same (x y : SpanT) : (x.1 == y.1 && (x.2 == y.2 && true)) = decide (x = y) := by
  rw [Bool.eq_iff_iff]
  simp [Prod.ext_iff]

/-! ### comparisons, one by one -/
theorem lawsEqSpan_eq (x y : SpanT) : laws_eqSpan x.1 x.2 y.1 y.2 = some (decide (x = y)) := by
  obtain ⟨a, b⟩ := x
  obtain ⟨c, d⟩ := y
  unfold laws_eqSpan
  rw [bne_cond, bne_cond]
  by_cases h1 : a = c <;> by_cases h2 : b = d <;> simp [h1, h2]

theorem lawsEqSpanS_eq {a b : List SpanT} (ha : a.length ≤ 1048576) : laws_eqSpanS a b = some (decide (a = b)) := by
  refine eqS_run (S := fun d => laws_eqSpanS_s58 d.1 d.2.1 d.2.2) (0, 0) ha (fun i => (a, b, (i : Int))) (fun i hi hb hm => ?_) (fun hb => ?_)
  · simp only [laws_eqSpanS_s58, Int.toNat_natCast, wrap_nat (show i ≤ 1048576 by omega)]
    rw [decide_eq_true (by omega : (i : Int) < a.length), cond_true, chk_dec (by omega), chk_dec hi, chk_dec (by omega), chk_dec (by omega), lawsEqSpan_eq, Option.bind_some]
    first | rw [bne_cond] | rw [not_cond]
    split <;> rfl
  · simp only [laws_eqSpanS_s58]
    rw [decide_eq_false (by omega), cond_false]

theorem lawsEqIntS_eq {a b : List Int} (ha : a.length ≤ 1048576) : laws_eqIntS a b = some (decide (a = b)) := by
  refine eqS_run (S := fun d => laws_eqIntS_s58 d.1 d.2.1 d.2.2) 0 ha (fun i => (a, b, (i : Int))) (fun i hi hb hm => ?_) (fun hb => ?_)
  · simp only [laws_eqIntS_s58, Int.toNat_natCast, wrap_nat (show i ≤ 1048576 by omega)]
    rw [decide_eq_true (by omega : (i : Int) < a.length), cond_true, chk_dec (by omega), chk_dec hi, chk_dec (by omega), chk_dec (by omega)]
    first | rw [bne_cond] | rw [not_cond]
    split <;> rfl
  · simp only [laws_eqIntS_s58]
    rw [decide_eq_false (by omega), cond_false]

theorem lawsEqIntSS_eq {a b : List (List Int)} (ha : a.length ≤ 1048576) (hr : ∀ r ∈ a, r.length ≤ 1048576) : laws_eqIntSS a b = some (decide (a = b)) := by
  refine eqS_run (S := fun d => laws_eqIntSS_s58 d.1 d.2.1 d.2.2) [] ha (fun i => (a, b, (i : Int))) (fun i hi hb hm => ?_) (fun hb => ?_)
  · simp only [laws_eqIntSS_s58, Int.toNat_natCast, wrap_nat (show i ≤ 1048576 by omega)]
    rw [decide_eq_true (by omega : (i : Int) < a.length), cond_true, chk_dec (by omega), chk_dec hi, chk_dec (by omega), chk_dec (by omega), lawsEqIntS_eq (hr _ hm), Option.bind_some]
    first | rw [bne_cond] | rw [not_cond]
    split <;> rfl
  · simp only [laws_eqIntSS_s58]
    rw [decide_eq_false (by omega), cond_false]

/-! ### sketches -/
theorem lawsEqSketch_eq {x y : SketchT} (h : SkLe small x) : laws_eqSketch x.1 x.2.1 x.2.2.1 x.2.2.2.1 x.2.2.2.2.1 x.2.2.2.2.2.1 x.2.2.2.2.2.2 y.1 y.2.1 y.2.2.1 y.2.2.2.1 y.2.2.2.2.1 y.2.2.2.2.2.1 y.2.2.2.2.2.2 = some (decide (x = y)) := by
  obtain ⟨a1, a2, a3, a4, a5, a6, a7⟩ := x
  obtain ⟨b1, b2, b3, b4, b5, b6, b7⟩ := y
  obtain ⟨w1, w2, w3, w4⟩ := h
  dsimp only [hist, regs, rows] at w1 w2 w3 w4 ⊢
  unfold laws_eqSketch
  rw [lawsEqIntS_eq w1, lawsEqIntS_eq w2, lawsEqIntSS_eq w3 w4]
  simp only [Option.bind_some]
  by_cases q1 : a1 = b1 <;> by_cases q2 : a2 = b2 <;> by_cases q3 : a3 = b3 <;> by_cases q4 : a4 = b4 <;> by_cases q5 : a5 = b5 <;> by_cases q6 : a6 = b6 <;> by_cases q7 : a7 = b7 <;> simp [bne_cond, beq_cond, q1, q2, q3, q4, q5, q6, q7]

/-! ### entries -/
theorem lawsEqEntry_eq {x y : EntryT} (h : EnLe small x) : laws_eqEntry x.1 x.2.1 x.2.2.1 x.2.2.2.1 x.2.2.2.2.1 x.2.2.2.2.2.1 x.2.2.2.2.2.2.1 x.2.2.2.2.2.2.2.1 x.2.2.2.2.2.2.2.2.1 x.2.2.2.2.2.2.2.2.2
    y.1 y.2.1 y.2.2.1 y.2.2.2.1 y.2.2.2.2.1 y.2.2.2.2.2.1 y.2.2.2.2.2.2.1 y.2.2.2.2.2.2.2.1 y.2.2.2.2.2.2.2.2.1 y.2.2.2.2.2.2.2.2.2 = some (decide (x = y)) := by
  obtain ⟨a1, a2, a3, a4⟩ := x
  obtain ⟨b1, b2, b3, b4⟩ := y
  obtain ⟨w1, w2⟩ := h
  dsimp only at w1 w2 ⊢
  unfold laws_eqEntry
  rw [lawsEqSpanS_eq w1, lawsEqSketch_eq w2]
  simp only [Option.bind_some]
  by_cases q1 : a1 = b1 <;> by_cases q2 : a2 = b2 <;> by_cases q3 : a3 = b3 <;> by_cases q4 : a4 = b4 <;> simp [bne_cond, beq_cond, q1, q2, q3, q4]

/-! ### the law -/
abbrev kSpan : K := .pair kI kI
abbrev kSketch : K := .pair kI (.pair kI (.pair kI (.pair kI (.pair (.list kI) (.pair (.list kI) (.list (.list kI)))))))
abbrev kEntry : K := .pair kI (.pair kI (.pair (.list kSpan) kSketch))
abbrev kOut : K := .pair kI kEntry

theorem skLe_of_wf {s : SketchT} (h : Wf kSketch s) : SkLe big s := ⟨h.2.2.2.2.1.1, h.2.2.2.2.2.1.1, h.2.2.2.2.2.2.1, fun r hr => (h.2.2.2.2.2.2.2 r hr).1⟩
theorem enLe_of_wf {e : EntryT} (h : Wf kEntry e) : EnLe big e := ⟨h.2.2.1.1, skLe_of_wf h.2.2.2⟩
abbrev out0 : OutT := (0, ent0)

theorem szOut_is : IsSz (fun o : OutT => laws_szOut o.1 o.2.1 o.2.2.1 o.2.2.2.1 o.2.2.2.2.1 o.2.2.2.2.2.1 o.2.2.2.2.2.2.1 o.2.2.2.2.2.2.2.1 o.2.2.2.2.2.2.2.2.1 o.2.2.2.2.2.2.2.2.2.1 o.2.2.2.2.2.2.2.2.2.2) (fun o => EnLe big o.2) (fun o => EnLe small o.2) := by
  intro o a hw h0 h1
  dsimp only [laws_szOut]
  obtain ⟨b, e1, e2⟩ := szEntry_is o.2 a hw h0 h1
  dsimp only at e1
  rw [e1, Option.bind_some]
  rcases e2 with rfl | ⟨e2, e3, q1⟩
  · exact ⟨-1, rfl, .inl rfl⟩
  rw [decide_eq_false (by omega), cond_false]
  exact ⟨b, rfl, .inr ⟨e2, e3, q1⟩⟩

theorem toOut_eq {o : OutT} (h : EnLe small o.2) : laws_toOut o.1 o.2.1 o.2.2.1 o.2.2.2.1 o.2.2.2.2.1 o.2.2.2.2.2.1 o.2.2.2.2.2.2.1 o.2.2.2.2.2.2.2.1 o.2.2.2.2.2.2.2.2.1 o.2.2.2.2.2.2.2.2.2.1 o.2.2.2.2.2.2.2.2.2.2 =
    some o := by
  unfold laws_toOut
  rw [toEntry_eq h, Option.bind_some]
  simp only [Option.bind_some]

theorem lawsEqOut_eq {x y : OutT} (h : EnLe small x.2) : laws_eqOut x.1 x.2.1 x.2.2.1 x.2.2.2.1 x.2.2.2.2.1 x.2.2.2.2.2.1 x.2.2.2.2.2.2.1 x.2.2.2.2.2.2.2.1 x.2.2.2.2.2.2.2.2.1 x.2.2.2.2.2.2.2.2.2.1 x.2.2.2.2.2.2.2.2.2.2
    y.1 y.2.1 y.2.2.1 y.2.2.2.1 y.2.2.2.2.1 y.2.2.2.2.2.1 y.2.2.2.2.2.2.1 y.2.2.2.2.2.2.2.1 y.2.2.2.2.2.2.2.2.1 y.2.2.2.2.2.2.2.2.2.1 y.2.2.2.2.2.2.2.2.2.2 = some (decide (x = y)) := by
  obtain ⟨a1, a2⟩ := x
  obtain ⟨b1, b2⟩ := y
  dsimp only at h ⊢
  unfold laws_eqOut
  rw [lawsEqEntry_eq h, bne_cond, Option.bind_some, not_cond]
  by_cases q1 : a1 = b1 <;> by_cases q2 : a2 = b2 <;> simp [q1, q2]

/-! ### bounds -/
def inR (x a b : Int) : Bool := decide (x ≥ a) && decide (x ≤ b)
theorem l1In_eq (x a b : Int) : spec_l1In x a b = some (inR x a b) := by unfold spec_l1In inR; cases decide (x ≥ a) <;> rfl
theorem within_eq (x a b : Int) : impl_within x a b = some (inR x a b) := by unfold impl_within inR; cases decide (x ≥ a) <;> rfl
theorem inR_iff {x a b : Int} : inR x a b = true ↔ a ≤ x ∧ x ≤ b := by simp [inR]

theorem cnd_not {β : Type} (b : Bool) (x y : β) : (bif !b then x else y) = if b then y else x := by cases b <;> rfl
theorem cnd {β : Type} (b : Bool) (x y : β) : (bif b then x else y) = if b then x else y := by cases b <;> rfl

theorem walkB {σ β : Type} {S : σ → Option (σ ⊕ β)} (st : Nat → σ) {n : Nat} (hn : n ≤ 1048576) (p : Nat → Bool) {t e : β}
    (h1 : ∀ i, i < n → S (st i) = some (bif p i then .inl (st (i + 1)) else .inr e)) (h2 : S (st n) = some (.inr t)) : iter S bigN (st 0) = some (bif (List.range n).all p then t else e) := by
  rw [walk_run st hn p (fun i hi => by rw [h1 i hi]; cases p i <;> rfl) h2]
  cases (List.range n).all p <;> rfl

/-! ### sets -/
def spanOk (l : List SpanT) (i : Nat) : Bool :=
  inR (l.getD i (0, 0)).1 0 9999 && (inR (l.getD i (0, 0)).2 (l.getD i (0, 0)).1 9999 && !(decide (0 < i) && decide ((l.getD i (0, 0)).1 ≤ IntKind.wrap .i64 ((l.getD (i - 1) (0, 0)).2 + 1))))

def setOk (l : List SpanT) : Bool := (List.range l.length).all (spanOk l)

theorem wrap_pred {i : Nat} (h : 0 < i) (h' : i ≤ 1048576) : IntKind.wrap .i64 ((i : Int) - 1) = ((i - 1 : Nat) : Int) := by
  rw [wrap_i64 (by omega) (by omega)]
  omega

theorem specSetOk_eq {l : List SpanT} (hl : l.length ≤ 1048576) : spec_SetOk l = some (setOk l) := by
  unfold spec_SetOk
  have : spec_SetOk_l26 l 0 = some (bif setOk l then .inr () else .inl false) := by
    refine walkB (S := fun d => spec_SetOk_s26 d.1 d.2) (fun i => (l, (i : Int))) hl (spanOk l) (fun i hi => ?_) ?_
    · simp only [spec_SetOk_s26, Int.toNat_natCast, wrap_nat (show i ≤ 1048576 by omega), l1In_eq]
      have h0 : (0 : Int) ≤ (i : Int) := by omega
      rw [decide_eq_true (by omega : (i : Int) < l.length), cond_true]
      simp only [chk_dec h0, chk_dec hi, Option.bind_some, spanOk]
      generalize inR (l.getD i (0, 0)).1 0 9999 = b1
      generalize inR (l.getD i (0, 0)).2 (l.getD i (0, 0)).1 9999 = b2
      cases b1 <;> cases b2 <;> try rfl
      by_cases hz : 0 < i
      · rw [decide_eq_true (by omega : (i : Int) > 0), cond_true, wrap_pred hz (by omega)]
        rw [chk_dec (by omega), Int.toNat_natCast, chk_dec (by omega)]
        generalize decide ((l.getD i (0, 0)).1 ≤ IntKind.wrap .i64 ((l.getD (i - 1) (0, 0)).2 + 1)) = b3
        rw [decide_eq_true hz]
        cases b3 <;> rfl
      · rw [decide_eq_false (by omega : ¬ (i : Int) > 0), cond_false, decide_eq_false hz]
        rfl
    · simp only [spec_SetOk_s26]
      rw [decide_eq_false (by omega), cond_false]
  rw [this]
  cases setOk l <;> rfl

theorem implSetOk_eq {l : List SpanT} (hl : l.length ≤ 1048576) : impl_SetOk l = some (setOk l) := by
  unfold impl_SetOk
  have : impl_SetOk_l26 l l l.length 0 = some (bif setOk l then .inr () else .inl false) := by
    refine walkB (S := fun d => impl_SetOk_s26 d.1 d.2.1 d.2.2.1 d.2.2.2) (fun i => (l, l, (l.length : Int), (i : Int))) hl (spanOk l) (fun i hi => ?_) ?_
    · simp only [impl_SetOk_s26, Int.toNat_natCast, wrap_nat (show i ≤ 1048576 by omega), within_eq]
      have h0 : (0 : Int) ≤ (i : Int) := by omega
      rw [decide_eq_true (by omega : (i : Int) < l.length), cond_true]
      simp only [chk_dec h0, chk_dec hi, Option.bind_some, spanOk]
      generalize inR (l.getD i (0, 0)).1 0 9999 = b1
      generalize inR (l.getD i (0, 0)).2 (l.getD i (0, 0)).1 9999 = b2
      cases b1 <;> cases b2 <;> try rfl
      by_cases hz : 0 < i
      · rw [decide_eq_true (by omega : (i : Int) > 0), cond_true, wrap_pred hz (by omega)]
        rw [chk_dec (by omega), Int.toNat_natCast, chk_dec (by omega)]
        generalize decide ((l.getD i (0, 0)).1 ≤ IntKind.wrap .i64 ((l.getD (i - 1) (0, 0)).2 + 1)) = b3
        rw [decide_eq_true hz]
        cases b3 <;> rfl
      · rw [decide_eq_false (by omega : ¬ (i : Int) > 0), cond_false, decide_eq_false hz]
        rfl
    · simp only [impl_SetOk_s26]
      rw [decide_eq_false (by omega), cond_false]
  rw [this]
  cases setOk l <;> rfl

/-! ### sketches -/
def l3L (l : List Int) (n most : Int) (z : Bool) : Bool := decide ((l.length : Int) = n) && l.all (fun x => inR x 0 most && !(z && (x != 0)))

theorem l3List_eq {l : List Int} {n most : Int} {z : Bool} (hl : l.length ≤ 1048576) : spec_l3List l n most z = some (l3L l n most z) := by
  unfold spec_l3List l3L
  rw [bne_cond]
  by_cases hn : (l.length : Int) = n
  · subst hn
    rw [if_pos rfl]
    have : spec_l3List_l58 l l.length most z 0 = some (bif l.all (fun x => inR x 0 most && !(z && (x != 0))) then .inr () else .inl false) := by
      rw [← all_range_all 0 (fun x => inR x 0 most && !(z && (x != 0))) l]
      refine walkB (S := fun d => spec_l3List_s58 d.1 d.2.1 d.2.2.1 d.2.2.2.1 d.2.2.2.2) (fun i => (l, (l.length : Int), most, z, (i : Int))) hl (fun i => (fun x => inR x 0 most && !(z && (x != 0))) (l.getD i 0)) (fun i hi => ?_) ?_
      · simp only [spec_l3List_s58, Int.toNat_natCast, wrap_nat (show i ≤ 1048576 by omega), l1In_eq]
        have h0 : (0 : Int) ≤ (i : Int) := by omega
        rw [decide_eq_true (by omega : (i : Int) < l.length), cond_true]
        simp only [chk_dec h0, chk_dec hi, Option.bind_some]
        generalize inR (l.getD i 0) 0 most = b1
        generalize (l.getD i 0 != 0) = b2
        cases b1 <;> cases b2 <;> cases z <;> rfl
      · simp only [spec_l3List_s58]
        rw [decide_eq_false (by omega), cond_false]
    rw [this]
    cases l.all (fun x => inR x 0 most && !(z && (x != 0))) <;> simp
  · rw [if_neg hn]
    simp [hn]

theorem l3L_iff {l : List Int} {n most : Int} {z : Bool} : l3L l n most z = true ↔ (l.length : Int) = n ∧ ∀ x ∈ l, (0 ≤ x ∧ x ≤ most) ∧ (z = true → x = 0) := by
  simp only [l3L, Bool.and_eq_true, decide_eq_true_eq, List.all_eq_true, inR_iff, Bool.not_eq_true']
  refine and_congr Iff.rfl (forall_congr' fun x => forall_congr' fun _ => and_congr Iff.rfl ?_)
  cases z <;> simp

/-- A sketch is right. -/
structure SkOk (s : SketchT) : Prop where
  cnt : 0 ≤ s.1 ∧ s.1 ≤ 1000000000
  sum : 0 ≤ s.2.1 ∧ s.2.1 ≤ 1000000000
  min : 0 ≤ s.2.2.1 ∧ s.2.2.1 ≤ 1000000
  max : 0 ≤ s.2.2.2.1 ∧ s.2.2.2.1 ≤ 1000000
  le : s.2.2.1 ≤ s.2.2.2.1
  rows : ∃ r0 r1, s.2.2.2.2.2.2 = [r0, r1] ∧ ((r0.length = 4) ∧ ∀ x ∈ r0, (0 ≤ x ∧ x ≤ 1000000000) ∧ (s.1 = 0 → x = 0)) ∧ ((r1.length = 4) ∧ ∀ x ∈ r1, (0 ≤ x ∧ x ≤ 1000000000) ∧ (s.1 = 0 → x = 0))
  zero : s.1 = 0 → s.2.1 = 0 ∧ s.2.2.2.1 = 0
  hist : s.2.2.2.2.1.length = 8 ∧ ∀ x ∈ s.2.2.2.2.1, (0 ≤ x ∧ x ≤ 1000000000) ∧ (s.1 = 0 → x = 0)
  regs : s.2.2.2.2.2.1.length = 8 ∧ ∀ x ∈ s.2.2.2.2.2.1, (0 ≤ x ∧ x ≤ 17) ∧ (s.1 = 0 → x = 0)

def skOk (s : SketchT) : Bool := inR s.1 0 1000000000 && (inR s.2.1 0 1000000000 && (inR s.2.2.1 0 1000000 && (inR s.2.2.2.1 0 1000000 && (!decide (s.2.2.1 > s.2.2.2.1) && (((rows s).length : Int) == 2 &&
  (!((s.1 == 0) && ((s.2.1 != 0) || (s.2.2.2.1 != 0))) && (l3L (hist s) 8 1000000000 (s.1 == 0) && (l3L (regs s) 8 17 (s.1 == 0) && (l3L ((rows s).getD 0 []) 4 1000000000 (s.1 == 0) && l3L ((rows s).getD 1 []) 4 1000000000 (s.1 == 0))))))))))

theorem skOk_iff {s : SketchT} : skOk s = true ↔ SkOk s := by
  obtain ⟨a1, a2, a3, a4, a5, a6, a7⟩ := s
  simp only [skOk, Bool.and_eq_true, inR_iff, Bool.not_eq_true', decide_eq_false_iff_not, beq_iff_eq, l3L_iff, hist, regs, rows]
  constructor
  · rintro ⟨h1, h2, h3, h4, h5, h6, h7, h8, h9, h10, h11⟩
    match a7, h6 with
    | [r0, r1], _ =>
      refine ⟨h1, h2, h3, h4, by dsimp only at h5 ⊢; omega, ⟨r0, r1, rfl, ⟨by have : (r0.length : Int) = 4 := h10.1; omega, fun x hx => ⟨(h10.2 x hx).1, fun hz => (h10.2 x hx).2 (by simpa using hz)⟩⟩, ⟨by have : (r1.length : Int) = 4 := h11.1; omega, fun x hx => ⟨(h11.2 x hx).1, fun hz => (h11.2 x hx).2 (by simpa using hz)⟩⟩⟩, fun hz => ?_,
        ⟨by have := h8.1; dsimp only; omega, fun x hx => ⟨(h8.2 x hx).1, fun hz => (h8.2 x hx).2 (by simpa using hz)⟩⟩, ⟨by have := h9.1; dsimp only; omega, fun x hx => ⟨(h9.2 x hx).1, fun hz => (h9.2 x hx).2 (by simpa using hz)⟩⟩⟩
      dsimp only at hz h7 ⊢
      subst hz
      simpa using h7
    | [], h => simp at h
    | [_], h => simp at h
    | _ :: _ :: _ :: _, h => simp at h; omega
  · rintro ⟨h1, h2, h3, h4, h5, ⟨r0, r1, h6, h10, h11⟩, h7, h8, h9⟩
    dsimp only at h6 h7 h8 h9 h10 h11
    subst h6
    have e0 : (r0.length : Int) = 4 := by omega
    have e1 : (r1.length : Int) = 4 := by omega
    refine ⟨h1, h2, h3, h4, by dsimp only at h5; omega, by simp, ?_, ⟨by omega, fun x hx => ⟨(h8.2 x hx).1, fun hz => (h8.2 x hx).2 (by simpa using hz)⟩⟩, ⟨by omega, fun x hx => ⟨(h9.2 x hx).1, fun hz => (h9.2 x hx).2 (by simpa using hz)⟩⟩,
      ⟨e0, fun x hx => ⟨(h10.2 x hx).1, fun hz => (h10.2 x hx).2 (by simpa using hz)⟩⟩, ⟨e1, fun x hx => ⟨(h11.2 x hx).1, fun hz => (h11.2 x hx).2 (by simpa using hz)⟩⟩⟩
    by_cases hz : a1 = 0
    · have := h7 hz
      simp [this.1, this.2]
    · simp [hz]

theorem getD_len {l : List (List Int)} {b : Nat} (h : ∀ r ∈ l, r.length ≤ b) (i : Nat) : (l.getD i []).length ≤ b := by
  rw [List.getD_eq_getElem?_getD]
  cases hq : l[i]? with
  | none => simp
  | some r => exact h r (List.mem_of_getElem? hq)

theorem specSketchOk_eq {s : SketchT} (h : SkLe small s) : spec_SketchOk s.1 s.2.1 s.2.2.1 s.2.2.2.1 s.2.2.2.2.1 s.2.2.2.2.2.1 s.2.2.2.2.2.2 = some (skOk s) := by
  obtain ⟨w1, w2, w3, w4⟩ := h
  unfold spec_SketchOk skOk
  simp only [l1In_eq, Option.bind_some]
  have hj : ((rows s).length : Int) = 2 → ∀ z, spec_SketchOk_l31 s.1 s.2.1 s.2.2.1 s.2.2.2.1 s.2.2.2.2.1 s.2.2.2.2.2.1 s.2.2.2.2.2.2 z =
      some (l3L (hist s) 8 1000000000 z && (l3L (regs s) 8 17 z && (l3L ((rows s).getD 0 []) 4 1000000000 z && l3L ((rows s).getD 1 []) 4 1000000000 z))) := by
    intro hr z
    have hr' : (s.2.2.2.2.2.2.length : Int) = 2 := hr
    unfold spec_SketchOk_l31
    rw [l3List_eq w1, l3List_eq w2, l3List_eq (getD_len w4 0), l3List_eq (getD_len w4 1), chk_dec (by omega), chk_dec (by omega)]
    simp only [Option.bind_some]
    generalize l3L (hist s) 8 1000000000 z = b1
    generalize l3L (regs s) 8 17 z = b2
    cases b1 <;> cases b2 <;> try rfl
    cases l3L ((rows s).getD 0 []) 4 1000000000 z <;> rfl
  generalize inR s.1 0 1000000000 = b1
  generalize inR s.2.1 0 1000000000 = b2
  generalize inR s.2.2.1 0 1000000 = b3
  generalize inR s.2.2.2.1 0 1000000 = b4
  generalize decide (s.2.2.1 > s.2.2.2.1) = b5
  cases b1 <;> try rfl
  cases b2 <;> try rfl
  cases b3 <;> try rfl
  cases b4 <;> try rfl
  cases b5 <;> try rfl
  simp only [Bool.not_true, cond_false, Bool.true_and, Bool.not_false]
  by_cases hr : ((rows s).length : Int) = 2
  · rw [hj hr]
    have e1 : ((s.2.2.2.2.2.2.length : Int) != 2) = false := by simpa using hr
    have e2 : (((rows s).length : Int) == 2) = true := by simpa using hr
    rw [e1, e2]
    generalize (s.1 == 0) = b6
    generalize (s.2.1 != 0) = b7
    generalize (s.2.2.2.1 != 0) = b8
    cases b6 <;> cases b7 <;> cases b8 <;> simp
  · have e1 : ((s.2.2.2.2.2.2.length : Int) != 2) = true := by simpa using hr
    have e2 : (((rows s).length : Int) == 2) = false := by simpa using hr
    rw [e1, e2]
    rfl

/-! #### the program's way -/
theorem fits8 {n : Nat} (h : n ≤ 1048576) : fits n 8 = true := by
  unfold fits
  rw [decide_eq_true_eq]
  refine ⟨?_, ?_⟩
  · unfold rowMost; omega
  · unfold byteMost; omega

theorem copyInts_eq {l : List Int} (h : l.length ≤ 1048576) : impl_copyInts l = some l := by
  unfold impl_copyInts
  rw [fits8 h]
  rfl

theorem counts_eq {c s mi ma : Int} {h r r0 r1 : List Int} (hh : h.length ≤ 1000) (hr : r.length ≤ 1000) (h0 : r0.length ≤ 1000) (h1 : r1.length ≤ 1000) :
    impl_counts c s mi ma h r [r0, r1] = some (h ++ r ++ r0 ++ r1) := by
  unfold impl_counts
  rw [copyInts_eq (by omega), Option.bind_some, fits8 (by omega), chk_tt]
  have : impl_counts_l58 (h ++ r) [r0, r1] (List.length [r0, r1] : Int) 0 = some (h ++ r ++ r0 ++ r1) := by
    refine det_run (S := fun d => impl_counts_s58 d.1 d.2.1 d.2.2.1 d.2.2.2) (n := 2) (fun i => ((match i with | 0 => h ++ r | 1 => h ++ r ++ r0 | _ => h ++ r ++ r0 ++ r1), [r0, r1], 2, (i : Int))) (by omega) (fun i hi => ?_) ?_
    · have : i = 0 ∨ i = 1 := by omega
      rcases this with rfl | rfl
      · have hf : fits (List.length (h ++ r) + List.length r0) 8 = true := fits8 (by simp; omega)
        have : fits ((h ++ r).length + (List.getD [r0, r1] (Int.toNat ((0 : Nat) : Int)) []).length) 8 = true := hf
        simp only [impl_counts_s58, this]
        rfl
      · have hf : fits (List.length (h ++ r ++ r0) + List.length r1) 8 = true := fits8 (by simp; omega)
        have : fits ((h ++ r ++ r0).length + (List.getD [r0, r1] (Int.toNat ((1 : Nat) : Int)) []).length) 8 = true := hf
        simp only [impl_counts_s58, this]
        rfl
    · rfl
  rw [this]
  rfl

def accW (l : List Int) : Nat → Int
  | 0 => 0
  | i + 1 => IntKind.wrap .i64 (accW l i + l.getD i 0)

theorem accW_zero {l : List Int} (hl : l.length ≤ 100) (h : ∀ x ∈ l, 0 ≤ x ∧ x ≤ 1000000000) : ∀ i, i ≤ l.length → (0 ≤ accW l i ∧ accW l i ≤ i * 1000000000) ∧ (accW l i = 0 ↔ ∀ j, j < i → l.getD j 0 = 0)
  | 0, _ => ⟨⟨by simp [accW], by simp [accW]⟩, by simp [accW]⟩
  | i + 1, hi => by
    obtain ⟨⟨h1, h2⟩, h3⟩ := accW_zero hl h i (by omega)
    obtain ⟨q1, q2⟩ := h _ (getD_mem (d := 0) (show i < l.length by omega))
    have hw : accW l (i + 1) = accW l i + l.getD i 0 := by
      simp only [accW]
      exact wrap_i64 (by omega) (by omega)
    rw [hw]
    refine ⟨⟨by omega, by omega⟩, ?_⟩
    constructor
    · intro hz j hj
      by_cases hji : j = i
      · subst hji; omega
      · exact h3.1 (by omega) j (by omega)
    · intro hz
      rw [h3.2 fun j hj => hz j (by omega), hz i (by omega)]
      rfl

theorem implSketchOk_eq {s : SketchT} (h : SkLe small s) : impl_SketchOk s.1 s.2.1 s.2.2.1 s.2.2.2.1 s.2.2.2.2.1 s.2.2.2.2.2.1 s.2.2.2.2.2.2 = some (skOk s) := by
  obtain ⟨a1, a2, a3, a4, a5, a6, a7⟩ := s
  obtain ⟨w1, w2, w3, w4⟩ := h
  dsimp only [hist, regs, rows] at w1 w2 w3 w4 ⊢
  have no : ¬ SkOk (a1, a2, a3, a4, a5, a6, a7) → (some false : Option Bool) = some (skOk (a1, a2, a3, a4, a5, a6, a7)) := by
    intro hn
    cases hq : skOk (a1, a2, a3, a4, a5, a6, a7) with
    | false => rfl
    | true => exact absurd (skOk_iff.1 hq) hn
  unfold impl_SketchOk
  simp only [bne_cond]
  by_cases h5 : (a5.length : Int) = 8
  · rw [if_pos h5]
    by_cases h6 : (a6.length : Int) = 8
    · rw [if_pos h6]
      by_cases h7 : (a7.length : Int) = 2
      · rw [if_pos h7]
        match a7, h7 with
        | [r0, r1], _ =>
          have g0 : List.getD [r0, r1] 0 [] = r0 := rfl
          have g1 : List.getD [r0, r1] 1 [] = r1 := rfl
          rw [g0, g1, chk_dec (by simp)]
          by_cases h8 : (r0.length : Int) = 4
          · rw [if_pos h8, chk_dec (by simp)]
            by_cases h9 : (r1.length : Int) = 4
            · rw [if_pos h9, counts_eq (by omega) (by omega) (by omega) (by omega), Option.bind_some]
              rw [fits8 (by simp; omega), chk_tt]
              generalize hL : a5 ++ a6 ++ r0 ++ r1 ++ [a1, a2, a3, a4] = L
              have hLlen : L.length = 28 := by rw [← hL]; simp; omega
              have hmem : ∀ x, x ∈ L ↔ (x ∈ a5 ∨ x ∈ a6 ∨ x ∈ r0 ∨ x ∈ r1 ∨ x = a1 ∨ x = a2 ∨ x = a3 ∨ x = a4) := by
                intro x
                rw [← hL]
                simp only [List.mem_append, List.mem_cons, List.not_mem_nil, or_false]
                simp only [or_assoc]
              have e1 : impl_SketchOk_l122 a1 a2 a3 a4 a5 a6 [r0, r1] 0 L L.length 0 = some (bif L.all (fun x => inR x 0 1000000000) then .inr ((a1, a2, a3, a4, a5, a6, [r0, r1]), accW L L.length) else .inl false) := by
                rw [← all_range_all 0 (fun x => inR x 0 1000000000) L]
                refine walkB (S := fun d => impl_SketchOk_s122 d.1.1 d.1.2.1 d.1.2.2.1 d.1.2.2.2.1 d.1.2.2.2.2.1 d.1.2.2.2.2.2.1 d.1.2.2.2.2.2.2 d.2.1 d.2.2.1 d.2.2.2.1 d.2.2.2.2)
                  (fun i => ((a1, a2, a3, a4, a5, a6, [r0, r1]), accW L i, L, (L.length : Int), (i : Int))) (by omega) (fun i => (fun x => inR x 0 1000000000) (L.getD i 0)) (fun i hi => ?_) ?_
                · simp only [impl_SketchOk_s122, Int.toNat_natCast, wrap_nat (show i ≤ 1048576 by omega), within_eq]
                  have hi0 : (0 : Int) ≤ (i : Int) := by omega
                  rw [decide_eq_true (by omega : (i : Int) < L.length), cond_true]
                  simp only [chk_dec hi0, chk_dec hi, Option.bind_some, accW]
                  cases inR (L.getD i 0) 0 1000000000 <;> rfl
                · simp only [impl_SketchOk_s122]
                  rw [decide_eq_false (by omega), cond_false]
              have e2 : ∀ t : Int, impl_SketchOk_l250 a1 a2 a3 a4 a5 a6 [r0, r1] t a6 a6.length 0 = some (bif a6.all (fun x => !decide (x > 17)) then .inr ((a1, a2, a3, a4, a5, a6, [r0, r1]), t) else .inl false) := by
                intro t
                rw [← all_range_all 0 (fun x => !decide (x > 17)) a6]
                refine walkB (S := fun d => impl_SketchOk_s250 d.1.1 d.1.2.1 d.1.2.2.1 d.1.2.2.2.1 d.1.2.2.2.2.1 d.1.2.2.2.2.2.1 d.1.2.2.2.2.2.2 d.2.1 d.2.2.1 d.2.2.2.1 d.2.2.2.2)
                  (fun i => ((a1, a2, a3, a4, a5, a6, [r0, r1]), t, a6, (a6.length : Int), (i : Int))) (by omega) (fun i => (fun x => !decide (x > 17)) (a6.getD i 0)) (fun i hi => ?_) ?_
                · simp only [impl_SketchOk_s250, Int.toNat_natCast, wrap_nat (show i ≤ 1048576 by omega)]
                  have hi0 : (0 : Int) ≤ (i : Int) := by omega
                  rw [decide_eq_true (by omega : (i : Int) < a6.length), cond_true]
                  simp only [chk_dec hi0, chk_dec hi]
                  cases decide (a6.getD i 0 > 17) <;> rfl
                · simp only [impl_SketchOk_s250]
                  rw [decide_eq_false (by omega), cond_false]
              rw [e1]
              by_cases hall : L.all (fun x => inR x 0 1000000000) = true
              · rw [hall]
                simp only [cond_true, Option.bind_some, Sum.elim_inr]
                rw [e2]
                have hin : ∀ x ∈ L, 0 ≤ x ∧ x ≤ 1000000000 := by simpa [inR_iff] using hall
                obtain ⟨_, hz⟩ := accW_zero (by omega) hin L.length (Nat.le_refl _)
                have hz' : accW L L.length = 0 ↔ ∀ x ∈ L, x = 0 := by
                  rw [hz]
                  constructor
                  · intro q x hx
                    obtain ⟨j, hj⟩ := List.getElem?_of_mem hx
                    have := q j (List.getElem?_eq_some_iff.1 hj).1
                    simpa [List.getD_eq_getElem?_getD, hj] using this
                  · intro q j hj
                    exact q _ (getD_mem hj)
                have h17 : a6.all (fun x => !decide (x > 17)) = true ↔ ∀ x ∈ a6, x ≤ 17 := by simp
                have i5 : ∀ x ∈ a5, 0 ≤ x ∧ x ≤ 1000000000 := fun x hx => hin x ((hmem x).2 (.inl hx))
                have i6 : ∀ x ∈ a6, 0 ≤ x ∧ x ≤ 1000000000 := fun x hx => hin x ((hmem x).2 (.inr (.inl hx)))
                have j0 : ∀ x ∈ r0, 0 ≤ x ∧ x ≤ 1000000000 := fun x hx => hin x ((hmem x).2 (.inr (.inr (.inl hx))))
                have j1 : ∀ x ∈ r1, 0 ≤ x ∧ x ≤ 1000000000 := fun x hx => hin x ((hmem x).2 (.inr (.inr (.inr (.inl hx)))))
                have k1 := hin a1 ((hmem a1).2 (by simp))
                have k2 := hin a2 ((hmem a2).2 (by simp))
                have k3 := hin a3 ((hmem a3).2 (by simp))
                have k4 := hin a4 ((hmem a4).2 (by simp))
                by_cases h17' : a6.all (fun x => !decide (x > 17)) = true
                · rw [h17']
                  simp only [cond_true, Option.bind_some, Sum.elim_inr]
                  have l17 := h17.1 h17'
                  rw [beq_cond]
                  by_cases hc : a1 = 0
                  · rw [if_pos hc]
                    congr 1
                    rw [Bool.eq_iff_iff, beq_iff_eq, hz', skOk_iff]
                    constructor
                    · intro hall0
                      have m2 := hall0 a2 ((hmem a2).2 (by simp))
                      have m3 := hall0 a3 ((hmem a3).2 (by simp))
                      have m4 := hall0 a4 ((hmem a4).2 (by simp))
                      exact ⟨k1, k2, by dsimp only; omega, by dsimp only; omega, by dsimp only; omega, ⟨r0, r1, rfl, ⟨by omega, fun x hx => ⟨j0 x hx, fun _ => hall0 x ((hmem x).2 (.inr (.inr (.inl hx))))⟩⟩,
                        ⟨by omega, fun x hx => ⟨j1 x hx, fun _ => hall0 x ((hmem x).2 (.inr (.inr (.inr (.inl hx)))))⟩⟩⟩, fun _ => ⟨m2, m4⟩,
                        ⟨by dsimp only; omega, fun x hx => ⟨i5 x hx, fun _ => hall0 x ((hmem x).2 (.inl hx))⟩⟩, ⟨by dsimp only; omega, fun x hx => ⟨⟨(i6 x hx).1, l17 x hx⟩, fun _ => hall0 x ((hmem x).2 (.inr (.inl hx)))⟩⟩⟩
                    · intro hs x hx
                      obtain ⟨s1, s2, s3, s4, s5, ⟨q0, q1, s6, s7, s8⟩, s9, s10, s11⟩ := hs
                      simp only [List.cons.injEq, and_true] at s6
                      obtain ⟨rfl, rfl⟩ := s6
                      obtain ⟨z2, z4⟩ := s9 hc
                      dsimp only at s3 s5 z2 z4
                      rcases (hmem x).1 hx with q | q | q | q | rfl | rfl | rfl | rfl
                      · exact (s10.2 x q).2 hc
                      · exact (s11.2 x q).2 hc
                      · exact (s7.2 x q).2 hc
                      · exact (s8.2 x q).2 hc
                      · exact hc
                      · exact z2
                      · omega
                      · exact z4
                  · rw [if_neg hc]
                    by_cases hle : a3 ≤ a4
                    · rw [decide_eq_true hle, cond_true]
                      congr 1
                      rw [Bool.eq_iff_iff, decide_eq_true_eq, skOk_iff]
                      constructor
                      · intro hm
                        exact ⟨k1, k2, by dsimp only; omega, by dsimp only; omega, hle, ⟨r0, r1, rfl, ⟨by omega, fun x hx => ⟨j0 x hx, fun q => absurd q hc⟩⟩, ⟨by omega, fun x hx => ⟨j1 x hx, fun q => absurd q hc⟩⟩⟩, fun q => absurd q hc,
                          ⟨by dsimp only; omega, fun x hx => ⟨i5 x hx, fun q => absurd q hc⟩⟩, ⟨by dsimp only; omega, fun x hx => ⟨⟨(i6 x hx).1, l17 x hx⟩, fun q => absurd q hc⟩⟩⟩
                      · intro hs
                        exact hs.max.2
                    · rw [decide_eq_false hle, cond_false]
                      exact no fun hs => hle hs.le
                · rw [Bool.not_eq_true] at h17'
                  rw [h17']
                  simp only [cond_false, Option.bind_some, Sum.elim_inl]
                  exact no fun hs => by rw [h17.2 fun x hx => (hs.regs.2 x hx).1.2] at h17'; simp at h17'
              · rw [Bool.not_eq_true] at hall
                rw [hall]
                simp only [cond_false, Option.bind_some, Sum.elim_inl]
                refine no fun hs => (by simp [hall] : ¬ L.all (fun x => inR x 0 1000000000) = true) ?_
                obtain ⟨s1, s2, s3, s4, s5, ⟨q0, q1, s6, s7, s8⟩, s9, s10, s11⟩ := hs
                simp only [List.cons.injEq, and_true] at s6
                obtain ⟨rfl, rfl⟩ := s6
                dsimp only at s1 s2 s3 s4 s5
                rw [List.all_eq_true]
                intro x hx
                rw [inR_iff]
                rcases (hmem x).1 hx with q | q | q | q | rfl | rfl | rfl | rfl
                · exact (s10.2 x q).1
                · have := (s11.2 x q).1; omega
                · exact (s7.2 x q).1
                · exact (s8.2 x q).1
                · exact s1
                · exact s2
                · omega
                · omega
            · rw [if_neg h9]
              exact no fun hs => h9 (by
                obtain ⟨q0, q1, s6, s7, s8⟩ := hs.rows
                simp only [List.cons.injEq, and_true] at s6
                obtain ⟨rfl, rfl⟩ := s6
                have := s8.1; omega)
          · rw [if_neg h8]
            exact no fun hs => h8 (by
              obtain ⟨q0, q1, s6, s7, s8⟩ := hs.rows
              simp only [List.cons.injEq, and_true] at s6
              obtain ⟨rfl, rfl⟩ := s6
              have := s7.1; omega)
        | [], h => simp at h
        | [_], h => simp at h
        | _ :: _ :: _ :: _, h => simp at h; omega
      · rw [if_neg h7]
        exact no fun hs => h7 (by
          obtain ⟨q0, q1, s6, _⟩ := hs.rows
          dsimp only at s6
          rw [s6]; rfl)
    · rw [if_neg h6]
      exact no fun hs => h6 (by have := hs.regs.1; dsimp only at this; omega)
  · rw [if_neg h5]
    exact no fun hs => h5 (by have := hs.hist.1; dsimp only at this; omega)

/-! ### entries, outs -/
def enOk (e : EntryT) : Bool := inR e.1 0 4 && inR e.2.1 0 20 && decide (e.2.2.1.length > 0) && setOk e.2.2.1 && skOk e.2.2.2

theorem specEntryOk_eq {e : EntryT} (h : EnLe small e) : spec_EntryOk e.1 e.2.1 e.2.2.1 e.2.2.2.1 e.2.2.2.2.1 e.2.2.2.2.2.1 e.2.2.2.2.2.2.1 e.2.2.2.2.2.2.2.1 e.2.2.2.2.2.2.2.2.1 e.2.2.2.2.2.2.2.2.2 = some (enOk e) := by
  obtain ⟨w1, w2⟩ := h
  unfold spec_EntryOk spec_l6Place enOk
  simp only [l1In_eq, Option.bind_some]
  rw [specSetOk_eq w1, specSketchOk_eq w2]
  have hd : decide ((e.2.2.1.length : Int) > 0) = decide (e.2.2.1.length > 0) := by
    rw [decide_eq_decide]; omega
  rw [hd]
  simp only [Option.bind_some]
  cases inR e.1 0 4 <;> cases inR e.2.1 0 20 <;> try rfl
  cases decide (e.2.2.1.length > 0) <;> try rfl
  cases setOk e.2.2.1 <;> rfl

theorem implEntryOk_eq {e : EntryT} (h : EnLe small e) : impl_EntryOk e.1 e.2.1 e.2.2.1 e.2.2.2.1 e.2.2.2.2.1 e.2.2.2.2.2.1 e.2.2.2.2.2.2.1 e.2.2.2.2.2.2.2.1 e.2.2.2.2.2.2.2.2.1 e.2.2.2.2.2.2.2.2.2 = some (enOk e) := by
  obtain ⟨w1, w2⟩ := h
  unfold impl_EntryOk enOk
  simp only [within_eq, Option.bind_some]
  rw [implSetOk_eq w1, implSketchOk_eq w2]
  have hd : decide ((e.2.2.1.length : Int) > 0) = decide (e.2.2.1.length > 0) := by
    rw [decide_eq_decide]; omega
  rw [hd]
  simp only [Option.bind_some]
  cases inR e.1 0 4 <;> cases inR e.2.1 0 20 <;> try rfl
  cases decide (e.2.2.1.length > 0) <;> cases setOk e.2.2.1 <;> rfl

def outOk (o : OutT) : Bool := inR o.1 0 1000 && enOk o.2
end Go.Proofs.YtcdkpfcfcjnooaaDoor.Tw
