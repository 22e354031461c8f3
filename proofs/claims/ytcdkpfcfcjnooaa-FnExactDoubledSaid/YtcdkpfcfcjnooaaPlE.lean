/- Plain: sizes, copies, comparisons of spans, sketches, entries, outs. No condition: lemmas. -/
import Derived.Test.YtcdkpfcfcjnooaaPlD
import Derived.Test.YtcdkpfcfcjnooaaTw2
namespace Go.Proofs.Ytcdkpfcfcjnooaa.Tw
open Go.Mach
set_option linter.unusedVariables false
set_option maxRecDepth 20000

abbrev SpanT := Int × Int
abbrev SketchT := Int × Int × Int × Int × List Int × List Int × List (List Int)
abbrev EntryT := Int × Int × List SpanT × SketchT
abbrev OutT := Int × EntryT

abbrev hist (s : SketchT) := s.2.2.2.2.1
abbrev regs (s : SketchT) := s.2.2.2.2.2.1
abbrev rows (s : SketchT) := s.2.2.2.2.2.2

/-- Lists no longer than that. -/
def SkLe (b : Nat) (s : SketchT) : Prop := (hist s).length ≤ b ∧ (regs s).length ≤ b ∧ (rows s).length ≤ b ∧ ∀ r ∈ rows s, r.length ≤ b
def EnLe (b : Nat) (e : EntryT) : Prop := e.2.2.1.length ≤ b ∧ SkLe b e.2.2.2
def big : Nat := 9223372036854775807
def small : Nat := 1048576

/-! ### sizes -/
theorem szSpanS_is : IsSz laws_szSpanS (fun l => l.length ≤ big) (fun l => l.length ≤ small) := isSz_len
theorem szIntS_is : IsSz laws_szIntS (fun l => l.length ≤ big) (fun l => l.length ≤ small) := isSz_len

theorem szIntSS_is : IsSz laws_szIntSS (fun l => l.length ≤ big ∧ ∀ r ∈ l, r.length ≤ big) (fun l => l.length ≤ small ∧ ∀ r ∈ l, r.length ≤ small) :=
  isSz_list (S := fun d => laws_szIntSS_s122 d.1 d.2.1 d.2.2) szIntS_is [] (fun l i a hl hi => by
    simp only [laws_szIntSS_s122, Int.toNat_natCast, wrap_nat (show i ≤ 1048576 by omega)]
    rw [decide_eq_true (by omega : (i : Int) < l.length), cond_true, chk_dec (by omega), chk_dec hi]) (fun l a hl => by
    simp only [laws_szIntSS_s122]
    rw [decide_eq_false (by omega), cond_false])

theorem szSketch_is : IsSz (fun s : SketchT => laws_szSketch s.1 s.2.1 s.2.2.1 s.2.2.2.1 s.2.2.2.2.1 s.2.2.2.2.2.1 s.2.2.2.2.2.2) (SkLe big) (SkLe small) := by
  intro s a hw h0 h1
  obtain ⟨w1, w2, w3, w4⟩ := hw
  dsimp only [laws_szSketch]
  obtain ⟨b, e1, e2⟩ := szIntS_is (hist s) a w1 h0 h1
  rw [e1, Option.bind_some]
  rcases e2 with rfl | ⟨e2, e3, q1⟩
  · exact ⟨-1, rfl, .inl rfl⟩
  rw [decide_eq_false (by omega), cond_false]
  obtain ⟨c, f1, f2⟩ := szIntS_is (regs s) b w2 e2 (by omega)
  rw [f1, Option.bind_some]
  rcases f2 with rfl | ⟨f2, f3, q2⟩
  · exact ⟨-1, rfl, .inl rfl⟩
  rw [decide_eq_false (by omega), cond_false]
  obtain ⟨d, g1, g2⟩ := szIntSS_is (rows s) c ⟨w3, w4⟩ f2 (by omega)
  rw [g1, Option.bind_some]
  rcases g2 with rfl | ⟨g2, g3, q3, q4⟩
  · exact ⟨-1, rfl, .inl rfl⟩
  rw [decide_eq_false (by omega), cond_false]
  exact ⟨d, rfl, .inr ⟨g2, by omega, q1, q2, q3, q4⟩⟩

theorem szEntry_is : IsSz (fun e : EntryT => laws_szEntry e.1 e.2.1 e.2.2.1 e.2.2.2.1 e.2.2.2.2.1 e.2.2.2.2.2.1 e.2.2.2.2.2.2.1 e.2.2.2.2.2.2.2.1 e.2.2.2.2.2.2.2.2.1 e.2.2.2.2.2.2.2.2.2) (EnLe big) (EnLe small) := by
  intro e a hw h0 h1
  obtain ⟨w1, w2⟩ := hw
  dsimp only [laws_szEntry]
  obtain ⟨b, e1, e2⟩ := szSpanS_is e.2.2.1 a w1 h0 h1
  rw [e1, Option.bind_some]
  rcases e2 with rfl | ⟨e2, e3, q1⟩
  · exact ⟨-1, rfl, .inl rfl⟩
  rw [decide_eq_false (by omega), cond_false]
  obtain ⟨c, f1, f2⟩ := szSketch_is e.2.2.2 b w2 e2 (by omega)
  dsimp only at f1
  rw [f1, Option.bind_some]
  rcases f2 with rfl | ⟨f2, f3, q2⟩
  · exact ⟨-1, rfl, .inl rfl⟩
  rw [decide_eq_false (by omega), cond_false]
  exact ⟨c, rfl, .inr ⟨f2, by omega, q1, q2⟩⟩

abbrev ent0 : EntryT := (0, 0, [], 0, 0, 0, 0, [], [], [])

theorem szEntryS_is : IsSz laws_szEntryS (fun l => l.length ≤ big ∧ ∀ e ∈ l, EnLe big e) (fun l => l.length ≤ small ∧ ∀ e ∈ l, EnLe small e) :=
  isSz_list (S := fun d => laws_szEntryS_s122 d.1 d.2.1 d.2.2) szEntry_is ent0 (fun l i a hl hi => by
    simp only [laws_szEntryS_s122, Int.toNat_natCast, wrap_nat (show i ≤ 1048576 by omega)]
    rw [decide_eq_true (by omega : (i : Int) < l.length), cond_true, chk_dec (by omega), chk_dec hi]) (fun l a hl => by
    simp only [laws_szEntryS_s122]
    rw [decide_eq_false (by omega), cond_false])

/-! ### copies -/
theorem toSpanS_eq {l : List SpanT} (hl : l.length ≤ 1048576) : laws_toSpanS l = some (((), (), ()), l) := by
  unfold laws_toSpanS
  rw [chk_dec (by simp only [Int.toNat_natCast]; omega)]
  have : laws_toSpanS_l58 l (List.replicate (Int.toNat (l.length : Int)) (0, 0)) 0 = some l := by
    simp only [Int.toNat_natCast, ← cp_zero]
    refine (det_run (S := fun d => laws_toSpanS_s58 d.1 d.2.1 d.2.2) (fun i => (l, cp l (0, 0) i, (i : Int))) hl (fun i hi => ?_) ?_)
    · have h1 := cp_length l (0, 0) i (by omega)
      simp only [laws_toSpanS_s58, laws_toSpan, Int.toNat_natCast, wrap_nat (show i ≤ 1048576 by omega), h1]
      rw [decide_eq_true (by omega : (i : Int) < l.length), cond_true, chk_dec (by omega), chk_dec hi, Option.bind_some, chk_dec (by omega), chk_dec hi, chk_dec hi, ← cp_set l (0, 0) i hi]
    · simp only [laws_toSpanS_s58]
      rw [decide_eq_false (by omega), cond_false, cp_all]
  rw [this]
  rfl

theorem toIntS_eq {l : List Int} (hl : l.length ≤ 1048576) : laws_toIntS l = some (((), (), ()), l) := by
  unfold laws_toIntS
  rw [chk_dec (by simp only [Int.toNat_natCast]; omega)]
  have : laws_toIntS_l58 l (List.replicate (Int.toNat (l.length : Int)) 0) 0 = some l := by
    simp only [Int.toNat_natCast, ← cp_zero]
    refine (det_run (S := fun d => laws_toIntS_s58 d.1 d.2.1 d.2.2) (fun i => (l, cp l 0 i, (i : Int))) hl (fun i hi => ?_) ?_)
    · have h1 := cp_length l 0 i (by omega)
      simp only [laws_toIntS_s58, Int.toNat_natCast, wrap_nat (show i ≤ 1048576 by omega), h1]
      rw [decide_eq_true (by omega : (i : Int) < l.length), cond_true, chk_dec (by omega), chk_dec hi, chk_dec (by omega), chk_dec hi, chk_dec hi, ← cp_set l 0 i hi]
    · simp only [laws_toIntS_s58]
      rw [decide_eq_false (by omega), cond_false, cp_all]
  rw [this]
  rfl

theorem toIntSS_eq {l : List (List Int)} (hl : l.length ≤ 1048576) (hr : ∀ r ∈ l, r.length ≤ 1048576) : laws_toIntSS l = some (((), (), ()), l) := by
  unfold laws_toIntSS
  rw [chk_dec (by simp only [Int.toNat_natCast]; omega)]
  have : laws_toIntSS_l58 l (List.replicate (Int.toNat (l.length : Int)) []) 0 = some l := by
    simp only [Int.toNat_natCast, ← cp_zero]
    refine (det_run (S := fun d => laws_toIntSS_s58 d.1 d.2.1 d.2.2) (fun i => (l, cp l [] i, (i : Int))) hl (fun i hi => ?_) ?_)
    · have h1 := cp_length l [] i (by omega)
      simp only [laws_toIntSS_s58, Int.toNat_natCast, wrap_nat (show i ≤ 1048576 by omega), h1]
      rw [decide_eq_true (by omega : (i : Int) < l.length), cond_true, chk_dec (by omega), chk_dec hi, toIntS_eq (hr _ (getD_mem hi)), Option.bind_some, chk_dec (by omega), chk_dec hi, chk_dec hi, ← cp_set l [] i hi]
    · simp only [laws_toIntSS_s58]
      rw [decide_eq_false (by omega), cond_false, cp_all]
  rw [this]
  rfl

theorem toSketch_eq {s : SketchT} (h : SkLe small s) : laws_toSketch s.1 s.2.1 s.2.2.1 s.2.2.2.1 s.2.2.2.2.1 s.2.2.2.2.2.1 s.2.2.2.2.2.2 = some ((s.1, s.2.1, s.2.2.1, s.2.2.2.1, ((), (), ()), ((), (), ()), (), (), ()), s) := by
  obtain ⟨w1, w2, w3, w4⟩ := h
  unfold laws_toSketch
  rw [toIntS_eq w1, Option.bind_some, toIntS_eq w2, Option.bind_some, toIntSS_eq w3 w4, Option.bind_some]

theorem toEntry_eq {e : EntryT} (h : EnLe small e) : laws_toEntry e.1 e.2.1 e.2.2.1 e.2.2.2.1 e.2.2.2.2.1 e.2.2.2.2.2.1 e.2.2.2.2.2.2.1 e.2.2.2.2.2.2.2.1 e.2.2.2.2.2.2.2.2.1 e.2.2.2.2.2.2.2.2.2 =
    some ((e.1, e.2.1, ((), (), ()), e.2.2.2.1, e.2.2.2.2.1, e.2.2.2.2.2.1, e.2.2.2.2.2.2.1, ((), (), ()), ((), (), ()), (), (), ()), e) := by
  obtain ⟨w1, w2⟩ := h
  unfold laws_toEntry
  rw [toSpanS_eq w1, Option.bind_some, toSketch_eq w2, Option.bind_some]

theorem toEntryS_eq {l : List EntryT} (hl : l.length ≤ 1048576) (hr : ∀ e ∈ l, EnLe small e) : laws_toEntryS l = some (((), (), ()), l) := by
  unfold laws_toEntryS
  rw [chk_dec (by simp only [Int.toNat_natCast]; omega)]
  have : laws_toEntryS_l58 l (List.replicate (Int.toNat (l.length : Int)) ent0) 0 = some l := by
    simp only [Int.toNat_natCast, ← cp_zero]
    refine (det_run (S := fun d => laws_toEntryS_s58 d.1 d.2.1 d.2.2) (fun i => (l, cp l ent0 i, (i : Int))) hl (fun i hi => ?_) ?_)
    · have h1 := cp_length l ent0 i (by omega)
      simp only [laws_toEntryS_s58, Int.toNat_natCast, wrap_nat (show i ≤ 1048576 by omega), h1]
      rw [decide_eq_true (by omega : (i : Int) < l.length), cond_true, chk_dec (by omega), chk_dec hi, toEntry_eq (hr _ (getD_mem hi)), Option.bind_some, chk_dec (by omega), chk_dec hi, chk_dec hi, ← cp_set l ent0 i hi]
    · simp only [laws_toEntryS_s58]
      rw [decide_eq_false (by omega), cond_false, cp_all]
  rw [this]
  rfl

end Go.Proofs.Ytcdkpfcfcjnooaa.Tw
