/- Plain: outs: sizes, copies, comparisons; FnExactOutsSame. No condition: lemmas. -/
import Derived.Test.YtcdkpfcfcjnooaaPlW
namespace Go.Proofs.Ytcdkpfcfcjnooaa.Tw
open Go.Mach
set_option linter.unusedVariables false
set_option maxRecDepth 20000

abbrev out0 : OutT := (0, ent0)

theorem szOut_is : IsSz (fun o : OutT => laws_szOut o.1 o.2.1 o.2.2.1 o.2.2.2.1 o.2.2.2.2.1 o.2.2.2.2.2.1 o.2.2.2.2.2.2.1 o.2.2.2.2.2.2.2.1 o.2.2.2.2.2.2.2.2.1 o.2.2.2.2.2.2.2.2.2.1 o.2.2.2.2.2.2.2.2.2.2) (fun o => EnLe big o.2) (fun o => EnLe small o.2) := by
  intro o a hw h0 h1
  dsimp only [laws_szOut]
  obtain ⟨b, e1, e2⟩ := szEntry_is o.2 a hw h0 h1
  dsimp only at e1
  rw [e1, Option.bind_some]
  rcases e2 with rfl | ⟨e2, e3, q1⟩
  · exact ⟨-1, rfl, .inl rfl⟩
  rw [decide_eq_false (by omega), cond_false]
  exact ⟨b, rfl, .inr ⟨e2, e3, q1⟩⟩

theorem szOutS_is : IsSz laws_szOutS (fun l => l.length ≤ big ∧ ∀ o ∈ l, EnLe big o.2) (fun l => l.length ≤ small ∧ ∀ o ∈ l, EnLe small o.2) :=
  isSz_list (S := fun d => laws_szOutS_s122 d.1 d.2.1 d.2.2) szOut_is out0 (fun l i a hl hi => by
    simp only [laws_szOutS_s122, Int.toNat_natCast, wrap_nat (show i ≤ 1048576 by omega)]
    rw [decide_eq_true (by omega : (i : Int) < l.length), cond_true, chk_dec (by omega), chk_dec hi]) (fun l a hl => by
    simp only [laws_szOutS_s122]
    rw [decide_eq_false (by omega), cond_false])

theorem toOut_eq {o : OutT} (h : EnLe small o.2) : laws_toOut o.1 o.2.1 o.2.2.1 o.2.2.2.1 o.2.2.2.2.1 o.2.2.2.2.2.1 o.2.2.2.2.2.2.1 o.2.2.2.2.2.2.2.1 o.2.2.2.2.2.2.2.2.1 o.2.2.2.2.2.2.2.2.2.1 o.2.2.2.2.2.2.2.2.2.2 =
    some ((o.1, o.2.1, o.2.2.1, ((), (), ()), o.2.2.2.2.1, o.2.2.2.2.2.1, o.2.2.2.2.2.2.1, o.2.2.2.2.2.2.2.1, ((), (), ()), ((), (), ()), (), (), ()), o) := by
  unfold laws_toOut
  rw [toEntry_eq h, Option.bind_some]

theorem toOutS_eq {l : List OutT} (hl : l.length ≤ 1048576) (hr : ∀ o ∈ l, EnLe small o.2) : laws_toOutS l = some (((), (), ()), l) := by
  unfold laws_toOutS
  rw [chk_dec (by simp only [Int.toNat_natCast]; omega)]
  have : laws_toOutS_l58 l (List.replicate (Int.toNat (l.length : Int)) out0) 0 = some l := by
    simp only [Int.toNat_natCast, ← cp_zero]
    refine (det_run (S := fun d => laws_toOutS_s58 d.1 d.2.1 d.2.2) (fun i => (l, cp l out0 i, (i : Int))) hl (fun i hi => ?_) ?_)
    · have h1 := cp_length l out0 i (by omega)
      simp only [laws_toOutS_s58, Int.toNat_natCast, wrap_nat (show i ≤ 1048576 by omega), h1]
      rw [decide_eq_true (by omega : (i : Int) < l.length), cond_true, chk_dec (by omega), chk_dec hi, toOut_eq (hr _ (getD_mem hi)), Option.bind_some, chk_dec (by omega), chk_dec hi, chk_dec hi, ← cp_set l out0 i hi]
    · simp only [laws_toOutS_s58]
      rw [decide_eq_false (by omega), cond_false, cp_all]
  rw [this]
  rfl

theorem implOutSame_eq {x y : OutT} (h : EnLe small x.2) : impl_outSame x.1 x.2.1 x.2.2.1 x.2.2.2.1 x.2.2.2.2.1 x.2.2.2.2.2.1 x.2.2.2.2.2.2.1 x.2.2.2.2.2.2.2.1 x.2.2.2.2.2.2.2.2.1 x.2.2.2.2.2.2.2.2.2.1 x.2.2.2.2.2.2.2.2.2.2
    y.1 y.2.1 y.2.2.1 y.2.2.2.1 y.2.2.2.2.1 y.2.2.2.2.2.1 y.2.2.2.2.2.2.1 y.2.2.2.2.2.2.2.1 y.2.2.2.2.2.2.2.2.1 y.2.2.2.2.2.2.2.2.2.1 y.2.2.2.2.2.2.2.2.2.2 = some (decide (x = y)) := by
  obtain ⟨a1, a2⟩ := x
  obtain ⟨b1, b2⟩ := y
  dsimp only at h ⊢
  unfold impl_outSame
  rw [implEntrySame_eq h, beq_cond, Option.bind_some]
  by_cases q1 : a1 = b1 <;> simp [q1]

theorem lawsEqOut_eq {x y : OutT} (h : EnLe small x.2) : laws_eqOut x.1 x.2.1 x.2.2.1 x.2.2.2.1 x.2.2.2.2.1 x.2.2.2.2.2.1 x.2.2.2.2.2.2.1 x.2.2.2.2.2.2.2.1 x.2.2.2.2.2.2.2.2.1 x.2.2.2.2.2.2.2.2.2.1 x.2.2.2.2.2.2.2.2.2.2
    y.1 y.2.1 y.2.2.1 y.2.2.2.1 y.2.2.2.2.1 y.2.2.2.2.2.1 y.2.2.2.2.2.2.1 y.2.2.2.2.2.2.2.1 y.2.2.2.2.2.2.2.2.1 y.2.2.2.2.2.2.2.2.2.1 y.2.2.2.2.2.2.2.2.2.2 = some (decide (x = y)) := by
  obtain ⟨a1, a2⟩ := x
  obtain ⟨b1, b2⟩ := y
  dsimp only at h ⊢
  unfold laws_eqOut
  rw [lawsEqEntry_eq h, bne_cond, Option.bind_some, not_cond]
  by_cases q1 : a1 = b1 <;> by_cases q2 : a2 = b2 <;> simp [q1, q2]

theorem implOuts_eq {a b : List OutT} (ha : a.length ≤ 1048576) (hr : ∀ o ∈ a, EnLe small o.2) : impl_Out_ a b = some (decide (a = b)) := by
  refine eqS_run (S := fun d => impl_Out__s58 d.1 d.2.2.1 d.2.2.2.1 d.2.2.2.2) out0 ha (fun i => (b, (), a, (a.length : Int), (i : Int))) (fun i hi hb hm => ?_) (fun hb => ?_)
  · simp only [impl_Out__s58, Int.toNat_natCast, wrap_nat (show i ≤ 1048576 by omega)]
    rw [decide_eq_true (by omega : (i : Int) < a.length), cond_true, chk_dec (by omega), chk_dec hi, chk_dec (by omega), chk_dec (by omega), implOutSame_eq (hr _ hm), Option.bind_some, not_cond]
    split <;> rfl
  · simp only [impl_Out__s58]
    rw [decide_eq_false (by omega), cond_false]

theorem lawsEqOutS_eq {a b : List OutT} (ha : a.length ≤ 1048576) (hr : ∀ o ∈ a, EnLe small o.2) : laws_eqOutS a b = some (decide (a = b)) := by
  refine eqS_run (S := fun d => laws_eqOutS_s58 d.1 d.2.1 d.2.2) out0 ha (fun i => (a, b, (i : Int))) (fun i hi hb hm => ?_) (fun hb => ?_)
  · simp only [laws_eqOutS_s58, Int.toNat_natCast, wrap_nat (show i ≤ 1048576 by omega)]
    rw [decide_eq_true (by omega : (i : Int) < a.length), cond_true, chk_dec (by omega), chk_dec hi, chk_dec (by omega), chk_dec (by omega), lawsEqOut_eq (hr _ hm), Option.bind_some, not_cond]
    split <;> rfl
  · simp only [laws_eqOutS_s58]
    rw [decide_eq_false (by omega), cond_false]

theorem specOutsSame_eq {a b : List OutT} (ha : a.length ≤ 1048576) (hr : ∀ o ∈ a, EnLe small o.2) : spec_OutsSame a b = some (decide (a = b)) := by
  refine eqS_run (S := fun d => spec_OutsSame_s58 d.1 d.2.1 d.2.2) out0 ha (fun i => (a, b, (i : Int))) (fun i hi hb hm => ?_) (fun hb => ?_)
  · simp only [spec_OutsSame_s58, Int.toNat_natCast, wrap_nat (show i ≤ 1048576 by omega)]
    have hib : i < b.length := by omega
    have h0 : (0 : Int) ≤ (i : Int) := by omega
    rw [decide_eq_true (by omega : (i : Int) < a.length), cond_true]
    simp only [chk_dec h0, chk_dec hi, chk_dec hib]
    rw [specEntrySame_eq (hr _ hm), Option.bind_some, bne_cond]
    have hp : (a.getD i out0 = b.getD i out0) ↔ ((a.getD i out0).1 = (b.getD i out0).1 ∧ (a.getD i out0).2 = (b.getD i out0).2) := Prod.ext_iff
    by_cases q1 : (a.getD i out0).1 = (b.getD i out0).1
    · rw [if_pos q1, not_cond]
      by_cases q2 : (a.getD i out0).2 = (b.getD i out0).2
      · rw [if_pos q2, if_pos (hp.2 ⟨q1, q2⟩)]
      · rw [if_neg q2, if_neg (fun q => q2 (hp.1 q).2)]
    · rw [if_neg q1, if_neg (fun q => q1 (hp.1 q).1)]
  · simp only [spec_OutsSame_s58]
    rw [decide_eq_false (by omega), cond_false]

theorem outsSame_true {a b : List OutT} (ha : a.length ≤ big ∧ ∀ o ∈ a, EnLe big o.2) (hb : b.length ≤ big ∧ ∀ o ∈ b, EnLe big o.2) : laws_FnExactOutsSame a b = some true := by
  unfold laws_FnExactOutsSame
  obtain ⟨r, e1, e2⟩ := szOutS_is a 1048576 ha (by omega) (by omega)
  rw [e1, Option.bind_some]
  rcases e2 with rfl | ⟨e2, e3, l1, l2⟩
  · rfl
  rw [decide_eq_false (by omega), cond_false]
  obtain ⟨r', f1, f2⟩ := szOutS_is b r hb e2 e3
  rw [f1, Option.bind_some]
  rcases f2 with rfl | ⟨f2, f3, m1, m2⟩
  · rfl
  rw [decide_eq_false (by omega), cond_false]
  simp only [toOutS_eq l1 l2, toOutS_eq m1 m2, Option.bind_some, impl_OutsSame, specOutsSame_eq l1 l2, implOuts_eq l1 l2, lawsEqOutS_eq l1 l2, lawsEqOutS_eq m1 m2]
  simp

end Go.Proofs.Ytcdkpfcfcjnooaa.Tw
