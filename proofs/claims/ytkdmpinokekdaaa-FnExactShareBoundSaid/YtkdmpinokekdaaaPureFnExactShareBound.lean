/- ShareBound of the program returns what the reference's ShareBound returns, for every list of weights and every three ints. No conditions. -/
import Derived.Test.YtkdmpinokekdaaaPFnExactShareBoundx2
namespace Go.Proofs.Ytkdmpinokekdaaa.Pure
set_option linter.unusedSimpArgs false
open Go.RowKit Go.Proofs.Ytkdmpinokekdaaa.PFnExactShareBound Go.Proofs.YtkdmpinokekdaaaW.PrintWords Go.Proofs.YtkdmpinokekdaaaW.PrintLast

theorem wrap_up {i : Int} {n : Nat} (h0 : 0 ≤ i) (h : i < (n : Int)) (hn : n ≤ 1048576) : wrap64 (i + 1) = i + 1 := by
  unfold wrap64
  omega

theorem in_spec (a b c : Int) : spec_l1In.f a b c = some (decide (a ≥ b) && decide (a ≤ c)) := by
  unfold spec_l1In.f
  by_cases h : a ≥ b <;> simp [h]

theorem in_impl (a b c : Int) : impl_within.f a b c = some (decide (a ≥ b) && decide (a ≤ c)) := by
  unfold impl_within.f
  by_cases h : a ≥ b <;> simp [h]

theorem copies (xs : List Int) (hn : xs.length ≤ 1048576) (d : Nat) : ∀ (k : Nat) (ys : List Int) (i : Nat), ys.length = xs.length → i ≤ xs.length →
    ys.take i = xs.take i → xs.length - i = d → d < k → laws_toIntS.l0 k xs ys i = some xs := by
  induction d with
  | zero =>
    intro k ys i hl hi ht hd hk
    obtain ⟨k, rfl⟩ : ∃ m, k = m + 1 := ⟨k - 1, by omega⟩
    simp only [laws_toIntS.l0]
    rw [if_neg (by omega)]
    have : i = xs.length := by omega
    subst this
    rw [List.take_of_length_le (by omega), List.take_of_length_le (by omega)] at ht
    rw [ht]
  | succ d ih =>
    intro k ys i hl hi ht hd hk
    obtain ⟨k, rfl⟩ : ∃ m, k = m + 1 := ⟨k - 1, by omega⟩
    simp only [laws_toIntS.l0]
    rw [if_pos (by omega), if_pos (by omega), if_pos (by omega), wrap_up (n := xs.length) (by omega) (by omega) hn]
    have := ih k (ys.set i (rd xs i)) (i + 1) (by simpa using hl) (by omega) ?_ (by omega) (by omega)
    · simpa using this
    · rw [List.take_succ_eq_append_getElem (by simp; omega), List.take_succ_eq_append_getElem (by omega), List.take_set_of_le (by omega), ht]
      simp [rd, List.getD, List.getElem?_eq_getElem (show i < xs.length by omega)]

theorem copy_is (xs : List Int) (hn : xs.length ≤ 1048576) : laws_toIntS.f (xs.length + 1) xs = some xs := by
  unfold laws_toIntS.f
  rw [if_pos (by omega), if_pos (by omega)]
  exact copies xs hn xs.length _ _ 0 (by simp) (by omega) (by simp) (by omega) (by omega)

theorem same (xs : List Int) (hn : xs.length ≤ 1048576) (d : Nat) : ∀ (k : Nat) (i : Nat), i ≤ xs.length → xs.length - i = d → d < k →
    laws_eqIntS.l0 k xs xs i = some true := by
  induction d with
  | zero =>
    intro k i hi hd hk
    obtain ⟨k, rfl⟩ : ∃ m, k = m + 1 := ⟨k - 1, by omega⟩
    simp only [laws_eqIntS.l0]
    rw [if_neg (by omega)]
  | succ d ih =>
    intro k i hi hd hk
    obtain ⟨k, rfl⟩ : ∃ m, k = m + 1 := ⟨k - 1, by omega⟩
    simp only [laws_eqIntS.l0]
    rw [if_pos (by omega), if_pos (by omega), if_pos (by omega), wrap_up (n := xs.length) (by omega) (by omega) hn]
    simp only [if_true]
    exact ih k (i + 1) (by omega) (by omega) (by omega)

/-- every number from place i on is in lo .. hi -/
def allIn (xs : List Int) (lo hi : Int) : Bool := xs.all fun x => decide (x ≥ lo) && decide (x ≤ hi)

theorem drop_all (xs : List Int) (lo hi : Int) (i : Nat) (h : i < xs.length) :
    allIn (xs.drop i) lo hi = ((decide (rd xs i ≥ lo) && decide (rd xs i ≤ hi)) && allIn (xs.drop (i + 1)) lo hi) := by
  rw [List.drop_eq_getElem_cons h]
  unfold allIn
  rw [List.all_cons]
  simp [rd, List.getD, List.getElem?_eq_getElem h]

theorem nums_l (xs : List Int) (lo hi : Int) (hn : xs.length ≤ 1048576) (d : Nat) : ∀ (k : Nat) (i : Nat), i ≤ xs.length → xs.length - i = d → d < k →
    spec_l11Nums.l0 k xs lo hi i = some (allIn (xs.drop i) lo hi) := by
  induction d with
  | zero =>
    intro k i hi' hd hk
    obtain ⟨k, rfl⟩ : ∃ m, k = m + 1 := ⟨k - 1, by omega⟩
    simp only [spec_l11Nums.l0]
    rw [if_neg (by omega), List.drop_of_length_le (by omega)]
    rfl
  | succ d ih =>
    intro k i hi' hd hk
    obtain ⟨k, rfl⟩ : ∃ m, k = m + 1 := ⟨k - 1, by omega⟩
    simp only [spec_l11Nums.l0]
    rw [if_pos (by omega), if_pos (by omega), in_spec, wrap_up (n := xs.length) (by omega) (by omega) hn, drop_all xs lo hi i (by omega)]
    simp only [Option.bind_some]
    cases hb : (decide (rd xs i ≥ lo) && decide (rd xs i ≤ hi)) with
    | true => rw [if_pos rfl, Bool.true_and]; exact ih k (i + 1) (by omega) (by omega) (by omega)
    | false => simp

theorem nums (xs : List Int) (lo hi : Int) (hn : xs.length ≤ 1048576) :
    spec_l11Nums.f (xs.length + 1) xs lo hi = some (decide (xs.length = 3) && allIn xs lo hi) := by
  unfold spec_l11Nums.f
  by_cases h : xs.length = 3
  · rw [if_pos (by omega)]
    have := nums_l xs lo hi hn xs.length (xs.length + 1) 0 (by omega) (by omega) (by omega)
    simpa [h] using this
  · rw [if_neg (by omega)]
    simp [h]

theorem within_l (xs ys : List Int) (lo hi c : Int) (hn : xs.length ≤ 1048576) (d : Nat) : ∀ (k : Nat) (i : Nat), i ≤ xs.length → xs.length - i = d → d < k →
    impl_allWithin.l0 k ys c lo hi xs (xs.length : Int) i = some (allIn (xs.drop i) lo hi && ((ys.length : Int) == c)) := by
  induction d with
  | zero =>
    intro k i hi' hd hk
    obtain ⟨k, rfl⟩ : ∃ m, k = m + 1 := ⟨k - 1, by omega⟩
    simp only [impl_allWithin.l0]
    rw [if_neg (by omega), List.drop_of_length_le (by omega)]
    rfl
  | succ d ih =>
    intro k i hi' hd hk
    obtain ⟨k, rfl⟩ : ∃ m, k = m + 1 := ⟨k - 1, by omega⟩
    simp only [impl_allWithin.l0]
    rw [if_pos (by omega), if_pos (by omega), if_pos (by omega), in_impl, wrap_up (n := xs.length) (by omega) (by omega) hn, drop_all xs lo hi i (by omega)]
    simp only [Option.bind_some]
    cases hb : (decide (rd xs i ≥ lo) && decide (rd xs i ≤ hi)) with
    | true => rw [if_pos rfl, Bool.true_and]; exact ih k (i + 1) (by omega) (by omega) (by omega)
    | false => simp

theorem withins (xs : List Int) (c lo hi : Int) (hn : xs.length ≤ 1048576) :
    impl_allWithin.f (xs.length + 1) xs c lo hi = some (allIn xs lo hi && ((xs.length : Int) == c)) := by
  unfold impl_allWithin.f
  have := within_l xs xs lo hi c hn xs.length (xs.length + 1) 0 (by omega) (by omega) (by omega)
  simpa using this

theorem bounds_same (xs : List Int) (q i k : Int) (hn : xs.length ≤ 1048576) :
    ∃ r, spec_ShareBound.f (xs.length + 1) xs q i k = some r ∧ impl_ShareBound.f (xs.length + 1) xs q i k = some r := by
  unfold spec_ShareBound.f impl_ShareBound.f spec_l21Weights.f spec_l6Agent.f
  rw [nums xs 1 4 hn, withins xs 3 1 4 hn]
  simp only [in_spec, in_impl, Option.bind_some]
  by_cases h3 : xs.length = 3
  · have e3 : ((xs.length : Int) == 3) = true := by simp; omega
    rw [e3]
    simp only [h3, decide_true, Bool.true_and, Bool.and_true]
    cases allIn xs 1 4 with
    | false => exact ⟨0, by simp, by simp⟩
    | true =>
      simp only [if_true, Option.bind_some]
      cases hq : (decide (q ≥ 1) && decide (q ≤ 60)) with
      | false => exact ⟨0, by simp, by simp⟩
      | true =>
        simp only [if_true, Option.bind_some]
        cases hi : (decide (i ≥ 0) && decide (i ≤ 2)) with
        | false => exact ⟨0, by simp, by simp⟩
        | true =>
          simp only [if_true, Option.bind_some]
          cases hk : (decide (k ≥ 0) && decide (k ≤ 2)) with
          | false => exact ⟨0, by simp, by simp⟩
          | true =>
            simp only [if_true, Option.bind_some]
            simp at hi hk
            rw [if_pos (by omega), if_pos (by omega), if_pos (by omega), if_pos (by omega)]
            exact ⟨_, rfl, rfl⟩
  · have e3 : ((xs.length : Int) == 3) = false := by simp; omega
    rw [e3]
    exact ⟨0, by simp [h3], by simp⟩

theorem FnExactShareBound : laws_FnExactShareBound.Pure := by
  intro xs q i k _ _ _ _ _ _
  refine ⟨xs.length + 1, ?_⟩
  unfold laws_FnExactShareBound.f
  by_cases hn : (xs.length : Int) > 1048576
  · rw [if_pos hn]
  · have hn' : xs.length ≤ 1048576 := by omega
    obtain ⟨r, h1, h2⟩ := bounds_same xs q i k hn'
    have h3 : laws_eqIntS.f (xs.length + 1) xs xs = some true := by
      unfold laws_eqIntS.f
      rw [if_pos rfl]
      exact same xs hn' xs.length _ 0 (by omega) (by omega) (by omega)
    rw [if_neg hn, copy_is xs hn']
    simp only [Option.bind_some]
    rw [h1, h2]
    simp only [Option.bind_some, if_true, h3]

end Go.Proofs.Ytkdmpinokekdaaa.Pure
