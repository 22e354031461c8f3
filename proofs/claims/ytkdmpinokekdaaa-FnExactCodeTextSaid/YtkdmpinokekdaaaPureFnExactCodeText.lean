/- CodeText of the program returns what the reference's CodeText returns, for every int. No conditions. -/
import Derived.Test.YtkdmpinokekdaaaPFnExactCodeTextx1
namespace Go.Proofs.Ytkdmpinokekdaaa.Pure
open Go.RowKit Go.Proofs.Ytkdmpinokekdaaa.PFnExactCodeText Go.Proofs.YtkdmpinokekdaaaW.PrintWords Go.Proofs.YtkdmpinokekdaaaW.PrintLast

theorem FnExactCodeText : laws_FnExactCodeText.Pure := by
  intro a _
  unfold laws_FnExactCodeText.f spec_CodeText.f impl_CodeText.f spec_l1In.f impl_within.f
  have h3 : wrap64 (((4 : Nat) : Int) - 1) = 3 := by unfold wrap64; omega
  simp only [Option.bind_some, List.length_cons, List.length_nil, Nat.zero_add, Nat.reduceAdd, h3]
  by_cases h0 : a ≥ 0
  · by_cases h4 : a ≤ 3
    · have h5 : a < 4 := by omega
      simp [h0, h4, h5]
    · simp [h0, h4]
  · simp [h0]

end Go.Proofs.Ytkdmpinokekdaaa.Pure
