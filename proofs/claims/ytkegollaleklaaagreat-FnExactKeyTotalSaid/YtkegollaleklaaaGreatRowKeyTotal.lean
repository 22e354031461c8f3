/- The law FnExactKeyTotal holds for every input: the row, over the walks and the plain statement. No conditions. -/
import Derived.Test.YtkegollaleklaaaGreatRows
import Derived.Test.YtkegollaleklaaaGreatKt
import Derived.WalkKit
import Derived.ProofKit
import Derived.OpenShut
import Derived.Below
namespace Go.Proofs.YtkegollaleklaaaGreat.fnExactKeyTotal
open Go.ChangeShapes Go.WideShapes Go.ChangeAt Go.RowKit Go.Mach
set_option linter.unusedVariables false
theorem own : ownKnob Tryz.prog.godebug = none := by kernel_rfl
theorem laidOut : laidOutB Tryz.prog = true := by kernel_rfl
set_option maxRecDepth 100000 in
theorem lifted (os : Os) (started : os.Started) (H : Type) (enc : TypeId × Value → H) :
    ReturnsInHanded {} Tryz.checked os 8 .any (Rows.fnExactKeyTotalSpec.pre6 enc Tryz.prog Tryz.f8 Rows.fnExactKeyTotalRow.domain false) (Rows.fnExactKeyTotalSpec.post enc Tryz.prog Tryz.f8 false true false false) := by
  refine returnsInHanded_of_change (C := Tryz.checked) own started (by kernel_rfl) Tryz.func8
    (ChangeSpec.witness6 (enc := enc) (C := Tryz.checked) false ⟨#[], #[.agg #[.int .i64 0, .int .i64 0, .int .i64 0, .slice none 0 0, .int .i64 0, .int .i64 0, .int .i64 0, .int .i64 0, .int .i64 0, .bool false, .slice none 0 0, .slice none 0 0, .slice none 0 0, .int .i64 0, .slice none 0 0, .slice none 0 0], .int .i64 0, .int .i64 0, .int .i64 0], []⟩ 12 (by kernel_rfl) (by kernel_rfl) (by kernel_rfl) (by kernel_rfl)) ?_
  intro W base args ds gs before hval0 hW hcnd _
  have hval : ∀ (j : Nat) t v, Tryz.f8.params[j]? = some t → args[j]? = some v → Value.okWide Tryz.prog W .any base t v := hval0
  have hW' := hW
  obtain ⟨p, q, hA0, hV, rfl, hfz, hnd⟩ := hW
  have hA : DataW.TrodAll enc Tryz.prog W 0 (fun _ => true) true Tryz.f8.params.toList args.toList ds p := hA0
  rw [Tryz.params8] at hA hval
  obtain ⟨v0, vs0, d0, ds0, p0, q0, hargs, rfl, rfl, h0, r0⟩ := trodAll_cons hA
  obtain ⟨v1, vs1, d1, ds1, p1, q1, rfl, rfl, rfl, h1, r1⟩ := trodAll_cons r0
  obtain ⟨v2, vs2, d2, ds2, p2, q2, rfl, rfl, rfl, h2, r2⟩ := trodAll_cons r1
  obtain ⟨v3, vs3, d3, ds3, p3, q3, rfl, rfl, rfl, h3, r3⟩ := trodAll_cons r2
  obtain ⟨rfl, rfl, rfl⟩ := trodAll_nil r3
  obtain rfl : args = #[v0, v1, v2, v3] := by cases args; simp_all
  obtain ⟨rfl, rfl⟩ := trodVars_none hV
  obtain ⟨y0, w0, k0⟩ := topK_of (k := Tw.wHouse) (m := 12) (by kernel_rfl) (hval 0 42 v0 rfl rfl) h0
  obtain ⟨y1, w1, k1⟩ := topK_of (k := Tw.kI) (m := 12) (by kernel_rfl) (hval 1 3 v1 rfl rfl) h1
  obtain ⟨y2, w2, k2⟩ := topK_of (k := Tw.kI) (m := 12) (by kernel_rfl) (hval 2 3 v2 rfl rfl) h2
  obtain ⟨y3, w3, k3⟩ := topK_of (k := Tw.kI) (m := 12) (by kernel_rfl) (hval 3 3 v3 rfl rfl) h3
  have lt0 : ∀ x ∈ p0, x.block < W.heap.size := by obtain ⟨m, hm⟩ := h0; exact DataW.trod_lt m _ _ _ hm
  have lt1 : ∀ x ∈ p1, x.block < W.heap.size := by obtain ⟨m, hm⟩ := h1; exact DataW.trod_lt m _ _ _ hm
  have lt2 : ∀ x ∈ p2, x.block < W.heap.size := by obtain ⟨m, hm⟩ := h2; exact DataW.trod_lt m _ _ _ hm
  have lt3 : ∀ x ∈ p3, x.block < W.heap.size := by obtain ⟨m, hm⟩ := h3; exact DataW.trod_lt m _ _ _ hm
  clear hA0 hval0
  refine (law_calls (r := true) Tw.laws_FnExactKeyTotal_ok rfl (Tw.flatH y0, y1, y2, y3) true (Tw.law_keyTotal (Tw.flatH y0) y1 y2 y3 (Tw.hs_of_wf w0)) (by kernel_rfl)
    [(isStruct Tryz.prog 42, ⟨Tw.wHouse, y0⟩), (isStruct Tryz.prog 3, ⟨Tw.kI, y1⟩), (isStruct Tryz.prog 3, ⟨Tw.kI, y2⟩), (isStruct Tryz.prog 3, ⟨Tw.kI, y3⟩)] (by kernel_rfl) (us := [v0, v1, v2, v3]) rfl ?_ (fun t ht => absurd (show t ∈ ([] : List (Nat × (Obj → Prop))) from ht) (by simp))).mono fun e W' ⟨he, bel⟩ => ?_
  · intro i g u hg hu
    match i with
    | 0 => cases hg; cases hu; exact k0
    | 1 => cases hg; cases hu; exact k1
    | 2 => cases hg; cases hu; exact k2
    | 3 => cases hg; cases hu; exact k3
    | i + 4 => simp at hg
  subst he
  exact ⟨_, rfl, _, _, _, [], _, [], hW', trodAll_mk1 (shut_bool Tryz.underlying4 _), (trodAll_cons_mk (Below.trod laidOut (by kernel_rfl) (of_decide_eq_true (by kernel_rfl)) h0 bel lt0) (trodAll_cons_mk (Below.trod laidOut (by kernel_rfl) (of_decide_eq_true (by kernel_rfl)) h1 bel lt1) (trodAll_cons_mk (Below.trod laidOut (by kernel_rfl) (of_decide_eq_true (by kernel_rfl)) h2 bel lt2) (trodAll_cons_mk (Below.trod laidOut (by kernel_rfl) (of_decide_eq_true (by kernel_rfl)) h3 bel lt3) trodAll_mk0)))), rfl, bel.frame _, fun h => by cases h⟩
theorem over : Rows.fnExactKeyTotalRow.holds Tryz.pinned (OpenSpec.ofChange Rows.fnExactKeyTotalSpec) :=
  OpenClaim.holds_of_wide 8 Tryz.f8 rfl rfl rfl rfl rfl rfl rfl ⟨rfl, rfl, rfl, rfl, rfl⟩ rfl rfl rfl rfl rfl (by kernel_rfl) Tryz.func8 (by kernel_rfl)
    (of_decide_eq_true (by kernel_rfl)) (by unfold Func.isWrapper; first | (rw [if_pos (by decide +kernel)]; kernel_rfl) | (rw [if_neg (by decide +kernel)]; exact ⟨rfl, rfl⟩))
    (fun os started H enc _ => lifted os started H enc)
theorem proved : Rows.FnExactKeyTotalSaid := over
#print axioms proved
end Go.Proofs.YtkegollaleklaaaGreat.fnExactKeyTotal
namespace Go.Proofs.YtkegollaleklaaaGreat
/-- The row, under a short name, for the claim. -/
theorem fnExactKeyTotal_holds : Rows.FnExactKeyTotalSaid := fnExactKeyTotal.proved
end Go.Proofs.YtkegollaleklaaaGreat
