/- What the laid variables give; a world in which they lie. No condition: lemmas. -/
import Derived.Test.YthchcnfkgjmabaaGreatDoorRows
import Derived.Test.YthchcnfkgjmabaaGreatDoorExt
import Derived.WalkKit
import Derived.ProofKit
import Derived.LaidMore
import Derived.Stop.Joined
import Derived.Stop.LaidErr
import Derived.MakeChecks
import Derived.Lib.LaidTab
namespace Go.Proofs.YthchcnfkgjmabaaGreatDoor
open Go.ChangeShapes Go.WideShapes Go.ChangeAt Go.RowKit Go.Mach
set_option maxRecDepth 100000

theorem own : ownKnob Tryz.prog.godebug = none := by kernel_rfl
theorem laidOut : laidOutB Tryz.prog = true := by kernel_rfl

abbrev laid3 : List (String × DataW Unit) := [("math/bits.deBruijn32tab", Rows.laid_math_bits_deBruijn32tab), ("math/bits.deBruijn64tab", Rows.laid_math_bits_deBruijn64tab), ("internal/strconv.uint64pow10", Rows.laid_internal_strconv_uint64pow10)]

theorem pow10_data : (Rows.laid_internal_strconv_uint64pow10 : DataW Unit) = Lib.tabData .u64 Lib.pow10Tab := by kernel_rfl

theorem tab_of_laid {W : World} (h : laidMetH Tryz.prog laid3 W) : ∀ t ∈ Tabs.tab Tryz.prog, ∃ o, W.heap[t.1]? = some o ∧ t.2 o := by
  rw [MakeChecks.laidMetH_plain _ _ _ (by kernel_rfl)] at h
  have h3 := laidMet.tail (laidMet.tail h)
  rw [pow10_data] at h3
  have ht := Lib.tabIs_of_head (g := 1) (t := 147) (e := 130) (n := 20) (by kernel_rfl) (by kernel_rfl) (by kernel_rfl) (by kernel_rfl) (by kernel_rfl) (by kernel_rfl) h3
  intro t htm
  obtain rfl := List.mem_singleton.1 htm
  unfold Lib.TabIs World.var? at ht
  rw [Tw.named_pow10] at ht
  simp only [Option.bind_some] at ht
  dsimp only
  cases hw : W.heap[1]? with
  | none => rw [hw] at ht; simp at ht
  | some o =>
    rw [hw] at ht
    cases o with
    | cells cs ty x =>
      simp only [Option.some.injEq] at ht
      subst ht
      exact ⟨_, rfl, _, _, rfl⟩
    | _ => simp at ht

/-- The door's own heap meets the condition. -/
theorem door_met (os : Os) (args : Array Value) : laidMetH Tryz.prog laid3 ((World.doorLaid Tryz.prog 400 os).forCall (fun _ _ => 0) ⟨#[], args, []⟩).memory :=
  laidMetH_of_parts3 (fuel := 8) (laidMet_of_run' 8 (by kernel_rfl) (by kernel_rfl)) (by kernel_rfl) (by kernel_rfl)

end Go.Proofs.YthchcnfkgjmabaaGreatDoor
