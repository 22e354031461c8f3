/- slices.SortFunc on spans, at this dump: its entry. No condition: lemmas. -/
import Derived.Test.YthchcnfkgjmabaaGreatSo
import Derived.Test.YthchcnfkgjmabaaGreatSh
import Derived.Test.YthchcnfkgjmabaaGreatProg
import Derived.WalkKit
import Derived.Shelf.Small.Bits
namespace Go.Proofs.YthchcnfkgjmabaaGreat.Tw
open Go.Mach Go.Proofs Go.Shelf Go.RowKit Go.Lib Go.Sort
set_option linter.unusedVariables false
set_option maxRecDepth 100000

instance tabs : Tabs Tryz.prog := ⟨[]⟩

set_option maxHeartbeats 1000000 in
/-- The comparison: by the first numbers. -/
theorem closureSp (x y : Sp2) (W : World) : Calls Tryz.prog 85 #[.agg #[.int .i64 x.1, .int .i64 x.2], .agg #[.int .i64 y.1, .int .i64 y.2]] W fun e w' => e = .returned (.int .i64 (Lib.compareInt x.1 y.1)) ∧ ∃ q os', w' = grow (W.drewN q) os' := by
  have hcon := fun W' => AnyG.cmp_Compare_int Tryz.cmpSp x.1 y.1 W'
  change ∀ W', Calls Tryz.prog 86 _ _ _ at hcon
  generalize Lib.compareInt x.1 y.1 = r at hcon ⊢
  go_enter Tryz.func85, Tryz.ntmps85
  go_wp2_with (go_at_call 86; refine (hcon _).mono ?_; rintro e w' ⟨rfl, rfl⟩)
  go_ret
  exact ⟨rfl, 0, _, by rw [alloc_eq_grow, alloc_eq_grow, grow_grow]; rfl⟩

theorem cmpLaysSp (blk off size : Nat) (w : World) : CmpLays Tryz.prog 85 #[] encSp 2 cfSp blk off size w :=
  fun _ _ _ _ x y => closureSp x y _

def slices_SortFunc : List Sp2 × Unit → Option (List Sp2) := fun d => if d.1.length ≤ 4294967296 then some (sortLo d.1) else none
def slices_SortFunc_e : FEnt := ⟨14, [], [true, false], [(.one, [.own true kSp]), (.one, [.fn 85 []])], ⟨14 + 4, [⟨14, .agg, [.own true kSp]⟩]⟩, slices_SortFunc⟩

theorem slices_SortFunc_ok : FnOk Tryz.prog 84 slices_SortFunc_e := by
  refine fnOk_sort Tryz.func84 (by kernel_rfl) (by kernel_rfl) (by kernel_rfl) (by omega) (fun b off cap l w hH hb hsz => ?_) (fun p cap w => ?_)
  · have eg : ∀ args w, (callFunc 85 args).run Tryz.prog w = .ok (.enter 85 args) w := enters_of Tryz.func85 (by kernel_rfl) rfl
    have h := AnyQ.slices_SortFunc_eq Tryz.sortSp 2 Tryz.isAgg49 Tryz.sizeOf49 encSp (fun _ => rfl) (fun x v hv => by simp [encSp] at hv; rcases hv with rfl | rfl <;> rfl) cfSp swoSp 85 #[] b off cap l.toArray w eg (cmpLaysSp b off l.toArray.size w) hH hb (by simpa using hsz)
    have e : l.toArray.size = l.length := by simp
    rw [e] at h
    refine h.mono ?_
    rintro e w' ⟨rfl, m, os, rfl⟩
    refine ⟨rfl, m, os, ?_⟩
    have : (sortLo l).toArray = pdq (ltOf cfSp) l.toArray 0 l.length (Lib.bitLen l.length) true true := by simp [sortLo]
    rw [this]
  · exact AnyF.slices_SortFunc_none (P := Tryz.prog) (ρ := Tryz.sortSp_ren) { Tryz.sortSp with } p cap (.func (.func 85) #[] #[]) w

end Go.Proofs.YthchcnfkgjmabaaGreat.Tw
