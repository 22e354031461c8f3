/- Plain: copies, comparisons, sizes, marks of rows of numbers. No condition: lemmas. -/
import Derived.Test.YtkegollaleklaaaGreatDoorMk
import Derived.Test.YtkegollaleklaaaGreatDoorTx
namespace Go.Proofs.YtkegollaleklaaaGreatDoor.Tw
open Go.Mach
set_option linter.unusedVariables false
set_option linter.unusedSimpArgs false
set_option maxRecDepth 20000
theorem toIntS_ok {l : List Int} (hl : l.length ≤ 1048576) : laws_toIntS l = some l := by
  have h : lp laws_toIntS_s58 (l, cpy l 0 0, ((0 : Nat) : Int)) = some l := by
    refine lp_det (fun i => (l, cpy l 0 i, (i : Int))) hl (fun i hi => ?_) ?_
    · have h1 := cpy_length l 0 i (by omega)
      simp only [laws_toIntS_s58, lnn, ltn hi, cond_true, h1, ixn hi, lxn hi, gxn, sxn, wsucc (show i ≤ 1048576 by omega), cpy_set l 0 i hi]
    · simp only [laws_toIntS_s58, lnn, ltF, cond_false, cpy_all]
  rw [cpy_zero, cast0] at h
  simp only [laws_toIntS, lnn, Int.toNat_natCast]
  rw [chkD (by omega), h]
  rfl
theorem eqIntS_ok {l : List Int} (hl : l.length ≤ 1048576) : laws_eqIntS (l, l) = some true := by
  have h : lp laws_eqIntS_s58 (l, l, ((0 : Nat) : Int)) = some (.inr ()) := by
    refine lp_det (fun i => (l, l, (i : Int))) hl (fun i hi => ?_) ?_
    · simp only [laws_eqIntS_s58, lnn, ltn hi, cond_true, ixn hi, gxn, bne_self_eq_false, cond_false, wsucc (show i ≤ 1048576 by omega)]
    · simp only [laws_eqIntS_s58, lnn, ltF, cond_false]
  simp only [laws_eqIntS, bne_self_eq_false, cond_false]
  rw [cast0] at h
  rw [h]
  rfl
theorem szIntS_ok : Sz laws_szIntS (fun l => l.length ≤ 9223372036854775807) (fun l => l.length) := sz_len
end Go.Proofs.YtkegollaleklaaaGreatDoor.Tw
