/- Plain: copies, comparisons, sizes, marks of rows of numbers. No condition: lemmas. -/
import Derived.Test.YthchcnfkgjmabaaGreatMk
import Derived.Test.YthchcnfkgjmabaaGreatTx
namespace Go.Proofs.YthchcnfkgjmabaaGreat.Tw
open Go.Mach
set_option linter.unusedVariables false
set_option linter.unusedSimpArgs false
set_option maxRecDepth 20000

/-! ### what is handed over -/
theorem toIntS_ok {l : List Int} (hl : l.length ≤ 1048576) : laws_toIntS l = some l := by
  have h : lp laws_toIntS_s58 (l, cpy l 0 0, ((0 : Nat) : Int)) = some l := by
    refine lp_det (fun i => (l, cpy l 0 i, (i : Int))) hl (fun i hi => ?_) ?_
    · have h1 := cpy_length l 0 i (by omega)
      simp only [laws_toIntS_s58, lnn, ltn hi, cond_true, h1, ixn hi, lxn hi, gxn, sxn, wsucc (show i ≤ 1048576 by omega), cpy_set l 0 i hi]
    · simp only [laws_toIntS_s58, lnn, ltF, cond_false, cpy_all]
  rw [cpy_zero, cast0] at h
  simp only [laws_toIntS, lnn, Int.toNat_natCast]
  rw [chkD (by omega), h]
  rfl

theorem eqIntS_ok {l : List Int} (hl : l.length ≤ 1048576) : laws_eqIntS (l, l) = some true := by
  have h : lp laws_eqIntS_s58 (l, l, ((0 : Nat) : Int)) = some (.inr ()) := by
    refine lp_det (fun i => (l, l, (i : Int))) hl (fun i hi => ?_) ?_
    · simp only [laws_eqIntS_s58, lnn, ltn hi, cond_true, ixn hi, gxn, bne_self_eq_false, cond_false, wsucc (show i ≤ 1048576 by omega)]
    · simp only [laws_eqIntS_s58, lnn, ltF, cond_false]
  simp only [laws_eqIntS, bne_self_eq_false, cond_false]
  rw [cast0] at h
  rw [h]
  rfl

/-- A row marked from k on, as far as i. -/
def mkd (k : Int) (l : List Int) (i : Nat) : List Int := (List.range i).map (fun (j : Nat) => k + (j : Int)) ++ l.drop i
theorem mkd_set (k : Int) (l : List Int) (i : Nat) (h : i < l.length) : (mkd k l i).set i (k + (i : Int)) = mkd k l (i + 1) := by
  unfold mkd
  rw [List.set_append_right _ _ (by simp), drop_cons 0 h]
  simp [List.range_succ]
theorem mkd_length (k : Int) (l : List Int) (i : Nat) (h : i ≤ l.length) : (mkd k l i).length = l.length := by simp [mkd]; omega
theorem mkd_get (k : Int) (l : List Int) (i : Nat) (h : i < l.length) : (mkd k l l.length).getD i 0 = k + (i : Int) := by
  simp [mkd, List.getD_eq_getElem?_getD, List.getElem?_append, List.getElem?_map, List.getElem?_range, h]

theorem marksIntS {l : List Int} (hl : l.length ≤ 1048576) : Marks laws_markIntS laws_heldIntS l.length l := by
  intro k h0 h1
  refine ⟨mkd k l l.length, ?_, ?_⟩
  · have h : lp laws_markIntS_s26 (((), (), ()), k + ((0 : Nat) : Int), ((0 : Nat) : Int), mkd k l 0) = some (k + (l.length : Int), mkd k l l.length) := by
      refine lp_det (fun i => (((), (), ()), k + (i : Int), (i : Int), mkd k l i)) hl (fun i hi => ?_) ?_
      · have h2 := mkd_length k l i (by omega)
        simp only [laws_markIntS_s26, lnn, h2, ltn hi, cond_true, ixn hi, lxn hi, sxn, mkd_set k l i hi, wsucc (show i ≤ 1048576 by omega)]
        rw [w64_ok (by omega) (by omega)]
        have : k + (i : Int) + 1 = k + ((i + 1 : Nat) : Int) := by omega
        rw [this]
      · have h2 := mkd_length k l l.length (by omega)
        simp only [laws_markIntS_s26, lnn, h2, ltF, cond_false]
    have e : mkd k l 0 = l := by simp [mkd]
    rw [e] at h
    simp only [laws_markIntS]
    have e2 : k + ((0 : Nat) : Int) = k := by omega
    rw [e2, cast0] at h
    rw [h]
    rfl
  · have h : lp laws_heldIntS_s26 (mkd k l l.length, k + ((0 : Nat) : Int), ((0 : Nat) : Int)) = some (.inr (k + (l.length : Int))) := by
      have hm := mkd_length k l l.length (Nat.le_refl _)
      refine lp_det (fun i => (mkd k l l.length, k + (i : Int), (i : Int))) hl (fun i hi => ?_) ?_
      · simp only [laws_heldIntS_s26, lnn, hm, ltn hi, cond_true, ixn hi, gxn, mkd_get k l i hi, bne_self_eq_false, cond_false, wsucc (show i ≤ 1048576 by omega)]
        rw [w64_ok (by omega) (by omega)]
        have : k + (i : Int) + 1 = k + ((i + 1 : Nat) : Int) := by omega
        rw [this]
      · simp only [laws_heldIntS_s26, lnn, hm, ltF, cond_false]
    have e2 : k + ((0 : Nat) : Int) = k := by omega
    rw [e2, cast0] at h
    simp only [laws_heldIntS]
    rw [h]
    rfl



theorem szIntS_ok : Sz laws_szIntS (fun l => l.length ≤ 9223372036854775807) (fun l => l.length) := sz_len

end Go.Proofs.YthchcnfkgjmabaaGreat.Tw
