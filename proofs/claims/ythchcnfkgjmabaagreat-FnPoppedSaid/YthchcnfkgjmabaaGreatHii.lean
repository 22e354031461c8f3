/- Plain: copies, comparisons, sizes, marks of rows of rows of numbers. No condition: lemmas. -/
import Derived.Test.YthchcnfkgjmabaaGreatHi
namespace Go.Proofs.YthchcnfkgjmabaaGreat.Tw
open Go.Mach
set_option linter.unusedVariables false
set_option linter.unusedSimpArgs false
set_option maxRecDepth 20000

def SmIntSS (l : List (List Int)) : Prop := l.length ≤ 1048576 ∧ ∀ r ∈ l, r.length ≤ 1048576

def nIntSS (l : List (List Int)) : Nat := l.length + sumL (fun r => r.length) l
theorem smIntSS_of {l : List (List Int)} (h : nIntSS l ≤ 1048576) : SmIntSS l := by
  unfold nIntSS at h
  exact ⟨by omega, fun r hr => by have := sumL_mem (f := fun r : List Int => r.length) hr; omega⟩

theorem szIntSS_ok : Sz laws_szIntSS (fun l => l.length ≤ 9223372036854775807 ∧ ∀ r ∈ l, r.length ≤ 9223372036854775807) nIntSS :=
  sz_list (S := laws_szIntSS_s122) szIntS_ok [] (fun l i a hl hi => by simp only [laws_szIntSS_s122, lnn, ltn hi, cond_true, ixn hi, gxn, wsucc (show i ≤ 1048576 by omega)]) (fun l a => by simp only [laws_szIntSS_s122, lnn, ltF, cond_false])

theorem toIntSS_ok {l : List (List Int)} (h : SmIntSS l) : laws_toIntSS l = some l := by
  obtain ⟨hl, hr⟩ := h
  have := copy_list (S := laws_toIntSS_s58) (to := laws_toIntS) [] hl (fun r hm => toIntS_ok (hr r hm)) (fun i m hi hm => by simp only [laws_toIntSS_s58, lnn, ltn hi, cond_true, ixn hi, hm, lxn hi, gxn, sxn, wsucc (show i ≤ 1048576 by omega)]) (fun m => by simp only [laws_toIntSS_s58, lnn, ltF, cond_false])
  simp only [laws_toIntSS, lnn, Int.toNat_natCast]
  rw [chkD (by omega), this]
  rfl

theorem eqIntSS_ok {l : List (List Int)} (h : SmIntSS l) : laws_eqIntSS (l, l) = some true := by
  obtain ⟨hl, hr⟩ := h
  have := same_list (S := laws_eqIntSS_s58) (eq := laws_eqIntS) (t := .inr ()) (e := .inl false) [] hl (fun r hm => eqIntS_ok (hr r hm)) (fun i hi => by simp only [laws_eqIntSS_s58, lnn, ltn hi, cond_true, ixn hi, gxn, bnot_cond, wsucc (show i ≤ 1048576 by omega)]) (by simp only [laws_eqIntSS_s58, lnn, ltF, cond_false])
  simp only [laws_eqIntSS, bne_self_eq_false, cond_false]
  rw [this]
  rfl

theorem markIntSS_ok {l : List (List Int)} (h : SmIntSS l) : ∃ k x, laws_markIntSS (l, 1) = some (k, x) ∧ 0 ≤ k ∧ k ≤ 1099511627777 := by
  obtain ⟨hl, hr⟩ := h
  have hm := mark_list (S := laws_markIntSS_s26) (held := laws_heldIntS) [] hl (fun r hm => marksIntS (hr r hm)) ((), (), ()) (fun k i c hi hc => by simp only [laws_markIntSS_s26, lnn, ltn hi, cond_true, ixn hi, lxn hi, gxn, sxn, wsucc (show i ≤ 1048576 by omega)]) (fun k c => by simp only [laws_markIntSS_s26, lnn, ltF, cond_false])
  have hb : sumL (fun r : List Int => r.length) l ≤ l.length * 1048576 := sumL_le hr
  obtain ⟨x, e, _⟩ := hm 1 (by omega) (by omega)
  exact ⟨_, x, e, by omega, by omega⟩

end Go.Proofs.YthchcnfkgjmabaaGreat.Tw
