/- Plain: what entries take when they are joined. No twins: lemmas. -/
import Derived.Test.YthchcnfkgjmabaaGreatDoorJp
namespace Go.Proofs.YthchcnfkgjmabaaGreatDoor.Tw
open Go.Mach
set_option linter.unusedVariables false
set_option linter.unusedSimpArgs false

def pos (l : List Int) : Nat := l.countP fun x => decide (0 < x)
theorem pos_app (a b : List Int) : pos (a ++ b) = pos a + pos b := by simp [pos, List.countP_append]
theorem pos_zip {f : Int → Int → Int} (hf : ∀ x y, 0 < f x y → 0 < x ∨ 0 < y) : ∀ a b : List Int, pos (List.zipWith f a b) ≤ pos a + pos b
  | [], b => by simp [pos]
  | x :: a, [] => by simp [pos]
  | x :: a, y :: b => by
    have ih := pos_zip hf a b
    have hxy := hf x y
    unfold pos at ih ⊢
    simp only [List.zipWith_cons_cons, List.countP_cons]
    by_cases h1 : 0 < x <;> by_cases h2 : 0 < y <;> by_cases h3 : 0 < f x y <;> simp [h1, h2, h3] <;> first | omega | (have := hxy h3; omega)
def cnts (s : SkT) : List Int := s.2.2.2.2.1 ++ s.2.2.2.2.2.1 ++ s.2.2.2.2.2.2.flatten
def esz (e : EnT) : Nat := 4 + 2 * e.2.2.1.length + pos (cnts e.2.2.2)
theorem mstep_len (out : List Sp2) (x : Sp2) : (mstep out x).length ≤ out.length + 1 := by
  unfold mstep
  split
  · simp
  · split
    · simp only [List.length_append, List.length_dropLast, List.length_cons, List.length_nil]; omega
    · simp
theorem nrm_length (l : List Sp2) : (nrm l).length ≤ l.length := by
  have key : ∀ (l out : List Sp2), (l.foldl mstep out).length ≤ out.length + l.length := by
    intro l
    induction l with
    | nil => intro out; simp
    | cons x l ih =>
      intro out
      have h1 := ih (mstep out x)
      have h2 := mstep_len out x
      simp only [List.foldl_cons, List.length_cons]
      omega
  have := key (l.mergeSort fun x y => decide (x.1 ≤ y.1)) []
  rw [List.length_mergeSort] at this
  simpa [nrm] using this
theorem ad_pos (x y : Int) (h : 0 < ad x y) : 0 < x ∨ 0 < y := by
  unfold ad at h
  omega
theorem max_pos (x y : Int) (h : 0 < max x y) : 0 < x ∨ 0 < y := by omega
theorem esz_add (a b : EnT) (ha : EnOk a) (hb : EnOk b) : esz (addE a b) ≤ esz a + esz b := by
  obtain ⟨a1, a2, a3, s1, s2, s3, s4, s5, s6, s7⟩ := a
  obtain ⟨b1, b2, b3, t1, t2, t3, t4, t5, t6, t7⟩ := b
  obtain ⟨r0, r1, ra, _, _⟩ := ha.sk.rows
  obtain ⟨u0, u1, rb, _, _⟩ := hb.sk.rows
  simp only at ra rb
  subst ra rb
  have h1 := nrm_length (a3 ++ b3)
  rw [List.length_append] at h1
  have h2 := pos_zip ad_pos s5 t5
  have h3 := pos_zip max_pos s6 t6
  have h4 := pos_zip ad_pos r0 u0
  have h5 := pos_zip ad_pos r1 u1
  simp only [esz, cnts, addE, mrg, pos_app, List.flatten_cons, List.flatten_nil, List.append_nil, List.getD_cons_zero, List.getD_cons_succ] at h1 h2 h3 h4 h5 ⊢
  omega

end Go.Proofs.YthchcnfkgjmabaaGreatDoor.Tw
