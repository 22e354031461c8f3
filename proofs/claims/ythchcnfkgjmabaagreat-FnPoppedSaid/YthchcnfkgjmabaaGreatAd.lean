/- Plain: copies of entries, and two as one. No condition: lemmas. -/
import Derived.Test.YthchcnfkgjmabaaGreatSm
import Derived.Test.YthchcnfkgjmabaaGreatHm
namespace Go.Proofs.YthchcnfkgjmabaaGreat.Tw
open Go.Mach
set_option linter.unusedVariables false
set_option linter.unusedSimpArgs false
set_option maxRecDepth 20000

/-! ### the reference -/
theorem l3Copy_eq {s : SkT} (h : SkLe 1048576 s) : spec_l3Copy s = some s := by
  obtain ⟨a, b, c, d, e, f, g⟩ := s
  obtain ⟨h1, h2, h3, h4⟩ := h
  simp only at h1 h2 h3 h4
  have := lp_det (S := spec_l3Copy_s506) (fun i => ((a, b, c, d, e, f, g), (0, 0, 0, 0, (), (), ()), (a, b, c, d, e, f, g.take i), (i : Int))) h3 (b := ((0, 0, 0, 0, (), (), ()), a, b, c, d, e, f, g)) (fun i hi => by
    have hm := h4 _ (getD_mem (d := []) hi)
    simp only [spec_l3Copy_s506, lnn, ltn hi, cond_true, ixn hi, gxn, List.nil_append, wsucc (show i ≤ 1048576 by omega)]
    rw [fitsC (by omega) (by omega), fitsC (by simp; omega) (by omega), Option.bind_some, take_snoc [] hi]) (by simp only [spec_l3Copy_s506, lnn, ltF, cond_false, List.take_length])
  rw [cast0, List.take_zero] at this
  simp only [spec_l3Copy, List.nil_append]
  rw [fitsC (by omega) (by omega), fitsC (by omega) (by omega), this]
  rfl
theorem l6Copy_eq {e : EnT} (h : EnLe 1048576 e) : spec_l6Copy e = some e := by
  obtain ⟨a, b, c, s⟩ := e
  obtain ⟨d, e, f, g, i, j, k⟩ := s
  have := l3Copy_eq h.2
  simp only at this
  simp only [spec_l6Copy, l5Copy_eq h.1, this, Option.bind_some]
theorem l6Add_eq {a b : EnT} (ha : EnOk a) (hb : EnOk b) : spec_l6Add (a, b) = some (addE a b) := by
  obtain ⟨a1, a2, a3, s⟩ := a
  obtain ⟨a4, a5, a6, a7, a8, a9, a10⟩ := s
  obtain ⟨b1, b2, b3, s⟩ := b
  obtain ⟨b4, b5, b6, b7, b8, b9, b10⟩ := s
  have la := ha.len
  have lb := hb.len
  have hj := join_eq (a := a3) (b := b3) (by simp only at la lb; omega) ha.ids (fun y hy => ⟨(ha.sml y hy).2.1, (ha.sml y hy).2.2⟩) hb.sml
  have hm := l3Merge_eq ha.sk hb.sk
  have hp : b3.foldl putS a3 = nrm (a3 ++ b3) := putsS_nrm ha.ids fun x hx => (hb.sml x hx).1
  simp only at hm
  simp only [spec_l6Add, hj, hm, Option.bind_some, hp, addE]

theorem copyEntry_eq {e : EnT} (h : EnLe 1048576 e) : impl_copyEntry e = some e := by
  obtain ⟨a, b, c, s⟩ := e
  obtain ⟨d, e, f, g, i, j, k⟩ := s
  have := copySketch_eq h.2
  simp only at this
  simp only [impl_copyEntry, copySet_eq h.1, this, Option.bind_some]

end Go.Proofs.YthchcnfkgjmabaaGreat.Tw
