/- Plain: totals are the same as themselves. No condition: lemmas. -/
import Derived.Test.YthchcnfkgjmabaaGreatPs
namespace Go.Proofs.YthchcnfkgjmabaaGreat.Tw
open Go.Mach
set_option linter.unusedVariables false
set_option linter.unusedSimpArgs false
set_option maxRecDepth 20000

theorem totEq_eq {l : List EnT} (h : EnsLe 1048576 l) : impl_TotalSame (l, l) = some true := by
  have hl : lp impl_EnEq__s58 (l, (), l, (l.length : Int), ((0 : Nat) : Int)) = some (.inr ()) :=
    lp_det (fun i => (l, (), l, (l.length : Int), (i : Int))) (n := l.length) h.1 (fun i hi => by
      have hs := entEq_eq (h.2 _ (getD_mem (d := (0, 0, [], 0, 0, 0, 0, [], [], [])) hi))
      simp only [impl_EnEq__s58, ltn hi, cond_true, ixn hi, gxn, Option.bind_some]
      generalize l.getD i (0, 0, [], 0, 0, 0, 0, [], [], []) = e at hs
      obtain ⟨e1, e2, e3, e4, e5, e6, e7, e8, e9, e10⟩ := e
      simp only [hs, Option.bind_some, Bool.not_true, cond_false, wsucc (show i ≤ 1048576 by have := h.1; omega)]) (by simp only [impl_EnEq__s58, ltF, cond_false])
  rw [cast0] at hl
  simp only [impl_TotalSame, impl_EnEq_, lnn, bne_self_eq_false, Option.bind_some, cond_false, hl, bx_inr]

end Go.Proofs.YthchcnfkgjmabaaGreat.Tw
