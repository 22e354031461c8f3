/- Plain: what is the same as itself. No condition: lemmas. -/
import Derived.Test.YthchcnfkgjmabaaGreatRp
namespace Go.Proofs.YthchcnfkgjmabaaGreat.Tw
open Go.Mach
set_option linter.unusedVariables false
set_option linter.unusedSimpArgs false
set_option maxRecDepth 20000

theorem same1_eq {l : List Int} (hl : l.length ≤ 1048576) : spec_l1Same (l, l) = some true := by
  have h : lp spec_l1Same_s58 (l, l, ((0 : Nat) : Int)) = some (.inr ()) :=
    lp_det (fun i => (l, l, (i : Int))) (n := l.length) hl (fun i hi => by simp only [spec_l1Same_s58, lnn, ltn hi, cond_true, ixn hi, gxn, wsucc (show i ≤ 1048576 by omega), bne_self_eq_false, cond_false]) (by simp only [spec_l1Same_s58, lnn, ltF, cond_false])
  rw [cast0] at h
  simp only [spec_l1Same, bne_self_eq_false, cond_false, h, bx_inr]

theorem same5_eq {l : List SpT} (hl : l.length ≤ 1048576) : spec_l5Same (l, l) = some true := by
  have h : lp spec_l5Same_s58 (l, l, ((0 : Nat) : Int)) = some (.inr ()) :=
    lp_det (fun i => (l, l, (i : Int))) (n := l.length) hl (fun i hi => by simp only [spec_l5Same_s58, lnn, ltn hi, cond_true, ixn hi, gxn, Option.bind_some, wsucc (show i ≤ 1048576 by omega), beq_self_eq_true, Bool.and_true, Bool.not_true, cond_false]) (by simp only [spec_l5Same_s58, lnn, ltF, cond_false])
  rw [cast0] at h
  simp only [spec_l5Same, bne_self_eq_false, cond_false, h, bx_inr]

theorem skSame_eq {s : SkT} (h : SkLe 1048576 s) : spec_SketchSame (s, s) = some true := by
  obtain ⟨a, b, c, d, e, f, g⟩ := s
  obtain ⟨h1, h2, h3, h4⟩ := h
  simp only at h1 h2 h3 h4
  have hg : lp spec_SketchSame_s58 ((a, b, c, d, e, f, g), (a, b, c, d, e, f, g), ((0 : Nat) : Int)) = some (.inr ()) :=
    lp_det (fun i => ((a, b, c, d, e, f, g), (a, b, c, d, e, f, g), (i : Int))) (n := g.length) h3 (fun i hi => by
      simp only [spec_SketchSame_s58, lnn, ltn hi, cond_true, ixn hi, gxn, same1_eq (h4 _ (getD_mem (d := []) hi)), Option.bind_some, Bool.not_true, cond_false, wsucc (show i ≤ 1048576 by omega)]) (by simp only [spec_SketchSame_s58, lnn, ltF, cond_false])
  rw [cast0] at hg
  simp only [spec_SketchSame, bne_self_eq_false, cond_false, same1_eq h1, same1_eq h2, Option.bind_some, Bool.not_true, hg, bx_inr]

theorem entSame_eq {e : EnT} (h : EnLe 1048576 e) : spec_EntrySame (e, e) = some true := by
  obtain ⟨a, b, c, d⟩ := e
  obtain ⟨h1, h2⟩ := h
  have hs := skSame_eq h2
  obtain ⟨d1, d2, d3, d4, d5, d6, d7⟩ := d
  simp only at h1 hs
  simp only [spec_EntrySame, beq_self_eq_true, cond_true, same5_eq h1, Option.bind_some, hs]

theorem entriesSame_eq {l : List EnT} (h : EnsLe 1048576 l) : spec_l10Entries (l, l) = some true := by
  have hl : lp spec_l10Entries_s58 (l, l, ((0 : Nat) : Int)) = some (.inr ()) :=
    lp_det (fun i => (l, l, (i : Int))) (n := l.length) h.1 (fun i hi => by
      have hs := entSame_eq (h.2 _ (getD_mem (d := (0, 0, [], 0, 0, 0, 0, [], [], [])) hi))
      simp only [spec_l10Entries_s58, lnn, ltn hi, cond_true, ixn hi, gxn, Option.bind_some]
      generalize l.getD i (0, 0, [], 0, 0, 0, 0, [], [], []) = e at hs
      obtain ⟨e1, e2, e3, e4, e5, e6, e7, e8, e9, e10⟩ := e
      simp only [hs, Option.bind_some, Bool.not_true, cond_false, wsucc (show i ≤ 1048576 by have := h.1; omega)]) (by simp only [spec_l10Entries_s58, lnn, ltF, Option.bind_some, cond_false])
  rw [cast0] at hl
  simp only [spec_l10Entries, bne_self_eq_false, Option.bind_some, cond_false, hl, bx_inr]

theorem rowSame_eq {l : List EnT} (h : EnsLe 1048576 l) : spec_RowSame (l, l) = some true := by
  simp only [spec_RowSame, entriesSame_eq h, Option.bind_some]

theorem eqI_eq {l : List Int} (hl : l.length ≤ 1048576) : slices_Equal___int_int_ (l, l) = some true := by
  have h : lp slices_Equal___int_int__s58 (l, l, (l.length : Int), ((0 : Nat) : Int)) = some (.inr ()) :=
    lp_det (fun i => (l, l, (l.length : Int), (i : Int))) (n := l.length) hl (fun i hi => by simp only [slices_Equal___int_int__s58, ltn hi, cond_true, ixn hi, gxn, wsucc (show i ≤ 1048576 by omega), bne_self_eq_false, cond_false]) (by simp only [slices_Equal___int_int__s58, ltF, cond_false])
  rw [cast0] at h
  simp only [slices_Equal___int_int_, lnn, bne_self_eq_false, cond_false, h, bx_inr]

theorem eqS_eq {l : List SpT} (hl : l.length ≤ 1048576) : impl_SpEq_ (l, l) = some true := by
  have h : lp impl_SpEq__s58 (l, l, (l.length : Int), ((0 : Nat) : Int)) = some (.inr ()) :=
    lp_det (fun i => (l, l, (l.length : Int), (i : Int))) (n := l.length) hl (fun i hi => by simp only [impl_SpEq__s58, ltn hi, cond_true, ixn hi, gxn, Option.bind_some, wsucc (show i ≤ 1048576 by omega), beq_self_eq_true, Bool.and_true, Bool.not_true, cond_false]) (by simp only [impl_SpEq__s58, ltF, cond_false])
  rw [cast0] at h
  simp only [impl_SpEq_, lnn, bne_self_eq_false, cond_false, h, bx_inr]

theorem eqG_eq {l : List (List Int)} (hl : l.length ≤ 1048576) (hr : ∀ r ∈ l, r.length ≤ 1048576) : slices_EqualFunc_____int_____int___int___int_ (l, l, ()) = some true := by
  have h : lp slices_EqualFunc_____int_____int___int___int__s58 (l, (), l, (l.length : Int), ((0 : Nat) : Int)) = some (.inr ()) :=
    lp_det (fun i => (l, (), l, (l.length : Int), (i : Int))) (n := l.length) hl (fun i hi => by simp only [slices_EqualFunc_____int_____int___int___int__s58, ltn hi, cond_true, ixn hi, gxn, eqI_eq (hr _ (getD_mem (d := []) hi)), Option.bind_some, Bool.not_true, cond_false, wsucc (show i ≤ 1048576 by omega)]) (by simp only [slices_EqualFunc_____int_____int___int___int__s58, ltF, cond_false])
  rw [cast0] at h
  simp only [slices_EqualFunc_____int_____int___int___int_, lnn, bne_self_eq_false, cond_false, h, bx_inr]

theorem skEq_eq {s : SkT} (h : SkLe 1048576 s) : impl_SketchSame (s, s) = some true := by
  obtain ⟨a, b, c, d, e, f, g⟩ := s
  obtain ⟨h1, h2, h3, h4⟩ := h
  simp only at h1 h2 h3 h4
  simp only [impl_SketchSame, beq_self_eq_true, cond_true, eqI_eq h1, eqI_eq h2, eqG_eq h3 h4, Option.bind_some]

theorem entEq_eq {e : EnT} (h : EnLe 1048576 e) : impl_EntrySame (e, e) = some true := by
  obtain ⟨a, b, c, d⟩ := e
  obtain ⟨h1, h2⟩ := h
  have hs := skEq_eq h2
  obtain ⟨d1, d2, d3, d4, d5, d6, d7⟩ := d
  simp only at h1 hs
  simp only [impl_EntrySame, beq_self_eq_true, cond_true, eqS_eq h1, Option.bind_some, hs]

end Go.Proofs.YthchcnfkgjmabaaGreat.Tw
