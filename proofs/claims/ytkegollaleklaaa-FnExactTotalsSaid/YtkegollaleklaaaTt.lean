/- Plain: FnExactTotals. No condition: lemmas. -/
import Derived.Test.YtkegollaleklaaaSi
import Derived.Test.YtkegollaleklaaaHo
import Derived.Test.YtkegollaleklaaaCb
namespace Go.Proofs.Ytkegollaleklaaa.Tw
open Go.Mach
set_option linter.unusedVariables false
set_option linter.unusedSimpArgs false
set_option maxRecDepth 20000

theorem totals_eq {l : List OuT} (h : nOuts l ≤ 1048576) : ∃ r, spec_Totals l = some r ∧ impl_Totals l = some r ∧ EnsOk r ∧ r.length ≤ 105 := by
  have hl := outsLe_of h
  have hn : l.length ≤ 1048576 := hl.1
  have q1 := lp_det (S := spec_Totals_s122) (fun i => (l, (l.take i).map (·.2), (i : Int))) hn (b := l.map (·.2)) (fun i hi => by
    simp only [spec_Totals_s122, lnn, ltn hi, Option.bind_some, cond_true, ixn hi, gxn, wsucc (show i ≤ 1048576 by omega)]
    rw [take_snoc ou0 hi, List.map_append]
    generalize hx : l.getD i (0, 0, 0, [], 0, 0, 0, 0, [], [], []) = x
    have hx' : l.getD i ou0 = x := hx
    obtain ⟨x0, x1, x2, x3, x4, x5, x6, x7, x8, x9, x10⟩ := x
    simp only
    rw [fitsC (by simp; omega) (by omega)]
    rfl) (by simp only [spec_Totals_s122, lnn, ltF, Option.bind_some, cond_false, List.take_length])
  have q2 := lp_det (S := impl_entriesOf_s58) (fun i => ((l.take i).map (·.2), l, (l.length : Int), (i : Int))) hn (b := l.map (·.2)) (fun i hi => by
    simp only [impl_entriesOf_s58, lnn, ltn hi, Option.bind_some, cond_true, ixn hi, gxn, wsucc (show i ≤ 1048576 by omega)]
    rw [take_snoc ou0 hi, List.map_append]
    generalize hx : l.getD i (0, 0, 0, [], 0, 0, 0, 0, [], [], []) = x
    have hx' : l.getD i ou0 = x := hx
    obtain ⟨x0, x1, x2, x3, x4, x5, x6, x7, x8, x9, x10⟩ := x
    simp only
    rw [fitsC (by simp; omega) (by omega)]
    rfl) (by simp only [impl_entriesOf_s58, ltF, cond_false, List.take_length])
  rw [cast0, List.take_zero, List.map_nil] at q1 q2
  have e2 : impl_entriesOf l = some (l.map (·.2)) := by simp only [impl_entriesOf, lnn, q2, Option.bind_some]
  simp only [spec_Totals, impl_Totals, specOutsOk_eq hl, implOutsOk_eq hl, Option.bind_some, q1, e2]
  cases hk : l.all ouOk with
  | false => exact ⟨[], rfl, rfl, by simp [EnsOk], by simp⟩
  | true =>
    have hok : EnsOk (l.map (·.2)) := by
      intro e he
      obtain ⟨o, ho, rfl⟩ := List.mem_map.1 he
      have := (List.all_eq_true.1 hk) o ho
      unfold ouOk at this
      exact enOk_iff.1 (Bool.and_eq_true_iff.1 this).2
    have hs : nEns (l.map (·.2)) = nOuts l := by
      unfold nEns nOuts
      rw [List.length_map]
      congr 1
      clear h hl hn q1 q2 e2 hk hok
      induction l with
      | nil => rfl
      | cons x r ih => simp only [List.map_cons, sumL, nOut, ih]
    have := nEns_le (l := l.map (·.2))
    have hlen : (l.map (·.2)).length ≤ 1048576 := by omega
    have hf : (flat (l.map (·.2))).length ≤ 1048576 := by omega
    refine ⟨sumsM (l.map (·.2)), ?_, ?_, sumsM_ok hok, sumsM_length _⟩
    · simp only [Bool.not_true, cond_false, l24Sum_eq hok hlen, Option.bind_some]
    · simp only [Bool.not_true, cond_false, sums_eq hok hlen hf, Option.bind_some]

/-- The law's twin answers true. -/
theorem law_totals (a : List OuT) (ha : OutsLe 9223372036854775807 a) : laws_FnExactTotals a = some true := by
  obtain ⟨x, e1, e2⟩ := szOutS_ok a 1048576 ha (by omega) (by omega)
  simp only [laws_FnExactTotals, e1, Option.bind_some, bif_dec]
  rcases e2 with rfl | ⟨e2, e3⟩
  · simp
  · rw [if_neg (by omega)]
    have sa := outsLe_of (l := a) (by omega)
    obtain ⟨r, h1, h2, h3, h4⟩ := totals_eq (l := a) (by omega)
    have hr : EnsLe 1048576 r := ⟨by omega, fun e he => (h3 e he).toLe.mono (by omega)⟩
    have na : sumL (fun e : OuT => 1 + szEn e.2) a ≤ 10000000 := by
      have : sumL (fun e : OuT => 1 + szEn e.2) a ≤ 7 * a.length + 2 * sumL nOut a := by
        clear e1 e2 e3 sa h1 h2 ha
        induction a with
        | nil => simp [sumL]
        | cons e r ih =>
          have h3 : sumL (fun _ : SpT => 2) e.2.2.2.1 ≤ e.2.2.2.1.length * 2 := sumL_le fun _ _ => Nat.le_refl _
          simp only [sumL, List.length_cons, szEn, szSk, nOut, nEn, nSk, nIntSS] at ih ⊢
          omega
      have e3' := e3
      unfold nOuts at e3'
      omega
    have mr : sumL szEn r ≤ r.length * 20000 := sumL_le fun e he => szEn_le (h3 e he)
    obtain ⟨a', m1⟩ := markOutS_ok sa 1 (by omega) (by omega)
    obtain ⟨r', m3, m4⟩ := marksEntryS hr 1 (by omega) (by omega)
    have g1 : ¬ (1 + ((sumL (fun e : OuT => 1 + szEn e.2) a : Nat) : Int) < 0) := by omega
    have g2 : ¬ (1 + ((sumL szEn r : Nat) : Int) < 0) := by omega
    simp only [toOutS_ok sa, h1, h2, Option.bind_some, eqEntryS_ok hr, eqOutS_ok sa, Bool.not_true, cond_false, m1, m3, m4, if_neg g1, if_neg g2, bne_self_eq_false]

end Go.Proofs.Ytkegollaleklaaa.Tw
