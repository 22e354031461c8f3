/- Plain: FnExactWindows. No condition: lemmas. -/
import Derived.Test.YtkegollaleklaaaGreatHw
import Derived.Test.YtkegollaleklaaaGreatRp
namespace Go.Proofs.YtkegollaleklaaaGreat.Tw
open Go.Mach
set_option linter.unusedVariables false
set_option linter.unusedSimpArgs false
set_option maxRecDepth 20000

theorem plc_some {l : List EnT} {k w : Int} : (plc l k w).isSome = l.any (isAt k w) := by
  unfold plc
  rw [Bool.eq_iff_iff, List.find?_isSome, List.any_eq_true]
  constructor
  · rintro ⟨i, hi, h⟩
    exact ⟨_, getD_mem (List.mem_range.1 hi), h⟩
  · rintro ⟨x, hx, h⟩
    obtain ⟨i, hi, rfl⟩ := List.mem_iff_getElem.1 hx
    exact ⟨i, List.mem_range.2 hi, by rw [getD_get hi]; exact h⟩

def winM (t : List EnT) (q : Int) (i : Nat) : List Int := ((List.range i).filter fun w : Nat => t.any (isAt q (w : Int))).map fun w : Nat => (w : Int)
theorem winM_succ (t : List EnT) (q : Int) (i : Nat) : winM t q (i + 1) = winM t q i ++ (bif t.any (isAt q (i : Int)) then [(i : Int)] else []) := by
  unfold winM
  rw [List.range_succ, List.filter_append, List.map_append]
  congr 1
  cases h : t.any (isAt q (i : Int))
  · simp [List.filter_cons, h]
  · simp [List.filter_cons, h]
theorem winM_len (t : List EnT) (q : Int) (i : Nat) : (winM t q i).length ≤ i := by
  unfold winM
  rw [List.length_map]
  exact Nat.le_trans (List.length_filter_le _ _) (by simp)

theorem specWin {t : List EnT} {q : Int} (ht : t.length ≤ 1048576) : lp spec_Windows_s250 (q, [], t, 0) = some (winM t q 21) := by
  have inner : ∀ (w : Nat) (b : List Int), w ≤ 20 → lp spec_Windows_s64074 (q, b, t, (w : Int), false, 0) = some (q, b, t, (w : Int), t.any (isAt q (w : Int))) := by
    intro w b hw
    have qq := lp_det (S := spec_Windows_s64074) (fun s => (q, b, t, (w : Int), (t.take s).any (isAt q (w : Int)), (s : Int))) ht (b := (q, b, t, (w : Int), t.any (isAt q (w : Int)))) (fun s hs => by
      simp only [spec_Windows_s64074, lnn, ltn hs, Option.bind_some, cond_true, ixn hs, lxn hs, gxn, wsucc (show s ≤ 1048576 by omega)]
      rw [take_snoc en0 hs, List.any_append]
      generalize hx : t.getD s (0, 0, [], 0, 0, 0, 0, [], [], []) = u
      have hx' : t.getD s en0 = u := hx
      obtain ⟨u1, u2, u3⟩ := u
      simp only [List.any_cons, List.any_nil, isAt, Bool.or_false]
      cases (t.take s).any (isAt q (w : Int)) <;> cases u1 == q <;> simp) (by simp only [spec_Windows_s64074, lnn, ltF, Option.bind_some, cond_false, List.take_length])
    have e0 : (t.take 0).any (isAt q (w : Int)) = false := by simp
    rw [cast0, e0] at qq
    exact qq
  have qq := lp_det (S := spec_Windows_s250) (fun w => (q, winM t q w, t, (w : Int))) (n := 21) (by omega) (b := winM t q 21) (fun w hw => by
    have hl := winM_len t q w
    simp only [spec_Windows_s250, dT (show (w : Int) ≤ 20 by omega), cond_true, inner w (winM t q w) (by omega), Option.bind_some, wsucc (show w ≤ 1048576 by omega), winM_succ]
    cases t.any (isAt q (w : Int))
    · simp
    · rw [cond_true, fitsC (by simp; omega) (by omega), cond_true]) (by simp only [spec_Windows_s250, dF (show ¬ ((21 : Nat) : Int) ≤ 20 by omega), cond_false])
  exact qq

theorem implWin {t : List EnT} {q : Int} (ht : t.length ≤ 1048576) : lp impl_Windows_s250 (q, [], t, 0) = some (winM t q 21) := by
  have qq := lp_det (S := impl_Windows_s250) (fun w => (q, winM t q w, t, (w : Int))) (n := 21) (by omega) (b := winM t q 21) (fun w hw => by
    have hl := winM_len t q w
    have hp := plc_some (l := t) (k := q) (w := (w : Int))
    simp only [impl_Windows_s250, dT (show (w : Int) ≤ 20 by omega), cond_true, placeOf_eq ht, Option.bind_some, wsucc (show w ≤ 1048576 by omega), winM_succ]
    rw [← hp]
    cases hq : plc t q (w : Int) with
    | none => simp
    | some x =>
      simp only [Option.isSome_some, cond_true]
      rw [dT (show (x : Int) ≥ 0 by omega), cond_true, fitsC (by simp; omega) (by omega)]) (by simp only [impl_Windows_s250, dF (show ¬ ((21 : Nat) : Int) ≤ 20 by omega), cond_false])
  exact qq

section
variable {a b c e f g h i n : Int} {d : List Int} {j : Bool} {k : List SeT} {l : List (List (List EnT))} {m : List TuT} {o : List EnT} {p : List OuT}

theorem specWindows_eq {q : Int} (z : HsSz d k l m o p) : spec_Windows ((a, b, c, d, e, f, g, h, i, j, k, l, m, n, o, p), q) = some (bif houseOk (a, b, c, d, e, f, g, h, i, j, k, l, m, n, o, p) then winM (allM l o p) q 21 else []) := by
  simp only [spec_Windows, specHouseOk_eq z, Option.bind_some, specAll_eq z.hl0 (fun r hr => (z.hl r hr).1) z.all, specWin z.all]
  cases houseOk (a, b, c, d, e, f, g, h, i, j, k, l, m, n, o, p) <;> rfl
theorem implWindows_eq {q : Int} (z : HsSz d k l m o p) : impl_Windows ((a, b, c, d, e, f, g, h, i, j, k, l, m, n, o, p), q) = some (bif houseOk (a, b, c, d, e, f, g, h, i, j, k, l, m, n, o, p) then winM (allM l o p) q 21 else []) := by
  have hz := z.all
  unfold allM at hz
  have hf : fits (l.flatten.flatten.length + (o ++ p.map (·.2)).length) 144 = true := fitsB (by rw [List.length_append] at hz; omega) (by omega)
  simp only [impl_Windows, implHouseOk_eq z, Option.bind_some, implRowEntries_eq z.hl0 (fun r hr => (z.hl r hr).1) z.rows, implAdded_eq z.added, hf, chk_tt, implWin hz]
  cases houseOk (a, b, c, d, e, f, g, h, i, j, k, l, m, n, o, p) <;> rfl
end

/-- The law's twin answers true. -/
theorem law_windows (x : HsT) (q : Int) (hx : HsLe 9223372036854775807 x) : laws_FnExactWindows (x, q) = some true := by
  obtain ⟨y, e1, e2⟩ := szHouse_ok x 1048576 hx (by omega) (by omega)
  obtain ⟨a, b, c, d, e, f, g, h, i, j, k, l, m, n, o, p⟩ := x
  simp only [laws_FnExactWindows, e1, Option.bind_some, bif_dec]
  rcases e2 with rfl | ⟨e2, e3⟩
  · simp
  · rw [if_neg (by omega)]
    have hn : nHs (a, b, c, d, e, f, g, h, i, j, k, l, m, n, o, p) ≤ 1048576 := by omega
    have hs := hsLe_of hn
    have hz := hsSz_of hn
    have hm := mHs_le hn
    obtain ⟨x', m1⟩ := markHouse_ok hs hm
    obtain ⟨x1, x2, x3, x4, x5, x6, x7, x8, x9, x10, x11, x12, x13, x14, x15, x16⟩ := x'
    simp only [toHouse_ok hs, specWindows_eq hz, implWindows_eq hz, Option.bind_some]
    obtain ⟨r, hr, hl⟩ : ∃ r : List Int, (bif houseOk (a, b, c, d, e, f, g, h, i, j, k, l, m, n, o, p) then winM (allM l o p) q 21 else []) = r ∧ r.length ≤ 21 := ⟨_, rfl, by
      cases houseOk (a, b, c, d, e, f, g, h, i, j, k, l, m, n, o, p)
      · simp
      · exact winM_len _ _ _⟩
    rw [hr]
    obtain ⟨r', m3, m4⟩ := marksIntS (l := r) (by omega) 1 (by omega) (by omega)
    generalize mHs (a, b, c, d, e, f, g, h, i, j, k, l, m, n, o, p) = mm at hm m1
    have g1 : ¬ (1 + ((mm : Nat) : Int) < 0) := by omega
    have g2 : ¬ (1 + ((r.length : Nat) : Int) < 0) := by omega
    simp only [eqHouse_ok hs, eqIntS_ok (show r.length ≤ 1048576 by omega), Option.bind_some, Bool.not_true, cond_false, m1, m3, m4, if_neg g1, if_neg g2, bne_self_eq_false]

end Go.Proofs.YtkegollaleklaaaGreat.Tw
