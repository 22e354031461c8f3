/- Plain: FnExactBusiest. No condition: lemmas. -/
import Derived.Test.YtkegollaleklaaaGreatKt
namespace Go.Proofs.YtkegollaleklaaaGreat.Tw
open Go.Mach
set_option linter.unusedVariables false
set_option linter.unusedSimpArgs false
set_option maxRecDepth 20000

def bst (x : HsT) : Nat → Int × Int
  | 0 => (-1, 0)
  | i + 1 => if (ktM x (i : Int) 0 20).1.1 > (bst x i).2 then ((i : Int), (ktM x (i : Int) 0 20).1.1) else bst x i

section
variable {a b c e f g h i n : Int} {d : List Int} {j : Bool} {k : List SeT} {l : List (List (List EnT))} {m : List TuT} {o : List EnT} {p : List OuT}

theorem bst_no (hh : houseOk (a, b, c, d, e, f, g, h, i, j, k, l, m, n, o, p) = false) : ∀ q, bst (a, b, c, d, e, f, g, h, i, j, k, l, m, n, o, p) q = (-1, 0)
  | 0 => rfl
  | q + 1 => by
    have e : (ktM (a, b, c, d, e, f, g, h, i, j, k, l, m, n, o, p) (q : Int) 0 20) = (new0, 0) := by simp only [ktM, hh, cond_false]
    simp only [bst, bst_no hh q, e]
    rfl
theorem specBusiest_eq (z : HsSz d k l m o p) : spec_Busiest (a, b, c, d, e, f, g, h, i, j, k, l, m, n, o, p) = some (bst (a, b, c, d, e, f, g, h, i, j, k, l, m, n, o, p) 5).1 := by
  simp only [spec_Busiest, specHouseOk_eq z, Option.bind_some]
  cases hh : houseOk (a, b, c, d, e, f, g, h, i, j, k, l, m, n, o, p)
  · rw [bst_no hh]; rfl
  · have q := lp_det (S := spec_Busiest_s250) (fun q => ((a, b, c, d, e, f, g, h, i, j, k, l, m, n, o, p), (bst (a, b, c, d, e, f, g, h, i, j, k, l, m, n, o, p) q).1, (bst (a, b, c, d, e, f, g, h, i, j, k, l, m, n, o, p) q).2, (q : Int))) (n := 5) (by omega) (b := (bst (a, b, c, d, e, f, g, h, i, j, k, l, m, n, o, p) 5).1) (fun q hq => by
      have hk := specKt_eq (a := a) (b := b) (c := c) (e := e) (f := f) (g := g) (h := h) (i := i) (n := n) (j := j) (q := (q : Int)) (r := 0) (s := 20) z
      have hb : bst (a, b, c, d, e, f, g, h, i, j, k, l, m, n, o, p) (q + 1) = if (ktM (a, b, c, d, e, f, g, h, i, j, k, l, m, n, o, p) (q : Int) 0 20).1.1 > (bst (a, b, c, d, e, f, g, h, i, j, k, l, m, n, o, p) q).2 then ((q : Int), (ktM (a, b, c, d, e, f, g, h, i, j, k, l, m, n, o, p) (q : Int) 0 20).1.1) else bst (a, b, c, d, e, f, g, h, i, j, k, l, m, n, o, p) q := rfl
      rw [hb]
      generalize ktM (a, b, c, d, e, f, g, h, i, j, k, l, m, n, o, p) (q : Int) 0 20 = t at hk ⊢
      obtain ⟨⟨t1, t2, t3, t4, t5, t6, t7⟩, t8⟩ := t
      simp only [spec_Busiest_s250, dT (show (q : Int) ≤ 4 by omega), cond_true, hk, Option.bind_some, bif_dec, wsucc (show q ≤ 1048576 by omega)]
      by_cases hc : t1 > (bst (a, b, c, d, e, f, g, h, i, j, k, l, m, n, o, p) q).2
      · rw [if_pos hc, if_pos hc]
      · rw [if_neg hc, if_neg hc]) (by simp only [spec_Busiest_s250, dF (show ¬ ((5 : Nat) : Int) ≤ 4 by omega), cond_false])
    have e0 : bst (a, b, c, d, e, f, g, h, i, j, k, l, m, n, o, p) 0 = (-1, 0) := rfl
    rw [cast0, e0] at q
    simp only [Bool.not_true, cond_false, q, Option.bind_some]
theorem implBusiest_eq (z : HsSz d k l m o p) : impl_Busiest (a, b, c, d, e, f, g, h, i, j, k, l, m, n, o, p) = some (bst (a, b, c, d, e, f, g, h, i, j, k, l, m, n, o, p) 5).1 := by
  have q := lp_det (S := impl_Busiest_s58) (fun q => ((a, b, c, d, e, f, g, h, i, j, k, l, m, n, o, p), (bst (a, b, c, d, e, f, g, h, i, j, k, l, m, n, o, p) q).1, (bst (a, b, c, d, e, f, g, h, i, j, k, l, m, n, o, p) q).2, (q : Int))) (n := 5) (by omega) (b := (bst (a, b, c, d, e, f, g, h, i, j, k, l, m, n, o, p) 5).1) (fun q hq => by
    have hk := implKt_eq (a := a) (b := b) (c := c) (e := e) (f := f) (g := g) (h := h) (i := i) (n := n) (j := j) (q := (q : Int)) (r := 0) (s := 20) z
    have hb : bst (a, b, c, d, e, f, g, h, i, j, k, l, m, n, o, p) (q + 1) = if (ktM (a, b, c, d, e, f, g, h, i, j, k, l, m, n, o, p) (q : Int) 0 20).1.1 > (bst (a, b, c, d, e, f, g, h, i, j, k, l, m, n, o, p) q).2 then ((q : Int), (ktM (a, b, c, d, e, f, g, h, i, j, k, l, m, n, o, p) (q : Int) 0 20).1.1) else bst (a, b, c, d, e, f, g, h, i, j, k, l, m, n, o, p) q := rfl
    rw [hb]
    generalize ktM (a, b, c, d, e, f, g, h, i, j, k, l, m, n, o, p) (q : Int) 0 20 = t at hk ⊢
    obtain ⟨⟨t1, t2, t3, t4, t5, t6, t7⟩, t8⟩ := t
    simp only [impl_Busiest_s58, dT (show (q : Int) ≤ 4 by omega), cond_true, hk, Option.bind_some, bif_dec, wsucc (show q ≤ 1048576 by omega)]
    by_cases hc : t1 > (bst (a, b, c, d, e, f, g, h, i, j, k, l, m, n, o, p) q).2
    · rw [if_pos hc, if_pos hc]
    · rw [if_neg hc, if_neg hc]) (by simp only [impl_Busiest_s58, dF (show ¬ ((5 : Nat) : Int) ≤ 4 by omega), cond_false])
  have e0 : bst (a, b, c, d, e, f, g, h, i, j, k, l, m, n, o, p) 0 = (-1, 0) := rfl
  rw [cast0, e0] at q
  simp only [impl_Busiest, q, Option.bind_some]
end
/-- The law's twin answers true. -/
theorem law_busiest (x : HsT) (hx : HsLe 9223372036854775807 x) : laws_FnExactBusiest x = some true := by
  obtain ⟨y, e1, e2⟩ := szHouse_ok x 1048576 hx (by omega) (by omega)
  obtain ⟨a, b, c, d, e, f, g, h, i, j, k, l, m, n, o, p⟩ := x
  simp only [laws_FnExactBusiest, e1, Option.bind_some, bif_dec]
  rcases e2 with rfl | ⟨e2, e3⟩
  · simp
  · rw [if_neg (by omega)]
    have hn : nHs (a, b, c, d, e, f, g, h, i, j, k, l, m, n, o, p) ≤ 1048576 := by omega
    have hs := hsLe_of hn
    have hz := hsSz_of hn
    simp only [toHouse_ok hs, specBusiest_eq hz, implBusiest_eq hz, eqHouse_ok hs, Option.bind_some, bne_self_eq_false, cond_false, Bool.not_true]

end Go.Proofs.YtkegollaleklaaaGreat.Tw
