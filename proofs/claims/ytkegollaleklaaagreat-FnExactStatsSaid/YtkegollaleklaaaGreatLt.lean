/- Plain: FnExactLate. No condition: lemmas. -/
import Derived.Test.YtkegollaleklaaaGreatHw
namespace Go.Proofs.YtkegollaleklaaaGreat.Tw
open Go.Mach
set_option linter.unusedVariables false
set_option linter.unusedSimpArgs false
set_option maxRecDepth 20000

section
variable {a b c e f g h i n : Int} {d : List Int} {j : Bool} {k : List SeT} {l : List (List (List EnT))} {m : List TuT} {o : List EnT} {p : List OuT}

def lateM (p : List OuT) : Nat := p.countP fun u => decide (u.1 > 0)
theorem lateM_snoc (p : List OuT) (x : OuT) : lateM (p ++ [x]) = lateM p + (if decide (x.1 > 0) then 1 else 0) := by
  unfold lateM
  rw [List.countP_append, List.countP_singleton]
theorem lateM_le (p : List OuT) : lateM p ≤ p.length := List.countP_le_length

theorem specLate_eq (z : HsSz d k l m o p) : spec_Late (a, b, c, d, e, f, g, h, i, j, k, l, m, n, o, p) = some (bif houseOk (a, b, c, d, e, f, g, h, i, j, k, l, m, n, o, p) then ((lateM p : Nat) : Int) else 0) := by
  simp only [spec_Late, specHouseOk_eq z, Option.bind_some]
  have hp := z.hp.1
  have q := lp_det (S := spec_Late_s122) (fun i' => ((a, b, c, d, e, f, g, h, i, j, k, l, m, n, o, p), ((lateM (p.take i') : Nat) : Int), (i' : Int))) hp (b := ((lateM p : Nat) : Int)) (fun s hs => by
    have hl := lateM_le (p.take s)
    have hl2 : (p.take s).length ≤ s := by simp; omega
    simp only [spec_Late_s122, lnn, ltn hs, Option.bind_some, cond_true, ixn hs, gxn, wsucc (show s ≤ 1048576 by omega), spec_l1Bit]
    rw [take_snoc ou0 hs, lateM_snoc]
    generalize hx : p.getD s (0, 0, 0, [], 0, 0, 0, 0, [], [], []) = u
    have hx' : p.getD s ou0 = u := hx
    obtain ⟨u0, u1⟩ := u
    simp only
    cases decide (u0 > 0)
    · simp [w64_ok (n := ((lateM (p.take s) : Nat) : Int)) (by omega) (by omega)]
    · simp [w64_ok (n := ((lateM (p.take s) : Nat) : Int) + 1) (by omega) (by omega)]) (by simp only [spec_Late_s122, lnn, ltF, Option.bind_some, cond_false, List.take_length])
  have e0 : ((lateM (p.take 0) : Nat) : Int) = 0 := by simp [lateM]
  rw [cast0, e0] at q
  cases houseOk (a, b, c, d, e, f, g, h, i, j, k, l, m, n, o, p)
  · rfl
  · simp only [Bool.not_true, cond_false, cond_true, q, Option.bind_some]

theorem implLate_eq (z : HsSz d k l m o p) : impl_Late (a, b, c, d, e, f, g, h, i, j, k, l, m, n, o, p) = some (bif houseOk (a, b, c, d, e, f, g, h, i, j, k, l, m, n, o, p) then ((lateM p : Nat) : Int) else 0) := by
  simp only [impl_Late, implHouseOk_eq z, Option.bind_some]
  have hp := z.hp.1
  have q := lp_det (S := impl_Late_s234) (fun i => (((lateM (p.take i) : Nat) : Int), p, (p.length : Int), (i : Int))) hp (b := ((lateM p : Nat) : Int)) (fun s hs => by
    have hl := lateM_le (p.take s)
    have hl2 : (p.take s).length ≤ s := by simp; omega
    simp only [impl_Late_s234, ltn hs, Option.bind_some, cond_true, ixn hs, gxn, wsucc (show s ≤ 1048576 by omega)]
    rw [take_snoc ou0 hs, lateM_snoc]
    generalize hx : p.getD s (0, 0, 0, [], 0, 0, 0, 0, [], [], []) = u
    have hx' : p.getD s ou0 = u := hx
    obtain ⟨u0, u1⟩ := u
    simp only
    cases decide (u0 > 0)
    · simp
    · simp [w64_ok (n := ((lateM (p.take s) : Nat) : Int) + 1) (by omega) (by omega)]) (by simp only [impl_Late_s234, ltF, cond_false, List.take_length])
  have e0 : ((lateM (p.take 0) : Nat) : Int) = 0 := by simp [lateM]
  rw [cast0, e0] at q
  cases houseOk (a, b, c, d, e, f, g, h, i, j, k, l, m, n, o, p)
  · rfl
  · simp only [cond_true, lnn, q, Option.bind_some]

end
/-- The law's twin answers true. -/
theorem law_late (x : HsT) (hx : HsLe 9223372036854775807 x) : laws_FnExactLate x = some true := by
  obtain ⟨y, e1, e2⟩ := szHouse_ok x 1048576 hx (by omega) (by omega)
  obtain ⟨a, b, c, d, e, f, g, h, i, j, k, l, m, n, o, p⟩ := x
  simp only [laws_FnExactLate, e1, Option.bind_some, bif_dec]
  rcases e2 with rfl | ⟨e2, e3⟩
  · simp
  · rw [if_neg (by omega)]
    have hs := hsLe_of (a := a) (b := b) (c := c) (d := d) (e := e) (f := f) (g := g) (h := h) (i := i) (j := j) (k := k) (l := l) (m := m) (n := n) (o := o) (p := p) (by omega)
    have hz := hsSz_of (a := a) (b := b) (c := c) (d := d) (e := e) (f := f) (g := g) (h := h) (i := i) (j := j) (k := k) (l := l) (m := m) (n := n) (o := o) (p := p) (by omega)
    simp only [toHouse_ok hs, specLate_eq hz, implLate_eq hz, eqHouse_ok hs, Option.bind_some, bne_self_eq_false, cond_false, Bool.not_true]

end Go.Proofs.YtkegollaleklaaaGreat.Tw
