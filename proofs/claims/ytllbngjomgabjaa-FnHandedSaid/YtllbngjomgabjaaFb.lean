/- Plain: FnFair: two agents that both have something left are never further apart than the bound. No condition: lemmas. -/
import Derived.Test.YtllbngjomgabjaaFa
namespace Go.Proofs.Ytllbngjomgabjaa.Tw
open Go.Mach
set_option linter.unusedVariables false
set_option linter.unusedSimpArgs false
set_option maxRecDepth 20000

theorem prefix_at {l0 l1 l2 : List Int} {q w0 w1 w2 : Int} (V : VL l0 l1 l2 q w0 w1 w2) {k m : Nat} {s : HS} (hk : runM l0 l1 l2 [w0, w1, w2] q k = some s) (hm : m ≤ k) :
    ∃ a0 a1 a2 tA tF x y z, HI l0 l1 l2 q w0 w1 w2 m a0 a1 a2 tA tF x y z (s.2.2.take m) := by
  obtain ⟨s1, h1⟩ := run_before hk m hm
  obtain ⟨r, hr⟩ := run_mono h1 hk hm
  obtain ⟨a0, a1, a2, tA, tF, x, y, z, o, rfl, H⟩ := run_inv V m s1 h1
  refine ⟨a0, a1, a2, tA, tF, x, y, z, ?_⟩
  have : s.2.2.take m = o := by
    rw [hr]
    simp only
    rw [List.take_append_of_le_length (by have := H.len; omega), List.take_of_length_le (by have := H.len; omega)]
  rw [this]
  exact H

theorem sumsH_rng {l0 l1 l2 : List Int} (h0 : listOk l0 = true) (h1 : listOk l1 = true) (h2 : listOk l2 = true) (o : List Int) {j : Nat} (hj : j < 3) : 0 ≤ (sumsH [l0, l1, l2] o).getD j 0 ∧ (sumsH [l0, l1, l2] o).getD j 0 ≤ 8000 := by
  match j, hj with
  | 0, _ => exact sm_rng h0 _
  | 1, _ => exact sm_rng h1 _
  | 2, _ => exact sm_rng h2 _

theorem VL.wb {l0 l1 l2 : List Int} {q w0 w1 w2 : Int} (V : VL l0 l1 l2 q w0 w1 w2) {j : Nat} (hj : j < 3) : 1 ≤ ([w0, w1, w2] : List Int).getD j 0 ∧ ([w0, w1, w2] : List Int).getD j 0 ≤ 4 := by
  have h := V.w
  simp only [Bool.and_eq_true, List.all_eq_true, inR_iff] at h
  exact h.1 _ (getD_mem (by simpa using hj))

theorem pair_ok {l0 l1 l2 : List Int} {q w0 w1 w2 : Int} (V : VL l0 l1 l2 q w0 w1 w2) {m : Nat} {a0 a1 a2 tA : Int} {tF : Bool} {x y z : Int} {o : List Int} (H : HI l0 l1 l2 q w0 w1 w2 m a0 a1 a2 tA tF x y z o) {i k : Nat} (hi : i < 3) (hk : k < 3)
    (gi : cnt o (i : Int) < ((([l0, l1, l2] : List (List Int)).getD i []).length : Int)) (gk : cnt o (k : Int) < ((([l0, l1, l2] : List (List Int)).getD k []).length : Int)) :
    (sumsH [l0, l1, l2] o).getD i 0 * ([w0, w1, w2] : List Int).getD k 0 - (sumsH [l0, l1, l2] o).getD k 0 * ([w0, w1, w2] : List Int).getD i 0 ≤ (3 * q + 400) * ([w0, w1, w2] : List Int).getD i 0 * ([w0, w1, w2] : List Int).getD k 0 ∧
    0 - ((3 * q + 400) * ([w0, w1, w2] : List Int).getD i 0 * ([w0, w1, w2] : List Int).getD k 0) ≤ (sumsH [l0, l1, l2] o).getD i 0 * ([w0, w1, w2] : List Int).getD k 0 - (sumsH [l0, l1, l2] o).getD k 0 * ([w0, w1, w2] : List Int).getD i 0 := by
  obtain ⟨Q, p0, p1, p2⟩ := H.pi
  have key : ∀ j : Nat, j < 3 → cnt o (j : Int) < ((([l0, l1, l2] : List (List Int)).getD j []).length : Int) → ∃ left,
      (sumsH [l0, l1, l2] o).getD j 0 + left = Q * ([w0, w1, w2] : List Int).getD j 0 + (if (j : Int) < tA ∨ ((j : Int) = tA ∧ tF = false) then q * ([w0, w1, w2] : List Int).getD j 0 else 0) ∧
      0 ≤ left ∧ left ≤ 199 + (if (j : Int) = tA ∧ tF = false then q * ([w0, w1, w2] : List Int).getD j 0 else 0) := by
    intro j hj g
    match j, hj, g with
    | 0, _, g =>
      have g : cnt o 0 < (l0.length : Int) := g
      rw [H.c0] at g
      obtain ⟨e1, e2⟩ := p0 ((szf_pos V.l0 H.b0.1).2 g)
      refine ⟨x, ?_, H.hx.1, e2⟩
      show sm l0 (cnt o 0) + x = _
      rw [H.c0]
      exact e1
    | 1, _, g =>
      have g : cnt o 1 < (l1.length : Int) := g
      rw [H.c1] at g
      obtain ⟨e1, e2⟩ := p1 ((szf_pos V.l1 H.b1.1).2 g)
      refine ⟨y, ?_, H.hy.1, e2⟩
      show sm l1 (cnt o 1) + y = _
      rw [H.c1]
      exact e1
    | 2, _, g =>
      have g : cnt o 2 < (l2.length : Int) := g
      rw [H.c2] at g
      obtain ⟨e1, e2⟩ := p2 ((szf_pos V.l2 H.b2.1).2 g)
      refine ⟨z, ?_, H.hz.1, e2⟩
      show sm l2 (cnt o 2) + z = _
      rw [H.c2]
      exact e1
  obtain ⟨li, i1, i2, i3⟩ := key i hi gi
  obtain ⟨lk, k1, k2, k3⟩ := key k hk gk
  exact fair_pair V.q.1 (V.wb hi) (V.wb hk) i1 k1 ⟨i2, i3⟩ ⟨k2, k3⟩

theorem bounds_ok {Si Sk Wi Wk M : Int} (si : 0 ≤ Si ∧ Si ≤ 8000) (sk : 0 ≤ Sk ∧ Sk ≤ 8000) (wi : 1 ≤ Wi ∧ Wi ≤ 4) (wk : 1 ≤ Wk ∧ Wk ≤ 4) (m1 : 0 ≤ M) (m2 : M ≤ 580 * 4 * 4) (e1 : Si * Wk - Sk * Wi ≤ M) (e2 : 0 - M ≤ Si * Wk - Sk * Wi) :
    decide (w64 (w64 (Si * Wk) - w64 (Sk * Wi)) > M) = false ∧ decide (w64 (w64 (Si * Wk) - w64 (Sk * Wi)) < w64 (0 - M)) = false := by
  have m3 : 0 ≤ Si * Wk := Int.mul_nonneg (by omega) (by omega)
  have m4 : Si * Wk ≤ 8000 * 4 := Int.mul_le_mul (by omega) (by omega) (by omega) (by omega)
  have m5 : 0 ≤ Sk * Wi := Int.mul_nonneg (by omega) (by omega)
  have m6 : Sk * Wi ≤ 8000 * 4 := Int.mul_le_mul (by omega) (by omega) (by omega) (by omega)
  rw [w64_ok (n := Si * Wk) (by omega) (by omega), w64_ok (n := Sk * Wi) (by omega) (by omega), w64_ok (n := Si * Wk - Sk * Wi) (by omega) (by omega), w64_ok (n := 0 - M) (by omega) (by omega)]
  exact ⟨dF (by omega), dF (by omega)⟩

theorem fair_in {l0 l1 l2 : List Int} {q w0 w1 w2 : Int} (V : VL l0 l1 l2 q w0 w1 w2) (hs : SmIntSS [l0, l1, l2]) {m : Nat} {a0 a1 a2 tA : Int} {tF : Bool} {x y z : Int} {o : List Int} (H : HI l0 l1 l2 q w0 w1 w2 m a0 a1 a2 tA tF x y z (o.take m)) (ho : o.length ≤ 1048576) {i : Nat} (hi : i < 3) :
    lp laws_FnFair_s33367954 ([l0, l1, l2], [w0, w1, w2], q, o, (m : Int), ((), (), m), sumsH [l0, l1, l2] (o.take m), (i : Int), 0) = some (.inr ([l0, l1, l2], [w0, w1, w2], q, o, (m : Int), ((), (), m), sumsH [l0, l1, l2] (o.take m), (i : Int))) := by
  have hl := loads3 V.l0 V.l1 V.l2
  have ht : (o.take m).length ≤ 1048576 := by simp; omega
  have hS : (sumsH [l0, l1, l2] (o.take m)).length = 3 := rfl
  have hW : ([w0, w1, w2] : List Int).length = 3 := rfl
  refine lp_det (fun k => ([l0, l1, l2], [w0, w1, w2], q, o, (m : Int), ((), (), m), sumsH [l0, l1, l2] (o.take m), (i : Int), (k : Int))) (n := i) (by omega) (fun k hk => ?_) (by simp only [laws_FnFair_s33367954, ltF, cond_false])
  have hk3 : k < 3 := by omega
  simp only [laws_FnFair_s33367954, ltn hk, cond_true, handLeft_eq hi hs hl ht, handLeft_eq hk3 hs hl ht, Option.bind_some, wsucc (show k ≤ 1048576 by omega)]
  by_cases gi : ((([l0, l1, l2] : List (List Int)).getD i []).length : Int) > cnt (o.take m) (i : Int)
  · rw [dT gi]
    by_cases gk : ((([l0, l1, l2] : List (List Int)).getD k []).length : Int) > cnt (o.take m) (k : Int)
    · rw [dT gk]
      obtain ⟨e1, e2⟩ := pair_ok V H hi hk3 gi gk
      have si := sumsH_rng V.l0 V.l1 V.l2 (o.take m) hi
      have sk := sumsH_rng V.l0 V.l1 V.l2 (o.take m) hk3
      have wi := V.wb hi
      have wk := V.wb hk3
      simp only [Bool.not_true, cond_false, hS, hW, ixn hi, ixn hk3, lxn hi, lxn hk3, gxn, shareBound_eq V.w V.q hi hk3, Option.bind_some]
      have hq := V.q
      have m5 : (3 * q + 400) * ([w0, w1, w2] : List Int).getD i 0 ≤ 580 * 4 := Int.mul_le_mul (by omega) wi.2 (by omega) (by omega)
      have m6 : 0 ≤ (3 * q + 400) * ([w0, w1, w2] : List Int).getD i 0 := Int.mul_nonneg (by omega) (by omega)
      obtain ⟨b1, b2⟩ := bounds_ok si sk wi wk (Int.mul_nonneg m6 (by omega)) (Int.mul_le_mul m5 wk.2 (by omega) (by omega)) e1 e2
      rw [b1, b2]
      rfl
    · rw [dF gk]
      simp
  · rw [dF gi]
    simp

theorem fair_mid {l0 l1 l2 : List Int} {q w0 w1 w2 : Int} (V : VL l0 l1 l2 q w0 w1 w2) (hs : SmIntSS [l0, l1, l2]) {m : Nat} {a0 a1 a2 tA : Int} {tF : Bool} {x y z : Int} {o : List Int} (H : HI l0 l1 l2 q w0 w1 w2 m a0 a1 a2 tA tF x y z (o.take m)) (ho : o.length ≤ 1048576) :
    lp laws_FnFair_s521374 ([l0, l1, l2], [w0, w1, w2], q, o, (m : Int), ((), (), m), sumsH [l0, l1, l2] (o.take m), 0) = some (.inr ([l0, l1, l2], [w0, w1, w2], q, o, (m : Int))) := by
  refine lp_det (fun i => ([l0, l1, l2], [w0, w1, w2], q, o, (m : Int), ((), (), m), sumsH [l0, l1, l2] (o.take m), (i : Int))) (n := 3) (by omega) (fun i hi => ?_) (by simp [laws_FnFair_s521374])
  simp only [laws_FnFair_s521374, dT (show (i : Int) < 3 by omega), cond_true, fair_in V hs H ho hi, bx_inr, wsucc (show i ≤ 1048576 by omega)]

/-- The law's twin answers true. -/
theorem law_fair (a : List Int) : laws_FnFair a = some true := by
  simp only [laws_FnFair, laws_big, Option.bind_some, lnn, bif_dec]
  split
  · rfl
  · rename_i ha
    obtain ⟨ls, W, q, n, e0, hs, hW⟩ := drawHand_ok (a := a) (by omega)
    simp only [e0, Option.bind_some]
    cases hk : hOk ls W q with
    | false =>
      obtain ⟨e1, e2⟩ := hand_bad q n hs (by omega) hk
      simp only [e1, e2, Option.bind_some, sameInts_ok (l := []) (by simp), Bool.not_true, cond_false]
      rfl
    | true =>
      obtain ⟨l0, l1, l2, w0, w1, w2, rfl, rfl, V⟩ := hOk_get hk
      obtain ⟨k, s, e1, e2, hr, hlim, _⟩ := hand_good n V hs
      obtain ⟨_, _, _, _, _, _, _, _, o, rfl, H⟩ := run_inv V k s hr
      have hlen := H.len
      have h200 : k ≤ 200 := by unfold limN at hlim; omega
      simp only at e1 e2
      simp only [e1, e2, Option.bind_some, sameInts_ok (l := o) (by omega), Bool.not_true, cond_false]
      cases hz : ((o.length : Int) == 0) with
      | true => rfl
      | false =>
        have hl : lp laws_FnFair_s1018 ([l0, l1, l2], [w0, w1, w2], q, o, 1) = some (.inr ()) := by
          refine lp_det (fun i => ([l0, l1, l2], [w0, w1, w2], q, o, ((i + 1 : Nat) : Int))) (n := o.length) (by omega) (fun i hi => ?_) ?_
          · obtain ⟨a0, a1, a2, tA, tF, x, y, z, H1⟩ := prefix_at V hr (m := i + 1) (by omega)
            simp only at H1
            have hc : decide (0 ≤ i + 1 ∧ i + 1 ≤ o.length) = true := dT (by omega)
            have h3 : (((sumsH [l0, l1, l2] (o.take (i + 1))).length : Int) != 3) = false := rfl
            simp only [laws_FnFair_s1018, lnn, dT (show ((i + 1 : Nat) : Int) ≤ (o.length : Int) by omega), cond_true, g0_ok (show (0 : Int) ≤ ((i + 1 : Nat) : Int) by omega), Int.toNat_natCast, hc, chk_tt,
              handSum_eq V.l0 V.l1 V.l2 hs (show (o.take (i + 1)).length ≤ 1048576 by simp; omega), Option.bind_some, h3, cond_false, fair_mid V hs H1 (show o.length ≤ 1048576 by omega), bx_inr, wsucc (show i + 1 ≤ 1048576 by omega)]
          · simp only [laws_FnFair_s1018, lnn, dF (show ¬ ((o.length + 1 : Nat) : Int) ≤ (o.length : Int) by omega), cond_false]
        simp only [cond_false, hl, bx_inr]

end Go.Proofs.Ytllbngjomgabjaa.Tw
