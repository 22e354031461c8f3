/- Plain: the loads that are drawn, and what the program tells of an order. No condition: lemmas. -/
import Derived.Test.YtllbngjomgabjaaHf
namespace Go.Proofs.Ytllbngjomgabjaa.Tw
open Go.Mach
set_option linter.unusedVariables false
set_option linter.unusedSimpArgs false
set_option maxRecDepth 20000

/-! ### what is drawn -/
theorem loads_in {out : List (List Int)} {b d : Int} {c : CuT} (h : CuOk c) (hd : 0 ≤ d ∧ d ≤ 14) :
    ∃ r, lp spec_l21Loads_s29850 ((), out, b, [], d, 0, c) = some r ∧ ∃ l c', r = ((), out, b, l, c') ∧ l.length ≤ 14 ∧ CuOk c' := by
  refine lp_total (S := spec_l21Loads_s29850) (I := fun n s => ∃ l e c', s = ((), out, b, l, d, e, c') ∧ CuOk c' ∧ l.length + n ≤ 14 ∧ (n : Int) + e = d ∧ 0 ≤ e) (Q := fun r => ∃ l c', r = ((), out, b, l, c') ∧ l.length ≤ 14 ∧ CuOk c') ?_ (n := d.toNat) (by omega) ⟨[], 0, c, rfl, h, by simp; omega, by omega, by omega⟩
  rintro n s ⟨l, e, ⟨f, g, k⟩, rfl, hc, h1, h2, h3⟩
  by_cases he : e < d
  · right
    obtain ⟨x, ⟨a1, b1, k1⟩, e1, _, g1⟩ := l1PickInt_ok hc (l := [1, 10, 30, 60, 120, 200, 8]) (by simp)
    refine ⟨n - 1, ((), out, b, l ++ [x], d, w64 (e + 1), a1, b1, k1), by omega, ?_, _, _, _, rfl, g1, by simp; omega, by rw [w64_ok (by omega) (by omega)]; omega, by rw [w64_ok (by omega) (by omega)]; omega⟩
    simp only [spec_l21Loads_s29850, dT he, cond_true, Option.bind_some, e1]
    rw [fitsC (by simp; omega) (by omega)]
  · left
    refine ⟨((), out, b, l, f, g, k), ?_, _, _, rfl, by omega, hc⟩
    simp only [spec_l21Loads_s29850, dF he, cond_false]

theorem loads_out {c : CuT} (h : CuOk c) : ∃ r, lp spec_l21Loads_s58 ((), [], 0, c) = some r ∧ ∃ out c', r = ((), out, c') ∧ out.length = 3 ∧ (∀ l ∈ out, l.length ≤ 14) ∧ CuOk c' := by
  refine lp_total (S := spec_l21Loads_s58) (I := fun n s => ∃ out b c', s = ((), out, b, c') ∧ CuOk c' ∧ out.length + n = 3 ∧ (n : Int) + b = 3 ∧ ∀ l ∈ out, l.length ≤ 14) (Q := fun r => ∃ out c', r = ((), out, c') ∧ out.length = 3 ∧ (∀ l ∈ out, l.length ≤ 14) ∧ CuOk c') ?_ (n := 3) (by omega) ⟨[], 0, c, rfl, h, rfl, rfl, by simp⟩
  rintro n s ⟨out, b, ⟨f, g, k⟩, rfl, hc, h1, h2, h3⟩
  by_cases hb : b < 3
  · right
    obtain ⟨x, ⟨a1, b1, k1⟩, e1, x1, x2, g1⟩ := below_ok hc (n := 14) (by omega)
    obtain ⟨r, e2, l, ⟨a2, b2, k2⟩, rfl, hl, g2⟩ := loads_in (out := out) (b := b) (d := x) g1 ⟨x1, by omega⟩
    refine ⟨n - 1, ((), out ++ [l], w64 (b + 1), a2, b2, k2), by omega, ?_, _, _, _, rfl, g2, by simp; omega, by rw [w64_ok (by omega) (by omega)]; omega, ?_⟩
    · simp only [spec_l21Loads_s58, dT hb, cond_true, Option.bind_some, e1, e2]
      rw [fitsC (by simp; omega) (by omega)]
    · intro z hz
      simp only [List.mem_append, List.mem_singleton] at hz
      rcases hz with hz | rfl
      · exact h3 z hz
      · exact hl
  · left
    refine ⟨((), out, f, g, k), ?_, _, _, rfl, by omega, h3, hc⟩
    simp only [spec_l21Loads_s58, dF hb, cond_false]

theorem loads_ok {c : CuT} (h : CuOk c) : ∃ ls c', spec_l21Loads c = some (ls, c') ∧ SmIntSS ls ∧ CuOk c' := by
  obtain ⟨a, b, k⟩ := c
  obtain ⟨r, e1, out, ⟨a1, b1, k1⟩, rfl, h3, hl, g1⟩ := loads_out h
  obtain ⟨x, ⟨a2, b2, k2⟩, e2, x1, x2, g2⟩ := below_ok g1 (n := 16) (by omega)
  simp only [spec_l21Loads, e1, e2, Option.bind_some]
  have hsm : ∀ l ∈ out, l.length ≤ 1048576 := fun l hm => by have := hl l hm; omega
  have hpos : decide (0 < out.length) = true := dT (by omega)
  cases hx : (x == 0) with
  | true =>
    obtain ⟨y, ⟨a3, b3, k3⟩, e3, _, g3⟩ := l1PickInt_ok g2 (l := [0, 201, -1]) (by simp)
    have h0 : (out.getD 0 []).length ≤ 14 := hl _ (getD_mem (by omega))
    have hf : fits ((List.getD out 0 []).length + [y].length) 8 = true := fitsB (by rw [List.length_singleton]; omega) (by omega)
    simp only [cond_true, hpos, chk_tt, e3, Option.bind_some, hf]
    refine ⟨_, _, rfl, ⟨by simp; omega, fun r hr => ?_⟩, g3⟩
    rcases List.mem_or_eq_of_mem_set hr with hr | rfl
    · exact hsm r hr
    · rw [List.length_append, List.length_singleton]; omega
  | false =>
    simp only [cond_false]
    cases hx1 : (x == 1) with
    | true =>
      have hc : decide (1 ≤ out.length ∧ out.length ≤ out.length) = true := dT (by omega)
      simp only [cond_true, hc, chk_tt]
      exact ⟨_, _, rfl, ⟨by simp; omega, fun r hr => hsm r (List.mem_of_mem_drop hr)⟩, g2⟩
    | false =>
      simp only [cond_false]
      exact ⟨_, _, rfl, ⟨by omega, hsm⟩, g2⟩

theorem drawHand_ok {a : List Int} (h : a.length ≤ 1048576) : ∃ ls W q n, spec_DrawHand a = some (ls, W, q, n) ∧ SmIntSS ls ∧ W.length = 3 := by
  obtain ⟨⟨a0, b0, k0⟩, e0, g0⟩ := l1New_ok h
  obtain ⟨ls, ⟨a1, b1, k1⟩, e1, hs, g1⟩ := loads_ok g0
  obtain ⟨x1, ⟨a2, b2, k2⟩, e2, _, _, g2⟩ := below_ok g1 (n := 4) (by omega)
  obtain ⟨x2, ⟨a3, b3, k3⟩, e3, _, _, g3⟩ := below_ok g2 (n := 4) (by omega)
  obtain ⟨x3, ⟨a4, b4, k4⟩, e4, _, _, g4⟩ := below_ok g3 (n := 4) (by omega)
  obtain ⟨x4, ⟨a5, b5, k5⟩, e5, _, _, g5⟩ := below_ok g4 (n := 16) (by omega)
  simp only [spec_DrawHand, spec_l21Four, e0, e1, e2, e3, e4, e5, spec_l1Once, Option.bind_some]
  cases hx : (x4 == 0) with
  | true =>
    obtain ⟨x5, ⟨a6, b6, k6⟩, e6, _, g6⟩ := l1PickInt_ok g5 (l := [0, 5]) (by simp)
    obtain ⟨x6, ⟨a7, b7, k7⟩, e7, _, g7⟩ := l1PickInt_ok g6 (l := [1, 7, 20, 60, 60, 0, 61]) (by simp)
    obtain ⟨x7, ⟨a8, b8, k8⟩, e8, _, g8⟩ := l1PickInt_ok g7 (l := [0, 1, 5, 20, 40, 200, 201, -1]) (by simp)
    simp only [cond_true, e6, Option.bind_some, List.length_cons, List.length_nil, Nat.zero_add, Nat.reduceAdd, Nat.lt_add_one, Nat.zero_lt_succ, decide_true, chk_tt, e7, e8]
    exact ⟨_, _, _, _, rfl, hs, by simp⟩
  | false =>
    obtain ⟨x6, ⟨a7, b7, k7⟩, e7, _, g7⟩ := l1PickInt_ok g5 (l := [1, 7, 20, 60, 60, 0, 61]) (by simp)
    obtain ⟨x7, ⟨a8, b8, k8⟩, e8, _, g8⟩ := l1PickInt_ok g7 (l := [0, 1, 5, 20, 40, 200, 201, -1]) (by simp)
    simp only [cond_false, e7, e8, Option.bind_some]
    exact ⟨_, _, _, _, rfl, hs, by simp⟩

/-! ### what the program tells of an order -/
theorem cnt_go (x : Int) : ∀ (l : List Int) (c : Int), l.foldl (fun c y => bif y == x then c + 1 else c) c = c + cnt l x
  | [], c => by simp [cnt]
  | y :: l, c => by
    rw [List.foldl_cons, cnt_go x l]
    unfold cnt
    rw [List.filter_cons]
    cases h : (y == x) with
    | true => simp; omega
    | false => simp

theorem cnt_rng (l : List Int) (x : Int) : 0 ≤ cnt l x ∧ cnt l x ≤ (l.length : Int) := by
  unfold cnt
  have := List.length_filter_le (fun y => y == x) l
  omega

theorem often_eq {l : List Int} (hl : l.length ≤ 1048576) (x : Int) : impl_often (l, x) = some (cnt l x) := by
  have := lp_fold (S := impl_often_s58) l 0 (fun c i => (x, c, l, (l.length : Int), (i : Int))) (fun c y => bif y == x then c + 1 else c) (fun c => c) (fun c i => 0 ≤ c ∧ c ≤ (i : Int)) hl (fun c i hi hI hm => by
    simp only [impl_often_s58, ltn hi, cond_true, ixn hi, gxn, wsucc (show i ≤ 1048576 by omega), w64_ok (n := c + 1) (by omega) (by omega)]
    cases (l.getD i 0 == x) <;> refine ⟨rfl, ?_⟩ <;> simp <;> omega) (fun c hI => by simp only [impl_often_s58, ltF, cond_false]) (a0 := 0) (by simp)
  rw [cast0] at this
  simp only [impl_often, lnn, this, Option.bind_some, cnt_go, Int.zero_add]

theorem sum_go : ∀ (l : List Int) (c : Int), l.foldl (fun c y => c + y) c = c + l.sum
  | [], c => by simp
  | y :: l, c => by rw [List.foldl_cons, sum_go l, List.sum_cons]; omega

theorem sum_rng : ∀ {l : List Int} {m : Nat}, l.length ≤ m → (∀ x ∈ l, 1 ≤ x ∧ x ≤ 200) → 0 ≤ l.sum ∧ l.sum ≤ 200 * (l.length : Int)
  | [], m, _, _ => by simp
  | y :: l, m, h, h' => by
    have := sum_rng (l := l) (m := m) (by simp at h; omega) (fun x hx => h' x (by simp [hx]))
    have := h' y (by simp)
    rw [List.sum_cons, List.length_cons]
    omega

theorem listOk_all {l : List Int} (h : listOk l = true) : ∀ x ∈ l, 1 ≤ x ∧ x ≤ 200 := by
  unfold listOk at h
  simp only [Bool.and_eq_true, List.all_eq_true, inR_iff] at h
  exact h.2

theorem sm_rng {l : List Int} (h : listOk l = true) (a : Int) : 0 ≤ sm l a ∧ sm l a ≤ 8000 := by
  have h1 := len40 h
  have h2 := sum_rng (l := l.take a.toNat) (m := 40) (by simp; omega) (fun x hx => listOk_all h x (List.mem_of_mem_take hx))
  have h3 : (l.take a.toNat).length ≤ 40 := by simp; omega
  unfold sm
  omega

theorem sum_in {o out : List Int} {ls : List (List Int)} {n e : Int} {l : List Int} (h1 : l.length ≤ 40) (h2 : ∀ x ∈ l, 1 ≤ x ∧ x ≤ 200) :
    lp impl_HandSum_s125338 (o, out, 0, ls, n, e, l, (l.length : Int), 0) = some (o, out, l.sum, ls, n, e) := by
  have := lp_fold (S := impl_HandSum_s125338) l 0 (fun c i => (o, out, c, ls, n, e, l, (l.length : Int), (i : Int))) (fun c y => c + y) (fun c => (o, out, c, ls, n, e)) (fun c i => 0 ≤ c ∧ c ≤ 200 * (i : Int)) (by omega) (fun c i hi hI hm => by
    have := h2 _ hm
    simp only [impl_HandSum_s125338, ltn hi, cond_true, ixn hi, gxn, wsucc (show i ≤ 1048576 by omega)]
    rw [w64_ok (by omega) (by omega)]
    exact ⟨rfl, by omega, by omega⟩) (fun c hI => by simp only [impl_HandSum_s125338, ltF, cond_false]) (a0 := 0) (by simp)
  rw [cast0] at this
  rw [this, sum_go, Int.zero_add]

/-- The sums that an order comes to. -/
def sumsH (ls : List (List Int)) (o : List Int) : List Int := [sm (ls.getD 0 []) (cnt o 0), sm (ls.getD 1 []) (cnt o 1), sm (ls.getD 2 []) (cnt o 2)]

theorem loads3 {l0 l1 l2 : List Int} (h0 : listOk l0 = true) (h1 : listOk l1 = true) (h2 : listOk l2 = true) : loadsOk [l0, l1, l2] = true := by simp [loadsOk, h0, h1, h2]

theorem handSum_step {l : List Int} {ls : List (List Int)} {o out : List Int} {i : Nat} (hi : i < 3) (hl3 : ls.length = 3) (hli : ls.getD i [] = l) (hl : listOk l = true) (ho : o.length ≤ 1048576) (hout : out.length ≤ 3) :
    impl_HandSum_s122 (o, out, ls, 3, (i : Int)) = some (.inl (o, out ++ [sm l (cnt o i)], ls, 3, ((i + 1 : Nat) : Int))) := by
  have h40 := len40 hl
  have hc := cnt_rng o (i : Int)
  simp only [impl_HandSum_s122, dT (show (i : Int) < 3 by omega), cond_true, ixn (show i < ls.length by omega), often_eq ho, Option.bind_some, gxn, Int.toNat_natCast, hli]
  have hg : ∃ g : Int, (if cnt o (i : Int) < (l.length : Int) then cnt o (i : Int) else (l.length : Int)) = g ∧ 0 ≤ g ∧ g ≤ (l.length : Int) ∧ l.take g.toNat = l.take (cnt o (i : Int)).toNat := by
    by_cases hq : cnt o (i : Int) < (l.length : Int)
    · exact ⟨cnt o (i : Int), by rw [if_pos hq], hc.1, by omega, rfl⟩
    · refine ⟨_, by rw [if_neg hq], by omega, by omega, ?_⟩
      rw [List.take_of_length_le (by omega), List.take_of_length_le (by omega)]
  obtain ⟨g, e1, e2, e3, e4⟩ := hg
  simp only [e1]
  rw [g0_ok e2, chk_ok (dT (by omega)), e4]
  have hlen : (l.take (cnt o (i : Int)).toNat).length ≤ 40 := by simp; omega
  simp only [lnn]
  rw [sum_in hlen (fun x hx => listOk_all hl x (List.mem_of_mem_take hx))]
  simp only [Option.bind_some]
  rw [fitsC (by simp; omega) (by omega), wsucc (by omega)]
  rfl

theorem handSum_eq {l0 l1 l2 : List Int} {o : List Int} (h0 : listOk l0 = true) (h1 : listOk l1 = true) (h2 : listOk l2 = true) (hs : SmIntSS [l0, l1, l2]) (ho : o.length ≤ 1048576) : impl_HandSum ([l0, l1, l2], o) = some (sumsH [l0, l1, l2] o) := by
  have := lp_det (S := impl_HandSum_s122) (fun i => (o, (sumsH [l0, l1, l2] o).take i, [l0, l1, l2], 3, (i : Int))) (n := 3) (b := sumsH [l0, l1, l2] o) (by omega) (fun i hi => by
    match i, hi with
    | 0, _ => exact handSum_step (i := 0) (out := []) (by omega) rfl rfl h0 ho (by simp)
    | 1, _ => exact handSum_step (i := 1) (out := [_]) (by omega) rfl rfl h1 ho (by simp)
    | 2, _ => exact handSum_step (i := 2) (out := [_, _]) (by omega) rfl rfl h2 ho (by simp)) (by simp [impl_HandSum_s122, sumsH])
  simp only [impl_HandSum, implLoadsOk_eq hs, loads3 h0 h1 h2, Option.bind_some, Bool.not_true, cond_false]
  have h3 : ln [l0, l1, l2] = 3 := rfl
  rw [h3]
  have h4 : ([] : List Int) = (sumsH [l0, l1, l2] o).take 0 := rfl
  rw [h4, ← cast0, this]
  rfl

theorem handLeft_eq {ls : List (List Int)} {o : List Int} {i : Nat} (hi : i < 3) (hs : SmIntSS ls) (hl : loadsOk ls = true) (ho : o.length ≤ 1048576) : impl_HandLeft (ls, o, (i : Int)) = some (decide (((ls.getD i []).length : Int) > cnt o (i : Int))) := by
  have hlen : ls.length = 3 := by unfold loadsOk at hl; simp only [Bool.and_eq_true, beq_iff_eq] at hl; omega
  have hin : inR (i : Int) 0 2 = true := inR_iff.2 (by omega)
  simp only [impl_HandLeft, within_eq, hin, Option.bind_some, cond_true, implLoadsOk_eq hs, hl, ixn (show i < ls.length by omega), often_eq ho, gxn, lnn]

theorem shareBound_eq {W : List Int} {q : Int} {i k : Nat} (hW : (W.all (fun x => inR x 1 4) && ((W.length : Int) == 3)) = true) (hq : 1 ≤ q ∧ q ≤ 60) (hi : i < 3) (hk : k < 3) : impl_ShareBound (W, q, (i : Int), (k : Int)) = some ((3 * q + 400) * W.getD i 0 * W.getD k 0) := by
  have hlen : W.length = 3 := by simp only [Bool.and_eq_true, beq_iff_eq] at hW; omega
  have hin : inR (i : Int) 0 2 = true := inR_iff.2 (by omega)
  have hkn : inR (k : Int) 0 2 = true := inR_iff.2 (by omega)
  have hqn : inR q 1 60 = true := inR_iff.2 hq
  have hall : ∀ j, j < 3 → 1 ≤ W.getD j 0 ∧ W.getD j 0 ≤ 4 := by
    intro j hj
    simp only [Bool.and_eq_true, List.all_eq_true, inR_iff] at hW
    exact hW.1 _ (getD_mem (by omega))
  obtain ⟨a1, a2⟩ := hall i hi
  obtain ⟨b1, b2⟩ := hall k hk
  have c1 : (3 * q + 400) * W.getD i 0 ≤ 580 * 4 := Int.mul_le_mul (by omega) a2 (by omega) (by omega)
  have c2 : 0 ≤ (3 * q + 400) * W.getD i 0 := Int.mul_nonneg (by omega) (by omega)
  have c3 : (3 * q + 400) * W.getD i 0 * W.getD k 0 ≤ 580 * 4 * 4 := Int.mul_le_mul c1 b2 (by omega) (by omega)
  have c4 : 0 ≤ (3 * q + 400) * W.getD i 0 * W.getD k 0 := Int.mul_nonneg c2 (by omega)
  simp only [impl_ShareBound, allWithin_eq (show W.length ≤ 1048576 by omega), hW, within_eq, hqn, hin, hkn, Bool.not_true, cond_false, Option.bind_some, ixn (show i < W.length by omega), ixn (show k < W.length by omega), gxn]
  rw [w64_ok (n := 3 * q) (by omega) (by omega), w64_ok (n := 3 * q + 400) (by omega) (by omega), w64_ok (n := (3 * q + 400) * W.getD i 0) (by omega) (by omega), w64_ok (by omega) (by omega)]

theorem sameInts_ok {l : List Int} (hl : l.length ≤ 1048576) : laws_sameInts (l, l) = some true := by
  have h : lp laws_sameInts_s58 (l, l, ((0 : Nat) : Int)) = some (.inr ()) := by
    refine lp_det (fun i => (l, l, (i : Int))) (n := l.length) hl (fun i hi => ?_) ?_
    · simp only [laws_sameInts_s58, lnn, ltn hi, cond_true, ixn hi, gxn, wsucc (show i ≤ 1048576 by omega), bne_self_eq_false, cond_false]
    · simp only [laws_sameInts_s58, lnn, ltF, cond_false]
  rw [cast0] at h
  simp only [laws_sameInts, bne_self_eq_false, cond_false, h]
  rfl

theorem times_eq {l : List Int} (hl : l.length ≤ 1048576) (x : Int) : laws_times (l, x) = some (cnt l x) := by
  have := lp_fold (S := laws_times_s58) l 0 (fun c i => (l, x, c, (i : Int))) (fun c y => bif y == x then c + 1 else c) (fun c => c) (fun c i => 0 ≤ c ∧ c ≤ (i : Int)) hl (fun c i hi hI hm => by
    simp only [laws_times_s58, lnn, ltn hi, cond_true, ixn hi, gxn, wsucc (show i ≤ 1048576 by omega), w64_ok (n := c + 1) (by omega) (by omega)]
    cases (l.getD i 0 == x) <;> refine ⟨rfl, ?_⟩ <;> simp <;> omega) (fun c hI => by simp only [laws_times_s58, lnn, ltF, cond_false]) (a0 := 0) (by simp)
  rw [cast0] at this
  simp only [laws_times, this, Option.bind_some, cnt_go, Int.zero_add]

end Go.Proofs.Ytllbngjomgabjaa.Tw
