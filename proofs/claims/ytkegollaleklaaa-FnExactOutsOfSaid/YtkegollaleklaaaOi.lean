/- Plain: the program reads outs from bytes; FnExactOutsOf. No condition: lemmas. -/
import Derived.Test.YtkegollaleklaaaOr
namespace Go.Proofs.Ytkegollaleklaaa.Tw
open Go.Mach
set_option linter.unusedVariables false
set_option linter.unusedSimpArgs false
set_option maxRecDepth 20000

section
variable {a : List Int} (hb : Bts a) (hl : a.length ≤ 1048576)
include hb hl

theorem num_any {p : Nat} (hp : p ≤ a.length) (bad : Bool) : ∃ (n : Int) (p' : Nat) (bad' : Bool), impl_reader__num (a, (p : Int), bad) = some (n, a, (p' : Int), bad') ∧ p ≤ p' ∧ p' ≤ a.length ∧ (bad' = false → bad = false ∧ 0 ≤ n ∧ n ≤ 2147483647 ∧ p < p') := by
  obtain ⟨r, e1, e2⟩ := implGet_any hb hl (p := p) (by omega)
  simp only [impl_reader__num, e1, Option.bind_some]
  cases bad with
  | true => exact ⟨0, p, true, rfl, Nat.le_refl _, hp, fun h => by cases h⟩
  | false =>
    rcases e2 with rfl | ⟨n, q, rfl, h1, h2, h3, h4⟩
    · exact ⟨0, p, true, rfl, Nat.le_refl _, hp, fun h => by cases h⟩
    · exact ⟨n, q, false, rfl, by omega, h4, fun _ => ⟨rfl, h1, h2, h3⟩⟩
theorem num_enc {p : Nat} {x : Int} (hx : 0 ≤ x ∧ x ≤ 2147483647) {r : List Int} (h : a.drop p = nB x ++ r) : impl_reader__num (a, (p : Int), false) = some (x, a, ((p + (nB x).length : Nat) : Int), false) := by
  simp only [impl_reader__num, implGet_enc hb hl hx.1 hx.2 h, Option.bind_some, cond_false, Bool.not_true]

theorem nums_any {p : Nat} (hp : p ≤ a.length) (bad : Bool) {m : Int} (hm : m ≤ 8) : ∃ (l : List Int) (p' : Nat) (bad' : Bool), impl_reader__nums ((a, (p : Int), bad), m) = some (l, a, (p' : Int), bad') ∧ p ≤ p' ∧ p' ≤ a.length ∧ l.length ≤ 8 ∧ (bad' = false → bad = false) := by
  obtain ⟨b, e1, l, p', bad', rfl, h1, h2, h3, h4⟩ := lp_meas (S := impl_reader__nums_s58) (fun s => ∃ (l : List Int) (q : Nat) (bd : Bool), s = ((), m, l, (l.length : Int), a, (q : Int), bd) ∧ p ≤ q ∧ q ≤ a.length ∧ l.length ≤ 8 ∧ (bd = false → bad = false)) (fun s => (m - s.2.2.2.1).toNat)
    (fun b => ∃ (l : List Int) (q : Nat) (bd : Bool), b = (l, a, (q : Int), bd) ∧ p ≤ q ∧ q ≤ a.length ∧ l.length ≤ 8 ∧ (bd = false → bad = false)) (fun s hs => by
      obtain ⟨l, q, bd, rfl, h1, h2, h3, h4⟩ := hs
      by_cases hlm : (l.length : Int) < m
      · cases bd with
        | true =>
          right
          simp only [impl_reader__nums_s58, dT hlm, cond_true, Bool.not_true, cond_false]
          exact ⟨_, rfl, l, q, true, rfl, h1, h2, h3, h4⟩
        | false =>
          left
          obtain ⟨n, q', bd', g1, g2, g3, g4⟩ := num_any hb hl h2 false
          simp only [impl_reader__nums_s58, dT hlm, cond_true, Bool.not_false, g1, Option.bind_some]
          rw [fitsC (by simp only [List.length_singleton]; omega) (by omega), wsucc (by omega)]
          exact ⟨_, rfl, ⟨l ++ [n], q', bd', by simp, by omega, g3, by simp; omega, fun _ => h4 rfl⟩, by simp only; omega⟩
      · right
        simp only [impl_reader__nums_s58, dF hlm, cond_false]
        exact ⟨_, rfl, l, q, bd, rfl, h1, h2, h3, h4⟩) (s := ((), m, [], 0, a, (p : Int), bad)) ⟨[], p, bad, rfl, Nat.le_refl _, hp, by simp, id⟩ (by simp only; omega)
  exact ⟨l, p', bad', by simp only [impl_reader__nums, e1, Option.bind_some], h1, h2, h3, h4⟩
theorem nums_enc {p : Nat} {l : List Int} (hr : Rng l) (hn : l.length ≤ 1048576) {r : List Int} (h : a.drop p = nsB l ++ r) {m : Int} (hm : m = (l.length : Int)) : impl_reader__nums ((a, (p : Int), false), m) = some (l, a, ((p + (nsB l).length : Nat) : Int), false) := by
  subst hm
  have q := lp_det (S := impl_reader__nums_s58) (fun i => ((), (l.length : Int), l.take i, (i : Int), a, ((p + (nsB (l.take i)).length : Nat) : Int), false)) hn (b := (l, a, ((p + (nsB l).length : Nat) : Int), false)) (fun i hi => by
    have hx := hr _ (getD_mem (d := 0) hi)
    have hd : a.drop (p + (nsB (l.take i)).length) = nB (l.getD i 0) ++ (nsB (l.drop (i + 1)) ++ r) := by
      refine drop_app ?_
      rw [h, nsB_split hi, List.append_assoc, List.append_assoc]
    simp only [impl_reader__nums_s58, ltn hi, cond_true, Bool.not_false, num_enc hb hl hx hd, Option.bind_some, wsucc (show i ≤ 1048576 by omega)]
    rw [fitsC (by simp only [List.length_take, List.length_singleton]; omega) (by omega), take_snoc 0 hi, nsB_app, nsB_one, List.length_append, Nat.add_assoc]) (by simp only [impl_reader__nums_s58, ltF, cond_false, List.take_length])
  have e0 : nsB (l.take 0) = [] := rfl
  have e1 : ([] : List Int).length = 0 := rfl
  rw [cast0, e0, e1, Nat.add_zero, List.take_zero] at q
  simp only [impl_reader__nums, q, Option.bind_some]

theorem spans_any {p : Nat} (hp : p ≤ a.length) (bad : Bool) : ∃ (l : List SpT) (p' : Nat) (bad' : Bool), impl_reader__spans (a, (p : Int), bad) = some (l, a, (p' : Int), bad') ∧ p ≤ p' ∧ p' ≤ a.length ∧ l.length ≤ 1048577 ∧ (bad' = false → bad = false ∧ l.length ≤ 1048576) := by
  obtain ⟨c, p0, bd0, e0, z1, z2, z3⟩ := num_any hb hl hp bad
  obtain ⟨b, e1, l, p', bad', rfl, h1, h2, h3, h4⟩ := lp_meas (S := impl_reader__spans_s122) (fun s => ∃ (l : List SpT) (q : Nat) (bd : Bool), s = ((), l, c, (l.length : Int), a, (q : Int), bd) ∧ p ≤ q ∧ q ≤ a.length ∧ l.length ≤ a.length + 1 ∧ (bd = false → bad = false ∧ l.length ≤ q)) (fun s => match s.2.2.2.2.2.2 with | true => 0 | false => a.length + 1 - s.2.2.2.2.2.1.toNat)
    (fun b => ∃ (l : List SpT) (q : Nat) (bd : Bool), b = (l, a, (q : Int), bd) ∧ p ≤ q ∧ q ≤ a.length ∧ l.length ≤ a.length + 1 ∧ (bd = false → bad = false ∧ l.length ≤ q)) (fun s hs => by
      obtain ⟨l, q, bd, rfl, h1, h2, h3, h4⟩ := hs
      by_cases hlm : (l.length : Int) < c
      · cases bd with
        | true =>
          right
          simp only [impl_reader__spans_s122, dT hlm, cond_true, Bool.not_true, cond_false]
          exact ⟨_, rfl, l, q, true, rfl, h1, h2, h3, h4⟩
        | false =>
          left
          obtain ⟨k1, k2⟩ := h4 rfl
          obtain ⟨n, q', bd', g1, g2, g3, g4⟩ := num_any hb hl h2 false
          obtain ⟨n2, q2, bd2, f1, f2, f3, f4⟩ := num_any hb hl g3 bd'
          simp only [impl_reader__spans_s122, dT hlm, cond_true, Bool.not_false, g1, f1, Option.bind_some]
          rw [fitsC (by simp only [List.length_singleton]; omega) (by omega), wsucc (by omega)]
          refine ⟨_, rfl, ⟨l ++ [(n, n2)], q2, bd2, by simp, by omega, f3, by simp; omega, fun hbd => ⟨k1, ?_⟩⟩, ?_⟩
          · obtain ⟨m1, m2, m3, m4⟩ := f4 hbd
            obtain ⟨u1, u2, u3, u4⟩ := g4 m1
            simp; omega
          · simp only [Int.toNat_natCast]
            cases bd2 with
            | true => simp only; omega
            | false =>
              obtain ⟨m1, m2, m3, m4⟩ := f4 rfl
              simp only; omega
      · right
        simp only [impl_reader__spans_s122, dF hlm, cond_false]
        exact ⟨_, rfl, l, q, bd, rfl, h1, h2, h3, h4⟩) (s := ((), [], c, 0, a, (p0 : Int), bd0)) ⟨[], p0, bd0, rfl, z1, z2, by simp, fun q => ⟨(z3 q).1, by simp⟩⟩ (by simp only; split <;> omega)
  exact ⟨l, p', bad', by simp only [impl_reader__spans, e0, Option.bind_some, e1], h1, h2, by omega, fun q => ⟨(h4 q).1, by have := (h4 q).2; omega⟩⟩
theorem spans_enc {p : Nat} {l : List SpT} (hr : Rng (fl l)) (hn : l.length ≤ 1048576) {r : List Int} (h : a.drop p = nB (l.length : Int) ++ (nsB (fl l) ++ r)) : impl_reader__spans (a, (p : Int), false) = some (l, a, ((p + (nB (l.length : Int)).length + (nsB (fl l)).length : Nat) : Int), false) := by
  have g0 := num_enc hb hl (x := (l.length : Int)) ⟨by omega, by omega⟩ h
  have d1 := drop_app h
  generalize hq : p + (nB (l.length : Int)).length = q at *
  have qq := lp_det (S := impl_reader__spans_s122) (fun i => ((), l.take i, (l.length : Int), (i : Int), a, ((q + (nsB (fl (l.take i))).length : Nat) : Int), false)) hn (b := (l, a, ((q + (nsB (fl l)).length : Nat) : Int), false)) (fun i hi => by
    have hsp : nsB (fl l) = nsB (fl (l.take i)) ++ (nB (l.getD i (0, 0)).1 ++ (nB (l.getD i (0, 0)).2 ++ nsB (fl (l.drop (i + 1))))) := by
      conv => lhs; rw [← List.take_append_drop i l, drop_cons (0, 0) hi]
      simp [fl, nsB]
    have hx1 : 0 ≤ (l.getD i (0, 0)).1 ∧ (l.getD i (0, 0)).1 ≤ 2147483647 := hr _ (List.mem_flatMap.2 ⟨_, getD_mem (d := (0, 0)) hi, by simp⟩)
    have hx2 : 0 ≤ (l.getD i (0, 0)).2 ∧ (l.getD i (0, 0)).2 ≤ 2147483647 := hr _ (List.mem_flatMap.2 ⟨_, getD_mem (d := (0, 0)) hi, by simp⟩)
    have hd : a.drop (q + (nsB (fl (l.take i))).length) = nB (l.getD i (0, 0)).1 ++ (nB (l.getD i (0, 0)).2 ++ (nsB (fl (l.drop (i + 1))) ++ r)) := by
      refine drop_app ?_
      rw [d1, hsp]
      simp only [List.append_assoc]
    have hd2 := drop_app hd
    simp only [impl_reader__spans_s122, ltn hi, cond_true, Bool.not_false, num_enc hb hl hx1 hd, num_enc hb hl hx2 hd2, Option.bind_some, wsucc (show i ≤ 1048576 by omega)]
    rw [fitsC (by simp only [List.length_take, List.length_singleton]; omega) (by omega), take_snoc (0, 0) hi]
    have : fl (l.take i ++ [l.getD i (0, 0)]) = fl (l.take i) ++ [(l.getD i (0, 0)).1, (l.getD i (0, 0)).2] := by simp [fl]
    rw [this, nsB_app]
    have e2 : nsB [(l.getD i (0, 0)).1, (l.getD i (0, 0)).2] = nB (l.getD i (0, 0)).1 ++ nB (l.getD i (0, 0)).2 := by simp [nsB]
    rw [e2, List.length_append, List.length_append, ← Nat.add_assoc, ← Nat.add_assoc]) (by simp only [impl_reader__spans_s122, ltF, cond_false, List.take_length])
  have e0 : nsB (fl (l.take 0)) = [] := rfl
  have e1 : ([] : List Int).length = 0 := rfl
  rw [cast0, e0, e1, Nat.add_zero, List.take_zero] at qq
  simp only [impl_reader__spans, g0, qq, Option.bind_some]

theorem sketch_any {p : Nat} (hp : p ≤ a.length) (bad : Bool) : ∃ (s : SkT) (p' : Nat) (bad' : Bool), impl_reader__sketch (a, (p : Int), bad) = some (s, a, (p' : Int), bad') ∧ p ≤ p' ∧ p' ≤ a.length ∧ SkLe 8 s ∧ (bad' = false → bad = false) := by
  obtain ⟨n1, p1, b1, e1, x1, y1, z1⟩ := num_any hb hl hp bad
  obtain ⟨n2, p2, b2, e2, x2, y2, z2⟩ := num_any hb hl y1 b1
  obtain ⟨n3, p3, b3, e3, x3, y3, z3⟩ := num_any hb hl y2 b2
  obtain ⟨n4, p4, b4, e4, x4, y4, z4⟩ := num_any hb hl y3 b3
  obtain ⟨l5, p5, b5, e5, x5, y5, w5, z5⟩ := nums_any hb hl y4 b4 (m := 8) (by omega)
  obtain ⟨l6, p6, b6, e6, x6, y6, w6, z6⟩ := nums_any hb hl y5 b5 (m := 8) (by omega)
  obtain ⟨l7, p7, b7, e7, x7, y7, w7, z7⟩ := nums_any hb hl y6 b6 (m := 4) (by omega)
  obtain ⟨l8, p8, b8, e8, x8, y8, w8, z8⟩ := nums_any hb hl y7 b7 (m := 4) (by omega)
  refine ⟨(n1, n2, n3, n4, l5, l6, [l7, l8]), p8, b8, ?_, by omega, y8, ⟨w5, w6, by simp, fun r hr => ?_⟩, fun q => (z1 (z2 (z3 (z4 (z5 (z6 (z7 (z8 q))))).1).1).1).1⟩
  · simp only [impl_reader__sketch, e1, e2, e3, e4, e5, e6, e7, e8, Option.bind_some]
  · simp only [List.mem_cons, List.not_mem_nil, or_false] at hr
    rcases hr with rfl | rfl <;> omega
theorem sketch_enc {p : Nat} {s : SkT} (h : SkOk s) {r : List Int} (hd : a.drop p = nsB (skN s) ++ r) : impl_reader__sketch (a, (p : Int), false) = some (s, a, ((p + (nsB (skN s)).length : Nat) : Int), false) := by
  have hrng := skN_rng h
  obtain ⟨r0, r1, e, ⟨q0, _⟩, ⟨q1, _⟩⟩ := h.rows
  have hh := h.hist.1
  have hr := h.regs.1
  obtain ⟨a1, a2, a3, a4, a5, a6, a7⟩ := s
  simp only at e hh hr
  subst e
  have en : skN (a1, a2, a3, a4, a5, a6, [r0, r1]) = [a1] ++ ([a2] ++ ([a3] ++ ([a4] ++ (a5 ++ (a6 ++ (r0 ++ r1)))))) := by simp [skN]
  rw [en] at hrng hd ⊢
  simp only [nsB_app, nsB_one, List.append_assoc] at hd
  have hm : ∀ x, x ∈ [a1] ++ ([a2] ++ ([a3] ++ ([a4] ++ (a5 ++ (a6 ++ (r0 ++ r1)))))) → 0 ≤ x ∧ x ≤ 2147483647 := hrng
  simp only [List.mem_append, List.mem_singleton] at hm
  have d1 := drop_app hd
  have d2 := drop_app d1
  have d3 := drop_app d2
  have d4 := drop_app d3
  have d5 := drop_app d4
  have d6 := drop_app d5
  have d7 := drop_app d6
  simp only [impl_reader__sketch, num_enc hb hl (hm a1 (by simp)) hd, num_enc hb hl (hm a2 (by simp)) d1, num_enc hb hl (hm a3 (by simp)) d2, num_enc hb hl (hm a4 (by simp)) d3,
    nums_enc hb hl (fun x hx => hm x (by simp [hx])) (by omega) d4 (show (8 : Int) = (a5.length : Int) by omega), nums_enc hb hl (fun x hx => hm x (by simp [hx])) (by omega) d5 (show (8 : Int) = (a6.length : Int) by omega),
    nums_enc hb hl (fun x hx => hm x (by simp [hx])) (by omega) d6 (show (4 : Int) = (r0.length : Int) by omega), nums_enc hb hl (fun x hx => hm x (by simp [hx])) (by omega) d7 (show (4 : Int) = (r1.length : Int) by omega), Option.bind_some]
  simp only [nsB_app, nsB_one, List.length_append, ← Nat.add_assoc]

theorem implOf_any : ∃ r, impl_OutsOf a = some r ∧ (r = ([], false) ∨ ∃ x, r = (x, true) ∧ Good x a) := by
  obtain ⟨c, p0, bd0, e0, z1, z2, z3⟩ := num_any hb hl (p := 0) (by omega) false
  rw [cast0] at e0
  obtain ⟨b, e1, l, p', bad', rfl, h3, h4⟩ := lp_meas (S := impl_OutsOf_s250) (fun s => ∃ (l : List OuT) (q : Nat) (bd : Bool), s = (a, (), c, l, (l.length : Int), a, (q : Int), bd) ∧ q ≤ a.length ∧ l.length ≤ a.length + 1 ∧ (bd = false → l.length ≤ q ∧ ∀ o ∈ l, EnLe 1048576 o.2)) (fun s => match s.2.2.2.2.2.2.2 with | true => 0 | false => a.length + 1 - s.2.2.2.2.2.2.1.toNat)
    (fun b => ∃ (l : List OuT) (q : Nat) (bd : Bool), b = (a, (), l, a, (q : Int), bd) ∧ q ≤ a.length ∧ (bd = false → l.length ≤ q ∧ ∀ o ∈ l, EnLe 1048576 o.2)) (fun s hs => by
      obtain ⟨l, q, bd, rfl, h2, h3, h4⟩ := hs
      by_cases hlm : (l.length : Int) < c
      · cases bd with
        | true =>
          right
          simp only [impl_OutsOf_s250, dT hlm, cond_true, Bool.not_true, cond_false]
          exact ⟨_, rfl, l, q, true, rfl, h2, h4⟩
        | false =>
          left
          obtain ⟨k1, k2⟩ := h4 rfl
          obtain ⟨n1, p1, b1, e1, x1, y1, z1⟩ := num_any hb hl h2 false
          obtain ⟨n2, p2, b2, e2, x2, y2, z2⟩ := num_any hb hl y1 b1
          obtain ⟨n3, p3, b3, e3, x3, y3, z3⟩ := num_any hb hl y2 b2
          obtain ⟨n4, p4, b4, e4, x4, y4, z4⟩ := num_any hb hl y3 b3
          obtain ⟨l5, p5, b5, e5, x5, y5, w5, z5⟩ := spans_any hb hl y4 b4
          obtain ⟨s, p6, b6, e6, x6, y6, w6, z6⟩ := sketch_any hb hl y5 b5
          obtain ⟨s1, s2, s3, s4, s5, s6, s7⟩ := s
          simp only [impl_OutsOf_s250, dT hlm, cond_true, Bool.not_false, e1, e2, e3, e4, e5, e6, Option.bind_some]
          rw [fitsC (by simp only [List.length_singleton]; omega) (by omega), wsucc (by omega)]
          refine ⟨_, rfl, ⟨l ++ [(n2, n3, n4, l5, s1, s2, s3, s4, s5, s6, s7)], p6, b6, by simp, y6, by simp; omega, fun hbd => ?_⟩, ?_⟩
          · have t5 := z5 (z6 hbd)
            have t1 := z1 (z2 (z3 (z4 t5.1).1).1).1
            refine ⟨by simp; omega, fun o ho => ?_⟩
            simp only [List.mem_append, List.mem_singleton] at ho
            rcases ho with ho | rfl
            · exact k2 o ho
            · exact ⟨t5.2, Nat.le_trans w6.1 (by omega), Nat.le_trans w6.2.1 (by omega), Nat.le_trans w6.2.2.1 (by omega), fun r hr => Nat.le_trans (w6.2.2.2 r hr) (by omega)⟩
          · simp only [Int.toNat_natCast]
            cases b6 with
            | true => simp only; omega
            | false =>
              have t5 := z5 (z6 rfl)
              have t1 := z1 (z2 (z3 (z4 t5.1).1).1).1
              simp only; omega
      · right
        simp only [impl_OutsOf_s250, dF hlm, cond_false]
        exact ⟨_, rfl, l, q, bd, rfl, h2, h4⟩) (s := (a, (), c, [], 0, a, (p0 : Int), bd0)) ⟨[], p0, bd0, rfl, z2, by simp, fun q => ⟨by simp, fun o ho => by simp at ho⟩⟩ (by simp only; split <;> omega)
  simp only [impl_OutsOf, e0, Option.bind_some, e1]
  cases bad' with
  | true => exact ⟨_, rfl, .inl rfl⟩
  | false =>
    obtain ⟨k1, k2⟩ := h4 rfl
    have hle : OutsLe 1048576 l := ⟨by omega, k2⟩
    simp only [cond_false, implOutsOk_eq hle, Option.bind_some, implOutsB_eq hle, bytes_Equal, lnn]
    cases hk : l.all ouOk with
    | false => exact ⟨_, rfl, .inl rfl⟩
    | true =>
      simp only [Bool.not_true, cond_false, bif_dec]
      by_cases h200 : l.length ≤ 200
      · rw [if_neg (by omega)]
        simp only [Bool.true_and, dT h200, cond_true, u8_eq (bts_outsB l) hb]
        by_cases he : outsB l = a
        · rw [dT he]; exact ⟨_, rfl, .inr ⟨l, rfl, hk, h200, hle, he⟩⟩
        · rw [dF he]; exact ⟨_, rfl, .inl rfl⟩
      · rw [if_pos (by omega)]; exact ⟨_, rfl, .inl rfl⟩

theorem implOf_enc {x : List OuT} (hg : Good x a) : impl_OutsOf a = some (x, true) := by
  obtain ⟨hok, hfew, hle, hbytes⟩ := hg
  have d0 : a.drop 0 = nB (x.length : Int) ++ x.flatMap oneB := by rw [List.drop_zero, ← hbytes]; rfl
  have q0 := num_enc hb hl (p := 0) (x := (x.length : Int)) ⟨by omega, by omega⟩ d0
  have d1 := drop_app d0
  rw [Nat.zero_add] at d1 q0
  rw [cast0] at q0
  have q := lp_det (S := impl_OutsOf_s250) (fun i => (a, (), (x.length : Int), x.take i, (i : Int), a, (((nB (x.length : Int)).length + ((x.take i).flatMap oneB).length : Nat) : Int), false)) (n := x.length) (by omega) (b := (a, (), x, a, (((nB (x.length : Int)).length + (x.flatMap oneB).length : Nat) : Int), false)) (fun i hi => by
    have hm := getD_mem (d := ou0) hi
    have hoi : ouOk (x.getD i ou0) = true := by
      simp only [List.all_eq_true] at hok
      exact hok _ hm
    have hob := ouB_le (hle.2 _ hm)
    have hil : (x.getD i ou0).2.2.2.1.length ≤ 1048576 := (hle.2 _ hm).1
    have d2 : a.drop ((nB (x.length : Int)).length + ((x.take i).flatMap oneB).length) = nB ((ouB (x.getD i ou0)).length : Int) ++ (ouB (x.getD i ou0) ++ (x.drop (i + 1)).flatMap oneB) := drop_app (by rw [d1]; exact oneB_split hi)
    have hpos : (nB (x.length : Int)).length + ((x.take (i + 1)).flatMap oneB).length = (nB (x.length : Int)).length + ((x.take i).flatMap oneB).length + (nB ((ouB (x.getD i ou0)).length : Int)).length + (ouB (x.getD i ou0)).length := by
      rw [flatMap_snoc oneB ou0 hi, List.length_append, oneB, List.length_append]
      omega
    rw [hpos, take_snoc ou0 hi]
    have g1 := num_enc hb hl (x := ((ouB (x.getD i ou0)).length : Int)) ⟨by omega, by omega⟩ d2
    have d3 := drop_app d2
    generalize (nB (x.length : Int)).length + ((x.take i).flatMap oneB).length + (nB ((ouB (x.getD i ou0)).length : Int)).length = p' at *
    have h' := hoi
    unfold ouOk at h'
    simp only [Bool.and_eq_true, inR_iff, enOk_iff] at h'
    obtain ⟨ho, he⟩ := h'
    have e' : ouB (x.getD i ou0) = nB (x.getD i ou0).1 ++ (nB (x.getD i ou0).2.1 ++ (nB (x.getD i ou0).2.2.1 ++ (nB ((x.getD i ou0).2.2.2.1.length : Int) ++ (nsB (fl (x.getD i ou0).2.2.2.1) ++ nsB (skN (x.getD i ou0).2.2.2.2))))) := by
      have e4 : ∀ u v w z : Int, nsB [u, v, w, z] = nB u ++ (nB v ++ (nB w ++ nB z)) := by intro u v w z; simp [nsB]
      rw [ouB, hoi, cond_true, skB, skOk_iff.2 he.sk, cond_true, e4]
      simp only [List.append_assoc]
    rw [e'] at d3 ⊢
    simp only [List.append_assoc] at d3
    have k1 := he.key
    have k2 := he.win
    have d4 := drop_app d3
    have d5 := drop_app d4
    have d6 := drop_app d5
    have d7 := drop_app (drop_app d6)
    have f1 := num_enc hb hl (x := (x.getD i ou0).1) ⟨ho.1, by omega⟩ d3
    have f2 := num_enc hb hl (x := (x.getD i ou0).2.1) ⟨k1.1, by omega⟩ d4
    have f3 := num_enc hb hl (x := (x.getD i ou0).2.2.1) ⟨k2.1, by omega⟩ d5
    have f4 := spans_enc hb hl (fl_rng he) hil d6
    have f5 := sketch_enc hb hl he.sk d7
    simp only [impl_OutsOf_s250, ltn hi, cond_true, Bool.not_false, g1, f1, f2, f3, f4, Option.bind_some]
    rw [f5]
    generalize hx : x.getD i ou0 = o
    obtain ⟨o1, o2, o3, o4, o5, o6, o7, o8, o9, o10, o11⟩ := o
    simp only [Option.bind_some]
    rw [fitsC (by simp only [List.length_singleton, List.length_take]; omega) (by omega), wsucc (by omega)]
    simp only [List.length_append, ← Nat.add_assoc]) (by simp only [impl_OutsOf_s250, ltF, cond_false, List.take_length])
  have e0 : ((x.take 0).flatMap oneB).length = 0 := rfl
  rw [cast0, e0, Nat.add_zero, List.take_zero] at q
  simp only [impl_OutsOf, q0, Option.bind_some, q, cond_false, implOutsOk_eq hle, implOutsB_eq hle, hok, Bool.not_true, Bool.true_and, dT hfew, cond_true, bytes_Equal, u8_eq (bts_outsB x) hb, hbytes, lnn,
    dF (show ¬ (x.length : Int) > 200 by omega)]
  simp
end

/-- Both read the same. -/
theorem of_same {a : List Int} (hb : Bts a) (hl : a.length ≤ 1048576) : ∃ x g, spec_OutsOf a = some (x, g) ∧ impl_OutsOf a = some (x, g) ∧ OutsLe 1048576 x ∧ (∀ o ∈ x, EnOk o.2) ∧ x.length ≤ 200 := by
  by_cases h : ∃ x, Good x a
  · obtain ⟨x, hx⟩ := h
    refine ⟨x, true, specOf_enc hb hl hx, implOf_enc hb hl hx, hx.le, fun o ho => ?_, hx.few⟩
    have := hx.ok
    simp only [List.all_eq_true, ouOk, Bool.and_eq_true, enOk_iff] at this
    exact (this o ho).2
  · obtain ⟨r, e1, e2⟩ := specOf_any hb hl
    obtain ⟨r', e3, e4⟩ := implOf_any hb hl
    have h1 : r = ([], false) := e2.resolve_right fun ⟨x, _, hx⟩ => h ⟨x, hx⟩
    have h2 : r' = ([], false) := e4.resolve_right fun ⟨x, _, hx⟩ => h ⟨x, hx⟩
    rw [h1] at e1
    rw [h2] at e3
    exact ⟨[], false, e1, e3, ⟨by simp, fun o ho => by simp at ho⟩, fun o ho => by simp at ho, by simp⟩

end Go.Proofs.Ytkegollaleklaaa.Tw
