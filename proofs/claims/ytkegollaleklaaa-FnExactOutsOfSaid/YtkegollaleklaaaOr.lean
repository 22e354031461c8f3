/- Plain: the reference reads outs from bytes. No condition: lemmas. -/
import Derived.Test.YtkegollaleklaaaOb
namespace Go.Proofs.Ytkegollaleklaaa.Tw
open Go.Mach
set_option linter.unusedVariables false
set_option linter.unusedSimpArgs false
set_option maxRecDepth 20000

theorem drop_app {α : Type} {a u v : List α} {p : Nat} (h : a.drop p = u ++ v) : a.drop (p + u.length) = v := by
  rw [← List.drop_drop, h, List.drop_left]
theorem drop_le {α : Type} {a u v : List α} {p : Nat} (h : a.drop p = u ++ v) (hp : p ≤ a.length) : p + u.length ≤ a.length := by
  have h1 : (a.drop p).length = u.length + v.length := by rw [h]; simp
  rw [List.length_drop] at h1
  omega
theorem nsB_split {l : List Int} {i : Nat} (hi : i < l.length) : nsB l = nsB (l.take i) ++ (nB (l.getD i 0) ++ nsB (l.drop (i + 1))) := by
  conv => lhs; rw [← List.take_append_drop i l, drop_cons 0 hi]
  rw [nsB_app]
  rfl
def Rng (l : List Int) : Prop := ∀ x ∈ l, 0 ≤ x ∧ x ≤ 2147483647

theorem specGets_enc {a : List Int} (hb : Bts a) (hl : a.length ≤ 1048576) {p : Nat} {l : List Int} (hr : Rng l) (hn : l.length ≤ 1048576) {r : List Int} (h : a.drop p = nsB l ++ r) :
    spec_l7Get (a, (p : Int), (l.length : Int)) = some (l, ((p + (nsB l).length : Nat) : Int), true) := by
  have q := lp_det (S := spec_l7Get_s58) (fun i => (a, ((p + (nsB (l.take i)).length : Nat) : Int), (l.length : Int), l.take i, (i : Int))) hn (b := .inr (((p + (nsB l).length : Nat) : Int), l)) (fun i hi => by
    have hx := hr _ (getD_mem (d := 0) hi)
    have hd : a.drop (p + (nsB (l.take i)).length) = nB (l.getD i 0) ++ (nsB (l.drop (i + 1)) ++ r) := by
      refine drop_app ?_
      rw [h, nsB_split hi, List.append_assoc, List.append_assoc]
    simp only [spec_l7Get_s58, ltn hi, cond_true, specGet_enc hb hl hx.1 hx.2 hd, Option.bind_some, Bool.not_true, cond_false, wsucc (show i ≤ 1048576 by omega)]
    rw [fitsC (by simp only [List.length_take, List.length_singleton]; omega) (by omega), take_snoc 0 hi, nsB_app, nsB_one, List.length_append, Nat.add_assoc]) (by simp only [spec_l7Get_s58, ltF, cond_false, List.take_length])
  have e0 : nsB (l.take 0) = [] := rfl
  have e1 : ([] : List Int).length = 0 := rfl
  rw [cast0, e0, e1, Nat.add_zero, List.take_zero] at q
  simp only [spec_l7Get, q]
  rfl

theorem specGets_any {a : List Int} (hb : Bts a) (hl : a.length ≤ 1048576) {p : Nat} (hp : p ≤ a.length) {m : Int} (hm : 0 ≤ m) :
    ∃ r, spec_l7Get (a, (p : Int), m) = some r ∧ (r = ([], 0, false) ∨ ∃ (l : List Int) (q : Nat), r = (l, (q : Int), true) ∧ (l.length : Int) = m ∧ Rng l ∧ p ≤ q ∧ q ≤ a.length) := by
  obtain ⟨b, e1, e2⟩ := lp_meas (S := spec_l7Get_s58) (fun s => ∃ (q : Nat) (l : List Int), s = (a, (q : Int), m, l, (l.length : Int)) ∧ Rng l ∧ p ≤ q ∧ q ≤ a.length ∧ l.length ≤ q - p ∧ (l.length : Int) ≤ m) (fun s => a.length - s.2.1.toNat)
    (fun b => b = .inl ([], 0, false) ∨ ∃ (l : List Int) (q : Nat), b = .inr ((q : Int), l) ∧ (l.length : Int) = m ∧ Rng l ∧ p ≤ q ∧ q ≤ a.length)
    (fun s hs => by
      obtain ⟨q, l, rfl, h1, h2, h3, h4, h5⟩ := hs
      by_cases hlm : (l.length : Int) < m
      · obtain ⟨r, g1, g2⟩ := specGet_any hb hl (p := q) (by omega)
        simp only [spec_l7Get_s58, dT hlm, cond_true, g1, Option.bind_some]
        rcases g2 with rfl | ⟨n, q', rfl, k1, k2, k3, k4⟩
        · right
          exact ⟨_, rfl, .inl rfl⟩
        · left
          simp only [Bool.not_true, cond_false]
          rw [fitsC (by simp only [List.length_singleton]; omega) (by omega), wsucc (by omega)]
          refine ⟨_, rfl, ⟨q', l ++ [n], by simp, fun x hx => ?_, by omega, by omega, by simp; omega, by simp; omega⟩, by simp only [Int.toNat_natCast]; omega⟩
          simp only [List.mem_append, List.mem_singleton] at hx
          rcases hx with hx | rfl
          · exact h1 x hx
          · exact ⟨k1, k2⟩
      · right
        simp only [spec_l7Get_s58, dF hlm, cond_false]
        exact ⟨_, rfl, .inr ⟨l, q, rfl, by omega, h1, h2, h3⟩⟩) (s := (a, (p : Int), m, [], 0)) ⟨p, [], rfl, fun x hx => by simp at hx, Nat.le_refl _, hp, by simp, by simpa using hm⟩ (by simp only; omega)
  simp only [spec_l7Get, e1]
  rcases e2 with rfl | ⟨l, q, rfl, h1, h2, h3, h4⟩
  · exact ⟨_, rfl, .inl rfl⟩
  · exact ⟨_, rfl, .inr ⟨l, q, rfl, h1, h2, h3, h4⟩⟩

/-! ### sketches -/
def sk0 : SkT := (0, 0, 0, 0, [], [], [])
theorem sk0_le : SkLe 1048576 sk0 := ⟨by simp [sk0], by simp [sk0], by simp [sk0], by simp [sk0]⟩
/-- A sketch of its numbers. -/
def skOf (l : List Int) : SkT := (l.getD 0 0, l.getD 1 0, l.getD 2 0, l.getD 3 0, (l.take 12).drop 4, (l.take 20).drop 12, [(l.take 24).drop 20, l.drop 24])
theorem skOf_le {l : List Int} (h : l.length = 28) : SkLe 1048576 (skOf l) := by
  refine ⟨by simp [skOf]; omega, by simp [skOf]; omega, by simp [skOf], fun r hr => ?_⟩
  simp only [skOf, List.mem_cons, List.not_mem_nil, or_false] at hr
  rcases hr with rfl | rfl <;> simp <;> omega

theorem len8 {l : List Int} (h : l.length = 8) : ∃ a b c d e f g i, l = [a, b, c, d, e, f, g, i] := by
  match l, h with
  | [a, b, c, d, e, f, g, i], _ => exact ⟨a, b, c, d, e, f, g, i, rfl⟩
theorem len4 {l : List Int} (h : l.length = 4) : ∃ a b c d, l = [a, b, c, d] := by
  match l, h with
  | [a, b, c, d], _ => exact ⟨a, b, c, d, rfl⟩
theorem skOf_skN {s : SkT} (h : SkOk s) : skOf (skN s) = s := by
  obtain ⟨r0, r1, e, ⟨q0, _⟩, ⟨q1, _⟩⟩ := h.rows
  obtain ⟨a1, a2, a3, a4, a5, a6, a7⟩ := s
  have hh := h.hist.1
  have hr := h.regs.1
  simp only at e hh hr
  subst e
  obtain ⟨x1, x2, x3, x4, x5, x6, x7, x8, rfl⟩ := len8 hh
  obtain ⟨y1, y2, y3, y4, y5, y6, y7, y8, rfl⟩ := len8 hr
  obtain ⟨z1, z2, z3, z4, rfl⟩ := len4 q0
  obtain ⟨w1, w2, w3, w4, rfl⟩ := len4 q1
  rfl
theorem skN_rng {s : SkT} (h : SkOk s) : Rng (skN s) := by
  obtain ⟨r0, r1, e, ⟨_, q0⟩, ⟨_, q1⟩⟩ := h.rows
  intro x hx
  simp only [skN, e, List.mem_append, List.mem_cons, List.not_mem_nil, or_false, List.flatten_cons, List.flatten_nil, List.append_nil] at hx
  rcases hx with (((rfl | rfl | rfl | rfl) | hx) | hx) | hx | hx
  · have := h.cnt; omega
  · have := h.sum; omega
  · have := h.min; omega
  · have := h.max; omega
  · have := (h.hist.2 x hx).1; omega
  · have := (h.regs.2 x hx).1; omega
  · have := (q0 x hx).1; omega
  · have := (q1 x hx).1; omega

theorem specSkOf_of {b l : List Int} (hn : l.length = 28) (h : spec_l7Get (b, 0, 28) = some (l, (b.length : Int), true)) :
    spec_SketchOf b = some (bif skOk (skOf l) then (skOf l, true) else (sk0, false)) := by
  have hok := specSketchOk_eq (skOf_le hn)
  have e1 : w64 ((w64 ((w64 (4 + 8)) + 8)) + 4) = 24 := by decide +kernel
  simp only [spec_SketchOf, h, Option.bind_some, Bool.not_true, cond_false, lnn, bne_self_eq_false, e1, hn]
  rw [chkD (by omega), chkD (by omega), chkD (by omega), chkD (by omega), chkD (by omega), chkD (by omega), chkD (by omega), chkD (by omega), chkD (by omega), fitsC (by simp; omega) (by omega), chkD (by omega), fitsC (by simp; omega) (by omega)]
  unfold g0
  rw [chkD (by omega), chkD (by omega), fitsC (by simp; omega) (by omega), chkD (by omega), chkD (by omega), fitsC (by simp; omega) (by omega)]
  have e2 : (24 : Int).toNat = 24 := rfl
  simp only [List.nil_append, e2]
  unfold skOf at hok ⊢
  simp only [hok, Option.bind_some]
  cases skOk (l.getD 0 0, l.getD 1 0, l.getD 2 0, l.getD 3 0, (l.take 12).drop 4, (l.take 20).drop 12, [(l.take 24).drop 20, l.drop 24]) <;> rfl

theorem specSkOf_any {b : List Int} (hb : Bts b) (hl : b.length ≤ 1048576) : ∃ s g, spec_SketchOf b = some (s, g) ∧ SkLe 1048576 s := by
  obtain ⟨r, e1, e2⟩ := specGets_any hb hl (p := 0) (by omega) (m := 28) (by omega)
  rw [cast0] at e1
  rcases e2 with rfl | ⟨l, q, rfl, h1, h2, h3, h4⟩
  · refine ⟨_, false, ?_, sk0_le⟩
    simp only [spec_SketchOf, e1, Option.bind_some]
    rfl
  · by_cases hq : q = b.length
    · subst hq
      rw [specSkOf_of (by omega) e1]
      cases skOk (skOf l) with
      | false => exact ⟨_, _, rfl, sk0_le⟩
      | true => exact ⟨_, _, rfl, skOf_le (by omega)⟩
    · refine ⟨_, false, ?_, sk0_le⟩
      have : ((q : Int) != (b.length : Int)) = true := by simp; omega
      simp only [spec_SketchOf, e1, Option.bind_some, Bool.not_true, cond_false, lnn, this, cond_true]
      rfl

theorem specSkOf_enc {s : SkT} (h : SkOk s) {b : List Int} (hb : Bts b) (hl : b.length ≤ 1048576) (e : b = nsB (skN s)) : spec_SketchOf b = some (s, true) := by
  have hn := skN_len h
  have q := specGets_enc hb hl (p := 0) (l := skN s) (skN_rng h) (by omega) (r := []) (by rw [e]; simp)
  rw [hn, Nat.zero_add, ← e, cast0] at q
  rw [specSkOf_of hn q, skOf_skN h, skOk_iff.2 h]
  rfl

/-! ### outs -/
def prs (l : List Int) (i : Nat) : List SpT := (List.range i).map fun j => (l.getD (2 * j) 0, l.getD (2 * j + 1) 0)
theorem prs_len (l : List Int) (i : Nat) : (prs l i).length = i := by simp [prs]
theorem prs_snoc (l : List Int) (i : Nat) : prs l (i + 1) = prs l i ++ [(l.getD (2 * i) 0, l.getD (2 * i + 1) 0)] := by simp [prs, List.range_succ]
theorem prs_fl : ∀ l : List SpT, prs (fl l) l.length = l
  | [] => rfl
  | x :: l => by
    have ih := prs_fl l
    unfold prs at ih ⊢
    rw [List.length_cons, List.range_succ_eq_map, List.map_cons, List.map_map]
    have e : fl (x :: l) = x.1 :: x.2 :: fl l := rfl
    rw [e]
    congr 1
theorem bts_drop {a : List Int} (h : Bts a) (p : Nat) : Bts (a.drop p) := fun v hv => h v (List.mem_of_mem_drop hv)
theorem bts_take {a : List Int} (h : Bts a) (p : Nat) : Bts (a.take p) := fun v hv => h v (List.mem_of_mem_take hv)

/-- The reading of one, behind its numbers. -/
theorem specOne_of {b n l : List Int} {at1 q k : Nat} (hl : b.length ≤ 1048576) (h4 : n.length = 4) (hn : n.getD 3 0 = (k : Int)) (hk : k ≤ b.length) (hll : l.length = 2 * k) (hq : q ≤ b.length)
    (h1 : spec_l7Get (b, 0, 4) = some (n, (at1 : Int), true)) (h2 : spec_l7Get (b, (at1 : Int), 2 * (k : Int)) = some (l, (q : Int), true)) {s : SkT} {g : Bool} (h3 : spec_SketchOf (b.drop q) = some (s, g)) :
    spec_l25One b = some ((n.getD 0 0, n.getD 1 0, n.getD 2 0, prs l k, s), g) := by
  have e1 : w64 (2 * (k : Int)) = 2 * (k : Int) := w64_ok (by omega) (by omega)
  have qq := lp_det (S := spec_l25One_s1018) (fun i => (b, (0, 0, 0, (), 0, 0, 0, 0, (), (), ()), l, (q : Int), (n.getD 0 0, n.getD 1 0, n.getD 2 0, prs l i, 0, 0, 0, 0, (), (), ()), ((2 * i : Nat) : Int))) (n := k) (by omega)
    (b := (b, (0, 0, 0, (), 0, 0, 0, 0, (), (), ()), (q : Int), n.getD 0 0, n.getD 1 0, n.getD 2 0, prs l k, 0, 0, 0, 0, (), (), ())) (fun i hi => by
      have f1 : w64 (((2 * i : Nat) : Int) + 1) = ((2 * i + 1 : Nat) : Int) := by rw [w64_ok (by omega) (by omega)]; omega
      have f2 : w64 (((2 * i : Nat) : Int) + 2) = ((2 * (i + 1) : Nat) : Int) := by rw [w64_ok (by omega) (by omega)]; omega
      have f3 := prs_len l i
      simp only [spec_l25One_s1018, lnn, f1, ltn (show 2 * i + 1 < l.length by omega), Option.bind_some, cond_true, ixn (show 2 * i < l.length by omega), lxn (show 2 * i < l.length by omega), ixn (show 2 * i + 1 < l.length by omega), lxn (show 2 * i + 1 < l.length by omega), gxn, f2]
      rw [fitsC (by simp only [List.length_singleton]; omega) (by omega), prs_snoc]) (by
      have f1 : w64 (((2 * k : Nat) : Int) + 1) = ((2 * k + 1 : Nat) : Int) := by rw [w64_ok (by omega) (by omega)]; omega
      simp only [spec_l25One_s1018, lnn, f1, dF (show ¬ ((2 * k + 1 : Nat) : Int) < (l.length : Int) by omega), Option.bind_some, cond_false])
  have e0 : prs l 0 = [] := rfl
  rw [e0, show ((2 * 0 : Nat) : Int) = 0 from rfl] at qq
  obtain ⟨s1, s2, s3, s4, s5, s6, s7⟩ := s
  simp only [spec_l25One, h1, Option.bind_some, Bool.not_true, cond_false, h4, hn, lnn, bif_dec]
  rw [chkD (by omega), chkD (by omega), if_neg (by omega), chkD (by omega), chkD (by omega)]
  simp only [e1, h2, Option.bind_some, Bool.not_true, cond_false]
  rw [chkD (by omega), chkD (by omega), chkD (by omega), chkD (by omega), chkD (by omega), chkD (by omega)]
  simp only [qq, Option.bind_some]
  unfold g0
  rw [chkD (by omega)]
  simp only [Int.toNat_natCast]
  rw [chkD (by omega)]
  simp only [h3, Option.bind_some]

theorem specOne_any {b : List Int} (hb : Bts b) (hl : b.length ≤ 1048576) : ∃ (o : OuT) (g : Bool), spec_l25One b = some (o, g) ∧ EnLe 1048576 o.2 := by
  have ou0_le : EnLe 1048576 (ou0 : OuT).2 := ⟨by simp, sk0_le⟩
  obtain ⟨r, e1, e2⟩ := specGets_any hb hl (p := 0) (by omega) (m := 4) (by omega)
  rw [cast0] at e1
  rcases e2 with rfl | ⟨n, q, rfl, h1, h2, h3, h4⟩
  · refine ⟨ou0, false, ?_, ou0_le⟩
    simp only [spec_l25One, e1, Option.bind_some]
    rfl
  · have hr := h2 _ (getD_mem (d := 0) (show 3 < n.length by omega))
    obtain ⟨k, hk⟩ := Int.eq_ofNat_of_zero_le hr.1
    by_cases hkb : k ≤ b.length
    · obtain ⟨r, f1, f2⟩ := specGets_any hb hl (p := q) h4 (m := 2 * (k : Int)) (by omega)
      rcases f2 with rfl | ⟨l, q', rfl, g1, g2, g3, g4⟩
      · refine ⟨ou0, false, ?_, ou0_le⟩
        have e3 : w64 (2 * (k : Int)) = 2 * (k : Int) := w64_ok (by omega) (by omega)
        have h4' : n.length = 4 := by omega
        simp only [spec_l25One, e1, Option.bind_some, Bool.not_true, cond_false, h4', hk, lnn, bif_dec]
        rw [chkD (by omega), chkD (by omega), if_neg (by simp only [Int.ofNat_eq_natCast] at *; omega), chkD (by omega), chkD (by omega)]
        simp only [e3, f1, Option.bind_some]
        rfl
      · obtain ⟨s, g, k1, k2⟩ := specSkOf_any (bts_drop hb q') (b := b.drop q') (by rw [List.length_drop]; omega)
        refine ⟨_, g, specOne_of hl (by omega) hk hkb (by omega) g4 e1 f1 k1, ?_⟩
        refine ⟨?_, k2⟩
        simp only [prs_len]
        omega
    · refine ⟨ou0, false, ?_, ou0_le⟩
      have h4' : n.length = 4 := by omega
      simp only [spec_l25One, e1, Option.bind_some, Bool.not_true, cond_false, h4', hk, lnn, bif_dec]
      rw [chkD (by omega), chkD (by omega), if_pos (by omega)]

theorem nB_ge {x : Int} (h : 0 ≤ x ∧ x ≤ 2147483647) : 1 ≤ (nB x).length := by
  unfold nB
  rw [inR_iff.2 h]
  exact (enc_len 4 x).2
theorem nsB_ge : ∀ {l : List Int}, Rng l → l.length ≤ (nsB l).length
  | [], _ => by simp
  | x :: l, h => by
    have h1 := nB_ge (h x (by simp))
    have h2 := nsB_ge (l := l) fun y hy => h y (by simp [hy])
    have : nsB (x :: l) = nB x ++ nsB l := by simp [nsB]
    rw [this, List.length_append, List.length_cons]
    omega
theorem fl_rng {e : EnT} (h : EnOk e) : Rng (fl e.2.2.1) := by
  intro x hx
  simp only [fl, List.mem_flatMap, List.mem_cons, List.not_mem_nil, or_false] at hx
  obtain ⟨y, hy, hx⟩ := hx
  have h1 := h.bnd y hy
  have h2 := h.ids.mem y hy
  rcases hx with rfl | rfl <;> omega

theorem specOne_enc {o : OuT} (h : ouOk o = true) {b : List Int} (hb : Bts b) (hl : b.length ≤ 1048576) (e : b = ouB o) : spec_l25One b = some (o, true) := by
  have h' := h
  unfold ouOk at h'
  simp only [Bool.and_eq_true, inR_iff, enOk_iff] at h'
  obtain ⟨ho, he⟩ := h'
  have hsk := he.sk
  have e' : b = nsB [o.1, o.2.1, o.2.2.1, (o.2.2.2.1.length : Int)] ++ (nsB (fl o.2.2.2.1) ++ nsB (skN o.2.2.2.2)) := by
    rw [e, ouB, h, cond_true, skB, skOk_iff.2 hsk, cond_true, List.append_assoc]
  have hfr : Rng (fl o.2.2.2.1) := fl_rng he
  have hnr : Rng [o.1, o.2.1, o.2.2.1, (o.2.2.2.1.length : Int)] := by
    have h1 := he.key
    have h2 := he.win
    have h3 := nsB_ge hfr
    rw [fl_len] at h3
    have h4 : b.length = (nsB [o.1, o.2.1, o.2.2.1, (o.2.2.2.1.length : Int)]).length + ((nsB (fl o.2.2.2.1)).length + (nsB (skN o.2.2.2.2)).length) := by rw [e']; simp only [List.length_append]
    intro x hx
    simp only [List.mem_cons, List.not_mem_nil, or_false] at hx
    rcases hx with rfl | rfl | rfl | rfl <;> omega
  have hle : 2 * o.2.2.2.1.length ≤ b.length := by
    have h3 := nsB_ge hfr
    rw [fl_len] at h3
    have h4 : b.length = (nsB [o.1, o.2.1, o.2.2.1, (o.2.2.2.1.length : Int)]).length + ((nsB (fl o.2.2.2.1)).length + (nsB (skN o.2.2.2.2)).length) := by rw [e']; simp only [List.length_append]
    omega
  have d0 : b.drop 0 = nsB [o.1, o.2.1, o.2.2.1, (o.2.2.2.1.length : Int)] ++ (nsB (fl o.2.2.2.1) ++ nsB (skN o.2.2.2.2)) := by rw [List.drop_zero]; exact e'
  have g1 := specGets_enc hb hl (p := 0) hnr (by simp) d0
  have d1 := drop_app d0
  have l1 := drop_le d0 (by omega)
  rw [Nat.zero_add] at d1 l1 g1
  have g2 := specGets_enc hb hl hfr (by rw [fl_len]; omega) d1
  have d2 := drop_app d1
  have l2 := drop_le d1 l1
  have g3 := specSkOf_enc hsk (bts_drop hb _) (by rw [List.length_drop]; omega) d2
  rw [fl_len] at g2
  have g2' : spec_l7Get (b, (((nsB [o.1, o.2.1, o.2.2.1, (o.2.2.2.1.length : Int)]).length : Nat) : Int), 2 * (o.2.2.2.1.length : Int)) = _ := g2
  have := specOne_of hl (n := [o.1, o.2.1, o.2.2.1, (o.2.2.2.1.length : Int)]) rfl rfl (by omega) (fl_len _) l2 g1 g2' g3
  rw [this, prs_fl]
  rfl

/-! ### rows of outs -/
theorem oneB_split {x : List OuT} {i : Nat} (hi : i < x.length) : x.flatMap oneB = (x.take i).flatMap oneB ++ (nB ((ouB (x.getD i ou0)).length : Int) ++ (ouB (x.getD i ou0) ++ (x.drop (i + 1)).flatMap oneB)) := by
  conv => lhs; rw [← List.take_append_drop i x, drop_cons ou0 hi]
  rw [List.flatMap_append, List.flatMap_cons]
  simp only [oneB, List.append_assoc]

theorem bts_nB (x : Int) : Bts (nB x) := by
  unfold nB
  cases h : inR x 0 2147483647 with
  | false => intro v hv; simp at hv
  | true =>
    have := inR_iff.1 h
    intro v hv
    exact enc_byte 4 x this.1 (by simp; omega) v hv
theorem bts_app {a b : List Int} (h : Bts a) (h' : Bts b) : Bts (a ++ b) := by
  intro v hv
  simp only [List.mem_append] at hv
  exact hv.elim (h v) (h' v)
theorem bts_flat {α : Type} {f : α → List Int} {l : List α} (h : ∀ x, Bts (f x)) : Bts (l.flatMap f) := by
  intro v hv
  simp only [List.mem_flatMap] at hv
  obtain ⟨x, _, hx⟩ := hv
  exact h x v hx
theorem bts_ouB (o : OuT) : Bts (ouB o) := by
  unfold ouB skB
  have hn : ∀ l, Bts (nsB l) := fun l => bts_flat bts_nB
  cases ouOk o with
  | false => intro v hv; simp at hv
  | true =>
    cases skOk o.2.2.2.2 with
    | false => exact bts_app (bts_app (hn _) (hn _)) fun v hv => by simp at hv
    | true => exact bts_app (bts_app (hn _) (hn _)) (hn _)
theorem bts_outsB (l : List OuT) : Bts (outsB l) := bts_app (bts_nB _) (bts_flat fun o => bts_app (bts_nB _) (bts_ouB o))

theorem u8_eq : ∀ {a b : List Int}, Bts a → Bts b → ((a.map fun n : Int => UInt8.ofNat (Int.toNat n)) == (b.map fun n : Int => UInt8.ofNat (Int.toNat n))) = decide (a = b) := by
  intro a b ha hb
  have inj : ∀ x y : Int, 0 ≤ x ∧ x ≤ 255 → 0 ≤ y ∧ y ≤ 255 → UInt8.ofNat (Int.toNat x) = UInt8.ofNat (Int.toNat y) → x = y := by
    intro x y hx hy h
    have h1 : (UInt8.ofNat (Int.toNat x)).toNat = (UInt8.ofNat (Int.toNat y)).toNat := by rw [h]
    rw [UInt8.toNat_ofNat', UInt8.toNat_ofNat'] at h1
    omega
  rw [Bool.eq_iff_iff]
  simp only [beq_iff_eq, decide_eq_true_eq]
  constructor
  · intro h
    induction a generalizing b with
    | nil =>
      cases b with
      | nil => rfl
      | cons y b => simp at h
    | cons x a ih =>
      cases b with
      | nil => simp at h
      | cons y b =>
        simp only [List.map_cons, List.cons.injEq] at h
        have := inj x y (ha x (by simp)) (hb y (by simp)) h.1
        rw [this, ih (fun v hv => ha v (by simp [hv])) (fun v hv => hb v (by simp [hv])) h.2]
  · rintro rfl; rfl

/-- Outs that are right, and lie there as bytes. -/
structure Good (x : List OuT) (a : List Int) : Prop where
  ok : x.all ouOk = true
  few : x.length ≤ 200
  le : OutsLe 1048576 x
  bytes : outsB x = a

theorem specOf_any {a : List Int} (hb : Bts a) (hl : a.length ≤ 1048576) : ∃ r, spec_OutsOf a = some r ∧ (r = ([], false) ∨ ∃ x, r = (x, true) ∧ Good x a) := by
  obtain ⟨r, e1, e2⟩ := specGet_any hb hl (p := 0) (by omega)
  rw [cast0] at e1
  simp only [spec_OutsOf, e1, Option.bind_some, bif_dec]
  rcases e2 with rfl | ⟨n, q, rfl, h1, h2, h3, h4⟩
  · exact ⟨_, rfl, .inl rfl⟩
  · simp only [Bool.not_true, cond_false]
    by_cases hn : n > 200
    · rw [if_pos hn]; exact ⟨_, rfl, .inl rfl⟩
    · rw [if_neg hn]
      obtain ⟨b, f1, f2⟩ := lp_meas (S := spec_OutsOf_s250) (fun s => ∃ (p : Nat) (x : List OuT), s = (a, x, n, (p : Int), (x.length : Int)) ∧ OutsLe 1048576 x ∧ p ≤ a.length ∧ (x.length : Int) ≤ n) (fun s => (n - s.2.2.2.2).toNat)
        (fun b => b = .inl ([], false) ∨ ∃ x, b = .inr (a, x) ∧ OutsLe 1048576 x ∧ x.length ≤ 200) (fun s hs => by
          obtain ⟨p, x, rfl, g1, g2, g3⟩ := hs
          by_cases hx : (x.length : Int) < n
          · obtain ⟨r, k1, k2⟩ := specGet_any hb hl (p := p) (by omega)
            simp only [spec_OutsOf_s250, dT hx, cond_true, k1, Option.bind_some, lnn, bif_dec]
            rcases k2 with rfl | ⟨m, p', rfl, k3, k4, k5, k6⟩
            · right; exact ⟨_, rfl, .inl rfl⟩
            · have w1 : w64 ((a.length : Int) - (p' : Int)) = (a.length : Int) - p' := w64_ok (by omega) (by omega)
              simp only [Bool.not_true, cond_false, w1]
              by_cases hm : m > (a.length : Int) - p'
              · right; rw [if_pos hm]; exact ⟨_, rfl, .inl rfl⟩
              · obtain ⟨k, rfl⟩ := Int.eq_ofNat_of_zero_le k3
                have w2 : w64 ((p' : Int) + (k : Int)) = ((p' + k : Nat) : Int) := by rw [w64_ok (by omega) (by omega)]; omega
                rw [if_neg hm, w2]
                unfold g0
                rw [chkD (by omega), chkD (by omega)]
                simp only [Int.toNat_natCast]
                rw [chkD (by omega)]
                obtain ⟨o, t, m1, m2⟩ := specOne_any (b := (a.take (p' + k)).drop p') (bts_drop (bts_take hb _) _) (by simp; omega)
                obtain ⟨o1, o2, o3, o4, o5, o6, o7, o8, o9, o10, o11⟩ := o
                simp only [m1, Option.bind_some]
                cases t with
                | false => right; exact ⟨_, rfl, .inl rfl⟩
                | true =>
                  left
                  simp only [Bool.not_true, cond_false]
                  rw [fitsC (by simp only [List.length_singleton]; omega) (by omega), wsucc (by omega)]
                  refine ⟨_, rfl, ⟨p' + k, x ++ [(o1, o2, o3, o4, o5, o6, o7, o8, o9, o10, o11)], by simp, ⟨by simp; omega, fun y hy => ?_⟩, by omega, by simp; omega⟩, by simp only; omega⟩
                  simp only [List.mem_append, List.mem_singleton] at hy
                  rcases hy with hy | rfl
                  · exact g1.2 y hy
                  · exact m2
          · right
            simp only [spec_OutsOf_s250, dF hx, cond_false]
            exact ⟨_, rfl, .inr ⟨x, rfl, g1, by omega⟩⟩) (s := (a, [], n, (q : Int), 0)) ⟨q, [], rfl, ⟨by simp, fun y hy => by simp at hy⟩, h4, by simpa using h1⟩ (by simp only; omega)
      rw [f1]
      rcases f2 with rfl | ⟨x, rfl, g1, g2⟩
      · exact ⟨_, rfl, .inl rfl⟩
      · simp only [bx, Option.bind_some, Sum.elim_inr, specOutsOk_eq g1, specOutsB_eq g1]
        cases hk : x.all ouOk with
        | false => exact ⟨_, rfl, .inl rfl⟩
        | true =>
          simp only [Bool.not_true, cond_false, Bool.true_and, dT g2, cond_true, u8_eq (bts_outsB x) hb]
          by_cases he : outsB x = a
          · rw [dT he]; exact ⟨_, rfl, .inr ⟨x, rfl, hk, g2, g1, he⟩⟩
          · rw [dF he]; exact ⟨_, rfl, .inl rfl⟩

theorem specOf_enc {a : List Int} (hb : Bts a) (hl : a.length ≤ 1048576) {x : List OuT} (hg : Good x a) : spec_OutsOf a = some (x, true) := by
  obtain ⟨hok, hfew, hle, hbytes⟩ := hg
  have d0 : a.drop 0 = nB (x.length : Int) ++ x.flatMap oneB := by rw [List.drop_zero, ← hbytes]; rfl
  have q0 := specGet_enc hb hl (p := 0) (x := (x.length : Int)) (by omega) (by omega) d0
  have d1 := drop_app d0
  rw [Nat.zero_add] at d1 q0
  rw [cast0] at q0
  have q := lp_det (S := spec_OutsOf_s250) (fun i => (a, x.take i, (x.length : Int), (((nB (x.length : Int)).length + ((x.take i).flatMap oneB).length : Nat) : Int), (i : Int))) (n := x.length) (by omega) (b := .inr (a, x)) (fun i hi => by
    have hm := getD_mem (d := ou0) hi
    have hoi : ouOk (x.getD i ou0) = true := by
      simp only [List.all_eq_true] at hok
      exact hok _ hm
    have hob := ouB_le (hle.2 _ hm)
    have d2 : a.drop ((nB (x.length : Int)).length + ((x.take i).flatMap oneB).length) = nB ((ouB (x.getD i ou0)).length : Int) ++ (ouB (x.getD i ou0) ++ (x.drop (i + 1)).flatMap oneB) := drop_app (by rw [d1]; exact oneB_split hi)
    have g1 := specGet_enc hb hl (by omega) (by omega) d2
    have d3 := drop_app d2
    have l0 : (nB (x.length : Int)).length + ((x.take i).flatMap oneB).length ≤ a.length := by
      rw [← hbytes, outsB, List.length_append]
      have : ((x.take i).flatMap oneB).length ≤ (x.flatMap oneB).length := by
        conv => rhs; rw [← List.take_append_drop i x, List.flatMap_append]
        simp
      omega
    have l1 := drop_le d2 l0
    have l2 := drop_le d3 l1
    generalize hp : (nB (x.length : Int)).length + ((x.take i).flatMap oneB).length = p at *
    generalize hp' : p + (nB ((ouB (x.getD i ou0)).length : Int)).length = p' at *
    have w1 : w64 ((a.length : Int) - (p' : Int)) = (a.length : Int) - p' := w64_ok (by omega) (by omega)
    have w2 : w64 ((p' : Int) + ((ouB (x.getD i ou0)).length : Int)) = ((p' + (ouB (x.getD i ou0)).length : Nat) : Int) := by rw [w64_ok (by omega) (by omega)]; omega
    simp only [spec_OutsOf_s250, ltn hi, cond_true, g1, Option.bind_some, lnn, bif_dec, Bool.not_true, cond_false, w1, w2]
    rw [if_neg (by omega)]
    unfold g0
    rw [chkD (by omega), chkD (by omega)]
    simp only [Int.toNat_natCast]
    rw [chkD (by omega)]
    have hsl : (a.take (p' + (ouB (x.getD i ou0)).length)).drop p' = ouB (x.getD i ou0) := by
      rw [List.drop_take, d3, Nat.add_sub_cancel_left, List.take_left]
    have g2 := specOne_enc hoi (b := (a.take (p' + (ouB (x.getD i ou0)).length)).drop p') (bts_drop (bts_take hb _) _) (by simp; omega) hsl
    have hpos : p' + (ouB (x.getD i ou0)).length = (nB (x.length : Int)).length + ((x.take (i + 1)).flatMap oneB).length := by
      rw [flatMap_snoc oneB ou0 hi, List.length_append, oneB, List.length_append]
      omega
    rw [← hpos, take_snoc ou0 hi]
    rw [g2]
    generalize hx : x.getD i ou0 = o
    obtain ⟨o1, o2, o3, o4, o5, o6, o7, o8, o9, o10, o11⟩ := o
    simp only [Option.bind_some, Bool.not_true, cond_false]
    rw [fitsC (by simp only [List.length_singleton, List.length_take]; omega) (by omega), wsucc (by omega)]) (by simp only [spec_OutsOf_s250, ltF, cond_false, List.take_length])
  have e0 : ((x.take 0).flatMap oneB).length = 0 := rfl
  rw [cast0, e0, Nat.add_zero, List.take_zero] at q
  simp only [spec_OutsOf, q0, Option.bind_some, bif_dec, Bool.not_true, cond_false]
  rw [if_neg (by omega), q]
  simp only [bx, Option.bind_some, Sum.elim_inr, specOutsOk_eq hle, specOutsB_eq hle, hok, Bool.not_true, cond_false, Bool.true_and, dT hfew, cond_true, u8_eq (bts_outsB x) hb, hbytes]
  simp

end Go.Proofs.Ytkegollaleklaaa.Tw
