/- Plain: sketches that are right, merged: the program's way and the reference's. No condition: lemmas. -/
import Derived.Test.YthchcnfkgjmabaaGreatOk
namespace Go.Mach
theorem zip_len {f : Int → Int → Int} {a b : List Int} (h : b.length = a.length) : (List.zipWith f a b).length = a.length := by simp [h]
theorem zip_get {f : Int → Int → Int} {a b : List Int} (h : b.length = a.length) {i : Nat} (hi : i < a.length) : (List.zipWith f a b).getD i 0 = f (a.getD i 0) (b.getD i 0) := by
  simp [List.getD_eq_getElem?_getD, List.getElem?_zipWith, List.getElem?_eq_getElem hi, List.getElem?_eq_getElem (show i < b.length by omega)]
theorem zip_take {f : Int → Int → Int} {a b : List Int} (h : b.length = a.length) {i : Nat} (hi : i < a.length) : (List.zipWith f a b).take (i + 1) = (List.zipWith f a b).take i ++ [f (a.getD i 0) (b.getD i 0)] := by
  rw [take_snoc 0 (by rw [zip_len h]; exact hi), zip_get h hi]
/-- A row turned in place, as far as i. -/
def zset (f : Int → Int → Int) (a b : List Int) (i : Nat) : List Int := (List.zipWith f a b).take i ++ a.drop i
theorem zset_len {f : Int → Int → Int} {a b : List Int} (h : b.length = a.length) {i : Nat} (hi : i ≤ a.length) : (zset f a b i).length = a.length := by simp [zset, h]; omega
theorem getD_mid' {α : Type} (p r : List α) (x d : α) {i : Nat} (h : p.length = i) : (p ++ x :: r).getD i d = x := by subst h; simp [List.getD_eq_getElem?_getD]
theorem zset_get {f : Int → Int → Int} {a b : List Int} (h : b.length = a.length) {i : Nat} (hi : i < a.length) : (zset f a b i).getD i 0 = a.getD i 0 := by
  have : ((List.zipWith f a b).take i).length = i := by simp [h]; omega
  unfold zset
  rw [drop_cons 0 hi, getD_mid' _ _ _ _ this]
theorem zset_set {f : Int → Int → Int} {a b : List Int} (h : b.length = a.length) {i : Nat} (hi : i < a.length) : (zset f a b i).set i (f (a.getD i 0) (b.getD i 0)) = zset f a b (i + 1) := by
  have : ((List.zipWith f a b).take i).length = i := by simp [h]; omega
  unfold zset
  rw [zip_take h hi, drop_cons 0 hi, List.set_append_right _ _ (by omega), this, Nat.sub_self]
  simp
theorem getD_set_same' {α : Type} {l : List α} {i : Nat} (v d : α) (h : i < l.length) : (l.set i v).getD i d = v := by simp [List.getD_eq_getElem?_getD, h]
theorem zset_all {f : Int → Int → Int} {a b : List Int} (h : b.length = a.length) : zset f a b a.length = List.zipWith f a b := by
  unfold zset
  rw [List.drop_length, List.append_nil, List.take_of_length_le (by rw [zip_len h]; exact Nat.le_refl _)]
end Go.Mach
namespace Go.Proofs.YthchcnfkgjmabaaGreat.Tw
open Go.Mach
set_option linter.unusedVariables false
set_option linter.unusedSimpArgs false
set_option maxRecDepth 20000

def ad (a b : Int) : Int := min (max 0 (min a 1000000000) + max 0 (min b 1000000000)) 1000000000
theorem specMin_eq (a b : Int) : spec_l1Min (a, b) = some (min a b) := by simp only [spec_l1Min, bif_dec]; split <;> simp <;> omega
theorem specMax_eq (a b : Int) : spec_l1Max (a, b) = some (max a b) := by simp only [spec_l1Max, bif_dec]; split <;> simp <;> omega
theorem limited_eq (a b c : Int) : impl_limited (a, b, c) = some (min (max a b) c) := by
  simp only [impl_limited, Option.some.injEq]
  split <;> split <;> omega
theorem specAdd_eq (a b : Int) : spec_Add (a, b) = some (ad a b) := by
  simp only [spec_Add, spec_l2Clip, specMin_eq, specMax_eq, Option.bind_some]
  rw [w64_ok (by omega) (by omega)]
  rfl
theorem implAdd_eq (a b : Int) : impl_Add (a, b) = some (ad a b) := by
  simp only [impl_Add, limited_eq, Option.bind_some]
  rw [wr (by omega) (by omega)]
  unfold ad
  congr 1
  split <;> omega

theorem l3Sum_eq {a b : List Int} (h : b.length = a.length) (hl : a.length ≤ 1048576) : spec_l3Sum (a, b) = some (List.zipWith ad a b) := by
  have := lp_det (S := spec_l3Sum_s58) (fun i => (a, b, (List.zipWith ad a b).take i, (i : Int))) hl (b := List.zipWith ad a b) (fun i hi => by
    simp only [spec_l3Sum_s58, lnn, ltn hi, cond_true, ixn hi, ixn (show i < b.length by omega), gxn, specAdd_eq, Option.bind_some, wsucc (show i ≤ 1048576 by omega)]
    rw [fitsC (by simp [h]; omega) (by omega), zip_take h hi]) (by
    simp only [spec_l3Sum_s58, lnn, ltF, cond_false]
    rw [List.take_of_length_le (by rw [zip_len h]; exact Nat.le_refl _)])
  rw [cast0, List.take_zero] at this
  simp only [spec_l3Sum, this, Option.bind_some]

/-- Two sketches, merged. -/
def mrg (a b : SkT) : SkT := (ad a.1 b.1, ad a.2.1 b.2.1, (if b.1 = 0 then a.2.2.1 else if a.1 = 0 then b.2.2.1 else min a.2.2.1 b.2.2.1), max a.2.2.2.1 b.2.2.2.1,
  List.zipWith ad a.2.2.2.2.1 b.2.2.2.2.1, List.zipWith max a.2.2.2.2.2.1 b.2.2.2.2.2.1, [List.zipWith ad (a.2.2.2.2.2.2.getD 0 []) (b.2.2.2.2.2.2.getD 0 []), List.zipWith ad (a.2.2.2.2.2.2.getD 1 []) (b.2.2.2.2.2.2.getD 1 [])])

theorem l3Merge_eq {a b : SkT} (ha : SkOk a) (hb : SkOk b) : spec_l3Merge (a, b) = some (mrg a b) := by
  obtain ⟨a1, a2, a3, a4, a5, a6, a7⟩ := a
  obtain ⟨b1, b2, b3, b4, b5, b6, b7⟩ := b
  obtain ⟨r0, r1, ra, ⟨la0, _⟩, ⟨la1, _⟩⟩ := ha.rows
  obtain ⟨s0, s1, rb, ⟨lb0, _⟩, ⟨lb1, _⟩⟩ := hb.rows
  have la5 := ha.hist.1
  have lb5 := hb.hist.1
  have la6 := ha.regs.1
  have lb6 := hb.regs.1
  simp only at ra rb la5 lb5 la6 lb6
  subst ra rb
  have key : ∀ c1 c2 c3 c4 (c5 : List Int) (c7 : List (List Int)), spec_l3Merge_l31 ((a1, a2, a3, a4, a5, a6, [r0, r1]), (b1, b2, b3, b4, b5, b6, [s0, s1]), (0, 0, 0, 0, (), (), ()), c1, c2, c3, c4, c5, (), c7) = some (c1, c2, c3, c4, c5, List.zipWith max a6 b6, c7) := by
    intro c1 c2 c3 c4 c5 c7
    have := lp_det (S := spec_l3Merge_s250) (n := 8) (fun i => ((a1, a2, a3, a4, a5, a6, [r0, r1]), (b1, b2, b3, b4, b5, b6, [s0, s1]), (0, 0, 0, 0, (), (), ()), (c1, c2, c3, c4, c5, (List.zipWith max a6 b6).take i, c7), (i : Int))) (by omega)
      (b := ((0, 0, 0, 0, (), (), ()), c1, c2, c3, c4, c5, List.zipWith max a6 b6, c7)) (fun i hi => by
        simp only [spec_l3Merge_s250, dT (show (i : Int) < 8 by omega), cond_true, ixn (show i < a6.length by omega), ixn (show i < b6.length by omega), gxn, specMax_eq, Option.bind_some, wsucc (show i ≤ 1048576 by omega)]
        rw [fitsC (by simp; omega) (by omega), zip_take (show b6.length = a6.length by omega) (by omega)]) (by
        simp only [spec_l3Merge_s250, dF (show ¬ (((8 : Nat) : Int) < 8) by omega), cond_false]
        rw [List.take_of_length_le (by rw [zip_len (by omega)]; omega)])
    rw [cast0, List.take_zero] at this
    simp only [spec_l3Merge_l31, this, Option.bind_some]
  have key2 : ∀ c1 c2 c3 c4 (c5 : List Int) (c7 : List (List Int)), spec_l3Merge_l15 ((a1, a2, a3, a4, a5, a6, [r0, r1]), (b1, b2, b3, b4, b5, b6, [s0, s1]), (0, 0, 0, 0, (), (), ()), c1, c2, c3, c4, c5, (), c7) =
      some (c1, c2, (if b1 = 0 then a3 else c3), c4, c5, List.zipWith max a6 b6, c7) := by
    intro c1 c2 c3 c4 c5 c7
    simp only [spec_l3Merge_l15, beq_cond, key, Option.bind_some]
    split <;> rfl
  have g0 : List.getD [r0, r1] 0 [] = r0 := rfl
  have g1 : List.getD [r0, r1] 1 [] = r1 := rfl
  have h0 : List.getD [s0, s1] 0 [] = s0 := rfl
  have h1 : List.getD [s0, s1] 1 [] = s1 := rfl
  simp only [spec_l3Merge, specAdd_eq, specMin_eq, specMax_eq, Option.bind_some, l3Sum_eq (show b5.length = a5.length by omega) (by omega), g0, g1, h0, h1, l3Sum_eq (show s0.length = r0.length by omega) (by omega), l3Sum_eq (show s1.length = r1.length by omega) (by omega), key2, beq_cond]
  simp only [chk, List.length_cons, List.length_nil]
  simp only [mrg, g0, g1, h0, h1]
  by_cases hb0 : b1 = 0 <;> by_cases ha0 : a1 = 0 <;> simp [hb0, ha0]

theorem copySketch_eq {s : SkT} (h : SkLe 1048576 s) : impl_copySketch s = some s := by
  obtain ⟨a, b, c, d, e, f, g⟩ := s
  obtain ⟨h1, h2, h3, h4⟩ := h
  simp only at h1 h2 h3 h4
  have := lp_det (S := impl_copySketch_s506) (fun i => ((0, 0, 0, 0, (), (), ()), (a, b, c, d, e, f, g.take i), g, (g.length : Int), (i : Int))) h3 (b := ((0, 0, 0, 0, (), (), ()), a, b, c, d, e, f, g)) (fun i hi => by
    simp only [impl_copySketch_s506, ltn hi, cond_true, ixn hi, gxn, copyInts_eq (h4 _ (getD_mem hi)), Option.bind_some, wsucc (show i ≤ 1048576 by omega)]
    rw [fitsC (by simp; omega) (by omega), take_snoc [] hi]) (by simp only [impl_copySketch_s506, ltF, cond_false, List.take_length])
  rw [cast0, List.take_zero] at this
  simp only [impl_copySketch, copyInts_eq h1, copyInts_eq h2, Option.bind_some, lnn, this]

theorem SkOk.toLe {s : SkT} (h : SkOk s) : SkLe 8 s := by
  obtain ⟨r0, r1, e, ⟨q0, _⟩, ⟨q1, _⟩⟩ := h.rows
  refine ⟨by rw [h.hist.1]; omega, by rw [h.regs.1]; omega, by rw [e]; simp, fun r hr => ?_⟩
  rw [e] at hr
  simp only [List.mem_cons, List.not_mem_nil, or_false] at hr
  rcases hr with rfl | rfl <;> omega
theorem SkLe.mono {a b : Nat} {s : SkT} (h : SkLe a s) (hab : a ≤ b) : SkLe b s := ⟨Nat.le_trans h.1 hab, Nat.le_trans h.2.1 hab, Nat.le_trans h.2.2.1 hab, fun r hr => Nat.le_trans (h.2.2.2 r hr) hab⟩

theorem set_get_row {g : List (List Int)} {i : Nat} (r : List Int) (hi : i < g.length) : (g.set i r).getD i [] = r := getD_set_same' r [] hi

theorem implMerge_eq {a b : SkT} (ha : SkOk a) (hb : SkOk b) : impl_Merge (a, b) = some (mrg a b, true) := by
  obtain ⟨a1, a2, a3, a4, a5, a6, a7⟩ := a
  obtain ⟨b1, b2, b3, b4, b5, b6, b7⟩ := b
  have oka := implSketchOk_eq (ha.toLe.mono (by omega : 8 ≤ 1048576))
  have okb := implSketchOk_eq (hb.toLe.mono (by omega : 8 ≤ 1048576))
  rw [skOk_iff.2 ha] at oka
  rw [skOk_iff.2 hb] at okb
  have hcp := copySketch_eq (ha.toLe.mono (by omega : 8 ≤ 1048576))
  obtain ⟨r0, r1, ra, ⟨la0, _⟩, ⟨la1, _⟩⟩ := ha.rows
  obtain ⟨s0, s1, rb, ⟨lb0, _⟩, ⟨lb1, _⟩⟩ := hb.rows
  have la5 := ha.hist.1
  have lb5 := hb.hist.1
  have la6 := ha.regs.1
  have lb6 := hb.regs.1
  simp only at ra rb la5 lb5 la6 lb6
  subst ra rb
  have w0 : w64 (((0 : Nat) : Int) + 1) = ((1 : Nat) : Int) := wsucc (by omega)
  have w1 : w64 (((1 : Nat) : Int) + 1) = ((2 : Nat) : Int) := wsucc (by omega)
  -- one row
  have row : ∀ (c1 c2 c3 c4 : Int) (c5 c6 : List Int) (g : List (List Int)) (k : Nat) (x y : List Int) (rows : List (List Int)) (n o : Int), k < g.length → g.getD k [] = x → y.length = x.length → x.length ≤ 100 →
      lp impl_Merge_s2095718 ((0, 0, 0, 0, (), (), ()), (c1, c2, c3, c4, c5, c6, g), (k : Int), rows, n, o, y, (y.length : Int), 0) = some ((0, 0, 0, 0, (), (), ()), (c1, c2, c3, c4, c5, c6, g.set k (List.zipWith ad x y)), rows, n, o) := by
    intro c1 c2 c3 c4 c5 c6 g k x y rows n o hk hx hy hl
    have := lp_det (S := impl_Merge_s2095718) (n := y.length) (fun i => ((0, 0, 0, 0, (), (), ()), (c1, c2, c3, c4, c5, c6, g.set k (zset ad x y i)), (k : Int), rows, n, o, y, (y.length : Int), (i : Int))) (by omega)
      (b := ((0, 0, 0, 0, (), (), ()), (c1, c2, c3, c4, c5, c6, g.set k (List.zipWith ad x y)), rows, n, o)) (fun i hi => by
        have hlen := zset_len (f := ad) hy (show i ≤ x.length by omega)
        simp only [impl_Merge_s2095718, ltn hi, cond_true, ixn hi, List.length_set, ixn hk, lxn hk, gxn, sxn, set_get_row _ hk, hlen, ixn (show i < x.length by omega), lxn (show i < x.length by omega), zset_get hy (show i < x.length by omega), implAdd_eq, Option.bind_some, zset_set hy (show i < x.length by omega), List.set_set, wsucc (show i ≤ 1048576 by omega)]) (by
        simp only [impl_Merge_s2095718, ltF, cond_false]
        rw [hy, zset_all hy])
    have e : g.set k (zset ad x y 0) = g := by
      have : zset ad x y 0 = x := by simp [zset]
      rw [this, ← hx]
      apply List.ext_getElem?
      intro j
      rw [List.getElem?_set]
      split
      · rename_i q
        subst q
        first | rw [if_pos hk, getD_get hk, List.getElem?_eq_getElem hk] | rw [getD_get hk, List.getElem?_eq_getElem hk]
      · rfl
    rw [cast0, e] at this
    exact this
  have key : ∀ c1 c2 c3 c4, impl_Merge_l31 ((a1, a2, a3, a4, a5, a6, [r0, r1]), (b1, b2, b3, b4, b5, b6, [s0, s1]), (0, 0, 0, 0, (), (), ()), c1, c2, c3, c4, a5, a6, [r0, r1]) =
      some ((ad a1 b1, ad a2 b2, c3, max a4 b4, List.zipWith ad a5 b5, List.zipWith max a6 b6, [List.zipWith ad r0 s0, List.zipWith ad r1 s1]), true) := by
    intro c1 c2 c3 c4
    have hmx : (if b4 > a4 then b4 else a4) = max a4 b4 := by split <;> omega
    have l1 := lp_det (S := impl_Merge_s2042) (n := b5.length) (fun i => ((b1, b2, b3, b4, b5, b6, [s0, s1]), (0, 0, 0, 0, (), (), ()), (ad a1 b1, ad a2 b2, c3, max a4 b4, zset ad a5 b5 i, a6, [r0, r1]), b5, (b5.length : Int), (i : Int))) (by omega)
      (b := ((b1, b2, b3, b4, b5, b6, [s0, s1]), (0, 0, 0, 0, (), (), ()), ad a1 b1, ad a2 b2, c3, max a4 b4, List.zipWith ad a5 b5, a6, [r0, r1])) (fun i hi => by
        have hlen := zset_len (f := ad) (show b5.length = a5.length by omega) (show i ≤ a5.length by omega)
        simp only [impl_Merge_s2042, ltn hi, cond_true, ixn hi, hlen, ixn (show i < a5.length by omega), lxn (show i < a5.length by omega), gxn, sxn, zset_get (show b5.length = a5.length by omega) (show i < a5.length by omega), implAdd_eq, Option.bind_some, zset_set (show b5.length = a5.length by omega) (show i < a5.length by omega), wsucc (show i ≤ 1048576 by omega)]) (by
        simp only [impl_Merge_s2042, ltF, cond_false]
        rw [show b5.length = a5.length by omega, zset_all (by omega)])
    have z1 : zset ad a5 b5 0 = a5 := by simp [zset]
    rw [cast0, z1] at l1
    have l2 := lp_det (S := impl_Merge_s4090) (n := b6.length) (fun i => ((b1, b2, b3, b4, b5, b6, [s0, s1]), (0, 0, 0, 0, (), (), ()), (ad a1 b1, ad a2 b2, c3, max a4 b4, List.zipWith ad a5 b5, zset max a6 b6 i, [r0, r1]), b6, (b6.length : Int), (i : Int))) (by omega)
      (b := ((b1, b2, b3, b4, b5, b6, [s0, s1]), (0, 0, 0, 0, (), (), ()), ad a1 b1, ad a2 b2, c3, max a4 b4, List.zipWith ad a5 b5, List.zipWith max a6 b6, [r0, r1])) (fun i hi => by
        have hlen := zset_len (f := max) (show b6.length = a6.length by omega) (show i ≤ a6.length by omega)
        have hg := zset_get (f := max) (show b6.length = a6.length by omega) (show i < a6.length by omega)
        have hm : (if b6.getD i 0 > a6.getD i 0 then b6.getD i 0 else a6.getD i 0) = max (a6.getD i 0) (b6.getD i 0) := by split <;> omega
        simp only [impl_Merge_s4090, ltn hi, cond_true, ixn hi, hlen, ixn (show i < a6.length by omega), lxn (show i < a6.length by omega), gxn, sxn, Int.toNat_natCast, hg, hm, Option.bind_some, zset_set (show b6.length = a6.length by omega) (show i < a6.length by omega), wsucc (show i ≤ 1048576 by omega)]) (by
        simp only [impl_Merge_s4090, ltF, cond_false]
        rw [show b6.length = a6.length by omega, zset_all (by omega)])
    have z2 : zset max a6 b6 0 = a6 := by simp [zset]
    rw [cast0, z2] at l2
    have l3 : lp impl_Merge_s8186 ((0, 0, 0, 0, (), (), ()), (ad a1 b1, ad a2 b2, c3, max a4 b4, List.zipWith ad a5 b5, List.zipWith max a6 b6, [r0, r1]), [s0, s1], 2, ((0 : Nat) : Int)) =
        some ((0, 0, 0, 0, (), (), ()), ad a1 b1, ad a2 b2, c3, max a4 b4, List.zipWith ad a5 b5, List.zipWith max a6 b6, [List.zipWith ad r0 s0, List.zipWith ad r1 s1]) := by
      exact lp_det (S := impl_Merge_s8186) (n := 2) (fun i => ((0, 0, 0, 0, (), (), ()), (ad a1 b1, ad a2 b2, c3, max a4 b4, List.zipWith ad a5 b5, List.zipWith max a6 b6, (if i = 0 then [r0, r1] else if i = 1 then [List.zipWith ad r0 s0, r1] else [List.zipWith ad r0 s0, List.zipWith ad r1 s1])), [s0, s1], 2, (i : Int))) (by omega)
        (b := ((0, 0, 0, 0, (), (), ()), ad a1 b1, ad a2 b2, c3, max a4 b4, List.zipWith ad a5 b5, List.zipWith max a6 b6, [List.zipWith ad r0 s0, List.zipWith ad r1 s1])) (fun i hi => by
          match i, hi with
          | 0, _ =>
            have g : gx [s0, s1] ((0 : Nat) : Int) [] = s0 := rfl
            have d : decide (((0 : Nat) : Int) < 2) = true := rfl
            have q := row (ad a1 b1) (ad a2 b2) c3 (max a4 b4) (List.zipWith ad a5 b5) (List.zipWith max a6 b6) [r0, r1] 0 r0 s0 [s0, s1] 2 ((0 : Nat) : Int) (by simp) rfl (by omega) (by omega)
            simp only [impl_Merge_s8186, d, cond_true, if_true, g, lnn]
            rw [ixn (by simp), q]
            simp only [Option.bind_some, w0]
            rfl
          | 1, _ =>
            have g : gx [s0, s1] ((1 : Nat) : Int) [] = s1 := rfl
            have d : decide (((1 : Nat) : Int) < 2) = true := rfl
            have q := row (ad a1 b1) (ad a2 b2) c3 (max a4 b4) (List.zipWith ad a5 b5) (List.zipWith max a6 b6) [List.zipWith ad r0 s0, r1] 1 r1 s1 [s0, s1] 2 ((1 : Nat) : Int) (by simp) rfl (by omega) (by omega)
            simp only [impl_Merge_s8186, d, cond_true, g, lnn]
            rw [ixn (by simp), if_neg (by omega), if_true, q]
            simp only [Option.bind_some, w1]
            rfl) rfl
    rw [cast0] at l3
    have hln : ln [s0, s1] = 2 := rfl
    simp only [impl_Merge_l31, implAdd_eq, Option.bind_some, hmx, lnn, l1, l2]
    rw [show (([s0, s1] : List (List Int)).length : Int) = 2 from rfl, l3]
    rfl
  have g0 : List.getD [r0, r1] 0 [] = r0 := rfl
  have g1 : List.getD [r0, r1] 1 [] = r1 := rfl
  have h0 : List.getD [s0, s1] 0 [] = s0 := rfl
  have h1 : List.getD [s0, s1] 1 [] = s1 := rfl
  simp only [impl_Merge, oka, okb, Option.bind_some, Bool.not_true, cond_false, hcp, key, beq_cond, bif_dec]
  simp only [mrg, g0, g1, h0, h1]
  have zb := hb.zero
  have za := ha.zero
  have mb := hb.min
  have xb := hb.le
  have ma := ha.min
  have xa := ha.le
  have cb := hb.cnt
  simp only at zb za mb xb ma xa cb
  have e3 : (if a1 = 0 then b3 else if b1 > 0 then if b3 < a3 then b3 else a3 else a3) = (if b1 = 0 then a3 else if a1 = 0 then b3 else min a3 b3) := by
    by_cases ha0 : a1 = 0
    · rw [if_pos ha0]
      by_cases hb0 : b1 = 0
      · rw [if_pos hb0]
        have := zb hb0
        have := za ha0
        omega
      · rw [if_neg hb0, if_pos ha0]
    · rw [if_neg ha0]
      by_cases hb0 : b1 = 0
      · rw [if_pos hb0, if_neg (by omega)]
      · rw [if_neg hb0, if_neg ha0, if_pos (by omega)]
        split <;> omega
  rw [← e3]
  by_cases ha0 : a1 = 0
  · simp only [if_pos ha0]
  · simp only [if_neg ha0]
    by_cases hb0 : b1 > 0
    · simp only [if_pos hb0]
      split <;> rfl
    · simp only [if_neg hb0]

theorem ad_rng (a b : Int) : 0 ≤ ad a b ∧ ad a b ≤ 1000000000 := by unfold ad; omega
theorem ad_zero {a b : Int} (ha : 0 ≤ a) (hb : 0 ≤ b) : ad a b = 0 ↔ a = 0 ∧ b = 0 := by unfold ad; omega

theorem zip_all {f : Int → Int → Int} {P : Int → Prop} : ∀ {a b : List Int}, (∀ x ∈ a, ∀ y ∈ b, P (f x y)) → ∀ z ∈ List.zipWith f a b, P z
  | [], _, _, z, hz => by simp at hz
  | _ :: _, [], _, z, hz => by simp at hz
  | x :: a, y :: b, h, z, hz => by
    simp only [List.zipWith_cons_cons, List.mem_cons] at hz
    rcases hz with rfl | hz
    · exact h x List.mem_cons_self y List.mem_cons_self
    · exact zip_all (fun u hu v hv => h u (List.mem_cons_of_mem _ hu) v (List.mem_cons_of_mem _ hv)) z hz

/-- What is merged is right. -/
theorem mrg_ok {a b : SkT} (ha : SkOk a) (hb : SkOk b) : SkOk (mrg a b) := by
  obtain ⟨a1, a2, a3, a4, a5, a6, a7⟩ := a
  obtain ⟨b1, b2, b3, b4, b5, b6, b7⟩ := b
  obtain ⟨r0, r1, ra, ⟨la0, pa0⟩, ⟨la1, pa1⟩⟩ := ha.rows
  obtain ⟨s0, s1, rb, ⟨lb0, pb0⟩, ⟨lb1, pb1⟩⟩ := hb.rows
  have h5 := ha.hist
  have k5 := hb.hist
  have h6 := ha.regs
  have k6 := hb.regs
  have c1 := ha.cnt
  have d1 := hb.cnt
  have c2 := ha.sum
  have d2 := hb.sum
  have c3 := ha.min
  have d3 := hb.min
  have c4 := ha.max
  have d4 := hb.max
  have cl := ha.le
  have dl := hb.le
  have cz := ha.zero
  have dz := hb.zero
  simp only at ra rb h5 k5 h6 k6 c1 d1 c2 d2 c3 d3 c4 d4 cl dl cz dz pa0 pa1 pb0 pb1
  subst ra rb
  have z0 := ad_zero c1.1 d1.1
  have g0 : List.getD [r0, r1] 0 [] = r0 := rfl
  have g1 : List.getD [r0, r1] 1 [] = r1 := rfl
  have e0 : List.getD [s0, s1] 0 [] = s0 := rfl
  have e1 : List.getD [s0, s1] 1 [] = s1 := rfl
  simp only [mrg, g0, g1, e0, e1]
  have cells : ∀ {u v : List Int}, (∀ x ∈ u, (0 ≤ x ∧ x ≤ 1000000000) ∧ (a1 = 0 → x = 0)) → (∀ x ∈ v, (0 ≤ x ∧ x ≤ 1000000000) ∧ (b1 = 0 → x = 0)) → ∀ x ∈ List.zipWith ad u v, (0 ≤ x ∧ x ≤ 1000000000) ∧ (ad a1 b1 = 0 → x = 0) := by
    intro u v hu hv
    refine zip_all fun x hx y hy => ⟨ad_rng x y, fun q => ?_⟩
    have := z0.1 q
    have e1 := (hu x hx).2 this.1
    have e2 := (hv y hy).2 this.2
    rw [e1, e2]; rfl
  refine ⟨ad_rng _ _, ad_rng _ _, ?_, ?_, ?_, ⟨_, _, rfl, ⟨by simp [la0, lb0], cells pa0 pb0⟩, ⟨by simp [la1, lb1], cells pa1 pb1⟩⟩, fun q => ?_, ⟨by simp [h5.1, k5.1], cells h5.2 k5.2⟩, ⟨by simp [h6.1, k6.1], zip_all fun x hx y hy => ⟨?_, fun q => ?_⟩⟩⟩
  · simp only; split <;> (try split) <;> omega
  · simp only; omega
  · simp only; split <;> (try split) <;> omega
  · have := z0.1 q
    have q1 := cz this.1
    have q2 := dz this.2
    simp only
    refine ⟨?_, by omega⟩
    rw [q1.1, q2.1]; rfl
  · have := (h6.2 x hx).1
    have := (k6.2 y hy).1
    omega
  · have := z0.1 q
    have e1 := (h6.2 x hx).2 this.1
    have e2 := (k6.2 y hy).2 this.2
    omega

end Go.Proofs.YthchcnfkgjmabaaGreat.Tw
