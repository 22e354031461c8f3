/- Plain: bytes of sketches, entries, outs: both write the same. No condition: lemmas. -/
import Derived.Test.YtkegollaleklaaaGn
import Derived.Test.YtkegollaleklaaaHo
namespace Go.Proofs.Ytkegollaleklaaa.Tw
open Go.Mach
set_option linter.unusedVariables false
set_option linter.unusedSimpArgs false
set_option maxRecDepth 20000

theorem fits1 {R : Type} {n : Nat} (h : n ≤ 4294967296) (k : Option R) : chk (fits n 1) k = k := chk_ok (fits_ok h (by omega)) k
theorem flatMap_len {α β : Type} (f : α → List β) (B : Nat) : ∀ (l : List α), (∀ x ∈ l, (f x).length ≤ B) → (l.flatMap f).length ≤ B * l.length
  | [], _ => by simp
  | x :: l, h => by
    have h1 := flatMap_len f B l (fun y hy => h y (List.mem_cons_of_mem _ hy))
    have h2 := h x (List.mem_cons_self)
    simp only [List.flatMap_cons, List.length_append, List.length_cons]
    rw [Nat.mul_add]
    omega
theorem flatMap_snoc {α β : Type} (f : α → List β) {l : List α} {i : Nat} (d : α) (h : i < l.length) : (l.take (i + 1)).flatMap f = (l.take i).flatMap f ++ f (l.getD i d) := by
  rw [take_snoc d h, List.flatMap_append]
  simp

/-- The bytes of numbers. -/
def nsB (l : List Int) : List Int := l.flatMap nB
theorem nsB_le (l : List Int) : (nsB l).length ≤ 5 * l.length := flatMap_len nB 5 l fun x _ => nB_le x
theorem nsB_app (a b : List Int) : nsB (a ++ b) = nsB a ++ nsB b := by simp [nsB]
theorem nsB_one (x : Int) : nsB [x] = nB x := by simp [nsB]

theorem l7Put_eq {l : List Int} (hl : l.length ≤ 1048576) : spec_l7Put l = some (nsB l) := by
  have h := lp_det (S := spec_l7Put_s58) (fun i => (l, nsB (l.take i), (i : Int))) hl (b := nsB l) (fun i hi => by
    have h1 := nsB_le (l.take i)
    have h2 := nB_le (l.getD i 0)
    rw [List.length_take] at h1
    simp only [spec_l7Put_s58, lnn, ltn hi, cond_true, ixn hi, gxn, specPut_eq, Option.bind_some, wsucc (show i ≤ 1048576 by omega)]
    rw [fits1 (by omega), nsB, nsB, flatMap_snoc nB 0 hi]) (by simp only [spec_l7Put_s58, lnn, ltF, cond_false, List.take_length])
  have e0 : nsB (l.take 0) = [] := rfl
  rw [cast0, e0] at h
  simp only [spec_l7Put, h, Option.bind_some]
theorem putNums_eq {l : List Int} (hl : l.length ≤ 1048576) : impl_putNums l = some (nsB l) := by
  have h := lp_det (S := impl_putNums_s58) (fun i => (nsB (l.take i), l, (l.length : Int), (i : Int))) hl (b := nsB l) (fun i hi => by
    have h1 := nsB_le (l.take i)
    have h2 := nB_le (l.getD i 0)
    rw [List.length_take] at h1
    simp only [impl_putNums_s58, ltn hi, cond_true, ixn hi, gxn, implPut_eq, Option.bind_some, wsucc (show i ≤ 1048576 by omega)]
    rw [fits1 (by omega), nsB, nsB, flatMap_snoc nB 0 hi]) (by simp only [impl_putNums_s58, ltF, cond_false, List.take_length])
  have e0 : nsB (l.take 0) = [] := rfl
  rw [cast0, e0] at h
  simp only [impl_putNums, lnn, h, Option.bind_some]

/-! ### sketches -/
def skN (s : SkT) : List Int := [s.1, s.2.1, s.2.2.1, s.2.2.2.1] ++ s.2.2.2.2.1 ++ s.2.2.2.2.2.1 ++ s.2.2.2.2.2.2.flatten
def skB (s : SkT) : List Int := bif skOk s then nsB (skN s) else []
theorem skN_len {s : SkT} (h : SkOk s) : (skN s).length = 28 := by
  obtain ⟨r0, r1, e, ⟨q0, _⟩, ⟨q1, _⟩⟩ := h.rows
  simp only [skN, e, List.length_append, List.length_cons, List.length_nil, List.flatten_cons, List.flatten_nil, List.append_nil, h.hist.1, h.regs.1, q0, q1]
theorem skB_le (s : SkT) : (skB s).length ≤ 140 := by
  unfold skB
  cases h : skOk s with
  | false => simp
  | true =>
    have := nsB_le (skN s)
    rw [skN_len (skOk_iff.1 h)] at this
    exact this

theorem specSkB_eq {s : SkT} (h : SkLe 1048576 s) : spec_SketchBytes s = some (skB s) := by
  have hok := specSketchOk_eq h
  unfold skB
  obtain ⟨a1, a2, a3, a4, a5, a6, a7⟩ := s
  simp only [spec_SketchBytes, hok, Option.bind_some]
  cases hk : skOk (a1, a2, a3, a4, a5, a6, a7) with
  | false => rfl
  | true =>
    have hs := skOk_iff.1 hk
    have hlen := skN_len hs
    obtain ⟨r0, r1, e, ⟨q0, _⟩, ⟨q1, _⟩⟩ := hs.rows
    have hh := hs.hist.1
    have hr := hs.regs.1
    simp only at e hh hr
    subst e
    have hl : lp spec_l7Nums_s250 ((a1, a2, a3, a4, a5, a6, [r0, r1]), ([a1, a2, a3, a4] ++ a5) ++ a6, 0) = some (skN (a1, a2, a3, a4, a5, a6, [r0, r1])) := by
      have e1 : List.getD [r0, r1] 0 [] = r0 := rfl
      have e2 : List.getD [r0, r1] 1 [] = r1 := rfl
      have q := lp_det (S := spec_l7Nums_s250) (fun i => ((a1, a2, a3, a4, a5, a6, [r0, r1]), ([a1, a2, a3, a4] ++ a5 ++ a6) ++ (([r0, r1] : List (List Int)).take i).flatten, (i : Int))) (n := 2) (by omega) (b := skN (a1, a2, a3, a4, a5, a6, [r0, r1])) (fun i hi => by
        have hi2 : i < ([r0, r1] : List (List Int)).length := hi
        have : i = 0 ∨ i = 1 := by omega
        rcases this with rfl | rfl
        · simp only [spec_l7Nums_s250, lnn, ltn hi2, cond_true, ixn hi2, gxn, e1, wsucc (show 0 ≤ 1048576 by omega)]
          rw [fitsC (by simp; omega) (by omega)]
          simp
        · simp only [spec_l7Nums_s250, lnn, ltn hi2, cond_true, ixn hi2, gxn, e2, wsucc (show 1 ≤ 1048576 by omega)]
          rw [fitsC (by simp; omega) (by omega)]
          simp) (by
        have : decide (((2 : Nat) : Int) < (([r0, r1] : List (List Int)).length : Int)) = false := rfl
        simp only [spec_l7Nums_s250, lnn, this, cond_false]
        rfl)
      rw [cast0, List.take_zero, List.flatten_nil, List.append_nil] at q
      exact q
    simp only [Bool.not_true, cond_false, cond_true, spec_l7Nums, hl]
    rw [fitsC (by simp; omega) (by omega), fitsC (by simp; omega) (by omega)]
    simp only [Option.bind_some, l7Put_eq (show (skN (a1, a2, a3, a4, a5, a6, [r0, r1])).length ≤ 1048576 by omega)]

theorem implSkB_eq {s : SkT} (h : SkLe 1048576 s) : impl_SketchBytes s = some (skB s) := by
  have hok := implSketchOk_eq h
  unfold skB
  obtain ⟨a1, a2, a3, a4, a5, a6, a7⟩ := s
  simp only [impl_SketchBytes, hok, Option.bind_some]
  cases hk : skOk (a1, a2, a3, a4, a5, a6, a7) with
  | false => rfl
  | true =>
    have hs := skOk_iff.1 hk
    have hlen := skN_len hs
    obtain ⟨r0, r1, e, ⟨q0, _⟩, ⟨q1, _⟩⟩ := hs.rows
    have hh := hs.hist.1
    have hr := hs.regs.1
    simp only at e hh hr
    subst e
    have hl : lp impl_counts_s58 (a5 ++ a6, [r0, r1], ((2 : Nat) : Int), ((0 : Nat) : Int)) = some (a5 ++ a6 ++ r0 ++ r1) := by
      have e1 : List.getD [r0, r1] 0 [] = r0 := rfl
      have e2 : List.getD [r0, r1] 1 [] = r1 := rfl
      have := lp_det (S := impl_counts_s58) (fun i => ((a5 ++ a6) ++ (([r0, r1] : List (List Int)).take i).flatten, [r0, r1], ((2 : Nat) : Int), (i : Int))) (n := 2) (by omega) (b := a5 ++ a6 ++ r0 ++ r1) (fun i hi => by
        have hi2 : i < ([r0, r1] : List (List Int)).length := hi
        have : i = 0 ∨ i = 1 := by omega
        rcases this with rfl | rfl
        · simp only [impl_counts_s58, ltn hi, cond_true, ixn hi2, gxn, e1, wsucc (show 0 ≤ 1048576 by omega)]
          rw [fitsC (by simp; omega) (by omega)]
          simp
        · simp only [impl_counts_s58, ltn hi, cond_true, ixn hi2, gxn, e2, wsucc (show 1 ≤ 1048576 by omega)]
          rw [fitsC (by simp; omega) (by omega)]
          simp) (by
        simp only [impl_counts_s58, ltF, cond_false]
        simp)
      simpa using this
    rw [cast0] at hl
    have hl2 : ln [r0, r1] = ((2 : Nat) : Int) := rfl
    simp only [Bool.not_true, cond_false, cond_true, impl_counts, impl_copyInts, hl2]
    simp only [Option.bind_some, fitsC (show a5.length ≤ 4194304 by omega) (show 8 ≤ 1000 by omega), fitsC (show a5.length + a6.length ≤ 4194304 by omega) (show 8 ≤ 1000 by omega), hl]
    rw [fitsC (by simp; omega) (by omega)]
    have : [a1, a2, a3, a4] ++ (a5 ++ a6 ++ r0 ++ r1) = skN (a1, a2, a3, a4, a5, a6, [r0, r1]) := by simp [skN]
    rw [this, putNums_eq (by omega)]
    rfl

/-! ### outs -/
def ouOk (o : OuT) : Bool := inR o.1 0 1000 && enOk o.2
theorem specOutsOk_eq {l : List OuT} (h : OutsLe 1048576 l) : spec_OutsOk l = some (l.all ouOk) := by
  have q := lp_all (S := spec_OutsOk_s26) (t := .inr ()) (e := .inl false) l ou0 (fun i => (l, (i : Int))) h.1 ouOk (fun i hi hm => by
    have he := specEntryOk_eq (h.2 _ hm)
    have hl := h.1
    simp only [spec_OutsOk_s26, lnn, ltn hi, Option.bind_some, cond_true, ixn hi, gxn, wsucc (show i ≤ 1048576 by omega), bnot_cond, l1In_eq, ouOk]
    generalize hx : l.getD i (0, 0, 0, [], 0, 0, 0, 0, [], [], []) = x
    have hx' : l.getD i ou0 = x := hx
    rw [hx'] at he
    obtain ⟨x0, x1, x2, x3, x4, x5, x6, x7, x8, x9, x10⟩ := x
    simp only at he
    simp only [he, Option.bind_some]
    cases inR x0 0 1000 <;> cases enOk (x1, x2, x3, x4, x5, x6, x7, x8, x9, x10) <;> rfl) (by simp only [spec_OutsOk_s26, lnn, ltF, Option.bind_some, cond_false])
  rw [cast0] at q
  simp only [spec_OutsOk, q]
  cases l.all ouOk <;> rfl
theorem implOutsOk_eq {l : List OuT} (h : OutsLe 1048576 l) : impl_OutsOk l = some (l.all ouOk) := by
  have q := lp_all (S := impl_OutsOk_s26) (t := .inr ()) (e := .inl false) l ou0 (fun i => (l, (l.length : Int), (i : Int))) h.1 ouOk (fun i hi hm => by
    have he := implEntryOk_eq (h.2 _ hm)
    have hl := h.1
    simp only [impl_OutsOk_s26, lnn, ltn hi, Option.bind_some, cond_true, ixn hi, gxn, wsucc (show i ≤ 1048576 by omega), bnot_cond, within_eq, ouOk]
    generalize hx : l.getD i (0, 0, 0, [], 0, 0, 0, 0, [], [], []) = x
    have hx' : l.getD i ou0 = x := hx
    rw [hx'] at he
    obtain ⟨x0, x1, x2, x3, x4, x5, x6, x7, x8, x9, x10⟩ := x
    simp only at he
    simp only [he, Option.bind_some]
    cases inR x0 0 1000 <;> cases enOk (x1, x2, x3, x4, x5, x6, x7, x8, x9, x10) <;> rfl) (by simp only [impl_OutsOk_s26, ltF, Option.bind_some, cond_false])
  rw [cast0] at q
  simp only [impl_OutsOk, lnn, q]
  cases l.all ouOk <;> rfl

/-- The numbers of spans. -/
def fl (l : List SpT) : List Int := l.flatMap fun x => [x.1, x.2]
theorem fl_len : ∀ l : List SpT, (fl l).length = 2 * l.length
  | [] => rfl
  | x :: l => by have := fl_len l; unfold fl at this ⊢; simp only [List.flatMap_cons, List.length_append, List.length_cons, List.length_nil, this]; omega
theorem fl_snoc {l : List SpT} {i : Nat} (h : i < l.length) : fl (l.take (i + 1)) = fl (l.take i) ++ [(l.getD i (0, 0)).1, (l.getD i (0, 0)).2] := flatMap_snoc _ (0, 0) h
theorem flB_le (l : List SpT) : (nsB (fl l)).length ≤ 10 * l.length := by
  have := nsB_le (fl l)
  rw [fl_len] at this
  omega

def ouB (o : OuT) : List Int := bif ouOk o then nsB [o.1, o.2.1, o.2.2.1, (o.2.2.2.1.length : Int)] ++ nsB (fl o.2.2.2.1) ++ skB o.2.2.2.2 else []
theorem ouB_le {o : OuT} (h : EnLe 1048576 o.2) : (ouB o).length ≤ 10485920 := by
  unfold ouB
  cases ouOk o with
  | false => simp
  | true =>
    have h1 := nsB_le [o.1, o.2.1, o.2.2.1, (o.2.2.2.1.length : Int)]
    have h2 := flB_le o.2.2.2.1
    have h3 := skB_le o.2.2.2.2
    have h4 : o.2.2.2.1.length ≤ 1048576 := h.1
    simp only [cond_true, List.length_append, List.length_cons, List.length_nil] at h1 ⊢
    omega

theorem specOuB_eq {o : OuT} (h : EnLe 1048576 o.2) : spec_OutBytes o = some (ouB o) := by
  have hok := specOutsOk_eq (l := [o]) ⟨by simp, by simpa using h⟩
  have hsk := specSkB_eq h.2
  obtain ⟨o1, o2, o3, o4, o5, o6, o7, o8, o9, o10, o11⟩ := o
  simp only [spec_OutBytes, Option.bind_some, hok, List.all_cons, List.all_nil, Bool.and_true]
  unfold ouB
  cases hk : ouOk (o1, o2, o3, o4, o5, o6, o7, o8, o9, o10, o11) with
  | false => rfl
  | true =>
    have hl : o4.length ≤ 1048576 := h.1
    have h0 := nsB_le [o1, o2, o3, (o4.length : Int)]
    simp only [List.length_cons, List.length_nil] at h0
    simp only [Bool.not_true, cond_false, cond_true, lnn, l7Put_eq (l := [o1, o2, o3, (o4.length : Int)]) (by simp), Option.bind_some]
    generalize nsB [o1, o2, o3, (o4.length : Int)] = b0 at h0 ⊢
    have q := lp_det (S := spec_OutBytes_s122) (fun i => ((o1, o2, o3, o4, o5, o6, o7, o8, o9, o10, o11), b0 ++ nsB (fl (o4.take i)), (i : Int))) hl (b := ((o1, o2, o3, o4, o5, o6, o7, o8, o9, o10, o11), b0 ++ nsB (fl o4))) (fun i hi => by
      have h1 := flB_le (o4.take i)
      rw [List.length_take] at h1
      have h2 := nsB_le [(o4.getD i (0, 0)).1, (o4.getD i (0, 0)).2]
      simp only [List.length_cons, List.length_nil] at h2
      simp only [spec_OutBytes_s122, lnn, ltn hi, cond_true, ixn hi, gxn, Option.bind_some, wsucc (show i ≤ 1048576 by omega), l7Put_eq (l := [(o4.getD i (0, 0)).1, (o4.getD i (0, 0)).2]) (by simp)]
      rw [fits1 (by simp only [List.length_append]; omega), fl_snoc hi, nsB_app, List.append_assoc]) (by simp only [spec_OutBytes_s122, lnn, ltF, cond_false, List.take_length])
    have e0 : nsB (fl (o4.take 0)) = [] := rfl
    rw [cast0, e0, List.append_nil] at q
    have h5 := flB_le o4
    have h6 := skB_le (o5, o6, o7, o8, o9, o10, o11)
    simp only [q, Option.bind_some, hsk]
    rw [fits1 (by simp only [List.length_append]; omega)]

theorem implOuB_eq {o : OuT} (h : EnLe 1048576 o.2) : impl_OutBytes o = some (ouB o) := by
  have hok := implOutsOk_eq (l := [o]) ⟨by simp, by simpa using h⟩
  have hsk := implSkB_eq h.2
  obtain ⟨o1, o2, o3, o4, o5, o6, o7, o8, o9, o10, o11⟩ := o
  simp only [impl_OutBytes, Option.bind_some, hok, List.all_cons, List.all_nil, Bool.and_true]
  unfold ouB
  cases hk : ouOk (o1, o2, o3, o4, o5, o6, o7, o8, o9, o10, o11) with
  | false => rfl
  | true =>
    have hl : o4.length ≤ 1048576 := h.1
    have h0 := nsB_le [o1, o2, o3]
    have h4 := nB_le (o4.length : Int)
    simp only [List.length_cons, List.length_nil] at h0
    have q := lp_det (S := impl_putSpans_s58) (fun i => (nB (o4.length : Int) ++ nsB (fl (o4.take i)), o4, (o4.length : Int), (i : Int))) hl (b := nB (o4.length : Int) ++ nsB (fl o4)) (fun i hi => by
      have h1 := flB_le (o4.take i)
      rw [List.length_take] at h1
      have h2 := nsB_le [(o4.getD i (0, 0)).1, (o4.getD i (0, 0)).2]
      simp only [List.length_cons, List.length_nil] at h2
      simp only [impl_putSpans_s58, ltn hi, cond_true, ixn hi, gxn, Option.bind_some, wsucc (show i ≤ 1048576 by omega)]
      generalize hx : o4.getD i (0, 0) = x at h2
      obtain ⟨x1, x2⟩ := x
      simp only at h2
      simp only [putNums_eq (l := [x1, x2]) (by simp), Option.bind_some]
      rw [fits1 (by simp only [List.length_append]; omega), fl_snoc hi, hx, nsB_app, List.append_assoc]) (by simp only [impl_putSpans_s58, ltF, cond_false, List.take_length])
    have e0 : nsB (fl (o4.take 0)) = [] := rfl
    rw [cast0, e0, List.append_nil] at q
    have h5 := flB_le o4
    have h6 := skB_le (o5, o6, o7, o8, o9, o10, o11)
    simp only [Bool.not_true, cond_false, cond_true, lnn, putNums_eq (l := [o1, o2, o3]) (by simp), impl_putSpans, implPut_eq, Option.bind_some, q, hsk]
    rw [fits1 (by simp only [List.length_append]; omega), fits1 (by simp only [List.length_append]; omega)]
    have e : nsB [o1, o2, o3, (o4.length : Int)] = nsB [o1, o2, o3] ++ nB (o4.length : Int) := by rw [← nsB_one, ← nsB_app]; rfl
    rw [e, List.append_assoc, List.append_assoc, List.append_assoc, List.append_assoc]

def oneB (o : OuT) : List Int := nB ((ouB o).length : Int) ++ ouB o
def outsB (l : List OuT) : List Int := nB (l.length : Int) ++ l.flatMap oneB
theorem oneB_le {o : OuT} (h : EnLe 1048576 o.2) : (oneB o).length ≤ 10485925 := by
  have h1 := ouB_le h
  have h2 := nB_le ((ouB o).length : Int)
  simp only [oneB, List.length_append]
  omega
theorem ones_le {l : List OuT} (h : OutsLe 1048576 l) (i : Nat) : ((l.take i).flatMap oneB).length ≤ 10485925 * i := by
  refine Nat.le_trans (flatMap_len oneB 10485925 _ fun o ho => oneB_le (h.2 o (List.mem_of_mem_take ho))) (Nat.mul_le_mul_left _ ?_)
  rw [List.length_take]
  omega

theorem specOutsB_eq {l : List OuT} (h : OutsLe 1048576 l) : spec_OutsBytes l = some (bif l.all ouOk && decide (l.length ≤ 200) then outsB l else []) := by
  simp only [spec_OutsBytes, specOutsOk_eq h, Option.bind_some, lnn, bif_dec]
  cases l.all ouOk with
  | false => rfl
  | true =>
    by_cases h2 : l.length ≤ 200
    · have q := lp_det (S := spec_OutsBytes_s122) (fun i => (l, nB (l.length : Int) ++ (l.take i).flatMap oneB, (i : Int))) (n := l.length) (by omega) (b := outsB l) (fun i hi => by
        have h1 := ones_le h i
        have hm := getD_mem (d := ou0) hi
        have he := h.2 _ hm
        have h3 := ouB_le he
        have h4 := nB_le ((ouB (l.getD i ou0)).length : Int)
        have h5 := nB_le (l.length : Int)
        have hb := specOuB_eq he
        simp only [spec_OutsBytes_s122, lnn, ltn hi, cond_true, ixn hi, gxn, Option.bind_some, wsucc (show i ≤ 1048576 by omega)]
        rw [flatMap_snoc oneB ou0 hi]
        generalize hx : l.getD i (0, 0, 0, [], 0, 0, 0, 0, [], [], []) = x
        have hx' : l.getD i ou0 = x := hx
        rw [hx'] at hb h3 h4
        obtain ⟨x0, x1, x2, x3, x4, x5, x6, x7, x8, x9, x10⟩ := x
        simp only [hb, Option.bind_some, specPut_eq]
        rw [fits1 (by simp only [List.length_append]; omega), fits1 (by simp only [List.length_append]; omega)]
        simp only [oneB, List.append_assoc]) (by simp only [spec_OutsBytes_s122, lnn, ltF, cond_false, Option.bind_some, List.take_length, outsB])
      have e0 : (l.take 0).flatMap oneB = [] := rfl
      rw [cast0, e0, List.append_nil] at q
      simp only [Bool.not_true, cond_false, if_neg (show ¬ (l.length : Int) > 200 by omega), specPut_eq, Option.bind_some, q, dT h2, Bool.and_true, cond_true]
    · simp only [Bool.not_true, cond_false, if_pos (show (l.length : Int) > 200 by omega), dF h2, Bool.and_false, Option.bind_some]
theorem implOutsB_eq {l : List OuT} (h : OutsLe 1048576 l) : impl_OutsBytes l = some (bif l.all ouOk && decide (l.length ≤ 200) then outsB l else []) := by
  simp only [impl_OutsBytes, implOutsOk_eq h, Option.bind_some, lnn, bif_dec]
  cases l.all ouOk with
  | false => rfl
  | true =>
    by_cases h2 : l.length ≤ 200
    · have q := lp_det (S := impl_OutsBytes_s122) (fun i => (nB (l.length : Int) ++ (l.take i).flatMap oneB, l, (l.length : Int), (i : Int))) (n := l.length) (by omega) (b := outsB l) (fun i hi => by
        have h1 := ones_le h i
        have hm := getD_mem (d := ou0) hi
        have he := h.2 _ hm
        have h3 := ouB_le he
        have h4 := nB_le ((ouB (l.getD i ou0)).length : Int)
        have h5 := nB_le (l.length : Int)
        have hb := implOuB_eq he
        simp only [impl_OutsBytes_s122, lnn, ltn hi, cond_true, ixn hi, gxn, Option.bind_some, wsucc (show i ≤ 1048576 by omega)]
        rw [flatMap_snoc oneB ou0 hi]
        generalize hx : l.getD i (0, 0, 0, [], 0, 0, 0, 0, [], [], []) = x
        have hx' : l.getD i ou0 = x := hx
        rw [hx'] at hb h3 h4
        obtain ⟨x0, x1, x2, x3, x4, x5, x6, x7, x8, x9, x10⟩ := x
        simp only [hb, Option.bind_some, implPut_eq]
        rw [fits1 (by simp only [List.length_append]; omega), fits1 (by simp only [List.length_append]; omega)]
        simp only [oneB, List.append_assoc]) (by simp only [impl_OutsBytes_s122, ltF, cond_false, Option.bind_some, List.take_length, outsB])
      have e0 : (l.take 0).flatMap oneB = [] := rfl
      rw [cast0, e0, List.append_nil] at q
      simp only [Bool.not_true, cond_false, if_neg (show ¬ (l.length : Int) > 200 by omega), implPut_eq, Option.bind_some, q, dT h2, Bool.and_true, cond_true]
    · simp only [Bool.not_true, cond_false, if_pos (show (l.length : Int) > 200 by omega), dF h2, Bool.and_false, Option.bind_some]

end Go.Proofs.Ytkegollaleklaaa.Tw
