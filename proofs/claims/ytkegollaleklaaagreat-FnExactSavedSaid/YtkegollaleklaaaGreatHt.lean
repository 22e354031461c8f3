/- Plain: houses that are right: root, what was told, all entries, what was taken. No condition: lemmas. -/
import Derived.Test.YtkegollaleklaaaGreatHs
namespace Go.Proofs.YtkegollaleklaaaGreat.Tw
open Go.Mach
set_option linter.unusedVariables false
set_option linter.unusedSimpArgs false
set_option maxRecDepth 20000
section
variable {a b c e f g h i n : Int} {d : List Int} {j : Bool} {k : List SeT} {l : List (List (List EnT))} {m : List TuT} {o : List EnT} {p : List OuT}
theorem getD_take {α : Type} {l : List α} {i j : Nat} {d : α} (h : i < j) : (l.take j).getD i d = l.getD i d := by simp [List.getD_eq_getElem?_getD, List.getElem?_take, h]
theorem toldM_snoc (p : List OuT) (x : OuT) (y z : Int) : toldM (p ++ [x]) y z = toldM p y z + (if x.2.1 == y && x.2.2.1 == z then 1 else 0) := by
 unfold toldM
 rw [List.countP_append, List.countP_singleton]
theorem toldM_le (p : List OuT) (y z : Int) : toldM p y z ≤ p.length := List.countP_le_length
theorem l12Gen_eq {x y : Int} (hp : p.length ≤ 1048576) : spec_l12Gen (p, x, y) = some ((toldM p x y : Nat) : Int) := by
 have q := lp_det (S := spec_l12Gen_s58) (fun i => (p, x, y, ((toldM (p.take i) x y : Nat) : Int), (i : Int))) hp (b := ((toldM p x y : Nat) : Int)) (fun s hs => by
  have hl := toldM_le (p.take s) x y
  have hl2 : (p.take s).length ≤ s := by simp; omega
  simp only [spec_l12Gen_s58, lnn, ltn hs, Option.bind_some, cond_true, ixn hs, gxn, wsucc (show s ≤ 1048576 by omega), spec_l1Bit]
  rw [take_snoc ou0 hs, toldM_snoc]
  generalize hx : p.getD s (0, 0, 0, [], 0, 0, 0, 0, [], [], []) = u
  have hx' : p.getD s ou0 = u := hx
  obtain ⟨u0, u1, u2, u3⟩ := u
  simp only
  cases h1 : u1 == x
  ·simp [w64_ok (n := ((toldM (p.take s) x y : Nat) : Int)) (by omega) (by omega)]
  ·cases h2 : u2 == y
   ·simp [w64_ok (n := ((toldM (p.take s) x y : Nat) : Int)) (by omega) (by omega)]
   ·simp [w64_ok (n := ((toldM (p.take s) x y : Nat) : Int) + 1) (by omega) (by omega)]) (by simp only [spec_l12Gen_s58, lnn, ltF, Option.bind_some, cond_false, List.take_length])
 have e0 : ((toldM (p.take 0) x y : Nat) : Int) = 0 := by simp [toldM]
 rw [cast0, e0] at q
 simp only [spec_l12Gen, q, Option.bind_some]
theorem told_eq {x y : Int} (hp : p.length ≤ 1048576) : impl_told (p, x, y) = some ((toldM p x y : Nat) : Int) := by
 have q := lp_det (S := impl_told_s58) (fun i => (x, y, ((toldM (p.take i) x y : Nat) : Int), p, (p.length : Int), (i : Int))) hp (b := ((toldM p x y : Nat) : Int)) (fun s hs => by
  have hl := toldM_le (p.take s) x y
  have hl2 : (p.take s).length ≤ s := by simp; omega
  simp only [impl_told_s58, ltn hs, Option.bind_some, cond_true, ixn hs, gxn, wsucc (show s ≤ 1048576 by omega)]
  rw [take_snoc ou0 hs, toldM_snoc]
  generalize hx : p.getD s (0, 0, 0, [], 0, 0, 0, 0, [], [], []) = u
  have hx' : p.getD s ou0 = u := hx
  obtain ⟨u0, u1, u2, u3⟩ := u
  simp only
  cases h1 : u1 == x
  ·simp
  ·cases h2 : u2 == y
   ·simp
   ·simp [w64_ok (n := ((toldM (p.take s) x y : Nat) : Int) + 1) (by omega) (by omega)]) (by simp only [impl_told_s58, ltF, cond_false, List.take_length])
 have e0 : ((toldM (p.take 0) x y : Nat) : Int) = 0 := by simp [toldM]
 rw [cast0, e0] at q
 simp only [impl_told, lnn, q, Option.bind_some]
def rootE (o : List EnT) : Bool := (List.range o.length).all fun s => enOk (o.getD s en0) && (decide (s = 0) || aheadB (o.getD (s - 1) en0) (o.getD s en0))
def outE (p : List OuT) : Bool := (List.range p.length).all fun s => enOk (p.getD s ou0).2 && decide ((p.getD s ou0).1 = toldM (p.take s) (p.getD s ou0).2.1 (p.getD s ou0).2.2.1)
theorem all_and {q r : Nat → Bool} {t : List Nat} : (t.all fun x => q x && r x) = (t.all q && t.all r) := by
 induction t with
 | nil => rfl
 | cons x t ih => simp only [List.all_cons, ih]; cases q x <;> cases r x <;> cases t.all q <;> simp
theorem rootE_eq (o : List EnT) : rootE o = (o.all enOk && rootIn o) := by
 unfold rootE rootIn
 rw [all_and, all_range en0 enOk o]
theorem outE_eq (p : List OuT) : outE p = ((p.map (·.2)).all enOk && gensIn p) := by
 unfold outE gensIn
 rw [all_and, all_range ou0 (fun u => enOk u.2) p, List.all_map]
 rfl
theorem specRoot_eq (ho : EnsLe 1048576 o) (hp : OutsLe 1048576 p) : spec_l12Root (a, b, c, d, e, f, g, h, i, j, k, l, m, n, o, p) = some (rootE o && outE p) := by
 have q1 := lp_idx (S := spec_l12Root_s26) (t := .inr (a, b, c, d, e, f, g, h, i, j, k, l, m, n, o, p)) (e := .inl false) (fun q => ((a, b, c, d, e, f, g, h, i, j, k, l, m, n, o, p), (q : Int))) ho.1 (fun s => enOk (o.getD s en0) && (decide (s = 0) || aheadB (o.getD (s - 1) en0) (o.getD s en0))) (fun s hs => by
  have he := specEntryOk_eq (ho.2 _ (getD_mem (d := en0) hs))
  have hl := ho.1
  simp only [spec_l12Root_s26, lnn, ltn hs, Option.bind_some, cond_true, ixn hs, gxn, wsucc (show s ≤ 1048576 by omega)]
  generalize hx : o.getD s (0, 0, [], 0, 0, 0, 0, [], [], []) = x
  have hx' : o.getD s en0 = x := hx
  rw [hx'] at he
  obtain ⟨x1, x2, x3, x4, x5, x6, x7, x8, x9, x10⟩ := x
  simp only [he, Option.bind_some]
  cases enOk (x1, x2, x3, x4, x5, x6, x7, x8, x9, x10)
  ·rfl
  ·simp only [Bool.not_true, cond_false, Bool.true_and]
   by_cases hz : s = 0
   ·rw [dF (show ¬ (s : Int) > 0 by omega), dT hz]; rfl
   ·rw [dT (show (s : Int) > 0 by omega), dF hz]
    simp only [cond_true, wpred (show 0 < s by omega) (show s ≤ 1048576 by omega), ixn (show s - 1 < o.length by omega), gxn]
    generalize hy : o.getD (s - 1) (0, 0, [], 0, 0, 0, 0, [], [], []) = y
    have hy' : o.getD (s - 1) en0 = y := hy
    obtain ⟨y1, y2, y3, y4, y5, y6, y7, y8, y9, y10⟩ := y
    simp only [aheadB, Bool.false_or, bif_dec, beq_cond]
    by_cases h1 : x1 < y1
    ·rw [if_pos h1, dF (show ¬ y1 < x1 by omega)]
     have : (y1 == x1) = false := by simp; omega
     rw [this]; rfl
    ·rw [if_neg h1]
     by_cases h2 : x1 = y1
     ·subst h2
      rw [if_pos rfl, dF (show ¬ x1 < x1 by omega)]
      simp only [beq_self_eq_true, Bool.true_and, Bool.false_or]
      by_cases h3 : x2 ≤ y2
      ·rw [if_pos h3, dF (show ¬ y2 < x2 by omega)]; rfl
      ·rw [if_neg h3, dT (show y2 < x2 by omega)]; rfl
     ·rw [if_neg h2, dT (show y1 < x1 by omega)]; rfl) (by simp only [spec_l12Root_s26, lnn, ltF, Option.bind_some, cond_false])
 have q2 := lp_idx (S := spec_l12Root_s58) (t := .inr ()) (e := .inl false) (fun q => ((a, b, c, d, e, f, g, h, i, j, k, l, m, n, o, p), (q : Int))) hp.1 (fun s => enOk (p.getD s ou0).2 && decide ((p.getD s ou0).1 = toldM (p.take s) (p.getD s ou0).2.1 (p.getD s ou0).2.2.1)) (fun s hs => by
  have he := specEntryOk_eq (hp.2 _ (getD_mem (d := ou0) hs))
  have hl := hp.1
  have hlen : (p.take s).length ≤ 1048576 := by simp; omega
  simp only [spec_l12Root_s58, lnn, ltn hs, Option.bind_some, cond_true, ixn hs, gxn, wsucc (show s ≤ 1048576 by omega), Int.toNat_natCast]
  generalize hx : p.getD s (0, 0, 0, [], 0, 0, 0, 0, [], [], []) = x
  have hx' : p.getD s ou0 = x := hx
  rw [hx'] at he
  obtain ⟨x0, x1, x2, x3, x4, x5, x6, x7, x8, x9, x10⟩ := x
  simp only at he
  simp only [he, Option.bind_some]
  cases enOk (x1, x2, x3, x4, x5, x6, x7, x8, x9, x10)
  ·rfl
  ·simp only [Bool.not_true, cond_false, Bool.true_and]
   rw [g0_ok (by omega), chkD (by omega), l12Gen_eq hlen, Option.bind_some, bne_cond]
   by_cases h1 : x0 = ((toldM (p.take s) x1 x2 : Nat) : Int)
   ·rw [if_pos h1, dT h1]; rfl
   ·rw [if_neg h1, dF h1]; rfl) (by simp only [spec_l12Root_s58, lnn, ltF, Option.bind_some, cond_false])
 rw [cast0] at q1 q2
 unfold rootE outE
 simp only [spec_l12Root, q1]
 cases ((List.range o.length).all fun s => enOk (o.getD s en0) && (decide (s = 0) || aheadB (o.getD (s - 1) en0) (o.getD s en0)))
 ·rfl
 ·simp only [cond_true, bx_inr, q2]
  cases ((List.range p.length).all fun s => enOk (p.getD s ou0).2 && decide ((p.getD s ou0).1 = toldM (p.take s) (p.getD s ou0).2.1 (p.getD s ou0).2.2.1)) <;> rfl
def allM (l : List (List (List EnT))) (o : List EnT) (p : List OuT) : List EnT := l.flatten.flatten ++ (o ++ p.map (·.2))
theorem flatten_snoc {α : Type} (l : List (List α)) (x : List α) : (l ++ [x]).flatten = l.flatten ++ x := by simp
theorem flatten_take_le {α : Type} (l : List (List α)) (i : Nat) : (l.take i).flatten.length ≤ l.flatten.length := by
 have : l.flatten = (l.take i).flatten ++ (l.drop i).flatten := by rw [← List.flatten_append, List.take_append_drop]
 rw [this]; simp
theorem row_bound {q : Nat} (hq : q < l.length) : (l.take q).flatten.flatten.length + (l.getD q []).flatten.length ≤ l.flatten.flatten.length := by
 have h1 := flatten_take_le l.flatten ((l.take (q + 1)).flatten.length)
 have e : l.flatten.take ((l.take (q + 1)).flatten.length) = (l.take (q + 1)).flatten := by
  have : l.flatten = (l.take (q + 1)).flatten ++ (l.drop (q + 1)).flatten := by rw [← List.flatten_append, List.take_append_drop]
  rw [this, List.take_left']
  rfl
 rw [e, take_snoc [] hq, flatten_snoc, List.flatten_append, List.length_append] at h1
 exact h1
theorem specAll_eq (hl : l.length ≤ 1048576) (hll : ∀ r ∈ l, r.length ≤ 1048576) (ht : (allM l o p).length ≤ 1048576) : spec_l12All (a, b, c, d, e, f, g, h, i, j, k, l, m, n, o, p) = some (allM l o p) := by
 unfold allM at ht ⊢
 rw [List.length_append, List.length_append, List.length_map] at ht
 have inner : ∀ q, q < l.length → lp spec_l12All_s3730 ((a, b, c, d, e, f, g, h, i, j, k, l, m, n, o, p), (l.take q).flatten.flatten, (q : Int), 0) = some ((a, b, c, d, e, f, g, h, i, j, k, l, m, n, o, p), (l.take (q + 1)).flatten.flatten, (q : Int)) := by
  intro q hq
  have hb := row_bound hq
  have hrl := hll _ (getD_mem (d := []) hq)
  have qq := lp_det (S := spec_l12All_s3730) (fun s => ((a, b, c, d, e, f, g, h, i, j, k, l, m, n, o, p), (l.take q).flatten.flatten ++ ((l.getD q []).take s).flatten, (q : Int), (s : Int))) hrl (b := ((a, b, c, d, e, f, g, h, i, j, k, l, m, n, o, p), (l.take q).flatten.flatten ++ (l.getD q []).flatten, (q : Int))) (fun s hs => by
   have hb2 := flatten_take_le (l.getD q []) (s + 1)
   rw [take_snoc [] hs, flatten_snoc, List.length_append] at hb2
   simp only [spec_l12All_s3730, lnn, ixn hq, gxn, Option.bind_some, ltn hs, cond_true, ixn hs, wsucc (show s ≤ 1048576 by omega)]
   rw [fitsC (by simp only [List.length_append]; omega) (by omega), take_snoc [] hs, flatten_snoc, List.append_assoc]) (by simp only [spec_l12All_s3730, lnn, ixn hq, gxn, Option.bind_some, ltF, cond_false, List.take_length])
  rw [cast0, List.take_zero, List.flatten_nil, List.append_nil] at qq
  rw [qq, take_snoc [] hq, flatten_snoc, List.flatten_append]
 have q1 := lp_det (S := spec_l12All_s58) (fun q => ((a, b, c, d, e, f, g, h, i, j, k, l, m, n, o, p), (l.take q).flatten.flatten, (q : Int))) hl (b := ((a, b, c, d, e, f, g, h, i, j, k, l, m, n, o, p), l.flatten.flatten)) (fun q hq => by
  simp only [spec_l12All_s58, lnn, ltn hq, Option.bind_some, cond_true, inner q hq, wsucc (show q ≤ 1048576 by omega)]) (by simp only [spec_l12All_s58, lnn, ltF, Option.bind_some, cond_false, List.take_length])
 have q2 := lp_det (S := spec_l12All_s250) (fun s => ((a, b, c, d, e, f, g, h, i, j, k, l, m, n, o, p), l.flatten.flatten ++ o ++ (p.take s).map (·.2), (s : Int))) (n := p.length) (by omega) (b := l.flatten.flatten ++ o ++ p.map (·.2)) (fun s hs => by
  simp only [spec_l12All_s250, lnn, ltn hs, Option.bind_some, cond_true, ixn hs, gxn, wsucc (show s ≤ 1048576 by omega)]
  rw [take_snoc ou0 hs, List.map_append]
  generalize hx : p.getD s (0, 0, 0, [], 0, 0, 0, 0, [], [], []) = x
  have hx' : p.getD s ou0 = x := hx
  obtain ⟨x0, x1, x2, x3, x4, x5, x6, x7, x8, x9, x10⟩ := x
  simp only
  rw [fitsC (by simp only [List.length_append, List.length_map, List.length_take, List.length_singleton]; omega) (by omega), List.append_assoc (l.flatten.flatten ++ o)]
  rfl) (by simp only [spec_l12All_s250, lnn, ltF, Option.bind_some, cond_false, List.take_length])
 rw [cast0, List.take_zero] at q1 q2
 have e1 : ([] : List (List (List EnT))).flatten.flatten = [] := rfl
 rw [e1] at q1
 rw [List.map_nil, List.append_nil] at q2
 simp only [spec_l12All, q1, Option.bind_some]
 rw [fitsC (by omega) (by omega), q2, Option.bind_some, List.append_assoc]
theorem implRowEntries_eq (hl : l.length ≤ 1048576) (hll : ∀ r ∈ l, r.length ≤ 1048576) (ht : l.flatten.flatten.length ≤ 1048576) : impl_rowEntries (a, b, c, d, e, f, g, h, i, j, k, l, m, n, o, p) = some l.flatten.flatten := by
 have inner : ∀ q, q < l.length → lp impl_rowEntries_s14950 ((l.take q).flatten.flatten, l, (l.length : Int), (q : Int), l.getD q [], ((l.getD q []).length : Int), 0) = some ((l.take (q + 1)).flatten.flatten, l, (l.length : Int), (q : Int)) := by
  intro q hq
  have hb := row_bound hq
  have hrl := hll _ (getD_mem (d := []) hq)
  have qq := lp_det (S := impl_rowEntries_s14950) (fun s => ((l.take q).flatten.flatten ++ ((l.getD q []).take s).flatten, l, (l.length : Int), (q : Int), l.getD q [], ((l.getD q []).length : Int), (s : Int))) hrl (b := ((l.take q).flatten.flatten ++ (l.getD q []).flatten, l, (l.length : Int), (q : Int))) (fun s hs => by
   have hb2 := flatten_take_le (l.getD q []) (s + 1)
   rw [take_snoc [] hs, flatten_snoc, List.length_append] at hb2
   simp only [impl_rowEntries_s14950, gxn, Option.bind_some, ltn hs, cond_true, ixn hs, wsucc (show s ≤ 1048576 by omega)]
   rw [fitsC (by simp only [List.length_append]; omega) (by omega), take_snoc [] hs, flatten_snoc, List.append_assoc]) (by simp only [impl_rowEntries_s14950, ltF, cond_false, List.take_length])
  rw [cast0, List.take_zero, List.flatten_nil, List.append_nil] at qq
  rw [qq, take_snoc [] hq, flatten_snoc, List.flatten_append]
 have q1 := lp_det (S := impl_rowEntries_s58) (fun q => ((l.take q).flatten.flatten, l, (l.length : Int), (q : Int))) hl (b := l.flatten.flatten) (fun q hq => by
  simp only [impl_rowEntries_s58, lnn, ltn hq, Option.bind_some, cond_true, ixn hq, gxn, inner q hq, wsucc (show q ≤ 1048576 by omega)]) (by simp only [impl_rowEntries_s58, ltF, cond_false, List.take_length])
 rw [cast0, List.take_zero] at q1
 have e1 : ([] : List (List (List EnT))).flatten.flatten = [] := rfl
 rw [e1] at q1
 simp only [impl_rowEntries, lnn, q1, Option.bind_some]
theorem implAdded_eq (ht : o.length + p.length ≤ 1048576) : impl_added (a, b, c, d, e, f, g, h, i, j, k, l, m, n, o, p) = some (o ++ p.map (·.2)) := by
 have q2 := lp_det (S := impl_added_s58) (fun s => (o ++ (p.take s).map (·.2), p, (p.length : Int), (s : Int))) (n := p.length) (by omega) (b := o ++ p.map (·.2)) (fun s hs => by
  simp only [impl_added_s58, ltn hs, Option.bind_some, cond_true, ixn hs, gxn, wsucc (show s ≤ 1048576 by omega)]
  rw [take_snoc ou0 hs, List.map_append]
  generalize hx : p.getD s (0, 0, 0, [], 0, 0, 0, 0, [], [], []) = x
  have hx' : p.getD s ou0 = x := hx
  obtain ⟨x0, x1, x2, x3, x4, x5, x6, x7, x8, x9, x10⟩ := x
  simp only
  rw [fitsC (by simp only [List.length_append, List.length_map, List.length_take, List.length_singleton]; omega) (by omega), List.append_assoc]
  rfl) (by simp only [impl_added_s58, ltF, Option.bind_some, cond_false, List.take_length])
 rw [cast0, List.take_zero, List.map_nil, List.append_nil] at q2
 simp only [impl_added, lnn, q2, Option.bind_some]
 rw [fitsC (by omega) (by omega)]
def tk (k : List SeT) (i : Nat) : List SpT := (List.range i).flatMap fun a => (k.getD a se0).2.2.1.map fun s => (100 * (a : Int) + s.1, 100 * (a : Int) + s.2)
theorem tk_succ (k : List SeT) (i : Nat) : tk k (i + 1) = tk k i ++ (k.getD i se0).2.2.1.map fun s => (100 * (i : Int) + s.1, 100 * (i : Int) + s.2) := by
 unfold tk
 rw [List.range_succ, List.flatMap_append]
 simp
def TkOk (k : List SeT) : Prop := ∀ s ∈ k, setOk s.2.2.1 = true ∧ ∀ x ∈ s.2.2.1, 1 ≤ x.1 ∧ x.2 ≤ 60
theorem mem_tkmap {k : List SeT} (hk : TkOk k) {q : Nat} (hq : q < k.length) {t : List SpT} (ht : ∀ x ∈ t, x ∈ (k.getD q se0).2.2.1) (h3 : q < 3) : ∀ x ∈ t.map (fun s : SpT => (100 * (q : Int) + s.1, 100 * (q : Int) + s.2)), x.1 ≤ x.2 ∧ 0 ≤ x.1 ∧ x.2 ≤ 260 := by
 intro x hx
 obtain ⟨y, hy, rfl⟩ := List.mem_map.1 hx
 have h1 := hk _ (getD_mem (d := se0) hq)
 have h2 := h1.2 y (ht y hy)
 have h4 := (setOk_iff.1 h1.1).1.mem y (ht y hy)
 simp only
 omega
theorem tk_rng {k : List SeT} (hk : TkOk k) : ∀ q, q ≤ k.length → q ≤ 3 → ∀ x ∈ tk k q, x.1 ≤ x.2 ∧ 0 ≤ x.1 ∧ x.2 ≤ 260
 | 0, _, _, x, hx => by simp [tk] at hx
 | q + 1, h1, h2, x, hx => by
  rw [tk_succ] at hx
  rcases List.mem_append.1 hx with hx | hx
  ·exact tk_rng hk q (by omega) (by omega) x hx
  ·exact mem_tkmap hk (by omega : q < k.length) (fun x hx => hx) (by omega) x hx
theorem tk_len {k : List SeT} (hk : TkOk k) : ∀ q, q ≤ k.length → (tk k q).length ≤ 5001 * q
 | 0, _ => by simp [tk]
 | q + 1, h1 => by
  rw [tk_succ, List.length_append, List.length_map]
  have := tk_len hk q (by omega)
  have := set_len (hk _ (getD_mem (d := se0) (show q < k.length by omega))).1
  omega
theorem putN {t : List SpT} {x : SpT} (ht : ∀ y ∈ t, y.1 ≤ y.2 ∧ 0 ≤ y.1 ∧ y.2 ≤ 260) (hx : x.1 ≤ x.2 ∧ 0 ≤ x.1 ∧ x.2 ≤ 260) : spec_l5Put (nrm t, x) = some (nrm (t ++ [x])) := by
 have hc := (nrm_ok fun y hy => (ht y hy).1).1
 have hb := nrm_rng ht
 have hl := canon_len (a := 0) (b := 260) hc hb
 rw [put_eq (by omega) ⟨hx.2.1, hx.1, by omega⟩ hc (fun y hy => ⟨(hb y hy).1, by have := (hb y hy).2; omega⟩)]
 have := putsS_nrm (l := [x]) hc (fun y hy => by simp at hy; rw [hy]; exact hx.1)
 simp only [List.foldl_cons, List.foldl_nil] at this
 rw [this, nrm_app (fun y hy => (ht y hy).1) (fun y hy => by simp at hy; rw [hy]; exact hx.1)]
theorem specTaken_eq (hk : TkOk k) (h3 : k.length = 3) : spec_l12Taken (a, b, c, d, e, f, g, h, i, j, k, l, m, n, o, p) = some (nrm (tk k 3)) := by
 have inner : ∀ q, q < 3 → lp spec_l12Taken_s3730 ((a, b, c, d, e, f, g, h, i, j, k, l, m, n, o, p), nrm (tk k q), (q : Int), 0) = some ((a, b, c, d, e, f, g, h, i, j, k, l, m, n, o, p), nrm (tk k (q + 1)), (q : Int)) := by
  intro q hq
  have hqk : q < k.length := by omega
  have hsl := set_len (hk _ (getD_mem (d := se0) hqk)).1
  have qq := lp_det (S := spec_l12Taken_s3730) (fun s => ((a, b, c, d, e, f, g, h, i, j, k, l, m, n, o, p), nrm (tk k q ++ (((k.getD q se0).2.2.1.take s).map fun s => (100 * (q : Int) + s.1, 100 * (q : Int) + s.2))), (q : Int), (s : Int))) (n := (k.getD q se0).2.2.1.length) (by omega) (b := ((a, b, c, d, e, f, g, h, i, j, k, l, m, n, o, p), nrm (tk k (q + 1)), (q : Int))) (fun s hs => by
   have hmem := getD_mem (d := (0, 0)) hs
   have hp := putN (t := tk k q ++ (((k.getD q se0).2.2.1.take s).map fun s => (100 * (q : Int) + s.1, 100 * (q : Int) + s.2))) (x := (100 * (q : Int) + ((k.getD q se0).2.2.1.getD s (0, 0)).1, 100 * (q : Int) + ((k.getD q se0).2.2.1.getD s (0, 0)).2)) (fun y hy => (List.mem_append.1 hy).elim (tk_rng hk q (by omega) (by omega) y) (mem_tkmap hk hqk (fun x hx => List.mem_of_mem_take hx) hq y))
    (mem_tkmap hk hqk (t := [(k.getD q se0).2.2.1.getD s (0, 0)]) (fun x hx => by simp only [List.mem_singleton] at hx; rw [hx]; exact hmem) hq _ (by simp))
   have hr := (hk _ (getD_mem (d := se0) hqk)).2 _ hmem
   have hr2 := (setOk_iff.1 (hk _ (getD_mem (d := se0) hqk)).1).1.mem _ hmem
   clear hmem
   simp only [spec_l12Taken_s3730, lnn, ixn hqk, gxn, Option.bind_some]
   rw [take_snoc (0, 0) hs, List.map_append, ← List.append_assoc]
   generalize hx : k.getD q (0, 0, [], 0, 0) = z
   have hx' : k.getD q se0 = z := hx
   rw [hx'] at hp hr hr2 hs hsl
   obtain ⟨z1, z2, z3, z4, z5⟩ := z
   simp only at hp hr hr2 hs hsl ⊢
   simp only [ltn hs, cond_true, ixn hs, wsucc (show s ≤ 1048576 by omega), List.map_cons, List.map_nil]
   rw [w64_ok (n := 100 * (q : Int)) (by omega) (by omega), w64_ok (by omega) (by omega), w64_ok (by omega) (by omega), hp, Option.bind_some]) (by
   simp only [spec_l12Taken_s3730, lnn, ixn hqk, gxn, Option.bind_some, ltF, cond_false, List.take_length, tk_succ])
  rw [cast0, List.take_zero, List.map_nil, List.append_nil] at qq
  exact qq
 have q1 := lp_det (S := spec_l12Taken_s58) (fun q => ((a, b, c, d, e, f, g, h, i, j, k, l, m, n, o, p), nrm (tk k q), (q : Int))) (n := 3) (by omega) (b := nrm (tk k 3)) (fun q hq => by
  simp only [spec_l12Taken_s58, lnn, ltn (show q < k.length by omega), cond_true, inner q hq, Option.bind_some, wsucc (show q ≤ 1048576 by omega)]) (by rw [← h3]; simp only [spec_l12Taken_s58, lnn, ltF, cond_false])
 have e : nrm (tk k 0) = [] := by simp [tk, nrm]
 rw [cast0, e] at q1
 simp only [spec_l12Taken, q1, Option.bind_some]
theorem list_eq_of {x y : List SpT} (h : x.length = y.length) : (List.range x.length).all (fun i => decide (x.getD i (0, 0) = y.getD i (0, 0))) = decide (x = y) := by
 rw [Bool.eq_iff_iff, decide_eq_true_eq]
 simp only [List.all_eq_true, List.mem_range, decide_eq_true_eq]
 constructor
 ·intro q
  refine List.ext_getElem h fun i h1 h2 => ?_
  have := q i h1
  rw [getD_get h1, getD_get h2] at this
  exact this
 ·rintro rfl i _; rfl
theorem beq_pair (u v : SpT) : ((u.1 == v.1) && ((u.2 == v.2) && true)) = decide (u = v) := by
 rw [Bool.eq_iff_iff, decide_eq_true_eq, Bool.and_true, Bool.and_eq_true, beq_iff_eq, beq_iff_eq]
 exact ⟨fun q => Prod.ext q.1 q.2, fun q => by rw [q]; exact ⟨rfl, rfl⟩⟩
theorem l5Same_eq {x y : List SpT} (hx : x.length ≤ 1048576) : spec_l5Same (x, y) = some (decide (x = y)) := by
 simp only [spec_l5Same, lnn, bne_cond]
 by_cases hc : x.length = y.length
 ·have q := lp_idx (S := spec_l5Same_s58) (t := .inr ()) (e := .inl false) (fun q => (x, y, (q : Int))) hx (fun i => decide (x.getD i (0, 0) = y.getD i (0, 0))) (fun s hs => by
   simp only [spec_l5Same_s58, lnn, ltn hs, cond_true, ixn hs, ixn (show s < y.length by omega), gxn, Option.bind_some, wsucc (show s ≤ 1048576 by omega), beq_pair]
   cases decide (x.getD s (0, 0) = y.getD s (0, 0)) <;> rfl) (by simp only [spec_l5Same_s58, lnn, ltF, cond_false])
  rw [cast0] at q
  rw [if_pos (by omega), q, list_eq_of hc]
  cases decide (x = y) <;> rfl
 ·rw [if_neg (by omega), dF (fun z => hc (by rw [z]))]
theorem eqSp_eq {x y : List SpT} (hx : x.length ≤ 1048576) : impl_Span__136 (x, y) = some (decide (x = y)) := by
 simp only [impl_Span__136, lnn, bne_cond]
 by_cases hc : x.length = y.length
 ·have q := lp_idx (S := impl_Span__136_s58) (t := .inr ()) (e := .inl false) (fun q => (x, y, (x.length : Int), (q : Int))) hx (fun i => decide (x.getD i (0, 0) = y.getD i (0, 0))) (fun s hs => by
   simp only [impl_Span__136_s58, lnn, ltn hs, cond_true, ixn hs, ixn (show s < y.length by omega), gxn, Option.bind_some, wsucc (show s ≤ 1048576 by omega), beq_pair]
   cases decide (x.getD s (0, 0) = y.getD s (0, 0)) <;> rfl) (by simp only [impl_Span__136_s58, ltF, cond_false])
  rw [cast0] at q
  rw [if_pos (by omega), q, list_eq_of hc]
  cases decide (x = y) <;> rfl
 ·rw [if_neg (by omega), dF (fun z => hc (by rw [z]))]
theorem setHas_eq {s : List SpT} {x : Int} (hs : s.length ≤ 1048576) : impl_SetHas (s, x) = some (hasB s x) := by
 have q := lp_find (S := impl_Span__s26) (t := .inr ()) (fun i => (s, ((x, ()), ()), (s.length : Int), (i : Int))) hs (fun i => inR x (s.getD i (0, 0)).1 (s.getD i (0, 0)).2) (fun i => .inl (i : Int)) (fun i hi => by
  simp only [impl_Span__s26, impl_SetHas_1, ltn hi, cond_true, ixn hi, gxn, Option.bind_some, within_eq, wsucc (show i ≤ 1048576 by omega)]
  cases inR x (s.getD i (0, 0)).1 (s.getD i (0, 0)).2 <;> rfl) (by simp only [impl_Span__s26, ltF, cond_false])
 rw [cast0] at q
 simp only [impl_SetHas, impl_Span__189, impl_Span_, lnn, q]
 have e : hasB s x = ((List.range s.length).find? (fun i => inR x (s.getD i (0, 0)).1 (s.getD i (0, 0)).2)).isSome := by
  rw [Bool.eq_iff_iff, hasB_iff, List.find?_isSome]
  unfold hasN
  constructor
  ·rintro ⟨y, hy, h1, h2⟩
   obtain ⟨i, hi, rfl⟩ := List.mem_iff_getElem.1 hy
   exact ⟨i, List.mem_range.2 hi, by rw [getD_get hi]; exact inR_iff.2 ⟨h1, h2⟩⟩
  ·intro z
   obtain ⟨i, hi, h1⟩ := z
   have hi := List.mem_range.1 hi
   exact ⟨_, getD_mem hi, inR_iff.1 h1⟩
 rw [e]
 cases hq : (List.range s.length).find? (fun i => inR x (s.getD i (0, 0)).1 (s.getD i (0, 0)).2) with
 | none => rfl
 | some i => simp
end
end Go.Proofs.YtkegollaleklaaaGreat.Tw
