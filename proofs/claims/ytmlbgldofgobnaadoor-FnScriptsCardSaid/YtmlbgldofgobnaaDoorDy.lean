/- Plain: rows of deeds as text; the law FnScripts. No condition: lemmas. -/
import Derived.Test.YtmlbgldofgobnaaDoorDx
namespace Go.Proofs.YtmlbgldofgobnaaDoor.Tw
open Go.Mach
set_option linter.unusedVariables false
set_option linter.unusedSimpArgs false
set_option maxRecDepth 20000

theorem chkL {R : Type} {n : Nat} (h : n ≤ 1099511627776) (k : Option R) : chk (decide (n ≤ 1099511627776)) k = k := chkD h k

theorem deedT_le (d : DeedT) : (deedT d).length ≤ 600 := by
  cases h : deedOk d with
  | false => rw [deedT_no h]; simp
  | true =>
    rw [deedT_ok h]
    have h1 := txt_le (deedOk_all h).2
    have h2 := (deedOk_all h).1
    have h3 : (dNums d).length = 5 + d.2.2.2.2.2.length := by simp only [dNums, List.length_append, List.length_cons, List.length_nil]
    omega
theorem linesT_le (l : List DeedT) : (linesT l).length ≤ 601 * l.length := by
  induction l with
  | nil => simp [linesT]
  | cons x l ih =>
    have h := deedT_le x
    have e : linesT (x :: l) = deedT x ++ [10] ++ linesT l := by simp [linesT]
    rw [e]
    simp only [List.length_append, List.length_cons, List.length_nil]
    omega
theorem linesT_snoc {l : List DeedT} {i : Nat} (h : i < l.length) : linesT (l.take (i + 1)) = linesT (l.take i) ++ (deedT (l.getD i deed0) ++ [10]) := by
  rw [take_snoc deed0 h, linesT, List.flatMap_append]
  simp [linesT]
theorem deedT_nil (d : DeedT) : (deedT d == []) = !(deedOk d) := by
  cases h : deedOk d with
  | false => rw [deedT_no h]; rfl
  | true => exact beq_eq_false_iff_ne.2 (deedT_ne h)

theorem specDeedsText_eq {l : List DeedT} (hl : l.length ≤ 1048576) (hr : ∀ d ∈ l, dLe d) : spec_DeedsText l = some (deedsT l) := by
  have q := lp_all (S := spec_DeedsText_s58) (t := .inr (linesT l)) (e := .inl []) l deed0 (fun i => (l, linesT (l.take i), (i : Int))) hl deedOk (fun i hi hm => by
    have h1 := linesT_le (l.take i)
    have h2 := deedT_le (l.getD i deed0)
    have h3 : (l.take i).length ≤ 1048576 := by rw [List.length_take]; omega
    have h4 := specDeedText_eq (d := l.getD i deed0) (Nat.le_trans (hr _ hm) (by omega))
    have h5 := deedT_nil (l.getD i deed0)
    rw [linesT_snoc hi]
    simp only [spec_DeedsText_s58, lnn, ltn hi, cond_true, ixn hi, gxn, Option.bind_some, lit_nil, lit_one, wsucc (show i ≤ 1048576 by omega)]
    generalize hx : l.getD i (0, 0, 0, 0, 0, []) = x
    have hx' : l.getD i deed0 = x := hx
    rw [hx'] at h2 h4 h5
    obtain ⟨x1, x2, x3, x4, x5, x6⟩ := x
    simp only [h4, Option.bind_some, h5]
    cases deedOk (x1, x2, x3, x4, x5, x6) with
    | false => rfl
    | true =>
      simp only [Bool.not_true, cond_false]
      rw [chkL (by omega), chkL (by simp only [List.length_append]; omega), List.append_assoc]
      rfl) (by simp only [spec_DeedsText_s58, lnn, ltF, cond_false, List.take_length])
  have e0 : linesT (l.take 0) = [] := rfl
  rw [cast0, e0] at q
  simp only [spec_DeedsText, lit_nil, q]
  unfold deedsT
  cases l.all deedOk <;> rfl

theorem implDeedsText_eq {l : List DeedT} (hl : l.length ≤ 1048576) (hr : ∀ d ∈ l, d.2.2.2.2.2.length ≤ 1048500) : impl_DeedsText l = some (deedsT l) := by
  have q := lp_all (S := impl_DeedsText_s58) (t := .inr (linesT l)) (e := .inl []) l deed0 (fun i => (linesT (l.take i), l, (l.length : Int), (i : Int))) hl deedOk (fun i hi hm => by
    have h1 := linesT_le (l.take i)
    have h2 := deedT_le (l.getD i deed0)
    have h3 : (l.take i).length ≤ 1048576 := by rw [List.length_take]; omega
    have h4 := implDeedText_eq (d := l.getD i deed0) (hr _ hm)
    have h5 := deedT_nil (l.getD i deed0)
    rw [linesT_snoc hi]
    simp only [impl_DeedsText_s58, ltn hi, cond_true, ixn hi, gxn, Option.bind_some, lit_nil, lit_one, wsucc (show i ≤ 1048576 by omega)]
    generalize hx : l.getD i (0, 0, 0, 0, 0, []) = x
    have hx' : l.getD i deed0 = x := hx
    rw [hx'] at h2 h4 h5
    obtain ⟨x1, x2, x3, x4, x5, x6⟩ := x
    simp only [h4, Option.bind_some, h5]
    cases deedOk (x1, x2, x3, x4, x5, x6) with
    | false => rfl
    | true =>
      simp only [Bool.not_true, cond_false]
      rw [chkL (by omega), chkL (by simp only [List.length_append, List.length_cons, List.length_nil]; omega)]
      rfl) (by simp only [impl_DeedsText_s58, ltF, cond_false, List.take_length])
  have e0 : linesT (l.take 0) = [] := rfl
  rw [cast0, e0] at q
  simp only [impl_DeedsText, lit_nil, lnn, q]
  unfold deedsT
  cases l.all deedOk <;> rfl

theorem sameInts_ok {l : List Int} (hl : l.length ≤ 1048576) : laws_sameInts (l, l) = some true := by
  have h : lp laws_sameInts_s58 (l, l, ((0 : Nat) : Int)) = some (.inr ()) := by
    refine lp_det (fun i => (l, l, (i : Int))) hl (fun i hi => ?_) ?_
    · simp only [laws_sameInts_s58, lnn, ltn hi, cond_true, ixn hi, gxn, wsucc (show i ≤ 1048576 by omega), bne_self_eq_false, cond_false]
    · simp only [laws_sameInts_s58, lnn, ltF, cond_false]
  rw [cast0] at h
  simp only [laws_sameInts, bne_self_eq_false, cond_false, h]
  rfl

theorem drawDeedOf_ok {a : List Int} (h : a.length ≤ 1048576) : ∃ t, spec_DrawDeedOf a = some t ∧ t.length ≤ 1048576 := by
  obtain ⟨⟨p, q, r⟩, e, h⟩ := l1New_ok h
  obtain ⟨⟨d1, d2, d3, d4, d5, d6⟩, ⟨p', q', r'⟩, e2, hd, h⟩ := l26Bent_ok h
  simp only at hd
  have h1 := deedT_le (d1, d2, d3, d4, d5, d6)
  have h4 := specDeedText_eq (d := (d1, d2, d3, d4, d5, d6)) (Nat.le_trans hd (by omega))
  simp only [spec_DrawDeedOf, e, Option.bind_some, e2, h4]
  generalize deedT (d1, d2, d3, d4, d5, d6) = n at h1
  rw [chkD (by omega)]
  obtain ⟨x, ⟨p, q, r⟩, e, x1, x2, h⟩ := below_ok h (n := 6) (by omega)
  simp only [e, Option.bind_some, lnn, List.length_map]
  cases x == 0 with
  | true =>
    simp only [cond_true]
    rw [w64_ok (by omega) (by omega)]
    obtain ⟨y, ⟨p, q, r⟩, e, y1, y2, h⟩ := below_ok h (n := (n.length : Int) + 1) (by omega)
    simp only [e, Option.bind_some]
    rw [g0_ok y1, chkD (by omega)]
    refine ⟨_, rfl, ?_⟩
    simp only [List.length_map, List.length_take]; omega
  | false =>
  simp only [cond_false]
  cases x == 1 with
  | true =>
    simp only [cond_true]
    rw [fitsC (by omega) (by omega)]
    refine ⟨_, rfl, ?_⟩
    simp only [List.length_map, List.length_append, List.length_cons, List.length_nil]; omega
  | false =>
  simp only [cond_false]
  cases x == 2 with
  | true =>
    simp only [cond_true]
    by_cases hn : (n.length : Int) > 0
    · rw [dT hn, cond_true]
      obtain ⟨y, ⟨p, q, r⟩, e, y1, y2, h⟩ := below_ok h (n := (n.length : Int)) (by omega)
      simp only [e, Option.bind_some]
      obtain ⟨z, ⟨p, q, r⟩, e, _, h⟩ := l1PickInt_ok h (l := [48, 32, 65, 10]) (by simp)
      simp only [e, Option.bind_some]
      rw [ix_ok y1 (by omega), lx_ok (by omega)]
      refine ⟨_, rfl, ?_⟩
      simp only [List.length_map, List.length_set]; omega
    · rw [dF hn, cond_false]
      refine ⟨_, rfl, ?_⟩
      simp only [List.length_map]; omega
  | false =>
    refine ⟨_, rfl, ?_⟩
    simp only [List.length_map]; omega

theorem scripts_tail {a : List Int} (h : a.length ≤ 1048576) : laws_FnScripts_l127 a = some true := by
  obtain ⟨t, e1, ht⟩ := drawDeedOf_ok h
  obtain ⟨l, e2, hl, hd⟩ := drawDeedsText_ok h
  have hk : (deedsT l).length ≤ 1048576 := by
    unfold deedsT
    split
    · have := linesT_le l; omega
    · simp
  have s1 := implDeedsText_eq (l := l) (by omega) (fun d hd' => Nat.le_trans (hd d hd') (by omega))
  have s2 := specDeedsText_eq (l := l) (by omega) (fun d hd' => Nat.le_trans (hd d hd') (by omega))
  have hback : ∃ b, dsOf (deedsT l) = (b, true) ∧ (deedsT l = [] → b = []) ∧ (deedsT l ≠ [] → b = l) := by
    unfold deedsT
    cases hq : l.all deedOk with
    | true =>
      rw [if_pos rfl]
      refine ⟨l, dsOf_lines hq, fun z => ?_, fun _ => rfl⟩
      cases l with
      | nil => rfl
      | cons x l => simp [linesT] at z
    | false =>
      rw [if_neg (by simp)]
      exact ⟨[], dsOf_nil, fun _ => rfl, fun z => absurd rfl z⟩
  obtain ⟨b, hb, hb0, hb1⟩ := hback
  have hdt : (dOf t).2 = true → deedT (dOf t).1 = t := dOf_text
  have hdl : (dOf t).2 = true → (dOf t).1.2.2.2.2.2.length ≤ 1048500 := fun z => by
    have h5 := hdt z
    cases hq : deedOk (dOf t).1 with
    | true => have := (deedOk_all hq).1; omega
    | false =>
      rw [deedT_no hq] at h5
      subst h5
      rw [dOf_nil] at z
      cases z
  simp only [laws_FnScripts_l127, e1, e2, s1, s2, implDeedOf_eq ht, specDeedOf_eq ht, implDeedsOf_eq hk, Option.bind_some, hb, lit_nil]
  generalize hdd : dOf t = y at hdt hdl
  obtain ⟨⟨y1, y2, y3, y4, y5, y6⟩, f⟩ := y
  simp only at hdt hdl
  have fin : (bif (deedsT l == []) then some ((ln b) == 0) else bif (ln b) == (ln l) then (impl_DeedsText b).bind fun w => some (w == deedsT l) else some false) = some true := by
    by_cases hz : deedsT l = []
    · rw [hz, hb0 hz]; rfl
    · rw [beq_eq_false_iff_ne.2 hz, cond_false, hb1 hz, beq_self_eq_true, cond_true, s1]
      simp
  cases f with
  | true =>
    have h6 := implDeedText_eq (d := (y1, y2, y3, y4, y5, y6)) (hdl rfl)
    have h7 := hdt rfl
    simp only [beq_self_eq_true, Bool.not_true, cond_false, cond_true, h6, Option.bind_some, h7]
    exact fin
  | false =>
    simp only [beq_self_eq_true, Bool.not_true, cond_false, Option.bind_some]
    exact fin

theorem law_scripts (a : List Int) : laws_FnScripts a = some true := by
  simp only [laws_FnScripts, laws_big, Option.bind_some, lnn]
  by_cases h : (a.length : Int) > 1048576
  · rw [dT h]; rfl
  · rw [dF h, cond_false]
    have h : a.length ≤ 1048576 := by omega
    obtain ⟨⟨d1, d2, d3, d4, d5, d6⟩, e, hd⟩ := drawDeedText_ok h
    simp only at hd
    have s1 := implDeedText_eq (d := (d1, d2, d3, d4, d5, d6)) (Nat.le_trans hd (by omega))
    have s2 := specDeedText_eq (d := (d1, d2, d3, d4, d5, d6)) (Nat.le_trans hd (by omega))
    have hle := deedT_le (d1, d2, d3, d4, d5, d6)
    simp only [e, Option.bind_some, s1, s2, implDeedOf_eq (s := deedT (d1, d2, d3, d4, d5, d6)) (by omega), scripts_tail h, lit_nil, deedT_nil, beq_self_eq_true, Bool.not_true, cond_false]
    cases hq : deedOk (d1, d2, d3, d4, d5, d6) with
    | true =>
      rw [dOf_deedT hq]
      simp only [Bool.not_true, Bool.not_false, beq_self_eq_true, cond_false, cond_true, bne_self_eq_false, sameInts_ok (l := d6) (by omega), Option.bind_some]
    | false =>
      rw [deedT_no hq, dOf_nil]
      rfl

end Go.Proofs.YtmlbgldofgobnaaDoor.Tw
