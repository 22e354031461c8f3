/- Plain: deeds read from texts, two ways; FnExactDeedOf. No condition: lemmas. -/
import Derived.Test.YtmlbgldofgobnaaDoorDt
import Derived.Test.YtmlbgldofgobnaaDoorPa
namespace Go.Mach
set_option linter.unusedVariables false
theorem cutA_sum (c : UInt8) : ∀ (l p : List UInt8), sumL (fun x : List UInt8 => x.length) (cutA c p l) + (cutA c p l).length = p.length + l.length + 1
  | [], p => by simp [cutA, sumL]
  | b :: l, p => by
    unfold cutA
    split
    · have := cutA_sum c l []
      simp only [sumL, List.length_cons, List.length_nil] at this ⊢
      omega
    · have := cutA_sum c l (p ++ [b])
      simp only [List.length_append, List.length_cons, List.length_nil] at this ⊢
      omega
end Go.Mach
namespace Go.Proofs.YtmlbgldofgobnaaDoor.Tw
open Go.Mach
set_option linter.unusedVariables false
set_option linter.unusedSimpArgs false
set_option maxRecDepth 20000

/-! ### parts -/
theorem specParts_eq {s : List UInt8} (hs : s.length ≤ 1048576) (c : UInt8) {b : Int} (hb : b = (c.toNat : Int)) : spec_Parts (s, b) = some (cutA c [] s) := by
  have key : ∀ (k i m : Nat) (out : List (List UInt8)) (f : Nat), i + k = s.length → m ≤ i → out.length ≤ i → k + 1 < f → iter spec_Parts_s122 f (s, b, out, (m : Int), (i : Int)) = some (out ++ cutA c ((s.take i).drop m) (s.drop i)) := by
    intro k
    induction k with
    | zero =>
      intro i m out f hi hm ho hf
      obtain rfl : i = s.length := by omega
      match f, hf with
      | f + 2, _ =>
        have h1 : decide ((s.length : Int) ≤ ln s) = true := dT (by simp only [lnn]; omega)
        have h2 : ((s.length : Int) == ln s) = true := by simp
        simp only [iter, spec_Parts_s122, h1, h2, cond_true, g0]
        rw [chkD (by omega), chkD (by omega)]
        simp only [Int.toNat_natCast]
        rw [chkD (by omega), fitsC (by simp only [List.length_singleton]; omega) (by omega), wsucc (by omega)]
        have h3 : decide ((((s.length + 1 : Nat) : Int)) ≤ ln s) = false := dF (by simp only [lnn]; omega)
        simp only [h3, cond_false]
        rw [List.drop_length]
        rfl
    | succ k ih =>
      intro i m out f hi hm ho hf
      match f, hf with
      | f + 1, hf =>
        have hil : i < s.length := by omega
        have h1 : decide ((i : Int) ≤ ln s) = true := dT (by simp only [lnn]; omega)
        have h2 : ((i : Int) == ln s) = false := by rw [beq_eq_false_iff_ne]; simp only [lnn]; omega
        have hd : s.drop i = s.getD i 0 :: s.drop (i + 1) := drop_cons 0 hil
        have ht : (s.take (i + 1)).drop m = (s.take i).drop m ++ [s.getD i 0] := by
          rw [take_snoc 0 hil, List.drop_append_of_le_length (by rw [List.length_take]; omega)]
        simp only [iter, spec_Parts_s122, h1, h2, cond_true, cond_false, ixn hil, Int.toNat_natCast, g0]
        rw [hd]
        have e0 : (Int.ofNat (UInt8.toNat (s.getD i 0)) == b) = decide (s.getD i 0 = c) := by
          rw [hb, Bool.eq_iff_iff, beq_iff_eq, decide_eq_true_eq, ← UInt8.toNat_inj]
          show ((UInt8.toNat (s.getD i 0) : Nat) : Int) = _ ↔ _
          omega
        rw [e0]
        unfold cutA
        by_cases hc : s.getD i 0 = c
        · simp only [hc, decide_true, cond_true, if_true]
          rw [chkD (by omega), chkD (by omega), chkD (by omega), fitsC (by simp only [List.length_singleton]; omega) (by omega), wsucc (by omega)]
          try simp only
          rw [ih (i + 1) (i + 1) _ f (by omega) (by omega) (by simp; omega) (by omega)]
          have : (s.take (i + 1)).drop (i + 1) = [] := List.drop_eq_nil_of_le (by rw [List.length_take]; omega)
          rw [this, List.append_assoc]
          rfl
        · simp only [hc, decide_false, cond_false, if_false]
          rw [wsucc (by omega)]
          try simp only
          rw [ih (i + 1) m _ f (by omega) (by omega) (by omega) (by omega), ht]
  have q := key s.length 0 0 [] bigN (by omega) (by omega) (by simp) (by simp only [bigN]; omega)
  have q' : lp spec_Parts_s122 (s, b, [], 0, 0) = some ([] ++ cutA c ((s.take 0).drop 0) (s.drop 0)) := q
  simp only [spec_Parts, q', Option.bind_some]
  rfl
theorem implParts_eq {s : List UInt8} (hs : s.length ≤ 1048576) (c : UInt8) {b : Int} (hb : b = (c.toNat : Int)) : impl_Parts (s, b) = some (cutA c [] s) := by
  have e : (List.map (fun n : Int => UInt8.ofNat (Int.toNat n)) [b]) = [c] := by
    rw [hb]
    simp
  simp only [impl_Parts, e, strings_Split]
  rw [if_pos ⟨by simp, by omega⟩, splitK_one]
  rfl

/-! ### numbers of a line -/
def numF (s : List UInt8) : Int × Bool := (spec_Number s).getD (0, false)
theorem specNum (s : List UInt8) (hs : s.length ≤ 1048576) : spec_Number s = some (numF s) := by
  obtain ⟨n, g, e1, e2⟩ := specNumber_eq s hs
  rw [numF, e1]; rfl
theorem implNum (s : List UInt8) (hs : s.length ≤ 1048576) : impl_Number s = some (numF s) := by
  obtain ⟨n, g, e1, e2⟩ := specNumber_eq s hs
  rw [numF, e1, e2]; rfl
theorem numF_nil : numF [] = (0, false) := rfl
def nm : List (List UInt8) → List Int → Option (List Int)
  | [], acc => some acc
  | x :: r, acc => if (numF x).2 then nm r (acc ++ [(numF x).1]) else none
theorem nm_len : ∀ {w : List (List UInt8)} {acc l : List Int}, nm w acc = some l → l.length = acc.length + w.length ∧ w.length ≤ sumL (fun x : List UInt8 => x.length) w
  | [], acc, l, h => by simp only [nm, Option.some.injEq] at h; subst h; simp [sumL]
  | x :: r, acc, l, h => by
    simp only [nm] at h
    split at h
    · rename_i hx
      obtain ⟨h1, h2⟩ := nm_len h
      have hne : 1 ≤ x.length := by
        cases x with
        | nil => rw [numF_nil] at hx; cases hx
        | cons _ _ => simp
      simp only [List.length_append, List.length_singleton, List.length_cons, List.length_nil, sumL] at h1 ⊢
      omega
    · simp at h
theorem go_nm {β : Type} (e : β) (out : List Int → β) : ∀ (w : List (List UInt8)) (acc : List Int), goL (fun acc x => if (numF x).2 then (.inl (acc ++ [(numF x).1]) : List Int ⊕ β) else .inr e) out w acc = (match nm w acc with | some l => out l | none => e)
  | [], acc => rfl
  | x :: r, acc => by
    simp only [goL, nm]
    cases h : (numF x).2 with
    | true => simp only [if_true]; exact go_nm e out r _
    | false => simp

/-! ### a deed -/
def dOf (s : List UInt8) : DeedT × Bool := match nm (cutA 32 [] s) [] with
  | none => (deed0, false)
  | some l => if l.length < 5 then (deed0, false) else if deedT (l.getD 0 0, l.getD 1 0, l.getD 2 0, l.getD 3 0, l.getD 4 0, l.drop 5) = s then ((l.getD 0 0, l.getD 1 0, l.getD 2 0, l.getD 3 0, l.getD 4 0, l.drop 5), true) else (deed0, false)

theorem nm_small {s : List UInt8} (hs : s.length ≤ 1048576) {l : List Int} (h : nm (cutA 32 [] s) [] = some l) : l.length ≤ 524289 ∧ s ≠ [] := by
  obtain ⟨h1, h2⟩ := nm_len h
  have h3 := cutA_sum 32 s []
  refine ⟨by simp only [List.length_nil] at h1 h3; omega, fun q => ?_⟩
  subst q
  simp [cutA, nm, numF_nil] at h
theorem dOf_le {s : List UInt8} (hs : s.length ≤ 1048576) : (dOf s).1.2.2.2.2.2.length ≤ 1000000 := by
  unfold dOf
  cases h : nm (cutA 32 [] s) [] with
  | none => simp
  | some l =>
    have := (nm_small hs h).1
    simp only
    split
    · simp
    · split
      · simp only [List.length_drop]; omega
      · simp

theorem specDeedOf_eq {s : List UInt8} (hs : s.length ≤ 1048576) : spec_DeedOf s = some (dOf s) := by
  have hcl := cutA_len 32 s []
  have hcp : ∀ x ∈ cutA 32 [] s, x.length ≤ 1048576 := fun x hx => by have := cutA_piece 32 s [] x hx; simp at this; omega
  simp only [spec_DeedOf, specParts_eq hs 32 (b := 32) rfl, Option.bind_some]
  unfold dOf
  generalize hw : cutA 32 [] s = w at hcl hcp ⊢
  have q := lp_go_from (S := spec_DeedOf_s122) w [] (fun (acc : List Int) i => (s, (0, 0, 0, 0, 0, ()), w, acc, (i : Int))) (fun acc x => if (numF x).2 then .inl (acc ++ [(numF x).1]) else .inr (.inl ((0, 0, 0, 0, 0, ()), false))) (fun acc => .inr (s, (0, 0, 0, 0, 0, ()), acc)) (fun acc i => acc.length = i)
    (fun acc i hi hI hm => by
      simp only [spec_DeedOf_s122, lnn, ltn hi, cond_true, ixn hi, lxn hi, gxn, specNum _ (hcp _ hm), Option.bind_some, wsucc (show i ≤ 1048576 by omega)]
      generalize numF (w.getD i []) = v
      obtain ⟨n, g⟩ := v
      cases g with
      | false => exact ⟨rfl, fun a h => by simp at h⟩
      | true =>
        simp only [Bool.not_true, cond_false, if_true]
        rw [fitsC (by simp only [List.length_singleton]; omega) (by omega)]
        exact ⟨rfl, fun a h => by simp only [Sum.inl.injEq] at h; rw [← h]; simp; omega⟩) (fun acc hI => by simp only [spec_DeedOf_s122, lnn, ltF, cond_false]) bigN 0 [] rfl (Nat.zero_le _) (by simp only [bigN]; omega)
  rw [List.drop_zero, go_nm] at q
  have q' : lp spec_DeedOf_s122 (s, (0, 0, 0, 0, 0, ()), w, [], 0) = _ := q
  rw [q']
  cases hn : nm w [] with
  | none => rfl
  | some l =>
    rw [← hw] at hn
    obtain ⟨h1, h2⟩ := nm_small hs hn
    simp only [bx, Option.bind_some, Sum.elim_inr, lnn, bif_dec]
    by_cases h5 : l.length < 5
    · rw [if_pos (by omega), if_pos h5]
    · rw [if_neg (by omega), if_neg h5, chkD (by omega), chkD (by omega), chkD (by omega), chkD (by omega), chkD (by omega), chkD (by omega), chkD (by omega), chkD (by omega), chkD (by omega), chkD (by omega), chkD (by omega), fitsC (by rw [List.length_drop]; omega) (by omega)]
      simp only [List.nil_append]
      have ht := specDeedText_eq (d := (l.getD 0 0, l.getD 1 0, l.getD 2 0, l.getD 3 0, l.getD 4 0, l.drop 5)) (by simp only [List.length_drop]; omega)
      rw [ht]
      simp only [Option.bind_some]
      by_cases he : deedT (l.getD 0 0, l.getD 1 0, l.getD 2 0, l.getD 3 0, l.getD 4 0, l.drop 5) = s
      · rw [if_pos he, he, beq_self_eq_true]; rfl
      · rw [if_neg he, beq_eq_false_iff_ne.2 he]; rfl

theorem implDeedOf_eq {s : List UInt8} (hs : s.length ≤ 1048576) : impl_DeedOf s = some (dOf s) := by
  have hcl := cutA_len 32 s []
  have hcp : ∀ x ∈ cutA 32 [] s, x.length ≤ 1048576 := fun x hx => by have := cutA_piece 32 s [] x hx; simp at this; omega
  simp only [impl_DeedOf, implParts_eq hs 32 (b := 32) rfl, Option.bind_some]
  unfold dOf
  generalize hw : cutA 32 [] s = w at hcl hcp ⊢
  have q := lp_go_from (S := impl_DeedOf_s58) w [] (fun (acc : List Int) i => (s, (0, 0, 0, 0, 0, ()), acc, w, (w.length : Int), (i : Int))) (fun acc x => if (numF x).2 then .inl (acc ++ [(numF x).1]) else .inr (.inl ((0, 0, 0, 0, 0, ()), false))) (fun acc => .inr (s, (0, 0, 0, 0, 0, ()), acc)) (fun acc i => acc.length = i)
    (fun acc i hi hI hm => by
      simp only [impl_DeedOf_s58, ltn hi, cond_true, ixn hi, lxn hi, gxn, implNum _ (hcp _ hm), Option.bind_some, wsucc (show i ≤ 1048576 by omega)]
      generalize numF (w.getD i []) = v
      obtain ⟨n, g⟩ := v
      cases g with
      | false => exact ⟨rfl, fun a h => by simp at h⟩
      | true =>
        simp only [Bool.not_true, cond_false, if_true]
        rw [fitsC (by simp only [List.length_singleton]; omega) (by omega)]
        exact ⟨rfl, fun a h => by simp only [Sum.inl.injEq] at h; rw [← h]; simp; omega⟩) (fun acc hI => by simp only [impl_DeedOf_s58, ltF, cond_false]) bigN 0 [] rfl (Nat.zero_le _) (by simp only [bigN]; omega)
  rw [List.drop_zero, go_nm] at q
  have q' : lp impl_DeedOf_s58 (s, (0, 0, 0, 0, 0, ()), [], w, ln w, 0) = _ := q
  rw [q']
  cases hn : nm w [] with
  | none => rfl
  | some l =>
    rw [← hw] at hn
    obtain ⟨h1, h2⟩ := nm_small hs hn
    simp only [bx, Option.bind_some, Sum.elim_inr, lnn, bif_dec]
    by_cases h5 : l.length < 5
    · rw [if_pos (by omega), if_pos h5]
    · rw [if_neg (by omega), if_neg h5, chkD (by omega), chkD (by omega), chkD (by omega), chkD (by omega), chkD (by omega), chkD (by omega), chkD (by omega), chkD (by omega), chkD (by omega), chkD (by omega), chkD (by omega)]
      simp only [impl_copyInts]
      rw [fitsC (by rw [List.length_drop]; omega) (by omega)]
      have ht := implDeedText_eq (d := (l.getD 0 0, l.getD 1 0, l.getD 2 0, l.getD 3 0, l.getD 4 0, l.drop 5)) (by simp only [List.length_drop]; omega)
      simp only [Option.bind_some]
      rw [ht]
      simp only [Option.bind_some, lit_nil]
      by_cases he : deedT (l.getD 0 0, l.getD 1 0, l.getD 2 0, l.getD 3 0, l.getD 4 0, l.drop 5) = s
      · rw [if_pos he, he, beq_self_eq_true, beq_eq_false_iff_ne.2 h2]; rfl
      · rw [if_neg he, beq_eq_false_iff_ne.2 he]
        cases (deedT (l.getD 0 0, l.getD 1 0, l.getD 2 0, l.getD 3 0, l.getD 4 0, l.drop 5) == []) <;> rfl

/-! ### marks -/
theorem eqIntS_ok {l : List Int} (hl : l.length ≤ 1048576) : laws_eqIntS (l, l) = some true := by
  have h : lp laws_eqIntS_s58 (l, l, ((0 : Nat) : Int)) = some (.inr ()) := by
    refine lp_det (fun i => (l, l, (i : Int))) hl (fun i hi => ?_) ?_
    · simp only [laws_eqIntS_s58, lnn, ltn hi, cond_true, ixn hi, gxn, bne_self_eq_false, cond_false, wsucc (show i ≤ 1048576 by omega)]
    · simp only [laws_eqIntS_s58, lnn, ltF, cond_false]
  simp only [laws_eqIntS, bne_self_eq_false, cond_false]
  rw [cast0] at h
  rw [h]
  rfl
def mkOne (p : Int × Int) : Option (Int × Int) := some (w64 (p.2 + 1), p.2)
def hdOne (p : Int × Int) : Option Int := bif p.1 != p.2 then some (-1) else some (w64 (p.2 + 1))
theorem marksIntS {l : List Int} (hl : l.length ≤ 1048576) : Marks laws_markIntS laws_heldIntS (sumL (fun _ => 1) l) l := by
  have := marks_list (S := laws_markIntS_s26) (T := laws_heldIntS_s26) (mark := mkOne) (held := hdOne) (sz := fun _ => 1) 0 hl (fun x _ k h0 h1 => ⟨k, by simp only [mkOne]; rw [w64_ok (by omega) (by omega)]; rfl, by simp only [hdOne, bne_self_eq_false, cond_false]; rw [w64_ok (by omega) (by omega)]; rfl⟩) ((), (), ()) (fun k i c hi hc => by
    simp only [laws_markIntS_s26, mkOne, lnn, ltn hi, cond_true, ixn hi, lxn hi, sxn, Option.bind_some, wsucc (show i ≤ 1048576 by omega)]) (fun k c => by simp only [laws_markIntS_s26, lnn, ltF, cond_false])
    (fun k r i c hi hc e hr => by
      obtain ⟨a1, e⟩ := held_no e hr
      simp only [Option.some.injEq] at e a1
      simp only [laws_heldIntS_s26, lnn, ltn hi, cond_true, ixn hi, gxn, wsucc (show i ≤ 1048576 by omega), a1, cond_false, e]) (fun k c => by simp only [laws_heldIntS_s26, lnn, ltF, cond_false])
  exact this

/-- The law's twin answers true. -/
theorem law_deedOf (s : List UInt8) : laws_FnExactDeedOf s = some true := by
  simp only [laws_FnExactDeedOf, lnn, bif_dec]
  by_cases hl : s.length ≤ 1048576
  · rw [if_neg (by omega), specDeedOf_eq hl, implDeedOf_eq hl]
    have hle := dOf_le hl
    generalize dOf s = d at hle ⊢
    obtain ⟨⟨d1, d2, d3, d4, d5, d6⟩, g⟩ := d
    simp only at hle
    have hs : sumL (fun _ : Int => 1) d6 ≤ d6.length * 1 := sumL_le fun _ _ => Nat.le_refl _
    obtain ⟨z, m1, m2⟩ := marksIntS (l := d6) (by omega) 1 (by omega) (by omega)
    generalize sumL (fun _ : Int => 1) d6 = u at m1 m2
    have hq : ¬ (1 + (u : Int) < 0) := by omega
    simp only [Option.bind_some, laws_eqDeed, bne_self_eq_false, cond_false, eqIntS_ok (l := d6) (by omega), Bool.not_true, beq_self_eq_true, laws_markDeed, m1, laws_heldDeed, m2, dF hq, if_neg hq]
  · rw [if_pos (by omega)]

end Go.Proofs.YtmlbgldofgobnaaDoor.Tw
