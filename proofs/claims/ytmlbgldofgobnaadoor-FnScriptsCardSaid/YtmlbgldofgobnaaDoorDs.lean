/- Plain: rows of deeds read from texts; FnExactDeedsOf. No condition: lemmas. -/
import Derived.Test.YtmlbgldofgobnaaDoorDe
namespace Go.Proofs.YtmlbgldofgobnaaDoor.Tw
open Go.Mach
set_option linter.unusedVariables false
set_option linter.unusedSimpArgs false
set_option maxRecDepth 20000

def ds : List (List UInt8) → List DeedT → Option (List DeedT)
  | [], acc => some acc
  | x :: r, acc => if (dOf x).2 then ds r (acc ++ [(dOf x).1]) else none
theorem go_ds {β : Type} (e : β) (out : List DeedT → β) : ∀ (w : List (List UInt8)) (acc : List DeedT), goL (fun acc x => if (dOf x).2 then (.inl (acc ++ [(dOf x).1]) : List DeedT ⊕ β) else .inr e) out w acc = (match ds w acc with | some l => out l | none => e)
  | [], acc => rfl
  | x :: r, acc => by
    simp only [goL, ds]
    cases h : (dOf x).2 with
    | true => simp only [if_true]; exact go_ds e out r _
    | false => simp
def dLe (d : DeedT) : Prop := d.2.2.2.2.2.length ≤ 1000000
theorem ds_le : ∀ {w : List (List UInt8)} {acc l : List DeedT}, (∀ x ∈ w, x.length ≤ 1048576) → (∀ d ∈ acc, dLe d) → ds w acc = some l → l.length = acc.length + w.length ∧ ∀ d ∈ l, dLe d
  | [], acc, l, _, ha, h => by simp only [ds, Option.some.injEq] at h; subst h; exact ⟨by simp, ha⟩
  | x :: r, acc, l, hw, ha, h => by
    simp only [ds] at h
    split at h
    · obtain ⟨h1, h2⟩ := ds_le (fun y hy => hw y (List.mem_cons_of_mem _ hy)) (fun d hd => by
        simp only [List.mem_append, List.mem_singleton] at hd
        rcases hd with hd | rfl
        · exact ha d hd
        · exact dOf_le (hw x List.mem_cons_self)) h
      exact ⟨by simp at h1 ⊢; omega, h2⟩
    · simp at h

def dsOf (s : List UInt8) : List DeedT × Bool :=
  if (cutA 10 [] s).getD ((cutA 10 [] s).length - 1) [] = [] then (match ds ((cutA 10 [] s).take ((cutA 10 [] s).length - 1)) [] with | some l => (l, true) | none => ([], false)) else ([], false)

theorem take_getD {α : Type} {l : List α} {i n : Nat} {d : α} (h : i < n) : (l.take n).getD i d = l.getD i d := by
  simp [List.getD_eq_getElem?_getD, List.getElem?_take_of_lt h]

theorem specDeedsOf_eq {s : List UInt8} (hs : s.length ≤ 1048576) : spec_DeedsOf s = some (dsOf s) := by
  have hcl := cutA_len 10 s []
  have hcp : ∀ x ∈ cutA 10 [] s, x.length ≤ 1048576 := fun x hx => by have := cutA_piece 10 s [] x hx; simp at this; omega
  have hne := cutA_ne 10 s []
  simp only [spec_DeedsOf, specParts_eq hs 10 (b := 10) rfl, Option.bind_some]
  unfold dsOf
  generalize cutA 10 [] s = w at hcl hcp hne ⊢
  have hpos : 0 < w.length := List.length_pos_iff.2 hne
  have e1 : w64 (ln w - 1) = ((w.length - 1 : Nat) : Int) := by rw [w64_ok (by simp only [lnn]; omega) (by simp only [lnn]; omega)]; simp only [lnn]; omega
  have hlast : w.length - 1 < w.length := by omega
  simp only [e1, ixn hlast, lxn hlast, gxn, lit_nil]
  by_cases hz : w.getD (w.length - 1) [] = []
  · rw [if_pos hz, hz, beq_self_eq_true]
    simp only [Bool.not_true, cond_false]
    have htl : (w.take (w.length - 1)).length = w.length - 1 := by rw [List.length_take]; omega
    have q := lp_go_from (S := spec_DeedsOf_s250) (w.take (w.length - 1)) [] (fun (acc : List DeedT) i => (acc, w, (i : Int))) (fun acc x => if (dOf x).2 then .inl (acc ++ [(dOf x).1]) else .inr (.inl ([], false))) (fun acc => .inr acc) (fun acc i => acc.length = i)
      (fun acc i hi hI hm => by
        rw [htl] at hi
        have hil : i < w.length := by omega
        have hx := hcp _ (List.mem_of_mem_take hm)
        rw [take_getD hi] at hx ⊢
        have h1 : decide ((i : Int) < ((w.length - 1 : Nat) : Int)) = true := dT (by omega)
        simp only [spec_DeedsOf_s250, e1, h1, Option.bind_some, cond_true, ixn hil, lxn hil, gxn, specDeedOf_eq hx, wsucc (show i ≤ 1048576 by omega)]
        generalize dOf (w.getD i []) = v
        obtain ⟨⟨d1, d2, d3, d4, d5, d6⟩, g⟩ := v
        cases g with
        | false => exact ⟨rfl, fun a h => by simp at h⟩
        | true =>
          simp only [Bool.not_true, cond_false, if_true]
          rw [fitsC (by simp only [List.length_singleton]; omega) (by omega)]
          exact ⟨rfl, fun a h => by simp only [Sum.inl.injEq] at h; rw [← h]; simp; omega⟩) (fun acc hI => by
        have h1 : decide ((((w.take (w.length - 1)).length : Nat) : Int) < ((w.length - 1 : Nat) : Int)) = false := dF (by omega)
        simp only [spec_DeedsOf_s250, e1, h1, Option.bind_some, cond_false]) bigN 0 [] rfl (Nat.zero_le _) (by simp only [bigN]; omega)
    rw [List.drop_zero, go_ds] at q
    have q' : lp spec_DeedsOf_s250 ([], w, 0) = _ := q
    rw [q']
    cases ds (w.take (w.length - 1)) [] <;> rfl
  · rw [if_neg hz, beq_eq_false_iff_ne.2 hz]
    rfl

theorem implDeedsOf_eq {s : List UInt8} (hs : s.length ≤ 1048576) : impl_DeedsOf s = some (dsOf s) := by
  have hcl := cutA_len 10 s []
  have hcp : ∀ x ∈ cutA 10 [] s, x.length ≤ 1048576 := fun x hx => by have := cutA_piece 10 s [] x hx; simp at this; omega
  have hne := cutA_ne 10 s []
  simp only [impl_DeedsOf, implParts_eq hs 10 (b := 10) rfl, Option.bind_some]
  unfold dsOf
  generalize cutA 10 [] s = w at hcl hcp hne ⊢
  have hpos : 0 < w.length := List.length_pos_iff.2 hne
  have e1 : w64 (ln w - 1) = ((w.length - 1 : Nat) : Int) := by rw [w64_ok (by simp only [lnn]; omega) (by simp only [lnn]; omega)]; simp only [lnn]; omega
  have hlast : w.length - 1 < w.length := by omega
  simp only [e1, ixn hlast, lxn hlast, gxn, lit_nil, Int.toNat_natCast]
  by_cases hz : w.getD (w.length - 1) [] = []
  · rw [if_pos hz, hz, beq_self_eq_true]
    simp only [Bool.not_true, cond_false]
    unfold g0
    rw [chkD (by omega), chkD (by omega)]
    have htl : (w.take (w.length - 1)).length = w.length - 1 := by rw [List.length_take]; omega
    generalize hv : w.take (w.length - 1) = v at htl
    have hcv : ∀ x ∈ v, x.length ≤ 1048576 := fun x hx => hcp x (by rw [← hv] at hx; exact List.mem_of_mem_take hx)
    have q := lp_go_from (S := impl_DeedsOf_s250) v [] (fun (acc : List DeedT) i => (acc, v, (v.length : Int), (i : Int))) (fun acc x => if (dOf x).2 then .inl (acc ++ [(dOf x).1]) else .inr (.inl ((), false))) (fun acc => .inr acc) (fun acc i => acc.length = i)
      (fun acc i hi hI hm => by
        simp only [impl_DeedsOf_s250, ltn hi, Option.bind_some, cond_true, ixn hi, lxn hi, gxn, implDeedOf_eq (hcv _ hm), wsucc (show i ≤ 1048576 by omega)]
        generalize dOf (v.getD i []) = u
        obtain ⟨⟨d1, d2, d3, d4, d5, d6⟩, g⟩ := u
        cases g with
        | false => exact ⟨rfl, fun a h => by simp at h⟩
        | true =>
          simp only [Bool.not_true, cond_false, if_true]
          rw [fitsC (by simp only [List.length_singleton]; omega) (by omega)]
          exact ⟨rfl, fun a h => by simp only [Sum.inl.injEq] at h; rw [← h]; simp; omega⟩) (fun acc hI => by
        simp only [impl_DeedsOf_s250, ltF, cond_false]) bigN 0 [] rfl (Nat.zero_le _) (by simp only [bigN]; omega)
    rw [List.drop_zero, go_ds] at q
    have q' : lp impl_DeedsOf_s250 ([], v, ln v, 0) = _ := q
    rw [q']
    cases ds v [] <;> rfl
  · rw [if_neg hz, beq_eq_false_iff_ne.2 hz]
    rfl

/-! ### marks -/
theorem getD_set_same {α : Type} {l : List α} {i : Nat} (v d : α) (h : i < l.length) : (l.set i v).getD i d = v := by
  simp [List.getD_eq_getElem?_getD, h]
def markDe (p : DeedT × Int) : Option (Int × DeedT) := (laws_markIntS (p.1.2.2.2.2.2, w64 (w64 (w64 (w64 (w64 (p.2 + 1) + 1) + 1) + 1) + 1))).bind fun a => some (a.1, (p.2, w64 (p.2 + 1), w64 (w64 (p.2 + 1) + 1), w64 (w64 (w64 (p.2 + 1) + 1) + 1), w64 (w64 (w64 (w64 (p.2 + 1) + 1) + 1) + 1), a.2))
def heldDe (p : DeedT × Int) : Option Int := bif p.1.1 != p.2 then some (-1) else bif p.1.2.1 != w64 (p.2 + 1) then some (-1) else bif p.1.2.2.1 != w64 (w64 (p.2 + 1) + 1) then some (-1) else bif p.1.2.2.2.1 != w64 (w64 (w64 (p.2 + 1) + 1) + 1) then some (-1) else
  bif p.1.2.2.2.2.1 != w64 (w64 (w64 (w64 (p.2 + 1) + 1) + 1) + 1) then some (-1) else (laws_heldIntS (p.1.2.2.2.2.2, w64 (w64 (w64 (w64 (w64 (p.2 + 1) + 1) + 1) + 1) + 1))).bind fun a => bif decide (a < 0) then some (-1) else some a
theorem marksDe {d : DeedT} (h : dLe d) : Marks markDe heldDe (5 + sumL (fun _ => 1) d.2.2.2.2.2) d := by
  obtain ⟨d1, d2, d3, d4, d5, d6⟩ := d
  intro k h0 h1
  have hl : d6.length ≤ 1000000 := h
  simp only at h1 ⊢
  generalize hn : sumL (fun _ : Int => 1) d6 = n at h1 ⊢
  have e1 : w64 (k + 1) = k + 1 := w64_ok (by omega) (by omega)
  have e2 : w64 (k + 1 + 1) = k + 2 := by rw [w64_ok (by omega) (by omega)]; omega
  have e3 : w64 (k + 2 + 1) = k + 3 := by rw [w64_ok (by omega) (by omega)]; omega
  have e4 : w64 (k + 3 + 1) = k + 4 := by rw [w64_ok (by omega) (by omega)]; omega
  have e5 : w64 (k + 4 + 1) = k + 5 := by rw [w64_ok (by omega) (by omega)]; omega
  obtain ⟨z, m1, m2⟩ := marksIntS (l := d6) (by omega) (k + 5) (by omega) (by omega)
  rw [hn] at m1 m2
  have hfin : k + 5 + (n : Int) = k + ((5 + n : Nat) : Int) := by omega
  rw [hfin] at m1 m2
  have hneg : decide (k + ((5 + n : Nat) : Int) < 0) = false := dF (by omega)
  refine ⟨(k, k + 1, k + 2, k + 3, k + 4, z), ?_, ?_⟩
  · simp only [markDe, e1, e2, e3, e4, e5, m1, Option.bind_some]
  · simp only [heldDe, e1, e2, e3, e4, e5, m2, Option.bind_some, bne_self_eq_false, cond_false, hneg]
theorem marksDeedS {l : List DeedT} (hl : l.length ≤ 1048576) (hr : ∀ d ∈ l, dLe d) : Marks laws_markDeedS laws_heldDeedS (sumL (fun d => 5 + sumL (fun _ => 1) d.2.2.2.2.2) l) l := by
  have := marks_list (S := laws_markDeedS_s26) (T := laws_heldDeedS_s26) (mark := markDe) (held := heldDe) deed0 hl (fun r hm => marksDe (hr r hm)) ((), (), ()) (fun k i c hi hc => by
    simp only [laws_markDeedS_s26, markDe, lnn, ltn hi, Option.bind_some, cond_true, ixn hi, lxn hi, gxn, sxn, List.length_set, getD_set_same _ _ hi, List.set_set, wsucc (show i ≤ 1048576 by omega), Option.bind_assoc]) (fun k c => by simp only [laws_markDeedS_s26, lnn, ltF, Option.bind_some, cond_false])
    (fun k r i c hi hc e hr => by
      generalize hx : c.getD i deed0 = x at e
      obtain ⟨x1, x2, x3, x4, x5, x6⟩ := x
      obtain ⟨a1, e⟩ := held_no e hr
      obtain ⟨a2, e⟩ := held_no e hr
      obtain ⟨a3, e⟩ := held_no e hr
      obtain ⟨a4, e⟩ := held_no e hr
      obtain ⟨a5, e⟩ := held_no e hr
      obtain ⟨y, a6, a7, e⟩ := held_on e hr
      simp only [Option.some.injEq] at e
      subst e
      simp only at a1 a2 a3 a4 a5 a6
      have hx' : c.getD i (0, 0, 0, 0, 0, []) = (x1, x2, x3, x4, x5, x6) := hx
      simp only [laws_heldDeedS_s26, lnn, ltn hi, Option.bind_some, cond_true, ixn hi, gxn, hx', a1, a2, a3, a4, a5, a6, a7, cond_false, wsucc (show i ≤ 1048576 by omega)]) (fun k c => by simp only [laws_heldDeedS_s26, lnn, ltF, Option.bind_some, cond_false])
  exact this

theorem eqDeed_ok {d : DeedT} (h : dLe d) : laws_eqDeed (d, d) = some true := by
  obtain ⟨d1, d2, d3, d4, d5, d6⟩ := d
  have hl : d6.length ≤ 1000000 := h
  simp only [laws_eqDeed, bne_self_eq_false, cond_false, eqIntS_ok (l := d6) (by omega), Option.bind_some, Bool.not_true]
theorem eqDeedS_ok {l : List DeedT} (hl : l.length ≤ 1048576) (hr : ∀ d ∈ l, dLe d) : laws_eqDeedS (l, l) = some true := by
  have := same_list (S := laws_eqDeedS_s58) (eq := laws_eqDeed) (t := .inr ()) (e := .inl false) deed0 hl (fun r hm => eqDeed_ok (hr r hm)) (fun i hi => by
    simp only [laws_eqDeedS_s58, lnn, ltn hi, Option.bind_some, cond_true, ixn hi, gxn, bnot_cond, wsucc (show i ≤ 1048576 by omega)]) (by simp only [laws_eqDeedS_s58, lnn, ltF, Option.bind_some, cond_false])
  simp only [laws_eqDeedS, bne_self_eq_false, Option.bind_some, cond_false]
  rw [this]
  rfl

theorem dsOf_le {s : List UInt8} (hs : s.length ≤ 1048576) : (dsOf s).1.length ≤ 1048576 ∧ ∀ d ∈ (dsOf s).1, dLe d := by
  have hcl := cutA_len 10 s []
  have hcp : ∀ x ∈ cutA 10 [] s, x.length ≤ 1048576 := fun x hx => by have := cutA_piece 10 s [] x hx; simp at this; omega
  unfold dsOf
  split
  · cases h : ds ((cutA 10 [] s).take ((cutA 10 [] s).length - 1)) [] with
    | none => exact ⟨by simp, fun d hd => by simp at hd⟩
    | some l =>
      obtain ⟨h1, h2⟩ := ds_le (fun x hx => hcp x (List.mem_of_mem_take hx)) (fun d hd => by simp at hd) h
      rw [List.length_take] at h1
      exact ⟨by simp only [List.length_nil] at h1; simp only; omega, h2⟩
  · exact ⟨by simp, fun d hd => by simp at hd⟩

/-- The law's twin answers true. -/
theorem law_deedsOf (s : List UInt8) : laws_FnExactDeedsOf s = some true := by
  simp only [laws_FnExactDeedsOf, lnn, bif_dec]
  by_cases hl : s.length ≤ 1048576
  · rw [if_neg (by omega), specDeedsOf_eq hl, implDeedsOf_eq hl]
    obtain ⟨h1, h2⟩ := dsOf_le hl
    generalize dsOf s = v at h1 h2 ⊢
    obtain ⟨x, g⟩ := v
    simp only at h1 h2
    have hs : sumL (fun d : DeedT => 5 + sumL (fun _ : Int => 1) d.2.2.2.2.2) x ≤ x.length * 1000005 := sumL_le fun d hd => by
      have hd' : d.2.2.2.2.2.length ≤ 1000000 := h2 d hd
      have : sumL (fun _ : Int => 1) d.2.2.2.2.2 ≤ d.2.2.2.2.2.length * 1 := sumL_le fun _ _ => Nat.le_refl _
      omega
    obtain ⟨z, m1, m2⟩ := marksDeedS h1 h2 1 (by omega) (by omega)
    generalize sumL (fun d : DeedT => 5 + sumL (fun _ : Int => 1) d.2.2.2.2.2) x = u at m1 m2
    have hq : ¬ (1 + (u : Int) < 0) := by omega
    simp only [Option.bind_some, eqDeedS_ok h1 h2, Bool.not_true, cond_false, beq_self_eq_true, m1, m2, if_neg hq, bne_self_eq_false]
  · rw [if_pos (by omega)]

end Go.Proofs.YtmlbgldofgobnaaDoor.Tw
