/- Plain: FnExactOutsOf. No condition: lemmas. -/
import Derived.Test.YtkegollaleklaaaOi
namespace Go.Proofs.Ytkegollaleklaaa.Tw
open Go.Mach
set_option linter.unusedVariables false
set_option linter.unusedSimpArgs false
set_option maxRecDepth 20000

theorem toByteS_ok {l : List Int} (hl : l.length ≤ 1048576) : laws_toByteS l = some l := by
  have h : lp laws_toByteS_s58 (l, cpy l 0 0, ((0 : Nat) : Int)) = some l := by
    refine lp_det (fun i => (l, cpy l 0 i, (i : Int))) hl (fun i hi => ?_) ?_
    · have h1 := cpy_length l 0 i (by omega)
      simp only [laws_toByteS_s58, lnn, ltn hi, cond_true, h1, ixn hi, lxn hi, gxn, sxn, wsucc (show i ≤ 1048576 by omega), cpy_set l 0 i hi]
    · simp only [laws_toByteS_s58, lnn, ltF, cond_false, cpy_all]
  rw [cpy_zero, cast0] at h
  simp only [laws_toByteS, lnn, Int.toNat_natCast]
  rw [chkD (by omega), h]
  rfl
theorem eqByteS_ok {l : List Int} (hl : l.length ≤ 1048576) : laws_eqByteS (l, l) = some true := by
  have h : lp laws_eqByteS_s58 (l, l, ((0 : Nat) : Int)) = some (.inr ()) := by
    refine lp_det (fun i => (l, l, (i : Int))) hl (fun i hi => ?_) ?_
    · simp only [laws_eqByteS_s58, lnn, ltn hi, cond_true, ixn hi, gxn, bne_self_eq_false, cond_false, wsucc (show i ≤ 1048576 by omega)]
    · simp only [laws_eqByteS_s58, lnn, ltF, cond_false]
  simp only [laws_eqByteS, bne_self_eq_false, cond_false]
  rw [cast0] at h
  rw [h]
  rfl
def markBy (p : Int × Int) : Option (Int × Int) := some (w64 (p.2 + 1), IntKind.wrap .u8 p.2)
theorem markByteS_ok {l : List Int} (hl : l.length ≤ 1048576) : Mrk laws_markByteS (sumL (fun _ => 1) l) l :=
  mark1_list (S := laws_markByteS_s26) (mark := markBy) 0 hl (fun r _ k h0 h1 => ⟨IntKind.wrap .u8 k, by simp only [markBy]; rw [w64_ok (by omega) (by omega)]; rfl⟩) ((), (), ()) (fun k i c hi hc => by
    simp only [laws_markByteS_s26, markBy, lnn, ltn hi, cond_true, ixn hi, lxn hi, sxn, Option.bind_some, wsucc (show i ≤ 1048576 by omega)]) (fun k c => by simp only [laws_markByteS_s26, lnn, ltF, cond_false])

theorem marksOutS {l : List OuT} (h : OutsLe 1048576 l) : Marks laws_markOutS laws_heldOutS (sumL (fun e => 1 + szEn e.2) l) l := by
  obtain ⟨hl, hr⟩ := h
  have := marks_list (S := laws_markOutS_s26) (T := laws_heldOutS_s26) (mark := markOu) (held := heldOu) ou0 hl (fun r hm => marksOu (hr r hm)) ((), (), ()) (fun k i c hi hc => by
    simp only [laws_markOutS_s26, markOu, markEn, lnn, ltn hi, Option.bind_some, cond_true, ixn hi, lxn hi, gxn, sxn, List.length_set, getD_set_same _ _ hi, List.set_set, wsucc (show i ≤ 1048576 by omega), Option.bind_assoc]) (fun k c => by simp only [laws_markOutS_s26, lnn, ltF, Option.bind_some, cond_false])
    (fun k r i c hi hc e hr => by
      generalize hx : c.getD i ou0 = x at e
      obtain ⟨x0, x1, x2, x3, x4, x5, x6, x7, x8, x9, x10⟩ := x
      obtain ⟨a0, e⟩ := held_no e hr
      obtain ⟨a1, e⟩ := held_no e hr
      obtain ⟨a2, e⟩ := held_no e hr
      obtain ⟨y1, a3, a4, e⟩ := held_on e hr
      obtain ⟨a5, e⟩ := held_no e hr
      obtain ⟨a6, e⟩ := held_no e hr
      obtain ⟨a7, e⟩ := held_no e hr
      obtain ⟨a8, e⟩ := held_no e hr
      obtain ⟨y2, a9, b1, e⟩ := held_on e hr
      obtain ⟨y3, b2, b3, e⟩ := held_on e hr
      obtain ⟨y4, b4, b5, e⟩ := held_on e hr
      simp only [Option.some.injEq] at e
      subst e
      simp only at a0 a1 a2 a3 a5 a6 a7 a8 a9 b2 b4
      have hx' : c.getD i (0, 0, 0, [], 0, 0, 0, 0, [], [], []) = (x0, x1, x2, x3, x4, x5, x6, x7, x8, x9, x10) := hx
      simp only [laws_heldOutS_s26, lnn, ltn hi, Option.bind_some, cond_true, ixn hi, gxn, hx', a0, a1, a2, a3, a4, a5, a6, a7, a8, a9, b1, b2, b3, b4, b5, cond_false, wsucc (show i ≤ 1048576 by omega)]) (fun k c => by simp only [laws_heldOutS_s26, lnn, ltF, Option.bind_some, cond_false])
  exact this

theorem szEn_ok {e : EnT} (h : EnOk e) (hn : e.2.2.1.length ≤ 1048576) : szEn e ≤ 2097200 := by
  have hs := h.sk
  obtain ⟨r0, r1, er, ⟨q0, _⟩, ⟨q1, _⟩⟩ := hs.rows
  have h1 := hs.hist.1
  have h2 := hs.regs.1
  have h3 : sumL (fun _ : SpT => 2) e.2.2.1 ≤ e.2.2.1.length * 2 := sumL_le fun _ _ => Nat.le_refl _
  have h4 : sumL (fun r : List Int => r.length) e.2.2.2.2.2.2.2.2.2 = r0.length + (r1.length + 0) := by rw [er]; rfl
  unfold szEn szSk
  omega

theorem bts_of_wf {l : List Int} (h : Wf (.list kB) l) : Bts l := fun v hv => by
  have h1 : (Lit.int .u8 v).wf = true := h.2 v hv
  simp only [Lit.wf, Bool.and_eq_true, decide_eq_true_eq] at h1
  exact ⟨h1.1, h1.2⟩

/-- The law's twin answers true. -/
theorem law_outsOf (a : List Int) (hb : Bts a) : laws_FnExactOutsOf a = some true := by
  simp only [laws_FnExactOutsOf, lnn, bif_dec]
  by_cases hl : a.length ≤ 1048576
  · rw [if_neg (by omega)]
    obtain ⟨x, g, e1, e2, hle, hok, hfew⟩ := of_same hb hl
    have hs : sumL (fun e : OuT => 1 + szEn e.2) x ≤ x.length * 2097201 := sumL_le fun o ho => by have := szEn_ok (hok o ho) (hle.2 o ho).1; omega
    obtain ⟨k, m1⟩ := markByteS_ok hl 1 (by omega) (by have : sumL (fun _ : Int => 1) a ≤ a.length * 1 := sumL_le fun _ _ => Nat.le_refl _; omega)
    obtain ⟨z, m2, m3⟩ := marksOutS hle 1 (by omega) (by omega)
    generalize sumL (fun _ : Int => 1) a = u at m1
    generalize sumL (fun e : OuT => 1 + szEn e.2) x = v at m2 m3
    simp only [toByteS_ok hl, e1, e2, Option.bind_some, eqOutS_ok hle, Bool.not_true, cond_false, beq_self_eq_true, eqByteS_ok hl, m1, m2, m3, if_neg (show ¬ (1 + ((u : Nat) : Int) < 0) by omega), if_neg (show ¬ (1 + ((v : Nat) : Int) < 0) by omega), bne_self_eq_false]
  · rw [if_pos (by omega)]

end Go.Proofs.Ytkegollaleklaaa.Tw
