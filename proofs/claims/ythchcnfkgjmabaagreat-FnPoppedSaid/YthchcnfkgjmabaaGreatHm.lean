/- Plain: marks of spans, rows of rows, entries. No condition: lemmas. -/
import Derived.Test.YthchcnfkgjmabaaGreatHe
namespace Go.Proofs.YthchcnfkgjmabaaGreat.Tw
open Go.Mach
set_option linter.unusedVariables false
set_option linter.unusedSimpArgs false
set_option maxRecDepth 20000

theorem bind_cond {α β : Type} (b : Bool) (x y : Option α) (f : α → Option β) : (bif b then x else y).bind f = bif b then x.bind f else y.bind f := by cases b <;> rfl
theorem getD_set_same {α : Type} {l : List α} {i : Nat} (v d : α) (h : i < l.length) : (l.set i v).getD i d = v := by
  simp [List.getD_eq_getElem?_getD, h]
theorem neg1 : decide ((-1 : Int) < 0) = true := rfl

/-! ### spans -/
def markSp (p : SpT × Int) : Option (Int × SpT) := some (w64 (w64 (p.2 + 1) + 1), (p.2, w64 (p.2 + 1)))
def heldSp (p : SpT × Int) : Option Int := bif p.1.1 != p.2 then some (-1) else bif p.1.2 != w64 (p.2 + 1) then some (-1) else some (w64 (w64 (p.2 + 1) + 1))
theorem marksSp (x : SpT) : Marks markSp heldSp 2 x := by
  intro k h0 h1
  have e1 : w64 (k + 1) = k + 1 := w64_ok (by omega) (by omega)
  have e2 : w64 (k + 1 + 1) = k + 2 := by rw [w64_ok (by omega) (by omega)]; omega
  refine ⟨(k, k + 1), ?_, ?_⟩
  · simp only [markSp, e1, e2]; rfl
  · simp only [heldSp, e1, e2, bne_self_eq_false, cond_false]; rfl

theorem marksSpanS {l : List SpT} (hl : l.length ≤ 1048576) : Marks laws_markSpanS laws_heldSpanS (sumL (fun _ => 2) l) l := by
  have := marks_list (S := laws_markSpanS_s26) (T := laws_heldSpanS_s26) (mark := markSp) (held := heldSp) (sz := fun _ => 2) (0, 0) hl (fun x _ => marksSp x) ((), (), ()) (fun k i c hi hc => by
    simp only [laws_markSpanS_s26, markSp, lnn, ltn hi, cond_true, ixn hi, lxn hi, gxn, sxn, List.length_set, getD_set_same _ _ hi, List.set_set, Option.bind_some, wsucc (show i ≤ 1048576 by omega)]) (fun k c => by simp only [laws_markSpanS_s26, lnn, ltF, cond_false])
    (fun k r i c hi hc e hr => by
      obtain ⟨a1, e⟩ := held_no e hr
      obtain ⟨a2, e⟩ := held_no e hr
      simp only [Option.some.injEq] at e a1 a2
      simp only [laws_heldSpanS_s26, lnn, ltn hi, cond_true, ixn hi, gxn, wsucc (show i ≤ 1048576 by omega), Option.bind_some, a1, a2, cond_false, e]) (fun k c => by simp only [laws_heldSpanS_s26, lnn, ltF, cond_false])
  exact this

theorem marksIntSS {l : List (List Int)} (h : SmIntSS l) : Marks laws_markIntSS laws_heldIntSS (sumL (fun r => r.length) l) l := by
  obtain ⟨hl, hr⟩ := h
  have := marks_list (S := laws_markIntSS_s26) (T := laws_heldIntSS_s26) [] hl (fun r hm => marksIntS (hr r hm)) ((), (), ()) (fun k i c hi hc => by simp only [laws_markIntSS_s26, lnn, ltn hi, cond_true, ixn hi, lxn hi, gxn, sxn, wsucc (show i ≤ 1048576 by omega)]) (fun k c => by simp only [laws_markIntSS_s26, lnn, ltF, cond_false])
    (fun k r i c hi hc e hr => by simp only [laws_heldIntSS_s26, lnn, ltn hi, cond_true, ixn hi, gxn, e, Option.bind_some, dF (show ¬ r < 0 by omega), cond_false, wsucc (show i ≤ 1048576 by omega)]) (fun k c => by simp only [laws_heldIntSS_s26, lnn, ltF, cond_false])
  exact this

/-! ### entries -/
def markEn (p : EnT × Int) : Option (Int × EnT) :=
  (laws_markSpanS (p.1.2.2.1, w64 (w64 (p.2 + 1) + 1))).bind fun a => (laws_markIntS (p.1.2.2.2.2.2.2.2.1, w64 (w64 (w64 (w64 (a.1 + 1) + 1) + 1) + 1))).bind fun b => (laws_markIntS (p.1.2.2.2.2.2.2.2.2.1, b.1)).bind fun c => (laws_markIntSS (p.1.2.2.2.2.2.2.2.2.2, c.1)).bind fun d =>
    some (d.1, (p.2, w64 (p.2 + 1), a.2, a.1, w64 (a.1 + 1), w64 (w64 (a.1 + 1) + 1), w64 (w64 (w64 (a.1 + 1) + 1) + 1), b.2, c.2, d.2))
def heldEn (p : EnT × Int) : Option Int :=
  bif p.1.1 != p.2 then some (-1) else bif p.1.2.1 != w64 (p.2 + 1) then some (-1) else (laws_heldSpanS (p.1.2.2.1, w64 (w64 (p.2 + 1) + 1))).bind fun a => bif decide (a < 0) then some (-1) else
    bif p.1.2.2.2.1 != a then some (-1) else bif p.1.2.2.2.2.1 != w64 (a + 1) then some (-1) else bif p.1.2.2.2.2.2.1 != w64 (w64 (a + 1) + 1) then some (-1) else bif p.1.2.2.2.2.2.2.1 != w64 (w64 (w64 (a + 1) + 1) + 1) then some (-1) else
    (laws_heldIntS (p.1.2.2.2.2.2.2.2.1, w64 (w64 (w64 (w64 (a + 1) + 1) + 1) + 1))).bind fun b => bif decide (b < 0) then some (-1) else (laws_heldIntS (p.1.2.2.2.2.2.2.2.2.1, b)).bind fun c => bif decide (c < 0) then some (-1) else
    (laws_heldIntSS (p.1.2.2.2.2.2.2.2.2.2, c)).bind fun d => bif decide (d < 0) then some (-1) else some d
def szSk (s : SkT) : Nat := s.2.2.2.2.1.length + s.2.2.2.2.2.1.length + sumL (fun r => r.length) s.2.2.2.2.2.2
def szEn (e : EnT) : Nat := 6 + sumL (fun _ => 2) e.2.2.1 + szSk e.2.2.2

theorem marksEn {e : EnT} (h : EnLe 1048576 e) : Marks markEn heldEn (szEn e) e := by
  obtain ⟨x1, x2, x3, x4, x5, x6, x7, x8, x9, x10⟩ := e
  obtain ⟨h1, h2, h3, h4⟩ := h
  intro k k0 k1
  simp only [szEn, szSk] at k1 h1 h2 h3 h4 ⊢
  have hh4 : SmIntSS x10 := h4
  generalize hn : sumL (fun r : List Int => r.length) x10 = n at k1 ⊢
  generalize hm : sumL (fun _ : SpT => 2) x3 = m at k1 ⊢
  have e1 : w64 (k + 1) = k + 1 := w64_ok (by omega) (by omega)
  have e2 : w64 (k + 1 + 1) = k + 2 := by rw [w64_ok (by omega) (by omega)]; omega
  obtain ⟨a, a1, a2⟩ := marksSpanS h1 (k + 2) (by omega) (by omega)
  rw [hm] at a1 a2
  generalize hp : k + 2 + (m : Int) = p at a1 a2
  have e3 : w64 (p + 1) = p + 1 := w64_ok (by omega) (by omega)
  have e4 : w64 (p + 1 + 1) = p + 2 := by rw [w64_ok (by omega) (by omega)]; omega
  have e5 : w64 (p + 2 + 1) = p + 3 := by rw [w64_ok (by omega) (by omega)]; omega
  have e6 : w64 (p + 3 + 1) = p + 4 := by rw [w64_ok (by omega) (by omega)]; omega
  obtain ⟨b, b1, b2⟩ := marksIntS h2 (p + 4) (by omega) (by omega)
  obtain ⟨c, c1, c2⟩ := marksIntS h3 (p + 4 + x8.length) (by omega) (by omega)
  obtain ⟨d, d1, d2⟩ := marksIntSS hh4 (p + 4 + x8.length + x9.length) (by omega) (by omega)
  rw [hn] at d1 d2
  have hfin : p + 4 + (x8.length : Int) + (x9.length : Int) + (n : Int) = k + ((6 + m + (x8.length + x9.length + n) : Nat) : Int) := by omega
  refine ⟨(k, k + 1, a, p, p + 1, p + 2, p + 3, b, c, d), ?_, ?_⟩
  · simp only [markEn, e1, e2, a1, Option.bind_some, e3, e4, e5, e6, b1, c1, d1, hfin]
  · have g1 : decide (p < 0) = false := dF (by omega)
    have g2 : decide (p + 4 + (x8.length : Int) < 0) = false := dF (by omega)
    have g3 : decide (p + 4 + (x8.length : Int) + (x9.length : Int) < 0) = false := dF (by omega)
    have g4 : decide (k + ((6 + m + (x8.length + x9.length + n) : Nat) : Int) < 0) = false := dF (by omega)
    simp only [heldEn, e1, e2, a2, bne_self_eq_false, cond_false, Option.bind_some, g1, e3, e4, e5, e6, b2, g2, c2, g3, d2, g4, hfin]

theorem marksEntryS {l : List EnT} (h : EnsLe 1048576 l) : Marks laws_markEntryS laws_heldEntryS (sumL szEn l) l := by
  obtain ⟨hl, hr⟩ := h
  have := marks_list (S := laws_markEntryS_s26) (T := laws_heldEntryS_s26) (mark := markEn) (held := heldEn) en0 hl (fun r hm => marksEn (hr r hm)) ((), (), ()) (fun k i c hi hc => by
    simp only [laws_markEntryS_s26, markEn, lnn, ltn hi, Option.bind_some, cond_true, ixn hi, lxn hi, gxn, sxn, List.length_set, getD_set_same _ _ hi, List.set_set, wsucc (show i ≤ 1048576 by omega), Option.bind_assoc]) (fun k c => by simp only [laws_markEntryS_s26, lnn, ltF, Option.bind_some, cond_false])
    (fun k r i c hi hc e hr => by
      generalize hx : c.getD i en0 = x at e
      obtain ⟨x1, x2, x3, x4, x5, x6, x7, x8, x9, x10⟩ := x
      obtain ⟨a1, e⟩ := held_no e hr
      obtain ⟨a2, e⟩ := held_no e hr
      obtain ⟨y1, a3, a4, e⟩ := held_on e hr
      obtain ⟨a5, e⟩ := held_no e hr
      obtain ⟨a6, e⟩ := held_no e hr
      obtain ⟨a7, e⟩ := held_no e hr
      obtain ⟨a8, e⟩ := held_no e hr
      obtain ⟨y2, a9, b1, e⟩ := held_on e hr
      obtain ⟨y3, b2, b3, e⟩ := held_on e hr
      obtain ⟨y4, b4, b5, e⟩ := held_on e hr
      simp only [Option.some.injEq] at e
      subst e
      simp only at a1 a2 a3 a5 a6 a7 a8 a9 b2 b4
      have hx' : c.getD i (0, 0, [], 0, 0, 0, 0, [], [], []) = (x1, x2, x3, x4, x5, x6, x7, x8, x9, x10) := hx
      simp only [laws_heldEntryS_s26, lnn, ltn hi, Option.bind_some, cond_true, ixn hi, gxn, hx', a1, a2, a3, a4, a5, a6, a7, a8, a9, b1, b2, b3, b4, b5, cond_false, wsucc (show i ≤ 1048576 by omega)]) (fun k c => by simp only [laws_heldEntryS_s26, lnn, ltF, Option.bind_some, cond_false])
  exact this

end Go.Proofs.YthchcnfkgjmabaaGreat.Tw
