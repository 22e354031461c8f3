/- Plain: marks of seats, turns, rows of rows, what is told, houses, and those who look at them. No condition: lemmas. -/
import Derived.Test.YtkegollaleklaaaGreatJi
namespace Go.Proofs.YtkegollaleklaaaGreat.Tw
open Go.Mach
set_option linter.unusedVariables false
set_option linter.unusedSimpArgs false
set_option maxRecDepth 20000
def heldSe (p : SeT × Int) : Option Int := bif p.1.1 != p.2 then some (-1) else bif p.1.2.1 != w64 (p.2 + 1) then some (-1) else (laws_heldSpanS (p.1.2.2.1, w64 (w64 (p.2 + 1) + 1))).bind fun a => bif decide (a < 0) then some (-1) else
 bif p.1.2.2.2.1 != a then some (-1) else bif p.1.2.2.2.2 != w64 (a + 1) then some (-1) else some (w64 (w64 (a + 1) + 1))
theorem marksSe {s : SeT} (h : s.2.2.1.length ≤ 1048576) : Marks markSe heldSe (4 + sumL (fun _ => 2) s.2.2.1) s := by
 intro k k0 k1
 have e1 : w64 (k + 1) = k + 1 := w64_ok (by omega) (by omega)
 have e2 : w64 (k + 1 + 1) = k + 2 := by rw [w64_ok (by omega) (by omega)]; omega
 obtain ⟨a, a1, a2⟩ := marksSpanS h (k + 2) (by omega) (by omega)
 generalize hm : sumL (fun _ : SpT => 2) s.2.2.1 = m at k1 a1 a2 ⊢
 have e3 : w64 (k + 2 + (m : Int) + 1) = k + 2 + m + 1 := w64_ok (by omega) (by omega)
 have e4 : w64 (k + 2 + (m : Int) + 1 + 1) = k + ((4 + m : Nat) : Int) := by rw [w64_ok (by omega) (by omega)]; omega
 have g1 : decide (k + 2 + (m : Int) < 0) = false := dF (by omega)
 refine ⟨(k, k + 1, a, k + 2 + m, k + 2 + m + 1), ?_, ?_⟩
 ·simp only [markSe, e1, e2, a1, Option.bind_some, e3, e4]
 ·simp only [heldSe, e1, e2, a2, Option.bind_some, bne_self_eq_false, cond_false, g1, e3, e4]
theorem marksSeatS {l : List SeT} (h : SesLe 1048576 l) : Marks laws_markSeatS laws_heldSeatS (sumL (fun s => 4 + sumL (fun _ => 2) s.2.2.1) l) l := by
 obtain ⟨hl, hr⟩ := h
 have := marks_list (S := laws_markSeatS_s26) (T := laws_heldSeatS_s26) (mark := markSe) (held := heldSe) se0 hl (fun r hm => marksSe (hr r hm)) ((), (), ()) (fun k i c hi hc => by
  simp only [laws_markSeatS_s26, markSe, lnn, ltn hi, Option.bind_some, cond_true, ixn hi, lxn hi, gxn, sxn, List.length_set, getD_set_same _ _ hi, List.set_set, wsucc (show i ≤ 1048576 by omega), Option.bind_assoc]) (fun k c => by simp only [laws_markSeatS_s26, lnn, ltF, cond_false])
  (fun k r i c hi hc e hr => by
   generalize hx : c.getD i se0 = x at e
   obtain ⟨x1, x2, x3, x4, x5⟩ := x
   obtain ⟨a1, e⟩ := held_no e hr
   obtain ⟨a2, e⟩ := held_no e hr
   obtain ⟨y1, a3, a4, e⟩ := held_on e hr
   obtain ⟨a5, e⟩ := held_no e hr
   obtain ⟨a6, e⟩ := held_no e hr
   simp only [Option.some.injEq] at e
   subst e
   simp only at a1 a2 a3 a5 a6
   have hx' : c.getD i (0, 0, [], 0, 0) = (x1, x2, x3, x4, x5) := hx
   simp only [laws_heldSeatS_s26, lnn, ltn hi, Option.bind_some, cond_true, ixn hi, gxn, hx', a1, a2, a3, a4, a5, a6, cond_false, wsucc (show i ≤ 1048576 by omega)]) (fun k c => by simp only [laws_heldSeatS_s26, lnn, ltF, cond_false])
 exact this
def heldTu (p : TuT × Int) : Option Int := bif p.1.1 != p.2 then some (-1) else bif !(p.1.2.1 == ((Int.tmod (w64 (p.2 + 1)) 3) == 0)) then some (-1) else (laws_heldIntS (p.1.2.2, w64 (w64 (p.2 + 1) + 1))).bind fun a => bif decide (a < 0) then some (-1) else some a
theorem marksTu {s : TuT} (h : s.2.2.length ≤ 1048576) : Marks markTu heldTu (2 + s.2.2.length) s := by
 intro k k0 k1
 have e1 : w64 (k + 1) = k + 1 := w64_ok (by omega) (by omega)
 have e2 : w64 (k + 1 + 1) = k + 2 := by rw [w64_ok (by omega) (by omega)]; omega
 obtain ⟨a, a1, a2⟩ := marksIntS h (k + 2) (by omega) (by omega)
 have e3 : k + 2 + (s.2.2.length : Int) = k + ((2 + s.2.2.length : Nat) : Int) := by omega
 have g1 : decide (k + ((2 + s.2.2.length : Nat) : Int) < 0) = false := dF (by omega)
 refine ⟨(k, (Int.tmod (k + 1) 3) == 0, a), ?_, ?_⟩
 ·simp only [markTu, e1, e2, a1, Option.bind_some, e3]
 ·simp only [heldTu, e1, e2, a2, Option.bind_some, bne_self_eq_false, beq_self_eq_true, Bool.not_true, cond_false, e3, g1]
theorem marksTurnS {l : List TuT} (h : TusLe 1048576 l) : Marks laws_markTurnS laws_heldTurnS (sumL (fun s => 2 + s.2.2.length) l) l := by
 obtain ⟨hl, hr⟩ := h
 have := marks_list (S := laws_markTurnS_s26) (T := laws_heldTurnS_s26) (mark := markTu) (held := heldTu) tu0 hl (fun r hm => marksTu (hr r hm)) ((), (), ()) (fun k i c hi hc => by
  simp only [laws_markTurnS_s26, markTu, lnn, ltn hi, Option.bind_some, cond_true, ixn hi, lxn hi, gxn, sxn, List.length_set, getD_set_same _ _ hi, List.set_set, wsucc (show i ≤ 1048576 by omega), Option.bind_assoc]) (fun k c => by simp only [laws_markTurnS_s26, lnn, ltF, cond_false])
  (fun k r i c hi hc e hr => by
   generalize hx : c.getD i tu0 = x at e
   obtain ⟨x1, x2, x3⟩ := x
   obtain ⟨a1, e⟩ := held_no e hr
   obtain ⟨a2, e⟩ := held_no e hr
   obtain ⟨y1, a3, a4, e⟩ := held_on e hr
   simp only [Option.some.injEq] at e
   subst e
   simp only at a1 a2 a3
   have hx' : c.getD i (0, false, []) = (x1, x2, x3) := hx
   simp only [laws_heldTurnS_s26, lnn, ltn hi, Option.bind_some, cond_true, ixn hi, gxn, hx', a1, a2, a3, a4, cond_false, wsucc (show i ≤ 1048576 by omega)]) (fun k c => by simp only [laws_heldTurnS_s26, lnn, ltF, cond_false])
 exact this
theorem marksRowS {l : List (List EnT)} (h : RwsLe 1048576 l) : Marks laws_markRowS laws_heldRowS (sumL (sumL szEn) l) l := by
 obtain ⟨hl, hr⟩ := h
 have := marks_list (S := laws_markRowS_s26) (T := laws_heldRowS_s26) (mark := laws_markEntryS) (held := laws_heldEntryS) [] hl (fun r hm => marksEntryS (hr r hm)) ((), (), ()) (fun k i c hi hc => by
  simp only [laws_markRowS_s26, lnn, ltn hi, Option.bind_some, cond_true, ixn hi, lxn hi, gxn, sxn, wsucc (show i ≤ 1048576 by omega)]) (fun k c => by simp only [laws_markRowS_s26, lnn, ltF, Option.bind_some, cond_false])
  (fun k r i c hi hc e hr => by simp only [laws_heldRowS_s26, lnn, ltn hi, Option.bind_some, cond_true, ixn hi, gxn, e, dF (show ¬ r < 0 by omega), cond_false, wsucc (show i ≤ 1048576 by omega)]) (fun k c => by simp only [laws_heldRowS_s26, lnn, ltF, Option.bind_some, cond_false])
 exact this
theorem marksRowSS {l : List (List (List EnT))} (h : RwssLe 1048576 l) : Marks laws_markRowSS laws_heldRowSS (sumL (sumL (sumL szEn)) l) l := by
 obtain ⟨hl, hr⟩ := h
 have := marks_list (S := laws_markRowSS_s26) (T := laws_heldRowSS_s26) (mark := laws_markRowS) (held := laws_heldRowS) [] hl (fun r hm => marksRowS (hr r hm)) ((), (), ()) (fun k i c hi hc => by
  simp only [laws_markRowSS_s26, lnn, ltn hi, Option.bind_some, cond_true, ixn hi, lxn hi, gxn, sxn, wsucc (show i ≤ 1048576 by omega)]) (fun k c => by simp only [laws_markRowSS_s26, lnn, ltF, Option.bind_some, cond_false])
  (fun k r i c hi hc e hr => by simp only [laws_heldRowSS_s26, lnn, ltn hi, Option.bind_some, cond_true, ixn hi, gxn, e, dF (show ¬ r < 0 by omega), cond_false, wsucc (show i ≤ 1048576 by omega)]) (fun k c => by simp only [laws_heldRowSS_s26, lnn, ltF, Option.bind_some, cond_false])
 exact this
theorem marksOutS {l : List OuT} (h : OutsLe 1048576 l) : Marks laws_markOutS laws_heldOutS (sumL (fun e => 1 + szEn e.2) l) l := by
 obtain ⟨hl, hr⟩ := h
 have := marks_list (S := laws_markOutS_s26) (T := laws_heldOutS_s26) (mark := markOu) (held := heldOu) ou0 hl (fun r hm => marksOu (hr r hm)) ((), (), ()) (fun k i c hi hc => by
  simp only [laws_markOutS_s26, markOu, markEn, lnn, ltn hi, Option.bind_some, cond_true, ixn hi, lxn hi, gxn, sxn, List.length_set, getD_set_same _ _ hi, List.set_set, wsucc (show i ≤ 1048576 by omega), Option.bind_assoc]) (fun k c => by simp only [laws_markOutS_s26, lnn, ltF, Option.bind_some, cond_false])
  (fun k r i c hi hc e hr => by
   generalize hx : c.getD i ou0 = x at e
   obtain ⟨x0, x1, x2, x3, x4, x5, x6, x7, x8, x9, x10⟩ := x
   obtain ⟨a0, e⟩ := held_no e hr
   obtain ⟨a1, e⟩ := held_no e hr
   obtain ⟨a2, e⟩ := held_no e hr
   obtain ⟨y1, a3, a4, e⟩ := held_on e hr
   obtain ⟨a5, e⟩ := held_no e hr
   obtain ⟨a6, e⟩ := held_no e hr
   obtain ⟨a7, e⟩ := held_no e hr
   obtain ⟨a8, e⟩ := held_no e hr
   obtain ⟨y2, a9, b1, e⟩ := held_on e hr
   obtain ⟨y3, b2, b3, e⟩ := held_on e hr
   obtain ⟨y4, b4, b5, e⟩ := held_on e hr
   simp only [Option.some.injEq] at e
   subst e
   simp only at a0 a1 a2 a3 a5 a6 a7 a8 a9 b2 b4
   have hx' : c.getD i (0, 0, 0, [], 0, 0, 0, 0, [], [], []) = (x0, x1, x2, x3, x4, x5, x6, x7, x8, x9, x10) := hx
   simp only [laws_heldOutS_s26, lnn, ltn hi, Option.bind_some, cond_true, ixn hi, gxn, hx', a0, a1, a2, a3, a4, a5, a6, a7, a8, a9, b1, b2, b3, b4, b5, cond_false, wsucc (show i ≤ 1048576 by omega)]) (fun k c => by simp only [laws_heldOutS_s26, lnn, ltF, Option.bind_some, cond_false])
 exact this
theorem joinM_le {r : List EnT} (h : EnsLe 1048576 r) : EnsLe 1048576 (joinM r) := by
 cases hq : rowOk r with
 | true => exact (joinM_ok (rowOk_iff.1 hq)).toLe
 | false =>
  have : joinM r = r := by unfold joinM; rw [hq]; rfl
  rw [this]; exact h
theorem joinM_szs {r : List EnT} : sumL szEn (joinM r) ≤ 480000 + sumL szEn r := by
 cases hq : rowOk r with
 | true => have := (joinM_ok (rowOk_iff.1 hq)).szs; omega
 | false =>
  have : joinM r = r := by unfold joinM; rw [hq]; rfl
  rw [this]; omega
section
variable {a b c e f g h i n : Int} {d : List Int} {j : Bool} {k : List SeT} {l : List (List (List EnT))} {m : List TuT} {o : List EnT} {p : List OuT}
theorem marksHouse (z : HsLe 1048576 (a, b, c, d, e, f, g, h, i, j, k, l, m, n, o, p)) (q : Int) (q0 : 0 ≤ q) (q1 : q + (mHs (a, b, c, d, e, f, g, h, i, j, k, l, m, n, o, p) : Nat) ≤ 1152921504606846976) :
  ∃ x1 x2 x3 x4 x5 x6, laws_markHouse ((a, b, c, d, e, f, g, h, i, j, k, l, m, n, o, p), q) = some (q + (mHs (a, b, c, d, e, f, g, h, i, j, k, l, m, n, o, p) : Nat), (a, b, c, x1, e, f, g, h, i, j, x2, x3, x4, n, x5, x6)) ∧
   laws_heldHouse ((a, b, c, x1, e, f, g, h, i, j, x2, x3, x4, n, x5, x6), q) = some (q + (mHs (a, b, c, d, e, f, g, h, i, j, k, l, m, n, o, p) : Nat)) := by
 obtain ⟨h1, h2, h3, h4, h5, h6⟩ := z
 simp only [mHs] at q1 ⊢
 obtain ⟨x1, e1, f1⟩ := marksIntS h1 q q0 (by omega)
 obtain ⟨x2, e2, f2⟩ := marksSeatS h2 (q + d.length) (by omega) (by omega)
 generalize sumL (fun s => 4 + sumL (fun _ => 2) s.2.2.1) k = n2 at q1 e2 f2 ⊢
 obtain ⟨x3, e3, f3⟩ := marksRowSS h3 (q + d.length + n2) (by omega) (by omega)
 generalize sumL (sumL (sumL szEn)) l = n3 at q1 e3 f3 ⊢
 obtain ⟨x4, e4, f4⟩ := marksTurnS h4 (q + d.length + n2 + n3) (by omega) (by omega)
 generalize sumL (fun s : TuT => 2 + s.2.2.length) m = n4 at q1 e4 f4 ⊢
 obtain ⟨x5, e5, f5⟩ := marksEntryS h5 (q + d.length + n2 + n3 + n4) (by omega) (by omega)
 generalize sumL szEn o = n5 at q1 e5 f5 ⊢
 obtain ⟨x6, e6, f6⟩ := marksOutS h6 (q + d.length + n2 + n3 + n4 + n5) (by omega) (by omega)
 generalize sumL (fun e : OuT => 1 + szEn e.2) p = n6 at q1 e6 f6 ⊢
 have hfin : q + (d.length : Int) + (n2 : Int) + (n3 : Int) + (n4 : Int) + (n5 : Int) + (n6 : Int) = q + ((d.length + n2 + n3 + n4 + n5 + n6 : Nat) : Int) := by omega
 refine ⟨x1, x2, x3, x4, x5, x6, ?_, ?_⟩
 ·simp only [laws_markHouse, laws_markConf, e1, e2, e3, e4, e5, e6, Option.bind_some, hfin]
 ·have g1 : decide (q + (d.length : Int) < 0) = false := dF (by omega)
  have g2 : decide (q + (d.length : Int) + (n2 : Int) < 0) = false := dF (by omega)
  have g3 : decide (q + (d.length : Int) + (n2 : Int) + (n3 : Int) < 0) = false := dF (by omega)
  have g4 : decide (q + (d.length : Int) + (n2 : Int) + (n3 : Int) + (n4 : Int) < 0) = false := dF (by omega)
  have g5 : decide (q + (d.length : Int) + (n2 : Int) + (n3 : Int) + (n4 : Int) + (n5 : Int) < 0) = false := dF (by omega)
  have g6 : decide (q + ((d.length + n2 + n3 + n4 + n5 + n6 : Nat) : Int) < 0) = false := dF (by omega)
  simp only [laws_heldHouse, laws_heldConf, f1, f2, f3, f4, f5, f6, Option.bind_some, g1, g2, g3, g4, g5, g6, cond_false, hfin]
end
theorem law_joinHouse (x : HsT) (hx : HsLe 9223372036854775807 x) : laws_FnExactJoinHouse x = some true := by
 obtain ⟨y, e1, e2⟩ := szHouse_ok x 1048576 hx (by omega) (by omega)
 obtain ⟨a, b, c, d, e, f, g, h, i, j, k, l, m, n, o, p⟩ := x
 simp only [laws_FnExactJoinHouse, e1, Option.bind_some, bif_dec]
 rcases e2 with rfl | ⟨e2, e3⟩
 ·simp
 ·rw [if_neg (by omega)]
  have hn : nHs (a, b, c, d, e, f, g, h, i, j, k, l, m, n, o, p) ≤ 1048576 := by omega
  have hs := hsLe_of hn
  have hz := hsSz_of hn
  have hm := mHs_le hn
  obtain ⟨x1, x2, x3, x4, x5, x6, m1, _⟩ := marksHouse hs 1 (by omega) (by omega)
  have hres : ∃ l', (bif houseOk (a, b, c, d, e, f, g, h, i, j, k, l, m, n, o, p) then joinL l else l) = l' ∧ HsLe 1048576 (a, b, c, d, e, f, g, h, i, j, k, l', m, n, o, p) ∧ mHs (a, b, c, d, e, f, g, h, i, j, k, l', m, n, o, p) ≤ 1000000000 := by
   cases hh : houseOk (a, b, c, d, e, f, g, h, i, j, k, l, m, n, o, p) with
   | false => exact ⟨l, rfl, hs, by omega⟩
   | true =>
    obtain ⟨r3, r2⟩ := house_rows hh
    refine ⟨joinL l, rfl, ⟨hs.1, hs.2.1, ⟨by simpa [joinL] using hs.2.2.1.1, fun r hr => ?_⟩, hs.2.2.2⟩, ?_⟩
    ·obtain ⟨y, hy, rfl⟩ := List.mem_map.1 hr
     obtain ⟨y1, y2⟩ := hs.2.2.1.2 y hy
     refine ⟨by simpa using y1, fun u hu => ?_⟩
     obtain ⟨v, hv, rfl⟩ := List.mem_map.1 hu
     exact joinM_le (y2 v hv)
    ·have k1 : ∀ y : List (List EnT), sumL (sumL szEn) (y.map joinM) ≤ 480000 * y.length + sumL (sumL szEn) y := by
      intro y
      induction y with
      | nil => simp [sumL]
      | cons v y ih =>
       have := joinM_szs (r := v)
       simp only [List.map_cons, sumL, List.length_cons]
       omega
     have k2 : ∀ y : List (List (List EnT)), (∀ v ∈ y, v.length = 2) → sumL (sumL (sumL szEn)) (joinL y) ≤ 960000 * y.length + sumL (sumL (sumL szEn)) y := by
      intro y hy
      induction y with
      | nil => simp [sumL, joinL]
      | cons v y ih =>
       have i1 := ih fun u hu => hy u (List.mem_cons_of_mem _ hu)
       have i2 := k1 v
       have i3 := hy v List.mem_cons_self
       unfold joinL at i1 ⊢
       simp only [List.map_cons, sumL, List.length_cons]
       omega
     have k3 := k2 l fun v hv => by
      obtain ⟨q, hq, rfl⟩ := List.mem_iff_getElem.1 hv
      have := r2 q (by omega)
      rw [getD_get hq] at this
      exact this
     simp only [mHs] at hm ⊢
     omega
  obtain ⟨l', hl', hs', hm'⟩ := hres
  obtain ⟨y1, y2, y3, y4, y5, y6, m3, m4⟩ := marksHouse hs' 1 (by omega) (by omega)
  have s1 := specJoinHouse_eq hs hz
  have s2 := implJoinHouse_eq hs hz
  rw [hl'] at s1 s2
  generalize mHs (a, b, c, d, e, f, g, h, i, j, k, l, m, n, o, p) = mm at hm m1
  generalize mHs (a, b, c, d, e, f, g, h, i, j, k, l', m, n, o, p) = mr at hm' m3 m4
  have g1 : ¬ (1 + ((mm : Nat) : Int) < 0) := by omega
  have g2 : ¬ (1 + ((mr : Nat) : Int) < 0) := by omega
  simp only [toHouse_ok hs, s1, s2, eqHouse_ok hs', eqHouse_ok hs, Option.bind_some, Bool.not_true, cond_false, m1, m3, m4, if_neg g1, if_neg g2, bne_self_eq_false]
end Go.Proofs.YtkegollaleklaaaGreat.Tw
