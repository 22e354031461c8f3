/- Parts of a proof, packed: see the last text for what is proved. No condition: definitions and lemmas. -/
import Derived.Test.YtppjdpcmaipoaaaGreatZf
namespace Go.Proofs.YtppjdpcmaipoaaaGreat.Tw
open Go.Mach
set_option linter.unusedVariables false
set_option linter.unusedSimpArgs false
set_option maxRecDepth 20000
theorem same1_eq {l : List Int} (hl : l.length ≤ 1048576) : Kbk (l, l) = some true := by
 have h : lp Kbk_s58 (l, l, ((0 : Nat) : Int)) = some (.inr ()) :=
  lp_det (fun i => (l, l, (i : Int))) (n := l.length) hl (fun i hi => by simp only [Kbk_s58, lnn, ltn hi, cond_true, ixn hi, gxn, wsucc (show i ≤ 1048576 by omega), bne_self_eq_false, cond_false]) (by simp only [Kbk_s58, lnn, ltF, cond_false])
 rw [cast0] at h
 simp only [Kbk, bne_self_eq_false, cond_false, h, bx_inr]
theorem same5_eq {l : List SpT} (hl : l.length ≤ 1048576) : Kah (l, l) = some true := by
 have h : lp Kah_s58 (l, l, ((0 : Nat) : Int)) = some (.inr ()) :=
  lp_det (fun i => (l, l, (i : Int))) (n := l.length) hl (fun i hi => by simp only [Kah_s58, lnn, ltn hi, cond_true, ixn hi, gxn, Option.bind_some, wsucc (show i ≤ 1048576 by omega), beq_self_eq_true, Bool.and_true, Bool.not_true, cond_false]) (by simp only [Kah_s58, lnn, ltF, cond_false])
 rw [cast0] at h
 simp only [Kah, bne_self_eq_false, cond_false, h, bx_inr]
theorem skSame_eq {s : SkT} (h : SkLe 1048576 s) : Kbz (s, s) = some true := by
 obtain ⟨a, b, c, d, e, f, g⟩ := s
 obtain ⟨h1, h2, h3, h4⟩ := h
 simp only at h1 h2 h3 h4
 have hg : lp Kbz_s58 ((a, b, c, d, e, f, g), (a, b, c, d, e, f, g), ((0 : Nat) : Int)) = some (.inr ()) :=
  lp_det (fun i => ((a, b, c, d, e, f, g), (a, b, c, d, e, f, g), (i : Int))) (n := g.length) h3 (fun i hi => by
   simp only [Kbz_s58, lnn, ltn hi, cond_true, ixn hi, gxn, same1_eq (h4 _ (getD_mem (d := []) hi)), Option.bind_some, Bool.not_true, cond_false, wsucc (show i ≤ 1048576 by omega)]) (by simp only [Kbz_s58, lnn, ltF, cond_false])
 rw [cast0] at hg
 simp only [Kbz, bne_self_eq_false, cond_false, same1_eq h1, same1_eq h2, Option.bind_some, Bool.not_true, hg, bx_inr]
theorem entSame_eq {e : EnT} (h : EnLe 1048576 e) : Kds (e, e) = some true := by
 obtain ⟨a, b, c, d⟩ := e
 obtain ⟨h1, h2⟩ := h
 have hs := skSame_eq h2
 obtain ⟨d1, d2, d3, d4, d5, d6, d7⟩ := d
 simp only at h1 hs
 simp only [Kds, beq_self_eq_true, cond_true, same5_eq h1, Option.bind_some, hs]
theorem outsSame_eq {l : List OuT} (h : OutsLe 1048576 l) : Kbo (l, l) = some true := by
 have q : lp Kbo_s58 (l, l, ((0 : Nat) : Int)) = some (.inr ()) :=
  lp_det (fun i => (l, l, (i : Int))) (n := l.length) h.1 (fun i hi => by
   have hl := h.1
   have hs := entSame_eq (h.2 _ (getD_mem (d := ou0) hi))
   simp only [Kbo_s58, lnn, ltn hi, cond_true, ixn hi, gxn, Option.bind_some, wsucc (show i ≤ 1048576 by omega)]
   generalize hx : l.getD i (0, 0, 0, [], 0, 0, 0, 0, [], [], []) = x
   have hx' : l.getD i ou0 = x := hx
   rw [hx'] at hs
   obtain ⟨x0, x1, x2, x3, x4, x5, x6, x7, x8, x9, x10⟩ := x
   simp only at hs
   simp only [bne_self_eq_false, cond_false, hs, Option.bind_some, Bool.not_true]) (by simp only [Kbo_s58, lnn, ltF, Option.bind_some, cond_false])
 rw [cast0] at q
 simp only [Kbo, lnn, bne_self_eq_false, Option.bind_some, cond_false, q, bx_inr]
def outsBB (l : List OuT) : List Int := bif l.all ouOk && decide (l.length ≤ 200) then outsB l else []
theorem ouB_few {o : OuT} (h : EnLe 5001 o.2) : (ouB o).length ≤ 50170 := by
 unfold ouB
 cases ouOk o with
 | false => simp
 | true =>
  have h1 := nsB_le [o.1, o.2.1, o.2.2.1, (o.2.2.2.1.length : Int)]
  have h2 := flB_le o.2.2.2.1
  have h3 := skB_le o.2.2.2.2
  have h4 : o.2.2.2.1.length ≤ 5001 := h.1
  simp only [cond_true, List.length_append, List.length_cons, List.length_nil] at h1 ⊢
  omega
theorem outsBB_len {l : List OuT} (h : ∀ u ∈ l, EnLe 5001 u.2) (hn : l.length ≤ 20) : (outsBB l).length ≤ 1003600 := by
 unfold outsBB
 cases l.all ouOk && decide (l.length ≤ 200)
 ·simp
 ·simp only [cond_true, outsB, List.length_append]
  have h1 := nB_le (l.length : Int)
  have h2 := flatMap_len oneB 50175 l fun o ho => by
   have := ouB_few (h o ho)
   have := nB_le ((ouB o).length : Int)
   simp only [oneB, List.length_append]
   omega
  have h3 : 50175 * l.length ≤ 50175 * 20 := Nat.mul_le_mul_left _ hn
  omega
theorem bts_outsBB (l : List OuT) : Bts (outsBB l) := by
 unfold outsBB
 cases l.all ouOk && decide (l.length ≤ 200)
 ·exact fun v hv => by simp at hv
 ·exact bts_outsB l
theorem of_both {a : List Int} (hb : Bts a) (hl : a.length ≤ 1048576) : ∃ x g, Kaj a = some (x, g) ∧ Kv a = some (x, g) ∧ (g = true → Good x a) ∧ ((∃ y, Good y a) → Good x a ∧ g = true) := by
 by_cases h : ∃ x, Good x a
 ·obtain ⟨x, hx⟩ := h
  exact ⟨x, true, specOf_enc hb hl hx, implOf_enc hb hl hx, fun _ => hx, fun _ => ⟨hx, rfl⟩⟩
 ·obtain ⟨r, e1, e2⟩ := specOf_any hb hl
  obtain ⟨r', e3, e4⟩ := implOf_any hb hl
  have h1 : r = ([], false) := e2.resolve_right fun ⟨x, _, hx⟩ => h ⟨x, hx⟩
  have h2 : r' = ([], false) := e4.resolve_right fun ⟨x, _, hx⟩ => h ⟨x, hx⟩
  rw [h1] at e1
  rw [h2] at e3
  exact ⟨[], false, e1, e3, by simp, fun q => absurd q h⟩
theorem outsB_ne (x : List OuT) : outsB x ≠ [] := by
 unfold outsB
 have : 1 ≤ (nB (x.length : Int)).length ∨ nB (x.length : Int) = [] := by
  unfold nB
  cases inR (x.length : Int) 0 2147483647
  ·right; rfl
  ·left; exact (enc_len 4 _).2
 rcases this with h | h
 ·intro q
  have := congrArg List.length q
  simp only [List.length_append, List.length_nil] at this
  omega
 ·
  intro q
  have hn : ¬ (0 ≤ (x.length : Int) ∧ (x.length : Int) ≤ 2147483647) := fun hq => by
   have := nB_ge hq
   rw [h] at this; simp at this
  cases x with
  | nil => simp at hn
  | cons u r =>
   have := congrArg List.length q
   simp only [List.flatMap_cons, oneB, List.length_append, List.length_nil] at this
   have h5 := nB_ge (x := ((ouB u).length : Int))
   have h6 : (nB ((ouB u).length : Int)).length = 0 := by omega
   have h7 : (ouB u).length = 0 := by omega
   rw [h7] at h6
   have h8 : 1 ≤ (nB ((0 : Nat) : Int)).length := nB_ge ⟨by omega, by omega⟩
   omega
theorem kept_read {l : List OuT} (hle : OutsLe 1048576 l) (hl : (outsBB l).length ≤ 1048576) :
  ∃ x, Kv (outsBB l) = some (x, l.all ouOk && decide (l.length ≤ 200)) ∧ ((l.all ouOk && decide (l.length ≤ 200)) = true → x = l) := by
 have hb := bts_outsBB l
 obtain ⟨x, g, _, e2, h1, h2⟩ := of_both hb hl
 cases hc : l.all ouOk && decide (l.length ≤ 200) with
 | true =>
  have e : outsBB l = outsB l := by unfold outsBB; rw [hc]; rfl
  simp only [Bool.and_eq_true, decide_eq_true_eq] at hc
  have hg : Good l (outsBB l) := ⟨hc.1, hc.2, hle, e.symm⟩
  have := implOf_enc hb hl hg
  exact ⟨l, this, fun _ => rfl⟩
 | false =>
  have e : outsBB l = [] := by unfold outsBB; rw [hc]; rfl
  cases g with
  | true =>
   have := (h1 rfl).bytes
   rw [e] at this
   exact absurd this (outsB_ne x)
  | false => exact ⟨x, e2, by simp⟩
theorem outs_le {x : List OuT} (hn : x.length ≤ 15) (hl : ∀ u ∈ x, EnLe 5001 u.2) : OutsLe 1048576 x := ⟨by omega, fun u hu => (hl u hu).mono (by omega)⟩
theorem drawOutsBytes_ok {a : List Int} (h : a.length ≤ 1048576) : ∃ x, Kdp a = some x ∧ x.length ≤ 15 ∧ ∀ u ∈ x, EnLe 5001 u.2 := by
 obtain ⟨⟨a1, b1, k1⟩, e0, g0⟩ := l1New_ok h
 obtain ⟨x, ⟨a2, b2, k2⟩, e1, q1, q2, _⟩ := outs24_ok g0
 simp only [Kdp, e0, e1, Option.bind_some]
 exact ⟨x, rfl, q1, q2⟩
theorem drawOutBytes_ok {a : List Int} (h : a.length ≤ 1048576) : ∃ u, Kdo a = some u ∧ EnLe 1048576 u.2 := by
 obtain ⟨⟨a1, b1, k1⟩, e0, g0⟩ := l1New_ok h
 obtain ⟨x, ⟨a2, b2, k2⟩, e1, q1, q2, _⟩ := outs24_ok g0
 simp only [Kdo, e0, e1, Option.bind_some, lnn]
 by_cases h0 : x.length = 0
 ·rw [show ((x.length : Int) == 0) = true by simp [h0], cond_true]
  exact ⟨_, rfl, by simp [EnLe, SkLe]⟩
 ·have hi : w64 ((x.length : Int) - 1) = ((x.length - 1 : Nat) : Int) := by rw [w64_ok (by omega) (by omega)]; omega
  have hlt : x.length - 1 < x.length := by omega
  have hm := q2 _ (getD_mem (d := ou0) hlt)
  rw [show ((x.length : Int) == 0) = false from beq_eq_false_iff_ne.2 (by omega), cond_false, hi]
  simp only [ixn hlt, lxn hlt, gxn]
  generalize hx : x.getD (x.length - 1) (0, 0, 0, [], 0, 0, 0, 0, [], [], []) = y
  have hx' : x.getD (x.length - 1) ou0 = y := hx
  rw [hx'] at hm
  obtain ⟨y0, y1, y2, y3, y4, y5, y6, y7, y8, y9, y10⟩ := y
  exact ⟨_, rfl, hm.mono (by omega)⟩
theorem bts_set {b : List Int} (hb : Bts b) (i : Nat) {v : Int} (hv : 0 ≤ v ∧ v ≤ 255) : Bts (b.set i v) := fun u hu => by
 rcases List.mem_or_eq_of_mem_set hu with hu | rfl
 ·exact hb u hu
 ·exact hv
theorem drawOutsOf_ok {a : List Int} (h : a.length ≤ 1048576) : ∃ b, Kdq a = some b ∧ Bts b ∧ b.length ≤ 1048576 := by
 obtain ⟨⟨a1, b1, k1⟩, e0, g0⟩ := l1New_ok h
 obtain ⟨x, ⟨a2, b2, k2⟩, e1, q1, q2, g1⟩ := outs24_ok g0
 have hB : Kax x = some (outsBB x) := specOutsB_eq (outs_le q1 q2)
 have hlen := outsBB_len q2 (by omega)
 have hbt := bts_outsBB x
 simp only [Kdq, e0, e1, hB, Option.bind_some, lnn]
 generalize outsBB x = b at hlen hbt
 by_cases hp : (b.length : Int) > 0
 ·rw [dT hp, cond_true]
  obtain ⟨w, ⟨a3, b3, k3⟩, e3, _, _, g3⟩ := below_ok g1 (n := 6) (by omega)
  simp only [e3, Option.bind_some]
  cases h0 : (w == 0) with
  | true =>
   simp only [cond_true]
   rw [fits1 (by omega)]
   refine ⟨_, rfl, fun v hv => ?_, by simp; omega⟩
   rcases List.mem_append.1 hv with hv | hv
   ·exact hbt v hv
   ·rw [List.mem_singleton.1 hv]; omega
  | false =>
   simp only [cond_false]
   cases h1 : (w == 1) with
   | true =>
    obtain ⟨n, ⟨a4, b4, k4⟩, e4, n1, n2, _⟩ := below_ok g3 (n := (b.length : Int)) hp
    simp only [cond_true, e4, Option.bind_some]
    rw [g0_ok n1, chkD (by omega)]
    exact ⟨_, rfl, bts_take hbt _, by rw [List.length_take]; omega⟩
   | false =>
    simp only [cond_false]
    cases h2 : (w == 2) with
    | true =>
     obtain ⟨n, ⟨a4, b4, k4⟩, e4, n1, n2, g4⟩ := below_ok g3 (n := (b.length : Int)) hp
     obtain ⟨v, ⟨a5, b5, k5⟩, e5, v1, v2, _⟩ := l1Byte_ok g4
     simp only [cond_true, e4, e5, Option.bind_some]
     rw [ix_ok n1 (by omega), lx_ok (by omega), wrapB v1 v2]
     exact ⟨_, rfl, bts_set hbt _ ⟨v1, v2⟩, by show (List.set b n.toNat v).length ≤ _; rw [List.length_set]; omega⟩
    | false => exact ⟨_, rfl, hbt, by omega⟩
 ·rw [dF hp, cond_false]
  exact ⟨_, rfl, hbt, by omega⟩
theorem kept_tail {a : List Int} (h : a.length ≤ 1048576) : Kbt_l127 a = some true := by
 obtain ⟨b, e1, hb, hl⟩ := drawOutsOf_ok h
 obtain ⟨x, g, e2, e3, hg, _⟩ := of_both hb hl
 obtain ⟨u, e4, hu⟩ := drawOutBytes_ok h
 have o1 := specOuB_eq hu
 have o2 := implOuB_eq hu
 obtain ⟨u0, u1, u2, u3, u4, u5, u6, u7, u8, u9, u10⟩ := u
 simp only [Kbt_l127, e1, e2, e3, e4, Option.bind_some, beq_self_eq_true, cond_true, o1, o2]
 cases g with
 | false => rfl
 | true =>
  have hgd := hg rfl
  have hB : Kam x = some (outsBB x) := implOutsB_eq hgd.le
  have hbb : outsBB x = b := by
   unfold outsBB
   rw [hgd.ok, dT hgd.few]
   exact hgd.bytes
  simp only [Bool.not_true, cond_false, hB, hbb, Option.bind_some, beq_self_eq_true, cond_true]
theorem law_kept (a : List Int) : Kbt a = some true := by
 simp only [Kbt, Keh, Option.bind_some, lnn, bif_dec]
 split
 ·rfl
 ·rename_i ha
  have ha : a.length ≤ 1048576 := by omega
  obtain ⟨l, e0, hn, hl⟩ := drawOutsBytes_ok ha
  have hle := outs_le hn hl
  have hB : Kam l = some (outsBB l) := implOutsB_eq hle
  obtain ⟨x, e1, hx⟩ := kept_read hle (by have := outsBB_len hl (by omega); omega)
  have ht := kept_tail ha
  simp only [e0, hB, e1, Option.bind_some, specOutsOk_eq hle, ht]
  rw [dT (show l.length ≤ 200 by omega)] at hx ⊢
  cases hk : l.all ouOk with
  | false => simp only [Bool.false_and, cond_false, beq_self_eq_true, Bool.not_true]
  | true =>
   rw [hk] at hx
   have hxl := hx rfl
   subst hxl
   simp only [Bool.true_and, Bool.and_true, cond_true, beq_self_eq_true, Bool.not_true, cond_false, outsSame_eq hle, Option.bind_some, dT (show ((x.length : Nat) : Int) ≤ 200 by omega)]
end Go.Proofs.YtppjdpcmaipoaaaGreat.Tw
