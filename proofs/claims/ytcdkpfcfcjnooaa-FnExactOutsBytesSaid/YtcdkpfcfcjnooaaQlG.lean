/- Plain: marks of spans, sketches, outs; the laws FnExactOutBytes and FnExactOutsBytes. No condition: lemmas. -/
import Derived.Test.YtcdkpfcfcjnooaaQlF
namespace Go.Proofs.Ytcdkpfcfcjnooaa.Tw
open Go.Mach
set_option linter.unusedVariables false
set_option maxRecDepth 20000

/-! ### marks -/
theorem markSpanS_some {l : List SpanT} {k : Int} (hl : l.length ≤ 1048576) (h0 : 0 ≤ k) (h1 : k ≤ 2305843009213693952) : ∃ k' l', laws_markSpanS l k = some (k', l') ∧ 0 ≤ k' ∧ k' ≤ k + 2097152 := by
  obtain ⟨k', l', e1, e2, e3⟩ := mark_run (S := fun d => laws_markSpanS_s26 d.2.1 d.2.2.1 d.2.2.2) (0, 0) (l := l) (k := k) 2 hl h0 (fun i c m hi hm hg _ hc0 hc1 => by
    have him : i < m.length := by omega
    have g1 : (0 : Int) ≤ (i : Int) := by omega
    refine ⟨c + 1 + 1, ?_⟩
    simp only [laws_markSpanS_s26, Int.toNat_natCast, wrap_nat (show i ≤ 1048576 by omega), List.length_set, Option.bind_some, getD_set_self him, List.set_set]
    rw [decide_eq_true (by omega : (i : Int) < m.length), cond_true]
    simp only [chk_dec g1, chk_dec him]
    have q1 := wrap_big (i := c) (by omega) (by omega)
    have q2 := wrap_big (i := c + 1) (by omega) (by omega)
    rw [q1, q2]
    exact ⟨_, rfl, by omega, by omega⟩) (fun c m hm => by
    simp only [laws_markSpanS_s26]
    rw [decide_eq_false (by omega), cond_false])
  refine ⟨k', l', ?_, e2, by omega⟩
  unfold laws_markSpanS laws_markSpanS_l26
  rw [e1]
  rfl

theorem markIntS_some {l : List Int} {k : Int} (hl : l.length ≤ 1048576) (h0 : 0 ≤ k) (h1 : k ≤ 3458764513820540928) : ∃ k' l', laws_markIntS l k = some (k', l') ∧ 0 ≤ k' ∧ k' ≤ k + 1048576 := by
  obtain ⟨k', l', e1, e2, e3⟩ := mark_run (S := fun d => laws_markIntS_s26 d.2.1 d.2.2.1 d.2.2.2) 0 (l := l) (k := k) 1 hl h0 (fun i c m hi hm hg _ hc0 hc1 => by
    have him : i < m.length := by omega
    have g1 : (0 : Int) ≤ (i : Int) := by omega
    refine ⟨c + 1, ?_⟩
    simp only [laws_markIntS_s26, Int.toNat_natCast, wrap_nat (show i ≤ 1048576 by omega), List.length_set, Option.bind_some, getD_set_self him, List.set_set]
    rw [decide_eq_true (by omega : (i : Int) < m.length), cond_true]
    simp only [chk_dec g1, chk_dec him]
    rw [wrap_big (by omega) (by omega)]
    exact ⟨_, rfl, by omega, by omega⟩) (fun c m hm => by
    simp only [laws_markIntS_s26]
    rw [decide_eq_false (by omega), cond_false])
  refine ⟨k', l', ?_, e2, by omega⟩
  unfold laws_markIntS laws_markIntS_l26
  rw [e1]
  rfl

theorem markIntSS_some {l : List (List Int)} {k : Int} (hl : l.length ≤ 1048576) (hr : ∀ r ∈ l, r.length ≤ 1048576) (h0 : 0 ≤ k) (h1 : k ≤ 2305843009213693952) : ∃ k' l', laws_markIntSS l k = some (k', l') ∧ 0 ≤ k' ∧ k' ≤ k + 1099511627776 := by
  obtain ⟨k', l', e1, e2, e3⟩ := mark_run (S := fun d => laws_markIntSS_s26 d.2.1 d.2.2.1 d.2.2.2) [] (l := l) (k := k) 1048576 hl h0 (fun i c m hi hm hg hmem hc0 hc1 => by
    have him : i < m.length := by omega
    have g1 : (0 : Int) ≤ (i : Int) := by omega
    obtain ⟨c', y, f1, f2, f3⟩ := markIntS_some (l := m.getD i []) (k := c) (by rw [hg]; exact hr _ hmem) hc0 (by omega)
    refine ⟨c', y, ?_, f2, by omega⟩
    simp only [laws_markIntSS_s26, Int.toNat_natCast, wrap_nat (show i ≤ 1048576 by omega), f1, Option.bind_some]
    rw [decide_eq_true (by omega : (i : Int) < m.length), cond_true]
    simp only [chk_dec g1, chk_dec him]) (fun c m hm => by
    simp only [laws_markIntSS_s26]
    rw [decide_eq_false (by omega), cond_false])
  refine ⟨k', l', ?_, e2, by omega⟩
  unfold laws_markIntSS laws_markIntSS_l26
  rw [e1]
  rfl

theorem markOut_some {o : OutT} {k : Int} (h : EnLe small o.2) (h0 : 0 ≤ k) (h1 : k ≤ 1152921504606846976) :
    ∃ k' o', laws_markOut o.1 o.2.1 o.2.2.1 o.2.2.2.1 o.2.2.2.2.1 o.2.2.2.2.2.1 o.2.2.2.2.2.2.1 o.2.2.2.2.2.2.2.1 o.2.2.2.2.2.2.2.2.1 o.2.2.2.2.2.2.2.2.2.1 o.2.2.2.2.2.2.2.2.2.2 k = some (k', o') ∧ 0 ≤ k' := by
  obtain ⟨w1, w2, w3, w4, w5⟩ := h
  obtain ⟨k1, l1, e1, p1, q1⟩ := markSpanS_some (k := k) w1 h0 (by omega)
  obtain ⟨k2, l2, e2, p2, q2⟩ := markIntS_some (k := k1) w2 p1 (by omega)
  obtain ⟨k3, l3, e3, p3, q3⟩ := markIntS_some (k := k2) w3 p2 (by omega)
  obtain ⟨k4, l4, e4, p4, q4⟩ := markIntSS_some (k := k3) w4 w5 p3 (by omega)
  refine ⟨k4, (o.1, o.2.1, o.2.2.1, l1, o.2.2.2.2.1, o.2.2.2.2.2.1, o.2.2.2.2.2.2.1, o.2.2.2.2.2.2.2.1, l2, l3, l4), ?_, p4⟩
  unfold laws_markOut laws_markEntry laws_markSketch
  rw [e1, Option.bind_some, e2, Option.bind_some, e3, Option.bind_some, e4]
  rfl

/-! ### the law of one -/
theorem outBytes_true {o : OutT} (h : EnLe big o.2) : laws_FnExactOutBytes o.1 o.2.1 o.2.2.1 o.2.2.2.1 o.2.2.2.2.1 o.2.2.2.2.2.1 o.2.2.2.2.2.2.1 o.2.2.2.2.2.2.2.1 o.2.2.2.2.2.2.2.2.1 o.2.2.2.2.2.2.2.2.2.1 o.2.2.2.2.2.2.2.2.2.2 = some true := by
  unfold laws_FnExactOutBytes
  obtain ⟨r, e1, e2⟩ := szOut_is o 1048576 h (by omega) (by omega)
  dsimp only at e1
  rw [e1, Option.bind_some]
  rcases e2 with rfl | ⟨e2, e3, l1⟩
  · rfl
  rw [decide_eq_false (by omega), cond_false]
  obtain ⟨k', o', m1, m2⟩ := markOut_some (k := 1) l1 (by omega) (by omega)
  have hb := outB_le l1
  have hq : ∀ c : List Int, laws_eqByteS (outB o) c = some (decide (outB o = c)) := fun c => eqByteS_eq (by omega)
  simp only [toOut_eq l1, Option.bind_some, specOutBytes_eq l1, implOutBytes_eq l1, hq, lawsEqOut_eq l1, m1, decide_true, Bool.not_true, cond_false, decide_eq_false (show ¬ k' < 0 by omega)]
  rw [markByteS_eq (by omega) (by omega) (by omega)]
  simp only [Option.bind_some]
  rw [heldByteS_eq (by omega) (by omega) (by omega)]
  simp only [Option.bind_some, decide_eq_false (show ¬ (1 + ((outB o).length : Int) < 0) by omega), cond_false, bne_self_eq_false]

end Go.Proofs.Ytcdkpfcfcjnooaa.Tw
