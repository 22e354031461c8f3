/- Plain: bytes of lists of outs; marks of lists of outs; the law FnExactOutsBytes. No condition: lemmas. -/
import Derived.Test.YtcdkpfcfcjnooaaQlG
namespace Go.Proofs.Ytcdkpfcfcjnooaa.Tw
open Go.Mach
set_option linter.unusedVariables false
set_option maxRecDepth 20000

def frame (o : OutT) : List Int := P (outB o).length ++ outB o
def outsB (l : List OutT) : List Int := if outsOk l then (if l.length ≤ 200 then P l.length ++ l.flatMap frame else []) else []

theorem frame_le {o : OutT} (h : EnLe small o.2) : (frame o).length ≤ 10485925 := by
  have h1 := P_le (outB o).length
  have h2 := outB_le h
  simp only [frame, List.length_append]
  omega

theorem frames_le {l : List OutT} (h : ∀ o ∈ l, EnLe small o.2) : (l.flatMap frame).length ≤ 10485925 * l.length := flatMap_length _ _ l (fun o ho => frame_le (h o ho))

theorem outsB_le {l : List OutT} (h : ∀ o ∈ l, EnLe small o.2) : (outsB l).length ≤ 2097185005 := by
  unfold outsB
  split
  · split
    · have h1 := P_le l.length
      have h2 := frames_le h
      simp only [List.length_append]
      omega
    · simp
  · simp

theorem specOutsBytes_eq {l : List OutT} (hl : l.length ≤ 1048576) (hr : ∀ o ∈ l, EnLe small o.2) : spec_OutsBytes l = some (outsB l) := by
  unfold spec_OutsBytes outsB
  rw [specOutsOk_eq hl hr, Option.bind_some]
  cases outsOk l with
  | false => rfl
  | true =>
    simp only [Bool.not_true, cond_false, if_true, Option.bind_some]
    by_cases h2 : l.length ≤ 200
    · rw [decide_eq_false (by omega), cond_false, if_pos h2, specP, Option.bind_some]
      have : spec_OutsBytes_l122 l (P l.length) 0 = some (P l.length ++ l.flatMap frame) := by
        refine Eq.trans ?_ (det_run (S := fun d => spec_OutsBytes_s122 d.1 d.2.1 d.2.2) (fun i => (l, P l.length ++ (l.take i).flatMap frame, (i : Int))) hl (t := P l.length ++ l.flatMap frame) (fun i hi => ?_) ?_)
        · simp [spec_OutsBytes_l122]
        · have hm := hr _ (getD_mem (d := out0) hi)
          have h3 := frames_le (l := l.take i) (fun o ho => hr o (List.mem_of_mem_take ho))
          have h4 := take_le l i
          have h5 := P_le l.length
          have h6 := P_le (outB (l.getD i out0)).length
          have h7 := outB_le hm
          have hs := specOutBytes_eq hm
          simp only [spec_OutsBytes_s122, Int.toNat_natCast, wrap_nat (show i ≤ 1048576 by omega), Option.bind_some]
          rw [decide_eq_true (by omega : (i : Int) < l.length), cond_true, chk_dec (by omega), chk_dec hi, hs, Option.bind_some, specP, Option.bind_some, fits1 (by simp only [List.length_append]; omega), chk_tt, fits1 (by simp only [List.length_append]; omega), chk_tt,
            flatMap_take_succ frame l i out0 hi]
          simp only [frame, List.append_assoc]
        · simp only [spec_OutsBytes_s122, Option.bind_some]
          rw [decide_eq_false (by omega), cond_false, List.take_length]
      rw [this]
      rfl
    · rw [decide_eq_true (by omega), cond_true, if_neg h2]

theorem implOutsBytes_eq {l : List OutT} (hl : l.length ≤ 1048576) (hr : ∀ o ∈ l, EnLe small o.2) : impl_OutsBytes l = some (outsB l) := by
  unfold impl_OutsBytes outsB
  rw [implOutsOk_eq hl hr, Option.bind_some]
  cases outsOk l with
  | false => rfl
  | true =>
    simp only [Bool.not_true, cond_false, if_true, Option.bind_some]
    by_cases h2 : l.length ≤ 200
    · rw [decide_eq_false (by omega), cond_false, if_pos h2, implP, Option.bind_some]
      have : impl_OutsBytes_l122 (P l.length) l l.length 0 = some (P l.length ++ l.flatMap frame) := by
        refine Eq.trans ?_ (det_run (S := fun d => impl_OutsBytes_s122 d.1 d.2.1 d.2.2.1 d.2.2.2) (fun i => (P l.length ++ (l.take i).flatMap frame, l, (l.length : Int), (i : Int))) hl (t := P l.length ++ l.flatMap frame) (fun i hi => ?_) ?_)
        · simp [impl_OutsBytes_l122]
        · have hm := hr _ (getD_mem (d := out0) hi)
          have h3 := frames_le (l := l.take i) (fun o ho => hr o (List.mem_of_mem_take ho))
          have h4 := take_le l i
          have h5 := P_le l.length
          have h6 := P_le (outB (l.getD i out0)).length
          have h7 := outB_le hm
          have hs := implOutBytes_eq hm
          simp only [impl_OutsBytes_s122, Int.toNat_natCast, wrap_nat (show i ≤ 1048576 by omega), Option.bind_some]
          rw [decide_eq_true (by omega : (i : Int) < l.length), cond_true, chk_dec (by omega), chk_dec hi, hs, Option.bind_some, implP, Option.bind_some, fits1 (by simp only [List.length_append]; omega), chk_tt, fits1 (by simp only [List.length_append]; omega), chk_tt,
            flatMap_take_succ frame l i out0 hi]
          simp only [frame, List.append_assoc]
        · simp only [impl_OutsBytes_s122, Option.bind_some]
          rw [decide_eq_false (by omega), cond_false, List.take_length]
      rw [this]
      rfl
    · rw [decide_eq_true (by omega), cond_true, if_neg h2]

/-! #### marks of a list of outs: one step -/
abbrev MkS := (((Unit) × ((Unit) × (Unit))) × ((Int) × ((Int) × (List OutT)))) ⊕ ((Int) × (List OutT))
def Good (m0 : List OutT) (i : Nat) (B : Int) (o : Option MkS) : Prop := ∃ c' z, o = some (.inl (((), (), ()), c', ((i + 1 : Nat) : Int), m0.set i z)) ∧ 0 ≤ c' ∧ c' ≤ B
structure Cur (m0 : List OutT) (i : Nat) (y : List OutT) (x : OutT) : Prop where
  len : y.length = m0.length
  get : y.getD i out0 = x
  set : ∀ z, y.set i z = m0.set i z
  is : ∃ z, y = m0.set i z

theorem good_chk {m0 : List OutT} {i : Nat} {B : Int} {p : Prop} [Decidable p] {k : Option MkS} (h : p) (g : Good m0 i B k) : Good m0 i B (chk (decide p) k) := by rw [chk_dec h]; exact g
theorem good_bind {α : Type} {m0 : List OutT} {i : Nat} {B : Int} {o : Option α} {k : α → Option MkS} {a : α} (h : o = some a) (g : Good m0 i B (k a)) : Good m0 i B (Option.bind o k) := by rw [h]; exact g
theorem good_set {m0 y : List OutT} {i : Nat} {B : Int} {k : List OutT → Option MkS} {x z z' : OutT} (hc : Cur m0 i y x) (hi : i < m0.length) (hz : z = z') (g : ∀ w, Cur m0 i w z' → Good m0 i B (k w)) : Good m0 i B (Option.bind (some (y.set i z)) k) := by
  subst hz
  rw [Option.bind_some]
  refine g _ ⟨by rw [List.length_set, hc.len], by rw [hc.set, getD_set_self hi], fun z2 => ?_, ?_⟩
  · rw [List.set_set, hc.set]
  · exact ⟨z, hc.set z⟩

theorem markOutS_step {m : List OutT} {i : Nat} {c : Int} (him : i < m.length) (hi2 : i < 1048576) (h : EnLe small (m.getD i out0).2) (hc0 : 0 ≤ c) (hc2 : c ≤ 1152930000000000000) :
    Good m i (c + 1099517919240) (laws_markOutS_s26 c (i : Int) m) := by
  obtain ⟨w1, w2, w3, w4, w5⟩ := h
  have g1 : (0 : Int) ≤ (i : Int) := by omega
  have q1 := wrap_big (i := c) (by omega) (by omega)
  have q2 := wrap_big (i := c + 1) (by omega) (by omega)
  have q3 := wrap_big (i := c + 1 + 1) (by omega) (by omega)
  obtain ⟨k1, l1, e1, p1, b1⟩ := markSpanS_some (k := c + 1 + 1 + 1) w1 (by omega) (by omega)
  have q4 := wrap_big (i := k1) (by omega) (by omega)
  have q5 := wrap_big (i := k1 + 1) (by omega) (by omega)
  have q6 := wrap_big (i := k1 + 1 + 1) (by omega) (by omega)
  have q7 := wrap_big (i := k1 + 1 + 1 + 1) (by omega) (by omega)
  obtain ⟨k2, l2, e2, p2, b2⟩ := markIntS_some (k := k1 + 1 + 1 + 1 + 1) w2 (by omega) (by omega)
  obtain ⟨k3, l3, e3, p3, b3⟩ := markIntS_some (k := k2) w3 p2 (by omega)
  obtain ⟨k4, l4, e4, p4, b4⟩ := markIntSS_some (k := k3) w4 w5 p3 (by omega)
  have hc : Cur m i m (m.getD i out0) := ⟨rfl, rfl, fun _ => rfl, m.getD i out0, by simp [List.getD_eq_getElem?_getD, List.getElem?_eq_getElem him]⟩
  unfold laws_markOutS_s26
  rw [Option.bind_some, decide_eq_true (by omega : (i : Int) < m.length), cond_true]
  simp only [Int.toNat_natCast]
  generalize m.getD i out0 = o at hc e1 e2 e3 e4
  obtain ⟨o1, o2, o3, o4, o5, o6, o7, o8, o9, o10, o11⟩ := o
  dsimp only [hist, regs, rows] at e1 e2 e3 e4
  refine good_chk g1 (good_chk (show i < _ by rw [hc.len]; exact him) (good_chk (show i < _ by rw [hc.len]; exact him) ?_))
  refine good_set hc him (by first | rw [hc.get] | rfl) ?_
  clear hc
  intro w hc
  dsimp only at hc ⊢
  refine good_chk g1 (good_chk (show i < _ by rw [hc.len]; exact him) (good_chk (show i < _ by rw [hc.len]; exact him) ?_))
  refine good_set hc him (by first | rw [hc.get] | rfl) ?_
  clear hc
  intro w hc
  dsimp only at hc ⊢
  refine good_chk g1 (good_chk (show i < _ by rw [hc.len]; exact him) (good_chk (show i < _ by rw [hc.len]; exact him) ?_))
  refine good_set hc him (by first | rw [hc.get] | rfl) ?_
  clear hc
  intro w hc
  dsimp only at hc ⊢
  refine good_chk g1 (good_chk (show i < _ by rw [hc.len]; exact him) (good_chk (show i < _ by rw [hc.len]; exact him) ?_))
  refine good_bind (by rw [hc.get, q1, q2, q3]; exact e1) ?_
  try dsimp only
  refine good_set hc him (by first | rw [hc.get] | rfl) ?_
  clear hc
  intro w hc
  dsimp only at hc ⊢
  refine good_chk g1 (good_chk (show i < _ by rw [hc.len]; exact him) (good_chk (show i < _ by rw [hc.len]; exact him) ?_))
  refine good_set hc him (by first | rw [hc.get] | rfl) ?_
  clear hc
  intro w hc
  dsimp only at hc ⊢
  refine good_bind rfl ?_
  try dsimp only
  refine good_chk g1 (good_chk (show i < _ by rw [hc.len]; exact him) (good_chk (show i < _ by rw [hc.len]; exact him) ?_))
  refine good_set hc him (by first | rw [hc.get] | rfl) ?_
  clear hc
  intro w hc
  dsimp only at hc ⊢
  refine good_chk g1 (good_chk (show i < _ by rw [hc.len]; exact him) (good_chk (show i < _ by rw [hc.len]; exact him) ?_))
  refine good_set hc him (by first | rw [hc.get] | rfl) ?_
  clear hc
  intro w hc
  dsimp only at hc ⊢
  refine good_chk g1 (good_chk (show i < _ by rw [hc.len]; exact him) (good_chk (show i < _ by rw [hc.len]; exact him) ?_))
  refine good_set hc him (by first | rw [hc.get] | rfl) ?_
  clear hc
  intro w hc
  dsimp only at hc ⊢
  refine good_chk g1 (good_chk (show i < _ by rw [hc.len]; exact him) (good_chk (show i < _ by rw [hc.len]; exact him) ?_))
  refine good_bind (by rw [hc.get, q4, q5, q6, q7]; exact e2) ?_
  try dsimp only
  refine good_set hc him (by first | rw [hc.get] | rfl) ?_
  clear hc
  intro w hc
  dsimp only at hc ⊢
  refine good_chk g1 (good_chk (show i < _ by rw [hc.len]; exact him) (good_chk (show i < _ by rw [hc.len]; exact him) ?_))
  refine good_bind (by rw [hc.get]; exact e3) ?_
  try dsimp only
  refine good_set hc him (by first | rw [hc.get] | rfl) ?_
  clear hc
  intro w hc
  dsimp only at hc ⊢
  refine good_chk g1 (good_chk (show i < _ by rw [hc.len]; exact him) (good_chk (show i < _ by rw [hc.len]; exact him) ?_))
  refine good_bind (by rw [hc.get]; exact e4) ?_
  try dsimp only
  refine good_set hc him (by first | rw [hc.get] | rfl) ?_
  clear hc
  intro w hc
  dsimp only at hc ⊢
  rw [wrap_nat (by omega)]
  obtain ⟨z, hz⟩ := hc.is
  rw [hz]
  exact ⟨k4, z, rfl, by omega, by omega⟩

theorem markOutS_some {l : List OutT} (hl : l.length ≤ 1048576) (hr : ∀ o ∈ l, EnLe small o.2) : ∃ k' l', laws_markOutS l 1 = some (k', l') ∧ 0 ≤ k' := by
  obtain ⟨k', l', e1, e2, e3⟩ := mark_run (S := fun d => laws_markOutS_s26 d.2.1 d.2.2.1 d.2.2.2) out0 (l := l) (k := 1) 1099517919240 hl (by omega) (fun i c m hi hm hg hmem hc0 hc1 => by
    have := hr _ hmem
    rw [← hg] at this
    obtain ⟨c', z, f1, f2, f3⟩ := markOutS_step (by omega : i < m.length) (by omega) this hc0 (by omega)
    exact ⟨c', z, f1, f2, f3⟩) (fun c m hm => by
    show laws_markOutS_s26 c (l.length : Int) m = _
    unfold laws_markOutS_s26
    rw [Option.bind_some, decide_eq_false (by omega), cond_false])
  refine ⟨k', l', ?_, e2⟩
  unfold laws_markOutS laws_markOutS_l26
  rw [e1]
  rfl

theorem outsBytes_true {l : List OutT} (h : l.length ≤ big ∧ ∀ o ∈ l, EnLe big o.2) : laws_FnExactOutsBytes l = some true := by
  unfold laws_FnExactOutsBytes
  obtain ⟨r, e1, e2⟩ := szOutS_is l 1048576 h (by omega) (by omega)
  rw [e1, Option.bind_some]
  rcases e2 with rfl | ⟨e2, e3, l1, l2⟩
  · rfl
  rw [decide_eq_false (by omega), cond_false]
  obtain ⟨k', o', m1, m2⟩ := markOutS_some l1 l2
  have hb := outsB_le l2
  have hq : ∀ c : List Int, laws_eqByteS (outsB l) c = some (decide (outsB l = c)) := fun c => eqByteS_eq (by omega)
  simp only [toOutS_eq l1 l2, Option.bind_some, specOutsBytes_eq l1 l2, implOutsBytes_eq l1 l2, hq, lawsEqOutS_eq l1 l2, m1, decide_true, Bool.not_true, cond_false, decide_eq_false (show ¬ k' < 0 by omega)]
  rw [markByteS_eq (by omega) (by omega) (by omega)]
  simp only [Option.bind_some]
  rw [heldByteS_eq (by omega) (by omega) (by omega)]
  simp only [Option.bind_some, decide_eq_false (show ¬ (1 + ((outsB l).length : Int) < 0) by omega), cond_false, bne_self_eq_false]

end Go.Proofs.Ytcdkpfcfcjnooaa.Tw
