/- Plain: rows that are right, and their size; FnExactRowSize. No condition: lemmas. -/
import Derived.Test.YtcdkpfcfcjnooaaPlH
namespace Go.Proofs.Ytcdkpfcfcjnooaa.Tw
open Go.Mach
set_option linter.unusedVariables false
set_option maxRecDepth 20000

/-! ### sets apart -/
def spanMeet (x y : SpanT) : Bool := decide (x.1 ≤ y.2) && decide (y.1 ≤ x.2)
def setApart (a b : List SpanT) : Bool := setOk a && (setOk b && a.all (fun x => b.all (fun y => !spanMeet x y)))

theorem specSetApart_eq {a b : List SpanT} (ha : a.length ≤ 1048576) (hb : b.length ≤ 1048576) : spec_SetApart a b = some (setApart a b) := by
  unfold spec_SetApart setApart
  rw [specSetOk_eq ha, specSetOk_eq hb]
  simp only [Option.bind_some]
  cases setOk a <;> cases setOk b <;> try rfl
  simp only [Bool.not_true, cond_false, Bool.true_and]
  have hin : ∀ i, i < a.length → spec_SetApart_l3730 a b (i : Int) 0 = some (bif b.all (fun y => !spanMeet (a.getD i (0, 0)) y) then .inr (a, b, (i : Int)) else .inl false) := by
    intro i hi
    rw [← all_range_all (0, 0) (fun y => !spanMeet (a.getD i (0, 0)) y) b]
    refine walkB (S := fun d => spec_SetApart_s3730 d.1 d.2.1 d.2.2.1 d.2.2.2) (fun k => (a, b, (i : Int), (k : Int))) hb (fun k => (fun y => !spanMeet (a.getD i (0, 0)) y) (b.getD k (0, 0))) (fun k hk => ?_) ?_
    · simp only [spec_SetApart_s3730, Int.toNat_natCast, wrap_nat (show k ≤ 1048576 by omega)]
      have h0 : (0 : Int) ≤ (i : Int) := by omega
      have h1 : (0 : Int) ≤ (k : Int) := by omega
      rw [decide_eq_true (by omega : (k : Int) < b.length), cond_true]
      simp only [chk_dec h0, chk_dec hi, chk_dec h1, chk_dec hk, spanMeet]
      generalize decide ((a.getD i (0, 0)).1 ≤ (b.getD k (0, 0)).2) = b1
      generalize decide ((b.getD k (0, 0)).1 ≤ (a.getD i (0, 0)).2) = b2
      cases b1 <;> cases b2 <;> rfl
    · simp only [spec_SetApart_s3730]
      rw [decide_eq_false (by omega), cond_false]
  have : spec_SetApart_l58 a b 0 = some (bif a.all (fun x => b.all (fun y => !spanMeet x y)) then .inr () else .inl false) := by
    rw [← all_range_all (0, 0) (fun x => b.all (fun y => !spanMeet x y)) a]
    refine walkB (S := fun d => spec_SetApart_s58 d.1 d.2.1 d.2.2) (fun i => (a, b, (i : Int))) ha (fun i => (fun x => b.all (fun y => !spanMeet x y)) (a.getD i (0, 0))) (fun i hi => ?_) ?_
    · simp only [spec_SetApart_s58]
      rw [decide_eq_true (by omega : (i : Int) < a.length), cond_true, hin i hi, Option.bind_some]
      cases b.all (fun y => !spanMeet (a.getD i (0, 0)) y)
      · rfl
      · simp only [cond_true, Sum.elim_inr, wrap_nat (show i ≤ 1048576 by omega)]
    · simp only [spec_SetApart_s58]
      rw [decide_eq_false (by omega), cond_false]
  rw [this]
  cases a.all (fun x => b.all (fun y => !spanMeet x y)) <;> rfl

theorem implSetApart_eq {a b : List SpanT} (ha : a.length ≤ 1048576) (hb : b.length ≤ 1048576) : impl_SetApart a b = some (setApart a b) := by
  unfold impl_SetApart setApart
  rw [implSetOk_eq ha, implSetOk_eq hb]
  simp only [Option.bind_some]
  cases setOk a <;> cases setOk b <;> try rfl
  simp only [Bool.not_true, cond_false, Bool.true_and]
  have hin : ∀ i, i < a.length → impl_SetApart_l14950 b (a.getD i (0, 0)).1 (a.getD i (0, 0)).2 a a.length (i : Int) b b.length 0 = some (bif b.all (fun y => !spanMeet (a.getD i (0, 0)) y) then .inr (b, a, (a.length : Int), (i : Int)) else .inl false) := by
    intro i hi
    rw [← all_range_all (0, 0) (fun y => !spanMeet (a.getD i (0, 0)) y) b]
    refine walkB (S := fun d => impl_SetApart_s14950 d.1 d.2.1.1 d.2.1.2 d.2.2.1 d.2.2.2.1 d.2.2.2.2.1 d.2.2.2.2.2.1 d.2.2.2.2.2.2.1 d.2.2.2.2.2.2.2) (fun k => (b, ((a.getD i (0, 0)).1, (a.getD i (0, 0)).2), a, (a.length : Int), (i : Int), b, (b.length : Int), (k : Int))) hb
      (fun k => (fun y => !spanMeet (a.getD i (0, 0)) y) (b.getD k (0, 0))) (fun k hk => ?_) ?_
    · simp only [impl_SetApart_s14950, Int.toNat_natCast, wrap_nat (show k ≤ 1048576 by omega)]
      have h1 : (0 : Int) ≤ (k : Int) := by omega
      rw [decide_eq_true (by omega : (k : Int) < b.length), cond_true]
      simp only [chk_dec h1, chk_dec hk, spanMeet]
      generalize decide ((a.getD i (0, 0)).1 ≤ (b.getD k (0, 0)).2) = b1
      generalize decide ((b.getD k (0, 0)).1 ≤ (a.getD i (0, 0)).2) = b2
      cases b1 <;> cases b2 <;> rfl
    · simp only [impl_SetApart_s14950]
      rw [decide_eq_false (by omega), cond_false]
  have : impl_SetApart_l58 b a a.length 0 = some (bif a.all (fun x => b.all (fun y => !spanMeet x y)) then .inr () else .inl false) := by
    rw [← all_range_all (0, 0) (fun x => b.all (fun y => !spanMeet x y)) a]
    refine walkB (S := fun d => impl_SetApart_s58 d.1 d.2.1 d.2.2.1 d.2.2.2) (fun i => (b, a, (a.length : Int), (i : Int))) ha (fun i => (fun x => b.all (fun y => !spanMeet x y)) (a.getD i (0, 0))) (fun i hi => ?_) ?_
    · simp only [impl_SetApart_s58, Int.toNat_natCast]
      have h0 : (0 : Int) ≤ (i : Int) := by omega
      rw [decide_eq_true (by omega : (i : Int) < a.length), cond_true]
      simp only [chk_dec h0, chk_dec hi]
      rw [hin i hi, Option.bind_some]
      cases b.all (fun y => !spanMeet (a.getD i (0, 0)) y)
      · rfl
      · simp only [cond_true, Sum.elim_inr, wrap_nat (show i ≤ 1048576 by omega)]
    · simp only [impl_SetApart_s58]
      rw [decide_eq_false (by omega), cond_false]
  rw [this]
  cases a.all (fun x => b.all (fun y => !spanMeet x y)) <;> rfl

/-! ### rows -/
abbrev ids (e : EntryT) := e.2.2.1
def rowAt (l : List EntryT) (i : Nat) : Bool := enOk (l.getD i ent0) && (List.range i).all (fun k => setApart (ids (l.getD i ent0)) (ids (l.getD k ent0)))
def rowApart (l : List EntryT) : Bool := (List.range l.length).all (rowAt l)
def rowOk (l : List EntryT) : Bool := decide (l.length ≤ 24) && rowApart l

theorem specRowOk_eq {l : List EntryT} (hl : l.length ≤ 1048576) (hr : ∀ e ∈ l, EnLe small e) : spec_RowOk l = some (rowOk l) := by
  unfold spec_RowOk rowOk
  by_cases h24 : l.length ≤ 24
  · rw [decide_eq_false (by omega), cond_false, decide_eq_true h24, Bool.true_and]
    have hin : ∀ i, i < l.length → spec_RowOk_l7462 l (i : Int) 0 = some (bif (List.range i).all (fun k => setApart (ids (l.getD i ent0)) (ids (l.getD k ent0))) then .inr (l, (i : Int)) else .inl false) := by
      intro i hi
      refine walkB (S := fun d => spec_RowOk_s7462 d.1 d.2.1 d.2.2) (fun k => (l, (i : Int), (k : Int))) (by omega) (fun k => setApart (ids (l.getD i ent0)) (ids (l.getD k ent0))) (fun k hk => ?_) ?_
      · simp only [spec_RowOk_s7462, Int.toNat_natCast, wrap_nat (show k ≤ 1048576 by omega)]
        have hkl : k < l.length := by omega
        have h0 : (0 : Int) ≤ (i : Int) := by omega
        have h1 : (0 : Int) ≤ (k : Int) := by omega
        rw [decide_eq_true (by omega : (k : Int) < (i : Int)), cond_true]
        simp only [chk_dec h0, chk_dec hi, chk_dec h1, chk_dec hkl]
        rw [specSetApart_eq (hr _ (getD_mem (d := ent0) hi)).1 (hr _ (getD_mem (d := ent0) hkl)).1, Option.bind_some]
        cases setApart (ids (l.getD i ent0)) (ids (l.getD k ent0)) <;> rfl
      · simp only [spec_RowOk_s7462]
        rw [decide_eq_false (by omega), cond_false]
    have : spec_RowOk_l58 l 0 = some (bif rowApart l then .inr () else .inl false) := by
      refine walkB (S := fun d => spec_RowOk_s58 d.1 d.2) (fun i => (l, (i : Int))) hl (rowAt l) (fun i hi => ?_) ?_
      · simp only [spec_RowOk_s58, Int.toNat_natCast]
        have h0 : (0 : Int) ≤ (i : Int) := by omega
        rw [decide_eq_true (by omega : (i : Int) < l.length), cond_true]
        simp only [chk_dec h0, chk_dec hi]
        rw [specEntryOk_eq (hr _ (getD_mem (d := ent0) hi)), Option.bind_some, hin i hi, Option.bind_some]
        unfold rowAt
        generalize (List.range i).all (fun k => setApart (ids (l.getD i ent0)) (ids (l.getD k ent0))) = b2
        cases enOk (l.getD i ent0) <;> cases b2 <;> try rfl
        simp only [cond_true, Sum.elim_inr, wrap_nat (show i ≤ 1048576 by omega)]
        rfl
      · simp only [spec_RowOk_s58]
        rw [decide_eq_false (by omega), cond_false]
    rw [this]
    cases rowApart l <;> rfl
  · rw [decide_eq_true (by omega), cond_true, decide_eq_false h24]
    rfl

theorem implRowOk_eq {l : List EntryT} (hl : l.length ≤ 1048576) (hr : ∀ e ∈ l, EnLe small e) : impl_RowOk l = some (rowOk l) := by
  unfold impl_RowOk rowOk
  by_cases h24 : l.length ≤ 24
  · rw [decide_eq_true (by omega), cond_true, decide_eq_true h24, Bool.true_and]
    unfold impl_apart
    have hin : ∀ (i : Nat) (x : EntryT), i < l.length → x = l.getD i ent0 → impl_apart_l13518 l x.1 x.2.1 x.2.2.1 x.2.2.2.1 x.2.2.2.2.1 x.2.2.2.2.2.1 x.2.2.2.2.2.2.1 x.2.2.2.2.2.2.2.1 x.2.2.2.2.2.2.2.2.1 x.2.2.2.2.2.2.2.2.2 l l.length (i : Int) (l.take i) ((l.take i).length : Int) 0 =
        some (bif (List.range i).all (fun k => setApart (ids (l.getD i ent0)) (ids (l.getD k ent0))) then .inr (l, l, (l.length : Int), (i : Int)) else .inl false) := by
      intro i x hi hx
      have hlen : (l.take i).length = i := by simp; omega
      refine walkB (S := fun d => impl_apart_s13518 d.1 d.2.1.1 d.2.1.2.1 d.2.1.2.2.1 d.2.1.2.2.2.1 d.2.1.2.2.2.2.1 d.2.1.2.2.2.2.2.1 d.2.1.2.2.2.2.2.2.1 d.2.1.2.2.2.2.2.2.2.1 d.2.1.2.2.2.2.2.2.2.2.1 d.2.1.2.2.2.2.2.2.2.2.2 d.2.2.1 d.2.2.2.1 d.2.2.2.2.1 d.2.2.2.2.2.1 d.2.2.2.2.2.2.1 d.2.2.2.2.2.2.2)
        (fun k => (l, x, l, (l.length : Int), (i : Int), l.take i, ((l.take i).length : Int), (k : Int))) (by omega) (fun k => setApart (ids (l.getD i ent0)) (ids (l.getD k ent0))) (fun k hk => ?_) ?_
      · simp only [impl_apart_s13518, Int.toNat_natCast, wrap_nat (show k ≤ 1048576 by omega)]
        have hkl : k < l.length := by omega
        have hkt : k < (l.take i).length := by omega
        have h1 : (0 : Int) ≤ (k : Int) := by omega
        have hget : (l.take i).getD k ent0 = l.getD k ent0 := by
          simp only [List.getD_eq_getElem?_getD, List.getElem?_take_of_lt hk]
        rw [decide_eq_true (by omega : (k : Int) < ((l.take i).length : Int)), cond_true]
        simp only [chk_dec h1, chk_dec hkt]
        rw [hget, implSetApart_eq (by rw [hx]; exact (hr _ (getD_mem (d := ent0) hi)).1) (hr _ (getD_mem (d := ent0) hkl)).1, Option.bind_some, hx]
        cases setApart (ids (l.getD i ent0)) (ids (l.getD k ent0)) <;> rfl
      · simp only [impl_apart_s13518]
        rw [decide_eq_false (by omega), cond_false]
    have : impl_apart_l26 l l l.length 0 = some (bif rowApart l then .inr () else .inl false) := by
      refine walkB (S := fun d => impl_apart_s26 d.1 d.2.1 d.2.2.1 d.2.2.2) (fun i => (l, l, (l.length : Int), (i : Int))) hl (rowAt l) (fun i hi => ?_) ?_
      · simp only [impl_apart_s26, Int.toNat_natCast]
        have h0 : (0 : Int) ≤ (i : Int) := by omega
        rw [decide_eq_true (by omega : (i : Int) < l.length), cond_true]
        have hc : (0 : Nat) ≤ i ∧ i ≤ l.length := ⟨by omega, by omega⟩
        simp only [chk_dec h0, chk_dec hi, chk_dec hc]
        rw [implEntryOk_eq (hr _ (getD_mem (d := ent0) hi)), Option.bind_some, hin i (l.getD i ent0) hi rfl, Option.bind_some]
        unfold rowAt
        generalize (List.range i).all (fun k => setApart (ids (l.getD i ent0)) (ids (l.getD k ent0))) = b2
        cases enOk (l.getD i ent0) <;> cases b2 <;> try rfl
        simp only [cond_true, Sum.elim_inr, wrap_nat (show i ≤ 1048576 by omega)]
        rfl
      · simp only [impl_apart_s26]
        rw [decide_eq_false (by omega), cond_false]
    rw [this]
    cases rowApart l <;> rfl
  · rw [decide_eq_false (by omega), cond_false, decide_eq_false h24]
    rfl

/-! ### sizes of entries -/
def pos (l : List Int) : Nat := l.countP (fun x => decide (x > 0))

theorem pos_take {l : List Int} {i : Nat} (hi : i < l.length) : pos (l.take (i + 1)) = pos (l.take i) + (if l.getD i 0 > 0 then 1 else 0) := by
  unfold pos
  rw [List.take_succ_eq_append_getElem hi, List.countP_append]
  simp [List.getD_eq_getElem?_getD, List.getElem?_eq_getElem hi]

theorem pos_le (l : List Int) : pos l ≤ l.length := List.countP_le_length

theorem l6Full_eq {l : List Int} (hl : l.length ≤ 1048576) : spec_l6Full l = some (pos l : Int) := by
  unfold spec_l6Full
  have : spec_l6Full_l58 l 0 0 = some (pos l : Int) := by
    have e0 : (0 : Int) = ((pos (l.take 0) : Nat) : Int) := by simp [pos]
    refine Eq.trans ?_ (det_run (S := fun d => spec_l6Full_s58 d.1 d.2.1 d.2.2) (fun i => (l, ((pos (l.take i) : Nat) : Int), (i : Int))) hl (t := (pos l : Int)) (fun i hi => ?_) ?_)
    · simp [spec_l6Full_l58, pos]
    · have h0 : (0 : Int) ≤ (i : Int) := by omega
      simp only [spec_l6Full_s58, spec_l1Bit, Int.toNat_natCast, wrap_nat (show i ≤ 1048576 by omega)]
      rw [decide_eq_true (by omega : (i : Int) < l.length), cond_true]
      simp only [chk_dec h0, chk_dec hi, pos_take hi]
      have hb := pos_le (l.take i)
      rw [List.length_take] at hb
      by_cases hp : l.getD i 0 > 0
      · rw [decide_eq_true hp, if_pos hp]
        simp only [cond_true, Option.bind_some]
        rw [wrap_i64 (by omega) (by omega)]
        rfl
      · rw [decide_eq_false hp, if_neg hp]
        simp only [cond_false, Option.bind_some]
        rw [wrap_i64 (by omega) (by omega)]
        simp
    · simp only [spec_l6Full_s58]
      rw [decide_eq_false (by omega), cond_false, List.take_length]
  rw [this]
  rfl

def enSize (e : EntryT) : Int := if enOk e then 4 + pos (hist e.2.2.2) + pos (regs e.2.2.2) + pos ((rows e.2.2.2).getD 0 []) + pos ((rows e.2.2.2).getD 1 []) + 2 * (ids e).length else 0

theorem enOk_sk {e : EntryT} (h : enOk e = true) : SkOk e.2.2.2 := by
  simp only [enOk, Bool.and_eq_true] at h
  exact skOk_iff.1 h.2

theorem specEntrySize_eq {e : EntryT} (h : EnLe small e) : spec_EntrySize e.1 e.2.1 e.2.2.1 e.2.2.2.1 e.2.2.2.2.1 e.2.2.2.2.2.1 e.2.2.2.2.2.2.1 e.2.2.2.2.2.2.2.1 e.2.2.2.2.2.2.2.2.1 e.2.2.2.2.2.2.2.2.2 = some (enSize e) := by
  unfold spec_EntrySize enSize
  rw [specEntryOk_eq h, Option.bind_some]
  cases he : enOk e with
  | false => rfl
  | true =>
    obtain ⟨s1, s2, s3, s4, s5, ⟨r0, r1, s6, s7, s8⟩, s9, s10, s11⟩ := enOk_sk he
    have hids : (ids e).length ≤ 1048576 := h.1
    have hr : e.2.2.2.2.2.2.2.2.2 = [r0, r1] := s6
    have hr2 : rows e.2.2.2 = [r0, r1] := s6
    have hh : e.2.2.2.2.2.2.2.1.length = 8 := s10.1
    have hg : e.2.2.2.2.2.2.2.2.1.length = 8 := s11.1
    have p1 := pos_le e.2.2.2.2.2.2.2.1
    have p2 := pos_le e.2.2.2.2.2.2.2.2.1
    have p3 := pos_le r0
    have p4 := pos_le r1
    have g0 : List.getD [r0, r1] 0 [] = r0 := rfl
    have g1 : List.getD [r0, r1] 1 [] = r1 := rfl
    simp only [Bool.not_true, cond_false, if_true]
    have c0 : 0 < [r0, r1].length := by simp
    have c1 : 1 < [r0, r1].length := by simp
    rw [hr2, hr, g0, g1, l6Full_eq (by omega), l6Full_eq (by omega), l6Full_eq (by omega), l6Full_eq (by omega)]
    simp only [Option.bind_some, chk_dec c0, chk_dec c1]
    dsimp only [ids, hist, regs] at hids ⊢
    have w1 : IntKind.wrap .i64 (4 + (pos e.2.2.2.2.2.2.2.1 : Int)) = 4 + (pos e.2.2.2.2.2.2.2.1 : Int) := wrap_i64 (by omega) (by omega)
    have w2 : IntKind.wrap .i64 (4 + (pos e.2.2.2.2.2.2.2.1 : Int) + (pos e.2.2.2.2.2.2.2.2.1 : Int)) = 4 + (pos e.2.2.2.2.2.2.2.1 : Int) + (pos e.2.2.2.2.2.2.2.2.1 : Int) := wrap_i64 (by omega) (by omega)
    have w3 : IntKind.wrap .i64 (4 + (pos e.2.2.2.2.2.2.2.1 : Int) + (pos e.2.2.2.2.2.2.2.2.1 : Int) + (pos r0 : Int)) = 4 + (pos e.2.2.2.2.2.2.2.1 : Int) + (pos e.2.2.2.2.2.2.2.2.1 : Int) + (pos r0 : Int) := wrap_i64 (by omega) (by omega)
    have w4 : IntKind.wrap .i64 (4 + (pos e.2.2.2.2.2.2.2.1 : Int) + (pos e.2.2.2.2.2.2.2.2.1 : Int) + (pos r0 : Int) + (pos r1 : Int)) = 4 + (pos e.2.2.2.2.2.2.2.1 : Int) + (pos e.2.2.2.2.2.2.2.2.1 : Int) + (pos r0 : Int) + (pos r1 : Int) := wrap_i64 (by omega) (by omega)
    have w5 : IntKind.wrap .i64 (2 * (e.2.2.1.length : Int)) = 2 * (e.2.2.1.length : Int) := wrap_i64 (by omega) (by omega)
    rw [w1, w2, w3, w4, w5, wrap_i64 (by omega) (by omega)]

theorem pos_append (a b : List Int) : pos (a ++ b) = pos a + pos b := List.countP_append

theorem implEntrySize_eq {e : EntryT} (h : EnLe small e) : impl_EntrySize e.1 e.2.1 e.2.2.1 e.2.2.2.1 e.2.2.2.2.1 e.2.2.2.2.2.1 e.2.2.2.2.2.2.1 e.2.2.2.2.2.2.2.1 e.2.2.2.2.2.2.2.2.1 e.2.2.2.2.2.2.2.2.2 = some (enSize e) := by
  unfold impl_EntrySize enSize
  rw [implEntryOk_eq h, Option.bind_some]
  cases he : enOk e with
  | false => rfl
  | true =>
    obtain ⟨s1, s2, s3, s4, s5, ⟨r0, r1, s6, s7, s8⟩, s9, s10, s11⟩ := enOk_sk he
    have hids : (ids e).length ≤ 1048576 := h.1
    have hr : e.2.2.2.2.2.2.2.2.2 = [r0, r1] := s6
    have hr2 : rows e.2.2.2 = [r0, r1] := s6
    have hh : e.2.2.2.2.2.2.2.1.length = 8 := s10.1
    have hg : e.2.2.2.2.2.2.2.2.1.length = 8 := s11.1
    have g0 : List.getD [r0, r1] 0 [] = r0 := rfl
    have g1 : List.getD [r0, r1] 1 [] = r1 := rfl
    simp only [Bool.not_true, cond_false, if_true]
    rw [hr2, hr, g0, g1, counts_eq (by omega) (by omega) (by omega) (by omega)]
    simp only [Option.bind_some]
    dsimp only [ids, hist, regs] at hids ⊢
    have w5 : IntKind.wrap .i64 (2 * (e.2.2.1.length : Int)) = 2 * (e.2.2.1.length : Int) := wrap_i64 (by omega) (by omega)
    rw [w5, wrap_i64 (by omega) (by omega)]
    generalize hL : e.2.2.2.2.2.2.2.1 ++ e.2.2.2.2.2.2.2.2.1 ++ r0 ++ r1 = L
    have hLlen : L.length = 24 := by rw [← hL]; simp; omega
    have hpos : pos L = pos e.2.2.2.2.2.2.2.1 + pos e.2.2.2.2.2.2.2.2.1 + pos r0 + pos r1 := by rw [← hL]; simp only [pos_append]
    have : impl_EntrySize_l122 (4 + 2 * (e.2.2.1.length : Int)) L L.length 0 = some (4 + 2 * (e.2.2.1.length : Int) + (pos L : Int)) := by
      refine Eq.trans ?_ (det_run (S := fun d => impl_EntrySize_s122 d.1 d.2.1 d.2.2.1 d.2.2.2) (fun i => (4 + 2 * (e.2.2.1.length : Int) + ((pos (L.take i) : Nat) : Int), L, (L.length : Int), (i : Int))) (n := L.length) (by omega) (t := 4 + 2 * (e.2.2.1.length : Int) + (pos L : Int)) (fun i hi => ?_) ?_)
      · simp [impl_EntrySize_l122, pos]
      · have h0 : (0 : Int) ≤ (i : Int) := by omega
        simp only [impl_EntrySize_s122, Int.toNat_natCast, wrap_nat (show i ≤ 1048576 by omega)]
        rw [decide_eq_true (by omega : (i : Int) < L.length), cond_true]
        simp only [chk_dec h0, chk_dec hi, pos_take hi]
        have hb := pos_le (L.take i)
        rw [List.length_take] at hb
        by_cases hp : L.getD i 0 > 0
        · rw [decide_eq_true hp, if_pos hp, cond_true, wrap_i64 (by omega) (by omega)]
          have : 4 + 2 * (e.2.2.1.length : Int) + ((pos (L.take i) : Nat) : Int) + 1 = 4 + 2 * (e.2.2.1.length : Int) + ((pos (L.take i) + 1 : Nat) : Int) := by omega
          rw [this]
        · rw [decide_eq_false hp, if_neg hp, cond_false]
          simp
      · simp only [impl_EntrySize_s122]
        rw [decide_eq_false (by omega), cond_false, List.take_length]
    rw [this, hpos]
    simp only [Option.bind_some]
    congr 1
    omega

/-! ### sizes of rows -/
def accE (l : List EntryT) : Nat → Int
  | 0 => 0
  | i + 1 => IntKind.wrap .i64 (accE l i + enSize (l.getD i ent0))

def rowSize (l : List EntryT) : Int := bif rowOk l then accE l l.length else 0

theorem specRowSize_eq {l : List EntryT} (hl : l.length ≤ 1048576) (hr : ∀ e ∈ l, EnLe small e) : spec_RowSize l = some (rowSize l) := by
  unfold spec_RowSize rowSize
  rw [specRowOk_eq hl hr, Option.bind_some]
  have : spec_RowSize_l122 l 0 0 = some (accE l l.length) := by
    refine det_run (S := fun d => spec_RowSize_s122 d.1 d.2.1 d.2.2) (fun i => (l, accE l i, (i : Int))) hl (fun i hi => ?_) ?_
    · have h0 : (0 : Int) ≤ (i : Int) := by omega
      simp only [spec_RowSize_s122, Int.toNat_natCast, wrap_nat (show i ≤ 1048576 by omega)]
      rw [decide_eq_true (by omega : (i : Int) < l.length), cond_true]
      simp only [chk_dec h0, chk_dec hi]
      rw [specEntrySize_eq (hr _ (getD_mem (d := ent0) hi)), Option.bind_some]
      rfl
    · simp only [spec_RowSize_s122]
      rw [decide_eq_false (by omega), cond_false]
  rw [this]
  cases rowOk l <;> rfl

theorem implRowSize_eq {l : List EntryT} (hl : l.length ≤ 1048576) (hr : ∀ e ∈ l, EnLe small e) : impl_RowSize l = some (rowSize l) := by
  unfold impl_RowSize rowSize
  rw [implRowOk_eq hl hr, Option.bind_some]
  have : impl_RowSize_l122 0 l l.length 0 = some (accE l l.length) := by
    refine det_run (S := fun d => impl_RowSize_s122 d.1 d.2.1 d.2.2.1 d.2.2.2) (fun i => (accE l i, l, (l.length : Int), (i : Int))) hl (fun i hi => ?_) ?_
    · have h0 : (0 : Int) ≤ (i : Int) := by omega
      simp only [impl_RowSize_s122, Int.toNat_natCast, wrap_nat (show i ≤ 1048576 by omega)]
      rw [decide_eq_true (by omega : (i : Int) < l.length), cond_true]
      simp only [chk_dec h0, chk_dec hi]
      rw [implEntrySize_eq (hr _ (getD_mem (d := ent0) hi)), Option.bind_some]
      rfl
    · simp only [impl_RowSize_s122]
      rw [decide_eq_false (by omega), cond_false]
  rw [this]
  cases rowOk l <;> rfl

theorem rowSize_true {a : List EntryT} (ha : a.length ≤ big ∧ ∀ e ∈ a, EnLe big e) : laws_FnExactRowSize a = some true := by
  unfold laws_FnExactRowSize laws_szRow
  obtain ⟨r, e1, e2⟩ := szEntryS_is a 1048576 ha (by omega) (by omega)
  rw [e1, Option.bind_some]
  rcases e2 with rfl | ⟨e2, e3, l1, l2⟩
  · rfl
  rw [decide_eq_false (by omega), cond_false, Option.bind_some, decide_eq_false (by omega), cond_false]
  simp only [laws_toRow, laws_eqRow, toEntryS_eq l1 l2, Option.bind_some, specRowSize_eq l1 l2, implRowSize_eq l1 l2, lawsEqEntryS_eq l1 l2]
  simp

end Go.Proofs.Ytcdkpfcfcjnooaa.Tw
