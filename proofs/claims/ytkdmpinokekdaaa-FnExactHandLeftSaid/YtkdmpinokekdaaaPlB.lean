/- Plain: HandLeft answers true on all arguments in bounds. No condition: lemmas. -/
import Derived.Test.YtkdmpinokekdaaaPlA
namespace Go.Proofs.Ytkdmpinokekdaaa.Tw
open Go.Mach
set_option linter.unusedVariables false

theorem spec_l21Ok_in {ls : List (List Int)} {i : Int} (h0 : 0 ≤ i) (hi : i < ls.length) (hr : (ls.getD i.toNat []).length ≤ 1048576) : spec_l21Ok_l7462 ls i 0 = some (if (ls.getD i.toNat []).all (inR · 1 200) then .inr (ls, i) else .inl false) := by
  unfold spec_l21Ok_l7462
  refine (iter_run (fun d : List (List Int) × Int × Int => (ls.getD i.toNat []).length - d.2.2.toNat) (fun d => d.1 = ls ∧ d.2.1 = i ∧ 0 ≤ d.2.2 ∧ d.2.2 ≤ (ls.getD i.toNat []).length)
    (fun d => if ((ls.getD i.toNat []).drop d.2.2.toNat).all (inR · 1 200) then .inr (ls, i) else .inl false) ?_ bigN (ls, i, 0) ⟨rfl, rfl, by simp, by simp⟩ (by simp only [bigN]; omega)).trans (by simp only [Int.toNat_zero, List.drop_zero])
  rintro ⟨l1, i1, j⟩ ⟨e1, e2, h2, h3⟩
  dsimp only at e1 e2 h2 h3 ⊢
  subst e1 e2
  simp only [spec_l21Ok_s7462, Bool.cond_decide]
  rw [chk_dec h0, chk_dec (by omega)]
  generalize l1.getD i1.toNat [] = r at hr h3 ⊢
  by_cases h : j < (r.length : Int)
  · have hn : j.toNat < r.length := by omega
    rw [if_pos h, chk_dec h0, chk_dec (by omega), chk_dec h2, chk_dec hn, spec_l1In_eq, wrap_i64 (by omega) (by omega), getD_drop r j.toNat 0 hn]
    generalize r.getD j.toNat 0 = v
    simp only [Option.bind_some, List.all_cons]
    rcases Bool.eq_false_or_eq_true (inR v 1 200) with hq | hq
    case inr => right; simp [hq]
    case inl =>
      left
      simp only [hq]
      refine ⟨_, rfl, ⟨rfl, rfl, by dsimp only; omega, by dsimp only; omega⟩, by dsimp only; omega, ?_⟩
      simp only [toNat_succ h2, Bool.true_and]
  · right
    rw [if_neg h, List.drop_of_length_le (by omega)]
    rfl

theorem spec_l21Ok_eq {ls : List (List Int)} (hl : ls.length ≤ 1048576) (hr : ∀ r ∈ ls, r.length ≤ 1048576) : spec_l21Ok ls = some (loadsOk ls) := by
  unfold spec_l21Ok loadsOk
  have : spec_l21Ok_l58 ls 0 = some (if ls.all listOk then .inr () else .inl false) := by
    unfold spec_l21Ok_l58
    refine (iter_run (fun d : List (List Int) × Int => ls.length - d.2.toNat) (fun d => d.1 = ls ∧ 0 ≤ d.2 ∧ d.2 ≤ ls.length)
      (fun d => if (ls.drop d.2.toNat).all listOk then .inr () else .inl false) ?_ bigN (ls, 0) ⟨rfl, by simp, by simp⟩ (by simp only [bigN]; omega)).trans (by simp only [Int.toNat_zero, List.drop_zero])
    rintro ⟨l2, i⟩ ⟨e1, h0, h1⟩
    dsimp only at e1 h0 h1 ⊢
    subst e1
    simp only [spec_l21Ok_s58, Bool.cond_decide]
    by_cases h : i < (l2.length : Int)
    · have hn : i.toNat < l2.length := by omega
      have hm : l2.getD i.toNat [] ∈ l2 := by simp [List.getD_eq_getElem?_getD, List.getElem?_eq_getElem hn]
      rw [if_pos h, chk_dec h0, chk_dec hn, spec_l21Ok_in h0 h (hr _ hm), getD_drop l2 i.toNat [] hn]
      generalize l2.getD i.toNat [] = r
      simp only [Option.bind_some, List.all_cons]
      by_cases h40 : (r.length : Int) > 40
      · right
        have : listOk r = false := by simp [listOk]; omega
        simp [this, h40]
      · have h4 : decide (r.length ≤ 40) = true := by simp; omega
        rw [if_neg h40]
        cases hq : r.all (inR · 1 200) with
        | false =>
          right
          have : listOk r = false := by simp [listOk, hq]
          simp [this]
        | true =>
          left
          have : listOk r = true := by simp only [listOk, h4, hq]; rfl
          refine ⟨_, rfl, ⟨rfl, by dsimp only; rw [wrap_i64 (by omega) (by omega)]; omega, by dsimp only; rw [wrap_i64 (by omega) (by omega)]; omega⟩, by dsimp only; rw [wrap_i64 (by omega) (by omega)]; omega, ?_⟩
          dsimp only
          rw [wrap_i64 (by omega) (by omega)]
          simp only [toNat_succ h0, this, Bool.true_and]
    · right
      rw [if_neg h, List.drop_of_length_le (by omega)]
      rfl
  rw [this]
  by_cases h3 : ls.length = 3
  · have : ((ls.length : Int) != 3) = false := by simp; omega
    rw [this]
    have : (ls.length == 3) = true := by simp [h3]
    rw [this]
    cases hq : ls.all listOk <;> rfl
  · have : ((ls.length : Int) != 3) = true := by simp; omega
    rw [this]
    have : (ls.length == 3) = false := by simp [h3]
    rw [this]
    simp

theorem spec_l6Agent_eq (x : Int) : spec_l6Agent x = some (inR x 0 2) := by
  unfold spec_l6Agent
  rw [spec_l1In_eq]
  rfl

theorem spec_l1Bit_eq (b : Bool) : spec_l1Bit b = some (if b then 1 else 0) := by cases b <;> rfl

def cnt (v : Int) : List Int → Int
  | [] => 0
  | x :: xs => (if x == v then 1 else 0) + cnt v xs

theorem spec_l21Times_eq {l : List Int} (v : Int) (hl : l.length ≤ 1048576) : spec_l21Times l v = some (cnt v l) := by
  unfold spec_l21Times
  have : spec_l21Times_l58 l v 0 0 = some (cnt v l) := by
    unfold spec_l21Times_l58
    refine (iter_run (fun d : List Int × Int × Int × Int => l.length - d.2.2.2.toNat) (fun d => d.1 = l ∧ d.2.1 = v ∧ 0 ≤ d.2.2.1 ∧ d.2.2.1 ≤ d.2.2.2 ∧ d.2.2.2 ≤ l.length)
      (fun d => d.2.2.1 + cnt v (l.drop d.2.2.2.toNat)) ?_ bigN (l, v, 0, 0) ⟨rfl, rfl, by simp, by simp, by simp⟩ (by simp only [bigN]; omega)).trans (by simp)
    rintro ⟨l2, v2, n, i⟩ ⟨e1, e2, h0, h1, h2⟩
    dsimp only at e1 e2 h0 h1 h2 ⊢
    subst e1 e2
    simp only [spec_l21Times_s58, Bool.cond_decide]
    by_cases h : i < (l2.length : Int)
    · have hn : i.toNat < l2.length := by omega
      rw [if_pos h, chk_dec (by omega), chk_dec hn, spec_l1Bit_eq, getD_drop l2 i.toNat 0 hn]
      generalize l2.getD i.toNat 0 = r
      simp only [Option.bind_some, cnt]
      left
      cases r == v2
      · simp only [Bool.false_eq_true, if_false, Int.add_zero, Int.zero_add]
        rw [wrap_i64 (by omega) (by omega), wrap_i64 (by omega) (by omega)]
        refine ⟨_, rfl, ⟨rfl, rfl, by dsimp only; omega, by dsimp only; omega, by dsimp only; omega⟩, by dsimp only; omega, ?_⟩
        simp only [toNat_succ (by omega : 0 ≤ i)]
      · simp only [if_true]
        rw [wrap_i64 (by omega) (by omega), wrap_i64 (by omega) (by omega)]
        refine ⟨_, rfl, ⟨rfl, rfl, by dsimp only; omega, by dsimp only; omega, by dsimp only; omega⟩, by dsimp only; omega, ?_⟩
        simp only [toNat_succ (by omega : 0 ≤ i)]
        omega
    · right
      rw [if_neg h, List.drop_of_length_le (by omega)]
      simp [cnt]
  rw [this]
  rfl

theorem impl_often_eq {l : List Int} (v : Int) (hl : l.length ≤ 1048576) : impl_often l v = some (cnt v l) := by
  unfold impl_often
  have : impl_often_l58 v 0 l l.length 0 = some (cnt v l) := by
    unfold impl_often_l58
    refine (iter_run (fun d : Int × Int × List Int × Int × Int => l.length - d.2.2.2.2.toNat) (fun d => d.1 = v ∧ d.2.2.1 = l ∧ d.2.2.2.1 = l.length ∧ 0 ≤ d.2.1 ∧ d.2.1 ≤ d.2.2.2.2 ∧ d.2.2.2.2 ≤ l.length)
      (fun d => d.2.1 + cnt v (l.drop d.2.2.2.2.toNat)) ?_ bigN (v, 0, l, l.length, 0) ⟨rfl, rfl, rfl, by simp, by simp, by simp⟩ (by simp only [bigN]; omega)).trans (by simp)
    rintro ⟨v2, n, l2, m, i⟩ ⟨e1, e2, e3, h0, h1, h2⟩
    dsimp only at e1 e2 e3 h0 h1 h2 ⊢
    subst e1 e2 e3
    simp only [impl_often_s58, Bool.cond_decide]
    by_cases h : i < (l2.length : Int)
    · have hn : i.toNat < l2.length := by omega
      rw [if_pos h, chk_dec (by omega), chk_dec hn, getD_drop l2 i.toNat 0 hn]
      generalize l2.getD i.toNat 0 = r
      simp only [cnt]
      left
      cases r == v2
      · simp only [Bool.false_eq_true, if_false, Int.zero_add, cond_false]
        rw [wrap_i64 (by omega) (by omega)]
        refine ⟨_, rfl, ⟨rfl, rfl, rfl, by dsimp only; omega, by dsimp only; omega, by dsimp only; omega⟩, by dsimp only; omega, ?_⟩
        simp only [toNat_succ (by omega : 0 ≤ i)]
      · simp only [if_true, cond_true]
        rw [wrap_i64 (by omega) (by omega), wrap_i64 (by omega) (by omega)]
        refine ⟨_, rfl, ⟨rfl, rfl, rfl, by dsimp only; omega, by dsimp only; omega, by dsimp only; omega⟩, by dsimp only; omega, ?_⟩
        simp only [toNat_succ (by omega : 0 ≤ i)]
        omega
    · right
      rw [if_neg h, List.drop_of_length_le (by omega)]
      simp [cnt]
  rw [this]
  rfl

def handLeft (ls : List (List Int)) (o : List Int) (a : Int) : Bool := loadsOk ls && (inR a 0 2 && decide (((ls.getD a.toNat []).length : Int) > cnt a o))

theorem loadsOk_len {ls : List (List Int)} (h : loadsOk ls = true) : ls.length = 3 := by
  simp only [loadsOk, Bool.and_eq_true, beq_iff_eq] at h
  exact h.2

theorem inR_iff {x a b : Int} : inR x a b = true ↔ a ≤ x ∧ x ≤ b := by simp [inR]

theorem spec_HandLeft_eq {ls : List (List Int)} {o : List Int} {a : Int} (hl : ls.length ≤ 1048576) (hr : ∀ r ∈ ls, r.length ≤ 1048576) (ho : o.length ≤ 1048576) : spec_HandLeft ls o a = some (handLeft ls o a) := by
  unfold spec_HandLeft handLeft
  rw [spec_l21Ok_eq hl hr, spec_l6Agent_eq, spec_l21Times_eq a ho]
  cases h1 : loadsOk ls with
  | false => rfl
  | true =>
    cases h2 : inR a 0 2 with
    | false => rfl
    | true =>
      have := loadsOk_len h1
      have := inR_iff.mp h2
      simp only [Option.bind_some, cond_true]
      rw [chk_dec (by omega), chk_dec (by omega)]
      rfl

theorem impl_HandLeft_eq {ls : List (List Int)} {o : List Int} {a : Int} (hl : ls.length ≤ 1048576) (hr : ∀ r ∈ ls, r.length ≤ 1048576) (ho : o.length ≤ 1048576) : impl_HandLeft ls o a = some (handLeft ls o a) := by
  unfold impl_HandLeft handLeft
  rw [impl_loadsOk_eq hl hr, impl_within_eq, impl_often_eq a ho]
  cases h2 : inR a 0 2 with
  | false => cases h1 : loadsOk ls <;> rfl
  | true =>
    cases h1 : loadsOk ls with
    | false => rfl
    | true =>
      have := loadsOk_len h1
      have := inR_iff.mp h2
      simp only [Option.bind_some, cond_true]
      rw [chk_dec (by omega), chk_dec (by omega)]
      rfl

theorem laws_FnExactHandLeft_true {ls : List (List Int)} {o : List Int} {a : Int} (hl : ls.length ≤ 9223372036854775807) (hr : ∀ r ∈ ls, r.length ≤ 9223372036854775807) : laws_FnExactHandLeft ls o a = some true := by
  unfold laws_FnExactHandLeft
  by_cases ho : (o.length : Int) > 1048576
  · rw [Bool.cond_decide, if_pos ho]
  rw [Bool.cond_decide, if_neg ho, laws_szIntSS_eq ⟨by omega, by omega⟩ hl hr]
  simp only [Option.bind_some, Bool.cond_decide]
  by_cases hz : szSS ls 1048576 < 0
  · rw [if_pos hz]
  rw [if_neg hz]
  have hs := szSS_ok (ls := ls) (a := 1048576) (by omega) (by omega)
  have hl' : ls.length ≤ 1048576 := by omega
  have hr' : ∀ r ∈ ls, r.length ≤ 1048576 := fun r hr => by have := hs.2 r hr; omega
  have ho' : o.length ≤ 1048576 := by omega
  rw [laws_toIntSS_eq hl' hr', laws_toIntS_eq ho']
  simp only [Option.bind_some]
  rw [spec_HandLeft_eq hl' hr' ho', impl_HandLeft_eq hl' hr' ho', laws_eqIntSS_refl hl' hr', laws_eqIntS_refl ho']
  cases handLeft ls o a <;> rfl

end Go.Proofs.Ytkdmpinokekdaaa.Tw
