/- Plain: copies, comparisons and sizes of lists of numbers; HandLeft. No condition: lemmas. -/
import Derived.Test.YtkdmpinokekdaaaPl
import Derived.Test.YtkdmpinokekdaaaTw1
namespace Go.Proofs.Ytkdmpinokekdaaa.Tw
open Go.Mach
set_option linter.unusedVariables false

/-! ### sizes -/
theorem laws_szIntS_eq {l : List Int} {a : Int} (ha : 0 ≤ a ∧ a ≤ 1048576) (hl : l.length ≤ 9223372036854775807) : laws_szIntS l a = some (if a - l.length < 0 then -1 else a - l.length) := by
  unfold laws_szIntS
  rw [wrap_i64 (by omega) (by omega), Bool.cond_decide]
  split <;> rfl

def szGo : List (List Int) → Int → Int ⊕ Int
  | [], a => .inr a
  | r :: rs, a => if a - r.length < 0 then .inl (-1) else szGo rs (a - r.length)

theorem laws_szIntSS_l_eq {ls : List (List Int)} {a : Int} (ha : 0 ≤ a ∧ a ≤ 1048576) (hl : ls.length ≤ 9223372036854775807) (hr : ∀ r ∈ ls, r.length ≤ 9223372036854775807) : laws_szIntSS_l122 ls a 0 = some (szGo ls a) := by
  unfold laws_szIntSS_l122
  refine (iter_run (fun d : List (List Int) × Int × Int => d.1.length - d.2.2.toNat) (fun d => d.1 = ls ∧ 0 ≤ d.2.2 ∧ d.2.2 ≤ d.1.length ∧ 0 ≤ d.2.1 ∧ d.2.1 ≤ 1048576) (fun d => szGo (d.1.drop d.2.2.toNat) d.2.1) ?_ bigN (ls, a, 0) ⟨rfl, by simp, by simp, ha.1, ha.2⟩ (by simp [bigN]; omega)).trans (by simp)
  rintro ⟨l, b, i⟩ ⟨h, h0, h1, h2, h3⟩
  dsimp only at h h0 h1 h2 h3 ⊢
  subst h
  simp only [laws_szIntSS_s122, Bool.cond_decide]
  by_cases h : i < (l.length : Int)
  · have hn : i.toNat < l.length := by omega
    have hm : l.getD i.toNat [] ∈ l := by simp [List.getD_eq_getElem?_getD, List.getElem?_eq_getElem hn]
    rw [if_pos h, chk_dec h0, chk_dec hn, laws_szIntS_eq ⟨h2, h3⟩ (hr _ hm), wrap_i64 (by omega) (by omega)]
    simp only [Option.bind_some]
    rw [getD_drop l i.toNat [] hn]
    simp only [szGo]
    by_cases hb : b - (l.getD i.toNat []).length < 0
    · right
      rw [if_pos hb, if_pos hb, if_pos (by omega)]
    · left
      rw [if_neg hb, if_neg hb, if_neg hb]
      refine ⟨_, rfl, ⟨rfl, by dsimp only; omega, by dsimp only; omega, by dsimp only; omega, by dsimp only; omega⟩, by dsimp only; omega, ?_⟩
      simp only [toNat_succ h0]
  · right
    rw [if_neg h, List.drop_of_length_le (by omega)]
    rfl

def szSS (ls : List (List Int)) (a : Int) : Int := if a - ls.length < 0 then -1 else match szGo ls (a - ls.length) with
  | .inl b => b
  | .inr b => b

theorem laws_szIntSS_eq {ls : List (List Int)} {a : Int} (ha : 0 ≤ a ∧ a ≤ 1048576) (hl : ls.length ≤ 9223372036854775807) (hr : ∀ r ∈ ls, r.length ≤ 9223372036854775807) : laws_szIntSS ls a = some (szSS ls a) := by
  unfold laws_szIntSS szSS
  rw [wrap_i64 (by omega) (by omega), Bool.cond_decide]
  split
  · rfl
  · rename_i h
    rw [laws_szIntSS_l_eq ⟨by omega, by omega⟩ hl hr]
    simp only [Option.bind_some]
    cases szGo ls (a - ls.length) <;> rfl

theorem szGo_le : ∀ {ls : List (List Int)} {a : Int}, 0 ≤ a → (∃ b, szGo ls a = .inr b ∧ 0 ≤ b ∧ b ≤ a ∧ ∀ r ∈ ls, (r.length : Int) ≤ a) ∨ szGo ls a = .inl (-1)
  | [], a, h => .inl ⟨a, rfl, h, by omega, by simp⟩
  | r :: rs, a, h => by
    simp only [szGo]
    split
    · exact .inr rfl
    · rename_i hb
      rcases szGo_le (ls := rs) (a := a - r.length) (by omega) with ⟨b, h1, h2, h3, h4⟩ | h1
      · refine .inl ⟨b, h1, h2, by omega, fun r' hr' => ?_⟩
        simp only [List.mem_cons] at hr'
        rcases hr' with rfl | hr'
        · omega
        · have := h4 r' hr'; omega
      · exact .inr h1

theorem szSS_ok {ls : List (List Int)} {a : Int} (ha : 0 ≤ a) (h : 0 ≤ szSS ls a) : (ls.length : Int) ≤ a ∧ ∀ r ∈ ls, (r.length : Int) ≤ a := by
  unfold szSS at h
  split at h
  · omega
  · rename_i hb
    rcases szGo_le (ls := ls) (a := a - ls.length) (by omega) with ⟨b, h1, h2, h3, h4⟩ | h1
    · exact ⟨by omega, fun r hr => by have := h4 r hr; omega⟩
    · rw [h1] at h
      simp at h

/-! ### copies -/
theorem set_self {α : Type} (l m : List α) (i : Nat) (d : α) (h : i < l.length) (hm : m.length = l.length) : l.take (i + 1) ++ (m.set i (l.getD i d)).drop (i + 1) = (l.take i ++ m.drop i).set i (l.getD i d) := by
  apply List.ext_getElem?
  intro j
  by_cases hj : j = i
  · subst hj
    rw [List.getElem?_append_left (by simp; omega), List.getElem?_set_self (by simp; omega)]
    simp [List.getD_eq_getElem?_getD, List.getElem?_eq_getElem h]
  · rw [List.getElem?_set_ne (Ne.symm hj)]
    by_cases hlt : j < i
    · rw [List.getElem?_append_left (by simp; omega), List.getElem?_append_left (by simp; omega)]
      simp [List.getElem?_take, hlt, Nat.lt_succ_of_lt hlt]
    · rw [List.getElem?_append_right (by simp; omega), List.getElem?_append_right (by simp; omega)]
      simp only [List.length_take, List.getElem?_drop]
      rw [List.getElem?_set_ne (by omega)]
      congr 1
      omega

/-- A loop that copies: what was copied so far, and the rest. -/
def copied {α : Type} (l m : List α) (i : Nat) : List α := l.take i ++ m.drop i

theorem copied_all {α : Type} {l m : List α} (h : m.length = l.length) {i : Nat} (hi : l.length ≤ i) : copied l m i = l := by
  simp [copied, List.take_of_length_le hi, List.drop_of_length_le (by omega : m.length ≤ i)]

theorem laws_toIntS_l_eq {l : List Int} (hl : l.length ≤ 1048576) : laws_toIntS_l58 l (List.replicate l.length 0) 0 = some l := by
  unfold laws_toIntS_l58
  refine iter_run (fun d : List Int × List Int × Int => d.1.length - d.2.2.toNat) (fun d => d.1 = l ∧ 0 ≤ d.2.2 ∧ d.2.2 ≤ l.length ∧ d.2.1.length = l.length ∧ d.2.1.take d.2.2.toNat = l.take d.2.2.toNat) (fun d => l) ?_ bigN (l, List.replicate l.length 0, 0) ⟨rfl, by simp, by simp, by simp, by simp⟩ (by simp [bigN]; omega)
  rintro ⟨l', m, i⟩ ⟨h, h0, h1, h2, h3⟩
  dsimp only at h h0 h1 h2 h3 ⊢
  subst h
  simp only [laws_toIntS_s58, Bool.cond_decide]
  by_cases h : i < (l'.length : Int)
  · have hn : i.toNat < l'.length := by omega
    rw [if_pos h, chk_dec h0, chk_dec hn, chk_dec h0, chk_dec (by omega), chk_dec (by omega), wrap_i64 (by omega) (by omega)]
    left
    refine ⟨_, rfl, ⟨rfl, by dsimp only; omega, by dsimp only; omega, by simpa using h2, ?_⟩, by dsimp only; omega, trivial⟩
    simp only [toNat_succ h0]
    rw [List.take_succ_eq_append_getElem (by simp; omega), List.take_succ_eq_append_getElem hn, List.take_set_of_le (Nat.le_refl _), h3]
    simp [List.getD_eq_getElem?_getD, List.getElem?_eq_getElem hn]
  · right
    rw [if_neg h]
    have : i.toNat = l'.length := by omega
    rw [this, List.take_of_length_le (by omega), List.take_of_length_le (Nat.le_refl _)] at h3
    rw [h3]

theorem laws_toIntS_eq {l : List Int} (hl : l.length ≤ 1048576) : laws_toIntS l = some (((), (), ()), l) := by
  unfold laws_toIntS
  simp only [Int.toNat_natCast]
  rw [chk_dec ⟨Nat.le_refl _, by omega, by omega⟩, laws_toIntS_l_eq hl]
  rfl

theorem laws_toIntSS_l_eq {l : List (List Int)} (hl : l.length ≤ 1048576) (hr : ∀ r ∈ l, r.length ≤ 1048576) : laws_toIntSS_l58 l (List.replicate l.length []) 0 = some l := by
  unfold laws_toIntSS_l58
  refine iter_run (fun d : List (List Int) × List (List Int) × Int => d.1.length - d.2.2.toNat) (fun d => d.1 = l ∧ 0 ≤ d.2.2 ∧ d.2.2 ≤ l.length ∧ d.2.1.length = l.length ∧ d.2.1.take d.2.2.toNat = l.take d.2.2.toNat) (fun d => l) ?_ bigN (l, List.replicate l.length [], 0) ⟨rfl, by simp, by simp, by simp, by simp⟩ (by simp [bigN]; omega)
  rintro ⟨l', m, i⟩ ⟨h, h0, h1, h2, h3⟩
  dsimp only at h h0 h1 h2 h3 ⊢
  subst h
  simp only [laws_toIntSS_s58, Bool.cond_decide]
  by_cases h : i < (l'.length : Int)
  · have hn : i.toNat < l'.length := by omega
    have hm : l'.getD i.toNat [] ∈ l' := by simp [List.getD_eq_getElem?_getD, List.getElem?_eq_getElem hn]
    rw [if_pos h, chk_dec h0, chk_dec hn, laws_toIntS_eq (hr _ hm)]
    simp only [Option.bind_some]
    rw [chk_dec h0, chk_dec (by omega), chk_dec (by omega), wrap_i64 (by omega) (by omega)]
    left
    refine ⟨_, rfl, ⟨rfl, by dsimp only; omega, by dsimp only; omega, by simpa using h2, ?_⟩, by dsimp only; omega, trivial⟩
    simp only [toNat_succ h0]
    rw [List.take_succ_eq_append_getElem (by simp; omega), List.take_succ_eq_append_getElem hn, List.take_set_of_le (Nat.le_refl _), h3]
    simp [List.getD_eq_getElem?_getD, List.getElem?_eq_getElem hn]
  · right
    rw [if_neg h]
    have : i.toNat = l'.length := by omega
    rw [this, List.take_of_length_le (by omega), List.take_of_length_le (Nat.le_refl _)] at h3
    rw [h3]

theorem laws_toIntSS_eq {l : List (List Int)} (hl : l.length ≤ 1048576) (hr : ∀ r ∈ l, r.length ≤ 1048576) : laws_toIntSS l = some (((), (), ()), l) := by
  unfold laws_toIntSS
  simp only [Int.toNat_natCast]
  rw [chk_dec ⟨Nat.le_refl _, by omega, by omega⟩, laws_toIntSS_l_eq hl hr]
  rfl

/-! ### comparisons -/
theorem laws_eqIntS_refl {l : List Int} (hl : l.length ≤ 1048576) : laws_eqIntS l l = some true := by
  unfold laws_eqIntS
  simp only [bne_self_eq_false, cond_false]
  have : laws_eqIntS_l58 l l 0 = some (.inr ()) := by
    unfold laws_eqIntS_l58
    refine iter_run (fun d : List Int × List Int × Int => d.1.length - d.2.2.toNat) (fun d => d.1 = l ∧ d.2.1 = l ∧ 0 ≤ d.2.2 ∧ d.2.2 ≤ l.length) (fun d => (Sum.inr () : Bool ⊕ Unit)) ?_ bigN (l, l, 0) ⟨rfl, rfl, by simp, by simp⟩ (by simp [bigN]; omega)
    rintro ⟨l', m, i⟩ ⟨h, h', h0, h1⟩
    dsimp only at h h' h0 h1 ⊢
    subst h
    subst h'
    simp only [laws_eqIntS_s58, Bool.cond_decide]
    by_cases h : i < (m.length : Int)
    · rw [if_pos h, chk_dec h0, chk_dec (by omega), chk_dec h0, chk_dec (by omega), wrap_i64 (by omega) (by omega)]
      simp only [bne_self_eq_false, cond_false]
      exact .inl ⟨_, rfl, ⟨rfl, rfl, by dsimp only; omega, by dsimp only; omega⟩, by dsimp only; omega, trivial⟩
    · right; rw [if_neg h]
  rw [this]
  rfl

theorem laws_eqIntSS_refl {l : List (List Int)} (hl : l.length ≤ 1048576) (hr : ∀ r ∈ l, r.length ≤ 1048576) : laws_eqIntSS l l = some true := by
  unfold laws_eqIntSS
  simp only [bne_self_eq_false, cond_false]
  have : laws_eqIntSS_l58 l l 0 = some (.inr ()) := by
    unfold laws_eqIntSS_l58
    refine iter_run (fun d : List (List Int) × List (List Int) × Int => d.1.length - d.2.2.toNat) (fun d => d.1 = l ∧ d.2.1 = l ∧ 0 ≤ d.2.2 ∧ d.2.2 ≤ l.length) (fun d => (Sum.inr () : Bool ⊕ Unit)) ?_ bigN (l, l, 0) ⟨rfl, rfl, by simp, by simp⟩ (by simp [bigN]; omega)
    rintro ⟨l', m, i⟩ ⟨h, h', h0, h1⟩
    dsimp only at h h' h0 h1 ⊢
    subst h
    subst h'
    simp only [laws_eqIntSS_s58, Bool.cond_decide]
    by_cases h : i < (m.length : Int)
    · have hn : i.toNat < m.length := by omega
      have hm : m.getD i.toNat [] ∈ m := by simp [List.getD_eq_getElem?_getD, List.getElem?_eq_getElem hn]
      rw [if_pos h, chk_dec h0, chk_dec (by omega), chk_dec h0, chk_dec (by omega), laws_eqIntS_refl (hr _ hm), wrap_i64 (by omega) (by omega)]
      exact .inl ⟨_, rfl, ⟨rfl, rfl, by dsimp only; omega, by dsimp only; omega⟩, by dsimp only; omega, trivial⟩
    · right; rw [if_neg h]
  rw [this]
  rfl

/-! ### bounds -/
def inR (x a b : Int) : Bool := decide (a ≤ x) && decide (x ≤ b)

theorem spec_l1In_eq (x a b : Int) : spec_l1In x a b = some (inR x a b) := by
  unfold spec_l1In inR
  cases decide (a ≤ x) <;> rfl

theorem impl_within_eq (x a b : Int) : impl_within x a b = some (inR x a b) := by
  unfold impl_within inR
  cases decide (a ≤ x) <;> rfl

theorem impl_allWithin_eq {l : List Int} (c a b : Int) (hl : l.length ≤ 1048576) : impl_allWithin l c a b = some (l.all (inR · a b) && ((l.length : Int) == c)) := by
  unfold impl_allWithin
  have : impl_allWithin_l26 l c a b l l.length 0 = some (if l.all (inR · a b) then .inr (l, c) else .inl false) := by
    unfold impl_allWithin_l26
    refine (iter_run (fun d : List Int × Int × Int × Int × List Int × Int × Int => l.length - d.2.2.2.2.2.2.toNat) (fun d => d.1 = l ∧ d.2.1 = c ∧ d.2.2.1 = a ∧ d.2.2.2.1 = b ∧ d.2.2.2.2.1 = l ∧ d.2.2.2.2.2.1 = l.length ∧ 0 ≤ d.2.2.2.2.2.2 ∧ d.2.2.2.2.2.2 ≤ l.length)
      (fun d => if (l.drop d.2.2.2.2.2.2.toNat).all (inR · a b) then .inr (l, c) else .inl false) ?_ bigN (l, c, a, b, l, l.length, 0) ⟨rfl, rfl, rfl, rfl, rfl, rfl, by simp, by simp⟩ (by simp [bigN]; omega)).trans (by simp)
    rintro ⟨l1, c1, a1, b1, l2, n1, i⟩ ⟨e1, e2, e3, e4, e5, e6, h0, h1⟩
    dsimp only at e1 e2 e3 e4 e5 e6 h0 h1 ⊢
    subst e1 e2 e3 e4 e5 e6
    simp only [impl_allWithin_s26, Bool.cond_decide]
    by_cases h : i < (l2.length : Int)
    · have hn : i.toNat < l2.length := by omega
      rw [if_pos h, chk_dec h0, chk_dec hn, impl_within_eq, wrap_i64 (by omega) (by omega)]
      simp only [Option.bind_some]
      rw [getD_drop l2 i.toNat 0 hn]
      generalize l2.getD i.toNat 0 = r
      cases hq : inR r a1 b1 with
      | false =>
        right
        simp [hq]
      | true =>
        left
        refine ⟨_, rfl, ⟨rfl, rfl, rfl, rfl, rfl, rfl, by dsimp only; omega, by dsimp only; omega⟩, by dsimp only; omega, ?_⟩
        simp only [toNat_succ h0, List.all_cons, hq, Bool.true_and]
    · right
      rw [if_neg h, List.drop_of_length_le (by omega)]
      rfl
  rw [this]
  cases hq : l.all (inR · a b) <;> simp

/-! ### HandLeft -/
def listOk (l : List Int) : Bool := decide (l.length ≤ 40) && l.all (inR · 1 200)
def loadsOk (ls : List (List Int)) : Bool := ls.all listOk && (ls.length == 3)

theorem impl_loadsOk_eq {ls : List (List Int)} (hl : ls.length ≤ 1048576) (hr : ∀ r ∈ ls, r.length ≤ 1048576) : impl_loadsOk ls = some (loadsOk ls) := by
  unfold impl_loadsOk loadsOk
  have : impl_loadsOk_l26 ls ls ls.length 0 = some (if ls.all listOk then .inr ls else .inl false) := by
    unfold impl_loadsOk_l26
    refine (iter_run (fun d : List (List Int) × List (List Int) × Int × Int => ls.length - d.2.2.2.toNat) (fun d => d.1 = ls ∧ d.2.1 = ls ∧ d.2.2.1 = ls.length ∧ 0 ≤ d.2.2.2 ∧ d.2.2.2 ≤ ls.length)
      (fun d => if (ls.drop d.2.2.2.toNat).all listOk then .inr ls else .inl false) ?_ bigN (ls, ls, ls.length, 0) ⟨rfl, rfl, rfl, by simp, by simp⟩ (by simp [bigN]; omega)).trans (by simp)
    rintro ⟨l1, l2, n1, i⟩ ⟨e1, e2, e3, h0, h1⟩
    dsimp only at e1 e2 e3 h0 h1 ⊢
    subst e1 e2 e3
    simp only [impl_loadsOk_s26, Bool.cond_decide]
    by_cases h : i < (l2.length : Int)
    · have hn : i.toNat < l2.length := by omega
      have hm : l2.getD i.toNat [] ∈ l2 := by simp [List.getD_eq_getElem?_getD, List.getElem?_eq_getElem hn]
      rw [if_pos h, chk_dec h0, chk_dec hn, impl_allWithin_eq _ _ _ (hr _ hm), wrap_i64 (by omega) (by omega)]
      rw [getD_drop l2 i.toNat [] hn]
      generalize l2.getD i.toNat [] = r
      simp only [beq_self_eq_true, Bool.and_true, Option.bind_some, List.all_cons]
      by_cases h40 : (r.length : Int) > 40
      · right
        have : listOk r = false := by simp [listOk]; omega
        simp [this, h40]
      · have h4 : decide (r.length ≤ 40) = true := by simp; omega
        rw [if_neg h40]
        cases hq : r.all (inR · 1 200) with
        | false =>
          right
          have : listOk r = false := by simp [listOk, hq]
          simp [this]
        | true =>
          left
          have : listOk r = true := by simp only [listOk, h4, hq]; rfl
          refine ⟨_, rfl, ⟨rfl, rfl, rfl, by dsimp only; omega, by dsimp only; omega⟩, by dsimp only; omega, ?_⟩
          simp only [toNat_succ h0, this, Bool.true_and]
    · right
      rw [if_neg h, List.drop_of_length_le (by omega)]
      rfl
  rw [this]
  cases hq : ls.all listOk
  · simp
  · simp only [if_true, Option.bind_some, Sum.elim_inr, Bool.true_and]
    congr 1
    rw [Bool.eq_iff_iff]
    simp
    omega

end Go.Proofs.Ytkdmpinokekdaaa.Tw
