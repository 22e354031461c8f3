/- Plain: how the common loops run, for any step. No condition: lemmas. -/
import Derived.Test.YtcdkpfcfcjnooaaDoorPl
namespace Go.Mach
set_option linter.unusedVariables false

theorem take_set_getD {α : Type} (l m : List α) (i : Nat) (d : α) (h : i < l.length) (hm : m.length = l.length) (ht : m.take i = l.take i) : (m.set i (l.getD i d)).take (i + 1) = l.take (i + 1) := by
  rw [List.take_succ_eq_append_getElem (by simp; omega), List.take_succ_eq_append_getElem h, List.take_set_of_le (Nat.le_refl _), ht]
  simp [List.getD_eq_getElem?_getD, List.getElem?_eq_getElem h]

theorem getD_mem {α : Type} {l : List α} {i : Nat} {d : α} (h : i < l.length) : l.getD i d ∈ l := by
  simp [List.getD_eq_getElem?_getD, List.getElem?_eq_getElem h]

/-- A loop that copies a list. -/
theorem copy_run {α : Type} {S : List α × List α × Int → Option ((List α × List α × Int) ⊕ List α)} {l : List α} (d : α) (hl : l.length ≤ 1048576)
    (h1 : ∀ (m : List α) (i : Int), 0 ≤ i → i < l.length → m.length = l.length → l.getD i.toNat d ∈ l → S (l, m, i) = some (.inl (l, m.set i.toNat (l.getD i.toNat d), i + 1)))
    (h2 : ∀ (m : List α) (i : Int), i = l.length → S (l, m, i) = some (.inr m)) {m0 : List α} (hm : m0.length = l.length) : iter S bigN (l, m0, 0) = some l := by
  refine iter_run (fun d : List α × List α × Int => d.1.length - d.2.2.toNat) (fun d => d.1 = l ∧ 0 ≤ d.2.2 ∧ d.2.2 ≤ l.length ∧ d.2.1.length = l.length ∧ d.2.1.take d.2.2.toNat = l.take d.2.2.toNat) (fun d => l) ?_ bigN (l, m0, 0) ⟨rfl, by simp, by simp, hm, by simp⟩ (by simp only [bigN]; omega)
  rintro ⟨l', m, i⟩ ⟨h, h0, h3, h4, h5⟩
  dsimp only at h h0 h3 h4 h5 ⊢
  subst h
  by_cases h : i < (l'.length : Int)
  · have hn : i.toNat < l'.length := by omega
    rw [h1 m i h0 h h4 (getD_mem hn)]
    left
    refine ⟨_, rfl, ⟨rfl, by dsimp only; omega, by dsimp only; omega, by simpa using h4, ?_⟩, by dsimp only; omega, rfl⟩
    simp only [toNat_succ h0]
    exact take_set_getD l' m i.toNat d hn h4 h5
  · right
    rw [h2 m i (by omega)]
    have : i.toNat = l'.length := by omega
    rw [this, List.take_of_length_le (by omega), List.take_of_length_le (Nat.le_refl _)] at h5
    rw [h5]

/-- A loop that goes through a list, to its end: nothing stops it. -/
theorem thru_run {σ β : Type} {S : σ × Int → Option ((σ × Int) ⊕ β)} {s : σ} {n : Nat} {b : β} (hl : n ≤ 1048576)
    (h1 : ∀ i : Int, 0 ≤ i → i < n → S (s, i) = some (.inl (s, i + 1))) (h2 : ∀ i : Int, i = n → S (s, i) = some (.inr b)) : iter S bigN (s, 0) = some b := by
  refine iter_run (fun d : σ × Int => n - d.2.toNat) (fun d => d.1 = s ∧ 0 ≤ d.2 ∧ d.2 ≤ n) (fun d => b) ?_ bigN (s, 0) ⟨rfl, by simp, by simp⟩ (by simp only [bigN]; omega)
  rintro ⟨s', i⟩ ⟨h, h0, h3⟩
  dsimp only at h h0 h3 ⊢
  subst h
  by_cases h : i < (n : Int)
  · rw [h1 i h0 h]
    exact .inl ⟨_, rfl, ⟨rfl, by dsimp only; omega, by dsimp only; omega⟩, by dsimp only; omega, rfl⟩
  · exact .inr (h2 i (by omega))

/-- A loop over two lists that stops where they differ. -/
theorem both_run {α β : Type} {S : List α × List α × Int → Option ((List α × List α × Int) ⊕ β)} {l : List α} {b : β} (d : α) (hl : l.length ≤ 1048576)
    (h1 : ∀ i : Int, 0 ≤ i → i < l.length → l.getD i.toNat d ∈ l → S (l, l, i) = some (.inl (l, l, i + 1))) (h2 : ∀ i : Int, i = l.length → S (l, l, i) = some (.inr b)) : iter S bigN (l, l, 0) = some b := by
  refine iter_run (fun d : List α × List α × Int => l.length - d.2.2.toNat) (fun d => d.1 = l ∧ d.2.1 = l ∧ 0 ≤ d.2.2 ∧ d.2.2 ≤ l.length) (fun d => b) ?_ bigN (l, l, 0) ⟨rfl, rfl, by simp, by simp⟩ (by simp only [bigN]; omega)
  rintro ⟨l', m, i⟩ ⟨h, h', h0, h3⟩
  dsimp only at h h' h0 h3 ⊢
  subst h
  subst h'
  by_cases h : i < (m.length : Int)
  · rw [h1 i h0 h (getD_mem (by omega))]
    exact .inl ⟨_, rfl, ⟨rfl, rfl, by dsimp only; omega, by dsimp only; omega⟩, by dsimp only; omega, rfl⟩
  · exact .inr (h2 i (by omega))

/-- What is left of the bulk behind a list whose elements have bulk of their own. -/
def bulk {α : Type} (f : α → Int → Int) : List α → Int → Int ⊕ Int
  | [], a => .inr a
  | r :: rs, a => if f r a < 0 then .inl (-1) else bulk f rs (f r a)

def bulkL {α : Type} (f : α → Int → Int) (l : List α) (a : Int) : Int := if a - l.length < 0 then -1 else match bulk f l (a - l.length) with
  | .inl b => b
  | .inr b => b

/-- A bulk: nothing below -1, nothing grows, and what is in bounds has a property. -/
def IsBulk {α : Type} (f : α → Int → Int) (Q : α → Prop) : Prop := ∀ x a, 0 ≤ a → a ≤ 1048576 → (f x a = -1 ∨ 0 ≤ f x a ∧ f x a ≤ a ∧ Q x)

theorem bulk_le {α : Type} {f : α → Int → Int} {Q : α → Prop} (hf : IsBulk f Q) : ∀ (ls : List α) {a : Int}, 0 ≤ a → a ≤ 1048576 → (∃ b, bulk f ls a = .inr b ∧ 0 ≤ b ∧ b ≤ a ∧ ∀ r ∈ ls, Q r) ∨ bulk f ls a = .inl (-1)
  | [], a, h, _ => .inl ⟨a, rfl, h, by omega, by simp⟩
  | r :: rs, a, h, h' => by
    simp only [bulk]
    rcases hf r a h h' with h1 | ⟨h1, h2, h3⟩
    · rw [if_pos (by omega)]
      exact .inr rfl
    · rw [if_neg (by omega)]
      rcases bulk_le hf rs h1 (by omega) with ⟨b, q1, q2, q3, q4⟩ | q1
      · refine .inl ⟨b, q1, q2, by omega, fun r' hr' => ?_⟩
        simp only [List.mem_cons] at hr'
        rcases hr' with rfl | hr'
        · exact h3
        · exact q4 r' hr'
      · exact .inr q1

theorem bulkL_is {α : Type} {f : α → Int → Int} {Q : α → Prop} (hf : IsBulk f Q) : IsBulk (bulkL f) (fun l => l.length ≤ 1048576 ∧ ∀ r ∈ l, Q r) := by
  intro l a h h'
  unfold bulkL
  split
  · exact .inl rfl
  · rcases bulk_le hf l (a := a - l.length) (by omega) (by omega) with ⟨b, q1, q2, q3, q4⟩ | q1
    · rw [q1]
      exact .inr ⟨q2, by simp only; omega, by omega, q4⟩
    · rw [q1]
      exact .inl rfl

/-- The loop that takes the bulk. -/
theorem bulk_run {α : Type} {S : List α × Int × Int → Option ((List α × Int × Int) ⊕ (Int ⊕ Int))} {f : α → Int → Int} {Q : α → Prop} (hf : IsBulk f Q) {l : List α} (d : α) (hl : l.length ≤ 1048576)
    (h1 : ∀ (a i : Int), 0 ≤ i → i < l.length → 0 ≤ a → a ≤ 1048576 → l.getD i.toNat d ∈ l → S (l, a, i) = some (if f (l.getD i.toNat d) a < 0 then .inr (.inl (-1)) else .inl (l, f (l.getD i.toNat d) a, i + 1)))
    (h2 : ∀ (a i : Int), i = l.length → S (l, a, i) = some (.inr (.inr a))) {a : Int} (ha : 0 ≤ a) (ha' : a ≤ 1048576) : iter S bigN (l, a, 0) = some (bulk f l a) := by
  refine (iter_run (fun d : List α × Int × Int => d.1.length - d.2.2.toNat) (fun d => d.1 = l ∧ 0 ≤ d.2.2 ∧ d.2.2 ≤ d.1.length ∧ 0 ≤ d.2.1 ∧ d.2.1 ≤ 1048576) (fun d => bulk f (d.1.drop d.2.2.toNat) d.2.1) ?_ bigN (l, a, 0) ⟨rfl, by simp, by simp, ha, ha'⟩ (by simp only [bigN]; omega)).trans (by simp)
  rintro ⟨l', b, i⟩ ⟨h, h0, h3, h4, h5⟩
  dsimp only at h h0 h3 h4 h5 ⊢
  subst h
  by_cases h : i < (l'.length : Int)
  · have hn : i.toNat < l'.length := by omega
    rw [h1 b i h0 h h4 h5 (getD_mem hn), getD_drop l' i.toNat d hn]
    generalize l'.getD i.toNat d = x
    simp only [bulk]
    rcases hf x b h4 h5 with q1 | ⟨q1, q2, _⟩
    · right
      rw [if_pos (by omega), if_pos (by omega)]
    · left
      rw [if_neg (by omega), if_neg (by omega)]
      refine ⟨_, rfl, ⟨rfl, by dsimp only; omega, by dsimp only; omega, q1, by dsimp only; omega⟩, by dsimp only; omega, ?_⟩
      simp only [toNat_succ h0]
  · right
    rw [h2 b i (by omega), List.drop_of_length_le (by omega)]
    rfl

/-- Two that walk a list and stop at the first that fails: from an index. -/
theorem all_run {σ α β : Type} {S : σ × Int → Option ((σ × Int) ⊕ β)} {s : σ} {l : List α} (d : α) {p : α → Bool} {t e : β} (hl : l.length ≤ 1048576)
    (h1 : ∀ i : Int, 0 ≤ i → i < l.length → l.getD i.toNat d ∈ l → S (s, i) = some (if p (l.getD i.toNat d) then .inl (s, i + 1) else .inr e)) (h2 : ∀ i : Int, i = l.length → S (s, i) = some (.inr t)) : iter S bigN (s, 0) = some (if l.all p then t else e) := by
  refine (iter_run (fun d : σ × Int => l.length - d.2.toNat) (fun d => d.1 = s ∧ 0 ≤ d.2 ∧ d.2 ≤ l.length) (fun d => if (l.drop d.2.toNat).all p then t else e) ?_ bigN (s, 0) ⟨rfl, by simp, by simp⟩ (by simp only [bigN]; omega)).trans (by simp)
  rintro ⟨s', i⟩ ⟨h, h0, h3⟩
  dsimp only at h h0 h3 ⊢
  subst h
  by_cases h : i < (l.length : Int)
  · have hn : i.toNat < l.length := by omega
    rw [h1 i h0 h (getD_mem hn), getD_drop l i.toNat d hn]
    generalize l.getD i.toNat d = x
    rcases Bool.eq_false_or_eq_true (p x) with hp | hp
    · left
      rw [if_pos hp]
      refine ⟨_, rfl, ⟨rfl, by dsimp only; omega, by dsimp only; omega⟩, by dsimp only; omega, ?_⟩
      simp [toNat_succ h0, hp]
    · right
      simp [hp]
  · right
    rw [h2 i (by omega), List.drop_of_length_le (by omega)]
    simp

end Go.Mach
