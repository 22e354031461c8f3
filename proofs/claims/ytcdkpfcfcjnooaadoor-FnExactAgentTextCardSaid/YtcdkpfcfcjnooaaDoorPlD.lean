/- Plain: loops that walk by an index, copies, comparisons, sizes, for any step. No condition: lemmas. -/
import Derived.Test.YtcdkpfcfcjnooaaDoorPlC
namespace Go.Mach
set_option linter.unusedVariables false

theorem walk_from {σ β : Type} {S : σ → Option (σ ⊕ β)} (st : Nat → σ) {n : Nat} (p : Nat → Bool) {t e : β}
    (h1 : ∀ i, i < n → S (st i) = some (if p i then .inl (st (i + 1)) else .inr e)) (h2 : S (st n) = some (.inr t)) : ∀ (f k : Nat), k ≤ n → n - k < f → iter S f (st k) = some (if (List.range' k (n - k)).all p then t else e)
  | 0, k, _, h => by omega
  | f + 1, k, hk, h => by
    simp only [iter]
    by_cases hn : k < n
    · rw [h1 k hn, show n - k = (n - (k + 1)) + 1 by omega, List.range'_succ, List.all_cons]
      cases hp : p k with
      | true =>
        simp only [if_true, Bool.true_and]
        exact walk_from st p h1 h2 f (k + 1) (by omega) (by omega)
      | false => simp
    · obtain rfl : k = n := by omega
      rw [h2]
      simp

/-- A loop over an index that stops where a test fails. -/
theorem walk_run {σ β : Type} {S : σ → Option (σ ⊕ β)} (st : Nat → σ) {n : Nat} (hn : n ≤ 1048576) (p : Nat → Bool) {t e : β}
    (h1 : ∀ i, i < n → S (st i) = some (if p i then .inl (st (i + 1)) else .inr e)) (h2 : S (st n) = some (.inr t)) : iter S bigN (st 0) = some (if (List.range n).all p then t else e) := by
  rw [walk_from st p h1 h2 bigN 0 (Nat.zero_le _) (by simp only [bigN]; omega), List.range_eq_range', Nat.sub_zero]

/-- A loop over an index to its end. -/
theorem det_run {σ β : Type} {S : σ → Option (σ ⊕ β)} (st : Nat → σ) {n : Nat} (hn : n ≤ 1048576) {t : β}
    (h1 : ∀ i, i < n → S (st i) = some (.inl (st (i + 1)))) (h2 : S (st n) = some (.inr t)) : iter S bigN (st 0) = some t := by
  have := walk_run st hn (fun _ => true) (t := t) (e := t) (fun i hi => by simpa using h1 i hi) h2
  simpa using this

theorem chk_tt {R : Type} (k : Option R) : chk true k = k := rfl

theorem wrap_nat {i : Nat} (h : i ≤ 1048576) : IntKind.wrap .i64 ((i : Int) + 1) = ((i + 1 : Nat) : Int) := by
  rw [wrap_i64 (by omega) (by omega)]
  rfl

/-! ### Copies -/
def cp {α : Type} (l : List α) (d : α) (i : Nat) : List α := l.take i ++ List.replicate (l.length - i) d

theorem cp_length {α : Type} (l : List α) (d : α) (i : Nat) (h : i ≤ l.length) : (cp l d i).length = l.length := by simp [cp]; omega
theorem cp_zero {α : Type} (l : List α) (d : α) : cp l d 0 = List.replicate l.length d := by simp [cp]
theorem cp_all {α : Type} (l : List α) (d : α) : cp l d l.length = l := by simp [cp]

theorem cp_set {α : Type} (l : List α) (d : α) (i : Nat) (h : i < l.length) : (cp l d i).set i (l.getD i d) = cp l d (i + 1) := by
  apply List.ext_getElem?
  intro j
  have hl := cp_length l d i (by omega)
  by_cases hj : i = j
  · subst hj
    rw [List.getElem?_set_self (by omega)]
    simp only [cp]
    rw [List.getElem?_append_left (by simp; omega), List.getElem?_take_of_lt (by omega)]
    simp [List.getD_eq_getElem?_getD, List.getElem?_eq_getElem h]
  · rw [List.getElem?_set_ne hj]
    simp only [cp]
    by_cases hlt : j < i
    · rw [List.getElem?_append_left (by simp; omega), List.getElem?_append_left (by simp; omega), List.getElem?_take_of_lt hlt, List.getElem?_take_of_lt (by omega)]
    · rw [List.getElem?_append_right (by simp; omega), List.getElem?_append_right (by simp; omega)]
      simp only [List.length_take, List.getElem?_replicate]
      congr 1
      rw [eq_iff_iff]
      omega

/-! ### Comparisons -/
theorem all_range_eq {α : Type} [DecidableEq α] (d : α) {a b : List α} (h : b.length = a.length) : (List.range a.length).all (fun i => decide (a.getD i d = b.getD i d)) = decide (a = b) := by
  rw [Bool.eq_iff_iff]
  simp only [List.all_eq_true, List.mem_range, decide_eq_true_eq]
  constructor
  · intro q
    apply List.ext_getElem? 
    intro i
    by_cases hi : i < a.length
    · have := q i hi
      simp only [List.getD_eq_getElem?_getD, List.getElem?_eq_getElem hi, List.getElem?_eq_getElem (show i < b.length by omega), Option.getD_some] at this
      rw [List.getElem?_eq_getElem hi, List.getElem?_eq_getElem (show i < b.length by omega), this]
    · rw [List.getElem?_eq_none (by omega), List.getElem?_eq_none (by omega)]
  · rintro rfl i _
    rfl

theorem all_range_all {α : Type} (d : α) (p : α → Bool) (a : List α) : (List.range a.length).all (fun i => p (a.getD i d)) = a.all p := by
  rw [Bool.eq_iff_iff]
  simp only [List.all_eq_true, List.mem_range]
  constructor
  · intro q x hx
    obtain ⟨i, hi⟩ := List.getElem?_of_mem hx
    have hil := (List.getElem?_eq_some_iff.1 hi).1
    have := q i hil
    simpa [List.getD_eq_getElem?_getD, hi] using this
  · intro q i hi
    exact q _ (getD_mem hi)

/-- A function that compares two lists, element by element. -/
theorem eqS_run {α σ : Type} [DecidableEq α] {S : σ → Option (σ ⊕ (Bool ⊕ Unit))} (d : α) {a b : List α} (ha : a.length ≤ 1048576) (st : Nat → σ)
    (h1 : ∀ i, i < a.length → b.length = a.length → a.getD i d ∈ a → S (st i) = some (if a.getD i d = b.getD i d then .inl (st (i + 1)) else .inr (.inl false)))
    (h2 : b.length = a.length → S (st a.length) = some (.inr (.inr ()))) :
    (bif (a.length : Int) != (b.length : Int) then some false else Option.bind (iter S bigN (st 0)) fun q => Sum.elim (fun d => some d) (fun _ => some true) q) = some (decide (a = b)) := by
  by_cases h : b.length = a.length
  · have e1 : ((a.length : Int) != (b.length : Int)) = false := by simp [h]
    rw [e1, cond_false, walk_run st ha (fun i => decide (a.getD i d = b.getD i d)) (t := .inr ()) (e := .inl false) (fun i hi => by
      rw [h1 i hi h (getD_mem hi)]
      by_cases q : a.getD i d = b.getD i d <;> simp [q]) (h2 h), all_range_eq d h]
    by_cases q : a = b <;> simp [q]
  · have e1 : ((a.length : Int) != (b.length : Int)) = true := by simp; omega
    rw [e1, cond_true]
    have : a ≠ b := fun q => h (by rw [q])
    simp [this]

/-! ### Sizes -/
/-- A function that takes what is left of a bulk: what fits has a property. -/
def IsSz {α : Type} (f : α → Int → Option Int) (W Q : α → Prop) : Prop := ∀ x a, W x → 0 ≤ a → a ≤ 1048576 → ∃ b, f x a = some b ∧ (b = -1 ∨ (0 ≤ b ∧ b ≤ a ∧ Q x))

theorem isSz_len {α : Type} : IsSz (fun (l : List α) a => bif decide (IntKind.wrap .i64 (a - (l.length : Int)) < 0) then some (-1) else some (IntKind.wrap .i64 (a - (l.length : Int)))) (fun l => l.length ≤ 9223372036854775807) (fun l => l.length ≤ 1048576) := by
  intro l a hw h0 h1
  dsimp only
  rw [wrap_i64 (by omega) (by omega), Bool.cond_decide]
  split
  · exact ⟨_, rfl, .inl rfl⟩
  · exact ⟨_, rfl, .inr ⟨by omega, by omega, by omega⟩⟩

theorem isSz_walk {α : Type} {g : α → Int → Option Int} {W Q : α → Prop} (hg : IsSz g W Q) (d : α) {S : List α × Int × Int → Option ((List α × Int × Int) ⊕ (Int ⊕ Int))}
    {l : List α} (hw : ∀ x ∈ l, W x) (hl : l.length ≤ 1048576)
    (h1 : ∀ (i : Nat) (a : Int), i < l.length → S (l, a, (i : Int)) = Option.bind (g (l.getD i d) a) fun r => bif decide (r < 0) then some (.inr (.inl (-1))) else some (.inl (l, r, ((i + 1 : Nat) : Int))))
    (h2 : ∀ a, S (l, a, (l.length : Int)) = some (.inr (.inr a))) : ∀ (f k : Nat) (a : Int), k ≤ l.length → l.length - k < f → 0 ≤ a → a ≤ 1048576 →
    ∃ b, iter S f (l, a, (k : Int)) = some b ∧ (b = .inl (-1) ∨ ∃ c, b = .inr c ∧ 0 ≤ c ∧ c ≤ a ∧ ∀ j, k ≤ j → j < l.length → Q (l.getD j d))
  | 0, k, a, _, h, _, _ => by omega
  | f + 1, k, a, hk, h, h0, h3 => by
    simp only [iter]
    by_cases hn : k < l.length
    · rw [h1 k a hn]
      obtain ⟨b, e1, e2⟩ := hg (l.getD k d) a (hw _ (getD_mem hn)) h0 h3
      rw [e1]
      rcases e2 with rfl | ⟨e2, e3, e4⟩
      · exact ⟨.inl (-1), by simp, .inl rfl⟩
      · have : decide (b < 0) = false := by simp; omega
        simp only [Option.bind_some, this, cond_false]
        obtain ⟨c, q1, q2⟩ := isSz_walk hg d hw hl h1 h2 f (k + 1) b (by omega) (by omega) e2 (by omega)
        refine ⟨c, q1, ?_⟩
        rcases q2 with q2 | ⟨c', q2, q3, q4, q5⟩
        · exact .inl q2
        · refine .inr ⟨c', q2, q3, by omega, fun j hj hjl => ?_⟩
          by_cases hjk : j = k
          · rw [hjk]; exact e4
          · exact q5 j (by omega) hjl
    · obtain rfl : k = l.length := by omega
      rw [h2]
      exact ⟨_, rfl, .inr ⟨a, rfl, h0, by omega, fun j hj hjl => by omega⟩⟩

/-- The size of a list, element by element. -/
theorem isSz_list {α : Type} {g : α → Int → Option Int} {W Q : α → Prop} (hg : IsSz g W Q) (d : α) {S : List α × Int × Int → Option ((List α × Int × Int) ⊕ (Int ⊕ Int))}
    (h1 : ∀ (l : List α) (i : Nat) (a : Int), l.length ≤ 1048576 → i < l.length → S (l, a, (i : Int)) = Option.bind (g (l.getD i d) a) fun r => bif decide (r < 0) then some (.inr (.inl (-1))) else some (.inl (l, r, ((i + 1 : Nat) : Int))))
    (h2 : ∀ (l : List α) a, l.length ≤ 1048576 → S (l, a, (l.length : Int)) = some (.inr (.inr a))) :
    IsSz (fun (l : List α) a => bif decide (IntKind.wrap .i64 (a - (l.length : Int)) < 0) then some (-1) else Option.bind (iter S bigN (l, IntKind.wrap .i64 (a - (l.length : Int)), 0)) fun b => Sum.elim (fun d => some d) (fun b => some b) b)
      (fun l => l.length ≤ 9223372036854775807 ∧ ∀ x ∈ l, W x) (fun l => l.length ≤ 1048576 ∧ ∀ x ∈ l, Q x) := by
  intro l a hw h0 h3
  have hw0 := hw.1
  dsimp only
  rw [wrap_i64 (by omega) (by omega), Bool.cond_decide]
  split
  · exact ⟨_, rfl, .inl rfl⟩
  · rename_i hneg
    have hl : l.length ≤ 1048576 := by omega
    obtain ⟨b, q1, q2⟩ := isSz_walk hg d (S := S) hw.2 hl (fun i a hi => h1 l i a hl hi) (fun a => h2 l a hl) bigN 0 (a - l.length) (by omega) (by simp only [bigN]; omega) (by omega) (by omega)
    have q1' : iter S bigN (l, a - (l.length : Int), 0) = some b := q1
    rw [q1']
    rcases q2 with rfl | ⟨c, rfl, q3, q4, q5⟩
    · exact ⟨_, rfl, .inl rfl⟩
    · refine ⟨c, rfl, .inr ⟨q3, by omega, hl, fun x hx => ?_⟩⟩
      obtain ⟨i, hi⟩ := List.getElem?_of_mem hx
      have hil := (List.getElem?_eq_some_iff.1 hi).1
      have := q5 i (by omega) hil
      simpa [List.getD_eq_getElem?_getD, hi] using this

end Go.Mach
