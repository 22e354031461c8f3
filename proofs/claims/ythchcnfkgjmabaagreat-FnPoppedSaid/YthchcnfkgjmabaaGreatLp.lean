/- Plain: loops of the printed twins, numbers, lists. No condition: lemmas. -/
import Derived.Test.YthchcnfkgjmabaaGreatV
import Derived.IntWalk
namespace Go.Mach
set_option linter.unusedVariables false

theorem dT {p : Prop} [Decidable p] (h : p) : decide p = true := decide_eq_true h
theorem dF {p : Prop} [Decidable p] (h : ¬p) : decide p = false := decide_eq_false h
theorem chk_ok {R : Type} {b : Bool} (h : b = true) (k : Option R) : chk b k = k := by rw [h]; rfl
theorem chk_tt {R : Type} (k : Option R) : chk true k = k := rfl
theorem chkD {R : Type} {p : Prop} [Decidable p] (h : p) (k : Option R) : chk (decide p) k = k := chk_ok (decide_eq_true h) k
theorem wr {n : Int} (h1 : -9223372036854775808 ≤ n) (h2 : n ≤ 9223372036854775807) : IntKind.wrap .i64 n = n := Go.IntWalk.i64_in n ⟨h1, h2⟩
theorem w64_ok {n : Int} (h1 : -9223372036854775808 ≤ n) (h2 : n ≤ 9223372036854775807) : w64 n = n := wr h1 h2
theorem wsucc {i : Nat} (h : i ≤ 1048576) : w64 ((i : Int) + 1) = ((i + 1 : Nat) : Int) := by rw [w64_ok (by omega) (by omega)]; rfl
theorem ixn {R : Type} {i n : Nat} (h : i < n) (k : Option R) : ix (i : Int) n k = k := ix_ok (by omega) (by omega) k
theorem lxn {R : Type} {i n : Nat} (h : i < n) (k : Option R) : lx (i : Int) n k = k := lx_ok (by omega) k
theorem gxn {α : Type} (l : List α) (i : Nat) (d : α) : gx l (i : Int) d = l.getD i d := rfl
theorem sxn {α : Type} (l : List α) (i : Nat) (v : α) : sx l (i : Int) v = l.set i v := rfl
theorem lnn {α : Type} (l : List α) : ln l = (l.length : Int) := rfl
theorem cast0 : ((0 : Nat) : Int) = 0 := rfl
theorem ltn {i n : Nat} (h : i < n) : decide ((i : Int) < (n : Int)) = true := decide_eq_true (by omega)
theorem ltF (n : Nat) : decide ((n : Int) < (n : Int)) = false := decide_eq_false (by omega)
theorem fits_ok {n b : Nat} (h : n ≤ 4294967296) (h2 : (2 * n + 512) * b ≤ 140737488355328) : fits n b = true := by
  unfold fits
  rw [decide_eq_true_eq]
  exact ⟨h, h2⟩
theorem fitsB {n b : Nat} (h : n ≤ 4194304) (hb : b ≤ 1000) : fits n b = true := by
  refine fits_ok (by omega) ?_
  calc (2 * n + 512) * b ≤ (2 * 4194304 + 512) * 1000 := Nat.mul_le_mul (by omega) hb
    _ ≤ _ := by omega
theorem fitsC {R : Type} {n b : Nat} (h : n ≤ 4194304) (hb : b ≤ 1000) (k : Option R) : chk (fits n b) k = k := by
  refine chk_ok (fits_ok (by omega) ?_) k
  calc (2 * n + 512) * b ≤ (2 * 4194304 + 512) * 1000 := Nat.mul_le_mul (by omega) hb
    _ ≤ _ := by omega
theorem getD_mem {α : Type} {l : List α} {i : Nat} {d : α} (h : i < l.length) : l.getD i d ∈ l := by
  simp [List.getD_eq_getElem?_getD, List.getElem?_eq_getElem h]
theorem getD_get {α : Type} {l : List α} {i : Nat} {d : α} (h : i < l.length) : l.getD i d = l[i] := by
  simp [List.getD_eq_getElem?_getD, List.getElem?_eq_getElem h]
theorem take_snoc {α : Type} {l : List α} {i : Nat} (d : α) (h : i < l.length) : l.take (i + 1) = l.take i ++ [l.getD i d] := by
  rw [List.take_succ_eq_append_getElem h, getD_get h]
theorem drop_cons {α : Type} {l : List α} {i : Nat} (d : α) (h : i < l.length) : l.drop i = l.getD i d :: l.drop (i + 1) := by
  rw [List.drop_eq_getElem_cons h, getD_get h]
theorem bnot_cond {β : Type} (b : Bool) (x y : β) : (bif !b then x else y) = bif b then y else x := by cases b <;> rfl
theorem bif_dec {β : Type} (p : Prop) [Decidable p] (x y : β) : (bif decide p then x else y) = if p then x else y := by by_cases h : p <;> simp [h]

/-! ### Loops -/
/-- A loop by its states one by one: each goes on, or ends with b. -/
theorem lp_from {σ β : Type} {S : σ → Option (σ ⊕ β)} (st : Nat → σ) {n : Nat} {b : β} (h1 : ∀ i, i < n → S (st i) = some (.inl (st (i + 1)))) (h2 : S (st n) = some (.inr b)) : ∀ f k, k ≤ n → n - k < f → iter S f (st k) = some b
  | 0, k, _, h => by omega
  | f + 1, k, hk, h => by
    simp only [iter]
    by_cases hn : k < n
    · rw [h1 k hn]; exact lp_from st h1 h2 f (k + 1) (by omega) (by omega)
    · obtain rfl : k = n := by omega
      rw [h2]
theorem lp_det {σ β : Type} {S : σ → Option (σ ⊕ β)} (st : Nat → σ) {n : Nat} (hn : n ≤ 1048576) {b : β} (h1 : ∀ i, i < n → S (st i) = some (.inl (st (i + 1)))) (h2 : S (st n) = some (.inr b)) : lp S (st 0) = some b :=
  lp_from st h1 h2 bigN 0 (Nat.zero_le _) (by simp only [bigN]; omega)

/-- A loop that may leave at each round. -/
theorem lp_exit_from {σ β : Type} {S : σ → Option (σ ⊕ β)} (st : Nat → σ) {n : Nat} (p : Nat → Bool) {t e : β}
    (h1 : ∀ i, i < n → S (st i) = some (bif p i then .inl (st (i + 1)) else .inr e)) (h2 : S (st n) = some (.inr t)) : ∀ (f k : Nat), k ≤ n → n - k < f → iter S f (st k) = some (bif (List.range' k (n - k)).all p then t else e)
  | 0, k, _, h => by omega
  | f + 1, k, hk, h => by
    simp only [iter]
    by_cases hn : k < n
    · rw [h1 k hn, show n - k = (n - (k + 1)) + 1 by omega, List.range'_succ, List.all_cons]
      cases hp : p k with
      | true =>
        simp only [cond_true, Bool.true_and]
        exact lp_exit_from st p h1 h2 f (k + 1) (by omega) (by omega)
      | false => simp
    · obtain rfl : k = n := by omega
      rw [h2]
      simp

theorem all_range {α : Type} (d : α) (p : α → Bool) (a : List α) : (List.range a.length).all (fun i => p (a.getD i d)) = a.all p := by
  rw [Bool.eq_iff_iff]
  simp only [List.all_eq_true, List.mem_range]
  constructor
  · intro q x hx
    obtain ⟨i, hi⟩ := List.getElem?_of_mem hx
    have hil := (List.getElem?_eq_some_iff.1 hi).1
    have := q i hil
    simpa [List.getD_eq_getElem?_getD, hi] using this
  · intro q i hi
    exact q _ (getD_mem hi)

/-- .. over a list, where a test fails. -/
theorem lp_all {α σ β : Type} {S : σ → Option (σ ⊕ β)} (l : List α) (d : α) (st : Nat → σ) (hl : l.length ≤ 1048576) (p : α → Bool) {t e : β}
    (h1 : ∀ i, i < l.length → l.getD i d ∈ l → S (st i) = some (bif p (l.getD i d) then .inl (st (i + 1)) else .inr e)) (h2 : S (st l.length) = some (.inr t)) : lp S (st 0) = some (bif l.all p then t else e) := by
  have := lp_exit_from st (n := l.length) (fun i => p (l.getD i d)) (fun i hi => h1 i hi (getD_mem hi)) h2 bigN 0 (Nat.zero_le _) (by simp only [bigN]; omega)
  rw [Nat.sub_zero, ← List.range_eq_range', all_range d p l] at this
  exact this

/-- A loop that gathers over a list, and may leave. -/
def goL {α γ β : Type} (g : γ → α → γ ⊕ β) (out : γ → β) : List α → γ → β
  | [], a => out a
  | x :: r, a => match g a x with
    | .inl a' => goL g out r a'
    | .inr b => b

theorem lp_go_from {α γ σ β : Type} {S : σ → Option (σ ⊕ β)} (l : List α) (d : α) (mk : γ → Nat → σ) (g : γ → α → γ ⊕ β) (out : γ → β) (I : γ → Nat → Prop)
    (h1 : ∀ a i, i < l.length → I a i → l.getD i d ∈ l → S (mk a i) = some (match g a (l.getD i d) with | .inl a' => .inl (mk a' (i + 1)) | .inr b => .inr b) ∧ ∀ a', g a (l.getD i d) = .inl a' → I a' (i + 1))
    (h2 : ∀ a, I a l.length → S (mk a l.length) = some (.inr (out a))) : ∀ f k a, I a k → k ≤ l.length → l.length - k < f → iter S f (mk a k) = some (goL g out (l.drop k) a)
  | 0, k, a, _, _, h => by omega
  | f + 1, k, a, hi, hk, h => by
    simp only [iter]
    by_cases hn : k < l.length
    · obtain ⟨e1, e2⟩ := h1 a k hn hi (getD_mem hn)
      rw [e1, drop_cons d hn]
      simp only [goL]
      cases hg : g a (l.getD k d) with
      | inl a' => exact lp_go_from l d mk g out I h1 h2 f (k + 1) a' (e2 a' hg) (by omega) (by omega)
      | inr b => rfl
    · obtain rfl : k = l.length := by omega
      rw [h2 a hi, List.drop_length]
      rfl

theorem lp_go {α γ σ β : Type} {S : σ → Option (σ ⊕ β)} (l : List α) (d : α) (mk : γ → Nat → σ) (g : γ → α → γ ⊕ β) (out : γ → β) (I : γ → Nat → Prop) (hl : l.length ≤ 1048576)
    (h1 : ∀ a i, i < l.length → I a i → l.getD i d ∈ l → S (mk a i) = some (match g a (l.getD i d) with | .inl a' => .inl (mk a' (i + 1)) | .inr b => .inr b) ∧ ∀ a', g a (l.getD i d) = .inl a' → I a' (i + 1))
    (h2 : ∀ a, I a l.length → S (mk a l.length) = some (.inr (out a))) {a0 : γ} (h0 : I a0 0) : lp S (mk a0 0) = some (goL g out l a0) := by
  have := lp_go_from l d mk g out I h1 h2 bigN 0 a0 h0 (Nat.zero_le _) (by simp only [bigN]; omega)
  rw [List.drop_zero] at this
  exact this

/-- .. to its end. -/
theorem lp_fold {α γ σ β : Type} {S : σ → Option (σ ⊕ β)} (l : List α) (d : α) (mk : γ → Nat → σ) (g : γ → α → γ) (out : γ → β) (I : γ → Nat → Prop) (hl : l.length ≤ 1048576)
    (h1 : ∀ a i, i < l.length → I a i → l.getD i d ∈ l → S (mk a i) = some (.inl (mk (g a (l.getD i d)) (i + 1))) ∧ I (g a (l.getD i d)) (i + 1))
    (h2 : ∀ a, I a l.length → S (mk a l.length) = some (.inr (out a))) {a0 : γ} (h0 : I a0 0) : lp S (mk a0 0) = some (out (l.foldl g a0)) := by
  rw [lp_go l d mk (fun a x => (.inl (g a x) : γ ⊕ β)) out I hl (fun a i hi hI hm => ⟨(h1 a i hi hI hm).1, fun a' h => by simp only [Sum.inl.injEq] at h; rw [← h]; exact (h1 a i hi hI hm).2⟩) h2 h0]
  congr 1
  clear h1 h2 hl
  induction l generalizing a0 with
  | nil => rfl
  | cons x r ih =>
    have : ∀ (q : List α) (a : γ), goL (fun a x => (.inl (g a x) : γ ⊕ β)) out q a = out (q.foldl g a) := by
      intro q
      induction q with
      | nil => intro a; rfl
      | cons y q ih => intro a; simp only [goL, List.foldl_cons]; exact ih _
    exact this _ _

/-- Two loops, side by side, by a measure: both end, and alike. -/
theorem lp_pair_from {σ τ β γ δ : Type} {S : σ → Option (σ ⊕ β)} {T : τ → Option (τ ⊕ γ)} (R : σ → τ → Prop) (μ : σ → Nat) (E : β → γ → Prop)
    (h : ∀ s t, R s t → (∃ s' t', S s = some (.inl s') ∧ T t = some (.inl t') ∧ R s' t' ∧ μ s' < μ s) ∨ ∃ b c, S s = some (.inr b) ∧ T t = some (.inr c) ∧ E b c) : ∀ f s t, R s t → μ s < f → ∃ b c, iter S f s = some b ∧ iter T f t = some c ∧ E b c
  | 0, s, t, _, hm => by omega
  | f + 1, s, t, hr, hm => by
    simp only [iter]
    rcases h s t hr with ⟨s', t', e1, e2, e3, e4⟩ | ⟨b, c, e1, e2, e3⟩
    · rw [e1, e2]; exact lp_pair_from (δ := δ) R μ E h f s' t' e3 (by omega)
    · rw [e1, e2]; exact ⟨b, c, rfl, rfl, e3⟩
theorem lp_pair {σ τ β γ : Type} {S : σ → Option (σ ⊕ β)} {T : τ → Option (τ ⊕ γ)} (R : σ → τ → Prop) (μ : σ → Nat) (E : β → γ → Prop)
    (h : ∀ s t, R s t → (∃ s' t', S s = some (.inl s') ∧ T t = some (.inl t') ∧ R s' t' ∧ μ s' < μ s) ∨ ∃ b c, S s = some (.inr b) ∧ T t = some (.inr c) ∧ E b c) {s : σ} {t : τ} (hr : R s t) (hm : μ s ≤ 1048576) :
    ∃ b c, lp S s = some b ∧ lp T t = some c ∧ E b c :=
  lp_pair_from (δ := Unit) R μ E h bigN s t hr (by simp only [bigN]; omega)

/-! ### Copies -/
def cpy {α : Type} (l : List α) (d : α) (i : Nat) : List α := l.take i ++ List.replicate (l.length - i) d
theorem cpy_length {α : Type} (l : List α) (d : α) (i : Nat) (h : i ≤ l.length) : (cpy l d i).length = l.length := by simp [cpy]; omega
theorem cpy_zero {α : Type} (l : List α) (d : α) : cpy l d 0 = List.replicate l.length d := by simp [cpy]
theorem cpy_all {α : Type} (l : List α) (d : α) : cpy l d l.length = l := by simp [cpy]
theorem cpy_set {α : Type} (l : List α) (d : α) (i : Nat) (h : i < l.length) : (cpy l d i).set i (l.getD i d) = cpy l d (i + 1) := by
  unfold cpy
  rw [take_snoc d h, show l.length - i = (l.length - (i + 1)) + 1 by omega, List.replicate_succ, List.set_append_right _ _ (by simp; omega)]
  have : i - (l.take i).length = 0 := by simp; omega
  rw [this]
  simp

end Go.Mach
