/- Plain: marks of rows, for any element. No condition: lemmas. -/
import Derived.Test.YthchcnfkgjmabaaGreatLp
namespace Go.Mach
set_option linter.unusedVariables false

/-- What marks a value, and what looks at the marks: sz marks from k on. -/
def Marks {α : Type} (mark : α × Int → Option (Int × α)) (held : α × Int → Option Int) (sz : Nat) (x : α) : Prop :=
  ∀ k : Int, 0 ≤ k → k + sz ≤ 1152921504606846976 → ∃ x', mark (x, k) = some (k + sz, x') ∧ held (x', k) = some (k + sz)

def sumL {α : Type} (f : α → Nat) : List α → Nat
  | [] => 0
  | x :: r => f x + sumL f r

theorem getD_mid {α : Type} (p r : List α) (x d : α) : (p ++ x :: r).getD p.length d = x := by simp [List.getD_eq_getElem?_getD]
theorem set_mid {α : Type} (p r : List α) (x y : α) : (p ++ x :: r).set p.length y = (p ++ [y]) ++ r := by simp

theorem marks_list {α U : Type} {mark : α × Int → Option (Int × α)} {held : α × Int → Option Int} (d : α) {l : List α} {sz : α → Nat} (hl : l.length ≤ 1048576) (he : ∀ x ∈ l, Marks mark held (sz x) x) (u : U)
    {S : U × Int × Int × List α → Option ((U × Int × Int × List α) ⊕ (Int × List α))} {T : List α × Int × Int → Option ((List α × Int × Int) ⊕ (Int ⊕ Int))}
    (hs : ∀ (k : Int) (i : Nat) (c : List α), i < c.length → c.length ≤ 1048576 → S (u, k, (i : Int), c) = (mark (c.getD i d, k)).bind fun r => some (.inl (u, r.1, ((i + 1 : Nat) : Int), c.set i r.2)))
    (hs2 : ∀ (k : Int) (c : List α), S (u, k, (c.length : Int), c) = some (.inr (k, c)))
    (ht : ∀ (k r : Int) (i : Nat) (c : List α), i < c.length → c.length ≤ 1048576 → held (c.getD i d, k) = some r → 0 ≤ r → T (c, k, (i : Int)) = some (.inl (c, r, ((i + 1 : Nat) : Int))))
    (ht2 : ∀ (k : Int) (c : List α), T (c, k, (c.length : Int)) = some (.inr (.inr k))) :
    Marks (fun p => (lp S (u, p.2, 0, p.1)).bind fun r => some (r.1, r.2)) (fun p => bx (lp T (p.1, p.2, 0)) (fun c => some c) fun c => some c) (sumL sz l) l := by
  intro k h0 h1
  have key : ∀ (r : List α) (k : Int), (∀ x ∈ r, Marks mark held (sz x) x) → 0 ≤ k → k + (sumL sz r : Nat) ≤ 1152921504606846976 → ∃ r' : List α, r'.length = r.length ∧
      (∀ (p : List α) (f : Nat), p.length + r.length ≤ 1048576 → r.length < f → iter S f (u, k, (p.length : Int), p ++ r) = some (k + (sumL sz r : Nat), p ++ r')) ∧
      (∀ (p : List α) (f : Nat), p.length + r.length ≤ 1048576 → r.length < f → iter T f (p ++ r', k, (p.length : Int)) = some (.inr (k + (sumL sz r : Nat)))) := by
    intro r
    induction r with
    | nil =>
      intro k _ _ _
      refine ⟨[], rfl, fun p f _ hf => ?_, fun p f _ hf => ?_⟩
      · cases f with
        | zero => simp at hf
        | succ f =>
          simp only [iter, List.append_nil, hs2, sumL]
          simp
      · cases f with
        | zero => simp at hf
        | succ f =>
          simp only [iter, List.append_nil, ht2, sumL]
          simp
    | cons x r ih =>
      intro k hm h0 h1
      simp only [sumL] at h1 ⊢
      obtain ⟨x', e1, e2⟩ := hm x List.mem_cons_self k h0 (by omega)
      obtain ⟨r', l1, l2, l3⟩ := ih (k + sz x) (fun y hy => hm y (List.mem_cons_of_mem _ hy)) (by omega) (by omega)
      have hsum : k + (sz x : Int) + (sumL sz r : Nat) = k + ((sz x + sumL sz r : Nat) : Int) := by omega
      refine ⟨x' :: r', by simp [l1], fun p f hp hf => ?_, fun p f hp hf => ?_⟩
      · cases f with
        | zero => simp at hf
        | succ f =>
          simp only [List.length_cons] at hf hp
          simp only [iter]
          rw [hs k p.length (p ++ x :: r) (by simp) (by simp; omega), getD_mid, e1]
          simp only [Option.bind_some, set_mid]
          have := l2 (p ++ [x']) f (by simp; omega) (by omega)
          rw [hsum] at this
          simpa using this
      · cases f with
        | zero => simp at hf
        | succ f =>
          simp only [List.length_cons] at hf hp
          simp only [iter]
          rw [ht k (k + sz x) p.length (p ++ x' :: r') (by simp) (by simp; omega) (by rw [getD_mid, e2]) (by omega)]
          simp only
          have := l3 (p ++ [x']) f (by simp; omega) (by omega)
          rw [hsum] at this
          simpa using this
  obtain ⟨r', l1, l2, l3⟩ := key l k he h0 h1
  refine ⟨r', ?_, ?_⟩
  · have := l2 [] bigN (by simpa using hl) (by simp only [bigN]; omega)
    have h : lp S (u, k, 0, l) = some (k + (sumL sz l : Nat), r') := by simpa [lp] using this
    simp only [h, Option.bind_some]
  · have := l3 [] bigN (by simpa using hl) (by simp only [bigN]; omega)
    have h : lp T (r', k, 0) = some (.inr (k + (sumL sz l : Nat))) := by simpa [lp] using this
    simp only [h, bx_inr]

/-- A look at marks, where the program has none. -/
def heldD {α : Type} (held : α × Int → Option Int) (d : α) : List α × Int × Int → Option ((List α × Int × Int) ⊕ (Int ⊕ Int)) :=
  fun p => if p.2.2.toNat < p.1.length then (held (p.1.getD p.2.2.toNat d, p.2.1)).bind fun r => bif decide (r < 0) then some (.inr (.inl (-1))) else some (.inl (p.1, r, ((p.2.2.toNat + 1 : Nat) : Int))) else some (.inr (.inr p.2.1))

theorem mark_list {α U : Type} {mark : α × Int → Option (Int × α)} {held : α × Int → Option Int} (d : α) {l : List α} {sz : α → Nat} (hl : l.length ≤ 1048576) (he : ∀ x ∈ l, Marks mark held (sz x) x) (u : U)
    {S : U × Int × Int × List α → Option ((U × Int × Int × List α) ⊕ (Int × List α))}
    (hs : ∀ (k : Int) (i : Nat) (c : List α), i < c.length → c.length ≤ 1048576 → S (u, k, (i : Int), c) = (mark (c.getD i d, k)).bind fun r => some (.inl (u, r.1, ((i + 1 : Nat) : Int), c.set i r.2)))
    (hs2 : ∀ (k : Int) (c : List α), S (u, k, (c.length : Int), c) = some (.inr (k, c))) :
    Marks (fun p => (lp S (u, p.2, 0, p.1)).bind fun r => some (r.1, r.2)) (fun p => bx (lp (heldD held d) (p.1, p.2, 0)) (fun c => some c) fun c => some c) (sumL sz l) l :=
  marks_list d hl he u hs hs2 (fun k r i c hi _ e hr => by simp only [heldD, Int.toNat_natCast]; rw [if_pos hi, e, Option.bind_some, dF (show ¬ r < 0 by omega), cond_false]) (fun k c => by simp [heldD])

theorem held_no {c : Bool} {x : Option Int} {r : Int} (h : (bif c then some (-1) else x) = some r) (hr : 0 ≤ r) : c = false ∧ x = some r := by
  cases c
  · exact ⟨rfl, h⟩
  · simp only [cond_true, Option.some.injEq] at h; omega
theorem held_on {y : Option Int} {k : Int → Option Int} {r : Int} (h : (y.bind fun i => bif decide (i < 0) then some (-1) else k i) = some r) (hr : 0 ≤ r) : ∃ i, y = some i ∧ decide (i < 0) = false ∧ k i = some r := by
  cases y with
  | none => simp at h
  | some i =>
    rw [Option.bind_some] at h
    obtain ⟨h1, h2⟩ := held_no h hr
    exact ⟨i, rfl, h1, h2⟩

theorem sumL_le {α : Type} {f : α → Nat} {b : Nat} : ∀ {l : List α}, (∀ x ∈ l, f x ≤ b) → sumL f l ≤ l.length * b
  | [], _ => by simp [sumL]
  | x :: r, h => by
    have := sumL_le (l := r) fun y hy => h y (List.mem_cons_of_mem _ hy)
    have := h x List.mem_cons_self
    simp only [sumL, List.length_cons, Nat.add_mul]
    omega

/-- A loop that copies a row, element by element. -/
theorem copy_list {α : Type} {to : α → Option α} (d : α) {l : List α} (hl : l.length ≤ 1048576) (he : ∀ x ∈ l, to x = some x)
    {S : List α × List α × Int → Option ((List α × List α × Int) ⊕ List α)} (h1 : ∀ (i : Nat) (m : List α), i < l.length → m.length = l.length → S (l, m, (i : Int)) = (to (l.getD i d)).bind fun r => some (.inl (l, m.set i r, ((i + 1 : Nat) : Int))))
    (h2 : ∀ m : List α, S (l, m, (l.length : Int)) = some (.inr m)) : lp S (l, List.replicate l.length d, 0) = some l := by
  have h : lp S (l, cpy l d 0, ((0 : Nat) : Int)) = some l := by
    refine lp_det (fun i => (l, cpy l d i, (i : Int))) hl (fun i hi => ?_) ?_
    · rw [h1 i _ hi (cpy_length l d i (by omega)), he _ (getD_mem hi), Option.bind_some, cpy_set l d i hi]
    · rw [h2, cpy_all]
  rwa [cpy_zero] at h

/-- A loop that compares a row with itself. -/
theorem same_list {α β : Type} {eq : α × α → Option Bool} (d : α) {l : List α} (hl : l.length ≤ 1048576) (he : ∀ x ∈ l, eq (x, x) = some true) {t e : β}
    {S : List α × List α × Int → Option ((List α × List α × Int) ⊕ β)} (h1 : ∀ (i : Nat), i < l.length → S (l, l, (i : Int)) = (eq (l.getD i d, l.getD i d)).bind fun r => bif r then some (.inl (l, l, ((i + 1 : Nat) : Int))) else some (.inr e))
    (h2 : S (l, l, (l.length : Int)) = some (.inr t)) : lp S (l, l, 0) = some t := by
  refine lp_det (fun i => (l, l, (i : Int))) hl (fun i hi => ?_) h2
  rw [h1 i hi, he _ (getD_mem hi)]
  rfl

/-- What is left of a bulk: below 0, or within: n is what it took. -/
def Sz {α : Type} (f : α × Int → Option Int) (W : α → Prop) (n : α → Nat) : Prop := ∀ x a, W x → 0 ≤ a → a ≤ 1048576 → ∃ b, f (x, a) = some b ∧ (b = -1 ∨ (0 ≤ b ∧ b + n x ≤ a))

theorem sz_walk {α : Type} {g : α × Int → Option Int} {W : α → Prop} {n : α → Nat} (hg : Sz g W n) (d : α) {S : List α × Int × Int → Option ((List α × Int × Int) ⊕ (Int ⊕ Int))} {l : List α} (hw : ∀ x ∈ l, W x)
    (h1 : ∀ (i : Nat) (a : Int), i < l.length → S (l, a, (i : Int)) = (g (l.getD i d, a)).bind fun r => bif decide (r < 0) then some (.inr (.inl (-1))) else some (.inl (l, r, ((i + 1 : Nat) : Int))))
    (h2 : ∀ a, S (l, a, (l.length : Int)) = some (.inr (.inr a))) : ∀ (f k : Nat) (a : Int), k ≤ l.length → l.length - k < f → 0 ≤ a → a ≤ 1048576 →
    ∃ b, iter S f (l, a, (k : Int)) = some b ∧ (b = .inl (-1) ∨ ∃ c, b = .inr c ∧ 0 ≤ c ∧ c + sumL n (l.drop k) ≤ a)
  | 0, k, a, _, h, _, _ => by omega
  | f + 1, k, a, hk, h, h0, h3 => by
    simp only [iter]
    by_cases hn : k < l.length
    · rw [h1 k a hn]
      obtain ⟨b, e1, e2⟩ := hg (l.getD k d) a (hw _ (getD_mem hn)) h0 h3
      rw [e1]
      rcases e2 with rfl | ⟨e2, e3⟩
      · exact ⟨.inl (-1), by simp, .inl rfl⟩
      · have : decide (b < 0) = false := by simp; omega
        simp only [Option.bind_some, this, cond_false]
        obtain ⟨c, q1, q2⟩ := sz_walk hg d hw h1 h2 f (k + 1) b (by omega) (by omega) e2 (by omega)
        refine ⟨c, q1, ?_⟩
        rcases q2 with q2 | ⟨c', q2, q3, q4⟩
        · exact .inl q2
        · refine .inr ⟨c', q2, q3, ?_⟩
          rw [drop_cons d hn]
          simp only [sumL]
          omega
    · obtain rfl : k = l.length := by omega
      rw [h2]
      refine ⟨_, rfl, .inr ⟨a, rfl, h0, ?_⟩⟩
      rw [List.drop_length]
      simp [sumL]

/-- The size of a row, element by element. -/
theorem sz_list {α : Type} {g : α × Int → Option Int} {W : α → Prop} {n : α → Nat} (hg : Sz g W n) (d : α) {S : List α × Int × Int → Option ((List α × Int × Int) ⊕ (Int ⊕ Int))}
    (h1 : ∀ (l : List α) (i : Nat) (a : Int), l.length ≤ 1048576 → i < l.length → S (l, a, (i : Int)) = (g (l.getD i d, a)).bind fun r => bif decide (r < 0) then some (.inr (.inl (-1))) else some (.inl (l, r, ((i + 1 : Nat) : Int))))
    (h2 : ∀ (l : List α) a, S (l, a, (l.length : Int)) = some (.inr (.inr a))) :
    Sz (fun p => (some (decide (w64 (p.2 - ln p.1) < 0))).bind fun c => bif c then some (-1) else bx (lp S (p.1, w64 (p.2 - ln p.1), 0)) (fun d => some d) fun d => some d)
      (fun l => l.length ≤ 9223372036854775807 ∧ ∀ x ∈ l, W x) (fun l => l.length + sumL n l) := by
  intro l a hw h0 h3
  have hw0 := hw.1
  simp only [Option.bind_some, lnn]
  rw [w64_ok (by omega) (by omega), bif_dec]
  split
  · exact ⟨_, rfl, .inl rfl⟩
  · rename_i hneg
    have hl : l.length ≤ 1048576 := by omega
    obtain ⟨b, q1, q2⟩ := sz_walk hg d (S := S) hw.2 (fun i a hi => h1 l i a hl hi) (fun a => h2 l a) bigN 0 (a - l.length) (by omega) (by simp only [bigN]; omega) (by omega) (by omega)
    have q1' : lp S (l, a - (l.length : Int), 0) = some b := q1
    rw [q1']
    rcases q2 with rfl | ⟨c, rfl, q3, q4⟩
    · exact ⟨_, rfl, .inl rfl⟩
    · refine ⟨c, rfl, .inr ⟨q3, ?_⟩⟩
      rw [List.drop_zero] at q4
      omega

theorem sz_len {α : Type} : Sz (fun (p : List α × Int) => (some (decide (w64 (p.2 - ln p.1) < 0))).bind fun c => bif c then some (-1) else some (w64 (p.2 - ln p.1))) (fun l => l.length ≤ 9223372036854775807) (fun l => l.length) := by
  intro l a hw h0 h1
  simp only [Option.bind_some, lnn]
  rw [w64_ok (by omega) (by omega), bif_dec]
  split
  · exact ⟨_, rfl, .inl rfl⟩
  · exact ⟨_, rfl, .inr ⟨by omega, by omega⟩⟩

/-- One size behind another. -/
theorem sz_then {x : Option Int} {a : Int} {k : Int → Option Int} {m n : Nat} (hx : ∃ b, x = some b ∧ (b = -1 ∨ (0 ≤ b ∧ b + m ≤ a))) (hk : ∀ b, 0 ≤ b → b ≤ a → ∃ c, k b = some c ∧ (c = -1 ∨ (0 ≤ c ∧ c + n ≤ b))) :
    ∃ c, (x.bind fun i => bif decide (i < 0) then some (-1) else k i) = some c ∧ (c = -1 ∨ (0 ≤ c ∧ c + (m + n : Nat) ≤ a)) := by
  obtain ⟨b, rfl, rfl | ⟨h1, h2⟩⟩ := hx
  · exact ⟨-1, rfl, .inl rfl⟩
  · obtain ⟨c, e, q⟩ := hk b h1 (by omega)
    refine ⟨c, by rw [Option.bind_some, dF (show ¬ b < 0 by omega), cond_false, e], ?_⟩
    rcases q with q | ⟨q1, q2⟩
    · exact .inl q
    · exact .inr ⟨q1, by omega⟩
theorem sz_last {a : Int} (h : 0 ≤ a) : ∃ c, some a = some c ∧ (c = -1 ∨ (0 ≤ c ∧ c + (0 : Nat) ≤ a)) := ⟨a, rfl, .inr ⟨h, by omega⟩⟩
theorem sz_mono {x : Option Int} {a : Int} {m n : Nat} (hx : ∃ b, x = some b ∧ (b = -1 ∨ (0 ≤ b ∧ b + m ≤ a))) (h : n ≤ m) : ∃ b, x = some b ∧ (b = -1 ∨ (0 ≤ b ∧ b + n ≤ a)) := by
  obtain ⟨b, e, q⟩ := hx
  exact ⟨b, e, q.imp id fun ⟨q1, q2⟩ => ⟨q1, by omega⟩⟩
theorem sumL_mem {α : Type} {f : α → Nat} : ∀ {l : List α} {x : α}, x ∈ l → f x ≤ sumL f l
  | y :: r, x, h => by
    simp only [sumL]
    rcases List.mem_cons.1 h with rfl | h
    · omega
    · have := sumL_mem (f := f) h; omega
theorem sumL_append {α : Type} {f : α → Nat} : ∀ {l m : List α}, sumL f (l ++ m) = sumL f l + sumL f m
  | [], m => by simp [sumL]
  | x :: r, m => by simp only [List.cons_append, sumL, sumL_append (l := r)]; omega

end Go.Mach
