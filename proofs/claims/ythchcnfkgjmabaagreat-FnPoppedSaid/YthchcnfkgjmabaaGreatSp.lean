/- Plain: sets of whole numbers as rows of spans: one set, one row. No condition: lemmas. -/
namespace Go.Mach
set_option linter.unusedVariables false

abbrev Sp2 := Int × Int

/-- A number in a set. -/
def hasN (s : List Sp2) (n : Int) : Prop := ∃ x ∈ s, x.1 ≤ n ∧ n ≤ x.2

/-- A row of spans as it ought to be: in order, with gaps. -/
def Canon : List Sp2 → Prop
  | [] => True
  | x :: r => x.1 ≤ x.2 ∧ (∀ y ∈ r, x.2 + 1 < y.1) ∧ Canon r

theorem hasN_nil (n : Int) : ¬ hasN [] n := fun ⟨x, h, _⟩ => by simp at h
theorem hasN_cons {x : Sp2} {s : List Sp2} {n : Int} : hasN (x :: s) n ↔ (x.1 ≤ n ∧ n ≤ x.2) ∨ hasN s n := by
  unfold hasN
  constructor
  · rintro ⟨y, hy, h⟩
    rcases List.mem_cons.1 hy with rfl | hy
    · exact .inl h
    · exact .inr ⟨y, hy, h⟩
  · rintro (h | ⟨y, hy, h⟩)
    · exact ⟨x, List.mem_cons_self, h⟩
    · exact ⟨y, List.mem_cons_of_mem _ hy, h⟩
theorem hasN_append {s t : List Sp2} {n : Int} : hasN (s ++ t) n ↔ hasN s n ∨ hasN t n := by
  unfold hasN
  constructor
  · rintro ⟨y, hy, h⟩
    rcases List.mem_append.1 hy with hy | hy
    · exact .inl ⟨y, hy, h⟩
    · exact .inr ⟨y, hy, h⟩
  · rintro (⟨y, hy, h⟩ | ⟨y, hy, h⟩)
    · exact ⟨y, List.mem_append_left _ hy, h⟩
    · exact ⟨y, List.mem_append_right _ hy, h⟩
theorem hasN_perm {s t : List Sp2} (h : s.Perm t) {n : Int} : hasN s n ↔ hasN t n := by
  unfold hasN
  constructor <;> rintro ⟨y, hy, q⟩
  · exact ⟨y, h.mem_iff.1 hy, q⟩
  · exact ⟨y, h.mem_iff.2 hy, q⟩

theorem Canon.mem : ∀ {s : List Sp2}, Canon s → ∀ x ∈ s, x.1 ≤ x.2
  | _ :: _, h, x, hx => by
    rcases List.mem_cons.1 hx with rfl | hx
    · exact h.1
    · exact h.2.2.mem x hx

theorem Canon.head_le {x : Sp2} {s : List Sp2} (h : Canon (x :: s)) {n : Int} (hn : hasN (x :: s) n) : x.1 ≤ n := by
  rcases hasN_cons.1 hn with g | ⟨y, hy, g⟩
  · exact g.1
  · have := h.2.1 y hy
    have := h.1
    omega

theorem Canon.tail_gt {x : Sp2} {s : List Sp2} (h : Canon (x :: s)) {n : Int} (hn : hasN s n) : x.2 + 1 < n := by
  obtain ⟨y, hy, g⟩ := hn
  have := h.2.1 y hy
  omega

/-- One set, one row. -/
theorem Canon.ext : ∀ {a b : List Sp2}, Canon a → Canon b → (∀ n, hasN a n ↔ hasN b n) → a = b
  | [], [], _, _, _ => rfl
  | [], y :: t, _, hb, h => absurd ((h y.1).2 (hasN_cons.2 (.inl ⟨Int.le_refl _, hb.1⟩))) (hasN_nil _)
  | x :: r, [], ha, _, h => absurd ((h x.1).1 (hasN_cons.2 (.inl ⟨Int.le_refl _, ha.1⟩))) (hasN_nil _)
  | x :: r, y :: t, ha, hb, h => by
    have h1 : y.1 ≤ x.1 := hb.head_le ((h x.1).1 (hasN_cons.2 (.inl ⟨Int.le_refl _, ha.1⟩)))
    have h2 : x.1 ≤ y.1 := ha.head_le ((h y.1).2 (hasN_cons.2 (.inl ⟨Int.le_refl _, hb.1⟩)))
    have e1 : x.1 = y.1 := by omega
    have e2 : x.2 = y.2 := by
      have hx := ha.1
      have hy := hb.1
      rcases Int.lt_trichotomy x.2 y.2 with g | g | g
      · exfalso
        have := (h (x.2 + 1)).2 (hasN_cons.2 (.inl ⟨by omega, by omega⟩))
        rcases hasN_cons.1 this with q | q
        · omega
        · have := ha.tail_gt q; omega
      · exact g
      · exfalso
        have := (h (y.2 + 1)).1 (hasN_cons.2 (.inl ⟨by omega, by omega⟩))
        rcases hasN_cons.1 this with q | q
        · omega
        · have := hb.tail_gt q; omega
    obtain rfl : x = y := Prod.ext e1 e2
    congr 1
    refine Canon.ext ha.2.2 hb.2.2 fun n => ⟨fun q => ?_, fun q => ?_⟩
    · rcases hasN_cons.1 ((h n).1 (hasN_cons.2 (.inr q))) with g | g
      · have := ha.tail_gt q; omega
      · exact g
    · rcases hasN_cons.1 ((h n).2 (hasN_cons.2 (.inr q))) with g | g
      · have := hb.tail_gt q; omega
      · exact g

theorem Canon.append : ∀ {a b : List Sp2}, Canon a → Canon b → (∀ x ∈ a, ∀ y ∈ b, x.2 + 1 < y.1) → Canon (a ++ b)
  | [], b, _, hb, _ => hb
  | x :: r, b, ha, hb, h => by
    refine ⟨ha.1, fun y hy => ?_, Canon.append ha.2.2 hb fun z hz y hy => h z (List.mem_cons_of_mem _ hz) y hy⟩
    rcases List.mem_append.1 hy with hy | hy
    · exact ha.2.1 y hy
    · exact h x List.mem_cons_self y hy

theorem Canon.split : ∀ {a b : List Sp2}, Canon (a ++ b) → Canon a ∧ Canon b ∧ ∀ x ∈ a, ∀ y ∈ b, x.2 + 1 < y.1
  | [], b, h => ⟨trivial, h, fun x hx => by simp at hx⟩
  | x :: r, b, h => by
    obtain ⟨h1, h2, h3⟩ := Canon.split (a := r) (b := b) h.2.2
    refine ⟨⟨h.1, fun y hy => h.2.1 y (List.mem_append_left _ hy), h1⟩, h2, fun z hz y hy => ?_⟩
    rcases List.mem_cons.1 hz with rfl | hz
    · exact h.2.1 y (List.mem_append_right _ hy)
    · exact h3 z hz y hy

/-! ### Spans in order, putS together -/
def mstep (out : List Sp2) (x : Sp2) : List Sp2 := match out.getLast? with
  | none => [x]
  | some l => if x.1 ≤ l.2 + 1 then out.dropLast ++ [(l.1, max l.2 x.2)] else out ++ [x]

theorem mstep_ok {out : List Sp2} {x : Sp2} (hc : Canon out) (hx : x.1 ≤ x.2) (hs : ∀ y ∈ out, y.1 ≤ x.1) : Canon (mstep out x) ∧ (∀ n, hasN (mstep out x) n ↔ hasN out n ∨ x.1 ≤ n ∧ n ≤ x.2) ∧ ∀ y ∈ mstep out x, y.1 ≤ x.1 := by
  unfold mstep
  cases hl : out.getLast? with
  | none =>
    obtain rfl := List.getLast?_eq_none_iff.1 hl
    simp only
    refine ⟨⟨hx, by simp, trivial⟩, fun n => ?_, by simp⟩
    rw [hasN_cons]
    constructor
    · rintro (h | h)
      · exact .inr h
      · exact absurd h (hasN_nil n)
    · rintro (h | h)
      · exact absurd h (hasN_nil n)
      · exact .inl h
  | some l =>
    simp only
    have hd : out = out.dropLast ++ [l] := by
      obtain ⟨hne, he⟩ := List.getLast?_eq_some_iff.1 hl
      rw [he]; simp
    generalize hD : out.dropLast = D at hd
    subst hd
    have hlx := hs l (by simp)
    obtain ⟨c1, c2, c3⟩ := hc.split
    have hl2 : l.1 ≤ l.2 := c2.1
    split
    · rename_i h
      refine ⟨c1.append ⟨by omega, by simp, trivial⟩ fun y hy z hz => ?_, fun n => ?_, fun y hy => ?_⟩
      · simp only [List.mem_singleton] at hz
        subst hz
        exact c3 y hy l (by simp)
      · rw [hasN_append, hasN_append, hasN_cons, hasN_cons]
        have := hasN_nil n
        constructor
        · rintro (g | g | g)
          · exact .inl (.inl g)
          · simp only at g
            by_cases hq : n ≤ l.2
            · exact .inl (.inr (.inl ⟨g.1, hq⟩))
            · exact .inr ⟨by omega, by omega⟩
          · exact absurd g this
        · rintro ((g | g | g) | g)
          · exact .inl g
          · exact .inr (.inl ⟨g.1, by simp only; omega⟩)
          · exact absurd g this
          · exact .inr (.inl ⟨by simp only; omega, by simp only; omega⟩)
      · rcases List.mem_append.1 hy with hy | hy
        · exact hs y (List.mem_append_left _ hy)
        · simp only [List.mem_singleton] at hy
          subst hy
          exact hlx
    · rename_i h
      refine ⟨hc.append ⟨hx, by simp, trivial⟩ fun y hy z hz => ?_, fun n => ?_, fun y hy => ?_⟩
      · simp only [List.mem_singleton] at hz
        subst hz
        rcases List.mem_append.1 hy with hy | hy
        · have := c3 y hy l (by simp); omega
        · simp only [List.mem_singleton] at hy
          subst hy
          omega
      · rw [hasN_append (s := D ++ [l]), hasN_cons]
        have := hasN_nil n
        constructor
        · rintro (g | g | g)
          · exact .inl g
          · exact .inr g
          · exact absurd g this
        · rintro (g | g)
          · exact .inl g
          · exact .inr (.inl g)
      · rcases List.mem_append.1 hy with hy | hy
        · exact hs y hy
        · simp only [List.mem_singleton] at hy
          subst hy
          exact Int.le_refl _

theorem msteps_ok : ∀ {l out : List Sp2}, Canon out → (∀ x ∈ l, x.1 ≤ x.2) → l.Pairwise (fun x y => x.1 ≤ y.1) → (∀ y ∈ out, ∀ x ∈ l, y.1 ≤ x.1) →
    Canon (l.foldl mstep out) ∧ ∀ n, hasN (l.foldl mstep out) n ↔ hasN out n ∨ hasN l n
  | [], out, hc, _, _, _ => ⟨hc, fun n => ⟨.inl, fun h => h.elim id fun q => absurd q (hasN_nil n)⟩⟩
  | x :: r, out, hc, hx, hp, hs => by
    obtain ⟨m1, m2, m3⟩ := mstep_ok hc (hx x List.mem_cons_self) fun y hy => hs y hy x List.mem_cons_self
    obtain ⟨p1, p2⟩ := List.pairwise_cons.1 hp
    obtain ⟨h1, h2⟩ := msteps_ok (l := r) m1 (fun y hy => hx y (List.mem_cons_of_mem _ hy)) p2 fun y hy z hz => Int.le_trans (m3 y hy) (p1 z hz)
    refine ⟨h1, fun n => ?_⟩
    rw [List.foldl_cons, h2, m2, hasN_cons, or_assoc]

/-- The set of spans: the one row. -/
def nrm (l : List Sp2) : List Sp2 := (l.mergeSort fun x y => decide (x.1 ≤ y.1)).foldl mstep []

theorem sortedBy (l : List Sp2) : (l.mergeSort fun x y => decide (x.1 ≤ y.1)).Pairwise (fun x y => x.1 ≤ y.1) := by
  have := List.pairwise_mergeSort (le := fun x y : Sp2 => decide (x.1 ≤ y.1)) (by intro a b c; simp; omega) (by intro a b; simp; omega) l
  exact this.imp (by simp)

theorem nrm_ok {l : List Sp2} (h : ∀ x ∈ l, x.1 ≤ x.2) : Canon (nrm l) ∧ ∀ n, hasN (nrm l) n ↔ hasN l n := by
  have hp := List.mergeSort_perm l fun x y => decide (x.1 ≤ y.1)
  obtain ⟨h1, h2⟩ := msteps_ok (l := l.mergeSort fun x y => decide (x.1 ≤ y.1)) (out := []) trivial (fun x hx => h x (hp.mem_iff.1 hx)) (sortedBy l) (by simp)
  refine ⟨h1, fun n => ?_⟩
  rw [show nrm l = (l.mergeSort fun x y => decide (x.1 ≤ y.1)).foldl mstep [] from rfl, h2, hasN_perm hp]
  exact ⟨fun q => q.elim (fun g => absurd g (hasN_nil n)) id, .inr⟩

/-- Whatever order sorts them: the same row. -/
theorem nrm_any {l m : List Sp2} (h : ∀ x ∈ l, x.1 ≤ x.2) (hp : m.Perm l) (hs : m.Pairwise (fun x y => x.1 ≤ y.1)) : m.foldl mstep [] = nrm l := by
  obtain ⟨h1, h2⟩ := msteps_ok (l := m) (out := []) trivial (fun x hx => h x (hp.mem_iff.1 hx)) hs (by simp)
  obtain ⟨g1, g2⟩ := nrm_ok h
  refine Canon.ext h1 g1 fun n => ?_
  rw [h2, g2, hasN_perm hp]
  exact ⟨fun q => q.elim (fun g => absurd g (hasN_nil n)) id, .inr⟩

theorem nrm_uniq {l m : List Sp2} (h : ∀ x ∈ l, x.1 ≤ x.2) (hc : Canon m) (hm : ∀ n, hasN m n ↔ hasN l n) : nrm l = m :=
  (nrm_ok h).1.ext hc fun n => by rw [(nrm_ok h).2, hm]

theorem nrm_can {l : List Sp2} (h : Canon l) : nrm l = l := nrm_uniq h.mem h fun _ => Iff.rfl

/-! ### One span into a set -/
def putS : List Sp2 → Sp2 → List Sp2
  | [], x => [x]
  | s :: r, x => if s.2 + 1 < x.1 then s :: putS r x else if s.1 > x.2 + 1 then x :: s :: r else putS r (min x.1 s.1, max x.2 s.2)

theorem putS_mem : ∀ {s : List Sp2} {x : Sp2} {y : Sp2}, y ∈ putS s x → ∀ a, (∀ z ∈ s, a < z.1) → a < x.1 → a < y.1
  | [], x, y, hy, a, _, hx => by simp only [putS, List.mem_singleton] at hy; rw [hy]; exact hx
  | s :: r, x, y, hy, a, hs, hx => by
    simp only [putS] at hy
    split at hy
    · rcases List.mem_cons.1 hy with rfl | hy
      · exact hs _ List.mem_cons_self
      · exact putS_mem hy a (fun z hz => hs z (List.mem_cons_of_mem _ hz)) hx
    · split at hy
      · rcases List.mem_cons.1 hy with rfl | hy
        · exact hx
        · exact hs y hy
      · refine putS_mem hy a (fun z hz => hs z (List.mem_cons_of_mem _ hz)) ?_
        have := hs s List.mem_cons_self
        simp only; omega

theorem putS_ok : ∀ {s : List Sp2} {x : Sp2}, Canon s → x.1 ≤ x.2 → Canon (putS s x) ∧ ∀ n, hasN (putS s x) n ↔ hasN s n ∨ x.1 ≤ n ∧ n ≤ x.2
  | [], x, _, hx => ⟨⟨hx, by simp, trivial⟩, fun n => by
      simp only [putS]
      rw [hasN_cons]
      exact ⟨fun h => h.elim .inr fun q => absurd q (hasN_nil n), fun h => h.elim (fun q => absurd q (hasN_nil n)) .inl⟩⟩
  | s :: r, x, hs, hx => by
    simp only [putS]
    have h1 := hs.1
    split
    · rename_i h
      obtain ⟨g1, g2⟩ := putS_ok hs.2.2 hx
      refine ⟨⟨hs.1, fun y hy => putS_mem hy (s.2 + 1) hs.2.1 h, g1⟩, fun n => ?_⟩
      rw [hasN_cons, hasN_cons, g2, or_assoc]
    · rename_i h
      split
      · rename_i h2
        refine ⟨⟨hx, fun y hy => ?_, hs⟩, fun n => ?_⟩
        · rcases List.mem_cons.1 hy with rfl | hy
          · omega
          · have := hs.2.1 y hy; omega
        · rw [hasN_cons (x := x)]
          exact ⟨fun h => h.elim .inr .inl, fun h => h.elim .inr .inl⟩
      · rename_i h2
        obtain ⟨g1, g2⟩ := putS_ok (x := (min x.1 s.1, max x.2 s.2)) hs.2.2 (by simp only; omega)
        refine ⟨g1, fun n => ?_⟩
        rw [g2, hasN_cons]
        simp only
        constructor
        · rintro (g | g)
          · exact .inl (.inr g)
          · by_cases q : s.1 ≤ n ∧ n ≤ s.2
            · exact .inl (.inl q)
            · exact .inr (by omega)
        · rintro ((g | g) | g)
          · exact .inr (by omega)
          · exact .inl g
          · exact .inr (by omega)

/-- Many spans into a set. -/
theorem putsS_ok : ∀ {l s : List Sp2}, Canon s → (∀ x ∈ l, x.1 ≤ x.2) → Canon (l.foldl putS s) ∧ ∀ n, hasN (l.foldl putS s) n ↔ hasN s n ∨ hasN l n
  | [], s, h, _ => ⟨h, fun n => ⟨.inl, fun q => q.elim id fun g => absurd g (hasN_nil n)⟩⟩
  | x :: r, s, h, hx => by
    obtain ⟨p1, p2⟩ := putS_ok h (hx x List.mem_cons_self)
    obtain ⟨g1, g2⟩ := putsS_ok (l := r) p1 fun y hy => hx y (List.mem_cons_of_mem _ hy)
    refine ⟨g1, fun n => ?_⟩
    rw [List.foldl_cons, g2, p2, hasN_cons, or_assoc]

theorem putsS_nrm {l s : List Sp2} (h : Canon s) (hx : ∀ x ∈ l, x.1 ≤ x.2) : l.foldl putS s = nrm (s ++ l) := by
  obtain ⟨g1, g2⟩ := putsS_ok h hx
  refine (nrm_uniq (fun x hx' => ?_) g1 fun n => ?_).symm
  · rcases List.mem_append.1 hx' with q | q
    · exact h.mem x q
    · exact hx x q
  · rw [g2, hasN_append]

end Go.Mach
