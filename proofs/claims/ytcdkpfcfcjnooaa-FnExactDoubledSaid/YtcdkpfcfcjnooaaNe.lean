/- The machine, part ne: patterns of slots, with typed holes. No condition: definitions and lemmas. -/
import Derived.Test.YtcdkpfcfcjnooaaNd
namespace Go.Mach
set_option linter.unusedVariables false
set_option linter.unusedSimpArgs false

/-- What a function value has captured. -/
inductive PF where
  | dead
  | bptr (s j : Nat)
  | pim (ks : List K) (j : Nat)

/-- A pattern of a cell. -/
inductive PC where
  | dead
  | nil
  | dat (k : K)
  | own (deep : Bool) (k : K)
  | ref (s j : Nat) (p : List Nat) (lo hi : Bool) (k : K)
  | bptr (s j : Nat)
  | aptr (s j : Nat) (p : List Nat) (c : Nat) (k : K)
  | pim (ks : List K) (j : Nat)
  | fn (f : Nat) (caps : List PF)

@[reducible] def PathT : List Nat → Type
  | [] => Unit
  | _ :: r => Nat × PathT r

@[reducible] def OptT : Bool → Type
  | true => Nat
  | false => Unit

@[reducible] def KsT : List K → Type
  | [] => Unit
  | k :: r => k.T × KsT r

@[reducible] def PF.T : PF → Type
  | .pim ks _ => KsT ks
  | _ => Unit

@[reducible] def PFsT : List PF → Type
  | [] => Unit
  | f :: r => f.T × PFsT r

@[reducible] def PC.T : PC → Type
  | .dat k => k.T
  | .own _ k => List k.T
  | .ref _ _ p lo hi _ => PathT p × OptT lo × OptT hi
  | .aptr _ _ p _ _ => PathT p × Nat
  | .pim ks _ => KsT ks
  | .fn _ caps => PFsT caps
  | _ => Unit

@[reducible] def CsT : List PC → Type
  | [] => Unit
  | [c] => c.T
  | c :: c' :: r => c.T × CsT (c' :: r)

/-! ### Out of data -/
def encPath : (p : List Nat) → PathT p → Path
  | [], _ => []
  | c :: r, d => (d.1, c) :: encPath r d.2

def encOpt : (b : Bool) → OptT b → Option Nat
  | true, n => some n
  | false, _ => none

def encKs : (ks : List K) → KsT ks → List C
  | [], _ => []
  | k :: r, d => .dat k d.1 :: encKs r d.2

def encPF : (f : PF) → f.T → C
  | .dead, _ => .dead
  | .bptr s j, _ => .bptr s 0 j
  | .pim ks j, d => .pim (encKs ks d) j

def encPFs : (fs : List PF) → PFsT fs → List C
  | [], _ => []
  | f :: r, d => encPF f d.1 :: encPFs r d.2

def encC : (p : PC) → p.T → C
  | .dead, _ => .dead
  | .nil, _ => .nil
  | .dat k, x => .dat k x
  | .own deep k, l => .own 0 0 deep k l
  | .ref s j p lo hi k, d => .ref s j 0 0 (encPath p d.1) (encOpt lo d.2.1) (encOpt hi d.2.2) k
  | .bptr s j, _ => .bptr s 0 j
  | .aptr s j p c k, d => .aptr s j 0 0 (encPath p d.1) d.2 c k
  | .pim ks j, d => .pim (encKs ks d) j
  | .fn f caps, d => .fn f (encPFs caps d)

def encCs : (ps : List PC) → CsT ps → List C
  | [], _ => []
  | [p], d => [encC p d]
  | p :: q :: r, d => encC p d.1 :: encCs (q :: r) d.2

/-! ### Into data -/
def castK (k : K) (x : k.T) (k' : K) : Option k'.T := if h : k = k' then some (h ▸ x) else none

def decPath : (p : List Nat) → Path → Option (PathT p)
  | [], [] => some ()
  | c :: r, (i, c') :: q => match Nat.beq c c', decPath r q with
    | true, some d => some (i, d)
    | _, _ => none
  | _, _ => none

def decOpt : (b : Bool) → Option Nat → Option (OptT b)
  | true, some n => some n
  | false, none => some ()
  | _, _ => none

def decKs : (ks : List K) → List C → Option (KsT ks)
  | [], [] => some ()
  | k :: r, .dat k' x :: cs => match castK k' x k, decKs r cs with
    | some x, some d => some (x, d)
    | _, _ => none
  | _, _ => none

def decPF : (f : PF) → C → Option f.T
  | .dead, .dead => some ()
  | .bptr s j, .bptr s' bv j' => if Nat.beq s s' && Nat.beq bv 0 && Nat.beq j j' then some () else none
  | .pim ks j, .pim cs j' => if Nat.beq j j' then decKs ks cs else none
  | _, _ => none

def decPFs : (fs : List PF) → List C → Option (PFsT fs)
  | [], [] => some ()
  | f :: r, c :: cs => match decPF f c, decPFs r cs with
    | some x, some d => some (x, d)
    | _, _ => none
  | _, _ => none

/-- May what is nil be seen as an empty list here? -/
def mayNil (n s j : Nat) (refs : List (Nat × Nat)) : Bool := Nat.blt s n && refs.all fun r => !(Nat.beq r.1 s && Nat.beq r.2 j)

def decC (n s j : Nat) (refs : List (Nat × Nat)) : (p : PC) → C → Option p.T
  | .dead, _ => some ()
  | .nil, .nil => some ()
  | .dat k, .dat k' x => castK k' x k
  | .dat k, .nil => if mayNil n s j refs then match k with
      | .list _ => some []
      | _ => none
    else none
  | .own deep k, .own rv sv d k' l => if Nat.beq rv 0 && Nat.beq sv 0 && (deep == d) then castL k' l k else none
  | .own deep k, .nil => if mayNil n s j refs then some [] else none
  | .ref s0 j0 p lo hi k, .ref s1 j1 rv sv p' lo' hi' k' => if Nat.beq s0 s1 && Nat.beq j0 j1 && Nat.beq rv 0 && Nat.beq sv 0 && decide (k = k') then
      match decPath p p', decOpt lo lo', decOpt hi hi' with
      | some a, some b, some c => some (a, b, c)
      | _, _, _ => none
    else none
  | .bptr s0 j0, .bptr s1 bv j1 => if Nat.beq s0 s1 && Nat.beq bv 0 && Nat.beq j0 j1 then some () else none
  | .aptr s0 j0 p c k, .aptr s1 j1 rv sv p' i c' k' => if Nat.beq s0 s1 && Nat.beq j0 j1 && Nat.beq rv 0 && Nat.beq sv 0 && Nat.beq c c' && decide (k = k') then
      match decPath p p' with
      | some a => some (a, i)
      | none => none
    else none
  | .pim ks j0, .pim cs j1 => if Nat.beq j0 j1 then decKs ks cs else none
  | .fn f caps, .fn f' cs => if Nat.beq f f' then decPFs caps cs else none
  | _, _ => none

def decCs (n s : Nat) (refs : List (Nat × Nat)) : (j : Nat) → (ps : List PC) → List C → Option (CsT ps)
  | _, [], [] => some ()
  | j, [p], [c] => decC n s j refs p c
  | j, p :: q :: r, c :: cs => match decC n s j refs p c, decCs n s refs (j + 1) (q :: r) cs with
    | some x, some d => some (x, d)
    | _, _ => none
  | _, _, _ => none

/-! ### Slots -/
inductive PSh where
  | one | agg | box

def PSh.sh : PSh → Sh
  | .one => .one
  | .agg => .agg
  | .box => .box 0

def PSh.fits : PSh → Sh → Bool
  | .one, .one => true
  | .agg, .agg => true
  | .box, .box bv => Nat.beq bv 0
  | _, _ => false

/-- A slot's pattern. -/
structure SP where
  s : Nat
  sh : PSh
  cs : List PC

@[reducible] def EsT : List SP → Type
  | [] => Unit
  | [p] => CsT p.cs
  | p :: q :: r => CsT p.cs × EsT (q :: r)

def PC.refAt : PC → List (Nat × Nat)
  | .ref s j _ _ _ _ => [(s, j)]
  | .aptr s j _ _ _ => [(s, j)]
  | _ => []

def spRefs (ps : List SP) : List (Nat × Nat) := ps.flatMap fun p => p.cs.flatMap PC.refAt

def encS (p : SP) (d : CsT p.cs) : Slot := { sh := p.sh.sh, cs := encCs p.cs d, cnt := 1 }

def decS (n s : Nat) (refs : List (Nat × Nat)) (p : SP) (x : Slot) : Option (CsT p.cs) :=
  if p.sh.fits x.sh && Nat.beq x.cnt 1 then decCs n s refs 0 p.cs x.cs else none

/-- Slots of a length, with those of the patterns. -/
def encE (i : Nat) : (m : Nat) → (ps : List SP) → EsT ps → Env
  | 0, _, _ => []
  | m + 1, [], _ => dd :: encE (i + 1) m [] ()
  | m + 1, [p], d => match Nat.beq p.s i with
    | true => encS p d :: encE (i + 1) m [] ()
    | false => dd :: encE (i + 1) m [p] d
  | m + 1, p :: q :: r, d => match Nat.beq p.s i with
    | true => encS p d.1 :: encE (i + 1) m (q :: r) d.2
    | false => dd :: encE (i + 1) m (p :: q :: r) d

def decE (n : Nat) (refs : List (Nat × Nat)) (i : Nat) : Env → (ps : List SP) → Option (EsT ps)
  | _, [] => some ()
  | [], _ :: _ => none
  | x :: e, [p] => match Nat.beq p.s i with
    | true => decS n i refs p x
    | false => decE n refs (i + 1) e [p]
  | x :: e, p :: q :: r => match Nat.beq p.s i with
    | true => match decS n i refs p x, decE n refs (i + 1) e (q :: r) with
      | some a, some b => some (a, b)
      | _, _ => none
    | false => decE n refs (i + 1) e (p :: q :: r)

/-! ### Lemmas -/
theorem decPath_ok : ∀ {p : List Nat} {q : Path} {d : PathT p}, decPath p q = some d → encPath p d = q
  | [], [], d, _ => rfl
  | [], _ :: _, d, h => by simp [decPath] at h
  | _ :: _, [], d, h => by simp [decPath] at h
  | c :: r, (i, c') :: q, d, h => by
    simp only [decPath] at h
    split at h
    · rename_i d' hc hd
      simp only [Option.some.injEq] at h
      subst h
      have := Nat.eq_of_beq_eq_true hc
      subst this
      simp [encPath, decPath_ok hd]
    · simp at h

theorem decOpt_ok {b : Bool} {o : Option Nat} {d : OptT b} (h : decOpt b o = some d) : encOpt b d = o := by
  cases b <;> cases o <;> simp [decOpt] at h
  · rfl
  · subst h; rfl

theorem castK_ok {k k' : K} {x : k.T} {y : k'.T} (h : castK k x k' = some y) : (C.dat k' y) = C.dat k x := by
  unfold castK at h
  split at h
  · rename_i hk
    subst hk
    simp only [Option.some.injEq] at h
    rw [h]
  · simp at h

theorem castL_ok' {k k' : K} {x : List k.T} {y : List k'.T} (h : castL k x k' = some y) (d : Bool) : (C.own 0 0 d k' y) = C.own 0 0 d k x := by
  unfold castL at h
  split at h
  · rename_i hk
    subst hk
    simp only [Option.some.injEq] at h
    rw [h]
  · simp at h

theorem decKs_ok : ∀ {ks : List K} {cs : List C} {d : KsT ks}, decKs ks cs = some d → encKs ks d = cs
  | [], [], d, _ => rfl
  | [], _ :: _, d, h => by simp [decKs] at h
  | k :: r, [], d, h => by simp [decKs] at h
  | k :: r, c :: cs, d, h => by
    cases c with
    | dat k' x =>
      simp only [decKs] at h
      split at h
      · rename_i x' d' h1 h2
        simp only [Option.some.injEq] at h
        subst h
        simp only [encKs, castK_ok h1, decKs_ok h2]
      · simp at h
    | _ => simp [decKs] at h

theorem decPFs_ok : ∀ {fs : List PF} {cs : List C} {d : PFsT fs}, decPFs fs cs = some d → encPFs fs d = cs ∧ (C.fn 0 cs).base = true
  | [], [], d, _ => ⟨rfl, rfl⟩
  | [], _ :: _, d, h => by simp [decPFs] at h
  | f :: r, [], d, h => by simp [decPFs] at h
  | f :: r, c :: cs, d, h => by
    simp only [decPFs] at h
    split at h
    · rename_i x d' h1 h2
      simp only [Option.some.injEq] at h
      subst h
      obtain ⟨g1, g2⟩ := decPFs_ok h2
      simp only [C.base] at g2
      have key : encPF f x = c ∧ (C.fn 0 [c]).base = true := by
        cases f with
        | dead => cases c <;> simp [decPF] at h1; exact ⟨rfl, rfl⟩
        | bptr s j =>
          cases c with
          | bptr s' bv j' =>
            simp only [decPF] at h1
            split at h1
            · rename_i hq
              simp only [Bool.and_eq_true] at hq
              obtain ⟨⟨q1, q2⟩, q3⟩ := hq
              have q1 := Nat.eq_of_beq_eq_true q1
              have q2 := Nat.eq_of_beq_eq_true q2
              have q3 := Nat.eq_of_beq_eq_true q3
              subst q1 q2 q3
              exact ⟨rfl, rfl⟩
            · simp at h1
          | _ => simp [decPF] at h1
        | pim ks j =>
          cases c with
          | pim cs' j' =>
            simp only [decPF] at h1
            split at h1
            · rename_i q1
              have q1 := Nat.eq_of_beq_eq_true q1
              subst q1
              exact ⟨by simp only [encPF, decKs_ok h1], rfl⟩
            · simp at h1
          | _ => simp [decPF] at h1
      simp only [encPFs, key.1, g1, true_and]
      have k2 := key.2
      simp only [C.base, List.all_cons, List.all_nil, Bool.and_true, Bool.and_eq_true] at k2 ⊢
      exact ⟨k2, g2⟩
    · simp at h

theorem mayNil_ok {n s j : Nat} {refs : List (Nat × Nat)} (h : mayNil n s j refs = true) : s < n ∧ (s, j) ∉ refs := by
  simp only [mayNil, Bool.and_eq_true, List.all_eq_true] at h
  refine ⟨Nat.le_of_ble_eq_true h.1, fun hm => ?_⟩
  have := h.2 _ hm
  simp at this

/-- What a pattern makes of a cell. -/
theorem decC_ok {n s j : Nat} {refs : List (Nat × Nat)} {p : PC} {c : C} {d : p.T} (h : decC n s j refs p c = some d) :
    (encC p d = c ∧ c.base = true) ∨ encC p d = .dead ∨ ((s < n ∧ c = .nil ∧ ∃ d' k, encC p d = .own 0 0 d' k [] ∨ encC p d = .dat (.list k) []) ∧ (s, j) ∉ refs) := by
  cases p with
  | dead => exact .inr (.inl rfl)
  | nil => cases c <;> simp [decC] at h; exact .inl ⟨rfl, rfl⟩
  | dat k =>
    cases c with
    | dat k' x =>
      left
      simp only [decC] at h
      exact ⟨castK_ok h, rfl⟩
    | nil =>
      right; right
      simp only [decC] at h
      split at h
      · rename_i hm
        cases k with
        | list k' =>
          simp only [Option.some.injEq] at h
          subst h
          exact ⟨⟨(mayNil_ok hm).1, rfl, true, k', .inr rfl⟩, (mayNil_ok hm).2⟩
        | _ => simp at h
      · simp at h
    | _ => simp [decC] at h
  | own deep k =>
    cases c with
    | own rv sv d' k' l =>
      left
      simp only [decC] at h
      split at h
      · rename_i hq
        simp only [Bool.and_eq_true, beq_iff_eq] at hq
        obtain ⟨⟨q1, q2⟩, q3⟩ := hq
        have q1 := Nat.eq_of_beq_eq_true q1
        have q2 := Nat.eq_of_beq_eq_true q2
        subst q1 q2 q3
        exact ⟨castL_ok' h deep, rfl⟩
      · simp at h
    | nil =>
      right; right
      simp only [decC] at h
      split at h
      · rename_i hm
        simp only [Option.some.injEq] at h
        subst h
        exact ⟨⟨(mayNil_ok hm).1, rfl, deep, k, .inl rfl⟩, (mayNil_ok hm).2⟩
      · simp at h
    | _ => simp [decC] at h
  | ref s0 j0 pp lo hi k =>
    left
    cases c with
    | ref s1 j1 rv sv p' lo' hi' k' =>
      simp only [decC] at h
      split at h
      · rename_i hq
        simp only [Bool.and_eq_true, decide_eq_true_eq] at hq
        obtain ⟨⟨⟨⟨q1, q2⟩, q3⟩, q4⟩, q5⟩ := hq
        have q1 := Nat.eq_of_beq_eq_true q1
        have q2 := Nat.eq_of_beq_eq_true q2
        have q3 := Nat.eq_of_beq_eq_true q3
        have q4 := Nat.eq_of_beq_eq_true q4
        subst q1 q2 q3 q4 q5
        split at h
        · rename_i a b c' h1 h2 h3
          simp only [Option.some.injEq] at h
          subst h
          exact ⟨by simp only [encC, decPath_ok h1, decOpt_ok h2, decOpt_ok h3], rfl⟩
        · simp at h
      · simp at h
    | _ => simp [decC] at h
  | bptr s0 j0 =>
    left
    cases c with
    | bptr s1 bv j1 =>
      simp only [decC] at h
      split at h
      · rename_i hq
        simp only [Bool.and_eq_true] at hq
        obtain ⟨⟨q1, q2⟩, q3⟩ := hq
        have q1 := Nat.eq_of_beq_eq_true q1
        have q2 := Nat.eq_of_beq_eq_true q2
        have q3 := Nat.eq_of_beq_eq_true q3
        subst q1 q2 q3
        exact ⟨rfl, rfl⟩
      · simp at h
    | _ => simp [decC] at h
  | aptr s0 j0 pp c0 k =>
    left
    cases c with
    | aptr s1 j1 rv sv p' i c' k' =>
      simp only [decC] at h
      split at h
      · rename_i hq
        simp only [Bool.and_eq_true, decide_eq_true_eq] at hq
        obtain ⟨⟨⟨⟨⟨q1, q2⟩, q3⟩, q4⟩, q5⟩, q6⟩ := hq
        have q1 := Nat.eq_of_beq_eq_true q1
        have q2 := Nat.eq_of_beq_eq_true q2
        have q3 := Nat.eq_of_beq_eq_true q3
        have q4 := Nat.eq_of_beq_eq_true q4
        have q5 := Nat.eq_of_beq_eq_true q5
        subst q1 q2 q3 q4 q5 q6
        split at h
        · rename_i a h1
          simp only [Option.some.injEq] at h
          subst h
          exact ⟨by simp only [encC, decPath_ok h1], rfl⟩
        · simp at h
      · simp at h
    | _ => simp [decC] at h
  | pim ks j0 =>
    left
    cases c with
    | pim cs j1 =>
      simp only [decC] at h
      split at h
      · rename_i q1
        have q1 := Nat.eq_of_beq_eq_true q1
        subst q1
        exact ⟨by simp only [encC, decKs_ok h], rfl⟩
      · simp at h
    | _ => simp [decC] at h
  | fn f caps =>
    left
    cases c with
    | fn f' cs =>
      simp only [decC] at h
      split at h
      · rename_i q1
        have q1 := Nat.eq_of_beq_eq_true q1
        subst q1
        obtain ⟨g1, g2⟩ := decPFs_ok h
        exact ⟨by simp only [encC, g1], g2⟩
      · simp at h
    | _ => simp [decC] at h

theorem encC_refAt {p : PC} {d : p.T} : (encC p d).refAt = p.refAt := by cases p <;> rfl

theorem encCs_length : ∀ {ps : List PC} {d : CsT ps}, (encCs ps d).length = ps.length
  | [], _ => rfl
  | [p], d => rfl
  | p :: q :: r, d => by simp [encCs, encCs_length (ps := q :: r)]

theorem encCs_refAt : ∀ {ps : List PC} {d : CsT ps} {j : Nat} {c : C}, (encCs ps d)[j]? = some c → ∀ q ∈ c.refAt, q ∈ ps.flatMap PC.refAt
  | [], _, j, c, h => by simp [encCs] at h
  | [p], d, j, c, h => by
    cases j with
    | succ j => simp [encCs] at h
    | zero =>
      simp only [encCs, List.getElem?_cons_zero, Option.some.injEq] at h
      subst h
      intro q hq
      rw [encC_refAt] at hq
      simp [hq]
  | p :: q :: r, d, 0, c, h => by
    simp only [encCs, List.getElem?_cons_zero, Option.some.injEq] at h
    subst h
    intro q hq
    rw [encC_refAt] at hq
    simp [hq]
  | p :: q :: r, d, j + 1, c, h => by
    intro q' hq
    have := encCs_refAt (ps := q :: r) (by simpa [encCs] using h) q' hq
    rw [List.flatMap_cons, List.mem_append]
    exact .inr this

theorem decCs_ok {n s : Nat} {refs : List (Nat × Nat)} : ∀ {ps : List PC} {j : Nat} {cs : List C} {d : CsT ps}, decCs n s refs j ps cs = some d → (encCs ps d).length = cs.length ∧
    ∀ (i : Nat) c c', cs[i]? = some c → (encCs ps d)[i]? = some c' → (c' = c ∧ c.base = true) ∨ c' = .dead ∨ ((s < n ∧ c = .nil ∧ ∃ d' k, c' = .own 0 0 d' k [] ∨ c' = .dat (.list k) []) ∧ (s, j + i) ∉ refs)
  | [], j, [], d, _ => ⟨rfl, fun i c c' h => by simp at h⟩
  | [], j, _ :: _, d, h => by simp [decCs] at h
  | [p], j, [], d, h => by simp [decCs] at h
  | [p], j, [c], d, h => by
    simp only [decCs] at h
    refine ⟨rfl, fun i c0 c1 hc hc' => ?_⟩
    cases i with
    | zero =>
      simp only [List.getElem?_cons_zero, Option.some.injEq, encCs] at hc hc'
      subst hc hc'
      exact decC_ok h
    | succ i => simp at hc
  | [p], j, _ :: _ :: _, d, h => by simp [decCs] at h
  | p :: q :: r, j, [], d, h => by simp [decCs] at h
  | p :: q :: r, j, c :: cs, d, h => by
    simp only [decCs] at h
    split at h
    · rename_i x d' h1 h2
      simp only [Option.some.injEq] at h
      subst h
      obtain ⟨g1, g2⟩ := decCs_ok h2
      refine ⟨by simp [encCs, g1], fun i c0 c1 hc hc' => ?_⟩
      cases i with
      | zero =>
        simp only [List.getElem?_cons_zero, Option.some.injEq, encCs] at hc hc'
        subst hc hc'
        exact decC_ok h1
      | succ i =>
        have := g2 i c0 c1 (by simpa using hc) (by simpa [encCs] using hc')
        rw [show j + 1 + i = j + (i + 1) by omega] at this
        exact this
    · simp at h

theorem encE_length : ∀ {m i : Nat} {ps : List SP} {d : EsT ps}, (encE i m ps d).length = m
  | 0, i, ps, d => by simp [encE]
  | m + 1, i, [], d => by simp [encE, encE_length]
  | m + 1, i, [p], d => by
    simp only [encE]
    split <;> simp [encE_length]
  | m + 1, i, p :: q :: r, d => by
    simp only [encE]
    split <;> simp [encE_length]

theorem encE_nil : ∀ (m i t : Nat), t < m → Env.get (encE i m [] ()) t = dd := by
  intro m
  induction m with
  | zero => intro i t h; omega
  | succ m ih =>
    intro i t h
    cases t with
    | zero => simp [encE, Env.get]
    | succ t =>
      have := ih (i + 1) t (by omega)
      simpa [encE, Env.get] using this

/-- Slots, as patterns see them. -/
theorem decE_ok {n : Nat} {refs : List (Nat × Nat)} : ∀ {e : Env} {i : Nat} {ps : List SP} {d : EsT ps}, decE n refs i e ps = some d → ∀ t, t < e.length →
    (Env.get (encE i e.length ps d) t = dd ∨ ∃ p ∈ ps, ∃ dp, Env.get (encE i e.length ps d) t = encS p dp ∧ decS n (i + t) refs p (e.get t) = some dp)
  | e, i, [], d, h, t, ht => .inl (encE_nil _ _ _ ht)
  | [], i, p :: r, d, h, t, ht => by simp [decE] at h
  | x :: e, i, [p], d, h, t, ht => by
    simp only [decE] at h
    split at h
    · rename_i hi
      simp only [List.length_cons, encE, hi]
      cases t with
      | zero =>
        right
        refine ⟨p, by simp, d, by simp [Env.get], ?_⟩
        simpa [Env.get] using h
      | succ t =>
        left
        have := encE_nil e.length (i + 1) t (by simpa using ht)
        simpa [Env.get] using this
    · rename_i hi
      simp only [List.length_cons, encE, hi]
      cases t with
      | zero => left; simp [Env.get]
      | succ t =>
        have := decE_ok h t (by simpa using ht)
        rcases this with q | ⟨p', hp', dp, q1, q2⟩
        · left; simpa [Env.get] using q
        · right
          refine ⟨p', hp', dp, by simpa [Env.get] using q1, ?_⟩
          rw [show i + (t + 1) = i + 1 + t by omega]
          simpa [Env.get] using q2
  | x :: e, i, p :: q :: r, d, h, t, ht => by
    simp only [decE] at h
    split at h
    · rename_i hi
      split at h
      · rename_i a b h1 h2
        simp only [Option.some.injEq] at h
        subst h
        simp only [List.length_cons, encE, hi]
        cases t with
        | zero =>
          right
          refine ⟨p, by simp, a, by simp [Env.get], ?_⟩
          simpa [Env.get] using h1
        | succ t =>
          have := decE_ok h2 t (by simpa using ht)
          rcases this with q' | ⟨p', hp', dp, q1, q2⟩
          · left; simpa [Env.get] using q'
          · right
            refine ⟨p', by simp only [List.mem_cons] at hp' ⊢; exact .inr hp', dp, by simpa [Env.get] using q1, ?_⟩
            rw [show i + (t + 1) = i + 1 + t by omega]
            simpa [Env.get] using q2
      · simp at h
    · rename_i hi
      simp only [List.length_cons, encE, hi]
      cases t with
      | zero => left; simp [Env.get]
      | succ t =>
        have := decE_ok h t (by simpa using ht)
        rcases this with q' | ⟨p', hp', dp, q1, q2⟩
        · left; simpa [Env.get] using q'
        · right
          refine ⟨p', hp', dp, by simpa [Env.get] using q1, ?_⟩
          rw [show i + (t + 1) = i + 1 + t by omega]
          simpa [Env.get] using q2

theorem PSh.fits_ok {p : PSh} {s : Sh} (h : p.fits s = true) : p.sh = s := by
  cases p <;> cases s <;> simp_all [PSh.fits, PSh.sh]

/-- What patterns make of slots is more general. -/
theorem dec_gen {n : Nat} {e : Env} {ps : List SP} {d : EsT ps} (h : decE n (spRefs ps) 0 e ps = some d) : Gen n e (encE 0 e.length ps d) := by
  have hok := decE_ok h
  refine ⟨encE_length, fun s hs => ?_, fun s j c hc t i ht rv sv dp k l hown => ?_⟩
  · rcases hok s hs with q | ⟨p, hp, dp, q1, q2⟩
    · exact .inl q
    · right; left
      rw [q1]
      simp only [decS] at q2
      split at q2
      · rename_i hq
        simp only [Bool.and_eq_true] at hq
        obtain ⟨g1, g2⟩ := decCs_ok q2
        refine ⟨(PSh.fits_ok hq.1), rfl, fun bv hb => ?_, g1, fun j c c' hc hc' => ?_⟩
        · simp only [encS] at hb
          cases hp' : p.sh <;> rw [hp'] at hb <;> simp [PSh.sh] at hb
          exact hb.symm
        · rcases g2 j c c' hc hc' with r | r | r
          · exact .inl r
          · exact .inr (.inl r)
          · have := r.1
            rw [Nat.zero_add] at this
            exact .inr (.inr this)
      · simp at q2
  · have hs : s < e.length := by
      rcases Nat.lt_or_ge s e.length with q | q
      · exact q
      · rw [get_out (by rw [encE_length]; omega)] at hc; simp at hc
    have htl : t < e.length := by
      rcases Nat.lt_or_ge t e.length with q | q
      · exact q
      · rw [get_out (by rw [encE_length]; omega)] at hown; simp at hown
    have hrefs : (t, i) ∈ spRefs ps := by
      rcases hok s hs with q | ⟨p, hp, dp', q1, q2⟩
      · rw [q] at hc; simp [dd] at hc
      · rw [q1] at hc
        simp only [spRefs, List.mem_flatMap]
        exact ⟨p, hp, by simpa [List.mem_flatMap] using encCs_refAt hc (t, i) ht⟩
    rcases hok t htl with q | ⟨p, hp, dp', q1, q2⟩
    · rw [q] at hown; simp [dd] at hown
    · rw [q1] at hown
      simp only [decS] at q2
      split at q2
      · obtain ⟨g1, g2⟩ := decCs_ok q2
        have h1 := some_of_getD hown (by simp)
        have hil : i < (e.get t).cs.length := by rw [← g1]; exact (List.getElem?_eq_some_iff.1 h1).1
        obtain ⟨c0, hc0⟩ : ∃ c0, (e.get t).cs[i]? = some c0 := ⟨_, List.getElem?_eq_getElem hil⟩
        rcases g2 i c0 _ hc0 h1 with r | r | r
        · rw [getD_some hc0]; exact r.1.symm
        · cases r
        · exfalso
          have := r.2
          rw [Nat.zero_add, Nat.zero_add] at this
          exact this hrefs
      · simp at q2

/-- A list of patterns for slots of a length, over versions set back. -/
structure EP where
  len : Nat
  ps : List SP

@[reducible] def EP.T (P : EP) : Type := EsT P.ps

def EP.enc (P : EP) (d : P.T) : Env := encE 0 P.len P.ps d

/-- The places whose data the pattern takes as frozen below the root. -/
def frozenAt (s : Nat) : Nat → List PC → List (Nat × Nat)
  | _, [] => []
  | j, .own false _ :: r => (s, j) :: frozenAt s (j + 1) r
  | j, _ :: r => frozenAt s (j + 1) r

def frozenOf : List SP → List (Nat × Nat)
  | [] => []
  | p :: r => frozenAt p.s 0 p.cs ++ frozenOf r

def freezeAt (e : Env) : List (Nat × Nat) → Env
  | [] => e
  | (s, j) :: r => match (e.get s).cs.getD j .dead with
    | .own rv sv true k l => freezeAt (e.set s { e.get s with cs := (e.get s).cs.set j (.own rv sv false k l) }) r
    | _ => freezeAt e r

theorem freezeAt_ok {n : Nat} {tm : Array Value} {w : World} (m : Nat) : ∀ {ps : List (Nat × Nat)} {e : Env} {G : Gh}, Inv n e tm w G → e.length ≤ m →
    (freezeAt e ps).length = e.length ∧ ∃ G', Inv n (freezeAt e ps) tm w G' ∧ Held n m w w G G'
  | [], e, G, h, _ => ⟨rfl, G, h, Held.refl⟩
  | (s, j) :: r, e, G, h, hm => by
    simp only [freezeAt]
    split
    · rename_i rv sv k l hc
      obtain ⟨G1, h1, x, _⟩ := h.freeze (some_of_getD hc (by simp))
      obtain ⟨g1, G2, g2, g3⟩ := freezeAt_ok m (ps := r) h1 (by simpa using hm)
      have hh : Held n m w w G G1 := ⟨(x.held h).still, (x.held h).vs, fun b t q1 q2 q3 => (x.held h).out b t q1 (by omega) q3⟩
      exact ⟨by simpa using g1, G2, g2, hh.trans g3⟩
    · exact freezeAt_ok m h hm

/-- Versions are set back, all but what the pattern knows is forgotten. -/
def EP.dec (n : Nat) (P : EP) (e : Env) : Option P.T :=
  if Nat.beq e.length P.len then decE n (spRefs P.ps) 0 (freezeAt (norm (P.ps.map (·.s)) e) (frozenOf P.ps)) P.ps else none

theorem EP.dec_ok {n : Nat} {P : EP} {e : Env} {d : P.T} (h : P.dec n e = some d) {tm : Array Value} {w : World} {G : Gh} (hi : Inv n e tm w G) (m : Nat) (hm : e.length ≤ m) :
    (P.enc d).length = e.length ∧ ∃ G', Inv n (P.enc d) tm w G' ∧ Held n m w w G G' := by
  simp only [EP.dec] at h
  split at h
  · rename_i hl
    have hl := Nat.eq_of_beq_eq_true hl
    obtain ⟨g1, G1, g2, g3⟩ := freezeAt_ok m (ps := frozenOf P.ps) (norm_inv (P.ps.map (·.s)) hi) (by rw [norm_length]; exact hm)
    have hg := dec_gen h
    rw [g1, norm_length, hl] at hg
    refine ⟨by simp [EP.enc, encE_length, hl], ?_⟩
    obtain ⟨G2, g4, g5⟩ := gen_inv g2 hg m
    exact ⟨G2, g4, g3.trans g5⟩
  · simp at h

end Go.Mach
