/- Plain: how many numbers of a stretch are in spans. No condition: lemmas. -/
import Derived.Test.YtkegollaleklaaaGreatFi
namespace Go.Proofs.YtkegollaleklaaaGreat.Tw
open Go.Mach
set_option linter.unusedVariables false
set_option linter.unusedSimpArgs false
set_option maxRecDepth 20000
def hasB (s : List SpT) (n : Int) : Bool := s.any fun x => decide (x.1 ≤ n) && decide (n ≤ x.2)
theorem hasB_iff {s : List SpT} {n : Int} : hasB s n = true ↔ hasN s n := by
 unfold hasB hasN
 simp only [List.any_eq_true, Bool.and_eq_true, decide_eq_true_eq]
def ov (L H : Int) (x : SpT) : Int := max (min x.2 H - max x.1 L + 1) 0
def ovs (L H : Int) : List SpT → Int
 | [] => 0
 | x :: s => ov L H x + ovs L H s
theorem ovs_app {L H : Int} : ∀ {s t : List SpT}, ovs L H (s ++ t) = ovs L H s + ovs L H t
 | [], t => by simp [ovs]
 | x :: s, t => by simp only [List.cons_append, ovs, ovs_app (s := s)]; omega
def cntN (L : Int) (m : Nat) (s : List SpT) : Nat := (List.range m).countP fun i : Nat => hasB s (L + i)
theorem cnt_one (x : SpT) (hx : x.1 ≤ x.2) (L : Int) : ∀ m : Nat, (((List.range m).countP fun i : Nat => decide (x.1 ≤ L + i) && decide (L + i ≤ x.2) : Nat) : Int) = ov L (L + m - 1) x
 | 0 => by simp only [List.range_zero, List.countP_nil, ov]; omega
 | m + 1 => by
  rw [List.range_succ, List.countP_append, List.countP_singleton]
  have ih := cnt_one x hx L m
  unfold ov at ih ⊢
  by_cases h1 : x.1 ≤ L + m
  ·by_cases h2 : L + m ≤ x.2
   ·rw [dT h1, dT h2]; simp; omega
   ·rw [dT h1, dF h2]; simp; omega
  ·rw [dF h1]; simp; omega
def PD (s : List SpT) : Prop := s.Pairwise fun x y => ∀ n, x.1 ≤ n → n ≤ x.2 → y.1 ≤ n → ¬ n ≤ y.2
theorem countP_or {p q : Nat → Bool} : ∀ {l : List Nat}, (∀ i ∈ l, ¬ (p i = true ∧ q i = true)) → l.countP (fun i => p i || q i) = l.countP p + l.countP q
 | [], _ => rfl
 | a :: l, h => by
  have ih := countP_or (p := p) (q := q) (l := l) fun i hi => h i (List.mem_cons_of_mem _ hi)
  have ha := h a List.mem_cons_self
  simp only [List.countP_cons, ih]
  cases hp : p a <;> cases hq : q a <;> simp_all <;> omega
theorem cnt_eq {L : Int} {m : Nat} : ∀ {s : List SpT}, (∀ x ∈ s, x.1 ≤ x.2) → PD s → (cntN L m s : Int) = ovs L (L + m - 1) s
 | [], _, _ => by simp [cntN, hasB, ovs]
 | x :: s, hx, h => by
  obtain ⟨h1, h2⟩ := List.pairwise_cons.1 h
  have ih := cnt_eq (L := L) (m := m) (s := s) (fun y hy => hx y (List.mem_cons_of_mem _ hy)) h2
  have h0 := cnt_one x (hx x List.mem_cons_self) L m
  have := countP_or (p := fun i : Nat => decide (x.1 ≤ L + i) && decide (L + i ≤ x.2)) (q := fun i : Nat => hasB s (L + i)) (l := List.range m) (fun i _ => by
   rintro ⟨a, b⟩
   simp only [Bool.and_eq_true, decide_eq_true_eq] at a
   obtain ⟨y, hy, b1, b2⟩ := hasB_iff.1 b
   exact h1 y hy _ a.1 a.2 b1 b2)
  unfold cntN at ih ⊢
  simp only [ovs]
  have e : (fun i : Nat => hasB (x :: s) (L + i)) = fun i : Nat => (decide (x.1 ≤ L + i) && decide (L + i ≤ x.2)) || hasB s (L + i) := by
   funext i
   simp only [hasB, List.any_cons]
  rw [e, this]
  omega
theorem canon_pd : ∀ {s : List SpT}, Canon s → PD s
 | [], _ => List.Pairwise.nil
 | x :: s, h => by
  refine List.pairwise_cons.2 ⟨fun y hy n a b c d => ?_, canon_pd (s := s) ?_⟩
  ·have := h.tail_gt (n := n) ⟨y, hy, c, d⟩
   omega
  ·exact (Canon.split (a := [x]) (b := s) h).2.1
theorem cnt_same {L : Int} {m : Nat} {s t : List SpT} (h : ∀ n, hasN s n ↔ hasN t n) : cntN L m s = cntN L m t := by
 unfold cntN
 congr 1
 funext i
 rw [Bool.eq_iff_iff, hasB_iff, hasB_iff]
 exact h _
theorem flat_pd : ∀ {l : List EnT}, EnsOk l → l.Pairwise (fun a b => ∀ n, hasN a.2.2.1 n → ¬ hasN b.2.2.1 n) → PD (flat l)
 | [], _, _ => List.Pairwise.nil
 | e :: l, ho, h => by
  obtain ⟨h1, h2⟩ := List.pairwise_cons.1 h
  have ih := flat_pd (l := l) (fun x hx => ho x (List.mem_cons_of_mem _ hx)) h2
  simp only [flat]
  refine List.pairwise_append.2 ⟨canon_pd (ho e List.mem_cons_self).ids, ih, fun x hx y hy n a b c d => ?_⟩
  obtain ⟨e2, he2, hy2⟩ := flat_mem hy
  exact h1 e2 he2 n ⟨x, hx, a, b⟩ ⟨y, hy2, c, d⟩
theorem ov_le (L H : Int) (x : SpT) (h : x.1 ≤ x.2) : ov L H x ≤ x.2 - x.1 + 1 ∧ 0 ≤ ov L H x ∧ (ov L H x = x.2 - x.1 + 1 ↔ L ≤ x.1 ∧ x.2 ≤ H) := by unfold ov; omega
def lens : List SpT → Int
 | [] => 0
 | x :: s => (x.2 - x.1 + 1) + lens s
theorem ovs_lens {L H : Int} : ∀ {s : List SpT}, (∀ x ∈ s, x.1 ≤ x.2) → ovs L H s ≤ lens s ∧ (ovs L H s = lens s ↔ ∀ x ∈ s, L ≤ x.1 ∧ x.2 ≤ H)
 | [], _ => by simp [ovs, lens]
 | x :: s, h => by
  have ih := ovs_lens (L := L) (H := H) (s := s) fun y hy => h y (List.mem_cons_of_mem _ hy)
  have h0 := ov_le L H x (h x List.mem_cons_self)
  simp only [ovs, lens, List.forall_mem_cons]
  refine ⟨by omega, ?_⟩
  rw [← h0.2.2, ← ih.2]
  omega
theorem lens_app : ∀ {s t : List SpT}, lens (s ++ t) = lens s + lens t
 | [], t => by simp [lens]
 | x :: s, t => by simp only [List.cons_append, lens, lens_app (s := s)]; omega
theorem lens_rng : ∀ {s : List SpT} {a b : Int}, Canon s → (∀ x ∈ s, a ≤ x.1 ∧ x.2 ≤ b) → 0 ≤ lens s ∧ lens s ≤ max 0 (b - a + 1)
 | [], a, b, _, _ => by simp only [lens]; omega
 | x :: s, a, b, hc, h => by
  have hx := h x List.mem_cons_self
  have h1 := hc.mem x List.mem_cons_self
  have ih := lens_rng (s := s) (a := x.2 + 1) (b := b) (Canon.split (a := [x]) (b := s) hc).2.1 (fun y hy => by
   have h2 := h y (List.mem_cons_of_mem _ hy)
   have := hc.tail_gt (n := y.1) ⟨y, hy, Int.le_refl _, hc.mem y (List.mem_cons_of_mem _ hy)⟩
   omega)
  simp only [lens]
  omega
theorem ovs_rng {L H : Int} (hLH : L ≤ H + 1) : ∀ {s : List SpT}, 0 ≤ ovs L H s ∧ ovs L H s ≤ s.length * (H - L + 1)
 | [] => by simp [ovs]
 | x :: s => by
  have ih := ovs_rng hLH (s := s)
  have : 0 ≤ ov L H x ∧ ov L H x ≤ H - L + 1 := by unfold ov; omega
  simp only [ovs, List.length_cons]
  have e : ((s.length + 1 : Nat) : Int) * (H - L + 1) = s.length * (H - L + 1) + (H - L + 1) := by rw [Int.natCast_add, Int.add_mul]; simp
  rw [e]
  omega
end Go.Proofs.YtkegollaleklaaaGreat.Tw
