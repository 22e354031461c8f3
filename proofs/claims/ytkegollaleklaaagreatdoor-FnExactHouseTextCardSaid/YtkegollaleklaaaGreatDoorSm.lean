/- Plain: entries added up by place: one by one into a row that is in order, or place by place. No twins: words and lemmas. -/
import Derived.Test.YtkegollaleklaaaGreatDoorUn
namespace Go.Mach
theorem canon_len : ∀ {s : List Sp2} {a b : Int}, Canon s → (∀ x ∈ s, a ≤ x.1 ∧ x.2 ≤ b) → 2 * (s.length : Int) ≤ max 0 (b - a + 2)
  | [], a, b, _, _ => by simp; omega
  | x :: r, a, b, hc, h => by
    have h1 := h x List.mem_cons_self
    have h2 := hc.1
    have := canon_len (s := r) (a := a + 2) (b := b) hc.2.2 fun y hy => ⟨by have := hc.2.1 y hy; omega, (h y (List.mem_cons_of_mem _ hy)).2⟩
    simp only [List.length_cons]
    omega
theorem nrm_app {a b : List Sp2} (ha : ∀ x ∈ a, x.1 ≤ x.2) (hb : ∀ x ∈ b, x.1 ≤ x.2) : nrm (nrm a ++ b) = nrm (a ++ b) := by
  obtain ⟨g1, g2⟩ := nrm_ok ha
  have hab : ∀ x ∈ a ++ b, x.1 ≤ x.2 := fun x hx => (List.mem_append.1 hx).elim (ha x) (hb x)
  obtain ⟨q1, q2⟩ := nrm_ok hab
  refine nrm_uniq (fun x hx => (List.mem_append.1 hx).elim (g1.mem x) (hb x)) q1 fun n => ?_
  rw [q2, hasN_append, hasN_append, g2]
theorem nrm_rng {a : List Sp2} {lo hi : Int} (h : ∀ x ∈ a, x.1 ≤ x.2 ∧ lo ≤ x.1 ∧ x.2 ≤ hi) : ∀ x ∈ nrm a, lo ≤ x.1 ∧ x.2 ≤ hi := by
  obtain ⟨g1, g2⟩ := nrm_ok fun x hx => (h x hx).1
  intro x hx
  have hx' := g1.mem x hx
  obtain ⟨y, hy, y1, y2⟩ := (g2 x.1).1 ⟨x, hx, Int.le_refl _, hx'⟩
  obtain ⟨z, hz, z1, z2⟩ := (g2 x.2).1 ⟨x, hx, hx', Int.le_refl _⟩
  have := h y hy
  have := h z hz
  omega
end Go.Mach
namespace Go.Proofs.YtkegollaleklaaaGreatDoor.Tw
open Go.Mach
set_option linter.unusedVariables false
set_option linter.unusedSimpArgs false
set_option maxRecDepth 20000
def EnsOk (l : List EnT) : Prop := ∀ e ∈ l, EnOk e
def flat : List EnT → List SpT
  | [] => []
  | e :: r => e.2.2.1 ++ flat r
theorem flat_app : ∀ {a b : List EnT}, flat (a ++ b) = flat a ++ flat b
  | [], b => rfl
  | e :: r, b => by simp only [List.cons_append, flat, flat_app (a := r), List.append_assoc]
theorem flat_mem : ∀ {l : List EnT} {x : SpT}, x ∈ flat l → ∃ e ∈ l, x ∈ e.2.2.1
  | e :: r, x, h => by
    simp only [flat] at h
    rcases List.mem_append.1 h with h | h
    · exact ⟨e, List.mem_cons_self, h⟩
    · obtain ⟨e', h1, h2⟩ := flat_mem h
      exact ⟨e', List.mem_cons_of_mem _ h1, h2⟩
theorem flat_rng {l : List EnT} (h : EnsOk l) : ∀ x ∈ flat l, x.1 ≤ x.2 ∧ 0 ≤ x.1 ∧ x.2 ≤ 9999 := by
  intro x hx
  obtain ⟨e, h1, h2⟩ := flat_mem hx
  exact ⟨(h e h1).ids.mem x h2, (h e h1).bnd x h2⟩
theorem EnOk.len {e : EnT} (h : EnOk e) : e.2.2.1.length ≤ 5001 := by
  have := canon_len (a := 0) (b := 9999) h.ids h.bnd
  omega
theorem EnOk.toLe {e : EnT} (h : EnOk e) : EnLe 5001 e := ⟨h.len, h.sk.toLe.mono (by omega)⟩
theorem EnLe.mono {a b : Nat} {e : EnT} (h : EnLe a e) (hab : a ≤ b) : EnLe b e := ⟨Nat.le_trans h.1 hab, h.2.mono hab⟩
theorem EnOk.sml {e : EnT} (h : EnOk e) : Sml e.2.2.1 := fun x hx => ⟨h.ids.mem x hx, (h.bnd x hx).1, by have := (h.bnd x hx).2; omega⟩
def before (p q : Int × Int) : Bool := decide (p.1 < q.1) || (p.1 == q.1 && decide (p.2 < q.2))
def same (z e : EnT) : Prop := z.1 = e.1 ∧ z.2.1 = e.2.1
def gtE (z e : EnT) : Prop := z.1 > e.1 ∨ (z.1 = e.1 ∧ z.2.1 > e.2.1)
instance (z e : EnT) : Decidable (same z e) := by unfold same; infer_instance
instance (z e : EnT) : Decidable (gtE z e) := by unfold gtE; infer_instance
end Go.Proofs.YtkegollaleklaaaGreatDoor.Tw
