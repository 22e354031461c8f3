/- Plain: outs, as types; marks that nobody looks at. No condition: lemmas. -/
import Derived.Test.YtkegollaleklaaaHe
namespace Go.Mach
set_option linter.unusedVariables false
/-- What marks a value: sz marks from k on. -/
def Mrk {α : Type} (mark : α × Int → Option (Int × α)) (sz : Nat) (x : α) : Prop := ∀ k : Int, 0 ≤ k → k + sz ≤ 1152921504606846976 → ∃ x', mark (x, k) = some (k + sz, x')
theorem Marks.mark {α : Type} {mark : α × Int → Option (Int × α)} {held : α × Int → Option Int} {n : Nat} {x : α} (h : Marks mark held n x) : Mrk mark n x := fun k h0 h1 => by
  obtain ⟨y, e, _⟩ := h k h0 h1
  exact ⟨y, e⟩
theorem mark1_list {α U : Type} {mark : α × Int → Option (Int × α)} (d : α) {l : List α} {sz : α → Nat} (hl : l.length ≤ 1048576) (he : ∀ x ∈ l, Mrk mark (sz x) x) (u : U)
    {S : U × Int × Int × List α → Option ((U × Int × Int × List α) ⊕ (Int × List α))}
    (hs : ∀ (k : Int) (i : Nat) (c : List α), i < c.length → c.length ≤ 1048576 → S (u, k, (i : Int), c) = (mark (c.getD i d, k)).bind fun r => some (.inl (u, r.1, ((i + 1 : Nat) : Int), c.set i r.2)))
    (hs2 : ∀ (k : Int) (c : List α), S (u, k, (c.length : Int), c) = some (.inr (k, c))) :
    Mrk (fun p => (lp S (u, p.2, 0, p.1)).bind fun r => some (r.1, r.2)) (sumL sz l) l := by
  intro k h0 h1
  have key : ∀ (r : List α) (k : Int), (∀ x ∈ r, Mrk mark (sz x) x) → 0 ≤ k → k + (sumL sz r : Nat) ≤ 1152921504606846976 → ∃ r' : List α,
      (∀ (p : List α) (f : Nat), p.length + r.length ≤ 1048576 → r.length < f → iter S f (u, k, (p.length : Int), p ++ r) = some (k + (sumL sz r : Nat), p ++ r')) := by
    intro r
    induction r with
    | nil =>
      intro k _ _ _
      refine ⟨[], fun p f _ hf => ?_⟩
      cases f with
      | zero => simp at hf
      | succ f =>
        simp only [iter, List.append_nil, hs2, sumL]
        simp
    | cons x r ih =>
      intro k hm h0 h1
      simp only [sumL] at h1 ⊢
      obtain ⟨x', e1⟩ := hm x List.mem_cons_self k h0 (by omega)
      obtain ⟨r', l2⟩ := ih (k + sz x) (fun y hy => hm y (List.mem_cons_of_mem _ hy)) (by omega) (by omega)
      have hsum : k + (sz x : Int) + (sumL sz r : Nat) = k + ((sz x + sumL sz r : Nat) : Int) := by omega
      refine ⟨x' :: r', fun p f hp hf => ?_⟩
      cases f with
      | zero => simp at hf
      | succ f =>
        simp only [List.length_cons] at hf hp
        simp only [iter]
        rw [hs k p.length (p ++ x :: r) (by simp) (by simp; omega), getD_mid, e1]
        simp only [Option.bind_some, set_mid]
        have := l2 (p ++ [x']) f (by simp; omega) (by omega)
        rw [hsum] at this
        simpa using this
  obtain ⟨r', l2⟩ := key l k he h0 h1
  refine ⟨r', ?_⟩
  have := l2 [] bigN (by simpa using hl) (by simp only [bigN]; omega)
  have h : lp S (u, k, 0, l) = some (k + (sumL sz l : Nat), r') := by simpa [lp] using this
  simp only [h, Option.bind_some]
end Go.Mach
namespace Go.Proofs.Ytkegollaleklaaa.Tw
open Go.Mach
abbrev OuT := Int × EnT
abbrev ou0 : OuT := (0, en0)
def OutsLe (b : Nat) (l : List OuT) : Prop := l.length ≤ b ∧ ∀ e ∈ l, EnLe b e.2
end Go.Proofs.Ytkegollaleklaaa.Tw
