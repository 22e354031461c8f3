/- The machine, part na: many slots at once; worlds that differ where nobody looks. No condition: lemmas. -/
import Derived.Test.YtcdkpfcfcjnooaaMz
namespace Go.Mach
set_option linter.unusedVariables false
set_option linter.unusedSimpArgs false

/-- Many slots are turned at once. -/
theorem Inv.turns {n : Nat} {e e' : Env} {tm tm' : Array Value} {w w' : World} {G G' : Gh} (h : Inv n e tm w G) (S : Nat → Prop) (hlen : n ≤ e'.length) (hsz : tm'.size = n)
    (hx : ∀ t, ¬ S t → e'.get t = e.get t)
    (hG : ∀ t, ¬ S t → G'.vs t = G.vs t ∧ (∀ j, G'.lt t j = G.lt t j) ∧ G'.bk t = G.bk t) (htm : ∀ t, ¬ S t → t < n → tm'[t]? = tm[t]?)
    (hTM : ∀ t, S t → TM e e' G G' t) (hst : Still w w' G.ow G'.ow)
    (hown : ∀ t, ¬ S t → ∀ b ∈ fpS G t (e.get t), w'.heap[b]? = w.heap[b]? ∧ G'.ow b = some t)
    (hself : ∀ t, S t → SlotOk n e' tm' w' G' t) (hlt : ∀ b t, G'.ow b = some t → b < w'.heap.size) : Inv n e' tm' w' G' := by
  have ht : ∀ t, TM e e' G G' t := fun t => by
    by_cases g : S t
    · exact hTM t g
    · exact TM.refl (hx t g) (hG t g).2.1 (hG t g).2.2
  refine ⟨hsz, hlen, fun t => ?_, hlt⟩
  by_cases g : S t
  · exact hself t g
  · obtain ⟨g1, g2, g3⟩ := hG t g
    exact (h.slot t).frame (hx t g) (htm t g) g1 g2 g3 ht hst (hown t g)

/-- The callee's slots: how a list of arguments becomes slots. -/
theorem inSlots_length (n : Nat) (md : List Bool) : ∀ (i : Nat) (args : List Val), (inSlots n md i args).1.length = args.length ∧ (inSlots n md i args).2.length = args.length
  | i, [] => ⟨rfl, rfl⟩
  | i, (sh, cs) :: r => by
    obtain ⟨h1, h2⟩ := inSlots_length n md (i + 1) r
    simp only [inSlots]
    split
    · split <;> simp [h1, h2]
    · simp [h1, h2]

end Go.Mach
