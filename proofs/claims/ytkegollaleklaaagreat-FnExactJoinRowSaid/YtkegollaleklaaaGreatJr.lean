/- Plain: FnExactJoinRow. No condition: lemmas. -/
import Derived.Test.YtkegollaleklaaaGreatRp
import Derived.Test.YtkegollaleklaaaGreatWf
namespace Go.Proofs.YtkegollaleklaaaGreat.Tw
open Go.Mach
set_option linter.unusedVariables false
set_option linter.unusedSimpArgs false
set_option maxRecDepth 20000

/-- What few entries that are right take. -/
theorem szEn_le {e : EnT} (h : EnOk e) : szEn e ≤ 20000 := by
  have h1 := h.len
  have h2 := h.sk.toLe
  have h3 : sumL (fun _ : SpT => 2) e.2.2.1 ≤ e.2.2.1.length * 2 := sumL_le fun _ _ => Nat.le_refl _
  have h4 : sumL (fun r : List Int => r.length) e.2.2.2.2.2.2.2.2.2 ≤ e.2.2.2.2.2.2.2.2.2.length * 8 := sumL_le h2.2.2.2
  have := h2.1
  have := h2.2.1
  have := h2.2.2.1
  unfold szEn szSk
  omega
theorem szEns_small {l : List EnT} (h : nEns l ≤ 1048576) : sumL szEn l ≤ 10000000 := by
  have : sumL szEn l ≤ 6 * l.length + 2 * sumL nEn l := by
    clear h
    induction l with
    | nil => simp [sumL]
    | cons e r ih =>
      have h3 : sumL (fun _ : SpT => 2) e.2.2.1 ≤ e.2.2.1.length * 2 := sumL_le fun _ _ => Nat.le_refl _
      simp only [sumL, List.length_cons, szEn, szSk, nEn, nSk, nIntSS] at ih ⊢
      omega
  unfold nEns at h
  omega
theorem RowOk.szs {l : List EnT} (h : RowOk l) : sumL szEn l ≤ 480000 := by
  have : sumL szEn l ≤ l.length * 20000 := sumL_le fun e he => szEn_le (h.ens e he)
  have := h.len
  omega

/-- The law's twin answers true. -/
theorem law_joinRow (a : List EnT) (ha : EnsLe 9223372036854775807 a) : laws_FnExactJoinRow a = some true := by
  obtain ⟨x, e1, e2⟩ := szEntryS_ok a 1048576 ha (by omega) (by omega)
  simp only [laws_FnExactJoinRow, laws_szRow, laws_toRow, laws_eqRow, laws_markRow, laws_heldRow, e1, Option.bind_some, bif_dec]
  rcases e2 with rfl | ⟨e2, e3⟩
  · simp
  · rw [if_neg (by omega), Option.bind_some, if_neg (by omega)]
    have sa := ensLe_of (l := a) (by omega)
    have na : sumL szEn a ≤ 10000000 := szEns_small (by omega)
    obtain ⟨hr, mr⟩ : EnsLe 1048576 (joinM a) ∧ sumL szEn (joinM a) ≤ 10000000 := by
      cases h : rowOk a with
      | true =>
        have := joinM_ok (rowOk_iff.1 h)
        exact ⟨this.toLe, by have := this.szs; omega⟩
      | false =>
        have : joinM a = a := by unfold joinM; rw [h]; rfl
        rw [this]
        exact ⟨sa, na⟩
    obtain ⟨a', m1, _⟩ := marksEntryS sa 1 (by omega) (by omega)
    obtain ⟨r', m3, m4⟩ := marksEntryS hr 1 (by omega) (by omega)
    have g1 : ¬ (1 + ((sumL szEn a : Nat) : Int) < 0) := by omega
    have g2 : ¬ (1 + ((sumL szEn (joinM a) : Nat) : Int) < 0) := by omega
    simp only [toEntryS_ok sa, specJoinRow_eq sa, implJoinRow_eq sa, Option.bind_some, eqEntryS_ok hr, eqEntryS_ok sa, Bool.not_true, cond_false, m1, m3, m4, if_neg g1, if_neg g2, bne_self_eq_false]

end Go.Proofs.YtkegollaleklaaaGreat.Tw
