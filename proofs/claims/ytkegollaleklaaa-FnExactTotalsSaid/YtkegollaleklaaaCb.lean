/- Plain: FnExactCombine. No condition: lemmas. -/
import Derived.Test.YtkegollaleklaaaSi
import Derived.Test.YtkegollaleklaaaWf
namespace Go.Proofs.Ytkegollaleklaaa.Tw
open Go.Mach
set_option linter.unusedVariables false
set_option linter.unusedSimpArgs false
set_option maxRecDepth 20000

theorem ensOk_iff {l : List EnT} : l.all enOk = true ↔ EnsOk l := by simp [EnsOk, List.all_eq_true, enOk_iff]

theorem l24Entries_eq {l : List EnT} (h : EnsLe 1048576 l) : spec_l24Entries l = some (l.all enOk) := by
  have q := lp_all (S := spec_l24Entries_s26) (t := .inr ()) (e := .inl false) l en0 (fun i => (l, (i : Int))) h.1 enOk (fun i hi hm => by
    have he := specEntryOk_eq (h.2 _ hm)
    have hl := h.1
    simp only [spec_l24Entries_s26, lnn, ltn hi, Option.bind_some, cond_true, ixn hi, gxn, wsucc (show i ≤ 1048576 by omega), bnot_cond]
    generalize hx : l.getD i (0, 0, [], 0, 0, 0, 0, [], [], []) = x
    have hx' : l.getD i en0 = x := hx
    rw [hx'] at he
    obtain ⟨x1, x2, x3, x4, x5, x6, x7, x8, x9, x10⟩ := x
    simp only [he, Option.bind_some]
    cases enOk (x1, x2, x3, x4, x5, x6, x7, x8, x9, x10) <;> rfl) (by simp only [spec_l24Entries_s26, lnn, ltF, Option.bind_some, cond_false])
  rw [cast0] at q
  simp only [spec_l24Entries, q]
  cases l.all enOk <;> rfl

theorem nEns_le {l : List EnT} : l.length ≤ nEns l ∧ (flat l).length ≤ nEns l := by
  unfold nEns
  induction l with
  | nil => simp [flat]
  | cons x r ih =>
    simp only [List.length_cons, sumL, flat, List.length_append, nEn] at ih ⊢
    omega

theorem combine_eq {a b : List EnT} (h : nEns a + nEns b ≤ 1048576) : ∃ r, spec_Combine (a, b) = some r ∧ impl_Combine (a, b) = some r ∧ EnsOk r ∧ r.length ≤ 105 := by
  have ha := ensLe_of (l := a) (by omega)
  have hb := ensLe_of (l := b) (by omega)
  have la := nEns_le (l := a)
  have lb := nEns_le (l := b)
  have hc : EnsLe 1048576 (a ++ b) := ⟨by simp; omega, fun e he => (List.mem_append.1 he).elim (ha.2 e) (hb.2 e)⟩
  have q := lp_all (S := impl_Combine_s58) (t := .inr (a ++ b)) (e := .inl ()) (a ++ b) en0 (fun i => (a ++ b, ((), (), ()), ((a ++ b).length : Int), (i : Int))) hc.1 enOk (fun i hi hm => by
    have he := implEntryOk_eq (hc.2 _ hm)
    simp only [impl_Combine_s58, ltn hi, Option.bind_some, cond_true, ixn hi, lxn hi, gxn, wsucc (show i ≤ 1048576 by have := hc.1; omega), bnot_cond]
    generalize hx : (a ++ b).getD i (0, 0, [], 0, 0, 0, 0, [], [], []) = x
    have hx' : (a ++ b).getD i en0 = x := hx
    rw [hx'] at he
    obtain ⟨x1, x2, x3, x4, x5, x6, x7, x8, x9, x10⟩ := x
    simp only [he, Option.bind_some]
    cases enOk (x1, x2, x3, x4, x5, x6, x7, x8, x9, x10) <;> rfl) (by simp only [impl_Combine_s58, ltF, cond_false])
  rw [cast0] at q
  have hl1 : a.length + b.length ≤ 1048576 := by omega
  simp only [spec_Combine, impl_Combine, l24Entries_eq ha, l24Entries_eq hb, Option.bind_some, lnn, q, List.nil_append]
  have f1 : fits a.length 144 = true := fitsB (by omega) (by omega)
  have f2 : fits (a.length + b.length) 144 = true := fitsB (by omega) (by omega)
  have f3 : fits (0 + a.length) 144 = true := fitsB (by omega) (by omega)
  simp only [f1, f2, f3, chk_tt]
  have hall : (a ++ b).all enOk = (a.all enOk && b.all enOk) := List.all_append
  rw [hall]
  cases h1 : a.all enOk with
  | false => exact ⟨[], rfl, rfl, by simp [EnsOk], by simp⟩
  | true =>
    cases h2 : b.all enOk with
    | false => exact ⟨[], rfl, rfl, by simp [EnsOk], by simp⟩
    | true =>
      have hok : EnsOk (a ++ b) := ensOk_iff.1 (by rw [hall, h1, h2]; rfl)
      have hf : (flat (a ++ b)).length ≤ 1048576 := by rw [flat_app]; simp; omega
      refine ⟨sumsM (a ++ b), ?_, ?_, sumsM_ok hok, sumsM_length _⟩
      · simp only [Bool.not_true, cond_false, l24Sum_eq hok hc.1, Option.bind_some]
      · simp only [Bool.and_true, cond_true, bx_inr, sums_eq hok hc.1 hf, Option.bind_some]

/-- What few entries that are right take. -/
theorem szEn_le {e : EnT} (h : EnOk e) : szEn e ≤ 20000 := by
  have h1 := h.len
  have h2 := h.sk.toLe
  have h3 : sumL (fun _ : SpT => 2) e.2.2.1 ≤ e.2.2.1.length * 2 := sumL_le fun _ _ => Nat.le_refl _
  have h4 : sumL (fun r : List Int => r.length) e.2.2.2.2.2.2.2.2.2 ≤ e.2.2.2.2.2.2.2.2.2.length * 8 := sumL_le h2.2.2.2
  have := h2.1
  have := h2.2.1
  have := h2.2.2.1
  unfold szEn szSk
  omega

/-- The law's twin answers true. -/
theorem law_combine (a b : List EnT) (ha : EnsLe 9223372036854775807 a) (hb : EnsLe 9223372036854775807 b) : laws_FnExactCombine (a, b) = some true := by
  obtain ⟨x, e1, e2⟩ := szEntryS_ok a 1048576 ha (by omega) (by omega)
  simp only [laws_FnExactCombine, e1, Option.bind_some, bif_dec]
  rcases e2 with rfl | ⟨e2, e3⟩
  · simp
  · rw [if_neg (by omega)]
    obtain ⟨y, f1, f2⟩ := szEntryS_ok b x hb e2 (by omega)
    rw [f1, Option.bind_some]
    rcases f2 with rfl | ⟨f2, f3⟩
    · simp
    · rw [if_neg (by omega)]
      have sa := ensLe_of (l := a) (by omega)
      have sb := ensLe_of (l := b) (by omega)
      obtain ⟨r, h1, h2, h3, h4⟩ := combine_eq (a := a) (b := b) (by omega)
      have hr : EnsLe 1048576 r := ⟨by omega, fun e he => (h3 e he).toLe.mono (by omega)⟩
      have ma : ∀ {l : List EnT}, EnsLe 1048576 l → nEns l ≤ 1048576 → sumL szEn l ≤ 10000000 := by
        intro l _ hn
        have : sumL szEn l ≤ 6 * l.length + 2 * sumL nEn l := by
          clear hn
          induction l with
          | nil => simp [sumL]
          | cons e r ih =>
            have ih := ih
            have h3 : sumL (fun _ : SpT => 2) e.2.2.1 ≤ e.2.2.1.length * 2 := sumL_le fun _ _ => Nat.le_refl _
            simp only [sumL, List.length_cons, szEn, szSk, nEn, nSk, nIntSS]
            have ih' := ih ⟨by have := ‹EnsLe 1048576 (e :: r)›.1; simp at this; omega, fun z hz => ‹EnsLe 1048576 (e :: r)›.2 z (List.mem_cons_of_mem _ hz)⟩
            omega
        unfold nEns at hn
        omega
      have mr : sumL szEn r ≤ r.length * 20000 := sumL_le fun e he => szEn_le (h3 e he)
      have na := ma sa (by omega)
      have nb := ma sb (by omega)
      obtain ⟨a', m1, _⟩ := marksEntryS sa 1 (by omega) (by omega)
      obtain ⟨b', m2, _⟩ := marksEntryS sb (1 + (sumL szEn a : Nat)) (by omega) (by omega)
      obtain ⟨r', m3, m4⟩ := marksEntryS hr 1 (by omega) (by omega)
      have g1 : ¬ (1 + ((sumL szEn a : Nat) : Int) + ((sumL szEn b : Nat) : Int) < 0) := by omega
      have g2 : ¬ (1 + ((sumL szEn r : Nat) : Int) < 0) := by omega
      simp only [toEntryS_ok sa, toEntryS_ok sb, h1, h2, Option.bind_some, eqEntryS_ok hr, eqEntryS_ok sa, eqEntryS_ok sb, Bool.not_true, cond_false, m1, m2, m3, m4, if_neg g1, if_neg g2, bne_self_eq_false]

end Go.Proofs.Ytkegollaleklaaa.Tw
