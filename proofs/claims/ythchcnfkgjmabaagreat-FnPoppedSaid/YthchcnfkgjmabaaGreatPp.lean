/- Plain: FnPopped: what is taken off a row, one by one, is in order what was in it. No condition: lemmas. -/
import Derived.Test.YthchcnfkgjmabaaGreatDr
import Derived.Test.YthchcnfkgjmabaaGreatPt
import Derived.Test.YthchcnfkgjmabaaGreatSi
namespace Go.Proofs.YthchcnfkgjmabaaGreat.Tw
open Go.Mach
set_option linter.unusedVariables false
set_option linter.unusedSimpArgs false
set_option maxRecDepth 20000

theorem getD_drop {α : Type} {l : List α} {m i : Nat} {d : α} : (l.drop m).getD i d = l.getD (m + i) d := by
  simp [List.getD_eq_getElem?_getD, List.getElem?_drop]

theorem RowOk.drop {l : List EnT} (h : RowOk l) (m : Nat) : RowOk (l.drop m) where
  len := by have := h.len; simp; omega
  ens := fun e he => h.ens e (List.mem_of_mem_drop he)
  aps := by
    intro i k hk hi n
    rw [getD_drop, getD_drop]
    simp at hi
    exact h.aps (m + i) (m + k) (by omega) (by omega) n

theorem EnsLe.drop {b : Nat} {l : List EnT} (h : EnsLe b l) (m : Nat) : EnsLe b (l.drop m) := ⟨by have := h.1; simp; omega, fun e he => h.2 e (List.mem_of_mem_drop he)⟩

theorem EnsLe.mono {a b : Nat} {l : List EnT} (h : EnsLe a l) (hab : a ≤ b) : EnsLe b l := ⟨by have := h.1; omega, fun e he => (h.2 e he).mono hab⟩

theorem RowOk.flatLen {l : List EnT} (h : RowOk l) : (flat l).length ≤ 1048576 := by
  have key : ∀ (l : List EnT), EnsOk l → (flat l).length ≤ 5001 * l.length := by
    intro l
    induction l with
    | nil => intro _; simp [flat]
    | cons e r ih =>
      intro h
      have h1 := (h e (by simp)).len
      have h2 := ih fun x hx => h x (by simp [hx])
      simp only [flat, List.length_append, List.length_cons]
      omega
  have := key l h.ens
  have := h.len
  omega

theorem rowSum_ok {l : List EnT} (h : RowOk l) : impl_RowSum l = some (sumsM l) := by
  have hr : rowOk l = true := rowOk_iff.2 h
  simp only [impl_RowSum, implRowOk_eq h.toLe, hr, Option.bind_some, Bool.not_true, cond_false, sums_eq h.ens (by have := h.len; omega) h.flatLen]

theorem sums_le {l : List EnT} (h : RowOk l) : EnsLe 1048576 (sumsM l) := ⟨by have := sumsM_length l; omega, fun e he => ((sumsM_ok h.ens) e he).toLe.mono (by omega)⟩

theorem pop_bad {l : List EnT} (h : EnsLe 5001 l) (hb : rowOk l = false ∨ l = []) : impl_RowPop l = some (en0, l, false) ∧ spec_RowPop l = some (en0, l, false) := by
  have hle := h.mono (b := 1048576) (by omega)
  simp only [impl_RowPop, spec_RowPop, copyRow_eq hle, l10Copy_eq hle, implRowOk_eq hle, specRowOk_eq hle, Option.bind_some]
  rcases hb with hb | rfl
  · rw [hb]
    constructor <;> first | rfl | trivial
  · cases rowOk ([] : List EnT) <;> constructor <;> first | rfl | trivial

theorem pop_ok {l : List EnT} (h : RowOk l) (hn : l ≠ []) : impl_RowPop l = some (l.getD 0 en0, l.drop 1, true) ∧ spec_RowPop l = some (l.getD 0 en0, l.drop 1, true) := by
  have hle := h.toLe
  have hr : rowOk l = true := rowOk_iff.2 h
  have h0 : 0 < l.length := List.length_pos_iff.2 hn
  have hz : ((l.length : Int) == 0) = false := beq_eq_false_iff_ne.2 (by omega)
  have hlen := h.len
  simp only [impl_RowPop, spec_RowPop, copyRow_eq hle, l10Copy_eq hle, implRowOk_eq hle, specRowOk_eq hle, hr, Option.bind_some, Bool.not_true, cond_false, lnn, hz, dT h0, chk_tt, dT (show 1 ≤ l.length ∧ l.length ≤ l.length by omega)]
  have hf : fits (0 + (List.drop 1 l).length) 144 = true := fitsB (by simp; omega) (by omega)
  rw [hf]
  generalize l.getD 0 en0 = z
  obtain ⟨z1, z2, z3, z4, z5, z6, z7, z8, z9, z10⟩ := z
  constructor <;> first | rfl | trivial

theorem drawRowPop_ok {a : List Int} (h : a.length ≤ 1048576) : ∃ l, spec_DrawRowPop a = some l ∧ EnsLe 5001 l := by
  obtain ⟨⟨b, c, d⟩, e0, g0⟩ := l1New_ok h
  obtain ⟨l, ⟨b1, c1, d1⟩, e1, hl, g1⟩ := draw10_ok g0
  simp only [spec_DrawRowPop, e0, e1, Option.bind_some]
  exact ⟨_, rfl, hl⟩

theorem pop_loop {l : List EnT} (h : RowOk l) (e : EnT) : lp laws_FnPopped_s8186 (l, e, [], l, 0) = some (.inr (l, e, l, [])) := by
  obtain ⟨e1, e2, e3, e4, e5, e6, e7, e8, e9, e10⟩ := e
  have hlen := h.len
  have := lp_det (S := laws_FnPopped_s8186) (fun i => (l, (e1, e2, e3, e4, e5, e6, e7, e8, e9, e10), l.take i, l.drop i, (i : Int))) (n := l.length) (b := .inr (l, (e1, e2, e3, e4, e5, e6, e7, e8, e9, e10), l, [])) (by omega) (fun i hi => by
    have hp := (pop_ok (h.drop i) (by
      intro q
      have := congrArg List.length q
      simp at this
      omega)).1
    rw [getD_drop, List.drop_drop, Nat.add_zero] at hp
    have ht := take_snoc (l := l) (i := i) en0 hi
    simp only [laws_FnPopped_s8186, lnn, ltn hi, Option.bind_some, cond_true, hp]
    generalize l.getD i en0 = z at ht
    obtain ⟨z1, z2, z3, z4, z5, z6, z7, z8, z9, z10⟩ := z
    simp only [Bool.not_true, cond_false, Option.bind_some]
    rw [fitsC (by simp; omega) (by omega), ← ht, wsucc (by omega)]) (by simp only [laws_FnPopped_s8186, lnn, ltF, Option.bind_some, cond_false, List.take_length, List.drop_length])
  rw [cast0, List.take_zero, List.drop_zero] at this
  exact this

/-- The law's twin answers true. -/
theorem law_popped (a : List Int) : laws_FnPopped a = some true := by
  simp only [laws_FnPopped, laws_big, Option.bind_some, lnn, bif_dec]
  split
  · rfl
  · rename_i ha
    obtain ⟨l, e0, hl⟩ := drawRowPop_ok (a := a) (by omega)
    have hle := hl.mono (b := 1048576) (by omega)
    simp only [e0, Option.bind_some]
    by_cases hk : rowOk l = false ∨ l = []
    · obtain ⟨p1, p2⟩ := pop_bad hl hk
      simp only [p1, p2, Option.bind_some, beq_self_eq_true, Bool.not_true, Bool.not_false, cond_false, cond_true, rowSame_eq hle]
      rfl
    · have hr : rowOk l = true := by
        cases hq : rowOk l with
        | true => rfl
        | false => exact absurd (.inl hq) hk
      have hn : l ≠ [] := fun q => hk (.inr q)
      have h := rowOk_iff.1 hr
      obtain ⟨p1, p2⟩ := pop_ok h hn
      have hloop := pop_loop h (l.getD 0 en0)
      have h0 : 0 < l.length := List.length_pos_iff.2 hn
      have hm : l.getD 0 en0 ∈ l := getD_mem h0
      have hE := entEq_eq (hle.2 _ hm)
      obtain ⟨q1, _⟩ := pop_bad (l := []) ⟨by simp, by simp⟩ (.inr rfl)
      simp only [p1, p2, Option.bind_some]
      generalize hz : l.getD 0 en0 = z at hloop hE
      obtain ⟨z1, z2, z3, z4, z5, z6, z7, z8, z9, z10⟩ := z
      simp only [beq_self_eq_true, Bool.not_true, cond_false, hloop, bx_inr, q1, Option.bind_some, rowSum_ok h, Bool.not_false, cond_true, List.length_nil, rowSame_eq hle, totEq_eq (sums_le h), dT h0, chk_tt]
      have hz' : List.getD l 0 (0, 0, [], 0, 0, 0, 0, [], [], []) = (z1, z2, z3, z4, z5, z6, z7, z8, z9, z10) := hz
      simp only [hz', Option.bind_some, hE]
      rfl

end Go.Proofs.YthchcnfkgjmabaaGreat.Tw
