/- Plain: spans, sketches, entries: what is handed over is as it was; sizes; comparisons with themselves. No condition: lemmas. -/
import Derived.Test.YthchcnfkgjmabaaGreatHii
namespace Go.Proofs.YthchcnfkgjmabaaGreat.Tw
open Go.Mach
set_option linter.unusedVariables false
set_option linter.unusedSimpArgs false
set_option maxRecDepth 20000

abbrev SpT := Int × Int
abbrev SkT := Int × Int × Int × Int × List Int × List Int × List (List Int)
abbrev EnT := Int × Int × List SpT × SkT
def SkLe (b : Nat) (s : SkT) : Prop := s.2.2.2.2.1.length ≤ b ∧ s.2.2.2.2.2.1.length ≤ b ∧ s.2.2.2.2.2.2.length ≤ b ∧ ∀ r ∈ s.2.2.2.2.2.2, r.length ≤ b
def EnLe (b : Nat) (e : EnT) : Prop := e.2.2.1.length ≤ b ∧ SkLe b e.2.2.2
abbrev en0 : EnT := (0, 0, [], 0, 0, 0, 0, [], [], [])
def EnsLe (b : Nat) (l : List EnT) : Prop := l.length ≤ b ∧ ∀ e ∈ l, EnLe b e

/-- What they take. -/
def nSk (s : SkT) : Nat := s.2.2.2.2.1.length + (s.2.2.2.2.2.1.length + (nIntSS s.2.2.2.2.2.2 + 0))
def nEn (e : EnT) : Nat := e.2.2.1.length + (nSk e.2.2.2 + 0)
def nEns (l : List EnT) : Nat := l.length + sumL nEn l
theorem skLe_of {s : SkT} (h : nSk s ≤ 1048576) : SkLe 1048576 s := by
  unfold nSk at h
  exact ⟨by omega, by omega, smIntSS_of (by omega)⟩
theorem enLe_of {e : EnT} (h : nEn e ≤ 1048576) : EnLe 1048576 e := by
  unfold nEn at h
  exact ⟨by omega, skLe_of (by omega)⟩
theorem ensLe_of {l : List EnT} (h : nEns l ≤ 1048576) : EnsLe 1048576 l := by
  unfold nEns at h
  exact ⟨by omega, fun e he => enLe_of (by have := sumL_mem (f := nEn) he; omega)⟩

/-! ### spans -/
theorem toSpanS_ok {l : List SpT} (hl : l.length ≤ 1048576) : laws_toSpanS l = some l := by
  have := copy_list (S := laws_toSpanS_s58) (to := fun x => some x) (0, 0) hl (fun r hm => rfl) (fun i m hi hm => by simp only [laws_toSpanS_s58, laws_toSpan, lnn, ltn hi, cond_true, ixn hi, hm, lxn hi, gxn, sxn, wsucc (show i ≤ 1048576 by omega), Option.bind_some]) (fun m => by simp only [laws_toSpanS_s58, lnn, ltF, cond_false])
  simp only [laws_toSpanS, lnn, Int.toNat_natCast]
  rw [chkD (by omega), this]
  rfl
theorem eqSpanS_ok {l : List SpT} (hl : l.length ≤ 1048576) : laws_eqSpanS (l, l) = some true := by
  have := same_list (S := laws_eqSpanS_s58) (eq := fun p => some true) (t := .inr ()) (e := .inl false) (0, 0) hl (fun r hm => rfl) (fun i hi => by simp only [laws_eqSpanS_s58, laws_eqSpan, lnn, ltn hi, cond_true, ixn hi, gxn, bne_self_eq_false, cond_false, Option.bind_some, Bool.not_true, wsucc (show i ≤ 1048576 by omega)]) (by simp only [laws_eqSpanS_s58, lnn, ltF, cond_false])
  simp only [laws_eqSpanS, bne_self_eq_false, cond_false]
  rw [this]
  rfl
theorem szSpanS_ok : Sz laws_szSpanS (fun l => l.length ≤ 9223372036854775807) (fun l => l.length) := sz_len

/-! ### sketches -/
theorem toSketch_ok {s : SkT} (h : SkLe 1048576 s) : laws_toSketch s = some s := by
  obtain ⟨a, b, c, d, e, f, g⟩ := s
  simp only [laws_toSketch, toIntS_ok h.1, toIntS_ok h.2.1, toIntSS_ok h.2.2, Option.bind_some]
theorem eqSketch_ok {s : SkT} (h : SkLe 1048576 s) : laws_eqSketch (s, s) = some true := by
  obtain ⟨a, b, c, d, e, f, g⟩ := s
  simp only [laws_eqSketch, bne_self_eq_false, cond_false, eqIntS_ok h.1, eqIntS_ok h.2.1, eqIntSS_ok h.2.2, Option.bind_some, Bool.not_true]
theorem szSketch_ok : Sz laws_szSketch (SkLe 9223372036854775807) nSk := by
  rintro ⟨a, b, c, d, e, f, g⟩ x hw h0 h1
  simp only [laws_szSketch]
  exact sz_then (szIntS_ok e x hw.1 h0 h1) fun y y0 y1 => sz_then (szIntS_ok f y hw.2.1 y0 (by omega)) fun z z0 z1 => sz_then (szIntSS_ok g z hw.2.2 z0 (by omega)) fun u u0 u1 => sz_last u0

/-! ### entries -/
theorem toEntry_ok {e : EnT} (h : EnLe 1048576 e) : laws_toEntry e = some e := by
  obtain ⟨a, b, c, s⟩ := e
  obtain ⟨d, e, f, g, i, j, k⟩ := s
  have := toSketch_ok h.2
  simp only at this
  simp only [laws_toEntry, toSpanS_ok h.1, this, Option.bind_some]
theorem eqEntry_ok {e : EnT} (h : EnLe 1048576 e) : laws_eqEntry (e, e) = some true := by
  obtain ⟨a, b, c, s⟩ := e
  obtain ⟨d, e, f, g, i, j, k⟩ := s
  have := eqSketch_ok h.2
  simp only at this
  simp only [laws_eqEntry, bne_self_eq_false, cond_false, eqSpanS_ok h.1, this, Option.bind_some, Bool.not_true]
theorem szEntry_ok : Sz laws_szEntry (EnLe 9223372036854775807) nEn := by
  rintro ⟨a, b, c, s⟩ x hw h0 h1
  obtain ⟨d, e, f, g, i, j, k⟩ := s
  simp only [laws_szEntry]
  exact sz_then (szSpanS_ok c x hw.1 h0 h1) fun y y0 y1 => sz_then (szSketch_ok (d, e, f, g, i, j, k) y hw.2 y0 (by omega)) fun u u0 u1 => sz_last u0

theorem toEntryS_ok {l : List EnT} (h : EnsLe 1048576 l) : laws_toEntryS l = some l := by
  obtain ⟨hl, hr⟩ := h
  have := copy_list (S := laws_toEntryS_s58) (to := laws_toEntry) en0 hl (fun r hm => toEntry_ok (hr r hm)) (fun i m hi hm => by
    simp only [laws_toEntryS_s58, lnn, ltn hi, Option.bind_some, cond_true, ixn hi, hm, lxn hi, gxn, sxn, wsucc (show i ≤ 1048576 by omega)]) (fun m => by simp only [laws_toEntryS_s58, lnn, ltF, Option.bind_some, cond_false])
  simp only [laws_toEntryS, lnn, Int.toNat_natCast, Option.bind_some]
  rw [chkD (by omega), this]
  rfl
theorem eqEntryS_ok {l : List EnT} (h : EnsLe 1048576 l) : laws_eqEntryS (l, l) = some true := by
  obtain ⟨hl, hr⟩ := h
  have := same_list (S := laws_eqEntryS_s58) (eq := laws_eqEntry) (t := .inr ()) (e := .inl false) en0 hl (fun r hm => eqEntry_ok (hr r hm)) (fun i hi => by
    simp only [laws_eqEntryS_s58, lnn, ltn hi, Option.bind_some, cond_true, ixn hi, gxn, bnot_cond, wsucc (show i ≤ 1048576 by omega)]) (by simp only [laws_eqEntryS_s58, lnn, ltF, Option.bind_some, cond_false])
  simp only [laws_eqEntryS, bne_self_eq_false, Option.bind_some, cond_false]
  rw [this]
  rfl
theorem szEntryS_ok : Sz laws_szEntryS (EnsLe 9223372036854775807) nEns :=
  sz_list (S := laws_szEntryS_s122) szEntry_ok en0 (fun l i a hl hi => by
    simp only [laws_szEntryS_s122, lnn, ltn hi, Option.bind_some, cond_true, ixn hi, gxn, wsucc (show i ≤ 1048576 by omega)]) (fun l a => by simp only [laws_szEntryS_s122, lnn, ltF, Option.bind_some, cond_false])

end Go.Proofs.YthchcnfkgjmabaaGreat.Tw
