/- Plain: rows: copies, what is put into them; both programs tell the same. No condition: lemmas. -/
import Derived.Test.YthchcnfkgjmabaaGreatFi
import Derived.Test.YthchcnfkgjmabaaGreatAd
namespace Go.Proofs.YthchcnfkgjmabaaGreat.Tw
open Go.Mach
set_option linter.unusedVariables false
set_option linter.unusedSimpArgs false
set_option maxRecDepth 20000

theorem l10Copy_eq {l : List EnT} (h : EnsLe 1048576 l) : spec_l10Copy l = some l := by
  have q := lp_det (S := spec_l10Copy_s58) (fun i => (l, (), l.take i, (i : Int))) h.1 (b := ((), l)) (fun i hi => by
    have he := l6Copy_eq (h.2 _ (getD_mem (d := en0) hi))
    have hl := h.1
    simp only [spec_l10Copy_s58, lnn, ltn hi, Option.bind_some, cond_true, ixn hi, gxn, wsucc (show i ≤ 1048576 by omega)]
    rw [take_snoc en0 hi]
    generalize hx : l.getD i (0, 0, [], 0, 0, 0, 0, [], [], []) = x
    have hx' : l.getD i en0 = x := hx
    rw [hx'] at he
    obtain ⟨x1, x2, x3, x4, x5, x6, x7, x8, x9, x10⟩ := x
    simp only [he, Option.bind_some]
    rw [fitsC (by simp; omega) (by omega)]) (by simp only [spec_l10Copy_s58, lnn, ltF, Option.bind_some, cond_false, List.take_length])
  rw [cast0, List.take_zero] at q
  simp only [spec_l10Copy, q, Option.bind_some]

theorem copyRow_eq {l : List EnT} (h : EnsLe 1048576 l) : impl_copyRow l = some l := by
  have q := lp_det (S := impl_copyEntries_s58) (fun i => (l.take i, l, (l.length : Int), (i : Int))) h.1 (b := l) (fun i hi => by
    have he := copyEntry_eq (h.2 _ (getD_mem (d := en0) hi))
    have hl := h.1
    simp only [impl_copyEntries_s58, ltn hi, Option.bind_some, cond_true, ixn hi, gxn, wsucc (show i ≤ 1048576 by omega)]
    rw [take_snoc en0 hi]
    generalize hx : l.getD i (0, 0, [], 0, 0, 0, 0, [], [], []) = x
    have hx' : l.getD i en0 = x := hx
    rw [hx'] at he
    obtain ⟨x1, x2, x3, x4, x5, x6, x7, x8, x9, x10⟩ := x
    simp only [he, Option.bind_some]
    rw [fitsC (by simp; omega) (by omega)]) (by simp only [impl_copyEntries_s58, ltF, cond_false, List.take_length])
  rw [cast0, List.take_zero] at q
  simp only [impl_copyRow, impl_copyEntries, lnn, q, Option.bind_some]

/-! ### what is put into a row -/
def plc (l : List EnT) (k w : Int) : Option Nat := (List.range l.length).find? fun i => isAt k w (l.getD i en0)
def apAll (l : List EnT) (ids : List SpT) : Bool := l.all fun e => apS e.2.2.1 ids
def pushM (l : List EnT) (e : EnT) (join : Bool) : List EnT × Bool :=
  bif apAll l e.2.2.1 then
    match bif join then plc l e.1 e.2.1 else none with
    | some k => (l.set k (addE (l.getD k en0) e), true)
    | none => if l.length = 24 then (l, false) else (l ++ [e], true)
  else (l, false)

theorem l10Apart_eq {l : List EnT} {ids : List SpT} (h : EnsLe 1048576 l) (hi : ids.length ≤ 1048576) : spec_l10Apart (l, ids) = some (apAll l ids) := by
  have q := lp_all (S := spec_l10Apart_s26) (t := .inr ()) (e := .inl false) l en0 (fun i => (ids, l, (i : Int))) h.1 (fun e => apS e.2.2.1 ids) (fun i hi2 hm => by
    have hx := specApart_eq (h.2 _ hm).1 hi
    have hl := h.1
    simp only [spec_l10Apart_s26, lnn, ltn hi2, Option.bind_some, cond_true, ixn hi2, gxn, wsucc (show i ≤ 1048576 by omega), bnot_cond]
    rw [hx, Option.bind_some]
    cases apS (l.getD i en0).2.2.1 ids <;> rfl) (by simp only [spec_l10Apart_s26, lnn, ltF, Option.bind_some, cond_false])
  rw [cast0] at q
  simp only [spec_l10Apart, q, apAll]
  cases l.all (fun e => apS e.2.2.1 ids) <;> rfl

theorem placeOf_eq {l : List EnT} {k w : Int} (h : l.length ≤ 1048576) : impl_placeOf (l, k, w) = some (match plc l k w with | some i => (i : Int) | none => -1) := by
  have q := lp_find (S := impl_Entry__s26) (t := .inr ()) (fun i => (l, ((k, ()), (w, ()), ()), (l.length : Int), (i : Int))) h (fun i => isAt k w (l.getD i en0)) (fun i => .inl (i : Int)) (fun i hi => by
    simp only [impl_Entry__s26, impl_placeOf_1, ltn hi, Option.bind_some, cond_true, ixn hi, gxn, wsucc (show i ≤ 1048576 by omega), isAt]
    generalize hx : l.getD i (0, 0, [], 0, 0, 0, 0, [], [], []) = x
    have hx' : l.getD i en0 = x := hx
    obtain ⟨x1, x2, x3, x4, x5, x6, x7, x8, x9, x10⟩ := x
    simp only
    cases x1 == k <;> cases x2 == w <;> rfl) (by simp only [impl_Entry__s26, ltF, cond_false])
  rw [cast0] at q
  simp only [impl_placeOf, impl_Entry_, lnn, q, plc]
  cases (List.range l.length).find? (fun i => isAt k w (l.getD i en0)) <;> rfl

theorem addE_ok {a b : EnT} (ha : EnOk a) (hb : EnOk b) : EnOk (addE a b) := by
  have h := tot_ok (e := a) (r := [b]) (fun x hx => by simp at hx; rcases hx with rfl | rfl <;> assumption)
  have e := tot_snoc (e := a) (r := []) (x := b) (fun x hx => by simp at hx; rw [hx]; exact ha) hb
  rw [tot_one ha, List.nil_append] at e
  rw [← e]
  exact h
theorem addE_has {a b : EnT} (ha : EnOk a) (hb : EnOk b) (n : Int) : hasN (addE a b).2.2.1 n ↔ hasN a.2.2.1 n ∨ hasN b.2.2.1 n := by
  have := (nrm_ok (l := a.2.2.1 ++ b.2.2.1) (fun x hx => (List.mem_append.1 hx).elim (ha.ids.mem x) (hb.ids.mem x))).2 n
  rw [hasN_append] at this
  exact this

theorem RowOk.ne {l : List EnT} (h : RowOk l) {i k : Nat} (hi : i < l.length) (hk : k < l.length) (hn : i ≠ k) (n : Int) (h1 : hasN (l.getD i en0).2.2.1 n) : ¬ hasN (l.getD k en0).2.2.1 n := by
  by_cases hc : k < i
  · exact h.aps i k hc hi n h1
  · exact fun h2 => h.aps k i (by omega) hk n h2 h1

theorem getD_set {α : Type} {l : List α} {i k : Nat} {v d : α} (hi : i < l.length) : (l.set k v).getD i d = if k = i then v else l.getD i d := by
  by_cases h : k = i
  · subst h; simp [List.getD_eq_getElem?_getD, hi]
  · simp [List.getD_eq_getElem?_getD, h, List.getElem?_set_ne h]

theorem apAll_iff {l : List EnT} {e : EnT} (hl : EnsOk l) (he : EnOk e) : apAll l e.2.2.1 = true ↔ ∀ i, i < l.length → ∀ n, hasN (l.getD i en0).2.2.1 n → ¬ hasN e.2.2.1 n := by
  unfold apAll
  simp only [List.all_eq_true]
  constructor
  · intro h i hi
    exact (ap_iff (hl _ (getD_mem hi)).set he.set).1 (h _ (getD_mem hi))
  · intro h x hx
    obtain ⟨i, hi, rfl⟩ := List.mem_iff_getElem.1 hx
    have := h i hi
    rw [getD_get hi] at this
    exact (ap_iff (hl _ hx).set he.set).2 this

theorem set_rowOk {l : List EnT} {e : EnT} (hl : RowOk l) (he : EnOk e) {k : Nat} (hk : k < l.length) (ha : apS (l.getD k en0).2.2.1 e.2.2.1 = true) :
    rowOk (l.set k (addE (l.getD k en0) e)) = apAll l e.2.2.1 := by
  have hke := hl.ens _ (getD_mem (d := en0) hk)
  have ha' := (ap_iff hke.set he.set).1 ha
  rw [Bool.eq_iff_iff, rowOk_iff, apAll_iff hl.ens he]
  constructor
  · intro h i hi n h1 h2
    by_cases hc : i = k
    · subst hc; exact ha' n h1 h2
    · have := h.ne (i := i) (k := k) (by simpa using hi) (by simpa using hk) hc n
      rw [getD_set hi, getD_set hk, if_neg (fun q => hc q.symm), if_pos rfl, addE_has hke he] at this
      exact this h1 (.inr h2)
  · intro h
    refine ⟨by simpa using hl.len, fun x hx => ?_, fun i j hj hi n => ?_⟩
    · rcases List.mem_or_eq_of_mem_set hx with hx | rfl
      · exact hl.ens x hx
      · exact addE_ok hke he
    · have hi' : i < l.length := by simpa using hi
      have hj' : j < l.length := by omega
      rw [getD_set hi', getD_set hj']
      by_cases c1 : k = i
      · subst c1
        rw [if_pos rfl, if_neg (by omega), addE_has hke he]
        rintro (q | q) q2
        · exact hl.ne hi' hj' (by omega) n q q2
        · exact h j hj' n q2 q
      · rw [if_neg c1]
        by_cases c2 : k = j
        · subst c2
          rw [if_pos rfl, addE_has hke he]
          rintro q (q2 | q2)
          · exact hl.ne hi' hj' (by omega) n q q2
          · exact h i hi' n q q2
        · rw [if_neg c2]
          exact hl.aps i j hj hi' n

theorem getD_app {α : Type} {l : List α} {x d : α} {i : Nat} (h : i ≤ l.length) : (l ++ [x]).getD i d = if i = l.length then x else l.getD i d := by
  by_cases hc : i = l.length
  · subst hc; simp [List.getD_eq_getElem?_getD]
  · rw [if_neg hc]
    simp [List.getD_eq_getElem?_getD, List.getElem?_append_left (show i < l.length by omega)]

theorem app_rowOk {l : List EnT} {e : EnT} (hl : RowOk l) (he : EnOk e) : rowOk (l ++ [e]) = (apAll l e.2.2.1 && decide (l.length ≠ 24)) := by
  rw [Bool.eq_iff_iff, rowOk_iff, Bool.and_eq_true, apAll_iff hl.ens he, decide_eq_true_eq]
  constructor
  · intro h
    refine ⟨fun i hi n h1 h2 => ?_, ?_⟩
    · have := h.aps l.length i hi (by simp) n
      rw [getD_app (Nat.le_refl _), if_pos rfl, getD_app (by omega), if_neg (by omega)] at this
      exact this h2 h1
    · have := h.len
      simp at this
      omega
  · rintro ⟨h, h2⟩
    have hlen := hl.len
    refine ⟨by simp; omega, fun x hx => ?_, fun i j hj hi n => ?_⟩
    · rcases List.mem_append.1 hx with hx | hx
      · exact hl.ens x hx
      · simp at hx; rw [hx]; exact he
    · have hi' : i ≤ l.length := by simp at hi; omega
      rw [getD_app hi', getD_app (by omega), if_neg (show j ≠ l.length by omega)]
      by_cases c : i = l.length
      · rw [if_pos c]
        exact fun q q2 => h j (by omega) n q2 q
      · rw [if_neg c]
        exact hl.aps i j hj (by omega) n

theorem pushM_ok {l : List EnT} {e : EnT} {j : Bool} (hl : RowOk l) (he : EnOk e) : RowOk (pushM l e j).1 := by
  unfold pushM
  cases ha : apAll l e.2.2.1 with
  | false => exact hl
  | true =>
    rw [cond_true]
    split
    · next k hk =>
      cases j with
      | false => simp at hk
      | true =>
        obtain ⟨hk, _⟩ := find_ok hk
        have := (List.all_eq_true.1 ha) _ (getD_mem (d := en0) hk)
        have := set_rowOk hl he hk this
        rw [ha] at this
        exact rowOk_iff.1 this
    · split
      · exact hl
      · next h24 =>
        have := app_rowOk hl he
        rw [ha, dT h24] at this
        exact rowOk_iff.1 this

theorem RowOk.toLe {l : List EnT} (h : RowOk l) : EnsLe 1048576 l := ⟨by have := h.len; omega, fun e he => (h.ens e he).toLe.mono (by omega)⟩

theorem specPush_eq {l : List EnT} {e : EnT} {j : Bool} (hl : RowOk l) (he : EnOk e) : spec_RowPush (l, e, j) = some (pushM l e j) := by
  have hle := hl.toLe
  have h24 := hl.len
  have heL := he.toLe
  have hcp := l6Copy_eq (heL.mono (by omega : 5001 ≤ 1048576))
  have hok := specEntryOk_eq (heL.mono (by omega : 5001 ≤ 1048576))
  rw [enOk_iff.2 he] at hok
  have hap := l10Apart_eq hle (by have := he.len; omega : e.2.2.1.length ≤ 1048576)
  have hrow := specRowOk_eq hle
  rw [rowOk_iff.2 hl] at hrow
  have hloop : lp spec_RowPush_s122 (j, l, e, (), l, 0) = some (match bif j then plc l e.1 e.2.1 else none with | some k => .inl (l.set k (addE (l.getD k en0) e), true) | none => .inr (l, e, (), l)) := by
    cases j with
    | false =>
      have := lp_det (S := spec_RowPush_s122) (n := 0) (fun i => (false, l, e, (), l, (i : Int))) (by omega) (b := .inr (l, e, (), l)) (fun i hi => by omega) (by
        obtain ⟨e1, e2, e3, e4, e5, e6, e7, e8, e9, e10⟩ := e
        simp only [spec_RowPush_s122, lnn, Option.bind_some, cond_false]
        cases decide (((0 : Nat) : Int) < (l.length : Int)) <;> rfl)
      rw [cast0] at this
      rw [this]
      rfl
    | true =>
      have q := lp_find (S := spec_RowPush_s122) (t := .inr (l, e, (), l)) (fun i => (true, l, e, (), l, (i : Int))) hle.1 (fun i => isAt e.1 e.2.1 (l.getD i en0)) (fun k => .inl (l.set k (addE (l.getD k en0) e), true)) (fun i hi => by
        have hadd := l6Add_eq (hl.ens _ (getD_mem (d := en0) hi)) he
        generalize haa : addE (l.getD i en0) e = s at hadd ⊢
        obtain ⟨e1, e2, e3, e4, e5, e6, e7, e8, e9, e10⟩ := e
        obtain ⟨s1, s2, s3, s4, s5, s6, s7, s8, s9, s10⟩ := s
        simp only [spec_RowPush_s122, lnn, ltn hi, Option.bind_some, cond_true, ixn hi, lxn hi, gxn, sxn, wsucc (show i ≤ 1048576 by omega), isAt]
        generalize hx : l.getD i (0, 0, [], 0, 0, 0, 0, [], [], []) = x
        have hx' : l.getD i en0 = x := hx
        rw [hx'] at hadd
        obtain ⟨x1, x2, x3, x4, x5, x6, x7, x8, x9, x10⟩ := x
        simp only [hadd, Option.bind_some]
        cases x1 == e1 <;> cases x2 == e2 <;> rfl) (by
        obtain ⟨e1, e2, e3, e4, e5, e6, e7, e8, e9, e10⟩ := e
        simp only [spec_RowPush_s122, lnn, ltF, Option.bind_some, cond_false])
      rw [cast0] at q
      rw [q]
      simp only [cond_true, plc]
      rfl
  obtain ⟨e1, e2, e3, e4, e5, e6, e7, e8, e9, e10⟩ := e
  unfold pushM
  simp only at hcp hok hap hrow hloop ⊢
  simp only [spec_RowPush, l10Copy_eq hle, hrow, hok, hap, Option.bind_some, Bool.not_true, cond_false, hloop]
  cases apAll l e3 with
  | false => rfl
  | true =>
    simp only [Bool.not_true, cond_false, cond_true]
    cases hm : bif j then plc l e1 e2 else none with
    | some k => rfl
    | none =>
      simp only [bx_inr, lnn, hcp, Option.bind_some, beq_cond]
      by_cases hc : l.length = 24
      · rw [if_pos hc, if_pos (by omega)]
      · rw [if_neg hc, if_neg (by omega), fitsC (by simp; omega) (by omega)]

theorem setJoin_eq {a b : EnT} (ha : EnOk a) (hb : EnOk b) : impl_SetJoin (a.2.2.1, b.2.2.1) = some (nrm (a.2.2.1 ++ b.2.2.1), true) := by
  have la := ha.len
  have lb := hb.len
  simp only [impl_SetJoin, implSetOk_eq (show a.2.2.1.length ≤ 1048576 by omega), implSetOk_eq (show b.2.2.1.length ≤ 1048576 by omega), ha.set, hb.set, Option.bind_some, Bool.not_true, cond_false,
    copySet_eq (show a.2.2.1.length ≤ 1048576 by omega)]
  rw [fitsC (by omega) (by omega), union_eq (by simp; omega) (fun x hx => (List.mem_append.1 hx).elim (ha.sml x) (hb.sml x))]
  rfl

theorem entryAdd_eq {a b : EnT} (ha : EnOk a) (hb : EnOk b) (hk : isAt b.1 b.2.1 a = true) : impl_EntryAdd (a, b) = some (bif apS a.2.2.1 b.2.2.1 then (addE a b, true) else (en0, false)) := by
  have o1 := implEntryOk_eq (ha.toLe.mono (by omega : 5001 ≤ 1048576))
  have o2 := implEntryOk_eq (hb.toLe.mono (by omega : 5001 ≤ 1048576))
  rw [enOk_iff.2 ha] at o1
  rw [enOk_iff.2 hb] at o2
  have hj := setJoin_eq ha hb
  have hap := implApart_eq (a := a.2.2.1) (b := b.2.2.1) (by have := ha.len; omega) (by have := hb.len; omega)
  have hm := implMerge_eq ha.sk hb.sk
  obtain ⟨a1, a2, a3, a4, a5, a6, a7, a8, a9, a10⟩ := a
  obtain ⟨b1, b2, b3, b4, b5, b6, b7, b8, b9, b10⟩ := b
  simp only [isAt, Bool.and_eq_true, beq_iff_eq] at hk
  obtain ⟨rfl, rfl⟩ := hk
  unfold addE
  simp only at o1 o2 hj hap hm ⊢
  generalize mrg (a4, a5, a6, a7, a8, a9, a10) (b4, b5, b6, b7, b8, b9, b10) = s at hm ⊢
  obtain ⟨s1, s2, s3, s4, s5, s6, s7⟩ := s
  simp only [impl_EntryAdd, o1, o2, Option.bind_some, Bool.not_true, cond_false, bne_self_eq_false, hap, hj, hm]
  cases apS a3 b3 <;> rfl

theorem implPush_eq {l : List EnT} {e : EnT} {j : Bool} (hl : RowOk l) (he : EnOk e) : impl_RowPush (l, e, j) = some (pushM l e j) := by
  have hle := hl.toLe
  have h24 := hl.len
  have heL := he.toLe
  have hcp := copyEntry_eq (heL.mono (by omega : 5001 ≤ 1048576))
  have hok := implEntryOk_eq (heL.mono (by omega : 5001 ≤ 1048576))
  rw [enOk_iff.2 he] at hok
  have hrow := implRowOk_eq hle
  rw [rowOk_iff.2 hl] at hrow
  have hpl := placeOf_eq (k := e.1) (w := e.2.1) hle.1
  have hcr := copyRow_eq hle
  have happ : EnsLe 1048576 (l ++ [e]) := ⟨by simp; omega, fun x hx => by rcases List.mem_append.1 hx with hx | hx; exact hle.2 x hx; simp at hx; rw [hx]; exact heL.mono (by omega)⟩
  have happ1 := implRowOk_eq happ
  rw [app_rowOk hl he] at happ1
  have hs1 : ∀ k, k < l.length → apS (l.getD k en0).2.2.1 e.2.2.1 = true → impl_RowOk (l.set k (addE (l.getD k en0) e)) = some (apAll l e.2.2.1) := fun k hk ha => by
    rw [implRowOk_eq ⟨by simp; omega, fun x hx => ?_⟩, set_rowOk hl he hk ha]
    rcases List.mem_or_eq_of_mem_set hx with hx | rfl
    · exact hle.2 x hx
    · exact (addE_ok (hl.ens _ (getD_mem hk)) he).toLe.mono (by omega)
  have hadd : ∀ k, k < l.length → isAt e.1 e.2.1 (l.getD k en0) = true → impl_EntryAdd (l.getD k en0, e) = some (bif apS (l.getD k en0).2.2.1 e.2.2.1 then (addE (l.getD k en0) e, true) else (en0, false)) := fun k hk h =>
    entryAdd_eq (hl.ens _ (getD_mem hk)) he h
  have hnone : bx (impl_RowPush_l125 (l, e, (), l, (match plc l e.1 e.2.1 with | some i => (i : Int) | none => -1), false)) (fun (q, r) => some (q, r)) (fun (q, _, r) => (impl_RowOk r).bind fun s => bif !s then (impl_copyRow q).bind fun t => some (t, false) else some (r, true)) =
      some (bif apAll l e.2.2.1 then if l.length = 24 then (l, false) else (l ++ [e], true) else (l, false)) := by
    obtain ⟨e1, e2, e3, e4, e5, e6, e7, e8, e9, e10⟩ := e
    simp only at hcp happ1 ⊢
    simp only [impl_RowPush_l125, cond_false, hcp, Option.bind_some]
    rw [fitsC (by simp; omega) (by omega)]
    simp only [bx_inr, happ1, Option.bind_some, hcr]
    cases apAll l e3 with
    | false => rfl
    | true =>
      by_cases hc : l.length = 24
      · rw [dF (by omega), if_pos hc]; rfl
      · rw [dT hc, if_neg hc]; rfl
  have hsome : ∀ k, plc l e.1 e.2.1 = some k → bx (impl_RowPush_l125 (l, e, (), l, (k : Int), true)) (fun (q, r) => some (q, r)) (fun (q, _, r) => (impl_RowOk r).bind fun s => bif !s then (impl_copyRow q).bind fun t => some (t, false) else some (r, true)) =
      some (bif apAll l e.2.2.1 then (l.set k (addE (l.getD k en0) e), true) else (l, false)) := fun k hk0 => by
    obtain ⟨hk, hp⟩ := find_ok hk0
    clear hk0
    have hadd := hadd k hk hp
    have hs1 := hs1 k hk
    have hall : apAll l e.2.2.1 = true → apS (l.getD k en0).2.2.1 e.2.2.1 = true := fun h => (List.all_eq_true.1 h) _ (getD_mem (d := en0) hk)
    generalize addE (l.getD k en0) e = s at hadd hs1 ⊢
    generalize hap : apS (l.getD k en0).2.2.1 e.2.2.1 = b at hadd hs1 hall
    obtain ⟨e1, e2, e3, e4, e5, e6, e7, e8, e9, e10⟩ := e
    simp only at hs1 hall ⊢
    simp only [impl_RowPush_l125, cond_true, ixn hk, lxn hk, gxn, sxn, Option.bind_some]
    generalize hx : l.getD k (0, 0, [], 0, 0, 0, 0, [], [], []) = x
    have hx' : l.getD k en0 = x := hx
    rw [hx'] at hadd
    obtain ⟨x1, x2, x3, x4, x5, x6, x7, x8, x9, x10⟩ := x
    simp only [hadd, Option.bind_some]
    obtain ⟨s1, s2, s3, s4, s5, s6, s7, s8, s9, s10⟩ := s
    cases b with
    | false =>
      cases hq : apAll l e3 with
      | false => rfl
      | true => exact absurd (hall hq) (by simp)
    | true =>
      simp only [cond_true, Bool.not_true, cond_false, bx_inr, hs1 rfl, Option.bind_some, hcr]
      cases apAll l e3 <;> rfl
  obtain ⟨e1, e2, e3, e4, e5, e6, e7, e8, e9, e10⟩ := e
  unfold pushM
  simp only at hok hpl hnone hsome ⊢
  simp only [impl_RowPush, hrow, hok, hcr, hpl, Option.bind_some, Bool.not_true, cond_false]
  cases j with
  | false =>
    simp only [cond_false]
    exact hnone
  | true =>
    simp only [cond_true]
    cases hq : plc l e1 e2 with
    | none =>
      simp only [hq] at hnone ⊢
      exact hnone
    | some k =>
      simp only
      rw [dT (show (k : Int) ≥ 0 by omega)]
      exact hsome k hq

/-- A row joined. -/
def joinM (l : List EnT) : List EnT := bif rowOk l then l.foldl (fun r e => (pushM r e true).1) [] else l
theorem rowOk_nil : RowOk [] := ⟨by simp, fun e he => by simp at he, fun i k _ h => by simp at h⟩
theorem joinM_ok {l : List EnT} (h : RowOk l) : RowOk (joinM l) := by
  unfold joinM
  rw [rowOk_iff.2 h, cond_true]
  have : ∀ (q r : List EnT), EnsOk q → RowOk r → RowOk (q.foldl (fun r e => (pushM r e true).1) r) := by
    intro q
    induction q with
    | nil => intro r _ h; exact h
    | cons x q ih => intro r hq h; exact ih _ (fun e he => hq e (List.mem_cons_of_mem _ he)) (pushM_ok h (hq x List.mem_cons_self))
  exact this l [] h.ens rowOk_nil

theorem specJoinRow_eq {l : List EnT} (h : EnsLe 1048576 l) : spec_JoinRow l = some (joinM l) := by
  unfold joinM
  simp only [spec_JoinRow, specRowOk_eq h, Option.bind_some, l10Copy_eq h]
  cases hr : rowOk l with
  | false => rfl
  | true =>
    have hok := rowOk_iff.1 hr
    have q := lp_fold (S := spec_JoinRow_s122) l en0 (fun (r : List EnT) (i : Nat) => (l, (), r, (i : Int))) (fun r e => (pushM r e true).1) (fun r => ((), r)) (fun r i => RowOk r) h.1 (fun r i hi hI hm => by
      have hp := specPush_eq (j := true) hI (hok.ens _ hm)
      have hl := h.1
      refine ⟨?_, pushM_ok hI (hok.ens _ hm)⟩
      simp only [spec_JoinRow_s122, lnn, ltn hi, Option.bind_some, cond_true, ixn hi, gxn, wsucc (show i ≤ 1048576 by omega)]
      generalize hx : l.getD i (0, 0, [], 0, 0, 0, 0, [], [], []) = x
      have hx' : l.getD i en0 = x := hx
      rw [hx'] at hp
      obtain ⟨x1, x2, x3, x4, x5, x6, x7, x8, x9, x10⟩ := x
      simp only [hp, Option.bind_some]) (fun r hI => by simp only [spec_JoinRow_s122, lnn, ltF, Option.bind_some, cond_false]) rowOk_nil
    rw [cast0] at q
    simp only [Bool.not_true, cond_false, q, Option.bind_some, cond_true]

theorem implJoinRow_eq {l : List EnT} (h : EnsLe 1048576 l) : impl_JoinRow l = some (joinM l) := by
  unfold joinM
  simp only [impl_JoinRow, implRowOk_eq h, Option.bind_some, copyRow_eq h, lnn]
  cases hr : rowOk l with
  | false => rfl
  | true =>
    have hok := rowOk_iff.1 hr
    have q := lp_fold (S := impl_JoinRow_s122) l en0 (fun (r : List EnT) (i : Nat) => ((), r, l, (l.length : Int), (i : Int))) (fun r e => (pushM r e true).1) (fun r => ((), r)) (fun r i => RowOk r) h.1 (fun r i hi hI hm => by
      have hp := implPush_eq (j := true) hI (hok.ens _ hm)
      have hl := h.1
      refine ⟨?_, pushM_ok hI (hok.ens _ hm)⟩
      simp only [impl_JoinRow_s122, ltn hi, Option.bind_some, cond_true, ixn hi, gxn, wsucc (show i ≤ 1048576 by omega)]
      generalize hx : l.getD i (0, 0, [], 0, 0, 0, 0, [], [], []) = x
      have hx' : l.getD i en0 = x := hx
      rw [hx'] at hp
      obtain ⟨x1, x2, x3, x4, x5, x6, x7, x8, x9, x10⟩ := x
      simp only [hp, Option.bind_some]) (fun r hI => by simp only [impl_JoinRow_s122, ltF, Option.bind_some, cond_false]) rowOk_nil
    rw [cast0] at q
    simp only [Bool.not_true, cond_false, q, Option.bind_some, cond_true]

end Go.Proofs.YthchcnfkgjmabaaGreat.Tw
