/- Plain: FnJoined: joined rows come to the same, with no more entries and no more size. No condition: lemmas. -/
import Derived.Test.YthchcnfkgjmabaaGreatDoorDr
import Derived.Test.YthchcnfkgjmabaaGreatDoorPs
import Derived.Test.YthchcnfkgjmabaaGreatDoorSi
import Derived.Test.YthchcnfkgjmabaaGreatDoorJz
import Derived.Test.YthchcnfkgjmabaaGreatDoorPu
namespace Go.Proofs.YthchcnfkgjmabaaGreatDoor.Tw
open Go.Mach
set_option linter.unusedVariables false
set_option linter.unusedSimpArgs false
set_option maxRecDepth 20000

theorem EnsLe.mono {a b : Nat} {l : List EnT} (h : EnsLe a l) (hab : a ≤ b) : EnsLe b l := ⟨by have := h.1; omega, fun e he => (h.2 e he).mono hab⟩

theorem RowOk.flatLen {l : List EnT} (h : RowOk l) : (flat l).length ≤ 1048576 := by
  have key : ∀ (l : List EnT), EnsOk l → (flat l).length ≤ 5001 * l.length := by
    intro l
    induction l with
    | nil => intro _; simp [flat]
    | cons e r ih =>
      intro h
      have h1 := (h e (by simp)).len
      have h2 := ih fun x hx => h x (by simp [hx])
      simp only [flat, List.length_append, List.length_cons]
      omega
  have := key l h.ens
  have := h.len
  omega

theorem rowSum_ok {l : List EnT} (h : RowOk l) : impl_RowSum l = some (sumsM l) := by
  have hr : rowOk l = true := rowOk_iff.2 h
  simp only [impl_RowSum, implRowOk_eq h.toLe, hr, Option.bind_some, Bool.not_true, cond_false, sums_eq h.ens (by have := h.len; omega) h.flatLen]

/-! ### sizes -/
theorem flatten_go : ∀ (g : List (List Int)) (a : List Int), g.foldl (fun a r => a ++ r) a = a ++ g.flatten
  | [], a => by simp
  | r :: g, a => by rw [List.foldl_cons, flatten_go g, List.flatten_cons, List.append_assoc]

theorem counts_ok {s : SkT} (h : SkOk s) : impl_counts s = some (cnts s) := by
  have hle := h.toLe
  obtain ⟨a, b, c, d, e, f, g⟩ := s
  obtain ⟨h1, h2, h3, h4⟩ := hle
  simp only at h1 h2 h3 h4
  have q := lp_fold (S := impl_counts_s58) g [] (fun acc i => (acc, g, (g.length : Int), (i : Int))) (fun acc r => acc ++ r) (fun acc => acc) (fun acc i => acc.length ≤ 16 + 8 * i) (by omega) (fun acc i hi hI hm => by
    have hr := h4 _ hm
    simp only [impl_counts_s58, ltn hi, cond_true, ixn hi, gxn, wsucc (show i ≤ 1048576 by omega)]
    rw [fitsC (by omega) (by omega)]
    exact ⟨rfl, by simp only [List.length_append]; omega⟩) (fun acc hI => by simp only [impl_counts_s58, ltF, cond_false]) (a0 := e ++ f) (by simp only [List.length_append]; omega)
  rw [cast0] at q
  simp only [impl_counts, copyInts_eq (show e.length ≤ 1048576 by omega), Option.bind_some, lnn]
  rw [fitsC (by omega) (by omega), q, flatten_go]
  rfl

theorem pos_go : ∀ (l : List Int) (c : Int), l.foldl (fun c x => bif decide (x > 0) then c + 1 else c) c = c + (pos l : Int)
  | [], c => by simp [pos]
  | x :: l, c => by
    rw [List.foldl_cons, pos_go l]
    unfold pos
    rw [List.countP_cons]
    by_cases hx : x > 0
    · simp [hx]; omega
    · simp [hx]

theorem cnts_len {s : SkT} (h : SkOk s) : (cnts s).length ≤ 100 := by
  have hle := h.toLe
  obtain ⟨h1, h2, h3, h4⟩ := hle
  have key : ∀ g : List (List Int), (∀ r ∈ g, r.length ≤ 8) → g.flatten.length ≤ 8 * g.length := by
    intro g
    induction g with
    | nil => intro _; simp
    | cons r g ih =>
      intro h
      have := h r (by simp)
      have := ih fun x hx => h x (by simp [hx])
      simp only [List.flatten_cons, List.length_append, List.length_cons]
      omega
  have := key _ h4
  simp only [cnts, List.length_append]
  omega

theorem pos_le (l : List Int) : pos l ≤ l.length := List.countP_le_length

theorem entSize_ok {e : EnT} (h : EnOk e) : impl_EntrySize e = some (esz e : Int) := by
  have hle := h.toLe.mono (b := 1048576) (by omega)
  have hok := implEntryOk_eq hle
  have hlen := h.len
  have hc := counts_ok h.sk
  have hcl := cnts_len h.sk
  have hpos := pos_le (cnts e.2.2.2)
  have he : enOk e = true := enOk_iff.2 h
  obtain ⟨x1, x2, x3, x4, x5, x6, x7, x8, x9, x10⟩ := e
  simp only at hlen hc hcl hpos
  have q := lp_fold (S := impl_EntrySize_s122) (cnts (x4, x5, x6, x7, x8, x9, x10)) 0 (fun c i => (c, cnts (x4, x5, x6, x7, x8, x9, x10), ((cnts (x4, x5, x6, x7, x8, x9, x10)).length : Int), (i : Int))) (fun c x => bif decide (x > 0) then c + 1 else c) (fun c => c) (fun c i => 0 ≤ c ∧ c ≤ 20000 + (i : Int)) (by omega) (fun c i hi hI hm => by
    simp only [impl_EntrySize_s122, ltn hi, cond_true, ixn hi, lxn hi, gxn, wsucc (show i ≤ 1048576 by omega), w64_ok (n := c + 1) (by omega) (by omega)]
    cases decide ((cnts (x4, x5, x6, x7, x8, x9, x10)).getD i 0 > 0) <;> refine ⟨rfl, ?_⟩ <;> simp <;> omega) (fun c hI => by simp only [impl_EntrySize_s122, ltF, cond_false]) (a0 := 4 + 2 * (x3.length : Int)) (by omega)
  rw [cast0] at q
  simp only [impl_EntrySize, hok, he, Option.bind_some, Bool.not_true, cond_false, hc, lnn]
  rw [w64_ok (n := 2 * (x3.length : Int)) (by omega) (by omega), w64_ok (n := 4 + 2 * (x3.length : Int)) (by omega) (by omega), q, pos_go]
  simp only [Option.bind_some, esz]
  congr 1
  try omega

theorem esz_le {e : EnT} (h : EnOk e) : esz e ≤ 20000 := by
  have h1 := h.len
  have h2 := cnts_len h.sk
  have h3 := pos_le (cnts e.2.2.2)
  unfold esz
  omega

theorem sumZ_go : ∀ (l : List EnT) (c : Int), l.foldl (fun c e => c + (esz e : Int)) c = c + (sumL esz l : Int)
  | [], c => by simp [sumL]
  | e :: l, c => by rw [List.foldl_cons, sumZ_go l]; simp only [sumL]; omega

theorem rowSize_ok {l : List EnT} (h : RowOk l) : impl_RowSize l = some (sumL esz l : Int) := by
  have hr : rowOk l = true := rowOk_iff.2 h
  have hlen := h.len
  have q := lp_fold (S := impl_RowSize_s122) l en0 (fun c i => (c, l, (l.length : Int), (i : Int))) (fun c e => c + (esz e : Int)) (fun c => c) (fun c i => 0 ≤ c ∧ c ≤ 20000 * (i : Int)) (by omega) (fun c i hi hI hm => by
    have he := h.ens _ hm
    have hz := entSize_ok he
    have hb := esz_le he
    simp only [impl_RowSize_s122, ltn hi, cond_true, ixn hi, gxn, Option.bind_some]
    generalize l.getD i en0 = z at hz hb
    obtain ⟨x1, x2, x3, x4, x5, x6, x7, x8, x9, x10⟩ := z
    simp only [hz, Option.bind_some, wsucc (show i ≤ 1048576 by omega)]
    rw [w64_ok (by omega) (by omega)]
    exact ⟨rfl, by omega, by omega⟩) (fun c hI => by simp only [impl_RowSize_s122, ltF, cond_false]) (a0 := 0) (by simp)
  rw [cast0] at q
  simp only [impl_RowSize, implRowOk_eq h.toLe, hr, Option.bind_some, Bool.not_true, cond_false, lnn, q, sumZ_go, Int.zero_add]

/-! ### ids -/
theorem flat_has : ∀ {l : List EnT} {n : Int}, hasN (flat l) n ↔ ∃ z ∈ l, hasN z.2.2.1 n
  | [], n => by simp [flat, hasN]
  | e :: l, n => by
    have ih := flat_has (l := l) (n := n)
    have ha : hasN (flat (e :: l)) n ↔ hasN e.2.2.1 n ∨ hasN (flat l) n := by
      simp only [flat, hasN, List.mem_append]
      constructor
      · rintro ⟨x, hx | hx, h⟩
        · exact .inl ⟨x, hx, h⟩
        · exact .inr ⟨x, hx, h⟩
      · rintro (⟨x, hx, h⟩ | ⟨x, hx, h⟩)
        · exact ⟨x, .inl hx, h⟩
        · exact ⟨x, .inr hx, h⟩
    rw [ha, ih]
    simp only [List.mem_cons]
    constructor
    · rintro (h | ⟨z, hz, h⟩)
      · exact ⟨e, .inl rfl, h⟩
      · exact ⟨z, .inr hz, h⟩
    · rintro ⟨z, rfl | hz, h⟩
      · exact .inl h
      · exact .inr ⟨z, hz, h⟩

theorem rowIds_ok {l : List EnT} (h : RowOk l) : impl_RowIds l = some (nrm (flat l)) := by
  have hr : rowOk l = true := rowOk_iff.2 h
  simp only [impl_RowIds, implRowOk_eq h.toLe, hr, Option.bind_some, Bool.not_true, cond_false, idsOf_eq h.ens (by have := h.len; omega) h.flatLen]

theorem ids_same {l : List EnT} (h : RowOk l) : nrm (flat (joinM l)) = nrm (flat l) := by
  have hx := joinM_ok h
  have h1 := nrm_ok (l := flat l) fun x hm => (flat_rng h.ens x hm).1
  refine nrm_uniq (fun x hm => (flat_rng hx.ens x hm).1) h1.1 fun n => ?_
  rw [h1.2, flat_has, flat_has]
  exact (ids_join h n).symm

theorem ids_text {l : List EnT} (h : RowOk l) : impl_SetText (nrm (flat l)) = some (setT (nrm (flat l))) := by
  refine implSetText_eq ?_ fun x hx => ?_
  · have := nrm_length (flat l)
    have := h.flatLen
    omega
  · have h1 := nrm_rng (a := flat l) (lo := 0) (hi := 9999) (fun x hm => flat_rng h.ens x hm) x hx
    have h2 := (nrm_ok (l := flat l) fun x hm => (flat_rng h.ens x hm).1).1.mem x hx
    exact ⟨⟨h1.1, by omega⟩, by omega, h1.2⟩

/-! ### the law -/
theorem join_le {l : List EnT} (h : EnsLe 1048576 l) : EnsLe 1048576 (joinM l) := by
  cases hr : rowOk l with
  | true => exact (joinM_ok (rowOk_iff.1 hr)).toLe
  | false =>
    unfold joinM
    rw [hr]
    exact h

theorem tot_loop {l x t : List EnT} (h : EnsLe 1048576 t) : lp laws_FnJoined_s8186 (l, x, t, t, 0) = some (.inr (l, x)) := by
  refine lp_det (fun i => (l, x, t, t, (i : Int))) (n := t.length) h.1 (fun i hi => ?_) (by simp only [laws_FnJoined_s8186, lnn, ltF, Option.bind_some, cond_false])
  have hE := entEq_eq (h.2 _ (getD_mem (d := en0) hi))
  simp only [laws_FnJoined_s8186, lnn, ltn hi, Option.bind_some, cond_true, ixn hi, lxn hi, gxn]
  generalize t.getD i en0 = z at hE
  obtain ⟨z1, z2, z3, z4, z5, z6, z7, z8, z9, z10⟩ := z
  simp only [hE, Option.bind_some, Bool.not_true, cond_false, wsucc (show i ≤ 1048576 by have := h.1; omega)]

theorem drawJoin_ok {a : List Int} (h : a.length ≤ 1048576) : ∃ l, spec_DrawJoinRow a = some l ∧ EnsLe 5001 l := by
  obtain ⟨⟨b, c, d⟩, e0, g0⟩ := l1New_ok h
  obtain ⟨l, ⟨b1, c1, d1⟩, e1, hl, g1⟩ := draw10_ok g0
  simp only [spec_DrawJoinRow, e0, e1, Option.bind_some]
  exact ⟨_, rfl, hl⟩

/-- The law's twin answers true. -/
theorem law_joined (a : List Int) : laws_FnJoined a = some true := by
  simp only [laws_FnJoined, laws_big, Option.bind_some, lnn, bif_dec]
  split
  · rfl
  · rename_i ha
    obtain ⟨l, e0, hl⟩ := drawJoin_ok (a := a) (by omega)
    have hle := hl.mono (b := 1048576) (by omega)
    simp only [e0, Option.bind_some, implJoinRow_eq hle, specJoinRow_eq hle, rowSame_eq (join_le hle), Bool.not_true, cond_false, specRowOk_eq hle]
    cases hr : rowOk l with
    | false =>
      have hj : joinM l = l := by
        unfold joinM
        rw [hr]
        rfl
      simp only [Bool.not_false, cond_true, hj, rowSame_eq hle, Option.bind_some, impl_RowSize, implRowOk_eq hle, hr]
      rfl
    | true =>
      have h := rowOk_iff.1 hr
      have hx := joinM_ok h
      have hS := sums_join h
      have hlen := join_len h
      have hsl : EnsLe 1048576 (sumsM l) := ⟨by have := sumsM_length l; omega, fun e he => ((sumsM_ok h.ens) e he).toLe.mono (by omega)⟩
      have hxr : rowOk (joinM l) = true := rowOk_iff.2 hx
      have hsiz := siz_join esz_add h
      have hd : (((joinM l).length : Int) != ((sumsM l).length : Int)) = false := by rw [hlen]; simp
      simp only [Bool.not_true, cond_false, rowSum_ok h, rowSum_ok hx, hS, Option.bind_some, bne_self_eq_false, hd, tot_loop hsl, bx_inr, implRowOk_eq hx.toLe, hxr, cond_true, rowIds_ok h, rowIds_ok hx, ids_same h, ids_text h, beq_self_eq_true, rowSize_ok h, rowSize_ok hx,
        dT (show (sumL esz (joinM l) : Int) ≤ (sumL esz l : Int) by omega), implJoinRow_eq hx.toLe, join_join h, rowSame_eq hx.toLe]
      exact if_pos (by omega)

end Go.Proofs.YthchcnfkgjmabaaGreatDoor.Tw
