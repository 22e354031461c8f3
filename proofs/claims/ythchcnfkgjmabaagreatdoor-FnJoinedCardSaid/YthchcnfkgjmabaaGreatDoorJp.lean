/- Plain: a row that is joined holds the sums by place, each once. No twins: lemmas. -/
import Derived.Test.YthchcnfkgjmabaaGreatDoorRp
namespace Go.Proofs.YthchcnfkgjmabaaGreatDoor.Tw
open Go.Mach
set_option linter.unusedVariables false
set_option linter.unusedSimpArgs false
set_option maxRecDepth 20000

theorem isAt_same {e z : EnT} : isAt e.1 e.2.1 z = true ↔ same z e := by simp [isAt, same]
theorem plc_none {l : List EnT} {e : EnT} (h : plc l e.1 e.2.1 = none) : ∀ z ∈ l, ¬ same z e := by
  unfold plc at h
  rw [List.find?_eq_none] at h
  intro z hz hs
  obtain ⟨i, hi, rfl⟩ := List.mem_iff_getElem.1 hz
  have := h i (List.mem_range.2 hi)
  rw [getD_get hi] at this
  exact this (isAt_same.2 hs)
theorem plc_some {l : List EnT} {e : EnT} {i : Nat} (h : plc l e.1 e.2.1 = some i) : i < l.length ∧ same (l.getD i en0) e := by
  unfold plc at h
  have h1 := List.find?_some h
  have h2 := List.mem_of_find?_eq_some h
  exact ⟨List.mem_range.1 h2, isAt_same.1 h1⟩

def stepJ (l : List EnT) (e : EnT) : List EnT := match plc l e.1 e.2.1 with
  | some k => l.set k (addE (l.getD k en0) e)
  | none => l ++ [e]
theorem push_step {r : List EnT} {e : EnT} (ha : apAll r e.2.2.1 = true) (hl : r.length < 24) : (pushM r e true).1 = stepJ r e := by
  unfold pushM stepJ
  rw [ha]
  simp only [cond_true]
  cases plc r e.1 e.2.1 with
  | some k => rfl
  | none => simp only; rw [if_neg (by omega)]
theorem set_split {α : Type} {l : List α} {i : Nat} (hi : i < l.length) (y : α) : l.set i y = l.take i ++ y :: l.drop (i + 1) := List.set_eq_take_append_cons_drop.trans (by rw [if_pos hi])
theorem self_split {α : Type} {l : List α} {i : Nat} (hi : i < l.length) (d : α) : l = l.take i ++ l.getD i d :: l.drop (i + 1) := by
  have := set_split hi (l.getD i d)
  rw [list_set_getD] at this
  exact this
theorem step_perm {r s : List EnT} {e : EnT} (hp : r.Perm s) (hs : s.Pairwise (fun a b => gtE b a)) : (stepJ r e).Perm (ins s e) := by
  unfold stepJ
  cases h : plc r e.1 e.2.1 with
  | none =>
    simp only
    have hn := plc_none h
    rw [ins_none fun z hz => hn z (hp.mem_iff.2 hz)]
    refine List.perm_append_singleton e r |>.trans ?_
    refine (hp.cons e).trans ?_
    refine List.Perm.trans ?_ List.perm_middle.symm
    rw [List.take_append_drop]
  | some i =>
    simp only
    obtain ⟨hi, hsm⟩ := plc_some h
    have hmem : r.getD i en0 ∈ s := hp.mem_iff.1 (getD_mem hi)
    obtain ⟨a, b, hab⟩ := List.append_of_mem hmem
    rw [hab, ins_some (by rw [← hab]; exact hs) hsm, set_split hi]
    have h1 : (r.getD i en0 :: (r.take i ++ r.drop (i + 1))).Perm (r.getD i en0 :: (a ++ b)) := by
      refine List.perm_middle.symm.trans ?_
      rw [← self_split hi en0]
      refine hp.trans ?_
      rw [hab]
      exact List.perm_middle
    have h2 := h1.cons_inv
    refine List.perm_middle.trans ?_
    refine ((h2.cons _).trans ?_)
    exact List.perm_middle.symm

/-- What a row joined so far has to do with the row. -/
structure Jn (esz : EnT → Nat) (r pre : List EnT) : Prop where
  perm : r.Perm (sumsM pre)
  has : ∀ n, (∃ z ∈ r, hasN z.2.2.1 n) ↔ ∃ y ∈ pre, hasN y.2.2.1 n
  len : r.length ≤ pre.length
  siz : sumL esz r ≤ sumL esz pre

theorem sumL_app {α : Type} {f : α → Nat} : ∀ {a b : List α}, sumL f (a ++ b) = sumL f a + sumL f b
  | [], b => by simp [sumL]
  | x :: a, b => by simp only [List.cons_append, sumL, sumL_app (a := a)]; omega

theorem step_has {r : List EnT} {e : EnT} (hr : EnsOk r) (he : EnOk e) (n : Int) : (∃ z ∈ stepJ r e, hasN z.2.2.1 n) ↔ (∃ z ∈ r, hasN z.2.2.1 n) ∨ hasN e.2.2.1 n := by
  unfold stepJ
  cases h : plc r e.1 e.2.1 with
  | none =>
    simp only [List.mem_append, List.mem_singleton]
    constructor
    · rintro ⟨z, hz | rfl, h1⟩
      · exact .inl ⟨z, hz, h1⟩
      · exact .inr h1
    · rintro (⟨z, hz, h1⟩ | h1)
      · exact ⟨z, .inl hz, h1⟩
      · exact ⟨e, .inr rfl, h1⟩
  | some i =>
    obtain ⟨hi, hsm⟩ := plc_some h
    simp only
    rw [set_split hi]
    have hz := hr _ (getD_mem (d := en0) hi)
    have hs : r = r.take i ++ r.getD i en0 :: r.drop (i + 1) := self_split hi en0
    have e1 : (∃ z ∈ r, hasN z.2.2.1 n) ↔ ∃ z ∈ r.take i ++ r.getD i en0 :: r.drop (i + 1), hasN z.2.2.1 n := by rw [← hs]
    rw [e1]
    simp only [List.mem_append, List.mem_cons]
    constructor
    · rintro ⟨z, h1 | rfl | h1, h2⟩
      · exact .inl ⟨z, .inl h1, h2⟩
      · rcases (addE_has hz he n).1 h2 with q | q
        · exact .inl ⟨_, .inr (.inl rfl), q⟩
        · exact .inr q
      · exact .inl ⟨z, .inr (.inr h1), h2⟩
    · rintro (⟨z, h1 | rfl | h1, h2⟩ | h2)
      · exact ⟨z, .inl h1, h2⟩
      · exact ⟨_, .inr (.inl rfl), (addE_has hz he n).2 (.inl h2)⟩
      · exact ⟨z, .inr (.inr h1), h2⟩
      · exact ⟨_, .inr (.inl rfl), (addE_has hz he n).2 (.inr h2)⟩

theorem step_siz {esz : EnT → Nat} {r : List EnT} {e : EnT} (hadd : ∀ a b, EnOk a → EnOk b → esz (addE a b) ≤ esz a + esz b) (hr : EnsOk r) (he : EnOk e) : sumL esz (stepJ r e) ≤ sumL esz r + esz e := by
  unfold stepJ
  cases h : plc r e.1 e.2.1 with
  | none => simp only [sumL_app, sumL]; omega
  | some i =>
    obtain ⟨hi, hsm⟩ := plc_some h
    simp only
    rw [set_split hi]
    have hz := hadd _ e (hr _ (getD_mem (d := en0) hi)) he
    have hs : sumL esz r = sumL esz (r.take i ++ r.getD i en0 :: r.drop (i + 1)) := by rw [← self_split hi en0]
    rw [hs, sumL_app, sumL_app]
    simp only [sumL]
    omega

theorem join_fold {esz : EnT → Nat} (hadd : ∀ a b, EnOk a → EnOk b → esz (addE a b) ≤ esz a + esz b) : ∀ (q pre r : List EnT), RowOk (pre ++ q) → Jn esz r pre → Jn esz (q.foldl (fun r e => (pushM r e true).1) r) (pre ++ q)
  | [], pre, r, h, hj => by simpa using hj
  | e :: q, pre, r, h, hj => by
    have he : EnOk e := h.ens e (by simp)
    have hpre : EnsOk pre := fun x hx => h.ens x (by simp [hx])
    have hro : EnsOk r := fun x hx => sumsM_ok hpre x (hj.perm.mem_iff.1 hx)
    have hlen := h.len
    simp only [List.length_append, List.length_cons] at hlen
    have hap : apAll r e.2.2.1 = true := (apAll_iff hro he).2 fun i hi n h1 h2 => by
      obtain ⟨y, hy, h3⟩ := (hj.has n).1 ⟨_, getD_mem (d := en0) hi, h1⟩
      obtain ⟨k, hk, rfl⟩ := List.mem_iff_getElem.1 hy
      have a1 : (pre ++ e :: q).getD k en0 = pre[k] := by simp [List.getD_eq_getElem?_getD, List.getElem?_append_left hk, hk]
      have a2 : (pre ++ e :: q).getD pre.length en0 = e := by simp [List.getD_eq_getElem?_getD]
      have := h.ne (i := k) (k := pre.length) (by simp; omega) (by simp) (by omega) n
      rw [a1, a2] at this
      exact this h3 h2
    have hst := push_step hap (by have := hj.len; omega)
    rw [List.foldl_cons, hst]
    have hj' : Jn esz (stepJ r e) (pre ++ [e]) := by
      refine ⟨?_, fun n => ?_, ?_, ?_⟩
      · rw [sumsM_snoc hpre he]
        exact step_perm hj.perm (sumsM_sorted hpre)
      · rw [step_has hro he, hj.has]
        simp only [List.mem_append, List.mem_singleton]
        constructor
        · rintro (⟨y, hy, h1⟩ | h1)
          · exact ⟨y, .inl hy, h1⟩
          · exact ⟨e, .inr rfl, h1⟩
        · rintro ⟨y, hy | rfl, h1⟩
          · exact .inl ⟨y, hy, h1⟩
          · exact .inr h1
      · have := hj.len
        unfold stepJ
        cases plc r e.1 e.2.1 <;> simp <;> omega
      · have := step_siz hadd hro he
        have := hj.siz
        rw [sumL_app]
        simp only [sumL]
        omega
    have := join_fold hadd q (pre ++ [e]) (stepJ r e) (by simpa using h) hj'
    simpa using this

theorem join_jn {esz : EnT → Nat} (hadd : ∀ a b, EnOk a → EnOk b → esz (addE a b) ≤ esz a + esz b) {l : List EnT} (h : RowOk l) : Jn esz (joinM l) l := by
  have hj0 : Jn esz [] [] := ⟨by rw [show sumsM [] = [] from by decide +kernel], fun n => by simp, Nat.le_refl _, Nat.le_refl _⟩
  have := join_fold hadd l [] [] (by simpa using h) hj0
  unfold joinM
  rw [rowOk_iff.2 h]
  simpa using this

/-- Of a row that is joined no two entries lie at one place. -/
theorem join_apart {l : List EnT} (h : RowOk l) : (joinM l).Pairwise (fun a b => ¬ same a b) := by
  have hj := join_jn (esz := fun _ => 0) (fun _ _ _ _ => by omega) h
  have hs : (sumsM l).Pairwise (fun a b => ¬ same a b) := (sumsM_sorted h.ens).imp fun {a b} q => by unfold gtE at q; unfold same; omega
  refine hj.perm.symm.pairwise hs fun {a b} q => ?_
  unfold same at q ⊢
  omega

theorem filter_one {r : List EnT} (ha : r.Pairwise (fun a b => ¬ same a b)) (k w : Int) : (r.filter (isAt k w)).length ≤ 1 := by
  have h1 := ha.sublist (List.filter_sublist (p := isAt k w) (l := r))
  cases hq : r.filter (isAt k w) with
  | nil => simp
  | cons a q =>
    cases q with
    | nil => simp
    | cons b q =>
      exfalso
      rw [hq] at h1
      have h2 := (List.pairwise_cons.1 h1).1 b (by simp)
      have ma : a ∈ r.filter (isAt k w) := by rw [hq]; simp
      have mb : b ∈ r.filter (isAt k w) := by rw [hq]; simp
      have ia := (List.mem_filter.1 ma).2
      have ib := (List.mem_filter.1 mb).2
      simp only [isAt, Bool.and_eq_true, beq_iff_eq] at ia ib
      exact h2 ⟨by omega, by omega⟩
/-- The sums of what is joined. -/
theorem totO_perm {r s : List EnT} (hp : r.Perm s) (ha : r.Pairwise (fun a b => ¬ same a b)) (k w : Int) : totO r k w = totO s k w := by
  have hf := hp.filter (isAt k w)
  unfold totO
  have hone := filter_one ha k w
  have heq : r.filter (isAt k w) = s.filter (isAt k w) := by
    cases hq : r.filter (isAt k w) with
    | nil => rw [hq] at hf; exact (List.nil_perm.1 hf).symm
    | cons a q =>
      rw [hq] at hone hf
      simp only [List.length_cons] at hone
      have : q = [] := List.eq_nil_of_length_eq_zero (by omega)
      subst this
      exact (List.perm_singleton.1 hf.symm).symm
  rw [heq]
theorem sumsM_ext {r s : List EnT} (h : ∀ k w, totO r k w = totO s k w) : sumsM r = sumsM s := by
  unfold sumsM
  rw [sumsTo_pos, sumsTo_pos]
  congr 1
  funext p
  exact h p.1 p.2
theorem sums_apart {l : List EnT} (h : EnsOk l) : (sumsM l).Pairwise (fun a b => ¬ same a b) := (sumsM_sorted h).imp fun {a b} q => by unfold gtE at q; unfold same; omega
/-- Sums of sums. -/
theorem totO_sums {l : List EnT} (h : EnsOk l) (k w : Int) : totO (sumsM l) k w = totO l k w := by
  have hat : ∀ z ∈ (sumsM l).filter (isAt k w), totO l k w = some z := by
    intro z hz
    obtain ⟨h1, h2⟩ := List.mem_filter.1 hz
    obtain ⟨p, hp⟩ := sumsM_mem h1
    obtain ⟨_, p1, p2⟩ := totO_ok h hp
    simp only [isAt, Bool.and_eq_true, beq_iff_eq] at h2
    rw [← h2.1, ← h2.2, p1, p2]
    exact hp
  cases hq : totO l k w with
  | none =>
    have : (sumsM l).filter (isAt k w) = [] := List.eq_nil_iff_forall_not_mem.2 fun z hz => by have := hat z hz; rw [hq] at this; cases this
    unfold totO
    rw [this]
  | some t =>
    obtain ⟨t0, t1, t2⟩ := totO_ok h hq
    have hm : t ∈ sumsM l := by
      unfold sumsM
      rw [sumsTo_pos]
      exact List.mem_filterMap.2 ⟨(t.1, t.2.1), mem_pos t0, by simp only [t1, t2]; exact hq⟩
    have hmf : t ∈ (sumsM l).filter (isAt k w) := List.mem_filter.2 ⟨hm, by simp [isAt, t1, t2]⟩
    have hone := filter_one (sums_apart h) k w
    unfold totO
    cases hf : (sumsM l).filter (isAt k w) with
    | nil => rw [hf] at hmf; simp at hmf
    | cons a q =>
      rw [hf] at hone hmf
      simp only [List.length_cons] at hone
      have : q = [] := List.eq_nil_of_length_eq_zero (by omega)
      subst this
      obtain rfl := List.mem_singleton.1 hmf
      simp only [tot_one t0]
theorem sums_join {l : List EnT} (h : RowOk l) : sumsM (joinM l) = sumsM l := by
  have hj := join_jn (esz := fun _ => 0) (fun _ _ _ _ => by omega) h
  exact sumsM_ext fun k w => (totO_perm hj.perm (join_apart h) k w).trans (totO_sums h.ens k w)
theorem join_len {l : List EnT} (h : RowOk l) : (joinM l).length = (sumsM l).length := (join_jn (esz := fun _ => 0) (fun _ _ _ _ => by omega) h).perm.length_eq
/-- Joined again it is as it was. -/
theorem join_join {l : List EnT} (h : RowOk l) : joinM (joinM l) = joinM l := by
  have hx := joinM_ok h
  have ha := join_apart h
  generalize joinM l = x at hx ha
  have key : ∀ q pre : List EnT, pre ++ q = x → q.foldl (fun r e => (pushM r e true).1) pre = pre ++ q := by
    intro q
    induction q with
    | nil => intro pre _; simp
    | cons e q ih =>
      intro pre hp
      have he : EnOk e := hx.ens e (by rw [← hp]; simp)
      have hpre : EnsOk pre := fun y hy => hx.ens y (by rw [← hp]; simp [hy])
      have hlen := hx.len
      rw [← hp] at hlen
      simp only [List.length_append, List.length_cons] at hlen
      have hap : apAll pre e.2.2.1 = true := (apAll_iff hpre he).2 fun k hk n h3 h2 => by
        have a1 : x.getD k en0 = pre.getD k en0 := by rw [← hp]; simp [List.getD_eq_getElem?_getD, List.getElem?_append_left hk]
        have a2 : x.getD pre.length en0 = e := by rw [← hp]; simp [List.getD_eq_getElem?_getD]
        have := hx.ne (i := k) (k := pre.length) (by rw [← hp]; simp; omega) (by rw [← hp]; simp) (by omega) n
        rw [a1, a2] at this
        exact this h3 h2
      have hst : stepJ pre e = pre ++ [e] := by
        unfold stepJ
        cases hq : plc pre e.1 e.2.1 with
        | none => rfl
        | some i =>
          exfalso
          obtain ⟨hi, hsm⟩ := plc_some hq
          rw [← hp] at ha
          exact (List.pairwise_append.1 ha).2.2 _ (getD_mem hi) e (by simp) hsm
      rw [List.foldl_cons, push_step hap (by omega), hst, ih (pre ++ [e]) (by simpa using hp)]
      simp
  have := key x [] rfl
  unfold joinM
  rw [rowOk_iff.2 hx]
  simpa using this
theorem ids_join {l : List EnT} (h : RowOk l) (n : Int) : (∃ z ∈ joinM l, hasN z.2.2.1 n) ↔ ∃ y ∈ l, hasN y.2.2.1 n := (join_jn (esz := fun _ => 0) (fun _ _ _ _ => by omega) h).has n
theorem siz_join {esz : EnT → Nat} (hadd : ∀ a b, EnOk a → EnOk b → esz (addE a b) ≤ esz a + esz b) {l : List EnT} (h : RowOk l) : sumL esz (joinM l) ≤ sumL esz l := (join_jn hadd h).siz

end Go.Proofs.YthchcnfkgjmabaaGreatDoor.Tw
