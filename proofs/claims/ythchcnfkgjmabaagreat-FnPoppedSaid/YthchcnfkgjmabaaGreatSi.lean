/- Plain: the program's sums, as the model has them. No condition: lemmas. -/
import Derived.Test.YthchcnfkgjmabaaGreatRp
namespace Go.Proofs.YthchcnfkgjmabaaGreat.Tw
open Go.Mach
set_option linter.unusedVariables false
set_option linter.unusedSimpArgs false
set_option maxRecDepth 20000

theorem of_eq {l : List EnT} {k w : Int} (hn : l.length ≤ 1048576) : impl_of (l, k, w) = some (l.filter (isAt k w)) := by
  have h := lp_det (S := impl_of_s58) (fun i => (k, w, (l.take i).filter (isAt k w), l, (l.length : Int), (i : Int))) hn (b := l.filter (isAt k w)) (fun i hi => by
    have hlen : ((l.take i).filter (isAt k w)).length ≤ i := Nat.le_trans (List.length_filter_le _ _) (by simp; omega)
    simp only [impl_of_s58, ltn hi, cond_true, ixn hi, gxn, Option.bind_some, wsucc (show i ≤ 1048576 by omega)]
    rw [take_snoc en0 hi, List.filter_append]
    generalize hx : l.getD i (0, 0, [], 0, 0, 0, 0, [], [], []) = x
    have hx' : l.getD i en0 = x := hx
    obtain ⟨x1, x2, x3, x4, x5, x6, x7, x8, x9, x10⟩ := x
    simp only [beq_cond]
    by_cases h1 : x1 = k
    · rw [if_pos h1]
      by_cases h2 : x2 = w
      · have : isAt k w (x1, x2, x3, x4, x5, x6, x7, x8, x9, x10) = true := by simp [isAt, h1, h2]
        rw [if_pos h2, List.filter_cons_of_pos this, List.filter_nil, fitsC (by simp; omega) (by omega)]
      · have : isAt k w (x1, x2, x3, x4, x5, x6, x7, x8, x9, x10) = false := by simp [isAt, h2]
        rw [if_neg h2, List.filter_cons_of_neg (by rw [this]; simp), List.filter_nil, List.append_nil]
    · have : isAt k w (x1, x2, x3, x4, x5, x6, x7, x8, x9, x10) = false := by simp [isAt, h1]
      rw [if_neg h1, List.filter_cons_of_neg (by rw [this]; simp), List.filter_nil, List.append_nil]) (by
    simp only [impl_of_s58, ltF, cond_false, List.take_length])
  rw [cast0, List.take_zero, List.filter_nil] at h
  simp only [impl_of, lnn, h, Option.bind_some]

theorem flat_take_le {l : List EnT} (i : Nat) : (flat (l.take i)).length ≤ (flat l).length := by
  have : flat l = flat (l.take i) ++ flat (l.drop i) := by rw [← flat_app, List.take_append_drop]
  rw [this]; simp
theorem flat_one {e : EnT} : flat [e] = e.2.2.1 := by simp [flat]

theorem idsOf_eq {l : List EnT} (hl : EnsOk l) (hn : l.length ≤ 1048576) (hf : (flat l).length ≤ 1048576) : impl_idsOf l = some (nrm (flat l)) := by
  have h := lp_det (S := impl_idsOf_s58) (fun i => (flat (l.take i), l, (l.length : Int), (i : Int))) hn (b := flat l) (fun i hi => by
    have h1 := flat_take_le (l := l) (i + 1)
    simp only [impl_idsOf_s58, ltn hi, cond_true, ixn hi, gxn, Option.bind_some, wsucc (show i ≤ 1048576 by omega)]
    rw [take_snoc en0 hi, flat_app, flat_one] at h1 ⊢
    rw [List.length_append] at h1
    generalize hx : l.getD i (0, 0, [], 0, 0, 0, 0, [], [], []) = x
    have hx' : l.getD i en0 = x := hx
    rw [hx'] at h1
    obtain ⟨x1, x2, x3, x4, x5, x6, x7, x8, x9, x10⟩ := x
    simp only at h1 ⊢
    rw [fitsC (by omega) (by omega)]) (by
    simp only [impl_idsOf_s58, ltF, cond_false, List.take_length])
  have e : flat (l.take 0) = [] := rfl
  rw [cast0, e] at h
  simp only [impl_idsOf, lnn, h, Option.bind_some, union_eq hf (fun x hx => ⟨(flat_rng hl x hx).1, (flat_rng hl x hx).2.1, by have := (flat_rng hl x hx).2.2; omega⟩)]

theorem total_eq {e : EnT} {r : List EnT} (h : EnsOk (e :: r)) (hn : (e :: r).length ≤ 1048576) (hf : (flat (e :: r)).length ≤ 1048576) : impl_total (e :: r) = some (tot e r) := by
  have he := h e List.mem_cons_self
  have hr : EnsOk r := fun x hx => h x (List.mem_cons_of_mem _ hx)
  have hids := idsOf_eq h hn hf
  have hcp := copyEntry_eq (he.toLe.mono (by omega : 5001 ≤ 1048576))
  have hrl : r.length ≤ 1048576 := by simp at hn; omega
  obtain ⟨e1, e2, e3, s⟩ := e
  have hl := lp_det (S := impl_total_s58) (fun i => ((e1, e2, e3, s) :: r, (0, 0, (), 0, 0, 0, 0, (), (), ()), (e1, e2, e3, msk s (r.take i)), r, (r.length : Int), (i : Int))) hrl
    (b := ((e1, e2, e3, s) :: r, (0, 0, (), 0, 0, 0, 0, (), (), ()), e1, e2, e3, msk s r)) (fun i hi => by
      have hm := implMerge_eq (msk_ok (l := r.take i) he.sk fun x hx => hr x (List.mem_of_mem_take hx)) (hr _ (getD_mem (d := en0) hi)).sk
      simp only [impl_total_s58, ltn hi, cond_true, ixn hi, gxn, Option.bind_some, wsucc (show i ≤ 1048576 by omega)]
      rw [take_snoc en0 hi, msk_snoc]
      generalize hx : r.getD i (0, 0, [], 0, 0, 0, 0, [], [], []) = x
      have hx' : r.getD i en0 = x := hx
      rw [hx'] at hm
      obtain ⟨x1, x2, x3, x4, x5, x6, x7, x8, x9, x10⟩ := x
      simp only at hm ⊢
      generalize msk s (r.take i) = q at hm ⊢
      obtain ⟨q1, q2, q3, q4, q5, q6, q7⟩ := q
      simp only [hm, Option.bind_some]) (by
      simp only [impl_total_s58, ltF, cond_false, List.take_length])
  have e0 : msk s (r.take 0) = s := rfl
  rw [cast0, e0] at hl
  obtain ⟨s1, s2, s3, s4, s5, s6, s7⟩ := s
  have hg : List.getD ((e1, e2, e3, s1, s2, s3, s4, s5, s6, s7) :: r) 0 (0, 0, [], 0, 0, 0, 0, [], [], []) = (e1, e2, e3, s1, s2, s3, s4, s5, s6, s7) := rfl
  have hd : List.drop 1 ((e1, e2, e3, s1, s2, s3, s4, s5, s6, s7) :: r) = r := rfl
  simp only [impl_total, hg, Option.bind_some, hcp, hd, lnn]
  rw [chkD (by simp), chkD (by simp)]
  rw [hl]
  simp only [Option.bind_some, hids]
  rfl

theorem flat_filter_le {l : List EnT} (p : EnT → Bool) : (flat (l.filter p)).length ≤ (flat l).length := by
  induction l with
  | nil => simp
  | cons x r ih =>
    rw [List.filter_cons]
    split
    · simp only [flat, List.length_append]; omega
    · simp only [flat, List.length_append]; omega

theorem totO_prog {l : List EnT} (hl : EnsOk l) (hn : l.length ≤ 1048576) (hf : (flat l).length ≤ 1048576) (k w : Int) :
    ∀ {β : Type} (F : EnT → Option β) (z : Option β), ((impl_of (l, k, w)).bind fun e => bif decide (ln e > 0) then (impl_total e).bind F else z) = match totO l k w with | none => z | some t => F t := by
  intro β F z
  rw [of_eq hn, Option.bind_some, lnn]
  unfold totO
  cases h : l.filter (isAt k w) with
  | nil => simp
  | cons e r =>
    have hm : EnsOk (e :: r) := fun x hx => hl x (List.mem_filter.1 (by rw [h]; exact hx)).1
    have h1 : (e :: r).length ≤ 1048576 := by rw [← h]; exact Nat.le_trans (List.length_filter_le _ _) hn
    have h2 : (flat (e :: r)).length ≤ 1048576 := by rw [← h]; exact Nat.le_trans (flat_filter_le _) hf
    rw [dT (by simp <;> omega), cond_true, total_eq hm h1 h2]
    rfl

theorem sums_eq {l : List EnT} (hl : EnsOk l) (hn : l.length ≤ 1048576) (hf : (flat l).length ≤ 1048576) : impl_sums l = some (sumsM l) := by
  have inner : ∀ (b : List EnT) (k : Int), b.length ≤ 1000 → lp impl_sums_s3730 (l, b, k, 0) = some (l, b ++ rowF l k 21, k) := by
    intro b k hb
    have h := lp_det (S := impl_sums_s3730) (n := 21) (fun i => (l, b ++ rowF l k i, k, (i : Int))) (by omega) (b := (l, b ++ rowF l k 21, k)) (fun i hi => by
      have hlen := rowF_length l k i
      simp only [impl_sums_s3730, dT (show (i : Int) ≤ 20 by omega), cond_true, wsucc (show i ≤ 1048576 by omega), Option.bind_some]
      rw [totO_prog hl hn hf k (i : Int)]
      simp only [rowF]
      cases hq : totO l k (i : Int) with
      | none => simp
      | some t =>
        obtain ⟨t1, t2, t3, t4, t5, t6, t7, t8, t9, t10⟩ := t
        simp only
        rw [fitsC (by simp; omega) (by omega)]
        simp) (by simp only [impl_sums_s3730, dF (show ¬ (((21 : Nat) : Int) ≤ 20) by omega), cond_false])
    have e : rowF l k 0 = [] := rfl
    rw [cast0, e, List.append_nil] at h
    exact h
  have h := lp_det (S := impl_sums_s58) (n := 5) (fun i => (l, sumsTo l i, (i : Int))) (by omega) (b := sumsTo l 5) (fun i hi => by
    have hlen := sumsTo_length l i
    simp only [impl_sums_s58, dT (show (i : Int) ≤ 4 by omega), cond_true, inner (sumsTo l i) (i : Int) (by omega), Option.bind_some, wsucc (show i ≤ 1048576 by omega), sumsTo]) (by simp only [impl_sums_s58, dF (show ¬ (((5 : Nat) : Int) ≤ 4) by omega), cond_false])
  have e : sumsTo l 0 = [] := rfl
  rw [cast0, e] at h
  simp only [impl_sums, h, Option.bind_some, sumsM]

end Go.Proofs.YthchcnfkgjmabaaGreat.Tw
