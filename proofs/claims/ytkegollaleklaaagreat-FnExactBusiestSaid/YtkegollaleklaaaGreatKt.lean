/- Plain: FnExactKeyTotal. No condition: lemmas. -/
import Derived.Test.YtkegollaleklaaaGreatHw
namespace Go.Proofs.YtkegollaleklaaaGreat.Tw
open Go.Mach
set_option linter.unusedVariables false
set_option linter.unusedSimpArgs false
set_option maxRecDepth 20000

/-! ### sketches -/
def new0 : SkT := (0, 0, 0, 0, List.replicate 8 0, List.replicate 8 0, [List.replicate 4 0, List.replicate 4 0])
theorem new0_ok : SkOk new0 := skOk_iff.1 (by decide +kernel)
theorem zip_zero {f : Int → Int → Int} : ∀ {h : List Int}, (∀ x ∈ h, f 0 x = x) → List.zipWith f (List.replicate h.length 0) h = h
  | [], _ => rfl
  | x :: h, q => by
    simp only [List.length_cons, List.replicate_succ, List.zipWith_cons_cons]
    rw [q x List.mem_cons_self, zip_zero fun y hy => q y (List.mem_cons_of_mem _ hy)]
theorem ad_zero' {x : Int} (h : 0 ≤ x ∧ x ≤ 1000000000) : ad 0 x = x := by unfold ad; omega
theorem mrg_new {s : SkT} (h : SkOk s) : mrg new0 s = s := by
  obtain ⟨h1, h2, h3, h4, h5, ⟨r0, r1, e, h6, h7⟩, h8, h9, h10⟩ := h
  obtain ⟨a, b, c, d, x, y, z⟩ := s
  simp only at h1 h2 h3 h4 h5 e h6 h7 h8 h9 h10
  subst e
  have z1 : List.zipWith ad (List.replicate 8 0) x = x := by rw [← h9.1]; exact zip_zero fun v hv => ad_zero' (h9.2 v hv).1
  have z2 : List.zipWith max (List.replicate 8 0) y = y := by rw [← h10.1]; exact zip_zero fun v hv => by have := (h10.2 v hv).1; omega
  have z3 : List.zipWith ad (List.replicate 4 0) r0 = r0 := by rw [← h6.1]; exact zip_zero fun v hv => ad_zero' (h6.2 v hv).1
  have z4 : List.zipWith ad (List.replicate 4 0) r1 = r1 := by rw [← h7.1]; exact zip_zero fun v hv => ad_zero' (h7.2 v hv).1
  have e1 : ad 0 a = a := ad_zero' h1
  have e2 : ad 0 b = b := ad_zero' h2
  have e3 : max 0 d = d := by omega
  have e4 : (if a = 0 then (0 : Int) else c) = c := by
    by_cases ha : a = 0
    · have := h8 ha
      rw [if_pos ha]; omega
    · rw [if_neg ha]
  simp only [mrg, new0, e1, e2, e3, ↓reduceIte, e4, z1, z2, List.getD_cons_zero, List.getD_cons_succ, z3, z4]

/-! ### numbers of entries that are apart -/
theorem lens_cnt {s : List SpT} (hb : ∀ x ∈ s, x.1 ≤ x.2 ∧ 0 ≤ x.1 ∧ x.2 ≤ 9999) (hp : PD s) : lens s = (cntN 0 10000 s : Int) := by
  rw [cnt_eq (fun x hx => (hb x hx).1) hp]
  exact ((ovs_lens fun x hx => (hb x hx).1).2.2 fun x hx => by have := hb x hx; omega).symm
theorem cntN_le' (L : Int) (q : Nat) (s : List SpT) : cntN L q s ≤ q := by
  unfold cntN
  have := List.countP_le_length (l := List.range q) (p := fun i : Nat => hasB s (L + i))
  simpa using this
theorem lens_le {s : List SpT} (hb : ∀ x ∈ s, x.1 ≤ x.2 ∧ 0 ≤ x.1 ∧ x.2 ≤ 9999) (hp : PD s) : 0 ≤ lens s ∧ lens s ≤ 10000 := by
  rw [lens_cnt hb hp]
  have := cntN_le' 0 10000 s
  omega
theorem lens_nrm {l : List EnT} (h : EnsOk l) (hp : l.Pairwise fun a b => ∀ n, hasN a.2.2.1 n → ¬ hasN b.2.2.1 n) : lens (nrm (flat l)) = lens (flat l) := by
  have hs := setOk_iff.1 (nrm_set h)
  rw [lens_cnt (flat_rng h) (flat_pd h hp), lens_cnt (fun x hx => ⟨hs.1.mem x hx, hs.2 x hx⟩) (canon_pd hs.1), cnt_same (nrm_ok fun x hx => (flat_rng h x hx).1).2]

theorem copyEntry_eq {e : EnT} (h : EnLe 1048576 e) : impl_copyEntry e = some e := by
  obtain ⟨a, b, c, s⟩ := e
  obtain ⟨d, e, f, g, i, j, k⟩ := s
  have := copySketch_eq h.2
  simp only at this
  simp only [impl_copyEntry, copySet_eq h.1, this, Option.bind_some]

theorem total_eq {e : EnT} {r : List EnT} (h : EnsOk (e :: r)) (hn : (e :: r).length ≤ 1048576) (hf : (flat (e :: r)).length ≤ 1048576) : impl_total (e :: r) = some (tot e r) := by
  have he := h e List.mem_cons_self
  have hr : EnsOk r := fun x hx => h x (List.mem_cons_of_mem _ hx)
  have hids := idsOf_eq h hn hf
  have hcp := copyEntry_eq (he.toLe.mono (by omega : 5001 ≤ 1048576))
  have hrl : r.length ≤ 1048576 := by simp at hn; omega
  obtain ⟨e1, e2, e3, s⟩ := e
  have hl := lp_det (S := impl_total_s58) (fun i => ((e1, e2, e3, s) :: r, (0, 0, (), 0, 0, 0, 0, (), (), ()), (e1, e2, e3, msk s (r.take i)), r, (r.length : Int), (i : Int))) hrl
    (b := ((e1, e2, e3, s) :: r, (0, 0, (), 0, 0, 0, 0, (), (), ()), e1, e2, e3, msk s r)) (fun i hi => by
      have hm := implMerge_eq (msk_ok (l := r.take i) he.sk fun x hx => hr x (List.mem_of_mem_take hx)) (hr _ (getD_mem (d := en0) hi)).sk
      simp only [impl_total_s58, ltn hi, cond_true, ixn hi, gxn, Option.bind_some, wsucc (show i ≤ 1048576 by omega)]
      rw [take_snoc en0 hi, msk_snoc]
      generalize hx : r.getD i (0, 0, [], 0, 0, 0, 0, [], [], []) = x
      have hx' : r.getD i en0 = x := hx
      rw [hx'] at hm
      obtain ⟨x1, x2, x3, x4, x5, x6, x7, x8, x9, x10⟩ := x
      simp only at hm ⊢
      generalize msk s (r.take i) = q at hm ⊢
      obtain ⟨q1, q2, q3, q4, q5, q6, q7⟩ := q
      simp only [hm, Option.bind_some]) (by
      simp only [impl_total_s58, ltF, cond_false, List.take_length])
  have e0 : msk s (r.take 0) = s := rfl
  rw [cast0, e0] at hl
  obtain ⟨s1, s2, s3, s4, s5, s6, s7⟩ := s
  have hg : List.getD ((e1, e2, e3, s1, s2, s3, s4, s5, s6, s7) :: r) 0 (0, 0, [], 0, 0, 0, 0, [], [], []) = (e1, e2, e3, s1, s2, s3, s4, s5, s6, s7) := rfl
  have hd : List.drop 1 ((e1, e2, e3, s1, s2, s3, s4, s5, s6, s7) :: r) = r := rfl
  simp only [impl_total, hg, Option.bind_some, hcp, hd, lnn]
  rw [chkD (by simp), chkD (by simp)]
  rw [hl]
  simp only [Option.bind_some, hids]
  rfl

/-! ### a key's total -/
def isK (q r s : Int) (e : EnT) : Bool := e.1 == q && inR e.2.1 r s
theorem msk_new {l : List EnT} (h : EnsOk l) : SkOk (msk new0 l) := msk_ok new0_ok h

theorem merged_eq {l : List EnT} (h : EnsOk l) (hn : l.length ≤ 1048576) (hf : (flat l).length ≤ 1048576) : impl_merged l = some (msk new0 l, nrm (flat l)) := by
  cases l with
  | nil =>
    have hnil : nrm (flat []) = [] := by simp [flat, nrm]
    rw [hnil]
    rfl
  | cons e r =>
    have he := h e List.mem_cons_self
    simp only [impl_merged, lnn, beq_cond]
    rw [if_neg (by simp <;> omega), total_eq h hn hf]
    have : msk new0 (e :: r) = msk e.2.2.2 r := by
      show msk (mrg new0 e.2.2.2) r = _
      rw [mrg_new he.sk]
    rw [this]
    rfl

section
variable {a b c e f g h i n : Int} {d : List Int} {j : Bool} {k : List SeT} {l : List (List (List EnT))} {m : List TuT} {o : List EnT} {p : List OuT}

def ktM : HsT → Int → Int → Int → SkT × Int
  | (a, b, c, d, e, f, g, h, i, j, k, l, m, n, o, p), q, r, s => bif houseOk (a, b, c, d, e, f, g, h, i, j, k, l, m, n, o, p) then (msk new0 ((o ++ p.map (·.2)).filter (isK q r s)), lens (flat ((o ++ p.map (·.2)).filter (isK q r s)))) else (new0, 0)

theorem house_added (hh : houseOk (a, b, c, d, e, f, g, h, i, j, k, l, m, n, o, p) = true) : EnsOk (o ++ p.map (·.2)) ∧ (o ++ p.map (·.2)).Pairwise (fun a b => ∀ n, hasN a.2.2.1 n → ¬ hasN b.2.2.1 n) := by
  unfold houseOk at hh
  simp only [Bool.and_eq_true] at hh
  have ha := hh.2.2.2.2.1
  have h1 := (apart_iff.1 ha).1
  have h2 := apart_pw ha
  unfold allM at h1 h2
  exact ⟨fun x hx => h1 x (List.mem_append_right _ hx), (List.pairwise_append.1 h2).2.1⟩

theorem filter_flat_le {l : List EnT} (q : EnT → Bool) : (flat (l.filter q)).length ≤ (flat l).length := by
  induction l with
  | nil => simp
  | cons x r ih =>
    rw [List.filter_cons]
    split
    · simp only [flat, List.length_append]; omega
    · simp only [flat, List.length_append]; omega

theorem specKt_eq {q r s : Int} (z : HsSz d k l m o p) : spec_KeyTotal ((a, b, c, d, e, f, g, h, i, j, k, l, m, n, o, p), q, r, s) = some (ktM (a, b, c, d, e, f, g, h, i, j, k, l, m, n, o, p) q r s) := by
  unfold ktM
  simp only [spec_KeyTotal, spec_SketchNew, specHouseOk_eq z, Option.bind_some]
  cases hh : houseOk (a, b, c, d, e, f, g, h, i, j, k, l, m, n, o, p)
  · rfl
  · obtain ⟨hok, hpw⟩ := house_added hh
    have hadd := z.added
    generalize ht : o ++ p.map (·.2) = t at hok hpw
    have hlt : t.length ≤ 1048576 := by rw [← ht]; simp; exact hadd
    have q1 := lp_det (S := spec_KeyTotal_s506) (fun i' => (q, r, s, (a, b, c, d, e, f, g, h, i, j, k, l, m, n, o, p), (0, 0, 0, 0, (), (), ()), new0, 0, o ++ (p.take i').map (·.2), (i' : Int))) (n := p.length) (by omega) (b := (q, r, s, (0, 0, 0, 0, (), (), ()), new0, 0, t)) (fun i' hi => by
      simp only [spec_KeyTotal_s506, new0, lnn, ltn hi, Option.bind_some, cond_true, ixn hi, gxn, wsucc (show i' ≤ 1048576 by omega)]
      rw [take_snoc ou0 hi, List.map_append]
      generalize hx : p.getD i' (0, 0, 0, [], 0, 0, 0, 0, [], [], []) = x
      have hx' : p.getD i' ou0 = x := hx
      obtain ⟨x0, x1, x2, x3, x4, x5, x6, x7, x8, x9, x10⟩ := x
      simp only
      rw [fitsC (by simp only [List.length_append, List.length_map, List.length_take, List.length_singleton]; omega) (by omega), List.append_assoc]
      rfl) (by simp only [spec_KeyTotal_s506, new0, lnn, ltF, Option.bind_some, cond_false, List.take_length, ht])
    have q2 := lp_det (S := spec_KeyTotal_s1018) (fun i' => (q, r, s, (0, 0, 0, 0, (), (), ()), msk new0 ((t.take i').filter (isK q r s)), lens (flat ((t.take i').filter (isK q r s))), t, (i' : Int))) (n := t.length) hlt (b := ((0, 0, 0, 0, (), (), ()), msk new0 (t.filter (isK q r s)), lens (flat (t.filter (isK q r s))))) (fun i' hi => by
      have hmem := getD_mem (d := en0) hi
      have he := hok _ hmem
      have hpre : EnsOk ((t.take i').filter (isK q r s)) := fun x hx => hok x (List.mem_of_mem_take (List.mem_filter.1 hx).1)
      have hm := l3Merge_eq (msk_new hpre) he.sk
      have hsz := specSize_eq (s := (t.getD i' en0).2.2.1) (by have := he.len; omega)
      have hsm : sizeM (t.getD i' en0).2.2.1 = lens (t.getD i' en0).2.2.1 := by unfold sizeM; rw [he.set]; rfl
      rw [hsm] at hsz
      have hpre2 : EnsOk ((t.take (i' + 1)).filter (isK q r s)) := fun x hx => hok x (List.mem_of_mem_take (List.mem_filter.1 hx).1)
      have hb := lens_le (flat_rng hpre2) (flat_pd hpre2 ((hpw.sublist (List.take_sublist _ _)).filter _))
      rw [take_snoc en0 hi, List.filter_append] at hb ⊢
      simp only [spec_KeyTotal_s1018, lnn, ltn hi, Option.bind_some, cond_true, ixn hi, lxn hi, gxn, wsucc (show i' ≤ 1048576 by omega), l1In_eq, beq_cond]
      generalize hx : t.getD i' (0, 0, [], 0, 0, 0, 0, [], [], []) = x
      have hx' : t.getD i' en0 = x := hx
      rw [hx'] at hm hsz hb
      obtain ⟨x1, x2, x3, x4, x5, x6, x7, x8, x9, x10⟩ := x
      simp only at hm hsz
      by_cases h1 : x1 = q
      · rw [if_pos h1]
        cases h2 : inR x2 r s
        · have hk : isK q r s (x1, x2, x3, x4, x5, x6, x7, x8, x9, x10) = false := by simp [isK, h2]
          rw [List.filter_cons_of_neg (by rw [hk]; simp), List.filter_nil, List.append_nil]
          generalize msk new0 ((t.take i').filter (isK q r s)) = y
          obtain ⟨y1, y2, y3, y4, y5, y6, y7⟩ := y
          rfl
        · have hk : isK q r s (x1, x2, x3, x4, x5, x6, x7, x8, x9, x10) = true := by simp [isK, h1, h2]
          rw [List.filter_cons_of_pos hk, List.filter_nil, flat_app, lens_app, flat_one] at hb ⊢
          rw [msk_snoc]
          generalize msk new0 ((t.take i').filter (isK q r s)) = y at hm ⊢
          obtain ⟨y1, y2, y3, y4, y5, y6, y7⟩ := y
          simp only at hb
          simp only [cond_true, hm, hsz, Option.bind_some]
          rw [w64_ok (by omega) (by omega)]
      · have hk : isK q r s (x1, x2, x3, x4, x5, x6, x7, x8, x9, x10) = false := by simp [isK, h1]
        rw [if_neg h1, List.filter_cons_of_neg (by rw [hk]; simp), List.filter_nil, List.append_nil]) (by
      rw [List.take_length]
      generalize msk new0 (t.filter (isK q r s)) = y
      obtain ⟨y1, y2, y3, y4, y5, y6, y7⟩ := y
      simp only [spec_KeyTotal_s1018, lnn, ltF, Option.bind_some, cond_false])
    have e0 : msk new0 ((t.take 0).filter (isK q r s)) = new0 := rfl
    have e1 : lens (flat ((t.take 0).filter (isK q r s))) = 0 := rfl
    rw [cast0, List.take_zero, List.map_nil, List.append_nil] at q1
    rw [cast0, e0, e1] at q2
    simp only [new0] at q1 q2
    simp only [Bool.not_true, cond_false, cond_true, List.nil_append]
    rw [fitsC (by omega) (by omega)]
    simp only [q1, Option.bind_some, q2]
    simp only [new0]

theorem implKt_eq {q r s : Int} (z : HsSz d k l m o p) : impl_KeyTotal ((a, b, c, d, e, f, g, h, i, j, k, l, m, n, o, p), q, r, s) = some (ktM (a, b, c, d, e, f, g, h, i, j, k, l, m, n, o, p) q r s) := by
  unfold ktM
  simp only [impl_KeyTotal, implHouseOk_eq z, Option.bind_some]
  cases hh : houseOk (a, b, c, d, e, f, g, h, i, j, k, l, m, n, o, p)
  · rfl
  · obtain ⟨hok, hpw⟩ := house_added hh
    have hadd := z.added
    have hfl := z.addf
    rw [implAdded_eq hadd]
    generalize ht : o ++ p.map (·.2) = t at hok hpw hfl
    have hlt : t.length ≤ 1048576 := by rw [← ht]; simp; exact hadd
    have q2 := lp_det (S := impl_KeyTotal_s234) (fun i' => (q, r, s, (0, 0, 0, 0, (), (), ()), (t.take i').filter (isK q r s), t, (t.length : Int), (i' : Int))) (n := t.length) hlt (b := ((0, 0, 0, 0, (), (), ()), t.filter (isK q r s))) (fun i' hi => by
      have hlen : ((t.take i').filter (isK q r s)).length ≤ i' := Nat.le_trans (List.length_filter_le _ _) (by simp; omega)
      rw [take_snoc en0 hi, List.filter_append]
      simp only [impl_KeyTotal_s234, ltn hi, Option.bind_some, cond_true, ixn hi, lxn hi, gxn, wsucc (show i' ≤ 1048576 by omega), within_eq, beq_cond]
      generalize hx : t.getD i' (0, 0, [], 0, 0, 0, 0, [], [], []) = x
      have hx' : t.getD i' en0 = x := hx
      obtain ⟨x1, x2, x3, x4, x5, x6, x7, x8, x9, x10⟩ := x
      simp only
      by_cases h1 : x1 = q
      · rw [if_pos h1]
        cases h2 : inR x2 r s
        · have hk : isK q r s (x1, x2, x3, x4, x5, x6, x7, x8, x9, x10) = false := by simp [isK, h2]
          rw [List.filter_cons_of_neg (by rw [hk]; simp), List.filter_nil, List.append_nil]
          rfl
        · have hk : isK q r s (x1, x2, x3, x4, x5, x6, x7, x8, x9, x10) = true := by simp [isK, h1, h2]
          rw [List.filter_cons_of_pos hk, List.filter_nil, cond_true, fitsC (by simp; omega) (by omega)]
      · have hk : isK q r s (x1, x2, x3, x4, x5, x6, x7, x8, x9, x10) = false := by simp [isK, h1]
        rw [if_neg h1, List.filter_cons_of_neg (by rw [hk]; simp), List.filter_nil, List.append_nil]) (by
      simp only [impl_KeyTotal_s234, ltF, cond_false, List.take_length])
    rw [cast0, List.take_zero, List.filter_nil] at q2
    have hfo : EnsOk (t.filter (isK q r s)) := fun x hx => hok x (List.mem_filter.1 hx).1
    have hl2 := filter_flat_le (l := t) (isK q r s)
    have hset := nrm_set hfo
    have hsl := set_len hset
    have hsz := implSize_eq (s := nrm (flat (t.filter (isK q r s)))) (by omega)
    have hsm : sizeM (nrm (flat (t.filter (isK q r s)))) = lens (flat (t.filter (isK q r s))) := by
      unfold sizeM
      rw [hset, cond_true, lens_nrm hfo (hpw.filter _)]
    rw [hsm] at hsz
    have hmg := merged_eq hfo (Nat.le_trans (List.length_filter_le _ _) hlt) (by omega)
    generalize msk new0 (t.filter (isK q r s)) = y at hmg ⊢
    obtain ⟨y1, y2, y3, y4, y5, y6, y7⟩ := y
    simp only [cond_true, Option.bind_some, lnn, q2, hmg, hsz]

theorem ktM_ok (q r s : Int) : SkOk (ktM (a, b, c, d, e, f, g, h, i, j, k, l, m, n, o, p) q r s).1 := by
  cases hh : houseOk (a, b, c, d, e, f, g, h, i, j, k, l, m, n, o, p)
  · simp only [ktM, hh, cond_false]
    exact new0_ok
  · simp only [ktM, hh, cond_true]
    exact msk_new fun x hx => (house_added hh).1 x (List.mem_filter.1 hx).1
end

theorem marksSk {s : SkT} (h : SkLe 1048576 s) : Marks laws_markSketch laws_heldSketch (szSk s) s := by
  obtain ⟨a, b, c, d, x, y, z⟩ := s
  obtain ⟨h1, h2, h3, h4⟩ := h
  intro k k0 k1
  simp only [szSk] at k1 h1 h2 h3 h4 ⊢
  have hh4 : SmIntSS z := ⟨h3, h4⟩
  generalize hn : sumL (fun r : List Int => r.length) z = n at k1 ⊢
  obtain ⟨x', b1, b2⟩ := marksIntS h1 k (by omega) (by omega)
  obtain ⟨y', c1, c2⟩ := marksIntS h2 (k + x.length) (by omega) (by omega)
  obtain ⟨z', d1, d2⟩ := marksIntSS hh4 (k + x.length + y.length) (by omega) (by omega)
  rw [hn] at d1 d2
  have hfin : k + (x.length : Int) + (y.length : Int) + (n : Int) = k + ((x.length + y.length + n : Nat) : Int) := by omega
  refine ⟨(a, b, c, d, x', y', z'), ?_, ?_⟩
  · simp only [laws_markSketch, b1, c1, d1, Option.bind_some, hfin]
  · have g1 : decide (k + (x.length : Int) < 0) = false := dF (by omega)
    have g2 : decide (k + (x.length : Int) + (y.length : Int) < 0) = false := dF (by omega)
    have g3 : decide (k + ((x.length + y.length + n : Nat) : Int) < 0) = false := dF (by omega)
    simp only [laws_heldSketch, b2, c2, d2, g1, g2, hfin, g3, cond_false, Option.bind_some]

/-- The law's twin answers true. -/
theorem law_keyTotal (x : HsT) (q r s : Int) (hx : HsLe 9223372036854775807 x) : laws_FnExactKeyTotal (x, q, r, s) = some true := by
  obtain ⟨y, e1, e2⟩ := szHouse_ok x 1048576 hx (by omega) (by omega)
  obtain ⟨a, b, c, d, e, f, g, h, i, j, k, l, m, n, o, p⟩ := x
  simp only [laws_FnExactKeyTotal, e1, Option.bind_some, bif_dec]
  rcases e2 with rfl | ⟨e2, e3⟩
  · simp
  · rw [if_neg (by omega)]
    have hn : nHs (a, b, c, d, e, f, g, h, i, j, k, l, m, n, o, p) ≤ 1048576 := by omega
    have hs := hsLe_of hn
    have hz := hsSz_of hn
    have hm := mHs_le hn
    obtain ⟨x', m1⟩ := markHouse_ok hs hm
    obtain ⟨x1, x2, x3, x4, x5, x6, x7, x8, x9, x10, x11, x12, x13, x14, x15, x16⟩ := x'
    simp only [toHouse_ok hs, specKt_eq hz, implKt_eq hz, Option.bind_some]
    have hk := (ktM_ok (a := a) (b := b) (c := c) (d := d) (e := e) (f := f) (g := g) (h := h) (i := i) (j := j) (k := k) (l := l) (m := m) (n := n) (o := o) (p := p) q r s).toLe
    generalize ktM (a, b, c, d, e, f, g, h, i, j, k, l, m, n, o, p) q r s = t at hk ⊢
    obtain ⟨⟨t1, t2, t3, t4, t5, t6, t7⟩, t8⟩ := t
    simp only at hk ⊢
    have hle : SkLe 1048576 (t1, t2, t3, t4, t5, t6, t7) := hk.mono (by omega)
    have h4 : sumL (fun r : List Int => r.length) t7 ≤ t7.length * 8 := sumL_le hk.2.2.2
    have h5 := hk.1
    have h6 := hk.2.1
    have h7 := hk.2.2.1
    simp only at h5 h6 h7
    have hsk : szSk (t1, t2, t3, t4, t5, t6, t7) ≤ 1000 := by unfold szSk; simp only; omega
    obtain ⟨r', m3, m4⟩ := marksSk hle 1 (by omega) (by omega)
    obtain ⟨r1, r2, r3, r4, r5, r6, r7⟩ := r'
    generalize szSk (t1, t2, t3, t4, t5, t6, t7) = zz at hsk m3 m4
    generalize mHs (a, b, c, d, e, f, g, h, i, j, k, l, m, n, o, p) = mm at hm m1
    have g1 : ¬ (1 + ((mm : Nat) : Int) < 0) := by omega
    have g2 : ¬ (1 + ((zz : Nat) : Int) < 0) := by omega
    have hm4 : r1 = t1 ∧ r2 = t2 ∧ r3 = t3 ∧ r4 = t4 := by
      simp only [laws_markSketch] at m3
      cases q1 : laws_markIntS (t5, 1) with
      | none => rw [q1] at m3; simp at m3
      | some v1 =>
        obtain ⟨v1, w1⟩ := v1
        rw [q1, Option.bind_some] at m3
        cases q2 : laws_markIntS (t6, v1) with
        | none => rw [q2] at m3; simp at m3
        | some v2 =>
          obtain ⟨v2, w2⟩ := v2
          rw [q2, Option.bind_some] at m3
          cases q3 : laws_markIntSS (t7, v2) with
          | none => rw [q3] at m3; simp at m3
          | some v3 =>
            obtain ⟨v3, w3⟩ := v3
            rw [q3, Option.bind_some] at m3
            simp only [Option.some.injEq, Prod.mk.injEq] at m3
            exact ⟨m3.2.1.symm, m3.2.2.1.symm, m3.2.2.2.1.symm, m3.2.2.2.2.1.symm⟩
    obtain ⟨rfl, rfl, rfl, rfl⟩ := hm4
    simp only [eqHouse_ok hs, eqSketch_ok hle, Option.bind_some, Bool.not_true, cond_false, m1, m3, m4, if_neg g1, if_neg g2, bne_self_eq_false]

end Go.Proofs.YtkegollaleklaaaGreat.Tw
