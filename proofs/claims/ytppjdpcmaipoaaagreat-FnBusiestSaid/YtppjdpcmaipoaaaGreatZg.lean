/- Parts of a proof, packed: see the last text for what is proved. No condition: definitions and lemmas. -/
import Derived.Test.YtppjdpcmaipoaaaGreatZf
namespace Go.Proofs.YtppjdpcmaipoaaaGreat.Tw
open Go.Mach
set_option linter.unusedVariables false
set_option linter.unusedSimpArgs false
set_option maxRecDepth 20000
def new0 : SkT := (0, 0, 0, 0, List.replicate 8 0, List.replicate 8 0, [List.replicate 4 0, List.replicate 4 0])
theorem new0_ok : SkOk new0 := skOk_iff.1 (by decide +kernel)
theorem zip_zero {f : Int → Int → Int} : ∀ {h : List Int}, (∀ x ∈ h, f 0 x = x) → List.zipWith f (List.replicate h.length 0) h = h
 | [], _ => rfl
 | x :: h, q => by
  simp only [List.length_cons, List.replicate_succ, List.zipWith_cons_cons]
  rw [q x List.mem_cons_self, zip_zero fun y hy => q y (List.mem_cons_of_mem _ hy)]
theorem ad_zero' {x : Int} (h : 0 ≤ x ∧ x ≤ 1000000000) : ad 0 x = x := by unfold ad; omega
theorem mrg_new {s : SkT} (h : SkOk s) : mrg new0 s = s := by
 obtain ⟨h1, h2, h3, h4, h5, ⟨r0, r1, e, h6, h7⟩, h8, h9, h10⟩ := h
 obtain ⟨a, b, c, d, x, y, z⟩ := s
 simp only at h1 h2 h3 h4 h5 e h6 h7 h8 h9 h10
 subst e
 have z1 : List.zipWith ad (List.replicate 8 0) x = x := by rw [← h9.1]; exact zip_zero fun v hv => ad_zero' (h9.2 v hv).1
 have z2 : List.zipWith max (List.replicate 8 0) y = y := by rw [← h10.1]; exact zip_zero fun v hv => by have := (h10.2 v hv).1; omega
 have z3 : List.zipWith ad (List.replicate 4 0) r0 = r0 := by rw [← h6.1]; exact zip_zero fun v hv => ad_zero' (h6.2 v hv).1
 have z4 : List.zipWith ad (List.replicate 4 0) r1 = r1 := by rw [← h7.1]; exact zip_zero fun v hv => ad_zero' (h7.2 v hv).1
 have e1 : ad 0 a = a := ad_zero' h1
 have e2 : ad 0 b = b := ad_zero' h2
 have e3 : max 0 d = d := by omega
 have e4 : (if a = 0 then (0 : Int) else c) = c := by
  by_cases ha : a = 0
  ·have := h8 ha
   rw [if_pos ha]; omega
  ·rw [if_neg ha]
 simp only [mrg, new0, e1, e2, e3, ↓reduceIte, e4, z1, z2, List.getD_cons_zero, List.getD_cons_succ, z3, z4]
theorem lens_cnt {s : List SpT} (hb : ∀ x ∈ s, x.1 ≤ x.2 ∧ 0 ≤ x.1 ∧ x.2 ≤ 9999) (hp : PD s) : lens s = (cntN 0 10000 s : Int) := by
 rw [cnt_eq (fun x hx => (hb x hx).1) hp]
 exact ((ovs_lens fun x hx => (hb x hx).1).2.2 fun x hx => by have := hb x hx; omega).symm
theorem cntN_le' (L : Int) (q : Nat) (s : List SpT) : cntN L q s ≤ q := by
 unfold cntN
 have := List.countP_le_length (l := List.range q) (p := fun i : Nat => hasB s (L + i))
 simpa using this
theorem lens_le {s : List SpT} (hb : ∀ x ∈ s, x.1 ≤ x.2 ∧ 0 ≤ x.1 ∧ x.2 ≤ 9999) (hp : PD s) : 0 ≤ lens s ∧ lens s ≤ 10000 := by
 rw [lens_cnt hb hp]
 have := cntN_le' 0 10000 s
 omega
theorem lens_nrm {l : List EnT} (h : EnsOk l) (hp : l.Pairwise fun a b => ∀ n, hasN a.2.2.1 n → ¬ hasN b.2.2.1 n) : lens (nrm (flat l)) = lens (flat l) := by
 have hs := setOk_iff.1 (nrm_set h)
 rw [lens_cnt (flat_rng h) (flat_pd h hp), lens_cnt (fun x hx => ⟨hs.1.mem x hx, hs.2 x hx⟩) (canon_pd hs.1), cnt_same (nrm_ok fun x hx => (flat_rng h x hx).1).2]
theorem ktotal_eq {e : EnT} {r : List EnT} (h : EnsOk (e :: r)) (hn : (e :: r).length ≤ 1048576) (hf : (flat (e :: r)).length ≤ 1048576) : Kbq (e :: r) = some (tot e r) := by
 have he := h e List.mem_cons_self
 have hr : EnsOk r := fun x hx => h x (List.mem_cons_of_mem _ hx)
 have hids := idsOf_eq h hn hf
 have hcp := copyEntry_eq (he.toLe.mono (by omega : 5001 ≤ 1048576))
 have hrl : r.length ≤ 1048576 := by simp at hn; omega
 obtain ⟨e1, e2, e3, s⟩ := e
 have hl := lp_det (S := Kbq_s58) (fun i => ((e1, e2, e3, s) :: r, (0, 0, (), 0, 0, 0, 0, (), (), ()), (e1, e2, e3, msk s (r.take i)), r, (r.length : Int), (i : Int))) hrl
  (b := ((e1, e2, e3, s) :: r, (0, 0, (), 0, 0, 0, 0, (), (), ()), e1, e2, e3, msk s r)) (fun i hi => by
   have hm := implMerge_eq (msk_ok (l := r.take i) he.sk fun x hx => hr x (List.mem_of_mem_take hx)) (hr _ (getD_mem (d := en0) hi)).sk
   simp only [Kbq_s58, ltn hi, cond_true, ixn hi, gxn, Option.bind_some, wsucc (show i ≤ 1048576 by omega)]
   rw [take_snoc en0 hi, msk_snoc]
   generalize hx : r.getD i (0, 0, [], 0, 0, 0, 0, [], [], []) = x
   have hx' : r.getD i en0 = x := hx
   rw [hx'] at hm
   obtain ⟨x1, x2, x3, x4, x5, x6, x7, x8, x9, x10⟩ := x
   simp only at hm ⊢
   generalize msk s (r.take i) = q at hm ⊢
   obtain ⟨q1, q2, q3, q4, q5, q6, q7⟩ := q
   simp only [hm, Option.bind_some]) (by
   simp only [Kbq_s58, ltF, cond_false, List.take_length])
 have e0 : msk s (r.take 0) = s := rfl
 rw [cast0, e0] at hl
 obtain ⟨s1, s2, s3, s4, s5, s6, s7⟩ := s
 have hg : List.getD ((e1, e2, e3, s1, s2, s3, s4, s5, s6, s7) :: r) 0 (0, 0, [], 0, 0, 0, 0, [], [], []) = (e1, e2, e3, s1, s2, s3, s4, s5, s6, s7) := rfl
 have hd : List.drop 1 ((e1, e2, e3, s1, s2, s3, s4, s5, s6, s7) :: r) = r := rfl
 simp only [Kbq, hg, Option.bind_some, hcp, hd, lnn]
 rw [chkD (by simp), chkD (by simp)]
 rw [hl]
 simp only [Option.bind_some, hids]
 rfl
def isK (q r s : Int) (e : EnT) : Bool := e.1 == q && inR e.2.1 r s
theorem msk_new {l : List EnT} (h : EnsOk l) : SkOk (msk new0 l) := msk_ok new0_ok h
theorem merged_eq {l : List EnT} (h : EnsOk l) (hn : l.length ≤ 1048576) (hf : (flat l).length ≤ 1048576) : Kdo l = some (msk new0 l, nrm (flat l)) := by
 cases l with
 | nil =>
  have hnil : nrm (flat []) = [] := by simp [flat, nrm]
  rw [hnil]
  rfl
 | cons e r =>
  have he := h e List.mem_cons_self
  simp only [Kdo, lnn, beq_cond]
  rw [if_neg (by simp <;> omega), ktotal_eq h hn hf]
  have : msk new0 (e :: r) = msk e.2.2.2 r := by
   show msk (mrg new0 e.2.2.2) r = _
   rw [mrg_new he.sk]
  rw [this]
  rfl
section
variable {a b c e f g h i n : Int} {d : List Int} {j : Bool} {k : List SeT} {l : List (List (List EnT))} {m : List TuT} {o : List EnT} {p : List OuT}
def ktM : HsT → Int → Int → Int → SkT × Int
 | (a, b, c, d, e, f, g, h, i, j, k, l, m, n, o, p), q, r, s => bif houseOk (a, b, c, d, e, f, g, h, i, j, k, l, m, n, o, p) then (msk new0 ((o ++ p.map (·.2)).filter (isK q r s)), lens (flat ((o ++ p.map (·.2)).filter (isK q r s)))) else (new0, 0)
theorem house_added (hh : houseOk (a, b, c, d, e, f, g, h, i, j, k, l, m, n, o, p) = true) : EnsOk (o ++ p.map (·.2)) ∧ (o ++ p.map (·.2)).Pairwise (fun a b => ∀ n, hasN a.2.2.1 n → ¬ hasN b.2.2.1 n) := by
 unfold houseOk at hh
 simp only [Bool.and_eq_true] at hh
 have ha := hh.2.2.2.2.1
 have h1 := (apart_iff.1 ha).1
 have h2 := apart_pw ha
 unfold allM at h1 h2
 exact ⟨fun x hx => h1 x (List.mem_append_right _ hx), (List.pairwise_append.1 h2).2.1⟩
theorem filter_flat_le {l : List EnT} (q : EnT → Bool) : (flat (l.filter q)).length ≤ (flat l).length := by
 induction l with
 | nil => simp
 | cons x r ih =>
  rw [List.filter_cons]
  split
  ·simp only [flat, List.length_append]; omega
  ·simp only [flat, List.length_append]; omega
theorem specKt_eq {q r s : Int} (z : HsSz d k l m o p) : Kac ((a, b, c, d, e, f, g, h, i, j, k, l, m, n, o, p), q, r, s) = some (ktM (a, b, c, d, e, f, g, h, i, j, k, l, m, n, o, p) q r s) := by
 unfold ktM
 simp only [Kac, Kdh, specHouseOk_eq z, Option.bind_some]
 cases hh : houseOk (a, b, c, d, e, f, g, h, i, j, k, l, m, n, o, p)
 ·rfl
 ·obtain ⟨hok, hpw⟩ := house_added hh
  have hadd := z.added
  generalize ht : o ++ p.map (·.2) = t at hok hpw
  have hlt : t.length ≤ 1048576 := by rw [← ht]; simp; exact hadd
  have q1 := lp_det (S := Kac_s506) (fun i' => (q, r, s, (a, b, c, d, e, f, g, h, i, j, k, l, m, n, o, p), (0, 0, 0, 0, (), (), ()), new0, 0, o ++ (p.take i').map (·.2), (i' : Int))) (n := p.length) (by omega) (b := (q, r, s, (0, 0, 0, 0, (), (), ()), new0, 0, t)) (fun i' hi => by
   simp only [Kac_s506, new0, lnn, ltn hi, Option.bind_some, cond_true, ixn hi, gxn, wsucc (show i' ≤ 1048576 by omega)]
   rw [take_snoc ou0 hi, List.map_append]
   generalize hx : p.getD i' (0, 0, 0, [], 0, 0, 0, 0, [], [], []) = x
   have hx' : p.getD i' ou0 = x := hx
   obtain ⟨x0, x1, x2, x3, x4, x5, x6, x7, x8, x9, x10⟩ := x
   simp only
   rw [fitsC (by simp only [List.length_append, List.length_map, List.length_take, List.length_singleton]; omega) (by omega), List.append_assoc]
   rfl) (by simp only [Kac_s506, new0, lnn, ltF, Option.bind_some, cond_false, List.take_length, ht])
  have q2 := lp_det (S := Kac_s1018) (fun i' => (q, r, s, (0, 0, 0, 0, (), (), ()), msk new0 ((t.take i').filter (isK q r s)), lens (flat ((t.take i').filter (isK q r s))), t, (i' : Int))) (n := t.length) hlt (b := ((0, 0, 0, 0, (), (), ()), msk new0 (t.filter (isK q r s)), lens (flat (t.filter (isK q r s))))) (fun i' hi => by
   have hmem := getD_mem (d := en0) hi
   have he := hok _ hmem
   have hpre : EnsOk ((t.take i').filter (isK q r s)) := fun x hx => hok x (List.mem_of_mem_take (List.mem_filter.1 hx).1)
   have hm := l3Merge_eq (msk_new hpre) he.sk
   have hsz := specSize_eq (s := (t.getD i' en0).2.2.1) (by have := he.len; omega)
   have hsm : sizeM (t.getD i' en0).2.2.1 = lens (t.getD i' en0).2.2.1 := by unfold sizeM; rw [he.set]; rfl
   rw [hsm] at hsz
   have hpre2 : EnsOk ((t.take (i' + 1)).filter (isK q r s)) := fun x hx => hok x (List.mem_of_mem_take (List.mem_filter.1 hx).1)
   have hb := lens_le (flat_rng hpre2) (flat_pd hpre2 ((hpw.sublist (List.take_sublist _ _)).filter _))
   rw [take_snoc en0 hi, List.filter_append] at hb ⊢
   simp only [Kac_s1018, lnn, ltn hi, Option.bind_some, cond_true, ixn hi, lxn hi, gxn, wsucc (show i' ≤ 1048576 by omega), l1In_eq, beq_cond]
   generalize hx : t.getD i' (0, 0, [], 0, 0, 0, 0, [], [], []) = x
   have hx' : t.getD i' en0 = x := hx
   rw [hx'] at hm hsz hb
   obtain ⟨x1, x2, x3, x4, x5, x6, x7, x8, x9, x10⟩ := x
   simp only at hm hsz
   by_cases h1 : x1 = q
   ·rw [if_pos h1]
    cases h2 : inR x2 r s
    ·have hk : isK q r s (x1, x2, x3, x4, x5, x6, x7, x8, x9, x10) = false := by simp [isK, h2]
     rw [List.filter_cons_of_neg (by rw [hk]; simp), List.filter_nil, List.append_nil]
     generalize msk new0 ((t.take i').filter (isK q r s)) = y
     obtain ⟨y1, y2, y3, y4, y5, y6, y7⟩ := y
     rfl
    ·have hk : isK q r s (x1, x2, x3, x4, x5, x6, x7, x8, x9, x10) = true := by simp [isK, h1, h2]
     rw [List.filter_cons_of_pos hk, List.filter_nil, flat_app, lens_app, flat_one] at hb ⊢
     rw [msk_snoc]
     generalize msk new0 ((t.take i').filter (isK q r s)) = y at hm ⊢
     obtain ⟨y1, y2, y3, y4, y5, y6, y7⟩ := y
     simp only at hb
     simp only [cond_true, hm, hsz, Option.bind_some]
     rw [w64_ok (by omega) (by omega)]
   ·have hk : isK q r s (x1, x2, x3, x4, x5, x6, x7, x8, x9, x10) = false := by simp [isK, h1]
    rw [if_neg h1, List.filter_cons_of_neg (by rw [hk]; simp), List.filter_nil, List.append_nil]) (by
   rw [List.take_length]
   generalize msk new0 (t.filter (isK q r s)) = y
   obtain ⟨y1, y2, y3, y4, y5, y6, y7⟩ := y
   simp only [Kac_s1018, lnn, ltF, Option.bind_some, cond_false])
  have e0 : msk new0 ((t.take 0).filter (isK q r s)) = new0 := rfl
  have e1 : lens (flat ((t.take 0).filter (isK q r s))) = 0 := rfl
  rw [cast0, List.take_zero, List.map_nil, List.append_nil] at q1
  rw [cast0, e0, e1] at q2
  simp only [new0] at q1 q2
  simp only [Bool.not_true, cond_false, cond_true, List.nil_append]
  rw [fitsC (by omega) (by omega)]
  simp only [q1, Option.bind_some, q2]
  simp only [new0]
theorem implKt_eq {q r s : Int} (z : HsSz d k l m o p) : Kar ((a, b, c, d, e, f, g, h, i, j, k, l, m, n, o, p), q, r, s) = some (ktM (a, b, c, d, e, f, g, h, i, j, k, l, m, n, o, p) q r s) := by
 unfold ktM
 simp only [Kar, implHouseOk_eq z, Option.bind_some]
 cases hh : houseOk (a, b, c, d, e, f, g, h, i, j, k, l, m, n, o, p)
 ·rfl
 ·obtain ⟨hok, hpw⟩ := house_added hh
  have hadd := z.added
  have hfl := z.addf
  rw [implAdded_eq hadd]
  generalize ht : o ++ p.map (·.2) = t at hok hpw hfl
  have hlt : t.length ≤ 1048576 := by rw [← ht]; simp; exact hadd
  have q2 := lp_det (S := Kar_s234) (fun i' => (q, r, s, (0, 0, 0, 0, (), (), ()), (t.take i').filter (isK q r s), t, (t.length : Int), (i' : Int))) (n := t.length) hlt (b := ((0, 0, 0, 0, (), (), ()), t.filter (isK q r s))) (fun i' hi => by
   have hlen : ((t.take i').filter (isK q r s)).length ≤ i' := Nat.le_trans (List.length_filter_le _ _) (by simp; omega)
   rw [take_snoc en0 hi, List.filter_append]
   simp only [Kar_s234, ltn hi, Option.bind_some, cond_true, ixn hi, lxn hi, gxn, wsucc (show i' ≤ 1048576 by omega), within_eq, beq_cond]
   generalize hx : t.getD i' (0, 0, [], 0, 0, 0, 0, [], [], []) = x
   have hx' : t.getD i' en0 = x := hx
   obtain ⟨x1, x2, x3, x4, x5, x6, x7, x8, x9, x10⟩ := x
   simp only
   by_cases h1 : x1 = q
   ·rw [if_pos h1]
    cases h2 : inR x2 r s
    ·have hk : isK q r s (x1, x2, x3, x4, x5, x6, x7, x8, x9, x10) = false := by simp [isK, h2]
     rw [List.filter_cons_of_neg (by rw [hk]; simp), List.filter_nil, List.append_nil]
     rfl
    ·have hk : isK q r s (x1, x2, x3, x4, x5, x6, x7, x8, x9, x10) = true := by simp [isK, h1, h2]
     rw [List.filter_cons_of_pos hk, List.filter_nil, cond_true, fitsC (by simp; omega) (by omega)]
   ·have hk : isK q r s (x1, x2, x3, x4, x5, x6, x7, x8, x9, x10) = false := by simp [isK, h1]
    rw [if_neg h1, List.filter_cons_of_neg (by rw [hk]; simp), List.filter_nil, List.append_nil]) (by
   simp only [Kar_s234, ltF, cond_false, List.take_length])
  rw [cast0, List.take_zero, List.filter_nil] at q2
  have hfo : EnsOk (t.filter (isK q r s)) := fun x hx => hok x (List.mem_filter.1 hx).1
  have hl2 := filter_flat_le (l := t) (isK q r s)
  have hset := nrm_set hfo
  have hsl := set_len hset
  have hsz := implSize_eq (s := nrm (flat (t.filter (isK q r s)))) (by omega)
  have hsm : sizeM (nrm (flat (t.filter (isK q r s)))) = lens (flat (t.filter (isK q r s))) := by
   unfold sizeM
   rw [hset, cond_true, lens_nrm hfo (hpw.filter _)]
  rw [hsm] at hsz
  have hmg := merged_eq hfo (Nat.le_trans (List.length_filter_le _ _) hlt) (by omega)
  generalize msk new0 (t.filter (isK q r s)) = y at hmg ⊢
  obtain ⟨y1, y2, y3, y4, y5, y6, y7⟩ := y
  simp only [cond_true, Option.bind_some, lnn, q2, hmg, hsz]
theorem ktM_ok (q r s : Int) : SkOk (ktM (a, b, c, d, e, f, g, h, i, j, k, l, m, n, o, p) q r s).1 := by
 cases hh : houseOk (a, b, c, d, e, f, g, h, i, j, k, l, m, n, o, p)
 ·simp only [ktM, hh, cond_false]
  exact new0_ok
 ·simp only [ktM, hh, cond_true]
  exact msk_new fun x hx => (house_added hh).1 x (List.mem_filter.1 hx).1
end
def bst (x : HsT) : Nat → Int × Int
 | 0 => (-1, 0)
 | i + 1 => if (ktM x (i : Int) 0 20).1.1 > (bst x i).2 then ((i : Int), (ktM x (i : Int) 0 20).1.1) else bst x i
section
variable {a b c e f g h i n : Int} {d : List Int} {j : Bool} {k : List SeT} {l : List (List (List EnT))} {m : List TuT} {o : List EnT} {p : List OuT}
theorem bst_no (hh : houseOk (a, b, c, d, e, f, g, h, i, j, k, l, m, n, o, p) = false) : ∀ q, bst (a, b, c, d, e, f, g, h, i, j, k, l, m, n, o, p) q = (-1, 0)
 | 0 => rfl
 | q + 1 => by
  have e : (ktM (a, b, c, d, e, f, g, h, i, j, k, l, m, n, o, p) (q : Int) 0 20) = (new0, 0) := by simp only [ktM, hh, cond_false]
  simp only [bst, bst_no hh q, e]
  rfl
theorem specBusiest_eq (z : HsSz d k l m o p) : Kbr (a, b, c, d, e, f, g, h, i, j, k, l, m, n, o, p) = some (bst (a, b, c, d, e, f, g, h, i, j, k, l, m, n, o, p) 5).1 := by
 simp only [Kbr, specHouseOk_eq z, Option.bind_some]
 cases hh : houseOk (a, b, c, d, e, f, g, h, i, j, k, l, m, n, o, p)
 ·rw [bst_no hh]; rfl
 ·have q := lp_det (S := Kbr_s250) (fun q => ((a, b, c, d, e, f, g, h, i, j, k, l, m, n, o, p), (bst (a, b, c, d, e, f, g, h, i, j, k, l, m, n, o, p) q).1, (bst (a, b, c, d, e, f, g, h, i, j, k, l, m, n, o, p) q).2, (q : Int))) (n := 5) (by omega) (b := (bst (a, b, c, d, e, f, g, h, i, j, k, l, m, n, o, p) 5).1) (fun q hq => by
   have hk := specKt_eq (a := a) (b := b) (c := c) (e := e) (f := f) (g := g) (h := h) (i := i) (n := n) (j := j) (q := (q : Int)) (r := 0) (s := 20) z
   have hb : bst (a, b, c, d, e, f, g, h, i, j, k, l, m, n, o, p) (q + 1) = if (ktM (a, b, c, d, e, f, g, h, i, j, k, l, m, n, o, p) (q : Int) 0 20).1.1 > (bst (a, b, c, d, e, f, g, h, i, j, k, l, m, n, o, p) q).2 then ((q : Int), (ktM (a, b, c, d, e, f, g, h, i, j, k, l, m, n, o, p) (q : Int) 0 20).1.1) else bst (a, b, c, d, e, f, g, h, i, j, k, l, m, n, o, p) q := rfl
   rw [hb]
   generalize ktM (a, b, c, d, e, f, g, h, i, j, k, l, m, n, o, p) (q : Int) 0 20 = t at hk ⊢
   obtain ⟨⟨t1, t2, t3, t4, t5, t6, t7⟩, t8⟩ := t
   simp only [Kbr_s250, dT (show (q : Int) ≤ 4 by omega), cond_true, hk, Option.bind_some, bif_dec, wsucc (show q ≤ 1048576 by omega)]
   by_cases hc : t1 > (bst (a, b, c, d, e, f, g, h, i, j, k, l, m, n, o, p) q).2
   ·rw [if_pos hc, if_pos hc]
   ·rw [if_neg hc, if_neg hc]) (by simp only [Kbr_s250, dF (show ¬ ((5 : Nat) : Int) ≤ 4 by omega), cond_false])
  have e0 : bst (a, b, c, d, e, f, g, h, i, j, k, l, m, n, o, p) 0 = (-1, 0) := rfl
  rw [cast0, e0] at q
  simp only [Bool.not_true, cond_false, q, Option.bind_some]
theorem implBusiest_eq (z : HsSz d k l m o p) : Kbm (a, b, c, d, e, f, g, h, i, j, k, l, m, n, o, p) = some (bst (a, b, c, d, e, f, g, h, i, j, k, l, m, n, o, p) 5).1 := by
 have q := lp_det (S := Kbm_s58) (fun q => ((a, b, c, d, e, f, g, h, i, j, k, l, m, n, o, p), (bst (a, b, c, d, e, f, g, h, i, j, k, l, m, n, o, p) q).1, (bst (a, b, c, d, e, f, g, h, i, j, k, l, m, n, o, p) q).2, (q : Int))) (n := 5) (by omega) (b := (bst (a, b, c, d, e, f, g, h, i, j, k, l, m, n, o, p) 5).1) (fun q hq => by
  have hk := implKt_eq (a := a) (b := b) (c := c) (e := e) (f := f) (g := g) (h := h) (i := i) (n := n) (j := j) (q := (q : Int)) (r := 0) (s := 20) z
  have hb : bst (a, b, c, d, e, f, g, h, i, j, k, l, m, n, o, p) (q + 1) = if (ktM (a, b, c, d, e, f, g, h, i, j, k, l, m, n, o, p) (q : Int) 0 20).1.1 > (bst (a, b, c, d, e, f, g, h, i, j, k, l, m, n, o, p) q).2 then ((q : Int), (ktM (a, b, c, d, e, f, g, h, i, j, k, l, m, n, o, p) (q : Int) 0 20).1.1) else bst (a, b, c, d, e, f, g, h, i, j, k, l, m, n, o, p) q := rfl
  rw [hb]
  generalize ktM (a, b, c, d, e, f, g, h, i, j, k, l, m, n, o, p) (q : Int) 0 20 = t at hk ⊢
  obtain ⟨⟨t1, t2, t3, t4, t5, t6, t7⟩, t8⟩ := t
  simp only [Kbm_s58, dT (show (q : Int) ≤ 4 by omega), cond_true, hk, Option.bind_some, bif_dec, wsucc (show q ≤ 1048576 by omega)]
  by_cases hc : t1 > (bst (a, b, c, d, e, f, g, h, i, j, k, l, m, n, o, p) q).2
  ·rw [if_pos hc, if_pos hc]
  ·rw [if_neg hc, if_neg hc]) (by simp only [Kbm_s58, dF (show ¬ ((5 : Nat) : Int) ≤ 4 by omega), cond_false])
 have e0 : bst (a, b, c, d, e, f, g, h, i, j, k, l, m, n, o, p) 0 = (-1, 0) := rfl
 rw [cast0, e0] at q
 simp only [Kbm, q, Option.bind_some]
end
section
variable {a b c e f g h i n : Int} {d : List Int} {j : Bool} {k : List SeT} {l : List (List (List EnT))} {m : List TuT} {o : List EnT} {p : List OuT}
def lateM (p : List OuT) : Nat := p.countP fun u => decide (u.1 > 0)
theorem lateM_snoc (p : List OuT) (x : OuT) : lateM (p ++ [x]) = lateM p + (if decide (x.1 > 0) then 1 else 0) := by
 unfold lateM
 rw [List.countP_append, List.countP_singleton]
theorem lateM_le (p : List OuT) : lateM p ≤ p.length := List.countP_le_length
theorem specLate_eq (z : HsSz d k l m o p) : Kbb (a, b, c, d, e, f, g, h, i, j, k, l, m, n, o, p) = some (bif houseOk (a, b, c, d, e, f, g, h, i, j, k, l, m, n, o, p) then ((lateM p : Nat) : Int) else 0) := by
 simp only [Kbb, specHouseOk_eq z, Option.bind_some]
 have hp := z.hp.1
 have q := lp_det (S := Kbb_s122) (fun i' => ((a, b, c, d, e, f, g, h, i, j, k, l, m, n, o, p), ((lateM (p.take i') : Nat) : Int), (i' : Int))) hp (b := ((lateM p : Nat) : Int)) (fun s hs => by
  have hl := lateM_le (p.take s)
  have hl2 : (p.take s).length ≤ s := by simp; omega
  simp only [Kbb_s122, lnn, ltn hs, Option.bind_some, cond_true, ixn hs, gxn, wsucc (show s ≤ 1048576 by omega), Kcm]
  rw [take_snoc ou0 hs, lateM_snoc]
  generalize hx : p.getD s (0, 0, 0, [], 0, 0, 0, 0, [], [], []) = u
  have hx' : p.getD s ou0 = u := hx
  obtain ⟨u0, u1⟩ := u
  simp only
  cases decide (u0 > 0)
  ·simp [w64_ok (n := ((lateM (p.take s) : Nat) : Int)) (by omega) (by omega)]
  ·simp [w64_ok (n := ((lateM (p.take s) : Nat) : Int) + 1) (by omega) (by omega)]) (by simp only [Kbb_s122, lnn, ltF, Option.bind_some, cond_false, List.take_length])
 have e0 : ((lateM (p.take 0) : Nat) : Int) = 0 := by simp [lateM]
 rw [cast0, e0] at q
 cases houseOk (a, b, c, d, e, f, g, h, i, j, k, l, m, n, o, p)
 ·rfl
 ·simp only [Bool.not_true, cond_false, cond_true, q, Option.bind_some]
theorem implLate_eq (z : HsSz d k l m o p) : Kay (a, b, c, d, e, f, g, h, i, j, k, l, m, n, o, p) = some (bif houseOk (a, b, c, d, e, f, g, h, i, j, k, l, m, n, o, p) then ((lateM p : Nat) : Int) else 0) := by
 simp only [Kay, implHouseOk_eq z, Option.bind_some]
 have hp := z.hp.1
 have q := lp_det (S := Kay_s234) (fun i => (((lateM (p.take i) : Nat) : Int), p, (p.length : Int), (i : Int))) hp (b := ((lateM p : Nat) : Int)) (fun s hs => by
  have hl := lateM_le (p.take s)
  have hl2 : (p.take s).length ≤ s := by simp; omega
  simp only [Kay_s234, ltn hs, Option.bind_some, cond_true, ixn hs, gxn, wsucc (show s ≤ 1048576 by omega)]
  rw [take_snoc ou0 hs, lateM_snoc]
  generalize hx : p.getD s (0, 0, 0, [], 0, 0, 0, 0, [], [], []) = u
  have hx' : p.getD s ou0 = u := hx
  obtain ⟨u0, u1⟩ := u
  simp only
  cases decide (u0 > 0)
  ·simp
  ·simp [w64_ok (n := ((lateM (p.take s) : Nat) : Int) + 1) (by omega) (by omega)]) (by simp only [Kay_s234, ltF, cond_false, List.take_length])
 have e0 : ((lateM (p.take 0) : Nat) : Int) = 0 := by simp [lateM]
 rw [cast0, e0] at q
 cases houseOk (a, b, c, d, e, f, g, h, i, j, k, l, m, n, o, p)
 ·rfl
 ·simp only [cond_true, lnn, q, Option.bind_some]
end
section
variable {a b c e f g h i n : Int} {d : List Int} {j : Bool} {k : List SeT} {l : List (List (List EnT))} {m : List TuT} {o : List EnT} {p : List OuT}
theorem specItems_eq (z : HsSz d k l m o p) : Kk (a, b, c, d, e, f, g, h, i, j, k, l, m, n, o, p) = some (l.flatten.flatten.length : Int) := by
 have hrows := z.rows
 have inner : ∀ q, q < l.length → lp Kk_s3730 ((a, b, c, d, e, f, g, h, i, j, k, l, m, n, o, p), ((l.take q).flatten.flatten.length : Int), (q : Int), 0) = some ((a, b, c, d, e, f, g, h, i, j, k, l, m, n, o, p), ((l.take (q + 1)).flatten.flatten.length : Int), (q : Int)) := by
  intro q hq
  have hb := row_bound hq
  have hrl := (z.hl _ (getD_mem (d := []) hq)).1
  have qq := lp_det (S := Kk_s3730) (fun s => ((a, b, c, d, e, f, g, h, i, j, k, l, m, n, o, p), (((l.take q).flatten.flatten.length + ((l.getD q []).take s).flatten.length : Nat) : Int), (q : Int), (s : Int))) hrl (b := ((a, b, c, d, e, f, g, h, i, j, k, l, m, n, o, p), (((l.take q).flatten.flatten.length + (l.getD q []).flatten.length : Nat) : Int), (q : Int))) (fun s hs => by
   have hb2 := flatten_take_le (l.getD q []) (s + 1)
   rw [take_snoc [] hs, flatten_snoc, List.length_append] at hb2
   simp only [Kk_s3730, lnn, ixn hq, gxn, Option.bind_some, ltn hs, cond_true, ixn hs, wsucc (show s ≤ 1048576 by omega)]
   rw [w64_ok (by omega) (by omega), take_snoc [] hs, flatten_snoc, List.length_append]
   congr 4
   omega) (by simp only [Kk_s3730, lnn, ixn hq, gxn, Option.bind_some, ltF, cond_false, List.take_length])
  rw [cast0, List.take_zero, List.flatten_nil, List.length_nil, Nat.add_zero] at qq
  rw [qq, take_snoc [] hq, flatten_snoc, List.flatten_append, List.length_append]
 have q1 := lp_det (S := Kk_s58) (fun q => ((a, b, c, d, e, f, g, h, i, j, k, l, m, n, o, p), ((l.take q).flatten.flatten.length : Int), (q : Int))) z.hl0 (b := (l.flatten.flatten.length : Int)) (fun q hq => by
  simp only [Kk_s58, lnn, ltn hq, Option.bind_some, cond_true, inner q hq, wsucc (show q ≤ 1048576 by have := z.hl0; omega)]) (by simp only [Kk_s58, lnn, ltF, Option.bind_some, cond_false, List.take_length])
 have e0 : ((l.take 0).flatten.flatten.length : Int) = 0 := by simp
 rw [cast0, e0] at q1
 simp only [Kk, q1, Option.bind_some]
def stM (k : List SeT) (i : Nat) : List Int := (List.range i).flatMap fun q => [sizeM (k.getD q se0).2.2.1, (k.getD q se0).2.2.2.1]
theorem stM_succ (k : List SeT) (i : Nat) : stM k (i + 1) = stM k i ++ [sizeM (k.getD i se0).2.2.1, (k.getD i se0).2.2.2.1] := by
 unfold stM
 rw [List.range_succ, List.flatMap_append]
 simp
theorem stM_len (k : List SeT) : ∀ i, (stM k i).length = 2 * i
 | 0 => rfl
 | i + 1 => by rw [stM_succ, List.length_append, stM_len k i]; simp; omega
def statsM (k : List SeT) (l : List (List (List EnT))) (o : List EnT) (p : List OuT) : List Int := [(l.flatten.flatten.length : Int), (o.length : Int), (p.length : Int), ((lateM p : Nat) : Int)] ++ stM k 3
theorem statsM_len (k : List SeT) (l : List (List (List EnT))) (o : List EnT) (p : List OuT) : (statsM k l o p).length = 10 := by
 unfold statsM
 rw [List.length_append, stM_len]
 rfl
theorem house_k (hh : houseOk (a, b, c, d, e, f, g, h, i, j, k, l, m, n, o, p) = true) : k.length = 3 := by
 unfold houseOk at hh
 simp only [Bool.and_eq_true] at hh
 exact (parts_seat hh.2.1).1
theorem specStats_eq (z : HsSz d k l m o p) : Kbw (a, b, c, d, e, f, g, h, i, j, k, l, m, n, o, p) = some (bif houseOk (a, b, c, d, e, f, g, h, i, j, k, l, m, n, o, p) then statsM k l o p else []) := by
 simp only [Kbw, specHouseOk_eq z, Option.bind_some, specItems_eq z, specLate_eq z]
 cases hh : houseOk (a, b, c, d, e, f, g, h, i, j, k, l, m, n, o, p)
 ·rfl
 ·have hk := house_k hh
  have q := lp_det (S := Kbw_s122) (fun q => ((a, b, c, d, e, f, g, h, i, j, k, l, m, n, o, p), [(l.flatten.flatten.length : Int), (o.length : Int), (p.length : Int), ((lateM p : Nat) : Int)] ++ stM k q, (q : Int))) (n := 3) (by omega) (b := statsM k l o p) (fun q hq => by
   have hqk : q < k.length := by omega
   have hs := specSize_eq (z.hk _ (getD_mem (d := se0) hqk))
   have hl := stM_len k q
   simp only [Kbw_s122, dT (show (q : Int) < 3 by omega), cond_true, ixn hqk, gxn, Option.bind_some, wsucc (show q ≤ 1048576 by omega)]
   rw [hs, Option.bind_some, fitsC (by simp only [List.length_append, List.length_cons, List.length_nil, hl]; omega) (by omega), stM_succ, List.append_assoc]) (by simp only [Kbw_s122, dF (show ¬ ((3 : Nat) : Int) < 3 by omega), cond_false, statsM])
  have e0 : stM k 0 = [] := rfl
  rw [cast0, e0, List.append_nil] at q
  simp only [Bool.not_true, cond_false, cond_true, lnn, q, Option.bind_some]
theorem implStats_eq (z : HsSz d k l m o p) : Kbo (a, b, c, d, e, f, g, h, i, j, k, l, m, n, o, p) = some (bif houseOk (a, b, c, d, e, f, g, h, i, j, k, l, m, n, o, p) then statsM k l o p else []) := by
 simp only [Kbo, Kcz, implHouseOk_eq z, Option.bind_some, implRowEntries_eq z.hl0 (fun r hr => (z.hl r hr).1) z.rows, implLate_eq z]
 cases hh : houseOk (a, b, c, d, e, f, g, h, i, j, k, l, m, n, o, p)
 ·rfl
 ·have hk := house_k hh
  have q := lp_det (S := Kbo_s122) (fun q => ([(l.flatten.flatten.length : Int), (o.length : Int), (p.length : Int), ((lateM p : Nat) : Int)] ++ stM k q, k, (k.length : Int), (q : Int))) (n := 3) (by omega) (b := statsM k l o p) (fun q hq => by
   have hqk : q < k.length := by omega
   have hs := implSize_eq (z.hk _ (getD_mem (d := se0) hqk))
   have hl := stM_len k q
   simp only [Kbo_s122, ltn hqk, cond_true, ixn hqk, gxn, Option.bind_some, wsucc (show q ≤ 1048576 by omega)]
   rw [hs, Option.bind_some, fitsC (by simp only [List.length_append, List.length_cons, List.length_nil, hl]; omega) (by omega), stM_succ, List.append_assoc]) (by rw [← hk]; simp only [Kbo_s122, ltF, cond_false, statsM, hk])
  have e0 : stM k 0 = [] := rfl
  rw [cast0, e0, List.append_nil] at q
  simp only [Bool.not_true, cond_false, cond_true, lnn, q, Option.bind_some]
end
section
variable {a b c e f g h i n : Int} {d : List Int} {j : Bool} {k : List SeT} {l : List (List (List EnT))} {m : List TuT} {o : List EnT} {p : List OuT}
theorem bst_max (x : HsT) (hnn : ∀ q : Nat, 0 ≤ (ktM x (q : Int) 0 20).1.1) : ∀ i, 0 ≤ (bst x i).2 ∧ ((bst x i).1 = -1 ∧ (bst x i).2 = 0 ∨ ∃ w : Nat, w < i ∧ (bst x i).1 = w ∧ (bst x i).2 = (ktM x (w : Int) 0 20).1.1 ∧ 0 < (bst x i).2) ∧
  ∀ q, q < i → (ktM x (q : Int) 0 20).1.1 ≤ (bst x i).2 ∧ ((ktM x (q : Int) 0 20).1.1 = (bst x i).2 → (bst x i).1 ≤ q)
 | 0 => ⟨by simp [bst], .inl ⟨rfl, rfl⟩, fun q hq => by omega⟩
 | i + 1 => by
  obtain ⟨h1, h2, h3⟩ := bst_max x hnn i
  have hb : bst x (i + 1) = if (ktM x (i : Int) 0 20).1.1 > (bst x i).2 then ((i : Int), (ktM x (i : Int) 0 20).1.1) else bst x i := rfl
  rw [hb]
  by_cases hc : (ktM x (i : Int) 0 20).1.1 > (bst x i).2
  ·rw [if_pos hc]
   refine ⟨by simp only; omega, .inr ⟨i, by omega, rfl, rfl, by simp only; omega⟩, fun q hq => ?_⟩
   simp only
   by_cases hqi : q = i
   ·subst hqi; omega
   ·have := (h3 q (by omega)).1
    constructor <;> omega
  ·rw [if_neg hc]
   refine ⟨h1, ?_, fun q hq => ?_⟩
   ·rcases h2 with h2 | ⟨w, h2⟩
    ·exact .inl h2
    ·exact .inr ⟨w, by omega, h2.2⟩
   ·by_cases hqi : q = i
    ·subst hqi
     refine ⟨by omega, fun he => ?_⟩
     rcases h2 with h2 | ⟨w, h2⟩ <;> omega
    ·exact h3 q (by omega)
end
section
variable {a b c e f g h i n : Int} {d : List Int} {j : Bool} {k : List SeT} {l : List (List (List EnT))} {m : List TuT} {o : List EnT} {p : List OuT}
theorem implItems_eq (z : HsSz d k l m o p) : Kcz (a, b, c, d, e, f, g, h, i, j, k, l, m, n, o, p) = some (l.flatten.flatten.length : Int) := by
 have hre := implRowEntries_eq (a := a) (b := b) (c := c) (d := d) (e := e) (f := f) (g := g) (h := h) (i := i) (j := j) (k := k) (m := m) (n := n) (o := o) (p := p) z.hl0 (fun r hr => (z.hl r hr).1) z.rows
 simp only [Kcz, hre, Option.bind_some, lnn]
theorem busy_tail (z : HsSz d k l m o p) :
  Kai_l1023 ((a, b, c, d, e, f, g, h, i, j, k, l, m, n, o, p), (bst (a, b, c, d, e, f, g, h, i, j, k, l, m, n, o, p) 5).1, statsM k l o p, (bst (a, b, c, d, e, f, g, h, i, j, k, l, m, n, o, p) 5).2) = some true := by
 obtain ⟨b1, b2, b3⟩ := bst_max (a, b, c, d, e, f, g, h, i, j, k, l, m, n, o, p) (fun q => (ktM_ok (a := a) (b := b) (c := c) (d := d) (e := e) (f := f) (g := g) (h := h) (i := i) (j := j) (k := k) (l := l) (m := m) (n := n) (o := o) (p := p) (q : Int) 0 20).cnt.1) 5
 have hit := implItems_eq (a := a) (b := b) (c := c) (e := e) (f := f) (g := g) (h := h) (i := i) (j := j) (n := n) z
 have hk := fun q : Nat => implKt_eq (a := a) (b := b) (c := c) (e := e) (f := f) (g := g) (h := h) (i := i) (n := n) (j := j) (q := (q : Int)) (r := 0) (s := 20) z
 have hstat : statsM k l o p = [(l.flatten.flatten.length : Int), (o.length : Int), (p.length : Int), ((lateM p : Nat) : Int)] ++ stM k 3 := rfl
 have hlate := lateM_le p
 have hlen := statsM_len k l o p
 generalize hX : bst (a, b, c, d, e, f, g, h, i, j, k, l, m, n, o, p) 5 = B at b1 b2 b3 ⊢
 obtain ⟨B1, B2⟩ := B
 simp only at b1 b2 b3 ⊢
 have q := lp_det (S := Kai_s8186) (n := 5) (fun q => ((a, b, c, d, e, f, g, h, i, j, k, l, m, n, o, p), B1, statsM k l o p, B2, (q : Int))) (by omega) (b := .inr ((a, b, c, d, e, f, g, h, i, j, k, l, m, n, o, p), B1, statsM k l o p, B2)) (fun q hq => by
  have h1 := hk q
  obtain ⟨c1, c2⟩ := b3 q hq
  generalize ktM (a, b, c, d, e, f, g, h, i, j, k, l, m, n, o, p) (q : Int) 0 20 = t at h1 c1 c2
  obtain ⟨⟨t1, t2, t3, t4, t5, t6, t7⟩, t8⟩ := t
  simp only at c1 c2
  simp only [Kai_s8186, dT (show (q : Int) ≤ 4 by omega), cond_true, h1, Option.bind_some, wsucc (show q ≤ 1048576 by omega), dF (show ¬ t1 > B2 by omega), cond_false]
  by_cases he : t1 = B2
  ·rw [show (t1 == B2) = true by simp [he], cond_true, dF (by have := c2 he; omega), cond_false]
  ·rw [show (t1 == B2) = false from beq_eq_false_iff_ne.2 he, cond_false]) (by simp only [Kai_s8186, dF (show ¬ ((5 : Nat) : Int) ≤ 4 by omega), cond_false])
 rw [cast0] at q
 simp only [Kai_l1023, q, bx_inr, hlen, dT (show 0 < 10 by omega), dT (show 2 < 10 by omega), dT (show 3 < 10 by omega), chk_tt, hit, Option.bind_some]
 simp only [hstat, List.cons_append, List.nil_append, List.getD_cons_zero, List.getD_cons_succ, beq_self_eq_true, cond_true, lnn, Option.bind_some, dT (show ((lateM p : Nat) : Int) ≤ (p.length : Int) by omega)]
 rcases b2 with ⟨rfl, rfl⟩ | ⟨w, _, rfl, _, hp⟩
 ·rfl
 ·rw [dF (show ¬ ((w : Nat) : Int) < 0 by omega), show (B2 == 0) = false from beq_eq_false_iff_ne.2 (by omega)]
  rfl
end
theorem law_busiestB (a0 : List Int) : Kai a0 = some true := by
 simp only [Kai, Keq, Option.bind_some, lnn, bif_dec]
 split
 ·rfl
 ·rename_i ha
  obtain ⟨⟨a1, b1, k1⟩, e0, g0⟩ := l1New_ok (a := a0) (by omega)
  obtain ⟨a, b, c, d, e, f, g, h, i, j, k, l, m, n, o, p, ⟨x2, y2, z2⟩, e1, z, _⟩ := draw12_ok g0
  have hd : Kdy a0 = some (a, b, c, d, e, f, g, h, i, j, k, l, m, n, o, p) := by
   simp only [Kdy, e0, e1, Option.bind_some]
  have ht := busy_tail (a := a) (b := b) (c := c) (e := e) (f := f) (g := g) (h := h) (i := i) (j := j) (n := n) z
  simp only [hd, implBusiest_eq z, specBusiest_eq z, implStats_eq z, specStats_eq z, implLate_eq z, specLate_eq z, specHouseOk_eq z, Option.bind_some, bne_self_eq_false, cond_false]
  cases hh : houseOk (a, b, c, d, e, f, g, h, i, j, k, l, m, n, o, p) with
  | false =>
   have hb := bst_no hh 5
   rw [hb]
   simp only [cond_false, sameI_eq (l := []) (by simp), Option.bind_some, Bool.not_true, Bool.not_false, cond_true]
   rfl
  | true =>
   have hk := implKt_eq (a := a) (b := b) (c := c) (e := e) (f := f) (g := g) (h := h) (i := i) (n := n) (j := j) (q := (bst (a, b, c, d, e, f, g, h, i, j, k, l, m, n, o, p) 5).1) (r := 0) (s := 20) z
   obtain ⟨b1, b2, b3⟩ := bst_max (a, b, c, d, e, f, g, h, i, j, k, l, m, n, o, p) (fun q => (ktM_ok (a := a) (b := b) (c := c) (d := d) (e := e) (f := f) (g := g) (h := h) (i := i) (j := j) (k := k) (l := l) (m := m) (n := n) (o := o) (p := p) (q : Int) 0 20).cnt.1) 5
   have hst : Kbj (statsM k l o p, statsM k l o p) = some true := sameI_eq (by rw [statsM_len]; omega)
   simp only [cond_true, hst, Option.bind_some, Bool.not_true, cond_false]
   rcases b2 with ⟨q1, q2⟩ | ⟨w, _, q1, q2, _⟩
   ·rw [q1, q2] at ht
    rw [q1, if_neg (by omega)]
    simp only [ht, Option.bind_some]
   ·rw [q1] at hk ht
    rw [q1, if_pos (by omega)]
    generalize ktM (a, b, c, d, e, f, g, h, i, j, k, l, m, n, o, p) (w : Int) 0 20 = t at hk q2
    obtain ⟨⟨t1, t2, t3, t4, t5, t6, t7⟩, t8⟩ := t
    simp only at q2
    rw [q2] at ht
    simp only [hk, Option.bind_some, ht]
end Go.Proofs.YtppjdpcmaipoaaaGreat.Tw
