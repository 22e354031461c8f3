/- Plain: houses that are right: both programs tell the same. No condition: lemmas. -/
import Derived.Test.YtkegollaleklaaaGreatHt
namespace Go.Proofs.YtkegollaleklaaaGreat.Tw
open Go.Mach
set_option linter.unusedVariables false
set_option linter.unusedSimpArgs false
set_option maxRecDepth 20000
theorem flat_has : ∀ {l : List EnT} {n : Int}, hasN (flat l) n ↔ ∃ e ∈ l, hasN e.2.2.1 n
 | [], n => by simp [flat, hasN]
 | x :: l, n => by
  simp only [flat, hasN_append, flat_has (l := l), List.mem_cons, exists_eq_or_imp]
theorem nrm_has {l : List EnT} (h : EnsOk l) {n : Int} : hasN (nrm (flat l)) n ↔ ∃ e ∈ l, hasN e.2.2.1 n := by
 rw [(nrm_ok fun x hx => (flat_rng h x hx).1).2, flat_has]
def dApart (l : List EnT) : Bool := (List.range l.length).all fun i => apS (nrm (flat (l.take i))) (l.getD i en0).2.2.1
theorem EnsOk.take {l : List EnT} (h : EnsOk l) (i : Nat) : EnsOk (l.take i) := fun x hx => h x (List.mem_of_mem_take hx)
theorem dApart_eq {l : List EnT} (h : EnsOk l) : dApart l = apart l := by
 rw [Bool.eq_iff_iff, apart_iff]
 unfold dApart
 simp only [List.all_eq_true, List.mem_range]
 constructor
 ·intro q
  refine ⟨h, fun i k hk hi n h1 h2 => ?_⟩
  have := (ap_iff (nrm_set (h.take i)) (h _ (getD_mem hi)).set).1 (q i hi) n ((nrm_has (h.take i)).2 ⟨_, getD_mem (d := en0) (show k < (l.take i).length by simp; omega), by rw [getD_take hk]; exact h2⟩)
  exact this h1
 ·rintro ⟨_, q⟩ i hi
  refine (ap_iff (nrm_set (h.take i)) (h _ (getD_mem hi)).set).2 fun n h1 h2 => ?_
  obtain ⟨e, he, h3⟩ := (nrm_has (h.take i)).1 h1
  obtain ⟨k, hk, rfl⟩ := List.mem_iff_getElem.1 he
  have hk' : k < i := by simp at hk; omega
  have e1 : (l.take i)[k] = l.getD k en0 := by rw [← getD_get (d := en0) hk, getD_take hk']
  rw [e1] at h3
  exact q i k hk' hi n h2 h3
theorem apart_pw {l : List EnT} (h : apart l = true) : l.Pairwise (fun a b => ∀ n, hasN a.2.2.1 n → ¬ hasN b.2.2.1 n) := by
 have := (apart_iff.1 h).2
 rw [List.pairwise_iff_getElem]
 intro i j hi hj hij n h1 h2
 have := this j i hij hj n
 rw [getD_get hj, getD_get hi] at this
 exact this h2 h1
def numsIn (k : List SeT) (s : List SpT) : Bool := (List.range 3).all fun q => decide (ovs (lo q) (hi' q) s = (k.getD q se0).2.2.2.1)
def sameIn (k : List SeT) (s : List SpT) : Bool := decide (nrm s = nrm (tk k 3))
abbrev HsT := Int × Int × Int × List Int × Int × Int × Int × Int × Int × Bool × List SeT × List (List (List EnT)) × List TuT × Int × List EnT × List OuT
def houseOk : HsT → Bool
 | (a, b, c, d, e, f, g, h, i, j, k, l, m, n, o, p) => confOk (a, b, c, d, e, f, g, h) && (partsM a i n k l m && (rootIn o && (gensIn p && (apart (allM l o p) && (sameIn k (flat (allM l o p)) && numsIn k (flat (o ++ p.map (·.2))))))))
section
variable {a b c e f g h i n : Int} {d : List Int} {j : Bool} {k : List SeT} {l : List (List (List EnT))} {m : List TuT} {o : List EnT} {p : List OuT}
structure HsSz (d : List Int) (k : List SeT) (l : List (List (List EnT))) (m : List TuT) (o : List EnT) (p : List OuT) : Prop where
 hd : d.length ≤ 1048576
 hk : ∀ s ∈ k, s.2.2.1.length ≤ 1048576
 hl0 : l.length ≤ 1048576
 hl : ∀ r ∈ l, r.length ≤ 1048576 ∧ ∀ x ∈ r, EnsLe 1048576 x
 hm : ∀ t ∈ m, t.2.2.length ≤ 1048576
 ho : EnsLe 1048576 o
 hp : OutsLe 1048576 p
 all : (allM l o p).length ≤ 1048576
 flt : (flat (allM l o p)).length ≤ 1048576
theorem HsSz.added (z : HsSz d k l m o p) : o.length + p.length ≤ 1048576 := by
 have := z.all
 unfold allM at this
 rw [List.length_append, List.length_append, List.length_map] at this
 omega
theorem HsSz.addf (z : HsSz d k l m o p) : (flat (o ++ p.map (·.2))).length ≤ 1048576 := by
 have := z.flt
 unfold allM at this
 rw [flat_app, List.length_append] at this
 omega
theorem HsSz.rows (z : HsSz d k l m o p) : l.flatten.flatten.length ≤ 1048576 := by
 have := z.all
 unfold allM at this
 rw [List.length_append] at this
 omega
theorem HsSz.allLe (z : HsSz d k l m o p) : EnsLe 1048576 (allM l o p) := by
 refine ⟨z.all, fun x hx => ?_⟩
 unfold allM at hx
 rcases List.mem_append.1 hx with hx | hx
 ·obtain ⟨r, hr, hx⟩ := List.mem_flatten.1 hx
  obtain ⟨y, hy, hr⟩ := List.mem_flatten.1 hr
  exact ((z.hl y hy).2 r hr).2 x hx
 ·rcases List.mem_append.1 hx with hx | hx
  ·exact z.ho.2 x hx
  ·obtain ⟨u, hu, rfl⟩ := List.mem_map.1 hx
   exact z.hp.2 u hu
theorem parts_seat (hp : partsM a i n k l m = true) : k.length = 3 ∧ l.length = 3 ∧ m.length = 2 ∧ ∀ q, q < 3 → seatIn k l a q = true := by
 unfold partsM at hp
 simp only [Bool.and_eq_true, decide_eq_true_eq, List.all_eq_true, List.mem_range] at hp
 exact ⟨hp.1, hp.2.1, hp.2.2.1, hp.2.2.2.2.2.1⟩
theorem parts_tk (hp : partsM a i n k l m = true) : TkOk k := by
 obtain ⟨h1, _, _, h4⟩ := parts_seat hp
 intro s hs
 obtain ⟨q, hq, rfl⟩ := List.mem_iff_getElem.1 hs
 have h5 := h4 q (by omega)
 unfold seatIn seatOk at h5
 rw [getD_get hq] at h5
 simp only [Bool.and_eq_true, inR_iff] at h5
 obtain ⟨⟨_, _, h7, h8, _⟩, _⟩ := h5
 unfold below at h8
 simp only [Bool.and_eq_true, List.all_eq_true, decide_eq_true_eq] at h8
 exact ⟨h8.1, fun x hx => ⟨(h8.2 x hx).1, by have := (h8.2 x hx).2; omega⟩⟩
theorem parts_rows (hp : partsM a i n k l m = true) : ∀ y ∈ l, ∀ r ∈ y, RowOk r := by
 obtain ⟨_, h2, _, h4⟩ := parts_seat hp
 intro y hy r hr
 obtain ⟨q, hq, rfl⟩ := List.mem_iff_getElem.1 hy
 have h5 := h4 q (by omega)
 unfold seatIn rowIn at h5
 rw [getD_get hq] at h5
 simp only [Bool.and_eq_true, decide_eq_true_eq, List.all_eq_true, List.mem_range] at h5
 obtain ⟨_, h6, h7⟩ := h5
 obtain ⟨s, hs, rfl⟩ := List.mem_iff_getElem.1 hr
 have := (h7 s (by omega)).1
 rw [getD_get hs] at this
 exact rowOk_iff.1 this
theorem allOk (hp : partsM a i n k l m = true) (ho : o.all enOk = true) (hq : (p.map (·.2)).all enOk = true) : EnsOk (allM l o p) := by
 intro x hx
 unfold allM at hx
 rcases List.mem_append.1 hx with hx | hx
 ·obtain ⟨r, hr, hx⟩ := List.mem_flatten.1 hx
  obtain ⟨y, hy, hr⟩ := List.mem_flatten.1 hr
  exact (parts_rows hp y hy r hr).ens x hx
 ·rcases List.mem_append.1 hx with hx | hx
  ·exact enOk_iff.1 (List.all_eq_true.1 ho x hx)
  ·exact enOk_iff.1 (List.all_eq_true.1 hq x hx)
theorem specAps {t : List EnT} (ht : EnsOk t) (hn : t.length ≤ 1048576) : lp spec_HouseOk_s250 ((a, b, c, d, e, f, g, h, i, j, k, l, m, n, o, p), [], t, 0) = some (bif dApart t then .inr ((a, b, c, d, e, f, g, h, i, j, k, l, m, n, o, p), nrm (flat t)) else .inl false) := by
 have q := lp_idx (S := spec_HouseOk_s250) (t := .inr ((a, b, c, d, e, f, g, h, i, j, k, l, m, n, o, p), nrm (flat t))) (e := .inl false) (fun s => ((a, b, c, d, e, f, g, h, i, j, k, l, m, n, o, p), nrm (flat (t.take s)), t, (s : Int))) hn (fun i => apS (nrm (flat (t.take i))) (t.getD i en0).2.2.1) (fun s hs => by
  have he := ht _ (getD_mem (d := en0) hs)
  have hts := ht.take s
  have h1 := specApart_eq (a := nrm (flat (t.take s))) (b := (t.getD s en0).2.2.1) (by have := set_len (nrm_set hts); omega) (by have := he.len; omega)
  have h2 := join_step hts he
  simp only [spec_HouseOk_s250, lnn, ltn hs, Option.bind_some, cond_true, ixn hs, lxn hs, gxn, wsucc (show s ≤ 1048576 by omega)]
  rw [h1, Option.bind_some, h2, take_snoc en0 hs]
  cases apS (nrm (flat (t.take s))) (t.getD s en0).2.2.1 <;> rfl) (by simp only [spec_HouseOk_s250, lnn, ltF, Option.bind_some, cond_false, List.take_length])
 have e0 : nrm (flat (t.take 0)) = [] := by simp [flat, nrm]
 rw [cast0, e0] at q
 exact q
theorem en_b {x : EnT} (h : EnOk x) : ∀ y ∈ x.2.2.1, 0 ≤ y.1 ∧ y.1 ≤ 9999 ∧ 0 ≤ y.2 ∧ y.2 ≤ 9999 := fun y hy => by
 have := h.bnd y hy
 have := h.ids.mem y hy
 omega
theorem w60 (q : Int) : hi' q - lo q + 1 = 60 := by unfold lo hi'; omega
theorem ovs_b (q : Int) (s : List SpT) : 0 ≤ ovs (lo q) (hi' q) s ∧ ovs (lo q) (hi' q) s ≤ s.length * 60 := by
 have := ovs_rng (L := lo q) (H := hi' q) (by unfold lo hi'; omega) (s := s)
 rw [w60] at this
 exact this
theorem specNums (ho : EnsOk o) (hp : ∀ u ∈ p, EnOk u.2) (hk : k.length = 3) (hn : o.length + p.length ≤ 1048576) (hf : (flat (o ++ p.map (·.2))).length ≤ 1048576) :
  lp spec_HouseOk_s1018 ((a, b, c, d, e, f, g, h, i, j, k, l, m, n, o, p), 0) = some (bif numsIn k (flat (o ++ p.map (·.2))) then .inr () else .inl false) := by
 rw [flat_app, List.length_append] at hf
 have in1 : ∀ q : Nat, q < 3 → lp spec_HouseOk_s260682 ((a, b, c, d, e, f, g, h, i, j, k, l, m, n, o, p), (q : Int), 0, 0) = some ((a, b, c, d, e, f, g, h, i, j, k, l, m, n, o, p), (q : Int), ovs (lo q) (hi' q) (flat o)) := by
  intro q hq
  have qq := lp_det (S := spec_HouseOk_s260682) (fun s => ((a, b, c, d, e, f, g, h, i, j, k, l, m, n, o, p), (q : Int), ovs (lo q) (hi' q) (flat (o.take s)), (s : Int))) (n := o.length) (by omega) (b := ((a, b, c, d, e, f, g, h, i, j, k, l, m, n, o, p), (q : Int), ovs (lo q) (hi' q) (flat o))) (fun s hs => by
   have he := ho _ (getD_mem (d := en0) hs)
   have hb := ovs_b q (flat (o.take s))
   have hb2 := ovs_b q (o.getD s en0).2.2.1
   have hl := flat_take_le (l := o) s
   have hle := he.len
   have ho := of_eq (a := (q : Int)) (s := (o.getD s en0).2.2.1) (by omega) (by omega) (en_b he)
   simp only [spec_HouseOk_s260682, lnn, ltn hs, Option.bind_some, cond_true, ixn hs, gxn, wsucc (show s ≤ 1048576 by omega)]
   rw [ho, Option.bind_some, take_snoc en0 hs, flat_app, ovs_app, flat_one, w64_ok (by omega) (by omega)]) (by simp only [spec_HouseOk_s260682, lnn, ltF, Option.bind_some, cond_false, List.take_length])
  have e0 : ovs (lo q) (hi' q) (flat (o.take 0)) = 0 := by simp [flat, ovs]
  rw [cast0, e0] at qq
  exact qq
 have in2 : ∀ q : Nat, q < 3 → lp spec_HouseOk_s521370 ((a, b, c, d, e, f, g, h, i, j, k, l, m, n, o, p), (q : Int), ovs (lo q) (hi' q) (flat o), 0) = some ((a, b, c, d, e, f, g, h, i, j, k, l, m, n, o, p), (q : Int), ovs (lo q) (hi' q) (flat (o ++ p.map (·.2)))) := by
  intro q hq
  have qq := lp_det (S := spec_HouseOk_s521370) (fun s => ((a, b, c, d, e, f, g, h, i, j, k, l, m, n, o, p), (q : Int), ovs (lo q) (hi' q) (flat o) + ovs (lo q) (hi' q) (flat ((p.take s).map (·.2))), (s : Int))) (n := p.length) (by omega) (b := ((a, b, c, d, e, f, g, h, i, j, k, l, m, n, o, p), (q : Int), ovs (lo q) (hi' q) (flat (o ++ p.map (·.2))))) (fun s hs => by
   have he := hp _ (getD_mem (d := ou0) hs)
   have hb := ovs_b q (flat ((p.take s).map (·.2)))
   have hb1 := ovs_b q (flat o)
   have hb2 := ovs_b q (p.getD s ou0).2.2.2.1
   have hl := flat_take_le (l := p.map (·.2)) s
   rw [← List.map_take] at hl
   have hle := he.len
   have ho := of_eq (a := (q : Int)) (s := (p.getD s ou0).2.2.2.1) (by omega) (by omega) (en_b he)
   simp only [spec_HouseOk_s521370, lnn, ltn hs, Option.bind_some, cond_true, ixn hs, gxn, wsucc (show s ≤ 1048576 by omega)]
   rw [ho, Option.bind_some, take_snoc ou0 hs, List.map_append, flat_app, ovs_app, w64_ok (by omega) (by omega)]
   simp only [List.map_cons, List.map_nil, flat_one]
   rw [Int.add_assoc]) (by simp only [spec_HouseOk_s521370, lnn, ltF, Option.bind_some, cond_false, List.take_length, flat_app, ovs_app])
  have e0 : ovs (lo q) (hi' q) (flat o) + ovs (lo q) (hi' q) (flat ((p.take 0).map (·.2))) = ovs (lo q) (hi' q) (flat o) := by simp [flat, ovs]
  rw [cast0, e0] at qq
  exact qq
 have qq := lp_idx (S := spec_HouseOk_s1018) (t := .inr ()) (e := .inl false) (fun q => ((a, b, c, d, e, f, g, h, i, j, k, l, m, n, o, p), (q : Int))) (n := 3) (by omega) (fun q => decide (ovs (lo q) (hi' q) (flat (o ++ p.map (·.2))) = (k.getD q se0).2.2.2.1)) (fun q hq => by
  simp only [spec_HouseOk_s1018, dT (show (q : Int) < 3 by omega), cond_true, in1 q hq, in2 q hq, Option.bind_some, ixn (show q < k.length by omega), gxn, bne_cond, wsucc (show q ≤ 1048576 by omega)]
  by_cases hc : ovs (lo q) (hi' q) (flat (o ++ p.map (·.2))) = (k.getD q se0).2.2.2.1
  ·rw [if_pos hc, dT hc]; rfl
  ·rw [if_neg hc, dF hc]; rfl) (by simp only [spec_HouseOk_s1018, dF (show ¬ (((3 : Nat) : Int) < 3) by omega), cond_false])
 rw [cast0] at qq
 exact qq
theorem nrm_len {t : List EnT} (h : EnsOk t) : (nrm (flat t)).length ≤ 1048576 := by have := set_len (nrm_set h); omega
theorem specHouseOk_eq (z : HsSz d k l m o p) : spec_HouseOk (a, b, c, d, e, f, g, h, i, j, k, l, m, n, o, p) = some (houseOk (a, b, c, d, e, f, g, h, i, j, k, l, m, n, o, p)) := by
 unfold houseOk
 simp only [spec_HouseOk, specConf_eq z.hd, specParts_eq z.hk z.hl z.hm, specRoot_eq z.ho z.hp, specAll_eq z.hl0 (fun r hr => (z.hl r hr).1) z.all, Option.bind_some, rootE_eq, outE_eq]
 cases hc : confOk (a, b, c, d, e, f, g, h)
 ·rfl
 cases hp : partsM a i n k l m
 ·rfl
 have hfalse : (o.all enOk && (p.map (·.2)).all enOk) = false → apart (allM l o p) = false := fun hx => by
  rw [Bool.eq_false_iff] at hx ⊢
  intro hy
  have hens := (apart_iff.1 hy).1
  refine hx (Bool.and_eq_true_iff.2 ⟨List.all_eq_true.2 fun x hx => enOk_iff.2 (hens x ?_), List.all_eq_true.2 fun x hx => enOk_iff.2 (hens x ?_)⟩)
  ·unfold allM; exact List.mem_append_right _ (List.mem_append_left _ hx)
  ·unfold allM; exact List.mem_append_right _ (List.mem_append_right _ hx)
 cases h1 : o.all enOk
 ·rw [hfalse (by rw [h1]; rfl)]
  cases rootIn o <;> cases gensIn p <;> rfl
 cases h2 : (p.map (·.2)).all enOk
 ·rw [hfalse (by rw [h1, h2]; rfl)]
  cases rootIn o <;> cases gensIn p <;> rfl
 cases hr : rootIn o
 ·rfl
 cases hg : gensIn p
 ·rfl
 have hens := allOk hp h1 h2
 obtain ⟨hk3, _⟩ := parts_seat hp
 have hpo : ∀ u ∈ p, EnOk u.2 := fun u hu => hens _ (by unfold allM; exact List.mem_append_right _ (List.mem_append_right _ (List.mem_map_of_mem hu)))
 have hoo : EnsOk o := fun u hu => hens _ (by unfold allM; exact List.mem_append_right _ (List.mem_append_left _ hu))
 simp only [Bool.true_and, Bool.not_true, cond_false, specAps hens z.all, dApart_eq hens]
 cases hap : apart (allM l o p)
 ·rfl
 simp only [cond_true, bx_inr, specTaken_eq (parts_tk hp) hk3, Option.bind_some, l5Same_eq (nrm_len hens), specNums hoo hpo hk3 z.added z.addf, Bool.true_and]
 unfold sameIn
 cases decide (nrm (flat (allM l o p)) = nrm (tk k 3))
 ·rfl
 ·cases numsIn k (flat (o ++ p.map (·.2))) <;> rfl
theorem cntN_succ (L : Int) (q : Nat) (s : List SpT) : cntN L (q + 1) s = cntN L q s + if hasB s (L + q) then 1 else 0 := by
 unfold cntN
 rw [List.range_succ, List.countP_append, List.countP_singleton]
theorem cntN_le (L : Int) (q : Nat) (s : List SpT) : cntN L q s ≤ q := by
 unfold cntN
 have := List.countP_le_length (l := List.range q) (p := fun i : Nat => hasB s (L + i))
 simpa using this
theorem implSeats (hk : k.length = 3) (ht : TkOk k) {r : List SpT} (hr : r.length ≤ 1048576) :
  lp impl_HouseOk_s250 ((a, b, c, d, e, f, g, h, i, j, k, l, m, n, o, p), [], r, k, (k.length : Int), 0) = some (bif (List.range 3).all (fun q => decide (((cntN (lo q) 60 r : Nat) : Int) = (k.getD q se0).2.2.2.1)) then .inr ((a, b, c, d, e, f, g, h, i, j, k, l, m, n, o, p), tk k 3) else .inl false) := by
 have in1 : ∀ (q : Nat) (s : List SpT) (y : SeT) (a1 : List SeT) (b1 c1 : Int), q < 3 → lp impl_HouseOk_s256410 ((a, b, c, d, e, f, g, h, i, j, k, l, m, n, o, p), s, r, (q : Int), y, 0, 1, a1, b1, c1) = some ((a, b, c, d, e, f, g, h, i, j, k, l, m, n, o, p), s, r, (q : Int), y, ((cntN (lo q) 60 r : Nat) : Int), a1, b1, c1) := by
  intro q s y a1 b1 c1 hq
  obtain ⟨y1, y2, y3, y4, y5⟩ := y
  have qq := lp_det (S := impl_HouseOk_s256410) (fun x => ((a, b, c, d, e, f, g, h, i, j, k, l, m, n, o, p), s, r, (q : Int), (y1, y2, y3, y4, y5), ((cntN (lo q) x r : Nat) : Int), 1 + (x : Int), a1, b1, c1)) (n := 60) (by omega) (b := ((a, b, c, d, e, f, g, h, i, j, k, l, m, n, o, p), s, r, (q : Int), (y1, y2, y3, y4, y5), ((cntN (lo q) 60 r : Nat) : Int), a1, b1, c1)) (fun x hx => by
   have hl := cntN_le (lo q) x r
   have e1 : w64 (1 + (x : Int) + 1) = 1 + ((x + 1 : Nat) : Int) := by rw [w64_ok (by omega) (by omega)]; omega
   have e2 : 100 * (q : Int) + (1 + (x : Int)) = lo q + x := by unfold lo; omega
   simp only [impl_HouseOk_s256410, dT (show 1 + (x : Int) ≤ 60 by omega), cond_true, idOf_eq (a := (q : Int)) (n := 1 + (x : Int)) (by omega) (by omega), Option.bind_some, setHas_eq hr, e1, e2]
   rw [cntN_succ]
   cases hasB r (lo q + x)
   ·simp
   ·simp [wsucc (show cntN (lo q) x r ≤ 1048576 by omega)]) (by simp only [impl_HouseOk_s256410, dF (show ¬ 1 + ((60 : Nat) : Int) ≤ 60 by omega), cond_false])
  have e0 : ((cntN (lo q) 0 r : Nat) : Int) = 0 := by simp [cntN]
  rw [cast0, e0] at qq
  exact qq
 have in2 : ∀ (q : Nat) (v w : Int), q < 3 → lp impl_HouseOk_s512830 ((a, b, c, d, e, f, g, h, i, j, k, l, m, n, o, p), tk k q, r, (q : Int), k, v, w, (k.getD q se0).2.2.1, ((k.getD q se0).2.2.1.length : Int), 0) = some ((a, b, c, d, e, f, g, h, i, j, k, l, m, n, o, p), tk k (q + 1), r, k, v, w) := by
  intro q v w hq
  have hqk : q < k.length := by omega
  have h1 := ht _ (getD_mem (d := se0) hqk)
  have hsl := set_len h1.1
  have htl := tk_len ht q (by omega)
  rw [tk_succ]
  generalize (k.getD q se0).2.2.1 = t at h1 hsl ⊢
  have qq := lp_det (S := impl_HouseOk_s512830) (fun s => ((a, b, c, d, e, f, g, h, i, j, k, l, m, n, o, p), tk k q ++ ((t.take s).map fun s => (100 * (q : Int) + s.1, 100 * (q : Int) + s.2)), r, (q : Int), k, v, w, t, (t.length : Int), (s : Int))) (n := t.length) (by omega) (b := ((a, b, c, d, e, f, g, h, i, j, k, l, m, n, o, p), tk k q ++ (t.map fun s => (100 * (q : Int) + s.1, 100 * (q : Int) + s.2)), r, k, v, w)) (fun s hs => by
   have hm := getD_mem (d := (0, 0)) hs
   have h2 := h1.2 _ hm
   have h3 := (setOk_iff.1 h1.1).1.mem _ hm
   simp only [impl_HouseOk_s512830, ltn hs, cond_true, ixn hs, gxn, Option.bind_some, wsucc (show s ≤ 1048576 by omega)]
   rw [idOf_eq (by omega) (by omega), Option.bind_some, idOf_eq (by omega) (by omega), Option.bind_some, fitsC (by simp; omega) (by omega), take_snoc (0, 0) hs, List.map_append, List.append_assoc]
   rfl) (by simp only [impl_HouseOk_s512830, ltF, cond_false, List.take_length])
  rw [cast0, List.take_zero, List.map_nil, List.append_nil] at qq
  exact qq
 have qq := lp_idx (S := impl_HouseOk_s250) (t := .inr ((a, b, c, d, e, f, g, h, i, j, k, l, m, n, o, p), tk k 3)) (e := .inl false) (fun q => ((a, b, c, d, e, f, g, h, i, j, k, l, m, n, o, p), tk k q, r, k, (k.length : Int), (q : Int))) (n := 3) (by omega) (fun q => decide (((cntN (lo q) 60 r : Nat) : Int) = (k.getD q se0).2.2.2.1)) (fun q hq => by
  have hqk : q < k.length := by omega
  have i1 := in1 q (tk k q) (k.getD q se0) k (k.length : Int) (q : Int) hq
  have i2 := in2 q (k.length : Int) (q : Int) hq
  simp only [impl_HouseOk_s250, ltn hqk, cond_true, ixn hqk, gxn, Option.bind_some]
  generalize hx : k.getD q (0, 0, [], 0, 0) = y
  have hx' : k.getD q se0 = y := hx
  rw [hx'] at i1 i2
  obtain ⟨y1, y2, y3, y4, y5⟩ := y
  simp only at i1 i2 ⊢
  simp only [i1, Option.bind_some, lnn, i2, bne_cond, wsucc (show q ≤ 1048576 by omega)]
  by_cases hc : ((cntN (lo q) 60 r : Nat) : Int) = y4
  ·rw [if_pos hc, dT hc]; rfl
  ·rw [if_neg hc, dF hc]; rfl) (by rw [← hk]; simp only [impl_HouseOk_s250, ltF, cond_false])
 have e0 : tk k 0 = [] := by simp [tk]
 rw [cast0, e0] at qq
 exact qq
theorem implGens (hp : p.length ≤ 1048576) : lp impl_HouseOk_s1018 ((a, b, c, d, e, f, g, h, i, j, k, l, m, n, o, p), p, (p.length : Int), 0) = some (bif gensIn p then .inr () else .inl false) := by
 have q2 := lp_idx (S := impl_HouseOk_s1018) (t := .inr ()) (e := .inl false) (fun q => ((a, b, c, d, e, f, g, h, i, j, k, l, m, n, o, p), p, (p.length : Int), (q : Int))) hp (fun s => decide ((p.getD s ou0).1 = toldM (p.take s) (p.getD s ou0).2.1 (p.getD s ou0).2.2.1)) (fun s hs => by
  have hlen : (p.take s).length ≤ 1048576 := by simp; omega
  simp only [impl_HouseOk_s1018, ltn hs, Option.bind_some, cond_true, ixn hs, gxn, wsucc (show s ≤ 1048576 by omega), Int.toNat_natCast]
  generalize hx : p.getD s (0, 0, 0, [], 0, 0, 0, 0, [], [], []) = x
  have hx' : p.getD s ou0 = x := hx
  obtain ⟨x0, x1, x2, x3⟩ := x
  simp only
  rw [g0_ok (by omega), chkD (by omega), told_eq hlen, Option.bind_some, bne_cond]
  by_cases h1 : x0 = ((toldM (p.take s) x1 x2 : Nat) : Int)
  ·rw [if_pos h1, dT h1]; rfl
  ·rw [if_neg h1, dF h1]; rfl) (by simp only [impl_HouseOk_s1018, ltF, cond_false])
 rw [cast0] at q2
 exact q2
theorem sml_tk (ht : TkOk k) (hk : k.length = 3) : Sml (tk k 3) := fun x hx => by
 have := tk_rng ht 3 (by omega) (by omega) x hx
 omega
theorem implHouseOk_eq (z : HsSz d k l m o p) : impl_HouseOk (a, b, c, d, e, f, g, h, i, j, k, l, m, n, o, p) = some (houseOk (a, b, c, d, e, f, g, h, i, j, k, l, m, n, o, p)) := by
 unfold houseOk
 have hal := implAp_eq z.allLe
 unfold allM at hal
 have hz := z.all
 unfold allM at hz
 have hf : fits (l.flatten.flatten.length + (o ++ p.map (·.2)).length) 144 = true := fitsB (by rw [List.length_append] at hz; omega) (by omega)
 simp only [impl_HouseOk, implParts_eq z.hd z.hk z.hl z.hm z.ho.1, implRowEntries_eq z.hl0 (fun r hr => (z.hl r hr).1) z.rows, implAdded_eq z.added, Option.bind_some, hf, chk_tt, hal]
 cases hc : confOk (a, b, c, d, e, f, g, h)
 ·rfl
 cases hp : partsM a i n k l m
 ·rfl
 cases hr : rootIn o
 ·rfl
 simp only [Bool.true_and, Bool.not_true, cond_false]
 cases hap : apart (l.flatten.flatten ++ (o ++ p.map (·.2)))
 ·have : apart (allM l o p) = false := hap
  rw [this]
  cases gensIn p <;> rfl
 have hap' : apart (allM l o p) = true := hap
 have hens := (apart_iff.1 hap).1
 have hadd : EnsOk (o ++ p.map (·.2)) := fun x hx => hens x (List.mem_append_right _ hx)
 obtain ⟨hk3, _⟩ := parts_seat hp
 have htk := parts_tk hp
 have htl := tk_len htk 3 (by omega)
 have hids := idsOf_eq hadd (by simp; exact z.added) z.addf
 have hids2 := idsOf_eq hens z.all z.flt
 have hre := implRowEntries_eq (a := a) (b := b) (c := c) (d := d) (e := e) (f := f) (g := g) (h := h) (i := i) (j := j) (k := k) (m := m) (n := n) (o := o) (p := p) z.hl0 (fun r hr => (z.hl r hr).1) z.rows
 have hae := implAdded_eq (a := a) (b := b) (c := c) (d := d) (e := e) (f := f) (g := g) (h := h) (i := i) (j := j) (k := k) (l := l) (m := m) (n := n) z.added
 have hnum : (List.range 3).all (fun q => decide (((cntN (lo q) 60 (nrm (flat (o ++ p.map (·.2)))) : Nat) : Int) = (k.getD q se0).2.2.2.1)) = numsIn k (flat (o ++ p.map (·.2))) := by
  unfold numsIn
  congr 1
  funext q
  rw [cnt_same (nrm_ok fun x hx => (flat_rng hadd x hx).1).2, cnt_eq (fun x hx => (flat_rng hadd x hx).1) (flat_pd hadd (List.pairwise_append.1 (apart_pw hap)).2.1)]
  have e : lo q + ((60 : Nat) : Int) - 1 = hi' q := by unfold lo hi'; omega
  rw [e]
 simp only [Bool.not_true, cond_false, hids, hids2, Option.bind_some, lnn, implSeats hk3 htk (nrm_len hadd), hnum, hap', Bool.true_and]
 cases hn : numsIn k (flat (o ++ p.map (·.2)))
 ·cases gensIn p <;> cases sameIn k (flat (allM l o p)) <;> rfl
 ·have hsm : decide (nrm (tk k 3) = nrm (flat (l.flatten.flatten ++ (o ++ p.map (·.2))))) = sameIn k (flat (allM l o p)) := by
   unfold sameIn allM
   rw [decide_eq_decide]
   exact ⟨fun q => q.symm, fun q => q.symm⟩
  have htn : (nrm (tk k 3)).length ≤ 1048576 := by
   have := canon_len (a := 0) (b := 260) (nrm_ok fun x hx => (tk_rng htk 3 (by omega) (by omega) x hx).1).1 (nrm_rng (tk_rng htk 3 (by omega) (by omega)))
   omega
  simp only [cond_true, bx_inr, union_eq (show (tk k 3).length ≤ 1048576 by omega) (sml_tk htk hk3), hre, hae, Option.bind_some, hf, chk_tt, hids2, eqSp_eq htn, hsm, lnn, implGens z.hp.1, Bool.and_true]
  cases sameIn k (flat (allM l o p)) <;> cases gensIn p <;> rfl
end
end Go.Proofs.YtkegollaleklaaaGreat.Tw
