/- Plain: the parts of a house: both programs tell the same. No condition: lemmas. -/
import Derived.Test.YtkegollaleklaaaGreatCt
import Derived.Test.YtkegollaleklaaaGreatHz
import Derived.Test.YtkegollaleklaaaGreatTwJH
namespace Go.Proofs.YtkegollaleklaaaGreat.Tw
open Go.Mach
set_option linter.unusedVariables false
set_option linter.unusedSimpArgs false
set_option maxRecDepth 20000
abbrev SeT := Int × Int × List SpT × Int × Int
abbrev TuT := Int × Bool × List Int
abbrev se0 : SeT := (0, 0, [], 0, 0)
abbrev tu0 : TuT := (0, false, [])
def nums (l : List Int) (a b : Int) : Bool := decide (l.length = 3) && l.all fun x => inR x a b
theorem l11Nums_eq {l : List Int} {a b : Int} (h : l.length ≤ 1048576) : spec_l11Nums (l, a, b) = some (nums l a b) := by
 have q := lp_all (S := spec_l11Nums_s58) (t := .inr ()) (e := .inl false) l 0 (fun i => (l, a, b, (i : Int))) h (fun x => inR x a b) (fun i hi hm => by
  simp only [spec_l11Nums_s58, lnn, ltn hi, cond_true, ixn hi, gxn, l1In_eq, Option.bind_some, wsucc (show i ≤ 1048576 by omega), bnot_cond]
  cases inR (l.getD i 0) a b <;> rfl) (by simp only [spec_l11Nums_s58, lnn, ltF, cond_false])
 rw [cast0] at q
 unfold nums
 simp only [spec_l11Nums, lnn, q, bne_cond]
 by_cases hc : l.length = 3
 ·rw [if_pos (by omega), dT hc]
  cases (l.all fun x => inR x a b) <;> rfl
 ·rw [if_neg (by omega), dF hc]
  rfl
theorem allWithin_eq {l : List Int} {a b : Int} (h : l.length ≤ 1048576) : impl_allWithin (l, 3, a, b) = some (nums l a b) := by
 have q := lp_all (S := impl_allWithin_s26) (t := .inr (l, 3)) (e := .inl false) l 0 (fun i => (l, 3, a, b, l, (l.length : Int), (i : Int))) h (fun x => inR x a b) (fun i hi hm => by
  simp only [impl_allWithin_s26, ltn hi, cond_true, ixn hi, gxn, within_eq, Option.bind_some, wsucc (show i ≤ 1048576 by omega), bnot_cond]
  cases inR (l.getD i 0) a b <;> rfl) (by simp only [impl_allWithin_s26, ltF, cond_false])
 rw [cast0] at q
 unfold nums
 simp only [impl_allWithin, lnn, q]
 have e : (((l.length : Nat) : Int) == 3) = decide (l.length = 3) := by
  rw [Bool.eq_iff_iff, beq_iff_eq, decide_eq_true_eq]; omega
 cases (l.all fun x => inR x a b)
 ·simp
 ·simp only [cond_true, bx_inr, lnn, e, Bool.and_true]
abbrev CoT := Int × Int × Int × List Int × Int × Int × Int × Int
def confOk (c : CoT) : Bool := inR c.1 1 8 && (inR c.2.1 1 60 && (inR c.2.2.1 1 10 && (nums c.2.2.2.1 1 4 && (inR c.2.2.2.2.1 1 100 && (inR c.2.2.2.2.2.1 1 20 && (inR c.2.2.2.2.2.2.1 0 20 && inR c.2.2.2.2.2.2.2 1 50))))))
theorem cond_chain (b x : Bool) : (bif b then some x else some false) = some (b && x) := by cases b <;> rfl
theorem specConf_eq {a b c e f g h : Int} {d : List Int} (hd : d.length ≤ 1048576) : spec_ConfOk (a, b, c, d, e, f, g, h) = some (confOk (a, b, c, d, e, f, g, h)) := by
 simp only [spec_ConfOk, l1In_eq, l11Nums_eq hd, Option.bind_some, confOk, cond_chain]
theorem implConf_eq {a b c e f g h : Int} {d : List Int} (hd : d.length ≤ 1048576) : impl_ConfOk (a, b, c, d, e, f, g, h) = some (confOk (a, b, c, d, e, f, g, h)) := by
 simp only [impl_ConfOk, within_eq, allWithin_eq hd, Option.bind_some, confOk, cond_chain]
def below (s : List SpT) (a b : Int) : Bool := setOk s && s.all fun x => decide (a ≤ x.1) && decide (x.2 ≤ b)
theorem below_iff {s : List SpT} {a b : Int} (h : setOk s = true) : below s a b = true ↔ ∀ x ∈ s, a ≤ x.1 ∧ x.2 ≤ b := by
 unfold below
 rw [h]
 simp only [Bool.true_and, List.all_eq_true, Bool.and_eq_true, decide_eq_true_eq]
theorem l8Below_eq {s : List SpT} {b : Int} (h : s.length ≤ 1048576) : spec_l8Below (s, b) = some (below s 1 b) := by
 have q := lp_all (S := spec_l8Below_s58) (t := .inr ()) (e := .inl false) s (0, 0) (fun i => (s, b, (i : Int))) h (fun x => decide (1 ≤ x.1) && decide (x.2 ≤ b)) (fun i hi hm => by
  simp only [spec_l8Below_s58, lnn, ltn hi, cond_true, ixn hi, gxn, Option.bind_some, wsucc (show i ≤ 1048576 by omega)]
  by_cases h1 : (s.getD i (0, 0)).1 < 1
  ·rw [dT h1, dF (show ¬ 1 ≤ (s.getD i (0, 0)).1 by omega)]; rfl
  ·rw [dF h1, dT (show 1 ≤ (s.getD i (0, 0)).1 by omega)]
   by_cases h2 : (s.getD i (0, 0)).2 > b
   ·rw [dT h2, dF (show ¬ (s.getD i (0, 0)).2 ≤ b by omega)]; rfl
   ·rw [dF h2, dT (show (s.getD i (0, 0)).2 ≤ b by omega)]; rfl) (by simp only [spec_l8Below_s58, lnn, ltF, cond_false])
 rw [cast0] at q
 unfold below
 simp only [spec_l8Below, specSetOk_eq h, Option.bind_some, q]
 cases setOk s
 ·rfl
 ·cases (s.all fun x => decide (1 ≤ x.1) && decide (x.2 ≤ b)) <;> rfl
theorem Canon.le_last : ∀ {s : List SpT}, Canon s → ∀ x ∈ s, x.2 ≤ (s.getD (s.length - 1) (0, 0)).2
 | [], _, x, hx => by simp at hx
 | [y], _, x, hx => by simp at hx; subst hx; simp
 | y :: z :: s, h, x, hx => by
  have hc := (Canon.split (a := [y]) (b := z :: s) h).2.1
  have ih := Canon.le_last (s := z :: s) hc
  have e : (y :: z :: s).getD ((y :: z :: s).length - 1) (0, 0) = (z :: s).getD ((z :: s).length - 1) (0, 0) := by simp
  rw [e]
  rcases List.mem_cons.1 hx with rfl | hx
  ·have h1 := ih z List.mem_cons_self
   have h2 := hc.mem z List.mem_cons_self
   have h3 := h.tail_gt (n := z.1) ⟨z, List.mem_cons_self, Int.le_refl _, h2⟩
   omega
  ·exact ih x hx
theorem allIn_eq {s : List SpT} {a b : Int} (h : s.length ≤ 1048576) : impl_allIn (s, a, b) = some (below s a b) := by
 unfold below
 simp only [impl_allIn, implSetOk_eq h, Option.bind_some, lnn]
 cases hs : setOk s
 ·rfl
 ·have hc := (setOk_iff.1 hs).1
  rw [cond_true, beq_cond]
  cases s with
  | nil => rfl
  | cons x r =>
   rw [if_neg (by simp <;> omega), chkD (by simp)]
   have hl : ((x :: r).length : Int) - 1 = ((r.length : Nat) : Int) := by simp
   rw [w64_ok (by omega) (by simp at h; omega), hl, ixn (by simp)]
   have hx : (x :: r).getD 0 (0, 0) = x := rfl
   simp only [hx, gxn, Option.bind_some]
   have hc : Canon (x :: r) := hc
   have hlast := Canon.le_last hc
   have hg : (x :: r).getD ((x :: r).length - 1) (0, 0) = (x :: r).getD r.length (0, 0) := by simp
   rw [hg] at hlast
   have hm : (x :: r).getD r.length (0, 0) ∈ x :: r := getD_mem (by simp)
   have e : ((x :: r).all fun y => decide (a ≤ y.1) && decide (y.2 ≤ b)) = (decide (a ≤ x.1) && decide (((x :: r).getD r.length (0, 0)).2 ≤ b)) := by
    rw [Bool.eq_iff_iff]
    simp only [List.all_eq_true, Bool.and_eq_true, decide_eq_true_eq]
    constructor
    ·intro q; exact ⟨(q x List.mem_cons_self).1, (q _ hm).2⟩
    ·rintro ⟨q1, q2⟩ y hy
     have := hlast y hy
     have h3 := Canon.head_le hc (n := y.1) ⟨y, hy, Int.le_refl _, Canon.mem hc y hy⟩
     omega
   rw [e, Bool.true_and]
   by_cases h1 : a ≤ x.1
   ·rw [dT (show x.1 ≥ a from h1)]; rfl
   ·rw [dF (show ¬ x.1 ≥ a from h1)]; rfl
def sizeM (s : List SpT) : Int := bif setOk s then lens s else 0
theorem lens_take {s : List SpT} (hs : setOk s = true) (i : Nat) : 0 ≤ lens (s.take i) ∧ lens (s.take i) ≤ 10000 := by
 obtain ⟨h1, h2⟩ := setOk_iff.1 hs
 have : Canon (s.take i) := by
  have e : s.take i ++ s.drop i = s := List.take_append_drop i s
  rw [← e] at h1
  exact (Canon.split h1).1
 have := lens_rng (a := 0) (b := 9999) this fun x hx => h2 x (List.mem_of_mem_take hx)
 omega
theorem specSize_eq {s : List SpT} (h : s.length ≤ 1048576) : spec_SetSize s = some (sizeM s) := by
 unfold sizeM
 simp only [spec_SetSize, specSetOk_eq h, Option.bind_some]
 cases hs : setOk s
 ·rfl
 ·obtain ⟨h1, h2⟩ := setOk_iff.1 hs
  have q := lp_det (S := spec_SetSize_s122) (fun i => (s, lens (s.take i), (i : Int))) h (b := lens s) (fun i hi => by
   have hm := getD_mem (d := (0, 0)) hi
   have a1 := lens_take hs i
   have a2 := h2 _ hm
   have a3 := h1.mem _ hm
   simp only [spec_SetSize_s122, lnn, ltn hi, cond_true, ixn hi, gxn, Option.bind_some, wsucc (show i ≤ 1048576 by omega)]
   rw [take_snoc (0, 0) hi, lens_app]
   generalize s.getD i (0, 0) = x at a2 a3
   simp only [lens]
   rw [w64_ok (n := lens (s.take i) + x.2) (by omega) (by omega), w64_ok (n := lens (s.take i) + x.2 - x.1) (by omega) (by omega), w64_ok (by omega) (by omega)]
   congr 4
   omega) (by simp only [spec_SetSize_s122, lnn, ltF, cond_false, List.take_length])
  rw [cast0, List.take_zero] at q
  have e : lens [] = 0 := rfl
  rw [e] at q
  simp only [Bool.not_true, cond_false, cond_true, q, Option.bind_some]
theorem implSize_eq {s : List SpT} (h : s.length ≤ 1048576) : impl_SetSize s = some (sizeM s) := by
 unfold sizeM
 simp only [impl_SetSize, implSetOk_eq h, Option.bind_some, lnn]
 cases hs : setOk s
 ·rfl
 ·obtain ⟨h1, h2⟩ := setOk_iff.1 hs
  have q := lp_det (S := impl_SetSize_s122) (fun i => (lens (s.take i), s, (s.length : Int), (i : Int))) h (b := lens s) (fun i hi => by
   have hm := getD_mem (d := (0, 0)) hi
   have a1 := lens_take hs i
   have a2 := h2 _ hm
   have a3 := h1.mem _ hm
   simp only [impl_SetSize_s122, ltn hi, cond_true, ixn hi, gxn, Option.bind_some, wsucc (show i ≤ 1048576 by omega)]
   rw [take_snoc (0, 0) hi, lens_app]
   generalize s.getD i (0, 0) = x at a2 a3
   simp only [lens]
   rw [w64_ok (n := x.2 - x.1) (by omega) (by omega), w64_ok (n := x.2 - x.1 + 1) (by omega) (by omega), w64_ok (by omega) (by omega)]
   congr 4
   omega) (by simp only [impl_SetSize_s122, ltF, cond_false, List.take_length])
  rw [cast0, List.take_zero] at q
  have e : lens [] = 0 := rfl
  rw [e] at q
  simp only [Bool.not_true, cond_false, cond_true, q, Option.bind_some]
def seatOk (s : SeT) (p : Int) : Bool := inR p 1 8 && (inR s.1 0 1000 && (inR s.2.1 0 60 && (below s.2.2.1 1 s.2.1 && (inR s.2.2.2.1 0 (sizeM s.2.2.1) && (decide (s.2.1 ≤ w64 (s.2.2.2.1 + p)) && inR s.2.2.2.2 0 1000000)))))
theorem specSeat_eq {s : SeT} {p : Int} (h : s.2.2.1.length ≤ 1048576) : spec_SeatOk (s, p) = some (seatOk s p) := by
 obtain ⟨a, b, c, d, e⟩ := s
 simp only at h
 simp only [spec_SeatOk, l1In_eq, l8Below_eq h, specSize_eq h, Option.bind_some, seatOk, cond_chain]
theorem implSeat_eq {s : SeT} {p : Int} (h : s.2.2.1.length ≤ 1048576) : impl_SeatOk (s, p) = some (seatOk s p) := by
 obtain ⟨a, b, c, d, e⟩ := s
 simp only at h
 simp only [impl_SeatOk, within_eq, allIn_eq h, implSize_eq h, Option.bind_some, seatOk, cond_chain]
def turnOk (t : TuT) : Bool := inR t.1 0 2 && nums t.2.2 0 1000
theorem specTurn_eq {t : TuT} (h : t.2.2.length ≤ 1048576) : spec_TurnOk t = some (turnOk t) := by
 obtain ⟨a, b, c⟩ := t
 simp only at h
 simp only [spec_TurnOk, spec_l6Agent, l1In_eq, l11Nums_eq h, Option.bind_some, turnOk, cond_chain]
theorem implTurn_eq {t : TuT} (h : t.2.2.length ≤ 1048576) : impl_TurnOk t = some (turnOk t) := by
 obtain ⟨a, b, c⟩ := t
 simp only at h
 simp only [impl_TurnOk, within_eq, allWithin_eq h, Option.bind_some, turnOk, cond_chain]
def idsM (l : List EnT) : List SpT := bif rowOk l then nrm (flat l) else []
theorem flat_le {l : List EnT} {b : Nat} (h : ∀ e ∈ l, e.2.2.1.length ≤ b) : (flat l).length ≤ l.length * b := by
 induction l with
 | nil => simp [flat]
 | cons x r ih =>
  have h1 := h x List.mem_cons_self
  have ih := ih fun e he => h e (List.mem_cons_of_mem _ he)
  simp only [flat, List.length_append, List.length_cons, Nat.add_mul]
  omega
theorem nrm_set {l : List EnT} (h : EnsOk l) : setOk (nrm (flat l)) = true :=
 setOk_iff.2 ⟨(nrm_ok fun x hx => (flat_rng h x hx).1).1, nrm_rng (flat_rng h)⟩
theorem set_len {s : List SpT} (h : setOk s = true) : s.length ≤ 5001 := by
 obtain ⟨h1, h2⟩ := setOk_iff.1 h
 have := canon_len (a := 0) (b := 9999) h1 h2
 omega
theorem flat_sml {l : List EnT} (h : EnsOk l) : Sml (flat l) := fun x hx => ⟨(flat_rng h x hx).1, (flat_rng h x hx).2.1, by have := (flat_rng h x hx).2.2; omega⟩
theorem join_step {l : List EnT} {e : EnT} (h : EnsOk l) (he : EnOk e) : spec_l5Join (nrm (flat l), e.2.2.1) = some (nrm (flat (l ++ [e]))) := by
 have hs := setOk_iff.1 (nrm_set h)
 have h1 := set_len (nrm_set h)
 have h2 := he.len
 rw [join_eq (by omega) hs.1 (fun y hy => ⟨(hs.2 y hy).1, by have := (hs.2 y hy).2; omega⟩) he.sml, putsS_nrm hs.1 (fun x hx => (he.sml x hx).1)]
 rw [nrm_app (fun x hx => (flat_rng h x hx).1) (fun x hx => (he.sml x hx).1), flat_app]
 simp only [flat, List.append_nil]
theorem specIds_eq {l : List EnT} (h : EnsLe 1048576 l) : spec_RowIds l = some (idsM l) := by
 unfold idsM
 simp only [spec_RowIds, specRowOk_eq h, Option.bind_some]
 cases hr : rowOk l
 ·rfl
 ·have hok := (rowOk_iff.1 hr).ens
  have q := lp_det (S := spec_RowIds_s122) (fun i => (l, nrm (flat (l.take i)), (i : Int))) h.1 (b := nrm (flat l)) (fun i hi => by
   have hj := join_step (l := l.take i) (e := l.getD i en0) (fun x hx => hok x (List.mem_of_mem_take hx)) (hok _ (getD_mem hi))
   have hl := h.1
   simp only [spec_RowIds_s122, lnn, ltn hi, cond_true, ixn hi, gxn, Option.bind_some, wsucc (show i ≤ 1048576 by omega)]
   rw [take_snoc en0 hi, hj, Option.bind_some]) (by simp only [spec_RowIds_s122, lnn, ltF, Option.bind_some, cond_false, List.take_length])
  have e : nrm (flat (l.take 0)) = [] := by simp [flat, nrm]
  rw [cast0, e] at q
  simp only [Bool.not_true, cond_false, cond_true, q, Option.bind_some]
theorem flat_take_le {l : List EnT} (i : Nat) : (flat (l.take i)).length ≤ (flat l).length := by
 have : flat l = flat (l.take i) ++ flat (l.drop i) := by rw [← flat_app, List.take_append_drop]
 rw [this]; simp
theorem flat_one {e : EnT} : flat [e] = e.2.2.1 := by simp [flat]
theorem idsOf_eq {l : List EnT} (hl : EnsOk l) (hn : l.length ≤ 1048576) (hf : (flat l).length ≤ 1048576) : impl_idsOf l = some (nrm (flat l)) := by
 have h := lp_det (S := impl_idsOf_s58) (fun i => (flat (l.take i), l, (l.length : Int), (i : Int))) hn (b := flat l) (fun i hi => by
  have h1 := flat_take_le (l := l) (i + 1)
  simp only [impl_idsOf_s58, ltn hi, cond_true, ixn hi, gxn, Option.bind_some, wsucc (show i ≤ 1048576 by omega)]
  rw [take_snoc en0 hi, flat_app, flat_one] at h1 ⊢
  rw [List.length_append] at h1
  generalize hx : l.getD i (0, 0, [], 0, 0, 0, 0, [], [], []) = x
  have hx' : l.getD i en0 = x := hx
  rw [hx'] at h1
  obtain ⟨x1, x2, x3, x4, x5, x6, x7, x8, x9, x10⟩ := x
  simp only at h1 ⊢
  rw [fitsC (by omega) (by omega)]) (by
  simp only [impl_idsOf_s58, ltF, cond_false, List.take_length])
 have e : flat (l.take 0) = [] := rfl
 rw [cast0, e] at h
 simp only [impl_idsOf, lnn, h, Option.bind_some, union_eq hf (flat_sml hl)]
theorem implIds_eq {l : List EnT} (h : EnsLe 1048576 l) : impl_RowIds l = some (idsM l) := by
 unfold idsM
 simp only [impl_RowIds, implRowOk_eq h, Option.bind_some]
 cases hr : rowOk l
 ·rfl
 ·have hok := rowOk_iff.1 hr
  have := flat_le (l := l) (b := 5001) fun e he => (hok.ens e he).len
  have := hok.len
  simp only [Bool.not_true, cond_false, cond_true, idsOf_eq hok.ens h.1 (by omega), Option.bind_some]
def lo (a : Int) : Int := 100 * a + 1
def hi' (a : Int) : Int := 100 * a + 60
theorem of_eq {s : List SpT} {a : Int} (h : s.length ≤ 1048576) (ha : 0 ≤ a ∧ a ≤ 2) (hs : ∀ x ∈ s, 0 ≤ x.1 ∧ x.1 ≤ 9999 ∧ 0 ≤ x.2 ∧ x.2 ≤ 9999) : spec_l12Of (s, a) = some (ovs (lo a) (hi' a) s) := by
 have q := lp_det (S := spec_l12Of_s58) (fun i => (s, a, ovs (lo a) (hi' a) (s.take i), (i : Int))) h (b := ovs (lo a) (hi' a) s) (fun i hi => by
  have a2 := hs _ (getD_mem (d := (0, 0)) hi)
  have a1 := ovs_rng (L := lo a) (H := hi' a) (by unfold lo hi'; omega) (s := s.take i)
  have hl : (s.take i).length = i := by simp; omega
  have hw : hi' a - lo a + 1 = 60 := by unfold lo hi'; omega
  rw [hl, hw] at a1
  simp only [spec_l12Of_s58, lnn, ltn hi, cond_true, ixn hi, gxn, Option.bind_some, wsucc (show i ≤ 1048576 by omega), specMax_eq, specMin_eq]
  rw [take_snoc (0, 0) hi, ovs_app]
  generalize s.getD i (0, 0) = x at a2
  generalize ovs (lo a) (hi' a) (s.take i) = t at a1
  simp only [ovs, ov]
  rw [w64_ok (n := 100 * a) (by omega) (by omega), w64_ok (n := 100 * a + 1) (by omega) (by omega), w64_ok (n := 100 * a + 60) (by omega) (by omega),
   w64_ok (n := min x.2 (100 * a + 60) - max x.1 (100 * a + 1)) (by omega) (by omega), w64_ok (n := min x.2 (100 * a + 60) - max x.1 (100 * a + 1) + 1) (by omega) (by omega), w64_ok (by omega) (by omega)]
  unfold lo hi'
  congr 5
  omega) (by simp only [spec_l12Of_s58, lnn, ltF, cond_false, List.take_length])
 rw [cast0, List.take_zero] at q
 have e : ovs (lo a) (hi' a) [] = 0 := rfl
 rw [e] at q
 simp only [spec_l12Of, q, Option.bind_some]
theorem idOf_eq {a n : Int} (ha : 0 ≤ a ∧ a ≤ 2) (hn : 1 ≤ n ∧ n ≤ 60) : impl_IdOf (a, n) = some (100 * a + n) := by
 simp only [impl_IdOf, within_eq, inR_iff.2 ha, inR_iff.2 hn, Option.bind_some, Bool.not_true, cond_false]
 rw [w64_ok (n := 100 * a) (by omega) (by omega), w64_ok (by omega) (by omega)]
end Go.Proofs.YtkegollaleklaaaGreat.Tw
