/- Plain: houses that are right: the parts. No condition: lemmas. -/
import Derived.Test.YtkegollaleklaaaGreatHc
namespace Go.Proofs.YtkegollaleklaaaGreat.Tw
open Go.Mach
set_option linter.unusedVariables false
set_option linter.unusedSimpArgs false
set_option maxRecDepth 20000
section
variable {a b c e f g h i n : Int} {d : List Int} {j : Bool} {k : List SeT} {l : List (List (List EnT))} {m : List TuT} {o : List EnT} {p : List OuT}
def rowIn (q : Int) (r : List EnT) : Bool := rowOk r && below (nrm (flat r)) (lo q) (hi' q)
def seatIn (k : List SeT) (l : List (List (List EnT))) (per : Int) (q : Nat) : Bool :=
 seatOk (k.getD q se0) per && (decide ((l.getD q []).length = 2) && (List.range 2).all fun r => rowIn q ((l.getD q []).getD r []))
def partsM (a i n : Int) (k : List SeT) (l : List (List (List EnT))) (m : List TuT) : Bool :=
 decide (k.length = 3) && (decide (l.length = 3) && (decide (m.length = 2) && (inR n 0 1000 && (inR i 0 100000 && ((List.range 3).all (seatIn k l a) && (List.range 2).all fun t => turnOk (m.getD t tu0))))))
theorem specRow_one {r : List EnT} {q : Nat} (hq : q < 3) (hr : rowOk r = true) : (ovs (lo q) (hi' q) (nrm (flat r)) = sizeM (nrm (flat r))) ↔ below (nrm (flat r)) (lo q) (hi' q) = true := by
 have hs := nrm_set (rowOk_iff.1 hr).ens
 rw [below_iff hs]
 unfold sizeM
 rw [hs, cond_true]
 exact (ovs_lens (setOk_iff.1 hs).1.mem).2
theorem specRows (hl : l.length = 3) (hle : ∀ r ∈ l, r.length ≤ 1048576 ∧ ∀ x ∈ r, EnsLe 1048576 x) {q : Nat} (hq : q < 3) (h2 : (l.getD q []).length = 2) {s : List (List (List EnT))} {t : Int} {u v : List (List EnT)} {w : Int} {x : Bool} :
  lp spec_l12Parts_s7462 ((a, b, c, d, e, f, g, h, i, j, k, l, m, n, o, p), (q : Int), 0, (), s, t, (u, ()), v, w, x) = some (bif (List.range 2).all (fun r => rowIn q ((l.getD q []).getD r [])) then .inr ((a, b, c, d, e, f, g, h, i, j, k, l, m, n, o, p), (q : Int), (), s, t, (u, ()), v, w, x) else .inl false) := by
 have hql : q < l.length := by omega
 have hrow := (hle _ (getD_mem (d := []) hql)).2
 have qq := lp_idx (S := spec_l12Parts_s7462) (t := .inr ((a, b, c, d, e, f, g, h, i, j, k, l, m, n, o, p), (q : Int), (), s, t, (u, ()), v, w, x)) (e := .inl false) (fun r => ((a, b, c, d, e, f, g, h, i, j, k, l, m, n, o, p), (q : Int), (r : Int), (), s, t, (u, ()), v, w, x)) (n := 2) (by omega) (fun r => rowIn q ((l.getD q []).getD r [])) (fun r hr => by
  have hr2 : r < (l.getD q []).length := by omega
  have hx := hrow _ (getD_mem (d := []) hr2)
  simp only [spec_l12Parts_s7462, dT (show (r : Int) < 2 by omega), cond_true, ixn hql, gxn, Option.bind_some, ixn hr2, wsucc (show r ≤ 1048576 by omega)]
  rw [specIds_eq hx, Option.bind_some, specRowOk_eq hx, Option.bind_some]
  unfold rowIn idsM
  cases hrr : rowOk ((l.getD q []).getD r [])
  ·rfl
  ·have hs := nrm_set (rowOk_iff.1 hrr).ens
   have hs' := setOk_iff.1 hs
   simp only [cond_true, Bool.not_true, cond_false]
   rw [of_eq (by have := set_len hs; omega) (by omega) (fun y hy => by have := hs'.2 y hy; have := hs'.1.mem y hy; omega), specSize_eq (by have := set_len hs; omega)]
   simp only [Option.bind_some, bne_cond, Bool.true_and]
   by_cases hb : below (nrm (flat ((l.getD q []).getD r []))) (lo q) (hi' q) = true
   ·rw [if_pos ((specRow_one hq hrr).2 hb), hb]; rfl
   ·rw [if_neg (fun z => hb ((specRow_one hq hrr).1 z)), Bool.eq_false_iff.2 hb]; rfl) (by simp only [spec_l12Parts_s7462, dF (show ¬ (((2 : Nat) : Int) < 2) by omega), cond_false])
 rw [cast0] at qq
 exact qq
theorem specParts_eq (hk : ∀ s ∈ k, s.2.2.1.length ≤ 1048576) (hle : ∀ r ∈ l, r.length ≤ 1048576 ∧ ∀ x ∈ r, EnsLe 1048576 x) (hm : ∀ t ∈ m, t.2.2.length ≤ 1048576) : spec_l12Parts (a, b, c, d, e, f, g, h, i, j, k, l, m, n, o, p) = some (partsM a i n k l m) := by
 unfold partsM
 simp only [spec_l12Parts, lnn, bne_cond, l1In_eq, Option.bind_some]
 by_cases h1 : k.length = 3
 ·by_cases h2 : l.length = 3
  ·by_cases h3 : m.length = 2
   ·have q1 := lp_idx (S := spec_l12Parts_s58) (t := .inr (a, b, c, d, e, f, g, h, i, j, k, l, m, n, o, p)) (e := .inl false) (fun q => ((a, b, c, d, e, f, g, h, i, j, k, l, m, n, o, p), (q : Int))) (n := 3) (by omega) (seatIn k l a) (fun q hq => by
     have hqk : q < k.length := by omega
     have hql : q < l.length := by omega
     have hse := specSeat_eq (p := a) (hk _ (getD_mem (d := se0) hqk))
     simp only [spec_l12Parts_s58, dT (show (q : Int) < 3 by omega), cond_true, ixn hqk, gxn, Option.bind_some, ixn hql, wsucc (show q ≤ 1048576 by omega), lnn]
     unfold seatIn
     generalize hx : k.getD q (0, 0, [], 0, 0) = x
     have hx' : k.getD q se0 = x := hx
     rw [hx'] at hse
     obtain ⟨x1, x2, x3, x4, x5⟩ := x
     simp only [hse, Option.bind_some, bne_cond]
     cases seatOk (x1, x2, x3, x4, x5) a
     ·rfl
     ·simp only [Bool.not_true, cond_false, Bool.true_and]
      by_cases h4 : (l.getD q []).length = 2
      ·rw [if_pos (by omega), dT h4, Bool.true_and]
       have hr := specRows (a := a) (b := b) (c := c) (d := d) (e := e) (f := f) (g := g) (h := h) (i := i) (j := j) (k := k) (m := m) (n := n) (o := o) (p := p) h2 hle hq h4 (s := l) (t := (q : Int)) (u := l.getD q []) (v := l.getD q []) (w := ((l.getD q []).length : Int)) (x := ((l.getD q []).length : Int) != 2)
       rw [hr]
       cases (List.range 2).all (fun r => rowIn q ((l.getD q []).getD r []))
       ·rfl
       ·simp only [cond_true, bx_inr, wsucc (show q ≤ 1048576 by omega)]
      ·rw [if_neg (by omega), dF h4]; rfl) (by simp only [spec_l12Parts_s58, dF (show ¬ (((3 : Nat) : Int) < 3) by omega), cond_false])
    have q2 := lp_idx (S := spec_l12Parts_s122) (t := .inr ()) (e := .inl false) (fun q => ((a, b, c, d, e, f, g, h, i, j, k, l, m, n, o, p), (q : Int))) (n := 2) (by omega) (fun t => turnOk (m.getD t tu0)) (fun q hq => by
     have hqm : q < m.length := by omega
     have hte := specTurn_eq (hm _ (getD_mem (d := tu0) hqm))
     simp only [spec_l12Parts_s122, dT (show (q : Int) < 2 by omega), cond_true, ixn hqm, gxn, Option.bind_some, wsucc (show q ≤ 1048576 by omega)]
     generalize hx : m.getD q (0, false, []) = x
     have hx' : m.getD q tu0 = x := hx
     rw [hx'] at hte
     obtain ⟨x1, x2, x3⟩ := x
     simp only [hte, Option.bind_some]
     cases turnOk (x1, x2, x3) <;> rfl) (by simp only [spec_l12Parts_s122, dF (show ¬ (((2 : Nat) : Int) < 2) by omega), cond_false])
    rw [cast0] at q1 q2
    rw [if_pos (by omega), if_pos (by omega), if_pos (by omega), dT h1, dT h2, dT h3, q1]
    cases inR n 0 1000 <;> cases inR i 0 100000 <;> try rfl
    cases (List.range 3).all (seatIn k l a)
    ·rfl
    ·simp only [Bool.not_true, cond_false, cond_true, bx_inr, q2]
     cases ((List.range 2).all fun t => turnOk (m.getD t tu0)) <;> rfl
   ·rw [if_pos (by omega), if_pos (by omega), if_neg (by omega), dF h3]; simp
  ·rw [if_pos (by omega), if_neg (by omega), dF h2]; simp
 ·rw [if_neg (by omega), dF h1]; rfl
def aheadB (x y : EnT) : Bool := decide (x.1 < y.1) || (x.1 == y.1 && decide (x.2.1 < y.2.1))
def rootIn (o : List EnT) : Bool := (List.range o.length).all fun s => decide (s = 0) || aheadB (o.getD (s - 1) en0) (o.getD s en0)
def toldM (p : List OuT) (x y : Int) : Nat := p.countP fun u => u.2.1 == x && u.2.2.1 == y
def gensIn (p : List OuT) : Bool := (List.range p.length).all fun s => decide ((p.getD s ou0).1 = toldM (p.take s) (p.getD s ou0).2.1 (p.getD s ou0).2.2.1)
theorem ahead_eq (x y : EnT) : impl_ahead (x, y) = some (aheadB x y) := by
 obtain ⟨x1, x2, x3, x4, x5, x6, x7, x8, x9, x10⟩ := x
 obtain ⟨y1, y2, y3, y4, y5, y6, y7, y8, y9, y10⟩ := y
 simp only [impl_ahead, aheadB]
 cases decide (x1 < y1) <;> cases x1 == y1 <;> rfl
theorem implRows (hl : l.length = 3) (hle : ∀ r ∈ l, r.length ≤ 1048576 ∧ ∀ x ∈ r, EnsLe 1048576 x) {q : Nat} (hq : q < 3) (h2 : (l.getD q []).length = 2) {r : List SeT} {s t : Int} {u : List (List (List EnT))} {v : Int} {w x : List (List EnT)} {y : Int} {z : Bool} :
  lp impl_partsOk_s29902 ((a, b, c, d, e, f, g, h, i, j, k, l, m, n, o, p), (q : Int), r, s, t, (), u, v, (w, ()), x, y, z, l.getD q [], ((l.getD q []).length : Int), 0) = some (bif (List.range 2).all (fun r => rowIn q ((l.getD q []).getD r [])) then .inr ((a, b, c, d, e, f, g, h, i, j, k, l, m, n, o, p), r, s, t, (), u, v, (w, ()), x, y, z) else .inl false) := by
 have hql : q < l.length := by omega
 have hrow := (hle _ (getD_mem (d := []) hql)).2
 have qq := lp_idx (S := impl_partsOk_s29902) (t := .inr ((a, b, c, d, e, f, g, h, i, j, k, l, m, n, o, p), r, s, t, (), u, v, (w, ()), x, y, z)) (e := .inl false) (fun i' => ((a, b, c, d, e, f, g, h, i, j, k, l, m, n, o, p), (q : Int), r, s, t, (), u, v, (w, ()), x, y, z, l.getD q [], ((l.getD q []).length : Int), (i' : Int))) (n := 2) (by omega) (fun r => rowIn q ((l.getD q []).getD r [])) (fun r hr => by
  have hr2 : r < (l.getD q []).length := by omega
  have hx := hrow _ (getD_mem (d := []) hr2)
  simp only [impl_partsOk_s29902, ltn hr2, cond_true, gxn, Option.bind_some, ixn hr2, wsucc (show r ≤ 1048576 by omega)]
  rw [implRowOk_eq hx, Option.bind_some, implIds_eq hx, Option.bind_some]
  simp only [idOf_eq (a := (q : Int)) (n := 1) (by omega) (by omega), idOf_eq (a := (q : Int)) (n := 60) (by omega) (by omega), Option.bind_some]
  unfold rowIn idsM
  cases hrr : rowOk ((l.getD q []).getD r [])
  ·rfl
  ·have hs := nrm_set (rowOk_iff.1 hrr).ens
   simp only [cond_true, Bool.not_true, cond_false, Bool.true_and]
   rw [allIn_eq (by have := set_len hs; omega), Option.bind_some]
   show (bif !below _ (100 * (q : Int) + 1) (100 * (q : Int) + 60) then _ else _) = some (bif below _ (100 * (q : Int) + 1) (100 * (q : Int) + 60) then _ else _)
   cases below (nrm (flat ((l.getD q []).getD r []))) (100 * (q : Int) + 1) (100 * (q : Int) + 60) <;> rfl) (by rw [h2]; simp only [impl_partsOk_s29902, ltF, cond_false])
 rw [cast0] at qq
 exact qq
theorem implParts_eq (hd : d.length ≤ 1048576) (hk : ∀ s ∈ k, s.2.2.1.length ≤ 1048576) (hle : ∀ r ∈ l, r.length ≤ 1048576 ∧ ∀ x ∈ r, EnsLe 1048576 x) (hm : ∀ t ∈ m, t.2.2.length ≤ 1048576) (ho : o.length ≤ 1048576) :
  impl_partsOk (a, b, c, d, e, f, g, h, i, j, k, l, m, n, o, p) = some (confOk (a, b, c, d, e, f, g, h) && (partsM a i n k l m && rootIn o)) := by
 unfold partsM
 simp only [impl_partsOk, lnn, bne_cond, within_eq, implConf_eq hd, Option.bind_some]
 by_cases h1 : k.length = 3
 ·by_cases h2 : l.length = 3
  ·by_cases h3 : m.length = 2
   ·have q1 := lp_idx (S := impl_partsOk_s58) (t := .inr (a, b, c, d, e, f, g, h, i, j, k, l, m, n, o, p)) (e := .inl false) (fun q => ((a, b, c, d, e, f, g, h, i, j, k, l, m, n, o, p), k, (k.length : Int), (q : Int))) (n := 3) (by omega) (seatIn k l a) (fun q hq => by
     have hqk : q < k.length := by omega
     have hql : q < l.length := by omega
     have hse := implSeat_eq (p := a) (hk _ (getD_mem (d := se0) hqk))
     simp only [impl_partsOk_s58, ltn hqk, cond_true, ixn hqk, gxn, Option.bind_some, ixn hql, wsucc (show q ≤ 1048576 by omega), lnn]
     unfold seatIn
     generalize hx : k.getD q (0, 0, [], 0, 0) = x
     have hx' : k.getD q se0 = x := hx
     rw [hx'] at hse
     obtain ⟨x1, x2, x3, x4, x5⟩ := x
     simp only [hse, Option.bind_some, bne_cond]
     cases seatOk (x1, x2, x3, x4, x5) a
     ·rfl
     ·simp only [Bool.not_true, cond_false, Bool.true_and]
      by_cases h4 : (l.getD q []).length = 2
      ·rw [if_pos (by omega), dT h4, Bool.true_and]
       have hr := implRows (a := a) (b := b) (c := c) (d := d) (e := e) (f := f) (g := g) (h := h) (i := i) (j := j) (k := k) (m := m) (n := n) (o := o) (p := p) h2 hle hq h4 (r := k) (s := (k.length : Int)) (t := (q : Int)) (u := l) (v := (q : Int)) (w := l.getD q []) (x := l.getD q []) (y := ((l.getD q []).length : Int)) (z := ((l.getD q []).length : Int) != 2)
       rw [hr]
       cases (List.range 2).all (fun r => rowIn q ((l.getD q []).getD r []))
       ·rfl
       ·simp only [cond_true, bx_inr, wsucc (show q ≤ 1048576 by omega)]
      ·rw [if_neg (by omega), dF h4]; rfl) (by rw [h1]; simp only [impl_partsOk_s58, ltF, cond_false])
    have q2 := lp_idx (S := impl_partsOk_s122) (t := .inr (a, b, c, d, e, f, g, h, i, j, k, l, m, n, o, p)) (e := .inl false) (fun q => ((a, b, c, d, e, f, g, h, i, j, k, l, m, n, o, p), m, (m.length : Int), (q : Int))) (n := 2) (by omega) (fun t => turnOk (m.getD t tu0)) (fun q hq => by
     have hqm : q < m.length := by omega
     have hte := implTurn_eq (hm _ (getD_mem (d := tu0) hqm))
     simp only [impl_partsOk_s122, ltn hqm, cond_true, ixn hqm, gxn, Option.bind_some, wsucc (show q ≤ 1048576 by omega)]
     generalize hx : m.getD q (0, false, []) = x
     have hx' : m.getD q tu0 = x := hx
     rw [hx'] at hte
     obtain ⟨x1, x2, x3⟩ := x
     simp only [hte, Option.bind_some]
     cases turnOk (x1, x2, x3) <;> rfl) (by rw [h3]; simp only [impl_partsOk_s122, ltF, cond_false])
    have q3 := lp_idx (S := impl_partsOk_s250) (t := .inr ()) (e := .inl false) (fun q => ((a, b, c, d, e, f, g, h, i, j, k, l, m, n, o, p), o, (o.length : Int), (q : Int))) (n := o.length) ho (fun s => decide (s = 0) || aheadB (o.getD (s - 1) en0) (o.getD s en0)) (fun s hs => by
     simp only [impl_partsOk_s250, ltn hs, Option.bind_some, cond_true, ixn hs, gxn, wsucc (show s ≤ 1048576 by omega)]
     by_cases hz : s = 0
     ·rw [dF (show ¬ (s : Int) > 0 by omega), dT hz]; rfl
     ·rw [dT (show (s : Int) > 0 by omega), dF hz]
      simp only [cond_true, wpred (show 0 < s by omega) (show s ≤ 1048576 by omega), ixn (show s - 1 < o.length by omega), gxn]
      have := ahead_eq (o.getD (s - 1) en0) (o.getD s en0)
      generalize o.getD (s - 1) (0, 0, [], 0, 0, 0, 0, [], [], []) = y at this ⊢
      obtain ⟨y1, y2, y3, y4, y5, y6, y7, y8, y9, y10⟩ := y
      generalize o.getD s (0, 0, [], 0, 0, 0, 0, [], [], []) = x at this ⊢
      obtain ⟨x1, x2, x3, x4, x5, x6, x7, x8, x9, x10⟩ := x
      simp only [this, Option.bind_some, Bool.false_or]
      cases aheadB (y1, y2, y3, y4, y5, y6, y7, y8, y9, y10) (x1, x2, x3, x4, x5, x6, x7, x8, x9, x10) <;> rfl) (by simp only [impl_partsOk_s250, ltF, Option.bind_some, cond_false])
    rw [cast0] at q1 q2 q3
    rw [if_pos (by omega), if_pos (by omega), if_pos (by omega), dT h1, dT h2, dT h3, q1]
    cases confOk (a, b, c, d, e, f, g, h) <;> cases inR n 0 1000 <;> cases inR i 0 100000 <;> try rfl
    cases (List.range 3).all (seatIn k l a)
    ·rfl
    ·simp only [Bool.not_true, cond_false, cond_true, bx_inr, q2, lnn]
     cases ((List.range 2).all fun t => turnOk (m.getD t tu0))
     ·rfl
     ·simp only [cond_true, bx_inr, q3, lnn, Bool.true_and]
      unfold rootIn
      cases ((List.range o.length).all fun s => decide (s = 0) || aheadB (o.getD (s - 1) en0) (o.getD s en0)) <;> rfl
   ·rw [if_pos (by omega), if_pos (by omega), if_neg (by omega), dF h3]
    cases confOk (a, b, c, d, e, f, g, h) <;> cases inR i 0 100000 <;> simp
  ·rw [if_pos (by omega), if_neg (by omega), dF h2]
   cases confOk (a, b, c, d, e, f, g, h) <;> cases inR i 0 100000 <;> simp
 ·rw [if_neg (by omega), dF h1]
  cases confOk (a, b, c, d, e, f, g, h) <;> cases inR i 0 100000 <;> simp
end
end Go.Proofs.YtkegollaleklaaaGreat.Tw
