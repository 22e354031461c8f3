/- Plain: houses whose rows are joined; what that saves: FnExactSaved. No condition: lemmas. -/
import Derived.Test.YtkegollaleklaaaGreatJh
namespace Go.Proofs.YtkegollaleklaaaGreat.Tw
open Go.Mach
set_option linter.unusedVariables false
set_option linter.unusedSimpArgs false
set_option maxRecDepth 20000
theorem pushM_len {l : List EnT} {e : EnT} {j : Bool} : (pushM l e j).1.length ≤ l.length + 1 := by
 unfold pushM
 cases apAll l e.2.2.1 with
 | false => simp
 | true =>
  simp only [cond_true]
  split
  ·simp
  ·split
   ·simp
   ·simp
theorem joinM_len (l : List EnT) : (joinM l).length ≤ l.length := by
 unfold joinM
 cases rowOk l with
 | false => simp
 | true =>
  simp only [cond_true]
  have key : ∀ (l r : List EnT), (l.foldl (fun r e => (pushM r e true).1) r).length ≤ r.length + l.length := by
   intro l
   induction l with
   | nil => intro r; simp
   | cons x l ih =>
    intro r
    have h1 := ih (pushM r x true).1
    have h2 := pushM_len (l := r) (e := x) (j := true)
    simp only [List.foldl_cons, List.length_cons]
    omega
  simpa using key l []
theorem joinL_len (l : List (List (List EnT))) : (joinL l).flatten.flatten.length ≤ l.flatten.flatten.length := by
 unfold joinL
 induction l with
 | nil => simp
 | cons x l ih =>
  simp only [List.map_cons, List.flatten_cons, List.flatten_append, List.length_append]
  have : (x.map joinM).flatten.length ≤ x.flatten.length := by
   clear ih
   induction x with
   | nil => simp
   | cons y x ih =>
    have := joinM_len y
    simp only [List.map_cons, List.flatten_cons, List.length_append]
    omega
  omega
section
variable {a b c e f g h i n : Int} {d : List Int} {j : Bool} {k : List SeT} {l : List (List (List EnT))} {m : List TuT} {o : List EnT} {p : List OuT}
theorem house_rows (hh : houseOk (a, b, c, d, e, f, g, h, i, j, k, l, m, n, o, p) = true) : l.length = 3 ∧ ∀ q, q < 3 → (l.getD q []).length = 2 := by
 unfold houseOk at hh
 simp only [Bool.and_eq_true] at hh
 obtain ⟨_, h2, _, h4⟩ := parts_seat hh.2.1
 refine ⟨h2, fun q hq => ?_⟩
 have h5 := h4 q hq
 unfold seatIn at h5
 simp only [Bool.and_eq_true, decide_eq_true_eq] at h5
 exact h5.2.1
def jq (l : List (List (List EnT))) (q : Nat) : List (List (List EnT)) := (l.take q).map (fun r => r.map joinM) ++ l.drop q
theorem jq_len (l : List (List (List EnT))) (q : Nat) : (jq l q).length = l.length := st_len _ l q
theorem jq_get (l : List (List (List EnT))) (q : Nat) : (jq l q).getD q [] = l.getD q [] := st_get _ l [] q
theorem jq_set {l : List (List (List EnT))} {q : Nat} (hq : q < l.length) : (jq l q).set q ((l.getD q []).map joinM) = jq l (q + 1) := st_set _ l [] hq
theorem jq_end (l : List (List (List EnT))) : jq l l.length = joinL l := by simp [jq, joinL]
def jr (x : List (List EnT)) (r : Nat) : List (List EnT) := (x.take r).map joinM ++ x.drop r
theorem jr_len (x : List (List EnT)) (r : Nat) : (jr x r).length = x.length := st_len _ x r
theorem jr_set {x : List (List EnT)} {r : Nat} (hr : r < x.length) : (jr x r).set r (joinM (x.getD r [])) = jr x (r + 1) := st_set _ x [] hr
theorem jr_get (x : List (List EnT)) (r : Nat) : (jr x r).getD r [] = x.getD r [] := st_get _ x [] r
theorem jr_end (x : List (List EnT)) : jr x x.length = x.map joinM := by simp [jr]
theorem specJoinHouse_eq (z : HsLe 1048576 (a, b, c, d, e, f, g, h, i, j, k, l, m, n, o, p)) (zz : HsSz d k l m o p) : spec_JoinHouse (a, b, c, d, e, f, g, h, i, j, k, l, m, n, o, p)
  = some (a, b, c, d, e, f, g, h, i, j, k, bif houseOk (a, b, c, d, e, f, g, h, i, j, k, l, m, n, o, p) then joinL l else l, m, n, o, p) := by
 simp only [spec_JoinHouse, l12Copy_eq z, specHouseOk_eq zz, Option.bind_some]
 cases hh : houseOk (a, b, c, d, e, f, g, h, i, j, k, l, m, n, o, p) with
 | false => rfl
 | true =>
  obtain ⟨h3, h2⟩ := house_rows hh
  have hz := z.2.2.1
  have inner : ∀ q, q < 3 → lp spec_JoinHouse_s7826 ((a, b, c, d, e, f, g, h, i, j, k, l, m, n, o, p), (0, 0, 0, (), 0, 0, 0, 0, 0, false, (), (), (), 0, (), ()), (a, b, c, d, e, f, g, h, i, j, k, jq l q, m, n, o, p), (q : Int), 0)
    = some ((a, b, c, d, e, f, g, h, i, j, k, l, m, n, o, p), (0, 0, 0, (), 0, 0, 0, 0, 0, false, (), (), (), 0, (), ()), (a, b, c, d, e, f, g, h, i, j, k, jq l (q + 1), m, n, o, p), (q : Int)) := by
   intro q hq
   have hql : q < l.length := by omega
   have hx2 := h2 q hq
   have hrow := (hz.2 _ (getD_mem (d := []) hql)).2
   have qq := lp_det (S := spec_JoinHouse_s7826) (fun r => ((a, b, c, d, e, f, g, h, i, j, k, l, m, n, o, p), (0, 0, 0, (), 0, 0, 0, 0, 0, false, (), (), (), 0, (), ()), (a, b, c, d, e, f, g, h, i, j, k, (jq l q).set q (jr (l.getD q []) r), m, n, o, p), (q : Int), (r : Int))) (n := 2) (by omega)
    (b := ((a, b, c, d, e, f, g, h, i, j, k, l, m, n, o, p), (0, 0, 0, (), 0, 0, 0, 0, 0, false, (), (), (), 0, (), ()), (a, b, c, d, e, f, g, h, i, j, k, jq l (q + 1), m, n, o, p), (q : Int))) (fun r hr => by
    have hrl : r < (l.getD q []).length := by omega
    have hL : q < ((jq l q).set q (jr (l.getD q []) r)).length := by rw [List.length_set, jq_len]; exact hql
    have hG : ((jq l q).set q (jr (l.getD q []) r)).getD q [] = jr (l.getD q []) r := set_getD (by rw [jq_len]; exact hql)
    have hJ := specJoinRow_eq (hrow _ (getD_mem (d := []) hrl))
    simp only [spec_JoinHouse_s7826, dT (show (r : Int) < 2 by omega), cond_true, ixn hL, lxn hL, ixn hql, gxn, sxn, hG, Option.bind_some, ixn hrl, hJ, ixn (show r < (jr (l.getD q []) r).length by rw [jr_len]; exact hrl), lxn (show r < (jr (l.getD q []) r).length by rw [jr_len]; exact hrl), jr_set hrl, List.set_set,
     wsucc (show r ≤ 1048576 by omega)]) (by
    have e2 : jr (l.getD q []) 2 = (l.getD q []).map joinM := by rw [← hx2]; exact jr_end _
    simp only [spec_JoinHouse_s7826, dF (show ¬ ((2 : Nat) : Int) < 2 by omega), cond_false, e2, jq_set hql])
   have e0 : (jq l q).set q (jr (l.getD q []) 0) = jq l q := by
    have : jr (l.getD q []) 0 = (jq l q).getD q [] := by rw [jq_get]; simp [jr]
    rw [this]
    exact list_set_getD _ _ _
   rw [cast0, e0] at qq
   exact qq
  have q1 := lp_det (S := spec_JoinHouse_s122) (fun q => ((a, b, c, d, e, f, g, h, i, j, k, l, m, n, o, p), (0, 0, 0, (), 0, 0, 0, 0, 0, false, (), (), (), 0, (), ()), (a, b, c, d, e, f, g, h, i, j, k, jq l q, m, n, o, p), (q : Int))) (n := 3) (by omega)
   (b := ((0, 0, 0, (), 0, 0, 0, 0, 0, false, (), (), (), 0, (), ()), a, b, c, d, e, f, g, h, i, j, k, joinL l, m, n, o, p)) (fun q hq => by
   simp only [spec_JoinHouse_s122, dT (show (q : Int) < 3 by omega), cond_true, inner q hq, Option.bind_some, wsucc (show q ≤ 1048576 by omega)]) (by
   have e3 : jq l 3 = joinL l := by rw [← h3]; exact jq_end l
   simp only [spec_JoinHouse_s122, dF (show ¬ ((3 : Nat) : Int) < 3 by omega), cond_false, e3])
  have e0 : jq l 0 = l := by simp [jq]
  rw [cast0, e0] at q1
  simp only [Bool.not_true, cond_false, cond_true, q1, Option.bind_some]
theorem specItems (hl0 : l.length ≤ 1048576) (hl : ∀ r ∈ l, r.length ≤ 1048576) (hrows : l.flatten.flatten.length ≤ 1048576) : spec_Items (a, b, c, d, e, f, g, h, i, j, k, l, m, n, o, p) = some (l.flatten.flatten.length : Int) := by
 have inner : ∀ q, q < l.length → lp spec_Items_s3730 ((a, b, c, d, e, f, g, h, i, j, k, l, m, n, o, p), ((l.take q).flatten.flatten.length : Int), (q : Int), 0) = some ((a, b, c, d, e, f, g, h, i, j, k, l, m, n, o, p), ((l.take (q + 1)).flatten.flatten.length : Int), (q : Int)) := by
  intro q hq
  have hb := row_bound hq
  have hrl := hl _ (getD_mem (d := []) hq)
  have qq := lp_det (S := spec_Items_s3730) (fun s => ((a, b, c, d, e, f, g, h, i, j, k, l, m, n, o, p), (((l.take q).flatten.flatten.length + ((l.getD q []).take s).flatten.length : Nat) : Int), (q : Int), (s : Int))) hrl (b := ((a, b, c, d, e, f, g, h, i, j, k, l, m, n, o, p), (((l.take q).flatten.flatten.length + (l.getD q []).flatten.length : Nat) : Int), (q : Int))) (fun s hs => by
   have hb2 := flatten_take_le (l.getD q []) (s + 1)
   rw [take_snoc [] hs, flatten_snoc, List.length_append] at hb2
   simp only [spec_Items_s3730, lnn, ixn hq, gxn, Option.bind_some, ltn hs, cond_true, ixn hs, wsucc (show s ≤ 1048576 by omega)]
   rw [w64_ok (by omega) (by omega), take_snoc [] hs, flatten_snoc, List.length_append]
   congr 4
   omega) (by simp only [spec_Items_s3730, lnn, ixn hq, gxn, Option.bind_some, ltF, cond_false, List.take_length])
  rw [cast0, List.take_zero, List.flatten_nil, List.length_nil, Nat.add_zero] at qq
  rw [qq, take_snoc [] hq, flatten_snoc, List.flatten_append, List.length_append]
 have q1 := lp_det (S := spec_Items_s58) (fun q => ((a, b, c, d, e, f, g, h, i, j, k, l, m, n, o, p), ((l.take q).flatten.flatten.length : Int), (q : Int))) hl0 (b := (l.flatten.flatten.length : Int)) (fun q hq => by
  simp only [spec_Items_s58, lnn, ltn hq, Option.bind_some, cond_true, inner q hq, wsucc (show q ≤ 1048576 by omega)]) (by simp only [spec_Items_s58, lnn, ltF, Option.bind_some, cond_false, List.take_length])
 have e0 : ((l.take 0).flatten.flatten.length : Int) = 0 := by simp
 rw [cast0, e0] at q1
 simp only [spec_Items, q1, Option.bind_some]
theorem joinL_rows {B : Nat} (h : ∀ r ∈ l, r.length ≤ B) : ∀ r ∈ joinL l, r.length ≤ B := by
 intro r hr
 obtain ⟨x, hx, rfl⟩ := List.mem_map.1 hr
 simpa using h x hx
theorem implJoinHouse_eq (z : HsLe 1048576 (a, b, c, d, e, f, g, h, i, j, k, l, m, n, o, p)) (zz : HsSz d k l m o p) : impl_JoinHouse (a, b, c, d, e, f, g, h, i, j, k, l, m, n, o, p)
  = some (a, b, c, d, e, f, g, h, i, j, k, bif houseOk (a, b, c, d, e, f, g, h, i, j, k, l, m, n, o, p) then joinL l else l, m, n, o, p) := by
 simp only [impl_JoinHouse, copyHouse_eq z, implHouseOk_eq zz, Option.bind_some]
 cases hh : houseOk (a, b, c, d, e, f, g, h, i, j, k, l, m, n, o, p) with
 | false => rfl
 | true =>
  obtain ⟨h3, h2⟩ := house_rows hh
  have hz := z.2.2.1
  have inner : ∀ q, q < 3 → lp impl_JoinHouse_s31334 ((0, 0, 0, (), 0, 0, 0, 0, 0, false, (), (), (), 0, (), ()), (a, b, c, d, e, f, g, h, i, j, k, jq l q, m, n, o, p), ((q, ()), (), ()), ((), (), ()), (l.length : Int), (q : Int), ((q, ()), (), ()), ((l.getD q []).length : Int), 0)
    = some ((0, 0, 0, (), 0, 0, 0, 0, 0, false, (), (), (), 0, (), ()), (a, b, c, d, e, f, g, h, i, j, k, jq l (q + 1), m, n, o, p), ((), (), ()), (l.length : Int), (q : Int)) := by
   intro q hq
   have hql : q < l.length := by omega
   have hx2 := h2 q hq
   have hrow := (hz.2 _ (getD_mem (d := []) hql)).2
   have qq := lp_det (S := impl_JoinHouse_s31334) (fun r => ((0, 0, 0, (), 0, 0, 0, 0, 0, false, (), (), (), 0, (), ()), (a, b, c, d, e, f, g, h, i, j, k, (jq l q).set q (jr (l.getD q []) r), m, n, o, p), ((q, ()), (), ()), ((), (), ()), (l.length : Int), (q : Int), ((q, ()), (), ()), ((l.getD q []).length : Int), (r : Int))) (n := (l.getD q []).length) (by omega)
    (b := ((0, 0, 0, (), 0, 0, 0, 0, 0, false, (), (), (), 0, (), ()), (a, b, c, d, e, f, g, h, i, j, k, jq l (q + 1), m, n, o, p), ((), (), ()), (l.length : Int), (q : Int))) (fun r hr => by
    have hL : q < ((jq l q).set q (jr (l.getD q []) r)).length := by rw [List.length_set, jq_len]; exact hql
    have hG : ((jq l q).set q (jr (l.getD q []) r)).getD q [] = jr (l.getD q []) r := set_getD (by rw [jq_len]; exact hql)
    have hJ := implJoinRow_eq (hrow _ (getD_mem (d := []) hr))
    simp only [impl_JoinHouse_s31334, ltn hr, cond_true, ixn hL, lxn hL, gxn, sxn, hG, jr_get, Option.bind_some, hJ, ixn (show r < (jr (l.getD q []) r).length by rw [jr_len]; exact hr), lxn (show r < (jr (l.getD q []) r).length by rw [jr_len]; exact hr), jr_set hr, List.set_set,
     wsucc (show r ≤ 1048576 by omega)]) (by
    simp only [impl_JoinHouse_s31334, ltF, cond_false, jr_end, jq_set hql])
   have e0 : (jq l q).set q (jr (l.getD q []) 0) = jq l q := by
    have : jr (l.getD q []) 0 = (jq l q).getD q [] := by rw [jq_get]; simp [jr]
    rw [this]
    exact list_set_getD _ _ _
   rw [cast0, e0] at qq
   exact qq
  have q1 := lp_det (S := impl_JoinHouse_s122) (fun q => ((0, 0, 0, (), 0, 0, 0, 0, 0, false, (), (), (), 0, (), ()), (a, b, c, d, e, f, g, h, i, j, k, jq l q, m, n, o, p), ((), (), ()), (l.length : Int), (q : Int))) (n := l.length) (by omega)
   (b := ((0, 0, 0, (), 0, 0, 0, 0, 0, false, (), (), (), 0, (), ()), a, b, c, d, e, f, g, h, i, j, k, joinL l, m, n, o, p)) (fun q hq => by
   have hL : q < (jq l q).length := by rw [jq_len]; exact hq
   simp only [impl_JoinHouse_s122, ltn hq, cond_true, ixn hL, lxn hL, gxn, lnn, jq_get, Int.toNat_natCast, inner q (by omega), Option.bind_some, wsucc (show q ≤ 1048576 by omega)]) (by
   simp only [impl_JoinHouse_s122, ltF, cond_false, jq_end])
  have e0 : jq l 0 = l := by simp [jq]
  rw [cast0, e0] at q1
  simp only [Bool.not_true, cond_false, cond_true, lnn, q1, Option.bind_some]
theorem savedBoth (z : HsLe 1048576 (a, b, c, d, e, f, g, h, i, j, k, l, m, n, o, p)) (zz : HsSz d k l m o p) : ∃ r, spec_Saved (a, b, c, d, e, f, g, h, i, j, k, l, m, n, o, p) = some r ∧ impl_Saved (a, b, c, d, e, f, g, h, i, j, k, l, m, n, o, p) = some r := by
 have i1 := fun (l' : List (List (List EnT))) (x1 : l'.length ≤ 1048576) (x2 : ∀ r ∈ l', r.length ≤ 1048576) (x3 : l'.flatten.flatten.length ≤ 1048576) => specItems (a := a) (b := b) (c := c) (d := d) (e := e) (f := f) (g := g) (h := h) (i := i) (j := j) (k := k) (l := l') (m := m) (n := n) (o := o) (p := p) x1 x2 x3
 have i2 := fun (l' : List (List (List EnT))) (x1 : l'.length ≤ 1048576) (x2 : ∀ r ∈ l', r.length ≤ 1048576) (x3 : l'.flatten.flatten.length ≤ 1048576) => implRowEntries_eq (a := a) (b := b) (c := c) (d := d) (e := e) (f := f) (g := g) (h := h) (i := i) (j := j) (k := k) (l := l') (m := m) (n := n) (o := o) (p := p) x1 x2 x3
 have r0 : ∀ r ∈ l, r.length ≤ 1048576 := fun r hr => (zz.hl r hr).1
 have r1 := joinL_rows r0
 have r2 := joinL_len l
 have r3 : (joinL l).length ≤ 1048576 := by simpa [joinL] using zz.hl0
 have r4 := zz.rows
 simp only [spec_Saved, impl_Saved, impl_Items, specHouseOk_eq zz, implHouseOk_eq zz, specJoinHouse_eq z zz, implJoinHouse_eq z zz, Option.bind_some]
 cases hh : houseOk (a, b, c, d, e, f, g, h, i, j, k, l, m, n, o, p) with
 | false => exact ⟨0, rfl, rfl⟩
 | true =>
  simp only [Bool.not_true, cond_false, cond_true, i1 l zz.hl0 r0 r4, i2 l zz.hl0 r0 r4, i1 (joinL l) r3 r1 (by omega), i2 (joinL l) r3 r1 (by omega), Option.bind_some, lnn]
  exact ⟨_, rfl, rfl⟩
end
theorem law_saved (x : HsT) (hx : HsLe 9223372036854775807 x) : laws_FnExactSaved x = some true := by
 obtain ⟨y, e1, e2⟩ := szHouse_ok x 1048576 hx (by omega) (by omega)
 obtain ⟨a, b, c, d, e, f, g, h, i, j, k, l, m, n, o, p⟩ := x
 simp only [laws_FnExactSaved, e1, Option.bind_some, bif_dec]
 rcases e2 with rfl | ⟨e2, e3⟩
 ·simp
 ·rw [if_neg (by omega)]
  have hn : nHs (a, b, c, d, e, f, g, h, i, j, k, l, m, n, o, p) ≤ 1048576 := by omega
  have hs := hsLe_of hn
  obtain ⟨r, s1, s2⟩ := savedBoth (a := a) (b := b) (c := c) (e := e) (f := f) (g := g) (h := h) (i := i) (j := j) (n := n) hs (hsSz_of hn)
  simp only [toHouse_ok hs, s1, s2, eqHouse_ok hs, Option.bind_some, bne_self_eq_false, cond_false, Bool.not_true]
end Go.Proofs.YtkegollaleklaaaGreat.Tw
