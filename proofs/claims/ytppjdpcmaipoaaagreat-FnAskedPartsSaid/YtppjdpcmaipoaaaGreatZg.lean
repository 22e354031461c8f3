/- Parts of a proof, packed: see the last text for what is proved. No condition: definitions and lemmas. -/
import Derived.Test.YtppjdpcmaipoaaaGreatZf
namespace Go.Proofs.YtppjdpcmaipoaaaGreat.Tw
open Go.Mach
set_option linter.unusedVariables false
set_option linter.unusedSimpArgs false
set_option maxRecDepth 20000
theorem Kqp : ∀ {s : List SpT} {n : Int}, (∀ x ∈ s, x.1 ≤ x.2) → hasN s n → 1 ≤ lens s
 | [], n, _, h => absurd h (hasN_nil n)
 | x :: r, n, hs, h => by
  have hx := hs x List.mem_cons_self
  have hr : ∀ y ∈ r, y.1 ≤ y.2 := fun y hy => hs y (List.mem_cons_of_mem _ hy)
  have h0 : 0 ≤ lens r := by
   have := Kih (L := 0) (H := 0) hr
   have := Kjq (L := 0) (H := 0) (by omega) (s := r)
   omega
  simp only [lens]
  omega
section
variable {a b c e f g h i n : Int} {d : List Int} {j : Bool} {k : List SeT} {l : List (List (List EnT))} {m : List TuT} {o : List EnT} {p : List OuT}
theorem Kqy {q w : Int} (z : HsSz d k l m o p) (hh : Kfg (a, b, c, d, e, f, g, h, i, j, k, l, m, n, o, p) = true) (ha : (allM l o p).any (isAt q w) = true) :
  ∃ s t, Kdv ((a, b, c, d, e, f, g, h, i, j, k, l, m, n, o, p), q, w) = some (s, t) ∧ 1 ≤ t := by
 have hh2 := hh
 unfold Kfg at hh2
 simp only [Bool.and_eq_true] at hh2
 have hap := hh2.2.2.2.2.1
 have hok := (Kgn.1 hap).1
 have hall : (l.flatten.flatten ++ (o ++ p.map (·.2))) = allM l o p := rfl
 have hn := z.all
 have hadd := z.added
 have hfo : EnsOk ((allM l o p).filter (isAt q w)) := fun x hx => hok x (List.mem_filter.1 hx).1
 have hfl : (flat ((allM l o p).filter (isAt q w))).length ≤ 1048576 := Nat.le_trans (Khx _) z.flt
 have hmg := Klv hfo (Nat.le_trans (List.length_filter_le _ _) hn) hfl
 have hset := Kgr hfo
 have hsz := Khz (s := nrm (flat ((allM l o p).filter (isAt q w)))) (by have := Kgj hset; omega)
 obtain ⟨x, hx, hq⟩ := List.any_eq_true.1 ha
 have hxf : x ∈ (allM l o p).filter (isAt q w) := List.mem_filter.2 ⟨hx, hq⟩
 have hE := hok x hx
 obtain ⟨y, hy⟩ := List.exists_mem_of_ne_nil _ hE.some_
 have hyy := hE.ids.mem y hy
 have hn1 : hasN (nrm (flat ((allM l o p).filter (isAt q w)))) y.1 := (Kml hfo).2 ⟨x, hxf, y, hy, by omega, hyy⟩
 have hsz1 : 1 ≤ sizeM (nrm (flat ((allM l o p).filter (isAt q w)))) := by
  unfold sizeM
  rw [hset, cond_true]
  exact Kqp (Kfi.1 hset).1.mem hn1
 have hre := Kfw (a := a) (b := b) (c := c) (d := d) (e := e) (f := f) (g := g) (h := h) (i := i) (j := j) (k := k) (m := m) (n := n) (o := o) (p := p) z.hl0 (fun r hr => (z.hl r hr).1) z.rows
 have had := Kgo (a := a) (b := b) (c := c) (d := d) (e := e) (f := f) (g := g) (h := h) (i := i) (j := j) (k := k) (l := l) (m := m) (n := n) hadd
 have hl := z.rows
 have hlen : l.flatten.flatten.length + (o ++ p.map (·.2)).length ≤ 1048576 := by rw [← hall, List.length_append] at hn; exact hn
 simp only [Kdv, Keq, Kgy z, hh, Bool.not_true, cond_false, hre, had, Option.bind_some]
 rw [fitsC (by omega) (by omega)]
 simp only [Option.bind_some, hall, Kso hn, hmg]
 generalize msk new0 ((allM l o p).filter (isAt q w)) = s
 obtain ⟨s1, s2, s3, s4, s5, s6, s7⟩ := s
 simp only [Option.bind_some, hsz]
 exact ⟨_, _, rfl, hsz1⟩
end
theorem Kqr {l : List EnT} {k w : Int} : (plc l k w).isSome = l.any (isAt k w) := by
 unfold plc
 rw [Bool.eq_iff_iff, List.find?_isSome, List.any_eq_true]
 constructor
 ·rintro ⟨i, hi, h⟩
  exact ⟨_, Kew (List.mem_range.1 hi), h⟩
 ·rintro ⟨x, hx, h⟩
  obtain ⟨i, hi, rfl⟩ := List.mem_iff_getElem.1 hx
  exact ⟨i, List.mem_range.2 hi, by rw [Kfh hi]; exact h⟩
def winM (t : List EnT) (q : Int) (i : Nat) : List Int := ((List.range i).filter fun w : Nat => t.any (isAt q (w : Int))).map fun w : Nat => (w : Int)
theorem Kmc (t : List EnT) (q : Int) (i : Nat) : winM t q (i + 1) = winM t q i ++ (bif t.any (isAt q (i : Int)) then [(i : Int)] else []) := by
 unfold winM
 rw [List.range_succ, List.filter_append, List.map_append]
 congr 1
 cases h : t.any (isAt q (i : Int))
 ·simp [List.filter_cons, h]
 ·simp [List.filter_cons, h]
theorem Kjb (t : List EnT) (q : Int) (i : Nat) : (winM t q i).length ≤ i := by
 unfold winM
 rw [List.length_map]
 exact Nat.le_trans (List.length_filter_le _ _) (by simp)
theorem Krz {t : List EnT} {q : Int} (ht : t.length ≤ 1048576) : lp Kw_s250 (q, [], t, 0) = some (winM t q 21) := by
 have inner : ∀ (w : Nat) (b : List Int), w ≤ 20 → lp Kw_s64074 (q, b, t, (w : Int), false, 0) = some (q, b, t, (w : Int), t.any (isAt q (w : Int))) := by
  intro w b hw
  have qq := Kfb (S := Kw_s64074) (fun s => (q, b, t, (w : Int), (t.take s).any (isAt q (w : Int)), (s : Int))) ht (b := (q, b, t, (w : Int), t.any (isAt q (w : Int)))) (fun s hs => by
   simp only [Kw_s64074, lnn, ltn hs, Option.bind_some, cond_true, ixn hs, lxn hs, gxn, wsucc (show s ≤ 1048576 by omega)]
   rw [Kez en0 hs, List.any_append]
   generalize hx : t.getD s (0, 0, [], 0, 0, 0, 0, [], [], []) = u
   have hx' : t.getD s en0 = u := hx
   obtain ⟨u1, u2, u3⟩ := u
   simp only [List.any_cons, List.any_nil, isAt, Bool.or_false]
   cases (t.take s).any (isAt q (w : Int)) <;> cases u1 == q <;> simp) (by simp only [Kw_s64074, lnn, ltF, Option.bind_some, cond_false, List.take_length])
  have e0 : (t.take 0).any (isAt q (w : Int)) = false := by simp
  rw [cast0, e0] at qq
  exact qq
 have qq := Kfb (S := Kw_s250) (fun w => (q, winM t q w, t, (w : Int))) (n := 21) (by omega) (b := winM t q 21) (fun w hw => by
  have hl := Kjb t q w
  simp only [Kw_s250, dT (show (w : Int) ≤ 20 by omega), cond_true, inner w (winM t q w) (by omega), Option.bind_some, wsucc (show w ≤ 1048576 by omega), Kmc]
  cases t.any (isAt q (w : Int))
  ·simp
  ·rw [cond_true, fitsC (by simp; omega) (by omega), cond_true]) (by simp only [Kw_s250, dF (show ¬ ((21 : Nat) : Int) ≤ 20 by omega), cond_false])
 exact qq
theorem Krl {t : List EnT} {q : Int} (ht : t.length ≤ 1048576) : lp Kbh_s250 (q, [], t, 0) = some (winM t q 21) := by
 have qq := Kfb (S := Kbh_s250) (fun w => (q, winM t q w, t, (w : Int))) (n := 21) (by omega) (b := winM t q 21) (fun w hw => by
  have hl := Kjb t q w
  have hp := Kqr (l := t) (k := q) (w := (w : Int))
  simp only [Kbh_s250, dT (show (w : Int) ≤ 20 by omega), cond_true, Knw ht, Option.bind_some, wsucc (show w ≤ 1048576 by omega), Kmc]
  rw [← hp]
  cases hq : plc t q (w : Int) with
  | none => simp
  | some x =>
   simp only [Option.isSome_some, cond_true]
   rw [dT (show (x : Int) ≥ 0 by omega), cond_true, fitsC (by simp; omega) (by omega)]) (by simp only [Kbh_s250, dF (show ¬ ((21 : Nat) : Int) ≤ 20 by omega), cond_false])
 exact qq
section
variable {a b c e f g h i n : Int} {d : List Int} {j : Bool} {k : List SeT} {l : List (List (List EnT))} {m : List TuT} {o : List EnT} {p : List OuT}
theorem Kjy {q : Int} (z : HsSz d k l m o p) : Kw ((a, b, c, d, e, f, g, h, i, j, k, l, m, n, o, p), q) = some (bif Kfg (a, b, c, d, e, f, g, h, i, j, k, l, m, n, o, p) then winM (allM l o p) q 21 else []) := by
 simp only [Kw, Kga z, Option.bind_some, Kkk z.hl0 (fun r hr => (z.hl r hr).1) z.all, Krz z.all]
 cases Kfg (a, b, c, d, e, f, g, h, i, j, k, l, m, n, o, p) <;> rfl
theorem Kjx {q : Int} (z : HsSz d k l m o p) : Kbh ((a, b, c, d, e, f, g, h, i, j, k, l, m, n, o, p), q) = some (bif Kfg (a, b, c, d, e, f, g, h, i, j, k, l, m, n, o, p) then winM (allM l o p) q 21 else []) := by
 have hz := z.all
 unfold allM at hz
 have hf : fits (l.flatten.flatten.length + (o ++ p.map (·.2)).length) 144 = true := fitsB (by rw [List.length_append] at hz; omega) (by omega)
 simp only [Kbh, Kgy z, Option.bind_some, Kfw z.hl0 (fun r hr => (z.hl r hr).1) z.rows, Kgo z.added, hf, Khi, Krl hz]
 cases Kfg (a, b, c, d, e, f, g, h, i, j, k, l, m, n, o, p) <;> rfl
end
theorem Kks {s : SkT} (hs : SkOk s) : ∀ {l : List EnT}, EnsOk l → msk s l = mrg s (msk new0 l)
 | [], _ => by
  show s = mrg s new0
  rw [Kng hs Kjn, Kim hs]
 | x :: r, h => by
  have hx := h x List.mem_cons_self
  have hr : EnsOk r := fun y hy => h y (List.mem_cons_of_mem _ hy)
  have h1 : msk s (x :: r) = msk (mrg s x.2.2.2) r := rfl
  have h2 : msk new0 (x :: r) = msk (mrg new0 x.2.2.2) r := rfl
  rw [h1, h2, Kim hx.sk, Kks (Krd hs hx.sk) hr, Kks hx.sk hr, Kig hs hx.sk (Kjk hr)]
theorem Kja {x : EnT} {l : List EnT} (h : EnsOk (x :: l)) : msk new0 (x :: l) = mrg x.2.2.2 (msk new0 l) := by
 have hx := h x List.mem_cons_self
 have hr : EnsOk l := fun y hy => h y (List.mem_cons_of_mem _ hy)
 have h2 : msk new0 (x :: l) = msk (mrg new0 x.2.2.2) l := rfl
 rw [h2, Kim hx.sk, Kks hx.sk hr]
theorem Kht {l : List EnT} (h : EnsOk l) (q : EnT → Bool) : EnsOk (l.filter q) := fun x hx => h x (List.mem_filter.1 hx).1
theorem Kjl {A B C : EnT → Bool} : ∀ {l : List EnT}, EnsOk l → (∀ e ∈ l, C e = (A e || B e) ∧ ¬ (A e = true ∧ B e = true)) →
  mrg (msk new0 (l.filter A)) (msk new0 (l.filter B)) = msk new0 (l.filter C) ∧ lens (flat (l.filter A)) + lens (flat (l.filter B)) = lens (flat (l.filter C))
 | [], _, _ => by
  refine ⟨?_, by simp [flat, lens]⟩
  show mrg new0 new0 = new0
  exact Kim Kjn
 | x :: r, h, hc => by
  have hx := h x List.mem_cons_self
  have hr : EnsOk r := fun y hy => h y (List.mem_cons_of_mem _ hy)
  obtain ⟨i1, i2⟩ := Kjl hr fun e he => hc e (List.mem_cons_of_mem _ he)
  obtain ⟨c1, c2⟩ := hc x List.mem_cons_self
  have oa := Kjk (Kht hr A)
  have ob := Kjk (Kht hr B)
  have ex : ∀ {q : EnT → Bool}, EnsOk (x :: r.filter q) := fun y hy => by
   rcases List.mem_cons.1 hy with rfl | hy
   ·exact hx
   ·exact hr y (List.mem_filter.1 hy).1
  cases ha : A x <;> cases hb : B x
  ·rw [ha, hb] at c1
   rw [List.filter_cons_of_neg (by rw [ha]; simp), List.filter_cons_of_neg (by rw [hb]; simp), List.filter_cons_of_neg (by rw [c1]; simp)]
   exact ⟨i1, i2⟩
  ·rw [ha, hb] at c1
   rw [List.filter_cons_of_neg (by rw [ha]; simp), List.filter_cons_of_pos hb, List.filter_cons_of_pos (by rw [c1]; rfl), Kja ex, Kja ex]
   refine ⟨?_, ?_⟩
   ·rw [← Kig oa hx.sk ob, Kng oa hx.sk, Kig hx.sk oa ob, i1]
   ·simp only [flat, Khv] at i2 ⊢; omega
  ·rw [ha, hb] at c1
   rw [List.filter_cons_of_pos ha, List.filter_cons_of_neg (by rw [hb]; simp), List.filter_cons_of_pos (by rw [c1]; rfl), Kja ex, Kja ex]
   refine ⟨?_, ?_⟩
   ·rw [Kig hx.sk oa ob, i1]
   ·simp only [flat, Khv] at i2 ⊢; omega
  ·exact absurd ⟨ha, hb⟩ c2
theorem Krp {l : List EnT} (h : EnsOk l) : 0 ≤ lens (flat l) := by
 have := Kjq (L := 0) (H := 9999) (by omega) (s := flat l)
 have := Kih (L := 0) (H := 9999) (s := flat l) fun x hx => (Kfl h x hx).1
 omega
theorem Kqq {A C : EnT → Bool} {l : List EnT} (h : EnsOk l) (hs : ∀ e ∈ l, A e = true → C e = true) : lens (flat (l.filter A)) ≤ lens (flat (l.filter C)) := by
 obtain ⟨_, q⟩ := Kjl (A := A) (B := fun e => C e && !A e) (C := C) h fun e he => by
  have := hs e he
  cases ha : A e <;> cases hc : C e <;> simp_all
 have := Krp (Kht h fun e => C e && !A e)
 omega
section
variable {a b c e f g h i n : Int} {d : List Int} {j : Bool} {k : List SeT} {l : List (List (List EnT))} {m : List TuT} {o : List EnT} {p : List OuT}
theorem Kpe (key cut : Int) (hc : 0 ≤ cut ∧ cut ≤ 19) :
  mrg (ktM (a, b, c, d, e, f, g, h, i, j, k, l, m, n, o, p) key 0 cut).1 (ktM (a, b, c, d, e, f, g, h, i, j, k, l, m, n, o, p) key (cut + 1) 20).1 = (ktM (a, b, c, d, e, f, g, h, i, j, k, l, m, n, o, p) key 0 20).1 ∧
  (ktM (a, b, c, d, e, f, g, h, i, j, k, l, m, n, o, p) key 0 cut).2 + (ktM (a, b, c, d, e, f, g, h, i, j, k, l, m, n, o, p) key (cut + 1) 20).2 = (ktM (a, b, c, d, e, f, g, h, i, j, k, l, m, n, o, p) key 0 20).2 := by
 cases hh : Kfg (a, b, c, d, e, f, g, h, i, j, k, l, m, n, o, p)
 ·simp only [ktM, hh, cond_false]
  exact ⟨Kim Kjn, by omega⟩
 ·simp only [ktM, hh, cond_true]
  refine Kjl (Kgc hh).1 fun x hx => ?_
  unfold isK inR
  cases hk : (x.1 == key)
  ·simp
  ·simp only [Bool.true_and]
   rw [Bool.eq_iff_iff]
   simp only [Bool.and_eq_true, decide_eq_true_eq, Bool.or_eq_true]
   omega
theorem Ksp (key r s : Int) : (ktM (a, b, c, d, e, f, g, h, i, j, k, l, m, n, o, p) key r s).2 ≤ (ktM (a, b, c, d, e, f, g, h, i, j, k, l, m, n, o, p) key 0 20).2 := by
 cases hh : Kfg (a, b, c, d, e, f, g, h, i, j, k, l, m, n, o, p)
 ·simp only [ktM, hh, cond_false]
  omega
 ·simp only [ktM, hh, cond_true]
  refine Kqq (Kgc hh).1 fun x hx => ?_
  have hw := ((Kgc hh).1 x hx).win
  unfold isK
  cases hk : (x.1 == key)
  ·simp
  ·simp only [Bool.true_and]
   intro _
   exact Kfr.2 hw
end
theorem bts8_of_wf {l : List Int} (h : Wf (.list kB) l) : ∀ v ∈ l, 0 ≤ v ∧ v ≤ 255 := fun v hv => by
 have h1 : (Lit.int .u8 v).wf = true := h.2 v hv
 simp only [Lit.wf, Bool.and_eq_true, decide_eq_true_eq] at h1
 exact ⟨h1.1, h1.2⟩
theorem Ksj {a : List Int} (ha : a.length ≤ 1048576) (hb : ∀ v ∈ a, 0 ≤ v ∧ v ≤ 255) : ∃ r, Kdz (a, 2) = some r ∧ 0 ≤ r ∧ r ≤ 255 := by
 simp only [Kdz, lnn]
 by_cases h2 : (2 : Int) < a.length
 ·have := hb _ (Kew (i := 2) (d := 0) (by omega))
  have hg : gx a 2 0 = a.getD 2 0 := rfl
  rw [dT h2, cond_true, ix_ok (by omega) (by omega), hg, Key (by omega) (by omega)]
  exact ⟨_, rfl, this⟩
 ·rw [dF h2, cond_false, Key (n := (2 : Int) * 7) (by omega) (by omega), Key (by omega) (by omega), Int.tmod_eq_emod_of_nonneg (by omega)]
  exact ⟨_, rfl, by omega, by omega⟩
theorem Kov {l : List Int} (hl : l.length ≤ 1048576) : Kff (l, l) = some true := by
 have h : lp Kfc (l, l, (l.length : Int), ((0 : Nat) : Int)) = some (.inr ()) :=
  Kfb (fun i => (l, l, (l.length : Int), (i : Int))) (n := l.length) hl (fun i hi => by simp only [Kfc, ltn hi, cond_true, ixn hi, gxn, wsucc (show i ≤ 1048576 by omega), bne_self_eq_false, cond_false]) (by simp only [Kfc, ltF, cond_false])
 rw [cast0] at h
 simp only [Kff, lnn, bne_self_eq_false, cond_false, h, bx_inr]
theorem Ksm {l : List (List Int)} (hl : l.length ≤ 1048576) (hr : ∀ r ∈ l, r.length ≤ 1048576) : Kfa (l, l, ()) = some true := by
 have h : lp Kex (l, (), l, (l.length : Int), ((0 : Nat) : Int)) = some (.inr ()) :=
  Kfb (fun i => (l, (), l, (l.length : Int), (i : Int))) (n := l.length) hl (fun i hi => by simp only [Kex, ltn hi, cond_true, ixn hi, gxn, Kov (hr _ (Kew (d := []) hi)), Option.bind_some, Bool.not_true, cond_false, wsucc (show i ≤ 1048576 by omega)]) (by simp only [Kex, ltF, cond_false])
 rw [cast0] at h
 simp only [Kfa, lnn, bne_self_eq_false, cond_false, h, bx_inr]
theorem Kpw {s : SkT} (h : SkLe 1048576 s) : Kdm (s, s) = some true := by
 obtain ⟨a, b, c, d, e, f, g⟩ := s
 obtain ⟨h1, h2, h3, h4⟩ := h
 simp only at h1 h2 h3 h4
 simp only [Kdm, beq_self_eq_true, cond_true, Kov h1, Kov h2, Ksm h3 h4, Option.bind_some]
theorem Kse (t : List EnT) (q : Int) (i : Nat) : (winM t q i).Pairwise (· < ·) := by
 unfold winM
 rw [List.pairwise_map]
 exact (List.pairwise_lt_range.filter _).imp fun h => by omega
theorem Ksd {t : List EnT} {q : Int} {i x y : Nat} (h : x < y) (hy : y < (winM t q i).length) : (winM t q i).getD x 0 < (winM t q i).getD y 0 := by
 have := List.pairwise_iff_getElem.1 (Kse t q i) x y (by omega) hy h
 rw [Kfh (by omega), Kfh hy]
 exact this
theorem Kra {t : List EnT} {q v : Int} {i : Nat} (h : v ∈ winM t q i) : t.any (isAt q v) = true := by
 unfold winM at h
 obtain ⟨w, hw, rfl⟩ := List.mem_map.1 h
 exact (List.mem_filter.1 hw).2
section
variable {a b c e f g h i n : Int} {d : List Int} {j : Bool} {k : List SeT} {l : List (List (List EnT))} {m : List TuT} {o : List EnT} {p : List OuT}
theorem Krn (q r s : Int) : 0 ≤ (ktM (a, b, c, d, e, f, g, h, i, j, k, l, m, n, o, p) q r s).2 ∧ (ktM (a, b, c, d, e, f, g, h, i, j, k, l, m, n, o, p) q r s).2 ≤ 10000 := by
 cases hh : Kfg (a, b, c, d, e, f, g, h, i, j, k, l, m, n, o, p)
 ·simp only [ktM, hh, cond_false]
  omega
 ·simp only [ktM, hh, cond_true]
  obtain ⟨h1, h2⟩ := Kgc hh
  have hf : EnsOk ((o ++ p.map (·.2)).filter (isK q r s)) := Kht h1 _
  exact Kpi (Kfl hf) (Kjg hf (h2.filter _))
theorem Knn (z : HsSz d k l m o p) (key : Int) :
  lp Kba_s131066 ((a, b, c, d, e, f, g, h, i, j, k, l, m, n, o, p), key, (bif Kfg (a, b, c, d, e, f, g, h, i, j, k, l, m, n, o, p) then winM (allM l o p) key 21 else []), 0)
   = some (.inr ((a, b, c, d, e, f, g, h, i, j, k, l, m, n, o, p), key, (bif Kfg (a, b, c, d, e, f, g, h, i, j, k, l, m, n, o, p) then winM (allM l o p) key 21 else []))) := by
 cases hh : Kfg (a, b, c, d, e, f, g, h, i, j, k, l, m, n, o, p)
 ·simp only [cond_false]
  have q := Kfb (S := Kba_s131066) (n := 0) (fun s => ((a, b, c, d, e, f, g, h, i, j, k, l, m, n, o, p), key, [], (s : Int))) (by omega) (b := .inr ((a, b, c, d, e, f, g, h, i, j, k, l, m, n, o, p), key, [])) (fun s hs => by omega) (by simp only [Kba_s131066, lnn, List.length_nil, ltF, cond_false])
  rw [cast0] at q
  exact q
 ·simp only [cond_true]
  have hlen := Kjb (allM l o p) key 21
  have q := Kfb (S := Kba_s131066) (n := (winM (allM l o p) key 21).length) (fun s => ((a, b, c, d, e, f, g, h, i, j, k, l, m, n, o, p), key, winM (allM l o p) key 21, (s : Int))) (by omega) (b := .inr ((a, b, c, d, e, f, g, h, i, j, k, l, m, n, o, p), key, winM (allM l o p) key 21)) (fun s hs => by
   obtain ⟨⟨x1, x2, x3, x4, x5, x6, x7⟩, t, e1, ht⟩ := Kqy (q := key) (w := (winM (allM l o p) key 21).getD s 0) z hh (Kra (Kew (d := 0) hs))
   have hg : gx (winM (allM l o p) key 21) (s : Int) 0 = (winM (allM l o p) key 21).getD s 0 := rfl
   simp only [Kba_s131066, lnn, ltn hs, cond_true, ixn hs, lxn hs, hg, e1, Option.bind_some, dF (show ¬ t < 1 by omega), cond_false, wsucc (show s ≤ 1048576 by omega)]
   by_cases h0 : (s : Int) > 0
   ·have hs1 : s - 1 < (winM (allM l o p) key 21).length := by omega
    have hg1 : gx (winM (allM l o p) key 21) ((s - 1 : Nat) : Int) 0 = (winM (allM l o p) key 21).getD (s - 1) 0 := rfl
    have hlt := Ksd (t := allM l o p) (q := key) (i := 21) (x := s - 1) (y := s) (by omega) hs
    simp only [dT h0, cond_true, wpred (show 0 < s by omega) (show s ≤ 1048576 by omega), ixn hs1, lxn hs1, hg1, Option.bind_some, dF (show ¬ ((winM (allM l o p) key 21).getD s 0 ≤ (winM (allM l o p) key 21).getD (s - 1) 0) by omega), cond_false]
   ·simp only [dF h0, cond_false]) (by simp only [Kba_s131066, lnn, ltF, cond_false])
  rw [cast0] at q
  exact q
end
theorem law_askedParts (a0 : List Int) (hb : ∀ v ∈ a0, 0 ≤ v ∧ v ≤ 255) : Kba a0 = some true := by
 simp only [Kba, Keu, Option.bind_some, lnn, Kik]
 split
 ·rfl
 ·rename_i ha
  have ha : a0.length ≤ 1048576 := by omega
  obtain ⟨⟨a1, b1, k1⟩, e0, g0⟩ := Kqn ha
  obtain ⟨a, b, c, d, e, f, g, h, i, j, k, l, m, n, o, p, ⟨x2, y2, z2⟩, e1, z, h2⟩ := Kot g0
  obtain ⟨key, ⟨x3, y3, z3⟩, e3, _, _, h3⟩ := Kfe h2 (n := 3) (by omega)
  obtain ⟨fr, ⟨x4, y4, z4⟩, e4, _, h4⟩ := Kfd h3 (l := [0, 1, -1, 5]) (by simp)
  obtain ⟨to, ⟨x5, y5, z5⟩, e5, _, h5⟩ := Kfd h4 (l := [0, 1, 20, 9223372036854775807]) (by simp)
  have hd : Kea a0 = some ((a, b, c, d, e, f, g, h, i, j, k, l, m, n, o, p), key, fr, to) := by
   simp only [Kea, e0, e1, e3, e4, e5, Option.bind_some]
  obtain ⟨r, er, r1, r2⟩ := Ksj ha hb
  have hmod : Int.tmod r 20 = r % 20 := Int.tmod_eq_emod_of_nonneg r1
  have hc : 0 ≤ r % 20 ∧ r % 20 ≤ 19 := by omega
  generalize r % 20 = cut at hmod hc
  have i1 := fun x y : Int => Koy (a := a) (b := b) (c := c) (e := e) (f := f) (g := g) (h := h) (i := i) (n := n) (j := j) (q := key) (r := x) (s := y) z
  have s1 := Kpy (a := a) (b := b) (c := c) (e := e) (f := f) (g := g) (h := h) (i := i) (n := n) (j := j) (q := key) (r := fr) (s := to) z
  have ok := fun x y : Int => Ksq (a := a) (b := b) (c := c) (d := d) (e := e) (f := f) (g := g) (h := h) (i := i) (j := j) (k := k) (l := l) (m := m) (n := n) (o := o) (p := p) key x y
  have rng := fun x y : Int => Krn (a := a) (b := b) (c := c) (d := d) (e := e) (f := f) (g := g) (h := h) (i := i) (j := j) (k := k) (l := l) (m := m) (n := n) (o := o) (p := p) key x y
  obtain ⟨pa, pb⟩ := Kpe (a := a) (b := b) (c := c) (d := d) (e := e) (f := f) (g := g) (h := h) (i := i) (j := j) (k := k) (l := l) (m := m) (n := n) (o := o) (p := p) key cut hc
  have le := Ksp (a := a) (b := b) (c := c) (d := d) (e := e) (f := f) (g := g) (h := h) (i := i) (j := j) (k := k) (l := l) (m := m) (n := n) (o := o) (p := p) key fr to
  have loop := Knn (a := a) (b := b) (c := c) (e := e) (f := f) (g := g) (h := h) (i := i) (j := j) (n := n) z key
  have wi := Kjx (a := a) (b := b) (c := c) (e := e) (f := f) (g := g) (h := h) (i := i) (j := j) (n := n) (q := key) z
  have ws := Kjy (a := a) (b := b) (c := c) (e := e) (f := f) (g := g) (h := h) (i := i) (j := j) (n := n) (q := key) z
  have wl : (bif Kfg (a, b, c, d, e, f, g, h, i, j, k, l, m, n, o, p) then winM (allM l o p) key 21 else []).length ≤ 1048576 := by
   cases Kfg (a, b, c, d, e, f, g, h, i, j, k, l, m, n, o, p)
   ·simp
   ·have := Kjb (allM l o p) key 21
    simp only [cond_true]; omega
  generalize (bif Kfg (a, b, c, d, e, f, g, h, i, j, k, l, m, n, o, p) then winM (allM l o p) key 21 else []) = W at loop wi ws wl
  have iA := i1 fr to
  have iB := i1 0 cut
  have iC := i1 (cut + 1) 20
  have iD := i1 0 20
  have okA := ok fr to
  have okB := ok 0 cut
  have okC := ok (cut + 1) 20
  have okD := ok 0 20
  have rB := rng 0 cut
  have rC := rng (cut + 1) 20
  have hw : w64 (cut + 1) = cut + 1 := Key (by omega) (by omega)
  generalize ktM (a, b, c, d, e, f, g, h, i, j, k, l, m, n, o, p) key fr to = A at iA s1 okA le
  generalize ktM (a, b, c, d, e, f, g, h, i, j, k, l, m, n, o, p) key 0 cut = B at iB okB rB pa pb
  generalize ktM (a, b, c, d, e, f, g, h, i, j, k, l, m, n, o, p) key (cut + 1) 20 = C at iC okC rC pa pb
  generalize ktM (a, b, c, d, e, f, g, h, i, j, k, l, m, n, o, p) key 0 20 = D at iD okD pa pb le
  have mg := Kip okB okC
  rw [pa] at mg
  have sA := Kpw (okA.toLe.mono (b := 1048576) (by omega))
  have sD := Kpw (okD.toLe.mono (b := 1048576) (by omega))
  obtain ⟨⟨A1, A2, A3, A4, A5, A6, A7⟩, A8⟩ := A
  obtain ⟨⟨B1, B2, B3, B4, B5, B6, B7⟩, B8⟩ := B
  obtain ⟨⟨C1, C2, C3, C4, C5, C6, C7⟩, C8⟩ := C
  obtain ⟨⟨D1, D2, D3, D4, D5, D6, D7⟩, D8⟩ := D
  simp only at pb le mg sA sD rB rC
  have hsum : w64 (B8 + C8) = D8 := by rw [Key (by omega) (by omega)]; exact pb
  simp only [hd, iA, s1, Option.bind_some, bne_self_eq_false, cond_false, sA, Bool.not_true, er, hmod, iB, hw, iC, iD, mg, hsum, sD]
  rw [if_neg (by omega)]
  simp only [wi, Option.bind_some, loop, bx_inr, ws, Kqv wl]
end Go.Proofs.YtppjdpcmaipoaaaGreat.Tw
