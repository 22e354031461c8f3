/- Plain: FnExactStats. No condition: lemmas. -/
import Derived.Test.YtkegollaleklaaaGreatLt
namespace Go.Proofs.YtkegollaleklaaaGreat.Tw
open Go.Mach
set_option linter.unusedVariables false
set_option linter.unusedSimpArgs false
set_option maxRecDepth 20000

section
variable {a b c e f g h i n : Int} {d : List Int} {j : Bool} {k : List SeT} {l : List (List (List EnT))} {m : List TuT} {o : List EnT} {p : List OuT}

theorem specItems_eq (z : HsSz d k l m o p) : spec_Items (a, b, c, d, e, f, g, h, i, j, k, l, m, n, o, p) = some (l.flatten.flatten.length : Int) := by
  have hrows := z.rows
  have inner : ∀ q, q < l.length → lp spec_Items_s3730 ((a, b, c, d, e, f, g, h, i, j, k, l, m, n, o, p), ((l.take q).flatten.flatten.length : Int), (q : Int), 0) = some ((a, b, c, d, e, f, g, h, i, j, k, l, m, n, o, p), ((l.take (q + 1)).flatten.flatten.length : Int), (q : Int)) := by
    intro q hq
    have hb := row_bound hq
    have hrl := (z.hl _ (getD_mem (d := []) hq)).1
    have qq := lp_det (S := spec_Items_s3730) (fun s => ((a, b, c, d, e, f, g, h, i, j, k, l, m, n, o, p), (((l.take q).flatten.flatten.length + ((l.getD q []).take s).flatten.length : Nat) : Int), (q : Int), (s : Int))) hrl (b := ((a, b, c, d, e, f, g, h, i, j, k, l, m, n, o, p), (((l.take q).flatten.flatten.length + (l.getD q []).flatten.length : Nat) : Int), (q : Int))) (fun s hs => by
      have hb2 := flatten_take_le (l.getD q []) (s + 1)
      rw [take_snoc [] hs, flatten_snoc, List.length_append] at hb2
      simp only [spec_Items_s3730, lnn, ixn hq, gxn, Option.bind_some, ltn hs, cond_true, ixn hs, wsucc (show s ≤ 1048576 by omega)]
      rw [w64_ok (by omega) (by omega), take_snoc [] hs, flatten_snoc, List.length_append]
      congr 4
      omega) (by simp only [spec_Items_s3730, lnn, ixn hq, gxn, Option.bind_some, ltF, cond_false, List.take_length])
    rw [cast0, List.take_zero, List.flatten_nil, List.length_nil, Nat.add_zero] at qq
    rw [qq, take_snoc [] hq, flatten_snoc, List.flatten_append, List.length_append]
  have q1 := lp_det (S := spec_Items_s58) (fun q => ((a, b, c, d, e, f, g, h, i, j, k, l, m, n, o, p), ((l.take q).flatten.flatten.length : Int), (q : Int))) z.hl0 (b := (l.flatten.flatten.length : Int)) (fun q hq => by
    simp only [spec_Items_s58, lnn, ltn hq, Option.bind_some, cond_true, inner q hq, wsucc (show q ≤ 1048576 by have := z.hl0; omega)]) (by simp only [spec_Items_s58, lnn, ltF, Option.bind_some, cond_false, List.take_length])
  have e0 : ((l.take 0).flatten.flatten.length : Int) = 0 := by simp
  rw [cast0, e0] at q1
  simp only [spec_Items, q1, Option.bind_some]

def stM (k : List SeT) (i : Nat) : List Int := (List.range i).flatMap fun q => [sizeM (k.getD q se0).2.2.1, (k.getD q se0).2.2.2.1]
theorem stM_succ (k : List SeT) (i : Nat) : stM k (i + 1) = stM k i ++ [sizeM (k.getD i se0).2.2.1, (k.getD i se0).2.2.2.1] := by
  unfold stM
  rw [List.range_succ, List.flatMap_append]
  simp
theorem stM_len (k : List SeT) : ∀ i, (stM k i).length = 2 * i
  | 0 => rfl
  | i + 1 => by rw [stM_succ, List.length_append, stM_len k i]; simp; omega
def statsM (k : List SeT) (l : List (List (List EnT))) (o : List EnT) (p : List OuT) : List Int := [(l.flatten.flatten.length : Int), (o.length : Int), (p.length : Int), ((lateM p : Nat) : Int)] ++ stM k 3
theorem statsM_len (k : List SeT) (l : List (List (List EnT))) (o : List EnT) (p : List OuT) : (statsM k l o p).length = 10 := by
  unfold statsM
  rw [List.length_append, stM_len]
  rfl

theorem house_k (hh : houseOk (a, b, c, d, e, f, g, h, i, j, k, l, m, n, o, p) = true) : k.length = 3 := by
  unfold houseOk at hh
  simp only [Bool.and_eq_true] at hh
  exact (parts_seat hh.2.1).1

theorem specStats_eq (z : HsSz d k l m o p) : spec_Stats (a, b, c, d, e, f, g, h, i, j, k, l, m, n, o, p) = some (bif houseOk (a, b, c, d, e, f, g, h, i, j, k, l, m, n, o, p) then statsM k l o p else []) := by
  simp only [spec_Stats, specHouseOk_eq z, Option.bind_some, specItems_eq z, specLate_eq z]
  cases hh : houseOk (a, b, c, d, e, f, g, h, i, j, k, l, m, n, o, p)
  · rfl
  · have hk := house_k hh
    have q := lp_det (S := spec_Stats_s122) (fun q => ((a, b, c, d, e, f, g, h, i, j, k, l, m, n, o, p), [(l.flatten.flatten.length : Int), (o.length : Int), (p.length : Int), ((lateM p : Nat) : Int)] ++ stM k q, (q : Int))) (n := 3) (by omega) (b := statsM k l o p) (fun q hq => by
      have hqk : q < k.length := by omega
      have hs := specSize_eq (z.hk _ (getD_mem (d := se0) hqk))
      have hl := stM_len k q
      simp only [spec_Stats_s122, dT (show (q : Int) < 3 by omega), cond_true, ixn hqk, gxn, Option.bind_some, wsucc (show q ≤ 1048576 by omega)]
      rw [hs, Option.bind_some, fitsC (by simp only [List.length_append, List.length_cons, List.length_nil, hl]; omega) (by omega), stM_succ, List.append_assoc]) (by simp only [spec_Stats_s122, dF (show ¬ ((3 : Nat) : Int) < 3 by omega), cond_false, statsM])
    have e0 : stM k 0 = [] := rfl
    rw [cast0, e0, List.append_nil] at q
    simp only [Bool.not_true, cond_false, cond_true, lnn, q, Option.bind_some]

theorem implStats_eq (z : HsSz d k l m o p) : impl_Stats (a, b, c, d, e, f, g, h, i, j, k, l, m, n, o, p) = some (bif houseOk (a, b, c, d, e, f, g, h, i, j, k, l, m, n, o, p) then statsM k l o p else []) := by
  simp only [impl_Stats, impl_Items, implHouseOk_eq z, Option.bind_some, implRowEntries_eq z.hl0 (fun r hr => (z.hl r hr).1) z.rows, implLate_eq z]
  cases hh : houseOk (a, b, c, d, e, f, g, h, i, j, k, l, m, n, o, p)
  · rfl
  · have hk := house_k hh
    have q := lp_det (S := impl_Stats_s122) (fun q => ([(l.flatten.flatten.length : Int), (o.length : Int), (p.length : Int), ((lateM p : Nat) : Int)] ++ stM k q, k, (k.length : Int), (q : Int))) (n := 3) (by omega) (b := statsM k l o p) (fun q hq => by
      have hqk : q < k.length := by omega
      have hs := implSize_eq (z.hk _ (getD_mem (d := se0) hqk))
      have hl := stM_len k q
      simp only [impl_Stats_s122, ltn hqk, cond_true, ixn hqk, gxn, Option.bind_some, wsucc (show q ≤ 1048576 by omega)]
      rw [hs, Option.bind_some, fitsC (by simp only [List.length_append, List.length_cons, List.length_nil, hl]; omega) (by omega), stM_succ, List.append_assoc]) (by rw [← hk]; simp only [impl_Stats_s122, ltF, cond_false, statsM, hk])
    have e0 : stM k 0 = [] := rfl
    rw [cast0, e0, List.append_nil] at q
    simp only [Bool.not_true, cond_false, cond_true, lnn, q, Option.bind_some]

end
/-- The law's twin answers true. -/
theorem law_stats (x : HsT) (hx : HsLe 9223372036854775807 x) : laws_FnExactStats x = some true := by
  obtain ⟨y, e1, e2⟩ := szHouse_ok x 1048576 hx (by omega) (by omega)
  obtain ⟨a, b, c, d, e, f, g, h, i, j, k, l, m, n, o, p⟩ := x
  simp only [laws_FnExactStats, e1, Option.bind_some, bif_dec]
  rcases e2 with rfl | ⟨e2, e3⟩
  · simp
  · rw [if_neg (by omega)]
    have hn : nHs (a, b, c, d, e, f, g, h, i, j, k, l, m, n, o, p) ≤ 1048576 := by omega
    have hs := hsLe_of hn
    have hz := hsSz_of hn
    have hm := mHs_le hn
    obtain ⟨x', m1⟩ := markHouse_ok hs hm
    obtain ⟨x1, x2, x3, x4, x5, x6, x7, x8, x9, x10, x11, x12, x13, x14, x15, x16⟩ := x'
    simp only [toHouse_ok hs, specStats_eq hz, implStats_eq hz, Option.bind_some]
    obtain ⟨r, hr, hl⟩ : ∃ r : List Int, (bif houseOk (a, b, c, d, e, f, g, h, i, j, k, l, m, n, o, p) then statsM k l o p else []) = r ∧ r.length ≤ 10 := ⟨_, rfl, by
      cases houseOk (a, b, c, d, e, f, g, h, i, j, k, l, m, n, o, p)
      · simp
      · simp [statsM_len]⟩
    rw [hr]
    obtain ⟨r', m3, m4⟩ := marksIntS (l := r) (by omega) 1 (by omega) (by omega)
    generalize mHs (a, b, c, d, e, f, g, h, i, j, k, l, m, n, o, p) = mm at hm m1
    have g1 : ¬ (1 + ((mm : Nat) : Int) < 0) := by omega
    have g2 : ¬ (1 + ((r.length : Nat) : Int) < 0) := by omega
    simp only [eqHouse_ok hs, eqIntS_ok (show r.length ≤ 1048576 by omega), Option.bind_some, Bool.not_true, cond_false, m1, m3, m4, if_neg g1, if_neg g2, bne_self_eq_false]

end Go.Proofs.YtkegollaleklaaaGreat.Tw
