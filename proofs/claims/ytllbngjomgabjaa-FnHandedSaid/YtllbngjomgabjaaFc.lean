/- Plain: FnHanded: each is handed over once, in order, and all of them, given time. No condition: lemmas. -/
import Derived.Test.YtllbngjomgabjaaFb
namespace Go.Proofs.Ytllbngjomgabjaa.Tw
open Go.Mach
set_option linter.unusedVariables false
set_option linter.unusedSimpArgs false
set_option maxRecDepth 20000

/-- How many there are. -/
def lensN : List (List Int) → Nat
  | [] => 0
  | x :: r => x.length + lensN r

theorem lens_go : ∀ (l : List (List Int)) (c : Int), l.foldl (fun t r => t + (r.length : Int)) c = c + ((lensN l : Nat) : Int)
  | [], c => by simp [lensN]
  | y :: l, c => by rw [List.foldl_cons, lens_go l]; simp only [lensN]; omega

theorem total_eq {ls : List (List Int)} {o all : List Int} (hs : SmIntSS ls) (ha : all.length ≤ 1048576) (hc : ∀ i, i < ls.length → cnt all (i : Int) ≤ ((ls.getD i []).length : Int)) :
    lp laws_FnHanded_s2042 (ls, o, all, 0, 0) = some (.inr (ls, o, all, ((lensN ls : Nat) : Int))) := by
  have := lp_fold (S := laws_FnHanded_s2042) ls [] (fun t i => (ls, o, all, t, (i : Int))) (fun t r => t + (r.length : Int)) (fun t => .inr (ls, o, all, t)) (fun t i => 0 ≤ t ∧ t ≤ 1048576 * (i : Int)) hs.1 (fun t i hi hI hm => by
    have h1 := hc i hi
    have h2 := hs.2 _ hm
    simp only [laws_FnHanded_s2042, lnn, ltn hi, cond_true, ixn hi, lxn hi, times_eq ha, Option.bind_some, gxn, dF (show ¬ cnt all (i : Int) > ((ls.getD i []).length : Int) by omega), cond_false, wsucc (show i ≤ 1048576 by have := hs.1; omega)]
    have := hs.1
    rw [w64_ok (by omega) (by omega)]
    exact ⟨rfl, by omega, by omega⟩) (fun t hI => by simp only [laws_FnHanded_s2042, lnn, ltF, cond_false]) (a0 := 0) (by simp)
  rw [cast0] at this
  rw [this, lens_go, Int.zero_add]

theorem same_eq {ls : List (List Int)} {o all : List Int} {T : Int} (ho : o.length ≤ 1048576) (hle : o.length ≤ all.length) (h : ∀ i, i < o.length → o.getD i 0 = all.getD i 0) :
    lp laws_FnHanded_s8186 (ls, o, all, T, 0) = some (.inr (ls, all, T)) := by
  refine lp_det (fun i => (ls, o, all, T, (i : Int))) (n := o.length) ho (fun i hi => ?_) (by simp only [laws_FnHanded_s8186, lnn, ltF, cond_false])
  simp only [laws_FnHanded_s8186, lnn, ltn hi, cond_true, ixn hi, lxn hi, ixn (show i < all.length by omega), lxn (show i < all.length by omega), gxn, h i hi, bne_self_eq_false, cond_false, wsucc (show i ≤ 1048576 by omega)]

theorem whole_eq {ls : List (List Int)} {all S : List Int} {T : Int} {i : Nat} (hi : i < ls.length) (hl : listOk (ls.getD i []) = true) :
    lp laws_FnHanded_s8387146 (ls, all, T, S, (i : Int), 0, 0) = some (ls, all, T, S, (i : Int), (ls.getD i []).sum) := by
  have h40 := len40 hl
  have := lp_fold (S := laws_FnHanded_s8387146) (ls.getD i []) 0 (fun c k => (ls, all, T, S, (i : Int), c, (k : Int))) (fun c y => c + y) (fun c => (ls, all, T, S, (i : Int), c)) (fun c k => 0 ≤ c ∧ c ≤ 200 * (k : Int)) (by omega) (fun c k hk hI hm => by
    have := listOk_all hl _ hm
    simp only [laws_FnHanded_s8387146, ixn hi, lxn hi, lnn, gxn, ltn hk, cond_true, ixn hk, wsucc (show k ≤ 1048576 by omega)]
    rw [w64_ok (by omega) (by omega)]
    exact ⟨rfl, by omega, by omega⟩) (fun c hI => by simp only [laws_FnHanded_s8387146, ixn hi, lxn hi, lnn, gxn, ltF, cond_false]) (a0 := 0) (by simp)
  rw [cast0] at this
  rw [this, sum_go, Int.zero_add]

theorem sm_all {l : List Int} {a : Int} (h : a = (l.length : Int)) : sm l a = l.sum := by
  unfold sm
  rw [List.take_of_length_le (by omega)]

theorem limN200 : limN 200 = 200 := rfl

/-- The law's twin answers true. -/
theorem law_handed (a : List Int) : laws_FnHanded a = some true := by
  simp only [laws_FnHanded, laws_big, Option.bind_some, lnn, bif_dec]
  split
  · rfl
  · rename_i ha
    obtain ⟨ls, W, q, n, e0, hs, hW⟩ := drawHand_ok (a := a) (by omega)
    simp only [e0, Option.bind_some]
    cases hk : hOk ls W q with
    | false =>
      obtain ⟨e1, e2⟩ := hand_bad q n hs (by omega) hk
      obtain ⟨_, e3⟩ := hand_bad q 200 hs (by omega) hk
      simp only [e1, e2, e3, Option.bind_some, sameInts_ok (l := []) (by simp), Bool.not_true, cond_false, total_eq (o := []) (all := []) hs (by simp) (fun i _ => by rw [cnt_nil]; omega), bx_inr]
      rfl
    | true =>
      obtain ⟨l0, l1, l2, w0, w1, w2, rfl, rfl, V⟩ := hOk_get hk
      obtain ⟨k, s, e1, e2, hr, hlim, hend⟩ := hand_good n V hs
      obtain ⟨k2, s2, _, e4, hr2, hlim2, hend2⟩ := hand_good 200 V hs
      obtain ⟨_, _, _, _, _, _, _, _, o, rfl, H⟩ := run_inv V k s hr
      obtain ⟨a0, a1, a2, tA, tF, x, y, z, all, rfl, H2⟩ := run_inv V k2 s2 hr2
      have hlen := H.len
      have hlen2 := H2.len
      have h200 : k ≤ 200 := by unfold limN at hlim; omega
      rw [limN200] at hlim2 hend2
      have j0 := len40 V.l0
      have j1 := len40 V.l1
      have j2 := len40 V.l2
      have b0 := H2.b0
      have b1 := H2.b1
      have b2 := H2.b2
      have hsum := H2.sum
      have hstuck := hend2.resolve_left (by omega)
      obtain ⟨f0, f1, f2⟩ := stuck_all V H2 hstuck
      have hle : k ≤ k2 := by
        rcases Nat.lt_or_ge k2 k with g | g
        · obtain ⟨s3, h3⟩ := run_before hr (k2 + 1) g
          simp only [runM, hr2, Option.bind_some, hstuck] at h3
          simp at h3
        · exact g
      obtain ⟨r, hpre⟩ := run_mono hr hr2 hle
      simp only at e1 e2 e4 hpre
      have hT : ((lensN [l0, l1, l2] : Nat) : Int) = (all.length : Int) := by simp only [lensN]; omega
      have hc : ∀ i, i < ([l0, l1, l2] : List (List Int)).length → cnt all (i : Int) ≤ ((([l0, l1, l2] : List (List Int)).getD i []).length : Int) := by
        intro i hi
        match i, hi with
        | 0, _ => show cnt all 0 ≤ (l0.length : Int); rw [H2.c0]; exact b0.2
        | 1, _ => show cnt all 1 ≤ (l1.length : Int); rw [H2.c1]; exact b1.2
        | 2, _ => show cnt all 2 ≤ (l2.length : Int); rw [H2.c2]; exact b2.2
      have hall : all.length ≤ 1048576 := by omega
      simp only [e1, e2, e4, Option.bind_some, sameInts_ok (l := o) (by omega), Bool.not_true, cond_false, total_eq (o := o) hs hall hc, bx_inr]
      cases hz : ((all.length : Int) == 0) with
      | true =>
        have : o.length = 0 := by
          have := eq_of_beq hz
          omega
        simp only [cond_true, this]
        rfl
      | false =>
        have hl : loadsOk [l0, l1, l2] = true := loads3 V.l0 V.l1 V.l2
        have hlast : lp laws_FnHanded_s32762 ([l0, l1, l2], all, ((lensN [l0, l1, l2] : Nat) : Int), sumsH [l0, l1, l2] all, 0) = some (.inr (all, ((lensN [l0, l1, l2] : Nat) : Int))) := by
          refine lp_det (fun i => ([l0, l1, l2], all, ((lensN [l0, l1, l2] : Nat) : Int), sumsH [l0, l1, l2] all, (i : Int))) (n := 3) (by omega) (fun i hi => ?_) (by rfl)
          have hlo : listOk (([l0, l1, l2] : List (List Int)).getD i []) = true := by
            match i, hi with
            | 0, _ => exact V.l0
            | 1, _ => exact V.l1
            | 2, _ => exact V.l2
          have hsm : (sumsH [l0, l1, l2] all).getD i 0 = (([l0, l1, l2] : List (List Int)).getD i []).sum := by
            match i, hi with
            | 0, _ => exact sm_all (H2.c0.trans f0)
            | 1, _ => exact sm_all (H2.c1.trans f1)
            | 2, _ => exact sm_all (H2.c2.trans f2)
          have hno : ¬ (((([l0, l1, l2] : List (List Int)).getD i []).length : Int) > cnt all (i : Int)) := by
            match i, hi with
            | 0, _ => show ¬ ((l0.length : Int) > cnt all 0); rw [H2.c0]; omega
            | 1, _ => show ¬ ((l1.length : Int) > cnt all 1); rw [H2.c1]; omega
            | 2, _ => show ¬ ((l2.length : Int) > cnt all 2); rw [H2.c2]; omega
          have h3 : ([l0, l1, l2] : List (List Int)).length = 3 := rfl
          have hS : (sumsH [l0, l1, l2] all).length = 3 := rfl
          simp only [laws_FnHanded_s32762, lnn, h3, dT (show (i : Int) < ((3 : Nat) : Int) by omega), cond_true, whole_eq (show i < ([l0, l1, l2] : List (List Int)).length by omega) hlo, Option.bind_some, hS, ixn hi, lxn hi, gxn, hsm, bne_self_eq_false, cond_false, handLeft_eq hi hs hl hall, dF hno, wsucc (show i ≤ 1048576 by omega)]
        have hsame : ∀ i, i < o.length → o.getD i 0 = all.getD i 0 := by
          intro i hi
          rw [hpre, List.getD_eq_getElem?_getD, List.getD_eq_getElem?_getD, List.getElem?_append_left hi]
        rw [hT] at hlast
        simp only [cond_false, hT, same_eq (ls := [l0, l1, l2]) (T := (all.length : Int)) (show o.length ≤ 1048576 by omega) (show o.length ≤ all.length by omega) hsame, bx_inr, handSum_eq V.l0 V.l1 V.l2 hs hall, Option.bind_some, hlast]
        simp

end Go.Proofs.Ytllbngjomgabjaa.Tw
