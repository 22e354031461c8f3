/- Plain: deeds as text; the laws FnExactDeedText, FnExactDeedsText. No condition: lemmas. -/
import Derived.Test.YtcdkpfcfcjnooaaDoorDlA
import Derived.Test.YtcdkpfcfcjnooaaDoorDlE
namespace Go.Proofs.YtcdkpfcfcjnooaaDoor.Tw
open Go.Mach
set_option linter.unusedVariables false
set_option maxRecDepth 20000

abbrev DeedT := Int × Int × Int × Int × Int × List Int
abbrev kDeed : K := .pair kI (.pair kI (.pair kI (.pair kI (.pair kI (.list kI)))))
abbrev deed0 : DeedT := (0, 0, 0, 0, 0, [])
def dNums (d : DeedT) : List Int := [d.1, d.2.1, d.2.2.1, d.2.2.2.1, d.2.2.2.2.1] ++ d.2.2.2.2.2
def dLe (b : Nat) (d : DeedT) : Prop := (d.2.2.2.2.2).length ≤ b
abbrev inD (x : Int) : Bool := inR x 0 999999
def txt (l : List Int) : List UInt8 := jn (l.map dg) [32]
def deedT (d : DeedT) : List UInt8 := if inR d.1 0 8 && decide ((d.2.2.2.2.2).length ≤ 20) && (dNums d).all inD then txt (dNums d) else []

theorem inD_dg {x : Int} (h : inD x = true) : spec_Digits x = some (dg x) ∧ impl_Digits x = some (dg x) ∧ (dg x).length ≤ 21 := by
  obtain ⟨h1, h2⟩ := inR_iff.mp h
  exact ⟨specDigits_eq h1 (by omega), implDigits_eq h1 (by omega), dg_le h1 (by omega)⟩

theorem txt_le {l : List Int} (h : l.all inD = true) : (txt l).length ≤ 22 * l.length := by
  have := jn_length [32] 21 (l.map dg) (fun x hx => by
    obtain ⟨y, hy, rfl⟩ := List.mem_map.1 hx
    exact (inD_dg (List.all_eq_true.1 h y hy)).2.2)
  simpa [txt] using this

theorem deedT_le (d : DeedT) : (deedT d).length ≤ 600 := by
  unfold deedT
  split
  · next h =>
    simp only [Bool.and_eq_true, decide_eq_true_eq] at h
    have := txt_le h.2
    have hl : (dNums d).length ≤ 25 := by simp only [dNums, List.length_append, List.length_cons, List.length_nil]; omega
    omega
  · simp

theorem all_take {l : List Int} {p : Int → Bool} (i : Nat) (h : ∀ j, j < i → p (l.getD j 0) = true) (hi : i ≤ l.length) : (l.take i).all p = true := by
  rw [List.all_eq_true]
  intro x hx
  obtain ⟨j, hj⟩ := List.getElem?_of_mem hx
  have hjl : j < i := by
    have := (List.getElem?_eq_some_iff.1 hj).1
    rw [List.length_take] at this
    omega
  have := h j hjl
  rw [List.getElem?_take_of_lt hjl] at hj
  rw [List.getD_eq_getElem?_getD, hj] at this
  exact this

/-- A walk that stops where a test fails; what came before passed it. -/
theorem walk_pre {σ β : Type} {S : σ → Option (σ ⊕ β)} (st : Nat → σ) {n : Nat} (hn : n ≤ 1048576) (p : Nat → Bool) {t e : β}
    (h1 : ∀ i, i < n → (∀ j, j < i → p j = true) → S (st i) = some (if p i then .inl (st (i + 1)) else .inr e)) (h2 : (∀ j, j < n → p j = true) → S (st n) = some (.inr t)) :
    iter S bigN (st 0) = some (if (List.range n).all p then t else e) := by
  have key : ∀ (f k : Nat), k ≤ n → n - k < f → (∀ j, j < k → p j = true) → iter S f (st k) = some (if (List.range' k (n - k)).all p then t else e) := by
    intro f
    induction f with
    | zero => intro k _ h; omega
    | succ f ih =>
      intro k hk hf hp
      simp only [iter]
      by_cases hkn : k < n
      · rw [h1 k hkn hp, show n - k = (n - (k + 1)) + 1 by omega, List.range'_succ, List.all_cons]
        cases hpk : p k with
        | true =>
          simp only [if_true, Bool.true_and]
          exact ih (k + 1) (by omega) (by omega) (fun j hj => by
            rcases Nat.lt_succ_iff_lt_or_eq.1 hj with g | g
            · exact hp j g
            · rw [g]; exact hpk)
        | false => simp
      · obtain rfl : k = n := by omega
        rw [h2 hp]
        simp
  rw [key bigN 0 (Nat.zero_le _) (by simp only [bigN]; omega) (fun j hj => by omega), List.range_eq_range', Nat.sub_zero]

theorem specDeedText_eq {d : DeedT} (h : dLe small d) : spec_DeedText d.1 d.2.1 d.2.2.1 d.2.2.2.1 d.2.2.2.2.1 d.2.2.2.2.2 = some (deedT d) := by
  have hs : (d.2.2.2.2.2).length ≤ 1048576 := h
  unfold spec_DeedText deedT
  simp only [l1In_eq, Option.bind_some, lit_nil]
  cases inR d.1 0 8 with
  | false => rfl
  | true =>
    simp only [Bool.not_true, cond_false, Bool.true_and]
    by_cases hl : (d.2.2.2.2.2).length ≤ 20
    · rw [decide_eq_false (by omega), cond_false, decide_eq_true hl, Bool.true_and]
      unfold spec_l26Nums
      rw [fits8 (by simp only [List.length_cons, List.length_nil]; omega), chk_tt, Option.bind_some]
      have hn : (dNums d).length ≤ 25 := by simp only [dNums, List.length_append, List.length_cons, List.length_nil]; omega
      show Option.bind (spec_DeedText_l250 [] (dNums d) 0) _ = _
      generalize dNums d = l at hn ⊢
      have : spec_DeedText_l250 [] l 0 = some (if l.all inD then .inr (txt l) else .inl []) := by
        rw [← all_range_all 0 inD l]
        refine walk_pre (S := fun d => spec_DeedText_s250 d.1 d.2.1 d.2.2) (fun i => (txt (l.take i), l, (i : Int))) (by omega) (fun i => inD (l.getD i 0)) (fun i hi hp => ?_) (fun hp => ?_)
        · have g1 : (0 : Int) ≤ (i : Int) := by omega
          have hle := txt_le (all_take i hp (by omega))
          have htl : (l.take i).length ≤ 25 := by rw [List.length_take]; omega
          simp only [spec_DeedText_s250, Int.toNat_natCast, wrap_nat (show i ≤ 1048576 by omega), l1In_eq, Option.bind_some, lit_nil, lit_one]
          rw [decide_eq_true (by omega : (i : Int) < l.length), cond_true]
          simp only [chk_dec g1, chk_dec hi]
          cases hb : inD (l.getD i 0) with
          | false =>
            have : inR (l.getD i 0) 0 999999 = false := hb
            rw [this]
            rfl
          | true =>
            have hb' : inR (l.getD i 0) 0 999999 = true := hb
            obtain ⟨q1, _, q2⟩ := inD_dg hb
            rw [hb']
            simp only [Bool.not_true, cond_false, if_true, q1, Option.bind_some]
            by_cases h0 : i = 0
            · subst h0
              rw [decide_eq_false (by omega), cond_false, chk_dec (by omega)]
              simp only [txt, map_take_succ dg l 0 0 hi, List.take_zero, List.map_nil, jn_one]
              rfl
            · rw [decide_eq_true (by omega), cond_true, chk_dec (by omega), chk_dec (by simp only [List.length_append, List.length_cons, List.length_nil]; omega)]
              simp only [txt, map_take_succ dg l i 0 hi]
              rw [jn_snoc _ _ _ (by simpa using take_ne_nil l i (by omega) (by omega)), List.append_assoc]
        · simp only [spec_DeedText_s250]
          rw [decide_eq_false (by omega), cond_false, List.take_length]
      rw [this, Option.bind_some]
      cases l.all inD <;> rfl
    · rw [decide_eq_true (by omega), cond_true, decide_eq_false hl]
      rfl

theorem allWithin_eq {l : List Int} {n a b : Int} (hl : l.length ≤ 1048600) : impl_allWithin l n a b = some (l.all (fun x => inR x a b) && ((l.length : Int) == n)) := by
  unfold impl_allWithin
  have : impl_allWithin_l26 l n a b l l.length 0 = some (if l.all (fun x => inR x a b) then .inr (l, n) else .inl false) := by
    rw [← all_range_all 0 (fun x => inR x a b) l]
    refine walk_runL (S := fun d => impl_allWithin_s26 d.1 d.2.1 d.2.2.1 d.2.2.2.1 d.2.2.2.2.1 d.2.2.2.2.2.1 d.2.2.2.2.2.2) (fun i => (l, n, a, b, l, (l.length : Int), (i : Int))) (by omega) (fun i => inR (l.getD i 0) a b) (fun i hi => ?_) ?_
    · simp only [impl_allWithin_s26, Int.toNat_natCast, wrap_natL (show i ≤ 1099511627776 by omega), within_eq, Option.bind_some]
      rw [decide_eq_true (by omega : (i : Int) < l.length), cond_true, chk_dec (by omega), chk_dec hi]
      cases inR (l.getD i 0) a b <;> rfl
    · simp only [impl_allWithin_s26]
      rw [decide_eq_false (by omega), cond_false]
  rw [this, Option.bind_some]
  cases l.all (fun x => inR x a b) <;> simp

theorem joined_eq {l : List Int} (hl : l.length ≤ 1048576) (h : l.all inD = true) : impl_joined l = some (txt l) := by
  unfold impl_joined
  have hd : ∀ x ∈ l, impl_Digits x = some (dg x) ∧ (dg x).length ≤ 21 := fun x hx => (inD_dg (List.all_eq_true.1 h x hx)).2
  have : impl_joined_l58 [] l l.length 0 = some (l.map dg) := by
    refine det_run (S := fun d => impl_joined_s58 d.1 d.2.1 d.2.2.1 d.2.2.2) (fun i => ((l.take i).map dg, l, (l.length : Int), (i : Int))) hl (fun i hi => ?_) ?_
    · simp only [impl_joined_s58, Int.toNat_natCast, wrap_nat (show i ≤ 1048576 by omega)]
      rw [decide_eq_true (by omega : (i : Int) < l.length), cond_true, chk_dec (by omega), chk_dec hi, (hd _ (getD_mem hi)).1, Option.bind_some, fits16 (by simp only [List.length_map, List.length_take, List.length_cons, List.length_nil]; omega), chk_tt, map_take_succ dg l i 0 hi]
    · simp only [impl_joined_s58]
      rw [decide_eq_false (by omega), cond_false, List.take_length]
  rw [this, Option.bind_some, lit_one, join_some 21 (fun x hx => by
    obtain ⟨y, hy, rfl⟩ := List.mem_map.1 hx
    exact (hd y hy).2) (by simpa using hl) (by simp)]
  rfl

theorem implDeedText_eq {d : DeedT} (h : dLe small d) : impl_DeedText d.1 d.2.1 d.2.2.1 d.2.2.2.1 d.2.2.2.2.1 d.2.2.2.2.2 = some (deedT d) := by
  have hs : (d.2.2.2.2.2).length ≤ 1048576 := h
  unfold impl_DeedText deedT
  rw [show fits (List.length [d.1, d.2.1, d.2.2.1, d.2.2.2.1, d.2.2.2.2.1] + List.length d.2.2.2.2.2) 8 = true from by
    unfold fits
    rw [decide_eq_true_eq]
    have : (d.2.2.2.2.2).length = d.2.2.2.2.2.length := rfl
    refine ⟨?_, ?_⟩
    · unfold rowMost; simp only [List.length_cons, List.length_nil]; omega
    · unfold byteMost; simp only [List.length_cons, List.length_nil]; omega, chk_tt]
  simp only [within_eq, Option.bind_some, lit_nil]
  cases inR d.1 0 8 with
  | false => rfl
  | true =>
    simp only [Bool.not_true, cond_false, Bool.true_and]
    show Option.bind (impl_allWithin (dNums d) ((dNums d).length : Int) 0 999999) _ = _
    have hn : (dNums d).length ≤ 1048600 := by simp only [dNums, List.length_append, List.length_cons, List.length_nil]; omega
    rw [allWithin_eq hn, Option.bind_some]
    have e1 : (((dNums d).length : Int) == ((dNums d).length : Int)) = true := by simp
    rw [e1, Bool.and_true]
    show (bif !(dNums d).all inD then _ else _) = _
    cases hb : (dNums d).all inD with
    | false =>
      rw [Bool.and_false]
      rfl
    | true =>
      rw [Bool.not_true, cond_false, Bool.and_true]
      by_cases hl : d.2.2.2.2.2.length ≤ 20
      · have hn : (dNums d).length ≤ 1048576 := by simp only [dNums, List.length_append, List.length_cons, List.length_nil]; omega
        rw [decide_eq_true hl, decide_eq_false (by omega), cond_false]
        show Option.bind (impl_joined (dNums d)) _ = _
        rw [joined_eq hn hb]
        rfl
      · rw [decide_eq_false hl, decide_eq_true (by omega), cond_true]
        rfl

/-! ### sizes, copies, comparisons -/
theorem szDeed_is : IsSz (fun d : DeedT => laws_szDeed d.1 d.2.1 d.2.2.1 d.2.2.2.1 d.2.2.2.2.1 d.2.2.2.2.2) (dLe big) (dLe small) := by
  intro d a hw h0 h1
  dsimp only [laws_szDeed]
  obtain ⟨b, e1, e2⟩ := szIntS_is d.2.2.2.2.2 a hw h0 h1
  rw [e1, Option.bind_some]
  rcases e2 with rfl | ⟨e2, e3, q1⟩
  · exact ⟨-1, rfl, .inl rfl⟩
  rw [decide_eq_false (by omega), cond_false]
  exact ⟨b, rfl, .inr ⟨e2, e3, q1⟩⟩

theorem szDeedS_is : IsSz laws_szDeedS (fun l => l.length ≤ big ∧ ∀ d ∈ l, dLe big d) (fun l => l.length ≤ small ∧ ∀ d ∈ l, dLe small d) :=
  isSz_list (S := fun d => laws_szDeedS_s122 d.1 d.2.1 d.2.2) szDeed_is deed0 (fun l i a hl hi => by
    simp only [Option.bind_some, laws_szDeedS_s122, Int.toNat_natCast, wrap_nat (show i ≤ 1048576 by omega)]
    rw [decide_eq_true (by omega : (i : Int) < l.length), cond_true, chk_dec (by omega), chk_dec hi]) (fun l a hl => by
    simp only [Option.bind_some, laws_szDeedS_s122]
    rw [decide_eq_false (by omega), cond_false])

theorem toDeed_eq {d : DeedT} (h : dLe small d) : laws_toDeed d.1 d.2.1 d.2.2.1 d.2.2.2.1 d.2.2.2.2.1 d.2.2.2.2.2 = some d := by
  unfold laws_toDeed
  rw [toIntS_eq h]
  rfl

theorem toDeedS_eq {l : List DeedT} (hl : l.length ≤ 1048576) (hr : ∀ d ∈ l, dLe small d) : laws_toDeedS l = some l := by
  unfold laws_toDeedS
  rw [chk_dec (by simp only [Int.toNat_natCast]; omega)]
  have : laws_toDeedS_l58 l (List.replicate (Int.toNat (l.length : Int)) deed0) 0 = some l := by
    simp only [Int.toNat_natCast, ← cp_zero]
    refine (det_run (S := fun d => laws_toDeedS_s58 d.1 d.2.1 d.2.2) (fun i => (l, cp l deed0 i, (i : Int))) hl (fun i hi => ?_) ?_)
    · have h1 := cp_length l deed0 i (by omega)
      simp only [Option.bind_some, laws_toDeedS_s58, Int.toNat_natCast, wrap_nat (show i ≤ 1048576 by omega), h1]
      rw [decide_eq_true (by omega : (i : Int) < l.length), cond_true, chk_dec (by omega), chk_dec hi, toDeed_eq (hr _ (getD_mem hi)), Option.bind_some, chk_dec (by omega), chk_dec hi, chk_dec hi, ← cp_set l deed0 i hi]
    · simp only [Option.bind_some, laws_toDeedS_s58]
      rw [decide_eq_false (by omega), cond_false, cp_all]
  rw [Option.bind_some, this]
  rfl

theorem eqDeed_self {d : DeedT} (h : dLe small d) : laws_eqDeed d.1 d.2.1 d.2.2.1 d.2.2.2.1 d.2.2.2.2.1 d.2.2.2.2.2 d.1 d.2.1 d.2.2.1 d.2.2.2.1 d.2.2.2.2.1 d.2.2.2.2.2 = some true := by
  unfold laws_eqDeed
  simp only [bne_self_eq_false, cond_false]
  rw [lawsEqIntS_eq h, Option.bind_some]
  simp

theorem eqDeedS_self {l : List DeedT} (hl : l.length ≤ 1048576) (hr : ∀ d ∈ l, dLe small d) : laws_eqDeedS l l = some true := by
  have h := eqS_run (S := fun d => laws_eqDeedS_s58 d.1 d.2.1 d.2.2) deed0 (a := l) (b := l) hl (fun i => (l, l, (i : Int))) (fun i hi hb hm => by
    simp only [Option.bind_some, laws_eqDeedS_s58, Int.toNat_natCast, wrap_nat (show i ≤ 1048576 by omega)]
    rw [decide_eq_true (by omega : (i : Int) < l.length), cond_true, chk_dec (by omega), chk_dec hi, chk_dec (by omega), chk_dec hi, eqDeed_self (hr _ hm), Option.bind_some]
    simp) (fun hb => by
    simp only [Option.bind_some, laws_eqDeedS_s58]
    rw [decide_eq_false (by omega), cond_false])
  simp only [decide_true] at h
  exact h

/-! ### the laws -/
theorem deedText_true {d : DeedT} (h : dLe big d) : laws_FnExactDeedText d.1 d.2.1 d.2.2.1 d.2.2.2.1 d.2.2.2.2.1 d.2.2.2.2.2 = some true := by
  unfold laws_FnExactDeedText
  obtain ⟨r, e1, e2⟩ := szDeed_is d 1048576 h (by omega) (by omega)
  dsimp only at e1
  rw [e1, Option.bind_some]
  rcases e2 with rfl | ⟨e2, e3, l1⟩
  · rfl
  rw [decide_eq_false (by omega), cond_false]
  simp only [toDeed_eq l1, Option.bind_some, specDeedText_eq l1, implDeedText_eq l1, eqDeed_self l1, beq_self_eq_true, Bool.not_true, cond_false]

def nz (d : DeedT) : Bool := !(deedT d == [])
def deedsT : List DeedT → List UInt8 := fun l => if l.all nz then l.flatMap (fun d => deedT d ++ [10]) else []

theorem deeds_le (l : List DeedT) : (l.flatMap (fun d => deedT d ++ [10])).length ≤ 601 * l.length := by
  induction l with
  | nil => simp
  | cons d l ih =>
    have := deedT_le d
    simp only [List.flatMap_cons, List.length_append, List.length_cons, List.length_nil] at ih ⊢
    rw [Nat.mul_add]
    omega

theorem specDeedsText_eq {l : List DeedT} (hl : l.length ≤ 1048576) (hr : ∀ d ∈ l, dLe small d) : spec_DeedsText l = some (deedsT l) := by
  unfold spec_DeedsText deedsT
  simp only [lit_nil]
  have : spec_DeedsText_l58 l [] 0 = some (if l.all nz then .inr (l.flatMap (fun d => deedT d ++ [10])) else .inl []) := by
    rw [← all_range_all deed0 nz l]
    refine walk_run (S := fun d => spec_DeedsText_s58 d.1 d.2.1 d.2.2) (fun i => (l, (l.take i).flatMap (fun d => deedT d ++ [10]), (i : Int))) hl (fun i => nz (l.getD i deed0)) (fun i hi => ?_) ?_
    · have h1 := deeds_le (l.take i)
      have h2 := deedT_le (l.getD i deed0)
      have h3 : (l.take i).length ≤ 1048576 := by rw [List.length_take]; omega
      simp only [spec_DeedsText_s58, Int.toNat_natCast, wrap_nat (show i ≤ 1048576 by omega), Option.bind_some, lit_nil, lit_one]
      rw [decide_eq_true (by omega : (i : Int) < l.length), cond_true, chk_dec (by omega), chk_dec hi, specDeedText_eq (hr _ (getD_mem (d := deed0) hi)), Option.bind_some]
      cases hq : (deedT (l.getD i deed0) == []) with
      | true =>
        have : nz (l.getD i deed0) = false := by simp only [nz, hq, Bool.not_true]
        rw [cond_true, if_neg (by rw [this]; simp)]
      | false =>
        have : nz (l.getD i deed0) = true := by simp only [nz, hq, Bool.not_false]
        rw [cond_false, if_pos this, chk_dec (by omega), chk_dec (by simp only [List.length_append]; omega), flatMap_take_succ _ l i deed0 hi, List.append_assoc]
    · simp only [spec_DeedsText_s58]
      rw [decide_eq_false (by omega), cond_false, List.take_length]
  rw [this, Option.bind_some]
  cases l.all nz <;> rfl

theorem implDeedsText_eq {l : List DeedT} (hl : l.length ≤ 1048576) (hr : ∀ d ∈ l, dLe small d) : impl_DeedsText l = some (deedsT l) := by
  unfold impl_DeedsText deedsT
  simp only [lit_nil]
  have : impl_DeedsText_l58 [] l l.length 0 = some (if l.all nz then .inr (l.flatMap (fun d => deedT d ++ [10])) else .inl []) := by
    rw [← all_range_all deed0 nz l]
    refine walk_run (S := fun d => impl_DeedsText_s58 d.1 d.2.1 d.2.2.1 d.2.2.2) (fun i => ((l.take i).flatMap (fun d => deedT d ++ [10]), l, (l.length : Int), (i : Int))) hl (fun i => nz (l.getD i deed0)) (fun i hi => ?_) ?_
    · have h1 := deeds_le (l.take i)
      have h2 := deedT_le (l.getD i deed0)
      have h3 : (l.take i).length ≤ 1048576 := by rw [List.length_take]; omega
      simp only [impl_DeedsText_s58, Int.toNat_natCast, wrap_nat (show i ≤ 1048576 by omega), Option.bind_some, lit_nil, lit_one]
      rw [decide_eq_true (by omega : (i : Int) < l.length), cond_true, chk_dec (by omega), chk_dec hi, implDeedText_eq (hr _ (getD_mem (d := deed0) hi)), Option.bind_some]
      cases hq : (deedT (l.getD i deed0) == []) with
      | true =>
        have : nz (l.getD i deed0) = false := by simp only [nz, hq, Bool.not_true]
        rw [cond_true, if_neg (by rw [this]; simp)]
      | false =>
        have : nz (l.getD i deed0) = true := by simp only [nz, hq, Bool.not_false]
        rw [cond_false, if_pos this, chk_dec (by omega), chk_dec (by simp only [List.length_append, List.length_cons, List.length_nil]; omega), flatMap_take_succ _ l i deed0 hi]
    · simp only [impl_DeedsText_s58]
      rw [decide_eq_false (by omega), cond_false, List.take_length]
  rw [this, Option.bind_some]
  cases l.all nz <;> rfl

theorem deedsText_true {l : List DeedT} (h : l.length ≤ big ∧ ∀ d ∈ l, dLe big d) : laws_FnExactDeedsText l = some true := by
  unfold laws_FnExactDeedsText
  obtain ⟨r, e1, e2⟩ := szDeedS_is l 1048576 h (by omega) (by omega)
  rw [e1, Option.bind_some]
  rcases e2 with rfl | ⟨e2, e3, l1, l2⟩
  · rfl
  rw [decide_eq_false (by omega), cond_false]
  simp only [toDeedS_eq l1 l2, Option.bind_some, specDeedsText_eq l1 l2, implDeedsText_eq l1 l2, eqDeedS_self l1 l2, beq_self_eq_true, Bool.not_true, cond_false]

theorem dLe_of_wf {d : DeedT} (h : Wf kDeed d) : dLe big d := h.2.2.2.2.2.1
theorem dS_of_wf {l : List DeedT} (h : Wf (.list kDeed) l) : l.length ≤ big ∧ ∀ d ∈ l, dLe big d := ⟨h.1, fun d hd => dLe_of_wf (h.2 d hd)⟩

end Go.Proofs.YtcdkpfcfcjnooaaDoor.Tw
