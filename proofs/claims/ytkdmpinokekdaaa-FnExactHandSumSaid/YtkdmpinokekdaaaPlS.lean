/- Plain: sizes, copies, comparisons, marks of numbers; FnExactHandSum. No condition: lemmas. -/
import Derived.Test.YtkdmpinokekdaaaPlD
import Derived.Test.YtkdmpinokekdaaaTwS
namespace Go.Mach
set_option linter.unusedVariables false

theorem walkB {σ β : Type} {S : σ → Option (σ ⊕ β)} (st : Nat → σ) {n : Nat} (hn : n ≤ 1048576) (p : Nat → Bool) {t e : β}
    (h1 : ∀ i, i < n → S (st i) = some (bif p i then .inl (st (i + 1)) else .inr e)) (h2 : S (st n) = some (.inr t)) : iter S bigN (st 0) = some (bif (List.range n).all p then t else e) := by
  rw [walk_run st hn p (fun i hi => by rw [h1 i hi]; cases p i <;> rfl) h2]
  cases (List.range n).all p <;> rfl

theorem bne_cond {α β : Type} [DecidableEq α] (u v : α) (x y : β) : (bif u != v then x else y) = if u = v then y else x := by
  by_cases h : u = v
  · rw [if_pos h, h, bne_self_eq_false, cond_false]
  · rw [if_neg h, bne_iff_ne.2 h, cond_true]

theorem not_cond {β : Type} (p : Prop) [Decidable p] (x y : β) : (bif !decide p then x else y) = if p then y else x := by
  by_cases h : p <;> simp [h]

theorem fits8 {n : Nat} (h : n ≤ 1048576) : fits n 8 = true := by
  unfold fits
  rw [decide_eq_true_eq]
  refine ⟨?_, ?_⟩
  · unfold rowMost; omega
  · unfold byteMost; omega

theorem wrap_big {i : Int} (h : 0 ≤ i) (h' : i ≤ 4611686018427387904) : IntKind.wrap .i64 (i + 1) = i + 1 := wrap_i64 (by omega) (by omega)

/-- A list marked from k on. -/
def marked (k : Int) (l : List Int) (i : Nat) : List Int := (List.range i).map (fun (j : Nat) => k + (j : Int)) ++ l.drop i

theorem marked_set (k : Int) (l : List Int) (i : Nat) (h : i < l.length) : (marked k l i).set i (k + (i : Int)) = marked k l (i + 1) := by
  unfold marked
  rw [List.set_append_right _ _ (by simp), getD_drop l i 0 h]
  simp [List.range_succ]

theorem marked_length (k : Int) (l : List Int) (i : Nat) (h : i ≤ l.length) : (marked k l i).length = l.length := by simp [marked]; omega

theorem marked_get (k : Int) (l : List Int) (i : Nat) (h : i < l.length) : (marked k l l.length).getD i 0 = k + (i : Int) := by
  simp [marked, List.getD_eq_getElem?_getD, List.getElem?_append, List.getElem?_map, List.getElem?_range, h]

end Go.Mach
namespace Go.Proofs.Ytkdmpinokekdaaa.Tw
open Go.Mach
set_option linter.unusedVariables false
set_option maxRecDepth 20000

def big : Nat := 9223372036854775807
def small : Nat := 1048576

/-! ### sizes, copies, comparisons -/
theorem szIntS_is : IsSz laws_szIntS (fun l => l.length ≤ big) (fun l => l.length ≤ small) := isSz_len
theorem szIntSS_is : IsSz laws_szIntSS (fun l => l.length ≤ big ∧ ∀ r ∈ l, r.length ≤ big) (fun l => l.length ≤ small ∧ ∀ r ∈ l, r.length ≤ small) :=
  isSz_list (S := fun d => laws_szIntSS_s122 d.1 d.2.1 d.2.2) szIntS_is [] (fun l i a hl hi => by
    simp only [laws_szIntSS_s122, Int.toNat_natCast, wrap_nat (show i ≤ 1048576 by omega)]
    rw [decide_eq_true (by omega : (i : Int) < l.length), cond_true, chk_dec (by omega), chk_dec hi]) (fun l a hl => by
    simp only [laws_szIntSS_s122]
    rw [decide_eq_false (by omega), cond_false])

theorem toIntS_eq {l : List Int} (hl : l.length ≤ 1048576) : laws_toIntS l = some l := by
  unfold laws_toIntS
  rw [chk_dec (by simp only [Int.toNat_natCast]; omega)]
  have : laws_toIntS_l58 l (List.replicate (Int.toNat (l.length : Int)) 0) 0 = some l := by
    simp only [Int.toNat_natCast, ← cp_zero]
    refine (det_run (S := fun d => laws_toIntS_s58 d.1 d.2.1 d.2.2) (fun i => (l, cp l 0 i, (i : Int))) hl (fun i hi => ?_) ?_)
    · have h1 := cp_length l 0 i (by omega)
      simp only [laws_toIntS_s58, Int.toNat_natCast, wrap_nat (show i ≤ 1048576 by omega), h1]
      rw [decide_eq_true (by omega : (i : Int) < l.length), cond_true, chk_dec (by omega), chk_dec hi, chk_dec (by omega), chk_dec hi, chk_dec hi, ← cp_set l 0 i hi]
    · simp only [laws_toIntS_s58]
      rw [decide_eq_false (by omega), cond_false, cp_all]
  rw [this]
  rfl

theorem toIntSS_eq {l : List (List Int)} (hl : l.length ≤ 1048576) (hr : ∀ r ∈ l, r.length ≤ 1048576) : laws_toIntSS l = some l := by
  unfold laws_toIntSS
  rw [chk_dec (by simp only [Int.toNat_natCast]; omega)]
  have : laws_toIntSS_l58 l (List.replicate (Int.toNat (l.length : Int)) []) 0 = some l := by
    simp only [Int.toNat_natCast, ← cp_zero]
    refine (det_run (S := fun d => laws_toIntSS_s58 d.1 d.2.1 d.2.2) (fun i => (l, cp l [] i, (i : Int))) hl (fun i hi => ?_) ?_)
    · have h1 := cp_length l [] i (by omega)
      simp only [laws_toIntSS_s58, Int.toNat_natCast, wrap_nat (show i ≤ 1048576 by omega), h1]
      rw [decide_eq_true (by omega : (i : Int) < l.length), cond_true, chk_dec (by omega), chk_dec hi, toIntS_eq (hr _ (getD_mem hi)), Option.bind_some, chk_dec (by omega), chk_dec hi, chk_dec hi, ← cp_set l [] i hi]
    · simp only [laws_toIntSS_s58]
      rw [decide_eq_false (by omega), cond_false, cp_all]
  rw [this]
  rfl

theorem lawsEqIntS_eq {a b : List Int} (ha : a.length ≤ 1048576) : laws_eqIntS a b = some (decide (a = b)) := by
  refine eqS_run (S := fun d => laws_eqIntS_s58 d.1 d.2.1 d.2.2) 0 ha (fun i => (a, b, (i : Int))) (fun i hi hb hm => ?_) (fun hb => ?_)
  · simp only [laws_eqIntS_s58, Int.toNat_natCast, wrap_nat (show i ≤ 1048576 by omega)]
    rw [decide_eq_true (by omega : (i : Int) < a.length), cond_true, chk_dec (by omega), chk_dec hi, chk_dec (by omega), chk_dec (by omega), bne_cond]
    split <;> rfl
  · simp only [laws_eqIntS_s58]
    rw [decide_eq_false (by omega), cond_false]

theorem lawsEqIntSS_eq {a b : List (List Int)} (ha : a.length ≤ 1048576) (hr : ∀ r ∈ a, r.length ≤ 1048576) : laws_eqIntSS a b = some (decide (a = b)) := by
  refine eqS_run (S := fun d => laws_eqIntSS_s58 d.1 d.2.1 d.2.2) [] ha (fun i => (a, b, (i : Int))) (fun i hi hb hm => ?_) (fun hb => ?_)
  · simp only [laws_eqIntSS_s58, Int.toNat_natCast, wrap_nat (show i ≤ 1048576 by omega)]
    rw [decide_eq_true (by omega : (i : Int) < a.length), cond_true, chk_dec (by omega), chk_dec hi, chk_dec (by omega), chk_dec (by omega), lawsEqIntS_eq (hr _ hm), Option.bind_some, not_cond]
    split <;> rfl
  · simp only [laws_eqIntSS_s58]
    rw [decide_eq_false (by omega), cond_false]

/-! ### marks -/
theorem markIntS_eq {l : List Int} {k : Int} (hl : l.length ≤ 1048576) (h0 : 0 ≤ k) (h1 : k ≤ 1152921504606846976) : laws_markIntS l k = some (k + (l.length : Int), marked k l l.length) := by
  unfold laws_markIntS
  have : laws_markIntS_l26 k 0 l = some (k + (l.length : Int), marked k l l.length) := by
    refine Eq.trans ?_ (det_run (S := fun d => laws_markIntS_s26 d.2.1 d.2.2.1 d.2.2.2) (fun i => (((), ((), ())), (k + (i : Int), ((i : Int), marked k l i)))) hl (t := (k + (l.length : Int), marked k l l.length)) (fun i hi => ?_) ?_)
    · simp [laws_markIntS_l26, marked]
    · have h2 := marked_length k l i (by omega)
      have h3 : (0 : Int) ≤ (i : Int) := by omega
      simp only [laws_markIntS_s26, Int.toNat_natCast, wrap_nat (show i ≤ 1048576 by omega), h2]
      rw [decide_eq_true (by omega : (i : Int) < l.length), cond_true]
      simp only [chk_dec h3, chk_dec hi]
      rw [wrap_big (by omega) (by omega), marked_set k l i hi]
      have : k + (i : Int) + 1 = k + ((i + 1 : Nat) : Int) := by omega
      rw [this]
    · have h2 := marked_length k l l.length (by omega)
      simp only [laws_markIntS_s26, h2]
      rw [decide_eq_false (by omega), cond_false]
  rw [this]
  rfl

theorem markIntSS_some {l : List (List Int)} (hl : l.length ≤ 1048576) (hr : ∀ r ∈ l, r.length ≤ 1048576) {k : Int} (h0 : 0 ≤ k) (h1 : k ≤ 1048576) : ∃ k' l', laws_markIntSS l k = some (k', l') ∧ 0 ≤ k' ∧ k' ≤ 2199023255552 := by
  have key : ∀ (f i : Nat) (c : Int) (m : List (List Int)), i ≤ l.length → l.length - i < f → m.length = l.length → (∀ r ∈ m, r.length ≤ 1048576) → 0 ≤ c → c ≤ 1048576 + i * 1048576 →
      ∃ k' l', iter (fun d => laws_markIntSS_s26 d.2.1 d.2.2.1 d.2.2.2) f (((), ((), ())), (c, ((i : Int), m))) = some (k', l') ∧ 0 ≤ k' ∧ k' ≤ 1048576 + l.length * 1048576 := by
    intro f
    induction f with
    | zero => intro i c m _ h; omega
    | succ f ih =>
      intro i c m hi hf hm hmr hc0 hc1
      simp only [iter]
      by_cases hn : i < l.length
      · have hnm : i < m.length := by omega
        have h3 : (0 : Int) ≤ (i : Int) := by omega
        have hle := hmr _ (getD_mem (d := []) hnm)
        have hmk := markIntS_eq (k := c) hle hc0 (by omega)
        have hs : laws_markIntSS_s26 c (i : Int) m = some (.inl (((), ((), ())), (c + ((m.getD i []).length : Int), (((i + 1 : Nat) : Int), m.set i (marked c (m.getD i []) (m.getD i []).length))))) := by
          simp only [laws_markIntSS_s26, Int.toNat_natCast, wrap_nat (show i ≤ 1048576 by omega)]
          rw [decide_eq_true (by omega : (i : Int) < m.length), cond_true]
          simp only [chk_dec h3, chk_dec hnm, hmk, Option.bind_some]
        rw [hs]
        simp only
        refine ih (i + 1) _ _ (by omega) (by omega) (by simpa using hm) (fun r hr' => ?_) (by omega) (by omega)
        rcases List.mem_or_eq_of_mem_set hr' with g | rfl
        · exact hmr r g
        · rw [marked_length _ _ _ (Nat.le_refl _)]; exact hle
      · have hs : laws_markIntSS_s26 c (i : Int) m = some (.inr (c, m)) := by
          simp only [laws_markIntSS_s26]
          rw [decide_eq_false (by omega), cond_false]
        rw [hs]
        exact ⟨c, m, rfl, hc0, by omega⟩
  obtain ⟨k', l', h2, h3, h4⟩ := key bigN 0 k l (Nat.zero_le _) (by simp only [bigN]; omega) rfl hr h0 (by omega)
  refine ⟨k', l', ?_, h3, by omega⟩
  unfold laws_markIntSS laws_markIntSS_l26
  have h2' : iter (fun d => laws_markIntSS_s26 d.2.1 d.2.2.1 d.2.2.2) bigN (((), ((), ())), (k, ((0 : Int), l))) = some (k', l') := h2
  rw [h2']
  rfl

theorem heldIntS_eq {l : List Int} {k : Int} (hl : l.length ≤ 1048576) (h0 : 0 ≤ k) (h1 : k ≤ 1152921504606846976) : laws_heldIntS (marked k l l.length) k = some (k + (l.length : Int)) := by
  unfold laws_heldIntS
  have hm := marked_length k l l.length (Nat.le_refl _)
  have : laws_heldIntS_l26 (marked k l l.length) k 0 = some (.inr (k + (l.length : Int))) := by
    refine Eq.trans ?_ (det_run (S := fun d => laws_heldIntS_s26 d.1 d.2.1 d.2.2) (fun i => (marked k l l.length, (k + (i : Int), (i : Int)))) hl (t := .inr (k + (l.length : Int))) (fun i hi => ?_) ?_)
    · simp [laws_heldIntS_l26]
    · have h3 : (0 : Int) ≤ (i : Int) := by omega
      simp only [laws_heldIntS_s26, Int.toNat_natCast, wrap_nat (show i ≤ 1048576 by omega), hm, marked_get k l i hi]
      rw [decide_eq_true (by omega : (i : Int) < l.length), cond_true]
      simp only [chk_dec h3, chk_dec hi, bne_self_eq_false, cond_false]
      rw [wrap_big (by omega) (by omega)]
      have : k + (i : Int) + 1 = k + ((i + 1 : Nat) : Int) := by omega
      rw [this]
    · simp only [laws_heldIntS_s26, hm]
      rw [decide_eq_false (by omega), cond_false]
  rw [this]
  rfl

/-! ### bounds -/
def inR (x a b : Int) : Bool := decide (x ≥ a) && decide (x ≤ b)
theorem l1In_eq (x a b : Int) : spec_l1In x a b = some (inR x a b) := by unfold spec_l1In inR; cases decide (x ≥ a) <;> rfl
theorem within_eq (x a b : Int) : impl_within x a b = some (inR x a b) := by unfold impl_within inR; cases decide (x ≥ a) <;> rfl

def listOk (l : List Int) : Bool := !decide ((l.length : Int) > 40) && l.all (fun x => inR x 1 200)
def loadsOk (ls : List (List Int)) : Bool := ((ls.length : Int) == 3) && ls.all listOk

theorem allWithin_eq {l : List Int} {n lo hi : Int} (hl : l.length ≤ 1048576) : impl_allWithin l n lo hi = some (l.all (fun x => inR x lo hi) && ((l.length : Int) == n)) := by
  unfold impl_allWithin
  have : impl_allWithin_l26 l n lo hi l l.length 0 = some (bif l.all (fun x => inR x lo hi) then .inr (l, n) else .inl false) := by
    rw [← all_range_all 0 (fun x => inR x lo hi) l]
    refine walkB (S := fun d => impl_allWithin_s26 d.1 d.2.1 d.2.2.1 d.2.2.2.1 d.2.2.2.2.1 d.2.2.2.2.2.1 d.2.2.2.2.2.2) (fun i => (l, n, lo, hi, l, (l.length : Int), (i : Int))) hl (fun i => (fun x => inR x lo hi) (l.getD i 0)) (fun i hi' => ?_) ?_
    · have h3 : (0 : Int) ≤ (i : Int) := by omega
      simp only [impl_allWithin_s26, Int.toNat_natCast, wrap_nat (show i ≤ 1048576 by omega), within_eq]
      rw [decide_eq_true (by omega : (i : Int) < l.length), cond_true]
      simp only [chk_dec h3, chk_dec hi', Option.bind_some]
      cases inR (l.getD i 0) lo hi <;> rfl
    · simp only [impl_allWithin_s26]
      rw [decide_eq_false (by omega), cond_false]
  rw [this]
  cases l.all (fun x => inR x lo hi) <;> simp

theorem implLoadsOk_eq {ls : List (List Int)} (hl : ls.length ≤ 1048576) (hr : ∀ r ∈ ls, r.length ≤ 1048576) : impl_loadsOk ls = some (loadsOk ls) := by
  unfold impl_loadsOk loadsOk
  have : impl_loadsOk_l26 ls ls ls.length 0 = some (bif ls.all listOk then .inr ls else .inl false) := by
    rw [← all_range_all [] listOk ls]
    refine walkB (S := fun d => impl_loadsOk_s26 d.1 d.2.1 d.2.2.1 d.2.2.2) (fun i => (ls, ls, (ls.length : Int), (i : Int))) hl (fun i => listOk (ls.getD i [])) (fun i hi => ?_) ?_
    · have h3 : (0 : Int) ≤ (i : Int) := by omega
      simp only [impl_loadsOk_s26, Int.toNat_natCast, wrap_nat (show i ≤ 1048576 by omega)]
      rw [decide_eq_true (by omega : (i : Int) < ls.length), cond_true]
      simp only [chk_dec h3, chk_dec hi]
      rw [allWithin_eq (hr _ (getD_mem hi)), beq_self_eq_true, Bool.and_true, Option.bind_some]
      unfold listOk
      generalize decide (((ls.getD i []).length : Int) > 40) = b1
      generalize (ls.getD i []).all (fun x => inR x 1 200) = b2
      cases b1 <;> cases b2 <;> rfl
    · simp only [impl_loadsOk_s26]
      rw [decide_eq_false (by omega), cond_false]
  rw [this]
  cases ls.all listOk <;> simp

theorem specLoadsOk_eq {ls : List (List Int)} (hl : ls.length ≤ 1048576) (hr : ∀ r ∈ ls, r.length ≤ 1048576) : spec_l21Ok ls = some (loadsOk ls) := by
  unfold spec_l21Ok loadsOk
  have hin : ∀ i, i < ls.length → spec_l21Ok_l7462 ls (i : Int) 0 = some (bif (ls.getD i []).all (fun x => inR x 1 200) then .inr (ls, (i : Int)) else .inl false) := by
    intro i hi
    rw [← all_range_all 0 (fun x => inR x 1 200) (ls.getD i [])]
    refine walkB (S := fun d => spec_l21Ok_s7462 d.1 d.2.1 d.2.2) (fun k => (ls, (i : Int), (k : Int))) (hr _ (getD_mem hi)) (fun k => (fun x => inR x 1 200) ((ls.getD i []).getD k 0)) (fun k hk => ?_) ?_
    · have hle := hr _ (getD_mem (d := []) hi)
      have h3 : (0 : Int) ≤ (i : Int) := by omega
      have h4 : (0 : Int) ≤ (k : Int) := by omega
      simp only [spec_l21Ok_s7462, Int.toNat_natCast, wrap_nat (show k ≤ 1048576 by omega), l1In_eq]
      rw [decide_eq_true (by omega : (k : Int) < ((ls.getD i []).length : Int)), cond_true]
      simp only [chk_dec h3, chk_dec hi, chk_dec h4, chk_dec hk, Option.bind_some]
      cases inR ((ls.getD i []).getD k 0) 1 200 <;> rfl
    · have h3 : (0 : Int) ≤ (i : Int) := by omega
      simp only [spec_l21Ok_s7462, Int.toNat_natCast]
      simp only [chk_dec h3, chk_dec hi]
      rw [decide_eq_false (by omega : ¬ (((ls.getD i []).length : Int) < ((ls.getD i []).length : Int))), cond_false]
  have : spec_l21Ok_l58 ls 0 = some (bif ls.all listOk then .inr () else .inl false) := by
    rw [← all_range_all [] listOk ls]
    refine walkB (S := fun d => spec_l21Ok_s58 d.1 d.2) (fun i => (ls, (i : Int))) hl (fun i => listOk (ls.getD i [])) (fun i hi => ?_) ?_
    · have h3 : (0 : Int) ≤ (i : Int) := by omega
      simp only [spec_l21Ok_s58, Int.toNat_natCast]
      rw [decide_eq_true (by omega : (i : Int) < ls.length), cond_true]
      simp only [chk_dec h3, chk_dec hi]
      rw [hin i hi, Option.bind_some]
      unfold listOk
      generalize decide (((ls.getD i []).length : Int) > 40) = b1
      generalize (ls.getD i []).all (fun x => inR x 1 200) = b2
      cases b1 <;> cases b2 <;> try rfl
      simp only [cond_true, cond_false, Sum.elim_inr, wrap_nat (show i ≤ 1048576 by omega)]
      rfl
    · simp only [spec_l21Ok_s58]
      rw [decide_eq_false (by omega), cond_false]
  rw [this, bne_cond]
  by_cases h3 : (ls.length : Int) = 3
  · rw [if_pos h3]
    simp only [h3, beq_self_eq_true, Bool.true_and]
    cases ls.all listOk <;> rfl
  · rw [if_neg h3]
    have : ((ls.length : Int) == 3) = false := by simpa using h3
    rw [this]; rfl

/-! ### how often -/
def cntE (l : List Int) (a : Int) (i : Nat) : Nat := (l.take i).countP (fun x => x == a)

theorem cntE_succ {l : List Int} {a : Int} {i : Nat} (hi : i < l.length) : cntE l a (i + 1) = cntE l a i + (if l.getD i 0 = a then 1 else 0) := by
  unfold cntE
  rw [List.take_succ_eq_append_getElem hi, List.countP_append]
  by_cases h : l[i] = a <;> simp [List.getD_eq_getElem?_getD, List.getElem?_eq_getElem hi, h]

theorem cntE_le (l : List Int) (a : Int) (i : Nat) : cntE l a i ≤ i := by
  unfold cntE
  refine Nat.le_trans List.countP_le_length ?_
  rw [List.length_take]
  omega

theorem specTimes_eq {l : List Int} {a : Int} (hl : l.length ≤ 1048576) : spec_l21Times l a = some (cntE l a l.length : Int) := by
  unfold spec_l21Times
  have : spec_l21Times_l58 l a 0 0 = some (cntE l a l.length : Int) := by
    refine Eq.trans ?_ (det_run (S := fun d => spec_l21Times_s58 d.1 d.2.1 d.2.2.1 d.2.2.2) (fun i => (l, a, ((cntE l a i : Nat) : Int), (i : Int))) hl (t := (cntE l a l.length : Int)) (fun i hi => ?_) ?_)
    · simp [spec_l21Times_l58, cntE]
    · have h3 : (0 : Int) ≤ (i : Int) := by omega
      have hb := cntE_le l a i
      simp only [spec_l21Times_s58, spec_l1Bit, Int.toNat_natCast, wrap_nat (show i ≤ 1048576 by omega)]
      rw [decide_eq_true (by omega : (i : Int) < l.length), cond_true]
      simp only [chk_dec h3, chk_dec hi, cntE_succ hi]
      by_cases h : l.getD i 0 = a
      · rw [beq_iff_eq.2 h, if_pos h]
        simp only [cond_true, Option.bind_some]
        rw [wrap_i64 (by omega) (by omega)]
        rfl
      · rw [beq_eq_false_iff_ne.2 h, if_neg h]
        simp only [cond_false, Option.bind_some]
        rw [wrap_i64 (by omega) (by omega)]
        simp
    · simp only [spec_l21Times_s58]
      rw [decide_eq_false (by omega), cond_false]
  rw [this]
  rfl

theorem implOften_eq {l : List Int} {a : Int} (hl : l.length ≤ 1048576) : impl_often l a = some (cntE l a l.length : Int) := by
  unfold impl_often
  have : impl_often_l58 a 0 l l.length 0 = some (cntE l a l.length : Int) := by
    refine Eq.trans ?_ (det_run (S := fun d => impl_often_s58 d.1 d.2.1 d.2.2.1 d.2.2.2.1 d.2.2.2.2) (fun i => (a, ((cntE l a i : Nat) : Int), l, (l.length : Int), (i : Int))) hl (t := (cntE l a l.length : Int)) (fun i hi => ?_) ?_)
    · simp [impl_often_l58, cntE]
    · have h3 : (0 : Int) ≤ (i : Int) := by omega
      have hb := cntE_le l a i
      simp only [impl_often_s58, Int.toNat_natCast, wrap_nat (show i ≤ 1048576 by omega)]
      rw [decide_eq_true (by omega : (i : Int) < l.length), cond_true]
      simp only [chk_dec h3, chk_dec hi, cntE_succ hi]
      by_cases h : l.getD i 0 = a
      · rw [beq_iff_eq.2 h, if_pos h, cond_true, wrap_i64 (by omega) (by omega)]
        rfl
      · rw [beq_eq_false_iff_ne.2 h, if_neg h, cond_false]
        simp
    · simp only [impl_often_s58]
      rw [decide_eq_false (by omega), cond_false]
  rw [this]
  rfl

/-! ### the sums -/
def accS (l : List Int) : Nat → Int
  | 0 => 0
  | i + 1 => IntKind.wrap .i64 (accS l i + l.getD i 0)

theorem accS_take (l : List Int) (n : Nat) : ∀ i, i ≤ n → accS (l.take n) i = accS l i
  | 0, _ => rfl
  | i + 1, h => by
    have : (l.take n).getD i 0 = l.getD i 0 := by simp only [List.getD_eq_getElem?_getD, List.getElem?_take_of_lt (show i < n by omega)]
    simp only [accS, accS_take l n i (by omega), this]

def howMany (ls : List (List Int)) (o : List Int) (a : Nat) : Nat := min (ls.getD a []).length (cntE o (a : Int) o.length)
def sumAt (ls : List (List Int)) (o : List Int) (a : Nat) : Int := accS (ls.getD a []) (howMany ls o a)
def sums (ls : List (List Int)) (o : List Int) (n : Nat) : List Int := (List.range n).map (sumAt ls o)

theorem sums_succ (ls : List (List Int)) (o : List Int) (n : Nat) : sums ls o n ++ [sumAt ls o n] = sums ls o (n + 1) := by simp [sums, List.range_succ]

theorem specHandSum_eq {ls : List (List Int)} {o : List Int} (hl : ls.length ≤ 1048576) (hr : ∀ r ∈ ls, r.length ≤ 1048576) (ho : o.length ≤ 1048576) : spec_HandSum ls o = some (bif loadsOk ls then sums ls o 3 else []) := by
  unfold spec_HandSum
  rw [specLoadsOk_eq hl hr, Option.bind_some]
  cases hq : loadsOk ls with
  | false => rfl
  | true =>
    have h3 : ls.length = 3 := by
      unfold loadsOk at hq
      simp only [Bool.and_eq_true, beq_iff_eq] at hq
      omega
    have hin : ∀ (a : Nat) (out : List Int), a < 3 → spec_HandSum_l31306 ls o out (a : Int) 0 0 = some (ls, o, out, (a : Int), sumAt ls o a) := by
      intro a out ha
      have hal : a < ls.length := by omega
      have hle := hr _ (getD_mem (d := []) hal)
      have hm1 : howMany ls o a ≤ (ls.getD a []).length := Nat.min_le_left _ _
      have hm2 : howMany ls o a ≤ cntE o (a : Int) o.length := Nat.min_le_right _ _
      have g1 : (0 : Int) ≤ (a : Int) := by omega
      refine det_run (S := fun d => spec_HandSum_s31306 d.1 d.2.1 d.2.2.1 d.2.2.2.1 d.2.2.2.2.1 d.2.2.2.2.2) (n := howMany ls o a) (fun i => (ls, o, out, (a : Int), accS (ls.getD a []) i, (i : Int))) (by omega) (fun i hi => ?_) ?_
      · have hil : i < (ls.getD a []).length := by omega
        have g2 : (0 : Int) ≤ (i : Int) := by omega
        simp only [spec_HandSum_s31306, Int.toNat_natCast, wrap_nat (show i ≤ 1048576 by omega), specTimes_eq ho, Option.bind_some]
        rw [decide_eq_true (by omega : (i : Int) < ((ls.getD a []).length : Int)), cond_true, decide_eq_true (by omega : (i : Int) < ((cntE o (a : Int) o.length : Nat) : Int)), cond_true]
        simp only [chk_dec g1, chk_dec hal, chk_dec g2, chk_dec hil]
        rfl
      · simp only [spec_HandSum_s31306, Int.toNat_natCast, specTimes_eq ho, Option.bind_some]
        simp only [chk_dec g1, chk_dec hal]
        by_cases hc : howMany ls o a < (ls.getD a []).length
        · rw [decide_eq_true (by omega : ((howMany ls o a : Nat) : Int) < ((ls.getD a []).length : Int)), cond_true]
          have : ¬ ((howMany ls o a : Nat) : Int) < ((cntE o (a : Int) o.length : Nat) : Int) := by
            unfold howMany at hc ⊢
            omega
          rw [decide_eq_false this, cond_false]
          rfl
        · rw [decide_eq_false (by omega), cond_false]
          rfl
    have : spec_HandSum_l122 ls o [] 0 = some (sums ls o 3) := by
      refine det_run (S := fun d => spec_HandSum_s122 d.1 d.2.1 d.2.2.1 d.2.2.2) (n := 3) (fun i => (ls, o, sums ls o i, (i : Int))) (by omega) (fun i hi => ?_) ?_
      · simp only [spec_HandSum_s122]
        rw [decide_eq_true (by omega : (i : Int) < 3), cond_true, hin i _ hi, Option.bind_some]
        have : (sums ls o i).length = i := by simp [sums]
        simp only [this, List.length_cons, List.length_nil]
        rw [fits8 (by omega), chk_tt, wrap_nat (by omega), sums_succ]
      · simp only [spec_HandSum_s122]
        rfl
    rw [this]
    rfl

theorem implHandSum_eq {ls : List (List Int)} {o : List Int} (hl : ls.length ≤ 1048576) (hr : ∀ r ∈ ls, r.length ≤ 1048576) (ho : o.length ≤ 1048576) : impl_HandSum ls o = some (bif loadsOk ls then sums ls o 3 else []) := by
  unfold impl_HandSum
  rw [implLoadsOk_eq hl hr, Option.bind_some]
  cases hq : loadsOk ls with
  | false => rfl
  | true =>
    have h3 : ls.length = 3 := by
      unfold loadsOk at hq
      simp only [Bool.and_eq_true, beq_iff_eq] at hq
      omega
    have : impl_HandSum_l122 o [] ls ls.length 0 = some (sums ls o 3) := by
      refine det_run (S := fun d => impl_HandSum_s122 d.1 d.2.1 d.2.2.1 d.2.2.2.1 d.2.2.2.2) (n := 3) (fun i => (o, sums ls o i, ls, (ls.length : Int), (i : Int))) (by omega) (fun i hi => ?_) ?_
      · have hal : i < ls.length := by omega
        have hle := hr _ (getD_mem (d := []) hal)
        have g1 : (0 : Int) ≤ (i : Int) := by omega
        simp only [impl_HandSum_s122, Int.toNat_natCast, implOften_eq ho, Option.bind_some]
        rw [decide_eq_true (by omega : (i : Int) < ls.length), cond_true]
        have hmin : (if ((cntE o (i : Int) o.length : Nat) : Int) < ((ls.getD i []).length : Int) then ((cntE o (i : Int) o.length : Nat) : Int) else ((ls.getD i []).length : Int)) = ((howMany ls o i : Nat) : Int) := by
          unfold howMany
          split <;> omega
        have hm1 : howMany ls o i ≤ (ls.getD i []).length := Nat.min_le_left _ _
        have g2 : (0 : Int) ≤ ((howMany ls o i : Nat) : Int) := by omega
        have g3 : (0 : Nat) ≤ howMany ls o i ∧ howMany ls o i ≤ (ls.getD i []).length := ⟨Nat.zero_le _, hm1⟩
        simp only [chk_dec g1, chk_dec hal, hmin, Int.toNat_natCast, chk_dec g2, chk_dec g3]
        have hlen : ((ls.getD i []).take (howMany ls o i)).length = howMany ls o i := by simp only [List.length_take]; omega
        have hloop : impl_HandSum_l125338 o (sums ls o i) 0 ls ls.length (i : Int) ((ls.getD i []).take (howMany ls o i)) (((ls.getD i []).take (howMany ls o i)).length : Int) 0 = some (o, sums ls o i, sumAt ls o i, ls, (ls.length : Int), (i : Int)) := by
          refine det_run (S := fun d => impl_HandSum_s125338 d.1 d.2.1 d.2.2.1 d.2.2.2.1 d.2.2.2.2.1 d.2.2.2.2.2.1 d.2.2.2.2.2.2.1 d.2.2.2.2.2.2.2.1 d.2.2.2.2.2.2.2.2) (n := howMany ls o i)
            (fun k => (o, sums ls o i, accS ((ls.getD i []).take (howMany ls o i)) k, ls, (ls.length : Int), (i : Int), (ls.getD i []).take (howMany ls o i), (((ls.getD i []).take (howMany ls o i)).length : Int), (k : Int))) (by omega) (fun k hk => ?_) ?_
          · have g4 : (0 : Int) ≤ (k : Int) := by omega
            have g5 : k < ((ls.getD i []).take (howMany ls o i)).length := by omega
            simp only [impl_HandSum_s125338, Int.toNat_natCast, wrap_nat (show k ≤ 1048576 by omega)]
            rw [decide_eq_true (by omega : (k : Int) < (((ls.getD i []).take (howMany ls o i)).length : Int)), cond_true]
            simp only [chk_dec g4, chk_dec g5]
            rfl
          · simp only [impl_HandSum_s125338]
            rw [decide_eq_false (by omega), cond_false, accS_take _ _ _ (Nat.le_refl _)]
            rfl
        rw [hloop, Option.bind_some]
        have : (sums ls o i).length = i := by simp [sums]
        simp only [this, List.length_cons, List.length_nil]
        rw [fits8 (by omega), chk_tt, wrap_nat (by omega), sums_succ]
      · simp only [impl_HandSum_s122, h3]
        rfl
    rw [this]
    rfl

/-! ### the law -/
theorem handSum_true {ls : List (List Int)} {o : List Int} (hl : ls.length ≤ big ∧ ∀ r ∈ ls, r.length ≤ big) (ho : o.length ≤ big) : laws_FnExactHandSum ls o = some true := by
  unfold laws_FnExactHandSum
  by_cases hbig : (o.length : Int) > 1048576
  · rw [decide_eq_true hbig]; rfl
  rw [decide_eq_false hbig, cond_false]
  have ho' : o.length ≤ 1048576 := by omega
  obtain ⟨r, e1, e2⟩ := szIntSS_is ls 1048576 hl (by omega) (by omega)
  rw [e1, Option.bind_some]
  rcases e2 with rfl | ⟨e2, e3, l1, l2⟩
  · rfl
  rw [decide_eq_false (by omega), cond_false]
  have hres : ∀ b : Bool, (bif b then sums ls o 3 else []).length ≤ 1048576 := fun b => by cases b <;> simp [sums]
  obtain ⟨k', l', m1, m2, m3⟩ := markIntSS_some l1 l2 (k := 1) (by omega) (by omega)
  simp only [toIntSS_eq l1 l2, toIntS_eq ho', Option.bind_some, specHandSum_eq l1 l2 ho', implHandSum_eq l1 l2 ho', lawsEqIntS_eq (hres _), lawsEqIntSS_eq l1 l2, lawsEqIntS_eq ho', m1, markIntS_eq ho' m2 (by omega : k' ≤ 1152921504606846976)]
  rw [markIntS_eq (hres _) (by omega) (by omega)]
  simp only [Option.bind_some, heldIntS_eq (hres _) (show (0 : Int) ≤ 1 by omega) (show (1 : Int) ≤ 1152921504606846976 by omega)]
  generalize (bif loadsOk ls then sums ls o 3 else []) = g
  have c1 : decide (k' + (o.length : Int) < 0) = false := decide_eq_false (by omega)
  have c2 : decide ((1 : Int) + (g.length : Int) < 0) = false := decide_eq_false (by omega)
  simp [c1, c2]

end Go.Proofs.Ytkdmpinokekdaaa.Tw
