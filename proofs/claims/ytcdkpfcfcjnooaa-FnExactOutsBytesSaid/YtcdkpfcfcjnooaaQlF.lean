/- Plain: bytes of numbers, sketches, outs; marks. No condition: lemmas. -/
import Derived.Test.YtcdkpfcfcjnooaaQlE
namespace Go.Mach
set_option linter.unusedVariables false

theorem walk_runL {σ β : Type} {S : σ → Option (σ ⊕ β)} (st : Nat → σ) {n : Nat} (hn : n ≤ 1099511627776) (p : Nat → Bool) {t e : β}
    (h1 : ∀ i, i < n → S (st i) = some (if p i then .inl (st (i + 1)) else .inr e)) (h2 : S (st n) = some (.inr t)) : iter S bigN (st 0) = some (if (List.range n).all p then t else e) := by
  rw [walk_from st p h1 h2 bigN 0 (Nat.zero_le _) (by simp only [bigN]; omega), List.range_eq_range', Nat.sub_zero]

theorem det_runL {σ β : Type} {S : σ → Option (σ ⊕ β)} (st : Nat → σ) {n : Nat} (hn : n ≤ 1099511627776) {t : β}
    (h1 : ∀ i, i < n → S (st i) = some (.inl (st (i + 1)))) (h2 : S (st n) = some (.inr t)) : iter S bigN (st 0) = some t := by
  have := walk_runL st hn (fun _ => true) (t := t) (e := t) (fun i hi => by simpa using h1 i hi) h2
  simpa using this

theorem wrap_natL {i : Nat} (h : i ≤ 1099511627776) : IntKind.wrap .i64 ((i : Int) + 1) = ((i + 1 : Nat) : Int) := by
  rw [wrap_i64 (by omega) (by omega)]
  rfl

theorem wrap_big {i : Int} (h : 0 ≤ i) (h' : i ≤ 4611686018427387904) : IntKind.wrap .i64 (i + 1) = i + 1 := wrap_i64 (by omega) (by omega)

theorem eqS_runL {α σ : Type} [DecidableEq α] {S : σ → Option (σ ⊕ (Bool ⊕ Unit))} (d : α) {a b : List α} (ha : a.length ≤ 1099511627776) (st : Nat → σ)
    (h1 : ∀ i, i < a.length → b.length = a.length → a.getD i d ∈ a → S (st i) = some (if a.getD i d = b.getD i d then .inl (st (i + 1)) else .inr (.inl false)))
    (h2 : b.length = a.length → S (st a.length) = some (.inr (.inr ()))) :
    (bif (a.length : Int) != (b.length : Int) then some false else Option.bind (iter S bigN (st 0)) fun q => Sum.elim (fun d => some d) (fun _ => some true) q) = some (decide (a = b)) := by
  by_cases h : b.length = a.length
  · have e1 : ((a.length : Int) != (b.length : Int)) = false := by simp [h]
    rw [e1, cond_false, walk_runL st ha (fun i => decide (a.getD i d = b.getD i d)) (t := .inr ()) (e := .inl false) (fun i hi => by
      rw [h1 i hi h (getD_mem hi)]
      by_cases q : a.getD i d = b.getD i d <;> simp [q]) (h2 h), all_range_eq d h]
    by_cases q : a = b <;> simp [q]
  · have e1 : ((a.length : Int) != (b.length : Int)) = true := by simp; omega
    rw [e1, cond_true]
    have : a ≠ b := fun q => h (by rw [q])
    simp [this]

theorem fits1 {n : Nat} (h : n ≤ 4294967296) : fits n 1 = true := by
  unfold fits
  rw [decide_eq_true_eq]
  refine ⟨?_, ?_⟩
  · unfold rowMost; omega
  · unfold byteMost; omega

theorem getD_set_self {α : Type} {l : List α} {i : Nat} (h : i < l.length) (d x : α) : (l.set i x).getD i d = x := by
  simp [List.getD_eq_getElem?_getD, List.getElem?_set_self h]

/-- The bytes of what comes before the i-th. -/
theorem flatMap_take_succ {α β : Type} (f : α → List β) (l : List α) (i : Nat) (d : α) (h : i < l.length) : (l.take (i + 1)).flatMap f = (l.take i).flatMap f ++ f (l.getD i d) := by
  rw [List.take_succ_eq_append_getElem h, List.flatMap_append]
  simp [List.getD_eq_getElem?_getD, List.getElem?_eq_getElem h]

theorem flatMap_length {α β : Type} (f : α → List β) (B : Nat) : ∀ (l : List α), (∀ x ∈ l, (f x).length ≤ B) → (l.flatMap f).length ≤ B * l.length
  | [], _ => by simp
  | x :: l, h => by
    have h1 := flatMap_length f B l (fun y hy => h y (List.mem_cons_of_mem _ hy))
    have h2 := h x (List.mem_cons_self)
    simp only [List.flatMap_cons, List.length_append, List.length_cons]
    rw [Nat.mul_add]
    omega

/-- A loop that marks a list. -/
theorem mark_run {α : Type} {S : (Unit × Unit × Unit) × Int × Int × List α → Option (((Unit × Unit × Unit) × Int × Int × List α) ⊕ (Int × List α))} (d : α) {l : List α} {k : Int} (B : Nat)
    (hl : l.length ≤ 1048576) (h0 : 0 ≤ k)
    (h1 : ∀ (i : Nat) (c : Int) (m : List α), i < l.length → m.length = l.length → m.getD i d = l.getD i d → l.getD i d ∈ l → 0 ≤ c → c ≤ k + (i : Int) * (B : Int) →
      ∃ c' y, S (((), (), ()), c, (i : Int), m) = some (.inl (((), (), ()), c', ((i + 1 : Nat) : Int), m.set i y)) ∧ 0 ≤ c' ∧ c' ≤ c + (B : Int))
    (h2 : ∀ c m, m.length = l.length → S (((), (), ()), c, (l.length : Int), m) = some (.inr (c, m))) :
    ∃ c' m', iter S bigN (((), (), ()), k, 0, l) = some (c', m') ∧ 0 ≤ c' ∧ c' ≤ k + (l.length : Int) * (B : Int) := by
  have key : ∀ (f i : Nat) (c : Int) (m : List α), i ≤ l.length → l.length - i < f → m.length = l.length → (∀ j, i ≤ j → m.getD j d = l.getD j d) → 0 ≤ c → c ≤ k + (i : Int) * (B : Int) →
      ∃ c' m', iter S f (((), (), ()), c, (i : Int), m) = some (c', m') ∧ 0 ≤ c' ∧ c' ≤ k + (l.length : Int) * (B : Int) := by
    intro f
    induction f with
    | zero => intro i c m _ h; omega
    | succ f ih =>
      intro i c m hi hf hm hs hc0 hc1
      simp only [iter]
      by_cases hn : i < l.length
      · obtain ⟨c', y, e1, e2, e3⟩ := h1 i c m hn hm (hs i (Nat.le_refl _)) (getD_mem hn) hc0 hc1
        rw [e1]
        simp only
        refine ih (i + 1) c' _ (by omega) (by omega) (by simpa using hm) (fun j hj => ?_) e2 ?_
        · rw [← hs j (by omega)]
          simp only [List.getD_eq_getElem?_getD]
          rw [List.getElem?_set_ne (by omega)]
        · have : ((i + 1 : Nat) : Int) * (B : Int) = (i : Int) * B + B := by rw [Int.natCast_add, Int.add_mul]; simp
          omega
      · obtain rfl : i = l.length := by omega
        rw [h2 c m hm]
        exact ⟨c, m, rfl, hc0, hc1⟩
  exact key bigN 0 k l (Nat.zero_le _) (by simp only [bigN]; omega) rfl (fun _ _ => rfl) h0 (by simp)

end Go.Mach

namespace Go.Proofs.Ytcdkpfcfcjnooaa.Tw
open Go.Mach
set_option linter.unusedVariables false
set_option maxRecDepth 20000

/-! ### numbers -/
theorem putNum_same (x : Int) : impl_PutNum x = spec_PutNum x := by
  have e : ∀ d l, impl_PutNum_l60 d l = spec_PutNum_l60 d l := by
    intro d l
    unfold impl_PutNum_l60 spec_PutNum_l60
    congr 1
  unfold impl_PutNum spec_PutNum
  simp only [l1In_eq, within_eq, e]

theorem putLoop : ∀ (k : Nat) (n : Int) (out : List Int), 0 ≤ n → n < 128 ^ (k + 1) → n < 4294967296 → out.length + k ≤ 4 → ∀ f, k < f →
    ∃ m l, iter (fun d => spec_PutNum_s60 d.1 d.2) f (n, out) = some (m, l) ∧ l.length ≤ 4
  | k, n, out, h0, h1, h3, hl, 0, hf => by omega
  | k, n, out, h0, h1, h3, hl, f + 1, hf => by
    by_cases hn : n > 127
    · match k, h1, hf, hl with
      | 0, h1, hf, hl => simp at h1; omega
      | k + 1, h1, hf, hl =>
        have hw : IntKind.wrap .i64 (Int.tdiv n 128) = n / 128 := by
          rw [Int.tdiv_eq_ediv_of_nonneg h0]
          exact wrap_i64 (by omega) (by omega)
        have hs : spec_PutNum_s60 n out = some (.inl (n / 128, out ++ [IntKind.wrap IntKind.u8 (IntKind.wrap IntKind.i64 (Int.tmod n (128 : Int) + (128 : Int)))])) := by
          unfold spec_PutNum_s60
          rw [decide_eq_true hn, cond_true, fits1 (by simp; omega), chk_tt, hw]
        have hp : n / 128 < 128 ^ (k + 1) := by
          rw [Int.pow_succ] at h1
          omega
        obtain ⟨m, l, e1, e2⟩ := putLoop k (n / 128) (out ++ [IntKind.wrap IntKind.u8 (IntKind.wrap IntKind.i64 (Int.tmod n (128 : Int) + (128 : Int)))]) (by omega) hp (by omega) (by simp; omega) f (by omega)
        refine ⟨m, l, ?_, e2⟩
        simp only [iter, hs]
        exact e1
    · refine ⟨n, out, ?_, by omega⟩
      have hs : spec_PutNum_s60 n out = some (.inr (n, out)) := by
        unfold spec_PutNum_s60
        rw [decide_eq_false hn, cond_false]
      simp only [iter, hs]

theorem putNum_some (x : Int) : ∃ l, spec_PutNum x = some l ∧ l.length ≤ 5 := by
  unfold spec_PutNum
  rw [l1In_eq, Option.bind_some]
  cases h : inR x 0 2147483647 with
  | false => exact ⟨[], rfl, by simp⟩
  | true =>
    obtain ⟨h1, h2⟩ := inR_iff.mp h
    obtain ⟨m, l, e1, e2⟩ := putLoop 4 x [] h1 (by simp; omega) (by omega) (by simp) bigN (by simp only [bigN]; omega)
    unfold spec_PutNum_l60
    rw [e1]
    simp only [Bool.not_true, cond_false, Option.bind_some]
    rw [fits1 (by simp; omega), chk_tt]
    exact ⟨_, rfl, by simp; omega⟩

/-- The bytes of a number. -/
def P (x : Int) : List Int := (spec_PutNum x).getD []

theorem specP (x : Int) : spec_PutNum x = some (P x) := by
  obtain ⟨l, e1, e2⟩ := putNum_some x
  rw [P, e1]; rfl
theorem implP (x : Int) : impl_PutNum x = some (P x) := by rw [putNum_same, specP]
theorem P_le (x : Int) : (P x).length ≤ 5 := by
  obtain ⟨l, e1, e2⟩ := putNum_some x
  rw [P, e1]; exact e2

def Ps (l : List Int) : List Int := l.flatMap P
theorem Ps_le (l : List Int) : (Ps l).length ≤ 5 * l.length := flatMap_length P 5 l (fun x _ => P_le x)

theorem take_le {α : Type} (l : List α) (i : Nat) : (l.take i).length ≤ i := by simp only [List.length_take]; omega

theorem l7Put_eq {l : List Int} (hl : l.length ≤ 1048576) : spec_l7Put l = some (Ps l) := by
  unfold spec_l7Put
  have : spec_l7Put_l58 l [] 0 = some (Ps l) := by
    refine det_run (S := fun d => spec_l7Put_s58 d.1 d.2.1 d.2.2) (fun i => (l, Ps (l.take i), (i : Int))) hl (fun i hi => ?_) ?_
    · have h1 : (Ps (l.take i)).length ≤ 5 * i := Nat.le_trans (Ps_le _) (Nat.mul_le_mul_left 5 (take_le l i))
      have h2 := P_le (l.getD i 0)
      simp only [spec_l7Put_s58, Int.toNat_natCast, wrap_nat (show i ≤ 1048576 by omega), specP]
      rw [decide_eq_true (by omega : (i : Int) < l.length), cond_true, chk_dec (by omega), chk_dec hi, Option.bind_some, fits1 (by omega), chk_tt, Ps, Ps, flatMap_take_succ P l i 0 hi]
    · simp only [spec_l7Put_s58]
      rw [decide_eq_false (by omega), cond_false, List.take_length]
  rw [this]
  rfl

theorem putNums_eq {l : List Int} (hl : l.length ≤ 1048576) : impl_putNums l = some (Ps l) := by
  unfold impl_putNums
  have : impl_putNums_l58 [] l l.length 0 = some (Ps l) := by
    refine det_run (S := fun d => impl_putNums_s58 d.1 d.2.1 d.2.2.1 d.2.2.2) (fun i => (Ps (l.take i), l, (l.length : Int), (i : Int))) hl (fun i hi => ?_) ?_
    · have h1 : (Ps (l.take i)).length ≤ 5 * i := Nat.le_trans (Ps_le _) (Nat.mul_le_mul_left 5 (take_le l i))
      have h2 := P_le (l.getD i 0)
      simp only [impl_putNums_s58, Int.toNat_natCast, wrap_nat (show i ≤ 1048576 by omega), implP]
      rw [decide_eq_true (by omega : (i : Int) < l.length), cond_true, chk_dec (by omega), chk_dec hi, Option.bind_some, fits1 (by omega), chk_tt, Ps, Ps, flatMap_take_succ P l i 0 hi]
    · simp only [impl_putNums_s58]
      rw [decide_eq_false (by omega), cond_false, List.take_length]
  rw [this]
  rfl

/-! ### sketches -/
def nums (s : SketchT) : List Int := [s.1, s.2.1, s.2.2.1, s.2.2.2.1] ++ hist s ++ regs s ++ (rows s).flatten
def skB (s : SketchT) : List Int := if skOk s then Ps (nums s) else []

theorem nums_len {s : SketchT} (h : skOk s = true) : (nums s).length = 28 := by
  have hk := skOk_iff.mp h
  obtain ⟨r0, r1, e, ⟨l0, _⟩, l1, _⟩ := hk.rows
  simp only [nums, hist, regs, rows, e, List.length_append, List.length_cons, List.length_nil, List.flatten_cons, List.flatten_nil, List.append_nil, hk.hist.1, hk.regs.1, l0, l1]

theorem skB_le (s : SketchT) : (skB s).length ≤ 140 := by
  unfold skB
  split
  · next h => have := Ps_le (nums s); rw [nums_len h] at this; omega
  · simp

theorem specSketchBytes_eq {s : SketchT} (h : SkLe small s) : spec_SketchBytes s.1 s.2.1 s.2.2.1 s.2.2.2.1 s.2.2.2.2.1 s.2.2.2.2.2.1 s.2.2.2.2.2.2 = some (skB s) := by
  unfold spec_SketchBytes
  rw [specSketchOk_eq h, Option.bind_some]
  unfold skB
  cases hk : skOk s with
  | false => rfl
  | true =>
    have hlen := nums_len hk
    obtain ⟨r0, r1, e, ⟨l0, _⟩, l1, _⟩ := (skOk_iff.mp hk).rows
    have hh := (skOk_iff.mp hk).hist.1
    have hr := (skOk_iff.mp hk).regs.1
    obtain ⟨a1, a2, a3, a4, a5, a6, a7⟩ := s
    dsimp only at e hh hr ⊢
    subst e
    have key : spec_l7Nums a1 a2 a3 a4 a5 a6 [r0, r1] = some (nums (a1, a2, a3, a4, a5, a6, [r0, r1])) := by
      unfold spec_l7Nums
      rw [fits8 (by simp; omega), chk_tt, fits8 (by simp; omega), chk_tt]
      have : spec_l7Nums_l250 a1 a2 a3 a4 a5 a6 [r0, r1] ([a1, a2, a3, a4] ++ a5 ++ a6) 0 = some ([a1, a2, a3, a4] ++ a5 ++ a6 ++ r0 ++ r1) := by
        refine det_run (S := fun d => spec_l7Nums_s250 d.1.1 d.1.2.1 d.1.2.2.1 d.1.2.2.2.1 d.1.2.2.2.2.1 d.1.2.2.2.2.2.1 d.1.2.2.2.2.2.2 d.2.1 d.2.2) (n := 2)
          (fun i => ((a1, a2, a3, a4, a5, a6, [r0, r1]), (match i with | 0 => [a1, a2, a3, a4] ++ a5 ++ a6 | 1 => [a1, a2, a3, a4] ++ a5 ++ a6 ++ r0 | _ => [a1, a2, a3, a4] ++ a5 ++ a6 ++ r0 ++ r1), (i : Int))) (by omega) (fun i hi => ?_) ?_
        · have : i = 0 ∨ i = 1 := by omega
          rcases this with rfl | rfl
          · have hf : fits (List.length ([a1, a2, a3, a4] ++ a5 ++ a6) + List.length r0) 8 = true := fits8 (by simp; omega)
            have : fits (([a1, a2, a3, a4] ++ a5 ++ a6).length + (List.getD [r0, r1] (Int.toNat ((0 : Nat) : Int)) []).length) 8 = true := hf
            simp only [spec_l7Nums_s250, this]
            rfl
          · have hf : fits (List.length ([a1, a2, a3, a4] ++ a5 ++ a6 ++ r0) + List.length r1) 8 = true := fits8 (by simp; omega)
            have : fits (([a1, a2, a3, a4] ++ a5 ++ a6 ++ r0).length + (List.getD [r0, r1] (Int.toNat ((1 : Nat) : Int)) []).length) 8 = true := hf
            simp only [spec_l7Nums_s250, this]
            rfl
        · rfl
      rw [this]
      simp [nums, hist, regs, rows]
    simp only [Bool.not_true, cond_false, if_true]
    rw [key, Option.bind_some, l7Put_eq (by omega), Option.bind_some]

theorem implSketchBytes_eq {s : SketchT} (h : SkLe small s) : impl_SketchBytes s.1 s.2.1 s.2.2.1 s.2.2.2.1 s.2.2.2.2.1 s.2.2.2.2.2.1 s.2.2.2.2.2.2 = some (skB s) := by
  unfold impl_SketchBytes
  rw [implSketchOk_eq h, Option.bind_some]
  unfold skB
  cases hk : skOk s with
  | false => rfl
  | true =>
    have hlen := nums_len hk
    obtain ⟨r0, r1, e, ⟨l0, _⟩, l1, _⟩ := (skOk_iff.mp hk).rows
    have hh := (skOk_iff.mp hk).hist.1
    have hr := (skOk_iff.mp hk).regs.1
    obtain ⟨a1, a2, a3, a4, a5, a6, a7⟩ := s
    dsimp only at e hh hr ⊢
    subst e
    have hn : nums (a1, a2, a3, a4, a5, a6, [r0, r1]) = [a1, a2, a3, a4] ++ (a5 ++ a6 ++ r0 ++ r1) := by simp [nums, hist, regs, rows]
    simp only [Bool.not_true, cond_false, if_true]
    rw [counts_eq (by omega) (by omega) (by omega) (by omega), Option.bind_some, fits8 (by simp; omega), chk_tt, ← hn, putNums_eq (by omega), Option.bind_some]

/-! ### outs -/
def spB (l : List SpanT) : List Int := l.flatMap fun x => Ps [x.1, x.2]
theorem spB_le (l : List SpanT) : (spB l).length ≤ 10 * l.length := flatMap_length _ 10 l (fun x _ => Ps_le _)

theorem putSpans_eq {l : List SpanT} (hl : l.length ≤ 1048576) : impl_putSpans l = some (P l.length ++ spB l) := by
  unfold impl_putSpans
  rw [implP, Option.bind_some]
  have : impl_putSpans_l58 (P l.length) l l.length 0 = some (P l.length ++ spB l) := by
    refine Eq.trans ?_ (det_run (S := fun d => impl_putSpans_s58 d.1 d.2.1 d.2.2.1 d.2.2.2) (fun i => (P l.length ++ spB (l.take i), l, (l.length : Int), (i : Int))) hl (t := P l.length ++ spB l) (fun i hi => ?_) ?_)
    · simp [impl_putSpans_l58, spB]
    · have h1 : (spB (l.take i)).length ≤ 10 * i := Nat.le_trans (spB_le _) (Nat.mul_le_mul_left 10 (take_le l i))
      have h2 : ∀ x : SpanT, (Ps [x.1, x.2]).length ≤ 10 := fun x => Ps_le _
      have h3 := h2 (l.getD i (0, 0))
      have h4 := P_le l.length
      simp only [impl_putSpans_s58, Int.toNat_natCast, wrap_nat (show i ≤ 1048576 by omega), Option.bind_some]
      rw [decide_eq_true (by omega : (i : Int) < l.length), cond_true, chk_dec (by omega), chk_dec hi, putNums_eq (by simp), Option.bind_some, fits1 (by simp only [List.length_append]; omega), chk_tt, spB, spB, flatMap_take_succ _ l i (0, 0) hi, List.append_assoc]
    · simp only [impl_putSpans_s58]
      rw [decide_eq_false (by omega), cond_false, List.take_length]
  rw [this]
  rfl

def outB (o : OutT) : List Int := if outOk o then Ps [o.1, o.2.1, o.2.2.1, o.2.2.2.1.length] ++ spB o.2.2.2.1 ++ skB o.2.2.2.2 else []

theorem outB_le {o : OutT} (h : EnLe small o.2) : (outB o).length ≤ 10485920 := by
  unfold outB
  split
  · have h1 := Ps_le [o.1, o.2.1, o.2.2.1, (o.2.2.2.1.length : Int)]
    have h2 := spB_le o.2.2.2.1
    have h3 := skB_le o.2.2.2.2
    have h4 : o.2.2.2.1.length ≤ 1048576 := h.1
    simp only [List.length_append, List.length_cons, List.length_nil] at h1 ⊢
    omega
  · simp

theorem specOutBytes_eq {o : OutT} (h : EnLe small o.2) : spec_OutBytes o.1 o.2.1 o.2.2.1 o.2.2.2.1 o.2.2.2.2.1 o.2.2.2.2.2.1 o.2.2.2.2.2.2.1 o.2.2.2.2.2.2.2.1 o.2.2.2.2.2.2.2.2.1 o.2.2.2.2.2.2.2.2.2.1 o.2.2.2.2.2.2.2.2.2.2 = some (outB o) := by
  have hok : spec_OutsOk [o] = some (outOk o) := by
    rw [specOutsOk_eq (by simp) (by simpa using h)]
    simp [outsOk]
  unfold spec_OutBytes outB
  rw [Option.bind_some]
  have hok' : spec_OutsOk [(o.1, o.2.1, o.2.2.1, o.2.2.2.1, o.2.2.2.2.1, o.2.2.2.2.2.1, o.2.2.2.2.2.2.1, o.2.2.2.2.2.2.2.1, o.2.2.2.2.2.2.2.2.1, o.2.2.2.2.2.2.2.2.2.1, o.2.2.2.2.2.2.2.2.2.2)] = some (outOk o) := hok
  rw [hok', Option.bind_some]
  cases outOk o with
  | false => rfl
  | true =>
    have hl : o.2.2.2.1.length ≤ 1048576 := h.1
    simp only [Bool.not_true, cond_false, if_true]
    rw [l7Put_eq (by simp), Option.bind_some]
    have h0 := Ps_le [o.1, o.2.1, o.2.2.1, (o.2.2.2.1.length : Int)]
    simp only [List.length_cons, List.length_nil] at h0
    generalize Ps [o.1, o.2.1, o.2.2.1, (o.2.2.2.1.length : Int)] = b0 at h0 ⊢
    have : spec_OutBytes_l122 o.1 o.2.1 o.2.2.1 o.2.2.2.1 o.2.2.2.2.1 o.2.2.2.2.2.1 o.2.2.2.2.2.2.1 o.2.2.2.2.2.2.2.1 o.2.2.2.2.2.2.2.2.1 o.2.2.2.2.2.2.2.2.2.1 o.2.2.2.2.2.2.2.2.2.2 b0 0 = some (o, b0 ++ spB o.2.2.2.1) := by
      refine Eq.trans ?_ (det_run (S := fun d => spec_OutBytes_s122 d.1.1 d.1.2.1 d.1.2.2.1 d.1.2.2.2.1 d.1.2.2.2.2.1 d.1.2.2.2.2.2.1 d.1.2.2.2.2.2.2.1 d.1.2.2.2.2.2.2.2.1 d.1.2.2.2.2.2.2.2.2.1 d.1.2.2.2.2.2.2.2.2.2.1 d.1.2.2.2.2.2.2.2.2.2.2 d.2.1 d.2.2)
        (fun i => (o, b0 ++ spB (o.2.2.2.1.take i), (i : Int))) hl (t := (o, b0 ++ spB o.2.2.2.1)) (fun i hi => ?_) ?_)
      · simp [spec_OutBytes_l122, spB]
      · have h1 : (spB (o.2.2.2.1.take i)).length ≤ 10 * i := Nat.le_trans (spB_le _) (Nat.mul_le_mul_left 10 (take_le _ i))
        have h2 : ∀ x : SpanT, (Ps [x.1, x.2]).length ≤ 10 := fun x => Ps_le _
        have h3 := h2 (o.2.2.2.1.getD i (0, 0))
        simp only [spec_OutBytes_s122, Int.toNat_natCast, wrap_nat (show i ≤ 1048576 by omega), Option.bind_some]
        rw [decide_eq_true (by omega : (i : Int) < o.2.2.2.1.length), cond_true, chk_dec (by omega), chk_dec hi, chk_dec (by omega), chk_dec hi, l7Put_eq (by simp), Option.bind_some, fits1 (by simp only [List.length_append]; omega), chk_tt, spB, spB, flatMap_take_succ _ _ i (0, 0) hi, List.append_assoc]
      · simp only [spec_OutBytes_s122]
        rw [decide_eq_false (by omega), cond_false, List.take_length]
    rw [this, Option.bind_some]
    simp only [Option.bind_some]
    have h5 := spB_le o.2.2.2.1
    have h6 := skB_le o.2.2.2.2
    rw [specSketchBytes_eq h.2, Option.bind_some, fits1 (by simp only [List.length_append]; omega), chk_tt]

theorem implOutBytes_eq {o : OutT} (h : EnLe small o.2) : impl_OutBytes o.1 o.2.1 o.2.2.1 o.2.2.2.1 o.2.2.2.2.1 o.2.2.2.2.2.1 o.2.2.2.2.2.2.1 o.2.2.2.2.2.2.2.1 o.2.2.2.2.2.2.2.2.1 o.2.2.2.2.2.2.2.2.2.1 o.2.2.2.2.2.2.2.2.2.2 = some (outB o) := by
  have hok : impl_OutsOk [o] = some (outOk o) := by
    rw [implOutsOk_eq (by simp) (by simpa using h)]
    simp [outsOk]
  unfold impl_OutBytes outB
  rw [Option.bind_some]
  have hok' : impl_OutsOk [(o.1, o.2.1, o.2.2.1, o.2.2.2.1, o.2.2.2.2.1, o.2.2.2.2.2.1, o.2.2.2.2.2.2.1, o.2.2.2.2.2.2.2.1, o.2.2.2.2.2.2.2.2.1, o.2.2.2.2.2.2.2.2.2.1, o.2.2.2.2.2.2.2.2.2.2)] = some (outOk o) := hok
  rw [hok', Option.bind_some]
  cases outOk o with
  | false => rfl
  | true =>
    have hl : o.2.2.2.1.length ≤ 1048576 := h.1
    have h0 := Ps_le [o.1, o.2.1, o.2.2.1]
    have h4 := P_le o.2.2.2.1.length
    have h5 := spB_le o.2.2.2.1
    have h6 := skB_le o.2.2.2.2
    simp only [List.length_cons, List.length_nil] at h0
    simp only [Bool.not_true, cond_false, if_true]
    rw [putNums_eq (by simp), Option.bind_some, putSpans_eq hl, Option.bind_some, fits1 (by simp only [List.length_append]; omega), chk_tt, implSketchBytes_eq h.2, Option.bind_some, fits1 (by simp only [List.length_append]; omega), chk_tt]
    simp [Ps]

/-! ### bytes: compared, marked -/
theorem eqByteS_eq {a b : List Int} (ha : a.length ≤ 1099511627776) : laws_eqByteS a b = some (decide (a = b)) := by
  refine eqS_runL (S := fun d => laws_eqByteS_s58 d.1 d.2.1 d.2.2) 0 ha (fun i => (a, b, (i : Int))) (fun i hi hb hm => ?_) (fun hb => ?_)
  · simp only [laws_eqByteS_s58, Int.toNat_natCast, wrap_natL (show i ≤ 1099511627776 by omega)]
    rw [decide_eq_true (by omega : (i : Int) < a.length), cond_true, chk_dec (by omega), chk_dec hi, chk_dec (by omega), chk_dec (by omega)]
    rw [bne_cond]
    split <;> rfl
  · simp only [laws_eqByteS_s58]
    rw [decide_eq_false (by omega), cond_false]

/-- Bytes marked from k on. -/
def markedB (k : Int) (l : List Int) (i : Nat) : List Int := (List.range i).map (fun (j : Nat) => IntKind.wrap .u8 (k + (j : Int))) ++ l.drop i

theorem markedB_set (k : Int) (l : List Int) (i : Nat) (h : i < l.length) : (markedB k l i).set i (IntKind.wrap .u8 (k + (i : Int))) = markedB k l (i + 1) := by
  unfold markedB
  rw [List.set_append_right _ _ (by simp), List.range_succ, List.map_append, List.append_assoc, List.drop_eq_getElem_cons h]
  simp only [List.length_map, List.length_range, Nat.sub_self, List.set_cons_zero, List.map_cons, List.map_nil, List.cons_append, List.nil_append]

theorem markedB_length (k : Int) (l : List Int) (i : Nat) (h : i ≤ l.length) : (markedB k l i).length = l.length := by simp [markedB]; omega

theorem markedB_get (k : Int) (l : List Int) (i : Nat) (h : i < l.length) : (markedB k l l.length).getD i 0 = IntKind.wrap .u8 (k + (i : Int)) := by
  rw [markedB, List.getD_eq_getElem?_getD, List.getElem?_append_left (by simpa using h), List.getElem?_map, List.getElem?_range h]
  rfl

theorem markByteS_eq {l : List Int} {k : Int} (hl : l.length ≤ 1099511627776) (h0 : 0 ≤ k) (h1 : k ≤ 1152921504606846976) : laws_markByteS l k = some (k + (l.length : Int), markedB k l l.length) := by
  unfold laws_markByteS
  have : laws_markByteS_l26 k 0 l = some (k + (l.length : Int), markedB k l l.length) := by
    refine Eq.trans ?_ (det_runL (S := fun d => laws_markByteS_s26 d.2.1 d.2.2.1 d.2.2.2) (fun i => (((), ((), ())), (k + (i : Int), ((i : Int), markedB k l i)))) hl (t := (k + (l.length : Int), markedB k l l.length)) (fun i hi => ?_) ?_)
    · simp [laws_markByteS_l26, markedB]
    · have h2 := markedB_length k l i (by omega)
      have h3 : (0 : Int) ≤ (i : Int) := by omega
      simp only [laws_markByteS_s26, Int.toNat_natCast, wrap_natL (show i ≤ 1099511627776 by omega), h2]
      rw [decide_eq_true (by omega : (i : Int) < l.length), cond_true]
      simp only [chk_dec h3, chk_dec hi]
      rw [wrap_big (by omega) (by omega), markedB_set k l i hi]
      congr 4
      omega
    · have h2 := markedB_length k l l.length (by omega)
      simp only [laws_markByteS_s26, h2]
      rw [decide_eq_false (by omega), cond_false]
  rw [this]
  rfl

theorem heldByteS_eq {l : List Int} {k : Int} (hl : l.length ≤ 1099511627776) (h0 : 0 ≤ k) (h1 : k ≤ 1152921504606846976) : laws_heldByteS (markedB k l l.length) k = some (k + (l.length : Int)) := by
  unfold laws_heldByteS
  have hm := markedB_length k l l.length (Nat.le_refl _)
  have : laws_heldByteS_l26 (markedB k l l.length) k 0 = some (.inr (k + (l.length : Int))) := by
    refine Eq.trans ?_ (det_runL (S := fun d => laws_heldByteS_s26 d.1 d.2.1 d.2.2) (fun i => (markedB k l l.length, (k + (i : Int), (i : Int)))) hl (t := .inr (k + (l.length : Int))) (fun i hi => ?_) ?_)
    · simp [laws_heldByteS_l26]
    · have h3 : (0 : Int) ≤ (i : Int) := by omega
      simp only [laws_heldByteS_s26, Int.toNat_natCast, wrap_natL (show i ≤ 1099511627776 by omega), hm, markedB_get k l i hi]
      rw [decide_eq_true (by omega : (i : Int) < l.length), cond_true]
      simp only [chk_dec h3, chk_dec hi]
      rw [wrap_big (by omega) (by omega)]
      simp
      omega
    · simp only [laws_heldByteS_s26, hm]
      rw [decide_eq_false (by omega), cond_false]
  rw [this]
  rfl

end Go.Proofs.Ytcdkpfcfcjnooaa.Tw
