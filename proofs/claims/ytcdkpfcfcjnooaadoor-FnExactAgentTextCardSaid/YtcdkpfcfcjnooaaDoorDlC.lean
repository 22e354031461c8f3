/- Plain: sets, sketches, entries, outs as text; the laws FnExactEntryText, FnExactOutText. No condition: lemmas. -/
import Derived.Test.YtcdkpfcfcjnooaaDoorDlA
import Derived.Test.YtcdkpfcfcjnooaaDoorDlE
namespace Go.Proofs.YtcdkpfcfcjnooaaDoor.Tw
open Go.Mach
set_option linter.unusedVariables false
set_option maxRecDepth 20000

/-! ### every number -/
theorem digLoopN (b : Bool) : ∀ (k u : Nat) (out : List UInt8), u < 10 ^ k → out.length + k ≤ 1000 → u ≤ 9223372036854775808 → ∀ f, k < f →
    iter (fun d => spec_Digits_s124 d.1 d.2.1 d.2.2) f (-(u : Int), (b, out)) = some (b, if u = 0 then out else Lib.decDigits u ++ out)
  | k, u, out, h, hl, hu, 0, hf => by omega
  | k, u, out, h, hl, hu, f + 1, hf => by
    by_cases h0 : u = 0
    · subst h0
      simp [iter, spec_Digits_s124]
    · match k, h, hl, hf with
      | 0, h, hl, hf => simp at h; omega
      | k + 1, h, hl, hf =>
        have e1 : ((-(u : Int)) != 0) = true := by simpa using h0
        have e2 : Int.tmod (-(u : Int)) 10 = -((u % 10 : Nat) : Int) := by rw [Int.neg_tmod, Int.tmod_eq_emod_of_nonneg (by omega)]; omega
        have e3 : IntKind.wrap .i64 (Int.tdiv (-(u : Int)) 10) = -((u / 10 : Nat) : Int) := by
          rw [Int.neg_tdiv, Int.tdiv_eq_ediv_of_nonneg (by omega), wrap_i64 (by omega) (by omega)]
          omega
        have e4 : IntKind.wrap .i64 ((48 : Int) + ((u % 10 : Nat) : Int)) = ((48 + u % 10 : Nat) : Int) := by rw [wrap_i64 (by omega) (by omega)]; omega
        have e5 : IntKind.wrap .u8 ((48 + u % 10 : Nat) : Int) = ((48 + u % 10 : Nat) : Int) := by
          rw [IntKind.wrap_u8]
          omega
        have hs : spec_Digits_s124 (-(u : Int)) b out = some (.inl (-((u / 10 : Nat) : Int), (b, [UInt8.ofNat (48 + u % 10)] ++ out))) := by
          unfold spec_Digits_s124
          rw [e1, cond_true, e2, e3]
          by_cases hm : u % 10 = 0
          · rw [hm]
            have e4' : IntKind.wrap .i64 ((48 : Int) + -((0 : Nat) : Int)) = 48 := by rw [wrap_i64 (by omega) (by omega)]; rfl
            have e5' : IntKind.wrap .u8 (48 : Int) = 48 := by rw [IntKind.wrap_u8]; omega
            rw [decide_eq_false (by omega), cond_false, e4', e5']
            simp only [List.map_cons, List.map_nil, Option.bind_some]
            rw [chk_dec (by simp only [List.length_cons, List.length_nil]; omega)]
            rfl
          · have e6 : IntKind.wrap .i64 ((0 : Int) - -((u % 10 : Nat) : Int)) = ((u % 10 : Nat) : Int) := by rw [wrap_i64 (by omega) (by omega)]; omega
            rw [decide_eq_true (by omega), cond_true, e6, e4, e5]
            simp only [List.map_cons, List.map_nil, Int.toNat_natCast, Option.bind_some]
            rw [chk_dec (by simp only [List.length_cons, List.length_nil]; omega)]
        have hlt : u / 10 < 10 ^ k := by
          rw [Nat.pow_succ] at h
          omega
        simp only [iter, hs]
        rw [digLoopN b k (u / 10) _ hlt (by simp only [List.length_append, List.length_cons, List.length_nil]; omega) (by omega) f (by omega), if_neg h0]
        congr 2
        by_cases h9 : u < 10
        · rw [if_pos (by omega), Lib.decDigits.eq_def u, dif_pos h9, Nat.mod_eq_of_lt h9]
        · rw [if_neg (by omega), Lib.decDigits.eq_def u, dif_neg h9, List.append_assoc]

theorem digLoopP (b : Bool) : ∀ (k u : Nat) (out : List UInt8), u < 10 ^ k → out.length + k ≤ 1000 → u ≤ 9223372036854775807 → ∀ f, k < f →
    iter (fun d => spec_Digits_s124 d.1 d.2.1 d.2.2) f ((u : Int), (b, out)) = some (b, if u = 0 then out else Lib.decDigits u ++ out)
  | k, u, out, h, hl, hu, 0, hf => by omega
  | k, u, out, h, hl, hu, f + 1, hf => by
    by_cases h0 : u = 0
    · subst h0
      simp [iter, spec_Digits_s124]
    · match k, h, hl, hf with
      | 0, h, hl, hf => simp at h; omega
      | k + 1, h, hl, hf =>
        have e1 : ((u : Int) != 0) = true := by simpa using h0
        have e2 : Int.tmod (u : Int) 10 = ((u % 10 : Nat) : Int) := by rw [Int.tmod_eq_emod_of_nonneg (by omega)]; omega
        have e3 : IntKind.wrap .i64 (Int.tdiv (u : Int) 10) = ((u / 10 : Nat) : Int) := by
          rw [Int.tdiv_eq_ediv_of_nonneg (by omega), wrap_i64 (by omega) (by omega)]
          omega
        have e4 : IntKind.wrap .i64 ((48 : Int) + ((u % 10 : Nat) : Int)) = ((48 + u % 10 : Nat) : Int) := by rw [wrap_i64 (by omega) (by omega)]; omega
        have e5 : IntKind.wrap .u8 ((48 + u % 10 : Nat) : Int) = ((48 + u % 10 : Nat) : Int) := by
          rw [IntKind.wrap_u8]
          omega
        have hs : spec_Digits_s124 (u : Int) b out = some (.inl (((u / 10 : Nat) : Int), (b, [UInt8.ofNat (48 + u % 10)] ++ out))) := by
          unfold spec_Digits_s124
          rw [e1, cond_true, e2, decide_eq_false (by omega), cond_false, e4, e5, e3]
          simp only [List.map_cons, List.map_nil, Int.toNat_natCast, Option.bind_some]
          rw [chk_dec (by simp only [List.length_cons, List.length_nil]; omega)]
        have hlt : u / 10 < 10 ^ k := by
          rw [Nat.pow_succ] at h
          omega
        simp only [iter, hs]
        rw [digLoopP b k (u / 10) _ hlt (by simp only [List.length_append, List.length_cons, List.length_nil]; omega) (by omega) f (by omega), if_neg h0]
        congr 2
        by_cases h9 : u < 10
        · rw [if_pos (by omega), Lib.decDigits.eq_def u, dif_pos h9, Nat.mod_eq_of_lt h9]
        · rw [if_neg (by omega), Lib.decDigits.eq_def u, dif_neg h9, List.append_assoc]

theorem dg_leA {n : Int} (h0 : -9223372036854775808 ≤ n) (h1 : n ≤ 9223372036854775807) : (dg n).length ≤ 21 := Lib.itoa_length_le n h0 h1

theorem specDigits_all {n : Int} (h0 : -9223372036854775808 ≤ n) (h1 : n ≤ 9223372036854775807) : spec_Digits n = some (dg n) := by
  rcases Int.lt_or_le n 0 with hn | hn
  · obtain ⟨u, rfl⟩ : ∃ u : Nat, n = -(u : Int) := ⟨n.natAbs, by omega⟩
    have hu : u ≠ 0 := by omega
    have hle : (Lib.itoa (-(u : Int))).length ≤ 21 := dg_leA h0 h1
    unfold spec_Digits dg
    rw [Lib.itoa_neg u (by omega)] at hle ⊢
    have e1 : ((-(u : Int)) == 0) = false := by simpa using hu
    rw [e1, cond_false, decide_eq_true (by omega), lit_nil]
    have := digLoopN true 20 u [] (by omega) (by simp) (by omega) bigN (by simp only [bigN]; omega)
    unfold spec_Digits_l124
    rw [this, if_neg hu]
    simp only [List.length_cons] at hle
    simp only [List.append_nil, Option.bind_some, cond_true, lit_one]
    rw [chk_dec (by omega)]
    rfl
  · obtain ⟨u, rfl⟩ : ∃ u : Nat, n = (u : Int) := ⟨n.toNat, by omega⟩
    unfold spec_Digits dg
    rw [Lib.itoa_nonneg]
    by_cases hu : u = 0
    · subst hu
      have : Lib.decDigits 0 = [48] := by rw [Lib.decDigits.eq_def]; rfl
      rw [this]
      rfl
    · have e1 : ((u : Int) == 0) = false := by simpa using hu
      rw [e1, cond_false, decide_eq_false (by omega), lit_nil]
      have := digLoopP false 20 u [] (by omega) (by simp) (by omega) bigN (by simp only [bigN]; omega)
      unfold spec_Digits_l124
      rw [this, if_neg hu]
      simp

theorem implDigits_all {n : Int} (h0 : -9223372036854775808 ≤ n) (h1 : n ≤ 9223372036854775807) : impl_Digits n = some (dg n) := by
  unfold impl_Digits strconv_Itoa
  rw [if_pos ⟨h0, h1⟩]
  rfl

/-! ### sets -/
def spanT (x : SpanT) : List UInt8 := if x.2 ≠ x.1 then dg x.1 ++ ([45] ++ dg x.2) else dg x.1
def setT (l : List SpanT) : List UInt8 := jn (l.map spanT) [44]
def small4 (x : Int) : Prop := 0 ≤ x ∧ x ≤ 9999

theorem setOk_mem {l : List SpanT} (h : setOk l = true) : ∀ x ∈ l, small4 x.1 ∧ small4 x.2 := by
  intro x hx
  obtain ⟨i, hi⟩ := List.getElem?_of_mem hx
  have hil := (List.getElem?_eq_some_iff.1 hi).1
  have := List.all_eq_true.1 h i (List.mem_range.2 hil)
  simp only [spanOk, Bool.and_eq_true, inR_iff] at this
  have hg : l.getD i (0, 0) = x := by rw [List.getD_eq_getElem?_getD, hi]; rfl
  rw [hg] at this
  exact ⟨this.1, by have := this.1; have h2 := this.1; omega, this.2.1.2⟩

theorem dg4 {x : Int} (h : small4 x) : spec_Digits x = some (dg x) ∧ impl_Digits x = some (dg x) ∧ (dg x).length ≤ 21 :=
  ⟨specDigits_eq h.1 (by have := h.2; omega), implDigits_eq h.1 (by have := h.2; omega), dg_le h.1 (by have := h.2; omega)⟩

theorem spanT_le {x : SpanT} (h : small4 x.1 ∧ small4 x.2) : (spanT x).length ≤ 43 := by
  have h1 := (dg4 h.1).2.2
  have h2 := (dg4 h.2).2.2
  unfold spanT
  split
  · simp only [List.length_append, List.length_cons, List.length_nil]; omega
  · omega

theorem setT_le {l : List SpanT} (h : ∀ x ∈ l, small4 x.1 ∧ small4 x.2) : (setT l).length ≤ 44 * l.length := by
  have := jn_length [44] 43 (l.map spanT) (fun x hx => by
    obtain ⟨y, hy, rfl⟩ := List.mem_map.1 hx
    exact spanT_le (h y hy))
  simpa [setT] using this

theorem specSpan_node {l : List SpanT} {i : Nat} {out : List UInt8} (hi : i < l.length) (ho : out.length ≤ 100000000) (h : small4 (l.getD i (0, 0)).1 ∧ small4 (l.getD i (0, 0)).2) :
    spec_SetText_l1865 l out (i : Int) = some (l, out ++ spanT (l.getD i (0, 0)), (i : Int)) := by
  have g1 : (0 : Int) ≤ (i : Int) := by omega
  obtain ⟨a1, a2, a3⟩ := dg4 h.1
  obtain ⟨b1, b2, b3⟩ := dg4 h.2
  unfold spec_SetText_l1865 spanT
  simp only [Int.toNat_natCast, chk_dec g1, chk_dec hi, a1, b1, Option.bind_some, lit_one]
  rw [chk_dec (by omega)]
  by_cases hq : (l.getD i (0, 0)).2 = (l.getD i (0, 0)).1
  · have : ((l.getD i (0, 0)).2 != (l.getD i (0, 0)).1) = false := by simp only [bne, hq, beq_self_eq_true, Bool.not_true]
    rw [this, cond_false, if_neg (by simpa using hq)]
  · have : ((l.getD i (0, 0)).2 != (l.getD i (0, 0)).1) = true := by simp only [bne, beq_eq_false_iff_ne.2 hq, Bool.not_false]
    rw [this, cond_true, if_pos hq, chk_dec (by simp only [List.length_append]; omega), chk_dec (by simp only [List.length_append, List.length_cons, List.length_nil]; omega)]
    simp only [List.append_assoc]

theorem specSetText_eq {l : List SpanT} (hl : l.length ≤ 1048576) (h : ∀ x ∈ l, small4 x.1 ∧ small4 x.2) : spec_SetText l = some (setT l) := by
  unfold spec_SetText
  have : spec_SetText_l58 l (Array.toList (ByteArray.data { data := #[] })) 0 = some (setT l) := by
    refine det_run (S := fun d => spec_SetText_s58 d.1 d.2.1 d.2.2) (fun i => (l, setT (l.take i), (i : Int))) hl (fun i hi => ?_) ?_
    · have g1 : (0 : Int) ≤ (i : Int) := by omega
      have hle := setT_le (l := l.take i) (fun x hx => h x (List.mem_of_mem_take hx))
      have htl : (l.take i).length ≤ 1048576 := by rw [List.length_take]; omega
      have hm := h _ (getD_mem (d := (0, 0)) hi)
      simp only [spec_SetText_s58, lit_one]
      rw [decide_eq_true (by omega : (i : Int) < l.length), cond_true]
      by_cases h0 : i = 0
      · subst h0
        have hn := specSpan_node (out := setT (l.take 0)) hi (by omega) hm
        rw [decide_eq_false (by omega), cond_false, hn, Option.bind_some]
        simp only [setT, map_take_succ spanT l 0 (0, 0) hi, List.take_zero, List.map_nil, jn_one]
        rfl
      · have hn := specSpan_node (out := setT (l.take i) ++ [44]) hi (by simp only [List.length_append, List.length_cons, List.length_nil]; omega) hm
        rw [decide_eq_true (by omega), cond_true, chk_dec (by omega), hn, Option.bind_some]
        simp only [wrap_nat (show i ≤ 1048576 by omega), setT, map_take_succ spanT l i (0, 0) hi]
        rw [jn_snoc _ _ _ (by simpa using take_ne_nil l i (by omega) (by omega)), List.append_assoc]
    · simp only [spec_SetText_s58]
      rw [decide_eq_false (by omega), cond_false, List.take_length]
  rw [this]
  rfl

theorem implSetText_eq {l : List SpanT} (hl : l.length ≤ 1048576) (h : ∀ x ∈ l, small4 x.1 ∧ small4 x.2) : impl_SetText l = some (setT l) := by
  unfold impl_SetText
  have : impl_SetText_l58 [] l l.length 0 = some (l.map spanT) := by
    refine det_run (S := fun d => impl_SetText_s58 d.1 d.2.1 d.2.2.1 d.2.2.2) (fun i => ((l.take i).map spanT, l, (l.length : Int), (i : Int))) hl (fun i hi => ?_) ?_
    · have g1 : (0 : Int) ≤ (i : Int) := by omega
      obtain ⟨a1, a2, a3⟩ := dg4 (h _ (getD_mem (d := (0, 0)) hi)).1
      obtain ⟨b1, b2, b3⟩ := dg4 (h _ (getD_mem (d := (0, 0)) hi)).2
      have htl : ((l.take i).map spanT).length ≤ 1048576 := by simp only [List.length_map, List.length_take]; omega
      simp only [impl_SetText_s58, Int.toNat_natCast, wrap_nat (show i ≤ 1048576 by omega), lit_one]
      rw [decide_eq_true (by omega : (i : Int) < l.length), cond_true]
      simp only [chk_dec g1, chk_dec hi, a2, b2, Option.bind_some]
      have hf : fits (((l.take i).map spanT).length + 1) 16 = true := fits16 (by omega)
      by_cases hq : (l.getD i (0, 0)).2 = (l.getD i (0, 0)).1
      · have : ((l.getD i (0, 0)).2 != (l.getD i (0, 0)).1) = false := by simp only [bne, hq, beq_self_eq_true, Bool.not_true]
        have hs : spanT (l.getD i (0, 0)) = dg (l.getD i (0, 0)).1 := by unfold spanT; rw [if_neg (by simpa using hq)]
        rw [this, cond_false, List.length_cons, List.length_nil, hf, chk_tt, map_take_succ spanT l i (0, 0) hi, hs]
      · have : ((l.getD i (0, 0)).2 != (l.getD i (0, 0)).1) = true := by simp only [bne, beq_eq_false_iff_ne.2 hq, Bool.not_false]
        have hs : spanT (l.getD i (0, 0)) = dg (l.getD i (0, 0)).1 ++ ([45] ++ dg (l.getD i (0, 0)).2) := by unfold spanT; rw [if_pos hq]
        rw [this, cond_true, chk_dec (by omega), chk_dec (by simp only [List.length_append, List.length_cons, List.length_nil]; omega), List.length_cons, List.length_nil, hf, chk_tt, map_take_succ spanT l i (0, 0) hi, hs]
    · simp only [impl_SetText_s58]
      rw [decide_eq_false (by omega), cond_false, List.take_length]
  rw [this, Option.bind_some, lit_one, join_some 43 (fun x hx => by
    obtain ⟨y, hy, rfl⟩ := List.mem_map.1 hx
    exact spanT_le (h y hy)) (by simpa using hl) (by simp)]
  rfl

/-! ### sketches -/
def skT (s : SketchT) : List UInt8 := if skOk s then dg s.1 ++ [32] ++ dg s.2.1 ++ [32] ++ dg s.2.2.1 ++ [32] ++ dg s.2.2.2.1 else [63]

theorem dg9 {x : Int} (h0 : 0 ≤ x) (h1 : x ≤ 1000000000) : spec_Digits x = some (dg x) ∧ impl_Digits x = some (dg x) ∧ (dg x).length ≤ 21 :=
  ⟨specDigits_eq h0 (by omega), implDigits_eq h0 (by omega), dg_le h0 (by omega)⟩

theorem skT_le (s : SketchT) : (skT s).length ≤ 100 := by
  unfold skT
  split
  · next h =>
    have hk := skOk_iff.mp h
    have h1 := (dg9 hk.cnt.1 hk.cnt.2).2.2
    have h2 := (dg9 hk.sum.1 hk.sum.2).2.2
    have h3 := (dg9 hk.min.1 (by have := hk.min.2; omega)).2.2
    have h4 := (dg9 hk.max.1 (by have := hk.max.2; omega)).2.2
    simp only [List.length_append, List.length_cons, List.length_nil]
    omega
  · simp

theorem specSketchText_eq {s : SketchT} (h : SkLe small s) : spec_SketchText s.1 s.2.1 s.2.2.1 s.2.2.2.1 s.2.2.2.2.1 s.2.2.2.2.2.1 s.2.2.2.2.2.2 = some (skT s) := by
  unfold spec_SketchText
  rw [specSketchOk_eq h, Option.bind_some]
  unfold skT
  cases hq : skOk s with
  | false => rfl
  | true =>
    have hk := skOk_iff.mp hq
    obtain ⟨a1, _, a3⟩ := dg9 hk.cnt.1 hk.cnt.2
    obtain ⟨b1, _, b3⟩ := dg9 hk.sum.1 hk.sum.2
    obtain ⟨c1, _, c3⟩ := dg9 hk.min.1 (by have := hk.min.2; omega)
    obtain ⟨d1, _, d3⟩ := dg9 hk.max.1 (by have := hk.max.2; omega)
    simp only [Bool.not_true, cond_false, if_true, a1, b1, c1, d1, Option.bind_some, lit_one]
    rw [chk_dec (by omega), chk_dec (by simp only [List.length_append, List.length_cons, List.length_nil]; omega), chk_dec (by simp only [List.length_append, List.length_cons, List.length_nil]; omega), chk_dec (by simp only [List.length_append, List.length_cons, List.length_nil]; omega),
      chk_dec (by simp only [List.length_append, List.length_cons, List.length_nil]; omega), chk_dec (by simp only [List.length_append, List.length_cons, List.length_nil]; omega)]

theorem implSketchText_eq {s : SketchT} (h : SkLe small s) : impl_SketchText s.1 s.2.1 s.2.2.1 s.2.2.2.1 s.2.2.2.2.1 s.2.2.2.2.2.1 s.2.2.2.2.2.2 = some (skT s) := by
  unfold impl_SketchText
  rw [implSketchOk_eq h, Option.bind_some]
  unfold skT
  cases hq : skOk s with
  | false => rfl
  | true =>
    have hk := skOk_iff.mp hq
    obtain ⟨_, a1, a3⟩ := dg9 hk.cnt.1 hk.cnt.2
    obtain ⟨_, b1, b3⟩ := dg9 hk.sum.1 hk.sum.2
    obtain ⟨_, c1, c3⟩ := dg9 hk.min.1 (by have := hk.min.2; omega)
    obtain ⟨_, d1, d3⟩ := dg9 hk.max.1 (by have := hk.max.2; omega)
    simp only [Bool.not_true, cond_false, if_true, a1, b1, c1, d1, Option.bind_some, lit_one]
    rw [chk_dec (by omega), chk_dec (by simp only [List.length_append, List.length_cons, List.length_nil]; omega), chk_dec (by simp only [List.length_append, List.length_cons, List.length_nil]; omega), chk_dec (by simp only [List.length_append, List.length_cons, List.length_nil]; omega),
      chk_dec (by simp only [List.length_append, List.length_cons, List.length_nil]; omega), chk_dec (by simp only [List.length_append, List.length_cons, List.length_nil]; omega)]

/-! ### entries -/
def enT (e : EntryT) : List UInt8 := if enOk e then dg e.1 ++ [47] ++ dg e.2.1 ++ [32] ++ setT e.2.2.1 ++ [32] ++ skT e.2.2.2 else [63]

theorem enOk_facts {e : EntryT} (h : enOk e = true) : (0 ≤ e.1 ∧ e.1 ≤ 4) ∧ (0 ≤ e.2.1 ∧ e.2.1 ≤ 20) ∧ setOk e.2.2.1 = true := by
  simp only [enOk, Bool.and_eq_true, inR_iff] at h
  exact ⟨h.1.1.1.1, h.1.1.1.2, h.1.2⟩

theorem enT_le {e : EntryT} (h : EnLe small e) : (enT e).length ≤ 50000000 := by
  unfold enT
  split
  · next hq =>
    obtain ⟨f1, f2, f3⟩ := enOk_facts hq
    have a3 := (dg9 f1.1 (by omega)).2.2
    have b3 := (dg9 f2.1 (by omega)).2.2
    have c3 := setT_le (setOk_mem f3)
    have d3 := skT_le e.2.2.2
    have hl : e.2.2.1.length ≤ 1048576 := h.1
    simp only [List.length_append, List.length_cons, List.length_nil]
    omega
  · simp

theorem specEntryText_eq {e : EntryT} (h : EnLe small e) : spec_EntryText e.1 e.2.1 e.2.2.1 e.2.2.2.1 e.2.2.2.2.1 e.2.2.2.2.2.1 e.2.2.2.2.2.2.1 e.2.2.2.2.2.2.2.1 e.2.2.2.2.2.2.2.2.1 e.2.2.2.2.2.2.2.2.2 = some (enT e) := by
  have hle := enT_le h
  unfold spec_EntryText
  rw [specEntryOk_eq h, Option.bind_some]
  unfold enT at hle ⊢
  cases hq : enOk e with
  | false => rfl
  | true =>
    obtain ⟨f1, f2, f3⟩ := enOk_facts hq
    have a1 := (dg9 f1.1 (by omega)).1
    have b1 := (dg9 f2.1 (by omega)).1
    rw [hq] at hle
    simp only [if_true, List.length_append, List.length_cons, List.length_nil] at hle
    simp only [Bool.not_true, cond_false, if_true, a1, b1, specSetText_eq h.1 (setOk_mem f3), specSketchText_eq h.2, Option.bind_some, lit_one]
    rw [chk_dec (by omega), chk_dec (by simp only [List.length_append, List.length_cons, List.length_nil]; omega), chk_dec (by simp only [List.length_append, List.length_cons, List.length_nil]; omega), chk_dec (by simp only [List.length_append, List.length_cons, List.length_nil]; omega),
      chk_dec (by simp only [List.length_append, List.length_cons, List.length_nil]; omega), chk_dec (by simp only [List.length_append, List.length_cons, List.length_nil]; omega)]

theorem implEntryText_eq {e : EntryT} (h : EnLe small e) : impl_EntryText e.1 e.2.1 e.2.2.1 e.2.2.2.1 e.2.2.2.2.1 e.2.2.2.2.2.1 e.2.2.2.2.2.2.1 e.2.2.2.2.2.2.2.1 e.2.2.2.2.2.2.2.2.1 e.2.2.2.2.2.2.2.2.2 = some (enT e) := by
  have hle := enT_le h
  unfold impl_EntryText
  rw [implEntryOk_eq h, Option.bind_some]
  unfold enT at hle ⊢
  cases hq : enOk e with
  | false => rfl
  | true =>
    obtain ⟨f1, f2, f3⟩ := enOk_facts hq
    have a1 := (dg9 f1.1 (by omega)).2.1
    have b1 := (dg9 f2.1 (by omega)).2.1
    rw [hq] at hle
    simp only [if_true, List.length_append, List.length_cons, List.length_nil] at hle
    simp only [Bool.not_true, cond_false, if_true, a1, b1, implSetText_eq h.1 (setOk_mem f3), implSketchText_eq h.2, Option.bind_some, lit_one]
    rw [chk_dec (by omega), chk_dec (by simp only [List.length_append, List.length_cons, List.length_nil]; omega), chk_dec (by simp only [List.length_append, List.length_cons, List.length_nil]; omega), chk_dec (by simp only [List.length_append, List.length_cons, List.length_nil]; omega),
      chk_dec (by simp only [List.length_append, List.length_cons, List.length_nil]; omega), chk_dec (by simp only [List.length_append, List.length_cons, List.length_nil]; omega)]

theorem entryText_true {e : EntryT} (h : EnLe big e) : laws_FnExactEntryText e.1 e.2.1 e.2.2.1 e.2.2.2.1 e.2.2.2.2.1 e.2.2.2.2.2.1 e.2.2.2.2.2.2.1 e.2.2.2.2.2.2.2.1 e.2.2.2.2.2.2.2.2.1 e.2.2.2.2.2.2.2.2.2 = some true := by
  unfold laws_FnExactEntryText
  obtain ⟨r, e1, e2⟩ := szEntry_is e 1048576 h (by omega) (by omega)
  dsimp only at e1
  rw [e1, Option.bind_some]
  rcases e2 with rfl | ⟨e2, e3, l1⟩
  · rfl
  rw [decide_eq_false (by omega), cond_false]
  simp only [toEntry_eq l1, Option.bind_some, specEntryText_eq l1, implEntryText_eq l1, lawsEqEntry_eq l1, beq_self_eq_true, decide_true, Bool.not_true, cond_false]

/-! ### outs -/
def ouT (o : OutT) : List UInt8 := [35] ++ dg o.1 ++ [32] ++ enT o.2
def i64In (n : Int) : Prop := -9223372036854775808 ≤ n ∧ n ≤ 9223372036854775807

theorem specOutText_eq {o : OutT} (h : EnLe small o.2) (hg : i64In o.1) : spec_OutText o.1 o.2.1 o.2.2.1 o.2.2.2.1 o.2.2.2.2.1 o.2.2.2.2.2.1 o.2.2.2.2.2.2.1 o.2.2.2.2.2.2.2.1 o.2.2.2.2.2.2.2.2.1 o.2.2.2.2.2.2.2.2.2.1 o.2.2.2.2.2.2.2.2.2.2 = some (ouT o) := by
  have h1 := enT_le h
  have h2 := dg_leA hg.1 hg.2
  unfold spec_OutText ouT
  simp only [specDigits_all hg.1 hg.2, specEntryText_eq h, Option.bind_some, lit_one]
  rw [chk_dec (by omega), chk_dec (by simp only [List.length_append, List.length_cons, List.length_nil]; omega), chk_dec (by simp only [List.length_append, List.length_cons, List.length_nil]; omega)]

theorem implOutText_eq {o : OutT} (h : EnLe small o.2) (hg : i64In o.1) : impl_OutText o.1 o.2.1 o.2.2.1 o.2.2.2.1 o.2.2.2.2.1 o.2.2.2.2.2.1 o.2.2.2.2.2.2.1 o.2.2.2.2.2.2.2.1 o.2.2.2.2.2.2.2.2.1 o.2.2.2.2.2.2.2.2.2.1 o.2.2.2.2.2.2.2.2.2.2 = some (ouT o) := by
  have h1 := enT_le h
  have h2 := dg_leA hg.1 hg.2
  unfold impl_OutText ouT
  simp only [implDigits_all hg.1 hg.2, implEntryText_eq h, Option.bind_some, lit_one]
  rw [chk_dec (by omega), chk_dec (by simp only [List.length_append, List.length_cons, List.length_nil]; omega), chk_dec (by simp only [List.length_append, List.length_cons, List.length_nil]; omega)]

theorem outText_true {o : OutT} (h : EnLe big o.2) (hg : i64In o.1) : laws_FnExactOutText o.1 o.2.1 o.2.2.1 o.2.2.2.1 o.2.2.2.2.1 o.2.2.2.2.2.1 o.2.2.2.2.2.2.1 o.2.2.2.2.2.2.2.1 o.2.2.2.2.2.2.2.2.1 o.2.2.2.2.2.2.2.2.2.1 o.2.2.2.2.2.2.2.2.2.2 = some true := by
  unfold laws_FnExactOutText
  obtain ⟨r, e1, e2⟩ := szOut_is o 1048576 h (by omega) (by omega)
  dsimp only at e1
  rw [e1, Option.bind_some]
  rcases e2 with rfl | ⟨e2, e3, l1⟩
  · rfl
  rw [decide_eq_false (by omega), cond_false]
  simp only [toOut_eq l1, Option.bind_some, specOutText_eq l1 hg, implOutText_eq l1 hg, lawsEqOut_eq l1, beq_self_eq_true, decide_true, Bool.not_true, cond_false]

theorem i64_of_wf {n : Int} (h : Wf kI n) : i64In n := by
  have h : (Lit.int .i64 n).wf = true := h
  simp only [Lit.wf, IntKind.min, IntKind.max, IntKind.signed, IntKind.bits, Bool.and_eq_true, decide_eq_true_eq, if_true] at h
  unfold i64In
  omega

end Go.Proofs.YtcdkpfcfcjnooaaDoor.Tw
