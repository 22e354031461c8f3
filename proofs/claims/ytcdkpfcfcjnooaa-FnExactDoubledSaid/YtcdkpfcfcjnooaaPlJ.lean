/- Plain: numbers of sets, counted; FnExactDoubled. No condition: lemmas. -/
import Derived.Test.YtcdkpfcfcjnooaaPlH
namespace Go.Proofs.Ytcdkpfcfcjnooaa.Tw
open Go.Mach
set_option linter.unusedVariables false
set_option maxRecDepth 20000

/-! ### sets in order -/
def Srt (b : Int) : List SpanT → Prop
  | [] => True
  | x :: r => b ≤ x.1 ∧ x.1 ≤ x.2 ∧ x.2 ≤ 9999 ∧ Srt (x.2 + 2) r

theorem setOk_srt {l : List SpanT} (h : setOk l = true) : Srt 0 l := by
  have hall : ∀ i, i < l.length → spanOk l i = true := by simpa [setOk] using h
  have key : ∀ (n i : Nat) (b : Int), l.length - i = n → i ≤ l.length → (i = 0 → b = 0) → (0 < i → b = (l.getD (i - 1) (0, 0)).2 + 2) → Srt b (l.drop i) := by
    intro n
    induction n with
    | zero =>
      intro i b hn hi _ _
      rw [List.drop_of_length_le (by omega)]
      trivial
    | succ n ih =>
      intro i b hn hi h0 h1
      have hil : i < l.length := by omega
      rw [getD_drop l i (0, 0) hil]
      have hs := hall i hil
      simp only [spanOk, Bool.and_eq_true, inR_iff, Bool.not_eq_true', Bool.and_eq_false_iff, decide_eq_false_iff_not] at hs
      obtain ⟨q1, q2, q3⟩ := hs
      refine ⟨?_, q2.1, q2.2, ih (i + 1) _ (by omega) (by omega) (by omega) (fun _ => by simp)⟩
      by_cases hz : i = 0
      · rw [h0 hz]; exact q1.1
      · have hp := hall (i - 1) (by omega)
        simp only [spanOk, Bool.and_eq_true, inR_iff] at hp
        rw [h1 (by omega)]
        rcases q3 with q3 | q3
        · omega
        · rw [wrap_i64 (by omega) (by omega)] at q3
          omega
  exact key l.length 0 0 (by omega) (Nat.zero_le _) (fun _ => rfl) (fun h => by omega)

theorem Srt.mono {b b' : Int} : ∀ {l : List SpanT}, b' ≤ b → Srt b l → Srt b' l
  | [], _, _ => trivial
  | x :: r, h, hs => ⟨by have := hs.1; omega, hs.2.1, hs.2.2.1, hs.2.2.2⟩

theorem Srt.take {b : Int} : ∀ {l : List SpanT} (i : Nat), Srt b l → Srt b (l.take i)
  | [], i, _ => by simp [Srt]
  | x :: r, 0, _ => trivial
  | x :: r, i + 1, h => ⟨h.1, h.2.1, h.2.2.1, h.2.2.2.take i⟩

def spanMem (x : SpanT) (k : Nat) : List Int := (List.range k).map fun (j : Nat) => x.1 + (j : Int)
def width (x : SpanT) : Nat := (x.2 - x.1 + 1).toNat
def mem : List SpanT → List Int
  | [] => []
  | x :: r => spanMem x (width x) ++ mem r

theorem mem_append (a b : List SpanT) : mem (a ++ b) = mem a ++ mem b := by
  induction a with
  | nil => rfl
  | cons x r ih => simp [mem, ih]

theorem mem_length : ∀ {l : List SpanT} {b : Int}, 0 ≤ b → Srt b l → ((mem l).length : Int) ≤ 10000 - b ∨ l = []
  | [], b, _, _ => .inr rfl
  | x :: r, b, h, hs => by
    left
    obtain ⟨h1, h2, h3, h4⟩ := hs
    simp only [mem, List.length_append, spanMem, List.length_map, List.length_range, width]
    rcases mem_length (b := x.2 + 2) (by omega) h4 with q | rfl
    · omega
    · simp only [mem, List.length_nil]; omega

theorem mem_short {l : List SpanT} (hs : Srt 0 l) : (mem l).length ≤ 10000 := by
  rcases mem_length (by omega) hs with q | rfl
  · omega
  · simp [mem]

theorem spanMem_bd {x : SpanT} {n : Int} (h : n ∈ spanMem x (width x)) : x.1 ≤ n ∧ n ≤ x.2 := by
  simp only [spanMem, List.mem_map, List.mem_range, width] at h
  obtain ⟨j, hj, rfl⟩ := h
  omega

theorem mem_bd : ∀ {l : List SpanT} {b n : Int}, Srt b l → n ∈ mem l → b ≤ n ∧ n ≤ 9999
  | [], b, n, _, h => by simp [mem] at h
  | x :: r, b, n, hs, h => by
    obtain ⟨h1, h2, h3, h4⟩ := hs
    simp only [mem, List.mem_append] at h
    rcases h with h | h
    · have := spanMem_bd h; omega
    · have := mem_bd h4 h; omega

theorem spanMem_count (x : SpanT) (n : Int) : ∀ k, (spanMem x k).count n = if x.1 ≤ n ∧ n < x.1 + k then 1 else 0
  | 0 => by
    have : ¬ (x.1 ≤ n ∧ n < x.1 + ((0 : Nat) : Int)) := by omega
    rw [if_neg this]; simp [spanMem]
  | k + 1 => by
    have ih := spanMem_count x n k
    have : spanMem x (k + 1) = spanMem x k ++ [x.1 + (k : Int)] := by simp [spanMem, List.range_succ]
    rw [this, List.count_append, ih, List.count_singleton]
    by_cases h : x.1 + (k : Int) = n
    · have h1 : ¬ (x.1 ≤ n ∧ n < x.1 + (k : Int)) := by omega
      have h2 : x.1 ≤ n ∧ n < x.1 + ((k + 1 : Nat) : Int) := by omega
      rw [if_neg h1, if_pos h2]
      simp [h]
    · have hb : (x.1 + (k : Int) == n) = false := by simpa using h
      rw [hb]
      by_cases h1 : x.1 ≤ n ∧ n < x.1 + (k : Int)
      · have h2 : x.1 ≤ n ∧ n < x.1 + ((k + 1 : Nat) : Int) := by omega
        rw [if_pos h1, if_pos h2]; simp
      · have h2 : ¬ (x.1 ≤ n ∧ n < x.1 + ((k + 1 : Nat) : Int)) := by omega
        rw [if_neg h1, if_neg h2]; simp

def has (l : List SpanT) (n : Int) : Bool := l.any fun x => inR n x.1 x.2

theorem mem_count : ∀ {l : List SpanT} {b n : Int}, Srt b l → (mem l).count n = if has l n then 1 else 0
  | [], b, n, _ => by simp [mem, has]
  | x :: r, b, n, hs => by
    obtain ⟨h1, h2, h3, h4⟩ := hs
    simp only [mem, List.count_append, spanMem_count, mem_count h4]
    have hw : ((width x : Nat) : Int) = x.2 - x.1 + 1 := by unfold width; omega
    cases hx : inR n x.1 x.2 with
    | true =>
      have hx' := inR_iff.1 hx
      have h0 : x.1 ≤ n ∧ n < x.1 + ((width x : Nat) : Int) := by omega
      have hno : has r n = false := by
        cases hq : has r n with
        | false => rfl
        | true =>
          exfalso
          have hc := mem_count (n := n) h4
          rw [hq, if_pos rfl] at hc
          have hm : n ∈ mem r := List.count_pos_iff.1 (by omega)
          have := mem_bd h4 hm
          omega
      have hh : has (x :: r) n = true := by simp [has, hx]
      rw [if_pos h0, hno, hh]
      rfl
    | false =>
      have hx' : ¬ (x.1 ≤ n ∧ n ≤ x.2) := fun q => by rw [inR_iff.2 q] at hx; simp at hx
      have h0 : ¬ (x.1 ≤ n ∧ n < x.1 + ((width x : Nat) : Int)) := by omega
      have hh : has (x :: r) n = has r n := by simp [has, hx]
      rw [if_neg h0, hh, Nat.zero_add]

/-! ### the program's and the paper's words -/
theorem setHas_eq {l : List SpanT} {n : Int} (hl : l.length ≤ 1048576) : spec_SetHas l n = some (has l n) := by
  unfold spec_SetHas has
  have : spec_SetHas_l26 l n 0 = some (bif l.all (fun x => !inR n x.1 x.2) then .inr () else .inl true) := by
    rw [← all_range_all (0, 0) (fun x => !inR n x.1 x.2) l]
    refine walkB (S := fun d => spec_SetHas_s26 d.1 d.2.1 d.2.2) (fun i => (l, n, (i : Int))) hl (fun i => (fun x : SpanT => !inR n x.1 x.2) (l.getD i (0, 0))) (fun i hi => ?_) ?_
    · have h0 : (0 : Int) ≤ (i : Int) := by omega
      simp only [spec_SetHas_s26, Int.toNat_natCast, wrap_nat (show i ≤ 1048576 by omega), l1In_eq]
      rw [decide_eq_true (by omega : (i : Int) < l.length), cond_true]
      simp only [chk_dec h0, chk_dec hi, Option.bind_some]
      cases inR n (l.getD i (0, 0)).1 (l.getD i (0, 0)).2 <;> rfl
    · simp only [spec_SetHas_s26]
      rw [decide_eq_false (by omega), cond_false]
  rw [this]
  have hq : (l.any fun x => inR n x.1 x.2) = !(l.all fun x => !inR n x.1 x.2) := by simp [List.all_eq_not_any_not]
  rw [hq]
  cases l.all (fun x => !inR n x.1 x.2) <;> rfl

theorem members_eq {l : List SpanT} (hl : l.length ≤ 1048576) (hs : Srt 0 l) : impl_members l = some (((), (), ()), mem l) := by
  unfold impl_members
  have hspan : ∀ i, i < l.length → ∃ b, 0 ≤ b ∧ b ≤ (l.getD i (0, 0)).1 ∧ (l.getD i (0, 0)).1 ≤ (l.getD i (0, 0)).2 ∧ (l.getD i (0, 0)).2 ≤ 9999 := by
    have : ∀ {l : List SpanT} {b : Int} (i : Nat), 0 ≤ b → Srt b l → i < l.length → ∃ b, 0 ≤ b ∧ b ≤ (l.getD i (0, 0)).1 ∧ (l.getD i (0, 0)).1 ≤ (l.getD i (0, 0)).2 ∧ (l.getD i (0, 0)).2 ≤ 9999 := by
      intro l
      induction l with
      | nil => intro b i _ _ h; simp at h
      | cons x r ih =>
        intro b i hb h hi
        cases i with
        | zero => exact ⟨b, hb, h.1, h.2.1, h.2.2.1⟩
        | succ i => exact ih i (b := x.2 + 2) (by have := h.1; have := h.2.1; omega) h.2.2.2 (by simpa using hi)
    exact fun i hi => this i (by omega) hs hi
  have htake : ∀ i, i < l.length → mem (l.take (i + 1)) = mem (l.take i) ++ spanMem (l.getD i (0, 0)) (width (l.getD i (0, 0))) := by
    intro i hi
    rw [List.take_succ_eq_append_getElem hi, mem_append]
    simp [mem, List.getD_eq_getElem?_getD, List.getElem?_eq_getElem hi]
  have hin : ∀ i, i < l.length → impl_members_l14950 (mem (l.take i)) (l.getD i (0, 0)).1 (l.getD i (0, 0)).2 (l.getD i (0, 0)).1 l l.length (i : Int) = some (mem (l.take (i + 1)), l, (l.length : Int), (i : Int)) := by
    intro i hi
    obtain ⟨b, b1, b2, b3, b4⟩ := hspan i hi
    have hm := mem_short (hs.take i)
    have hw : ((width (l.getD i (0, 0)) : Nat) : Int) = (l.getD i (0, 0)).2 - (l.getD i (0, 0)).1 + 1 := by unfold width; omega
    rw [htake i hi]
    generalize l.getD i (0, 0) = x at *
    refine Eq.trans ?_ (det_run (S := fun d => impl_members_s14950 d.1 d.2.1.1 d.2.1.2 d.2.2.1 d.2.2.2.1 d.2.2.2.2.1 d.2.2.2.2.2) (n := width x) (fun k => (mem (l.take i) ++ spanMem x k, (x.1, x.2), x.1 + (k : Int), l, (l.length : Int), (i : Int))) (by omega)
      (t := (mem (l.take i) ++ spanMem x (width x), l, (l.length : Int), (i : Int))) (fun k hk => ?_) ?_)
    · simp [impl_members_l14950, spanMem]
    · simp only [impl_members_s14950]
      rw [decide_eq_true (by omega : x.1 + (k : Int) ≤ x.2), cond_true, fits8 (by simp [spanMem]; omega), chk_tt, wrap_i64 (by omega) (by omega)]
      have e1 : mem (l.take i) ++ spanMem x k ++ [x.1 + (k : Int)] = mem (l.take i) ++ spanMem x (k + 1) := by simp [spanMem, List.range_succ]
      have e2 : x.1 + (k : Int) + 1 = x.1 + ((k + 1 : Nat) : Int) := by omega
      rw [e1, e2]
    · simp only [impl_members_s14950]
      rw [decide_eq_false (by omega), cond_false]
  have : impl_members_l58 [] l l.length 0 = some (mem l) := by
    refine Eq.trans ?_ (det_run (S := fun d => impl_members_s58 d.1 d.2.1 d.2.2.1 d.2.2.2) (fun i => (mem (l.take i), l, (l.length : Int), (i : Int))) hl (t := mem l) (fun i hi => ?_) ?_)
    · simp [impl_members_l58, mem]
    · have h0 : (0 : Int) ≤ (i : Int) := by omega
      simp only [impl_members_s58, Int.toNat_natCast]
      rw [decide_eq_true (by omega : (i : Int) < l.length), cond_true]
      simp only [chk_dec h0, chk_dec hi]
      rw [hin i hi]
      simp only [Option.bind_some, wrap_nat (show i ≤ 1048576 by omega)]
    · simp only [impl_members_s58]
      rw [decide_eq_false (by omega), cond_false, List.take_length]
  rw [this]
  rfl

/-! ### times -/
def tof (c : Nat → Nat) : List Int := (List.range 10000).map fun i => (c i : Int)

theorem tof_length (c : Nat → Nat) : (tof c).length = 10000 := by simp [tof]

theorem tof_get (c : Nat → Nat) {i : Nat} (h : i < 10000) : (tof c).getD i 0 = (c i : Int) := by
  simp [tof, List.getD_eq_getElem?_getD, List.getElem?_map, List.getElem?_range, h]

theorem tof_set {c c' : Nat → Nat} {m : Nat} {v : Int} (hm : m < 10000) (hv : v = (c' m : Int)) (hc : ∀ i, i ≠ m → c' i = c i) : (tof c).set m v = tof c' := by
  apply List.ext_getElem?
  intro i
  by_cases hi : m = i
  · subst hi
    rw [List.getElem?_set_self (by rw [tof_length]; exact hm)]
    simp [tof, List.getElem?_map, List.getElem?_range, hm, hv]
  · rw [List.getElem?_set_ne hi]
    simp only [tof, List.getElem?_map]
    by_cases hl : i < 10000
    · rw [List.getElem?_range hl]; simp [hc i (Ne.symm hi)]
    · rw [List.getElem?_eq_none (by simp; omega)]; rfl

abbrev oids (o : OutT) : List SpanT := o.2.2.2.1
def cntO (l : List OutT) (n : Nat) : Nat := l.countP fun o => has (oids o) (n : Int)

theorem cntO_le (l : List OutT) (n : Nat) : cntO l n ≤ l.length := List.countP_le_length

theorem cntO_succ {l : List OutT} {i : Nat} (hi : i < l.length) (n : Nat) : cntO (l.take (i + 1)) n = cntO (l.take i) n + (if has (oids (l.getD i out0)) (n : Int) then 1 else 0) := by
  unfold cntO
  rw [List.take_succ_eq_append_getElem hi, List.countP_append]
  simp [List.getD_eq_getElem?_getD, List.getElem?_eq_getElem hi]

def accD (c : Nat → Nat) (i : Nat) : Nat := (List.range i).countP fun n => decide (c n > 1)

theorem accD_succ (c : Nat → Nat) (i : Nat) : accD c (i + 1) = accD c i + (if c i > 1 then 1 else 0) := by
  unfold accD
  rw [List.range_succ, List.countP_append]
  simp

theorem accD_le (c : Nat → Nat) (i : Nat) : accD c i ≤ i := by
  unfold accD
  refine Nat.le_trans List.countP_le_length ?_
  simp

theorem outsOk_srt {l : List OutT} (h : outsOk l = true) : ∀ i, i < l.length → Srt 0 (oids (l.getD i out0)) := by
  intro i hi
  unfold outsOk at h
  rw [List.all_eq_true] at h
  have := h _ (getD_mem (d := out0) hi)
  simp only [outOk, enOk, Bool.and_eq_true] at this
  exact setOk_srt this.2.1.2

def doubled (l : List OutT) : Int := bif outsOk l then (accD (cntO l) 10000 : Int) else 0

theorem implDoubled_eq {l : List OutT} (hl : l.length ≤ 1048576) (hr : ∀ o ∈ l, EnLe small o.2) : impl_Doubled l = some (doubled l) := by
  unfold impl_Doubled doubled
  rw [implOutsOk_eq hl hr, Option.bind_some]
  cases hok : outsOk l with
  | false => rfl
  | true =>
    have hsrt := outsOk_srt hok
    simp only [Bool.not_true, cond_false, cond_true]
    have hin : ∀ i, i < l.length → impl_Doubled_l31334 (tof (cntO (l.take i))) l l.length (i : Int) (mem (oids (l.getD i out0))) ((mem (oids (l.getD i out0))).length : Int) 0 = some (tof (cntO (l.take (i + 1))), l, (l.length : Int), (i : Int)) := by
      intro i hi
      have hs := hsrt i hi
      have hms := mem_short hs
      have hfin : cntO (l.take (i + 1)) = fun n => cntO (l.take i) n + (mem (oids (l.getD i out0))).count (n : Int) := by
        funext n
        rw [cntO_succ hi, mem_count hs]
      rw [hfin]
      generalize hmm : mem (oids (l.getD i out0)) = ms at hms
      have hbd : ∀ k, k < ms.length → 0 ≤ ms.getD k 0 ∧ ms.getD k 0 ≤ 9999 := by
        intro k hk
        have := mem_bd (n := ms.getD k 0) hs (by rw [hmm]; exact getD_mem hk)
        exact this
      have hcl : (l.take i).length ≤ 1048576 := by rw [List.length_take]; omega
      refine Eq.trans ?_ (det_run (S := fun d => impl_Doubled_s31334 d.1 d.2.1 d.2.2.1 d.2.2.2.1 d.2.2.2.2.1 d.2.2.2.2.2.1 d.2.2.2.2.2.2) (n := ms.length)
        (fun k => (tof (fun n => cntO (l.take i) n + (ms.take k).count (n : Int)), l, (l.length : Int), (i : Int), ms, (ms.length : Int), (k : Int))) (by omega)
        (t := (tof (fun n => cntO (l.take i) n + ms.count (n : Int)), l, (l.length : Int), (i : Int))) (fun k hk => ?_) ?_)
      · simp [impl_Doubled_l31334]
      · obtain ⟨b1, b2⟩ := hbd k hk
        have h0 : (0 : Int) ≤ (k : Int) := by omega
        have hlt : (ms.getD k 0).toNat < (tof (fun n => cntO (l.take i) n + (ms.take k).count (n : Int))).length := by rw [tof_length]; omega
        have hm : (ms.getD k 0).toNat < 10000 := by omega
        simp only [impl_Doubled_s31334, Int.toNat_natCast, wrap_nat (show k ≤ 1048576 by omega)]
        rw [decide_eq_true (by omega : (k : Int) < ms.length), cond_true]
        simp only [chk_dec h0, chk_dec hk, chk_dec b1, chk_dec hlt]
        rw [tof_get _ hm]
        have hcle := cntO_le (l.take i) (ms.getD k 0).toNat
        have hcount : (ms.take k).count (((ms.getD k 0).toNat : Nat) : Int) ≤ k := by
          refine Nat.le_trans List.count_le_length ?_
          rw [List.length_take]; omega
        rw [wrap_i64 (by omega) (by omega)]
        have hset := tof_set (c := fun n => cntO (l.take i) n + (ms.take k).count (n : Int)) (c' := fun n => cntO (l.take i) n + (ms.take (k + 1)).count (n : Int)) (m := (ms.getD k 0).toNat)
          (v := ((cntO (l.take i) (ms.getD k 0).toNat + (ms.take k).count (((ms.getD k 0).toNat : Nat) : Int) : Nat) : Int) + 1) hm (by
            have : (ms.take (k + 1)).count (((ms.getD k 0).toNat : Nat) : Int) = (ms.take k).count (((ms.getD k 0).toNat : Nat) : Int) + 1 := by
              have hv : (((ms.getD k 0).toNat : Nat) : Int) = ms.getD k 0 := by omega
              rw [hv, List.take_succ_eq_append_getElem hk, List.count_append]
              simp [List.getD_eq_getElem?_getD, List.getElem?_eq_getElem hk]
            omega) (fun n hn => by
            have : (ms.take (k + 1)).count (n : Int) = (ms.take k).count (n : Int) := by
              rw [List.take_succ_eq_append_getElem hk, List.count_append, List.count_singleton]
              have : (ms[k] == (n : Int)) = false := by
                have hg : ms.getD k 0 = ms[k] := by simp [List.getD_eq_getElem?_getD, List.getElem?_eq_getElem hk]
                rw [hg] at hn
                have hb : 0 ≤ ms[k] := by rw [← hg]; exact b1
                simp only [beq_eq_false_iff_ne]
                omega
              rw [this]; simp
            simp only [this])
        rw [hset]
      · simp only [impl_Doubled_s31334]
        rw [decide_eq_false (by omega), cond_false, List.take_length]
    have h1 : impl_Doubled_l122 (List.replicate 10000 0) l l.length 0 = some (tof (cntO l)) := by
      refine Eq.trans ?_ (det_run (S := fun d => impl_Doubled_s122 d.1 d.2.1 d.2.2.1 d.2.2.2) (fun i => (tof (cntO (l.take i)), l, (l.length : Int), (i : Int))) hl (t := tof (cntO l)) (fun i hi => ?_) ?_)
      · have : tof (cntO (l.take 0)) = List.replicate 10000 0 := by
          apply List.ext_getElem?
          intro i
          simp only [tof, cntO, List.take_zero, List.countP_nil, List.getElem?_map, List.getElem?_replicate]
          by_cases hl : i < 10000
          · rw [List.getElem?_range hl, if_pos hl]; rfl
          · rw [List.getElem?_eq_none (by simp; omega), if_neg hl]; rfl
        rw [this]; rfl
      · have h0 : (0 : Int) ≤ (i : Int) := by omega
        have hml := (hr _ (getD_mem (d := out0) hi)).1
        simp only [impl_Doubled_s122, Int.toNat_natCast]
        rw [decide_eq_true (by omega : (i : Int) < l.length), cond_true]
        simp only [chk_dec h0, chk_dec hi]
        rw [members_eq hml (hsrt i hi)]
        simp only [Option.bind_some]
        rw [hin i hi]
        simp only [Option.bind_some, wrap_nat (show i ≤ 1048576 by omega)]
      · simp only [impl_Doubled_s122]
        rw [decide_eq_false (by omega), cond_false, List.take_length]
    have h2 : impl_Doubled_l506 (tof (cntO l)) 0 ((tof (cntO l)).length : Int) 0 = some (accD (cntO l) 10000 : Int) := by
      refine Eq.trans ?_ (det_run (S := fun d => impl_Doubled_s506 d.1 d.2.1 d.2.2.2.1 d.2.2.2.2) (n := 10000) (fun i => (tof (cntO l), ((accD (cntO l) i : Nat) : Int), ((), (), ()), (10000 : Int), (i : Int))) (by omega) (t := (accD (cntO l) 10000 : Int)) (fun i hi => ?_) ?_)
      · rw [tof_length]; rfl
      · have h0 : (0 : Int) ≤ (i : Int) := by omega
        have hlt : i < (tof (cntO l)).length := by rw [tof_length]; exact hi
        have hle := accD_le (cntO l) i
        simp only [impl_Doubled_s506, Int.toNat_natCast, wrap_nat (show i ≤ 1048576 by omega), tof_get _ hi]
        rw [decide_eq_true (by omega : (i : Int) < 10000), cond_true]
        simp only [chk_dec h0, chk_dec hlt, accD_succ]
        by_cases hc : cntO l i > 1
        · rw [decide_eq_true (by omega : ((cntO l i : Nat) : Int) > 1), cond_true, if_pos hc, wrap_i64 (by omega) (by omega)]
          rfl
        · rw [decide_eq_false (by omega : ¬ ((cntO l i : Nat) : Int) > 1), cond_false, if_neg hc]
          simp
      · simp only [impl_Doubled_s506]
        rw [decide_eq_false (by omega), cond_false]
    rw [h1, Option.bind_some, h2]
    rfl

theorem specDoubled_eq {l : List OutT} (hl : l.length ≤ 1048576) (hr : ∀ o ∈ l, EnLe small o.2) : spec_Doubled l = some (doubled l) := by
  unfold spec_Doubled doubled
  rw [specOutsOk_eq hl hr, Option.bind_some]
  cases hok : outsOk l with
  | false => rfl
  | true =>
    simp only [Bool.not_true, cond_false, cond_true]
    have hin : ∀ (a : Int) (n : Nat), spec_Doubled_l31306 l a (n : Int) 0 0 = some (l, a, (n : Int), ((cntO l n : Nat) : Int)) := by
      intro a n
      refine Eq.trans ?_ (det_run (S := fun d => spec_Doubled_s31306 d.1 d.2.1 d.2.2.1 d.2.2.2.1 d.2.2.2.2) (fun i => (l, a, (n : Int), ((cntO (l.take i) n : Nat) : Int), (i : Int))) hl (t := (l, a, (n : Int), ((cntO l n : Nat) : Int))) (fun i hi => ?_) ?_)
      · simp [spec_Doubled_l31306, cntO]
      · have h0 : (0 : Int) ≤ (i : Int) := by omega
        have hml := (hr _ (getD_mem (d := out0) hi)).1
        have hle := cntO_le (l.take i) n
        rw [List.length_take] at hle
        simp only [spec_Doubled_s31306, Int.toNat_natCast, wrap_nat (show i ≤ 1048576 by omega)]
        rw [decide_eq_true (by omega : (i : Int) < l.length), cond_true]
        simp only [chk_dec h0, chk_dec hi]
        rw [setHas_eq hml]
        simp only [Option.bind_some, spec_l1Bit, cntO_succ hi]
        cases has (oids (l.getD i out0)) (n : Int)
        · simp only [cond_false, Option.bind_some, Bool.false_eq_true, if_false]
          rw [wrap_i64 (by omega) (by omega)]
          simp
        · simp only [cond_true, Option.bind_some, if_true]
          rw [wrap_i64 (by omega) (by omega)]
          rfl
      · simp only [spec_Doubled_s31306]
        rw [decide_eq_false (by omega), cond_false, List.take_length]
    have : spec_Doubled_l122 l 0 0 = some (accD (cntO l) 10000 : Int) := by
      refine Eq.trans ?_ (det_run (S := fun d => spec_Doubled_s122 d.1 d.2.1 d.2.2) (n := 10000) (fun i => (l, ((accD (cntO l) i : Nat) : Int), (i : Int))) (by omega) (t := (accD (cntO l) 10000 : Int)) (fun i hi => ?_) ?_)
      · rfl
      · have hle := accD_le (cntO l) i
        simp only [spec_Doubled_s122]
        rw [decide_eq_true (by omega : (i : Int) ≤ 9999), cond_true, hin]
        simp only [Option.bind_some, spec_l1Bit, wrap_nat (show i ≤ 1048576 by omega), accD_succ]
        by_cases hc : cntO l i > 1
        · rw [decide_eq_true (by omega : ((cntO l i : Nat) : Int) > 1), cond_true, if_pos hc, Option.bind_some, wrap_i64 (by omega) (by omega)]
          rfl
        · rw [decide_eq_false (by omega : ¬ ((cntO l i : Nat) : Int) > 1), cond_false, if_neg hc, Option.bind_some, wrap_i64 (by omega) (by omega)]
          simp
      · simp only [spec_Doubled_s122]
        rfl
    rw [this]
    rfl

theorem doubled_true {a : List OutT} (ha : a.length ≤ big ∧ ∀ o ∈ a, EnLe big o.2) : laws_FnExactDoubled a = some true := by
  unfold laws_FnExactDoubled
  obtain ⟨r, e1, e2⟩ := szOutS_is a 1048576 ha (by omega) (by omega)
  rw [e1, Option.bind_some]
  rcases e2 with rfl | ⟨e2, e3, l1, l2⟩
  · rfl
  rw [decide_eq_false (by omega), cond_false]
  simp only [toOutS_eq l1 l2, Option.bind_some, specDoubled_eq l1 l2, implDoubled_eq l1 l2, lawsEqOutS_eq l1 l2]
  simp

end Go.Proofs.Ytcdkpfcfcjnooaa.Tw
