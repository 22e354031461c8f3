/- Plain: what was written as a deed's text is read as it was. No condition: lemmas. -/
import Derived.Test.YtmlbgldofgobnaaDoorDs
namespace Go.Mach
open Go.Lib
set_option linter.unusedVariables false
set_option linter.unusedSimpArgs false

/-! ### texts that were put together -/
theorem cutA_free (c : UInt8) : ∀ (x p r : List UInt8), c ∉ x → cutA c p (x ++ r) = cutA c (p ++ x) r
  | [], p, r, _ => by simp
  | b :: x, p, r, h => by
    have hb : b ≠ c := fun q => h (by simp [q])
    have hx : c ∉ x := fun q => h (by simp [q])
    simp only [List.cons_append, cutA, hb, if_false]
    rw [cutA_free c x (p ++ [b]) r hx, List.append_assoc]
    rfl
theorem cutA_at (c : UInt8) (p r : List UInt8) : cutA c p (c :: r) = p :: cutA c [] r := by simp [cutA]
theorem cutA_tail (c : UInt8) : ∀ (r : List (List UInt8)) (p : List UInt8), (∀ x ∈ r, c ∉ x) → cutA c p (joinTail [c] r) = p :: r
  | [], p, _ => by simp [joinTail, cutA]
  | y :: r, p, h => by
    have e : joinTail [c] (y :: r) = c :: (y ++ joinTail [c] r) := by simp [joinTail]
    rw [e, cutA_at, cutA_free c y [] _ (h y (by simp)), List.nil_append, cutA_tail c r y fun x hx => h x (by simp [hx])]
theorem cutA_join (c : UInt8) {l : List (List UInt8)} (hl : l ≠ []) (h : ∀ x ∈ l, c ∉ x) : cutA c [] (jn l [c]) = l := by
  cases l with
  | nil => exact absurd rfl hl
  | cons x r =>
    rw [jn, Lib.join_cons, cutA_free c x [] _ (h x (by simp)), List.nil_append, cutA_tail c r x fun y hy => h y (by simp [hy])]
theorem cutA_lines (c : UInt8) : ∀ (l : List (List UInt8)), (∀ x ∈ l, c ∉ x) → cutA c [] (l.flatMap fun x => x ++ [c]) = l ++ [[]]
  | [], _ => rfl
  | x :: l, h => by
    rw [List.flatMap_cons, List.append_assoc, cutA_free c x [] _ (h x (by simp)), List.nil_append, List.singleton_append, cutA_at, cutA_lines c l fun y hy => h y (by simp [hy])]
    rfl

/-! ### digits -/
def val (l : List UInt8) : Int := l.foldl (fun n b => 10 * n + ((b.toNat : Int) - 48)) 0
theorem val_snoc (l : List UInt8) (b : UInt8) : val (l ++ [b]) = 10 * val l + ((b.toNat : Int) - 48) := by simp [val]
def DgS (l : List UInt8) : Prop := ∀ b ∈ l, 48 ≤ b.toNat ∧ b.toNat ≤ 57
theorem dec_facts : ∀ (n u : Nat), u ≤ n → DgS (decDigits u) ∧ val (decDigits u) = u ∧ 1 ≤ (decDigits u).length
  | n, u, h => by
    by_cases h9 : u < 10
    · have e : decDigits u = [UInt8.ofNat (48 + u)] := by rw [decDigits.eq_def, dif_pos h9]
      have et : (UInt8.ofNat (48 + u)).toNat = 48 + u := by rw [UInt8.toNat_ofNat']; omega
      rw [e]
      refine ⟨fun b hb => ?_, ?_, by simp⟩
      · simp only [List.mem_singleton] at hb
        subst hb
        rw [et]; omega
      · simp only [val, List.foldl_cons, List.foldl_nil, et]; omega
    · have e : decDigits u = decDigits (u / 10) ++ [UInt8.ofNat (48 + u % 10)] := by rw [decDigits.eq_def, dif_neg h9]
      have et : (UInt8.ofNat (48 + u % 10)).toNat = 48 + u % 10 := by rw [UInt8.toNat_ofNat']; omega
      match n, h with
      | 0, h => omega
      | n + 1, h =>
        obtain ⟨g1, g2, g3⟩ := dec_facts n (u / 10) (by omega)
        rw [e]
        refine ⟨fun b hb => ?_, ?_, by simp⟩
        · simp only [List.mem_append, List.mem_singleton] at hb
          rcases hb with hb | rfl
          · exact g1 b hb
          · rw [et]; omega
        · rw [val_snoc, g2, et]; omega
theorem dec_len : ∀ (k u : Nat), u < 10 ^ (k + 1) → (decDigits u).length ≤ k + 1
  | 0, u, h => by
    have h9 : u < 10 := by simpa using h
    rw [decDigits.eq_def, dif_pos h9]
    simp
  | k + 1, u, h => by
    by_cases h9 : u < 10
    · rw [decDigits.eq_def, dif_pos h9]; simp
    · have := dec_len k (u / 10) (by rw [Nat.pow_succ] at h; omega)
      rw [decDigits.eq_def, dif_neg h9]
      simp; omega
theorem val_bound {l : List UInt8} (h : DgS l) : ∀ i, i ≤ l.length → 0 ≤ val (l.take i) ∧ val (l.take i) < 10 ^ i
  | 0, _ => by simp [val]
  | i + 1, hi => by
    obtain ⟨h1, h2⟩ := val_bound h i (by omega)
    have hb := h _ (getD_mem (d := 0) (show i < l.length by omega))
    rw [take_snoc 0 (by omega), val_snoc, Int.pow_succ]
    omega
end Go.Mach
namespace Go.Proofs.YtmlbgldofgobnaaDoor.Tw
open Go.Mach
set_option linter.unusedVariables false
set_option linter.unusedSimpArgs false
set_option maxRecDepth 20000

theorem numF_dg {n : Int} (h0 : 0 ≤ n) (h1 : n ≤ 999999) : numF (dg n) = (n, true) := by
  obtain ⟨u, rfl⟩ := Int.eq_ofNat_of_zero_le h0
  have e : dg (u : Int) = Lib.decDigits u := Lib.itoa_nonneg u
  obtain ⟨d1, d2, d3⟩ := dec_facts u u (Nat.le_refl _)
  have d4 := dec_len 5 u (by omega)
  rw [e]
  generalize hs : Lib.decDigits u = s at d1 d2 d3 d4
  have q := lp_det (S := spec_Number_s122) (fun i => (s, val (s.take i), (i : Int))) (n := s.length) (by omega) (b := .inr (s, val s)) (fun i hi => by
    have hb := d1 _ (getD_mem (d := 0) hi)
    obtain ⟨v1, v2⟩ := val_bound d1 i (by omega)
    have hv : (10 : Int) ^ i ≤ 100000 := by
      have : i = 0 ∨ i = 1 ∨ i = 2 ∨ i = 3 ∨ i = 4 ∨ i = 5 := by omega
      rcases this with h | h | h | h | h | h <;> rw [h] <;> simp
    simp only [spec_Number_s122, lnn, ltn hi, cond_true, ixn hi, Int.toNat_natCast, bif_dec, Option.bind_some, wsucc (show i ≤ 1048576 by omega)]
    have e0 : Int.ofNat (UInt8.toNat (s.getD i 0)) = ((UInt8.toNat (s.getD i 0) : Nat) : Int) := rfl
    rw [take_snoc 0 hi, val_snoc]
    simp only [e0]
    have g1 : ¬ (((UInt8.toNat (s.getD i 0) : Nat) : Int) < 48) := by omega
    have g2 : ¬ (((UInt8.toNat (s.getD i 0) : Nat) : Int) > 57) := by omega
    rw [if_neg g1, if_neg g2, w64_ok (show -9223372036854775808 ≤ 10 * val (s.take i) by omega) (by omega), w64_ok (show -9223372036854775808 ≤ ((UInt8.toNat (s.getD i 0) : Nat) : Int) by omega) (by omega), w64_ok (show -9223372036854775808 ≤ 10 * val (s.take i) + ((UInt8.toNat (s.getD i 0) : Nat) : Int) by omega) (by omega), w64_ok (by omega) (by omega)]
    have : 10 * val (s.take i) + ((UInt8.toNat (s.getD i 0) : Nat) : Int) - 48 = 10 * val (s.take i) + (((UInt8.toNat (s.getD i 0) : Nat) : Int) - 48) := by omega
    rw [this]) (by simp only [spec_Number_s122, lnn, ltF, cond_false, List.take_length])
  have e0 : val (s.take 0) = 0 := rfl
  rw [cast0, e0] at q
  have hspec : spec_Number s = some ((u : Int), true) := by
    simp only [spec_Number, lnn, bif_dec]
    rw [if_neg (by omega), if_neg (by omega), q, d2]
    simp only [bx, Option.bind_some, Sum.elim_inr, specDigits_eq (n := (u : Int)) (by omega) (by omega), e, hs, beq_self_eq_true]
    rfl
  rw [numF, hspec]
  rfl

theorem dg_free {n : Int} (h : inD n = true) (c : UInt8) (hc : c.toNat < 48) : c ∉ dg n := by
  obtain ⟨h0, h1⟩ := inR_iff.1 h
  obtain ⟨u, rfl⟩ := Int.eq_ofNat_of_zero_le h0
  have e : dg (u : Int) = Lib.decDigits u := Lib.itoa_nonneg u
  obtain ⟨d1, _, _⟩ := dec_facts u u (Nat.le_refl _)
  rw [e]
  intro hm
  have := d1 c hm
  omega
theorem dg_ne {n : Int} (h : inD n = true) : dg n ≠ [] := by
  obtain ⟨h0, h1⟩ := inR_iff.1 h
  obtain ⟨u, rfl⟩ := Int.eq_ofNat_of_zero_le h0
  have e : dg (u : Int) = Lib.decDigits u := Lib.itoa_nonneg u
  obtain ⟨_, _, d3⟩ := dec_facts u u (Nat.le_refl _)
  rw [e]
  intro q
  rw [q] at d3
  simp at d3
theorem nm_dg : ∀ (l acc : List Int), l.all inD = true → nm (l.map dg) acc = some (acc ++ l)
  | [], acc, _ => by simp [nm]
  | x :: l, acc, h => by
    simp only [List.all_cons, Bool.and_eq_true] at h
    obtain ⟨h0, h1⟩ := inR_iff.1 h.1
    simp only [List.map_cons, nm, numF_dg h0 h1, if_true]
    rw [nm_dg l _ h.2, List.append_assoc]
    rfl

theorem deedOk_all {d : DeedT} (h : deedOk d = true) : d.2.2.2.2.2.length ≤ 20 ∧ (dNums d).all inD = true := by
  unfold deedOk at h
  simp only [Bool.and_eq_true, decide_eq_true_eq] at h
  exact ⟨h.1.2, h.2⟩
theorem deedT_ok {d : DeedT} (h : deedOk d = true) : deedT d = txt (dNums d) := by rw [deedT, if_pos h]
theorem deedT_no {d : DeedT} (h : deedOk d = false) : deedT d = [] := by rw [deedT, h]; rfl
theorem deedT_ne {d : DeedT} (h : deedOk d = true) : deedT d ≠ [] := by
  have ha := (deedOk_all h).2
  obtain ⟨d1, d2, d3, d4, d5, d6⟩ := d
  have h1 : inD d1 = true := by
    simp only [dNums, List.cons_append, List.nil_append, List.all_cons, Bool.and_eq_true] at ha
    exact ha.1
  rw [deedT_ok h]
  simp only [txt, dNums, List.cons_append, List.nil_append, List.map_cons, jn, Lib.join_cons]
  intro q
  exact dg_ne h1 (List.append_eq_nil_iff.1 q).1
theorem dOf_deedT {d : DeedT} (h : deedOk d = true) : dOf (deedT d) = (d, true) := by
  have ha := (deedOk_all h).2
  have hT := deedT_ok h
  have hcut : cutA 32 [] (deedT d) = (dNums d).map dg := by
    rw [hT, txt]
    refine cutA_join 32 (by simp [dNums]) fun x hx => ?_
    obtain ⟨y, hy, rfl⟩ := List.mem_map.1 hx
    exact dg_free (List.all_eq_true.1 ha y hy) 32 (by decide)
  unfold dOf
  rw [hcut, nm_dg _ _ ha, List.nil_append]
  obtain ⟨d1, d2, d3, d4, d5, d6⟩ := d
  have hl : ¬ (dNums (d1, d2, d3, d4, d5, d6)).length < 5 := by simp [dNums]
  simp only
  rw [if_neg hl]
  have e : ((dNums (d1, d2, d3, d4, d5, d6)).getD 0 0, (dNums (d1, d2, d3, d4, d5, d6)).getD 1 0, (dNums (d1, d2, d3, d4, d5, d6)).getD 2 0, (dNums (d1, d2, d3, d4, d5, d6)).getD 3 0, (dNums (d1, d2, d3, d4, d5, d6)).getD 4 0, (dNums (d1, d2, d3, d4, d5, d6)).drop 5) = (d1, d2, d3, d4, d5, d6) := rfl
  rw [e, if_pos rfl]
theorem dOf_nil : dOf [] = (deed0, false) := by
  unfold dOf
  simp [cutA, nm, numF_nil]
theorem dOf_text {s : List UInt8} (h : (dOf s).2 = true) : deedT (dOf s).1 = s := by
  unfold dOf at h ⊢
  cases hn : nm (cutA 32 [] s) [] with
  | none => rw [hn] at h; simp at h
  | some l =>
    rw [hn] at h
    simp only at h ⊢
    split at h
    · simp at h
    · rename_i h5
      rw [if_neg h5]
      split at h
      · rename_i he
        rw [if_pos he]
        exact he
      · simp at h

theorem txt_free {l : List Int} (h : l.all inD = true) : (10 : UInt8) ∉ txt l := by
  cases l with
  | nil => simp [txt, jn, Lib.join_nil]
  | cons x l =>
    simp only [List.all_cons, Bool.and_eq_true] at h
    simp only [txt, List.map_cons, jn, Lib.join_cons, List.mem_append, not_or]
    refine ⟨dg_free h.1 10 (by decide), ?_⟩
    have : ∀ r : List Int, r.all inD = true → (10 : UInt8) ∉ Lib.joinTail [32] (r.map dg) := by
      intro r
      induction r with
      | nil => intro _; simp [Lib.joinTail]
      | cons y r ih =>
        intro hr
        simp only [List.all_cons, Bool.and_eq_true] at hr
        have e : Lib.joinTail [32] ((y :: r).map dg) = 32 :: (dg y ++ Lib.joinTail [32] (r.map dg)) := by simp [Lib.joinTail]
        rw [e]
        simp only [List.mem_cons, List.mem_append, not_or]
        exact ⟨by decide, dg_free hr.1 10 (by decide), ih hr.2⟩
    exact this l h.2
theorem deedT_free (d : DeedT) : (10 : UInt8) ∉ deedT d := by
  cases h : deedOk d with
  | false => rw [deedT_no h]; simp
  | true => rw [deedT_ok h]; exact txt_free (deedOk_all h).2

/-! ### rows of deeds -/
def linesT (l : List DeedT) : List UInt8 := l.flatMap fun d => deedT d ++ [10]
def deedsT (l : List DeedT) : List UInt8 := if l.all deedOk then linesT l else []
theorem ds_back : ∀ (l acc : List DeedT), l.all deedOk = true → ds (l.map deedT) acc = some (acc ++ l)
  | [], acc, _ => by simp [ds]
  | x :: l, acc, h => by
    simp only [List.all_cons, Bool.and_eq_true] at h
    simp only [List.map_cons, ds, dOf_deedT h.1, if_true]
    rw [ds_back l _ h.2, List.append_assoc]
    rfl
theorem linesT_cut (l : List DeedT) : cutA 10 [] (linesT l) = l.map deedT ++ [[]] := by
  have := cutA_lines 10 (l.map deedT) (fun x hx => by
    obtain ⟨d, _, rfl⟩ := List.mem_map.1 hx
    exact deedT_free d)
  rw [← this, linesT, List.flatMap_map]
theorem dsOf_lines {l : List DeedT} (h : l.all deedOk = true) : dsOf (linesT l) = (l, true) := by
  unfold dsOf
  rw [linesT_cut]
  have e1 : (l.map deedT ++ [[]]).length - 1 = (l.map deedT).length := by simp
  rw [e1]
  have e2 : (l.map deedT ++ [[]]).getD (l.map deedT).length [] = [] := by simp [List.getD_eq_getElem?_getD]
  rw [if_pos e2, List.take_left, ds_back l [] h]
  rfl
theorem dsOf_nil : dsOf [] = ([], true) := dsOf_lines (l := []) rfl

end Go.Proofs.YtmlbgldofgobnaaDoor.Tw
