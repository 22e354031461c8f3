/- Plain: decimal digits, texts of deeds. No condition: lemmas. -/
import Derived.Test.YtmlbgldofgobnaaDoorMk
import Derived.Test.YtmlbgldofgobnaaDoorTf
import Derived.Lib.ItoaLen
namespace Go.Mach
set_option linter.unusedVariables false

theorem lit_nil : Array.toList (ByteArray.data { data := #[] }) = ([] : List UInt8) := rfl
theorem lit_one (a : UInt8) : Array.toList (ByteArray.data { data := #[a] }) = [a] := rfl
abbrev jn (l : List (List UInt8)) (sep : List UInt8) : List UInt8 := Lib.join l sep
theorem jn_snoc (l : List (List UInt8)) (y sep : List UInt8) (h : l ≠ []) : jn (l ++ [y]) sep = jn l sep ++ (sep ++ y) := by
  cases l with
  | nil => exact absurd rfl h
  | cons x r => simp [jn, Lib.join_cons, Lib.joinTail]
theorem jn_one (y sep : List UInt8) : jn ([] ++ [y]) sep = y := by simp [jn, Lib.join_one]
theorem jn_length (sep : List UInt8) (B : Nat) : ∀ (l : List (List UInt8)), (∀ x ∈ l, x.length ≤ B) → (jn l sep).length ≤ (B + sep.length) * l.length := by
  intro l
  cases l with
  | nil => intro _; simp [jn, Lib.join_nil]
  | cons x r =>
    intro h
    have h1 : ∀ (r : List (List UInt8)), (∀ x ∈ r, x.length ≤ B) → (Lib.joinTail sep r).length ≤ (B + sep.length) * r.length := by
      intro r
      induction r with
      | nil => intro _; simp [Lib.joinTail]
      | cons y r ih =>
        intro hr
        have := ih (fun z hz => hr z (List.mem_cons_of_mem _ hz))
        have hy := hr y List.mem_cons_self
        simp only [Lib.joinTail, List.map_cons, List.flatten_cons, List.length_append, List.length_cons] at this ⊢
        rw [Nat.mul_add]
        omega
    have h2 := h1 r (fun z hz => h z (List.mem_cons_of_mem _ hz))
    have h3 := h x List.mem_cons_self
    rw [jn, Lib.join_cons]
    simp only [List.length_append, List.length_cons]
    rw [Nat.mul_add]
    omega
theorem map_snoc {α β : Type} (f : α → β) (l : List α) (i : Nat) (d : α) (h : i < l.length) : (l.take (i + 1)).map f = (l.take i).map f ++ [f (l.getD i d)] := by
  rw [take_snoc d h, List.map_append]
  rfl
theorem take_ne_nil {α : Type} (l : List α) (i : Nat) (h : 0 < i) (h' : i ≤ l.length) : l.take i ≠ [] := by
  intro q
  have : (l.take i).length = 0 := by rw [q]; rfl
  rw [List.length_take] at this
  omega
theorem all_take {l : List Int} {p : Int → Bool} (i : Nat) (h : ∀ j, j < i → p (l.getD j 0) = true) (hi : i ≤ l.length) : (l.take i).all p = true := by
  rw [List.all_eq_true]
  intro x hx
  obtain ⟨j, hj⟩ := List.getElem?_of_mem hx
  have hjl : j < i := by
    have := (List.getElem?_eq_some_iff.1 hj).1
    rw [List.length_take] at this
    omega
  have := h j hjl
  rw [List.getElem?_take_of_lt hjl] at hj
  rw [List.getD_eq_getElem?_getD, hj] at this
  exact this
/-- A walk that stops where a test fails; what came before passed it. -/
theorem lp_pre {σ β : Type} {S : σ → Option (σ ⊕ β)} (st : Nat → σ) {n : Nat} (hn : n ≤ 1048576) (p : Nat → Bool) {t e : β}
    (h1 : ∀ i, i < n → (∀ j, j < i → p j = true) → S (st i) = some (if p i then .inl (st (i + 1)) else .inr e)) (h2 : (∀ j, j < n → p j = true) → S (st n) = some (.inr t)) :
    lp S (st 0) = some (if (List.range n).all p then t else e) := by
  have key : ∀ (f k : Nat), k ≤ n → n - k < f → (∀ j, j < k → p j = true) → iter S f (st k) = some (if (List.range' k (n - k)).all p then t else e) := by
    intro f
    induction f with
    | zero => intro k _ h; omega
    | succ f ih =>
      intro k hk hf hp
      simp only [iter]
      by_cases hkn : k < n
      · rw [h1 k hkn hp, show n - k = (n - (k + 1)) + 1 by omega, List.range'_succ, List.all_cons]
        cases hpk : p k with
        | true =>
          simp only [if_true, Bool.true_and]
          exact ih (k + 1) (by omega) (by omega) (fun j hj => by
            rcases Nat.lt_succ_iff_lt_or_eq.1 hj with g | g
            · exact hp j g
            · rw [g]; exact hpk)
        | false => simp
      · obtain rfl : k = n := by omega
        rw [h2 hp]
        simp
  have := key bigN 0 (Nat.zero_le _) (by simp only [bigN]; omega) (fun j hj => by omega)
  rw [Nat.sub_zero, ← List.range_eq_range'] at this
  exact this
end Go.Mach

namespace Go.Proofs.YtmlbgldofgobnaaDoor.Tw
open Go.Mach
set_option linter.unusedVariables false
set_option linter.unusedSimpArgs false
set_option maxRecDepth 20000

def inR (x a b : Int) : Bool := decide (x ≥ a) && decide (x ≤ b)
theorem l1In_eq (x a b : Int) : spec_l1In (x, a, b) = some (inR x a b) := by unfold inR; simp only [spec_l1In]; cases decide (x ≥ a) <;> rfl
theorem within_eq (x a b : Int) : impl_within (x, a, b) = some (inR x a b) := by unfold inR; simp only [impl_within]; cases decide (x ≥ a) <;> rfl
theorem inR_iff {x a b : Int} : inR x a b = true ↔ a ≤ x ∧ x ≤ b := by unfold inR; simp

def dg (n : Int) : List UInt8 := Lib.itoa n
theorem dg_le {n : Int} (h0 : 0 ≤ n) (h1 : n ≤ 1000000000000) : (dg n).length ≤ 21 := Lib.itoa_length_le n (by omega) (by omega)

theorem digLoop (b : Bool) : ∀ (k u : Nat) (out : List UInt8), u < 10 ^ k → out.length + k ≤ 1000 → u < 4611686018427387904 → ∀ f, k < f →
    iter spec_Digits_s124 f ((u : Int), b, out) = some (b, if u = 0 then out else Lib.decDigits u ++ out)
  | k, u, out, h, hl, hu, 0, hf => by omega
  | k, u, out, h, hl, hu, f + 1, hf => by
    by_cases h0 : u = 0
    · subst h0
      simp [iter, spec_Digits_s124]
    · match k, h, hl, hf with
      | 0, h, hl, hf => simp at h; omega
      | k + 1, h, hl, hf =>
        have e1 : ((u : Int) != 0) = true := by simpa using h0
        have e2 : Int.tmod (u : Int) 10 = ((u % 10 : Nat) : Int) := by rw [Int.tmod_eq_emod_of_nonneg (by omega)]; omega
        have e3 : IntKind.wrap .i64 (Int.tdiv (u : Int) 10) = ((u / 10 : Nat) : Int) := by
          rw [Int.tdiv_eq_ediv_of_nonneg (by omega), wr (by omega) (by omega)]
          omega
        have e4 : IntKind.wrap .i64 ((48 : Int) + ((u % 10 : Nat) : Int)) = ((48 + u % 10 : Nat) : Int) := by rw [wr (by omega) (by omega)]; omega
        have e5 : IntKind.wrap .u8 ((48 + u % 10 : Nat) : Int) = ((48 + u % 10 : Nat) : Int) := by
          show ((48 + u % 10 : Nat) : Int) % 256 = _
          omega
        have hs : spec_Digits_s124 ((u : Int), b, out) = some (.inl (((u / 10 : Nat) : Int), b, [UInt8.ofNat (48 + u % 10)] ++ out)) := by
          simp only [spec_Digits_s124, e1, cond_true, e2, dF (show ¬ (((u % 10 : Nat) : Int) < 0) by omega), cond_false, e4, e5, e3, List.map_cons, List.map_nil, Int.toNat_natCast, Option.bind_some]
          rw [chkD (by simp only [List.length_cons, List.length_nil]; omega)]
        have hlt : u / 10 < 10 ^ k := by
          rw [Nat.pow_succ] at h
          omega
        simp only [iter, hs]
        rw [digLoop b k (u / 10) _ hlt (by simp only [List.length_append, List.length_cons, List.length_nil]; omega) (by omega) f (by omega), if_neg h0]
        congr 2
        by_cases h9 : u < 10
        · rw [if_pos (by omega), Lib.decDigits.eq_def u, dif_pos h9, Nat.mod_eq_of_lt h9]
        · rw [if_neg (by omega), Lib.decDigits.eq_def u, dif_neg h9, List.append_assoc]

theorem specDigits_eq {n : Int} (h0 : 0 ≤ n) (h1 : n ≤ 1000000000000) : spec_Digits n = some (dg n) := by
  obtain ⟨u, rfl⟩ : ∃ u : Nat, n = (u : Int) := ⟨n.toNat, by omega⟩
  unfold dg
  rw [Lib.itoa_nonneg]
  by_cases hu : u = 0
  · subst hu
    have : Lib.decDigits 0 = [48] := by rw [Lib.decDigits.eq_def]; rfl
    rw [this]
    rfl
  · have e1 : ((u : Int) == 0) = false := by simpa using hu
    have q := digLoop false 13 u [] (by omega) (by simp) (by omega) bigN (by simp only [bigN]; omega)
    have q' : lp spec_Digits_s124 ((u : Int), false, []) = some (false, if u = 0 then [] else Lib.decDigits u ++ []) := q
    simp only [spec_Digits, e1, cond_false, dF (show ¬ ((u : Int) < 0) by omega), lit_nil, q', if_neg hu, Option.bind_some, List.append_nil]
theorem implDigits_eq {n : Int} (h0 : 0 ≤ n) (h1 : n ≤ 1000000000000) : impl_Digits n = some (dg n) := by
  simp only [impl_Digits, strconv_Itoa]
  rw [if_pos ⟨by omega, by omega⟩]
  rfl
theorem join_some {l : List (List UInt8)} {sep : List UInt8} (B : Nat) (h : ∀ x ∈ l, x.length ≤ B) (hl : l.length ≤ 1048576) (hB : B + sep.length ≤ 1000) : strings_Join (l, sep) = some (jn l sep) := by
  have h1 : (Lib.join l sep).length ≤ (B + sep.length) * l.length := jn_length sep B l h
  have h2 : (B + sep.length) * l.length ≤ 1000 * 1048576 := Nat.mul_le_mul hB hl
  simp only [strings_Join]
  rw [if_pos ⟨by omega, by omega⟩]

/-! ### deeds -/
abbrev DeedT := Int × Int × Int × Int × Int × List Int
abbrev deed0 : DeedT := (0, 0, 0, 0, 0, [])
def dNums (d : DeedT) : List Int := [d.1, d.2.1, d.2.2.1, d.2.2.2.1, d.2.2.2.2.1] ++ d.2.2.2.2.2
abbrev inD (x : Int) : Bool := inR x 0 999999
def txt (l : List Int) : List UInt8 := jn (l.map dg) [32]
def deedOk (d : DeedT) : Bool := inR d.1 0 8 && decide (d.2.2.2.2.2.length ≤ 20) && (dNums d).all inD
def deedT (d : DeedT) : List UInt8 := if deedOk d then txt (dNums d) else []

theorem inD_dg {x : Int} (h : inD x = true) : spec_Digits x = some (dg x) ∧ impl_Digits x = some (dg x) ∧ (dg x).length ≤ 21 := by
  obtain ⟨h1, h2⟩ := inR_iff.mp h
  exact ⟨specDigits_eq h1 (by omega), implDigits_eq h1 (by omega), dg_le h1 (by omega)⟩
theorem txt_le {l : List Int} (h : l.all inD = true) : (txt l).length ≤ 22 * l.length := by
  have := jn_length [32] 21 (l.map dg) (fun x hx => by
    obtain ⟨y, hy, rfl⟩ := List.mem_map.1 hx
    exact (inD_dg (List.all_eq_true.1 h y hy)).2.2)
  simpa [txt] using this

theorem specDeedText_eq {d : DeedT} (hs : d.2.2.2.2.2.length ≤ 1048576) : spec_DeedText d = some (deedT d) := by
  obtain ⟨d1, d2, d3, d4, d5, d6⟩ := d
  unfold deedT deedOk
  simp only [spec_DeedText, l1In_eq, Option.bind_some, lit_nil]
  cases inR d1 0 8 with
  | false => rfl
  | true =>
    simp only [Bool.not_true, cond_false, Bool.true_and, bif_dec, lnn]
    by_cases hl : d6.length ≤ 20
    · rw [if_neg (by omega), decide_eq_true hl, Bool.true_and]
      simp only [spec_l26Nums]
      rw [fitsC (by simp only [List.length_cons, List.length_nil]; omega) (by omega), Option.bind_some]
      have hn : (dNums (d1, d2, d3, d4, d5, d6)).length ≤ 25 := by simp only [dNums, List.length_append, List.length_cons, List.length_nil]; omega
      have hd : [d1, d2, d3, d4, d5] ++ d6 = dNums (d1, d2, d3, d4, d5, d6) := rfl
      rw [hd]
      generalize dNums (d1, d2, d3, d4, d5, d6) = l at hn ⊢
      have q := lp_pre (S := spec_DeedText_s250) (t := .inr (txt l)) (e := .inl []) (fun i => (txt (l.take i), l, (i : Int))) (n := l.length) (by omega) (fun i => inD (l.getD i 0)) (fun i hi hp => by
        have hle := txt_le (all_take i hp (by omega))
        have htl : (l.take i).length ≤ 25 := by rw [List.length_take]; omega
        simp only [spec_DeedText_s250, lnn, ltn hi, cond_true, ixn hi, lxn hi, gxn, wsucc (show i ≤ 1048576 by omega), l1In_eq, Option.bind_some, lit_nil, lit_one]
        cases hb : inD (l.getD i 0) with
        | false =>
          have : inR (l.getD i 0) 0 999999 = false := hb
          rw [this]
          rfl
        | true =>
          have hb' : inR (l.getD i 0) 0 999999 = true := hb
          obtain ⟨q1, _, q2⟩ := inD_dg hb
          rw [hb']
          simp only [Bool.not_true, cond_false, if_true, q1, Option.bind_some]
          by_cases h0 : i = 0
          · subst h0
            rw [dF (by omega), cond_false, chkD (by omega)]
            simp only [txt, map_snoc dg l 0 0 hi, List.take_zero, List.map_nil, jn_one]
            rfl
          · rw [dT (by omega), cond_true, chkD (by omega), chkD (by simp only [List.length_append, List.length_cons, List.length_nil]; omega)]
            simp only [txt, map_snoc dg l i 0 hi]
            rw [jn_snoc _ _ _ (by simpa using take_ne_nil l i (by omega) (by omega)), List.append_assoc]) (fun hp => by
        simp only [spec_DeedText_s250, lnn, ltF, cond_false, List.take_length])
      have e0 : txt (l.take 0) = [] := rfl
      rw [cast0, e0, all_range 0 inD l] at q
      rw [q]
      cases l.all inD <;> rfl
    · rw [if_pos (by omega), decide_eq_false hl]
      rfl

theorem allWithin_eq {l : List Int} {n a b : Int} (hl : l.length ≤ 1048576) : impl_allWithin (l, n, a, b) = some (l.all (fun x => inR x a b) && ((l.length : Int) == n)) := by
  have q := lp_all (S := impl_allWithin_s26) (t := .inr (l, n)) (e := .inl false) l 0 (fun i => (l, n, a, b, l, (l.length : Int), (i : Int))) hl (fun x => inR x a b) (fun i hi hm => by
    simp only [impl_allWithin_s26, ltn hi, cond_true, ixn hi, gxn, wsucc (show i ≤ 1048576 by omega), within_eq, Option.bind_some]
    cases inR (l.getD i 0) a b <;> rfl) (by simp only [impl_allWithin_s26, ltF, cond_false])
  rw [cast0] at q
  simp only [impl_allWithin, lnn, q]
  cases l.all (fun x => inR x a b) <;> rfl

theorem joined_eq {l : List Int} (hl : l.length ≤ 1048576) (h : l.all inD = true) : impl_joined l = some (txt l) := by
  have hd : ∀ x ∈ l, impl_Digits x = some (dg x) ∧ (dg x).length ≤ 21 := fun x hx => (inD_dg (List.all_eq_true.1 h x hx)).2
  have q := lp_det (S := impl_joined_s58) (fun i => ((l.take i).map dg, l, (l.length : Int), (i : Int))) hl (b := l.map dg) (fun i hi => by
    simp only [impl_joined_s58, ltn hi, cond_true, ixn hi, gxn, wsucc (show i ≤ 1048576 by omega), (hd _ (getD_mem (d := 0) hi)).1, Option.bind_some]
    rw [fitsC (by simp only [List.length_map, List.length_take, List.length_cons, List.length_nil]; omega) (by omega), map_snoc dg l i 0 hi]) (by simp only [impl_joined_s58, ltF, cond_false, List.take_length])
  rw [cast0, List.take_zero, List.map_nil] at q
  simp only [impl_joined, lnn, q, Option.bind_some, lit_one]
  rw [join_some 21 (fun x hx => by
    obtain ⟨y, hy, rfl⟩ := List.mem_map.1 hx
    exact (hd y hy).2) (by simpa using hl) (by simp)]
  rfl

theorem implDeedText_eq {d : DeedT} (hs : d.2.2.2.2.2.length ≤ 1048500) : impl_DeedText d = some (deedT d) := by
  obtain ⟨d1, d2, d3, d4, d5, d6⟩ := d
  simp only at hs
  unfold deedT deedOk
  simp only [impl_DeedText]
  rw [fitsC (by simp only [List.length_cons, List.length_nil]; omega) (by omega)]
  simp only [within_eq, Option.bind_some, lit_nil]
  cases inR d1 0 8 with
  | false => rfl
  | true =>
    have hd : [d1, d2, d3, d4, d5] ++ d6 = dNums (d1, d2, d3, d4, d5, d6) := rfl
    have hn : (dNums (d1, d2, d3, d4, d5, d6)).length ≤ 1048576 := by simp only [dNums, List.length_append, List.length_cons, List.length_nil]; omega
    simp only [Bool.not_true, cond_false, Bool.true_and, hd, lnn, allWithin_eq hn, Option.bind_some, beq_self_eq_true, Bool.and_true]
    cases hb : (dNums (d1, d2, d3, d4, d5, d6)).all inD with
    | false =>
      rw [Bool.and_false]
      rfl
    | true =>
      rw [Bool.and_true]
      simp only [Bool.not_true, cond_false, bif_dec]
      by_cases hl : d6.length ≤ 20
      · rw [decide_eq_true hl, if_neg (by omega), joined_eq hn hb]
        rfl
      · rw [decide_eq_false hl, if_pos (by omega)]
        rfl

/-! ### numbers in texts -/
theorem specNumber_eq (s : List UInt8) (hs : s.length ≤ 1048576) : ∃ n g, spec_Number s = some (n, g) ∧ impl_Number s = some (n, g) := by
  simp only [spec_Number, impl_Number, lnn, bif_dec]
  by_cases h1 : (s.length : Int) < 1
  · rw [if_pos h1, if_pos h1]; exact ⟨0, false, rfl, rfl⟩
  · rw [if_neg h1, if_neg h1]
    by_cases h2 : (s.length : Int) > 6
    · rw [if_pos h2, if_pos h2]; exact ⟨0, false, rfl, rfl⟩
    · rw [if_neg h2, if_neg h2]
      have key : ∀ (k i : Nat) (c : Int) (f : Nat), i + k = s.length → 0 ≤ c → c < 10 ^ i → k < f → ∃ b, iter spec_Number_s122 f (s, c, (i : Int)) = some b ∧ iter impl_Number_s122 f (s, c, (i : Int)) = some b ∧ (b = .inl (0, false) ∨ ∃ n, b = .inr (s, n) ∧ 0 ≤ n ∧ n ≤ 1000000) := by
        intro k
        induction k with
        | zero =>
          intro i c f hi h0 hc hf
          cases f with
          | zero => omega
          | succ f =>
            obtain rfl : i = s.length := by omega
            refine ⟨.inr (s, c), ?_, ?_, .inr ⟨c, rfl, h0, ?_⟩⟩
            · simp only [iter, spec_Number_s122, lnn, ltF, cond_false]
            · simp only [iter, impl_Number_s122, lnn, ltF, cond_false]
            · have : (10 : Int) ^ s.length ≤ 1000000 := by
                have h6 : s.length = 1 ∨ s.length = 2 ∨ s.length = 3 ∨ s.length = 4 ∨ s.length = 5 ∨ s.length = 6 := by omega
                rcases h6 with h | h | h | h | h | h <;> rw [h] <;> simp
              omega
        | succ k ih =>
          intro i c f hi h0 hc hf
          cases f with
          | zero => omega
          | succ f =>
            have hil : i < s.length := by omega
            have hp : (10 : Int) ^ i ≤ 100000 ∧ (10 : Int) ^ (i + 1) = 10 * 10 ^ i := by
              refine ⟨?_, by rw [Int.pow_succ]; omega⟩
              have h6 : i = 0 ∨ i = 1 ∨ i = 2 ∨ i = 3 ∨ i = 4 ∨ i = 5 := by omega
              rcases h6 with rfl | rfl | rfl | rfl | rfl | rfl <;> simp
            simp only [iter, spec_Number_s122, impl_Number_s122, lnn, ltn hil, cond_true, ixn hil, Int.toNat_natCast, bif_dec, Option.bind_some, wsucc (show i ≤ 1048576 by omega)]
            have hb : (UInt8.toNat (s.getD i 0)) < 256 := UInt8.toNat_lt _
            obtain ⟨v, hv⟩ : ∃ v, UInt8.toNat (s.getD i 0) = v := ⟨_, rfl⟩
            rw [hv] at hb
            have e0 : Int.ofNat v = (v : Int) := rfl
            simp only [hv, e0]
            by_cases g1 : (v : Int) < 48
            · simp only [if_pos g1]; exact ⟨_, rfl, rfl, .inl rfl⟩
            · simp only [if_neg g1]
              by_cases g2 : (v : Int) > 57
              · simp only [if_pos g2]; exact ⟨_, rfl, rfl, .inl rfl⟩
              · simp only [if_neg g2]
                have w1 : w64 (10 * c) = 10 * c := w64_ok (by omega) (by omega)
                have w2 : w64 (v : Int) = (v : Int) := w64_ok (by omega) (by omega)
                have w3 : w64 (10 * c + (v : Int)) = 10 * c + v := w64_ok (by omega) (by omega)
                have w4 : w64 (10 * c + (v : Int) - 48) = 10 * c + (v - 48) := by rw [w64_ok (by omega) (by omega)]; omega
                have w5 : IntKind.wrap .u8 ((v : Int) - 48) = (v : Int) - 48 := by
                  show ((v : Int) - 48) % 256 = _
                  omega
                have w6 : w64 ((v : Int) - 48) = (v : Int) - 48 := w64_ok (by omega) (by omega)
                have w7 : w64 (10 * c + ((v : Int) - 48)) = 10 * c + ((v : Int) - 48) := w64_ok (by omega) (by omega)
                simp only [w1, w2, w3, w4, w5, w6, w7]
                exact ih (i + 1) (10 * c + ((v : Int) - 48)) f (by omega) (by omega) (by rw [hp.2]; omega) (by omega)
      obtain ⟨b, e1, e2, e3⟩ := key s.length 0 0 bigN (by omega) (by omega) (by simp) (by simp only [bigN]; omega)
      have q1 : lp spec_Number_s122 (s, 0, 0) = some b := e1
      have q2 : lp impl_Number_s122 (s, 0, 0) = some b := e2
      rw [q1, q2]
      rcases e3 with rfl | ⟨n, rfl, h0, h1'⟩
      · exact ⟨0, false, rfl, rfl⟩
      · simp only [bx, Option.bind_some, Sum.elim_inr, specDigits_eq h0 (by omega), implDigits_eq h0 (by omega)]
        cases dg n == s with
        | false => exact ⟨0, false, rfl, rfl⟩
        | true => exact ⟨n, true, rfl, rfl⟩

end Go.Proofs.YtmlbgldofgobnaaDoor.Tw
