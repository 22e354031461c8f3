/- Plain: decimal digits, joined texts. No condition: lemmas. -/
import Derived.Test.YtcdkpfcfcjnooaaDoorPlD
import Derived.Test.YtcdkpfcfcjnooaaDoorTwD
import Derived.Lib.ItoaLen
namespace Go.Mach
set_option linter.unusedVariables false

theorem lit_nil : Array.toList (ByteArray.data { data := #[] }) = ([] : List UInt8) := rfl
theorem lit_one (a : UInt8) : Array.toList (ByteArray.data { data := #[a] }) = [a] := rfl

abbrev jn (l : List (List UInt8)) (sep : List UInt8) : List UInt8 := Lib.join l sep

theorem jn_snoc (l : List (List UInt8)) (y sep : List UInt8) (h : l ≠ []) : jn (l ++ [y]) sep = jn l sep ++ (sep ++ y) := by
  cases l with
  | nil => exact absurd rfl h
  | cons x r => simp [jn, Lib.join_cons, Lib.joinTail]

theorem jn_one (y sep : List UInt8) : jn ([] ++ [y]) sep = y := by simp [jn, Lib.join_one]

theorem jn_length (sep : List UInt8) (B : Nat) : ∀ (l : List (List UInt8)), (∀ x ∈ l, x.length ≤ B) → (jn l sep).length ≤ (B + sep.length) * l.length := by
  intro l
  cases l with
  | nil => intro _; simp [jn, Lib.join_nil]
  | cons x r =>
    intro h
    have h1 : ∀ (r : List (List UInt8)), (∀ x ∈ r, x.length ≤ B) → (Lib.joinTail sep r).length ≤ (B + sep.length) * r.length := by
      intro r
      induction r with
      | nil => intro _; simp [Lib.joinTail]
      | cons y r ih =>
        intro hr
        have := ih (fun z hz => hr z (List.mem_cons_of_mem _ hz))
        have hy := hr y List.mem_cons_self
        simp only [Lib.joinTail, List.map_cons, List.flatten_cons, List.length_append, List.length_cons] at this ⊢
        rw [Nat.mul_add]
        omega
    have h2 := h1 r (fun z hz => h z (List.mem_cons_of_mem _ hz))
    have h3 := h x List.mem_cons_self
    rw [jn, Lib.join_cons]
    simp only [List.length_append, List.length_cons]
    rw [Nat.mul_add]
    omega

theorem map_take_succ {α β : Type} (f : α → β) (l : List α) (i : Nat) (d : α) (h : i < l.length) : (l.take (i + 1)).map f = (l.take i).map f ++ [f (l.getD i d)] := by
  rw [List.take_succ_eq_append_getElem h, List.map_append]
  simp [List.getD_eq_getElem?_getD, List.getElem?_eq_getElem h]

theorem take_ne_nil {α : Type} (l : List α) (i : Nat) (h : 0 < i) (h' : i ≤ l.length) : l.take i ≠ [] := by
  intro q
  have : (l.take i).length = 0 := by rw [q]; rfl
  rw [List.length_take] at this
  omega

theorem walk_runL {σ β : Type} {S : σ → Option (σ ⊕ β)} (st : Nat → σ) {n : Nat} (hn : n ≤ 1099511627776) (p : Nat → Bool) {t e : β}
    (h1 : ∀ i, i < n → S (st i) = some (if p i then .inl (st (i + 1)) else .inr e)) (h2 : S (st n) = some (.inr t)) : iter S bigN (st 0) = some (if (List.range n).all p then t else e) := by
  rw [walk_from st p h1 h2 bigN 0 (Nat.zero_le _) (by simp only [bigN]; omega), List.range_eq_range', Nat.sub_zero]

theorem det_runL {σ β : Type} {S : σ → Option (σ ⊕ β)} (st : Nat → σ) {n : Nat} (hn : n ≤ 1099511627776) {t : β}
    (h1 : ∀ i, i < n → S (st i) = some (.inl (st (i + 1)))) (h2 : S (st n) = some (.inr t)) : iter S bigN (st 0) = some t := by
  have := walk_runL st hn (fun _ => true) (t := t) (e := t) (fun i hi => by simpa using h1 i hi) h2
  simpa using this

theorem wrap_natL {i : Nat} (h : i ≤ 1099511627776) : IntKind.wrap .i64 ((i : Int) + 1) = ((i + 1 : Nat) : Int) := by
  rw [wrap_i64 (by omega) (by omega)]
  rfl

theorem wrap_big {i : Int} (h : 0 ≤ i) (h' : i ≤ 4611686018427387904) : IntKind.wrap .i64 (i + 1) = i + 1 := wrap_i64 (by omega) (by omega)

theorem eqS_runL {α σ : Type} [DecidableEq α] {S : σ → Option (σ ⊕ (Bool ⊕ Unit))} (d : α) {a b : List α} (ha : a.length ≤ 1099511627776) (st : Nat → σ)
    (h1 : ∀ i, i < a.length → b.length = a.length → a.getD i d ∈ a → S (st i) = some (if a.getD i d = b.getD i d then .inl (st (i + 1)) else .inr (.inl false)))
    (h2 : b.length = a.length → S (st a.length) = some (.inr (.inr ()))) :
    (bif (a.length : Int) != (b.length : Int) then some false else Option.bind (iter S bigN (st 0)) fun q => Sum.elim (fun d => some d) (fun _ => some true) q) = some (decide (a = b)) := by
  by_cases h : b.length = a.length
  · have e1 : ((a.length : Int) != (b.length : Int)) = false := by simp [h]
    rw [e1, cond_false, walk_runL st ha (fun i => decide (a.getD i d = b.getD i d)) (t := .inr ()) (e := .inl false) (fun i hi => by
      rw [h1 i hi h (getD_mem hi)]
      by_cases q : a.getD i d = b.getD i d <;> simp [q]) (h2 h), all_range_eq d h]
    by_cases q : a = b <;> simp [q]
  · have e1 : ((a.length : Int) != (b.length : Int)) = true := by simp; omega
    rw [e1, cond_true]
    have : a ≠ b := fun q => h (by rw [q])
    simp [this]

theorem fits1 {n : Nat} (h : n ≤ 4294967296) : fits n 1 = true := by
  unfold fits
  rw [decide_eq_true_eq]
  refine ⟨?_, ?_⟩
  · unfold rowMost; omega
  · unfold byteMost; omega

theorem getD_set_self {α : Type} {l : List α} {i : Nat} (h : i < l.length) (d x : α) : (l.set i x).getD i d = x := by
  simp [List.getD_eq_getElem?_getD, List.getElem?_set_self h]

/-- The bytes of what comes before the i-th. -/
theorem flatMap_take_succ {α β : Type} (f : α → List β) (l : List α) (i : Nat) (d : α) (h : i < l.length) : (l.take (i + 1)).flatMap f = (l.take i).flatMap f ++ f (l.getD i d) := by
  rw [List.take_succ_eq_append_getElem h, List.flatMap_append]
  simp [List.getD_eq_getElem?_getD, List.getElem?_eq_getElem h]

theorem flatMap_length {α β : Type} (f : α → List β) (B : Nat) : ∀ (l : List α), (∀ x ∈ l, (f x).length ≤ B) → (l.flatMap f).length ≤ B * l.length
  | [], _ => by simp
  | x :: l, h => by
    have h1 := flatMap_length f B l (fun y hy => h y (List.mem_cons_of_mem _ hy))
    have h2 := h x (List.mem_cons_self)
    simp only [List.flatMap_cons, List.length_append, List.length_cons]
    rw [Nat.mul_add]
    omega


theorem fits16 {n : Nat} (h : n ≤ 1048577) : fits n 16 = true := by
  unfold fits
  rw [decide_eq_true_eq]
  refine ⟨?_, ?_⟩
  · unfold rowMost; omega
  · unfold byteMost; omega

end Go.Mach

namespace Go.Proofs.YtcdkpfcfcjnooaaDoor.Tw
open Go.Mach
set_option linter.unusedVariables false
set_option maxRecDepth 20000

def dg (n : Int) : List UInt8 := Lib.itoa n

theorem dg_le {n : Int} (h0 : 0 ≤ n) (h1 : n ≤ 1000000000000) : (dg n).length ≤ 21 := Lib.itoa_length_le n (by omega) (by omega)

theorem digLoop (b : Bool) : ∀ (k u : Nat) (out : List UInt8), u < 10 ^ k → out.length + k ≤ 1000 → u < 4611686018427387904 → ∀ f, k < f →
    iter (fun d => spec_Digits_s124 d.1 d.2.1 d.2.2) f ((u : Int), (b, out)) = some (b, if u = 0 then out else Lib.decDigits u ++ out)
  | k, u, out, h, hl, hu, 0, hf => by omega
  | k, u, out, h, hl, hu, f + 1, hf => by
    by_cases h0 : u = 0
    · subst h0
      simp [iter, spec_Digits_s124]
    · match k, h, hl, hf with
      | 0, h, hl, hf => simp at h; omega
      | k + 1, h, hl, hf =>
        have e1 : ((u : Int) != 0) = true := by simpa using h0
        have e2 : Int.tmod (u : Int) 10 = ((u % 10 : Nat) : Int) := by rw [Int.tmod_eq_emod_of_nonneg (by omega)]; omega
        have e3 : IntKind.wrap .i64 (Int.tdiv (u : Int) 10) = ((u / 10 : Nat) : Int) := by
          rw [Int.tdiv_eq_ediv_of_nonneg (by omega), wrap_i64 (by omega) (by omega)]
          omega
        have e4 : IntKind.wrap .i64 ((48 : Int) + ((u % 10 : Nat) : Int)) = ((48 + u % 10 : Nat) : Int) := by rw [wrap_i64 (by omega) (by omega)]; omega
        have e5 : IntKind.wrap .u8 ((48 + u % 10 : Nat) : Int) = ((48 + u % 10 : Nat) : Int) := by
          rw [IntKind.wrap_u8]
          omega
        have hs : spec_Digits_s124 (u : Int) b out = some (.inl (((u / 10 : Nat) : Int), (b, [UInt8.ofNat (48 + u % 10)] ++ out))) := by
          unfold spec_Digits_s124
          rw [e1, cond_true, e2, decide_eq_false (by omega), cond_false, e4, e5, e3]
          simp only [List.map_cons, List.map_nil, Int.toNat_natCast, Option.bind_some]
          rw [chk_dec (by simp only [List.length_cons, List.length_nil]; omega)]
        have hlt : u / 10 < 10 ^ k := by
          rw [Nat.pow_succ] at h
          omega
        simp only [iter, hs]
        rw [digLoop b k (u / 10) _ hlt (by simp only [List.length_append, List.length_cons, List.length_nil]; omega) (by omega) f (by omega), if_neg h0]
        congr 2
        by_cases h9 : u < 10
        · rw [if_pos (by omega), Lib.decDigits.eq_def u, dif_pos h9, Nat.mod_eq_of_lt h9]
        · rw [if_neg (by omega), Lib.decDigits.eq_def u, dif_neg h9, List.append_assoc]

theorem specDigits_eq {n : Int} (h0 : 0 ≤ n) (h1 : n ≤ 1000000000000) : spec_Digits n = some (dg n) := by
  obtain ⟨u, rfl⟩ : ∃ u : Nat, n = (u : Int) := ⟨n.toNat, by omega⟩
  unfold spec_Digits dg
  rw [Lib.itoa_nonneg]
  by_cases hu : u = 0
  · subst hu
    have : Lib.decDigits 0 = [48] := by rw [Lib.decDigits.eq_def]; rfl
    rw [this]
    rfl
  · have e1 : ((u : Int) == 0) = false := by simpa using hu
    rw [e1, cond_false, decide_eq_false (by omega), lit_nil]
    have := digLoop false 13 u [] (by omega) (by simp) (by omega) bigN (by simp only [bigN]; omega)
    unfold spec_Digits_l124
    rw [this, if_neg hu]
    simp

theorem implDigits_eq {n : Int} (h0 : 0 ≤ n) (h1 : n ≤ 1000000000000) : impl_Digits n = some (dg n) := by
  unfold impl_Digits strconv_Itoa
  rw [if_pos ⟨by omega, by omega⟩]
  rfl

theorem join_some {l : List (List UInt8)} {sep : List UInt8} (B : Nat) (h : ∀ x ∈ l, x.length ≤ B) (hl : l.length ≤ 1048576) (hB : B + sep.length ≤ 1000) : strings_Join l sep = some (jn l sep) := by
  have h1 : (Lib.join l sep).length ≤ (B + sep.length) * l.length := jn_length sep B l h
  have h2 : (B + sep.length) * l.length ≤ 1000 * 1048576 := Nat.mul_le_mul hB hl
  unfold strings_Join
  rw [if_pos ⟨by omega, by omega⟩]

end Go.Proofs.YtcdkpfcfcjnooaaDoor.Tw
