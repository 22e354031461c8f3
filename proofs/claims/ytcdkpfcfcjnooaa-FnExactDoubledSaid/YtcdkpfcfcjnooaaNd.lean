/- The machine, part nd: slots that are forgotten, versions set back; slots seen as more general ones. No condition: lemmas. -/
import Derived.Test.YtcdkpfcfcjnooaaNc
namespace Go.Mach
set_option linter.unusedVariables false
set_option linter.unusedSimpArgs false

/-! ### Versions set back -/
theorem normFrom_get (e0 : Env) (ks : List Nat) : ∀ (e : Env) (s t : Nat), (normFrom e0 ks s e).getD t {} = if t < e.length then normS e0 ks (s + t) (e.getD t {}) else {}
  | [], s, t => by simp [normFrom]
  | x :: r, s, 0 => by simp [normFrom]
  | x :: r, s, t + 1 => by
    have := normFrom_get e0 ks r (s + 1) t
    simp only [normFrom, List.getD_cons_succ, List.length_cons, Nat.add_lt_add_iff_right]
    rw [this, show s + 1 + t = s + (t + 1) by omega]

theorem normFrom_length (e0 : Env) (ks : List Nat) : ∀ (e : Env) (s : Nat), (normFrom e0 ks s e).length = e.length
  | [], s => rfl
  | x :: r, s => by simp [normFrom, normFrom_length e0 ks r (s + 1)]

theorem norm_length (live : List Nat) (e : Env) : (norm live e).length = e.length := normFrom_length _ _ _ _

theorem norm_get (live : List Nat) (e : Env) (s : Nat) : (norm live e).get s = if s < e.length then normS e (keeps e live) s (e.get s) else {} := by
  have := normFrom_get e (keeps e live) e 0 s
  simp only [Nat.zero_add] at this
  exact this

theorem norm_own {live : List Nat} {e : Env} {s j rv sv : Nat} {d : Bool} {k : K} {l : List k.T} (h : ((norm live e).get s).cs.getD j .dead = .own rv sv d k l) :
    rv = 0 ∧ sv = 0 ∧ ∃ rv' sv', (e.get s).cs.getD j .dead = .own rv' sv' d k l := by
  rw [norm_get] at h
  split at h
  · simp only [normS] at h
    split at h
    · have h1 := some_of_getD h (by simp)
      simp only [List.getElem?_map] at h1
      cases hc : (e.get s).cs[j]? with
      | none => rw [hc] at h1; simp at h1
      | some c =>
        rw [hc] at h1
        simp only [Option.map_some, Option.some.injEq] at h1
        cases c with
        | own rv' sv' d' k' l' =>
          simp only [normC, C.own.injEq] at h1
          obtain ⟨rfl, rfl, rfl, rfl, hl⟩ := h1
          have hl := eq_of_heq hl
          subst hl
          exact ⟨rfl, rfl, rv', sv', getD_some hc _⟩
        | ref s' j' rv' sv' p lo hi k' => simp only [normC] at h1; split at h1 <;> (try split at h1) <;> simp at h1
        | aptr s' j' rv' sv' p i c k' => simp only [normC] at h1; split at h1 <;> (try split at h1) <;> simp at h1
        | bptr s' bv j' => simp only [normC] at h1; split at h1 <;> simp at h1
        | _ => simp [normC] at h1
    · simp at h
  · simp at h

theorem norm_box {live : List Nat} {e : Env} {s bv : Nat} (h : ((norm live e).get s).sh = .box bv) : bv = 0 ∧ ((norm live e).get s).cnt = 1 ∧ ∃ bv', (e.get s).sh = .box bv' := by
  rw [norm_get] at h ⊢
  split at h
  · rename_i hl
    rw [if_pos hl]
    simp only [normS] at h ⊢
    split at h
    · rename_i hk
      rw [if_pos hk]
      cases hs : (e.get s).sh <;> rw [hs] at h <;> simp at h
      exact ⟨h.symm, rfl, _, rfl⟩
    · simp at h
  · simp at h

theorem norm_cnt {live : List Nat} {e : Env} {s : Nat} (h : (keeps e live).contains s = true) (hc : 0 < (e.get s).cnt) : ((norm live e).get s).cnt = 1 := by
  rw [norm_get]
  have : s < e.length := by
    rcases Nat.lt_or_ge s e.length with q | q
    · exact q
    · rw [get_out (by omega)] at hc; simp at hc
  rw [if_pos this]
  simp only [normS]
  rw [if_pos h]

theorem normC0 {live : List Nat} {e : Env} {w : World} {G : Gh} {c : C} {v : Value} {L : LT} (hf : c.isFn = false) (h : CellOk0 e w G c v L) : CellOk0 (norm live e) w G (normC e (keeps e live) c) v L := by
  cases c with
  | dead => trivial
  | nil => exact h
  | dat k x => exact h
  | own rv sv d k l => exact h
  | ref s j rv sv p lo hi k =>
    simp only [normC]
    split
    · rename_i rv' sv' d k0 l0 hk hc
      split
      · rename_i hq
        obtain ⟨rfl, hq⟩ := hq
        obtain ⟨h1, h2, h3⟩ := h
        have hcnt := norm_cnt hk (Nat.lt_of_le_of_lt (Nat.zero_le _) h1)
        refine ⟨by rw [hcnt]; omega, fun _ => by rw [hcnt]; omega, fun sv1 d1 k1 l1 g1 g2 => ?_⟩
        obtain ⟨_, _, rv2, sv2, g3⟩ := norm_own g1
        rw [hc] at g3
        simp only [C.own.injEq] at g3
        obtain ⟨rfl, rfl, rfl, rfl, hl⟩ := g3
        have hl := eq_of_heq hl
        subst hl
        refine h3 _ _ _ _ hc ?_
        rcases hq with q | q
        · exact .inl q
        · rcases g2 with g2 | g2
          · exact .inl g2
          · exact .inr ⟨q, g2.2⟩
      · trivial
    · trivial
  | aptr s j rv sv p i c k =>
    simp only [normC]
    split
    · rename_i rv' sv' d k0 l0 hk hc
      split
      · rename_i hq
        obtain ⟨rfl, hq⟩ := hq
        obtain ⟨h0, h1, h2, h3⟩ := h
        have hcnt := norm_cnt hk (Nat.lt_of_le_of_lt (Nat.zero_le _) h1)
        refine ⟨h0, by rw [hcnt]; omega, fun _ => by rw [hcnt]; omega, fun sv1 d1 k1 l1 g1 g2 => ?_⟩
        obtain ⟨_, _, rv2, sv2, g3⟩ := norm_own g1
        rw [hc] at g3
        simp only [C.own.injEq] at g3
        obtain ⟨rfl, rfl, rfl, rfl, hl⟩ := g3
        have hl := eq_of_heq hl
        subst hl
        refine h3 _ _ _ _ hc ?_
        rcases hq with q | q
        · exact .inl q
        · rcases g2 with g2 | g2
          · exact .inl g2
          · exact .inr ⟨q, g2.2⟩
      · trivial
    · trivial
  | bptr s bv j =>
    simp only [normC]
    split
    · rename_i hq
      obtain ⟨h1, h2, h3⟩ := h
      have hcnt := norm_cnt hq.1 (Nat.lt_of_le_of_lt (Nat.zero_le _) h1)
      exact ⟨by rw [hcnt]; omega, fun _ => h2 hq.2, h3⟩
    · trivial
  | pim cs j => exact h
  | fn f caps => simp [C.isFn] at hf

theorem normC_ok {live : List Nat} {e : Env} {w : World} {G : Gh} {c : C} {v : Value} {L : LT} (h : CellOk e w G c v L) : CellOk (norm live e) w G (normC e (keeps e live) c) v L := by
  cases hf : c.isFn with
  | true =>
    cases c with
    | fn f caps =>
      obtain ⟨us, Ls, h1, h2, h3⟩ := h
      refine ⟨us, Ls, h1, by simp [h2], fun i c u hc hu => ?_⟩
      simp only [List.getElem?_map] at hc
      cases hci : caps[i]? with
      | none => rw [hci] at hc; simp at hc
      | some c0 =>
        rw [hci] at hc
        simp only [Option.map_some, Option.some.injEq] at hc
        obtain ⟨g1, g2, g3⟩ := h3 i c0 u hci hu
        subst hc
        have key := normC0 (live := live) g1 g3
        cases c0 with
        | bptr s bv j =>
          refine ⟨?_, ?_, key⟩
          · simp only []; split <;> rfl
          · simp only []; split <;> rfl
        | pim cs j => exact ⟨rfl, rfl, key⟩
        | _ => exact ⟨rfl, rfl, trivial⟩
    | _ => simp [C.isFn] at hf
  | false =>
    have h0 : CellOk0 e w G c v L := by cases c <;> first | exact h | simp [C.isFn] at hf
    have key := normC0 (live := live) hf h0
    have hnf : (normC e (keeps e live) c).isFn = false := by
      cases c <;> simp only [normC] <;> (try split) <;> (try split) <;> first | rfl | simp [C.isFn] at hf
    cases hc' : normC e (keeps e live) c <;> rw [hc'] at key hnf <;> first | exact key | simp [C.isFn] at hnf

theorem normC_ownB {e : Env} {ks : List Nat} {c : C} {L : LT} : ownB (normC e ks c) L = ownB c L := by
  cases c with
  | own rv sv d k l => cases d <;> rfl
  | ref s j rv sv p lo hi k => simp only [normC]; split <;> (try split) <;> rfl
  | aptr s j rv sv p i c k => simp only [normC]; split <;> (try split) <;> rfl
  | bptr s bv j => simp only [normC]; split <;> rfl
  | _ => rfl

/-- Versions set back, what is not live forgotten: the slots stand for the same. -/
theorem norm_inv {n : Nat} {e : Env} {tm : Array Value} {w : World} {G : Gh} (live : List Nat) (h : Inv n e tm w G) : Inv n (norm live e) tm w G := by
  refine ⟨h.size, by rw [norm_length]; exact h.elen, fun s => ?_, h.lt⟩
  have hs := h.slot s
  by_cases hl : s < e.length
  · have hg : (norm live e).get s = normS e (keeps e live) s (e.get s) := by rw [norm_get, if_pos hl]
    by_cases hk : (keeps e live).contains s = true
    · have hg' : (norm live e).get s = { sh := (match (e.get s).sh with | .box _ => .box 0 | h => h), cs := (e.get s).cs.map (normC e (keeps e live)), cnt := 1 } := by
        rw [hg]; simp only [normS]; rw [if_pos hk]; cases (e.get s).sh <;> rfl
      have hsh : ((norm live e).get s).sh ≠ .dead → (e.get s).sh ≠ .dead := by
        intro q r
        rw [hg', r] at q
        exact q rfl
      have hfp : fpS G s ((norm live e).get s) = fpS G s (e.get s) := by
        have key : ∀ (cs : List C) (i : Nat), fpCells (G.lt s) i (cs.map (normC e (keeps e live))) = fpCells (G.lt s) i cs := by
          intro cs
          induction cs with
          | nil => intro i; rfl
          | cons c cs ih => intro i; simp only [List.map_cons, fpCells, normC_ownB, ih]
        rw [hg']
        simp only [fpS, key]
        cases (e.get s).sh <;> rfl
      refine ⟨fun hn => ?_, fun bv hbv => ?_, fun q => ?_, fun q j c v hc hv => ?_, fun q j rv sv d k l hc => ?_, ?_, ?_, fun q => ?_⟩
      · have := hs.form hn
        rw [hg']
        simp only
        revert this
        cases (e.get s).sh <;> exact id
      · obtain ⟨rfl, h1, bv', h2⟩ := norm_box hbv
        obtain ⟨_, ty, h4⟩ := hs.box bv' h2
        exact ⟨by omega, ty, h4⟩
      · rw [hg']; simp only [List.length_map]; exact hs.len (hsh q)
      · rw [hg'] at hc
        simp only [List.getElem?_map] at hc
        cases hcj : (e.get s).cs[j]? with
        | none => rw [hcj] at hc; simp at hc
        | some c0 =>
          rw [hcj] at hc
          simp only [Option.map_some, Option.some.injEq] at hc
          subst hc
          exact normC_ok (hs.cells (hsh q) j c0 v hcj hv)
      · obtain ⟨rfl, rfl, _⟩ := norm_own (getD_some hc .dead)
        rw [hg']; simp
      · rw [hfp]; exact hs.nodup
      · rw [hfp]; exact hs.own
      · rw [hg'] at q ⊢
        simp only at q ⊢
        have : (e.get s).sh = .dead := by
          revert q
          cases (e.get s).sh <;> simp
        rw [hs.dead this]; rfl
    · refine SlotOk.nothing ?_
      rw [hg]
      simp only [normS]
      rw [if_neg hk]
  · refine SlotOk.nothing ?_
    rw [norm_get, if_neg hl]

/-! ### Slots seen as more general ones -/
/-- A slot of which nothing is known. -/
def dd : Slot := { sh := .dead, cs := [], cnt := 1 }

/-- A cell whose versions are set back. -/
def C.base : C → Bool
  | .own rv sv _ _ _ => rv == 0 && sv == 0
  | .ref _ _ rv sv _ _ _ _ => rv == 0 && sv == 0
  | .aptr _ _ rv sv _ _ _ _ => rv == 0 && sv == 0
  | .bptr _ bv _ => bv == 0
  | .fn _ caps => caps.all fun | .bptr _ bv _ => bv == 0 | .pim _ _ => true | .dead => true | _ => false
  | _ => true

/-- Where a cell refers to. -/
def C.refAt : C → List (Nat × Nat)
  | .ref s j _ _ _ _ _ _ => [(s, j)]
  | .aptr s j _ _ _ _ _ _ => [(s, j)]
  | _ => []

def GenC (n s : Nat) (c c' : C) : Prop := (c' = c ∧ c.base = true) ∨ c' = .dead ∨ (s < n ∧ c = .nil ∧ ∃ d k, c' = .own 0 0 d k [] ∨ c' = .dat (.list k) [])

structure GenS (n s : Nat) (x x' : Slot) : Prop where
  sh : x'.sh = x.sh
  cnt : x'.cnt = 1
  box : ∀ bv, x'.sh = .box bv → bv = 0
  len : x'.cs.length = x.cs.length
  cell : ∀ (j : Nat) c c', x.cs[j]? = some c → x'.cs[j]? = some c' → GenC n s c c'

structure Gen (n : Nat) (e e' : Env) : Prop where
  len : e'.length = e.length
  slot : ∀ s, s < e.length → e'.get s = dd ∨ GenS n s (e.get s) (e'.get s) ∨ (e.get s = {} ∧ e'.get s = {})
  refs : ∀ (s j : Nat) (c : C), (e'.get s).cs[j]? = some c → ∀ t i, (t, i) ∈ c.refAt → ∀ rv sv d k l, (e'.get t).cs.getD i .dead = .own rv sv d k l → (e.get t).cs.getD i .dead = .own rv sv d k l

open Classical in
theorem gen_inv {n : Nat} {e e' : Env} {tm : Array Value} {w : World} {G : Gh} (h : Inv n e tm w G) (g : Gen n e e') (m : Nat) : ∃ G', Inv n e' tm w G' ∧ Held n m w w G G' := by
  let G' : Gh := { G with lt := fun s j => if s < n ∧ (e.get s).cs.getD j .dead = .nil then .nil else G.lt s j }
  have hlt : ∀ s j, (e.get s).cs.getD j .dead ≠ .nil → G'.lt s j = G.lt s j := fun s j q => if_neg fun r => q r.2
  have hcnt : ∀ t, 0 < (e.get t).cnt → (e'.get t).cnt = 1 := by
    intro t ht
    have hl : t < e.length := by
      rcases Nat.lt_or_ge t e.length with q | q
      · exact q
      · rw [get_out (by omega)] at ht; simp at ht
    rcases g.slot t hl with q | q | q
    · rw [q]; rfl
    · exact q.cnt
    · rw [q.1] at ht; simp at ht
  have hbox : ∀ t bv, (e'.get t).sh = .box bv → (e.get t).sh = .box bv ∧ bv = 0 := by
    intro t bv q
    by_cases hl : t < e.length
    · rcases g.slot t hl with r | r | r
      · rw [r] at q; simp [dd] at q
      · exact ⟨by rw [← r.sh]; exact q, r.box bv q⟩
      · rw [r.2] at q; simp at q
    · rw [get_out (by rw [g.len]; exact hl)] at q; simp at q
  -- a cell that stays
  have stay0 : ∀ (c : C) v L, (∀ t i, (t, i) ∈ c.refAt → ∀ rv sv d k l, (e'.get t).cs.getD i .dead = .own rv sv d k l → (e.get t).cs.getD i .dead = .own rv sv d k l) → c.base = true → c.isFn = false →
      CellOk0 e w G c v L → CellOk0 e' w G' c v L := by
    intro c v L hr hb hf hc
    cases c with
    | ref s j rv sv p lo hi k =>
      simp only [C.base, Bool.and_eq_true, beq_iff_eq] at hb
      obtain ⟨rfl, rfl⟩ := hb
      obtain ⟨h1, h2, h3⟩ := hc
      have hc1 := hcnt s h1
      refine ⟨by rw [hc1]; omega, fun _ => by rw [hc1]; omega, fun sv1 d1 k1 l1 g1 g2 => ?_⟩
      have g1' := hr s j (by simp [C.refAt]) _ _ _ _ _ g1
      have := h3 sv1 d1 k1 l1 g1' g2
      rw [hlt s j (by rw [g1']; simp)]
      exact this
    | aptr s j rv sv p i c k =>
      simp only [C.base, Bool.and_eq_true, beq_iff_eq] at hb
      obtain ⟨rfl, rfl⟩ := hb
      obtain ⟨h0, h1, h2, h3⟩ := hc
      have hc1 := hcnt s h1
      refine ⟨h0, by rw [hc1]; omega, fun _ => by rw [hc1]; omega, fun sv1 d1 k1 l1 g1 g2 => ?_⟩
      have g1' := hr s j (by simp [C.refAt]) _ _ _ _ _ g1
      have := h3 sv1 d1 k1 l1 g1' g2
      rw [hlt s j (by rw [g1']; simp)]
      exact this
    | bptr s bv j =>
      simp only [C.base, beq_iff_eq] at hb
      subst hb
      obtain ⟨h1, h2, h3⟩ := hc
      exact ⟨by rw [hcnt s h1]; omega, fun q => h2 (hbox s 0 q).1, h3⟩
    | fn f caps => simp [C.isFn] at hf
    | _ => exact hc
  have stay : ∀ (c : C) v L, (∀ t i, (t, i) ∈ c.refAt → ∀ rv sv d k l, (e'.get t).cs.getD i .dead = .own rv sv d k l → (e.get t).cs.getD i .dead = .own rv sv d k l) → c.base = true →
      CellOk e w G c v L → CellOk e' w G' c v L := by
    intro c v L hr hb hc
    cases c with
    | fn f caps =>
      obtain ⟨us, Ls, h1, h2, h3⟩ := hc
      refine ⟨us, Ls, h1, h2, fun i c u hci hu => ?_⟩
      obtain ⟨q1, q2, q3⟩ := h3 i c u hci hu
      simp only [C.base, List.all_eq_true] at hb
      have hb' := hb c (List.mem_of_getElem? hci)
      refine ⟨q1, q2, ?_⟩
      cases c with
      | bptr s bv j => exact stay0 _ _ _ (by simp [C.refAt]) (by simpa [C.base] using hb') rfl q3
      | pim cs j => exact stay0 _ _ _ (by simp [C.refAt]) rfl rfl q3
      | dead => trivial
      | _ => simp at hb'
    | ref s j rv sv p lo hi k => exact stay0 (.ref s j rv sv p lo hi k) v L hr hb rfl hc
    | aptr s j rv sv p i c k => exact stay0 (.aptr s j rv sv p i c k) v L hr hb rfl hc
    | bptr s bv j => exact stay0 (.bptr s bv j) v L hr hb rfl hc
    | dead => trivial
    | nil => exact hc
    | dat k x => exact hc
    | own rv sv d k l => exact hc
    | pim cs j => exact hc
  have hlt' : ∀ b s, G'.ow b = some s → b < w.heap.size := h.lt
  refine ⟨G', ⟨h.size, by rw [g.len]; exact h.elen, fun s => ?_, hlt'⟩, ⟨still_refl, fun s hs => ⟨rfl, fun j => by rw [show G'.lt s j = G.lt s j from if_neg fun q => by omega]⟩, fun b t q1 _ _ => ⟨rfl, q1⟩⟩⟩
  have hs := h.slot s
  by_cases hl : s < e.length
  · rcases g.slot s hl with q | q | q
    rotate_left
    rotate_left
    · exact SlotOk.nothing q.2
    · refine ⟨fun _ => ?_, fun bv hb => ?_, fun hd => ?_, fun hd => ?_, fun hd => ?_, ?_, ?_, fun _ => ?_⟩
      · rw [q]; trivial
      · rw [q] at hb; simp [dd] at hb
      · rw [q] at hd; simp [dd] at hd
      · rw [q] at hd; simp [dd] at hd
      · rw [q] at hd; simp [dd] at hd
      · rw [q]; simp [fpS, dd]
      · rw [q]; simp [fpS, dd]
      · rw [q]; rfl
    · have hsub : ∀ (cs cs' : List C) (i : Nat), cs'.length = cs.length → (∀ (j : Nat) c c', cs[j]? = some c → cs'[j]? = some c' → (ownB c' (G'.lt s (i + j))).Sublist (ownB c (G.lt s (i + j)))) →
          (fpCells (G'.lt s) i cs').Sublist (fpCells (G.lt s) i cs) := by
        intro cs
        induction cs with
        | nil => intro cs' i hl _; obtain rfl := List.eq_nil_of_length_eq_zero hl; simp [fpCells]
        | cons c cs ih =>
          intro cs' i hl hc
          cases cs' with
          | nil => simp at hl
          | cons c' cs' =>
            simp only [fpCells]
            refine List.Sublist.append ?_ (ih cs' (i + 1) (by simpa using hl) fun j d d' h1 h2 => ?_)
            · simpa using hc 0 c c' rfl rfl
            · have := hc (j + 1) d d' h1 h2
              rw [show i + 1 + j = i + (j + 1) by omega]; exact this
      have hcellsub : ∀ (j : Nat) c c', (e.get s).cs[j]? = some c → (e'.get s).cs[j]? = some c' → (ownB c' (G'.lt s (0 + j))).Sublist (ownB c (G.lt s (0 + j))) := by
        intro j c c' h1 h2
        rw [Nat.zero_add]
        rcases q.cell j c c' h1 h2 with ⟨rfl, _⟩ | rfl | ⟨hn, rfl, d0, k, rfl | rfl⟩
        · by_cases hc : c' = .nil
          · subst hc; simp [ownB]
          · rw [hlt s j (by rw [getD_some h1]; exact hc)]
            exact List.Sublist.refl _
        · simp [ownB]
        · have : G'.lt s j = .nil := if_pos ⟨hn, getD_some h1 _⟩
          rw [this]; cases d0 <;> simp [ownB, fp, hdOf]
        · simp [ownB]
      have hfp : (fpS G' s (e'.get s)).Sublist (fpS G s (e.get s)) := by
        simp only [fpS, q.sh]
        refine List.Sublist.append ?_ ?_
        · cases (e.get s).sh <;> exact List.Sublist.refl _
        · cases hsh : (e.get s).sh <;> first | exact List.Sublist.refl _ | exact hsub _ _ 0 q.len hcellsub
      refine ⟨fun hn => ?_, fun bv hb => ?_, fun hd => ?_, fun hd j c' v hc' hv => ?_, fun hd j rv sv d k l hc' => ?_, ?_, fun b hb => ?_, fun hd => ?_⟩
      · rw [q.sh]; exact hs.form hn
      · obtain ⟨h1, rfl⟩ := hbox s bv hb
        obtain ⟨_, ty, h3⟩ := hs.box 0 h1
        exact ⟨by rw [q.cnt]; omega, ty, h3⟩
      · rw [q.len]; exact hs.len (by rw [← q.sh]; exact hd)
      · have hjl : j < (e.get s).cs.length := by
          rw [← q.len]
          exact (List.getElem?_eq_some_iff.1 hc').1
        obtain ⟨c, hc⟩ : ∃ c, (e.get s).cs[j]? = some c := ⟨_, List.getElem?_eq_getElem hjl⟩
        have hcell := hs.cells (by rw [← q.sh]; exact hd) j c v hc hv
        rcases q.cell j c c' hc hc' with ⟨rfl, hb⟩ | rfl | ⟨hn, rfl, d0, k, rfl | rfl⟩
        · have := stay c' v (G.lt s j) (fun t i ht => g.refs s j c' hc' t i ht) hb hcell
          by_cases hnil : c' = .nil
          · subst hnil; exact this
          · rw [hlt s j (by rw [getD_some hc]; exact hnil)]; exact this
        · trivial
        · have hL : G'.lt s j = .nil := if_pos ⟨hn, getD_some hc _⟩
          rw [hL]
          have hv' : v = .slice none 0 0 := hcell
          exact ⟨.inl ⟨rfl, rfl, none, 0, hv', fun _ => rfl⟩, fun _ => by simp [inner]⟩
        · have hL : G'.lt s j = .nil := if_pos ⟨hn, getD_some hc _⟩
          rw [hL]
          have hv' : v = .slice none 0 0 := hcell
          refine ⟨?_, by simp [fp]⟩
          simp only [Rep]
          exact ⟨v, rfl, .inl ⟨rfl, rfl, none, 0, hv', fun h => by cases h⟩⟩
      · have hjl : j < (e.get s).cs.length := by
          rw [← q.len]
          exact (List.getElem?_eq_some_iff.1 hc').1
        obtain ⟨c, hc⟩ : ∃ c, (e.get s).cs[j]? = some c := ⟨_, List.getElem?_eq_getElem hjl⟩
        rw [q.cnt]
        rcases q.cell j c _ hc hc' with ⟨rfl, hb⟩ | hb | ⟨hn, rfl, d0, k', hb | hb⟩
        · simp only [C.base, Bool.and_eq_true, beq_iff_eq] at hb
          omega
        · cases hb
        · simp only [C.own.injEq] at hb; omega
        · cases hb
      · exact hfp.nodup hs.nodup
      · exact hs.own b (hfp.subset hb)
      · rw [q.sh] at hd
        have := hs.dead hd
        have h2 := q.len
        rw [this] at h2
        exact List.eq_nil_of_length_eq_zero h2
  · refine SlotOk.nothing (get_out (by rw [g.len]; exact hl))

end Go.Mach
