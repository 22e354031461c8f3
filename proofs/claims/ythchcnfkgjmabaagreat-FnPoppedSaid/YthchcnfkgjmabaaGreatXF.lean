/- The machine, parts Nd Ne Nf Ng. No condition: definitions and lemmas. -/
import Derived.Test.YthchcnfkgjmabaaGreatXE
import Derived.LoopN
/- The machine, part nd: slots that are forgotten, versions set back; slots seen as more general ones. No condition: lemmas. -/
namespace Go.Mach
set_option linter.unusedVariables false
set_option linter.unusedSimpArgs false

/-! ### Versions set back -/
theorem normFrom_get (e0 : Env) (ks : List Nat) : ∀ (e : Env) (s t : Nat), (normFrom e0 ks s e).getD t {} = if t < e.length then normS e0 ks (s + t) (e.getD t {}) else {}
  | [], s, t => by simp [normFrom]
  | x :: r, s, 0 => by simp [normFrom]
  | x :: r, s, t + 1 => by
    have := normFrom_get e0 ks r (s + 1) t
    simp only [normFrom, List.getD_cons_succ, List.length_cons, Nat.add_lt_add_iff_right]
    rw [this, show s + 1 + t = s + (t + 1) by omega]

theorem normFrom_length (e0 : Env) (ks : List Nat) : ∀ (e : Env) (s : Nat), (normFrom e0 ks s e).length = e.length
  | [], s => rfl
  | x :: r, s => by simp [normFrom, normFrom_length e0 ks r (s + 1)]

theorem norm_length (live : List Nat) (e : Env) : (norm live e).length = e.length := normFrom_length _ _ _ _

theorem norm_get (live : List Nat) (e : Env) (s : Nat) : (norm live e).get s = if s < e.length then normS e (keeps e live) s (e.get s) else {} := by
  have := normFrom_get e (keeps e live) e 0 s
  simp only [Nat.zero_add] at this
  exact this

theorem norm_own {live : List Nat} {e : Env} {s j rv sv : Nat} {d : Bool} {k : K} {l : List k.T} (h : ((norm live e).get s).cs.getD j .dead = .own rv sv d k l) :
    rv = 0 ∧ sv = 0 ∧ ∃ rv' sv', (e.get s).cs.getD j .dead = .own rv' sv' d k l := by
  rw [norm_get] at h
  split at h
  · simp only [normS] at h
    split at h
    · have h1 := some_of_getD h (by simp)
      simp only [List.getElem?_map] at h1
      cases hc : (e.get s).cs[j]? with
      | none => rw [hc] at h1; simp at h1
      | some c =>
        rw [hc] at h1
        simp only [Option.map_some, Option.some.injEq] at h1
        cases c with
        | own rv' sv' d' k' l' =>
          simp only [normC, C.own.injEq] at h1
          obtain ⟨rfl, rfl, rfl, rfl, hl⟩ := h1
          have hl := eq_of_heq hl
          subst hl
          exact ⟨rfl, rfl, rv', sv', getD_some hc _⟩
        | ref s' j' rv' sv' p lo hi k' => simp only [normC] at h1; split at h1 <;> (try split at h1) <;> simp at h1
        | aptr s' j' rv' sv' p i c k' => simp only [normC] at h1; split at h1 <;> (try split at h1) <;> simp at h1
        | bptr s' bv j' => simp only [normC] at h1; split at h1 <;> simp at h1
        | _ => simp [normC] at h1
    · simp at h
  · simp at h

theorem norm_box {live : List Nat} {e : Env} {s bv : Nat} (h : ((norm live e).get s).sh = .box bv) : bv = 0 ∧ ((norm live e).get s).cnt = 1 ∧ ∃ bv', (e.get s).sh = .box bv' := by
  rw [norm_get] at h ⊢
  split at h
  · rename_i hl
    rw [if_pos hl]
    simp only [normS] at h ⊢
    split at h
    · rename_i hk
      rw [if_pos hk]
      cases hs : (e.get s).sh <;> rw [hs] at h <;> simp at h
      exact ⟨h.symm, rfl, _, rfl⟩
    · simp at h
  · simp at h

theorem norm_cnt {live : List Nat} {e : Env} {s : Nat} (h : (keeps e live).contains s = true) (hc : 0 < (e.get s).cnt) : ((norm live e).get s).cnt = 1 := by
  rw [norm_get]
  have : s < e.length := by
    rcases Nat.lt_or_ge s e.length with q | q
    · exact q
    · rw [get_out (by omega)] at hc; simp at hc
  rw [if_pos this]
  simp only [normS]
  rw [if_pos h]

theorem normC0 {live : List Nat} {e : Env} {w : World} {G : Gh} {c : C} {v : Value} {L : LT} (hf : c.isFn = false) (h : CellOk0 e w G c v L) : CellOk0 (norm live e) w G (normC e (keeps e live) c) v L := by
  cases c with
  | dead => trivial
  | nil => exact h
  | dat k x => exact h
  | own rv sv d k l => exact h
  | ref s j rv sv p lo hi k =>
    simp only [normC]
    split
    · rename_i rv' sv' d k0 l0 hk hc
      split
      · rename_i hq
        obtain ⟨rfl, hq⟩ := hq
        obtain ⟨h1, h2, h3⟩ := h
        have hcnt := norm_cnt hk (Nat.lt_of_le_of_lt (Nat.zero_le _) h1)
        refine ⟨by rw [hcnt]; omega, fun _ => by rw [hcnt]; omega, fun sv1 d1 k1 l1 g1 g2 => ?_⟩
        obtain ⟨_, _, rv2, sv2, g3⟩ := norm_own g1
        rw [hc] at g3
        simp only [C.own.injEq] at g3
        obtain ⟨rfl, rfl, rfl, rfl, hl⟩ := g3
        have hl := eq_of_heq hl
        subst hl
        refine h3 _ _ _ _ hc ?_
        rcases hq with q | q
        · exact .inl q
        · rcases g2 with g2 | g2
          · exact .inl g2
          · exact .inr ⟨q, g2.2⟩
      · trivial
    · trivial
  | aptr s j rv sv p i c k =>
    simp only [normC]
    split
    · rename_i rv' sv' d k0 l0 hk hc
      split
      · rename_i hq
        obtain ⟨rfl, hq⟩ := hq
        obtain ⟨h0, h1, h2, h3⟩ := h
        have hcnt := norm_cnt hk (Nat.lt_of_le_of_lt (Nat.zero_le _) h1)
        refine ⟨h0, by rw [hcnt]; omega, fun _ => by rw [hcnt]; omega, fun sv1 d1 k1 l1 g1 g2 => ?_⟩
        obtain ⟨_, _, rv2, sv2, g3⟩ := norm_own g1
        rw [hc] at g3
        simp only [C.own.injEq] at g3
        obtain ⟨rfl, rfl, rfl, rfl, hl⟩ := g3
        have hl := eq_of_heq hl
        subst hl
        refine h3 _ _ _ _ hc ?_
        rcases hq with q | q
        · exact .inl q
        · rcases g2 with g2 | g2
          · exact .inl g2
          · exact .inr ⟨q, g2.2⟩
      · trivial
    · trivial
  | bptr s bv j =>
    simp only [normC]
    split
    · rename_i hq
      obtain ⟨h1, h2, h3⟩ := h
      have hcnt := norm_cnt hq.1 (Nat.lt_of_le_of_lt (Nat.zero_le _) h1)
      exact ⟨by rw [hcnt]; omega, fun _ => h2 hq.2, h3⟩
    · trivial
  | pim cs j => exact h
  | fn f caps => simp [C.isFn] at hf

theorem normC_ok {live : List Nat} {e : Env} {w : World} {G : Gh} {c : C} {v : Value} {L : LT} (h : CellOk e w G c v L) : CellOk (norm live e) w G (normC e (keeps e live) c) v L := by
  cases hf : c.isFn with
  | true =>
    cases c with
    | fn f caps =>
      obtain ⟨us, Ls, h1, h2, h3⟩ := h
      refine ⟨us, Ls, h1, by simp [h2], fun i c u hc hu => ?_⟩
      simp only [List.getElem?_map] at hc
      cases hci : caps[i]? with
      | none => rw [hci] at hc; simp at hc
      | some c0 =>
        rw [hci] at hc
        simp only [Option.map_some, Option.some.injEq] at hc
        obtain ⟨g1, g2, g3⟩ := h3 i c0 u hci hu
        subst hc
        have key := normC0 (live := live) g1 g3
        cases c0 with
        | bptr s bv j =>
          refine ⟨?_, ?_, key⟩
          · simp only []; split <;> rfl
          · simp only []; split <;> rfl
        | pim cs j => exact ⟨rfl, rfl, key⟩
        | _ => exact ⟨rfl, rfl, trivial⟩
    | _ => simp [C.isFn] at hf
  | false =>
    have h0 : CellOk0 e w G c v L := by cases c <;> first | exact h | simp [C.isFn] at hf
    have key := normC0 (live := live) hf h0
    have hnf : (normC e (keeps e live) c).isFn = false := by
      cases c <;> simp only [normC] <;> (try split) <;> (try split) <;> first | rfl | simp [C.isFn] at hf
    cases hc' : normC e (keeps e live) c <;> rw [hc'] at key hnf <;> first | exact key | simp [C.isFn] at hnf

theorem normC_ownB {e : Env} {ks : List Nat} {c : C} {L : LT} : ownB (normC e ks c) L = ownB c L := by
  cases c with
  | own rv sv d k l => cases d <;> rfl
  | ref s j rv sv p lo hi k => simp only [normC]; split <;> (try split) <;> rfl
  | aptr s j rv sv p i c k => simp only [normC]; split <;> (try split) <;> rfl
  | bptr s bv j => simp only [normC]; split <;> rfl
  | _ => rfl

/-- Versions set back, what is not live forgotten: the slots stand for the same. -/
theorem norm_inv {n : Nat} {e : Env} {tm : Array Value} {w : World} {G : Gh} (live : List Nat) (h : Inv n e tm w G) : Inv n (norm live e) tm w G := by
  refine ⟨h.size, by rw [norm_length]; exact h.elen, fun s => ?_, h.lt⟩
  have hs := h.slot s
  by_cases hl : s < e.length
  · have hg : (norm live e).get s = normS e (keeps e live) s (e.get s) := by rw [norm_get, if_pos hl]
    by_cases hk : (keeps e live).contains s = true
    · have hg' : (norm live e).get s = { sh := (match (e.get s).sh with | .box _ => .box 0 | h => h), cs := (e.get s).cs.map (normC e (keeps e live)), cnt := 1 } := by
        rw [hg]; simp only [normS]; rw [if_pos hk]; cases (e.get s).sh <;> rfl
      have hsh : ((norm live e).get s).sh ≠ .dead → (e.get s).sh ≠ .dead := by
        intro q r
        rw [hg', r] at q
        exact q rfl
      have hfp : fpS G s ((norm live e).get s) = fpS G s (e.get s) := by
        have key : ∀ (cs : List C) (i : Nat), fpCells (G.lt s) i (cs.map (normC e (keeps e live))) = fpCells (G.lt s) i cs := by
          intro cs
          induction cs with
          | nil => intro i; rfl
          | cons c cs ih => intro i; simp only [List.map_cons, fpCells, normC_ownB, ih]
        rw [hg']
        simp only [fpS, key]
        cases (e.get s).sh <;> rfl
      refine ⟨fun hn => ?_, fun bv hbv => ?_, fun q => ?_, fun q j c v hc hv => ?_, fun q j rv sv d k l hc => ?_, ?_, ?_, fun q => ?_⟩
      · have := hs.form hn
        rw [hg']
        simp only
        revert this
        cases (e.get s).sh <;> exact id
      · obtain ⟨rfl, h1, bv', h2⟩ := norm_box hbv
        obtain ⟨_, ty, h4⟩ := hs.box bv' h2
        exact ⟨by omega, ty, h4⟩
      · rw [hg']; simp only [List.length_map]; exact hs.len (hsh q)
      · rw [hg'] at hc
        simp only [List.getElem?_map] at hc
        cases hcj : (e.get s).cs[j]? with
        | none => rw [hcj] at hc; simp at hc
        | some c0 =>
          rw [hcj] at hc
          simp only [Option.map_some, Option.some.injEq] at hc
          subst hc
          exact normC_ok (hs.cells (hsh q) j c0 v hcj hv)
      · obtain ⟨rfl, rfl, _⟩ := norm_own (getD_some hc .dead)
        rw [hg']; simp
      · rw [hfp]; exact hs.nodup
      · rw [hfp]; exact hs.own
      · rw [hg'] at q ⊢
        simp only at q ⊢
        have : (e.get s).sh = .dead := by
          revert q
          cases (e.get s).sh <;> simp
        rw [hs.dead this]; rfl
    · refine SlotOk.nothing ?_
      rw [hg]
      simp only [normS]
      rw [if_neg hk]
  · refine SlotOk.nothing ?_
    rw [norm_get, if_neg hl]

/-! ### Slots seen as more general ones -/
/-- A slot of which nothing is known. -/
def dd : Slot := { sh := .dead, cs := [], cnt := 1 }

/-- A cell whose versions are set back. -/
def C.base : C → Bool
  | .own rv sv _ _ _ => rv == 0 && sv == 0
  | .ref _ _ rv sv _ _ _ _ => rv == 0 && sv == 0
  | .aptr _ _ rv sv _ _ _ _ => rv == 0 && sv == 0
  | .bptr _ bv _ => bv == 0
  | .fn _ caps => caps.all fun | .bptr _ bv _ => bv == 0 | .pim _ _ => true | .dead => true | _ => false
  | _ => true

/-- Where a cell refers to. -/
def C.refAt : C → List (Nat × Nat)
  | .ref s j _ _ _ _ _ _ => [(s, j)]
  | .aptr s j _ _ _ _ _ _ => [(s, j)]
  | _ => []

def GenC (n s : Nat) (c c' : C) : Prop := (c' = c ∧ c.base = true) ∨ c' = .dead ∨ (s < n ∧ c = .nil ∧ ∃ d k, c' = .own 0 0 d k [] ∨ c' = .dat (.list k) [])

structure GenS (n s : Nat) (x x' : Slot) : Prop where
  sh : x'.sh = x.sh
  cnt : x'.cnt = 1
  box : ∀ bv, x'.sh = .box bv → bv = 0
  len : x'.cs.length = x.cs.length
  cell : ∀ (j : Nat) c c', x.cs[j]? = some c → x'.cs[j]? = some c' → GenC n s c c'

structure Gen (n : Nat) (e e' : Env) : Prop where
  len : e'.length = e.length
  slot : ∀ s, s < e.length → e'.get s = dd ∨ GenS n s (e.get s) (e'.get s) ∨ (e.get s = {} ∧ e'.get s = {})
  refs : ∀ (s j : Nat) (c : C), (e'.get s).cs[j]? = some c → ∀ t i, (t, i) ∈ c.refAt → ∀ rv sv d k l, (e'.get t).cs.getD i .dead = .own rv sv d k l → (e.get t).cs.getD i .dead = .own rv sv d k l

open Classical in
theorem gen_inv {n : Nat} {e e' : Env} {tm : Array Value} {w : World} {G : Gh} (h : Inv n e tm w G) (g : Gen n e e') (m : Nat) : ∃ G', Inv n e' tm w G' ∧ Held n m w w G G' := by
  let G' : Gh := { G with lt := fun s j => if s < n ∧ (e.get s).cs.getD j .dead = .nil then .nil else G.lt s j }
  have hlt : ∀ s j, (e.get s).cs.getD j .dead ≠ .nil → G'.lt s j = G.lt s j := fun s j q => if_neg fun r => q r.2
  have hcnt : ∀ t, 0 < (e.get t).cnt → (e'.get t).cnt = 1 := by
    intro t ht
    have hl : t < e.length := by
      rcases Nat.lt_or_ge t e.length with q | q
      · exact q
      · rw [get_out (by omega)] at ht; simp at ht
    rcases g.slot t hl with q | q | q
    · rw [q]; rfl
    · exact q.cnt
    · rw [q.1] at ht; simp at ht
  have hbox : ∀ t bv, (e'.get t).sh = .box bv → (e.get t).sh = .box bv ∧ bv = 0 := by
    intro t bv q
    by_cases hl : t < e.length
    · rcases g.slot t hl with r | r | r
      · rw [r] at q; simp [dd] at q
      · exact ⟨by rw [← r.sh]; exact q, r.box bv q⟩
      · rw [r.2] at q; simp at q
    · rw [get_out (by rw [g.len]; exact hl)] at q; simp at q
  -- a cell that stays
  have stay0 : ∀ (c : C) v L, (∀ t i, (t, i) ∈ c.refAt → ∀ rv sv d k l, (e'.get t).cs.getD i .dead = .own rv sv d k l → (e.get t).cs.getD i .dead = .own rv sv d k l) → c.base = true → c.isFn = false →
      CellOk0 e w G c v L → CellOk0 e' w G' c v L := by
    intro c v L hr hb hf hc
    cases c with
    | ref s j rv sv p lo hi k =>
      simp only [C.base, Bool.and_eq_true, beq_iff_eq] at hb
      obtain ⟨rfl, rfl⟩ := hb
      obtain ⟨h1, h2, h3⟩ := hc
      have hc1 := hcnt s h1
      refine ⟨by rw [hc1]; omega, fun _ => by rw [hc1]; omega, fun sv1 d1 k1 l1 g1 g2 => ?_⟩
      have g1' := hr s j (by simp [C.refAt]) _ _ _ _ _ g1
      have := h3 sv1 d1 k1 l1 g1' g2
      rw [hlt s j (by rw [g1']; simp)]
      exact this
    | aptr s j rv sv p i c k =>
      simp only [C.base, Bool.and_eq_true, beq_iff_eq] at hb
      obtain ⟨rfl, rfl⟩ := hb
      obtain ⟨h0, h1, h2, h3⟩ := hc
      have hc1 := hcnt s h1
      refine ⟨h0, by rw [hc1]; omega, fun _ => by rw [hc1]; omega, fun sv1 d1 k1 l1 g1 g2 => ?_⟩
      have g1' := hr s j (by simp [C.refAt]) _ _ _ _ _ g1
      have := h3 sv1 d1 k1 l1 g1' g2
      rw [hlt s j (by rw [g1']; simp)]
      exact this
    | bptr s bv j =>
      simp only [C.base, beq_iff_eq] at hb
      subst hb
      obtain ⟨h1, h2, h3⟩ := hc
      exact ⟨by rw [hcnt s h1]; omega, fun q => h2 (hbox s 0 q).1, h3⟩
    | fn f caps => simp [C.isFn] at hf
    | _ => exact hc
  have stay : ∀ (c : C) v L, (∀ t i, (t, i) ∈ c.refAt → ∀ rv sv d k l, (e'.get t).cs.getD i .dead = .own rv sv d k l → (e.get t).cs.getD i .dead = .own rv sv d k l) → c.base = true →
      CellOk e w G c v L → CellOk e' w G' c v L := by
    intro c v L hr hb hc
    cases c with
    | fn f caps =>
      obtain ⟨us, Ls, h1, h2, h3⟩ := hc
      refine ⟨us, Ls, h1, h2, fun i c u hci hu => ?_⟩
      obtain ⟨q1, q2, q3⟩ := h3 i c u hci hu
      simp only [C.base, List.all_eq_true] at hb
      have hb' := hb c (List.mem_of_getElem? hci)
      refine ⟨q1, q2, ?_⟩
      cases c with
      | bptr s bv j => exact stay0 _ _ _ (by simp [C.refAt]) (by simpa [C.base] using hb') rfl q3
      | pim cs j => exact stay0 _ _ _ (by simp [C.refAt]) rfl rfl q3
      | dead => trivial
      | _ => simp at hb'
    | ref s j rv sv p lo hi k => exact stay0 (.ref s j rv sv p lo hi k) v L hr hb rfl hc
    | aptr s j rv sv p i c k => exact stay0 (.aptr s j rv sv p i c k) v L hr hb rfl hc
    | bptr s bv j => exact stay0 (.bptr s bv j) v L hr hb rfl hc
    | dead => trivial
    | nil => exact hc
    | dat k x => exact hc
    | own rv sv d k l => exact hc
    | pim cs j => exact hc
  have hlt' : ∀ b s, G'.ow b = some s → b < w.heap.size := h.lt
  refine ⟨G', ⟨h.size, by rw [g.len]; exact h.elen, fun s => ?_, hlt'⟩, ⟨still_refl, fun s hs => ⟨fun _ => ⟨rfl, fun j => by rw [show G'.lt s j = G.lt s j from if_neg fun q => by omega]⟩, rfl⟩, fun b t q1 _ _ => ⟨rfl, q1⟩⟩⟩
  have hs := h.slot s
  by_cases hl : s < e.length
  · rcases g.slot s hl with q | q | q
    rotate_left
    rotate_left
    · exact SlotOk.nothing q.2
    · refine ⟨fun _ => ?_, fun bv hb => ?_, fun hd => ?_, fun hd => ?_, fun hd => ?_, ?_, ?_, fun _ => ?_⟩
      · rw [q]; trivial
      · rw [q] at hb; simp [dd] at hb
      · rw [q] at hd; simp [dd] at hd
      · rw [q] at hd; simp [dd] at hd
      · rw [q] at hd; simp [dd] at hd
      · rw [q]; simp [fpS, dd]
      · rw [q]; simp [fpS, dd]
      · rw [q]; rfl
    · have hsub : ∀ (cs cs' : List C) (i : Nat), cs'.length = cs.length → (∀ (j : Nat) c c', cs[j]? = some c → cs'[j]? = some c' → (ownB c' (G'.lt s (i + j))).Sublist (ownB c (G.lt s (i + j)))) →
          (fpCells (G'.lt s) i cs').Sublist (fpCells (G.lt s) i cs) := by
        intro cs
        induction cs with
        | nil => intro cs' i hl _; obtain rfl := List.eq_nil_of_length_eq_zero hl; simp [fpCells]
        | cons c cs ih =>
          intro cs' i hl hc
          cases cs' with
          | nil => simp at hl
          | cons c' cs' =>
            simp only [fpCells]
            refine List.Sublist.append ?_ (ih cs' (i + 1) (by simpa using hl) fun j d d' h1 h2 => ?_)
            · simpa using hc 0 c c' rfl rfl
            · have := hc (j + 1) d d' h1 h2
              rw [show i + 1 + j = i + (j + 1) by omega]; exact this
      have hcellsub : ∀ (j : Nat) c c', (e.get s).cs[j]? = some c → (e'.get s).cs[j]? = some c' → (ownB c' (G'.lt s (0 + j))).Sublist (ownB c (G.lt s (0 + j))) := by
        intro j c c' h1 h2
        rw [Nat.zero_add]
        rcases q.cell j c c' h1 h2 with ⟨rfl, _⟩ | rfl | ⟨hn, rfl, d0, k, rfl | rfl⟩
        · by_cases hc : c' = .nil
          · subst hc; simp [ownB]
          · rw [hlt s j (by rw [getD_some h1]; exact hc)]
            exact List.Sublist.refl _
        · simp [ownB]
        · have : G'.lt s j = .nil := if_pos ⟨hn, getD_some h1 _⟩
          rw [this]; cases d0 <;> simp [ownB, fp, hdOf]
        · simp [ownB]
      have hfp : (fpS G' s (e'.get s)).Sublist (fpS G s (e.get s)) := by
        simp only [fpS, q.sh]
        refine List.Sublist.append ?_ ?_
        · cases (e.get s).sh <;> exact List.Sublist.refl _
        · cases hsh : (e.get s).sh <;> first | exact List.Sublist.refl _ | exact hsub _ _ 0 q.len hcellsub
      refine ⟨fun hn => ?_, fun bv hb => ?_, fun hd => ?_, fun hd j c' v hc' hv => ?_, fun hd j rv sv d k l hc' => ?_, ?_, fun b hb => ?_, fun hd => ?_⟩
      · rw [q.sh]; exact hs.form hn
      · obtain ⟨h1, rfl⟩ := hbox s bv hb
        obtain ⟨_, ty, h3⟩ := hs.box 0 h1
        exact ⟨by rw [q.cnt]; omega, ty, h3⟩
      · rw [q.len]; exact hs.len (by rw [← q.sh]; exact hd)
      · have hjl : j < (e.get s).cs.length := by
          rw [← q.len]
          exact (List.getElem?_eq_some_iff.1 hc').1
        obtain ⟨c, hc⟩ : ∃ c, (e.get s).cs[j]? = some c := ⟨_, List.getElem?_eq_getElem hjl⟩
        have hcell := hs.cells (by rw [← q.sh]; exact hd) j c v hc hv
        rcases q.cell j c c' hc hc' with ⟨rfl, hb⟩ | rfl | ⟨hn, rfl, d0, k, rfl | rfl⟩
        · have := stay c' v (G.lt s j) (fun t i ht => g.refs s j c' hc' t i ht) hb hcell
          by_cases hnil : c' = .nil
          · subst hnil; exact this
          · rw [hlt s j (by rw [getD_some hc]; exact hnil)]; exact this
        · trivial
        · have hL : G'.lt s j = .nil := if_pos ⟨hn, getD_some hc _⟩
          rw [hL]
          have hv' : v = .slice none 0 0 := hcell
          exact ⟨.inl ⟨rfl, rfl, none, 0, hv', fun _ => rfl⟩, fun _ => by simp [inner]⟩
        · have hL : G'.lt s j = .nil := if_pos ⟨hn, getD_some hc _⟩
          rw [hL]
          have hv' : v = .slice none 0 0 := hcell
          refine ⟨?_, by simp [fp]⟩
          simp only [Rep]
          exact ⟨v, rfl, .inl ⟨rfl, rfl, none, 0, hv', fun h => by cases h⟩⟩
      · have hjl : j < (e.get s).cs.length := by
          rw [← q.len]
          exact (List.getElem?_eq_some_iff.1 hc').1
        obtain ⟨c, hc⟩ : ∃ c, (e.get s).cs[j]? = some c := ⟨_, List.getElem?_eq_getElem hjl⟩
        rw [q.cnt]
        rcases q.cell j c _ hc hc' with ⟨rfl, hb⟩ | hb | ⟨hn, rfl, d0, k', hb | hb⟩
        · simp only [C.base, Bool.and_eq_true, beq_iff_eq] at hb
          omega
        · cases hb
        · simp only [C.own.injEq] at hb; omega
        · cases hb
      · exact hfp.nodup hs.nodup
      · exact hs.own b (hfp.subset hb)
      · rw [q.sh] at hd
        have := hs.dead hd
        have h2 := q.len
        rw [this] at h2
        exact List.eq_nil_of_length_eq_zero h2
  · refine SlotOk.nothing (get_out (by rw [g.len]; exact hl))

end Go.Mach
/- The machine, part ne: patterns of slots, with typed holes. No condition: definitions and lemmas. -/
namespace Go.Mach
set_option linter.unusedVariables false
set_option linter.unusedSimpArgs false

/-- What a function value has captured. -/
inductive PF where
  | dead
  | bptr (s j : Nat)
  | pim (ks : List K) (j : Nat)

/-- A pattern of a cell. -/
inductive PC where
  | dead
  | nil
  | dat (k : K)
  | own (deep : Bool) (k : K)
  | ref (s j : Nat) (p : List Nat) (lo hi : Bool) (k : K)
  | bptr (s j : Nat)
  | aptr (s j : Nat) (p : List Nat) (c : Nat) (k : K)
  | pim (ks : List K) (j : Nat)
  | fn (f : Nat) (caps : List PF)

@[reducible] def PathT : List Nat → Type
  | [] => Unit
  | _ :: r => Nat × PathT r

@[reducible] def OptT : Bool → Type
  | true => Nat
  | false => Unit

@[reducible] def KsT : List K → Type
  | [] => Unit
  | k :: r => k.T × KsT r

@[reducible] def PF.T : PF → Type
  | .pim ks _ => KsT ks
  | _ => Unit

@[reducible] def PFsT : List PF → Type
  | [] => Unit
  | f :: r => f.T × PFsT r

@[reducible] def PC.T : PC → Type
  | .dat k => k.T
  | .own _ k => List k.T
  | .ref _ _ p lo hi _ => PathT p × OptT lo × OptT hi
  | .aptr _ _ p _ _ => PathT p × Nat
  | .pim ks _ => KsT ks
  | .fn _ caps => PFsT caps
  | _ => Unit

@[reducible] def CsT : List PC → Type
  | [] => Unit
  | [c] => c.T
  | c :: c' :: r => c.T × CsT (c' :: r)

/-! ### Out of data -/
def encPath : (p : List Nat) → PathT p → Path
  | [], _ => []
  | c :: r, d => (d.1, c) :: encPath r d.2

def encOpt : (b : Bool) → OptT b → Option Nat
  | true, n => some n
  | false, _ => none

def encKs : (ks : List K) → KsT ks → List C
  | [], _ => []
  | k :: r, d => .dat k d.1 :: encKs r d.2

def encPF : (f : PF) → f.T → C
  | .dead, _ => .dead
  | .bptr s j, _ => .bptr s 0 j
  | .pim ks j, d => .pim (encKs ks d) j

def encPFs : (fs : List PF) → PFsT fs → List C
  | [], _ => []
  | f :: r, d => encPF f d.1 :: encPFs r d.2

def encC : (p : PC) → p.T → C
  | .dead, _ => .dead
  | .nil, _ => .nil
  | .dat k, x => .dat k x
  | .own deep k, l => .own 0 0 deep k l
  | .ref s j p lo hi k, d => .ref s j 0 0 (encPath p d.1) (encOpt lo d.2.1) (encOpt hi d.2.2) k
  | .bptr s j, _ => .bptr s 0 j
  | .aptr s j p c k, d => .aptr s j 0 0 (encPath p d.1) d.2 c k
  | .pim ks j, d => .pim (encKs ks d) j
  | .fn f caps, d => .fn f (encPFs caps d)

def encCs : (ps : List PC) → CsT ps → List C
  | [], _ => []
  | [p], d => [encC p d]
  | p :: q :: r, d => encC p d.1 :: encCs (q :: r) d.2

/-! ### Into data -/
def castK (k : K) (x : k.T) (k' : K) : Option k'.T := if h : k = k' then some (h ▸ x) else none

def decPath : (p : List Nat) → Path → Option (PathT p)
  | [], [] => some ()
  | c :: r, (i, c') :: q => match Nat.beq c c', decPath r q with
    | true, some d => some (i, d)
    | _, _ => none
  | _, _ => none

def decOpt : (b : Bool) → Option Nat → Option (OptT b)
  | true, some n => some n
  | false, none => some ()
  | _, _ => none

def decKs : (ks : List K) → List C → Option (KsT ks)
  | [], [] => some ()
  | k :: r, .dat k' x :: cs => match castK k' x k, decKs r cs with
    | some x, some d => some (x, d)
    | _, _ => none
  | _, _ => none

def decPF : (f : PF) → C → Option f.T
  | .dead, .dead => some ()
  | .bptr s j, .bptr s' bv j' => if Nat.beq s s' && Nat.beq bv 0 && Nat.beq j j' then some () else none
  | .pim ks j, .pim cs j' => if Nat.beq j j' then decKs ks cs else none
  | _, _ => none

def decPFs : (fs : List PF) → List C → Option (PFsT fs)
  | [], [] => some ()
  | f :: r, c :: cs => match decPF f c, decPFs r cs with
    | some x, some d => some (x, d)
    | _, _ => none
  | _, _ => none

/-- May what is nil be seen as an empty list here? -/
def mayNil (n s j : Nat) (refs : List (Nat × Nat)) : Bool := Nat.blt s n && refs.all fun r => !(Nat.beq r.1 s && Nat.beq r.2 j)

def decC (n s j : Nat) (refs : List (Nat × Nat)) : (p : PC) → C → Option p.T
  | .dead, _ => some ()
  | .nil, .nil => some ()
  | .dat k, .dat k' x => castK k' x k
  | .dat k, .nil => if mayNil n s j refs then match k with
      | .list _ => some []
      | _ => none
    else none
  | .own deep k, .own rv sv d k' l => if Nat.beq rv 0 && Nat.beq sv 0 && (deep == d) then castL k' l k else none
  | .own deep k, .nil => if mayNil n s j refs then some [] else none
  | .ref s0 j0 p lo hi k, .ref s1 j1 rv sv p' lo' hi' k' => if Nat.beq s0 s1 && Nat.beq j0 j1 && Nat.beq rv 0 && Nat.beq sv 0 && decide (k = k') then
      match decPath p p', decOpt lo lo', decOpt hi hi' with
      | some a, some b, some c => some (a, b, c)
      | _, _, _ => none
    else none
  | .bptr s0 j0, .bptr s1 bv j1 => if Nat.beq s0 s1 && Nat.beq bv 0 && Nat.beq j0 j1 then some () else none
  | .aptr s0 j0 p c k, .aptr s1 j1 rv sv p' i c' k' => if Nat.beq s0 s1 && Nat.beq j0 j1 && Nat.beq rv 0 && Nat.beq sv 0 && Nat.beq c c' && decide (k = k') then
      match decPath p p' with
      | some a => some (a, i)
      | none => none
    else none
  | .pim ks j0, .pim cs j1 => if Nat.beq j0 j1 then decKs ks cs else none
  | .fn f caps, .fn f' cs => if Nat.beq f f' then decPFs caps cs else none
  | _, _ => none

def decCs (n s : Nat) (refs : List (Nat × Nat)) : (j : Nat) → (ps : List PC) → List C → Option (CsT ps)
  | _, [], [] => some ()
  | j, [p], [c] => decC n s j refs p c
  | j, p :: q :: r, c :: cs => match decC n s j refs p c, decCs n s refs (j + 1) (q :: r) cs with
    | some x, some d => some (x, d)
    | _, _ => none
  | _, _, _ => none

/-! ### Slots -/
inductive PSh where
  | one | agg | box

def PSh.sh : PSh → Sh
  | .one => .one
  | .agg => .agg
  | .box => .box 0

def PSh.fits : PSh → Sh → Bool
  | .one, .one => true
  | .agg, .agg => true
  | .box, .box bv => Nat.beq bv 0
  | _, _ => false

/-- A slot's pattern. -/
structure SP where
  s : Nat
  sh : PSh
  cs : List PC

@[reducible] def EsT : List SP → Type
  | [] => Unit
  | [p] => CsT p.cs
  | p :: q :: r => CsT p.cs × EsT (q :: r)

def PC.refAt : PC → List (Nat × Nat)
  | .ref s j _ _ _ _ => [(s, j)]
  | .aptr s j _ _ _ => [(s, j)]
  | _ => []

def spRefs (ps : List SP) : List (Nat × Nat) := ps.flatMap fun p => p.cs.flatMap PC.refAt

def encS (p : SP) (d : CsT p.cs) : Slot := { sh := p.sh.sh, cs := encCs p.cs d, cnt := 1 }

def decS (n s : Nat) (refs : List (Nat × Nat)) (p : SP) (x : Slot) : Option (CsT p.cs) :=
  if p.sh.fits x.sh && Nat.beq x.cnt 1 then decCs n s refs 0 p.cs x.cs else none

/-- Slots of a length, with those of the patterns. -/
def encE (i : Nat) : (m : Nat) → (ps : List SP) → EsT ps → Env
  | 0, _, _ => []
  | m + 1, [], _ => dd :: encE (i + 1) m [] ()
  | m + 1, [p], d => match Nat.beq p.s i with
    | true => encS p d :: encE (i + 1) m [] ()
    | false => dd :: encE (i + 1) m [p] d
  | m + 1, p :: q :: r, d => match Nat.beq p.s i with
    | true => encS p d.1 :: encE (i + 1) m (q :: r) d.2
    | false => dd :: encE (i + 1) m (p :: q :: r) d

def decE (n : Nat) (refs : List (Nat × Nat)) (i : Nat) : Env → (ps : List SP) → Option (EsT ps)
  | _, [] => some ()
  | [], _ :: _ => none
  | x :: e, [p] => match Nat.beq p.s i with
    | true => decS n i refs p x
    | false => decE n refs (i + 1) e [p]
  | x :: e, p :: q :: r => match Nat.beq p.s i with
    | true => match decS n i refs p x, decE n refs (i + 1) e (q :: r) with
      | some a, some b => some (a, b)
      | _, _ => none
    | false => decE n refs (i + 1) e (p :: q :: r)

/-! ### Lemmas -/
theorem decPath_ok : ∀ {p : List Nat} {q : Path} {d : PathT p}, decPath p q = some d → encPath p d = q
  | [], [], d, _ => rfl
  | [], _ :: _, d, h => by simp [decPath] at h
  | _ :: _, [], d, h => by simp [decPath] at h
  | c :: r, (i, c') :: q, d, h => by
    simp only [decPath] at h
    split at h
    · rename_i d' hc hd
      simp only [Option.some.injEq] at h
      subst h
      have := Nat.eq_of_beq_eq_true hc
      subst this
      simp [encPath, decPath_ok hd]
    · simp at h

theorem decOpt_ok {b : Bool} {o : Option Nat} {d : OptT b} (h : decOpt b o = some d) : encOpt b d = o := by
  cases b <;> cases o <;> simp [decOpt] at h
  · rfl
  · subst h; rfl

theorem castK_ok {k k' : K} {x : k.T} {y : k'.T} (h : castK k x k' = some y) : (C.dat k' y) = C.dat k x := by
  unfold castK at h
  split at h
  · rename_i hk
    subst hk
    simp only [Option.some.injEq] at h
    rw [h]
  · simp at h

theorem castL_ok' {k k' : K} {x : List k.T} {y : List k'.T} (h : castL k x k' = some y) (d : Bool) : (C.own 0 0 d k' y) = C.own 0 0 d k x := by
  unfold castL at h
  split at h
  · rename_i hk
    subst hk
    simp only [Option.some.injEq] at h
    rw [h]
  · simp at h

theorem decKs_ok : ∀ {ks : List K} {cs : List C} {d : KsT ks}, decKs ks cs = some d → encKs ks d = cs
  | [], [], d, _ => rfl
  | [], _ :: _, d, h => by simp [decKs] at h
  | k :: r, [], d, h => by simp [decKs] at h
  | k :: r, c :: cs, d, h => by
    cases c with
    | dat k' x =>
      simp only [decKs] at h
      split at h
      · rename_i x' d' h1 h2
        simp only [Option.some.injEq] at h
        subst h
        simp only [encKs, castK_ok h1, decKs_ok h2]
      · simp at h
    | _ => simp [decKs] at h

theorem decPFs_ok : ∀ {fs : List PF} {cs : List C} {d : PFsT fs}, decPFs fs cs = some d → encPFs fs d = cs ∧ (C.fn 0 cs).base = true
  | [], [], d, _ => ⟨rfl, rfl⟩
  | [], _ :: _, d, h => by simp [decPFs] at h
  | f :: r, [], d, h => by simp [decPFs] at h
  | f :: r, c :: cs, d, h => by
    simp only [decPFs] at h
    split at h
    · rename_i x d' h1 h2
      simp only [Option.some.injEq] at h
      subst h
      obtain ⟨g1, g2⟩ := decPFs_ok h2
      simp only [C.base] at g2
      have key : encPF f x = c ∧ (C.fn 0 [c]).base = true := by
        cases f with
        | dead => cases c <;> simp [decPF] at h1; exact ⟨rfl, rfl⟩
        | bptr s j =>
          cases c with
          | bptr s' bv j' =>
            simp only [decPF] at h1
            split at h1
            · rename_i hq
              simp only [Bool.and_eq_true] at hq
              obtain ⟨⟨q1, q2⟩, q3⟩ := hq
              have q1 := Nat.eq_of_beq_eq_true q1
              have q2 := Nat.eq_of_beq_eq_true q2
              have q3 := Nat.eq_of_beq_eq_true q3
              subst q1 q2 q3
              exact ⟨rfl, rfl⟩
            · simp at h1
          | _ => simp [decPF] at h1
        | pim ks j =>
          cases c with
          | pim cs' j' =>
            simp only [decPF] at h1
            split at h1
            · rename_i q1
              have q1 := Nat.eq_of_beq_eq_true q1
              subst q1
              exact ⟨by simp only [encPF, decKs_ok h1], rfl⟩
            · simp at h1
          | _ => simp [decPF] at h1
      simp only [encPFs, key.1, g1, true_and]
      have k2 := key.2
      simp only [C.base, List.all_cons, List.all_nil, Bool.and_true, Bool.and_eq_true] at k2 ⊢
      exact ⟨k2, g2⟩
    · simp at h

theorem mayNil_ok {n s j : Nat} {refs : List (Nat × Nat)} (h : mayNil n s j refs = true) : s < n ∧ (s, j) ∉ refs := by
  simp only [mayNil, Bool.and_eq_true, List.all_eq_true] at h
  refine ⟨Nat.le_of_ble_eq_true h.1, fun hm => ?_⟩
  have := h.2 _ hm
  simp at this

/-- What a pattern makes of a cell. -/
theorem decC_ok {n s j : Nat} {refs : List (Nat × Nat)} {p : PC} {c : C} {d : p.T} (h : decC n s j refs p c = some d) :
    (encC p d = c ∧ c.base = true) ∨ encC p d = .dead ∨ ((s < n ∧ c = .nil ∧ ∃ d' k, encC p d = .own 0 0 d' k [] ∨ encC p d = .dat (.list k) []) ∧ (s, j) ∉ refs) := by
  cases p with
  | dead => exact .inr (.inl rfl)
  | nil => cases c <;> simp [decC] at h; exact .inl ⟨rfl, rfl⟩
  | dat k =>
    cases c with
    | dat k' x =>
      left
      simp only [decC] at h
      exact ⟨castK_ok h, rfl⟩
    | nil =>
      right; right
      simp only [decC] at h
      split at h
      · rename_i hm
        cases k with
        | list k' =>
          simp only [Option.some.injEq] at h
          subst h
          exact ⟨⟨(mayNil_ok hm).1, rfl, true, k', .inr rfl⟩, (mayNil_ok hm).2⟩
        | _ => simp at h
      · simp at h
    | _ => simp [decC] at h
  | own deep k =>
    cases c with
    | own rv sv d' k' l =>
      left
      simp only [decC] at h
      split at h
      · rename_i hq
        simp only [Bool.and_eq_true, beq_iff_eq] at hq
        obtain ⟨⟨q1, q2⟩, q3⟩ := hq
        have q1 := Nat.eq_of_beq_eq_true q1
        have q2 := Nat.eq_of_beq_eq_true q2
        subst q1 q2 q3
        exact ⟨castL_ok' h deep, rfl⟩
      · simp at h
    | nil =>
      right; right
      simp only [decC] at h
      split at h
      · rename_i hm
        simp only [Option.some.injEq] at h
        subst h
        exact ⟨⟨(mayNil_ok hm).1, rfl, deep, k, .inl rfl⟩, (mayNil_ok hm).2⟩
      · simp at h
    | _ => simp [decC] at h
  | ref s0 j0 pp lo hi k =>
    left
    cases c with
    | ref s1 j1 rv sv p' lo' hi' k' =>
      simp only [decC] at h
      split at h
      · rename_i hq
        simp only [Bool.and_eq_true, decide_eq_true_eq] at hq
        obtain ⟨⟨⟨⟨q1, q2⟩, q3⟩, q4⟩, q5⟩ := hq
        have q1 := Nat.eq_of_beq_eq_true q1
        have q2 := Nat.eq_of_beq_eq_true q2
        have q3 := Nat.eq_of_beq_eq_true q3
        have q4 := Nat.eq_of_beq_eq_true q4
        subst q1 q2 q3 q4 q5
        split at h
        · rename_i a b c' h1 h2 h3
          simp only [Option.some.injEq] at h
          subst h
          exact ⟨by simp only [encC, decPath_ok h1, decOpt_ok h2, decOpt_ok h3], rfl⟩
        · simp at h
      · simp at h
    | _ => simp [decC] at h
  | bptr s0 j0 =>
    left
    cases c with
    | bptr s1 bv j1 =>
      simp only [decC] at h
      split at h
      · rename_i hq
        simp only [Bool.and_eq_true] at hq
        obtain ⟨⟨q1, q2⟩, q3⟩ := hq
        have q1 := Nat.eq_of_beq_eq_true q1
        have q2 := Nat.eq_of_beq_eq_true q2
        have q3 := Nat.eq_of_beq_eq_true q3
        subst q1 q2 q3
        exact ⟨rfl, rfl⟩
      · simp at h
    | _ => simp [decC] at h
  | aptr s0 j0 pp c0 k =>
    left
    cases c with
    | aptr s1 j1 rv sv p' i c' k' =>
      simp only [decC] at h
      split at h
      · rename_i hq
        simp only [Bool.and_eq_true, decide_eq_true_eq] at hq
        obtain ⟨⟨⟨⟨⟨q1, q2⟩, q3⟩, q4⟩, q5⟩, q6⟩ := hq
        have q1 := Nat.eq_of_beq_eq_true q1
        have q2 := Nat.eq_of_beq_eq_true q2
        have q3 := Nat.eq_of_beq_eq_true q3
        have q4 := Nat.eq_of_beq_eq_true q4
        have q5 := Nat.eq_of_beq_eq_true q5
        subst q1 q2 q3 q4 q5 q6
        split at h
        · rename_i a h1
          simp only [Option.some.injEq] at h
          subst h
          exact ⟨by simp only [encC, decPath_ok h1], rfl⟩
        · simp at h
      · simp at h
    | _ => simp [decC] at h
  | pim ks j0 =>
    left
    cases c with
    | pim cs j1 =>
      simp only [decC] at h
      split at h
      · rename_i q1
        have q1 := Nat.eq_of_beq_eq_true q1
        subst q1
        exact ⟨by simp only [encC, decKs_ok h], rfl⟩
      · simp at h
    | _ => simp [decC] at h
  | fn f caps =>
    left
    cases c with
    | fn f' cs =>
      simp only [decC] at h
      split at h
      · rename_i q1
        have q1 := Nat.eq_of_beq_eq_true q1
        subst q1
        obtain ⟨g1, g2⟩ := decPFs_ok h
        exact ⟨by simp only [encC, g1], g2⟩
      · simp at h
    | _ => simp [decC] at h

theorem encC_refAt {p : PC} {d : p.T} : (encC p d).refAt = p.refAt := by cases p <;> rfl

theorem encCs_length : ∀ {ps : List PC} {d : CsT ps}, (encCs ps d).length = ps.length
  | [], _ => rfl
  | [p], d => rfl
  | p :: q :: r, d => by simp [encCs, encCs_length (ps := q :: r)]

theorem encCs_refAt : ∀ {ps : List PC} {d : CsT ps} {j : Nat} {c : C}, (encCs ps d)[j]? = some c → ∀ q ∈ c.refAt, q ∈ ps.flatMap PC.refAt
  | [], _, j, c, h => by simp [encCs] at h
  | [p], d, j, c, h => by
    cases j with
    | succ j => simp [encCs] at h
    | zero =>
      simp only [encCs, List.getElem?_cons_zero, Option.some.injEq] at h
      subst h
      intro q hq
      rw [encC_refAt] at hq
      simp [hq]
  | p :: q :: r, d, 0, c, h => by
    simp only [encCs, List.getElem?_cons_zero, Option.some.injEq] at h
    subst h
    intro q hq
    rw [encC_refAt] at hq
    simp [hq]
  | p :: q :: r, d, j + 1, c, h => by
    intro q' hq
    have := encCs_refAt (ps := q :: r) (by simpa [encCs] using h) q' hq
    rw [List.flatMap_cons, List.mem_append]
    exact .inr this

theorem decCs_ok {n s : Nat} {refs : List (Nat × Nat)} : ∀ {ps : List PC} {j : Nat} {cs : List C} {d : CsT ps}, decCs n s refs j ps cs = some d → (encCs ps d).length = cs.length ∧
    ∀ (i : Nat) c c', cs[i]? = some c → (encCs ps d)[i]? = some c' → (c' = c ∧ c.base = true) ∨ c' = .dead ∨ ((s < n ∧ c = .nil ∧ ∃ d' k, c' = .own 0 0 d' k [] ∨ c' = .dat (.list k) []) ∧ (s, j + i) ∉ refs)
  | [], j, [], d, _ => ⟨rfl, fun i c c' h => by simp at h⟩
  | [], j, _ :: _, d, h => by simp [decCs] at h
  | [p], j, [], d, h => by simp [decCs] at h
  | [p], j, [c], d, h => by
    simp only [decCs] at h
    refine ⟨rfl, fun i c0 c1 hc hc' => ?_⟩
    cases i with
    | zero =>
      simp only [List.getElem?_cons_zero, Option.some.injEq, encCs] at hc hc'
      subst hc hc'
      exact decC_ok h
    | succ i => simp at hc
  | [p], j, _ :: _ :: _, d, h => by simp [decCs] at h
  | p :: q :: r, j, [], d, h => by simp [decCs] at h
  | p :: q :: r, j, c :: cs, d, h => by
    simp only [decCs] at h
    split at h
    · rename_i x d' h1 h2
      simp only [Option.some.injEq] at h
      subst h
      obtain ⟨g1, g2⟩ := decCs_ok h2
      refine ⟨by simp [encCs, g1], fun i c0 c1 hc hc' => ?_⟩
      cases i with
      | zero =>
        simp only [List.getElem?_cons_zero, Option.some.injEq, encCs] at hc hc'
        subst hc hc'
        exact decC_ok h1
      | succ i =>
        have := g2 i c0 c1 (by simpa using hc) (by simpa [encCs] using hc')
        rw [show j + 1 + i = j + (i + 1) by omega] at this
        exact this
    · simp at h

theorem encE_length : ∀ {m i : Nat} {ps : List SP} {d : EsT ps}, (encE i m ps d).length = m
  | 0, i, ps, d => by simp [encE]
  | m + 1, i, [], d => by simp [encE, encE_length]
  | m + 1, i, [p], d => by
    simp only [encE]
    split <;> simp [encE_length]
  | m + 1, i, p :: q :: r, d => by
    simp only [encE]
    split <;> simp [encE_length]

theorem encE_nil : ∀ (m i t : Nat), t < m → Env.get (encE i m [] ()) t = dd := by
  intro m
  induction m with
  | zero => intro i t h; omega
  | succ m ih =>
    intro i t h
    cases t with
    | zero => simp [encE, Env.get]
    | succ t =>
      have := ih (i + 1) t (by omega)
      simpa [encE, Env.get] using this

/-- Slots, as patterns see them. -/
theorem decE_ok {n : Nat} {refs : List (Nat × Nat)} : ∀ {e : Env} {i : Nat} {ps : List SP} {d : EsT ps}, decE n refs i e ps = some d → ∀ t, t < e.length →
    (Env.get (encE i e.length ps d) t = dd ∨ ∃ p ∈ ps, ∃ dp, Env.get (encE i e.length ps d) t = encS p dp ∧ decS n (i + t) refs p (e.get t) = some dp)
  | e, i, [], d, h, t, ht => .inl (encE_nil _ _ _ ht)
  | [], i, p :: r, d, h, t, ht => by simp [decE] at h
  | x :: e, i, [p], d, h, t, ht => by
    simp only [decE] at h
    split at h
    · rename_i hi
      simp only [List.length_cons, encE, hi]
      cases t with
      | zero =>
        right
        refine ⟨p, by simp, d, by simp [Env.get], ?_⟩
        simpa [Env.get] using h
      | succ t =>
        left
        have := encE_nil e.length (i + 1) t (by simpa using ht)
        simpa [Env.get] using this
    · rename_i hi
      simp only [List.length_cons, encE, hi]
      cases t with
      | zero => left; simp [Env.get]
      | succ t =>
        have := decE_ok h t (by simpa using ht)
        rcases this with q | ⟨p', hp', dp, q1, q2⟩
        · left; simpa [Env.get] using q
        · right
          refine ⟨p', hp', dp, by simpa [Env.get] using q1, ?_⟩
          rw [show i + (t + 1) = i + 1 + t by omega]
          simpa [Env.get] using q2
  | x :: e, i, p :: q :: r, d, h, t, ht => by
    simp only [decE] at h
    split at h
    · rename_i hi
      split at h
      · rename_i a b h1 h2
        simp only [Option.some.injEq] at h
        subst h
        simp only [List.length_cons, encE, hi]
        cases t with
        | zero =>
          right
          refine ⟨p, by simp, a, by simp [Env.get], ?_⟩
          simpa [Env.get] using h1
        | succ t =>
          have := decE_ok h2 t (by simpa using ht)
          rcases this with q' | ⟨p', hp', dp, q1, q2⟩
          · left; simpa [Env.get] using q'
          · right
            refine ⟨p', by simp only [List.mem_cons] at hp' ⊢; exact .inr hp', dp, by simpa [Env.get] using q1, ?_⟩
            rw [show i + (t + 1) = i + 1 + t by omega]
            simpa [Env.get] using q2
      · simp at h
    · rename_i hi
      simp only [List.length_cons, encE, hi]
      cases t with
      | zero => left; simp [Env.get]
      | succ t =>
        have := decE_ok h t (by simpa using ht)
        rcases this with q' | ⟨p', hp', dp, q1, q2⟩
        · left; simpa [Env.get] using q'
        · right
          refine ⟨p', hp', dp, by simpa [Env.get] using q1, ?_⟩
          rw [show i + (t + 1) = i + 1 + t by omega]
          simpa [Env.get] using q2

theorem PSh.fits_ok {p : PSh} {s : Sh} (h : p.fits s = true) : p.sh = s := by
  cases p <;> cases s <;> simp_all [PSh.fits, PSh.sh]

/-- What patterns make of slots is more general. -/
theorem dec_gen {n : Nat} {e : Env} {ps : List SP} {d : EsT ps} (h : decE n (spRefs ps) 0 e ps = some d) : Gen n e (encE 0 e.length ps d) := by
  have hok := decE_ok h
  refine ⟨encE_length, fun s hs => ?_, fun s j c hc t i ht rv sv dp k l hown => ?_⟩
  · rcases hok s hs with q | ⟨p, hp, dp, q1, q2⟩
    · exact .inl q
    · right; left
      rw [q1]
      simp only [decS] at q2
      split at q2
      · rename_i hq
        simp only [Bool.and_eq_true] at hq
        obtain ⟨g1, g2⟩ := decCs_ok q2
        refine ⟨(PSh.fits_ok hq.1), rfl, fun bv hb => ?_, g1, fun j c c' hc hc' => ?_⟩
        · simp only [encS] at hb
          cases hp' : p.sh <;> rw [hp'] at hb <;> simp [PSh.sh] at hb
          exact hb.symm
        · rcases g2 j c c' hc hc' with r | r | r
          · exact .inl r
          · exact .inr (.inl r)
          · have := r.1
            rw [Nat.zero_add] at this
            exact .inr (.inr this)
      · simp at q2
  · have hs : s < e.length := by
      rcases Nat.lt_or_ge s e.length with q | q
      · exact q
      · rw [get_out (by rw [encE_length]; omega)] at hc; simp at hc
    have htl : t < e.length := by
      rcases Nat.lt_or_ge t e.length with q | q
      · exact q
      · rw [get_out (by rw [encE_length]; omega)] at hown; simp at hown
    have hrefs : (t, i) ∈ spRefs ps := by
      rcases hok s hs with q | ⟨p, hp, dp', q1, q2⟩
      · rw [q] at hc; simp [dd] at hc
      · rw [q1] at hc
        simp only [spRefs, List.mem_flatMap]
        exact ⟨p, hp, by simpa [List.mem_flatMap] using encCs_refAt hc (t, i) ht⟩
    rcases hok t htl with q | ⟨p, hp, dp', q1, q2⟩
    · rw [q] at hown; simp [dd] at hown
    · rw [q1] at hown
      simp only [decS] at q2
      split at q2
      · obtain ⟨g1, g2⟩ := decCs_ok q2
        have h1 := some_of_getD hown (by simp)
        have hil : i < (e.get t).cs.length := by rw [← g1]; exact (List.getElem?_eq_some_iff.1 h1).1
        obtain ⟨c0, hc0⟩ : ∃ c0, (e.get t).cs[i]? = some c0 := ⟨_, List.getElem?_eq_getElem hil⟩
        rcases g2 i c0 _ hc0 h1 with r | r | r
        · rw [getD_some hc0]; exact r.1.symm
        · cases r
        · exfalso
          have := r.2
          rw [Nat.zero_add, Nat.zero_add] at this
          exact this hrefs
      · simp at q2

/-- A list of patterns for slots of a length, over versions set back. -/
structure EP where
  len : Nat
  ps : List SP

@[reducible] def EP.T (P : EP) : Type := EsT P.ps

def EP.enc (P : EP) (d : P.T) : Env := encE 0 P.len P.ps d

/-- The places whose data the pattern takes as frozen below the root. -/
def frozenAt (s : Nat) : Nat → List PC → List (Nat × Nat)
  | _, [] => []
  | j, .own false _ :: r => (s, j) :: frozenAt s (j + 1) r
  | j, _ :: r => frozenAt s (j + 1) r

def frozenOf : List SP → List (Nat × Nat)
  | [] => []
  | p :: r => frozenAt p.s 0 p.cs ++ frozenOf r

def freezeAt (e : Env) : List (Nat × Nat) → Env
  | [] => e
  | (s, j) :: r => match (e.get s).cs.getD j .dead with
    | .own rv sv true k l => freezeAt (e.set s { e.get s with cs := (e.get s).cs.set j (.own rv sv false k l) }) r
    | _ => freezeAt e r

theorem freezeAt_ok {n : Nat} {tm : Array Value} {w : World} (m : Nat) : ∀ {ps : List (Nat × Nat)} {e : Env} {G : Gh}, Inv n e tm w G → e.length ≤ m →
    (freezeAt e ps).length = e.length ∧ ∃ G', Inv n (freezeAt e ps) tm w G' ∧ Held n m w w G G'
  | [], e, G, h, _ => ⟨rfl, G, h, Held.refl⟩
  | (s, j) :: r, e, G, h, hm => by
    simp only [freezeAt]
    split
    · rename_i rv sv k l hc
      obtain ⟨G1, h1, x, _⟩ := h.freeze (some_of_getD hc (by simp))
      obtain ⟨g1, G2, g2, g3⟩ := freezeAt_ok m (ps := r) h1 (by simpa using hm)
      have hh : Held n m w w G G1 := ⟨(x.held h).still, (x.held h).vs, fun b t q1 q2 q3 => (x.held h).out b t q1 (by omega) q3⟩
      exact ⟨by simpa using g1, G2, g2, hh.trans g3⟩
    · exact freezeAt_ok m h hm

/-- The places whose lists the pattern takes as data. -/
def datAt (s : Nat) : Nat → List PC → List (Nat × Nat)
  | _, [] => []
  | j, .dat (.list _) :: r => (s, j) :: datAt s (j + 1) r
  | j, _ :: r => datAt s (j + 1) r

def datOf : List SP → List (Nat × Nat)
  | [] => []
  | p :: r => datAt p.s 0 p.cs ++ datOf r

def giveAt (e : Env) : List (Nat × Nat) → Env
  | [] => e
  | (s, j) :: r => match (e.get s).cs.getD j .dead with
    | .own _ _ _ k l => giveAt (e.set s { e.get s with cs := (e.get s).cs.set j (.dat (.list k) l) }) r
    | _ => giveAt e r

theorem giveAt_ok {n : Nat} {tm : Array Value} {w : World} (m : Nat) : ∀ {ps : List (Nat × Nat)} {e : Env} {G : Gh}, Inv n e tm w G → e.length ≤ m →
    (giveAt e ps).length = e.length ∧ ∃ G', Inv n (giveAt e ps) tm w G' ∧ Held n m w w G G'
  | [], e, G, h, _ => ⟨rfl, G, h, Held.refl⟩
  | (s, j) :: r, e, G, h, hm => by
    simp only [giveAt]
    split
    · rename_i hc
      obtain ⟨G1, h1, x⟩ := h.giveCell (some_of_getD hc (by simp))
      obtain ⟨g1, G2, g2, g3⟩ := giveAt_ok m (ps := r) h1 (by simpa using hm)
      have hh : Held n m w w G G1 := ⟨(x.held h).still, (x.held h).vs, fun b t q1 q2 q3 => (x.held h).out b t q1 (by omega) q3⟩
      exact ⟨by simpa using g1, G2, g2, hh.trans g3⟩
    · exact giveAt_ok m h hm

/-- Versions are set back, all but what the pattern knows is forgotten. -/
def EP.dec (n : Nat) (P : EP) (e : Env) : Option P.T :=
  if Nat.beq e.length P.len then decE n (spRefs P.ps) 0 (giveAt (freezeAt (norm (P.ps.map (·.s)) e) (frozenOf P.ps)) (datOf P.ps)) P.ps else none

theorem EP.dec_ok {n : Nat} {P : EP} {e : Env} {d : P.T} (h : P.dec n e = some d) {tm : Array Value} {w : World} {G : Gh} (hi : Inv n e tm w G) (m : Nat) (hm : e.length ≤ m) :
    (P.enc d).length = e.length ∧ ∃ G', Inv n (P.enc d) tm w G' ∧ Held n m w w G G' := by
  simp only [EP.dec] at h
  split at h
  · rename_i hl
    have hl := Nat.eq_of_beq_eq_true hl
    obtain ⟨g1, G1, g2, g3⟩ := freezeAt_ok m (ps := frozenOf P.ps) (norm_inv (P.ps.map (·.s)) hi) (by rw [norm_length]; exact hm)
    obtain ⟨k1, G1', k2, k3⟩ := giveAt_ok m (ps := datOf P.ps) g2 (by rw [g1, norm_length]; exact hm)
    have hg := dec_gen h
    rw [k1, g1, norm_length, hl] at hg
    refine ⟨by simp [EP.enc, encE_length, hl], ?_⟩
    obtain ⟨G2, g4, g5⟩ := gen_inv k2 hg m
    exact ⟨G2, g4, (g3.trans k3).trans g5⟩
  · simp at h

end Go.Mach
/- The machine, part nf: the machine once more, with all that hangs on data handed on, not looked at. No condition: definitions and lemmas. -/
namespace Go.Mach
set_option linter.unusedVariables false
set_option linter.unusedSimpArgs false

/-- Go on, if it is so. -/
def chk {R : Type} (b : Bool) (k : Option R) : Option R := cond b k none

theorem chk_bind {R S : Type} (b : Bool) (k : Option R) (f : R → Option S) : (chk b k).bind f = chk b (k.bind f) := by cases b <;> rfl

/-! ### Functions by their books -/
@[reducible] def AsT : List (PSh × List PC) → Type
  | [] => Unit
  | [p] => CsT p.2
  | p :: q :: r => CsT p.2 × AsT (q :: r)

def encA : (ps : List (PSh × List PC)) → AsT ps → List Val
  | [], _ => []
  | [p], d => [(p.1.sh, encCs p.2 d)]
  | p :: q :: r, d => (p.1.sh, encCs p.2 d.1) :: encA (q :: r) d.2

def decA (n : Nat) (md : List Bool) : (i : Nat) → (ps : List (PSh × List PC)) → List Val → Option (AsT ps)
  | _, [], [] => some ()
  | i, [p], [v] => match p.1.fits v.1, decCs (if md.getD i false then 0 else n) i [] 0 p.2 v.2 with
    | true, some a => some a
    | _, _ => none
  | i, p :: q :: r, v :: vs => match p.1.fits v.1, decCs (if md.getD i false then 0 else n) i [] 0 p.2 v.2, decA n md (i + 1) (q :: r) vs with
    | true, some a, some b => some (a, b)
    | _, _, _ => none
  | _, _, _ => none

/-- A result: a temporary, or what lies where one points: as a struct or not, so many cells. -/
inductive RV where
  | tmp (t : Nat)
  | cell (t : Nat) (agg : Bool) (n : Nat)

/-- What the book says of a function. -/
structure FEnt where
  n : Nat
  results : List RV
  md : List Bool
  args : List (PSh × List PC)
  out : EP
  T : AsT args → Option out.T

/-- The slots of a call at its start. -/
def startE (n : Nat) (md : List Bool) (args : List Val) : Env :=
  (inSlots n md 0 args).1 ++ List.replicate (n - args.length) (default : Slot) ++ (inSlots n md 0 args).2

/-- The results as they lie. -/
def resVals (n : Nat) (get : Nat → Slot) : List RV → Option (List Val)
  | [] => some []
  | .tmp t :: r => match Nat.blt t n, opd get (.tmp t), resVals n get r with
    | true, some v, some vs => some (v :: vs)
    | _, _, _ => none
  | .cell t g m :: r => match Nat.blt t n, opd get (.tmp t), resVals n get r with
    | true, some (.one, [c]), some vs => match loadC get m c with
      | some cs => some (((match g with | true => .agg | false => .one), cs) :: vs)
      | none => none
    | _, _, _ => none

def oneOk (v : Val) : Bool := match v.1 with
  | .one => Nat.beq v.2.length 1
  | .agg => true
  | _ => false

/-- The shape of what is answered. -/
def tupSh (vs : List Val) : Option Sh := match vs with
  | [v] => if oneOk v then some v.1 else none
  | vs => if vs.all oneOk then some (.tup (vs.map fun v => match v.1 with | .one => none | _ => some v.2.length)) else none

/-- A result's cell: what lies deeper is read, and frozen. -/
def resC (get : Nat → Slot) : C → Option C
  | .dat k x => some (.dat k x)
  | .nil => some .nil
  | .own rv sv d k l => some (.own rv sv d k l)
  | .fn f [] => some (.fn f [])
  | .ref s j rv sv (q :: p) lo hi k => (content get s j rv sv (q :: p) k).map fun x => .dat (.list k) (cut lo hi x.2)
  | _ => none

def resCs (get : Nat → Slot) : List C → Option (List C)
  | [] => some []
  | c :: r => match resC get c, resCs get r with
    | some c, some r => some (c :: r)
    | _, _ => none

/-- The roots of what is read deeper. -/
def deepAt : List C → List (Nat × Nat)
  | [] => []
  | .ref s j _ _ (_ :: _) _ _ _ :: r => (s, j) :: deepAt r
  | _ :: r => deepAt r

/-- What is lent, behind the call. -/
def outsOf (n : Nat) (get : Nat → Slot) (md : List Bool) : Nat → List Val → Option (List (List C))
  | _, [] => some []
  | i, (sh, _) :: r => match outsOf n get md (i + 1) r with
    | none => none
    | some os =>
      if md.getD i false then
        match sh with
        | .box _ => match (get (n + 2 * i + 1)).sh with
          | .box _ => (ownBox (get (n + 2 * i + 1)).cs).map (· :: os)
          | _ => none
        | _ => some ((get (n + 2 * i)).cs.map (fun | .own 0 _ d k l => .own 0 0 d k l | .dat k x => .dat k x | _ => .dead) :: os)
      else some ([] :: os)

/-- A box that is answered: it alone, where nothing is lent. -/
def retBox (n : Nat) (results : List RV) (md : List Bool) (e : Env) : Option (Nat × List C) := match results with
  | [.tmp t] => match Nat.blt t n, md, opd e.get (.tmp t) with
    | true, [], some (.one, [.bptr s bv j]) => match (e.get s).sh with
      | .box bv' => match Nat.beq bv bv', Nat.beq j 0 with
        | true, true => (resCs (fun _ => {}) (e.get s).cs).map fun cs => (s, cs)
        | _, _ => none
      | _ => none
    | _, _, _ => none
  | _ => none

/-- What comes of the slots at a call's end. -/
def retOf (n : Nat) (results : List RV) (md : List Bool) (args : List Val) (e : Env) : Option (Val × List (List C)) :=
  match retBox n results md e with
  | some (_, cs) => (outsOf n e.get md 0 args).map fun os => ((.box 0, cs), os)
  | none =>
  match resVals n e.get results with
  | none => none
  | some vs => match tupSh vs, resCs (Tr.take [] { get := e.get } (vs.flatMap (·.2))).1.at (Tr.take [] { get := e.get } (vs.flatMap (·.2))).2,
      outsOf n (freezeAt (Env.puts e (Tr.take [] { get := e.get } (vs.flatMap (·.2))).1.ws) (deepAt (Tr.take [] { get := e.get } (vs.flatMap (·.2))).2)).get md 0 args with
    | some sh, some cs, some os => some ((sh, cs), os)
    | _, _, _ => none

def semD {R : Type} (f : Nat) (md : List Bool) (vals : List Val) (K : Val × List (List C) → Option R) : List (Nat × FEnt) → Option R
  | [] => none
  | (g, t) :: r => match Nat.beq g f, t.md == md, decA t.n t.md 0 t.args vals with
    | true, true, some d => (t.T d).bind fun b => (retOf t.n t.results t.md (encA t.args d) (t.out.enc b)).bind K
    | _, _, _ => semD f md vals K r

theorem semD_eq {R : Type} (f : Nat) (md : List Bool) (vals : List Val) (K : Val × List (List C) → Option R) : ∀ l : List (Nat × FEnt), semD f md vals K l = (semD f md vals some l).bind K
  | [] => rfl
  | (g, t) :: r => by
    simp only [semD]
    split
    · rw [Option.bind_assoc]
      congr 1
      funext b
      rw [Option.bind_assoc]
      rfl
    · exact semD_eq f md vals K r

/-- A book of functions. -/
abbrev Book := List (Nat × FEnt)

def Book.md (b : Book) (f : Nat) : List Bool := match b with
  | [] => []
  | (g, t) :: r => match Nat.beq g f with
    | true => t.md
    | false => Book.md r f

def Book.sem (b : Book) (f : Nat) (vals : List Val) : Option (Val × List (List C)) := semD f (b.md f) vals some b

/-! ### Operations -/
section D
variable {R : Type}

def natD (c : C) (K : Nat → Option R) : Option R := match c with
  | .dat (.int _) n => chk (decide (0 ≤ n)) (K n.toNat)
  | _ => none

theorem natD_eq (c : C) (K : Nat → Option R) : natD c K = (natOf c).bind K := by
  unfold natD natOf
  split
  · rename_i n
    by_cases h : 0 ≤ n <;> simp [h, chk]
  · rename_i h
    cases c with
    | dat k x =>
      cases k with
      | int k => exact absurd rfl (h k x)
      | _ => rfl
    | _ => rfl

def binD (tk : Bool) (op : BinOp) (c d : C) (K : C → Option R) : Option R :=
  match c, d with
  | .dat (.int k) a, .dat (.int k') b => match op with
    | .quo => if k = k' then chk (!decide (b = 0)) (K (.dat (.int k) (k.wrap (a.tdiv b)))) else none
    | .rem => if k = k' then chk (!decide (b = 0)) (K (.dat (.int k) (a.tmod b))) else none
    | .shl => chk (!decide (b < 0)) (K (.dat (.int k) (k.wrap (a * 2 ^ (min b.toNat k.bits)))))
    | .shr => chk (!decide (b < 0)) (K (.dat (.int k) (a.fdiv (2 ^ (min b.toNat k.bits)))))
    | op => (bin tk op (.dat (.int k) a) (.dat (.int k') b)).bind K
  | .dat .str a, .dat .str b => match op with
    | .add => chk (decide (a.length + b.length ≤ strMost)) (K (.dat .str (a ++ b)))
    | op => (bin tk op (.dat .str a) (.dat .str b)).bind K
  | c, d => (bin tk op c d).bind K

theorem binD_eq (tk : Bool) (op : BinOp) (c d : C) (K : C → Option R) : binD tk op c d K = (bin tk op c d).bind K := by
  unfold binD
  split
  · rename_i k a k' b
    split
    · by_cases hk : k = k'
      · by_cases h : b = 0 <;> simp [bin, binI, hk, h, chk]
      · simp [bin, hk]
    · by_cases hk : k = k'
      · by_cases h : b = 0 <;> simp [bin, binI, hk, h, chk]
      · simp [bin, hk]
    · by_cases h : b < 0 <;> simp [bin, shiftI, h, chk]
    · by_cases h : b < 0 <;> simp [bin, shiftI, h, chk]
    · rfl
  · rename_i a b
    split
    · by_cases h : a.length + b.length ≤ strMost <;> simp [bin, binS, h, chk]
    · rfl
  · rfl

def loadD (get : Nat → Slot) (n : Nat) (a : C) (K : List C → Option R) : Option R := match a with
  | .aptr s j rv sv p i c k =>
    match (get s).cs.getD j .dead with
    | .own rv' sv' deep k0 l0 =>
      if rv = rv' ∧ (p = [] ∨ (svOk p sv sv' = true ∧ deep = true)) ∧ c + n ≤ k.size then
        match castL (getP k0 l0 p).1 (getP k0 l0 p).2 k with
        | some l => chk (decide (i < l.length)) (K (readLeaves k (l.getD i k.dflt) s j rv' sv' p i deep c n))
        | none => none
      else none
    | _ => none
  | a => (loadC get n a).bind K

theorem loadD_eq (get : Nat → Slot) (n : Nat) (a : C) (K : List C → Option R) : loadD get n a K = (loadC get n a).bind K := by
  unfold loadD
  split
  · rename_i s j rv sv p i c k
    simp only [loadC]
    generalize (get s).cs.getD j .dead = z
    cases z with
    | own rv' sv' deep k0 l0 =>
      simp only
      by_cases h : rv = rv' ∧ (p = [] ∨ (svOk p sv sv' = true ∧ deep = true)) ∧ c + n ≤ k.size
      · rw [if_pos h, if_pos h]
        cases castL (getP k0 l0 p).1 (getP k0 l0 p).2 k with
        | none => rfl
        | some l => by_cases hi : i < l.length <;> simp [hi, chk]
      · rw [if_neg h, if_neg h]; rfl
    | _ => rfl
  · rfl

def storeD (x : Ctx) (t : Tr) (a : C) (cs : List C) (K : Tr → Option R) : Option R := match a with
  | .aptr s j rv sv p i c k =>
    match t.grabs k c cs with
    | none => none
    | some (t, gs, d) =>
      match (t.at s).cs.getD j .dead with
      | .own rv' sv' deep k0 l0 =>
        if rv = rv' ∧ (p = [] ∨ (svOk p sv sv' = true ∧ deep = true)) ∧ c + cs.length ≤ k.size then
          match castL (getP k0 l0 p).1 (getP k0 l0 p).2 k with
          | none => none
          | some l => chk (decide (i < l.length))
              (if hasList k c cs.length then K (t.put s { t.at s with cs := (t.at s).cs.set j (.own rv' (nextV p sv' (t.at s).cnt) (deep && d) k0 (modP (fun k' l' => (castL k (l.set i (setLeaves k (l.getD i k.dflt) c gs)) k').getD l') k0 l0 p)), cnt := nextV p sv' (t.at s).cnt + 1 })
              else K (t.put s { t.at s with cs := (t.at s).cs.set j (.own rv' sv' deep k0 (modP (fun k' l' => (castL k (l.set i (setLeaves k (l.getD i k.dflt) c gs)) k').getD l') k0 l0 p)) }))
        else none
      | _ => none
  | a => (storeC x t a cs).bind K

theorem storeD_eq (x : Ctx) (t : Tr) (a : C) (cs : List C) (K : Tr → Option R) : storeD x t a cs K = (storeC x t a cs).bind K := by
  unfold storeD
  split
  · rename_i s j rv sv p i c k
    simp only [storeC]
    cases hg : t.grabs k c cs with
    | none => rfl
    | some r =>
      obtain ⟨t', gs, d⟩ := r
      simp only
      generalize hz : (t'.at s).cs.getD j .dead = z
      cases z with
      | own rv' sv' deep k0 l0 =>
        simp only
        by_cases h : rv = rv' ∧ (p = [] ∨ (svOk p sv sv' = true ∧ deep = true)) ∧ c + cs.length ≤ k.size
        · rw [if_pos h, if_pos h]
          cases castL (getP k0 l0 p).1 (getP k0 l0 p).2 k with
          | none => rfl
          | some l =>
            by_cases hi : i < l.length
            · simp only [hi, chk, decide_true, cond_true, if_true]
              split <;> rfl
            · simp [hi, chk]
        · rw [if_neg h, if_neg h]; rfl
      | _ => rfl
  · rfl

def boundD (get : Nat → Slot) (o : Option Operand) (K : Option Nat → Option R) : Option R := match o with
  | none => K none
  | some z => match opd get z with
    | some (.one, [c]) => natD c fun n => K (some n)
    | _ => none

theorem boundD_eq (get : Nat → Slot) (o : Option Operand) (K : Option Nat → Option R) : boundD get o K = (boundOf get o).bind K := by
  unfold boundD boundOf
  cases o with
  | none => rfl
  | some z =>
    simp only
    generalize opd get z = v
    match v with
    | none => rfl
    | some (sh, cs) =>
      cases sh <;> try rfl
      match cs with
      | [] => rfl
      | [c] =>
        simp only
        rw [natD_eq]
        cases natOf c <;> rfl
      | _ :: _ :: _ => rfl

def sliceD (get : Nat → Slot) (c : C) (lo hi : Option Nat) (K : C → Option R) : Option R := match c with
  | .nil => chk (decide (lo.getD 0 = 0 ∧ hi.getD 0 = 0)) (K .nil)
  | .dat (.list k) l => chk (decide (lo.getD 0 ≤ hi.getD l.length ∧ hi.getD l.length ≤ l.length)) (K (.dat (.list k) (cut lo hi l)))
  | .dat .str l => chk (decide (lo.getD 0 ≤ hi.getD l.length ∧ hi.getD l.length ≤ l.length)) (K (.dat .str (cut lo hi l)))
  | .ref s j rv sv p a b k =>
    match lenC get (.ref s j rv sv p a b k) with
    | none => none
    | some n => chk (decide (lo.getD 0 ≤ hi.getD n ∧ hi.getD n ≤ n)) (K (.ref s j rv sv p (subOf a lo a) (subOf a hi b) k))
  | _ => none

theorem sliceD_eq (get : Nat → Slot) (c : C) (lo hi : Option Nat) (K : C → Option R) : sliceD get c lo hi K = (sliceC get c lo hi).bind K := by
  unfold sliceD
  split
  · by_cases h : lo.getD 0 = 0 ∧ hi.getD 0 = 0 <;> simp [sliceC, h, chk]
  · rename_i k l
    by_cases h : lo.getD 0 ≤ hi.getD l.length ∧ hi.getD l.length ≤ l.length <;> simp [sliceC, h, chk]
  · rename_i l
    by_cases h : lo.getD 0 ≤ hi.getD l.length ∧ hi.getD l.length ≤ l.length <;> simp [sliceC, h, chk]
  · rename_i s j rv sv p a b k
    simp only [sliceC]
    cases lenC get (.ref s j rv sv p a b k) with
    | none => rfl
    | some n => by_cases h : lo.getD 0 ≤ hi.getD n ∧ hi.getD n ≤ n <;> simp [h, chk]
  · rename_i h1 h2 h3 h4
    cases c with
    | nil => exact absurd rfl h1
    | ref s j rv sv p a b k => exact absurd rfl (h4 s j rv sv p a b k)
    | dat k x =>
      cases k with
      | list k => exact absurd rfl (h2 k x)
      | str => exact absurd rfl (h3 x)
      | _ => rfl
    | _ => rfl

def indexD (ty : Nat → Ti) (get : Nat → Slot) (t : Nat) (c : C) (i : Nat) (K : C → Option R) : Option R :=
  match (ty t).d with
  | .slice et => match c with
    | .dat (.list k) l => if (ty et).size = k.size then chk (decide (i < l.length)) (K (.pim ((leaves k (l.getD i k.dflt)).map fun g => .dat g.1 g.2) 0)) else none
    | .ref s j rv sv p a b k => match lenC get (.ref s j rv sv p a b k) with
      | some n => if (ty et).size = k.size then chk (decide (i < n)) (K (.aptr s j rv sv p (offOf a i) 0 k)) else none
      | none => none
    | _ => none
  | .arr n e => match c with
    | .bptr s bv j => if (ty e).size ≠ 0 then chk (decide (i < n)) (K (.bptr s bv (j + i * (ty e).size))) else none
    | _ => none
  | _ => none

theorem indexD_eq (ty : Nat → Ti) (get : Nat → Slot) (t : Nat) (c : C) (i : Nat) (K : C → Option R) : indexD ty get t c i K = (indexC ty get t c i).bind K := by
  unfold indexD indexC
  generalize (ty t).d = z
  cases z with
  | slice et =>
    simp only
    cases c with
    | dat k l =>
      cases k with
      | list k =>
        simp only
        by_cases h1 : (ty et).size = k.size
        · by_cases h2 : i < List.length l
          · rw [if_pos h1, if_pos ⟨h2, h1⟩]; simp [chk, h2]
          · rw [if_pos h1, if_neg (fun q => h2 q.1)]; simp [chk, h2]
        · rw [if_neg h1, if_neg (fun q => h1 q.2)]; rfl
      | _ => rfl
    | ref s j rv sv p a b k =>
      simp only
      cases lenC get (.ref s j rv sv p a b k) with
      | none => rfl
      | some n =>
        simp only
        by_cases h1 : (ty et).size = k.size
        · by_cases h2 : i < n
          · rw [if_pos h1, if_pos ⟨h2, h1⟩]; simp [chk, h2]
          · rw [if_pos h1, if_neg (fun q => h2 q.1)]; simp [chk, h2]
        · rw [if_neg h1, if_neg (fun q => h1 q.2)]; rfl
    | _ => rfl
  | arr n e =>
    simp only
    cases c with
    | bptr s bv j =>
      simp only
      by_cases h1 : (ty e).size ≠ 0
      · by_cases h2 : i < n
        · rw [if_pos h1, if_pos ⟨h2, h1⟩]; simp [chk, h2]
        · rw [if_pos h1, if_neg (fun q => h2 q.1)]; simp [chk, h2]
      · rw [if_neg h1, if_neg (fun q => h1 q.2)]; rfl
    | _ => rfl
  | _ => rfl

/-- Is there room for so many elements of so many bytes? -/
def fits (n b : Nat) : Bool := decide (n ≤ rowMost ∧ (2 * n + 512) * b ≤ byteMost)

def appendD (ty : Nat → Ti) (vars : List Nat) (t : Tr) (st : Nat) (x y : C) (K : Tr × C → Option R) : Option R :=
  match (ty st).d with
  | .slice e => match (ty e).k with
    | none => none
    | some k =>
      match srcC vars t k y with
      | none => none
      | some (t, ys, d) =>
        match x with
        | .nil => if (ty e).zero.isSome = true ∧ (ty e).zeros.length = k.size then chk (fits ys.length (ty e).bytes) (K (t, .own 0 0 d k ys)) else none
        | .ref s j rv _ [] lo hi k' =>
          match (t.at s).cs.getD j .dead with
          | .own rv' _ deep k0 l0 =>
            if rv = rv' ∧ k' = k0 then
              match castL k0 (cut lo hi l0) k with
              | none => none
              | some l => if (ty e).zero.isSome = true ∧ (ty e).zeros.length = k.size then chk (fits (l.length + ys.length) (ty e).bytes) (K (t.put s ((t.at s).kill j), .own 0 0 (deep && d) k (l ++ ys))) else none
            else none
          | _ => none
        | .ref s j rv sv (q :: p) none none k' =>
          match (t.at s).cs.getD j .dead with
          | .own rv' sv' deep k0 l0 =>
            if rv = rv' ∧ k' = k ∧ svOk (q :: p) sv sv' = true ∧ deep = true ∧ k.flat = true then
              match castL (getP k0 l0 (q :: p)).1 (getP k0 l0 (q :: p)).2 k with
              | none => none
              | some l => if (ty e).zero.isSome = true ∧ (ty e).zeros.length = k.size then chk (fits (l.length + ys.length) (ty e).bytes) (K (t.put s { t.at s with cs := (t.at s).cs.set j (.own rv' sv' false k0 l0) }, .dat (.list k) (l ++ ys))) else none
            else none
          | _ => none
        | _ => none
  | _ => none

theorem appendD_eq (ty : Nat → Ti) (vars : List Nat) (t : Tr) (st : Nat) (x y : C) (K : Tr × C → Option R) : appendD ty vars t st x y K = (appendC ty vars t st x y).bind K := by
  unfold appendD appendC
  generalize (ty st).d = z
  cases z with
  | slice e =>
    simp only
    generalize (ty e).k = kk
    cases kk with
    | none => rfl
    | some k =>
      simp only
      generalize srcC vars t k y = r
      cases r with
      | none => rfl
      | some r =>
        obtain ⟨t', ys, d⟩ := r
        simp only
        cases x with
        | nil =>
          simp only
          by_cases h1 : (ty e).zero.isSome = true <;> by_cases h2 : (ty e).zeros.length = k.size <;> by_cases h3 : ys.length ≤ rowMost <;> by_cases h4 : (2 * ys.length + 512) * (ty e).bytes ≤ byteMost <;> simp [h1, h2, h3, h4, chk, fits]
        | ref s j rv sv p lo hi k' =>
          cases p with
          | cons q0 p0 =>
            cases lo with
            | some _ => rfl
            | none =>
              cases hi with
              | some _ => rfl
              | none =>
                simp only
                generalize (t'.at s).cs.getD j .dead = z
                cases z with
                | own rv' sv' deep k0 l0 =>
                  simp only
                  by_cases h : rv = rv' ∧ k' = k ∧ svOk (q0 :: p0) sv sv' = true ∧ deep = true ∧ k.flat = true
                  · rw [if_pos h, if_pos h]
                    generalize castL (getP k0 l0 (q0 :: p0)).1 (getP k0 l0 (q0 :: p0)).2 k = ll
                    cases ll with
                    | none => rfl
                    | some l =>
                      simp only
                      by_cases h1 : (ty e).zero.isSome = true <;> by_cases h2 : (ty e).zeros.length = k.size <;> by_cases h3 : l.length + ys.length ≤ rowMost <;> by_cases h4 : (2 * (l.length + ys.length) + 512) * (ty e).bytes ≤ byteMost <;> simp [h1, h2, h3, h4, chk, fits]
                  · rw [if_neg h, if_neg h]; rfl
                | _ => rfl
          | nil =>
            simp only
            generalize (t'.at s).cs.getD j .dead = z
            cases z with
            | own rv' sv' deep k0 l0 =>
              simp only
              by_cases h : rv = rv' ∧ k' = k0
              · rw [if_pos h, if_pos h]
                generalize castL k0 (cut lo hi l0) k = ll
                cases ll with
                | none => rfl
                | some l =>
                  simp only
                  by_cases h1 : (ty e).zero.isSome = true <;> by_cases h2 : (ty e).zeros.length = k.size <;> by_cases h3 : l.length + ys.length ≤ rowMost <;> by_cases h4 : (2 * (l.length + ys.length) + 512) * (ty e).bytes ≤ byteMost <;> simp [h1, h2, h3, h4, chk, fits]
              · rw [if_neg h, if_neg h]; rfl
            | _ => rfl
        | _ => rfl
  | _ => rfl

/-- Two data of one kind, picked by a flag. -/
def pickV (b : Bool) (u v : Val) : Option Val := match u, v with
  | (.one, [.dat k x]), (.one, [.dat k' y]) => (castK k' y k).map fun y => (.one, [.dat k (cond b x y)])
  | _, _ => none

theorem pickV_ok {b : Bool} {u v r : Val} (h : pickV b u v = some r) : r = cond b u v := by
  unfold pickV at h
  split at h
  · rename_i k x k' y
    cases hc : castK k' y k with
    | none => rw [hc] at h; simp at h
    | some z =>
      rw [hc] at h
      simp only [Option.map_some, Option.some.injEq] at h
      have := castK_ok hc
      subst h
      cases b
      · simp only [cond_false]; rw [this]
      · rfl
  · simp at h

def callD (x : Ctx) (bk : Book) (t : Tr) (dst : Option Nat) (f : Nat) (args : List Val) (K : Tr → Option R) : Option R :=
  match send t (x.md f) [] 0 args with
  | none => none
  | some q =>
    if apartF (lendAt 0 q.lends) && oneSrc (lendAt 0 q.lends) && oddB x.n (lendAt 0 q.lends) && disjoint ((lendAt 0 q.lends).map (·.2.2.slot)) (readTargets (x.md f) [] 0 args) then
      semD f (x.md f) q.vals (fun r => match backAll r.2 t (lendAt 0 q.lends) with
        | none => none
        | some t => K ((if r.1.2.any C.aliases || r.2.any (·.any C.aliases) then t.give (readTargets (x.md f) [] 0 args) else t).lay dst r.1)) bk
    else none

/-- A machine over a book. -/
structure Over (x : Ctx) (bk : Book) : Prop where
  sem : x.sem = bk.sem
  md : x.md = bk.md

theorem callD_eq {x : Ctx} {bk : Book} (hx : Over x bk) (t : Tr) (dst : Option Nat) (f : Nat) (args : List Val) (K : Tr → Option R) : callD x bk t dst f args K = (callC x t dst f args).bind K := by
  unfold callD callC
  cases hs : send t (x.md f) [] 0 args with
  | none => rfl
  | some q =>
    simp only
    split
    · rw [semD_eq, hx.sem]
      simp only [Book.sem, hx.md]
      cases semD f (bk.md f) q.vals some bk with
      | none => rfl
      | some r =>
        obtain ⟨v, os⟩ := r
        simp only [Option.bind_some]
        split
        · rename_i hb; simp only [hb]; rfl
        · rename_i hb; simp only [hb]; rfl
    · rfl

/-- One operation; what hangs on data is handed on. -/
def actD (x : Ctx) (bk : Book) (get : Nat → Slot) (o : Oper) (K : Writes → Option R) : Option R :=
  match o.op with
  | .pick c a b => match opd get c, opd get a, opd get b with
    | some (.one, [.dat .bool t]), some u, some v => match pickV t u v with
      | some r => K (Tr.lay { get, d := o.dst } o.dst r).ws
      | none => cond t (K (Tr.lay { get, d := o.dst } o.dst u).ws) (K (Tr.lay { get, d := o.dst } o.dst v).ws)
    | _, _, _ => (act x get o).bind K
  | .binOp op ty a b _ => match opd get a, opd get b with
    | some (.one, [c]), some (.one, [d]) => binD (x.ty ty).isB op c d fun c => K (Tr.lay { get, d := o.dst } o.dst (.one, [c])).ws
    | _, _ => (act x get o).bind K
  | .load ty a => match opd get a with
    | some (.one, [c]) => if (x.ty ty).ok = true then loadD (chill x { get, d := o.dst } c).at (x.ty ty).size c fun cs => K ((chill x { get, d := o.dst } c).lay o.dst (partShape (x.ty ty), cs)).ws else none
    | _ => (act x get o).bind K
  | .store ty a b => match opd get a, opd get b with
    | some (.one, [c]), some v => if (x.ty ty).ok = true ∧ v.2.length = (x.ty ty).size ∧ whole get v = true then storeD x { get, d := o.dst } c v.2 fun t => K (t.lay o.dst (.dead, [])).ws else none
    | _, _ => (act x get o).bind K
  | .slice ty a lo hi none => match opd get a with
    | some (.one, [c]) => boundD get lo fun l => boundD get hi fun h => if slFits x.ty ty c = false then none else sliceD get c l h fun c => K (Tr.lay { get, d := o.dst } o.dst (.one, [c])).ws
    | _ => (act x get o).bind K
  | .indexAddr ty a b => match opd get a, opd get b with
    | some (.one, [c]), some (.one, [i]) => natD i fun i => indexD x.ty get ty c i fun c => K (Tr.lay { get, d := o.dst } o.dst (.one, [c])).ws
    | _, _ => (act x get o).bind K
  | .index ty a b => match opd get a, opd get b with
    | some (.one, [.dat .str s]), some (.one, [i]) => if (x.ty ty).isS = false then none else natD i fun i => chk (decide (i < s.length)) (K (Tr.lay { get, d := o.dst } o.dst (.one, [.dat (.int .u8) (((s.getD i 0).toNat : Nat) : Int)])).ws)
    | _, _ => (act x get o).bind K
  | .convert src dst a => match opd get a with
    | some (.one, [.dat .str s]) => if (x.ty src).ok = false then none else
      match (x.ty dst).isS, u8Row x.ty dst with
      | false, true => if (x.ty src).isS = true then chk (decide (s.length ≤ rowMost)) ((Tr.own { get, d := o.dst } o.dst (.one, [.own 0 0 true (.int .u8) (s.map fun b => ((b.toNat : Nat) : Int))])).bind K) else none
      | _, _ => (act x get o).bind K
    | _ => (act x get o).bind K
  | .makeSlice ty n m => match (x.ty ty).d, opd get n, opd get m with
    | .slice e, some (.one, [n]), some (.one, [m]) => match (x.ty e).k with
      | some k => if isZero k (x.ty e).zeros = true then natD n fun n => natD m fun m => chk (decide (n ≤ m ∧ m ≤ rowMost ∧ m * (x.ty e).bytes ≤ byteMost)) ((Tr.own { get, d := o.dst } o.dst (.one, [.own 0 0 true k (List.replicate n k.dflt)])).bind K) else none
      | none => none
    | _, _, _ => (act x get o).bind K
  | .call c0 => match c0.callee with
    | .builtin .append => match opds get c0.args.toList with
      | some [(.one, [a]), (.one, [b])] => if (c0.argTypes[0]?).isSome = false ∨ (c0.argTypes[1]?).isSome = false ∨ fitsTy (x.ty (c0.argTypes.getD 1 0)) b = false then none else
          appendD x.ty x.vars { get, d := o.dst } (c0.argTypes.getD 0 0) a b fun r => (r.1.own o.dst (.one, [r.2])).bind K
      | _ => (act x get o).bind K
    | .value f => match opd get f, opds get c0.args.toList with
      | some (.one, [.fn g caps]), some vs => callD x bk { get, d := o.dst } o.dst g (vs ++ caps.map fun c => (.one, [c])) fun t => K t.ws
      | _, _ => (act x get o).bind K
    | _ => (act x get o).bind K
  | _ => (act x get o).bind K

theorem actD_eq {x : Ctx} {bk : Book} (hx : Over x bk) (get : Nat → Slot) (o : Oper) (K : Writes → Option R) : actD x bk get o K = (act x get o).bind K := by
  unfold actD
  split
  · rename_i c a b ho
    split
    · rename_i t u v hc ha hb
      split
      · rename_i r hr
        have := pickV_ok hr
        subst this
        cases t <;> simp [act, ho, hc, ha, hb]
      · cases t <;> simp [act, ho, hc, ha, hb]
    · rfl
  · rename_i op ty a b yt ho
    split
    · rename_i c d hc hd
      rw [binD_eq]
      simp only [act, ho, hc, hd]
      cases bin (x.ty ty).isB op c d <;> rfl
    · rfl
  · rename_i ty a ho
    split
    · rename_i c hc
      rw [loadD_eq]
      simp only [act, ho, hc]
      by_cases hok : (x.ty ty).ok = true
      · rw [if_pos hok, if_pos hok]
        cases loadC (chill x { get, d := o.dst } c).at (x.ty ty).size c <;> rfl
      · rw [if_neg hok, if_neg hok]; rfl
    · rfl
  · rename_i ty a b ho
    split
    · rename_i c v hc hv
      rw [storeD_eq]
      simp only [act, ho, hc, hv]
      by_cases hok : (x.ty ty).ok = true ∧ v.2.length = (x.ty ty).size ∧ whole get v = true
      · rw [if_pos hok, if_pos hok]
        cases storeC x { get, d := o.dst } c v.2 <;> rfl
      · rw [if_neg hok, if_neg hok]; rfl
    · rfl
  · rename_i ty a lo hi ho
    split
    · rename_i c hc
      rw [boundD_eq]
      simp only [act, ho, hc]
      cases boundOf get lo with
      | none => rfl
      | some l =>
        simp only [Option.bind_some]
        rw [boundD_eq]
        cases boundOf get hi with
        | none => rfl
        | some h =>
          simp only [Option.bind_some]
          rw [sliceD_eq]
          by_cases hf : slFits x.ty ty c = false
          · rw [if_pos hf, if_pos hf]; rfl
          · rw [if_neg hf, if_neg hf]
            cases sliceC get c l h <;> rfl
    · rfl
  · rename_i ty a b ho
    split
    · rename_i c i hc hi
      rw [natD_eq]
      simp only [act, ho, hc, hi]
      cases natOf i with
      | none => rfl
      | some m =>
        simp only [Option.bind_some]
        rw [indexD_eq]
        cases indexC x.ty get ty c m <;> rfl
    · rfl
  · rename_i ty a b ho
    split
    · rename_i s i hs hi
      rw [natD_eq]
      simp only [act, ho, hs, hi]
      by_cases hf : (x.ty ty).isS = false
      · rw [if_pos hf, if_pos hf]; rfl
      · rw [if_neg hf, if_neg hf]
        cases natOf i with
        | none => rfl
        | some m =>
          simp only [Option.bind_some]
          by_cases hm : m < s.length <;> simp [hm, chk]
    · rfl
  · rename_i src dst a ho
    split
    · rename_i s hs
      split
      · rename_i hok; simp [act, ho, hs, hok]
      · rename_i hok
        split
        · rename_i h1 h2
          simp only [act, ho, hs, hok, h1, h2]
          by_cases g1 : (x.ty src).isS = true <;> by_cases g2 : s.length ≤ rowMost <;> cases hk : intTi (x.ty dst) <;> simp [g1, g2, chk]
        · rfl
    · rfl
  · rename_i ty n m ho
    split
    · rename_i e c1 c2 hd hn hm
      simp only [act, ho, hd, hn, hm]
      cases hk : (x.ty e).k with
      | none => rfl
      | some k =>
        simp only
        rw [natD_eq]
        cases natOf c1 with
        | none => simp
        | some n =>
          simp only [Option.bind_some]
          rw [natD_eq]
          cases natOf c2 with
          | none => simp
          | some m =>
            simp only [Option.bind_some]
            by_cases h1 : isZero k (x.ty e).zeros = true <;> by_cases h2 : n ≤ m <;> by_cases h3 : m ≤ rowMost <;> by_cases h4 : m * (x.ty e).bytes ≤ byteMost <;> simp [h1, h2, h3, h4, chk]
    · rfl
  · rename_i c0 ho
    split
    · rename_i hcb
      split
      · rename_i a b hvs
        simp only [act, ho, hcb, hvs]
        by_cases hf : (c0.argTypes[0]?).isSome = false ∨ (c0.argTypes[1]?).isSome = false ∨ fitsTy (x.ty (c0.argTypes.getD 1 0)) b = false
        · rw [if_pos hf, if_pos hf]; rfl
        · rw [if_neg hf, if_neg hf, appendD_eq]
          cases appendC x.ty x.vars { get, d := o.dst } (c0.argTypes.getD 0 0) a b <;> rfl
      · rfl
    · rename_i f hcf
      split
      · rename_i g caps vs hf hvs
        rw [callD_eq hx]
        simp only [act, ho, hcf, hf, hvs]
        cases callC x { get, d := o.dst } o.dst g (vs ++ caps.map fun c => (.one, [c])) <;> rfl
      · rfl
    · rfl
  · rfl

end D
end Go.Mach
/- The machine, part ng: code, with its loops and its meeting points by typed steps; functions. No condition: definitions and lemmas. -/
namespace Go.Mach
set_option linter.unusedVariables false
set_option linter.unusedSimpArgs false

/-! ### Regions -/
section R
variable {R : Type}

/-- A slot that holds a flag, once the flag is known. -/
def known (e : Env) (s : Nat) (b : Bool) : Env := e.set s { sh := .one, cs := [.dat .bool b], cnt := (e.get s).cnt }

theorem set_get (e : Env) (s : Nat) (x : Slot) (h : e.get s = x) : e.set s x = e := by
  apply List.ext_getElem?
  intro i
  rw [List.getElem?_set]
  by_cases g : s = i
  · subst g
    by_cases hl : s < e.length
    · rw [if_pos rfl, if_pos hl]
      simp only [Env.get, List.getD_eq_getElem?_getD, List.getElem?_eq_getElem hl, Option.getD_some] at h
      rw [List.getElem?_eq_getElem hl, h]
    · rw [if_pos rfl, if_neg hl, List.getElem?_eq_none (by omega)]
  · rw [if_neg g]

theorem known_eq {e : Env} {s : Nat} {b : Bool} (h1 : (e.get s).sh = .one) (h2 : (e.get s).cs = [.dat .bool b]) : known e s b = e := by
  refine set_get e s _ ?_
  cases hx : e.get s with
  | mk sh cs cnt =>
    rw [hx] at h1 h2
    simp only at h1 h2
    rw [h1, h2]

def doneD (x : Ctx) (bk : Book) (ops : Array Oper) (e : Env) (o : Oper) (K : Env → Step → Option R) : Option R :=
  actD x bk (fun s => if (looks e o).contains s then e.get s else {}) o fun ws => K e { ws, reads := guardSlots ops o ++ readsOf x e o, soft := softOf x e o, idx := idxOf e o }

def skipD (ops : Array Oper) (e : Env) (o : Oper) (K : Env → Step → Option R) : Option R :=
  K e { ws := skipWs e o, reads := guardSlots ops o ++ o.dst.toList }

def stepD (x : Ctx) (bk : Book) (ops : Array Oper) (e : Env) (o : Oper) (K : Env → Step → Option R) : Option R :=
  match (opSlots o).all (· < x.n) && (guardSlots ops o).all (· < x.n) with
  | false => none
  | true => match guardOf ops o with
    | none => doneD x bk ops e o K
    | some (s, want) => match (e.get s).sh, (e.get s).cs with
      | .one, [.dat .bool b] => match want with
        | true => cond b (doneD x bk ops (known e s true) o K) (skipD ops (known e s false) o K)
        | false => cond b (skipD ops (known e s true) o K) (doneD x bk ops (known e s false) o K)
      | .tup [], _ => skipD ops e o K
      | _, _ => none

theorem stepD_eq {x : Ctx} {bk : Book} (hx : Over x bk) (ops : Array Oper) (e : Env) (o : Oper) (K : Env → Step → Option R) : stepD x bk ops e o K = (stepA x ops e o).bind (K e) := by
  unfold stepD stepA
  generalize hb : ((opSlots o).all (· < x.n) && (guardSlots ops o).all (· < x.n)) = b
  cases b with
  | false => rfl
  | true =>
    simp only [Bool.not_true, Bool.false_eq_true, if_false]
    cases hg : guardOf ops o with
    | none =>
      simp only [wanted, doneD]
      rw [actD_eq hx]
      cases act x (fun s => if (looks e o).contains s = true then e.get s else {}) o <;> rfl
    | some p =>
      obtain ⟨s, want⟩ := p
      simp only [wanted]
      cases hsh : (e.get s).sh with
      | one =>
        cases hcs : (e.get s).cs with
        | nil => rfl
        | cons c r =>
          cases r with
          | cons c2 r =>
            cases c with
            | dat k b => cases k <;> rfl
            | _ => rfl
          | nil =>
            cases c with
            | dat k b =>
              cases k with
              | bool =>
                cases b <;> cases want <;> simp only [cond_true, cond_false, known_eq hsh hcs, doneD, skipD] <;> first
                  | rfl
                  | (rw [actD_eq hx]; cases act x (fun s => if (looks e o).contains s = true then e.get s else {}) o <;> rfl)
              | _ => rfl
            | _ => rfl
      | tup ps => cases ps <;> rfl
      | _ => rfl

def runAD (x : Ctx) (bk : Book) (ops : Array Oper) : List Nat → Env → (Env → Trace → Option R) → Option R
  | [], e, K => K e []
  | i :: r, e, K => match ops[i]? with
    | none => none
    | some o => stepD x bk ops e o fun e s => runAD x bk ops r (e.puts s.ws) fun e' tr => K e' (entry i e s :: tr)

theorem runAD_eq {x : Ctx} {bk : Book} (hx : Over x bk) (ops : Array Oper) : ∀ (l : List Nat) (e : Env) (K : Env → Trace → Option R), runAD x bk ops l e K = (runA x ops e l).bind fun r => K r.1 r.2
  | [], e, K => rfl
  | i :: r, e, K => by
    simp only [runAD, runA]
    cases ops[i]? with
    | none => rfl
    | some o =>
      simp only
      rw [stepD_eq hx]
      cases stepA x ops e o with
      | none => rfl
      | some s =>
        simp only [Option.bind_some]
        rw [runAD_eq hx ops r]
        cases runA x ops (e.puts s.ws) r <;> rfl

def regionD (x : Ctx) (bk : Book) (ops : Array Oper) (draw : Bool) (e : Env) (K : Env → Option R) : Option R :=
  runAD x bk ops (List.range ops.size) e fun e tr => match !draw || (edgesBack 0 ops.toList && ordered (befs [] ops.toList) tr) with
    | true => K e
    | false => none

theorem regionD_eq {x : Ctx} {bk : Book} (hx : Over x bk) (ops : Array Oper) (draw : Bool) (e : Env) (K : Env → Option R) : regionD x bk ops draw e K = (region x ops draw e).bind K := by
  unfold regionD region
  rw [runAD_eq hx]
  cases runA x ops e (List.range ops.size) with
  | none => rfl
  | some r =>
    obtain ⟨e', tr⟩ := r
    simp only [Option.bind_some]
    cases h : (!draw || (edgesBack 0 ops.toList && ordered (befs [] ops.toList) tr)) <;> simp

end R

/-! ### Code -/
def frzCells (s : Nat) : Nat → List C → List (Nat × Nat)
  | _, [] => []
  | j, .own _ _ true k _ :: r => match k.flat with
    | true => frzCells s (j + 1) r
    | false => (s, j) :: frzCells s (j + 1) r
  | j, _ :: r => frzCells s (j + 1) r

/-- Before a region, lists of which an element and a cut are taken are frozen. -/
def preR (ops : List Oper) (e : Env) : Env := freezeAt e ((fzSlots ops).flatMap fun s => frzCells s 0 (e.get s).cs)

@[reducible] def OutT : List (Ex × EP) → Type
  | [] => Empty
  | [p] => p.2.T
  | p :: q :: r => p.2.T ⊕ OutT (q :: r)

/-- A loop or a meeting point: its slots at the head, its ways out, what it does to the data. -/
structure NEnt where
  P : EP
  outs : List (Ex × EP)
  T : P.T → Option (OutT outs)

abbrev Tab := List (Nat × NEnt)

def Tab.at (l : Tab) (pos : Nat) : Option NEnt := match l with
  | [] => none
  | (q, t) :: r => match Nat.beq q pos with
    | true => some t
    | false => Tab.at r pos

def outK {R : Type} : (l : List (Ex × EP)) → OutT l → (Ex → Env → Option R) → Option R
  | [], _, _ => none
  | [p], d, K => K p.1 (p.2.enc d)
  | p :: q :: r, b, K => Sum.elim (fun d => K p.1 (p.2.enc d)) (fun b => outK (q :: r) b K) b

def decOut (n : Nat) : (l : List (Ex × EP)) → Ex → Env → Option (OutT l)
  | [], _, _ => none
  | [p], ex, e => if p.1 = ex then p.2.dec n e else none
  | p :: q :: r, ex, e => match (if p.1 = ex then p.2.dec n e else none) with
    | some d => some (.inl d)
    | none => (decOut n (q :: r) ex e).map .inr

/-- Rounds of a loop over its data. -/
def iter {α β : Type} (S : α → Option (α ⊕ β)) : Nat → α → Option β
  | 0, _ => none
  | n + 1, d => match S d with
    | none => none
    | some (.inl d) => iter S n d
    | some (.inr b) => some b

section C
variable {R : Type}

def entD (n : Nat) (t : NEnt) (e : Env) (K : Ex → Env → Option R) : Option R := match t.P.dec n e with
  | some d => (t.T d).bind fun b => outK t.outs b K
  | none => none

def runD (x : Ctx) (bk : Book) (tb : Tab) : (pos : Nat) → Code → Env → (Ex → Env → Option R) → Option R
  | pos, .skip, e, K => K .normal e
  | pos, .region _ ops d, e, K => regionD x bk ops d (preR ops.toList e) fun e => K .normal e
  | pos, .seq a b, e, K => runD x bk tb (2 * pos) a e fun ex e => match ex with
    | .normal => match tb.at (2 * pos + 1) with
      | some t => entD x.n t e K
      | none => runD x bk tb (2 * pos + 1) b e K
    | ex => K ex e
  | pos, .cond c a b, e, K => match (opdUses c).all (· < x.n), opd e.get c with
    | true, some (.one, [.dat .bool t]) => cond t (runD x bk tb (2 * pos) a e K) (runD x bk tb (2 * pos + 1) b e K)
    | _, _ => none
  | pos, .block id a, e, K => runD x bk tb (2 * pos) a e fun ex e => match ex with
    | .exit i => match Nat.beq i id with
      | true => K .normal e
      | false => K (.exit i) e
    | ex => K ex e
  | pos, .loop a, e, K => match tb.at pos with
    | some t => entD x.n t e K
    | none => none
  | pos, .exit id, e, K => K (.exit id) e
  | pos, .ret, e, K => K .ret e
  | _, _, _, _ => none
end C

/-- The code at a place. -/
def childC (b : Nat) : Code → Code
  | .seq x y => match b with
    | 0 => x
    | _ => y
  | .cond _ x y => match b with
    | 0 => x
    | _ => y
  | .block _ x => x
  | .loop x => x
  | c => c

def subF (root : Code) : Nat → Nat → Code
  | 0, _ => root
  | f + 1, n => match Nat.ble n 1 with
    | true => root
    | false => childC (n % 2) (subF root f (n / 2))

def sub (root : Code) (n : Nat) : Code := subF root n n

theorem subF_enough (root : Code) : ∀ (f n : Nat), n ≤ f → ∀ g, n ≤ g → subF root f n = subF root g n
  | 0, n, h, g, hg => by
    obtain rfl : n = 0 := by omega
    cases g <;> simp [subF]
  | f + 1, n, h, g, hg => by
    cases g with
    | zero =>
      obtain rfl : n = 0 := by omega
      simp [subF]
    | succ g =>
      simp only [subF]
      cases hb : Nat.ble n 1 with
      | true => rfl
      | false =>
        have : ¬ n ≤ 1 := fun q => by rw [Nat.ble_eq_true_of_le q] at hb; cases hb
        simp only
        rw [subF_enough root f (n / 2) (by omega) g (by omega)]

theorem sub_child (root : Code) {pos : Nat} (h : 1 ≤ pos) (b : Nat) (hb : b < 2) : sub root (2 * pos + b) = childC b (sub root pos) := by
  unfold sub
  obtain ⟨m, hm⟩ : ∃ m, 2 * pos + b = m + 1 := ⟨2 * pos + b - 1, by omega⟩
  rw [hm]
  simp only [subF]
  have hn : Nat.ble (m + 1) 1 = false := by
    cases hq : Nat.ble (m + 1) 1 with
    | false => rfl
    | true => have := Nat.le_of_ble_eq_true hq; omega
  rw [hn]
  simp only
  rw [show (m + 1) % 2 = b by omega, show (m + 1) / 2 = pos by omega, subF_enough root m pos (by omega) pos (Nat.le_refl _)]

/-- What is asked of a loop or meeting point. -/
def NodeOk (x : Ctx) (bk : Book) (tb : Tab) (root : Code) (pos : Nat) (t : NEnt) : Prop :=
  (∃ a, sub root pos = .loop a ∧ ∃ S : t.P.T → Option (t.P.T ⊕ OutT t.outs), t.T = (fun d => iter S bigN d) ∧
    ∀ d, runD x bk tb (2 * pos) a (t.P.enc d) (fun ex e => match ex with
      | .normal => (t.P.dec x.n e).map .inl
      | ex => (decOut x.n t.outs ex e).map .inr) = S d) ∨
  (∀ d, runD x bk tb pos (sub root pos) (t.P.enc d) (fun ex e => decOut x.n t.outs ex e) = t.T d) ∧ ∀ a, sub root pos ≠ .loop a

def Nodes (x : Ctx) (bk : Book) (tb : Tab) (root : Code) : Tab → Prop
  | [] => True
  | (pos, t) :: r => NodeOk x bk tb root pos t ∧ Nodes x bk tb root r

theorem Nodes.at {x : Ctx} {bk : Book} {tb : Tab} {root : Code} : ∀ {l : Tab}, Nodes x bk tb root l → ∀ {pos : Nat} {t : NEnt}, l.at pos = some t → NodeOk x bk tb root pos t
  | [], _, pos, t, h => by simp [Tab.at] at h
  | (q, s) :: r, hn, pos, t, h => by
    simp only [Tab.at] at h
    split at h
    · rename_i hq
      have := Nat.eq_of_beq_eq_true hq
      subst this
      simp only [Option.some.injEq] at h
      subst h
      exact hn.1
    · exact Nodes.at hn.2 h

def Ex.exit' : Ex → Exit
  | .normal => .normal
  | .exit id => .exit id
  | .ret => .ret

theorem decOut_ok {n : Nat} : ∀ {l : List (Ex × EP)} {ex : Ex} {e : Env} {b : OutT l}, decOut n l ex e = some b → ∀ {tm : Array Value} {w : World} {G : Gh}, Inv n e tm w G → ∀ m, e.length ≤ m →
    ∃ e', e'.length = e.length ∧ (∀ (R : Type) (K : Ex → Env → Option R), outK l b K = K ex e') ∧ ∃ G', Inv n e' tm w G' ∧ Held n m w w G G'
  | [], ex, e, b, h, tm, w, G, hi, m, hm => by simp [decOut] at h
  | [p], ex, e, b, h, tm, w, G, hi, m, hm => by
    simp only [decOut] at h
    split at h
    · rename_i hp
      obtain ⟨h1, h2⟩ := EP.dec_ok h hi m hm
      exact ⟨_, h1, fun R K => by simp only [outK, hp], h2⟩
    · simp at h
  | p :: q :: r, ex, e, b, h, tm, w, G, hi, m, hm => by
    simp only [decOut] at h
    split at h
    · rename_i d hd
      split at hd
      · rename_i hp
        simp only [Option.some.injEq] at h
        subst h
        obtain ⟨h1, h2⟩ := EP.dec_ok hd hi m hm
        exact ⟨_, h1, fun R K => by simp only [outK, hp, Sum.elim_inl], h2⟩
      · simp at hd
    · cases hr : decOut n (q :: r) ex e with
      | none => rw [hr] at h; simp at h
      | some b' =>
        rw [hr] at h
        simp only [Option.map_some, Option.some.injEq] at h
        subst h
        obtain ⟨e', h1, h2, h3⟩ := decOut_ok hr hi m hm
        exact ⟨e', h1, fun R K => by simp only [outK, Sum.elim_inr]; exact h2 R K, h3⟩

theorem Post.weaken {n : Nat} {e1 e2 : Env} {a a1 : Act} {w w1 : World} {G G1 G2 : Gh} (h : Post n e1 a w G a1 w1 G1) (hl : e2.length = e1.length) (hi : Inv n e2 a1.tmps w1 G2) (hh : Held n e1.length w1 w1 G1 G2) : Post n e2 a w G a1 w1 G2 :=
  ⟨hi, by rw [hl]; exact h.held.trans hh, h.grows, h.defers, h.env⟩

section sound
variable {P : Program} [Tabs P] {x : Ctx} {bk : Book} {tb : Tab} {root : Code}

/-- What running to an end means. -/
def Runs (P : Program) [Tabs P] (x : Ctx) (c : Code) {R : Type} (e : Env) (K : Ex → Env → Option R) (r : R) : Prop :=
  ∀ (a : Act) (w : World) (G : Gh), Inv x.n e a.tmps w G → Laid P w G → ∀ Q : Exit → Act → World → Prop,
    (∀ ex e' a' w' G', K ex e' = some r → e'.length = e.length → Post x.n e' a w G a' w' G' → Q ex.exit' a' w') → c.wp P Q a w

/-- A loop or a meeting point whose body is sound. -/
theorem ent_ok {c : Code} {pos : Nat} (hpos : 1 ≤ pos) (hsub : sub root pos = c) {t : NEnt} (hn : NodeOk x bk tb root pos t)
    (hbody : ∀ a, c = .loop a → ∀ (R : Type) (e : Env) (K : Ex → Env → Option R) (r : R), runD x bk tb (2 * pos) a e K = some r → Runs P x a e K r)
    (hself : (∀ a, c ≠ .loop a) → ∀ (R : Type) (e : Env) (K : Ex → Env → Option R) (r : R), runD x bk tb pos c e K = some r → Runs P x c e K r)
    {R : Type} {e : Env} {K : Ex → Env → Option R} {r : R} (h : entD x.n t e K = some r) : Runs P x c e K r := by
  intro a w G hi hlaid Q hq
  simp only [entD] at h
  split at h
  · rename_i d hd
    cases hT : t.T d with
    | none => rw [hT] at h; simp at h
    | some b =>
      rw [hT] at h
      simp only [Option.bind_some] at h
      obtain ⟨l0, G0, hi0, hh0⟩ := EP.dec_ok hd hi e.length (Nat.le_refl _)
      have hp0 : Post x.n (t.P.enc d) a w G a w G0 := (Post.refl hi).weaken l0 hi0 hh0
      rcases hn with ⟨body, hb, S, hS, hrun⟩ | ⟨hrun, hnl⟩
      · have hc : c = .loop body := by rw [← hsub, hb]
        subst hc
        refine wp_loop_rounds bigN ?_
        rw [hS] at hT
        have key : ∀ (k : Nat) (d : t.P.T) (a1 : Act) (w1 : World) (G1 : Gh), (t.P.enc d).length = e.length → Post x.n (t.P.enc d) a w G a1 w1 G1 → iter S k d = some b → Code.rounds P body Q k a1 w1 := by
          intro k
          induction k with
          | zero => intro d a1 w1 G1 _ _ hk; simp [iter] at hk
          | succ k ih =>
            intro d a1 w1 G1 hl hp hk
            simp only [iter] at hk
            cases hs : S d with
            | none => rw [hs] at hk; simp at hk
            | some s =>
              rw [hs] at hk
              rw [rounds_succ]
              refine hbody body rfl _ (t.P.enc d) _ s ((hrun d).trans hs) a1 w1 G1 hp.inv (hlaid.post hp) _ fun ex e' a2 w2 G2 hK hl2 hp2 => ?_
              have hp3 : Post x.n e' a w G a2 w2 G2 := hp.trans hp2 hl2.symm
              cases ex with
              | normal =>
                simp only at hK
                cases hd' : t.P.dec x.n e' with
                | none => rw [hd'] at hK; simp at hK
                | some d' =>
                  rw [hd'] at hK
                  simp only [Option.map_some, Option.some.injEq] at hK
                  subst hK
                  obtain ⟨l3, G3, hi3, hh3⟩ := EP.dec_ok hd' hp2.inv e'.length (Nat.le_refl _)
                  exact ih d' a2 w2 G3 (by rw [l3, hl2, hl]) (hp3.weaken l3 hi3 hh3) hk
              | exit id =>
                simp only at hK
                cases hd' : decOut x.n t.outs (.exit id) e' with
                | none => rw [hd'] at hK; simp at hK
                | some b' =>
                  rw [hd'] at hK
                  simp only [Option.map_some, Option.some.injEq] at hK
                  subst hK
                  simp only [Option.some.injEq] at hk
                  subst hk
                  obtain ⟨e3, l3, hK3, G3, hi3, hh3⟩ := decOut_ok hd' hp2.inv e'.length (Nat.le_refl _)
                  rw [hK3] at h
                  exact hq (.exit id) e3 a2 w2 G3 h (by rw [l3, hl2, hl]) (hp3.weaken l3 hi3 hh3)
              | ret =>
                simp only at hK
                cases hd' : decOut x.n t.outs .ret e' with
                | none => rw [hd'] at hK; simp at hK
                | some b' =>
                  rw [hd'] at hK
                  simp only [Option.map_some, Option.some.injEq] at hK
                  subst hK
                  simp only [Option.some.injEq] at hk
                  subst hk
                  obtain ⟨e3, l3, hK3, G3, hi3, hh3⟩ := decOut_ok hd' hp2.inv e'.length (Nat.le_refl _)
                  rw [hK3] at h
                  exact hq .ret e3 a2 w2 G3 h (by rw [l3, hl2, hl]) (hp3.weaken l3 hi3 hh3)
        exact key bigN d a w G0 l0 hp0 hT
      · rw [hsub] at hrun hnl
        refine hself hnl _ (t.P.enc d) _ b ((hrun d).trans hT) a w G0 hi0 (hlaid.post hp0) Q fun ex e' a' w' G' hK hl hp => ?_
        obtain ⟨e3, l3, hK3, G3, hi3, hh3⟩ := decOut_ok hK hp.inv e'.length (Nat.le_refl _)
        rw [hK3] at h
        exact hq ex e3 a' w' G3 h (by rw [l3, hl, l0]) ((hp0.trans hp hl.symm).weaken l3 hi3 hh3)
  · simp at h

/-- What the machine runs to, the model runs to. -/
theorem runD_both (hx : CtxOk P x) (ho : Over x bk) (hlen : x.n ≤ 1000000) (hm : P.follows .mixedOrders = true) (hn : Nodes x bk tb root tb) :
    ∀ (c : Code) (pos : Nat), 1 ≤ pos → sub root pos = c → (∀ (R : Type) (e : Env) (K : Ex → Env → Option R) (r : R), runD x bk tb pos c e K = some r → Runs P x c e K r) ∧
      (∀ t, tb.at pos = some t → ∀ (R : Type) (e : Env) (K : Ex → Env → Option R) (r : R), entD x.n t e K = some r → Runs P x c e K r) := by
  intro c
  -- what is no loop is its own book
  have both : ∀ (c : Code) (pos : Nat), 1 ≤ pos → sub root pos = c → (∀ a, c ≠ .loop a) → (∀ (R : Type) (e : Env) (K : Ex → Env → Option R) (r : R), runD x bk tb pos c e K = some r → Runs P x c e K r) →
      (∀ (R : Type) (e : Env) (K : Ex → Env → Option R) (r : R), runD x bk tb pos c e K = some r → Runs P x c e K r) ∧
      (∀ t, tb.at pos = some t → ∀ (R : Type) (e : Env) (K : Ex → Env → Option R) (r : R), entD x.n t e K = some r → Runs P x c e K r) :=
    fun c pos hpos hsub hnl hA => ⟨hA, fun t ht R e K r h => ent_ok (x := x) (bk := bk) (tb := tb) (root := root) hpos hsub (hn.at ht) (fun a ha => absurd ha (hnl a)) (fun _ => hA) h⟩
  induction c with
  | skip =>
    intro pos hpos hsub
    refine both _ pos hpos hsub (by simp) ?_
    intro R e K r h a w G hi hlaid Q hq
    simp only [runD] at h
    exact wp_skip (hq .normal e a w G h rfl (Post.refl hi))
  | region id ops d =>
    intro pos hpos hsub
    refine both _ pos hpos hsub (by simp) ?_
    intro R e K r h a w G hi hlaid Q hq
    simp only [runD] at h
    rw [regionD_eq ho] at h
    obtain ⟨pl, G1, hi1, hh1⟩ := freezeAt_ok e.length (ps := (fzSlots ops.toList).flatMap fun s => frzCells s 0 (e.get s).cs) hi (Nat.le_refl _)
    have hlaid1 : Laid P w G1 := hlaid.still hh1.still
    change Inv x.n (preR ops.toList e) a.tmps w G1 at hi1
    change (preR ops.toList e).length = e.length at pl
    cases hr : region x ops d (preR ops.toList e) with
    | none => rw [hr] at h; simp at h
    | some e' =>
      rw [hr] at h
      have hl : e'.length = e.length := by
        simp only [region] at hr
        split at hr
        · simp at hr
        · rename_i hrun
          split at hr
          · simp only [Option.some.injEq] at hr
            subst hr
            exact (runA_length hrun).trans pl
          · simp at hr
      exact region_sound hx hlen hm hi1 hlaid1 hr Q fun a' w' G' hp => hq .normal e' a' w' G' h hl ⟨hp.inv, (show Held x.n e'.length w w G G1 by rw [hl]; exact hh1).trans hp.held, hp.grows, hp.defers, hp.env⟩
  | seq p q ihp ihq =>
    intro pos hpos hsub
    have h0 : sub root (2 * pos) = p := by have := sub_child root hpos 0 (by omega); rw [hsub] at this; exact this
    have h1 : sub root (2 * pos + 1) = q := by have := sub_child root hpos 1 (by omega); rw [hsub] at this; exact this
    refine both _ pos hpos hsub (by simp) ?_
    intro R e K r h a w G hi hlaid Q hq
    simp only [runD] at h
    refine wp_seq ((ihp (2 * pos) (by omega) h0).1 R e _ r h a w G hi hlaid _ fun ex e' a' w' G' hK hl hp => ?_)
    cases ex with
    | normal =>
      simp only at hK
      have hgo : Runs P x q e' K r := by
        cases ht : tb.at (2 * pos + 1) with
        | none =>
          rw [ht] at hK
          exact (ihq (2 * pos + 1) (by omega) h1).1 R e' K r hK
        | some t =>
          rw [ht] at hK
          exact (ihq (2 * pos + 1) (by omega) h1).2 t ht R e' K r hK
      exact hgo a' w' G' hp.inv (hlaid.post hp) Q fun ex' e'' a'' w'' G'' hK' hl' hp' => hq ex' e'' a'' w'' G'' hK' (hl'.trans hl) (hp.trans hp' hl'.symm)
    | exit id => exact hq (.exit id) e' a' w' G' hK hl hp
    | ret => exact hq .ret e' a' w' G' hK hl hp
  | cond c p q ihp ihq =>
    intro pos hpos hsub
    have h0 : sub root (2 * pos) = p := by have := sub_child root hpos 0 (by omega); rw [hsub] at this; exact this
    have h1 : sub root (2 * pos + 1) = q := by have := sub_child root hpos 1 (by omega); rw [hsub] at this; exact this
    refine both _ pos hpos hsub (by simp) ?_
    intro R e K r h a w G hi hlaid Q hq
    simp only [runD] at h
    split at h
    · rename_i t hin hc
      have hval : ∃ vs Ls, ValOk e w G (.one, [.dat .bool t]) (a.eval c) vs Ls := by
        refine opd_ok hi (fun s => .inl rfl) (fun s hs => ?_) hc
        subst hs
        simpa [opdUses] using hin
      obtain ⟨vs, Ls, hv⟩ := hval
      have hb : a.eval c = .bool t := by
        have hl := hv.cells.len
        match vs, hl with
        | [u], _ =>
          have := dat_bool (hv.cells.cell 0 _ u rfl rfl)
          rw [hv.form, this]
          rfl
      cases t with
      | true => exact wp_cond_true hb ((ihp (2 * pos) (by omega) h0).1 R e K r (by simpa using h) a w G hi hlaid Q hq)
      | false => exact wp_cond_false hb ((ihq (2 * pos + 1) (by omega) h1).1 R e K r (by simpa using h) a w G hi hlaid Q hq)
    · simp at h
  | block id p ihp =>
    intro pos hpos hsub
    have h0 : sub root (2 * pos) = p := by have := sub_child root hpos 0 (by omega); rw [hsub] at this; exact this
    refine both _ pos hpos hsub (by simp) ?_
    intro R e K r h a w G hi hlaid Q hq
    simp only [runD] at h
    refine wp_block ((ihp (2 * pos) (by omega) h0).1 R e _ r h a w G hi hlaid _ fun ex e' a' w' G' hK hl hp => ?_)
    cases ex with
    | normal => exact hq .normal e' a' w' G' hK hl hp
    | ret => exact hq .ret e' a' w' G' hK hl hp
    | exit i =>
      simp only at hK
      simp only [Ex.exit', Exit.inBlock]
      split at hK
      · rename_i hb
        rw [if_pos (Nat.eq_of_beq_eq_true hb)]
        exact hq .normal e' a' w' G' hK hl hp
      · rename_i hb
        rw [if_neg fun q => by subst q; simp at hb]
        exact hq (.exit i) e' a' w' G' hK hl hp
  | loop p ihp =>
    intro pos hpos hsub
    have h0 : sub root (2 * pos) = p := by have := sub_child root hpos 0 (by omega); rw [hsub] at this; exact this
    have hB : ∀ t, tb.at pos = some t → ∀ (R : Type) (e : Env) (K : Ex → Env → Option R) (r : R), entD x.n t e K = some r → Runs P x (.loop p) e K r := by
      intro t ht R e K r h
      refine ent_ok (x := x) (bk := bk) (tb := tb) (root := root) hpos hsub (hn.at ht) (fun a ha => ?_) (fun hnl => absurd rfl (hnl p)) h
      cases ha
      exact (ihp (2 * pos) (by omega) h0).1
    refine ⟨fun R e K r h => ?_, hB⟩
    simp only [runD] at h
    split at h
    · rename_i t ht
      exact hB t ht R e K r h
    · simp at h
  | exit id =>
    intro pos hpos hsub
    refine both _ pos hpos hsub (by simp) ?_
    intro R e K r h a w G hi hlaid Q hq
    simp only [runD] at h
    exact wp_exit (hq (.exit id) e a w G h rfl (Post.refl hi))
  | ret =>
    intro pos hpos hsub
    refine both _ pos hpos hsub (by simp) ?_
    intro R e K r h a w G hi hlaid Q hq
    simp only [runD] at h
    exact wp_ret (hq .ret e a w G h rfl (Post.refl hi))
  | _ =>
    intro pos hpos hsub
    refine both _ pos hpos hsub (by simp) ?_
    intro R e K r h
    simp [runD] at h

end sound

end Go.Mach
