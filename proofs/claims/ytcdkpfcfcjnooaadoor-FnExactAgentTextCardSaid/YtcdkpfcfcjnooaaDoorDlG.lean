/- Plain: items, agents as text; the law FnExactAgentText. No condition: lemmas. -/
import Derived.Test.YtcdkpfcfcjnooaaDoorDlC
namespace Go.Proofs.YtcdkpfcfcjnooaaDoor.Tw
open Go.Mach
set_option linter.unusedVariables false
set_option maxRecDepth 20000

abbrev ItemT := Int × Int × Int × Int × SketchT
abbrev kItem : K := .pair kI (.pair kI (.pair kI (.pair kI kSketch)))
abbrev AgentT := Int × Int × Bool × Int × List ItemT × List SpanT × Int
abbrev kAgent : K := .pair kI (.pair kI (.pair .bool (.pair kI (.pair (.list kItem) (.pair (.list kSpan) kI)))))
abbrev item0 : ItemT := (0, 0, 0, 0, 0, 0, 0, 0, [], [], [])
def itLe (b : Nat) (x : ItemT) : Prop := SkLe b x.2.2.2.2
def agLe (b : Nat) (a : AgentT) : Prop := (a.2.2.2.2.1.length ≤ b ∧ ∀ x ∈ a.2.2.2.2.1, itLe b x) ∧ a.2.2.2.2.2.1.length ≤ b

/-! ### sizes, copies, comparisons -/
theorem szItem_is : IsSz (fun x : ItemT => laws_szItem x.1 x.2.1 x.2.2.1 x.2.2.2.1 x.2.2.2.2.1 x.2.2.2.2.2.1 x.2.2.2.2.2.2.1 x.2.2.2.2.2.2.2.1 x.2.2.2.2.2.2.2.2.1 x.2.2.2.2.2.2.2.2.2.1 x.2.2.2.2.2.2.2.2.2.2) (itLe big) (itLe small) := by
  intro x a hw h0 h1
  dsimp only [laws_szItem]
  obtain ⟨b, e1, e2⟩ := szSketch_is x.2.2.2.2 a hw h0 h1
  dsimp only at e1
  rw [e1, Option.bind_some]
  rcases e2 with rfl | ⟨e2, e3, q1⟩
  · exact ⟨-1, rfl, .inl rfl⟩
  rw [decide_eq_false (by omega), cond_false]
  exact ⟨b, rfl, .inr ⟨e2, e3, q1⟩⟩

theorem szItemS_is : IsSz laws_szItemS (fun l => l.length ≤ big ∧ ∀ x ∈ l, itLe big x) (fun l => l.length ≤ small ∧ ∀ x ∈ l, itLe small x) :=
  isSz_list (S := fun d => laws_szItemS_s122 d.1 d.2.1 d.2.2) szItem_is item0 (fun l i a hl hi => by
    simp only [Option.bind_some, laws_szItemS_s122, Int.toNat_natCast, wrap_nat (show i ≤ 1048576 by omega)]
    rw [decide_eq_true (by omega : (i : Int) < l.length), cond_true, chk_dec (by omega), chk_dec hi]) (fun l a hl => by
    simp only [Option.bind_some, laws_szItemS_s122]
    rw [decide_eq_false (by omega), cond_false])

theorem szAgent_is : IsSz (fun a : AgentT => laws_szAgent a.1 a.2.1 a.2.2.1 a.2.2.2.1 a.2.2.2.2.1 a.2.2.2.2.2.1 a.2.2.2.2.2.2) (agLe big) (agLe small) := by
  intro x a hw h0 h1
  obtain ⟨w1, w2⟩ := hw
  dsimp only [laws_szAgent]
  obtain ⟨b, e1, e2⟩ := szItemS_is x.2.2.2.2.1 a w1 h0 h1
  rw [e1, Option.bind_some]
  rcases e2 with rfl | ⟨e2, e3, q1⟩
  · exact ⟨-1, rfl, .inl rfl⟩
  rw [decide_eq_false (by omega), cond_false]
  obtain ⟨c, f1, f2⟩ := szSpanS_is x.2.2.2.2.2.1 b w2 e2 (by omega)
  rw [f1, Option.bind_some]
  rcases f2 with rfl | ⟨f2, f3, q2⟩
  · exact ⟨-1, rfl, .inl rfl⟩
  rw [decide_eq_false (by omega), cond_false]
  exact ⟨c, rfl, .inr ⟨f2, by omega, q1, q2⟩⟩

theorem toItem_eq {x : ItemT} (h : itLe small x) : laws_toItem x.1 x.2.1 x.2.2.1 x.2.2.2.1 x.2.2.2.2.1 x.2.2.2.2.2.1 x.2.2.2.2.2.2.1 x.2.2.2.2.2.2.2.1 x.2.2.2.2.2.2.2.2.1 x.2.2.2.2.2.2.2.2.2.1 x.2.2.2.2.2.2.2.2.2.2 = some x := by
  unfold laws_toItem
  rw [toSketch_eq h, Option.bind_some]
  simp only [Option.bind_some]

theorem toItemS_eq {l : List ItemT} (hl : l.length ≤ 1048576) (hr : ∀ x ∈ l, itLe small x) : laws_toItemS l = some l := by
  unfold laws_toItemS
  rw [chk_dec (by simp only [Int.toNat_natCast]; omega)]
  have : laws_toItemS_l58 l (List.replicate (Int.toNat (l.length : Int)) item0) 0 = some l := by
    simp only [Int.toNat_natCast, ← cp_zero]
    refine (det_run (S := fun d => laws_toItemS_s58 d.1 d.2.1 d.2.2) (fun i => (l, cp l item0 i, (i : Int))) hl (fun i hi => ?_) ?_)
    · have h1 := cp_length l item0 i (by omega)
      simp only [Option.bind_some, laws_toItemS_s58, Int.toNat_natCast, wrap_nat (show i ≤ 1048576 by omega), h1]
      rw [decide_eq_true (by omega : (i : Int) < l.length), cond_true, chk_dec (by omega), chk_dec hi, toItem_eq (hr _ (getD_mem hi)), Option.bind_some, chk_dec (by omega), chk_dec hi, chk_dec hi, ← cp_set l item0 i hi]
    · simp only [Option.bind_some, laws_toItemS_s58]
      rw [decide_eq_false (by omega), cond_false, cp_all]
  rw [Option.bind_some, this]
  rfl

theorem toAgent_eq {a : AgentT} (h : agLe small a) : laws_toAgent a.1 a.2.1 a.2.2.1 a.2.2.2.1 a.2.2.2.2.1 a.2.2.2.2.2.1 a.2.2.2.2.2.2 = some a := by
  unfold laws_toAgent
  rw [toItemS_eq h.1.1 h.1.2, Option.bind_some, toSpanS_eq h.2]
  rfl

theorem eqItem_self {x : ItemT} (h : itLe small x) : laws_eqItem x.1 x.2.1 x.2.2.1 x.2.2.2.1 x.2.2.2.2.1 x.2.2.2.2.2.1 x.2.2.2.2.2.2.1 x.2.2.2.2.2.2.2.1 x.2.2.2.2.2.2.2.2.1 x.2.2.2.2.2.2.2.2.2.1 x.2.2.2.2.2.2.2.2.2.2
    x.1 x.2.1 x.2.2.1 x.2.2.2.1 x.2.2.2.2.1 x.2.2.2.2.2.1 x.2.2.2.2.2.2.1 x.2.2.2.2.2.2.2.1 x.2.2.2.2.2.2.2.2.1 x.2.2.2.2.2.2.2.2.2.1 x.2.2.2.2.2.2.2.2.2.2 = some true := by
  unfold laws_eqItem
  simp only [bne_self_eq_false, cond_false]
  rw [lawsEqSketch_eq h, Option.bind_some]
  simp

theorem eqItemS_self {l : List ItemT} (hl : l.length ≤ 1048576) (hr : ∀ x ∈ l, itLe small x) : laws_eqItemS l l = some true := by
  have h := eqS_run (S := fun d => laws_eqItemS_s58 d.1 d.2.1 d.2.2) item0 (a := l) (b := l) hl (fun i => (l, l, (i : Int))) (fun i hi hb hm => by
    simp only [Option.bind_some, laws_eqItemS_s58, Int.toNat_natCast, wrap_nat (show i ≤ 1048576 by omega)]
    rw [decide_eq_true (by omega : (i : Int) < l.length), cond_true, chk_dec (by omega), chk_dec hi, chk_dec (by omega), chk_dec hi, eqItem_self (hr _ hm), Option.bind_some]
    simp) (fun hb => by
    simp only [Option.bind_some, laws_eqItemS_s58]
    rw [decide_eq_false (by omega), cond_false])
  simp only [decide_true] at h
  exact h

theorem eqAgent_self {a : AgentT} (h : agLe small a) : laws_eqAgent a.1 a.2.1 a.2.2.1 a.2.2.2.1 a.2.2.2.2.1 a.2.2.2.2.2.1 a.2.2.2.2.2.2 a.1 a.2.1 a.2.2.1 a.2.2.2.1 a.2.2.2.2.1 a.2.2.2.2.2.1 a.2.2.2.2.2.2 = some true := by
  unfold laws_eqAgent
  simp only [bne_self_eq_false, cond_false, beq_self_eq_true, Bool.not_true]
  rw [eqItemS_self h.1.1 h.1.2, Option.bind_some, lawsEqSpanS_eq h.2, Option.bind_some]
  simp

/-! ### what is right -/
def itemOk (x : ItemT) : Bool := inR x.1 1 60 && (inR x.2.1 0 1 && (inR x.2.2.1 0 4 && (inR x.2.2.2.1 0 20 && skOk x.2.2.2.2)))

theorem specItemOk_eq {x : ItemT} (h : itLe small x) : spec_ItemOk x.1 x.2.1 x.2.2.1 x.2.2.2.1 x.2.2.2.2.1 x.2.2.2.2.2.1 x.2.2.2.2.2.2.1 x.2.2.2.2.2.2.2.1 x.2.2.2.2.2.2.2.2.1 x.2.2.2.2.2.2.2.2.2.1 x.2.2.2.2.2.2.2.2.2.2 = some (itemOk x) := by
  unfold spec_ItemOk spec_l6Place itemOk
  simp only [l1In_eq, Option.bind_some, specSketchOk_eq h]
  cases inR x.1 1 60 <;> cases inR x.2.1 0 1 <;> cases inR x.2.2.1 0 4 <;> cases inR x.2.2.2.1 0 20 <;> rfl

theorem implItemOk_eq {x : ItemT} (h : itLe small x) : impl_ItemOk x.1 x.2.1 x.2.2.1 x.2.2.2.1 x.2.2.2.2.1 x.2.2.2.2.2.1 x.2.2.2.2.2.2.1 x.2.2.2.2.2.2.2.1 x.2.2.2.2.2.2.2.2.1 x.2.2.2.2.2.2.2.2.2.1 x.2.2.2.2.2.2.2.2.2.2 = some (itemOk x) := by
  unfold impl_ItemOk itemOk
  simp only [within_eq, Option.bind_some, implSketchOk_eq h]
  cases inR x.1 1 60 <;> cases inR x.2.1 0 1 <;> cases inR x.2.2.1 0 4 <;> cases inR x.2.2.2.1 0 20 <;> rfl

def inB (m : Int) (x : SpanT) : Bool := !decide (x.1 < 1) && !decide (x.2 > m)
def belowB (l : List SpanT) (m : Int) : Bool := setOk l && l.all (inB m)

theorem l8Below_eq {l : List SpanT} {m : Int} (hl : l.length ≤ 1048576) : spec_l8Below l m = some (belowB l m) := by
  unfold spec_l8Below belowB
  rw [specSetOk_eq hl, Option.bind_some]
  cases setOk l with
  | false => rfl
  | true =>
    simp only [Bool.not_true, cond_false, Bool.true_and]
    have : spec_l8Below_l58 l m 0 = some (if l.all (inB m) then .inr () else .inl false) := by
      rw [← all_range_all (0, 0) (inB m) l]
      refine walk_run (S := fun d => spec_l8Below_s58 d.1 d.2.1 d.2.2) (fun i => (l, m, (i : Int))) hl (fun i => inB m (l.getD i (0, 0))) (fun i hi => ?_) ?_
      · have g1 : (0 : Int) ≤ (i : Int) := by omega
        simp only [spec_l8Below_s58, Int.toNat_natCast, wrap_nat (show i ≤ 1048576 by omega), Option.bind_some]
        rw [decide_eq_true (by omega : (i : Int) < l.length), cond_true]
        simp only [chk_dec g1, chk_dec hi]
        by_cases p : (l.getD i (0, 0)).1 < 1
        · rw [decide_eq_true p, cond_true, if_neg (by simp only [inB, decide_eq_true p]; simp)]
        · by_cases q : (l.getD i (0, 0)).2 > m
          · rw [decide_eq_false p, cond_false, decide_eq_true q, cond_true, if_neg (by simp only [inB, decide_eq_true q]; simp)]
          · rw [decide_eq_false p, cond_false, decide_eq_false q, cond_false, if_pos (by simp only [inB, decide_eq_false p, decide_eq_false q]; rfl)]
      · simp only [spec_l8Below_s58]
        rw [decide_eq_false (by omega), cond_false]
    rw [this, Option.bind_some]
    cases l.all (inB m) <;> rfl

theorem setOk_at {l : List SpanT} (h : setOk l = true) {i : Nat} (hi : i < l.length) : small4 (l.getD i (0, 0)).1 ∧ small4 (l.getD i (0, 0)).2 ∧ (l.getD i (0, 0)).1 ≤ (l.getD i (0, 0)).2 ∧
    (∀ j, i = j + 1 → (l.getD j (0, 0)).2 < (l.getD i (0, 0)).1) := by
  have h0 := setOk_mem h _ (getD_mem (d := (0, 0)) hi)
  have := List.all_eq_true.1 h i (List.mem_range.2 hi)
  simp only [spanOk, Bool.and_eq_true, inR_iff, Bool.not_eq_true', Bool.and_eq_false_iff, decide_eq_false_iff_not] at this
  refine ⟨h0.1, h0.2, this.2.1.1, fun j hj => ?_⟩
  subst hj
  have hj := setOk_mem h _ (getD_mem (l := l) (i := j) (d := (0, 0)) (by omega))
  have h3 := hj.2.1
  have h4 := hj.2.2
  rcases this.2.2 with q | q
  · omega
  · rw [show j + 1 - 1 = j by omega, wrap_i64 (by omega) (by omega)] at q
    omega

theorem setOk_lo {l : List SpanT} (h : setOk l = true) : ∀ i, i < l.length → (l.getD 0 (0, 0)).1 ≤ (l.getD i (0, 0)).1
  | 0, _ => Int.le_refl _
  | i + 1, hi => by
    have := setOk_lo h i (by omega)
    have h1 := (setOk_at h hi).2.2.2 i rfl
    have h2 := (setOk_at h (show i < l.length by omega)).2.2.1
    omega

theorem setOk_hi {l : List SpanT} (h : setOk l = true) (i : Nat) : ∀ k, i + k < l.length → (l.getD i (0, 0)).2 ≤ (l.getD (i + k) (0, 0)).2
  | 0, _ => Int.le_refl _
  | k + 1, hi => by
    have := setOk_hi h i k (by omega)
    have h1 := (setOk_at h hi).2.2.2 (i + k) rfl
    have h2 := (setOk_at h hi).2.2.1
    have e : i + (k + 1) = i + k + 1 := rfl
    rw [e] at h1 h2 ⊢
    omega

theorem allIn_eq {l : List SpanT} {m : Int} (hl : l.length ≤ 1048576) : impl_allIn l 1 m = some (belowB l m) := by
  unfold impl_allIn belowB
  rw [implSetOk_eq hl, Option.bind_some]
  cases hs : setOk l with
  | false => rfl
  | true =>
    simp only [cond_true, Bool.true_and]
    by_cases h0 : l = []
    · subst h0
      rfl
    · have hp : 0 < l.length := List.length_pos_iff.2 h0
      have e1 : ((l.length : Int) == 0) = false := by
        rw [beq_eq_false_iff_ne]
        omega
      have e2 : IntKind.wrap .i64 ((l.length : Int) - 1) = ((l.length - 1 : Nat) : Int) := by rw [wrap_i64 (by omega) (by omega)]; omega
      rw [e1, cond_false, chk_dec hp, Option.bind_some, e2]
      simp only [Int.toNat_natCast]
      have key : l.all (inB m) = (decide ((l.getD 0 (0, 0)).1 ≥ 1) && decide ((l.getD (l.length - 1) (0, 0)).2 ≤ m)) := by
        rw [Bool.eq_iff_iff, List.all_eq_true, Bool.and_eq_true, decide_eq_true_eq, decide_eq_true_eq]
        constructor
        · intro h
          have g1 := h _ (getD_mem (d := (0, 0)) hp)
          have g2 := h _ (getD_mem (d := (0, 0)) (show l.length - 1 < l.length by omega))
          simp only [inB, Bool.and_eq_true, Bool.not_eq_true', decide_eq_false_iff_not] at g1 g2
          exact ⟨by omega, by omega⟩
        · rintro ⟨g1, g2⟩ x hx
          obtain ⟨i, hi⟩ := List.getElem?_of_mem hx
          have hil := (List.getElem?_eq_some_iff.1 hi).1
          have hg : l.getD i (0, 0) = x := by rw [List.getD_eq_getElem?_getD, hi]; rfl
          have q1 := setOk_lo hs i hil
          have q2 := setOk_hi hs i (l.length - 1 - i) (by omega)
          rw [show i + (l.length - 1 - i) = l.length - 1 by omega] at q2
          rw [hg] at q1 q2
          simp only [inB, Bool.and_eq_true, Bool.not_eq_true', decide_eq_false_iff_not]
          exact ⟨by omega, by omega⟩
      rw [key]
      cases hb : decide ((l.getD 0 (0, 0)).1 ≥ 1) with
      | false => rfl
      | true =>
        rw [cond_true, chk_dec (by omega), chk_dec (by omega)]
        rfl

def seqB (l : List ItemT) (i : Nat) : Bool := itemOk (l.getD i item0) && !((l.getD i item0).1 != ((i + 1 : Nat) : Int))
def agOk (a : AgentT) : Bool := inR a.1 0 2 && (inR a.2.1 0 1000 && (inR a.2.2.2.1 0 60 && (!decide ((a.2.2.2.2.1.length : Int) > 60) && (inR a.2.2.2.2.2.2 0 60 && (belowB a.2.2.2.2.2.1 a.2.2.2.2.1.length && ((a.2.2.1 || !decide (a.2.2.2.1 > 0)) && (List.range a.2.2.2.2.1.length).all (seqB a.2.2.2.2.1)))))))

theorem specAgentOk_eq {a : AgentT} (h : agLe small a) : spec_AgentOk a.1 a.2.1 a.2.2.1 a.2.2.2.1 a.2.2.2.2.1 a.2.2.2.2.2.1 a.2.2.2.2.2.2 = some (agOk a) := by
  obtain ⟨⟨h1, h2⟩, h3⟩ := h
  have hl : a.2.2.2.2.1.length ≤ 1048576 := h1
  have h7 : spec_AgentOk_l7 a.1 a.2.1 a.2.2.1 a.2.2.2.1 a.2.2.2.2.1 a.2.2.2.2.2.1 a.2.2.2.2.2.2 = some ((List.range a.2.2.2.2.1.length).all (seqB a.2.2.2.2.1)) := by
    unfold spec_AgentOk_l7
    have : spec_AgentOk_l58 a.1 a.2.1 a.2.2.1 a.2.2.2.1 a.2.2.2.2.1 a.2.2.2.2.2.1 a.2.2.2.2.2.2 0 = some (if (List.range a.2.2.2.2.1.length).all (seqB a.2.2.2.2.1) then .inr () else .inl false) := by
      refine walk_run (S := fun d => spec_AgentOk_s58 d.1.1 d.1.2.1 d.1.2.2.1 d.1.2.2.2.1 d.1.2.2.2.2.1 d.1.2.2.2.2.2.1 d.1.2.2.2.2.2.2 d.2) (fun i => (a, (i : Int))) hl (seqB a.2.2.2.2.1) (fun i hi => ?_) ?_
      · have hm := h2 _ (getD_mem (d := item0) hi)
        simp only [spec_AgentOk_s58, Int.toNat_natCast, wrap_nat (show i ≤ 1048576 by omega), Option.bind_some]
        rw [decide_eq_true (by omega : (i : Int) < a.2.2.2.2.1.length), cond_true, chk_dec (by omega), chk_dec hi, specItemOk_eq hm, Option.bind_some, chk_dec (by omega), chk_dec hi]
        unfold seqB
        cases itemOk (a.2.2.2.2.1.getD i item0) <;> cases ((a.2.2.2.2.1.getD i item0).1 != ((i + 1 : Nat) : Int)) <;> rfl
      · simp only [spec_AgentOk_s58, Option.bind_some]
        rw [decide_eq_false (by omega), cond_false]
    rw [this, Option.bind_some]
    cases (List.range a.2.2.2.2.1.length).all (seqB a.2.2.2.2.1) <;> rfl
  unfold spec_AgentOk spec_l6Agent agOk
  simp only [l1In_eq, Option.bind_some, l8Below_eq (show a.2.2.2.2.2.1.length ≤ 1048576 from h3), h7]
  cases inR a.1 0 2 <;> cases inR a.2.1 0 1000 <;> cases inR a.2.2.2.1 0 60 <;> cases decide ((a.2.2.2.2.1.length : Int) > 60) <;> cases inR a.2.2.2.2.2.2 0 60 <;> cases belowB a.2.2.2.2.2.1 (a.2.2.2.2.1.length : Int) <;> cases a.2.2.1 <;> cases decide (a.2.2.2.1 > 0) <;> rfl

theorem implAgentOk_eq {a : AgentT} (h : agLe small a) : impl_AgentOk a.1 a.2.1 a.2.2.1 a.2.2.2.1 a.2.2.2.2.1 a.2.2.2.2.2.1 a.2.2.2.2.2.2 = some (agOk a) := by
  obtain ⟨⟨h1, h2⟩, h3⟩ := h
  have hl : a.2.2.2.2.1.length ≤ 1048576 := h1
  have h7 : impl_AgentOk_l58 a.1 a.2.1 a.2.2.1 a.2.2.2.1 a.2.2.2.2.1 a.2.2.2.2.2.1 a.2.2.2.2.2.2 a.2.2.2.2.1 a.2.2.2.2.1.length 0 = some (if (List.range a.2.2.2.2.1.length).all (seqB a.2.2.2.2.1) then .inr a else .inl false) := by
    refine walk_run (S := fun d => impl_AgentOk_s58 d.1.1 d.1.2.1 d.1.2.2.1 d.1.2.2.2.1 d.1.2.2.2.2.1 d.1.2.2.2.2.2.1 d.1.2.2.2.2.2.2 d.2.1 d.2.2.1 d.2.2.2) (fun i => (a, a.2.2.2.2.1, (a.2.2.2.2.1.length : Int), (i : Int))) hl (seqB a.2.2.2.2.1) (fun i hi => ?_) ?_
    · have hm := h2 _ (getD_mem (d := item0) hi)
      simp only [impl_AgentOk_s58, Int.toNat_natCast, wrap_nat (show i ≤ 1048576 by omega), Option.bind_some]
      rw [decide_eq_true (by omega : (i : Int) < a.2.2.2.2.1.length), cond_true, chk_dec (by omega), chk_dec hi, implItemOk_eq hm, Option.bind_some]
      unfold seqB
      cases itemOk (a.2.2.2.2.1.getD i item0) <;> cases ((a.2.2.2.2.1.getD i item0).1 != ((i + 1 : Nat) : Int)) <;> rfl
    · simp only [impl_AgentOk_s58, Option.bind_some]
      rw [decide_eq_false (by omega), cond_false]
  unfold impl_AgentOk agOk
  simp only [within_eq, Option.bind_some, h7]
  cases h60 : inR a.2.2.2.1 0 60 with
  | false => cases inR a.1 0 2 <;> cases inR a.2.1 0 1000 <;> rfl
  | true =>
    have hg := inR_iff.mp h60
    have e : (!decide (a.2.2.2.1 > 0)) = (a.2.2.2.1 == 0) := by
      by_cases hz : a.2.2.2.1 = 0
      · rw [hz]; rfl
      · rw [decide_eq_true (by omega), beq_eq_false_iff_ne.2 hz]; rfl
    rw [e]
    have hA : ∀ m, impl_allIn a.2.2.2.2.2.1 1 m = some (belowB a.2.2.2.2.2.1 m) := fun m => allIn_eq h3
    cases (List.range a.2.2.2.2.1.length).all (seqB a.2.2.2.2.1) with
    | false =>
      simp only [Bool.and_false, Bool.false_eq_true, if_false, Sum.elim_inl]
      cases inR a.1 0 2 <;> cases inR a.2.1 0 1000 <;> cases decide ((a.2.2.2.2.1.length : Int) > 60) <;> cases inR a.2.2.2.2.2.2 0 60 <;> rfl
    | true =>
      simp only [Bool.and_true, if_true, Sum.elim_inr, Option.bind_some, hA]
      cases inR a.1 0 2 <;> cases inR a.2.1 0 1000 <;> cases decide ((a.2.2.2.2.1.length : Int) > 60) <;> cases inR a.2.2.2.2.2.2 0 60 <;> cases belowB a.2.2.2.2.2.1 (a.2.2.2.2.1.length : Int) <;> cases a.2.2.1 <;> rfl

/-! ### texts -/
theorem lit_two (a b : UInt8) : Array.toList (ByteArray.data { data := #[a, b] }) = [a, b] := rfl
def agT (a : AgentT) : List UInt8 := if agOk a then [97] ++ dg a.1 ++ [32, 101] ++ dg a.2.1 ++ [32, 103] ++ dg a.2.2.2.1 ++ [32] ++ dg a.2.2.2.2.1.length ++ [58] ++ setT a.2.2.2.2.2.1 else [63]

theorem agOk_facts {a : AgentT} (h : agOk a = true) : (0 ≤ a.1 ∧ a.1 ≤ 2) ∧ (0 ≤ a.2.1 ∧ a.2.1 ≤ 1000) ∧ (0 ≤ a.2.2.2.1 ∧ a.2.2.2.1 ≤ 60) ∧ a.2.2.2.2.1.length ≤ 60 ∧ setOk a.2.2.2.2.2.1 = true := by
  simp only [agOk, belowB, Bool.and_eq_true, inR_iff, Bool.not_eq_true', decide_eq_false_iff_not] at h
  exact ⟨h.1, h.2.1, h.2.2.1, by have := h.2.2.2.1; omega, h.2.2.2.2.2.1.1⟩

theorem specAgentText_eq {a : AgentT} (h : agLe small a) : spec_AgentText a.1 a.2.1 a.2.2.1 a.2.2.2.1 a.2.2.2.2.1 a.2.2.2.2.2.1 a.2.2.2.2.2.2 = some (agT a) := by
  unfold spec_AgentText
  rw [specAgentOk_eq h, Option.bind_some]
  unfold agT
  cases hq : agOk a with
  | false => rfl
  | true =>
    obtain ⟨f1, f2, f3, f4, f5⟩ := agOk_facts hq
    obtain ⟨a1, _, a3⟩ := dg9 f1.1 (by omega)
    obtain ⟨b1, _, b3⟩ := dg9 f2.1 (by omega)
    obtain ⟨c1, _, c3⟩ := dg9 f3.1 (by omega)
    obtain ⟨d1, _, d3⟩ := dg9 (show (0 : Int) ≤ (a.2.2.2.2.1.length : Int) by omega) (by omega)
    have e3 := setT_le (setOk_mem f5)
    have hl : a.2.2.2.2.2.1.length ≤ 1048576 := h.2
    simp only [Bool.not_true, cond_false, if_true, a1, b1, c1, d1, specSetText_eq hl (setOk_mem f5), Option.bind_some, lit_one, lit_two]
    iterate 9 rw [chk_dec (by first | omega | (simp only [List.length_append, List.length_cons, List.length_nil]; omega))]

theorem implAgentText_eq {a : AgentT} (h : agLe small a) : impl_AgentText a.1 a.2.1 a.2.2.1 a.2.2.2.1 a.2.2.2.2.1 a.2.2.2.2.2.1 a.2.2.2.2.2.2 = some (agT a) := by
  unfold impl_AgentText
  rw [implAgentOk_eq h, Option.bind_some]
  unfold agT
  cases hq : agOk a with
  | false => rfl
  | true =>
    obtain ⟨f1, f2, f3, f4, f5⟩ := agOk_facts hq
    obtain ⟨_, a1, a3⟩ := dg9 f1.1 (by omega)
    obtain ⟨_, b1, b3⟩ := dg9 f2.1 (by omega)
    obtain ⟨_, c1, c3⟩ := dg9 f3.1 (by omega)
    obtain ⟨_, d1, d3⟩ := dg9 (show (0 : Int) ≤ (a.2.2.2.2.1.length : Int) by omega) (by omega)
    have e3 := setT_le (setOk_mem f5)
    have hl : a.2.2.2.2.2.1.length ≤ 1048576 := h.2
    simp only [Bool.not_true, cond_false, if_true, a1, b1, c1, d1, implSetText_eq hl (setOk_mem f5), Option.bind_some, lit_one, lit_two]
    iterate 9 rw [chk_dec (by first | omega | (simp only [List.length_append, List.length_cons, List.length_nil]; omega))]

theorem agentText_true {a : AgentT} (h : agLe big a) : laws_FnExactAgentText a.1 a.2.1 a.2.2.1 a.2.2.2.1 a.2.2.2.2.1 a.2.2.2.2.2.1 a.2.2.2.2.2.2 = some true := by
  unfold laws_FnExactAgentText
  obtain ⟨r, e1, e2⟩ := szAgent_is a 1048576 h (by omega) (by omega)
  dsimp only at e1
  rw [e1, Option.bind_some]
  rcases e2 with rfl | ⟨e2, e3, l1⟩
  · rfl
  rw [decide_eq_false (by omega), cond_false]
  simp only [toAgent_eq l1, Option.bind_some, specAgentText_eq l1, implAgentText_eq l1, eqAgent_self l1, beq_self_eq_true, decide_true, Bool.not_true, cond_false]

theorem agLe_of_wf {a : AgentT} (h : Wf kAgent a) : agLe big a := ⟨⟨h.2.2.2.2.1.1, fun x hx => skLe_of_wf (h.2.2.2.2.1.2 x hx).2.2.2.2⟩, h.2.2.2.2.2.1.1⟩

end Go.Proofs.YtcdkpfcfcjnooaaDoor.Tw
