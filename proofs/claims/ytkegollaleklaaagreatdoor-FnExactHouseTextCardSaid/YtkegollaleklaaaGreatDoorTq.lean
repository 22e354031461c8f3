/- Plain: texts of sets, sketches, entries, houses; FnExactHouseText. No condition: lemmas. -/
import Derived.Test.YtkegollaleklaaaGreatDoorHw
import Derived.Test.YtkegollaleklaaaGreatDoorDh
namespace Go.Proofs.YtkegollaleklaaaGreatDoor.Tw
open Go.Mach
set_option linter.unusedVariables false
set_option linter.unusedSimpArgs false
set_option maxRecDepth 20000
theorem chkL {R : Type} {n : Nat} (h : n ≤ 1099511627776) (k : Option R) : chk (decide (n ≤ 1099511627776)) k = k := chkD h k
def spanT (x : SpT) : List UInt8 := if x.2 ≠ x.1 then dg x.1 ++ ([45] ++ dg x.2) else dg x.1
def setT (l : List SpT) : List UInt8 := jn (l.map spanT) [44]
def small4 (x : Int) : Prop := 0 ≤ x ∧ x ≤ 9999
theorem setOk_small {l : List SpT} (h : setOk l = true) : ∀ x ∈ l, small4 x.1 ∧ small4 x.2 := by
  intro x hx
  obtain ⟨h1, h2⟩ := setOk_iff.1 h
  have g1 := h1.mem x hx
  have g2 := h2 x hx
  exact ⟨⟨g2.1, by omega⟩, by omega, g2.2⟩
theorem dg4 {x : Int} (h : small4 x) : spec_Digits x = some (dg x) ∧ impl_Digits x = some (dg x) ∧ (dg x).length ≤ 21 :=
  ⟨specDigits_eq h.1 (by have := h.2; omega), implDigits_eq h.1 (by have := h.2; omega), dg_le h.1 (by have := h.2; omega)⟩
theorem dg9 {x : Int} (h0 : 0 ≤ x) (h1 : x ≤ 1000000000) : spec_Digits x = some (dg x) ∧ impl_Digits x = some (dg x) ∧ (dg x).length ≤ 21 :=
  ⟨specDigits_eq h0 (by omega), implDigits_eq h0 (by omega), dg_le h0 (by omega)⟩
theorem spanT_le {x : SpT} (h : small4 x.1 ∧ small4 x.2) : (spanT x).length ≤ 43 := by
  have h1 := (dg4 h.1).2.2
  have h2 := (dg4 h.2).2.2
  unfold spanT
  split
  · simp only [List.length_append, List.length_cons, List.length_nil]; omega
  · omega
theorem setT_le {l : List SpT} (h : ∀ x ∈ l, small4 x.1 ∧ small4 x.2) : (setT l).length ≤ 44 * l.length := by
  have := jn_length [44] 43 (l.map spanT) (fun x hx => by
    obtain ⟨y, hy, rfl⟩ := List.mem_map.1 hx
    exact spanT_le (h y hy))
  simpa [setT] using this
theorem specSpan_node {l : List SpT} {i : Nat} {out : List UInt8} (hi : i < l.length) (ho : out.length ≤ 100000000) (h : small4 (l.getD i (0, 0)).1 ∧ small4 (l.getD i (0, 0)).2) :
    spec_SetText_l1865 (l, out, (i : Int)) = some (l, out ++ spanT (l.getD i (0, 0)), (i : Int)) := by
  obtain ⟨a1, a2, a3⟩ := dg4 h.1
  obtain ⟨b1, b2, b3⟩ := dg4 h.2
  unfold spanT
  simp only [spec_SetText_l1865, ixn hi, gxn, Option.bind_some, a1, b1, lit_one, bne_cond]
  rw [chkL (by omega)]
  by_cases hq : (l.getD i (0, 0)).2 = (l.getD i (0, 0)).1
  · rw [if_pos hq, if_neg (by simpa using hq)]
  · rw [if_neg hq, if_pos hq, chkL (by simp only [List.length_append]; omega), chkL (by simp only [List.length_append, List.length_cons, List.length_nil]; omega)]
    simp only [List.append_assoc]
theorem specSetText_eq {l : List SpT} (hl : l.length ≤ 1048576) (h : ∀ x ∈ l, small4 x.1 ∧ small4 x.2) : spec_SetText l = some (setT l) := by
  have q := lp_det (S := spec_SetText_s58) (fun i => (l, setT (l.take i), (i : Int))) hl (b := setT l) (fun i hi => by
    have hle := setT_le (l := l.take i) (fun x hx => h x (List.mem_of_mem_take hx))
    have htl : (l.take i).length ≤ 1048576 := by rw [List.length_take]; omega
    have hm := h _ (getD_mem (d := (0, 0)) hi)
    simp only [spec_SetText_s58, lnn, ltn hi, cond_true, lit_one]
    by_cases h0 : i = 0
    · subst h0
      have hn := specSpan_node (out := setT (l.take 0)) hi (by omega) hm
      rw [dF (by omega), cond_false, hn, Option.bind_some, wsucc (by omega)]
      simp only [setT, map_snoc spanT l 0 (0, 0) hi, List.take_zero, List.map_nil, jn_one]
      rfl
    · have hn := specSpan_node (out := setT (l.take i) ++ [44]) hi (by simp only [List.length_append, List.length_cons, List.length_nil]; omega) hm
      rw [dT (by omega), cond_true, chkL (by omega), hn, Option.bind_some, wsucc (by omega)]
      simp only [setT, map_snoc spanT l i (0, 0) hi]
      rw [jn_snoc _ _ _ (by simpa using take_ne_nil l i (by omega) (by omega)), List.append_assoc]) (by simp only [spec_SetText_s58, lnn, ltF, cond_false, List.take_length])
  have e0 : setT (l.take 0) = [] := rfl
  rw [cast0, e0] at q
  simp only [spec_SetText, lit_nil, q, Option.bind_some]
theorem implSetText_eq {l : List SpT} (hl : l.length ≤ 1048576) (h : ∀ x ∈ l, small4 x.1 ∧ small4 x.2) : impl_SetText l = some (setT l) := by
  have q := lp_det (S := impl_SetText_s58) (fun i => ((l.take i).map spanT, l, (l.length : Int), (i : Int))) hl (b := l.map spanT) (fun i hi => by
    have hm := h _ (getD_mem (d := (0, 0)) hi)
    have htl : ((l.take i).map spanT).length ≤ 1048576 := by simp only [List.length_map, List.length_take]; omega
    rw [map_snoc spanT l i (0, 0) hi]
    simp only [impl_SetText_s58, ltn hi, cond_true, ixn hi, gxn, Option.bind_some, lit_one, wsucc (show i ≤ 1048576 by omega)]
    generalize l.getD i (0, 0) = x at hm ⊢
    obtain ⟨x1, x2⟩ := x
    obtain ⟨a1, a2, a3⟩ := dg4 hm.1
    obtain ⟨b1, b2, b3⟩ := dg4 hm.2
    simp only at a1 a2 a3 b1 b2 b3
    simp only [a2, b2, Option.bind_some, bne_cond, spanT]
    by_cases hq : x2 = x1
    · rw [if_pos hq, if_neg (by simpa using hq), fitsC (by simp only [List.length_cons, List.length_nil]; omega) (by omega)]
    · rw [if_neg hq, if_pos hq, chkL (by omega), chkL (by simp only [List.length_append, List.length_cons, List.length_nil]; omega), fitsC (by simp only [List.length_cons, List.length_nil]; omega) (by omega)]) (by simp only [impl_SetText_s58, ltF, cond_false, List.take_length])
  rw [cast0, List.take_zero, List.map_nil] at q
  simp only [impl_SetText, lnn, q, Option.bind_some, lit_one]
  rw [join_some 43 (fun x hx => by
    obtain ⟨y, hy, rfl⟩ := List.mem_map.1 hx
    exact spanT_le (h y hy)) (by simpa using hl) (by simp)]
  rfl
def skT (s : SkT) : List UInt8 := if skOk s then dg s.1 ++ [32] ++ dg s.2.1 ++ [32] ++ dg s.2.2.1 ++ [32] ++ dg s.2.2.2.1 else [63]
theorem skTexts {s : SkT} (h : SkOk s) : spec_SketchText s = some (skT s) ∧ impl_SketchText s = some (skT s) ∧ (skT s).length ≤ 100 := by
  have hq := skOk_iff.2 h
  have o1 := specSketchOk_eq (h.toLe.mono (by omega : 8 ≤ 1048576))
  have o2 := implSketchOk_eq (h.toLe.mono (by omega : 8 ≤ 1048576))
  rw [hq] at o1 o2
  have hk := h
  obtain ⟨a1, a2, a3⟩ := dg9 hk.cnt.1 hk.cnt.2
  obtain ⟨b1, b2, b3⟩ := dg9 hk.sum.1 hk.sum.2
  obtain ⟨c1, c2, c3⟩ := dg9 hk.min.1 (by have := hk.min.2; omega)
  obtain ⟨d1, d2, d3⟩ := dg9 hk.max.1 (by have := hk.max.2; omega)
  unfold skT
  rw [hq]
  obtain ⟨s1, s2, s3, s4, s5, s6, s7⟩ := s
  simp only at a1 a2 a3 b1 b2 b3 c1 c2 c3 d1 d2 d3
  refine ⟨?_, ?_, by simp only [if_true, List.length_append, List.length_cons, List.length_nil]; omega⟩
  · simp only [spec_SketchText, o1, Option.bind_some, Bool.not_true, cond_false, if_true, a1, b1, c1, d1, lit_one]
    repeat rw [chkL (by first | omega | (simp only [List.length_append, List.length_cons, List.length_nil]; omega))]
  · simp only [impl_SketchText, o2, Option.bind_some, Bool.not_true, cond_false, if_true, a2, b2, c2, d2, lit_one]
    repeat rw [chkL (by first | omega | (simp only [List.length_append, List.length_cons, List.length_nil]; omega))]
def enT (e : EnT) : List UInt8 := dg e.1 ++ [47] ++ dg e.2.1 ++ [32] ++ setT e.2.2.1 ++ [32] ++ skT e.2.2.2
theorem enTexts {e : EnT} (h : EnOk e) : spec_EntryText e = some (enT e) ∧ impl_EntryText e = some (enT e) ∧ (enT e).length ≤ 221000 := by
  have o1 := specEntryOk_eq (h.toLe.mono (by omega : 5001 ≤ 1048576))
  have o2 := implEntryOk_eq (h.toLe.mono (by omega : 5001 ≤ 1048576))
  rw [enOk_iff.2 h] at o1 o2
  obtain ⟨a1, a2, a3⟩ := dg9 h.key.1 (by have := h.key.2; omega)
  obtain ⟨b1, b2, b3⟩ := dg9 h.win.1 (by have := h.win.2; omega)
  have hsm := setOk_small (setOk_iff.2 ⟨h.ids, h.bnd⟩)
  have hl := h.len
  have c1 := specSetText_eq (by omega) hsm
  have c2 := implSetText_eq (by omega) hsm
  have c3 := setT_le hsm
  obtain ⟨d1, d2, d3⟩ := skTexts h.sk
  unfold enT
  obtain ⟨e1, e2, e3, e4, e5, e6, e7, e8, e9, e10⟩ := e
  simp only at a1 a2 a3 b1 b2 b3 c1 c2 c3 d1 d2 d3 hl
  refine ⟨?_, ?_, by simp only [List.length_append, List.length_cons, List.length_nil]; omega⟩
  · simp only [spec_EntryText, o1, Option.bind_some, Bool.not_true, cond_false, a1, b1, c1, d1, lit_one]
    repeat rw [chkL (by first | omega | (simp only [List.length_append, List.length_cons, List.length_nil]; omega))]
  · simp only [impl_EntryText, o2, Option.bind_some, Bool.not_true, cond_false, a2, b2, c2, d2, lit_one]
    repeat rw [chkL (by first | omega | (simp only [List.length_append, List.length_cons, List.length_nil]; omega))]
def seT (s : SeT) : List UInt8 := [32] ++ dg s.1 ++ [46] ++ dg s.2.1 ++ [46] ++ dg s.2.2.2.1 ++ [58] ++ setT s.2.2.1
structure SeTxt (s : SeT) : Prop where
  a : 0 ≤ s.1 ∧ s.1 ≤ 1000000000
  b : 0 ≤ s.2.1 ∧ s.2.1 ≤ 1000000000
  d : 0 ≤ s.2.2.2.1 ∧ s.2.2.2.1 ≤ 1000000000
  c : ∀ x ∈ s.2.2.1, small4 x.1 ∧ small4 x.2
  l : s.2.2.1.length ≤ 10000
theorem seT_le {s : SeT} (h : SeTxt s) : (seT s).length ≤ 441000 := by
  have h1 := (dg9 h.a.1 h.a.2).2.2
  have h2 := (dg9 h.b.1 h.b.2).2.2
  have h3 := (dg9 h.d.1 h.d.2).2.2
  have h4 := setT_le h.c
  have h5 := h.l
  simp only [seT, List.length_append, List.length_cons, List.length_nil]
  omega
theorem flatMap_le {α β : Type} (f : α → List β) (B : Nat) : ∀ (l : List α), (∀ x ∈ l, (f x).length ≤ B) → (l.flatMap f).length ≤ B * l.length
  | [], _ => by simp
  | x :: l, h => by
      have h1 := flatMap_le f B l (fun y hy => h y (List.mem_cons_of_mem _ hy))
      have h2 := h x (List.mem_cons_self)
      simp only [List.flatMap_cons, List.length_append, List.length_cons]
      rw [Nat.mul_add]
      omega
section
variable {a b c e f g h i n : Int} {d : List Int} {j : Bool} {k : List SeT} {l : List (List (List EnT))} {m : List TuT} {o : List EnT} {p : List OuT}
def seatsT (k : List SeT) (q : Nat) : List UInt8 := (k.take q).flatMap seT
def rootT (o : List EnT) (q : Nat) : List UInt8 := (o.take q).flatMap fun e => enT e ++ [10]
theorem seatsT_le (hk : ∀ s ∈ k, SeTxt s) (q : Nat) (hq : q ≤ 3) : (seatsT k q).length ≤ 1323000 := by
  have : (seatsT k q).length ≤ 441000 * (k.take q).length := flatMap_le seT 441000 _ fun s hs => seT_le (hk s (List.mem_of_mem_take hs))
  have h2 : (k.take q).length ≤ q := by rw [List.length_take]; omega
  omega
theorem rootT_le (ho : EnsOk o) (hl : o.length ≤ 1048576) (q : Nat) : (rootT o q).length ≤ 231737000000 := by
  have : (rootT o q).length ≤ 221001 * (o.take q).length := flatMap_le _ 221001 _ fun s hs => by
    have := (enTexts (ho s (List.mem_of_mem_take hs))).2.2
    simp only [List.length_append, List.length_cons, List.length_nil]
    omega
  have h2 : (o.take q).length ≤ 1048576 := by rw [List.length_take]; omega
  omega
theorem flatMap_snoc {α β : Type} (f : α → List β) {l : List α} {i : Nat} (d : α) (h : i < l.length) : (l.take (i + 1)).flatMap f = (l.take i).flatMap f ++ f (l.getD i d) := by
  rw [take_snoc d h, List.flatMap_append]
  simp
theorem rootTexts (ho : EnsOk o) (hl : o.length ≤ 1048576) (t : List UInt8) (ht : t.length ≤ 2000000) :
    spec_HouseText_l63 ((a, b, c, d, e, f, g, h, i, j, k, l, m, n, o, p), t) = some (t ++ [10] ++ rootT o o.length) ∧ impl_HouseText_l63 ((a, b, c, d, e, f, g, h, i, j, k, l, m, n, o, p), t) = some (t ++ [10] ++ rootT o o.length) := by
  have q1 := lp_det (S := spec_HouseText_s1018) (fun q => ((a, b, c, d, e, f, g, h, i, j, k, l, m, n, o, p), t ++ [10] ++ rootT o q, (q : Int))) hl (b := t ++ [10] ++ rootT o o.length) (fun q hq => by
    have hr := rootT_le ho hl q
    have he := enTexts (ho _ (getD_mem (d := en0) hq))
    simp only [spec_HouseText_s1018, lnn, ltn hq, Option.bind_some, cond_true, ixn hq, gxn, wsucc (show q ≤ 1048576 by omega), lit_one]
    rw [show rootT o (q + 1) = rootT o q ++ (enT (o.getD q en0) ++ [10]) from flatMap_snoc _ en0 hq]
    generalize hx : o.getD q (0, 0, [], 0, 0, 0, 0, [], [], []) = x
    have hx' : o.getD q en0 = x := hx
    rw [hx'] at he
    obtain ⟨x1, x2, x3, x4, x5, x6, x7, x8, x9, x10⟩ := x
    obtain ⟨e1, e2, e3⟩ := he
    simp only [e1, Option.bind_some]
    rw [chkL (by simp only [List.length_append, List.length_cons, List.length_nil]; omega), chkL (by simp only [List.length_append, List.length_cons, List.length_nil]; omega)]
    simp only [List.append_assoc]) (by simp only [spec_HouseText_s1018, lnn, ltF, Option.bind_some, cond_false])
  have q2 := lp_det (S := impl_HouseText_s1018) (fun q => (t ++ [10] ++ rootT o q, o, (o.length : Int), (q : Int))) hl (b := t ++ [10] ++ rootT o o.length) (fun q hq => by
    have hr := rootT_le ho hl q
    have he := enTexts (ho _ (getD_mem (d := en0) hq))
    simp only [impl_HouseText_s1018, ltn hq, Option.bind_some, cond_true, ixn hq, gxn, wsucc (show q ≤ 1048576 by omega), lit_one]
    rw [show rootT o (q + 1) = rootT o q ++ (enT (o.getD q en0) ++ [10]) from flatMap_snoc _ en0 hq]
    generalize hx : o.getD q (0, 0, [], 0, 0, 0, 0, [], [], []) = x
    have hx' : o.getD q en0 = x := hx
    rw [hx'] at he
    obtain ⟨x1, x2, x3, x4, x5, x6, x7, x8, x9, x10⟩ := x
    obtain ⟨e1, e2, e3⟩ := he
    simp only [e2, Option.bind_some]
    rw [chkL (by omega), chkL (by simp only [List.length_append, List.length_cons, List.length_nil]; omega)]
    simp only [List.append_assoc]) (by simp only [impl_HouseText_s1018, ltF, Option.bind_some, cond_false])
  have e0 : rootT o 0 = [] := rfl
  rw [cast0, e0, List.append_nil] at q1 q2
  constructor
  · simp only [spec_HouseText_l63, lit_one]
    rw [chkL (by omega), q1]
    rfl
  · simp only [impl_HouseText_l63, lit_one, lnn]
    rw [chkL (by omega), q2]
    rfl
theorem house_facts (hh : houseOk (a, b, c, d, e, f, g, h, i, j, k, l, m, n, o, p) = true) : k.length = 3 ∧ (0 ≤ i ∧ i ≤ 100000) ∧ (∀ s ∈ k, SeTxt s) ∧ EnsOk o := by
  have hadd := (house_added' hh)
  unfold houseOk at hh
  simp only [Bool.and_eq_true] at hh
  have hp := hh.2.1
  unfold partsM at hp
  simp only [Bool.and_eq_true, decide_eq_true_eq, List.all_eq_true, List.mem_range] at hp
  obtain ⟨h1, h2, h3, h4, h5, h6, h7⟩ := hp
  refine ⟨h1, inR_iff.1 h5, fun s hs => ?_, fun x hx => hadd x (List.mem_append_left _ hx)⟩
  obtain ⟨q, hq⟩ := List.getElem?_of_mem hs
  have hql := (List.getElem?_eq_some_iff.1 hq).1
  have hsq := h6 q (by omega)
  have hg : k.getD q se0 = s := by simp [List.getD_eq_getElem?_getD, hq]
  have hso : seatOk s a = true := by
    unfold seatIn at hsq
    simp only [Bool.and_eq_true] at hsq
    rw [hg] at hsq
    exact hsq.1
  unfold seatOk at hso
  simp only [Bool.and_eq_true, inR_iff] at hso
  obtain ⟨_, s1, s2, s3, s4, _, _⟩ := hso
  have hset : setOk s.2.2.1 = true := by
    cases hq : setOk s.2.2.1 with
    | true => rfl
    | false =>
      exfalso
      unfold below at s3
      rw [hq] at s3
      simp at s3
  have hsm := setOk_small hset
  have hsl := set_len hset
  have hsz : sizeM s.2.2.1 ≤ 100000000 := by
    unfold sizeM
    rw [hset, cond_true]
    exact lens_bound hset
  exact ⟨by omega, by omega, by omega, hsm, by omega⟩
where
  house_added' (hh : houseOk (a, b, c, d, e, f, g, h, i, j, k, l, m, n, o, p) = true) : EnsOk (o ++ p.map (·.2)) := by
    unfold houseOk at hh
    simp only [Bool.and_eq_true] at hh
    have ha := hh.2.2.2.2.1
    have h1 := (apart_iff.1 ha).1
    unfold allM at h1
    exact fun x hx => h1 x (List.mem_append_right _ hx)
  lens_bound {s : List SpT} (hs : setOk s = true) : lens s ≤ 100000000 := by
    have hl := set_len hs
    obtain ⟨h1, h2⟩ := setOk_iff.1 hs
    have key : ∀ l : List SpT, (∀ x ∈ l, 0 ≤ x.1 ∧ x.2 ≤ 9999) → lens l ≤ 10000 * (l.length : Int) := by
      intro l
      induction l with
      | nil => intro _; simp [lens]
      | cons x r ih =>
        intro hx
        have g1 := ih fun y hy => hx y (List.mem_cons_of_mem _ hy)
        have g2 := hx x List.mem_cons_self
        have e : lens (x :: r) = (x.2 - x.1 + 1) + lens r := rfl
        rw [e, List.length_cons]
        omega
    have := key s h2
    omega
theorem houseTexts (z : HsSz d k l m o p) : ∃ t, spec_HouseText (a, b, c, d, e, f, g, h, i, j, k, l, m, n, o, p) = some t ∧ impl_HouseText (a, b, c, d, e, f, g, h, i, j, k, l, m, n, o, p) = some t := by
  simp only [spec_HouseText, impl_HouseText, specHouseOk_eq z, implHouseOk_eq z, Option.bind_some, lit_nil]
  cases hh : houseOk (a, b, c, d, e, f, g, h, i, j, k, l, m, n, o, p) with
  | false => exact ⟨[], rfl, rfl⟩
  | true =>
    obtain ⟨hk3, hi, hse, ho⟩ := house_facts hh
    obtain ⟨i1, i2, i3⟩ := dg9 hi.1 (by omega)
    have hol : o.length ≤ 1048576 := by have := z.added; omega
    have s1 := lp_det (S := spec_HouseText_s122) (fun q => ((a, b, c, d, e, f, g, h, i, j, k, l, m, n, o, p), [116] ++ dg i ++ seatsT k q, (q : Int))) (n := 3) (by omega) (b := ((a, b, c, d, e, f, g, h, i, j, k, l, m, n, o, p), [116] ++ dg i ++ seatsT k 3)) (fun q hq => by
      have hqk : q < k.length := by omega
      have hs := hse _ (getD_mem (d := se0) hqk)
      have hle := seatsT_le hse q (by omega)
      have c1 := specSetText_eq (l := (k.getD q se0).2.2.1) (by have := hs.l; omega) hs.c
      have c3 := setT_le hs.c
      have hl := hs.l
      obtain ⟨a1, _, a3⟩ := dg9 hs.a.1 hs.a.2
      obtain ⟨b1, _, b3⟩ := dg9 hs.b.1 hs.b.2
      obtain ⟨d1, _, d3⟩ := dg9 hs.d.1 hs.d.2
      rw [show seatsT k (q + 1) = seatsT k q ++ seT (k.getD q se0) from flatMap_snoc _ se0 hqk]
      simp only [spec_HouseText_s122, dT (show (q : Int) < 3 by omega), cond_true, ixn hqk, gxn, Option.bind_some, wsucc (show q ≤ 1048576 by omega), lit_one]
      generalize hx : k.getD q (0, 0, [], 0, 0) = x
      have hx' : k.getD q se0 = x := hx
      rw [hx'] at c1 c3 hl a1 a3 b1 b3 d1 d3
      obtain ⟨x1, x2, x3, x4, x5⟩ := x
      simp only at c1 c3 hl a1 a3 b1 b3 d1 d3
      simp only [a1, b1, c1, d1, Option.bind_some, seT]
      repeat rw [chkL (by first | omega | (simp only [List.length_append, List.length_cons, List.length_nil]; omega))]
      simp only [List.append_assoc]) (by simp only [spec_HouseText_s122, dF (show ¬ (((3 : Nat) : Int) < 3) by omega), cond_false])
    have s2 := lp_det (S := impl_HouseText_s122) (fun q => ((a, b, c, d, e, f, g, h, i, j, k, l, m, n, o, p), [116] ++ dg i ++ seatsT k q, k, (k.length : Int), (q : Int))) (n := k.length) (by omega) (b := ((a, b, c, d, e, f, g, h, i, j, k, l, m, n, o, p), [116] ++ dg i ++ seatsT k 3)) (fun q hqk => by
      have hs := hse _ (getD_mem (d := se0) hqk)
      have hle := seatsT_le hse q (by omega)
      have c1 := implSetText_eq (l := (k.getD q se0).2.2.1) (by have := hs.l; omega) hs.c
      have c3 := setT_le hs.c
      have hl := hs.l
      obtain ⟨_, a1, a3⟩ := dg9 hs.a.1 hs.a.2
      obtain ⟨_, b1, b3⟩ := dg9 hs.b.1 hs.b.2
      obtain ⟨_, d1, d3⟩ := dg9 hs.d.1 hs.d.2
      rw [show seatsT k (q + 1) = seatsT k q ++ seT (k.getD q se0) from flatMap_snoc _ se0 hqk]
      simp only [impl_HouseText_s122, ltn hqk, cond_true, ixn hqk, gxn, Option.bind_some, wsucc (show q ≤ 1048576 by omega), lit_one]
      generalize hx : k.getD q (0, 0, [], 0, 0) = x
      have hx' : k.getD q se0 = x := hx
      rw [hx'] at c1 c3 hl a1 a3 b1 b3 d1 d3
      obtain ⟨x1, x2, x3, x4, x5⟩ := x
      simp only at c1 c3 hl a1 a3 b1 b3 d1 d3
      simp only [a1, b1, c1, d1, Option.bind_some, seT]
      repeat rw [chkL (by first | omega | (simp only [List.length_append, List.length_cons, List.length_nil]; omega))]
      simp only [List.append_assoc]) (by simp only [impl_HouseText_s122, ltF, cond_false, hk3])
    have e0 : seatsT k 0 = [] := rfl
    rw [cast0, e0, List.append_nil] at s1 s2
    have hle := seatsT_le hse 3 (by omega)
    have hlit : Array.toList (ByteArray.data { data := #[(32 : UInt8), (99 : UInt8), (108 : UInt8), (111 : UInt8), (115 : UInt8), (101 : UInt8), (100 : UInt8)] }) = [32, 99, 108, 111, 115, 101, 100] := rfl
    simp only [Bool.not_true, cond_false, i1, i2, Option.bind_some, lit_one, lnn]
    rw [chkL (by omega), chkL (by omega), s1, s2]
    simp only [Option.bind_some, hlit]
    cases j with
    | false =>
      obtain ⟨r1, r2⟩ := rootTexts (a := a) (b := b) (c := c) (d := d) (e := e) (f := f) (g := g) (h := h) (i := i) (j := false) (k := k) (l := l) (m := m) (n := n) (p := p) ho hol ([116] ++ dg i ++ seatsT k 3) (by simp only [List.length_append, List.length_cons, List.length_nil]; omega)
      simp only [cond_false, r1, r2, Option.bind_some]
      exact ⟨_, rfl, rfl⟩
    | true =>
      obtain ⟨r1, r2⟩ := rootTexts (a := a) (b := b) (c := c) (d := d) (e := e) (f := f) (g := g) (h := h) (i := i) (j := true) (k := k) (l := l) (m := m) (n := n) (p := p) ho hol ([116] ++ dg i ++ seatsT k 3 ++ [32, 99, 108, 111, 115, 101, 100]) (by simp only [List.length_append, List.length_cons, List.length_nil]; omega)
      simp only [cond_true]
      rw [chkL (by simp only [List.length_append, List.length_cons, List.length_nil]; omega), chkL (by simp only [List.length_append, List.length_cons, List.length_nil]; omega), r1, r2]
      exact ⟨_, rfl, rfl⟩
end
theorem law_houseText (x : HsT) (hx : HsLe 9223372036854775807 x) : laws_FnExactHouseText x = some true := by
  obtain ⟨y, e1, e2⟩ := szHouse_ok x 1048576 hx (by omega) (by omega)
  obtain ⟨a, b, c, d, e, f, g, h, i, j, k, l, m, n, o, p⟩ := x
  simp only [laws_FnExactHouseText, e1, Option.bind_some, bif_dec]
  rcases e2 with rfl | ⟨e2, e3⟩
  · simp
  · rw [if_neg (by omega)]
    have hn : nHs (a, b, c, d, e, f, g, h, i, j, k, l, m, n, o, p) ≤ 1048576 := by omega
    have hs := hsLe_of hn
    have hz := hsSz_of hn
    obtain ⟨t, t1, t2⟩ := houseTexts (a := a) (b := b) (c := c) (e := e) (f := f) (g := g) (h := h) (i := i) (n := n) (j := j) hz
    simp only [toHouse_ok hs, t1, t2, eqHouse_ok hs, Option.bind_some, beq_self_eq_true, cond_false, Bool.not_true]
end Go.Proofs.YtkegollaleklaaaGreatDoor.Tw
