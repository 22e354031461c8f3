/- The machine, part ni: what is handed to a function that only reads. No condition: definitions and lemmas. -/
import Derived.Test.YtcdkpfcfcjnooaaNh
namespace Go.Mach
set_option linter.unusedVariables false
set_option linter.unusedSimpArgs false

/-- What is proved of a function of the program. -/
def FnOk (P : Program) (f : Nat) (t : FEnt) : Prop :=
  t.args.length ≤ t.n ∧ ∃ fn, P.funcs[f]? = some fn ∧ fn.body.isNone = false ∧ (fn.name == "runtime.NumGoroutine") = false ∧ rvsB P fn.results.toList t.results = true ∧
  ∀ (d : AsT t.args) (b : t.out.T), t.T d = some b → (retOf t.n t.results t.md (encA t.args d) (t.out.enc b)).isSome = true → ∀ (us : List Value) (w : World) (G : Gh), us.length = t.args.length →
    Inv t.n (startE t.n t.md (encA t.args d)) (us.toArray ++ Array.replicate (t.n - us.length) undef) w G →
    Calls P f us.toArray w fun en w' => ∃ tm1 G1 u, en = .returned u ∧ (results fn tm1).run P w' = .ok u w' ∧ Inv t.n (t.out.enc b) tm1 w' G1 ∧ Held t.n (t.n + t.args.length) w w' G G1 ∧ w.heap.size ≤ w'.heap.size ∧
      (t.out.enc b).length = t.n + t.args.length ∧ SameEnv w w'

def BookOk (P : Program) : Book → Prop
  | [] => True
  | (f, t) :: r => FnOk P f t ∧ BookOk P r

/-! ### Cells that nobody writes -/
theorem snapIns_get : ∀ {cs cs' : List C}, snapIns cs = some cs' → cs'.length = cs.length ∧ ∀ (j : Nat) c c', cs[j]? = some c → cs'[j]? = some c' → snapIn c = some c'
  | [], cs', h => by
    simp only [snapIns, Option.some.injEq] at h
    subst h
    exact ⟨rfl, fun j c c' hc => by simp at hc⟩
  | c :: r, cs', h => by
    simp only [snapIns] at h
    split at h
    · rename_i c1 r1 h1 h2
      simp only [Option.some.injEq] at h
      subst h
      obtain ⟨g1, g2⟩ := snapIns_get h2
      refine ⟨by simp [g1], fun j a b ha hb => ?_⟩
      cases j with
      | zero =>
        simp only [List.getElem?_cons_zero, Option.some.injEq] at ha hb
        subst ha hb
        exact h1
      | succ j => exact g2 j a b (by simpa using ha) (by simpa using hb)
    · simp at h

section snap
variable {n : Nat} {e : Env} {tm : Array Value} {w : World} {G : Gh}

theorem snap_ok (h : Inv n e tm w G) {get : Nat → Slot} (hs : Sees get e) {c c' : C} {v : Value} {L : LT} (hc : CellOk0 e w G c v L) (hsn : snap get c = some c') (ow : Nat → Option Nat)
    (how : ∀ b, G.ow b = none → ow b = none) (hrt : ∀ b s, G.ow b = some s → s ∈ c.targets → ow b = none) :
    ∃ L', c'.isFn = false ∧ c'.isOwn = false ∧ ∀ e' G', G'.ow = ow → CellOk0 e' w G' c' v L' := by
  cases c with
  | dat k x =>
    simp only [snap, Option.some.injEq] at hsn
    subst hsn
    exact ⟨L, rfl, rfl, fun e' G' hG => ⟨hc.1, fun b hb => by rw [hG]; exact how b (hc.2 b hb)⟩⟩
  | nil =>
    simp only [snap, Option.some.injEq] at hsn
    subst hsn
    exact ⟨L, rfl, rfl, fun e' G' hG => hc⟩
  | pim cs j =>
    simp only [snap, Option.some.injEq] at hsn
    subst hsn
    obtain ⟨b, o, vs, Ls, h1, h2, h3, h4, h5, h6⟩ := hc
    refine ⟨L, rfl, rfl, fun e' G' hG => ⟨b, o, vs, Ls, h1, by rw [hG]; exact how b h2, h3, h4, h5, fun i c u hci hu => ?_⟩⟩
    have := h6 i c u hci hu
    cases c with
    | dat k x => exact ⟨this.1, fun b hb => by rw [hG]; exact how b (this.2 b hb)⟩
    | nil => exact this
    | _ => exact this
  | ref s j rv sv p lo hi k =>
    simp only [snap] at hsn
    cases hcon : content get s j rv sv p k with
    | none => rw [hcon] at hsn; simp at hsn
    | some x =>
      obtain ⟨d, l⟩ := x
      rw [hcon] at hsn
      simp only [Option.map_some, Option.some.injEq] at hsn
      subst hsn
      obtain ⟨sv', k0, l0, m1, m2, m3⟩ := content_ok hs hcon
      have hc' : CellOk e w G (.ref s j rv sv p lo hi k) v L := hc
      obtain ⟨n1, n2, n3, n4⟩ := ref_reads h hc' m1 m2 m3
      obtain ⟨o1, o2, o3⟩ := h.ownBlocks m1
      refine ⟨_, rfl, rfl, fun e' G' hG => ⟨n3.rep, fun b hb => ?_⟩⟩
      have hb' := n4 b hb
      rw [hG]
      have hall : G.ow b = some s ∨ G.ow b = none := by
        cases d with
        | true => exact .inl (o1 b hb')
        | false =>
          rw [fp_list, List.mem_append] at hb'
          rcases hb' with q | q
          · exact .inl (o1 b q)
          · exact .inr (o2 rfl b q)
      rcases hall with q | q
      · exact hrt b s q (by simp [C.targets])
      · exact how b q
  | bptr s bv j =>
    simp only [snap] at hsn
    split at hsn
    · rename_i hsh
      cases hin : snapIns (get s).cs with
      | none => rw [hin] at hsn; simp at hsn
      | some cs' =>
        rw [hin] at hsn
        simp only [Option.map_some, Option.some.injEq] at hsn
        subst hsn
        have hget : get s = e.get s := by
          rcases hs s with q | q
          · exact q
          · rw [q] at hsh; simp at hsh
        rw [hget] at hsh hin
        obtain ⟨h1, h2, h3⟩ := hc
        have hv := h2 hsh
        have hsl := h.slot s
        obtain ⟨_, ty, hblk⟩ := hsl.box bv hsh
        have hne : (e.get s).sh ≠ .dead := by rw [hsh]; simp
        have hlen := hsl.len hne
        obtain ⟨g1, g2⟩ := snapIns_get hin
        have hcell := hsl.cells hne
        have hown : ∀ b, b = G.bk s ∨ b ∈ fpCells (G.lt s) 0 (e.get s).cs → ow b = none := by
          intro b hb
          refine hrt b s ?_ (by simp [C.targets])
          refine hsl.own b ?_
          simp only [fpS, hsh, List.mem_append, List.mem_singleton]
          exact hb
        refine ⟨.leaf, rfl, rfl, fun e' G' hG => ⟨G.bk s, 0, G.vs s, G.lt s, by rw [hv]; simp, by rw [hG]; exact hown _ (.inl rfl), by rw [hblk]; simp, ?_, by rw [hlen, g1], fun i c u hci hu => ?_⟩⟩
        · intro i u hu
          simp only [World.cell?, hblk, Nat.zero_add]
          simpa using hu
        · have hil : i < (e.get s).cs.length := by rw [← g1]; exact (List.getElem?_eq_some_iff.1 hci).1
          obtain ⟨c0, hc0⟩ : ∃ c0, (e.get s).cs[i]? = some c0 := ⟨_, List.getElem?_eq_getElem hil⟩
          have hsi := g2 i c0 c hc0 hci
          have hok := hcell i c0 u hc0 hu
          cases c0 with
          | dat k x =>
            simp only [snapIn, Option.some.injEq] at hsi
            subst hsi
            exact ⟨hok.1, fun b hb => by rw [hG]; exact how b (hok.2 b hb)⟩
          | nil =>
            simp only [snapIn, Option.some.injEq] at hsi
            subst hsi
            exact hok
          | own rv sv d k l =>
            simp only [snapIn, Option.some.injEq] at hsi
            subst hsi
            obtain ⟨k1, k2⟩ := hok
            refine ⟨k1.rep, fun b hb => ?_⟩
            rw [hG]
            cases d with
            | true => exact hown b (.inr (fpCells_mem (i := 0) hc0 (by simpa [ownB] using hb)))
            | false =>
              rw [fp_list, List.mem_append] at hb
              rcases hb with q | q
              · exact hown b (.inr (fpCells_mem (i := 0) hc0 (by simpa [ownB] using q)))
              · exact how b (k2 rfl b q)
          | _ => simp [snapIn] at hsi
    · simp at hsn
  | _ => simp [snap] at hsn

/-- Cells, one by one. -/
theorem snaps_ok (h : Inv n e tm w G) {get : Nat → Slot} (hs : Sees get e) (ow : Nat → Option Nat) (how : ∀ b, G.ow b = none → ow b = none) :
    ∀ {cs cs' : List C} {vs : List Value} {Ls : Nat → LT}, vs.length = cs.length → (∀ (i : Nat) c u, cs[i]? = some c → vs[i]? = some u → CellOk0 e w G c u (Ls i)) →
    cs'.length = cs.length → (∀ (i : Nat) c c', cs[i]? = some c → cs'[i]? = some c' → snap get c = some c') → (∀ b s, G.ow b = some s → s ∈ cs.flatMap C.targets → ow b = none) →
    ∃ Ls' : Nat → LT, ∀ (i : Nat) c u, cs'[i]? = some c → vs[i]? = some u → c.isFn = false ∧ c.isOwn = false ∧ ∀ e' G', G'.ow = ow → CellOk0 e' w G' c u (Ls' i)
  | [], [], vs, Ls, _, _, _, _, _ => ⟨Ls, fun i c u hc => by simp at hc⟩
  | [], _ :: _, vs, Ls, _, _, hl, _, _ => by simp at hl
  | _ :: _, [], vs, Ls, _, _, hl, _, _ => by simp at hl
  | c :: r, c' :: r', vs, Ls, hv, hc, hl, hsn, hrt => by
    match vs, hv with
    | v :: vs, hv =>
      obtain ⟨L', h1, h2, h3⟩ := snap_ok h hs (hc 0 c v rfl rfl) (hsn 0 c c' rfl rfl) ow how (fun b s q1 q2 => hrt b s q1 (by simp [q2]))
      obtain ⟨Ls', g⟩ := snaps_ok h hs ow how (cs := r) (cs' := r') (vs := vs) (Ls := fun i => Ls (i + 1)) (by simpa using hv) (fun i c u a b => hc (i + 1) c u (by simpa using a) (by simpa using b)) (by simpa using hl)
        (fun i c c' a b => hsn (i + 1) c c' (by simpa using a) (by simpa using b)) (fun b s q1 q2 => hrt b s q1 (by simp only [List.flatMap_cons, List.mem_append]; exact .inr q2))
      refine ⟨fun i => match i with | 0 => L' | i + 1 => Ls' i, fun i c u a b => ?_⟩
      cases i with
      | zero =>
        simp only [List.getElem?_cons_zero, Option.some.injEq] at a b
        subst a b
        exact ⟨h1, h2, h3⟩
      | succ i => exact g i c u (by simpa using a) (by simpa using b)

theorem sendCap_nil (t : Tr) (c : C) : sendCap t [] c = snap t.at c := by cases c <;> rfl

theorem sendCaps_get {t : Tr} : ∀ {cs cs' : List C}, sendCaps t [] cs = some cs' → cs'.length = cs.length ∧ ∀ (j : Nat) c c', cs[j]? = some c → cs'[j]? = some c' → snap t.at c = some c'
  | [], cs', h => by
    simp only [sendCaps, Option.some.injEq] at h
    subst h
    exact ⟨rfl, fun j c c' hc => by simp at hc⟩
  | c :: r, cs', h => by
    simp only [sendCaps] at h
    split at h
    · rename_i c1 r1 h1 h2
      simp only [Option.some.injEq] at h
      subst h
      obtain ⟨g1, g2⟩ := sendCaps_get h2
      refine ⟨by simp [g1], fun j a b ha hb => ?_⟩
      cases j with
      | zero =>
        simp only [List.getElem?_cons_zero, Option.some.injEq] at ha hb
        subst ha hb
        rw [← sendCap_nil]
        exact h1
      | succ j => exact g2 j a b (by simpa using ha) (by simpa using hb)
    · simp at h

theorem readCell_nil (f : Nat) (caps : List C) : readCell [] (.fn f caps) = caps.flatMap fun c => match c with | .bptr s _ _ => [s] | c => c.targets := by
  simp only [readCell]
  congr 1

/-- A cell of an argument, sent. -/
theorem sendC_ok (h : Inv n e tm w G) {t : Tr} (hs : Sees t.at e) {c c' : C} {v : Value} {L : LT} (hc : CellOk e w G c v L) (hsn : sendC t [] c = some c') (ow : Nat → Option Nat)
    (how : ∀ b, G.ow b = none → ow b = none) (hrt : ∀ b s, G.ow b = some s → s ∈ readCell [] c → ow b = none) :
    ∃ L', c'.isOwn = false ∧ ∀ e' G', G'.ow = ow → CellOk e' w G' c' v L' := by
  have plain : ∀ c : C, c.isFn = false → CellOk0 e w G c v L → snap t.at c = some c' → (∀ b s, G.ow b = some s → s ∈ c.targets → ow b = none) → ∃ L', c'.isOwn = false ∧ ∀ e' G', G'.ow = ow → CellOk e' w G' c' v L' := by
    intro c hf hc0 hsn0 hrt0
    obtain ⟨L', h1, h2, h3⟩ := snap_ok h hs hc0 hsn0 ow how hrt0
    refine ⟨L', h2, fun e' G' hG => ?_⟩
    have := h3 e' G' hG
    cases c' <;> first | exact this | simp [C.isFn] at h1
  cases c with
  | fn f caps =>
    simp only [sendC] at hsn
    cases hcs : sendCaps t [] caps with
    | none => rw [hcs] at hsn; simp at hsn
    | some caps' =>
      rw [hcs] at hsn
      simp only [Option.map_some, Option.some.injEq] at hsn
      subst hsn
      obtain ⟨us, Ls, h1, h2, h3⟩ := hc
      obtain ⟨g1, g2⟩ := sendCaps_get hcs
      obtain ⟨Ls', g3⟩ := snaps_ok h hs ow how h2 (fun i c u a b => (h3 i c u a b).2.2) g1 g2 (fun b s q1 q2 => hrt b s q1 (by
        rw [readCell_nil]
        simp only [List.mem_flatMap] at q2 ⊢
        obtain ⟨c, k1, k2⟩ := q2
        refine ⟨c, k1, ?_⟩
        cases c <;> first | exact k2 | simpa [C.targets] using k2))
      exact ⟨L, rfl, fun e' G' hG => ⟨us, Ls', h1, by rw [h2, g1], fun i c u a b => ⟨(g3 i c u a b).1, (g3 i c u a b).2.1, (g3 i c u a b).2.2 e' G' hG⟩⟩⟩
  | dead => simp [sendC, snap] at hsn
  | nil => exact plain .nil rfl hc hsn hrt
  | dat k x => exact plain (.dat k x) rfl hc hsn hrt
  | own _ _ _ _ _ => simp [sendC, snap] at hsn
  | ref s j rv sv p lo hi k => exact plain (.ref s j rv sv p lo hi k) rfl hc hsn hrt
  | bptr s bv j => exact plain (.bptr s bv j) rfl hc hsn hrt
  | aptr _ _ _ _ _ _ _ _ => simp [sendC, snap] at hsn
  | pim cs j => exact plain (.pim cs j) rfl hc hsn hrt

theorem sendCs_ok (h : Inv n e tm w G) {t : Tr} (hs : Sees t.at e) (ow : Nat → Option Nat) (how : ∀ b, G.ow b = none → ow b = none) :
    ∀ {cs cs' : List C} {vs : List Value} {Ls : Nat → LT}, CellsOk e w G cs vs Ls → sendCs t [] cs = some cs' → (∀ b s, G.ow b = some s → s ∈ cs.flatMap (readCell []) → ow b = none) →
    cs'.length = cs.length ∧ ∃ Ls' : Nat → LT, ∀ (i : Nat) c u, cs'[i]? = some c → vs[i]? = some u → c.isOwn = false ∧ ∀ e' G', G'.ow = ow → CellOk e' w G' c u (Ls' i)
  | [], cs', vs, Ls, hc, hsn, hrt => by
    simp only [sendCs, Option.some.injEq] at hsn
    subst hsn
    exact ⟨rfl, Ls, fun i c u a => by simp at a⟩
  | c :: r, cs', vs, Ls, hc, hsn, hrt => by
    simp only [sendCs] at hsn
    split at hsn
    · rename_i c1 r1 h1 h2
      simp only [Option.some.injEq] at hsn
      subst hsn
      match vs, hc with
      | [], hc => have := hc.len; simp at this
      | v :: vs, hc =>
        have hcr : CellsOk e w G r vs (fun j => Ls (1 + j)) := by simpa using hc.drop 1
        obtain ⟨L', k1, k2⟩ := sendC_ok h hs (hc.cell 0 c v rfl rfl) h1 ow how (fun b s q1 q2 => hrt b s q1 (by simp [q2]))
        obtain ⟨g1, Ls', g2⟩ := sendCs_ok h hs ow how hcr h2 (fun b s q1 q2 => hrt b s q1 (by simp only [List.flatMap_cons, List.mem_append]; exact .inr q2))
        refine ⟨by simp [g1], fun i => match i with | 0 => L' | i + 1 => Ls' i, fun i c u a b => ?_⟩
        cases i with
        | zero =>
          simp only [List.getElem?_cons_zero, Option.some.injEq] at a b
          subst a b
          exact ⟨k1, k2⟩
        | succ i => exact g2 i c u (by simpa using a) (by simpa using b)
    · simp at hsn

end snap

/-! ### Nothing lent -/
theorem lentBoxes_nil : ∀ (i : Nat) (args : List Val), lentBoxes [] i args = []
  | i, [] => by simp [lentBoxes]
  | i, (sh, cs) :: r => by
    have := lentBoxes_nil (i + 1) r
    unfold lentBoxes
    split <;> simp_all

theorem send_nil {t : Tr} {lent : List (Nat × Nat)} : ∀ {args : List Val} {i : Nat} {q : Sent}, send t [] lent i args = some q → q.lends = [] ∧ q.vals.length = args.length ∧
    ∀ (j : Nat) v v', args[j]? = some v → q.vals[j]? = some v' → v'.1 = v.1 ∧ sendCs t lent v.2 = some v'.2
  | [], i, q, h => by
    simp only [send, Option.some.injEq] at h
    subst h
    exact ⟨rfl, rfl, fun j v v' a => by simp at a⟩
  | (sh, cs) :: r, i, q, h => by
    simp only [send] at h
    split at h
    · simp at h
    · rename_i q1 h1
      obtain ⟨g1, g2, g3⟩ := send_nil h1
      simp only [List.getD_nil, Bool.false_eq_true, if_false] at h
      split at h
      · rename_i cs' hcs
        simp only [Option.some.injEq] at h
        subst h
        refine ⟨g1, by simp [g2], fun j v v' a b => ?_⟩
        cases j with
        | zero =>
          simp only [List.getElem?_cons_zero, Option.some.injEq] at a b
          subst a b
          exact ⟨rfl, hcs⟩
        | succ j => exact g3 j v v' (by simpa using a) (by simpa using b)
      · simp at h

theorem readTargets_nil {lent : List (Nat × Nat)} : ∀ {args : List Val} {i : Nat}, readTargets [] lent i args = args.flatMap fun v => v.2.flatMap (readCell lent)
  | [], i => rfl
  | (sh, cs) :: r, i => by
    simp only [readTargets, List.getD_nil, Bool.false_eq_true, if_false, List.flatMap_cons, readTargets_nil (args := r)]

theorem outsOf_nil {n : Nat} {get : Nat → Slot} : ∀ {args : List Val} {i : Nat}, outsOf n get [] i args = some []
  | [], i => rfl
  | (sh, cs) :: r, i => by
    simp only [outsOf, outsOf_nil (args := r), List.getD_nil, Bool.false_eq_true, if_false]

theorem inSlots_nil (n : Nat) : ∀ (args : List Val) (i : Nat), inSlots n [] i args = (args.map fun v => { sh := v.1, cs := v.2, cnt := 1 }, args.map fun _ => (default : Slot))
  | [], i => rfl
  | (sh, cs) :: r, i => by
    simp only [inSlots, inSlots_nil n r, List.getD_nil, Bool.false_eq_true, if_false, List.map_cons]

theorem startE_get {n : Nat} {vals : List Val} (s : Nat) (hn : vals.length ≤ n) : (startE n [] vals).length = n + vals.length ∧
    (startE n [] vals).get s = (match vals[s]? with | some v => { sh := v.1, cs := v.2, cnt := 1 } | none => {}) := by
  refine ⟨by simp [startE, inSlots_nil]; omega, ?_⟩
  simp only [startE, inSlots_nil, Env.get, List.getD_eq_getElem?_getD]
  by_cases h : s < vals.length
  · rw [List.append_assoc, List.getElem?_append_left (by simpa using h)]
    simp [List.getElem?_eq_getElem h]
  · rw [List.append_assoc, List.getElem?_append_right (by simpa using h)]
    have hd : (default : Slot) = {} := rfl
    have : vals[s]? = none := List.getElem?_eq_none (by omega)
    rw [this]
    simp only [List.length_map]
    by_cases h2 : s - vals.length < n - vals.length
    · rw [List.getElem?_append_left (by simpa using h2)]
      simp [List.getElem?_replicate, h2, hd]
    · rw [List.getElem?_append_right (by simpa using h2)]
      simp only [List.length_replicate, List.getElem?_map]
      cases vals[s - vals.length - (n - vals.length)]? <;> simp [hd]

end Go.Mach
