/- The machine, part nj: a call of a function to which nothing is lent. No condition: lemmas. -/
import Derived.Test.YtcdkpfcfcjnooaaNi
namespace Go.Mach
set_option linter.unusedVariables false
set_option linter.unusedSimpArgs false

/-! ### The callee's start -/
/-- Blocks as the callee sees them: what is only read is nobody's, what else the caller owns has a colour. -/
def owIn (G : Gh) (rt : List Nat) (M : Nat) (b : Nat) : Option Nat := match G.ow b with
  | none => none
  | some s => if rt.contains s then none else some M

theorem owIn_none {G : Gh} {rt : List Nat} {M b : Nat} (h : G.ow b = none) : owIn G rt M b = none := by simp [owIn, h]
theorem owIn_rt {G : Gh} {rt : List Nat} {M b s : Nat} (h : G.ow b = some s) (hs : s ∈ rt) : owIn G rt M b = none := by simp [owIn, h, hs]
theorem owIn_out {G : Gh} {rt : List Nat} {M b s : Nat} (h : G.ow b = some s) (hs : s ∉ rt) : owIn G rt M b = some M := by simp [owIn, h, hs]

section start
variable {n : Nat} {e : Env} {tm : Array Value} {w : World} {G : Gh}

theorem targets_lt0 {c : C} {v : Value} {L : LT} (hc : CellOk0 e w G c v L) : ∀ s ∈ c.targets, s < e.length := by
  have key : ∀ s, 0 < (e.get s).cnt → s < e.length := fun s hs => by
    rcases Nat.lt_or_ge s e.length with q | q
    · exact q
    · rw [get_out (by omega)] at hs; simp at hs
  intro s hs
  cases c with
  | ref s' j rv sv p lo hi k =>
    simp only [C.targets, List.mem_singleton] at hs
    subst hs
    exact key _ (Nat.lt_of_le_of_lt (Nat.zero_le _) hc.1)
  | bptr s' bv j =>
    simp only [C.targets, List.mem_singleton] at hs
    subst hs
    exact key _ (Nat.lt_of_le_of_lt (Nat.zero_le _) hc.1)
  | aptr s' j rv sv p i c k =>
    simp only [C.targets, List.mem_singleton] at hs
    subst hs
    exact key _ (Nat.lt_of_le_of_lt (Nat.zero_le _) hc.2.1)
  | fn _ _ => exact hc.elim
  | _ => simp [C.targets] at hs

theorem targets_lt {c : C} {v : Value} {L : LT} (hc : CellOk e w G c v L) : ∀ s ∈ readCell [] c, s < e.length := by
  intro s hs
  cases c with
  | fn f caps =>
    obtain ⟨us, Ls, h1, h2, h3⟩ := hc
    rw [readCell_nil] at hs
    simp only [List.mem_flatMap] at hs
    obtain ⟨c, k1, k2⟩ := hs
    obtain ⟨i, hi⟩ := List.getElem?_of_mem k1
    have hil : i < us.length := by rw [h2]; exact (List.getElem?_eq_some_iff.1 hi).1
    obtain ⟨u, hu⟩ : ∃ u, us[i]? = some u := ⟨_, List.getElem?_eq_getElem hil⟩
    refine targets_lt0 (h3 i c u hi hu).2.2 s ?_
    cases c <;> first | exact k2 | simpa [C.targets] using k2
  | ref s' j rv sv p lo hi k => exact targets_lt0 (w := w) (G := G) (v := v) (L := L) (c := .ref s' j rv sv p lo hi k) hc s hs
  | bptr s' bv j => exact targets_lt0 (w := w) (G := G) (v := v) (L := L) (c := .bptr s' bv j) hc s hs
  | aptr s' j rv sv p i c k => exact targets_lt0 (w := w) (G := G) (v := v) (L := L) (c := .aptr s' j rv sv p i c k) hc s hs
  | _ => simp [readCell, C.targets] at hs

/-- The values of arguments. -/
def ArgsOk (e : Env) (w : World) (G : Gh) (args : List Val) (us : List Value) : Prop :=
  us.length = args.length ∧ ∀ (i : Nat) v u, args[i]? = some v → us[i]? = some u → ∃ vs Ls, ValOk e w G v u vs Ls

theorem start_inv (h : Inv n e tm w G) {t : Tr} (hs : Sees t.at e) {args : List Val} {us : List Value} (ha : ArgsOk e w G args us) {vals : List Val} (hl : vals.length = args.length)
    (hsend : ∀ (j : Nat) v v', args[j]? = some v → vals[j]? = some v' → v'.1 = v.1 ∧ sendCs t [] v.2 = some v'.2) {N : Nat} (hN : args.length ≤ N) (rt : List Nat)
    (hrt : ∀ v ∈ args, ∀ s ∈ v.2.flatMap (readCell []), s ∈ rt) (M : Nat) :
    ∃ Gc, Inv N (startE N [] vals) (us.toArray ++ Array.replicate (N - us.length) undef) w Gc ∧ Gc.ow = owIn G rt M := by
  have hex : ∀ i : Nat, ∃ p : List Value × (Nat → LT), ∀ v v' u, args[i]? = some v → vals[i]? = some v' → us[i]? = some u → u = form v'.1 p.1 ∧ (∀ bv, v'.1 ≠ .box bv) ∧ v'.1 ≠ .dead ∧ p.1.length = v'.2.length ∧
      ∀ (j : Nat) c x, v'.2[j]? = some c → p.1[j]? = some x → c.isOwn = false ∧ ∀ e' G', G'.ow = owIn G rt M → CellOk e' w G' c x (p.2 j) := by
    intro i
    cases hv : args[i]? with
    | none => exact ⟨([], fun _ => .leaf), fun v v' u q => by simp at q⟩
    | some v =>
      have hil : i < args.length := (List.getElem?_eq_some_iff.1 hv).1
      obtain ⟨u, hu⟩ : ∃ u, us[i]? = some u := ⟨_, List.getElem?_eq_getElem (by rw [ha.1]; exact hil)⟩
      obtain ⟨v', hv'⟩ : ∃ v', vals[i]? = some v' := ⟨_, List.getElem?_eq_getElem (by rw [hl]; exact hil)⟩
      obtain ⟨vs, Ls, hval⟩ := ha.2 i v u hv hu
      obtain ⟨q1, q2⟩ := hsend i v v' hv hv'
      obtain ⟨g1, Ls', g2⟩ := sendCs_ok h hs (owIn G rt M) (fun b => owIn_none) hval.cells q2 (fun b s hb hm => owIn_rt hb (hrt v (List.mem_of_getElem? hv) s hm))
      refine ⟨(vs, Ls'), fun w1 w2 w3 a b c => ?_⟩
      simp only [Option.some.injEq] at a
      subst a
      rw [hv'] at b
      rw [hu] at c
      simp only [Option.some.injEq] at b c
      subst b c
      refine ⟨by rw [q1]; exact hval.form, fun bv => by rw [q1]; exact hval.sh bv, by rw [q1]; exact hval.alive, by rw [g1]; exact hval.cells.len, g2⟩
  obtain ⟨f, hf⟩ := Classical.axiomOfChoice hex
  let Gc : Gh := { vs := fun i => (f i).1, lt := fun i => (f i).2, bk := fun _ => 0, ow := owIn G rt M }
  refine ⟨Gc, ⟨by simp [ha.1]; omega, ?_, fun s => ?_, fun b s hb => ?_⟩, rfl⟩
  · rw [(startE_get 0 (by omega)).1]; omega
  · have hg := (startE_get (n := N) (vals := vals) s (by omega)).2
    cases hv' : vals[s]? with
    | none =>
      rw [hv'] at hg
      exact SlotOk.nothing hg
    | some v' =>
      rw [hv'] at hg
      have hsl : s < vals.length := (List.getElem?_eq_some_iff.1 hv').1
      obtain ⟨v, hv⟩ : ∃ v, args[s]? = some v := ⟨_, List.getElem?_eq_getElem (by omega)⟩
      obtain ⟨u, hu⟩ : ∃ u, us[s]? = some u := ⟨_, List.getElem?_eq_getElem (by rw [ha.1]; omega)⟩
      obtain ⟨k1, k2, k3, k4, k5⟩ := hf s v v' u hv hv' hu
      have hnoown : ∀ c ∈ v'.2, c.isOwn = false := by
        intro c hc
        obtain ⟨j, hj⟩ := List.getElem?_of_mem hc
        have hjl : j < (f s).1.length := by rw [k4]; exact (List.getElem?_eq_some_iff.1 hj).1
        exact (k5 j c _ hj (List.getElem?_eq_getElem hjl)).1
      have hfp : fpS Gc s ((startE N [] vals).get s) = [] := by
        have key : ∀ (cs : List C) (i : Nat), (∀ c ∈ cs, c.isOwn = false) → fpCells (Gc.lt s) i cs = [] := by
          intro cs
          induction cs with
          | nil => intro i _; rfl
          | cons c cs ih => intro i ho; simp only [fpCells]; rw [noOwn_ownB (ho c (by simp)), ih (i + 1) fun c hc => ho c (by simp [hc])]; rfl
        rw [hg]
        simp only [fpS, key v'.2 0 hnoown]
        cases hsh : v'.1 <;> first | rfl | exact absurd hsh (k2 _)
      have htm : (us.toArray ++ Array.replicate (N - us.length) undef)[s]? = some u := by
        rw [Array.getElem?_append_left (by simp [ha.1]; omega)]
        simpa using hu
      refine ⟨fun hn => ?_, fun bv hb => ?_, fun hd => ?_, fun hd j c x hc hx => ?_, fun hd j rv sv d k l hc => ?_, by rw [hfp]; simp, by rw [hfp]; simp, fun hd => ?_⟩
      · rw [hg]
        rw [k1] at htm
        have h2 := k2
        have h3 := k3
        revert h2 h3 htm
        simp only [FormIs, Gc]
        cases v'.1 <;> simp
      · rw [hg] at hb; exact absurd hb (k2 bv)
      · rw [hg]; exact k4
      · rw [hg] at hc
        exact (k5 j c x hc hx).2 _ _ rfl
      · rw [hg] at hc
        have := hnoown _ (List.mem_of_getElem? hc)
        simp [C.isOwn] at this
      · rw [hg] at hd; exact absurd hd k3
  · simp only [Gc, owIn] at hb
    cases ho : G.ow b with
    | none => rw [ho] at hb; simp at hb
    | some s' => exact h.lt b s' ho

end start

/-! ### The book's pattern of the arguments -/
theorem encA_length : ∀ {ps : List (PSh × List PC)} {d : AsT ps}, (encA ps d).length = ps.length
  | [], _ => rfl
  | [p], _ => rfl
  | p :: q :: r, d => by simp [encA, encA_length (ps := q :: r)]

theorem decA_ok {N : Nat} : ∀ {ps : List (PSh × List PC)} {i : Nat} {vals : List Val} {d : AsT ps}, decA N [] i ps vals = some d → vals.length = ps.length ∧
    ∀ (j : Nat) v v', vals[j]? = some v → (encA ps d)[j]? = some v' → v'.1 = v.1 ∧ (∀ bv, v'.1 = .box bv → bv = 0) ∧ v'.2.length = v.2.length ∧
      ∀ (q : Nat) c c', v.2[q]? = some c → v'.2[q]? = some c' → (c' = c ∧ c.base = true) ∨ c' = .dead ∨ ((i + j < N ∧ c = .nil ∧ ∃ d' k, c' = .own 0 0 d' k [] ∨ c' = .dat (.list k) []))
  | [], i, [], d, _ => ⟨rfl, fun j v v' a => by simp at a⟩
  | [], i, _ :: _, d, h => by simp [decA] at h
  | [p], i, [], d, h => by simp [decA] at h
  | [p], i, _ :: _ :: _, d, h => by simp [decA] at h
  | [p], i, [v], d, h => by
    simp only [decA] at h
    split at h
    · rename_i a h1 h2
      simp only [Option.some.injEq] at h
      subst h
      refine ⟨rfl, fun j v0 v1 ha hb => ?_⟩
      cases j with
      | zero =>
        simp only [List.getElem?_cons_zero, Option.some.injEq, encA] at ha hb
        subst ha hb
        simp only [List.getD_nil, Bool.false_eq_true, if_false] at h2
        obtain ⟨k1, k2⟩ := decCs_ok h2
        refine ⟨PSh.fits_ok h1, fun bv hbv => ?_, k1, fun q c c' hc hc' => ?_⟩
        · simp only at hbv
          cases hp : p.1 <;> rw [hp] at hbv <;> simp [PSh.sh] at hbv
          exact hbv.symm
        · rcases k2 q c c' hc hc' with r | r | r
          · exact .inl r
          · exact .inr (.inl r)
          · exact .inr (.inr (by simpa using r.1))
      | succ j => simp at ha
    · simp at h
  | p :: p' :: r, i, [], d, h => by simp [decA] at h
  | p :: p' :: r, i, v :: vs, d, h => by
    simp only [decA] at h
    split at h
    · rename_i a b h1 h2 h3
      simp only [Option.some.injEq] at h
      subst h
      obtain ⟨g1, g2⟩ := decA_ok h3
      refine ⟨by simp [g1], fun j v0 v1 ha hb => ?_⟩
      cases j with
      | zero =>
        simp only [List.getElem?_cons_zero, Option.some.injEq, encA] at ha hb
        subst ha hb
        simp only [List.getD_nil, Bool.false_eq_true, if_false] at h2
        obtain ⟨k1, k2⟩ := decCs_ok h2
        refine ⟨PSh.fits_ok h1, fun bv hbv => ?_, k1, fun q c c' hc hc' => ?_⟩
        · simp only at hbv
          cases hp : p.1 <;> rw [hp] at hbv <;> simp [PSh.sh] at hbv
          exact hbv.symm
        · rcases k2 q c c' hc hc' with r | r | r
          · exact .inl r
          · exact .inr (.inl r)
          · exact .inr (.inr (by simpa using r.1))
      | succ j =>
        have := g2 j v0 v1 (by simpa using ha) (by simpa [encA] using hb)
        rw [show i + 1 + j = i + (j + 1) by omega] at this
        exact this
    · simp at h

theorem decA_gen {N : Nat} {ps : List (PSh × List PC)} {vals : List Val} {d : AsT ps} (h : decA N [] 0 ps vals = some d) (hN : vals.length ≤ N) (hnr : ∀ v ∈ vals, ∀ c ∈ v.2, c.refAt = []) :
    Gen N (startE N [] vals) (startE N [] (encA ps d)) := by
  obtain ⟨h1, h2⟩ := decA_ok h
  have hl : (encA ps d).length = vals.length := by rw [encA_length, h1]
  have hg := fun s => startE_get (n := N) (vals := vals) s hN
  have hg' := fun s => startE_get (n := N) (vals := encA ps d) s (by omega)
  refine ⟨by rw [(hg 0).1, (hg' 0).1, hl], fun s _ => ?_, fun s j c hc t i ht => ?_⟩
  · rw [(hg s).2, (hg' s).2]
    cases hv : vals[s]? with
    | none =>
      have : (encA ps d)[s]? = none := by
        rw [List.getElem?_eq_none_iff] at hv ⊢; omega
      rw [this]
      exact .inr (.inr ⟨rfl, rfl⟩)
    | some v =>
      have hsl : s < vals.length := (List.getElem?_eq_some_iff.1 hv).1
      obtain ⟨v', hv'⟩ : ∃ v', (encA ps d)[s]? = some v' := ⟨_, List.getElem?_eq_getElem (by omega)⟩
      rw [hv']
      obtain ⟨k1, k2, k3, k4⟩ := h2 s v v' hv hv'
      exact .inr (.inl ⟨k1, rfl, k2, k3, fun j c c' hc hc' => by
        have := k4 j c c' hc hc'
        rw [Nat.zero_add] at this
        exact this⟩)
  · exfalso
    rw [(hg' s).2] at hc
    cases hv' : (encA ps d)[s]? with
    | none => rw [hv'] at hc; simp at hc
    | some v' =>
      rw [hv'] at hc
      have hsl : s < (encA ps d).length := (List.getElem?_eq_some_iff.1 hv').1
      obtain ⟨v, hv⟩ : ∃ v, vals[s]? = some v := ⟨_, List.getElem?_eq_getElem (by omega)⟩
      obtain ⟨k1, k2, k3, k4⟩ := h2 s v v' hv hv'
      have hjl : j < v.2.length := by rw [← k3]; exact (List.getElem?_eq_some_iff.1 hc).1
      obtain ⟨c0, hc0⟩ : ∃ c0, v.2[j]? = some c0 := ⟨_, List.getElem?_eq_getElem hjl⟩
      rcases k4 j c0 c hc0 hc with ⟨rfl, _⟩ | rfl | ⟨_, rfl, d', k, rfl | rfl⟩
      · rw [hnr v (List.mem_of_getElem? hv) c (List.mem_of_getElem? hc0)] at ht; simp at ht
      · simp [C.refAt] at ht
      · simp [C.refAt] at ht
      · simp [C.refAt] at ht

theorem snap_refAt {get : Nat → Slot} {c c' : C} (h : snap get c = some c') : c'.refAt = [] := by
  cases c with
  | ref s j rv sv p lo hi k =>
    simp only [snap] at h
    cases hq : content get s j rv sv p k <;> rw [hq] at h <;> simp at h
    subst h; rfl
  | bptr s bv j =>
    simp only [snap] at h
    split at h
    · cases hq : snapIns (get s).cs <;> rw [hq] at h <;> simp at h
      subst h; rfl
    · simp at h
  | dat k x => simp only [snap, Option.some.injEq] at h; subst h; rfl
  | nil => simp only [snap, Option.some.injEq] at h; subst h; rfl
  | pim cs j => simp only [snap, Option.some.injEq] at h; subst h; rfl
  | _ => simp [snap] at h

theorem sendC_refAt {t : Tr} {lent : List (Nat × Nat)} {c c' : C} (h : sendC t lent c = some c') : c'.refAt = [] := by
  cases c with
  | fn f caps =>
    simp only [sendC] at h
    cases hq : sendCaps t lent caps <;> rw [hq] at h <;> simp at h
    subst h; rfl
  | _ => exact snap_refAt (get := t.at) (by simpa only [sendC] using h)

theorem sendCs_refAt {t : Tr} {lent : List (Nat × Nat)} : ∀ {cs cs' : List C}, sendCs t lent cs = some cs' → ∀ c ∈ cs', c.refAt = []
  | [], cs', h, c, hc => by
    simp only [sendCs, Option.some.injEq] at h
    subst h
    simp at hc
  | a :: r, cs', h, c, hc => by
    simp only [sendCs] at h
    split at h
    · rename_i c1 r1 h1 h2
      simp only [Option.some.injEq] at h
      subst h
      simp only [List.mem_cons] at hc
      rcases hc with rfl | hc
      · exact sendC_refAt h1
      · exact sendCs_refAt h2 c hc
    · simp at h

end Go.Mach
