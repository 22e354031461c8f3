/- The machine, part nh: what a function answers. No condition: lemmas. -/
import Derived.Test.YtcdkpfcfcjnooaaNg
namespace Go.Mach
set_option linter.unusedVariables false
set_option linter.unusedSimpArgs false

/-- Lists frozen below their roots. -/
theorem freezeAll {n : Nat} {tm : Array Value} {w : World} : ∀ {ps : List (Nat × Nat)} {e : Env} {G : Gh}, Inv n e tm w G →
    ∃ G', Inv n (freezeAt e ps) tm w G' ∧ Ext w e G (freezeAt e ps) G' ∧ ∀ s j rv sv d k l, (s, j) ∈ ps → (e.get s).cs[j]? = some (.own rv sv d k l) → ∀ b ∈ inner k (G.lt s j), G'.ow b = none
  | [], e, G, h => ⟨G, h, Ext.refl, fun s j rv sv d k l hm => by simp at hm⟩
  | (s, j) :: r, e, G, h => by
    simp only [freezeAt]
    split
    · rename_i rv sv k l hc
      have hc' := some_of_getD hc (by simp)
      obtain ⟨G1, h1, x1, f1, l1, _⟩ := h.freeze hc'
      obtain ⟨G2, h2, x2, f2⟩ := freezeAll (ps := r) h1
      refine ⟨G2, h2, x1.trans x2, fun s' j' rv' sv' d' k' l' hm hcell b hb => ?_⟩
      by_cases hsame : s' = s ∧ j' = j
      · obtain ⟨rfl, rfl⟩ := hsame
        rw [hc'] at hcell
        simp only [Option.some.injEq, C.own.injEq] at hcell
        obtain ⟨_, _, _, rfl, _⟩ := hcell
        exact x2.none b (f1 b hb)
      · simp only [List.mem_cons, Prod.mk.injEq] at hm
        rcases hm with hm | hm
        · exact absurd hm hsame
        · have hal := slot_alive hc'
          refine f2 s' j' rv' sv' d' k' l' hm ?_ b (by rw [x1.lt]; exact hb)
          by_cases g : s' = s
          · subst g
            rw [get_set_self hal]
            simp only
            rw [List.getElem?_set_ne (fun q => hsame ⟨rfl, q.symm⟩)]
            exact hcell
          · rw [get_set_ne g]; exact hcell
    · rename_i hno
      obtain ⟨G2, h2, x2, f2⟩ := freezeAll (ps := r) h
      refine ⟨G2, h2, x2, fun s' j' rv' sv' d' k' l' hm hcell b hb => ?_⟩
      simp only [List.mem_cons, Prod.mk.injEq] at hm
      rcases hm with ⟨rfl, rfl⟩ | hm
      · cases d' with
        | true => exact absurd (getD_some hcell .dead) (hno rv' sv' k' l')
        | false => exact x2.none b ((h.ownBlocks hcell).2.1 rfl b hb)
      · exact f2 s' j' rv' sv' d' k' l' hm hcell b hb

/-- A result's cell. -/
def ResOk (w : World) (ow : Nat → Option Nat) : C → Value → LT → Prop
  | .dat k x, v, L => Rep false w k x L [v] ∧ ∀ b ∈ fp k L, ow b = none
  | .nil, v, _ => v = .slice none 0 0
  | .own _ _ d k l, v, L => RepL true w k.size (Rep d w k) l L v ∧ (d = false → ∀ b ∈ inner k L, ow b = none)
  | .fn f [], v, _ => v = .func (.func f) #[] #[]
  | _, _, _ => False

/-- The results' values. -/
def oneOr : List Value → Value
  | [u] => u
  | us => .tuple us.toArray

def Parts : List Val → List Value → List Value → Prop
  | [], us, [] => us = []
  | v :: vs, us, u :: r => ∃ us1 us2, us = us1 ++ us2 ∧ us1.length = v.2.length ∧ u = form v.1 us1 ∧ Parts vs us2 r
  | _, _, _ => False

/-- Does the book's result say what the program's does? -/
def rvB (P : Program) : ResultVar → RV → Bool
  | .tmp t, .tmp t' => Nat.beq t t'
  | .cell t ty, .cell t' g m => Nat.beq t t' && (tyOf P ty).ok && (tyOf P ty).agg == g && Nat.beq (tyOf P ty).size m
  | _, _ => false

def rvsB (P : Program) : List ResultVar → List RV → Bool
  | [], [] => true
  | r :: rs, v :: vs => rvB P r v && rvsB P rs vs
  | _, _ => false

def resM (tm : Array Value) : ResultVar → Sem Value
  | .tmp t => pure (tm.getD t undef)
  | .cell a t => do loadVar t (← asAddr (tm.getD a undef))

theorem run_loadVar {P : Program} {w : World} {t : Nat} (hok : (tyOf P t).ok = true) {b o' : Nat} {vs : List Value} (hrow : RowAt w b o' vs) (hl : vs.length = (tyOf P t).size) :
    (loadVar t ⟨b, o', none⟩).run P w = .ok (form (partShape (tyOf P t)) vs) w := by
  have := run_loadAt hok hrow hl
  simpa only [Instr.loadAt, Instr.sureAddr, Sem.run_bind, Sem.run_pure, Result.andThen_ok] using this

theorem resVals_ok {P : Program} {n : Nat} {e : Env} {tm : Array Value} {w : World} {G : Gh} (h : Inv n e tm w G) : ∀ {rs : List RV} {qs : List ResultVar} {vs : List Val}, rvsB P qs rs = true → resVals n e.get rs = some vs →
    ∃ us Ls r, CellsOk e w G (vs.flatMap (·.2)) us Ls ∧ (∀ c ∈ vs.flatMap (·.2), c.isOwn = false) ∧ Parts vs us r ∧ (qs.mapM (resM tm)).run P w = .ok r w
  | [], [], vs, _, hv => by
    simp only [resVals, Option.some.injEq] at hv
    subst hv
    exact ⟨[], fun _ => .leaf, [], ⟨rfl, fun j c v hc _ => by simp at hc⟩, by simp, rfl, by simp [List.mapM_nil, Sem.run]⟩
  | [], _ :: _, vs, hq, _ => by simp [rvsB] at hq
  | _ :: _, [], vs, hq, _ => by simp [rvsB] at hq
  | v0 :: rs, q0 :: qs, vs, hq, hv => by
    simp only [rvsB, Bool.and_eq_true] at hq
    obtain ⟨hq0, hqs⟩ := hq
    have key : ∃ v vs' us1 Ls1 u, resVals n e.get rs = some vs' ∧ vs = v :: vs' ∧ CellsOk e w G v.2 us1 Ls1 ∧ (∀ c ∈ v.2, c.isOwn = false) ∧ u = form v.1 us1 ∧ (resM tm q0).run P w = .ok u w := by
      cases v0 with
      | tmp t =>
        simp only [resVals] at hv
        split at hv
        · rename_i v vs' ht ho hr
          simp only [Option.some.injEq] at hv
          have htn : t < n := Nat.le_of_ble_eq_true ht
          obtain ⟨us1, Ls1, hval⟩ := opd_ok (a := ⟨tm, []⟩) (x := .tmp t) h (fun s => .inl rfl) (fun t' ht' => by cases ht'; exact htn) ho
          cases q0 with
          | tmp t' =>
            have := Nat.eq_of_beq_eq_true hq0
            subst this
            exact ⟨v, vs', us1, Ls1, _, hr, hv.symm, hval.cells, hval.noOwn, hval.form, rfl⟩
          | cell a b => simp [rvB] at hq0
        · simp at hv
      | cell t g m =>
        simp only [resVals] at hv
        split at hv
        · rename_i c vs' ht ho hr
          split at hv
          · rename_i cs hcs
            simp only [Option.some.injEq] at hv
            have htn : t < n := Nat.le_of_ble_eq_true ht
            obtain ⟨us1, Ls1, hval⟩ := opd_ok (a := ⟨tm, []⟩) (x := .tmp t) h (fun s => .inl rfl) (fun t' ht' => by cases ht'; exact htn) ho
            cases q0 with
            | tmp t' => simp [rvB] at hq0
            | cell t' ty =>
              simp only [rvB, Bool.and_eq_true] at hq0
              obtain ⟨⟨⟨q1, q2⟩, q3⟩, q4⟩ := hq0
              have := Nat.eq_of_beq_eq_true q1
              subst this
              have hm := Nat.eq_of_beq_eq_true q4
              have hg : (tyOf P ty).agg = g := by simpa using q3
              have hlen := hval.cells.len
              match us1, hlen with
              | [u1], _ =>
                have hc := hval.cells.cell 0 c u1 rfl rfl
                obtain ⟨b, o', ws, Ls, k1, k2, k3, k4, k5⟩ := load_ok (a := ⟨tm, []⟩) h (fun s => .inl rfl) hc hcs
                have hf := hval.form
                have hu : tm.getD t' undef = .pointer (some ⟨b, o', none⟩) := by
                  rw [← k1]; exact hf
                refine ⟨_, vs', ws, Ls, _, hr, hv.symm, k4, k5, rfl, ?_⟩
                have := run_loadVar (P := P) q2 k3 (by rw [k2, hm])
                simp only [resM, hu, asAddr, Sem.run_bind, Sem.run_pure, Result.andThen_ok]
                rw [this]
                simp only [partShape, hg]
                cases g <;> rfl
          · simp at hv
        · simp at hv
    obtain ⟨v, vs', us1, Ls1, u, hr, rfl, hc, hno, hu, hrun⟩ := key
    obtain ⟨us, Ls, r, h1, h2, h3, h4⟩ := resVals_ok h hqs hr
    refine ⟨us1 ++ us, fun j => if j < v.2.length then Ls1 j else Ls (j - v.2.length), u :: r, ?_, ?_, ⟨us1, us, rfl, hc.len, hu, h3⟩, ?_⟩
    · refine ⟨by simp [hc.len, h1.len], fun j c u hcj hu => ?_⟩
      simp only [List.flatMap_cons] at hcj
      by_cases hj : j < v.2.length
      · rw [if_pos hj]
        rw [List.getElem?_append_left hj] at hcj
        rw [List.getElem?_append_left (by rw [hc.len]; exact hj)] at hu
        exact hc.cell j c u hcj hu
      · rw [if_neg hj]
        rw [List.getElem?_append_right (by omega)] at hcj
        rw [List.getElem?_append_right (by rw [hc.len]; omega), hc.len] at hu
        exact h1.cell _ c u hcj hu
    · intro c hcm
      simp only [List.flatMap_cons, List.mem_append] at hcm
      rcases hcm with hcm | hcm
      · exact hno c hcm
      · exact h2 c hcm
    · simp only [List.mapM_cons, Sem.run_bind, hrun, Result.andThen_ok, h4, Sem.run_pure]

theorem results_ok {P : Program} {fn : Func} {tm : Array Value} {w : World} {r : List Value} (h : (fn.results.toList.mapM (resM tm)).run P w = .ok r w) : (results fn tm).run P w = .ok (oneOr r) w := by
  have h' : (fn.results.mapM (resM tm)).run P w = .ok r.toArray w := by
    have : fn.results = fn.results.toList.toArray := by simp
    rw [this, List.mapM_toArray]
    simp only [Sem.run_map, h]
    rfl
  unfold results
  simp only [Sem.run_bind]
  have he : ∀ g : ResultVar → Sem Value, (∀ q, g q = resM tm q) → (fn.results.mapM g).run P w = .ok r.toArray w := fun g hg => by rw [show g = resM tm from funext hg]; exact h'
  rw [he _ (fun q => by cases q <;> rfl)]
  simp only [Result.andThen_ok]
  match r with
  | [] => rfl
  | [u] => rfl
  | _ :: _ :: _ => rfl

theorem parts_tuple : ∀ {vs : List Val} {us r : List Value}, Parts vs us r → vs.all oneOk = true → r = cutVals (vs.map fun v => match v.1 with | .one => none | _ => some v.2.length) us
  | [], us, [], h, _ => by simp [cutVals]
  | [], us, _ :: _, h, _ => by simp [Parts] at h
  | v :: vs, us, [], h, _ => by simp [Parts] at h
  | v :: vs, us, u :: r, h, ha => by
    obtain ⟨us1, us2, rfl, h1, h2, h3⟩ := h
    simp only [List.all_cons, Bool.and_eq_true] at ha
    have ih := parts_tuple h3 ha.2
    have hv := ha.1
    obtain ⟨sh, cs⟩ := v
    simp only [oneOk] at hv
    cases sh with
    | one =>
      simp only at hv
      have hl := Nat.eq_of_beq_eq_true hv
      simp only at h1
      rw [hl] at h1
      match us1, h1 with
      | [u1], _ =>
        simp only [List.map_cons, cutVals, List.cons_append, List.nil_append, List.headD_cons, List.drop_succ_cons, List.drop_zero]
        rw [h2, ih]
        rfl
    | agg =>
      simp only at h1
      simp only [List.map_cons, cutVals]
      rw [h2, ← h1, List.take_left, List.drop_left, ih]
      rfl
    | _ => simp at hv

theorem resU_form {vs : List Val} {us r : List Value} {sh : Sh} (h : Parts vs us r) (hs : tupSh vs = some sh) : oneOr r = form sh us ∧ sh ≠ .dead ∧ ∀ bv, sh ≠ .box bv := by
  unfold tupSh at hs
  split at hs
  · rename_i v
    split at hs
    · rename_i hv
      simp only [Option.some.injEq] at hs
      subst hs
      match r, h with
      | [u], h =>
        obtain ⟨us1, us2, rfl, h1, h2, h3⟩ := h
        simp only [Parts] at h3
        subst h3
        simp only [List.append_nil]
        refine ⟨h2, ?_, ?_⟩
        · intro q; rw [oneOk, q] at hv; simp at hv
        · intro bv q; rw [oneOk, q] at hv; simp at hv
      | [], h => simp [Parts] at h
      | _ :: _ :: _, h =>
        obtain ⟨_, _, _, _, _, h3⟩ := h
        simp [Parts] at h3
    · simp at hs
  · rename_i hne
    split at hs
    · rename_i ha
      simp only [Option.some.injEq] at hs
      subst hs
      have := parts_tuple h ha
      refine ⟨?_, by simp, by simp⟩
      have hr : ∀ u, r ≠ [u] := by
        intro u q
        subst q
        match vs, h with
        | [v], _ => exact hne v rfl
        | [], h => simp [Parts] at h
        | _ :: _ :: _, h =>
          obtain ⟨_, _, _, _, _, h3⟩ := h
          simp [Parts] at h3
      have hone : oneOr r = .tuple r.toArray := by
        match r, hr with
        | [], _ => rfl
        | [u], hr => exact absurd rfl (hr u)
        | _ :: _ :: _, _ => rfl
      rw [hone, this]
      rfl
    · simp at hs

theorem resCs_get {get : Nat → Slot} : ∀ {cs cs' : List C}, resCs get cs = some cs' → cs'.length = cs.length ∧ ∀ (j : Nat) c c', cs[j]? = some c → cs'[j]? = some c' → resC get c = some c'
  | [], cs', h => by
    simp only [resCs, Option.some.injEq] at h
    subst h
    exact ⟨rfl, fun j c c' hc => by simp at hc⟩
  | c :: r, cs', h => by
    simp only [resCs] at h
    split at h
    · rename_i c1 r1 h1 h2
      simp only [Option.some.injEq] at h
      subst h
      obtain ⟨g1, g2⟩ := resCs_get h2
      refine ⟨by simp [g1], fun j a b ha hb => ?_⟩
      cases j with
      | zero =>
        simp only [List.getElem?_cons_zero, Option.some.injEq] at ha hb
        subst ha hb
        exact h1
      | succ j => exact g2 j a b (by simpa using ha) (by simpa using hb)
    · simp at h

theorem deepAt_mem : ∀ {cs : List C} {s j rv sv : Nat} {q : Nat × Nat} {p : Path} {lo hi : Option Nat} {k : K}, (C.ref s j rv sv (q :: p) lo hi k) ∈ cs → (s, j) ∈ deepAt cs
  | [], _, _, _, _, _, _, _, _, _, h => by simp at h
  | c :: r, s, j, rv, sv, q, p, lo, hi, k, h => by
    simp only [List.mem_cons] at h
    rcases h with rfl | h
    · simp [deepAt]
    · have := deepAt_mem h
      cases c with
      | ref s' j' rv' sv' p' lo' hi' k' =>
        cases p' with
        | nil => simpa [deepAt] using this
        | cons a p' => simp only [deepAt, List.mem_cons]; exact .inr this
      | _ => simpa [deepAt] using this

/-- What a function answers, out of its slots at the end. -/
structure Ret (P : Program) (fn : Func) (n : Nat) (e1 : Env) (tm : Array Value) (w : World) (G1 : Gh) (sh : Sh) (cs : List C) (e2 : Env) (G2 : Gh) (H : List Nat) (us : List Value) (Ls : Nat → LT) : Prop where
  inv : Inv n e2 tm w G2
  ext : Ext w e1 G1 e2 G2
  hand : Hand w e1 G1 e2 G2 H
  len : us.length = cs.length
  cell : ∀ (j : Nat) c v, cs[j]? = some c → us[j]? = some v → ResOk w G2.ow c v (Ls j)
  fp : fpCells Ls 0 cs = H
  res : (results fn tm).run P w = .ok (form sh us) w
  alive : sh ≠ .dead
  nobox : ∀ bv, sh ≠ .box bv

theorem ret_ok {P : Program} {fn : Func} {n : Nat} {rs : List RV} (hrs : rvsB P fn.results.toList rs = true) {md : List Bool} {args : List Val} {e1 : Env} {tm : Array Value} {w : World} {G1 : Gh} (h : Inv n e1 tm w G1) {sh : Sh} {cs : List C} {os : List (List C)}
    (hr : retOf n rs md args e1 = some ((sh, cs), os)) : ∃ e2 G2 H us Ls, Ret P fn n e1 tm w G1 sh cs e2 G2 H us Ls ∧ outsOf n e2.get md 0 args = some os := by
  unfold retOf at hr
  split at hr
  · simp at hr
  · rename_i vs hvs
    split at hr
    · rename_i sh' cs' os' h1 h2 h3
      simp only [Option.some.injEq, Prod.mk.injEq] at hr
      obtain ⟨⟨rfl, rfl⟩, rfl⟩ := hr
      obtain ⟨us, Ls, r, q1, q2, q3, q4⟩ := resVals_ok h hrs hvs
      obtain ⟨r1, r2, r3⟩ := resU_form q3 h1
      have ht0 : TrOk e1 { get := e1.get } e1 := TrOk.start (fun s => .inl rfl) (fun _ _ => rfl)
      obtain ⟨e', H, Ls', tk⟩ := take_ok [] (vs.flatMap (·.2)) h ht0 q1 q2
      have he' := tk.tr.puts
      rw [he'] at h3
      obtain ⟨G2, f1, f2, f3⟩ := freezeAll (ps := deepAt (Tr.take [] { get := e1.get } (vs.flatMap (·.2))).2) tk.inv
      obtain ⟨g1, g2⟩ := resCs_get h2
      -- each cell, its place
      let LL : Nat → LT := fun j => match (Tr.take [] { get := e1.get } (vs.flatMap (·.2))).2[j]? with
        | some (.ref s i rv sv (q :: p) lo hi k) => match content (Tr.take [] { get := e1.get } (vs.flatMap (·.2))).1.at s i rv sv (q :: p) k with
          | some x => match (e'.get s).cs.getD i .dead with
            | .own _ _ _ k0 _ => cutL k.size lo hi x.2.length (subL k0 (G1.lt s i) (q :: p))
            | _ => .leaf
          | none => .leaf
        | _ => Ls' j
      have hcell : ∀ (j : Nat) c v, cs'[j]? = some c → us[j]? = some v → ResOk w G2.ow c v (LL j) := by
        intro j c v hc hv
        have hjl : j < (Tr.take [] { get := e1.get } (vs.flatMap (·.2))).2.length := by
          rw [← g1]; exact (List.getElem?_eq_some_iff.1 hc).1
        obtain ⟨c0, hc0⟩ : ∃ c0, (Tr.take [] { get := e1.get } (vs.flatMap (·.2))).2[j]? = some c0 := ⟨_, List.getElem?_eq_getElem hjl⟩
        have hres := g2 j c0 c hc0 hc
        have hnew := tk.new j c0 v hc0 hv
        have hmem := List.mem_of_getElem? hc0
        cases c0 with
        | dat k x =>
          simp only [resC, Option.some.injEq] at hres
          subst hres
          have hL : LL j = Ls' j := by simp only [LL, hc0]
          rw [hL]
          exact ⟨hnew.1, fun b hb => f2.none b (hnew.2 b hb)⟩
        | nil =>
          simp only [resC, Option.some.injEq] at hres
          subst hres
          exact hnew
        | own rv sv d k l =>
          simp only [resC, Option.some.injEq] at hres
          subst hres
          have hL : LL j = Ls' j := by simp only [LL, hc0]
          rw [hL]
          exact ⟨hnew.1, fun hd b hb => f2.none b (hnew.2 hd b hb).1⟩
        | fn f caps =>
          cases caps with
          | nil =>
            simp only [resC, Option.some.injEq] at hres
            subst hres
            obtain ⟨us', Ls'', k1, k2, _⟩ := hnew
            obtain rfl := List.eq_nil_of_length_eq_zero k2
            exact k1
          | cons _ _ => simp [resC] at hres
        | ref s i rv sv p lo hi k =>
          cases p with
          | nil => simp [resC] at hres
          | cons q p =>
            simp only [resC] at hres
            cases hcon : content (Tr.take [] { get := e1.get } (vs.flatMap (·.2))).1.at s i rv sv (q :: p) k with
            | none => rw [hcon] at hres; simp at hres
            | some x =>
              obtain ⟨d, l⟩ := x
              rw [hcon] at hres
              simp only [Option.map_some, Option.some.injEq] at hres
              subst hres
              obtain ⟨sv', k0, l0, m1, m2, m3⟩ := content_ok tk.tr.sees hcon
              obtain ⟨n1, n2, n3, n4⟩ := ref_reads (L := Ls' j) tk.inv hnew m1 m2 m3
              have hL : LL j = cutL k.size lo hi l.length (subL k0 (G1.lt s i) (q :: p)) := by
                simp only [LL, hc0, hcon, getD_some m1]
              rw [hL]
              refine ⟨n3.rep, fun b hb => ?_⟩
              have hsub := (cutL_sublist k k.size lo hi l.length (subL k0 (G1.lt s i) (q :: p))).subset hb
              have hin := subL_inner (q :: p) (by simp) k0 l0 (G1.lt s i) n2 b
              rw [m3] at hin
              exact f3 s i rv sv' d k0 l0 (deepAt_mem hmem) m1 b (hin hsub)
        | _ => simp [resC] at hres
      have hfp : fpCells LL 0 cs' = H := by
        rw [← tk.fp]
        refine fpCells_congr g1 fun j c0 c hc0 hc => ?_
        have hres := g2 j c0 c hc0 hc
        rw [Nat.zero_add]
        cases c0 with
        | own rv sv d k l =>
          simp only [resC, Option.some.injEq] at hres
          subst hres
          have hL : LL j = Ls' j := by simp only [LL, hc0]
          rw [hL]
        | dat k x => simp only [resC, Option.some.injEq] at hres; subst hres; simp [ownB]
        | nil => simp only [resC, Option.some.injEq] at hres; subst hres; simp [ownB]
        | fn f caps =>
          cases caps with
          | nil => simp only [resC, Option.some.injEq] at hres; subst hres; simp [ownB]
          | cons _ _ => simp [resC] at hres
        | ref s i rv sv p lo hi k =>
          cases p with
          | nil => simp [resC] at hres
          | cons q p =>
            simp only [resC] at hres
            cases hcon : content (Tr.take [] { get := e1.get } (vs.flatMap (·.2))).1.at s i rv sv (q :: p) k with
            | none => rw [hcon] at hres; simp at hres
            | some x =>
              rw [hcon] at hres
              simp only [Option.map_some, Option.some.injEq] at hres
              subst hres
              simp [ownB]
        | _ => simp [resC] at hres
      exact ⟨_, G2, H, us, LL, ⟨f1, tk.ext.trans f2, tk.hand.ext f2, by rw [tk.len, g1], hcell, hfp, by rw [← r1]; exact results_ok q4, r2, r3⟩, h3⟩
    · simp at hr

end Go.Mach
