/- The machine, parts Nh Ni Nj Nk Nq. No condition: definitions and lemmas. -/
import Derived.Test.YthchcnfkgjmabaaGreatXF
/- The machine, part nh: what a function answers. No condition: lemmas. -/
namespace Go.Mach
set_option linter.unusedVariables false
set_option linter.unusedSimpArgs false

/-- Lists frozen below their roots. -/
theorem freezeAll {n : Nat} {tm : Array Value} {w : World} : ∀ {ps : List (Nat × Nat)} {e : Env} {G : Gh}, Inv n e tm w G →
    ∃ G', Inv n (freezeAt e ps) tm w G' ∧ Ext w e G (freezeAt e ps) G' ∧ ∀ s j rv sv d k l, (s, j) ∈ ps → (e.get s).cs[j]? = some (.own rv sv d k l) → ∀ b ∈ inner k (G.lt s j), G'.ow b = none
  | [], e, G, h => ⟨G, h, Ext.refl, fun s j rv sv d k l hm => by simp at hm⟩
  | (s, j) :: r, e, G, h => by
    simp only [freezeAt]
    split
    · rename_i rv sv k l hc
      have hc' := some_of_getD hc (by simp)
      obtain ⟨G1, h1, x1, f1, l1, _⟩ := h.freeze hc'
      obtain ⟨G2, h2, x2, f2⟩ := freezeAll (ps := r) h1
      refine ⟨G2, h2, x1.trans x2, fun s' j' rv' sv' d' k' l' hm hcell b hb => ?_⟩
      by_cases hsame : s' = s ∧ j' = j
      · obtain ⟨rfl, rfl⟩ := hsame
        rw [hc'] at hcell
        simp only [Option.some.injEq, C.own.injEq] at hcell
        obtain ⟨_, _, _, rfl, _⟩ := hcell
        exact x2.none b (f1 b hb)
      · simp only [List.mem_cons, Prod.mk.injEq] at hm
        rcases hm with hm | hm
        · exact absurd hm hsame
        · have hal := slot_alive hc'
          refine f2 s' j' rv' sv' d' k' l' hm ?_ b (by rw [x1.lt]; exact hb)
          by_cases g : s' = s
          · subst g
            rw [get_set_self hal]
            simp only
            rw [List.getElem?_set_ne (fun q => hsame ⟨rfl, q.symm⟩)]
            exact hcell
          · rw [get_set_ne g]; exact hcell
    · rename_i hno
      obtain ⟨G2, h2, x2, f2⟩ := freezeAll (ps := r) h
      refine ⟨G2, h2, x2, fun s' j' rv' sv' d' k' l' hm hcell b hb => ?_⟩
      simp only [List.mem_cons, Prod.mk.injEq] at hm
      rcases hm with ⟨rfl, rfl⟩ | hm
      · cases d' with
        | true => exact absurd (getD_some hcell .dead) (hno rv' sv' k' l')
        | false => exact x2.none b ((h.ownBlocks hcell).2.1 rfl b hb)
      · exact f2 s' j' rv' sv' d' k' l' hm hcell b hb

/-- A result's cell. -/
def ResOk (w : World) (ow : Nat → Option Nat) : C → Value → LT → Prop
  | .dat k x, v, L => Rep false w k x L [v] ∧ ∀ b ∈ fp k L, ow b = none
  | .nil, v, _ => v = .slice none 0 0
  | .own _ _ d k l, v, L => RepL true w k.size (Rep d w k) l L v ∧ (d = false → ∀ b ∈ inner k L, ow b = none)
  | .fn f [], v, _ => v = .func (.func f) #[] #[]
  | _, _, _ => False

/-- The results' values. -/
def oneOr : List Value → Value
  | [u] => u
  | us => .tuple us.toArray

def Parts : List Val → List Value → List Value → Prop
  | [], us, [] => us = []
  | v :: vs, us, u :: r => ∃ us1 us2, us = us1 ++ us2 ∧ us1.length = v.2.length ∧ u = form v.1 us1 ∧ Parts vs us2 r
  | _, _, _ => False

/-- Does the book's result say what the program's does? -/
def rvB (P : Program) : ResultVar → RV → Bool
  | .tmp t, .tmp t' => Nat.beq t t'
  | .cell t ty, .cell t' g m => Nat.beq t t' && (tyOf P ty).ok && (tyOf P ty).agg == g && Nat.beq (tyOf P ty).size m
  | _, _ => false

def rvsB (P : Program) : List ResultVar → List RV → Bool
  | [], [] => true
  | r :: rs, v :: vs => rvB P r v && rvsB P rs vs
  | _, _ => false

def resM (tm : Array Value) : ResultVar → Sem Value
  | .tmp t => pure (tm.getD t undef)
  | .cell a t => do loadVar t (← asAddr (tm.getD a undef))

theorem run_loadVar {P : Program} {w : World} {t : Nat} (hok : (tyOf P t).ok = true) {b o' : Nat} {vs : List Value} (hrow : RowAt w b o' vs) (hl : vs.length = (tyOf P t).size) :
    (loadVar t ⟨b, o', none⟩).run P w = .ok (form (partShape (tyOf P t)) vs) w := by
  have := run_loadAt hok hrow hl
  simpa only [Instr.loadAt, Instr.sureAddr, Sem.run_bind, Sem.run_pure, Result.andThen_ok] using this

theorem resVals_ok {P : Program} {n : Nat} {e : Env} {tm : Array Value} {w : World} {G : Gh} (h : Inv n e tm w G) : ∀ {rs : List RV} {qs : List ResultVar} {vs : List Val}, rvsB P qs rs = true → resVals n e.get rs = some vs →
    ∃ us Ls r, CellsOk e w G (vs.flatMap (·.2)) us Ls ∧ (∀ c ∈ vs.flatMap (·.2), c.isOwn = false) ∧ Parts vs us r ∧ (qs.mapM (resM tm)).run P w = .ok r w
  | [], [], vs, _, hv => by
    simp only [resVals, Option.some.injEq] at hv
    subst hv
    exact ⟨[], fun _ => .leaf, [], ⟨rfl, fun j c v hc _ => by simp at hc⟩, by simp, rfl, by simp [List.mapM_nil, Sem.run]⟩
  | [], _ :: _, vs, hq, _ => by simp [rvsB] at hq
  | _ :: _, [], vs, hq, _ => by simp [rvsB] at hq
  | v0 :: rs, q0 :: qs, vs, hq, hv => by
    simp only [rvsB, Bool.and_eq_true] at hq
    obtain ⟨hq0, hqs⟩ := hq
    have key : ∃ v vs' us1 Ls1 u, resVals n e.get rs = some vs' ∧ vs = v :: vs' ∧ CellsOk e w G v.2 us1 Ls1 ∧ (∀ c ∈ v.2, c.isOwn = false) ∧ u = form v.1 us1 ∧ (resM tm q0).run P w = .ok u w := by
      cases v0 with
      | tmp t =>
        simp only [resVals] at hv
        split at hv
        · rename_i v vs' ht ho hr
          simp only [Option.some.injEq] at hv
          have htn : t < n := Nat.le_of_ble_eq_true ht
          obtain ⟨us1, Ls1, hval⟩ := opd_ok (a := ⟨tm, []⟩) (x := .tmp t) h (fun s => .inl rfl) (fun t' ht' => by cases ht'; exact htn) ho
          cases q0 with
          | tmp t' =>
            have := Nat.eq_of_beq_eq_true hq0
            subst this
            exact ⟨v, vs', us1, Ls1, _, hr, hv.symm, hval.cells, hval.noOwn, hval.form, rfl⟩
          | cell a b => simp [rvB] at hq0
        · simp at hv
      | cell t g m =>
        simp only [resVals] at hv
        split at hv
        · rename_i c vs' ht ho hr
          split at hv
          · rename_i cs hcs
            simp only [Option.some.injEq] at hv
            have htn : t < n := Nat.le_of_ble_eq_true ht
            obtain ⟨us1, Ls1, hval⟩ := opd_ok (a := ⟨tm, []⟩) (x := .tmp t) h (fun s => .inl rfl) (fun t' ht' => by cases ht'; exact htn) ho
            cases q0 with
            | tmp t' => simp [rvB] at hq0
            | cell t' ty =>
              simp only [rvB, Bool.and_eq_true] at hq0
              obtain ⟨⟨⟨q1, q2⟩, q3⟩, q4⟩ := hq0
              have := Nat.eq_of_beq_eq_true q1
              subst this
              have hm := Nat.eq_of_beq_eq_true q4
              have hg : (tyOf P ty).agg = g := by simpa using q3
              have hlen := hval.cells.len
              match us1, hlen with
              | [u1], _ =>
                have hc := hval.cells.cell 0 c u1 rfl rfl
                obtain ⟨b, o', ws, Ls, k1, k2, k3, k4, k5⟩ := load_ok (a := ⟨tm, []⟩) h (fun s => .inl rfl) hc hcs
                have hf := hval.form
                have hu : tm.getD t' undef = .pointer (some ⟨b, o', none⟩) := by
                  rw [← k1]; exact hf
                refine ⟨_, vs', ws, Ls, _, hr, hv.symm, k4, k5, rfl, ?_⟩
                have := run_loadVar (P := P) q2 k3 (by rw [k2, hm])
                simp only [resM, hu, asAddr, Sem.run_bind, Sem.run_pure, Result.andThen_ok]
                rw [this]
                simp only [partShape, hg]
                cases g <;> rfl
          · simp at hv
        · simp at hv
    obtain ⟨v, vs', us1, Ls1, u, hr, rfl, hc, hno, hu, hrun⟩ := key
    obtain ⟨us, Ls, r, h1, h2, h3, h4⟩ := resVals_ok h hqs hr
    refine ⟨us1 ++ us, fun j => if j < v.2.length then Ls1 j else Ls (j - v.2.length), u :: r, ?_, ?_, ⟨us1, us, rfl, hc.len, hu, h3⟩, ?_⟩
    · refine ⟨by simp [hc.len, h1.len], fun j c u hcj hu => ?_⟩
      simp only [List.flatMap_cons] at hcj
      by_cases hj : j < v.2.length
      · rw [if_pos hj]
        rw [List.getElem?_append_left hj] at hcj
        rw [List.getElem?_append_left (by rw [hc.len]; exact hj)] at hu
        exact hc.cell j c u hcj hu
      · rw [if_neg hj]
        rw [List.getElem?_append_right (by omega)] at hcj
        rw [List.getElem?_append_right (by rw [hc.len]; omega), hc.len] at hu
        exact h1.cell _ c u hcj hu
    · intro c hcm
      simp only [List.flatMap_cons, List.mem_append] at hcm
      rcases hcm with hcm | hcm
      · exact hno c hcm
      · exact h2 c hcm
    · simp only [List.mapM_cons, Sem.run_bind, hrun, Result.andThen_ok, h4, Sem.run_pure]

theorem results_ok {P : Program} {fn : Func} {tm : Array Value} {w : World} {r : List Value} (h : (fn.results.toList.mapM (resM tm)).run P w = .ok r w) : (results fn tm).run P w = .ok (oneOr r) w := by
  have h' : (fn.results.mapM (resM tm)).run P w = .ok r.toArray w := by
    have : fn.results = fn.results.toList.toArray := by simp
    rw [this, List.mapM_toArray]
    simp only [Sem.run_map, h]
    rfl
  unfold results
  simp only [Sem.run_bind]
  have he : ∀ g : ResultVar → Sem Value, (∀ q, g q = resM tm q) → (fn.results.mapM g).run P w = .ok r.toArray w := fun g hg => by rw [show g = resM tm from funext hg]; exact h'
  rw [he _ (fun q => by cases q <;> rfl)]
  simp only [Result.andThen_ok]
  match r with
  | [] => rfl
  | [u] => rfl
  | _ :: _ :: _ => rfl

theorem parts_tuple : ∀ {vs : List Val} {us r : List Value}, Parts vs us r → vs.all oneOk = true → r = cutVals (vs.map fun v => match v.1 with | .one => none | _ => some v.2.length) us
  | [], us, [], h, _ => by simp [cutVals]
  | [], us, _ :: _, h, _ => by simp [Parts] at h
  | v :: vs, us, [], h, _ => by simp [Parts] at h
  | v :: vs, us, u :: r, h, ha => by
    obtain ⟨us1, us2, rfl, h1, h2, h3⟩ := h
    simp only [List.all_cons, Bool.and_eq_true] at ha
    have ih := parts_tuple h3 ha.2
    have hv := ha.1
    obtain ⟨sh, cs⟩ := v
    simp only [oneOk] at hv
    cases sh with
    | one =>
      simp only at hv
      have hl := Nat.eq_of_beq_eq_true hv
      simp only at h1
      rw [hl] at h1
      match us1, h1 with
      | [u1], _ =>
        simp only [List.map_cons, cutVals, List.cons_append, List.nil_append, List.headD_cons, List.drop_succ_cons, List.drop_zero]
        rw [h2, ih]
        rfl
    | agg =>
      simp only at h1
      simp only [List.map_cons, cutVals]
      rw [h2, ← h1, List.take_left, List.drop_left, ih]
      rfl
    | _ => simp at hv

theorem resU_form {vs : List Val} {us r : List Value} {sh : Sh} (h : Parts vs us r) (hs : tupSh vs = some sh) : oneOr r = form sh us ∧ sh ≠ .dead ∧ ∀ bv, sh ≠ .box bv := by
  unfold tupSh at hs
  split at hs
  · rename_i v
    split at hs
    · rename_i hv
      simp only [Option.some.injEq] at hs
      subst hs
      match r, h with
      | [u], h =>
        obtain ⟨us1, us2, rfl, h1, h2, h3⟩ := h
        simp only [Parts] at h3
        subst h3
        simp only [List.append_nil]
        refine ⟨h2, ?_, ?_⟩
        · intro q; rw [oneOk, q] at hv; simp at hv
        · intro bv q; rw [oneOk, q] at hv; simp at hv
      | [], h => simp [Parts] at h
      | _ :: _ :: _, h =>
        obtain ⟨_, _, _, _, _, h3⟩ := h
        simp [Parts] at h3
    · simp at hs
  · rename_i hne
    split at hs
    · rename_i ha
      simp only [Option.some.injEq] at hs
      subst hs
      have := parts_tuple h ha
      refine ⟨?_, by simp, by simp⟩
      have hr : ∀ u, r ≠ [u] := by
        intro u q
        subst q
        match vs, h with
        | [v], _ => exact hne v rfl
        | [], h => simp [Parts] at h
        | _ :: _ :: _, h =>
          obtain ⟨_, _, _, _, _, h3⟩ := h
          simp [Parts] at h3
      have hone : oneOr r = .tuple r.toArray := by
        match r, hr with
        | [], _ => rfl
        | [u], hr => exact absurd rfl (hr u)
        | _ :: _ :: _, _ => rfl
      rw [hone, this]
      rfl
    · simp at hs

theorem resCs_get {get : Nat → Slot} : ∀ {cs cs' : List C}, resCs get cs = some cs' → cs'.length = cs.length ∧ ∀ (j : Nat) c c', cs[j]? = some c → cs'[j]? = some c' → resC get c = some c'
  | [], cs', h => by
    simp only [resCs, Option.some.injEq] at h
    subst h
    exact ⟨rfl, fun j c c' hc => by simp at hc⟩
  | c :: r, cs', h => by
    simp only [resCs] at h
    split at h
    · rename_i c1 r1 h1 h2
      simp only [Option.some.injEq] at h
      subst h
      obtain ⟨g1, g2⟩ := resCs_get h2
      refine ⟨by simp [g1], fun j a b ha hb => ?_⟩
      cases j with
      | zero =>
        simp only [List.getElem?_cons_zero, Option.some.injEq] at ha hb
        subst ha hb
        exact h1
      | succ j => exact g2 j a b (by simpa using ha) (by simpa using hb)
    · simp at h

theorem deepAt_mem : ∀ {cs : List C} {s j rv sv : Nat} {q : Nat × Nat} {p : Path} {lo hi : Option Nat} {k : K}, (C.ref s j rv sv (q :: p) lo hi k) ∈ cs → (s, j) ∈ deepAt cs
  | [], _, _, _, _, _, _, _, _, _, h => by simp at h
  | c :: r, s, j, rv, sv, q, p, lo, hi, k, h => by
    simp only [List.mem_cons] at h
    rcases h with rfl | h
    · simp [deepAt]
    · have := deepAt_mem h
      cases c with
      | ref s' j' rv' sv' p' lo' hi' k' =>
        cases p' with
        | nil => simpa [deepAt] using this
        | cons a p' => simp only [deepAt, List.mem_cons]; exact .inr this
      | _ => simpa [deepAt] using this

def resForm (sh : Sh) (us : List Value) (bk : Nat) : Value := match sh with
  | .box _ => .pointer (some ⟨bk, 0, none⟩)
  | sh => form sh us

/-- What a function answers, out of its slots at the end. -/
structure Ret (P : Program) (fn : Func) (n : Nat) (e1 : Env) (tm : Array Value) (w : World) (G1 : Gh) (sh : Sh) (cs : List C) (e2 : Env) (G2 : Gh) (H : List Nat) (us : List Value) (Ls : Nat → LT) (bk : Nat) : Prop where
  inv : Inv n e2 tm w G2
  held : Held n e1.length w w G1 G2
  len2 : e2.length = e1.length
  hand : Hand w e1 G1 e2 G2 H
  owner : ∀ b ∈ H, ∀ t, G2.ow b = some t → t < e2.length
  len : us.length = cs.length
  cell : ∀ (j : Nat) c v, cs[j]? = some c → us[j]? = some v → ResOk w G2.ow c v (Ls j)
  fp : boxB sh bk ++ fpCells Ls 0 cs = H
  res : (results fn tm).run P w = .ok (resForm sh us bk) w
  alive : sh ≠ .dead
  box : ∀ bv, sh = .box bv → ∃ ty, w.heap[bk]? = some (.cells us.toArray ty (0, 0))

theorem outs_none {n : Nat} {get get' : Nat → Slot} : ∀ {args : List Val} {i : Nat}, outsOf n get [] i args = outsOf n get' [] i args
  | [], i => rfl
  | (sh, cs) :: r, i => by simp only [outsOf, outs_none (n := n) (get := get) (get' := get') (args := r), List.getD_nil, Bool.false_eq_true, if_false]

theorem resCs_dead : ∀ {cs cs' : List C}, resCs (fun _ => {}) cs = some cs' → cs' = cs ∧ ∀ c ∈ cs, (∃ k x, c = .dat k x) ∨ c = .nil ∨ (∃ rv sv d k l, c = .own rv sv d k l) ∨ ∃ f, c = .fn f []
  | [], cs', h => by
    simp only [resCs, Option.some.injEq] at h
    exact ⟨h.symm, fun c hc => by simp at hc⟩
  | c :: r, cs', h => by
    simp only [resCs] at h
    split at h
    · rename_i c1 r1 h1 h2
      simp only [Option.some.injEq] at h
      subst h
      obtain ⟨g1, g2⟩ := resCs_dead h2
      subst g1
      have : c1 = c ∧ ((∃ k x, c = .dat k x) ∨ c = .nil ∨ (∃ rv sv d k l, c = .own rv sv d k l) ∨ ∃ f, c = .fn f []) := by
        cases c with
        | dat k x => simp only [resC, Option.some.injEq] at h1; exact ⟨h1.symm, .inl ⟨k, x, rfl⟩⟩
        | nil => simp only [resC, Option.some.injEq] at h1; exact ⟨h1.symm, .inr (.inl rfl)⟩
        | own rv sv d k l => simp only [resC, Option.some.injEq] at h1; exact ⟨h1.symm, .inr (.inr (.inl ⟨rv, sv, d, k, l, rfl⟩))⟩
        | fn f caps =>
          cases caps with
          | nil => simp only [resC, Option.some.injEq] at h1; exact ⟨h1.symm, .inr (.inr (.inr ⟨f, rfl⟩))⟩
          | cons _ _ => simp [resC] at h1
        | ref s j rv sv p lo hi k => cases p <;> simp [resC, content] at h1
        | _ => simp [resC] at h1
      refine ⟨by rw [this.1], fun x hx => ?_⟩
      simp only [List.mem_cons] at hx
      rcases hx with rfl | hx
      · exact this.2
      · exact g2 x hx
    · simp at h

theorem ret_box1 {P : Program} {fn : Func} {n : Nat} {t1 t0 bv : Nat} (hrs : rvsB P fn.results.toList [.tmp t1] = true) {e1 : Env} {tm : Array Value} {w : World} {G1 : Gh} (h : Inv n e1 tm w G1) (htn : t1 < n)
    (hop : opd e1.get (.tmp t1) = some (.one, [.bptr t0 bv 0])) (hsh : (e1.get t0).sh = .box bv) (hkind : ∀ c ∈ (e1.get t0).cs, (∃ k x, c = .dat k x) ∨ c = .nil ∨ (∃ rv sv d k l, c = .own rv sv d k l) ∨ ∃ f, c = .fn f []) :
    ∃ e2 G2 H us Ls bk, Ret P fn n e1 tm w G1 (.box 0) (e1.get t0).cs e2 G2 H us Ls bk := by
  have htl : t0 < e1.length := by
    rcases Nat.lt_or_ge t0 e1.length with q | q
    · exact q
    · rw [get_out (by omega)] at hsh; cases hsh
  have hptr : tm.getD t1 undef = .pointer (some ⟨G1.bk t0, 0, none⟩) := by
    obtain ⟨us1, Ls1, hval⟩ := opd_ok (a := ⟨tm, []⟩) (x := .tmp t1) h (fun s => .inl rfl) (fun t' ht' => by cases ht'; exact htn) hop
    have hlen := hval.cells.len
    match us1, hlen with
    | [u1], _ =>
      have hc := hval.cells.cell 0 _ u1 rfl rfl
      have hf := hval.form
      have h1 : u1 = .pointer (some ⟨G1.bk t0, 0, none⟩) := hc.2.1 hsh
      rw [← h1]
      exact hf
  have hs := h.slot t0
  have hne : (e1.get t0).sh ≠ .dead := by rw [hsh]; simp
  obtain ⟨_, ty, hblk⟩ := hs.box bv hsh
  have hfps : fpS G1 t0 (e1.get t0) = boxB (.box 0) (G1.bk t0) ++ fpCells (G1.lt t0) 0 (e1.get t0).cs := by simp only [fpS, hsh, boxB]
  have hset : Env.get (e1.set t0 { e1.get t0 with sh := .dead, cs := [] }) t0 = { e1.get t0 with sh := .dead, cs := [] } := get_set_self htl
  have hinv : Inv n (e1.set t0 { e1.get t0 with sh := .dead, cs := [] }) tm w G1 := by
    refine h.turn t0 _ h.size (fun _ _ => ⟨rfl, fun _ => rfl, rfl⟩) (fun _ _ _ => rfl) (fun _ => TM.fresh (by rw [hset]; exact Nat.le_refl _) (fun j rv sv d k l hc => by rw [hset] at hc; simp at hc) (fun bv' hc => by rw [hset] at hc; simp at hc)) still_refl
      (fun t' _ b hb' => ⟨rfl, (h.slot t').own b hb'⟩) (fun _ => ?_) h.lt
    refine ⟨fun _ => by rw [hset]; exact trivial, fun bv' hc => ?_, fun hc => ?_, fun hc => ?_, fun hc => ?_, ?_, fun b hb' => ?_, fun _ => by rw [hset]⟩
    · rw [hset] at hc; simp at hc
    · rw [hset] at hc; simp at hc
    · rw [hset] at hc; simp at hc
    · rw [hset] at hc; simp at hc
    · rw [hset]; simp [fpS]
    · rw [hset] at hb'; simp [fpS] at hb'
  have hres : fn.results.toList = [.tmp t1] := by
    cases hq : fn.results.toList with
    | nil => rw [hq] at hrs; simp [rvsB] at hrs
    | cons q qs =>
      rw [hq] at hrs
      simp only [rvsB, Bool.and_eq_true] at hrs
      obtain ⟨h1, h2⟩ := hrs
      cases qs with
      | cons _ _ => simp [rvsB] at h2
      | nil =>
        cases q with
        | tmp a =>
          have := Nat.eq_of_beq_eq_true h1
          rw [this]
        | cell a b => simp [rvB] at h1
  refine ⟨_, G1, fpS G1 t0 (e1.get t0), G1.vs t0, G1.lt t0, G1.bk t0, hinv, Held.refl, by simp, ⟨hs.nodup, fun b hb' => ⟨fun t' ht' => ?_, by rw [hs.own b hb']; simp, h.lt b t0 (hs.own b hb'), fun hl => hl t0 hb'⟩⟩, fun b hb' u hu => ?_, hs.len hne, fun j c v hc hv => ?_, hfps.symm, ?_, by simp, fun bv' _ => ⟨ty, hblk⟩⟩
  · by_cases g : t' = t0
    · subst g
      rw [hset] at ht'
      simp [fpS] at ht'
    · rw [get_set_ne g] at ht'
      have h1 := (h.slot t').own b ht'
      rw [hs.own b hb'] at h1
      simp only [Option.some.injEq] at h1
      exact g h1.symm
  · rw [hs.own b hb'] at hu
    simp only [Option.some.injEq] at hu
    rw [← hu]
    simpa using htl
  · have hcell := hs.cells hne j c v hc hv
    rcases hkind c (List.mem_of_getElem? hc) with ⟨k, x, rfl⟩ | rfl | ⟨rv, sv, d, k, l, rfl⟩ | ⟨f, rfl⟩
    · exact hcell
    · exact hcell
    · exact hcell
    · obtain ⟨us', Ls', k1, k2, _⟩ := hcell
      obtain rfl := List.eq_nil_of_length_eq_zero k2
      exact k1
  · have hu : tm.getD t1 undef = .pointer (some ⟨G1.bk t0, 0, none⟩) := hptr
    have := results_ok (P := P) (fn := fn) (tm := tm) (w := w) (r := [.pointer (some ⟨G1.bk t0, 0, none⟩)]) (by rw [hres]; simp only [List.mapM_cons, List.mapM_nil, resM, hu]; rfl)
    exact this

/-- A box is answered. -/
theorem ret_box {P : Program} {fn : Func} {n : Nat} {rs : List RV} (hrs : rvsB P fn.results.toList rs = true) {md : List Bool} {e1 : Env} {tm : Array Value} {w : World} {G1 : Gh} (h : Inv n e1 tm w G1) {t : Nat} {cs : List C}
    (hb : retBox n rs md e1 = some (t, cs)) : md = [] ∧ ∃ e2 G2 H us Ls bk, Ret P fn n e1 tm w G1 (.box 0) cs e2 G2 H us Ls bk := by
  unfold retBox at hb
  split at hb
  · rename_i t1
    split at hb
    · rename_i t0 bv0 j ht hop
      split at hb
      · rename_i bv hsh
        split at hb
        · rename_i hbv hj
          have hbv := Nat.eq_of_beq_eq_true hbv
          have hj := Nat.eq_of_beq_eq_true hj
          subst hbv hj
          cases hcs : resCs (fun _ => {}) (e1.get t0).cs with
          | none => rw [hcs] at hb; simp at hb
          | some cs0 =>
            rw [hcs] at hb
            simp only [Option.map_some, Option.some.injEq, Prod.mk.injEq] at hb
            obtain ⟨rfl, rfl⟩ := hb
            obtain ⟨rfl, hkind⟩ := resCs_dead hcs
            have htn : t1 < n := Nat.le_of_ble_eq_true ht
            exact ⟨rfl, ret_box1 hrs h htn hop hsh hkind⟩
        · simp at hb
      · simp at hb
    · simp at hb
  · simp at hb

theorem ret_ok {P : Program} {fn : Func} {n : Nat} {rs : List RV} (hrs : rvsB P fn.results.toList rs = true) {md : List Bool} {args : List Val} {e1 : Env} {tm : Array Value} {w : World} {G1 : Gh} (h : Inv n e1 tm w G1) {sh : Sh} {cs : List C} {os : List (List C)}
    (hr : retOf n rs md args e1 = some ((sh, cs), os)) : ∃ e2 G2 H us Ls bk, Ret P fn n e1 tm w G1 sh cs e2 G2 H us Ls bk ∧ outsOf n e2.get md 0 args = some os := by
  unfold retOf at hr
  cases hbx : retBox n rs md e1 with
  | some q =>
    obtain ⟨t, cs0⟩ := q
    rw [hbx] at hr
    simp only at hr
    cases ho : outsOf n e1.get md 0 args with
    | none => rw [ho] at hr; simp at hr
    | some os0 =>
      rw [ho] at hr
      simp only [Option.map_some, Option.some.injEq, Prod.mk.injEq] at hr
      obtain ⟨⟨rfl, rfl⟩, rfl⟩ := hr
      obtain ⟨rfl, e2, G2, H, us, Ls, bk, hR⟩ := ret_box hrs h hbx
      exact ⟨e2, G2, H, us, Ls, bk, hR, by rw [← ho]; exact outs_none⟩
  | none =>
  rw [hbx] at hr
  simp only at hr
  split at hr
  · simp at hr
  · rename_i vs hvs
    split at hr
    · rename_i sh' cs' os' h1 h2 h3
      simp only [Option.some.injEq, Prod.mk.injEq] at hr
      obtain ⟨⟨rfl, rfl⟩, rfl⟩ := hr
      obtain ⟨us, Ls, r, q1, q2, q3, q4⟩ := resVals_ok h hrs hvs
      obtain ⟨r1, r2, r3⟩ := resU_form q3 h1
      have ht0 : TrOk e1 { get := e1.get } e1 := TrOk.start (fun s => .inl rfl) (fun _ _ => rfl)
      obtain ⟨e', H, Ls', tk⟩ := take_ok [] (vs.flatMap (·.2)) h ht0 q1 q2
      have he' := tk.tr.puts
      rw [he'] at h3
      obtain ⟨G2, f1, f2, f3⟩ := freezeAll (ps := deepAt (Tr.take [] { get := e1.get } (vs.flatMap (·.2))).2) tk.inv
      obtain ⟨g1, g2⟩ := resCs_get h2
      -- each cell, its place
      let LL : Nat → LT := fun j => match (Tr.take [] { get := e1.get } (vs.flatMap (·.2))).2[j]? with
        | some (.ref s i rv sv (q :: p) lo hi k) => match content (Tr.take [] { get := e1.get } (vs.flatMap (·.2))).1.at s i rv sv (q :: p) k with
          | some x => match (e'.get s).cs.getD i .dead with
            | .own _ _ _ k0 _ => cutL k.size lo hi x.2.length (subL k0 (G1.lt s i) (q :: p))
            | _ => .leaf
          | none => .leaf
        | _ => Ls' j
      have hcell : ∀ (j : Nat) c v, cs'[j]? = some c → us[j]? = some v → ResOk w G2.ow c v (LL j) := by
        intro j c v hc hv
        have hjl : j < (Tr.take [] { get := e1.get } (vs.flatMap (·.2))).2.length := by
          rw [← g1]; exact (List.getElem?_eq_some_iff.1 hc).1
        obtain ⟨c0, hc0⟩ : ∃ c0, (Tr.take [] { get := e1.get } (vs.flatMap (·.2))).2[j]? = some c0 := ⟨_, List.getElem?_eq_getElem hjl⟩
        have hres := g2 j c0 c hc0 hc
        have hnew := tk.new j c0 v hc0 hv
        have hmem := List.mem_of_getElem? hc0
        cases c0 with
        | dat k x =>
          simp only [resC, Option.some.injEq] at hres
          subst hres
          have hL : LL j = Ls' j := by simp only [LL, hc0]
          rw [hL]
          exact ⟨hnew.1, fun b hb => f2.none b (hnew.2 b hb)⟩
        | nil =>
          simp only [resC, Option.some.injEq] at hres
          subst hres
          exact hnew
        | own rv sv d k l =>
          simp only [resC, Option.some.injEq] at hres
          subst hres
          have hL : LL j = Ls' j := by simp only [LL, hc0]
          rw [hL]
          exact ⟨hnew.1, fun hd b hb => f2.none b (hnew.2 hd b hb).1⟩
        | fn f caps =>
          cases caps with
          | nil =>
            simp only [resC, Option.some.injEq] at hres
            subst hres
            obtain ⟨us', Ls'', k1, k2, _⟩ := hnew
            obtain rfl := List.eq_nil_of_length_eq_zero k2
            exact k1
          | cons _ _ => simp [resC] at hres
        | ref s i rv sv p lo hi k =>
          cases p with
          | nil => simp [resC] at hres
          | cons q p =>
            simp only [resC] at hres
            cases hcon : content (Tr.take [] { get := e1.get } (vs.flatMap (·.2))).1.at s i rv sv (q :: p) k with
            | none => rw [hcon] at hres; simp at hres
            | some x =>
              obtain ⟨d, l⟩ := x
              rw [hcon] at hres
              simp only [Option.map_some, Option.some.injEq] at hres
              subst hres
              obtain ⟨sv', k0, l0, m1, m2, m3⟩ := content_ok tk.tr.sees hcon
              obtain ⟨n1, n2, n3, n4⟩ := ref_reads (L := Ls' j) tk.inv hnew m1 m2 m3
              have hL : LL j = cutL k.size lo hi l.length (subL k0 (G1.lt s i) (q :: p)) := by
                simp only [LL, hc0, hcon, getD_some m1]
              rw [hL]
              refine ⟨n3.rep, fun b hb => ?_⟩
              have hsub := (cutL_sublist k k.size lo hi l.length (subL k0 (G1.lt s i) (q :: p))).subset hb
              have hin := subL_inner (q :: p) (by simp) k0 l0 (G1.lt s i) n2 b
              rw [m3] at hin
              exact f3 s i rv sv' d k0 l0 (deepAt_mem hmem) m1 b (hin hsub)
        | _ => simp [resC] at hres
      have hfp : fpCells LL 0 cs' = H := by
        rw [← tk.fp]
        refine fpCells_congr g1 fun j c0 c hc0 hc => ?_
        have hres := g2 j c0 c hc0 hc
        rw [Nat.zero_add]
        cases c0 with
        | own rv sv d k l =>
          simp only [resC, Option.some.injEq] at hres
          subst hres
          have hL : LL j = Ls' j := by simp only [LL, hc0]
          rw [hL]
        | dat k x => simp only [resC, Option.some.injEq] at hres; subst hres; simp [ownB]
        | nil => simp only [resC, Option.some.injEq] at hres; subst hres; simp [ownB]
        | fn f caps =>
          cases caps with
          | nil => simp only [resC, Option.some.injEq] at hres; subst hres; simp [ownB]
          | cons _ _ => simp [resC] at hres
        | ref s i rv sv p lo hi k =>
          cases p with
          | nil => simp [resC] at hres
          | cons q p =>
            simp only [resC] at hres
            cases hcon : content (Tr.take [] { get := e1.get } (vs.flatMap (·.2))).1.at s i rv sv (q :: p) k with
            | none => rw [hcon] at hres; simp at hres
            | some x =>
              rw [hcon] at hres
              simp only [Option.map_some, Option.some.injEq] at hres
              subst hres
              simp [ownB]
        | _ => simp [resC] at hres
      have hx := tk.ext.trans f2
      have hB : boxB sh' 0 = [] := by cases hq : sh' <;> simp_all [boxB]
      have hF : resForm sh' us 0 = form sh' us := by cases hq : sh' <;> simp_all [resForm]
      exact ⟨_, G2, H, us, LL, 0, ⟨f1, hx.held h, hx.len, tk.hand.ext f2, (tk.hand.ext f2).owner h hx, by rw [tk.len, g1], hcell, by rw [hB, hfp]; rfl, by rw [hF, ← r1]; exact results_ok q4, r2, fun bv q => absurd q (r3 bv)⟩, h3⟩
    · simp at hr

end Go.Mach
/- The machine, part ni: what is handed to a function that only reads. No condition: definitions and lemmas. -/
namespace Go.Mach
set_option linter.unusedVariables false
set_option linter.unusedSimpArgs false

/-- What is proved of a function of the program. -/
def FnOk (P : Program) [Tabs P] (f : Nat) (t : FEnt) : Prop :=
  t.args.length ≤ t.n ∧ ∃ fn, P.funcs[f]? = some fn ∧ fn.body.isNone = false ∧ (fn.name == "runtime.NumGoroutine") = false ∧ rvsB P fn.results.toList t.results = true ∧
  ∀ (d : AsT t.args) (b : t.out.T), t.T d = some b → (retOf t.n t.results t.md (encA t.args d) (t.out.enc b)).isSome = true → ∀ (us : List Value) (w : World) (G : Gh), us.length = t.args.length →
    Inv t.n (startE t.n t.md (encA t.args d)) (us.toArray ++ Array.replicate (t.n - us.length) undef) w G → Laid P w G →
    Calls P f us.toArray w fun en w' => ∃ tm1 G1 u, en = .returned u ∧ (results fn tm1).run P w' = .ok u w' ∧ Inv t.n (t.out.enc b) tm1 w' G1 ∧ Held t.n (t.n + 2 * t.args.length) w w' G G1 ∧ w.heap.size ≤ w'.heap.size ∧
      (t.out.enc b).length = t.n + 2 * t.args.length ∧ SameEnv w w'

def BookOk (P : Program) [Tabs P] : Book → Prop
  | [] => True
  | (f, t) :: r => FnOk P f t ∧ BookOk P r

/-! ### Cells that nobody writes -/
theorem snapIns_get : ∀ {cs cs' : List C}, snapIns cs = some cs' → cs'.length = cs.length ∧ ∀ (j : Nat) c c', cs[j]? = some c → cs'[j]? = some c' → snapIn c = some c'
  | [], cs', h => by
    simp only [snapIns, Option.some.injEq] at h
    subst h
    exact ⟨rfl, fun j c c' hc => by simp at hc⟩
  | c :: r, cs', h => by
    simp only [snapIns] at h
    split at h
    · rename_i c1 r1 h1 h2
      simp only [Option.some.injEq] at h
      subst h
      obtain ⟨g1, g2⟩ := snapIns_get h2
      refine ⟨by simp [g1], fun j a b ha hb => ?_⟩
      cases j with
      | zero =>
        simp only [List.getElem?_cons_zero, Option.some.injEq] at ha hb
        subst ha hb
        exact h1
      | succ j => exact g2 j a b (by simpa using ha) (by simpa using hb)
    · simp at h

section snap
variable {n : Nat} {e : Env} {tm : Array Value} {w : World} {G : Gh}

theorem snap_ok (h : Inv n e tm w G) {get : Nat → Slot} (hs : Sees get e) {c c' : C} {v : Value} {L : LT} (hc : CellOk0 e w G c v L) (hsn : snap get c = some c') (ow : Nat → Option Nat)
    (how : ∀ b, G.ow b = none → ow b = none) (hrt : ∀ b s, G.ow b = some s → s ∈ c.targets → ow b = none) :
    ∃ L', c'.isFn = false ∧ c'.isOwn = false ∧ ∀ e' G', G'.ow = ow → CellOk0 e' w G' c' v L' := by
  cases c with
  | dat k x =>
    simp only [snap, Option.some.injEq] at hsn
    subst hsn
    exact ⟨L, rfl, rfl, fun e' G' hG => ⟨hc.1, fun b hb => by rw [hG]; exact how b (hc.2 b hb)⟩⟩
  | nil =>
    simp only [snap, Option.some.injEq] at hsn
    subst hsn
    exact ⟨L, rfl, rfl, fun e' G' hG => hc⟩
  | pim cs j =>
    simp only [snap, Option.some.injEq] at hsn
    subst hsn
    obtain ⟨b, o, vs, Ls, h1, h2, h3, h4, h5, h6⟩ := hc
    refine ⟨L, rfl, rfl, fun e' G' hG => ⟨b, o, vs, Ls, h1, by rw [hG]; exact how b h2, h3, h4, h5, fun i c u hci hu => ?_⟩⟩
    have := h6 i c u hci hu
    cases c with
    | dat k x => exact ⟨this.1, fun b hb => by rw [hG]; exact how b (this.2 b hb)⟩
    | nil => exact this
    | _ => exact this
  | ref s j rv sv p lo hi k =>
    simp only [snap] at hsn
    cases hcon : content get s j rv sv p k with
    | none => rw [hcon] at hsn; simp at hsn
    | some x =>
      obtain ⟨d, l⟩ := x
      rw [hcon] at hsn
      simp only [Option.map_some, Option.some.injEq] at hsn
      subst hsn
      obtain ⟨sv', k0, l0, m1, m2, m3⟩ := content_ok hs hcon
      have hc' : CellOk e w G (.ref s j rv sv p lo hi k) v L := hc
      obtain ⟨n1, n2, n3, n4⟩ := ref_reads h hc' m1 m2 m3
      obtain ⟨o1, o2, o3⟩ := h.ownBlocks m1
      refine ⟨_, rfl, rfl, fun e' G' hG => ⟨n3.rep, fun b hb => ?_⟩⟩
      have hb' := n4 b hb
      rw [hG]
      have hall : G.ow b = some s ∨ G.ow b = none := by
        cases d with
        | true => exact .inl (o1 b hb')
        | false =>
          rw [fp_list, List.mem_append] at hb'
          rcases hb' with q | q
          · exact .inl (o1 b q)
          · exact .inr (o2 rfl b q)
      rcases hall with q | q
      · exact hrt b s q (by simp [C.targets])
      · exact how b q
  | bptr s bv j =>
    simp only [snap] at hsn
    split at hsn
    · rename_i hsh
      cases hin : snapIns (get s).cs with
      | none => rw [hin] at hsn; simp at hsn
      | some cs' =>
        rw [hin] at hsn
        simp only [Option.map_some, Option.some.injEq] at hsn
        subst hsn
        have hget : get s = e.get s := by
          rcases hs s with q | q
          · exact q
          · rw [q] at hsh; simp at hsh
        rw [hget] at hsh hin
        obtain ⟨h1, h2, h3⟩ := hc
        have hv := h2 hsh
        have hsl := h.slot s
        obtain ⟨_, ty, hblk⟩ := hsl.box bv hsh
        have hne : (e.get s).sh ≠ .dead := by rw [hsh]; simp
        have hlen := hsl.len hne
        obtain ⟨g1, g2⟩ := snapIns_get hin
        have hcell := hsl.cells hne
        have hown : ∀ b, b = G.bk s ∨ b ∈ fpCells (G.lt s) 0 (e.get s).cs → ow b = none := by
          intro b hb
          refine hrt b s ?_ (by simp [C.targets])
          refine hsl.own b ?_
          simp only [fpS, hsh, List.mem_append, List.mem_singleton]
          exact hb
        refine ⟨.leaf, rfl, rfl, fun e' G' hG => ⟨G.bk s, 0, G.vs s, G.lt s, by rw [hv]; simp, by rw [hG]; exact hown _ (.inl rfl), by rw [hblk]; simp, ?_, by rw [hlen, g1], fun i c u hci hu => ?_⟩⟩
        · intro i u hu
          simp only [World.cell?, hblk, Nat.zero_add]
          simpa using hu
        · have hil : i < (e.get s).cs.length := by rw [← g1]; exact (List.getElem?_eq_some_iff.1 hci).1
          obtain ⟨c0, hc0⟩ : ∃ c0, (e.get s).cs[i]? = some c0 := ⟨_, List.getElem?_eq_getElem hil⟩
          have hsi := g2 i c0 c hc0 hci
          have hok := hcell i c0 u hc0 hu
          cases c0 with
          | dat k x =>
            simp only [snapIn, Option.some.injEq] at hsi
            subst hsi
            exact ⟨hok.1, fun b hb => by rw [hG]; exact how b (hok.2 b hb)⟩
          | nil =>
            simp only [snapIn, Option.some.injEq] at hsi
            subst hsi
            exact hok
          | own rv sv d k l =>
            simp only [snapIn, Option.some.injEq] at hsi
            subst hsi
            obtain ⟨k1, k2⟩ := hok
            refine ⟨k1.rep, fun b hb => ?_⟩
            rw [hG]
            cases d with
            | true => exact hown b (.inr (fpCells_mem (i := 0) hc0 (by simpa [ownB] using hb)))
            | false =>
              rw [fp_list, List.mem_append] at hb
              rcases hb with q | q
              · exact hown b (.inr (fpCells_mem (i := 0) hc0 (by simpa [ownB] using q)))
              · exact how b (k2 rfl b q)
          | _ => simp [snapIn] at hsi
    · simp at hsn
  | _ => simp [snap] at hsn

/-- Cells, one by one. -/
theorem snaps_ok (h : Inv n e tm w G) {get : Nat → Slot} (hs : Sees get e) (ow : Nat → Option Nat) (how : ∀ b, G.ow b = none → ow b = none) :
    ∀ {cs cs' : List C} {vs : List Value} {Ls : Nat → LT}, vs.length = cs.length → (∀ (i : Nat) c u, cs[i]? = some c → vs[i]? = some u → CellOk0 e w G c u (Ls i)) →
    cs'.length = cs.length → (∀ (i : Nat) c c', cs[i]? = some c → cs'[i]? = some c' → snap get c = some c') → (∀ b s, G.ow b = some s → s ∈ cs.flatMap C.targets → ow b = none) →
    ∃ Ls' : Nat → LT, ∀ (i : Nat) c u, cs'[i]? = some c → vs[i]? = some u → c.isFn = false ∧ c.isOwn = false ∧ ∀ e' G', G'.ow = ow → CellOk0 e' w G' c u (Ls' i)
  | [], [], vs, Ls, _, _, _, _, _ => ⟨Ls, fun i c u hc => by simp at hc⟩
  | [], _ :: _, vs, Ls, _, _, hl, _, _ => by simp at hl
  | _ :: _, [], vs, Ls, _, _, hl, _, _ => by simp at hl
  | c :: r, c' :: r', vs, Ls, hv, hc, hl, hsn, hrt => by
    match vs, hv with
    | v :: vs, hv =>
      obtain ⟨L', h1, h2, h3⟩ := snap_ok h hs (hc 0 c v rfl rfl) (hsn 0 c c' rfl rfl) ow how (fun b s q1 q2 => hrt b s q1 (by simp [q2]))
      obtain ⟨Ls', g⟩ := snaps_ok h hs ow how (cs := r) (cs' := r') (vs := vs) (Ls := fun i => Ls (i + 1)) (by simpa using hv) (fun i c u a b => hc (i + 1) c u (by simpa using a) (by simpa using b)) (by simpa using hl)
        (fun i c c' a b => hsn (i + 1) c c' (by simpa using a) (by simpa using b)) (fun b s q1 q2 => hrt b s q1 (by simp only [List.flatMap_cons, List.mem_append]; exact .inr q2))
      refine ⟨fun i => match i with | 0 => L' | i + 1 => Ls' i, fun i c u a b => ?_⟩
      cases i with
      | zero =>
        simp only [List.getElem?_cons_zero, Option.some.injEq] at a b
        subst a b
        exact ⟨h1, h2, h3⟩
      | succ i => exact g i c u (by simpa using a) (by simpa using b)

theorem sendCap_nil (t : Tr) (c : C) : sendCap t [] c = snap t.at c := by cases c <;> rfl

theorem sendCaps_get {t : Tr} : ∀ {cs cs' : List C}, sendCaps t [] cs = some cs' → cs'.length = cs.length ∧ ∀ (j : Nat) c c', cs[j]? = some c → cs'[j]? = some c' → snap t.at c = some c'
  | [], cs', h => by
    simp only [sendCaps, Option.some.injEq] at h
    subst h
    exact ⟨rfl, fun j c c' hc => by simp at hc⟩
  | c :: r, cs', h => by
    simp only [sendCaps] at h
    split at h
    · rename_i c1 r1 h1 h2
      simp only [Option.some.injEq] at h
      subst h
      obtain ⟨g1, g2⟩ := sendCaps_get h2
      refine ⟨by simp [g1], fun j a b ha hb => ?_⟩
      cases j with
      | zero =>
        simp only [List.getElem?_cons_zero, Option.some.injEq] at ha hb
        subst ha hb
        rw [← sendCap_nil]
        exact h1
      | succ j => exact g2 j a b (by simpa using ha) (by simpa using hb)
    · simp at h

theorem readCell_nil (f : Nat) (caps : List C) : readCell [] (.fn f caps) = caps.flatMap fun c => match c with | .bptr s _ _ => [s] | c => c.targets := by
  simp only [readCell]
  congr 1

/-- A cell of an argument, sent. -/
theorem sendC_ok (h : Inv n e tm w G) {t : Tr} (hs : Sees t.at e) {c c' : C} {v : Value} {L : LT} (hc : CellOk e w G c v L) (hsn : sendC t [] c = some c') (ow : Nat → Option Nat)
    (how : ∀ b, G.ow b = none → ow b = none) (hrt : ∀ b s, G.ow b = some s → s ∈ readCell [] c → ow b = none) :
    ∃ L', c'.isOwn = false ∧ ∀ e' G', G'.ow = ow → CellOk e' w G' c' v L' := by
  have plain : ∀ c : C, c.isFn = false → CellOk0 e w G c v L → snap t.at c = some c' → (∀ b s, G.ow b = some s → s ∈ c.targets → ow b = none) → ∃ L', c'.isOwn = false ∧ ∀ e' G', G'.ow = ow → CellOk e' w G' c' v L' := by
    intro c hf hc0 hsn0 hrt0
    obtain ⟨L', h1, h2, h3⟩ := snap_ok h hs hc0 hsn0 ow how hrt0
    refine ⟨L', h2, fun e' G' hG => ?_⟩
    have := h3 e' G' hG
    cases c' <;> first | exact this | simp [C.isFn] at h1
  cases c with
  | fn f caps =>
    simp only [sendC] at hsn
    cases hcs : sendCaps t [] caps with
    | none => rw [hcs] at hsn; simp at hsn
    | some caps' =>
      rw [hcs] at hsn
      simp only [Option.map_some, Option.some.injEq] at hsn
      subst hsn
      obtain ⟨us, Ls, h1, h2, h3⟩ := hc
      obtain ⟨g1, g2⟩ := sendCaps_get hcs
      obtain ⟨Ls', g3⟩ := snaps_ok h hs ow how h2 (fun i c u a b => (h3 i c u a b).2.2) g1 g2 (fun b s q1 q2 => hrt b s q1 (by
        rw [readCell_nil]
        simp only [List.mem_flatMap] at q2 ⊢
        obtain ⟨c, k1, k2⟩ := q2
        refine ⟨c, k1, ?_⟩
        cases c <;> first | exact k2 | simpa [C.targets] using k2))
      exact ⟨L, rfl, fun e' G' hG => ⟨us, Ls', h1, by rw [h2, g1], fun i c u a b => ⟨(g3 i c u a b).1, (g3 i c u a b).2.1, (g3 i c u a b).2.2 e' G' hG⟩⟩⟩
  | dead => simp [sendC, snap] at hsn
  | nil => exact plain .nil rfl hc hsn hrt
  | dat k x => exact plain (.dat k x) rfl hc hsn hrt
  | own _ _ _ _ _ => simp [sendC, snap] at hsn
  | ref s j rv sv p lo hi k => exact plain (.ref s j rv sv p lo hi k) rfl hc hsn hrt
  | bptr s bv j => exact plain (.bptr s bv j) rfl hc hsn hrt
  | aptr _ _ _ _ _ _ _ _ => simp [sendC, snap] at hsn
  | pim cs j => exact plain (.pim cs j) rfl hc hsn hrt

theorem sendCs_ok (h : Inv n e tm w G) {t : Tr} (hs : Sees t.at e) (ow : Nat → Option Nat) (how : ∀ b, G.ow b = none → ow b = none) :
    ∀ {cs cs' : List C} {vs : List Value} {Ls : Nat → LT}, CellsOk e w G cs vs Ls → sendCs t [] cs = some cs' → (∀ b s, G.ow b = some s → s ∈ cs.flatMap (readCell []) → ow b = none) →
    cs'.length = cs.length ∧ ∃ Ls' : Nat → LT, ∀ (i : Nat) c u, cs'[i]? = some c → vs[i]? = some u → c.isOwn = false ∧ ∀ e' G', G'.ow = ow → CellOk e' w G' c u (Ls' i)
  | [], cs', vs, Ls, hc, hsn, hrt => by
    simp only [sendCs, Option.some.injEq] at hsn
    subst hsn
    exact ⟨rfl, Ls, fun i c u a => by simp at a⟩
  | c :: r, cs', vs, Ls, hc, hsn, hrt => by
    simp only [sendCs] at hsn
    split at hsn
    · rename_i c1 r1 h1 h2
      simp only [Option.some.injEq] at hsn
      subst hsn
      match vs, hc with
      | [], hc => have := hc.len; simp at this
      | v :: vs, hc =>
        have hcr : CellsOk e w G r vs (fun j => Ls (1 + j)) := by simpa using hc.drop 1
        obtain ⟨L', k1, k2⟩ := sendC_ok h hs (hc.cell 0 c v rfl rfl) h1 ow how (fun b s q1 q2 => hrt b s q1 (by simp [q2]))
        obtain ⟨g1, Ls', g2⟩ := sendCs_ok h hs ow how hcr h2 (fun b s q1 q2 => hrt b s q1 (by simp only [List.flatMap_cons, List.mem_append]; exact .inr q2))
        refine ⟨by simp [g1], fun i => match i with | 0 => L' | i + 1 => Ls' i, fun i c u a b => ?_⟩
        cases i with
        | zero =>
          simp only [List.getElem?_cons_zero, Option.some.injEq] at a b
          subst a b
          exact ⟨k1, k2⟩
        | succ i => exact g2 i c u (by simpa using a) (by simpa using b)
    · simp at hsn

end snap

/-! ### Nothing lent -/
theorem send_nil {t : Tr} {lent : List (Nat × Nat)} : ∀ {args : List Val} {i : Nat} {q : Sent}, send t [] lent i args = some q → q.lends = List.replicate args.length [] ∧ q.vals.length = args.length ∧
    ∀ (j : Nat) v v', args[j]? = some v → q.vals[j]? = some v' → v'.1 = v.1 ∧ sendCs t lent v.2 = some v'.2
  | [], i, q, h => by
    simp only [send, Option.some.injEq] at h
    subst h
    exact ⟨rfl, rfl, fun j v v' a => by simp at a⟩
  | (sh, cs) :: r, i, q, h => by
    simp only [send] at h
    split at h
    · simp at h
    · rename_i q1 h1
      obtain ⟨g1, g2, g3⟩ := send_nil h1
      simp only [List.getD_nil, Bool.false_eq_true, if_false] at h
      split at h
      · rename_i cs' hcs
        simp only [Option.some.injEq] at h
        subst h
        refine ⟨by simp [g1, List.replicate_succ], by simp [g2], fun j v v' a b => ?_⟩
        cases j with
        | zero =>
          simp only [List.getElem?_cons_zero, Option.some.injEq] at a b
          subst a b
          exact ⟨rfl, hcs⟩
        | succ j => exact g3 j v v' (by simpa using a) (by simpa using b)
      · simp at h

/-- One cell that is lent: what is sent, and where it lies. -/
def LendOk (t : Tr) (c c' : C) (l : Option Lend) : Prop :=
  (∃ k x, c = .dat k x ∧ c' = .dat k x ∧ l = none ∧ ∀ k', k ≠ .list k') ∨
  (∃ s j rv sv p k rv' sv' d k0 l0 x, c = .ref s j rv sv p none none k ∧ (t.at s).cs.getD j .dead = .own rv' sv' d k0 l0 ∧ rv = rv' ∧ (p = [] ∨ (svOk p sv sv' = true ∧ d = true)) ∧
    castL (getP k0 l0 p).1 (getP k0 l0 p).2 k = some x ∧ c' = .own 0 0 d k x ∧ l = some (.cell s j p k))

theorem lendCells_get {t : Tr} : ∀ {cs cs' : List C} {ls : List (Option Lend)}, lendCells t cs = some (cs', ls) → cs'.length = cs.length ∧ ls.length = cs.length ∧
    ∀ (j : Nat) c c' l, cs[j]? = some c → cs'[j]? = some c' → ls[j]? = some l → LendOk t c c' l
  | [], cs', ls, h => by
    simp only [lendCells, Option.some.injEq, Prod.mk.injEq] at h
    obtain ⟨rfl, rfl⟩ := h
    exact ⟨rfl, rfl, fun j c c' l a => by simp at a⟩
  | c :: r, cs', ls, h => by
    simp only [lendCells] at h
    split at h
    · simp at h
    · rename_i cs1 ls1 h1
      obtain ⟨g1, g2, g3⟩ := lendCells_get h1
      have fin : ∀ c' l, cs' = c' :: cs1 → ls = l :: ls1 → LendOk t c c' l → cs'.length = (c :: r).length ∧ ls.length = (c :: r).length ∧
          ∀ (j : Nat) x x' y, (c :: r)[j]? = some x → cs'[j]? = some x' → ls[j]? = some y → LendOk t x x' y := by
        rintro c' l rfl rfl hl
        refine ⟨by simp [g1], by simp [g2], fun j x x' y a b d => ?_⟩
        cases j with
        | zero =>
          simp only [List.getElem?_cons_zero, Option.some.injEq] at a b d
          subst a b d
          exact hl
        | succ j => exact g3 j x x' y (by simpa using a) (by simpa using b) (by simpa using d)
      split at h
      · simp at h
      · rename_i k x hk
        simp only [Option.some.injEq, Prod.mk.injEq] at h
        exact fin _ _ h.1.symm h.2.symm (.inl ⟨k, x, rfl, rfl, rfl, fun k' q => by subst q; exact hk _ _ rfl HEq.rfl⟩)
      · rename_i s j rv sv p k
        split at h
        · rename_i rv' sv' d k0 l0 hat
          split at h
          · rename_i hc
            split at h
            · rename_i x hx
              simp only [Option.some.injEq, Prod.mk.injEq] at h
              exact fin _ _ h.1.symm h.2.symm (.inr (⟨s, j, rv, sv, p, k, rv', sv', d, k0, l0, x, rfl, hat, hc.1, hc.2, hx, rfl, rfl⟩))
            · simp at h
          · simp at h
        · simp at h
      · simp at h

/-- What each argument sends. -/
theorem send_get {t : Tr} {md : List Bool} : ∀ {args : List Val} {i : Nat} {q : Sent}, send t md [] i args = some q → q.vals.length = args.length ∧ q.lends.length = args.length ∧
    ∀ (j : Nat) v v' ls, args[j]? = some v → q.vals[j]? = some v' → q.lends[j]? = some ls →
      (md.getD (i + j) false = false ∧ v'.1 = v.1 ∧ sendCs t [] v.2 = some v'.2 ∧ ls = []) ∨
      (md.getD (i + j) false = true ∧ ∃ s bv cs, v = (.one, [.bptr s bv 0]) ∧ (t.at s).sh = .box bv ∧ ownBox (t.at s).cs = some cs ∧ v' = (.box 0, cs) ∧ ls = [some (.box s)]) ∨
      (md.getD (i + j) false = true ∧ v'.1 = v.1 ∧ lendCells t v.2 = some (v'.2, ls))
  | [], i, q, h => by
    simp only [send, Option.some.injEq] at h
    subst h
    exact ⟨rfl, rfl, fun j v v' ls a => by simp at a⟩
  | (sh, cs) :: r, i, q, h => by
    simp only [send] at h
    split at h
    · simp at h
    · rename_i q1 h1
      obtain ⟨g1, g2, g3⟩ := send_get h1
      have fin : ∀ v' ls, q = { vals := v' :: q1.vals, lends := ls :: q1.lends } →
          ((md.getD i false = false ∧ v'.1 = sh ∧ sendCs t [] cs = some v'.2 ∧ ls = []) ∨
            (md.getD i false = true ∧ ∃ s bv cs', ((sh, cs) : Val) = (.one, [.bptr s bv 0]) ∧ (t.at s).sh = .box bv ∧ ownBox (t.at s).cs = some cs' ∧ v' = (.box 0, cs') ∧ ls = [some (.box s)]) ∨
            (md.getD i false = true ∧ v'.1 = sh ∧ lendCells t cs = some (v'.2, ls))) →
          q.vals.length = ((sh, cs) :: r).length ∧ q.lends.length = ((sh, cs) :: r).length ∧ ∀ (j : Nat) v v' ls, ((sh, cs) :: r)[j]? = some v → q.vals[j]? = some v' → q.lends[j]? = some ls →
            (md.getD (i + j) false = false ∧ v'.1 = v.1 ∧ sendCs t [] v.2 = some v'.2 ∧ ls = []) ∨
            (md.getD (i + j) false = true ∧ ∃ s bv cs, v = (.one, [.bptr s bv 0]) ∧ (t.at s).sh = .box bv ∧ ownBox (t.at s).cs = some cs ∧ v' = (.box 0, cs) ∧ ls = [some (.box s)]) ∨
            (md.getD (i + j) false = true ∧ v'.1 = v.1 ∧ lendCells t v.2 = some (v'.2, ls)) := by
        rintro v' ls rfl hl
        refine ⟨by simp [g1], by simp [g2], fun j x x' y a b d => ?_⟩
        cases j with
        | zero =>
          simp only [List.getElem?_cons_zero, Option.some.injEq] at a b d
          subst a b d
          exact hl
        | succ j =>
          have := g3 j x x' y (by simpa using a) (by simpa using b) (by simpa using d)
          rw [show i + 1 + j = i + (j + 1) by omega] at this
          exact this
      split at h
      · rename_i hmd
        split at h
        · rename_i s bv
          split at h
          · rename_i hsh
            split at h
            · rename_i cs' hcs
              simp only [Option.some.injEq] at h
              exact fin _ _ h.symm (.inr (.inl ⟨hmd, s, bv, cs', rfl, hsh, hcs, rfl, rfl⟩))
            · simp at h
          · simp at h
        · split at h
          · rename_i cs' ls hcs
            simp only [Option.some.injEq] at h
            exact fin _ _ h.symm (.inr (.inr ⟨hmd, rfl, hcs⟩))
          · simp at h
      · rename_i hmd
        split at h
        · rename_i cs' hcs
          simp only [Option.some.injEq] at h
          exact fin _ _ h.symm (.inl ⟨by simpa using hmd, rfl, hcs, rfl⟩)
        · simp at h

theorem readTargets_nil {lent : List (Nat × Nat)} : ∀ {args : List Val} {i : Nat}, readTargets [] lent i args = args.flatMap fun v => v.2.flatMap (readCell lent)
  | [], i => rfl
  | (sh, cs) :: r, i => by
    simp only [readTargets, List.getD_nil, Bool.false_eq_true, if_false, List.flatMap_cons, readTargets_nil (args := r)]

theorem outsOf_nil {n : Nat} {get : Nat → Slot} : ∀ {args : List Val} {i : Nat}, outsOf n get [] i args = some (List.replicate args.length [])
  | [], i => rfl
  | (sh, cs) :: r, i => by
    simp only [outsOf, outsOf_nil (args := r), List.getD_nil, Bool.false_eq_true, if_false, List.length_cons, List.replicate_succ]

theorem inSlots_nil (n : Nat) : ∀ (args : List Val) (i : Nat), inSlots n [] i args = (args.map fun v => { sh := v.1, cs := v.2, cnt := 1 }, List.replicate (2 * args.length) (default : Slot))
  | [], i => rfl
  | (sh, cs) :: r, i => by
    simp only [inSlots, inSlots_nil n r, List.getD_nil, Bool.false_eq_true, if_false, List.map_cons, List.length_cons]
    rw [show 2 * (r.length + 1) = 2 * r.length + 1 + 1 by omega]
    rfl

theorem startE_get {n : Nat} {vals : List Val} (s : Nat) (hn : vals.length ≤ n) : (startE n [] vals).length = n + 2 * vals.length ∧
    (startE n [] vals).get s = (match vals[s]? with | some v => { sh := v.1, cs := v.2, cnt := 1 } | none => {}) := by
  refine ⟨by simp [startE, inSlots_nil]; omega, ?_⟩
  simp only [startE, inSlots_nil, Env.get, List.getD_eq_getElem?_getD]
  by_cases h : s < vals.length
  · rw [List.append_assoc, List.getElem?_append_left (by simpa using h)]
    simp [List.getElem?_eq_getElem h]
  · rw [List.append_assoc, List.getElem?_append_right (by simpa using h)]
    have hd : (default : Slot) = {} := rfl
    have : vals[s]? = none := List.getElem?_eq_none (by omega)
    rw [this]
    simp only [List.length_map]
    by_cases h2 : s - vals.length < n - vals.length
    · rw [List.getElem?_append_left (by simpa using h2)]
      simp [List.getElem?_replicate, h2, hd]
    · rw [List.getElem?_append_right (by simpa using h2)]
      simp only [List.length_replicate, List.getElem?_replicate]
      split <;> simp [hd]

/-! ### The slots at a call's start, one by one -/
def slotA (n : Nat) (md : List Bool) (i : Nat) (v : Val) : Slot :=
  if md.getD i false then match v.1 with
    | .box _ => { sh := .one, cs := [.bptr (n + 2 * i + 1) 0 0], cnt := 1 }
    | sh => { sh, cs := copyFrom (n + 2 * i) 0 v.2, cnt := 1 }
  else { sh := v.1, cs := v.2, cnt := 1 }

def slotB (md : List Bool) (i : Nat) (v : Val) : Slot :=
  if md.getD i false then match v.1 with
    | .box _ => {}
    | _ => { sh := .agg, cs := v.2, cnt := 1 }
  else {}

def slotC (md : List Bool) (i : Nat) (v : Val) : Slot :=
  if md.getD i false then match v.1 with
    | .box _ => { sh := .box 0, cs := v.2, cnt := 1 }
    | _ => {}
  else {}

theorem inSlots_cons (n : Nat) (md : List Bool) (i : Nat) (v : Val) (r : List Val) : inSlots n md i (v :: r) = (slotA n md i v :: (inSlots n md (i + 1) r).1, slotB md i v :: slotC md i v :: (inSlots n md (i + 1) r).2) := by
  obtain ⟨sh, cs⟩ := v
  simp only [inSlots, slotA, slotB, slotC]
  split
  · cases sh <;> rfl
  · rfl

theorem inSlots_get {n : Nat} {md : List Bool} : ∀ {args : List Val} {i : Nat} (j : Nat), (inSlots n md i args).1[j]? = (args[j]?).map (slotA n md (i + j)) ∧
    (inSlots n md i args).2[2 * j]? = (args[j]?).map (slotB md (i + j)) ∧ (inSlots n md i args).2[2 * j + 1]? = (args[j]?).map (slotC md (i + j))
  | [], i, j => by simp [inSlots]
  | v :: r, i, j => by
    rw [inSlots_cons]
    cases j with
    | zero => simp
    | succ j =>
      obtain ⟨g1, g2, g3⟩ := inSlots_get (n := n) (md := md) (args := r) (i := i + 1) j
      rw [show i + (j + 1) = i + 1 + j by omega, show 2 * (j + 1) = 2 * j + 1 + 1 by omega]
      simp only [List.getElem?_cons_succ]
      exact ⟨g1, g2, g3⟩

theorem startE_slots {n : Nat} {md : List Bool} {vals : List Val} (hn : vals.length ≤ n) : (startE n md vals).length = n + 2 * vals.length ∧
    (∀ (j : Nat) v, vals[j]? = some v → (startE n md vals).get j = slotA n md j v ∧ (startE n md vals).get (n + 2 * j) = slotB md j v ∧ (startE n md vals).get (n + 2 * j + 1) = slotC md j v) ∧
    (∀ s, (vals.length ≤ s ∧ s < n) ∨ n + 2 * vals.length ≤ s → (startE n md vals).get s = {}) := by
  have hl := inSlots_length n md 0 vals
  have hlen : (startE n md vals).length = n + 2 * vals.length := by simp [startE, hl.1, hl.2]; omega
  refine ⟨hlen, fun j v hv => ?_, fun s hs => ?_⟩
  · have hj : j < vals.length := (List.getElem?_eq_some_iff.1 hv).1
    obtain ⟨g1, g2, g3⟩ := inSlots_get (n := n) (md := md) (args := vals) (i := 0) j
    rw [hv, Nat.zero_add] at g1 g2 g3
    simp only [startE, Env.get, List.getD_eq_getElem?_getD]
    refine ⟨?_, ?_, ?_⟩
    · rw [List.append_assoc, List.getElem?_append_left (by rw [hl.1]; exact hj), g1]; rfl
    · rw [List.getElem?_append_right (by simp [hl.1]; omega)]
      rw [show n + 2 * j - ((inSlots n md 0 vals).1 ++ List.replicate (n - vals.length) (default : Slot)).length = 2 * j by simp [hl.1]; omega, g2]; rfl
    · rw [List.getElem?_append_right (by simp [hl.1]; omega)]
      rw [show n + 2 * j + 1 - ((inSlots n md 0 vals).1 ++ List.replicate (n - vals.length) (default : Slot)).length = 2 * j + 1 by simp [hl.1]; omega, g3]; rfl
  · rcases hs with ⟨h1, h2⟩ | h1
    · simp only [startE, Env.get, List.getD_eq_getElem?_getD]
      rw [List.append_assoc, List.getElem?_append_right (by rw [hl.1]; exact h1), List.getElem?_append_left (by simp [hl.1]; omega)]
      simp only [List.getElem?_replicate]
      split <;> rfl
    · exact get_out (by rw [hlen]; omega)

end Go.Mach
/- The machine, part nj: a call's start: what is read, what is lent. No condition: lemmas. -/
namespace Go.Mach
set_option linter.unusedVariables false
set_option linter.unusedSimpArgs false

/-! ### The callee's start -/
/-- Blocks as the callee sees them: what is only read is nobody's, what else the caller owns has a colour. -/
def owIn (G : Gh) (rt : List Nat) (M : Nat) (b : Nat) : Option Nat := match G.ow b with
  | none => none
  | some s => if rt.contains s then none else some M

theorem owIn_none {G : Gh} {rt : List Nat} {M b : Nat} (h : G.ow b = none) : owIn G rt M b = none := by simp [owIn, h]
theorem owIn_rt {G : Gh} {rt : List Nat} {M b s : Nat} (h : G.ow b = some s) (hs : s ∈ rt) : owIn G rt M b = none := by simp [owIn, h, hs]
theorem owIn_out {G : Gh} {rt : List Nat} {M b s : Nat} (h : G.ow b = some s) (hs : s ∉ rt) : owIn G rt M b = some M := by simp [owIn, h, hs]

section start
variable {n : Nat} {e : Env} {tm : Array Value} {w : World} {G : Gh}

theorem targets_lt0 {c : C} {v : Value} {L : LT} (hc : CellOk0 e w G c v L) : ∀ s ∈ c.targets, s < e.length := by
  have key : ∀ s, 0 < (e.get s).cnt → s < e.length := fun s hs => by
    rcases Nat.lt_or_ge s e.length with q | q
    · exact q
    · rw [get_out (by omega)] at hs; simp at hs
  intro s hs
  cases c with
  | ref s' j rv sv p lo hi k =>
    simp only [C.targets, List.mem_singleton] at hs
    subst hs
    exact key _ (Nat.lt_of_le_of_lt (Nat.zero_le _) hc.1)
  | bptr s' bv j =>
    simp only [C.targets, List.mem_singleton] at hs
    subst hs
    exact key _ (Nat.lt_of_le_of_lt (Nat.zero_le _) hc.1)
  | aptr s' j rv sv p i c k =>
    simp only [C.targets, List.mem_singleton] at hs
    subst hs
    exact key _ (Nat.lt_of_le_of_lt (Nat.zero_le _) hc.2.1)
  | fn _ _ => exact hc.elim
  | _ => simp [C.targets] at hs

theorem targets_lt {c : C} {v : Value} {L : LT} (hc : CellOk e w G c v L) : ∀ s ∈ readCell [] c, s < e.length := by
  intro s hs
  cases c with
  | fn f caps =>
    obtain ⟨us, Ls, h1, h2, h3⟩ := hc
    rw [readCell_nil] at hs
    simp only [List.mem_flatMap] at hs
    obtain ⟨c, k1, k2⟩ := hs
    obtain ⟨i, hi⟩ := List.getElem?_of_mem k1
    have hil : i < us.length := by rw [h2]; exact (List.getElem?_eq_some_iff.1 hi).1
    obtain ⟨u, hu⟩ : ∃ u, us[i]? = some u := ⟨_, List.getElem?_eq_getElem hil⟩
    refine targets_lt0 (h3 i c u hi hu).2.2 s ?_
    cases c <;> first | exact k2 | simpa [C.targets] using k2
  | ref s' j rv sv p lo hi k => exact targets_lt0 (w := w) (G := G) (v := v) (L := L) (c := .ref s' j rv sv p lo hi k) hc s hs
  | bptr s' bv j => exact targets_lt0 (w := w) (G := G) (v := v) (L := L) (c := .bptr s' bv j) hc s hs
  | aptr s' j rv sv p i c k => exact targets_lt0 (w := w) (G := G) (v := v) (L := L) (c := .aptr s' j rv sv p i c k) hc s hs
  | _ => simp [readCell, C.targets] at hs

/-- The values of arguments. -/
def ArgsOk (e : Env) (w : World) (G : Gh) (args : List Val) (us : List Value) : Prop :=
  us.length = args.length ∧ ∀ (i : Nat) v u, args[i]? = some v → us[i]? = some u → ∃ vs Ls, ValOk e w G v u vs Ls

theorem start_inv (h : Inv n e tm w G) {t : Tr} (hs : Sees t.at e) {args : List Val} {us : List Value} (ha : ArgsOk e w G args us) {vals : List Val} (hl : vals.length = args.length)
    (hsend : ∀ (j : Nat) v v', args[j]? = some v → vals[j]? = some v' → v'.1 = v.1 ∧ sendCs t [] v.2 = some v'.2) {N : Nat} (hN : args.length ≤ N) (rt : List Nat)
    (hrt : ∀ v ∈ args, ∀ s ∈ v.2.flatMap (readCell []), s ∈ rt) (M : Nat) :
    ∃ Gc, Inv N (startE N [] vals) (us.toArray ++ Array.replicate (N - us.length) undef) w Gc ∧ Gc.ow = owIn G rt M := by
  have hex : ∀ i : Nat, ∃ p : List Value × (Nat → LT), ∀ v v' u, args[i]? = some v → vals[i]? = some v' → us[i]? = some u → u = form v'.1 p.1 ∧ (∀ bv, v'.1 ≠ .box bv) ∧ v'.1 ≠ .dead ∧ p.1.length = v'.2.length ∧
      ∀ (j : Nat) c x, v'.2[j]? = some c → p.1[j]? = some x → c.isOwn = false ∧ ∀ e' G', G'.ow = owIn G rt M → CellOk e' w G' c x (p.2 j) := by
    intro i
    cases hv : args[i]? with
    | none => exact ⟨([], fun _ => .leaf), fun v v' u q => by simp at q⟩
    | some v =>
      have hil : i < args.length := (List.getElem?_eq_some_iff.1 hv).1
      obtain ⟨u, hu⟩ : ∃ u, us[i]? = some u := ⟨_, List.getElem?_eq_getElem (by rw [ha.1]; exact hil)⟩
      obtain ⟨v', hv'⟩ : ∃ v', vals[i]? = some v' := ⟨_, List.getElem?_eq_getElem (by rw [hl]; exact hil)⟩
      obtain ⟨vs, Ls, hval⟩ := ha.2 i v u hv hu
      obtain ⟨q1, q2⟩ := hsend i v v' hv hv'
      obtain ⟨g1, Ls', g2⟩ := sendCs_ok h hs (owIn G rt M) (fun b => owIn_none) hval.cells q2 (fun b s hb hm => owIn_rt hb (hrt v (List.mem_of_getElem? hv) s hm))
      refine ⟨(vs, Ls'), fun w1 w2 w3 a b c => ?_⟩
      simp only [Option.some.injEq] at a
      subst a
      rw [hv'] at b
      rw [hu] at c
      simp only [Option.some.injEq] at b c
      subst b c
      refine ⟨by rw [q1]; exact hval.form, fun bv => by rw [q1]; exact hval.sh bv, by rw [q1]; exact hval.alive, by rw [g1]; exact hval.cells.len, g2⟩
  obtain ⟨f, hf⟩ := Classical.axiomOfChoice hex
  let Gc : Gh := { vs := fun i => (f i).1, lt := fun i => (f i).2, bk := fun _ => 0, ow := owIn G rt M }
  refine ⟨Gc, ⟨by simp [ha.1]; omega, ?_, fun s => ?_, fun b s hb => ?_⟩, rfl⟩
  · rw [(startE_get 0 (by omega)).1]; omega
  · have hg := (startE_get (n := N) (vals := vals) s (by omega)).2
    cases hv' : vals[s]? with
    | none =>
      rw [hv'] at hg
      exact SlotOk.nothing hg
    | some v' =>
      rw [hv'] at hg
      have hsl : s < vals.length := (List.getElem?_eq_some_iff.1 hv').1
      obtain ⟨v, hv⟩ : ∃ v, args[s]? = some v := ⟨_, List.getElem?_eq_getElem (by omega)⟩
      obtain ⟨u, hu⟩ : ∃ u, us[s]? = some u := ⟨_, List.getElem?_eq_getElem (by rw [ha.1]; omega)⟩
      obtain ⟨k1, k2, k3, k4, k5⟩ := hf s v v' u hv hv' hu
      have hnoown : ∀ c ∈ v'.2, c.isOwn = false := by
        intro c hc
        obtain ⟨j, hj⟩ := List.getElem?_of_mem hc
        have hjl : j < (f s).1.length := by rw [k4]; exact (List.getElem?_eq_some_iff.1 hj).1
        exact (k5 j c _ hj (List.getElem?_eq_getElem hjl)).1
      have hfp : fpS Gc s ((startE N [] vals).get s) = [] := by
        have key : ∀ (cs : List C) (i : Nat), (∀ c ∈ cs, c.isOwn = false) → fpCells (Gc.lt s) i cs = [] := by
          intro cs
          induction cs with
          | nil => intro i _; rfl
          | cons c cs ih => intro i ho; simp only [fpCells]; rw [noOwn_ownB (ho c (by simp)), ih (i + 1) fun c hc => ho c (by simp [hc])]; rfl
        rw [hg]
        simp only [fpS, key v'.2 0 hnoown]
        cases hsh : v'.1 <;> first | rfl | exact absurd hsh (k2 _)
      have htm : (us.toArray ++ Array.replicate (N - us.length) undef)[s]? = some u := by
        rw [Array.getElem?_append_left (by simp [ha.1]; omega)]
        simpa using hu
      refine ⟨fun hn => ?_, fun bv hb => ?_, fun hd => ?_, fun hd j c x hc hx => ?_, fun hd j rv sv d k l hc => ?_, by rw [hfp]; simp, by rw [hfp]; simp, fun hd => ?_⟩
      · rw [hg]
        rw [k1] at htm
        have h2 := k2
        have h3 := k3
        revert h2 h3 htm
        simp only [FormIs, Gc]
        cases v'.1 <;> simp
      · rw [hg] at hb; exact absurd hb (k2 bv)
      · rw [hg]; exact k4
      · rw [hg] at hc
        exact (k5 j c x hc hx).2 _ _ rfl
      · rw [hg] at hc
        have := hnoown _ (List.mem_of_getElem? hc)
        simp [C.isOwn] at this
      · rw [hg] at hd; exact absurd hd k3
  · simp only [Gc, owIn] at hb
    cases ho : G.ow b with
    | none => rw [ho] at hb; simp at hb
    | some s' => exact h.lt b s' ho

end start

/-! ### Lists of what is lent -/
theorem mem_lendsOne {i : Nat} : ∀ {ls : List (Option Lend)} {c : Nat} {x : Nat × Nat × Lend}, x ∈ lendsOne i c ls ↔ x.1 = i ∧ c ≤ x.2.1 ∧ ls[x.2.1 - c]? = some (some x.2.2)
  | [], c, x => by simp [lendsOne]
  | none :: r, c, x => by
    simp only [lendsOne, mem_lendsOne (ls := r)]
    constructor
    · rintro ⟨h1, h2, h3⟩
      refine ⟨h1, by omega, ?_⟩
      rw [show x.2.1 - c = (x.2.1 - (c + 1)) + 1 by omega]; simpa using h3
    · rintro ⟨h1, h2, h3⟩
      by_cases hc : x.2.1 = c
      · rw [hc] at h3; simp at h3
      · refine ⟨h1, by omega, ?_⟩
        rw [show x.2.1 - c = (x.2.1 - (c + 1)) + 1 by omega] at h3; simpa using h3
  | some l :: r, c, x => by
    simp only [lendsOne, List.mem_cons, mem_lendsOne (ls := r)]
    constructor
    · rintro (rfl | ⟨h1, h2, h3⟩)
      · simp
      · refine ⟨h1, by omega, ?_⟩
        rw [show x.2.1 - c = (x.2.1 - (c + 1)) + 1 by omega]; simpa using h3
    · rintro ⟨h1, h2, h3⟩
      by_cases hc : x.2.1 = c
      · left
        obtain ⟨a, b, l'⟩ := x
        dsimp only at hc h1 h3
        subst hc h1
        simp only [Nat.sub_self, List.getElem?_cons_zero, Option.some.injEq] at h3
        rw [h3]
      · right
        refine ⟨h1, by omega, ?_⟩
        rw [show x.2.1 - c = (x.2.1 - (c + 1)) + 1 by omega] at h3; simpa using h3

theorem mem_lendAt : ∀ {L : List (List (Option Lend))} {i : Nat} {x : Nat × Nat × Lend}, x ∈ lendAt i L ↔ ∃ ls, i ≤ x.1 ∧ L[x.1 - i]? = some ls ∧ ls[x.2.1]? = some (some x.2.2)
  | [], i, x => by simp [lendAt]
  | ls :: r, i, x => by
    simp only [lendAt, List.mem_append, mem_lendsOne, mem_lendAt (L := r), Nat.zero_le, true_and, Nat.sub_zero]
    constructor
    · rintro (⟨h1, h2⟩ | ⟨ls', h1, h2, h3⟩)
      · exact ⟨ls, by omega, by rw [h1]; simp, h2⟩
      · exact ⟨ls', by omega, by rw [show x.1 - i = (x.1 - (i + 1)) + 1 by omega]; simpa using h2, h3⟩
    · rintro ⟨ls', h1, h2, h3⟩
      by_cases hi : x.1 = i
      · left
        rw [hi] at h2
        simp only [Nat.sub_self, List.getElem?_cons_zero, Option.some.injEq] at h2
        subst h2
        exact ⟨hi, h3⟩
      · right
        exact ⟨ls', by omega, by rw [show x.1 - i = (x.1 - (i + 1)) + 1 by omega] at h2; simpa using h2, h3⟩

theorem clash_symm (a b : Lend) : a.clash b = b.clash a := by
  rw [Bool.eq_iff_iff]
  cases a <;> cases b <;> simp only [Lend.clash, Lend.slot, Bool.and_eq_true, beq_iff_eq] <;> first
    | exact ⟨fun h => h.symm, fun h => h.symm⟩
    | exact ⟨fun h => ⟨h.1.symm, h.2.symm⟩, fun h => ⟨h.1.symm, h.2.symm⟩⟩

theorem apartF_mem : ∀ {l : List (Nat × Nat × Lend)}, apartF l = true → ∀ a ∈ l, ∀ b ∈ l, a = b ∨ a.2.2.clash b.2.2 = false
  | [], _, a, ha, _, _ => by simp at ha
  | x :: r, h, a, ha, b, hb => by
    simp only [apartF, Bool.and_eq_true, List.all_eq_true, Bool.not_eq_true'] at h
    simp only [List.mem_cons] at ha hb
    rcases ha with rfl | ha
    · rcases hb with rfl | hb
      · exact .inl rfl
      · exact .inr (h.1 b hb)
    · rcases hb with rfl | hb
      · exact .inr (by rw [clash_symm]; exact h.1 a ha)
      · exact apartF_mem h.2 a ha b hb

/-! ### The blocks of what is lent -/
def sentL : LT → LT
  | .node _ _ 0 _ => .nil
  | L => L

theorem sentL_sub (k : K) (L : LT) : ∀ b ∈ fp (.list k) (sentL L), b ∈ fp (.list k) L := by
  intro b hb
  cases L with
  | node b' off cap rows =>
    cases cap with
    | zero => simp [sentL, fp] at hb
    | succ c => exact hb
  | _ => exact hb

theorem sentL_hd (L : LT) : ∀ b ∈ (hdOf (sentL L)).toList.map (·.1), b ∈ (hdOf L).toList.map (·.1) := by
  intro b hb
  cases L with
  | node b' off cap rows =>
    cases cap with
    | zero => simp [sentL, hdOf] at hb
    | succ c => exact hb
  | _ => exact hb

theorem sentL_inner (k : K) (L : LT) : ∀ b ∈ inner k (sentL L), b ∈ inner k L := by
  intro b hb
  cases L with
  | node b' off cap rows =>
    cases cap with
    | zero => simp [sentL, inner] at hb
    | succ c => exact hb
  | _ => exact hb

def ownD (d : Bool) (k : K) (L : LT) : List Nat := if d then fp (.list k) L else (hdOf L).toList.map (·.1)

theorem ownB_ownD (rv sv : Nat) (d : Bool) (k : K) (l : List k.T) (L : LT) : ownB (.own rv sv d k l) L = ownD d k L := by cases d <;> rfl

def blkL (e : Env) (G : Gh) : Lend → List Nat
  | .cell s j p k => match (e.get s).cs.getD j .dead with
    | .own _ _ d k0 _ => ownD d k (sentL (subL k0 (G.lt s j) p))
    | _ => []
  | .box s => fpS G s (e.get s)

/-- What is lent is there. -/
def LendIn (e : Env) : Lend → Prop
  | .cell s j p k => ∃ rv sv d k0 l0 x, (e.get s).cs[j]? = some (.own rv sv d k0 l0) ∧ (p = [] ∨ d = true) ∧ PathOk k0 l0 p ∧ getP k0 l0 p = ⟨k, x⟩
  | .box s => ∃ bv, (e.get s).sh = .box bv

theorem fpCells_disj {lt : Nat → LT} {cs : List C} (hnd : (fpCells lt 0 cs).Nodup) {j j' : Nat} {c c' : C} (hc : cs[j]? = some c) (hc' : cs[j']? = some c') (hne : j ≠ j') {b : Nat} (hb : b ∈ ownB c (lt j)) : b ∉ ownB c' (lt j') := by
  intro hb'
  obtain ⟨rest, p1, p2⟩ := fpCells_perm (lt := lt) (i := 0) hc
  have h1 := p2 lt .dead (fun _ _ => rfl)
  simp only [ownB, List.nil_append] at h1
  have hc2 : (cs.set j .dead)[j']? = some c' := by rw [List.getElem?_set_ne hne]; exact hc'
  have hm := h1.mem_iff.1 (fpCells_mem (lt := lt) (i := 0) hc2 (by simpa using hb'))
  have := p1.nodup_iff.1 hnd
  rw [List.nodup_append] at this
  exact this.2.2 b (by simpa using hb) b hm rfl

section lends
variable {n : Nat} {e : Env} {tm : Array Value} {w : World} {G : Gh}

theorem cells_nodup (h : Inv n e tm w G) (s : Nat) : (fpCells (G.lt s) 0 (e.get s).cs).Nodup := by
  have hs := h.slot s
  have hnd := hs.nodup
  simp only [fpS] at hnd
  rw [List.nodup_append] at hnd
  have := hnd.2.1
  cases hh : (e.get s).sh with
  | dead => rw [hs.dead hh]; exact List.nodup_nil
  | _ => simpa [hh] using this

theorem blkL_cell {s j : Nat} {p : Path} {k : K} (hl : LendIn e (.cell s j p k)) {b : Nat} (hb : b ∈ blkL e G (.cell s j p k)) : ∃ c, (e.get s).cs[j]? = some c ∧ b ∈ ownB c (G.lt s j) := by
  obtain ⟨rv, sv, d, k0, l0, x, h1, h2, h3, h4⟩ := hl
  refine ⟨_, h1, ?_⟩
  simp only [blkL, getD_some h1] at hb
  rw [ownB_ownD]
  unfold ownD at hb ⊢
  by_cases hp : p = []
  · subst hp
    rw [getP_nil] at h4
    simp only [Sigma.mk.injEq] at h4
    obtain ⟨rfl, _⟩ := h4
    simp only [subL] at hb
    cases d with
    | true => simp only [if_true] at hb ⊢; exact sentL_sub _ _ b hb
    | false => simp only [Bool.false_eq_true, if_false] at hb ⊢; exact sentL_hd _ b hb
  · obtain rfl := h2.resolve_left hp
    simp only [if_true] at hb ⊢
    have := subL_sub p k0 l0 (G.lt s j) h3 b
    rw [h4] at this
    exact this (sentL_sub _ _ b hb)

theorem blkL_fpS (h : Inv n e tm w G) {l : Lend} (hl : LendIn e l) {b : Nat} (hb : b ∈ blkL e G l) : b ∈ fpS G l.slot (e.get l.slot) := by
  cases l with
  | box s => exact hb
  | cell s j p k =>
    obtain ⟨c, h1, h2⟩ := blkL_cell hl hb
    simp only [Lend.slot, fpS, List.mem_append]
    right
    have := fpCells_mem (lt := G.lt s) (i := 0) h1 (by simpa using h2)
    have hsh : (e.get s).sh ≠ .dead := fun q => by rw [(h.slot s).dead q] at h1; simp at h1
    cases hh : (e.get s).sh <;> simp_all

theorem blkL_ow (h : Inv n e tm w G) {l : Lend} (hl : LendIn e l) {b : Nat} (hb : b ∈ blkL e G l) : G.ow b = some l.slot := (h.slot _).own b (blkL_fpS h hl hb)

theorem blkL_disj (h : Inv n e tm w G) {l l' : Lend} (hl : LendIn e l) (hl' : LendIn e l') (hc : l.clash l' = false) {b : Nat} (hb : b ∈ blkL e G l) : b ∉ blkL e G l' := by
  intro hb'
  have h1 := blkL_ow h hl hb
  have h2 := blkL_ow h hl' hb'
  rw [h1] at h2
  simp only [Option.some.injEq] at h2
  cases l with
  | box s => cases l' <;> simp [Lend.clash, h2] at hc
  | cell s j p k =>
    cases l' with
    | box s' => simp [Lend.clash, h2] at hc
    | cell s' j' p' k' =>
      simp only [Lend.slot] at h2
      subst h2
      simp only [Lend.clash, beq_self_eq_true, Bool.true_and, beq_eq_false_iff_ne] at hc
      obtain ⟨c, q1, q2⟩ := blkL_cell hl hb
      obtain ⟨c', q3, q4⟩ := blkL_cell hl' hb'
      exact fpCells_disj (cells_nodup h s) q1 q3 hc q2 q4

end lends

/-! ### Who has a block at the callee's start -/
def posL (N : Nat) (x : Nat × Nat × Lend) : Nat := match x.2.2 with
  | .cell .. => N + 2 * x.1
  | .box _ => N + 2 * x.1 + 1

def owL (N : Nat) (e : Env) (G : Gh) (fl : List (Nat × Nat × Lend)) (rt : List Nat) (M b : Nat) : Option Nat := match fl.find? (fun x => decide (b ∈ blkL e G x.2.2)) with
  | some x => some (posL N x)
  | none => owIn G rt M b

/-- What is lent for a call. -/
structure LendsOk (e : Env) (fl : List (Nat × Nat × Lend)) (rt : List Nat) (m : Nat) : Prop where
  inn : ∀ x ∈ fl, LendIn e x.2.2
  apart : apartF fl = true
  src : ∀ x ∈ fl, ∀ y ∈ fl, x.1 = y.1 → x.2.2.slot = y.2.2.slot
  notRead : ∀ x ∈ fl, x.2.2.slot ∉ rt
  idx : ∀ x ∈ fl, x.1 < m

section owL
variable {n : Nat} {e : Env} {tm : Array Value} {w : World} {G : Gh} {fl : List (Nat × Nat × Lend)} {rt : List Nat} {m N M b : Nat}

theorem owL_in (h : Inv n e tm w G) (hl : LendsOk e fl rt m) {x : Nat × Nat × Lend} (hx : x ∈ fl) (hb : b ∈ blkL e G x.2.2) : owL N e G fl rt M b = some (posL N x) := by
  unfold owL
  cases hf : fl.find? (fun x => decide (b ∈ blkL e G x.2.2)) with
  | none =>
    have := List.find?_eq_none.1 hf x hx
    simp [hb] at this
  | some y =>
    have hy := List.mem_of_find?_eq_some hf
    have hyb := List.find?_some hf
    simp only [decide_eq_true_eq] at hyb
    rcases apartF_mem hl.apart x hx y hy with rfl | q
    · rfl
    · exact absurd hyb (blkL_disj h (hl.inn x hx) (hl.inn y hy) q hb)

theorem owL_out (hb : ∀ x ∈ fl, b ∉ blkL e G x.2.2) : owL N e G fl rt M b = owIn G rt M b := by
  unfold owL
  cases hf : fl.find? (fun x => decide (b ∈ blkL e G x.2.2)) with
  | none => rfl
  | some y =>
    have hy := List.mem_of_find?_eq_some hf
    have hyb := List.find?_some hf
    simp only [decide_eq_true_eq] at hyb
    exact absurd hyb (hb y hy)

theorem owL_none (h : Inv n e tm w G) (hl : LendsOk e fl rt m) (hb : G.ow b = none) : owL N e G fl rt M b = none := by
  rw [owL_out fun x hx q => by rw [blkL_ow h (hl.inn x hx) q] at hb; simp at hb]
  exact owIn_none hb

theorem owL_rt (h : Inv n e tm w G) (hl : LendsOk e fl rt m) {s : Nat} (hb : G.ow b = some s) (hs : s ∈ rt) : owL N e G fl rt M b = none := by
  rw [owL_out fun x hx q => by
    rw [blkL_ow h (hl.inn x hx) q] at hb
    simp only [Option.some.injEq] at hb
    exact hl.notRead x hx (by rw [hb]; exact hs)]
  exact owIn_rt hb hs

theorem owL_cases {t : Nat} (ho : owL N e G fl rt M b = some t) : (∃ x ∈ fl, b ∈ blkL e G x.2.2 ∧ t = posL N x) ∨ (t = M ∧ ∃ s, G.ow b = some s ∧ s ∉ rt ∧ ∀ x ∈ fl, b ∉ blkL e G x.2.2) := by
  unfold owL at ho
  cases hf : fl.find? (fun x => decide (b ∈ blkL e G x.2.2)) with
  | none =>
    rw [hf] at ho
    right
    have hno := List.find?_eq_none.1 hf
    simp only [owIn] at ho
    split at ho
    · simp at ho
    · rename_i s hs
      split at ho
      · simp at ho
      · rename_i hr
        simp only [Option.some.injEq] at ho
        exact ⟨ho.symm, s, hs, by simpa using hr, fun x hx => by simpa using hno x hx⟩
  | some y =>
    rw [hf] at ho
    simp only [Option.some.injEq] at ho
    have hy := List.mem_of_find?_eq_some hf
    have hyb := List.find?_some hf
    simp only [decide_eq_true_eq] at hyb
    exact .inl ⟨y, hy, hyb, ho.symm⟩

theorem owL_unlent (h : Inv n e tm w G) {s : Nat} (hb : G.ow b = some s) (hs : s ∉ rt) (hn : ∀ x ∈ fl, b ∉ blkL e G x.2.2) : owL N e G fl rt M b = some M := by
  rw [owL_out hn]
  exact owIn_out hb hs

end owL

/-! ### The book's pattern of the arguments -/
theorem encA_length : ∀ {ps : List (PSh × List PC)} {d : AsT ps}, (encA ps d).length = ps.length
  | [], _ => rfl
  | [p], _ => rfl
  | p :: q :: r, d => by simp [encA, encA_length (ps := q :: r)]

theorem decA_ok {N : Nat} : ∀ {ps : List (PSh × List PC)} {i : Nat} {vals : List Val} {d : AsT ps}, decA N [] i ps vals = some d → vals.length = ps.length ∧
    ∀ (j : Nat) v v', vals[j]? = some v → (encA ps d)[j]? = some v' → v'.1 = v.1 ∧ (∀ bv, v'.1 = .box bv → bv = 0) ∧ v'.2.length = v.2.length ∧
      ∀ (q : Nat) c c', v.2[q]? = some c → v'.2[q]? = some c' → (c' = c ∧ c.base = true) ∨ c' = .dead ∨ ((i + j < N ∧ c = .nil ∧ ∃ d' k, c' = .own 0 0 d' k [] ∨ c' = .dat (.list k) []))
  | [], i, [], d, _ => ⟨rfl, fun j v v' a => by simp at a⟩
  | [], i, _ :: _, d, h => by simp [decA] at h
  | [p], i, [], d, h => by simp [decA] at h
  | [p], i, _ :: _ :: _, d, h => by simp [decA] at h
  | [p], i, [v], d, h => by
    simp only [decA] at h
    split at h
    · rename_i a h1 h2
      simp only [Option.some.injEq] at h
      subst h
      refine ⟨rfl, fun j v0 v1 ha hb => ?_⟩
      cases j with
      | zero =>
        simp only [List.getElem?_cons_zero, Option.some.injEq, encA] at ha hb
        subst ha hb
        simp only [List.getD_nil, Bool.false_eq_true, if_false] at h2
        obtain ⟨k1, k2⟩ := decCs_ok h2
        refine ⟨PSh.fits_ok h1, fun bv hbv => ?_, k1, fun q c c' hc hc' => ?_⟩
        · simp only at hbv
          cases hp : p.1 <;> rw [hp] at hbv <;> simp [PSh.sh] at hbv
          exact hbv.symm
        · rcases k2 q c c' hc hc' with r | r | r
          · exact .inl r
          · exact .inr (.inl r)
          · exact .inr (.inr (by simpa using r.1))
      | succ j => simp at ha
    · simp at h
  | p :: p' :: r, i, [], d, h => by simp [decA] at h
  | p :: p' :: r, i, v :: vs, d, h => by
    simp only [decA] at h
    split at h
    · rename_i a b h1 h2 h3
      simp only [Option.some.injEq] at h
      subst h
      obtain ⟨g1, g2⟩ := decA_ok h3
      refine ⟨by simp [g1], fun j v0 v1 ha hb => ?_⟩
      cases j with
      | zero =>
        simp only [List.getElem?_cons_zero, Option.some.injEq, encA] at ha hb
        subst ha hb
        simp only [List.getD_nil, Bool.false_eq_true, if_false] at h2
        obtain ⟨k1, k2⟩ := decCs_ok h2
        refine ⟨PSh.fits_ok h1, fun bv hbv => ?_, k1, fun q c c' hc hc' => ?_⟩
        · simp only at hbv
          cases hp : p.1 <;> rw [hp] at hbv <;> simp [PSh.sh] at hbv
          exact hbv.symm
        · rcases k2 q c c' hc hc' with r | r | r
          · exact .inl r
          · exact .inr (.inl r)
          · exact .inr (.inr (by simpa using r.1))
      | succ j =>
        have := g2 j v0 v1 (by simpa using ha) (by simpa [encA] using hb)
        rw [show i + 1 + j = i + (j + 1) by omega] at this
        exact this
    · simp at h

theorem decA_gen {N : Nat} {ps : List (PSh × List PC)} {vals : List Val} {d : AsT ps} (h : decA N [] 0 ps vals = some d) (hN : vals.length ≤ N) (hnr : ∀ v ∈ vals, ∀ c ∈ v.2, c.refAt = []) :
    Gen N (startE N [] vals) (startE N [] (encA ps d)) := by
  obtain ⟨h1, h2⟩ := decA_ok h
  have hl : (encA ps d).length = vals.length := by rw [encA_length, h1]
  have hg := fun s => startE_get (n := N) (vals := vals) s hN
  have hg' := fun s => startE_get (n := N) (vals := encA ps d) s (by omega)
  refine ⟨by rw [(hg 0).1, (hg' 0).1, hl], fun s _ => ?_, fun s j c hc t i ht => ?_⟩
  · rw [(hg s).2, (hg' s).2]
    cases hv : vals[s]? with
    | none =>
      have : (encA ps d)[s]? = none := by
        rw [List.getElem?_eq_none_iff] at hv ⊢; omega
      rw [this]
      exact .inr (.inr ⟨rfl, rfl⟩)
    | some v =>
      have hsl : s < vals.length := (List.getElem?_eq_some_iff.1 hv).1
      obtain ⟨v', hv'⟩ : ∃ v', (encA ps d)[s]? = some v' := ⟨_, List.getElem?_eq_getElem (by omega)⟩
      rw [hv']
      obtain ⟨k1, k2, k3, k4⟩ := h2 s v v' hv hv'
      exact .inr (.inl ⟨k1, rfl, k2, k3, fun j c c' hc hc' => by
        have := k4 j c c' hc hc'
        rw [Nat.zero_add] at this
        exact this⟩)
  · exfalso
    rw [(hg' s).2] at hc
    cases hv' : (encA ps d)[s]? with
    | none => rw [hv'] at hc; simp at hc
    | some v' =>
      rw [hv'] at hc
      have hsl : s < (encA ps d).length := (List.getElem?_eq_some_iff.1 hv').1
      obtain ⟨v, hv⟩ : ∃ v, vals[s]? = some v := ⟨_, List.getElem?_eq_getElem (by omega)⟩
      obtain ⟨k1, k2, k3, k4⟩ := h2 s v v' hv hv'
      have hjl : j < v.2.length := by rw [← k3]; exact (List.getElem?_eq_some_iff.1 hc).1
      obtain ⟨c0, hc0⟩ : ∃ c0, v.2[j]? = some c0 := ⟨_, List.getElem?_eq_getElem hjl⟩
      rcases k4 j c0 c hc0 hc with ⟨rfl, _⟩ | rfl | ⟨_, rfl, d', k, rfl | rfl⟩
      · rw [hnr v (List.mem_of_getElem? hv) c (List.mem_of_getElem? hc0)] at ht; simp at ht
      · simp [C.refAt] at ht
      · simp [C.refAt] at ht
      · simp [C.refAt] at ht

theorem snap_refAt {get : Nat → Slot} {c c' : C} (h : snap get c = some c') : c'.refAt = [] := by
  cases c with
  | ref s j rv sv p lo hi k =>
    simp only [snap] at h
    cases hq : content get s j rv sv p k <;> rw [hq] at h <;> simp at h
    subst h; rfl
  | bptr s bv j =>
    simp only [snap] at h
    split at h
    · cases hq : snapIns (get s).cs <;> rw [hq] at h <;> simp at h
      subst h; rfl
    · simp at h
  | dat k x => simp only [snap, Option.some.injEq] at h; subst h; rfl
  | nil => simp only [snap, Option.some.injEq] at h; subst h; rfl
  | pim cs j => simp only [snap, Option.some.injEq] at h; subst h; rfl
  | _ => simp [snap] at h

theorem sendC_refAt {t : Tr} {lent : List (Nat × Nat)} {c c' : C} (h : sendC t lent c = some c') : c'.refAt = [] := by
  cases c with
  | fn f caps =>
    simp only [sendC] at h
    cases hq : sendCaps t lent caps <;> rw [hq] at h <;> simp at h
    subst h; rfl
  | _ => exact snap_refAt (get := t.at) (by simpa only [sendC] using h)

theorem sendCs_refAt {t : Tr} {lent : List (Nat × Nat)} : ∀ {cs cs' : List C}, sendCs t lent cs = some cs' → ∀ c ∈ cs', c.refAt = []
  | [], cs', h, c, hc => by
    simp only [sendCs, Option.some.injEq] at h
    subst h
    simp at hc
  | a :: r, cs', h, c, hc => by
    simp only [sendCs] at h
    split at h
    · rename_i c1 r1 h1 h2
      simp only [Option.some.injEq] at h
      subst h
      simp only [List.mem_cons] at hc
      rcases hc with rfl | hc
      · exact sendC_refAt h1
      · exact sendCs_refAt h2 c hc
    · simp at h

end Go.Mach
/- The machine, part nk: a call of a function to which nothing is lent, done. No condition: lemmas. -/
namespace Go.Mach
set_option linter.unusedVariables false
set_option linter.unusedSimpArgs false

/-! ### Behind the call -/
/-- Blocks behind a call: results' blocks, what is given up, the rest as it was. -/
def owOut (G : Gh) (H rt : List Nat) (gv : Bool) (len b : Nat) : Option Nat :=
  if b ∈ H then some len else match G.ow b with
    | none => none
    | some s => if gv && rt.contains s then none else some s

def giveS (z : Slot) : Slot := match z.sh with
  | .box _ => { z with sh := .dead, cs := [] }
  | _ => { z with cs := z.cs.map C.give }

theorem give_noOwn (c : C) : c.give.isOwn = false := by cases c <;> rfl

theorem give_idem (c : C) : c.give.give = c.give := by cases c <;> rfl

theorem giveS_idem (z : Slot) : giveS (giveS z) = giveS z := by
  unfold giveS
  cases h : z.sh <;> simp [h, give_idem]

/-- What is given, slot by slot. -/
theorem give_env {e0 : Env} : ∀ {rt : List Nat} {t : Tr} {e : Env}, TrOk e0 t e → (∀ s ∈ rt, s < e.length ∧ t.at s = e.get s) →
    ∃ e', TrOk e0 (t.give rt) e' ∧ e'.length = e.length ∧ (t.give rt).d = t.d ∧ ∀ s, e'.get s = if s ∈ rt then giveS (e.get s) else e.get s
  | [], t, e, h, _ => ⟨e, h, rfl, rfl, fun s => by simp⟩
  | s :: r, t, e, h, hs => by
    obtain ⟨hl, hat⟩ := hs s (by simp)
    have hput := h.put (giveS (e.get s)) hl
    have hgive : t.give (s :: r) = (t.put s (giveS (e.get s))).give r := by
      simp only [Tr.give, hat]
      rfl
    obtain ⟨e', h1, h2, h3, h4⟩ := give_env (rt := r) hput (fun s' hs' => by
      obtain ⟨q1, q2⟩ := hs s' (by simp [hs'])
      refine ⟨by simpa using q1, ?_⟩
      by_cases g : s' = s
      · subst g; rw [at_put_self, get_set_self hl]
      · rw [at_put_ne t _ g, get_set_ne g]; exact q2)
    refine ⟨e', by rw [hgive]; exact h1, by simpa using h2, by rw [hgive]; exact h3, fun s' => ?_⟩
    rw [h4 s']
    by_cases g : s' = s
    · subst g
      rw [get_set_self hl]
      simp only [List.mem_cons, true_or, if_true]
      split
      · exact giveS_idem _
      · rfl
    · rw [get_set_ne g]
      simp only [List.mem_cons, g, false_or]

section back
variable {n : Nat} {e : Env} {tm : Array Value} {w w1 : World} {G : Gh}

/-- The caller's slots behind a call. -/
theorem back_inv (h : Inv n e tm w G) {H rt : List Nat} {gv : Bool} {e3 : Env} (he : e3.length = e.length) (hget : ∀ s, e3.get s = if gv = true ∧ s ∈ rt then giveS (e.get s) else e.get s)
    (hsize : w.heap.size ≤ w1.heap.size) (hrt : ∀ s ∈ rt, s < e.length) (hsame : ∀ b : Nat, w.heap[b]? ≠ none → w1.heap[b]? = w.heap[b]?) (hH : ∀ b ∈ H, w.heap[b]? = none ∧ b < w1.heap.size) :
    Inv n e3 tm w1 { G with ow := owOut G H rt gv e.length } ∧ Held n e.length w w1 G { G with ow := owOut G H rt gv e.length } := by
  have hthere : ∀ b s, G.ow b = some s → w.heap[b]? ≠ none := fun b s q => by
    have := h.lt b s q
    simp [this]
  have hnH : ∀ b s, G.ow b = some s → b ∉ H := fun b s q hb => hthere b s q (hH b hb).1
  have how : ∀ b s, G.ow b = some s → ¬ (gv = true ∧ s ∈ rt) → owOut G H rt gv e.length b = some s := by
    intro b s q hns
    simp only [owOut, if_neg (hnH b s q), q]
    rw [if_neg]
    simpa using hns
  have hnone : ∀ b, G.ow b = none → w.heap[b]? ≠ none → owOut G H rt gv e.length b = none := by
    intro b q hb
    have : b ∉ H := fun hm => hb (hH b hm).1
    simp [owOut, this, q]
  have hst : Still w w1 G.ow (owOut G H rt gv e.length) := fun b q hb => ⟨hsame b hb, hnone b q hb⟩
  have hTM : ∀ t, TM e e3 G { G with ow := owOut G H rt gv e.length } t := by
    intro t
    by_cases hg : gv = true ∧ t ∈ rt
    · have hq : e3.get t = giveS (e.get t) := by rw [hget, if_pos hg]
      refine ⟨?_, fun j rv sv d k l hc => ?_, fun bv hb => ?_⟩
      · rw [hq]; unfold giveS; cases (e.get t).sh <;> exact Nat.le_refl _
      · exfalso
        rw [hq] at hc
        have h1 := some_of_getD hc (by simp)
        unfold giveS at h1
        have : ∃ c ∈ (e.get t).cs, c.give = .own rv sv d k l := by
          revert h1
          cases (e.get t).sh <;> intro h1 <;> first
            | (simp at h1; done)
            | (simp only [List.getElem?_map] at h1
               cases hc0 : (e.get t).cs[j]? with
               | none => rw [hc0] at h1; simp at h1
               | some c0 =>
                 rw [hc0] at h1
                 simp only [Option.map_some, Option.some.injEq] at h1
                 exact ⟨c0, List.mem_of_getElem? hc0, h1⟩)
        obtain ⟨c, _, hc⟩ := this
        have := give_noOwn c
        rw [hc] at this
        simp [C.isOwn] at this
      · exfalso
        rw [hq] at hb
        unfold giveS at hb
        cases hs : (e.get t).sh <;> rw [hs] at hb <;> simp_all
    · exact TM.refl (by rw [hget, if_neg hg]) (fun _ => rfl) rfl
  refine ⟨⟨h.size, by rw [he]; exact h.elen, fun s => ?_, fun b s hb => ?_⟩, ⟨hst, fun s _ => ⟨fun _ => ⟨rfl, fun _ => rfl⟩, rfl⟩, fun b t q1 q2 q3 => ⟨hsame b q3, how b t q1 fun q => by have := hrt t q.2; omega⟩⟩⟩
  · by_cases hg : gv = true ∧ s ∈ rt
    · have hq : e3.get s = giveS (e.get s) := by rw [hget, if_pos hg]
      have hs := h.slot s
      by_cases hbox : ∃ bv, (e.get s).sh = .box bv
      · obtain ⟨bv, hbox⟩ := hbox
        have hq' : e3.get s = { e.get s with sh := .dead, cs := [] } := by rw [hq]; unfold giveS; rw [hbox]
        refine ⟨fun _ => ?_, fun bv hb => ?_, fun hd => ?_, fun hd => ?_, fun hd => ?_, ?_, ?_, fun _ => ?_⟩
        · rw [hq']; trivial
        · rw [hq'] at hb; simp at hb
        · rw [hq'] at hd; simp at hd
        · rw [hq'] at hd; simp at hd
        · rw [hq'] at hd; simp at hd
        · rw [hq']; simp [fpS]
        · rw [hq']; simp [fpS]
        · rw [hq']
      · have hq' : e3.get s = { e.get s with cs := (e.get s).cs.map C.give } := by
          rw [hq]; unfold giveS
          split
          · rename_i bv hsh; exact absurd ⟨bv, hsh⟩ hbox
          · rfl
        have hfp : ∀ G', fpS G' s (e3.get s) = [] := by
          intro G'
          have key : ∀ (cs : List C) (i : Nat), fpCells (G'.lt s) i (cs.map C.give) = [] := by
            intro cs
            induction cs with
            | nil => intro i; rfl
            | cons c cs ih => intro i; simp only [List.map_cons, fpCells, noOwn_ownB (give_noOwn c), ih]; rfl
          rw [hq']
          simp only [fpS, key]
          cases hsh : (e.get s).sh <;> first | rfl | (rename_i bv; exact absurd ⟨bv, hsh⟩ hbox)
        have hsh : (e3.get s).sh = (e.get s).sh := by rw [hq']
        refine ⟨fun hn => ?_, fun bv hb => ?_, fun hd => ?_, fun hd j c v hc hv => ?_, fun hd j rv sv d k l hc => ?_, by rw [hfp]; simp, by rw [hfp]; simp, fun hd => ?_⟩
        · rw [hsh]; exact hs.form hn
        · rw [hsh] at hb; exact absurd ⟨bv, hb⟩ hbox
        · rw [hq']; simp only [List.length_map]; exact hs.len (by rw [← hsh]; exact hd)
        · rw [hq'] at hc
          simp only [List.getElem?_map] at hc
          cases hc0 : (e.get s).cs[j]? with
          | none => rw [hc0] at hc; simp at hc
          | some c0 =>
            rw [hc0] at hc
            simp only [Option.map_some, Option.some.injEq] at hc
            subst hc
            have hok := hs.cells (by rw [← hsh]; exact hd) j c0 v hc0 hv
            cases hown : c0.isOwn with
            | false =>
              have : c0.give = c0 := by cases c0 <;> first | rfl | simp [C.isOwn] at hown
              rw [this]
              exact hok.frame hTM hst (fun b hb => by simp [noOwn_ownB hown] at hb)
            | true =>
              cases c0 with
              | own rv sv d k l =>
                simp only [C.give]
                obtain ⟨k1, k2⟩ := hok
                obtain ⟨o1, o2, o3⟩ := h.ownBlocks hc0
                have hall : ∀ b ∈ fp (.list k) (G.lt s j), G.ow b = some s ∨ G.ow b = none := by
                  intro b hb
                  cases d with
                  | true => exact .inl (o1 b hb)
                  | false =>
                    rw [fp_list, List.mem_append] at hb
                    rcases hb with q | q
                    · exact .inl (o1 b q)
                    · exact .inr (o2 rfl b q)
                have hin : ∀ b ∈ fp (.list k) (G.lt s j), w.heap[b]? ≠ none := k1.there
                refine ⟨(k1.same fun b hb => hsame b (hin b hb)).rep, fun b hb => ?_⟩
                rcases hall b hb with q | q
                · simp only [owOut, if_neg (hnH b s q), q]
                  rw [if_pos]
                  simpa using hg
                · exact hnone b q (hin b hb)
              | _ => simp [C.isOwn] at hown
        · rw [hq'] at hc
          simp only [List.getElem?_map] at hc
          cases hc0 : (e.get s).cs[j]? with
          | none => rw [hc0] at hc; simp at hc
          | some c0 =>
            rw [hc0] at hc
            simp only [Option.map_some, Option.some.injEq] at hc
            have := give_noOwn c0
            rw [hc] at this
            simp [C.isOwn] at this
        · rw [hsh] at hd
          rw [hq', hs.dead hd]; rfl
    · have hq : e3.get s = e.get s := by rw [hget, if_neg hg]
      exact (h.slot s).frame hq (fun _ => rfl) rfl (fun _ => rfl) rfl hTM hst (fun b hb => by
        have hb' := (h.slot s).own b hb
        exact ⟨hsame b (hthere b s hb'), how b s hb' hg⟩)
  · simp only [owOut] at hb
    split at hb
    · rename_i hm; exact (hH b hm).2
    · split at hb
      · simp at hb
      · rename_i s' hs'
        exact Nat.lt_of_lt_of_le (h.lt b s' hs') hsize

/-- A new value, laid. -/
theorem lay_res {e0 e : Env} {a : Act} {w : World} {G0 G : Gh} {t : Tr} (h : Inv n e a.tmps w G) (ht : TrOk e0 t e) {w0 : World} (hst : Held n e0.length w0 w G0 G) {v : Val} {vs : List Value} {Ls : Nat → LT} {H : List Nat} {bk : Nat}
    (hH : ∀ b ∈ H, Loose e G b ∧ G.ow b ≠ none ∧ b < w.heap.size ∧ (∀ t, G0.ow b = some t → t < e0.length)) (hlen : vs.length = v.2.length) (hcell : ∀ (j : Nat) c u, v.2[j]? = some c → vs[j]? = some u → NewOk e w G w H c u (Ls j))
    (hfp : boxB v.1 bk ++ fpCells Ls 0 v.2 = H) (hnd : H.Nodup) (halive : v.1 ≠ .dead) (hbox : ∀ bv, v.1 = .box bv → ∃ ty, w.heap[bk]? = some (.cells vs.toArray ty (0, 0))) (hsize : w0.heap.size ≤ w.heap.size) (hn : ∀ b, G0.ow b = none → w0.heap[b]? ≠ none → b ∉ H) (hd : ∀ d, t.d = some d → d < n) (henv : SameEnv w0 w) :
    ∃ G', Post n (e0.puts (t.lay t.d v).ws) a w0 G0 (a.put t.d (resForm v.1 vs bk)) w G' := by
  cases hdd : t.d with
  | none =>
    simp only [Tr.lay, Act.put]
    rw [ht.puts]
    exact ⟨G, h, by rw [ht.length]; exact hst, hsize, rfl, henv⟩
  | some d =>
    have hdn := hd d hdd
    have hat := ht.dst d hdd
    have hlen' : d < e.length := Nat.lt_of_lt_of_le hdn h.elen
    simp only [Tr.lay]
    rw [(ht.put ((t.at d).lay v.1 v.2) hlen').puts, hat]
    have := h.lay (w' := w) d v.1 v.2 vs Ls bk H (Nat.le_refl _) (fun b _ _ => rfl) (fun b hb => ⟨(hH b hb).1, .inl (hH b hb).2.1, (hH b hb).2.2.1⟩) hlen hcell
      (by rw [hfp]; exact hnd) (by rw [hfp]; exact fun b hb => hb) (fun q => absurd q halive) hbox (a.put (some d) (resForm v.1 vs bk)).tmps (by rw [put_size]; exact h.size)
      (fun t' ht' hn => by rw [put_tmps]; simp [Ne.symm ht'])
      (fun hn => by
        have hu : (a.put (some d) (resForm v.1 vs bk)).tmps[d]? = some (resForm v.1 vs bk) := by
          rw [put_tmps]
          simp [h.size, hdn]
        revert hu halive
        cases v.1 <;> simp [FormIs, resForm])
    refine ⟨_, this, ⟨fun b q1 q2 => ?_, fun s hs => ?_, fun b t' q1 q2 q3 => ?_⟩, hsize, put_defers _ _ _, henv⟩
    · have h1 := hst.still b q1 q2
      refine ⟨h1.1, ?_⟩
      simp only [Gh.lay]
      rw [if_neg (hn b q1 q2)]
      exact h1.2
    · rw [show (G.lay d vs Ls bk H).vs s = G.vs s from upd_ne _ _ (by omega), show (G.lay d vs Ls bk H).lt s = G.lt s from upd_ne _ _ (by omega), show (G.lay d vs Ls bk H).bk s = G.bk s from upd_ne _ _ (by omega)]
      exact hst.vs s hs
    · have hl : (e.set d ((e.get d).lay v.1 v.2)).length = e0.length := by rw [List.length_set, ht.length]
      have h1 := hst.out b t' q1 (by rw [← hl]; exact q2) q3
      refine ⟨h1.1, ?_⟩
      simp only [Gh.lay]
      rw [if_neg fun hb => by have := (hH b hb).2.2.2 t' q1; omega]
      exact h1.2

end back

/-- A function of the book. -/
theorem semD_ok {f : Nat} {md : List Bool} {vals : List Val} {P : Program} [Tabs P] : ∀ {bk : Book} {r : Val × List (List C)}, BookOk P bk → semD f md vals some bk = some r →
    ∃ t, FnOk P f t ∧ t.md = md ∧ ∃ d b, decA t.n t.md 0 t.args vals = some d ∧ t.T d = some b ∧ retOf t.n t.results t.md (encA t.args d) (t.out.enc b) = some r
  | [], r, _, h => by simp [semD] at h
  | (g, t) :: bk, r, hb, h => by
    simp only [semD] at h
    split at h
    · rename_i d h1 h2 h3
      have hg := Nat.eq_of_beq_eq_true h1
      subst hg
      cases hT : t.T d with
      | none => rw [hT] at h; simp at h
      | some b =>
        rw [hT] at h
        simp only [Option.bind_some] at h
        have h' : retOf t.n t.results t.md (encA t.args d) (t.out.enc b) = some r := by
          cases hq : retOf t.n t.results t.md (encA t.args d) (t.out.enc b) with
          | none => rw [hq] at h; simp at h
          | some r' => rw [hq] at h; simpa using h
        exact ⟨t, hb.1, by simpa using h2, d, b, h3, hT, h'⟩
    · exact semD_ok hb.2 h

end Go.Mach
/- The machine, part nq: a call's start, where something is lent. No condition: lemmas. -/
namespace Go.Mach
set_option linter.unusedVariables false
set_option linter.unusedSimpArgs false

/-! ### Lists that are sent, and come back -/
theorem sent_rep {w : World} {d : Bool} {k : K} {l : List k.T} {L : LT} {v0 x : Value} (h : RepL true w k.size (Rep d w k) l L v0) (hs : SliceIs k.size l.length (hdOf L) none none x) :
    RepL true w k.size (Rep d w k) l (sentL L) x := by
  obtain ⟨_, _, hs⟩ := hs
  rcases h with ⟨rfl, rfl, a, cap, rfl, _⟩ | ⟨b, off, cap, rows, rfl, rfl, h3, h4, h0, h5, h6⟩
  · simp only [hdOf] at hs
    obtain ⟨a', rfl, _⟩ := hs
    exact .inl ⟨rfl, rfl, a', 0, rfl, fun _ => rfl⟩
  · simp only [hdOf, Option.getD_none, Nat.sub_zero] at hs
    obtain ⟨_, o, rfl, ho⟩ := hs
    cases cap with
    | zero =>
      have : l = [] := List.eq_nil_of_length_eq_zero (by omega)
      subst this
      exact .inl ⟨rfl, rfl, _, 0, rfl, fun _ => rfl⟩
    | succ c =>
      have := ho (by omega)
      exact .inr ⟨b, off, c + 1, rows, rfl, by rw [this]; simp, h3, h4, h0, h5, h6⟩

def backL (L L1 : LT) : LT := match hdOf (sentL L) with
  | none => L
  | some _ => L1

theorem back_rep {w w1 : World} {d d1 : Bool} {k : K} {l l1 : List k.T} {L L1 : LT} {v0 x : Value} (h : RepL true w k.size (Rep d w k) l L v0) (hs : SliceIs k.size l.length (hdOf L) none none x)
    (h1 : RepL true w1 k.size (Rep d1 w1 k) l1 L1 x) (hh : hdOf L1 = hdOf (sentL L)) (hsame : hdOf (sentL L) = none → ∀ b ∈ (hdOf L).toList.map (·.1), w1.heap[b]? = w.heap[b]?) :
    RepL true w1 k.size (Rep d1 w1 k) l1 (backL L L1) v0 ∧ l1.length = l.length ∧ hdOf (backL L L1) = hdOf L := by
  obtain ⟨_, _, hs⟩ := hs
  rcases h with ⟨rfl, rfl, a, cap, rfl, hc⟩ | ⟨b, off, cap, rows, rfl, rfl, h3, h4, h0, h5, h6⟩
  · simp only [sentL, hdOf] at hh
    simp only [backL, sentL, hdOf]
    rcases h1 with ⟨rfl, rfl, _, _, _, _⟩ | ⟨b1, off1, cap1, rows1, rfl, _⟩
    · exact ⟨.inl ⟨rfl, rfl, a, cap, rfl, hc⟩, rfl, trivial⟩
    · simp [hdOf] at hh
  · simp only [hdOf, Option.getD_none, Nat.sub_zero] at hs
    obtain ⟨_, o, rfl, ho⟩ := hs
    cases cap with
    | zero =>
      have : l = [] := List.eq_nil_of_length_eq_zero (by omega)
      subst this
      have hrows : rows = [] := List.eq_nil_of_length_eq_zero (by simpa using h4)
      subst hrows
      simp only [sentL, hdOf] at hh hsame
      simp only [backL, sentL, hdOf]
      have hb := hsame trivial b (by simp)
      rcases h1 with ⟨rfl, rfl, _, _, _, _⟩ | ⟨b1, off1, cap1, rows1, rfl, _⟩
      · exact ⟨.inr ⟨b, off, 0, [], rfl, rfl, by simp, rfl, by rw [hb]; exact h0, fun hd => (h5 hd).same hb, fun i x r hx => by simp at hx⟩, rfl, trivial⟩
      · simp [hdOf] at hh
    | succ c =>
      have hoff := ho (by omega)
      simp only [sentL, hdOf] at hh
      simp only [backL, sentL, hdOf]
      rcases h1 with ⟨rfl, rfl, _, _, _, _⟩ | ⟨b1, off1, cap1, rows1, rfl, hx, g3, g4, g0, g5, g6⟩
      · simp [hdOf] at hh
      · simp only [hdOf, Option.some.injEq, Prod.mk.injEq] at hh
        obtain ⟨rfl, rfl, rfl⟩ := hh
        have hlen : l.length = l1.length := by
          simp only [Value.slice.injEq] at hx
          exact hx.2.1
        refine ⟨.inr ⟨b1, off1, c + 1, rows1, rfl, by rw [hlen], g3, g4, g0, g5, g6⟩, hlen.symm, rfl⟩

theorem fpCells_nodup {lt : Nat → LT} : ∀ {cs : List C} {i : Nat}, (∀ (j : Nat) c, cs[j]? = some c → (ownB c (lt (i + j))).Nodup) →
    (∀ (j j' : Nat) c c' b, j ≠ j' → cs[j]? = some c → cs[j']? = some c' → b ∈ ownB c (lt (i + j)) → b ∉ ownB c' (lt (i + j'))) → (fpCells lt i cs).Nodup
  | [], i, _, _ => List.nodup_nil
  | c :: r, i, h1, h2 => by
    simp only [fpCells]
    rw [List.nodup_append]
    refine ⟨by simpa using h1 0 c rfl, fpCells_nodup (fun j c' hc => ?_) (fun j j' c1 c2 b hne q1 q2 hb => ?_), fun a ha b hb hab => ?_⟩
    · have := h1 (j + 1) c' (by simpa using hc)
      rw [show i + 1 + j = i + (j + 1) by omega]; exact this
    · have := h2 (j + 1) (j' + 1) c1 c2 b (by omega) (by simpa using q1) (by simpa using q2)
      rw [show i + 1 + j = i + (j + 1) by omega] at hb
      rw [show i + 1 + j' = i + (j' + 1) by omega]
      exact this hb
    · subst hab
      obtain ⟨j, c', q1, q2⟩ := fpCells_of hb
      have := h2 0 (j + 1) c c' a (by omega) rfl (by simpa using q1) (by simpa using ha)
      rw [show i + 1 + j = i + (j + 1) by omega] at q2
      exact this q2

theorem ownBox_get : ∀ {cs cs' : List C}, ownBox cs = some cs' → cs'.length = cs.length ∧ ∀ (j : Nat) c c', cs[j]? = some c → cs'[j]? = some c' →
    (∃ rv sv d k l, c = .own rv sv d k l ∧ c' = .own 0 0 d k l) ∨ (c' = c ∧ c.isOwn = false ∧ ((∃ k x, c = .dat k x) ∨ c = .nil ∨ (∃ a j, c = .pim a j) ∨ ∃ f, c = .fn f []))
  | [], cs', h => by
    simp only [ownBox, Option.some.injEq] at h
    subst h
    exact ⟨rfl, fun j c c' hc => by simp at hc⟩
  | c :: r, cs', h => by
    simp only [ownBox] at h
    split at h
    · simp at h
    · rename_i r' hr
      obtain ⟨g1, g2⟩ := ownBox_get hr
      have fin : ∀ c', cs' = c' :: r' → ((∃ rv sv d k l, c = .own rv sv d k l ∧ c' = .own 0 0 d k l) ∨ (c' = c ∧ c.isOwn = false ∧ ((∃ k x, c = .dat k x) ∨ c = .nil ∨ (∃ a j, c = .pim a j) ∨ ∃ f, c = .fn f []))) →
          cs'.length = (c :: r).length ∧ ∀ (j : Nat) a b, (c :: r)[j]? = some a → cs'[j]? = some b →
            (∃ rv sv d k l, a = .own rv sv d k l ∧ b = .own 0 0 d k l) ∨ (b = a ∧ a.isOwn = false ∧ ((∃ k x, a = .dat k x) ∨ a = .nil ∨ (∃ x j, a = .pim x j) ∨ ∃ f, a = .fn f [])) := by
        rintro c' rfl hc
        refine ⟨by simp [g1], fun j a b ha hb => ?_⟩
        cases j with
        | zero =>
          simp only [List.getElem?_cons_zero, Option.some.injEq] at ha hb
          subst ha hb
          exact hc
        | succ j => exact g2 j a b (by simpa using ha) (by simpa using hb)
      split at h
      · simp only [Option.some.injEq] at h
        exact fin _ h.symm (.inl ⟨_, _, _, _, _, rfl, rfl⟩)
      · simp only [Option.some.injEq] at h
        exact fin _ h.symm (.inr ⟨rfl, rfl, .inl ⟨_, _, rfl⟩⟩)
      · simp only [Option.some.injEq] at h
        exact fin _ h.symm (.inr ⟨rfl, rfl, .inr (.inl rfl)⟩)
      · simp only [Option.some.injEq] at h
        exact fin _ h.symm (.inr ⟨rfl, rfl, .inr (.inr (.inl ⟨_, _, rfl⟩))⟩)
      · simp only [Option.some.injEq] at h
        exact fin _ h.symm (.inr ⟨rfl, rfl, .inr (.inr (.inr ⟨_, rfl⟩))⟩)
      · simp at h

theorem readTargets_mem {md : List Bool} {lent : List (Nat × Nat)} : ∀ {args : List Val} {i j : Nat} {v : Val} {s : Nat}, args[j]? = some v → md.getD (i + j) false = false → s ∈ v.2.flatMap (readCell lent) → s ∈ readTargets md lent i args
  | [], i, j, v, s, h, _, _ => by simp at h
  | (sh, cs) :: r, i, 0, v, s, h, hm, hs => by
    simp only [List.getElem?_cons_zero, Option.some.injEq] at h
    subst h
    simp only [Nat.add_zero] at hm
    simp only [readTargets, hm, Bool.false_eq_true, if_false, List.mem_append]
    exact .inl hs
  | (sh, cs) :: r, i, j + 1, v, s, h, hm, hs => by
    have := readTargets_mem (md := md) (lent := lent) (args := r) (i := i + 1) (j := j) (by simpa using h) (by rw [show i + 1 + j = i + (j + 1) by omega]; exact hm) hs
    simp only [readTargets]
    split
    · exact this
    · simp only [List.mem_append]; exact .inr this

theorem readTargets_of {md : List Bool} {lent : List (Nat × Nat)} : ∀ {args : List Val} {i s : Nat}, s ∈ readTargets md lent i args → ∃ (j : Nat) (v : Val), args[j]? = some v ∧ md.getD (i + j) false = false ∧ s ∈ v.2.flatMap (readCell lent)
  | [], i, s, h => by simp [readTargets] at h
  | (sh, cs) :: r, i, s, h => by
    simp only [readTargets] at h
    split at h
    · obtain ⟨j, v, h1, h2, h3⟩ := readTargets_of h
      exact ⟨j + 1, v, by simpa using h1, by rw [show i + (j + 1) = i + 1 + j by omega]; exact h2, h3⟩
    · rename_i hm
      simp only [List.mem_append] at h
      rcases h with h | h
      · exact ⟨0, _, rfl, by simpa using hm, h⟩
      · obtain ⟨j, v, h1, h2, h3⟩ := readTargets_of h
        exact ⟨j + 1, v, by simpa using h1, by rw [show i + (j + 1) = i + 1 + j by omega]; exact h2, h3⟩

section lent
variable {n : Nat} {e : Env} {tm : Array Value} {w : World} {G : Gh}

theorem blkL_nodup (h : Inv n e tm w G) {l : Lend} (hl : LendIn e l) : (blkL e G l).Nodup := by
  cases l with
  | box s => exact (h.slot s).nodup
  | cell s j p k =>
    obtain ⟨rv, sv, d, k0, l0, x, h1, h2, h3, h4⟩ := hl
    obtain ⟨o1, o2, o3⟩ := h.ownBlocks h1
    rw [ownB_ownD] at o3
    simp only [blkL, getD_some h1]
    have key : ∀ L : LT, (ownD d k L).Nodup → (ownD d k (sentL L)).Nodup := by
      intro L hL
      cases L with
      | node b off cap rows =>
        cases cap with
        | zero => cases d <;> simp [sentL, ownD, fp, hdOf]
        | succ c => exact hL
      | _ => exact hL
    refine key _ ?_
    by_cases hp : p = []
    · subst hp
      rw [getP_nil] at h4
      simp only [Sigma.mk.injEq] at h4
      obtain ⟨rfl, _⟩ := h4
      exact o3
    · obtain rfl := h2.resolve_left hp
      obtain ⟨v, hv, hcell⟩ := h.val h1
      obtain ⟨v', rest, f1, f2, f3⟩ := focus (fun _ l => l) p k0 l0 (G.lt s j) v hcell.1 h3
      rw [h4] at f2
      have := f2.nodup_iff.1 (by simpa [ownD] using o3)
      rw [List.nodup_append] at this
      simpa [ownD] using this.1

/-- A cell that is lent, at both ends. -/
structure CellSent (e : Env) (args : List Val) (q : Sent) (md : List Bool) (i c s j : Nat) (p : Path) (k : K) (v v' : Val) (rv sv sv' : Nat) (d : Bool) (k0 : K) (l0 : List k0.T) (y : List k.T) : Prop where
  arg : args[i]? = some v
  val : q.vals[i]? = some v'
  md : md.getD i false = true
  sh : v'.1 = v.1
  ref : v.2[c]? = some (.ref s j rv sv p none none k)
  own : (e.get s).cs[j]? = some (.own rv sv' d k0 l0)
  path : p = [] ∨ (svOk p sv sv' = true ∧ d = true)
  get : getP k0 l0 p = ⟨k, y⟩
  sent : v'.2[c]? = some (.own 0 0 d k y)

theorem sees_cell {t : Tr} (hs : Sees t.at e) {s j : Nat} {c : C} (h : (t.at s).cs.getD j .dead = c) (hc : c ≠ .dead) : (e.get s).cs[j]? = some c := by
  have := some_of_getD h hc
  rcases hs s with q | q
  · rw [q] at this; exact this
  · rw [q] at this; simp at this

theorem lent_cell {t : Tr} (hs : Sees t.at e) {md : List Bool} {args : List Val} {q : Sent} (hsend : send t md [] 0 args = some q) {i c s j : Nat} {p : Path} {k : K} (hx : (i, c, .cell s j p k) ∈ lendAt 0 q.lends) :
    ∃ v v' rv sv sv' d k0 l0 y, CellSent e args q md i c s j p k v v' rv sv sv' d k0 l0 y := by
  obtain ⟨g1, g2, g3⟩ := send_get hsend
  obtain ⟨ls, _, h2, h3⟩ := mem_lendAt.1 hx
  dsimp only at h2 h3
  rw [Nat.sub_zero] at h2
  have hil : i < args.length := by rw [← g2]; exact (List.getElem?_eq_some_iff.1 h2).1
  obtain ⟨v, hv⟩ : ∃ v, args[i]? = some v := ⟨_, List.getElem?_eq_getElem hil⟩
  obtain ⟨v', hv'⟩ : ∃ v', q.vals[i]? = some v' := ⟨_, List.getElem?_eq_getElem (by rw [g1]; exact hil)⟩
  rcases g3 i v v' ls hv hv' h2 with ⟨_, _, _, rfl⟩ | ⟨_, s', bv, cs, _, _, _, _, rfl⟩ | ⟨hm, hsh, hlc⟩
  · simp at h3
  · cases c with
    | zero => simp at h3
    | succ c => simp at h3
  · obtain ⟨l1, l2, l3⟩ := lendCells_get hlc
    have hcl : c < v.2.length := by rw [← l2]; exact (List.getElem?_eq_some_iff.1 h3).1
    obtain ⟨a, ha⟩ : ∃ a, v.2[c]? = some a := ⟨_, List.getElem?_eq_getElem hcl⟩
    obtain ⟨a', ha'⟩ : ∃ a', v'.2[c]? = some a' := ⟨_, List.getElem?_eq_getElem (by rw [l1]; exact hcl)⟩
    rcases l3 c a a' _ ha ha' h3 with ⟨_, _, _, _, hn, _⟩ | ⟨s', j', rv, sv, p', k', rv', sv', d, k0, l0, x, rfl, hat, rfl, hp, hcast, rfl, hl⟩
    · simp at hn
    · simp only [Option.some.injEq, Lend.cell.injEq] at hl
      obtain ⟨rfl, rfl, rfl, rfl⟩ := hl
      exact ⟨v, v', rv, sv, sv', d, k0, l0, x, hv, hv', by simpa using hm, hsh, ha, sees_cell hs hat (by simp), hp, castL_some hcast, ha'⟩

structure BoxSent (e : Env) (args : List Val) (q : Sent) (md : List Bool) (i s bv : Nat) (cs : List C) : Prop where
  arg : args[i]? = some (.one, [.bptr s bv 0])
  val : q.vals[i]? = some (.box 0, cs)
  md : md.getD i false = true
  lends : q.lends[i]? = some [some (.box s)]
  box : (e.get s).sh = .box bv
  own : ownBox (e.get s).cs = some cs

theorem sees_box {t : Tr} (hs : Sees t.at e) {s bv : Nat} (h : (t.at s).sh = .box bv) : t.at s = e.get s := by
  rcases hs s with q | q
  · exact q
  · rw [q] at h; simp at h

theorem lent_box {t : Tr} (hs : Sees t.at e) {md : List Bool} {args : List Val} {q : Sent} (hsend : send t md [] 0 args = some q) {i c s : Nat} (hx : (i, c, .box s) ∈ lendAt 0 q.lends) :
    c = 0 ∧ ∃ bv cs, BoxSent e args q md i s bv cs := by
  obtain ⟨g1, g2, g3⟩ := send_get hsend
  obtain ⟨ls, _, h2, h3⟩ := mem_lendAt.1 hx
  dsimp only at h2 h3
  rw [Nat.sub_zero] at h2
  have hil : i < args.length := by rw [← g2]; exact (List.getElem?_eq_some_iff.1 h2).1
  obtain ⟨v, hv⟩ : ∃ v, args[i]? = some v := ⟨_, List.getElem?_eq_getElem hil⟩
  obtain ⟨v', hv'⟩ : ∃ v', q.vals[i]? = some v' := ⟨_, List.getElem?_eq_getElem (by rw [g1]; exact hil)⟩
  rcases g3 i v v' ls hv hv' h2 with ⟨_, _, _, rfl⟩ | ⟨hm, s', bv, cs, rfl, hsh, hob, rfl, rfl⟩ | ⟨hm, hsh, hlc⟩
  · simp at h3
  · cases c with
    | zero =>
      simp only [List.getElem?_cons_zero, Option.some.injEq, Lend.box.injEq] at h3
      subst h3
      have := sees_box hs hsh
      rw [this] at hsh hob
      exact ⟨rfl, bv, cs, hv, hv', by simpa using hm, h2, hsh, hob⟩
    | succ c => simp at h3
  · obtain ⟨l1, l2, l3⟩ := lendCells_get hlc
    have hcl : c < v.2.length := by rw [← l2]; exact (List.getElem?_eq_some_iff.1 h3).1
    obtain ⟨a, ha⟩ : ∃ a, v.2[c]? = some a := ⟨_, List.getElem?_eq_getElem hcl⟩
    obtain ⟨a', ha'⟩ : ∃ a', v'.2[c]? = some a' := ⟨_, List.getElem?_eq_getElem (by rw [l1]; exact hcl)⟩
    rcases l3 c a a' _ ha ha' h3 with ⟨_, _, _, _, hn, _⟩ | ⟨s', j', rv, sv, p', k', rv', sv', d, k0, l0, x, rfl, hat, rfl, hp, hcast, rfl, hl⟩
    · simp at hn
    · simp at hl

/-- All of what is lent is there. -/
theorem lends_in (h : Inv n e tm w G) {t : Tr} (hs : Sees t.at e) {md : List Bool} {args : List Val} {us : List Value} (ha : ArgsOk e w G args us) {q : Sent} (hsend : send t md [] 0 args = some q) :
    ∀ x ∈ lendAt 0 q.lends, LendIn e x.2.2 ∧ x.1 < args.length := by
  rintro ⟨i, c, l⟩ hx
  cases l with
  | box s =>
    obtain ⟨_, bv, cs, hb⟩ := lent_box hs hsend hx
    exact ⟨⟨bv, hb.box⟩, (List.getElem?_eq_some_iff.1 hb.arg).1⟩
  | cell s j p k =>
    obtain ⟨v, v', rv, sv, sv', d, k0, l0, y, hc⟩ := lent_cell hs hsend hx
    have hil := (List.getElem?_eq_some_iff.1 hc.arg).1
    obtain ⟨vs, Ls, hval⟩ := ha.2 i v _ hc.arg (List.getElem?_eq_getElem (by rw [ha.1]; exact hil))
    have hcl : c < vs.length := by rw [hval.cells.len]; exact (List.getElem?_eq_some_iff.1 hc.ref).1
    have := ref_reads h (hval.cells.cell c _ _ hc.ref (List.getElem?_eq_getElem hcl)) hc.own hc.path hc.get
    exact ⟨⟨rv, sv', d, k0, l0, y, hc.own, hc.path.imp id And.right, this.2.1, hc.get⟩, hil⟩

end lent

end Go.Mach
