/- Parts of a proof, packed: see the last text for what is proved. No condition: definitions and lemmas. -/
import Derived.Test.YtppjdpcmaipoaaaGreatZc
import Derived.Laws.StructEq
import Derived.WalkKit
import Derived.ProofKit
import Derived.ChangeOld
import Derived.Below
import Derived.SizedLaws
import Derived.Shelf.SlSortCmp.WholeK
import Derived.Shelf.SlSortCmp.NoneTotal
import Derived.Shelf.SlicesG.Cmp
import Derived.Shelf.Lay
import Derived.Ground.SlsfProg
import Derived.Ground.SlgcProg
import Derived.Test.YtppjdpcmaipoaaaGreatProg
import Derived.KernelRfl
namespace Go.Mach
set_option linter.unusedVariables false
set_option linter.unusedSimpArgs false
theorem freezeAll {n : Nat} {tm : Array Value} {w : World} : ∀ {ps : List (Nat × Nat)} {e : Env} {G : Gh}, Inv n e tm w G →
  ∃ G', Inv n (freezeAt e ps) tm w G' ∧ Ext w e G (freezeAt e ps) G' ∧ ∀ s j rv sv d k l, (s, j) ∈ ps → (e.get s).cs[j]? = some (.own rv sv d k l) → ∀ b ∈ inner k (G.lt s j), G'.ow b = none
 | [], e, G, h => ⟨G, h, Ext.refl, fun s j rv sv d k l hm => by simp at hm⟩
 | (s, j) :: r, e, G, h => by
  simp only [freezeAt]
  split
  ·rename_i rv sv k l hc
   have hc' := some_of_getD hc (by simp)
   obtain ⟨G1, h1, x1, f1, l1, _⟩ := h.freeze hc'
   obtain ⟨G2, h2, x2, f2⟩ := freezeAll (ps := r) h1
   refine ⟨G2, h2, x1.trans x2, fun s' j' rv' sv' d' k' l' hm hcell b hb => ?_⟩
   by_cases hsame : s' = s ∧ j' = j
   ·obtain ⟨rfl, rfl⟩ := hsame
    rw [hc'] at hcell
    simp only [Option.some.injEq, C.own.injEq] at hcell
    obtain ⟨_, _, _, rfl, _⟩ := hcell
    exact x2.none b (f1 b hb)
   ·simp only [List.mem_cons, Prod.mk.injEq] at hm
    rcases hm with hm | hm
    ·exact absurd hm hsame
    ·have hal := slot_alive hc'
     refine f2 s' j' rv' sv' d' k' l' hm ?_ b (by rw [x1.lt]; exact hb)
     by_cases g : s' = s
     ·subst g
      rw [get_set_self hal]
      simp only
      rw [List.getElem?_set_ne (fun q => hsame ⟨rfl, q.symm⟩)]
      exact hcell
     ·rw [get_set_ne g]; exact hcell
  ·rename_i hno
   obtain ⟨G2, h2, x2, f2⟩ := freezeAll (ps := r) h
   refine ⟨G2, h2, x2, fun s' j' rv' sv' d' k' l' hm hcell b hb => ?_⟩
   simp only [List.mem_cons, Prod.mk.injEq] at hm
   rcases hm with ⟨rfl, rfl⟩ | hm
   ·cases d' with
    | true => exact absurd (getD_some hcell .dead) (hno rv' sv' k' l')
    | false => exact x2.none b ((h.ownBlocks hcell).2.1 rfl b hb)
   ·exact f2 s' j' rv' sv' d' k' l' hm hcell b hb
def ResOk (w : World) (ow : Nat → Option Nat) : C → Value → LT → Prop
 | .dat k x, v, L => Rep false w k x L [v] ∧ ∀ b ∈ fp k L, ow b = none
 | .nil, v, _ => v = .slice none 0 0
 | .own _ _ d k l, v, L => RepL true w k.size (Rep d w k) l L v ∧ (d = false → ∀ b ∈ inner k L, ow b = none)
 | .fn f [], v, _ => v = .func (.func f) #[] #[]
 | _, _, _ => False
def oneOr : List Value → Value
 | [u] => u
 | us => .tuple us.toArray
def Parts : List Val → List Value → List Value → Prop
 | [], us, [] => us = []
 | v :: vs, us, u :: r => ∃ us1 us2, us = us1 ++ us2 ∧ us1.length = v.2.length ∧ u = form v.1 us1 ∧ Parts vs us2 r
 | _, _, _ => False
def rvB (P : Program) : ResultVar → RV → Bool
 | .tmp t, .tmp t' => Nat.beq t t'
 | .cell t ty, .cell t' g m => Nat.beq t t' && (tyOf P ty).ok && (tyOf P ty).agg == g && Nat.beq (tyOf P ty).size m
 | _, _ => false
def rvsB (P : Program) : List ResultVar → List RV → Bool
 | [], [] => true
 | r :: rs, v :: vs => rvB P r v && rvsB P rs vs
 | _, _ => false
def resM (tm : Array Value) : ResultVar → Sem Value
 | .tmp t => pure (tm.getD t undef)
 | .cell a t => do loadVar t (← asAddr (tm.getD a undef))
theorem run_loadVar {P : Program} {w : World} {t : Nat} (hok : (tyOf P t).ok = true) {b o' : Nat} {vs : List Value} (hrow : RowAt w b o' vs) (hl : vs.length = (tyOf P t).size) :
  (loadVar t ⟨b, o', none⟩).run P w = .ok (form (partShape (tyOf P t)) vs) w := by
 have := run_loadAt hok hrow hl
 simpa only [Instr.loadAt, Instr.sureAddr, Sem.run_bind, Sem.run_pure, Result.andThen_ok] using this
theorem resVals_ok {P : Program} {n : Nat} {e : Env} {tm : Array Value} {w : World} {G : Gh} (h : Inv n e tm w G) : ∀ {rs : List RV} {qs : List ResultVar} {vs : List Val}, rvsB P qs rs = true → resVals n e.get rs = some vs →
  ∃ us Ls r, CellsOk e w G (vs.flatMap (·.2)) us Ls ∧ (∀ c ∈ vs.flatMap (·.2), c.isOwn = false) ∧ Parts vs us r ∧ (qs.mapM (resM tm)).run P w = .ok r w
 | [], [], vs, _, hv => by
  simp only [resVals, Option.some.injEq] at hv
  subst hv
  exact ⟨[], fun _ => .leaf, [], ⟨rfl, fun j c v hc _ => by simp at hc⟩, by simp, rfl, by simp [List.mapM_nil, Sem.run]⟩
 | [], _ :: _, vs, hq, _ => by simp [rvsB] at hq
 | _ :: _, [], vs, hq, _ => by simp [rvsB] at hq
 | v0 :: rs, q0 :: qs, vs, hq, hv => by
  simp only [rvsB, Bool.and_eq_true] at hq
  obtain ⟨hq0, hqs⟩ := hq
  have key : ∃ v vs' us1 Ls1 u, resVals n e.get rs = some vs' ∧ vs = v :: vs' ∧ CellsOk e w G v.2 us1 Ls1 ∧ (∀ c ∈ v.2, c.isOwn = false) ∧ u = form v.1 us1 ∧ (resM tm q0).run P w = .ok u w := by
   cases v0 with
   | tmp t =>
    simp only [resVals] at hv
    split at hv
    ·rename_i v vs' ht ho hr
     simp only [Option.some.injEq] at hv
     have htn : t < n := Nat.le_of_ble_eq_true ht
     obtain ⟨us1, Ls1, hval⟩ := opd_ok (a := ⟨tm, []⟩) (x := .tmp t) h (fun s => .inl rfl) (fun t' ht' => by cases ht'; exact htn) ho
     cases q0 with
     | tmp t' =>
      have := Nat.eq_of_beq_eq_true hq0
      subst this
      exact ⟨v, vs', us1, Ls1, _, hr, hv.symm, hval.cells, hval.noOwn, hval.form, rfl⟩
     | cell a b => simp [rvB] at hq0
    ·simp at hv
   | cell t g m =>
    simp only [resVals] at hv
    split at hv
    ·rename_i c vs' ht ho hr
     split at hv
     ·rename_i cs hcs
      simp only [Option.some.injEq] at hv
      have htn : t < n := Nat.le_of_ble_eq_true ht
      obtain ⟨us1, Ls1, hval⟩ := opd_ok (a := ⟨tm, []⟩) (x := .tmp t) h (fun s => .inl rfl) (fun t' ht' => by cases ht'; exact htn) ho
      cases q0 with
      | tmp t' => simp [rvB] at hq0
      | cell t' ty =>
       simp only [rvB, Bool.and_eq_true] at hq0
       obtain ⟨⟨⟨q1, q2⟩, q3⟩, q4⟩ := hq0
       have := Nat.eq_of_beq_eq_true q1
       subst this
       have hm := Nat.eq_of_beq_eq_true q4
       have hg : (tyOf P ty).agg = g := by simpa using q3
       have hlen := hval.cells.len
       match us1, hlen with
       | [u1], _ =>
        have hc := hval.cells.cell 0 c u1 rfl rfl
        obtain ⟨b, o', ws, Ls, k1, k2, k3, k4, k5⟩ := load_ok (a := ⟨tm, []⟩) h (fun s => .inl rfl) hc hcs
        have hf := hval.form
        have hu : tm.getD t' undef = .pointer (some ⟨b, o', none⟩) := by
         rw [← k1]; exact hf
        refine ⟨_, vs', ws, Ls, _, hr, hv.symm, k4, k5, rfl, ?_⟩
        have := run_loadVar (P := P) q2 k3 (by rw [k2, hm])
        simp only [resM, hu, asAddr, Sem.run_bind, Sem.run_pure, Result.andThen_ok]
        rw [this]
        simp only [partShape, hg]
        cases g <;> rfl
     ·simp at hv
    ·simp at hv
  obtain ⟨v, vs', us1, Ls1, u, hr, rfl, hc, hno, hu, hrun⟩ := key
  obtain ⟨us, Ls, r, h1, h2, h3, h4⟩ := resVals_ok h hqs hr
  refine ⟨us1 ++ us, fun j => if j < v.2.length then Ls1 j else Ls (j - v.2.length), u :: r, ?_, ?_, ⟨us1, us, rfl, hc.len, hu, h3⟩, ?_⟩
  ·refine ⟨by simp [hc.len, h1.len], fun j c u hcj hu => ?_⟩
   simp only [List.flatMap_cons] at hcj
   by_cases hj : j < v.2.length
   ·rw [if_pos hj]
    rw [List.getElem?_append_left hj] at hcj
    rw [List.getElem?_append_left (by rw [hc.len]; exact hj)] at hu
    exact hc.cell j c u hcj hu
   ·rw [if_neg hj]
    rw [List.getElem?_append_right (by omega)] at hcj
    rw [List.getElem?_append_right (by rw [hc.len]; omega), hc.len] at hu
    exact h1.cell _ c u hcj hu
  ·intro c hcm
   simp only [List.flatMap_cons, List.mem_append] at hcm
   rcases hcm with hcm | hcm
   ·exact hno c hcm
   ·exact h2 c hcm
  ·simp only [List.mapM_cons, Sem.run_bind, hrun, Result.andThen_ok, h4, Sem.run_pure]
theorem results_ok {P : Program} {fn : Func} {tm : Array Value} {w : World} {r : List Value} (h : (fn.results.toList.mapM (resM tm)).run P w = .ok r w) : (results fn tm).run P w = .ok (oneOr r) w := by
 have h' : (fn.results.mapM (resM tm)).run P w = .ok r.toArray w := by
  have : fn.results = fn.results.toList.toArray := by simp
  rw [this, List.mapM_toArray]
  simp only [Sem.run_map, h]
  rfl
 unfold results
 simp only [Sem.run_bind]
 have he : ∀ g : ResultVar → Sem Value, (∀ q, g q = resM tm q) → (fn.results.mapM g).run P w = .ok r.toArray w := fun g hg => by rw [show g = resM tm from funext hg]; exact h'
 rw [he _ (fun q => by cases q <;> rfl)]
 simp only [Result.andThen_ok]
 match r with
 | [] => rfl
 | [u] => rfl
 | _ :: _ :: _ => rfl
theorem parts_tuple : ∀ {vs : List Val} {us r : List Value}, Parts vs us r → vs.all oneOk = true → r = cutVals (vs.map fun v => match v.1 with | .one => none | _ => some v.2.length) us
 | [], us, [], h, _ => by simp [cutVals]
 | [], us, _ :: _, h, _ => by simp [Parts] at h
 | v :: vs, us, [], h, _ => by simp [Parts] at h
 | v :: vs, us, u :: r, h, ha => by
  obtain ⟨us1, us2, rfl, h1, h2, h3⟩ := h
  simp only [List.all_cons, Bool.and_eq_true] at ha
  have ih := parts_tuple h3 ha.2
  have hv := ha.1
  obtain ⟨sh, cs⟩ := v
  simp only [oneOk] at hv
  cases sh with
  | one =>
   simp only at hv
   have hl := Nat.eq_of_beq_eq_true hv
   simp only at h1
   rw [hl] at h1
   match us1, h1 with
   | [u1], _ =>
    simp only [List.map_cons, cutVals, List.cons_append, List.nil_append, List.headD_cons, List.drop_succ_cons, List.drop_zero]
    rw [h2, ih]
    rfl
  | agg =>
   simp only at h1
   simp only [List.map_cons, cutVals]
   rw [h2, ← h1, List.take_left, List.drop_left, ih]
   rfl
  | _ => simp at hv
theorem resU_form {vs : List Val} {us r : List Value} {sh : Sh} (h : Parts vs us r) (hs : tupSh vs = some sh) : oneOr r = form sh us ∧ sh ≠ .dead ∧ ∀ bv, sh ≠ .box bv := by
 unfold tupSh at hs
 split at hs
 ·rename_i v
  split at hs
  ·rename_i hv
   simp only [Option.some.injEq] at hs
   subst hs
   match r, h with
   | [u], h =>
    obtain ⟨us1, us2, rfl, h1, h2, h3⟩ := h
    simp only [Parts] at h3
    subst h3
    simp only [List.append_nil]
    refine ⟨h2, ?_, ?_⟩
    ·intro q; rw [oneOk, q] at hv; simp at hv
    ·intro bv q; rw [oneOk, q] at hv; simp at hv
   | [], h => simp [Parts] at h
   | _ :: _ :: _, h =>
    obtain ⟨_, _, _, _, _, h3⟩ := h
    simp [Parts] at h3
  ·simp at hs
 ·rename_i hne
  split at hs
  ·rename_i ha
   simp only [Option.some.injEq] at hs
   subst hs
   have := parts_tuple h ha
   refine ⟨?_, by simp, by simp⟩
   have hr : ∀ u, r ≠ [u] := by
    intro u q
    subst q
    match vs, h with
    | [v], _ => exact hne v rfl
    | [], h => simp [Parts] at h
    | _ :: _ :: _, h =>
     obtain ⟨_, _, _, _, _, h3⟩ := h
     simp [Parts] at h3
   have hone : oneOr r = .tuple r.toArray := by
    match r, hr with
    | [], _ => rfl
    | [u], hr => exact absurd rfl (hr u)
    | _ :: _ :: _, _ => rfl
   rw [hone, this]
   rfl
  ·simp at hs
theorem resCs_get {get : Nat → Slot} : ∀ {cs cs' : List C}, resCs get cs = some cs' → cs'.length = cs.length ∧ ∀ (j : Nat) c c', cs[j]? = some c → cs'[j]? = some c' → resC get c = some c'
 | [], cs', h => by
  simp only [resCs, Option.some.injEq] at h
  subst h
  exact ⟨rfl, fun j c c' hc => by simp at hc⟩
 | c :: r, cs', h => by
  simp only [resCs] at h
  split at h
  ·rename_i c1 r1 h1 h2
   simp only [Option.some.injEq] at h
   subst h
   obtain ⟨g1, g2⟩ := resCs_get h2
   refine ⟨by simp [g1], fun j a b ha hb => ?_⟩
   cases j with
   | zero =>
    simp only [List.getElem?_cons_zero, Option.some.injEq] at ha hb
    subst ha hb
    exact h1
   | succ j => exact g2 j a b (by simpa using ha) (by simpa using hb)
  ·simp at h
theorem deepAt_mem : ∀ {cs : List C} {s j rv sv : Nat} {q : Nat × Nat} {p : Path} {lo hi : Option Nat} {k : K}, (C.ref s j rv sv (q :: p) lo hi k) ∈ cs → (s, j) ∈ deepAt cs
 | [], _, _, _, _, _, _, _, _, _, h => by simp at h
 | c :: r, s, j, rv, sv, q, p, lo, hi, k, h => by
  simp only [List.mem_cons] at h
  rcases h with rfl | h
  ·simp [deepAt]
  ·have := deepAt_mem h
   cases c with
   | ref s' j' rv' sv' p' lo' hi' k' =>
    cases p' with
    | nil => simpa [deepAt] using this
    | cons a p' => simp only [deepAt, List.mem_cons]; exact .inr this
   | _ => simpa [deepAt] using this
def resForm (sh : Sh) (us : List Value) (bk : Nat) : Value := match sh with
 | .box _ => .pointer (some ⟨bk, 0, none⟩)
 | sh => form sh us
structure Ret (P : Program) (fn : Func) (n : Nat) (e1 : Env) (tm : Array Value) (w : World) (G1 : Gh) (sh : Sh) (cs : List C) (e2 : Env) (G2 : Gh) (H : List Nat) (us : List Value) (Ls : Nat → LT) (bk : Nat) : Prop where
 inv : Inv n e2 tm w G2
 held : Held n e1.length w w G1 G2
 len2 : e2.length = e1.length
 hand : Hand w e1 G1 e2 G2 H
 owner : ∀ b ∈ H, ∀ t, G2.ow b = some t → t < e2.length
 len : us.length = cs.length
 cell : ∀ (j : Nat) c v, cs[j]? = some c → us[j]? = some v → ResOk w G2.ow c v (Ls j)
 fp : boxB sh bk ++ fpCells Ls 0 cs = H
 res : (results fn tm).run P w = .ok (resForm sh us bk) w
 alive : sh ≠ .dead
 box : ∀ bv, sh = .box bv → ∃ ty, w.heap[bk]? = some (.cells us.toArray ty (0, 0))
theorem outs_none {n : Nat} {get get' : Nat → Slot} : ∀ {args : List Val} {i : Nat}, outsOf n get [] i args = outsOf n get' [] i args
 | [], i => rfl
 | (sh, cs) :: r, i => by simp only [outsOf, outs_none (n := n) (get := get) (get' := get') (args := r), List.getD_nil, Bool.false_eq_true, if_false]
theorem resCs_dead : ∀ {cs cs' : List C}, resCs (fun _ => {}) cs = some cs' → cs' = cs ∧ ∀ c ∈ cs, (∃ k x, c = .dat k x) ∨ c = .nil ∨ (∃ rv sv d k l, c = .own rv sv d k l) ∨ ∃ f, c = .fn f []
 | [], cs', h => by
  simp only [resCs, Option.some.injEq] at h
  exact ⟨h.symm, fun c hc => by simp at hc⟩
 | c :: r, cs', h => by
  simp only [resCs] at h
  split at h
  ·rename_i c1 r1 h1 h2
   simp only [Option.some.injEq] at h
   subst h
   obtain ⟨g1, g2⟩ := resCs_dead h2
   subst g1
   have : c1 = c ∧ ((∃ k x, c = .dat k x) ∨ c = .nil ∨ (∃ rv sv d k l, c = .own rv sv d k l) ∨ ∃ f, c = .fn f []) := by
    cases c with
    | dat k x => simp only [resC, Option.some.injEq] at h1; exact ⟨h1.symm, .inl ⟨k, x, rfl⟩⟩
    | nil => simp only [resC, Option.some.injEq] at h1; exact ⟨h1.symm, .inr (.inl rfl)⟩
    | own rv sv d k l => simp only [resC, Option.some.injEq] at h1; exact ⟨h1.symm, .inr (.inr (.inl ⟨rv, sv, d, k, l, rfl⟩))⟩
    | fn f caps =>
     cases caps with
     | nil => simp only [resC, Option.some.injEq] at h1; exact ⟨h1.symm, .inr (.inr (.inr ⟨f, rfl⟩))⟩
     | cons _ _ => simp [resC] at h1
    | ref s j rv sv p lo hi k => cases p <;> simp [resC, content] at h1
    | _ => simp [resC] at h1
   refine ⟨by rw [this.1], fun x hx => ?_⟩
   simp only [List.mem_cons] at hx
   rcases hx with rfl | hx
   ·exact this.2
   ·exact g2 x hx
  ·simp at h
theorem ret_box1 {P : Program} {fn : Func} {n : Nat} {t1 t0 bv : Nat} (hrs : rvsB P fn.results.toList [.tmp t1] = true) {e1 : Env} {tm : Array Value} {w : World} {G1 : Gh} (h : Inv n e1 tm w G1) (htn : t1 < n)
  (hop : opd e1.get (.tmp t1) = some (.one, [.bptr t0 bv 0])) (hsh : (e1.get t0).sh = .box bv) (hkind : ∀ c ∈ (e1.get t0).cs, (∃ k x, c = .dat k x) ∨ c = .nil ∨ (∃ rv sv d k l, c = .own rv sv d k l) ∨ ∃ f, c = .fn f []) :
  ∃ e2 G2 H us Ls bk, Ret P fn n e1 tm w G1 (.box 0) (e1.get t0).cs e2 G2 H us Ls bk := by
 have htl : t0 < e1.length := by
  rcases Nat.lt_or_ge t0 e1.length with q | q
  ·exact q
  ·rw [get_out (by omega)] at hsh; cases hsh
 have hptr : tm.getD t1 undef = .pointer (some ⟨G1.bk t0, 0, none⟩) := by
  obtain ⟨us1, Ls1, hval⟩ := opd_ok (a := ⟨tm, []⟩) (x := .tmp t1) h (fun s => .inl rfl) (fun t' ht' => by cases ht'; exact htn) hop
  have hlen := hval.cells.len
  match us1, hlen with
  | [u1], _ =>
   have hc := hval.cells.cell 0 _ u1 rfl rfl
   have hf := hval.form
   have h1 : u1 = .pointer (some ⟨G1.bk t0, 0, none⟩) := hc.2.1 hsh
   rw [← h1]
   exact hf
 have hs := h.slot t0
 have hne : (e1.get t0).sh ≠ .dead := by rw [hsh]; simp
 obtain ⟨_, ty, hblk⟩ := hs.box bv hsh
 have hfps : fpS G1 t0 (e1.get t0) = boxB (.box 0) (G1.bk t0) ++ fpCells (G1.lt t0) 0 (e1.get t0).cs := by simp only [fpS, hsh, boxB]
 have hset : Env.get (e1.set t0 { e1.get t0 with sh := .dead, cs := [] }) t0 = { e1.get t0 with sh := .dead, cs := [] } := get_set_self htl
 have hinv : Inv n (e1.set t0 { e1.get t0 with sh := .dead, cs := [] }) tm w G1 := by
  refine h.turn t0 _ h.size (fun _ _ => ⟨rfl, fun _ => rfl, rfl⟩) (fun _ _ _ => rfl) (fun _ => TM.fresh (by rw [hset]; exact Nat.le_refl _) (fun j rv sv d k l hc => by rw [hset] at hc; simp at hc) (fun bv' hc => by rw [hset] at hc; simp at hc)) still_refl
   (fun t' _ b hb' => ⟨rfl, (h.slot t').own b hb'⟩) (fun _ => ?_) h.lt
  refine ⟨fun _ => by rw [hset]; exact trivial, fun bv' hc => ?_, fun hc => ?_, fun hc => ?_, fun hc => ?_, ?_, fun b hb' => ?_, fun _ => by rw [hset]⟩
  ·rw [hset] at hc; simp at hc
  ·rw [hset] at hc; simp at hc
  ·rw [hset] at hc; simp at hc
  ·rw [hset] at hc; simp at hc
  ·rw [hset]; simp [fpS]
  ·rw [hset] at hb'; simp [fpS] at hb'
 have hres : fn.results.toList = [.tmp t1] := by
  cases hq : fn.results.toList with
  | nil => rw [hq] at hrs; simp [rvsB] at hrs
  | cons q qs =>
   rw [hq] at hrs
   simp only [rvsB, Bool.and_eq_true] at hrs
   obtain ⟨h1, h2⟩ := hrs
   cases qs with
   | cons _ _ => simp [rvsB] at h2
   | nil =>
    cases q with
    | tmp a =>
     have := Nat.eq_of_beq_eq_true h1
     rw [this]
    | cell a b => simp [rvB] at h1
 refine ⟨_, G1, fpS G1 t0 (e1.get t0), G1.vs t0, G1.lt t0, G1.bk t0, hinv, Held.refl, by simp, ⟨hs.nodup, fun b hb' => ⟨fun t' ht' => ?_, by rw [hs.own b hb']; simp, h.lt b t0 (hs.own b hb'), fun hl => hl t0 hb'⟩⟩, fun b hb' u hu => ?_, hs.len hne, fun j c v hc hv => ?_, hfps.symm, ?_, by simp, fun bv' _ => ⟨ty, hblk⟩⟩
 ·by_cases g : t' = t0
  ·subst g
   rw [hset] at ht'
   simp [fpS] at ht'
  ·rw [get_set_ne g] at ht'
   have h1 := (h.slot t').own b ht'
   rw [hs.own b hb'] at h1
   simp only [Option.some.injEq] at h1
   exact g h1.symm
 ·rw [hs.own b hb'] at hu
  simp only [Option.some.injEq] at hu
  rw [← hu]
  simpa using htl
 ·have hcell := hs.cells hne j c v hc hv
  rcases hkind c (List.mem_of_getElem? hc) with ⟨k, x, rfl⟩ | rfl | ⟨rv, sv, d, k, l, rfl⟩ | ⟨f, rfl⟩
  ·exact hcell
  ·exact hcell
  ·exact hcell
  ·obtain ⟨us', Ls', k1, k2, _⟩ := hcell
   obtain rfl := List.eq_nil_of_length_eq_zero k2
   exact k1
 ·have hu : tm.getD t1 undef = .pointer (some ⟨G1.bk t0, 0, none⟩) := hptr
  have := results_ok (P := P) (fn := fn) (tm := tm) (w := w) (r := [.pointer (some ⟨G1.bk t0, 0, none⟩)]) (by rw [hres]; simp only [List.mapM_cons, List.mapM_nil, resM, hu]; rfl)
  exact this
theorem ret_box {P : Program} {fn : Func} {n : Nat} {rs : List RV} (hrs : rvsB P fn.results.toList rs = true) {md : List Bool} {e1 : Env} {tm : Array Value} {w : World} {G1 : Gh} (h : Inv n e1 tm w G1) {t : Nat} {cs : List C}
  (hb : retBox n rs md e1 = some (t, cs)) : md = [] ∧ ∃ e2 G2 H us Ls bk, Ret P fn n e1 tm w G1 (.box 0) cs e2 G2 H us Ls bk := by
 unfold retBox at hb
 split at hb
 ·rename_i t1
  split at hb
  ·rename_i t0 bv0 j ht hop
   split at hb
   ·rename_i bv hsh
    split at hb
    ·rename_i hbv hj
     have hbv := Nat.eq_of_beq_eq_true hbv
     have hj := Nat.eq_of_beq_eq_true hj
     subst hbv hj
     cases hcs : resCs (fun _ => {}) (e1.get t0).cs with
     | none => rw [hcs] at hb; simp at hb
     | some cs0 =>
      rw [hcs] at hb
      simp only [Option.map_some, Option.some.injEq, Prod.mk.injEq] at hb
      obtain ⟨rfl, rfl⟩ := hb
      obtain ⟨rfl, hkind⟩ := resCs_dead hcs
      have htn : t1 < n := Nat.le_of_ble_eq_true ht
      exact ⟨rfl, ret_box1 hrs h htn hop hsh hkind⟩
    ·simp at hb
   ·simp at hb
  ·simp at hb
 ·simp at hb
theorem ret_ok {P : Program} {fn : Func} {n : Nat} {rs : List RV} (hrs : rvsB P fn.results.toList rs = true) {md : List Bool} {args : List Val} {e1 : Env} {tm : Array Value} {w : World} {G1 : Gh} (h : Inv n e1 tm w G1) {sh : Sh} {cs : List C} {os : List (List C)}
  (hr : retOf n rs md args e1 = some ((sh, cs), os)) : ∃ e2 G2 H us Ls bk, Ret P fn n e1 tm w G1 sh cs e2 G2 H us Ls bk ∧ outsOf n e2.get md 0 args = some os := by
 unfold retOf at hr
 cases hbx : retBox n rs md e1 with
 | some q =>
  obtain ⟨t, cs0⟩ := q
  rw [hbx] at hr
  simp only at hr
  cases ho : outsOf n e1.get md 0 args with
  | none => rw [ho] at hr; simp at hr
  | some os0 =>
   rw [ho] at hr
   simp only [Option.map_some, Option.some.injEq, Prod.mk.injEq] at hr
   obtain ⟨⟨rfl, rfl⟩, rfl⟩ := hr
   obtain ⟨rfl, e2, G2, H, us, Ls, bk, hR⟩ := ret_box hrs h hbx
   exact ⟨e2, G2, H, us, Ls, bk, hR, by rw [← ho]; exact outs_none⟩
 | none =>
 rw [hbx] at hr
 simp only at hr
 split at hr
 ·simp at hr
 ·rename_i vs hvs
  split at hr
  ·rename_i sh' cs' os' h1 h2 h3
   simp only [Option.some.injEq, Prod.mk.injEq] at hr
   obtain ⟨⟨rfl, rfl⟩, rfl⟩ := hr
   obtain ⟨us, Ls, r, q1, q2, q3, q4⟩ := resVals_ok h hrs hvs
   obtain ⟨r1, r2, r3⟩ := resU_form q3 h1
   have ht0 : TrOk e1 { get := e1.get } e1 := TrOk.start (fun s => .inl rfl) (fun _ _ => rfl)
   obtain ⟨e', H, Ls', tk⟩ := take_ok [] (vs.flatMap (·.2)) h ht0 q1 q2
   have he' := tk.tr.puts
   rw [he'] at h3
   obtain ⟨G2, f1, f2, f3⟩ := freezeAll (ps := deepAt (Tr.take [] { get := e1.get } (vs.flatMap (·.2))).2) tk.inv
   obtain ⟨g1, g2⟩ := resCs_get h2
   let LL : Nat → LT := fun j => match (Tr.take [] { get := e1.get } (vs.flatMap (·.2))).2[j]? with
    | some (.ref s i rv sv (q :: p) lo hi k) => match content (Tr.take [] { get := e1.get } (vs.flatMap (·.2))).1.at s i rv sv (q :: p) k with
     | some x => match (e'.get s).cs.getD i .dead with
      | .own _ _ _ k0 _ => cutL k.size lo hi x.2.length (subL k0 (G1.lt s i) (q :: p))
      | _ => .leaf
     | none => .leaf
    | _ => Ls' j
   have hcell : ∀ (j : Nat) c v, cs'[j]? = some c → us[j]? = some v → ResOk w G2.ow c v (LL j) := by
    intro j c v hc hv
    have hjl : j < (Tr.take [] { get := e1.get } (vs.flatMap (·.2))).2.length := by
     rw [← g1]; exact (List.getElem?_eq_some_iff.1 hc).1
    obtain ⟨c0, hc0⟩ : ∃ c0, (Tr.take [] { get := e1.get } (vs.flatMap (·.2))).2[j]? = some c0 := ⟨_, List.getElem?_eq_getElem hjl⟩
    have hres := g2 j c0 c hc0 hc
    have hnew := tk.new j c0 v hc0 hv
    have hmem := List.mem_of_getElem? hc0
    cases c0 with
    | dat k x =>
     simp only [resC, Option.some.injEq] at hres
     subst hres
     have hL : LL j = Ls' j := by simp only [LL, hc0]
     rw [hL]
     exact ⟨hnew.1, fun b hb => f2.none b (hnew.2 b hb)⟩
    | nil =>
     simp only [resC, Option.some.injEq] at hres
     subst hres
     exact hnew
    | own rv sv d k l =>
     simp only [resC, Option.some.injEq] at hres
     subst hres
     have hL : LL j = Ls' j := by simp only [LL, hc0]
     rw [hL]
     exact ⟨hnew.1, fun hd b hb => f2.none b (hnew.2 hd b hb).1⟩
    | fn f caps =>
     cases caps with
     | nil =>
      simp only [resC, Option.some.injEq] at hres
      subst hres
      obtain ⟨us', Ls'', k1, k2, _⟩ := hnew
      obtain rfl := List.eq_nil_of_length_eq_zero k2
      exact k1
     | cons _ _ => simp [resC] at hres
    | ref s i rv sv p lo hi k =>
     cases p with
     | nil => simp [resC] at hres
     | cons q p =>
      simp only [resC] at hres
      cases hcon : content (Tr.take [] { get := e1.get } (vs.flatMap (·.2))).1.at s i rv sv (q :: p) k with
      | none => rw [hcon] at hres; simp at hres
      | some x =>
       obtain ⟨d, l⟩ := x
       rw [hcon] at hres
       simp only [Option.map_some, Option.some.injEq] at hres
       subst hres
       obtain ⟨sv', k0, l0, m1, m2, m3⟩ := content_ok tk.tr.sees hcon
       obtain ⟨n1, n2, n3, n4⟩ := ref_reads (L := Ls' j) tk.inv hnew m1 m2 m3
       have hL : LL j = cutL k.size lo hi l.length (subL k0 (G1.lt s i) (q :: p)) := by
        simp only [LL, hc0, hcon, getD_some m1]
       rw [hL]
       refine ⟨n3.rep, fun b hb => ?_⟩
       have hsub := (cutL_sublist k k.size lo hi l.length (subL k0 (G1.lt s i) (q :: p))).subset hb
       have hin := subL_inner (q :: p) (by simp) k0 l0 (G1.lt s i) n2 b
       rw [m3] at hin
       exact f3 s i rv sv' d k0 l0 (deepAt_mem hmem) m1 b (hin hsub)
    | _ => simp [resC] at hres
   have hfp : fpCells LL 0 cs' = H := by
    rw [← tk.fp]
    refine fpCells_congr g1 fun j c0 c hc0 hc => ?_
    have hres := g2 j c0 c hc0 hc
    rw [Nat.zero_add]
    cases c0 with
    | own rv sv d k l =>
     simp only [resC, Option.some.injEq] at hres
     subst hres
     have hL : LL j = Ls' j := by simp only [LL, hc0]
     rw [hL]
    | dat k x => simp only [resC, Option.some.injEq] at hres; subst hres; simp [ownB]
    | nil => simp only [resC, Option.some.injEq] at hres; subst hres; simp [ownB]
    | fn f caps =>
     cases caps with
     | nil => simp only [resC, Option.some.injEq] at hres; subst hres; simp [ownB]
     | cons _ _ => simp [resC] at hres
    | ref s i rv sv p lo hi k =>
     cases p with
     | nil => simp [resC] at hres
     | cons q p =>
      simp only [resC] at hres
      cases hcon : content (Tr.take [] { get := e1.get } (vs.flatMap (·.2))).1.at s i rv sv (q :: p) k with
      | none => rw [hcon] at hres; simp at hres
      | some x =>
       rw [hcon] at hres
       simp only [Option.map_some, Option.some.injEq] at hres
       subst hres
       simp [ownB]
    | _ => simp [resC] at hres
   have hx := tk.ext.trans f2
   have hB : boxB sh' 0 = [] := by cases hq : sh' <;> simp_all [boxB]
   have hF : resForm sh' us 0 = form sh' us := by cases hq : sh' <;> simp_all [resForm]
   exact ⟨_, G2, H, us, LL, 0, ⟨f1, hx.held h, hx.len, tk.hand.ext f2, (tk.hand.ext f2).owner h hx, by rw [tk.len, g1], hcell, by rw [hB, hfp]; rfl, by rw [hF, ← r1]; exact results_ok q4, r2, fun bv q => absurd q (r3 bv)⟩, h3⟩
  ·simp at hr
end Go.Mach
namespace Go.Mach
set_option linter.unusedVariables false
set_option linter.unusedSimpArgs false
def FnOk (P : Program) [Tabs P] (f : Nat) (t : FEnt) : Prop :=
 t.args.length ≤ t.n ∧ ∃ fn, P.funcs[f]? = some fn ∧ fn.body.isNone = false ∧ (fn.name == "runtime.NumGoroutine") = false ∧ rvsB P fn.results.toList t.results = true ∧
 ∀ (d : AsT t.args) (b : t.out.T), t.T d = some b → (retOf t.n t.results t.md (encA t.args d) (t.out.enc b)).isSome = true → ∀ (us : List Value) (w : World) (G : Gh), us.length = t.args.length →
  Inv t.n (startE t.n t.md (encA t.args d)) (us.toArray ++ Array.replicate (t.n - us.length) undef) w G → Laid P w G →
  Calls P f us.toArray w fun en w' => ∃ tm1 G1 u, en = .returned u ∧ (results fn tm1).run P w' = .ok u w' ∧ Inv t.n (t.out.enc b) tm1 w' G1 ∧ Held t.n (t.n + 2 * t.args.length) w w' G G1 ∧ w.heap.size ≤ w'.heap.size ∧
   (t.out.enc b).length = t.n + 2 * t.args.length ∧ SameEnv w w'
def BookOk (P : Program) [Tabs P] : Book → Prop
 | [] => True
 | (f, t) :: r => FnOk P f t ∧ BookOk P r
theorem snapIns_get : ∀ {cs cs' : List C}, snapIns cs = some cs' → cs'.length = cs.length ∧ ∀ (j : Nat) c c', cs[j]? = some c → cs'[j]? = some c' → snapIn c = some c'
 | [], cs', h => by
  simp only [snapIns, Option.some.injEq] at h
  subst h
  exact ⟨rfl, fun j c c' hc => by simp at hc⟩
 | c :: r, cs', h => by
  simp only [snapIns] at h
  split at h
  ·rename_i c1 r1 h1 h2
   simp only [Option.some.injEq] at h
   subst h
   obtain ⟨g1, g2⟩ := snapIns_get h2
   refine ⟨by simp [g1], fun j a b ha hb => ?_⟩
   cases j with
   | zero =>
    simp only [List.getElem?_cons_zero, Option.some.injEq] at ha hb
    subst ha hb
    exact h1
   | succ j => exact g2 j a b (by simpa using ha) (by simpa using hb)
  ·simp at h
section snap
variable {n : Nat} {e : Env} {tm : Array Value} {w : World} {G : Gh}
theorem snap_ok (h : Inv n e tm w G) {get : Nat → Slot} (hs : Sees get e) {c c' : C} {v : Value} {L : LT} (hc : CellOk0 e w G c v L) (hsn : snap get c = some c') (ow : Nat → Option Nat)
  (how : ∀ b, G.ow b = none → ow b = none) (hrt : ∀ b s, G.ow b = some s → s ∈ c.targets → ow b = none) :
  ∃ L', c'.isFn = false ∧ c'.isOwn = false ∧ ∀ e' G', G'.ow = ow → CellOk0 e' w G' c' v L' := by
 cases c with
 | dat k x =>
  simp only [snap, Option.some.injEq] at hsn
  subst hsn
  exact ⟨L, rfl, rfl, fun e' G' hG => ⟨hc.1, fun b hb => by rw [hG]; exact how b (hc.2 b hb)⟩⟩
 | nil =>
  simp only [snap, Option.some.injEq] at hsn
  subst hsn
  exact ⟨L, rfl, rfl, fun e' G' hG => hc⟩
 | pim cs j =>
  simp only [snap, Option.some.injEq] at hsn
  subst hsn
  obtain ⟨b, o, vs, Ls, h1, h2, h3, h4, h5, h6⟩ := hc
  refine ⟨L, rfl, rfl, fun e' G' hG => ⟨b, o, vs, Ls, h1, by rw [hG]; exact how b h2, h3, h4, h5, fun i c u hci hu => ?_⟩⟩
  have := h6 i c u hci hu
  cases c with
  | dat k x => exact ⟨this.1, fun b hb => by rw [hG]; exact how b (this.2 b hb)⟩
  | nil => exact this
  | _ => exact this
 | ref s j rv sv p lo hi k =>
  simp only [snap] at hsn
  cases hcon : content get s j rv sv p k with
  | none => rw [hcon] at hsn; simp at hsn
  | some x =>
   obtain ⟨d, l⟩ := x
   rw [hcon] at hsn
   simp only [Option.map_some, Option.some.injEq] at hsn
   subst hsn
   obtain ⟨sv', k0, l0, m1, m2, m3⟩ := content_ok hs hcon
   have hc' : CellOk e w G (.ref s j rv sv p lo hi k) v L := hc
   obtain ⟨n1, n2, n3, n4⟩ := ref_reads h hc' m1 m2 m3
   obtain ⟨o1, o2, o3⟩ := h.ownBlocks m1
   refine ⟨_, rfl, rfl, fun e' G' hG => ⟨n3.rep, fun b hb => ?_⟩⟩
   have hb' := n4 b hb
   rw [hG]
   have hall : G.ow b = some s ∨ G.ow b = none := by
    cases d with
    | true => exact .inl (o1 b hb')
    | false =>
     rw [fp_list, List.mem_append] at hb'
     rcases hb' with q | q
     ·exact .inl (o1 b q)
     ·exact .inr (o2 rfl b q)
   rcases hall with q | q
   ·exact hrt b s q (by simp [C.targets])
   ·exact how b q
 | bptr s bv j =>
  simp only [snap] at hsn
  split at hsn
  ·rename_i hsh
   cases hin : snapIns (get s).cs with
   | none => rw [hin] at hsn; simp at hsn
   | some cs' =>
    rw [hin] at hsn
    simp only [Option.map_some, Option.some.injEq] at hsn
    subst hsn
    have hget : get s = e.get s := by
     rcases hs s with q | q
     ·exact q
     ·rw [q] at hsh; simp at hsh
    rw [hget] at hsh hin
    obtain ⟨h1, h2, h3⟩ := hc
    have hv := h2 hsh
    have hsl := h.slot s
    obtain ⟨_, ty, hblk⟩ := hsl.box bv hsh
    have hne : (e.get s).sh ≠ .dead := by rw [hsh]; simp
    have hlen := hsl.len hne
    obtain ⟨g1, g2⟩ := snapIns_get hin
    have hcell := hsl.cells hne
    have hown : ∀ b, b = G.bk s ∨ b ∈ fpCells (G.lt s) 0 (e.get s).cs → ow b = none := by
     intro b hb
     refine hrt b s ?_ (by simp [C.targets])
     refine hsl.own b ?_
     simp only [fpS, hsh, List.mem_append, List.mem_singleton]
     exact hb
    refine ⟨.leaf, rfl, rfl, fun e' G' hG => ⟨G.bk s, 0, G.vs s, G.lt s, by rw [hv]; simp, by rw [hG]; exact hown _ (.inl rfl), by rw [hblk]; simp, ?_, by rw [hlen, g1], fun i c u hci hu => ?_⟩⟩
    ·intro i u hu
     simp only [World.cell?, hblk, Nat.zero_add]
     simpa using hu
    ·have hil : i < (e.get s).cs.length := by rw [← g1]; exact (List.getElem?_eq_some_iff.1 hci).1
     obtain ⟨c0, hc0⟩ : ∃ c0, (e.get s).cs[i]? = some c0 := ⟨_, List.getElem?_eq_getElem hil⟩
     have hsi := g2 i c0 c hc0 hci
     have hok := hcell i c0 u hc0 hu
     cases c0 with
     | dat k x =>
      simp only [snapIn, Option.some.injEq] at hsi
      subst hsi
      exact ⟨hok.1, fun b hb => by rw [hG]; exact how b (hok.2 b hb)⟩
     | nil =>
      simp only [snapIn, Option.some.injEq] at hsi
      subst hsi
      exact hok
     | own rv sv d k l =>
      simp only [snapIn, Option.some.injEq] at hsi
      subst hsi
      obtain ⟨k1, k2⟩ := hok
      refine ⟨k1.rep, fun b hb => ?_⟩
      rw [hG]
      cases d with
      | true => exact hown b (.inr (fpCells_mem (i := 0) hc0 (by simpa [ownB] using hb)))
      | false =>
       rw [fp_list, List.mem_append] at hb
       rcases hb with q | q
       ·exact hown b (.inr (fpCells_mem (i := 0) hc0 (by simpa [ownB] using q)))
       ·exact how b (k2 rfl b q)
     | _ => simp [snapIn] at hsi
  ·simp at hsn
 | _ => simp [snap] at hsn
theorem snaps_ok (h : Inv n e tm w G) {get : Nat → Slot} (hs : Sees get e) (ow : Nat → Option Nat) (how : ∀ b, G.ow b = none → ow b = none) :
  ∀ {cs cs' : List C} {vs : List Value} {Ls : Nat → LT}, vs.length = cs.length → (∀ (i : Nat) c u, cs[i]? = some c → vs[i]? = some u → CellOk0 e w G c u (Ls i)) →
  cs'.length = cs.length → (∀ (i : Nat) c c', cs[i]? = some c → cs'[i]? = some c' → snap get c = some c') → (∀ b s, G.ow b = some s → s ∈ cs.flatMap C.targets → ow b = none) →
  ∃ Ls' : Nat → LT, ∀ (i : Nat) c u, cs'[i]? = some c → vs[i]? = some u → c.isFn = false ∧ c.isOwn = false ∧ ∀ e' G', G'.ow = ow → CellOk0 e' w G' c u (Ls' i)
 | [], [], vs, Ls, _, _, _, _, _ => ⟨Ls, fun i c u hc => by simp at hc⟩
 | [], _ :: _, vs, Ls, _, _, hl, _, _ => by simp at hl
 | _ :: _, [], vs, Ls, _, _, hl, _, _ => by simp at hl
 | c :: r, c' :: r', vs, Ls, hv, hc, hl, hsn, hrt => by
  match vs, hv with
  | v :: vs, hv =>
   obtain ⟨L', h1, h2, h3⟩ := snap_ok h hs (hc 0 c v rfl rfl) (hsn 0 c c' rfl rfl) ow how (fun b s q1 q2 => hrt b s q1 (by simp [q2]))
   obtain ⟨Ls', g⟩ := snaps_ok h hs ow how (cs := r) (cs' := r') (vs := vs) (Ls := fun i => Ls (i + 1)) (by simpa using hv) (fun i c u a b => hc (i + 1) c u (by simpa using a) (by simpa using b)) (by simpa using hl)
    (fun i c c' a b => hsn (i + 1) c c' (by simpa using a) (by simpa using b)) (fun b s q1 q2 => hrt b s q1 (by simp only [List.flatMap_cons, List.mem_append]; exact .inr q2))
   refine ⟨fun i => match i with | 0 => L' | i + 1 => Ls' i, fun i c u a b => ?_⟩
   cases i with
   | zero =>
    simp only [List.getElem?_cons_zero, Option.some.injEq] at a b
    subst a b
    exact ⟨h1, h2, h3⟩
   | succ i => exact g i c u (by simpa using a) (by simpa using b)
theorem sendCap_nil (t : Tr) (c : C) : sendCap t [] c = snap t.at c := by cases c <;> rfl
theorem sendCaps_get {t : Tr} : ∀ {cs cs' : List C}, sendCaps t [] cs = some cs' → cs'.length = cs.length ∧ ∀ (j : Nat) c c', cs[j]? = some c → cs'[j]? = some c' → snap t.at c = some c'
 | [], cs', h => by
  simp only [sendCaps, Option.some.injEq] at h
  subst h
  exact ⟨rfl, fun j c c' hc => by simp at hc⟩
 | c :: r, cs', h => by
  simp only [sendCaps] at h
  split at h
  ·rename_i c1 r1 h1 h2
   simp only [Option.some.injEq] at h
   subst h
   obtain ⟨g1, g2⟩ := sendCaps_get h2
   refine ⟨by simp [g1], fun j a b ha hb => ?_⟩
   cases j with
   | zero =>
    simp only [List.getElem?_cons_zero, Option.some.injEq] at ha hb
    subst ha hb
    rw [← sendCap_nil]
    exact h1
   | succ j => exact g2 j a b (by simpa using ha) (by simpa using hb)
  ·simp at h
theorem readCell_nil (f : Nat) (caps : List C) : readCell [] (.fn f caps) = caps.flatMap fun c => match c with | .bptr s _ _ => [s] | c => c.targets := by
 simp only [readCell]
 congr 1
theorem sendC_ok (h : Inv n e tm w G) {t : Tr} (hs : Sees t.at e) {c c' : C} {v : Value} {L : LT} (hc : CellOk e w G c v L) (hsn : sendC t [] c = some c') (ow : Nat → Option Nat)
  (how : ∀ b, G.ow b = none → ow b = none) (hrt : ∀ b s, G.ow b = some s → s ∈ readCell [] c → ow b = none) :
  ∃ L', c'.isOwn = false ∧ ∀ e' G', G'.ow = ow → CellOk e' w G' c' v L' := by
 have plain : ∀ c : C, c.isFn = false → CellOk0 e w G c v L → snap t.at c = some c' → (∀ b s, G.ow b = some s → s ∈ c.targets → ow b = none) → ∃ L', c'.isOwn = false ∧ ∀ e' G', G'.ow = ow → CellOk e' w G' c' v L' := by
  intro c hf hc0 hsn0 hrt0
  obtain ⟨L', h1, h2, h3⟩ := snap_ok h hs hc0 hsn0 ow how hrt0
  refine ⟨L', h2, fun e' G' hG => ?_⟩
  have := h3 e' G' hG
  cases c' <;> first | exact this | simp [C.isFn] at h1
 cases c with
 | fn f caps =>
  simp only [sendC] at hsn
  cases hcs : sendCaps t [] caps with
  | none => rw [hcs] at hsn; simp at hsn
  | some caps' =>
   rw [hcs] at hsn
   simp only [Option.map_some, Option.some.injEq] at hsn
   subst hsn
   obtain ⟨us, Ls, h1, h2, h3⟩ := hc
   obtain ⟨g1, g2⟩ := sendCaps_get hcs
   obtain ⟨Ls', g3⟩ := snaps_ok h hs ow how h2 (fun i c u a b => (h3 i c u a b).2.2) g1 g2 (fun b s q1 q2 => hrt b s q1 (by
    rw [readCell_nil]
    simp only [List.mem_flatMap] at q2 ⊢
    obtain ⟨c, k1, k2⟩ := q2
    refine ⟨c, k1, ?_⟩
    cases c <;> first | exact k2 | simpa [C.targets] using k2))
   exact ⟨L, rfl, fun e' G' hG => ⟨us, Ls', h1, by rw [h2, g1], fun i c u a b => ⟨(g3 i c u a b).1, (g3 i c u a b).2.1, (g3 i c u a b).2.2 e' G' hG⟩⟩⟩
 | dead => simp [sendC, snap] at hsn
 | nil => exact plain .nil rfl hc hsn hrt
 | dat k x => exact plain (.dat k x) rfl hc hsn hrt
 | own _ _ _ _ _ => simp [sendC, snap] at hsn
 | ref s j rv sv p lo hi k => exact plain (.ref s j rv sv p lo hi k) rfl hc hsn hrt
 | bptr s bv j => exact plain (.bptr s bv j) rfl hc hsn hrt
 | aptr _ _ _ _ _ _ _ _ => simp [sendC, snap] at hsn
 | pim cs j => exact plain (.pim cs j) rfl hc hsn hrt
theorem sendCs_ok (h : Inv n e tm w G) {t : Tr} (hs : Sees t.at e) (ow : Nat → Option Nat) (how : ∀ b, G.ow b = none → ow b = none) :
  ∀ {cs cs' : List C} {vs : List Value} {Ls : Nat → LT}, CellsOk e w G cs vs Ls → sendCs t [] cs = some cs' → (∀ b s, G.ow b = some s → s ∈ cs.flatMap (readCell []) → ow b = none) →
  cs'.length = cs.length ∧ ∃ Ls' : Nat → LT, ∀ (i : Nat) c u, cs'[i]? = some c → vs[i]? = some u → c.isOwn = false ∧ ∀ e' G', G'.ow = ow → CellOk e' w G' c u (Ls' i)
 | [], cs', vs, Ls, hc, hsn, hrt => by
  simp only [sendCs, Option.some.injEq] at hsn
  subst hsn
  exact ⟨rfl, Ls, fun i c u a => by simp at a⟩
 | c :: r, cs', vs, Ls, hc, hsn, hrt => by
  simp only [sendCs] at hsn
  split at hsn
  ·rename_i c1 r1 h1 h2
   simp only [Option.some.injEq] at hsn
   subst hsn
   match vs, hc with
   | [], hc => have := hc.len; simp at this
   | v :: vs, hc =>
    have hcr : CellsOk e w G r vs (fun j => Ls (1 + j)) := by simpa using hc.drop 1
    obtain ⟨L', k1, k2⟩ := sendC_ok h hs (hc.cell 0 c v rfl rfl) h1 ow how (fun b s q1 q2 => hrt b s q1 (by simp [q2]))
    obtain ⟨g1, Ls', g2⟩ := sendCs_ok h hs ow how hcr h2 (fun b s q1 q2 => hrt b s q1 (by simp only [List.flatMap_cons, List.mem_append]; exact .inr q2))
    refine ⟨by simp [g1], fun i => match i with | 0 => L' | i + 1 => Ls' i, fun i c u a b => ?_⟩
    cases i with
    | zero =>
     simp only [List.getElem?_cons_zero, Option.some.injEq] at a b
     subst a b
     exact ⟨k1, k2⟩
    | succ i => exact g2 i c u (by simpa using a) (by simpa using b)
  ·simp at hsn
end snap
def LendOk (t : Tr) (c c' : C) (l : Option Lend) : Prop :=
 (∃ k x, c = .dat k x ∧ c' = .dat k x ∧ l = none ∧ ∀ k', k ≠ .list k') ∨
 (∃ s j rv sv p k rv' sv' d k0 l0 x, c = .ref s j rv sv p none none k ∧ (t.at s).cs.getD j .dead = .own rv' sv' d k0 l0 ∧ rv = rv' ∧ (p = [] ∨ (svOk p sv sv' = true ∧ d = true)) ∧
  castL (getP k0 l0 p).1 (getP k0 l0 p).2 k = some x ∧ c' = .own 0 0 d k x ∧ l = some (.cell s j p k))
theorem lendCells_get {t : Tr} : ∀ {cs cs' : List C} {ls : List (Option Lend)}, lendCells t cs = some (cs', ls) → cs'.length = cs.length ∧ ls.length = cs.length ∧
  ∀ (j : Nat) c c' l, cs[j]? = some c → cs'[j]? = some c' → ls[j]? = some l → LendOk t c c' l
 | [], cs', ls, h => by
  simp only [lendCells, Option.some.injEq, Prod.mk.injEq] at h
  obtain ⟨rfl, rfl⟩ := h
  exact ⟨rfl, rfl, fun j c c' l a => by simp at a⟩
 | c :: r, cs', ls, h => by
  simp only [lendCells] at h
  split at h
  ·simp at h
  ·rename_i cs1 ls1 h1
   obtain ⟨g1, g2, g3⟩ := lendCells_get h1
   have fin : ∀ c' l, cs' = c' :: cs1 → ls = l :: ls1 → LendOk t c c' l → cs'.length = (c :: r).length ∧ ls.length = (c :: r).length ∧
     ∀ (j : Nat) x x' y, (c :: r)[j]? = some x → cs'[j]? = some x' → ls[j]? = some y → LendOk t x x' y := by
    rintro c' l rfl rfl hl
    refine ⟨by simp [g1], by simp [g2], fun j x x' y a b d => ?_⟩
    cases j with
    | zero =>
     simp only [List.getElem?_cons_zero, Option.some.injEq] at a b d
     subst a b d
     exact hl
    | succ j => exact g3 j x x' y (by simpa using a) (by simpa using b) (by simpa using d)
   split at h
   ·simp at h
   ·rename_i k x hk
    simp only [Option.some.injEq, Prod.mk.injEq] at h
    exact fin _ _ h.1.symm h.2.symm (.inl ⟨k, x, rfl, rfl, rfl, fun k' q => by subst q; exact hk _ _ rfl HEq.rfl⟩)
   ·rename_i s j rv sv p k
    split at h
    ·rename_i rv' sv' d k0 l0 hat
     split at h
     ·rename_i hc
      split at h
      ·rename_i x hx
       simp only [Option.some.injEq, Prod.mk.injEq] at h
       exact fin _ _ h.1.symm h.2.symm (.inr (⟨s, j, rv, sv, p, k, rv', sv', d, k0, l0, x, rfl, hat, hc.1, hc.2, hx, rfl, rfl⟩))
      ·simp at h
     ·simp at h
    ·simp at h
   ·simp at h
theorem send_get {t : Tr} {md : List Bool} : ∀ {args : List Val} {i : Nat} {q : Sent}, send t md [] i args = some q → q.vals.length = args.length ∧ q.lends.length = args.length ∧
  ∀ (j : Nat) v v' ls, args[j]? = some v → q.vals[j]? = some v' → q.lends[j]? = some ls →
   (md.getD (i + j) false = false ∧ v'.1 = v.1 ∧ sendCs t [] v.2 = some v'.2 ∧ ls = []) ∨
   (md.getD (i + j) false = true ∧ ∃ s bv cs, v = (.one, [.bptr s bv 0]) ∧ (t.at s).sh = .box bv ∧ ownBox (t.at s).cs = some cs ∧ v' = (.box 0, cs) ∧ ls = [some (.box s)]) ∨
   (md.getD (i + j) false = true ∧ v'.1 = v.1 ∧ lendCells t v.2 = some (v'.2, ls))
 | [], i, q, h => by
  simp only [send, Option.some.injEq] at h
  subst h
  exact ⟨rfl, rfl, fun j v v' ls a => by simp at a⟩
 | (sh, cs) :: r, i, q, h => by
  simp only [send] at h
  split at h
  ·simp at h
  ·rename_i q1 h1
   obtain ⟨g1, g2, g3⟩ := send_get h1
   have fin : ∀ v' ls, q = { vals := v' :: q1.vals, lends := ls :: q1.lends } →
     ((md.getD i false = false ∧ v'.1 = sh ∧ sendCs t [] cs = some v'.2 ∧ ls = []) ∨
      (md.getD i false = true ∧ ∃ s bv cs', ((sh, cs) : Val) = (.one, [.bptr s bv 0]) ∧ (t.at s).sh = .box bv ∧ ownBox (t.at s).cs = some cs' ∧ v' = (.box 0, cs') ∧ ls = [some (.box s)]) ∨
      (md.getD i false = true ∧ v'.1 = sh ∧ lendCells t cs = some (v'.2, ls))) →
     q.vals.length = ((sh, cs) :: r).length ∧ q.lends.length = ((sh, cs) :: r).length ∧ ∀ (j : Nat) v v' ls, ((sh, cs) :: r)[j]? = some v → q.vals[j]? = some v' → q.lends[j]? = some ls →
      (md.getD (i + j) false = false ∧ v'.1 = v.1 ∧ sendCs t [] v.2 = some v'.2 ∧ ls = []) ∨
      (md.getD (i + j) false = true ∧ ∃ s bv cs, v = (.one, [.bptr s bv 0]) ∧ (t.at s).sh = .box bv ∧ ownBox (t.at s).cs = some cs ∧ v' = (.box 0, cs) ∧ ls = [some (.box s)]) ∨
      (md.getD (i + j) false = true ∧ v'.1 = v.1 ∧ lendCells t v.2 = some (v'.2, ls)) := by
    rintro v' ls rfl hl
    refine ⟨by simp [g1], by simp [g2], fun j x x' y a b d => ?_⟩
    cases j with
    | zero =>
     simp only [List.getElem?_cons_zero, Option.some.injEq] at a b d
     subst a b d
     exact hl
    | succ j =>
     have := g3 j x x' y (by simpa using a) (by simpa using b) (by simpa using d)
     rw [show i + 1 + j = i + (j + 1) by omega] at this
     exact this
   split at h
   ·rename_i hmd
    split at h
    ·rename_i s bv
     split at h
     ·rename_i hsh
      split at h
      ·rename_i cs' hcs
       simp only [Option.some.injEq] at h
       exact fin _ _ h.symm (.inr (.inl ⟨hmd, s, bv, cs', rfl, hsh, hcs, rfl, rfl⟩))
      ·simp at h
     ·simp at h
    ·split at h
     ·rename_i cs' ls hcs
      simp only [Option.some.injEq] at h
      exact fin _ _ h.symm (.inr (.inr ⟨hmd, rfl, hcs⟩))
     ·simp at h
   ·rename_i hmd
    split at h
    ·rename_i cs' hcs
     simp only [Option.some.injEq] at h
     exact fin _ _ h.symm (.inl ⟨by simpa using hmd, rfl, hcs, rfl⟩)
    ·simp at h
theorem inSlots_nil (n : Nat) : ∀ (args : List Val) (i : Nat), inSlots n [] i args = (args.map fun v => { sh := v.1, cs := v.2, cnt := 1 }, List.replicate (2 * args.length) (default : Slot))
 | [], i => rfl
 | (sh, cs) :: r, i => by
  simp only [inSlots, inSlots_nil n r, List.getD_nil, Bool.false_eq_true, if_false, List.map_cons, List.length_cons]
  rw [show 2 * (r.length + 1) = 2 * r.length + 1 + 1 by omega]
  rfl
theorem startE_get {n : Nat} {vals : List Val} (s : Nat) (hn : vals.length ≤ n) : (startE n [] vals).length = n + 2 * vals.length ∧
  (startE n [] vals).get s = (match vals[s]? with | some v => { sh := v.1, cs := v.2, cnt := 1 } | none => {}) := by
 refine ⟨by simp [startE, inSlots_nil]; omega, ?_⟩
 simp only [startE, inSlots_nil, Env.get, List.getD_eq_getElem?_getD]
 by_cases h : s < vals.length
 ·rw [List.append_assoc, List.getElem?_append_left (by simpa using h)]
  simp [List.getElem?_eq_getElem h]
 ·rw [List.append_assoc, List.getElem?_append_right (by simpa using h)]
  have hd : (default : Slot) = {} := rfl
  have : vals[s]? = none := List.getElem?_eq_none (by omega)
  rw [this]
  simp only [List.length_map]
  by_cases h2 : s - vals.length < n - vals.length
  ·rw [List.getElem?_append_left (by simpa using h2)]
   simp [List.getElem?_replicate, h2, hd]
  ·rw [List.getElem?_append_right (by simpa using h2)]
   simp only [List.length_replicate, List.getElem?_replicate]
   split <;> simp [hd]
def slotA (n : Nat) (md : List Bool) (i : Nat) (v : Val) : Slot :=
 if md.getD i false then match v.1 with
  | .box _ => { sh := .one, cs := [.bptr (n + 2 * i + 1) 0 0], cnt := 1 }
  | sh => { sh, cs := copyFrom (n + 2 * i) 0 v.2, cnt := 1 }
 else { sh := v.1, cs := v.2, cnt := 1 }
def slotB (md : List Bool) (i : Nat) (v : Val) : Slot :=
 if md.getD i false then match v.1 with
  | .box _ => {}
  | _ => { sh := .agg, cs := v.2, cnt := 1 }
 else {}
def slotC (md : List Bool) (i : Nat) (v : Val) : Slot :=
 if md.getD i false then match v.1 with
  | .box _ => { sh := .box 0, cs := v.2, cnt := 1 }
  | _ => {}
 else {}
theorem inSlots_cons (n : Nat) (md : List Bool) (i : Nat) (v : Val) (r : List Val) : inSlots n md i (v :: r) = (slotA n md i v :: (inSlots n md (i + 1) r).1, slotB md i v :: slotC md i v :: (inSlots n md (i + 1) r).2) := by
 obtain ⟨sh, cs⟩ := v
 simp only [inSlots, slotA, slotB, slotC]
 split
 ·cases sh <;> rfl
 ·rfl
theorem inSlots_get {n : Nat} {md : List Bool} : ∀ {args : List Val} {i : Nat} (j : Nat), (inSlots n md i args).1[j]? = (args[j]?).map (slotA n md (i + j)) ∧
  (inSlots n md i args).2[2 * j]? = (args[j]?).map (slotB md (i + j)) ∧ (inSlots n md i args).2[2 * j + 1]? = (args[j]?).map (slotC md (i + j))
 | [], i, j => by simp [inSlots]
 | v :: r, i, j => by
  rw [inSlots_cons]
  cases j with
  | zero => simp
  | succ j =>
   obtain ⟨g1, g2, g3⟩ := inSlots_get (n := n) (md := md) (args := r) (i := i + 1) j
   rw [show i + (j + 1) = i + 1 + j by omega, show 2 * (j + 1) = 2 * j + 1 + 1 by omega]
   simp only [List.getElem?_cons_succ]
   exact ⟨g1, g2, g3⟩
theorem startE_slots {n : Nat} {md : List Bool} {vals : List Val} (hn : vals.length ≤ n) : (startE n md vals).length = n + 2 * vals.length ∧
  (∀ (j : Nat) v, vals[j]? = some v → (startE n md vals).get j = slotA n md j v ∧ (startE n md vals).get (n + 2 * j) = slotB md j v ∧ (startE n md vals).get (n + 2 * j + 1) = slotC md j v) ∧
  (∀ s, (vals.length ≤ s ∧ s < n) ∨ n + 2 * vals.length ≤ s → (startE n md vals).get s = {}) := by
 have hl := inSlots_length n md 0 vals
 have hlen : (startE n md vals).length = n + 2 * vals.length := by simp [startE, hl.1, hl.2]; omega
 refine ⟨hlen, fun j v hv => ?_, fun s hs => ?_⟩
 ·have hj : j < vals.length := (List.getElem?_eq_some_iff.1 hv).1
  obtain ⟨g1, g2, g3⟩ := inSlots_get (n := n) (md := md) (args := vals) (i := 0) j
  rw [hv, Nat.zero_add] at g1 g2 g3
  simp only [startE, Env.get, List.getD_eq_getElem?_getD]
  refine ⟨?_, ?_, ?_⟩
  ·rw [List.append_assoc, List.getElem?_append_left (by rw [hl.1]; exact hj), g1]; rfl
  ·rw [List.getElem?_append_right (by simp [hl.1]; omega)]
   rw [show n + 2 * j - ((inSlots n md 0 vals).1 ++ List.replicate (n - vals.length) (default : Slot)).length = 2 * j by simp [hl.1]; omega, g2]; rfl
  ·rw [List.getElem?_append_right (by simp [hl.1]; omega)]
   rw [show n + 2 * j + 1 - ((inSlots n md 0 vals).1 ++ List.replicate (n - vals.length) (default : Slot)).length = 2 * j + 1 by simp [hl.1]; omega, g3]; rfl
 ·rcases hs with ⟨h1, h2⟩ | h1
  ·simp only [startE, Env.get, List.getD_eq_getElem?_getD]
   rw [List.append_assoc, List.getElem?_append_right (by rw [hl.1]; exact h1), List.getElem?_append_left (by simp [hl.1]; omega)]
   simp only [List.getElem?_replicate]
   split <;> rfl
  ·exact get_out (by rw [hlen]; omega)
end Go.Mach
namespace Go.Mach
set_option linter.unusedVariables false
set_option linter.unusedSimpArgs false
def owIn (G : Gh) (rt : List Nat) (M : Nat) (b : Nat) : Option Nat := match G.ow b with
 | none => none
 | some s => if rt.contains s then none else some M
theorem owIn_none {G : Gh} {rt : List Nat} {M b : Nat} (h : G.ow b = none) : owIn G rt M b = none := by simp [owIn, h]
theorem owIn_rt {G : Gh} {rt : List Nat} {M b s : Nat} (h : G.ow b = some s) (hs : s ∈ rt) : owIn G rt M b = none := by simp [owIn, h, hs]
theorem owIn_out {G : Gh} {rt : List Nat} {M b s : Nat} (h : G.ow b = some s) (hs : s ∉ rt) : owIn G rt M b = some M := by simp [owIn, h, hs]
section start
variable {n : Nat} {e : Env} {tm : Array Value} {w : World} {G : Gh}
theorem targets_lt0 {c : C} {v : Value} {L : LT} (hc : CellOk0 e w G c v L) : ∀ s ∈ c.targets, s < e.length := by
 have key : ∀ s, 0 < (e.get s).cnt → s < e.length := fun s hs => by
  rcases Nat.lt_or_ge s e.length with q | q
  ·exact q
  ·rw [get_out (by omega)] at hs; simp at hs
 intro s hs
 cases c with
 | ref s' j rv sv p lo hi k =>
  simp only [C.targets, List.mem_singleton] at hs
  subst hs
  exact key _ (Nat.lt_of_le_of_lt (Nat.zero_le _) hc.1)
 | bptr s' bv j =>
  simp only [C.targets, List.mem_singleton] at hs
  subst hs
  exact key _ (Nat.lt_of_le_of_lt (Nat.zero_le _) hc.1)
 | aptr s' j rv sv p i c k =>
  simp only [C.targets, List.mem_singleton] at hs
  subst hs
  exact key _ (Nat.lt_of_le_of_lt (Nat.zero_le _) hc.2.1)
 | fn _ _ => exact hc.elim
 | _ => simp [C.targets] at hs
theorem targets_lt {c : C} {v : Value} {L : LT} (hc : CellOk e w G c v L) : ∀ s ∈ readCell [] c, s < e.length := by
 intro s hs
 cases c with
 | fn f caps =>
  obtain ⟨us, Ls, h1, h2, h3⟩ := hc
  rw [readCell_nil] at hs
  simp only [List.mem_flatMap] at hs
  obtain ⟨c, k1, k2⟩ := hs
  obtain ⟨i, hi⟩ := List.getElem?_of_mem k1
  have hil : i < us.length := by rw [h2]; exact (List.getElem?_eq_some_iff.1 hi).1
  obtain ⟨u, hu⟩ : ∃ u, us[i]? = some u := ⟨_, List.getElem?_eq_getElem hil⟩
  refine targets_lt0 (h3 i c u hi hu).2.2 s ?_
  cases c <;> first | exact k2 | simpa [C.targets] using k2
 | ref s' j rv sv p lo hi k => exact targets_lt0 (w := w) (G := G) (v := v) (L := L) (c := .ref s' j rv sv p lo hi k) hc s hs
 | bptr s' bv j => exact targets_lt0 (w := w) (G := G) (v := v) (L := L) (c := .bptr s' bv j) hc s hs
 | aptr s' j rv sv p i c k => exact targets_lt0 (w := w) (G := G) (v := v) (L := L) (c := .aptr s' j rv sv p i c k) hc s hs
 | _ => simp [readCell, C.targets] at hs
def ArgsOk (e : Env) (w : World) (G : Gh) (args : List Val) (us : List Value) : Prop :=
 us.length = args.length ∧ ∀ (i : Nat) v u, args[i]? = some v → us[i]? = some u → ∃ vs Ls, ValOk e w G v u vs Ls
theorem start_inv (h : Inv n e tm w G) {t : Tr} (hs : Sees t.at e) {args : List Val} {us : List Value} (ha : ArgsOk e w G args us) {vals : List Val} (hl : vals.length = args.length)
  (hsend : ∀ (j : Nat) v v', args[j]? = some v → vals[j]? = some v' → v'.1 = v.1 ∧ sendCs t [] v.2 = some v'.2) {N : Nat} (hN : args.length ≤ N) (rt : List Nat)
  (hrt : ∀ v ∈ args, ∀ s ∈ v.2.flatMap (readCell []), s ∈ rt) (M : Nat) :
  ∃ Gc, Inv N (startE N [] vals) (us.toArray ++ Array.replicate (N - us.length) undef) w Gc ∧ Gc.ow = owIn G rt M := by
 have hex : ∀ i : Nat, ∃ p : List Value × (Nat → LT), ∀ v v' u, args[i]? = some v → vals[i]? = some v' → us[i]? = some u → u = form v'.1 p.1 ∧ (∀ bv, v'.1 ≠ .box bv) ∧ v'.1 ≠ .dead ∧ p.1.length = v'.2.length ∧
   ∀ (j : Nat) c x, v'.2[j]? = some c → p.1[j]? = some x → c.isOwn = false ∧ ∀ e' G', G'.ow = owIn G rt M → CellOk e' w G' c x (p.2 j) := by
  intro i
  cases hv : args[i]? with
  | none => exact ⟨([], fun _ => .leaf), fun v v' u q => by simp at q⟩
  | some v =>
   have hil : i < args.length := (List.getElem?_eq_some_iff.1 hv).1
   obtain ⟨u, hu⟩ : ∃ u, us[i]? = some u := ⟨_, List.getElem?_eq_getElem (by rw [ha.1]; exact hil)⟩
   obtain ⟨v', hv'⟩ : ∃ v', vals[i]? = some v' := ⟨_, List.getElem?_eq_getElem (by rw [hl]; exact hil)⟩
   obtain ⟨vs, Ls, hval⟩ := ha.2 i v u hv hu
   obtain ⟨q1, q2⟩ := hsend i v v' hv hv'
   obtain ⟨g1, Ls', g2⟩ := sendCs_ok h hs (owIn G rt M) (fun b => owIn_none) hval.cells q2 (fun b s hb hm => owIn_rt hb (hrt v (List.mem_of_getElem? hv) s hm))
   refine ⟨(vs, Ls'), fun w1 w2 w3 a b c => ?_⟩
   simp only [Option.some.injEq] at a
   subst a
   rw [hv'] at b
   rw [hu] at c
   simp only [Option.some.injEq] at b c
   subst b c
   refine ⟨by rw [q1]; exact hval.form, fun bv => by rw [q1]; exact hval.sh bv, by rw [q1]; exact hval.alive, by rw [g1]; exact hval.cells.len, g2⟩
 obtain ⟨f, hf⟩ := Classical.axiomOfChoice hex
 let Gc : Gh := { vs := fun i => (f i).1, lt := fun i => (f i).2, bk := fun _ => 0, ow := owIn G rt M }
 refine ⟨Gc, ⟨by simp [ha.1]; omega, ?_, fun s => ?_, fun b s hb => ?_⟩, rfl⟩
 ·rw [(startE_get 0 (by omega)).1]; omega
 ·have hg := (startE_get (n := N) (vals := vals) s (by omega)).2
  cases hv' : vals[s]? with
  | none =>
   rw [hv'] at hg
   exact SlotOk.nothing hg
  | some v' =>
   rw [hv'] at hg
   have hsl : s < vals.length := (List.getElem?_eq_some_iff.1 hv').1
   obtain ⟨v, hv⟩ : ∃ v, args[s]? = some v := ⟨_, List.getElem?_eq_getElem (by omega)⟩
   obtain ⟨u, hu⟩ : ∃ u, us[s]? = some u := ⟨_, List.getElem?_eq_getElem (by rw [ha.1]; omega)⟩
   obtain ⟨k1, k2, k3, k4, k5⟩ := hf s v v' u hv hv' hu
   have hnoown : ∀ c ∈ v'.2, c.isOwn = false := by
    intro c hc
    obtain ⟨j, hj⟩ := List.getElem?_of_mem hc
    have hjl : j < (f s).1.length := by rw [k4]; exact (List.getElem?_eq_some_iff.1 hj).1
    exact (k5 j c _ hj (List.getElem?_eq_getElem hjl)).1
   have hfp : fpS Gc s ((startE N [] vals).get s) = [] := by
    have key : ∀ (cs : List C) (i : Nat), (∀ c ∈ cs, c.isOwn = false) → fpCells (Gc.lt s) i cs = [] := by
     intro cs
     induction cs with
     | nil => intro i _; rfl
     | cons c cs ih => intro i ho; simp only [fpCells]; rw [noOwn_ownB (ho c (by simp)), ih (i + 1) fun c hc => ho c (by simp [hc])]; rfl
    rw [hg]
    simp only [fpS, key v'.2 0 hnoown]
    cases hsh : v'.1 <;> first | rfl | exact absurd hsh (k2 _)
   have htm : (us.toArray ++ Array.replicate (N - us.length) undef)[s]? = some u := by
    rw [Array.getElem?_append_left (by simp [ha.1]; omega)]
    simpa using hu
   refine ⟨fun hn => ?_, fun bv hb => ?_, fun hd => ?_, fun hd j c x hc hx => ?_, fun hd j rv sv d k l hc => ?_, by rw [hfp]; simp, by rw [hfp]; simp, fun hd => ?_⟩
   ·rw [hg]
    rw [k1] at htm
    have h2 := k2
    have h3 := k3
    revert h2 h3 htm
    simp only [FormIs, Gc]
    cases v'.1 <;> simp
   ·rw [hg] at hb; exact absurd hb (k2 bv)
   ·rw [hg]; exact k4
   ·rw [hg] at hc
    exact (k5 j c x hc hx).2 _ _ rfl
   ·rw [hg] at hc
    have := hnoown _ (List.mem_of_getElem? hc)
    simp [C.isOwn] at this
   ·rw [hg] at hd; exact absurd hd k3
 ·simp only [Gc, owIn] at hb
  cases ho : G.ow b with
  | none => rw [ho] at hb; simp at hb
  | some s' => exact h.lt b s' ho
end start
theorem mem_lendsOne {i : Nat} : ∀ {ls : List (Option Lend)} {c : Nat} {x : Nat × Nat × Lend}, x ∈ lendsOne i c ls ↔ x.1 = i ∧ c ≤ x.2.1 ∧ ls[x.2.1 - c]? = some (some x.2.2)
 | [], c, x => by simp [lendsOne]
 | none :: r, c, x => by
  simp only [lendsOne, mem_lendsOne (ls := r)]
  constructor
  ·rintro ⟨h1, h2, h3⟩
   refine ⟨h1, by omega, ?_⟩
   rw [show x.2.1 - c = (x.2.1 - (c + 1)) + 1 by omega]; simpa using h3
  ·rintro ⟨h1, h2, h3⟩
   by_cases hc : x.2.1 = c
   ·rw [hc] at h3; simp at h3
   ·refine ⟨h1, by omega, ?_⟩
    rw [show x.2.1 - c = (x.2.1 - (c + 1)) + 1 by omega] at h3; simpa using h3
 | some l :: r, c, x => by
  simp only [lendsOne, List.mem_cons, mem_lendsOne (ls := r)]
  constructor
  ·rintro (rfl | ⟨h1, h2, h3⟩)
   ·simp
   ·refine ⟨h1, by omega, ?_⟩
    rw [show x.2.1 - c = (x.2.1 - (c + 1)) + 1 by omega]; simpa using h3
  ·rintro ⟨h1, h2, h3⟩
   by_cases hc : x.2.1 = c
   ·left
    obtain ⟨a, b, l'⟩ := x
    dsimp only at hc h1 h3
    subst hc h1
    simp only [Nat.sub_self, List.getElem?_cons_zero, Option.some.injEq] at h3
    rw [h3]
   ·right
    refine ⟨h1, by omega, ?_⟩
    rw [show x.2.1 - c = (x.2.1 - (c + 1)) + 1 by omega] at h3; simpa using h3
theorem mem_lendAt : ∀ {L : List (List (Option Lend))} {i : Nat} {x : Nat × Nat × Lend}, x ∈ lendAt i L ↔ ∃ ls, i ≤ x.1 ∧ L[x.1 - i]? = some ls ∧ ls[x.2.1]? = some (some x.2.2)
 | [], i, x => by simp [lendAt]
 | ls :: r, i, x => by
  simp only [lendAt, List.mem_append, mem_lendsOne, mem_lendAt (L := r), Nat.zero_le, true_and, Nat.sub_zero]
  constructor
  ·rintro (⟨h1, h2⟩ | ⟨ls', h1, h2, h3⟩)
   ·exact ⟨ls, by omega, by rw [h1]; simp, h2⟩
   ·exact ⟨ls', by omega, by rw [show x.1 - i = (x.1 - (i + 1)) + 1 by omega]; simpa using h2, h3⟩
  ·rintro ⟨ls', h1, h2, h3⟩
   by_cases hi : x.1 = i
   ·left
    rw [hi] at h2
    simp only [Nat.sub_self, List.getElem?_cons_zero, Option.some.injEq] at h2
    subst h2
    exact ⟨hi, h3⟩
   ·right
    exact ⟨ls', by omega, by rw [show x.1 - i = (x.1 - (i + 1)) + 1 by omega] at h2; simpa using h2, h3⟩
theorem clash_symm (a b : Lend) : a.clash b = b.clash a := by
 rw [Bool.eq_iff_iff]
 cases a <;> cases b <;> simp only [Lend.clash, Lend.slot, Bool.and_eq_true, beq_iff_eq] <;> first
  | exact ⟨fun h => h.symm, fun h => h.symm⟩
  | exact ⟨fun h => ⟨h.1.symm, h.2.symm⟩, fun h => ⟨h.1.symm, h.2.symm⟩⟩
theorem apartF_mem : ∀ {l : List (Nat × Nat × Lend)}, apartF l = true → ∀ a ∈ l, ∀ b ∈ l, a = b ∨ a.2.2.clash b.2.2 = false
 | [], _, a, ha, _, _ => by simp at ha
 | x :: r, h, a, ha, b, hb => by
  simp only [apartF, Bool.and_eq_true, List.all_eq_true, Bool.not_eq_true'] at h
  simp only [List.mem_cons] at ha hb
  rcases ha with rfl | ha
  ·rcases hb with rfl | hb
   ·exact .inl rfl
   ·exact .inr (h.1 b hb)
  ·rcases hb with rfl | hb
   ·exact .inr (by rw [clash_symm]; exact h.1 a ha)
   ·exact apartF_mem h.2 a ha b hb
def sentL : LT → LT
 | .node _ _ 0 _ => .nil
 | L => L
theorem sentL_sub (k : K) (L : LT) : ∀ b ∈ fp (.list k) (sentL L), b ∈ fp (.list k) L := by
 intro b hb
 cases L with
 | node b' off cap rows =>
  cases cap with
  | zero => simp [sentL, fp] at hb
  | succ c => exact hb
 | _ => exact hb
theorem sentL_hd (L : LT) : ∀ b ∈ (hdOf (sentL L)).toList.map (·.1), b ∈ (hdOf L).toList.map (·.1) := by
 intro b hb
 cases L with
 | node b' off cap rows =>
  cases cap with
  | zero => simp [sentL, hdOf] at hb
  | succ c => exact hb
 | _ => exact hb
theorem sentL_inner (k : K) (L : LT) : ∀ b ∈ inner k (sentL L), b ∈ inner k L := by
 intro b hb
 cases L with
 | node b' off cap rows =>
  cases cap with
  | zero => simp [sentL, inner] at hb
  | succ c => exact hb
 | _ => exact hb
def ownD (d : Bool) (k : K) (L : LT) : List Nat := if d then fp (.list k) L else (hdOf L).toList.map (·.1)
theorem ownB_ownD (rv sv : Nat) (d : Bool) (k : K) (l : List k.T) (L : LT) : ownB (.own rv sv d k l) L = ownD d k L := by cases d <;> rfl
def blkL (e : Env) (G : Gh) : Lend → List Nat
 | .cell s j p k => match (e.get s).cs.getD j .dead with
  | .own _ _ d k0 _ => ownD d k (sentL (subL k0 (G.lt s j) p))
  | _ => []
 | .box s => fpS G s (e.get s)
def LendIn (e : Env) : Lend → Prop
 | .cell s j p k => ∃ rv sv d k0 l0 x, (e.get s).cs[j]? = some (.own rv sv d k0 l0) ∧ (p = [] ∨ d = true) ∧ PathOk k0 l0 p ∧ getP k0 l0 p = ⟨k, x⟩
 | .box s => ∃ bv, (e.get s).sh = .box bv
theorem fpCells_disj {lt : Nat → LT} {cs : List C} (hnd : (fpCells lt 0 cs).Nodup) {j j' : Nat} {c c' : C} (hc : cs[j]? = some c) (hc' : cs[j']? = some c') (hne : j ≠ j') {b : Nat} (hb : b ∈ ownB c (lt j)) : b ∉ ownB c' (lt j') := by
 intro hb'
 obtain ⟨rest, p1, p2⟩ := fpCells_perm (lt := lt) (i := 0) hc
 have h1 := p2 lt .dead (fun _ _ => rfl)
 simp only [ownB, List.nil_append] at h1
 have hc2 : (cs.set j .dead)[j']? = some c' := by rw [List.getElem?_set_ne hne]; exact hc'
 have hm := h1.mem_iff.1 (fpCells_mem (lt := lt) (i := 0) hc2 (by simpa using hb'))
 have := p1.nodup_iff.1 hnd
 rw [List.nodup_append] at this
 exact this.2.2 b (by simpa using hb) b hm rfl
section lends
variable {n : Nat} {e : Env} {tm : Array Value} {w : World} {G : Gh}
theorem cells_nodup (h : Inv n e tm w G) (s : Nat) : (fpCells (G.lt s) 0 (e.get s).cs).Nodup := by
 have hs := h.slot s
 have hnd := hs.nodup
 simp only [fpS] at hnd
 rw [List.nodup_append] at hnd
 have := hnd.2.1
 cases hh : (e.get s).sh with
 | dead => rw [hs.dead hh]; exact List.nodup_nil
 | _ => simpa [hh] using this
theorem blkL_cell {s j : Nat} {p : Path} {k : K} (hl : LendIn e (.cell s j p k)) {b : Nat} (hb : b ∈ blkL e G (.cell s j p k)) : ∃ c, (e.get s).cs[j]? = some c ∧ b ∈ ownB c (G.lt s j) := by
 obtain ⟨rv, sv, d, k0, l0, x, h1, h2, h3, h4⟩ := hl
 refine ⟨_, h1, ?_⟩
 simp only [blkL, getD_some h1] at hb
 rw [ownB_ownD]
 unfold ownD at hb ⊢
 by_cases hp : p = []
 ·subst hp
  rw [getP_nil] at h4
  simp only [Sigma.mk.injEq] at h4
  obtain ⟨rfl, _⟩ := h4
  simp only [subL] at hb
  cases d with
  | true => simp only [if_true] at hb ⊢; exact sentL_sub _ _ b hb
  | false => simp only [Bool.false_eq_true, if_false] at hb ⊢; exact sentL_hd _ b hb
 ·obtain rfl := h2.resolve_left hp
  simp only [if_true] at hb ⊢
  have := subL_sub p k0 l0 (G.lt s j) h3 b
  rw [h4] at this
  exact this (sentL_sub _ _ b hb)
theorem blkL_fpS (h : Inv n e tm w G) {l : Lend} (hl : LendIn e l) {b : Nat} (hb : b ∈ blkL e G l) : b ∈ fpS G l.slot (e.get l.slot) := by
 cases l with
 | box s => exact hb
 | cell s j p k =>
  obtain ⟨c, h1, h2⟩ := blkL_cell hl hb
  simp only [Lend.slot, fpS, List.mem_append]
  right
  have := fpCells_mem (lt := G.lt s) (i := 0) h1 (by simpa using h2)
  have hsh : (e.get s).sh ≠ .dead := fun q => by rw [(h.slot s).dead q] at h1; simp at h1
  cases hh : (e.get s).sh <;> simp_all
theorem blkL_ow (h : Inv n e tm w G) {l : Lend} (hl : LendIn e l) {b : Nat} (hb : b ∈ blkL e G l) : G.ow b = some l.slot := (h.slot _).own b (blkL_fpS h hl hb)
theorem blkL_disj (h : Inv n e tm w G) {l l' : Lend} (hl : LendIn e l) (hl' : LendIn e l') (hc : l.clash l' = false) {b : Nat} (hb : b ∈ blkL e G l) : b ∉ blkL e G l' := by
 intro hb'
 have h1 := blkL_ow h hl hb
 have h2 := blkL_ow h hl' hb'
 rw [h1] at h2
 simp only [Option.some.injEq] at h2
 cases l with
 | box s => cases l' <;> simp [Lend.clash, h2] at hc
 | cell s j p k =>
  cases l' with
  | box s' => simp [Lend.clash, h2] at hc
  | cell s' j' p' k' =>
   simp only [Lend.slot] at h2
   subst h2
   simp only [Lend.clash, beq_self_eq_true, Bool.true_and, beq_eq_false_iff_ne] at hc
   obtain ⟨c, q1, q2⟩ := blkL_cell hl hb
   obtain ⟨c', q3, q4⟩ := blkL_cell hl' hb'
   exact fpCells_disj (cells_nodup h s) q1 q3 hc q2 q4
end lends
def posL (N : Nat) (x : Nat × Nat × Lend) : Nat := match x.2.2 with
 | .cell .. => N + 2 * x.1
 | .box _ => N + 2 * x.1 + 1
def owL (N : Nat) (e : Env) (G : Gh) (fl : List (Nat × Nat × Lend)) (rt : List Nat) (M b : Nat) : Option Nat := match fl.find? (fun x => decide (b ∈ blkL e G x.2.2)) with
 | some x => some (posL N x)
 | none => owIn G rt M b
structure LendsOk (e : Env) (fl : List (Nat × Nat × Lend)) (rt : List Nat) (m : Nat) : Prop where
 inn : ∀ x ∈ fl, LendIn e x.2.2
 apart : apartF fl = true
 src : ∀ x ∈ fl, ∀ y ∈ fl, x.1 = y.1 → x.2.2.slot = y.2.2.slot
 notRead : ∀ x ∈ fl, x.2.2.slot ∉ rt
 idx : ∀ x ∈ fl, x.1 < m
section owL
variable {n : Nat} {e : Env} {tm : Array Value} {w : World} {G : Gh} {fl : List (Nat × Nat × Lend)} {rt : List Nat} {m N M b : Nat}
theorem owL_in (h : Inv n e tm w G) (hl : LendsOk e fl rt m) {x : Nat × Nat × Lend} (hx : x ∈ fl) (hb : b ∈ blkL e G x.2.2) : owL N e G fl rt M b = some (posL N x) := by
 unfold owL
 cases hf : fl.find? (fun x => decide (b ∈ blkL e G x.2.2)) with
 | none =>
  have := List.find?_eq_none.1 hf x hx
  simp [hb] at this
 | some y =>
  have hy := List.mem_of_find?_eq_some hf
  have hyb := List.find?_some hf
  simp only [decide_eq_true_eq] at hyb
  rcases apartF_mem hl.apart x hx y hy with rfl | q
  ·rfl
  ·exact absurd hyb (blkL_disj h (hl.inn x hx) (hl.inn y hy) q hb)
theorem owL_out (hb : ∀ x ∈ fl, b ∉ blkL e G x.2.2) : owL N e G fl rt M b = owIn G rt M b := by
 unfold owL
 cases hf : fl.find? (fun x => decide (b ∈ blkL e G x.2.2)) with
 | none => rfl
 | some y =>
  have hy := List.mem_of_find?_eq_some hf
  have hyb := List.find?_some hf
  simp only [decide_eq_true_eq] at hyb
  exact absurd hyb (hb y hy)
theorem owL_none (h : Inv n e tm w G) (hl : LendsOk e fl rt m) (hb : G.ow b = none) : owL N e G fl rt M b = none := by
 rw [owL_out fun x hx q => by rw [blkL_ow h (hl.inn x hx) q] at hb; simp at hb]
 exact owIn_none hb
theorem owL_rt (h : Inv n e tm w G) (hl : LendsOk e fl rt m) {s : Nat} (hb : G.ow b = some s) (hs : s ∈ rt) : owL N e G fl rt M b = none := by
 rw [owL_out fun x hx q => by
  rw [blkL_ow h (hl.inn x hx) q] at hb
  simp only [Option.some.injEq] at hb
  exact hl.notRead x hx (by rw [hb]; exact hs)]
 exact owIn_rt hb hs
theorem owL_cases {t : Nat} (ho : owL N e G fl rt M b = some t) : (∃ x ∈ fl, b ∈ blkL e G x.2.2 ∧ t = posL N x) ∨ (t = M ∧ ∃ s, G.ow b = some s ∧ s ∉ rt ∧ ∀ x ∈ fl, b ∉ blkL e G x.2.2) := by
 unfold owL at ho
 cases hf : fl.find? (fun x => decide (b ∈ blkL e G x.2.2)) with
 | none =>
  rw [hf] at ho
  right
  have hno := List.find?_eq_none.1 hf
  simp only [owIn] at ho
  split at ho
  ·simp at ho
  ·rename_i s hs
   split at ho
   ·simp at ho
   ·rename_i hr
    simp only [Option.some.injEq] at ho
    exact ⟨ho.symm, s, hs, by simpa using hr, fun x hx => by simpa using hno x hx⟩
 | some y =>
  rw [hf] at ho
  simp only [Option.some.injEq] at ho
  have hy := List.mem_of_find?_eq_some hf
  have hyb := List.find?_some hf
  simp only [decide_eq_true_eq] at hyb
  exact .inl ⟨y, hy, hyb, ho.symm⟩
end owL
theorem encA_length : ∀ {ps : List (PSh × List PC)} {d : AsT ps}, (encA ps d).length = ps.length
 | [], _ => rfl
 | [p], _ => rfl
 | p :: q :: r, d => by simp [encA, encA_length (ps := q :: r)]
theorem snap_refAt {get : Nat → Slot} {c c' : C} (h : snap get c = some c') : c'.refAt = [] := by
 cases c with
 | ref s j rv sv p lo hi k =>
  simp only [snap] at h
  cases hq : content get s j rv sv p k <;> rw [hq] at h <;> simp at h
  subst h; rfl
 | bptr s bv j =>
  simp only [snap] at h
  split at h
  ·cases hq : snapIns (get s).cs <;> rw [hq] at h <;> simp at h
   subst h; rfl
  ·simp at h
 | dat k x => simp only [snap, Option.some.injEq] at h; subst h; rfl
 | nil => simp only [snap, Option.some.injEq] at h; subst h; rfl
 | pim cs j => simp only [snap, Option.some.injEq] at h; subst h; rfl
 | _ => simp [snap] at h
theorem sendC_refAt {t : Tr} {lent : List (Nat × Nat)} {c c' : C} (h : sendC t lent c = some c') : c'.refAt = [] := by
 cases c with
 | fn f caps =>
  simp only [sendC] at h
  cases hq : sendCaps t lent caps <;> rw [hq] at h <;> simp at h
  subst h; rfl
 | _ => exact snap_refAt (get := t.at) (by simpa only [sendC] using h)
theorem sendCs_refAt {t : Tr} {lent : List (Nat × Nat)} : ∀ {cs cs' : List C}, sendCs t lent cs = some cs' → ∀ c ∈ cs', c.refAt = []
 | [], cs', h, c, hc => by
  simp only [sendCs, Option.some.injEq] at h
  subst h
  simp at hc
 | a :: r, cs', h, c, hc => by
  simp only [sendCs] at h
  split at h
  ·rename_i c1 r1 h1 h2
   simp only [Option.some.injEq] at h
   subst h
   simp only [List.mem_cons] at hc
   rcases hc with rfl | hc
   ·exact sendC_refAt h1
   ·exact sendCs_refAt h2 c hc
  ·simp at h
end Go.Mach
namespace Go.Mach
set_option linter.unusedVariables false
set_option linter.unusedSimpArgs false
def giveS (z : Slot) : Slot := match z.sh with
 | .box _ => { z with sh := .dead, cs := [] }
 | _ => { z with cs := z.cs.map C.give }
theorem give_noOwn (c : C) : c.give.isOwn = false := by cases c <;> rfl
theorem give_idem (c : C) : c.give.give = c.give := by cases c <;> rfl
theorem giveS_idem (z : Slot) : giveS (giveS z) = giveS z := by
 unfold giveS
 cases h : z.sh <;> simp [h, give_idem]
theorem give_env {e0 : Env} : ∀ {rt : List Nat} {t : Tr} {e : Env}, TrOk e0 t e → (∀ s ∈ rt, s < e.length ∧ t.at s = e.get s) →
  ∃ e', TrOk e0 (t.give rt) e' ∧ e'.length = e.length ∧ (t.give rt).d = t.d ∧ ∀ s, e'.get s = if s ∈ rt then giveS (e.get s) else e.get s
 | [], t, e, h, _ => ⟨e, h, rfl, rfl, fun s => by simp⟩
 | s :: r, t, e, h, hs => by
  obtain ⟨hl, hat⟩ := hs s (by simp)
  have hput := h.put (giveS (e.get s)) hl
  have hgive : t.give (s :: r) = (t.put s (giveS (e.get s))).give r := by
   simp only [Tr.give, hat]
   rfl
  obtain ⟨e', h1, h2, h3, h4⟩ := give_env (rt := r) hput (fun s' hs' => by
   obtain ⟨q1, q2⟩ := hs s' (by simp [hs'])
   refine ⟨by simpa using q1, ?_⟩
   by_cases g : s' = s
   ·subst g; rw [at_put_self, get_set_self hl]
   ·rw [at_put_ne t _ g, get_set_ne g]; exact q2)
  refine ⟨e', by rw [hgive]; exact h1, by simpa using h2, by rw [hgive]; exact h3, fun s' => ?_⟩
  rw [h4 s']
  by_cases g : s' = s
  ·subst g
   rw [get_set_self hl]
   simp only [List.mem_cons, true_or, if_true]
   split
   ·exact giveS_idem _
   ·rfl
  ·rw [get_set_ne g]
   simp only [List.mem_cons, g, false_or]
section back
variable {n : Nat} {e : Env} {tm : Array Value} {w w1 : World} {G : Gh}
theorem lay_res {e0 e : Env} {a : Act} {w : World} {G0 G : Gh} {t : Tr} (h : Inv n e a.tmps w G) (ht : TrOk e0 t e) {w0 : World} (hst : Held n e0.length w0 w G0 G) {v : Val} {vs : List Value} {Ls : Nat → LT} {H : List Nat} {bk : Nat}
  (hH : ∀ b ∈ H, Loose e G b ∧ G.ow b ≠ none ∧ b < w.heap.size ∧ (∀ t, G0.ow b = some t → t < e0.length)) (hlen : vs.length = v.2.length) (hcell : ∀ (j : Nat) c u, v.2[j]? = some c → vs[j]? = some u → NewOk e w G w H c u (Ls j))
  (hfp : boxB v.1 bk ++ fpCells Ls 0 v.2 = H) (hnd : H.Nodup) (halive : v.1 ≠ .dead) (hbox : ∀ bv, v.1 = .box bv → ∃ ty, w.heap[bk]? = some (.cells vs.toArray ty (0, 0))) (hsize : w0.heap.size ≤ w.heap.size) (hn : ∀ b, G0.ow b = none → w0.heap[b]? ≠ none → b ∉ H) (hd : ∀ d, t.d = some d → d < n) (henv : SameEnv w0 w) :
  ∃ G', Post n (e0.puts (t.lay t.d v).ws) a w0 G0 (a.put t.d (resForm v.1 vs bk)) w G' := by
 cases hdd : t.d with
 | none =>
  simp only [Tr.lay, Act.put]
  rw [ht.puts]
  exact ⟨G, h, by rw [ht.length]; exact hst, hsize, rfl, henv⟩
 | some d =>
  have hdn := hd d hdd
  have hat := ht.dst d hdd
  have hlen' : d < e.length := Nat.lt_of_lt_of_le hdn h.elen
  simp only [Tr.lay]
  rw [(ht.put ((t.at d).lay v.1 v.2) hlen').puts, hat]
  have := h.lay (w' := w) d v.1 v.2 vs Ls bk H (Nat.le_refl _) (fun b _ _ => rfl) (fun b hb => ⟨(hH b hb).1, .inl (hH b hb).2.1, (hH b hb).2.2.1⟩) hlen hcell
   (by rw [hfp]; exact hnd) (by rw [hfp]; exact fun b hb => hb) (fun q => absurd q halive) hbox (a.put (some d) (resForm v.1 vs bk)).tmps (by rw [put_size]; exact h.size)
   (fun t' ht' hn => by rw [put_tmps]; simp [Ne.symm ht'])
   (fun hn => by
    have hu : (a.put (some d) (resForm v.1 vs bk)).tmps[d]? = some (resForm v.1 vs bk) := by
     rw [put_tmps]
     simp [h.size, hdn]
    revert hu halive
    cases v.1 <;> simp [FormIs, resForm])
  refine ⟨_, this, ⟨fun b q1 q2 => ?_, fun s hs => ?_, fun b t' q1 q2 q3 => ?_⟩, hsize, put_defers _ _ _, henv⟩
  ·have h1 := hst.still b q1 q2
   refine ⟨h1.1, ?_⟩
   simp only [Gh.lay]
   rw [if_neg (hn b q1 q2)]
   exact h1.2
  ·rw [show (G.lay d vs Ls bk H).vs s = G.vs s from upd_ne _ _ (by omega), show (G.lay d vs Ls bk H).lt s = G.lt s from upd_ne _ _ (by omega), show (G.lay d vs Ls bk H).bk s = G.bk s from upd_ne _ _ (by omega)]
   exact hst.vs s hs
  ·have hl : (e.set d ((e.get d).lay v.1 v.2)).length = e0.length := by rw [List.length_set, ht.length]
   have h1 := hst.out b t' q1 (by rw [← hl]; exact q2) q3
   refine ⟨h1.1, ?_⟩
   simp only [Gh.lay]
   rw [if_neg fun hb => by have := (hH b hb).2.2.2 t' q1; omega]
   exact h1.2
end back
theorem semD_ok {f : Nat} {md : List Bool} {vals : List Val} {P : Program} [Tabs P] : ∀ {bk : Book} {r : Val × List (List C)}, BookOk P bk → semD f md vals some bk = some r →
  ∃ t, FnOk P f t ∧ t.md = md ∧ ∃ d b, decA t.n t.md 0 t.args vals = some d ∧ t.T d = some b ∧ retOf t.n t.results t.md (encA t.args d) (t.out.enc b) = some r
 | [], r, _, h => by simp [semD] at h
 | (g, t) :: bk, r, hb, h => by
  simp only [semD] at h
  split at h
  ·rename_i d h1 h2 h3
   have hg := Nat.eq_of_beq_eq_true h1
   subst hg
   cases hT : t.T d with
   | none => rw [hT] at h; simp at h
   | some b =>
    rw [hT] at h
    simp only [Option.bind_some] at h
    have h' : retOf t.n t.results t.md (encA t.args d) (t.out.enc b) = some r := by
     cases hq : retOf t.n t.results t.md (encA t.args d) (t.out.enc b) with
     | none => rw [hq] at h; simp at h
     | some r' => rw [hq] at h; simpa using h
    exact ⟨t, hb.1, by simpa using h2, d, b, h3, hT, h'⟩
  ·exact semD_ok hb.2 h
end Go.Mach
namespace Go.Mach
set_option linter.unusedVariables false
set_option linter.unusedSimpArgs false
theorem sent_rep {w : World} {d : Bool} {k : K} {l : List k.T} {L : LT} {v0 x : Value} (h : RepL true w k.size (Rep d w k) l L v0) (hs : SliceIs k.size l.length (hdOf L) none none x) :
  RepL true w k.size (Rep d w k) l (sentL L) x := by
 obtain ⟨_, _, hs⟩ := hs
 rcases h with ⟨rfl, rfl, a, cap, rfl, _⟩ | ⟨b, off, cap, rows, rfl, rfl, h3, h4, h0, h5, h6⟩
 ·simp only [hdOf] at hs
  obtain ⟨a', rfl, _⟩ := hs
  exact .inl ⟨rfl, rfl, a', 0, rfl, fun _ => rfl⟩
 ·simp only [hdOf, Option.getD_none, Nat.sub_zero] at hs
  obtain ⟨_, o, rfl, ho⟩ := hs
  cases cap with
  | zero =>
   have : l = [] := List.eq_nil_of_length_eq_zero (by omega)
   subst this
   exact .inl ⟨rfl, rfl, _, 0, rfl, fun _ => rfl⟩
  | succ c =>
   have := ho (by omega)
   exact .inr ⟨b, off, c + 1, rows, rfl, by rw [this]; simp, h3, h4, h0, h5, h6⟩
def backL (L L1 : LT) : LT := match hdOf (sentL L) with
 | none => L
 | some _ => L1
theorem back_rep {w w1 : World} {d d1 : Bool} {k : K} {l l1 : List k.T} {L L1 : LT} {v0 x : Value} (h : RepL true w k.size (Rep d w k) l L v0) (hs : SliceIs k.size l.length (hdOf L) none none x)
  (h1 : RepL true w1 k.size (Rep d1 w1 k) l1 L1 x) (hh : hdOf L1 = hdOf (sentL L)) (hsame : hdOf (sentL L) = none → ∀ b ∈ (hdOf L).toList.map (·.1), w1.heap[b]? = w.heap[b]?) :
  RepL true w1 k.size (Rep d1 w1 k) l1 (backL L L1) v0 ∧ l1.length = l.length ∧ hdOf (backL L L1) = hdOf L := by
 obtain ⟨_, _, hs⟩ := hs
 rcases h with ⟨rfl, rfl, a, cap, rfl, hc⟩ | ⟨b, off, cap, rows, rfl, rfl, h3, h4, h0, h5, h6⟩
 ·simp only [sentL, hdOf] at hh
  simp only [backL, sentL, hdOf]
  rcases h1 with ⟨rfl, rfl, _, _, _, _⟩ | ⟨b1, off1, cap1, rows1, rfl, _⟩
  ·exact ⟨.inl ⟨rfl, rfl, a, cap, rfl, hc⟩, rfl, trivial⟩
  ·simp [hdOf] at hh
 ·simp only [hdOf, Option.getD_none, Nat.sub_zero] at hs
  obtain ⟨_, o, rfl, ho⟩ := hs
  cases cap with
  | zero =>
   have : l = [] := List.eq_nil_of_length_eq_zero (by omega)
   subst this
   have hrows : rows = [] := List.eq_nil_of_length_eq_zero (by simpa using h4)
   subst hrows
   simp only [sentL, hdOf] at hh hsame
   simp only [backL, sentL, hdOf]
   have hb := hsame trivial b (by simp)
   rcases h1 with ⟨rfl, rfl, _, _, _, _⟩ | ⟨b1, off1, cap1, rows1, rfl, _⟩
   ·exact ⟨.inr ⟨b, off, 0, [], rfl, rfl, by simp, rfl, by rw [hb]; exact h0, fun hd => (h5 hd).same hb, fun i x r hx => by simp at hx⟩, rfl, trivial⟩
   ·simp [hdOf] at hh
  | succ c =>
   have hoff := ho (by omega)
   simp only [sentL, hdOf] at hh
   simp only [backL, sentL, hdOf]
   rcases h1 with ⟨rfl, rfl, _, _, _, _⟩ | ⟨b1, off1, cap1, rows1, rfl, hx, g3, g4, g0, g5, g6⟩
   ·simp [hdOf] at hh
   ·simp only [hdOf, Option.some.injEq, Prod.mk.injEq] at hh
    obtain ⟨rfl, rfl, rfl⟩ := hh
    have hlen : l.length = l1.length := by
     simp only [Value.slice.injEq] at hx
     exact hx.2.1
    refine ⟨.inr ⟨b1, off1, c + 1, rows1, rfl, by rw [hlen], g3, g4, g0, g5, g6⟩, hlen.symm, rfl⟩
theorem fpCells_nodup {lt : Nat → LT} : ∀ {cs : List C} {i : Nat}, (∀ (j : Nat) c, cs[j]? = some c → (ownB c (lt (i + j))).Nodup) →
  (∀ (j j' : Nat) c c' b, j ≠ j' → cs[j]? = some c → cs[j']? = some c' → b ∈ ownB c (lt (i + j)) → b ∉ ownB c' (lt (i + j'))) → (fpCells lt i cs).Nodup
 | [], i, _, _ => List.nodup_nil
 | c :: r, i, h1, h2 => by
  simp only [fpCells]
  rw [List.nodup_append]
  refine ⟨by simpa using h1 0 c rfl, fpCells_nodup (fun j c' hc => ?_) (fun j j' c1 c2 b hne q1 q2 hb => ?_), fun a ha b hb hab => ?_⟩
  ·have := h1 (j + 1) c' (by simpa using hc)
   rw [show i + 1 + j = i + (j + 1) by omega]; exact this
  ·have := h2 (j + 1) (j' + 1) c1 c2 b (by omega) (by simpa using q1) (by simpa using q2)
   rw [show i + 1 + j = i + (j + 1) by omega] at hb
   rw [show i + 1 + j' = i + (j' + 1) by omega]
   exact this hb
  ·subst hab
   obtain ⟨j, c', q1, q2⟩ := fpCells_of hb
   have := h2 0 (j + 1) c c' a (by omega) rfl (by simpa using q1) (by simpa using ha)
   rw [show i + 1 + j = i + (j + 1) by omega] at q2
   exact this q2
theorem ownBox_get : ∀ {cs cs' : List C}, ownBox cs = some cs' → cs'.length = cs.length ∧ ∀ (j : Nat) c c', cs[j]? = some c → cs'[j]? = some c' →
  (∃ rv sv d k l, c = .own rv sv d k l ∧ c' = .own 0 0 d k l) ∨ (c' = c ∧ c.isOwn = false ∧ ((∃ k x, c = .dat k x) ∨ c = .nil ∨ (∃ a j, c = .pim a j) ∨ ∃ f, c = .fn f []))
 | [], cs', h => by
  simp only [ownBox, Option.some.injEq] at h
  subst h
  exact ⟨rfl, fun j c c' hc => by simp at hc⟩
 | c :: r, cs', h => by
  simp only [ownBox] at h
  split at h
  ·simp at h
  ·rename_i r' hr
   obtain ⟨g1, g2⟩ := ownBox_get hr
   have fin : ∀ c', cs' = c' :: r' → ((∃ rv sv d k l, c = .own rv sv d k l ∧ c' = .own 0 0 d k l) ∨ (c' = c ∧ c.isOwn = false ∧ ((∃ k x, c = .dat k x) ∨ c = .nil ∨ (∃ a j, c = .pim a j) ∨ ∃ f, c = .fn f []))) →
     cs'.length = (c :: r).length ∧ ∀ (j : Nat) a b, (c :: r)[j]? = some a → cs'[j]? = some b →
      (∃ rv sv d k l, a = .own rv sv d k l ∧ b = .own 0 0 d k l) ∨ (b = a ∧ a.isOwn = false ∧ ((∃ k x, a = .dat k x) ∨ a = .nil ∨ (∃ x j, a = .pim x j) ∨ ∃ f, a = .fn f [])) := by
    rintro c' rfl hc
    refine ⟨by simp [g1], fun j a b ha hb => ?_⟩
    cases j with
    | zero =>
     simp only [List.getElem?_cons_zero, Option.some.injEq] at ha hb
     subst ha hb
     exact hc
    | succ j => exact g2 j a b (by simpa using ha) (by simpa using hb)
   split at h
   ·simp only [Option.some.injEq] at h
    exact fin _ h.symm (.inl ⟨_, _, _, _, _, rfl, rfl⟩)
   ·simp only [Option.some.injEq] at h
    exact fin _ h.symm (.inr ⟨rfl, rfl, .inl ⟨_, _, rfl⟩⟩)
   ·simp only [Option.some.injEq] at h
    exact fin _ h.symm (.inr ⟨rfl, rfl, .inr (.inl rfl)⟩)
   ·simp only [Option.some.injEq] at h
    exact fin _ h.symm (.inr ⟨rfl, rfl, .inr (.inr (.inl ⟨_, _, rfl⟩))⟩)
   ·simp only [Option.some.injEq] at h
    exact fin _ h.symm (.inr ⟨rfl, rfl, .inr (.inr (.inr ⟨_, rfl⟩))⟩)
   ·simp at h
theorem readTargets_mem {md : List Bool} {lent : List (Nat × Nat)} : ∀ {args : List Val} {i j : Nat} {v : Val} {s : Nat}, args[j]? = some v → md.getD (i + j) false = false → s ∈ v.2.flatMap (readCell lent) → s ∈ readTargets md lent i args
 | [], i, j, v, s, h, _, _ => by simp at h
 | (sh, cs) :: r, i, 0, v, s, h, hm, hs => by
  simp only [List.getElem?_cons_zero, Option.some.injEq] at h
  subst h
  simp only [Nat.add_zero] at hm
  simp only [readTargets, hm, Bool.false_eq_true, if_false, List.mem_append]
  exact .inl hs
 | (sh, cs) :: r, i, j + 1, v, s, h, hm, hs => by
  have := readTargets_mem (md := md) (lent := lent) (args := r) (i := i + 1) (j := j) (by simpa using h) (by rw [show i + 1 + j = i + (j + 1) by omega]; exact hm) hs
  simp only [readTargets]
  split
  ·exact this
  ·simp only [List.mem_append]; exact .inr this
theorem readTargets_of {md : List Bool} {lent : List (Nat × Nat)} : ∀ {args : List Val} {i s : Nat}, s ∈ readTargets md lent i args → ∃ (j : Nat) (v : Val), args[j]? = some v ∧ md.getD (i + j) false = false ∧ s ∈ v.2.flatMap (readCell lent)
 | [], i, s, h => by simp [readTargets] at h
 | (sh, cs) :: r, i, s, h => by
  simp only [readTargets] at h
  split at h
  ·obtain ⟨j, v, h1, h2, h3⟩ := readTargets_of h
   exact ⟨j + 1, v, by simpa using h1, by rw [show i + (j + 1) = i + 1 + j by omega]; exact h2, h3⟩
  ·rename_i hm
   simp only [List.mem_append] at h
   rcases h with h | h
   ·exact ⟨0, _, rfl, by simpa using hm, h⟩
   ·obtain ⟨j, v, h1, h2, h3⟩ := readTargets_of h
    exact ⟨j + 1, v, by simpa using h1, by rw [show i + (j + 1) = i + 1 + j by omega]; exact h2, h3⟩
section lent
variable {n : Nat} {e : Env} {tm : Array Value} {w : World} {G : Gh}
theorem blkL_nodup (h : Inv n e tm w G) {l : Lend} (hl : LendIn e l) : (blkL e G l).Nodup := by
 cases l with
 | box s => exact (h.slot s).nodup
 | cell s j p k =>
  obtain ⟨rv, sv, d, k0, l0, x, h1, h2, h3, h4⟩ := hl
  obtain ⟨o1, o2, o3⟩ := h.ownBlocks h1
  rw [ownB_ownD] at o3
  simp only [blkL, getD_some h1]
  have key : ∀ L : LT, (ownD d k L).Nodup → (ownD d k (sentL L)).Nodup := by
   intro L hL
   cases L with
   | node b off cap rows =>
    cases cap with
    | zero => cases d <;> simp [sentL, ownD, fp, hdOf]
    | succ c => exact hL
   | _ => exact hL
  refine key _ ?_
  by_cases hp : p = []
  ·subst hp
   rw [getP_nil] at h4
   simp only [Sigma.mk.injEq] at h4
   obtain ⟨rfl, _⟩ := h4
   exact o3
  ·obtain rfl := h2.resolve_left hp
   obtain ⟨v, hv, hcell⟩ := h.val h1
   obtain ⟨v', rest, f1, f2, f3⟩ := focus (fun _ l => l) p k0 l0 (G.lt s j) v hcell.1 h3
   rw [h4] at f2
   have := f2.nodup_iff.1 (by simpa [ownD] using o3)
   rw [List.nodup_append] at this
   simpa [ownD] using this.1
structure CellSent (e : Env) (args : List Val) (q : Sent) (md : List Bool) (i c s j : Nat) (p : Path) (k : K) (v v' : Val) (rv sv sv' : Nat) (d : Bool) (k0 : K) (l0 : List k0.T) (y : List k.T) : Prop where
 arg : args[i]? = some v
 val : q.vals[i]? = some v'
 md : md.getD i false = true
 sh : v'.1 = v.1
 ref : v.2[c]? = some (.ref s j rv sv p none none k)
 own : (e.get s).cs[j]? = some (.own rv sv' d k0 l0)
 path : p = [] ∨ (svOk p sv sv' = true ∧ d = true)
 get : getP k0 l0 p = ⟨k, y⟩
 sent : v'.2[c]? = some (.own 0 0 d k y)
theorem sees_cell {t : Tr} (hs : Sees t.at e) {s j : Nat} {c : C} (h : (t.at s).cs.getD j .dead = c) (hc : c ≠ .dead) : (e.get s).cs[j]? = some c := by
 have := some_of_getD h hc
 rcases hs s with q | q
 ·rw [q] at this; exact this
 ·rw [q] at this; simp at this
theorem lent_cell {t : Tr} (hs : Sees t.at e) {md : List Bool} {args : List Val} {q : Sent} (hsend : send t md [] 0 args = some q) {i c s j : Nat} {p : Path} {k : K} (hx : (i, c, .cell s j p k) ∈ lendAt 0 q.lends) :
  ∃ v v' rv sv sv' d k0 l0 y, CellSent e args q md i c s j p k v v' rv sv sv' d k0 l0 y := by
 obtain ⟨g1, g2, g3⟩ := send_get hsend
 obtain ⟨ls, _, h2, h3⟩ := mem_lendAt.1 hx
 dsimp only at h2 h3
 rw [Nat.sub_zero] at h2
 have hil : i < args.length := by rw [← g2]; exact (List.getElem?_eq_some_iff.1 h2).1
 obtain ⟨v, hv⟩ : ∃ v, args[i]? = some v := ⟨_, List.getElem?_eq_getElem hil⟩
 obtain ⟨v', hv'⟩ : ∃ v', q.vals[i]? = some v' := ⟨_, List.getElem?_eq_getElem (by rw [g1]; exact hil)⟩
 rcases g3 i v v' ls hv hv' h2 with ⟨_, _, _, rfl⟩ | ⟨_, s', bv, cs, _, _, _, _, rfl⟩ | ⟨hm, hsh, hlc⟩
 ·simp at h3
 ·cases c with
  | zero => simp at h3
  | succ c => simp at h3
 ·obtain ⟨l1, l2, l3⟩ := lendCells_get hlc
  have hcl : c < v.2.length := by rw [← l2]; exact (List.getElem?_eq_some_iff.1 h3).1
  obtain ⟨a, ha⟩ : ∃ a, v.2[c]? = some a := ⟨_, List.getElem?_eq_getElem hcl⟩
  obtain ⟨a', ha'⟩ : ∃ a', v'.2[c]? = some a' := ⟨_, List.getElem?_eq_getElem (by rw [l1]; exact hcl)⟩
  rcases l3 c a a' _ ha ha' h3 with ⟨_, _, _, _, hn, _⟩ | ⟨s', j', rv, sv, p', k', rv', sv', d, k0, l0, x, rfl, hat, rfl, hp, hcast, rfl, hl⟩
  ·simp at hn
  ·simp only [Option.some.injEq, Lend.cell.injEq] at hl
   obtain ⟨rfl, rfl, rfl, rfl⟩ := hl
   exact ⟨v, v', rv, sv, sv', d, k0, l0, x, hv, hv', by simpa using hm, hsh, ha, sees_cell hs hat (by simp), hp, castL_some hcast, ha'⟩
structure BoxSent (e : Env) (args : List Val) (q : Sent) (md : List Bool) (i s bv : Nat) (cs : List C) : Prop where
 arg : args[i]? = some (.one, [.bptr s bv 0])
 val : q.vals[i]? = some (.box 0, cs)
 md : md.getD i false = true
 lends : q.lends[i]? = some [some (.box s)]
 box : (e.get s).sh = .box bv
 own : ownBox (e.get s).cs = some cs
theorem sees_box {t : Tr} (hs : Sees t.at e) {s bv : Nat} (h : (t.at s).sh = .box bv) : t.at s = e.get s := by
 rcases hs s with q | q
 ·exact q
 ·rw [q] at h; simp at h
theorem lent_box {t : Tr} (hs : Sees t.at e) {md : List Bool} {args : List Val} {q : Sent} (hsend : send t md [] 0 args = some q) {i c s : Nat} (hx : (i, c, .box s) ∈ lendAt 0 q.lends) :
  c = 0 ∧ ∃ bv cs, BoxSent e args q md i s bv cs := by
 obtain ⟨g1, g2, g3⟩ := send_get hsend
 obtain ⟨ls, _, h2, h3⟩ := mem_lendAt.1 hx
 dsimp only at h2 h3
 rw [Nat.sub_zero] at h2
 have hil : i < args.length := by rw [← g2]; exact (List.getElem?_eq_some_iff.1 h2).1
 obtain ⟨v, hv⟩ : ∃ v, args[i]? = some v := ⟨_, List.getElem?_eq_getElem hil⟩
 obtain ⟨v', hv'⟩ : ∃ v', q.vals[i]? = some v' := ⟨_, List.getElem?_eq_getElem (by rw [g1]; exact hil)⟩
 rcases g3 i v v' ls hv hv' h2 with ⟨_, _, _, rfl⟩ | ⟨hm, s', bv, cs, rfl, hsh, hob, rfl, rfl⟩ | ⟨hm, hsh, hlc⟩
 ·simp at h3
 ·cases c with
  | zero =>
   simp only [List.getElem?_cons_zero, Option.some.injEq, Lend.box.injEq] at h3
   subst h3
   have := sees_box hs hsh
   rw [this] at hsh hob
   exact ⟨rfl, bv, cs, hv, hv', by simpa using hm, h2, hsh, hob⟩
  | succ c => simp at h3
 ·obtain ⟨l1, l2, l3⟩ := lendCells_get hlc
  have hcl : c < v.2.length := by rw [← l2]; exact (List.getElem?_eq_some_iff.1 h3).1
  obtain ⟨a, ha⟩ : ∃ a, v.2[c]? = some a := ⟨_, List.getElem?_eq_getElem hcl⟩
  obtain ⟨a', ha'⟩ : ∃ a', v'.2[c]? = some a' := ⟨_, List.getElem?_eq_getElem (by rw [l1]; exact hcl)⟩
  rcases l3 c a a' _ ha ha' h3 with ⟨_, _, _, _, hn, _⟩ | ⟨s', j', rv, sv, p', k', rv', sv', d, k0, l0, x, rfl, hat, rfl, hp, hcast, rfl, hl⟩
  ·simp at hn
  ·simp at hl
theorem lends_in (h : Inv n e tm w G) {t : Tr} (hs : Sees t.at e) {md : List Bool} {args : List Val} {us : List Value} (ha : ArgsOk e w G args us) {q : Sent} (hsend : send t md [] 0 args = some q) :
  ∀ x ∈ lendAt 0 q.lends, LendIn e x.2.2 ∧ x.1 < args.length := by
 rintro ⟨i, c, l⟩ hx
 cases l with
 | box s =>
  obtain ⟨_, bv, cs, hb⟩ := lent_box hs hsend hx
  exact ⟨⟨bv, hb.box⟩, (List.getElem?_eq_some_iff.1 hb.arg).1⟩
 | cell s j p k =>
  obtain ⟨v, v', rv, sv, sv', d, k0, l0, y, hc⟩ := lent_cell hs hsend hx
  have hil := (List.getElem?_eq_some_iff.1 hc.arg).1
  obtain ⟨vs, Ls, hval⟩ := ha.2 i v _ hc.arg (List.getElem?_eq_getElem (by rw [ha.1]; exact hil))
  have hcl : c < vs.length := by rw [hval.cells.len]; exact (List.getElem?_eq_some_iff.1 hc.ref).1
  have := ref_reads h (hval.cells.cell c _ _ hc.ref (List.getElem?_eq_getElem hcl)) hc.own hc.path hc.get
  exact ⟨⟨rv, sv', d, k0, l0, y, hc.own, hc.path.imp id And.right, this.2.1, hc.get⟩, hil⟩
end lent
end Go.Mach
namespace Go.Mach
set_option linter.unusedVariables false
set_option linter.unusedSimpArgs false
def lendL (e : Env) (G : Gh) (o : Option Lend) (L : LT) : LT := match o with
 | some (.cell s j p _) => match (e.get s).cs.getD j .dead with
  | .own _ _ _ k0 _ => sentL (subL k0 (G.lt s j) p)
  | _ => .leaf
 | _ => L
def boxSrc (o : Option (List (Option Lend))) : Nat := match o with
 | some [some (.box s)] => s
 | _ => 0
section start3
variable {n : Nat} {e : Env} {tm : Array Value} {w : World} {G : Gh}
theorem sent_cell (h : Inv n e tm w G) {t : Tr} (hs : Sees t.at e) {v : Val} {u : Value} {vs : List Value} {Ls : Nat → LT} (hval : ValOk e w G v u vs Ls) {cs' : List C} {ls : List (Option Lend)} (hlc : lendCells t v.2 = some (cs', ls)) {j : Nat} {c : C} {x : Value}
  (hc : cs'[j]? = some c) (hx : vs[j]? = some x) :
  (∃ k y, c = .dat k y ∧ CellOk e w G c x (Ls j) ∧ ls[j]? = some none) ∨
  (∃ s jj p k rv' sv' d k0 l0 y, c = .own 0 0 d k y ∧ ls[j]? = some (some (.cell s jj p k)) ∧ (e.get s).cs[jj]? = some (.own rv' sv' d k0 l0) ∧ (p = [] ∨ d = true) ∧ PathOk k0 l0 p ∧ getP k0 l0 p = ⟨k, y⟩ ∧
   SliceIs k.size y.length (hdOf (subL k0 (G.lt s jj) p)) none none x ∧ RepL true w k.size (Rep d w k) y (sentL (subL k0 (G.lt s jj) p)) x ∧ (d = false → ∀ b ∈ inner k (sentL (subL k0 (G.lt s jj) p)), G.ow b = none)) := by
 obtain ⟨l1, l2, l3⟩ := lendCells_get hlc
 have hjl : j < v.2.length := by rw [← l1]; exact (List.getElem?_eq_some_iff.1 hc).1
 obtain ⟨a, ha⟩ : ∃ a, v.2[j]? = some a := ⟨_, List.getElem?_eq_getElem hjl⟩
 obtain ⟨l, hl⟩ : ∃ l, ls[j]? = some l := ⟨_, List.getElem?_eq_getElem (by rw [l2]; exact hjl)⟩
 have hcell := hval.cells.cell j a x ha hx
 rcases l3 j a c l ha hc hl with ⟨k, y, rfl, rfl, rfl, _⟩ | ⟨s, jj, rv, sv, p, k, rv', sv', d, k0, l0, y, rfl, hat, rfl, hp, hcast, rfl, rfl⟩
 ·exact .inl ⟨k, y, rfl, hcell, hl⟩
 ·have hown := sees_cell hs hat (by simp)
  have hget := castL_some hcast
  have hget' : getP k0 l0 p = ⟨k, y⟩ := hget
  obtain ⟨q1, q2, _, _⟩ := ref_reads h hcell hown hp hget'
  obtain ⟨u', r1, _⟩ := h.at_path hown q2 (hp.imp id And.right) hget'
  refine .inr ⟨s, jj, p, k, rv, sv', d, k0, l0, y, rfl, hl, hown, hp.imp id And.right, q2, hget', q1, sent_rep r1 q1, fun hd b hb => ?_⟩
  subst hd
  have hp0 : p = [] := by
   rcases hp with q | q
   ·exact q
   ·simp at q
  subst hp0
  rw [getP_nil] at hget'
  simp only [Sigma.mk.injEq] at hget'
  obtain ⟨rfl, _⟩ := hget'
  exact (h.ownBlocks hown).2.1 rfl b (by simpa [subL] using sentL_inner _ _ b hb)
structure StartOk (N : Nat) (e : Env) (w : World) (G : Gh) (q : Sent) (Gc : Gh) : Prop where
 cell : ∀ i c s j p k, (i, c, Lend.cell s j p k) ∈ lendAt 0 q.lends → ∃ rv sv d k0 l0 y x, (e.get s).cs[j]? = some (.own rv sv d k0 l0) ∧ (p = [] ∨ d = true) ∧ PathOk k0 l0 p ∧ getP k0 l0 p = ⟨k, y⟩ ∧ (Gc.vs (N + 2 * i))[c]? = some x ∧
  SliceIs k.size y.length (hdOf (subL k0 (G.lt s j) p)) none none x ∧ Gc.lt (N + 2 * i) c = sentL (subL k0 (G.lt s j) p)
 box : ∀ i c s, (i, c, Lend.box s) ∈ lendAt 0 q.lends → Gc.bk (N + 2 * i + 1) = G.bk s ∧ ∃ bv cs, (e.get s).sh = .box bv ∧ q.vals[i]? = some (.box 0, cs)
theorem start_lend (h : Inv n e tm w G) {t : Tr} (hs : Sees t.at e) {md : List Bool} {args : List Val} {us : List Value} (ha : ArgsOk e w G args us) {q : Sent} (hsend : send t md [] 0 args = some q) {N : Nat} (hN : args.length ≤ N)
    {rt : List Nat} (hrt : ∀ s ∈ readTargets md [] 0 args, s ∈ rt) (hl : LendsOk e (lendAt 0 q.lends) rt args.length) (M : Nat) :
    ∃ Gc, Inv N (startE N md q.vals) (us.toArray ++ Array.replicate (N - us.length) undef) w Gc ∧ Gc.ow = owL N e G (lendAt 0 q.lends) rt M ∧ StartOk N e w G q Gc := by
  obtain ⟨g1, g2, g3⟩ := send_get hsend
  have hex : ∀ i : Nat, ∃ p : (List Value × (Nat → LT)) × (Nat → LT), ∀ v v' u, args[i]? = some v → q.vals[i]? = some v' → us[i]? = some u → ValOk e w G v u p.1.1 p.1.2 ∧
      (md.getD i false = false → v'.1 = v.1 ∧ v'.2.length = v.2.length ∧ ∀ (j : Nat) c x, v'.2[j]? = some c → p.1.1[j]? = some x → c.isOwn = false ∧ ∀ e' G', G'.ow = owL N e G (lendAt 0 q.lends) rt M → CellOk e' w G' c x (p.2 j)) := by
    intro i
    cases hv : args[i]? with
    | none => exact ⟨(([], fun _ => .leaf), fun _ => .leaf), fun v v' u q => by simp at q⟩
    | some v =>
      have hil : i < args.length := (List.getElem?_eq_some_iff.1 hv).1
      obtain ⟨u, hu⟩ : ∃ u, us[i]? = some u := ⟨_, List.getElem?_eq_getElem (by rw [ha.1]; exact hil)⟩
      obtain ⟨v', hv'⟩ : ∃ v', q.vals[i]? = some v' := ⟨_, List.getElem?_eq_getElem (by rw [g1]; exact hil)⟩
      obtain ⟨ls, hls⟩ : ∃ ls, q.lends[i]? = some ls := ⟨_, List.getElem?_eq_getElem (by rw [g2]; exact hil)⟩
      obtain ⟨vs, Ls, hval⟩ := ha.2 i v u hv hu
      have hcase := g3 i v v' ls hv hv' hls
      rw [Nat.zero_add] at hcase
      by_cases hm : md.getD i false = false
      · rcases hcase with ⟨_, q1, q2, _⟩ | ⟨q0, _⟩ | ⟨q0, _⟩
        · obtain ⟨k1, Ls', k2⟩ := sendCs_ok h hs (owL N e G (lendAt 0 q.lends) rt M) (fun b => owL_none h hl) hval.cells q2 (fun b s hb hm' => owL_rt h hl hb (hrt s (readTargets_mem (i := 0) hv (by rw [Nat.zero_add]; exact hm) hm')))
          refine ⟨((vs, Ls), Ls'), fun w1 w2 w3 a b c => ?_⟩
          simp only [Option.some.injEq] at a
          subst a
          rw [hv'] at b
          rw [hu] at c
          simp only [Option.some.injEq] at b c
          subst b c
          exact ⟨hval, fun _ => ⟨q1, k1, k2⟩⟩
        · rw [hm] at q0; simp at q0
        · rw [hm] at q0; simp at q0
      · refine ⟨((vs, Ls), fun _ => .leaf), fun w1 w2 w3 a b c => ?_⟩
        simp only [Option.some.injEq] at a
        subst a
        rw [hu] at c
        simp only [Option.some.injEq] at c
        subst c
        exact ⟨hval, fun q => absurd q hm⟩
  obtain ⟨f, hf⟩ := Classical.axiomOfChoice hex
  let Gc : Gh := { vs := fun s => if s < N then (f s).1.1 else if (s - N) % 2 = 0 then (f ((s - N) / 2)).1.1 else G.vs (boxSrc q.lends[(s - N) / 2]?),
                   lt := fun s => if s < N then (if md.getD s false then (f s).1.2 else (f s).2) else if (s - N) % 2 = 0 then (fun j => lendL e G ((q.lends.getD ((s - N) / 2) []).getD j none) ((f ((s - N) / 2)).1.2 j)) else G.lt (boxSrc q.lends[(s - N) / 2]?),
                   bk := fun s => if s < N then 0 else G.bk (boxSrc q.lends[(s - N) / 2]?),
                   ow := owL N e G (lendAt 0 q.lends) rt M }
  have vsA : ∀ s, s < N → Gc.vs s = (f s).1.1 := fun s hs => if_pos hs
  have ltA0 : ∀ s, s < N → md.getD s false = false → Gc.lt s = (f s).2 := fun s hs hm => by simp only [Gc, if_pos hs, hm]; rfl
  have ltA1 : ∀ s, s < N → md.getD s false = true → Gc.lt s = (f s).1.2 := fun s hs hm => by simp only [Gc, if_pos hs, hm]; rfl
  have ar : ∀ i, ¬ N + 2 * i < N ∧ (N + 2 * i - N) % 2 = 0 ∧ (N + 2 * i - N) / 2 = i ∧ ¬ N + 2 * i + 1 < N ∧ (N + 2 * i + 1 - N) % 2 ≠ 0 ∧ (N + 2 * i + 1 - N) / 2 = i := by intro i; omega
  have vsB : ∀ i, Gc.vs (N + 2 * i) = (f i).1.1 := fun i => by
    obtain ⟨a1, a2, a3, _⟩ := ar i
    simp only [Gc, if_neg a1, if_pos a2, a3]
  have ltB : ∀ i j, Gc.lt (N + 2 * i) j = lendL e G ((q.lends.getD i []).getD j none) ((f i).1.2 j) := fun i j => by
    obtain ⟨a1, a2, a3, _⟩ := ar i
    simp only [Gc, if_neg a1, if_pos a2, a3]
  have vsC : ∀ i, Gc.vs (N + 2 * i + 1) = G.vs (boxSrc q.lends[i]?) := fun i => by
    obtain ⟨_, _, _, a1, a2, a3⟩ := ar i
    simp only [Gc, if_neg a1, if_neg a2, a3]
  have ltC : ∀ i, Gc.lt (N + 2 * i + 1) = G.lt (boxSrc q.lends[i]?) := fun i => by
    obtain ⟨_, _, _, a1, a2, a3⟩ := ar i
    simp only [Gc, if_neg a1, if_neg a2, a3]
  have bkC : ∀ i, Gc.bk (N + 2 * i + 1) = G.bk (boxSrc q.lends[i]?) := fun i => by
    obtain ⟨_, _, _, a1, a2, a3⟩ := ar i
    simp only [Gc, if_neg a1, a3]
  obtain ⟨s1, s2, s3⟩ := startE_slots (n := N) (md := md) (vals := q.vals) (by omega)
  rw [g1] at s1 s3
  have arg : ∀ i, i < args.length → ∃ v v' u ls, args[i]? = some v ∧ q.vals[i]? = some v' ∧ us[i]? = some u ∧ q.lends[i]? = some ls := fun i hil =>
    ⟨_, _, _, _, List.getElem?_eq_getElem hil, List.getElem?_eq_getElem (by omega), List.getElem?_eq_getElem (by rw [ha.1]; exact hil), List.getElem?_eq_getElem (by omega)⟩
  have noFp : ∀ (L : Nat → LT) (cs : List C) (i : Nat), (∀ c ∈ cs, c.isOwn = false) → fpCells L i cs = [] := by
    intro L cs
    induction cs with
    | nil => intro i _; rfl
    | cons c cs ih => intro i ho; simp only [fpCells]; rw [noOwn_ownB (ho c (by simp)), ih (i + 1) fun c hc => ho c (by simp [hc])]; rfl
  have htm : ∀ (s : Nat) (u : Value), us[s]? = some u → (us.toArray ++ Array.replicate (N - us.length) undef)[s]? = some u := by
    intro s u hu
    have : s < us.length := (List.getElem?_eq_some_iff.1 hu).1
    rw [Array.getElem?_append_left (by simpa using this)]
    simpa using hu
  have param : ∀ s, s < args.length → SlotOk N (startE N md q.vals) (us.toArray ++ Array.replicate (N - us.length) undef) w Gc s := by
    intro s hsl
    obtain ⟨v, v', u, ls, hv, hv', hu, hls⟩ := arg s hsl
    obtain ⟨hval, hread⟩ := hf s v v' u hv hv' hu
    have hsN : s < N := by omega
    have hg := (s2 s v' hv').1
    have hgB := (s2 s v' hv').2.1
    have hgC := (s2 s v' hv').2.2
    have hcase := g3 s v v' ls hv hv' hls
    rw [Nat.zero_add] at hcase
    have hu' := htm s u hu
    rcases hcase with ⟨hm, q1, q2, _⟩ | ⟨hm, s', bv, cs, rfl, hsh, hob, rfl, rfl⟩ | ⟨hm, hsh, hlc⟩
    · obtain ⟨k1, k2, k3⟩ := hread hm
      have hsl : slotA N md s v' = { sh := v'.1, cs := v'.2, cnt := 1 } := by simp only [slotA, hm]; rfl
      rw [hsl] at hg
      have hno : ∀ c ∈ v'.2, c.isOwn = false := by
        intro c hc
        obtain ⟨j, hj⟩ := List.getElem?_of_mem hc
        have hjl : j < (f s).1.1.length := by rw [hval.cells.len, ← k2]; exact (List.getElem?_eq_some_iff.1 hj).1
        exact (k3 j c _ hj (List.getElem?_eq_getElem hjl)).1
      have hfp : fpS Gc s ((startE N md q.vals).get s) = [] := by
        rw [hg]
        simp only [fpS, noFp _ _ 0 hno]
        have := hval.sh
        rw [← k1] at this
        cases hsh : v'.1 <;> first | rfl | exact absurd hsh (this _)
      refine ⟨fun _ => ?_, fun bv hb => ?_, fun hd => ?_, fun hd j c x hc hx => ?_, fun hd j rv sv d k l hc => ?_, by rw [hfp]; simp, by rw [hfp]; simp, fun hd => ?_⟩
      · rw [hg, vsA s hsN]
        rw [hval.form, ← k1] at hu'
        have h2 := hval.sh
        have h3 := hval.alive
        rw [← k1] at h2 h3
        revert h2 h3 hu'
        simp only [FormIs]
        cases v'.1 <;> simp
      · rw [hg] at hb
        have := hval.sh bv
        rw [← k1] at this
        exact absurd hb this
      · rw [hg, vsA s hsN, k2]; exact hval.cells.len
      · rw [hg] at hc
        rw [vsA s hsN] at hx
        rw [ltA0 s hsN hm]
        exact (k3 j c x hc hx).2 _ _ rfl
      · rw [hg] at hc
        have := hno _ (List.mem_of_getElem? hc)
        simp [C.isOwn] at this
      · rw [hg] at hd
        have := hval.alive
        rw [← k1] at this
        exact absurd hd this
    · have hsl : slotA N md s (.box 0, cs) = { sh := .one, cs := [.bptr (N + 2 * s + 1) 0 0], cnt := 1 } := by simp only [slotA, hm]; rfl
      have hslC : slotC md s (.box 0, cs) = { sh := .box 0, cs := cs, cnt := 1 } := by simp only [slotC, hm]; rfl
      rw [hsl] at hg
      rw [hslC] at hgC
      have hfp : fpS Gc s ((startE N md q.vals).get s) = [] := by rw [hg]; rfl
      refine ⟨fun _ => ?_, fun bv hb => ?_, fun hd => ?_, fun hd j c x hc hx => ?_, fun hd j rv sv d k l hc => ?_, by rw [hfp]; simp, by rw [hfp]; simp, fun hd => ?_⟩
      · rw [hg, vsA s hsN]
        rw [hval.form] at hu'
        exact hu'
      · rw [hg] at hb; simp at hb
      · rw [hg, vsA s hsN]; exact hval.cells.len
      · rw [hg] at hc
        rw [vsA s hsN] at hx
        cases j with
        | succ j => simp at hc
        | zero =>
          simp only [List.getElem?_cons_zero, Option.some.injEq] at hc
          subst hc
          obtain ⟨_, r2, r3⟩ := hval.cells.cell 0 _ x rfl hx
          have hat := sees_box hs hsh
          refine ⟨by rw [hgC]; simp, fun _ => ?_, r3⟩
          rw [bkC, hls]
          exact r2 (by rw [← hat]; exact hsh)
      · rw [hg] at hc
        cases j with
        | zero => simp at hc
        | succ j => simp at hc
      · rw [hg] at hd; simp at hd
    · have hnb : ∀ bv, v'.1 ≠ .box bv := fun bv => by rw [hsh]; exact hval.sh bv
      have hsl : slotA N md s v' = { sh := v'.1, cs := copyFrom (N + 2 * s) 0 v'.2, cnt := 1 } := by
        simp only [slotA, hm]
        cases hq : v'.1 <;> first | rfl | exact absurd hq (hnb _)
      have hslB : slotB md s v' = { sh := .agg, cs := v'.2, cnt := 1 } := by
        simp only [slotB, hm]
        cases hq : v'.1 <;> first | rfl | exact absurd hq (hnb _)
      rw [hsl] at hg
      rw [hslB] at hgB
      obtain ⟨l1, l2, _⟩ := lendCells_get hlc
      have hfp : fpS Gc s ((startE N md q.vals).get s) = [] := by
        rw [hg]
        simp only [fpS, noFp _ _ 0 (copyFrom_noOwn (N + 2 * s) v'.2 0)]
        cases hq : v'.1 <;> first | rfl | exact absurd hq (hnb _)
      refine ⟨fun _ => ?_, fun bv hb => ?_, fun hd => ?_, fun hd j c x hc hx => ?_, fun hd j rv sv d k l hc => ?_, by rw [hfp]; simp, by rw [hfp]; simp, fun hd => ?_⟩
      · rw [hg, vsA s hsN]
        rw [hval.form, ← hsh] at hu'
        have h3 := hval.alive
        rw [← hsh] at h3
        revert hnb h3 hu'
        simp only [FormIs]
        cases v'.1 <;> simp
      · rw [hg] at hb; exact absurd hb (hnb bv)
      · rw [hg, vsA s hsN, copyFrom_length, l1]; exact hval.cells.len
      · rw [hg] at hc
        rw [vsA s hsN] at hx
        rw [ltA1 s hsN hm]
        rw [copyFrom_get] at hc
        cases hc0 : v'.2[j]? with
        | none => rw [hc0] at hc; simp at hc
        | some c0 =>
          rw [hc0] at hc
          simp only [Option.map_some, Option.some.injEq, Nat.zero_add] at hc
          subst hc
          rcases sent_cell h hs hval hlc hc0 hx with ⟨k, y, rfl, r1, _⟩ | ⟨s', jj, p, k, rv', sv', d, k0, l0, y, rfl, r1, r2, r3, r4, r5, r6, r7, r8⟩
          · exact ⟨r1.1, fun b hb => owL_none h hl (r1.2 b hb)⟩
          · refine ⟨by rw [hgB]; simp, fun hp => absurd rfl hp, ?_⟩
            intro sv1 d1 k1 l1' h1 _
            rw [hgB, getD_some hc0] at h1
            simp only [C.own.injEq] at h1
            obtain ⟨_, rfl, rfl, rfl, hle⟩ := h1
            have hle := eq_of_heq hle
            subst hle
            have hlt : Gc.lt (N + 2 * s) j = sentL (subL k0 (G.lt s' jj) p) := by
              rw [ltB]
              have : (q.lends.getD s []).getD j none = some (.cell s' jj p k) := by simp [List.getD_eq_getElem?_getD, hls, r1]
              rw [this]
              simp only [lendL, getD_some r2]
            exact ⟨y.length, hdOf (Gc.lt (N + 2 * s) j), ⟨trivial, by rw [getP_nil], by rw [getP_nil], by simp [subL]⟩, by rw [hlt]; exact hd_of_repl r7 rfl⟩
      · rw [hg] at hc
        have := copyFrom_noOwn (N + 2 * s) v'.2 0 _ (List.mem_of_getElem? hc)
        simp [C.isOwn] at this
      · rw [hg] at hd
        have h3 := hval.alive
        rw [← hsh] at h3
        exact absurd hd h3
  have cells : ∀ i, i < args.length → SlotOk N (startE N md q.vals) (us.toArray ++ Array.replicate (N - us.length) undef) w Gc (N + 2 * i) := by
    intro i hil
    obtain ⟨v, v', u, ls, hv, hv', hu, hls⟩ := arg i hil
    obtain ⟨hval, hread⟩ := hf i v v' u hv hv' hu
    have hgB := (s2 i v' hv').2.1
    have hcase := g3 i v v' ls hv hv' hls
    rw [Nat.zero_add] at hcase
    rcases hcase with ⟨hm, q1, q2, _⟩ | ⟨hm, s', bv, cs, rfl, hsh, hob, rfl, rfl⟩ | ⟨hm, hsh, hlc⟩
    · exact SlotOk.nothing (by rw [hgB]; simp only [slotB, hm]; rfl)
    · exact SlotOk.nothing (by rw [hgB]; simp only [slotB, hm]; rfl)
    · have hnb : ∀ bv, v'.1 ≠ .box bv := fun bv => by rw [hsh]; exact hval.sh bv
      have hslB : slotB md i v' = { sh := .agg, cs := v'.2, cnt := 1 } := by
        simp only [slotB, hm]
        cases hq : v'.1 <;> first | rfl | exact absurd hq (hnb _)
      rw [hslB] at hgB
      obtain ⟨l1, l2, _⟩ := lendCells_get hlc
      have hlen : (f i).1.1.length = v'.2.length := by rw [l1]; exact hval.cells.len
      have own : ∀ (j : Nat) c, v'.2[j]? = some c → (∃ k y, c = .dat k y) ∨ ∃ s' jj p k, (i, j, Lend.cell s' jj p k) ∈ lendAt 0 q.lends ∧ ownB c (Gc.lt (N + 2 * i) j) = blkL e G (.cell s' jj p k) := by
        intro j c hc
        obtain ⟨x, hx⟩ : ∃ x, (f i).1.1[j]? = some x := ⟨_, List.getElem?_eq_getElem (by rw [hlen]; exact (List.getElem?_eq_some_iff.1 hc).1)⟩
        rcases sent_cell h hs hval hlc hc hx with ⟨k, y, rfl, _, _⟩ | ⟨s', jj, p, k, rv', sv', d, k0, l0, y, rfl, r1, r2, r3, r4, r5, r6, r7, r8⟩
        · exact .inl ⟨k, y, rfl⟩
        · refine .inr ⟨s', jj, p, k, mem_lendAt.2 ⟨ls, Nat.zero_le _, hls, r1⟩, ?_⟩
          rw [ltB]
          have : (q.lends.getD i []).getD j none = some (.cell s' jj p k) := by simp [List.getD_eq_getElem?_getD, hls, r1]
          rw [this, ownB_ownD]
          simp only [lendL, blkL, getD_some r2]
      refine ⟨fun hlt => by omega, fun bv hb => ?_, fun hd => ?_, fun hd j c x hc hx => ?_, fun hd j rv sv d k l hc => ?_, ?_, ?_, fun hd => ?_⟩
      · rw [hgB] at hb; simp at hb
      · rw [hgB, vsB]; exact hlen
      · rw [hgB] at hc
        rw [vsB] at hx
        rw [ltB]
        rcases sent_cell h hs hval hlc hc hx with ⟨k, y, rfl, r1, r2⟩ | ⟨s', jj, p, k, rv', sv', d, k0, l0, y, rfl, r1, r2, r3, r4, r5, r6, r7, r8⟩
        · have : (q.lends.getD i []).getD j none = none := by simp [List.getD_eq_getElem?_getD, hls, r2]
          rw [this]
          exact ⟨r1.1, fun b hb => owL_none h hl (r1.2 b hb)⟩
        · have : (q.lends.getD i []).getD j none = some (.cell s' jj p k) := by simp [List.getD_eq_getElem?_getD, hls, r1]
          rw [this]
          simp only [lendL, getD_some r2]
          exact ⟨r7, fun hd b hb => owL_none h hl (r8 hd b hb)⟩
      · rw [hgB] at hc ⊢
        obtain ⟨x, hx⟩ : ∃ x, (f i).1.1[j]? = some x := ⟨_, List.getElem?_eq_getElem (by rw [hlen]; exact (List.getElem?_eq_some_iff.1 hc).1)⟩
        rcases sent_cell h hs hval hlc hc hx with ⟨k, y, hc', _, _⟩ | ⟨s', jj, p, k, rv', sv', d, k0, l0, y, hc', _⟩
        · simp at hc'
        · simp only [C.own.injEq] at hc'
          obtain ⟨rfl, rfl, _⟩ := hc'
          simp
      · rw [hgB]
        simp only [fpS, List.nil_append]
        refine fpCells_nodup (fun j c hc => ?_) (fun j j' c c' b hne hc hc' hb => ?_)
        · rw [Nat.zero_add]
          rcases own j c hc with ⟨k, y, rfl⟩ | ⟨s', jj, p, k, r1, r2⟩
          · simp [ownB]
          · rw [r2]; exact blkL_nodup h (hl.inn _ r1)
        · rw [Nat.zero_add] at hb ⊢
          rcases own j c hc with ⟨k, y, rfl⟩ | ⟨s', jj, p, k, r1, r2⟩
          · simp [ownB] at hb
          · rcases own j' c' hc' with ⟨k', y', rfl⟩ | ⟨s'', jj', p', k', r3, r4⟩
            · simp [ownB]
            · rw [r2] at hb
              rw [r4]
              rcases apartF_mem hl.apart _ r1 _ r3 with q | q
              · simp only [Prod.mk.injEq] at q; exact absurd q.2.1 hne
              · exact blkL_disj h (hl.inn _ r1) (hl.inn _ r3) q hb
      · rw [hgB]
        simp only [fpS, List.nil_append]
        intro b hb
        obtain ⟨j, c, hc, hb⟩ := fpCells_of hb
        rw [Nat.zero_add] at hb
        rcases own j c hc with ⟨k, y, rfl⟩ | ⟨s', jj, p, k, r1, r2⟩
        · simp [ownB] at hb
        · rw [r2] at hb
          exact owL_in h hl r1 hb
      · rw [hgB] at hd; simp at hd
  have boxes : ∀ i, i < args.length → SlotOk N (startE N md q.vals) (us.toArray ++ Array.replicate (N - us.length) undef) w Gc (N + 2 * i + 1) := by
    intro i hil
    obtain ⟨v, v', u, ls, hv, hv', hu, hls⟩ := arg i hil
    obtain ⟨hval, hread⟩ := hf i v v' u hv hv' hu
    have hgC := (s2 i v' hv').2.2
    have hcase := g3 i v v' ls hv hv' hls
    rw [Nat.zero_add] at hcase
    rcases hcase with ⟨hm, q1, q2, _⟩ | ⟨hm, s', bv, cs, rfl, hsh, hob, rfl, rfl⟩ | ⟨hm, hsh, hlc⟩
    · exact SlotOk.nothing (by rw [hgC]; simp only [slotC, hm]; rfl)
    · have hslC : slotC md i (.box 0, cs) = { sh := .box 0, cs := cs, cnt := 1 } := by simp only [slotC, hm]; rfl
      rw [hslC] at hgC
      have hat := sees_box hs hsh
      rw [hat] at hsh hob
      have hsrc : boxSrc q.lends[i]? = s' := by rw [hls]; rfl
      obtain ⟨o1, o2⟩ := ownBox_get hob
      have hS := h.slot s'
      have hne : (e.get s').sh ≠ .dead := by rw [hsh]; simp
      have hmem : (i, 0, Lend.box s') ∈ lendAt 0 q.lends := mem_lendAt.2 ⟨_, Nat.zero_le _, hls, rfl⟩
      have hcs : fpCells (G.lt s') 0 cs = fpCells (G.lt s') 0 (e.get s').cs := by
        refine fpCells_congr o1 fun j c c' hc hc' => ?_
        rcases o2 j c c' hc hc' with ⟨rv, sv, d, k, l, rfl, rfl⟩ | ⟨rfl, _⟩
        · rw [ownB_ownD, ownB_ownD]
        · rfl
      have hfp : fpS Gc (N + 2 * i + 1) ((startE N md q.vals).get (N + 2 * i + 1)) = blkL e G (.box s') := by
        rw [hgC]
        simp only [fpS, bkC, ltC, hsrc, blkL, hsh, hcs]
      refine ⟨fun hlt => by omega, fun bv hb => ?_, fun hd => ?_, fun hd j c x hc hx => ?_, fun hd j rv sv d k l hc => ?_, ?_, ?_, fun hd => ?_⟩
      · rw [hgC] at hb ⊢
        simp only [Sh.box.injEq] at hb
        subst hb
        rw [bkC, vsC, hsrc]
        exact ⟨by simp, (hS.box _ hsh).2⟩
      · rw [hgC, vsC, hsrc, o1]
        exact hS.len hne
      · rw [hgC] at hc
        rw [vsC, hsrc] at hx
        rw [ltC, hsrc]
        obtain ⟨c0, hc0⟩ : ∃ c0, (e.get s').cs[j]? = some c0 := ⟨_, List.getElem?_eq_getElem (by rw [← o1]; exact (List.getElem?_eq_some_iff.1 hc).1)⟩
        have hcell := hS.cells hne j c0 x hc0 hx
        rcases o2 j c0 c hc0 hc with ⟨rv, sv, d, k, l, rfl, rfl⟩ | ⟨rfl, _, ⟨k, y, rfl⟩ | rfl | ⟨a, m, rfl⟩ | ⟨g, rfl⟩⟩
        · exact ⟨hcell.1, fun hd b hb => owL_none h hl (hcell.2 hd b hb)⟩
        · exact ⟨hcell.1, fun b hb => owL_none h hl (hcell.2 b hb)⟩
        · exact hcell
        · obtain ⟨b, o, vs, Ls, k1, k2, k3, k4, k5, k6⟩ := hcell
          refine ⟨b, o, vs, Ls, k1, owL_none h hl k2, k3, k4, k5, fun i' c' u' hc' hu' => ?_⟩
          have := k6 i' c' u' hc' hu'
          cases c' with
          | nil => exact this
          | dat k y => exact ⟨this.1, fun b hb => owL_none h hl (this.2 b hb)⟩
          | _ => exact this
        · obtain ⟨us', Ls', k1, k2, k3⟩ := hcell
          exact ⟨us', Ls', k1, k2, fun i' c' u' hc' => by simp at hc'⟩
      · rw [hgC] at hc ⊢
        obtain ⟨c0, hc0⟩ : ∃ c0, (e.get s').cs[j]? = some c0 := ⟨_, List.getElem?_eq_getElem (by rw [← o1]; exact (List.getElem?_eq_some_iff.1 hc).1)⟩
        rcases o2 j c0 _ hc0 hc with ⟨rv', sv', d', k', l', rfl, hq⟩ | ⟨rfl, hq, _⟩
        · simp only [C.own.injEq] at hq
          obtain ⟨rfl, rfl, _⟩ := hq
          simp
        · simp [C.isOwn] at hq
      · rw [hfp]; exact blkL_nodup h (hl.inn _ hmem)
      · rw [hfp]; exact fun b hb => owL_in h hl hmem hb
      · rw [hgC] at hd; simp at hd
    · have hnb : ∀ bv, v'.1 ≠ .box bv := fun bv => by rw [hsh]; exact hval.sh bv
      refine SlotOk.nothing ?_
      rw [hgC]
      simp only [slotC, hm]
      cases hq : v'.1 <;> first | rfl | exact absurd hq (hnb _)
  refine ⟨Gc, ⟨by simp [ha.1]; omega, by rw [s1]; omega, fun s => ?_, fun b s hb => ?_⟩, rfl, ⟨fun i c s j p k hx => ?_, fun i c s hx => ?_⟩⟩
  · by_cases q1 : s < args.length
    · exact param s q1
    · by_cases q2 : (args.length ≤ s ∧ s < N) ∨ N + 2 * args.length ≤ s
      · exact SlotOk.nothing (s3 s q2)
      · by_cases q3 : (s - N) % 2 = 0
        · have : s = N + 2 * ((s - N) / 2) := by omega
          rw [this]
          exact cells _ (by omega)
        · have : s = N + 2 * ((s - N) / 2) + 1 := by omega
          rw [this]
          exact boxes _ (by omega)
  · rcases owL_cases hb with ⟨x, hx, hbx, _⟩ | ⟨_, s', hs', _⟩
    · exact h.lt b _ (blkL_ow h (hl.inn x hx) hbx)
    · exact h.lt b _ hs'
  · obtain ⟨ls, _, h2, h3⟩ := mem_lendAt.1 hx
    dsimp only at h2 h3
    rw [Nat.sub_zero] at h2
    have hil : i < args.length := by rw [← g2]; exact (List.getElem?_eq_some_iff.1 h2).1
    obtain ⟨v, v', u, ls', hv, hv', hu, hls⟩ := arg i hil
    rw [h2] at hls
    simp only [Option.some.injEq] at hls
    subst hls
    obtain ⟨hval, hread⟩ := hf i v v' u hv hv' hu
    obtain ⟨v1, v1', rv, sv, sv', d, k0, l0, y, hc⟩ := lent_cell hs hsend hx
    have e1 := hc.arg
    have e2 := hc.val
    rw [hv] at e1
    rw [hv'] at e2
    simp only [Option.some.injEq] at e1 e2
    subst e1 e2
    have hcl : c < (f i).1.1.length := by rw [hval.cells.len]; exact (List.getElem?_eq_some_iff.1 hc.ref).1
    have hxv := List.getElem?_eq_getElem hcl
    obtain ⟨q1, q2, _, _⟩ := ref_reads h (hval.cells.cell c _ _ hc.ref hxv) hc.own hc.path hc.get
    refine ⟨rv, sv', d, k0, l0, y, _, hc.own, hc.path.imp id And.right, q2, hc.get, by rw [vsB]; exact hxv, q1, ?_⟩
    rw [ltB]
    have : (q.lends.getD i []).getD c none = some (.cell s j p k) := by simp [List.getD_eq_getElem?_getD, h2, h3]
    rw [this]
    simp only [lendL, getD_some hc.own]
  · obtain ⟨rfl, bv, cs, hb⟩ := lent_box hs hsend hx
    refine ⟨?_, bv, cs, hb.box, hb.val⟩
    rw [bkC, hb.lends]
    rfl
end start3
end Go.Mach
namespace Go.Mach
set_option linter.unusedVariables false
set_option linter.unusedSimpArgs false
def DecC (N : Nat) (md : List Bool) (i : Nat) (c c' : C) : Prop :=
 (c' = c ∧ c.base = true) ∨ c' = .dead ∨ (md.getD i false = false ∧ i < N ∧ c = .nil ∧ ∃ d' k, c' = .own 0 0 d' k [] ∨ c' = .dat (.list k) [])
theorem decCs_okM {N : Nat} {md : List Bool} {i : Nat} {ps : List PC} {cs : List C} {d : CsT ps} (h : decCs (if md.getD i false then 0 else N) i [] 0 ps cs = some d) : (encCs ps d).length = cs.length ∧
  ∀ (q : Nat) c c', cs[q]? = some c → (encCs ps d)[q]? = some c' → DecC N md i c c' := by
 obtain ⟨k1, k2⟩ := decCs_ok h
 refine ⟨k1, fun q c c' hc hc' => ?_⟩
 rcases k2 q c c' hc hc' with r | r | r
 ·exact .inl r
 ·exact .inr (.inl r)
 ·right; right
  obtain ⟨⟨r1, r2, r3⟩, _⟩ := r
  cases hm : md.getD i false with
  | true => rw [hm] at r1; simp at r1
  | false =>
   rw [hm] at r1
   exact ⟨rfl, by simpa using r1, r2, r3⟩
theorem decA_okM {N : Nat} {md : List Bool} : ∀ {ps : List (PSh × List PC)} {i : Nat} {vals : List Val} {d : AsT ps}, decA N md i ps vals = some d → vals.length = ps.length ∧
  ∀ (j : Nat) v v', vals[j]? = some v → (encA ps d)[j]? = some v' → v'.1 = v.1 ∧ (∀ bv, v'.1 = .box bv → bv = 0) ∧ v'.2.length = v.2.length ∧
   ∀ (q : Nat) c c', v.2[q]? = some c → v'.2[q]? = some c' → DecC N md (i + j) c c'
 | [], i, [], d, _ => ⟨rfl, fun j v v' a => by simp at a⟩
 | [], i, _ :: _, d, h => by simp [decA] at h
 | [p], i, [], d, h => by simp [decA] at h
 | [p], i, _ :: _ :: _, d, h => by simp [decA] at h
 | [p], i, [v], d, h => by
  simp only [decA] at h
  split at h
  ·rename_i a h1 h2
   simp only [Option.some.injEq] at h
   subst h
   refine ⟨rfl, fun j v0 v1 ha hb => ?_⟩
   cases j with
   | zero =>
    simp only [List.getElem?_cons_zero, Option.some.injEq, encA] at ha hb
    subst ha hb
    obtain ⟨k1, k2⟩ := decCs_okM h2
    refine ⟨PSh.fits_ok h1, fun bv hbv => ?_, k1, fun q c c' hc hc' => k2 q c c' hc hc'⟩
    simp only at hbv
    cases hp : p.1 <;> rw [hp] at hbv <;> simp [PSh.sh] at hbv
    exact hbv.symm
   | succ j => simp at ha
  ·simp at h
 | p :: p' :: r, i, [], d, h => by simp [decA] at h
 | p :: p' :: r, i, v :: vs, d, h => by
  simp only [decA] at h
  split at h
  ·rename_i a b h1 h2 h3
   simp only [Option.some.injEq] at h
   subst h
   obtain ⟨g1, g2⟩ := decA_okM h3
   refine ⟨by simp [g1], fun j v0 v1 ha hb => ?_⟩
   cases j with
   | zero =>
    simp only [List.getElem?_cons_zero, Option.some.injEq, encA] at ha hb
    subst ha hb
    obtain ⟨k1, k2⟩ := decCs_okM h2
    refine ⟨PSh.fits_ok h1, fun bv hbv => ?_, k1, fun q c c' hc hc' => k2 q c c' hc hc'⟩
    simp only at hbv
    cases hp : p.1 <;> rw [hp] at hbv <;> simp [PSh.sh] at hbv
    exact hbv.symm
   | succ j =>
    have := g2 j v0 v1 (by simpa using ha) (by simpa [encA] using hb)
    rw [show i + 1 + j = i + (j + 1) by omega] at this
    exact this
  ·simp at h
theorem copy_base (t j : Nat) {c : C} (h : c.base = true) : (c.copy t j).base = true := by
 cases c <;> first | exact h | rfl
theorem copy_refAt {t j : Nat} {c : C} (h : c.refAt = []) : (c.copy t j).refAt = [] ∨ (∃ rv sv d k l, c = .own rv sv d k l ∧ (c.copy t j).refAt = [(t, j)]) := by
 cases c with
 | own rv sv d k l => exact .inr ⟨rv, sv, d, k, l, rfl, rfl⟩
 | _ => exact .inl h
theorem decA_genM {N : Nat} {md : List Bool} {ps : List (PSh × List PC)} {vals : List Val} {d : AsT ps} (h : decA N md 0 ps vals = some d) (hN : vals.length ≤ N) (hnr : ∀ v ∈ vals, ∀ c ∈ v.2, c.refAt = []) :
  Gen N (startE N md vals) (startE N md (encA ps d)) := by
 obtain ⟨h1, h2⟩ := decA_okM h
 have hl : (encA ps d).length = vals.length := by rw [encA_length, h1]
 obtain ⟨a1, a2, a3⟩ := startE_slots (n := N) (md := md) (vals := vals) hN
 obtain ⟨b1, b2, b3⟩ := startE_slots (n := N) (md := md) (vals := encA ps d) (by omega)
 rw [hl] at b1 b3
 have both : ∀ j, j < vals.length → ∃ v v', vals[j]? = some v ∧ (encA ps d)[j]? = some v' := fun j hj => ⟨_, _, List.getElem?_eq_getElem hj, List.getElem?_eq_getElem (by omega)⟩
 have hcell : ∀ (j : Nat) v v', vals[j]? = some v → (encA ps d)[j]? = some v' → v'.1 = v.1 ∧ (∀ bv, v'.1 = .box bv → bv = 0) ∧ v'.2.length = v.2.length ∧ ∀ (q : Nat) c c', v.2[q]? = some c → v'.2[q]? = some c' → DecC N md j c c' := fun j v v' hv hv' => by
  have := h2 j v v' hv hv'
  rw [Nat.zero_add] at this
  exact this
 have place : ∀ s, (∃ j, j < vals.length ∧ (s = j ∨ s = N + 2 * j ∨ s = N + 2 * j + 1)) ∨ ((vals.length ≤ s ∧ s < N) ∨ N + 2 * vals.length ≤ s) := by
  intro s
  by_cases q1 : s < vals.length
  ·exact .inl ⟨s, q1, .inl rfl⟩
  ·by_cases q2 : (vals.length ≤ s ∧ s < N) ∨ N + 2 * vals.length ≤ s
   ·exact .inr q2
   ·refine .inl ⟨(s - N) / 2, by omega, ?_⟩
    right
    omega
 refine ⟨by rw [a1, b1], fun s _ => ?_, fun s j c hc t i ht rv sv d' k l ho => ?_⟩
 ·rcases place s with ⟨j, hj, hs⟩ | hs
  ·obtain ⟨v, v', hv, hv'⟩ := both j hj
   obtain ⟨k1, k2, k3, k4⟩ := hcell j v v' hv hv'
   obtain ⟨p1, p2, p3⟩ := a2 j v hv
   obtain ⟨r1, r2, r3⟩ := b2 j v' hv'
   cases hm : md.getD j false with
   | false =>
    rcases hs with rfl | rfl | rfl
    ·right; left
     rw [p1, r1]
     simp only [slotA, hm, Bool.false_eq_true, if_false]
     refine ⟨k1, rfl, k2, k3, fun q c c' hc hc' => ?_⟩
     rcases k4 q c c' hc hc' with x | x | ⟨_, x1, x2, x3⟩
     ·exact .inl x
     ·exact .inr (.inl x)
     ·exact .inr (.inr ⟨x1, x2, x3⟩)
    ·right; right
     rw [p2, r2]
     exact ⟨by simp only [slotB, hm]; rfl, by simp only [slotB, hm]; rfl⟩
    ·right; right
     rw [p3, r3]
     exact ⟨by simp only [slotC, hm]; rfl, by simp only [slotC, hm]; rfl⟩
   | true =>
    by_cases hbox : ∃ bv, v.1 = .box bv
    ·obtain ⟨bv, hbox⟩ := hbox
     have hbox' : v'.1 = .box bv := by rw [k1]; exact hbox
     have hbv := k2 bv hbox'
     rcases hs with rfl | rfl | rfl
     ·right; left
      rw [p1, r1]
      simp only [slotA, hm, if_true, hbox, hbox']
      refine ⟨rfl, rfl, fun bv hb => by simp at hb, rfl, fun q c c' hc hc' => ?_⟩
      rw [hc] at hc'
      simp only [Option.some.injEq] at hc'
      subst hc'
      refine .inl ⟨rfl, ?_⟩
      cases q with
      | zero => simp only [List.getElem?_cons_zero, Option.some.injEq] at hc; subst hc; rfl
      | succ q => simp at hc
     ·right; right
      rw [p2, r2]
      exact ⟨by simp only [slotB, hm, hbox]; rfl, by simp only [slotB, hm, hbox']; rfl⟩
     ·right; left
      rw [p3, r3]
      simp only [slotC, hm, if_true, hbox, hbox']
      refine ⟨rfl, rfl, fun bv hb => by simpa using hb.symm, k3, fun q c c' hc hc' => ?_⟩
      rcases k4 q c c' hc hc' with x | x | ⟨x, _⟩
      ·exact .inl x
      ·exact .inr (.inl x)
      ·rw [hm] at x; simp at x
    ·have hA : ∀ u : Val, u.1 = v.1 → slotA N md j u = { sh := u.1, cs := copyFrom (N + 2 * j) 0 u.2, cnt := 1 } ∧ slotB md j u = { sh := .agg, cs := u.2, cnt := 1 } ∧ slotC md j u = {} := by
      intro u hu
      have hn : ∀ bv, u.1 ≠ .box bv := fun bv q => hbox ⟨bv, by rw [← hu]; exact q⟩
      refine ⟨?_, ?_, ?_⟩
      ·simp only [slotA, hm]
       cases hq : u.1 <;> first | rfl | exact absurd hq (hn _)
      ·simp only [slotB, hm]
       cases hq : u.1 <;> first | rfl | exact absurd hq (hn _)
      ·simp only [slotC, hm]
       cases hq : u.1 <;> first | rfl | exact absurd hq (hn _)
     obtain ⟨x1, x2, x3⟩ := hA v rfl
     obtain ⟨y1, y2, y3⟩ := hA v' k1
     rcases hs with rfl | rfl | rfl
     ·right; left
      rw [p1, r1, x1, y1]
      refine ⟨k1, rfl, k2, by simp only [copyFrom_length]; exact k3, fun q c c' hc hc' => ?_⟩
      simp only [copyFrom_get, Nat.zero_add] at hc hc'
      cases hc0 : v.2[q]? with
      | none => rw [hc0] at hc; simp at hc
      | some c0 =>
       cases hc0' : v'.2[q]? with
       | none => rw [hc0'] at hc'; simp at hc'
       | some c0' =>
        rw [hc0] at hc
        rw [hc0'] at hc'
        simp only [Option.map_some, Option.some.injEq] at hc hc'
        subst hc hc'
        rcases k4 q c0 c0' hc0 hc0' with ⟨rfl, x⟩ | rfl | ⟨x, _⟩
        ·exact .inl ⟨rfl, copy_base _ _ x⟩
        ·exact .inr (.inl rfl)
        ·rw [hm] at x; simp at x
     ·right; left
      rw [p2, r2, x2, y2]
      refine ⟨rfl, rfl, fun bv hb => by simp at hb, k3, fun q c c' hc hc' => ?_⟩
      rcases k4 q c c' hc hc' with x | x | ⟨x, _⟩
      ·exact .inl x
      ·exact .inr (.inl x)
      ·rw [hm] at x; simp at x
     ·right; right
      rw [p3, r3, x3, y3]
      exact ⟨rfl, rfl⟩
  ·right; right
   exact ⟨a3 s hs, b3 s hs⟩
 ·
  have plainC : ∀ (j' : Nat) (v v' : Val) (q : Nat) (c0' : C), vals[j']? = some v → (encA ps d)[j']? = some v' → v'.2[q]? = some c0' → c0'.refAt = [] := by
   intro j' v v' q c0' hv hv' hc0'
   obtain ⟨k1, k2, k3, k4⟩ := hcell j' v v' hv hv'
   obtain ⟨c0, hc0⟩ : ∃ c0, v.2[q]? = some c0 := ⟨_, List.getElem?_eq_getElem (by rw [← k3]; exact (List.getElem?_eq_some_iff.1 hc0').1)⟩
   rcases k4 q c0 c0' hc0 hc0' with ⟨rfl, _⟩ | rfl | ⟨_, _, rfl, d', k, rfl | rfl⟩
   ·exact hnr v (List.mem_of_getElem? hv) _ (List.mem_of_getElem? hc0)
   ·rfl
   ·rfl
   ·rfl
  rcases place s with ⟨j', hj, hs⟩ | hs
  ·obtain ⟨v, v', hv, hv'⟩ := both j' hj
   obtain ⟨k1, k2, k3, k4⟩ := hcell j' v v' hv hv'
   obtain ⟨p1, p2, p3⟩ := a2 j' v hv
   obtain ⟨r1, r2, r3⟩ := b2 j' v' hv'
   rcases hs with rfl | rfl | rfl
   ·rw [r1] at hc
    unfold slotA at hc
    split at hc
    ·rename_i hm
     split at hc
     ·cases j with
      | zero =>
       simp only [List.getElem?_cons_zero, Option.some.injEq] at hc
       subst hc
       simp [C.refAt] at ht
      | succ j => simp at hc
     ·rename_i hnb
      simp only [copyFrom_get, Nat.zero_add] at hc
      cases hc0' : v'.2[j]? with
      | none => rw [hc0'] at hc; simp at hc
      | some c0' =>
       rw [hc0'] at hc
       simp only [Option.map_some, Option.some.injEq] at hc
       subst hc
       rcases copy_refAt (t := N + 2 * s) (j := j) (plainC s v v' j c0' hv hv' hc0') with q | ⟨rv1, sv1, d1, k', l', rfl, q⟩
       ·rw [q] at ht; simp at ht
       ·rw [q] at ht
        simp only [List.mem_singleton, Prod.mk.injEq] at ht
        obtain ⟨rfl, rfl⟩ := ht
        have hB : ∀ u : Val, u.1 = v.1 → slotB md s u = { sh := .agg, cs := u.2, cnt := 1 } := by
         intro u hu
         have hn : ∀ bv, u.1 ≠ .box bv := fun bv q => by
          rw [hu, ← k1] at q
          exact hnb bv q
         simp only [slotB, hm]
         cases hq : u.1 <;> first | rfl | exact absurd hq (hn _)
        rw [r2, hB v' k1] at ho
        rw [p2, hB v rfl]
        rw [getD_some hc0'] at ho
        obtain ⟨c0, hc0⟩ : ∃ c0, v.2[i]? = some c0 := ⟨_, List.getElem?_eq_getElem (by rw [← k3]; exact (List.getElem?_eq_some_iff.1 hc0').1)⟩
        rcases k4 i c0 _ hc0 hc0' with ⟨q1, _⟩ | q1 | ⟨q1, _⟩
        ·rw [getD_some hc0, ← q1]; exact ho
        ·simp at q1
        ·rw [hm] at q1; simp at q1
    ·rw [plainC s v v' j c hv hv' hc] at ht; simp at ht
   ·rw [r2] at hc
    unfold slotB at hc
    split at hc
    ·split at hc
     ·simp at hc
     ·rw [plainC j' v v' j c hv hv' hc] at ht; simp at ht
    ·simp at hc
   ·rw [r3] at hc
    unfold slotC at hc
    split at hc
    ·split at hc
     ·rw [plainC j' v v' j c hv hv' hc] at ht; simp at ht
     ·simp at hc
    ·simp at hc
  ·rw [b3 s hs] at hc; simp at hc
theorem send_refAt {t : Tr} {md : List Bool} {args : List Val} {q : Sent} (hsend : send t md [] 0 args = some q) : ∀ v ∈ q.vals, ∀ c ∈ v.2, c.refAt = [] := by
 obtain ⟨g1, g2, g3⟩ := send_get hsend
 intro v' hv' c hc
 obtain ⟨i, hi⟩ := List.getElem?_of_mem hv'
 have hil : i < args.length := by rw [← g1]; exact (List.getElem?_eq_some_iff.1 hi).1
 rcases g3 i _ v' _ (List.getElem?_eq_getElem hil) hi (List.getElem?_eq_getElem (by omega)) with ⟨_, _, h, _⟩ | ⟨_, s, bv, cs, _, _, hob, rfl, _⟩ | ⟨_, _, hlc⟩
 ·exact sendCs_refAt h c hc
 ·obtain ⟨o1, o2⟩ := ownBox_get hob
  obtain ⟨j, hj⟩ := List.getElem?_of_mem hc
  rcases o2 j _ c (List.getElem?_eq_getElem (by rw [← o1]; exact (List.getElem?_eq_some_iff.1 hj).1)) hj with ⟨_, _, _, _, _, _, rfl⟩ | ⟨h1, _, h2⟩
  ·rfl
  ·rw [h1]
   rcases h2 with ⟨_, _, h2⟩ | h2 | ⟨_, _, h2⟩ | ⟨_, h2⟩ <;> rw [h2] <;> rfl
 ·obtain ⟨l1, l2, l3⟩ := lendCells_get hlc
  obtain ⟨j, hj⟩ := List.getElem?_of_mem hc
  have hjl : j < v'.2.length := (List.getElem?_eq_some_iff.1 hj).1
  rcases l3 j _ c _ (List.getElem?_eq_getElem (by omega)) hj (List.getElem?_eq_getElem (by omega)) with ⟨_, _, _, rfl, _, _⟩ | ⟨_, _, _, _, _, _, _, _, _, _, _, _, _, _, _, _, _, rfl, _⟩
  ·rfl
  ·rfl
end Go.Mach
namespace Go.Mach
set_option linter.unusedVariables false
set_option linter.unusedSimpArgs false
structure BackEnv (outs : List (List C)) (fl : List (Nat × Nat × Lend)) (e e3 : Env) : Prop where
 len : e3.length = e.length
 rest : ∀ s, (∀ x ∈ fl, x.2.2.slot ≠ s) → e3.get s = e.get s
 box : ∀ i c s, (i, c, Lend.box s) ∈ fl → e3.get s = Slot.mk (e.get s).sh ((outs.getD i []).map (layC (e.get s).cnt)) ((e.get s).cnt + 1)
 cells : ∀ s, (∀ x ∈ fl, x.2.2 ≠ .box s) → (e3.get s).sh = (e.get s).sh ∧ (e.get s).cnt ≤ (e3.get s).cnt ∧ (e3.get s).cs.length = (e.get s).cs.length
 cellR : ∀ s j, (∀ x ∈ fl, x.2.2 ≠ .box s) → (∀ x ∈ fl, ∀ p k, x.2.2 ≠ .cell s j p k) → (e3.get s).cs[j]? = (e.get s).cs[j]?
 cell : ∀ i c s j p k, (i, c, Lend.cell s j p k) ∈ fl → ∃ z c1, ((e.get s).cnt ≤ z ∧ (e.get s).cnt / verM < z / verM) ∧ z < (e3.get s).cnt ∧ backC z ((e.get s).cs.getD j .dead) p k ((outs.getD i []).getD c .dead) = some c1 ∧ (e3.get s).cs[j]? = some c1
theorem layC_fun (r : Nat) : reC r = layC r := by
 funext c
 cases c <;> rfl
theorem backC_own {z : Nat} {c0 : C} {p : Path} {k : K} {c c1 : C} (h : backC z c0 p k c = some c1) : ∃ rv sv d k0 l0, c0 = .own rv sv d k0 l0 := by
 cases c0 <;> first | exact ⟨_, _, _, _, _, rfl⟩ | simp [backC] at h
theorem clash_cell {s j : Nat} {p : Path} {k : K} {l : Lend} (h : Lend.clash (.cell s j p k) l = false) : (∀ p' k', l ≠ .cell s j p' k') ∧ l ≠ .box s := by
 refine ⟨fun p' k' q => ?_, fun q => ?_⟩
 ·subst q; simp [Lend.clash] at h
 ·subst q; simp [Lend.clash, Lend.slot] at h
theorem clash_box {s : Nat} {l : Lend} (h : Lend.clash (.box s) l = false) : l.slot ≠ s := by
 intro q
 cases l <;> simp only [Lend.clash, Lend.slot] at h q <;> subst q <;> simp at h
theorem back_env {e0 : Env} (outs : List (List C)) : ∀ {fl : List (Nat × Nat × Lend)} {t t' : Tr} {e : Env}, TrOk e0 t e → apartF fl = true → (∀ x ∈ fl, x.2.2.slot < e.length ∧ t.at x.2.2.slot = e.get x.2.2.slot) → backAll outs t fl = some t' →
  ∃ e3, TrOk e0 t' e3 ∧ t'.d = t.d ∧ BackEnv outs fl e e3 ∧ ∀ s, (∀ x ∈ fl, x.2.2.slot ≠ s) → t'.at s = t.at s
 | [], t, t', e, ht, _, _, h => by
  simp only [backAll, Option.some.injEq] at h
  subst h
  exact ⟨e, ht, rfl, ⟨rfl, fun _ _ => rfl, fun i c s hx => by simp at hx, fun s _ => ⟨rfl, Nat.le_refl _, rfl⟩, fun s j _ _ => rfl, fun i c s j p k hx => by simp at hx⟩, fun _ _ => rfl⟩
 | (i, c, l) :: r, t, t', e, ht, hap, hs, h => by
  simp only [apartF, Bool.and_eq_true, List.all_eq_true, Bool.not_eq_true'] at hap
  obtain ⟨hap1, hap2⟩ := hap
  simp only [backAll] at h
  obtain ⟨hl0, hat0⟩ := hs (i, c, l) (by simp)
  dsimp only at hl0 hat0
  cases l with
  | box s =>
   simp only [Lend.slot] at hl0 hat0
   have hno : ∀ x ∈ r, x.2.2.slot ≠ s := fun x hx => clash_box (hap1 x hx)
   simp only [backOne, hat0, layC_fun] at h
   generalize hX : (Slot.mk (e.get s).sh ((outs.getD i []).map (layC (e.get s).cnt)) ((e.get s).cnt + 1)) = X at h
   have hput := ht.put X hl0
   obtain ⟨e3, h1, h2, h3, h4⟩ := back_env outs (fl := r) hput hap2 (fun x hx => by
    obtain ⟨q1, q2⟩ := hs x (by simp [hx])
    exact ⟨by simpa using q1, by rw [at_put_ne t _ (hno x hx), get_set_ne (hno x hx)]; exact q2⟩) h
   have hes : e3.get s = X := by rw [h3.rest s hno, get_set_self hl0]
   refine ⟨e3, h1, h2, ⟨by rw [h3.len, List.length_set], fun s' hs' => ?_, fun i' c' s' hx => ?_, fun s' hs' => ?_, fun s' j hs' hc' => ?_, fun i' c' s' j p k hx => ?_⟩, fun s' hs' => ?_⟩
   ·have q : s ≠ s' := hs' (i, c, .box s) (by simp)
    rw [h3.rest s' fun x hx => hs' x (by simp [hx]), get_set_ne (Ne.symm q)]
   ·simp only [List.mem_cons] at hx
    rcases hx with hx | hx
    ·simp only [Prod.mk.injEq, Lend.box.injEq] at hx
     obtain ⟨rfl, rfl, rfl⟩ := hx
     rw [hes, hX]
    ·have q : s' ≠ s := hno _ hx
     have := h3.box i' c' s' hx
     rw [get_set_ne q] at this
     exact this
   ·have q : s' ≠ s := fun q => hs' (i, c, .box s) (by simp) (by rw [q])
    have := h3.cells s' fun x hx => hs' x (by simp [hx])
    rw [get_set_ne q] at this
    exact this
   ·have q : s' ≠ s := fun q => hs' (i, c, .box s) (by simp) (by rw [q])
    have := h3.cellR s' j (fun x hx => hs' x (by simp [hx])) (fun x hx => hc' x (by simp [hx]))
    rw [get_set_ne q] at this
    exact this
   ·simp only [List.mem_cons, Prod.mk.injEq, reduceCtorEq, and_false, false_or] at hx
    have q : s' ≠ s := hno _ hx
    have := h3.cell i' c' s' j p k hx
    rw [get_set_ne q] at this
    exact this
   ·have q : s ≠ s' := hs' (i, c, .box s) (by simp)
    rw [h4 s' fun x hx => hs' x (by simp [hx]), at_put_ne t _ (Ne.symm q)]
  | cell s j p k =>
   simp only [Lend.slot] at hl0 hat0
   simp only [backOne, hat0] at h
   cases hb : backC (jumpV (e.get s).cnt) ((e.get s).cs.getD j .dead) p k ((outs.getD i []).getD c .dead) with
   | none => rw [hb] at h; simp at h
   | some c1 =>
    rw [hb] at h
    simp only at h
    obtain ⟨rv, sv, d, k0, l0, hown⟩ := backC_own hb
    have hj : (e.get s).cs[j]? = some (.own rv sv d k0 l0) := some_of_getD hown (by simp)
    have hjl : j < (e.get s).cs.length := (List.getElem?_eq_some_iff.1 hj).1
    generalize hX : (Slot.mk (e.get s).sh ((e.get s).cs.set j c1) (jumpV (e.get s).cnt + 1)) = X at h
    have hput := ht.put X hl0
    have hno : ∀ x ∈ r, (∀ p' k', x.2.2 ≠ .cell s j p' k') ∧ x.2.2 ≠ .box s := fun x hx => clash_cell (hap1 x hx)
    obtain ⟨e3, h1, h2, h3, h4⟩ := back_env outs (fl := r) hput hap2 (fun x hx => by
     obtain ⟨q1, q2⟩ := hs x (by simp [hx])
     refine ⟨by simpa using q1, ?_⟩
     by_cases g : x.2.2.slot = s
     ·rw [g, at_put_self, get_set_self hl0]
     ·rw [at_put_ne t _ g, get_set_ne g]; exact q2) h
    have hXs : X.sh = (e.get s).sh ∧ X.cnt = jumpV (e.get s).cnt + 1 ∧ X.cs = (e.get s).cs.set j c1 := by rw [← hX]; exact ⟨rfl, rfl, rfl⟩
    have hnb : ∀ x ∈ r, x.2.2 ≠ .box s := fun x hx => (hno x hx).2
    have hcs := h3.cells s hnb
    rw [get_set_self hl0] at hcs
    refine ⟨e3, h1, h2, ⟨by rw [h3.len, List.length_set], fun s' hs' => ?_, fun i' c' s' hx => ?_, fun s' hs' => ?_, fun s' j' hs' hc' => ?_, fun i' c' s' j' p' k' hx => ?_⟩, fun s' hs' => ?_⟩
    ·have q : s ≠ s' := hs' (i, c, .cell s j p k) (by simp)
     rw [h3.rest s' fun x hx => hs' x (by simp [hx]), get_set_ne (Ne.symm q)]
    ·simp only [List.mem_cons, Prod.mk.injEq, reduceCtorEq, and_false, false_or] at hx
     have q : s' ≠ s := fun q => hnb _ hx (by rw [q])
     have := h3.box i' c' s' hx
     rw [get_set_ne q] at this
     exact this
    ·have := h3.cells s' fun x hx => hs' x (by simp [hx])
     by_cases g : s' = s
     ·subst g
      obtain ⟨q1, q2, q3⟩ := hcs
      exact ⟨by rw [q1, hXs.1], by rw [hXs.2.1] at q2; have := jumpV_gt (e.get s').cnt; omega, by rw [q3, hXs.2.2, List.length_set]⟩
     ·rw [get_set_ne g] at this
      exact this
    ·have := h3.cellR s' j' (fun x hx => hs' x (by simp [hx])) (fun x hx => hc' x (by simp [hx]))
     by_cases g : s' = s
     ·subst g
      have hne : j ≠ j' := fun q => hc' (i, c, .cell s' j p k) (by simp) p k (by rw [q])
      rw [get_set_self hl0, hXs.2.2, List.getElem?_set_ne hne] at this
      exact this
     ·rw [get_set_ne g] at this
      exact this
    ·simp only [List.mem_cons] at hx
     rcases hx with hx | hx
     ·simp only [Prod.mk.injEq, Lend.cell.injEq] at hx
      obtain ⟨rfl, rfl, rfl, rfl, rfl, rfl⟩ := hx
      refine ⟨_, c1, jumpV_gt _, ?_, hb, ?_⟩
      ·have := hcs.2.1; rw [hXs.2.1] at this; omega
      ·rw [h3.cellR s' j' hnb (fun x hx => (hno x hx).1), get_set_self hl0, hXs.2.2, List.getElem?_set_self hjl]
     ·have := h3.cell i' c' s' j' p' k' hx
      by_cases g : s' = s
      ·subst g
       have hne : j ≠ j' := fun q => (hno _ hx).1 p' k' (by rw [q])
       obtain ⟨z, c2, q1, q2, q3, q4⟩ := this
       rw [get_set_self hl0] at q1 q3
       rw [hXs.2.1] at q1
       rw [hXs.2.2, getD_set_ne (Ne.symm hne)] at q3
       have j1 := jumpV_gt (e.get s').cnt
       have j2 : (e.get s').cnt / verM ≤ (jumpV (e.get s').cnt + 1) / verM := Nat.div_le_div_right (by omega)
       exact ⟨z, c2, ⟨by omega, by omega⟩, q2, q3, q4⟩
      ·rw [get_set_ne g] at this
       exact this
    ·have q : s ≠ s' := hs' (i, c, .cell s j p k) (by simp)
     rw [h4 s' fun x hx => hs' x (by simp [hx]), at_put_ne t _ (Ne.symm q)]
def outC : C → C
 | .own 0 _ d k l => .own 0 0 d k l
 | .dat k x => .dat k x
 | _ => .dead
theorem outC_fun : (fun c : C => match c with | .own 0 _ d k l => .own 0 0 d k l | .dat k x => .dat k x | _ => .dead) = outC := by
 funext c
 cases c with
 | own rv sv d k l => cases rv <;> rfl
 | _ => rfl
theorem outs_get {n : Nat} {get : Nat → Slot} {md : List Bool} : ∀ {args : List Val} {i : Nat} {os : List (List C)}, outsOf n get md i args = some os → os.length = args.length ∧
  ∀ (j : Nat) v o, args[j]? = some v → os[j]? = some o → md.getD (i + j) false = true →
   (∀ bv, v.1 = .box bv → (∃ bv', (get (n + 2 * (i + j) + 1)).sh = .box bv') ∧ ownBox (get (n + 2 * (i + j) + 1)).cs = some o) ∧ ((∀ bv, v.1 ≠ .box bv) → o = (get (n + 2 * (i + j))).cs.map outC)
 | [], i, os, h => by
  simp only [outsOf, Option.some.injEq] at h
  subst h
  exact ⟨rfl, fun j v o a => by simp at a⟩
 | (sh, cs) :: r, i, os, h => by
  simp only [outsOf] at h
  split at h
  ·simp at h
  ·rename_i os1 h1
   obtain ⟨g1, g2⟩ := outs_get h1
   have fin : ∀ o, os = o :: os1 → (md.getD i false = true → (∀ bv, sh = .box bv → (∃ bv', (get (n + 2 * i + 1)).sh = .box bv') ∧ ownBox (get (n + 2 * i + 1)).cs = some o) ∧ ((∀ bv, sh ≠ .box bv) → o = (get (n + 2 * i)).cs.map outC)) →
     os.length = ((sh, cs) :: r).length ∧ ∀ (j : Nat) v o, ((sh, cs) :: r)[j]? = some v → os[j]? = some o → md.getD (i + j) false = true →
      (∀ bv, v.1 = .box bv → (∃ bv', (get (n + 2 * (i + j) + 1)).sh = .box bv') ∧ ownBox (get (n + 2 * (i + j) + 1)).cs = some o) ∧ ((∀ bv, v.1 ≠ .box bv) → o = (get (n + 2 * (i + j))).cs.map outC) := by
    rintro o rfl hh
    refine ⟨by simp [g1], fun j v o' ha hb hm => ?_⟩
    cases j with
    | zero =>
     simp only [List.getElem?_cons_zero, Option.some.injEq] at ha hb
     subst ha hb
     exact hh hm
    | succ j =>
     have := g2 j v o' (by simpa using ha) (by simpa using hb) (by rw [show i + 1 + j = i + (j + 1) by omega]; exact hm)
     rw [show i + 1 + j = i + (j + 1) by omega] at this
     exact this
   split at h
   ·rename_i hm
    split at h
    ·rename_i bv
     split at h
     ·rename_i bv' hsh
      cases hob : ownBox (get (n + 2 * i + 1)).cs with
      | none => rw [hob] at h; simp at h
      | some o =>
       rw [hob] at h
       simp only [Option.map_some, Option.some.injEq] at h
       exact fin o h.symm fun _ => ⟨fun bv _ => ⟨⟨bv', hsh⟩, hob⟩, fun q => absurd rfl (q bv)⟩
     ·simp at h
    ·rename_i hnb
     simp only [Option.some.injEq, outC_fun] at h
     exact fin _ h.symm fun _ => ⟨fun bv q => absurd q (hnb bv), fun _ => rfl⟩
   ·rename_i hm
    simp only [Option.some.injEq] at h
    exact fin _ h.symm fun q => absurd q hm
end Go.Mach
namespace Go.Mach
set_option linter.unusedVariables false
set_option linter.unusedSimpArgs false
theorem repl_flat {dr d d' : Bool} {w : World} {k : K} {l : List k.T} {L : LT} {v : Value} (hf : k.flat = true) (h : RepL dr w k.size (Rep d w k) l L v) : RepL dr w k.size (Rep d' w k) l L v := by
 rcases h with h | ⟨b, off, cap, rows, rfl, h1, h2, h3, h0, h4, h5⟩
 ·exact .inl h
 ·refine .inr ⟨b, off, cap, rows, rfl, h1, h2, h3, h0, h4, fun i x r hx hr => ?_⟩
  obtain ⟨vs, g1, g2⟩ := h5 i x r hx hr
  exact ⟨vs, g1, g2.flat hf⟩
theorem flat_ownD {d : Bool} {k : K} {L : LT} (h : d = true ∨ k.flat = true) : ownD d k L = fp (.list k) L := by
 cases d with
 | true => rfl
 | false =>
  have hf : k.flat = true := by simpa using h
  rw [fp_list]
  have : inner k L = [] := by
   cases L with
   | node b off cap rows =>
    simp only [inner]
    rw [List.flatMap_eq_nil_iff]
    intro r _
    exact fp_flat hf
   | _ => rfl
  rw [this, List.append_nil]
  rfl
theorem empty_own {w : World} {d : Bool} {k : K} {l : List k.T} {L : LT} {v : Value} (h : RepL true w k.size (Rep d w k) l L v) (hn : hdOf (sentL L) = none) : inner k L = [] ∧ ∀ d', ownD d' k L = (hdOf L).toList.map (·.1) := by
 have hi : inner k L = [] := by
  rcases h with ⟨rfl, _⟩ | ⟨b, off, cap, rows, rfl, h1, h2, h3, h0, h4, h5⟩
  ·rfl
  ·cases cap with
   | zero =>
    have : rows = [] := List.eq_nil_of_length_eq_zero (by omega)
    subst this
    rfl
   | succ c => simp [sentL, hdOf] at hn
 refine ⟨hi, fun d' => ?_⟩
 cases d' with
 | true => simp only [ownD, if_true, fp_list, hi, List.append_nil]
 | false => rfl
theorem sent_none {d : Bool} {k : K} {L : LT} (hn : hdOf (sentL L) = none) : ownD d k (sentL L) = [] := by
 cases L with
 | node b off cap rows =>
  cases cap with
  | zero => cases d <;> rfl
  | succ c => simp [sentL, hdOf] at hn
 | _ => cases d <;> rfl
theorem hd_own {d : Bool} {k : K} {L : LT} : ∀ b ∈ (hdOf L).toList.map (·.1), b ∈ ownD d k L := by
 intro b hb
 cases d with
 | true => simp only [ownD, if_true, fp_list, List.mem_append]; exact .inl hb
 | false => exact hb
theorem hd_setSub {w : World} {d : Bool} {k : K} {l : List k.T} {L M : LT} {v : Value} (h : RepL true w k.size (Rep d w k) l L v) {p : Path} (hp0 : p ≠ []) (hp : PathOk k l p) : hdOf (setSub k L M p) = hdOf L := by
 match p, hp0 with
 | (i, c) :: p, _ =>
  simp only [PathOk] at hp
  obtain ⟨hi, hc, hp⟩ := hp
  obtain ⟨b, off, cap, rows, r, vs, rfl, _⟩ := h.elem hi
  cases hl : leafV k (l.getD i k.dflt) c with
  | mk k1 y =>
   have hk := leafV_kind k (l.getD i k.dflt) c
   rw [hl] at hk hp
   cases k1 with
   | list k' =>
    simp only at hk
    simp only [setSub, ← hk]
    rfl
   | _ => exact hp.elim
theorem back_cell {w w1 : World} {d d1 : Bool} {k0 k k1 : K} {l0 : List k0.T} {y : List k.T} {l1 : List k1.T} {L L1 : LT} {v0 x : Value} {p : Path} {rv sv z : Nat} {c1 : C}
  (hrep : RepL true w k0.size (Rep d w k0) l0 L v0) (hp : p = [] ∨ d = true) (hpath : PathOk k0 l0 p) (hget : getP k0 l0 p = ⟨k, y⟩) (hsl : SliceIs k.size y.length (hdOf (subL k0 L p)) none none x)
  (hout : RepL true w1 k1.size (Rep d1 w1 k1) l1 L1 x) (hhd : hdOf L1 = hdOf (sentL (subL k0 L p))) (hc1 : backC z (.own rv sv d k0 l0) p k (.own 0 0 d1 k1 l1) = some c1)
  (hsame : ∀ b, b ∈ ownD d k0 L → b ∉ ownD d k (sentL (subL k0 L p)) → w1.heap[b]? = w.heap[b]?) (hnd : (ownD d k0 L).Nodup) (hnd1 : (ownD d1 k1 L1).Nodup)
  (hdis : ∀ b, b ∈ ownD d1 k1 L1 → b ∈ ownD d k0 L → b ∈ ownD d k (sentL (subL k0 L p))) :
  ∃ d' l0', c1 = .own rv z d' k0 l0' ∧ RepL true w1 k0.size (Rep d' w1 k0) l0' (setSub k0 L (backL (subL k0 L p) L1) p) v0 ∧ l0'.length = l0.length ∧ hdOf (setSub k0 L (backL (subL k0 L p) L1) p) = hdOf L ∧
   (∀ b ∈ ownD d' k0 (setSub k0 L (backL (subL k0 L p) L1) p), (b ∈ ownD d k0 L ∧ b ∉ ownD d k (sentL (subL k0 L p))) ∨ b ∈ ownD d1 k1 L1) ∧ (ownD d' k0 (setSub k0 L (backL (subL k0 L p) L1) p)).Nodup ∧
   (d' = false → ∀ b ∈ inner k0 (setSub k0 L (backL (subL k0 L p) L1) p), d1 = false ∧ b ∈ inner k1 L1) := by
 by_cases hp0 : p = []
 ·subst hp0
  rw [getP_nil] at hget
  simp only [Sigma.mk.injEq] at hget
  obtain ⟨rfl, hy⟩ := hget
  have hy := eq_of_heq hy
  subst hy
  simp only [subL] at hsl hhd hsame hdis ⊢
  simp only [setSub]
  simp only [backC] at hc1
  split at hc1
  ·rename_i hk
   subst hk
   simp only [Option.some.injEq] at hc1
   subst hc1
   obtain ⟨r1, r2, r3⟩ := back_rep hrep hsl hout hhd (fun hn b hb => hsame b (hd_own b hb) (by rw [sent_none hn]; simp))
   refine ⟨d1, l1, rfl, r1, r2, r3, ?_⟩
   cases hh : hdOf (sentL L) with
   | none =>
    obtain ⟨i1, i2⟩ := empty_own hrep hh
    have hb : backL L L1 = L := by simp only [backL, hh]
    rw [hb, i2 d1, sent_none hh]
    refine ⟨fun b hb => .inl ⟨hd_own b hb, by simp⟩, ?_, fun _ b hb => by rw [i1] at hb; simp at hb⟩
    cases hdOf L <;> simp
   | some q =>
    have hb : backL L L1 = L1 := by simp only [backL, hh]
    rw [hb]
    exact ⟨fun b hb => .inr hb, hnd1, fun hd b hb => ⟨hd, hb⟩⟩
  ·simp at hc1
 ·obtain rfl := hp.resolve_left hp0
  match p, hp0 with
  | q :: p', hp0 =>
  simp only [backC] at hc1
  split at hc1
  ·rename_i hk
   obtain ⟨rfl, hfl⟩ := hk
   simp only [Option.some.injEq] at hc1
   subst hc1
   obtain ⟨v', rest, f1, f2, f3⟩ := focus (fun k' l' => (castL k1 l1 k').getD l') (q :: p') k0 l0 L v0 hrep hpath
   have hg : (fun k' l' => (castL k1 l1 k').getD l') (getP k0 l0 (q :: p')).1 (getP k0 l0 (q :: p')).2 = (castL k1 l1 (getP k0 l0 (q :: p')).1).getD (getP k0 l0 (q :: p')).2 := rfl
   rw [hget] at f1 f2
   generalize hS : subL k0 L (q :: p') = S at f1 f2 hsl hhd hsame hdis ⊢
   have hndp : (fp (.list k1) S ++ rest).Nodup := f2.nodup_iff.1 (by simpa [ownD] using hnd)
   rw [List.nodup_append] at hndp
   have hrest : ∀ b ∈ rest, b ∈ ownD true k0 L ∧ b ∉ ownD true k1 (sentL S) := fun b hb => ⟨f2.mem_iff.2 (by simp [hb]), fun q => hndp.2.2 b (sentL_sub _ _ b q) b hb rfl⟩
   obtain ⟨r1, r2, r3⟩ := back_rep f1 hsl hout hhd (fun hn b hb => hsame b (f2.mem_iff.2 (List.mem_append.2 (.inl (by
    have := hd_own (d := true) (k := k1) b hb
    exact this)))) (by rw [sent_none hn]; simp))
   have r1' : RepL true w1 k1.size (Rep true w1 k1) l1 (backL S L1) v' := by
    cases d1 with
    | true => exact r1
    | false => exact repl_flat (by simpa using hfl) r1
   have hgl : (castL k1 l1 k1).getD y = l1 := by rw [castL_self]; rfl
   have hmod : RepL true w1 k0.size (Rep true w1 k0) (modP (fun k' l' => (castL k1 l1 k').getD l') k0 l0 (q :: p')) (setSub k0 L (backL S L1) (q :: p')) v0 ∧
     (fp (.list k0) (setSub k0 L (backL S L1) (q :: p'))).Perm (fp (.list k1) (backL S L1) ++ rest) := by
    have := f3 w1 (backL S L1) true (fun b hb => hsame b (hrest b hb).1 (hrest b hb).2)
    rw [hget] at this
    exact this (by simp only [hgl]; exact r1')
   refine ⟨true, _, rfl, hmod.1, modP_length _ _ (by rw [hget]; simp only [hgl]; exact r2), hd_setSub hrep hp0 hpath, ?_, ?_, fun h => by cases h⟩
   ·intro b hb
    have := hmod.2.mem_iff.1 hb
    rw [List.mem_append] at this
    rcases this with hb | hb
    ·cases hh : hdOf (sentL S) with
     | none =>
      have hbl : backL S L1 = S := by simp only [backL, hh]
      rw [hbl] at hb
      exact .inl ⟨f2.mem_iff.2 (List.mem_append.2 (.inl hb)), by rw [sent_none hh]; simp⟩
     | some q' =>
      have hbl : backL S L1 = L1 := by simp only [backL, hh]
      rw [hbl] at hb
      exact .inr (by rw [flat_ownD hfl]; exact hb)
    ·exact .inl (hrest b hb)
   ·have : (fp (.list k1) (backL S L1) ++ rest).Nodup := by
     rw [List.nodup_append]
     cases hh : hdOf (sentL S) with
     | none =>
      have hbl : backL S L1 = S := by simp only [backL, hh]
      rw [hbl]
      exact hndp
     | some q' =>
      have hbl : backL S L1 = L1 := by simp only [backL, hh]
      rw [hbl]
      refine ⟨by rw [← flat_ownD hfl]; exact hnd1, hndp.2.1, fun a ha b hb hab => ?_⟩
      subst hab
      exact (hrest a hb).2 (hdis a (by rw [flat_ownD hfl]; exact ha) (hrest a hb).1)
    exact hmod.2.nodup_iff.2 this
  ·simp at hc1
end Go.Mach
namespace Go.Mach
set_option linter.unusedVariables false
set_option linter.unusedSimpArgs false
theorem give_slot {n : Nat} {e e3 : Env} {tm : Array Value} {w w1 : World} {G G' : Gh} (h : Inv n e tm w G) {s : Nat} (hq : e3.get s = giveS (e.get s)) (hv : G'.vs s = G.vs s) (hl : ∀ j, G'.lt s j = G.lt s j) (hbk : G'.bk s = G.bk s)
  (hTM : ∀ t, TM e e3 G G' t) (hst : Still w w1 G.ow G'.ow) (hgive : ∀ b, G.ow b = some s → w1.heap[b]? = w.heap[b]? ∧ G'.ow b = none) : SlotOk n e3 tm w1 G' s := by
 have hs := h.slot s
 by_cases hbox : ∃ bv, (e.get s).sh = .box bv
 ·obtain ⟨bv, hbox⟩ := hbox
  have hq' : e3.get s = { e.get s with sh := .dead, cs := [] } := by rw [hq]; unfold giveS; rw [hbox]
  refine ⟨fun _ => ?_, fun bv hb => ?_, fun hd => ?_, fun hd => ?_, fun hd => ?_, ?_, ?_, fun _ => ?_⟩
  ·rw [hq']; trivial
  ·rw [hq'] at hb; simp at hb
  ·rw [hq'] at hd; simp at hd
  ·rw [hq'] at hd; simp at hd
  ·rw [hq'] at hd; simp at hd
  ·rw [hq']; simp [fpS]
  ·rw [hq']; simp [fpS]
  ·rw [hq']
 ·have hq' : e3.get s = { e.get s with cs := (e.get s).cs.map C.give } := by
   rw [hq]; unfold giveS
   split
   ·rename_i bv hsh; exact absurd ⟨bv, hsh⟩ hbox
   ·rfl
  have hfp : fpS G' s (e3.get s) = [] := by
   have key : ∀ (cs : List C) (i : Nat), fpCells (G'.lt s) i (cs.map C.give) = [] := by
    intro cs
    induction cs with
    | nil => intro i; rfl
    | cons c cs ih => intro i; simp only [List.map_cons, fpCells, noOwn_ownB (give_noOwn c), ih]; rfl
   rw [hq']
   simp only [fpS, key]
   cases hsh : (e.get s).sh <;> first | rfl | (rename_i bv; exact absurd ⟨bv, hsh⟩ hbox)
  have hsh : (e3.get s).sh = (e.get s).sh := by rw [hq']
  refine ⟨fun hn => ?_, fun bv hb => ?_, fun hd => ?_, fun hd j c v hc hvj => ?_, fun hd j rv sv d k l hc => ?_, by rw [hfp]; simp, by rw [hfp]; simp, fun hd => ?_⟩
  ·rw [hsh, hv, hbk]; exact hs.form hn
  ·rw [hsh] at hb; exact absurd ⟨bv, hb⟩ hbox
  ·rw [hq', hv]; simp only [List.length_map]; exact hs.len (by rw [← hsh]; exact hd)
  ·rw [hq'] at hc
   rw [hv] at hvj
   rw [hl]
   simp only [List.getElem?_map] at hc
   cases hc0 : (e.get s).cs[j]? with
   | none => rw [hc0] at hc; simp at hc
   | some c0 =>
    rw [hc0] at hc
    simp only [Option.map_some, Option.some.injEq] at hc
    subst hc
    have hok := hs.cells (by rw [← hsh]; exact hd) j c0 v hc0 hvj
    cases hown : c0.isOwn with
    | false =>
     have : c0.give = c0 := by cases c0 <;> first | rfl | simp [C.isOwn] at hown
     rw [this]
     exact hok.frame hTM hst (fun b hb => by simp [noOwn_ownB hown] at hb)
    | true =>
     cases c0 with
     | own rv sv d k l =>
      simp only [C.give]
      obtain ⟨k1, k2⟩ := hok
      obtain ⟨o1, o2, o3⟩ := h.ownBlocks hc0
      have hall : ∀ b ∈ fp (.list k) (G.lt s j), G.ow b = some s ∨ G.ow b = none := by
       intro b hb
       cases d with
       | true => exact .inl (o1 b hb)
       | false =>
        rw [fp_list, List.mem_append] at hb
        rcases hb with q | q
        ·exact .inl (o1 b q)
        ·exact .inr (o2 rfl b q)
      have hin : ∀ b ∈ fp (.list k) (G.lt s j), w1.heap[b]? = w.heap[b]? ∧ G'.ow b = none := fun b hb => by
       rcases hall b hb with q | q
       ·exact hgive b q
       ·exact hst b q (k1.there b hb)
      exact ⟨(k1.same fun b hb => (hin b hb).1).rep, fun b hb => (hin b hb).2⟩
     | _ => simp [C.isOwn] at hown
  ·rw [hq'] at hc
   simp only [List.getElem?_map] at hc
   cases hc0 : (e.get s).cs[j]? with
   | none => rw [hc0] at hc; simp at hc
   | some c0 =>
    rw [hc0] at hc
    simp only [Option.map_some, Option.some.injEq] at hc
    have := give_noOwn c0
    rw [hc] at this
    simp [C.isOwn] at this
  ·rw [hsh] at hd
   rw [hq', hs.dead hd]; rfl
theorem TM.give {e e3 : Env} {G G' : Gh} {t : Nat} (hq : e3.get t = giveS (e.get t)) : TM e e3 G G' t := by
  refine ⟨?_, fun j rv sv d k l hc => ?_, fun bv hb => ?_⟩
  · rw [hq]; unfold giveS; cases (e.get t).sh <;> exact Nat.le_refl _
  · exfalso
    rw [hq] at hc
    have h1 := some_of_getD hc (by simp)
    unfold giveS at h1
    have : ∃ c ∈ (e.get t).cs, c.give = .own rv sv d k l := by
      revert h1
      cases (e.get t).sh <;> intro h1 <;> first
        | (simp at h1; done)
        | (simp only [List.getElem?_map] at h1
           cases hc0 : (e.get t).cs[j]? with
           | none => rw [hc0] at h1; simp at h1
           | some c0 =>
             rw [hc0] at h1
             simp only [Option.map_some, Option.some.injEq] at h1
             exact ⟨c0, List.mem_of_getElem? hc0, h1⟩)
    obtain ⟨c, _, hc⟩ := this
    have := give_noOwn c
    rw [hc] at this
    simp [C.isOwn] at this
  · exfalso
    rw [hq] at hb
    unfold giveS at hb
    cases hs : (e.get t).sh <;> rw [hs] at hb <;> simp_all
def lentB (e : Env) (G : Gh) (fl : List (Nat × Nat × Lend)) (b : Nat) : Bool := fl.any fun x => decide (b ∈ blkL e G x.2.2)
def srcOf (N : Nat) (fl : List (Nat × Nat × Lend)) (t : Nat) : Option Nat := (fl.find? fun x => Nat.beq (posL N x) t).map (·.2.2.slot)
def owOut2 (w : World) (e : Env) (G : Gh) (fl : List (Nat × Nat × Lend)) (G2 : Gh) (N : Nat) (H rt : List Nat) (gv : Bool) (len b : Nat) : Option Nat :=
 if b ∈ H then some len else if (w.heap[b]?).isSome && !lentB e G fl b then (match G.ow b with
  | none => none
  | some s => if gv && rt.contains s then none else some s) else (G2.ow b).bind (srcOf N fl)
def boxOf (fl : List (Nat × Nat × Lend)) (s : Nat) : Option Nat := (fl.find? fun x => match x.2.2 with | .box s' => Nat.beq s' s | _ => false).map (·.1)
def pathOf : Lend → Path
 | .cell _ _ p _ => p
 | _ => []
def cellOf (fl : List (Nat × Nat × Lend)) (s j : Nat) : Option (Nat × Nat × Path) :=
 (fl.find? fun x => match x.2.2 with | .cell s' j' _ _ => Nat.beq s' s && Nat.beq j' j | _ => false).map fun x => (x.1, x.2.1, pathOf x.2.2)
def ltOut (e eb : Env) (G G2 : Gh) (N : Nat) (fl : List (Nat × Nat × Lend)) (s j : Nat) : LT := match boxOf fl s with
 | some i => G2.lt (N + 2 * i + 1) j
 | none => match cellOf fl s j, (eb.get s).cs.getD j .dead, (e.get s).cs.getD j .dead with
  | some (i, c, p), .own _ _ _ _ _, .own _ _ _ k0 _ => setSub k0 (G.lt s j) (backL (subL k0 (G.lt s j) p) (G2.lt (N + 2 * i) c)) p
  | _, _, _ => G.lt s j
def ghOut (w : World) (e eb : Env) (G : Gh) (fl : List (Nat × Nat × Lend)) (G2 : Gh) (N : Nat) (H rt : List Nat) (gv : Bool) : Gh :=
  { vs := fun s => match boxOf fl s with
      | some i => G2.vs (N + 2 * i + 1)
      | none => G.vs s
    lt := ltOut e eb G G2 N fl, bk := G.bk, ow := owOut2 w e G fl G2 N H rt gv e.length }
section find
variable {fl : List (Nat × Nat × Lend)} (hap : apartF fl = true)
include hap
theorem boxOf_some {i c s : Nat} (hx : (i, c, Lend.box s) ∈ fl) : boxOf fl s = some i := by
 unfold boxOf
 cases hf : fl.find? (fun x => match x.2.2 with | .box s' => Nat.beq s' s | _ => false) with
 | none =>
  have := List.find?_eq_none.1 hf _ hx
  simp at this
 | some y =>
  have hy := List.mem_of_find?_eq_some hf
  have hp := List.find?_some hf
  obtain ⟨i', c', l'⟩ := y
  cases l' with
  | cell s' j' p' k' => simp at hp
  | box s' =>
   simp only [Nat.beq_eq] at hp
   subst hp
   rcases apartF_mem hap _ hx _ hy with q | q
   ·simp only [Prod.mk.injEq] at q
    simp [q.1]
   ·simp [Lend.clash, Lend.slot] at q
theorem cellOf_some {i c s j : Nat} {p : Path} {k : K} (hx : (i, c, Lend.cell s j p k) ∈ fl) : cellOf fl s j = some (i, c, p) := by
 unfold cellOf
 cases hf : fl.find? (fun x => match x.2.2 with | .cell s' j' _ _ => Nat.beq s' s && Nat.beq j' j | _ => false) with
 | none =>
  have := List.find?_eq_none.1 hf _ hx
  simp at this
 | some y =>
  have hy := List.mem_of_find?_eq_some hf
  have hp := List.find?_some hf
  obtain ⟨i', c', l'⟩ := y
  cases l' with
  | box s' => simp at hp
  | cell s' j' p' k' =>
   simp only [Bool.and_eq_true, Nat.beq_eq] at hp
   obtain ⟨rfl, rfl⟩ := hp
   rcases apartF_mem hap _ hx _ hy with q | q
   ·simp only [Prod.mk.injEq, Lend.cell.injEq] at q
    obtain ⟨rfl, rfl, _, _, rfl, _⟩ := q
    rfl
   ·simp [Lend.clash] at q
end find
theorem boxOf_none {fl : List (Nat × Nat × Lend)} {s : Nat} (h : ∀ x ∈ fl, x.2.2 ≠ .box s) : boxOf fl s = none := by
 unfold boxOf
 have : fl.find? (fun x => match x.2.2 with | .box s' => Nat.beq s' s | _ => false) = none := by
  rw [List.find?_eq_none]
  rintro ⟨i, c, l⟩ hx
  cases l with
  | cell s' j' p' k' => simp
  | box s' =>
   have := h _ hx
   simp only [ne_eq, Lend.box.injEq] at this
   simpa using this
 rw [this]; rfl
theorem cellOf_none {fl : List (Nat × Nat × Lend)} {s j : Nat} (h : ∀ x ∈ fl, ∀ p k, x.2.2 ≠ .cell s j p k) : cellOf fl s j = none := by
 unfold cellOf
 have : fl.find? (fun x => match x.2.2 with | .cell s' j' _ _ => Nat.beq s' s && Nat.beq j' j | _ => false) = none := by
  rw [List.find?_eq_none]
  rintro ⟨i, c, l⟩ hx
  cases l with
  | box s' => simp
  | cell s' j' p' k' =>
   have := h _ hx p' k'
   simp only [ne_eq, Lend.cell.injEq, and_true] at this
   simp only [Bool.and_eq_true, Nat.beq_eq]
   exact this
 rw [this]; rfl
structure Called (n N m : Nat) (e : Env) (tm : Array Value) (w : World) (G : Gh) (q : Sent) (rt : List Nat) (Gc : Gh) (e2 : Env) (tm1 : Array Value) (w1 : World) (G2 : Gh) (H : List Nat) (outs : List (List C)) (gv : Bool) : Prop where
 inv : Inv n e tm w G
 lends : LendsOk e (lendAt 0 q.lends) rt m
 rtlt : ∀ s ∈ rt, s < e.length
 start : StartOk N e w G q Gc
 ow : Gc.ow = owL N e G (lendAt 0 q.lends) rt (N + 2 * m)
 inv2 : Inv N e2 tm1 w1 G2
 held : Held N (N + 2 * m) w w1 Gc G2
 size : w.heap.size ≤ w1.heap.size
 hand : ∀ b ∈ H, Loose e2 G2 b ∧ G2.ow b ≠ none ∧ b < w1.heap.size ∧ ∀ t, G2.ow b = some t → t < N + 2 * m
 outCell : ∀ i c s j p k, (i, c, Lend.cell s j p k) ∈ lendAt 0 q.lends → (outs.getD i []).getD c .dead = outC ((e2.get (N + 2 * i)).cs.getD c .dead)
 outBox : ∀ i c s, (i, c, Lend.box s) ∈ lendAt 0 q.lends → (∃ bv, (e2.get (N + 2 * i + 1)).sh = .box bv) ∧ ownBox (e2.get (N + 2 * i + 1)).cs = some (outs.getD i [])
 al : ∀ i c, c ∈ outs.getD i [] → C.aliases c = true → gv = true
 odd : ∀ x ∈ lendAt 0 q.lends, ∀ s, x.2.2 = .box s → s < n ∨ (s - n) % 2 = 1
section called
variable {n N m : Nat} {e : Env} {tm : Array Value} {w : World} {G : Gh} {q : Sent} {rt : List Nat} {Gc : Gh} {e2 : Env} {tm1 : Array Value} {w1 : World} {G2 : Gh} {H : List Nat} {outs : List (List C)} {gv : Bool}
theorem Called.slotlt (h : Called n N m e tm w G q rt Gc e2 tm1 w1 G2 H outs gv) : ∀ x ∈ lendAt 0 q.lends, x.2.2.slot < e.length := by
 rintro ⟨i, c, l⟩ hx
 have := h.lends.inn _ hx
 cases l with
 | cell s j p k =>
  obtain ⟨_, _, _, _, _, _, h1, _⟩ := this
  exact slot_alive h1
 | box s =>
  obtain ⟨bv, h1⟩ := this
  simp only [Lend.slot]
  rcases Nat.lt_or_ge s e.length with g | g
  ·exact g
  ·rw [get_out (by omega)] at h1; simp at h1
theorem Called.pos_lt (h : Called n N m e tm w G q rt Gc e2 tm1 w1 G2 H outs gv) {x : Nat × Nat × Lend} (hx : x ∈ lendAt 0 q.lends) : posL N x < N + 2 * m := by
 have := h.lends.idx x hx
 unfold posL
 split <;> omega
theorem Called.unlent (h : Called n N m e tm w G q rt Gc e2 tm1 w1 G2 H outs gv) {b : Nat} (hb : w.heap[b]? ≠ none) (hn : ∀ x ∈ lendAt 0 q.lends, b ∉ blkL e G x.2.2) :
  w1.heap[b]? = w.heap[b]? ∧ b ∉ H ∧ (∀ t, G2.ow b = some t → t = N + 2 * m) ∧ (∀ s, G.ow b = some s → s ∉ rt → G2.ow b = some (N + 2 * m)) ∧
   owOut2 w e G (lendAt 0 q.lends) G2 N H rt gv e.length b = (match G.ow b with | none => none | some s => if gv && rt.contains s then none else some s) := by
 have how : Gc.ow b = owIn G rt (N + 2 * m) b := by rw [h.ow]; exact owL_out hn
 have key : (w1.heap[b]? = w.heap[b]? ∧ G2.ow b = none ∧ ∀ s, G.ow b = some s → s ∈ rt) ∨ (w1.heap[b]? = w.heap[b]? ∧ G2.ow b = some (N + 2 * m)) := by
  cases hg : G.ow b with
  | none =>
   rw [owIn_none hg] at how
   obtain ⟨q1, q2⟩ := h.held.still b how hb
   exact .inl ⟨q1, q2, fun s q => by simp at q⟩
  | some s =>
   by_cases hs : s ∈ rt
   ·rw [owIn_rt hg hs] at how
    obtain ⟨q1, q2⟩ := h.held.still b how hb
    exact .inl ⟨q1, q2, fun s' q => by simp only [Option.some.injEq] at q; rw [← q]; exact hs⟩
   ·rw [owIn_out hg hs] at how
    obtain ⟨q1, q2⟩ := h.held.out b _ how (Nat.le_refl _) hb
    exact .inr ⟨q1, q2⟩
 have hH : b ∉ H := by
  intro hm
  obtain ⟨_, g1, _, g2⟩ := h.hand b hm
  rcases key with ⟨_, k, _⟩ | ⟨_, k⟩
  ·exact g1 k
  ·have := g2 _ k; omega
 have hl : lentB e G (lendAt 0 q.lends) b = false := by
  unfold lentB
  rw [List.any_eq_false]
  intro x hx
  simpa using hn x hx
 have hsome : (w.heap[b]?).isSome = true := by
  cases hq : w.heap[b]? with
  | none => exact absurd hq hb
  | some _ => rfl
 refine ⟨key.elim (·.1) (·.1), hH, fun t ht => ?_, fun s hs hr => ?_, ?_⟩
 ·rcases key with ⟨_, k, _⟩ | ⟨_, k⟩
  ·rw [k] at ht; simp at ht
  ·rw [k] at ht; simpa using ht.symm
 ·rcases key with ⟨_, _, k⟩ | ⟨_, k⟩
  ·exact absurd (k s hs) hr
  ·exact k
 ·simp only [owOut2, if_neg hH, hl, hsome, Bool.not_false, Bool.and_self, if_true]
theorem Called.pseudo (h : Called n N m e tm w G q rt Gc e2 tm1 w1 G2 H outs gv) {x : Nat × Nat × Lend} (hx : x ∈ lendAt 0 q.lends) {b : Nat} (hb : b ∈ fpS G2 (posL N x) (e2.get (posL N x))) :
  owOut2 w e G (lendAt 0 q.lends) G2 N H rt gv e.length b = some x.2.2.slot ∧ G2.ow b = some (posL N x) ∧ (w.heap[b]? ≠ none → ∃ y ∈ lendAt 0 q.lends, b ∈ blkL e G y.2.2) := by
 have how := (h.inv2.slot _).own b hb
 have hH : b ∉ H := fun hm => (h.hand b hm).1 _ hb
 have hlen : w.heap[b]? ≠ none → ∃ y ∈ lendAt 0 q.lends, b ∈ blkL e G y.2.2 := by
  intro hold
  refine Classical.byContradiction fun hno => ?_
  have := (h.unlent hold fun y hy hby => hno ⟨y, hy, hby⟩).2.2.1 _ how
  have := h.pos_lt hx
  omega
 refine ⟨?_, how, hlen⟩
 have hc : ((w.heap[b]?).isSome && !lentB e G (lendAt 0 q.lends) b) = false := by
  cases hq : w.heap[b]? with
  | none => rfl
  | some o =>
   obtain ⟨y, hy, hby⟩ := hlen (by rw [hq]; simp)
   have : lentB e G (lendAt 0 q.lends) b = true := by
    unfold lentB
    rw [List.any_eq_true]
    exact ⟨y, hy, by simpa using hby⟩
   rw [this]; rfl
 simp only [owOut2, if_neg hH, hc, Bool.false_eq_true, if_false, how, Option.bind_some]
 unfold srcOf
 cases hf : (lendAt 0 q.lends).find? (fun y => Nat.beq (posL N y) (posL N x)) with
 | none =>
  have := List.find?_eq_none.1 hf _ hx
  simp at this
 | some y =>
  have hy := List.mem_of_find?_eq_some hf
  have hp := List.find?_some hf
  rw [Nat.beq_eq] at hp
  have : y.1 = x.1 := by
   unfold posL at hp
   split at hp <;> split at hp <;> omega
  simp only [Option.map_some, Option.some.injEq]
  exact h.lends.src y hy x hx this
theorem Called.nobody (h : Called n N m e tm w G q rt Gc e2 tm1 w1 G2 H outs gv) {b : Nat} (hb : G2.ow b = none) (hg : gv = true ∨ ∀ s, G.ow b = some s → s ∉ rt) :
  owOut2 w e G (lendAt 0 q.lends) G2 N H rt gv e.length b = none := by
 have hH : b ∉ H := fun hm => (h.hand b hm).2.1 hb
 by_cases hc : ((w.heap[b]?).isSome && !lentB e G (lendAt 0 q.lends) b) = true
 ·simp only [Bool.and_eq_true, Bool.not_eq_true'] at hc
  have hold : w.heap[b]? ≠ none := by
   intro q0
   rw [q0] at hc
   simp at hc
  have hn : ∀ x ∈ lendAt 0 q.lends, b ∉ blkL e G x.2.2 := by
   have := hc.2
   unfold lentB at this
   rw [List.any_eq_false] at this
   intro x hx
   simpa using this x hx
  obtain ⟨_, _, _, q4, q5⟩ := h.unlent hold hn
  rw [q5]
  cases hgo : G.ow b with
  | none => rfl
  | some s =>
   simp only
   by_cases hs : s ∈ rt
   ·rcases hg with hg | hg
    ·rw [if_pos]; simp [hg, hs]
    ·exact absurd hs (hg s hgo)
   ·have := q4 s hgo hs
    rw [hb] at this
    simp at this
 ·simp only [owOut2, if_neg hH, if_neg hc, hb, Option.bind_none]
theorem Called.owner (h : Called n N m e tm w G q rt Gc e2 tm1 w1 G2 H outs gv) {b s : Nat} (hb : G.ow b = some s) (hn : ∀ x ∈ lendAt 0 q.lends, b ∉ blkL e G x.2.2) :
  w1.heap[b]? = w.heap[b]? ∧ owOut2 w e G (lendAt 0 q.lends) G2 N H rt gv e.length b = if gv = true ∧ s ∈ rt then none else some s := by
 have hold : w.heap[b]? ≠ none := by
  have := h.inv.lt b s hb
  simp [this]
 obtain ⟨q1, _, _, _, q5⟩ := h.unlent hold hn
 refine ⟨q1, ?_⟩
 rw [q5, hb]
 simp
theorem Called.notLent (h : Called n N m e tm w G q rt Gc e2 tm1 w1 G2 H outs gv) {b s : Nat} (hb : G.ow b = some s) (hs : ∀ x ∈ lendAt 0 q.lends, x.2.2.slot ≠ s) : ∀ x ∈ lendAt 0 q.lends, b ∉ blkL e G x.2.2 := by
 intro x hx hm
 have := blkL_ow h.inv (h.lends.inn x hx) hm
 rw [hb] at this
 simp only [Option.some.injEq] at this
 exact hs x hx this.symm
theorem Called.still (h : Called n N m e tm w G q rt Gc e2 tm1 w1 G2 H outs gv) : Still w w1 G.ow (owOut2 w e G (lendAt 0 q.lends) G2 N H rt gv e.length) := by
 intro b hb hold
 have hn : ∀ x ∈ lendAt 0 q.lends, b ∉ blkL e G x.2.2 := by
  intro x hx hm
  have := blkL_ow h.inv (h.lends.inn x hx) hm
  rw [hb] at this
  simp at this
 obtain ⟨q1, _, _, _, q5⟩ := h.unlent hold hn
 exact ⟨q1, by rw [q5, hb]⟩
theorem Called.cellBack (h : Called n N m e tm w G q rt Gc e2 tm1 w1 G2 H outs gv) {i c s j : Nat} {p : Path} {k : K} (hx : (i, c, Lend.cell s j p k) ∈ lendAt 0 q.lends) {z : Nat} {c1 : C}
  (hc1 : backC z ((e.get s).cs.getD j .dead) p k ((outs.getD i []).getD c .dead) = some c1) :
  ∃ rv sv d k0 l0 v0, (e.get s).cs[j]? = some (.own rv sv d k0 l0) ∧ (G.vs s)[j]? = some v0 ∧ (c1 = .dead ∨
   ∃ (sv1 : Nat) (d1 : Bool) (k1 : K) (l1 : List k1.T) (d' : Bool) (l0' : List k0.T), (e2.get (N + 2 * i)).cs[c]? = some (.own 0 sv1 d1 k1 l1) ∧ c1 = .own rv z d' k0 l0' ∧ RepL true w1 k0.size (Rep d' w1 k0) l0' (setSub k0 (G.lt s j) (backL (subL k0 (G.lt s j) p) (G2.lt (N + 2 * i) c)) p) v0 ∧ l0'.length = l0.length ∧
    hdOf (setSub k0 (G.lt s j) (backL (subL k0 (G.lt s j) p) (G2.lt (N + 2 * i) c)) p) = hdOf (G.lt s j) ∧
    (∀ b ∈ ownB (.own rv z d' k0 l0') (setSub k0 (G.lt s j) (backL (subL k0 (G.lt s j) p) (G2.lt (N + 2 * i) c)) p), (b ∈ ownB (.own rv sv d k0 l0) (G.lt s j) ∧ b ∉ blkL e G (.cell s j p k)) ∨ b ∈ ownB (.own 0 sv1 d1 k1 l1) (G2.lt (N + 2 * i) c)) ∧
    (ownB (.own rv z d' k0 l0') (setSub k0 (G.lt s j) (backL (subL k0 (G.lt s j) p) (G2.lt (N + 2 * i) c)) p)).Nodup ∧
    (d' = false → ∀ b ∈ inner k0 (setSub k0 (G.lt s j) (backL (subL k0 (G.lt s j) p) (G2.lt (N + 2 * i) c)) p), owOut2 w e G (lendAt 0 q.lends) G2 N H rt gv e.length b = none)) := by
 obtain ⟨rv, sv, d, k0, l0, y, x, q1, q2, q3, q4, q5, q6, q7⟩ := h.start.cell i c s j p k hx
 obtain ⟨v0, hv0, hcell⟩ := h.inv.val q1
 refine ⟨rv, sv, d, k0, l0, v0, q1, hv0, ?_⟩
 rw [getD_some q1, h.outCell i c s j p k hx] at hc1
 have hheld := h.held.vs (N + 2 * i) (by omega)
 have hvs := (hheld.1 (by omega)).1
 have hhd := (hheld.1 (by omega)).2 c
 have hdead : backC z (.own rv sv d k0 l0) p k .dead = some c1 → c1 = .dead := by
  intro hb
  cases p with
  | nil => simp only [backC, Option.some.injEq] at hb; exact hb.symm
  | cons a b => simp [backC] at hb
 have hflat : ∀ k' y', backC z (.own rv sv d k0 l0) p k (.dat k' y') = some c1 → c1 = .dead := by
  intro k' y' hb
  cases p with
  | nil => simp only [backC, Option.some.injEq] at hb; exact hb.symm
  | cons a b => simp [backC] at hb
 cases ho : (e2.get (N + 2 * i)).cs.getD c .dead with
 | own rv1 sv1 d1 k1 l1 =>
  cases rv1 with
  | succ r =>
   rw [ho] at hc1
   exact .inl (hdead hc1)
  | zero =>
   rw [ho] at hc1
   simp only [outC] at hc1
   have hoc : (e2.get (N + 2 * i)).cs[c]? = some (.own 0 sv1 d1 k1 l1) := some_of_getD ho (by simp)
   obtain ⟨v1, hv1, hcell1⟩ := h.inv2.val hoc
   rw [hvs] at hv1
   rw [q5] at hv1
   simp only [Option.some.injEq] at hv1
   subst hv1
   obtain ⟨o1, o2, o3⟩ := h.inv.ownBlocks q1
   obtain ⟨n1, n2, n3⟩ := h.inv2.ownBlocks hoc
   rw [ownB_ownD] at o1 o3 n1 n3
   have hP : posL N (i, c, Lend.cell s j p k) = N + 2 * i := rfl
   have hblk : blkL e G (.cell s j p k) = ownD d k (sentL (subL k0 (G.lt s j) p)) := by simp only [blkL, getD_some q1]
   have hotherL : ∀ b, b ∈ ownD d k0 (G.lt s j) → b ∉ ownD d k (sentL (subL k0 (G.lt s j) p)) → ∀ y ∈ lendAt 0 q.lends, b ∉ blkL e G y.2.2 := by
    intro b hb hnb y hy hm
    rcases apartF_mem h.lends.apart _ hx _ hy with g | g
    ·subst g
     dsimp only at hm
     rw [hblk] at hm
     exact hnb hm
    ·have hs1 := blkL_ow h.inv (h.lends.inn y hy) hm
     rw [o1 b hb] at hs1
     simp only [Option.some.injEq] at hs1
     obtain ⟨i', c', l'⟩ := y
     cases l' with
     | box s' => simp only [Lend.slot] at hs1; subst hs1; simp [Lend.clash, Lend.slot] at g
     | cell s' j' p' k' =>
      simp only [Lend.slot] at hs1
      subst hs1
      have hne : j ≠ j' := by
       rintro rfl
       simp [Lend.clash] at g
      obtain ⟨c0, r1, r2⟩ := blkL_cell (h.lends.inn _ hy) hm
      exact fpCells_disj (cells_nodup h.inv s) q1 r1 hne (by rw [ownB_ownD]; exact hb) r2
   obtain ⟨d', l0', r1, r2, r3, r4, r5, r6, r7⟩ := back_cell (sv := sv) hcell.1 q2 q3 q4 q6 hcell1.1 (by rw [hhd, q7]) hc1
    (fun b hb hnb => (h.owner (o1 b hb) (hotherL b hb hnb)).1) o3 n3
    (fun b hb1 hb => by
     refine Classical.byContradiction fun hnb => ?_
     have hb1' : b ∈ fpS G2 (posL N (i, c, Lend.cell s j p k)) (e2.get (posL N (i, c, Lend.cell s j p k))) := by
      rw [hP]
      simp only [fpS, List.mem_append]
      right
      have := fpCells_mem (lt := G2.lt (N + 2 * i)) (i := 0) hoc (by rw [ownB_ownD]; simpa using hb1)
      have hsh : (e2.get (N + 2 * i)).sh ≠ .dead := fun q => by rw [(h.inv2.slot (N + 2 * i)).dead q] at hoc; simp at hoc
      cases hh : (e2.get (N + 2 * i)).sh <;> simp_all
     obtain ⟨_, _, g⟩ := h.pseudo hx hb1'
     have hold : w.heap[b]? ≠ none := by
      have := h.inv.lt b s (o1 b hb)
      simp [this]
     obtain ⟨y, hy, hm⟩ := g hold
     exact hotherL b hb hnb y hy hm)
   refine .inr ⟨sv1, d1, k1, l1, d', l0', hoc, r1, r2, r3, r4, fun b hb => ?_, by rw [ownB_ownD]; exact r6, fun hd b hb => ?_⟩
   ·rw [ownB_ownD] at hb ⊢
    rw [ownB_ownD, hblk]
    exact r5 b hb
   ·obtain ⟨g1, g2⟩ := r7 hd b hb
    have hno := n2 g1 b g2
    refine h.nobody hno (.inl ?_)
    have hmem : (outs.getD i []).getD c .dead ∈ outs.getD i [] := by
     have heq := h.outCell i c s j p k hx
     rw [ho] at heq
     simp only [outC] at heq
     have := some_of_getD heq (by simp)
     rw [heq]
     exact List.mem_of_getElem? this
    refine h.al i _ hmem ?_
    rw [h.outCell i c s j p k hx, ho]
    simp only [outC, C.aliases, g1, Bool.not_false, Bool.true_and]
    cases hf : k1.flat with
    | false => rfl
    | true =>
     exfalso
     cases hL : G2.lt (N + 2 * i) c with
     | node b0 off cap rows =>
      rw [hL] at g2
      simp only [inner, List.mem_flatMap] at g2
      obtain ⟨r', _, g2⟩ := g2
      rw [fp_flat hf] at g2
      simp at g2
     | _ => rw [hL] at g2; simp [inner] at g2
 | dat k' y' =>
  rw [ho] at hc1
  exact .inl (hflat k' y' hc1)
 | _ =>
  rw [ho] at hc1
  exact .inl (hdead hc1)
end called
end Go.Mach
namespace Go.Mach
set_option linter.unusedVariables false
set_option linter.unusedSimpArgs false
theorem alias_inner {a b : Nat} {d : Bool} {k : K} {l : List k.T} {L : LT} (hd : d = false) {x : Nat} (hx : x ∈ inner k L) : C.aliases (.own a b d k l) = true := by
 simp only [C.aliases, hd, Bool.not_false, Bool.true_and]
 cases hf : k.flat with
 | false => rfl
 | true =>
  exfalso
  cases hL : L with
  | node b0 off cap rows =>
   rw [hL] at hx
   simp only [inner, List.mem_flatMap] at hx
   obtain ⟨r', _, hx⟩ := hx
   rw [fp_flat hf] at hx
   simp at hx
  | _ => rw [hL] at hx; simp [inner] at hx
theorem alias_dat {k : K} {x : k.T} {L : LT} {b : Nat} (hb : b ∈ fp k L) : C.aliases (.dat k x) = true := by
 simp only [C.aliases]
 cases hf : k.flat with
 | false => rfl
 | true => rw [fp_flat hf] at hb; simp at hb
theorem Inv.mem_fpS {n : Nat} {e : Env} {tm : Array Value} {w : World} {G : Gh} (h : Inv n e tm w G) {s j : Nat} {c : C} (hc : (e.get s).cs[j]? = some c) {b : Nat} (hb : b ∈ ownB c (G.lt s j)) : b ∈ fpS G s (e.get s) := by
 have := fpCells_mem (lt := G.lt s) (i := 0) hc (by simpa using hb)
 have hsh : (e.get s).sh ≠ .dead := fun q => by rw [(h.slot s).dead q] at hc; simp at hc
 simp only [fpS, List.mem_append]
 right
 cases hh : (e.get s).sh with
 | dead => exact absurd hh hsh
 | _ => exact this
section called
variable {n N m : Nat} {e : Env} {tm : Array Value} {w : World} {G : Gh} {q : Sent} {rt : List Nat} {Gc : Gh} {e2 : Env} {tm1 : Array Value} {w1 : World} {G2 : Gh} {H : List Nat} {outs : List (List C)} {gv : Bool}
theorem ltOut_box {eb : Env} (h : Called n N m e tm w G q rt Gc e2 tm1 w1 G2 H outs gv) {i c s : Nat} (hx : (i, c, Lend.box s) ∈ lendAt 0 q.lends) : ltOut e eb G G2 N (lendAt 0 q.lends) s = G2.lt (N + 2 * i + 1) := by
 funext j
 unfold ltOut
 rw [boxOf_some h.lends.apart hx]
theorem ltOut_rest {eb : Env} {fl : List (Nat × Nat × Lend)} {s j : Nat} (h1 : ∀ x ∈ fl, x.2.2 ≠ .box s) (h2 : ∀ x ∈ fl, ∀ p k, x.2.2 ≠ .cell s j p k) : ltOut e eb G G2 N fl s j = G.lt s j := by
 unfold ltOut
 rw [boxOf_none h1, cellOf_none h2]
theorem ltOut_dead {eb : Env} {fl : List (Nat × Nat × Lend)} {s j : Nat} (h1 : ∀ x ∈ fl, x.2.2 ≠ .box s) (h2 : (eb.get s).cs.getD j .dead = .dead) : ltOut e eb G G2 N fl s j = G.lt s j := by
 unfold ltOut
 rw [boxOf_none h1, h2]
 cases cellOf fl s j <;> rfl
theorem ltOut_cell {eb : Env} (h : Called n N m e tm w G q rt Gc e2 tm1 w1 G2 H outs gv) {i c s j : Nat} {p : Path} {k : K} (hx : (i, c, Lend.cell s j p k) ∈ lendAt 0 q.lends) (h1 : ∀ x ∈ lendAt 0 q.lends, x.2.2 ≠ .box s)
  {a1 a2 : Nat} {a3 : Bool} {a4 : K} {a5 : List a4.T} (h2 : (eb.get s).cs[j]? = some (.own a1 a2 a3 a4 a5)) {b1 b2 : Nat} {b3 : Bool} {k0 : K} {b5 : List k0.T} (h3 : (e.get s).cs[j]? = some (.own b1 b2 b3 k0 b5)) :
  ltOut e eb G G2 N (lendAt 0 q.lends) s j = setSub k0 (G.lt s j) (backL (subL k0 (G.lt s j) p) (G2.lt (N + 2 * i) c)) p := by
 unfold ltOut
 rw [boxOf_none h1, cellOf_some h.lends.apart hx, getD_some h2, getD_some h3]
theorem Called.back (h : Called n N m e tm w G q rt Gc e2 tm1 w1 G2 H outs gv) {eb e3 : Env} (hbe : BackEnv outs (lendAt 0 q.lends) e eb) (he : e3.length = e.length)
  (hget : ∀ s, e3.get s = if gv = true ∧ s ∈ rt then giveS (e.get s) else eb.get s) :
  Inv n e3 tm w1 (ghOut w e eb G (lendAt 0 q.lends) G2 N H rt gv) ∧ Held n e.length w w1 G (ghOut w e eb G (lendAt 0 q.lends) G2 N H rt gv) := by
 generalize hfl : lendAt 0 q.lends = fl at hbe ⊢
 have hF := hfl
 let G' := ghOut w e eb G fl G2 N H rt gv
 have hG'ow : G'.ow = owOut2 w e G fl G2 N H rt gv e.length := rfl
 have vsN : ∀ s, (∀ x ∈ fl, x.2.2 ≠ .box s) → G'.vs s = G.vs s := fun s hs => by simp only [G', ghOut, boxOf_none hs]
 have vsB : ∀ i c s, (i, c, Lend.box s) ∈ fl → G'.vs s = G2.vs (N + 2 * i + 1) := fun i c s hx => by
  subst hfl
  simp only [G', ghOut, boxOf_some h.lends.apart hx]
 have hst : Still w w1 G.ow G'.ow := by subst hfl; exact h.still
 have notRd : ∀ x ∈ fl, x.2.2.slot ∉ rt := by subst hfl; exact h.lends.notRead
 have lentGet : ∀ s, (∃ x ∈ fl, x.2.2.slot = s) → e3.get s = eb.get s := by
  rintro s ⟨x, hx, rfl⟩
  rw [hget, if_neg fun g => notRd x hx g.2]
 have nlBox : ∀ s, (∀ x ∈ fl, x.2.2.slot ≠ s) → ∀ x ∈ fl, x.2.2 ≠ .box s := fun s hs x hx q => hs x hx (by rw [q]; rfl)
 have nlCell : ∀ s j, (∀ x ∈ fl, x.2.2.slot ≠ s) → ∀ x ∈ fl, ∀ p k, x.2.2 ≠ .cell s j p k := fun s j hs x hx p k q => hs x hx (by rw [q]; rfl)
 have lentCell : ∀ i c s j p k, (i, c, Lend.cell s j p k) ∈ fl → (∀ x ∈ fl, x.2.2 ≠ .box s) → ∃ z c1, ((e.get s).cnt ≤ z ∧ (e.get s).cnt / verM < z / verM) ∧ z < (eb.get s).cnt ∧ (eb.get s).cs[j]? = some c1 ∧ ∃ rv sv d k0 l0 v0, (e.get s).cs[j]? = some (.own rv sv d k0 l0) ∧ (G.vs s)[j]? = some v0 ∧
   ((c1 = .dead ∧ G'.lt s j = G.lt s j) ∨ ∃ (sv1 : Nat) (d1 : Bool) (k1 : K) (l1 : List k1.T) (d' : Bool) (l0' : List k0.T), (e2.get (N + 2 * i)).cs[c]? = some (.own 0 sv1 d1 k1 l1) ∧ c1 = .own rv z d' k0 l0' ∧ RepL true w1 k0.size (Rep d' w1 k0) l0' (G'.lt s j) v0 ∧ l0'.length = l0.length ∧
    hdOf (G'.lt s j) = hdOf (G.lt s j) ∧ (∀ b ∈ ownB (.own rv z d' k0 l0') (G'.lt s j), (b ∈ ownB (.own rv sv d k0 l0) (G.lt s j) ∧ b ∉ blkL e G (.cell s j p k)) ∨ b ∈ ownB (.own 0 sv1 d1 k1 l1) (G2.lt (N + 2 * i) c)) ∧
    (ownB (.own rv z d' k0 l0') (G'.lt s j)).Nodup ∧ (d' = false → ∀ b ∈ inner k0 (G'.lt s j), G'.ow b = none)) := by
  intro i c s j p k hx hnb
  obtain ⟨z, c1, q1, q2, q3, q4⟩ := hbe.cell i c s j p k hx
  subst hfl
  obtain ⟨rv, sv, d, k0, l0, v0, r1, r2, r3⟩ := h.cellBack hx q3
  refine ⟨z, c1, q1, q2, q4, rv, sv, d, k0, l0, v0, r1, r2, ?_⟩
  rcases r3 with rfl | ⟨sv1, d1, k1, l1, d', l0', t1, rfl, t3, t4, t5, t6, t7, t8⟩
  ·exact .inl ⟨rfl, ltOut_dead hnb (getD_some q4 _)⟩
  ·have hlt : G'.lt s j = setSub k0 (G.lt s j) (backL (subL k0 (G.lt s j) p) (G2.lt (N + 2 * i) c)) p := ltOut_cell h hx hnb q4 r1
   rw [hlt]
   exact .inr ⟨sv1, d1, k1, l1, d', l0', t1, rfl, t3, t4, t5, t6, t7, t8⟩
 have hTM : ∀ t, TM e e3 G G' t := by
  intro t
  by_cases hb : ∃ i c, (i, c, Lend.box t) ∈ fl
  ·obtain ⟨i, c, hx⟩ := hb
   have hg : e3.get t = Slot.mk (e.get t).sh ((outs.getD i []).map (layC (e.get t).cnt)) ((e.get t).cnt + 1) := by
    rw [lentGet t ⟨_, hx, rfl⟩, hbe.box i c t hx]
   refine ⟨by rw [hg]; exact Nat.le_succ _, fun j rv sv' d' k0 l0' h1 h2 => ?_, fun bv h1 _ => ⟨by rw [hg] at h1; exact h1, rfl⟩⟩
   exfalso
   rw [hg] at h1
   have h3 := some_of_getD h1 (by simp)
   simp only [List.getElem?_map] at h3
   cases hc0 : (outs.getD i [])[j]? with
   | none => rw [hc0] at h3; simp at h3
   | some c0 =>
    rw [hc0] at h3
    simp only [Option.map_some, Option.some.injEq] at h3
    cases c0 <;> simp [layC] at h3
    omega
  ·have hnb : ∀ x ∈ fl, x.2.2 ≠ .box t := by
    rintro ⟨i, c, l⟩ hx hl
    dsimp only at hl
    subst hl
    exact hb ⟨i, c, hx⟩
   by_cases hc : ∃ x ∈ fl, x.2.2.slot = t
   ·have hg := lentGet t hc
    obtain ⟨c1, c2, c3⟩ := hbe.cells t hnb
    refine ⟨by rw [hg]; exact c2, fun j rv sv' d' k0 l0' h1 h2 => ?_, fun bv h1 _ => ⟨by rw [hg, c1] at h1; exact h1, rfl⟩⟩
    rw [hg] at h1
    by_cases hlc : ∃ i c p k, (i, c, Lend.cell t j p k) ∈ fl
    ·obtain ⟨i, c, p, k, hx⟩ := hlc
     obtain ⟨z, c1', z1, z2, z3, rv0, sv, d, k00, l0, v0, r1, r2, r3⟩ := lentCell i c t j p k hx hnb
     rw [getD_some z3] at h1
     rcases r3 with ⟨rfl, _⟩ | ⟨sv1, d1, k1, l1, d'', l0'', t1, rfl, t3, t4, t5, t6, t7, t8⟩
     ·simp at h1
     ·simp only [C.own.injEq] at h1
      obtain ⟨rfl, rfl, rfl, rfl, hle⟩ := h1
      have hle := eq_of_heq hle
      subst hle
      refine ⟨sv, d, l0, getD_some r1 _, fun k' n' hd hh => ?_, fun _ p1 a hp1 ha hok => absurd hok (notOk hp1 ha z1.1 z1.2)⟩
      obtain ⟨p1, p2, p3, p4⟩ := hh
      rw [getP_nil] at p2 p3
      exact ⟨trivial, by rw [getP_nil]; exact p2, by rw [getP_nil]; exact t4.trans p3, by simp only [subL] at p4 ⊢; rw [t5]; exact p4⟩
    ·have hno : ∀ x ∈ fl, ∀ p k, x.2.2 ≠ .cell t j p k := by
      rintro ⟨i, c, l⟩ hx p k hl
      dsimp only at hl
      subst hl
      exact hlc ⟨i, c, p, k, hx⟩
     have hlt : G'.lt t j = G.lt t j := ltOut_rest hnb hno
     have hsame := hbe.cellR t j hnb hno
     have h1' : (e.get t).cs.getD j .dead = .own rv sv' d' k0 l0' := by
      rw [List.getD_eq_getElem?_getD] at h1 ⊢
      rw [← hsame]; exact h1
     exact ⟨sv', d', l0', h1', fun k n hd hh => by rw [hlt]; exact hh, fun hd p a _ _ ha => ⟨ha, hd, fun k n hd hh => by rw [hlt]; exact hh⟩⟩
   ·have hnl : ∀ x ∈ fl, x.2.2.slot ≠ t := fun x hx q => hc ⟨x, hx, q⟩
    by_cases hg : gv = true ∧ t ∈ rt
    ·exact TM.give (by rw [hget, if_pos hg])
    ·exact TM.refl (by rw [hget, if_neg hg, hbe.rest t hnl]) (fun j => ltOut_rest (nlBox t hnl) (nlCell t j hnl)) rfl
 have owner : ∀ b s, G.ow b = some s → (∀ x ∈ fl, b ∉ blkL e G x.2.2) → w1.heap[b]? = w.heap[b]? ∧ G'.ow b = if gv = true ∧ s ∈ rt then none else some s := by
  subst hfl; exact fun b s hb hn => h.owner hb hn
 have notLent : ∀ b s, G.ow b = some s → (∀ x ∈ fl, x.2.2.slot ≠ s) → ∀ x ∈ fl, b ∉ blkL e G x.2.2 := by
  subst hfl; exact fun b s hb hn => h.notLent hb hn
 refine ⟨h.inv.turns (fun t => (∃ x ∈ fl, x.2.2.slot = t) ∨ (gv = true ∧ t ∈ rt)) (by rw [he]; exact h.inv.elen) h.inv.size (fun t ht => ?_) (fun t ht => ?_) (fun t _ _ => rfl) (fun t _ => hTM t) hst (fun t ht b hb => ?_) (fun t ht => ?_) (fun b t hb => ?_), hst, fun s hs => ?_, fun b t h1 h2 h3 => ?_⟩
 ·simp only [not_or, not_exists, not_and] at ht
  rw [hget, if_neg fun g => ht.2 g.1 g.2, hbe.rest t fun x hx => ht.1 x hx]
 ·simp only [not_or, not_exists, not_and] at ht
  have hnl : ∀ x ∈ fl, x.2.2.slot ≠ t := fun x hx => ht.1 x hx
  exact ⟨vsN t (nlBox t hnl), fun j => ltOut_rest (nlBox t hnl) (nlCell t j hnl), rfl⟩
 ·simp only [not_or, not_exists, not_and] at ht
  have hnl : ∀ x ∈ fl, x.2.2.slot ≠ t := fun x hx => ht.1 x hx
  have how := (h.inv.slot t).own b hb
  obtain ⟨q1, q2⟩ := owner b t how (notLent b t how hnl)
  exact ⟨q1, by rw [q2, if_neg fun g => ht.2 g.1 g.2]⟩
 ·by_cases hb : ∃ i c, (i, c, Lend.box t) ∈ fl
  ·
   obtain ⟨i, c, hx⟩ := hb
   have hg : e3.get t = Slot.mk (e.get t).sh ((outs.getD i []).map (layC (e.get t).cnt)) ((e.get t).cnt + 1) := by
    rw [lentGet t ⟨_, hx, rfl⟩, hbe.box i c t hx]
   subst hfl
   have hvs : G'.vs t = G2.vs (N + 2 * i + 1) := vsB i c t hx
   have hlt : G'.lt t = G2.lt (N + 2 * i + 1) := ltOut_box h hx
   obtain ⟨⟨bv2, hsh2⟩, hob⟩ := h.outBox i c t hx
   obtain ⟨hbk, bv, cs0, hsh, _⟩ := h.start.box i c t hx
   have hbk2 : G2.bk (N + 2 * i + 1) = G.bk t := by rw [(h.held.vs _ (by omega)).2, hbk]
   have hP : posL N (i, c, Lend.box t) = N + 2 * i + 1 := rfl
   have hS2 := h.inv2.slot (N + 2 * i + 1)
   have hne2 : (e2.get (N + 2 * i + 1)).sh ≠ .dead := by rw [hsh2]; simp
   obtain ⟨o1, o2⟩ := ownBox_get hob
   have hget' : ∀ (j : Nat) c', (e3.get t).cs[j]? = some c' → ∃ c0 c2, (e2.get (N + 2 * i + 1)).cs[j]? = some c2 ∧ (outs.getD i [])[j]? = some c0 ∧ c' = layC (e.get t).cnt c0 ∧
     ((∃ rv sv d k l, c2 = .own rv sv d k l ∧ c0 = .own 0 0 d k l) ∨ (c0 = c2 ∧ c2.isOwn = false ∧ ((∃ k x, c2 = .dat k x) ∨ c2 = .nil ∨ (∃ a j, c2 = .pim a j) ∨ ∃ f, c2 = .fn f []))) := by
    intro j c' hc'
    rw [hg] at hc'
    simp only [List.getElem?_map] at hc'
    cases hc0 : (outs.getD i [])[j]? with
    | none => rw [hc0] at hc'; simp at hc'
    | some c0 =>
     rw [hc0] at hc'
     simp only [Option.map_some, Option.some.injEq] at hc'
     obtain ⟨c2, hc2⟩ : ∃ c2, (e2.get (N + 2 * i + 1)).cs[j]? = some c2 := ⟨_, List.getElem?_eq_getElem (by rw [← o1]; exact (List.getElem?_eq_some_iff.1 hc0).1)⟩
     exact ⟨c0, c2, hc2, rfl, hc'.symm, o2 j c2 c0 hc2 hc0⟩
   have hfp : fpS G' t (e3.get t) = fpS G2 (N + 2 * i + 1) (e2.get (N + 2 * i + 1)) := by
    have hlen : (e3.get t).cs.length = (e2.get (N + 2 * i + 1)).cs.length := by rw [hg, ← o1]; exact List.length_map _
    have : fpCells (G2.lt (N + 2 * i + 1)) 0 (e3.get t).cs = fpCells (G2.lt (N + 2 * i + 1)) 0 (e2.get (N + 2 * i + 1)).cs := by
     refine fpCells_congr hlen fun j c2 c' hc2 hc' => ?_
     obtain ⟨c0, c2', r1, r2, rfl, r4⟩ := hget' j c' hc'
     rw [hc2] at r1
     simp only [Option.some.injEq] at r1
     subst r1
     rw [ownB_lay]
     rcases r4 with ⟨rv, sv, d, k, l, rfl, rfl⟩ | ⟨rfl, _⟩
     ·rw [ownB_ownD, ownB_ownD]
     ·rfl
    simp only [fpS, hlt, this, hsh2]
    rw [hg]
    simp only [hsh]
    rw [hbk2]
    rfl
   refine ⟨fun hn => ?_, fun bv' hbv => ?_, fun hd => ?_, fun hd j c' v hc' hv => ?_, fun hd j rv sv d k l hc' => ?_, ?_, ?_, fun hd => ?_⟩
   ·have := (h.inv.slot t).form hn
    rw [hg]
    simp only [hsh] at this ⊢
    exact this
   ·rw [hg] at hbv ⊢
    simp only at hbv ⊢
    obtain ⟨r1, _⟩ := (h.inv.slot t).box bv' hbv
    refine ⟨by omega, ?_⟩
    rw [hvs]
    have := (hS2.box bv2 hsh2).2
    rw [hbk2] at this
    exact this
   ·rw [hvs, hg]
    simp only [List.length_map, o1]
    exact hS2.len hne2
   ·rw [hvs] at hv
    rw [hlt]
    obtain ⟨c0, c2, r1, r2, rfl, r4⟩ := hget' j c' hc'
    have hcell := hS2.cells hne2 j c2 v r1 hv
    have hmem := List.mem_of_getElem? r2
    have hno : ∀ b, G2.ow b = none → gv = true → G'.ow b = none := fun b hb hgv => h.nobody hb (.inl hgv)
    rcases r4 with ⟨rv, sv, d, k, l, rfl, rfl⟩ | ⟨rfl, _, ⟨k, x, rfl⟩ | rfl | ⟨a, jj, rfl⟩ | ⟨f, rfl⟩⟩
    ·exact ⟨hcell.1, fun hd b hb => hno b (hcell.2 hd b hb) (h.al i _ hmem (alias_inner hd hb))⟩
    ·exact ⟨hcell.1, fun b hb => hno b (hcell.2 b hb) (h.al i _ hmem (alias_dat hb))⟩
    ·exact hcell
    ·obtain ⟨b, o, vs, Ls, k1, k2, k3, k4, k5, k6⟩ := hcell
     have hgv := h.al i _ hmem rfl
     refine ⟨b, o, vs, Ls, k1, hno b k2 hgv, k3, k4, k5, fun i' c' u' hc' hu' => ?_⟩
     have := k6 i' c' u' hc' hu'
     cases c' with
     | nil => exact this
     | dat k y => exact ⟨this.1, fun b hb => hno b (this.2 b hb) hgv⟩
     | _ => exact this
    ·obtain ⟨us', Ls', k1, k2, k3⟩ := hcell
     exact ⟨us', Ls', k1, k2, fun i' c' u' hc' => by simp at hc'⟩
   ·obtain ⟨c0, c2, r1, r2, r3, r4⟩ := hget' j _ hc'
    rw [hg]
    simp only
    rcases r4 with ⟨rv', sv', d', k', l', rfl, rfl⟩ | ⟨rfl, r5, r6⟩
    ·simp only [layC, C.own.injEq] at r3
     obtain ⟨rfl, rfl, _⟩ := r3
     exact ⟨Nat.lt_succ_self _, Nat.succ_pos _⟩
    ·rcases r6 with ⟨k, x, rfl⟩ | rfl | ⟨a, jj, rfl⟩ | ⟨f, rfl⟩ <;> simp [layC] at r3
   ·rw [hfp]; exact hS2.nodup
   ·rw [hfp]
    intro b hb
    exact (h.pseudo hx (by rw [hP]; exact hb)).1
   ·rw [hg] at hd
    simp only [hsh] at hd
    simp at hd
  ·have hnb : ∀ x ∈ fl, x.2.2 ≠ .box t := by
    rintro ⟨i, c, l⟩ hx hl
    dsimp only at hl
    subst hl
    exact hb ⟨i, c, hx⟩
   by_cases hc : ∃ x ∈ fl, x.2.2.slot = t
   ·
    have hg := lentGet t hc
    obtain ⟨c1, c2, c3⟩ := hbe.cells t hnb
    have hS := h.inv.slot t
    have hvs := vsN t hnb
    have hnr : t ∉ rt := by obtain ⟨x, hx, rfl⟩ := hc; exact notRd x hx
    have kind : ∀ (j : Nat) c', (eb.get t).cs[j]? = some c' → (((∀ x ∈ fl, ∀ p k, x.2.2 ≠ .cell t j p k) ∧ (e.get t).cs[j]? = some c' ∧ G'.lt t j = G.lt t j) ∨ ∃ i c p k, (i, c, Lend.cell t j p k) ∈ fl) := by
     intro j c' hc'
     by_cases hlc : ∃ i c p k, (i, c, Lend.cell t j p k) ∈ fl
     ·exact .inr hlc
     ·have hno : ∀ x ∈ fl, ∀ p k, x.2.2 ≠ .cell t j p k := by
       rintro ⟨i, c, l⟩ hx p k hl
       dsimp only at hl
       subst hl
       exact hlc ⟨i, c, p, k, hx⟩
      exact .inl ⟨hno, by rw [← hbe.cellR t j hnb hno]; exact hc', ltOut_rest hnb hno⟩
    have freeU : ∀ (j : Nat) c0 b, (e.get t).cs[j]? = some c0 → b ∈ ownB c0 (G.lt t j) → (∀ p k, b ∉ blkL e G (.cell t j p k) ∨ ∀ x ∈ fl, x.2.2 ≠ .cell t j p k) → ∀ x ∈ fl, b ∉ blkL e G x.2.2 := by
     intro j c0 b hc0 hb hn x hx hm
     have hin : LendIn e x.2.2 := by subst hfl; exact h.lends.inn x hx
     have hs1 := blkL_ow h.inv hin hm
     have hown : G.ow b = some t := hS.own b (h.inv.mem_fpS hc0 hb)
     rw [hown] at hs1
     simp only [Option.some.injEq] at hs1
     obtain ⟨i', c', l'⟩ := x
     cases l' with
     | box s' =>
      simp only [Lend.slot] at hs1
      subst hs1
      exact hnb _ hx rfl
     | cell s' j' p' k' =>
      simp only [Lend.slot] at hs1
      subst hs1
      by_cases hj : j = j'
      ·subst hj
       rcases hn p' k' with g | g
       ·exact g hm
       ·exact g _ hx rfl
      ·obtain ⟨cc, r1, r2⟩ := blkL_cell hin hm
       exact fpCells_disj (cells_nodup h.inv t) hc0 r1 hj hb r2
    have ownT : ∀ (j : Nat) c0 b, (e.get t).cs[j]? = some c0 → b ∈ ownB c0 (G.lt t j) → G.ow b = some t := by
     intro j c0 b hc0 hb
     exact hS.own b (h.inv.mem_fpS hc0 hb)
    have src : ∀ (j : Nat) c' b, (eb.get t).cs[j]? = some c' → b ∈ ownB c' (G'.lt t j) →
      (∃ c0, (e.get t).cs[j]? = some c0 ∧ b ∈ ownB c0 (G.lt t j) ∧ ∀ x ∈ fl, b ∉ blkL e G x.2.2) ∨ ∃ i c p k c2, (i, c, Lend.cell t j p k) ∈ fl ∧ (e2.get (N + 2 * i)).cs[c]? = some c2 ∧ b ∈ ownB c2 (G2.lt (N + 2 * i) c) := by
     intro j c' b hc' hb
     rcases kind j c' hc' with ⟨r1, r2, r3⟩ | ⟨i, c, p, k, hx⟩
     ·rw [r3] at hb
      exact .inl ⟨c', r2, hb, freeU j c' b r2 hb fun p k => .inr fun x hx => r1 x hx p k⟩
     ·obtain ⟨z, c1', z1, z2, z3, rv0, sv, d, k00, l0, v0, r1, r2, r3⟩ := lentCell i c t j p k hx hnb
      rw [hc'] at z3
      simp only [Option.some.injEq] at z3
      subst z3
      rcases r3 with ⟨rfl, _⟩ | ⟨sv1, d1, k1, l1, d'', l0'', t1, rfl, t3, t4, t5, t6, t7, t8⟩
      ·simp [ownB] at hb
      ·rcases t6 b hb with ⟨g1, g2⟩ | g
       ·refine .inl ⟨_, r1, g1, freeU j _ b r1 g1 fun p' k' => ?_⟩
        by_cases hpk : ∃ x ∈ fl, x.2.2 = .cell t j p' k'
        ·obtain ⟨⟨i', c', l'⟩, hx', hl'⟩ := hpk
         dsimp only at hl'
         subst hl'
         have hap : apartF fl = true := by subst hfl; exact h.lends.apart
         rcases apartF_mem hap _ hx _ hx' with g | g
         ·simp only [Prod.mk.injEq, Lend.cell.injEq, true_and] at g
          obtain ⟨_, _, rfl, rfl⟩ := g
          exact .inl g2
         ·simp [Lend.clash] at g
        ·exact .inr fun x hx' q => hpk ⟨x, hx', q⟩
       ·exact .inr ⟨i, c, p, k, _, hx, t1, g⟩
    have inP : ∀ i c (s j : Nat) p k c2 b, (i, c, Lend.cell s j p k) ∈ fl → (e2.get (N + 2 * i)).cs[c]? = some c2 → b ∈ ownB c2 (G2.lt (N + 2 * i) c) → b ∈ fpS G2 (posL N (i, c, Lend.cell s j p k)) (e2.get (posL N (i, c, Lend.cell s j p k))) := by
     intro i c s j p k c2 b hx hc2 hb
     exact h.inv2.mem_fpS hc2 hb
    have psd : ∀ i c (s j : Nat) p k c2 b, (i, c, Lend.cell s j p k) ∈ fl → (e2.get (N + 2 * i)).cs[c]? = some c2 → b ∈ ownB c2 (G2.lt (N + 2 * i) c) → G'.ow b = some s ∧ G2.ow b = some (N + 2 * i) ∧ N + 2 * i < N + 2 * m := by
     intro i c s j p k c2 b hx hc2 hb
     have := inP i c s j p k c2 b hx hc2 hb
     subst hfl
     obtain ⟨g1, g2, _⟩ := h.pseudo hx this
     exact ⟨g1, g2, h.pos_lt hx⟩
    have old : ∀ b, G.ow b = some t → (∀ x ∈ fl, b ∉ blkL e G x.2.2) → ∀ u, G2.ow b = some u → u = N + 2 * m := by
     intro b hb hn
     have hold : w.heap[b]? ≠ none := by
      have := h.inv.lt b t hb
      simp [this]
     subst hfl
     exact (h.unlent hold hn).2.2.1
    have ndCells : (fpCells (G'.lt t) 0 (eb.get t).cs).Nodup := by
     refine fpCells_nodup (fun j c' hc' => ?_) (fun j j' c' c'' b hne hc' hc'' hb hb' => ?_)
     ·rw [Nat.zero_add]
      rcases kind j c' hc' with ⟨r1, r2, r3⟩ | ⟨i, c, p, k, hx⟩
      ·rw [r3]
       cases hown : c'.isOwn with
       | false => rw [noOwn_ownB hown]; exact List.nodup_nil
       | true =>
        cases c' with
        | own rv sv d k l => exact (h.inv.ownBlocks r2).2.2
        | _ => simp [C.isOwn] at hown
      ·obtain ⟨z, c1', z1, z2, z3, rv0, sv, d, k00, l0, v0, r1, r2, r3⟩ := lentCell i c t j p k hx hnb
       rw [hc'] at z3
       simp only [Option.some.injEq] at z3
       subst z3
       rcases r3 with ⟨rfl, _⟩ | ⟨sv1, d1, k1, l1, d'', l0'', t1, rfl, t3, t4, t5, t6, t7, t8⟩
       ·exact List.nodup_nil
       ·exact t7
     ·rw [Nat.zero_add] at hb hb'
      rcases src j c' b hc' hb with ⟨x0, g1, g2, g3⟩ | ⟨i, c, p, k, x2, g1, g2, g3⟩
      ·rcases src j' c'' b hc'' hb' with ⟨y0, k1, k2, k3⟩ | ⟨i', c3, p', k', y2, k1, k2, k3⟩
       ·exact fpCells_disj (cells_nodup h.inv t) g1 k1 hne g2 k2
       ·obtain ⟨_, q2, q3⟩ := psd _ _ _ _ _ _ _ _ k1 k2 k3
        have := old b (ownT j x0 b g1 g2) g3 _ q2
        omega
      ·obtain ⟨_, q2, q3⟩ := psd _ _ _ _ _ _ _ _ g1 g2 g3
       rcases src j' c'' b hc'' hb' with ⟨y0, k1, k2, k3⟩ | ⟨i', c3, p', k', y2, k1, k2, k3⟩
       ·have := old b (ownT j' y0 b k1 k2) k3 _ q2
        omega
       ·obtain ⟨_, q4, q5⟩ := psd _ _ _ _ _ _ _ _ k1 k2 k3
        rw [q2] at q4
        simp only [Option.some.injEq] at q4
        have hii : i = i' := by omega
        subst hii
        by_cases hcc : c = c3
        ·subst hcc
         rw [← hF] at g1 k1
         obtain ⟨ls, _, m2, m3⟩ := mem_lendAt.1 g1
         obtain ⟨ls', _, m5, m6⟩ := mem_lendAt.1 k1
         dsimp only at m2 m3 m5 m6
         rw [m2] at m5
         simp only [Option.some.injEq] at m5
         subst m5
         rw [m3] at m6
         simp only [Option.some.injEq, Lend.cell.injEq] at m6
         exact hne m6.2.1
        ·exact fpCells_disj (cells_nodup h.inv2 (N + 2 * i)) g2 k2 hcc g3 k3
    have ownCells : ∀ b ∈ fpCells (G'.lt t) 0 (eb.get t).cs, G'.ow b = some t := by
     intro b hb
     obtain ⟨j, c', hc', hb⟩ := fpCells_of hb
     rw [Nat.zero_add] at hb
     rcases src j c' b hc' hb with ⟨x0, g1, g2, g3⟩ | ⟨i, c, p, k, x2, g1, g2, g3⟩
     ·rw [(owner b t (ownT j x0 b g1 g2) g3).2, if_neg fun g => hnr g.2]
     ·exact (psd _ _ _ _ _ _ _ _ g1 g2 g3).1
    have boxFree : ∀ bv, (e.get t).sh = .box bv → G.ow (G.bk t) = some t ∧ (∀ x ∈ fl, G.bk t ∉ blkL e G x.2.2) ∧ G.bk t ∉ fpCells (G'.lt t) 0 (eb.get t).cs := by
     intro bv hbv
     have hbf : G.bk t ∈ fpS G t (e.get t) := by simp only [fpS, hbv]; simp
     have hob := hS.own _ hbf
     have hnd := hS.nodup
     simp only [fpS, hbv, List.singleton_append, List.nodup_cons] at hnd
     have hfree : ∀ x ∈ fl, G.bk t ∉ blkL e G x.2.2 := by
      rintro ⟨i', c', l'⟩ hx hm
      have hin : LendIn e l' := by subst hfl; exact h.lends.inn _ hx
      have hs1 := blkL_ow h.inv hin hm
      rw [hob] at hs1
      simp only [Option.some.injEq] at hs1
      cases l' with
      | box s' =>
       simp only [Lend.slot] at hs1
       subst hs1
       exact hnb _ hx rfl
      | cell s' j' p' k' =>
       simp only [Lend.slot] at hs1
       subst hs1
       obtain ⟨cc, r1, r2⟩ := blkL_cell hin hm
       exact hnd.1 (fpCells_mem (i := 0) r1 (by simpa using r2))
     refine ⟨hob, hfree, fun hm => ?_⟩
     obtain ⟨j, c', hc', hb⟩ := fpCells_of hm
     rw [Nat.zero_add] at hb
     rcases src j c' _ hc' hb with ⟨x0, g1, g2, g3⟩ | ⟨i, c, p, k, x2, g1, g2, g3⟩
     ·exact hnd.1 (fpCells_mem (i := 0) g1 (by simpa using g2))
     ·obtain ⟨_, q2, q3⟩ := psd _ _ _ _ _ _ _ _ g1 g2 g3
      have := old _ hob hfree _ q2
      omega
    have hne : (e.get t).sh ≠ .dead → (eb.get t).sh ≠ .dead := fun q => by rw [c1]; exact q
    refine ⟨fun hn => ?_, fun bv' hbv => ?_, fun hd => ?_, fun hd j c' v hc' hv => ?_, fun hd j rv sv d k l hc' => ?_, ?_, ?_, fun hd => ?_⟩
    ·rw [hg, c1, hvs]; exact hS.form hn
    ·rw [hg, c1] at hbv
     obtain ⟨r1, ty, r2⟩ := hS.box bv' hbv
     obtain ⟨q1, q2, _⟩ := boxFree bv' hbv
     refine ⟨by rw [hg]; omega, ty, ?_⟩
     rw [hvs]
     show w1.heap[G.bk t]? = _
     rw [(owner _ t q1 q2).1]
     exact r2
    ·rw [hg, hvs, c3]; exact hS.len (by rw [hg, c1] at hd; exact hd)
    ·rw [hg] at hc'
     rw [hvs] at hv
     have hd' : (e.get t).sh ≠ .dead := by rw [hg, c1] at hd; exact hd
     rcases kind j c' hc' with ⟨r1, r2, r3⟩ | ⟨i, c, p, k, hx⟩
     ·rw [r3]
      exact (hS.cells hd' j c' v r2 hv).frame hTM hst fun b hb => (owner b t (ownT j c' b r2 hb) (freeU j c' b r2 hb fun p k => .inr fun x hx => r1 x hx p k)).1
     ·obtain ⟨z, c1', z1, z2, z3, rv0, sv, d, k00, l0, v0, r1, r2, r3⟩ := lentCell i c t j p k hx hnb
      rw [hc'] at z3
      simp only [Option.some.injEq] at z3
      subst z3
      rw [hv] at r2
      simp only [Option.some.injEq] at r2
      subst r2
      rcases r3 with ⟨rfl, _⟩ | ⟨sv1, d1, k1, l1, d'', l0'', t1, rfl, t3, t4, t5, t6, t7, t8⟩
      ·trivial
      ·exact ⟨t3, t8⟩
    ·rw [hg] at hc' ⊢
     have hd' : (e.get t).sh ≠ .dead := by rw [hg, c1] at hd; exact hd
     rcases kind j _ hc' with ⟨r1, r2, r3⟩ | ⟨i, c, p, k', hx⟩
     ·have := hS.vers hd' j rv sv d k l r2
      omega
     ·obtain ⟨z, c1', z1, z2, z3, rv0, sv', d', k00, l0, v0, r1, r2, r3⟩ := lentCell i c t j p k' hx hnb
      rw [hc'] at z3
      simp only [Option.some.injEq] at z3
      subst z3
      have hv0 := hS.vers hd' j rv0 sv' d' k00 l0 r1
      rcases r3 with ⟨hq, _⟩ | ⟨sv1, d1, k1, l1, d'', l0'', t1, hq, t3, t4, t5, t6, t7, t8⟩
      ·simp at hq
      ·simp only [C.own.injEq] at hq
       obtain ⟨rfl, rfl, _⟩ := hq
       omega
    ·rw [hg]
     simp only [fpS, c1]
     cases hsh : (e.get t).sh with
     | box bv =>
      simp only [List.singleton_append, List.nodup_cons]
      exact ⟨(boxFree bv hsh).2.2, ndCells⟩
     | dead => exact List.nodup_nil
     | _ => simpa using ndCells
    ·rw [hg]
     intro b hb
     simp only [fpS, c1, List.mem_append] at hb
     rcases hb with hb | hb
     ·cases hsh : (e.get t).sh with
      | box bv =>
       rw [hsh] at hb
       simp only [List.mem_singleton] at hb
       obtain ⟨q1, q2, _⟩ := boxFree bv hsh
       have hbG : b = G.bk t := hb
       rw [hbG, (owner _ t q1 q2).2, if_neg fun g => hnr g.2]
      | _ => rw [hsh] at hb; simp at hb
     ·refine ownCells b ?_
      cases hsh : (e.get t).sh with
      | dead => rw [hsh] at hb; simp at hb
      | _ => rw [hsh] at hb; exact hb
    ·rw [hg] at hd ⊢
     rw [c1] at hd
     have := hS.dead hd
     rw [this] at c3
     exact List.eq_nil_of_length_eq_zero (by simpa using c3)
   ·
    have hnl : ∀ x ∈ fl, x.2.2.slot ≠ t := fun x hx q => hc ⟨x, hx, q⟩
    have hgv : gv = true ∧ t ∈ rt := ht.resolve_left hc
    exact give_slot h.inv (by rw [hget, if_pos hgv]) (vsN t hnb) (fun j => ltOut_rest hnb (nlCell t j hnl)) rfl hTM hst (fun b hb => by
     obtain ⟨q1, q2⟩ := owner b t hb (notLent b t hb hnl)
     exact ⟨q1, by rw [q2, if_pos hgv]⟩)
 ·have hb' : owOut2 w e G fl G2 N H rt gv e.length b = some t := hb
  unfold owOut2 at hb'
  split at hb'
  ·rename_i hm
   exact (h.hand b hm).2.2.1
  ·split at hb'
   ·split at hb'
    ·simp at hb'
    ·rename_i s' hs'
     exact Nat.lt_of_lt_of_le (h.inv.lt b s' hs') h.size
   ·cases hg2 : G2.ow b with
    | none => rw [hg2] at hb'; simp at hb'
    | some u => exact h.inv2.lt b u hg2
 ·
  refine ⟨fun hpar => ?_, rfl⟩
  have hnb : ∀ x ∈ fl, x.2.2 ≠ .box s := by
   intro x hx hl
   subst hfl
   rcases h.odd x hx s hl with g | g <;> omega
  refine ⟨vsN s hnb, fun j => ?_⟩
  by_cases hlc : ∃ i c p k, (i, c, Lend.cell s j p k) ∈ fl
  ·obtain ⟨i, c, p, k, hx⟩ := hlc
   obtain ⟨z, c1', z1, z2, z3, rv0, sv, d, k00, l0, v0, r1, r2, r3⟩ := lentCell i c s j p k hx hnb
   rcases r3 with ⟨_, q0⟩ | ⟨sv1, d1, k1, l1, d'', l0'', t1, rfl, t3, t4, t5, t6, t7, t8⟩
   ·show hdOf (G'.lt s j) = _
    rw [q0]
   ·exact t5
  ·have hno : ∀ x ∈ fl, ∀ p k, x.2.2 ≠ .cell s j p k := by
    rintro ⟨i, c, l⟩ hx p k hl
    dsimp only at hl
    subst hl
    exact hlc ⟨i, c, p, k, hx⟩
   have : G'.lt s j = G.lt s j := ltOut_rest hnb hno
   show hdOf (G'.lt s j) = _
   rw [this]
 ·have hnl : ∀ x ∈ fl, x.2.2.slot ≠ t := by
   intro x hx q
   subst hfl
   have := h.slotlt x hx
   omega
  obtain ⟨q1, q2⟩ := owner b t h1 (notLent b t h1 hnl)
  exact ⟨q1, by
   show G'.ow b = some t
   rw [q2, if_neg fun g => by have := h.rtlt t g.2; omega]⟩
end called
end Go.Mach
namespace Go.Mach
set_option linter.unusedVariables false
set_option linter.unusedSimpArgs false
theorem run_call {P : Program} {ρ : Operand → Value} {o : Oper} {c0 : Call} {f : Operand} (ho : o.op = .call c0) (hcf : c0.callee = .value f) {g : Nat} {caps : Array Value} (hf : ρ f = .func (.func g) #[] caps) {fn : Func}
  (hfn : P.funcs[g]? = some fn) (hb : fn.body.isNone = false) (hname : (fn.name == "runtime.NumGoroutine") = false) (w : World) : (execOp ρ o).run P w = .ok (.enter g (c0.args.map ρ ++ caps)) w := by
 have h1 : fn.name ≠ "runtime.NumGoroutine" := by simpa using hname
 have h2 : fn.body ≠ none := fun q => by rw [q] at hb; simp at hb
 simp only [execOp, ho, resolve, hcf, hf, Deferred.ofValue, invoke, callFunc, program]
 simp [Sem.run_bind, Sem.run, hfn, h1, h2]
theorem snap_sees {get : Nat → Slot} {e : Env} (hs : Sees get e) {c c' : C} (h : snap get c = some c') : ∀ s ∈ c.targets, get s = e.get s := by
 intro s hm
 rcases hs s with q | q
 ·exact q
 ·exfalso
  cases c with
  | ref s' j rv sv p lo hi k =>
   simp only [C.targets, List.mem_singleton] at hm
   subst hm
   simp [snap, content, q] at h
  | bptr s' bv j =>
   simp only [C.targets, List.mem_singleton] at hm
   subst hm
   simp [snap, q] at h
  | aptr s' j rv sv p i c k => simp [snap] at h
  | fn f caps => simp [snap] at h
  | _ => simp [C.targets] at hm
theorem sees_sent {t : Tr} {e : Env} (hs : Sees t.at e) : ∀ {cs cs' : List C}, sendCs t [] cs = some cs' → ∀ c ∈ cs, ∀ s ∈ readCell [] c, t.at s = e.get s
 | [], cs', h, c, hc => by simp at hc
 | a :: r, cs', h, c, hc => by
  simp only [sendCs] at h
  split at h
  ·rename_i c1 r1 h1 h2
   simp only [List.mem_cons] at hc
   rcases hc with rfl | hc
   ·intro s hm
    cases c with
    | fn f caps =>
     simp only [sendC] at h1
     cases hq : sendCaps t [] caps with
     | none => rw [hq] at h1; simp at h1
     | some caps' =>
      rw [readCell_nil] at hm
      simp only [List.mem_flatMap] at hm
      obtain ⟨c, k1, k2⟩ := hm
      obtain ⟨g1, g2⟩ := sendCaps_get hq
      obtain ⟨i, hi⟩ := List.getElem?_of_mem k1
      have hil : i < caps'.length := by rw [g1]; exact (List.getElem?_eq_some_iff.1 hi).1
      refine snap_sees hs (g2 i c _ hi (List.getElem?_eq_getElem hil)) s ?_
      cases c <;> first | exact k2 | simpa [C.targets] using k2
    | _ => exact snap_sees (get := t.at) hs (by simpa only [sendC] using h1) s (by simpa only [readCell] using hm)
   ·exact sees_sent hs h2 c hc
  ·simp at h
theorem opds_args {n : Nat} {e : Env} {a : Act} {w : World} {G : Gh} {get : Nat → Slot} (hinv : Inv n e a.tmps w G) (hs : Sees get e) : ∀ {ys : List Operand} {vs : List Val}, (∀ y ∈ ys, ∀ t, y = .tmp t → t < n) → opds get ys = some vs → ArgsOk e w G vs (ys.map a.eval)
 | [], vs, _, h => by
  rw [opds_nil h]
  exact ⟨rfl, fun i v u q => by simp at q⟩
 | y :: r, vs, hb, h => by
  obtain ⟨v, vs', rfl, h1, h2⟩ := opds_cons h
  obtain ⟨g1, g2⟩ := opds_args hinv hs (fun y hy => hb y (by simp [hy])) h2
  refine ⟨by simpa using g1, fun i v0 u0 q1 q2 => ?_⟩
  cases i with
  | zero =>
   simp only [List.map_cons, List.getElem?_cons_zero, Option.some.injEq] at q1 q2
   subst q1 q2
   exact opd_ok hinv hs (hb y (by simp)) h1
  | succ i => exact g2 i v0 u0 (by simpa using q1) (by simpa using q2)
theorem caps_args {e : Env} {w : World} {G : Gh} {caps : List C} {us : List Value} {Ls : Nat → LT} (hl : us.length = caps.length)
  (h : ∀ (i : Nat) c u, caps[i]? = some c → us[i]? = some u → c.isFn = false ∧ c.isOwn = false ∧ CellOk0 e w G c u (Ls i)) : ArgsOk e w G (caps.map fun c => (.one, [c])) us := by
 refine ⟨by simpa using hl, fun i v u hv hu => ?_⟩
 simp only [List.getElem?_map] at hv
 cases hc : caps[i]? with
 | none => rw [hc] at hv; simp at hv
 | some c =>
  rw [hc] at hv
  simp only [Option.map_some, Option.some.injEq] at hv
  subst hv
  obtain ⟨h1, h2, h3⟩ := h i c u hc hu
  refine ⟨[u], fun _ => Ls i, ⟨⟨rfl, fun j c' u' a b => ?_⟩, rfl, by simpa using h2, by simp, by simp⟩⟩
  cases j with
  | zero =>
   simp only [List.getElem?_cons_zero, Option.some.injEq] at a b
   subst a b
   cases c <;> first | exact h3 | simp [C.isFn] at h1
  | succ j => simp at a
theorem ArgsOk.append {e : Env} {w : World} {G : Gh} {a b : List Val} {us ws : List Value} (h : ArgsOk e w G a us) (h' : ArgsOk e w G b ws) : ArgsOk e w G (a ++ b) (us ++ ws) := by
 refine ⟨by simp [h.1, h'.1], fun i v u hv hu => ?_⟩
 by_cases hi : i < a.length
 ·rw [List.getElem?_append_left hi] at hv
  rw [List.getElem?_append_left (by rw [h.1]; exact hi)] at hu
  exact h.2 i v u hv hu
 ·rw [List.getElem?_append_right (by omega)] at hv
  rw [List.getElem?_append_right (by rw [h.1]; omega), h.1] at hu
  exact h'.2 _ v u hv hu
theorem lends_seen {e : Env} {t : Tr} (hs : Sees t.at e) {md : List Bool} {args : List Val} {q : Sent} (hsend : send t md [] 0 args = some q) : ∀ x ∈ lendAt 0 q.lends, t.at x.2.2.slot = e.get x.2.2.slot := by
 rintro ⟨i, c, l⟩ hx
 obtain ⟨g1, g2, g3⟩ := send_get hsend
 obtain ⟨ls, _, h2, h3⟩ := mem_lendAt.1 hx
 dsimp only at h2 h3 ⊢
 rw [Nat.sub_zero] at h2
 have hil : i < args.length := by rw [← g2]; exact (List.getElem?_eq_some_iff.1 h2).1
 obtain ⟨v, hv⟩ : ∃ v, args[i]? = some v := ⟨_, List.getElem?_eq_getElem hil⟩
 obtain ⟨v', hv'⟩ : ∃ v', q.vals[i]? = some v' := ⟨_, List.getElem?_eq_getElem (by rw [g1]; exact hil)⟩
 rcases g3 i v v' ls hv hv' h2 with ⟨_, _, _, rfl⟩ | ⟨hm, s', bv, cs, rfl, hsh, hob, rfl, rfl⟩ | ⟨hm, hsh, hlc⟩
 ·simp at h3
 ·cases c with
  | zero =>
   simp only [List.getElem?_cons_zero, Option.some.injEq] at h3
   subst h3
   exact sees_box hs hsh
  | succ c => simp at h3
 ·obtain ⟨l1, l2, l3⟩ := lendCells_get hlc
  have hcl : c < v.2.length := by rw [← l2]; exact (List.getElem?_eq_some_iff.1 h3).1
  obtain ⟨a, ha⟩ : ∃ a, v.2[c]? = some a := ⟨_, List.getElem?_eq_getElem hcl⟩
  obtain ⟨a', ha'⟩ : ∃ a', v'.2[c]? = some a' := ⟨_, List.getElem?_eq_getElem (by rw [l1]; exact hcl)⟩
  rcases l3 c a a' _ ha ha' h3 with ⟨_, _, _, _, hn, _⟩ | ⟨s', j', rv, sv, p', k', rv', sv', d, k0, l0, x, rfl, hat, rfl, hp, hcast, rfl, hl⟩
  ·simp at hn
  ·simp only [Option.some.injEq] at hl
   subst hl
   simp only [Lend.slot]
   rcases hs s' with g | g
   ·exact g
   ·rw [g] at hat; simp at hat
theorem map_getD_dead (l : List C) (c : Nat) : (l.map outC).getD c .dead = outC (l.getD c .dead) := by
 simp only [List.getD_eq_getElem?_getD, List.getElem?_map]
 cases l[c]? <;> rfl
theorem call_sound {P : Program} [Tabs P] {x : Ctx} {bk : Book} (hover : Over x bk) (hbk : BookOk P bk) {e : Env} {a : Act} {w : World} {G : Gh} {get : Nat → Slot} {o : Oper} {c0 : Call} {f : Operand} {g : Nat} {caps : List C} {vs : List Val} {t2 : Tr}
  (hb : Begin x.n e a w G get o) (hlaid : Laid P w G) (ho : o.op = .call c0) (hcf : c0.callee = .value f) (hf : opd get f = some (.one, [.fn g caps])) (hvs : opds get c0.args.toList = some vs)
  (hc : callC x { get, d := o.dst } o.dst g (vs ++ caps.map fun c => (.one, [c])) = some t2) : Sound P x.n e a w G o t2.ws := by
 obtain ⟨Lf, hfn, _⟩ := hb.one (by simp [ho, Op.operands, Call.operands, hcf]) hf
 obtain ⟨ucaps, Lcaps, hfv, hcl, hcc⟩ := hfn
 have hargs : ArgsOk e w G (vs ++ caps.map fun c => (.one, [c])) (c0.args.toList.map a.eval ++ ucaps) :=
  (opds_args hb.inv hb.sees (fun y hy => hb.inb.opd (by
   have : y ∈ c0.args := by simpa using hy
   simp [ho, Op.operands, Call.operands, hcf, this])) hvs).append (caps_args hcl hcc)
 generalize hA : (vs ++ caps.map fun c => ((.one, [c]) : Val)) = args at hargs hc
 generalize hU : c0.args.toList.map a.eval ++ ucaps = us at hargs
 simp only [callC, hover.md] at hc
 cases hsend : send { get, d := o.dst } (bk.md g) [] 0 args with
 | none => rw [hsend] at hc; simp at hc
 | some q =>
  rw [hsend] at hc
  simp only at hc
  obtain ⟨s1, s2, s3⟩ := send_get hsend
  split at hc
  ·rename_i hchk
   simp only [Bool.and_eq_true] at hchk
   obtain ⟨⟨⟨hap, hsrc⟩, hodd⟩, hdisj⟩ := hchk
   cases hsem : x.sem g q.vals with
   | none => rw [hsem] at hc; simp at hc
   | some r =>
    obtain ⟨⟨sh, cs⟩, os⟩ := r
    rw [hsem] at hc
    simp only at hc
    have hsem' := hsem
    rw [hover.sem, Book.sem] at hsem'
    obtain ⟨t, ⟨hN, fn, hfn, hbody, hname, hrv, hcall⟩, htmd, d, bT, hdec, hT, hret⟩ := semD_ok hbk hsem'
    rw [← htmd] at hsend hc hdisj s3
    have hdl := decA_okM hdec
    have hql : q.vals.length = t.args.length := hdl.1
    have hlen : args.length = t.args.length := by rw [← s1, hql]
    generalize hrtd : readTargets t.md [] 0 args = rt at hc hdisj
    have hsees : Sees (Tr.at { get, d := o.dst }) e := fun s => hb.sees s
    have hdis : ∀ z ∈ lendAt 0 q.lends, z.2.2.slot ∉ rt := by
     intro z hz hm
     simp only [disjoint, List.all_eq_true, Bool.not_eq_true'] at hdisj
     have := hdisj z.2.2.slot (List.mem_map.2 ⟨z, hz, rfl⟩)
     simp [hm] at this
    have hlin := lends_in hb.inv hsees hargs hsend
    have hsrc' : ∀ x ∈ lendAt 0 q.lends, ∀ y ∈ lendAt 0 q.lends, x.1 = y.1 → x.2.2.slot = y.2.2.slot := by
     intro z hz y hy hzy
     simp only [oneSrc, List.all_eq_true, Bool.or_eq_true, Bool.not_eq_true'] at hsrc
     rcases hsrc z hz y hy with g | g
     ·have : Nat.beq z.1 y.1 = true := by rw [Nat.beq_eq]; exact hzy
      rw [this] at g; simp at g
     ·rwa [Nat.beq_eq] at g
    have hlends : LendsOk e (lendAt 0 q.lends) rt t.args.length := ⟨fun z hz => (hlin z hz).1, hap, hsrc', hdis, fun z hz => by rw [← hlen]; exact (hlin z hz).2⟩
    obtain ⟨Gc, hi0, how0, hstart⟩ := start_lend hb.inv hsees hargs hsend (N := t.n) (by omega) (rt := rt) (fun s hs => by rw [← hrtd]; exact hs) (by rw [hlen]; exact hlends) (t.n + 2 * t.args.length)
    have hnr := send_refAt hsend
    obtain ⟨Gc', hi1, hh1⟩ := gen_inv hi0 (decA_genM hdec (by omega) hnr) (t.n + 2 * t.args.length)
    have husl : us.length = t.args.length := by rw [hargs.1, hlen]
    have hread : ∀ s ∈ rt, s < e.length ∧ Tr.at { get, d := o.dst } s = e.get s := by
     intro s hs
     rw [← hrtd] at hs
     obtain ⟨i, v, hi, hm, hsv⟩ := readTargets_of hs
     rw [Nat.zero_add] at hm
     simp only [List.mem_flatMap] at hsv
     obtain ⟨c, hcv, hs⟩ := hsv
     have hil : i < us.length := by rw [hargs.1]; exact (List.getElem?_eq_some_iff.1 hi).1
     obtain ⟨vs', Ls', hval⟩ := hargs.2 i v _ hi (List.getElem?_eq_getElem hil)
     obtain ⟨j, hj⟩ := List.getElem?_of_mem hcv
     have hjl : j < vs'.length := by rw [hval.cells.len]; exact (List.getElem?_eq_some_iff.1 hj).1
     refine ⟨targets_lt (hval.cells.cell j c _ hj (List.getElem?_eq_getElem hjl)) s hs, ?_⟩
     have hia : i < args.length := (List.getElem?_eq_some_iff.1 hi).1
     rcases s3 i v _ _ hi (List.getElem?_eq_getElem (by omega)) (List.getElem?_eq_getElem (by omega)) with ⟨_, _, g, _⟩ | ⟨g, _⟩ | ⟨g, _⟩
     ·exact sees_sent hsees g c hcv s hs
     ·rw [Nat.zero_add, hm] at g; simp at g
     ·rw [Nat.zero_add, hm] at g; simp at g
    intro K Q hk
    unfold Oper.wp
    rw [run_call ho hcf hfv hfn hbody hname]
    rw [Oper.upon_enter]
    have hus : c0.args.map a.eval ++ ucaps.toArray = us.toArray := by
     rw [← hU]; simp
    rw [hus]
    have hlaid1 : Laid P w Gc' := by
     refine Laid.still (G := Gc) (fun z hz => ?_) hh1.still
     obtain ⟨z1, z2⟩ := hlaid z hz
     exact ⟨z1, by rw [how0]; exact owL_none hb.inv hlends z2⟩
    refine (hcall d bT hT (by rw [hret]; rfl) us w Gc' husl hi1 hlaid1).mono ?_
    rintro en w1 ⟨tm1, G1, u1, rfl, hrun1, hi2, hh2, hsz, hle, henv⟩
    have hh := hh1.trans hh2
    obtain ⟨e2, G2, H, us', Ls, bk, hr, houts⟩ := ret_ok hrv hi2 hret
    have hext := hr.held
    rw [hle] at hext
    obtain ⟨u1', u2'⟩ := outs_get houts
    rw [encA_length] at u1'
    generalize hgvd : ((cs.any C.aliases || os.any fun x => x.any C.aliases) : Bool) = gv at hc
    have hargE : ∀ i, i < args.length → ∃ v v' w', args[i]? = some v ∧ q.vals[i]? = some v' ∧ (encA t.args d)[i]? = some w' ∧ w'.1 = v'.1 := by
     intro i hi
     have h1 : i < q.vals.length := by omega
     have h2 : i < (encA t.args d).length := by rw [encA_length]; omega
     refine ⟨_, _, _, List.getElem?_eq_getElem hi, List.getElem?_eq_getElem h1, List.getElem?_eq_getElem h2, ?_⟩
     exact (hdl.2 i _ _ (List.getElem?_eq_getElem h1) (List.getElem?_eq_getElem h2)).1
    have hC : Called x.n t.n t.args.length e a.tmps w G q rt Gc e2 tm1 w1 G2 H os gv := by
     refine ⟨hb.inv, hlends, fun s hs => (hread s hs).1, hstart, how0, hr.inv, hh.trans hext, hsz, fun b hbH => ?_, fun i c s j p k hx => ?_, fun i c s hx => ?_, fun i c hcm hal => ?_, fun z hz s hzs => ?_⟩
     ·obtain ⟨k1, k2, k3, k4⟩ := hr.hand.mem b hbH
      refine ⟨k1, k2, k3, fun u hu => ?_⟩
      have := hr.owner b hbH u hu
      rw [hr.len2, hle] at this
      exact this
     ·obtain ⟨v, v', rv, sv, sv', d', k0, l0, y, hcs⟩ := lent_cell hsees hsend hx
      have hil := (List.getElem?_eq_some_iff.1 hcs.arg).1
      obtain ⟨va, va', wa, e1, e2', e3', e4⟩ := hargE i hil
      rw [hcs.arg] at e1
      rw [hcs.val] at e2'
      simp only [Option.some.injEq] at e1 e2'
      subst e1 e2'
      obtain ⟨vs', Ls', hval⟩ := hargs.2 i v _ hcs.arg (List.getElem?_eq_getElem (by rw [hargs.1]; exact hil))
      have hol : i < os.length := by omega
      have := (u2' i wa _ e3' (List.getElem?_eq_getElem hol) (by rw [Nat.zero_add]; exact hcs.md)).2 (fun bv => by rw [e4, hcs.sh]; exact hval.sh bv)
      rw [Nat.zero_add] at this
      rw [show os.getD i [] = os[i] by simp [List.getD_eq_getElem?_getD, List.getElem?_eq_getElem hol], this, map_getD_dead]
     ·obtain ⟨_, bv, cs', hbs⟩ := lent_box hsees hsend hx
      have hil := (List.getElem?_eq_some_iff.1 hbs.arg).1
      obtain ⟨va, va', wa, e1, e2', e3', e4⟩ := hargE i hil
      rw [hbs.val] at e2'
      simp only [Option.some.injEq] at e2'
      subst e2'
      have hol : i < os.length := by omega
      have := (u2' i wa _ e3' (List.getElem?_eq_getElem hol) (by rw [Nat.zero_add]; exact hbs.md)).1 0 e4
      rw [Nat.zero_add] at this
      rw [show os.getD i [] = os[i] by simp [List.getD_eq_getElem?_getD, List.getElem?_eq_getElem hol]]
      exact this
     ·rw [← hgvd, Bool.or_eq_true]
      right
      rw [List.any_eq_true]
      refine ⟨os.getD i [], ?_, List.any_eq_true.2 ⟨c, hcm, hal⟩⟩
      rcases Nat.lt_or_ge i os.length with g | g
      ·rw [show os.getD i [] = os[i] by simp [List.getD_eq_getElem?_getD, List.getElem?_eq_getElem g]]
       exact List.getElem_mem g
      ·rw [show os.getD i [] = [] by simp [List.getD_eq_getElem?_getD, List.getElem?_eq_none g]] at hcm
       simp at hcm
     ·simp only [oddB, List.all_eq_true] at hodd
      have := hodd z hz
      rw [hzs] at this
      simp only [Bool.or_eq_true, Nat.blt_eq, Nat.beq_eq] at this
      exact this
    cases hback : backAll os { get, d := o.dst } (lendAt 0 q.lends) with
    | none => rw [hback] at hc; simp at hc
    | some t1 =>
     rw [hback] at hc
     simp only [Option.some.injEq] at hc
     have htr : TrOk e { get, d := o.dst } e := hb.tr
     obtain ⟨eb, b1, b2, b3, b4⟩ := back_env os htr hap (fun z hz => ⟨hC.slotlt z hz, lends_seen hsees hsend z hz⟩) hback
     have hrd : ∀ s ∈ rt, eb.get s = e.get s := fun s hs => b3.rest s fun z hz q => hdis z hz (by rw [q]; exact hs)
     obtain ⟨e3, t3, ht3, hl3, hd3, hget3, hback3⟩ : ∃ e3 t3, TrOk e t3 e3 ∧ e3.length = e.length ∧ t3.d = o.dst ∧ (∀ s, e3.get s = if gv = true ∧ s ∈ rt then giveS (e.get s) else eb.get s) ∧ t2 = t3.lay o.dst (sh, cs) := by
      cases gv with
      | false =>
       simp only [Bool.false_eq_true, if_false] at hc
       exact ⟨eb, _, b1, b3.len, b2, fun s => by simp, hc.symm⟩
      | true =>
       simp only [if_true] at hc
       have hat : ∀ s ∈ rt, s < eb.length ∧ t1.at s = eb.get s := by
        intro s hs
        obtain ⟨r1, r2⟩ := hread s hs
        refine ⟨by rw [b3.len]; exact r1, ?_⟩
        rw [b4 s fun z hz q => hdis z hz (by rw [q]; exact hs), hrd s hs]
        exact r2
       obtain ⟨e', g1, g2, g3, g4⟩ := give_env (rt := rt) b1 hat
       refine ⟨e', _, g1, by rw [g2, b3.len], by rw [g3, b2], fun s => ?_, hc.symm⟩
       rw [g4 s]
       by_cases hs : s ∈ rt
       ·simp [hs, hrd s hs]
       ·simp [hs]
     obtain ⟨hi3, hh3⟩ := hC.back b3 hl3 hget3
     have hal : ∀ c ∈ cs, c.aliases = true → gv = true := fun c hcm q => by
      rw [← hgvd, Bool.or_eq_true]
      exact .inl (List.any_eq_true.2 ⟨c, hcm, q⟩)
     have hcell : ∀ (j : Nat) c u, cs[j]? = some c → us'[j]? = some u → NewOk e3 w1 (ghOut w e eb G (lendAt 0 q.lends) G2 t.n H rt gv) w1 H c u (Ls j) := by
      intro j c u hcj huj
      have hres := hr.cell j c u hcj huj
      have hmem := List.mem_of_getElem? hcj
      cases c with
      | dat k y =>
       obtain ⟨r1, r2⟩ := hres
       exact ⟨r1, fun b hb' => hC.nobody (r2 b hb') (.inl (hal _ hmem (alias_dat hb')))⟩
      | nil => exact hres
      | own rv sv d' k l =>
       obtain ⟨r1, r2⟩ := hres
       exact ⟨r1, fun hd b hb' => ⟨hC.nobody (r2 hd b hb') (.inl (hal _ hmem (alias_inner hd hb'))), fun hm => (hC.hand b hm).2.1 (r2 hd b hb')⟩⟩
      | fn f' caps' =>
       cases caps' with
       | nil =>
        have hu : u = .func (.func f') #[] #[] := hres
        exact ⟨[], fun _ => .leaf, by rw [hu], rfl, fun i c u q => by simp at q⟩
       | cons _ _ => exact hres.elim
      | _ => exact hres.elim
     have hout : ∀ b ∈ H, ∀ u, G.ow b = some u → u < e.length := by
      intro b hbH u hu
      rcases Nat.lt_or_ge u e.length with g | g
      ·exact g
      ·exfalso
       have hold : w.heap[b]? ≠ none := by
        have := hb.inv.lt b u hu
        simp [this]
       exact (hC.unlent hold (hC.notLent hu fun z hz q => by have := hC.slotlt z hz; omega)).2.1 hbH
     have hloose : ∀ b ∈ H, Loose e3 (ghOut w e eb G (lendAt 0 q.lends) G2 t.n H rt gv) b ∧ (ghOut w e eb G (lendAt 0 q.lends) G2 t.n H rt gv).ow b ≠ none ∧ b < w1.heap.size ∧ ∀ u, G.ow b = some u → u < e.length := by
      intro b hbH
      have hob : (ghOut w e eb G (lendAt 0 q.lends) G2 t.n H rt gv).ow b = some e.length := by simp [ghOut, owOut2, hbH]
      exact ⟨hi3.beyond hob (by omega), by rw [hob]; simp, (hC.hand b hbH).2.2.1, hout b hbH⟩
     obtain ⟨G', hp⟩ := lay_res (v := (sh, cs)) hi3 ht3 hh3 hloose hr.len hcell hr.fp hr.hand.nodup hr.alive hr.box hsz
      (fun b hb0 hold hm => (hC.unlent hold (fun z hz hmz => by rw [blkL_ow hb.inv (hlends.inn z hz) hmz] at hb0; simp at hb0)).2.1 hm) (fun d' hd' => hb.inb.dst d' (by rw [← hd3]; exact hd')) henv
     rw [hd3, ← hback3] at hp
     have hres : u1 = resForm sh us' bk := by
      have := hrun1.symm.trans hr.res
      simpa using this
     simp only at hp
     rw [← hres] at hp
     exact hk _ _ _ hp
  ·simp at hc
def PC.al : PC → Bool
 | .dat k => !k.flat
 | .own false k => !k.flat
 | _ => false
def FEnt.al (t : FEnt) : Bool := t.md.isEmpty && t.out.ps.any fun p => p.cs.any PC.al
def alOf (bk : Book) (f : Nat) : Bool := bk.any fun q => Nat.beq q.1 f && q.2.al
def gvOf (bk : Book) (c : Code) : List Nat := match bk.any fun q => q.2.al with
 | true => gvCode (alOf bk) c
 | false => []
def ctxOf (P : Program) (fn : Func) (bk : Book) : Ctx :=
 { n := fn.ntmps, ty := tyOf P, vars := (match fn.body with | some c => List.range (fn.params.size + fn.nfree) ++ codeVars c ++ (List.range (2 * (fn.params.size + fn.nfree))).map (fn.ntmps + ·) | none => []), rs := fn.results.toList.map (fun | .tmp t => t | .cell a _ => a), vr := [], md := bk.md, gv := (match fn.body with | some c => gvOf bk c | none => []), sem := bk.sem }
theorem ctxOf_ok {P : Program} [Tabs P] {fn : Func} {bk : Book} (hbk : BookOk P bk)
  (hagg : ∀ {e : Env} {a : Act} {w : World} {G : Gh} {get : Nat → Slot} {o : Oper} {op : BinOp} {ty yt : TypeId} {y z : Operand} {cs ds : List C} {ws : Writes},
   Begin fn.ntmps e a w G get o → o.op = .binOp op ty y z yt → opd get y = some (.agg, cs) → opd get z = some (.agg, ds) → act (ctxOf P fn bk) get o = some ws → Sound P fn.ntmps e a w G o ws) : CtxOk P (ctxOf P fn bk) :=
 ⟨fun _ => rfl, fun hb hlaid ho hcf hf hvs hc => call_sound ⟨rfl, rfl⟩ hbk hb hlaid ho hcf hf hvs hc, fun hb ho h1 h2 h => hagg hb ho h1 h2 h⟩
def finK {n : Nat} (out : EP) : Ex → Env → Option out.T
 | .exit _, _ => none
 | _, e => out.dec n e
theorem fnOk_of_run {P : Program} [Tabs P] {f : Nat} {fn : Func} {c : Code} {bk : Book} {tb : Tab} {t : FEnt} (hx : CtxOk P (ctxOf P fn bk)) (hf : P.funcs[f]? = some fn) (hb : fn.body = some c) (hn : fn.ntmps = t.n)
  (hres : rvsB P fn.results.toList t.results = true) (hargs : t.args.length ≤ t.n) (hsz : t.n ≤ 1000000) (hname : (fn.name == "runtime.NumGoroutine") = false)
  (hm : P.follows .mixedOrders = true) (hnodes : Nodes (ctxOf P fn bk) bk tb c tb)
  (hrun : ∀ d, runD (ctxOf P fn bk) bk tb 1 c (startE t.n t.md (encA t.args d)) (finK (n := t.n) t.out) = t.T d) : FnOk P f t := by
 refine ⟨hargs, fn, hf, by rw [hb]; rfl, hname, hres, fun d b hT hret us w G hus hi hlaid => ?_⟩
 have hctxn : (ctxOf P fn bk).n = t.n := hn
 refine calls_of_wp hf hb ?_
 rw [hn] at *
 have hsl := (startE_slots (n := t.n) (md := t.md) (vals := encA t.args d) (by rw [encA_length]; exact hargs)).1
 rw [encA_length] at hsl
 have hr := (runD_both hx ⟨rfl, rfl⟩ (by rw [hctxn]; exact hsz) hm hnodes c 1 (Nat.le_refl _) rfl).1 _ _ _ b ((hrun d).trans hT)
  { tmps := us.toArray ++ Array.replicate (t.n - us.length) undef, defers := [] } w G (by rw [hctxn]; exact hi) hlaid
 have hsub : sub c 1 = c := rfl
 refine hr _ fun ex e' a' w' G' hK hl hp => ?_
 have hend : ∀ ex', t.out.dec t.n e' = some b → (ex' = Exit.normal ∨ ex' = Exit.ret) → bodyPost P fn (fun en w' => ∃ tm1 G1 u, en = .returned u ∧ (results fn tm1).run P w' = .ok u w' ∧ Inv t.n (t.out.enc b) tm1 w' G1 ∧ Held t.n (t.n + 2 * t.args.length) w w' G G1 ∧ w.heap.size ≤ w'.heap.size ∧ (t.out.enc b).length = t.n + 2 * t.args.length ∧ SameEnv w w') ex' a' w' := by
  intro ex' hd hex
  have hinv := hp.inv
  rw [hctxn] at hinv
  obtain ⟨l1, G2, hi2, hh2⟩ := EP.dec_ok hd hinv e'.length (Nat.le_refl _)
  have hheld := hp.held
  rw [hctxn] at hheld
  have hl' : e'.length = t.n + 2 * t.args.length := by rw [hl, hsl]
  have hq : a'.defers = [] ∧ ∃ v, (results fn a'.tmps).run P w' = .ok v w' ∧ (fun en w' => ∃ tm1 G1 u, en = Ending.returned u ∧ (results fn tm1).run P w' = .ok u w' ∧ Inv t.n (t.out.enc b) tm1 w' G1 ∧ Held t.n (t.n + 2 * t.args.length) w w' G G1 ∧ w.heap.size ≤ w'.heap.size ∧ (t.out.enc b).length = t.n + 2 * t.args.length ∧ SameEnv w w') (.returned v) w' := by
   obtain ⟨⟨⟨sh0, cs0⟩, os0⟩, hr0⟩ := Option.isSome_iff_exists.1 hret
   obtain ⟨_, _, _, us0, _, _, hr1, _⟩ := ret_ok hres hi2 hr0
   refine ⟨hp.defers, _, hr1.res, a'.tmps, G2, _, rfl, hr1.res, hi2, ?_, hp.grows, by rw [l1, hl'], hp.env⟩
   have := hheld.trans hh2
   rw [hl'] at this
   exact this
  rcases hex with rfl | rfl
  ·exact hq
  ·exact hq
 cases ex with
 | normal => exact hend .normal hK (.inl rfl)
 | ret => exact hend .ret hK (.inr rfl)
 | exit id => simp [finK] at hK
end Go.Mach
namespace Go.Mach
set_option linter.unusedVariables false
set_option linter.unusedSimpArgs false
theorem sameCs_cons {c : C} {cs es : List C} {b : Bool} (h : sameCs (c :: cs) es = some b) : ∃ k p q ds b', c = .dat (.int k) p ∧ es = .dat (.int k) q :: ds ∧ sameCs cs ds = some b' ∧ b = ((p == q) && b') := by
 cases es with
 | nil => cases c with
  | dat k x => cases k <;> simp [sameCs] at h
  | _ => simp [sameCs] at h
 | cons d ds =>
  cases c with
  | dat k x =>
   cases k with
   | int k =>
    cases d with
    | dat k' y =>
     cases k' with
     | int k' =>
      simp only [sameCs] at h
      split at h
      ·rename_i hk
       subst hk
       cases hq : sameCs cs ds with
       | none => rw [hq] at h; simp at h
       | some r =>
        rw [hq] at h
        simp only [Option.map_some, Option.some.injEq] at h
        exact ⟨_, _, _, _, _, rfl, rfl, hq, h.symm⟩
      ·simp at h
     | _ => simp [sameCs] at h
    | _ => simp [sameCs] at h
   | _ => simp [sameCs] at h
  | _ => simp [sameCs] at h
theorem sameCs_nil {es : List C} {b : Bool} (h : sameCs [] es = some b) : es = [] ∧ b = true := by
 cases es with
 | nil => simp only [sameCs, Option.some.injEq] at h; exact ⟨rfl, h.symm⟩
 | cons d ds => simp [sameCs] at h
theorem sameCs_len : ∀ {cs ds : List C} {b : Bool}, sameCs cs ds = some b → ds.length = cs.length
 | [], ds, b, h => by rw [(sameCs_nil h).1]
 | c :: cs, ds, b, h => by
  obtain ⟨k, p, q, ds', b', _, rfl, h1, _⟩ := sameCs_cons h
  simp [sameCs_len h1]
section
variable {P : Program} {e : Env} {w : World} {G : Gh}
theorem part_int {t : Nat} {k : IntKind} (hu : P.underlying t = some (.int k)) {inf : TypeInfo} (hi : P.info? t = some inf) (hs : inf.size = 1) (vs : List Value) (i : Nat) (v : Value) (hv : vs[i]? = some v) (w : World) :
  (part t vs.toArray i).run P w = .ok v w := by
 have hok : (tyOf P t).ok = true := by simp [tyOf, hi, hu, hs]
 have hsz : (tyOf P t).size = 1 := by simp [tyOf, hi, hs]
 have hag : (tyOf P t).agg = false := by simp [Ti.agg, tyOf, hi, tyD, hu]
 have hil : i < vs.length := (List.getElem?_eq_some_iff.1 hv).1
 rw [run_part hok vs i (by omega) w, hsz]
 simp only [partShape, hag, form]
 have : (vs.drop i).take 1 = [v] := by
  rw [List.getElem?_eq_getElem hil] at hv
  simp only [Option.some.injEq] at hv
  rw [← hv]
  rw [List.drop_eq_getElem_cons hil]
  rfl
 simp [this]
theorem eqFields_run : ∀ {fs : List Field} {i : Nat} {cs ds : List C} {us vs : List Value} {b : Bool}, intFields P i fs = true → fs.length = cs.length → sameCs cs ds = some b →
  (∀ (j : Nat) c v, cs[j]? = some c → us[i + j]? = some v → ∃ L, CellOk e w G c v L) → (∀ (j : Nat) c v, ds[j]? = some c → vs[i + j]? = some v → ∃ L, CellOk e w G c v L) →
  i + cs.length ≤ us.length → i + cs.length ≤ vs.length → (Op.eqFields 9999 us.toArray vs.toArray fs).run P w = .ok b w
 | [], i, cs, ds, us, vs, b, _, hl, hs, _, _, _, _ => by
  have : cs = [] := List.eq_nil_of_length_eq_zero (by simpa using hl.symm)
  subst this
  rw [(sameCs_nil hs).2]
  rfl
 | f :: fs, i, [], ds, us, vs, b, _, hl, _, _, _, _, _ => by simp at hl
 | f :: fs, i, c :: cs, es, us, vs, b, hf, hl, hs, hu, hv, hlu, hlv => by
  obtain ⟨k1, p, q, ds, b', rfl, rfl, hq, rfl⟩ := sameCs_cons hs
  simp only [intFields, Bool.and_eq_true] at hf
  obtain ⟨⟨⟨⟨f1, f2⟩, f3⟩, f4⟩, f5⟩ := hf
  have f1 : f.name ≠ "_" := by simpa using f1
  have f2 := Nat.eq_of_beq_eq_true f2
  cases hi : P.info? f.type with
  | none => rw [hi] at f4; simp at f4
  | some inf =>
   rw [hi] at f4
   have f4 := Nat.eq_of_beq_eq_true f4
   split at f3
   ·rename_i k hk
    simp only [List.length_cons] at hlu hlv
    obtain ⟨u, hu0⟩ : ∃ u, us[i]? = some u := ⟨_, List.getElem?_eq_getElem (by omega)⟩
    obtain ⟨v, hv0⟩ : ∃ v, vs[i]? = some v := ⟨_, List.getElem?_eq_getElem (by omega)⟩
    obtain ⟨L1, c1⟩ := hu 0 _ u rfl (by simpa using hu0)
    obtain ⟨L2, c2⟩ := hv 0 _ v rfl (by simpa using hv0)
    have hpu := part_int (P := P) hk hi f4 us i u hu0 w
    have hpv := part_int (P := P) hk hi f4 vs i v hv0 w
    rw [dat_int c1] at hpu
    rw [dat_int c2] at hpv
    have ih := eqFields_run (fs := fs) (i := i + 1) (cs := cs) (ds := ds) (us := us) (vs := vs) f5 (by simpa using hl) hq
     (fun j c v a b => hu (j + 1) c v (by simpa using a) (by rw [show i + (j + 1) = i + 1 + j by omega]; exact b))
     (fun j c v a b => hv (j + 1) c v (by simpa using a) (by rw [show i + (j + 1) = i + 1 + j by omega]; exact b)) (by omega) (by omega)
    simp only [Op.eqFields, f1, ne_eq, not_false_eq_true, if_true, Sem.run_bind, f2, hpu, hpv, Result.andThen_ok]
    rw [run_equalIn_int w 9998 f.type k1 k p q hk]
    simp only [Result.andThen_ok]
    cases hpq : (p == q) with
    | true => simpa using ih
    | false => simp
   ·simp at f3
theorem agg_sound {P : Program} {x : Ctx} (hty : ∀ t, x.ty t = tyOf P t) {e : Env} {a : Act} {w : World} {G : Gh} {get : Nat → Slot} {o : Oper} {op : BinOp} {ty yt : TypeId} {y z : Operand} {cs ds : List C} {ws : Writes}
  (hb : Begin x.n e a w G get o) (ho : o.op = .binOp op ty y z yt) (hy : opd get y = some (.agg, cs)) (hz : opd get z = some (.agg, ds)) (h : act x get o = some ws) : Sound P x.n e a w G o ws := by
 simp only [act, ho, hy, hz] at h
 split at h
 ·rename_i heq
  rw [hty] at heq
  obtain ⟨us, Ls, hvu⟩ := hb.opd (by simp [ho, Op.operands]) hy
  obtain ⟨vs, Ms, hvv⟩ := hb.opd (by simp [ho, Op.operands]) hz
  have heqI : eqInts P ty = some cs.length := by
   unfold tyOf at heq
   split at heq
   ·exact heq
   ·simp at heq
  unfold eqInts at heqI
  split at heqI
  ·rename_i fs hu
   split at heqI
   ·rename_i hc
    simp only [Bool.and_eq_true, Bool.not_eq_true'] at hc
    obtain ⟨⟨hf, hst⟩, hgd⟩ := hc
    simp only [Option.some.injEq] at heqI
    have hfo : P.fieldsOf ty = fs := by simp [Program.fieldsOf, hu]
    have hun : P.underlying ty = some (.struct (P.fieldsOf ty)) := by rw [hfo, hu]
    have key : ∀ b, sameCs cs ds = some b → (Op.equalIn 10000 ty (a.eval y) (a.eval z)).run P w = .ok b w := by
     intro b hs
     have h1 : a.eval y = .agg us.toArray := hvu.form
     have h2 : a.eval z = .agg vs.toArray := hvv.form
     rw [h1, h2, run_equalIn_agg w 9999 ty _ _ hun hst, hfo]
     have hdl := sameCs_len hs
     exact eqFields_run (P := P) (i := 0) hf (by simpa using heqI) hs
      (fun j c v a b => ⟨_, hvu.cells.cell j c v a (by simpa using b)⟩) (fun j c v a b => ⟨_, hvv.cells.cell j c v a (by simpa using b)⟩)
      (by rw [Nat.zero_add]; exact Nat.le_of_eq hvu.cells.len.symm) (by rw [Nat.zero_add, ← hdl]; exact Nat.le_of_eq hvv.cells.len.symm)
    have hguard : ∀ op, (eqGuard op ty y z (a.eval y) (a.eval z)).run P w = .ok () w := by
     intro op
     have h1 : a.eval y = .agg us.toArray := hvu.form
     have h2 : a.eval z = .agg vs.toArray := hvv.form
     rw [h1, h2]
     exact run_eqGuard_agg w op ty y z _ _ hgd
    split at h
    ·rename_i b hs
     obtain ⟨G', hp⟩ := hb.cell (bool_ok e w G b) rfl h
     refine Sound.value ?_ hp
     have h1 : a.eval y = .agg us.toArray := hvu.form
     have h2 : a.eval z = .agg vs.toArray := hvv.form
     have hk := key b hs
     have hg := hguard .eql
     simp only [execOp, ho]
     rw [h1, h2] at hk hg ⊢
     exact run_v (by simp only [Sem.run_bind, hg, Result.andThen_ok, run_eql_struct, hk])
    ·rename_i b hs
     obtain ⟨G', hp⟩ := hb.cell (bool_ok e w G (!b)) rfl h
     refine Sound.value ?_ hp
     have h1 : a.eval y = .agg us.toArray := hvu.form
     have h2 : a.eval z = .agg vs.toArray := hvv.form
     have hk := key b hs
     have hg := hguard .neq
     simp only [execOp, ho]
     rw [h1, h2] at hk hg ⊢
     exact run_v (by simp only [Sem.run_bind, hg, Result.andThen_ok, run_neq_struct, hk])
    ·simp at h
   ·simp at heqI
  ·simp at heqI
 ·simp at h
end
theorem ctxOf_sound {P : Program} [Tabs P] {fn : Func} {bk : Book} (hbk : BookOk P bk) : CtxOk P (ctxOf P fn bk) :=
 ctxOf_ok hbk fun hb ho h1 h2 h => agg_sound (x := ctxOf P fn bk) (fun _ => rfl) hb ho h1 h2 h
end Go.Mach
namespace Go.Mach
open Go.RowKit
set_option linter.unusedVariables false
set_option linter.unusedSimpArgs false
def fieldsK (P : Program) (g : Nat → Option K) : Nat → List Field → Option K
 | _, [] => none
 | off, [f] => match g f.type with
  | some k => if Nat.beq f.offset off && Nat.beq (P.cellsOf f.type) k.size then some k else none
  | none => none
 | off, f :: f' :: r => match g f.type, fieldsK P g (off + P.cellsOf f.type) (f' :: r) with
  | some a, some b => if Nat.beq f.offset off && Nat.beq (P.cellsOf f.type) a.size then some (.pair a b) else none
  | _, _ => none
def tyRep (P : Program) : Nat → Nat → Option K
 | 0, _ => none
 | n + 1, t => match P.underlying t with
  | some (.int k) => some (.int k)
  | some .bool => some .bool
  | some .string => some .str
  | some (.slice e) => match tyRep P n e with
   | some k => if Nat.beq (P.cellsOf e) k.size then some (.list k) else none
   | none => none
  | some (.struct fs) => match fieldsK P (tyRep P n) 0 fs.toList with
   | some k => if Nat.beq (P.cellsOf t) k.size then some k else none
   | none => none
  | _ => none
def Wf : (k : K) → k.T → Prop
 | .int k, n => (Lit.int k n).wf = true
 | .bool, _ => True
 | .str, s => s.length ≤ maxLen
 | .list k, l => l.length ≤ maxLen ∧ ∀ x ∈ l, Wf k x
 | .pair a b, x => Wf a x.1 ∧ Wf b x.2
theorem trod_fields {H : Type} {enc : TypeId × Value → H} {P : Program} {w : World} {base : Nat} {spare : Nat → Bool} {held : Bool} {n : Nat} {g : Nat → Option K}
  (hg : ∀ t k cs (x : DataW H × List MemPlace), g t = some k → DataW.trod enc P w base spare held n t cs = some x → ∃ (y : k.T) (L : LT), Rep false w k y L cs ∧ Wf k y) (cs : List Value) :
  ∀ (fs : List Field) (off : Nat) (k : K), fieldsK P g off fs = some k → off + k.size ≤ cs.length → (∀ f ∈ fs, ∃ x, DataW.trod enc P w base spare held n f.type ((cs.drop f.offset).take (P.cellsOf f.type)) = some x) →
  ∃ (y : k.T) (L : LT), Rep false w k y L ((cs.drop off).take k.size) ∧ Wf k y
 | [], off, k, h, _, _ => by simp [fieldsK] at h
 | [f], off, k, h, hl, hf => by
  simp only [fieldsK] at h
  split at h
  ·rename_i k' hk
   split at h
   ·rename_i hq
    simp only [Bool.and_eq_true] at hq
    have h1 := Nat.eq_of_beq_eq_true hq.1
    have h2 := Nat.eq_of_beq_eq_true hq.2
    simp only [Option.some.injEq] at h
    subst h
    obtain ⟨x, hx⟩ := hf f (by simp)
    obtain ⟨y, L, r1, r2⟩ := hg _ _ _ _ hk hx
    rw [h1, h2] at r1
    exact ⟨y, L, r1, r2⟩
   ·simp at h
  ·simp at h
 | f :: f' :: r, off, k, h, hl, hf => by
  simp only [fieldsK] at h
  split at h
  ·rename_i a b ha hb
   split at h
   ·rename_i hq
    simp only [Bool.and_eq_true] at hq
    have h1 := Nat.eq_of_beq_eq_true hq.1
    have h2 := Nat.eq_of_beq_eq_true hq.2
    simp only [Option.some.injEq] at h
    subst h
    obtain ⟨x, hx⟩ := hf f (by simp)
    obtain ⟨y, L, r1, r2⟩ := hg _ _ _ _ ha hx
    simp only [K.size] at hl ⊢
    rw [h2] at hb
    obtain ⟨z, M, s1, s2⟩ := trod_fields hg cs (f' :: r) (off + a.size) b hb (by omega) (fun f0 hf0 => hf f0 (by simp only [List.mem_cons] at hf0 ⊢; exact .inr hf0))
    rw [h1, h2] at r1
    refine ⟨(y, z), .pair L M, ?_, r2, s2⟩
    simp only [Rep]
    refine ⟨L, M, _, _, rfl, ?_, r1, s1⟩
    rw [List.take_add, List.drop_drop]
   ·simp at h
  ·simp at h
theorem trod_rep {H : Type} {enc : TypeId × Value → H} {P : Program} {w : World} {base : Nat} {spare : Nat → Bool} {held : Bool} : ∀ (m : Nat) (n : Nat) (t : Nat) (k : K) (cs : List Value) (x : DataW H × List MemPlace),
  tyRep P m t = some k → DataW.trod enc P w base spare held n t cs = some x → ∃ (y : k.T) (L : LT), Rep false w k y L cs ∧ Wf k y
 | 0, n, t, k, cs, x, h, _ => by simp [tyRep] at h
 | m + 1, n, t, k, cs, x, h, hx => by
  simp only [tyRep] at h
  split at h
  ·rename_i ik hu
   simp only [Option.some.injEq] at h
   subst h
   obtain ⟨q, rfl, rfl, hw⟩ := DataW.trod_int hu hx
   exact ⟨q, .leaf, by simp [Rep], hw⟩
  ·rename_i hu
   simp only [Option.some.injEq] at h
   subst h
   obtain ⟨b, rfl, rfl⟩ := DataW.trod_bool hu hx
   exact ⟨b, .leaf, by simp [Rep], trivial⟩
  ·rename_i hu
   simp only [Option.some.injEq] at h
   subst h
   obtain ⟨s, rfl, rfl, hs⟩ := DataW.trod_string hu hx
   exact ⟨s.data.toList, .leaf, by simp [Rep], by simpa [Wf] using hs⟩
  ·rename_i e hu
   split at h
   ·rename_i k' hk
    split at h
    ·rename_i hsz
     have hsz := Nat.eq_of_beq_eq_true hsz
     simp only [Option.some.injEq] at h
     subst h
     rcases DataW.trod_slice hu hx with ⟨rfl, rfl⟩ | ⟨a, len, cap, elems, rest, n', rfl, rfl, rfl, hb, hl, hm, hlen, hel, _, _⟩
     ·refine ⟨[], .nil, ?_, by simp [Wf]⟩
      simp only [Rep]
      exact ⟨_, rfl, .inl ⟨rfl, rfl, none, 0, rfl, fun h => by cases h⟩⟩
     ·have hex : ∀ i : Nat, ∃ p : k'.T × LT, i < len → ∃ cs', w.cells? base (a.add (i * P.cellsOf e)) (P.cellsOf e) = some cs' ∧ Rep false w k' p.1 p.2 cs' ∧ Wf k' p.1 := by
       intro i
       by_cases hi : i < len
       ·have hel' := hel i hi
        rw [List.getElem?_eq_getElem (by omega)] at hel'
        simp only [Option.bind_eq_some_iff] at hel'
        obtain ⟨cs', h1, h2⟩ := hel'
        obtain ⟨y, L, r1, r2⟩ := trod_rep m n' e k' cs' _ hk h2
        exact ⟨(y, L), fun _ => ⟨cs', h1, r1, r2⟩⟩
       ·exact ⟨(k'.dflt, .leaf), fun q => absurd q hi⟩
      obtain ⟨f, hf⟩ := Classical.axiomOfChoice hex
      have hwf : Wf (.list k') ((List.range len).map fun i => (f i).1) := by
       refine ⟨by simp; omega, fun x hx => ?_⟩
       simp only [List.mem_map, List.mem_range] at hx
       obtain ⟨i, hi, rfl⟩ := hx
       obtain ⟨_, _, _, r⟩ := hf i hi
       exact r
      by_cases h0 : len = 0
      ·refine ⟨[], .nil, ?_, by simp [Wf]⟩
       simp only [Rep]
       refine ⟨_, rfl, .inl ⟨rfl, rfl, some a, cap, by rw [h0], fun h => by cases h⟩⟩
      ·have hspot : a.spot = none ∧ w.heap[a.block]? ≠ none := by
        obtain ⟨cs', h1, _, _⟩ := hf 0 (by omega)
        obtain ⟨_, _, h3⟩ := World.cells?_some h1
        have hpos : 0 < P.cellsOf e := by rw [hsz]; exact k'.size_pos
        have := h3 0 hpos
        have hcell : w.cell? a ≠ none := by
         have h4 : (a.add (0 * P.cellsOf e)).add 0 = a := by simp [Addr.add]
         rw [h4] at this
         rw [this]
         have hl' : 0 < cs'.length := by
          have := (World.cells?_some h1).2.1
          omega
         simp [List.getElem?_eq_getElem hl']
        simp only [World.cell?] at hcell
        cases hh : w.heap[a.block]? with
        | none => rw [hh] at hcell; simp at hcell
        | some o =>
         rw [hh] at hcell
         refine ⟨?_, by simp⟩
         cases o <;> simp at hcell
         cases hs : a.spot with
         | none => rfl
         | some _ => rw [hs] at hcell; simp at hcell
       obtain ⟨b, off, sp⟩ := a
       simp only at hspot
       obtain ⟨rfl, hheap⟩ := hspot
       refine ⟨(List.range len).map fun i => (f i).1, .node b off cap ((List.range len).map fun i => (f i).2), ?_, hwf⟩
       simp only [Rep]
       refine ⟨_, rfl, .inr ⟨b, off, cap, _, rfl, by simp, by simpa using hl, by simp, hheap, (fun h => by cases h), fun i y r hy hr => ?_⟩⟩
       have hi : i < len := by
        have := (List.getElem?_eq_some_iff.1 hy).1
        simpa using this
       simp only [List.getElem?_map, List.getElem?_range hi, Option.map_some, Option.some.injEq] at hy hr
       subst hy hr
       obtain ⟨cs', h1, r1, _⟩ := hf i hi
       obtain ⟨_, h2, h3⟩ := World.cells?_some h1
       refine ⟨cs', fun j v hj => ?_, r1⟩
       have hjl : j < P.cellsOf e := by rw [← h2]; exact (List.getElem?_eq_some_iff.1 hj).1
       have h4 := h3 j hjl
       rw [hj] at h4
       rw [← h4, ← hsz]
       congr 1
       simp only [Addr.add]
       split <;> split <;> simp_all [Nat.add_assoc]
    ·simp at h
   ·simp at h
  ·rename_i fs hu
   split at h
   ·rename_i k' hk
    split at h
    ·rename_i hsz
     have hsz := Nat.eq_of_beq_eq_true hsz
     simp only [Option.some.injEq] at h
     subst h
     obtain ⟨xs, n', rfl, rfl, hl, hxl, hf⟩ := DataW.trod_struct hu hx
     have := trod_fields (P := P) (w := w) (base := base) (spare := spare) (held := held) (n := n') (enc := enc) (g := tyRep P m) (fun t k cs x h1 h2 => trod_rep m n' t k cs x h1 h2) cs fs.toList 0 k' hk (by omega) (fun f hfm => by
      obtain ⟨i, hi⟩ := List.getElem?_of_mem hfm
      have h1 := hf i f (by simpa using hi)
      have hil : i < xs.length := by rw [hxl]; have := (List.getElem?_eq_some_iff.1 hi).1; simpa using this
      rw [List.getElem?_eq_getElem hil] at h1
      exact ⟨_, h1⟩)
     obtain ⟨y, L, r1, r2⟩ := this
     rw [List.drop_zero, List.take_of_length_le (by omega)] at r1
     exact ⟨y, L, r1, r2⟩
    ·simp at h
   ·simp at h
  ·simp at h
end Go.Mach
namespace Go.Mach
open Go.RowKit
set_option linter.unusedVariables false
set_option linter.unusedSimpArgs false
def topV (g : Bool × Sg) : Val := (match g.1 with | true => .agg | false => .one, (leaves g.2.1 g.2.2).map fun g => .dat g.1 g.2)
def TopK (W : World) (g : Bool × Sg) (u : Value) : Prop := ∃ L vs, Rep false W g.2.1 g.2.2 L vs ∧ u = form (topV g).1 vs
def isStruct (P : Program) (t : Nat) : Bool := match P.underlying t with
 | some (.struct _) => true
 | _ => false
theorem topK_of {H : Type} {enc : TypeId × Value → H} {P : Program} {w : World} {sp : Nat → Bool} {held : Bool} {m t : Nat} {k : K} (hk : tyRep P m t = some k) {r : Reach} {b0 base : Nat} {v : Value} {d : DataW H} {ps : List MemPlace}
  (hval : Value.okWide P w r b0 t v) (hd : DataW.Trod enc P w base sp held t v d ps) : ∃ y : k.T, Wf k y ∧ TopK w (isStruct P t, ⟨k, y⟩) v := by
 obtain ⟨n, hd⟩ := hd
 obtain ⟨y, L, h1, h2⟩ := trod_rep m n t k _ _ hk hd
 refine ⟨y, h2, L, _, h1, ?_⟩
 cases m with
 | zero => simp [tyRep] at hk
 | succ m =>
  simp only [tyRep] at hk
  split at hk
  ·rename_i q hu
   obtain ⟨z, rfl⟩ := Go.WideShapes.okWide_int hu hval
   simp [topV, isStruct, hu, form, Value.cells]
  ·rename_i hu
   obtain ⟨z, rfl⟩ := Go.WideShapes.okWide_bool hu hval
   simp [topV, isStruct, hu, form, Value.cells]
  ·rename_i hu
   obtain ⟨z, rfl⟩ := Go.WideShapes.okWide_string hu hval
   simp [topV, isStruct, hu, form, Value.cells]
  ·rename_i e hu
   obtain ⟨a, len, cap, rfl⟩ := Go.WideShapes.okWide_slice hu hval
   simp [topV, isStruct, hu, form, Value.cells]
  ·rename_i fs hu
   obtain ⟨cs, rfl, _⟩ := Go.WideShapes.okWide_struct hu hval
   simp [topV, isStruct, hu, form, Value.cells]
  ·simp at hk
theorem sendCs_dat {t : Tr} {lent : List (Nat × Nat)} : ∀ {cs : List C}, (∀ c ∈ cs, ∃ k x, c = .dat k x) → sendCs t lent cs = some cs
 | [], _ => rfl
 | c :: r, h => by
  obtain ⟨k, x, rfl⟩ := h c (by simp)
  have ih := sendCs_dat (t := t) (lent := lent) (cs := r) fun c hc => h c (by simp [hc])
  simp only [sendCs, sendC, snap, ih]
theorem law_calls {P : Program} [Tabs P] {f : Nat} {t : FEnt} (hok : FnOk P f t) (hmd : t.md = []) (d : AsT t.args) (b : t.out.T) (hT : t.T d = some b) {r : Bool} (hret0 : (retOf t.n t.results [] (encA t.args d) (t.out.enc b)).map (·.1) = some (.one, [.dat .bool r]))
  (gs : List (Bool × Sg)) (hgs : encA t.args d = gs.map topV) {W : World} {us : List Value} (hlen : us.length = gs.length) (hus : ∀ (i : Nat) g u, gs[i]? = some g → us[i]? = some u → TopK W g u)
  (hlaid : ∀ t ∈ Tabs.tab P, ∃ o, W.heap[t.1]? = some o ∧ t.2 o) :
  Calls P f us.toArray W fun e W' => e = .returned (.bool r) ∧ Below W.heap.size W W' := by
 obtain ⟨os, hret⟩ : ∃ os, retOf t.n t.results [] (encA t.args d) (t.out.enc b) = some ((.one, [.dat .bool r]), os) := by
  cases hq : retOf t.n t.results [] (encA t.args d) (t.out.enc b) with
  | none => rw [hq] at hret0; simp at hret0
  | some z =>
   rw [hq] at hret0
   simp only [Option.map_some, Option.some.injEq] at hret0
   exact ⟨z.2, by rw [← hret0]⟩
 obtain ⟨hN, fn, _, _, _, hrv, hcall⟩ := hok
 let G : Gh := { vs := fun _ => [], lt := fun _ _ => .leaf, bk := fun _ => 0, ow := fun _ => none }
 have hi : Inv 0 [] #[] W G := ⟨rfl, Nat.le_refl _, fun s => SlotOk.nothing (get_out (by simp)), fun b s h => by simp [G] at h⟩
 have hal : (encA t.args d).length = t.args.length := encA_length
 have hgl : gs.length = t.args.length := by rw [← hal, hgs]; simp
 have hdat : ∀ v ∈ encA t.args d, ∀ c ∈ v.2, ∃ k x, c = C.dat k x := by
  intro v hv c hc
  rw [hgs] at hv
  simp only [List.mem_map] at hv
  obtain ⟨g, _, rfl⟩ := hv
  simp only [topV, List.mem_map] at hc
  obtain ⟨g', _, rfl⟩ := hc
  exact ⟨_, _, rfl⟩
 have hargs : ArgsOk [] W G (encA t.args d) us := by
  refine ⟨by rw [hal, hlen, hgl], fun i v u hv hu => ?_⟩
  rw [hgs] at hv
  simp only [List.getElem?_map] at hv
  cases hg : gs[i]? with
  | none => rw [hg] at hv; simp at hv
  | some g =>
   rw [hg] at hv
   simp only [Option.map_some, Option.some.injEq] at hv
   subst hv
   obtain ⟨L, vs, h1, h2⟩ := hus i g u hg hu
   have hvl := h1.size
   refine ⟨vs, fun j => leafL g.2.1 L j, ⟨⟨by simp only [topV, List.length_map, leaves_length]; exact hvl, fun j c x hc hx => ?_⟩, h2, ?_, ?_, ?_⟩⟩
   ·simp only [topV, List.getElem?_map] at hc
    have hjl : j < g.2.1.size := by rw [← hvl]; exact (List.getElem?_eq_some_iff.1 hx).1
    rw [leaves_get g.2.1 g.2.2 j hjl] at hc
    simp only [Option.map_some, Option.some.injEq] at hc
    subst hc
    obtain ⟨v, q1, q2, _⟩ := h1.leaf hjl
    rw [hx] at q1
    simp only [Option.some.injEq] at q1
    subst q1
    exact ⟨q2, fun b _ => rfl⟩
   ·intro c hc
    simp only [topV, List.mem_map] at hc
    obtain ⟨g', _, rfl⟩ := hc
    rfl
   ·intro bv; simp only [topV]; cases g.1 <;> simp
   ·simp only [topV]; cases g.1 <;> simp
 have ht : Sees (Tr.at { get := Env.get [] }) [] := fun s => .inl rfl
 obtain ⟨Gc, hi0, how⟩ := start_inv hi ht hargs rfl (fun j v v' h1 h2 => by
  rw [h1] at h2
  simp only [Option.some.injEq] at h2
  subst h2
  exact ⟨rfl, sendCs_dat (hdat v (List.mem_of_getElem? h1))⟩) (N := t.n) (by rw [hal]; exact hN) [] (fun v hv s hs => by
   exfalso
   simp only [List.mem_flatMap] at hs
   obtain ⟨c, hc, hs⟩ := hs
   obtain ⟨k, x, rfl⟩ := hdat v hv c hc
   simp [readCell, C.targets] at hs) (t.n + 2 * t.args.length)
 refine (hcall d b hT (by rw [hmd, hret]; rfl) us W Gc (by rw [hlen, hgl]) (by rw [hmd]; exact hi0) (fun z hz => ⟨hlaid z hz, by rw [how]; simp [owIn, G]⟩)).mono ?_
 rintro en w1 ⟨tm1, G1, u1, rfl, hrun1, hi1, hh, hsz, hle, henv⟩
 obtain ⟨e2, G2, H, us', Ls, bk, hr, _⟩ := ret_ok hrv hi1 hret
 have hul := hr.len
 match us', hul with
 | [u], _ =>
  have hc := hr.cell 0 _ u rfl rfl
  simp only [ResOk, Rep] at hc
  have hu : u = .bool r := by simpa using hc.1
  have hres : u1 = resForm .one [u] bk := by
   have := hrun1.symm.trans hr.res
   simpa using this
  refine ⟨by rw [hres, hu]; rfl, henv.os, henv.tape, henv.output, hsz, fun k hk => ?_⟩
  refine (hh.still k ?_ (by simp [hk])).1
  rw [how]
  rfl
end Go.Mach
namespace Go.Mach
set_option linter.unusedVariables false
set_option linter.unusedSimpArgs false
def isLoop : Code → Bool
 | .loop _ => true
 | _ => false
def bodyK (n : Nat) (t : NEnt) : Ex → Env → Option (t.P.T ⊕ OutT t.outs)
 | .normal, e => (t.P.dec n e).map .inl
 | ex, e => (decOut n t.outs ex e).map .inr
theorem nodeLoop {x : Ctx} {bk : Book} {tb : Tab} {root : Code} {pos : Nat} {t : NEnt} (hl : isLoop (sub root pos) = true) (S : t.P.T → Option (t.P.T ⊕ OutT t.outs)) (hT : t.T = fun d => iter S bigN d)
  (hrun : ∀ d, runD x bk tb (2 * pos) (childC 0 (sub root pos)) (t.P.enc d) (bodyK x.n t) = S d) : NodeOk x bk tb root pos t := by
 left
 cases hs : sub root pos <;> rw [hs] at hl <;> simp [isLoop] at hl
 rename_i a
 refine ⟨a, rfl, S, hT, fun d => ?_⟩
 have := hrun d
 rw [hs] at this
 have hk : (bodyK x.n t) = fun ex e => match ex with | .normal => (t.P.dec x.n e).map .inl | ex => (decOut x.n t.outs ex e).map .inr := by
  funext ex e
  cases ex <;> rfl
 rw [hk] at this
 exact this
theorem nodeJoin {x : Ctx} {bk : Book} {tb : Tab} {root : Code} {pos : Nat} {t : NEnt} (hl : isLoop (sub root pos) = false)
  (hrun : ∀ d, runD x bk tb pos (sub root pos) (t.P.enc d) (decOut x.n t.outs) = t.T d) : NodeOk x bk tb root pos t := by
 right
 refine ⟨hrun, fun a h => ?_⟩
 rw [h] at hl
 simp [isLoop] at hl
def entOk (fn : Func) (bk : Book) (t : FEnt) : Bool :=
 Nat.beq fn.ntmps t.n && Nat.ble t.args.length t.n && Nat.ble t.n 1000000 && !(fn.name == "runtime.NumGoroutine")
theorem fnOk_mk {P : Program} [Tabs P] {f : Nat} {fn : Func} {c : Code} {bk : Book} {tb : Tab} {t : FEnt} (hm : P.follows .mixedOrders = true) (hf : P.funcs[f]? = some fn) (hbk : BookOk P bk) (hb : fn.body = some c) (hres : rvsB P fn.results.toList t.results = true)
  (hok : entOk fn bk t = true) (hnodes : Nodes (ctxOf P fn bk) bk tb c tb)
  (hrun : ∀ d, runD (ctxOf P fn bk) bk tb 1 c (startE t.n t.md (encA t.args d)) (finK (n := t.n) t.out) = t.T d) : FnOk P f t := by
 simp only [entOk, Bool.and_eq_true] at hok
 obtain ⟨⟨⟨h1, h2⟩, h4⟩, h7⟩ := hok
 exact fnOk_of_run (ctxOf_sound hbk) hf hb (Nat.eq_of_beq_eq_true h1) hres (Nat.le_of_ble_eq_true h2) (Nat.le_of_ble_eq_true h4) (by simpa using h7) hm hnodes hrun
end Go.Mach
namespace Go.Mach
open Go.RowKit
set_option linter.unusedVariables false
set_option linter.unusedSimpArgs false
theorem SlotOk.deadOne {n : Nat} {e : Env} {tm : Array Value} {w : World} {G : Gh} {s : Nat} (h : e.get s = dd) : SlotOk n e tm w G s := by
 refine ⟨?_, ?_, ?_, ?_, ?_, ?_, ?_, ?_⟩ <;> rw [h]
 ·intro _; trivial
 ·intro bv hb; cases hb
 ·intro hh; exact absurd rfl hh
 ·intro hh; exact absurd rfl hh
 ·intro hh; exact absurd rfl hh
 ·simp [fpS, dd]
 ·simp [fpS, dd]
 ·intro _; rfl
theorem get_over {e : Env} {t : Nat} (h : e.length ≤ t) : e.get t = {} := get_out (by omega)
theorem encE_one : ∀ (m i t : Nat) (p : SP) (d : CsT p.cs), t < m → Env.get (encE i m [p] d) t = if p.s = i + t then encS p d else dd := by
 intro m
 induction m with
 | zero => intro i t p d h; omega
 | succ m ih =>
  intro i t p d h
  simp only [encE]
  cases hb : Nat.beq p.s i with
  | true =>
   have hb' := Nat.eq_of_beq_eq_true hb
   cases t with
   | zero => simp [Env.get, hb']
   | succ t =>
    have := encE_nil m (i + 1) t (by omega)
    rw [if_neg (by omega)]
    simpa [Env.get] using this
  | false =>
   have hb' : p.s ≠ i := fun q => by rw [q] at hb; simp at hb
   cases t with
   | zero => simp [Env.get, hb']
   | succ t =>
    have := ih (i + 1) t p d (by omega)
    rw [show i + (t + 1) = i + 1 + t by omega]
    simpa [Env.get] using this
end Go.Mach
namespace Go.Mach
set_option linter.unusedVariables false
def lp {α β : Type} (S : α → Option (α ⊕ β)) (d : α) : Option β := iter S bigN d
abbrev w64 (x : Int) : Int := IntKind.wrap .i64 x
abbrev ln {α : Type} (l : List α) : Int := (l.length : Int)
abbrev gx {α : Type} (l : List α) (i : Int) (d : α) : α := l.getD i.toNat d
abbrev sx {α : Type} (l : List α) (i : Int) (v : α) : List α := l.set i.toNat v
def ix {R : Type} (i : Int) (n : Nat) (k : Option R) : Option R := chk (decide (0 ≤ i)) (chk (decide (i.toNat < n)) k)
def g0 {R : Type} (i : Int) (k : Option R) : Option R := chk (decide (0 ≤ i)) k
def lx {R : Type} (i : Int) (n : Nat) (k : Option R) : Option R := chk (decide (i.toNat < n)) k
def bx {α β R : Type} (x : Option (α ⊕ β)) (f : α → Option R) (g : β → Option R) : Option R := x.bind fun b => Sum.elim f g b
def ex {α β R : Type} (b : α ⊕ β) (f : α → Option R) (g : β → Option R) : Option R := Sum.elim f g b
theorem bN {P : Program} [Tabs P] : BookOk P [] := trivial
theorem bC {P : Program} [Tabs P] {f : Nat} {t : FEnt} {b : Book} (h : FnOk P f t) (r : BookOk P b) : BookOk P ((f, t) :: b) := ⟨h, r⟩
theorem ix_ok {R : Type} {i : Int} {n : Nat} (h : 0 ≤ i) (h' : i.toNat < n) (k : Option R) : ix i n k = k := by simp [ix, chk, h, h']
theorem g0_ok {R : Type} {i : Int} (h : 0 ≤ i) (k : Option R) : g0 i k = k := by simp [g0, chk, h]
theorem lx_ok {R : Type} {i : Int} {n : Nat} (h' : i.toNat < n) (k : Option R) : lx i n k = k := by simp [lx, chk, h']
@[simp] theorem bx_inl {α β R : Type} (a : α) (f : α → Option R) (g : β → Option R) : bx (some (.inl a)) f g = f a := rfl
@[simp] theorem bx_inr {α β R : Type} (b : β) (f : α → Option R) (g : β → Option R) : bx (some (.inr b)) f g = g b := rfl
@[simp] theorem bx_none {α β R : Type} (f : α → Option R) (g : β → Option R) : bx none f g = none := rfl
@[simp] theorem ex_inl {α β R : Type} (a : α) (f : α → Option R) (g : β → Option R) : ex (.inl a) f g = f a := rfl
@[simp] theorem ex_inr {α β R : Type} (b : β) (f : α → Option R) (g : β → Option R) : ex (.inr b) f g = g b := rfl
end Go.Mach
namespace Go.Mach
set_option linter.unusedVariables false
abbrev Sp2 := Int × Int
def hasN (s : List Sp2) (n : Int) : Prop := ∃ x ∈ s, x.1 ≤ n ∧ n ≤ x.2
def Canon : List Sp2 → Prop
 | [] => True
 | x :: r => x.1 ≤ x.2 ∧ (∀ y ∈ r, x.2 + 1 < y.1) ∧ Canon r
theorem hasN_nil (n : Int) : ¬ hasN [] n := fun ⟨x, h, _⟩ => by simp at h
theorem hasN_cons {x : Sp2} {s : List Sp2} {n : Int} : hasN (x :: s) n ↔ (x.1 ≤ n ∧ n ≤ x.2) ∨ hasN s n := by
 unfold hasN
 constructor
 ·rintro ⟨y, hy, h⟩
  rcases List.mem_cons.1 hy with rfl | hy
  ·exact .inl h
  ·exact .inr ⟨y, hy, h⟩
 ·rintro (h | ⟨y, hy, h⟩)
  ·exact ⟨x, List.mem_cons_self, h⟩
  ·exact ⟨y, List.mem_cons_of_mem _ hy, h⟩
theorem hasN_append {s t : List Sp2} {n : Int} : hasN (s ++ t) n ↔ hasN s n ∨ hasN t n := by
 unfold hasN
 constructor
 ·rintro ⟨y, hy, h⟩
  rcases List.mem_append.1 hy with hy | hy
  ·exact .inl ⟨y, hy, h⟩
  ·exact .inr ⟨y, hy, h⟩
 ·rintro (⟨y, hy, h⟩ | ⟨y, hy, h⟩)
  ·exact ⟨y, List.mem_append_left _ hy, h⟩
  ·exact ⟨y, List.mem_append_right _ hy, h⟩
theorem hasN_perm {s t : List Sp2} (h : s.Perm t) {n : Int} : hasN s n ↔ hasN t n := by
 unfold hasN
 constructor <;> rintro ⟨y, hy, q⟩
 ·exact ⟨y, h.mem_iff.1 hy, q⟩
 ·exact ⟨y, h.mem_iff.2 hy, q⟩
theorem Canon.mem : ∀ {s : List Sp2}, Canon s → ∀ x ∈ s, x.1 ≤ x.2
 | _ :: _, h, x, hx => by
  rcases List.mem_cons.1 hx with rfl | hx
  ·exact h.1
  ·exact h.2.2.mem x hx
theorem Canon.head_le {x : Sp2} {s : List Sp2} (h : Canon (x :: s)) {n : Int} (hn : hasN (x :: s) n) : x.1 ≤ n := by
 rcases hasN_cons.1 hn with g | ⟨y, hy, g⟩
 ·exact g.1
 ·have := h.2.1 y hy
  have := h.1
  omega
theorem Canon.tail_gt {x : Sp2} {s : List Sp2} (h : Canon (x :: s)) {n : Int} (hn : hasN s n) : x.2 + 1 < n := by
 obtain ⟨y, hy, g⟩ := hn
 have := h.2.1 y hy
 omega
theorem Canon.ext : ∀ {a b : List Sp2}, Canon a → Canon b → (∀ n, hasN a n ↔ hasN b n) → a = b
 | [], [], _, _, _ => rfl
 | [], y :: t, _, hb, h => absurd ((h y.1).2 (hasN_cons.2 (.inl ⟨Int.le_refl _, hb.1⟩))) (hasN_nil _)
 | x :: r, [], ha, _, h => absurd ((h x.1).1 (hasN_cons.2 (.inl ⟨Int.le_refl _, ha.1⟩))) (hasN_nil _)
 | x :: r, y :: t, ha, hb, h => by
  have h1 : y.1 ≤ x.1 := hb.head_le ((h x.1).1 (hasN_cons.2 (.inl ⟨Int.le_refl _, ha.1⟩)))
  have h2 : x.1 ≤ y.1 := ha.head_le ((h y.1).2 (hasN_cons.2 (.inl ⟨Int.le_refl _, hb.1⟩)))
  have e1 : x.1 = y.1 := by omega
  have e2 : x.2 = y.2 := by
   have hx := ha.1
   have hy := hb.1
   rcases Int.lt_trichotomy x.2 y.2 with g | g | g
   ·exfalso
    have := (h (x.2 + 1)).2 (hasN_cons.2 (.inl ⟨by omega, by omega⟩))
    rcases hasN_cons.1 this with q | q
    ·omega
    ·have := ha.tail_gt q; omega
   ·exact g
   ·exfalso
    have := (h (y.2 + 1)).1 (hasN_cons.2 (.inl ⟨by omega, by omega⟩))
    rcases hasN_cons.1 this with q | q
    ·omega
    ·have := hb.tail_gt q; omega
  obtain rfl : x = y := Prod.ext e1 e2
  congr 1
  refine Canon.ext ha.2.2 hb.2.2 fun n => ⟨fun q => ?_, fun q => ?_⟩
  ·rcases hasN_cons.1 ((h n).1 (hasN_cons.2 (.inr q))) with g | g
   ·have := ha.tail_gt q; omega
   ·exact g
  ·rcases hasN_cons.1 ((h n).2 (hasN_cons.2 (.inr q))) with g | g
   ·have := hb.tail_gt q; omega
   ·exact g
theorem Canon.append : ∀ {a b : List Sp2}, Canon a → Canon b → (∀ x ∈ a, ∀ y ∈ b, x.2 + 1 < y.1) → Canon (a ++ b)
 | [], b, _, hb, _ => hb
 | x :: r, b, ha, hb, h => by
  refine ⟨ha.1, fun y hy => ?_, Canon.append ha.2.2 hb fun z hz y hy => h z (List.mem_cons_of_mem _ hz) y hy⟩
  rcases List.mem_append.1 hy with hy | hy
  ·exact ha.2.1 y hy
  ·exact h x List.mem_cons_self y hy
theorem Canon.split : ∀ {a b : List Sp2}, Canon (a ++ b) → Canon a ∧ Canon b ∧ ∀ x ∈ a, ∀ y ∈ b, x.2 + 1 < y.1
 | [], b, h => ⟨trivial, h, fun x hx => by simp at hx⟩
 | x :: r, b, h => by
  obtain ⟨h1, h2, h3⟩ := Canon.split (a := r) (b := b) h.2.2
  refine ⟨⟨h.1, fun y hy => h.2.1 y (List.mem_append_left _ hy), h1⟩, h2, fun z hz y hy => ?_⟩
  rcases List.mem_cons.1 hz with rfl | hz
  ·exact h.2.1 y (List.mem_append_right _ hy)
  ·exact h3 z hz y hy
def mstep (out : List Sp2) (x : Sp2) : List Sp2 := match out.getLast? with
 | none => [x]
 | some l => if x.1 ≤ l.2 + 1 then out.dropLast ++ [(l.1, max l.2 x.2)] else out ++ [x]
theorem mstep_ok {out : List Sp2} {x : Sp2} (hc : Canon out) (hx : x.1 ≤ x.2) (hs : ∀ y ∈ out, y.1 ≤ x.1) : Canon (mstep out x) ∧ (∀ n, hasN (mstep out x) n ↔ hasN out n ∨ x.1 ≤ n ∧ n ≤ x.2) ∧ ∀ y ∈ mstep out x, y.1 ≤ x.1 := by
 unfold mstep
 cases hl : out.getLast? with
 | none =>
  obtain rfl := List.getLast?_eq_none_iff.1 hl
  simp only
  refine ⟨⟨hx, by simp, trivial⟩, fun n => ?_, by simp⟩
  rw [hasN_cons]
  constructor
  ·rintro (h | h)
   ·exact .inr h
   ·exact absurd h (hasN_nil n)
  ·rintro (h | h)
   ·exact absurd h (hasN_nil n)
   ·exact .inl h
 | some l =>
  simp only
  have hd : out = out.dropLast ++ [l] := by
   obtain ⟨hne, he⟩ := List.getLast?_eq_some_iff.1 hl
   rw [he]; simp
  generalize hD : out.dropLast = D at hd
  subst hd
  have hlx := hs l (by simp)
  obtain ⟨c1, c2, c3⟩ := hc.split
  have hl2 : l.1 ≤ l.2 := c2.1
  split
  ·rename_i h
   refine ⟨c1.append ⟨by omega, by simp, trivial⟩ fun y hy z hz => ?_, fun n => ?_, fun y hy => ?_⟩
   ·simp only [List.mem_singleton] at hz
    subst hz
    exact c3 y hy l (by simp)
   ·rw [hasN_append, hasN_append, hasN_cons, hasN_cons]
    have := hasN_nil n
    constructor
    ·rintro (g | g | g)
     ·exact .inl (.inl g)
     ·simp only at g
      by_cases hq : n ≤ l.2
      ·exact .inl (.inr (.inl ⟨g.1, hq⟩))
      ·exact .inr ⟨by omega, by omega⟩
     ·exact absurd g this
    ·rintro ((g | g | g) | g)
     ·exact .inl g
     ·exact .inr (.inl ⟨g.1, by simp only; omega⟩)
     ·exact absurd g this
     ·exact .inr (.inl ⟨by simp only; omega, by simp only; omega⟩)
   ·rcases List.mem_append.1 hy with hy | hy
    ·exact hs y (List.mem_append_left _ hy)
    ·simp only [List.mem_singleton] at hy
     subst hy
     exact hlx
  ·rename_i h
   refine ⟨hc.append ⟨hx, by simp, trivial⟩ fun y hy z hz => ?_, fun n => ?_, fun y hy => ?_⟩
   ·simp only [List.mem_singleton] at hz
    subst hz
    rcases List.mem_append.1 hy with hy | hy
    ·have := c3 y hy l (by simp); omega
    ·simp only [List.mem_singleton] at hy
     subst hy
     omega
   ·rw [hasN_append (s := D ++ [l]), hasN_cons]
    have := hasN_nil n
    constructor
    ·rintro (g | g | g)
     ·exact .inl g
     ·exact .inr g
     ·exact absurd g this
    ·rintro (g | g)
     ·exact .inl g
     ·exact .inr (.inl g)
   ·rcases List.mem_append.1 hy with hy | hy
    ·exact hs y hy
    ·simp only [List.mem_singleton] at hy
     subst hy
     exact Int.le_refl _
theorem msteps_ok : ∀ {l out : List Sp2}, Canon out → (∀ x ∈ l, x.1 ≤ x.2) → l.Pairwise (fun x y => x.1 ≤ y.1) → (∀ y ∈ out, ∀ x ∈ l, y.1 ≤ x.1) →
  Canon (l.foldl mstep out) ∧ ∀ n, hasN (l.foldl mstep out) n ↔ hasN out n ∨ hasN l n
 | [], out, hc, _, _, _ => ⟨hc, fun n => ⟨.inl, fun h => h.elim id fun q => absurd q (hasN_nil n)⟩⟩
 | x :: r, out, hc, hx, hp, hs => by
  obtain ⟨m1, m2, m3⟩ := mstep_ok hc (hx x List.mem_cons_self) fun y hy => hs y hy x List.mem_cons_self
  obtain ⟨p1, p2⟩ := List.pairwise_cons.1 hp
  obtain ⟨h1, h2⟩ := msteps_ok (l := r) m1 (fun y hy => hx y (List.mem_cons_of_mem _ hy)) p2 fun y hy z hz => Int.le_trans (m3 y hy) (p1 z hz)
  refine ⟨h1, fun n => ?_⟩
  rw [List.foldl_cons, h2, m2, hasN_cons, or_assoc]
def nrm (l : List Sp2) : List Sp2 := (l.mergeSort fun x y => decide (x.1 ≤ y.1)).foldl mstep []
theorem sortedBy (l : List Sp2) : (l.mergeSort fun x y => decide (x.1 ≤ y.1)).Pairwise (fun x y => x.1 ≤ y.1) := by
 have := List.pairwise_mergeSort (le := fun x y : Sp2 => decide (x.1 ≤ y.1)) (by intro a b c; simp; omega) (by intro a b; simp; omega) l
 exact this.imp (by simp)
theorem nrm_ok {l : List Sp2} (h : ∀ x ∈ l, x.1 ≤ x.2) : Canon (nrm l) ∧ ∀ n, hasN (nrm l) n ↔ hasN l n := by
 have hp := List.mergeSort_perm l fun x y => decide (x.1 ≤ y.1)
 obtain ⟨h1, h2⟩ := msteps_ok (l := l.mergeSort fun x y => decide (x.1 ≤ y.1)) (out := []) trivial (fun x hx => h x (hp.mem_iff.1 hx)) (sortedBy l) (by simp)
 refine ⟨h1, fun n => ?_⟩
 rw [show nrm l = (l.mergeSort fun x y => decide (x.1 ≤ y.1)).foldl mstep [] from rfl, h2, hasN_perm hp]
 exact ⟨fun q => q.elim (fun g => absurd g (hasN_nil n)) id, .inr⟩
theorem nrm_any {l m : List Sp2} (h : ∀ x ∈ l, x.1 ≤ x.2) (hp : m.Perm l) (hs : m.Pairwise (fun x y => x.1 ≤ y.1)) : m.foldl mstep [] = nrm l := by
 obtain ⟨h1, h2⟩ := msteps_ok (l := m) (out := []) trivial (fun x hx => h x (hp.mem_iff.1 hx)) hs (by simp)
 obtain ⟨g1, g2⟩ := nrm_ok h
 refine Canon.ext h1 g1 fun n => ?_
 rw [h2, g2, hasN_perm hp]
 exact ⟨fun q => q.elim (fun g => absurd g (hasN_nil n)) id, .inr⟩
theorem nrm_uniq {l m : List Sp2} (h : ∀ x ∈ l, x.1 ≤ x.2) (hc : Canon m) (hm : ∀ n, hasN m n ↔ hasN l n) : nrm l = m :=
 (nrm_ok h).1.ext hc fun n => by rw [(nrm_ok h).2, hm]
theorem nrm_can {l : List Sp2} (h : Canon l) : nrm l = l := nrm_uniq h.mem h fun _ => Iff.rfl
def putS : List Sp2 → Sp2 → List Sp2
 | [], x => [x]
 | s :: r, x => if s.2 + 1 < x.1 then s :: putS r x else if s.1 > x.2 + 1 then x :: s :: r else putS r (min x.1 s.1, max x.2 s.2)
theorem putS_mem : ∀ {s : List Sp2} {x : Sp2} {y : Sp2}, y ∈ putS s x → ∀ a, (∀ z ∈ s, a < z.1) → a < x.1 → a < y.1
 | [], x, y, hy, a, _, hx => by simp only [putS, List.mem_singleton] at hy; rw [hy]; exact hx
 | s :: r, x, y, hy, a, hs, hx => by
  simp only [putS] at hy
  split at hy
  ·rcases List.mem_cons.1 hy with rfl | hy
   ·exact hs _ List.mem_cons_self
   ·exact putS_mem hy a (fun z hz => hs z (List.mem_cons_of_mem _ hz)) hx
  ·split at hy
   ·rcases List.mem_cons.1 hy with rfl | hy
    ·exact hx
    ·exact hs y hy
   ·refine putS_mem hy a (fun z hz => hs z (List.mem_cons_of_mem _ hz)) ?_
    have := hs s List.mem_cons_self
    simp only; omega
theorem putS_ok : ∀ {s : List Sp2} {x : Sp2}, Canon s → x.1 ≤ x.2 → Canon (putS s x) ∧ ∀ n, hasN (putS s x) n ↔ hasN s n ∨ x.1 ≤ n ∧ n ≤ x.2
 | [], x, _, hx => ⟨⟨hx, by simp, trivial⟩, fun n => by
   simp only [putS]
   rw [hasN_cons]
   exact ⟨fun h => h.elim .inr fun q => absurd q (hasN_nil n), fun h => h.elim (fun q => absurd q (hasN_nil n)) .inl⟩⟩
 | s :: r, x, hs, hx => by
  simp only [putS]
  have h1 := hs.1
  split
  ·rename_i h
   obtain ⟨g1, g2⟩ := putS_ok hs.2.2 hx
   refine ⟨⟨hs.1, fun y hy => putS_mem hy (s.2 + 1) hs.2.1 h, g1⟩, fun n => ?_⟩
   rw [hasN_cons, hasN_cons, g2, or_assoc]
  ·rename_i h
   split
   ·rename_i h2
    refine ⟨⟨hx, fun y hy => ?_, hs⟩, fun n => ?_⟩
    ·rcases List.mem_cons.1 hy with rfl | hy
     ·omega
     ·have := hs.2.1 y hy; omega
    ·rw [hasN_cons (x := x)]
     exact ⟨fun h => h.elim .inr .inl, fun h => h.elim .inr .inl⟩
   ·rename_i h2
    obtain ⟨g1, g2⟩ := putS_ok (x := (min x.1 s.1, max x.2 s.2)) hs.2.2 (by simp only; omega)
    refine ⟨g1, fun n => ?_⟩
    rw [g2, hasN_cons]
    simp only
    constructor
    ·rintro (g | g)
     ·exact .inl (.inr g)
     ·by_cases q : s.1 ≤ n ∧ n ≤ s.2
      ·exact .inl (.inl q)
      ·exact .inr (by omega)
    ·rintro ((g | g) | g)
     ·exact .inr (by omega)
     ·exact .inl g
     ·exact .inr (by omega)
theorem putsS_ok : ∀ {l s : List Sp2}, Canon s → (∀ x ∈ l, x.1 ≤ x.2) → Canon (l.foldl putS s) ∧ ∀ n, hasN (l.foldl putS s) n ↔ hasN s n ∨ hasN l n
 | [], s, h, _ => ⟨h, fun n => ⟨.inl, fun q => q.elim id fun g => absurd g (hasN_nil n)⟩⟩
 | x :: r, s, h, hx => by
  obtain ⟨p1, p2⟩ := putS_ok h (hx x List.mem_cons_self)
  obtain ⟨g1, g2⟩ := putsS_ok (l := r) p1 fun y hy => hx y (List.mem_cons_of_mem _ hy)
  refine ⟨g1, fun n => ?_⟩
  rw [List.foldl_cons, g2, p2, hasN_cons, or_assoc]
theorem putsS_nrm {l s : List Sp2} (h : Canon s) (hx : ∀ x ∈ l, x.1 ≤ x.2) : l.foldl putS s = nrm (s ++ l) := by
 obtain ⟨g1, g2⟩ := putsS_ok h hx
 refine (nrm_uniq (fun x hx' => ?_) g1 fun n => ?_).symm
 ·rcases List.mem_append.1 hx' with q | q
  ·exact h.mem x q
  ·exact hx x q
 ·rw [g2, hasN_append]
end Go.Mach
namespace Go.Mach
open Go.Proofs Go.Shelf Go.RowKit Go.Lib Go.Sort
set_option linter.unusedVariables false
abbrev kSp : K := .pair (.int .i64) (.int .i64)
def encSp (x : Sp2) : List Value := [.int .i64 x.1, .int .i64 x.2]
def cfSp (x y : Sp2) : Int := Lib.compareInt x.1 y.1
theorem ltSp (x y : Sp2) : ltOf cfSp x y = decide (x.1 < y.1) := by
 unfold ltOf cfSp Lib.compareInt
 by_cases h1 : x.1 < y.1
 ·simp [h1]
 ·by_cases h2 : y.1 < x.1 <;> simp [h1, h2]
theorem swoSp : SWO (ltOf cfSp) where
 irrefl x := by rw [ltSp]; simp
 trans x y z h1 h2 := by rw [ltSp] at *; simp at *; omega
 ntrans x y z h1 h2 := by rw [ltSp] at *; simp at *; omega
def sortLo (l : List Sp2) : List Sp2 := (pdq (ltOf cfSp) l.toArray 0 l.toArray.size (Lib.bitLen l.toArray.size) true true).toList
theorem sortLo_raw (l : List Sp2) : PermIn 0 l.toArray.size l.toArray (sortLo l).toArray ∧ SortedIn (ltOf cfSp) 0 l.toArray.size (sortLo l).toArray := by
 have := pdq_sorts (ltOf cfSp) swoSp l.toArray 0 l.toArray.size (Lib.bitLen l.toArray.size) true true (Nat.zero_le _) (Nat.le_refl _) (Or.inl rfl)
 simpa [sortLo] using this
theorem sortLo_length (l : List Sp2) : (sortLo l).length = l.length := by
 have := (sortLo_raw l).1.1
 simpa using this
theorem sortLo_sorted (l : List Sp2) : (sortLo l).Pairwise (fun x y => x.1 ≤ y.1) := by
 have h := (sortLo_raw l).2
 have hl := sortLo_length l
 rw [List.pairwise_iff_getElem]
 intro i j hi hj hij
 have := h i j (Nat.zero_le _) hij (by simp; omega)
 rw [ltSp] at this
 simp only [decide_eq_false_iff_not] at this
 have e1 : (sortLo l).toArray[i]! = (sortLo l)[i] := by rw [getElem!_pos _ i (by simpa using hi)]; simp
 have e2 : (sortLo l).toArray[j]! = (sortLo l)[j] := by rw [getElem!_pos _ j (by simpa using hj)]; simp
 rw [e1, e2] at this
 omega
theorem sortLo_perm (l : List Sp2) : (sortLo l).Perm l := by
 have h := (sortLo_raw l).1.2.2
 have hl := sortLo_length l
 have e1 : (l.toArray.extract 0 l.toArray.size).toList = l := by simp
 have e2 : ((sortLo l).toArray.extract 0 l.toArray.size).toList = sortLo l := by
  simp only [List.size_toArray, Array.toList_extract]
  rw [← hl]
  simp
 rw [e1, e2] at h
 exact h
theorem frozen_room {w : World} {b o : Nat} {c : Array Value} {e : TypeId} {fr : Nat × Nat} (h : w.heap[b]? = some (.cells c e fr)) (ho : o < c.size) (hf : c.size ≤ fr.1 ∨ fr.2 ≤ fr.1) : w.frozen? ⟨b, o, none⟩ = false := by
 simp only [World.frozen?, h]
 simp only [Bool.and_eq_false_imp, decide_eq_true_eq, decide_eq_false_iff_not]
 omega
theorem fnOk_sort {P : Program} [Tabs P] {f g n : Nat} {fn : Func} (hf : P.funcs[f]? = some fn) (hbody : fn.body.isNone = false) (hname : (fn.name == "runtime.NumGoroutine") = false) (hres : fn.results = #[]) (hN : 2 ≤ n)
  (hcall : ∀ (b off cap : Nat) (l : List Sp2) (w : World), HoldsK encSp 2 w b off l.toArray → b < w.heap.size → l.length < 4611686018427387904 →
   Calls P f #[.slice (some ⟨b, off, none⟩) l.length cap, .func (.func g) #[] #[]] w fun e w' => e = .returned (.tuple #[]) ∧ ∃ m os, w' = sortWorldK encSp 2 w b off m (sortLo l).toArray os)
  (hnone : ∀ (p : Option Addr) (cap : Nat) (w : World), Calls P f #[.slice p 0 cap, .func (.func g) #[] #[]] w fun e w' => e = .returned (.tuple #[]) ∧ w' = w) :
  FnOk P f ⟨n, [], [true, false], [(.one, [.own true kSp]), (.one, [.fn g []])], ⟨n + 4, [⟨n, .agg, [.own true kSp]⟩]⟩, fun d => if d.1.length ≤ 4294967296 then some (sortLo d.1) else none⟩ := by
 refine ⟨hN, fn, hf, hbody, hname, by rw [hres]; rfl, fun d b hT _ us w G hus hi hlaid => ?_⟩
 obtain ⟨l, dd0⟩ := d
 dsimp only at hT
 split at hT
 case isFalse => simp at hT
 rename_i hlen
 simp only [Option.some.injEq] at hT
 subst hT
 have hst := startE_slots (n := n) (md := [true, false]) (vals := encA [(PSh.one, [PC.own true kSp]), (PSh.one, [PC.fn g []])] (l, dd0)) (by simp [encA]; omega)
 obtain ⟨_, hsl, _⟩ := hst
 have g0 := (hsl 0 _ rfl).1
 have gn := (hsl 0 _ rfl).2.1
 have g1 := (hsl 1 _ rfl).1
 simp only [Nat.mul_zero, Nat.add_zero] at gn
 generalize hE : startE n [true, false] (encA [(PSh.one, [PC.own true kSp]), (PSh.one, [PC.fn g []])] (l, dd0)) = E at *
 have g0' : E.get 0 = { sh := .one, cs := [.ref n 0 0 0 [] none none kSp], cnt := 1 } := g0
 have gn' : E.get n = { sh := .agg, cs := [.own 0 0 true kSp l], cnt := 1 } := gn
 have g1' : E.get 1 = { sh := .one, cs := [.fn g []], cnt := 1 } := g1
 clear g0 gn g1
 obtain ⟨u0, u1, rfl⟩ : ∃ a b, us = [a, b] := by
  match us, hus with
  | [a, b], _ => exact ⟨a, b, rfl⟩
 have s0 := hi.slot 0
 have s1 := hi.slot 1
 have sn := hi.slot n
 have l0 := s0.len (by rw [g0']; simp)
 have l1 := s1.len (by rw [g1']; simp)
 have ln' := sn.len (by rw [gn']; simp)
 rw [g0'] at l0
 rw [g1'] at l1
 rw [gn'] at ln'
 obtain ⟨v0, e0⟩ : ∃ v, G.vs 0 = [v] := by
  match hv : G.vs 0, l0 with
  | [v], _ => exact ⟨v, rfl⟩
 obtain ⟨v1, e1⟩ : ∃ v, G.vs 1 = [v] := by
  match hv : G.vs 1, l1 with
  | [v], _ => exact ⟨v, rfl⟩
 obtain ⟨vn, en⟩ : ∃ v, G.vs n = [v] := by
  match hv : G.vs n, ln' with
  | [v], _ => exact ⟨v, rfl⟩
 have f0 := s0.form (Nat.lt_of_lt_of_le Nat.zero_lt_two hN)
 have f1 := s1.form (Nat.lt_of_lt_of_le Nat.one_lt_two hN)
 rw [g0', e0] at f0
 rw [g1', e1] at f1
 have f0' : ([u0, u1].toArray ++ Array.replicate (n - 2) undef)[0]? = some v0 := f0
 have f1' : ([u0, u1].toArray ++ Array.replicate (n - 2) undef)[1]? = some v1 := f1
 obtain rfl : u0 = v0 := by simpa [Array.getElem?_append] using f0'
 obtain rfl : u1 = v1 := by simpa [Array.getElem?_append] using f1'
 have c0 := s0.cells (by rw [g0']; simp) 0 _ u0 (by rw [g0']; rfl) (by rw [e0]; rfl)
 have c1 := s1.cells (by rw [g1']; simp) 0 _ u1 (by rw [g1']; rfl) (by rw [e1]; rfl)
 have cn := sn.cells (by rw [gn']; simp) 0 _ vn (by rw [gn']; rfl) (by rw [en]; rfl)
 obtain ⟨uc, _, hu1, huc, _⟩ := c1
 obtain rfl : uc = [] := List.eq_nil_of_length_eq_zero (by simpa using huc)
 subst hu1
 obtain ⟨_, _, hfit⟩ := c0
 obtain ⟨m, hd, hloc, hsl1, hsl2, hsl3⟩ := hfit 0 true kSp l (by rw [gn']; rfl) (.inl rfl)
 obtain ⟨_, _, hm, hhd⟩ := hloc
 have hm' : l.length = m := hm
 subst hm'
 have hhd' : hdOf (G.lt n 0) = hd := hhd
 have hrep := cn.1
 generalize hL : G.lt n 0 = L at hrep hhd'
 have hold : ∀ b, w.heap[b]? ≠ none → b < w.heap.size := fun b h => by
  rcases Nat.lt_or_ge b w.heap.size with q | q
  ·exact q
  ·exact absurd (by simp [q]) h
 have fin : ∀ w' : World, RepL true w' kSp.size (Rep true w' kSp) (sortLo l) L vn → w.heap.size ≤ w'.heap.size → SameEnv w w' → (∀ b', b' < w.heap.size → G.ow b' ≠ some n → w'.heap[b']? = w.heap[b']?) →
   ∃ tm1 G1, (results fn tm1).run P w' = .ok (.tuple #[]) w' ∧ Inv n (EP.enc ⟨n + 4, [⟨n, .agg, [.own true kSp]⟩]⟩ (sortLo l)) tm1 w' G1 ∧ Held n (n + 4) w w' G G1 ∧
    (EP.enc ⟨n + 4, [⟨n, .agg, [.own true kSp]⟩]⟩ (sortLo l)).length = n + 4 := by
  intro w' hr hsz henv hsame
  have hlen4 : (EP.enc ⟨n + 4, [⟨n, .agg, [.own true kSp]⟩]⟩ (sortLo l)).length = n + 4 := by simp only [EP.enc, encE_length]
  have hgn : Env.get (EP.enc ⟨n + 4, [⟨n, .agg, [.own true kSp]⟩]⟩ (sortLo l)) n = { sh := .agg, cs := [.own 0 0 true kSp (sortLo l)], cnt := 1 } := by
   have := encE_one (n + 4) 0 n ⟨n, .agg, [.own true kSp]⟩ (sortLo l) (by omega)
   rw [if_pos (by simp)] at this
   exact this
  have hgo : ∀ s, s ≠ n → Env.get (EP.enc ⟨n + 4, [⟨n, .agg, [.own true kSp]⟩]⟩ (sortLo l)) s = dd ∨ Env.get (EP.enc ⟨n + 4, [⟨n, .agg, [.own true kSp]⟩]⟩ (sortLo l)) s = {} := by
   intro s hs
   rcases Nat.lt_or_ge s (n + 4) with h | h
   ·left
    have := encE_one (n + 4) 0 s ⟨n, .agg, [.own true kSp]⟩ (sortLo l) h
    rw [if_neg (by simp; omega)] at this
    exact this
   ·right
    exact get_over (by rw [hlen4]; exact h)
  have hfp : fpS G n { sh := .agg, cs := [.own 0 0 true kSp (sortLo l)], cnt := 1 } = fpS G n (E.get n) := by rw [gn']; rfl
  refine ⟨Array.replicate n undef, G, results_none hres _ _ _, ⟨by simp, by rw [hlen4]; omega, fun s => ?_, fun b s h => Nat.lt_of_lt_of_le (hi.lt b s h) hsz⟩,
   ⟨fun b h1 h2 => ⟨hsame b (hold b h2) (by rw [h1]; simp), h1⟩, fun s hs => ⟨fun _ => ⟨rfl, fun j => rfl⟩, rfl⟩, fun b t h1 h2 h3 => ⟨hsame b (hold b h3) (by rw [h1]; simp; omega), h1⟩⟩, hlen4⟩
  by_cases hs : s = n
  ·subst hs
   refine ⟨fun h => absurd h (Nat.lt_irrefl _), fun bv hb => ?_, fun _ => ?_, fun _ j c v hc hv => ?_, fun _ j rv sv d k l' hc => ?_, ?_, ?_, fun h => ?_⟩
   ·rw [hgn] at hb; cases hb
   ·rw [hgn, en]; rfl
   ·rw [hgn] at hc
    rw [en] at hv
    match j with
    | 0 =>
     simp only [List.getElem?_cons_zero, Option.some.injEq] at hc hv
     subst hc hv
     rw [hL]
     exact ⟨hr, fun h => by simp at h⟩
    | j + 1 => simp at hc
   ·rw [hgn] at hc ⊢
    match j with
    | 0 =>
     simp only [List.getElem?_cons_zero, Option.some.injEq, C.own.injEq] at hc
     obtain ⟨rfl, rfl, _⟩ := hc
     exact ⟨Nat.one_pos, Nat.one_pos⟩
    | j + 1 => simp at hc
   ·rw [hgn, hfp]; exact sn.nodup
   ·rw [hgn, hfp]; exact sn.own
   ·rw [hgn] at h; cases h
  ·rcases hgo s hs with h | h
   ·exact SlotOk.deadOne h
   ·exact SlotOk.nothing h
 have hsame0 : (sortLo l = l) → ∀ (p : Option Addr) (cap : Nat), u0 = .slice p 0 cap → Calls P f #[u0, .func (.func g) #[] #[]] w fun en w' => ∃ tm1 G1 u, en = .returned u ∧ (results fn tm1).run P w' = .ok u w' ∧
   Inv n (EP.enc ⟨n + 4, [⟨n, .agg, [.own true kSp]⟩]⟩ (sortLo l)) tm1 w' G1 ∧ Held n (n + 4) w w' G G1 ∧ w.heap.size ≤ w'.heap.size ∧ (EP.enc ⟨n + 4, [⟨n, .agg, [.own true kSp]⟩]⟩ (sortLo l)).length = n + 4 ∧ SameEnv w w' := by
  rintro hs p cap rfl
  refine (hnone p cap w).mono ?_
  rintro en w' ⟨rfl, rfl⟩
  obtain ⟨tm1, G1, q1, q2, q3, q4⟩ := fin w' (by rw [hs]; exact hrep) (Nat.le_refl _) SameEnv.refl (fun _ _ _ => rfl)
  exact ⟨tm1, G1, _, rfl, q1, q2, q3, Nat.le_refl _, q4, SameEnv.refl⟩
 have hnil : l = [] → sortLo l = l := by
  rintro rfl
  exact List.eq_nil_of_length_eq_zero (by rw [sortLo_length]; rfl)
 unfold RepL at hrep
 rcases hrep with ⟨rfl, hl0, a, cap, rfl, hcap⟩ | ⟨b, off, cap, rows, rfl, hvn, hcap, hrl, hb, hroom, hrows⟩
 ·subst hhd'
  obtain ⟨a', hu, _⟩ := hsl3
  exact hsame0 (hnil hl0) _ _ hu
 ·subst hhd'
  obtain ⟨hc1, o, hu, ho⟩ := hsl3
  by_cases hl0 : l = []
  ·subst hl0
   exact hsame0 (hnil rfl) _ _ hu
  ·have hpos : 0 < l.length := by
    cases l with
    | nil => exact absurd rfl hl0
    | cons _ _ => simp
   have ho' : o = off := by
    have := ho (by simp only [Option.getD_none]; omega)
    simpa using this
   subst ho'
   have hu' : u0 = .slice (some ⟨b, o, none⟩) l.length cap := by simpa using hu
   obtain ⟨cs, ce, fr, hblk, hsz, hfr⟩ := hroom rfl
   have hk2 : kSp.size = 2 := rfl
   rw [hk2] at hsz
   have hblt : b < w.heap.size := hold b hb
   have hcellv : ∀ (i : Nat) (x : Sp2), l[i]? = some x → w.cell? ⟨b, o + i * 2, none⟩ = some (.int .i64 x.1) ∧ w.cell? ⟨b, o + i * 2 + 1, none⟩ = some (.int .i64 x.2) := by
    intro i x hx
    have hil := (List.getElem?_eq_some_iff.1 hx).1
    obtain ⟨vs, h1, h2⟩ := hrows i x _ hx (List.getElem?_eq_getElem (by rw [hrl]; exact hil))
    simp only [Rep] at h2
    obtain ⟨La, Lb, c1, c2, _, rfl, rfl, rfl⟩ := h2
    exact ⟨h1 0 _ rfl, h1 1 _ rfl⟩
   have hH : HoldsK encSp 2 w b o l.toArray := by
    intro j hj
    rw [size_flatK] at hj
    simp only [List.size_toArray] at hj
    rw [get_flatK _ _ _ _ (by simpa using hj)]
    have hjl : j / 2 < l.length := by omega
    have hge : l.toArray[j / 2]! = l[j / 2] := by rw [getElem!_pos _ (j / 2) (by simpa using hjl)]; simp
    rw [hge]
    obtain ⟨q1, q2⟩ := hcellv (j / 2) l[j / 2] (List.getElem?_eq_getElem hjl)
    refine ⟨?_, frozen_room hblk (by omega) hfr⟩
    rcases Nat.mod_two_eq_zero_or_one j with hm | hm
    ·rw [hm, show o + j = o + j / 2 * 2 by omega, q1]; rfl
    ·rw [hm, show o + j = o + j / 2 * 2 + 1 by omega, q2]; rfl
   rw [hu']
   refine (hcall b o cap l w hH hblt (by omega)).mono ?_
   rintro en w' ⟨rfl, m, os, rfl⟩
   have hsz' : (sortLo l).toArray.size = l.toArray.size := by simp [sortLo_length]
   have hH' := holdsK_sortWorldK_c encSp 2 w b o l.toArray (sortLo l).toArray m os hH hblt hsz'
   have hsize := size_sortWorldK_c encSp 2 w b o m (sortLo l).toArray os
   have hheap : ∀ b', b' < w.heap.size → (sortWorldK encSp 2 w b o m (sortLo l).toArray os).heap[b']? = if b' = b then some (.cells (putCells id o (flatK encSp 2 (sortLo l).toArray) cs) ce fr) else w.heap[b']? := by
    intro b' hb'
    unfold sortWorldK putRowK putRow mapBlock grow Sort.ahead
    simp only
    rw [Array.getElem?_append_left (by simpa using hb'), Array.getElem?_modify]
    by_cases q : b = b'
    ·subst q
     rw [if_pos rfl, if_pos rfl, hblk]; rfl
    ·rw [if_neg q, if_neg (fun z => q z.symm)]
   have hown : G.ow b = some n := by
    refine sn.own b ?_
    rw [gn']
    simp only [fpS, fpCells, ownB, fp, hL]
    simp
   have hrep' : RepL true (sortWorldK encSp 2 w b o m (sortLo l).toArray os) kSp.size (Rep true (sortWorldK encSp 2 w b o m (sortLo l).toArray os) kSp) (sortLo l) (.node b o cap rows) vn := by
    refine .inr ⟨b, o, cap, rows, rfl, by rw [hvn, sortLo_length], by rw [sortLo_length]; exact hcap, by rw [sortLo_length]; exact hrl, by rw [hheap b hblt, if_pos rfl]; simp, fun _ => ?_, fun i x r hx hr => ?_⟩
    ·exact ⟨_, ce, fr, by rw [hheap b hblt, if_pos rfl], by simp [putCells]; exact hsz, by simp [putCells]; exact hfr⟩
    ·have hil : i < (sortLo l).length := (List.getElem?_eq_some_iff.1 hx).1
     have hil' : i < l.length := by rw [sortLo_length] at hil; exact hil
     obtain ⟨vs0, _, h2⟩ := hrows i _ r (List.getElem?_eq_getElem hil') hr
     simp only [Rep] at h2
     obtain ⟨La, Lb, _, _, hrr, _⟩ := h2
     have hge : (sortLo l).toArray[i]! = x := by
      rw [getElem!_pos _ i (by simpa using hil)]
      have := (List.getElem?_eq_some_iff.1 hx).2
      simpa using this
     refine ⟨[.int .i64 x.1, .int .i64 x.2], fun j v hj => ?_, ?_⟩
     ·match j with
      | 0 =>
       simp only [List.getElem?_cons_zero, Option.some.injEq] at hj
       subst hj
       have := (hH'.cell (i := i) (c := 0) (by simpa using hil) (by omega)).1
       rw [hge] at this
       exact this
      | 1 =>
       simp only [List.getElem?_cons_succ, List.getElem?_cons_zero, Option.some.injEq] at hj
       subst hj
       have := (hH'.cell (i := i) (c := 1) (by simpa using hil) (by omega)).1
       rw [hge] at this
       exact this
      | j + 2 => simp at hj
     ·simp only [Rep]
      exact ⟨La, Lb, [_], [_], hrr, rfl, rfl, rfl⟩
   have henv : SameEnv w (sortWorldK encSp 2 w b o m (sortLo l).toArray os) := ⟨rfl, rfl, rfl⟩
   obtain ⟨tm1, G1, q1, q2, q3, q4⟩ := fin _ hrep' hsize henv (fun b' hb' hne => by
    rw [hheap b' hb', if_neg]
    rintro rfl
    exact hne hown)
   exact ⟨tm1, G1, _, rfl, q1, q2, q3, hsize, q4, henv⟩
end Go.Mach
namespace Go.Proofs
open Go.Shelf
def Tryz.sortSp_ren : Go.Shelf.Ren := ⟨fun | 6 => 178 | 15 => 210 | 14 => 209 | 28 => 227 | 29 => 228 | 20 => 219 | 21 => 220 | 22 => 221 | 23 => 222 | 24 => 223 | 25 => 224 | 26 => 225 | 27 => 226 | 46 => 234 | 47 => 235 | 48 => 236 | 49 => 237 | 50 => 238 | 57 => 240 | n => n, fun | 22 => 32 | 24 => 95 | 25 => 179 | 3 => 3 | 39 => 130 | 0 => 0 | 53 => 223 | 55 => 225 | 4 => 4 | 46 => 216 | 45 => 215 | 50 => 220 | 5 => 5 | 9 => 9 | 66 => 228 | 70 => 232 | 76 => 235 | 77 => 210 | n => n, fun | n => n⟩
theorem Tryz.sortSp : Go.Proofs.SlLaysF0.n6 Tryz.prog Tryz.sortSp_ren := {
  mixed := by kernel_rfl
  f6 := ⟨Tryz.f178.name, by decide, Tryz.func178.trans (congrArg some (by kernel_rfl))⟩
  f14 := ⟨Tryz.f209.name, by decide, Tryz.func209.trans (congrArg some (by kernel_rfl))⟩
  f15 := Tryz.func210.trans (congrArg some (by kernel_rfl))
  f20 := ⟨Tryz.f219.name, by decide, Tryz.func219.trans (congrArg some (by kernel_rfl))⟩
  f21 := ⟨Tryz.f220.name, by decide, Tryz.func220.trans (congrArg some (by kernel_rfl))⟩
  f22 := ⟨Tryz.f221.name, by decide, Tryz.func221.trans (congrArg some (by kernel_rfl))⟩
  f23 := ⟨Tryz.f222.name, by decide, Tryz.func222.trans (congrArg some (by kernel_rfl))⟩
  f24 := ⟨Tryz.f223.name, by decide, Tryz.func223.trans (congrArg some (by kernel_rfl))⟩
  f25 := ⟨Tryz.f224.name, by decide, Tryz.func224.trans (congrArg some (by kernel_rfl))⟩
  f26 := ⟨Tryz.f225.name, by decide, Tryz.func225.trans (congrArg some (by kernel_rfl))⟩
  f27 := ⟨Tryz.f226.name, by decide, Tryz.func226.trans (congrArg some (by kernel_rfl))⟩
  f28 := Tryz.func227.trans (congrArg some (by kernel_rfl))
  f29 := Tryz.func228.trans (congrArg some (by kernel_rfl))
  f46 := ⟨Tryz.f234.name, by decide, Tryz.func234.trans (congrArg some (by kernel_rfl))⟩
  f47 := Tryz.func235.trans (congrArg some (by kernel_rfl))
  f48 := Tryz.func236.trans (congrArg some (by kernel_rfl))
  f49 := ⟨Tryz.f237.name, by decide, Tryz.func237.trans (congrArg some (by kernel_rfl))⟩
  f50 := ⟨Tryz.f238.name, by decide, Tryz.func238.trans (congrArg some (by kernel_rfl))⟩
  f57 := ⟨Tryz.f240.name, by decide, Tryz.func240.trans (congrArg some (by kernel_rfl))⟩
  t0 := Tryz.underlying0
  a0 := Tryz.isAgg0
  z0 := Tryz.sizeOf0
  v0 := Tryz.zeroValue0
  t3 := Tryz.underlying3
  a3 := Tryz.isAgg3
  z3 := Tryz.sizeOf3
  v3 := Tryz.zeroValue3
  t4 := Tryz.underlying4
  a4 := Tryz.isAgg4
  z4 := Tryz.sizeOf4
  v4 := Tryz.zeroValue4
  t5 := Tryz.underlying5
  a5 := Tryz.isAgg5
  z5 := Tryz.sizeOf5
  v5 := Tryz.zeroValue5
  t9 := Tryz.underlying9
  a9 := Tryz.isAgg9
  z9 := Tryz.sizeOf9
  v9 := Tryz.zeroValue9
  t22 := Tryz.underlying32
  a22 := Tryz.isAgg32
  z22 := Tryz.sizeOf32
  v22 := Tryz.zeroValue32
  t25 := Tryz.underlying179
  a25 := Tryz.isAgg179
  z25 := Tryz.sizeOf179
  v25 := Tryz.zeroValue179
  t39 := Tryz.underlying130
  a39 := Tryz.isAgg130
  z39 := Tryz.sizeOf130
  v39 := Tryz.zeroValue130
  t45 := Tryz.underlying215
  a45 := Tryz.isAgg215
  z45 := Tryz.sizeOf215
  v45 := Tryz.zeroValue215
  t46 := Tryz.underlying216
  a46 := Tryz.isAgg216
  z46 := Tryz.sizeOf216
  v46 := Tryz.zeroValue216
  t50 := Tryz.underlying220
  a50 := Tryz.isAgg220
  z50 := Tryz.sizeOf220
  v50 := Tryz.zeroValue220
  t53 := Tryz.underlying223
  a53 := Tryz.isAgg223
  z53 := Tryz.sizeOf223
  v53 := Tryz.zeroValue223
  t55 := Tryz.underlying225
  a55 := Tryz.isAgg225
  z55 := Tryz.sizeOf225
  v55 := Tryz.zeroValue225
  t66 := Tryz.underlying228
  a66 := Tryz.isAgg228
  z66 := Tryz.sizeOf228
  v66 := Tryz.zeroValue228
  t70 := Tryz.underlying232
  a70 := Tryz.isAgg232
  z70 := Tryz.sizeOf232
  v70 := Tryz.zeroValue232
  t76 := Tryz.underlying235
  a76 := Tryz.isAgg235
  z76 := Tryz.sizeOf235
  v76 := Tryz.zeroValue235
  t77 := Tryz.underlying210
  a77 := Tryz.isAgg210
  z77 := Tryz.sizeOf210
  v77 := Tryz.zeroValue210 }
def Tryz.cmpSp_ren : Go.Shelf.Ren := ⟨fun | 5 => 180 | 7 => 211 | n => n, fun | 22 => 3 | 3 => 3 | 4 => 4 | n => n, fun | n => n⟩
theorem Tryz.cmpSp : Go.Proofs.SlLaysC2.n5 Tryz.prog Tryz.cmpSp_ren := {
  mixed := by kernel_rfl
  f5 := ⟨Tryz.f180.name, by decide, Tryz.func180.trans (congrArg some (by kernel_rfl))⟩
  f7 := ⟨Tryz.f211.name, by decide, Tryz.func211.trans (congrArg some (by kernel_rfl))⟩
  t3 := Tryz.underlying3
  a3 := Tryz.isAgg3
  z3 := Tryz.sizeOf3
  v3 := Tryz.zeroValue3
  t4 := Tryz.underlying4
  a4 := Tryz.isAgg4
  z4 := Tryz.sizeOf4
  v4 := Tryz.zeroValue4
  t22 := Tryz.underlying3
  a22 := Tryz.isAgg3
  z22 := Tryz.sizeOf3
  v22 := Tryz.zeroValue3 }
end Go.Proofs
