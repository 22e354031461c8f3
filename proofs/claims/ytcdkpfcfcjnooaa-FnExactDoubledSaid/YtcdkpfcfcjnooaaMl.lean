/- The machine, part l: elements, loads, slices. No condition: lemmas. -/
import Derived.Test.YtcdkpfcfcjnooaaMk
namespace Go.Mach
set_option linter.unusedVariables false
set_option linter.unusedSimpArgs false

section ops
variable {P : Program} {n : Nat} {e : Env} {a : Act} {w : World} {G : Gh} {get : Nat → Slot} {o : Oper} {x : Ctx} {ws : Writes}

theorem offOf_eq (a : Option Nat) (m : Nat) : offOf a m = a.getD 0 + m := by cases a <;> simp [offOf]

theorem run_indexAt_slice {t el : Nat} {i : TypeInfo} (hu : P.underlying t = some (.slice el)) (hi : P.info? el = some i) {b o' len cap m : Nat} (hm : m < len) (ik : IntKind) (w : World) :
    (Instr.indexAt t (.slice (some ⟨b, o', none⟩) len cap) (.int ik (m : Int))).run P w = .ok (.pointer (some ⟨b, o' + m * (tyOf P el).size, none⟩)) w := by
  have h1 : (0 : Int) ≤ (m : Int) ∧ (m : Int) < (len : Int) := by omega
  simp only [Instr.indexAt, asIntOf, Sem.run_bind, Sem.run_pure, Result.andThen_ok, run_und hu, if_pos h1, run_size hi, Int.toNat_natCast, addr_add]

theorem run_indexAt_arr {t len el : Nat} {i : TypeInfo} (hu : P.underlying t = some (.array len el)) (hi : P.info? el = some i) {b o' m : Nat} (hm : m < len) (ik : IntKind) (w : World) :
    (Instr.indexAt t (.pointer (some ⟨b, o', none⟩)) (.int ik (m : Int))).run P w = .ok (.pointer (some ⟨b, o' + m * (tyOf P el).size, none⟩)) w := by
  have h1 : (0 : Int) ≤ (m : Int) ∧ (m : Int) < (len : Int) := by omega
  simp only [Instr.indexAt, asIntOf, Sem.run_bind, Sem.run_pure, Result.andThen_ok, run_und hu, Instr.sureAddr, if_pos h1, run_size hi, Int.toNat_natCast, addr_add]

/-- An element of a list that nobody writes, as a row of plain cells. -/
theorem pim_of {k : K} {y : k.T} {L : LT} {vs : List Value} {b o' : Nat} (hrep : Rep false w k y L vs) (hrow : RowAt w b o' vs) (how : ∀ b' ∈ fp k L, G.ow b' = none) (hb : G.ow b = none) (hh : w.heap[b]? ≠ none) :
    CellOk e w G (.pim ((leaves k y).map fun g => .dat g.1 g.2) 0) (.pointer (some ⟨b, o', none⟩)) .leaf := by
  refine ⟨b, o', vs, fun i => leafL k L i, by simp, hb, hh, hrow, by rw [List.length_map, leaves_length, hrep.size], fun i c u hc hu => ?_⟩
  rw [List.getElem?_map] at hc
  have hi : i < k.size := by
    rcases Nat.lt_or_ge i k.size with g | g
    · exact g
    · rw [List.getElem?_eq_none (by rw [leaves_length]; exact g)] at hc; simp at hc
  rw [leaves_get k y i hi] at hc
  simp only [Option.map_some, Option.some.injEq] at hc
  subst hc
  obtain ⟨v, q1, q2, q3⟩ := hrep.leaf hi
  rw [q1] at hu
  simp only [Option.some.injEq] at hu
  subst hu
  exact ⟨q2, fun b' hb' => how b' (q3 b' hb')⟩

theorem sound_indexAddr {ty : TypeId} {y z : Operand} (hty : ∀ t, x.ty t = tyOf P t) (hb : Begin n e a w G get o) (ho : o.op = .indexAddr ty y z) (h : act x get o = some ws) : Sound P n e a w G o ws := by
  simp only [act, ho] at h
  split at h
  · rename_i c i hc hi
    split at h
    · rename_i m hm
      split at h
      · rename_i c' hidx
        obtain ⟨L, h1, hnoL⟩ := hb.one (by simp [ho, Op.operands]) hc
        obtain ⟨M, h2, hnoM⟩ := hb.one (by simp [ho, Op.operands]) hi
        obtain ⟨ik, hq⟩ := nat_of hm h2
        unfold indexC at hidx
        split at hidx
        · rename_i et hd
          rw [hty] at hd
          have hu := ty_slice hd
          split at hidx
          · rename_i k l
            split at hidx
            · rename_i hlt
              obtain ⟨hlt, hsz⟩ := hlt
              simp only [Option.some.injEq] at hidx
              subst hidx
              rw [hty] at hsz
              obtain ⟨inf, hinf⟩ := ty_size_info (P := P) (t := et) (by rw [hsz]; have := k.size_pos; omega)
              obtain ⟨h1, h1o⟩ := h1
              simp only [Rep] at h1
              obtain ⟨u, hu', h1⟩ := h1
              simp only [List.cons.injEq, and_true] at hu'
              have hth := h1.there
              obtain ⟨b, off, cap, rows, r, vs, rfl, hv, _, _, hr, hrow, hrep⟩ := h1.elem hlt
              have hrm : r ∈ rows := List.mem_of_getElem? hr
              have hcell : CellOk e w G (.pim ((leaves k (l.getD m k.dflt)).map fun g => .dat g.1 g.2) 0) (.pointer (some ⟨b, off + m * k.size, none⟩)) .leaf :=
                pim_of hrep hrow (fun b' hb' => h1o b' (by simp only [fp, List.mem_cons, List.mem_flatMap]; exact .inr ⟨r, hrm, hb'⟩)) (h1o b (by simp [fp])) (hth b (by simp [fp]))
              obtain ⟨G', hp⟩ := hb.cell hcell rfl h
              refine Sound.value ?_ hp
              simp only [execOp, ho, hu', hv, hq]
              rw [← hsz]
              exact run_v (run_indexAt_slice hu hinf hlt ik w)
            · simp at hidx
          · rename_i s j rv sv p lo hi' k
            split at hidx
            · rename_i len hlen
              split at hidx
              · rename_i hlt
                obtain ⟨hlt, hsz⟩ := hlt
                simp only [Option.some.injEq] at hidx
                subst hidx
                rw [hty] at hsz
                obtain ⟨inf, hinf⟩ := ty_size_info (P := P) (t := et) (by rw [hsz]; have := k.size_pos; omega)
                simp only [lenC] at hlen
                cases hcon : content get s j rv sv p k with
                | none => rw [hcon] at hlen; simp at hlen
                | some q =>
                  obtain ⟨d, l⟩ := q
                  rw [hcon] at hlen
                  simp only [Option.map_some, Option.some.injEq] at hlen
                  obtain ⟨sv', k0, l0, g1, g2, g3⟩ := content_ok hb.sees hcon
                  obtain ⟨r1, r2, r3, r4⟩ := ref_reads hb.inv h1 g1 g2 g3
                  have hlc := cut_length lo hi' l r1.2.1
                  obtain ⟨s1, s2, s3⟩ := r1
                  cases hhd : hdOf (subL k0 (G.lt s j) p) with
                  | none =>
                    rw [hhd] at s3
                    obtain ⟨_, _, s3⟩ := s3
                    omega
                  | some bb =>
                    obtain ⟨b, off, cap⟩ := bb
                    rw [hhd] at s3
                    obtain ⟨s4, o', hv, s5⟩ := s3
                    have hcap : cap - lo.getD 0 ≠ 0 := by omega
                    have s5 := s5 hcap
                    subst s5
                    have hcell : CellOk e w G (.aptr s j rv sv p (offOf lo m) 0 k) (.pointer (some ⟨b, off + (lo.getD 0 + m) * k.size, none⟩)) .leaf := by
                      refine ⟨⟨_, _, rfl⟩, h1.1, h1.2.1, fun sv1 d1 k1 l1 q1 q2 => ?_⟩
                      have q1 := some_of_getD q1 (by simp)
                      rw [g1] at q1
                      simp only [Option.some.injEq, C.own.injEq] at q1
                      obtain ⟨_, rfl, rfl, rfl, q1⟩ := q1
                      have q1 := eq_of_heq q1
                      subst q1
                      refine ⟨l.length, b, off, cap, ⟨r2, by rw [g3], by rw [g3], hhd⟩, ?_, ?_⟩
                      · rw [offOf_eq]; omega
                      · rw [offOf_eq]; simp
                    obtain ⟨G', hp⟩ := hb.cell hcell rfl h
                    refine Sound.value ?_ hp
                    simp only [execOp, ho, hv, hq]
                    rw [Nat.add_mul, ← Nat.add_assoc, ← hsz]
                    exact run_v (run_indexAt_slice hu hinf (by omega) ik w)
              · simp at hidx
            · simp at hidx
          · simp at hidx
        · rename_i len et hd
          rw [hty] at hd
          have hu := ty_arr hd
          split at hidx
          · rename_i s bv j
            split at hidx
            · rename_i hlt
              obtain ⟨hlt, hsz⟩ := hlt
              simp only [Option.some.injEq] at hidx
              subst hidx
              rw [hty] at h hsz
              obtain ⟨b, o', hv⟩ := ptr_val h1 rfl
              obtain ⟨inf, hinf⟩ := ty_size_info hsz
              obtain ⟨h3, h4⟩ := addC_ok (c := .bptr s bv j) (off := m * (tyOf P et).size) h1 rfl hv
              obtain ⟨G', hp⟩ := hb.cell h3 h4 h
              refine Sound.value ?_ hp
              simp only [execOp, ho, hv, hq]
              exact run_v (run_indexAt_arr hu hinf hlt ik w)
            · simp at hidx
          · simp at hidx
        · simp at hidx
      · simp at h
    · simp at h
  · simp at h

/-! ### Loads -/
theorem run_loadAt {t : Nat} (hok : (tyOf P t).ok = true) {b o' : Nat} {vs : List Value} (hrow : RowAt w b o' vs) (hl : vs.length = (tyOf P t).size) :
    (Instr.loadAt t (.pointer (some ⟨b, o', none⟩))).run P w = .ok (form (partShape (tyOf P t)) vs) w := by
  obtain ⟨i, d, hi, hu, h1, hag⟩ := ty_ok hok
  have hag := congrFun hag w
  have hadd : ∀ (j : Nat) (v : Value), vs[j]? = some v → w.cell? ((⟨b, o', none⟩ : Addr).add j) = some v := fun j v hv => by rw [addr_add]; exact hrow j v hv
  simp only [Instr.loadAt, Instr.sureAddr, loadVar, Sem.run_bind, Sem.run_pure, Result.andThen_ok, hag]
  cases hh : (tyOf P t).agg with
  | true =>
    simp only [if_true, Sem.run_bind, run_size hi, Result.andThen_ok, partShape, hh, form]
    rw [← hl, run_loadCells_list w _ vs hadd]
    rfl
  | false =>
    have h1 := h1 hh
    rw [(ty_size hi).1, h1] at hl
    match vs, hl with
    | [v], _ =>
      have hc := hadd 0 v rfl
      have h0 : ((⟨b, o', none⟩ : Addr).add 0) = ⟨b, o', none⟩ := by rw [addr_add]; rfl
      rw [h0] at hc
      simp only [Bool.false_eq_true, if_false, partShape, hh, form, List.headD_cons]
      simp only [load, Sem.run, hc]

theorem getElem_cells {w : World} {b : Nat} {vs : List Value} {ty : TypeId} {fr : Nat × Nat} (h : w.heap[b]? = some (.cells vs.toArray ty fr)) (i : Nat) : w.cell? ⟨b, i, none⟩ = vs[i]? := by
  simp [World.cell?, h]

theorem leafC_ok {s j rv sv : Nat} {p : Path} {k : K} {l : List k.T} {k0 : K} {l0 : List k0.T} {sv' : Nat} {d : Bool} (hinv : Inv n e a.tmps w G) (h1 : (e.get s).cs[j]? = some (.own rv sv' d k0 l0)) (h2 : p = [] ∨ (sv = sv' ∧ d = true))
    (hp : PathOk k0 l0 p) (hl : getP k0 l0 p = ⟨k, l⟩) {i c : Nat} (hi : i < l.length) (hc : c < k.size) {b off cap : Nat} {rows : List LT} (hL : subL k0 (G.lt s j) p = .node b off cap rows)
    {r : LT} {vs : List Value} (hr : rows[i]? = some r) (hrep : Rep d w k (l.getD i k.dflt) r vs) (hdf : d = false → ∀ b ∈ fp k r, G.ow b = none) {v : Value} (hv : vs[c]? = some v) :
    CellOk e w G (leafC s j rv sv' p i c d (leafV k (l.getD i k.dflt) c)) v (leafL k r c) ∧ (leafC s j rv sv' p i c d (leafV k (l.getD i k.dflt) c)).isOwn = false := by
  obtain ⟨v1, q1, q2, q3⟩ := hrep.leaf hc
  rw [q1] at hv
  simp only [Option.some.injEq] at hv
  subst hv
  obtain ⟨u, hu, hcell⟩ := hinv.val h1
  have hsh : (e.get s).sh ≠ .dead := fun q => by rw [(hinv.slot s).dead q] at h1; simp at h1
  have hvers := (hinv.slot s).vers hsh j rv sv' d k0 l0 h1
  have hns : ∀ (k' : K) (y : k'.T), leafV k (l.getD i k.dflt) c = ⟨k', y⟩ → k'.flat = true → CellOk e w G (.dat k' y) v1 (leafL k r c) := by
    intro k' y hq hf
    rw [hq] at q2
    simp only at q2
    exact ⟨q2.flat hf, by rw [fp_flat hf]; simp⟩
  cases hq : leafV k (l.getD i k.dflt) c with
  | mk k' y =>
    cases k' with
    | list k2 =>
      simp only [leafC]
      cases d with
      | false =>
        simp only [Bool.false_eq_true, if_false]
        rw [hq] at q2 q3
        simp only at q2 q3
        exact ⟨⟨q2, fun b' hb' => hdf rfl b' (q3 b' hb')⟩, rfl⟩
      | true =>
        simp only [if_true]
        refine ⟨⟨hvers.1, fun _ => hvers.2, fun sv1 d1 k1 l1 z1 z2 => ?_⟩, rfl⟩
        have z1 := some_of_getD z1 (by simp)
        rw [h1] at z1
        simp only [Option.some.injEq, C.own.injEq] at z1
        obtain ⟨_, rfl, rfl, rfl, z1⟩ := z1
        have z1 := eq_of_heq z1
        subst z1
        obtain ⟨s1, s2, s3⟩ := path_snoc p k0 l0 (G.lt s j) i c hp hl hi hc hq
        have s3 := s3 b off cap rows hL
        have hrd : rows.getD i .leaf = r := by simp [List.getD_eq_getElem?_getD, hr]
        rw [hrd] at s3
        refine ⟨y.length, hdOf (leafL k r c), ⟨s1, by rw [s2], by rw [s2], by rw [s3]⟩, ?_⟩
        rw [hq] at q2
        simp only [Rep] at q2
        obtain ⟨v2, e1, e2⟩ := q2
        simp only [List.cons.injEq, and_true] at e1
        subst e1
        exact hd_of_repl e2 rfl
    | int ik => exact ⟨hns _ _ hq rfl, rfl⟩
    | bool => exact ⟨hns _ _ hq rfl, rfl⟩
    | str => exact ⟨hns _ _ hq rfl, rfl⟩
    | pair k2 k3 =>
      rw [hq] at q2
      have := q2.size
      simp only [List.length_singleton, K.size] at this
      have := k2.size_pos
      have := k3.size_pos
      omega

theorem readLeaves_get {k : K} {y : k.T} {s j rv sv : Nat} {p : Path} {i : Nat} {d : Bool} : ∀ (m c q : Nat), q < m → (readLeaves k y s j rv sv p i d c m)[q]? = some (leafC s j rv sv p i (c + q) d (leafV k y (c + q)))
  | 0, c, q, h => by omega
  | m + 1, c, 0, h => by simp [readLeaves]
  | m + 1, c, q + 1, h => by
    simp only [readLeaves, List.getElem?_cons_succ]
    rw [readLeaves_get m (c + 1) q (by omega), show c + 1 + q = c + (q + 1) by omega]

theorem readLeaves_length {k : K} {y : k.T} {s j rv sv : Nat} {p : Path} {i : Nat} {d : Bool} : ∀ (m c : Nat), (readLeaves k y s j rv sv p i d c m).length = m
  | 0, c => rfl
  | m + 1, c => by simp [readLeaves, readLeaves_length m]

theorem load_ok (hinv : Inv n e a.tmps w G) (hs : Sees get e) {c : C} {v : Value} {L : LT} (hc : CellOk e w G c v L) {m : Nat} {cs : List C} (h : loadC get m c = some cs) :
    ∃ b o' vs Ls, v = .pointer (some ⟨b, o', none⟩) ∧ vs.length = m ∧ RowAt w b o' vs ∧ CellsOk e w G cs vs Ls ∧ (∀ c ∈ cs, c.isOwn = false) := by
  cases c with
  | bptr s bv j =>
    simp only [loadC] at h
    split at h
    · rename_i hh
      simp only [Option.some.injEq] at h
      subst h
      obtain ⟨hsh, hl⟩ := hh
      have hg : get s = e.get s := by
        rcases hs s with q | q
        · exact q
        · rw [q] at hsh; simp at hsh
      rw [hg] at hsh hl ⊢
      have hslot := hinv.slot s
      have hsd : (e.get s).sh ≠ .dead := by rw [hsh]; simp
      have hlen := hslot.len hsd
      obtain ⟨_, ty, hheap⟩ := hslot.box bv hsh
      refine ⟨G.bk s, j, ((G.vs s).drop j).take m, fun i => G.lt s (j + i), hc.2.1 hsh, by simp; omega, fun i u hu => ?_, ⟨by rw [copyFrom_length]; simp; omega, fun i c' u hc' hu => ?_⟩, copyFrom_noOwn _ _ _⟩
      · rw [List.getElem?_take] at hu
        split at hu
        · rw [List.getElem?_drop] at hu
          rw [getElem_cells hheap]
          exact hu
        · simp at hu
      · rw [copyFrom_get, List.getElem?_take] at hc'
        rw [List.getElem?_take] at hu
        split at hc'
        · rename_i hi
          rw [if_pos hi, List.getElem?_drop] at hu
          rw [List.getElem?_drop] at hc'
          cases hq : (e.get s).cs[j + i]? with
          | none => rw [hq] at hc'; simp at hc'
          | some c0 =>
            rw [hq] at hc'
            simp only [Option.map_some, Option.some.injEq] at hc'
            subst hc'
            exact hslot.copy hq hu
        · simp at hc'
    · simp at h
  | pim cs0 j =>
    simp only [loadC] at h
    split at h
    · rename_i hl
      simp only [Option.some.injEq] at h
      subst h
      obtain ⟨b, o', vs, Ls, h1, h2, h3, h4, h5, h6⟩ := hc
      have hget : ∀ (i : Nat) c', ((cs0.drop j).take m)[i]? = some c' → ∃ u, vs[j + i]? = some u ∧ i < m ∧ cs0[j + i]? = some c' := by
        intro i c' hc'
        rw [List.getElem?_take] at hc'
        split at hc'
        · rename_i hi
          rw [List.getElem?_drop] at hc'
          have : j + i < cs0.length := by
            rcases Nat.lt_or_ge (j + i) cs0.length with g | g
            · exact g
            · rw [List.getElem?_eq_none g] at hc'; simp at hc'
          exact ⟨_, List.getElem?_eq_getElem (by omega), hi, hc'⟩
        · simp at hc'
      have hdat : ∀ (i : Nat) c' u, cs0[i]? = some c' → vs[i]? = some u → CellOk e w G c' u (Ls i) ∧ c'.isOwn = false := by
        intro i c' u z1 z2
        have := h6 i c' u z1 z2
        cases c' with
        | nil => exact ⟨this, rfl⟩
        | dat k y => exact ⟨this, rfl⟩
        | _ => exact this.elim
      refine ⟨b, o' + j, (vs.drop j).take m, fun i => Ls (j + i), h1, by simp; omega, fun i u hu => ?_, ⟨by simp; omega, fun i c' u hc' hu => ?_⟩, fun c' hc' => ?_⟩
      · rw [List.getElem?_take] at hu
        split at hu
        · rw [List.getElem?_drop] at hu
          rw [Nat.add_assoc]
          exact h4 (j + i) u hu
        · simp at hu
      · obtain ⟨u', z1, z2, z3⟩ := hget i c' hc'
        rw [List.getElem?_take, if_pos z2, List.getElem?_drop] at hu
        exact (hdat _ _ _ z3 hu).1
      · obtain ⟨i, hi⟩ := List.getElem?_of_mem hc'
        obtain ⟨u', z1, z2, z3⟩ := hget i c' hi
        exact (hdat _ _ _ z3 z1).2
    · simp at h
  | aptr s j rv sv p i c k =>
    simp only [loadC] at h
    split at h
    · rename_i rv' sv' d k0 l0 hcell
      split at h
      · rename_i hcond
        obtain ⟨rfl, hp, hcs⟩ := hcond
        cases hcl : castL (getP k0 l0 p).1 (getP k0 l0 p).2 k with
        | none => rw [hcl] at h; simp at h
        | some l =>
          rw [hcl] at h
          simp only at h
          split at h
          · rename_i hil
            simp only [Option.some.injEq] at h
            subst h
            have hown : (e.get s).cs[j]? = some (.own rv sv' d k0 l0) := by
              have := some_of_getD hcell (by simp)
              rcases hs s with q | q
              · rw [q] at this; exact this
              · rw [q] at this; simp at this
            have hl : getP k0 l0 p = ⟨k, l⟩ := castL_some hcl
            obtain ⟨mm, b, off, cap, ⟨q1, q2, q3, q4⟩, q5, q6⟩ := hc.2.2.2 sv' d k0 l0 (getD_some hown _) hp
            obtain ⟨u, hu, hin⟩ := hinv.at_path hown q1 (hp.imp id And.right) hl
            obtain ⟨b', off', cap', rows, r, vs, hL, _, _, hrl, hr, hrow, hrep⟩ := hu.elem hil
            rw [hL] at q4
            simp only [hdOf, Option.some.injEq, Prod.mk.injEq] at q4
            obtain ⟨rfl, rfl, rfl⟩ := q4
            have hvl := hrep.size
            have hdf : d = false → ∀ b ∈ fp k r, G.ow b = none := by
              intro hd b' hb'
              subst hd
              have hp0 : p = [] := hp.resolve_right (by simp)
              subst hp0
              rw [getP_nil] at hl
              simp only [Sigma.mk.injEq] at hl
              obtain ⟨rfl, hl⟩ := hl
              simp only [subL] at hL
              refine (hinv.ownBlocks hown).2.1 rfl b' ?_
              rw [hL]
              simp only [inner, List.mem_flatMap]
              exact ⟨r, List.mem_of_getElem? hr, hb'⟩
            have hleaf : ∀ (q : Nat), q < m → ∀ u, vs[c + q]? = some u → CellOk e w G (leafC s j rv sv' p i (c + q) d (leafV k (l.getD i k.dflt) (c + q))) u (leafL k r (c + q)) ∧ (leafC s j rv sv' p i (c + q) d (leafV k (l.getD i k.dflt) (c + q))).isOwn = false :=
              fun q hq u hu => leafC_ok hinv hown hp q1 hl hil (by omega) hL hr hrep hdf hu
            refine ⟨b', off' + i * k.size + c, (vs.drop c).take m, fun q => leafL k r (c + q), q6, by simp; omega, fun q u hu => ?_, ⟨by rw [readLeaves_length]; simp; omega, fun q c' u hc' hu => ?_⟩, fun c' hc' => ?_⟩
            · rw [List.getElem?_take] at hu
              split at hu
              · rw [List.getElem?_drop] at hu
                rw [Nat.add_assoc]
                exact hrow (c + q) u hu
              · simp at hu
            · have hq : q < m := by
                rcases Nat.lt_or_ge q m with g | g
                · exact g
                · rw [List.getElem?_eq_none (by rw [readLeaves_length]; exact g)] at hc'; simp at hc'
              rw [readLeaves_get m c q hq] at hc'
              simp only [Option.some.injEq] at hc'
              subst hc'
              rw [List.getElem?_take, if_pos hq, List.getElem?_drop] at hu
              exact (hleaf q hq u hu).1
            · obtain ⟨q, hq'⟩ := List.getElem?_of_mem hc'
              have hq : q < m := by
                rcases Nat.lt_or_ge q m with g | g
                · exact g
                · rw [List.getElem?_eq_none (by rw [readLeaves_length]; exact g)] at hq'; simp at hq'
              rw [readLeaves_get m c q hq] at hq'
              simp only [Option.some.injEq] at hq'
              subst hq'
              exact (hleaf q hq _ (List.getElem?_eq_getElem (by omega))).2
          · simp at h
      · simp at h
    · simp at h
  | _ => simp [loadC] at h

theorem sound_load {ty : TypeId} {y : Operand} (hty : ∀ t, x.ty t = tyOf P t) (hb : Begin n e a w G get o) (ho : o.op = .load ty y) (h : act x get o = some ws) : Sound P n e a w G o ws := by
  simp only [act, ho] at h
  split at h
  · rename_i c hc
    split at h
    · rename_i hok
      split at h
      · rename_i cs hload
        obtain ⟨L, h1, hno⟩ := hb.one (by simp [ho, Op.operands]) hc
        rw [hty] at hok hload h
        obtain ⟨b, o', vs, Ls, hv, hl, hrow, hcells, hnos⟩ := load_ok hb.inv hb.sees h1 hload
        have hval : ValOk e w G (partShape (tyOf P ty), cs) (form (partShape (tyOf P ty)) vs) vs Ls := ⟨hcells, rfl, hnos, partShape_box _, partShape_dead _⟩
        obtain ⟨G', hp⟩ := hb.done hval h
        refine Sound.value ?_ hp
        simp only [execOp, ho, hv]
        exact run_v (run_loadAt hok hrow hl)
      · simp at h
    · simp at h
  · simp at h

end ops

end Go.Mach
