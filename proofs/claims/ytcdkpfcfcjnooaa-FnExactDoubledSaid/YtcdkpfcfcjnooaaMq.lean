/- The machine, part q: built structs and rows. No condition: lemmas. -/
import Derived.Test.YtcdkpfcfcjnooaaMp
namespace Go.Mach
set_option linter.unusedVariables false
set_option linter.unusedSimpArgs false

theorem setFrom_length {α : Type} : ∀ (vs cs : List α) (j : Nat), (setFrom cs j vs).length = cs.length
  | [], cs, j => rfl
  | v :: r, cs, j => by rw [setFrom, setFrom_length r]; simp

theorem setFrom_get {α : Type} : ∀ (vs cs : List α) (j i : Nat), j + vs.length ≤ cs.length → (setFrom cs j vs)[i]? = if j ≤ i ∧ i < j + vs.length then vs[i - j]? else cs[i]?
  | [], cs, j, i, h => by
    rw [setFrom, if_neg (by simp only [List.length_nil]; omega)]
  | v :: r, cs, j, i, h => by
    simp only [List.length_cons] at h ⊢
    rw [setFrom, setFrom_get r _ (j + 1) i (by simp; omega)]
    by_cases h1 : j + 1 ≤ i ∧ i < j + 1 + r.length
    · rw [if_pos h1, if_pos (by omega), show i - j = (i - (j + 1)) + 1 by omega]
      rfl
    · rw [if_neg h1]
      by_cases h2 : i = j
      · subst h2
        rw [if_pos (by omega)]
        have : i < cs.length := by omega
        simp [this]
      · rw [if_neg (by omega)]
        rw [List.getElem?_set_ne (by omega)]

theorem fold_set (off : Nat) : ∀ (vs : List Value) (k : Nat) (cs : Array Value), ((vs.zipIdx k).foldl (fun cs (x : Value × Nat) => cs.setIfInBounds (off + x.2) x.1) cs).toList = setFrom cs.toList (off + k) vs
  | [], k, cs => rfl
  | v :: r, k, cs => by
    simp only [List.zipIdx_cons, List.foldl_cons]
    rw [fold_set off r (k + 1)]
    simp [setFrom, Nat.add_assoc]

theorem fill_fold (off : Nat) (vs : List Value) (cs : Array Value) : (vs.toArray.zipIdx.foldl (fun cs (x : Value × Nat) => cs.setIfInBounds (off + x.2) x.1) cs).toList = setFrom cs.toList off vs := by
  have := fold_set off vs 0 cs
  simpa using this

section ops
variable {P : Program} {n : Nat} {e : Env} {a : Act} {w : World} {G : Gh} {get : Nat → Slot} {o : Oper} {x : Ctx} {ws : Writes}

theorem CellsOk.setFrom {cs vs' : List C} {zs us : List Value} {Ls Ms : Nat → LT} (h : CellsOk e w G cs zs Ls) (h' : CellsOk e w G vs' us Ms) {j : Nat} (hj : j + vs'.length ≤ cs.length) :
    CellsOk e w G (Mach.setFrom cs j vs') (Mach.setFrom zs j us) (fun i => if j ≤ i ∧ i < j + vs'.length then Ms (i - j) else Ls i) := by
  refine ⟨by rw [setFrom_length, setFrom_length, h.len], fun i c v hc hv => ?_⟩
  rw [setFrom_get _ _ _ _ hj] at hc
  rw [setFrom_get _ _ _ _ (by rw [h.len, h'.len]; exact hj), h'.len] at hv
  split at hc
  · rename_i q
    rw [if_pos q] at hv
    simp only [if_pos q]
    exact h'.cell _ c v hc hv
  · rename_i q
    rw [if_neg q] at hv
    simp only [if_neg q]
    exact h.cell _ c v hc hv

theorem mem_setFrom {α : Type} : ∀ (vs cs : List α) (j : Nat) {c : α}, c ∈ setFrom cs j vs → c ∈ cs ∨ c ∈ vs
  | [], cs, j, c, h => .inl h
  | v :: r, cs, j, c, h => by
    rcases mem_setFrom r _ (j + 1) h with q | q
    · rcases List.mem_or_eq_of_mem_set q with q | q
      · exact .inl q
      · exact .inr (by simp [q])
    · exact .inr (by simp [q])

/-- A fill of cells stands for the fill of values. -/
theorem fill_ok (hb : Begin n e a w G get o) (place place' : Nat → Option (Nat × Nat)) (hp : ∀ i q, place i = some q → place' i = some q) : ∀ (parts : List (Nat × Operand)), (∀ p ∈ parts, p.2 ∈ o.op.operands) → ∀ {vs : List (Nat × Val)}, partVals get parts = some vs →
    ∀ {cells : List C} {zs : Array Value} {Ls : Nat → LT} (hc : CellsOk e w G cells zs.toList Ls) (hno : ∀ c ∈ cells, c.isOwn = false) {cells' : List C}, fillC get place cells vs = some cells' →
      ∃ zs' Ls', Instr.fill place' zs (parts.map fun p => (p.1, a.eval p.2)) = some zs' ∧ CellsOk e w G cells' zs'.toList Ls' ∧ (∀ c ∈ cells', c.isOwn = false) ∧ cells'.length = cells.length
  | [], hm, vs, hv, cells, zs, Ls, hc, hno, cells', h => by
    simp only [partVals, Option.some.injEq] at hv
    subst hv
    simp only [fillC, Option.some.injEq] at h
    subst h
    exact ⟨zs, Ls, rfl, hc, hno, rfl⟩
  | (i, y) :: r, hm, vs, hv, cells, zs, Ls, hc, hno, cells', h => by
    simp only [partVals] at hv
    split at hv
    · rename_i v vs' h1 h2
      simp only [Option.some.injEq] at hv
      subst hv
      simp only [fillC] at h
      split at h
      · rename_i off size hpl
        split at h
        · rename_i hq
          obtain ⟨q1, q2, q3⟩ := hq
          obtain ⟨us, Ms, hval⟩ := hb.opd (hm (i, y) (by simp)) h1
          obtain ⟨g1, g2⟩ := form_cells (n := n) (tm := a.tmps) hb.sees hval q3
          have hlen : us.length = size := by rw [hval.cells.len, q1]
          have hzl : zs.size = cells.length := by rw [← hc.len]; simp
          have hc' := hc.setFrom hval.cells (j := off) (by rw [q1]; exact q2)
          have hz' : (us.toArray.zipIdx.foldl (fun cs (x : Value × Nat) => cs.setIfInBounds (off + x.2) x.1) zs).toList = Mach.setFrom zs.toList off us := fill_fold off us zs
          rw [← hz'] at hc'
          obtain ⟨zs', Ls', k1, k2, k3, k4⟩ := fill_ok hb place place' hp r (fun p hp => hm p (by simp [hp])) h2 hc' (fun c hc => by
            rcases mem_setFrom _ _ _ hc with q | q
            · exact hno c q
            · exact hval.noOwn c q) h
          refine ⟨zs', Ls', ?_, k2, k3, by rw [k4, setFrom_length]⟩
          simp only [List.map_cons, Instr.fill, hp i _ hpl, g1]
          rw [if_neg (by simp only [List.size_toArray, hlen, hzl, decide_eq_true_eq, Bool.or_eq_true, ne_eq, not_or]; simp; omega)]
          exact k1
        · simp at h
      · simp at h
    · simp at hv

theorem run_places {fields : Array Field} (h : ∀ f ∈ fields, ∃ i, P.info? f.type = some i) (w : World) :
    (fields.mapM fun f => do pure (f.offset, ← sizeOf f.type) : Sem (Array (Nat × Nat))).run P w = .ok (fields.map fun f => (f.offset, (tyOf P f.type).size)) w := by
  rw [Array.mapM_eq_mapM_toList]
  have key : ∀ (l : List Field), (∀ f ∈ l, ∃ i, P.info? f.type = some i) → (l.mapM fun f => do pure (f.offset, ← sizeOf f.type) : Sem (List (Nat × Nat))).run P w = .ok (l.map fun f => (f.offset, (tyOf P f.type).size)) w := by
    intro l
    induction l with
    | nil => intro _; rfl
    | cons f r ih =>
      intro hl
      obtain ⟨i, hi⟩ := hl f (by simp)
      simp only [List.mapM_cons, Sem.run_bind, run_size hi, Result.andThen_ok, Sem.run_pure, ih fun g hg => hl g (by simp [hg]), List.map_cons]
  have := key fields.toList fun f hf => h f (by simpa using hf)
  rw [map_eq_pure_bind, Sem.run_bind, this]
  simp only [Result.andThen_ok, Sem.run_pure]
  rw [← Array.toList_map, Array.toArray_toList]

theorem sound_build {ty : TypeId} {parts : Array (Nat × Operand)} (hty : ∀ t, x.ty t = tyOf P t) (hb : Begin n e a w G get o) (ho : o.op = .build ty parts) (h : act x get o = some ws) : Sound P n e a w G o ws := by
  simp only [act, ho] at h
  split at h
  · rename_i fs vs hd hvs
    split at h
    · simp at h
    · rename_i hq
      rw [not_or, Bool.not_eq_false, Bool.not_eq_false] at hq
      obtain ⟨hf, hz⟩ := hq
      split at h
      · rename_i cs hcs
        rw [hty] at hd hz hcs
        obtain ⟨fields, hu, rfl⟩ := ty_struct hd
        obtain ⟨i, z, hi, hz⟩ := zero_info hz
        rw [zeros_eq hi hz] at hcs
        obtain ⟨zs', Ls', k1, k2, k3, _⟩ := fill_ok hb _ (fun i => (fields.map fun f => (f.offset, (tyOf P f.type).size))[i]?) (fun i q hq => by
            rw [List.getElem?_map] at hq
            rw [Array.getElem?_map]
            simp only [Array.getElem?_toList] at hq
            cases hff : fields[i]? with
            | none => rw [hff] at hq; simp at hq
            | some f =>
              rw [hff] at hq
              simp only [Option.map_some, hty] at hq ⊢
              exact hq) parts.toList (fun p hp => by
            simp only [ho, Op.operands]
            exact Array.mem_toList_iff.1 (by simpa using ⟨p.1, by simpa using hp⟩)) hvs (lits_ok e w G z.cells.toList).1 (lits_ok e w G z.cells.toList).2 hcs
        have hval : ValOk e w G (.agg, cs) (.agg zs') zs'.toList Ls' := ⟨k2, by simp [form], k3, by simp, by simp⟩
        obtain ⟨G', hp⟩ := hb.done hval h
        refine Sound.value ?_ hp
        simp only [execOp, ho]
        refine run_v ?_
        have hzr : (zeroValue ty).run P w = .ok z w := by simp [zeroValue, typeInfo, hi, hz]
        have hpl := run_places (P := P) (fields := fields) (fun f hf' => ty_size_info (t := f.type) (by
          have := List.all_eq_true.1 hf (f.offset, f.type) (List.mem_map.2 ⟨f, by simpa using hf', rfl⟩)
          simpa [hty] using this)) w
        simp only [Instr.build, Sem.run_bind, hzr, run_und hu, Result.andThen_ok, hpl]
        have : (parts.map fun (p : Nat × Operand) => (p.1, a.eval p.2)).toList = parts.toList.map fun p => (p.1, a.eval p.2) := by simp
        rw [this, k1]
        rfl
      · simp at h
  · simp at h

theorem zeroRow_get {z : List C} {sz : Nat} (hz : z.length = sz) (hs : 0 < sz) : ∀ (m i : Nat), (zeroRow z m)[i]? = if i < m * sz then z[i % sz]? else none
  | 0, i => by simp [zeroRow]
  | m + 1, i => by
    simp only [zeroRow]
    by_cases h : i < sz
    · rw [List.getElem?_append_left (by omega), Nat.mod_eq_of_lt h, if_pos]
      rw [Nat.add_mul]; omega
    · rw [List.getElem?_append_right (by omega), zeroRow_get hz hs m, hz, ← Nat.mod_eq_sub_mod (by omega)]
      have : i - sz < m * sz ↔ i < (m + 1) * sz := by rw [Nat.add_mul]; omega
      simp only [this]

theorem made_get {z : Array Value} {m i : Nat} (hz : 0 < z.size) : (madeCells z m)[i]? = if i < m then z[i % z.size]? else none := by
  simp only [madeCells, Array.getElem?_map]
  by_cases h : i < m
  · rw [if_pos h, Array.getElem?_range, if_pos h]
    have := Nat.mod_lt i hz
    simp [getElem!_def, this]
  · rw [if_neg h, Array.getElem?_range, if_neg h]
    rfl

theorem zeroRow_made {z : Array Value} {sz m : Nat} (hz : z.size = sz) (hs : 0 < sz) : zeroRow (z.toList.map litC) m = (madeCells z (m * sz)).toList.map litC := by
  apply List.ext_getElem?
  intro i
  rw [zeroRow_get (by simpa using hz) hs, List.getElem?_map, List.getElem?_map, Array.getElem?_toList, Array.getElem?_toList, made_get (by omega), hz]
  split <;> rfl

theorem chunks_length {α : Type} (sz : Nat) : ∀ (m : Nat) (cs : List α), (chunks sz m cs).length = m
  | 0, cs => rfl
  | m + 1, cs => by simp [chunks, chunks_length sz m]

theorem chunks_get {α : Type} (sz : Nat) : ∀ (m : Nat) (cs : List α) (i : Nat) (c : List α), (chunks sz m cs)[i]? = some c → c = (cs.drop (i * sz)).take sz
  | 0, cs, i, c, h => by simp [chunks] at h
  | m + 1, cs, 0, c, h => by simp [chunks] at h; simp [h]
  | m + 1, cs, i + 1, c, h => by
    simp only [chunks, List.getElem?_cons_succ] at h
    rw [chunks_get sz m _ i c h, List.drop_drop]
    congr 2
    rw [Nat.add_mul]; omega

theorem sound_buildSlice {ty : TypeId} {m : Nat} {parts : Array (Nat × Operand)} (hty : ∀ t, x.ty t = tyOf P t) (hb : Begin n e a w G get o) (ho : o.op = .buildSlice ty m parts) (h : act x get o = some ws) : Sound P n e a w G o ws := by
  simp only [act, ho] at h
  split at h
  · rename_i el vs hd hvs
    split at h
    · simp at h
    · rename_i k hk
      split at h
      · simp at h
      · rename_i hq
        simp only [not_or, Bool.not_eq_false, Decidable.not_not, ne_eq] at hq
        obtain ⟨hmax, hzl, hz⟩ := hq
        split at h
        · simp at h
        · rename_i cs hcs
          split at h
          · simp at h
          · rename_i t l dp hpk
            rw [hty] at hd hk hz hzl hcs
            obtain ⟨i, hi, hik⟩ := ty_k hk
            obtain ⟨i', z, hi', hz⟩ := zero_info hz
            rw [hi] at hi'
            simp only [Option.some.injEq] at hi'
            subst hi'
            have hu := ty_slice hd
            have hzs := zeros_eq hi hz
            have hzk : z.cells.size = k.size := by rw [hzs] at hzl; simpa using hzl
            rw [hzs, zeroRow_made hzk k.size_pos] at hcs
            obtain ⟨zs', Ls', k1, k2, k3, k4⟩ := fill_ok hb _ (fun i => some (i * k.size, k.size)) (fun i q hq => by
              split at hq
              · exact hq
              · simp at hq) parts.toList (fun p hp => by
              simp only [ho, Op.operands]
              exact Array.mem_toList_iff.1 (by simpa using ⟨p.1, by simpa using hp⟩)) hvs (lits_ok e w G _).1 (lits_ok e w G _).2 hcs
            obtain ⟨e', G', H, rows, hg⟩ := packs_ok k (chunks k.size m cs) hb.inv hb.tr (vss := chunks k.size m zs'.toList) (by rw [chunks_length, chunks_length]) (fun i c v hc hv => by
              rw [chunks_get _ _ _ _ _ hc, chunks_get _ _ _ _ _ hv]
              exact ⟨_, (k2.drop (i * k.size)).take k.size⟩) (fun c hc c' hc' => by
              obtain ⟨i, hi⟩ := List.getElem?_of_mem hc
              rw [chunks_get _ _ _ _ _ hi] at hc'
              exact k3 c' (List.mem_of_mem_drop (List.mem_of_mem_take hc'))) hpk
            have hlm : l.length = m := by rw [← hg.vlen, chunks_length]
            obtain ⟨d, hd', hws⟩ := own_dst h
            have hzsz : zs'.size = m * k.size := by
              have h1 := k2.len
              rw [k4] at h1
              simpa [size_madeCells] using h1
            refine Sound.new (u := .slice (some ⟨w.heap.size, 0, none⟩) l.length m) (w' := w.alloc (.cells zs' el)) ?_ hd' ?_ hws
            · simp only [execOp, ho]
              refine run_v ?_
              have hp1 : (parts.map fun (p : Nat × Operand) => (p.1, a.eval p.2)).toList = parts.toList.map fun p => (p.1, a.eval p.2) := by simp
              have hle : ¬ (m * k.size > 2 ^ 24) := by omega
              have hzr : (zeroValue el).run P w = .ok z w := by simp [zeroValue, typeInfo, hi, hz]
              simp only [Instr.buildSlice, Sem.run_bind, run_und hu, Result.andThen_ok, run_size hi, (ty_size hi).1, hik, if_neg hle, Sem.run_pure]
              by_cases hmz : m * k.size = 0
              · rw [if_pos hmz]
                have h0 : (Array.map (fun j => (#[] : Array Value)[j % (#[] : Array Value).size]!) (Array.range (m * k.size))) = madeCells z.cells (m * k.size) := by rw [hmz]; simp [madeCells]
                simp only [Sem.run_bind, Sem.run_pure, Result.andThen_ok, h0, hp1, k1]
                rw [hlm]
                rfl
              · rw [if_neg hmz]
                simp only [Sem.run_bind, Sem.run_pure, Result.andThen_ok, hzr, hp1]
                have h0 : (Array.map (fun j => z.cells[j % z.cells.size]!) (Array.range (m * k.size))) = madeCells z.cells (m * k.size) := rfl
                simp only [h0, k1]
                rw [hlm]
                rfl
            · refine new_row (e := e') (G := G') (H := H) (rows := rows) (cap := m) hg.inv hg.tr (hg.ext.held hb.inv) (by simp) (fun b hb' => alloc_same w _ b hb') ?_ (fun b hb' => ⟨(hg.hand.mem b hb').1, (hg.hand.mem b hb').2.1⟩) (hg.hand.owner hb.inv hg.ext) hg.hand.nodup hg.fp hg.none ?_ (by rw [packs_d _ hpk]; exact hd') (hb.inb.dst d hd')
              · refine .inr ⟨_, 0, _, _, rfl, rfl, by omega, hg.len, by simp, fun _ => ⟨_, _, _, heap_alloc_new w _, by rw [hzsz]; omega, .inr (by simp)⟩, fun j y r hy hr => ?_⟩
                have hjl : j < l.length := (List.getElem?_eq_some_iff.1 hy).1
                have hv : (chunks k.size m zs'.toList)[j]? = some ((chunks k.size m zs'.toList)[j]'(by rw [chunks_length]; omega)) := List.getElem?_eq_getElem _
                have hrep := hg.rep j y r _ hy hr hv
                have hve := chunks_get _ _ _ _ _ hv
                rw [hve] at hrep
                refine ⟨_, fun q u hq => ?_, hrep.same fun b hb' => alloc_same w _ b (hrep.there b hb')⟩
                rw [List.getElem?_take] at hq
                split at hq
                · rw [List.getElem?_drop, Array.getElem?_toList] at hq
                  simp only [World.cell?, heap_alloc_new, Option.isSome_none, Bool.false_eq_true, if_false, Nat.zero_add]
                  exact hq
                · simp at hq
              · intro b hb'
                obtain ⟨r, hr, hbr⟩ := List.mem_flatMap.1 hb'
                obtain ⟨j, hj⟩ := List.getElem?_of_mem hr
                have hjl : j < l.length := by rw [← hg.len]; exact (List.getElem?_eq_some_iff.1 hj).1
                have hv : (chunks k.size m zs'.toList)[j]? = some ((chunks k.size m zs'.toList)[j]'(by rw [chunks_length]; omega)) := List.getElem?_eq_getElem _
                have := (hg.rep j _ r _ (List.getElem?_eq_getElem hjl) hj hv).there b hbr
                rcases Nat.lt_or_ge b w.heap.size with q | q
                · exact q
                · exact absurd (Array.getElem?_eq_none q) this
  · simp at h

end ops

end Go.Mach
