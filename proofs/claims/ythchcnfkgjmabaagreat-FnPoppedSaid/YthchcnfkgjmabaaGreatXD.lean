/- The machine, parts Mp Mq Mr Ms Mt Mu Mv Mw. No condition: definitions and lemmas. -/
import Derived.Test.YthchcnfkgjmabaaGreatXC
/- The machine, part p: conversions, built structs and rows. No condition: lemmas. -/
namespace Go.Mach
set_option linter.unusedVariables false
set_option linter.unusedSimpArgs false

/-! ### Rows, as cells -/
theorem add_none (b o j : Nat) : (⟨b, o, none⟩ : Addr).add j = ⟨b, o + j, none⟩ := by unfold Addr.add; split <;> simp_all

/-- A row, as the cells that are read. -/
theorem row_cells {P : Program} {dr d : Bool} {w : World} {k : K} {l : List k.T} {L : LT} {v : Value} (h : RepL dr w k.size (Rep d w k) l L v) :
    ∃ (b : Option Addr) (cap : Nat) (cells : List Value), v = .slice b l.length cap ∧ cells.length = l.length * k.size ∧ (∀ w2 : World, w2.heap = w.heap → (Builtin.firstCells k.size l.length v).run P w2 = .ok cells.toArray w2) ∧
      (∀ u ∈ cells, u.oneCell' = true) ∧ (b = none → l = []) ∧
      (∀ b' off cap' rows, L = .node b' off cap' rows → rows.length = l.length ∧ ∀ (i : Nat) x r, l[i]? = some x → rows[i]? = some r → ∃ vs, (∀ (c : Nat) u, vs[c]? = some u → cells[i * k.size + c]? = some u) ∧ Rep d w k x r vs) ∧
      (∀ b' off cap' rows, L = .node b' off cap' rows → ∀ (j : Nat) u, cells[j]? = some u → w.cell? ⟨b', off + j, none⟩ = some u) := by
  rcases h with ⟨rfl, rfl, b, cap, rfl, _⟩ | ⟨b, off, cap, rows, rfl, rfl, g1, g2, g0, g3, g4⟩
  · refine ⟨b, cap, [], rfl, by simp, fun w2 _ => ?_, by simp, fun _ => rfl, by simp, by simp⟩
    cases b with
    | none => simp [Builtin.firstCells]
    | some b =>
      have := run_loadCells_list (P := P) w2 b [] (by simp)
      simpa [Builtin.firstCells] using this
  · have key : ∀ j, j < l.length * k.size → ∃ u, w.cell? ⟨b, off + j, none⟩ = some u ∧ u.oneCell' = true ∧ True := by
      intro j hj
      have hi : j / k.size < l.length := (Nat.div_lt_iff_lt_mul k.size_pos).2 hj
      have hx : l[j / k.size]? = some (l[j / k.size]) := List.getElem?_eq_getElem hi
      have hr : rows[j / k.size]? = some (rows[j / k.size]'(by omega)) := List.getElem?_eq_getElem (by omega)
      obtain ⟨vs, h1, h2⟩ := g4 _ _ _ hx hr
      have hm : j % k.size < vs.length := by rw [h2.size]; exact Nat.mod_lt _ k.size_pos
      have := h1 (j % k.size) _ (List.getElem?_eq_getElem hm)
      refine ⟨vs[j % k.size], ?_, ?_, trivial⟩
      · rw [← this]
        congr 2
        rw [Nat.add_assoc, Nat.mul_comm, Nat.div_add_mod]
      · obtain ⟨u, hu, hru, _⟩ := h2.leaf (c := j % k.size) (Nat.mod_lt _ k.size_pos)
        rw [List.getElem?_eq_getElem hm] at hu
        simp only [Option.some.injEq] at hu
        rw [hu]
        exact Rep.oneCell hru
    refine ⟨some ⟨b, off, none⟩, cap, (List.range (l.length * k.size)).map fun j => (w.cell? ⟨b, off + j, none⟩).getD .nilIface, rfl, by simp, fun w2 hw2 => ?_, ?_, by simp, ?_, ?_⟩
    · have hc : ∀ x : Addr, w2.cell? x = w.cell? x := fun x => by simp only [World.cell?, hw2]
      refine run_firstCells_some (P := P) w2 k.size l.length ⟨b, off, none⟩ l.length cap _ (by simp) ?_
      intro j u hu
      rw [List.getElem?_map] at hu
      by_cases hj : j < l.length * k.size
      · rw [List.getElem?_range hj] at hu
        obtain ⟨u', h1, _⟩ := key j hj
        rw [hc, add_none, h1]
        simp only [Option.map_some, h1, Option.getD_some, Option.some.injEq] at hu
        rw [hu]
      · rw [List.getElem?_eq_none (by simpa using hj)] at hu
        simp at hu
    · intro u hu
      obtain ⟨j, hj, rfl⟩ := List.mem_map.1 hu
      obtain ⟨u', h1, h2, _⟩ := key j (List.mem_range.1 hj)
      rw [h1]
      exact h2
    · intro b' off' cap' rows' hL
      simp only [LT.node.injEq] at hL
      obtain ⟨rfl, rfl, rfl, rfl⟩ := hL
      refine ⟨g2, fun i x r hx hr => ?_⟩
      obtain ⟨vs, h1, h2⟩ := g4 i x r hx hr
      refine ⟨vs, fun c u hu => ?_, h2⟩
      have hi : i < l.length := (List.getElem?_eq_some_iff.1 hx).1
      have hc : c < k.size := by rw [← h2.size]; exact (List.getElem?_eq_some_iff.1 hu).1
      have hlt : i * k.size + c < l.length * k.size := by
        have : (i + 1) * k.size ≤ l.length * k.size := Nat.mul_le_mul_right _ hi
        rw [Nat.add_mul] at this
        omega
      rw [List.getElem?_map, List.getElem?_range hlt, Option.map_some, ← Nat.add_assoc, h1 c u hu]
      rfl
    · intro b' off' cap' rows' hL j u hu
      simp only [LT.node.injEq] at hL
      obtain ⟨rfl, rfl, rfl, rfl⟩ := hL
      rw [List.getElem?_map] at hu
      by_cases hj : j < l.length * k.size
      · rw [List.getElem?_range hj] at hu
        obtain ⟨u', h1, _⟩ := key j hj
        simp only [Option.map_some, h1, Option.getD_some, Option.some.injEq] at hu
        rw [h1, hu]
      · rw [List.getElem?_eq_none (by simpa using hj)] at hu
        simp at hu

/-- A row of numbers, as its cells. -/
theorem int_cells {P : Program} {dr d : Bool} {w : World} {ik : IntKind} {l : List Int} {L : LT} {v : Value} (h : RepL dr w 1 (Rep d w (.int ik)) l L v) :
    ∃ b cap, v = .slice b l.length cap ∧ (∀ w2 : World, w2.heap = w.heap → (Builtin.firstCells 1 l.length v).run P w2 = .ok (l.map (Value.int ik)).toArray w2) ∧ (b = none → l = []) := by
  obtain ⟨b, cap, cells, h1, h2, h3, h4, h5, h6, _⟩ := row_cells (P := P) (k := .int ik) h
  refine ⟨b, cap, h1, fun w2 hw => ?_, h5⟩
  have := h3 w2 hw
  simp only [K.size] at this
  rw [this]
  congr 2
  rcases h with ⟨rfl, rfl, _⟩ | ⟨b', off, cap', rows, rfl, _, _, _⟩
  · exact List.eq_nil_of_length_eq_zero (by simpa using h2)
  · obtain ⟨g1, g2⟩ := h6 _ _ _ _ rfl
    apply List.ext_getElem?
    intro i
    simp only [K.size, Nat.mul_one] at h2
    by_cases hi : i < l.length
    · obtain ⟨vs, g3, g4⟩ := g2 i (l[i]) (rows[i]'(by omega)) (List.getElem?_eq_getElem hi) (List.getElem?_eq_getElem (by omega))
      simp only [Rep] at g4
      have := g3 0 (.int ik l[i]) (by rw [g4]; rfl)
      simp only [K.size, Nat.mul_one, Nat.add_zero] at this
      rw [this, List.getElem?_map, List.getElem?_eq_getElem hi]
      rfl
    · rw [List.getElem?_eq_none (by omega), List.getElem?_eq_none (by simpa using hi)]

theorem flat_none {k : K} (h : k.flat = true) (rows : List LT) : rows.flatMap (fp k) = [] := by
  rw [List.flatMap_eq_nil_iff]
  intro L _
  exact fp_flat h

section ops
variable {P : Program} {n : Nat} {e : Env} {a : Act} {w : World} {G : Gh} {get : Nat → Slot} {o : Oper} {x : Ctx} {ws : Writes}

theorem bytes_ok (hinv : Inv n e a.tmps w G) (hs : Sees get e) {c : C} {v : Value} {L : LT} (hc : CellOk e w G c v L) {l : List Int} (h : bytesC get c = some l) :
    ∃ dr d M, RepL dr w 1 (Rep d w (.int .u8)) l M v := by
  cases c with
  | nil =>
    simp only [bytesC, Option.some.injEq] at h
    subst h
    obtain rfl : v = .slice none 0 0 := hc
    exact ⟨true, true, .nil, .inl ⟨rfl, rfl, none, 0, rfl, fun _ => rfl⟩⟩
  | dat k y =>
    simp only [bytesC] at h
    split at h
    · simp_all
    · rename_i l' heq
      simp only [C.dat.injEq] at heq
      obtain ⟨rfl, h2⟩ := heq
      have h2 := eq_of_heq h2
      subst h2
      simp only [Option.some.injEq] at h
      subst h
      have := hc.1
      simp only [Rep] at this
      obtain ⟨u, hu, hr⟩ := this
      simp only [List.cons.injEq, and_true] at hu
      subst hu
      exact ⟨false, false, L, hr⟩
    · simp_all
    · simp at h
  | ref s j rv sv p lo hi k =>
    simp only [bytesC] at h
    split at h
    · simp_all
    · simp_all
    · rename_i heq
      cases heq
      cases hq : content get s j rv sv p (.int .u8) with
      | none => rw [hq] at h; simp at h
      | some q =>
        obtain ⟨d, l'⟩ := q
        rw [hq] at h
        simp only [Option.map_some, Option.some.injEq] at h
        subst h
        obtain ⟨sv', k0, l0, q1, q2, q3⟩ := content_ok hs hq
        obtain ⟨_, _, r3, _⟩ := ref_reads hinv hc q1 q2 q3
        exact ⟨true, d, _, r3⟩
    · simp at h
  | _ => simp [bytesC] at h

theorem run_bytes_str {src dst el : TypeId} (hs : P.underlying src = some (.slice el)) (he : P.underlying el = some (.int .u8)) (hd : P.underlying dst = some .string) {dr d : Bool} {l : List Int} {L : LT} {v : Value}
    (h : RepL dr w 1 (Rep d w (.int .u8)) l L v) : (convert src dst v).run P w = .ok (.string ⟨⟨l.map fun n => UInt8.ofNat n.toNat⟩⟩) w := by
  obtain ⟨b, cap, rfl, h2, h3⟩ := int_cells (P := P) h
  rw [run_convert_bytes_string w src dst el b _ cap hs he hd]
  cases b with
  | none =>
    rw [h3 rfl]
    rfl
  | some b =>
    have := h2 w rfl
    simp only [Builtin.firstCells, Nat.mul_one] at this
    rw [run_bytesToString w b l.length cap l this, foldl_push_bytes]
    simp

theorem run_conv_int {src dst : TypeId} {d : TypeDesc} (hs : P.underlying src = some d) {k : IntKind} (hd : P.underlying dst = some (.int k)) (ik : IntKind) (m : Int) (w : World) :
    (convert src dst (.int ik m)).run P w = .ok (.int k (k.wrap m)) w := by
  simp only [convert, Sem.run_bind, run_und hs, run_und hd, Result.andThen_ok, Conv.intToInt]
  cases d <;> rfl

theorem run_conv_str {src dst : TypeId} {d : TypeDesc} (hs : P.underlying src = some d) (hd : P.underlying dst = some .string) (s : ByteArray) (w : World) :
    (convert src dst (.string s)).run P w = .ok (.string s) w := by
  simp only [convert, Sem.run_bind, run_und hs, run_und hd, Result.andThen_ok]
  cases d <;> rfl

theorem sound_convert {src dst : TypeId} {y : Operand} (hty : ∀ t, x.ty t = tyOf P t) (hb : Begin n e a w G get o) (ho : o.op = .convert src dst y) (h : act x get o = some ws) : Sound P n e a w G o ws := by
  have hty' : x.ty = tyOf P := funext hty
  simp only [act, ho] at h
  split at h
  · rename_i c hc
    split at h
    · simp at h
    · rename_i hok
      rw [hty, Bool.not_eq_false] at hok
      obtain ⟨i, d, hi, hu, _⟩ := ty_ok hok
      obtain ⟨L, h1, hno⟩ := hb.one (by simp [ho, Op.operands]) hc
      rw [hty] at h
      rw [hty'] at h
      split at h
      · rename_i ik m k _ hk
        obtain ⟨G', hp⟩ := hb.cell (int_ok e w G k _) rfl h
        refine Sound.value ?_ hp
        simp only [execOp, ho, dat_int h1]
        exact run_v (run_conv_int hu (intTi_ok hk) ik m w)
      · rename_i s hS
        obtain ⟨G', hp⟩ := hb.cell (str_ok e w G s) rfl h
        refine Sound.value ?_ hp
        simp only [execOp, ho, dat_str h1]
        exact run_v (run_conv_str hu (ty_str hS) _ w)
      · rename_i s _ hu8
        split at h
        · rename_i hq
          obtain ⟨_, hq⟩ := hq
          obtain ⟨el, hel, he⟩ := u8Row_ok hu8
          obtain ⟨dd, hd, hws⟩ := own_dst h
          have hr := run_bytes_of_string (P := P) w src dst el ⟨⟨s⟩⟩ (ty_str hq) hel he
          have hge := grownCap_ge w s.length 0 el
          simp only [bytes_size] at hr
          refine Sound.new (by simp only [execOp, ho, dat_str h1]; exact run_v hr) hd ?_ hws
          have hnew := heap_alloc_new w.drew (.cells (bytesRow ⟨⟨s⟩⟩ (grownCap w s.length 0 el)) el ((bytesRow ⟨⟨s⟩⟩ (grownCap w s.length 0 el)).size, (bytesRow ⟨⟨s⟩⟩ (grownCap w s.length 0 el)).size + 1))
          have hdr : w.drew.heap = w.heap := rfl
          rw [hdr] at hnew
          have hsz : (bytesRow ⟨⟨s⟩⟩ (grownCap w s.length 0 el)).size = grownCap w s.length 0 el := by
            simp only [bytesRow, Array.size_append, Array.size_map, Array.size_replicate, bytes_size]
            show s.length + _ = _
            omega
          have := new_row (a := a) (H := []) (k := .int .u8) (l := s.map fun b => ((b.toNat : Nat) : Int)) (d := true) (cap := grownCap w s.length 0 el) (rows := List.replicate s.length .leaf) (t := { get, d := o.dst })
            (w' := w.drew.alloc (.cells (bytesRow ⟨⟨s⟩⟩ (grownCap w s.length 0 el)) el ((bytesRow ⟨⟨s⟩⟩ (grownCap w s.length 0 el)).size, (bytesRow ⟨⟨s⟩⟩ (grownCap w s.length 0 el)).size + 1)))
            hb.inv hb.tr Held.refl (by simp) (fun b hb' => alloc_same w.drew _ b hb') ?_ (by simp) (by simp) (by simp) (fun _ => (flat_none rfl _).symm) (by rw [flat_none rfl]; simp) (by rw [flat_none rfl]; simp) hd (hb.inb.dst dd hd)
          · simpa using this
          · refine .inr ⟨_, 0, _, _, rfl, rfl, by simpa using hge, by simp, by rw [hnew]; simp, fun _ => ⟨_, _, _, hnew, by simp [hsz, K.size], .inl (by simp)⟩, fun j y r hy hr => ?_⟩
            rw [List.getElem?_map] at hy
            cases hj : s[j]? with
            | none => rw [hj] at hy; simp at hy
            | some bb =>
              rw [hj] at hy
              simp only [Option.map_some, Option.some.injEq] at hy
              subst hy
              refine ⟨[.int .u8 (bb.toNat : Nat)], fun q u hq' => ?_, by simp [Rep]⟩
              match q, hq' with
              | 0, hq' =>
                simp only [List.getElem?_cons_zero, Option.some.injEq] at hq'
                subst hq'
                simp only [World.cell?, hnew, K.size, Nat.mul_one, Nat.zero_add, Nat.add_zero, Option.isSome_none, Bool.false_eq_true, if_false]
                simp only [bytesRow]
                have hjl : j < s.length := (List.getElem?_eq_some_iff.1 hj).1
                rw [Array.getElem?_append_left (by rw [Array.size_map]; exact hjl)]
                rw [Array.getElem?_map, List.getElem?_toArray, hj]
                rfl
        · simp at h
      · rename_i hS
        split at h
        · rename_i hu8
          split at h
          · rename_i l hl
            obtain ⟨el, hel, he⟩ := u8Row_ok hu8
            obtain ⟨dr, d', M, hr⟩ := bytes_ok hb.inv hb.sees h1 hl
            obtain ⟨G', hp⟩ := hb.cell (str_ok e w G _) rfl h
            refine Sound.value ?_ hp
            simp only [execOp, ho]
            exact run_v (run_bytes_str hel he (ty_str hS) hr)
          · simp at h
        · simp at h
      · simp at h
  · simp at h

end ops

end Go.Mach
/- The machine, part q: built structs and rows. No condition: lemmas. -/
namespace Go.Mach
set_option linter.unusedVariables false
set_option linter.unusedSimpArgs false

theorem setFrom_length {α : Type} : ∀ (vs cs : List α) (j : Nat), (setFrom cs j vs).length = cs.length
  | [], cs, j => rfl
  | v :: r, cs, j => by rw [setFrom, setFrom_length r]; simp

theorem setFrom_get {α : Type} : ∀ (vs cs : List α) (j i : Nat), j + vs.length ≤ cs.length → (setFrom cs j vs)[i]? = if j ≤ i ∧ i < j + vs.length then vs[i - j]? else cs[i]?
  | [], cs, j, i, h => by
    rw [setFrom, if_neg (by simp only [List.length_nil]; omega)]
  | v :: r, cs, j, i, h => by
    simp only [List.length_cons] at h ⊢
    rw [setFrom, setFrom_get r _ (j + 1) i (by simp; omega)]
    by_cases h1 : j + 1 ≤ i ∧ i < j + 1 + r.length
    · rw [if_pos h1, if_pos (by omega), show i - j = (i - (j + 1)) + 1 by omega]
      rfl
    · rw [if_neg h1]
      by_cases h2 : i = j
      · subst h2
        rw [if_pos (by omega)]
        have : i < cs.length := by omega
        simp [this]
      · rw [if_neg (by omega)]
        rw [List.getElem?_set_ne (by omega)]

theorem fold_set (off : Nat) : ∀ (vs : List Value) (k : Nat) (cs : Array Value), ((vs.zipIdx k).foldl (fun cs (x : Value × Nat) => cs.setIfInBounds (off + x.2) x.1) cs).toList = setFrom cs.toList (off + k) vs
  | [], k, cs => rfl
  | v :: r, k, cs => by
    simp only [List.zipIdx_cons, List.foldl_cons]
    rw [fold_set off r (k + 1)]
    simp [setFrom, Nat.add_assoc]

theorem fill_fold (off : Nat) (vs : List Value) (cs : Array Value) : (vs.toArray.zipIdx.foldl (fun cs (x : Value × Nat) => cs.setIfInBounds (off + x.2) x.1) cs).toList = setFrom cs.toList off vs := by
  have := fold_set off vs 0 cs
  simpa using this

section ops
variable {P : Program} {n : Nat} {e : Env} {a : Act} {w : World} {G : Gh} {get : Nat → Slot} {o : Oper} {x : Ctx} {ws : Writes}

theorem CellsOk.setFrom {cs vs' : List C} {zs us : List Value} {Ls Ms : Nat → LT} (h : CellsOk e w G cs zs Ls) (h' : CellsOk e w G vs' us Ms) {j : Nat} (hj : j + vs'.length ≤ cs.length) :
    CellsOk e w G (Mach.setFrom cs j vs') (Mach.setFrom zs j us) (fun i => if j ≤ i ∧ i < j + vs'.length then Ms (i - j) else Ls i) := by
  refine ⟨by rw [setFrom_length, setFrom_length, h.len], fun i c v hc hv => ?_⟩
  rw [setFrom_get _ _ _ _ hj] at hc
  rw [setFrom_get _ _ _ _ (by rw [h.len, h'.len]; exact hj), h'.len] at hv
  split at hc
  · rename_i q
    rw [if_pos q] at hv
    simp only [if_pos q]
    exact h'.cell _ c v hc hv
  · rename_i q
    rw [if_neg q] at hv
    simp only [if_neg q]
    exact h.cell _ c v hc hv

theorem mem_setFrom {α : Type} : ∀ (vs cs : List α) (j : Nat) {c : α}, c ∈ setFrom cs j vs → c ∈ cs ∨ c ∈ vs
  | [], cs, j, c, h => .inl h
  | v :: r, cs, j, c, h => by
    rcases mem_setFrom r _ (j + 1) h with q | q
    · rcases List.mem_or_eq_of_mem_set q with q | q
      · exact .inl q
      · exact .inr (by simp [q])
    · exact .inr (by simp [q])

/-- A fill of cells stands for the fill of values. -/
theorem fill_ok (hb : Begin n e a w G get o) (place place' : Nat → Option (Nat × Nat)) (hp : ∀ i q, place i = some q → place' i = some q) : ∀ (parts : List (Nat × Operand)), (∀ p ∈ parts, p.2 ∈ o.op.operands) → ∀ {vs : List (Nat × Val)}, partVals get parts = some vs →
    ∀ {cells : List C} {zs : Array Value} {Ls : Nat → LT} (hc : CellsOk e w G cells zs.toList Ls) (hno : ∀ c ∈ cells, c.isOwn = false) {cells' : List C}, fillC get place cells vs = some cells' →
      ∃ zs' Ls', Instr.fill place' zs (parts.map fun p => (p.1, a.eval p.2)) = some zs' ∧ CellsOk e w G cells' zs'.toList Ls' ∧ (∀ c ∈ cells', c.isOwn = false) ∧ cells'.length = cells.length
  | [], hm, vs, hv, cells, zs, Ls, hc, hno, cells', h => by
    simp only [partVals, Option.some.injEq] at hv
    subst hv
    simp only [fillC, Option.some.injEq] at h
    subst h
    exact ⟨zs, Ls, rfl, hc, hno, rfl⟩
  | (i, y) :: r, hm, vs, hv, cells, zs, Ls, hc, hno, cells', h => by
    simp only [partVals] at hv
    split at hv
    · rename_i v vs' h1 h2
      simp only [Option.some.injEq] at hv
      subst hv
      simp only [fillC] at h
      split at h
      · rename_i off size hpl
        split at h
        · rename_i hq
          obtain ⟨q1, q2, q3⟩ := hq
          obtain ⟨us, Ms, hval⟩ := hb.opd (hm (i, y) (by simp)) h1
          obtain ⟨g1, g2⟩ := form_cells (n := n) (tm := a.tmps) hb.sees hval q3
          have hlen : us.length = size := by rw [hval.cells.len, q1]
          have hzl : zs.size = cells.length := by rw [← hc.len]; simp
          have hc' := hc.setFrom hval.cells (j := off) (by rw [q1]; exact q2)
          have hz' : (us.toArray.zipIdx.foldl (fun cs (x : Value × Nat) => cs.setIfInBounds (off + x.2) x.1) zs).toList = Mach.setFrom zs.toList off us := fill_fold off us zs
          rw [← hz'] at hc'
          obtain ⟨zs', Ls', k1, k2, k3, k4⟩ := fill_ok hb place place' hp r (fun p hp => hm p (by simp [hp])) h2 hc' (fun c hc => by
            rcases mem_setFrom _ _ _ hc with q | q
            · exact hno c q
            · exact hval.noOwn c q) h
          refine ⟨zs', Ls', ?_, k2, k3, by rw [k4, setFrom_length]⟩
          simp only [List.map_cons, Instr.fill, hp i _ hpl, g1]
          rw [if_neg (by simp only [List.size_toArray, hlen, hzl, decide_eq_true_eq, Bool.or_eq_true, ne_eq, not_or]; simp; omega)]
          exact k1
        · simp at h
      · simp at h
    · simp at hv

theorem run_places {fields : Array Field} (h : ∀ f ∈ fields, ∃ i, P.info? f.type = some i) (w : World) :
    (fields.mapM fun f => do pure (f.offset, ← sizeOf f.type) : Sem (Array (Nat × Nat))).run P w = .ok (fields.map fun f => (f.offset, (tyOf P f.type).size)) w := by
  rw [Array.mapM_eq_mapM_toList]
  have key : ∀ (l : List Field), (∀ f ∈ l, ∃ i, P.info? f.type = some i) → (l.mapM fun f => do pure (f.offset, ← sizeOf f.type) : Sem (List (Nat × Nat))).run P w = .ok (l.map fun f => (f.offset, (tyOf P f.type).size)) w := by
    intro l
    induction l with
    | nil => intro _; rfl
    | cons f r ih =>
      intro hl
      obtain ⟨i, hi⟩ := hl f (by simp)
      simp only [List.mapM_cons, Sem.run_bind, run_size hi, Result.andThen_ok, Sem.run_pure, ih fun g hg => hl g (by simp [hg]), List.map_cons]
  have := key fields.toList fun f hf => h f (by simpa using hf)
  rw [map_eq_pure_bind, Sem.run_bind, this]
  simp only [Result.andThen_ok, Sem.run_pure]
  rw [← Array.toList_map, Array.toArray_toList]

theorem sound_build {ty : TypeId} {parts : Array (Nat × Operand)} (hty : ∀ t, x.ty t = tyOf P t) (hb : Begin n e a w G get o) (ho : o.op = .build ty parts) (h : act x get o = some ws) : Sound P n e a w G o ws := by
  simp only [act, ho] at h
  split at h
  · rename_i fs vs hd hvs
    split at h
    · simp at h
    · rename_i hq
      rw [not_or, Bool.not_eq_false, Bool.not_eq_false] at hq
      obtain ⟨hf, hz⟩ := hq
      split at h
      · rename_i cs hcs
        rw [hty] at hd hz hcs
        obtain ⟨fields, hu, rfl⟩ := ty_struct hd
        obtain ⟨i, z, hi, hz⟩ := zero_info hz
        rw [zeros_eq hi hz] at hcs
        obtain ⟨zs', Ls', k1, k2, k3, _⟩ := fill_ok hb _ (fun i => (fields.map fun f => (f.offset, (tyOf P f.type).size))[i]?) (fun i q hq => by
            rw [List.getElem?_map] at hq
            rw [Array.getElem?_map]
            simp only [Array.getElem?_toList] at hq
            cases hff : fields[i]? with
            | none => rw [hff] at hq; simp at hq
            | some f =>
              rw [hff] at hq
              simp only [Option.map_some, hty] at hq ⊢
              exact hq) parts.toList (fun p hp => by
            simp only [ho, Op.operands]
            exact Array.mem_toList_iff.1 (by simpa using ⟨p.1, by simpa using hp⟩)) hvs (lits_ok e w G z.cells.toList).1 (lits_ok e w G z.cells.toList).2 hcs
        have hval : ValOk e w G (.agg, cs) (.agg zs') zs'.toList Ls' := ⟨k2, by simp [form], k3, by simp, by simp⟩
        obtain ⟨G', hp⟩ := hb.done hval h
        refine Sound.value ?_ hp
        simp only [execOp, ho]
        refine run_v ?_
        have hzr : (zeroValue ty).run P w = .ok z w := by simp [zeroValue, typeInfo, hi, hz]
        have hpl := run_places (P := P) (fields := fields) (fun f hf' => ty_size_info (t := f.type) (by
          have := List.all_eq_true.1 hf (f.offset, f.type) (List.mem_map.2 ⟨f, by simpa using hf', rfl⟩)
          simpa [hty] using this)) w
        simp only [Instr.build, Sem.run_bind, hzr, run_und hu, Result.andThen_ok, hpl]
        have : (parts.map fun (p : Nat × Operand) => (p.1, a.eval p.2)).toList = parts.toList.map fun p => (p.1, a.eval p.2) := by simp
        rw [this, k1]
        rfl
      · simp at h
  · simp at h

theorem zeroRow_get {z : List C} {sz : Nat} (hz : z.length = sz) (hs : 0 < sz) : ∀ (m i : Nat), (zeroRow z m)[i]? = if i < m * sz then z[i % sz]? else none
  | 0, i => by simp [zeroRow]
  | m + 1, i => by
    simp only [zeroRow]
    by_cases h : i < sz
    · rw [List.getElem?_append_left (by omega), Nat.mod_eq_of_lt h, if_pos]
      rw [Nat.add_mul]; omega
    · rw [List.getElem?_append_right (by omega), zeroRow_get hz hs m, hz, ← Nat.mod_eq_sub_mod (by omega)]
      have : i - sz < m * sz ↔ i < (m + 1) * sz := by rw [Nat.add_mul]; omega
      simp only [this]

theorem made_get {z : Array Value} {m i : Nat} (hz : 0 < z.size) : (madeCells z m)[i]? = if i < m then z[i % z.size]? else none := by
  simp only [madeCells, Array.getElem?_map]
  by_cases h : i < m
  · rw [if_pos h, Array.getElem?_range, if_pos h]
    have := Nat.mod_lt i hz
    simp [getElem!_def, this]
  · rw [if_neg h, Array.getElem?_range, if_neg h]
    rfl

theorem zeroRow_made {z : Array Value} {sz m : Nat} (hz : z.size = sz) (hs : 0 < sz) : zeroRow (z.toList.map litC) m = (madeCells z (m * sz)).toList.map litC := by
  apply List.ext_getElem?
  intro i
  rw [zeroRow_get (by simpa using hz) hs, List.getElem?_map, List.getElem?_map, Array.getElem?_toList, Array.getElem?_toList, made_get (by omega), hz]
  split <;> rfl

theorem chunks_length {α : Type} (sz : Nat) : ∀ (m : Nat) (cs : List α), (chunks sz m cs).length = m
  | 0, cs => rfl
  | m + 1, cs => by simp [chunks, chunks_length sz m]

theorem chunks_get {α : Type} (sz : Nat) : ∀ (m : Nat) (cs : List α) (i : Nat) (c : List α), (chunks sz m cs)[i]? = some c → c = (cs.drop (i * sz)).take sz
  | 0, cs, i, c, h => by simp [chunks] at h
  | m + 1, cs, 0, c, h => by simp [chunks] at h; simp [h]
  | m + 1, cs, i + 1, c, h => by
    simp only [chunks, List.getElem?_cons_succ] at h
    rw [chunks_get sz m _ i c h, List.drop_drop]
    congr 2
    rw [Nat.add_mul]; omega

theorem sound_buildSlice {ty : TypeId} {m : Nat} {parts : Array (Nat × Operand)} (hty : ∀ t, x.ty t = tyOf P t) (hb : Begin n e a w G get o) (ho : o.op = .buildSlice ty m parts) (h : act x get o = some ws) : Sound P n e a w G o ws := by
  simp only [act, ho] at h
  split at h
  · rename_i el vs hd hvs
    split at h
    · simp at h
    · rename_i k hk
      split at h
      · simp at h
      · rename_i hq
        simp only [not_or, Bool.not_eq_false, Decidable.not_not, ne_eq] at hq
        obtain ⟨hmax, hzl, hz⟩ := hq
        split at h
        · simp at h
        · rename_i cs hcs
          split at h
          · simp at h
          · rename_i t l dp hpk
            rw [hty] at hd hk hz hzl hcs
            obtain ⟨i, hi, hik⟩ := ty_k hk
            obtain ⟨i', z, hi', hz⟩ := zero_info hz
            rw [hi] at hi'
            simp only [Option.some.injEq] at hi'
            subst hi'
            have hu := ty_slice hd
            have hzs := zeros_eq hi hz
            have hzk : z.cells.size = k.size := by rw [hzs] at hzl; simpa using hzl
            rw [hzs, zeroRow_made hzk k.size_pos] at hcs
            obtain ⟨zs', Ls', k1, k2, k3, k4⟩ := fill_ok hb _ (fun i => some (i * k.size, k.size)) (fun i q hq => by
              split at hq
              · exact hq
              · simp at hq) parts.toList (fun p hp => by
              simp only [ho, Op.operands]
              exact Array.mem_toList_iff.1 (by simpa using ⟨p.1, by simpa using hp⟩)) hvs (lits_ok e w G _).1 (lits_ok e w G _).2 hcs
            obtain ⟨e', G', H, rows, hg⟩ := packs_ok k (chunks k.size m cs) hb.inv hb.tr (vss := chunks k.size m zs'.toList) (by rw [chunks_length, chunks_length]) (fun i c v hc hv => by
              rw [chunks_get _ _ _ _ _ hc, chunks_get _ _ _ _ _ hv]
              exact ⟨_, (k2.drop (i * k.size)).take k.size⟩) (fun c hc c' hc' => by
              obtain ⟨i, hi⟩ := List.getElem?_of_mem hc
              rw [chunks_get _ _ _ _ _ hi] at hc'
              exact k3 c' (List.mem_of_mem_drop (List.mem_of_mem_take hc'))) hpk
            have hlm : l.length = m := by rw [← hg.vlen, chunks_length]
            obtain ⟨d, hd', hws⟩ := own_dst h
            have hzsz : zs'.size = m * k.size := by
              have h1 := k2.len
              rw [k4] at h1
              simpa [size_madeCells] using h1
            refine Sound.new (u := .slice (some ⟨w.heap.size, 0, none⟩) l.length m) (w' := w.alloc (.cells zs' el)) ?_ hd' ?_ hws
            · simp only [execOp, ho]
              refine run_v ?_
              have hp1 : (parts.map fun (p : Nat × Operand) => (p.1, a.eval p.2)).toList = parts.toList.map fun p => (p.1, a.eval p.2) := by simp
              have hle : ¬ (m * k.size > 2 ^ 24) := by omega
              have hzr : (zeroValue el).run P w = .ok z w := by simp [zeroValue, typeInfo, hi, hz]
              simp only [Instr.buildSlice, Sem.run_bind, run_und hu, Result.andThen_ok, run_size hi, (ty_size hi).1, hik, if_neg hle, Sem.run_pure]
              by_cases hmz : m * k.size = 0
              · rw [if_pos hmz]
                have h0 : (Array.map (fun j => (#[] : Array Value)[j % (#[] : Array Value).size]!) (Array.range (m * k.size))) = madeCells z.cells (m * k.size) := by rw [hmz]; simp [madeCells]
                simp only [Sem.run_bind, Sem.run_pure, Result.andThen_ok, h0, hp1, k1]
                rw [hlm]
                rfl
              · rw [if_neg hmz]
                simp only [Sem.run_bind, Sem.run_pure, Result.andThen_ok, hzr, hp1]
                have h0 : (Array.map (fun j => z.cells[j % z.cells.size]!) (Array.range (m * k.size))) = madeCells z.cells (m * k.size) := rfl
                simp only [h0, k1]
                rw [hlm]
                rfl
            · refine new_row (e := e') (G := G') (H := H) (rows := rows) (cap := m) hg.inv hg.tr (hg.ext.held hb.inv) (by simp) (fun b hb' => alloc_same w _ b hb') ?_ (fun b hb' => ⟨(hg.hand.mem b hb').1, (hg.hand.mem b hb').2.1⟩) (hg.hand.owner hb.inv hg.ext) hg.hand.nodup hg.fp hg.none ?_ (by rw [packs_d _ hpk]; exact hd') (hb.inb.dst d hd')
              · refine .inr ⟨_, 0, _, _, rfl, rfl, by omega, hg.len, by simp, fun _ => ⟨_, _, _, heap_alloc_new w _, by rw [hzsz]; omega, .inr (by simp)⟩, fun j y r hy hr => ?_⟩
                have hjl : j < l.length := (List.getElem?_eq_some_iff.1 hy).1
                have hv : (chunks k.size m zs'.toList)[j]? = some ((chunks k.size m zs'.toList)[j]'(by rw [chunks_length]; omega)) := List.getElem?_eq_getElem _
                have hrep := hg.rep j y r _ hy hr hv
                have hve := chunks_get _ _ _ _ _ hv
                rw [hve] at hrep
                refine ⟨_, fun q u hq => ?_, hrep.same fun b hb' => alloc_same w _ b (hrep.there b hb')⟩
                rw [List.getElem?_take] at hq
                split at hq
                · rw [List.getElem?_drop, Array.getElem?_toList] at hq
                  simp only [World.cell?, heap_alloc_new, Option.isSome_none, Bool.false_eq_true, if_false, Nat.zero_add]
                  exact hq
                · simp at hq
              · intro b hb'
                obtain ⟨r, hr, hbr⟩ := List.mem_flatMap.1 hb'
                obtain ⟨j, hj⟩ := List.getElem?_of_mem hr
                have hjl : j < l.length := by rw [← hg.len]; exact (List.getElem?_eq_some_iff.1 hj).1
                have hv : (chunks k.size m zs'.toList)[j]? = some ((chunks k.size m zs'.toList)[j]'(by rw [chunks_length]; omega)) := List.getElem?_eq_getElem _
                have := (hg.rep j _ r _ (List.getElem?_eq_getElem hjl) hj hv).there b hbr
                rcases Nat.lt_or_ge b w.heap.size with q | q
                · exact q
                · exact absurd (Array.getElem?_eq_none q) this
  · simp at h

end ops

end Go.Mach
/- The machine, part r: turning elements: plain lemmas. No condition: lemmas. -/
namespace Go.Mach
set_option linter.unusedVariables false
set_option linter.unusedSimpArgs false

/-! ### The same shape -/
def Shp : (k : K) → k.T → k.T → Prop
  | .int _, _, _ => True
  | .bool, _, _ => True
  | .str, _, _ => True
  | .list k, l, l' => l'.length = l.length ∧ ∀ i, i < l.length → Shp k (l.getD i k.dflt) (l'.getD i k.dflt)
  | .pair a b, x, y => Shp a x.1 y.1 ∧ Shp b x.2 y.2

theorem Shp.refl : ∀ (k : K) (x : k.T), Shp k x x
  | .int _, _ => trivial
  | .bool, _ => trivial
  | .str, _ => trivial
  | .list k, l => ⟨rfl, fun i _ => Shp.refl k _⟩
  | .pair a b, x => ⟨Shp.refl a _, Shp.refl b _⟩

theorem Shp.flat : ∀ {k : K} (x y : k.T), k.flat = true → Shp k x y
  | .int _, _, _, _ => trivial
  | .bool, _, _, _ => trivial
  | .str, _, _, _ => trivial
  | .list _, _, _, h => by simp [K.flat] at h
  | .pair a b, x, y, h => by
    simp only [K.flat, Bool.and_eq_true] at h
    exact ⟨Shp.flat _ _ h.1, Shp.flat _ _ h.2⟩

/-- A leaf of the same shape. -/
def ShpS (s s' : Sg) : Prop := s'.1 = s.1 ∧ ∀ h : s'.1 = s.1, Shp s.1 s.2 (h ▸ s'.2)

theorem Shp.leaf : ∀ {k : K} {x y : k.T} (c : Nat), Shp k x y → ∀ {k' : K} {z : List k'.T}, leafV k x c = ⟨.list k', z⟩ → ∃ z', leafV k y c = ⟨.list k', z'⟩ ∧ Shp (.list k') z z'
  | .int _, x, y, c, h, k', z, hz => by simp [leafV] at hz
  | .bool, x, y, c, h, k', z, hz => by simp [leafV] at hz
  | .str, x, y, c, h, k', z, hz => by simp [leafV] at hz
  | .list k, x, y, c, h, k', z, hz => by
    simp only [leafV, Sigma.mk.injEq, K.list.injEq] at hz
    obtain ⟨rfl, hz⟩ := hz
    have hz := eq_of_heq hz
    subst hz
    exact ⟨y, rfl, h⟩
  | .pair a b, x, y, c, h, k', z, hz => by
    simp only [leafV] at hz ⊢
    split at hz
    · rename_i hc
      rw [if_pos hc]
      exact Shp.leaf c h.1 hz
    · rename_i hc
      rw [if_neg hc]
      exact Shp.leaf _ h.2 hz

theorem Shp.path : ∀ (p : Path) {k : K} {l l' : List k.T}, Shp (.list k) l l' → PathOk k l p → PathOk k l' p ∧ (getP k l' p).1 = (getP k l p).1 ∧ (getP k l' p).2.length = (getP k l p).2.length
  | [], k, l, l', h, _ => by
    simp only [Shp] at h
    exact ⟨trivial, rfl, h.1⟩
  | (i, c) :: p, k, l, l', h, hp => by
    simp only [Shp] at h
    simp only [PathOk] at hp ⊢
    obtain ⟨hi, hc, hp⟩ := hp
    cases hl : leafV k (l.getD i k.dflt) c with
    | mk k1 y =>
      rw [hl] at hp
      cases k1 with
      | list k' =>
        obtain ⟨z', h1, h2⟩ := Shp.leaf c (h.2 i hi) hl
        obtain ⟨g1, g2, g3⟩ := Shp.path p h2 hp
        have e1 : getP k l ((i, c) :: p) = getP k' y p := by simp only [getP, hl]
        have e2 : getP k l' ((i, c) :: p) = getP k' z' p := by simp only [getP, h1]
        rw [e1, e2, h1]
        exact ⟨⟨by rw [h.1]; exact hi, hc, g1⟩, g2, g3⟩
      | _ => exact hp.elim

theorem Shp.setLeaf : ∀ {k : K} (x : k.T) (c : Nat) (s : Sg), c < k.size → s.1 = k.leaf c → (∀ {k' : K} {z : List k'.T}, leafV k x c = ⟨.list k', z⟩ → ∃ z', s = ⟨.list k', z'⟩ ∧ Shp (.list k') z z') → Shp k x (setLeaf k x c s)
  | .int _, x, c, s, _, _, _ => trivial
  | .bool, x, c, s, _, _, _ => trivial
  | .str, x, c, s, _, _, _ => trivial
  | .list k, x, c, s, _, _, h => by
    obtain ⟨z', rfl, h2⟩ := h rfl
    simp only [Mach.setLeaf, castT_same]
    exact h2
  | .pair a b, x, c, s, hc, hs, h => by
    simp only [Mach.setLeaf]
    simp only [K.leaf] at hs
    simp only [K.size] at hc
    split
    · rename_i q
      rw [if_pos q] at hs
      exact ⟨Shp.setLeaf x.1 c s q hs fun {k' z} hz => h (by simp only [leafV, if_pos q]; exact hz), Shp.refl b _⟩
    · rename_i q
      rw [if_neg q] at hs
      exact ⟨Shp.refl a _, Shp.setLeaf x.2 (c - a.size) s (by omega) hs fun {k' z} hz => h (by simp only [leafV, if_neg q]; exact hz)⟩

theorem Shp.set {k : K} {l : List k.T} {i : Nat} {y : k.T} (hi : i < l.length) (h : Shp k (l.getD i k.dflt) y) : Shp (.list k) l (l.set i y) := by
  simp only [Shp]
  refine ⟨by simp, fun j hj => ?_⟩
  by_cases e : i = j
  · subst e
    simp only [List.getD_eq_getElem?_getD, List.getElem?_set_self hi, Option.getD_some]
    simpa using h
  · simp only [List.getD_eq_getElem?_getD, List.getElem?_set_ne e]
    exact Shp.refl k _

/-- A turn at a path that keeps the shape there keeps the shape. -/
theorem Shp.mod (g : (k : K) → List k.T → List k.T) : ∀ (p : Path) {k : K} {l : List k.T}, PathOk k l p → Shp (.list (getP k l p).1) (getP k l p).2 (g (getP k l p).1 (getP k l p).2) → Shp (.list k) l (modP g k l p)
  | [], k, l, _, h => h
  | (i, c) :: p, k, l, hp, h => by
    simp only [PathOk] at hp
    obtain ⟨hi, hc, hp⟩ := hp
    simp only [modP]
    cases hl : leafV k (l.getD i k.dflt) c with
    | mk k1 y =>
      have hk := leafV_kind k (l.getD i k.dflt) c
      rw [hl] at hp hk
      cases k1 with
      | list k' =>
        have eg : getP k l ((i, c) :: p) = getP k' y p := by simp only [getP, hl]
        rw [eg] at h
        refine Shp.set hi (Shp.setLeaf _ c _ hc hk fun {k2 z} hz => ?_)
        rw [hl] at hz
        simp only [Sigma.mk.injEq, K.list.injEq] at hz
        obtain ⟨rfl, hz⟩ := hz
        have hz := eq_of_heq hz
        subst hz
        exact ⟨_, rfl, Shp.mod g p hp h⟩
      | _ => exact hp.elim

/-! ### Locations as they are -/
theorem setLeafL_self : ∀ (k : K) (L : LT) (c : Nat), setLeafL k L c (leafL k L c) = L
  | .int _, L, c => rfl
  | .bool, L, c => rfl
  | .str, L, c => rfl
  | .list _, L, c => rfl
  | .pair a b, L, c => by
    cases L with
    | pair x y =>
      simp only [setLeafL, leafL]
      split
      · rw [setLeafL_self]
      · rw [setLeafL_self]
    | _ => rfl

theorem list_set_getD {α : Type} (l : List α) (i : Nat) (d : α) : l.set i (l.getD i d) = l := by
  apply List.ext_getElem?
  intro j
  by_cases e : i = j
  · subst e
    rw [List.getElem?_set]
    by_cases h : i < l.length
    · simp [h]
    · simp [h]
  · rw [List.getElem?_set_ne e]

theorem setSub_self {dr d : Bool} {w : World} : ∀ (p : Path) {k : K} {l : List k.T} {L : LT} {v : Value}, RepL dr w k.size (Rep d w k) l L v → PathOk k l p → setSub k L (subL k L p) p = L
  | [], k, l, L, v, _, _ => rfl
  | (i, c) :: p, k, l, L, v, h, hp => by
    simp only [PathOk] at hp
    obtain ⟨hi, hc, hp⟩ := hp
    obtain ⟨b, off, cap, rows, r, vs, rfl, rfl, hcap, hrl, hr, hrow, hrep⟩ := h.elem hi
    obtain ⟨v1, hv1, hleaf, hsub⟩ := hrep.leaf hc
    have hrd : rows.getD i .leaf = r := by simp [hr]
    cases hl : leafV k (l.getD i k.dflt) c with
    | mk k1 y =>
      have hk := leafV_kind k (l.getD i k.dflt) c
      rw [hl] at hk hp hleaf
      simp only at hk hleaf
      cases k1 with
      | list k' =>
        simp only [Rep] at hleaf
        obtain ⟨u, hu, hleaf⟩ := hleaf
        simp only [subL, setSub, ← hk, hrd]
        rw [setSub_self p hleaf hp, setLeafL_self]
        congr 1
        rw [← hrd, list_set_getD]
      | _ => exact hp.elim

/-! ### Leaves, set one by one -/
def setLeavesL (k : K) : LT → Nat → List LT → LT
  | L, _, [] => L
  | L, c, M :: r => setLeavesL k (setLeafL k L c M) (c + 1) r

/-- Leaves, their places and their cells. -/
def LeavesAt (d : Bool) (w : World) (k : K) : Nat → List Sg → List LT → List Value → Prop
  | _, [], [], [] => True
  | c, s :: gs, M :: Ms, u :: us => s.1 = k.leaf c ∧ Rep d w s.1 s.2 M [u] ∧ LeavesAt d w k (c + 1) gs Ms us
  | _, _, _, _ => False

/-- The blocks of leaves. -/
def fpLeaves : List Sg → List LT → List Nat
  | s :: gs, M :: Ms => fp s.1 M ++ fpLeaves gs Ms
  | _, _ => []

theorem LeavesAt.length {d : Bool} {w : World} {k : K} : ∀ {c : Nat} {gs : List Sg} {Ms : List LT} {us : List Value}, LeavesAt d w k c gs Ms us → gs.length = us.length ∧ Ms.length = us.length
  | _, [], [], [], _ => ⟨rfl, rfl⟩
  | c, s :: gs, M :: Ms, u :: us, h => by
    obtain ⟨_, _, h⟩ := h
    obtain ⟨h1, h2⟩ := h.length
    simp [h1, h2]
  | _, [], [], _ :: _, h => by simp [LeavesAt] at h
  | _, [], _ :: _, _, h => by simp [LeavesAt] at h
  | _, _ :: _, [], _, h => by simp [LeavesAt] at h
  | _, _ :: _, _ :: _, [], h => by simp [LeavesAt] at h

theorem Rep.setLeaves {d : Bool} {w : World} {k : K} : ∀ {gs : List Sg} {Ms : List LT} {us : List Value} {x : k.T} {L : LT} {cs : List Value} {c : Nat}, Rep d w k x L cs → c + us.length ≤ k.size → LeavesAt d w k c gs Ms us →
    Rep d w k (setLeaves k x c gs) (setLeavesL k L c Ms) (setFrom cs c us)
  | [], [], [], x, L, cs, c, h, _, _ => h
  | s :: gs, M :: Ms, u :: us, x, L, cs, c, h, hc, hl => by
    obtain ⟨h1, h2, h3⟩ := hl
    simp only [List.length_cons] at hc
    have h0 : Rep d w k (Mach.setLeaf k x c s) (setLeafL k L c M) (cs.set c u) := h.setLeaf (by omega) h1 h2
    exact Rep.setLeaves (gs := gs) (Ms := Ms) (us := us) (c := c + 1) h0 (by omega) h3
  | [], [], _ :: _, _, _, _, _, _, _, h => by simp [LeavesAt] at h
  | [], _ :: _, _, _, _, _, _, _, _, h => by simp [LeavesAt] at h
  | _ :: _, [], _, _, _, _, _, _, _, h => by simp [LeavesAt] at h
  | _ :: _, _ :: _, [], _, _, _, _, _, _, h => by simp [LeavesAt] at h

theorem K.leaf_leaf : ∀ (k : K) (c : Nat), (k.leaf c).flat = false → ∃ k', k.leaf c = .list k'
  | .int _, c, h => by simp [K.leaf, K.flat] at h
  | .bool, c, h => by simp [K.leaf, K.flat] at h
  | .str, c, h => by simp [K.leaf, K.flat] at h
  | .list k, c, _ => ⟨k, rfl⟩
  | .pair a b, c, h => by
    simp only [K.leaf] at h ⊢
    split <;> rename_i q
    · rw [if_pos q] at h; exact K.leaf_leaf a c h
    · rw [if_neg q] at h; exact K.leaf_leaf b _ h

/-- The blocks of an element whose leaves are set: those of the leaves, and of what is left. -/
theorem leaves_perm {d : Bool} {w : World} {k : K} : ∀ {gs : List Sg} {Ms : List LT} {us : List Value} {x : k.T} {L : LT} {cs : List Value} {c : Nat}, Rep d w k x L cs → c + us.length ≤ k.size → LeavesAt d w k c gs Ms us →
    ∃ rest, (fpLeaves gs Ms ++ fp k L).Perm (fp k (setLeavesL k L c Ms) ++ rest)
  | [], [], [], x, L, cs, c, h, _, _ => ⟨[], by simp [fpLeaves, setLeavesL]⟩
  | s :: gs, M :: Ms, u :: us, x, L, cs, c, h, hc, hl => by
    obtain ⟨h1, h2, h3⟩ := hl
    simp only [List.length_cons] at hc
    have h0 : Rep d w k (Mach.setLeaf k x c s) (setLeafL k L c M) (cs.set c u) := h.setLeaf (by omega) h1 h2
    obtain ⟨rest, hr⟩ := leaves_perm (gs := gs) (Ms := Ms) (us := us) (c := c + 1) h0 (by omega) h3
    obtain ⟨q1, q2⟩ := leaf_perm h (c := c) (by omega)
    refine ⟨rest ++ fp (k.leaf c) (leafL k L c), ?_⟩
    simp only [fpLeaves, setLeavesL]
    have := q2 M
    rw [← List.append_assoc]
    refine List.Perm.trans ?_ (hr.append_right _)
    rw [h1]
    -- fp M ++ fpLeaves ++ fp L ~ fpLeaves ++ fp (set) ++ leaf
    have e1 : (fpLeaves gs Ms ++ fp k (setLeafL k L c M) ++ fp (k.leaf c) (leafL k L c)).Perm (fpLeaves gs Ms ++ (fp (k.leaf c) M ++ restL k L c) ++ fp (k.leaf c) (leafL k L c)) :=
      (List.Perm.append_left _ this).append_right _
    refine List.Perm.trans ?_ e1.symm
    have e2 : (fp (k.leaf c) M ++ fpLeaves gs Ms ++ fp k L).Perm (fp (k.leaf c) M ++ fpLeaves gs Ms ++ (fp (k.leaf c) (leafL k L c) ++ restL k L c)) := List.Perm.append_left _ q1
    refine e2.trans ?_
    simp only [List.append_assoc]
    have e3 : (fp (k.leaf c) M ++ (fpLeaves gs Ms ++ (fp (k.leaf c) (leafL k L c) ++ restL k L c))).Perm (fpLeaves gs Ms ++ (fp (k.leaf c) M ++ (fp (k.leaf c) (leafL k L c) ++ restL k L c))) := by
      rw [← List.append_assoc, ← List.append_assoc]
      rw [← List.append_assoc, ← List.append_assoc]
      exact (List.perm_append_comm.append_right _).append_right _
    refine e3.trans (List.Perm.append_left _ (List.Perm.append_left _ List.perm_append_comm))
  | [], [], _ :: _, _, _, _, _, _, _, h => by simp [LeavesAt] at h
  | [], _ :: _, _, _, _, _, _, _, _, h => by simp [LeavesAt] at h
  | _ :: _, [], _, _, _, _, _, _, _, h => by simp [LeavesAt] at h
  | _ :: _, _ :: _, [], _, _, _, _, _, _, h => by simp [LeavesAt] at h

end Go.Mach
/- The machine, part s: stores into boxes. No condition: lemmas. -/
namespace Go.Mach
set_option linter.unusedVariables false
set_option linter.unusedSimpArgs false

theorem run_store_row (P : Program) (g o : Nat) (t : TypeId) (fr : Nat × Nat) : ∀ (vs : List Value) (i : Nat) (cur : Array Value) (w : World), w.heap[g]? = some (.cells cur t fr) → o + i + vs.length ≤ cur.size →
    (∀ q, o + i ≤ q → q < o + i + vs.length → ¬ (fr.1 ≤ q ∧ q < fr.2)) → (∀ v ∈ vs, v.oneCell' = true) →
    (storeCells ⟨g, o, none⟩ vs i).run P w = .ok () (w.setRow g (setFrom cur.toList (o + i) vs).toArray)
  | [], i, cur, w, hg, _, _, _ => by
    simp only [storeCells, setFrom, Array.toArray_toList]
    rw [setRow_self w g cur t fr hg]
    rfl
  | v :: rest, i, cur, w, hg, hl, hf, h1 => by
    have hi : o + i < cur.size := by simp at hl; omega
    have hadd : (⟨g, o, none⟩ : Addr).add i = ⟨g, o + i, none⟩ := by unfold Addr.add; split <;> simp_all
    have hcell : w.cell? ⟨g, o + i, none⟩ = some cur[o + i] := by simp [World.cell?, hg, hi]
    have hfro : w.frozen? ⟨g, o + i, none⟩ = false := by
      have := hf (o + i) (Nat.le_refl _) (by simp)
      simp only [World.frozen?, hg, Bool.and_eq_false_iff, decide_eq_false_iff_not]
      omega
    have hst : (store ((⟨g, o, none⟩ : Addr).add i) v).run P w = .ok () (w.setRow g (cur.setIfInBounds (o + i) v)) := by
      rw [hadd, run_store P w _ v _ (h1 v (by simp)), hcell]
      simp [hfro, setCell_eq_setRow w g (o + i) cur t fr v hg]
    have ih := run_store_row P g o t fr rest (i + 1) (cur.setIfInBounds (o + i) v) (w.setRow g (cur.setIfInBounds (o + i) v)) (setRow_heap w g cur _ t fr hg) (by simp at hl ⊢; omega)
      (fun q h1 h2 => hf q (by omega) (by simp; omega)) (fun x hx => h1 x (by simp [hx]))
    simp only [storeCells, Sem.run_bind, hst, Result.andThen_ok, ih, setRow_setRow, setFrom]
    congr 3
    simp [Array.toList_setIfInBounds, Nat.add_assoc]

section ops
variable {P : Program} {n : Nat} {e : Env} {a : Act} {w : World} {G : Gh} {get : Nat → Slot} {o : Oper} {x : Ctx} {ws : Writes}

/-- An operation without a value, at its end. -/
theorem lay_skip {e0 : Env} {w1 : World} {G0 : Gh} {t : Tr} (h : Inv n e a.tmps w1 G) (ht : TrOk e0 t e) (hst : Held n e0.length w w1 G0 G) (hg : w.heap.size ≤ w1.heap.size) (hd : ∀ d, t.d = some d → d < n) (henv : SameEnv w w1) :
    ∃ G', Post n (e0.puts (t.lay t.d (.dead, [])).ws) a w G0 (a.put t.d undef) w1 G' := by
  cases hdd : t.d with
  | none =>
    simp only [Tr.lay, Act.put]
    rw [ht.puts]
    exact ⟨G, h, by rw [ht.length]; exact hst, hg, rfl, henv⟩
  | some d =>
    have hdn := hd d hdd
    have hat := ht.dst d hdd
    have hlen : d < e.length := Nat.lt_of_lt_of_le hdn h.elen
    simp only [Tr.lay]
    rw [(ht.put ((t.at d).lay .dead []) hlen).puts, hat]
    have := h.lay (w' := w1) d .dead [] [] (fun _ => .leaf) 0 [] (Nat.le_refl _) (fun b _ _ => rfl) (by simp) rfl (by simp) (by simp [boxB, fpCells]) (by simp [boxB, fpCells]) (fun _ => rfl) (by simp)
      (a.put (some d) undef).tmps (by rw [put_size]; exact h.size) (fun t' ht' hn => by rw [put_tmps]; simp [Ne.symm ht']) (fun hn => trivial)
    refine ⟨_, this, ⟨fun b q1 q2 => ?_, fun s hs => ⟨fun q => ⟨(upd_ne _ _ (by omega)).trans ((hst.vs s hs).1 q).1, fun j => by rw [show (G.lay d [] (fun _ => .leaf) 0 []).lt s = G.lt s from upd_ne _ _ (by omega)]; exact ((hst.vs s hs).1 q).2 j⟩, (show (G.lay d [] (fun _ => .leaf) 0 []).bk s = G.bk s from upd_ne _ _ (by omega)).trans (hst.vs s hs).2⟩, fun b t q1 q2 q3 => by
      have hl : (e.set d ((e.get d).lay .dead [])).length = e0.length := by rw [List.length_set, ht.length]
      obtain ⟨r1, r2⟩ := hst.out b t q1 (by rw [← hl]; exact q2) q3
      exact ⟨r1, by simp [Gh.lay, r2]⟩⟩, hg, put_defers _ _ _, henv⟩
    obtain ⟨r1, r2⟩ := hst.still b q1 q2
    exact ⟨r1, by simp [Gh.lay, r2]⟩

theorem Sound.skip {w' : World} {G' : Gh} (h : (execOp a.eval o).run P w = .ok .skip w') (hp : Post n (e.puts ws) a w G (a.put o.dst undef) w' G') : Sound P n e a w G o ws :=
  fun K Q hk => wp_skip' h (hk _ _ _ hp)

theorem run_storeAt {t : Nat} {i : TypeInfo} (hi : P.info? t = some i) {b o' : Nat} {u : Value} {us : List Value} (hu : u.cells = us.toArray) (hl : us.length = (tyOf P t).size) {w w' : World}
    (h : (storeCells ⟨b, o', none⟩ us 0).run P w = .ok () w') : (Instr.storeAt t (.pointer (some ⟨b, o', none⟩)) u).run P w = .ok () w' := by
  simp only [Instr.storeAt, Instr.sureAddr, storeVar, Sem.run_bind, Sem.run_pure, Result.andThen_ok, run_size hi, hu]
  simp only [List.size_toArray, hl, ne_eq, not_true_eq_false, if_false]
  exact h

theorem layFun (r : Nat) : (fun c => match c with | C.own _ _ d k l => C.own r 0 d k l | c => c) = layC r := by
  funext c
  cases c <;> rfl

theorem layC_noOwn {r : Nat} {c : C} (h : c.isOwn = false) : layC r c = c := by cases c <;> first | rfl | simp [C.isOwn] at h

theorem fpCells_layC (Ls : Nat → LT) (r : Nat) : ∀ (cs : List C) (i : Nat), fpCells Ls i (cs.map (layC r)) = fpCells Ls i cs
  | [], i => rfl
  | c :: cs, i => by simp only [List.map_cons, fpCells, ownB_lay, fpCells_layC Ls r cs]

theorem perm3 {α : Type} (A R B : List α) : (A ++ R ++ B).Perm (B ++ R ++ A) := by
  refine List.perm_append_comm.trans ?_
  rw [List.append_assoc]
  exact List.Perm.append_left _ List.perm_append_comm

/-- The blocks of cells of which some are set. -/
theorem fpCells_setFrom : ∀ (vs cs : List C) (Ls Ms : Nat → LT) (i j : Nat), j + vs.length ≤ cs.length →
    ∃ rest, (fpCells Ls i cs ++ fpCells Ms 0 vs).Perm (fpCells (fun q => if i + j ≤ q ∧ q < i + j + vs.length then Ms (q - (i + j)) else Ls q) i (setFrom cs j vs) ++ rest)
  | [], cs, Ls, Ms, i, j, h => by
    refine ⟨[], ?_⟩
    have : (fun q => if i + j ≤ q ∧ q < i + j + ([] : List C).length then Ms (q - (i + j)) else Ls q) = Ls := by
      funext q
      rw [if_neg (by simp only [List.length_nil]; omega)]
    rw [this]
    simp [fpCells, setFrom]
  | v :: r, cs, Ls, Ms, i, j, h => by
    simp only [List.length_cons] at h
    have hj : cs[j]? = some (cs[j]'(by omega)) := List.getElem?_eq_getElem (by omega)
    obtain ⟨rest1, q1, q2⟩ := fpCells_perm (lt := Ls) (i := i) hj
    have q2 := q2 (upd Ls (i + j) (Ms 0)) v (fun m hm => upd_ne _ _ hm)
    rw [upd_self] at q2
    obtain ⟨rest, q3⟩ := fpCells_setFrom r (cs.set j v) (upd Ls (i + j) (Ms 0)) (fun q => Ms (q + 1)) i (j + 1) (by simp; omega)
    have hf : (fun q => if i + j ≤ q ∧ q < i + j + (v :: r).length then Ms (q - (i + j)) else Ls q) =
        (fun q => if i + (j + 1) ≤ q ∧ q < i + (j + 1) + r.length then (fun q => Ms (q + 1)) (q - (i + (j + 1))) else upd Ls (i + j) (Ms 0) q) := by
      funext q
      simp only [List.length_cons, upd]
      by_cases g : q = i + j
      · subst g
        rw [if_pos (by omega), if_neg (by omega), if_pos rfl, Nat.sub_self]
      · rw [if_neg g]
        by_cases g1 : i + (j + 1) ≤ q ∧ q < i + (j + 1) + r.length
        · rw [if_pos g1, if_pos (by omega)]
          congr 1
          omega
        · rw [if_neg g1, if_neg (by omega)]
    rw [hf]
    refine ⟨rest ++ ownB (cs[j]'(by omega)) (Ls (i + j)), ?_⟩
    simp only [fpCells, setFrom]
    rw [show (0 : Nat) + 1 = 0 + 1 from rfl, fpCells_shift Ms r 0, ← List.append_assoc, ← List.append_assoc]
    refine List.Perm.trans ?_ (q3.append_right _)
    -- old ++ new0 ++ rest  ~  (set) ++ rest ++ old0
    have e1 : (fpCells Ls i cs ++ ownB v (Ms 0)).Perm (fpCells (upd Ls (i + j) (Ms 0)) i (cs.set j v) ++ ownB (cs[j]'(by omega)) (Ls (i + j))) := by
      refine (q1.append_right _).trans (List.Perm.trans ?_ (q2.symm.append_right _))
      exact perm3 _ _ _
    refine (e1.append_right _).trans ?_
    simp only [List.append_assoc]
    exact List.Perm.append_left _ List.perm_append_comm

theorem setFrom_cell {α : Type} {cs vs : List α} {j i : Nat} {c : α} (h : j + vs.length ≤ cs.length) (hc : (setFrom cs j vs)[i]? = some c) :
    (j ≤ i ∧ i < j + vs.length ∧ vs[i - j]? = some c) ∨ (¬ (j ≤ i ∧ i < j + vs.length) ∧ cs[i]? = some c) := by
  rw [setFrom_get _ _ _ _ h] at hc
  split at hc
  · rename_i q
    exact .inl ⟨q.1, q.2, hc⟩
  · rename_i q
    exact .inr ⟨q, hc⟩

theorem store_box (hb : Begin n e a w G get o) {e1 : Env} {t : Tr} {H : List Nat} {Ls : Nat → LT} {cs : List C} {vs : List Value} (ht : Taken n e e a.tmps w G t cs vs e1 H Ls) {s bv j : Nat} (hsh : (e.get s).sh = .box bv)
    (hj : j + cs.length ≤ (e1.get s).cs.length) (hone : ∀ v ∈ vs, v.oneCell' = true) (hsn : s < n ∨ (s - n) % 2 = 1) :
    ∃ w' G', (storeCells ⟨G.bk s, j, none⟩ vs 0).run P w = .ok () w' ∧ Inv n (e1.set s { e1.get s with cs := setFrom (e1.get s).cs j (cs.map (layC (e1.get s).cnt)), cnt := (e1.get s).cnt + 1 }) a.tmps w' G' ∧
      Held n e1.length w w' G G' ∧ w'.heap.size = w.heap.size ∧ SameEnv w w' := by
  have hsh1 : (e1.get s).sh = .box bv := by rw [ht.ext.sh]; exact hsh
  have hslot := ht.inv.slot s
  obtain ⟨hbv, ty, hblk⟩ := hslot.box bv hsh1
  have hne : (e1.get s).sh ≠ .dead := by rw [hsh1]; simp
  have hlen := hslot.len hne
  have hj' : j + vs.length ≤ (G.vs s).length := by rw [hlen, ht.len]; exact hj
  have hrun := run_store_row P (G.bk s) j ty (0, 0) vs 0 (G.vs s).toArray w hblk (by simpa using hj') (fun q _ _ => by simp) hone
  simp only [Nat.add_zero] at hrun
  have hfps : fpS G s (e1.get s) = G.bk s :: fpCells (G.lt s) 0 (e1.get s).cs := by simp [fpS, hsh1]
  have hbk : G.ow (G.bk s) = some s := hslot.own _ (by rw [hfps]; simp)
  have hbH : G.bk s ∉ H := fun q => (ht.hand.mem _ q).1 s (by rw [hfps]; simp)
  have hndS := hslot.nodup
  rw [hfps] at hndS
  have hml : (cs.map (layC (e1.get s).cnt)).length = cs.length := by simp
  obtain ⟨rest, hperm⟩ := fpCells_setFrom (cs.map (layC (e1.get s).cnt)) (e1.get s).cs (G.lt s) Ls 0 j (by rw [hml]; exact hj)
  rw [fpCells_layC, ht.fp] at hperm
  simp only [Nat.zero_add, hml] at hperm
  have hall : (G.bk s :: (fpCells (G.lt s) 0 (e1.get s).cs ++ H)).Nodup := by
    rw [← List.cons_append, List.nodup_append]
    refine ⟨hndS, ht.hand.nodup, fun b hb b' hb' heq => ?_⟩
    subst heq
    exact (ht.hand.mem b hb').1 s (by rw [hfps]; exact hb)
  have hall' := (List.Perm.cons (G.bk s) hperm).nodup_iff.1 hall
  have hI := ht.inv.box (w' := w.setRow (G.bk s) (setFrom (G.vs s) j vs).toArray) hsh1 (setFrom (e1.get s).cs j (cs.map (layC (e1.get s).cnt))) (setFrom (G.vs s) j vs) (fun q => if j ≤ q ∧ q < j + cs.length then Ls (q - j) else G.lt s q) H
    (by simp) (fun b hb _ _ => setRow_other w _ b _ hb) ⟨ty, setRow_heap w _ _ _ ty _ hblk⟩
    (fun b hb => by
      obtain ⟨h1, h2, h3, _⟩ := ht.hand.mem b hb
      exact ⟨h1, .inl h2, by simpa using h3⟩)
    (by rw [setFrom_length, setFrom_length, hlen])
    (fun i c v hc hv => by
      rcases setFrom_cell (by rw [hml]; exact hj) hc with ⟨g1, g2, g3⟩ | ⟨g1, g3⟩
      · right
        rw [hml] at g2
        rcases setFrom_cell hj' hv with ⟨_, _, g4⟩ | ⟨g4, _⟩
        · rw [if_pos ⟨g1, g2⟩]
          rw [List.getElem?_map] at g3
          cases hci : cs[i - j]? with
          | none => rw [hci] at g3; simp at g3
          | some c0 =>
            rw [hci] at g3
            simp only [Option.map_some, Option.some.injEq] at g3
            subst g3
            have hnew := ht.new _ c0 v hci g4
            cases c0 with
            | own rv sv d k l =>
              obtain ⟨n1, n2⟩ := hnew
              refine ⟨⟨n1.same fun b hb => setRow_other w _ b _ ?_, n2⟩, fun r1 r2 d' k' l' hq => by simp only [layC, C.own.injEq] at hq; exact ⟨hq.1.symm, hq.2.1.symm⟩⟩
              rintro rfl
              cases d with
              | true =>
                refine hbH ?_
                rw [← ht.fp]
                exact fpCells_mem hci (by simpa [ownB] using hb)
              | false =>
                rw [fp_list, List.mem_append] at hb
                rcases hb with hb | hb
                · refine hbH ?_
                  rw [← ht.fp]
                  exact fpCells_mem hci (by simpa [ownB] using hb)
                · rw [(n2 rfl _ hb).1] at hbk
                  simp at hbk
            | _ => exact ⟨hnew, fun r1 r2 d' k' l' hq => by simp [layC] at hq⟩
        · rw [ht.len] at g4
          exact absurd ⟨g1, g2⟩ g4
      · left
        rw [hml] at g1
        rcases setFrom_cell hj' hv with ⟨g4, g5, _⟩ | ⟨_, g4⟩
        · rw [ht.len] at g5
          exact absurd ⟨g4, g5⟩ g1
        · refine ⟨g3, g4, if_neg g1, fun b hb => ?_⟩
          rw [if_neg g1] at hb
          have hm : b ∈ fpCells (G.lt s) 0 (e1.get s).cs := fpCells_mem g3 (by simpa using hb)
          refine ⟨?_, fun q => ?_⟩
          · rintro rfl
            exact (List.nodup_cons.1 hndS).1 hm
          · exact (ht.hand.mem b q).1 s (by rw [hfps]; simp [hm]))
    (by
      rw [← List.cons_append] at hall'
      exact (List.nodup_append.1 hall').1)
    (fun b hb => by
      have : b ∈ fpCells (G.lt s) 0 (e1.get s).cs ++ H := hperm.mem_iff.2 (List.mem_append_left _ hb)
      rw [List.mem_append] at this
      rcases this with q | q
      · exact .inr (by rw [hfps]; simp [q])
      · exact .inl q)
  refine ⟨_, _, hrun, hI, ⟨fun b q1 q2 => ⟨setRow_other w _ b _ (by rintro rfl; rw [q1] at hbk; simp at hbk), ?_⟩, fun s' hs' => ⟨fun q => ⟨upd_ne _ _ (by omega), fun j' => by rw [show (G.cells s (setFrom (G.vs s) j vs) (fun q => if j ≤ q ∧ q < j + cs.length then Ls (q - j) else G.lt s q) H).lt s' = G.lt s' from upd_ne _ _ (by omega)]⟩, rfl⟩, fun b t q1 q2 q3 => ?out⟩, by simp, ⟨rfl, rfl, rfl⟩⟩
  case out =>
    have hbs : b ≠ G.bk s := by
      rintro rfl
      rw [q1] at hbk
      simp only [Option.some.injEq] at hbk
      subst hbk
      rw [get_out (by omega)] at hsh1
      simp at hsh1
    have hbH' : b ∉ H := fun q => by have := ht.hand.owner hb.inv ht.ext b q t q1; omega
    exact ⟨setRow_other w _ b _ hbs, by simp [Gh.cells, hbH', q1]⟩
  have : b ∉ H := fun q => (ht.hand.mem b q).2.1 q1
  simp [Gh.cells, this, q1]

end ops

end Go.Mach
/- The machine, part t: stores into elements. No condition: lemmas. -/
namespace Go.Mach
set_option linter.unusedVariables false
set_option linter.unusedSimpArgs false

theorem grabs_d {k : K} : ∀ (cs : List C) {c : Nat} {t t' : Tr} {gs : List Sg} {d : Bool}, t.grabs k c cs = some (t', gs, d) → t'.d = t.d
  | [], c, t, t', gs, d, h => by simp only [Tr.grabs, Option.some.injEq, Prod.mk.injEq] at h; rw [h.1]
  | x :: r, c, t, t', gs, d, h => by
    simp only [Tr.grabs] at h
    split at h
    · simp at h
    · rename_i h1
      split at h
      · simp at h
      · rename_i h2
        simp only [Option.some.injEq, Prod.mk.injEq] at h
        obtain ⟨rfl, _⟩ := h
        rw [grabs_d r h2, grab_d h1]

theorem LeavesAt.mono {d d' : Bool} {w w' : World} {k : K} : ∀ {c : Nat} {gs : List Sg} {Ms : List LT} {us : List Value}, LeavesAt d w k c gs Ms us → (d' = true → d = true) → Same w w' (fpLeaves gs Ms) → LeavesAt d' w' k c gs Ms us
  | _, [], [], [], h, _, _ => h
  | c, s :: gs, M :: Ms, u :: us, h, hd, hs => by
    obtain ⟨h1, h2, h3⟩ := h
    refine ⟨h1, ?_, h3.mono hd fun b hb => hs b (by simp [fpLeaves, hb])⟩
    have h4 := h2.same fun b hb => hs b (by simp [fpLeaves, hb])
    cases d with
    | true => exact h4.any d'
    | false => cases d' with
      | true => simp at hd
      | false => exact h4
  | _, [], [], _ :: _, h, _, _ => by simp [LeavesAt] at h
  | _, [], _ :: _, _, h, _, _ => by simp [LeavesAt] at h
  | _, _ :: _, [], _, h, _, _ => by simp [LeavesAt] at h
  | _, _ :: _, _ :: _, [], h, _, _ => by simp [LeavesAt] at h

structure GrabbedLeaves (n : Nat) (e0 : Env) (e : Env) (tm : Array Value) (w : World) (G : Gh) (t' : Tr) (k : K) (c : Nat) (gs : List Sg) (d : Bool) (us : List Value) (e' : Env) (G' : Gh) (H : List Nat) (Ms : List LT) : Prop where
  inv : Inv n e' tm w G'
  tr : TrOk e0 t' e'
  ext : Ext w e G e' G'
  hand : Hand w e G e' G' H
  leaves : LeavesAt d w k c gs Ms us
  fp : d = true → H = fpLeaves gs Ms
  none : ∀ b ∈ fpLeaves gs Ms, b ∈ H ∨ G'.ow b = none

theorem grabs_ok (k : K) : ∀ (cs : List C) {c n : Nat} {e0 e : Env} {tm : Array Value} {w : World} {G : Gh} {t t' : Tr} (h : Inv n e tm w G) (ht : TrOk e0 t e) {us : List Value} {Ls : Nat → LT} (hc : CellsOk e w G cs us Ls)
    (ho : ∀ c ∈ cs, c.isOwn = false) {gs : List Sg} {d : Bool} (hg : t.grabs k c cs = some (t', gs, d)),
    ∃ e' G' H Ms, GrabbedLeaves n e0 e tm w G t' k c gs d us e' G' H Ms
  | [], c, n, e0, e, tm, w, G, t, t', h, ht, us, Ls, hc, ho, gs, d, hg => by
    simp only [Tr.grabs, Option.some.injEq, Prod.mk.injEq] at hg
    obtain ⟨rfl, rfl, rfl⟩ := hg
    have : us = [] := List.eq_nil_of_length_eq_zero (by simpa using hc.len)
    subst this
    exact ⟨e, G, [], [], h, ht, Ext.refl, Hand.nil, trivial, by simp [fpLeaves], by simp [fpLeaves]⟩
  | x :: cs, c, n, e0, e, tm, w, G, t, t', h, ht, us, Ls, hc, ho, gs, d, hg => by
    match us, hc with
    | [], hc => exact absurd hc.len (by simp)
    | u :: us, hc =>
      simp only [Tr.grabs] at hg
      cases h1 : t.grab x (k.leaf c) with
      | none => rw [h1] at hg; simp at hg
      | some r1 =>
        obtain ⟨t1, x1, d1⟩ := r1
        rw [h1] at hg
        simp only at hg
        cases h2 : t1.grabs k (c + 1) cs with
        | none => rw [h2] at hg; simp at hg
        | some r2 =>
          obtain ⟨t2, xs, d2⟩ := r2
          rw [h2] at hg
          simp only [Option.some.injEq, Prod.mk.injEq] at hg
          obtain ⟨rfl, rfl, rfl⟩ := hg
          obtain ⟨e1, G1, H1, L1, g1⟩ := grab_ok h ht (hc.cell 0 x u rfl rfl) h1
          have hcr : CellsOk e w G cs us (fun j => Ls (1 + j)) := by
            have := hc.drop 1
            simpa using this
          obtain ⟨e2, G2, H2, Ms, g2⟩ := grabs_ok k cs g1.inv g1.tr (hcr.ext g1.ext (fun c hc' => ho c (by simp [hc']))) (fun c hc' => ho c (by simp [hc'])) h2
          refine ⟨e2, G2, H1 ++ H2, L1 :: Ms, g2.inv, g2.tr, g1.ext.trans g2.ext, ?_, ⟨rfl, ?_, ?_⟩, ?_, ?_⟩
          · exact g1.hand.append g1.ext g2.ext g2.hand (fun b hb ho => (g1.ext.loose b hb ho).1) (fun b hb => g1.ext.some_before (g2.ext.some_before (g2.hand.mem b hb).2.1))
          · cases d1 with
            | false => simpa using g1.rep
            | true => exact g1.rep.any _
          · refine g2.leaves.mono (fun hd => ?_) (fun b _ => rfl)
            simp only [Bool.and_eq_true] at hd
            exact hd.2
          · intro hd
            simp only [Bool.and_eq_true] at hd
            rw [g1.fp hd.1, g2.fp hd.2]
            simp [fpLeaves]
          · intro b hb
            simp only [fpLeaves, List.mem_append] at hb
            rcases hb with hb | hb
            · rcases g1.none b hb with q | q
              · exact .inl (by simp [q])
              · exact .inr (g2.ext.none b q)
            · rcases g2.none b hb with q | q
              · exact .inl (by simp [q])
              · exact .inr q

theorem leaf_noPair : ∀ (k : K) (c : Nat) (a b : K), k.leaf c ≠ .pair a b
  | .int _, c, a, b => by simp [K.leaf]
  | .bool, c, a, b => by simp [K.leaf]
  | .str, c, a, b => by simp [K.leaf]
  | .list k, c, a, b => by simp [K.leaf]
  | .pair x y, c, a, b => by
    simp only [K.leaf]
    split
    · exact leaf_noPair x c a b
    · exact leaf_noPair y _ a b

theorem Rep.one_flat {d d' : Bool} {w w' : World} {M M' : LT} {cs : List Value} : ∀ {s : Sg}, s.1.flat = true → (∀ a b, s.1 ≠ .pair a b) → Rep d w s.1 s.2 M cs → Rep d' w' s.1 s.2 M' cs
  | ⟨.int _, _⟩, _, _, h => h
  | ⟨.bool, _⟩, _, _, h => h
  | ⟨.str, _⟩, _, _, h => h
  | ⟨.list _, _⟩, h, _, _ => by simp [K.flat] at h
  | ⟨.pair a b, _⟩, _, h, _ => absurd rfl (h a b)

/-- Flat leaves leave the data where they lie. -/
theorem flat_leaves {d : Bool} {w w' : World} {k : K} (r : LT) : ∀ {us : List Value} {gs : List Sg} {Ms : List LT} {c : Nat}, hasList k c us.length = false → LeavesAt d w k c gs Ms us →
    ∃ Ms', LeavesAt true w' k c gs Ms' us ∧ setLeavesL k r c Ms' = r ∧ fpLeaves gs Ms' = [] ∧ fpLeaves gs Ms = []
  | [], [], [], c, _, _ => ⟨[], trivial, rfl, rfl, rfl⟩
  | u :: us, s :: gs, M :: Ms, c, hh, h => by
    simp only [List.length_cons, hasList, Bool.or_eq_false_iff, Bool.not_eq_false'] at hh
    obtain ⟨h1, h2, h3⟩ := h
    obtain ⟨Ms', q1, q2, q3, q4⟩ := flat_leaves r hh.2 h3
    have hf : s.1.flat = true := by rw [h1]; exact hh.1
    refine ⟨leafL k r c :: Ms', ⟨h1, Rep.one_flat hf (by rw [h1]; exact leaf_noPair k c) h2, q1⟩, ?_, ?_, ?_⟩
    · simp only [setLeavesL, setLeafL_self]; exact q2
    · simp only [fpLeaves, q3, fp_flat hf]; rfl
    · simp only [fpLeaves, q4, fp_flat hf]; rfl
  | _ :: _, [], _, _, _, h => by cases ‹List LT› <;> simp [LeavesAt] at h
  | _ :: _, _ :: _, [], _, _, h => by simp [LeavesAt] at h
  | [], _ :: _, [], _, _, h => by simp [LeavesAt] at h
  | [], _ :: _, _ :: _, _, _, h => by simp [LeavesAt] at h
  | [], [], _ :: _, _, _, h => by simp [LeavesAt] at h

theorem modP_length (g : (k : K) → List k.T → List k.T) : ∀ (p : Path) {k : K} {l : List k.T}, (g (getP k l p).1 (getP k l p).2).length = (getP k l p).2.length → (modP g k l p).length = l.length
  | [], k, l, h => h
  | (i, c) :: p, k, l, h => by
    simp only [modP]
    split
    · simp
    · rfl

theorem hdOf_setSub {dr d : Bool} {w : World} {M : LT} : ∀ (p : Path) {k : K} {l : List k.T} {L : LT} {v : Value}, RepL dr w k.size (Rep d w k) l L v → PathOk k l p → hdOf M = hdOf (subL k L p) → hdOf (setSub k L M p) = hdOf L
  | [], k, l, L, v, _, _, h => h
  | (i, c) :: p, k, l, L, v, h, hp, hM => by
    simp only [PathOk] at hp
    obtain ⟨hi, hc, hp⟩ := hp
    obtain ⟨b, off, cap, rows, r, vs, rfl, rfl, _⟩ := h.elem hi
    cases hl : leafV k (l.getD i k.dflt) c with
    | mk k1 y =>
      have hk := leafV_kind k (l.getD i k.dflt) c
      rw [hl] at hk hp
      cases k1 with
      | list k' => simp only [setSub, ← hk, hdOf]
      | _ => exact hp.elim

/-! ### What stays of a list's elements when one list below is turned -/
theorem leafV_set : ∀ (k : K) (x : k.T) (c c' : Nat) (s : Sg), c < k.size → c' < k.size → s.1 = k.leaf c → leafV k (setLeaf k x c s) c' = if c' = c then s else leafV k x c'
  | .int i, x, c, c', ⟨k, y⟩, hc, hc', hs => by
    simp only [K.size] at hc hc'
    simp only [K.leaf] at hs
    subst hs
    rw [if_pos (by omega)]
    simp only [leafV, Mach.setLeaf, castT_same]
  | .bool, x, c, c', ⟨k, y⟩, hc, hc', hs => by
    simp only [K.size] at hc hc'
    simp only [K.leaf] at hs
    subst hs
    rw [if_pos (by omega)]
    simp only [leafV, Mach.setLeaf, castT_same]
  | .str, x, c, c', ⟨k, y⟩, hc, hc', hs => by
    simp only [K.size] at hc hc'
    simp only [K.leaf] at hs
    subst hs
    rw [if_pos (by omega)]
    simp only [leafV, Mach.setLeaf, castT_same]
  | .list _, x, c, c', ⟨k, y⟩, hc, hc', hs => by
    simp only [K.size] at hc hc'
    simp only [K.leaf] at hs
    subst hs
    rw [if_pos (by omega)]
    simp only [leafV, Mach.setLeaf, castT_same]
  | .pair a b, x, c, c', s, hc, hc', hs => by
    simp only [K.size] at hc hc'
    simp only [K.leaf] at hs
    simp only [leafV, Mach.setLeaf]
    by_cases q : c < a.size
    · rw [if_pos q] at hs
      rw [if_pos q]
      by_cases q' : c' < a.size
      · rw [if_pos q', if_pos q']
        exact leafV_set a x.1 c c' s q q' hs
      · rw [if_neg q', if_neg q', if_neg (by omega)]
    · rw [if_neg q] at hs
      rw [if_neg q]
      by_cases q' : c' < a.size
      · rw [if_pos q', if_pos q', if_neg (by omega)]
      · rw [if_neg q', if_neg q']
        have := leafV_set b x.2 (c - a.size) (c' - a.size) s (by omega) (by omega) hs
        rw [this]
        by_cases e : c' = c
        · rw [if_pos e, if_pos (by omega)]
        · rw [if_neg e, if_neg (by omega)]

theorem leafL_set {d : Bool} {w : World} : ∀ {k : K} {x : k.T} {L : LT} {cs : List Value} (c c' : Nat) (M : LT), Rep d w k x L cs → c < k.size → c' < k.size → leafL k (setLeafL k L c M) c' = if c' = c then M else leafL k L c'
  | .int i, x, L, cs, c, c', M, h, hc, hc' => by
    simp only [K.size] at hc hc'
    rw [if_pos (by omega)]; rfl
  | .bool, x, L, cs, c, c', M, h, hc, hc' => by
    simp only [K.size] at hc hc'
    rw [if_pos (by omega)]; rfl
  | .str, x, L, cs, c, c', M, h, hc, hc' => by
    simp only [K.size] at hc hc'
    rw [if_pos (by omega)]; rfl
  | .list _, x, L, cs, c, c', M, h, hc, hc' => by
    simp only [K.size] at hc hc'
    rw [if_pos (by omega)]; rfl
  | .pair a b, x, L, cs, c, c', M, h, hc, hc' => by
    simp only [K.size] at hc hc'
    obtain ⟨La, Lb, c1, c2, rfl, rfl, h1, h2⟩ := h
    simp only [setLeafL]
    by_cases q : c < a.size
    · rw [if_pos q]
      simp only [leafL]
      by_cases q' : c' < a.size
      · rw [if_pos q', if_pos q']
        exact leafL_set c c' M h1 q q'
      · rw [if_neg q', if_neg q', if_neg (by omega)]
    · rw [if_neg q]
      simp only [leafL]
      by_cases q' : c' < a.size
      · rw [if_pos q', if_pos q', if_neg (by omega)]
      · rw [if_neg q', if_neg q']
        rw [leafL_set (c - a.size) (c' - a.size) M h2 (by omega) (by omega)]
        by_cases e : c' = c
        · rw [if_pos e, if_pos (by omega)]
        · rw [if_neg e, if_neg (by omega)]

/-- Lists one step down keep their place when a list below is turned. -/
theorem loc_keep1 (g : (k : K) → List k.T → List k.T) {M : LT} {dr d : Bool} {w : World} {k0 : K} {l0 : List k0.T} {L : LT} {v : Value} (h : RepL dr w k0.size (Rep d w k0) l0 L v) (p : Path) (hp0 : p ≠ []) (hp : PathOk k0 l0 p)
    (hg : (g (getP k0 l0 p).1 (getP k0 l0 p).2).length = (getP k0 l0 p).2.length) (hM : hdOf M = hdOf (subL k0 L p)) (q : Nat × Nat) (k1 : K) (n : Nat) (hd : Option (Nat × Nat × Nat)) (hq : Loc k0 l0 L [q] k1 n hd) :
    Loc k0 (modP g k0 l0 p) (setSub k0 L M p) [q] k1 n hd := by
  obtain ⟨i', c'⟩ := q
  cases p with
  | nil => exact absurd rfl hp0
  | cons a p' =>
    obtain ⟨i, c⟩ := a
    simp only [PathOk] at hp
    obtain ⟨hi, hc, hp⟩ := hp
    obtain ⟨b, off, cap, rows, r, vs, rfl, rfl, _, hrl, hr, _, hrep⟩ := h.elem hi
    have hrd : rows.getD i .leaf = r := by simp [List.getD_eq_getElem?_getD, hr]
    cases hl : leafV k0 (l0.getD i k0.dflt) c with
    | mk kk y =>
      have hk := leafV_kind k0 (l0.getD i k0.dflt) c
      rw [hl] at hk hp
      cases kk with
      | list k2 =>
        simp only at hp hk
        have e1 : getP k0 l0 ((i, c) :: p') = getP k2 y p' := by simp only [getP, hl]
        rw [e1] at hg
        have e2 : modP g k0 l0 ((i, c) :: p') = l0.set i (Mach.setLeaf k0 (l0.getD i k0.dflt) c ⟨.list k2, modP g k2 y p'⟩) := by simp only [modP, hl]
        have e3 : setSub k0 (.node b off cap rows) M ((i, c) :: p') = .node b off cap (rows.set i (setLeafL k0 r c (setSub k2 (leafL k0 r c) M p'))) := by simp only [setSub, ← hk, hrd]
        have e4 : subL k0 (.node b off cap rows) ((i, c) :: p') = subL k2 (leafL k0 r c) p' := by simp only [subL, ← hk, hrd]
        rw [e4] at hM
        rw [e2, e3]
        obtain ⟨a1, a2, a3, a4⟩ := hq
        simp only [PathOk] at a1
        obtain ⟨b1, b2, b3⟩ := a1
        by_cases hii : i' = i
        · subst hii
          have g1 : (l0.set i' (Mach.setLeaf k0 (l0.getD i' k0.dflt) c ⟨.list k2, modP g k2 y p'⟩)).getD i' k0.dflt = Mach.setLeaf k0 (l0.getD i' k0.dflt) c ⟨.list k2, modP g k2 y p'⟩ := by
            simp [List.getD_eq_getElem?_getD, List.getElem?_set_self hi]
          have g2 : (rows.set i' (setLeafL k0 r c (setSub k2 (leafL k0 r c) M p'))).getD i' .leaf = setLeafL k0 r c (setSub k2 (leafL k0 r c) M p') := by
            simp [List.getD_eq_getElem?_getD, List.getElem?_set_self (show i' < rows.length by omega)]
          have g3 := leafV_set k0 (l0.getD i' k0.dflt) c c' ⟨.list k2, modP g k2 y p'⟩ hc b2 hk
          have g4 := leafL_set c c' (setSub k2 (leafL k0 r c) M p') hrep hc b2
          by_cases hcc : c' = c
          · subst hcc
            rw [if_pos rfl] at g3 g4
            obtain ⟨v1, q1, q2, _⟩ := hrep.leaf hc
            rw [hl] at q2
            obtain ⟨v2, _, q3⟩ := q2
            have g5 := hdOf_setSub p' q3 hp hM
            have g6 := modP_length g p' hg
            have e5 : getP k0 (l0.set i' (Mach.setLeaf k0 (l0.getD i' k0.dflt) c' ⟨.list k2, modP g k2 y p'⟩)) [(i', c')] = ⟨k2, modP g k2 y p'⟩ := by simp only [getP, g1, g3]
            have e6 : getP k0 l0 [(i', c')] = ⟨k2, y⟩ := by simp only [getP, hl]
            rw [e6] at a2 a3
            simp only [subL, ← hk, hrd] at a4
            refine ⟨?_, ?_, ?_, ?_⟩
            · simp only [PathOk, g1, g3]
              exact ⟨by simpa using b1, b2, trivial⟩
            · rw [e5]; exact a2
            · rw [e5]; simp only; rw [g6]; exact a3
            · simp only [subL, ← hk, g2, g4, if_true, g5]; exact a4
          · rw [if_neg hcc] at g3 g4
            have e5 : getP k0 (l0.set i' (Mach.setLeaf k0 (l0.getD i' k0.dflt) c ⟨.list k2, modP g k2 y p'⟩)) [(i', c')] = getP k0 l0 [(i', c')] := by simp only [getP, g1, g3]
            refine ⟨?_, ?_, ?_, ?_⟩
            · simp only [PathOk, g1, g3]
              exact ⟨by simpa using b1, b2, b3⟩
            · rw [e5]; exact a2
            · rw [e5]; exact a3
            · cases hkc : k0.leaf c' with
              | list k3 => simp only [subL, hkc, g2, g4, hrd] at a4 ⊢; exact a4
              | _ => simp only [subL, hkc] at a4 ⊢; exact a4
        · have g1 : (l0.set i (Mach.setLeaf k0 (l0.getD i k0.dflt) c ⟨.list k2, modP g k2 y p'⟩)).getD i' k0.dflt = l0.getD i' k0.dflt := by
            simp only [List.getD_eq_getElem?_getD, List.getElem?_set_ne (fun z => hii z.symm)]
          have g2 : (rows.set i (setLeafL k0 r c (setSub k2 (leafL k0 r c) M p'))).getD i' .leaf = rows.getD i' .leaf := by
            simp only [List.getD_eq_getElem?_getD, List.getElem?_set_ne (fun z => hii z.symm)]
          have e5 : getP k0 (l0.set i (Mach.setLeaf k0 (l0.getD i k0.dflt) c ⟨.list k2, modP g k2 y p'⟩)) [(i', c')] = getP k0 l0 [(i', c')] := by simp only [getP, g1]
          refine ⟨?_, ?_, ?_, ?_⟩
          · simp only [PathOk, g1]
            exact ⟨by simpa using b1, b2, b3⟩
          · rw [e5]; exact a2
          · rw [e5]; exact a3
          · cases hkc : k0.leaf c' with
            | list k3 => simp only [subL, hkc, g2] at a4 ⊢; exact a4
            | _ => simp only [subL, hkc] at a4 ⊢; exact a4
      | _ => exact hp.elim

theorem verM_pos : 0 < verM := by unfold verM; omega
theorem jumpV_gt (cnt : Nat) : cnt ≤ jumpV cnt ∧ cnt / verM < jumpV cnt / verM := by
  have h := verM_pos
  unfold jumpV
  have h1 := Nat.div_add_mod cnt verM
  have h2 := Nat.mod_lt cnt h
  rw [Nat.mul_div_cancel _ h]
  refine ⟨?_, by omega⟩
  rw [Nat.add_mul, Nat.one_mul, Nat.mul_comm (cnt / verM)]
  omega
theorem notOk {p : Path} {a c z : Nat} (hp : p ≠ []) (ha : a < c) (h1 : c ≤ z) (h2 : c / verM < z / verM) : ¬ svOk p a z = true := by
  intro hok
  match p, hp with
  | [x], _ =>
    simp only [svOk, Nat.beq_eq] at hok
    have : a / verM ≤ c / verM := Nat.div_le_div_right (by omega)
    omega
  | x :: y :: r, _ =>
    simp only [svOk, Nat.beq_eq] at hok
    omega
theorem nextV_ok (p : Path) (sv cnt : Nat) : cnt ≤ nextV p sv cnt ∧ (cnt / verM < nextV p sv cnt / verM ∨ (p ≠ [] ∧ nextV p sv cnt / verM = sv / verM)) := by
  cases p with
  | nil => exact ⟨(jumpV_gt cnt).1, .inl (jumpV_gt cnt).2⟩
  | cons a p =>
    simp only [nextV]
    cases hb : Nat.beq (cnt / verM) (sv / verM) with
    | true => exact ⟨Nat.le_refl _, .inr ⟨by simp, by simpa [Nat.beq_eq] using hb⟩⟩
    | false => exact ⟨(jumpV_gt cnt).1, .inl (jumpV_gt cnt).2⟩

end Go.Mach
/- The machine, part u: stores into elements, done. No condition: lemmas. -/
namespace Go.Mach
set_option linter.unusedVariables false
set_option linter.unusedSimpArgs false

/-- What lies at a path, and how it is put back: deep data, or a root. -/
theorem focus2 {w : World} (g : (k : K) → List k.T → List k.T) {d0 : Bool} (p : Path) (k : K) (l : List k.T) (L : LT) (v : Value) (h : RepL true w k.size (Rep d0 w k) l L v) (hp : PathOk k l p) (hpd : p = [] ∨ d0 = true) :
    ∃ v' rest, RepL true w (getP k l p).1.size (Rep d0 w (getP k l p).1) (getP k l p).2 (subL k L p) v' ∧
      (fp (.list k) L).Perm (fp (.list (getP k l p).1) (subL k L p) ++ rest) ∧
      ∀ w' M dd, Same w w' rest → RepL true w' (getP k l p).1.size (Rep dd w' (getP k l p).1) (g (getP k l p).1 (getP k l p).2) M v' →
        RepL true w' k.size (Rep dd w' k) (modP g k l p) (setSub k L M p) v ∧ (fp (.list k) (setSub k L M p)).Perm (fp (.list (getP k l p).1) M ++ rest) := by
  rcases hpd with rfl | rfl
  · exact ⟨v, [], by simpa [getP, subL] using h, by simp [getP, subL], fun w' M dd _ hM => ⟨by simpa [getP, modP, setSub] using hM, by simp [getP, setSub]⟩⟩
  · exact focus g p k l L v h hp

/-- One element's cells are written: the list with the element turned. -/
theorem repl_store {d0 d dd : Bool} {w : World} {k : K} {l : List k.T} {b off cap i c : Nat} {rows : List LT} {v : Value} (h : RepL true w k.size (Rep d0 w k) l (.node b off cap rows) v) (hi : i < l.length) {us : List Value} (hc : c + us.length ≤ k.size)
    {gs : List Sg} {Ms : List LT} {cur : Array Value} {ty : TypeId} {fr : Nat × Nat} (hg : w.heap[b]? = some (.cells cur ty fr))
    (hb : b ∉ rows.flatMap (fp k)) (hbl : b ∉ fpLeaves gs Ms) (hlv : LeavesAt d w k c gs Ms us) (h0 : dd = true → d0 = true) (hd : dd = true → d = true) {r : LT} (hr : rows[i]? = some r) :
    RepL true (w.setRow b (setFrom cur.toList (off + i * k.size + c) us).toArray) k.size (Rep dd (w.setRow b (setFrom cur.toList (off + i * k.size + c) us).toArray) k) (l.set i (setLeaves k (l.getD i k.dflt) c gs))
      (.node b off cap (rows.set i (setLeavesL k r c Ms))) v ∧ off + i * k.size + c + us.length ≤ cur.size ∧ (∀ q, off + i * k.size + c ≤ q → q < off + i * k.size + c + us.length → ¬ (fr.1 ≤ q ∧ q < fr.2)) := by
  have hw' : ∀ b', b' ≠ b → (w.setRow b (setFrom cur.toList (off + i * k.size + c) us).toArray).heap[b']? = w.heap[b']? := fun b' hb' => setRow_other w b b' _ hb'
  have hg' := setRow_heap w b cur (setFrom cur.toList (off + i * k.size + c) us).toArray ty fr hg
  rcases h with ⟨h, _⟩ | ⟨b', off', cap', rows', e1, e2, h3, h4, hn, h5, h6⟩
  · simp at h
  simp only [LT.node.injEq] at e1
  obtain ⟨rfl, rfl, rfl, rfl⟩ := e1
  obtain ⟨cc, tt, ff, q1, q2, q3⟩ := h5 rfl
  rw [hg] at q1
  simp only [Option.some.injEq, Obj.cells.injEq] at q1
  obtain ⟨rfl, rfl, rfl⟩ := q1
  have hmul : (i + 1) * k.size ≤ cap * k.size := Nat.mul_le_mul_right _ (by omega)
  rw [Nat.add_mul, Nat.one_mul] at hmul
  have hfit : off + i * k.size + c + us.length ≤ cur.size := by omega
  refine ⟨.inr ⟨b, off, cap, _, rfl, by rw [e2]; simp, by simpa using h3, by simpa using h4, by rw [hg']; simp, fun _ => ⟨_, _, _, hg', by simpa [setFrom_length] using q2, ?_⟩, fun j y r' hy hr' => ?_⟩, hfit, fun q g1 g2 => ?_⟩
  · simpa [setFrom_length] using q3
  · have hjl : j < l.length := by have := (List.getElem?_eq_some_iff.1 hy).1; simpa using this
    have hcell : ∀ q, (w.setRow b (setFrom cur.toList (off + i * k.size + c) us).toArray).cell? ⟨b, q, none⟩ = if off + i * k.size + c ≤ q ∧ q < off + i * k.size + c + us.length then us[q - (off + i * k.size + c)]? else w.cell? ⟨b, q, none⟩ := by
      intro q
      simp only [World.cell?, hg', hg, Option.isSome_none, Bool.false_eq_true, if_false, List.getElem?_toArray]
      rw [setFrom_get _ _ _ _ (by simpa using hfit)]
      simp
    by_cases e : i = j
    · subst e
      rw [List.getElem?_set_self (by omega)] at hy
      rw [List.getElem?_set_self (by omega)] at hr'
      simp only [Option.some.injEq] at hy hr'
      subst hy; subst hr'
      have hx : l[i]? = some (l.getD i k.dflt) := by simp [List.getElem?_eq_getElem hi]
      obtain ⟨vs, a1, a2⟩ := h6 i _ r hx hr
      have hrm : ∀ b' ∈ fp k r, b' ≠ b := by
        rintro b' hb' rfl
        exact hb (List.mem_flatMap.2 ⟨r, List.mem_of_getElem? hr, hb'⟩)
      have a3 : Rep dd (w.setRow b (setFrom cur.toList (off + i * k.size + c) us).toArray) k (l.getD i k.dflt) r vs := by
        have := a2.same (w' := w.setRow b (setFrom cur.toList (off + i * k.size + c) us).toArray) fun b' hb' => hw' b' (hrm b' hb')
        cases d0 with
        | true => exact this.any dd
        | false => cases dd with
          | true => simp at h0
          | false => exact this
      refine ⟨setFrom vs c us, fun q u hq => ?_, a3.setLeaves hc (hlv.mono hd fun b' hb' => hw' b' (by rintro rfl; exact hbl hb'))⟩
      rw [hcell]
      rw [setFrom_get _ _ _ _ (by rw [a2.size]; exact hc)] at hq
      by_cases g : c ≤ q ∧ q < c + us.length
      · rw [if_pos g] at hq
        rw [if_pos (by omega), ← hq]
        congr 1
        omega
      · rw [if_neg g] at hq
        rw [if_neg (by omega)]
        exact a1 q u hq
    · rw [List.getElem?_set_ne e] at hy hr'
      obtain ⟨vs, a1, a2⟩ := h6 j y r' hy hr'
      refine ⟨vs, fun q u hq => ?_, ?_⟩
      · rw [hcell, if_neg]
        · exact a1 q u hq
        · have hqs : q < k.size := by rw [← a2.size]; exact (List.getElem?_eq_some_iff.1 hq).1
          rcases Nat.lt_or_gt_of_ne e with g | g
          · have : (i + 1) * k.size ≤ j * k.size := Nat.mul_le_mul_right _ g
            rw [Nat.add_mul] at this
            omega
          · have : (j + 1) * k.size ≤ i * k.size := Nat.mul_le_mul_right _ g
            rw [Nat.add_mul] at this
            omega
      · have := a2.same (w' := w.setRow b (setFrom cur.toList (off + i * k.size + c) us).toArray) fun b' hb' => hw' b' (by
          rintro rfl
          exact hb (List.mem_flatMap.2 ⟨r', List.mem_of_getElem? hr', hb'⟩))
        cases d0 with
        | true => exact this.any dd
        | false => cases dd with
          | true => simp at h0
          | false => exact this
  · rcases q3 with q3 | q3 <;> omega

/-- The blocks of a list whose element is turned. -/
theorem fp_store {d0 d : Bool} {w : World} {k : K} {l : List k.T} {b off cap i c : Nat} {rows : List LT} {v : Value} (h : RepL true w k.size (Rep d0 w k) l (.node b off cap rows) v) (hi : i < l.length) {us : List Value} (hc : c + us.length ≤ k.size)
    {gs : List Sg} {Ms : List LT} (hlv : LeavesAt d w k c gs Ms us) {r : LT} (hr : rows[i]? = some r) :
    ∃ junk, (fpLeaves gs Ms ++ rows.flatMap (fp k)).Perm ((rows.set i (setLeavesL k r c Ms)).flatMap (fp k) ++ junk) := by
  have hx : l[i]? = some (l.getD i k.dflt) := by simp [List.getElem?_eq_getElem hi]
  rcases h with ⟨h, _⟩ | ⟨b', off', cap', rows', e1, e2, h3, h4, hn, h5, h6⟩
  · simp at h
  simp only [LT.node.injEq] at e1
  obtain ⟨rfl, rfl, rfl, rfl⟩ := e1
  obtain ⟨vs, a1, a2⟩ := h6 i _ r hx hr
  obtain ⟨junk, hj⟩ := leaves_perm a2.weaken hc (hlv.mono (d' := false) (by simp) fun b _ => rfl)
  obtain ⟨q1, q2⟩ := flat_perm (fp k) rows i r hr
  refine ⟨junk, (List.Perm.append_left _ q1).trans ?_⟩
  rw [← List.append_assoc]
  refine (hj.append_right _).trans ?_
  refine List.Perm.trans ?_ ((q2 _).symm.append_right _)
  simp only [List.append_assoc]
  exact List.Perm.append_left _ List.perm_append_comm

theorem Shp.trans : ∀ {k : K} {x y z : k.T}, Shp k x y → Shp k y z → Shp k x z
  | .int _, _, _, _, _, _ => trivial
  | .bool, _, _, _, _, _ => trivial
  | .str, _, _, _, _, _ => trivial
  | .list k, x, y, z, h, h' => ⟨h'.1.trans h.1, fun i hi => Shp.trans (h.2 i hi) (h'.2 i (by rw [h.1]; exact hi))⟩
  | .pair a b, x, y, z, h, h' => ⟨Shp.trans h.1 h'.1, Shp.trans h.2 h'.2⟩

theorem Shp.setLeaves {d : Bool} {w : World} {k : K} : ∀ {us : List Value} {gs : List Sg} {Ms : List LT} {c : Nat} (x : k.T), c + us.length ≤ k.size → hasList k c us.length = false → LeavesAt d w k c gs Ms us → Shp k x (setLeaves k x c gs)
  | [], [], [], c, x, _, _, _ => Shp.refl k x
  | u :: us, s :: gs, M :: Ms, c, x, hc, hh, h => by
    simp only [List.length_cons, hasList, Bool.or_eq_false_iff, Bool.not_eq_false'] at hh
    simp only [List.length_cons] at hc
    obtain ⟨h1, h2, h3⟩ := h
    have a1 : Shp k x (Mach.setLeaf k x c s) := Shp.setLeaf x c s (by omega) h1 fun {k' z} hz => by
      have := leafV_list hz
      rw [this] at hh
      simp [K.flat] at hh
    exact a1.trans (Shp.setLeaves (gs := gs) (us := us) _ (by omega) hh.2 h3)
  | _ :: _, [], _, _, _, _, _, h => by cases ‹List LT› <;> simp [LeavesAt] at h
  | _ :: _, _ :: _, [], _, _, _, _, h => by simp [LeavesAt] at h
  | [], _ :: _, [], _, _, _, _, h => by simp [LeavesAt] at h
  | [], _ :: _, _ :: _, _, _, _, _, h => by simp [LeavesAt] at h
  | [], [], _ :: _, _, _, _, _, h => by simp [LeavesAt] at h

theorem set_back {α : Type} {l : List α} {i : Nat} {r : α} (h : l[i]? = some r) : l.set i r = l := by
  apply List.ext_getElem?
  intro j
  by_cases e : i = j
  · subst e
    rw [List.getElem?_set_self (List.getElem?_eq_some_iff.1 h).1, h]
  · rw [List.getElem?_set_ne e]

section ops
variable {P : Program} {n : Nat} {e : Env} {a : Act} {w : World} {G : Gh} {get : Nat → Slot} {o : Oper} {x : Ctx} {ws : Writes}

/-- The function that turns the list at a path. -/
def setF (k : K) (new : List k.T) : (k' : K) → List k'.T → List k'.T := fun k' l' => (castL k new k').getD l'

theorem setF_at {k : K} {new : List k.T} {l : List k.T} : setF k new k l = new := by simp [setF, castL_self]

theorem store_elem {tm : Array Value} (h : Inv n e tm w G) {s j rv sv c i : Nat} {p : Path} {k0 k : K} {l0 : List k0.T} {l : List k.T} {deep d : Bool} (hc : (e.get s).cs[j]? = some (.own rv sv deep k0 l0)) (hpd : p = [] ∨ deep = true)
    (hl : getP k0 l0 p = ⟨k, l⟩) (hp : PathOk k0 l0 p) {b off cap : Nat} {rows : List LT} (hL : subL k0 (G.lt s j) p = .node b off cap rows) (hi : i < l.length) {us : List Value} (hcs : c + us.length ≤ k.size) (hone : ∀ u ∈ us, u.oneCell' = true)
    {gs : List Sg} {Ms : List LT} {H : List Nat} (hlv : LeavesAt d w k c gs Ms us) (hH : ∀ b ∈ H, Loose e G b ∧ G.ow b ≠ none) (hHo : ∀ b ∈ H, ∀ t, G.ow b = some t → t < e.length) (hnd : H.Nodup) (hfp : d = true → H = fpLeaves gs Ms) (hnone : ∀ b ∈ fpLeaves gs Ms, b ∈ H ∨ G.ow b = none) :
    ∃ w', (storeCells ⟨b, off + i * k.size + c, none⟩ us 0).run P w = .ok () w' ∧ w'.heap.size = w.heap.size ∧ SameEnv w w' ∧
      (hasList k c us.length = false → ∃ G', Inv n (e.set s { e.get s with cs := (e.get s).cs.set j (.own rv sv deep k0 (modP (setF k (l.set i (setLeaves k (l.getD i k.dflt) c gs))) k0 l0 p)) }) tm w' G' ∧ Held n e.length w w' G G') ∧
      ∃ G', Inv n (e.set s { e.get s with cs := (e.get s).cs.set j (.own rv (nextV p sv (e.get s).cnt) (deep && d) k0 (modP (setF k (l.set i (setLeaves k (l.getD i k.dflt) c gs))) k0 l0 p)), cnt := nextV p sv (e.get s).cnt + 1 }) tm w' G' ∧ Held n e.length w w' G G' := by
  obtain ⟨v, hv, hcell⟩ := h.val hc
  obtain ⟨hrep0, hin0⟩ := hcell
  obtain ⟨ow1, ow2, ow3⟩ := h.ownBlocks hc
  obtain ⟨v', rest, f1, f2, f3⟩ := focus2 (setF k (l.set i (setLeaves k (l.getD i k.dflt) c gs))) p k0 l0 (G.lt s j) v hrep0 hp hpd
  rw [hl] at f1 f2 f3
  simp only [hL, setF_at] at f1 f2 f3
  obtain ⟨b', off', cap', rows', r, vs, hLn, hvn, _, hrl, hr, hrow, hrepi⟩ := f1.elem hi
  simp only [LT.node.injEq] at hLn
  obtain ⟨rfl, rfl, rfl, rfl⟩ := hLn
  -- the block
  have hblk : ∃ cur ty fr, w.heap[b]? = some (.cells cur ty fr) := by
    rcases f1 with ⟨q, _⟩ | ⟨b', off', cap', rows', e1, _, _, _, _, h5, _⟩
    · simp at q
    · simp only [LT.node.injEq] at e1
      obtain ⟨rfl, rfl, rfl, rfl⟩ := e1
      obtain ⟨cc, tt, ff, q1, _⟩ := h5 rfl
      exact ⟨_, _, _, q1⟩
  obtain ⟨cur, ty, fr, hg⟩ := hblk
  -- what is owned
  have hbown : b ∈ ownB (.own rv sv deep k0 l0) (G.lt s j) := by
    cases deep with
    | true =>
      simp only [ownB]
      exact f2.mem_iff.2 (by simp [fp])
    | false =>
      rcases hpd with rfl | q
      · simp only [subL] at hL
        rw [hL]
        simp [ownB, hdOf]
      · simp at q
  have hbow : G.ow b = some s := ow1 b hbown
  have hndall : deep = true → (fp (.list k0) (G.lt s j)).Nodup := fun hd => by rw [hd] at ow3; exact ow3
  have hrest : deep = false → rest = [] := by
    intro hd
    rcases hpd with rfl | q
    · simp only [subL] at hL
      have := f2.length_eq
      rw [getP_nil] at hl
      simp only [Sigma.mk.injEq] at hl
      obtain ⟨rfl, _⟩ := hl
      rw [hL, List.length_append] at this
      exact List.eq_nil_of_length_eq_zero (by omega)
    · rw [hd] at q; simp at q
  have hinn : deep = false → ∀ b' ∈ rows.flatMap (fp k), G.ow b' = none := by
    intro hd b' hb'
    rcases hpd with rfl | q
    · simp only [subL] at hL
      rw [getP_nil] at hl
      simp only [Sigma.mk.injEq] at hl
      obtain ⟨rfl, _⟩ := hl
      refine ow2 hd b' ?_
      rw [hL]
      exact hb'
    · rw [hd] at q; simp at q
  have hbrows : b ∉ rows.flatMap (fp k) := by
    intro hb'
    cases hd : deep with
    | false => rw [hinn hd b hb'] at hbow; simp at hbow
    | true =>
      have := f2.nodup_iff.1 (hndall hd)
      simp only [fp, List.cons_append, List.nodup_cons, List.mem_append] at this
      exact this.1 (.inl hb')
  have hbrest : b ∉ rest := by
    intro hb'
    cases hd : deep with
    | false => rw [hrest hd] at hb'; simp at hb'
    | true =>
      have := f2.nodup_iff.1 (hndall hd)
      simp only [fp, List.cons_append, List.nodup_cons, List.mem_append] at this
      exact this.1 (.inr hb')
  have hfps : ∀ b' ∈ ownB (.own rv sv deep k0 l0) (G.lt s j), b' ∉ H := by
    intro b' hb' q
    have hne : (e.get s).sh ≠ .dead := fun q => by have := (h.slot s).dead q; rw [this] at hc; simp at hc
    refine (hH b' q).1 s ?_
    simp only [fpS, List.mem_append]
    right
    have := fpCells_mem (lt := G.lt s) (i := 0) hc (by simpa using hb')
    cases hq : (e.get s).sh <;> simp_all
  have hbl : b ∉ fpLeaves gs Ms := by
    intro hb'
    rcases hnone b hb' with q | q
    · exact hfps b hbown q
    · rw [q] at hbow; simp at hbow
  have hw' : ∀ b', b' ≠ b → (w.setRow b (setFrom cur.toList (off + i * k.size + c) us).toArray).heap[b']? = w.heap[b']? := fun b' hb' => setRow_other w b b' _ hb'
  have hsrest : Same w (w.setRow b (setFrom cur.toList (off + i * k.size + c) us).toArray) rest := fun b' hb' => hw' b' (by rintro rfl; exact hbrest hb')
  obtain ⟨_, hfit, hfro⟩ := repl_store (dd := false) f1 hi hcs hg hbrows hbl hlv (by simp) (by simp) hr
  have hrun := run_store_row P b (off + i * k.size + c) ty fr us 0 cur w hg (by simpa using hfit) (fun q g1 g2 => hfro q (by omega) (by omega)) hone
  simp only [Nat.add_zero] at hrun
  have hsame : ∀ b', b' ∉ ownB (.own rv sv deep k0 l0) (G.lt s j) → (w.setRow b (setFrom cur.toList (off + i * k.size + c) us).toArray).heap[b']? = w.heap[b']? := fun b' hb' => hw' b' (by rintro rfl; exact hb' hbown)
  refine ⟨_, hrun, by simp, ⟨rfl, rfl, rfl⟩, fun hfl => ?_, ?_⟩
  · -- flat leaves
    obtain ⟨Ms', m1, m2, m3, _⟩ := flat_leaves (w' := w) r hfl hlv
    obtain ⟨g1, _⟩ := repl_store (dd := deep) f1 hi hcs hg hbrows (by rw [m3]; simp) m1 (by simp) (by simp) hr
    obtain ⟨g2, g3⟩ := f3 _ _ deep hsrest g1
    rw [m2, set_back hr, ← hL, setSub_self p hrep0 hp] at g2
    have hshp : Shp (.list k0) l0 (modP (setF k (l.set i (setLeaves k (l.getD i k.dflt) c gs))) k0 l0 p) := by
      refine Shp.mod _ p hp ?_
      rw [hl]
      simp only [setF_at]
      exact Shp.set hi (Shp.setLeaves _ hcs hfl hlv)
    have hI := h.own (w' := w.setRow b (setFrom cur.toList (off + i * k.size + c) us).toArray) hc hv sv (e.get s).cnt deep _ (G.lt s j) [] [] (by simp) (fun b' h1 _ _ => hsame b' h1) (by simp) g2 (fun b' hb' => .inl (by cases deep <;> exact hb')) (by cases deep <;> exact ow3) (by simp)
      (fun hd b' hb' => .inl ⟨ow2 hd b' hb', by simp⟩) (by simp only [Shp] at hshp; exact hshp.1) rfl
      (.inl ⟨rfl, rfl, fun hd => ⟨hd, fun p1 k1 n1 hd1 hloc => by
        obtain ⟨y1, y2, y3, y4⟩ := hloc
        obtain ⟨z1, z2, z3⟩ := Shp.path p1 hshp y1
        exact ⟨z1, z2.trans y2, z3.trans y3, y4⟩⟩⟩)
    refine ⟨_, hI, ⟨fun b' q1 q2 => ⟨hsame b' fun q => by rw [ow1 b' q] at q1; simp at q1, ?_⟩, fun s' _ => ⟨fun _ => ⟨rfl, fun j' => by
      simp only [Gh.turn, upd]
      by_cases q1 : s' = s
      · subst q1
        by_cases q2 : j' = j
        · subst q2; simp [upd]
        · simp [upd, q2]
      · simp [q1]⟩, rfl⟩, fun b' t q1 q2 q3 => ⟨hsame b' fun q => by rw [ow1 b' q] at q1; simp only [Option.some.injEq] at q1; have := slot_alive hc; omega, by simp [Gh.turn, q1]⟩⟩⟩
    simp [Gh.turn, q1]
  · -- leaves that are lists
    have hg1 := (repl_store (dd := deep && d) f1 hi hcs hg hbrows hbl hlv (by simp; intro q _; exact q) (by simp) hr).1
    obtain ⟨g2, g3⟩ := f3 _ _ (deep && d) hsrest hg1
    obtain ⟨junk, hj⟩ := fp_store f1 hi hcs hlv hr
    have hT : (fpLeaves gs Ms ++ fp (.list k0) (G.lt s j)).Perm (fp (.list k0) (setSub k0 (G.lt s j) (.node b off cap (rows.set i (setLeavesL k r c Ms))) p) ++ junk) := by
      refine (List.Perm.append_left _ f2).trans ?_
      refine List.Perm.trans ?_ (g3.symm.append_right _)
      simp only [fp, List.cons_append]
      refine List.perm_middle.trans (List.Perm.cons b ?_)
      rw [← List.append_assoc]
      refine (hj.append_right _).trans ?_
      simp only [List.append_assoc]
      exact List.Perm.append_left _ List.perm_append_comm
    have hhd : hdOf (setSub k0 (G.lt s j) (.node b off cap (rows.set i (setLeavesL k r c Ms))) p) = hdOf (G.lt s j) := hdOf_setSub p hrep0 hp (by rw [hL]; rfl)
    have hkeep := fun hp0 => loc_keep1 (setF k (l.set i (setLeaves k (l.getD i k.dflt) c gs))) (M := .node b off cap (rows.set i (setLeavesL k r c Ms))) hrep0 p hp0 hp (by rw [hl]; simp only [setF_at]; simp) (by rw [hL]; rfl)
    generalize hL' : setSub k0 (G.lt s j) (.node b off cap (rows.set i (setLeavesL k r c Ms))) p = L' at g2 g3 hT hhd hkeep
    have hroot : ∀ b' ∈ (hdOf (G.lt s j)).toList.map (·.1), b' ∈ ownB (.own rv sv deep k0 l0) (G.lt s j) := by
      intro b' hb'
      cases deep with
      | true => simp only [ownB, fp_list]; exact List.mem_append_left _ hb'
      | false => exact hb'
    have hinner : ∀ b' ∈ inner k0 (G.lt s j), G.ow b' ≠ none → b' ∈ ownB (.own rv sv deep k0 l0) (G.lt s j) := by
      intro b' hb' hne
      cases hd : deep with
      | true => simp only [ownB, fp_list]; exact List.mem_append_right _ hb'
      | false => exact absurd (ow2 hd b' hb') hne
    have hfrom : ∀ b' ∈ fp (.list k0) L', G.ow b' ≠ none → b' ∈ ownB (.own rv sv deep k0 l0) (G.lt s j) ∨ b' ∈ H := by
      intro b' hb' hne
      have := hT.mem_iff.2 (List.mem_append_left _ hb')
      rw [List.mem_append] at this
      rcases this with q | q
      · rcases hnone b' q with q | q
        · exact .inr q
        · exact absurd q hne
      · rw [fp_list, List.mem_append] at q
        rcases q with q | q
        · exact .inl (hroot b' q)
        · exact .inl (hinner b' q hne)
    have hrin : ∀ b' ∈ (hdOf (G.lt s j)).toList.map (·.1), b' ∉ inner k0 L' := by
      intro b' hb' hin'
      have hown := hroot b' hb'
      have c1 : b' ∉ fpLeaves gs Ms := by
        intro q
        rcases hnone b' q with q | q
        · exact hfps b' hown q
        · rw [ow1 b' hown] at q; simp at q
      have c2 : b' ∉ inner k0 (G.lt s j) := by
        intro q
        cases hd : deep with
        | false => have := ow1 b' hown; rw [ow2 hd b' q] at this; simp at this
        | true =>
          have := hndall hd
          rw [fp_list, List.nodup_append] at this
          exact this.2.2 b' hb' b' q rfl
      have c3 : List.count b' ((hdOf (G.lt s j)).toList.map (·.1)) ≤ 1 := by
        cases hdOf (G.lt s j) with
        | none => simp
        | some q => simp [List.count_cons]; split <;> omega
      have e1 := hT.count_eq b'
      rw [List.count_append, List.count_append, fp_list, fp_list, hhd, List.count_append, List.count_append, List.count_eq_zero_of_not_mem c1, List.count_eq_zero_of_not_mem c2] at e1
      have := List.count_pos_iff.2 hin'
      omega
    have hdd : (deep && d) = true → deep = true ∧ d = true := by simp
    have hI := h.own (w' := w.setRow b (setFrom cur.toList (off + i * k.size + c) us).toArray) hc hv (nextV p sv (e.get s).cnt) (nextV p sv (e.get s).cnt + 1) (deep && d) _ L' H (if (deep && d) = true then [] else (inner k0 L').filter fun b' => (G.ow b').isSome) (by simp) (fun b' h1 _ _ => hsame b' h1)
      (fun b' hb' => ⟨(hH b' hb').1, .inl (hH b' hb').2, by
        cases q : G.ow b' with
        | none => exact absurd q (hH b' hb').2
        | some s' => have := h.lt b' s' q; simpa using this⟩) g2
      (fun b' hb' => by
        cases hq : (deep && d) with
        | true =>
          rw [hq] at hb'
          obtain ⟨q1, q2⟩ := hdd hq
          simp only [ownB] at hb'
          have := hT.mem_iff.2 (List.mem_append_left _ hb')
          rw [List.mem_append] at this
          rcases this with q | q
          · exact .inr (by rw [hfp q2]; exact q)
          · left; rw [q1]; exact q
        | false =>
          rw [hq] at hb'
          simp only [ownB, hhd] at hb'
          exact .inl (hroot b' hb'))
      (by
        cases hq : (deep && d) with
        | true =>
          obtain ⟨q1, q2⟩ := hdd hq
          simp only [ownB]
          have : (fpLeaves gs Ms ++ fp (.list k0) (G.lt s j)).Nodup := by
            rw [← hfp q2, List.nodup_append]
            refine ⟨hnd, hndall q1, fun b1 h1 b2 h2 heq => ?_⟩
            subst heq
            exact hfps b1 (by rw [q1]; exact h2) h1
          exact (List.nodup_append.1 (hT.nodup_iff.1 this)).1
        | false =>
          simp only [ownB]
          cases hdOf L' <;> simp)
      (fun b' hb' => by
        split at hb'
        · simp at hb'
        · rename_i hq
          rw [List.mem_filter] at hb'
          obtain ⟨q1, q2⟩ := hb'
          have hne : G.ow b' ≠ none := by intro q; rw [q] at q2; simp at q2
          refine ⟨hfrom b' (by rw [fp_list]; exact List.mem_append_right _ q1) hne, fun q => ?_⟩
          have hq' : (deep && d) = false := by simpa using hq
          rw [hq'] at q
          simp only [ownB, hhd] at q
          exact hrin b' q q1)
      (fun hq b' hb' => by
        rw [if_neg (by rw [hq]; simp)]
        cases q : G.ow b' with
        | none => exact .inl ⟨rfl, fun q' => (hH b' q').2 q⟩
        | some s' => exact .inr (List.mem_filter.2 ⟨hb', by rw [q]; rfl⟩))
      (modP_length _ p (by rw [hl]; simp only [setF_at]; simp)) hhd (.inr ⟨(nextV_ok p sv _).1, Nat.lt_succ_self _, (nextV_ok p sv _).2.imp (fun q => q) fun q => ⟨q.2, fun q' => ⟨(hdd q').1, hkeep q.1⟩⟩⟩)
    refine ⟨_, hI, ⟨fun b' q1 q2 => ⟨hsame b' fun q => by rw [ow1 b' q] at q1; simp at q1, ?_⟩, fun s' _ => ⟨fun _ => ⟨rfl, fun j' => by
      simp only [Gh.turn, upd]
      by_cases q1 : s' = s
      · subst q1
        by_cases q2 : j' = j
        · subst q2; simp [upd, hhd]
        · simp [upd, q2]
      · simp [q1]⟩, rfl⟩, fun b' t q1 q2 q3 => ?out⟩⟩
    case out =>
      have hno : b' ∉ ownB (.own rv sv deep k0 l0) (G.lt s j) := fun q => by rw [ow1 b' q] at q1; simp only [Option.some.injEq] at q1; have := slot_alive hc; omega
      have hnH : b' ∉ H := fun q => by have := hHo b' q t q1; omega
      refine ⟨hsame b' hno, ?_⟩
      simp only [Gh.turn, if_neg hnH]
      rw [if_neg]
      · exact q1
      · intro q
        split at q
        · simp at q
        · rw [List.mem_filter] at q
          rcases hfrom b' (by rw [fp_list]; exact List.mem_append_right _ q.1) (by rw [q1]; simp) with g | g
          · exact hno g
          · exact hnH g
    have : b' ∉ H := fun q => (hH b' q).2 q1
    simp only [Gh.turn, if_neg this, q1, ite_self]

end ops

end Go.Mach
/- The machine, part v: stores, whole. No condition: lemmas. -/
namespace Go.Mach
set_option linter.unusedVariables false
set_option linter.unusedSimpArgs false

section ops
variable {P : Program} {n : Nat} {e : Env} {a : Act} {w : World} {G : Gh} {get : Nat → Slot} {o : Oper} {x : Ctx} {ws : Writes}

theorem sound_store {ty : TypeId} {y z : Operand} (hty : ∀ t, x.ty t = tyOf P t) (hxn : x.n = n) (hb : Begin n e a w G get o) (ho : o.op = .store ty y z) (h : act x get o = some ws) : Sound P n e a w G o ws := by
  simp only [act, ho] at h
  split at h
  · rename_i ca v hca hv
    split at h
    · rename_i hq
      obtain ⟨q1, q2, q3⟩ := hq
      split at h
      · rename_i t1 hst
        simp only [Option.some.injEq] at h
        rw [hty] at q1 q2
        obtain ⟨i, dsc, hi, hu, _⟩ := ty_ok q1
        obtain ⟨L, hcell, _⟩ := hb.one (by simp [ho, Op.operands]) hca
        obtain ⟨vs, Ls, hval⟩ := hb.opd (by simp [ho, Op.operands]) hv
        obtain ⟨hcells, hone⟩ := form_cells (n := n) (tm := a.tmps) hb.sees hval q3
        have hvl : vs.length = (tyOf P ty).size := by rw [hval.cells.len, q2]
        -- the end, from a world and a state
        have fin : ∀ (b o' : Nat) (w' : World) (e' : Env) (G' : Gh), a.eval y = .pointer (some ⟨b, o', none⟩) → (storeCells ⟨b, o', none⟩ vs 0).run P w = .ok () w' → Inv n e' a.tmps w' G' → TrOk e t1 e' → t1.d = o.dst →
            Held n e.length w w' G G' → w'.heap.size = w.heap.size → SameEnv w w' → Sound P n e a w G o ws := by
          intro b o' w' e' G' hp hrun hinv htr hd hstill hsz hse
          obtain ⟨G'', hpost⟩ := lay_skip (a := a) (w := w) (G0 := G) hinv htr hstill (by omega) (by rw [hd]; exact hb.inb.dst) hse
          rw [hd, h] at hpost
          refine Sound.skip ?_ hpost
          simp only [execOp, ho, hp]
          have := run_storeAt hi hcells hvl hrun
          rw [Sem.run_bind, this]
          rfl
        cases ca with
        | bptr s bv j =>
          simp only [storeC] at hst
          split at hst
          · rename_i hz
            simp only [Option.some.injEq] at hst
            obtain ⟨e1, H, Ls', ht⟩ := take_ok (x.vs (some s)) v.2 hb.inv hb.tr hval.cells hval.noOwn
            obtain ⟨z1, z2, z3⟩ := hz
            have hseen : (Tr.at (Tr.take (x.vs (some s)) { get, d := o.dst } v.2).1 s) = e1.get s := by
              rcases ht.tr.sees s with q | q
              · exact q
              · rw [q] at z1; simp at z1
            rw [hseen] at z1 z2 hst
            have hsh : (e.get s).sh = .box bv := by rw [← ht.ext.sh]; exact z1
            obtain ⟨w', G', k1, k2, k3, k4, k5⟩ := store_box hb ht hsh z2 hone (by rw [← hxn]; exact z3)
            have hs : s < e1.length := by
              rcases Nat.lt_or_ge s e1.length with q | q
              · exact q
              · rw [get_out (by omega)] at z1; simp at z1
            refine fin (G.bk s) j w' _ G' (hcell.2.1 hsh) k1 k2 ?_ ?_ (by rw [← ht.ext.len]; exact k3) k4 k5
            · rw [← hst]
              have := ht.tr.put { e1.get s with cs := setFrom (e1.get s).cs j ((Tr.take (x.vs (some s)) { get, d := o.dst } v.2).2.map (layC (e1.get s).cnt)), cnt := (e1.get s).cnt + 1 } hs
              rw [← layFun] at this ⊢
              exact this
            · rw [← hst]
              exact take_d _ _ _
          · simp at hst
        | aptr s j rv sv p i' c k =>
          simp only [storeC] at hst
          split at hst
          · simp at hst
          · rename_i t2 gs d hgr
            obtain ⟨e1, G1, H, Ms, hg⟩ := grabs_ok k v.2 hb.inv hb.tr hval.cells hval.noOwn hgr
            split at hst
            · rename_i rv' sv' deep k0 l0 hcell0
              split at hst
              · rename_i hcond
                obtain ⟨c1, c2, c3⟩ := hcond
                split at hst
                · simp at hst
                · rename_i l hl
                  split at hst
                  · rename_i hil
                    have hl : getP k0 l0 p = ⟨k, l⟩ := castL_some hl
                    obtain ⟨s1, s2⟩ := hg.tr.cell hcell0 (by simp)
                    subst c1
                    have hcell1 := hg.ext.cell _ _ _ (by rfl) hcell
                    obtain ⟨_, _, _, hfit⟩ := hcell1
                    obtain ⟨nn, b, off, cap, ⟨l1, l2, l3, l4⟩, l5, l6⟩ := hfit sv' deep k0 l0 (getD_some s2 _) c2
                    rw [hl] at l2 l3
                    have hLn : ∃ rows, subL k0 (G1.lt s j) p = .node b off cap rows := by
                      cases hq : subL k0 (G1.lt s j) p with
                      | node b' off' cap' rows =>
                        rw [hq] at l4
                        simp only [hdOf, Option.some.injEq, Prod.mk.injEq] at l4
                        obtain ⟨rfl, rfl, rfl⟩ := l4
                        exact ⟨rows, rfl⟩
                      | _ => rw [hq] at l4; simp [hdOf] at l4
                    obtain ⟨rows, hLn⟩ := hLn
                    have hpd : p = [] ∨ deep = true := c2.imp id And.right
                    have hlen2 : v.2.length = vs.length := hval.cells.len.symm
                    rw [hlen2] at c3 hst
                    obtain ⟨w', k1, k2, k5, k3, k4⟩ := store_elem (P := P) hg.inv s2 hpd hl l1 hLn hil c3 hone hg.leaves (fun b hb' => ⟨(hg.hand.mem b hb').1, (hg.hand.mem b hb').2.1⟩) (hg.hand.owner hb.inv hg.ext) hg.hand.nodup hg.fp hg.none
                    have hs : s < e1.length := slot_alive s2
                    have hst1 : Held n e.length w w G G1 := hg.ext.held hb.inv
                    have comp : ∀ G' : Gh, Held n e1.length w w' G1 G' → Held n e.length w w' G G' := fun G' q => hst1.trans (by rw [← hg.ext.len]; exact q)
                    rw [s1] at hst
                    split at hst
                    · rename_i hhl
                      simp only [Option.some.injEq] at hst
                      obtain ⟨G', m1, m2⟩ := k4
                      refine fin b _ w' _ G' l6 k1 m1 ?_ ?_ (comp G' m2) k2 k5
                      · rw [← hst]
                        exact hg.tr.put _ hs
                      · rw [← hst]
                        exact grabs_d _ hgr
                    · rename_i hhl
                      simp only [Option.some.injEq] at hst
                      obtain ⟨G', m1, m2⟩ := k3 (by simpa using hhl)
                      refine fin b _ w' _ G' l6 k1 m1 ?_ ?_ (comp G' m2) k2 k5
                      · rw [← hst]
                        exact hg.tr.put _ hs
                      · rw [← hst]
                        exact grabs_d _ hgr
                  · simp at hst
              · simp at hst
            · simp at hst
        | _ => simp [storeC] at hst
      · simp at h
    · simp at h
  · simp at h

end ops

end Go.Mach
/- The machine, part w: append, in the model. No condition: lemmas. -/
namespace Go.Mach
set_option linter.unusedVariables false
set_option linter.unusedSimpArgs false

/-- What is appended: its elements, as cells, and where their data lie. -/
structure Src (P : Program) (w : World) (k : K) (ys : List k.T) (d : Bool) (vy : Value) (cells : List Value) (rows : List LT) : Prop where
  lenOf : ∀ w2 : World, (Builtin.lenOf vy).run P w2 = .ok ys.length w2
  first : ∀ w2 : World, w2.heap = w.heap → (Builtin.firstCells k.size ys.length vy).run P w2 = .ok cells.toArray w2
  len : cells.length = ys.length * k.size
  one : ∀ u ∈ cells, u.oneCell' = true
  rlen : rows.length = ys.length
  rep : ∀ (i : Nat) y r, ys[i]? = some y → rows[i]? = some r → ∃ vs, (∀ (c : Nat) u, vs[c]? = some u → cells[i * k.size + c]? = some u) ∧ Rep d w k y r vs

theorem run_append_in {P : Program} {at0 : Array TypeId} {t0 t1 ty el : TypeId} {d1 : TypeDesc} (h0 : at0[0]? = some t0) (h1 : at0[1]? = some t1) (hu : P.underlying t0 = some (.slice el)) (hu1 : P.underlying t1 = some d1) (hd1 : (∃ e1, d1 = .slice e1) ∨ d1 = .string)
    {i : TypeInfo} (hi : P.info? el = some i) {w : World} {base : Option Addr} {sLen sCap m : Nat} {vy : Value} {cells : List Value} (hl : (Builtin.lenOf vy).run P w = .ok m w)
    (hf : (Builtin.firstCells i.size m vy).run P w = .ok cells.toArray w) (hroom : sLen + m ≤ sCap) {w' : World}
    (hst : ∀ a, base = some a → (storeCells (a.add (sLen * i.size)) cells 0).run P w = .ok () w') (hn : base = none → w' = w) :
    (Builtin.append_ at0 ty #[.slice base sLen sCap, vy]).run P w = .ok (.slice base (sLen + m) sCap) w' := by
  cases base with
  | none =>
    rw [hn rfl]
    rcases hd1 with ⟨e1, rfl⟩ | rfl <;> simp [Builtin.append_, h0, h1, Go.run_underlying hu, Go.run_underlying hu1, sizeOf, typeInfo, hi, hl, hroom, hf]
  | some a =>
    have := hst a rfl
    rcases hd1 with ⟨e1, rfl⟩ | rfl <;> simp [Builtin.append_, h0, h1, Go.run_underlying hu, Go.run_underlying hu1, sizeOf, typeInfo, hi, hl, hroom, hf, this]

theorem run_append_out {P : Program} {at0 : Array TypeId} {t0 t1 ty el : TypeId} {d1 : TypeDesc} (h0 : at0[0]? = some t0) (h1 : at0[1]? = some t1) (hu : P.underlying t0 = some (.slice el)) (hu1 : P.underlying t1 = some d1) (hd1 : (∃ e1, d1 = .slice e1) ∨ d1 = .string)
    {i : TypeInfo} (hi : P.info? el = some i) {z : Value} (hz : i.zero = some z) {w : World} {base : Option Addr} {sLen sCap m : Nat} {vy : Value} {olds cells : List Value} (hl : (Builtin.lenOf vy).run P w = .ok m w)
    (hfo : (Builtin.firstCells i.size sLen (.slice base sLen sCap)).run P w.drew = .ok olds.toArray w.drew)
    (hf : (Builtin.firstCells i.size m vy).run P w.drew = .ok cells.toArray w.drew) (hroom : ¬ sLen + m ≤ sCap) (h63 : ((sLen + m : Nat) : Int) ≤ 9223372036854775807) (hfit : Builtin.nextslicecap (sLen + m) sCap * i.bytes ≤ 281474976710656) :
    (Builtin.append_ at0 ty #[.slice base sLen sCap, vy]).run P w = .ok (.slice (some ⟨w.heap.size, 0, none⟩) (sLen + m) (grownCap w (sLen + m) sCap el))
        (w.drew.alloc (.cells (olds.toArray ++ cells.toArray ++ Builtin.zeroCells z.cells (grownCap w (sLen + m) sCap el - (sLen + m))) el)) := by
  have h63' : ¬ (9223372036854775807 < ((sLen : Int) + (m : Int))) := by omega
  have h48' : ¬ (281474976710656 < Builtin.nextslicecap (sLen + m) sCap * i.bytes) := by omega
  rcases hd1 with ⟨e1, rfl⟩ | rfl <;> simp [Builtin.append_, h0, h1, Go.run_underlying hu, Go.run_underlying hu1, sizeOf, typeInfo, zeroValue, hi, hz, hl, hroom, h63', h48', Question.forced, hf, hfo, newRow, grownCap] <;> (congr 2; apply Array.ext'; simp [List.append_assoc])

/-- The rows of a list, and what is put behind them. -/
def addL (k : K) (L : LT) (b off cap : Nat) (rows : List LT) : LT := match L with
  | .node _ _ _ rs => .node b off cap (rs ++ rows)
  | _ => .node b off cap rows

def rowsOf : LT → List LT
  | .node _ _ _ rs => rs
  | _ => []

/-- A list that is made of another's cells and of new ones, in a block. -/
theorem repl_append {P : Program} {w w' : World} {k : K} {l ys : List k.T} {L : LT} {v vy : Value} {dr d0 d dd : Bool} {cells olds : List Value} {rows : List LT} (h : RepL dr w k.size (Rep d0 w k) l L v) (hsrc : Src P w k ys d vy cells rows)
    (ho : olds.length = l.length * k.size)
    (hold : ∀ b' off cap' rows, L = .node b' off cap' rows → rows.length = l.length ∧ ∀ (i : Nat) x r, l[i]? = some x → rows[i]? = some r → ∃ vs, (∀ (c : Nat) u, vs[c]? = some u → olds[i * k.size + c]? = some u) ∧ Rep d0 w k x r vs)
    (h0 : dd = true → d0 = true) (h1 : dd = true → d = true) {b off cap : Nat}
    (hcell : ∀ (q : Nat) u, (olds ++ cells)[q]? = some u → w'.cell? ⟨b, off + q, none⟩ = some u) (hblk : w'.heap[b]? ≠ none) (hroom : Room w' b (off + cap * k.size)) (hcap : l.length + ys.length ≤ cap)
    (hs : Same w w' ((rowsOf L).flatMap (fp k))) (hs' : Same w w' (rows.flatMap (fp k))) :
    RepL true w' k.size (Rep dd w' k) (l ++ ys) (.node b off cap (rowsOf L ++ rows)) (.slice (some ⟨b, off, none⟩) (l.length + ys.length) cap) := by
  have hrl : (rowsOf L).length = l.length := by
    cases L with
    | node b' off' cap' rs => exact (hold _ _ _ _ rfl).1
    | _ =>
      rcases h with ⟨_, rfl, _⟩ | ⟨_, _, _, _, q, _⟩
      · rfl
      · simp at q
  refine .inr ⟨b, off, cap, _, rfl, by simp, by simpa using hcap, by simp [hrl, hsrc.rlen], hblk, fun _ => hroom, fun i x r hx hr => ?_⟩
  have to : ∀ {dx : Bool} {x : k.T} {r : LT} {vs : List Value}, Rep dx w k x r vs → Same w w' (fp k r) → (dd = true → dx = true) → Rep dd w' k x r vs := by
    intro dx x r vs hrep hsm hdx
    have := hrep.same hsm
    cases dx with
    | true => exact this.any dd
    | false => cases dd with
      | true => simp at hdx
      | false => exact this
  by_cases hi : i < l.length
  · rw [List.getElem?_append_left hi] at hx
    rw [List.getElem?_append_left (by omega)] at hr
    cases L with
    | node b' off' cap' rs =>
      obtain ⟨vs, q1, q2⟩ := (hold _ _ _ _ rfl).2 i x r hx hr
      refine ⟨vs, fun c u hu => ?_, to q2 (fun b1 hb1 => hs b1 (List.mem_flatMap.2 ⟨r, List.mem_of_getElem? hr, hb1⟩)) h0⟩
      rw [Nat.add_assoc]
      refine hcell _ u ?_
      have := q1 c u hu
      rw [List.getElem?_append_left (List.getElem?_eq_some_iff.1 this).1]
      exact this
    | _ => simp [rowsOf] at hr
  · rw [List.getElem?_append_right (by omega)] at hx
    rw [List.getElem?_append_right (by omega), hrl] at hr
    obtain ⟨vs, q1, q2⟩ := hsrc.rep _ x r hx hr
    refine ⟨vs, fun c u hu => ?_, to q2 (fun b1 hb1 => hs' b1 (List.mem_flatMap.2 ⟨r, List.mem_of_getElem? hr, hb1⟩)) h1⟩
    rw [Nat.add_assoc]
    refine hcell _ u ?_
    have := q1 c u hu
    have hik : i * k.size = l.length * k.size + (i - l.length) * k.size := by rw [← Nat.add_mul]; congr 1; omega
    rw [List.getElem?_append_right (by omega), ho, ← this]
    congr 1
    omega

end Go.Mach
