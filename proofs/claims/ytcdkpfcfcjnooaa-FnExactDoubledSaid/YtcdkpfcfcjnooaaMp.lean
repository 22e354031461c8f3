/- The machine, part p: conversions, built structs and rows. No condition: lemmas. -/
import Derived.Test.YtcdkpfcfcjnooaaMo
namespace Go.Mach
set_option linter.unusedVariables false
set_option linter.unusedSimpArgs false

/-! ### Rows, as cells -/
theorem add_none (b o j : Nat) : (⟨b, o, none⟩ : Addr).add j = ⟨b, o + j, none⟩ := by unfold Addr.add; split <;> simp_all

/-- A row, as the cells that are read. -/
theorem row_cells {P : Program} {dr d : Bool} {w : World} {k : K} {l : List k.T} {L : LT} {v : Value} (h : RepL dr w k.size (Rep d w k) l L v) :
    ∃ (b : Option Addr) (cap : Nat) (cells : List Value), v = .slice b l.length cap ∧ cells.length = l.length * k.size ∧ (∀ w2 : World, w2.heap = w.heap → (Builtin.firstCells k.size l.length v).run P w2 = .ok cells.toArray w2) ∧
      (∀ u ∈ cells, u.oneCell' = true) ∧ (b = none → l = []) ∧
      (∀ b' off cap' rows, L = .node b' off cap' rows → rows.length = l.length ∧ ∀ (i : Nat) x r, l[i]? = some x → rows[i]? = some r → ∃ vs, (∀ (c : Nat) u, vs[c]? = some u → cells[i * k.size + c]? = some u) ∧ Rep d w k x r vs) ∧
      (∀ b' off cap' rows, L = .node b' off cap' rows → ∀ (j : Nat) u, cells[j]? = some u → w.cell? ⟨b', off + j, none⟩ = some u) := by
  rcases h with ⟨rfl, rfl, b, cap, rfl, _⟩ | ⟨b, off, cap, rows, rfl, rfl, g1, g2, g0, g3, g4⟩
  · refine ⟨b, cap, [], rfl, by simp, fun w2 _ => ?_, by simp, fun _ => rfl, by simp, by simp⟩
    cases b with
    | none => simp [Builtin.firstCells]
    | some b =>
      have := run_loadCells_list (P := P) w2 b [] (by simp)
      simpa [Builtin.firstCells] using this
  · have key : ∀ j, j < l.length * k.size → ∃ u, w.cell? ⟨b, off + j, none⟩ = some u ∧ u.oneCell' = true ∧ True := by
      intro j hj
      have hi : j / k.size < l.length := (Nat.div_lt_iff_lt_mul k.size_pos).2 hj
      have hx : l[j / k.size]? = some (l[j / k.size]) := List.getElem?_eq_getElem hi
      have hr : rows[j / k.size]? = some (rows[j / k.size]'(by omega)) := List.getElem?_eq_getElem (by omega)
      obtain ⟨vs, h1, h2⟩ := g4 _ _ _ hx hr
      have hm : j % k.size < vs.length := by rw [h2.size]; exact Nat.mod_lt _ k.size_pos
      have := h1 (j % k.size) _ (List.getElem?_eq_getElem hm)
      refine ⟨vs[j % k.size], ?_, ?_, trivial⟩
      · rw [← this]
        congr 2
        rw [Nat.add_assoc, Nat.mul_comm, Nat.div_add_mod]
      · obtain ⟨u, hu, hru, _⟩ := h2.leaf (c := j % k.size) (Nat.mod_lt _ k.size_pos)
        rw [List.getElem?_eq_getElem hm] at hu
        simp only [Option.some.injEq] at hu
        rw [hu]
        exact Rep.oneCell hru
    refine ⟨some ⟨b, off, none⟩, cap, (List.range (l.length * k.size)).map fun j => (w.cell? ⟨b, off + j, none⟩).getD .nilIface, rfl, by simp, fun w2 hw2 => ?_, ?_, by simp, ?_, ?_⟩
    · have hc : ∀ x : Addr, w2.cell? x = w.cell? x := fun x => by simp only [World.cell?, hw2]
      refine run_firstCells_some (P := P) w2 k.size l.length ⟨b, off, none⟩ l.length cap _ (by simp) ?_
      intro j u hu
      rw [List.getElem?_map] at hu
      by_cases hj : j < l.length * k.size
      · rw [List.getElem?_range hj] at hu
        obtain ⟨u', h1, _⟩ := key j hj
        rw [hc, add_none, h1]
        simp only [Option.map_some, h1, Option.getD_some, Option.some.injEq] at hu
        rw [hu]
      · rw [List.getElem?_eq_none (by simpa using hj)] at hu
        simp at hu
    · intro u hu
      obtain ⟨j, hj, rfl⟩ := List.mem_map.1 hu
      obtain ⟨u', h1, h2, _⟩ := key j (List.mem_range.1 hj)
      rw [h1]
      exact h2
    · intro b' off' cap' rows' hL
      simp only [LT.node.injEq] at hL
      obtain ⟨rfl, rfl, rfl, rfl⟩ := hL
      refine ⟨g2, fun i x r hx hr => ?_⟩
      obtain ⟨vs, h1, h2⟩ := g4 i x r hx hr
      refine ⟨vs, fun c u hu => ?_, h2⟩
      have hi : i < l.length := (List.getElem?_eq_some_iff.1 hx).1
      have hc : c < k.size := by rw [← h2.size]; exact (List.getElem?_eq_some_iff.1 hu).1
      have hlt : i * k.size + c < l.length * k.size := by
        have : (i + 1) * k.size ≤ l.length * k.size := Nat.mul_le_mul_right _ hi
        rw [Nat.add_mul] at this
        omega
      rw [List.getElem?_map, List.getElem?_range hlt, Option.map_some, ← Nat.add_assoc, h1 c u hu]
      rfl
    · intro b' off' cap' rows' hL j u hu
      simp only [LT.node.injEq] at hL
      obtain ⟨rfl, rfl, rfl, rfl⟩ := hL
      rw [List.getElem?_map] at hu
      by_cases hj : j < l.length * k.size
      · rw [List.getElem?_range hj] at hu
        obtain ⟨u', h1, _⟩ := key j hj
        simp only [Option.map_some, h1, Option.getD_some, Option.some.injEq] at hu
        rw [h1, hu]
      · rw [List.getElem?_eq_none (by simpa using hj)] at hu
        simp at hu

/-- A row of numbers, as its cells. -/
theorem int_cells {P : Program} {dr d : Bool} {w : World} {ik : IntKind} {l : List Int} {L : LT} {v : Value} (h : RepL dr w 1 (Rep d w (.int ik)) l L v) :
    ∃ b cap, v = .slice b l.length cap ∧ (∀ w2 : World, w2.heap = w.heap → (Builtin.firstCells 1 l.length v).run P w2 = .ok (l.map (Value.int ik)).toArray w2) ∧ (b = none → l = []) := by
  obtain ⟨b, cap, cells, h1, h2, h3, h4, h5, h6, _⟩ := row_cells (P := P) (k := .int ik) h
  refine ⟨b, cap, h1, fun w2 hw => ?_, h5⟩
  have := h3 w2 hw
  simp only [K.size] at this
  rw [this]
  congr 2
  rcases h with ⟨rfl, rfl, _⟩ | ⟨b', off, cap', rows, rfl, _, _, _⟩
  · exact List.eq_nil_of_length_eq_zero (by simpa using h2)
  · obtain ⟨g1, g2⟩ := h6 _ _ _ _ rfl
    apply List.ext_getElem?
    intro i
    simp only [K.size, Nat.mul_one] at h2
    by_cases hi : i < l.length
    · obtain ⟨vs, g3, g4⟩ := g2 i (l[i]) (rows[i]'(by omega)) (List.getElem?_eq_getElem hi) (List.getElem?_eq_getElem (by omega))
      simp only [Rep] at g4
      have := g3 0 (.int ik l[i]) (by rw [g4]; rfl)
      simp only [K.size, Nat.mul_one, Nat.add_zero] at this
      rw [this, List.getElem?_map, List.getElem?_eq_getElem hi]
      rfl
    · rw [List.getElem?_eq_none (by omega), List.getElem?_eq_none (by simpa using hi)]

theorem flat_none {k : K} (h : k.flat = true) (rows : List LT) : rows.flatMap (fp k) = [] := by
  rw [List.flatMap_eq_nil_iff]
  intro L _
  exact fp_flat h

section ops
variable {P : Program} {n : Nat} {e : Env} {a : Act} {w : World} {G : Gh} {get : Nat → Slot} {o : Oper} {x : Ctx} {ws : Writes}

theorem bytes_ok (hinv : Inv n e a.tmps w G) (hs : Sees get e) {c : C} {v : Value} {L : LT} (hc : CellOk e w G c v L) {l : List Int} (h : bytesC get c = some l) :
    ∃ dr d M, RepL dr w 1 (Rep d w (.int .u8)) l M v := by
  cases c with
  | nil =>
    simp only [bytesC, Option.some.injEq] at h
    subst h
    obtain rfl : v = .slice none 0 0 := hc
    exact ⟨true, true, .nil, .inl ⟨rfl, rfl, none, 0, rfl, fun _ => rfl⟩⟩
  | dat k y =>
    simp only [bytesC] at h
    split at h
    · simp_all
    · rename_i l' heq
      simp only [C.dat.injEq] at heq
      obtain ⟨rfl, h2⟩ := heq
      have h2 := eq_of_heq h2
      subst h2
      simp only [Option.some.injEq] at h
      subst h
      have := hc.1
      simp only [Rep] at this
      obtain ⟨u, hu, hr⟩ := this
      simp only [List.cons.injEq, and_true] at hu
      subst hu
      exact ⟨false, false, L, hr⟩
    · simp_all
    · simp at h
  | ref s j rv sv p lo hi k =>
    simp only [bytesC] at h
    split at h
    · simp_all
    · simp_all
    · rename_i heq
      cases heq
      cases hq : content get s j rv sv p (.int .u8) with
      | none => rw [hq] at h; simp at h
      | some q =>
        obtain ⟨d, l'⟩ := q
        rw [hq] at h
        simp only [Option.map_some, Option.some.injEq] at h
        subst h
        obtain ⟨sv', k0, l0, q1, q2, q3⟩ := content_ok hs hq
        obtain ⟨_, _, r3, _⟩ := ref_reads hinv hc q1 q2 q3
        exact ⟨true, d, _, r3⟩
    · simp at h
  | _ => simp [bytesC] at h

theorem run_bytes_str {src dst el : TypeId} (hs : P.underlying src = some (.slice el)) (he : P.underlying el = some (.int .u8)) (hd : P.underlying dst = some .string) {dr d : Bool} {l : List Int} {L : LT} {v : Value}
    (h : RepL dr w 1 (Rep d w (.int .u8)) l L v) : (convert src dst v).run P w = .ok (.string ⟨⟨l.map fun n => UInt8.ofNat n.toNat⟩⟩) w := by
  obtain ⟨b, cap, rfl, h2, h3⟩ := int_cells (P := P) h
  rw [run_convert_bytes_string w src dst el b _ cap hs he hd]
  cases b with
  | none =>
    rw [h3 rfl]
    rfl
  | some b =>
    have := h2 w rfl
    simp only [Builtin.firstCells, Nat.mul_one] at this
    rw [run_bytesToString w b l.length cap l this, foldl_push_bytes]
    simp

theorem run_conv_int {src dst : TypeId} {d : TypeDesc} (hs : P.underlying src = some d) {k : IntKind} (hd : P.underlying dst = some (.int k)) (ik : IntKind) (m : Int) (w : World) :
    (convert src dst (.int ik m)).run P w = .ok (.int k (k.wrap m)) w := by
  simp only [convert, Sem.run_bind, run_und hs, run_und hd, Result.andThen_ok, Conv.intToInt]
  cases d <;> rfl

theorem run_conv_str {src dst : TypeId} {d : TypeDesc} (hs : P.underlying src = some d) (hd : P.underlying dst = some .string) (s : ByteArray) (w : World) :
    (convert src dst (.string s)).run P w = .ok (.string s) w := by
  simp only [convert, Sem.run_bind, run_und hs, run_und hd, Result.andThen_ok]
  cases d <;> rfl

theorem sound_convert {src dst : TypeId} {y : Operand} (hty : ∀ t, x.ty t = tyOf P t) (hb : Begin n e a w G get o) (ho : o.op = .convert src dst y) (h : act x get o = some ws) : Sound P n e a w G o ws := by
  have hty' : x.ty = tyOf P := funext hty
  simp only [act, ho] at h
  split at h
  · rename_i c hc
    split at h
    · simp at h
    · rename_i hok
      rw [hty, Bool.not_eq_false] at hok
      obtain ⟨i, d, hi, hu, _⟩ := ty_ok hok
      obtain ⟨L, h1, hno⟩ := hb.one (by simp [ho, Op.operands]) hc
      rw [hty] at h
      rw [hty'] at h
      split at h
      · rename_i ik m k _ hk
        obtain ⟨G', hp⟩ := hb.cell (int_ok e w G k _) rfl h
        refine Sound.value ?_ hp
        simp only [execOp, ho, dat_int h1]
        exact run_v (run_conv_int hu (intTi_ok hk) ik m w)
      · rename_i s hS
        obtain ⟨G', hp⟩ := hb.cell (str_ok e w G s) rfl h
        refine Sound.value ?_ hp
        simp only [execOp, ho, dat_str h1]
        exact run_v (run_conv_str hu (ty_str hS) _ w)
      · rename_i s _ hu8
        split at h
        · rename_i hq
          obtain ⟨_, hq⟩ := hq
          obtain ⟨el, hel, he⟩ := u8Row_ok hu8
          obtain ⟨dd, hd, hws⟩ := own_dst h
          have hr := run_bytes_of_string (P := P) w src dst el ⟨⟨s⟩⟩ (ty_str hq) hel he
          have hge := grownCap_ge w s.length 0 el
          simp only [bytes_size] at hr
          refine Sound.new (by simp only [execOp, ho, dat_str h1]; exact run_v hr) hd ?_ hws
          have hnew := heap_alloc_new w.drew (.cells (bytesRow ⟨⟨s⟩⟩ (grownCap w s.length 0 el)) el ((bytesRow ⟨⟨s⟩⟩ (grownCap w s.length 0 el)).size, (bytesRow ⟨⟨s⟩⟩ (grownCap w s.length 0 el)).size + 1))
          have hdr : w.drew.heap = w.heap := rfl
          rw [hdr] at hnew
          have hsz : (bytesRow ⟨⟨s⟩⟩ (grownCap w s.length 0 el)).size = grownCap w s.length 0 el := by
            simp only [bytesRow, Array.size_append, Array.size_map, Array.size_replicate, bytes_size]
            show s.length + _ = _
            omega
          have := new_row (a := a) (H := []) (k := .int .u8) (l := s.map fun b => ((b.toNat : Nat) : Int)) (d := true) (cap := grownCap w s.length 0 el) (rows := List.replicate s.length .leaf) (t := { get, d := o.dst })
            (w' := w.drew.alloc (.cells (bytesRow ⟨⟨s⟩⟩ (grownCap w s.length 0 el)) el ((bytesRow ⟨⟨s⟩⟩ (grownCap w s.length 0 el)).size, (bytesRow ⟨⟨s⟩⟩ (grownCap w s.length 0 el)).size + 1)))
            hb.inv hb.tr Held.refl (by simp) (fun b hb' => alloc_same w.drew _ b hb') ?_ (by simp) (by simp) (by simp) (fun _ => (flat_none rfl _).symm) (by rw [flat_none rfl]; simp) (by rw [flat_none rfl]; simp) hd (hb.inb.dst dd hd)
          · simpa using this
          · refine .inr ⟨_, 0, _, _, rfl, rfl, by simpa using hge, by simp, by rw [hnew]; simp, fun _ => ⟨_, _, _, hnew, by simp [hsz, K.size], .inl (by simp)⟩, fun j y r hy hr => ?_⟩
            rw [List.getElem?_map] at hy
            cases hj : s[j]? with
            | none => rw [hj] at hy; simp at hy
            | some bb =>
              rw [hj] at hy
              simp only [Option.map_some, Option.some.injEq] at hy
              subst hy
              refine ⟨[.int .u8 (bb.toNat : Nat)], fun q u hq' => ?_, by simp [Rep]⟩
              match q, hq' with
              | 0, hq' =>
                simp only [List.getElem?_cons_zero, Option.some.injEq] at hq'
                subst hq'
                simp only [World.cell?, hnew, K.size, Nat.mul_one, Nat.zero_add, Nat.add_zero, Option.isSome_none, Bool.false_eq_true, if_false]
                simp only [bytesRow]
                have hjl : j < s.length := (List.getElem?_eq_some_iff.1 hj).1
                rw [Array.getElem?_append_left (by rw [Array.size_map]; exact hjl)]
                rw [Array.getElem?_map, List.getElem?_toArray, hj]
                rfl
        · simp at h
      · rename_i hS
        split at h
        · rename_i hu8
          split at h
          · rename_i l hl
            obtain ⟨el, hel, he⟩ := u8Row_ok hu8
            obtain ⟨dr, d', M, hr⟩ := bytes_ok hb.inv hb.sees h1 hl
            obtain ⟨G', hp⟩ := hb.cell (str_ok e w G _) rfl h
            refine Sound.value ?_ hp
            simp only [execOp, ho]
            exact run_v (run_bytes_str hel he (ty_str hS) hr)
          · simp at h
        · simp at h
      · simp at h
  · simp at h

end ops

end Go.Mach
