/- The machine, part k: operations that compute and read, one by one. No condition: lemmas. -/
import Derived.Test.YtcdkpfcfcjnooaaMj
namespace Go.Mach
set_option linter.unusedVariables false
set_option linter.unusedSimpArgs false

section ops
variable {P : Program} {n : Nat} {e : Env} {a : Act} {w : World} {G : Gh} {get : Nat → Slot} {o : Oper} {x : Ctx} {ws : Writes}

theorem Begin.cell {c : C} {v : Value} {L : LT} (hb : Begin n e a w G get o) (hc : CellOk e w G c v L) (hno : c.isOwn = false) (h : some (Tr.lay { get, d := o.dst } o.dst (.one, [c])).ws = some ws) :
    ∃ G', Post n (e.puts ws) a w G (a.put o.dst v) w G' := hb.done (one_ok hc hno) h

theorem sound_binOp {op : BinOp} {ty yt : TypeId} {y z : Operand} (hty : ∀ t, x.ty t = tyOf P t) (hb : Begin n e a w G get o) (ho : o.op = .binOp op ty y z yt)
    (hagg : ∀ cs ds, opd get y = some (.agg, cs) → opd get z = some (.agg, ds) → Sound P n e a w G o ws) (h : act x get o = some ws) : Sound P n e a w G o ws := by
  simp only [act, ho] at h
  split at h
  · rename_i c d hc hd
    split at h
    · rename_i c' hbin
      obtain ⟨L, h1, _⟩ := hb.one (by simp [ho, Op.operands]) hc
      obtain ⟨M, h2, _⟩ := hb.one (by simp [ho, Op.operands]) hd
      obtain ⟨r, h3, h4, h5⟩ := bin_ok (P := P) h1 h2 ty (fun q => ty_bool (by rw [hty] at q; exact q)) hbin y z
      obtain ⟨G', hp⟩ := hb.cell h4 h5 h
      refine Sound.value ?_ hp
      simp only [execOp, ho]
      exact run_v h3
    · simp at h
  · rename_i cs ds hc hd
    exact hagg cs ds hc hd
  · simp at h

theorem sound_unOp {op : UnOp} {ty : TypeId} {y : Operand} (hb : Begin n e a w G get o) (ho : o.op = .unOp op ty y) (h : act x get o = some ws) : Sound P n e a w G o ws := by
  simp only [act, ho] at h
  split at h
  · rename_i c hc
    split at h
    · rename_i c' hun
      obtain ⟨L, h1, _⟩ := hb.one (by simp [ho, Op.operands]) hc
      obtain ⟨r, h3, h4, h5⟩ := un_ok (P := P) h1 hun
      obtain ⟨G', hp⟩ := hb.cell h4 h5 h
      refine Sound.value ?_ hp
      simp only [execOp, ho]
      exact run_v h3
    · simp at h
  · simp at h

theorem ptr_val {c : C} {v : Value} {L : LT} (hc : CellOk e w G c v L) (hp : c.isPtr = true) : IsPtr v := by
  cases c with
  | bptr s bv j => exact hc.2.2
  | aptr s j rv sv p i c k => exact hc.1
  | pim cs j =>
    obtain ⟨b', o1, vs, Ls, h1, _⟩ := hc
    exact ⟨_, _, h1⟩
  | _ => simp [C.isPtr] at hp

theorem sound_nilCheck {y : Operand} (hb : Begin n e a w G get o) (ho : o.op = .nilCheck y) (h : act x get o = some ws) : Sound P n e a w G o ws := by
  simp only [act, ho] at h
  split at h
  · rename_i s bv j hc
    obtain ⟨L, h1, _⟩ := hb.one (by simp [ho, Op.operands]) hc
    obtain ⟨b, o', hv⟩ := ptr_val h1 rfl
    exact nilCheck_ptr hb ho hc hv h
  · rename_i hc
    obtain ⟨L, h1, _⟩ := hb.one (by simp [ho, Op.operands]) hc
    obtain ⟨b, o', hv⟩ := ptr_val h1 rfl
    exact nilCheck_ptr hb ho hc hv h
  · rename_i cs j hc
    obtain ⟨L, h1, _⟩ := hb.one (by simp [ho, Op.operands]) hc
    obtain ⟨b, o', hv⟩ := ptr_val h1 rfl
    exact nilCheck_ptr hb ho hc hv h
  · rename_i f cs hc
    obtain ⟨vs, Ls, hval⟩ := hb.opd (by simp [ho, Op.operands]) hc
    obtain ⟨L, h1, _⟩ := hb.one (by simp [ho, Op.operands]) hc
    obtain ⟨us, Ls', hv, _⟩ := h1
    obtain ⟨G', hp⟩ := hb.done hval h
    refine Sound.value ?_ hp
    simp only [execOp, ho, hv]
    rfl
  · simp at h

/-! ### Addresses -/
theorem addr_add (b o m : Nat) : (⟨b, o, none⟩ : Addr).add m = ⟨b, o + m, none⟩ := by
  unfold Addr.add
  split <;> simp_all

theorem run_fieldPlace {t : Nat} {f : Field} {i : TypeInfo} (hi : P.info? f.type = some i) (hs : (tyOf P f.type).size ≠ 0) (b o' : Nat) (w : World) : (fieldPlace ⟨b, o', none⟩ f).run P w = .ok ⟨b, o' + f.offset, none⟩ w := by
  simp only [fieldPlace, Sem.run_bind, run_size hi, Result.andThen_ok, if_neg hs, addr_add]
  rfl

theorem run_fieldAt {t f off ft : Nat} {d : List (Nat × Nat)} (hd : (tyOf P t).d = .struct d) (hf : d[f]? = some (off, ft)) (hs : (tyOf P ft).size ≠ 0) (b o' : Nat) (w : World) :
    (Instr.fieldAt t (.pointer (some ⟨b, o', none⟩)) f).run P w = .ok (.pointer (some ⟨b, o' + off, none⟩)) w := by
  obtain ⟨fields, h1, rfl⟩ := ty_struct hd
  rw [List.getElem?_map] at hf
  cases hq : fields.toList[f]? with
  | none => rw [hq] at hf; simp at hf
  | some fl =>
    rw [hq] at hf
    simp only [Option.map_some, Option.some.injEq, Prod.mk.injEq] at hf
    obtain ⟨rfl, rfl⟩ := hf
    have hq' : fields[f]? = some fl := by simpa using hq
    obtain ⟨i, hi⟩ := ty_size_info hs
    simp only [Instr.fieldAt, Sem.run_bind, run_und h1, Result.andThen_ok, hq', Instr.sureAddr, Sem.run_pure, run_fieldPlace (t := t) hi hs]

theorem addC_ok {off : Nat} {c c' : C} {v : Value} {L : LT} (hc : CellOk e w G c v L) (h : addC off c = some c') {b o' : Nat} (hv : v = .pointer (some ⟨b, o', none⟩)) :
    CellOk e w G c' (.pointer (some ⟨b, o' + off, none⟩)) L ∧ c'.isOwn = false := by
  cases c with
  | bptr s bv j =>
    simp only [addC, Option.some.injEq] at h
    subst h
    obtain ⟨h1, h2, _⟩ := hc
    refine ⟨⟨h1, fun hb => ?_, _, _, rfl⟩, rfl⟩
    have := h2 hb
    rw [hv] at this
    simp only [Value.pointer.injEq, Option.some.injEq, Addr.mk.injEq, and_true] at this
    obtain ⟨rfl, rfl⟩ := this
    rfl
  | aptr s j rv sv p i c k =>
    simp only [addC, Option.some.injEq] at h
    subst h
    obtain ⟨_, h1, h2, h3⟩ := hc
    refine ⟨⟨⟨_, _, rfl⟩, h1, h2, fun sv' d k0 l0 q1 q2 => ?_⟩, rfl⟩
    obtain ⟨m, b', off', cap, q3, q4, q5⟩ := h3 sv' d k0 l0 q1 q2
    refine ⟨m, b', off', cap, q3, q4, ?_⟩
    rw [hv] at q5
    simp only [Value.pointer.injEq, Option.some.injEq, Addr.mk.injEq, and_true] at q5
    obtain ⟨rfl, rfl⟩ := q5
    simp [Nat.add_assoc]
  | pim cs j =>
    simp only [addC, Option.some.injEq] at h
    subst h
    obtain ⟨b', o1, vs, Ls, h1, h2, h3, h4, h5, h6⟩ := hc
    rw [hv] at h1
    simp only [Value.pointer.injEq, Option.some.injEq, Addr.mk.injEq, and_true] at h1
    obtain ⟨rfl, rfl⟩ := h1
    exact ⟨⟨b, o1, vs, Ls, by simp [Nat.add_assoc], h2, h3, h4, h5, h6⟩, rfl⟩
  | _ => simp [addC] at h

theorem sound_fieldAddr {ty : TypeId} {y : Operand} {f : Nat} (hty : ∀ t, x.ty t = tyOf P t) (hb : Begin n e a w G get o) (ho : o.op = .fieldAddr ty y f) (h : act x get o = some ws) : Sound P n e a w G o ws := by
  simp only [act, ho] at h
  split at h
  · rename_i c off ft hc hf
    split at h
    · simp at h
    · rename_i hs
      split at h
      · rename_i c' hadd
        obtain ⟨L, h1, _⟩ := hb.one (by simp [ho, Op.operands]) hc
        obtain ⟨b, o', hv⟩ := ptr_val h1 (by cases c <;> simp_all [addC, C.isPtr])
        obtain ⟨h2, h3⟩ := addC_ok h1 hadd hv
        obtain ⟨G', hpost⟩ := hb.cell h2 h3 h
        refine Sound.value ?_ hpost
        simp only [execOp, ho, hv]
        simp only [fieldOf, hty] at hf
        split at hf
        · rename_i fs hd
          exact run_v (run_fieldAt hd hf (by rw [← hty]; exact hs) b o' w)
        · simp at hf
      · simp at h
  · simp at h

/-- A part of a struct's cells. -/
theorem run_part {t : Nat} (hok : (tyOf P t).ok = true) (vs : List Value) (off : Nat) (hl : off + (tyOf P t).size ≤ vs.length) (w : World) :
    (part t vs.toArray off).run P w = .ok (form (partShape (tyOf P t)) ((vs.drop off).take (tyOf P t).size)) w := by
  obtain ⟨i, d, hi, hu, h1, hag⟩ := ty_ok hok
  have hag := congrFun hag w
  have hsz := (ty_size hi).1
  simp only [part, Sem.run_bind, hag, Result.andThen_ok]
  cases hh : (tyOf P t).agg with
  | true =>
    simp only [if_true, Sem.run_bind, run_size hi, Result.andThen_ok, Sem.run_pure, partShape, hh, form]
    congr 2
    apply Array.ext'
    simp [List.extract_eq_take_drop]
  | false =>
    have h1 := h1 hh
    rw [hsz, h1] at hl ⊢
    have hx : vs.toArray[off]? = some (vs[off]'(by omega)) := by simp
    have h2 : (vs.drop off).take 1 = [vs[off]'(by omega)] := by rw [List.drop_eq_getElem_cons (by omega)]; rfl
    simp only [Bool.false_eq_true, if_false, hx, Sem.run_pure, partShape, hh, form, hsz, h1, h2, List.headD_cons]

theorem partShape_box (t : Ti) (bv : Nat) : partShape t ≠ .box bv := by unfold partShape; split <;> simp
theorem partShape_dead (t : Ti) : partShape t ≠ .dead := by unfold partShape; split <;> simp

theorem run_field {t f off ft : Nat} {d : List (Nat × Nat)} (hd : (tyOf P t).d = .struct d) (hf : d[f]? = some (off, ft)) (hok : (tyOf P ft).ok = true) (vs : List Value) (hl : off + (tyOf P ft).size ≤ vs.length) (w : World) :
    (Instr.field t (.agg vs.toArray) f).run P w = .ok (form (partShape (tyOf P ft)) ((vs.drop off).take (tyOf P ft).size)) w := by
  obtain ⟨fields, h1, rfl⟩ := ty_struct hd
  rw [List.getElem?_map] at hf
  cases hq : fields.toList[f]? with
  | none => rw [hq] at hf; simp at hf
  | some fl =>
    rw [hq] at hf
    simp only [Option.map_some, Option.some.injEq, Prod.mk.injEq] at hf
    obtain ⟨rfl, rfl⟩ := hf
    have hq' : fields[f]? = some fl := by simpa using hq
    simp only [Instr.field, Sem.run_bind, run_und h1, Result.andThen_ok, hq', asAgg, Sem.run_pure, run_part hok vs fl.offset hl]

theorem sound_field {ty : TypeId} {y : Operand} {f : Nat} (hty : ∀ t, x.ty t = tyOf P t) (hb : Begin n e a w G get o) (ho : o.op = .field ty y f) (h : act x get o = some ws) : Sound P n e a w G o ws := by
  simp only [act, ho] at h
  split at h
  · rename_i cs off ft hc hf
    split at h
    · rename_i hl
      obtain ⟨vs, Ls, hval⟩ := hb.opd (by simp [ho, Op.operands]) hc
      simp only [fieldOf, hty] at hf
      split at hf
      · rename_i fs hd
        rw [hty] at hl h
        have hfm := hval.form
        simp only [form] at hfm
        have hcells : ValOk e w G (partShape (tyOf P ft), (cs.drop off).take (tyOf P ft).size) (form (partShape (tyOf P ft)) ((vs.drop off).take (tyOf P ft).size)) ((vs.drop off).take (tyOf P ft).size) (fun j => Ls (off + j)) :=
          ⟨(hval.cells.drop off).take _, rfl, fun c hc => hval.noOwn c (List.mem_of_mem_drop (List.mem_of_mem_take hc)), partShape_box _, partShape_dead _⟩
        obtain ⟨G', hp⟩ := hb.done hcells h
        refine Sound.value ?_ hp
        simp only [execOp, ho, hfm]
        refine run_v (run_field hd hf hl.1 vs ?_ w)
        rw [hval.cells.len]
        exact hl.2
      · simp at hf
    · simp at h
  · simp at h

theorem nat_of {i : C} {m : Nat} {v : Value} {L : LT} (hm : natOf i = some m) (h : CellOk e w G i v L) : ∃ k, v = .int k (m : Int) := by
  cases i with
  | dat k q =>
    cases k with
    | int ik =>
      have hq := dat_int h
      simp only [natOf] at hm
      split at hm
      · rename_i hq0
        simp only [Option.some.injEq] at hm
        subst hm
        exact ⟨ik, by rw [hq]; congr 1; exact (Int.toNat_of_nonneg hq0).symm⟩
      · simp at hm
    | _ => simp [natOf] at hm
  | _ => simp [natOf] at hm

theorem sound_index {ty : TypeId} {y z : Operand} (hty : ∀ t, x.ty t = tyOf P t) (hb : Begin n e a w G get o) (ho : o.op = .index ty y z) (h : act x get o = some ws) : Sound P n e a w G o ws := by
  simp only [act, ho] at h
  split at h
  · simp at h
  · rename_i hs
    have hstr : P.underlying ty = some .string := ty_str (by rw [← hty]; simpa using hs)
    split at h
    · rename_i s i hc hi
      split at h
      · rename_i m hm
        split at h
        · rename_i hlt
          obtain ⟨L, h1, _⟩ := hb.one (by simp [ho, Op.operands]) hc
          obtain ⟨M, h2, _⟩ := hb.one (by simp [ho, Op.operands]) hi
          have hs := dat_str h1
          obtain ⟨ik, hq⟩ := nat_of hm h2
          obtain ⟨G', hp⟩ := hb.cell (int_ok e w G .u8 (((s.getD m 0).toNat : Nat) : Int)) rfl h
          refine Sound.value ?_ hp
          simp only [execOp, ho, hs, hq]
          apply run_v
          have hg : (⟨⟨s⟩⟩ : ByteArray)[m]? = some (s.getD m 0) := by
            rw [getElem?_pos _ _ (by simpa [bytes_size] using hlt)]
            simp only [List.getD_eq_getElem?_getD, List.getElem?_eq_getElem hlt, Option.getD_some, Option.some.injEq]
            rfl
          have h0 : (0 : Int) ≤ (m : Int) := by omega
          simp only [Instr.index, asIntOf, Sem.run_bind, Sem.run_pure, Result.andThen_ok, run_und hstr, if_pos h0, Int.toNat_natCast, hg]
        · simp at h
      · simp at h
    · simp at h

/-! ### Leaves and paths -/
theorem leaves_length : ∀ (k : K) (x : k.T), (leaves k x).length = k.size
  | .int _, _ => rfl
  | .bool, _ => rfl
  | .str, _ => rfl
  | .list _, _ => rfl
  | .pair a b, x => by simp [leaves, K.size, leaves_length a, leaves_length b]

theorem leaves_get : ∀ (k : K) (x : k.T) (c : Nat), c < k.size → (leaves k x)[c]? = some (leafV k x c)
  | .int _, _, c, h => by simp only [K.size] at h; obtain rfl : c = 0 := by omega
                          rfl
  | .bool, _, c, h => by simp only [K.size] at h; obtain rfl : c = 0 := by omega
                         rfl
  | .str, _, c, h => by simp only [K.size] at h; obtain rfl : c = 0 := by omega
                        rfl
  | .list _, _, c, h => by simp only [K.size] at h; obtain rfl : c = 0 := by omega
                           rfl
  | .pair a b, x, c, h => by
    simp only [K.size] at h
    simp only [leaves, leafV]
    by_cases hlt : c < a.size
    · rw [List.getElem?_append_left (by rw [leaves_length]; exact hlt), leaves_get a _ _ hlt, if_pos hlt]
    · rw [List.getElem?_append_right (by rw [leaves_length]; omega), leaves_length, leaves_get b _ _ (by omega), if_neg hlt]

theorem path_snoc : ∀ (p : Path) (k : K) (l : List k.T) (L : LT) (i c : Nat) {k1 : K} {l1 : List k1.T} {k2 : K} {l2 : List k2.T}, PathOk k l p → getP k l p = ⟨k1, l1⟩ → i < l1.length → c < k1.size →
    leafV k1 (l1.getD i k1.dflt) c = ⟨.list k2, l2⟩ → PathOk k l (p ++ [(i, c)]) ∧ getP k l (p ++ [(i, c)]) = ⟨k2, l2⟩ ∧
    ∀ b off cap rows, subL k L p = .node b off cap rows → subL k L (p ++ [(i, c)]) = leafL k1 (rows.getD i .leaf) c
  | [], k, l, L, i, c, k1, l1, k2, l2, hp, hg, hi, hc, hl => by
    rw [getP_nil] at hg
    simp only [Sigma.mk.injEq] at hg
    obtain ⟨rfl, hg⟩ := hg
    have hg := eq_of_heq hg
    subst hg
    refine ⟨?_, ?_, fun b off cap rows hL => ?_⟩
    · simp only [List.nil_append, PathOk, hl]
      exact ⟨hi, hc, trivial⟩
    · simp only [List.nil_append, getP, hl]
    · simp only [subL] at hL
      subst hL
      simp only [List.nil_append, subL, leafV_list hl]
  | (i0, c0) :: p, k, l, L, i, c, k1, l1, k2, l2, hp, hg, hi, hc, hl => by
    simp only [PathOk] at hp
    obtain ⟨a1, a2, hp⟩ := hp
    cases hl0 : leafV k (l.getD i0 k.dflt) c0 with
    | mk kk y =>
      rw [hl0] at hp
      cases kk with
      | list k' =>
        simp only at hp
        have hg' : getP k' y p = ⟨k1, l1⟩ := by rw [← hg]; simp only [getP, hl0]
        obtain ⟨b1, b2, _⟩ := path_snoc p k' y .nil i c hp hg' hi hc hl
        refine ⟨?_, ?_, fun b off cap rows hL => ?_⟩
        · simp only [List.cons_append, PathOk, hl0]
          exact ⟨a1, a2, b1⟩
        · simp only [List.cons_append, getP, hl0, b2]
        · have hk := leafV_list hl0
          cases L with
          | node b0 off0 cap0 rows0 =>
            simp only [subL, hk] at hL
            obtain ⟨_, _, b3⟩ := path_snoc p k' y (leafL k (rows0.getD i0 .leaf) c0) i c hp hg' hi hc hl
            simp only [List.cons_append, subL, hk]
            exact b3 b off cap rows hL
          | _ => simp [subL] at hL
      | _ => exact hp.elim

/-! ### Lengths -/
theorem len_ok {c : C} {m : Nat} {v : Value} {L : LT} (hinv : Inv n e a.tmps w G) (hs : Sees get e) (hc : CellOk e w G c v L) (h : lenC get c = some m) :
    (∃ s, v = .string s ∧ s.size = m ∧ ∃ l, c = .dat .str l) ∨ (∃ b cap, v = .slice b m cap ∧ ∀ l, c ≠ .dat .str l) := by
  cases c with
  | nil =>
    simp only [lenC, Option.some.injEq] at h
    subst h
    exact .inr ⟨none, 0, hc, by simp⟩
  | dat k y =>
    cases k with
    | list k =>
      simp only [lenC, Option.some.injEq] at h
      subst h
      obtain ⟨h1, _⟩ := hc
      simp only [Rep] at h1
      obtain ⟨u, hu, h1⟩ := h1
      simp only [List.cons.injEq, and_true] at hu
      subst hu
      right
      rcases h1 with ⟨_, h2, b, cap, h3, _⟩ | ⟨b, off, cap, rows, _, h2, _⟩
      · exact ⟨b, cap, by rw [h3, h2]; rfl, by simp⟩
      · exact ⟨_, cap, h2, by simp⟩
    | str =>
      simp only [lenC, Option.some.injEq] at h
      subst h
      exact .inl ⟨_, dat_str hc, rfl, y, rfl⟩
    | _ => simp [lenC] at h
  | ref s j rv sv p lo hi k =>
    simp only [lenC] at h
    cases hcon : content get s j rv sv p k with
    | none => rw [hcon] at h; simp at h
    | some q =>
      obtain ⟨d, l⟩ := q
      rw [hcon] at h
      simp only [Option.map_some, Option.some.injEq] at h
      obtain ⟨sv', k0, l0, h1, h2, h3⟩ := content_ok hs hcon
      obtain ⟨g1, g2, g3, g4⟩ := ref_reads hinv hc h1 h2 h3
      right
      rcases g3 with ⟨_, h2, b, cap, h3, _⟩ | ⟨b, off, cap, rows, _, h2, _⟩
      · exact ⟨b, cap, by rw [h3, ← h, h2]; rfl, by simp⟩
      · exact ⟨_, cap, by rw [h2, h], by simp⟩
  | _ => simp [lenC] at h

theorem fits_slice {t : Nat} {c : C} (h : fitsTy (tyOf P t) c = true) (hc : ∀ l, c ≠ .dat .str l) : ∃ el, P.underlying t = some (.slice el) := by
  have key : (match (tyOf P t).d with | .slice _ => true | _ => false) = true → ∃ el, P.underlying t = some (.slice el) := by
    intro h
    split at h
    · rename_i el q
      exact ⟨el, ty_slice q⟩
    · simp at h
  cases c with
  | dat k l =>
    cases k with
    | str => exact absurd rfl (hc l)
    | _ => exact key h
  | _ => exact key h

theorem fits_str {t : Nat} {l : List UInt8} (h : fitsTy (tyOf P t) (.dat .str l) = true) : P.underlying t = some .string := ty_str h

theorem two_opds {y z : Operand} {v1 v2 : Val} (h : opds get [y, z] = some [v1, v2]) : opd get y = some v1 ∧ opd get z = some v2 := by
  simp only [opds] at h
  cases h1 : opd get y with
  | none => rw [h1] at h; simp at h
  | some q1 =>
    rw [h1] at h
    cases h2 : opd get z with
    | none => rw [h2] at h; simp at h
    | some q2 =>
      rw [h2] at h
      simp only [Option.some.injEq, List.cons.injEq, and_true] at h
      rw [h.1, h.2]
      exact ⟨rfl, rfl⟩

theorem opds_cons {y : Operand} {r : List Operand} {vs : List Val} (h : opds get (y :: r) = some vs) : ∃ v vs', vs = v :: vs' ∧ opd get y = some v ∧ opds get r = some vs' := by
  simp only [opds] at h
  cases h1 : opd get y with
  | none => rw [h1] at h; simp at h
  | some q1 =>
    rw [h1] at h
    cases h2 : opds get r with
    | none => rw [h2] at h; simp at h
    | some q2 =>
      rw [h2] at h
      simp only [Option.some.injEq] at h
      exact ⟨q1, q2, h.symm, rfl, rfl⟩

theorem opds_nil {vs : List Val} (h : opds get [] = some vs) : vs = [] := by simpa [opds] using h.symm

theorem opds_one {args : Array Operand} {v : Val} (h : opds get args.toList = some [v]) : ∃ y, args = #[y] ∧ opd get y = some v := by
  obtain ⟨l⟩ := args
  simp only at h
  match l, h with
  | [], h => simp [opds] at h
  | [y], h =>
    obtain ⟨v', vs', h1, h2, h3⟩ := opds_cons h
    have := opds_nil h3
    subst this
    simp only [List.cons.injEq, and_true] at h1
    subst h1
    exact ⟨y, rfl, h2⟩
  | y :: z :: r, h =>
    obtain ⟨v', vs', h1, h2, h3⟩ := opds_cons h
    obtain ⟨v'', vs'', h4, h5, h6⟩ := opds_cons h3
    subst h4
    simp at h1

theorem opds_two {args : Array Operand} {v1 v2 : Val} (h : opds get args.toList = some [v1, v2]) : ∃ y z, args = #[y, z] ∧ opd get y = some v1 ∧ opd get z = some v2 := by
  obtain ⟨l⟩ := args
  simp only at h
  match l, h with
  | [], h => simp [opds] at h
  | [y], h =>
    obtain ⟨v', vs', h1, h2, h3⟩ := opds_cons h
    have := opds_nil h3
    subst this
    simp at h1
  | [y, z], h => exact ⟨y, z, rfl, (two_opds h).1, (two_opds h).2⟩
  | y :: z :: q :: r, h =>
    obtain ⟨v', vs', h1, h2, h3⟩ := opds_cons h
    obtain ⟨v'', vs'', h4, h5, h6⟩ := opds_cons h3
    obtain ⟨v3, vs3, h7, h8, h9⟩ := opds_cons h6
    subst h7
    subst h4
    simp at h1

theorem sound_len {c0 : Call} (hty : ∀ t, x.ty t = tyOf P t) (hb : Begin n e a w G get o) (ho : o.op = .call c0) (hcb : c0.callee = .builtin .len) (hat : (c0.argTypes[0]?).isSome = true) {c : C}
    (hc : opds get c0.args.toList = some [(.one, [c])]) (hfit : fitsTy (x.ty (c0.argTypes.getD 0 0)) c = true) {m : Nat} (hm : lenC get c = some m)
    (h : some (Tr.lay { get, d := o.dst } o.dst (.one, [.dat (.int .i64) (m : Int)])).ws = some ws) : Sound P n e a w G o ws := by
  obtain ⟨y, hargs, hy⟩ := opds_one hc
  obtain ⟨L, h1, _⟩ := hb.one (by simp [ho, Op.operands, Call.operands, hcb, hargs]) hy
  obtain ⟨G', hp⟩ := hb.cell (int_ok e w G .i64 (m : Int)) rfl h
  refine Sound.value ?_ hp
  obtain ⟨t0, ht0⟩ := Option.isSome_iff_exists.1 hat
  have hgd : c0.argTypes.getD 0 0 = t0 := by simp only [Array.getD_eq_getD_getElem?, ht0, Option.getD_some]
  rw [hty, hgd] at hfit
  simp only [execOp, ho, resolve, hcb, hargs, Sem.run_bind, Sem.run_pure, Result.andThen_ok, invoke, builtin]
  have : (Builtin.len_ c0.argTypes o.type (#[y].map a.eval)).run P w = .ok (.int .i64 (m : Int)) w := by
    have hm1 : (#[y].map a.eval)[0]? = some (a.eval y) := by simp
    simp only [Builtin.len_, ht0, hm1]
    rcases len_ok hb.inv hb.sees h1 hm with ⟨s, h2, h3, l, h4⟩ | ⟨b, cap, h2, h3⟩
    · rw [h4] at hfit
      simp only [h2, Sem.run_bind, run_und (fits_str hfit), Result.andThen_ok, Sem.run_pure, goInt, h3]
    · obtain ⟨el, hel⟩ := fits_slice hfit h3
      simp only [h2, Sem.run_bind, run_und hel, Result.andThen_ok, Sem.run_pure, goInt]
  rw [this]
  rfl

end ops

end Go.Mach
