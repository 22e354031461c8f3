/- The machine, parts Mj Mk Ml Mm Mn Mo. No condition: definitions and lemmas. -/
import Derived.Test.YthchcnfkgjmabaaGreatXB
import Derived.Laws.CopyRow
import Derived.Laws.Entries
import Derived.Laws.Strings
import Derived.Laws.Concat
import Derived.Laws.Slices
import Derived.Laws.Strings2
import Derived.Laws.MakeOwn
import Derived.Laws.OwnMore
import Derived.Laws.IdiomCopy
import Derived.Laws.BytesArg
import Derived.Laws.IdiomStrings
import Derived.Laws.AppendOwn
/- The machine, part j: operations that compute and read. No condition: lemmas. -/
namespace Go.Mach
set_option linter.unusedVariables false
set_option linter.unusedSimpArgs false

/-! ### Types -/
theorem ty_slice {P : Program} {t e : Nat} (h : (tyOf P t).d = .slice e) : P.underlying t = some (.slice e) := by
  unfold tyOf at h
  split at h
  · simp only [tyD] at h
    split at h <;> simp_all
  · simp at h

theorem ty_arr {P : Program} {t m e : Nat} (h : (tyOf P t).d = .arr m e) : P.underlying t = some (.array m e) := by
  unfold tyOf at h
  split at h
  · simp only [tyD] at h
    split at h <;> simp_all
  · simp at h

theorem ty_struct {P : Program} {t : Nat} {fs : List (Nat × Nat)} (h : (tyOf P t).d = .struct fs) : ∃ fields, P.underlying t = some (.struct fields) ∧ fs = fields.toList.map fun f => (f.offset, f.type) := by
  unfold tyOf at h
  split at h
  · simp only [tyD] at h
    split at h <;> simp_all
  · simp at h

theorem ty_info {P : Program} {t : Nat} {d : TypeDesc} (h : P.underlying t = some d) : ∃ i, P.info? t = some i := by
  unfold Program.underlying at h
  cases hi : P.info? t with
  | none => rw [hi] at h; simp at h
  | some i => exact ⟨i, rfl⟩

theorem ty_size {P : Program} {t : Nat} {i : TypeInfo} (h : P.info? t = some i) : (tyOf P t).size = i.size ∧ P.cellsOf t = i.size ∧ (tyOf P t).bytes = i.bytes ∧ (tyOf P t).zero = i.zero := by
  simp [tyOf, h, Program.cellsOf]

theorem ty_k {P : Program} {t : Nat} {k : K} (h : (tyOf P t).k = some k) : ∃ i, P.info? t = some i ∧ i.size = k.size := by
  unfold tyOf at h
  cases hi : P.info? t with
  | none => rw [hi] at h; simp at h
  | some i =>
    rw [hi] at h
    simp only at h
    split at h
    · split at h
      · rename_i q
        simp only [Option.some.injEq] at h
        subst h
        exact ⟨i, rfl, q.symm⟩
      · simp at h
    · simp at h

theorem ty_size_info {P : Program} {t : Nat} (h : (tyOf P t).size ≠ 0) : ∃ i, P.info? t = some i := by
  cases hi : P.info? t with
  | none => simp [tyOf, hi] at h
  | some i => exact ⟨i, rfl⟩

theorem ty_ok {P : Program} {t : Nat} (h : (tyOf P t).ok = true) : ∃ i d, P.info? t = some i ∧ P.underlying t = some d ∧ ((tyOf P t).agg = false → i.size = 1) ∧ (isAgg t).run P = fun w => .ok (tyOf P t).agg w := by
  cases hi : P.info? t with
  | none => simp [tyOf, hi] at h
  | some i =>
    cases hu : P.underlying t with
    | none => simp [tyOf, hi, hu] at h
    | some d =>
      refine ⟨i, d, rfl, rfl, fun ha => ?_, ?_⟩
      · cases d <;> simp_all [tyOf, Ti.agg, tyD]
      · funext w
        have hd : (tyOf P t).d = tyD P t := by simp [tyOf, hi]
        simp only [isAgg, Sem.run_bind, Go.run_underlying hu, Result.andThen_ok, Ti.agg, hd, tyD, hu]
        cases d <;> rfl

theorem run_size {P : Program} {t : Nat} {i : TypeInfo} (h : P.info? t = some i) (w : World) : (sizeOf t).run P w = .ok (tyOf P t).size w := by
  rw [(ty_size h).1]
  simp [sizeOf, typeInfo, program, Sem.run_bind, h, Sem.run]

theorem run_und {P : Program} {t : Nat} {d : TypeDesc} (h : P.underlying t = some d) (w : World) : (underlying t).run P w = .ok d w := Go.run_underlying h w

theorem run_v {P : Program} {s : Sem Value} {w w' : World} {u : Value} (h : s.run P w = .ok u w') : (do pure (Next.value (← s)) : Sem Next).run P w = .ok (.value u) w' := by
  rw [Sem.run_bind, h]
  rfl

section ops
variable {P : Program} {n : Nat} {e : Env} {a : Act} {w : World} {G : Gh} {get : Nat → Slot} {o : Oper} {x : Ctx} {ws : Writes}

theorem nilCheck_ptr {y : Operand} (hb : Begin n e a w G get o) (ho : o.op = .nilCheck y) {c : C} (hc : opd get y = some (.one, [c])) {b : Addr} (hv : a.eval y = .pointer (some b))
    (h : some (Tr.lay { get, d := o.dst } o.dst (.one, [c])).ws = some ws) : Sound P n e a w G o ws := by
  obtain ⟨vs, Ls, hval⟩ := hb.opd (by simp [ho, Op.operands]) hc
  obtain ⟨G', hp⟩ := hb.done hval h
  refine Sound.value ?_ hp
  simp only [execOp, ho, hv]
  rfl

theorem bytes_list (l : List UInt8) : ByteArray.toList ⟨⟨l⟩⟩ = l := by
  have := ByteArray.toList_loop_eq ⟨⟨l⟩⟩ _ 0 [] rfl (Nat.zero_le _)
  rw [ByteArray.toList, this]
  simp

theorem bytes_append (l m : List UInt8) : (⟨⟨l⟩⟩ : ByteArray) ++ ⟨⟨m⟩⟩ = ⟨⟨l ++ m⟩⟩ := by
  exact ByteArray.mk_append_mk l m

theorem bytes_size (l : List UInt8) : ByteArray.size ⟨⟨l⟩⟩ = l.length := rfl

theorem ty_bool {P : Program} {t : Nat} (h : (tyOf P t).isB = true) : P.underlying t = some .bool := by
  unfold tyOf at h
  split at h
  · simp only at h
    split at h
    · assumption
    · simp at h
  · simp at h

theorem ty_str {P : Program} {t : Nat} (h : (tyOf P t).isS = true) : P.underlying t = some .string := by
  unfold tyOf at h
  split at h
  · simp only at h
    split at h
    · assumption
    · simp at h
  · simp at h

theorem run_eqIn_bool {P : Program} {t : Nat} (hu : P.underlying t = some .bool) (w : World) (d : Nat) (p q : Bool) : (Op.equalIn (d + 1) t (.bool p) (.bool q)).run P w = .ok (p == q) w := by
  rw [Op.equalIn.eq_def]
  simp only [Sem.run_bind, run_und hu, Result.andThen_ok]
  rfl

theorem run_eq_bool {P : Program} {t : Nat} (hu : P.underlying t = some .bool) (w : World) (p q : Bool) : (Op.equal t (.bool p) (.bool q)).run P w = .ok (p == q) w := run_eqIn_bool hu w 9999 p q

theorem bin_ok {op : BinOp} {c d c' : C} {u v : Value} {L M : LT} (hc : CellOk e w G c u L) (hd : CellOk e w G d v M) (t : TypeId) {tk : Bool} (ht : tk = true → P.underlying t = some .bool) (h : bin tk op c d = some c') (y z : Operand) :
    ∃ r, (do eqGuard op t y z u v; binOp op t u v : Sem Value).run P w = .ok r w ∧ CellOk e w G c' r .leaf ∧ c'.isOwn = false := by
  unfold bin at h
  split at h
  · rename_i k p k' q
    rw [dat_int hc, dat_int hd]
    split at h
    · simp only [shiftI] at h
      split at h
      · simp at h
      · rename_i hq
        simp only [Option.some.injEq] at h
        subst h
        exact ⟨_, by simp [eqGuard, binOp, Op.shift, hq, Sem.run_bind], int_ok _ _ _ _ _, rfl⟩
    · simp only [shiftI] at h
      split at h
      · simp at h
      · rename_i hq
        simp only [Option.some.injEq] at h
        subst h
        exact ⟨_, by simp [eqGuard, binOp, Op.shift, hq, Sem.run_bind], int_ok _ _ _ _ _, rfl⟩
    · split at h
      · rename_i hk
        subst hk
        cases op <;> simp only [binI] at h <;> try (simp at h; done)
        all_goals try (split at h <;> try (simp at h; done))
        all_goals (simp only [Option.some.injEq] at h; subst h)
        all_goals first
          | exact ⟨_, by simp [eqGuard, binOp, Op.intArith, Op.intDiv, Op.intBits, Op.intCmp, Sem.run_bind, *], int_ok _ _ _ _ _, rfl⟩
          | exact ⟨_, by simp [eqGuard, binOp, Op.intArith, Op.intDiv, Op.intBits, Op.intCmp, Sem.run_bind, *]; rfl, bool_ok _ _ _ _, rfl⟩
          | exact ⟨_, by simp [eqGuard, binOp, Op.intArith, Op.intDiv, Op.intBits, Op.intCmp, Sem.run_bind, *], bool_ok _ _ _ _, rfl⟩
      · simp at h
  · rename_i p q
    rw [dat_bool hc, dat_bool hd]
    split at h
    · rename_i hk
      have hu := ht hk
      have he := run_eq_bool (P := P) hu w
      cases op <;> simp only [binB] at h <;> try (simp at h; done)
      all_goals (simp only [Option.some.injEq] at h; subst h)
      · exact ⟨_, by simp [eqGuard, binOp, Sem.run_bind, he], bool_ok _ _ _ _, rfl⟩
      · exact ⟨_, by simp [eqGuard, binOp, Sem.run_bind, he], bool_ok _ _ _ _, rfl⟩
    · simp at h
  · rename_i p q
    rw [dat_str hc, dat_str hd]
    cases op <;> simp only [binS] at h <;> try (simp at h; done)
    · split at h
      · rename_i hl
        simp only [Option.some.injEq] at h
        subst h
        refine ⟨_, ?_, str_ok _ _ _ _, rfl⟩
        have : ¬ (((⟨⟨p⟩⟩ : ByteArray).size + (⟨⟨q⟩⟩ : ByteArray).size : Nat) : Int) > IntKind.i64.max := by
          rw [bytes_size, bytes_size]
          simp only [strMost] at hl
          have : IntKind.i64.max = 9223372036854775807 := by decide
          rw [this]
          omega
        simp only [eqGuard, binOp, Op.stringOp, Sem.run_bind, if_neg this, bytes_append]
        rfl
      · simp at h
    all_goals (simp only [Option.some.injEq] at h; subst h)
    · exact ⟨_, by simp only [eqGuard, binOp, Op.stringOp, bytes_list, Sem.run_bind]; rfl, bool_ok _ _ _ _, rfl⟩
    · exact ⟨_, by simp only [eqGuard, binOp, Op.stringOp, bytes_list, Sem.run_bind]; rfl, bool_ok _ _ _ _, rfl⟩
  · simp at h

theorem un_ok {op : UnOp} {c c' : C} {u : Value} {L : LT} (hc : CellOk e w G c u L) (h : un op c = some c') : ∃ r, (Op.unary op u).run P w = .ok r w ∧ CellOk e w G c' r .leaf ∧ c'.isOwn = false := by
  unfold un at h
  split at h
  · simp only [Option.some.injEq] at h
    subst h
    rw [dat_bool hc]
    exact ⟨_, rfl, bool_ok _ _ _ _, rfl⟩
  · simp only [Option.some.injEq] at h
    subst h
    rw [dat_int hc]
    exact ⟨_, rfl, int_ok _ _ _ _ _, rfl⟩
  · simp at h

end ops

end Go.Mach
/- The machine, part k: operations that compute and read, one by one. No condition: lemmas. -/
namespace Go.Mach
set_option linter.unusedVariables false
set_option linter.unusedSimpArgs false

section ops
variable {P : Program} {n : Nat} {e : Env} {a : Act} {w : World} {G : Gh} {get : Nat → Slot} {o : Oper} {x : Ctx} {ws : Writes}

theorem Begin.cell {c : C} {v : Value} {L : LT} (hb : Begin n e a w G get o) (hc : CellOk e w G c v L) (hno : c.isOwn = false) (h : some (Tr.lay { get, d := o.dst } o.dst (.one, [c])).ws = some ws) :
    ∃ G', Post n (e.puts ws) a w G (a.put o.dst v) w G' := hb.done (one_ok hc hno) h

theorem sound_binOp {op : BinOp} {ty yt : TypeId} {y z : Operand} (hty : ∀ t, x.ty t = tyOf P t) (hb : Begin n e a w G get o) (ho : o.op = .binOp op ty y z yt)
    (hagg : ∀ cs ds, opd get y = some (.agg, cs) → opd get z = some (.agg, ds) → Sound P n e a w G o ws) (h : act x get o = some ws) : Sound P n e a w G o ws := by
  simp only [act, ho] at h
  split at h
  · rename_i c d hc hd
    split at h
    · rename_i c' hbin
      obtain ⟨L, h1, _⟩ := hb.one (by simp [ho, Op.operands]) hc
      obtain ⟨M, h2, _⟩ := hb.one (by simp [ho, Op.operands]) hd
      obtain ⟨r, h3, h4, h5⟩ := bin_ok (P := P) h1 h2 ty (fun q => ty_bool (by rw [hty] at q; exact q)) hbin y z
      obtain ⟨G', hp⟩ := hb.cell h4 h5 h
      refine Sound.value ?_ hp
      simp only [execOp, ho]
      exact run_v h3
    · simp at h
  · rename_i cs ds hc hd
    exact hagg cs ds hc hd
  · simp at h

theorem sound_unOp {op : UnOp} {ty : TypeId} {y : Operand} (hb : Begin n e a w G get o) (ho : o.op = .unOp op ty y) (h : act x get o = some ws) : Sound P n e a w G o ws := by
  simp only [act, ho] at h
  split at h
  · rename_i c hc
    split at h
    · rename_i c' hun
      obtain ⟨L, h1, _⟩ := hb.one (by simp [ho, Op.operands]) hc
      obtain ⟨r, h3, h4, h5⟩ := un_ok (P := P) h1 hun
      obtain ⟨G', hp⟩ := hb.cell h4 h5 h
      refine Sound.value ?_ hp
      simp only [execOp, ho]
      exact run_v h3
    · simp at h
  · simp at h

theorem ptr_val {c : C} {v : Value} {L : LT} (hc : CellOk e w G c v L) (hp : c.isPtr = true) : IsPtr v := by
  cases c with
  | bptr s bv j => exact hc.2.2
  | aptr s j rv sv p i c k => exact hc.1
  | pim cs j =>
    obtain ⟨b', o1, vs, Ls, h1, _⟩ := hc
    exact ⟨_, _, h1⟩
  | _ => simp [C.isPtr] at hp

theorem sound_nilCheck {y : Operand} (hb : Begin n e a w G get o) (ho : o.op = .nilCheck y) (h : act x get o = some ws) : Sound P n e a w G o ws := by
  simp only [act, ho] at h
  split at h
  · rename_i s bv j hc
    obtain ⟨L, h1, _⟩ := hb.one (by simp [ho, Op.operands]) hc
    obtain ⟨b, o', hv⟩ := ptr_val h1 rfl
    exact nilCheck_ptr hb ho hc hv h
  · rename_i hc
    obtain ⟨L, h1, _⟩ := hb.one (by simp [ho, Op.operands]) hc
    obtain ⟨b, o', hv⟩ := ptr_val h1 rfl
    exact nilCheck_ptr hb ho hc hv h
  · rename_i cs j hc
    obtain ⟨L, h1, _⟩ := hb.one (by simp [ho, Op.operands]) hc
    obtain ⟨b, o', hv⟩ := ptr_val h1 rfl
    exact nilCheck_ptr hb ho hc hv h
  · rename_i f cs hc
    obtain ⟨vs, Ls, hval⟩ := hb.opd (by simp [ho, Op.operands]) hc
    obtain ⟨L, h1, _⟩ := hb.one (by simp [ho, Op.operands]) hc
    obtain ⟨us, Ls', hv, _⟩ := h1
    obtain ⟨G', hp⟩ := hb.done hval h
    refine Sound.value ?_ hp
    simp only [execOp, ho, hv]
    rfl
  · simp at h

/-! ### Addresses -/
theorem addr_add (b o m : Nat) : (⟨b, o, none⟩ : Addr).add m = ⟨b, o + m, none⟩ := by
  unfold Addr.add
  split <;> simp_all

theorem run_fieldPlace {t : Nat} {f : Field} {i : TypeInfo} (hi : P.info? f.type = some i) (hs : (tyOf P f.type).size ≠ 0) (b o' : Nat) (w : World) : (fieldPlace ⟨b, o', none⟩ f).run P w = .ok ⟨b, o' + f.offset, none⟩ w := by
  simp only [fieldPlace, Sem.run_bind, run_size hi, Result.andThen_ok, if_neg hs, addr_add]
  rfl

theorem run_fieldAt {t f off ft : Nat} {d : List (Nat × Nat)} (hd : (tyOf P t).d = .struct d) (hf : d[f]? = some (off, ft)) (hs : (tyOf P ft).size ≠ 0) (b o' : Nat) (w : World) :
    (Instr.fieldAt t (.pointer (some ⟨b, o', none⟩)) f).run P w = .ok (.pointer (some ⟨b, o' + off, none⟩)) w := by
  obtain ⟨fields, h1, rfl⟩ := ty_struct hd
  rw [List.getElem?_map] at hf
  cases hq : fields.toList[f]? with
  | none => rw [hq] at hf; simp at hf
  | some fl =>
    rw [hq] at hf
    simp only [Option.map_some, Option.some.injEq, Prod.mk.injEq] at hf
    obtain ⟨rfl, rfl⟩ := hf
    have hq' : fields[f]? = some fl := by simpa using hq
    obtain ⟨i, hi⟩ := ty_size_info hs
    simp only [Instr.fieldAt, Sem.run_bind, run_und h1, Result.andThen_ok, hq', Instr.sureAddr, Sem.run_pure, run_fieldPlace (t := t) hi hs]

theorem addC_ok {off : Nat} {c c' : C} {v : Value} {L : LT} (hc : CellOk e w G c v L) (h : addC off c = some c') {b o' : Nat} (hv : v = .pointer (some ⟨b, o', none⟩)) :
    CellOk e w G c' (.pointer (some ⟨b, o' + off, none⟩)) L ∧ c'.isOwn = false := by
  cases c with
  | bptr s bv j =>
    simp only [addC, Option.some.injEq] at h
    subst h
    obtain ⟨h1, h2, _⟩ := hc
    refine ⟨⟨h1, fun hb => ?_, _, _, rfl⟩, rfl⟩
    have := h2 hb
    rw [hv] at this
    simp only [Value.pointer.injEq, Option.some.injEq, Addr.mk.injEq, and_true] at this
    obtain ⟨rfl, rfl⟩ := this
    rfl
  | aptr s j rv sv p i c k =>
    simp only [addC, Option.some.injEq] at h
    subst h
    obtain ⟨_, h1, h2, h3⟩ := hc
    refine ⟨⟨⟨_, _, rfl⟩, h1, h2, fun sv' d k0 l0 q1 q2 => ?_⟩, rfl⟩
    obtain ⟨m, b', off', cap, q3, q4, q5⟩ := h3 sv' d k0 l0 q1 q2
    refine ⟨m, b', off', cap, q3, q4, ?_⟩
    rw [hv] at q5
    simp only [Value.pointer.injEq, Option.some.injEq, Addr.mk.injEq, and_true] at q5
    obtain ⟨rfl, rfl⟩ := q5
    simp [Nat.add_assoc]
  | pim cs j =>
    simp only [addC, Option.some.injEq] at h
    subst h
    obtain ⟨b', o1, vs, Ls, h1, h2, h3, h4, h5, h6⟩ := hc
    rw [hv] at h1
    simp only [Value.pointer.injEq, Option.some.injEq, Addr.mk.injEq, and_true] at h1
    obtain ⟨rfl, rfl⟩ := h1
    exact ⟨⟨b, o1, vs, Ls, by simp [Nat.add_assoc], h2, h3, h4, h5, h6⟩, rfl⟩
  | _ => simp [addC] at h

theorem sound_fieldAddr {ty : TypeId} {y : Operand} {f : Nat} (hty : ∀ t, x.ty t = tyOf P t) (hb : Begin n e a w G get o) (ho : o.op = .fieldAddr ty y f) (h : act x get o = some ws) : Sound P n e a w G o ws := by
  simp only [act, ho] at h
  split at h
  · rename_i c off ft hc hf
    split at h
    · simp at h
    · rename_i hs
      split at h
      · rename_i c' hadd
        obtain ⟨L, h1, _⟩ := hb.one (by simp [ho, Op.operands]) hc
        obtain ⟨b, o', hv⟩ := ptr_val h1 (by cases c <;> simp_all [addC, C.isPtr])
        obtain ⟨h2, h3⟩ := addC_ok h1 hadd hv
        obtain ⟨G', hpost⟩ := hb.cell h2 h3 h
        refine Sound.value ?_ hpost
        simp only [execOp, ho, hv]
        simp only [fieldOf, hty] at hf
        split at hf
        · rename_i fs hd
          exact run_v (run_fieldAt hd hf (by rw [← hty]; exact hs) b o' w)
        · simp at hf
      · simp at h
  · simp at h

/-- A part of a struct's cells. -/
theorem run_part {t : Nat} (hok : (tyOf P t).ok = true) (vs : List Value) (off : Nat) (hl : off + (tyOf P t).size ≤ vs.length) (w : World) :
    (part t vs.toArray off).run P w = .ok (form (partShape (tyOf P t)) ((vs.drop off).take (tyOf P t).size)) w := by
  obtain ⟨i, d, hi, hu, h1, hag⟩ := ty_ok hok
  have hag := congrFun hag w
  have hsz := (ty_size hi).1
  simp only [part, Sem.run_bind, hag, Result.andThen_ok]
  cases hh : (tyOf P t).agg with
  | true =>
    simp only [if_true, Sem.run_bind, run_size hi, Result.andThen_ok, Sem.run_pure, partShape, hh, form]
    congr 2
    apply Array.ext'
    simp [List.extract_eq_take_drop]
  | false =>
    have h1 := h1 hh
    rw [hsz, h1] at hl ⊢
    have hx : vs.toArray[off]? = some (vs[off]'(by omega)) := by simp
    have h2 : (vs.drop off).take 1 = [vs[off]'(by omega)] := by rw [List.drop_eq_getElem_cons (by omega)]; rfl
    simp only [Bool.false_eq_true, if_false, hx, Sem.run_pure, partShape, hh, form, hsz, h1, h2, List.headD_cons]

theorem partShape_box (t : Ti) (bv : Nat) : partShape t ≠ .box bv := by unfold partShape; split <;> simp
theorem partShape_dead (t : Ti) : partShape t ≠ .dead := by unfold partShape; split <;> simp

theorem run_field {t f off ft : Nat} {d : List (Nat × Nat)} (hd : (tyOf P t).d = .struct d) (hf : d[f]? = some (off, ft)) (hok : (tyOf P ft).ok = true) (vs : List Value) (hl : off + (tyOf P ft).size ≤ vs.length) (w : World) :
    (Instr.field t (.agg vs.toArray) f).run P w = .ok (form (partShape (tyOf P ft)) ((vs.drop off).take (tyOf P ft).size)) w := by
  obtain ⟨fields, h1, rfl⟩ := ty_struct hd
  rw [List.getElem?_map] at hf
  cases hq : fields.toList[f]? with
  | none => rw [hq] at hf; simp at hf
  | some fl =>
    rw [hq] at hf
    simp only [Option.map_some, Option.some.injEq, Prod.mk.injEq] at hf
    obtain ⟨rfl, rfl⟩ := hf
    have hq' : fields[f]? = some fl := by simpa using hq
    simp only [Instr.field, Sem.run_bind, run_und h1, Result.andThen_ok, hq', asAgg, Sem.run_pure, run_part hok vs fl.offset hl]

theorem sound_field {ty : TypeId} {y : Operand} {f : Nat} (hty : ∀ t, x.ty t = tyOf P t) (hb : Begin n e a w G get o) (ho : o.op = .field ty y f) (h : act x get o = some ws) : Sound P n e a w G o ws := by
  simp only [act, ho] at h
  split at h
  · rename_i cs off ft hc hf
    split at h
    · rename_i hl
      obtain ⟨vs, Ls, hval⟩ := hb.opd (by simp [ho, Op.operands]) hc
      simp only [fieldOf, hty] at hf
      split at hf
      · rename_i fs hd
        rw [hty] at hl h
        have hfm := hval.form
        simp only [form] at hfm
        have hcells : ValOk e w G (partShape (tyOf P ft), (cs.drop off).take (tyOf P ft).size) (form (partShape (tyOf P ft)) ((vs.drop off).take (tyOf P ft).size)) ((vs.drop off).take (tyOf P ft).size) (fun j => Ls (off + j)) :=
          ⟨(hval.cells.drop off).take _, rfl, fun c hc => hval.noOwn c (List.mem_of_mem_drop (List.mem_of_mem_take hc)), partShape_box _, partShape_dead _⟩
        obtain ⟨G', hp⟩ := hb.done hcells h
        refine Sound.value ?_ hp
        simp only [execOp, ho, hfm]
        refine run_v (run_field hd hf hl.1 vs ?_ w)
        rw [hval.cells.len]
        exact hl.2
      · simp at hf
    · simp at h
  · simp at h

theorem nat_of {i : C} {m : Nat} {v : Value} {L : LT} (hm : natOf i = some m) (h : CellOk e w G i v L) : ∃ k, v = .int k (m : Int) := by
  cases i with
  | dat k q =>
    cases k with
    | int ik =>
      have hq := dat_int h
      simp only [natOf] at hm
      split at hm
      · rename_i hq0
        simp only [Option.some.injEq] at hm
        subst hm
        exact ⟨ik, by rw [hq]; congr 1; exact (Int.toNat_of_nonneg hq0).symm⟩
      · simp at hm
    | _ => simp [natOf] at hm
  | _ => simp [natOf] at hm

theorem sound_index {ty : TypeId} {y z : Operand} (hty : ∀ t, x.ty t = tyOf P t) (hb : Begin n e a w G get o) (ho : o.op = .index ty y z) (h : act x get o = some ws) : Sound P n e a w G o ws := by
  simp only [act, ho] at h
  split at h
  · simp at h
  · rename_i hs
    have hstr : P.underlying ty = some .string := ty_str (by rw [← hty]; simpa using hs)
    split at h
    · rename_i s i hc hi
      split at h
      · rename_i m hm
        split at h
        · rename_i hlt
          obtain ⟨L, h1, _⟩ := hb.one (by simp [ho, Op.operands]) hc
          obtain ⟨M, h2, _⟩ := hb.one (by simp [ho, Op.operands]) hi
          have hs := dat_str h1
          obtain ⟨ik, hq⟩ := nat_of hm h2
          obtain ⟨G', hp⟩ := hb.cell (int_ok e w G .u8 (((s.getD m 0).toNat : Nat) : Int)) rfl h
          refine Sound.value ?_ hp
          simp only [execOp, ho, hs, hq]
          apply run_v
          have hg : (⟨⟨s⟩⟩ : ByteArray)[m]? = some (s.getD m 0) := by
            rw [getElem?_pos _ _ (by simpa [bytes_size] using hlt)]
            simp only [List.getD_eq_getElem?_getD, List.getElem?_eq_getElem hlt, Option.getD_some, Option.some.injEq]
            rfl
          have h0 : (0 : Int) ≤ (m : Int) := by omega
          simp only [Instr.index, asIntOf, Sem.run_bind, Sem.run_pure, Result.andThen_ok, run_und hstr, if_pos h0, Int.toNat_natCast, hg]
        · simp at h
      · simp at h
    · simp at h

/-! ### Leaves and paths -/
theorem leaves_length : ∀ (k : K) (x : k.T), (leaves k x).length = k.size
  | .int _, _ => rfl
  | .bool, _ => rfl
  | .str, _ => rfl
  | .list _, _ => rfl
  | .pair a b, x => by simp [leaves, K.size, leaves_length a, leaves_length b]

theorem leaves_get : ∀ (k : K) (x : k.T) (c : Nat), c < k.size → (leaves k x)[c]? = some (leafV k x c)
  | .int _, _, c, h => by simp only [K.size] at h; obtain rfl : c = 0 := by omega
                          rfl
  | .bool, _, c, h => by simp only [K.size] at h; obtain rfl : c = 0 := by omega
                         rfl
  | .str, _, c, h => by simp only [K.size] at h; obtain rfl : c = 0 := by omega
                        rfl
  | .list _, _, c, h => by simp only [K.size] at h; obtain rfl : c = 0 := by omega
                           rfl
  | .pair a b, x, c, h => by
    simp only [K.size] at h
    simp only [leaves, leafV]
    by_cases hlt : c < a.size
    · rw [List.getElem?_append_left (by rw [leaves_length]; exact hlt), leaves_get a _ _ hlt, if_pos hlt]
    · rw [List.getElem?_append_right (by rw [leaves_length]; omega), leaves_length, leaves_get b _ _ (by omega), if_neg hlt]

theorem path_snoc : ∀ (p : Path) (k : K) (l : List k.T) (L : LT) (i c : Nat) {k1 : K} {l1 : List k1.T} {k2 : K} {l2 : List k2.T}, PathOk k l p → getP k l p = ⟨k1, l1⟩ → i < l1.length → c < k1.size →
    leafV k1 (l1.getD i k1.dflt) c = ⟨.list k2, l2⟩ → PathOk k l (p ++ [(i, c)]) ∧ getP k l (p ++ [(i, c)]) = ⟨k2, l2⟩ ∧
    ∀ b off cap rows, subL k L p = .node b off cap rows → subL k L (p ++ [(i, c)]) = leafL k1 (rows.getD i .leaf) c
  | [], k, l, L, i, c, k1, l1, k2, l2, hp, hg, hi, hc, hl => by
    rw [getP_nil] at hg
    simp only [Sigma.mk.injEq] at hg
    obtain ⟨rfl, hg⟩ := hg
    have hg := eq_of_heq hg
    subst hg
    refine ⟨?_, ?_, fun b off cap rows hL => ?_⟩
    · simp only [List.nil_append, PathOk, hl]
      exact ⟨hi, hc, trivial⟩
    · simp only [List.nil_append, getP, hl]
    · simp only [subL] at hL
      subst hL
      simp only [List.nil_append, subL, leafV_list hl]
  | (i0, c0) :: p, k, l, L, i, c, k1, l1, k2, l2, hp, hg, hi, hc, hl => by
    simp only [PathOk] at hp
    obtain ⟨a1, a2, hp⟩ := hp
    cases hl0 : leafV k (l.getD i0 k.dflt) c0 with
    | mk kk y =>
      rw [hl0] at hp
      cases kk with
      | list k' =>
        simp only at hp
        have hg' : getP k' y p = ⟨k1, l1⟩ := by rw [← hg]; simp only [getP, hl0]
        obtain ⟨b1, b2, _⟩ := path_snoc p k' y .nil i c hp hg' hi hc hl
        refine ⟨?_, ?_, fun b off cap rows hL => ?_⟩
        · simp only [List.cons_append, PathOk, hl0]
          exact ⟨a1, a2, b1⟩
        · simp only [List.cons_append, getP, hl0, b2]
        · have hk := leafV_list hl0
          cases L with
          | node b0 off0 cap0 rows0 =>
            simp only [subL, hk] at hL
            obtain ⟨_, _, b3⟩ := path_snoc p k' y (leafL k (rows0.getD i0 .leaf) c0) i c hp hg' hi hc hl
            simp only [List.cons_append, subL, hk]
            exact b3 b off cap rows hL
          | _ => simp [subL] at hL
      | _ => exact hp.elim

/-! ### Lengths -/
theorem len_ok {c : C} {m : Nat} {v : Value} {L : LT} (hinv : Inv n e a.tmps w G) (hs : Sees get e) (hc : CellOk e w G c v L) (h : lenC get c = some m) :
    (∃ s, v = .string s ∧ s.size = m ∧ ∃ l, c = .dat .str l) ∨ (∃ b cap, v = .slice b m cap ∧ ∀ l, c ≠ .dat .str l) := by
  cases c with
  | nil =>
    simp only [lenC, Option.some.injEq] at h
    subst h
    exact .inr ⟨none, 0, hc, by simp⟩
  | dat k y =>
    cases k with
    | list k =>
      simp only [lenC, Option.some.injEq] at h
      subst h
      obtain ⟨h1, _⟩ := hc
      simp only [Rep] at h1
      obtain ⟨u, hu, h1⟩ := h1
      simp only [List.cons.injEq, and_true] at hu
      subst hu
      right
      rcases h1 with ⟨_, h2, b, cap, h3, _⟩ | ⟨b, off, cap, rows, _, h2, _⟩
      · exact ⟨b, cap, by rw [h3, h2]; rfl, by simp⟩
      · exact ⟨_, cap, h2, by simp⟩
    | str =>
      simp only [lenC, Option.some.injEq] at h
      subst h
      exact .inl ⟨_, dat_str hc, rfl, y, rfl⟩
    | _ => simp [lenC] at h
  | ref s j rv sv p lo hi k =>
    simp only [lenC] at h
    cases hcon : content get s j rv sv p k with
    | none => rw [hcon] at h; simp at h
    | some q =>
      obtain ⟨d, l⟩ := q
      rw [hcon] at h
      simp only [Option.map_some, Option.some.injEq] at h
      obtain ⟨sv', k0, l0, h1, h2, h3⟩ := content_ok hs hcon
      obtain ⟨g1, g2, g3, g4⟩ := ref_reads hinv hc h1 h2 h3
      right
      rcases g3 with ⟨_, h2, b, cap, h3, _⟩ | ⟨b, off, cap, rows, _, h2, _⟩
      · exact ⟨b, cap, by rw [h3, ← h, h2]; rfl, by simp⟩
      · exact ⟨_, cap, by rw [h2, h], by simp⟩
  | _ => simp [lenC] at h

theorem fits_slice {t : Nat} {c : C} (h : fitsTy (tyOf P t) c = true) (hc : ∀ l, c ≠ .dat .str l) : ∃ el, P.underlying t = some (.slice el) := by
  have key : (match (tyOf P t).d with | .slice _ => true | _ => false) = true → ∃ el, P.underlying t = some (.slice el) := by
    intro h
    split at h
    · rename_i el q
      exact ⟨el, ty_slice q⟩
    · simp at h
  cases c with
  | dat k l =>
    cases k with
    | str => exact absurd rfl (hc l)
    | _ => exact key h
  | _ => exact key h

theorem fits_str {t : Nat} {l : List UInt8} (h : fitsTy (tyOf P t) (.dat .str l) = true) : P.underlying t = some .string := ty_str h

theorem two_opds {y z : Operand} {v1 v2 : Val} (h : opds get [y, z] = some [v1, v2]) : opd get y = some v1 ∧ opd get z = some v2 := by
  simp only [opds] at h
  cases h1 : opd get y with
  | none => rw [h1] at h; simp at h
  | some q1 =>
    rw [h1] at h
    cases h2 : opd get z with
    | none => rw [h2] at h; simp at h
    | some q2 =>
      rw [h2] at h
      simp only [Option.some.injEq, List.cons.injEq, and_true] at h
      rw [h.1, h.2]
      exact ⟨rfl, rfl⟩

theorem opds_cons {y : Operand} {r : List Operand} {vs : List Val} (h : opds get (y :: r) = some vs) : ∃ v vs', vs = v :: vs' ∧ opd get y = some v ∧ opds get r = some vs' := by
  simp only [opds] at h
  cases h1 : opd get y with
  | none => rw [h1] at h; simp at h
  | some q1 =>
    rw [h1] at h
    cases h2 : opds get r with
    | none => rw [h2] at h; simp at h
    | some q2 =>
      rw [h2] at h
      simp only [Option.some.injEq] at h
      exact ⟨q1, q2, h.symm, rfl, rfl⟩

theorem opds_nil {vs : List Val} (h : opds get [] = some vs) : vs = [] := by simpa [opds] using h.symm

theorem opds_one {args : Array Operand} {v : Val} (h : opds get args.toList = some [v]) : ∃ y, args = #[y] ∧ opd get y = some v := by
  obtain ⟨l⟩ := args
  simp only at h
  match l, h with
  | [], h => simp [opds] at h
  | [y], h =>
    obtain ⟨v', vs', h1, h2, h3⟩ := opds_cons h
    have := opds_nil h3
    subst this
    simp only [List.cons.injEq, and_true] at h1
    subst h1
    exact ⟨y, rfl, h2⟩
  | y :: z :: r, h =>
    obtain ⟨v', vs', h1, h2, h3⟩ := opds_cons h
    obtain ⟨v'', vs'', h4, h5, h6⟩ := opds_cons h3
    subst h4
    simp at h1

theorem opds_two {args : Array Operand} {v1 v2 : Val} (h : opds get args.toList = some [v1, v2]) : ∃ y z, args = #[y, z] ∧ opd get y = some v1 ∧ opd get z = some v2 := by
  obtain ⟨l⟩ := args
  simp only at h
  match l, h with
  | [], h => simp [opds] at h
  | [y], h =>
    obtain ⟨v', vs', h1, h2, h3⟩ := opds_cons h
    have := opds_nil h3
    subst this
    simp at h1
  | [y, z], h => exact ⟨y, z, rfl, (two_opds h).1, (two_opds h).2⟩
  | y :: z :: q :: r, h =>
    obtain ⟨v', vs', h1, h2, h3⟩ := opds_cons h
    obtain ⟨v'', vs'', h4, h5, h6⟩ := opds_cons h3
    obtain ⟨v3, vs3, h7, h8, h9⟩ := opds_cons h6
    subst h7
    subst h4
    simp at h1

theorem sound_len {c0 : Call} (hty : ∀ t, x.ty t = tyOf P t) (hb : Begin n e a w G get o) (ho : o.op = .call c0) (hcb : c0.callee = .builtin .len) (hat : (c0.argTypes[0]?).isSome = true) {c : C}
    (hc : opds get c0.args.toList = some [(.one, [c])]) (hfit : fitsTy (x.ty (c0.argTypes.getD 0 0)) c = true) {m : Nat} (hm : lenC get c = some m)
    (h : some (Tr.lay { get, d := o.dst } o.dst (.one, [.dat (.int .i64) (m : Int)])).ws = some ws) : Sound P n e a w G o ws := by
  obtain ⟨y, hargs, hy⟩ := opds_one hc
  obtain ⟨L, h1, _⟩ := hb.one (by simp [ho, Op.operands, Call.operands, hcb, hargs]) hy
  obtain ⟨G', hp⟩ := hb.cell (int_ok e w G .i64 (m : Int)) rfl h
  refine Sound.value ?_ hp
  obtain ⟨t0, ht0⟩ := Option.isSome_iff_exists.1 hat
  have hgd : c0.argTypes.getD 0 0 = t0 := by simp only [Array.getD_eq_getD_getElem?, ht0, Option.getD_some]
  rw [hty, hgd] at hfit
  simp only [execOp, ho, resolve, hcb, hargs, Sem.run_bind, Sem.run_pure, Result.andThen_ok, invoke, builtin]
  have : (Builtin.len_ c0.argTypes o.type (#[y].map a.eval)).run P w = .ok (.int .i64 (m : Int)) w := by
    have hm1 : (#[y].map a.eval)[0]? = some (a.eval y) := by simp
    simp only [Builtin.len_, ht0, hm1]
    rcases len_ok hb.inv hb.sees h1 hm with ⟨s, h2, h3, l, h4⟩ | ⟨b, cap, h2, h3⟩
    · rw [h4] at hfit
      simp only [h2, Sem.run_bind, run_und (fits_str hfit), Result.andThen_ok, Sem.run_pure, goInt, h3]
    · obtain ⟨el, hel⟩ := fits_slice hfit h3
      simp only [h2, Sem.run_bind, run_und hel, Result.andThen_ok, Sem.run_pure, goInt]
  rw [this]
  rfl

end ops

end Go.Mach
/- The machine, part l: elements, loads, slices. No condition: lemmas. -/
namespace Go.Mach
set_option linter.unusedVariables false
set_option linter.unusedSimpArgs false

section ops
variable {P : Program} {n : Nat} {e : Env} {a : Act} {w : World} {G : Gh} {get : Nat → Slot} {o : Oper} {x : Ctx} {ws : Writes}

theorem offOf_eq (a : Option Nat) (m : Nat) : offOf a m = a.getD 0 + m := by cases a <;> simp [offOf]

theorem run_indexAt_slice {t el : Nat} {i : TypeInfo} (hu : P.underlying t = some (.slice el)) (hi : P.info? el = some i) {b o' len cap m : Nat} (hm : m < len) (ik : IntKind) (w : World) :
    (Instr.indexAt t (.slice (some ⟨b, o', none⟩) len cap) (.int ik (m : Int))).run P w = .ok (.pointer (some ⟨b, o' + m * (tyOf P el).size, none⟩)) w := by
  have h1 : (0 : Int) ≤ (m : Int) ∧ (m : Int) < (len : Int) := by omega
  simp only [Instr.indexAt, asIntOf, Sem.run_bind, Sem.run_pure, Result.andThen_ok, run_und hu, if_pos h1, run_size hi, Int.toNat_natCast, addr_add]

theorem run_indexAt_arr {t len el : Nat} {i : TypeInfo} (hu : P.underlying t = some (.array len el)) (hi : P.info? el = some i) {b o' m : Nat} (hm : m < len) (ik : IntKind) (w : World) :
    (Instr.indexAt t (.pointer (some ⟨b, o', none⟩)) (.int ik (m : Int))).run P w = .ok (.pointer (some ⟨b, o' + m * (tyOf P el).size, none⟩)) w := by
  have h1 : (0 : Int) ≤ (m : Int) ∧ (m : Int) < (len : Int) := by omega
  simp only [Instr.indexAt, asIntOf, Sem.run_bind, Sem.run_pure, Result.andThen_ok, run_und hu, Instr.sureAddr, if_pos h1, run_size hi, Int.toNat_natCast, addr_add]

/-- An element of a list that nobody writes, as a row of plain cells. -/
theorem pim_of {k : K} {y : k.T} {L : LT} {vs : List Value} {b o' : Nat} (hrep : Rep false w k y L vs) (hrow : RowAt w b o' vs) (how : ∀ b' ∈ fp k L, G.ow b' = none) (hb : G.ow b = none) (hh : w.heap[b]? ≠ none) :
    CellOk e w G (.pim ((leaves k y).map fun g => .dat g.1 g.2) 0) (.pointer (some ⟨b, o', none⟩)) .leaf := by
  refine ⟨b, o', vs, fun i => leafL k L i, by simp, hb, hh, hrow, by rw [List.length_map, leaves_length, hrep.size], fun i c u hc hu => ?_⟩
  rw [List.getElem?_map] at hc
  have hi : i < k.size := by
    rcases Nat.lt_or_ge i k.size with g | g
    · exact g
    · rw [List.getElem?_eq_none (by rw [leaves_length]; exact g)] at hc; simp at hc
  rw [leaves_get k y i hi] at hc
  simp only [Option.map_some, Option.some.injEq] at hc
  subst hc
  obtain ⟨v, q1, q2, q3⟩ := hrep.leaf hi
  rw [q1] at hu
  simp only [Option.some.injEq] at hu
  subst hu
  exact ⟨q2, fun b' hb' => how b' (q3 b' hb')⟩

theorem sound_indexAddr {ty : TypeId} {y z : Operand} (hty : ∀ t, x.ty t = tyOf P t) (hb : Begin n e a w G get o) (ho : o.op = .indexAddr ty y z) (h : act x get o = some ws) : Sound P n e a w G o ws := by
  simp only [act, ho] at h
  split at h
  · rename_i c i hc hi
    split at h
    · rename_i m hm
      split at h
      · rename_i c' hidx
        obtain ⟨L, h1, hnoL⟩ := hb.one (by simp [ho, Op.operands]) hc
        obtain ⟨M, h2, hnoM⟩ := hb.one (by simp [ho, Op.operands]) hi
        obtain ⟨ik, hq⟩ := nat_of hm h2
        unfold indexC at hidx
        split at hidx
        · rename_i et hd
          rw [hty] at hd
          have hu := ty_slice hd
          split at hidx
          · rename_i k l
            split at hidx
            · rename_i hlt
              obtain ⟨hlt, hsz⟩ := hlt
              simp only [Option.some.injEq] at hidx
              subst hidx
              rw [hty] at hsz
              obtain ⟨inf, hinf⟩ := ty_size_info (P := P) (t := et) (by rw [hsz]; have := k.size_pos; omega)
              obtain ⟨h1, h1o⟩ := h1
              simp only [Rep] at h1
              obtain ⟨u, hu', h1⟩ := h1
              simp only [List.cons.injEq, and_true] at hu'
              have hth := h1.there
              obtain ⟨b, off, cap, rows, r, vs, rfl, hv, _, _, hr, hrow, hrep⟩ := h1.elem hlt
              have hrm : r ∈ rows := List.mem_of_getElem? hr
              have hcell : CellOk e w G (.pim ((leaves k (l.getD m k.dflt)).map fun g => .dat g.1 g.2) 0) (.pointer (some ⟨b, off + m * k.size, none⟩)) .leaf :=
                pim_of hrep hrow (fun b' hb' => h1o b' (by simp only [fp, List.mem_cons, List.mem_flatMap]; exact .inr ⟨r, hrm, hb'⟩)) (h1o b (by simp [fp])) (hth b (by simp [fp]))
              obtain ⟨G', hp⟩ := hb.cell hcell rfl h
              refine Sound.value ?_ hp
              simp only [execOp, ho, hu', hv, hq]
              rw [← hsz]
              exact run_v (run_indexAt_slice hu hinf hlt ik w)
            · simp at hidx
          · rename_i s j rv sv p lo hi' k
            split at hidx
            · rename_i len hlen
              split at hidx
              · rename_i hlt
                obtain ⟨hlt, hsz⟩ := hlt
                simp only [Option.some.injEq] at hidx
                subst hidx
                rw [hty] at hsz
                obtain ⟨inf, hinf⟩ := ty_size_info (P := P) (t := et) (by rw [hsz]; have := k.size_pos; omega)
                simp only [lenC] at hlen
                cases hcon : content get s j rv sv p k with
                | none => rw [hcon] at hlen; simp at hlen
                | some q =>
                  obtain ⟨d, l⟩ := q
                  rw [hcon] at hlen
                  simp only [Option.map_some, Option.some.injEq] at hlen
                  obtain ⟨sv', k0, l0, g1, g2, g3⟩ := content_ok hb.sees hcon
                  obtain ⟨r1, r2, r3, r4⟩ := ref_reads hb.inv h1 g1 g2 g3
                  have hlc := cut_length lo hi' l r1.2.1
                  obtain ⟨s1, s2, s3⟩ := r1
                  cases hhd : hdOf (subL k0 (G.lt s j) p) with
                  | none =>
                    rw [hhd] at s3
                    obtain ⟨_, _, s3⟩ := s3
                    omega
                  | some bb =>
                    obtain ⟨b, off, cap⟩ := bb
                    rw [hhd] at s3
                    obtain ⟨s4, o', hv, s5⟩ := s3
                    have hcap : cap - lo.getD 0 ≠ 0 := by omega
                    have s5 := s5 hcap
                    subst s5
                    have hcell : CellOk e w G (.aptr s j rv sv p (offOf lo m) 0 k) (.pointer (some ⟨b, off + (lo.getD 0 + m) * k.size, none⟩)) .leaf := by
                      refine ⟨⟨_, _, rfl⟩, h1.1, h1.2.1, fun sv1 d1 k1 l1 q1 q2 => ?_⟩
                      have q1 := some_of_getD q1 (by simp)
                      rw [g1] at q1
                      simp only [Option.some.injEq, C.own.injEq] at q1
                      obtain ⟨_, rfl, rfl, rfl, q1⟩ := q1
                      have q1 := eq_of_heq q1
                      subst q1
                      refine ⟨l.length, b, off, cap, ⟨r2, by rw [g3], by rw [g3], hhd⟩, ?_, ?_⟩
                      · rw [offOf_eq]; omega
                      · rw [offOf_eq]; simp
                    obtain ⟨G', hp⟩ := hb.cell hcell rfl h
                    refine Sound.value ?_ hp
                    simp only [execOp, ho, hv, hq]
                    rw [Nat.add_mul, ← Nat.add_assoc, ← hsz]
                    exact run_v (run_indexAt_slice hu hinf (by omega) ik w)
              · simp at hidx
            · simp at hidx
          · simp at hidx
        · rename_i len et hd
          rw [hty] at hd
          have hu := ty_arr hd
          split at hidx
          · rename_i s bv j
            split at hidx
            · rename_i hlt
              obtain ⟨hlt, hsz⟩ := hlt
              simp only [Option.some.injEq] at hidx
              subst hidx
              rw [hty] at h hsz
              obtain ⟨b, o', hv⟩ := ptr_val h1 rfl
              obtain ⟨inf, hinf⟩ := ty_size_info hsz
              obtain ⟨h3, h4⟩ := addC_ok (c := .bptr s bv j) (off := m * (tyOf P et).size) h1 rfl hv
              obtain ⟨G', hp⟩ := hb.cell h3 h4 h
              refine Sound.value ?_ hp
              simp only [execOp, ho, hv, hq]
              exact run_v (run_indexAt_arr hu hinf hlt ik w)
            · simp at hidx
          · simp at hidx
        · simp at hidx
      · simp at h
    · simp at h
  · simp at h

/-! ### Loads -/
theorem run_loadAt {t : Nat} (hok : (tyOf P t).ok = true) {b o' : Nat} {vs : List Value} (hrow : RowAt w b o' vs) (hl : vs.length = (tyOf P t).size) :
    (Instr.loadAt t (.pointer (some ⟨b, o', none⟩))).run P w = .ok (form (partShape (tyOf P t)) vs) w := by
  obtain ⟨i, d, hi, hu, h1, hag⟩ := ty_ok hok
  have hag := congrFun hag w
  have hadd : ∀ (j : Nat) (v : Value), vs[j]? = some v → w.cell? ((⟨b, o', none⟩ : Addr).add j) = some v := fun j v hv => by rw [addr_add]; exact hrow j v hv
  simp only [Instr.loadAt, Instr.sureAddr, loadVar, Sem.run_bind, Sem.run_pure, Result.andThen_ok, hag]
  cases hh : (tyOf P t).agg with
  | true =>
    simp only [if_true, Sem.run_bind, run_size hi, Result.andThen_ok, partShape, hh, form]
    rw [← hl, run_loadCells_list w _ vs hadd]
    rfl
  | false =>
    have h1 := h1 hh
    rw [(ty_size hi).1, h1] at hl
    match vs, hl with
    | [v], _ =>
      have hc := hadd 0 v rfl
      have h0 : ((⟨b, o', none⟩ : Addr).add 0) = ⟨b, o', none⟩ := by rw [addr_add]; rfl
      rw [h0] at hc
      simp only [Bool.false_eq_true, if_false, partShape, hh, form, List.headD_cons]
      simp only [load, Sem.run, hc]

theorem getElem_cells {w : World} {b : Nat} {vs : List Value} {ty : TypeId} {fr : Nat × Nat} (h : w.heap[b]? = some (.cells vs.toArray ty fr)) (i : Nat) : w.cell? ⟨b, i, none⟩ = vs[i]? := by
  simp [World.cell?, h]

theorem leafC_ok {s j rv sv : Nat} {p : Path} {k : K} {l : List k.T} {k0 : K} {l0 : List k0.T} {sv' : Nat} {d : Bool} (hinv : Inv n e a.tmps w G) (h1 : (e.get s).cs[j]? = some (.own rv sv' d k0 l0)) (h2 : p = [] ∨ (svOk p sv sv' = true ∧ d = true))
    (hp : PathOk k0 l0 p) (hl : getP k0 l0 p = ⟨k, l⟩) {i c : Nat} (hi : i < l.length) (hc : c < k.size) {b off cap : Nat} {rows : List LT} (hL : subL k0 (G.lt s j) p = .node b off cap rows)
    {r : LT} {vs : List Value} (hr : rows[i]? = some r) (hrep : Rep d w k (l.getD i k.dflt) r vs) (hdf : d = false → ∀ b ∈ fp k r, G.ow b = none) {v : Value} (hv : vs[c]? = some v) :
    CellOk e w G (leafC s j rv sv' p i c d (leafV k (l.getD i k.dflt) c)) v (leafL k r c) ∧ (leafC s j rv sv' p i c d (leafV k (l.getD i k.dflt) c)).isOwn = false := by
  obtain ⟨v1, q1, q2, q3⟩ := hrep.leaf hc
  rw [q1] at hv
  simp only [Option.some.injEq] at hv
  subst hv
  obtain ⟨u, hu, hcell⟩ := hinv.val h1
  have hsh : (e.get s).sh ≠ .dead := fun q => by rw [(hinv.slot s).dead q] at h1; simp at h1
  have hvers := (hinv.slot s).vers hsh j rv sv' d k0 l0 h1
  have hns : ∀ (k' : K) (y : k'.T), leafV k (l.getD i k.dflt) c = ⟨k', y⟩ → k'.flat = true → CellOk e w G (.dat k' y) v1 (leafL k r c) := by
    intro k' y hq hf
    rw [hq] at q2
    simp only at q2
    exact ⟨q2.flat hf, by rw [fp_flat hf]; simp⟩
  cases hq : leafV k (l.getD i k.dflt) c with
  | mk k' y =>
    cases k' with
    | list k2 =>
      simp only [leafC]
      cases d with
      | false =>
        simp only [Bool.false_eq_true, if_false]
        rw [hq] at q2 q3
        simp only at q2 q3
        exact ⟨⟨q2, fun b' hb' => hdf rfl b' (q3 b' hb')⟩, rfl⟩
      | true =>
        simp only [if_true]
        refine ⟨⟨hvers.1, fun _ => hvers.2, fun sv1 d1 k1 l1 z1 z2 => ?_⟩, rfl⟩
        have z1 := some_of_getD z1 (by simp)
        rw [h1] at z1
        simp only [Option.some.injEq, C.own.injEq] at z1
        obtain ⟨_, rfl, rfl, rfl, z1⟩ := z1
        have z1 := eq_of_heq z1
        subst z1
        obtain ⟨s1, s2, s3⟩ := path_snoc p k0 l0 (G.lt s j) i c hp hl hi hc hq
        have s3 := s3 b off cap rows hL
        have hrd : rows.getD i .leaf = r := by simp [List.getD_eq_getElem?_getD, hr]
        rw [hrd] at s3
        refine ⟨y.length, hdOf (leafL k r c), ⟨s1, by rw [s2], by rw [s2], by rw [s3]⟩, ?_⟩
        rw [hq] at q2
        simp only [Rep] at q2
        obtain ⟨v2, e1, e2⟩ := q2
        simp only [List.cons.injEq, and_true] at e1
        subst e1
        exact hd_of_repl e2 rfl
    | int ik => exact ⟨hns _ _ hq rfl, rfl⟩
    | bool => exact ⟨hns _ _ hq rfl, rfl⟩
    | str => exact ⟨hns _ _ hq rfl, rfl⟩
    | pair k2 k3 =>
      rw [hq] at q2
      have := q2.size
      simp only [List.length_singleton, K.size] at this
      have := k2.size_pos
      have := k3.size_pos
      omega

theorem readLeaves_get {k : K} {y : k.T} {s j rv sv : Nat} {p : Path} {i : Nat} {d : Bool} : ∀ (m c q : Nat), q < m → (readLeaves k y s j rv sv p i d c m)[q]? = some (leafC s j rv sv p i (c + q) d (leafV k y (c + q)))
  | 0, c, q, h => by omega
  | m + 1, c, 0, h => by simp [readLeaves]
  | m + 1, c, q + 1, h => by
    simp only [readLeaves, List.getElem?_cons_succ]
    rw [readLeaves_get m (c + 1) q (by omega), show c + 1 + q = c + (q + 1) by omega]

theorem readLeaves_length {k : K} {y : k.T} {s j rv sv : Nat} {p : Path} {i : Nat} {d : Bool} : ∀ (m c : Nat), (readLeaves k y s j rv sv p i d c m).length = m
  | 0, c => rfl
  | m + 1, c => by simp [readLeaves, readLeaves_length m]

theorem load_ok (hinv : Inv n e a.tmps w G) (hs : Sees get e) {c : C} {v : Value} {L : LT} (hc : CellOk e w G c v L) {m : Nat} {cs : List C} (h : loadC get m c = some cs) :
    ∃ b o' vs Ls, v = .pointer (some ⟨b, o', none⟩) ∧ vs.length = m ∧ RowAt w b o' vs ∧ CellsOk e w G cs vs Ls ∧ (∀ c ∈ cs, c.isOwn = false) := by
  cases c with
  | bptr s bv j =>
    simp only [loadC] at h
    split at h
    · rename_i hh
      simp only [Option.some.injEq] at h
      subst h
      obtain ⟨hsh, hl⟩ := hh
      have hg : get s = e.get s := by
        rcases hs s with q | q
        · exact q
        · rw [q] at hsh; simp at hsh
      rw [hg] at hsh hl ⊢
      have hslot := hinv.slot s
      have hsd : (e.get s).sh ≠ .dead := by rw [hsh]; simp
      have hlen := hslot.len hsd
      obtain ⟨_, ty, hheap⟩ := hslot.box bv hsh
      refine ⟨G.bk s, j, ((G.vs s).drop j).take m, fun i => G.lt s (j + i), hc.2.1 hsh, by simp; omega, fun i u hu => ?_, ⟨by rw [copyFrom_length]; simp; omega, fun i c' u hc' hu => ?_⟩, copyFrom_noOwn _ _ _⟩
      · rw [List.getElem?_take] at hu
        split at hu
        · rw [List.getElem?_drop] at hu
          rw [getElem_cells hheap]
          exact hu
        · simp at hu
      · rw [copyFrom_get, List.getElem?_take] at hc'
        rw [List.getElem?_take] at hu
        split at hc'
        · rename_i hi
          rw [if_pos hi, List.getElem?_drop] at hu
          rw [List.getElem?_drop] at hc'
          cases hq : (e.get s).cs[j + i]? with
          | none => rw [hq] at hc'; simp at hc'
          | some c0 =>
            rw [hq] at hc'
            simp only [Option.map_some, Option.some.injEq] at hc'
            subst hc'
            exact hslot.copy hq hu
        · simp at hc'
    · simp at h
  | pim cs0 j =>
    simp only [loadC] at h
    split at h
    · rename_i hl
      simp only [Option.some.injEq] at h
      subst h
      obtain ⟨b, o', vs, Ls, h1, h2, h3, h4, h5, h6⟩ := hc
      have hget : ∀ (i : Nat) c', ((cs0.drop j).take m)[i]? = some c' → ∃ u, vs[j + i]? = some u ∧ i < m ∧ cs0[j + i]? = some c' := by
        intro i c' hc'
        rw [List.getElem?_take] at hc'
        split at hc'
        · rename_i hi
          rw [List.getElem?_drop] at hc'
          have : j + i < cs0.length := by
            rcases Nat.lt_or_ge (j + i) cs0.length with g | g
            · exact g
            · rw [List.getElem?_eq_none g] at hc'; simp at hc'
          exact ⟨_, List.getElem?_eq_getElem (by omega), hi, hc'⟩
        · simp at hc'
      have hdat : ∀ (i : Nat) c' u, cs0[i]? = some c' → vs[i]? = some u → CellOk e w G c' u (Ls i) ∧ c'.isOwn = false := by
        intro i c' u z1 z2
        have := h6 i c' u z1 z2
        cases c' with
        | nil => exact ⟨this, rfl⟩
        | dat k y => exact ⟨this, rfl⟩
        | _ => exact this.elim
      refine ⟨b, o' + j, (vs.drop j).take m, fun i => Ls (j + i), h1, by simp; omega, fun i u hu => ?_, ⟨by simp; omega, fun i c' u hc' hu => ?_⟩, fun c' hc' => ?_⟩
      · rw [List.getElem?_take] at hu
        split at hu
        · rw [List.getElem?_drop] at hu
          rw [Nat.add_assoc]
          exact h4 (j + i) u hu
        · simp at hu
      · obtain ⟨u', z1, z2, z3⟩ := hget i c' hc'
        rw [List.getElem?_take, if_pos z2, List.getElem?_drop] at hu
        exact (hdat _ _ _ z3 hu).1
      · obtain ⟨i, hi⟩ := List.getElem?_of_mem hc'
        obtain ⟨u', z1, z2, z3⟩ := hget i c' hi
        exact (hdat _ _ _ z3 z1).2
    · simp at h
  | aptr s j rv sv p i c k =>
    simp only [loadC] at h
    split at h
    · rename_i rv' sv' d k0 l0 hcell
      split at h
      · rename_i hcond
        obtain ⟨rfl, hp, hcs⟩ := hcond
        cases hcl : castL (getP k0 l0 p).1 (getP k0 l0 p).2 k with
        | none => rw [hcl] at h; simp at h
        | some l =>
          rw [hcl] at h
          simp only at h
          split at h
          · rename_i hil
            simp only [Option.some.injEq] at h
            subst h
            have hown : (e.get s).cs[j]? = some (.own rv sv' d k0 l0) := by
              have := some_of_getD hcell (by simp)
              rcases hs s with q | q
              · rw [q] at this; exact this
              · rw [q] at this; simp at this
            have hl : getP k0 l0 p = ⟨k, l⟩ := castL_some hcl
            obtain ⟨mm, b, off, cap, ⟨q1, q2, q3, q4⟩, q5, q6⟩ := hc.2.2.2 sv' d k0 l0 (getD_some hown _) hp
            obtain ⟨u, hu, hin⟩ := hinv.at_path hown q1 (hp.imp id And.right) hl
            obtain ⟨b', off', cap', rows, r, vs, hL, _, _, hrl, hr, hrow, hrep⟩ := hu.elem hil
            rw [hL] at q4
            simp only [hdOf, Option.some.injEq, Prod.mk.injEq] at q4
            obtain ⟨rfl, rfl, rfl⟩ := q4
            have hvl := hrep.size
            have hdf : d = false → ∀ b ∈ fp k r, G.ow b = none := by
              intro hd b' hb'
              subst hd
              have hp0 : p = [] := hp.resolve_right (by simp)
              subst hp0
              rw [getP_nil] at hl
              simp only [Sigma.mk.injEq] at hl
              obtain ⟨rfl, hl⟩ := hl
              simp only [subL] at hL
              refine (hinv.ownBlocks hown).2.1 rfl b' ?_
              rw [hL]
              simp only [inner, List.mem_flatMap]
              exact ⟨r, List.mem_of_getElem? hr, hb'⟩
            have hleaf : ∀ (q : Nat), q < m → ∀ u, vs[c + q]? = some u → CellOk e w G (leafC s j rv sv' p i (c + q) d (leafV k (l.getD i k.dflt) (c + q))) u (leafL k r (c + q)) ∧ (leafC s j rv sv' p i (c + q) d (leafV k (l.getD i k.dflt) (c + q))).isOwn = false :=
              fun q hq u hu => leafC_ok hinv hown hp q1 hl hil (by omega) hL hr hrep hdf hu
            refine ⟨b', off' + i * k.size + c, (vs.drop c).take m, fun q => leafL k r (c + q), q6, by simp; omega, fun q u hu => ?_, ⟨by rw [readLeaves_length]; simp; omega, fun q c' u hc' hu => ?_⟩, fun c' hc' => ?_⟩
            · rw [List.getElem?_take] at hu
              split at hu
              · rw [List.getElem?_drop] at hu
                rw [Nat.add_assoc]
                exact hrow (c + q) u hu
              · simp at hu
            · have hq : q < m := by
                rcases Nat.lt_or_ge q m with g | g
                · exact g
                · rw [List.getElem?_eq_none (by rw [readLeaves_length]; exact g)] at hc'; simp at hc'
              rw [readLeaves_get m c q hq] at hc'
              simp only [Option.some.injEq] at hc'
              subst hc'
              rw [List.getElem?_take, if_pos hq, List.getElem?_drop] at hu
              exact (hleaf q hq u hu).1
            · obtain ⟨q, hq'⟩ := List.getElem?_of_mem hc'
              have hq : q < m := by
                rcases Nat.lt_or_ge q m with g | g
                · exact g
                · rw [List.getElem?_eq_none (by rw [readLeaves_length]; exact g)] at hq'; simp at hq'
              rw [readLeaves_get m c q hq] at hq'
              simp only [Option.some.injEq] at hq'
              subst hq'
              exact (hleaf q hq _ (List.getElem?_eq_getElem (by omega))).2
          · simp at h
      · simp at h
    · simp at h
  | _ => simp [loadC] at h

end ops

/-! ### Handing over -/
def Gh.disown (G : Gh) (F : List Nat) : Gh := { G with ow := fun b => if b ∈ F then none else G.ow b }

theorem CellOk.disown {e : Env} {w : World} {G : Gh} {c : C} {v : Value} {L : LT} (h : CellOk e w G c v L) (F : List Nat) (ho : c.isOwn = false) : CellOk e w (G.disown F) c v L :=
  h.frame (fun t => TM.refl rfl (fun _ => rfl) rfl) (fun b h1 h2 => ⟨rfl, by simp only [Gh.disown]; split <;> first | rfl | exact h1⟩) (by rw [noOwn_ownB ho]; intro b hb; simp at hb)

theorem Inv.disown {n : Nat} {e : Env} {tm : Array Value} {w : World} {G : Gh} (h : Inv n e tm w G) {F : List Nat} (hF : ∀ b ∈ F, Loose e G b) : Inv n e tm w (G.disown F) where
  size := h.size
  elen := h.elen
  slot := fun s => (h.slot s).frame rfl (fun _ => rfl) rfl (fun _ => rfl) rfl (fun t => TM.refl rfl (fun _ => rfl) rfl)
    (fun b h1 h2 => ⟨rfl, by simp only [Gh.disown]; split <;> first | rfl | exact h1⟩)
    (fun b hb => ⟨rfl, by
      have : b ∉ F := fun q => hF b q s hb
      simp only [Gh.disown, if_neg this]
      exact (h.slot s).own b hb⟩)
  lt := fun b s hb => by
    simp only [Gh.disown] at hb
    split at hb
    · simp at hb
    · exact h.lt b s hb

theorem Loose.disown {e : Env} {G : Gh} {F : List Nat} {b : Nat} (h : Loose e G b) : Loose e (G.disown F) b := h


/-- A cell put where none was. -/
theorem Inv.revive {n : Nat} {e : Env} {tm : Array Value} {w : World} {G : Gh} (h : Inv n e tm w G) {s j : Nat} {c : C} {v : Value} (hd : (e.get s).cs[j]? = some .dead) (hv : (G.vs s)[j]? = some v) (hc : CellOk e w G c v (G.lt s j)) (ho : c.isOwn = false) :
    Inv n (e.set s { e.get s with cs := (e.get s).cs.set j c }) tm w G ∧ (∀ t, TM e (e.set s { e.get s with cs := (e.get s).cs.set j c }) G G t) ∧ ∀ t, fpS G t (Env.get (e.set s { e.get s with cs := (e.get s).cs.set j c }) t) = fpS G t (e.get t) := by
  have hl := slot_alive hd
  have hjl : j < (e.get s).cs.length := (List.getElem?_eq_some_iff.1 hd).1
  have hs := h.slot s
  have hne : (e.get s).sh ≠ .dead := fun q => by rw [hs.dead q] at hd; simp at hd
  have hTM : ∀ t, TM e (e.set s { e.get s with cs := (e.get s).cs.set j c }) G G t := by
    intro t
    by_cases g : t = s
    · subst g
      refine ⟨by rw [get_set_self hl]; exact Nat.le_refl _, ?_, ?_⟩
      · intro i rv1 sv1 d1 k1 l1 h1 h2
        rw [get_set_self hl] at h1
        simp only at h1
        by_cases g : i = j
        · subst g
          have : ((e.get t).cs.set i c).getD i .dead = c := getD_some (by simp [hjl]) _
          rw [this] at h1
          rw [h1] at ho
          simp [C.isOwn] at ho
        · rw [getD_set_ne g] at h1
          exact ⟨sv1, d1, l1, h1, fun _ _ _ hh => hh, fun hd p a _ _ ha => ⟨ha, hd, fun _ _ _ hh => hh⟩⟩
      · intro bv h1 _
        rw [get_set_self hl] at h1
        exact ⟨h1, rfl⟩
    · exact TM.refl (get_set_ne g) (fun _ => rfl) rfl
  have hfp : ∀ t, fpS G t (Env.get (e.set s { e.get s with cs := (e.get s).cs.set j c }) t) = fpS G t (e.get t) := by
    intro t
    by_cases g : t = s
    · subst g
      rw [get_set_self hl]
      have : fpCells (G.lt t) 0 ((e.get t).cs.set j c) = fpCells (G.lt t) 0 (e.get t).cs := fpCells_congr (by simp) fun i c1 c2 h1 h2 => by
        by_cases g : j = i
        · subst g
          rw [hd] at h1
          rw [List.getElem?_set_self hjl] at h2
          simp only [Option.some.injEq] at h1 h2
          subst h1; subst h2
          rw [noOwn_ownB ho]
          rfl
        · rw [List.getElem?_set_ne g, h1] at h2
          simp only [Option.some.injEq] at h2
          rw [h2]
      simp only [fpS, this]
    · rw [get_set_ne g]
  refine ⟨?_, hTM, hfp⟩
  refine h.turn s _ h.size (fun t _ => ⟨rfl, fun _ => rfl, rfl⟩) (fun t _ _ => rfl) (fun _ => hTM s) still_refl (fun t _ b hb => ⟨rfl, (h.slot t).own b hb⟩) (fun _ => ?_) h.lt
  refine ⟨fun hn => ?_, fun bv hb => ?_, fun q => ?_, fun q i c' v' h1 h2 => ?_, fun q i rv sv d k l h1 => ?_, by rw [hfp]; exact hs.nodup, by rw [hfp]; exact hs.own, fun q => ?_⟩
  · rw [get_set_self hl]; exact hs.form hn
  · rw [get_set_self hl] at hb ⊢; exact hs.box bv hb
  · rw [get_set_self hl]; simp only [List.length_set]; exact hs.len hne
  · rw [get_set_self hl] at h1
    simp only at h1
    by_cases g : j = i
    · subst g
      rw [List.getElem?_set_self hjl] at h1
      simp only [Option.some.injEq] at h1
      subst h1
      rw [hv] at h2
      simp only [Option.some.injEq] at h2
      subst h2
      exact hc.frame hTM still_refl (by rw [noOwn_ownB ho]; intro b hb; simp at hb)
    · rw [List.getElem?_set_ne g] at h1
      exact (hs.cells hne i c' v' h1 h2).frame hTM still_refl (fun b _ => rfl)
  · rw [get_set_self hl] at h1 ⊢
    simp only at h1
    by_cases g : j = i
    · subst g
      rw [List.getElem?_set_self hjl] at h1
      simp only [Option.some.injEq] at h1
      rw [h1] at ho
      simp [C.isOwn] at ho
    · rw [List.getElem?_set_ne g] at h1
      exact hs.vers hne i rv sv d k l h1
  · rw [get_set_self hl] at q; exact absurd q hne

/-- An owned list, given up where it lies. -/
theorem Inv.giveCell {n : Nat} {e : Env} {tm : Array Value} {w : World} {G : Gh} (h : Inv n e tm w G) {s j rv sv : Nat} {d : Bool} {k : K} {l : List k.T} (hc : (e.get s).cs[j]? = some (.own rv sv d k l)) :
    ∃ G', Inv n (e.set s { e.get s with cs := (e.get s).cs.set j (.dat (.list k) l) }) tm w G' ∧ Ext w e G (e.set s { e.get s with cs := (e.get s).cs.set j (.dat (.list k) l) }) G' := by
  obtain ⟨v, hv, hcell⟩ := h.val hc
  obtain ⟨o1, o2, o3⟩ := h.ownBlocks hc
  have hl := slot_alive hc
  have hjl : j < (e.get s).cs.length := (List.getElem?_eq_some_iff.1 hc).1
  have hk : Env.get (e.set s ((e.get s).kill j)) s = (e.get s).kill j := get_set_self hl
  have h2 := (h.kill s j).disown (F := ownB (.own rv sv d k l) (G.lt s j)) (fun b hb => (h.loose hc hb).2)
  have hdead : (Env.get (e.set s ((e.get s).kill j)) s).cs[j]? = some .dead := by rw [hk]; simp [Slot.kill, hjl]
  have hcok : CellOk (e.set s ((e.get s).kill j)) w (G.disown (ownB (.own rv sv d k l) (G.lt s j))) (.dat (.list k) l) v ((G.disown (ownB (.own rv sv d k l) (G.lt s j))).lt s j) := by
    refine ⟨hcell.1.rep, fun b hb => ?_⟩
    simp only [Gh.disown]
    split
    · rfl
    · rename_i q
      cases d with
      | true => exact absurd hb q
      | false =>
        have hb : b ∈ fp (.list k) (G.lt s j) := hb
        rw [fp_list, List.mem_append] at hb
        rcases hb with hb | hb
        · exact absurd hb q
        · exact o2 rfl b hb
  obtain ⟨h3, hTM, hfp⟩ := h2.revive hdead hv hcok rfl
  have henv : ((e.set s ((e.get s).kill j)).set s { Env.get (e.set s ((e.get s).kill j)) s with cs := (Env.get (e.set s ((e.get s).kill j)) s).cs.set j (.dat (.list k) l) }) = e.set s { e.get s with cs := (e.get s).cs.set j (.dat (.list k) l) } := by
    rw [hk]
    simp [Slot.kill]
  rw [henv] at h3 hTM hfp
  refine ⟨_, h3, ?_⟩
  have hx := Ext.kill (w := w) (e := e) (G := G) s j
  generalize hF : ownB (.own rv sv d k l) (G.lt s j) = F at *
  have hne : (e.get s).sh ≠ .dead := fun q => by rw [(h.slot s).dead q] at hc; simp at hc
  have hFm : ∀ b ∈ F, b ∈ fpS G s (e.get s) := by
    intro b hb
    rw [← hF] at hb
    simp only [fpS, List.mem_append]
    right
    have := fpCells_mem (lt := G.lt s) (i := 0) hc (by simpa using hb)
    cases hh : (e.get s).sh <;> simp_all
  have hnone : ∀ b, G.ow b = none → (G.disown F).ow b = none := by
    intro b hb
    simp only [Gh.disown]
    split
    · rfl
    · exact hb
  have hsub : ∀ t b, b ∈ fpS (G.disown F) t (Env.get (e.set s { e.get s with cs := (e.get s).cs.set j (.dat (.list k) l) }) t) → b ∈ fpS G t (e.get t) := by
    intro t b hb
    rw [hfp t] at hb
    have hb : b ∈ fpS G t (Env.get (e.set s ((e.get s).kill j)) t) := hb
    by_cases g : t = s
    · subst g
      rw [hk] at hb
      exact (fpS_kill_sub G t j (e.get t)).subset hb
    · rw [get_set_ne g] at hb
      exact hb
  refine ⟨by simp, fun c v L hno hc' => ((hx.cell c v L hno hc').disown F hno).frame hTM still_refl (by rw [noOwn_ownB hno]; intro b hb; simp at hb), fun b h1 h2 => ⟨fun t ht => h1 t (hsub t b ht), ?_⟩, hnone, fun b t hb => ?_, fun t => ?_, fun t => ?_, rfl, rfl, rfl, fun t => ?_⟩
  · simp only [Gh.disown]
    rw [if_neg (fun q => h1 s (hFm b q))]
  · simp only [Gh.disown] at hb
    split at hb
    · simp at hb
    · exact hb
  · by_cases g : t = s
    · subst g; rw [get_set_self hl]
    · rw [get_set_ne g]
  · by_cases g : t = s
    · subst g; rw [get_set_self hl]; exact Nat.le_refl _
    · rw [get_set_ne g]; exact Nat.le_refl _
  · by_cases g : t = s
    · subst g; rw [get_set_self hl]; simp
    · rw [get_set_ne g]

section ops
variable {P : Program} {n : Nat} {e : Env} {a : Act} {w : World} {G : Gh} {get : Nat → Slot} {o : Oper} {x : Ctx} {ws : Writes}

theorem chill_d (t : Tr) (c : C) : (chill x t c).d = t.d := by
  unfold chill
  split
  · split <;> rfl
  · rfl

theorem chill_ok {tm : Array Value} {e0 : Env} {t : Tr} (h : Inv n e tm w G) (ht : TrOk e0 t e) (c : C) : ∃ e' G', Inv n e' tm w G' ∧ TrOk e0 (chill x t c) e' ∧ Ext w e G e' G' := by
  unfold chill
  split
  · split
    · rename_i hcell
      obtain ⟨s1, s2⟩ := ht.cell hcell (by simp)
      obtain ⟨G', f1, f2⟩ := h.giveCell s2
      rw [s1]
      exact ⟨_, G', f1, ht.put _ (slot_alive s2), f2⟩
    · exact ⟨e, G, h, ht, Ext.refl⟩
  · exact ⟨e, G, h, ht, Ext.refl⟩

theorem sound_load {ty : TypeId} {y : Operand} (hty : ∀ t, x.ty t = tyOf P t) (hb : Begin n e a w G get o) (ho : o.op = .load ty y) (h : act x get o = some ws) : Sound P n e a w G o ws := by
  simp only [act, ho] at h
  split at h
  · rename_i c hc
    split at h
    · rename_i hok
      split at h
      · rename_i cs hload
        obtain ⟨L, h1, hno⟩ := hb.one (by simp [ho, Op.operands]) hc
        rw [hty] at hok hload h
        obtain ⟨e', G', k1, k2, k3⟩ := chill_ok (x := x) hb.inv hb.tr c
        obtain ⟨b, o', vs, Ls, hv, hl, hrow, hcells, hnos⟩ := load_ok k1 k2.sees (k3.cell _ _ _ hno h1) hload
        have hval : ValOk e' w G' (partShape (tyOf P ty), cs) (form (partShape (tyOf P ty)) vs) vs Ls := ⟨hcells, rfl, hnos, partShape_box _, partShape_dead _⟩
        obtain ⟨G2, hp⟩ := lay_quiet k1 k2 (k3.held hb.inv) hval (fun d hd => hb.inb.dst d (by rw [chill_d] at hd; exact hd))
        have hdd : (chill x { get, d := o.dst } c).d = o.dst := chill_d _ _
        rw [hdd] at hp
        simp only [Option.some.injEq] at h
        rw [h] at hp
        refine Sound.value ?_ hp
        simp only [execOp, ho, hv]
        exact run_v (run_loadAt hok hrow hl)
      · simp at h
    · simp at h
  · simp at h

end ops

end Go.Mach
/- The machine, part m: slices of slices, least and greatest, conversions, function values, parts of tuples. No condition: lemmas. -/
namespace Go.Mach
set_option linter.unusedVariables false
set_option linter.unusedSimpArgs false

section ops
variable {P : Program} {n : Nat} {e : Env} {a : Act} {w : World} {G : Gh} {get : Nat → Slot} {o : Oper} {x : Ctx} {ws : Writes}

/-- A bound, as a value and as a number. -/
def IsBound (v : Option Value) (m : Option Nat) : Prop := (v = none ∧ m = none) ∨ ∃ (ik : IntKind) (i : Nat), v = some (.int ik (i : Int)) ∧ m = some i

theorem run_bound {ik : IntKind} {i y : Nat} {c : BoundsCode} (h : i ≤ y) (w : World) : (Instr.sliceBound (.int ik (i : Int)) y c).run P w = .ok i w := by
  have h1 : (0 : Int) ≤ (i : Int) ∧ (i : Int) ≤ (y : Int) := by omega
  simp only [Instr.sliceBound, asIntOf, Sem.run_bind, Sem.run_pure, Result.andThen_ok, if_pos h1, Int.toNat_natCast]

theorem run_bounds {isS : Bool} {len cap : Nat} {vl vh : Option Value} {lo hi : Option Nat} (hl : IsBound vl lo) (hh : IsBound vh hi) (h1 : lo.getD 0 ≤ hi.getD len) (h2 : hi.getD len ≤ cap) (w : World) :
    (Instr.sliceBounds isS len cap vl vh none).run P w = .ok (lo.getD 0, hi.getD len, cap) w := by
  rcases hl with ⟨rfl, rfl⟩ | ⟨k1, i1, rfl, rfl⟩ <;> rcases hh with ⟨rfl, rfl⟩ | ⟨k2, i2, rfl, rfl⟩ <;> simp only [Option.getD_none, Option.getD_some] at h1 h2
  · simp [Instr.sliceBounds, Sem.run_bind]
  · simp [Instr.sliceBounds, Sem.run_bind, run_bound h2]
  · simp [Instr.sliceBounds, Sem.run_bind, run_bound h1]
  · simp [Instr.sliceBounds, Sem.run_bind, run_bound h2, run_bound h1]

theorem run_sliceAt_slice {t el : Nat} {i : TypeInfo} (hu : P.underlying t = some (.slice el)) (hi' : P.info? el = some i) {b : Option Addr} {len cap : Nat} {vl vh : Option Value} {lo hi : Option Nat} (hl : IsBound vl lo)
    (hh : IsBound vh hi) (h1 : lo.getD 0 ≤ hi.getD len) (h2 : hi.getD len ≤ cap) (w : World) :
    (Instr.sliceAt t (.slice b len cap) vl vh none).run P w = .ok (.slice (if cap = lo.getD 0 then b else b.map (·.add (lo.getD 0 * (tyOf P el).size))) (hi.getD len - lo.getD 0) (cap - lo.getD 0)) w := by
  simp only [Instr.sliceAt, Sem.run_bind, run_und hu, Result.andThen_ok, Instr.slice, run_bounds hl hh h1 h2, run_size hi', Sem.run_pure]

theorem run_sliceAt_string {t : Nat} (hu : P.underlying t = some .string) {s : List UInt8} {vl vh : Option Value} {lo hi : Option Nat} (hl : IsBound vl lo) (hh : IsBound vh hi) (h1 : lo.getD 0 ≤ hi.getD s.length)
    (h2 : hi.getD s.length ≤ s.length) (w : World) : (Instr.sliceAt t (.string ⟨⟨s⟩⟩) vl vh none).run P w = .ok (.string ⟨⟨cut lo hi s⟩⟩) w := by
  simp only [Instr.sliceAt, Sem.run_bind, run_und hu, Result.andThen_ok, Instr.slice, Option.isSome_none, Bool.false_eq_true, if_false]
  rw [run_bounds hl hh (by rw [bytes_size]; exact h1) (by rw [bytes_size]; exact h2)]
  simp only [Result.andThen_ok, Sem.run_pure, bytes_size]
  congr 2
  have : (⟨⟨s⟩⟩ : ByteArray).extract (lo.getD 0) (hi.getD s.length) = ⟨⟨(s.drop (lo.getD 0)).take (hi.getD s.length - lo.getD 0)⟩⟩ := by
    exact ByteArray.extract_mk s (lo.getD 0) (hi.getD s.length)
  rw [this]
  congr 2
  cases lo <;> cases hi <;> simp [cut, List.drop_take, List.take_of_length_le]

theorem off_one (a : Option Nat) (m : Option Nat) (old : Option Nat) (d : Nat) : (subOf a m old).getD d = match m with | none => old.getD d | some q => a.getD 0 + q := by
  cases m <;> simp [subOf, offOf_eq]

theorem slice_ok {t : Nat} (hinv : Inv n e a.tmps w G) (hs : Sees get e) {c c' : C} {v : Value} {L : LT} (hc : CellOk e w G c v L) (hsf : slFits (tyOf P) t c = true) {vl vh : Option Value} {lo hi : Option Nat}
    (hl : IsBound vl lo) (hh : IsBound vh hi)
    (h : sliceC get c lo hi = some c') : ∃ r L', (Instr.sliceAt t v vl vh none).run P w = .ok r w ∧ CellOk e w G c' r L' ∧ c'.isOwn = false := by
  have hfit : fitsTy (tyOf P t) c = true := by
    cases c with
    | dat k y =>
      cases k with
      | str => exact hsf
      | list k => simp only [slFits] at hsf; simp only [fitsTy]; split at hsf <;> simp_all
      | _ => simp [slFits] at hsf
    | nil => simp only [slFits] at hsf; simp only [fitsTy]; split at hsf <;> simp_all
    | ref _ _ _ _ _ _ _ _ => simp only [slFits] at hsf; simp only [fitsTy]; split at hsf <;> simp_all
    | _ => simp [slFits] at hsf
  have hk : ∀ el k l, P.underlying t = some (.slice el) → c = .dat (.list k) l → (tyOf P el).size = k.size := by
    rintro el k l hu rfl
    simp only [slFits] at hsf
    split at hsf
    · rename_i el' hd
      have := ty_slice hd
      rw [hu] at this
      simp only [Option.some.injEq, TypeDesc.slice.injEq] at this
      subst this
      simpa using hsf
    · simp at hsf
  have hk' : ∀ el s j rv sv p l h' k, P.underlying t = some (.slice el) → c = .ref s j rv sv p l h' k → (tyOf P el).size = k.size := by
    rintro el s j rv sv p l h' k hu rfl
    simp only [slFits] at hsf
    split at hsf
    · rename_i el' hd
      have := ty_slice hd
      rw [hu] at this
      simp only [Option.some.injEq, TypeDesc.slice.injEq] at this
      subst this
      simpa using hsf
    · simp at hsf
  have hel : ∀ el, P.underlying t = some (.slice el) → ∃ i, P.info? el = some i := by
    intro el hu
    refine ty_size_info (P := P) (t := el) ?_
    cases c with
    | nil =>
      simp only [slFits] at hsf
      split at hsf
      · rename_i el' hd
        have := ty_slice hd
        rw [hu] at this
        simp only [Option.some.injEq, TypeDesc.slice.injEq] at this
        subst this
        simpa using hsf
      · simp at hsf
    | dat k y =>
      cases k with
      | list k => rw [hk el k y hu rfl]; have := k.size_pos; omega
      | str => simp only [slFits] at hsf; have := ty_str hsf; rw [hu] at this; simp at this
      | _ => simp [slFits] at hsf
    | ref s j rv sv p l h' k => rw [hk' el s j rv sv p l h' k hu rfl]; have := k.size_pos; omega
    | _ => simp [slFits] at hsf
  cases c with
  | nil =>
    simp only [sliceC] at h
    split at h
    · rename_i hz
      obtain ⟨z1, z2⟩ := hz
      simp only [Option.some.injEq] at h
      subst h
      obtain ⟨el, hel'⟩ := fits_slice hfit (by simp)
      obtain ⟨i, hi'⟩ := hel el hel'
      obtain rfl : v = .slice none 0 0 := hc
      refine ⟨_, .leaf, run_sliceAt_slice hel' hi' hl hh (by omega) (by omega) w, ?_, rfl⟩
      show _ = _
      rw [z1, z2]
      simp
    · simp at h
  | dat k y =>
    cases k with
    | list k =>
      simp only [sliceC] at h
      split at h
      · rename_i hz
        obtain ⟨z1, z2⟩ := hz
        simp only [Option.some.injEq] at h
        subst h
        obtain ⟨el, hel'⟩ := fits_slice hfit (by simp)
        obtain ⟨i, hi'⟩ := hel el hel'
        have hsz := hk el k y hel' rfl
        obtain ⟨h1, h2⟩ := hc
        simp only [Rep] at h1
        obtain ⟨u, hu, h1⟩ := h1
        simp only [List.cons.injEq, and_true] at hu
        subst hu
        rcases h1 with ⟨rfl, rfl, b, cap, rfl, _⟩ | ⟨b, off, cap, rows, rfl, rfl, g1, g2, g0, g3, g4⟩
        · simp only [List.length_nil] at z1 z2
          refine ⟨_, .nil, run_sliceAt_slice hel' hi' hl hh z1 (by omega) w, ⟨?_, by simp [fp]⟩, rfl⟩
          simp only [Rep]
          refine ⟨_, rfl, .inl ⟨rfl, ?_, ?_⟩⟩
          · refine List.eq_nil_of_length_eq_zero ?_
            rw [cut_length lo hi ([] : List k.T) (by simpa using z2)]
            simp only [List.length_nil]
            omega
          · exact ⟨_, _, by rw [show hi.getD 0 - lo.getD 0 = 0 by omega], by simp⟩
        · have hsl : SliceIs k.size y.length (hdOf (.node b off cap rows)) lo hi (.slice (if cap = lo.getD 0 then some ⟨b, off, none⟩ else (some (⟨b, off, none⟩ : Addr)).map (·.add (lo.getD 0 * (tyOf P el).size))) (hi.getD y.length - lo.getD 0) (cap - lo.getD 0)) := by
            refine ⟨z1, z2, ?_⟩
            simp only [hdOf]
            refine ⟨g1, ?_⟩
            by_cases hq : cap = lo.getD 0
            · rw [if_pos hq]
              exact ⟨off, rfl, fun q => by omega⟩
            · rw [if_neg hq]
              refine ⟨off + lo.getD 0 * k.size, ?_, fun _ => rfl⟩
              simp [addr_add, hsz]
          have hrep : RepL false w k.size (Rep false w k) y (.node b off cap rows) (.slice (some ⟨b, off, none⟩) y.length cap) := .inr ⟨b, off, cap, rows, rfl, rfl, g1, g2, g0, g3, g4⟩
          have hrc := hrep.cut hsl
          refine ⟨_, _, run_sliceAt_slice hel' hi' hl hh z1 (by omega) w, ⟨hrc.rep, fun b' hb' => h2 b' ?_⟩, rfl⟩
          exact (cutL_sublist k k.size lo hi y.length _).subset hb'
      · simp at h
    | str =>
      simp only [sliceC] at h
      split at h
      · rename_i hz
        obtain ⟨z1, z2⟩ := hz
        simp only [Option.some.injEq] at h
        subst h
        rw [dat_str hc]
        exact ⟨_, .leaf, run_sliceAt_string (fits_str hfit) hl hh z1 z2 w, str_ok _ _ _ _, rfl⟩
      · simp at h
    | _ => simp [sliceC] at h
  | ref s j rv sv p a0 b0 k =>
    simp only [sliceC] at h
    cases hlen : lenC get (.ref s j rv sv p a0 b0 k) with
    | none => rw [hlen] at h; simp at h
    | some m =>
      rw [hlen] at h
      simp only at h
      split at h
      · rename_i hz
        obtain ⟨z1, z2⟩ := hz
        simp only [Option.some.injEq] at h
        subst h
        obtain ⟨el, hel'⟩ := fits_slice hfit (by simp)
        obtain ⟨i, hi'⟩ := hel el hel'
        have hsz := hk' el s j rv sv p a0 b0 k hel' rfl
        simp only [lenC] at hlen
        cases hcon : content get s j rv sv p k with
        | none => rw [hcon] at hlen; simp at hlen
        | some q =>
          obtain ⟨d, l⟩ := q
          rw [hcon] at hlen
          simp only [Option.map_some, Option.some.injEq] at hlen
          obtain ⟨sv', k0, l0, q1, q2, q3⟩ := content_ok hs hcon
          obtain ⟨r1, r2, r3, r4⟩ := ref_reads hinv hc q1 q2 q3
          have hlc := cut_length a0 b0 l r1.2.1
          obtain ⟨s1, s2, s3⟩ := r1
          -- the value, and its new one
          have key : ∀ b cap', v = .slice b m cap' → m ≤ cap' →
              (∀ hd, SliceIs k.size l.length hd a0 b0 v → SliceIs k.size l.length hd (subOf a0 lo a0) (subOf a0 hi b0) (.slice (if cap' = lo.getD 0 then b else b.map (·.add (lo.getD 0 * (tyOf P el).size))) (hi.getD m - lo.getD 0) (cap' - lo.getD 0))) := by
            intro b cap' hv hmc hd hsl
            obtain ⟨e1, e2, e3⟩ := hsl
            have y1 : (subOf a0 lo a0).getD 0 = a0.getD 0 + lo.getD 0 := by rw [off_one]; cases lo <;> simp
            have y2 : (subOf a0 hi b0).getD l.length = a0.getD 0 + hi.getD m := by
              rw [off_one]
              cases hi with
              | none => simp only [Option.getD_none]; omega
              | some q => simp
            have hm' : m = b0.getD l.length - a0.getD 0 := by rw [← hlen, hlc]
            refine ⟨by rw [y1, y2]; omega, by rw [y2]; omega, ?_⟩
            cases hd with
            | none =>
              obtain ⟨b1, e4, e5⟩ := e3
              rw [hv] at e4
              simp only [Value.slice.injEq] at e4
              obtain ⟨rfl, e6, e7⟩ := e4
              subst e7
              exact ⟨_, by rw [show hi.getD m - lo.getD 0 = 0 by omega, show 0 - lo.getD 0 = 0 by omega], e5⟩
            | some bb =>
              obtain ⟨bb, off, cap⟩ := bb
              obtain ⟨e4, o', e5, e6⟩ := e3
              rw [hv] at e5
              simp only [Value.slice.injEq] at e5
              obtain ⟨rfl, e7, e8⟩ := e5
              refine ⟨e4, ?_⟩
              rw [y1, y2]
              by_cases hq : cap' = lo.getD 0
              · rw [if_pos hq]
                refine ⟨o', ?_, fun q => by omega⟩
                congr 1 <;> omega
              · rw [if_neg hq]
                refine ⟨o' + lo.getD 0 * k.size, ?_, fun q => ?_⟩
                · simp only [Option.map_some, addr_add, hsz]
                  congr 1 <;> omega
                · rw [e6 (by omega), Nat.add_mul, Nat.add_assoc]
          have hval : ∃ b cap', v = .slice b m cap' ∧ m ≤ cap' := by
            cases hhd : hdOf (subL k0 (G.lt s j) p) with
            | none =>
              rw [hhd] at s3
              obtain ⟨b1, e4, e5⟩ := s3
              exact ⟨b1, 0, by rw [e4]; congr 1; omega, by omega⟩
            | some bb =>
              obtain ⟨bb, off, cap⟩ := bb
              rw [hhd] at s3
              obtain ⟨e4, o', e5, e6⟩ := s3
              exact ⟨_, _, by rw [e5]; congr 1; omega, by omega⟩
          obtain ⟨b, cap', hv, hmc⟩ := hval
          refine ⟨_, .leaf, by rw [hv]; exact run_sliceAt_slice hel' hi' hl hh z1 (by omega) w, ⟨hc.1, hc.2.1, fun sv1 d1 k1 l1 t1 t2 => ?_⟩, rfl⟩
          obtain ⟨nn, hd, t3, t4⟩ := hc.2.2 sv1 d1 k1 l1 t1 t2
          have t1 := some_of_getD t1 (by simp)
          rw [q1] at t1
          simp only [Option.some.injEq, C.own.injEq] at t1
          obtain ⟨_, rfl, rfl, rfl, t1⟩ := t1
          have t1 := eq_of_heq t1
          subst t1
          obtain ⟨u1, u2, u3, u4⟩ := t3
          rw [q3] at u3
          simp only at u3
          subst u3
          exact ⟨l.length, hd, ⟨u1, by rw [q3], by rw [q3], u4⟩, key b cap' hv hmc hd t4⟩
      · simp at h
  | _ => simp [sliceC] at h

theorem sound_slice {ty : TypeId} {y : Operand} {vl vh : Option Operand} (hty : ∀ t, x.ty t = tyOf P t) (hb : Begin n e a w G get o) (ho : o.op = .slice ty y vl vh none) (h : act x get o = some ws) : Sound P n e a w G o ws := by
  have hty' : x.ty = tyOf P := funext hty
  have key : ∀ (c c' : C) (lo hi : Option Nat), opd get y = some (.one, [c]) → slFits x.ty ty c = true → IsBound (vl.map a.eval) lo → IsBound (vh.map a.eval) hi → sliceC get c lo hi = some c' →
      some (Tr.lay { get, d := o.dst } o.dst (.one, [c'])).ws = some ws → Sound P n e a w G o ws := by
    intro c c' lo hi hc hf hl hh hs hw
    obtain ⟨L, h1, hno⟩ := hb.one (by simp [ho, Op.operands]) hc
    rw [hty'] at hf
    obtain ⟨r, L', h2, h3, h4⟩ := slice_ok (P := P) (t := ty) hb.inv hb.sees h1 hf hl hh hs
    obtain ⟨G', hp⟩ := hb.cell h3 h4 hw
    refine Sound.value ?_ hp
    simp only [execOp, ho]
    exact run_v h2
  have nb : ∀ (z : Operand) (c : C) (m : Nat), z ∈ o.op.operands → opd get z = some (.one, [c]) → natOf c = some m → IsBound (some (a.eval z)) (some m) := by
    intro z c m hz hc hm
    obtain ⟨L, h1, _⟩ := hb.one hz hc
    obtain ⟨ik, hq⟩ := nat_of hm h1
    exact .inr ⟨ik, m, by rw [hq], rfl⟩
  have bb : ∀ (z : Option Operand) (m : Option Nat), (∀ z', z = some z' → z' ∈ o.op.operands) → boundOf get z = some m → IsBound (z.map a.eval) m := by
    intro z m hz hm
    cases z with
    | none => simp only [boundOf, Option.some.injEq] at hm; subst hm; exact .inl ⟨rfl, rfl⟩
    | some z =>
      simp only [boundOf] at hm
      split at hm
      · rename_i c hc
        cases hn : natOf c with
        | none => rw [hn] at hm; simp at hm
        | some q =>
          rw [hn] at hm
          simp only [Option.map_some, Option.some.injEq] at hm
          subst hm
          exact nb z c q (hz z rfl) hc hn
      · simp at hm
  simp only [act, ho] at h
  split at h
  · rename_i c l h' hc hl hh
    split at h
    · simp at h
    · rename_i hfit
      split at h
      · rename_i c' hs
        exact key c c' l h' hc (by simpa using hfit) (bb vl l (by rintro z rfl; simp [ho, Op.operands]) hl) (bb vh h' (by rintro z rfl; simp [ho, Op.operands]) hh) hs h
      · simp at h
  · simp at h

end ops

end Go.Mach
/- The machine, part n: least and greatest, function values, parts of tuples, conversions, variables, new blocks. No condition: lemmas. -/
namespace Go.Mach
set_option linter.unusedVariables false
set_option linter.unusedSimpArgs false

/-! ### A value with data of its own, laid -/
def FormOf (sh : Sh) (u : Value) (vs : List Value) (bk : Nat) : Prop := match sh with
  | .dead => True
  | .box _ => u = .pointer (some ⟨bk, 0, none⟩)
  | sh => u = form sh vs

theorem lay_new {n : Nat} {e0 e : Env} {a : Act} {w w' : World} {G0 G : Gh} {t : Tr} (h : Inv n e a.tmps w G) (ht : TrOk e0 t e) (hst : Held n e0.length w w G0 G) {sh : Sh} {cs : List C} {vs : List Value} {Ls : Nat → LT} {bk : Nat} {H : List Nat} {u : Value}
    (hsize : w.heap.size ≤ w'.heap.size) (hsame : ∀ b, b ∉ H → w.heap[b]? ≠ none → w'.heap[b]? = w.heap[b]?)
    (hH : ∀ b ∈ H, Loose e G b ∧ (G.ow b ≠ none ∨ w.heap[b]? = none) ∧ b < w'.heap.size)
    (hHo : ∀ b ∈ H, ∀ t, G.ow b = some t → t < e.length)
    (hlen : vs.length = cs.length) (hcell : ∀ (j : Nat) c v, cs[j]? = some c → vs[j]? = some v → NewOk e w G w' H c v (Ls j))
    (hnd : (boxB sh bk ++ fpCells Ls 0 cs).Nodup) (hsub : ∀ b ∈ boxB sh bk ++ fpCells Ls 0 cs, b ∈ H)
    (hdead : sh = .dead → cs = [])
    (hbox : ∀ bv, sh = .box bv → ∃ ty, w'.heap[bk]? = some (.cells vs.toArray ty (0, 0)))
    (hform : FormOf sh u vs bk) {d : Nat} (hd : t.d = some d) (hdn : d < n) (henv : SameEnv w w' := by first | exact ⟨rfl, rfl, rfl⟩ | assumption) :
    ∃ G', Post n (e0.puts (t.lay (some d) (sh, cs)).ws) a w G0 (a.put (some d) u) w' G' := by
  have hat := ht.dst d hd
  have hlen' : d < e.length := Nat.lt_of_lt_of_le hdn h.elen
  simp only [Tr.lay]
  rw [(ht.put ((t.at d).lay sh cs) hlen').puts, hat]
  have := h.lay (w' := w') d sh cs vs Ls bk H hsize hsame hH hlen hcell hnd hsub hdead hbox (a.put (some d) u).tmps (by rw [put_size]; exact h.size)
    (fun t' ht' hn => by rw [put_tmps]; simp [Ne.symm ht'])
    (fun hn => by
      have hu : (a.put (some d) u).tmps[d]? = some u := by rw [put_tmps]; simp [h.size, hdn]
      revert hform
      cases sh <;> simp only [FormOf, FormIs] <;> intro q <;> first | trivial | (rw [hu, q]))
  refine ⟨_, this, ⟨fun b q1 q2 => ?st, fun s hs => ⟨fun q => ⟨(upd_ne _ _ (by omega)).trans ((hst.vs s hs).1 q).1, fun j => by rw [show (G.lay d vs Ls bk H).lt s = G.lt s from upd_ne _ _ (by omega)]; exact ((hst.vs s hs).1 q).2 j⟩, (show (G.lay d vs Ls bk H).bk s = G.bk s from upd_ne _ _ (by omega)).trans (hst.vs s hs).2⟩, fun b t q1 q2 q3 => ?out⟩, hsize, put_defers _ _ _, henv⟩
  case st =>
    have how := (hst.still b q1 q2).2
    have hnH : b ∉ H := fun hb => by
      rcases (hH b hb).2.1 with g | g
      · exact g how
      · exact q2 g
    exact ⟨hsame b hnH q2, by simp [Gh.lay, hnH, how]⟩
  case out =>
    have hl : (e.set d ((e.get d).lay sh cs)).length = e0.length := by rw [List.length_set, ht.length]
    have q2 : e0.length ≤ t := by rw [← hl]; exact q2
    have how := (hst.out b t q1 q2 q3).2
    have hnH : b ∉ H := fun hb => by
      have := hHo b hb t how
      rw [ht.length] at this
      omega
    exact ⟨hsame b hnH q3, by simp [Gh.lay, hnH, how]⟩

theorem own_dst {t : Tr} {d : Option Nat} {v : Val} {ws : Writes} (h : t.own d v = some ws) : ∃ d', d = some d' ∧ (t.lay (some d') v).ws = ws := by
  cases d with
  | none => simp [Tr.own] at h
  | some d => simp only [Tr.own, Option.some.injEq] at h; exact ⟨d, rfl, h⟩

theorem take_d (vars : List Nat) : ∀ (cs : List C) (t : Tr), (t.take vars cs).1.d = t.d
  | [], t => rfl
  | c :: r, t => by
    simp only [Tr.take]
    split
    · split
      · split
        · rw [take_d vars r]; rfl
        · rw [take_d vars r]
      · rw [take_d vars r]
    · rw [take_d vars r]

theorem grab_d {t t' : Tr} {c : C} {k : K} {x : k.T} {d : Bool} (h : t.grab c k = some (t', x, d)) : t'.d = t.d := by
  cases c with
  | dat k' y => simp only [Tr.grab] at h; split at h <;> simp_all
  | nil => simp only [Tr.grab] at h; split at h <;> simp_all
  | ref s j rv sv p lo hi k1 =>
    simp only [Tr.grab] at h
    split at h
    · split at h
      · split at h
        · simp at h
        · split at h <;> (simp only [Option.some.injEq, Prod.mk.injEq] at h; obtain ⟨rfl, _⟩ := h; rfl)
      · simp at h
    · simp at h
  | _ => simp [Tr.grab] at h

theorem pack_d : ∀ (k : K) {t t' : Tr} {cs : List C} {x : k.T} {d : Bool}, t.pack k cs = some (t', x, d) → t'.d = t.d
  | .pair a b, t, t', cs, x, d, h => by
    simp only [Tr.pack] at h
    split at h
    · simp at h
    · rename_i h1
      split at h
      · simp at h
      · rename_i h2
        simp only [Option.some.injEq, Prod.mk.injEq] at h
        obtain ⟨rfl, _⟩ := h
        rw [pack_d b h2, pack_d a h1]
  | .int i, t, t', cs, x, d, h => by simp only [Tr.pack] at h; split at h <;> first | exact grab_d h | simp at h
  | .bool, t, t', cs, x, d, h => by simp only [Tr.pack] at h; split at h <;> first | exact grab_d h | simp at h
  | .str, t, t', cs, x, d, h => by simp only [Tr.pack] at h; split at h <;> first | exact grab_d h | simp at h
  | .list k, t, t', cs, x, d, h => by simp only [Tr.pack] at h; split at h <;> first | exact grab_d h | simp at h

theorem packs_d {k : K} : ∀ (css : List (List C)) {t t' : Tr} {l : List k.T} {d : Bool}, t.packs k css = some (t', l, d) → t'.d = t.d
  | [], t, t', l, d, h => by simp only [Tr.packs, Option.some.injEq, Prod.mk.injEq] at h; rw [h.1]
  | cs :: r, t, t', l, d, h => by
    simp only [Tr.packs] at h
    split at h
    · simp at h
    · rename_i h1
      split at h
      · simp at h
      · rename_i h2
        simp only [Option.some.injEq, Prod.mk.injEq] at h
        obtain ⟨rfl, _⟩ := h
        rw [packs_d r h2, pack_d k h1]

/-! ### Values as cells -/
theorem Rep.oneCell {d : Bool} {w : World} {k : K} {x : k.T} {L : LT} {v : Value} (h : Rep d w k x L [v]) : v.oneCell' = true := by
  induction k generalizing d L v with
  | int _ => simp only [Rep] at h; simp only [List.cons.injEq, and_true] at h; subst h; rfl
  | bool => simp only [Rep] at h; simp only [List.cons.injEq, and_true] at h; subst h; rfl
  | str => simp only [Rep] at h; simp only [List.cons.injEq, and_true] at h; subst h; rfl
  | list k _ =>
    simp only [Rep] at h
    obtain ⟨u, hu, h⟩ := h
    simp only [List.cons.injEq, and_true] at hu
    subst hu
    rcases h with ⟨_, _, a, cap, rfl, _⟩ | ⟨b, off, cap, rows, _, rfl, _⟩ <;> rfl
  | pair a b _ _ =>
    have := h.size
    simp only [K.size, List.length_singleton] at this
    have h1 := a.size_pos
    have h2 := b.size_pos
    omega

theorem sliceIs_one {sz m : Nat} {hd : Option (Nat × Nat × Nat)} {lo hi : Option Nat} {v : Value} (h : SliceIs sz m hd lo hi v) : v.oneCell' = true := by
  obtain ⟨_, _, h⟩ := h
  cases hd with
  | none => obtain ⟨a, rfl, _⟩ := h; rfl
  | some b => obtain ⟨b, off, cap⟩ := b; obtain ⟨_, o, rfl, _⟩ := h; rfl

theorem solid_one {n : Nat} {e : Env} {tm : Array Value} {w : World} {G : Gh} {get : Nat → Slot} (hs : Sees get e) {c : C} {v : Value} {L : LT} (hc : CellOk e w G c v L)
    (h : c.solid get = true) : v.oneCell' = true := by
  cases c with
  | dead => simp [C.solid] at h
  | nil => obtain rfl : v = .slice none 0 0 := hc; rfl
  | dat k x => exact Rep.oneCell hc.1
  | own rv sv d k l =>
    obtain ⟨h1, _⟩ := hc
    rcases h1 with ⟨_, _, a, cap, rfl, _⟩ | ⟨b, off, cap, rows, _, rfl, _⟩ <;> rfl
  | ref s j rv sv p lo hi k =>
    simp only [C.solid] at h
    obtain ⟨q, hq⟩ := Option.isSome_iff_exists.1 h
    obtain ⟨d, l⟩ := q
    obtain ⟨sv', k0, l0, q1, q2, q3⟩ := content_ok hs hq
    obtain ⟨m, hd, _, h4⟩ := CellOk.refFits hc q1 q2
    exact sliceIs_one h4
  | bptr s bv j => obtain ⟨_, _, b, o, rfl⟩ := hc; rfl
  | aptr s j rv sv p i c k => obtain ⟨⟨b, o, rfl⟩, _⟩ := hc; rfl
  | pim cs j => obtain ⟨b, o, vs, Ls, rfl, _⟩ := hc; rfl
  | fn f caps => obtain ⟨us, Ls, rfl, _⟩ := hc; rfl

theorem cells_one {v : Value} (h : v.oneCell' = true) : v.cells = #[v] := by cases v <;> first | rfl | (simp [Value.oneCell'] at h)

/-- The cells of a value that is whole. -/
theorem form_cells {n : Nat} {e : Env} {tm : Array Value} {w : World} {G : Gh} {get : Nat → Slot} (hs : Sees get e) {v : Val} {u : Value} {vs : List Value} {Ls : Nat → LT} (hv : ValOk e w G v u vs Ls)
    (hw : whole get v = true) : u.cells = vs.toArray ∧ ∀ x ∈ vs, x.oneCell' = true := by
  simp only [whole, Bool.and_eq_true, Bool.or_eq_true, decide_eq_true_eq] at hw
  obtain ⟨⟨hsh, hsolid⟩, h1⟩ := hw
  have hone : ∀ x ∈ vs, x.oneCell' = true := by
    intro x hx
    obtain ⟨j, hj⟩ := List.getElem?_of_mem hx
    have hlt : j < v.2.length := by rw [← hv.cells.len]; exact (List.getElem?_eq_some_iff.1 hj).1
    have hc := hv.cells.cell j _ x (List.getElem?_eq_getElem hlt) hj
    exact solid_one (n := n) (tm := tm) hs hc (List.all_eq_true.1 hsolid _ (List.getElem_mem hlt))
  refine ⟨?_, hone⟩
  rw [hv.form]
  cases hq : v.1 with
  | one =>
    rcases h1 with h1 | h1
    · rw [hq] at h1; cases h1
    · have : vs.length = 1 := by rw [hv.cells.len, h1]
      match vs, this with
      | [x], _ => exact cells_one (hone x (by simp))
  | agg => rfl
  | _ => rw [hq] at hsh; simp [Sh.isV] at hsh

section ops
variable {P : Program} {n : Nat} {e : Env} {a : Act} {w : World} {G : Gh} {get : Nat → Slot} {o : Oper} {x : Ctx} {ws : Writes}

theorem Begin.solid (hb : Begin n e a w G get o) {c : C} {v : Value} {L : LT} (hc : CellOk e w G c v L) (h : c.solid get = true) : v.oneCell' = true := solid_one (n := n) (tm := a.tmps) hb.sees hc h

/-! ### Least and greatest -/
theorem sound_max {c0 : Call} (hb : Begin n e a w G get o) (ho : o.op = .call c0) (hcb : c0.callee = .builtin .max) {k : IntKind} {p q : Int}
    (hc : opds get c0.args.toList = some [(.one, [.dat (.int k) p]), (.one, [.dat (.int k) q])])
    (h : some (Tr.lay { get, d := o.dst } o.dst (.one, [.dat (.int k) (if q > p then q else p)])).ws = some ws) : Sound P n e a w G o ws := by
  obtain ⟨y, z, hargs, hy, hz⟩ := opds_two hc
  obtain ⟨L, h1, _⟩ := hb.one (by simp [ho, Op.operands, Call.operands, hcb, hargs]) hy
  obtain ⟨M, h2, _⟩ := hb.one (by simp [ho, Op.operands, Call.operands, hcb, hargs]) hz
  obtain ⟨G', hp⟩ := hb.cell (int_ok e w G k _) rfl h
  refine Sound.value ?_ hp
  simp only [execOp, ho, resolve, hcb, hargs, Sem.run_bind, Sem.run_pure, Result.andThen_ok, invoke, builtin, Builtin.max_]
  simp [dat_int h1, dat_int h2, Builtin.max2]

theorem sound_min {c0 : Call} (hb : Begin n e a w G get o) (ho : o.op = .call c0) (hcb : c0.callee = .builtin .min) {k : IntKind} {p q : Int}
    (hc : opds get c0.args.toList = some [(.one, [.dat (.int k) p]), (.one, [.dat (.int k) q])])
    (h : some (Tr.lay { get, d := o.dst } o.dst (.one, [.dat (.int k) (if q < p then q else p)])).ws = some ws) : Sound P n e a w G o ws := by
  obtain ⟨y, z, hargs, hy, hz⟩ := opds_two hc
  obtain ⟨L, h1, _⟩ := hb.one (by simp [ho, Op.operands, Call.operands, hcb, hargs]) hy
  obtain ⟨M, h2, _⟩ := hb.one (by simp [ho, Op.operands, Call.operands, hcb, hargs]) hz
  obtain ⟨G', hp⟩ := hb.cell (int_ok e w G k _) rfl h
  refine Sound.value ?_ hp
  simp only [execOp, ho, resolve, hcb, hargs, Sem.run_bind, Sem.run_pure, Result.andThen_ok, invoke, builtin, Builtin.min_]
  simp [dat_int h1, dat_int h2, Builtin.min2]

/-! ### Parts of tuples -/
theorem cutVals_get : ∀ (ps : List (Option Nat)) (vs : List Value) (i : Nat) (q : Option Nat), ps[i]? = some q →
    (cutVals ps vs)[i]? = some (form (partSh q) ((vs.drop (tupOff ps i)).take (partN q)))
  | [], vs, i, q, h => by simp at h
  | none :: r, vs, 0, q, h => by
    simp only [List.getElem?_cons_zero, Option.some.injEq] at h
    subst h
    simp only [cutVals, List.getElem?_cons_zero, tupOff, List.drop_zero, partSh, partN, form]
    cases vs <;> simp
  | some m :: r, vs, 0, q, h => by
    simp only [List.getElem?_cons_zero, Option.some.injEq] at h
    subst h
    simp [cutVals, tupOff, partSh, partN, form]
  | none :: r, vs, i + 1, q, h => by
    simp only [List.getElem?_cons_succ] at h
    simp only [cutVals, List.getElem?_cons_succ, tupOff]
    rw [cutVals_get r _ i q h, List.drop_drop]
    rfl
  | some m :: r, vs, i + 1, q, h => by
    simp only [List.getElem?_cons_succ] at h
    simp only [cutVals, List.getElem?_cons_succ, tupOff]
    rw [cutVals_get r _ i q h, List.drop_drop]
    rfl

theorem sound_extract {y : Operand} {i : Nat} (hb : Begin n e a w G get o) (ho : o.op = .extract y i) (h : act x get o = some ws) : Sound P n e a w G o ws := by
  simp only [act, ho] at h
  split at h
  · rename_i ps cs hc
    split at h
    · rename_i q hq
      obtain ⟨vs, Ls, hval⟩ := hb.opd (by simp [ho, Op.operands]) hc
      have hv : ValOk e w G (partSh q, (cs.drop (tupOff ps i)).take (partN q)) (form (partSh q) ((vs.drop (tupOff ps i)).take (partN q))) ((vs.drop (tupOff ps i)).take (partN q)) (fun j => Ls (tupOff ps i + j)) :=
        ⟨(hval.cells.drop (tupOff ps i)).take (partN q), rfl, fun c hc => hval.noOwn c (List.mem_of_mem_drop (List.mem_of_mem_take hc)), fun bv => by cases q <;> simp [partSh], by cases q <;> simp [partSh]⟩
      obtain ⟨G', hp⟩ := hb.done hv h
      refine Sound.value ?_ hp
      simp only [execOp, ho]
      refine run_v ?_
      have hf : a.eval y = .tuple (cutVals ps vs).toArray := hval.form
      simp only [Instr.extract, hf, List.getElem?_toArray, cutVals_get ps vs i q hq]
      rfl
    · simp at h
  · simp at h

/-! ### Function values -/
theorem opds_get : ∀ (ys : List Operand) {vs : List Val}, opds get ys = some vs → vs.length = ys.length ∧ ∀ (i : Nat) y v, ys[i]? = some y → vs[i]? = some v → opd get y = some v
  | [], vs, h => by rw [opds_nil h]; simp
  | y :: r, vs, h => by
    obtain ⟨v, vs', rfl, h1, h2⟩ := opds_cons h
    obtain ⟨g1, g2⟩ := opds_get r h2
    refine ⟨by simp [g1], fun i y' v' hy hv => ?_⟩
    cases i with
    | zero => simp at hy hv; subst hy; subst hv; exact h1
    | succ i => simp at hy hv; exact g2 i y' v' hy hv

theorem ones_get : ∀ (vs : List Val) {cs : List C}, ones vs = some cs → vs = cs.map fun c => (Sh.one, [c])
  | [], cs, h => by simp only [ones, Option.some.injEq] at h; subst h; rfl
  | v :: r, cs, h => by
    simp only [ones] at h
    split at h
    · rename_i c cs' h1 h2
      simp only [Option.some.injEq] at h
      subst h
      rw [ones_get r h2]
      simp only [one?] at h1
      split at h1
      · simp only [Option.some.injEq] at h1; subst h1; rfl
      · simp at h1
    · simp at h

theorem CellOk.zero {c : C} {v : Value} {L : LT} (h : CellOk e w G c v L) (hf : c.isFn = false) : CellOk0 e w G c v L := by
  cases c with
  | fn f cs => simp [C.isFn] at hf
  | _ => exact h

theorem sound_makeFunc {f : Fn} {first caps : Array Operand} (hb : Begin n e a w G get o) (ho : o.op = .makeFunc f first caps) (h : act x get o = some ws) : Sound P n e a w G o ws := by
  simp only [act, ho] at h
  split at h
  · rename_i g vs hfirst hvs
    split at h
    · rename_i cs hcs
      split at h
      · rename_i hall
        obtain ⟨hl, hg⟩ := opds_get _ hvs
        have hv1 := ones_get vs hcs
        have hfirst' : first = #[] := by rw [← Array.toArray_toList (xs := first), hfirst]
        have cell : ∀ (i : Nat) y c, caps.toList[i]? = some y → cs[i]? = some c → ∃ L, CellOk e w G c (a.eval y) L ∧ c.isOwn = false := by
          intro i y c hy hc
          have := hg i y (.one, [c]) hy (by rw [hv1]; simp [hc])
          refine hb.one (by simp only [ho, Op.operands]; simp only [Array.mem_append]; exact .inr (Array.mem_toList_iff.1 (List.mem_of_getElem? hy))) this
        have hcl : cs.length = caps.toList.length := by rw [← hl, hv1]; simp
        have : ∀ i : Nat, ∃ L : LT, ∀ (y : Operand) (c : C), caps.toList[i]? = some y → cs[i]? = some c → CellOk e w G c (a.eval y) L ∧ c.isOwn = false := by
          intro i
          cases hy : caps.toList[i]? with
          | none => exact ⟨.leaf, by simp⟩
          | some y =>
            cases hc : cs[i]? with
            | none => exact ⟨.leaf, by simp⟩
            | some c =>
              obtain ⟨L, h1⟩ := cell i y c hy hc
              exact ⟨L, by simpa using h1⟩
        obtain ⟨Ls, hLs⟩ := Classical.axiomOfChoice this
        have hc : CellOk e w G (.fn g cs) (.func (.func g) #[] (caps.map a.eval)) .leaf := by
          refine ⟨caps.toList.map a.eval, Ls, by rw [← Array.toList_map, Array.toArray_toList], by rw [List.length_map, hcl], fun i c u hc hu => ?_⟩
          rw [List.getElem?_map] at hu
          cases hy : caps.toList[i]? with
          | none => rw [hy] at hu; simp at hu
          | some y =>
            rw [hy] at hu
            simp only [Option.map_some, Option.some.injEq] at hu
            subst hu
            obtain ⟨h1, h2⟩ := hLs i y c hy hc
            have h3 : c.isFn = false := by simpa using List.all_eq_true.1 hall c (List.mem_of_getElem? hc)
            exact ⟨h3, h2, h1.zero h3⟩
        obtain ⟨G', hp⟩ := hb.cell hc rfl h
        refine Sound.value ?_ hp
        simp only [execOp, ho]
        refine run_v ?_
        simp [Instr.makeFunc, hfirst']
      · simp at h
    · simp at h
  · simp at h

end ops

end Go.Mach
/- The machine, part o: conversions, variables, new blocks. No condition: lemmas. -/
namespace Go.Mach
set_option linter.unusedVariables false
set_option linter.unusedSimpArgs false

theorem tyK_int {P : Program} {t : Nat} {k : IntKind} : ∀ (m : Nat), tyK P m t = some (.int k) → (∀ fs, P.underlying t ≠ some (.struct fs)) → P.underlying t = some (.int k)
  | 0, h, _ => by simp [tyK] at h
  | m + 1, h, hn => by
    simp only [tyK] at h
    split at h
    · rename_i k' hu
      simp only [Option.some.injEq, K.int.injEq] at h
      rw [hu, h]
    · simp at h
    · simp at h
    · rename_i e _
      cases hq : tyK P m e <;> simp [hq] at h
    · rename_i fs hu
      exact absurd hu (hn fs)
    · simp at h

theorem intTi_ok {P : Program} {t : Nat} {k : IntKind} (h : intTi (tyOf P t) = some k) : P.underlying t = some (.int k) := by
  simp only [intTi] at h
  split at h
  · simp at h
  · rename_i hagg
    split at h
    · rename_i k' hk
      simp only [Option.some.injEq] at h
      subst h
      cases hi : P.info? t with
      | none => simp [tyOf, hi] at hk
      | some i =>
        have hkk := hk
        simp only [tyOf, hi] at hk
        split at hk
        · rename_i q hq
          split at hk
          · simp only [Option.some.injEq] at hk
            subst hk
            refine tyK_int 12 hq fun fs hu => ?_
            apply hagg
            simp [Ti.agg, tyOf, hi, tyD, hu]
          · simp at hk
        · simp at hk
    · simp at h

theorem u8Row_ok {P : Program} {t : Nat} (h : u8Row (tyOf P) t = true) : ∃ e, P.underlying t = some (.slice e) ∧ P.underlying e = some (.int .u8) := by
  simp only [u8Row] at h
  split at h
  · rename_i e hd
    exact ⟨e, ty_slice hd, intTi_ok (by simpa using h)⟩
  · simp at h

/-! ### Zero values -/
def zLT : K → LT
  | .list _ => .nil
  | .pair a b => .pair (zLT a) (zLT b)
  | _ => .leaf

theorem fp_zLT : ∀ k : K, fp k (zLT k) = []
  | .int _ => rfl
  | .bool => rfl
  | .str => rfl
  | .list _ => rfl
  | .pair a b => by simp [fp, zLT, fp_zLT a, fp_zLT b]

theorem litC_int {v : Value} {k : IntKind} {m : Int} (h : litC v = .dat (.int k) m) : v = .int k m := by
  unfold litC at h
  split at h <;> simp_all

theorem litC_bool {v : Value} {b : Bool} (h : litC v = .dat .bool b) : v = .bool b := by
  unfold litC at h
  split at h <;> simp_all

theorem litC_str {v : Value} {s : List UInt8} (h : litC v = .dat .str s) : v = .string ⟨⟨s⟩⟩ := by
  unfold litC at h
  split at h <;> simp_all
  rw [← h]

theorem litC_nil {v : Value} (h : litC v = .nil) : v = .slice none 0 0 := by
  unfold litC at h
  split at h <;> simp_all

theorem one_of_map {zs : List Value} {c : C} (h : zs.map litC = [c]) : ∃ v, zs = [v] ∧ litC v = c := by
  match zs, h with
  | [v], h => exact ⟨v, rfl, by simpa using h⟩

theorem isZero_ok {d : Bool} {w : World} : ∀ (k : K) (zs : List Value), isZero k (zs.map litC) = true → Rep d w k k.dflt (zLT k) zs
  | .int i, zs, h => by
    simp only [isZero] at h
    split at h
    · rename_i heq
      obtain ⟨v, rfl, hv⟩ := one_of_map heq
      simp only [decide_eq_true_eq] at h
      obtain ⟨rfl, rfl⟩ := h
      simp [Rep, K.dflt, litC_int hv]
    · simp at h
  | .bool, zs, h => by
    simp only [isZero] at h
    split at h
    · rename_i b heq
      obtain ⟨v, rfl, hv⟩ := one_of_map heq
      cases b <;> simp at h
      simp [Rep, K.dflt, litC_bool hv]
    · simp at h
  | .str, zs, h => by
    simp only [isZero] at h
    split at h
    · rename_i s heq
      obtain ⟨v, rfl, hv⟩ := one_of_map heq
      cases s <;> simp at h
      simp [Rep, K.dflt, litC_str hv]
    · simp at h
  | .list k, zs, h => by
    simp only [isZero] at h
    split at h
    · rename_i heq
      obtain ⟨v, rfl, hv⟩ := one_of_map heq
      simp only [Rep, K.dflt, zLT]
      exact ⟨v, rfl, .inl ⟨rfl, rfl, none, 0, litC_nil hv, fun _ => rfl⟩⟩
    · simp at h
  | .pair a b, zs, h => by
    simp only [isZero, Bool.and_eq_true, ← List.map_take, ← List.map_drop] at h
    simp only [Rep, K.dflt, zLT]
    exact ⟨_, _, _, _, rfl, (List.take_append_drop a.size zs).symm, isZero_ok a _ h.1, isZero_ok b _ h.2⟩

theorem isZero_nil : ∀ k : K, isZero k [] = false
  | .int _ => rfl
  | .bool => rfl
  | .str => rfl
  | .list _ => rfl
  | .pair a b => by simp [isZero, isZero_nil a]

section ops
variable {P : Program} {n : Nat} {e : Env} {a : Act} {w : World} {G : Gh} {get : Nat → Slot} {o : Oper} {x : Ctx} {ws : Writes}

theorem Sound.new {u : Value} {w' : World} (h : (execOp a.eval o).run P w = .ok (.value u) w') {d : Nat} (hd : o.dst = some d) {t : Tr} {v : Val} (hp : ∃ G', Post n (e.puts (t.lay (some d) v).ws) a w G (a.put (some d) u) w' G')
    (hws : (t.lay (some d) v).ws = ws) : Sound P n e a w G o ws := by
  obtain ⟨G', hp⟩ := hp
  rw [hws] at hp
  exact Sound.value h (by rw [hd]; exact hp)

/-! ### A new row -/
theorem alloc_same (w : World) (ob : Obj) (b : Nat) (h : w.heap[b]? ≠ none) : (w.alloc ob).heap[b]? = w.heap[b]? := by
  have : b < w.heap.size := by
    rcases Nat.lt_or_ge b w.heap.size with q | q
    · exact q
    · exact absurd (Array.getElem?_eq_none q) h
  exact heap_alloc_old w ob b this

theorem Inv.fresh {tm : Array Value} (h : Inv n e tm w G) {t : Nat} (ht : G.ow w.heap.size = some t) : False := by
  have := h.lt _ t ht
  omega

theorem Inv.fresh_cons {tm : Array Value} (h : Inv n e tm w G) {H : List Nat} (hH : ∀ b ∈ H, ∀ t, G.ow b = some t → t < e.length) : ∀ b ∈ w.heap.size :: H, ∀ t, G.ow b = some t → t < e.length := by
  intro b hb t ht
  simp only [List.mem_cons] at hb
  rcases hb with rfl | hb
  · exact (h.fresh ht).elim
  · exact hH b hb t ht

theorem disown_owner {H F : List Nat} (h : ∀ b ∈ H, ∀ t, G.ow b = some t → t < e.length) : ∀ b ∈ H, ∀ t, (G.disown F).ow b = some t → t < e.length := by
  intro b hb t ht
  simp only [Gh.disown] at ht
  split at ht
  · simp at ht
  · exact h b hb t ht

theorem Held.disown {m : Nat} {w' : World} {G0 : Gh} {F : List Nat} (h : Held n m w w' G0 G) (hF : ∀ b ∈ F, ∀ t, G.ow b = some t → t < m) : Held n m w w' G0 (G.disown F) where
  still := fun b h1 h2 => ⟨(h.still b h1 h2).1, by simp only [Gh.disown]; split <;> first | rfl | exact (h.still b h1 h2).2⟩
  vs := h.vs
  out := fun b t h1 h2 h3 => by
    obtain ⟨r1, r2⟩ := h.out b t h1 h2 h3
    refine ⟨r1, ?_⟩
    simp only [Gh.disown]
    rw [if_neg (fun q => by have := hF b q t r2; omega)]
    exact r2

/-- A new row of owned data, laid. -/
theorem new_row {e0 : Env} {G0 : Gh} {t : Tr} {w' : World} (h : Inv n e a.tmps w G) (ht : TrOk e0 t e) (hst : Held n e0.length w w G0 G) {k : K} {l : List k.T} {rows : List LT} {cap : Nat} {d : Bool} {H : List Nat}
    (hsz : w'.heap.size = w.heap.size + 1) (hsame : ∀ b : Nat, w.heap[b]? ≠ none → w'.heap[b]? = w.heap[b]?)
    (hrep : RepL true w' k.size (Rep d w' k) l (.node w.heap.size 0 cap rows) (.slice (some ⟨w.heap.size, 0, none⟩) l.length cap))
    (hH : ∀ b ∈ H, Loose e G b ∧ G.ow b ≠ none) (hHo : ∀ b ∈ H, ∀ t, G.ow b = some t → t < e.length) (hnd : H.Nodup)
    (hfp : d = true → H = rows.flatMap (fp k)) (hnone : ∀ b ∈ rows.flatMap (fp k), b ∈ H ∨ G.ow b = none) (hold : ∀ b ∈ rows.flatMap (fp k), b < w.heap.size) {dd : Nat} (hd : t.d = some dd) (hdn : dd < n) (henv : SameEnv w w' := by exact ⟨rfl, rfl, rfl⟩) :
    ∃ G', Post n (e0.puts (t.lay (some dd) (.one, [.own 0 0 d k l])).ws) a w G0 (a.put (some dd) (.slice (some ⟨w.heap.size, 0, none⟩) l.length cap)) w' G' := by
  have hnew : w.heap[w.heap.size]? = none := by simp
  have hloose : ∀ G1 : Gh, Inv n e a.tmps w G1 → Loose e G1 w.heap.size := by
    intro G1 h1 s hs
    have := h1.lt _ s ((h1.slot s).own _ hs)
    omega
  have hltH : ∀ b ∈ H, b < w.heap.size := by
    intro b hb
    cases hq : G.ow b with
    | none => exact absurd hq (hH b hb).2
    | some s => exact h.lt b s hq
  cases d with
  | true =>
    have hfp := hfp rfl
    refine lay_new (sh := .one) (u := .slice (some ⟨w.heap.size, 0, none⟩) l.length cap) (H := w.heap.size :: H) (bk := 0) (vs := [.slice (some ⟨w.heap.size, 0, none⟩) l.length cap]) (Ls := fun _ => .node w.heap.size 0 cap rows) h ht hst (by omega) (fun b _ hb => hsame b hb) ?_ (h.fresh_cons hHo) rfl ?_ ?_ ?_ (by simp) (by simp) rfl hd hdn
    · intro b hb
      simp only [List.mem_cons] at hb
      rcases hb with rfl | hb
      · exact ⟨hloose G h, .inr hnew, by omega⟩
      · exact ⟨(hH b hb).1, .inl (hH b hb).2, by have := hltH b hb; omega⟩
    · intro j c v hc hv
      match j, hc, hv with
      | 0, hc, hv =>
        simp only [List.getElem?_cons_zero, Option.some.injEq] at hc hv
        subst hc; subst hv
        exact ⟨hrep, by simp⟩
    · simp only [boxB, fpCells, ownB, fp, List.nil_append, List.append_nil, ← hfp, List.nodup_cons]
      exact ⟨fun hb => by have := hltH _ hb; omega, hnd⟩
    · simp only [boxB, fpCells, ownB, fp, List.nil_append, List.append_nil, ← hfp]
      exact fun b hb => hb
  | false =>
    have h' := h.disown (F := H) fun b hb => (hH b hb).1
    refine lay_new (sh := .one) (u := .slice (some ⟨w.heap.size, 0, none⟩) l.length cap) (G := G.disown H) (H := [w.heap.size]) (bk := 0) (vs := [.slice (some ⟨w.heap.size, 0, none⟩) l.length cap]) (Ls := fun _ => .node w.heap.size 0 cap rows) h' ht (hst.disown (by rw [← ht.length]; exact hHo)) (by omega) (fun b _ hb => hsame b hb) ?_ (h'.fresh_cons (by simp)) rfl ?_ ?_ ?_ (by simp) (by simp) rfl hd hdn
    · intro b hb
      simp only [List.mem_singleton] at hb
      subst hb
      exact ⟨hloose _ h', .inr hnew, by omega⟩
    · intro j c v hc hv
      match j, hc, hv with
      | 0, hc, hv =>
        simp only [List.getElem?_cons_zero, Option.some.injEq] at hc hv
        subst hc; subst hv
        refine ⟨hrep, fun _ b hb => ⟨?_, ?_⟩⟩
        · simp only [inner] at hb
          simp only [Gh.disown]
          rcases hnone b hb with g | g
          · rw [if_pos g]
          · split <;> first | rfl | exact g
        · simp only [inner] at hb
          simp only [List.mem_singleton]
          rintro rfl
          have := hold _ hb
          omega
    · simp [boxB, fpCells, ownB, hdOf]
    · simp [boxB, fpCells, ownB, hdOf]

theorem fpCells_noOwn (Ls : Nat → LT) : ∀ (cs : List C) (i : Nat), (∀ c ∈ cs, c.isOwn = false) → fpCells Ls i cs = []
  | [], i, _ => rfl
  | c :: cs, i, h => by simp only [fpCells]; rw [noOwn_ownB (h c (by simp)), fpCells_noOwn Ls cs (i + 1) fun c hc => h c (by simp [hc])]; rfl

/-! ### Variables -/
theorem sound_assign {y : Operand} (hb : Begin n e a w G get o) (ho : o.op = .assign y) (h : act x get o = some ws) : Sound P n e a w G o ws := by
  simp only [act, ho] at h
  cases hv : opd get y with
  | none => rw [hv] at h; simp at h
  | some v =>
    rw [hv] at h
    simp only at h
    obtain ⟨vs, Ls, hval⟩ := hb.opd (by simp [ho, Op.operands]) hv
    obtain ⟨e', H, Ls', ht⟩ := take_ok (x.vs o.dst) v.2 hb.inv hb.tr hval.cells hval.noOwn
    obtain ⟨d, hd, hws⟩ := own_dst h
    refine Sound.new (u := a.eval y) (w' := w) (by simp only [execOp, ho]; rfl) hd ?_ hws
    have hbox : boxB v.1 0 = [] := by have := hval.sh; cases hs : v.1 <;> simp_all [boxB]
    refine lay_new (e := e') (vs := vs) (Ls := Ls') (bk := 0) (H := H) ht.inv ht.tr (ht.ext.held hb.inv) (Nat.le_refl _) (fun b _ _ => rfl) ?_ (ht.hand.owner hb.inv ht.ext) ht.len ht.new ?_ ?_ (fun q => absurd q hval.alive) (fun bv q => absurd q (hval.sh bv)) ?_ (by rw [take_d]; exact hd) (hb.inb.dst d hd)
    · intro b hb'
      obtain ⟨h1, h2, h3, _⟩ := ht.hand.mem b hb'
      exact ⟨h1, .inl h2, h3⟩
    · rw [hbox, ht.fp]
      exact ht.hand.nodup
    · rw [hbox, ht.fp]
      exact fun b hb => hb
    · have h1 := hval.form
      have h2 := hval.alive
      have h3 := hval.sh
      revert h1 h2 h3
      cases v.1 <;> simp [FormOf]

/-! ### Variables of their own block -/
theorem run_alloc {el : Nat} {i : TypeInfo} {z : Value} (hi : P.info? el = some i) (hz : i.zero = some z) (w : World) :
    (Instr.alloc el true (.tuple #[])).run P w = .ok (.pointer (some ⟨w.heap.size, 0, none⟩)) (w.alloc (.cells z.cells el)) := by
  simp [Instr.alloc, zeroValue, typeInfo, hi, hz, newVar, newRow]

theorem zeros_eq {el : Nat} {i : TypeInfo} {z : Value} (hi : P.info? el = some i) (hz : i.zero = some z) : (tyOf P el).zeros = z.cells.toList.map litC := by
  simp only [Ti.zeros, (ty_size hi).2.2.2, hz]
  cases z <;> rfl

theorem zero_info {el : Nat} (h : (tyOf P el).zero.isSome = true) : ∃ i z, P.info? el = some i ∧ i.zero = some z := by
  cases hi : P.info? el with
  | none => simp [tyOf, hi] at h
  | some i =>
    rw [(ty_size hi).2.2.2] at h
    obtain ⟨z, hz⟩ := Option.isSome_iff_exists.1 h
    exact ⟨i, z, rfl, hz⟩

theorem sound_alloc {el : TypeId} (hty : ∀ t, x.ty t = tyOf P t) (hb : Begin n e a w G get o) (ho : o.op = .alloc el) (h : act x get o = some ws) : Sound P n e a w G o ws := by
  simp only [act, ho] at h
  split at h
  · rename_i hz
    rw [hty] at hz
    obtain ⟨i, z, hi, hz⟩ := zero_info hz
    obtain ⟨d, hd, hws⟩ := own_dst h
    rw [hty, zeros_eq hi hz] at hws
    refine Sound.new (by simp only [execOp, ho]; exact run_v (run_alloc hi hz w)) hd ?_ hws
    have hno : ∀ c ∈ z.cells.toList.map litC, c.isOwn = false := (lits_ok e w G z.cells.toList).2
    have hnew : w.heap[w.heap.size]? = none := by simp
    refine lay_new (sh := .box 0) (u := .pointer (some ⟨w.heap.size, 0, none⟩)) (vs := z.cells.toList) (Ls := fun _ => .leaf) (bk := w.heap.size) (H := [w.heap.size]) hb.inv hb.tr Held.refl (by simp) (fun b _ hb' => alloc_same w _ b hb') ?_ (hb.inv.fresh_cons (by simp)) (by simp) ?_ ?_ ?_ (by simp) ?_ rfl hd (hb.inb.dst d hd)
    · intro b hb'
      simp only [List.mem_singleton] at hb'
      subst hb'
      refine ⟨fun s hs => ?_, .inr hnew, by simp⟩
      have := hb.inv.lt _ s ((hb.inv.slot s).own _ hs)
      omega
    · intro j c v hc hv
      exact NewOk.ofCell ((lits_ok e w G z.cells.toList).1.cell j c v hc hv) (hno c (List.mem_of_getElem? hc))
    · rw [fpCells_noOwn _ _ _ hno]; simp [boxB]
    · rw [fpCells_noOwn _ _ _ hno]; simp [boxB]
    · intro bv _
      exact ⟨el, heap_alloc_new w _⟩
  · simp at h

theorem sound_box {el : TypeId} {y : Operand} (hty : ∀ t, x.ty t = tyOf P t) (hb : Begin n e a w G get o) (ho : o.op = .box el y) (h : act x get o = some ws) : Sound P n e a w G o ws := by
  simp only [act, ho] at h
  cases hv : opd get y with
  | none => rw [hv] at h; simp at h
  | some v =>
    rw [hv] at h
    simp only at h
    split at h
    · rename_i hw
      obtain ⟨_, hw⟩ := hw
      obtain ⟨vs, Ls, hval⟩ := hb.opd (by simp [ho, Op.operands]) hv
      obtain ⟨hcells, hone⟩ := form_cells (n := n) (tm := a.tmps) hb.sees hval hw
      obtain ⟨e', H, Ls', ht⟩ := take_ok x.vars v.2 hb.inv hb.tr hval.cells hval.noOwn
      obtain ⟨d, hd, hws⟩ := own_dst h
      refine Sound.new (u := .pointer (some ⟨w.heap.size, 0, none⟩)) (w' := w.alloc (.cells vs.toArray el)) ?_ hd ?_ hws
      · simp only [execOp, ho]
        refine run_v ?_
        simp [Instr.box, newVar, newRow, hcells]
      have hnew : w.heap[w.heap.size]? = none := by simp
      have hnH : w.heap.size ∉ H := fun hb' => by have := (ht.hand.mem _ hb').2.2.1; omega
      refine lay_new (sh := .box 0) (u := .pointer (some ⟨w.heap.size, 0, none⟩)) (e := e') (vs := vs) (Ls := Ls') (bk := w.heap.size) (H := w.heap.size :: H) ht.inv ht.tr (ht.ext.held hb.inv) (by simp) (fun b _ hb' => alloc_same w _ b hb') ?_ (ht.inv.fresh_cons (ht.hand.owner hb.inv ht.ext)) ht.len ?_ ?_ ?_ (by simp) (fun bv _ => ⟨el, heap_alloc_new w _⟩) rfl (by rw [take_d]; exact hd) (hb.inb.dst d hd)
      · intro b hb'
        simp only [List.mem_cons] at hb'
        rcases hb' with rfl | hb'
        · refine ⟨fun s hs => ?_, .inr hnew, by simp⟩
          have := ht.inv.lt _ s ((ht.inv.slot s).own _ hs)
          omega
        · obtain ⟨h1, h2, h3, _⟩ := ht.hand.mem b hb'
          exact ⟨h1, .inl h2, by simp; omega⟩
      · intro j c v hc hv
        have h1 := ht.new j c v hc hv
        cases c with
        | own rv sv dd k l =>
          obtain ⟨g1, g2⟩ := h1
          refine ⟨g1.same fun b hb' => alloc_same w _ b (g1.there b hb'), fun hdd b hb' => ?_⟩
          obtain ⟨q1, q2⟩ := g2 hdd b hb'
          refine ⟨q1, fun q => ?_⟩
          simp only [List.mem_cons] at q
          rcases q with rfl | q
          · have hbb : w.heap.size ∈ fp (.list k) (Ls' j) := by rw [fp_list]; exact List.mem_append_right _ hb'
            exact g1.there _ hbb hnew
          · exact q2 q
        | _ => exact h1
      · simp only [boxB, List.cons_append, List.nil_append, ht.fp, List.nodup_cons]
        exact ⟨hnH, ht.hand.nodup⟩
      · simp only [boxB, List.cons_append, List.nil_append, ht.fp]
        exact fun b hb => hb
    · simp at h

/-! ### Made rows -/
theorem madeCells_row {z : Array Value} {m sz i j : Nat} {v : Value} (hz : z.size = sz) (hi : i < m) (hj : z.toList[j]? = some v) : (madeCells z (m * sz))[i * sz + j]? = some v := by
  have hjs : j < sz := by have := (List.getElem?_eq_some_iff.1 hj).1; simpa [hz] using this
  have hlt : i * sz + j < m * sz := by
    have : (i + 1) * sz ≤ m * sz := Nat.mul_le_mul_right _ hi
    rw [Nat.add_mul] at this
    omega
  have hmod : (i * sz + j) % z.size = j := by rw [hz, Nat.mul_comm, Nat.mul_add_mod, Nat.mod_eq_of_lt hjs]
  have hjz : j < z.size := by omega
  simp only [madeCells, Array.getElem?_map, Array.getElem?_range, hlt, if_true, Option.map_some, hmod]
  simp only [Array.getElem?_toList] at hj
  simp [getElem!_def, hj]

theorem zero_rows {k : K} {z : Array Value} {w' : World} {b m cap : Nat} {el : TypeId} {ex : List Value} {d : Bool} (hzk : isZero k (z.toList.map litC) = true) (hb : w'.heap[b]? = some (.cells (madeCells z (cap * k.size)) el (0, 0))) (hm : m ≤ cap) :
    RepL true w' k.size (Rep d w' k) (List.replicate m k.dflt) (.node b 0 cap (List.replicate m (zLT k))) (.slice (some ⟨b, 0, none⟩) m cap) := by
  have hrep : Rep d w' k k.dflt (zLT k) z.toList := isZero_ok k _ hzk
  have hsz : z.size = k.size := by simpa using hrep.size
  refine .inr ⟨b, 0, cap, List.replicate m (zLT k), rfl, by simp, by simpa using hm, by simp, by rw [hb]; simp, fun _ => ⟨_, _, _, hb, by simp [size_madeCells], .inr (by simp)⟩, fun i y r hy hr => ?_⟩
  have hi : i < m := by have := (List.getElem?_eq_some_iff.1 hy).1; simpa using this
  rw [List.getElem?_replicate, if_pos hi] at hy hr
  simp only [Option.some.injEq] at hy hr
  subst hy; subst hr
  refine ⟨z.toList, fun j v hj => ?_, hrep⟩
  have := madeCells_row (m := cap) (sz := k.size) (i := i) hsz (by omega) hj
  simp only [World.cell?, hb, Option.isSome_none, Bool.false_eq_true, if_false, Nat.zero_add]
  exact this

theorem zero_flat {k : K} {m : Nat} : (List.replicate m (zLT k)).flatMap (fp k) = [] := by
  rw [List.flatMap_eq_nil_iff]
  intro L hL
  rw [List.mem_replicate] at hL
  rw [hL.2, fp_zLT]

theorem sound_makeSlice {ty : TypeId} {y z : Operand} (hty : ∀ t, x.ty t = tyOf P t) (hb : Begin n e a w G get o) (ho : o.op = .makeSlice ty y z) (h : act x get o = some ws) : Sound P n e a w G o ws := by
  simp only [act, ho] at h
  split at h
  · rename_i el c1 c2 hd hy hz
    split at h
    · rename_i k p q hk hp hq
      split at h
      · rename_i hc
        obtain ⟨g1, g2, g3, g4⟩ := hc
        rw [hty] at hd hk g3 g4
        obtain ⟨L, h1, _⟩ := hb.one (by simp [ho, Op.operands]) hy
        obtain ⟨M, h2, _⟩ := hb.one (by simp [ho, Op.operands]) hz
        obtain ⟨ik, h1⟩ := nat_of hp h1
        obtain ⟨jk, h2⟩ := nat_of hq h2
        obtain ⟨i, hi, hik⟩ := ty_k hk
        have hu := ty_slice hd
        have hzs : ∃ zv, i.zero = some zv := by
          cases hzz : i.zero with
          | some zv => exact ⟨zv, rfl⟩
          | none =>
            simp only [Ti.zeros, (ty_size hi).2.2.2, hzz] at g4
            rw [isZero_nil] at g4
            simp at g4
        obtain ⟨zv, hzv⟩ := hzs
        obtain ⟨d, hd', hws⟩ := own_dst h
        rw [zeros_eq hi hzv] at g4
        rw [(ty_size hi).2.2.1] at g3
        have hr := run_make (P := P) w ty el i zv hu hi hzv ik jk (p : Int) (q : Int) (by omega) (by omega) (by
          have : q * i.bytes ≤ 140737488355328 := g3
          have h3 : (i.bytes : Int) * (q : Int) = ((q * i.bytes : Nat) : Int) := by rw [Nat.mul_comm]; simp
          rw [h3]; omega) (by simp only [rowMost] at g2; omega)
        simp only [Int.toNat_natCast, hik] at hr
        refine Sound.new (u := .slice (some ⟨w.heap.size, 0, none⟩) (List.replicate p k.dflt).length q) (w' := w.alloc (.cells (madeCells zv.cells (q * k.size)) el)) ?_ hd' ?_ hws
        · simp only [execOp, ho, h1, h2]
          refine run_v ?_
          simpa using hr
        refine new_row (H := []) (rows := List.replicate p (zLT k)) hb.inv hb.tr Held.refl (by simp) (fun b hb' => alloc_same w _ b hb') ?_ (by simp) (by simp) (by simp) (fun _ => zero_flat.symm) (by rw [zero_flat]; simp) (by rw [zero_flat]; simp) hd' (hb.inb.dst d hd')
        have := zero_rows (d := true) (k := k) (z := zv.cells) (w' := w.alloc (.cells (madeCells zv.cells (q * k.size)) el)) (b := w.heap.size) (m := p) (cap := q) (el := el) (ex := []) g4 (heap_alloc_new w _) g1
        simpa using this
      · simp at h
    · simp at h
  · simp at h

end ops

end Go.Mach
