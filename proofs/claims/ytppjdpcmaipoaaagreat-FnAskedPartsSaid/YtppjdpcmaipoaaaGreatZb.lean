/- Parts of a proof, packed: see the last text for what is proved. No condition: definitions and lemmas. -/
import Derived.Test.YtppjdpcmaipoaaaGreatZa
import Derived.Laws.CopyRow
import Derived.Laws.Entries
import Derived.Laws.Strings
import Derived.Laws.Concat
import Derived.Laws.Slices
import Derived.Laws.Strings2
import Derived.Laws.MakeOwn
import Derived.Laws.OwnMore
import Derived.Laws.IdiomCopy
import Derived.Laws.BytesArg
import Derived.Laws.IdiomStrings
import Derived.Laws.AppendOwn
namespace Go.Mach
set_option linter.unusedVariables false
set_option linter.unusedSimpArgs false
theorem ty_slice {P : Program} {t e : Nat} (h : (tyOf P t).d = .slice e) : P.underlying t = some (.slice e) := by
 unfold tyOf at h
 split at h
 ·simp only [tyD] at h
  split at h <;> simp_all
 ·simp at h
theorem ty_arr {P : Program} {t m e : Nat} (h : (tyOf P t).d = .arr m e) : P.underlying t = some (.array m e) := by
 unfold tyOf at h
 split at h
 ·simp only [tyD] at h
  split at h <;> simp_all
 ·simp at h
theorem ty_struct {P : Program} {t : Nat} {fs : List (Nat × Nat)} (h : (tyOf P t).d = .struct fs) : ∃ fields, P.underlying t = some (.struct fields) ∧ fs = fields.toList.map fun f => (f.offset, f.type) := by
 unfold tyOf at h
 split at h
 ·simp only [tyD] at h
  split at h <;> simp_all
 ·simp at h
theorem ty_size {P : Program} {t : Nat} {i : TypeInfo} (h : P.info? t = some i) : (tyOf P t).size = i.size ∧ P.cellsOf t = i.size ∧ (tyOf P t).bytes = i.bytes ∧ (tyOf P t).zero = i.zero := by
 simp [tyOf, h, Program.cellsOf]
theorem ty_k {P : Program} {t : Nat} {k : K} (h : (tyOf P t).k = some k) : ∃ i, P.info? t = some i ∧ i.size = k.size := by
 unfold tyOf at h
 cases hi : P.info? t with
 | none => rw [hi] at h; simp at h
 | some i =>
  rw [hi] at h
  simp only at h
  split at h
  ·split at h
   ·rename_i q
    simp only [Option.some.injEq] at h
    subst h
    exact ⟨i, rfl, q.symm⟩
   ·simp at h
  ·simp at h
theorem ty_size_info {P : Program} {t : Nat} (h : (tyOf P t).size ≠ 0) : ∃ i, P.info? t = some i := by
 cases hi : P.info? t with
 | none => simp [tyOf, hi] at h
 | some i => exact ⟨i, rfl⟩
theorem ty_ok {P : Program} {t : Nat} (h : (tyOf P t).ok = true) : ∃ i d, P.info? t = some i ∧ P.underlying t = some d ∧ ((tyOf P t).agg = false → i.size = 1) ∧ (isAgg t).run P = fun w => .ok (tyOf P t).agg w := by
 cases hi : P.info? t with
 | none => simp [tyOf, hi] at h
 | some i =>
  cases hu : P.underlying t with
  | none => simp [tyOf, hi, hu] at h
  | some d =>
   refine ⟨i, d, rfl, rfl, fun ha => ?_, ?_⟩
   ·cases d <;> simp_all [tyOf, Ti.agg, tyD]
   ·funext w
    have hd : (tyOf P t).d = tyD P t := by simp [tyOf, hi]
    simp only [isAgg, Sem.run_bind, Go.run_underlying hu, Result.andThen_ok, Ti.agg, hd, tyD, hu]
    cases d <;> rfl
theorem run_size {P : Program} {t : Nat} {i : TypeInfo} (h : P.info? t = some i) (w : World) : (sizeOf t).run P w = .ok (tyOf P t).size w := by
 rw [(ty_size h).1]
 simp [sizeOf, typeInfo, program, Sem.run_bind, h, Sem.run]
theorem run_und {P : Program} {t : Nat} {d : TypeDesc} (h : P.underlying t = some d) (w : World) : (underlying t).run P w = .ok d w := Go.run_underlying h w
theorem run_v {P : Program} {s : Sem Value} {w w' : World} {u : Value} (h : s.run P w = .ok u w') : (do pure (Next.value (← s)) : Sem Next).run P w = .ok (.value u) w' := by
 rw [Sem.run_bind, h]
 rfl
section ops
variable {P : Program} {n : Nat} {e : Env} {a : Act} {w : World} {G : Gh} {get : Nat → Slot} {o : Oper} {x : Ctx} {ws : Writes}
theorem nilCheck_ptr {y : Operand} (hb : Begin n e a w G get o) (ho : o.op = .nilCheck y) {c : C} (hc : opd get y = some (.one, [c])) {b : Addr} (hv : a.eval y = .pointer (some b))
  (h : some (Tr.lay { get, d := o.dst } o.dst (.one, [c])).ws = some ws) : Sound P n e a w G o ws := by
 obtain ⟨vs, Ls, hval⟩ := hb.opd (by simp [ho, Op.operands]) hc
 obtain ⟨G', hp⟩ := hb.done hval h
 refine Sound.value ?_ hp
 simp only [execOp, ho, hv]
 rfl
theorem bytes_list (l : List UInt8) : ByteArray.toList ⟨⟨l⟩⟩ = l := by
 have := ByteArray.toList_loop_eq ⟨⟨l⟩⟩ _ 0 [] rfl (Nat.zero_le _)
 rw [ByteArray.toList, this]
 simp
theorem bytes_append (l m : List UInt8) : (⟨⟨l⟩⟩ : ByteArray) ++ ⟨⟨m⟩⟩ = ⟨⟨l ++ m⟩⟩ := by
 exact ByteArray.mk_append_mk l m
theorem bytes_size (l : List UInt8) : ByteArray.size ⟨⟨l⟩⟩ = l.length := rfl
theorem ty_bool {P : Program} {t : Nat} (h : (tyOf P t).isB = true) : P.underlying t = some .bool := by
 unfold tyOf at h
 split at h
 ·simp only at h
  split at h
  ·assumption
  ·simp at h
 ·simp at h
theorem ty_str {P : Program} {t : Nat} (h : (tyOf P t).isS = true) : P.underlying t = some .string := by
 unfold tyOf at h
 split at h
 ·simp only at h
  split at h
  ·assumption
  ·simp at h
 ·simp at h
theorem run_eqIn_bool {P : Program} {t : Nat} (hu : P.underlying t = some .bool) (w : World) (d : Nat) (p q : Bool) : (Op.equalIn (d + 1) t (.bool p) (.bool q)).run P w = .ok (p == q) w := by
 rw [Op.equalIn.eq_def]
 simp only [Sem.run_bind, run_und hu, Result.andThen_ok]
 rfl
theorem run_eq_bool {P : Program} {t : Nat} (hu : P.underlying t = some .bool) (w : World) (p q : Bool) : (Op.equal t (.bool p) (.bool q)).run P w = .ok (p == q) w := run_eqIn_bool hu w 9999 p q
theorem bin_ok {op : BinOp} {c d c' : C} {u v : Value} {L M : LT} (hc : CellOk e w G c u L) (hd : CellOk e w G d v M) (t : TypeId) {tk : Bool} (ht : tk = true → P.underlying t = some .bool) (h : bin tk op c d = some c') (y z : Operand) :
  ∃ r, (do eqGuard op t y z u v; binOp op t u v : Sem Value).run P w = .ok r w ∧ CellOk e w G c' r .leaf ∧ c'.isOwn = false := by
 unfold bin at h
 split at h
 ·rename_i k p k' q
  rw [dat_int hc, dat_int hd]
  split at h
  ·simp only [shiftI] at h
   split at h
   ·simp at h
   ·rename_i hq
    simp only [Option.some.injEq] at h
    subst h
    exact ⟨_, by simp [eqGuard, binOp, Op.shift, hq, Sem.run_bind], int_ok _ _ _ _ _, rfl⟩
  ·simp only [shiftI] at h
   split at h
   ·simp at h
   ·rename_i hq
    simp only [Option.some.injEq] at h
    subst h
    exact ⟨_, by simp [eqGuard, binOp, Op.shift, hq, Sem.run_bind], int_ok _ _ _ _ _, rfl⟩
  ·split at h
   ·rename_i hk
    subst hk
    cases op <;> simp only [binI] at h <;> try (simp at h; done)
    all_goals try (split at h <;> try (simp at h; done))
    all_goals (simp only [Option.some.injEq] at h; subst h)
    all_goals first
     | exact ⟨_, by simp [eqGuard, binOp, Op.intArith, Op.intDiv, Op.intBits, Op.intCmp, Sem.run_bind, *], int_ok _ _ _ _ _, rfl⟩
     | exact ⟨_, by simp [eqGuard, binOp, Op.intArith, Op.intDiv, Op.intBits, Op.intCmp, Sem.run_bind, *]; rfl, bool_ok _ _ _ _, rfl⟩
     | exact ⟨_, by simp [eqGuard, binOp, Op.intArith, Op.intDiv, Op.intBits, Op.intCmp, Sem.run_bind, *], bool_ok _ _ _ _, rfl⟩
   ·simp at h
 ·rename_i p q
  rw [dat_bool hc, dat_bool hd]
  split at h
  ·rename_i hk
   have hu := ht hk
   have he := run_eq_bool (P := P) hu w
   cases op <;> simp only [binB] at h <;> try (simp at h; done)
   all_goals (simp only [Option.some.injEq] at h; subst h)
   ·exact ⟨_, by simp [eqGuard, binOp, Sem.run_bind, he], bool_ok _ _ _ _, rfl⟩
   ·exact ⟨_, by simp [eqGuard, binOp, Sem.run_bind, he], bool_ok _ _ _ _, rfl⟩
  ·simp at h
 ·rename_i p q
  rw [dat_str hc, dat_str hd]
  cases op <;> simp only [binS] at h <;> try (simp at h; done)
  ·split at h
   ·rename_i hl
    simp only [Option.some.injEq] at h
    subst h
    refine ⟨_, ?_, str_ok _ _ _ _, rfl⟩
    have : ¬ (((⟨⟨p⟩⟩ : ByteArray).size + (⟨⟨q⟩⟩ : ByteArray).size : Nat) : Int) > IntKind.i64.max := by
     rw [bytes_size, bytes_size]
     simp only [strMost] at hl
     have : IntKind.i64.max = 9223372036854775807 := by decide
     rw [this]
     omega
    simp only [eqGuard, binOp, Op.stringOp, Sem.run_bind, if_neg this, bytes_append]
    rfl
   ·simp at h
  all_goals (simp only [Option.some.injEq] at h; subst h)
  ·exact ⟨_, by simp only [eqGuard, binOp, Op.stringOp, bytes_list, Sem.run_bind]; rfl, bool_ok _ _ _ _, rfl⟩
  ·exact ⟨_, by simp only [eqGuard, binOp, Op.stringOp, bytes_list, Sem.run_bind]; rfl, bool_ok _ _ _ _, rfl⟩
 ·simp at h
theorem un_ok {op : UnOp} {c c' : C} {u : Value} {L : LT} (hc : CellOk e w G c u L) (h : un op c = some c') : ∃ r, (Op.unary op u).run P w = .ok r w ∧ CellOk e w G c' r .leaf ∧ c'.isOwn = false := by
 unfold un at h
 split at h
 ·simp only [Option.some.injEq] at h
  subst h
  rw [dat_bool hc]
  exact ⟨_, rfl, bool_ok _ _ _ _, rfl⟩
 ·simp only [Option.some.injEq] at h
  subst h
  rw [dat_int hc]
  exact ⟨_, rfl, int_ok _ _ _ _ _, rfl⟩
 ·simp at h
end ops
end Go.Mach
namespace Go.Mach
set_option linter.unusedVariables false
set_option linter.unusedSimpArgs false
section ops
variable {P : Program} {n : Nat} {e : Env} {a : Act} {w : World} {G : Gh} {get : Nat → Slot} {o : Oper} {x : Ctx} {ws : Writes}
theorem Begin.cell {c : C} {v : Value} {L : LT} (hb : Begin n e a w G get o) (hc : CellOk e w G c v L) (hno : c.isOwn = false) (h : some (Tr.lay { get, d := o.dst } o.dst (.one, [c])).ws = some ws) :
  ∃ G', Post n (e.puts ws) a w G (a.put o.dst v) w G' := hb.done (one_ok hc hno) h
theorem sound_binOp {op : BinOp} {ty yt : TypeId} {y z : Operand} (hty : ∀ t, x.ty t = tyOf P t) (hb : Begin n e a w G get o) (ho : o.op = .binOp op ty y z yt)
  (hagg : ∀ cs ds, opd get y = some (.agg, cs) → opd get z = some (.agg, ds) → Sound P n e a w G o ws) (h : act x get o = some ws) : Sound P n e a w G o ws := by
 simp only [act, ho] at h
 split at h
 ·rename_i c d hc hd
  split at h
  ·rename_i c' hbin
   obtain ⟨L, h1, _⟩ := hb.one (by simp [ho, Op.operands]) hc
   obtain ⟨M, h2, _⟩ := hb.one (by simp [ho, Op.operands]) hd
   obtain ⟨r, h3, h4, h5⟩ := bin_ok (P := P) h1 h2 ty (fun q => ty_bool (by rw [hty] at q; exact q)) hbin y z
   obtain ⟨G', hp⟩ := hb.cell h4 h5 h
   refine Sound.value ?_ hp
   simp only [execOp, ho]
   exact run_v h3
  ·simp at h
 ·rename_i cs ds hc hd
  exact hagg cs ds hc hd
 ·simp at h
theorem sound_unOp {op : UnOp} {ty : TypeId} {y : Operand} (hb : Begin n e a w G get o) (ho : o.op = .unOp op ty y) (h : act x get o = some ws) : Sound P n e a w G o ws := by
 simp only [act, ho] at h
 split at h
 ·rename_i c hc
  split at h
  ·rename_i c' hun
   obtain ⟨L, h1, _⟩ := hb.one (by simp [ho, Op.operands]) hc
   obtain ⟨r, h3, h4, h5⟩ := un_ok (P := P) h1 hun
   obtain ⟨G', hp⟩ := hb.cell h4 h5 h
   refine Sound.value ?_ hp
   simp only [execOp, ho]
   exact run_v h3
  ·simp at h
 ·simp at h
theorem ptr_val {c : C} {v : Value} {L : LT} (hc : CellOk e w G c v L) (hp : c.isPtr = true) : IsPtr v := by
 cases c with
 | bptr s bv j => exact hc.2.2
 | aptr s j rv sv p i c k => exact hc.1
 | pim cs j =>
  obtain ⟨b', o1, vs, Ls, h1, _⟩ := hc
  exact ⟨_, _, h1⟩
 | _ => simp [C.isPtr] at hp
theorem sound_nilCheck {y : Operand} (hb : Begin n e a w G get o) (ho : o.op = .nilCheck y) (h : act x get o = some ws) : Sound P n e a w G o ws := by
 simp only [act, ho] at h
 split at h
 ·rename_i s bv j hc
  obtain ⟨L, h1, _⟩ := hb.one (by simp [ho, Op.operands]) hc
  obtain ⟨b, o', hv⟩ := ptr_val h1 rfl
  exact nilCheck_ptr hb ho hc hv h
 ·rename_i hc
  obtain ⟨L, h1, _⟩ := hb.one (by simp [ho, Op.operands]) hc
  obtain ⟨b, o', hv⟩ := ptr_val h1 rfl
  exact nilCheck_ptr hb ho hc hv h
 ·rename_i cs j hc
  obtain ⟨L, h1, _⟩ := hb.one (by simp [ho, Op.operands]) hc
  obtain ⟨b, o', hv⟩ := ptr_val h1 rfl
  exact nilCheck_ptr hb ho hc hv h
 ·rename_i f cs hc
  obtain ⟨vs, Ls, hval⟩ := hb.opd (by simp [ho, Op.operands]) hc
  obtain ⟨L, h1, _⟩ := hb.one (by simp [ho, Op.operands]) hc
  obtain ⟨us, Ls', hv, _⟩ := h1
  obtain ⟨G', hp⟩ := hb.done hval h
  refine Sound.value ?_ hp
  simp only [execOp, ho, hv]
  rfl
 ·simp at h
theorem addr_add (b o m : Nat) : (⟨b, o, none⟩ : Addr).add m = ⟨b, o + m, none⟩ := by
 unfold Addr.add
 split <;> simp_all
theorem run_fieldPlace {t : Nat} {f : Field} {i : TypeInfo} (hi : P.info? f.type = some i) (hs : (tyOf P f.type).size ≠ 0) (b o' : Nat) (w : World) : (fieldPlace ⟨b, o', none⟩ f).run P w = .ok ⟨b, o' + f.offset, none⟩ w := by
 simp only [fieldPlace, Sem.run_bind, run_size hi, Result.andThen_ok, if_neg hs, addr_add]
 rfl
theorem run_fieldAt {t f off ft : Nat} {d : List (Nat × Nat)} (hd : (tyOf P t).d = .struct d) (hf : d[f]? = some (off, ft)) (hs : (tyOf P ft).size ≠ 0) (b o' : Nat) (w : World) :
  (Instr.fieldAt t (.pointer (some ⟨b, o', none⟩)) f).run P w = .ok (.pointer (some ⟨b, o' + off, none⟩)) w := by
 obtain ⟨fields, h1, rfl⟩ := ty_struct hd
 rw [List.getElem?_map] at hf
 cases hq : fields.toList[f]? with
 | none => rw [hq] at hf; simp at hf
 | some fl =>
  rw [hq] at hf
  simp only [Option.map_some, Option.some.injEq, Prod.mk.injEq] at hf
  obtain ⟨rfl, rfl⟩ := hf
  have hq' : fields[f]? = some fl := by simpa using hq
  obtain ⟨i, hi⟩ := ty_size_info hs
  simp only [Instr.fieldAt, Sem.run_bind, run_und h1, Result.andThen_ok, hq', Instr.sureAddr, Sem.run_pure, run_fieldPlace (t := t) hi hs]
theorem addC_ok {off : Nat} {c c' : C} {v : Value} {L : LT} (hc : CellOk e w G c v L) (h : addC off c = some c') {b o' : Nat} (hv : v = .pointer (some ⟨b, o', none⟩)) :
  CellOk e w G c' (.pointer (some ⟨b, o' + off, none⟩)) L ∧ c'.isOwn = false := by
 cases c with
 | bptr s bv j =>
  simp only [addC, Option.some.injEq] at h
  subst h
  obtain ⟨h1, h2, _⟩ := hc
  refine ⟨⟨h1, fun hb => ?_, _, _, rfl⟩, rfl⟩
  have := h2 hb
  rw [hv] at this
  simp only [Value.pointer.injEq, Option.some.injEq, Addr.mk.injEq, and_true] at this
  obtain ⟨rfl, rfl⟩ := this
  rfl
 | aptr s j rv sv p i c k =>
  simp only [addC, Option.some.injEq] at h
  subst h
  obtain ⟨_, h1, h2, h3⟩ := hc
  refine ⟨⟨⟨_, _, rfl⟩, h1, h2, fun sv' d k0 l0 q1 q2 => ?_⟩, rfl⟩
  obtain ⟨m, b', off', cap, q3, q4, q5⟩ := h3 sv' d k0 l0 q1 q2
  refine ⟨m, b', off', cap, q3, q4, ?_⟩
  rw [hv] at q5
  simp only [Value.pointer.injEq, Option.some.injEq, Addr.mk.injEq, and_true] at q5
  obtain ⟨rfl, rfl⟩ := q5
  simp [Nat.add_assoc]
 | pim cs j =>
  simp only [addC, Option.some.injEq] at h
  subst h
  obtain ⟨b', o1, vs, Ls, h1, h2, h3, h4, h5, h6⟩ := hc
  rw [hv] at h1
  simp only [Value.pointer.injEq, Option.some.injEq, Addr.mk.injEq, and_true] at h1
  obtain ⟨rfl, rfl⟩ := h1
  exact ⟨⟨b, o1, vs, Ls, by simp [Nat.add_assoc], h2, h3, h4, h5, h6⟩, rfl⟩
 | _ => simp [addC] at h
theorem sound_fieldAddr {ty : TypeId} {y : Operand} {f : Nat} (hty : ∀ t, x.ty t = tyOf P t) (hb : Begin n e a w G get o) (ho : o.op = .fieldAddr ty y f) (h : act x get o = some ws) : Sound P n e a w G o ws := by
 simp only [act, ho] at h
 split at h
 ·rename_i c off ft hc hf
  split at h
  ·simp at h
  ·rename_i hs
   split at h
   ·rename_i c' hadd
    obtain ⟨L, h1, _⟩ := hb.one (by simp [ho, Op.operands]) hc
    obtain ⟨b, o', hv⟩ := ptr_val h1 (by cases c <;> simp_all [addC, C.isPtr])
    obtain ⟨h2, h3⟩ := addC_ok h1 hadd hv
    obtain ⟨G', hpost⟩ := hb.cell h2 h3 h
    refine Sound.value ?_ hpost
    simp only [execOp, ho, hv]
    simp only [fieldOf, hty] at hf
    split at hf
    ·rename_i fs hd
     exact run_v (run_fieldAt hd hf (by rw [← hty]; exact hs) b o' w)
    ·simp at hf
   ·simp at h
 ·simp at h
theorem run_part {t : Nat} (hok : (tyOf P t).ok = true) (vs : List Value) (off : Nat) (hl : off + (tyOf P t).size ≤ vs.length) (w : World) :
  (part t vs.toArray off).run P w = .ok (form (partShape (tyOf P t)) ((vs.drop off).take (tyOf P t).size)) w := by
 obtain ⟨i, d, hi, hu, h1, hag⟩ := ty_ok hok
 have hag := congrFun hag w
 have hsz := (ty_size hi).1
 simp only [part, Sem.run_bind, hag, Result.andThen_ok]
 cases hh : (tyOf P t).agg with
 | true =>
  simp only [if_true, Sem.run_bind, run_size hi, Result.andThen_ok, Sem.run_pure, partShape, hh, form]
  congr 2
  apply Array.ext'
  simp [List.extract_eq_take_drop]
 | false =>
  have h1 := h1 hh
  rw [hsz, h1] at hl ⊢
  have hx : vs.toArray[off]? = some (vs[off]'(by omega)) := by simp
  have h2 : (vs.drop off).take 1 = [vs[off]'(by omega)] := by rw [List.drop_eq_getElem_cons (by omega)]; rfl
  simp only [Bool.false_eq_true, if_false, hx, Sem.run_pure, partShape, hh, form, hsz, h1, h2, List.headD_cons]
theorem partShape_box (t : Ti) (bv : Nat) : partShape t ≠ .box bv := by unfold partShape; split <;> simp
theorem partShape_dead (t : Ti) : partShape t ≠ .dead := by unfold partShape; split <;> simp
theorem run_field {t f off ft : Nat} {d : List (Nat × Nat)} (hd : (tyOf P t).d = .struct d) (hf : d[f]? = some (off, ft)) (hok : (tyOf P ft).ok = true) (vs : List Value) (hl : off + (tyOf P ft).size ≤ vs.length) (w : World) :
  (Instr.field t (.agg vs.toArray) f).run P w = .ok (form (partShape (tyOf P ft)) ((vs.drop off).take (tyOf P ft).size)) w := by
 obtain ⟨fields, h1, rfl⟩ := ty_struct hd
 rw [List.getElem?_map] at hf
 cases hq : fields.toList[f]? with
 | none => rw [hq] at hf; simp at hf
 | some fl =>
  rw [hq] at hf
  simp only [Option.map_some, Option.some.injEq, Prod.mk.injEq] at hf
  obtain ⟨rfl, rfl⟩ := hf
  have hq' : fields[f]? = some fl := by simpa using hq
  simp only [Instr.field, Sem.run_bind, run_und h1, Result.andThen_ok, hq', asAgg, Sem.run_pure, run_part hok vs fl.offset hl]
theorem sound_field {ty : TypeId} {y : Operand} {f : Nat} (hty : ∀ t, x.ty t = tyOf P t) (hb : Begin n e a w G get o) (ho : o.op = .field ty y f) (h : act x get o = some ws) : Sound P n e a w G o ws := by
 simp only [act, ho] at h
 split at h
 ·rename_i cs off ft hc hf
  split at h
  ·rename_i hl
   obtain ⟨vs, Ls, hval⟩ := hb.opd (by simp [ho, Op.operands]) hc
   simp only [fieldOf, hty] at hf
   split at hf
   ·rename_i fs hd
    rw [hty] at hl h
    have hfm := hval.form
    simp only [form] at hfm
    have hcells : ValOk e w G (partShape (tyOf P ft), (cs.drop off).take (tyOf P ft).size) (form (partShape (tyOf P ft)) ((vs.drop off).take (tyOf P ft).size)) ((vs.drop off).take (tyOf P ft).size) (fun j => Ls (off + j)) :=
     ⟨(hval.cells.drop off).take _, rfl, fun c hc => hval.noOwn c (List.mem_of_mem_drop (List.mem_of_mem_take hc)), partShape_box _, partShape_dead _⟩
    obtain ⟨G', hp⟩ := hb.done hcells h
    refine Sound.value ?_ hp
    simp only [execOp, ho, hfm]
    refine run_v (run_field hd hf hl.1 vs ?_ w)
    rw [hval.cells.len]
    exact hl.2
   ·simp at hf
  ·simp at h
 ·simp at h
theorem nat_of {i : C} {m : Nat} {v : Value} {L : LT} (hm : natOf i = some m) (h : CellOk e w G i v L) : ∃ k, v = .int k (m : Int) := by
 cases i with
 | dat k q =>
  cases k with
  | int ik =>
   have hq := dat_int h
   simp only [natOf] at hm
   split at hm
   ·rename_i hq0
    simp only [Option.some.injEq] at hm
    subst hm
    exact ⟨ik, by rw [hq]; congr 1; exact (Int.toNat_of_nonneg hq0).symm⟩
   ·simp at hm
  | _ => simp [natOf] at hm
 | _ => simp [natOf] at hm
theorem sound_index {ty : TypeId} {y z : Operand} (hty : ∀ t, x.ty t = tyOf P t) (hb : Begin n e a w G get o) (ho : o.op = .index ty y z) (h : act x get o = some ws) : Sound P n e a w G o ws := by
 simp only [act, ho] at h
 split at h
 ·simp at h
 ·rename_i hs
  have hstr : P.underlying ty = some .string := ty_str (by rw [← hty]; simpa using hs)
  split at h
  ·rename_i s i hc hi
   split at h
   ·rename_i m hm
    split at h
    ·rename_i hlt
     obtain ⟨L, h1, _⟩ := hb.one (by simp [ho, Op.operands]) hc
     obtain ⟨M, h2, _⟩ := hb.one (by simp [ho, Op.operands]) hi
     have hs := dat_str h1
     obtain ⟨ik, hq⟩ := nat_of hm h2
     obtain ⟨G', hp⟩ := hb.cell (int_ok e w G .u8 (((s.getD m 0).toNat : Nat) : Int)) rfl h
     refine Sound.value ?_ hp
     simp only [execOp, ho, hs, hq]
     apply run_v
     have hg : (⟨⟨s⟩⟩ : ByteArray)[m]? = some (s.getD m 0) := by
      rw [getElem?_pos _ _ (by simpa [bytes_size] using hlt)]
      simp only [List.getD_eq_getElem?_getD, List.getElem?_eq_getElem hlt, Option.getD_some, Option.some.injEq]
      rfl
     have h0 : (0 : Int) ≤ (m : Int) := by omega
     simp only [Instr.index, asIntOf, Sem.run_bind, Sem.run_pure, Result.andThen_ok, run_und hstr, if_pos h0, Int.toNat_natCast, hg]
    ·simp at h
   ·simp at h
  ·simp at h
theorem leaves_length : ∀ (k : K) (x : k.T), (leaves k x).length = k.size
 | .int _, _ => rfl
 | .bool, _ => rfl
 | .str, _ => rfl
 | .list _, _ => rfl
 | .pair a b, x => by simp [leaves, K.size, leaves_length a, leaves_length b]
theorem leaves_get : ∀ (k : K) (x : k.T) (c : Nat), c < k.size → (leaves k x)[c]? = some (leafV k x c)
  | .int _, _, c, h => by simp only [K.size] at h; obtain rfl : c = 0 := by omega
                          rfl
  | .bool, _, c, h => by simp only [K.size] at h; obtain rfl : c = 0 := by omega
                         rfl
  | .str, _, c, h => by simp only [K.size] at h; obtain rfl : c = 0 := by omega
                        rfl
  | .list _, _, c, h => by simp only [K.size] at h; obtain rfl : c = 0 := by omega
                           rfl
  | .pair a b, x, c, h => by
    simp only [K.size] at h
    simp only [leaves, leafV]
    by_cases hlt : c < a.size
    · rw [List.getElem?_append_left (by rw [leaves_length]; exact hlt), leaves_get a _ _ hlt, if_pos hlt]
    · rw [List.getElem?_append_right (by rw [leaves_length]; omega), leaves_length, leaves_get b _ _ (by omega), if_neg hlt]
theorem path_snoc : ∀ (p : Path) (k : K) (l : List k.T) (L : LT) (i c : Nat) {k1 : K} {l1 : List k1.T} {k2 : K} {l2 : List k2.T}, PathOk k l p → getP k l p = ⟨k1, l1⟩ → i < l1.length → c < k1.size →
  leafV k1 (l1.getD i k1.dflt) c = ⟨.list k2, l2⟩ → PathOk k l (p ++ [(i, c)]) ∧ getP k l (p ++ [(i, c)]) = ⟨k2, l2⟩ ∧
  ∀ b off cap rows, subL k L p = .node b off cap rows → subL k L (p ++ [(i, c)]) = leafL k1 (rows.getD i .leaf) c
 | [], k, l, L, i, c, k1, l1, k2, l2, hp, hg, hi, hc, hl => by
  rw [getP_nil] at hg
  simp only [Sigma.mk.injEq] at hg
  obtain ⟨rfl, hg⟩ := hg
  have hg := eq_of_heq hg
  subst hg
  refine ⟨?_, ?_, fun b off cap rows hL => ?_⟩
  ·simp only [List.nil_append, PathOk, hl]
   exact ⟨hi, hc, trivial⟩
  ·simp only [List.nil_append, getP, hl]
  ·simp only [subL] at hL
   subst hL
   simp only [List.nil_append, subL, leafV_list hl]
 | (i0, c0) :: p, k, l, L, i, c, k1, l1, k2, l2, hp, hg, hi, hc, hl => by
  simp only [PathOk] at hp
  obtain ⟨a1, a2, hp⟩ := hp
  cases hl0 : leafV k (l.getD i0 k.dflt) c0 with
  | mk kk y =>
   rw [hl0] at hp
   cases kk with
   | list k' =>
    simp only at hp
    have hg' : getP k' y p = ⟨k1, l1⟩ := by rw [← hg]; simp only [getP, hl0]
    obtain ⟨b1, b2, _⟩ := path_snoc p k' y .nil i c hp hg' hi hc hl
    refine ⟨?_, ?_, fun b off cap rows hL => ?_⟩
    ·simp only [List.cons_append, PathOk, hl0]
     exact ⟨a1, a2, b1⟩
    ·simp only [List.cons_append, getP, hl0, b2]
    ·have hk := leafV_list hl0
     cases L with
     | node b0 off0 cap0 rows0 =>
      simp only [subL, hk] at hL
      obtain ⟨_, _, b3⟩ := path_snoc p k' y (leafL k (rows0.getD i0 .leaf) c0) i c hp hg' hi hc hl
      simp only [List.cons_append, subL, hk]
      exact b3 b off cap rows hL
     | _ => simp [subL] at hL
   | _ => exact hp.elim
theorem len_ok {c : C} {m : Nat} {v : Value} {L : LT} (hinv : Inv n e a.tmps w G) (hs : Sees get e) (hc : CellOk e w G c v L) (h : lenC get c = some m) :
  (∃ s, v = .string s ∧ s.size = m ∧ ∃ l, c = .dat .str l) ∨ (∃ b cap, v = .slice b m cap ∧ ∀ l, c ≠ .dat .str l) := by
 cases c with
 | nil =>
  simp only [lenC, Option.some.injEq] at h
  subst h
  exact .inr ⟨none, 0, hc, by simp⟩
 | dat k y =>
  cases k with
  | list k =>
   simp only [lenC, Option.some.injEq] at h
   subst h
   obtain ⟨h1, _⟩ := hc
   simp only [Rep] at h1
   obtain ⟨u, hu, h1⟩ := h1
   simp only [List.cons.injEq, and_true] at hu
   subst hu
   right
   rcases h1 with ⟨_, h2, b, cap, h3, _⟩ | ⟨b, off, cap, rows, _, h2, _⟩
   ·exact ⟨b, cap, by rw [h3, h2]; rfl, by simp⟩
   ·exact ⟨_, cap, h2, by simp⟩
  | str =>
   simp only [lenC, Option.some.injEq] at h
   subst h
   exact .inl ⟨_, dat_str hc, rfl, y, rfl⟩
  | _ => simp [lenC] at h
 | ref s j rv sv p lo hi k =>
  simp only [lenC] at h
  cases hcon : content get s j rv sv p k with
  | none => rw [hcon] at h; simp at h
  | some q =>
   obtain ⟨d, l⟩ := q
   rw [hcon] at h
   simp only [Option.map_some, Option.some.injEq] at h
   obtain ⟨sv', k0, l0, h1, h2, h3⟩ := content_ok hs hcon
   obtain ⟨g1, g2, g3, g4⟩ := ref_reads hinv hc h1 h2 h3
   right
   rcases g3 with ⟨_, h2, b, cap, h3, _⟩ | ⟨b, off, cap, rows, _, h2, _⟩
   ·exact ⟨b, cap, by rw [h3, ← h, h2]; rfl, by simp⟩
   ·exact ⟨_, cap, by rw [h2, h], by simp⟩
 | _ => simp [lenC] at h
theorem fits_slice {t : Nat} {c : C} (h : fitsTy (tyOf P t) c = true) (hc : ∀ l, c ≠ .dat .str l) : ∃ el, P.underlying t = some (.slice el) := by
 have key : (match (tyOf P t).d with | .slice _ => true | _ => false) = true → ∃ el, P.underlying t = some (.slice el) := by
  intro h
  split at h
  ·rename_i el q
   exact ⟨el, ty_slice q⟩
  ·simp at h
 cases c with
 | dat k l =>
  cases k with
  | str => exact absurd rfl (hc l)
  | _ => exact key h
 | _ => exact key h
theorem fits_str {t : Nat} {l : List UInt8} (h : fitsTy (tyOf P t) (.dat .str l) = true) : P.underlying t = some .string := ty_str h
theorem two_opds {y z : Operand} {v1 v2 : Val} (h : opds get [y, z] = some [v1, v2]) : opd get y = some v1 ∧ opd get z = some v2 := by
 simp only [opds] at h
 cases h1 : opd get y with
 | none => rw [h1] at h; simp at h
 | some q1 =>
  rw [h1] at h
  cases h2 : opd get z with
  | none => rw [h2] at h; simp at h
  | some q2 =>
   rw [h2] at h
   simp only [Option.some.injEq, List.cons.injEq, and_true] at h
   rw [h.1, h.2]
   exact ⟨rfl, rfl⟩
theorem opds_cons {y : Operand} {r : List Operand} {vs : List Val} (h : opds get (y :: r) = some vs) : ∃ v vs', vs = v :: vs' ∧ opd get y = some v ∧ opds get r = some vs' := by
 simp only [opds] at h
 cases h1 : opd get y with
 | none => rw [h1] at h; simp at h
 | some q1 =>
  rw [h1] at h
  cases h2 : opds get r with
  | none => rw [h2] at h; simp at h
  | some q2 =>
   rw [h2] at h
   simp only [Option.some.injEq] at h
   exact ⟨q1, q2, h.symm, rfl, rfl⟩
theorem opds_nil {vs : List Val} (h : opds get [] = some vs) : vs = [] := by simpa [opds] using h.symm
theorem opds_one {args : Array Operand} {v : Val} (h : opds get args.toList = some [v]) : ∃ y, args = #[y] ∧ opd get y = some v := by
 obtain ⟨l⟩ := args
 simp only at h
 match l, h with
 | [], h => simp [opds] at h
 | [y], h =>
  obtain ⟨v', vs', h1, h2, h3⟩ := opds_cons h
  have := opds_nil h3
  subst this
  simp only [List.cons.injEq, and_true] at h1
  subst h1
  exact ⟨y, rfl, h2⟩
 | y :: z :: r, h =>
  obtain ⟨v', vs', h1, h2, h3⟩ := opds_cons h
  obtain ⟨v'', vs'', h4, h5, h6⟩ := opds_cons h3
  subst h4
  simp at h1
theorem opds_two {args : Array Operand} {v1 v2 : Val} (h : opds get args.toList = some [v1, v2]) : ∃ y z, args = #[y, z] ∧ opd get y = some v1 ∧ opd get z = some v2 := by
 obtain ⟨l⟩ := args
 simp only at h
 match l, h with
 | [], h => simp [opds] at h
 | [y], h =>
  obtain ⟨v', vs', h1, h2, h3⟩ := opds_cons h
  have := opds_nil h3
  subst this
  simp at h1
 | [y, z], h => exact ⟨y, z, rfl, (two_opds h).1, (two_opds h).2⟩
 | y :: z :: q :: r, h =>
  obtain ⟨v', vs', h1, h2, h3⟩ := opds_cons h
  obtain ⟨v'', vs'', h4, h5, h6⟩ := opds_cons h3
  obtain ⟨v3, vs3, h7, h8, h9⟩ := opds_cons h6
  subst h7
  subst h4
  simp at h1
theorem sound_len {c0 : Call} (hty : ∀ t, x.ty t = tyOf P t) (hb : Begin n e a w G get o) (ho : o.op = .call c0) (hcb : c0.callee = .builtin .len) (hat : (c0.argTypes[0]?).isSome = true) {c : C}
  (hc : opds get c0.args.toList = some [(.one, [c])]) (hfit : fitsTy (x.ty (c0.argTypes.getD 0 0)) c = true) {m : Nat} (hm : lenC get c = some m)
  (h : some (Tr.lay { get, d := o.dst } o.dst (.one, [.dat (.int .i64) (m : Int)])).ws = some ws) : Sound P n e a w G o ws := by
 obtain ⟨y, hargs, hy⟩ := opds_one hc
 obtain ⟨L, h1, _⟩ := hb.one (by simp [ho, Op.operands, Call.operands, hcb, hargs]) hy
 obtain ⟨G', hp⟩ := hb.cell (int_ok e w G .i64 (m : Int)) rfl h
 refine Sound.value ?_ hp
 obtain ⟨t0, ht0⟩ := Option.isSome_iff_exists.1 hat
 have hgd : c0.argTypes.getD 0 0 = t0 := by simp only [Array.getD_eq_getD_getElem?, ht0, Option.getD_some]
 rw [hty, hgd] at hfit
 simp only [execOp, ho, resolve, hcb, hargs, Sem.run_bind, Sem.run_pure, Result.andThen_ok, invoke, builtin]
 have : (Builtin.len_ c0.argTypes o.type (#[y].map a.eval)).run P w = .ok (.int .i64 (m : Int)) w := by
  have hm1 : (#[y].map a.eval)[0]? = some (a.eval y) := by simp
  simp only [Builtin.len_, ht0, hm1]
  rcases len_ok hb.inv hb.sees h1 hm with ⟨s, h2, h3, l, h4⟩ | ⟨b, cap, h2, h3⟩
  ·rw [h4] at hfit
   simp only [h2, Sem.run_bind, run_und (fits_str hfit), Result.andThen_ok, Sem.run_pure, goInt, h3]
  ·obtain ⟨el, hel⟩ := fits_slice hfit h3
   simp only [h2, Sem.run_bind, run_und hel, Result.andThen_ok, Sem.run_pure, goInt]
 rw [this]
 rfl
end ops
end Go.Mach
namespace Go.Mach
set_option linter.unusedVariables false
set_option linter.unusedSimpArgs false
section ops
variable {P : Program} {n : Nat} {e : Env} {a : Act} {w : World} {G : Gh} {get : Nat → Slot} {o : Oper} {x : Ctx} {ws : Writes}
theorem offOf_eq (a : Option Nat) (m : Nat) : offOf a m = a.getD 0 + m := by cases a <;> simp [offOf]
theorem run_indexAt_slice {t el : Nat} {i : TypeInfo} (hu : P.underlying t = some (.slice el)) (hi : P.info? el = some i) {b o' len cap m : Nat} (hm : m < len) (ik : IntKind) (w : World) :
  (Instr.indexAt t (.slice (some ⟨b, o', none⟩) len cap) (.int ik (m : Int))).run P w = .ok (.pointer (some ⟨b, o' + m * (tyOf P el).size, none⟩)) w := by
 have h1 : (0 : Int) ≤ (m : Int) ∧ (m : Int) < (len : Int) := by omega
 simp only [Instr.indexAt, asIntOf, Sem.run_bind, Sem.run_pure, Result.andThen_ok, run_und hu, if_pos h1, run_size hi, Int.toNat_natCast, addr_add]
theorem run_indexAt_arr {t len el : Nat} {i : TypeInfo} (hu : P.underlying t = some (.array len el)) (hi : P.info? el = some i) {b o' m : Nat} (hm : m < len) (ik : IntKind) (w : World) :
  (Instr.indexAt t (.pointer (some ⟨b, o', none⟩)) (.int ik (m : Int))).run P w = .ok (.pointer (some ⟨b, o' + m * (tyOf P el).size, none⟩)) w := by
 have h1 : (0 : Int) ≤ (m : Int) ∧ (m : Int) < (len : Int) := by omega
 simp only [Instr.indexAt, asIntOf, Sem.run_bind, Sem.run_pure, Result.andThen_ok, run_und hu, Instr.sureAddr, if_pos h1, run_size hi, Int.toNat_natCast, addr_add]
theorem pim_of {k : K} {y : k.T} {L : LT} {vs : List Value} {b o' : Nat} (hrep : Rep false w k y L vs) (hrow : RowAt w b o' vs) (how : ∀ b' ∈ fp k L, G.ow b' = none) (hb : G.ow b = none) (hh : w.heap[b]? ≠ none) :
  CellOk e w G (.pim ((leaves k y).map fun g => .dat g.1 g.2) 0) (.pointer (some ⟨b, o', none⟩)) .leaf := by
 refine ⟨b, o', vs, fun i => leafL k L i, by simp, hb, hh, hrow, by rw [List.length_map, leaves_length, hrep.size], fun i c u hc hu => ?_⟩
 rw [List.getElem?_map] at hc
 have hi : i < k.size := by
  rcases Nat.lt_or_ge i k.size with g | g
  ·exact g
  ·rw [List.getElem?_eq_none (by rw [leaves_length]; exact g)] at hc; simp at hc
 rw [leaves_get k y i hi] at hc
 simp only [Option.map_some, Option.some.injEq] at hc
 subst hc
 obtain ⟨v, q1, q2, q3⟩ := hrep.leaf hi
 rw [q1] at hu
 simp only [Option.some.injEq] at hu
 subst hu
 exact ⟨q2, fun b' hb' => how b' (q3 b' hb')⟩
theorem sound_indexAddr {ty : TypeId} {y z : Operand} (hty : ∀ t, x.ty t = tyOf P t) (hb : Begin n e a w G get o) (ho : o.op = .indexAddr ty y z) (h : act x get o = some ws) : Sound P n e a w G o ws := by
 simp only [act, ho] at h
 split at h
 ·rename_i c i hc hi
  split at h
  ·rename_i m hm
   split at h
   ·rename_i c' hidx
    obtain ⟨L, h1, hnoL⟩ := hb.one (by simp [ho, Op.operands]) hc
    obtain ⟨M, h2, hnoM⟩ := hb.one (by simp [ho, Op.operands]) hi
    obtain ⟨ik, hq⟩ := nat_of hm h2
    unfold indexC at hidx
    split at hidx
    ·rename_i et hd
     rw [hty] at hd
     have hu := ty_slice hd
     split at hidx
     ·rename_i k l
      split at hidx
      ·rename_i hlt
       obtain ⟨hlt, hsz⟩ := hlt
       simp only [Option.some.injEq] at hidx
       subst hidx
       rw [hty] at hsz
       obtain ⟨inf, hinf⟩ := ty_size_info (P := P) (t := et) (by rw [hsz]; have := k.size_pos; omega)
       obtain ⟨h1, h1o⟩ := h1
       simp only [Rep] at h1
       obtain ⟨u, hu', h1⟩ := h1
       simp only [List.cons.injEq, and_true] at hu'
       have hth := h1.there
       obtain ⟨b, off, cap, rows, r, vs, rfl, hv, _, _, hr, hrow, hrep⟩ := h1.elem hlt
       have hrm : r ∈ rows := List.mem_of_getElem? hr
       have hcell : CellOk e w G (.pim ((leaves k (l.getD m k.dflt)).map fun g => .dat g.1 g.2) 0) (.pointer (some ⟨b, off + m * k.size, none⟩)) .leaf :=
        pim_of hrep hrow (fun b' hb' => h1o b' (by simp only [fp, List.mem_cons, List.mem_flatMap]; exact .inr ⟨r, hrm, hb'⟩)) (h1o b (by simp [fp])) (hth b (by simp [fp]))
       obtain ⟨G', hp⟩ := hb.cell hcell rfl h
       refine Sound.value ?_ hp
       simp only [execOp, ho, hu', hv, hq]
       rw [← hsz]
       exact run_v (run_indexAt_slice hu hinf hlt ik w)
      ·simp at hidx
     ·rename_i s j rv sv p lo hi' k
      split at hidx
      ·rename_i len hlen
       split at hidx
       ·rename_i hlt
        obtain ⟨hlt, hsz⟩ := hlt
        simp only [Option.some.injEq] at hidx
        subst hidx
        rw [hty] at hsz
        obtain ⟨inf, hinf⟩ := ty_size_info (P := P) (t := et) (by rw [hsz]; have := k.size_pos; omega)
        simp only [lenC] at hlen
        cases hcon : content get s j rv sv p k with
        | none => rw [hcon] at hlen; simp at hlen
        | some q =>
         obtain ⟨d, l⟩ := q
         rw [hcon] at hlen
         simp only [Option.map_some, Option.some.injEq] at hlen
         obtain ⟨sv', k0, l0, g1, g2, g3⟩ := content_ok hb.sees hcon
         obtain ⟨r1, r2, r3, r4⟩ := ref_reads hb.inv h1 g1 g2 g3
         have hlc := cut_length lo hi' l r1.2.1
         obtain ⟨s1, s2, s3⟩ := r1
         cases hhd : hdOf (subL k0 (G.lt s j) p) with
         | none =>
          rw [hhd] at s3
          obtain ⟨_, _, s3⟩ := s3
          omega
         | some bb =>
          obtain ⟨b, off, cap⟩ := bb
          rw [hhd] at s3
          obtain ⟨s4, o', hv, s5⟩ := s3
          have hcap : cap - lo.getD 0 ≠ 0 := by omega
          have s5 := s5 hcap
          subst s5
          have hcell : CellOk e w G (.aptr s j rv sv p (offOf lo m) 0 k) (.pointer (some ⟨b, off + (lo.getD 0 + m) * k.size, none⟩)) .leaf := by
           refine ⟨⟨_, _, rfl⟩, h1.1, h1.2.1, fun sv1 d1 k1 l1 q1 q2 => ?_⟩
           have q1 := some_of_getD q1 (by simp)
           rw [g1] at q1
           simp only [Option.some.injEq, C.own.injEq] at q1
           obtain ⟨_, rfl, rfl, rfl, q1⟩ := q1
           have q1 := eq_of_heq q1
           subst q1
           refine ⟨l.length, b, off, cap, ⟨r2, by rw [g3], by rw [g3], hhd⟩, ?_, ?_⟩
           ·rw [offOf_eq]; omega
           ·rw [offOf_eq]; simp
          obtain ⟨G', hp⟩ := hb.cell hcell rfl h
          refine Sound.value ?_ hp
          simp only [execOp, ho, hv, hq]
          rw [Nat.add_mul, ← Nat.add_assoc, ← hsz]
          exact run_v (run_indexAt_slice hu hinf (by omega) ik w)
       ·simp at hidx
      ·simp at hidx
     ·simp at hidx
    ·rename_i len et hd
     rw [hty] at hd
     have hu := ty_arr hd
     split at hidx
     ·rename_i s bv j
      split at hidx
      ·rename_i hlt
       obtain ⟨hlt, hsz⟩ := hlt
       simp only [Option.some.injEq] at hidx
       subst hidx
       rw [hty] at h hsz
       obtain ⟨b, o', hv⟩ := ptr_val h1 rfl
       obtain ⟨inf, hinf⟩ := ty_size_info hsz
       obtain ⟨h3, h4⟩ := addC_ok (c := .bptr s bv j) (off := m * (tyOf P et).size) h1 rfl hv
       obtain ⟨G', hp⟩ := hb.cell h3 h4 h
       refine Sound.value ?_ hp
       simp only [execOp, ho, hv, hq]
       exact run_v (run_indexAt_arr hu hinf hlt ik w)
      ·simp at hidx
     ·simp at hidx
    ·simp at hidx
   ·simp at h
  ·simp at h
 ·simp at h
theorem run_loadAt {t : Nat} (hok : (tyOf P t).ok = true) {b o' : Nat} {vs : List Value} (hrow : RowAt w b o' vs) (hl : vs.length = (tyOf P t).size) :
  (Instr.loadAt t (.pointer (some ⟨b, o', none⟩))).run P w = .ok (form (partShape (tyOf P t)) vs) w := by
 obtain ⟨i, d, hi, hu, h1, hag⟩ := ty_ok hok
 have hag := congrFun hag w
 have hadd : ∀ (j : Nat) (v : Value), vs[j]? = some v → w.cell? ((⟨b, o', none⟩ : Addr).add j) = some v := fun j v hv => by rw [addr_add]; exact hrow j v hv
 simp only [Instr.loadAt, Instr.sureAddr, loadVar, Sem.run_bind, Sem.run_pure, Result.andThen_ok, hag]
 cases hh : (tyOf P t).agg with
 | true =>
  simp only [if_true, Sem.run_bind, run_size hi, Result.andThen_ok, partShape, hh, form]
  rw [← hl, run_loadCells_list w _ vs hadd]
  rfl
 | false =>
  have h1 := h1 hh
  rw [(ty_size hi).1, h1] at hl
  match vs, hl with
  | [v], _ =>
   have hc := hadd 0 v rfl
   have h0 : ((⟨b, o', none⟩ : Addr).add 0) = ⟨b, o', none⟩ := by rw [addr_add]; rfl
   rw [h0] at hc
   simp only [Bool.false_eq_true, if_false, partShape, hh, form, List.headD_cons]
   simp only [load, Sem.run, hc]
theorem getElem_cells {w : World} {b : Nat} {vs : List Value} {ty : TypeId} {fr : Nat × Nat} (h : w.heap[b]? = some (.cells vs.toArray ty fr)) (i : Nat) : w.cell? ⟨b, i, none⟩ = vs[i]? := by
 simp [World.cell?, h]
theorem leafC_ok {s j rv sv : Nat} {p : Path} {k : K} {l : List k.T} {k0 : K} {l0 : List k0.T} {sv' : Nat} {d : Bool} (hinv : Inv n e a.tmps w G) (h1 : (e.get s).cs[j]? = some (.own rv sv' d k0 l0)) (h2 : p = [] ∨ (svOk p sv sv' = true ∧ d = true))
  (hp : PathOk k0 l0 p) (hl : getP k0 l0 p = ⟨k, l⟩) {i c : Nat} (hi : i < l.length) (hc : c < k.size) {b off cap : Nat} {rows : List LT} (hL : subL k0 (G.lt s j) p = .node b off cap rows)
  {r : LT} {vs : List Value} (hr : rows[i]? = some r) (hrep : Rep d w k (l.getD i k.dflt) r vs) (hdf : d = false → ∀ b ∈ fp k r, G.ow b = none) {v : Value} (hv : vs[c]? = some v) :
  CellOk e w G (leafC s j rv sv' p i c d (leafV k (l.getD i k.dflt) c)) v (leafL k r c) ∧ (leafC s j rv sv' p i c d (leafV k (l.getD i k.dflt) c)).isOwn = false := by
 obtain ⟨v1, q1, q2, q3⟩ := hrep.leaf hc
 rw [q1] at hv
 simp only [Option.some.injEq] at hv
 subst hv
 obtain ⟨u, hu, hcell⟩ := hinv.val h1
 have hsh : (e.get s).sh ≠ .dead := fun q => by rw [(hinv.slot s).dead q] at h1; simp at h1
 have hvers := (hinv.slot s).vers hsh j rv sv' d k0 l0 h1
 have hns : ∀ (k' : K) (y : k'.T), leafV k (l.getD i k.dflt) c = ⟨k', y⟩ → k'.flat = true → CellOk e w G (.dat k' y) v1 (leafL k r c) := by
  intro k' y hq hf
  rw [hq] at q2
  simp only at q2
  exact ⟨q2.flat hf, by rw [fp_flat hf]; simp⟩
 cases hq : leafV k (l.getD i k.dflt) c with
 | mk k' y =>
  cases k' with
  | list k2 =>
   simp only [leafC]
   cases d with
   | false =>
    simp only [Bool.false_eq_true, if_false]
    rw [hq] at q2 q3
    simp only at q2 q3
    exact ⟨⟨q2, fun b' hb' => hdf rfl b' (q3 b' hb')⟩, rfl⟩
   | true =>
    simp only [if_true]
    refine ⟨⟨hvers.1, fun _ => hvers.2, fun sv1 d1 k1 l1 z1 z2 => ?_⟩, rfl⟩
    have z1 := some_of_getD z1 (by simp)
    rw [h1] at z1
    simp only [Option.some.injEq, C.own.injEq] at z1
    obtain ⟨_, rfl, rfl, rfl, z1⟩ := z1
    have z1 := eq_of_heq z1
    subst z1
    obtain ⟨s1, s2, s3⟩ := path_snoc p k0 l0 (G.lt s j) i c hp hl hi hc hq
    have s3 := s3 b off cap rows hL
    have hrd : rows.getD i .leaf = r := by simp [List.getD_eq_getElem?_getD, hr]
    rw [hrd] at s3
    refine ⟨y.length, hdOf (leafL k r c), ⟨s1, by rw [s2], by rw [s2], by rw [s3]⟩, ?_⟩
    rw [hq] at q2
    simp only [Rep] at q2
    obtain ⟨v2, e1, e2⟩ := q2
    simp only [List.cons.injEq, and_true] at e1
    subst e1
    exact hd_of_repl e2 rfl
  | int ik => exact ⟨hns _ _ hq rfl, rfl⟩
  | bool => exact ⟨hns _ _ hq rfl, rfl⟩
  | str => exact ⟨hns _ _ hq rfl, rfl⟩
  | pair k2 k3 =>
   rw [hq] at q2
   have := q2.size
   simp only [List.length_singleton, K.size] at this
   have := k2.size_pos
   have := k3.size_pos
   omega
theorem readLeaves_get {k : K} {y : k.T} {s j rv sv : Nat} {p : Path} {i : Nat} {d : Bool} : ∀ (m c q : Nat), q < m → (readLeaves k y s j rv sv p i d c m)[q]? = some (leafC s j rv sv p i (c + q) d (leafV k y (c + q)))
 | 0, c, q, h => by omega
 | m + 1, c, 0, h => by simp [readLeaves]
 | m + 1, c, q + 1, h => by
  simp only [readLeaves, List.getElem?_cons_succ]
  rw [readLeaves_get m (c + 1) q (by omega), show c + 1 + q = c + (q + 1) by omega]
theorem readLeaves_length {k : K} {y : k.T} {s j rv sv : Nat} {p : Path} {i : Nat} {d : Bool} : ∀ (m c : Nat), (readLeaves k y s j rv sv p i d c m).length = m
 | 0, c => rfl
 | m + 1, c => by simp [readLeaves, readLeaves_length m]
theorem load_ok (hinv : Inv n e a.tmps w G) (hs : Sees get e) {c : C} {v : Value} {L : LT} (hc : CellOk e w G c v L) {m : Nat} {cs : List C} (h : loadC get m c = some cs) :
  ∃ b o' vs Ls, v = .pointer (some ⟨b, o', none⟩) ∧ vs.length = m ∧ RowAt w b o' vs ∧ CellsOk e w G cs vs Ls ∧ (∀ c ∈ cs, c.isOwn = false) := by
 cases c with
 | bptr s bv j =>
  simp only [loadC] at h
  split at h
  ·rename_i hh
   simp only [Option.some.injEq] at h
   subst h
   obtain ⟨hsh, hl⟩ := hh
   have hg : get s = e.get s := by
    rcases hs s with q | q
    ·exact q
    ·rw [q] at hsh; simp at hsh
   rw [hg] at hsh hl ⊢
   have hslot := hinv.slot s
   have hsd : (e.get s).sh ≠ .dead := by rw [hsh]; simp
   have hlen := hslot.len hsd
   obtain ⟨_, ty, hheap⟩ := hslot.box bv hsh
   refine ⟨G.bk s, j, ((G.vs s).drop j).take m, fun i => G.lt s (j + i), hc.2.1 hsh, by simp; omega, fun i u hu => ?_, ⟨by rw [copyFrom_length]; simp; omega, fun i c' u hc' hu => ?_⟩, copyFrom_noOwn _ _ _⟩
   ·rw [List.getElem?_take] at hu
    split at hu
    ·rw [List.getElem?_drop] at hu
     rw [getElem_cells hheap]
     exact hu
    ·simp at hu
   ·rw [copyFrom_get, List.getElem?_take] at hc'
    rw [List.getElem?_take] at hu
    split at hc'
    ·rename_i hi
     rw [if_pos hi, List.getElem?_drop] at hu
     rw [List.getElem?_drop] at hc'
     cases hq : (e.get s).cs[j + i]? with
     | none => rw [hq] at hc'; simp at hc'
     | some c0 =>
      rw [hq] at hc'
      simp only [Option.map_some, Option.some.injEq] at hc'
      subst hc'
      exact hslot.copy hq hu
    ·simp at hc'
  ·simp at h
 | pim cs0 j =>
  simp only [loadC] at h
  split at h
  ·rename_i hl
   simp only [Option.some.injEq] at h
   subst h
   obtain ⟨b, o', vs, Ls, h1, h2, h3, h4, h5, h6⟩ := hc
   have hget : ∀ (i : Nat) c', ((cs0.drop j).take m)[i]? = some c' → ∃ u, vs[j + i]? = some u ∧ i < m ∧ cs0[j + i]? = some c' := by
    intro i c' hc'
    rw [List.getElem?_take] at hc'
    split at hc'
    ·rename_i hi
     rw [List.getElem?_drop] at hc'
     have : j + i < cs0.length := by
      rcases Nat.lt_or_ge (j + i) cs0.length with g | g
      ·exact g
      ·rw [List.getElem?_eq_none g] at hc'; simp at hc'
     exact ⟨_, List.getElem?_eq_getElem (by omega), hi, hc'⟩
    ·simp at hc'
   have hdat : ∀ (i : Nat) c' u, cs0[i]? = some c' → vs[i]? = some u → CellOk e w G c' u (Ls i) ∧ c'.isOwn = false := by
    intro i c' u z1 z2
    have := h6 i c' u z1 z2
    cases c' with
    | nil => exact ⟨this, rfl⟩
    | dat k y => exact ⟨this, rfl⟩
    | _ => exact this.elim
   refine ⟨b, o' + j, (vs.drop j).take m, fun i => Ls (j + i), h1, by simp; omega, fun i u hu => ?_, ⟨by simp; omega, fun i c' u hc' hu => ?_⟩, fun c' hc' => ?_⟩
   ·rw [List.getElem?_take] at hu
    split at hu
    ·rw [List.getElem?_drop] at hu
     rw [Nat.add_assoc]
     exact h4 (j + i) u hu
    ·simp at hu
   ·obtain ⟨u', z1, z2, z3⟩ := hget i c' hc'
    rw [List.getElem?_take, if_pos z2, List.getElem?_drop] at hu
    exact (hdat _ _ _ z3 hu).1
   ·obtain ⟨i, hi⟩ := List.getElem?_of_mem hc'
    obtain ⟨u', z1, z2, z3⟩ := hget i c' hi
    exact (hdat _ _ _ z3 z1).2
  ·simp at h
 | aptr s j rv sv p i c k =>
  simp only [loadC] at h
  split at h
  ·rename_i rv' sv' d k0 l0 hcell
   split at h
   ·rename_i hcond
    obtain ⟨rfl, hp, hcs⟩ := hcond
    cases hcl : castL (getP k0 l0 p).1 (getP k0 l0 p).2 k with
    | none => rw [hcl] at h; simp at h
    | some l =>
     rw [hcl] at h
     simp only at h
     split at h
     ·rename_i hil
      simp only [Option.some.injEq] at h
      subst h
      have hown : (e.get s).cs[j]? = some (.own rv sv' d k0 l0) := by
       have := some_of_getD hcell (by simp)
       rcases hs s with q | q
       ·rw [q] at this; exact this
       ·rw [q] at this; simp at this
      have hl : getP k0 l0 p = ⟨k, l⟩ := castL_some hcl
      obtain ⟨mm, b, off, cap, ⟨q1, q2, q3, q4⟩, q5, q6⟩ := hc.2.2.2 sv' d k0 l0 (getD_some hown _) hp
      obtain ⟨u, hu, hin⟩ := hinv.at_path hown q1 (hp.imp id And.right) hl
      obtain ⟨b', off', cap', rows, r, vs, hL, _, _, hrl, hr, hrow, hrep⟩ := hu.elem hil
      rw [hL] at q4
      simp only [hdOf, Option.some.injEq, Prod.mk.injEq] at q4
      obtain ⟨rfl, rfl, rfl⟩ := q4
      have hvl := hrep.size
      have hdf : d = false → ∀ b ∈ fp k r, G.ow b = none := by
       intro hd b' hb'
       subst hd
       have hp0 : p = [] := hp.resolve_right (by simp)
       subst hp0
       rw [getP_nil] at hl
       simp only [Sigma.mk.injEq] at hl
       obtain ⟨rfl, hl⟩ := hl
       simp only [subL] at hL
       refine (hinv.ownBlocks hown).2.1 rfl b' ?_
       rw [hL]
       simp only [inner, List.mem_flatMap]
       exact ⟨r, List.mem_of_getElem? hr, hb'⟩
      have hleaf : ∀ (q : Nat), q < m → ∀ u, vs[c + q]? = some u → CellOk e w G (leafC s j rv sv' p i (c + q) d (leafV k (l.getD i k.dflt) (c + q))) u (leafL k r (c + q)) ∧ (leafC s j rv sv' p i (c + q) d (leafV k (l.getD i k.dflt) (c + q))).isOwn = false :=
       fun q hq u hu => leafC_ok hinv hown hp q1 hl hil (by omega) hL hr hrep hdf hu
      refine ⟨b', off' + i * k.size + c, (vs.drop c).take m, fun q => leafL k r (c + q), q6, by simp; omega, fun q u hu => ?_, ⟨by rw [readLeaves_length]; simp; omega, fun q c' u hc' hu => ?_⟩, fun c' hc' => ?_⟩
      ·rw [List.getElem?_take] at hu
       split at hu
       ·rw [List.getElem?_drop] at hu
        rw [Nat.add_assoc]
        exact hrow (c + q) u hu
       ·simp at hu
      ·have hq : q < m := by
        rcases Nat.lt_or_ge q m with g | g
        ·exact g
        ·rw [List.getElem?_eq_none (by rw [readLeaves_length]; exact g)] at hc'; simp at hc'
       rw [readLeaves_get m c q hq] at hc'
       simp only [Option.some.injEq] at hc'
       subst hc'
       rw [List.getElem?_take, if_pos hq, List.getElem?_drop] at hu
       exact (hleaf q hq u hu).1
      ·obtain ⟨q, hq'⟩ := List.getElem?_of_mem hc'
       have hq : q < m := by
        rcases Nat.lt_or_ge q m with g | g
        ·exact g
        ·rw [List.getElem?_eq_none (by rw [readLeaves_length]; exact g)] at hq'; simp at hq'
       rw [readLeaves_get m c q hq] at hq'
       simp only [Option.some.injEq] at hq'
       subst hq'
       exact (hleaf q hq _ (List.getElem?_eq_getElem (by omega))).2
     ·simp at h
   ·simp at h
  ·simp at h
 | _ => simp [loadC] at h
end ops
def Gh.disown (G : Gh) (F : List Nat) : Gh := { G with ow := fun b => if b ∈ F then none else G.ow b }
theorem CellOk.disown {e : Env} {w : World} {G : Gh} {c : C} {v : Value} {L : LT} (h : CellOk e w G c v L) (F : List Nat) (ho : c.isOwn = false) : CellOk e w (G.disown F) c v L :=
 h.frame (fun t => TM.refl rfl (fun _ => rfl) rfl) (fun b h1 h2 => ⟨rfl, by simp only [Gh.disown]; split <;> first | rfl | exact h1⟩) (by rw [noOwn_ownB ho]; intro b hb; simp at hb)
theorem Inv.disown {n : Nat} {e : Env} {tm : Array Value} {w : World} {G : Gh} (h : Inv n e tm w G) {F : List Nat} (hF : ∀ b ∈ F, Loose e G b) : Inv n e tm w (G.disown F) where
 size := h.size
 elen := h.elen
 slot := fun s => (h.slot s).frame rfl (fun _ => rfl) rfl (fun _ => rfl) rfl (fun t => TM.refl rfl (fun _ => rfl) rfl)
  (fun b h1 h2 => ⟨rfl, by simp only [Gh.disown]; split <;> first | rfl | exact h1⟩)
  (fun b hb => ⟨rfl, by
   have : b ∉ F := fun q => hF b q s hb
   simp only [Gh.disown, if_neg this]
   exact (h.slot s).own b hb⟩)
 lt := fun b s hb => by
  simp only [Gh.disown] at hb
  split at hb
  ·simp at hb
  ·exact h.lt b s hb
theorem Loose.disown {e : Env} {G : Gh} {F : List Nat} {b : Nat} (h : Loose e G b) : Loose e (G.disown F) b := h
theorem Inv.revive {n : Nat} {e : Env} {tm : Array Value} {w : World} {G : Gh} (h : Inv n e tm w G) {s j : Nat} {c : C} {v : Value} (hd : (e.get s).cs[j]? = some .dead) (hv : (G.vs s)[j]? = some v) (hc : CellOk e w G c v (G.lt s j)) (ho : c.isOwn = false) :
  Inv n (e.set s { e.get s with cs := (e.get s).cs.set j c }) tm w G ∧ (∀ t, TM e (e.set s { e.get s with cs := (e.get s).cs.set j c }) G G t) ∧ ∀ t, fpS G t (Env.get (e.set s { e.get s with cs := (e.get s).cs.set j c }) t) = fpS G t (e.get t) := by
 have hl := slot_alive hd
 have hjl : j < (e.get s).cs.length := (List.getElem?_eq_some_iff.1 hd).1
 have hs := h.slot s
 have hne : (e.get s).sh ≠ .dead := fun q => by rw [hs.dead q] at hd; simp at hd
 have hTM : ∀ t, TM e (e.set s { e.get s with cs := (e.get s).cs.set j c }) G G t := by
  intro t
  by_cases g : t = s
  ·subst g
   refine ⟨by rw [get_set_self hl]; exact Nat.le_refl _, ?_, ?_⟩
   ·intro i rv1 sv1 d1 k1 l1 h1 h2
    rw [get_set_self hl] at h1
    simp only at h1
    by_cases g : i = j
    ·subst g
     have : ((e.get t).cs.set i c).getD i .dead = c := getD_some (by simp [hjl]) _
     rw [this] at h1
     rw [h1] at ho
     simp [C.isOwn] at ho
    ·rw [getD_set_ne g] at h1
     exact ⟨sv1, d1, l1, h1, fun _ _ _ hh => hh, fun hd p a _ _ ha => ⟨ha, hd, fun _ _ _ hh => hh⟩⟩
   ·intro bv h1 _
    rw [get_set_self hl] at h1
    exact ⟨h1, rfl⟩
  ·exact TM.refl (get_set_ne g) (fun _ => rfl) rfl
 have hfp : ∀ t, fpS G t (Env.get (e.set s { e.get s with cs := (e.get s).cs.set j c }) t) = fpS G t (e.get t) := by
  intro t
  by_cases g : t = s
  ·subst g
   rw [get_set_self hl]
   have : fpCells (G.lt t) 0 ((e.get t).cs.set j c) = fpCells (G.lt t) 0 (e.get t).cs := fpCells_congr (by simp) fun i c1 c2 h1 h2 => by
    by_cases g : j = i
    ·subst g
     rw [hd] at h1
     rw [List.getElem?_set_self hjl] at h2
     simp only [Option.some.injEq] at h1 h2
     subst h1; subst h2
     rw [noOwn_ownB ho]
     rfl
    ·rw [List.getElem?_set_ne g, h1] at h2
     simp only [Option.some.injEq] at h2
     rw [h2]
   simp only [fpS, this]
  ·rw [get_set_ne g]
 refine ⟨?_, hTM, hfp⟩
 refine h.turn s _ h.size (fun t _ => ⟨rfl, fun _ => rfl, rfl⟩) (fun t _ _ => rfl) (fun _ => hTM s) still_refl (fun t _ b hb => ⟨rfl, (h.slot t).own b hb⟩) (fun _ => ?_) h.lt
 refine ⟨fun hn => ?_, fun bv hb => ?_, fun q => ?_, fun q i c' v' h1 h2 => ?_, fun q i rv sv d k l h1 => ?_, by rw [hfp]; exact hs.nodup, by rw [hfp]; exact hs.own, fun q => ?_⟩
 ·rw [get_set_self hl]; exact hs.form hn
 ·rw [get_set_self hl] at hb ⊢; exact hs.box bv hb
 ·rw [get_set_self hl]; simp only [List.length_set]; exact hs.len hne
 ·rw [get_set_self hl] at h1
  simp only at h1
  by_cases g : j = i
  ·subst g
   rw [List.getElem?_set_self hjl] at h1
   simp only [Option.some.injEq] at h1
   subst h1
   rw [hv] at h2
   simp only [Option.some.injEq] at h2
   subst h2
   exact hc.frame hTM still_refl (by rw [noOwn_ownB ho]; intro b hb; simp at hb)
  ·rw [List.getElem?_set_ne g] at h1
   exact (hs.cells hne i c' v' h1 h2).frame hTM still_refl (fun b _ => rfl)
 ·rw [get_set_self hl] at h1 ⊢
  simp only at h1
  by_cases g : j = i
  ·subst g
   rw [List.getElem?_set_self hjl] at h1
   simp only [Option.some.injEq] at h1
   rw [h1] at ho
   simp [C.isOwn] at ho
  ·rw [List.getElem?_set_ne g] at h1
   exact hs.vers hne i rv sv d k l h1
 ·rw [get_set_self hl] at q; exact absurd q hne
theorem Inv.giveCell {n : Nat} {e : Env} {tm : Array Value} {w : World} {G : Gh} (h : Inv n e tm w G) {s j rv sv : Nat} {d : Bool} {k : K} {l : List k.T} (hc : (e.get s).cs[j]? = some (.own rv sv d k l)) :
  ∃ G', Inv n (e.set s { e.get s with cs := (e.get s).cs.set j (.dat (.list k) l) }) tm w G' ∧ Ext w e G (e.set s { e.get s with cs := (e.get s).cs.set j (.dat (.list k) l) }) G' := by
 obtain ⟨v, hv, hcell⟩ := h.val hc
 obtain ⟨o1, o2, o3⟩ := h.ownBlocks hc
 have hl := slot_alive hc
 have hjl : j < (e.get s).cs.length := (List.getElem?_eq_some_iff.1 hc).1
 have hk : Env.get (e.set s ((e.get s).kill j)) s = (e.get s).kill j := get_set_self hl
 have h2 := (h.kill s j).disown (F := ownB (.own rv sv d k l) (G.lt s j)) (fun b hb => (h.loose hc hb).2)
 have hdead : (Env.get (e.set s ((e.get s).kill j)) s).cs[j]? = some .dead := by rw [hk]; simp [Slot.kill, hjl]
 have hcok : CellOk (e.set s ((e.get s).kill j)) w (G.disown (ownB (.own rv sv d k l) (G.lt s j))) (.dat (.list k) l) v ((G.disown (ownB (.own rv sv d k l) (G.lt s j))).lt s j) := by
  refine ⟨hcell.1.rep, fun b hb => ?_⟩
  simp only [Gh.disown]
  split
  ·rfl
  ·rename_i q
   cases d with
   | true => exact absurd hb q
   | false =>
    have hb : b ∈ fp (.list k) (G.lt s j) := hb
    rw [fp_list, List.mem_append] at hb
    rcases hb with hb | hb
    ·exact absurd hb q
    ·exact o2 rfl b hb
 obtain ⟨h3, hTM, hfp⟩ := h2.revive hdead hv hcok rfl
 have henv : ((e.set s ((e.get s).kill j)).set s { Env.get (e.set s ((e.get s).kill j)) s with cs := (Env.get (e.set s ((e.get s).kill j)) s).cs.set j (.dat (.list k) l) }) = e.set s { e.get s with cs := (e.get s).cs.set j (.dat (.list k) l) } := by
  rw [hk]
  simp [Slot.kill]
 rw [henv] at h3 hTM hfp
 refine ⟨_, h3, ?_⟩
 have hx := Ext.kill (w := w) (e := e) (G := G) s j
 generalize hF : ownB (.own rv sv d k l) (G.lt s j) = F at *
 have hne : (e.get s).sh ≠ .dead := fun q => by rw [(h.slot s).dead q] at hc; simp at hc
 have hFm : ∀ b ∈ F, b ∈ fpS G s (e.get s) := by
  intro b hb
  rw [← hF] at hb
  simp only [fpS, List.mem_append]
  right
  have := fpCells_mem (lt := G.lt s) (i := 0) hc (by simpa using hb)
  cases hh : (e.get s).sh <;> simp_all
 have hnone : ∀ b, G.ow b = none → (G.disown F).ow b = none := by
  intro b hb
  simp only [Gh.disown]
  split
  ·rfl
  ·exact hb
 have hsub : ∀ t b, b ∈ fpS (G.disown F) t (Env.get (e.set s { e.get s with cs := (e.get s).cs.set j (.dat (.list k) l) }) t) → b ∈ fpS G t (e.get t) := by
  intro t b hb
  rw [hfp t] at hb
  have hb : b ∈ fpS G t (Env.get (e.set s ((e.get s).kill j)) t) := hb
  by_cases g : t = s
  ·subst g
   rw [hk] at hb
   exact (fpS_kill_sub G t j (e.get t)).subset hb
  ·rw [get_set_ne g] at hb
   exact hb
 refine ⟨by simp, fun c v L hno hc' => ((hx.cell c v L hno hc').disown F hno).frame hTM still_refl (by rw [noOwn_ownB hno]; intro b hb; simp at hb), fun b h1 h2 => ⟨fun t ht => h1 t (hsub t b ht), ?_⟩, hnone, fun b t hb => ?_, fun t => ?_, fun t => ?_, rfl, rfl, rfl, fun t => ?_⟩
 ·simp only [Gh.disown]
  rw [if_neg (fun q => h1 s (hFm b q))]
 ·simp only [Gh.disown] at hb
  split at hb
  ·simp at hb
  ·exact hb
 ·by_cases g : t = s
  ·subst g; rw [get_set_self hl]
  ·rw [get_set_ne g]
 ·by_cases g : t = s
  ·subst g; rw [get_set_self hl]; exact Nat.le_refl _
  ·rw [get_set_ne g]; exact Nat.le_refl _
 ·by_cases g : t = s
  ·subst g; rw [get_set_self hl]; simp
  ·rw [get_set_ne g]
section ops
variable {P : Program} {n : Nat} {e : Env} {a : Act} {w : World} {G : Gh} {get : Nat → Slot} {o : Oper} {x : Ctx} {ws : Writes}
theorem giveOne_d (t : Tr) (s j : Nat) : (giveOne t s j).d = t.d := by
 unfold giveOne
 split <;> rfl
theorem giveN_d (s : Nat) : ∀ (m j : Nat) (t : Tr), (giveN s m j t).d = t.d
 | 0, _, _ => rfl
 | m + 1, j, t => by rw [giveN, giveN_d s m, giveOne_d]
theorem chill_d (t : Tr) (m : Nat) (c : C) : (chill x t m c).d = t.d := by
 unfold chill
 split
 ·split
  ·exact giveN_d _ _ _ _
  ·rfl
 ·rfl
theorem giveOne_ok {tm : Array Value} {e e0 : Env} {G : Gh} {t : Tr} (h : Inv n e tm w G) (ht : TrOk e0 t e) (s j : Nat) : ∃ e' G', Inv n e' tm w G' ∧ TrOk e0 (giveOne t s j) e' ∧ Ext w e G e' G' := by
 unfold giveOne
 split
 ·rename_i hcell
  obtain ⟨s1, s2⟩ := ht.cell hcell (by simp)
  obtain ⟨G', f1, f2⟩ := h.giveCell s2
  rw [s1]
  exact ⟨_, G', f1, ht.put _ (slot_alive s2), f2⟩
 ·exact ⟨e, G, h, ht, Ext.refl⟩
theorem giveN_ok {tm : Array Value} {e0 : Env} (s : Nat) : ∀ (m j : Nat) {e : Env} {G : Gh} {t : Tr}, Inv n e tm w G → TrOk e0 t e → ∃ e' G', Inv n e' tm w G' ∧ TrOk e0 (giveN s m j t) e' ∧ Ext w e G e' G'
 | 0, _, e, G, _, h, ht => ⟨e, G, h, ht, Ext.refl⟩
 | m + 1, j, e, G, t, h, ht => by
  obtain ⟨e1, G1, a1, a2, a3⟩ := giveOne_ok h ht s j
  obtain ⟨e2, G2, b1, b2, b3⟩ := giveN_ok s m (j + 1) a1 a2
  exact ⟨e2, G2, b1, b2, a3.trans b3⟩
theorem chill_ok {tm : Array Value} {e0 : Env} {t : Tr} (h : Inv n e tm w G) (ht : TrOk e0 t e) (m : Nat) (c : C) : ∃ e' G', Inv n e' tm w G' ∧ TrOk e0 (chill x t m c) e' ∧ Ext w e G e' G' := by
 unfold chill
 split
 ·split
  ·exact giveN_ok _ _ _ h ht
  ·exact ⟨e, G, h, ht, Ext.refl⟩
 ·exact ⟨e, G, h, ht, Ext.refl⟩
theorem sound_load {ty : TypeId} {y : Operand} (hty : ∀ t, x.ty t = tyOf P t) (hb : Begin n e a w G get o) (ho : o.op = .load ty y) (h : act x get o = some ws) : Sound P n e a w G o ws := by
 simp only [act, ho] at h
 split at h
 ·rename_i c hc
  split at h
  ·rename_i hok
   split at h
   ·rename_i cs hload
    obtain ⟨L, h1, hno⟩ := hb.one (by simp [ho, Op.operands]) hc
    rw [hty] at hok hload h
    obtain ⟨e', G', k1, k2, k3⟩ := chill_ok (x := x) hb.inv hb.tr (tyOf P ty).size c
    obtain ⟨b, o', vs, Ls, hv, hl, hrow, hcells, hnos⟩ := load_ok k1 k2.sees (k3.cell _ _ _ hno h1) hload
    have hval : ValOk e' w G' (partShape (tyOf P ty), cs) (form (partShape (tyOf P ty)) vs) vs Ls := ⟨hcells, rfl, hnos, partShape_box _, partShape_dead _⟩
    obtain ⟨G2, hp⟩ := lay_quiet k1 k2 (k3.held hb.inv) hval (fun d hd => hb.inb.dst d (by rw [chill_d] at hd; exact hd))
    have hdd : (chill x { get, d := o.dst } (tyOf P ty).size c).d = o.dst := chill_d _ _ _
    rw [hdd] at hp
    simp only [Option.some.injEq] at h
    rw [h] at hp
    refine Sound.value ?_ hp
    simp only [execOp, ho, hv]
    exact run_v (run_loadAt hok hrow hl)
   ·simp at h
  ·simp at h
 ·simp at h
end ops
end Go.Mach
namespace Go.Mach
set_option linter.unusedVariables false
set_option linter.unusedSimpArgs false
section ops
variable {P : Program} {n : Nat} {e : Env} {a : Act} {w : World} {G : Gh} {get : Nat → Slot} {o : Oper} {x : Ctx} {ws : Writes}
def IsBound (v : Option Value) (m : Option Nat) : Prop := (v = none ∧ m = none) ∨ ∃ (ik : IntKind) (i : Nat), v = some (.int ik (i : Int)) ∧ m = some i
theorem run_bound {ik : IntKind} {i y : Nat} {c : BoundsCode} (h : i ≤ y) (w : World) : (Instr.sliceBound (.int ik (i : Int)) y c).run P w = .ok i w := by
 have h1 : (0 : Int) ≤ (i : Int) ∧ (i : Int) ≤ (y : Int) := by omega
 simp only [Instr.sliceBound, asIntOf, Sem.run_bind, Sem.run_pure, Result.andThen_ok, if_pos h1, Int.toNat_natCast]
theorem run_bounds {isS : Bool} {len cap : Nat} {vl vh : Option Value} {lo hi : Option Nat} (hl : IsBound vl lo) (hh : IsBound vh hi) (h1 : lo.getD 0 ≤ hi.getD len) (h2 : hi.getD len ≤ cap) (w : World) :
  (Instr.sliceBounds isS len cap vl vh none).run P w = .ok (lo.getD 0, hi.getD len, cap) w := by
 rcases hl with ⟨rfl, rfl⟩ | ⟨k1, i1, rfl, rfl⟩ <;> rcases hh with ⟨rfl, rfl⟩ | ⟨k2, i2, rfl, rfl⟩ <;> simp only [Option.getD_none, Option.getD_some] at h1 h2
 ·simp [Instr.sliceBounds, Sem.run_bind]
 ·simp [Instr.sliceBounds, Sem.run_bind, run_bound h2]
 ·simp [Instr.sliceBounds, Sem.run_bind, run_bound h1]
 ·simp [Instr.sliceBounds, Sem.run_bind, run_bound h2, run_bound h1]
theorem run_sliceAt_slice {t el : Nat} {i : TypeInfo} (hu : P.underlying t = some (.slice el)) (hi' : P.info? el = some i) {b : Option Addr} {len cap : Nat} {vl vh : Option Value} {lo hi : Option Nat} (hl : IsBound vl lo)
  (hh : IsBound vh hi) (h1 : lo.getD 0 ≤ hi.getD len) (h2 : hi.getD len ≤ cap) (w : World) :
  (Instr.sliceAt t (.slice b len cap) vl vh none).run P w = .ok (.slice (if cap = lo.getD 0 then b else b.map (·.add (lo.getD 0 * (tyOf P el).size))) (hi.getD len - lo.getD 0) (cap - lo.getD 0)) w := by
 simp only [Instr.sliceAt, Sem.run_bind, run_und hu, Result.andThen_ok, Instr.slice, run_bounds hl hh h1 h2, run_size hi', Sem.run_pure]
theorem run_sliceAt_string {t : Nat} (hu : P.underlying t = some .string) {s : List UInt8} {vl vh : Option Value} {lo hi : Option Nat} (hl : IsBound vl lo) (hh : IsBound vh hi) (h1 : lo.getD 0 ≤ hi.getD s.length)
  (h2 : hi.getD s.length ≤ s.length) (w : World) : (Instr.sliceAt t (.string ⟨⟨s⟩⟩) vl vh none).run P w = .ok (.string ⟨⟨cut lo hi s⟩⟩) w := by
 simp only [Instr.sliceAt, Sem.run_bind, run_und hu, Result.andThen_ok, Instr.slice, Option.isSome_none, Bool.false_eq_true, if_false]
 rw [run_bounds hl hh (by rw [bytes_size]; exact h1) (by rw [bytes_size]; exact h2)]
 simp only [Result.andThen_ok, Sem.run_pure, bytes_size]
 congr 2
 have : (⟨⟨s⟩⟩ : ByteArray).extract (lo.getD 0) (hi.getD s.length) = ⟨⟨(s.drop (lo.getD 0)).take (hi.getD s.length - lo.getD 0)⟩⟩ := by
  exact ByteArray.extract_mk s (lo.getD 0) (hi.getD s.length)
 rw [this]
 congr 2
 cases lo <;> cases hi <;> simp [cut, List.drop_take, List.take_of_length_le]
theorem off_one (a : Option Nat) (m : Option Nat) (old : Option Nat) (d : Nat) : (subOf a m old).getD d = match m with | none => old.getD d | some q => a.getD 0 + q := by
 cases m <;> simp [subOf, offOf_eq]
theorem slice_ok {t : Nat} (hinv : Inv n e a.tmps w G) (hs : Sees get e) {c c' : C} {v : Value} {L : LT} (hc : CellOk e w G c v L) (hsf : slFits (tyOf P) t c = true) {vl vh : Option Value} {lo hi : Option Nat}
  (hl : IsBound vl lo) (hh : IsBound vh hi)
  (h : sliceC get c lo hi = some c') : ∃ r L', (Instr.sliceAt t v vl vh none).run P w = .ok r w ∧ CellOk e w G c' r L' ∧ c'.isOwn = false := by
 have hfit : fitsTy (tyOf P t) c = true := by
  cases c with
  | dat k y =>
   cases k with
   | str => exact hsf
   | list k => simp only [slFits] at hsf; simp only [fitsTy]; split at hsf <;> simp_all
   | _ => simp [slFits] at hsf
  | nil => simp only [slFits] at hsf; simp only [fitsTy]; split at hsf <;> simp_all
  | ref _ _ _ _ _ _ _ _ => simp only [slFits] at hsf; simp only [fitsTy]; split at hsf <;> simp_all
  | _ => simp [slFits] at hsf
 have hk : ∀ el k l, P.underlying t = some (.slice el) → c = .dat (.list k) l → (tyOf P el).size = k.size := by
  rintro el k l hu rfl
  simp only [slFits] at hsf
  split at hsf
  ·rename_i el' hd
   have := ty_slice hd
   rw [hu] at this
   simp only [Option.some.injEq, TypeDesc.slice.injEq] at this
   subst this
   simpa using hsf
  ·simp at hsf
 have hk' : ∀ el s j rv sv p l h' k, P.underlying t = some (.slice el) → c = .ref s j rv sv p l h' k → (tyOf P el).size = k.size := by
  rintro el s j rv sv p l h' k hu rfl
  simp only [slFits] at hsf
  split at hsf
  ·rename_i el' hd
   have := ty_slice hd
   rw [hu] at this
   simp only [Option.some.injEq, TypeDesc.slice.injEq] at this
   subst this
   simpa using hsf
  ·simp at hsf
 have hel : ∀ el, P.underlying t = some (.slice el) → ∃ i, P.info? el = some i := by
  intro el hu
  refine ty_size_info (P := P) (t := el) ?_
  cases c with
  | nil =>
   simp only [slFits] at hsf
   split at hsf
   ·rename_i el' hd
    have := ty_slice hd
    rw [hu] at this
    simp only [Option.some.injEq, TypeDesc.slice.injEq] at this
    subst this
    simpa using hsf
   ·simp at hsf
  | dat k y =>
   cases k with
   | list k => rw [hk el k y hu rfl]; have := k.size_pos; omega
   | str => simp only [slFits] at hsf; have := ty_str hsf; rw [hu] at this; simp at this
   | _ => simp [slFits] at hsf
  | ref s j rv sv p l h' k => rw [hk' el s j rv sv p l h' k hu rfl]; have := k.size_pos; omega
  | _ => simp [slFits] at hsf
 cases c with
 | nil =>
  simp only [sliceC] at h
  split at h
  ·rename_i hz
   obtain ⟨z1, z2⟩ := hz
   simp only [Option.some.injEq] at h
   subst h
   obtain ⟨el, hel'⟩ := fits_slice hfit (by simp)
   obtain ⟨i, hi'⟩ := hel el hel'
   obtain rfl : v = .slice none 0 0 := hc
   refine ⟨_, .leaf, run_sliceAt_slice hel' hi' hl hh (by omega) (by omega) w, ?_, rfl⟩
   show _ = _
   rw [z1, z2]
   simp
  ·simp at h
 | dat k y =>
  cases k with
  | list k =>
   simp only [sliceC] at h
   split at h
   ·rename_i hz
    obtain ⟨z1, z2⟩ := hz
    simp only [Option.some.injEq] at h
    subst h
    obtain ⟨el, hel'⟩ := fits_slice hfit (by simp)
    obtain ⟨i, hi'⟩ := hel el hel'
    have hsz := hk el k y hel' rfl
    obtain ⟨h1, h2⟩ := hc
    simp only [Rep] at h1
    obtain ⟨u, hu, h1⟩ := h1
    simp only [List.cons.injEq, and_true] at hu
    subst hu
    rcases h1 with ⟨rfl, rfl, b, cap, rfl, _⟩ | ⟨b, off, cap, rows, rfl, rfl, g1, g2, g0, g3, g4⟩
    ·simp only [List.length_nil] at z1 z2
     refine ⟨_, .nil, run_sliceAt_slice hel' hi' hl hh z1 (by omega) w, ⟨?_, by simp [fp]⟩, rfl⟩
     simp only [Rep]
     refine ⟨_, rfl, .inl ⟨rfl, ?_, ?_⟩⟩
     ·refine List.eq_nil_of_length_eq_zero ?_
      rw [cut_length lo hi ([] : List k.T) (by simpa using z2)]
      simp only [List.length_nil]
      omega
     ·exact ⟨_, _, by rw [show hi.getD 0 - lo.getD 0 = 0 by omega], by simp⟩
    ·have hsl : SliceIs k.size y.length (hdOf (.node b off cap rows)) lo hi (.slice (if cap = lo.getD 0 then some ⟨b, off, none⟩ else (some (⟨b, off, none⟩ : Addr)).map (·.add (lo.getD 0 * (tyOf P el).size))) (hi.getD y.length - lo.getD 0) (cap - lo.getD 0)) := by
      refine ⟨z1, z2, ?_⟩
      simp only [hdOf]
      refine ⟨g1, ?_⟩
      by_cases hq : cap = lo.getD 0
      ·rw [if_pos hq]
       exact ⟨off, rfl, fun q => by omega⟩
      ·rw [if_neg hq]
       refine ⟨off + lo.getD 0 * k.size, ?_, fun _ => rfl⟩
       simp [addr_add, hsz]
     have hrep : RepL false w k.size (Rep false w k) y (.node b off cap rows) (.slice (some ⟨b, off, none⟩) y.length cap) := .inr ⟨b, off, cap, rows, rfl, rfl, g1, g2, g0, g3, g4⟩
     have hrc := hrep.cut hsl
     refine ⟨_, _, run_sliceAt_slice hel' hi' hl hh z1 (by omega) w, ⟨hrc.rep, fun b' hb' => h2 b' ?_⟩, rfl⟩
     exact (cutL_sublist k k.size lo hi y.length _).subset hb'
   ·simp at h
  | str =>
   simp only [sliceC] at h
   split at h
   ·rename_i hz
    obtain ⟨z1, z2⟩ := hz
    simp only [Option.some.injEq] at h
    subst h
    rw [dat_str hc]
    exact ⟨_, .leaf, run_sliceAt_string (fits_str hfit) hl hh z1 z2 w, str_ok _ _ _ _, rfl⟩
   ·simp at h
  | _ => simp [sliceC] at h
 | ref s j rv sv p a0 b0 k =>
  simp only [sliceC] at h
  cases hlen : lenC get (.ref s j rv sv p a0 b0 k) with
  | none => rw [hlen] at h; simp at h
  | some m =>
   rw [hlen] at h
   simp only at h
   split at h
   ·rename_i hz
    obtain ⟨z1, z2⟩ := hz
    simp only [Option.some.injEq] at h
    subst h
    obtain ⟨el, hel'⟩ := fits_slice hfit (by simp)
    obtain ⟨i, hi'⟩ := hel el hel'
    have hsz := hk' el s j rv sv p a0 b0 k hel' rfl
    simp only [lenC] at hlen
    cases hcon : content get s j rv sv p k with
    | none => rw [hcon] at hlen; simp at hlen
    | some q =>
     obtain ⟨d, l⟩ := q
     rw [hcon] at hlen
     simp only [Option.map_some, Option.some.injEq] at hlen
     obtain ⟨sv', k0, l0, q1, q2, q3⟩ := content_ok hs hcon
     obtain ⟨r1, r2, r3, r4⟩ := ref_reads hinv hc q1 q2 q3
     have hlc := cut_length a0 b0 l r1.2.1
     obtain ⟨s1, s2, s3⟩ := r1
     have key : ∀ b cap', v = .slice b m cap' → m ≤ cap' →
       (∀ hd, SliceIs k.size l.length hd a0 b0 v → SliceIs k.size l.length hd (subOf a0 lo a0) (subOf a0 hi b0) (.slice (if cap' = lo.getD 0 then b else b.map (·.add (lo.getD 0 * (tyOf P el).size))) (hi.getD m - lo.getD 0) (cap' - lo.getD 0))) := by
      intro b cap' hv hmc hd hsl
      obtain ⟨e1, e2, e3⟩ := hsl
      have y1 : (subOf a0 lo a0).getD 0 = a0.getD 0 + lo.getD 0 := by rw [off_one]; cases lo <;> simp
      have y2 : (subOf a0 hi b0).getD l.length = a0.getD 0 + hi.getD m := by
       rw [off_one]
       cases hi with
       | none => simp only [Option.getD_none]; omega
       | some q => simp
      have hm' : m = b0.getD l.length - a0.getD 0 := by rw [← hlen, hlc]
      refine ⟨by rw [y1, y2]; omega, by rw [y2]; omega, ?_⟩
      cases hd with
      | none =>
       obtain ⟨b1, e4, e5⟩ := e3
       rw [hv] at e4
       simp only [Value.slice.injEq] at e4
       obtain ⟨rfl, e6, e7⟩ := e4
       subst e7
       exact ⟨_, by rw [show hi.getD m - lo.getD 0 = 0 by omega, show 0 - lo.getD 0 = 0 by omega], e5⟩
      | some bb =>
       obtain ⟨bb, off, cap⟩ := bb
       obtain ⟨e4, o', e5, e6⟩ := e3
       rw [hv] at e5
       simp only [Value.slice.injEq] at e5
       obtain ⟨rfl, e7, e8⟩ := e5
       refine ⟨e4, ?_⟩
       rw [y1, y2]
       by_cases hq : cap' = lo.getD 0
       ·rw [if_pos hq]
        refine ⟨o', ?_, fun q => by omega⟩
        congr 1 <;> omega
       ·rw [if_neg hq]
        refine ⟨o' + lo.getD 0 * k.size, ?_, fun q => ?_⟩
        ·simp only [Option.map_some, addr_add, hsz]
         congr 1 <;> omega
        ·rw [e6 (by omega), Nat.add_mul, Nat.add_assoc]
     have hval : ∃ b cap', v = .slice b m cap' ∧ m ≤ cap' := by
      cases hhd : hdOf (subL k0 (G.lt s j) p) with
      | none =>
       rw [hhd] at s3
       obtain ⟨b1, e4, e5⟩ := s3
       exact ⟨b1, 0, by rw [e4]; congr 1; omega, by omega⟩
      | some bb =>
       obtain ⟨bb, off, cap⟩ := bb
       rw [hhd] at s3
       obtain ⟨e4, o', e5, e6⟩ := s3
       exact ⟨_, _, by rw [e5]; congr 1; omega, by omega⟩
     obtain ⟨b, cap', hv, hmc⟩ := hval
     refine ⟨_, .leaf, by rw [hv]; exact run_sliceAt_slice hel' hi' hl hh z1 (by omega) w, ⟨hc.1, hc.2.1, fun sv1 d1 k1 l1 t1 t2 => ?_⟩, rfl⟩
     obtain ⟨nn, hd, t3, t4⟩ := hc.2.2 sv1 d1 k1 l1 t1 t2
     have t1 := some_of_getD t1 (by simp)
     rw [q1] at t1
     simp only [Option.some.injEq, C.own.injEq] at t1
     obtain ⟨_, rfl, rfl, rfl, t1⟩ := t1
     have t1 := eq_of_heq t1
     subst t1
     obtain ⟨u1, u2, u3, u4⟩ := t3
     rw [q3] at u3
     simp only at u3
     subst u3
     exact ⟨l.length, hd, ⟨u1, by rw [q3], by rw [q3], u4⟩, key b cap' hv hmc hd t4⟩
   ·simp at h
 | _ => simp [sliceC] at h
theorem sound_slice {ty : TypeId} {y : Operand} {vl vh : Option Operand} (hty : ∀ t, x.ty t = tyOf P t) (hb : Begin n e a w G get o) (ho : o.op = .slice ty y vl vh none) (h : act x get o = some ws) : Sound P n e a w G o ws := by
 have hty' : x.ty = tyOf P := funext hty
 have key : ∀ (c c' : C) (lo hi : Option Nat), opd get y = some (.one, [c]) → slFits x.ty ty c = true → IsBound (vl.map a.eval) lo → IsBound (vh.map a.eval) hi → sliceC get c lo hi = some c' →
   some (Tr.lay { get, d := o.dst } o.dst (.one, [c'])).ws = some ws → Sound P n e a w G o ws := by
  intro c c' lo hi hc hf hl hh hs hw
  obtain ⟨L, h1, hno⟩ := hb.one (by simp [ho, Op.operands]) hc
  rw [hty'] at hf
  obtain ⟨r, L', h2, h3, h4⟩ := slice_ok (P := P) (t := ty) hb.inv hb.sees h1 hf hl hh hs
  obtain ⟨G', hp⟩ := hb.cell h3 h4 hw
  refine Sound.value ?_ hp
  simp only [execOp, ho]
  exact run_v h2
 have nb : ∀ (z : Operand) (c : C) (m : Nat), z ∈ o.op.operands → opd get z = some (.one, [c]) → natOf c = some m → IsBound (some (a.eval z)) (some m) := by
  intro z c m hz hc hm
  obtain ⟨L, h1, _⟩ := hb.one hz hc
  obtain ⟨ik, hq⟩ := nat_of hm h1
  exact .inr ⟨ik, m, by rw [hq], rfl⟩
 have bb : ∀ (z : Option Operand) (m : Option Nat), (∀ z', z = some z' → z' ∈ o.op.operands) → boundOf get z = some m → IsBound (z.map a.eval) m := by
  intro z m hz hm
  cases z with
  | none => simp only [boundOf, Option.some.injEq] at hm; subst hm; exact .inl ⟨rfl, rfl⟩
  | some z =>
   simp only [boundOf] at hm
   split at hm
   ·rename_i c hc
    cases hn : natOf c with
    | none => rw [hn] at hm; simp at hm
    | some q =>
     rw [hn] at hm
     simp only [Option.map_some, Option.some.injEq] at hm
     subst hm
     exact nb z c q (hz z rfl) hc hn
   ·simp at hm
 simp only [act, ho] at h
 split at h
 ·rename_i c l h' hc hl hh
  split at h
  ·simp at h
  ·rename_i hfit
   split at h
   ·rename_i c' hs
    exact key c c' l h' hc (by simpa using hfit) (bb vl l (by rintro z rfl; simp [ho, Op.operands]) hl) (bb vh h' (by rintro z rfl; simp [ho, Op.operands]) hh) hs h
   ·simp at h
 ·simp at h
end ops
end Go.Mach
namespace Go.Mach
set_option linter.unusedVariables false
set_option linter.unusedSimpArgs false
def FormOf (sh : Sh) (u : Value) (vs : List Value) (bk : Nat) : Prop := match sh with
 | .dead => True
 | .box _ => u = .pointer (some ⟨bk, 0, none⟩)
 | sh => u = form sh vs
theorem lay_new {n : Nat} {e0 e : Env} {a : Act} {w w' : World} {G0 G : Gh} {t : Tr} (h : Inv n e a.tmps w G) (ht : TrOk e0 t e) (hst : Held n e0.length w w G0 G) {sh : Sh} {cs : List C} {vs : List Value} {Ls : Nat → LT} {bk : Nat} {H : List Nat} {u : Value}
  (hsize : w.heap.size ≤ w'.heap.size) (hsame : ∀ b, b ∉ H → w.heap[b]? ≠ none → w'.heap[b]? = w.heap[b]?)
  (hH : ∀ b ∈ H, Loose e G b ∧ (G.ow b ≠ none ∨ w.heap[b]? = none) ∧ b < w'.heap.size)
  (hHo : ∀ b ∈ H, ∀ t, G.ow b = some t → t < e.length)
  (hlen : vs.length = cs.length) (hcell : ∀ (j : Nat) c v, cs[j]? = some c → vs[j]? = some v → NewOk e w G w' H c v (Ls j))
  (hnd : (boxB sh bk ++ fpCells Ls 0 cs).Nodup) (hsub : ∀ b ∈ boxB sh bk ++ fpCells Ls 0 cs, b ∈ H)
  (hdead : sh = .dead → cs = [])
  (hbox : ∀ bv, sh = .box bv → ∃ ty, w'.heap[bk]? = some (.cells vs.toArray ty (0, 0)))
  (hform : FormOf sh u vs bk) {d : Nat} (hd : t.d = some d) (hdn : d < n) (henv : SameEnv w w' := by first | exact ⟨rfl, rfl, rfl⟩ | assumption) :
  ∃ G', Post n (e0.puts (t.lay (some d) (sh, cs)).ws) a w G0 (a.put (some d) u) w' G' := by
 have hat := ht.dst d hd
 have hlen' : d < e.length := Nat.lt_of_lt_of_le hdn h.elen
 simp only [Tr.lay]
 rw [(ht.put ((t.at d).lay sh cs) hlen').puts, hat]
 have := h.lay (w' := w') d sh cs vs Ls bk H hsize hsame hH hlen hcell hnd hsub hdead hbox (a.put (some d) u).tmps (by rw [put_size]; exact h.size)
  (fun t' ht' hn => by rw [put_tmps]; simp [Ne.symm ht'])
  (fun hn => by
   have hu : (a.put (some d) u).tmps[d]? = some u := by rw [put_tmps]; simp [h.size, hdn]
   revert hform
   cases sh <;> simp only [FormOf, FormIs] <;> intro q <;> first | trivial | (rw [hu, q]))
 refine ⟨_, this, ⟨fun b q1 q2 => ?st, fun s hs => ⟨fun q => ⟨(upd_ne _ _ (by omega)).trans ((hst.vs s hs).1 q).1, fun j => by rw [show (G.lay d vs Ls bk H).lt s = G.lt s from upd_ne _ _ (by omega)]; exact ((hst.vs s hs).1 q).2 j⟩, (show (G.lay d vs Ls bk H).bk s = G.bk s from upd_ne _ _ (by omega)).trans (hst.vs s hs).2⟩, fun b t q1 q2 q3 => ?out⟩, hsize, put_defers _ _ _, henv⟩
 case st =>
  have how := (hst.still b q1 q2).2
  have hnH : b ∉ H := fun hb => by
   rcases (hH b hb).2.1 with g | g
   ·exact g how
   ·exact q2 g
  exact ⟨hsame b hnH q2, by simp [Gh.lay, hnH, how]⟩
 case out =>
  have hl : (e.set d ((e.get d).lay sh cs)).length = e0.length := by rw [List.length_set, ht.length]
  have q2 : e0.length ≤ t := by rw [← hl]; exact q2
  have how := (hst.out b t q1 q2 q3).2
  have hnH : b ∉ H := fun hb => by
   have := hHo b hb t how
   rw [ht.length] at this
   omega
  exact ⟨hsame b hnH q3, by simp [Gh.lay, hnH, how]⟩
theorem own_dst {t : Tr} {d : Option Nat} {v : Val} {ws : Writes} (h : t.own d v = some ws) : ∃ d', d = some d' ∧ (t.lay (some d') v).ws = ws := by
 cases d with
 | none => simp [Tr.own] at h
 | some d => simp only [Tr.own, Option.some.injEq] at h; exact ⟨d, rfl, h⟩
theorem take_d (vars : List Nat) : ∀ (cs : List C) (t : Tr), (t.take vars cs).1.d = t.d
 | [], t => rfl
 | c :: r, t => by
  simp only [Tr.take]
  split
  ·split
   ·split
    ·rw [take_d vars r]; rfl
    ·rw [take_d vars r]
   ·rw [take_d vars r]
  ·rw [take_d vars r]
theorem grab_d {t t' : Tr} {c : C} {k : K} {x : k.T} {d : Bool} (h : t.grab c k = some (t', x, d)) : t'.d = t.d := by
 cases c with
 | dat k' y => simp only [Tr.grab] at h; split at h <;> simp_all
 | nil => simp only [Tr.grab] at h; split at h <;> simp_all
 | ref s j rv sv p lo hi k1 =>
  simp only [Tr.grab] at h
  split at h
  ·split at h
   ·split at h
    ·simp at h
    ·split at h <;> (simp only [Option.some.injEq, Prod.mk.injEq] at h; obtain ⟨rfl, _⟩ := h; rfl)
   ·simp at h
  ·simp at h
 | _ => simp [Tr.grab] at h
theorem pack_d : ∀ (k : K) {t t' : Tr} {cs : List C} {x : k.T} {d : Bool}, t.pack k cs = some (t', x, d) → t'.d = t.d
 | .pair a b, t, t', cs, x, d, h => by
  simp only [Tr.pack] at h
  split at h
  ·simp at h
  ·rename_i h1
   split at h
   ·simp at h
   ·rename_i h2
    simp only [Option.some.injEq, Prod.mk.injEq] at h
    obtain ⟨rfl, _⟩ := h
    rw [pack_d b h2, pack_d a h1]
 | .int i, t, t', cs, x, d, h => by simp only [Tr.pack] at h; split at h <;> first | exact grab_d h | simp at h
 | .bool, t, t', cs, x, d, h => by simp only [Tr.pack] at h; split at h <;> first | exact grab_d h | simp at h
 | .str, t, t', cs, x, d, h => by simp only [Tr.pack] at h; split at h <;> first | exact grab_d h | simp at h
 | .list k, t, t', cs, x, d, h => by simp only [Tr.pack] at h; split at h <;> first | exact grab_d h | simp at h
theorem packs_d {k : K} : ∀ (css : List (List C)) {t t' : Tr} {l : List k.T} {d : Bool}, t.packs k css = some (t', l, d) → t'.d = t.d
 | [], t, t', l, d, h => by simp only [Tr.packs, Option.some.injEq, Prod.mk.injEq] at h; rw [h.1]
 | cs :: r, t, t', l, d, h => by
  simp only [Tr.packs] at h
  split at h
  ·simp at h
  ·rename_i h1
   split at h
   ·simp at h
   ·rename_i h2
    simp only [Option.some.injEq, Prod.mk.injEq] at h
    obtain ⟨rfl, _⟩ := h
    rw [packs_d r h2, pack_d k h1]
theorem Rep.oneCell {d : Bool} {w : World} {k : K} {x : k.T} {L : LT} {v : Value} (h : Rep d w k x L [v]) : v.oneCell' = true := by
 induction k generalizing d L v with
 | int _ => simp only [Rep] at h; simp only [List.cons.injEq, and_true] at h; subst h; rfl
 | bool => simp only [Rep] at h; simp only [List.cons.injEq, and_true] at h; subst h; rfl
 | str => simp only [Rep] at h; simp only [List.cons.injEq, and_true] at h; subst h; rfl
 | list k _ =>
  simp only [Rep] at h
  obtain ⟨u, hu, h⟩ := h
  simp only [List.cons.injEq, and_true] at hu
  subst hu
  rcases h with ⟨_, _, a, cap, rfl, _⟩ | ⟨b, off, cap, rows, _, rfl, _⟩ <;> rfl
 | pair a b _ _ =>
  have := h.size
  simp only [K.size, List.length_singleton] at this
  have h1 := a.size_pos
  have h2 := b.size_pos
  omega
theorem sliceIs_one {sz m : Nat} {hd : Option (Nat × Nat × Nat)} {lo hi : Option Nat} {v : Value} (h : SliceIs sz m hd lo hi v) : v.oneCell' = true := by
 obtain ⟨_, _, h⟩ := h
 cases hd with
 | none => obtain ⟨a, rfl, _⟩ := h; rfl
 | some b => obtain ⟨b, off, cap⟩ := b; obtain ⟨_, o, rfl, _⟩ := h; rfl
theorem solid_one {n : Nat} {e : Env} {tm : Array Value} {w : World} {G : Gh} {get : Nat → Slot} (hs : Sees get e) {c : C} {v : Value} {L : LT} (hc : CellOk e w G c v L)
  (h : c.solid get = true) : v.oneCell' = true := by
 cases c with
 | dead => simp [C.solid] at h
 | nil => obtain rfl : v = .slice none 0 0 := hc; rfl
 | dat k x => exact Rep.oneCell hc.1
 | own rv sv d k l =>
  obtain ⟨h1, _⟩ := hc
  rcases h1 with ⟨_, _, a, cap, rfl, _⟩ | ⟨b, off, cap, rows, _, rfl, _⟩ <;> rfl
 | ref s j rv sv p lo hi k =>
  simp only [C.solid] at h
  obtain ⟨q, hq⟩ := Option.isSome_iff_exists.1 h
  obtain ⟨d, l⟩ := q
  obtain ⟨sv', k0, l0, q1, q2, q3⟩ := content_ok hs hq
  obtain ⟨m, hd, _, h4⟩ := CellOk.refFits hc q1 q2
  exact sliceIs_one h4
 | bptr s bv j => obtain ⟨_, _, b, o, rfl⟩ := hc; rfl
 | aptr s j rv sv p i c k => obtain ⟨⟨b, o, rfl⟩, _⟩ := hc; rfl
 | pim cs j => obtain ⟨b, o, vs, Ls, rfl, _⟩ := hc; rfl
 | fn f caps => obtain ⟨us, Ls, rfl, _⟩ := hc; rfl
theorem cells_one {v : Value} (h : v.oneCell' = true) : v.cells = #[v] := by cases v <;> first | rfl | (simp [Value.oneCell'] at h)
theorem form_cells {n : Nat} {e : Env} {tm : Array Value} {w : World} {G : Gh} {get : Nat → Slot} (hs : Sees get e) {v : Val} {u : Value} {vs : List Value} {Ls : Nat → LT} (hv : ValOk e w G v u vs Ls)
  (hw : whole get v = true) : u.cells = vs.toArray ∧ ∀ x ∈ vs, x.oneCell' = true := by
 simp only [whole, Bool.and_eq_true, Bool.or_eq_true, decide_eq_true_eq] at hw
 obtain ⟨⟨hsh, hsolid⟩, h1⟩ := hw
 have hone : ∀ x ∈ vs, x.oneCell' = true := by
  intro x hx
  obtain ⟨j, hj⟩ := List.getElem?_of_mem hx
  have hlt : j < v.2.length := by rw [← hv.cells.len]; exact (List.getElem?_eq_some_iff.1 hj).1
  have hc := hv.cells.cell j _ x (List.getElem?_eq_getElem hlt) hj
  exact solid_one (n := n) (tm := tm) hs hc (List.all_eq_true.1 hsolid _ (List.getElem_mem hlt))
 refine ⟨?_, hone⟩
 rw [hv.form]
 cases hq : v.1 with
 | one =>
  rcases h1 with h1 | h1
  ·rw [hq] at h1; cases h1
  ·have : vs.length = 1 := by rw [hv.cells.len, h1]
   match vs, this with
   | [x], _ => exact cells_one (hone x (by simp))
 | agg => rfl
 | _ => rw [hq] at hsh; simp [Sh.isV] at hsh
section ops
variable {P : Program} {n : Nat} {e : Env} {a : Act} {w : World} {G : Gh} {get : Nat → Slot} {o : Oper} {x : Ctx} {ws : Writes}
theorem Begin.solid (hb : Begin n e a w G get o) {c : C} {v : Value} {L : LT} (hc : CellOk e w G c v L) (h : c.solid get = true) : v.oneCell' = true := solid_one (n := n) (tm := a.tmps) hb.sees hc h
theorem sound_max {c0 : Call} (hb : Begin n e a w G get o) (ho : o.op = .call c0) (hcb : c0.callee = .builtin .max) {k : IntKind} {p q : Int}
  (hc : opds get c0.args.toList = some [(.one, [.dat (.int k) p]), (.one, [.dat (.int k) q])])
  (h : some (Tr.lay { get, d := o.dst } o.dst (.one, [.dat (.int k) (if q > p then q else p)])).ws = some ws) : Sound P n e a w G o ws := by
 obtain ⟨y, z, hargs, hy, hz⟩ := opds_two hc
 obtain ⟨L, h1, _⟩ := hb.one (by simp [ho, Op.operands, Call.operands, hcb, hargs]) hy
 obtain ⟨M, h2, _⟩ := hb.one (by simp [ho, Op.operands, Call.operands, hcb, hargs]) hz
 obtain ⟨G', hp⟩ := hb.cell (int_ok e w G k _) rfl h
 refine Sound.value ?_ hp
 simp only [execOp, ho, resolve, hcb, hargs, Sem.run_bind, Sem.run_pure, Result.andThen_ok, invoke, builtin, Builtin.max_]
 simp [dat_int h1, dat_int h2, Builtin.max2]
theorem sound_min {c0 : Call} (hb : Begin n e a w G get o) (ho : o.op = .call c0) (hcb : c0.callee = .builtin .min) {k : IntKind} {p q : Int}
  (hc : opds get c0.args.toList = some [(.one, [.dat (.int k) p]), (.one, [.dat (.int k) q])])
  (h : some (Tr.lay { get, d := o.dst } o.dst (.one, [.dat (.int k) (if q < p then q else p)])).ws = some ws) : Sound P n e a w G o ws := by
 obtain ⟨y, z, hargs, hy, hz⟩ := opds_two hc
 obtain ⟨L, h1, _⟩ := hb.one (by simp [ho, Op.operands, Call.operands, hcb, hargs]) hy
 obtain ⟨M, h2, _⟩ := hb.one (by simp [ho, Op.operands, Call.operands, hcb, hargs]) hz
 obtain ⟨G', hp⟩ := hb.cell (int_ok e w G k _) rfl h
 refine Sound.value ?_ hp
 simp only [execOp, ho, resolve, hcb, hargs, Sem.run_bind, Sem.run_pure, Result.andThen_ok, invoke, builtin, Builtin.min_]
 simp [dat_int h1, dat_int h2, Builtin.min2]
theorem cutVals_get : ∀ (ps : List (Option Nat)) (vs : List Value) (i : Nat) (q : Option Nat), ps[i]? = some q →
  (cutVals ps vs)[i]? = some (form (partSh q) ((vs.drop (tupOff ps i)).take (partN q)))
 | [], vs, i, q, h => by simp at h
 | none :: r, vs, 0, q, h => by
  simp only [List.getElem?_cons_zero, Option.some.injEq] at h
  subst h
  simp only [cutVals, List.getElem?_cons_zero, tupOff, List.drop_zero, partSh, partN, form]
  cases vs <;> simp
 | some m :: r, vs, 0, q, h => by
  simp only [List.getElem?_cons_zero, Option.some.injEq] at h
  subst h
  simp [cutVals, tupOff, partSh, partN, form]
 | none :: r, vs, i + 1, q, h => by
  simp only [List.getElem?_cons_succ] at h
  simp only [cutVals, List.getElem?_cons_succ, tupOff]
  rw [cutVals_get r _ i q h, List.drop_drop]
  rfl
 | some m :: r, vs, i + 1, q, h => by
  simp only [List.getElem?_cons_succ] at h
  simp only [cutVals, List.getElem?_cons_succ, tupOff]
  rw [cutVals_get r _ i q h, List.drop_drop]
  rfl
theorem sound_extract {y : Operand} {i : Nat} (hb : Begin n e a w G get o) (ho : o.op = .extract y i) (h : act x get o = some ws) : Sound P n e a w G o ws := by
 simp only [act, ho] at h
 split at h
 ·rename_i ps cs hc
  split at h
  ·rename_i q hq
   obtain ⟨vs, Ls, hval⟩ := hb.opd (by simp [ho, Op.operands]) hc
   have hv : ValOk e w G (partSh q, (cs.drop (tupOff ps i)).take (partN q)) (form (partSh q) ((vs.drop (tupOff ps i)).take (partN q))) ((vs.drop (tupOff ps i)).take (partN q)) (fun j => Ls (tupOff ps i + j)) :=
    ⟨(hval.cells.drop (tupOff ps i)).take (partN q), rfl, fun c hc => hval.noOwn c (List.mem_of_mem_drop (List.mem_of_mem_take hc)), fun bv => by cases q <;> simp [partSh], by cases q <;> simp [partSh]⟩
   obtain ⟨G', hp⟩ := hb.done hv h
   refine Sound.value ?_ hp
   simp only [execOp, ho]
   refine run_v ?_
   have hf : a.eval y = .tuple (cutVals ps vs).toArray := hval.form
   simp only [Instr.extract, hf, List.getElem?_toArray, cutVals_get ps vs i q hq]
   rfl
  ·simp at h
 ·simp at h
theorem opds_get : ∀ (ys : List Operand) {vs : List Val}, opds get ys = some vs → vs.length = ys.length ∧ ∀ (i : Nat) y v, ys[i]? = some y → vs[i]? = some v → opd get y = some v
 | [], vs, h => by rw [opds_nil h]; simp
 | y :: r, vs, h => by
  obtain ⟨v, vs', rfl, h1, h2⟩ := opds_cons h
  obtain ⟨g1, g2⟩ := opds_get r h2
  refine ⟨by simp [g1], fun i y' v' hy hv => ?_⟩
  cases i with
  | zero => simp at hy hv; subst hy; subst hv; exact h1
  | succ i => simp at hy hv; exact g2 i y' v' hy hv
theorem ones_get : ∀ (vs : List Val) {cs : List C}, ones vs = some cs → vs = cs.map fun c => (Sh.one, [c])
 | [], cs, h => by simp only [ones, Option.some.injEq] at h; subst h; rfl
 | v :: r, cs, h => by
  simp only [ones] at h
  split at h
  ·rename_i c cs' h1 h2
   simp only [Option.some.injEq] at h
   subst h
   rw [ones_get r h2]
   simp only [one?] at h1
   split at h1
   ·simp only [Option.some.injEq] at h1; subst h1; rfl
   ·simp at h1
  ·simp at h
theorem CellOk.zero {c : C} {v : Value} {L : LT} (h : CellOk e w G c v L) (hf : c.isFn = false) : CellOk0 e w G c v L := by
 cases c with
 | fn f cs => simp [C.isFn] at hf
 | _ => exact h
theorem sound_makeFunc {f : Fn} {first caps : Array Operand} (hb : Begin n e a w G get o) (ho : o.op = .makeFunc f first caps) (h : act x get o = some ws) : Sound P n e a w G o ws := by
 simp only [act, ho] at h
 split at h
 ·rename_i g vs hfirst hvs
  split at h
  ·rename_i cs hcs
   split at h
   ·rename_i hall
    obtain ⟨hl, hg⟩ := opds_get _ hvs
    have hv1 := ones_get vs hcs
    have hfirst' : first = #[] := by rw [← Array.toArray_toList (xs := first), hfirst]
    have cell : ∀ (i : Nat) y c, caps.toList[i]? = some y → cs[i]? = some c → ∃ L, CellOk e w G c (a.eval y) L ∧ c.isOwn = false := by
     intro i y c hy hc
     have := hg i y (.one, [c]) hy (by rw [hv1]; simp [hc])
     refine hb.one (by simp only [ho, Op.operands]; simp only [Array.mem_append]; exact .inr (Array.mem_toList_iff.1 (List.mem_of_getElem? hy))) this
    have hcl : cs.length = caps.toList.length := by rw [← hl, hv1]; simp
    have : ∀ i : Nat, ∃ L : LT, ∀ (y : Operand) (c : C), caps.toList[i]? = some y → cs[i]? = some c → CellOk e w G c (a.eval y) L ∧ c.isOwn = false := by
     intro i
     cases hy : caps.toList[i]? with
     | none => exact ⟨.leaf, by simp⟩
     | some y =>
      cases hc : cs[i]? with
      | none => exact ⟨.leaf, by simp⟩
      | some c =>
       obtain ⟨L, h1⟩ := cell i y c hy hc
       exact ⟨L, by simpa using h1⟩
    obtain ⟨Ls, hLs⟩ := Classical.axiomOfChoice this
    have hc : CellOk e w G (.fn g cs) (.func (.func g) #[] (caps.map a.eval)) .leaf := by
     refine ⟨caps.toList.map a.eval, Ls, by rw [← Array.toList_map, Array.toArray_toList], by rw [List.length_map, hcl], fun i c u hc hu => ?_⟩
     rw [List.getElem?_map] at hu
     cases hy : caps.toList[i]? with
     | none => rw [hy] at hu; simp at hu
     | some y =>
      rw [hy] at hu
      simp only [Option.map_some, Option.some.injEq] at hu
      subst hu
      obtain ⟨h1, h2⟩ := hLs i y c hy hc
      have h3 : c.isFn = false := by simpa using List.all_eq_true.1 hall c (List.mem_of_getElem? hc)
      exact ⟨h3, h2, h1.zero h3⟩
    obtain ⟨G', hp⟩ := hb.cell hc rfl h
    refine Sound.value ?_ hp
    simp only [execOp, ho]
    refine run_v ?_
    simp [Instr.makeFunc, hfirst']
   ·simp at h
  ·simp at h
 ·simp at h
end ops
end Go.Mach
namespace Go.Mach
set_option linter.unusedVariables false
set_option linter.unusedSimpArgs false
theorem tyK_int {P : Program} {t : Nat} {k : IntKind} : ∀ (m : Nat), tyK P m t = some (.int k) → (∀ fs, P.underlying t ≠ some (.struct fs)) → P.underlying t = some (.int k)
 | 0, h, _ => by simp [tyK] at h
 | m + 1, h, hn => by
  simp only [tyK] at h
  split at h
  ·rename_i k' hu
   simp only [Option.some.injEq, K.int.injEq] at h
   rw [hu, h]
  ·simp at h
  ·simp at h
  ·rename_i e _
   cases hq : tyK P m e <;> simp [hq] at h
  ·rename_i fs hu
   exact absurd hu (hn fs)
  ·simp at h
theorem intTi_ok {P : Program} {t : Nat} {k : IntKind} (h : intTi (tyOf P t) = some k) : P.underlying t = some (.int k) := by
 simp only [intTi] at h
 split at h
 ·simp at h
 ·rename_i hagg
  split at h
  ·rename_i k' hk
   simp only [Option.some.injEq] at h
   subst h
   cases hi : P.info? t with
   | none => simp [tyOf, hi] at hk
   | some i =>
    have hkk := hk
    simp only [tyOf, hi] at hk
    split at hk
    ·rename_i q hq
     split at hk
     ·simp only [Option.some.injEq] at hk
      subst hk
      refine tyK_int 12 hq fun fs hu => ?_
      apply hagg
      simp [Ti.agg, tyOf, hi, tyD, hu]
     ·simp at hk
    ·simp at hk
  ·simp at h
theorem u8Row_ok {P : Program} {t : Nat} (h : u8Row (tyOf P) t = true) : ∃ e, P.underlying t = some (.slice e) ∧ P.underlying e = some (.int .u8) := by
 simp only [u8Row] at h
 split at h
 ·rename_i e hd
  exact ⟨e, ty_slice hd, intTi_ok (by simpa using h)⟩
 ·simp at h
def zLT : K → LT
 | .list _ => .nil
 | .pair a b => .pair (zLT a) (zLT b)
 | _ => .leaf
theorem fp_zLT : ∀ k : K, fp k (zLT k) = []
 | .int _ => rfl
 | .bool => rfl
 | .str => rfl
 | .list _ => rfl
 | .pair a b => by simp [fp, zLT, fp_zLT a, fp_zLT b]
theorem litC_int {v : Value} {k : IntKind} {m : Int} (h : litC v = .dat (.int k) m) : v = .int k m := by
 unfold litC at h
 split at h <;> simp_all
theorem litC_bool {v : Value} {b : Bool} (h : litC v = .dat .bool b) : v = .bool b := by
 unfold litC at h
 split at h <;> simp_all
theorem litC_str {v : Value} {s : List UInt8} (h : litC v = .dat .str s) : v = .string ⟨⟨s⟩⟩ := by
 unfold litC at h
 split at h <;> simp_all
 rw [← h]
theorem litC_nil {v : Value} (h : litC v = .nil) : v = .slice none 0 0 := by
 unfold litC at h
 split at h <;> simp_all
theorem one_of_map {zs : List Value} {c : C} (h : zs.map litC = [c]) : ∃ v, zs = [v] ∧ litC v = c := by
 match zs, h with
 | [v], h => exact ⟨v, rfl, by simpa using h⟩
theorem isZero_ok {d : Bool} {w : World} : ∀ (k : K) (zs : List Value), isZero k (zs.map litC) = true → Rep d w k k.dflt (zLT k) zs
 | .int i, zs, h => by
  simp only [isZero] at h
  split at h
  ·rename_i heq
   obtain ⟨v, rfl, hv⟩ := one_of_map heq
   simp only [decide_eq_true_eq] at h
   obtain ⟨rfl, rfl⟩ := h
   simp [Rep, K.dflt, litC_int hv]
  ·simp at h
 | .bool, zs, h => by
  simp only [isZero] at h
  split at h
  ·rename_i b heq
   obtain ⟨v, rfl, hv⟩ := one_of_map heq
   cases b <;> simp at h
   simp [Rep, K.dflt, litC_bool hv]
  ·simp at h
 | .str, zs, h => by
  simp only [isZero] at h
  split at h
  ·rename_i s heq
   obtain ⟨v, rfl, hv⟩ := one_of_map heq
   cases s <;> simp at h
   simp [Rep, K.dflt, litC_str hv]
  ·simp at h
 | .list k, zs, h => by
  simp only [isZero] at h
  split at h
  ·rename_i heq
   obtain ⟨v, rfl, hv⟩ := one_of_map heq
   simp only [Rep, K.dflt, zLT]
   exact ⟨v, rfl, .inl ⟨rfl, rfl, none, 0, litC_nil hv, fun _ => rfl⟩⟩
  ·simp at h
 | .pair a b, zs, h => by
  simp only [isZero, Bool.and_eq_true, ← List.map_take, ← List.map_drop] at h
  simp only [Rep, K.dflt, zLT]
  exact ⟨_, _, _, _, rfl, (List.take_append_drop a.size zs).symm, isZero_ok a _ h.1, isZero_ok b _ h.2⟩
theorem isZero_nil : ∀ k : K, isZero k [] = false
 | .int _ => rfl
 | .bool => rfl
 | .str => rfl
 | .list _ => rfl
 | .pair a b => by simp [isZero, isZero_nil a]
section ops
variable {P : Program} {n : Nat} {e : Env} {a : Act} {w : World} {G : Gh} {get : Nat → Slot} {o : Oper} {x : Ctx} {ws : Writes}
theorem Sound.new {u : Value} {w' : World} (h : (execOp a.eval o).run P w = .ok (.value u) w') {d : Nat} (hd : o.dst = some d) {t : Tr} {v : Val} (hp : ∃ G', Post n (e.puts (t.lay (some d) v).ws) a w G (a.put (some d) u) w' G')
  (hws : (t.lay (some d) v).ws = ws) : Sound P n e a w G o ws := by
 obtain ⟨G', hp⟩ := hp
 rw [hws] at hp
 exact Sound.value h (by rw [hd]; exact hp)
theorem alloc_same (w : World) (ob : Obj) (b : Nat) (h : w.heap[b]? ≠ none) : (w.alloc ob).heap[b]? = w.heap[b]? := by
 have : b < w.heap.size := by
  rcases Nat.lt_or_ge b w.heap.size with q | q
  ·exact q
  ·exact absurd (Array.getElem?_eq_none q) h
 exact heap_alloc_old w ob b this
theorem Inv.fresh {tm : Array Value} (h : Inv n e tm w G) {t : Nat} (ht : G.ow w.heap.size = some t) : False := by
 have := h.lt _ t ht
 omega
theorem Inv.fresh_cons {tm : Array Value} (h : Inv n e tm w G) {H : List Nat} (hH : ∀ b ∈ H, ∀ t, G.ow b = some t → t < e.length) : ∀ b ∈ w.heap.size :: H, ∀ t, G.ow b = some t → t < e.length := by
 intro b hb t ht
 simp only [List.mem_cons] at hb
 rcases hb with rfl | hb
 ·exact (h.fresh ht).elim
 ·exact hH b hb t ht
theorem disown_owner {H F : List Nat} (h : ∀ b ∈ H, ∀ t, G.ow b = some t → t < e.length) : ∀ b ∈ H, ∀ t, (G.disown F).ow b = some t → t < e.length := by
 intro b hb t ht
 simp only [Gh.disown] at ht
 split at ht
 ·simp at ht
 ·exact h b hb t ht
theorem Held.disown {m : Nat} {w' : World} {G0 : Gh} {F : List Nat} (h : Held n m w w' G0 G) (hF : ∀ b ∈ F, ∀ t, G.ow b = some t → t < m) : Held n m w w' G0 (G.disown F) where
 still := fun b h1 h2 => ⟨(h.still b h1 h2).1, by simp only [Gh.disown]; split <;> first | rfl | exact (h.still b h1 h2).2⟩
 vs := h.vs
 out := fun b t h1 h2 h3 => by
  obtain ⟨r1, r2⟩ := h.out b t h1 h2 h3
  refine ⟨r1, ?_⟩
  simp only [Gh.disown]
  rw [if_neg (fun q => by have := hF b q t r2; omega)]
  exact r2
theorem new_row {e0 : Env} {G0 : Gh} {t : Tr} {w' : World} (h : Inv n e a.tmps w G) (ht : TrOk e0 t e) (hst : Held n e0.length w w G0 G) {k : K} {l : List k.T} {rows : List LT} {cap : Nat} {d : Bool} {H : List Nat}
  (hsz : w'.heap.size = w.heap.size + 1) (hsame : ∀ b : Nat, w.heap[b]? ≠ none → w'.heap[b]? = w.heap[b]?)
  (hrep : RepL true w' k.size (Rep d w' k) l (.node w.heap.size 0 cap rows) (.slice (some ⟨w.heap.size, 0, none⟩) l.length cap))
  (hH : ∀ b ∈ H, Loose e G b ∧ G.ow b ≠ none) (hHo : ∀ b ∈ H, ∀ t, G.ow b = some t → t < e.length) (hnd : H.Nodup)
  (hfp : d = true → H = rows.flatMap (fp k)) (hnone : ∀ b ∈ rows.flatMap (fp k), b ∈ H ∨ G.ow b = none) (hold : ∀ b ∈ rows.flatMap (fp k), b < w.heap.size) {dd : Nat} (hd : t.d = some dd) (hdn : dd < n) (henv : SameEnv w w' := by exact ⟨rfl, rfl, rfl⟩) :
  ∃ G', Post n (e0.puts (t.lay (some dd) (.one, [.own 0 0 d k l])).ws) a w G0 (a.put (some dd) (.slice (some ⟨w.heap.size, 0, none⟩) l.length cap)) w' G' := by
 have hnew : w.heap[w.heap.size]? = none := by simp
 have hloose : ∀ G1 : Gh, Inv n e a.tmps w G1 → Loose e G1 w.heap.size := by
  intro G1 h1 s hs
  have := h1.lt _ s ((h1.slot s).own _ hs)
  omega
 have hltH : ∀ b ∈ H, b < w.heap.size := by
  intro b hb
  cases hq : G.ow b with
  | none => exact absurd hq (hH b hb).2
  | some s => exact h.lt b s hq
 cases d with
 | true =>
  have hfp := hfp rfl
  refine lay_new (sh := .one) (u := .slice (some ⟨w.heap.size, 0, none⟩) l.length cap) (H := w.heap.size :: H) (bk := 0) (vs := [.slice (some ⟨w.heap.size, 0, none⟩) l.length cap]) (Ls := fun _ => .node w.heap.size 0 cap rows) h ht hst (by omega) (fun b _ hb => hsame b hb) ?_ (h.fresh_cons hHo) rfl ?_ ?_ ?_ (by simp) (by simp) rfl hd hdn
  ·intro b hb
   simp only [List.mem_cons] at hb
   rcases hb with rfl | hb
   ·exact ⟨hloose G h, .inr hnew, by omega⟩
   ·exact ⟨(hH b hb).1, .inl (hH b hb).2, by have := hltH b hb; omega⟩
  ·intro j c v hc hv
   match j, hc, hv with
   | 0, hc, hv =>
    simp only [List.getElem?_cons_zero, Option.some.injEq] at hc hv
    subst hc; subst hv
    exact ⟨hrep, by simp⟩
  ·simp only [boxB, fpCells, ownB, fp, List.nil_append, List.append_nil, ← hfp, List.nodup_cons]
   exact ⟨fun hb => by have := hltH _ hb; omega, hnd⟩
  ·simp only [boxB, fpCells, ownB, fp, List.nil_append, List.append_nil, ← hfp]
   exact fun b hb => hb
 | false =>
  have h' := h.disown (F := H) fun b hb => (hH b hb).1
  refine lay_new (sh := .one) (u := .slice (some ⟨w.heap.size, 0, none⟩) l.length cap) (G := G.disown H) (H := [w.heap.size]) (bk := 0) (vs := [.slice (some ⟨w.heap.size, 0, none⟩) l.length cap]) (Ls := fun _ => .node w.heap.size 0 cap rows) h' ht (hst.disown (by rw [← ht.length]; exact hHo)) (by omega) (fun b _ hb => hsame b hb) ?_ (h'.fresh_cons (by simp)) rfl ?_ ?_ ?_ (by simp) (by simp) rfl hd hdn
  ·intro b hb
   simp only [List.mem_singleton] at hb
   subst hb
   exact ⟨hloose _ h', .inr hnew, by omega⟩
  ·intro j c v hc hv
   match j, hc, hv with
   | 0, hc, hv =>
    simp only [List.getElem?_cons_zero, Option.some.injEq] at hc hv
    subst hc; subst hv
    refine ⟨hrep, fun _ b hb => ⟨?_, ?_⟩⟩
    ·simp only [inner] at hb
     simp only [Gh.disown]
     rcases hnone b hb with g | g
     ·rw [if_pos g]
     ·split <;> first | rfl | exact g
    ·simp only [inner] at hb
     simp only [List.mem_singleton]
     rintro rfl
     have := hold _ hb
     omega
  ·simp [boxB, fpCells, ownB, hdOf]
  ·simp [boxB, fpCells, ownB, hdOf]
theorem fpCells_noOwn (Ls : Nat → LT) : ∀ (cs : List C) (i : Nat), (∀ c ∈ cs, c.isOwn = false) → fpCells Ls i cs = []
 | [], i, _ => rfl
 | c :: cs, i, h => by simp only [fpCells]; rw [noOwn_ownB (h c (by simp)), fpCells_noOwn Ls cs (i + 1) fun c hc => h c (by simp [hc])]; rfl
theorem sound_assign {y : Operand} (hb : Begin n e a w G get o) (ho : o.op = .assign y) (h : act x get o = some ws) : Sound P n e a w G o ws := by
 simp only [act, ho] at h
 cases hv : opd get y with
 | none => rw [hv] at h; simp at h
 | some v =>
  rw [hv] at h
  simp only at h
  obtain ⟨vs, Ls, hval⟩ := hb.opd (by simp [ho, Op.operands]) hv
  obtain ⟨e', H, Ls', ht⟩ := take_ok (x.vs o.dst) v.2 hb.inv hb.tr hval.cells hval.noOwn
  obtain ⟨d, hd, hws⟩ := own_dst h
  refine Sound.new (u := a.eval y) (w' := w) (by simp only [execOp, ho]; rfl) hd ?_ hws
  have hbox : boxB v.1 0 = [] := by have := hval.sh; cases hs : v.1 <;> simp_all [boxB]
  refine lay_new (e := e') (vs := vs) (Ls := Ls') (bk := 0) (H := H) ht.inv ht.tr (ht.ext.held hb.inv) (Nat.le_refl _) (fun b _ _ => rfl) ?_ (ht.hand.owner hb.inv ht.ext) ht.len ht.new ?_ ?_ (fun q => absurd q hval.alive) (fun bv q => absurd q (hval.sh bv)) ?_ (by rw [take_d]; exact hd) (hb.inb.dst d hd)
  ·intro b hb'
   obtain ⟨h1, h2, h3, _⟩ := ht.hand.mem b hb'
   exact ⟨h1, .inl h2, h3⟩
  ·rw [hbox, ht.fp]
   exact ht.hand.nodup
  ·rw [hbox, ht.fp]
   exact fun b hb => hb
  ·have h1 := hval.form
   have h2 := hval.alive
   have h3 := hval.sh
   revert h1 h2 h3
   cases v.1 <;> simp [FormOf]
theorem run_alloc {el : Nat} {i : TypeInfo} {z : Value} (hi : P.info? el = some i) (hz : i.zero = some z) (w : World) :
  (Instr.alloc el true (.tuple #[])).run P w = .ok (.pointer (some ⟨w.heap.size, 0, none⟩)) (w.alloc (.cells z.cells el)) := by
 simp [Instr.alloc, zeroValue, typeInfo, hi, hz, newVar, newRow]
theorem zeros_eq {el : Nat} {i : TypeInfo} {z : Value} (hi : P.info? el = some i) (hz : i.zero = some z) : (tyOf P el).zeros = z.cells.toList.map litC := by
 simp only [Ti.zeros, (ty_size hi).2.2.2, hz]
 cases z <;> rfl
theorem zero_info {el : Nat} (h : (tyOf P el).zero.isSome = true) : ∃ i z, P.info? el = some i ∧ i.zero = some z := by
 cases hi : P.info? el with
 | none => simp [tyOf, hi] at h
 | some i =>
  rw [(ty_size hi).2.2.2] at h
  obtain ⟨z, hz⟩ := Option.isSome_iff_exists.1 h
  exact ⟨i, z, rfl, hz⟩
theorem sound_alloc {el : TypeId} (hty : ∀ t, x.ty t = tyOf P t) (hb : Begin n e a w G get o) (ho : o.op = .alloc el) (h : act x get o = some ws) : Sound P n e a w G o ws := by
 simp only [act, ho] at h
 split at h
 ·rename_i hz
  rw [hty] at hz
  obtain ⟨i, z, hi, hz⟩ := zero_info hz
  obtain ⟨d, hd, hws⟩ := own_dst h
  rw [hty, zeros_eq hi hz] at hws
  refine Sound.new (by simp only [execOp, ho]; exact run_v (run_alloc hi hz w)) hd ?_ hws
  have hno : ∀ c ∈ z.cells.toList.map litC, c.isOwn = false := (lits_ok e w G z.cells.toList).2
  have hnew : w.heap[w.heap.size]? = none := by simp
  refine lay_new (sh := .box 0) (u := .pointer (some ⟨w.heap.size, 0, none⟩)) (vs := z.cells.toList) (Ls := fun _ => .leaf) (bk := w.heap.size) (H := [w.heap.size]) hb.inv hb.tr Held.refl (by simp) (fun b _ hb' => alloc_same w _ b hb') ?_ (hb.inv.fresh_cons (by simp)) (by simp) ?_ ?_ ?_ (by simp) ?_ rfl hd (hb.inb.dst d hd)
  ·intro b hb'
   simp only [List.mem_singleton] at hb'
   subst hb'
   refine ⟨fun s hs => ?_, .inr hnew, by simp⟩
   have := hb.inv.lt _ s ((hb.inv.slot s).own _ hs)
   omega
  ·intro j c v hc hv
   exact NewOk.ofCell ((lits_ok e w G z.cells.toList).1.cell j c v hc hv) (hno c (List.mem_of_getElem? hc))
  ·rw [fpCells_noOwn _ _ _ hno]; simp [boxB]
  ·rw [fpCells_noOwn _ _ _ hno]; simp [boxB]
  ·intro bv _
   exact ⟨el, heap_alloc_new w _⟩
 ·simp at h
theorem sound_box {el : TypeId} {y : Operand} (hty : ∀ t, x.ty t = tyOf P t) (hb : Begin n e a w G get o) (ho : o.op = .box el y) (h : act x get o = some ws) : Sound P n e a w G o ws := by
 simp only [act, ho] at h
 cases hv : opd get y with
 | none => rw [hv] at h; simp at h
 | some v =>
  rw [hv] at h
  simp only at h
  split at h
  ·rename_i hw
   obtain ⟨_, hw⟩ := hw
   obtain ⟨vs, Ls, hval⟩ := hb.opd (by simp [ho, Op.operands]) hv
   obtain ⟨hcells, hone⟩ := form_cells (n := n) (tm := a.tmps) hb.sees hval hw
   obtain ⟨e', H, Ls', ht⟩ := take_ok x.vars v.2 hb.inv hb.tr hval.cells hval.noOwn
   obtain ⟨d, hd, hws⟩ := own_dst h
   refine Sound.new (u := .pointer (some ⟨w.heap.size, 0, none⟩)) (w' := w.alloc (.cells vs.toArray el)) ?_ hd ?_ hws
   ·simp only [execOp, ho]
    refine run_v ?_
    simp [Instr.box, newVar, newRow, hcells]
   have hnew : w.heap[w.heap.size]? = none := by simp
   have hnH : w.heap.size ∉ H := fun hb' => by have := (ht.hand.mem _ hb').2.2.1; omega
   refine lay_new (sh := .box 0) (u := .pointer (some ⟨w.heap.size, 0, none⟩)) (e := e') (vs := vs) (Ls := Ls') (bk := w.heap.size) (H := w.heap.size :: H) ht.inv ht.tr (ht.ext.held hb.inv) (by simp) (fun b _ hb' => alloc_same w _ b hb') ?_ (ht.inv.fresh_cons (ht.hand.owner hb.inv ht.ext)) ht.len ?_ ?_ ?_ (by simp) (fun bv _ => ⟨el, heap_alloc_new w _⟩) rfl (by rw [take_d]; exact hd) (hb.inb.dst d hd)
   ·intro b hb'
    simp only [List.mem_cons] at hb'
    rcases hb' with rfl | hb'
    ·refine ⟨fun s hs => ?_, .inr hnew, by simp⟩
     have := ht.inv.lt _ s ((ht.inv.slot s).own _ hs)
     omega
    ·obtain ⟨h1, h2, h3, _⟩ := ht.hand.mem b hb'
     exact ⟨h1, .inl h2, by simp; omega⟩
   ·intro j c v hc hv
    have h1 := ht.new j c v hc hv
    cases c with
    | own rv sv dd k l =>
     obtain ⟨g1, g2⟩ := h1
     refine ⟨g1.same fun b hb' => alloc_same w _ b (g1.there b hb'), fun hdd b hb' => ?_⟩
     obtain ⟨q1, q2⟩ := g2 hdd b hb'
     refine ⟨q1, fun q => ?_⟩
     simp only [List.mem_cons] at q
     rcases q with rfl | q
     ·have hbb : w.heap.size ∈ fp (.list k) (Ls' j) := by rw [fp_list]; exact List.mem_append_right _ hb'
      exact g1.there _ hbb hnew
     ·exact q2 q
    | _ => exact h1
   ·simp only [boxB, List.cons_append, List.nil_append, ht.fp, List.nodup_cons]
    exact ⟨hnH, ht.hand.nodup⟩
   ·simp only [boxB, List.cons_append, List.nil_append, ht.fp]
    exact fun b hb => hb
  ·simp at h
theorem madeCells_row {z : Array Value} {m sz i j : Nat} {v : Value} (hz : z.size = sz) (hi : i < m) (hj : z.toList[j]? = some v) : (madeCells z (m * sz))[i * sz + j]? = some v := by
 have hjs : j < sz := by have := (List.getElem?_eq_some_iff.1 hj).1; simpa [hz] using this
 have hlt : i * sz + j < m * sz := by
  have : (i + 1) * sz ≤ m * sz := Nat.mul_le_mul_right _ hi
  rw [Nat.add_mul] at this
  omega
 have hmod : (i * sz + j) % z.size = j := by rw [hz, Nat.mul_comm, Nat.mul_add_mod, Nat.mod_eq_of_lt hjs]
 have hjz : j < z.size := by omega
 simp only [madeCells, Array.getElem?_map, Array.getElem?_range, hlt, if_true, Option.map_some, hmod]
 simp only [Array.getElem?_toList] at hj
 simp [getElem!_def, hj]
theorem zero_rows {k : K} {z : Array Value} {w' : World} {b m cap : Nat} {el : TypeId} {ex : List Value} {d : Bool} (hzk : isZero k (z.toList.map litC) = true) (hb : w'.heap[b]? = some (.cells (madeCells z (cap * k.size)) el (0, 0))) (hm : m ≤ cap) :
  RepL true w' k.size (Rep d w' k) (List.replicate m k.dflt) (.node b 0 cap (List.replicate m (zLT k))) (.slice (some ⟨b, 0, none⟩) m cap) := by
 have hrep : Rep d w' k k.dflt (zLT k) z.toList := isZero_ok k _ hzk
 have hsz : z.size = k.size := by simpa using hrep.size
 refine .inr ⟨b, 0, cap, List.replicate m (zLT k), rfl, by simp, by simpa using hm, by simp, by rw [hb]; simp, fun _ => ⟨_, _, _, hb, by simp [size_madeCells], .inr (by simp)⟩, fun i y r hy hr => ?_⟩
 have hi : i < m := by have := (List.getElem?_eq_some_iff.1 hy).1; simpa using this
 rw [List.getElem?_replicate, if_pos hi] at hy hr
 simp only [Option.some.injEq] at hy hr
 subst hy; subst hr
 refine ⟨z.toList, fun j v hj => ?_, hrep⟩
 have := madeCells_row (m := cap) (sz := k.size) (i := i) hsz (by omega) hj
 simp only [World.cell?, hb, Option.isSome_none, Bool.false_eq_true, if_false, Nat.zero_add]
 exact this
theorem zero_flat {k : K} {m : Nat} : (List.replicate m (zLT k)).flatMap (fp k) = [] := by
 rw [List.flatMap_eq_nil_iff]
 intro L hL
 rw [List.mem_replicate] at hL
 rw [hL.2, fp_zLT]
theorem sound_makeSlice {ty : TypeId} {y z : Operand} (hty : ∀ t, x.ty t = tyOf P t) (hb : Begin n e a w G get o) (ho : o.op = .makeSlice ty y z) (h : act x get o = some ws) : Sound P n e a w G o ws := by
 simp only [act, ho] at h
 split at h
 ·rename_i el c1 c2 hd hy hz
  split at h
  ·rename_i k p q hk hp hq
   split at h
   ·rename_i hc
    obtain ⟨g1, g2, g3, g4⟩ := hc
    rw [hty] at hd hk g3 g4
    obtain ⟨L, h1, _⟩ := hb.one (by simp [ho, Op.operands]) hy
    obtain ⟨M, h2, _⟩ := hb.one (by simp [ho, Op.operands]) hz
    obtain ⟨ik, h1⟩ := nat_of hp h1
    obtain ⟨jk, h2⟩ := nat_of hq h2
    obtain ⟨i, hi, hik⟩ := ty_k hk
    have hu := ty_slice hd
    have hzs : ∃ zv, i.zero = some zv := by
     cases hzz : i.zero with
     | some zv => exact ⟨zv, rfl⟩
     | none =>
      simp only [Ti.zeros, (ty_size hi).2.2.2, hzz] at g4
      rw [isZero_nil] at g4
      simp at g4
    obtain ⟨zv, hzv⟩ := hzs
    obtain ⟨d, hd', hws⟩ := own_dst h
    rw [zeros_eq hi hzv] at g4
    rw [(ty_size hi).2.2.1] at g3
    have hr := run_make (P := P) w ty el i zv hu hi hzv ik jk (p : Int) (q : Int) (by omega) (by omega) (by
     have : q * i.bytes ≤ 140737488355328 := g3
     have h3 : (i.bytes : Int) * (q : Int) = ((q * i.bytes : Nat) : Int) := by rw [Nat.mul_comm]; simp
     rw [h3]; omega) (by simp only [rowMost] at g2; omega)
    simp only [Int.toNat_natCast, hik] at hr
    refine Sound.new (u := .slice (some ⟨w.heap.size, 0, none⟩) (List.replicate p k.dflt).length q) (w' := w.alloc (.cells (madeCells zv.cells (q * k.size)) el)) ?_ hd' ?_ hws
    ·simp only [execOp, ho, h1, h2]
     refine run_v ?_
     simpa using hr
    refine new_row (H := []) (rows := List.replicate p (zLT k)) hb.inv hb.tr Held.refl (by simp) (fun b hb' => alloc_same w _ b hb') ?_ (by simp) (by simp) (by simp) (fun _ => zero_flat.symm) (by rw [zero_flat]; simp) (by rw [zero_flat]; simp) hd' (hb.inb.dst d hd')
    have := zero_rows (d := true) (k := k) (z := zv.cells) (w' := w.alloc (.cells (madeCells zv.cells (q * k.size)) el)) (b := w.heap.size) (m := p) (cap := q) (el := el) (ex := []) g4 (heap_alloc_new w _) g1
    simpa using this
   ·simp at h
  ·simp at h
 ·simp at h
end ops
end Go.Mach
namespace Go.Mach
set_option linter.unusedVariables false
set_option linter.unusedSimpArgs false
theorem add_none (b o j : Nat) : (⟨b, o, none⟩ : Addr).add j = ⟨b, o + j, none⟩ := by unfold Addr.add; split <;> simp_all
theorem row_cells {P : Program} {dr d : Bool} {w : World} {k : K} {l : List k.T} {L : LT} {v : Value} (h : RepL dr w k.size (Rep d w k) l L v) :
  ∃ (b : Option Addr) (cap : Nat) (cells : List Value), v = .slice b l.length cap ∧ cells.length = l.length * k.size ∧ (∀ w2 : World, w2.heap = w.heap → (Builtin.firstCells k.size l.length v).run P w2 = .ok cells.toArray w2) ∧
   (∀ u ∈ cells, u.oneCell' = true) ∧ (b = none → l = []) ∧
   (∀ b' off cap' rows, L = .node b' off cap' rows → rows.length = l.length ∧ ∀ (i : Nat) x r, l[i]? = some x → rows[i]? = some r → ∃ vs, (∀ (c : Nat) u, vs[c]? = some u → cells[i * k.size + c]? = some u) ∧ Rep d w k x r vs) ∧
   (∀ b' off cap' rows, L = .node b' off cap' rows → ∀ (j : Nat) u, cells[j]? = some u → w.cell? ⟨b', off + j, none⟩ = some u) := by
 rcases h with ⟨rfl, rfl, b, cap, rfl, _⟩ | ⟨b, off, cap, rows, rfl, rfl, g1, g2, g0, g3, g4⟩
 ·refine ⟨b, cap, [], rfl, by simp, fun w2 _ => ?_, by simp, fun _ => rfl, by simp, by simp⟩
  cases b with
  | none => simp [Builtin.firstCells]
  | some b =>
   have := run_loadCells_list (P := P) w2 b [] (by simp)
   simpa [Builtin.firstCells] using this
 ·have key : ∀ j, j < l.length * k.size → ∃ u, w.cell? ⟨b, off + j, none⟩ = some u ∧ u.oneCell' = true ∧ True := by
   intro j hj
   have hi : j / k.size < l.length := (Nat.div_lt_iff_lt_mul k.size_pos).2 hj
   have hx : l[j / k.size]? = some (l[j / k.size]) := List.getElem?_eq_getElem hi
   have hr : rows[j / k.size]? = some (rows[j / k.size]'(by omega)) := List.getElem?_eq_getElem (by omega)
   obtain ⟨vs, h1, h2⟩ := g4 _ _ _ hx hr
   have hm : j % k.size < vs.length := by rw [h2.size]; exact Nat.mod_lt _ k.size_pos
   have := h1 (j % k.size) _ (List.getElem?_eq_getElem hm)
   refine ⟨vs[j % k.size], ?_, ?_, trivial⟩
   ·rw [← this]
    congr 2
    rw [Nat.add_assoc, Nat.mul_comm, Nat.div_add_mod]
   ·obtain ⟨u, hu, hru, _⟩ := h2.leaf (c := j % k.size) (Nat.mod_lt _ k.size_pos)
    rw [List.getElem?_eq_getElem hm] at hu
    simp only [Option.some.injEq] at hu
    rw [hu]
    exact Rep.oneCell hru
  refine ⟨some ⟨b, off, none⟩, cap, (List.range (l.length * k.size)).map fun j => (w.cell? ⟨b, off + j, none⟩).getD .nilIface, rfl, by simp, fun w2 hw2 => ?_, ?_, by simp, ?_, ?_⟩
  ·have hc : ∀ x : Addr, w2.cell? x = w.cell? x := fun x => by simp only [World.cell?, hw2]
   refine run_firstCells_some (P := P) w2 k.size l.length ⟨b, off, none⟩ l.length cap _ (by simp) ?_
   intro j u hu
   rw [List.getElem?_map] at hu
   by_cases hj : j < l.length * k.size
   ·rw [List.getElem?_range hj] at hu
    obtain ⟨u', h1, _⟩ := key j hj
    rw [hc, add_none, h1]
    simp only [Option.map_some, h1, Option.getD_some, Option.some.injEq] at hu
    rw [hu]
   ·rw [List.getElem?_eq_none (by simpa using hj)] at hu
    simp at hu
  ·intro u hu
   obtain ⟨j, hj, rfl⟩ := List.mem_map.1 hu
   obtain ⟨u', h1, h2, _⟩ := key j (List.mem_range.1 hj)
   rw [h1]
   exact h2
  ·intro b' off' cap' rows' hL
   simp only [LT.node.injEq] at hL
   obtain ⟨rfl, rfl, rfl, rfl⟩ := hL
   refine ⟨g2, fun i x r hx hr => ?_⟩
   obtain ⟨vs, h1, h2⟩ := g4 i x r hx hr
   refine ⟨vs, fun c u hu => ?_, h2⟩
   have hi : i < l.length := (List.getElem?_eq_some_iff.1 hx).1
   have hc : c < k.size := by rw [← h2.size]; exact (List.getElem?_eq_some_iff.1 hu).1
   have hlt : i * k.size + c < l.length * k.size := by
    have : (i + 1) * k.size ≤ l.length * k.size := Nat.mul_le_mul_right _ hi
    rw [Nat.add_mul] at this
    omega
   rw [List.getElem?_map, List.getElem?_range hlt, Option.map_some, ← Nat.add_assoc, h1 c u hu]
   rfl
  ·intro b' off' cap' rows' hL j u hu
   simp only [LT.node.injEq] at hL
   obtain ⟨rfl, rfl, rfl, rfl⟩ := hL
   rw [List.getElem?_map] at hu
   by_cases hj : j < l.length * k.size
   ·rw [List.getElem?_range hj] at hu
    obtain ⟨u', h1, _⟩ := key j hj
    simp only [Option.map_some, h1, Option.getD_some, Option.some.injEq] at hu
    rw [h1, hu]
   ·rw [List.getElem?_eq_none (by simpa using hj)] at hu
    simp at hu
theorem int_cells {P : Program} {dr d : Bool} {w : World} {ik : IntKind} {l : List Int} {L : LT} {v : Value} (h : RepL dr w 1 (Rep d w (.int ik)) l L v) :
  ∃ b cap, v = .slice b l.length cap ∧ (∀ w2 : World, w2.heap = w.heap → (Builtin.firstCells 1 l.length v).run P w2 = .ok (l.map (Value.int ik)).toArray w2) ∧ (b = none → l = []) := by
 obtain ⟨b, cap, cells, h1, h2, h3, h4, h5, h6, _⟩ := row_cells (P := P) (k := .int ik) h
 refine ⟨b, cap, h1, fun w2 hw => ?_, h5⟩
 have := h3 w2 hw
 simp only [K.size] at this
 rw [this]
 congr 2
 rcases h with ⟨rfl, rfl, _⟩ | ⟨b', off, cap', rows, rfl, _, _, _⟩
 ·exact List.eq_nil_of_length_eq_zero (by simpa using h2)
 ·obtain ⟨g1, g2⟩ := h6 _ _ _ _ rfl
  apply List.ext_getElem?
  intro i
  simp only [K.size, Nat.mul_one] at h2
  by_cases hi : i < l.length
  ·obtain ⟨vs, g3, g4⟩ := g2 i (l[i]) (rows[i]'(by omega)) (List.getElem?_eq_getElem hi) (List.getElem?_eq_getElem (by omega))
   simp only [Rep] at g4
   have := g3 0 (.int ik l[i]) (by rw [g4]; rfl)
   simp only [K.size, Nat.mul_one, Nat.add_zero] at this
   rw [this, List.getElem?_map, List.getElem?_eq_getElem hi]
   rfl
  ·rw [List.getElem?_eq_none (by omega), List.getElem?_eq_none (by simpa using hi)]
theorem flat_none {k : K} (h : k.flat = true) (rows : List LT) : rows.flatMap (fp k) = [] := by
 rw [List.flatMap_eq_nil_iff]
 intro L _
 exact fp_flat h
section ops
variable {P : Program} {n : Nat} {e : Env} {a : Act} {w : World} {G : Gh} {get : Nat → Slot} {o : Oper} {x : Ctx} {ws : Writes}
theorem bytes_ok (hinv : Inv n e a.tmps w G) (hs : Sees get e) {c : C} {v : Value} {L : LT} (hc : CellOk e w G c v L) {l : List Int} (h : bytesC get c = some l) :
  ∃ dr d M, RepL dr w 1 (Rep d w (.int .u8)) l M v := by
 cases c with
 | nil =>
  simp only [bytesC, Option.some.injEq] at h
  subst h
  obtain rfl : v = .slice none 0 0 := hc
  exact ⟨true, true, .nil, .inl ⟨rfl, rfl, none, 0, rfl, fun _ => rfl⟩⟩
 | dat k y =>
  simp only [bytesC] at h
  split at h
  ·simp_all
  ·rename_i l' heq
   simp only [C.dat.injEq] at heq
   obtain ⟨rfl, h2⟩ := heq
   have h2 := eq_of_heq h2
   subst h2
   simp only [Option.some.injEq] at h
   subst h
   have := hc.1
   simp only [Rep] at this
   obtain ⟨u, hu, hr⟩ := this
   simp only [List.cons.injEq, and_true] at hu
   subst hu
   exact ⟨false, false, L, hr⟩
  ·simp_all
  ·simp at h
 | ref s j rv sv p lo hi k =>
  simp only [bytesC] at h
  split at h
  ·simp_all
  ·simp_all
  ·rename_i heq
   cases heq
   cases hq : content get s j rv sv p (.int .u8) with
   | none => rw [hq] at h; simp at h
   | some q =>
    obtain ⟨d, l'⟩ := q
    rw [hq] at h
    simp only [Option.map_some, Option.some.injEq] at h
    subst h
    obtain ⟨sv', k0, l0, q1, q2, q3⟩ := content_ok hs hq
    obtain ⟨_, _, r3, _⟩ := ref_reads hinv hc q1 q2 q3
    exact ⟨true, d, _, r3⟩
  ·simp at h
 | _ => simp [bytesC] at h
theorem run_bytes_str {src dst el : TypeId} (hs : P.underlying src = some (.slice el)) (he : P.underlying el = some (.int .u8)) (hd : P.underlying dst = some .string) {dr d : Bool} {l : List Int} {L : LT} {v : Value}
  (h : RepL dr w 1 (Rep d w (.int .u8)) l L v) : (convert src dst v).run P w = .ok (.string ⟨⟨l.map fun n => UInt8.ofNat n.toNat⟩⟩) w := by
 obtain ⟨b, cap, rfl, h2, h3⟩ := int_cells (P := P) h
 rw [run_convert_bytes_string w src dst el b _ cap hs he hd]
 cases b with
 | none =>
  rw [h3 rfl]
  rfl
 | some b =>
  have := h2 w rfl
  simp only [Builtin.firstCells, Nat.mul_one] at this
  rw [run_bytesToString w b l.length cap l this, foldl_push_bytes]
  simp
theorem run_conv_int {src dst : TypeId} {d : TypeDesc} (hs : P.underlying src = some d) {k : IntKind} (hd : P.underlying dst = some (.int k)) (ik : IntKind) (m : Int) (w : World) :
  (convert src dst (.int ik m)).run P w = .ok (.int k (k.wrap m)) w := by
 simp only [convert, Sem.run_bind, run_und hs, run_und hd, Result.andThen_ok, Conv.intToInt]
 cases d <;> rfl
theorem run_conv_str {src dst : TypeId} {d : TypeDesc} (hs : P.underlying src = some d) (hd : P.underlying dst = some .string) (s : ByteArray) (w : World) :
  (convert src dst (.string s)).run P w = .ok (.string s) w := by
 simp only [convert, Sem.run_bind, run_und hs, run_und hd, Result.andThen_ok]
 cases d <;> rfl
theorem sound_convert {src dst : TypeId} {y : Operand} (hty : ∀ t, x.ty t = tyOf P t) (hb : Begin n e a w G get o) (ho : o.op = .convert src dst y) (h : act x get o = some ws) : Sound P n e a w G o ws := by
 have hty' : x.ty = tyOf P := funext hty
 simp only [act, ho] at h
 split at h
 ·rename_i c hc
  split at h
  ·simp at h
  ·rename_i hok
   rw [hty, Bool.not_eq_false] at hok
   obtain ⟨i, d, hi, hu, _⟩ := ty_ok hok
   obtain ⟨L, h1, hno⟩ := hb.one (by simp [ho, Op.operands]) hc
   rw [hty] at h
   rw [hty'] at h
   split at h
   ·rename_i ik m k _ hk
    obtain ⟨G', hp⟩ := hb.cell (int_ok e w G k _) rfl h
    refine Sound.value ?_ hp
    simp only [execOp, ho, dat_int h1]
    exact run_v (run_conv_int hu (intTi_ok hk) ik m w)
   ·rename_i s hS
    obtain ⟨G', hp⟩ := hb.cell (str_ok e w G s) rfl h
    refine Sound.value ?_ hp
    simp only [execOp, ho, dat_str h1]
    exact run_v (run_conv_str hu (ty_str hS) _ w)
   ·rename_i s _ hu8
    split at h
    ·rename_i hq
     obtain ⟨_, hq⟩ := hq
     obtain ⟨el, hel, he⟩ := u8Row_ok hu8
     obtain ⟨dd, hd, hws⟩ := own_dst h
     have hr := run_bytes_of_string (P := P) w src dst el ⟨⟨s⟩⟩ (ty_str hq) hel he
     have hge := grownCap_ge w s.length 0 el
     simp only [bytes_size] at hr
     refine Sound.new (by simp only [execOp, ho, dat_str h1]; exact run_v hr) hd ?_ hws
     have hnew := heap_alloc_new w.drew (.cells (bytesRow ⟨⟨s⟩⟩ (grownCap w s.length 0 el)) el ((bytesRow ⟨⟨s⟩⟩ (grownCap w s.length 0 el)).size, (bytesRow ⟨⟨s⟩⟩ (grownCap w s.length 0 el)).size + 1))
     have hdr : w.drew.heap = w.heap := rfl
     rw [hdr] at hnew
     have hsz : (bytesRow ⟨⟨s⟩⟩ (grownCap w s.length 0 el)).size = grownCap w s.length 0 el := by
      simp only [bytesRow, Array.size_append, Array.size_map, Array.size_replicate, bytes_size]
      show s.length + _ = _
      omega
     have := new_row (a := a) (H := []) (k := .int .u8) (l := s.map fun b => ((b.toNat : Nat) : Int)) (d := true) (cap := grownCap w s.length 0 el) (rows := List.replicate s.length .leaf) (t := { get, d := o.dst })
      (w' := w.drew.alloc (.cells (bytesRow ⟨⟨s⟩⟩ (grownCap w s.length 0 el)) el ((bytesRow ⟨⟨s⟩⟩ (grownCap w s.length 0 el)).size, (bytesRow ⟨⟨s⟩⟩ (grownCap w s.length 0 el)).size + 1)))
      hb.inv hb.tr Held.refl (by simp) (fun b hb' => alloc_same w.drew _ b hb') ?_ (by simp) (by simp) (by simp) (fun _ => (flat_none rfl _).symm) (by rw [flat_none rfl]; simp) (by rw [flat_none rfl]; simp) hd (hb.inb.dst dd hd)
     ·simpa using this
     ·refine .inr ⟨_, 0, _, _, rfl, rfl, by simpa using hge, by simp, by rw [hnew]; simp, fun _ => ⟨_, _, _, hnew, by simp [hsz, K.size], .inl (by simp)⟩, fun j y r hy hr => ?_⟩
      rw [List.getElem?_map] at hy
      cases hj : s[j]? with
      | none => rw [hj] at hy; simp at hy
      | some bb =>
       rw [hj] at hy
       simp only [Option.map_some, Option.some.injEq] at hy
       subst hy
       refine ⟨[.int .u8 (bb.toNat : Nat)], fun q u hq' => ?_, by simp [Rep]⟩
       match q, hq' with
       | 0, hq' =>
        simp only [List.getElem?_cons_zero, Option.some.injEq] at hq'
        subst hq'
        simp only [World.cell?, hnew, K.size, Nat.mul_one, Nat.zero_add, Nat.add_zero, Option.isSome_none, Bool.false_eq_true, if_false]
        simp only [bytesRow]
        have hjl : j < s.length := (List.getElem?_eq_some_iff.1 hj).1
        rw [Array.getElem?_append_left (by rw [Array.size_map]; exact hjl)]
        rw [Array.getElem?_map, List.getElem?_toArray, hj]
        rfl
    ·simp at h
   ·rename_i hS
    split at h
    ·rename_i hu8
     split at h
     ·rename_i l hl
      obtain ⟨el, hel, he⟩ := u8Row_ok hu8
      obtain ⟨dr, d', M, hr⟩ := bytes_ok hb.inv hb.sees h1 hl
      obtain ⟨G', hp⟩ := hb.cell (str_ok e w G _) rfl h
      refine Sound.value ?_ hp
      simp only [execOp, ho]
      exact run_v (run_bytes_str hel he (ty_str hS) hr)
     ·simp at h
    ·simp at h
   ·simp at h
 ·simp at h
end ops
end Go.Mach
namespace Go.Mach
set_option linter.unusedVariables false
set_option linter.unusedSimpArgs false
theorem setFrom_length {α : Type} : ∀ (vs cs : List α) (j : Nat), (setFrom cs j vs).length = cs.length
 | [], cs, j => rfl
 | v :: r, cs, j => by rw [setFrom, setFrom_length r]; simp
theorem setFrom_get {α : Type} : ∀ (vs cs : List α) (j i : Nat), j + vs.length ≤ cs.length → (setFrom cs j vs)[i]? = if j ≤ i ∧ i < j + vs.length then vs[i - j]? else cs[i]?
 | [], cs, j, i, h => by
  rw [setFrom, if_neg (by simp only [List.length_nil]; omega)]
 | v :: r, cs, j, i, h => by
  simp only [List.length_cons] at h ⊢
  rw [setFrom, setFrom_get r _ (j + 1) i (by simp; omega)]
  by_cases h1 : j + 1 ≤ i ∧ i < j + 1 + r.length
  ·rw [if_pos h1, if_pos (by omega), show i - j = (i - (j + 1)) + 1 by omega]
   rfl
  ·rw [if_neg h1]
   by_cases h2 : i = j
   ·subst h2
    rw [if_pos (by omega)]
    have : i < cs.length := by omega
    simp [this]
   ·rw [if_neg (by omega)]
    rw [List.getElem?_set_ne (by omega)]
theorem fold_set (off : Nat) : ∀ (vs : List Value) (k : Nat) (cs : Array Value), ((vs.zipIdx k).foldl (fun cs (x : Value × Nat) => cs.setIfInBounds (off + x.2) x.1) cs).toList = setFrom cs.toList (off + k) vs
 | [], k, cs => rfl
 | v :: r, k, cs => by
  simp only [List.zipIdx_cons, List.foldl_cons]
  rw [fold_set off r (k + 1)]
  simp [setFrom, Nat.add_assoc]
theorem fill_fold (off : Nat) (vs : List Value) (cs : Array Value) : (vs.toArray.zipIdx.foldl (fun cs (x : Value × Nat) => cs.setIfInBounds (off + x.2) x.1) cs).toList = setFrom cs.toList off vs := by
 have := fold_set off vs 0 cs
 simpa using this
section ops
variable {P : Program} {n : Nat} {e : Env} {a : Act} {w : World} {G : Gh} {get : Nat → Slot} {o : Oper} {x : Ctx} {ws : Writes}
theorem CellsOk.setFrom {cs vs' : List C} {zs us : List Value} {Ls Ms : Nat → LT} (h : CellsOk e w G cs zs Ls) (h' : CellsOk e w G vs' us Ms) {j : Nat} (hj : j + vs'.length ≤ cs.length) :
  CellsOk e w G (Mach.setFrom cs j vs') (Mach.setFrom zs j us) (fun i => if j ≤ i ∧ i < j + vs'.length then Ms (i - j) else Ls i) := by
 refine ⟨by rw [setFrom_length, setFrom_length, h.len], fun i c v hc hv => ?_⟩
 rw [setFrom_get _ _ _ _ hj] at hc
 rw [setFrom_get _ _ _ _ (by rw [h.len, h'.len]; exact hj), h'.len] at hv
 split at hc
 ·rename_i q
  rw [if_pos q] at hv
  simp only [if_pos q]
  exact h'.cell _ c v hc hv
 ·rename_i q
  rw [if_neg q] at hv
  simp only [if_neg q]
  exact h.cell _ c v hc hv
theorem mem_setFrom {α : Type} : ∀ (vs cs : List α) (j : Nat) {c : α}, c ∈ setFrom cs j vs → c ∈ cs ∨ c ∈ vs
 | [], cs, j, c, h => .inl h
 | v :: r, cs, j, c, h => by
  rcases mem_setFrom r _ (j + 1) h with q | q
  ·rcases List.mem_or_eq_of_mem_set q with q | q
   ·exact .inl q
   ·exact .inr (by simp [q])
  ·exact .inr (by simp [q])
theorem fill_ok (hb : Begin n e a w G get o) (place place' : Nat → Option (Nat × Nat)) (hp : ∀ i q, place i = some q → place' i = some q) : ∀ (parts : List (Nat × Operand)), (∀ p ∈ parts, p.2 ∈ o.op.operands) → ∀ {vs : List (Nat × Val)}, partVals get parts = some vs →
  ∀ {cells : List C} {zs : Array Value} {Ls : Nat → LT} (hc : CellsOk e w G cells zs.toList Ls) (hno : ∀ c ∈ cells, c.isOwn = false) {cells' : List C}, fillC get place cells vs = some cells' →
   ∃ zs' Ls', Instr.fill place' zs (parts.map fun p => (p.1, a.eval p.2)) = some zs' ∧ CellsOk e w G cells' zs'.toList Ls' ∧ (∀ c ∈ cells', c.isOwn = false) ∧ cells'.length = cells.length
 | [], hm, vs, hv, cells, zs, Ls, hc, hno, cells', h => by
  simp only [partVals, Option.some.injEq] at hv
  subst hv
  simp only [fillC, Option.some.injEq] at h
  subst h
  exact ⟨zs, Ls, rfl, hc, hno, rfl⟩
 | (i, y) :: r, hm, vs, hv, cells, zs, Ls, hc, hno, cells', h => by
  simp only [partVals] at hv
  split at hv
  ·rename_i v vs' h1 h2
   simp only [Option.some.injEq] at hv
   subst hv
   simp only [fillC] at h
   split at h
   ·rename_i off size hpl
    split at h
    ·rename_i hq
     obtain ⟨q1, q2, q3⟩ := hq
     obtain ⟨us, Ms, hval⟩ := hb.opd (hm (i, y) (by simp)) h1
     obtain ⟨g1, g2⟩ := form_cells (n := n) (tm := a.tmps) hb.sees hval q3
     have hlen : us.length = size := by rw [hval.cells.len, q1]
     have hzl : zs.size = cells.length := by rw [← hc.len]; simp
     have hc' := hc.setFrom hval.cells (j := off) (by rw [q1]; exact q2)
     have hz' : (us.toArray.zipIdx.foldl (fun cs (x : Value × Nat) => cs.setIfInBounds (off + x.2) x.1) zs).toList = Mach.setFrom zs.toList off us := fill_fold off us zs
     rw [← hz'] at hc'
     obtain ⟨zs', Ls', k1, k2, k3, k4⟩ := fill_ok hb place place' hp r (fun p hp => hm p (by simp [hp])) h2 hc' (fun c hc => by
      rcases mem_setFrom _ _ _ hc with q | q
      ·exact hno c q
      ·exact hval.noOwn c q) h
     refine ⟨zs', Ls', ?_, k2, k3, by rw [k4, setFrom_length]⟩
     simp only [List.map_cons, Instr.fill, hp i _ hpl, g1]
     rw [if_neg (by simp only [List.size_toArray, hlen, hzl, decide_eq_true_eq, Bool.or_eq_true, ne_eq, not_or]; simp; omega)]
     exact k1
    ·simp at h
   ·simp at h
  ·simp at hv
theorem run_places {fields : Array Field} (h : ∀ f ∈ fields, ∃ i, P.info? f.type = some i) (w : World) :
  (fields.mapM fun f => do pure (f.offset, ← sizeOf f.type) : Sem (Array (Nat × Nat))).run P w = .ok (fields.map fun f => (f.offset, (tyOf P f.type).size)) w := by
 rw [Array.mapM_eq_mapM_toList]
 have key : ∀ (l : List Field), (∀ f ∈ l, ∃ i, P.info? f.type = some i) → (l.mapM fun f => do pure (f.offset, ← sizeOf f.type) : Sem (List (Nat × Nat))).run P w = .ok (l.map fun f => (f.offset, (tyOf P f.type).size)) w := by
  intro l
  induction l with
  | nil => intro _; rfl
  | cons f r ih =>
   intro hl
   obtain ⟨i, hi⟩ := hl f (by simp)
   simp only [List.mapM_cons, Sem.run_bind, run_size hi, Result.andThen_ok, Sem.run_pure, ih fun g hg => hl g (by simp [hg]), List.map_cons]
 have := key fields.toList fun f hf => h f (by simpa using hf)
 rw [map_eq_pure_bind, Sem.run_bind, this]
 simp only [Result.andThen_ok, Sem.run_pure]
 rw [← Array.toList_map, Array.toArray_toList]
theorem sound_build {ty : TypeId} {parts : Array (Nat × Operand)} (hty : ∀ t, x.ty t = tyOf P t) (hb : Begin n e a w G get o) (ho : o.op = .build ty parts) (h : act x get o = some ws) : Sound P n e a w G o ws := by
 simp only [act, ho] at h
 split at h
 ·rename_i fs vs hd hvs
  split at h
  ·simp at h
  ·rename_i hq
   rw [not_or, Bool.not_eq_false, Bool.not_eq_false] at hq
   obtain ⟨hf, hz⟩ := hq
   split at h
   ·rename_i cs hcs
    rw [hty] at hd hz hcs
    obtain ⟨fields, hu, rfl⟩ := ty_struct hd
    obtain ⟨i, z, hi, hz⟩ := zero_info hz
    rw [zeros_eq hi hz] at hcs
    obtain ⟨zs', Ls', k1, k2, k3, _⟩ := fill_ok hb _ (fun i => (fields.map fun f => (f.offset, (tyOf P f.type).size))[i]?) (fun i q hq => by
      rw [List.getElem?_map] at hq
      rw [Array.getElem?_map]
      simp only [Array.getElem?_toList] at hq
      cases hff : fields[i]? with
      | none => rw [hff] at hq; simp at hq
      | some f =>
       rw [hff] at hq
       simp only [Option.map_some, hty] at hq ⊢
       exact hq) parts.toList (fun p hp => by
      simp only [ho, Op.operands]
      exact Array.mem_toList_iff.1 (by simpa using ⟨p.1, by simpa using hp⟩)) hvs (lits_ok e w G z.cells.toList).1 (lits_ok e w G z.cells.toList).2 hcs
    have hval : ValOk e w G (.agg, cs) (.agg zs') zs'.toList Ls' := ⟨k2, by simp [form], k3, by simp, by simp⟩
    obtain ⟨G', hp⟩ := hb.done hval h
    refine Sound.value ?_ hp
    simp only [execOp, ho]
    refine run_v ?_
    have hzr : (zeroValue ty).run P w = .ok z w := by simp [zeroValue, typeInfo, hi, hz]
    have hpl := run_places (P := P) (fields := fields) (fun f hf' => ty_size_info (t := f.type) (by
     have := List.all_eq_true.1 hf (f.offset, f.type) (List.mem_map.2 ⟨f, by simpa using hf', rfl⟩)
     simpa [hty] using this)) w
    simp only [Instr.build, Sem.run_bind, hzr, run_und hu, Result.andThen_ok, hpl]
    have : (parts.map fun (p : Nat × Operand) => (p.1, a.eval p.2)).toList = parts.toList.map fun p => (p.1, a.eval p.2) := by simp
    rw [this, k1]
    rfl
   ·simp at h
 ·simp at h
theorem zeroRow_get {z : List C} {sz : Nat} (hz : z.length = sz) (hs : 0 < sz) : ∀ (m i : Nat), (zeroRow z m)[i]? = if i < m * sz then z[i % sz]? else none
 | 0, i => by simp [zeroRow]
 | m + 1, i => by
  simp only [zeroRow]
  by_cases h : i < sz
  ·rw [List.getElem?_append_left (by omega), Nat.mod_eq_of_lt h, if_pos]
   rw [Nat.add_mul]; omega
  ·rw [List.getElem?_append_right (by omega), zeroRow_get hz hs m, hz, ← Nat.mod_eq_sub_mod (by omega)]
   have : i - sz < m * sz ↔ i < (m + 1) * sz := by rw [Nat.add_mul]; omega
   simp only [this]
theorem made_get {z : Array Value} {m i : Nat} (hz : 0 < z.size) : (madeCells z m)[i]? = if i < m then z[i % z.size]? else none := by
 simp only [madeCells, Array.getElem?_map]
 by_cases h : i < m
 ·rw [if_pos h, Array.getElem?_range, if_pos h]
  have := Nat.mod_lt i hz
  simp [getElem!_def, this]
 ·rw [if_neg h, Array.getElem?_range, if_neg h]
  rfl
theorem zeroRow_made {z : Array Value} {sz m : Nat} (hz : z.size = sz) (hs : 0 < sz) : zeroRow (z.toList.map litC) m = (madeCells z (m * sz)).toList.map litC := by
 apply List.ext_getElem?
 intro i
 rw [zeroRow_get (by simpa using hz) hs, List.getElem?_map, List.getElem?_map, Array.getElem?_toList, Array.getElem?_toList, made_get (by omega), hz]
 split <;> rfl
theorem chunks_length {α : Type} (sz : Nat) : ∀ (m : Nat) (cs : List α), (chunks sz m cs).length = m
 | 0, cs => rfl
 | m + 1, cs => by simp [chunks, chunks_length sz m]
theorem chunks_get {α : Type} (sz : Nat) : ∀ (m : Nat) (cs : List α) (i : Nat) (c : List α), (chunks sz m cs)[i]? = some c → c = (cs.drop (i * sz)).take sz
 | 0, cs, i, c, h => by simp [chunks] at h
 | m + 1, cs, 0, c, h => by simp [chunks] at h; simp [h]
 | m + 1, cs, i + 1, c, h => by
  simp only [chunks, List.getElem?_cons_succ] at h
  rw [chunks_get sz m _ i c h, List.drop_drop]
  congr 2
  rw [Nat.add_mul]; omega
theorem sound_buildSlice {ty : TypeId} {m : Nat} {parts : Array (Nat × Operand)} (hty : ∀ t, x.ty t = tyOf P t) (hb : Begin n e a w G get o) (ho : o.op = .buildSlice ty m parts) (h : act x get o = some ws) : Sound P n e a w G o ws := by
 simp only [act, ho] at h
 split at h
 ·rename_i el vs hd hvs
  split at h
  ·simp at h
  ·rename_i k hk
   split at h
   ·simp at h
   ·rename_i hq
    simp only [not_or, Bool.not_eq_false, Decidable.not_not, ne_eq] at hq
    obtain ⟨hmax, hzl, hz⟩ := hq
    split at h
    ·simp at h
    ·rename_i cs hcs
     split at h
     ·simp at h
     ·rename_i t l dp hpk
      rw [hty] at hd hk hz hzl hcs
      obtain ⟨i, hi, hik⟩ := ty_k hk
      obtain ⟨i', z, hi', hz⟩ := zero_info hz
      rw [hi] at hi'
      simp only [Option.some.injEq] at hi'
      subst hi'
      have hu := ty_slice hd
      have hzs := zeros_eq hi hz
      have hzk : z.cells.size = k.size := by rw [hzs] at hzl; simpa using hzl
      rw [hzs, zeroRow_made hzk k.size_pos] at hcs
      obtain ⟨zs', Ls', k1, k2, k3, k4⟩ := fill_ok hb _ (fun i => some (i * k.size, k.size)) (fun i q hq => by
       split at hq
       ·exact hq
       ·simp at hq) parts.toList (fun p hp => by
       simp only [ho, Op.operands]
       exact Array.mem_toList_iff.1 (by simpa using ⟨p.1, by simpa using hp⟩)) hvs (lits_ok e w G _).1 (lits_ok e w G _).2 hcs
      obtain ⟨e', G', H, rows, hg⟩ := packs_ok k (chunks k.size m cs) hb.inv hb.tr (vss := chunks k.size m zs'.toList) (by rw [chunks_length, chunks_length]) (fun i c v hc hv => by
       rw [chunks_get _ _ _ _ _ hc, chunks_get _ _ _ _ _ hv]
       exact ⟨_, (k2.drop (i * k.size)).take k.size⟩) (fun c hc c' hc' => by
       obtain ⟨i, hi⟩ := List.getElem?_of_mem hc
       rw [chunks_get _ _ _ _ _ hi] at hc'
       exact k3 c' (List.mem_of_mem_drop (List.mem_of_mem_take hc'))) hpk
      have hlm : l.length = m := by rw [← hg.vlen, chunks_length]
      obtain ⟨d, hd', hws⟩ := own_dst h
      have hzsz : zs'.size = m * k.size := by
       have h1 := k2.len
       rw [k4] at h1
       simpa [size_madeCells] using h1
      refine Sound.new (u := .slice (some ⟨w.heap.size, 0, none⟩) l.length m) (w' := w.alloc (.cells zs' el)) ?_ hd' ?_ hws
      ·simp only [execOp, ho]
       refine run_v ?_
       have hp1 : (parts.map fun (p : Nat × Operand) => (p.1, a.eval p.2)).toList = parts.toList.map fun p => (p.1, a.eval p.2) := by simp
       have hle : ¬ (m * k.size > 2 ^ 24) := by omega
       have hzr : (zeroValue el).run P w = .ok z w := by simp [zeroValue, typeInfo, hi, hz]
       simp only [Instr.buildSlice, Sem.run_bind, run_und hu, Result.andThen_ok, run_size hi, (ty_size hi).1, hik, if_neg hle, Sem.run_pure]
       by_cases hmz : m * k.size = 0
       ·rw [if_pos hmz]
        have h0 : (Array.map (fun j => (#[] : Array Value)[j % (#[] : Array Value).size]!) (Array.range (m * k.size))) = madeCells z.cells (m * k.size) := by rw [hmz]; simp [madeCells]
        simp only [Sem.run_bind, Sem.run_pure, Result.andThen_ok, h0, hp1, k1]
        rw [hlm]
        rfl
       ·rw [if_neg hmz]
        simp only [Sem.run_bind, Sem.run_pure, Result.andThen_ok, hzr, hp1]
        have h0 : (Array.map (fun j => z.cells[j % z.cells.size]!) (Array.range (m * k.size))) = madeCells z.cells (m * k.size) := rfl
        simp only [h0, k1]
        rw [hlm]
        rfl
      ·refine new_row (e := e') (G := G') (H := H) (rows := rows) (cap := m) hg.inv hg.tr (hg.ext.held hb.inv) (by simp) (fun b hb' => alloc_same w _ b hb') ?_ (fun b hb' => ⟨(hg.hand.mem b hb').1, (hg.hand.mem b hb').2.1⟩) (hg.hand.owner hb.inv hg.ext) hg.hand.nodup hg.fp hg.none ?_ (by rw [packs_d _ hpk]; exact hd') (hb.inb.dst d hd')
       ·refine .inr ⟨_, 0, _, _, rfl, rfl, by omega, hg.len, by simp, fun _ => ⟨_, _, _, heap_alloc_new w _, by rw [hzsz]; omega, .inr (by simp)⟩, fun j y r hy hr => ?_⟩
        have hjl : j < l.length := (List.getElem?_eq_some_iff.1 hy).1
        have hv : (chunks k.size m zs'.toList)[j]? = some ((chunks k.size m zs'.toList)[j]'(by rw [chunks_length]; omega)) := List.getElem?_eq_getElem _
        have hrep := hg.rep j y r _ hy hr hv
        have hve := chunks_get _ _ _ _ _ hv
        rw [hve] at hrep
        refine ⟨_, fun q u hq => ?_, hrep.same fun b hb' => alloc_same w _ b (hrep.there b hb')⟩
        rw [List.getElem?_take] at hq
        split at hq
        ·rw [List.getElem?_drop, Array.getElem?_toList] at hq
         simp only [World.cell?, heap_alloc_new, Option.isSome_none, Bool.false_eq_true, if_false, Nat.zero_add]
         exact hq
        ·simp at hq
       ·intro b hb'
        obtain ⟨r, hr, hbr⟩ := List.mem_flatMap.1 hb'
        obtain ⟨j, hj⟩ := List.getElem?_of_mem hr
        have hjl : j < l.length := by rw [← hg.len]; exact (List.getElem?_eq_some_iff.1 hj).1
        have hv : (chunks k.size m zs'.toList)[j]? = some ((chunks k.size m zs'.toList)[j]'(by rw [chunks_length]; omega)) := List.getElem?_eq_getElem _
        have := (hg.rep j _ r _ (List.getElem?_eq_getElem hjl) hj hv).there b hbr
        rcases Nat.lt_or_ge b w.heap.size with q | q
        ·exact q
        ·exact absurd (Array.getElem?_eq_none q) this
 ·simp at h
end ops
end Go.Mach
namespace Go.Mach
set_option linter.unusedVariables false
set_option linter.unusedSimpArgs false
def Shp : (k : K) → k.T → k.T → Prop
 | .int _, _, _ => True
 | .bool, _, _ => True
 | .str, _, _ => True
 | .list k, l, l' => l'.length = l.length ∧ ∀ i, i < l.length → Shp k (l.getD i k.dflt) (l'.getD i k.dflt)
 | .pair a b, x, y => Shp a x.1 y.1 ∧ Shp b x.2 y.2
theorem Shp.refl : ∀ (k : K) (x : k.T), Shp k x x
 | .int _, _ => trivial
 | .bool, _ => trivial
 | .str, _ => trivial
 | .list k, l => ⟨rfl, fun i _ => Shp.refl k _⟩
 | .pair a b, x => ⟨Shp.refl a _, Shp.refl b _⟩
theorem Shp.flat : ∀ {k : K} (x y : k.T), k.flat = true → Shp k x y
 | .int _, _, _, _ => trivial
 | .bool, _, _, _ => trivial
 | .str, _, _, _ => trivial
 | .list _, _, _, h => by simp [K.flat] at h
 | .pair a b, x, y, h => by
  simp only [K.flat, Bool.and_eq_true] at h
  exact ⟨Shp.flat _ _ h.1, Shp.flat _ _ h.2⟩
theorem Shp.leaf : ∀ {k : K} {x y : k.T} (c : Nat), Shp k x y → ∀ {k' : K} {z : List k'.T}, leafV k x c = ⟨.list k', z⟩ → ∃ z', leafV k y c = ⟨.list k', z'⟩ ∧ Shp (.list k') z z'
 | .int _, x, y, c, h, k', z, hz => by simp [leafV] at hz
 | .bool, x, y, c, h, k', z, hz => by simp [leafV] at hz
 | .str, x, y, c, h, k', z, hz => by simp [leafV] at hz
 | .list k, x, y, c, h, k', z, hz => by
  simp only [leafV, Sigma.mk.injEq, K.list.injEq] at hz
  obtain ⟨rfl, hz⟩ := hz
  have hz := eq_of_heq hz
  subst hz
  exact ⟨y, rfl, h⟩
 | .pair a b, x, y, c, h, k', z, hz => by
  simp only [leafV] at hz ⊢
  split at hz
  ·rename_i hc
   rw [if_pos hc]
   exact Shp.leaf c h.1 hz
  ·rename_i hc
   rw [if_neg hc]
   exact Shp.leaf _ h.2 hz
theorem Shp.path : ∀ (p : Path) {k : K} {l l' : List k.T}, Shp (.list k) l l' → PathOk k l p → PathOk k l' p ∧ (getP k l' p).1 = (getP k l p).1 ∧ (getP k l' p).2.length = (getP k l p).2.length
 | [], k, l, l', h, _ => by
  simp only [Shp] at h
  exact ⟨trivial, rfl, h.1⟩
 | (i, c) :: p, k, l, l', h, hp => by
  simp only [Shp] at h
  simp only [PathOk] at hp ⊢
  obtain ⟨hi, hc, hp⟩ := hp
  cases hl : leafV k (l.getD i k.dflt) c with
  | mk k1 y =>
   rw [hl] at hp
   cases k1 with
   | list k' =>
    obtain ⟨z', h1, h2⟩ := Shp.leaf c (h.2 i hi) hl
    obtain ⟨g1, g2, g3⟩ := Shp.path p h2 hp
    have e1 : getP k l ((i, c) :: p) = getP k' y p := by simp only [getP, hl]
    have e2 : getP k l' ((i, c) :: p) = getP k' z' p := by simp only [getP, h1]
    rw [e1, e2, h1]
    exact ⟨⟨by rw [h.1]; exact hi, hc, g1⟩, g2, g3⟩
   | _ => exact hp.elim
theorem Shp.setLeaf : ∀ {k : K} (x : k.T) (c : Nat) (s : Sg), c < k.size → s.1 = k.leaf c → (∀ {k' : K} {z : List k'.T}, leafV k x c = ⟨.list k', z⟩ → ∃ z', s = ⟨.list k', z'⟩ ∧ Shp (.list k') z z') → Shp k x (setLeaf k x c s)
 | .int _, x, c, s, _, _, _ => trivial
 | .bool, x, c, s, _, _, _ => trivial
 | .str, x, c, s, _, _, _ => trivial
 | .list k, x, c, s, _, _, h => by
  obtain ⟨z', rfl, h2⟩ := h rfl
  simp only [Mach.setLeaf, castT_same]
  exact h2
 | .pair a b, x, c, s, hc, hs, h => by
  simp only [Mach.setLeaf]
  simp only [K.leaf] at hs
  simp only [K.size] at hc
  split
  ·rename_i q
   rw [if_pos q] at hs
   exact ⟨Shp.setLeaf x.1 c s q hs fun {k' z} hz => h (by simp only [leafV, if_pos q]; exact hz), Shp.refl b _⟩
  ·rename_i q
   rw [if_neg q] at hs
   exact ⟨Shp.refl a _, Shp.setLeaf x.2 (c - a.size) s (by omega) hs fun {k' z} hz => h (by simp only [leafV, if_neg q]; exact hz)⟩
theorem Shp.set {k : K} {l : List k.T} {i : Nat} {y : k.T} (hi : i < l.length) (h : Shp k (l.getD i k.dflt) y) : Shp (.list k) l (l.set i y) := by
 simp only [Shp]
 refine ⟨by simp, fun j hj => ?_⟩
 by_cases e : i = j
 ·subst e
  simp only [List.getD_eq_getElem?_getD, List.getElem?_set_self hi, Option.getD_some]
  simpa using h
 ·simp only [List.getD_eq_getElem?_getD, List.getElem?_set_ne e]
  exact Shp.refl k _
theorem Shp.mod (g : (k : K) → List k.T → List k.T) : ∀ (p : Path) {k : K} {l : List k.T}, PathOk k l p → Shp (.list (getP k l p).1) (getP k l p).2 (g (getP k l p).1 (getP k l p).2) → Shp (.list k) l (modP g k l p)
 | [], k, l, _, h => h
 | (i, c) :: p, k, l, hp, h => by
  simp only [PathOk] at hp
  obtain ⟨hi, hc, hp⟩ := hp
  simp only [modP]
  cases hl : leafV k (l.getD i k.dflt) c with
  | mk k1 y =>
   have hk := leafV_kind k (l.getD i k.dflt) c
   rw [hl] at hp hk
   cases k1 with
   | list k' =>
    have eg : getP k l ((i, c) :: p) = getP k' y p := by simp only [getP, hl]
    rw [eg] at h
    refine Shp.set hi (Shp.setLeaf _ c _ hc hk fun {k2 z} hz => ?_)
    rw [hl] at hz
    simp only [Sigma.mk.injEq, K.list.injEq] at hz
    obtain ⟨rfl, hz⟩ := hz
    have hz := eq_of_heq hz
    subst hz
    exact ⟨_, rfl, Shp.mod g p hp h⟩
   | _ => exact hp.elim
theorem setLeafL_self : ∀ (k : K) (L : LT) (c : Nat), setLeafL k L c (leafL k L c) = L
 | .int _, L, c => rfl
 | .bool, L, c => rfl
 | .str, L, c => rfl
 | .list _, L, c => rfl
 | .pair a b, L, c => by
  cases L with
  | pair x y =>
   simp only [setLeafL, leafL]
   split
   ·rw [setLeafL_self]
   ·rw [setLeafL_self]
  | _ => rfl
theorem list_set_getD {α : Type} (l : List α) (i : Nat) (d : α) : l.set i (l.getD i d) = l := by
 apply List.ext_getElem?
 intro j
 by_cases e : i = j
 ·subst e
  rw [List.getElem?_set]
  by_cases h : i < l.length
  ·simp [h]
  ·simp [h]
 ·rw [List.getElem?_set_ne e]
theorem setSub_self {dr d : Bool} {w : World} : ∀ (p : Path) {k : K} {l : List k.T} {L : LT} {v : Value}, RepL dr w k.size (Rep d w k) l L v → PathOk k l p → setSub k L (subL k L p) p = L
 | [], k, l, L, v, _, _ => rfl
 | (i, c) :: p, k, l, L, v, h, hp => by
  simp only [PathOk] at hp
  obtain ⟨hi, hc, hp⟩ := hp
  obtain ⟨b, off, cap, rows, r, vs, rfl, rfl, hcap, hrl, hr, hrow, hrep⟩ := h.elem hi
  obtain ⟨v1, hv1, hleaf, hsub⟩ := hrep.leaf hc
  have hrd : rows.getD i .leaf = r := by simp [hr]
  cases hl : leafV k (l.getD i k.dflt) c with
  | mk k1 y =>
   have hk := leafV_kind k (l.getD i k.dflt) c
   rw [hl] at hk hp hleaf
   simp only at hk hleaf
   cases k1 with
   | list k' =>
    simp only [Rep] at hleaf
    obtain ⟨u, hu, hleaf⟩ := hleaf
    simp only [subL, setSub, ← hk, hrd]
    rw [setSub_self p hleaf hp, setLeafL_self]
    congr 1
    rw [← hrd, list_set_getD]
   | _ => exact hp.elim
def setLeavesL (k : K) : LT → Nat → List LT → LT
 | L, _, [] => L
 | L, c, M :: r => setLeavesL k (setLeafL k L c M) (c + 1) r
def LeavesAt (d : Bool) (w : World) (k : K) : Nat → List Sg → List LT → List Value → Prop
 | _, [], [], [] => True
 | c, s :: gs, M :: Ms, u :: us => s.1 = k.leaf c ∧ Rep d w s.1 s.2 M [u] ∧ LeavesAt d w k (c + 1) gs Ms us
 | _, _, _, _ => False
def fpLeaves : List Sg → List LT → List Nat
 | s :: gs, M :: Ms => fp s.1 M ++ fpLeaves gs Ms
 | _, _ => []
theorem LeavesAt.length {d : Bool} {w : World} {k : K} : ∀ {c : Nat} {gs : List Sg} {Ms : List LT} {us : List Value}, LeavesAt d w k c gs Ms us → gs.length = us.length ∧ Ms.length = us.length
 | _, [], [], [], _ => ⟨rfl, rfl⟩
 | c, s :: gs, M :: Ms, u :: us, h => by
  obtain ⟨_, _, h⟩ := h
  obtain ⟨h1, h2⟩ := h.length
  simp [h1, h2]
 | _, [], [], _ :: _, h => by simp [LeavesAt] at h
 | _, [], _ :: _, _, h => by simp [LeavesAt] at h
 | _, _ :: _, [], _, h => by simp [LeavesAt] at h
 | _, _ :: _, _ :: _, [], h => by simp [LeavesAt] at h
theorem Rep.setLeaves {d : Bool} {w : World} {k : K} : ∀ {gs : List Sg} {Ms : List LT} {us : List Value} {x : k.T} {L : LT} {cs : List Value} {c : Nat}, Rep d w k x L cs → c + us.length ≤ k.size → LeavesAt d w k c gs Ms us →
  Rep d w k (setLeaves k x c gs) (setLeavesL k L c Ms) (setFrom cs c us)
 | [], [], [], x, L, cs, c, h, _, _ => h
 | s :: gs, M :: Ms, u :: us, x, L, cs, c, h, hc, hl => by
  obtain ⟨h1, h2, h3⟩ := hl
  simp only [List.length_cons] at hc
  have h0 : Rep d w k (Mach.setLeaf k x c s) (setLeafL k L c M) (cs.set c u) := h.setLeaf (by omega) h1 h2
  exact Rep.setLeaves (gs := gs) (Ms := Ms) (us := us) (c := c + 1) h0 (by omega) h3
 | [], [], _ :: _, _, _, _, _, _, _, h => by simp [LeavesAt] at h
 | [], _ :: _, _, _, _, _, _, _, _, h => by simp [LeavesAt] at h
 | _ :: _, [], _, _, _, _, _, _, _, h => by simp [LeavesAt] at h
 | _ :: _, _ :: _, [], _, _, _, _, _, _, h => by simp [LeavesAt] at h
theorem leaves_perm {d : Bool} {w : World} {k : K} : ∀ {gs : List Sg} {Ms : List LT} {us : List Value} {x : k.T} {L : LT} {cs : List Value} {c : Nat}, Rep d w k x L cs → c + us.length ≤ k.size → LeavesAt d w k c gs Ms us →
  ∃ rest, (fpLeaves gs Ms ++ fp k L).Perm (fp k (setLeavesL k L c Ms) ++ rest)
 | [], [], [], x, L, cs, c, h, _, _ => ⟨[], by simp [fpLeaves, setLeavesL]⟩
 | s :: gs, M :: Ms, u :: us, x, L, cs, c, h, hc, hl => by
  obtain ⟨h1, h2, h3⟩ := hl
  simp only [List.length_cons] at hc
  have h0 : Rep d w k (Mach.setLeaf k x c s) (setLeafL k L c M) (cs.set c u) := h.setLeaf (by omega) h1 h2
  obtain ⟨rest, hr⟩ := leaves_perm (gs := gs) (Ms := Ms) (us := us) (c := c + 1) h0 (by omega) h3
  obtain ⟨q1, q2⟩ := leaf_perm h (c := c) (by omega)
  refine ⟨rest ++ fp (k.leaf c) (leafL k L c), ?_⟩
  simp only [fpLeaves, setLeavesL]
  have := q2 M
  rw [← List.append_assoc]
  refine List.Perm.trans ?_ (hr.append_right _)
  rw [h1]
  have e1 : (fpLeaves gs Ms ++ fp k (setLeafL k L c M) ++ fp (k.leaf c) (leafL k L c)).Perm (fpLeaves gs Ms ++ (fp (k.leaf c) M ++ restL k L c) ++ fp (k.leaf c) (leafL k L c)) :=
   (List.Perm.append_left _ this).append_right _
  refine List.Perm.trans ?_ e1.symm
  have e2 : (fp (k.leaf c) M ++ fpLeaves gs Ms ++ fp k L).Perm (fp (k.leaf c) M ++ fpLeaves gs Ms ++ (fp (k.leaf c) (leafL k L c) ++ restL k L c)) := List.Perm.append_left _ q1
  refine e2.trans ?_
  simp only [List.append_assoc]
  have e3 : (fp (k.leaf c) M ++ (fpLeaves gs Ms ++ (fp (k.leaf c) (leafL k L c) ++ restL k L c))).Perm (fpLeaves gs Ms ++ (fp (k.leaf c) M ++ (fp (k.leaf c) (leafL k L c) ++ restL k L c))) := by
   rw [← List.append_assoc, ← List.append_assoc]
   rw [← List.append_assoc, ← List.append_assoc]
   exact (List.perm_append_comm.append_right _).append_right _
  refine e3.trans (List.Perm.append_left _ (List.Perm.append_left _ List.perm_append_comm))
 | [], [], _ :: _, _, _, _, _, _, _, h => by simp [LeavesAt] at h
 | [], _ :: _, _, _, _, _, _, _, _, h => by simp [LeavesAt] at h
 | _ :: _, [], _, _, _, _, _, _, _, h => by simp [LeavesAt] at h
 | _ :: _, _ :: _, [], _, _, _, _, _, _, h => by simp [LeavesAt] at h
end Go.Mach
namespace Go.Mach
set_option linter.unusedVariables false
set_option linter.unusedSimpArgs false
theorem run_store_row (P : Program) (g o : Nat) (t : TypeId) (fr : Nat × Nat) : ∀ (vs : List Value) (i : Nat) (cur : Array Value) (w : World), w.heap[g]? = some (.cells cur t fr) → o + i + vs.length ≤ cur.size →
  (∀ q, o + i ≤ q → q < o + i + vs.length → ¬ (fr.1 ≤ q ∧ q < fr.2)) → (∀ v ∈ vs, v.oneCell' = true) →
  (storeCells ⟨g, o, none⟩ vs i).run P w = .ok () (w.setRow g (setFrom cur.toList (o + i) vs).toArray)
 | [], i, cur, w, hg, _, _, _ => by
  simp only [storeCells, setFrom, Array.toArray_toList]
  rw [setRow_self w g cur t fr hg]
  rfl
 | v :: rest, i, cur, w, hg, hl, hf, h1 => by
  have hi : o + i < cur.size := by simp at hl; omega
  have hadd : (⟨g, o, none⟩ : Addr).add i = ⟨g, o + i, none⟩ := by unfold Addr.add; split <;> simp_all
  have hcell : w.cell? ⟨g, o + i, none⟩ = some cur[o + i] := by simp [World.cell?, hg, hi]
  have hfro : w.frozen? ⟨g, o + i, none⟩ = false := by
   have := hf (o + i) (Nat.le_refl _) (by simp)
   simp only [World.frozen?, hg, Bool.and_eq_false_iff, decide_eq_false_iff_not]
   omega
  have hst : (store ((⟨g, o, none⟩ : Addr).add i) v).run P w = .ok () (w.setRow g (cur.setIfInBounds (o + i) v)) := by
   rw [hadd, run_store P w _ v _ (h1 v (by simp)), hcell]
   simp [hfro, setCell_eq_setRow w g (o + i) cur t fr v hg]
  have ih := run_store_row P g o t fr rest (i + 1) (cur.setIfInBounds (o + i) v) (w.setRow g (cur.setIfInBounds (o + i) v)) (setRow_heap w g cur _ t fr hg) (by simp at hl ⊢; omega)
   (fun q h1 h2 => hf q (by omega) (by simp; omega)) (fun x hx => h1 x (by simp [hx]))
  simp only [storeCells, Sem.run_bind, hst, Result.andThen_ok, ih, setRow_setRow, setFrom]
  congr 3
  simp [Array.toList_setIfInBounds, Nat.add_assoc]
section ops
variable {P : Program} {n : Nat} {e : Env} {a : Act} {w : World} {G : Gh} {get : Nat → Slot} {o : Oper} {x : Ctx} {ws : Writes}
theorem lay_skip {e0 : Env} {w1 : World} {G0 : Gh} {t : Tr} (h : Inv n e a.tmps w1 G) (ht : TrOk e0 t e) (hst : Held n e0.length w w1 G0 G) (hg : w.heap.size ≤ w1.heap.size) (hd : ∀ d, t.d = some d → d < n) (henv : SameEnv w w1) :
  ∃ G', Post n (e0.puts (t.lay t.d (.dead, [])).ws) a w G0 (a.put t.d undef) w1 G' := by
 cases hdd : t.d with
 | none =>
  simp only [Tr.lay, Act.put]
  rw [ht.puts]
  exact ⟨G, h, by rw [ht.length]; exact hst, hg, rfl, henv⟩
 | some d =>
  have hdn := hd d hdd
  have hat := ht.dst d hdd
  have hlen : d < e.length := Nat.lt_of_lt_of_le hdn h.elen
  simp only [Tr.lay]
  rw [(ht.put ((t.at d).lay .dead []) hlen).puts, hat]
  have := h.lay (w' := w1) d .dead [] [] (fun _ => .leaf) 0 [] (Nat.le_refl _) (fun b _ _ => rfl) (by simp) rfl (by simp) (by simp [boxB, fpCells]) (by simp [boxB, fpCells]) (fun _ => rfl) (by simp)
   (a.put (some d) undef).tmps (by rw [put_size]; exact h.size) (fun t' ht' hn => by rw [put_tmps]; simp [Ne.symm ht']) (fun hn => trivial)
  refine ⟨_, this, ⟨fun b q1 q2 => ?_, fun s hs => ⟨fun q => ⟨(upd_ne _ _ (by omega)).trans ((hst.vs s hs).1 q).1, fun j => by rw [show (G.lay d [] (fun _ => .leaf) 0 []).lt s = G.lt s from upd_ne _ _ (by omega)]; exact ((hst.vs s hs).1 q).2 j⟩, (show (G.lay d [] (fun _ => .leaf) 0 []).bk s = G.bk s from upd_ne _ _ (by omega)).trans (hst.vs s hs).2⟩, fun b t q1 q2 q3 => by
   have hl : (e.set d ((e.get d).lay .dead [])).length = e0.length := by rw [List.length_set, ht.length]
   obtain ⟨r1, r2⟩ := hst.out b t q1 (by rw [← hl]; exact q2) q3
   exact ⟨r1, by simp [Gh.lay, r2]⟩⟩, hg, put_defers _ _ _, henv⟩
  obtain ⟨r1, r2⟩ := hst.still b q1 q2
  exact ⟨r1, by simp [Gh.lay, r2]⟩
theorem Sound.skip {w' : World} {G' : Gh} (h : (execOp a.eval o).run P w = .ok .skip w') (hp : Post n (e.puts ws) a w G (a.put o.dst undef) w' G') : Sound P n e a w G o ws :=
 fun K Q hk => wp_skip' h (hk _ _ _ hp)
theorem run_storeAt {t : Nat} {i : TypeInfo} (hi : P.info? t = some i) {b o' : Nat} {u : Value} {us : List Value} (hu : u.cells = us.toArray) (hl : us.length = (tyOf P t).size) {w w' : World}
  (h : (storeCells ⟨b, o', none⟩ us 0).run P w = .ok () w') : (Instr.storeAt t (.pointer (some ⟨b, o', none⟩)) u).run P w = .ok () w' := by
 simp only [Instr.storeAt, Instr.sureAddr, storeVar, Sem.run_bind, Sem.run_pure, Result.andThen_ok, run_size hi, hu]
 simp only [List.size_toArray, hl, ne_eq, not_true_eq_false, if_false]
 exact h
theorem layFun (r : Nat) : (fun c => match c with | C.own _ _ d k l => C.own r 0 d k l | c => c) = layC r := by
 funext c
 cases c <;> rfl
theorem fpCells_layC (Ls : Nat → LT) (r : Nat) : ∀ (cs : List C) (i : Nat), fpCells Ls i (cs.map (layC r)) = fpCells Ls i cs
 | [], i => rfl
 | c :: cs, i => by simp only [List.map_cons, fpCells, ownB_lay, fpCells_layC Ls r cs]
theorem perm3 {α : Type} (A R B : List α) : (A ++ R ++ B).Perm (B ++ R ++ A) := by
 refine List.perm_append_comm.trans ?_
 rw [List.append_assoc]
 exact List.Perm.append_left _ List.perm_append_comm
theorem fpCells_setFrom : ∀ (vs cs : List C) (Ls Ms : Nat → LT) (i j : Nat), j + vs.length ≤ cs.length →
  ∃ rest, (fpCells Ls i cs ++ fpCells Ms 0 vs).Perm (fpCells (fun q => if i + j ≤ q ∧ q < i + j + vs.length then Ms (q - (i + j)) else Ls q) i (setFrom cs j vs) ++ rest)
 | [], cs, Ls, Ms, i, j, h => by
  refine ⟨[], ?_⟩
  have : (fun q => if i + j ≤ q ∧ q < i + j + ([] : List C).length then Ms (q - (i + j)) else Ls q) = Ls := by
   funext q
   rw [if_neg (by simp only [List.length_nil]; omega)]
  rw [this]
  simp [fpCells, setFrom]
 | v :: r, cs, Ls, Ms, i, j, h => by
  simp only [List.length_cons] at h
  have hj : cs[j]? = some (cs[j]'(by omega)) := List.getElem?_eq_getElem (by omega)
  obtain ⟨rest1, q1, q2⟩ := fpCells_perm (lt := Ls) (i := i) hj
  have q2 := q2 (upd Ls (i + j) (Ms 0)) v (fun m hm => upd_ne _ _ hm)
  rw [upd_self] at q2
  obtain ⟨rest, q3⟩ := fpCells_setFrom r (cs.set j v) (upd Ls (i + j) (Ms 0)) (fun q => Ms (q + 1)) i (j + 1) (by simp; omega)
  have hf : (fun q => if i + j ≤ q ∧ q < i + j + (v :: r).length then Ms (q - (i + j)) else Ls q) =
    (fun q => if i + (j + 1) ≤ q ∧ q < i + (j + 1) + r.length then (fun q => Ms (q + 1)) (q - (i + (j + 1))) else upd Ls (i + j) (Ms 0) q) := by
   funext q
   simp only [List.length_cons, upd]
   by_cases g : q = i + j
   ·subst g
    rw [if_pos (by omega), if_neg (by omega), if_pos rfl, Nat.sub_self]
   ·rw [if_neg g]
    by_cases g1 : i + (j + 1) ≤ q ∧ q < i + (j + 1) + r.length
    ·rw [if_pos g1, if_pos (by omega)]
     congr 1
     omega
    ·rw [if_neg g1, if_neg (by omega)]
  rw [hf]
  refine ⟨rest ++ ownB (cs[j]'(by omega)) (Ls (i + j)), ?_⟩
  simp only [fpCells, setFrom]
  rw [show (0 : Nat) + 1 = 0 + 1 from rfl, fpCells_shift Ms r 0, ← List.append_assoc, ← List.append_assoc]
  refine List.Perm.trans ?_ (q3.append_right _)
  have e1 : (fpCells Ls i cs ++ ownB v (Ms 0)).Perm (fpCells (upd Ls (i + j) (Ms 0)) i (cs.set j v) ++ ownB (cs[j]'(by omega)) (Ls (i + j))) := by
   refine (q1.append_right _).trans (List.Perm.trans ?_ (q2.symm.append_right _))
   exact perm3 _ _ _
  refine (e1.append_right _).trans ?_
  simp only [List.append_assoc]
  exact List.Perm.append_left _ List.perm_append_comm
theorem setFrom_cell {α : Type} {cs vs : List α} {j i : Nat} {c : α} (h : j + vs.length ≤ cs.length) (hc : (setFrom cs j vs)[i]? = some c) :
  (j ≤ i ∧ i < j + vs.length ∧ vs[i - j]? = some c) ∨ (¬ (j ≤ i ∧ i < j + vs.length) ∧ cs[i]? = some c) := by
 rw [setFrom_get _ _ _ _ h] at hc
 split at hc
 ·rename_i q
  exact .inl ⟨q.1, q.2, hc⟩
 ·rename_i q
  exact .inr ⟨q, hc⟩
theorem store_box (hb : Begin n e a w G get o) {e1 : Env} {t : Tr} {H : List Nat} {Ls : Nat → LT} {cs : List C} {vs : List Value} (ht : Taken n e e a.tmps w G t cs vs e1 H Ls) {s bv j : Nat} (hsh : (e.get s).sh = .box bv)
  (hj : j + cs.length ≤ (e1.get s).cs.length) (hone : ∀ v ∈ vs, v.oneCell' = true) (hsn : s < n ∨ (s - n) % 2 = 1) :
  ∃ w' G', (storeCells ⟨G.bk s, j, none⟩ vs 0).run P w = .ok () w' ∧ Inv n (e1.set s { e1.get s with cs := setFrom (e1.get s).cs j (cs.map (layC (e1.get s).cnt)), cnt := (e1.get s).cnt + 1 }) a.tmps w' G' ∧
   Held n e1.length w w' G G' ∧ w'.heap.size = w.heap.size ∧ SameEnv w w' := by
 have hsh1 : (e1.get s).sh = .box bv := by rw [ht.ext.sh]; exact hsh
 have hslot := ht.inv.slot s
 obtain ⟨hbv, ty, hblk⟩ := hslot.box bv hsh1
 have hne : (e1.get s).sh ≠ .dead := by rw [hsh1]; simp
 have hlen := hslot.len hne
 have hj' : j + vs.length ≤ (G.vs s).length := by rw [hlen, ht.len]; exact hj
 have hrun := run_store_row P (G.bk s) j ty (0, 0) vs 0 (G.vs s).toArray w hblk (by simpa using hj') (fun q _ _ => by simp) hone
 simp only [Nat.add_zero] at hrun
 have hfps : fpS G s (e1.get s) = G.bk s :: fpCells (G.lt s) 0 (e1.get s).cs := by simp [fpS, hsh1]
 have hbk : G.ow (G.bk s) = some s := hslot.own _ (by rw [hfps]; simp)
 have hbH : G.bk s ∉ H := fun q => (ht.hand.mem _ q).1 s (by rw [hfps]; simp)
 have hndS := hslot.nodup
 rw [hfps] at hndS
 have hml : (cs.map (layC (e1.get s).cnt)).length = cs.length := by simp
 obtain ⟨rest, hperm⟩ := fpCells_setFrom (cs.map (layC (e1.get s).cnt)) (e1.get s).cs (G.lt s) Ls 0 j (by rw [hml]; exact hj)
 rw [fpCells_layC, ht.fp] at hperm
 simp only [Nat.zero_add, hml] at hperm
 have hall : (G.bk s :: (fpCells (G.lt s) 0 (e1.get s).cs ++ H)).Nodup := by
  rw [← List.cons_append, List.nodup_append]
  refine ⟨hndS, ht.hand.nodup, fun b hb b' hb' heq => ?_⟩
  subst heq
  exact (ht.hand.mem b hb').1 s (by rw [hfps]; exact hb)
 have hall' := (List.Perm.cons (G.bk s) hperm).nodup_iff.1 hall
 have hI := ht.inv.box (w' := w.setRow (G.bk s) (setFrom (G.vs s) j vs).toArray) hsh1 (setFrom (e1.get s).cs j (cs.map (layC (e1.get s).cnt))) (setFrom (G.vs s) j vs) (fun q => if j ≤ q ∧ q < j + cs.length then Ls (q - j) else G.lt s q) H
  (by simp) (fun b hb _ _ => setRow_other w _ b _ hb) ⟨ty, setRow_heap w _ _ _ ty _ hblk⟩
  (fun b hb => by
   obtain ⟨h1, h2, h3, _⟩ := ht.hand.mem b hb
   exact ⟨h1, .inl h2, by simpa using h3⟩)
  (by rw [setFrom_length, setFrom_length, hlen])
  (fun i c v hc hv => by
   rcases setFrom_cell (by rw [hml]; exact hj) hc with ⟨g1, g2, g3⟩ | ⟨g1, g3⟩
   ·right
    rw [hml] at g2
    rcases setFrom_cell hj' hv with ⟨_, _, g4⟩ | ⟨g4, _⟩
    ·rw [if_pos ⟨g1, g2⟩]
     rw [List.getElem?_map] at g3
     cases hci : cs[i - j]? with
     | none => rw [hci] at g3; simp at g3
     | some c0 =>
      rw [hci] at g3
      simp only [Option.map_some, Option.some.injEq] at g3
      subst g3
      have hnew := ht.new _ c0 v hci g4
      cases c0 with
      | own rv sv d k l =>
       obtain ⟨n1, n2⟩ := hnew
       refine ⟨⟨n1.same fun b hb => setRow_other w _ b _ ?_, n2⟩, fun r1 r2 d' k' l' hq => by simp only [layC, C.own.injEq] at hq; exact ⟨hq.1.symm, hq.2.1.symm⟩⟩
       rintro rfl
       cases d with
       | true =>
        refine hbH ?_
        rw [← ht.fp]
        exact fpCells_mem hci (by simpa [ownB] using hb)
       | false =>
        rw [fp_list, List.mem_append] at hb
        rcases hb with hb | hb
        ·refine hbH ?_
         rw [← ht.fp]
         exact fpCells_mem hci (by simpa [ownB] using hb)
        ·rw [(n2 rfl _ hb).1] at hbk
         simp at hbk
      | _ => exact ⟨hnew, fun r1 r2 d' k' l' hq => by simp [layC] at hq⟩
    ·rw [ht.len] at g4
     exact absurd ⟨g1, g2⟩ g4
   ·left
    rw [hml] at g1
    rcases setFrom_cell hj' hv with ⟨g4, g5, _⟩ | ⟨_, g4⟩
    ·rw [ht.len] at g5
     exact absurd ⟨g4, g5⟩ g1
    ·refine ⟨g3, g4, if_neg g1, fun b hb => ?_⟩
     rw [if_neg g1] at hb
     have hm : b ∈ fpCells (G.lt s) 0 (e1.get s).cs := fpCells_mem g3 (by simpa using hb)
     refine ⟨?_, fun q => ?_⟩
     ·rintro rfl
      exact (List.nodup_cons.1 hndS).1 hm
     ·exact (ht.hand.mem b q).1 s (by rw [hfps]; simp [hm]))
  (by
   rw [← List.cons_append] at hall'
   exact (List.nodup_append.1 hall').1)
  (fun b hb => by
   have : b ∈ fpCells (G.lt s) 0 (e1.get s).cs ++ H := hperm.mem_iff.2 (List.mem_append_left _ hb)
   rw [List.mem_append] at this
   rcases this with q | q
   ·exact .inr (by rw [hfps]; simp [q])
   ·exact .inl q)
 refine ⟨_, _, hrun, hI, ⟨fun b q1 q2 => ⟨setRow_other w _ b _ (by rintro rfl; rw [q1] at hbk; simp at hbk), ?_⟩, fun s' hs' => ⟨fun q => ⟨upd_ne _ _ (by omega), fun j' => by rw [show (G.cells s (setFrom (G.vs s) j vs) (fun q => if j ≤ q ∧ q < j + cs.length then Ls (q - j) else G.lt s q) H).lt s' = G.lt s' from upd_ne _ _ (by omega)]⟩, rfl⟩, fun b t q1 q2 q3 => ?out⟩, by simp, ⟨rfl, rfl, rfl⟩⟩
 case out =>
  have hbs : b ≠ G.bk s := by
   rintro rfl
   rw [q1] at hbk
   simp only [Option.some.injEq] at hbk
   subst hbk
   rw [get_out (by omega)] at hsh1
   simp at hsh1
  have hbH' : b ∉ H := fun q => by have := ht.hand.owner hb.inv ht.ext b q t q1; omega
  exact ⟨setRow_other w _ b _ hbs, by simp [Gh.cells, hbH', q1]⟩
 have : b ∉ H := fun q => (ht.hand.mem b q).2.1 q1
 simp [Gh.cells, this, q1]
end ops
end Go.Mach
namespace Go.Mach
set_option linter.unusedVariables false
set_option linter.unusedSimpArgs false
theorem grabs_d {k : K} : ∀ (cs : List C) {c : Nat} {t t' : Tr} {gs : List Sg} {d : Bool}, t.grabs k c cs = some (t', gs, d) → t'.d = t.d
 | [], c, t, t', gs, d, h => by simp only [Tr.grabs, Option.some.injEq, Prod.mk.injEq] at h; rw [h.1]
 | x :: r, c, t, t', gs, d, h => by
  simp only [Tr.grabs] at h
  split at h
  ·simp at h
  ·rename_i h1
   split at h
   ·simp at h
   ·rename_i h2
    simp only [Option.some.injEq, Prod.mk.injEq] at h
    obtain ⟨rfl, _⟩ := h
    rw [grabs_d r h2, grab_d h1]
theorem LeavesAt.mono {d d' : Bool} {w w' : World} {k : K} : ∀ {c : Nat} {gs : List Sg} {Ms : List LT} {us : List Value}, LeavesAt d w k c gs Ms us → (d' = true → d = true) → Same w w' (fpLeaves gs Ms) → LeavesAt d' w' k c gs Ms us
 | _, [], [], [], h, _, _ => h
 | c, s :: gs, M :: Ms, u :: us, h, hd, hs => by
  obtain ⟨h1, h2, h3⟩ := h
  refine ⟨h1, ?_, h3.mono hd fun b hb => hs b (by simp [fpLeaves, hb])⟩
  have h4 := h2.same fun b hb => hs b (by simp [fpLeaves, hb])
  cases d with
  | true => exact h4.any d'
  | false => cases d' with
   | true => simp at hd
   | false => exact h4
 | _, [], [], _ :: _, h, _, _ => by simp [LeavesAt] at h
 | _, [], _ :: _, _, h, _, _ => by simp [LeavesAt] at h
 | _, _ :: _, [], _, h, _, _ => by simp [LeavesAt] at h
 | _, _ :: _, _ :: _, [], h, _, _ => by simp [LeavesAt] at h
structure GrabbedLeaves (n : Nat) (e0 : Env) (e : Env) (tm : Array Value) (w : World) (G : Gh) (t' : Tr) (k : K) (c : Nat) (gs : List Sg) (d : Bool) (us : List Value) (e' : Env) (G' : Gh) (H : List Nat) (Ms : List LT) : Prop where
 inv : Inv n e' tm w G'
 tr : TrOk e0 t' e'
 ext : Ext w e G e' G'
 hand : Hand w e G e' G' H
 leaves : LeavesAt d w k c gs Ms us
 fp : d = true → H = fpLeaves gs Ms
 none : ∀ b ∈ fpLeaves gs Ms, b ∈ H ∨ G'.ow b = none
theorem grabs_ok (k : K) : ∀ (cs : List C) {c n : Nat} {e0 e : Env} {tm : Array Value} {w : World} {G : Gh} {t t' : Tr} (h : Inv n e tm w G) (ht : TrOk e0 t e) {us : List Value} {Ls : Nat → LT} (hc : CellsOk e w G cs us Ls)
  (ho : ∀ c ∈ cs, c.isOwn = false) {gs : List Sg} {d : Bool} (hg : t.grabs k c cs = some (t', gs, d)),
  ∃ e' G' H Ms, GrabbedLeaves n e0 e tm w G t' k c gs d us e' G' H Ms
 | [], c, n, e0, e, tm, w, G, t, t', h, ht, us, Ls, hc, ho, gs, d, hg => by
  simp only [Tr.grabs, Option.some.injEq, Prod.mk.injEq] at hg
  obtain ⟨rfl, rfl, rfl⟩ := hg
  have : us = [] := List.eq_nil_of_length_eq_zero (by simpa using hc.len)
  subst this
  exact ⟨e, G, [], [], h, ht, Ext.refl, Hand.nil, trivial, by simp [fpLeaves], by simp [fpLeaves]⟩
 | x :: cs, c, n, e0, e, tm, w, G, t, t', h, ht, us, Ls, hc, ho, gs, d, hg => by
  match us, hc with
  | [], hc => exact absurd hc.len (by simp)
  | u :: us, hc =>
   simp only [Tr.grabs] at hg
   cases h1 : t.grab x (k.leaf c) with
   | none => rw [h1] at hg; simp at hg
   | some r1 =>
    obtain ⟨t1, x1, d1⟩ := r1
    rw [h1] at hg
    simp only at hg
    cases h2 : t1.grabs k (c + 1) cs with
    | none => rw [h2] at hg; simp at hg
    | some r2 =>
     obtain ⟨t2, xs, d2⟩ := r2
     rw [h2] at hg
     simp only [Option.some.injEq, Prod.mk.injEq] at hg
     obtain ⟨rfl, rfl, rfl⟩ := hg
     obtain ⟨e1, G1, H1, L1, g1⟩ := grab_ok h ht (hc.cell 0 x u rfl rfl) h1
     have hcr : CellsOk e w G cs us (fun j => Ls (1 + j)) := by
      have := hc.drop 1
      simpa using this
     obtain ⟨e2, G2, H2, Ms, g2⟩ := grabs_ok k cs g1.inv g1.tr (hcr.ext g1.ext (fun c hc' => ho c (by simp [hc']))) (fun c hc' => ho c (by simp [hc'])) h2
     refine ⟨e2, G2, H1 ++ H2, L1 :: Ms, g2.inv, g2.tr, g1.ext.trans g2.ext, ?_, ⟨rfl, ?_, ?_⟩, ?_, ?_⟩
     ·exact g1.hand.append g1.ext g2.ext g2.hand (fun b hb ho => (g1.ext.loose b hb ho).1) (fun b hb => g1.ext.some_before (g2.ext.some_before (g2.hand.mem b hb).2.1))
     ·cases d1 with
      | false => simpa using g1.rep
      | true => exact g1.rep.any _
     ·refine g2.leaves.mono (fun hd => ?_) (fun b _ => rfl)
      simp only [Bool.and_eq_true] at hd
      exact hd.2
     ·intro hd
      simp only [Bool.and_eq_true] at hd
      rw [g1.fp hd.1, g2.fp hd.2]
      simp [fpLeaves]
     ·intro b hb
      simp only [fpLeaves, List.mem_append] at hb
      rcases hb with hb | hb
      ·rcases g1.none b hb with q | q
       ·exact .inl (by simp [q])
       ·exact .inr (g2.ext.none b q)
      ·rcases g2.none b hb with q | q
       ·exact .inl (by simp [q])
       ·exact .inr q
theorem leaf_noPair : ∀ (k : K) (c : Nat) (a b : K), k.leaf c ≠ .pair a b
 | .int _, c, a, b => by simp [K.leaf]
 | .bool, c, a, b => by simp [K.leaf]
 | .str, c, a, b => by simp [K.leaf]
 | .list k, c, a, b => by simp [K.leaf]
 | .pair x y, c, a, b => by
  simp only [K.leaf]
  split
  ·exact leaf_noPair x c a b
  ·exact leaf_noPair y _ a b
theorem Rep.one_flat {d d' : Bool} {w w' : World} {M M' : LT} {cs : List Value} : ∀ {s : Sg}, s.1.flat = true → (∀ a b, s.1 ≠ .pair a b) → Rep d w s.1 s.2 M cs → Rep d' w' s.1 s.2 M' cs
 | ⟨.int _, _⟩, _, _, h => h
 | ⟨.bool, _⟩, _, _, h => h
 | ⟨.str, _⟩, _, _, h => h
 | ⟨.list _, _⟩, h, _, _ => by simp [K.flat] at h
 | ⟨.pair a b, _⟩, _, h, _ => absurd rfl (h a b)
theorem flat_leaves {d : Bool} {w w' : World} {k : K} (r : LT) : ∀ {us : List Value} {gs : List Sg} {Ms : List LT} {c : Nat}, hasList k c us.length = false → LeavesAt d w k c gs Ms us →
  ∃ Ms', LeavesAt true w' k c gs Ms' us ∧ setLeavesL k r c Ms' = r ∧ fpLeaves gs Ms' = [] ∧ fpLeaves gs Ms = []
 | [], [], [], c, _, _ => ⟨[], trivial, rfl, rfl, rfl⟩
 | u :: us, s :: gs, M :: Ms, c, hh, h => by
  simp only [List.length_cons, hasList, Bool.or_eq_false_iff, Bool.not_eq_false'] at hh
  obtain ⟨h1, h2, h3⟩ := h
  obtain ⟨Ms', q1, q2, q3, q4⟩ := flat_leaves r hh.2 h3
  have hf : s.1.flat = true := by rw [h1]; exact hh.1
  refine ⟨leafL k r c :: Ms', ⟨h1, Rep.one_flat hf (by rw [h1]; exact leaf_noPair k c) h2, q1⟩, ?_, ?_, ?_⟩
  ·simp only [setLeavesL, setLeafL_self]; exact q2
  ·simp only [fpLeaves, q3, fp_flat hf]; rfl
  ·simp only [fpLeaves, q4, fp_flat hf]; rfl
 | _ :: _, [], _, _, _, h => by cases ‹List LT› <;> simp [LeavesAt] at h
 | _ :: _, _ :: _, [], _, _, h => by simp [LeavesAt] at h
 | [], _ :: _, [], _, _, h => by simp [LeavesAt] at h
 | [], _ :: _, _ :: _, _, _, h => by simp [LeavesAt] at h
 | [], [], _ :: _, _, _, h => by simp [LeavesAt] at h
theorem modP_length (g : (k : K) → List k.T → List k.T) : ∀ (p : Path) {k : K} {l : List k.T}, (g (getP k l p).1 (getP k l p).2).length = (getP k l p).2.length → (modP g k l p).length = l.length
 | [], k, l, h => h
 | (i, c) :: p, k, l, h => by
  simp only [modP]
  split
  ·simp
  ·rfl
theorem hdOf_setSub {dr d : Bool} {w : World} {M : LT} : ∀ (p : Path) {k : K} {l : List k.T} {L : LT} {v : Value}, RepL dr w k.size (Rep d w k) l L v → PathOk k l p → hdOf M = hdOf (subL k L p) → hdOf (setSub k L M p) = hdOf L
 | [], k, l, L, v, _, _, h => h
 | (i, c) :: p, k, l, L, v, h, hp, hM => by
  simp only [PathOk] at hp
  obtain ⟨hi, hc, hp⟩ := hp
  obtain ⟨b, off, cap, rows, r, vs, rfl, rfl, _⟩ := h.elem hi
  cases hl : leafV k (l.getD i k.dflt) c with
  | mk k1 y =>
   have hk := leafV_kind k (l.getD i k.dflt) c
   rw [hl] at hk hp
   cases k1 with
   | list k' => simp only [setSub, ← hk, hdOf]
   | _ => exact hp.elim
theorem leafV_set : ∀ (k : K) (x : k.T) (c c' : Nat) (s : Sg), c < k.size → c' < k.size → s.1 = k.leaf c → leafV k (setLeaf k x c s) c' = if c' = c then s else leafV k x c'
 | .int i, x, c, c', ⟨k, y⟩, hc, hc', hs => by
  simp only [K.size] at hc hc'
  simp only [K.leaf] at hs
  subst hs
  rw [if_pos (by omega)]
  simp only [leafV, Mach.setLeaf, castT_same]
 | .bool, x, c, c', ⟨k, y⟩, hc, hc', hs => by
  simp only [K.size] at hc hc'
  simp only [K.leaf] at hs
  subst hs
  rw [if_pos (by omega)]
  simp only [leafV, Mach.setLeaf, castT_same]
 | .str, x, c, c', ⟨k, y⟩, hc, hc', hs => by
  simp only [K.size] at hc hc'
  simp only [K.leaf] at hs
  subst hs
  rw [if_pos (by omega)]
  simp only [leafV, Mach.setLeaf, castT_same]
 | .list _, x, c, c', ⟨k, y⟩, hc, hc', hs => by
  simp only [K.size] at hc hc'
  simp only [K.leaf] at hs
  subst hs
  rw [if_pos (by omega)]
  simp only [leafV, Mach.setLeaf, castT_same]
 | .pair a b, x, c, c', s, hc, hc', hs => by
  simp only [K.size] at hc hc'
  simp only [K.leaf] at hs
  simp only [leafV, Mach.setLeaf]
  by_cases q : c < a.size
  ·rw [if_pos q] at hs
   rw [if_pos q]
   by_cases q' : c' < a.size
   ·rw [if_pos q', if_pos q']
    exact leafV_set a x.1 c c' s q q' hs
   ·rw [if_neg q', if_neg q', if_neg (by omega)]
  ·rw [if_neg q] at hs
   rw [if_neg q]
   by_cases q' : c' < a.size
   ·rw [if_pos q', if_pos q', if_neg (by omega)]
   ·rw [if_neg q', if_neg q']
    have := leafV_set b x.2 (c - a.size) (c' - a.size) s (by omega) (by omega) hs
    rw [this]
    by_cases e : c' = c
    ·rw [if_pos e, if_pos (by omega)]
    ·rw [if_neg e, if_neg (by omega)]
theorem leafL_set {d : Bool} {w : World} : ∀ {k : K} {x : k.T} {L : LT} {cs : List Value} (c c' : Nat) (M : LT), Rep d w k x L cs → c < k.size → c' < k.size → leafL k (setLeafL k L c M) c' = if c' = c then M else leafL k L c'
 | .int i, x, L, cs, c, c', M, h, hc, hc' => by
  simp only [K.size] at hc hc'
  rw [if_pos (by omega)]; rfl
 | .bool, x, L, cs, c, c', M, h, hc, hc' => by
  simp only [K.size] at hc hc'
  rw [if_pos (by omega)]; rfl
 | .str, x, L, cs, c, c', M, h, hc, hc' => by
  simp only [K.size] at hc hc'
  rw [if_pos (by omega)]; rfl
 | .list _, x, L, cs, c, c', M, h, hc, hc' => by
  simp only [K.size] at hc hc'
  rw [if_pos (by omega)]; rfl
 | .pair a b, x, L, cs, c, c', M, h, hc, hc' => by
  simp only [K.size] at hc hc'
  obtain ⟨La, Lb, c1, c2, rfl, rfl, h1, h2⟩ := h
  simp only [setLeafL]
  by_cases q : c < a.size
  ·rw [if_pos q]
   simp only [leafL]
   by_cases q' : c' < a.size
   ·rw [if_pos q', if_pos q']
    exact leafL_set c c' M h1 q q'
   ·rw [if_neg q', if_neg q', if_neg (by omega)]
  ·rw [if_neg q]
   simp only [leafL]
   by_cases q' : c' < a.size
   ·rw [if_pos q', if_pos q', if_neg (by omega)]
   ·rw [if_neg q', if_neg q']
    rw [leafL_set (c - a.size) (c' - a.size) M h2 (by omega) (by omega)]
    by_cases e : c' = c
    ·rw [if_pos e, if_pos (by omega)]
    ·rw [if_neg e, if_neg (by omega)]
theorem loc_keep1 (g : (k : K) → List k.T → List k.T) {M : LT} {dr d : Bool} {w : World} {k0 : K} {l0 : List k0.T} {L : LT} {v : Value} (h : RepL dr w k0.size (Rep d w k0) l0 L v) (p : Path) (hp0 : p ≠ []) (hp : PathOk k0 l0 p)
  (hg : (g (getP k0 l0 p).1 (getP k0 l0 p).2).length = (getP k0 l0 p).2.length) (hM : hdOf M = hdOf (subL k0 L p)) (q : Nat × Nat) (k1 : K) (n : Nat) (hd : Option (Nat × Nat × Nat)) (hq : Loc k0 l0 L [q] k1 n hd) :
  Loc k0 (modP g k0 l0 p) (setSub k0 L M p) [q] k1 n hd := by
 obtain ⟨i', c'⟩ := q
 cases p with
 | nil => exact absurd rfl hp0
 | cons a p' =>
  obtain ⟨i, c⟩ := a
  simp only [PathOk] at hp
  obtain ⟨hi, hc, hp⟩ := hp
  obtain ⟨b, off, cap, rows, r, vs, rfl, rfl, _, hrl, hr, _, hrep⟩ := h.elem hi
  have hrd : rows.getD i .leaf = r := by simp [List.getD_eq_getElem?_getD, hr]
  cases hl : leafV k0 (l0.getD i k0.dflt) c with
  | mk kk y =>
   have hk := leafV_kind k0 (l0.getD i k0.dflt) c
   rw [hl] at hk hp
   cases kk with
   | list k2 =>
    simp only at hp hk
    have e1 : getP k0 l0 ((i, c) :: p') = getP k2 y p' := by simp only [getP, hl]
    rw [e1] at hg
    have e2 : modP g k0 l0 ((i, c) :: p') = l0.set i (Mach.setLeaf k0 (l0.getD i k0.dflt) c ⟨.list k2, modP g k2 y p'⟩) := by simp only [modP, hl]
    have e3 : setSub k0 (.node b off cap rows) M ((i, c) :: p') = .node b off cap (rows.set i (setLeafL k0 r c (setSub k2 (leafL k0 r c) M p'))) := by simp only [setSub, ← hk, hrd]
    have e4 : subL k0 (.node b off cap rows) ((i, c) :: p') = subL k2 (leafL k0 r c) p' := by simp only [subL, ← hk, hrd]
    rw [e4] at hM
    rw [e2, e3]
    obtain ⟨a1, a2, a3, a4⟩ := hq
    simp only [PathOk] at a1
    obtain ⟨b1, b2, b3⟩ := a1
    by_cases hii : i' = i
    ·subst hii
     have g1 : (l0.set i' (Mach.setLeaf k0 (l0.getD i' k0.dflt) c ⟨.list k2, modP g k2 y p'⟩)).getD i' k0.dflt = Mach.setLeaf k0 (l0.getD i' k0.dflt) c ⟨.list k2, modP g k2 y p'⟩ := by
      simp [List.getD_eq_getElem?_getD, List.getElem?_set_self hi]
     have g2 : (rows.set i' (setLeafL k0 r c (setSub k2 (leafL k0 r c) M p'))).getD i' .leaf = setLeafL k0 r c (setSub k2 (leafL k0 r c) M p') := by
      simp [List.getD_eq_getElem?_getD, List.getElem?_set_self (show i' < rows.length by omega)]
     have g3 := leafV_set k0 (l0.getD i' k0.dflt) c c' ⟨.list k2, modP g k2 y p'⟩ hc b2 hk
     have g4 := leafL_set c c' (setSub k2 (leafL k0 r c) M p') hrep hc b2
     by_cases hcc : c' = c
     ·subst hcc
      rw [if_pos rfl] at g3 g4
      obtain ⟨v1, q1, q2, _⟩ := hrep.leaf hc
      rw [hl] at q2
      obtain ⟨v2, _, q3⟩ := q2
      have g5 := hdOf_setSub p' q3 hp hM
      have g6 := modP_length g p' hg
      have e5 : getP k0 (l0.set i' (Mach.setLeaf k0 (l0.getD i' k0.dflt) c' ⟨.list k2, modP g k2 y p'⟩)) [(i', c')] = ⟨k2, modP g k2 y p'⟩ := by simp only [getP, g1, g3]
      have e6 : getP k0 l0 [(i', c')] = ⟨k2, y⟩ := by simp only [getP, hl]
      rw [e6] at a2 a3
      simp only [subL, ← hk, hrd] at a4
      refine ⟨?_, ?_, ?_, ?_⟩
      ·simp only [PathOk, g1, g3]
       exact ⟨by simpa using b1, b2, trivial⟩
      ·rw [e5]; exact a2
      ·rw [e5]; simp only; rw [g6]; exact a3
      ·simp only [subL, ← hk, g2, g4, if_true, g5]; exact a4
     ·rw [if_neg hcc] at g3 g4
      have e5 : getP k0 (l0.set i' (Mach.setLeaf k0 (l0.getD i' k0.dflt) c ⟨.list k2, modP g k2 y p'⟩)) [(i', c')] = getP k0 l0 [(i', c')] := by simp only [getP, g1, g3]
      refine ⟨?_, ?_, ?_, ?_⟩
      ·simp only [PathOk, g1, g3]
       exact ⟨by simpa using b1, b2, b3⟩
      ·rw [e5]; exact a2
      ·rw [e5]; exact a3
      ·cases hkc : k0.leaf c' with
       | list k3 => simp only [subL, hkc, g2, g4, hrd] at a4 ⊢; exact a4
       | _ => simp only [subL, hkc] at a4 ⊢; exact a4
    ·have g1 : (l0.set i (Mach.setLeaf k0 (l0.getD i k0.dflt) c ⟨.list k2, modP g k2 y p'⟩)).getD i' k0.dflt = l0.getD i' k0.dflt := by
      simp only [List.getD_eq_getElem?_getD, List.getElem?_set_ne (fun z => hii z.symm)]
     have g2 : (rows.set i (setLeafL k0 r c (setSub k2 (leafL k0 r c) M p'))).getD i' .leaf = rows.getD i' .leaf := by
      simp only [List.getD_eq_getElem?_getD, List.getElem?_set_ne (fun z => hii z.symm)]
     have e5 : getP k0 (l0.set i (Mach.setLeaf k0 (l0.getD i k0.dflt) c ⟨.list k2, modP g k2 y p'⟩)) [(i', c')] = getP k0 l0 [(i', c')] := by simp only [getP, g1]
     refine ⟨?_, ?_, ?_, ?_⟩
     ·simp only [PathOk, g1]
      exact ⟨by simpa using b1, b2, b3⟩
     ·rw [e5]; exact a2
     ·rw [e5]; exact a3
     ·cases hkc : k0.leaf c' with
      | list k3 => simp only [subL, hkc, g2] at a4 ⊢; exact a4
      | _ => simp only [subL, hkc] at a4 ⊢; exact a4
   | _ => exact hp.elim
theorem verM_pos : 0 < verM := by unfold verM; omega
theorem jumpV_gt (cnt : Nat) : cnt ≤ jumpV cnt ∧ cnt / verM < jumpV cnt / verM := by
 have h := verM_pos
 unfold jumpV
 have h1 := Nat.div_add_mod cnt verM
 have h2 := Nat.mod_lt cnt h
 rw [Nat.mul_div_cancel _ h]
 refine ⟨?_, by omega⟩
 rw [Nat.add_mul, Nat.one_mul, Nat.mul_comm (cnt / verM)]
 omega
theorem notOk {p : Path} {a c z : Nat} (hp : p ≠ []) (ha : a < c) (h1 : c ≤ z) (h2 : c / verM < z / verM) : ¬ svOk p a z = true := by
 intro hok
 match p, hp with
 | [x], _ =>
  simp only [svOk, Nat.beq_eq] at hok
  have : a / verM ≤ c / verM := Nat.div_le_div_right (by omega)
  omega
 | x :: y :: r, _ =>
  simp only [svOk, Nat.beq_eq] at hok
  omega
theorem nextV_ok (p : Path) (sv cnt : Nat) : cnt ≤ nextV p sv cnt ∧ (cnt / verM < nextV p sv cnt / verM ∨ (p ≠ [] ∧ nextV p sv cnt / verM = sv / verM)) := by
 cases p with
 | nil => exact ⟨(jumpV_gt cnt).1, .inl (jumpV_gt cnt).2⟩
 | cons a p =>
  simp only [nextV]
  cases hb : Nat.beq (cnt / verM) (sv / verM) with
  | true => exact ⟨Nat.le_refl _, .inr ⟨by simp, by simpa [Nat.beq_eq] using hb⟩⟩
  | false => exact ⟨(jumpV_gt cnt).1, .inl (jumpV_gt cnt).2⟩
end Go.Mach
namespace Go.Mach
set_option linter.unusedVariables false
set_option linter.unusedSimpArgs false
theorem focus2 {w : World} (g : (k : K) → List k.T → List k.T) {d0 : Bool} (p : Path) (k : K) (l : List k.T) (L : LT) (v : Value) (h : RepL true w k.size (Rep d0 w k) l L v) (hp : PathOk k l p) (hpd : p = [] ∨ d0 = true) :
  ∃ v' rest, RepL true w (getP k l p).1.size (Rep d0 w (getP k l p).1) (getP k l p).2 (subL k L p) v' ∧
   (fp (.list k) L).Perm (fp (.list (getP k l p).1) (subL k L p) ++ rest) ∧
   ∀ w' M dd, Same w w' rest → RepL true w' (getP k l p).1.size (Rep dd w' (getP k l p).1) (g (getP k l p).1 (getP k l p).2) M v' →
    RepL true w' k.size (Rep dd w' k) (modP g k l p) (setSub k L M p) v ∧ (fp (.list k) (setSub k L M p)).Perm (fp (.list (getP k l p).1) M ++ rest) := by
 rcases hpd with rfl | rfl
 ·exact ⟨v, [], by simpa [getP, subL] using h, by simp [getP, subL], fun w' M dd _ hM => ⟨by simpa [getP, modP, setSub] using hM, by simp [getP, setSub]⟩⟩
 ·exact focus g p k l L v h hp
theorem repl_store {d0 d dd : Bool} {w : World} {k : K} {l : List k.T} {b off cap i c : Nat} {rows : List LT} {v : Value} (h : RepL true w k.size (Rep d0 w k) l (.node b off cap rows) v) (hi : i < l.length) {us : List Value} (hc : c + us.length ≤ k.size)
  {gs : List Sg} {Ms : List LT} {cur : Array Value} {ty : TypeId} {fr : Nat × Nat} (hg : w.heap[b]? = some (.cells cur ty fr))
  (hb : b ∉ rows.flatMap (fp k)) (hbl : b ∉ fpLeaves gs Ms) (hlv : LeavesAt d w k c gs Ms us) (h0 : dd = true → d0 = true) (hd : dd = true → d = true) {r : LT} (hr : rows[i]? = some r) :
  RepL true (w.setRow b (setFrom cur.toList (off + i * k.size + c) us).toArray) k.size (Rep dd (w.setRow b (setFrom cur.toList (off + i * k.size + c) us).toArray) k) (l.set i (setLeaves k (l.getD i k.dflt) c gs))
   (.node b off cap (rows.set i (setLeavesL k r c Ms))) v ∧ off + i * k.size + c + us.length ≤ cur.size ∧ (∀ q, off + i * k.size + c ≤ q → q < off + i * k.size + c + us.length → ¬ (fr.1 ≤ q ∧ q < fr.2)) := by
 have hw' : ∀ b', b' ≠ b → (w.setRow b (setFrom cur.toList (off + i * k.size + c) us).toArray).heap[b']? = w.heap[b']? := fun b' hb' => setRow_other w b b' _ hb'
 have hg' := setRow_heap w b cur (setFrom cur.toList (off + i * k.size + c) us).toArray ty fr hg
 rcases h with ⟨h, _⟩ | ⟨b', off', cap', rows', e1, e2, h3, h4, hn, h5, h6⟩
 ·simp at h
 simp only [LT.node.injEq] at e1
 obtain ⟨rfl, rfl, rfl, rfl⟩ := e1
 obtain ⟨cc, tt, ff, q1, q2, q3⟩ := h5 rfl
 rw [hg] at q1
 simp only [Option.some.injEq, Obj.cells.injEq] at q1
 obtain ⟨rfl, rfl, rfl⟩ := q1
 have hmul : (i + 1) * k.size ≤ cap * k.size := Nat.mul_le_mul_right _ (by omega)
 rw [Nat.add_mul, Nat.one_mul] at hmul
 have hfit : off + i * k.size + c + us.length ≤ cur.size := by omega
 refine ⟨.inr ⟨b, off, cap, _, rfl, by rw [e2]; simp, by simpa using h3, by simpa using h4, by rw [hg']; simp, fun _ => ⟨_, _, _, hg', by simpa [setFrom_length] using q2, ?_⟩, fun j y r' hy hr' => ?_⟩, hfit, fun q g1 g2 => ?_⟩
 ·simpa [setFrom_length] using q3
 ·have hjl : j < l.length := by have := (List.getElem?_eq_some_iff.1 hy).1; simpa using this
  have hcell : ∀ q, (w.setRow b (setFrom cur.toList (off + i * k.size + c) us).toArray).cell? ⟨b, q, none⟩ = if off + i * k.size + c ≤ q ∧ q < off + i * k.size + c + us.length then us[q - (off + i * k.size + c)]? else w.cell? ⟨b, q, none⟩ := by
   intro q
   simp only [World.cell?, hg', hg, Option.isSome_none, Bool.false_eq_true, if_false, List.getElem?_toArray]
   rw [setFrom_get _ _ _ _ (by simpa using hfit)]
   simp
  by_cases e : i = j
  ·subst e
   rw [List.getElem?_set_self (by omega)] at hy
   rw [List.getElem?_set_self (by omega)] at hr'
   simp only [Option.some.injEq] at hy hr'
   subst hy; subst hr'
   have hx : l[i]? = some (l.getD i k.dflt) := by simp [List.getElem?_eq_getElem hi]
   obtain ⟨vs, a1, a2⟩ := h6 i _ r hx hr
   have hrm : ∀ b' ∈ fp k r, b' ≠ b := by
    rintro b' hb' rfl
    exact hb (List.mem_flatMap.2 ⟨r, List.mem_of_getElem? hr, hb'⟩)
   have a3 : Rep dd (w.setRow b (setFrom cur.toList (off + i * k.size + c) us).toArray) k (l.getD i k.dflt) r vs := by
    have := a2.same (w' := w.setRow b (setFrom cur.toList (off + i * k.size + c) us).toArray) fun b' hb' => hw' b' (hrm b' hb')
    cases d0 with
    | true => exact this.any dd
    | false => cases dd with
     | true => simp at h0
     | false => exact this
   refine ⟨setFrom vs c us, fun q u hq => ?_, a3.setLeaves hc (hlv.mono hd fun b' hb' => hw' b' (by rintro rfl; exact hbl hb'))⟩
   rw [hcell]
   rw [setFrom_get _ _ _ _ (by rw [a2.size]; exact hc)] at hq
   by_cases g : c ≤ q ∧ q < c + us.length
   ·rw [if_pos g] at hq
    rw [if_pos (by omega), ← hq]
    congr 1
    omega
   ·rw [if_neg g] at hq
    rw [if_neg (by omega)]
    exact a1 q u hq
  ·rw [List.getElem?_set_ne e] at hy hr'
   obtain ⟨vs, a1, a2⟩ := h6 j y r' hy hr'
   refine ⟨vs, fun q u hq => ?_, ?_⟩
   ·rw [hcell, if_neg]
    ·exact a1 q u hq
    ·have hqs : q < k.size := by rw [← a2.size]; exact (List.getElem?_eq_some_iff.1 hq).1
     rcases Nat.lt_or_gt_of_ne e with g | g
     ·have : (i + 1) * k.size ≤ j * k.size := Nat.mul_le_mul_right _ g
      rw [Nat.add_mul] at this
      omega
     ·have : (j + 1) * k.size ≤ i * k.size := Nat.mul_le_mul_right _ g
      rw [Nat.add_mul] at this
      omega
   ·have := a2.same (w' := w.setRow b (setFrom cur.toList (off + i * k.size + c) us).toArray) fun b' hb' => hw' b' (by
     rintro rfl
     exact hb (List.mem_flatMap.2 ⟨r', List.mem_of_getElem? hr', hb'⟩))
    cases d0 with
    | true => exact this.any dd
    | false => cases dd with
     | true => simp at h0
     | false => exact this
 ·rcases q3 with q3 | q3 <;> omega
theorem fp_store {d0 d : Bool} {w : World} {k : K} {l : List k.T} {b off cap i c : Nat} {rows : List LT} {v : Value} (h : RepL true w k.size (Rep d0 w k) l (.node b off cap rows) v) (hi : i < l.length) {us : List Value} (hc : c + us.length ≤ k.size)
  {gs : List Sg} {Ms : List LT} (hlv : LeavesAt d w k c gs Ms us) {r : LT} (hr : rows[i]? = some r) :
  ∃ junk, (fpLeaves gs Ms ++ rows.flatMap (fp k)).Perm ((rows.set i (setLeavesL k r c Ms)).flatMap (fp k) ++ junk) := by
 have hx : l[i]? = some (l.getD i k.dflt) := by simp [List.getElem?_eq_getElem hi]
 rcases h with ⟨h, _⟩ | ⟨b', off', cap', rows', e1, e2, h3, h4, hn, h5, h6⟩
 ·simp at h
 simp only [LT.node.injEq] at e1
 obtain ⟨rfl, rfl, rfl, rfl⟩ := e1
 obtain ⟨vs, a1, a2⟩ := h6 i _ r hx hr
 obtain ⟨junk, hj⟩ := leaves_perm a2.weaken hc (hlv.mono (d' := false) (by simp) fun b _ => rfl)
 obtain ⟨q1, q2⟩ := flat_perm (fp k) rows i r hr
 refine ⟨junk, (List.Perm.append_left _ q1).trans ?_⟩
 rw [← List.append_assoc]
 refine (hj.append_right _).trans ?_
 refine List.Perm.trans ?_ ((q2 _).symm.append_right _)
 simp only [List.append_assoc]
 exact List.Perm.append_left _ List.perm_append_comm
theorem Shp.trans : ∀ {k : K} {x y z : k.T}, Shp k x y → Shp k y z → Shp k x z
 | .int _, _, _, _, _, _ => trivial
 | .bool, _, _, _, _, _ => trivial
 | .str, _, _, _, _, _ => trivial
 | .list k, x, y, z, h, h' => ⟨h'.1.trans h.1, fun i hi => Shp.trans (h.2 i hi) (h'.2 i (by rw [h.1]; exact hi))⟩
 | .pair a b, x, y, z, h, h' => ⟨Shp.trans h.1 h'.1, Shp.trans h.2 h'.2⟩
theorem Shp.setLeaves {d : Bool} {w : World} {k : K} : ∀ {us : List Value} {gs : List Sg} {Ms : List LT} {c : Nat} (x : k.T), c + us.length ≤ k.size → hasList k c us.length = false → LeavesAt d w k c gs Ms us → Shp k x (setLeaves k x c gs)
 | [], [], [], c, x, _, _, _ => Shp.refl k x
 | u :: us, s :: gs, M :: Ms, c, x, hc, hh, h => by
  simp only [List.length_cons, hasList, Bool.or_eq_false_iff, Bool.not_eq_false'] at hh
  simp only [List.length_cons] at hc
  obtain ⟨h1, h2, h3⟩ := h
  have a1 : Shp k x (Mach.setLeaf k x c s) := Shp.setLeaf x c s (by omega) h1 fun {k' z} hz => by
   have := leafV_list hz
   rw [this] at hh
   simp [K.flat] at hh
  exact a1.trans (Shp.setLeaves (gs := gs) (us := us) _ (by omega) hh.2 h3)
 | _ :: _, [], _, _, _, _, _, h => by cases ‹List LT› <;> simp [LeavesAt] at h
 | _ :: _, _ :: _, [], _, _, _, _, h => by simp [LeavesAt] at h
 | [], _ :: _, [], _, _, _, _, h => by simp [LeavesAt] at h
 | [], _ :: _, _ :: _, _, _, _, _, h => by simp [LeavesAt] at h
 | [], [], _ :: _, _, _, _, _, h => by simp [LeavesAt] at h
theorem set_back {α : Type} {l : List α} {i : Nat} {r : α} (h : l[i]? = some r) : l.set i r = l := by
 apply List.ext_getElem?
 intro j
 by_cases e : i = j
 ·subst e
  rw [List.getElem?_set_self (List.getElem?_eq_some_iff.1 h).1, h]
 ·rw [List.getElem?_set_ne e]
section ops
variable {P : Program} {n : Nat} {e : Env} {a : Act} {w : World} {G : Gh} {get : Nat → Slot} {o : Oper} {x : Ctx} {ws : Writes}
def setF (k : K) (new : List k.T) : (k' : K) → List k'.T → List k'.T := fun k' l' => (castL k new k').getD l'
theorem setF_at {k : K} {new : List k.T} {l : List k.T} : setF k new k l = new := by simp [setF, castL_self]
theorem store_elem {tm : Array Value} (h : Inv n e tm w G) {s j rv sv c i : Nat} {p : Path} {k0 k : K} {l0 : List k0.T} {l : List k.T} {deep d : Bool} (hc : (e.get s).cs[j]? = some (.own rv sv deep k0 l0)) (hpd : p = [] ∨ deep = true)
  (hl : getP k0 l0 p = ⟨k, l⟩) (hp : PathOk k0 l0 p) {b off cap : Nat} {rows : List LT} (hL : subL k0 (G.lt s j) p = .node b off cap rows) (hi : i < l.length) {us : List Value} (hcs : c + us.length ≤ k.size) (hone : ∀ u ∈ us, u.oneCell' = true)
  {gs : List Sg} {Ms : List LT} {H : List Nat} (hlv : LeavesAt d w k c gs Ms us) (hH : ∀ b ∈ H, Loose e G b ∧ G.ow b ≠ none) (hHo : ∀ b ∈ H, ∀ t, G.ow b = some t → t < e.length) (hnd : H.Nodup) (hfp : d = true → H = fpLeaves gs Ms) (hnone : ∀ b ∈ fpLeaves gs Ms, b ∈ H ∨ G.ow b = none) :
  ∃ w', (storeCells ⟨b, off + i * k.size + c, none⟩ us 0).run P w = .ok () w' ∧ w'.heap.size = w.heap.size ∧ SameEnv w w' ∧
   (hasList k c us.length = false → ∃ G', Inv n (e.set s { e.get s with cs := (e.get s).cs.set j (.own rv sv deep k0 (modP (setF k (l.set i (setLeaves k (l.getD i k.dflt) c gs))) k0 l0 p)) }) tm w' G' ∧ Held n e.length w w' G G') ∧
   ∃ G', Inv n (e.set s { e.get s with cs := (e.get s).cs.set j (.own rv (nextV p sv (e.get s).cnt) (deep && d) k0 (modP (setF k (l.set i (setLeaves k (l.getD i k.dflt) c gs))) k0 l0 p)), cnt := nextV p sv (e.get s).cnt + 1 }) tm w' G' ∧ Held n e.length w w' G G' := by
 obtain ⟨v, hv, hcell⟩ := h.val hc
 obtain ⟨hrep0, hin0⟩ := hcell
 obtain ⟨ow1, ow2, ow3⟩ := h.ownBlocks hc
 obtain ⟨v', rest, f1, f2, f3⟩ := focus2 (setF k (l.set i (setLeaves k (l.getD i k.dflt) c gs))) p k0 l0 (G.lt s j) v hrep0 hp hpd
 rw [hl] at f1 f2 f3
 simp only [hL, setF_at] at f1 f2 f3
 obtain ⟨b', off', cap', rows', r, vs, hLn, hvn, _, hrl, hr, hrow, hrepi⟩ := f1.elem hi
 simp only [LT.node.injEq] at hLn
 obtain ⟨rfl, rfl, rfl, rfl⟩ := hLn
 have hblk : ∃ cur ty fr, w.heap[b]? = some (.cells cur ty fr) := by
  rcases f1 with ⟨q, _⟩ | ⟨b', off', cap', rows', e1, _, _, _, _, h5, _⟩
  ·simp at q
  ·simp only [LT.node.injEq] at e1
   obtain ⟨rfl, rfl, rfl, rfl⟩ := e1
   obtain ⟨cc, tt, ff, q1, _⟩ := h5 rfl
   exact ⟨_, _, _, q1⟩
 obtain ⟨cur, ty, fr, hg⟩ := hblk
 have hbown : b ∈ ownB (.own rv sv deep k0 l0) (G.lt s j) := by
  cases deep with
  | true =>
   simp only [ownB]
   exact f2.mem_iff.2 (by simp [fp])
  | false =>
   rcases hpd with rfl | q
   ·simp only [subL] at hL
    rw [hL]
    simp [ownB, hdOf]
   ·simp at q
 have hbow : G.ow b = some s := ow1 b hbown
 have hndall : deep = true → (fp (.list k0) (G.lt s j)).Nodup := fun hd => by rw [hd] at ow3; exact ow3
 have hrest : deep = false → rest = [] := by
  intro hd
  rcases hpd with rfl | q
  ·simp only [subL] at hL
   have := f2.length_eq
   rw [getP_nil] at hl
   simp only [Sigma.mk.injEq] at hl
   obtain ⟨rfl, _⟩ := hl
   rw [hL, List.length_append] at this
   exact List.eq_nil_of_length_eq_zero (by omega)
  ·rw [hd] at q; simp at q
 have hinn : deep = false → ∀ b' ∈ rows.flatMap (fp k), G.ow b' = none := by
  intro hd b' hb'
  rcases hpd with rfl | q
  ·simp only [subL] at hL
   rw [getP_nil] at hl
   simp only [Sigma.mk.injEq] at hl
   obtain ⟨rfl, _⟩ := hl
   refine ow2 hd b' ?_
   rw [hL]
   exact hb'
  ·rw [hd] at q; simp at q
 have hbrows : b ∉ rows.flatMap (fp k) := by
  intro hb'
  cases hd : deep with
  | false => rw [hinn hd b hb'] at hbow; simp at hbow
  | true =>
   have := f2.nodup_iff.1 (hndall hd)
   simp only [fp, List.cons_append, List.nodup_cons, List.mem_append] at this
   exact this.1 (.inl hb')
 have hbrest : b ∉ rest := by
  intro hb'
  cases hd : deep with
  | false => rw [hrest hd] at hb'; simp at hb'
  | true =>
   have := f2.nodup_iff.1 (hndall hd)
   simp only [fp, List.cons_append, List.nodup_cons, List.mem_append] at this
   exact this.1 (.inr hb')
 have hfps : ∀ b' ∈ ownB (.own rv sv deep k0 l0) (G.lt s j), b' ∉ H := by
  intro b' hb' q
  have hne : (e.get s).sh ≠ .dead := fun q => by have := (h.slot s).dead q; rw [this] at hc; simp at hc
  refine (hH b' q).1 s ?_
  simp only [fpS, List.mem_append]
  right
  have := fpCells_mem (lt := G.lt s) (i := 0) hc (by simpa using hb')
  cases hq : (e.get s).sh <;> simp_all
 have hbl : b ∉ fpLeaves gs Ms := by
  intro hb'
  rcases hnone b hb' with q | q
  ·exact hfps b hbown q
  ·rw [q] at hbow; simp at hbow
 have hw' : ∀ b', b' ≠ b → (w.setRow b (setFrom cur.toList (off + i * k.size + c) us).toArray).heap[b']? = w.heap[b']? := fun b' hb' => setRow_other w b b' _ hb'
 have hsrest : Same w (w.setRow b (setFrom cur.toList (off + i * k.size + c) us).toArray) rest := fun b' hb' => hw' b' (by rintro rfl; exact hbrest hb')
 obtain ⟨_, hfit, hfro⟩ := repl_store (dd := false) f1 hi hcs hg hbrows hbl hlv (by simp) (by simp) hr
 have hrun := run_store_row P b (off + i * k.size + c) ty fr us 0 cur w hg (by simpa using hfit) (fun q g1 g2 => hfro q (by omega) (by omega)) hone
 simp only [Nat.add_zero] at hrun
 have hsame : ∀ b', b' ∉ ownB (.own rv sv deep k0 l0) (G.lt s j) → (w.setRow b (setFrom cur.toList (off + i * k.size + c) us).toArray).heap[b']? = w.heap[b']? := fun b' hb' => hw' b' (by rintro rfl; exact hb' hbown)
 refine ⟨_, hrun, by simp, ⟨rfl, rfl, rfl⟩, fun hfl => ?_, ?_⟩
 ·
  obtain ⟨Ms', m1, m2, m3, _⟩ := flat_leaves (w' := w) r hfl hlv
  obtain ⟨g1, _⟩ := repl_store (dd := deep) f1 hi hcs hg hbrows (by rw [m3]; simp) m1 (by simp) (by simp) hr
  obtain ⟨g2, g3⟩ := f3 _ _ deep hsrest g1
  rw [m2, set_back hr, ← hL, setSub_self p hrep0 hp] at g2
  have hshp : Shp (.list k0) l0 (modP (setF k (l.set i (setLeaves k (l.getD i k.dflt) c gs))) k0 l0 p) := by
   refine Shp.mod _ p hp ?_
   rw [hl]
   simp only [setF_at]
   exact Shp.set hi (Shp.setLeaves _ hcs hfl hlv)
  have hI := h.own (w' := w.setRow b (setFrom cur.toList (off + i * k.size + c) us).toArray) hc hv sv (e.get s).cnt deep _ (G.lt s j) [] [] (by simp) (fun b' h1 _ _ => hsame b' h1) (by simp) g2 (fun b' hb' => .inl (by cases deep <;> exact hb')) (by cases deep <;> exact ow3) (by simp)
   (fun hd b' hb' => .inl ⟨ow2 hd b' hb', by simp⟩) (by simp only [Shp] at hshp; exact hshp.1) rfl
   (.inl ⟨rfl, rfl, fun hd => ⟨hd, fun p1 k1 n1 hd1 hloc => by
    obtain ⟨y1, y2, y3, y4⟩ := hloc
    obtain ⟨z1, z2, z3⟩ := Shp.path p1 hshp y1
    exact ⟨z1, z2.trans y2, z3.trans y3, y4⟩⟩⟩)
  refine ⟨_, hI, ⟨fun b' q1 q2 => ⟨hsame b' fun q => by rw [ow1 b' q] at q1; simp at q1, ?_⟩, fun s' _ => ⟨fun _ => ⟨rfl, fun j' => by
   simp only [Gh.turn, upd]
   by_cases q1 : s' = s
   ·subst q1
    by_cases q2 : j' = j
    ·subst q2; simp [upd]
    ·simp [upd, q2]
   ·simp [q1]⟩, rfl⟩, fun b' t q1 q2 q3 => ⟨hsame b' fun q => by rw [ow1 b' q] at q1; simp only [Option.some.injEq] at q1; have := slot_alive hc; omega, by simp [Gh.turn, q1]⟩⟩⟩
  simp [Gh.turn, q1]
 ·
  have hg1 := (repl_store (dd := deep && d) f1 hi hcs hg hbrows hbl hlv (by simp; intro q _; exact q) (by simp) hr).1
  obtain ⟨g2, g3⟩ := f3 _ _ (deep && d) hsrest hg1
  obtain ⟨junk, hj⟩ := fp_store f1 hi hcs hlv hr
  have hT : (fpLeaves gs Ms ++ fp (.list k0) (G.lt s j)).Perm (fp (.list k0) (setSub k0 (G.lt s j) (.node b off cap (rows.set i (setLeavesL k r c Ms))) p) ++ junk) := by
   refine (List.Perm.append_left _ f2).trans ?_
   refine List.Perm.trans ?_ (g3.symm.append_right _)
   simp only [fp, List.cons_append]
   refine List.perm_middle.trans (List.Perm.cons b ?_)
   rw [← List.append_assoc]
   refine (hj.append_right _).trans ?_
   simp only [List.append_assoc]
   exact List.Perm.append_left _ List.perm_append_comm
  have hhd : hdOf (setSub k0 (G.lt s j) (.node b off cap (rows.set i (setLeavesL k r c Ms))) p) = hdOf (G.lt s j) := hdOf_setSub p hrep0 hp (by rw [hL]; rfl)
  have hkeep := fun hp0 => loc_keep1 (setF k (l.set i (setLeaves k (l.getD i k.dflt) c gs))) (M := .node b off cap (rows.set i (setLeavesL k r c Ms))) hrep0 p hp0 hp (by rw [hl]; simp only [setF_at]; simp) (by rw [hL]; rfl)
  generalize hL' : setSub k0 (G.lt s j) (.node b off cap (rows.set i (setLeavesL k r c Ms))) p = L' at g2 g3 hT hhd hkeep
  have hroot : ∀ b' ∈ (hdOf (G.lt s j)).toList.map (·.1), b' ∈ ownB (.own rv sv deep k0 l0) (G.lt s j) := by
   intro b' hb'
   cases deep with
   | true => simp only [ownB, fp_list]; exact List.mem_append_left _ hb'
   | false => exact hb'
  have hinner : ∀ b' ∈ inner k0 (G.lt s j), G.ow b' ≠ none → b' ∈ ownB (.own rv sv deep k0 l0) (G.lt s j) := by
   intro b' hb' hne
   cases hd : deep with
   | true => simp only [ownB, fp_list]; exact List.mem_append_right _ hb'
   | false => exact absurd (ow2 hd b' hb') hne
  have hfrom : ∀ b' ∈ fp (.list k0) L', G.ow b' ≠ none → b' ∈ ownB (.own rv sv deep k0 l0) (G.lt s j) ∨ b' ∈ H := by
   intro b' hb' hne
   have := hT.mem_iff.2 (List.mem_append_left _ hb')
   rw [List.mem_append] at this
   rcases this with q | q
   ·rcases hnone b' q with q | q
    ·exact .inr q
    ·exact absurd q hne
   ·rw [fp_list, List.mem_append] at q
    rcases q with q | q
    ·exact .inl (hroot b' q)
    ·exact .inl (hinner b' q hne)
  have hrin : ∀ b' ∈ (hdOf (G.lt s j)).toList.map (·.1), b' ∉ inner k0 L' := by
   intro b' hb' hin'
   have hown := hroot b' hb'
   have c1 : b' ∉ fpLeaves gs Ms := by
    intro q
    rcases hnone b' q with q | q
    ·exact hfps b' hown q
    ·rw [ow1 b' hown] at q; simp at q
   have c2 : b' ∉ inner k0 (G.lt s j) := by
    intro q
    cases hd : deep with
    | false => have := ow1 b' hown; rw [ow2 hd b' q] at this; simp at this
    | true =>
     have := hndall hd
     rw [fp_list, List.nodup_append] at this
     exact this.2.2 b' hb' b' q rfl
   have c3 : List.count b' ((hdOf (G.lt s j)).toList.map (·.1)) ≤ 1 := by
    cases hdOf (G.lt s j) with
    | none => simp
    | some q => simp [List.count_cons]; split <;> omega
   have e1 := hT.count_eq b'
   rw [List.count_append, List.count_append, fp_list, fp_list, hhd, List.count_append, List.count_append, List.count_eq_zero_of_not_mem c1, List.count_eq_zero_of_not_mem c2] at e1
   have := List.count_pos_iff.2 hin'
   omega
  have hdd : (deep && d) = true → deep = true ∧ d = true := by simp
  have hI := h.own (w' := w.setRow b (setFrom cur.toList (off + i * k.size + c) us).toArray) hc hv (nextV p sv (e.get s).cnt) (nextV p sv (e.get s).cnt + 1) (deep && d) _ L' H (if (deep && d) = true then [] else (inner k0 L').filter fun b' => (G.ow b').isSome) (by simp) (fun b' h1 _ _ => hsame b' h1)
   (fun b' hb' => ⟨(hH b' hb').1, .inl (hH b' hb').2, by
    cases q : G.ow b' with
    | none => exact absurd q (hH b' hb').2
    | some s' => have := h.lt b' s' q; simpa using this⟩) g2
   (fun b' hb' => by
    cases hq : (deep && d) with
    | true =>
     rw [hq] at hb'
     obtain ⟨q1, q2⟩ := hdd hq
     simp only [ownB] at hb'
     have := hT.mem_iff.2 (List.mem_append_left _ hb')
     rw [List.mem_append] at this
     rcases this with q | q
     ·exact .inr (by rw [hfp q2]; exact q)
     ·left; rw [q1]; exact q
    | false =>
     rw [hq] at hb'
     simp only [ownB, hhd] at hb'
     exact .inl (hroot b' hb'))
   (by
    cases hq : (deep && d) with
    | true =>
     obtain ⟨q1, q2⟩ := hdd hq
     simp only [ownB]
     have : (fpLeaves gs Ms ++ fp (.list k0) (G.lt s j)).Nodup := by
      rw [← hfp q2, List.nodup_append]
      refine ⟨hnd, hndall q1, fun b1 h1 b2 h2 heq => ?_⟩
      subst heq
      exact hfps b1 (by rw [q1]; exact h2) h1
     exact (List.nodup_append.1 (hT.nodup_iff.1 this)).1
    | false =>
     simp only [ownB]
     cases hdOf L' <;> simp)
   (fun b' hb' => by
    split at hb'
    ·simp at hb'
    ·rename_i hq
     rw [List.mem_filter] at hb'
     obtain ⟨q1, q2⟩ := hb'
     have hne : G.ow b' ≠ none := by intro q; rw [q] at q2; simp at q2
     refine ⟨hfrom b' (by rw [fp_list]; exact List.mem_append_right _ q1) hne, fun q => ?_⟩
     have hq' : (deep && d) = false := by simpa using hq
     rw [hq'] at q
     simp only [ownB, hhd] at q
     exact hrin b' q q1)
   (fun hq b' hb' => by
    rw [if_neg (by rw [hq]; simp)]
    cases q : G.ow b' with
    | none => exact .inl ⟨rfl, fun q' => (hH b' q').2 q⟩
    | some s' => exact .inr (List.mem_filter.2 ⟨hb', by rw [q]; rfl⟩))
   (modP_length _ p (by rw [hl]; simp only [setF_at]; simp)) hhd (.inr ⟨(nextV_ok p sv _).1, Nat.lt_succ_self _, (nextV_ok p sv _).2.imp (fun q => q) fun q => ⟨q.2, fun q' => ⟨(hdd q').1, hkeep q.1⟩⟩⟩)
  refine ⟨_, hI, ⟨fun b' q1 q2 => ⟨hsame b' fun q => by rw [ow1 b' q] at q1; simp at q1, ?_⟩, fun s' _ => ⟨fun _ => ⟨rfl, fun j' => by
   simp only [Gh.turn, upd]
   by_cases q1 : s' = s
   ·subst q1
    by_cases q2 : j' = j
    ·subst q2; simp [upd, hhd]
    ·simp [upd, q2]
   ·simp [q1]⟩, rfl⟩, fun b' t q1 q2 q3 => ?out⟩⟩
  case out =>
   have hno : b' ∉ ownB (.own rv sv deep k0 l0) (G.lt s j) := fun q => by rw [ow1 b' q] at q1; simp only [Option.some.injEq] at q1; have := slot_alive hc; omega
   have hnH : b' ∉ H := fun q => by have := hHo b' q t q1; omega
   refine ⟨hsame b' hno, ?_⟩
   simp only [Gh.turn, if_neg hnH]
   rw [if_neg]
   ·exact q1
   ·intro q
    split at q
    ·simp at q
    ·rw [List.mem_filter] at q
     rcases hfrom b' (by rw [fp_list]; exact List.mem_append_right _ q.1) (by rw [q1]; simp) with g | g
     ·exact hno g
     ·exact hnH g
  have : b' ∉ H := fun q => (hH b' q).2 q1
  simp only [Gh.turn, if_neg this, q1, ite_self]
end ops
end Go.Mach
namespace Go.Mach
set_option linter.unusedVariables false
set_option linter.unusedSimpArgs false
section ops
variable {P : Program} {n : Nat} {e : Env} {a : Act} {w : World} {G : Gh} {get : Nat → Slot} {o : Oper} {x : Ctx} {ws : Writes}
theorem sound_store {ty : TypeId} {y z : Operand} (hty : ∀ t, x.ty t = tyOf P t) (hxn : x.n = n) (hb : Begin n e a w G get o) (ho : o.op = .store ty y z) (h : act x get o = some ws) : Sound P n e a w G o ws := by
 simp only [act, ho] at h
 split at h
 ·rename_i ca v hca hv
  split at h
  ·rename_i hq
   obtain ⟨q1, q2, q3⟩ := hq
   split at h
   ·rename_i t1 hst
    simp only [Option.some.injEq] at h
    rw [hty] at q1 q2
    obtain ⟨i, dsc, hi, hu, _⟩ := ty_ok q1
    obtain ⟨L, hcell, _⟩ := hb.one (by simp [ho, Op.operands]) hca
    obtain ⟨vs, Ls, hval⟩ := hb.opd (by simp [ho, Op.operands]) hv
    obtain ⟨hcells, hone⟩ := form_cells (n := n) (tm := a.tmps) hb.sees hval q3
    have hvl : vs.length = (tyOf P ty).size := by rw [hval.cells.len, q2]
    have fin : ∀ (b o' : Nat) (w' : World) (e' : Env) (G' : Gh), a.eval y = .pointer (some ⟨b, o', none⟩) → (storeCells ⟨b, o', none⟩ vs 0).run P w = .ok () w' → Inv n e' a.tmps w' G' → TrOk e t1 e' → t1.d = o.dst →
      Held n e.length w w' G G' → w'.heap.size = w.heap.size → SameEnv w w' → Sound P n e a w G o ws := by
     intro b o' w' e' G' hp hrun hinv htr hd hstill hsz hse
     obtain ⟨G'', hpost⟩ := lay_skip (a := a) (w := w) (G0 := G) hinv htr hstill (by omega) (by rw [hd]; exact hb.inb.dst) hse
     rw [hd, h] at hpost
     refine Sound.skip ?_ hpost
     simp only [execOp, ho, hp]
     have := run_storeAt hi hcells hvl hrun
     rw [Sem.run_bind, this]
     rfl
    cases ca with
    | bptr s bv j =>
     simp only [storeC] at hst
     split at hst
     ·rename_i hz
      simp only [Option.some.injEq] at hst
      obtain ⟨e1, H, Ls', ht⟩ := take_ok (x.vs (some s)) v.2 hb.inv hb.tr hval.cells hval.noOwn
      obtain ⟨z1, z2, z3⟩ := hz
      have hseen : (Tr.at (Tr.take (x.vs (some s)) { get, d := o.dst } v.2).1 s) = e1.get s := by
       rcases ht.tr.sees s with q | q
       ·exact q
       ·rw [q] at z1; simp at z1
      rw [hseen] at z1 z2 hst
      have hsh : (e.get s).sh = .box bv := by rw [← ht.ext.sh]; exact z1
      obtain ⟨w', G', k1, k2, k3, k4, k5⟩ := store_box hb ht hsh z2 hone (by rw [← hxn]; exact z3)
      have hs : s < e1.length := by
       rcases Nat.lt_or_ge s e1.length with q | q
       ·exact q
       ·rw [get_out (by omega)] at z1; simp at z1
      refine fin (G.bk s) j w' _ G' (hcell.2.1 hsh) k1 k2 ?_ ?_ (by rw [← ht.ext.len]; exact k3) k4 k5
      ·rw [← hst]
       have := ht.tr.put { e1.get s with cs := setFrom (e1.get s).cs j ((Tr.take (x.vs (some s)) { get, d := o.dst } v.2).2.map (layC (e1.get s).cnt)), cnt := (e1.get s).cnt + 1 } hs
       rw [← layFun] at this ⊢
       exact this
      ·rw [← hst]
       exact take_d _ _ _
     ·simp at hst
    | aptr s j rv sv p i' c k =>
     simp only [storeC] at hst
     split at hst
     ·simp at hst
     ·rename_i t2 gs d hgr
      obtain ⟨e1, G1, H, Ms, hg⟩ := grabs_ok k v.2 hb.inv hb.tr hval.cells hval.noOwn hgr
      split at hst
      ·rename_i rv' sv' deep k0 l0 hcell0
       split at hst
       ·rename_i hcond
        obtain ⟨c1, c2, c3⟩ := hcond
        split at hst
        ·simp at hst
        ·rename_i l hl
         split at hst
         ·rename_i hil
          have hl : getP k0 l0 p = ⟨k, l⟩ := castL_some hl
          obtain ⟨s1, s2⟩ := hg.tr.cell hcell0 (by simp)
          subst c1
          have hcell1 := hg.ext.cell _ _ _ (by rfl) hcell
          obtain ⟨_, _, _, hfit⟩ := hcell1
          obtain ⟨nn, b, off, cap, ⟨l1, l2, l3, l4⟩, l5, l6⟩ := hfit sv' deep k0 l0 (getD_some s2 _) c2
          rw [hl] at l2 l3
          have hLn : ∃ rows, subL k0 (G1.lt s j) p = .node b off cap rows := by
           cases hq : subL k0 (G1.lt s j) p with
           | node b' off' cap' rows =>
            rw [hq] at l4
            simp only [hdOf, Option.some.injEq, Prod.mk.injEq] at l4
            obtain ⟨rfl, rfl, rfl⟩ := l4
            exact ⟨rows, rfl⟩
           | _ => rw [hq] at l4; simp [hdOf] at l4
          obtain ⟨rows, hLn⟩ := hLn
          have hpd : p = [] ∨ deep = true := c2.imp id And.right
          have hlen2 : v.2.length = vs.length := hval.cells.len.symm
          rw [hlen2] at c3 hst
          obtain ⟨w', k1, k2, k5, k3, k4⟩ := store_elem (P := P) hg.inv s2 hpd hl l1 hLn hil c3 hone hg.leaves (fun b hb' => ⟨(hg.hand.mem b hb').1, (hg.hand.mem b hb').2.1⟩) (hg.hand.owner hb.inv hg.ext) hg.hand.nodup hg.fp hg.none
          have hs : s < e1.length := slot_alive s2
          have hst1 : Held n e.length w w G G1 := hg.ext.held hb.inv
          have comp : ∀ G' : Gh, Held n e1.length w w' G1 G' → Held n e.length w w' G G' := fun G' q => hst1.trans (by rw [← hg.ext.len]; exact q)
          rw [s1] at hst
          split at hst
          ·rename_i hhl
           simp only [Option.some.injEq] at hst
           obtain ⟨G', m1, m2⟩ := k4
           refine fin b _ w' _ G' l6 k1 m1 ?_ ?_ (comp G' m2) k2 k5
           ·rw [← hst]
            exact hg.tr.put _ hs
           ·rw [← hst]
            exact grabs_d _ hgr
          ·rename_i hhl
           simp only [Option.some.injEq] at hst
           obtain ⟨G', m1, m2⟩ := k3 (by simpa using hhl)
           refine fin b _ w' _ G' l6 k1 m1 ?_ ?_ (comp G' m2) k2 k5
           ·rw [← hst]
            exact hg.tr.put _ hs
           ·rw [← hst]
            exact grabs_d _ hgr
         ·simp at hst
       ·simp at hst
      ·simp at hst
    | _ => simp [storeC] at hst
   ·simp at h
  ·simp at h
 ·simp at h
end ops
end Go.Mach
namespace Go.Mach
set_option linter.unusedVariables false
set_option linter.unusedSimpArgs false
structure Src (P : Program) (w : World) (k : K) (ys : List k.T) (d : Bool) (vy : Value) (cells : List Value) (rows : List LT) : Prop where
 lenOf : ∀ w2 : World, (Builtin.lenOf vy).run P w2 = .ok ys.length w2
 first : ∀ w2 : World, w2.heap = w.heap → (Builtin.firstCells k.size ys.length vy).run P w2 = .ok cells.toArray w2
 len : cells.length = ys.length * k.size
 one : ∀ u ∈ cells, u.oneCell' = true
 rlen : rows.length = ys.length
 rep : ∀ (i : Nat) y r, ys[i]? = some y → rows[i]? = some r → ∃ vs, (∀ (c : Nat) u, vs[c]? = some u → cells[i * k.size + c]? = some u) ∧ Rep d w k y r vs
theorem run_append_in {P : Program} {at0 : Array TypeId} {t0 t1 ty el : TypeId} {d1 : TypeDesc} (h0 : at0[0]? = some t0) (h1 : at0[1]? = some t1) (hu : P.underlying t0 = some (.slice el)) (hu1 : P.underlying t1 = some d1) (hd1 : (∃ e1, d1 = .slice e1) ∨ d1 = .string)
  {i : TypeInfo} (hi : P.info? el = some i) {w : World} {base : Option Addr} {sLen sCap m : Nat} {vy : Value} {cells : List Value} (hl : (Builtin.lenOf vy).run P w = .ok m w)
  (hf : (Builtin.firstCells i.size m vy).run P w = .ok cells.toArray w) (hroom : sLen + m ≤ sCap) {w' : World}
  (hst : ∀ a, base = some a → (storeCells (a.add (sLen * i.size)) cells 0).run P w = .ok () w') (hn : base = none → w' = w) :
  (Builtin.append_ at0 ty #[.slice base sLen sCap, vy]).run P w = .ok (.slice base (sLen + m) sCap) w' := by
 cases base with
 | none =>
  rw [hn rfl]
  rcases hd1 with ⟨e1, rfl⟩ | rfl <;> simp [Builtin.append_, h0, h1, Go.run_underlying hu, Go.run_underlying hu1, sizeOf, typeInfo, hi, hl, hroom, hf]
 | some a =>
  have := hst a rfl
  rcases hd1 with ⟨e1, rfl⟩ | rfl <;> simp [Builtin.append_, h0, h1, Go.run_underlying hu, Go.run_underlying hu1, sizeOf, typeInfo, hi, hl, hroom, hf, this]
theorem run_append_out {P : Program} {at0 : Array TypeId} {t0 t1 ty el : TypeId} {d1 : TypeDesc} (h0 : at0[0]? = some t0) (h1 : at0[1]? = some t1) (hu : P.underlying t0 = some (.slice el)) (hu1 : P.underlying t1 = some d1) (hd1 : (∃ e1, d1 = .slice e1) ∨ d1 = .string)
  {i : TypeInfo} (hi : P.info? el = some i) {z : Value} (hz : i.zero = some z) {w : World} {base : Option Addr} {sLen sCap m : Nat} {vy : Value} {olds cells : List Value} (hl : (Builtin.lenOf vy).run P w = .ok m w)
  (hfo : (Builtin.firstCells i.size sLen (.slice base sLen sCap)).run P w.drew = .ok olds.toArray w.drew)
  (hf : (Builtin.firstCells i.size m vy).run P w.drew = .ok cells.toArray w.drew) (hroom : ¬ sLen + m ≤ sCap) (h63 : ((sLen + m : Nat) : Int) ≤ 9223372036854775807) (hfit : Builtin.nextslicecap (sLen + m) sCap * i.bytes ≤ 281474976710656) :
  (Builtin.append_ at0 ty #[.slice base sLen sCap, vy]).run P w = .ok (.slice (some ⟨w.heap.size, 0, none⟩) (sLen + m) (grownCap w (sLen + m) sCap el))
    (w.drew.alloc (.cells (olds.toArray ++ cells.toArray ++ Builtin.zeroCells z.cells (grownCap w (sLen + m) sCap el - (sLen + m))) el)) := by
 have h63' : ¬ (9223372036854775807 < ((sLen : Int) + (m : Int))) := by omega
 have h48' : ¬ (281474976710656 < Builtin.nextslicecap (sLen + m) sCap * i.bytes) := by omega
 rcases hd1 with ⟨e1, rfl⟩ | rfl <;> simp [Builtin.append_, h0, h1, Go.run_underlying hu, Go.run_underlying hu1, sizeOf, typeInfo, zeroValue, hi, hz, hl, hroom, h63', h48', Question.forced, hf, hfo, newRow, grownCap] <;> (congr 2; apply Array.ext'; simp [List.append_assoc])
def rowsOf : LT → List LT
 | .node _ _ _ rs => rs
 | _ => []
theorem repl_append {P : Program} {w w' : World} {k : K} {l ys : List k.T} {L : LT} {v vy : Value} {dr d0 d dd : Bool} {cells olds : List Value} {rows : List LT} (h : RepL dr w k.size (Rep d0 w k) l L v) (hsrc : Src P w k ys d vy cells rows)
  (ho : olds.length = l.length * k.size)
  (hold : ∀ b' off cap' rows, L = .node b' off cap' rows → rows.length = l.length ∧ ∀ (i : Nat) x r, l[i]? = some x → rows[i]? = some r → ∃ vs, (∀ (c : Nat) u, vs[c]? = some u → olds[i * k.size + c]? = some u) ∧ Rep d0 w k x r vs)
  (h0 : dd = true → d0 = true) (h1 : dd = true → d = true) {b off cap : Nat}
  (hcell : ∀ (q : Nat) u, (olds ++ cells)[q]? = some u → w'.cell? ⟨b, off + q, none⟩ = some u) (hblk : w'.heap[b]? ≠ none) (hroom : Room w' b (off + cap * k.size)) (hcap : l.length + ys.length ≤ cap)
  (hs : Same w w' ((rowsOf L).flatMap (fp k))) (hs' : Same w w' (rows.flatMap (fp k))) :
  RepL true w' k.size (Rep dd w' k) (l ++ ys) (.node b off cap (rowsOf L ++ rows)) (.slice (some ⟨b, off, none⟩) (l.length + ys.length) cap) := by
 have hrl : (rowsOf L).length = l.length := by
  cases L with
  | node b' off' cap' rs => exact (hold _ _ _ _ rfl).1
  | _ =>
   rcases h with ⟨_, rfl, _⟩ | ⟨_, _, _, _, q, _⟩
   ·rfl
   ·simp at q
 refine .inr ⟨b, off, cap, _, rfl, by simp, by simpa using hcap, by simp [hrl, hsrc.rlen], hblk, fun _ => hroom, fun i x r hx hr => ?_⟩
 have to : ∀ {dx : Bool} {x : k.T} {r : LT} {vs : List Value}, Rep dx w k x r vs → Same w w' (fp k r) → (dd = true → dx = true) → Rep dd w' k x r vs := by
  intro dx x r vs hrep hsm hdx
  have := hrep.same hsm
  cases dx with
  | true => exact this.any dd
  | false => cases dd with
   | true => simp at hdx
   | false => exact this
 by_cases hi : i < l.length
 ·rw [List.getElem?_append_left hi] at hx
  rw [List.getElem?_append_left (by omega)] at hr
  cases L with
  | node b' off' cap' rs =>
   obtain ⟨vs, q1, q2⟩ := (hold _ _ _ _ rfl).2 i x r hx hr
   refine ⟨vs, fun c u hu => ?_, to q2 (fun b1 hb1 => hs b1 (List.mem_flatMap.2 ⟨r, List.mem_of_getElem? hr, hb1⟩)) h0⟩
   rw [Nat.add_assoc]
   refine hcell _ u ?_
   have := q1 c u hu
   rw [List.getElem?_append_left (List.getElem?_eq_some_iff.1 this).1]
   exact this
  | _ => simp [rowsOf] at hr
 ·rw [List.getElem?_append_right (by omega)] at hx
  rw [List.getElem?_append_right (by omega), hrl] at hr
  obtain ⟨vs, q1, q2⟩ := hsrc.rep _ x r hx hr
  refine ⟨vs, fun c u hu => ?_, to q2 (fun b1 hb1 => hs' b1 (List.mem_flatMap.2 ⟨r, List.mem_of_getElem? hr, hb1⟩)) h1⟩
  rw [Nat.add_assoc]
  refine hcell _ u ?_
  have := q1 c u hu
  have hik : i * k.size = l.length * k.size + (i - l.length) * k.size := by rw [← Nat.add_mul]; congr 1; omega
  rw [List.getElem?_append_right (by omega), ho, ← this]
  congr 1
  omega
end Go.Mach
