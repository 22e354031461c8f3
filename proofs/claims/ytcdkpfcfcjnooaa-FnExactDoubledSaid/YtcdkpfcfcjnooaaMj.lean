/- The machine, part j: operations that compute and read. No condition: lemmas. -/
import Derived.Test.YtcdkpfcfcjnooaaMi
import Derived.Laws.CopyRow
import Derived.Laws.Entries
import Derived.Laws.Strings
import Derived.Laws.Concat
namespace Go.Mach
set_option linter.unusedVariables false
set_option linter.unusedSimpArgs false

/-! ### Types -/
theorem ty_slice {P : Program} {t e : Nat} (h : (tyOf P t).d = .slice e) : P.underlying t = some (.slice e) := by
  unfold tyOf at h
  split at h
  · simp only [tyD] at h
    split at h <;> simp_all
  · simp at h

theorem ty_arr {P : Program} {t m e : Nat} (h : (tyOf P t).d = .arr m e) : P.underlying t = some (.array m e) := by
  unfold tyOf at h
  split at h
  · simp only [tyD] at h
    split at h <;> simp_all
  · simp at h

theorem ty_struct {P : Program} {t : Nat} {fs : List (Nat × Nat)} (h : (tyOf P t).d = .struct fs) : ∃ fields, P.underlying t = some (.struct fields) ∧ fs = fields.toList.map fun f => (f.offset, f.type) := by
  unfold tyOf at h
  split at h
  · simp only [tyD] at h
    split at h <;> simp_all
  · simp at h

theorem ty_info {P : Program} {t : Nat} {d : TypeDesc} (h : P.underlying t = some d) : ∃ i, P.info? t = some i := by
  unfold Program.underlying at h
  cases hi : P.info? t with
  | none => rw [hi] at h; simp at h
  | some i => exact ⟨i, rfl⟩

theorem ty_size {P : Program} {t : Nat} {i : TypeInfo} (h : P.info? t = some i) : (tyOf P t).size = i.size ∧ P.cellsOf t = i.size ∧ (tyOf P t).bytes = i.bytes ∧ (tyOf P t).zero = i.zero := by
  simp [tyOf, h, Program.cellsOf]

theorem ty_k {P : Program} {t : Nat} {k : K} (h : (tyOf P t).k = some k) : ∃ i, P.info? t = some i ∧ i.size = k.size := by
  unfold tyOf at h
  cases hi : P.info? t with
  | none => rw [hi] at h; simp at h
  | some i =>
    rw [hi] at h
    simp only at h
    split at h
    · split at h
      · rename_i q
        simp only [Option.some.injEq] at h
        subst h
        exact ⟨i, rfl, q.symm⟩
      · simp at h
    · simp at h

theorem ty_size_info {P : Program} {t : Nat} (h : (tyOf P t).size ≠ 0) : ∃ i, P.info? t = some i := by
  cases hi : P.info? t with
  | none => simp [tyOf, hi] at h
  | some i => exact ⟨i, rfl⟩

theorem ty_ok {P : Program} {t : Nat} (h : (tyOf P t).ok = true) : ∃ i d, P.info? t = some i ∧ P.underlying t = some d ∧ ((tyOf P t).agg = false → i.size = 1) ∧ (isAgg t).run P = fun w => .ok (tyOf P t).agg w := by
  cases hi : P.info? t with
  | none => simp [tyOf, hi] at h
  | some i =>
    cases hu : P.underlying t with
    | none => simp [tyOf, hi, hu] at h
    | some d =>
      refine ⟨i, d, rfl, rfl, fun ha => ?_, ?_⟩
      · cases d <;> simp_all [tyOf, Ti.agg, tyD]
      · funext w
        have hd : (tyOf P t).d = tyD P t := by simp [tyOf, hi]
        simp only [isAgg, Sem.run_bind, Go.run_underlying hu, Result.andThen_ok, Ti.agg, hd, tyD, hu]
        cases d <;> rfl

theorem run_size {P : Program} {t : Nat} {i : TypeInfo} (h : P.info? t = some i) (w : World) : (sizeOf t).run P w = .ok (tyOf P t).size w := by
  rw [(ty_size h).1]
  simp [sizeOf, typeInfo, program, Sem.run_bind, h, Sem.run]

theorem run_und {P : Program} {t : Nat} {d : TypeDesc} (h : P.underlying t = some d) (w : World) : (underlying t).run P w = .ok d w := Go.run_underlying h w

theorem run_v {P : Program} {s : Sem Value} {w w' : World} {u : Value} (h : s.run P w = .ok u w') : (do pure (Next.value (← s)) : Sem Next).run P w = .ok (.value u) w' := by
  rw [Sem.run_bind, h]
  rfl

section ops
variable {P : Program} {n : Nat} {e : Env} {a : Act} {w : World} {G : Gh} {get : Nat → Slot} {o : Oper} {x : Ctx} {ws : Writes}

theorem nilCheck_ptr {y : Operand} (hb : Begin n e a w G get o) (ho : o.op = .nilCheck y) {c : C} (hc : opd get y = some (.one, [c])) {b : Addr} (hv : a.eval y = .pointer (some b))
    (h : some (Tr.lay { get, d := o.dst } o.dst (.one, [c])).ws = some ws) : Sound P n e a w G o ws := by
  obtain ⟨vs, Ls, hval⟩ := hb.opd (by simp [ho, Op.operands]) hc
  obtain ⟨G', hp⟩ := hb.done hval h
  refine Sound.value ?_ hp
  simp only [execOp, ho, hv]
  rfl

theorem bytes_list (l : List UInt8) : ByteArray.toList ⟨⟨l⟩⟩ = l := by
  have := ByteArray.toList_loop_eq ⟨⟨l⟩⟩ _ 0 [] rfl (Nat.zero_le _)
  rw [ByteArray.toList, this]
  simp

theorem bytes_append (l m : List UInt8) : (⟨⟨l⟩⟩ : ByteArray) ++ ⟨⟨m⟩⟩ = ⟨⟨l ++ m⟩⟩ := by
  exact ByteArray.mk_append_mk l m

theorem bytes_size (l : List UInt8) : ByteArray.size ⟨⟨l⟩⟩ = l.length := rfl

theorem ty_bool {P : Program} {t : Nat} (h : (tyOf P t).isB = true) : P.underlying t = some .bool := by
  unfold tyOf at h
  split at h
  · simp only at h
    split at h
    · assumption
    · simp at h
  · simp at h

theorem ty_str {P : Program} {t : Nat} (h : (tyOf P t).isS = true) : P.underlying t = some .string := by
  unfold tyOf at h
  split at h
  · simp only at h
    split at h
    · assumption
    · simp at h
  · simp at h

theorem run_eqIn_bool {P : Program} {t : Nat} (hu : P.underlying t = some .bool) (w : World) (d : Nat) (p q : Bool) : (Op.equalIn (d + 1) t (.bool p) (.bool q)).run P w = .ok (p == q) w := by
  rw [Op.equalIn.eq_def]
  simp only [Sem.run_bind, run_und hu, Result.andThen_ok]
  rfl

theorem run_eq_bool {P : Program} {t : Nat} (hu : P.underlying t = some .bool) (w : World) (p q : Bool) : (Op.equal t (.bool p) (.bool q)).run P w = .ok (p == q) w := run_eqIn_bool hu w 9999 p q

theorem bin_ok {op : BinOp} {c d c' : C} {u v : Value} {L M : LT} (hc : CellOk e w G c u L) (hd : CellOk e w G d v M) (t : TypeId) {tk : Bool} (ht : tk = true → P.underlying t = some .bool) (h : bin tk op c d = some c') (y z : Operand) :
    ∃ r, (do eqGuard op t y z u v; binOp op t u v : Sem Value).run P w = .ok r w ∧ CellOk e w G c' r .leaf ∧ c'.isOwn = false := by
  unfold bin at h
  split at h
  · rename_i k p k' q
    rw [dat_int hc, dat_int hd]
    split at h
    · simp only [shiftI] at h
      split at h
      · simp at h
      · rename_i hq
        simp only [Option.some.injEq] at h
        subst h
        exact ⟨_, by simp [eqGuard, binOp, Op.shift, hq, Sem.run_bind], int_ok _ _ _ _ _, rfl⟩
    · simp only [shiftI] at h
      split at h
      · simp at h
      · rename_i hq
        simp only [Option.some.injEq] at h
        subst h
        exact ⟨_, by simp [eqGuard, binOp, Op.shift, hq, Sem.run_bind], int_ok _ _ _ _ _, rfl⟩
    · split at h
      · rename_i hk
        subst hk
        cases op <;> simp only [binI] at h <;> try (simp at h; done)
        all_goals try (split at h <;> try (simp at h; done))
        all_goals (simp only [Option.some.injEq] at h; subst h)
        all_goals first
          | exact ⟨_, by simp [eqGuard, binOp, Op.intArith, Op.intDiv, Op.intBits, Op.intCmp, Sem.run_bind, *], int_ok _ _ _ _ _, rfl⟩
          | exact ⟨_, by simp [eqGuard, binOp, Op.intArith, Op.intDiv, Op.intBits, Op.intCmp, Sem.run_bind, *]; rfl, bool_ok _ _ _ _, rfl⟩
          | exact ⟨_, by simp [eqGuard, binOp, Op.intArith, Op.intDiv, Op.intBits, Op.intCmp, Sem.run_bind, *], bool_ok _ _ _ _, rfl⟩
      · simp at h
  · rename_i p q
    rw [dat_bool hc, dat_bool hd]
    split at h
    · rename_i hk
      have hu := ht hk
      have he := run_eq_bool (P := P) hu w
      cases op <;> simp only [binB] at h <;> try (simp at h; done)
      all_goals (simp only [Option.some.injEq] at h; subst h)
      · exact ⟨_, by simp [eqGuard, binOp, Sem.run_bind, he], bool_ok _ _ _ _, rfl⟩
      · exact ⟨_, by simp [eqGuard, binOp, Sem.run_bind, he], bool_ok _ _ _ _, rfl⟩
    · simp at h
  · rename_i p q
    rw [dat_str hc, dat_str hd]
    cases op <;> simp only [binS] at h <;> try (simp at h; done)
    · split at h
      · rename_i hl
        simp only [Option.some.injEq] at h
        subst h
        refine ⟨_, ?_, str_ok _ _ _ _, rfl⟩
        have : ¬ (((⟨⟨p⟩⟩ : ByteArray).size + (⟨⟨q⟩⟩ : ByteArray).size : Nat) : Int) > IntKind.i64.max := by
          rw [bytes_size, bytes_size]
          simp only [strMost] at hl
          have : IntKind.i64.max = 9223372036854775807 := by decide
          rw [this]
          omega
        simp only [eqGuard, binOp, Op.stringOp, Sem.run_bind, if_neg this, bytes_append]
        rfl
      · simp at h
    all_goals (simp only [Option.some.injEq] at h; subst h)
    · exact ⟨_, by simp only [eqGuard, binOp, Op.stringOp, bytes_list, Sem.run_bind]; rfl, bool_ok _ _ _ _, rfl⟩
    · exact ⟨_, by simp only [eqGuard, binOp, Op.stringOp, bytes_list, Sem.run_bind]; rfl, bool_ok _ _ _ _, rfl⟩
  · simp at h

theorem un_ok {op : UnOp} {c c' : C} {u : Value} {L : LT} (hc : CellOk e w G c u L) (h : un op c = some c') : ∃ r, (Op.unary op u).run P w = .ok r w ∧ CellOk e w G c' r .leaf ∧ c'.isOwn = false := by
  unfold un at h
  split at h
  · simp only [Option.some.injEq] at h
    subst h
    rw [dat_bool hc]
    exact ⟨_, rfl, bool_ok _ _ _ _, rfl⟩
  · simp only [Option.some.injEq] at h
    subst h
    rw [dat_int hc]
    exact ⟨_, rfl, int_ok _ _ _ _ _, rfl⟩
  · simp at h

end ops

end Go.Mach
