/- The machine, part nm: structs of whole numbers compared; the machine's book is sound. No condition: lemmas. -/
import Derived.Test.YtcdkpfcfcjnooaaNl
import Derived.Laws.StructEq
namespace Go.Mach
set_option linter.unusedVariables false
set_option linter.unusedSimpArgs false

theorem sameCs_cons {c : C} {cs es : List C} {b : Bool} (h : sameCs (c :: cs) es = some b) : ∃ k p q ds b', c = .dat (.int k) p ∧ es = .dat (.int k) q :: ds ∧ sameCs cs ds = some b' ∧ b = ((p == q) && b') := by
  cases es with
  | nil => cases c with
    | dat k x => cases k <;> simp [sameCs] at h
    | _ => simp [sameCs] at h
  | cons d ds =>
    cases c with
    | dat k x =>
      cases k with
      | int k =>
        cases d with
        | dat k' y =>
          cases k' with
          | int k' =>
            simp only [sameCs] at h
            split at h
            · rename_i hk
              subst hk
              cases hq : sameCs cs ds with
              | none => rw [hq] at h; simp at h
              | some r =>
                rw [hq] at h
                simp only [Option.map_some, Option.some.injEq] at h
                exact ⟨_, _, _, _, _, rfl, rfl, hq, h.symm⟩
            · simp at h
          | _ => simp [sameCs] at h
        | _ => simp [sameCs] at h
      | _ => simp [sameCs] at h
    | _ => simp [sameCs] at h

theorem sameCs_nil {es : List C} {b : Bool} (h : sameCs [] es = some b) : es = [] ∧ b = true := by
  cases es with
  | nil => simp only [sameCs, Option.some.injEq] at h; exact ⟨rfl, h.symm⟩
  | cons d ds => simp [sameCs] at h

theorem sameCs_len : ∀ {cs ds : List C} {b : Bool}, sameCs cs ds = some b → ds.length = cs.length
  | [], ds, b, h => by rw [(sameCs_nil h).1]
  | c :: cs, ds, b, h => by
    obtain ⟨k, p, q, ds', b', _, rfl, h1, _⟩ := sameCs_cons h
    simp [sameCs_len h1]

section
variable {P : Program} {e : Env} {w : World} {G : Gh}

theorem part_int {t : Nat} {k : IntKind} (hu : P.underlying t = some (.int k)) {inf : TypeInfo} (hi : P.info? t = some inf) (hs : inf.size = 1) (vs : List Value) (i : Nat) (v : Value) (hv : vs[i]? = some v) (w : World) :
    (part t vs.toArray i).run P w = .ok v w := by
  have hok : (tyOf P t).ok = true := by simp [tyOf, hi, hu, hs]
  have hsz : (tyOf P t).size = 1 := by simp [tyOf, hi, hs]
  have hag : (tyOf P t).agg = false := by simp [Ti.agg, tyOf, hi, tyD, hu]
  have hil : i < vs.length := (List.getElem?_eq_some_iff.1 hv).1
  rw [run_part hok vs i (by omega) w, hsz]
  simp only [partShape, hag, form]
  have : (vs.drop i).take 1 = [v] := by
    rw [List.getElem?_eq_getElem hil] at hv
    simp only [Option.some.injEq] at hv
    rw [← hv]
    rw [List.drop_eq_getElem_cons hil]
    rfl
  simp [this]

theorem eqFields_run : ∀ {fs : List Field} {i : Nat} {cs ds : List C} {us vs : List Value} {b : Bool}, intFields P i fs = true → fs.length = cs.length → sameCs cs ds = some b →
    (∀ (j : Nat) c v, cs[j]? = some c → us[i + j]? = some v → ∃ L, CellOk e w G c v L) → (∀ (j : Nat) c v, ds[j]? = some c → vs[i + j]? = some v → ∃ L, CellOk e w G c v L) →
    i + cs.length ≤ us.length → i + cs.length ≤ vs.length → (Op.eqFields 9999 us.toArray vs.toArray fs).run P w = .ok b w
  | [], i, cs, ds, us, vs, b, _, hl, hs, _, _, _, _ => by
    have : cs = [] := List.eq_nil_of_length_eq_zero (by simpa using hl.symm)
    subst this
    rw [(sameCs_nil hs).2]
    rfl
  | f :: fs, i, [], ds, us, vs, b, _, hl, _, _, _, _, _ => by simp at hl
  | f :: fs, i, c :: cs, es, us, vs, b, hf, hl, hs, hu, hv, hlu, hlv => by
    obtain ⟨k1, p, q, ds, b', rfl, rfl, hq, rfl⟩ := sameCs_cons hs
    simp only [intFields, Bool.and_eq_true] at hf
    obtain ⟨⟨⟨⟨f1, f2⟩, f3⟩, f4⟩, f5⟩ := hf
    have f1 : f.name ≠ "_" := by simpa using f1
    have f2 := Nat.eq_of_beq_eq_true f2
    cases hi : P.info? f.type with
    | none => rw [hi] at f4; simp at f4
    | some inf =>
      rw [hi] at f4
      have f4 := Nat.eq_of_beq_eq_true f4
      split at f3
      · rename_i k hk
        simp only [List.length_cons] at hlu hlv
        obtain ⟨u, hu0⟩ : ∃ u, us[i]? = some u := ⟨_, List.getElem?_eq_getElem (by omega)⟩
        obtain ⟨v, hv0⟩ : ∃ v, vs[i]? = some v := ⟨_, List.getElem?_eq_getElem (by omega)⟩
        obtain ⟨L1, c1⟩ := hu 0 _ u rfl (by simpa using hu0)
        obtain ⟨L2, c2⟩ := hv 0 _ v rfl (by simpa using hv0)
        have hpu := part_int (P := P) hk hi f4 us i u hu0 w
        have hpv := part_int (P := P) hk hi f4 vs i v hv0 w
        rw [dat_int c1] at hpu
        rw [dat_int c2] at hpv
        have ih := eqFields_run (fs := fs) (i := i + 1) (cs := cs) (ds := ds) (us := us) (vs := vs) f5 (by simpa using hl) hq
          (fun j c v a b => hu (j + 1) c v (by simpa using a) (by rw [show i + (j + 1) = i + 1 + j by omega]; exact b))
          (fun j c v a b => hv (j + 1) c v (by simpa using a) (by rw [show i + (j + 1) = i + 1 + j by omega]; exact b)) (by omega) (by omega)
        simp only [Op.eqFields, f1, ne_eq, not_false_eq_true, if_true, Sem.run_bind, f2, hpu, hpv, Result.andThen_ok]
        rw [run_equalIn_int w 9998 f.type k1 k p q hk]
        simp only [Result.andThen_ok]
        cases hpq : (p == q) with
        | true => simpa using ih
        | false => simp
      · simp at f3

theorem agg_sound {P : Program} {x : Ctx} (hty : ∀ t, x.ty t = tyOf P t) {e : Env} {a : Act} {w : World} {G : Gh} {get : Nat → Slot} {o : Oper} {op : BinOp} {ty yt : TypeId} {y z : Operand} {cs ds : List C} {ws : Writes}
    (hb : Begin x.n e a w G get o) (ho : o.op = .binOp op ty y z yt) (hy : opd get y = some (.agg, cs)) (hz : opd get z = some (.agg, ds)) (h : act x get o = some ws) : Sound P x.n e a w G o ws := by
  simp only [act, ho, hy, hz] at h
  split at h
  · rename_i heq
    rw [hty] at heq
    obtain ⟨us, Ls, hvu⟩ := hb.opd (by simp [ho, Op.operands]) hy
    obtain ⟨vs, Ms, hvv⟩ := hb.opd (by simp [ho, Op.operands]) hz
    -- the type
    have heqI : eqInts P ty = some cs.length := by
      unfold tyOf at heq
      split at heq
      · exact heq
      · simp at heq
    unfold eqInts at heqI
    split at heqI
    · rename_i fs hu
      split at heqI
      · rename_i hc
        simp only [Bool.and_eq_true, Bool.not_eq_true'] at hc
        obtain ⟨⟨hf, hst⟩, hgd⟩ := hc
        simp only [Option.some.injEq] at heqI
        have hfo : P.fieldsOf ty = fs := by simp [Program.fieldsOf, hu]
        have hun : P.underlying ty = some (.struct (P.fieldsOf ty)) := by rw [hfo, hu]
        have key : ∀ b, sameCs cs ds = some b → (Op.equalIn 10000 ty (a.eval y) (a.eval z)).run P w = .ok b w := by
          intro b hs
          have h1 : a.eval y = .agg us.toArray := hvu.form
          have h2 : a.eval z = .agg vs.toArray := hvv.form
          rw [h1, h2, run_equalIn_agg w 9999 ty _ _ hun hst, hfo]
          have hdl := sameCs_len hs
          exact eqFields_run (P := P) (i := 0) hf (by simpa using heqI) hs
            (fun j c v a b => ⟨_, hvu.cells.cell j c v a (by simpa using b)⟩) (fun j c v a b => ⟨_, hvv.cells.cell j c v a (by simpa using b)⟩)
            (by rw [Nat.zero_add]; exact Nat.le_of_eq hvu.cells.len.symm) (by rw [Nat.zero_add, ← hdl]; exact Nat.le_of_eq hvv.cells.len.symm)
        have hguard : ∀ op, (eqGuard op ty y z (a.eval y) (a.eval z)).run P w = .ok () w := by
          intro op
          have h1 : a.eval y = .agg us.toArray := hvu.form
          have h2 : a.eval z = .agg vs.toArray := hvv.form
          rw [h1, h2]
          exact run_eqGuard_agg w op ty y z _ _ hgd
        split at h
        · rename_i b hs
          obtain ⟨G', hp⟩ := hb.cell (bool_ok e w G b) rfl h
          refine Sound.value ?_ hp
          have h1 : a.eval y = .agg us.toArray := hvu.form
          have h2 : a.eval z = .agg vs.toArray := hvv.form
          have hk := key b hs
          have hg := hguard .eql
          simp only [execOp, ho]
          rw [h1, h2] at hk hg ⊢
          exact run_v (by simp only [Sem.run_bind, hg, Result.andThen_ok, run_eql_struct, hk])
        · rename_i b hs
          obtain ⟨G', hp⟩ := hb.cell (bool_ok e w G (!b)) rfl h
          refine Sound.value ?_ hp
          have h1 : a.eval y = .agg us.toArray := hvu.form
          have h2 : a.eval z = .agg vs.toArray := hvv.form
          have hk := key b hs
          have hg := hguard .neq
          simp only [execOp, ho]
          rw [h1, h2] at hk hg ⊢
          exact run_v (by simp only [Sem.run_bind, hg, Result.andThen_ok, run_neq_struct, hk])
        · simp at h
      · simp at heqI
    · simp at heqI
  · simp at h

end

/-- The machine's book for a function is sound where its callees are. -/
theorem ctxOf_sound {P : Program} {fn : Func} {bk : Book} (hbk : BookOk P bk) (hp : bk.plain = true) : CtxOk P (ctxOf P fn bk) :=
  ctxOf_ok hbk hp fun hb ho h1 h2 h => agg_sound (x := ctxOf P fn bk) (fun _ => rfl) hb ho h1 h2 h

end Go.Mach
