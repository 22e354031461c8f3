/- The machine, part m: slices of slices, least and greatest, conversions, function values, parts of tuples. No condition: lemmas. -/
import Derived.Test.YtcdkpfcfcjnooaaMl
import Derived.Laws.Slices
import Derived.Laws.Strings2
namespace Go.Mach
set_option linter.unusedVariables false
set_option linter.unusedSimpArgs false

section ops
variable {P : Program} {n : Nat} {e : Env} {a : Act} {w : World} {G : Gh} {get : Nat → Slot} {o : Oper} {x : Ctx} {ws : Writes}

/-- A bound, as a value and as a number. -/
def IsBound (v : Option Value) (m : Option Nat) : Prop := (v = none ∧ m = none) ∨ ∃ (ik : IntKind) (i : Nat), v = some (.int ik (i : Int)) ∧ m = some i

theorem run_bound {ik : IntKind} {i y : Nat} {c : BoundsCode} (h : i ≤ y) (w : World) : (Instr.sliceBound (.int ik (i : Int)) y c).run P w = .ok i w := by
  have h1 : (0 : Int) ≤ (i : Int) ∧ (i : Int) ≤ (y : Int) := by omega
  simp only [Instr.sliceBound, asIntOf, Sem.run_bind, Sem.run_pure, Result.andThen_ok, if_pos h1, Int.toNat_natCast]

theorem run_bounds {isS : Bool} {len cap : Nat} {vl vh : Option Value} {lo hi : Option Nat} (hl : IsBound vl lo) (hh : IsBound vh hi) (h1 : lo.getD 0 ≤ hi.getD len) (h2 : hi.getD len ≤ cap) (w : World) :
    (Instr.sliceBounds isS len cap vl vh none).run P w = .ok (lo.getD 0, hi.getD len, cap) w := by
  rcases hl with ⟨rfl, rfl⟩ | ⟨k1, i1, rfl, rfl⟩ <;> rcases hh with ⟨rfl, rfl⟩ | ⟨k2, i2, rfl, rfl⟩ <;> simp only [Option.getD_none, Option.getD_some] at h1 h2
  · simp [Instr.sliceBounds, Sem.run_bind]
  · simp [Instr.sliceBounds, Sem.run_bind, run_bound h2]
  · simp [Instr.sliceBounds, Sem.run_bind, run_bound h1]
  · simp [Instr.sliceBounds, Sem.run_bind, run_bound h2, run_bound h1]

theorem run_sliceAt_slice {t el : Nat} {i : TypeInfo} (hu : P.underlying t = some (.slice el)) (hi' : P.info? el = some i) {b : Option Addr} {len cap : Nat} {vl vh : Option Value} {lo hi : Option Nat} (hl : IsBound vl lo)
    (hh : IsBound vh hi) (h1 : lo.getD 0 ≤ hi.getD len) (h2 : hi.getD len ≤ cap) (w : World) :
    (Instr.sliceAt t (.slice b len cap) vl vh none).run P w = .ok (.slice (if cap = lo.getD 0 then b else b.map (·.add (lo.getD 0 * (tyOf P el).size))) (hi.getD len - lo.getD 0) (cap - lo.getD 0)) w := by
  simp only [Instr.sliceAt, Sem.run_bind, run_und hu, Result.andThen_ok, Instr.slice, run_bounds hl hh h1 h2, run_size hi', Sem.run_pure]

theorem run_sliceAt_string {t : Nat} (hu : P.underlying t = some .string) {s : List UInt8} {vl vh : Option Value} {lo hi : Option Nat} (hl : IsBound vl lo) (hh : IsBound vh hi) (h1 : lo.getD 0 ≤ hi.getD s.length)
    (h2 : hi.getD s.length ≤ s.length) (w : World) : (Instr.sliceAt t (.string ⟨⟨s⟩⟩) vl vh none).run P w = .ok (.string ⟨⟨cut lo hi s⟩⟩) w := by
  simp only [Instr.sliceAt, Sem.run_bind, run_und hu, Result.andThen_ok, Instr.slice, Option.isSome_none, Bool.false_eq_true, if_false]
  rw [run_bounds hl hh (by rw [bytes_size]; exact h1) (by rw [bytes_size]; exact h2)]
  simp only [Result.andThen_ok, Sem.run_pure, bytes_size]
  congr 2
  have : (⟨⟨s⟩⟩ : ByteArray).extract (lo.getD 0) (hi.getD s.length) = ⟨⟨(s.drop (lo.getD 0)).take (hi.getD s.length - lo.getD 0)⟩⟩ := by
    exact ByteArray.extract_mk s (lo.getD 0) (hi.getD s.length)
  rw [this]
  congr 2
  cases lo <;> cases hi <;> simp [cut, List.drop_take, List.take_of_length_le]

theorem off_one (a : Option Nat) (m : Option Nat) (old : Option Nat) (d : Nat) : (subOf a m old).getD d = match m with | none => old.getD d | some q => a.getD 0 + q := by
  cases m <;> simp [subOf, offOf_eq]

theorem slice_ok {t : Nat} (hinv : Inv n e a.tmps w G) (hs : Sees get e) {c c' : C} {v : Value} {L : LT} (hc : CellOk e w G c v L) (hsf : slFits (tyOf P) t c = true) {vl vh : Option Value} {lo hi : Option Nat}
    (hl : IsBound vl lo) (hh : IsBound vh hi)
    (h : sliceC get c lo hi = some c') : ∃ r L', (Instr.sliceAt t v vl vh none).run P w = .ok r w ∧ CellOk e w G c' r L' ∧ c'.isOwn = false := by
  have hfit : fitsTy (tyOf P t) c = true := by
    cases c with
    | dat k y =>
      cases k with
      | str => exact hsf
      | list k => simp only [slFits] at hsf; simp only [fitsTy]; split at hsf <;> simp_all
      | _ => simp [slFits] at hsf
    | nil => simp only [slFits] at hsf; simp only [fitsTy]; split at hsf <;> simp_all
    | ref _ _ _ _ _ _ _ _ => simp only [slFits] at hsf; simp only [fitsTy]; split at hsf <;> simp_all
    | _ => simp [slFits] at hsf
  have hk : ∀ el k l, P.underlying t = some (.slice el) → c = .dat (.list k) l → (tyOf P el).size = k.size := by
    rintro el k l hu rfl
    simp only [slFits] at hsf
    split at hsf
    · rename_i el' hd
      have := ty_slice hd
      rw [hu] at this
      simp only [Option.some.injEq, TypeDesc.slice.injEq] at this
      subst this
      simpa using hsf
    · simp at hsf
  have hk' : ∀ el s j rv sv p l h' k, P.underlying t = some (.slice el) → c = .ref s j rv sv p l h' k → (tyOf P el).size = k.size := by
    rintro el s j rv sv p l h' k hu rfl
    simp only [slFits] at hsf
    split at hsf
    · rename_i el' hd
      have := ty_slice hd
      rw [hu] at this
      simp only [Option.some.injEq, TypeDesc.slice.injEq] at this
      subst this
      simpa using hsf
    · simp at hsf
  have hel : ∀ el, P.underlying t = some (.slice el) → ∃ i, P.info? el = some i := by
    intro el hu
    refine ty_size_info (P := P) (t := el) ?_
    cases c with
    | nil =>
      simp only [slFits] at hsf
      split at hsf
      · rename_i el' hd
        have := ty_slice hd
        rw [hu] at this
        simp only [Option.some.injEq, TypeDesc.slice.injEq] at this
        subst this
        simpa using hsf
      · simp at hsf
    | dat k y =>
      cases k with
      | list k => rw [hk el k y hu rfl]; have := k.size_pos; omega
      | str => simp only [slFits] at hsf; have := ty_str hsf; rw [hu] at this; simp at this
      | _ => simp [slFits] at hsf
    | ref s j rv sv p l h' k => rw [hk' el s j rv sv p l h' k hu rfl]; have := k.size_pos; omega
    | _ => simp [slFits] at hsf
  cases c with
  | nil =>
    simp only [sliceC] at h
    split at h
    · rename_i hz
      obtain ⟨z1, z2⟩ := hz
      simp only [Option.some.injEq] at h
      subst h
      obtain ⟨el, hel'⟩ := fits_slice hfit (by simp)
      obtain ⟨i, hi'⟩ := hel el hel'
      obtain rfl : v = .slice none 0 0 := hc
      refine ⟨_, .leaf, run_sliceAt_slice hel' hi' hl hh (by omega) (by omega) w, ?_, rfl⟩
      show _ = _
      rw [z1, z2]
      simp
    · simp at h
  | dat k y =>
    cases k with
    | list k =>
      simp only [sliceC] at h
      split at h
      · rename_i hz
        obtain ⟨z1, z2⟩ := hz
        simp only [Option.some.injEq] at h
        subst h
        obtain ⟨el, hel'⟩ := fits_slice hfit (by simp)
        obtain ⟨i, hi'⟩ := hel el hel'
        have hsz := hk el k y hel' rfl
        obtain ⟨h1, h2⟩ := hc
        simp only [Rep] at h1
        obtain ⟨u, hu, h1⟩ := h1
        simp only [List.cons.injEq, and_true] at hu
        subst hu
        rcases h1 with ⟨rfl, rfl, b, cap, rfl, _⟩ | ⟨b, off, cap, rows, rfl, rfl, g1, g2, g0, g3, g4⟩
        · simp only [List.length_nil] at z1 z2
          refine ⟨_, .nil, run_sliceAt_slice hel' hi' hl hh z1 (by omega) w, ⟨?_, by simp [fp]⟩, rfl⟩
          simp only [Rep]
          refine ⟨_, rfl, .inl ⟨rfl, ?_, ?_⟩⟩
          · refine List.eq_nil_of_length_eq_zero ?_
            rw [cut_length lo hi ([] : List k.T) (by simpa using z2)]
            simp only [List.length_nil]
            omega
          · exact ⟨_, _, by rw [show hi.getD 0 - lo.getD 0 = 0 by omega], by simp⟩
        · have hsl : SliceIs k.size y.length (hdOf (.node b off cap rows)) lo hi (.slice (if cap = lo.getD 0 then some ⟨b, off, none⟩ else (some (⟨b, off, none⟩ : Addr)).map (·.add (lo.getD 0 * (tyOf P el).size))) (hi.getD y.length - lo.getD 0) (cap - lo.getD 0)) := by
            refine ⟨z1, z2, ?_⟩
            simp only [hdOf]
            refine ⟨g1, ?_⟩
            by_cases hq : cap = lo.getD 0
            · rw [if_pos hq]
              exact ⟨off, rfl, fun q => by omega⟩
            · rw [if_neg hq]
              refine ⟨off + lo.getD 0 * k.size, ?_, fun _ => rfl⟩
              simp [addr_add, hsz]
          have hrep : RepL false w k.size (Rep false w k) y (.node b off cap rows) (.slice (some ⟨b, off, none⟩) y.length cap) := .inr ⟨b, off, cap, rows, rfl, rfl, g1, g2, g0, g3, g4⟩
          have hrc := hrep.cut hsl
          refine ⟨_, _, run_sliceAt_slice hel' hi' hl hh z1 (by omega) w, ⟨hrc.rep, fun b' hb' => h2 b' ?_⟩, rfl⟩
          exact (cutL_sublist k k.size lo hi y.length _).subset hb'
      · simp at h
    | str =>
      simp only [sliceC] at h
      split at h
      · rename_i hz
        obtain ⟨z1, z2⟩ := hz
        simp only [Option.some.injEq] at h
        subst h
        rw [dat_str hc]
        exact ⟨_, .leaf, run_sliceAt_string (fits_str hfit) hl hh z1 z2 w, str_ok _ _ _ _, rfl⟩
      · simp at h
    | _ => simp [sliceC] at h
  | ref s j rv sv p a0 b0 k =>
    simp only [sliceC] at h
    cases hlen : lenC get (.ref s j rv sv p a0 b0 k) with
    | none => rw [hlen] at h; simp at h
    | some m =>
      rw [hlen] at h
      simp only at h
      split at h
      · rename_i hz
        obtain ⟨z1, z2⟩ := hz
        simp only [Option.some.injEq] at h
        subst h
        obtain ⟨el, hel'⟩ := fits_slice hfit (by simp)
        obtain ⟨i, hi'⟩ := hel el hel'
        have hsz := hk' el s j rv sv p a0 b0 k hel' rfl
        simp only [lenC] at hlen
        cases hcon : content get s j rv sv p k with
        | none => rw [hcon] at hlen; simp at hlen
        | some q =>
          obtain ⟨d, l⟩ := q
          rw [hcon] at hlen
          simp only [Option.map_some, Option.some.injEq] at hlen
          obtain ⟨sv', k0, l0, q1, q2, q3⟩ := content_ok hs hcon
          obtain ⟨r1, r2, r3, r4⟩ := ref_reads hinv hc q1 q2 q3
          have hlc := cut_length a0 b0 l r1.2.1
          obtain ⟨s1, s2, s3⟩ := r1
          -- the value, and its new one
          have key : ∀ b cap', v = .slice b m cap' → m ≤ cap' →
              (∀ hd, SliceIs k.size l.length hd a0 b0 v → SliceIs k.size l.length hd (subOf a0 lo a0) (subOf a0 hi b0) (.slice (if cap' = lo.getD 0 then b else b.map (·.add (lo.getD 0 * (tyOf P el).size))) (hi.getD m - lo.getD 0) (cap' - lo.getD 0))) := by
            intro b cap' hv hmc hd hsl
            obtain ⟨e1, e2, e3⟩ := hsl
            have y1 : (subOf a0 lo a0).getD 0 = a0.getD 0 + lo.getD 0 := by rw [off_one]; cases lo <;> simp
            have y2 : (subOf a0 hi b0).getD l.length = a0.getD 0 + hi.getD m := by
              rw [off_one]
              cases hi with
              | none => simp only [Option.getD_none]; omega
              | some q => simp
            have hm' : m = b0.getD l.length - a0.getD 0 := by rw [← hlen, hlc]
            refine ⟨by rw [y1, y2]; omega, by rw [y2]; omega, ?_⟩
            cases hd with
            | none =>
              obtain ⟨b1, e4, e5⟩ := e3
              rw [hv] at e4
              simp only [Value.slice.injEq] at e4
              obtain ⟨rfl, e6, e7⟩ := e4
              subst e7
              exact ⟨_, by rw [show hi.getD m - lo.getD 0 = 0 by omega, show 0 - lo.getD 0 = 0 by omega], e5⟩
            | some bb =>
              obtain ⟨bb, off, cap⟩ := bb
              obtain ⟨e4, o', e5, e6⟩ := e3
              rw [hv] at e5
              simp only [Value.slice.injEq] at e5
              obtain ⟨rfl, e7, e8⟩ := e5
              refine ⟨e4, ?_⟩
              rw [y1, y2]
              by_cases hq : cap' = lo.getD 0
              · rw [if_pos hq]
                refine ⟨o', ?_, fun q => by omega⟩
                congr 1 <;> omega
              · rw [if_neg hq]
                refine ⟨o' + lo.getD 0 * k.size, ?_, fun q => ?_⟩
                · simp only [Option.map_some, addr_add, hsz]
                  congr 1 <;> omega
                · rw [e6 (by omega), Nat.add_mul, Nat.add_assoc]
          have hval : ∃ b cap', v = .slice b m cap' ∧ m ≤ cap' := by
            cases hhd : hdOf (subL k0 (G.lt s j) p) with
            | none =>
              rw [hhd] at s3
              obtain ⟨b1, e4, e5⟩ := s3
              exact ⟨b1, 0, by rw [e4]; congr 1; omega, by omega⟩
            | some bb =>
              obtain ⟨bb, off, cap⟩ := bb
              rw [hhd] at s3
              obtain ⟨e4, o', e5, e6⟩ := s3
              exact ⟨_, _, by rw [e5]; congr 1; omega, by omega⟩
          obtain ⟨b, cap', hv, hmc⟩ := hval
          refine ⟨_, .leaf, by rw [hv]; exact run_sliceAt_slice hel' hi' hl hh z1 (by omega) w, ⟨hc.1, hc.2.1, fun sv1 d1 k1 l1 t1 t2 => ?_⟩, rfl⟩
          obtain ⟨nn, hd, t3, t4⟩ := hc.2.2 sv1 d1 k1 l1 t1 t2
          have t1 := some_of_getD t1 (by simp)
          rw [q1] at t1
          simp only [Option.some.injEq, C.own.injEq] at t1
          obtain ⟨_, rfl, rfl, rfl, t1⟩ := t1
          have t1 := eq_of_heq t1
          subst t1
          obtain ⟨u1, u2, u3, u4⟩ := t3
          rw [q3] at u3
          simp only at u3
          subst u3
          exact ⟨l.length, hd, ⟨u1, by rw [q3], by rw [q3], u4⟩, key b cap' hv hmc hd t4⟩
      · simp at h
  | _ => simp [sliceC] at h

theorem sound_slice {ty : TypeId} {y : Operand} {vl vh : Option Operand} (hty : ∀ t, x.ty t = tyOf P t) (hb : Begin n e a w G get o) (ho : o.op = .slice ty y vl vh none) (h : act x get o = some ws) : Sound P n e a w G o ws := by
  have hty' : x.ty = tyOf P := funext hty
  have key : ∀ (c c' : C) (lo hi : Option Nat), opd get y = some (.one, [c]) → slFits x.ty ty c = true → IsBound (vl.map a.eval) lo → IsBound (vh.map a.eval) hi → sliceC get c lo hi = some c' →
      some (Tr.lay { get, d := o.dst } o.dst (.one, [c'])).ws = some ws → Sound P n e a w G o ws := by
    intro c c' lo hi hc hf hl hh hs hw
    obtain ⟨L, h1, hno⟩ := hb.one (by simp [ho, Op.operands]) hc
    rw [hty'] at hf
    obtain ⟨r, L', h2, h3, h4⟩ := slice_ok (P := P) (t := ty) hb.inv hb.sees h1 hf hl hh hs
    obtain ⟨G', hp⟩ := hb.cell h3 h4 hw
    refine Sound.value ?_ hp
    simp only [execOp, ho]
    exact run_v h2
  have nb : ∀ (z : Operand) (c : C) (m : Nat), z ∈ o.op.operands → opd get z = some (.one, [c]) → natOf c = some m → IsBound (some (a.eval z)) (some m) := by
    intro z c m hz hc hm
    obtain ⟨L, h1, _⟩ := hb.one hz hc
    obtain ⟨ik, hq⟩ := nat_of hm h1
    exact .inr ⟨ik, m, by rw [hq], rfl⟩
  have bb : ∀ (z : Option Operand) (m : Option Nat), (∀ z', z = some z' → z' ∈ o.op.operands) → boundOf get z = some m → IsBound (z.map a.eval) m := by
    intro z m hz hm
    cases z with
    | none => simp only [boundOf, Option.some.injEq] at hm; subst hm; exact .inl ⟨rfl, rfl⟩
    | some z =>
      simp only [boundOf] at hm
      split at hm
      · rename_i c hc
        cases hn : natOf c with
        | none => rw [hn] at hm; simp at hm
        | some q =>
          rw [hn] at hm
          simp only [Option.map_some, Option.some.injEq] at hm
          subst hm
          exact nb z c q (hz z rfl) hc hn
      · simp at hm
  simp only [act, ho] at h
  split at h
  · rename_i c l h' hc hl hh
    split at h
    · simp at h
    · rename_i hfit
      split at h
      · rename_i c' hs
        exact key c c' l h' hc (by simpa using hfit) (bb vl l (by rintro z rfl; simp [ho, Op.operands]) hl) (bb vh h' (by rintro z rfl; simp [ho, Op.operands]) hh) hs h
      · simp at h
  · simp at h

end ops

end Go.Mach
