/- The machine, part i: operations that only compute. No condition: lemmas. -/
import Derived.Test.YtcdkpfcfcjnooaaMh
namespace Go.Mach
set_option linter.unusedVariables false

theorem wp_value {P : Program} {o : Oper} {a : Act} {w w' : World} {K : Act → World → Prop} {Q : Exit → Act → World → Prop} {u : Value} (h : (execOp a.eval o).run P w = .ok (.value u) w') (hk : K (a.put o.dst u) w') :
    o.wp P a w K Q := by
  unfold Oper.wp
  rw [h]
  exact hk

theorem wp_skip' {P : Program} {o : Oper} {a : Act} {w w' : World} {K : Act → World → Prop} {Q : Exit → Act → World → Prop} (h : (execOp a.eval o).run P w = .ok .skip w') (hk : K (a.put o.dst undef) w') :
    o.wp P a w K Q := by
  unfold Oper.wp
  rw [h]
  exact hk

/-- How a step leaves what is not its own: what nobody owns, and the cells beyond the frame. -/
structure Held (n m : Nat) (w w' : World) (G G' : Gh) : Prop where
  still : Still w w' G.ow G'.ow
  vs : ∀ s, n ≤ s → G'.vs s = G.vs s ∧ ∀ j, hdOf (G'.lt s j) = hdOf (G.lt s j)
  out : ∀ b t, G.ow b = some t → m ≤ t → w.heap[b]? ≠ none → w'.heap[b]? = w.heap[b]? ∧ G'.ow b = some t

theorem Held.refl {n m : Nat} {w : World} {G : Gh} : Held n m w w G G := ⟨still_refl, fun _ _ => ⟨rfl, fun _ => rfl⟩, fun _ _ h _ _ => ⟨rfl, h⟩⟩

theorem Held.trans {n m : Nat} {w w1 w2 : World} {G G1 G2 : Gh} (h : Held n m w w1 G G1) (h' : Held n m w1 w2 G1 G2) : Held n m w w2 G G2 :=
  ⟨fun b q1 q2 => by
    obtain ⟨r1, r2⟩ := h.still b q1 q2
    obtain ⟨r3, r4⟩ := h'.still b r2 (by rw [r1]; exact q2)
    exact ⟨r3.trans r1, r4⟩, fun s hs => ⟨(h'.vs s hs).1.trans (h.vs s hs).1, fun j => ((h'.vs s hs).2 j).trans ((h.vs s hs).2 j)⟩, fun b t q1 q2 q3 => by
    obtain ⟨r1, r2⟩ := h.out b t q1 q2 q3
    obtain ⟨r3, r4⟩ := h'.out b t r2 q2 (by rw [r1]; exact q3)
    exact ⟨r3.trans r1, r4⟩⟩

/-- The streams and the rest of the world are as they were. -/
structure SameEnv (w w' : World) : Prop where
  os : w'.os = w.os
  tape : w'.tape = w.tape
  output : w'.output = w.output

theorem SameEnv.refl {w : World} : SameEnv w w := ⟨rfl, rfl, rfl⟩
theorem SameEnv.trans {w w1 w2 : World} (h : SameEnv w w1) (h' : SameEnv w1 w2) : SameEnv w w2 := ⟨h'.os.trans h.os, h'.tape.trans h.tape, h'.output.trans h.output⟩

/-- What stands behind an operation. -/
structure Post (n : Nat) (e' : Env) (a : Act) (w : World) (G : Gh) (a' : Act) (w' : World) (G' : Gh) : Prop where
  inv : Inv n e' a'.tmps w' G'
  held : Held n e'.length w w' G G'
  grows : w.heap.size ≤ w'.heap.size
  defers : a'.defers = a.defers
  env : SameEnv w w'

theorem put_tmps (a : Act) (d : Nat) (u : Value) : (a.put (some d) u).tmps = a.tmps.setIfInBounds d u := rfl

theorem put_defers (a : Act) (d : Option Nat) (u : Value) : (a.put d u).defers = a.defers := by cases d <;> rfl

theorem put_size (a : Act) (d : Option Nat) (u : Value) : (a.put d u).tmps.size = a.tmps.size := by cases d <;> simp [Act.put]

theorem Ext.still {w : World} {e e' : Env} {G G' : Gh} (x : Ext w e G e' G') : Still w w G.ow G'.ow := fun b h _ => ⟨rfl, x.none b h⟩

theorem Inv.beyond {n : Nat} {e : Env} {tm : Array Value} {w : World} {G : Gh} (h : Inv n e tm w G) {b t : Nat} (hb : G.ow b = some t) (ht : e.length ≤ t) : Loose e G b := by
  intro s hs
  have := (h.slot s).own b hs
  rw [hb] at this
  simp only [Option.some.injEq] at this
  subst this
  rw [get_out (by omega)] at hs
  simp [fpS] at hs

theorem Ext.held {n : Nat} {tm : Array Value} {w : World} {e e' : Env} {G G' : Gh} (x : Ext w e G e' G') (h : Inv n e tm w G) : Held n e.length w w G G' :=
  ⟨x.still, fun s _ => ⟨by rw [x.vs], fun j => by rw [x.lt]⟩, fun b t h1 h2 _ => ⟨rfl, by rw [(x.loose b (h.beyond h1 h2) (by rw [h1]; simp)).2]; exact h1⟩⟩

theorem Hand.owner {n : Nat} {tm : Array Value} {w : World} {e e' : Env} {G G' : Gh} {H : List Nat} (hd : Hand w e G e' G' H) (h : Inv n e tm w G) (x : Ext w e G e' G') : ∀ b ∈ H, ∀ t, G'.ow b = some t → t < e'.length := by
  intro b hb t ht
  obtain ⟨_, _, _, h4⟩ := hd.mem b hb
  rcases Nat.lt_or_ge t e'.length with q | q
  · exact q
  · exact absurd (h.beyond (x.sub b t ht) (by rw [← x.len]; exact q)) h4

/-- A plain value, laid. -/
theorem lay_quiet {n : Nat} {e0 e : Env} {a : Act} {w : World} {G0 G : Gh} {t : Tr} (h : Inv n e a.tmps w G) (ht : TrOk e0 t e) (hst : Held n e0.length w w G0 G) {v : Val} {u : Value} {vs : List Value} {Ls : Nat → LT}
    (hv : ValOk e w G v u vs Ls) (hd : ∀ d, t.d = some d → d < n) : ∃ G', Post n (e0.puts (t.lay t.d v).ws) a w G0 (a.put t.d u) w G' := by
  cases hdd : t.d with
  | none =>
    simp only [Tr.lay, Act.put]
    rw [ht.puts]
    exact ⟨G, h, by rw [ht.length]; exact hst, Nat.le_refl _, rfl, SameEnv.refl⟩
  | some d =>
    have hdn := hd d hdd
    have hat := ht.dst d hdd
    have hlen : d < e.length := Nat.lt_of_lt_of_le hdn h.elen
    simp only [Tr.lay]
    rw [(ht.put ((t.at d).lay v.1 v.2) hlen).puts, hat]
    have hnoB : boxB v.1 0 = [] := by
      have := hv.sh
      cases hs : v.1 <;> simp_all [boxB]
    have hno : fpCells Ls 0 v.2 = [] := by
      have key : ∀ (cs : List C) (i : Nat), (∀ c ∈ cs, c.isOwn = false) → fpCells Ls i cs = [] := by
        intro cs
        induction cs with
        | nil => intro i _; rfl
        | cons c cs ih => intro i ho; simp only [fpCells]; rw [noOwn_ownB (ho c (by simp)), ih (i + 1) fun c hc => ho c (by simp [hc])]; rfl
      exact key _ _ hv.noOwn
    have := h.lay (w' := w) d v.1 v.2 vs Ls 0 [] (Nat.le_refl _) (fun b _ _ => rfl) (by simp) hv.cells.len (fun j c v' hc hv' => NewOk.ofCell (hv.cells.cell j c v' hc hv') (hv.noOwn c (List.mem_of_getElem? hc)))
      (by rw [hnoB, hno]; simp) (by rw [hnoB, hno]; simp) (fun q => absurd q hv.alive) (fun bv q => absurd q (hv.sh bv)) (a.put (some d) u).tmps (by rw [put_size]; exact h.size)
      (fun t' ht' hn => by rw [put_tmps]; simp [Ne.symm ht'])
      (fun hn => by
        have hu : (a.put (some d) u).tmps[d]? = some (form v.1 vs) := by
          rw [put_tmps, ← hv.form]
          simp [h.size, hdn]
        have h1 := hv.sh
        have h2 := hv.alive
        revert hu h1 h2
        cases v.1 <;> simp [FormIs])
    refine ⟨_, this, ⟨fun b q1 q2 => ?_, fun s hs => ?_, fun b t q1 q2 q3 => ?_⟩, Nat.le_refl _, put_defers _ _ _, SameEnv.refl⟩
    · have := (hst.still b q1 q2).2
      exact ⟨rfl, by simp [Gh.lay, this]⟩
    · rw [show (G.lay d vs Ls 0 []).vs s = G.vs s from upd_ne _ _ (by omega), show (G.lay d vs Ls 0 []).lt s = G.lt s from upd_ne _ _ (by omega)]
      exact hst.vs s hs
    · have hl : (e.set d ((e.get d).lay v.1 v.2)).length = e0.length := by rw [List.length_set, ht.length]
      have := (hst.out b t q1 (by rw [← hl]; exact q2) q3).2
      exact ⟨rfl, by simp [Gh.lay, this]⟩

theorem still_id {w : World} {G : Gh} : Still w w G.ow G.ow := still_refl

/-- The operands of an operation lie among the frame's slots. -/
def InB (n : Nat) (o : Oper) : Prop := ∀ t ∈ opSlots o, t < n

theorem InB.opd {n : Nat} {o : Oper} (h : InB n o) {x : Operand} (hx : x ∈ o.op.operands) : ∀ t, x = .tmp t → t < n := by
  rintro t rfl
  refine h t ?_
  simp only [opSlots, List.mem_append]
  right
  exact List.mem_filterMap.2 ⟨.tmp t, by simpa using hx, rfl⟩

theorem InB.dst {n : Nat} {o : Oper} (h : InB n o) : ∀ d, o.dst = some d → d < n := fun d hd => h d (by simp [opSlots, hd])

/-- The state that an operation begins in. -/
structure Begin (n : Nat) (e : Env) (a : Act) (w : World) (G : Gh) (get : Nat → Slot) (o : Oper) : Prop where
  inv : Inv n e a.tmps w G
  sees : Sees get e
  dst : ∀ d, o.dst = some d → get d = e.get d
  inb : InB n o

theorem Begin.tr {n : Nat} {e : Env} {a : Act} {w : World} {G : Gh} {get : Nat → Slot} {o : Oper} (h : Begin n e a w G get o) : TrOk e { get, d := o.dst } e := TrOk.start h.sees h.dst

/-- A plain value is the whole of it. -/
theorem Begin.done {n : Nat} {e : Env} {a : Act} {w : World} {G : Gh} {get : Nat → Slot} {o : Oper} (h : Begin n e a w G get o) {v : Val} {u : Value} {vs : List Value} {Ls : Nat → LT} (hv : ValOk e w G v u vs Ls)
    {ws : Writes} (hws : some (Tr.lay { get, d := o.dst } o.dst v).ws = some ws) : ∃ G', Post n (e.puts ws) a w G (a.put o.dst u) w G' := by
  simp only [Option.some.injEq] at hws
  rw [← hws]
  exact lay_quiet h.inv h.tr Held.refl hv h.inb.dst

theorem Begin.opd {n : Nat} {e : Env} {a : Act} {w : World} {G : Gh} {get : Nat → Slot} {o : Oper} (h : Begin n e a w G get o) {x : Operand} (hx : x ∈ o.op.operands) {v : Val} (hv : opd get x = some v) :
    ∃ vs Ls, ValOk e w G v (a.eval x) vs Ls := opd_ok h.inv h.sees (h.inb.opd hx) hv

theorem Begin.one {n : Nat} {e : Env} {a : Act} {w : World} {G : Gh} {get : Nat → Slot} {o : Oper} (h : Begin n e a w G get o) {x : Operand} (hx : x ∈ o.op.operands) {c : C} (hv : Mach.opd get x = some (.one, [c])) :
    ∃ L, CellOk e w G c (a.eval x) L ∧ c.isOwn = false := opd_one h.inv h.sees (h.inb.opd hx) hv

/-! Plain cells, as values. -/
theorem dat_int {e : Env} {w : World} {G : Gh} {k : IntKind} {m : Int} {v : Value} {L : LT} (h : CellOk e w G (.dat (.int k) m) v L) : v = .int k m := by
  have := h.1
  simp only [Rep] at this
  simpa using this

theorem dat_bool {e : Env} {w : World} {G : Gh} {b : Bool} {v : Value} {L : LT} (h : CellOk e w G (.dat .bool b) v L) : v = .bool b := by
  have := h.1
  simp only [Rep] at this
  simpa using this

theorem dat_str {e : Env} {w : World} {G : Gh} {s : List UInt8} {v : Value} {L : LT} (h : CellOk e w G (.dat .str s) v L) : v = .string ⟨⟨s⟩⟩ := by
  have := h.1
  simp only [Rep] at this
  simpa using this

theorem int_ok (e : Env) (w : World) (G : Gh) (k : IntKind) (m : Int) : CellOk e w G (.dat (.int k) m) (.int k m) .leaf := ⟨by simp [Rep], by simp [fp]⟩
theorem bool_ok (e : Env) (w : World) (G : Gh) (b : Bool) : CellOk e w G (.dat .bool b) (.bool b) .leaf := ⟨by simp [Rep], by simp [fp]⟩
theorem str_ok (e : Env) (w : World) (G : Gh) (s : List UInt8) : CellOk e w G (.dat .str s) (.string ⟨⟨s⟩⟩) .leaf := ⟨by simp [Rep], by simp [fp]⟩

section ops
variable {P : Program} {n : Nat} {e : Env} {a : Act} {w : World} {G : Gh} {get : Nat → Slot} {o : Oper} {x : Ctx} {ws : Writes} {K : Act → World → Prop} {Q : Exit → Act → World → Prop}

/-- An operation is sound. -/
def Sound (P : Program) (n : Nat) (e : Env) (a : Act) (w : World) (G : Gh) (o : Oper) (ws : Writes) : Prop :=
  ∀ (K : Act → World → Prop) (Q : Exit → Act → World → Prop), (∀ a' w' G', Post n (e.puts ws) a w G a' w' G' → K a' w') → o.wp P a w K Q

theorem Sound.value {u : Value} {w' : World} {G' : Gh} (h : (execOp a.eval o).run P w = .ok (.value u) w') (hp : Post n (e.puts ws) a w G (a.put o.dst u) w' G') : Sound P n e a w G o ws :=
  fun K Q hk => wp_value h (hk _ _ _ hp)

theorem sound_move {y : Operand} (hb : Begin n e a w G get o) (ho : o.op = .move y) (h : act x get o = some ws) : Sound P n e a w G o ws := by
  simp only [act, ho] at h
  cases hv : opd get y with
  | none => rw [hv] at h; simp at h
  | some v =>
    rw [hv] at h
    obtain ⟨vs, Ls, hval⟩ := hb.opd (by simp [ho, Op.operands]) hv
    obtain ⟨G', hp⟩ := hb.done hval h
    exact Sound.value (by simp only [execOp, ho]; rfl) hp

theorem sound_pick {y z t : Operand} (hb : Begin n e a w G get o) (ho : o.op = .pick y z t) (h : act x get o = some ws) : Sound P n e a w G o ws := by
  simp only [act, ho] at h
  split at h
  · rename_i hc
    obtain ⟨L, hcell, _⟩ := hb.one (by simp [ho, Op.operands]) hc
    have hcv := dat_bool hcell
    cases hv : opd get z with
    | none => rw [hv] at h; simp at h
    | some v =>
      rw [hv] at h
      obtain ⟨vs, Ls, hval⟩ := hb.opd (by simp [ho, Op.operands]) hv
      obtain ⟨G', hp⟩ := hb.done hval h
      refine Sound.value ?_ hp
      simp only [execOp, ho, hcv, asBool]
      rfl
  · rename_i hc
    obtain ⟨L, hcell, _⟩ := hb.one (by simp [ho, Op.operands]) hc
    have hcv := dat_bool hcell
    cases hv : opd get t with
    | none => rw [hv] at h; simp at h
    | some v =>
      rw [hv] at h
      obtain ⟨vs, Ls, hval⟩ := hb.opd (by simp [ho, Op.operands]) hv
      obtain ⟨G', hp⟩ := hb.done hval h
      refine Sound.value ?_ hp
      simp only [execOp, ho, hcv, asBool]
      rfl
  · simp at h

end ops

end Go.Mach
