/- The machine, part n: least and greatest, function values, parts of tuples, conversions, variables, new blocks. No condition: lemmas. -/
import Derived.Test.YtcdkpfcfcjnooaaMm
import Derived.Laws.MakeOwn
import Derived.Laws.OwnMore
import Derived.Laws.IdiomCopy
namespace Go.Mach
set_option linter.unusedVariables false
set_option linter.unusedSimpArgs false

/-! ### A value with data of its own, laid -/
def FormOf (sh : Sh) (u : Value) (vs : List Value) (bk : Nat) : Prop := match sh with
  | .dead => True
  | .box _ => u = .pointer (some ⟨bk, 0, none⟩)
  | sh => u = form sh vs

theorem lay_new {n : Nat} {e0 e : Env} {a : Act} {w w' : World} {G0 G : Gh} {t : Tr} (h : Inv n e a.tmps w G) (ht : TrOk e0 t e) (hst : Held n e0.length w w G0 G) {sh : Sh} {cs : List C} {vs : List Value} {Ls : Nat → LT} {bk : Nat} {H : List Nat} {u : Value}
    (hsize : w.heap.size ≤ w'.heap.size) (hsame : ∀ b, b ∉ H → w.heap[b]? ≠ none → w'.heap[b]? = w.heap[b]?)
    (hH : ∀ b ∈ H, Loose e G b ∧ (G.ow b ≠ none ∨ w.heap[b]? = none) ∧ b < w'.heap.size)
    (hHo : ∀ b ∈ H, ∀ t, G.ow b = some t → t < e.length)
    (hlen : vs.length = cs.length) (hcell : ∀ (j : Nat) c v, cs[j]? = some c → vs[j]? = some v → NewOk e w G w' H c v (Ls j))
    (hnd : (boxB sh bk ++ fpCells Ls 0 cs).Nodup) (hsub : ∀ b ∈ boxB sh bk ++ fpCells Ls 0 cs, b ∈ H)
    (hdead : sh = .dead → cs = [])
    (hbox : ∀ bv, sh = .box bv → ∃ ty, w'.heap[bk]? = some (.cells vs.toArray ty (0, 0)))
    (hform : FormOf sh u vs bk) {d : Nat} (hd : t.d = some d) (hdn : d < n) (henv : SameEnv w w' := by first | exact ⟨rfl, rfl, rfl⟩ | assumption) :
    ∃ G', Post n (e0.puts (t.lay (some d) (sh, cs)).ws) a w G0 (a.put (some d) u) w' G' := by
  have hat := ht.dst d hd
  have hlen' : d < e.length := Nat.lt_of_lt_of_le hdn h.elen
  simp only [Tr.lay]
  rw [(ht.put ((t.at d).lay sh cs) hlen').puts, hat]
  have := h.lay (w' := w') d sh cs vs Ls bk H hsize hsame hH hlen hcell hnd hsub hdead hbox (a.put (some d) u).tmps (by rw [put_size]; exact h.size)
    (fun t' ht' hn => by rw [put_tmps]; simp [Ne.symm ht'])
    (fun hn => by
      have hu : (a.put (some d) u).tmps[d]? = some u := by rw [put_tmps]; simp [h.size, hdn]
      revert hform
      cases sh <;> simp only [FormOf, FormIs] <;> intro q <;> first | trivial | (rw [hu, q]))
  refine ⟨_, this, ⟨fun b q1 q2 => ?st, fun s hs => ⟨(upd_ne _ _ (by omega)).trans (hst.vs s hs).1, fun j => by rw [show (G.lay d vs Ls bk H).lt s = G.lt s from upd_ne _ _ (by omega)]; exact (hst.vs s hs).2 j⟩, fun b t q1 q2 q3 => ?out⟩, hsize, put_defers _ _ _, henv⟩
  case st =>
    have how := (hst.still b q1 q2).2
    have hnH : b ∉ H := fun hb => by
      rcases (hH b hb).2.1 with g | g
      · exact g how
      · exact q2 g
    exact ⟨hsame b hnH q2, by simp [Gh.lay, hnH, how]⟩
  case out =>
    have hl : (e.set d ((e.get d).lay sh cs)).length = e0.length := by rw [List.length_set, ht.length]
    have q2 : e0.length ≤ t := by rw [← hl]; exact q2
    have how := (hst.out b t q1 q2 q3).2
    have hnH : b ∉ H := fun hb => by
      have := hHo b hb t how
      rw [ht.length] at this
      omega
    exact ⟨hsame b hnH q3, by simp [Gh.lay, hnH, how]⟩

theorem own_dst {t : Tr} {d : Option Nat} {v : Val} {ws : Writes} (h : t.own d v = some ws) : ∃ d', d = some d' ∧ (t.lay (some d') v).ws = ws := by
  cases d with
  | none => simp [Tr.own] at h
  | some d => simp only [Tr.own, Option.some.injEq] at h; exact ⟨d, rfl, h⟩

theorem take_d (vars : List Nat) : ∀ (cs : List C) (t : Tr), (t.take vars cs).1.d = t.d
  | [], t => rfl
  | c :: r, t => by
    simp only [Tr.take]
    split
    · split
      · split
        · rw [take_d vars r]; rfl
        · rw [take_d vars r]
      · rw [take_d vars r]
    · rw [take_d vars r]

theorem grab_d {t t' : Tr} {c : C} {k : K} {x : k.T} {d : Bool} (h : t.grab c k = some (t', x, d)) : t'.d = t.d := by
  cases c with
  | dat k' y => simp only [Tr.grab] at h; split at h <;> simp_all
  | nil => simp only [Tr.grab] at h; split at h <;> simp_all
  | ref s j rv sv p lo hi k1 =>
    simp only [Tr.grab] at h
    split at h
    · split at h
      · split at h
        · simp at h
        · split at h <;> (simp only [Option.some.injEq, Prod.mk.injEq] at h; obtain ⟨rfl, _⟩ := h; rfl)
      · simp at h
    · simp at h
  | _ => simp [Tr.grab] at h

theorem pack_d : ∀ (k : K) {t t' : Tr} {cs : List C} {x : k.T} {d : Bool}, t.pack k cs = some (t', x, d) → t'.d = t.d
  | .pair a b, t, t', cs, x, d, h => by
    simp only [Tr.pack] at h
    split at h
    · simp at h
    · rename_i h1
      split at h
      · simp at h
      · rename_i h2
        simp only [Option.some.injEq, Prod.mk.injEq] at h
        obtain ⟨rfl, _⟩ := h
        rw [pack_d b h2, pack_d a h1]
  | .int i, t, t', cs, x, d, h => by simp only [Tr.pack] at h; split at h <;> first | exact grab_d h | simp at h
  | .bool, t, t', cs, x, d, h => by simp only [Tr.pack] at h; split at h <;> first | exact grab_d h | simp at h
  | .str, t, t', cs, x, d, h => by simp only [Tr.pack] at h; split at h <;> first | exact grab_d h | simp at h
  | .list k, t, t', cs, x, d, h => by simp only [Tr.pack] at h; split at h <;> first | exact grab_d h | simp at h

theorem packs_d {k : K} : ∀ (css : List (List C)) {t t' : Tr} {l : List k.T} {d : Bool}, t.packs k css = some (t', l, d) → t'.d = t.d
  | [], t, t', l, d, h => by simp only [Tr.packs, Option.some.injEq, Prod.mk.injEq] at h; rw [h.1]
  | cs :: r, t, t', l, d, h => by
    simp only [Tr.packs] at h
    split at h
    · simp at h
    · rename_i h1
      split at h
      · simp at h
      · rename_i h2
        simp only [Option.some.injEq, Prod.mk.injEq] at h
        obtain ⟨rfl, _⟩ := h
        rw [packs_d r h2, pack_d k h1]

/-! ### Values as cells -/
theorem Rep.oneCell {d : Bool} {w : World} {k : K} {x : k.T} {L : LT} {v : Value} (h : Rep d w k x L [v]) : v.oneCell' = true := by
  induction k generalizing d L v with
  | int _ => simp only [Rep] at h; simp only [List.cons.injEq, and_true] at h; subst h; rfl
  | bool => simp only [Rep] at h; simp only [List.cons.injEq, and_true] at h; subst h; rfl
  | str => simp only [Rep] at h; simp only [List.cons.injEq, and_true] at h; subst h; rfl
  | list k _ =>
    simp only [Rep] at h
    obtain ⟨u, hu, h⟩ := h
    simp only [List.cons.injEq, and_true] at hu
    subst hu
    rcases h with ⟨_, _, a, cap, rfl, _⟩ | ⟨b, off, cap, rows, _, rfl, _⟩ <;> rfl
  | pair a b _ _ =>
    have := h.size
    simp only [K.size, List.length_singleton] at this
    have h1 := a.size_pos
    have h2 := b.size_pos
    omega

theorem sliceIs_one {sz m : Nat} {hd : Option (Nat × Nat × Nat)} {lo hi : Option Nat} {v : Value} (h : SliceIs sz m hd lo hi v) : v.oneCell' = true := by
  obtain ⟨_, _, h⟩ := h
  cases hd with
  | none => obtain ⟨a, rfl, _⟩ := h; rfl
  | some b => obtain ⟨b, off, cap⟩ := b; obtain ⟨_, o, rfl, _⟩ := h; rfl

theorem solid_one {n : Nat} {e : Env} {tm : Array Value} {w : World} {G : Gh} {get : Nat → Slot} (hs : Sees get e) {c : C} {v : Value} {L : LT} (hc : CellOk e w G c v L)
    (h : c.solid get = true) : v.oneCell' = true := by
  cases c with
  | dead => simp [C.solid] at h
  | nil => obtain rfl : v = .slice none 0 0 := hc; rfl
  | dat k x => exact Rep.oneCell hc.1
  | own rv sv d k l =>
    obtain ⟨h1, _⟩ := hc
    rcases h1 with ⟨_, _, a, cap, rfl, _⟩ | ⟨b, off, cap, rows, _, rfl, _⟩ <;> rfl
  | ref s j rv sv p lo hi k =>
    simp only [C.solid] at h
    obtain ⟨q, hq⟩ := Option.isSome_iff_exists.1 h
    obtain ⟨d, l⟩ := q
    obtain ⟨sv', k0, l0, q1, q2, q3⟩ := content_ok hs hq
    obtain ⟨m, hd, _, h4⟩ := CellOk.refFits hc q1 q2
    exact sliceIs_one h4
  | bptr s bv j => obtain ⟨_, _, b, o, rfl⟩ := hc; rfl
  | aptr s j rv sv p i c k => obtain ⟨⟨b, o, rfl⟩, _⟩ := hc; rfl
  | pim cs j => obtain ⟨b, o, vs, Ls, rfl, _⟩ := hc; rfl
  | fn f caps => obtain ⟨us, Ls, rfl, _⟩ := hc; rfl

theorem cells_one {v : Value} (h : v.oneCell' = true) : v.cells = #[v] := by cases v <;> first | rfl | (simp [Value.oneCell'] at h)

/-- The cells of a value that is whole. -/
theorem form_cells {n : Nat} {e : Env} {tm : Array Value} {w : World} {G : Gh} {get : Nat → Slot} (hs : Sees get e) {v : Val} {u : Value} {vs : List Value} {Ls : Nat → LT} (hv : ValOk e w G v u vs Ls)
    (hw : whole get v = true) : u.cells = vs.toArray ∧ ∀ x ∈ vs, x.oneCell' = true := by
  simp only [whole, Bool.and_eq_true, Bool.or_eq_true, decide_eq_true_eq] at hw
  obtain ⟨⟨hsh, hsolid⟩, h1⟩ := hw
  have hone : ∀ x ∈ vs, x.oneCell' = true := by
    intro x hx
    obtain ⟨j, hj⟩ := List.getElem?_of_mem hx
    have hlt : j < v.2.length := by rw [← hv.cells.len]; exact (List.getElem?_eq_some_iff.1 hj).1
    have hc := hv.cells.cell j _ x (List.getElem?_eq_getElem hlt) hj
    exact solid_one (n := n) (tm := tm) hs hc (List.all_eq_true.1 hsolid _ (List.getElem_mem hlt))
  refine ⟨?_, hone⟩
  rw [hv.form]
  cases hq : v.1 with
  | one =>
    rcases h1 with h1 | h1
    · rw [hq] at h1; cases h1
    · have : vs.length = 1 := by rw [hv.cells.len, h1]
      match vs, this with
      | [x], _ => exact cells_one (hone x (by simp))
  | agg => rfl
  | _ => rw [hq] at hsh; simp [Sh.isV] at hsh

section ops
variable {P : Program} {n : Nat} {e : Env} {a : Act} {w : World} {G : Gh} {get : Nat → Slot} {o : Oper} {x : Ctx} {ws : Writes}

theorem Begin.solid (hb : Begin n e a w G get o) {c : C} {v : Value} {L : LT} (hc : CellOk e w G c v L) (h : c.solid get = true) : v.oneCell' = true := solid_one (n := n) (tm := a.tmps) hb.sees hc h

/-! ### Least and greatest -/
theorem sound_max {c0 : Call} (hb : Begin n e a w G get o) (ho : o.op = .call c0) (hcb : c0.callee = .builtin .max) {k : IntKind} {p q : Int}
    (hc : opds get c0.args.toList = some [(.one, [.dat (.int k) p]), (.one, [.dat (.int k) q])])
    (h : some (Tr.lay { get, d := o.dst } o.dst (.one, [.dat (.int k) (if q > p then q else p)])).ws = some ws) : Sound P n e a w G o ws := by
  obtain ⟨y, z, hargs, hy, hz⟩ := opds_two hc
  obtain ⟨L, h1, _⟩ := hb.one (by simp [ho, Op.operands, Call.operands, hcb, hargs]) hy
  obtain ⟨M, h2, _⟩ := hb.one (by simp [ho, Op.operands, Call.operands, hcb, hargs]) hz
  obtain ⟨G', hp⟩ := hb.cell (int_ok e w G k _) rfl h
  refine Sound.value ?_ hp
  simp only [execOp, ho, resolve, hcb, hargs, Sem.run_bind, Sem.run_pure, Result.andThen_ok, invoke, builtin, Builtin.max_]
  simp [dat_int h1, dat_int h2, Builtin.max2]

theorem sound_min {c0 : Call} (hb : Begin n e a w G get o) (ho : o.op = .call c0) (hcb : c0.callee = .builtin .min) {k : IntKind} {p q : Int}
    (hc : opds get c0.args.toList = some [(.one, [.dat (.int k) p]), (.one, [.dat (.int k) q])])
    (h : some (Tr.lay { get, d := o.dst } o.dst (.one, [.dat (.int k) (if q < p then q else p)])).ws = some ws) : Sound P n e a w G o ws := by
  obtain ⟨y, z, hargs, hy, hz⟩ := opds_two hc
  obtain ⟨L, h1, _⟩ := hb.one (by simp [ho, Op.operands, Call.operands, hcb, hargs]) hy
  obtain ⟨M, h2, _⟩ := hb.one (by simp [ho, Op.operands, Call.operands, hcb, hargs]) hz
  obtain ⟨G', hp⟩ := hb.cell (int_ok e w G k _) rfl h
  refine Sound.value ?_ hp
  simp only [execOp, ho, resolve, hcb, hargs, Sem.run_bind, Sem.run_pure, Result.andThen_ok, invoke, builtin, Builtin.min_]
  simp [dat_int h1, dat_int h2, Builtin.min2]

/-! ### Parts of tuples -/
theorem cutVals_get : ∀ (ps : List (Option Nat)) (vs : List Value) (i : Nat) (q : Option Nat), ps[i]? = some q →
    (cutVals ps vs)[i]? = some (form (partSh q) ((vs.drop (tupOff ps i)).take (partN q)))
  | [], vs, i, q, h => by simp at h
  | none :: r, vs, 0, q, h => by
    simp only [List.getElem?_cons_zero, Option.some.injEq] at h
    subst h
    simp only [cutVals, List.getElem?_cons_zero, tupOff, List.drop_zero, partSh, partN, form]
    cases vs <;> simp
  | some m :: r, vs, 0, q, h => by
    simp only [List.getElem?_cons_zero, Option.some.injEq] at h
    subst h
    simp [cutVals, tupOff, partSh, partN, form]
  | none :: r, vs, i + 1, q, h => by
    simp only [List.getElem?_cons_succ] at h
    simp only [cutVals, List.getElem?_cons_succ, tupOff]
    rw [cutVals_get r _ i q h, List.drop_drop]
    rfl
  | some m :: r, vs, i + 1, q, h => by
    simp only [List.getElem?_cons_succ] at h
    simp only [cutVals, List.getElem?_cons_succ, tupOff]
    rw [cutVals_get r _ i q h, List.drop_drop]
    rfl

theorem sound_extract {y : Operand} {i : Nat} (hb : Begin n e a w G get o) (ho : o.op = .extract y i) (h : act x get o = some ws) : Sound P n e a w G o ws := by
  simp only [act, ho] at h
  split at h
  · rename_i ps cs hc
    split at h
    · rename_i q hq
      obtain ⟨vs, Ls, hval⟩ := hb.opd (by simp [ho, Op.operands]) hc
      have hv : ValOk e w G (partSh q, (cs.drop (tupOff ps i)).take (partN q)) (form (partSh q) ((vs.drop (tupOff ps i)).take (partN q))) ((vs.drop (tupOff ps i)).take (partN q)) (fun j => Ls (tupOff ps i + j)) :=
        ⟨(hval.cells.drop (tupOff ps i)).take (partN q), rfl, fun c hc => hval.noOwn c (List.mem_of_mem_drop (List.mem_of_mem_take hc)), fun bv => by cases q <;> simp [partSh], by cases q <;> simp [partSh]⟩
      obtain ⟨G', hp⟩ := hb.done hv h
      refine Sound.value ?_ hp
      simp only [execOp, ho]
      refine run_v ?_
      have hf : a.eval y = .tuple (cutVals ps vs).toArray := hval.form
      simp only [Instr.extract, hf, List.getElem?_toArray, cutVals_get ps vs i q hq]
      rfl
    · simp at h
  · simp at h

/-! ### Function values -/
theorem opds_get : ∀ (ys : List Operand) {vs : List Val}, opds get ys = some vs → vs.length = ys.length ∧ ∀ (i : Nat) y v, ys[i]? = some y → vs[i]? = some v → opd get y = some v
  | [], vs, h => by rw [opds_nil h]; simp
  | y :: r, vs, h => by
    obtain ⟨v, vs', rfl, h1, h2⟩ := opds_cons h
    obtain ⟨g1, g2⟩ := opds_get r h2
    refine ⟨by simp [g1], fun i y' v' hy hv => ?_⟩
    cases i with
    | zero => simp at hy hv; subst hy; subst hv; exact h1
    | succ i => simp at hy hv; exact g2 i y' v' hy hv

theorem ones_get : ∀ (vs : List Val) {cs : List C}, ones vs = some cs → vs = cs.map fun c => (Sh.one, [c])
  | [], cs, h => by simp only [ones, Option.some.injEq] at h; subst h; rfl
  | v :: r, cs, h => by
    simp only [ones] at h
    split at h
    · rename_i c cs' h1 h2
      simp only [Option.some.injEq] at h
      subst h
      rw [ones_get r h2]
      simp only [one?] at h1
      split at h1
      · simp only [Option.some.injEq] at h1; subst h1; rfl
      · simp at h1
    · simp at h

theorem CellOk.zero {c : C} {v : Value} {L : LT} (h : CellOk e w G c v L) (hf : c.isFn = false) : CellOk0 e w G c v L := by
  cases c with
  | fn f cs => simp [C.isFn] at hf
  | _ => exact h

theorem sound_makeFunc {f : Fn} {first caps : Array Operand} (hb : Begin n e a w G get o) (ho : o.op = .makeFunc f first caps) (h : act x get o = some ws) : Sound P n e a w G o ws := by
  simp only [act, ho] at h
  split at h
  · rename_i g vs hfirst hvs
    split at h
    · rename_i cs hcs
      split at h
      · rename_i hall
        obtain ⟨hl, hg⟩ := opds_get _ hvs
        have hv1 := ones_get vs hcs
        have hfirst' : first = #[] := by rw [← Array.toArray_toList (xs := first), hfirst]
        have cell : ∀ (i : Nat) y c, caps.toList[i]? = some y → cs[i]? = some c → ∃ L, CellOk e w G c (a.eval y) L ∧ c.isOwn = false := by
          intro i y c hy hc
          have := hg i y (.one, [c]) hy (by rw [hv1]; simp [hc])
          refine hb.one (by simp only [ho, Op.operands]; simp only [Array.mem_append]; exact .inr (Array.mem_toList_iff.1 (List.mem_of_getElem? hy))) this
        have hcl : cs.length = caps.toList.length := by rw [← hl, hv1]; simp
        have : ∀ i : Nat, ∃ L : LT, ∀ (y : Operand) (c : C), caps.toList[i]? = some y → cs[i]? = some c → CellOk e w G c (a.eval y) L ∧ c.isOwn = false := by
          intro i
          cases hy : caps.toList[i]? with
          | none => exact ⟨.leaf, by simp⟩
          | some y =>
            cases hc : cs[i]? with
            | none => exact ⟨.leaf, by simp⟩
            | some c =>
              obtain ⟨L, h1⟩ := cell i y c hy hc
              exact ⟨L, by simpa using h1⟩
        obtain ⟨Ls, hLs⟩ := Classical.axiomOfChoice this
        have hc : CellOk e w G (.fn g cs) (.func (.func g) #[] (caps.map a.eval)) .leaf := by
          refine ⟨caps.toList.map a.eval, Ls, by rw [← Array.toList_map, Array.toArray_toList], by rw [List.length_map, hcl], fun i c u hc hu => ?_⟩
          rw [List.getElem?_map] at hu
          cases hy : caps.toList[i]? with
          | none => rw [hy] at hu; simp at hu
          | some y =>
            rw [hy] at hu
            simp only [Option.map_some, Option.some.injEq] at hu
            subst hu
            obtain ⟨h1, h2⟩ := hLs i y c hy hc
            have h3 : c.isFn = false := by simpa using List.all_eq_true.1 hall c (List.mem_of_getElem? hc)
            exact ⟨h3, h2, h1.zero h3⟩
        obtain ⟨G', hp⟩ := hb.cell hc rfl h
        refine Sound.value ?_ hp
        simp only [execOp, ho]
        refine run_v ?_
        simp [Instr.makeFunc, hfirst']
      · simp at h
    · simp at h
  · simp at h

end ops

end Go.Mach
