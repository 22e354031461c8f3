/- The machine, parts Nm Nn No Np Nz. No condition: definitions and lemmas. -/
import Derived.Test.YtkegollaleklaaaGreatXH
import Derived.Laws.StructEq
import Derived.WalkKit
import Derived.ProofKit
import Derived.ChangeOld
import Derived.Below
import Derived.SizedLaws
namespace Go.Mach
set_option linter.unusedVariables false
set_option linter.unusedSimpArgs false
theorem sameCs_cons {c : C} {cs es : List C} {b : Bool} (h : sameCs (c :: cs) es = some b) : ∃ k p q ds b', c = .dat (.int k) p ∧ es = .dat (.int k) q :: ds ∧ sameCs cs ds = some b' ∧ b = ((p == q) && b') := by
 cases es with
 | nil => cases c with
  | dat k x => cases k <;> simp [sameCs] at h
  | _ => simp [sameCs] at h
 | cons d ds =>
  cases c with
  | dat k x =>
   cases k with
   | int k =>
    cases d with
    | dat k' y =>
     cases k' with
     | int k' =>
      simp only [sameCs] at h
      split at h
      ·rename_i hk
       subst hk
       cases hq : sameCs cs ds with
       | none => rw [hq] at h; simp at h
       | some r =>
        rw [hq] at h
        simp only [Option.map_some, Option.some.injEq] at h
        exact ⟨_, _, _, _, _, rfl, rfl, hq, h.symm⟩
      ·simp at h
     | _ => simp [sameCs] at h
    | _ => simp [sameCs] at h
   | _ => simp [sameCs] at h
  | _ => simp [sameCs] at h
theorem sameCs_nil {es : List C} {b : Bool} (h : sameCs [] es = some b) : es = [] ∧ b = true := by
 cases es with
 | nil => simp only [sameCs, Option.some.injEq] at h; exact ⟨rfl, h.symm⟩
 | cons d ds => simp [sameCs] at h
theorem sameCs_len : ∀ {cs ds : List C} {b : Bool}, sameCs cs ds = some b → ds.length = cs.length
 | [], ds, b, h => by rw [(sameCs_nil h).1]
 | c :: cs, ds, b, h => by
  obtain ⟨k, p, q, ds', b', _, rfl, h1, _⟩ := sameCs_cons h
  simp [sameCs_len h1]
section
variable {P : Program} {e : Env} {w : World} {G : Gh}
theorem part_int {t : Nat} {k : IntKind} (hu : P.underlying t = some (.int k)) {inf : TypeInfo} (hi : P.info? t = some inf) (hs : inf.size = 1) (vs : List Value) (i : Nat) (v : Value) (hv : vs[i]? = some v) (w : World) :
  (part t vs.toArray i).run P w = .ok v w := by
 have hok : (tyOf P t).ok = true := by simp [tyOf, hi, hu, hs]
 have hsz : (tyOf P t).size = 1 := by simp [tyOf, hi, hs]
 have hag : (tyOf P t).agg = false := by simp [Ti.agg, tyOf, hi, tyD, hu]
 have hil : i < vs.length := (List.getElem?_eq_some_iff.1 hv).1
 rw [run_part hok vs i (by omega) w, hsz]
 simp only [partShape, hag, form]
 have : (vs.drop i).take 1 = [v] := by
  rw [List.getElem?_eq_getElem hil] at hv
  simp only [Option.some.injEq] at hv
  rw [← hv]
  rw [List.drop_eq_getElem_cons hil]
  rfl
 simp [this]
theorem eqFields_run : ∀ {fs : List Field} {i : Nat} {cs ds : List C} {us vs : List Value} {b : Bool}, intFields P i fs = true → fs.length = cs.length → sameCs cs ds = some b →
  (∀ (j : Nat) c v, cs[j]? = some c → us[i + j]? = some v → ∃ L, CellOk e w G c v L) → (∀ (j : Nat) c v, ds[j]? = some c → vs[i + j]? = some v → ∃ L, CellOk e w G c v L) →
  i + cs.length ≤ us.length → i + cs.length ≤ vs.length → (Op.eqFields 9999 us.toArray vs.toArray fs).run P w = .ok b w
 | [], i, cs, ds, us, vs, b, _, hl, hs, _, _, _, _ => by
  have : cs = [] := List.eq_nil_of_length_eq_zero (by simpa using hl.symm)
  subst this
  rw [(sameCs_nil hs).2]
  rfl
 | f :: fs, i, [], ds, us, vs, b, _, hl, _, _, _, _, _ => by simp at hl
 | f :: fs, i, c :: cs, es, us, vs, b, hf, hl, hs, hu, hv, hlu, hlv => by
  obtain ⟨k1, p, q, ds, b', rfl, rfl, hq, rfl⟩ := sameCs_cons hs
  simp only [intFields, Bool.and_eq_true] at hf
  obtain ⟨⟨⟨⟨f1, f2⟩, f3⟩, f4⟩, f5⟩ := hf
  have f1 : f.name ≠ "_" := by simpa using f1
  have f2 := Nat.eq_of_beq_eq_true f2
  cases hi : P.info? f.type with
  | none => rw [hi] at f4; simp at f4
  | some inf =>
   rw [hi] at f4
   have f4 := Nat.eq_of_beq_eq_true f4
   split at f3
   ·rename_i k hk
    simp only [List.length_cons] at hlu hlv
    obtain ⟨u, hu0⟩ : ∃ u, us[i]? = some u := ⟨_, List.getElem?_eq_getElem (by omega)⟩
    obtain ⟨v, hv0⟩ : ∃ v, vs[i]? = some v := ⟨_, List.getElem?_eq_getElem (by omega)⟩
    obtain ⟨L1, c1⟩ := hu 0 _ u rfl (by simpa using hu0)
    obtain ⟨L2, c2⟩ := hv 0 _ v rfl (by simpa using hv0)
    have hpu := part_int (P := P) hk hi f4 us i u hu0 w
    have hpv := part_int (P := P) hk hi f4 vs i v hv0 w
    rw [dat_int c1] at hpu
    rw [dat_int c2] at hpv
    have ih := eqFields_run (fs := fs) (i := i + 1) (cs := cs) (ds := ds) (us := us) (vs := vs) f5 (by simpa using hl) hq
     (fun j c v a b => hu (j + 1) c v (by simpa using a) (by rw [show i + (j + 1) = i + 1 + j by omega]; exact b))
     (fun j c v a b => hv (j + 1) c v (by simpa using a) (by rw [show i + (j + 1) = i + 1 + j by omega]; exact b)) (by omega) (by omega)
    simp only [Op.eqFields, f1, ne_eq, not_false_eq_true, if_true, Sem.run_bind, f2, hpu, hpv, Result.andThen_ok]
    rw [run_equalIn_int w 9998 f.type k1 k p q hk]
    simp only [Result.andThen_ok]
    cases hpq : (p == q) with
    | true => simpa using ih
    | false => simp
   ·simp at f3
theorem agg_sound {P : Program} {x : Ctx} (hty : ∀ t, x.ty t = tyOf P t) {e : Env} {a : Act} {w : World} {G : Gh} {get : Nat → Slot} {o : Oper} {op : BinOp} {ty yt : TypeId} {y z : Operand} {cs ds : List C} {ws : Writes}
  (hb : Begin x.n e a w G get o) (ho : o.op = .binOp op ty y z yt) (hy : opd get y = some (.agg, cs)) (hz : opd get z = some (.agg, ds)) (h : act x get o = some ws) : Sound P x.n e a w G o ws := by
 simp only [act, ho, hy, hz] at h
 split at h
 ·rename_i heq
  rw [hty] at heq
  obtain ⟨us, Ls, hvu⟩ := hb.opd (by simp [ho, Op.operands]) hy
  obtain ⟨vs, Ms, hvv⟩ := hb.opd (by simp [ho, Op.operands]) hz
  have heqI : eqInts P ty = some cs.length := by
   unfold tyOf at heq
   split at heq
   ·exact heq
   ·simp at heq
  unfold eqInts at heqI
  split at heqI
  ·rename_i fs hu
   split at heqI
   ·rename_i hc
    simp only [Bool.and_eq_true, Bool.not_eq_true'] at hc
    obtain ⟨⟨hf, hst⟩, hgd⟩ := hc
    simp only [Option.some.injEq] at heqI
    have hfo : P.fieldsOf ty = fs := by simp [Program.fieldsOf, hu]
    have hun : P.underlying ty = some (.struct (P.fieldsOf ty)) := by rw [hfo, hu]
    have key : ∀ b, sameCs cs ds = some b → (Op.equalIn 10000 ty (a.eval y) (a.eval z)).run P w = .ok b w := by
     intro b hs
     have h1 : a.eval y = .agg us.toArray := hvu.form
     have h2 : a.eval z = .agg vs.toArray := hvv.form
     rw [h1, h2, run_equalIn_agg w 9999 ty _ _ hun hst, hfo]
     have hdl := sameCs_len hs
     exact eqFields_run (P := P) (i := 0) hf (by simpa using heqI) hs
      (fun j c v a b => ⟨_, hvu.cells.cell j c v a (by simpa using b)⟩) (fun j c v a b => ⟨_, hvv.cells.cell j c v a (by simpa using b)⟩)
      (by rw [Nat.zero_add]; exact Nat.le_of_eq hvu.cells.len.symm) (by rw [Nat.zero_add, ← hdl]; exact Nat.le_of_eq hvv.cells.len.symm)
    have hguard : ∀ op, (eqGuard op ty y z (a.eval y) (a.eval z)).run P w = .ok () w := by
     intro op
     have h1 : a.eval y = .agg us.toArray := hvu.form
     have h2 : a.eval z = .agg vs.toArray := hvv.form
     rw [h1, h2]
     exact run_eqGuard_agg w op ty y z _ _ hgd
    split at h
    ·rename_i b hs
     obtain ⟨G', hp⟩ := hb.cell (bool_ok e w G b) rfl h
     refine Sound.value ?_ hp
     have h1 : a.eval y = .agg us.toArray := hvu.form
     have h2 : a.eval z = .agg vs.toArray := hvv.form
     have hk := key b hs
     have hg := hguard .eql
     simp only [execOp, ho]
     rw [h1, h2] at hk hg ⊢
     exact run_v (by simp only [Sem.run_bind, hg, Result.andThen_ok, run_eql_struct, hk])
    ·rename_i b hs
     obtain ⟨G', hp⟩ := hb.cell (bool_ok e w G (!b)) rfl h
     refine Sound.value ?_ hp
     have h1 : a.eval y = .agg us.toArray := hvu.form
     have h2 : a.eval z = .agg vs.toArray := hvv.form
     have hk := key b hs
     have hg := hguard .neq
     simp only [execOp, ho]
     rw [h1, h2] at hk hg ⊢
     exact run_v (by simp only [Sem.run_bind, hg, Result.andThen_ok, run_neq_struct, hk])
    ·simp at h
   ·simp at heqI
  ·simp at heqI
 ·simp at h
end
theorem ctxOf_sound {P : Program} [Tabs P] {fn : Func} {bk : Book} (hbk : BookOk P bk) : CtxOk P (ctxOf P fn bk) :=
 ctxOf_ok hbk fun hb ho h1 h2 h => agg_sound (x := ctxOf P fn bk) (fun _ => rfl) hb ho h1 h2 h
end Go.Mach
namespace Go.Mach
open Go.RowKit
set_option linter.unusedVariables false
set_option linter.unusedSimpArgs false
def fieldsK (P : Program) (g : Nat → Option K) : Nat → List Field → Option K
 | _, [] => none
 | off, [f] => match g f.type with
  | some k => if Nat.beq f.offset off && Nat.beq (P.cellsOf f.type) k.size then some k else none
  | none => none
 | off, f :: f' :: r => match g f.type, fieldsK P g (off + P.cellsOf f.type) (f' :: r) with
  | some a, some b => if Nat.beq f.offset off && Nat.beq (P.cellsOf f.type) a.size then some (.pair a b) else none
  | _, _ => none
def tyRep (P : Program) : Nat → Nat → Option K
 | 0, _ => none
 | n + 1, t => match P.underlying t with
  | some (.int k) => some (.int k)
  | some .bool => some .bool
  | some .string => some .str
  | some (.slice e) => match tyRep P n e with
   | some k => if Nat.beq (P.cellsOf e) k.size then some (.list k) else none
   | none => none
  | some (.struct fs) => match fieldsK P (tyRep P n) 0 fs.toList with
   | some k => if Nat.beq (P.cellsOf t) k.size then some k else none
   | none => none
  | _ => none
def Wf : (k : K) → k.T → Prop
 | .int k, n => (Lit.int k n).wf = true
 | .bool, _ => True
 | .str, s => s.length ≤ maxLen
 | .list k, l => l.length ≤ maxLen ∧ ∀ x ∈ l, Wf k x
 | .pair a b, x => Wf a x.1 ∧ Wf b x.2
theorem trod_fields {H : Type} {enc : TypeId × Value → H} {P : Program} {w : World} {base : Nat} {spare : Nat → Bool} {held : Bool} {n : Nat} {g : Nat → Option K}
  (hg : ∀ t k cs (x : DataW H × List MemPlace), g t = some k → DataW.trod enc P w base spare held n t cs = some x → ∃ (y : k.T) (L : LT), Rep false w k y L cs ∧ Wf k y) (cs : List Value) :
  ∀ (fs : List Field) (off : Nat) (k : K), fieldsK P g off fs = some k → off + k.size ≤ cs.length → (∀ f ∈ fs, ∃ x, DataW.trod enc P w base spare held n f.type ((cs.drop f.offset).take (P.cellsOf f.type)) = some x) →
  ∃ (y : k.T) (L : LT), Rep false w k y L ((cs.drop off).take k.size) ∧ Wf k y
 | [], off, k, h, _, _ => by simp [fieldsK] at h
 | [f], off, k, h, hl, hf => by
  simp only [fieldsK] at h
  split at h
  ·rename_i k' hk
   split at h
   ·rename_i hq
    simp only [Bool.and_eq_true] at hq
    have h1 := Nat.eq_of_beq_eq_true hq.1
    have h2 := Nat.eq_of_beq_eq_true hq.2
    simp only [Option.some.injEq] at h
    subst h
    obtain ⟨x, hx⟩ := hf f (by simp)
    obtain ⟨y, L, r1, r2⟩ := hg _ _ _ _ hk hx
    rw [h1, h2] at r1
    exact ⟨y, L, r1, r2⟩
   ·simp at h
  ·simp at h
 | f :: f' :: r, off, k, h, hl, hf => by
  simp only [fieldsK] at h
  split at h
  ·rename_i a b ha hb
   split at h
   ·rename_i hq
    simp only [Bool.and_eq_true] at hq
    have h1 := Nat.eq_of_beq_eq_true hq.1
    have h2 := Nat.eq_of_beq_eq_true hq.2
    simp only [Option.some.injEq] at h
    subst h
    obtain ⟨x, hx⟩ := hf f (by simp)
    obtain ⟨y, L, r1, r2⟩ := hg _ _ _ _ ha hx
    simp only [K.size] at hl ⊢
    rw [h2] at hb
    obtain ⟨z, M, s1, s2⟩ := trod_fields hg cs (f' :: r) (off + a.size) b hb (by omega) (fun f0 hf0 => hf f0 (by simp only [List.mem_cons] at hf0 ⊢; exact .inr hf0))
    rw [h1, h2] at r1
    refine ⟨(y, z), .pair L M, ?_, r2, s2⟩
    simp only [Rep]
    refine ⟨L, M, _, _, rfl, ?_, r1, s1⟩
    rw [List.take_add, List.drop_drop]
   ·simp at h
  ·simp at h
theorem trod_rep {H : Type} {enc : TypeId × Value → H} {P : Program} {w : World} {base : Nat} {spare : Nat → Bool} {held : Bool} : ∀ (m : Nat) (n : Nat) (t : Nat) (k : K) (cs : List Value) (x : DataW H × List MemPlace),
  tyRep P m t = some k → DataW.trod enc P w base spare held n t cs = some x → ∃ (y : k.T) (L : LT), Rep false w k y L cs ∧ Wf k y
 | 0, n, t, k, cs, x, h, _ => by simp [tyRep] at h
 | m + 1, n, t, k, cs, x, h, hx => by
  simp only [tyRep] at h
  split at h
  ·rename_i ik hu
   simp only [Option.some.injEq] at h
   subst h
   obtain ⟨q, rfl, rfl, hw⟩ := DataW.trod_int hu hx
   exact ⟨q, .leaf, by simp [Rep], hw⟩
  ·rename_i hu
   simp only [Option.some.injEq] at h
   subst h
   obtain ⟨b, rfl, rfl⟩ := DataW.trod_bool hu hx
   exact ⟨b, .leaf, by simp [Rep], trivial⟩
  ·rename_i hu
   simp only [Option.some.injEq] at h
   subst h
   obtain ⟨s, rfl, rfl, hs⟩ := DataW.trod_string hu hx
   exact ⟨s.data.toList, .leaf, by simp [Rep], by simpa [Wf] using hs⟩
  ·rename_i e hu
   split at h
   ·rename_i k' hk
    split at h
    ·rename_i hsz
     have hsz := Nat.eq_of_beq_eq_true hsz
     simp only [Option.some.injEq] at h
     subst h
     rcases DataW.trod_slice hu hx with ⟨rfl, rfl⟩ | ⟨a, len, cap, elems, rest, n', rfl, rfl, rfl, hb, hl, hm, hlen, hel, _, _⟩
     ·refine ⟨[], .nil, ?_, by simp [Wf]⟩
      simp only [Rep]
      exact ⟨_, rfl, .inl ⟨rfl, rfl, none, 0, rfl, fun h => by cases h⟩⟩
     ·have hex : ∀ i : Nat, ∃ p : k'.T × LT, i < len → ∃ cs', w.cells? base (a.add (i * P.cellsOf e)) (P.cellsOf e) = some cs' ∧ Rep false w k' p.1 p.2 cs' ∧ Wf k' p.1 := by
       intro i
       by_cases hi : i < len
       ·have hel' := hel i hi
        rw [List.getElem?_eq_getElem (by omega)] at hel'
        simp only [Option.bind_eq_some_iff] at hel'
        obtain ⟨cs', h1, h2⟩ := hel'
        obtain ⟨y, L, r1, r2⟩ := trod_rep m n' e k' cs' _ hk h2
        exact ⟨(y, L), fun _ => ⟨cs', h1, r1, r2⟩⟩
       ·exact ⟨(k'.dflt, .leaf), fun q => absurd q hi⟩
      obtain ⟨f, hf⟩ := Classical.axiomOfChoice hex
      have hwf : Wf (.list k') ((List.range len).map fun i => (f i).1) := by
       refine ⟨by simp; omega, fun x hx => ?_⟩
       simp only [List.mem_map, List.mem_range] at hx
       obtain ⟨i, hi, rfl⟩ := hx
       obtain ⟨_, _, _, r⟩ := hf i hi
       exact r
      by_cases h0 : len = 0
      ·refine ⟨[], .nil, ?_, by simp [Wf]⟩
       simp only [Rep]
       refine ⟨_, rfl, .inl ⟨rfl, rfl, some a, cap, by rw [h0], fun h => by cases h⟩⟩
      ·have hspot : a.spot = none ∧ w.heap[a.block]? ≠ none := by
        obtain ⟨cs', h1, _, _⟩ := hf 0 (by omega)
        obtain ⟨_, _, h3⟩ := World.cells?_some h1
        have hpos : 0 < P.cellsOf e := by rw [hsz]; exact k'.size_pos
        have := h3 0 hpos
        have hcell : w.cell? a ≠ none := by
         have h4 : (a.add (0 * P.cellsOf e)).add 0 = a := by simp [Addr.add]
         rw [h4] at this
         rw [this]
         have hl' : 0 < cs'.length := by
          have := (World.cells?_some h1).2.1
          omega
         simp [List.getElem?_eq_getElem hl']
        simp only [World.cell?] at hcell
        cases hh : w.heap[a.block]? with
        | none => rw [hh] at hcell; simp at hcell
        | some o =>
         rw [hh] at hcell
         refine ⟨?_, by simp⟩
         cases o <;> simp at hcell
         cases hs : a.spot with
         | none => rfl
         | some _ => rw [hs] at hcell; simp at hcell
       obtain ⟨b, off, sp⟩ := a
       simp only at hspot
       obtain ⟨rfl, hheap⟩ := hspot
       refine ⟨(List.range len).map fun i => (f i).1, .node b off cap ((List.range len).map fun i => (f i).2), ?_, hwf⟩
       simp only [Rep]
       refine ⟨_, rfl, .inr ⟨b, off, cap, _, rfl, by simp, by simpa using hl, by simp, hheap, (fun h => by cases h), fun i y r hy hr => ?_⟩⟩
       have hi : i < len := by
        have := (List.getElem?_eq_some_iff.1 hy).1
        simpa using this
       simp only [List.getElem?_map, List.getElem?_range hi, Option.map_some, Option.some.injEq] at hy hr
       subst hy hr
       obtain ⟨cs', h1, r1, _⟩ := hf i hi
       obtain ⟨_, h2, h3⟩ := World.cells?_some h1
       refine ⟨cs', fun j v hj => ?_, r1⟩
       have hjl : j < P.cellsOf e := by rw [← h2]; exact (List.getElem?_eq_some_iff.1 hj).1
       have h4 := h3 j hjl
       rw [hj] at h4
       rw [← h4, ← hsz]
       congr 1
       simp only [Addr.add]
       split <;> split <;> simp_all [Nat.add_assoc]
    ·simp at h
   ·simp at h
  ·rename_i fs hu
   split at h
   ·rename_i k' hk
    split at h
    ·rename_i hsz
     have hsz := Nat.eq_of_beq_eq_true hsz
     simp only [Option.some.injEq] at h
     subst h
     obtain ⟨xs, n', rfl, rfl, hl, hxl, hf⟩ := DataW.trod_struct hu hx
     have := trod_fields (P := P) (w := w) (base := base) (spare := spare) (held := held) (n := n') (enc := enc) (g := tyRep P m) (fun t k cs x h1 h2 => trod_rep m n' t k cs x h1 h2) cs fs.toList 0 k' hk (by omega) (fun f hfm => by
      obtain ⟨i, hi⟩ := List.getElem?_of_mem hfm
      have h1 := hf i f (by simpa using hi)
      have hil : i < xs.length := by rw [hxl]; have := (List.getElem?_eq_some_iff.1 hi).1; simpa using this
      rw [List.getElem?_eq_getElem hil] at h1
      exact ⟨_, h1⟩)
     obtain ⟨y, L, r1, r2⟩ := this
     rw [List.drop_zero, List.take_of_length_le (by omega)] at r1
     exact ⟨y, L, r1, r2⟩
    ·simp at h
   ·simp at h
  ·simp at h
end Go.Mach
namespace Go.Mach
open Go.RowKit
set_option linter.unusedVariables false
set_option linter.unusedSimpArgs false
def topV (g : Bool × Sg) : Val := (match g.1 with | true => .agg | false => .one, (leaves g.2.1 g.2.2).map fun g => .dat g.1 g.2)
def TopK (W : World) (g : Bool × Sg) (u : Value) : Prop := ∃ L vs, Rep false W g.2.1 g.2.2 L vs ∧ u = form (topV g).1 vs
def isStruct (P : Program) (t : Nat) : Bool := match P.underlying t with
 | some (.struct _) => true
 | _ => false
theorem topK_of {H : Type} {enc : TypeId × Value → H} {P : Program} {w : World} {sp : Nat → Bool} {held : Bool} {m t : Nat} {k : K} (hk : tyRep P m t = some k) {r : Reach} {b0 base : Nat} {v : Value} {d : DataW H} {ps : List MemPlace}
  (hval : Value.okWide P w r b0 t v) (hd : DataW.Trod enc P w base sp held t v d ps) : ∃ y : k.T, Wf k y ∧ TopK w (isStruct P t, ⟨k, y⟩) v := by
 obtain ⟨n, hd⟩ := hd
 obtain ⟨y, L, h1, h2⟩ := trod_rep m n t k _ _ hk hd
 refine ⟨y, h2, L, _, h1, ?_⟩
 cases m with
 | zero => simp [tyRep] at hk
 | succ m =>
  simp only [tyRep] at hk
  split at hk
  ·rename_i q hu
   obtain ⟨z, rfl⟩ := Go.WideShapes.okWide_int hu hval
   simp [topV, isStruct, hu, form, Value.cells]
  ·rename_i hu
   obtain ⟨z, rfl⟩ := Go.WideShapes.okWide_bool hu hval
   simp [topV, isStruct, hu, form, Value.cells]
  ·rename_i hu
   obtain ⟨z, rfl⟩ := Go.WideShapes.okWide_string hu hval
   simp [topV, isStruct, hu, form, Value.cells]
  ·rename_i e hu
   obtain ⟨a, len, cap, rfl⟩ := Go.WideShapes.okWide_slice hu hval
   simp [topV, isStruct, hu, form, Value.cells]
  ·rename_i fs hu
   obtain ⟨cs, rfl, _⟩ := Go.WideShapes.okWide_struct hu hval
   simp [topV, isStruct, hu, form, Value.cells]
  ·simp at hk
theorem sendCs_dat {t : Tr} {lent : List (Nat × Nat)} : ∀ {cs : List C}, (∀ c ∈ cs, ∃ k x, c = .dat k x) → sendCs t lent cs = some cs
 | [], _ => rfl
 | c :: r, h => by
  obtain ⟨k, x, rfl⟩ := h c (by simp)
  have ih := sendCs_dat (t := t) (lent := lent) (cs := r) fun c hc => h c (by simp [hc])
  simp only [sendCs, sendC, snap, ih]
theorem law_calls {P : Program} [Tabs P] {f : Nat} {t : FEnt} (hok : FnOk P f t) (hmd : t.md = []) (d : AsT t.args) (b : t.out.T) (hT : t.T d = some b) {r : Bool} (hret0 : (retOf t.n t.results [] (encA t.args d) (t.out.enc b)).map (·.1) = some (.one, [.dat .bool r]))
  (gs : List (Bool × Sg)) (hgs : encA t.args d = gs.map topV) {W : World} {us : List Value} (hlen : us.length = gs.length) (hus : ∀ (i : Nat) g u, gs[i]? = some g → us[i]? = some u → TopK W g u)
  (hlaid : ∀ t ∈ Tabs.tab P, ∃ o, W.heap[t.1]? = some o ∧ t.2 o) :
  Calls P f us.toArray W fun e W' => e = .returned (.bool r) ∧ Below W.heap.size W W' := by
 obtain ⟨os, hret⟩ : ∃ os, retOf t.n t.results [] (encA t.args d) (t.out.enc b) = some ((.one, [.dat .bool r]), os) := by
  cases hq : retOf t.n t.results [] (encA t.args d) (t.out.enc b) with
  | none => rw [hq] at hret0; simp at hret0
  | some z =>
   rw [hq] at hret0
   simp only [Option.map_some, Option.some.injEq] at hret0
   exact ⟨z.2, by rw [← hret0]⟩
 obtain ⟨hN, fn, _, _, _, hrv, hcall⟩ := hok
 let G : Gh := { vs := fun _ => [], lt := fun _ _ => .leaf, bk := fun _ => 0, ow := fun _ => none }
 have hi : Inv 0 [] #[] W G := ⟨rfl, Nat.le_refl _, fun s => SlotOk.nothing (get_out (by simp)), fun b s h => by simp [G] at h⟩
 have hal : (encA t.args d).length = t.args.length := encA_length
 have hgl : gs.length = t.args.length := by rw [← hal, hgs]; simp
 have hdat : ∀ v ∈ encA t.args d, ∀ c ∈ v.2, ∃ k x, c = C.dat k x := by
  intro v hv c hc
  rw [hgs] at hv
  simp only [List.mem_map] at hv
  obtain ⟨g, _, rfl⟩ := hv
  simp only [topV, List.mem_map] at hc
  obtain ⟨g', _, rfl⟩ := hc
  exact ⟨_, _, rfl⟩
 have hargs : ArgsOk [] W G (encA t.args d) us := by
  refine ⟨by rw [hal, hlen, hgl], fun i v u hv hu => ?_⟩
  rw [hgs] at hv
  simp only [List.getElem?_map] at hv
  cases hg : gs[i]? with
  | none => rw [hg] at hv; simp at hv
  | some g =>
   rw [hg] at hv
   simp only [Option.map_some, Option.some.injEq] at hv
   subst hv
   obtain ⟨L, vs, h1, h2⟩ := hus i g u hg hu
   have hvl := h1.size
   refine ⟨vs, fun j => leafL g.2.1 L j, ⟨⟨by simp only [topV, List.length_map, leaves_length]; exact hvl, fun j c x hc hx => ?_⟩, h2, ?_, ?_, ?_⟩⟩
   ·simp only [topV, List.getElem?_map] at hc
    have hjl : j < g.2.1.size := by rw [← hvl]; exact (List.getElem?_eq_some_iff.1 hx).1
    rw [leaves_get g.2.1 g.2.2 j hjl] at hc
    simp only [Option.map_some, Option.some.injEq] at hc
    subst hc
    obtain ⟨v, q1, q2, _⟩ := h1.leaf hjl
    rw [hx] at q1
    simp only [Option.some.injEq] at q1
    subst q1
    exact ⟨q2, fun b _ => rfl⟩
   ·intro c hc
    simp only [topV, List.mem_map] at hc
    obtain ⟨g', _, rfl⟩ := hc
    rfl
   ·intro bv; simp only [topV]; cases g.1 <;> simp
   ·simp only [topV]; cases g.1 <;> simp
 have ht : Sees (Tr.at { get := Env.get [] }) [] := fun s => .inl rfl
 obtain ⟨Gc, hi0, how⟩ := start_inv hi ht hargs rfl (fun j v v' h1 h2 => by
  rw [h1] at h2
  simp only [Option.some.injEq] at h2
  subst h2
  exact ⟨rfl, sendCs_dat (hdat v (List.mem_of_getElem? h1))⟩) (N := t.n) (by rw [hal]; exact hN) [] (fun v hv s hs => by
   exfalso
   simp only [List.mem_flatMap] at hs
   obtain ⟨c, hc, hs⟩ := hs
   obtain ⟨k, x, rfl⟩ := hdat v hv c hc
   simp [readCell, C.targets] at hs) (t.n + 2 * t.args.length)
 refine (hcall d b hT (by rw [hmd, hret]; rfl) us W Gc (by rw [hlen, hgl]) (by rw [hmd]; exact hi0) (fun z hz => ⟨hlaid z hz, by rw [how]; simp [owIn, G]⟩)).mono ?_
 rintro en w1 ⟨tm1, G1, u1, rfl, hrun1, hi1, hh, hsz, hle, henv⟩
 obtain ⟨e2, G2, H, us', Ls, bk, hr, _⟩ := ret_ok hrv hi1 hret
 have hul := hr.len
 match us', hul with
 | [u], _ =>
  have hc := hr.cell 0 _ u rfl rfl
  simp only [ResOk, Rep] at hc
  have hu : u = .bool r := by simpa using hc.1
  have hres : u1 = resForm .one [u] bk := by
   have := hrun1.symm.trans hr.res
   simpa using this
  refine ⟨by rw [hres, hu]; rfl, henv.os, henv.tape, henv.output, hsz, fun k hk => ?_⟩
  refine (hh.still k ?_ (by simp [hk])).1
  rw [how]
  rfl
end Go.Mach
namespace Go.Mach
set_option linter.unusedVariables false
set_option linter.unusedSimpArgs false
def isLoop : Code → Bool
 | .loop _ => true
 | _ => false
def bodyK (n : Nat) (t : NEnt) : Ex → Env → Option (t.P.T ⊕ OutT t.outs)
 | .normal, e => (t.P.dec n e).map .inl
 | ex, e => (decOut n t.outs ex e).map .inr
theorem nodeLoop {x : Ctx} {bk : Book} {tb : Tab} {root : Code} {pos : Nat} {t : NEnt} (hl : isLoop (sub root pos) = true) (S : t.P.T → Option (t.P.T ⊕ OutT t.outs)) (hT : t.T = fun d => iter S bigN d)
  (hrun : ∀ d, runD x bk tb (2 * pos) (childC 0 (sub root pos)) (t.P.enc d) (bodyK x.n t) = S d) : NodeOk x bk tb root pos t := by
 left
 cases hs : sub root pos <;> rw [hs] at hl <;> simp [isLoop] at hl
 rename_i a
 refine ⟨a, rfl, S, hT, fun d => ?_⟩
 have := hrun d
 rw [hs] at this
 have hk : (bodyK x.n t) = fun ex e => match ex with | .normal => (t.P.dec x.n e).map .inl | ex => (decOut x.n t.outs ex e).map .inr := by
  funext ex e
  cases ex <;> rfl
 rw [hk] at this
 exact this
theorem nodeJoin {x : Ctx} {bk : Book} {tb : Tab} {root : Code} {pos : Nat} {t : NEnt} (hl : isLoop (sub root pos) = false)
  (hrun : ∀ d, runD x bk tb pos (sub root pos) (t.P.enc d) (decOut x.n t.outs) = t.T d) : NodeOk x bk tb root pos t := by
 right
 refine ⟨hrun, fun a h => ?_⟩
 rw [h] at hl
 simp [isLoop] at hl
def entOk (fn : Func) (bk : Book) (t : FEnt) : Bool :=
 Nat.beq fn.ntmps t.n && Nat.ble t.args.length t.n && Nat.ble t.n 1000000 && !(fn.name == "runtime.NumGoroutine")
theorem fnOk_mk {P : Program} [Tabs P] {f : Nat} {fn : Func} {c : Code} {bk : Book} {tb : Tab} {t : FEnt} (hm : P.follows .mixedOrders = true) (hf : P.funcs[f]? = some fn) (hbk : BookOk P bk) (hb : fn.body = some c) (hres : rvsB P fn.results.toList t.results = true)
  (hok : entOk fn bk t = true) (hnodes : Nodes (ctxOf P fn bk) bk tb c tb)
  (hrun : ∀ d, runD (ctxOf P fn bk) bk tb 1 c (startE t.n t.md (encA t.args d)) (finK (n := t.n) t.out) = t.T d) : FnOk P f t := by
 simp only [entOk, Bool.and_eq_true] at hok
 obtain ⟨⟨⟨h1, h2⟩, h4⟩, h7⟩ := hok
 exact fnOk_of_run (ctxOf_sound hbk) hf hb (Nat.eq_of_beq_eq_true h1) hres (Nat.le_of_ble_eq_true h2) (Nat.le_of_ble_eq_true h4) (by simpa using h7) hm hnodes hrun
end Go.Mach
namespace Go.Mach
open Go.RowKit
set_option linter.unusedVariables false
set_option linter.unusedSimpArgs false
theorem SlotOk.deadOne {n : Nat} {e : Env} {tm : Array Value} {w : World} {G : Gh} {s : Nat} (h : e.get s = dd) : SlotOk n e tm w G s := by
 refine ⟨?_, ?_, ?_, ?_, ?_, ?_, ?_, ?_⟩ <;> rw [h]
 ·intro _; trivial
 ·intro bv hb; cases hb
 ·intro hh; exact absurd rfl hh
 ·intro hh; exact absurd rfl hh
 ·intro hh; exact absurd rfl hh
 ·simp [fpS, dd]
 ·simp [fpS, dd]
 ·intro _; rfl
theorem get_over {e : Env} {t : Nat} (h : e.length ≤ t) : e.get t = {} := get_out (by omega)
theorem encE_one : ∀ (m i t : Nat) (p : SP) (d : CsT p.cs), t < m → Env.get (encE i m [p] d) t = if p.s = i + t then encS p d else dd := by
 intro m
 induction m with
 | zero => intro i t p d h; omega
 | succ m ih =>
  intro i t p d h
  simp only [encE]
  cases hb : Nat.beq p.s i with
  | true =>
   have hb' := Nat.eq_of_beq_eq_true hb
   cases t with
   | zero => simp [Env.get, hb']
   | succ t =>
    have := encE_nil m (i + 1) t (by omega)
    rw [if_neg (by omega)]
    simpa [Env.get] using this
  | false =>
   have hb' : p.s ≠ i := fun q => by rw [q] at hb; simp at hb
   cases t with
   | zero => simp [Env.get, hb']
   | succ t =>
    have := ih (i + 1) t p d (by omega)
    rw [show i + (t + 1) = i + 1 + t by omega]
    simpa [Env.get] using this
end Go.Mach
