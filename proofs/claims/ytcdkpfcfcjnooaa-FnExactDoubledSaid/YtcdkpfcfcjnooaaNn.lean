/- The machine, part nn: the arguments of a law, as they come in, are data of the machine; a law's call. No condition: lemmas. -/
import Derived.Test.YtcdkpfcfcjnooaaNm
import Derived.WalkKit
import Derived.ProofKit
import Derived.ChangeOld
import Derived.Below
import Derived.SizedLaws
namespace Go.Mach
open Go.RowKit
set_option linter.unusedVariables false
set_option linter.unusedSimpArgs false

/-- Fields one behind the other, as one kind. -/
def fieldsK (P : Program) (g : Nat → Option K) : Nat → List Field → Option K
  | _, [] => none
  | off, [f] => match g f.type with
    | some k => if Nat.beq f.offset off && Nat.beq (P.cellsOf f.type) k.size then some k else none
    | none => none
  | off, f :: f' :: r => match g f.type, fieldsK P g (off + P.cellsOf f.type) (f' :: r) with
    | some a, some b => if Nat.beq f.offset off && Nat.beq (P.cellsOf f.type) a.size then some (.pair a b) else none
    | _, _ => none

/-- The kind of a type, where it is laid out so. -/
def tyRep (P : Program) : Nat → Nat → Option K
  | 0, _ => none
  | n + 1, t => match P.underlying t with
    | some (.int k) => some (.int k)
    | some .bool => some .bool
    | some .string => some .str
    | some (.slice e) => match tyRep P n e with
      | some k => if Nat.beq (P.cellsOf e) k.size then some (.list k) else none
      | none => none
    | some (.struct fs) => match fieldsK P (tyRep P n) 0 fs.toList with
      | some k => if Nat.beq (P.cellsOf t) k.size then some k else none
      | none => none
    | _ => none

/-- Data in bounds. -/
def Wf : (k : K) → k.T → Prop
  | .int k, n => (Lit.int k n).wf = true
  | .bool, _ => True
  | .str, s => s.length ≤ maxLen
  | .list k, l => l.length ≤ maxLen ∧ ∀ x ∈ l, Wf k x
  | .pair a b, x => Wf a x.1 ∧ Wf b x.2

theorem trod_fields {H : Type} {enc : TypeId × Value → H} {P : Program} {w : World} {base : Nat} {spare : Nat → Bool} {held : Bool} {n : Nat} {g : Nat → Option K}
    (hg : ∀ t k cs (x : DataW H × List MemPlace), g t = some k → DataW.trod enc P w base spare held n t cs = some x → ∃ (y : k.T) (L : LT), Rep false w k y L cs ∧ Wf k y) (cs : List Value) :
    ∀ (fs : List Field) (off : Nat) (k : K), fieldsK P g off fs = some k → off + k.size ≤ cs.length → (∀ f ∈ fs, ∃ x, DataW.trod enc P w base spare held n f.type ((cs.drop f.offset).take (P.cellsOf f.type)) = some x) →
    ∃ (y : k.T) (L : LT), Rep false w k y L ((cs.drop off).take k.size) ∧ Wf k y
  | [], off, k, h, _, _ => by simp [fieldsK] at h
  | [f], off, k, h, hl, hf => by
    simp only [fieldsK] at h
    split at h
    · rename_i k' hk
      split at h
      · rename_i hq
        simp only [Bool.and_eq_true] at hq
        have h1 := Nat.eq_of_beq_eq_true hq.1
        have h2 := Nat.eq_of_beq_eq_true hq.2
        simp only [Option.some.injEq] at h
        subst h
        obtain ⟨x, hx⟩ := hf f (by simp)
        obtain ⟨y, L, r1, r2⟩ := hg _ _ _ _ hk hx
        rw [h1, h2] at r1
        exact ⟨y, L, r1, r2⟩
      · simp at h
    · simp at h
  | f :: f' :: r, off, k, h, hl, hf => by
    simp only [fieldsK] at h
    split at h
    · rename_i a b ha hb
      split at h
      · rename_i hq
        simp only [Bool.and_eq_true] at hq
        have h1 := Nat.eq_of_beq_eq_true hq.1
        have h2 := Nat.eq_of_beq_eq_true hq.2
        simp only [Option.some.injEq] at h
        subst h
        obtain ⟨x, hx⟩ := hf f (by simp)
        obtain ⟨y, L, r1, r2⟩ := hg _ _ _ _ ha hx
        simp only [K.size] at hl ⊢
        rw [h2] at hb
        obtain ⟨z, M, s1, s2⟩ := trod_fields hg cs (f' :: r) (off + a.size) b hb (by omega) (fun f0 hf0 => hf f0 (by simp only [List.mem_cons] at hf0 ⊢; exact .inr hf0))
        rw [h1, h2] at r1
        refine ⟨(y, z), .pair L M, ?_, r2, s2⟩
        simp only [Rep]
        refine ⟨L, M, _, _, rfl, ?_, r1, s1⟩
        rw [List.take_add, List.drop_drop]
      · simp at h
    · simp at h

theorem trod_rep {H : Type} {enc : TypeId × Value → H} {P : Program} {w : World} {base : Nat} {spare : Nat → Bool} {held : Bool} : ∀ (m : Nat) (n : Nat) (t : Nat) (k : K) (cs : List Value) (x : DataW H × List MemPlace),
    tyRep P m t = some k → DataW.trod enc P w base spare held n t cs = some x → ∃ (y : k.T) (L : LT), Rep false w k y L cs ∧ Wf k y
  | 0, n, t, k, cs, x, h, _ => by simp [tyRep] at h
  | m + 1, n, t, k, cs, x, h, hx => by
    simp only [tyRep] at h
    split at h
    · rename_i ik hu
      simp only [Option.some.injEq] at h
      subst h
      obtain ⟨q, rfl, rfl, hw⟩ := DataW.trod_int hu hx
      exact ⟨q, .leaf, by simp [Rep], hw⟩
    · rename_i hu
      simp only [Option.some.injEq] at h
      subst h
      obtain ⟨b, rfl, rfl⟩ := DataW.trod_bool hu hx
      exact ⟨b, .leaf, by simp [Rep], trivial⟩
    · rename_i hu
      simp only [Option.some.injEq] at h
      subst h
      obtain ⟨s, rfl, rfl, hs⟩ := DataW.trod_string hu hx
      exact ⟨s.data.toList, .leaf, by simp [Rep], by simpa [Wf] using hs⟩
    · rename_i e hu
      split at h
      · rename_i k' hk
        split at h
        · rename_i hsz
          have hsz := Nat.eq_of_beq_eq_true hsz
          simp only [Option.some.injEq] at h
          subst h
          rcases DataW.trod_slice hu hx with ⟨rfl, rfl⟩ | ⟨a, len, cap, elems, rest, n', rfl, rfl, rfl, hb, hl, hm, hlen, hel, _, _⟩
          · refine ⟨[], .nil, ?_, by simp [Wf]⟩
            simp only [Rep]
            exact ⟨_, rfl, .inl ⟨rfl, rfl, none, 0, rfl, fun h => by cases h⟩⟩
          · have hex : ∀ i : Nat, ∃ p : k'.T × LT, i < len → ∃ cs', w.cells? base (a.add (i * P.cellsOf e)) (P.cellsOf e) = some cs' ∧ Rep false w k' p.1 p.2 cs' ∧ Wf k' p.1 := by
              intro i
              by_cases hi : i < len
              · have hel' := hel i hi
                rw [List.getElem?_eq_getElem (by omega)] at hel'
                simp only [Option.bind_eq_some_iff] at hel'
                obtain ⟨cs', h1, h2⟩ := hel'
                obtain ⟨y, L, r1, r2⟩ := trod_rep m n' e k' cs' _ hk h2
                exact ⟨(y, L), fun _ => ⟨cs', h1, r1, r2⟩⟩
              · exact ⟨(k'.dflt, .leaf), fun q => absurd q hi⟩
            obtain ⟨f, hf⟩ := Classical.axiomOfChoice hex
            have hwf : Wf (.list k') ((List.range len).map fun i => (f i).1) := by
              refine ⟨by simp; omega, fun x hx => ?_⟩
              simp only [List.mem_map, List.mem_range] at hx
              obtain ⟨i, hi, rfl⟩ := hx
              obtain ⟨_, _, _, r⟩ := hf i hi
              exact r
            by_cases h0 : len = 0
            · refine ⟨[], .nil, ?_, by simp [Wf]⟩
              simp only [Rep]
              refine ⟨_, rfl, .inl ⟨rfl, rfl, some a, cap, by rw [h0], fun h => by cases h⟩⟩
            · have hspot : a.spot = none ∧ w.heap[a.block]? ≠ none := by
                obtain ⟨cs', h1, _, _⟩ := hf 0 (by omega)
                obtain ⟨_, _, h3⟩ := World.cells?_some h1
                have hpos : 0 < P.cellsOf e := by rw [hsz]; exact k'.size_pos
                have := h3 0 hpos
                have hcell : w.cell? a ≠ none := by
                  have h4 : (a.add (0 * P.cellsOf e)).add 0 = a := by simp [Addr.add]
                  rw [h4] at this
                  rw [this]
                  have hl' : 0 < cs'.length := by
                    have := (World.cells?_some h1).2.1
                    omega
                  simp [List.getElem?_eq_getElem hl']
                simp only [World.cell?] at hcell
                cases hh : w.heap[a.block]? with
                | none => rw [hh] at hcell; simp at hcell
                | some o =>
                  rw [hh] at hcell
                  refine ⟨?_, by simp⟩
                  cases o <;> simp at hcell
                  cases hs : a.spot with
                  | none => rfl
                  | some _ => rw [hs] at hcell; simp at hcell
              obtain ⟨b, off, sp⟩ := a
              simp only at hspot
              obtain ⟨rfl, hheap⟩ := hspot
              refine ⟨(List.range len).map fun i => (f i).1, .node b off cap ((List.range len).map fun i => (f i).2), ?_, hwf⟩
              simp only [Rep]
              refine ⟨_, rfl, .inr ⟨b, off, cap, _, rfl, by simp, by simpa using hl, by simp, hheap, (fun h => by cases h), fun i y r hy hr => ?_⟩⟩
              have hi : i < len := by
                have := (List.getElem?_eq_some_iff.1 hy).1
                simpa using this
              simp only [List.getElem?_map, List.getElem?_range hi, Option.map_some, Option.some.injEq] at hy hr
              subst hy hr
              obtain ⟨cs', h1, r1, _⟩ := hf i hi
              obtain ⟨_, h2, h3⟩ := World.cells?_some h1
              refine ⟨cs', fun j v hj => ?_, r1⟩
              have hjl : j < P.cellsOf e := by rw [← h2]; exact (List.getElem?_eq_some_iff.1 hj).1
              have h4 := h3 j hjl
              rw [hj] at h4
              rw [← h4, ← hsz]
              congr 1
              simp only [Addr.add]
              split <;> split <;> simp_all [Nat.add_assoc]
        · simp at h
      · simp at h
    · rename_i fs hu
      split at h
      · rename_i k' hk
        split at h
        · rename_i hsz
          have hsz := Nat.eq_of_beq_eq_true hsz
          simp only [Option.some.injEq] at h
          subst h
          obtain ⟨xs, n', rfl, rfl, hl, hxl, hf⟩ := DataW.trod_struct hu hx
          have := trod_fields (P := P) (w := w) (base := base) (spare := spare) (held := held) (n := n') (enc := enc) (g := tyRep P m) (fun t k cs x h1 h2 => trod_rep m n' t k cs x h1 h2) cs fs.toList 0 k' hk (by omega) (fun f hfm => by
            obtain ⟨i, hi⟩ := List.getElem?_of_mem hfm
            have h1 := hf i f (by simpa using hi)
            have hil : i < xs.length := by rw [hxl]; have := (List.getElem?_eq_some_iff.1 hi).1; simpa using this
            rw [List.getElem?_eq_getElem hil] at h1
            exact ⟨_, h1⟩)
          obtain ⟨y, L, r1, r2⟩ := this
          rw [List.drop_zero, List.take_of_length_le (by omega)] at r1
          exact ⟨y, L, r1, r2⟩
        · simp at h
      · simp at h
    · simp at h

end Go.Mach
