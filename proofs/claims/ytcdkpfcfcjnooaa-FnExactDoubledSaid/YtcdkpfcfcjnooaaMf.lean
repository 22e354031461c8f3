/- The machine, part f: what operands read as; what references read. No condition: lemmas. -/
import Derived.Test.YtcdkpfcfcjnooaaMe
namespace Go.Mach
set_option linter.unusedVariables false

/-- What an operation looks at: the slots as they are, or nothing. -/
def Sees (get : Nat → Slot) (e : Env) : Prop := ∀ s, get s = e.get s ∨ get s = {}

/-- The cells of a value, each with its value. -/
structure CellsOk (e : Env) (w : World) (G : Gh) (cs : List C) (vs : List Value) (Ls : Nat → LT) : Prop where
  len : vs.length = cs.length
  cell : ∀ (j : Nat) c v, cs[j]? = some c → vs[j]? = some v → CellOk e w G c v (Ls j)


/-- A value: no box, nothing owned. -/
structure ValOk (e : Env) (w : World) (G : Gh) (x : Val) (u : Value) (vs : List Value) (Ls : Nat → LT) : Prop where
  cells : CellsOk e w G x.2 vs Ls
  form : u = Mach.form x.1 vs
  noOwn : ∀ c ∈ x.2, c.isOwn = false
  sh : ∀ bv, x.1 ≠ .box bv
  alive : x.1 ≠ .dead

theorem getP_nil (k : K) (l : List k.T) : getP k l [] = ⟨k, l⟩ := by simp [getP]

theorem hd_of_repl {dr d : Bool} {w : World} {k : K} {l : List k.T} {L : LT} {v : Value} (h : RepL dr w k.size (Rep d w k) l L v) (hdr : dr = true) :
    SliceIs k.size l.length (hdOf L) none none v := by
  refine ⟨by simp, by simp, ?_⟩
  rcases h with ⟨rfl, rfl, a, cap, rfl, hh⟩ | ⟨b, off, cap, rows, rfl, rfl, h3, h4, h0, h5, h6⟩
  · obtain rfl := hh hdr
    exact ⟨a, rfl, rfl⟩
  · simp only [hdOf]
    exact ⟨h3, off, by simp, by simp⟩

/-- A reference to what a slot's cell owns. -/
theorem SlotOk.copyOwn {n : Nat} {e : Env} {tm : Array Value} {w : World} {G : Gh} {s j : Nat} (h : SlotOk n e tm w G s) {rv sv : Nat} {d : Bool} {k : K} {l : List k.T} {v : Value}
    (hc : (e.get s).cs[j]? = some (.own rv sv d k l)) (hv : (G.vs s)[j]? = some v) (L : LT) : CellOk e w G (.ref s j rv sv [] none none k) v L := by
  have hsh : (e.get s).sh ≠ .dead := fun q => by rw [h.dead q] at hc; simp at hc
  have hvs := h.vers hsh j rv sv d k l hc
  refine ⟨hvs.1, fun hp => absurd rfl hp, ?_⟩
  intro sv' d' k0 l0 h1 _
  rw [getD_some hc] at h1
  simp only [C.own.injEq] at h1
  obtain ⟨_, rfl, rfl, rfl, hl⟩ := h1
  have hl := eq_of_heq hl
  subst hl
  have hcell : CellOk e w G (.own rv sv d k l) v (G.lt s j) := h.cells hsh j _ v hc hv
  exact ⟨l.length, hdOf (G.lt s j), ⟨trivial, by rw [getP_nil], by rw [getP_nil], by simp [subL]⟩, hd_of_repl hcell.1 rfl⟩

theorem copyFrom_get (t : Nat) : ∀ (cs : List C) (j i : Nat), (copyFrom t j cs)[i]? = (cs[i]?).map (C.copy t (j + i))
  | [], j, i => by simp [copyFrom]
  | c :: r, j, 0 => by simp [copyFrom]
  | c :: r, j, i + 1 => by
    simp only [copyFrom, List.getElem?_cons_succ]
    rw [copyFrom_get t r (j + 1) i, show j + 1 + i = j + (i + 1) by omega]

theorem copyFrom_length (t : Nat) : ∀ (cs : List C) (j : Nat), (copyFrom t j cs).length = cs.length
  | [], j => rfl
  | c :: r, j => by simp [copyFrom, copyFrom_length t r]

theorem isOwn_copy (t j : Nat) (c : C) : (c.copy t j).isOwn = false := by cases c <;> rfl

theorem copyFrom_noOwn (t : Nat) (cs : List C) (j : Nat) : ∀ c ∈ copyFrom t j cs, c.isOwn = false := by
  intro c hc
  obtain ⟨i, hi⟩ := List.getElem?_of_mem hc
  rw [copyFrom_get] at hi
  cases h : cs[i]? with
  | none => rw [h] at hi; simp at hi
  | some c0 => rw [h] at hi; simp at hi; rw [← hi]; exact isOwn_copy _ _ _

/-- A cell read out of a slot. -/
theorem SlotOk.copy {n : Nat} {e : Env} {tm : Array Value} {w : World} {G : Gh} {s j : Nat} (h : SlotOk n e tm w G s) {c : C} {v : Value}
    (hc : (e.get s).cs[j]? = some c) (hv : (G.vs s)[j]? = some v) : CellOk e w G (c.copy s j) v (G.lt s j) := by
  have hsh : (e.get s).sh ≠ .dead := fun q => by rw [h.dead q] at hc; simp at hc
  cases c with
  | own rv sv d k l => exact h.copyOwn hc hv _
  | _ => exact h.cells hsh j _ v hc hv

theorem litC_ok (e : Env) (w : World) (G : Gh) (v : Value) : CellOk e w G (litC v) v .leaf ∧ (litC v).isOwn = false := by
  cases v with
  | bool b => exact ⟨⟨by simp [Rep], by simp [fp]⟩, rfl⟩
  | int k n => exact ⟨⟨by simp [Rep], by simp [fp]⟩, rfl⟩
  | string s => exact ⟨⟨by simp [Rep], by simp [fp]⟩, rfl⟩
  | slice a len cap =>
    cases a with
    | some a => exact ⟨trivial, rfl⟩
    | none =>
      cases len with
      | succ m => exact ⟨trivial, rfl⟩
      | zero =>
        cases cap with
        | succ m => exact ⟨trivial, rfl⟩
        | zero => exact ⟨rfl, rfl⟩
  | _ => exact ⟨trivial, rfl⟩

theorem lits_ok (e : Env) (w : World) (G : Gh) (vs : List Value) : CellsOk e w G (vs.map litC) vs (fun _ => .leaf) ∧ ∀ c ∈ vs.map litC, c.isOwn = false := by
  refine ⟨⟨by simp, fun j c v hc hv => ?_⟩, fun c hc => ?_⟩
  · rw [List.getElem?_map, hv] at hc
    simp only [Option.map_some, Option.some.injEq] at hc
    subst hc
    exact (litC_ok e w G v).1
  · obtain ⟨v, _, rfl⟩ := List.mem_map.1 hc
    exact (litC_ok e w G v).2

theorem one_ok {e : Env} {w : World} {G : Gh} {c : C} {v : Value} {L : LT} (h : CellOk e w G c v L) (ho : c.isOwn = false) : ValOk e w G (.one, [c]) v [v] (fun _ => L) := by
  refine ⟨⟨rfl, fun j c' v' hc hv => ?_⟩, rfl, by simpa using ho, by simp, by simp⟩
  cases j with
  | zero => simp at hc hv; subst hc hv; exact h
  | succ j => simp at hc

/-- What an operand reads as. -/
theorem opd_ok {n : Nat} {e : Env} {a : Act} {w : World} {G : Gh} {get : Nat → Slot} (h : Inv n e a.tmps w G) (hg : Sees get e) {x : Operand} (hx : ∀ t, x = .tmp t → t < n) {v : Val}
    (hv : opd get x = some v) : ∃ vs Ls, ValOk e w G v (a.eval x) vs Ls := by
  cases x with
  | tmp t =>
    have ht := hx t rfl
    have hs := h.slot t
    simp only [opd] at hv
    rcases hg t with q | q
    · rw [q] at hv
      have hf := hs.form ht
      have hsz := h.size
      have hev : ∀ u, a.tmps[t]? = some u → a.eval (.tmp t) = u := fun u hu => by simp only [Act.eval, Array.getD_eq_getD_getElem?, hu, Option.getD_some]
      cases hsh : (e.get t).sh with
      | dead => rw [hsh] at hv; simp at hv
      | box bv =>
        rw [hsh] at hv hf
        simp only [FormIs] at hf
        simp only [Option.some.injEq] at hv
        subst hv
        rw [hev _ hf]
        refine ⟨_, _, one_ok (L := .leaf) ⟨(hs.box bv hsh).1, fun _ => rfl, _, _, rfl⟩ rfl⟩
      | one =>
        rw [hsh] at hv hf
        simp only [FormIs] at hf
        simp only [Option.some.injEq] at hv
        subst hv
        have hd : (e.get t).sh ≠ .dead := by rw [hsh]; simp
        refine ⟨G.vs t, G.lt t, ⟨by rw [copyFrom_length]; exact hs.len hd, fun j c u hc hu => ?_⟩, hev _ hf, copyFrom_noOwn _ _ _, by simp, by simp⟩
        simp only [copyFrom_get, Nat.zero_add] at hc
        cases hcj : (e.get t).cs[j]? with
        | none => rw [hcj] at hc; simp at hc
        | some c0 => rw [hcj] at hc; simp at hc; subst hc; exact hs.copy hcj hu
      | agg =>
        rw [hsh] at hv hf
        simp only [FormIs] at hf
        simp only [Option.some.injEq] at hv
        subst hv
        have hd : (e.get t).sh ≠ .dead := by rw [hsh]; simp
        refine ⟨G.vs t, G.lt t, ⟨by rw [copyFrom_length]; exact hs.len hd, fun j c u hc hu => ?_⟩, hev _ hf, copyFrom_noOwn _ _ _, by simp, by simp⟩
        simp only [copyFrom_get, Nat.zero_add] at hc
        cases hcj : (e.get t).cs[j]? with
        | none => rw [hcj] at hc; simp at hc
        | some c0 => rw [hcj] at hc; simp at hc; subst hc; exact hs.copy hcj hu
      | tup ps =>
        rw [hsh] at hv hf
        simp only [FormIs] at hf
        simp only [Option.some.injEq] at hv
        subst hv
        have hd : (e.get t).sh ≠ .dead := by rw [hsh]; simp
        refine ⟨G.vs t, G.lt t, ⟨by rw [copyFrom_length]; exact hs.len hd, fun j c u hc hu => ?_⟩, hev _ hf, copyFrom_noOwn _ _ _, by simp, by simp⟩
        simp only [copyFrom_get, Nat.zero_add] at hc
        cases hcj : (e.get t).cs[j]? with
        | none => rw [hcj] at hc; simp at hc
        | some c0 => rw [hcj] at hc; simp at hc; subst hc; exact hs.copy hcj hu
    · rw [q] at hv
      simp at hv
  | const u =>
    cases u with
    | agg us =>
      simp only [opd, Option.some.injEq] at hv
      subst hv
      have := lits_ok e w G us.toList
      exact ⟨us.toList, _, this.1, by simp [Act.eval, form], this.2, by simp, by simp⟩
    | _ =>
      simp only [opd, Option.some.injEq] at hv
      subst hv
      exact ⟨_, _, one_ok (litC_ok e w G _).1 (litC_ok e w G _).2⟩
  | func f =>
    simp only [opd, Option.some.injEq] at hv
    subst hv
    refine ⟨_, _, one_ok (v := a.eval (.func f)) (L := .leaf) ⟨[], fun _ => .leaf, rfl, rfl, fun i c u hc => by simp at hc⟩ rfl⟩
  | global g => simp [opd] at hv

theorem opd_one {n : Nat} {e : Env} {a : Act} {w : World} {G : Gh} {get : Nat → Slot} (h : Inv n e a.tmps w G) (hg : Sees get e) {x : Operand} (hx : ∀ t, x = .tmp t → t < n) {c : C}
    (hv : opd get x = some (.one, [c])) : ∃ L, CellOk e w G c (a.eval x) L ∧ c.isOwn = false := by
  obtain ⟨vs, Ls, h1⟩ := opd_ok h hg hx hv
  have hl := h1.cells.len
  match vs, hl with
  | [u], _ =>
    have hf := h1.form
    simp only [form, List.headD_cons] at hf
    rw [hf]
    exact ⟨Ls 0, h1.cells.cell 0 c u rfl rfl, h1.noOwn c (by simp)⟩

/-! ### References -/
theorem castL_some {k : K} {l : List k.T} {k' : K} {l' : List k'.T} (h : castL k l k' = some l') : (⟨k, l⟩ : (k : K) × List k.T) = ⟨k', l'⟩ := by
  unfold castL at h
  split at h
  · rename_i e
    subst e
    simp only [Option.some.injEq] at h
    rw [← h]
  · simp at h

theorem castL_self {k : K} {l : List k.T} : castL k l k = some l := by simp [castL]

theorem content_ok {get : Nat → Slot} {e : Env} (hg : Sees get e) {s j rv sv : Nat} {p : Path} {k : K} {d : Bool} {l : List k.T} (h : content get s j rv sv p k = some (d, l)) :
    ∃ sv' k0 l0, (e.get s).cs[j]? = some (.own rv sv' d k0 l0) ∧ (p = [] ∨ (sv = sv' ∧ d = true)) ∧ getP k0 l0 p = ⟨k, l⟩ := by
  unfold content at h
  split at h
  · rename_i rv' sv' deep k0 l0 hc
    split at h
    · rename_i hh
      obtain ⟨rfl, hp⟩ := hh
      cases hcast : castL (getP k0 l0 p).1 (getP k0 l0 p).2 k with
      | none => rw [hcast] at h; simp at h
      | some l1 =>
        rw [hcast] at h
        simp only [Option.map_some, Option.some.injEq, Prod.mk.injEq] at h
        obtain ⟨rfl, rfl⟩ := h
        have := some_of_getD hc (by simp)
        rcases hg s with q | q
        · rw [q] at this
          exact ⟨sv', k0, l0, this, hp, castL_some hcast⟩
        · rw [q] at this
          simp at this
    · simp at h
  · simp at h

/-- The elements of a list, read where they lie. -/
def ElemsAt (d : Bool) (w : World) (k : K) (l : List k.T) (L : LT) : Prop :=
  ∀ (i : Nat), i < l.length → ∃ b off cap rows r vs, L = .node b off cap rows ∧ rows[i]? = some r ∧ RowAt w b (off + i * k.size) vs ∧ Rep d w k (l.getD i k.dflt) r vs

theorem cut_length {α : Type} (lo hi : Option Nat) (l : List α) (h : hi.getD l.length ≤ l.length) : (cut lo hi l).length = hi.getD l.length - lo.getD 0 := by
  cases lo <;> cases hi <;> simp_all [cut]

theorem cut_get {α : Type} (lo hi : Option Nat) (l : List α) (i : Nat) (h : i + lo.getD 0 < hi.getD l.length) : (cut lo hi l)[i]? = l[i + lo.getD 0]? := by
  cases lo <;> cases hi <;> simp_all [cut, Nat.add_comm]

/-- The place of a list that was cut. -/
def cutL (sz : Nat) (lo hi : Option Nat) (n : Nat) : LT → LT
  | .node b off cap rows => if cap - lo.getD 0 = 0 then .nil else .node b (off + lo.getD 0 * sz) (cap - lo.getD 0) (cut lo (some (hi.getD n)) rows)
  | L => L

theorem cut_sublist {α : Type} (lo hi : Option Nat) (l : List α) : (cut lo hi l).Sublist l := by
  cases lo <;> cases hi <;> simp only [cut]
  · exact List.Sublist.refl _
  · exact List.take_sublist _ _
  · exact List.drop_sublist _ _
  · exact (List.drop_sublist _ _).trans (List.take_sublist _ _)

theorem sub_flatMap {α β : Type} {f : α → List β} : ∀ {l l' : List α}, l.Sublist l' → (l.flatMap f).Sublist (l'.flatMap f)
  | _, _, .slnil => by simp
  | _, _, .cons a h => by simp only [List.flatMap_cons]; exact (sub_flatMap h).trans (List.sublist_append_right _ _)
  | _, _, .cons_cons a h => by simp only [List.flatMap_cons]; exact (sub_flatMap h).append_left _

theorem cutL_sublist (k : K) (sz : Nat) (lo hi : Option Nat) (n : Nat) (L : LT) : (fp (.list k) (cutL sz lo hi n L)).Sublist (fp (.list k) L) := by
  cases L with
  | node b off cap rows =>
    simp only [cutL]
    split
    · simp [fp]
    · simp only [fp]
      exact (sub_flatMap (f := fp k) (cut_sublist lo (some (hi.getD n)) rows)).cons_cons b
  | _ => simp [cutL]

/-- A slice value that reads a list, cut, reads the cut list. -/
theorem RepL.cut {dr d : Bool} {w : World} {k : K} {l : List k.T} {L : LT} {u v : Value} {lo hi : Option Nat} (h : RepL dr w k.size (Rep d w k) l L u)
    (hs : SliceIs k.size l.length (hdOf L) lo hi v) : RepL dr w k.size (Rep d w k) (Mach.cut lo hi l) (cutL k.size lo hi l.length L) v := by
  obtain ⟨h1, h2, h3⟩ := hs
  rcases h with ⟨rfl, rfl, a, cap, rfl, _⟩ | ⟨b, off, cap, rows, rfl, rfl, g1, g2, g0, g3, g4⟩
  · simp only [hdOf] at h3
    obtain ⟨a', rfl, _⟩ := h3
    refine .inl ⟨rfl, ?_, a', 0, rfl, by simp⟩
    refine List.eq_nil_of_length_eq_zero ?_
    rw [cut_length lo hi ([] : List k.T) h2]
    simp only [List.length_nil] at h2
    simp only [List.length_nil]
    omega
  · simp only [hdOf] at h3
    obtain ⟨hcap, o, rfl, ho⟩ := h3
    have hl := cut_length lo hi l h2
    simp only [cutL]
    by_cases hz : cap - lo.getD 0 = 0
    · rw [if_pos hz]
      have h0 : (Mach.cut lo hi l).length = 0 := by rw [hl]; omega
      refine .inl ⟨rfl, List.eq_nil_of_length_eq_zero h0, some ⟨b, o, none⟩, cap - lo.getD 0, ?_, fun _ => hz⟩
      rw [show hi.getD l.length - lo.getD 0 = 0 by omega]
    · rw [if_neg hz]
      have ho := ho hz
      subst ho
      have hrl : (Mach.cut lo (some (hi.getD l.length)) rows).length = hi.getD l.length - lo.getD 0 := by
        have := cut_length lo (some (hi.getD l.length)) rows (by simp; omega)
        simpa using this
      refine .inr ⟨b, _, _, _, rfl, by rw [hl], by rw [hl]; omega, by rw [hrl, hl], g0, fun hd => ?_, fun i x r hx hr => ?_⟩
      · have := g3 hd
        rw [show off + lo.getD 0 * k.size + (cap - lo.getD 0) * k.size = off + cap * k.size by
          rw [Nat.add_assoc, ← Nat.add_mul]; congr 2; omega]
        exact this
      · have hi' : i < (Mach.cut lo hi l).length := by
          rcases Nat.lt_or_ge i (Mach.cut lo hi l).length with g | g
          · exact g
          · rw [List.getElem?_eq_none g] at hx; simp at hx
        rw [cut_get lo hi l i (by omega)] at hx
        have := cut_get lo (some (hi.getD l.length)) rows i (by simp; omega)
        rw [this] at hr
        obtain ⟨vs, q1, q2⟩ := g4 _ _ _ hx hr
        refine ⟨vs, ?_, q2⟩
        rw [show off + lo.getD 0 * k.size + i * k.size = off + (i + lo.getD 0) * k.size by rw [Nat.add_mul]; omega]
        exact q1

theorem CellOk.refFits {e : Env} {w : World} {G : Gh} {s j rv sv : Nat} {p : Path} {lo hi : Option Nat} {k : K} {v : Value} {L : LT} (hc : CellOk e w G (.ref s j rv sv p lo hi k) v L)
    {sv' : Nat} {d : Bool} {k0 : K} {l0 : List k0.T} (h1 : (e.get s).cs[j]? = some (.own rv sv' d k0 l0)) (h2 : p = [] ∨ (sv = sv' ∧ d = true)) :
    ∃ n hd, Loc k0 l0 (G.lt s j) p k n hd ∧ SliceIs k.size n hd lo hi v := hc.2.2 sv' d k0 l0 (getD_some h1 _) h2

theorem slot_alive {e : Env} {s j : Nat} {c : C} (h : (e.get s).cs[j]? = some c) : s < e.length := by
  rcases Nat.lt_or_ge s e.length with g | g
  · exact g
  · rw [get_out (by omega)] at h; simp at h

/-- The value of a cell that is there. -/
theorem Inv.val {n : Nat} {e : Env} {tm : Array Value} {w : World} {G : Gh} (h : Inv n e tm w G) {s j : Nat} {c : C} (hc : (e.get s).cs[j]? = some c) :
    ∃ v, (G.vs s)[j]? = some v ∧ CellOk e w G c v (G.lt s j) := by
  have hs := h.slot s
  have hsh : (e.get s).sh ≠ .dead := fun q => by rw [hs.dead q] at hc; simp at hc
  have hl := hs.len hsh
  have hj : j < (e.get s).cs.length := by
    rcases Nat.lt_or_ge j (e.get s).cs.length with g | g
    · exact g
    · rw [List.getElem?_eq_none g] at hc; simp at hc
  exact ⟨_, List.getElem?_eq_getElem (by omega), hs.cells hsh j c _ hc (List.getElem?_eq_getElem (by omega))⟩

/-- Blocks of an owned list: the slot's, or nobody's. -/
theorem Inv.ownBlocks {n : Nat} {e : Env} {tm : Array Value} {w : World} {G : Gh} (h : Inv n e tm w G) {s j rv sv : Nat} {d : Bool} {k : K} {l : List k.T} (hc : (e.get s).cs[j]? = some (.own rv sv d k l)) :
    (∀ b ∈ ownB (.own rv sv d k l) (G.lt s j), G.ow b = some s) ∧ (d = false → ∀ b ∈ inner k (G.lt s j), G.ow b = none) ∧ (ownB (.own rv sv d k l) (G.lt s j)).Nodup := by
  have hs := h.slot s
  have hsh : (e.get s).sh ≠ .dead := fun q => by rw [hs.dead q] at hc; simp at hc
  have hmem : ∀ b ∈ ownB (.own rv sv d k l) (G.lt s j), b ∈ fpS G s (e.get s) := fun b hb => by
    simp only [fpS, List.mem_append]
    right
    have := fpCells_mem (lt := G.lt s) (i := 0) hc (by simpa using hb)
    cases hh : (e.get s).sh <;> simp_all
  obtain ⟨v, hv, hcell⟩ := h.val hc
  refine ⟨fun b hb => hs.own b (hmem b hb), hcell.2, ?_⟩
  obtain ⟨rest, p1, _⟩ := fpCells_perm (lt := G.lt s) (i := 0) hc
  have hnd := hs.nodup
  have : (fpCells (G.lt s) 0 (e.get s).cs).Nodup := by
    simp only [fpS] at hnd
    rw [List.nodup_append] at hnd
    have := hnd.2.1
    cases hh : (e.get s).sh <;> simp_all
  have := p1.nodup_iff.1 this
  rw [List.nodup_append] at this
  simpa using this.1

theorem fp_list (k : K) (L : LT) : fp (.list k) L = (hdOf L).toList.map (·.1) ++ inner k L := by
  cases L <;> simp [fp, hdOf, inner]

/-- The list at a path of an owned list, where it lies. -/
theorem Inv.at_path {n : Nat} {e : Env} {tm : Array Value} {w : World} {G : Gh} (h : Inv n e tm w G) {s j rv sv : Nat} {d : Bool} {k0 : K} {l0 : List k0.T} (hc : (e.get s).cs[j]? = some (.own rv sv d k0 l0))
    {p : Path} (hp : PathOk k0 l0 p) (hd : p = [] ∨ d = true) {k : K} {l : List k.T} (hl : getP k0 l0 p = ⟨k, l⟩) :
    ∃ u, RepL true w k.size (Rep d w k) l (subL k0 (G.lt s j) p) u ∧ (∀ b ∈ fp (.list k) (subL k0 (G.lt s j) p), b ∈ fp (.list k0) (G.lt s j)) := by
  obtain ⟨v, hv, hcell⟩ := h.val hc
  have hrep := hcell.1
  by_cases hp0 : p = []
  · subst hp0
    rw [getP_nil] at hl
    simp only [Sigma.mk.injEq] at hl
    obtain ⟨rfl, hl⟩ := hl
    have hl := eq_of_heq hl
    subst hl
    exact ⟨v, by simpa [subL] using hrep, by simp [subL]⟩
  · rcases hd with hd | rfl
    · exact absurd hd hp0
    · obtain ⟨u, rest, f1, f2, _⟩ := focus (fun _ l => l) p k0 l0 (G.lt s j) v hrep hp
      rw [hl] at f1 f2
      exact ⟨u, f1, fun b hb => f2.mem_iff.2 (by simp [hb])⟩

/-- What a reference reads. -/
theorem ref_reads {n : Nat} {e : Env} {tm : Array Value} {w : World} {G : Gh} (h : Inv n e tm w G) {s j rv sv : Nat} {p : Path} {lo hi : Option Nat} {k : K} {v : Value} {L : LT}
    (hc : CellOk e w G (.ref s j rv sv p lo hi k) v L) {sv' : Nat} {d : Bool} {k0 : K} {l0 : List k0.T} (h1 : (e.get s).cs[j]? = some (.own rv sv' d k0 l0)) (h2 : p = [] ∨ (sv = sv' ∧ d = true))
    {l : List k.T} (hl : getP k0 l0 p = ⟨k, l⟩) :
    SliceIs k.size l.length (hdOf (subL k0 (G.lt s j) p)) lo hi v ∧ PathOk k0 l0 p ∧
    RepL true w k.size (Rep d w k) (cut lo hi l) (cutL k.size lo hi l.length (subL k0 (G.lt s j) p)) v ∧
      (∀ b ∈ fp (.list k) (cutL k.size lo hi l.length (subL k0 (G.lt s j) p)), b ∈ fp (.list k0) (G.lt s j)) := by
  obtain ⟨m, hd, ⟨q1, q2, q3, q4⟩, q5⟩ := hc.refFits h1 h2
  rw [hl] at q3
  simp only at q3
  subst q3
  rw [← q4] at q5
  obtain ⟨u, r1, r2⟩ := h.at_path h1 q1 (h2.imp id And.right) hl
  exact ⟨q5, q1, r1.cut q5, fun b hb => r2 b ((cutL_sublist k k.size lo hi l.length _).subset hb)⟩

theorem leafL_sub : ∀ (k : K) (L : LT) (c : Nat), ∀ b ∈ fp (k.leaf c) (leafL k L c), b ∈ fp k L
  | .int _, L, c, b, hb => by simp [K.leaf, fp] at hb
  | .bool, L, c, b, hb => by simp [K.leaf, fp] at hb
  | .str, L, c, b, hb => by simp [K.leaf, fp] at hb
  | .list k, L, c, b, hb => by simpa [K.leaf, leafL] using hb
  | .pair x y, L, c, b, hb => by
    cases L with
    | pair p q =>
      simp only [K.leaf, leafL] at hb
      simp only [fp, List.mem_append]
      by_cases h : c < x.size
      · simp only [h, if_true] at hb
        exact .inl (leafL_sub x p c b hb)
      · simp only [h, if_false] at hb
        exact .inr (leafL_sub y q _ b hb)
    | _ =>
      simp only [leafL] at hb
      cases hk : (K.pair x y).leaf c <;> rw [hk] at hb <;> simp [fp] at hb

theorem subL_sub : ∀ (p : Path) (k : K) (l : List k.T) (L : LT), PathOk k l p → ∀ b ∈ fp (.list (getP k l p).1) (subL k L p), b ∈ fp (.list k) L
  | [], k, l, L, _, b, hb => by simpa [getP, subL] using hb
  | (i, c) :: p, k, l, L, hp, b, hb => by
    simp only [PathOk] at hp
    obtain ⟨_, _, hp⟩ := hp
    cases hl : leafV k (l.getD i k.dflt) c with
    | mk k1 y =>
      rw [hl] at hp
      cases k1 with
      | list k' =>
        simp only at hp
        have hk := leafV_list hl
        have eg : getP k l ((i, c) :: p) = getP k' y p := by simp only [getP, hl]
        rw [eg] at hb
        cases L with
        | node b0 off cap rows =>
          have es : subL k (.node b0 off cap rows) ((i, c) :: p) = subL k' (leafL k (rows.getD i .leaf) c) p := by simp only [subL, hk]
          rw [es] at hb
          have h1 := subL_sub p k' y _ hp b hb
          rw [← hk] at h1
          have h2 := leafL_sub k _ c b h1
          simp only [fp, List.mem_cons, List.mem_flatMap]
          right
          rcases Nat.lt_or_ge i rows.length with g | g
          · rw [List.getD_eq_getElem?_getD, List.getElem?_eq_getElem g] at h2
            exact ⟨_, List.getElem_mem g, by simpa using h2⟩
          · rw [List.getD_eq_getElem?_getD, List.getElem?_eq_none g] at h2
            simp only [Option.getD_none] at h2
            cases k <;> simp [fp] at h2
        | _ => simp [subL, fp] at hb
      | _ => exact hp.elim

/-- What lies at a path that goes down lies below the root. -/
theorem subL_inner (p : Path) (hp0 : p ≠ []) (k : K) (l : List k.T) (L : LT) (hp : PathOk k l p) : ∀ b ∈ fp (.list (getP k l p).1) (subL k L p), b ∈ inner k L := by
  intro b hb
  match p, hp0 with
  | (i, c) :: p, _ =>
    simp only [PathOk] at hp
    obtain ⟨_, _, hp⟩ := hp
    cases hl : leafV k (l.getD i k.dflt) c with
    | mk k1 y =>
      rw [hl] at hp
      cases k1 with
      | list k' =>
        simp only at hp
        have hk := leafV_list hl
        have eg : getP k l ((i, c) :: p) = getP k' y p := by simp only [getP, hl]
        rw [eg] at hb
        cases L with
        | node b0 off cap rows =>
          have es : subL k (.node b0 off cap rows) ((i, c) :: p) = subL k' (leafL k (rows.getD i .leaf) c) p := by simp only [subL, hk]
          rw [es] at hb
          have h1 := subL_sub p k' y _ hp b hb
          rw [← hk] at h1
          have h2 := leafL_sub k _ c b h1
          simp only [inner, List.mem_flatMap]
          rcases Nat.lt_or_ge i rows.length with g | g
          · rw [List.getD_eq_getElem?_getD, List.getElem?_eq_getElem g] at h2
            exact ⟨_, List.getElem_mem g, by simpa using h2⟩
          · rw [List.getD_eq_getElem?_getD, List.getElem?_eq_none g] at h2
            simp only [Option.getD_none] at h2
            cases k <;> simp [fp] at h2
        | _ => simp [subL, fp] at hb
      | _ => exact hp.elim

end Go.Mach
