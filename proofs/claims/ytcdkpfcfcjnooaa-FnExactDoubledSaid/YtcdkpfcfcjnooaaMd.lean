/- The machine, part d: what it means that the abstract slots stand for the frame and the memory of the model. No condition: definitions and lemmas. -/
import Derived.Test.YtcdkpfcfcjnooaaMc
namespace Go.Mach
set_option linter.unusedVariables false

/-- The ghost: each slot's cells as values, where their data lie, a box's block, each block's owner. -/
structure Gh where
  vs : Nat → List Value
  lt : Nat → Nat → LT
  bk : Nat → Nat
  ow : Nat → Option Nat

/-- Where a list in owned data lies: its kind, its length, and its block, place and room. -/
def hdOf : LT → Option (Nat × Nat × Nat)
  | .node b off cap _ => some (b, off, cap)
  | _ => none

def Loc (k0 : K) (l0 : List k0.T) (L : LT) (p : Path) (k : K) (n : Nat) (hd : Option (Nat × Nat × Nat)) : Prop :=
  PathOk k0 l0 p ∧ (getP k0 l0 p).1 = k ∧ (getP k0 l0 p).2.length = n ∧ hdOf (subL k0 L p) = hd

/-- A slice value that reads a list, cut. -/
def SliceIs (sz n : Nat) (hd : Option (Nat × Nat × Nat)) (lo hi : Option Nat) (v : Value) : Prop :=
  lo.getD 0 ≤ hi.getD n ∧ hi.getD n ≤ n ∧
  match hd with
  | none => ∃ a, v = .slice a 0 0 ∧ n = 0
  | some (b, off, cap) => n ≤ cap ∧ ∃ o, v = .slice (some ⟨b, o, none⟩) (hi.getD n - lo.getD 0) (cap - lo.getD 0) ∧ (cap - lo.getD 0 ≠ 0 → o = off + lo.getD 0 * sz)

/-- The blocks that a cell owns. -/
def ownB : C → LT → List Nat
  | .own _ _ true k _, L => fp (.list k) L
  | .own _ _ false _ _, L => (hdOf L).toList.map (·.1)
  | _, _ => []

/-- The blocks below a list's root. -/
def inner (k : K) : LT → List Nat
  | .node _ _ _ rows => rows.flatMap (fp k)
  | _ => []

/-- Is a reference still one into what lies there? -/
def Fits (e : Env) (s j rv sv : Nat) (p : Path) (Q : (k0 : K) → List k0.T → Prop) : Prop :=
  ∀ sv' d k0 l0, (e.get s).cs.getD j .dead = .own rv sv' d k0 l0 → (p = [] ∨ (sv = sv' ∧ d = true)) → Q k0 l0

/-- Data that nobody writes. -/
def DatOk (w : World) (ow : Nat → Option Nat) : C → Value → LT → Prop
  | .nil, v, _ => v = .slice none 0 0
  | .dat k x, v, L => Rep false w k x L [v] ∧ ∀ b ∈ fp k L, ow b = none
  | _, _, _ => False

/-- Some pointer. -/
def IsPtr (v : Value) : Prop := ∃ b o, v = .pointer (some ⟨b, o, none⟩)

/-- A cell, but for function values. -/
def CellOk0 (e : Env) (w : World) (G : Gh) : C → Value → LT → Prop
  | .dead, _, _ => True
  | .nil, v, _ => v = .slice none 0 0
  | .dat k x, v, L => Rep false w k x L [v] ∧ ∀ b ∈ fp k L, G.ow b = none
  | .own _ _ d k l, v, L => RepL true w k.size (Rep d w k) l L v ∧ (d = false → ∀ b ∈ inner k L, G.ow b = none)
  | .ref s j rv sv p lo hi k, v, _ => rv < (e.get s).cnt ∧ (p ≠ [] → sv < (e.get s).cnt) ∧
      Fits e s j rv sv p fun k0 l0 => ∃ n hd, Loc k0 l0 (G.lt s j) p k n hd ∧ SliceIs k.size n hd lo hi v
  | .bptr s bv j, v, _ => bv < (e.get s).cnt ∧ ((e.get s).sh = .box bv → v = .pointer (some ⟨G.bk s, j, none⟩)) ∧ IsPtr v
  | .aptr s j rv sv p i c k, v, _ => IsPtr v ∧ rv < (e.get s).cnt ∧ (p ≠ [] → sv < (e.get s).cnt) ∧
      Fits e s j rv sv p fun k0 l0 => ∃ n b off cap, Loc k0 l0 (G.lt s j) p k n (some (b, off, cap)) ∧ i < n ∧ v = .pointer (some ⟨b, off + i * k.size + c, none⟩)
  | .pim cs j, v, _ => ∃ (b o : Nat) (vs : List Value) (Ls : Nat → LT), v = .pointer (some ⟨b, o + j, none⟩) ∧ G.ow b = none ∧ w.heap[b]? ≠ none ∧ RowAt w b o vs ∧ vs.length = cs.length ∧
      ∀ (i : Nat) c u, cs[i]? = some c → vs[i]? = some u → DatOk w G.ow c u (Ls i)
  | .fn _ _, _, _ => False

def CellOk (e : Env) (w : World) (G : Gh) : C → Value → LT → Prop
  | .fn f caps, v, _ => ∃ (us : List Value) (Ls : Nat → LT), v = .func (.func f) #[] us.toArray ∧ us.length = caps.length ∧
      ∀ (i : Nat) c u, caps[i]? = some c → us[i]? = some u → c.isFn = false ∧ c.isOwn = false ∧ CellOk0 e w G c u (Ls i)
  | c, v, L => CellOk0 e w G c v L

/-- A value out of its cells. -/
def cutVals : List (Option Nat) → List Value → List Value
  | [], _ => []
  | none :: r, vs => vs.headD (.tuple #[]) :: cutVals r (vs.drop 1)
  | some n :: r, vs => .agg (vs.take n).toArray :: cutVals r (vs.drop n)

def form : Sh → List Value → Value
  | .one, vs => vs.headD (.tuple #[])
  | .agg, vs => .agg vs.toArray
  | .tup ps, vs => .tuple (cutVals ps vs).toArray
  | _, _ => .tuple #[]

/-- The blocks that a slot owns. -/
def fpCells (lt : Nat → LT) : Nat → List C → List Nat
  | _, [] => []
  | j, c :: r => ownB c (lt j) ++ fpCells lt (j + 1) r

def fpS (G : Gh) (s : Nat) (x : Slot) : List Nat :=
  (match x.sh with | .box _ => [G.bk s] | _ => []) ++ (match x.sh with | .dead => [] | _ => fpCells (G.lt s) 0 x.cs)

/-- What a frame's slot holds. -/
def FormIs (tm : Array Value) (s : Nat) (sh : Sh) (vs : List Value) (bk : Nat) : Prop := match sh with
  | .dead => True
  | .box _ => tm[s]? = some (.pointer (some ⟨bk, 0, none⟩))
  | sh => tm[s]? = some (form sh vs)

structure SlotOk (n : Nat) (e : Env) (tm : Array Value) (w : World) (G : Gh) (s : Nat) : Prop where
  form : s < n → FormIs tm s (e.get s).sh (G.vs s) (G.bk s)
  box : ∀ bv, (e.get s).sh = .box bv → bv < (e.get s).cnt ∧ ∃ ty, w.heap[G.bk s]? = some (.cells (G.vs s).toArray ty (0, 0))
  len : (e.get s).sh ≠ .dead → (G.vs s).length = (e.get s).cs.length
  cells : (e.get s).sh ≠ .dead → ∀ (j : Nat) c v, (e.get s).cs[j]? = some c → (G.vs s)[j]? = some v → CellOk e w G c v (G.lt s j)
  vers : (e.get s).sh ≠ .dead → ∀ (j : Nat) rv sv d k l, (e.get s).cs[j]? = some (.own rv sv d k l) → rv < (e.get s).cnt ∧ sv < (e.get s).cnt
  nodup : (fpS G s (e.get s)).Nodup
  own : ∀ b ∈ fpS G s (e.get s), G.ow b = some s
  dead : (e.get s).sh = .dead → (e.get s).cs = []

structure Inv (n : Nat) (e : Env) (tm : Array Value) (w : World) (G : Gh) : Prop where
  size : tm.size = n
  elen : n ≤ e.length
  slot : ∀ s, SlotOk n e tm w G s
  lt : ∀ b s, G.ow b = some s → b < w.heap.size

/-- What a call may turn: what it owns; all else is as it was, and memory only grows. -/
structure Keep (ow : Nat → Option Nat) (w w' : World) : Prop where
  size : w.heap.size ≤ w'.heap.size
  same : ∀ b, b < w.heap.size → ow b = none → w'.heap[b]? = w.heap[b]?

/-! ### Frames -/
/-- What nobody owns stays as it is, and nobody's. -/
def Still (w w' : World) (ow ow' : Nat → Option Nat) : Prop := ∀ b, ow b = none → w.heap[b]? ≠ none → w'.heap[b]? = w.heap[b]? ∧ ow' b = none

theorem Rep.still {w w' : World} {ow ow' : Nat → Option Nat} {d : Bool} {k : K} {x : k.T} {L : LT} {cs : List Value} (h : Rep d w k x L cs) (ho : ∀ b ∈ fp k L, ow b = none) (hs : Still w w' ow ow') :
    Rep d w' k x L cs ∧ ∀ b ∈ fp k L, ow' b = none :=
  ⟨h.same fun b hb => (hs b (ho b hb) (h.there b hb)).1, fun b hb => (hs b (ho b hb) (h.there b hb)).2⟩

theorem DatOk.still {w w' : World} {ow ow' : Nat → Option Nat} {c : C} {v : Value} {L : LT} (h : DatOk w ow c v L) (hs : Still w w' ow ow') : DatOk w' ow' c v L := by
  cases c with
  | nil => exact h
  | dat k x => exact h.1.still h.2 hs
  | _ => exact h

/-- How what references point to may change: what they still fit to lies where it lay. -/
structure TM (e e' : Env) (G G' : Gh) (t : Nat) : Prop where
  cnt : (e.get t).cnt ≤ (e'.get t).cnt
  loc : ∀ j rv sv' d' k0 l0', (e'.get t).cs.getD j .dead = .own rv sv' d' k0 l0' → rv < (e.get t).cnt →
    ∃ sv d l0, (e.get t).cs.getD j .dead = .own rv sv d k0 l0 ∧ (∀ k n hd, Loc k0 l0 (G.lt t j) [] k n hd → Loc k0 l0' (G'.lt t j) [] k n hd) ∧
      (d' = true → sv' < (e.get t).cnt → sv = sv' ∧ d = true ∧ ∀ p k n hd, Loc k0 l0 (G.lt t j) p k n hd → Loc k0 l0' (G'.lt t j) p k n hd)
  box : ∀ bv, (e'.get t).sh = .box bv → bv < (e.get t).cnt → (e.get t).sh = .box bv ∧ G'.bk t = G.bk t

theorem TM.refl {e e' : Env} {G G' : Gh} {t : Nat} (h : e'.get t = e.get t) (hl : ∀ j, G'.lt t j = G.lt t j) (hb : G'.bk t = G.bk t) : TM e e' G G' t where
  cnt := by rw [h]; exact Nat.le_refl _
  loc := by
    intro j rv sv' d' k0 l0' h1 _
    rw [h] at h1
    exact ⟨sv', d', l0', h1, fun k n hd hh => by rw [hl]; exact hh, fun hd _ => ⟨rfl, hd, fun p k n hd hh => by rw [hl]; exact hh⟩⟩
  box := by
    intro bv h1 _
    rw [h] at h1
    exact ⟨h1, hb⟩

/-- All that is owned is new or gone. -/
theorem TM.fresh {e e' : Env} {G G' : Gh} {t : Nat} (hc : (e.get t).cnt ≤ (e'.get t).cnt)
    (h : ∀ j rv sv d k l, (e'.get t).cs.getD j .dead = .own rv sv d k l → (e.get t).cnt ≤ rv) (hb : ∀ bv, (e'.get t).sh = .box bv → (e.get t).cnt ≤ bv) : TM e e' G G' t where
  cnt := hc
  loc := by
    intro j rv sv' d' k0 l0' h1 h2
    have := h _ _ _ _ _ _ h1
    omega
  box := by
    intro bv h1 h2
    have := hb _ h1
    omega

theorem Fits.mono {e e' : Env} {G G' : Gh} {s j rv sv : Nat} {p : Path} (ht : TM e e' G G' s) (hrv : rv < (e.get s).cnt) (hsv : p ≠ [] → sv < (e.get s).cnt)
    {k : K} {R : Nat → Option (Nat × Nat × Nat) → Prop}
    (h : Fits e s j rv sv p fun k0 l0 => ∃ n hd, Loc k0 l0 (G.lt s j) p k n hd ∧ R n hd) :
    Fits e' s j rv sv p fun k0 l0 => ∃ n hd, Loc k0 l0 (G'.lt s j) p k n hd ∧ R n hd := by
  intro sv' d k0 l0 h1 h2
  obtain ⟨sv1, d1, l1, h3, h4, h5⟩ := ht.loc _ _ _ _ _ _ h1 hrv
  rcases h2 with rfl | ⟨rfl, rfl⟩
  · obtain ⟨n, hd, g1, g2⟩ := h sv1 d1 k0 l1 h3 (.inl rfl)
    exact ⟨n, hd, h4 _ _ _ g1, g2⟩
  · by_cases hp : p = []
    · subst hp
      obtain ⟨n, hd, g1, g2⟩ := h sv1 d1 k0 l1 h3 (.inl rfl)
      exact ⟨n, hd, h4 _ _ _ g1, g2⟩
    · obtain ⟨q1, q2, q3⟩ := h5 rfl (hsv hp)
      obtain ⟨n, hd, g1, g2⟩ := h sv1 d1 k0 l1 h3 (.inr ⟨q1.symm, q2⟩)
      exact ⟨n, hd, q3 _ _ _ _ g1, g2⟩

theorem CellOk0.frame {e e' : Env} {w w' : World} {G G' : Gh} {c : C} {v : Value} {L : LT} (h : CellOk0 e w G c v L) (ht : ∀ t, TM e e' G G' t)
    (hs : Still w w' G.ow G'.ow) (ho : Same w w' (ownB c L)) : CellOk0 e' w' G' c v L := by
  cases c with
  | dead => exact h
  | nil => exact h
  | dat k x => exact h.1.still h.2 hs
  | own rv sv d k l =>
    obtain ⟨h1, h2⟩ := h
    cases d with
    | true => exact ⟨h1.same ho, fun hd => by cases hd⟩
    | false =>
      have h2 := h2 rfl
      have hin : ∀ b ∈ inner k L, w'.heap[b]? = w.heap[b]? ∧ G'.ow b = none := fun b hb => by
        refine hs b (h2 b hb) (h1.there b ?_)
        cases L <;> simp_all [inner, fp]
      refine ⟨h1.same fun b hb => ?_, fun _ b hb => (hin b hb).2⟩
      cases L with
      | node b' off cap rows =>
        simp only [fp, List.mem_cons] at hb
        rcases hb with rfl | hb
        · exact ho b (by simp [ownB, hdOf])
        · exact (hin b (by simpa [inner] using hb)).1
      | _ => simp [fp] at hb
  | ref s j rv sv p lo hi k =>
    obtain ⟨h1, h2, h3⟩ := h
    exact ⟨Nat.lt_of_lt_of_le h1 (ht s).cnt, fun hp => Nat.lt_of_lt_of_le (h2 hp) (ht s).cnt, Fits.mono (ht s) h1 h2 h3⟩
  | bptr s bv j =>
    obtain ⟨h1, h2, h3⟩ := h
    refine ⟨Nat.lt_of_lt_of_le h1 (ht s).cnt, fun hb => ?_, h3⟩
    obtain ⟨q1, q2⟩ := (ht s).box bv hb h1
    rw [q2]
    exact h2 q1
  | aptr s j rv sv p i c k =>
    obtain ⟨h0, h1, h2, h3⟩ := h
    refine ⟨h0, Nat.lt_of_lt_of_le h1 (ht s).cnt, fun hp => Nat.lt_of_lt_of_le (h2 hp) (ht s).cnt, ?_⟩
    have := Fits.mono (k := k) (R := fun n hd => ∃ b off cap, hd = some (b, off, cap) ∧ i < n ∧ v = .pointer (some ⟨b, off + i * k.size + c, none⟩)) (ht s) h1 h2
      (fun sv' d k0 l0 a1 a2 => by
        obtain ⟨n, b, off, cap, a3, a4⟩ := h3 sv' d k0 l0 a1 a2
        exact ⟨n, _, a3, b, off, cap, rfl, a4⟩)
    intro sv' d k0 l0 a1 a2
    obtain ⟨n, hd, a3, b, off, cap, rfl, a4⟩ := this sv' d k0 l0 a1 a2
    exact ⟨n, b, off, cap, a3, a4⟩
  | pim cs j =>
    obtain ⟨b, o, vs, Ls, h1, h2, h3, h4, h5, h6⟩ := h
    obtain ⟨q1, q2⟩ := hs b h2 h3
    exact ⟨b, o, vs, Ls, h1, q2, by rw [q1]; exact h3, h4.same q1, h5, fun i c u hc hu => (h6 i c u hc hu).still hs⟩
  | fn _ _ => exact h

theorem CellOk.frame {e e' : Env} {w w' : World} {G G' : Gh} {c : C} {v : Value} {L : LT} (h : CellOk e w G c v L) (ht : ∀ t, TM e e' G G' t)
    (hs : Still w w' G.ow G'.ow) (ho : Same w w' (ownB c L)) : CellOk e' w' G' c v L := by
  cases c with
  | fn f caps =>
    obtain ⟨us, Ls, h1, h2, h3⟩ := h
    refine ⟨us, Ls, h1, h2, fun i c u hc hu => ?_⟩
    obtain ⟨g1, g2, g3⟩ := h3 i c u hc hu
    refine ⟨g1, g2, g3.frame ht hs fun b hb => ?_⟩
    cases c with
    | own _ _ d k l => simp [C.isOwn] at g2
    | _ => simp [ownB] at hb
  | dead => trivial
  | nil => exact CellOk0.frame (c := .nil) h ht hs ho
  | dat k x => exact CellOk0.frame (c := .dat k x) h ht hs ho
  | own rv sv d k l => exact CellOk0.frame (c := .own rv sv d k l) h ht hs ho
  | ref s j rv sv p lo hi k => exact CellOk0.frame (c := .ref s j rv sv p lo hi k) h ht hs ho
  | bptr s bv j => exact CellOk0.frame (c := .bptr s bv j) h ht hs ho
  | aptr s j rv sv p i c k => exact CellOk0.frame (c := .aptr s j rv sv p i c k) h ht hs ho
  | pim cs j => exact CellOk0.frame (c := .pim cs j) h ht hs ho

/-- A slot that nothing of the step is about. -/
theorem SlotOk.frame {n : Nat} {e e' : Env} {tm tm' : Array Value} {w w' : World} {G G' : Gh} {s : Nat} (h : SlotOk n e tm w G s) (hx : e'.get s = e.get s)
    (htm : s < n → tm'[s]? = tm[s]?) (hv : G'.vs s = G.vs s) (hl : ∀ j, G'.lt s j = G.lt s j) (hb : G'.bk s = G.bk s)
    (ht : ∀ t, TM e e' G G' t) (hs : Still w w' G.ow G'.ow) (ho : ∀ b ∈ fpS G s (e.get s), w'.heap[b]? = w.heap[b]? ∧ G'.ow b = some s) : SlotOk n e' tm' w' G' s := by
  have hl' : G'.lt s = G.lt s := funext hl
  have hf : fpS G' s (e'.get s) = fpS G s (e.get s) := by simp only [fpS, hx, hb, hl']
  have hcell : ∀ (j : Nat) c, (e.get s).sh ≠ .dead → (e.get s).cs[j]? = some c → ∀ b ∈ ownB c (G.lt s j), b ∈ fpS G s (e.get s) := by
    intro j c hsh hc b hb
    have key : ∀ (cs : List C) (i j : Nat), cs[j]? = some c → b ∈ ownB c (G.lt s (i + j)) → b ∈ fpCells (G.lt s) i cs := by
      intro cs
      induction cs with
      | nil => intro i j h; simp at h
      | cons a cs ih =>
        intro i j h hb
        cases j with
        | zero => simp at h; subst h; simp only [fpCells, List.mem_append]; left; simpa using hb
        | succ j =>
          simp at h
          simp only [fpCells, List.mem_append]
          right
          exact ih (i + 1) j h (by rw [show i + 1 + j = i + (j + 1) by omega]; exact hb)
    have := key (e.get s).cs 0 j hc (by simpa using hb)
    simp only [fpS, List.mem_append]
    right
    cases hh : (e.get s).sh <;> simp_all
  refine ⟨?_, ?_, ?_, ?_, ?_, ?_, ?_, ?_⟩
  · intro hn
    have := h.form hn
    rw [hx, hv, hb]
    simp only [FormIs] at this ⊢
    rw [htm hn]
    exact this
  · intro bv hbv
    rw [hx] at hbv
    obtain ⟨g1, ty, g2⟩ := h.box bv hbv
    refine ⟨by rw [hx]; exact g1, ty, ?_⟩
    rw [hb, hv, (ho (G.bk s) (by simp only [fpS, hbv]; simp)).1]
    exact g2
  · rw [hx, hv]; exact h.len
  · rw [hx, hv]
    intro hsh j c v hc hvj
    rw [hl]
    exact (h.cells hsh j c v hc hvj).frame ht hs fun b hb => (ho b (hcell j c hsh hc b hb)).1
  · rw [hx]; exact h.vers
  · rw [hf]; exact h.nodup
  · rw [hf]; exact fun b hb => (ho b hb).2
  · rw [hx]; exact h.dead

end Go.Mach
