/- The machine, part r: turning elements: plain lemmas. No condition: lemmas. -/
import Derived.Test.YtcdkpfcfcjnooaaMq
namespace Go.Mach
set_option linter.unusedVariables false
set_option linter.unusedSimpArgs false

/-! ### The same shape -/
def Shp : (k : K) → k.T → k.T → Prop
  | .int _, _, _ => True
  | .bool, _, _ => True
  | .str, _, _ => True
  | .list k, l, l' => l'.length = l.length ∧ ∀ i, i < l.length → Shp k (l.getD i k.dflt) (l'.getD i k.dflt)
  | .pair a b, x, y => Shp a x.1 y.1 ∧ Shp b x.2 y.2

theorem Shp.refl : ∀ (k : K) (x : k.T), Shp k x x
  | .int _, _ => trivial
  | .bool, _ => trivial
  | .str, _ => trivial
  | .list k, l => ⟨rfl, fun i _ => Shp.refl k _⟩
  | .pair a b, x => ⟨Shp.refl a _, Shp.refl b _⟩

theorem Shp.flat : ∀ {k : K} (x y : k.T), k.flat = true → Shp k x y
  | .int _, _, _, _ => trivial
  | .bool, _, _, _ => trivial
  | .str, _, _, _ => trivial
  | .list _, _, _, h => by simp [K.flat] at h
  | .pair a b, x, y, h => by
    simp only [K.flat, Bool.and_eq_true] at h
    exact ⟨Shp.flat _ _ h.1, Shp.flat _ _ h.2⟩

/-- A leaf of the same shape. -/
def ShpS (s s' : Sg) : Prop := s'.1 = s.1 ∧ ∀ h : s'.1 = s.1, Shp s.1 s.2 (h ▸ s'.2)

theorem Shp.leaf : ∀ {k : K} {x y : k.T} (c : Nat), Shp k x y → ∀ {k' : K} {z : List k'.T}, leafV k x c = ⟨.list k', z⟩ → ∃ z', leafV k y c = ⟨.list k', z'⟩ ∧ Shp (.list k') z z'
  | .int _, x, y, c, h, k', z, hz => by simp [leafV] at hz
  | .bool, x, y, c, h, k', z, hz => by simp [leafV] at hz
  | .str, x, y, c, h, k', z, hz => by simp [leafV] at hz
  | .list k, x, y, c, h, k', z, hz => by
    simp only [leafV, Sigma.mk.injEq, K.list.injEq] at hz
    obtain ⟨rfl, hz⟩ := hz
    have hz := eq_of_heq hz
    subst hz
    exact ⟨y, rfl, h⟩
  | .pair a b, x, y, c, h, k', z, hz => by
    simp only [leafV] at hz ⊢
    split at hz
    · rename_i hc
      rw [if_pos hc]
      exact Shp.leaf c h.1 hz
    · rename_i hc
      rw [if_neg hc]
      exact Shp.leaf _ h.2 hz

theorem Shp.path : ∀ (p : Path) {k : K} {l l' : List k.T}, Shp (.list k) l l' → PathOk k l p → PathOk k l' p ∧ (getP k l' p).1 = (getP k l p).1 ∧ (getP k l' p).2.length = (getP k l p).2.length
  | [], k, l, l', h, _ => by
    simp only [Shp] at h
    exact ⟨trivial, rfl, h.1⟩
  | (i, c) :: p, k, l, l', h, hp => by
    simp only [Shp] at h
    simp only [PathOk] at hp ⊢
    obtain ⟨hi, hc, hp⟩ := hp
    cases hl : leafV k (l.getD i k.dflt) c with
    | mk k1 y =>
      rw [hl] at hp
      cases k1 with
      | list k' =>
        obtain ⟨z', h1, h2⟩ := Shp.leaf c (h.2 i hi) hl
        obtain ⟨g1, g2, g3⟩ := Shp.path p h2 hp
        have e1 : getP k l ((i, c) :: p) = getP k' y p := by simp only [getP, hl]
        have e2 : getP k l' ((i, c) :: p) = getP k' z' p := by simp only [getP, h1]
        rw [e1, e2, h1]
        exact ⟨⟨by rw [h.1]; exact hi, hc, g1⟩, g2, g3⟩
      | _ => exact hp.elim

theorem Shp.setLeaf : ∀ {k : K} (x : k.T) (c : Nat) (s : Sg), c < k.size → s.1 = k.leaf c → (∀ {k' : K} {z : List k'.T}, leafV k x c = ⟨.list k', z⟩ → ∃ z', s = ⟨.list k', z'⟩ ∧ Shp (.list k') z z') → Shp k x (setLeaf k x c s)
  | .int _, x, c, s, _, _, _ => trivial
  | .bool, x, c, s, _, _, _ => trivial
  | .str, x, c, s, _, _, _ => trivial
  | .list k, x, c, s, _, _, h => by
    obtain ⟨z', rfl, h2⟩ := h rfl
    simp only [Mach.setLeaf, castT_same]
    exact h2
  | .pair a b, x, c, s, hc, hs, h => by
    simp only [Mach.setLeaf]
    simp only [K.leaf] at hs
    simp only [K.size] at hc
    split
    · rename_i q
      rw [if_pos q] at hs
      exact ⟨Shp.setLeaf x.1 c s q hs fun {k' z} hz => h (by simp only [leafV, if_pos q]; exact hz), Shp.refl b _⟩
    · rename_i q
      rw [if_neg q] at hs
      exact ⟨Shp.refl a _, Shp.setLeaf x.2 (c - a.size) s (by omega) hs fun {k' z} hz => h (by simp only [leafV, if_neg q]; exact hz)⟩

theorem Shp.set {k : K} {l : List k.T} {i : Nat} {y : k.T} (hi : i < l.length) (h : Shp k (l.getD i k.dflt) y) : Shp (.list k) l (l.set i y) := by
  simp only [Shp]
  refine ⟨by simp, fun j hj => ?_⟩
  by_cases e : i = j
  · subst e
    simp only [List.getD_eq_getElem?_getD, List.getElem?_set_self hi, Option.getD_some]
    simpa using h
  · simp only [List.getD_eq_getElem?_getD, List.getElem?_set_ne e]
    exact Shp.refl k _

/-- A turn at a path that keeps the shape there keeps the shape. -/
theorem Shp.mod (g : (k : K) → List k.T → List k.T) : ∀ (p : Path) {k : K} {l : List k.T}, PathOk k l p → Shp (.list (getP k l p).1) (getP k l p).2 (g (getP k l p).1 (getP k l p).2) → Shp (.list k) l (modP g k l p)
  | [], k, l, _, h => h
  | (i, c) :: p, k, l, hp, h => by
    simp only [PathOk] at hp
    obtain ⟨hi, hc, hp⟩ := hp
    simp only [modP]
    cases hl : leafV k (l.getD i k.dflt) c with
    | mk k1 y =>
      have hk := leafV_kind k (l.getD i k.dflt) c
      rw [hl] at hp hk
      cases k1 with
      | list k' =>
        have eg : getP k l ((i, c) :: p) = getP k' y p := by simp only [getP, hl]
        rw [eg] at h
        refine Shp.set hi (Shp.setLeaf _ c _ hc hk fun {k2 z} hz => ?_)
        rw [hl] at hz
        simp only [Sigma.mk.injEq, K.list.injEq] at hz
        obtain ⟨rfl, hz⟩ := hz
        have hz := eq_of_heq hz
        subst hz
        exact ⟨_, rfl, Shp.mod g p hp h⟩
      | _ => exact hp.elim

/-! ### Locations as they are -/
theorem setLeafL_self : ∀ (k : K) (L : LT) (c : Nat), setLeafL k L c (leafL k L c) = L
  | .int _, L, c => rfl
  | .bool, L, c => rfl
  | .str, L, c => rfl
  | .list _, L, c => rfl
  | .pair a b, L, c => by
    cases L with
    | pair x y =>
      simp only [setLeafL, leafL]
      split
      · rw [setLeafL_self]
      · rw [setLeafL_self]
    | _ => rfl

theorem list_set_getD {α : Type} (l : List α) (i : Nat) (d : α) : l.set i (l.getD i d) = l := by
  apply List.ext_getElem?
  intro j
  by_cases e : i = j
  · subst e
    rw [List.getElem?_set]
    by_cases h : i < l.length
    · simp [h]
    · simp [h]
  · rw [List.getElem?_set_ne e]

theorem setSub_self {dr d : Bool} {w : World} : ∀ (p : Path) {k : K} {l : List k.T} {L : LT} {v : Value}, RepL dr w k.size (Rep d w k) l L v → PathOk k l p → setSub k L (subL k L p) p = L
  | [], k, l, L, v, _, _ => rfl
  | (i, c) :: p, k, l, L, v, h, hp => by
    simp only [PathOk] at hp
    obtain ⟨hi, hc, hp⟩ := hp
    obtain ⟨b, off, cap, rows, r, vs, rfl, rfl, hcap, hrl, hr, hrow, hrep⟩ := h.elem hi
    obtain ⟨v1, hv1, hleaf, hsub⟩ := hrep.leaf hc
    have hrd : rows.getD i .leaf = r := by simp [hr]
    cases hl : leafV k (l.getD i k.dflt) c with
    | mk k1 y =>
      have hk := leafV_kind k (l.getD i k.dflt) c
      rw [hl] at hk hp hleaf
      simp only at hk hleaf
      cases k1 with
      | list k' =>
        simp only [Rep] at hleaf
        obtain ⟨u, hu, hleaf⟩ := hleaf
        simp only [subL, setSub, ← hk, hrd]
        rw [setSub_self p hleaf hp, setLeafL_self]
        congr 1
        rw [← hrd, list_set_getD]
      | _ => exact hp.elim

/-! ### Leaves, set one by one -/
def setLeavesL (k : K) : LT → Nat → List LT → LT
  | L, _, [] => L
  | L, c, M :: r => setLeavesL k (setLeafL k L c M) (c + 1) r

/-- Leaves, their places and their cells. -/
def LeavesAt (d : Bool) (w : World) (k : K) : Nat → List Sg → List LT → List Value → Prop
  | _, [], [], [] => True
  | c, s :: gs, M :: Ms, u :: us => s.1 = k.leaf c ∧ Rep d w s.1 s.2 M [u] ∧ LeavesAt d w k (c + 1) gs Ms us
  | _, _, _, _ => False

/-- The blocks of leaves. -/
def fpLeaves : List Sg → List LT → List Nat
  | s :: gs, M :: Ms => fp s.1 M ++ fpLeaves gs Ms
  | _, _ => []

theorem LeavesAt.length {d : Bool} {w : World} {k : K} : ∀ {c : Nat} {gs : List Sg} {Ms : List LT} {us : List Value}, LeavesAt d w k c gs Ms us → gs.length = us.length ∧ Ms.length = us.length
  | _, [], [], [], _ => ⟨rfl, rfl⟩
  | c, s :: gs, M :: Ms, u :: us, h => by
    obtain ⟨_, _, h⟩ := h
    obtain ⟨h1, h2⟩ := h.length
    simp [h1, h2]
  | _, [], [], _ :: _, h => by simp [LeavesAt] at h
  | _, [], _ :: _, _, h => by simp [LeavesAt] at h
  | _, _ :: _, [], _, h => by simp [LeavesAt] at h
  | _, _ :: _, _ :: _, [], h => by simp [LeavesAt] at h

theorem Rep.setLeaves {d : Bool} {w : World} {k : K} : ∀ {gs : List Sg} {Ms : List LT} {us : List Value} {x : k.T} {L : LT} {cs : List Value} {c : Nat}, Rep d w k x L cs → c + us.length ≤ k.size → LeavesAt d w k c gs Ms us →
    Rep d w k (setLeaves k x c gs) (setLeavesL k L c Ms) (setFrom cs c us)
  | [], [], [], x, L, cs, c, h, _, _ => h
  | s :: gs, M :: Ms, u :: us, x, L, cs, c, h, hc, hl => by
    obtain ⟨h1, h2, h3⟩ := hl
    simp only [List.length_cons] at hc
    have h0 : Rep d w k (Mach.setLeaf k x c s) (setLeafL k L c M) (cs.set c u) := h.setLeaf (by omega) h1 h2
    exact Rep.setLeaves (gs := gs) (Ms := Ms) (us := us) (c := c + 1) h0 (by omega) h3
  | [], [], _ :: _, _, _, _, _, _, _, h => by simp [LeavesAt] at h
  | [], _ :: _, _, _, _, _, _, _, _, h => by simp [LeavesAt] at h
  | _ :: _, [], _, _, _, _, _, _, _, h => by simp [LeavesAt] at h
  | _ :: _, _ :: _, [], _, _, _, _, _, _, h => by simp [LeavesAt] at h

theorem K.leaf_leaf : ∀ (k : K) (c : Nat), (k.leaf c).flat = false → ∃ k', k.leaf c = .list k'
  | .int _, c, h => by simp [K.leaf, K.flat] at h
  | .bool, c, h => by simp [K.leaf, K.flat] at h
  | .str, c, h => by simp [K.leaf, K.flat] at h
  | .list k, c, _ => ⟨k, rfl⟩
  | .pair a b, c, h => by
    simp only [K.leaf] at h ⊢
    split <;> rename_i q
    · rw [if_pos q] at h; exact K.leaf_leaf a c h
    · rw [if_neg q] at h; exact K.leaf_leaf b _ h

/-- The blocks of an element whose leaves are set: those of the leaves, and of what is left. -/
theorem leaves_perm {d : Bool} {w : World} {k : K} : ∀ {gs : List Sg} {Ms : List LT} {us : List Value} {x : k.T} {L : LT} {cs : List Value} {c : Nat}, Rep d w k x L cs → c + us.length ≤ k.size → LeavesAt d w k c gs Ms us →
    ∃ rest, (fpLeaves gs Ms ++ fp k L).Perm (fp k (setLeavesL k L c Ms) ++ rest)
  | [], [], [], x, L, cs, c, h, _, _ => ⟨[], by simp [fpLeaves, setLeavesL]⟩
  | s :: gs, M :: Ms, u :: us, x, L, cs, c, h, hc, hl => by
    obtain ⟨h1, h2, h3⟩ := hl
    simp only [List.length_cons] at hc
    have h0 : Rep d w k (Mach.setLeaf k x c s) (setLeafL k L c M) (cs.set c u) := h.setLeaf (by omega) h1 h2
    obtain ⟨rest, hr⟩ := leaves_perm (gs := gs) (Ms := Ms) (us := us) (c := c + 1) h0 (by omega) h3
    obtain ⟨q1, q2⟩ := leaf_perm h (c := c) (by omega)
    refine ⟨rest ++ fp (k.leaf c) (leafL k L c), ?_⟩
    simp only [fpLeaves, setLeavesL]
    have := q2 M
    rw [← List.append_assoc]
    refine List.Perm.trans ?_ (hr.append_right _)
    rw [h1]
    -- fp M ++ fpLeaves ++ fp L ~ fpLeaves ++ fp (set) ++ leaf
    have e1 : (fpLeaves gs Ms ++ fp k (setLeafL k L c M) ++ fp (k.leaf c) (leafL k L c)).Perm (fpLeaves gs Ms ++ (fp (k.leaf c) M ++ restL k L c) ++ fp (k.leaf c) (leafL k L c)) :=
      (List.Perm.append_left _ this).append_right _
    refine List.Perm.trans ?_ e1.symm
    have e2 : (fp (k.leaf c) M ++ fpLeaves gs Ms ++ fp k L).Perm (fp (k.leaf c) M ++ fpLeaves gs Ms ++ (fp (k.leaf c) (leafL k L c) ++ restL k L c)) := List.Perm.append_left _ q1
    refine e2.trans ?_
    simp only [List.append_assoc]
    have e3 : (fp (k.leaf c) M ++ (fpLeaves gs Ms ++ (fp (k.leaf c) (leafL k L c) ++ restL k L c))).Perm (fpLeaves gs Ms ++ (fp (k.leaf c) M ++ (fp (k.leaf c) (leafL k L c) ++ restL k L c))) := by
      rw [← List.append_assoc, ← List.append_assoc]
      rw [← List.append_assoc, ← List.append_assoc]
      exact (List.perm_append_comm.append_right _).append_right _
    refine e3.trans (List.Perm.append_left _ (List.Perm.append_left _ List.perm_append_comm))
  | [], [], _ :: _, _, _, _, _, _, _, h => by simp [LeavesAt] at h
  | [], _ :: _, _, _, _, _, _, _, _, h => by simp [LeavesAt] at h
  | _ :: _, [], _, _, _, _, _, _, _, h => by simp [LeavesAt] at h
  | _ :: _, _ :: _, [], _, _, _, _, _, _, h => by simp [LeavesAt] at h

end Go.Mach
