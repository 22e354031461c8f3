/- The machine, part c: how typed data lie in the memory of the model; what of it changes when memory changes. No condition: lemmas. -/
import Derived.Test.YtcdkpfcfcjnooaaMb
namespace Go.Mach

/-- Where data lie: a tree of places beside the data. -/
inductive LT where
  | leaf | nil | node (b off cap : Nat) (rows : List LT) | pair (a b : LT)
  deriving Inhabited

def cellIs (w : World) (b o : Nat) (v : Value) : Prop := w.cell? ⟨b, o, none⟩ = some v

def RowAt (w : World) (b o : Nat) (vs : List Value) : Prop := ∀ i v, vs[i]? = some v → w.cell? ⟨b, o + i, none⟩ = some v

def Room (w : World) (b n : Nat) : Prop := ∃ c e fr, w.heap[b]? = some (.cells c e fr) ∧ n ≤ c.size ∧ (c.size ≤ fr.1 ∨ fr.2 ≤ fr.1)

def RepL (dr : Bool) (w : World) (sz : Nat) {α : Type} (R : α → LT → List Value → Prop) (l : List α) (L : LT) (v : Value) : Prop :=
  (L = .nil ∧ l = [] ∧ ∃ a cap, v = .slice a 0 cap ∧ (dr = true → cap = 0)) ∨
  (∃ b off cap rows, L = .node b off cap rows ∧ v = .slice (some ⟨b, off, none⟩) l.length cap ∧ l.length ≤ cap ∧ rows.length = l.length ∧ w.heap[b]? ≠ none ∧
    (dr = true → Room w b (off + cap * sz)) ∧
    ∀ i x r, l[i]? = some x → rows[i]? = some r → ∃ vs, RowAt w b (off + i * sz) vs ∧ R x r vs)

/-- The data x of kind k lie at L and read as the cells cs. d: every row has its room, and nothing in it is nil but what is so. -/
def Rep (d : Bool) (w : World) : (k : K) → k.T → LT → List Value → Prop
  | .int ik, x, _, cs => cs = [.int ik x]
  | .bool, x, _, cs => cs = [.bool x]
  | .str, x, _, cs => cs = [.string ⟨⟨x⟩⟩]
  | .list k, l, L, cs => ∃ v, cs = [v] ∧ RepL d w k.size (Rep d w k) l L v
  | .pair a b, x, L, cs => ∃ La Lb c1 c2, L = .pair La Lb ∧ cs = c1 ++ c2 ∧ Rep d w a x.1 La c1 ∧ Rep d w b x.2 Lb c2

/-- The blocks in which data lie. -/
def fp : K → LT → List Nat
  | .list k, L => match L with
    | .node b _ _ rows => b :: rows.flatMap (fp k)
    | _ => []
  | .pair a b, L => match L with
    | .pair x y => fp a x ++ fp b y
    | _ => []
  | _, _ => []

theorem Rep.size {d : Bool} {w : World} : ∀ {k : K} {x : k.T} {L : LT} {cs : List Value}, Rep d w k x L cs → cs.length = k.size
  | .int _, _, _, _, h => by simp only [Rep] at h; simp [h, K.size]
  | .bool, _, _, _, h => by simp only [Rep] at h; simp [h, K.size]
  | .str, _, _, _, h => by simp only [Rep] at h; simp [h, K.size]
  | .list _, _, _, _, h => by simp only [Rep] at h; obtain ⟨v, rfl, _⟩ := h; simp [K.size]
  | .pair a b, _, _, _, h => by
    simp only [Rep] at h
    obtain ⟨La, Lb, c1, c2, _, rfl, h1, h2⟩ := h
    simp [K.size, h1.size, h2.size]

theorem K.size_pos : ∀ k : K, 0 < k.size
  | .int _ => by simp [K.size]
  | .bool => by simp [K.size]
  | .str => by simp [K.size]
  | .list _ => by simp [K.size]
  | .pair a b => by simp only [K.size]; have := a.size_pos; omega

/-- Two worlds agree on blocks. -/
def Same (w w' : World) (bs : List Nat) : Prop := ∀ b ∈ bs, w'.heap[b]? = w.heap[b]?

theorem cell_same {w w' : World} {b o : Nat} (h : w'.heap[b]? = w.heap[b]?) : w'.cell? ⟨b, o, none⟩ = w.cell? ⟨b, o, none⟩ := by
  simp only [World.cell?, h]

theorem RowAt.same {w w' : World} {b o : Nat} {vs : List Value} (h : RowAt w b o vs) (hs : w'.heap[b]? = w.heap[b]?) : RowAt w' b o vs :=
  fun i v hv => by rw [cell_same hs]; exact h i v hv

theorem Room.same {w w' : World} {b n : Nat} (h : Room w b n) (hs : w'.heap[b]? = w.heap[b]?) : Room w' b n := by
  obtain ⟨c, e, fr, h1, h2⟩ := h
  exact ⟨c, e, fr, by rw [hs]; exact h1, h2⟩

theorem Rep.same {d : Bool} {w w' : World} : ∀ {k : K} {x : k.T} {L : LT} {cs : List Value}, Rep d w k x L cs → Same w w' (fp k L) → Rep d w' k x L cs
  | .int _, _, _, _, h, _ => h
  | .bool, _, _, _, h, _ => h
  | .str, _, _, _, h, _ => h
  | .list k, l, L, cs, h, hs => by
    simp only [Rep] at h ⊢
    obtain ⟨v, hv, h⟩ := h
    refine ⟨v, hv, ?_⟩
    rcases h with h | ⟨b, off, cap, rows, rfl, h1, h2, h3, h0, h4, h5⟩
    · exact .inl h
    · have hb : w'.heap[b]? = w.heap[b]? := hs b (by simp [fp])
      refine .inr ⟨b, off, cap, rows, rfl, h1, h2, h3, by rw [hb]; exact h0, fun hd => (h4 hd).same hb, fun i x r hx hr => ?_⟩
      obtain ⟨vs, g1, g2⟩ := h5 i x r hx hr
      refine ⟨vs, g1.same hb, g2.same fun b' hb' => hs b' ?_⟩
      simp only [fp, List.mem_cons, List.mem_flatMap]
      exact .inr ⟨r, List.mem_of_getElem? hr, hb'⟩
  | .pair a b, x, L, cs, h, hs => by
    simp only [Rep] at h ⊢
    obtain ⟨La, Lb, c1, c2, rfl, rfl, h1, h2⟩ := h
    exact ⟨La, Lb, c1, c2, rfl, rfl, h1.same fun b hb => hs b (by simp [fp, hb]), h2.same fun b hb => hs b (by simp [fp, hb])⟩

theorem Rep.weaken {d : Bool} {w : World} : ∀ {k : K} {x : k.T} {L : LT} {cs : List Value}, Rep d w k x L cs → Rep false w k x L cs
  | .int _, _, _, _, h => h
  | .bool, _, _, _, h => h
  | .str, _, _, _, h => h
  | .list k, l, L, cs, h => by
    simp only [Rep] at h ⊢
    obtain ⟨v, hv, h⟩ := h
    refine ⟨v, hv, ?_⟩
    rcases h with ⟨h1, h2, a, cap, h3, _⟩ | ⟨b, off, cap, rows, rfl, h1, h2, h3, h0, h4, h5⟩
    · exact .inl ⟨h1, h2, a, cap, h3, by simp⟩
    · refine .inr ⟨b, off, cap, rows, rfl, h1, h2, h3, h0, by simp, fun i x r hx hr => ?_⟩
      obtain ⟨vs, g1, g2⟩ := h5 i x r hx hr
      exact ⟨vs, g1, g2.weaken⟩
  | .pair a b, x, L, cs, h => by
    simp only [Rep] at h ⊢
    obtain ⟨La, Lb, c1, c2, rfl, rfl, h1, h2⟩ := h
    exact ⟨La, Lb, c1, c2, rfl, rfl, h1.weaken, h2.weaken⟩

/-- Flat data have no places. -/
theorem fp_flat : ∀ {k : K} {L : LT}, k.flat = true → fp k L = []
  | .int _, _, _ => rfl
  | .bool, _, _ => rfl
  | .str, _, _ => rfl
  | .list _, _, h => by simp [K.flat] at h
  | .pair a b, L, h => by
    simp only [K.flat, Bool.and_eq_true] at h
    cases L <;> simp [fp, fp_flat h.1, fp_flat h.2]

/-- Flat data lie the one way or the other. -/
theorem Rep.flat {d d' : Bool} {w w' : World} : ∀ {k : K} {x : k.T} {L : LT} {cs : List Value}, k.flat = true → Rep d w k x L cs → Rep d' w' k x L cs
  | .int _, _, _, _, _, h => h
  | .bool, _, _, _, _, h => h
  | .str, _, _, _, _, h => h
  | .list _, _, _, _, hf, _ => by simp [K.flat] at hf
  | .pair a b, x, L, cs, hf, h => by
    simp only [K.flat, Bool.and_eq_true] at hf
    simp only [Rep] at h ⊢
    obtain ⟨La, Lb, c1, c2, rfl, rfl, h1, h2⟩ := h
    exact ⟨La, Lb, c1, c2, rfl, rfl, h1.flat hf.1, h2.flat hf.2⟩

/-! ### Leaves -/
def leafL : K → LT → Nat → LT
  | .pair a b, L, c => match L with
    | .pair x y => if c < a.size then leafL a x c else leafL b y (c - a.size)
    | _ => .leaf
  | _, L, _ => L

def setLeafL : K → LT → Nat → LT → LT
  | .pair a b, L, c, M => match L with
    | .pair x y => if c < a.size then .pair (setLeafL a x c M) y else .pair x (setLeafL b y (c - a.size) M)
    | _ => L
  | _, _, _, M => M

theorem leafV_kind : ∀ (k : K) (x : k.T) (c : Nat), (leafV k x c).1 = k.leaf c
  | .int _, _, _ => rfl
  | .bool, _, _ => rfl
  | .str, _, _ => rfl
  | .list _, _, _ => rfl
  | .pair a b, x, c => by
    simp only [leafV, K.leaf]
    split
    · exact leafV_kind a x.1 c
    · exact leafV_kind b x.2 _

theorem Rep.leaf {d : Bool} {w : World} : ∀ {k : K} {x : k.T} {L : LT} {cs : List Value} {c : Nat}, Rep d w k x L cs → c < k.size →
    ∃ v, cs[c]? = some v ∧ Rep d w (leafV k x c).1 (leafV k x c).2 (leafL k L c) [v] ∧ ∀ b ∈ fp (leafV k x c).1 (leafL k L c), b ∈ fp k L
  | .int _, _, _, cs, c, h, hc => by
    simp only [Rep] at h; simp only [K.size] at hc
    obtain rfl : c = 0 := by omega
    exact ⟨_, by rw [h]; rfl, by simp [leafV, Rep], by simp [leafV, fp]⟩
  | .bool, _, _, cs, c, h, hc => by
    simp only [Rep] at h; simp only [K.size] at hc
    obtain rfl : c = 0 := by omega
    exact ⟨_, by rw [h]; rfl, by simp [leafV, Rep], by simp [leafV, fp]⟩
  | .str, _, _, cs, c, h, hc => by
    simp only [Rep] at h; simp only [K.size] at hc
    obtain rfl : c = 0 := by omega
    exact ⟨_, by rw [h]; rfl, by simp [leafV, Rep], by simp [leafV, fp]⟩
  | .list k, l, L, cs, c, h, hc => by
    simp only [K.size] at hc
    obtain rfl : c = 0 := by omega
    have h' := h
    simp only [Rep] at h'
    obtain ⟨v, rfl, _⟩ := h'
    exact ⟨v, rfl, by simpa [leafV, leafL] using h, by simp [leafV, leafL]⟩
  | .pair a b, x, L, cs, c, h, hc => by
    simp only [Rep] at h
    obtain ⟨La, Lb, c1, c2, rfl, rfl, h1, h2⟩ := h
    have s1 := h1.size
    simp only [K.size] at hc
    by_cases hlt : c < a.size
    · have q : leafV (.pair a b) x c = leafV a x.1 c := if_pos hlt
      have q' : leafL (.pair a b) (.pair La Lb) c = leafL a La c := if_pos hlt
      rw [q, q']
      obtain ⟨v, e1, e2, e3⟩ := h1.leaf hlt
      refine ⟨v, ?_, e2, fun b hb => by simp [fp, e3 b hb]⟩
      rw [List.getElem?_append_left (by omega)]; exact e1
    · have q : leafV (.pair a b) x c = leafV b x.2 (c - a.size) := if_neg hlt
      have q' : leafL (.pair a b) (.pair La Lb) c = leafL b Lb (c - a.size) := if_neg hlt
      rw [q, q']
      obtain ⟨v, e1, e2, e3⟩ := h2.leaf (c := c - a.size) (by omega)
      refine ⟨v, ?_, e2, fun b hb => by simp [fp, e3 b hb]⟩
      rw [List.getElem?_append_right (by omega), s1]; exact e1

theorem castT_same (k : K) (y d : k.T) : castT ⟨k, y⟩ k d = y := by simp [castT]

theorem Rep.setLeaf {d : Bool} {w : World} : ∀ {k : K} {x : k.T} {L : LT} {cs : List Value} {c : Nat} {s : Sg} {M : LT} {v : Value}, Rep d w k x L cs → c < k.size →
    s.1 = k.leaf c → Rep d w s.1 s.2 M [v] → Rep d w k (setLeaf k x c s) (setLeafL k L c M) (cs.set c v)
  | .int i, x, L, cs, c, ⟨k', y⟩, M, v, h, hc, hk, hv => by
    simp only [Rep] at h; simp only [K.size] at hc
    obtain rfl : c = 0 := by omega
    simp only [K.leaf] at hk
    subst hk
    simp only [Rep] at hv ⊢
    rw [h]
    simp only [Mach.setLeaf, castT_same, List.set_cons_zero]
    exact hv
  | .bool, x, L, cs, c, ⟨k', y⟩, M, v, h, hc, hk, hv => by
    simp only [Rep] at h; simp only [K.size] at hc
    obtain rfl : c = 0 := by omega
    simp only [K.leaf] at hk
    subst hk
    simp only [Rep] at hv ⊢
    rw [h]
    simp only [Mach.setLeaf, castT_same, List.set_cons_zero]
    exact hv
  | .str, x, L, cs, c, ⟨k', y⟩, M, v, h, hc, hk, hv => by
    simp only [Rep] at h; simp only [K.size] at hc
    obtain rfl : c = 0 := by omega
    simp only [K.leaf] at hk
    subst hk
    simp only [Rep] at hv ⊢
    rw [h]
    simp only [Mach.setLeaf, castT_same, List.set_cons_zero]
    exact hv
  | .list k, x, L, cs, c, ⟨k', y⟩, M, v, h, hc, hk, hv => by
    simp only [K.size] at hc
    obtain rfl : c = 0 := by omega
    simp only [K.leaf] at hk
    subst hk
    have h' := h
    simp only [Rep] at h'
    obtain ⟨u, rfl, _⟩ := h'
    simpa [Mach.setLeaf, castT_same, setLeafL] using hv
  | .pair a b, x, L, cs, c, s, M, v, h, hc, hk, hv => by
    simp only [Rep] at h
    obtain ⟨La, Lb, c1, c2, rfl, rfl, h1, h2⟩ := h
    have s1 := h1.size
    simp only [K.size] at hc
    simp only [K.leaf] at hk
    simp only [Mach.setLeaf, setLeafL]
    by_cases hlt : c < a.size
    · simp only [hlt, if_true] at hk ⊢
      simp only [Rep]
      exact ⟨_, _, c1.set c v, c2, rfl, by rw [List.set_append_left _ _ (by omega)], h1.setLeaf hlt hk hv, h2⟩
    · simp only [hlt, if_false] at hk ⊢
      simp only [Rep]
      exact ⟨_, _, c1, c2.set (c - a.size) v, rfl, by rw [List.set_append_right _ _ (by omega), s1], h1, h2.setLeaf (by omega) hk hv⟩

def restL : K → LT → Nat → List Nat
  | .pair a b, L, c => match L with
    | .pair x y => if c < a.size then restL a x c ++ fp b y else fp a x ++ restL b y (c - a.size)
    | _ => []
  | _, _, _ => []

theorem leaf_perm {d : Bool} {w : World} : ∀ {k : K} {x : k.T} {L : LT} {cs : List Value} {c : Nat}, Rep d w k x L cs → c < k.size →
    (fp k L).Perm (fp (k.leaf c) (leafL k L c) ++ restL k L c) ∧ ∀ M, (fp k (setLeafL k L c M)).Perm (fp (k.leaf c) M ++ restL k L c)
  | .int i, _, L, _, _, _, _ => ⟨by simp [fp, restL, K.leaf], fun M => by simp [fp, restL, K.leaf]⟩
  | .bool, _, L, _, _, _, _ => ⟨by simp [fp, restL, K.leaf], fun M => by simp [fp, restL, K.leaf]⟩
  | .str, _, L, _, _, _, _ => ⟨by simp [fp, restL, K.leaf], fun M => by simp [fp, restL, K.leaf]⟩
  | .list k, _, L, _, _, _, _ => ⟨by simp [K.leaf, leafL, restL], fun M => by simp [K.leaf, setLeafL, restL]⟩
  | .pair a b, x, L, cs, c, h, hc => by
    simp only [Rep] at h
    obtain ⟨La, Lb, c1, c2, rfl, rfl, h1, h2⟩ := h
    simp only [K.size] at hc
    by_cases hlt : c < a.size
    · obtain ⟨p1, p2⟩ := leaf_perm h1 hlt
      refine ⟨?_, fun M => ?_⟩
      · simp only [K.leaf, leafL, restL, if_pos hlt, fp]
        rw [← List.append_assoc]
        exact p1.append_right _
      · simp only [K.leaf, setLeafL, restL, if_pos hlt, fp]
        rw [← List.append_assoc]
        exact (p2 M).append_right _
    · obtain ⟨p1, p2⟩ := leaf_perm h2 (c := c - a.size) (by omega)
      refine ⟨?_, fun M => ?_⟩
      · simp only [K.leaf, leafL, restL, if_neg hlt, fp]
        refine (p1.append_left (fp a La)).trans ?_
        rw [← List.append_assoc, ← List.append_assoc]
        exact List.perm_append_comm.append_right _
      · simp only [K.leaf, setLeafL, restL, if_neg hlt, fp]
        refine ((p2 M).append_left (fp a La)).trans ?_
        rw [← List.append_assoc, ← List.append_assoc]
        exact List.perm_append_comm.append_right _

theorem row_back {vs : List Value} {c : Nat} {v : Value} (h : vs[c]? = some v) : vs.set c v = vs := by
  apply List.ext_getElem?
  intro i
  by_cases e : c = i
  · subst e
    rw [h]
    have : c < vs.length := by
      rcases Nat.lt_or_ge c vs.length with g | g
      · exact g
      · rw [List.getElem?_eq_none g] at h; simp at h
    simp [this]
  · rw [List.getElem?_set_ne e]

/-- A leaf turned, over a world in which the other leaves are as they were. -/
theorem Rep.setLeaf_same {d : Bool} {w w' : World} : ∀ {k : K} {x : k.T} {L : LT} {cs : List Value} {c : Nat} {s : Sg} {M : LT} {v : Value}, Rep d w k x L cs → c < k.size →
    s.1 = k.leaf c → Rep d w' s.1 s.2 M [v] → Same w w' (restL k L c) → Rep d w' k (Mach.setLeaf k x c s) (setLeafL k L c M) (cs.set c v)
  | .int i, x, L, cs, c, ⟨k', y⟩, M, v, h, hc, hk, hv, _ => Rep.setLeaf (k := .int i) (w := w') (x := x) (L := L) h hc hk hv
  | .bool, x, L, cs, c, ⟨k', y⟩, M, v, h, hc, hk, hv, _ => Rep.setLeaf (k := .bool) (w := w') (x := x) (L := L) h hc hk hv
  | .str, x, L, cs, c, ⟨k', y⟩, M, v, h, hc, hk, hv, _ => Rep.setLeaf (k := .str) (w := w') (x := x) (L := L) h hc hk hv
  | .list k, x, L, cs, c, ⟨k', y⟩, M, v, h, hc, hk, hv, _ => by
    simp only [K.size] at hc
    obtain rfl : c = 0 := by omega
    simp only [K.leaf] at hk
    subst hk
    have h' := h
    simp only [Rep] at h'
    obtain ⟨u, rfl, _⟩ := h'
    simpa [Mach.setLeaf, castT_same, setLeafL] using hv
  | .pair a b, x, L, cs, c, s, M, v, h, hc, hk, hv, hs => by
    simp only [Rep] at h
    obtain ⟨La, Lb, c1, c2, rfl, rfl, h1, h2⟩ := h
    have s1 := h1.size
    simp only [K.size] at hc
    simp only [K.leaf] at hk
    simp only [Mach.setLeaf, setLeafL]
    by_cases hlt : c < a.size
    · simp only [hlt, if_true] at hk ⊢
      simp only [restL, if_pos hlt] at hs
      simp only [Rep]
      exact ⟨_, _, c1.set c v, c2, rfl, by rw [List.set_append_left _ _ (by omega)], h1.setLeaf_same hlt hk hv (fun b hb => hs b (by simp [hb])), h2.same (fun b hb => hs b (by simp [hb]))⟩
    · simp only [hlt, if_false] at hk ⊢
      simp only [restL, if_neg hlt] at hs
      simp only [Rep]
      exact ⟨_, _, c1, c2.set (c - a.size) v, rfl, by rw [List.set_append_right _ _ (by omega), s1], h1.same (fun b hb => hs b (by simp [hb])), h2.setLeaf_same (by omega) hk hv (fun b hb => hs b (by simp [hb]))⟩

/-! ### Rows and paths -/
def restRows {α β : Type} (f : α → List β) (rows : List α) (i : Nat) : List β := (rows.take i ++ rows.drop (i + 1)).flatMap f

theorem flat_perm {α β : Type} (f : α → List β) (rows : List α) (i : Nat) (r : α) (h : rows[i]? = some r) :
    (rows.flatMap f).Perm (f r ++ restRows f rows i) ∧ ∀ r', ((rows.set i r').flatMap f).Perm (f r' ++ restRows f rows i) := by
  induction rows generalizing i with
  | nil => simp at h
  | cons a rows ih =>
    cases i with
    | zero =>
      simp at h
      subst h
      exact ⟨by simp [restRows], fun r' => by simp [restRows]⟩
    | succ i =>
      simp at h
      obtain ⟨p1, p2⟩ := ih i h
      refine ⟨?_, fun r' => ?_⟩
      · simp only [List.flatMap_cons, restRows, List.take_succ_cons, List.drop_succ_cons, List.cons_append]
        refine (p1.append_left (f a)).trans ?_
        rw [← List.append_assoc, ← List.append_assoc]
        exact List.perm_append_comm.append_right _
      · simp only [List.set_cons_succ, List.flatMap_cons, restRows, List.take_succ_cons, List.drop_succ_cons, List.cons_append]
        refine ((p2 r').append_left (f a)).trans ?_
        rw [← List.append_assoc, ← List.append_assoc]
        exact List.perm_append_comm.append_right _

theorem flat_rest {α β : Type} (f : α → List β) (rows : List α) {i i' : Nat} {r' : α} (h : rows[i']? = some r') (hne : i ≠ i') {b : β} (hb : b ∈ f r') : b ∈ restRows f rows i := by
  refine List.mem_flatMap.2 ⟨r', ?_, hb⟩
  rw [List.mem_append]
  rcases Nat.lt_or_gt_of_ne hne with g | g
  · right
    refine List.mem_of_getElem? (i := i' - (i + 1)) ?_
    rw [List.getElem?_drop, ← h]
    congr 1
    omega
  · left
    refine List.mem_of_getElem? (i := i') ?_
    rw [List.getElem?_take_of_lt g, h]

/-- An element of a list that lies somewhere. -/
theorem RepL.elem {dr d : Bool} {w : World} {k : K} {l : List k.T} {L : LT} {v : Value} (h : RepL dr w k.size (Rep d w k) l L v) {i : Nat} (hi : i < l.length) :
    ∃ b off cap rows r vs, L = .node b off cap rows ∧ v = .slice (some ⟨b, off, none⟩) l.length cap ∧ l.length ≤ cap ∧ rows.length = l.length ∧ rows[i]? = some r ∧
      RowAt w b (off + i * k.size) vs ∧ Rep d w k (l.getD i k.dflt) r vs := by
  rcases h with ⟨_, h, _⟩ | ⟨b, off, cap, rows, h1, h2, h3, h4, _, _, h5⟩
  · subst h; simp at hi
  · have hr : rows[i]? = some (rows[i]'(by omega)) := List.getElem?_eq_getElem (by omega)
    have hx : l[i]? = some (l.getD i k.dflt) := by simp [List.getElem?_eq_getElem hi]
    obtain ⟨vs, g1, g2⟩ := h5 i _ _ hx hr
    exact ⟨b, off, cap, rows, _, vs, h1, h2, h3, h4, hr, g1, g2⟩

def PathOk : (k : K) → List k.T → Path → Prop
  | _, _, [] => True
  | k, l, (i, c) :: p => i < l.length ∧ c < k.size ∧
    match leafV k (l.getD i k.dflt) c with
    | ⟨.list k', y⟩ => PathOk k' y p
    | _ => False

def subL : K → LT → Path → LT
  | _, L, [] => L
  | k, L, (i, c) :: p => match L, k.leaf c with
    | .node _ _ _ rows, .list k' => subL k' (leafL k (rows.getD i .leaf) c) p
    | _, _ => .leaf

def setSub (k : K) (L : LT) (M : LT) : Path → LT
  | [] => M
  | (i, c) :: p => match L, k.leaf c with
    | .node b off cap rows, .list k' => .node b off cap (rows.set i (setLeafL k (rows.getD i .leaf) c (setSub k' (leafL k (rows.getD i .leaf) c) M p)))
    | _, _ => .leaf

theorem leafV_list {k : K} {x : k.T} {c : Nat} {k' : K} {y : List k'.T} (h : leafV k x c = ⟨.list k', y⟩) : k.leaf c = .list k' := by
  rw [← leafV_kind k x c, h]

theorem Rep.any {w : World} {k : K} {x : k.T} {L : LT} {cs : List Value} (dd : Bool) (h : Rep true w k x L cs) : Rep dd w k x L cs := by
  cases dd
  · exact h.weaken
  · exact h

theorem RepL.any {d : Bool} {w : World} {k : K} {l : List k.T} {L : LT} {v : Value} (dd : Bool) (h : RepL true w k.size (Rep d w k) l L v) : RepL dd w k.size (Rep d w k) l L v := by
  cases dd
  · rcases h with ⟨h1, h2, a, cap, h3, _⟩ | ⟨b, off, cap, rows, h1, h2, h3, h4, h0, _, h6⟩
    · exact .inl ⟨h1, h2, a, cap, h3, by simp⟩
    · exact .inr ⟨b, off, cap, rows, h1, h2, h3, h4, h0, by simp, h6⟩
  · exact h

/-- What lies at a path of owned data can be turned by itself: the rest is as it was. -/
theorem focus {w : World} (g : (k : K) → List k.T → List k.T) : ∀ (p : Path) (k : K) (l : List k.T) (L : LT) (v : Value), RepL true w k.size (Rep true w k) l L v → PathOk k l p →
    ∃ v' rest, RepL true w (getP k l p).1.size (Rep true w (getP k l p).1) (getP k l p).2 (subL k L p) v' ∧
      (fp (.list k) L).Perm (fp (.list (getP k l p).1) (subL k L p) ++ rest) ∧
      ∀ w' M dd, Same w w' rest → RepL true w' (getP k l p).1.size (Rep dd w' (getP k l p).1) (g (getP k l p).1 (getP k l p).2) M v' →
        RepL true w' k.size (Rep dd w' k) (modP g k l p) (setSub k L M p) v ∧ (fp (.list k) (setSub k L M p)).Perm (fp (.list (getP k l p).1) M ++ rest)
  | [], k, l, L, v, h, _ => ⟨v, [], by simpa [getP, subL] using h, by simp [getP, subL], fun w' M dd _ hM => ⟨by simpa [getP, modP, setSub] using hM, by simp [getP, setSub]⟩⟩
  | (i, c) :: p, k, l, L, v, h, hp => by
    simp only [PathOk] at hp
    obtain ⟨hi, hc, hp⟩ := hp
    have hlen := h.elem hi
    obtain ⟨b, off, cap, rows, r, vs, rfl, rfl, hcap, hrl, hr, hrow, hrep⟩ := hlen
    obtain ⟨v1, hv1, hleaf, hsub⟩ := hrep.leaf hc
    obtain ⟨q1, q2⟩ := leaf_perm hrep hc
    obtain ⟨q3, q4⟩ := flat_perm (fp k) rows i r hr
    have hrd : rows.getD i .leaf = r := by simp [hr]
    cases hl : leafV k (l.getD i k.dflt) c with
    | mk k1 y =>
      have hk := leafV_kind k (l.getD i k.dflt) c
      rw [hl] at hk hp hleaf hsub
      simp only at hk hleaf hsub
      cases k1 with
      | list k' =>
        simp only at hp
        simp only [Rep] at hleaf
        obtain ⟨u, hu, hleaf⟩ := hleaf
        simp only [List.cons.injEq, and_true] at hu
        subst hu
        obtain ⟨v', rest, f1, f2, f3⟩ := focus g p k' y (leafL k r c) v1 hleaf hp
        have eg : getP k l ((i, c) :: p) = getP k' y p := by simp only [getP, hl]
        have es : subL k (.node b off cap rows) ((i, c) :: p) = subL k' (leafL k r c) p := by simp only [subL, ← hk, hrd]
        rw [eg, es]
        rw [← hk] at q1 q2
        refine ⟨v', rest ++ (restL k r c ++ (b :: restRows (fp k) rows i)), f1, ?_, fun w' M dd hs hM => ?_⟩
        · simp only [fp] at q1 f2 q3 ⊢
          have : (b :: rows.flatMap (fp k)).Perm (fp k r ++ (b :: restRows (fp k) rows i)) := (List.Perm.cons b q3).trans List.perm_middle.symm
          refine this.trans ?_
          refine (q1.append_right _).trans ?_
          rw [List.append_assoc]
          refine (f2.append_right _).trans ?_
          rw [List.append_assoc]
        · obtain ⟨g1, g2⟩ := f3 w' M dd (fun b hb => hs b (by simp [hb])) hM
          have hb : w'.heap[b]? = w.heap[b]? := hs b (by simp)
          have em : modP g k l ((i, c) :: p) = l.set i (setLeaf k (l.getD i k.dflt) c ⟨.list k', modP g k' y p⟩) := by simp only [modP, hl]
          have eS : setSub k (.node b off cap rows) M ((i, c) :: p) = .node b off cap (rows.set i (setLeafL k r c (setSub k' (leafL k r c) M p))) := by simp only [setSub, ← hk, hrd]
          rw [em, eS]
          constructor
          · rcases h with ⟨h, _⟩ | ⟨b', off', cap', rows', e1, e2, h3, h4, h0, h5, h6⟩
            · simp at h
            simp only [LT.node.injEq] at e1
            obtain ⟨rfl, rfl, rfl, rfl⟩ := e1
            refine .inr ⟨b, off, cap, _, rfl, by simp, by simpa using hcap, by simpa using hrl, by rw [hb]; exact h0, fun hd => (h5 hd).same hb, fun i' x' r' hx' hr' => ?_⟩
            by_cases e : i = i'
            · subst e
              rw [List.getElem?_set_self (by omega)] at hx' hr'
              simp only [Option.some.injEq] at hx' hr'
              subst hx' hr'
              refine ⟨vs, hrow.same hb, ?_⟩
              have := (hrep.any dd).setLeaf_same (w' := w') (s := ⟨.list k', modP g k' y p⟩) (M := setSub k' (leafL k r c) M p) (v := v1) hc hk (by simp only [Rep]; exact ⟨v1, rfl, g1.any dd⟩) (fun b' hb' => hs b' (by simp [hb']))
              rw [row_back hv1] at this
              exact this
            · rw [List.getElem?_set_ne e] at hx' hr'
              obtain ⟨vs', a1, a2⟩ := h6 i' x' r' hx' hr'
              refine ⟨vs', a1.same hb, (a2.any dd).same fun b' hb' => hs b' ?_⟩
              have := flat_rest (fp k) rows hr' e hb'
              simp [this]
          · simp only [fp]
            have : (b :: (rows.set i (setLeafL k r c (setSub k' (leafL k r c) M p))).flatMap (fp k)).Perm (fp k (setLeafL k r c (setSub k' (leafL k r c) M p)) ++ (b :: restRows (fp k) rows i)) :=
              (List.Perm.cons b (q4 _)).trans List.perm_middle.symm
            refine this.trans ?_
            refine ((q2 _).append_right _).trans ?_
            rw [List.append_assoc]
            simp only [fp] at g2
            refine (g2.append_right _).trans ?_
            rw [List.append_assoc]
      | _ => exact hp.elim

/-- The blocks of data are there. -/
theorem Rep.there {d : Bool} {w : World} : ∀ {k : K} {x : k.T} {L : LT} {cs : List Value}, Rep d w k x L cs → ∀ b ∈ fp k L, w.heap[b]? ≠ none
  | .int _, _, _, _, _, b, hb => by simp [fp] at hb
  | .bool, _, _, _, _, b, hb => by simp [fp] at hb
  | .str, _, _, _, _, b, hb => by simp [fp] at hb
  | .list k, l, L, cs, h, b, hb => by
    simp only [Rep] at h
    obtain ⟨v, hv, h⟩ := h
    rcases h with ⟨rfl, _⟩ | ⟨b', off, cap, rows, rfl, h1, h2, h3, h0, h4, h5⟩
    · simp [fp] at hb
    · simp only [fp, List.mem_cons, List.mem_flatMap] at hb
      rcases hb with rfl | ⟨r, hr, hb⟩
      · exact h0
      · obtain ⟨i, hi⟩ := List.getElem?_of_mem hr
        have hlt : i < rows.length := by
          rcases Nat.lt_or_ge i rows.length with g | g
          · exact g
          · rw [List.getElem?_eq_none g] at hi; simp at hi
        obtain ⟨vs, _, g⟩ := h5 i (l[i]'(by omega)) r (List.getElem?_eq_getElem (by omega)) hi
        exact g.there b hb
  | .pair a b, x, L, cs, h, b', hb => by
    simp only [Rep] at h
    obtain ⟨La, Lb, c1, c2, rfl, rfl, h1, h2⟩ := h
    simp only [fp, List.mem_append] at hb
    rcases hb with hb | hb
    · exact h1.there b' hb
    · exact h2.there b' hb

theorem RepL.same {dr d : Bool} {w w' : World} {k : K} {l : List k.T} {L : LT} {v : Value} (h : RepL dr w k.size (Rep d w k) l L v) (hs : Same w w' (fp (.list k) L)) :
    RepL dr w' k.size (Rep d w' k) l L v := by
  rcases h with h | ⟨b, off, cap, rows, rfl, h1, h2, h3, h0, h4, h5⟩
  · exact .inl h
  · have hb : w'.heap[b]? = w.heap[b]? := hs b (by simp [fp])
    refine .inr ⟨b, off, cap, rows, rfl, h1, h2, h3, by rw [hb]; exact h0, fun hd => (h4 hd).same hb, fun i x r hx hr => ?_⟩
    obtain ⟨vs, g1, g2⟩ := h5 i x r hx hr
    refine ⟨vs, g1.same hb, g2.same fun b' hb' => hs b' ?_⟩
    simp only [fp, List.mem_cons, List.mem_flatMap]
    exact .inr ⟨r, List.mem_of_getElem? hr, hb'⟩

theorem RepL.weaken {dr d : Bool} {w : World} {k : K} {l : List k.T} {L : LT} {v : Value} (h : RepL dr w k.size (Rep d w k) l L v) : RepL dr w k.size (Rep false w k) l L v := by
  rcases h with h | ⟨b, off, cap, rows, rfl, h1, h2, h3, h0, h4, h5⟩
  · exact .inl h
  · refine .inr ⟨b, off, cap, rows, rfl, h1, h2, h3, h0, h4, fun i x r hx hr => ?_⟩
    obtain ⟨vs, g1, g2⟩ := h5 i x r hx hr
    exact ⟨vs, g1, g2.weaken⟩

theorem RepL.root {dr d : Bool} {w : World} {k : K} {l : List k.T} {L : LT} {v : Value} (h : RepL dr w k.size (Rep d w k) l L v) : RepL false w k.size (Rep d w k) l L v := by
  rcases h with ⟨h1, h2, a, cap, h3, _⟩ | ⟨b, off, cap, rows, rfl, h1, h2, h3, h0, h4, h5⟩
  · exact .inl ⟨h1, h2, a, cap, h3, by simp⟩
  · exact .inr ⟨b, off, cap, rows, rfl, h1, h2, h3, h0, by simp, h5⟩

theorem RepL.there {dr d : Bool} {w : World} {k : K} {l : List k.T} {L : LT} {v : Value} (h : RepL dr w k.size (Rep d w k) l L v) : ∀ b ∈ fp (.list k) L, w.heap[b]? ≠ none :=
  Rep.there (d := false) (k := .list k) (x := l) (cs := [v]) (by simp only [Rep]; exact ⟨v, rfl, h.root.weaken⟩)

end Go.Mach
