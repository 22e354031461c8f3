/- Plain: entries added up by place: one by one into a row that is in order, or place by place. No twins: words and lemmas. -/
import Derived.Test.YtkegollaleklaaaGreatUn
namespace Go.Mach
theorem canon_len : ∀ {s : List Sp2} {a b : Int}, Canon s → (∀ x ∈ s, a ≤ x.1 ∧ x.2 ≤ b) → 2 * (s.length : Int) ≤ max 0 (b - a + 2)
 | [], a, b, _, _ => by simp; omega
 | x :: r, a, b, hc, h => by
  have h1 := h x List.mem_cons_self
  have h2 := hc.1
  have := canon_len (s := r) (a := a + 2) (b := b) hc.2.2 fun y hy => ⟨by have := hc.2.1 y hy; omega, (h y (List.mem_cons_of_mem _ hy)).2⟩
  simp only [List.length_cons]
  omega
theorem nrm_app {a b : List Sp2} (ha : ∀ x ∈ a, x.1 ≤ x.2) (hb : ∀ x ∈ b, x.1 ≤ x.2) : nrm (nrm a ++ b) = nrm (a ++ b) := by
 obtain ⟨g1, g2⟩ := nrm_ok ha
 have hab : ∀ x ∈ a ++ b, x.1 ≤ x.2 := fun x hx => (List.mem_append.1 hx).elim (ha x) (hb x)
 obtain ⟨q1, q2⟩ := nrm_ok hab
 refine nrm_uniq (fun x hx => (List.mem_append.1 hx).elim (g1.mem x) (hb x)) q1 fun n => ?_
 rw [q2, hasN_append, hasN_append, g2]
theorem nrm_rng {a : List Sp2} {lo hi : Int} (h : ∀ x ∈ a, x.1 ≤ x.2 ∧ lo ≤ x.1 ∧ x.2 ≤ hi) : ∀ x ∈ nrm a, lo ≤ x.1 ∧ x.2 ≤ hi := by
 obtain ⟨g1, g2⟩ := nrm_ok fun x hx => (h x hx).1
 intro x hx
 have hx' := g1.mem x hx
 obtain ⟨y, hy, y1, y2⟩ := (g2 x.1).1 ⟨x, hx, Int.le_refl _, hx'⟩
 obtain ⟨z, hz, z1, z2⟩ := (g2 x.2).1 ⟨x, hx, hx', Int.le_refl _⟩
 have := h y hy
 have := h z hz
 omega
end Go.Mach
namespace Go.Proofs.YtkegollaleklaaaGreat.Tw
open Go.Mach
set_option linter.unusedVariables false
set_option linter.unusedSimpArgs false
set_option maxRecDepth 20000
def EnsOk (l : List EnT) : Prop := ∀ e ∈ l, EnOk e
def flat : List EnT → List SpT
 | [] => []
 | e :: r => e.2.2.1 ++ flat r
theorem flat_app : ∀ {a b : List EnT}, flat (a ++ b) = flat a ++ flat b
 | [], b => rfl
 | e :: r, b => by simp only [List.cons_append, flat, flat_app (a := r), List.append_assoc]
theorem flat_mem : ∀ {l : List EnT} {x : SpT}, x ∈ flat l → ∃ e ∈ l, x ∈ e.2.2.1
 | e :: r, x, h => by
  simp only [flat] at h
  rcases List.mem_append.1 h with h | h
  ·exact ⟨e, List.mem_cons_self, h⟩
  ·obtain ⟨e', h1, h2⟩ := flat_mem h
   exact ⟨e', List.mem_cons_of_mem _ h1, h2⟩
theorem flat_rng {l : List EnT} (h : EnsOk l) : ∀ x ∈ flat l, x.1 ≤ x.2 ∧ 0 ≤ x.1 ∧ x.2 ≤ 9999 := by
 intro x hx
 obtain ⟨e, h1, h2⟩ := flat_mem hx
 exact ⟨(h e h1).ids.mem x h2, (h e h1).bnd x h2⟩
def msk (s : SkT) (l : List EnT) : SkT := l.foldl (fun s e => mrg s e.2.2.2) s
theorem msk_ok : ∀ {l : List EnT} {s : SkT}, SkOk s → EnsOk l → SkOk (msk s l)
 | [], s, h, _ => h
 | e :: r, s, h, hl => msk_ok (l := r) (mrg_ok h (hl e List.mem_cons_self).sk) fun x hx => hl x (List.mem_cons_of_mem _ hx)
theorem msk_snoc {l : List EnT} {s : SkT} {e : EnT} : msk s (l ++ [e]) = mrg (msk s l) e.2.2.2 := by simp [msk]
def tot (e : EnT) (r : List EnT) : EnT := (e.1, e.2.1, nrm (flat (e :: r)), msk e.2.2.2 r)
def addE (a b : EnT) : EnT := (a.1, a.2.1, nrm (a.2.2.1 ++ b.2.2.1), mrg a.2.2.2 b.2.2.2)
theorem tot_one {e : EnT} (h : EnOk e) : tot e [] = e := by
 obtain ⟨a, b, c, d⟩ := e
 have : nrm (c ++ []) = c := by rw [List.append_nil]; exact nrm_can h.ids
 simp only [tot, flat, msk, List.foldl_nil, this]
theorem tot_snoc {e x : EnT} {r : List EnT} (h : EnsOk (e :: r)) (hx : EnOk x) : tot e (r ++ [x]) = addE (tot e r) x := by
 have h1 : ∀ y ∈ flat (e :: r), y.1 ≤ y.2 := fun y hy => (flat_rng h y hy).1
 have h2 : nrm (flat (e :: (r ++ [x]))) = nrm (nrm (flat (e :: r)) ++ x.2.2.1) := by
  rw [nrm_app h1 hx.ids.mem]
  congr 1
  simp only [flat, flat_app, List.append_nil, List.append_assoc]
 simp only [tot, addE, h2, msk_snoc]
theorem tot_ok {e : EnT} {r : List EnT} (h : EnsOk (e :: r)) : EnOk (tot e r) := by
 have he := h e List.mem_cons_self
 obtain ⟨g1, g2⟩ := nrm_ok fun y hy => (flat_rng h y hy).1
 refine ⟨he.key, he.win, g1, nrm_rng (flat_rng h), fun q => ?_, msk_ok he.sk fun x hx => h x (List.mem_cons_of_mem _ hx)⟩
 obtain ⟨x, hx⟩ := List.exists_mem_of_ne_nil _ he.some_
 have := (g2 x.1).2 ⟨x, by simp only [flat]; exact List.mem_append_left _ hx, Int.le_refl _, he.ids.mem x hx⟩
 have q' : nrm (flat (e :: r)) = [] := q
 rw [q'] at this
 exact hasN_nil _ this
theorem EnOk.len {e : EnT} (h : EnOk e) : e.2.2.1.length ≤ 5001 := by
 have := canon_len (a := 0) (b := 9999) h.ids h.bnd
 omega
theorem EnOk.toLe {e : EnT} (h : EnOk e) : EnLe 5001 e := ⟨h.len, h.sk.toLe.mono (by omega)⟩
theorem EnLe.mono {a b : Nat} {e : EnT} (h : EnLe a e) (hab : a ≤ b) : EnLe b e := ⟨Nat.le_trans h.1 hab, h.2.mono hab⟩
theorem EnOk.sml {e : EnT} (h : EnOk e) : Sml e.2.2.1 := fun x hx => ⟨h.ids.mem x hx, (h.bnd x hx).1, by have := (h.bnd x hx).2; omega⟩
def isAt (k w : Int) (e : EnT) : Bool := e.1 == k && e.2.1 == w
def before (p q : Int × Int) : Bool := decide (p.1 < q.1) || (p.1 == q.1 && decide (p.2 < q.2))
def same (z e : EnT) : Prop := z.1 = e.1 ∧ z.2.1 = e.2.1
def gtE (z e : EnT) : Prop := z.1 > e.1 ∨ (z.1 = e.1 ∧ z.2.1 > e.2.1)
instance (z e : EnT) : Decidable (same z e) := by unfold same; infer_instance
instance (z e : EnT) : Decidable (gtE z e) := by unfold gtE; infer_instance
def back (e : EnT) : List EnT → List EnT → List EnT ⊕ List EnT
 | [], r => .inr r
 | z :: q, r => if same z e then .inl (q.reverse ++ addE z e :: r) else back e q (z :: r)
end Go.Proofs.YtkegollaleklaaaGreat.Tw
