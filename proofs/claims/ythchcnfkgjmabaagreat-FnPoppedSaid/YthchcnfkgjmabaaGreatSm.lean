/- Plain: entries added up by place: one by one into a row that is in order, or place by place. No twins: words and lemmas. -/
import Derived.Test.YthchcnfkgjmabaaGreatUn
namespace Go.Mach
theorem canon_len : ∀ {s : List Sp2} {a b : Int}, Canon s → (∀ x ∈ s, a ≤ x.1 ∧ x.2 ≤ b) → 2 * (s.length : Int) ≤ max 0 (b - a + 2)
  | [], a, b, _, _ => by simp; omega
  | x :: r, a, b, hc, h => by
    have h1 := h x List.mem_cons_self
    have h2 := hc.1
    have := canon_len (s := r) (a := a + 2) (b := b) hc.2.2 fun y hy => ⟨by have := hc.2.1 y hy; omega, (h y (List.mem_cons_of_mem _ hy)).2⟩
    simp only [List.length_cons]
    omega
theorem nrm_app {a b : List Sp2} (ha : ∀ x ∈ a, x.1 ≤ x.2) (hb : ∀ x ∈ b, x.1 ≤ x.2) : nrm (nrm a ++ b) = nrm (a ++ b) := by
  obtain ⟨g1, g2⟩ := nrm_ok ha
  have hab : ∀ x ∈ a ++ b, x.1 ≤ x.2 := fun x hx => (List.mem_append.1 hx).elim (ha x) (hb x)
  obtain ⟨q1, q2⟩ := nrm_ok hab
  refine nrm_uniq (fun x hx => (List.mem_append.1 hx).elim (g1.mem x) (hb x)) q1 fun n => ?_
  rw [q2, hasN_append, hasN_append, g2]
theorem nrm_rng {a : List Sp2} {lo hi : Int} (h : ∀ x ∈ a, x.1 ≤ x.2 ∧ lo ≤ x.1 ∧ x.2 ≤ hi) : ∀ x ∈ nrm a, lo ≤ x.1 ∧ x.2 ≤ hi := by
  obtain ⟨g1, g2⟩ := nrm_ok fun x hx => (h x hx).1
  intro x hx
  have hx' := g1.mem x hx
  obtain ⟨y, hy, y1, y2⟩ := (g2 x.1).1 ⟨x, hx, Int.le_refl _, hx'⟩
  obtain ⟨z, hz, z1, z2⟩ := (g2 x.2).1 ⟨x, hx, hx', Int.le_refl _⟩
  have := h y hy
  have := h z hz
  omega
end Go.Mach
namespace Go.Proofs.YthchcnfkgjmabaaGreat.Tw
open Go.Mach
set_option linter.unusedVariables false
set_option linter.unusedSimpArgs false
set_option maxRecDepth 20000

def EnsOk (l : List EnT) : Prop := ∀ e ∈ l, EnOk e
def flat : List EnT → List SpT
  | [] => []
  | e :: r => e.2.2.1 ++ flat r
theorem flat_app : ∀ {a b : List EnT}, flat (a ++ b) = flat a ++ flat b
  | [], b => rfl
  | e :: r, b => by simp only [List.cons_append, flat, flat_app (a := r), List.append_assoc]
theorem flat_mem : ∀ {l : List EnT} {x : SpT}, x ∈ flat l → ∃ e ∈ l, x ∈ e.2.2.1
  | e :: r, x, h => by
    simp only [flat] at h
    rcases List.mem_append.1 h with h | h
    · exact ⟨e, List.mem_cons_self, h⟩
    · obtain ⟨e', h1, h2⟩ := flat_mem h
      exact ⟨e', List.mem_cons_of_mem _ h1, h2⟩
theorem flat_rng {l : List EnT} (h : EnsOk l) : ∀ x ∈ flat l, x.1 ≤ x.2 ∧ 0 ≤ x.1 ∧ x.2 ≤ 9999 := by
  intro x hx
  obtain ⟨e, h1, h2⟩ := flat_mem hx
  exact ⟨(h e h1).ids.mem x h2, (h e h1).bnd x h2⟩
def msk (s : SkT) (l : List EnT) : SkT := l.foldl (fun s e => mrg s e.2.2.2) s
theorem msk_ok : ∀ {l : List EnT} {s : SkT}, SkOk s → EnsOk l → SkOk (msk s l)
  | [], s, h, _ => h
  | e :: r, s, h, hl => msk_ok (l := r) (mrg_ok h (hl e List.mem_cons_self).sk) fun x hx => hl x (List.mem_cons_of_mem _ hx)
theorem msk_snoc {l : List EnT} {s : SkT} {e : EnT} : msk s (l ++ [e]) = mrg (msk s l) e.2.2.2 := by simp [msk]

/-- All entries of a row as one, at the place of the first. -/
def tot (e : EnT) (r : List EnT) : EnT := (e.1, e.2.1, nrm (flat (e :: r)), msk e.2.2.2 r)
/-- Two entries as one. -/
def addE (a b : EnT) : EnT := (a.1, a.2.1, nrm (a.2.2.1 ++ b.2.2.1), mrg a.2.2.2 b.2.2.2)
theorem tot_one {e : EnT} (h : EnOk e) : tot e [] = e := by
  obtain ⟨a, b, c, d⟩ := e
  have : nrm (c ++ []) = c := by rw [List.append_nil]; exact nrm_can h.ids
  simp only [tot, flat, msk, List.foldl_nil, this]
theorem tot_snoc {e x : EnT} {r : List EnT} (h : EnsOk (e :: r)) (hx : EnOk x) : tot e (r ++ [x]) = addE (tot e r) x := by
  have h1 : ∀ y ∈ flat (e :: r), y.1 ≤ y.2 := fun y hy => (flat_rng h y hy).1
  have h2 : nrm (flat (e :: (r ++ [x]))) = nrm (nrm (flat (e :: r)) ++ x.2.2.1) := by
    rw [nrm_app h1 hx.ids.mem]
    congr 1
    simp only [flat, flat_app, List.append_nil, List.append_assoc]
  simp only [tot, addE, h2, msk_snoc]
theorem tot_ok {e : EnT} {r : List EnT} (h : EnsOk (e :: r)) : EnOk (tot e r) := by
  have he := h e List.mem_cons_self
  obtain ⟨g1, g2⟩ := nrm_ok fun y hy => (flat_rng h y hy).1
  refine ⟨he.key, he.win, g1, nrm_rng (flat_rng h), fun q => ?_, msk_ok he.sk fun x hx => h x (List.mem_cons_of_mem _ hx)⟩
  obtain ⟨x, hx⟩ := List.exists_mem_of_ne_nil _ he.some_
  have := (g2 x.1).2 ⟨x, by simp only [flat]; exact List.mem_append_left _ hx, Int.le_refl _, he.ids.mem x hx⟩
  have q' : nrm (flat (e :: r)) = [] := q
  rw [q'] at this
  exact hasN_nil _ this
theorem EnOk.len {e : EnT} (h : EnOk e) : e.2.2.1.length ≤ 5001 := by
  have := canon_len (a := 0) (b := 9999) h.ids h.bnd
  omega
theorem EnOk.toLe {e : EnT} (h : EnOk e) : EnLe 5001 e := ⟨h.len, h.sk.toLe.mono (by omega)⟩
theorem EnLe.mono {a b : Nat} {e : EnT} (h : EnLe a e) (hab : a ≤ b) : EnLe b e := ⟨Nat.le_trans h.1 hab, h.2.mono hab⟩
theorem EnOk.sml {e : EnT} (h : EnOk e) : Sml e.2.2.1 := fun x hx => ⟨h.ids.mem x hx, (h.bnd x hx).1, by have := (h.bnd x hx).2; omega⟩

/-! ### places -/
def isAt (k w : Int) (e : EnT) : Bool := e.1 == k && e.2.1 == w
def totO (l : List EnT) (k w : Int) : Option EnT := match l.filter (isAt k w) with
  | [] => none
  | e :: r => some (tot e r)
def rowF (l : List EnT) (k : Int) : Nat → List EnT
  | 0 => []
  | w + 1 => rowF l k w ++ (totO l k w).toList
def sumsTo (l : List EnT) : Nat → List EnT
  | 0 => []
  | k + 1 => sumsTo l k ++ rowF l k 21
/-- The sums, place by place. -/
def sumsM (l : List EnT) : List EnT := sumsTo l 5

theorem rowF_length (l : List EnT) (k : Int) : ∀ w, (rowF l k w).length ≤ w
  | 0 => by simp [rowF]
  | w + 1 => by
    have := rowF_length l k w
    simp only [rowF, List.length_append]
    cases totO l k w <;> simp <;> omega
theorem sumsTo_length (l : List EnT) : ∀ k, (sumsTo l k).length ≤ 21 * k
  | 0 => by simp [sumsTo]
  | k + 1 => by
    have := sumsTo_length l k
    have := rowF_length l k 21
    simp only [sumsTo, List.length_append]
    omega
theorem totO_ok {l : List EnT} (h : EnsOk l) {k w : Int} {t : EnT} (ht : totO l k w = some t) : EnOk t ∧ t.1 = k ∧ t.2.1 = w := by
  unfold totO at ht
  split at ht
  · simp at ht
  · rename_i e r hf
    simp only [Option.some.injEq] at ht
    subst ht
    have hm : ∀ x ∈ e :: r, x ∈ l ∧ isAt k w x = true := fun x hx => by rw [← hf] at hx; exact List.mem_filter.1 hx
    have he := (hm e List.mem_cons_self).2
    simp only [isAt, Bool.and_eq_true, beq_iff_eq] at he
    exact ⟨tot_ok fun x hx => h x (hm x hx).1, he.1, he.2⟩

def posRow (k : Int) : Nat → List (Int × Int)
  | 0 => []
  | w + 1 => posRow k w ++ [(k, (w : Int))]
def posTo : Nat → List (Int × Int)
  | 0 => []
  | k + 1 => posTo k ++ posRow k 21
theorem rowF_pos (l : List EnT) (k : Int) : ∀ w, rowF l k w = (posRow k w).filterMap fun p => totO l p.1 p.2
  | 0 => rfl
  | w + 1 => by
    simp only [rowF, posRow, List.filterMap_append, rowF_pos l k w]
    cases h : totO l k w <;> simp [h]
theorem sumsTo_pos (l : List EnT) : ∀ k, sumsTo l k = (posTo k).filterMap fun p => totO l p.1 p.2
  | 0 => rfl
  | k + 1 => by simp only [sumsTo, posTo, List.filterMap_append, sumsTo_pos l k, rowF_pos]
theorem mem_posRow {k : Int} : ∀ {n w : Nat}, w < n → (k, (w : Int)) ∈ posRow k n
  | n + 1, w, h => by
    simp only [posRow, List.mem_append, List.mem_singleton]
    by_cases q : w = n
    · right; rw [q]
    · left; exact mem_posRow (by omega)
theorem mem_posTo : ∀ {n k w : Nat}, k < n → w < 21 → ((k : Int), (w : Int)) ∈ posTo n
  | n + 1, k, w, h, hw => by
    simp only [posTo, List.mem_append]
    by_cases q : k = n
    · right; subst q; exact mem_posRow hw
    · left; exact mem_posTo (by omega) hw
theorem mem_pos {e : EnT} (h : EnOk e) : (e.1, e.2.1) ∈ posTo 5 := by
  have h1 := h.key
  have h2 := h.win
  have := mem_posTo (n := 5) (k := e.1.toNat) (w := e.2.1.toNat) (by omega) (by omega)
  rwa [Int.toNat_of_nonneg h1.1, Int.toNat_of_nonneg h2.1] at this
def before (p q : Int × Int) : Bool := decide (p.1 < q.1) || (p.1 == q.1 && decide (p.2 < q.2))
theorem pos_sorted : (posTo 5).Pairwise (fun p q => before p q = true) := by decide +kernel
theorem before_iff {p q : Int × Int} : before p q = true ↔ p.1 < q.1 ∨ (p.1 = q.1 ∧ p.2 < q.2) := by simp [before]

/-! ### one by one -/
def same (z e : EnT) : Prop := z.1 = e.1 ∧ z.2.1 = e.2.1
def gtE (z e : EnT) : Prop := z.1 > e.1 ∨ (z.1 = e.1 ∧ z.2.1 > e.2.1)
instance (z e : EnT) : Decidable (same z e) := by unfold same; infer_instance
instance (z e : EnT) : Decidable (gtE z e) := by unfold gtE; infer_instance
def ins : List EnT → EnT → List EnT
  | [], e => [e]
  | s :: r, e => if same s e then addE s e :: r else if gtE s e then e :: s :: r else s :: ins r e

/-- The sum at a place, with one more. -/
def more (f : Int × Int → Option EnT) (e : EnT) (p : Int × Int) : Option EnT := if p.1 = e.1 ∧ p.2 = e.2.1 then some (match f p with | none => e | some s => addE s e) else f p

theorem ins_pos {f : Int × Int → Option EnT} {e : EnT} (hf : ∀ p t, f p = some t → t.1 = p.1 ∧ t.2.1 = p.2) : ∀ {P : List (Int × Int)}, P.Pairwise (fun p q => before p q = true) → (e.1, e.2.1) ∈ P → P.filterMap (more f e) = ins (P.filterMap f) e
  | p :: P, hs, hm => by
    obtain ⟨s1, s2⟩ := List.pairwise_cons.1 hs
    by_cases hp : p.1 = e.1 ∧ p.2 = e.2.1
    · have hrest : P.filterMap (more f e) = P.filterMap f := by
        have key : ∀ Q : List (Int × Int), (∀ q ∈ Q, ¬ (q.1 = e.1 ∧ q.2 = e.2.1)) → Q.filterMap (more f e) = Q.filterMap f := by
          intro Q
          induction Q with
          | nil => intro _; rfl
          | cons q Q ih =>
            intro h
            have h1 : more f e q = f q := by unfold more; rw [if_neg (h q List.mem_cons_self)]
            rw [List.filterMap_cons, List.filterMap_cons, h1, ih fun x hx => h x (List.mem_cons_of_mem _ hx)]
        refine key P fun q hq => ?_
        have := before_iff.1 (s1 q hq)
        omega
      have hmp : more f e p = some (match f p with | none => e | some s => addE s e) := by unfold more; rw [if_pos hp]
      rw [List.filterMap_cons_some hmp, hrest]
      cases h : f p with
      | none =>
        rw [List.filterMap_cons_none h]
        simp only
        cases hr : P.filterMap f with
        | nil => rfl
        | cons t R =>
          have ht : t ∈ P.filterMap f := by rw [hr]; exact List.mem_cons_self
          obtain ⟨q, hq, hqt⟩ := List.mem_filterMap.1 ht
          have := before_iff.1 (s1 q hq)
          obtain ⟨t1, t2⟩ := hf q t hqt
          simp only [ins]
          rw [if_neg (by unfold same; omega), if_pos (by unfold gtE; omega)]
      | some s =>
        obtain ⟨t1, t2⟩ := hf p s h
        rw [List.filterMap_cons_some h]
        simp only [ins]
        rw [if_pos (by unfold same; omega)]
    · have hm' : (e.1, e.2.1) ∈ P := by
        rcases List.mem_cons.1 hm with q | q
        · exact absurd (by rw [← q]; exact ⟨rfl, rfl⟩) hp
        · exact q
      have hb := before_iff.1 (s1 _ hm')
      simp only at hb
      have hmp : more f e p = f p := by unfold more; rw [if_neg hp]
      have ih := ins_pos (f := f) (e := e) hf s2 hm'
      cases h : f p with
      | none => rw [List.filterMap_cons_none (by rw [hmp, h]), List.filterMap_cons_none h, ih]
      | some s =>
        obtain ⟨t1, t2⟩ := hf p s h
        rw [List.filterMap_cons_some (by rw [hmp, h]), List.filterMap_cons_some h, ih]
        simp only [ins]
        rw [if_neg (by unfold same; omega), if_neg (by unfold gtE; omega)]

theorem totO_snoc {l : List EnT} {e : EnT} (hl : EnsOk l) (he : EnOk e) (p : Int × Int) : totO (l ++ [e]) p.1 p.2 = more (fun p => totO l p.1 p.2) e p := by
  unfold more
  by_cases hp : p.1 = e.1 ∧ p.2 = e.2.1
  · rw [if_pos hp]
    have hi : isAt p.1 p.2 e = true := by simp [isAt, hp.1, hp.2]
    unfold totO
    rw [List.filter_append, List.filter_cons_of_pos hi, List.filter_nil]
    cases h : l.filter (isAt p.1 p.2) with
    | nil => simp only [List.nil_append, tot_one he, h]
    | cons a r =>
      simp only [List.cons_append, h]
      rw [tot_snoc (fun x hx => hl x (List.mem_filter.1 (by rw [h]; exact hx)).1) he]
  · rw [if_neg hp]
    have hi : isAt p.1 p.2 e = false := by
      cases q : isAt p.1 p.2 e with
      | false => rfl
      | true =>
        simp only [isAt, Bool.and_eq_true, beq_iff_eq] at q
        exact absurd ⟨q.1.symm, q.2.symm⟩ hp
    unfold totO
    rw [List.filter_append, List.filter_cons_of_neg (by rw [hi]; simp), List.filter_nil, List.append_nil]

theorem sumsM_snoc {l : List EnT} {e : EnT} (hl : EnsOk l) (he : EnOk e) : sumsM (l ++ [e]) = ins (sumsM l) e := by
  unfold sumsM
  rw [sumsTo_pos, sumsTo_pos, ← ins_pos (f := fun p => totO l p.1 p.2) (fun p t h => (totO_ok hl h).2) pos_sorted (mem_pos he)]
  congr 1
  funext p
  exact totO_snoc hl he p

theorem sumsM_mem {l : List EnT} {t : EnT} (h : t ∈ sumsM l) : ∃ p : Int × Int, totO l p.1 p.2 = some t := by
  unfold sumsM at h
  rw [sumsTo_pos] at h
  obtain ⟨p, _, hp⟩ := List.mem_filterMap.1 h
  exact ⟨p, hp⟩
theorem sumsM_ok {l : List EnT} (hl : EnsOk l) : EnsOk (sumsM l) := fun t ht => by
  obtain ⟨p, hp⟩ := sumsM_mem ht
  exact (totO_ok hl hp).1
theorem sumsM_length (l : List EnT) : (sumsM l).length ≤ 105 := sumsTo_length l 5

theorem sumsM_sorted {l : List EnT} (hl : EnsOk l) : (sumsM l).Pairwise (fun a b => gtE b a) := by
  unfold sumsM
  rw [sumsTo_pos]
  rw [List.pairwise_filterMap]
  refine pos_sorted.imp fun {p q} h t ht u hu => ?_
  obtain ⟨_, t1, t2⟩ := totO_ok hl ht
  obtain ⟨_, u1, u2⟩ := totO_ok hl hu
  have := before_iff.1 h
  unfold gtE
  omega

/-! ### from the end -/
/-- Where the first stands that is greater. -/
def fg (e : EnT) : List EnT → Nat
  | [] => 0
  | y :: r => if gtE y e then 0 else fg e r + 1
theorem fg_le (e : EnT) : ∀ l, fg e l ≤ l.length
  | [] => Nat.le_refl _
  | y :: r => by
    have := fg_le e r
    simp only [fg, List.length_cons]
    split <;> omega
def back (e : EnT) : List EnT → List EnT → List EnT ⊕ List EnT
  | [], r => .inr r
  | z :: q, r => if same z e then .inl (q.reverse ++ addE z e :: r) else back e q (z :: r)
theorem back_inl {e : EnT} : ∀ {q r x : List EnT}, back e q r = .inl x → ∃ a z b, q.reverse ++ r = a ++ z :: b ∧ same z e ∧ x = a ++ addE z e :: b
  | [], r, x, h => by simp [back] at h
  | z :: q, r, x, h => by
    simp only [back] at h
    split at h
    · rename_i hs
      simp only [Sum.inl.injEq] at h
      exact ⟨q.reverse, z, r, by simp, hs, h.symm⟩
    · obtain ⟨a, z', b, h1, h2, h3⟩ := back_inl h
      exact ⟨a, z', b, by rw [← h1]; simp, h2, h3⟩
theorem back_inr {e : EnT} : ∀ {q r x : List EnT}, back e q r = .inr x → x = q.reverse ++ r ∧ ∀ z ∈ q, ¬ same z e
  | [], r, x, h => by simp only [back, Sum.inr.injEq] at h; exact ⟨by simp [h], by simp⟩
  | z :: q, r, x, h => by
    simp only [back] at h
    split at h
    · simp at h
    · rename_i hs
      obtain ⟨h1, h2⟩ := back_inr h
      refine ⟨by rw [h1]; simp, fun y hy => ?_⟩
      rcases List.mem_cons.1 hy with rfl | hy
      · exact hs
      · exact h2 y hy
theorem ins_none {e : EnT} : ∀ {l : List EnT}, (∀ z ∈ l, ¬ same z e) → ins l e = l.take (fg e l) ++ e :: l.drop (fg e l)
  | [], _ => rfl
  | y :: r, h => by
    have ih := ins_none (l := r) fun z hz => h z (List.mem_cons_of_mem _ hz)
    simp only [ins, fg]
    rw [if_neg (h y List.mem_cons_self)]
    split
    · simp
    · rw [ih]; simp
theorem ins_some {e z : EnT} : ∀ {a b : List EnT}, (a ++ z :: b).Pairwise (fun x y => gtE y x) → same z e → ins (a ++ z :: b) e = a ++ addE z e :: b
  | [], b, _, hs => by simp only [List.nil_append, ins, if_pos hs]
  | y :: a, b, hp, hs => by
    obtain ⟨p1, p2⟩ := List.pairwise_cons.1 hp
    have hz : gtE z y := p1 z (by simp)
    have n1 : ¬ same y e := by unfold same gtE at *; omega
    have n2 : ¬ gtE y e := by unfold same gtE at *; omega
    simp only [List.cons_append, ins]
    rw [if_neg n1, if_neg n2, ins_some p2 hs]
theorem back_ins {e : EnT} {l : List EnT} (hp : l.Pairwise (fun x y => gtE y x)) : (match back e l.reverse [] with | .inl x => x | .inr x => x.take (fg e x) ++ e :: x.drop (fg e x)) = ins l e := by
  cases h : back e l.reverse [] with
  | inl x =>
    obtain ⟨a, z, b, h1, h2, rfl⟩ := back_inl h
    simp only [List.reverse_reverse, List.append_nil] at h1
    subst h1
    exact (ins_some hp h2).symm
  | inr x =>
    obtain ⟨h1, h2⟩ := back_inr h
    simp only [List.reverse_reverse, List.append_nil] at h1
    subst h1
    exact (ins_none fun z hz => h2 z (by simpa using hz)).symm

end Go.Proofs.YthchcnfkgjmabaaGreat.Tw
