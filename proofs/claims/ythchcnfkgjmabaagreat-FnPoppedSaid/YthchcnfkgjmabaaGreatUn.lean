/- Plain: sets put together: the program's way (sorted, then merged) and the reference's (one by one). No condition: lemmas. -/
import Derived.Test.YthchcnfkgjmabaaGreatMg
import Derived.Test.YthchcnfkgjmabaaGreatSo
import Derived.Test.YthchcnfkgjmabaaGreatExt
namespace Go.Mach
/-- Spans whose ends are right and small. -/
def Sml (l : List Sp2) : Prop := ∀ x ∈ l, x.1 ≤ x.2 ∧ 0 ≤ x.1 ∧ x.2 ≤ 1000000
theorem mstep_nil (x : Sp2) : mstep [] x = [x] := rfl
theorem mstep_snoc (D : List Sp2) (l x : Sp2) : mstep (D ++ [l]) x = if x.1 ≤ l.2 + 1 then D ++ [(l.1, max l.2 x.2)] else D ++ [l] ++ [x] := by
  unfold mstep
  rw [List.getLast?_concat, List.dropLast_concat]
theorem getD_end {α : Type} (D : List α) (l d : α) : (D ++ [l]).getD D.length d = l := by simp [List.getD_eq_getElem?_getD]
theorem set_end {α : Type} (D : List α) (l v : α) : (D ++ [l]).set D.length v = D ++ [v] := by simp
end Go.Mach
namespace Go.Proofs.YthchcnfkgjmabaaGreat.Tw
open Go.Mach
set_option linter.unusedVariables false
set_option linter.unusedSimpArgs false
set_option maxRecDepth 20000

theorem copySet_eq {l : List SpT} (h : l.length ≤ 1048576) : impl_copySet l = some l := by
  simp only [impl_copySet]; rw [fitsC (by omega) (by omega)]
theorem l5Copy_eq {l : List SpT} (h : l.length ≤ 1048576) : spec_l5Copy l = some l := by
  simp only [spec_l5Copy]; rw [fitsC (by omega) (by omega)]; rfl

theorem union_eq {l : List SpT} (hl : l.length ≤ 1048576) (hb : Sml l) : impl_union l = some (nrm l) := by
  have hlen : (sortLo l).length = l.length := sortLo_length l
  have hp := sortLo_perm l
  have hb' : Sml (sortLo l) := fun x hx => hb x (hp.mem_iff.1 hx)
  have h := lp_fold (S := impl_union_s250) (sortLo l) (0, 0) (fun (out : List SpT) (i : Nat) => (sortLo l, out, ((), (), ()), ((sortLo l).length : Int), (i : Int))) mstep (fun out => out)
    (fun out i => (∀ x ∈ out, 0 ≤ x.2 ∧ x.2 ≤ 1000000) ∧ out.length ≤ i) (by omega) (fun out i hi hI hm => by
      obtain ⟨I1, I2⟩ := hI
      generalize hx : (sortLo l).getD i (0, 0) = x at hm
      obtain ⟨x1, x2⟩ := x
      obtain ⟨q1, q2, q3⟩ := hb' _ hm
      simp only at q1 q2 q3
      rcases List.eq_nil_or_concat out with rfl | ⟨D, z, rfl⟩
      · refine ⟨?_, ?_, by simp [mstep_nil]⟩
        · simp only [impl_union_s250, ltn hi, cond_true, ixn hi, lxn hi, gxn, hx, Option.bind_some, lnn, List.length_nil, wsucc (show i ≤ 1048576 by omega), mstep_nil]
          rw [dF (by omega), cond_false, fitsC (by simp) (by omega)]
          rfl
        · intro y hy
          simp only [mstep_nil, List.mem_singleton] at hy
          subst hy
          exact ⟨by simp only; omega, q3⟩
      · simp only [List.concat_eq_append] at I1 I2 ⊢
        obtain ⟨z1, z2⟩ := z
        have hz := I1 (z1, z2) (by simp)
        simp only at hz
        have I2' : D.length + 1 ≤ i := by simpa using I2
        have e1 : w64 (((D ++ [(z1, z2)]).length : Int) - 1) = (D.length : Int) := by
          have : ((D ++ [(z1, z2)]).length : Int) - 1 = (D.length : Int) := by simp
          rw [this, w64_ok (by omega) (by omega)]
        have e2 : w64 (z2 + 1) = z2 + 1 := w64_ok (by omega) (by omega)
        have hD : D.length < (D ++ [(z1, z2)]).length := by simp
        have hmx : (if x2 > z2 then x2 else z2) = max z2 x2 := by split <;> omega
        simp only [mstep_snoc]
        by_cases hc : x1 ≤ z2 + 1
        · rw [if_pos hc]
          refine ⟨?_, ?_, by simp <;> omega⟩
          · simp only [impl_union_s250, ltn hi, cond_true, ixn hi, lxn hi, gxn, hx, Option.bind_some, lnn, e1, ixn hD, lxn hD, getD_end, e2, dT hc, sxn, set_end, hmx, wsucc (show i ≤ 1048576 by omega)]
            rw [dT (by simp <;> omega), cond_true]
          · intro y hy
            rcases List.mem_append.1 hy with hy | hy
            · exact I1 y (List.mem_append_left _ hy)
            · simp only [List.mem_singleton] at hy
              subst hy
              exact ⟨by simp only; omega, by simp only; omega⟩
        · rw [if_neg hc]
          refine ⟨?_, ?_, by simp <;> omega⟩
          · simp only [impl_union_s250, ltn hi, cond_true, ixn hi, lxn hi, gxn, hx, Option.bind_some, lnn, e1, ixn hD, lxn hD, getD_end, e2, dF hc, cond_false, wsucc (show i ≤ 1048576 by omega)]
            rw [dT (by simp <;> omega), cond_true, fitsC (by simp; omega) (by omega)]
          · intro y hy
            rcases List.mem_append.1 hy with hy | hy
            · exact I1 y hy
            · simp only [List.mem_singleton] at hy
              subst hy
              exact ⟨by simp only; omega, q3⟩) (fun out hI => by simp only [impl_union_s250, ltF, cond_false]) (a0 := []) ⟨by simp, by simp⟩
  rw [cast0] at h
  have hn : (sortLo l).foldl mstep [] = nrm l := nrm_any (fun x hx => (hb x hx).1) hp (sortLo_sorted l)
  simp only [impl_union, copySet_eq hl, Option.bind_some, slices_SortFunc, if_pos (show l.length ≤ 4294967296 by omega), lnn, h, hn]

/-! ### one span into a set -/
theorem put_done {s : List SpT} {x : SpT} (hx : 0 ≤ x.1 ∧ x.1 ≤ x.2 ∧ x.2 ≤ 1000000) (hs : s.length ≤ 1048576) : ∀ (r p out : List SpT) (f : Nat), s = p ++ r → r.length < f → out.length ≤ p.length + 2 → (∀ y ∈ r, x.2 + 1 < y.1 ∧ y.1 ≤ y.2 ∧ y.2 ≤ 1000000) →
    iter spec_l5Put_s122 f (s, x, out, true, (p.length : Int)) = some (x, out ++ r, true)
  | [], p, out, f, hp, hf, ho, _ => by
    obtain ⟨x1, x2⟩ := x
    cases f with
    | zero => simp at hf
    | succ f =>
      have e : s.length = p.length := by rw [hp]; simp
      simp only [iter, spec_l5Put_s122, lnn, e, ltF, cond_false, List.append_nil]
  | y :: r, p, out, f, hp, hf, ho, hy => by
    obtain ⟨x1, x2⟩ := x
    obtain ⟨y1, y2⟩ := y
    cases f with
    | zero => simp at hf
    | succ f =>
      have e : s.length = p.length + (r.length + 1) := by rw [hp]; simp
      have hi : p.length < s.length := by omega
      have hg : s.getD p.length (0, 0) = (y1, y2) := by rw [hp]; simp [List.getD_eq_getElem?_getD]
      have q := hy (y1, y2) (by simp)
      simp only at q hx
      have c1 : decide (w64 (y2 + 1) < x1) = false := by rw [w64_ok (by omega) (by omega)]; exact dF (by omega)
      have c2 : decide (y1 > w64 (x2 + 1)) = true := by rw [w64_ok (by omega) (by omega)]; exact dT (by omega)
      have := put_done (x := (x1, x2)) hx hs r (p ++ [(y1, y2)]) (out ++ [(y1, y2)]) f (by rw [hp]; simp) (by simp at hf; omega) (by simp; omega) fun z hz => hy z (by simp [hz])
      have e2 : ((p ++ [(y1, y2)]).length : Int) = ((p.length + 1 : Nat) : Int) := by simp
      rw [e2] at this
      simp only [iter, spec_l5Put_s122, lnn, ltn hi, cond_true, ixn hi, gxn, hg, Option.bind_some, c1, c2, cond_false, Bool.not_true, wsucc (show p.length ≤ 1048576 by omega)]
      rw [fitsC (by simp; omega) (by omega)]
      simp only
      rw [this]
      simp

theorem put_loop {s : List SpT} (hs : s.length ≤ 1048576) : ∀ (r p out : List SpT) (x : SpT) (f : Nat), 0 ≤ x.1 ∧ x.1 ≤ x.2 ∧ x.2 ≤ 1000000 → s = p ++ r → r.length < f → out.length ≤ p.length → Canon r → (∀ y ∈ r, 0 ≤ y.1 ∧ y.2 ≤ 1000000) →
    ∃ x' o g, iter spec_l5Put_s122 f (s, x, out, false, (p.length : Int)) = some (x', o, g) ∧ (bif !g then o ++ [x'] else o) = out ++ putS r x ∧ o.length ≤ s.length + 2
  | [], p, out, x, f, hx, hp, hf, ho, _, _ => by
    obtain ⟨x1, x2⟩ := x
    cases f with
    | zero => simp at hf
    | succ f =>
      have e : s.length = p.length := by rw [hp]; simp
      refine ⟨(x1, x2), out, false, ?_, by simp [putS], by omega⟩
      simp only [iter, spec_l5Put_s122, lnn, e, ltF, cond_false]
  | y :: r, p, out, x, f, hx, hp, hf, ho, hc, hy => by
    obtain ⟨x1, x2⟩ := x
    obtain ⟨y1, y2⟩ := y
    cases f with
    | zero => simp at hf
    | succ f =>
      have e : s.length = p.length + (r.length + 1) := by rw [hp]; simp
      have hi : p.length < s.length := by omega
      have hg : s.getD p.length (0, 0) = (y1, y2) := by rw [hp]; simp [List.getD_eq_getElem?_getD]
      have q := hy (y1, y2) (by simp)
      have q' := hc.1
      simp only at q q' hx
      have w1 : w64 (y2 + 1) = y2 + 1 := w64_ok (by omega) (by omega)
      have w2 : w64 (x2 + 1) = x2 + 1 := w64_ok (by omega) (by omega)
      have e2 : ((p ++ [(y1, y2)]).length : Int) = ((p.length + 1 : Nat) : Int) := by simp
      by_cases c1 : y2 + 1 < x1
      · obtain ⟨x', o, g, g1, g2, g3⟩ := put_loop hs r (p ++ [(y1, y2)]) (out ++ [(y1, y2)]) (x1, x2) f hx (by rw [hp]; simp) (by simp at hf; omega) (by simp; omega) hc.2.2 fun z hz => hy z (by simp [hz])
        rw [e2] at g1
        refine ⟨x', o, g, ?_, by rw [g2]; simp [putS, c1], g3⟩
        simp only [iter, spec_l5Put_s122, lnn, ltn hi, cond_true, ixn hi, gxn, hg, Option.bind_some, w1, dT c1, wsucc (show p.length ≤ 1048576 by omega)]
        rw [fitsC (by simp; omega) (by omega)]
        simp only
        exact g1
      · by_cases c2 : y1 > x2 + 1
        · have := put_done (x := (x1, x2)) hx hs r (p ++ [(y1, y2)]) (out ++ [(x1, x2)] ++ [(y1, y2)]) f (by rw [hp]; simp) (by simp at hf; omega) (by simp; omega) fun z hz => by
            have z1 := hc.2.1 z hz
            have z2 := hc.2.2.mem z hz
            have z3 := hy z (by simp [hz])
            simp only at z1
            exact ⟨by simp only; omega, z2, z3.2⟩
          rw [e2] at this
          refine ⟨(x1, x2), out ++ [(x1, x2)] ++ [(y1, y2)] ++ r, true, ?_, by simp [putS, c1, c2], by simp; omega⟩
          simp only [iter, spec_l5Put_s122, lnn, ltn hi, cond_true, ixn hi, gxn, hg, Option.bind_some, w1, w2, dF c1, cond_false, dT c2, Bool.not_false, wsucc (show p.length ≤ 1048576 by omega)]
          rw [fitsC (by simp; omega) (by omega), fitsC (by simp; omega) (by omega)]
          simp only
          exact this
        · obtain ⟨x', o, g, g1, g2, g3⟩ := put_loop hs r (p ++ [(y1, y2)]) out (min x1 y1, max x2 y2) f (by simp only; omega) (by rw [hp]; simp) (by simp at hf; omega) (by simp; omega) hc.2.2 fun z hz => hy z (by simp [hz])
          rw [e2] at g1
          refine ⟨x', o, g, ?_, by rw [g2]; simp [putS, c1, c2], g3⟩
          simp only [iter, spec_l5Put_s122, lnn, ltn hi, cond_true, ixn hi, gxn, hg, Option.bind_some, w1, w2, dF c1, cond_false, dF c2, specMin_eq, specMax_eq, wsucc (show p.length ≤ 1048576 by omega)]
          exact g1

theorem put_eq {s : List SpT} {x : SpT} (hs : s.length ≤ 1048576) (hx : 0 ≤ x.1 ∧ x.1 ≤ x.2 ∧ x.2 ≤ 1000000) (hc : Canon s) (hy : ∀ y ∈ s, 0 ≤ y.1 ∧ y.2 ≤ 1000000) : spec_l5Put (s, x) = some (putS s x) := by
  obtain ⟨x', o, g, g1, g2, g3⟩ := put_loop hs s [] [] x bigN hx rfl (by simp only [bigN]; omega) (by simp) hc hy
  obtain ⟨x1, x2⟩ := x
  obtain ⟨d, e⟩ := x'
  have g1' : lp spec_l5Put_s122 (s, (x1, x2), [], false, 0) = some ((d, e), o, g) := g1
  simp only [spec_l5Put, g1', Option.bind_some]
  simp only [List.nil_append] at g2
  rw [← g2]
  cases g
  · simp only [Bool.not_false, cond_true]
    rw [fitsC (by simp; omega) (by omega)]
  · simp only [Bool.not_true, cond_false]

theorem putS_small : ∀ {s : List SpT} {x : SpT}, (∀ y ∈ s, 0 ≤ y.1 ∧ y.2 ≤ 1000000) → 0 ≤ x.1 → x.2 ≤ 1000000 → ∀ y ∈ putS s x, 0 ≤ y.1 ∧ y.2 ≤ 1000000
  | [], x, _, h1, h2, y, hy => by
    simp only [putS, List.mem_singleton] at hy
    rw [hy]; exact ⟨h1, h2⟩
  | z :: r, x, hs, h1, h2, y, hy => by
    have hz := hs z (by simp)
    simp only [putS] at hy
    split at hy
    · rcases List.mem_cons.1 hy with rfl | hy
      · exact hz
      · exact putS_small (fun w hw => hs w (by simp [hw])) h1 h2 y hy
    · split at hy
      · rcases List.mem_cons.1 hy with rfl | hy
        · exact ⟨h1, h2⟩
        · exact hs y hy
      · exact putS_small (fun w hw => hs w (by simp [hw])) (by simp only; omega) (by simp only; omega) y hy
theorem putS_length : ∀ {s : List SpT} {x : SpT}, (putS s x).length ≤ s.length + 1
  | [], x => by simp [putS]
  | z :: r, x => by
    simp only [putS]
    split
    · have := putS_length (s := r) (x := x); simp; omega
    · split
      · simp
      · have := putS_length (s := r) (x := (min x.1 z.1, max x.2 z.2)); simp; omega

/-- Many into a set. -/
theorem join_eq {a b : List SpT} (hl : a.length + b.length ≤ 1048576) (hc : Canon a) (ha : ∀ y ∈ a, 0 ≤ y.1 ∧ y.2 ≤ 1000000) (hb : Sml b) : spec_l5Join (a, b) = some (b.foldl putS a) := by
  have h := lp_fold (S := spec_l5Join_s58) b (0, 0) (fun (out : List SpT) (i : Nat) => (b, out, (i : Int))) putS (fun out => out)
    (fun out i => Canon out ∧ (∀ y ∈ out, 0 ≤ y.1 ∧ y.2 ≤ 1000000) ∧ out.length ≤ a.length + i) (by omega) (fun out i hi hI hm => by
      obtain ⟨I1, I2, I3⟩ := hI
      obtain ⟨q1, q2, q3⟩ := hb _ hm
      refine ⟨?_, (putS_ok I1 q1).1, putS_small I2 q2 q3, by have := putS_length (s := out) (x := b.getD i (0, 0)); omega⟩
      have := put_eq (x := b.getD i (0, 0)) (by omega) ⟨q2, q1, q3⟩ I1 I2
      simp only [spec_l5Join_s58, lnn, ltn hi, cond_true, ixn hi, gxn, Option.bind_some, wsucc (show i ≤ 1048576 by omega)]
      have e : ((b.getD i (0, 0)).1, (b.getD i (0, 0)).2) = b.getD i (0, 0) := rfl
      rw [e, this]
      rfl) (fun out hI => by simp only [spec_l5Join_s58, lnn, ltF, cond_false]) (a0 := a) ⟨hc, ha, by omega⟩
  rw [cast0] at h
  simp only [spec_l5Join, l5Copy_eq (show a.length ≤ 1048576 by omega), Option.bind_some, h]

end Go.Proofs.YthchcnfkgjmabaaGreat.Tw
