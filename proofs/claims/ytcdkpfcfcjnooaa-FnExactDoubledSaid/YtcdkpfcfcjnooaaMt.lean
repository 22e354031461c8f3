/- The machine, part t: stores into elements. No condition: lemmas. -/
import Derived.Test.YtcdkpfcfcjnooaaMs
namespace Go.Mach
set_option linter.unusedVariables false
set_option linter.unusedSimpArgs false

theorem grabs_d {k : K} : ∀ (cs : List C) {c : Nat} {t t' : Tr} {gs : List Sg} {d : Bool}, t.grabs k c cs = some (t', gs, d) → t'.d = t.d
  | [], c, t, t', gs, d, h => by simp only [Tr.grabs, Option.some.injEq, Prod.mk.injEq] at h; rw [h.1]
  | x :: r, c, t, t', gs, d, h => by
    simp only [Tr.grabs] at h
    split at h
    · simp at h
    · rename_i h1
      split at h
      · simp at h
      · rename_i h2
        simp only [Option.some.injEq, Prod.mk.injEq] at h
        obtain ⟨rfl, _⟩ := h
        rw [grabs_d r h2, grab_d h1]

theorem LeavesAt.mono {d d' : Bool} {w w' : World} {k : K} : ∀ {c : Nat} {gs : List Sg} {Ms : List LT} {us : List Value}, LeavesAt d w k c gs Ms us → (d' = true → d = true) → Same w w' (fpLeaves gs Ms) → LeavesAt d' w' k c gs Ms us
  | _, [], [], [], h, _, _ => h
  | c, s :: gs, M :: Ms, u :: us, h, hd, hs => by
    obtain ⟨h1, h2, h3⟩ := h
    refine ⟨h1, ?_, h3.mono hd fun b hb => hs b (by simp [fpLeaves, hb])⟩
    have h4 := h2.same fun b hb => hs b (by simp [fpLeaves, hb])
    cases d with
    | true => exact h4.any d'
    | false => cases d' with
      | true => simp at hd
      | false => exact h4
  | _, [], [], _ :: _, h, _, _ => by simp [LeavesAt] at h
  | _, [], _ :: _, _, h, _, _ => by simp [LeavesAt] at h
  | _, _ :: _, [], _, h, _, _ => by simp [LeavesAt] at h
  | _, _ :: _, _ :: _, [], h, _, _ => by simp [LeavesAt] at h

structure GrabbedLeaves (n : Nat) (e0 : Env) (e : Env) (tm : Array Value) (w : World) (G : Gh) (t' : Tr) (k : K) (c : Nat) (gs : List Sg) (d : Bool) (us : List Value) (e' : Env) (G' : Gh) (H : List Nat) (Ms : List LT) : Prop where
  inv : Inv n e' tm w G'
  tr : TrOk e0 t' e'
  ext : Ext w e G e' G'
  hand : Hand w e G e' G' H
  leaves : LeavesAt d w k c gs Ms us
  fp : d = true → H = fpLeaves gs Ms
  none : ∀ b ∈ fpLeaves gs Ms, b ∈ H ∨ G'.ow b = none

theorem grabs_ok (k : K) : ∀ (cs : List C) {c n : Nat} {e0 e : Env} {tm : Array Value} {w : World} {G : Gh} {t t' : Tr} (h : Inv n e tm w G) (ht : TrOk e0 t e) {us : List Value} {Ls : Nat → LT} (hc : CellsOk e w G cs us Ls)
    (ho : ∀ c ∈ cs, c.isOwn = false) {gs : List Sg} {d : Bool} (hg : t.grabs k c cs = some (t', gs, d)),
    ∃ e' G' H Ms, GrabbedLeaves n e0 e tm w G t' k c gs d us e' G' H Ms
  | [], c, n, e0, e, tm, w, G, t, t', h, ht, us, Ls, hc, ho, gs, d, hg => by
    simp only [Tr.grabs, Option.some.injEq, Prod.mk.injEq] at hg
    obtain ⟨rfl, rfl, rfl⟩ := hg
    have : us = [] := List.eq_nil_of_length_eq_zero (by simpa using hc.len)
    subst this
    exact ⟨e, G, [], [], h, ht, Ext.refl, Hand.nil, trivial, by simp [fpLeaves], by simp [fpLeaves]⟩
  | x :: cs, c, n, e0, e, tm, w, G, t, t', h, ht, us, Ls, hc, ho, gs, d, hg => by
    match us, hc with
    | [], hc => exact absurd hc.len (by simp)
    | u :: us, hc =>
      simp only [Tr.grabs] at hg
      cases h1 : t.grab x (k.leaf c) with
      | none => rw [h1] at hg; simp at hg
      | some r1 =>
        obtain ⟨t1, x1, d1⟩ := r1
        rw [h1] at hg
        simp only at hg
        cases h2 : t1.grabs k (c + 1) cs with
        | none => rw [h2] at hg; simp at hg
        | some r2 =>
          obtain ⟨t2, xs, d2⟩ := r2
          rw [h2] at hg
          simp only [Option.some.injEq, Prod.mk.injEq] at hg
          obtain ⟨rfl, rfl, rfl⟩ := hg
          obtain ⟨e1, G1, H1, L1, g1⟩ := grab_ok h ht (hc.cell 0 x u rfl rfl) h1
          have hcr : CellsOk e w G cs us (fun j => Ls (1 + j)) := by
            have := hc.drop 1
            simpa using this
          obtain ⟨e2, G2, H2, Ms, g2⟩ := grabs_ok k cs g1.inv g1.tr (hcr.ext g1.ext (fun c hc' => ho c (by simp [hc']))) (fun c hc' => ho c (by simp [hc'])) h2
          refine ⟨e2, G2, H1 ++ H2, L1 :: Ms, g2.inv, g2.tr, g1.ext.trans g2.ext, ?_, ⟨rfl, ?_, ?_⟩, ?_, ?_⟩
          · exact g1.hand.append g1.ext g2.ext g2.hand (fun b hb ho => (g1.ext.loose b hb ho).1) (fun b hb => g1.ext.some_before (g2.ext.some_before (g2.hand.mem b hb).2.1))
          · cases d1 with
            | false => simpa using g1.rep
            | true => exact g1.rep.any _
          · refine g2.leaves.mono (fun hd => ?_) (fun b _ => rfl)
            simp only [Bool.and_eq_true] at hd
            exact hd.2
          · intro hd
            simp only [Bool.and_eq_true] at hd
            rw [g1.fp hd.1, g2.fp hd.2]
            simp [fpLeaves]
          · intro b hb
            simp only [fpLeaves, List.mem_append] at hb
            rcases hb with hb | hb
            · rcases g1.none b hb with q | q
              · exact .inl (by simp [q])
              · exact .inr (g2.ext.none b q)
            · rcases g2.none b hb with q | q
              · exact .inl (by simp [q])
              · exact .inr q

theorem leaf_noPair : ∀ (k : K) (c : Nat) (a b : K), k.leaf c ≠ .pair a b
  | .int _, c, a, b => by simp [K.leaf]
  | .bool, c, a, b => by simp [K.leaf]
  | .str, c, a, b => by simp [K.leaf]
  | .list k, c, a, b => by simp [K.leaf]
  | .pair x y, c, a, b => by
    simp only [K.leaf]
    split
    · exact leaf_noPair x c a b
    · exact leaf_noPair y _ a b

theorem Rep.one_flat {d d' : Bool} {w w' : World} {M M' : LT} {cs : List Value} : ∀ {s : Sg}, s.1.flat = true → (∀ a b, s.1 ≠ .pair a b) → Rep d w s.1 s.2 M cs → Rep d' w' s.1 s.2 M' cs
  | ⟨.int _, _⟩, _, _, h => h
  | ⟨.bool, _⟩, _, _, h => h
  | ⟨.str, _⟩, _, _, h => h
  | ⟨.list _, _⟩, h, _, _ => by simp [K.flat] at h
  | ⟨.pair a b, _⟩, _, h, _ => absurd rfl (h a b)

/-- Flat leaves leave the data where they lie. -/
theorem flat_leaves {d : Bool} {w w' : World} {k : K} (r : LT) : ∀ {us : List Value} {gs : List Sg} {Ms : List LT} {c : Nat}, hasList k c us.length = false → LeavesAt d w k c gs Ms us →
    ∃ Ms', LeavesAt true w' k c gs Ms' us ∧ setLeavesL k r c Ms' = r ∧ fpLeaves gs Ms' = [] ∧ fpLeaves gs Ms = []
  | [], [], [], c, _, _ => ⟨[], trivial, rfl, rfl, rfl⟩
  | u :: us, s :: gs, M :: Ms, c, hh, h => by
    simp only [List.length_cons, hasList, Bool.or_eq_false_iff, Bool.not_eq_false'] at hh
    obtain ⟨h1, h2, h3⟩ := h
    obtain ⟨Ms', q1, q2, q3, q4⟩ := flat_leaves r hh.2 h3
    have hf : s.1.flat = true := by rw [h1]; exact hh.1
    refine ⟨leafL k r c :: Ms', ⟨h1, Rep.one_flat hf (by rw [h1]; exact leaf_noPair k c) h2, q1⟩, ?_, ?_, ?_⟩
    · simp only [setLeavesL, setLeafL_self]; exact q2
    · simp only [fpLeaves, q3, fp_flat hf]; rfl
    · simp only [fpLeaves, q4, fp_flat hf]; rfl
  | _ :: _, [], _, _, _, h => by cases ‹List LT› <;> simp [LeavesAt] at h
  | _ :: _, _ :: _, [], _, _, h => by simp [LeavesAt] at h
  | [], _ :: _, [], _, _, h => by simp [LeavesAt] at h
  | [], _ :: _, _ :: _, _, _, h => by simp [LeavesAt] at h
  | [], [], _ :: _, _, _, h => by simp [LeavesAt] at h

theorem modP_length (g : (k : K) → List k.T → List k.T) : ∀ (p : Path) {k : K} {l : List k.T}, (g (getP k l p).1 (getP k l p).2).length = (getP k l p).2.length → (modP g k l p).length = l.length
  | [], k, l, h => h
  | (i, c) :: p, k, l, h => by
    simp only [modP]
    split
    · simp
    · rfl

theorem hdOf_setSub {dr d : Bool} {w : World} {M : LT} : ∀ (p : Path) {k : K} {l : List k.T} {L : LT} {v : Value}, RepL dr w k.size (Rep d w k) l L v → PathOk k l p → hdOf M = hdOf (subL k L p) → hdOf (setSub k L M p) = hdOf L
  | [], k, l, L, v, _, _, h => h
  | (i, c) :: p, k, l, L, v, h, hp, hM => by
    simp only [PathOk] at hp
    obtain ⟨hi, hc, hp⟩ := hp
    obtain ⟨b, off, cap, rows, r, vs, rfl, rfl, _⟩ := h.elem hi
    cases hl : leafV k (l.getD i k.dflt) c with
    | mk k1 y =>
      have hk := leafV_kind k (l.getD i k.dflt) c
      rw [hl] at hk hp
      cases k1 with
      | list k' => simp only [setSub, ← hk, hdOf]
      | _ => exact hp.elim

end Go.Mach
