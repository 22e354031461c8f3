/- The machine, part z: append as an operation, done. No condition: lemmas. -/
import Derived.Test.YtcdkpfcfcjnooaaMy
namespace Go.Mach
set_option linter.unusedVariables false
set_option linter.unusedSimpArgs false

theorem srcC_d {vars : List Nat} {t t' : Tr} {k : K} {y : C} {ys : List k.T} {d : Bool} (h : srcC vars t k y = some (t', ys, d)) : t'.d = t.d := by
  cases y with
  | ref s j rv sv p lo hi k1 =>
    simp only [srcC] at h
    split at h
    · simp at h
    · rename_i hg
      split at h
      · simp only [Option.some.injEq, Prod.mk.injEq] at h; rw [← h.1]
      · split at h
        · split at h
          · simp only [Option.some.injEq, Prod.mk.injEq] at h; rw [← h.1]; rfl
          · simp at h
        · simp only [Option.some.injEq, Prod.mk.injEq] at h; rw [← h.1]; exact grab_d hg
  | dat k' z =>
    cases k' with
    | str =>
      simp only [srcC] at h
      split at h
      · simp only [Option.some.injEq, Prod.mk.injEq] at h; rw [← h.1]
      · simp at h
    | _ =>
      simp only [srcC] at h
      split at h
      · simp at h
      · rename_i hg
        simp only [Option.some.injEq, Prod.mk.injEq] at h; rw [← h.1]; exact grab_d hg
  | nil =>
    simp only [srcC] at h
    split at h
    · simp at h
    · rename_i hg
      simp only [Option.some.injEq, Prod.mk.injEq] at h; rw [← h.1]; exact grab_d hg
  | _ => simp [srcC, Tr.grab] at h

section ops
variable {P : Program} {n : Nat} {e : Env} {a : Act} {w : World} {G : Gh} {get : Nat → Slot} {o : Oper} {x : Ctx} {ws : Writes}

theorem sound_append {c0 : Call} (hty : ∀ t, x.ty t = tyOf P t) (hb : Begin n e a w G get o) (ho : o.op = .call c0) (hcb : c0.callee = .builtin .append) (hat0 : (c0.argTypes[0]?).isSome = true) (hat1 : (c0.argTypes[1]?).isSome = true) {cx cy : C}
    (hc : opds get c0.args.toList = some [(.one, [cx]), (.one, [cy])]) (hfit : fitsTy (x.ty (c0.argTypes.getD 1 0)) cy = true) {t2 : Tr} {c : C} (hap : appendC x.ty x.vars { get, d := o.dst } (c0.argTypes.getD 0 0) cx cy = some (t2, c))
    (h : t2.own o.dst (.one, [c]) = some ws) : Sound P n e a w G o ws := by
  obtain ⟨y, z, hargs, hy, hz⟩ := opds_two hc
  obtain ⟨L, h1, _⟩ := hb.one (by simp [ho, Op.operands, Call.operands, hcb, hargs]) hy
  obtain ⟨M, h2, _⟩ := hb.one (by simp [ho, Op.operands, Call.operands, hcb, hargs]) hz
  obtain ⟨t0, ht0⟩ := Option.isSome_iff_exists.1 hat0
  obtain ⟨t1, ht1⟩ := Option.isSome_iff_exists.1 hat1
  have hg0 : c0.argTypes.getD 0 0 = t0 := by simp only [Array.getD_eq_getD_getElem?, ht0, Option.getD_some]
  have hg1 : c0.argTypes.getD 1 0 = t1 := by simp only [Array.getD_eq_getD_getElem?, ht1, Option.getD_some]
  rw [hg0] at hap
  rw [hg1, hty] at hfit
  have hu1 : ∃ d1, P.underlying t1 = some d1 ∧ ((∃ e1, d1 = .slice e1) ∨ d1 = .string) := by
    by_cases hq : ∃ l, cy = .dat .str l
    · obtain ⟨l, rfl⟩ := hq
      exact ⟨_, fits_str hfit, .inr rfl⟩
    · obtain ⟨el, hel⟩ := fits_slice hfit (fun l q => hq ⟨l, q⟩)
      exact ⟨_, hel, .inl ⟨el, rfl⟩⟩
  obtain ⟨d1, hu1, hd1⟩ := hu1
  have hty' : x.ty = tyOf P := funext hty
  rw [hty'] at hap
  simp only [appendC] at hap
  split at hap
  · rename_i el hd
    have hu := ty_slice hd
    split at hap
    · simp at hap
    · rename_i k hk
      obtain ⟨i, hi, hik⟩ := ty_k hk
      split at hap
      · simp at hap
      · rename_i t3 ys d hsrc
        obtain ⟨e1, G1, Hy, rows, cells, hS⟩ := src_ok (P := P) hb.inv hb.tr h2 hsrc
        have hcx := hS.ext.cell _ _ _ (by
          cases cx with
          | own => simp at hap
          | _ => rfl) h1
        have htd : t3.d = o.dst := srcC_d hsrc
        -- the end
        have fin : ∀ (t4 : Tr) (e2 : Env) (l : List k.T) (L' : LT) (deep : Bool) (Hx : List Nat), t4.d = o.dst → Inv n e2 a.tmps w G1 → TrOk e t4 e2 → Ext w e1 G1 e2 G1 → Hand w e1 G1 e2 G1 Hx → RepL true w k.size (Rep deep w k) l L' (a.eval y) → Hx = ownB (.own 0 0 deep k l) L' →
            (deep = false → ∀ b ∈ inner k L', G1.ow b = none) → l.length + ys.length ≤ rowMost → (2 * (l.length + ys.length) + 512) * (tyOf P el).bytes ≤ byteMost → (tyOf P el).zero.isSome = true → (tyOf P el).zeros.length = k.size →
            t4.own o.dst (.one, [.own 0 0 (deep && d) k (l ++ ys)]) = some ws → Sound P n e a w G o ws := by
          intro t4 e2 l L' deep Hx g1 g2 g3 g4 g5 g6 g7 g8 g9 g10 g11 g12 g13
          obtain ⟨i', zv, hi', hz'⟩ := zero_info g11
          rw [hi] at hi'
          simp only [Option.some.injEq] at hi'
          subst hi'
          rw [zeros_eq hi hz'] at g12
          rw [(ty_size hi).2.2.1] at g10
          obtain ⟨dd, hdd, hws⟩ := own_dst g13
          have hand2 := hS.hand.append hS.ext g4 g5 (fun b q1 q2 => (hS.ext.loose b q1 q2).1) (fun b q => hS.ext.some_before (g4.some_before (g5.mem b q).2.1))
          have hB : Both w e2 G1 k l L' deep (a.eval y) Hx rows d Hy := by
            refine ⟨g6, g7, g8, ?_, fun b hb' => ?_, fun b hb' => ?_, hS.fpy, hS.there, hS.free⟩
            · exact List.perm_append_comm.nodup_iff.1 hand2.nodup
            · obtain ⟨m1, m2, m3, _⟩ := hand2.mem b (by rw [List.mem_append] at hb' ⊢; exact hb'.symm)
              exact ⟨m1, m2, m3⟩
            · exact hand2.owner hb.inv (hS.ext.trans g4) b (by rw [List.mem_append] at hb' ⊢; exact hb'.symm)
          obtain ⟨v', w', hr, hp⟩ := append_core (P := P) (ty := o.type) (a := a) (G0 := G) g2 g3 ((hS.ext.trans g4).held hb.inv) hB hS.src ht0 ht1 hu hu1 hd1 hi hik hz' (by simpa using g12) g9 g10 (g1.trans hdd) (hb.inb.dst dd hdd)
          refine Sound.new (u := v') (w' := w') ?_ hdd hp hws
          simp only [execOp, ho, resolve, hcb, hargs, Sem.run_bind, Sem.run_pure, Result.andThen_ok, invoke, builtin]
          have : (#[y, z].map a.eval) = #[a.eval y, a.eval z] := by simp
          rw [this, hr]
          rfl
        split at hap
        · split at hap
          · rename_i hcond
            obtain ⟨b1, b2, b3, b4⟩ := hcond
            simp only [Option.some.injEq, Prod.mk.injEq] at hap
            obtain ⟨rfl, rfl⟩ := hap
            have hv : a.eval y = .slice none 0 0 := hcx
            refine fin t3 e1 [] .nil true [] htd hS.inv hS.tr Ext.refl Hand.nil (.inl ⟨rfl, rfl, none, 0, hv, fun _ => rfl⟩) (by simp [ownB, fp]) (by simp) (by simpa using b1) (by simpa using b2) b3 b4 (by simpa using h)
          · simp at hap
        · rename_i s j rv sv lo hi' k1
          split at hap
          · rename_i rv' sv' deep k0 l0 hcell
            split at hap
            · rename_i hq
              obtain ⟨q1, q2⟩ := hq
              split at hap
              · simp at hap
              · rename_i l hl
                have hl := castL_some hl
                simp only [Sigma.mk.injEq] at hl
                obtain ⟨rfl, hl⟩ := hl
                have hl := eq_of_heq hl
                subst hl
                split at hap
                · rename_i hcond
                  obtain ⟨b1, b2, b3, b4⟩ := hcond
                  simp only [Option.some.injEq, Prod.mk.injEq] at hap
                  obtain ⟨rfl, rfl⟩ := hap
                  obtain ⟨e2, Hx, L', m1, m2, m3, m4, m5, m6, m7⟩ := dst_ok hS.inv hS.tr hcx hcell q1 q2
                  exact fin _ e2 _ L' deep Hx (by exact htd) m1 m2 m3 m4 m5 m6 m7 b1 b2 b3 b4 h
                · simp at hap
            · simp at hap
          · simp at hap
        · simp at hap
  · simp at hap

end ops

end Go.Mach
