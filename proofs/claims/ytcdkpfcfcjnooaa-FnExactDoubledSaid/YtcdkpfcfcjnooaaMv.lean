/- The machine, part v: stores, whole. No condition: lemmas. -/
import Derived.Test.YtcdkpfcfcjnooaaMu
namespace Go.Mach
set_option linter.unusedVariables false
set_option linter.unusedSimpArgs false

section ops
variable {P : Program} {n : Nat} {e : Env} {a : Act} {w : World} {G : Gh} {get : Nat → Slot} {o : Oper} {x : Ctx} {ws : Writes}

theorem sound_store {ty : TypeId} {y z : Operand} (hty : ∀ t, x.ty t = tyOf P t) (hxn : x.n = n) (hb : Begin n e a w G get o) (ho : o.op = .store ty y z) (h : act x get o = some ws) : Sound P n e a w G o ws := by
  simp only [act, ho] at h
  split at h
  · rename_i ca v hca hv
    split at h
    · rename_i hq
      obtain ⟨q1, q2, q3⟩ := hq
      split at h
      · rename_i t1 hst
        simp only [Option.some.injEq] at h
        rw [hty] at q1 q2
        obtain ⟨i, dsc, hi, hu, _⟩ := ty_ok q1
        obtain ⟨L, hcell, _⟩ := hb.one (by simp [ho, Op.operands]) hca
        obtain ⟨vs, Ls, hval⟩ := hb.opd (by simp [ho, Op.operands]) hv
        obtain ⟨hcells, hone⟩ := form_cells (n := n) (tm := a.tmps) hb.sees hval q3
        have hvl : vs.length = (tyOf P ty).size := by rw [hval.cells.len, q2]
        -- the end, from a world and a state
        have fin : ∀ (b o' : Nat) (w' : World) (e' : Env) (G' : Gh), a.eval y = .pointer (some ⟨b, o', none⟩) → (storeCells ⟨b, o', none⟩ vs 0).run P w = .ok () w' → Inv n e' a.tmps w' G' → TrOk e t1 e' → t1.d = o.dst →
            Held n e.length w w' G G' → w'.heap.size = w.heap.size → SameEnv w w' → Sound P n e a w G o ws := by
          intro b o' w' e' G' hp hrun hinv htr hd hstill hsz hse
          obtain ⟨G'', hpost⟩ := lay_skip (a := a) (w := w) (G0 := G) hinv htr hstill (by omega) (by rw [hd]; exact hb.inb.dst) hse
          rw [hd, h] at hpost
          refine Sound.skip ?_ hpost
          simp only [execOp, ho, hp]
          have := run_storeAt hi hcells hvl hrun
          rw [Sem.run_bind, this]
          rfl
        cases ca with
        | bptr s bv j =>
          simp only [storeC] at hst
          split at hst
          · rename_i hz
            simp only [Option.some.injEq] at hst
            obtain ⟨e1, H, Ls', ht⟩ := take_ok x.vars v.2 hb.inv hb.tr hval.cells hval.noOwn
            obtain ⟨z1, z2, z3⟩ := hz
            have hseen : (Tr.at (Tr.take x.vars { get, d := o.dst } v.2).1 s) = e1.get s := by
              rcases ht.tr.sees s with q | q
              · exact q
              · rw [q] at z1; simp at z1
            rw [hseen] at z1 z2 hst
            have hsh : (e.get s).sh = .box bv := by rw [← ht.ext.sh]; exact z1
            obtain ⟨w', G', k1, k2, k3, k4, k5⟩ := store_box hb ht hsh z2 hone (by rw [← hxn]; exact z3)
            have hs : s < e1.length := by
              rcases Nat.lt_or_ge s e1.length with q | q
              · exact q
              · rw [get_out (by omega)] at z1; simp at z1
            refine fin (G.bk s) j w' _ G' (hcell.2.1 hsh) k1 k2 ?_ ?_ (by rw [← ht.ext.len]; exact k3) k4 k5
            · rw [← hst]
              have := ht.tr.put { e1.get s with cs := setFrom (e1.get s).cs j ((Tr.take x.vars { get, d := o.dst } v.2).2.map (layC (e1.get s).cnt)), cnt := (e1.get s).cnt + 1 } hs
              rw [← layFun] at this ⊢
              exact this
            · rw [← hst]
              exact take_d _ _ _
          · simp at hst
        | aptr s j rv sv p i' c k =>
          simp only [storeC] at hst
          split at hst
          · simp at hst
          · rename_i t2 gs d hgr
            obtain ⟨e1, G1, H, Ms, hg⟩ := grabs_ok k v.2 hb.inv hb.tr hval.cells hval.noOwn hgr
            split at hst
            · rename_i rv' sv' deep k0 l0 hcell0
              split at hst
              · rename_i hcond
                obtain ⟨c1, c2, c3⟩ := hcond
                split at hst
                · simp at hst
                · rename_i l hl
                  split at hst
                  · rename_i hil
                    have hl : getP k0 l0 p = ⟨k, l⟩ := castL_some hl
                    obtain ⟨s1, s2⟩ := hg.tr.cell hcell0 (by simp)
                    subst c1
                    have hcell1 := hg.ext.cell _ _ _ (by rfl) hcell
                    obtain ⟨_, _, _, hfit⟩ := hcell1
                    obtain ⟨nn, b, off, cap, ⟨l1, l2, l3, l4⟩, l5, l6⟩ := hfit sv' deep k0 l0 (getD_some s2 _) c2
                    rw [hl] at l2 l3
                    have hLn : ∃ rows, subL k0 (G1.lt s j) p = .node b off cap rows := by
                      cases hq : subL k0 (G1.lt s j) p with
                      | node b' off' cap' rows =>
                        rw [hq] at l4
                        simp only [hdOf, Option.some.injEq, Prod.mk.injEq] at l4
                        obtain ⟨rfl, rfl, rfl⟩ := l4
                        exact ⟨rows, rfl⟩
                      | _ => rw [hq] at l4; simp [hdOf] at l4
                    obtain ⟨rows, hLn⟩ := hLn
                    have hpd : p = [] ∨ deep = true := c2.imp id And.right
                    have hlen2 : v.2.length = vs.length := hval.cells.len.symm
                    rw [hlen2] at c3 hst
                    obtain ⟨w', k1, k2, k5, k3, k4⟩ := store_elem (P := P) hg.inv s2 hpd hl l1 hLn hil c3 hone hg.leaves (fun b hb' => ⟨(hg.hand.mem b hb').1, (hg.hand.mem b hb').2.1⟩) (hg.hand.owner hb.inv hg.ext) hg.hand.nodup hg.fp hg.none
                    have hs : s < e1.length := slot_alive s2
                    have hst1 : Held n e.length w w G G1 := hg.ext.held hb.inv
                    have comp : ∀ G' : Gh, Held n e1.length w w' G1 G' → Held n e.length w w' G G' := fun G' q => hst1.trans (by rw [← hg.ext.len]; exact q)
                    rw [s1] at hst
                    split at hst
                    · rename_i hhl
                      simp only [Option.some.injEq] at hst
                      obtain ⟨G', m1, m2⟩ := k4
                      refine fin b _ w' _ G' l6 k1 m1 ?_ ?_ (comp G' m2) k2 k5
                      · rw [← hst]
                        exact hg.tr.put _ hs
                      · rw [← hst]
                        exact grabs_d _ hgr
                    · rename_i hhl
                      simp only [Option.some.injEq] at hst
                      obtain ⟨G', m1, m2⟩ := k3 (by simpa using hhl)
                      refine fin b _ w' _ G' l6 k1 m1 ?_ ?_ (comp G' m2) k2 k5
                      · rw [← hst]
                        exact hg.tr.put _ hs
                      · rw [← hst]
                        exact grabs_d _ hgr
                  · simp at hst
              · simp at hst
            · simp at hst
        | _ => simp [storeC] at hst
      · simp at h
    · simp at h
  · simp at h

end ops

end Go.Mach
