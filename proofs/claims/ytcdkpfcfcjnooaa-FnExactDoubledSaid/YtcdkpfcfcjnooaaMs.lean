/- The machine, part s: stores into boxes. No condition: lemmas. -/
import Derived.Test.YtcdkpfcfcjnooaaMr
namespace Go.Mach
set_option linter.unusedVariables false
set_option linter.unusedSimpArgs false

theorem run_store_row (P : Program) (g o : Nat) (t : TypeId) (fr : Nat × Nat) : ∀ (vs : List Value) (i : Nat) (cur : Array Value) (w : World), w.heap[g]? = some (.cells cur t fr) → o + i + vs.length ≤ cur.size →
    (∀ q, o + i ≤ q → q < o + i + vs.length → ¬ (fr.1 ≤ q ∧ q < fr.2)) → (∀ v ∈ vs, v.oneCell' = true) →
    (storeCells ⟨g, o, none⟩ vs i).run P w = .ok () (w.setRow g (setFrom cur.toList (o + i) vs).toArray)
  | [], i, cur, w, hg, _, _, _ => by
    simp only [storeCells, setFrom, Array.toArray_toList]
    rw [setRow_self w g cur t fr hg]
    rfl
  | v :: rest, i, cur, w, hg, hl, hf, h1 => by
    have hi : o + i < cur.size := by simp at hl; omega
    have hadd : (⟨g, o, none⟩ : Addr).add i = ⟨g, o + i, none⟩ := by unfold Addr.add; split <;> simp_all
    have hcell : w.cell? ⟨g, o + i, none⟩ = some cur[o + i] := by simp [World.cell?, hg, hi]
    have hfro : w.frozen? ⟨g, o + i, none⟩ = false := by
      have := hf (o + i) (Nat.le_refl _) (by simp)
      simp only [World.frozen?, hg, Bool.and_eq_false_iff, decide_eq_false_iff_not]
      omega
    have hst : (store ((⟨g, o, none⟩ : Addr).add i) v).run P w = .ok () (w.setRow g (cur.setIfInBounds (o + i) v)) := by
      rw [hadd, run_store P w _ v _ (h1 v (by simp)), hcell]
      simp [hfro, setCell_eq_setRow w g (o + i) cur t fr v hg]
    have ih := run_store_row P g o t fr rest (i + 1) (cur.setIfInBounds (o + i) v) (w.setRow g (cur.setIfInBounds (o + i) v)) (setRow_heap w g cur _ t fr hg) (by simp at hl ⊢; omega)
      (fun q h1 h2 => hf q (by omega) (by simp; omega)) (fun x hx => h1 x (by simp [hx]))
    simp only [storeCells, Sem.run_bind, hst, Result.andThen_ok, ih, setRow_setRow, setFrom]
    congr 3
    simp [Array.toList_setIfInBounds, Nat.add_assoc]

section ops
variable {P : Program} {n : Nat} {e : Env} {a : Act} {w : World} {G : Gh} {get : Nat → Slot} {o : Oper} {x : Ctx} {ws : Writes}

/-- An operation without a value, at its end. -/
theorem lay_skip {e0 : Env} {w1 : World} {G0 : Gh} {t : Tr} (h : Inv n e a.tmps w1 G) (ht : TrOk e0 t e) (hst : Held n e0.length w w1 G0 G) (hg : w.heap.size ≤ w1.heap.size) (hd : ∀ d, t.d = some d → d < n) (henv : SameEnv w w1) :
    ∃ G', Post n (e0.puts (t.lay t.d (.dead, [])).ws) a w G0 (a.put t.d undef) w1 G' := by
  cases hdd : t.d with
  | none =>
    simp only [Tr.lay, Act.put]
    rw [ht.puts]
    exact ⟨G, h, by rw [ht.length]; exact hst, hg, rfl, henv⟩
  | some d =>
    have hdn := hd d hdd
    have hat := ht.dst d hdd
    have hlen : d < e.length := Nat.lt_of_lt_of_le hdn h.elen
    simp only [Tr.lay]
    rw [(ht.put ((t.at d).lay .dead []) hlen).puts, hat]
    have := h.lay (w' := w1) d .dead [] [] (fun _ => .leaf) 0 [] (Nat.le_refl _) (fun b _ _ => rfl) (by simp) rfl (by simp) (by simp [boxB, fpCells]) (by simp [boxB, fpCells]) (fun _ => rfl) (by simp)
      (a.put (some d) undef).tmps (by rw [put_size]; exact h.size) (fun t' ht' hn => by rw [put_tmps]; simp [Ne.symm ht']) (fun hn => trivial)
    refine ⟨_, this, ⟨fun b q1 q2 => ?_, fun s hs => ⟨(upd_ne _ _ (by omega)).trans (hst.vs s hs).1, fun j => by rw [show (G.lay d [] (fun _ => .leaf) 0 []).lt s = G.lt s from upd_ne _ _ (by omega)]; exact (hst.vs s hs).2 j⟩, fun b t q1 q2 q3 => by
      have hl : (e.set d ((e.get d).lay .dead [])).length = e0.length := by rw [List.length_set, ht.length]
      obtain ⟨r1, r2⟩ := hst.out b t q1 (by rw [← hl]; exact q2) q3
      exact ⟨r1, by simp [Gh.lay, r2]⟩⟩, hg, put_defers _ _ _, henv⟩
    obtain ⟨r1, r2⟩ := hst.still b q1 q2
    exact ⟨r1, by simp [Gh.lay, r2]⟩

theorem Sound.skip {w' : World} {G' : Gh} (h : (execOp a.eval o).run P w = .ok .skip w') (hp : Post n (e.puts ws) a w G (a.put o.dst undef) w' G') : Sound P n e a w G o ws :=
  fun K Q hk => wp_skip' h (hk _ _ _ hp)

theorem run_storeAt {t : Nat} {i : TypeInfo} (hi : P.info? t = some i) {b o' : Nat} {u : Value} {us : List Value} (hu : u.cells = us.toArray) (hl : us.length = (tyOf P t).size) {w w' : World}
    (h : (storeCells ⟨b, o', none⟩ us 0).run P w = .ok () w') : (Instr.storeAt t (.pointer (some ⟨b, o', none⟩)) u).run P w = .ok () w' := by
  simp only [Instr.storeAt, Instr.sureAddr, storeVar, Sem.run_bind, Sem.run_pure, Result.andThen_ok, run_size hi, hu]
  simp only [List.size_toArray, hl, ne_eq, not_true_eq_false, if_false]
  exact h

theorem layFun (r : Nat) : (fun c => match c with | C.own _ _ d k l => C.own r 0 d k l | c => c) = layC r := by
  funext c
  cases c <;> rfl

theorem layC_noOwn {r : Nat} {c : C} (h : c.isOwn = false) : layC r c = c := by cases c <;> first | rfl | simp [C.isOwn] at h

theorem fpCells_layC (Ls : Nat → LT) (r : Nat) : ∀ (cs : List C) (i : Nat), fpCells Ls i (cs.map (layC r)) = fpCells Ls i cs
  | [], i => rfl
  | c :: cs, i => by simp only [List.map_cons, fpCells, ownB_lay, fpCells_layC Ls r cs]

theorem perm3 {α : Type} (A R B : List α) : (A ++ R ++ B).Perm (B ++ R ++ A) := by
  refine List.perm_append_comm.trans ?_
  rw [List.append_assoc]
  exact List.Perm.append_left _ List.perm_append_comm

/-- The blocks of cells of which some are set. -/
theorem fpCells_setFrom : ∀ (vs cs : List C) (Ls Ms : Nat → LT) (i j : Nat), j + vs.length ≤ cs.length →
    ∃ rest, (fpCells Ls i cs ++ fpCells Ms 0 vs).Perm (fpCells (fun q => if i + j ≤ q ∧ q < i + j + vs.length then Ms (q - (i + j)) else Ls q) i (setFrom cs j vs) ++ rest)
  | [], cs, Ls, Ms, i, j, h => by
    refine ⟨[], ?_⟩
    have : (fun q => if i + j ≤ q ∧ q < i + j + ([] : List C).length then Ms (q - (i + j)) else Ls q) = Ls := by
      funext q
      rw [if_neg (by simp only [List.length_nil]; omega)]
    rw [this]
    simp [fpCells, setFrom]
  | v :: r, cs, Ls, Ms, i, j, h => by
    simp only [List.length_cons] at h
    have hj : cs[j]? = some (cs[j]'(by omega)) := List.getElem?_eq_getElem (by omega)
    obtain ⟨rest1, q1, q2⟩ := fpCells_perm (lt := Ls) (i := i) hj
    have q2 := q2 (upd Ls (i + j) (Ms 0)) v (fun m hm => upd_ne _ _ hm)
    rw [upd_self] at q2
    obtain ⟨rest, q3⟩ := fpCells_setFrom r (cs.set j v) (upd Ls (i + j) (Ms 0)) (fun q => Ms (q + 1)) i (j + 1) (by simp; omega)
    have hf : (fun q => if i + j ≤ q ∧ q < i + j + (v :: r).length then Ms (q - (i + j)) else Ls q) =
        (fun q => if i + (j + 1) ≤ q ∧ q < i + (j + 1) + r.length then (fun q => Ms (q + 1)) (q - (i + (j + 1))) else upd Ls (i + j) (Ms 0) q) := by
      funext q
      simp only [List.length_cons, upd]
      by_cases g : q = i + j
      · subst g
        rw [if_pos (by omega), if_neg (by omega), if_pos rfl, Nat.sub_self]
      · rw [if_neg g]
        by_cases g1 : i + (j + 1) ≤ q ∧ q < i + (j + 1) + r.length
        · rw [if_pos g1, if_pos (by omega)]
          congr 1
          omega
        · rw [if_neg g1, if_neg (by omega)]
    rw [hf]
    refine ⟨rest ++ ownB (cs[j]'(by omega)) (Ls (i + j)), ?_⟩
    simp only [fpCells, setFrom]
    rw [show (0 : Nat) + 1 = 0 + 1 from rfl, fpCells_shift Ms r 0, ← List.append_assoc, ← List.append_assoc]
    refine List.Perm.trans ?_ (q3.append_right _)
    -- old ++ new0 ++ rest  ~  (set) ++ rest ++ old0
    have e1 : (fpCells Ls i cs ++ ownB v (Ms 0)).Perm (fpCells (upd Ls (i + j) (Ms 0)) i (cs.set j v) ++ ownB (cs[j]'(by omega)) (Ls (i + j))) := by
      refine (q1.append_right _).trans (List.Perm.trans ?_ (q2.symm.append_right _))
      exact perm3 _ _ _
    refine (e1.append_right _).trans ?_
    simp only [List.append_assoc]
    exact List.Perm.append_left _ List.perm_append_comm

theorem setFrom_cell {α : Type} {cs vs : List α} {j i : Nat} {c : α} (h : j + vs.length ≤ cs.length) (hc : (setFrom cs j vs)[i]? = some c) :
    (j ≤ i ∧ i < j + vs.length ∧ vs[i - j]? = some c) ∨ (¬ (j ≤ i ∧ i < j + vs.length) ∧ cs[i]? = some c) := by
  rw [setFrom_get _ _ _ _ h] at hc
  split at hc
  · rename_i q
    exact .inl ⟨q.1, q.2, hc⟩
  · rename_i q
    exact .inr ⟨q, hc⟩

theorem store_box (hb : Begin n e a w G get o) {e1 : Env} {t : Tr} {H : List Nat} {Ls : Nat → LT} {cs : List C} {vs : List Value} (ht : Taken n e e a.tmps w G t cs vs e1 H Ls) {s bv j : Nat} (hsh : (e.get s).sh = .box bv)
    (hj : j + cs.length ≤ (e1.get s).cs.length) (hone : ∀ v ∈ vs, v.oneCell' = true) (hsn : s < n) :
    ∃ w' G', (storeCells ⟨G.bk s, j, none⟩ vs 0).run P w = .ok () w' ∧ Inv n (e1.set s { e1.get s with cs := setFrom (e1.get s).cs j (cs.map (layC (e1.get s).cnt)), cnt := (e1.get s).cnt + 1 }) a.tmps w' G' ∧
      Held n e1.length w w' G G' ∧ w'.heap.size = w.heap.size ∧ SameEnv w w' := by
  have hsh1 : (e1.get s).sh = .box bv := by rw [ht.ext.sh]; exact hsh
  have hslot := ht.inv.slot s
  obtain ⟨hbv, ty, hblk⟩ := hslot.box bv hsh1
  have hne : (e1.get s).sh ≠ .dead := by rw [hsh1]; simp
  have hlen := hslot.len hne
  have hj' : j + vs.length ≤ (G.vs s).length := by rw [hlen, ht.len]; exact hj
  have hrun := run_store_row P (G.bk s) j ty (0, 0) vs 0 (G.vs s).toArray w hblk (by simpa using hj') (fun q _ _ => by simp) hone
  simp only [Nat.add_zero] at hrun
  have hfps : fpS G s (e1.get s) = G.bk s :: fpCells (G.lt s) 0 (e1.get s).cs := by simp [fpS, hsh1]
  have hbk : G.ow (G.bk s) = some s := hslot.own _ (by rw [hfps]; simp)
  have hbH : G.bk s ∉ H := fun q => (ht.hand.mem _ q).1 s (by rw [hfps]; simp)
  have hndS := hslot.nodup
  rw [hfps] at hndS
  have hml : (cs.map (layC (e1.get s).cnt)).length = cs.length := by simp
  obtain ⟨rest, hperm⟩ := fpCells_setFrom (cs.map (layC (e1.get s).cnt)) (e1.get s).cs (G.lt s) Ls 0 j (by rw [hml]; exact hj)
  rw [fpCells_layC, ht.fp] at hperm
  simp only [Nat.zero_add, hml] at hperm
  have hall : (G.bk s :: (fpCells (G.lt s) 0 (e1.get s).cs ++ H)).Nodup := by
    rw [← List.cons_append, List.nodup_append]
    refine ⟨hndS, ht.hand.nodup, fun b hb b' hb' heq => ?_⟩
    subst heq
    exact (ht.hand.mem b hb').1 s (by rw [hfps]; exact hb)
  have hall' := (List.Perm.cons (G.bk s) hperm).nodup_iff.1 hall
  have hI := ht.inv.box (w' := w.setRow (G.bk s) (setFrom (G.vs s) j vs).toArray) hsh1 (setFrom (e1.get s).cs j (cs.map (layC (e1.get s).cnt))) (setFrom (G.vs s) j vs) (fun q => if j ≤ q ∧ q < j + cs.length then Ls (q - j) else G.lt s q) H
    (by simp) (fun b hb _ _ => setRow_other w _ b _ hb) ⟨ty, setRow_heap w _ _ _ ty _ hblk⟩
    (fun b hb => by
      obtain ⟨h1, h2, h3, _⟩ := ht.hand.mem b hb
      exact ⟨h1, .inl h2, by simpa using h3⟩)
    (by rw [setFrom_length, setFrom_length, hlen])
    (fun i c v hc hv => by
      rcases setFrom_cell (by rw [hml]; exact hj) hc with ⟨g1, g2, g3⟩ | ⟨g1, g3⟩
      · right
        rw [hml] at g2
        rcases setFrom_cell hj' hv with ⟨_, _, g4⟩ | ⟨g4, _⟩
        · rw [if_pos ⟨g1, g2⟩]
          rw [List.getElem?_map] at g3
          cases hci : cs[i - j]? with
          | none => rw [hci] at g3; simp at g3
          | some c0 =>
            rw [hci] at g3
            simp only [Option.map_some, Option.some.injEq] at g3
            subst g3
            have hnew := ht.new _ c0 v hci g4
            cases c0 with
            | own rv sv d k l =>
              obtain ⟨n1, n2⟩ := hnew
              refine ⟨⟨n1.same fun b hb => setRow_other w _ b _ ?_, n2⟩, fun r1 r2 d' k' l' hq => by simp only [layC, C.own.injEq] at hq; exact ⟨hq.1.symm, hq.2.1.symm⟩⟩
              rintro rfl
              cases d with
              | true =>
                refine hbH ?_
                rw [← ht.fp]
                exact fpCells_mem hci (by simpa [ownB] using hb)
              | false =>
                rw [fp_list, List.mem_append] at hb
                rcases hb with hb | hb
                · refine hbH ?_
                  rw [← ht.fp]
                  exact fpCells_mem hci (by simpa [ownB] using hb)
                · rw [(n2 rfl _ hb).1] at hbk
                  simp at hbk
            | _ => exact ⟨hnew, fun r1 r2 d' k' l' hq => by simp [layC] at hq⟩
        · rw [ht.len] at g4
          exact absurd ⟨g1, g2⟩ g4
      · left
        rw [hml] at g1
        rcases setFrom_cell hj' hv with ⟨g4, g5, _⟩ | ⟨_, g4⟩
        · rw [ht.len] at g5
          exact absurd ⟨g4, g5⟩ g1
        · refine ⟨g3, g4, if_neg g1, fun b hb => ?_⟩
          rw [if_neg g1] at hb
          have hm : b ∈ fpCells (G.lt s) 0 (e1.get s).cs := fpCells_mem g3 (by simpa using hb)
          refine ⟨?_, fun q => ?_⟩
          · rintro rfl
            exact (List.nodup_cons.1 hndS).1 hm
          · exact (ht.hand.mem b q).1 s (by rw [hfps]; simp [hm]))
    (by
      rw [← List.cons_append] at hall'
      exact (List.nodup_append.1 hall').1)
    (fun b hb => by
      have : b ∈ fpCells (G.lt s) 0 (e1.get s).cs ++ H := hperm.mem_iff.2 (List.mem_append_left _ hb)
      rw [List.mem_append] at this
      rcases this with q | q
      · exact .inr (by rw [hfps]; simp [q])
      · exact .inl q)
  refine ⟨_, _, hrun, hI, ⟨fun b q1 q2 => ⟨setRow_other w _ b _ (by rintro rfl; rw [q1] at hbk; simp at hbk), ?_⟩, fun s' hs' => ⟨upd_ne _ _ (by omega), fun j' => by rw [show (G.cells s (setFrom (G.vs s) j vs) (fun q => if j ≤ q ∧ q < j + cs.length then Ls (q - j) else G.lt s q) H).lt s' = G.lt s' from upd_ne _ _ (by omega)]⟩, fun b t q1 q2 q3 => ?out⟩, by simp, ⟨rfl, rfl, rfl⟩⟩
  case out =>
    have hbs : b ≠ G.bk s := by
      rintro rfl
      rw [q1] at hbk
      simp only [Option.some.injEq] at hbk
      subst hbk
      rw [get_out (by omega)] at hsh1
      simp at hsh1
    have hbH' : b ∉ H := fun q => by have := ht.hand.owner hb.inv ht.ext b q t q1; omega
    exact ⟨setRow_other w _ b _ hbs, by simp [Gh.cells, hbH', q1]⟩
  have : b ∉ H := fun q => (ht.hand.mem b q).2.1 q1
  simp [Gh.cells, this, q1]

end ops

end Go.Mach
