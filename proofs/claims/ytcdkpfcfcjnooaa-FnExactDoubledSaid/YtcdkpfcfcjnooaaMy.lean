/- The machine, part y: append as an operation. No condition: lemmas. -/
import Derived.Test.YtcdkpfcfcjnooaaMx
namespace Go.Mach
set_option linter.unusedVariables false
set_option linter.unusedSimpArgs false

theorem src_of_repl {P : Program} {w : World} {k : K} {ys : List k.T} {L : LT} {vy : Value} {dr d : Bool} (h : RepL dr w k.size (Rep d w k) ys L vy) : ∃ cells, Src P w k ys d vy cells (rowsOf L) := by
  obtain ⟨base, cap, cells, rfl, h1, h2, h3, h4, h5, h6⟩ := row_cells (P := P) h
  refine ⟨cells, fun w2 => rfl, h2, h1, h3, ?_, ?_⟩
  · cases L with
    | node b off cap' rows => exact (h5 _ _ _ _ rfl).1
    | _ =>
      rcases h with ⟨_, rfl, _⟩ | ⟨_, _, _, _, q, _⟩
      · rfl
      · simp at q
  · cases L with
    | node b off cap' rows => exact (h5 _ _ _ _ rfl).2
    | _ => intro i y r _ hr; simp [rowsOf] at hr

theorem rowsOf_there {w : World} {k : K} {ys : List k.T} {L : LT} {vy : Value} {dr d : Bool} (h : RepL dr w k.size (Rep d w k) ys L vy) : ∀ b ∈ (rowsOf L).flatMap (fp k), w.heap[b]? ≠ none := by
  intro b hb
  refine h.there b ?_
  rw [fp_list, inner_rows]
  exact List.mem_append_right _ hb

theorem rowsOf_cutL (k : K) (sz : Nat) (lo hi : Option Nat) (m : Nat) (L : LT) : ∀ b ∈ (rowsOf (cutL sz lo hi m L)).flatMap (fp k), b ∈ (rowsOf L).flatMap (fp k) := by
  intro b hb
  cases L with
  | node b' off cap rows =>
    simp only [cutL] at hb
    split at hb
    · simp [rowsOf] at hb
    · simp only [rowsOf] at hb ⊢
      exact (sub_flatMap (cut_sublist _ _ _)).subset hb
  | _ => simp [cutL, rowsOf] at hb

section ops
variable {P : Program} {n : Nat} {e : Env} {a : Act} {w : World} {G : Gh} {get : Nat → Slot} {o : Oper} {x : Ctx} {ws : Writes}

/-- What is appended, at hand. -/
structure SrcAt (P : Program) (n : Nat) (e0 e : Env) (tm : Array Value) (w : World) (G : Gh) (t' : Tr) (k : K) (ys : List k.T) (d : Bool) (vy : Value) (e' : Env) (G' : Gh) (H : List Nat) (rows : List LT) (cells : List Value) : Prop where
  inv : Inv n e' tm w G'
  tr : TrOk e0 t' e'
  ext : Ext w e G e' G'
  hand : Hand w e G e' G' H
  src : Src P w k ys d vy cells rows
  fpy : d = true → H = rows.flatMap (fp k)
  there : ∀ b ∈ rows.flatMap (fp k), w.heap[b]? ≠ none
  free : ∀ b ∈ rows.flatMap (fp k), b ∈ H ∨ G'.ow b = none

theorem rep_list {d : Bool} {w : World} {k : K} {l : List k.T} {L : LT} {v : Value} (h : Rep d w (.list k) l L [v]) : RepL d w k.size (Rep d w k) l L v := by
  simp only [Rep] at h
  obtain ⟨u, hu, h⟩ := h
  simp only [List.cons.injEq, and_true] at hu
  subst hu
  exact h

theorem src_ok {vars : List Nat} {e0 : Env} {tm : Array Value} {t t' : Tr} {k : K} {y : C} {vy : Value} {Ly : LT} {ys : List k.T} {d : Bool} (h : Inv n e tm w G) (ht : TrOk e0 t e) (hc : CellOk e w G y vy Ly) (hs : srcC vars t k y = some (t', ys, d)) :
    ∃ e' G' H rows cells, SrcAt P n e0 e tm w G t' k ys d vy e' G' H rows cells := by
  -- flat data, read where they lie
  have flatOk : ∀ {t1 : Tr} {d1 : Bool}, k.flat = true → t.grab y (.list k) = some (t1, ys, d1) → ∃ e' G' H rows cells, SrcAt P n e0 e tm w G t k ys true vy e' G' H rows cells := by
    intro t1 d1 hf hg
    obtain ⟨e', G', H, L, g⟩ := grab_ok h ht hc hg
    obtain ⟨cells, hsrc⟩ := src_of_repl (P := P) (rep_list g.rep)
    refine ⟨e, G, [], rowsOf L, cells, h, ht, Ext.refl, Hand.nil, ⟨hsrc.lenOf, hsrc.first, hsrc.len, hsrc.one, hsrc.rlen, fun i y r hy hr => ?_⟩, fun _ => (flat_none hf _).symm, by rw [flat_none hf]; simp, by rw [flat_none hf]; simp⟩
    obtain ⟨vs, q1, q2⟩ := hsrc.rep i y r hy hr
    exact ⟨vs, q1, q2.flat hf⟩
  have grabOk : ∀ {t1 : Tr} {d1 : Bool}, t.grab y (.list k) = some (t1, ys, d1) → ∃ e' G' H rows cells, SrcAt P n e0 e tm w G t1 k ys d1 vy e' G' H rows cells := by
    intro t1 d1 hg
    obtain ⟨e', G', H, L, g⟩ := grab_ok h ht hc hg
    have hrl := rep_list g.rep
    obtain ⟨cells, hsrc⟩ := src_of_repl (P := P) hrl
    have hsub : ∀ b ∈ (rowsOf L).flatMap (fp k), b ∈ fp (.list k) L := fun b hb => by rw [fp_list, inner_rows]; exact List.mem_append_right _ hb
    cases d1 with
    | false => exact ⟨e', G', H, rowsOf L, cells, g.inv, g.tr, g.ext, g.hand, hsrc, by simp, rowsOf_there hrl, fun b hb => g.none b (hsub b hb)⟩
    | true =>
      have hH := g.fp rfl
      have hnd := g.hand.nodup
      rw [hH, fp_list, inner_rows] at hnd
      refine ⟨e', G', (rowsOf L).flatMap (fp k), rowsOf L, cells, g.inv, g.tr, g.ext, ⟨(List.nodup_append.1 hnd).2.1, fun b hb => g.hand.mem b ?_⟩, hsrc, fun _ => rfl, rowsOf_there hrl, fun b hb => .inl hb⟩
      rw [hH]
      exact hsub b hb
  have strOk : ∀ s : List UInt8, y = .dat .str s → srcC vars t k (.dat .str s) = some (t', ys, d) → ∃ e' G' H rows cells, SrcAt P n e0 e tm w G t' k ys d vy e' G' H rows cells := by
    intro s hy hq
    clear flatOk grabOk hs
    subst hy
    simp only [srcC] at hq
    split at hq
    · simp only [Option.some.injEq, Prod.mk.injEq] at hq
      obtain ⟨rfl, rfl, rfl⟩ := hq
      have hv := dat_str hc
      subst hv
      refine ⟨e, G, [], List.replicate s.length .leaf, s.map fun b => Value.int .u8 (b.toNat : Nat), h, ht, Ext.refl, Hand.nil, ⟨fun w2 => ?_, fun w2 _ => ?_, ?_, ?_, by simp, fun i y r hy hr => ?_⟩, fun _ => (flat_none rfl _).symm, by rw [flat_none rfl]; simp, by rw [flat_none rfl]; simp⟩
      · simp [Builtin.lenOf, Sem.run_pure, bytes_size]
      · simp only [Builtin.firstCells, Sem.run_pure, K.size, List.length_map]
        congr 1
        show Array.map _ ((⟨⟨s⟩⟩ : ByteArray).extract 0 s.length).data = _
        have : (⟨⟨s⟩⟩ : ByteArray).extract 0 s.length = ⟨⟨s⟩⟩ := by
          have := ByteArray.extract_mk s 0 s.length
          rw [this]
          simp
        rw [this]
        apply Array.ext'
        simp
      · simp [K.size]
      · intro u hu
        obtain ⟨b, _, rfl⟩ := List.mem_map.1 hu
        rfl
      · rw [List.getElem?_map] at hy
        cases hb : s[i]? with
        | none => rw [hb] at hy; simp at hy
        | some b =>
          rw [hb] at hy
          simp only [Option.map_some, Option.some.injEq] at hy
          subst hy
          refine ⟨[.int .u8 (b.toNat : Nat)], fun c u hu => ?_, by simp [Rep]⟩
          match c, hu with
          | 0, hu =>
            simp only [List.getElem?_cons_zero, Option.some.injEq] at hu
            subst hu
            simp [K.size, hb]
    · simp at hq
  cases y with
  | ref s j rv sv p lo hi k1 =>
    simp only [srcC] at hs
    split at hs
    · simp at hs
    · rename_i t1 l1 d1 hg
      split at hs
      · rename_i hf
        simp only [Option.some.injEq, Prod.mk.injEq] at hs
        obtain ⟨rfl, rfl, rfl⟩ := hs
        exact flatOk hf hg
      · split at hs
        · split at hs
          · rename_i rv' sv' dd k0 l0 hcell
            simp only [Option.some.injEq, Prod.mk.injEq] at hs
            obtain ⟨rfl, rfl, rfl⟩ := hs
            obtain ⟨s1, s2⟩ := ht.cell hcell (by simp)
            -- what the grab read
            simp only [Tr.grab, hcell] at hg
            split at hg
            · rename_i hq
              obtain ⟨q1, q2, q3⟩ := hq
              subst q1
              simp only [K.list.injEq] at q3
              subst q3
              have hread : ∃ l2, getP k0 l0 p = ⟨k1, l2⟩ ∧ l1 = cut lo hi l2 := by
                split at hg
                · simp at hg
                · rename_i l2 hl2
                  refine ⟨l2, castL_some hl2, ?_⟩
                  split at hg <;> (simp only [Option.some.injEq, Prod.mk.injEq, castT_same] at hg; exact hg.2.1.symm)
              obtain ⟨l2, r1, rfl⟩ := hread
              obtain ⟨r2, r3, r4, r5⟩ := ref_reads h hc s2 q2 r1
              obtain ⟨G', f1, f2, f3, f4, f5⟩ := h.freeze s2
              obtain ⟨cells, hsrc⟩ := src_of_repl (P := P) r4.weaken
              refine ⟨_, G', [], _, cells, f1, ?_, f2, Hand.nil, hsrc, by simp, rowsOf_there r4, fun b hb => .inr (f3 b ?_)⟩
              · have := ht.put { e.get s with cs := (e.get s).cs.set j (.own rv sv' false k0 l0) } (slot_alive s2)
                rw [s1]
                exact this
              · have hb := rowsOf_cutL _ _ _ _ _ _ b hb
                by_cases hp : p = []
                · subst hp
                  rw [getP_nil] at r1
                  simp only [Sigma.mk.injEq] at r1
                  obtain ⟨rfl, _⟩ := r1
                  rw [inner_rows]
                  exact hb
                · refine subL_inner p hp k0 l0 _ r3 b ?_
                  rw [r1, fp_list, inner_rows]
                  exact List.mem_append_right _ hb
            · simp at hg
          · simp at hs
        · simp only [Option.some.injEq, Prod.mk.injEq] at hs
          obtain ⟨rfl, rfl, rfl⟩ := hs
          exact grabOk hg
  | dat k' z =>
    cases k' with
    | str => exact strOk z rfl hs
    | _ =>
      simp only [srcC] at hs
      split at hs
      · simp at hs
      · rename_i t1 l1 d1 hg
        simp only [Option.some.injEq, Prod.mk.injEq] at hs
        obtain ⟨rfl, rfl, rfl⟩ := hs
        have ht1 : t1 = t := by
          simp only [Tr.grab] at hg
          split at hg
          · simp only [Option.some.injEq, Prod.mk.injEq] at hg; exact hg.1.symm
          · simp at hg
        subst ht1
        cases hf : k.flat with
        | true => simpa [hf] using flatOk hf hg
        | false => simpa [hf] using grabOk hg
  | nil =>
    simp only [srcC] at hs
    split at hs
    · simp at hs
    · rename_i t1 l1 d1 hg
      simp only [Option.some.injEq, Prod.mk.injEq] at hs
      obtain ⟨rfl, rfl, rfl⟩ := hs
      have ht1 : t1 = t := by
        simp only [Tr.grab] at hg
        simp only [Option.some.injEq, Prod.mk.injEq] at hg; exact hg.1.symm
      subst ht1
      cases hf : k.flat with
      | true => simpa [hf] using flatOk hf hg
      | false => simpa [hf] using grabOk hg
  | _ => simp [srcC, Tr.grab] at hs

/-- The list that is appended to, at hand. -/
theorem dst_ok {e0 : Env} {tm : Array Value} {t : Tr} {s j rv sv rv' sv' : Nat} {lo hi : Option Nat} {k1 k0 : K} {deep : Bool} {l0 : List k0.T} {v : Value} {L : LT} (h : Inv n e tm w G) (ht : TrOk e0 t e) (hc : CellOk e w G (.ref s j rv sv [] lo hi k1) v L)
    (hcell : (t.at s).cs.getD j .dead = .own rv' sv' deep k0 l0) (hrv : rv = rv') (hk : k1 = k0) :
    ∃ e' H L', Inv n e' tm w G ∧ TrOk e0 (t.put s ((t.at s).kill j)) e' ∧ Ext w e G e' G ∧ Hand w e G e' G H ∧ RepL true w k0.size (Rep deep w k0) (cut lo hi l0) L' v ∧ H = ownB (.own 0 0 deep k0 (cut lo hi l0)) L' ∧
      (deep = false → ∀ b ∈ inner k0 L', G.ow b = none) := by
  have hco : CellsOk e w G [.ref s j rv sv [] lo hi k1] [v] (fun _ => L) := (one_ok hc rfl).cells
  obtain ⟨e', H, Ls, ht'⟩ := take_ok [] [.ref s j rv sv [] lo hi k1] h ht hco (by simp [C.isOwn])
  have htk : t.take [] [.ref s j rv sv [] lo hi k1] = (t.put s ((t.at s).kill j), [.own 0 0 deep k0 (cut lo hi l0)]) := by
    simp only [Tr.take, hcell, hrv]
    simp
  rw [htk] at ht'
  obtain ⟨n1, n2⟩ := ht'.new 0 (.own 0 0 deep k0 (cut lo hi l0)) v rfl rfl
  have hf := ht'.fp
  simp only [fpCells, List.append_nil] at hf
  exact ⟨e', H, Ls 0, ht'.inv, ht'.tr, ht'.ext, ht'.hand, n1, hf.symm, fun hd b hb => (n2 hd b hb).1⟩

end ops

end Go.Mach
