/- The machine, part h: cells on their way into rows and variables. No condition: lemmas. -/
import Derived.Test.YtcdkpfcfcjnooaaMg
namespace Go.Mach
set_option linter.unusedVariables false

/-- What an operation has in hand: blocks that nobody has, taken since a state. -/
structure Hand (w : World) (e0 : Env) (G0 : Gh) (e : Env) (G : Gh) (H : List Nat) : Prop where
  nodup : H.Nodup
  mem : ∀ b ∈ H, Loose e G b ∧ G.ow b ≠ none ∧ b < w.heap.size ∧ ¬ Loose e0 G0 b

theorem Hand.nil {w : World} {e0 e : Env} {G0 G : Gh} : Hand w e0 G0 e G [] := ⟨List.nodup_nil, by simp⟩

theorem Hand.ext {w : World} {e0 e e' : Env} {G0 G G' : Gh} {H : List Nat} (h : Hand w e0 G0 e G H) (x : Ext w e G e' G') : Hand w e0 G0 e' G' H :=
  ⟨h.nodup, fun b hb => by
    obtain ⟨h1, h2, h3, h4⟩ := h.mem b hb
    obtain ⟨q1, q2⟩ := x.loose b h1 h2
    exact ⟨q1, by rw [q2]; exact h2, h3, h4⟩⟩

/-- Two hands, one behind the other. -/
theorem Hand.append {w : World} {e0 e1 e2 : Env} {G0 G1 G2 : Gh} {H H' : List Nat} (h : Hand w e0 G0 e1 G1 H) (x0 : Ext w e0 G0 e1 G1) (x : Ext w e1 G1 e2 G2) (h' : Hand w e1 G1 e2 G2 H')
    (hl : ∀ b, Loose e0 G0 b → G0.ow b ≠ none → Loose e1 G1 b) (hc : ∀ b ∈ H', G0.ow b ≠ none) : Hand w e0 G0 e2 G2 (H ++ H') := by
  refine ⟨?_, ?_⟩
  · rw [List.nodup_append]
    refine ⟨h.nodup, h'.nodup, fun a ha b hb hab => ?_⟩
    subst hab
    exact (h'.mem a hb).2.2.2 (h.mem a ha).1
  · intro b hb
    rw [List.mem_append] at hb
    rcases hb with hb | hb
    · exact (h.ext x).mem b hb
    · obtain ⟨h1, h2, h3, h4⟩ := h'.mem b hb
      exact ⟨h1, h2, h3, fun q => h4 (hl b q (hc b hb))⟩

theorem Ext.some_before {w : World} {e e' : Env} {G G' : Gh} (x : Ext w e G e' G') {b : Nat} (h : G'.ow b ≠ Option.none) : G.ow b ≠ Option.none := fun q => h (x.none b q)

theorem RepL.rep {dr d : Bool} {w : World} {k : K} {l : List k.T} {L : LT} {v : Value} (h : RepL dr w k.size (Rep d w k) l L v) : Rep false w (.list k) l L [v] := by
  simp only [Rep]
  exact ⟨v, rfl, h.root.weaken⟩

theorem castT_eq {k k' : K} {x : k.T} {y d : k'.T} (h : (⟨k, x⟩ : Sg) = ⟨k', y⟩) : castT ⟨k, x⟩ k' d = y := by rw [h, castT_same]

/-- A cell taken. -/
structure Grabbed (n : Nat) (e0 : Env) (e : Env) (tm : Array Value) (w : World) (G : Gh) (t' : Tr) (k : K) (x : k.T) (d : Bool) (vs : List Value) (e' : Env) (G' : Gh) (H : List Nat) (L : LT) : Prop where
  inv : Inv n e' tm w G'
  tr : TrOk e0 t' e'
  ext : Ext w e G e' G'
  hand : Hand w e G e' G' H
  rep : Rep d w k x L vs
  fp : d = true → H = fp k L
  none : ∀ b ∈ Mach.fp k L, b ∈ H ∨ G'.ow b = none

theorem grab_ok {n : Nat} {e0 e : Env} {tm : Array Value} {w : World} {G : Gh} {t t' : Tr} (h : Inv n e tm w G) (ht : TrOk e0 t e) {c : C} {v : Value} {L : LT} (hc : CellOk e w G c v L) {k : K} {x : k.T} {d : Bool}
    (hg : t.grab c k = some (t', x, d)) : ∃ e' G' H L', Grabbed n e0 e tm w G t' k x d [v] e' G' H L' := by
  cases c with
  | dat k' y =>
    simp only [Tr.grab] at hg
    split at hg
    · rename_i hk
      subst hk
      simp only [Option.some.injEq, Prod.mk.injEq, castT_same] at hg
      obtain ⟨rfl, rfl, rfl⟩ := hg
      obtain ⟨h1, h2⟩ := hc
      refine ⟨e, G, [], L, h, ht, Ext.refl, Hand.nil, ?_, fun hd => (fp_flat hd).symm, fun b hb => .inr (h2 b hb)⟩
      cases hf : k'.flat with
      | true => exact h1.flat hf
      | false => exact h1
    · simp at hg
  | nil =>
    cases k with
    | list k0 =>
      simp only [Tr.grab, Option.some.injEq, Prod.mk.injEq] at hg
      obtain ⟨rfl, rfl, rfl⟩ := hg
      obtain rfl : v = .slice none 0 0 := hc
      refine ⟨e, G, [], .nil, h, ht, Ext.refl, Hand.nil, ?_, fun _ => by simp [fp], by simp [fp]⟩
      simp only [Rep]
      exact ⟨_, rfl, .inl ⟨rfl, rfl, none, 0, rfl, fun _ => rfl⟩⟩
    | _ => simp [Tr.grab] at hg
  | ref s j rv sv p lo hi k1 =>
    simp only [Tr.grab] at hg
    split at hg
    · rename_i rv' sv' d0 k0 l0 hcell
      split at hg
      · rename_i hcond
        obtain ⟨rfl, hp, rfl⟩ := hcond
        cases hcl : castL (getP k0 l0 p).1 (getP k0 l0 p).2 k1 with
        | none => rw [hcl] at hg; simp at hg
        | some l =>
          rw [hcl] at hg
          obtain ⟨hat, hown⟩ := ht.cell hcell (by simp)
          have hl : getP k0 l0 p = ⟨k1, l⟩ := castL_some hcl
          obtain ⟨hsl, hpo, hrep, hsub⟩ := ref_reads h hc hown hp hl
          obtain ⟨ho1, ho2, ho3⟩ := h.ownBlocks hown
          have halive := slot_alive hown
          have hrep' : Rep false w (.list k1) (cut lo hi l) (cutL k1.size lo hi l.length (subL k0 (G.lt s j) p)) [v] := hrep.rep
          cases p with
          | nil =>
            simp only [Option.some.injEq, Prod.mk.injEq, castT_same] at hg
            obtain ⟨rfl, rfl, rfl⟩ := hg
            rw [getP_nil] at hl
            simp only [Sigma.mk.injEq] at hl
            obtain ⟨rfl, hl⟩ := hl
            have hl := eq_of_heq hl
            subst hl
            simp only [subL] at hrep hrep'
            rw [hat]
            have hroot : ∀ b ∈ ownB (.own rv sv' d0 k0 l0) (G.lt s j), Hand w e G (e.set s ((e.get s).kill j)) G [b] := fun b hb => by
              obtain ⟨q1, q2⟩ := h.loose hown hb
              refine ⟨by simp, fun b' hb' => ?_⟩
              simp only [List.mem_singleton] at hb'
              subst hb'
              refine ⟨q2, by rw [q1]; simp, h.lt b' s q1, fun q => q s ?_⟩
              have := fpCells_mem (lt := G.lt s) (i := 0) hown (by simpa using hb)
              simp only [fpS, List.mem_append]
              right
              cases hh : (e.get s).sh with
              | dead => rw [(h.slot s).dead hh] at hown; simp at hown
              | _ => simpa using this
            have hand : ∀ H : List Nat, H.Nodup → (∀ b ∈ H, b ∈ ownB (.own rv sv' d0 k0 l0) (G.lt s j)) → Hand w e G (e.set s ((e.get s).kill j)) G H := fun H hn hH =>
              ⟨hn, fun b hb => (hroot b (hH b hb)).mem b (by simp)⟩
            cases d0 with
            | true =>
              have hsl := cutL_sublist k0 k0.size lo hi l0.length (G.lt s j)
              refine ⟨_, G, fp (.list k0) (cutL k0.size lo hi l0.length (G.lt s j)), _, h.kill s j, ht.put _ halive, Ext.kill s j, hand _ (ho3.sublist hsl) (fun b hb => hsl.subset hb), ?_, fun _ => rfl, fun b hb => .inl hb⟩
              simp only [Rep]
              exact ⟨v, rfl, hrep⟩
            | false =>
              have hin : ∀ b ∈ inner k0 (cutL k0.size lo hi l0.length (G.lt s j)), b ∈ inner k0 (G.lt s j) := by
                intro b hb
                cases hL : G.lt s j with
                | node b0 off cap rows =>
                  rw [hL] at hb
                  simp only [cutL] at hb
                  split at hb
                  · simp [inner] at hb
                  · simp only [inner] at hb ⊢
                    exact (sub_flatMap (cut_sublist _ _ _)).subset hb
                | _ => rw [hL] at hb; simpa [cutL] using hb
              have hrt : ∀ b ∈ (hdOf (cutL k0.size lo hi l0.length (G.lt s j))).toList.map (·.1), b ∈ ownB (.own rv sv' false k0 l0) (G.lt s j) := by
                intro b hb
                simp only [ownB]
                cases hL : G.lt s j with
                | node b0 off cap rows =>
                  rw [hL] at hb
                  simp only [cutL] at hb
                  split at hb
                  · simp [hdOf] at hb
                  · simpa [hdOf] using hb
                | _ => rw [hL] at hb; simpa [cutL] using hb
              refine ⟨_, G, (hdOf (cutL k0.size lo hi l0.length (G.lt s j))).toList.map (·.1), _, h.kill s j, ht.put _ halive, Ext.kill s j, hand _ ?_ hrt, hrep', by simp, fun b hb => ?_⟩
              · cases cutL k0.size lo hi l0.length (G.lt s j) <;> simp [hdOf]
              · rw [fp_list, List.mem_append] at hb
                rcases hb with hb | hb
                · exact .inl hb
                · exact .inr (ho2 rfl b (hin b hb))
          | cons a p =>
            simp only [Option.some.injEq, Prod.mk.injEq, castT_same] at hg
            obtain ⟨rfl, rfl, rfl⟩ := hg
            rw [hat]
            obtain ⟨G', q1, q2, q3, q4, q5⟩ := h.freeze hown
            refine ⟨_, G', [], _, q1, ht.put _ halive, q2, Hand.nil, hrep', by simp, fun b hb => .inr (q3 b ?_)⟩
            have h1 := (cutL_sublist k1 k1.size lo hi l.length _).subset hb
            have h2 := subL_inner (a :: p) (by simp) k0 l0 (G.lt s j) hpo b
            rw [hl] at h2
            exact h2 h1
      · simp at hg
    · simp at hg
  | dead => simp [Tr.grab] at hg
  | own _ _ _ _ _ => simp [Tr.grab] at hg
  | bptr _ _ _ => simp [Tr.grab] at hg
  | aptr _ _ _ _ _ _ _ _ => simp [Tr.grab] at hg
  | pim _ _ => simp [Tr.grab] at hg
  | fn _ _ => simp [Tr.grab] at hg

theorem CellsOk.ext {w : World} {e e' : Env} {G G' : Gh} {cs : List C} {vs : List Value} {Ls : Nat → LT} (h : CellsOk e w G cs vs Ls) (x : Ext w e G e' G') (ho : ∀ c ∈ cs, c.isOwn = false) : CellsOk e' w G' cs vs Ls :=
  ⟨h.len, fun j c v hc hv => x.cell c v _ (ho c (List.mem_of_getElem? hc)) (h.cell j c v hc hv)⟩

theorem CellsOk.take {w : World} {e : Env} {G : Gh} {cs : List C} {vs : List Value} {Ls : Nat → LT} (h : CellsOk e w G cs vs Ls) (m : Nat) : CellsOk e w G (cs.take m) (vs.take m) Ls := by
  refine ⟨by simp [h.len], fun j c v hc hv => ?_⟩
  rw [List.getElem?_take] at hc hv
  split at hc
  · rename_i hj
    rw [if_pos hj] at hv
    exact h.cell j c v hc hv
  · simp at hc

theorem CellsOk.drop {w : World} {e : Env} {G : Gh} {cs : List C} {vs : List Value} {Ls : Nat → LT} (h : CellsOk e w G cs vs Ls) (m : Nat) : CellsOk e w G (cs.drop m) (vs.drop m) (fun j => Ls (m + j)) := by
  refine ⟨by simp [h.len], fun j c v hc hv => ?_⟩
  rw [List.getElem?_drop] at hc hv
  exact h.cell (m + j) c v hc hv

theorem Grabbed.then {n : Nat} {e0 e e1 e2 : Env} {tm : Array Value} {w : World} {G G1 G2 : Gh} {t1 t2 : Tr} {k1 k2 : K} {x1 : k1.T} {x2 : k2.T} {d1 d2 : Bool} {v1 v2 : List Value} {H1 H2 : List Nat} {L1 L2 : LT}
    (h1 : Grabbed n e0 e tm w G t1 k1 x1 d1 v1 e1 G1 H1 L1) (h2 : Grabbed n e0 e1 tm w G1 t2 k2 x2 d2 v2 e2 G2 H2 L2) :
    Grabbed n e0 e tm w G t2 (.pair k1 k2) (x1, x2) (d1 && d2) (v1 ++ v2) e2 G2 (H1 ++ H2) (.pair L1 L2) where
  inv := h2.inv
  tr := h2.tr
  ext := h1.ext.trans h2.ext
  hand := h1.hand.append h1.ext h2.ext h2.hand (fun b hb ho => (h1.ext.loose b hb ho).1) (fun b hb => h1.ext.some_before (h2.ext.some_before (h2.hand.mem b hb).2.1))
  rep := by
    simp only [Rep]
    refine ⟨L1, L2, v1, v2, rfl, rfl, ?_, ?_⟩
    · cases d1 with
      | false => simpa using h1.rep
      | true => cases d2 with
        | true => exact h1.rep
        | false => exact h1.rep.weaken
    · cases d1 with
      | true => simpa using h2.rep
      | false => exact h2.rep.weaken
  fp := by
    intro hd
    simp only [Bool.and_eq_true] at hd
    simp only [Mach.fp]
    rw [h1.fp hd.1, h2.fp hd.2]
  none := by
    intro b hb
    simp only [Mach.fp, List.mem_append] at hb
    rcases hb with hb | hb
    · rcases h1.none b hb with q | q
      · exact .inl (by simp [q])
      · exact .inr (h2.ext.none b q)
    · rcases h2.none b hb with q | q
      · exact .inl (by simp [q])
      · exact .inr q

theorem one_val {vs : List Value} {c : C} (h : vs.length = [c].length) : ∃ v, vs = [v] := by
  match vs, h with
  | [v], _ => exact ⟨v, rfl⟩

theorem pack_ok : ∀ (k : K) {n : Nat} {e0 e : Env} {tm : Array Value} {w : World} {G : Gh} {t t' : Tr} (h : Inv n e tm w G) (ht : TrOk e0 t e) {cs : List C} {vs : List Value} {Ls : Nat → LT} (hc : CellsOk e w G cs vs Ls)
    (ho : ∀ c ∈ cs, c.isOwn = false) {x : k.T} {d : Bool} (hg : t.pack k cs = some (t', x, d)), ∃ e' G' H L', Grabbed n e0 e tm w G t' k x d vs e' G' H L'
  | .pair a b, n, e0, e, tm, w, G, t, t', h, ht, cs, vs, Ls, hc, ho, x, d, hg => by
    simp only [Tr.pack] at hg
    cases h1 : t.pack a (cs.take a.size) with
    | none => rw [h1] at hg; simp at hg
    | some r1 =>
      obtain ⟨t1, x1, d1⟩ := r1
      rw [h1] at hg
      simp only at hg
      cases h2 : t1.pack b (cs.drop a.size) with
      | none => rw [h2] at hg; simp at hg
      | some r2 =>
        obtain ⟨t2, x2, d2⟩ := r2
        rw [h2] at hg
        simp only [Option.some.injEq, Prod.mk.injEq] at hg
        obtain ⟨rfl, rfl, rfl⟩ := hg
        obtain ⟨e1, G1, H1, L1, g1⟩ := pack_ok a h ht (hc.take a.size) (fun c hc => ho c (List.mem_of_mem_take hc)) h1
        obtain ⟨e2, G2, H2, L2, g2⟩ := pack_ok b g1.inv g1.tr ((hc.drop a.size).ext g1.ext (fun c hc => ho c (List.mem_of_mem_drop hc))) (fun c hc => ho c (List.mem_of_mem_drop hc)) h2
        have := g1.then g2
        rw [List.take_append_drop] at this
        exact ⟨e2, G2, _, _, this⟩
  | .int i, n, e0, e, tm, w, G, t, t', h, ht, cs, vs, Ls, hc, ho, x, d, hg => by
    simp only [Tr.pack] at hg
    split at hg
    · obtain ⟨v, rfl⟩ := one_val hc.len
      exact grab_ok h ht (hc.cell 0 _ v rfl rfl) hg
    · simp at hg
  | .bool, n, e0, e, tm, w, G, t, t', h, ht, cs, vs, Ls, hc, ho, x, d, hg => by
    simp only [Tr.pack] at hg
    split at hg
    · obtain ⟨v, rfl⟩ := one_val hc.len
      exact grab_ok h ht (hc.cell 0 _ v rfl rfl) hg
    · simp at hg
  | .str, n, e0, e, tm, w, G, t, t', h, ht, cs, vs, Ls, hc, ho, x, d, hg => by
    simp only [Tr.pack] at hg
    split at hg
    · obtain ⟨v, rfl⟩ := one_val hc.len
      exact grab_ok h ht (hc.cell 0 _ v rfl rfl) hg
    · simp at hg
  | .list k, n, e0, e, tm, w, G, t, t', h, ht, cs, vs, Ls, hc, ho, x, d, hg => by
    simp only [Tr.pack] at hg
    split at hg
    · obtain ⟨v, rfl⟩ := one_val hc.len
      exact grab_ok h ht (hc.cell 0 _ v rfl rfl) hg
    · simp at hg

/-- Rows taken, one by one. -/
structure GrabbedRows (n : Nat) (e0 : Env) (e : Env) (tm : Array Value) (w : World) (G : Gh) (t' : Tr) (k : K) (l : List k.T) (d : Bool) (vss : List (List Value)) (e' : Env) (G' : Gh) (H : List Nat) (rows : List LT) : Prop where
  inv : Inv n e' tm w G'
  tr : TrOk e0 t' e'
  ext : Ext w e G e' G'
  hand : Hand w e G e' G' H
  len : rows.length = l.length
  vlen : vss.length = l.length
  rep : ∀ (i : Nat) x r vs, l[i]? = some x → rows[i]? = some r → vss[i]? = some vs → Rep d w k x r vs
  fp : d = true → H = rows.flatMap (fp k)
  none : ∀ b ∈ rows.flatMap (Mach.fp k), b ∈ H ∨ G'.ow b = none

theorem packs_ok (k : K) : ∀ (css : List (List C)) {n : Nat} {e0 e : Env} {tm : Array Value} {w : World} {G : Gh} {t t' : Tr} (h : Inv n e tm w G) (ht : TrOk e0 t e) {vss : List (List Value)} (hlen : vss.length = css.length)
    (hc : ∀ (i : Nat) cs vs, css[i]? = some cs → vss[i]? = some vs → ∃ Ls, CellsOk e w G cs vs Ls) (ho : ∀ cs ∈ css, ∀ c ∈ cs, c.isOwn = false) {l : List k.T} {d : Bool} (hg : t.packs k css = some (t', l, d)),
    ∃ e' G' H rows, GrabbedRows n e0 e tm w G t' k l d vss e' G' H rows
  | [], n, e0, e, tm, w, G, t, t', h, ht, vss, hlen, hc, ho, l, d, hg => by
    simp only [Tr.packs, Option.some.injEq, Prod.mk.injEq] at hg
    obtain ⟨rfl, rfl, rfl⟩ := hg
    have : vss = [] := List.eq_nil_of_length_eq_zero (by simpa using hlen)
    subst this
    exact ⟨e, G, [], [], h, ht, Ext.refl, Hand.nil, rfl, rfl, by simp, by simp, by simp⟩
  | cs :: css, n, e0, e, tm, w, G, t, t', h, ht, vss, hlen, hc, ho, l, d, hg => by
    match vss, hlen with
    | vs :: vss, hlen =>
      simp only [Tr.packs] at hg
      cases h1 : t.pack k cs with
      | none => rw [h1] at hg; simp at hg
      | some r1 =>
        obtain ⟨t1, x1, d1⟩ := r1
        rw [h1] at hg
        simp only at hg
        cases h2 : t1.packs k css with
        | none => rw [h2] at hg; simp at hg
        | some r2 =>
          obtain ⟨t2, xs, d2⟩ := r2
          rw [h2] at hg
          simp only [Option.some.injEq, Prod.mk.injEq] at hg
          obtain ⟨rfl, rfl, rfl⟩ := hg
          obtain ⟨Ls, hcs⟩ := hc 0 cs vs rfl rfl
          obtain ⟨e1, G1, H1, L1, g1⟩ := pack_ok k h ht hcs (ho cs (by simp)) h1
          obtain ⟨e2, G2, H2, rows, g2⟩ := packs_ok k css g1.inv g1.tr (by simpa using hlen) (fun i cs' vs' a b => by
            obtain ⟨Ls, q⟩ := hc (i + 1) cs' vs' (by simpa using a) (by simpa using b)
            exact ⟨Ls, q.ext g1.ext (ho cs' (by simp [List.mem_of_getElem? a]))⟩) (fun cs' hcs' => ho cs' (by simp [hcs'])) h2
          refine ⟨e2, G2, H1 ++ H2, L1 :: rows, g2.inv, g2.tr, g1.ext.trans g2.ext, ?_, by simp [g2.len], by simp [g2.vlen], ?_, ?_, ?_⟩
          · exact g1.hand.append g1.ext g2.ext g2.hand (fun b hb ho => (g1.ext.loose b hb ho).1) (fun b hb => g1.ext.some_before (g2.ext.some_before (g2.hand.mem b hb).2.1))
          · intro i x r vs' a b c
            cases i with
            | zero =>
              simp only [List.getElem?_cons_zero, Option.some.injEq] at a b c
              subst a b c
              have := g1.rep
              cases d1 with
              | false => simpa using this
              | true => cases d2 with
                | true => exact this
                | false => exact this.weaken
            | succ i =>
              have := g2.rep i x r vs' (by simpa using a) (by simpa using b) (by simpa using c)
              cases d1 with
              | true => simpa using this
              | false => exact this.weaken
          · intro hd
            simp only [Bool.and_eq_true] at hd
            rw [g1.fp hd.1, g2.fp hd.2]
            simp
          · intro b hb
            simp only [List.flatMap_cons, List.mem_append] at hb
            rcases hb with hb | hb
            · rcases g1.none b hb with q | q
              · exact .inl (by simp [q])
              · exact .inr (g2.ext.none b q)
            · rcases g2.none b hb with q | q
              · exact .inl (by simp [q])
              · exact .inr q

theorem fpCells_shift (lt : Nat → LT) : ∀ (cs : List C) (i : Nat), fpCells lt (i + 1) cs = fpCells (fun j => lt (j + 1)) i cs
  | [], i => rfl
  | c :: cs, i => by simp only [fpCells]; rw [fpCells_shift lt cs (i + 1)]

/-- A value on its way into a variable. -/
structure Taken (n : Nat) (e0 : Env) (e : Env) (tm : Array Value) (w : World) (G : Gh) (t' : Tr) (cs' : List C) (vs : List Value) (e' : Env) (H : List Nat) (Ls : Nat → LT) : Prop where
  inv : Inv n e' tm w G
  tr : TrOk e0 t' e'
  ext : Ext w e G e' G
  hand : Hand w e G e' G H
  len : vs.length = cs'.length
  new : ∀ (j : Nat) c v, cs'[j]? = some c → vs[j]? = some v → NewOk e' w G w H c v (Ls j)
  fp : fpCells Ls 0 cs' = H

theorem NewOk.ofCell {e : Env} {w : World} {G : Gh} {w' : World} {H : List Nat} {c : C} {v : Value} {L : LT} (h : CellOk e w G c v L) (ho : c.isOwn = false) : NewOk e w G w' H c v L := by
  cases c with
  | own _ _ _ _ _ => simp [C.isOwn] at ho
  | _ => exact h

theorem NewOk.mono {e : Env} {w : World} {G : Gh} {w' : World} {H H' : List Nat} {c : C} {v : Value} {L : LT} (h : NewOk e w G w' H c v L) (hH : ∀ b ∈ H', G.ow b ≠ none) : NewOk e w G w' H' c v L := by
  cases c with
  | own _ _ d k l =>
    obtain ⟨h1, h2⟩ := h
    exact ⟨h1, fun hd b hb => ⟨(h2 hd b hb).1, fun q => hH b q (h2 hd b hb).1⟩⟩
  | _ => exact h

theorem take_ok (vars : List Nat) : ∀ (cs : List C) {n : Nat} {e0 e : Env} {tm : Array Value} {w : World} {G : Gh} {t : Tr} (h : Inv n e tm w G) (ht : TrOk e0 t e) {vs : List Value} {Ls : Nat → LT} (hc : CellsOk e w G cs vs Ls)
    (ho : ∀ c ∈ cs, c.isOwn = false), ∃ e' H Ls', Taken n e0 e tm w G (t.take vars cs).1 (t.take vars cs).2 vs e' H Ls'
  | [], n, e0, e, tm, w, G, t, h, ht, vs, Ls, hc, ho => ⟨e, [], Ls, h, ht, Ext.refl, Hand.nil, by simpa [Tr.take] using hc.len, by simp [Tr.take], by simp [Tr.take, fpCells]⟩
  | c :: r, n, e0, e, tm, w, G, t, h, ht, vs, Ls, hc, ho => by
    match vs, hc with
    | [], hc => exact absurd hc.len (by simp)
    | v :: vs, hc =>
      have hcr : CellsOk e w G r vs (fun j => Ls (1 + j)) := by simpa using hc.drop 1
      have hor : ∀ c ∈ r, c.isOwn = false := fun c hc => ho c (by simp [hc])
      have hco : c.isOwn = false := ho c (by simp)
      have hc0 : CellOk e w G c v (Ls 0) := hc.cell 0 c v rfl rfl
      -- the cell stays
      have stays : ∀ q, (t.take vars (c :: r)) = q → q = ((t.take vars r).1, c :: (t.take vars r).2) → ∃ e' H Ls', Taken n e0 e tm w G q.1 q.2 (v :: vs) e' H Ls' := by
        rintro _ _ rfl
        obtain ⟨e', H, Ls', g⟩ := take_ok vars r h ht hcr hor
        refine ⟨e', H, fun j => match j with | 0 => Ls 0 | j + 1 => Ls' j, g.inv, g.tr, g.ext, g.hand, by simp [g.len], fun j c' v' a b => ?_, ?_⟩
        · cases j with
          | zero =>
            simp only [List.getElem?_cons_zero, Option.some.injEq] at a b
            subst a b
            exact NewOk.ofCell (g.ext.cell _ _ _ hco hc0) hco
          | succ j => exact g.new j c' v' (by simpa using a) (by simpa using b)
        · simp only [fpCells, noOwn_ownB hco, List.nil_append]
          rw [fpCells_shift]
          exact g.fp
      cases c with
      | ref s j rv sv p lo hi k =>
        cases p with
        | cons a p => exact stays _ rfl (by simp [Tr.take])
        | nil =>
          cases hv : vars.contains s with
          | true => exact stays _ rfl (by simp only [Tr.take, hv])
          | false =>
            cases hcell : (t.at s).cs.getD j .dead with
            | own rv' sv' d k' l =>
              by_cases hrv : rv = rv'
              · subst hrv
                obtain ⟨hat, hown⟩ := ht.cell hcell (by simp)
                obtain ⟨m, hd, ⟨_, q2, q3, q4⟩, q5⟩ := hc0.refFits hown (.inl rfl)
                rw [getP_nil] at q2 q3
                simp only at q2 q3
                subst q2
                subst q3
                simp only [subL] at q4
                rw [← q4] at q5
                obtain ⟨u, hu, hcl⟩ := h.val hown
                have hrep := hcl.1.cut q5
                obtain ⟨ho1, ho2, ho3⟩ := h.ownBlocks hown
                have halive := slot_alive hown
                have htk : t.take vars (.ref s j rv sv [] lo hi k' :: r) = (((t.put s ((t.at s).kill j)).take vars r).1, .own 0 0 d k' (cut lo hi l) :: ((t.put s ((t.at s).kill j)).take vars r).2) := by
                  simp only [Tr.take, hv, hcell, if_true]
                rw [htk, hat]
                have x1 := Ext.kill (w := w) (e := e) (G := G) s j
                obtain ⟨e', H, Ls', g⟩ := take_ok vars r (h.kill s j) (ht.put ((e.get s).kill j) halive) (hcr.ext x1 hor) hor
                have hsubl : (ownB (.own 0 0 d k' (cut lo hi l)) (cutL k'.size lo hi l.length (G.lt s j))).Sublist (ownB (.own rv sv' d k' l) (G.lt s j)) := by
                  cases d with
                  | true => exact cutL_sublist k' k'.size lo hi l.length (G.lt s j)
                  | false =>
                    simp only [ownB]
                    cases hL : G.lt s j with
                    | node b0 off cap rows =>
                      simp only [cutL]
                      split <;> simp [hdOf]
                    | _ => simp [cutL]
                have hand1 : Hand w e G (e.set s ((e.get s).kill j)) G (ownB (.own 0 0 d k' (cut lo hi l)) (cutL k'.size lo hi l.length (G.lt s j))) := by
                  refine ⟨ho3.sublist hsubl, fun b hb => ?_⟩
                  have hb := hsubl.subset hb
                  obtain ⟨z1, z2⟩ := h.loose hown hb
                  refine ⟨z2, by rw [z1]; simp, h.lt b s z1, fun q => q s ?_⟩
                  have := fpCells_mem (lt := G.lt s) (i := 0) hown (by simpa using hb)
                  simp only [fpS, List.mem_append]
                  right
                  cases hh : (e.get s).sh with
                  | dead => rw [(h.slot s).dead hh] at hown; simp at hown
                  | _ => simpa using this
                have hand := hand1.append x1 g.ext g.hand (fun b hb ho => (x1.loose b hb ho).1) (fun b hb => (g.hand.mem b hb).2.1)
                have hHn : ∀ b ∈ ownB (.own 0 0 d k' (cut lo hi l)) (cutL k'.size lo hi l.length (G.lt s j)) ++ H, G.ow b ≠ none := fun b hb => (hand.mem b hb).2.1
                refine ⟨e', _, fun j' => match j' with | 0 => cutL k'.size lo hi l.length (G.lt s j) | j' + 1 => Ls' j', g.inv, g.tr, x1.trans g.ext, hand, by simp [g.len], fun j' c' v' a b => ?_, ?_⟩
                · cases j' with
                  | zero =>
                    simp only [List.getElem?_cons_zero, Option.some.injEq] at a b
                    subst a b
                    refine ⟨hrep, fun hd b hb => ?_⟩
                    have hin : b ∈ inner k' (G.lt s j) := by
                      cases hL : G.lt s j with
                      | node b0 off cap rows =>
                        rw [hL] at hb
                        simp only [cutL] at hb
                        split at hb
                        · simp [inner] at hb
                        · simp only [inner] at hb ⊢
                          exact (sub_flatMap (cut_sublist _ _ _)).subset hb
                      | _ => rw [hL] at hb; simpa [cutL] using hb
                    have := ho2 hd b hin
                    exact ⟨this, fun q => hHn b q this⟩
                  | succ j' => exact (g.new j' c' v' (by simpa using a) (by simpa using b)).mono hHn
                · simp only [fpCells]
                  rw [fpCells_shift, g.fp]
              · exact stays _ rfl (by simp only [Tr.take, hv, hcell, if_neg hrv])
            | dead => exact stays _ rfl (by simp only [Tr.take, hv, hcell])
            | nil => exact stays _ rfl (by simp only [Tr.take, hv, hcell])
            | dat _ _ => exact stays _ rfl (by simp only [Tr.take, hv, hcell])
            | ref _ _ _ _ _ _ _ _ => exact stays _ rfl (by simp only [Tr.take, hv, hcell])
            | bptr _ _ _ => exact stays _ rfl (by simp only [Tr.take, hv, hcell])
            | aptr _ _ _ _ _ _ _ _ => exact stays _ rfl (by simp only [Tr.take, hv, hcell])
            | pim _ _ => exact stays _ rfl (by simp only [Tr.take, hv, hcell])
            | fn _ _ => exact stays _ rfl (by simp only [Tr.take, hv, hcell])
      | dead => exact stays _ rfl (by simp only [Tr.take])
      | nil => exact stays _ rfl (by simp only [Tr.take])
      | dat _ _ => exact stays _ rfl (by simp only [Tr.take])
      | own _ _ _ _ _ => simp [C.isOwn] at hco
      | bptr _ _ _ => exact stays _ rfl (by simp only [Tr.take])
      | aptr _ _ _ _ _ _ _ _ => exact stays _ rfl (by simp only [Tr.take])
      | pim _ _ => exact stays _ rfl (by simp only [Tr.take])
      | fn _ _ => exact stays _ rfl (by simp only [Tr.take])

end Go.Mach
