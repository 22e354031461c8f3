/- The machine, part x: append, done. No condition: lemmas. -/
import Derived.Test.YtcdkpfcfcjnooaaMw
namespace Go.Mach
set_option linter.unusedVariables false
set_option linter.unusedSimpArgs false

theorem inner_rows (k : K) (L : LT) : inner k L = (rowsOf L).flatMap (fp k) := by cases L <;> rfl

section ops
variable {P : Program} {n : Nat} {e : Env} {a : Act} {w : World} {G : Gh} {get : Nat → Slot} {o : Oper} {x : Ctx} {ws : Writes}

/-- What an append has at its hand. -/
structure Both (w : World) (e : Env) (G : Gh) (k : K) (l : List k.T) (L : LT) (deep : Bool) (v : Value) (Hx : List Nat) (rows : List LT) (d : Bool) (Hy : List Nat) : Prop where
  repl : RepL true w k.size (Rep deep w k) l L v
  hx : Hx = ownB (.own 0 0 deep k l) L
  inn : deep = false → ∀ b ∈ inner k L, G.ow b = none
  nodup : (Hx ++ Hy).Nodup
  mem : ∀ b ∈ Hx ++ Hy, Loose e G b ∧ G.ow b ≠ none ∧ b < w.heap.size
  owner : ∀ b ∈ Hx ++ Hy, ∀ t, G.ow b = some t → t < e.length
  fpy : d = true → Hy = rows.flatMap (fp k)
  there : ∀ b ∈ rows.flatMap (fp k), w.heap[b]? ≠ none
  free : ∀ b ∈ rows.flatMap (fp k), b ∈ Hy ∨ G.ow b = none

theorem Both.rowsx {k : K} {l : List k.T} {L : LT} {deep : Bool} {v : Value} {Hx : List Nat} {rows : List LT} {d : Bool} {Hy : List Nat} (h : Both w e G k l L deep v Hx rows d Hy) :
    ∀ b ∈ (rowsOf L).flatMap (fp k), (deep = true ∧ b ∈ Hx) ∨ G.ow b = none := by
  intro b hb
  cases hd : deep with
  | true =>
    left
    refine ⟨rfl, ?_⟩
    rw [h.hx, hd]
    simp only [ownB, fp_list]
    exact List.mem_append_right _ (by rw [inner_rows]; exact hb)
  | false => exact .inr (h.inn hd b (by rw [inner_rows]; exact hb))

theorem append_fin {e0 : Env} {G0 : Gh} {t : Tr} {w' : World} (h : Inv n e a.tmps w G) (ht : TrOk e0 t e) (hst : Held n e0.length w w G0 G) {k : K} {l ys : List k.T} {L : LT} {deep : Bool} {v : Value} {Hx : List Nat} {rows : List LT} {d : Bool} {Hy : List Nat}
    (hB : Both w e G k l L deep v Hx rows d Hy) {b off cap : Nat} {v' : Value}
    (hrep : RepL true w' k.size (Rep (deep && d) w' k) (l ++ ys) (.node b off cap (rowsOf L ++ rows)) v') (hsz : w.heap.size ≤ w'.heap.size) (hsame : ∀ b', b' ≠ b → w.heap[b']? ≠ none → w'.heap[b']? = w.heap[b']?)
    (hb : Loose e G b ∧ (G.ow b ≠ none ∨ w.heap[b]? = none) ∧ b < w'.heap.size) (hbo : ∀ t, G.ow b = some t → t < e.length) (hbr : b ∉ (rowsOf L ++ rows).flatMap (fp k)) {dd : Nat} (hd : t.d = some dd) (hdn : dd < n) (henv : SameEnv w w' := by exact ⟨rfl, rfl, rfl⟩) :
    ∃ G', Post n (e0.puts (t.lay (some dd) (.one, [.own 0 0 (deep && d) k (l ++ ys)])).ws) a w G0 (a.put (some dd) v') w' G' := by
  cases hq : (deep && d) with
  | true =>
    simp only [Bool.and_eq_true] at hq
    obtain ⟨q1, q2⟩ := hq
    subst q1; subst q2
    have hy := hB.fpy rfl
    have hx : Hx = fp (.list k) L := hB.hx
    have hsubx : ∀ b' ∈ (rowsOf L).flatMap (fp k), b' ∈ Hx := fun b' hb' => by rw [hx, fp_list, inner_rows]; exact List.mem_append_right _ hb'
    have hnd := hB.nodup
    rw [List.nodup_append] at hnd
    obtain ⟨n1, n2, n3⟩ := hnd
    refine lay_new (sh := .one) (u := v') (H := b :: (rowsOf L ++ rows).flatMap (fp k)) (bk := 0) (vs := [v']) (Ls := fun _ => .node b off cap (rowsOf L ++ rows)) h ht hst hsz (fun b' hb' q => hsame b' (fun e => hb' (by simp [e])) q) ?_ ?own rfl ?_ ?_ ?_ (by simp) (by simp) rfl hd hdn
    case own =>
      intro b' hb' t ht'
      simp only [List.mem_cons, List.flatMap_append, List.mem_append] at hb'
      rcases hb' with rfl | hb' | hb'
      · exact hbo t ht'
      · exact hB.owner b' (List.mem_append_left _ (hsubx b' hb')) t ht'
      · exact hB.owner b' (List.mem_append_right _ (by rw [hy]; exact hb')) t ht'
    · intro b' hb'
      simp only [List.mem_cons, List.flatMap_append, List.mem_append] at hb'
      rcases hb' with rfl | hb' | hb'
      · exact hb
      · obtain ⟨m1, m2, m3⟩ := hB.mem b' (List.mem_append_left _ (hsubx b' hb'))
        exact ⟨m1, .inl m2, by omega⟩
      · obtain ⟨m1, m2, m3⟩ := hB.mem b' (List.mem_append_right _ (by rw [hy]; exact hb'))
        exact ⟨m1, .inl m2, by omega⟩
    · intro j c u hc hu
      match j, hc, hu with
      | 0, hc, hu =>
        simp only [List.getElem?_cons_zero, Option.some.injEq] at hc hu
        subst hc; subst hu
        exact ⟨hrep, by simp⟩
    · simp only [boxB, fpCells, ownB, fp, List.nil_append, List.append_nil, List.nodup_cons]
      refine ⟨hbr, ?_⟩
      rw [List.flatMap_append, List.nodup_append]
      refine ⟨?_, by rw [← hy]; exact n2, fun b1 h1 b2 h2 heq => ?_⟩
      · rw [hx, fp_list, inner_rows] at n1
        exact (List.nodup_append.1 n1).2.1
      · exact n3 b1 (hsubx b1 h1) b2 (by rw [hy]; exact h2) heq
    · simp only [boxB, fpCells, ownB, fp, List.nil_append, List.append_nil]
      exact fun b' hb' => hb'
  | false =>
    rw [hq] at hrep
    have hF : ∀ b' ∈ ((rowsOf L ++ rows).flatMap (fp k)).filter (fun b' => (G.ow b').isSome), Loose e G b' := by
      intro b' hb'
      rw [List.mem_filter, List.flatMap_append, List.mem_append] at hb'
      obtain ⟨q1, q2⟩ := hb'
      have hne : G.ow b' ≠ none := by intro q; rw [q] at q2; simp at q2
      rcases q1 with q1 | q1
      · rcases hB.rowsx b' q1 with g | g
        · exact (hB.mem b' (List.mem_append_left _ g.2)).1
        · exact absurd g hne
      · rcases hB.free b' q1 with g | g
        · exact (hB.mem b' (List.mem_append_right _ g)).1
        · exact absurd g hne
    have h' := h.disown hF
    refine lay_new (sh := .one) (u := v') (G := G.disown (((rowsOf L ++ rows).flatMap (fp k)).filter (fun b' => (G.ow b').isSome))) (H := [b]) (bk := 0) (vs := [v']) (Ls := fun _ => .node b off cap (rowsOf L ++ rows)) h' ht (hst.disown ?own) hsz
      (fun b' hb' q => hsame b' (fun e => hb' (by simp [e])) q) ?_ (disown_owner (fun b' hb' t ht' => by simp only [List.mem_singleton] at hb'; subst hb'; exact hbo t ht')) rfl ?_ (by simp [boxB, fpCells, ownB, hdOf]) (by simp [boxB, fpCells, ownB, hdOf]) (by simp) (by simp) rfl hd hdn
    case own =>
      intro b' hb' t ht'
      rw [← ht.length]
      rw [List.mem_filter, List.flatMap_append, List.mem_append] at hb'
      have hne : G.ow b' ≠ none := by rw [ht']; simp
      rcases hb'.1 with q1 | q1
      · rcases hB.rowsx b' q1 with g | g
        · exact hB.owner b' (List.mem_append_left _ g.2) t ht'
        · exact absurd g hne
      · rcases hB.free b' q1 with g | g
        · exact hB.owner b' (List.mem_append_right _ g) t ht'
        · exact absurd g hne
    · intro b' hb'
      simp only [List.mem_singleton] at hb'
      subst hb'
      refine ⟨hb.1, ?_, hb.2.2⟩
      rcases hb.2.1 with q | q
      · left
        simp only [Gh.disown]
        rw [if_neg (fun g => hbr (List.mem_filter.1 g).1)]
        exact q
      · exact .inr q
    · intro j c u hc hu
      match j, hc, hu with
      | 0, hc, hu =>
        simp only [List.getElem?_cons_zero, Option.some.injEq] at hc hu
        subst hc; subst hu
        refine ⟨hrep, fun _ b' hb' => ⟨?_, ?_⟩⟩
        · simp only [inner] at hb'
          simp only [Gh.disown]
          cases q : G.ow b' with
          | none => simp
          | some s => rw [if_pos (List.mem_filter.2 ⟨hb', by rw [q]; rfl⟩)]
        · simp only [inner] at hb'
          simp only [List.mem_singleton]
          rintro rfl
          exact hbr hb'

theorem append_core {e0 : Env} {G0 : Gh} {t : Tr} (h : Inv n e a.tmps w G) (ht : TrOk e0 t e) (hst : Held n e0.length w w G0 G) {k : K} {l ys : List k.T} {L : LT} {deep : Bool} {v vy : Value} {Hx : List Nat} {rows : List LT} {d : Bool} {Hy : List Nat} {cells : List Value}
    (hB : Both w e G k l L deep v Hx rows d Hy) (hS : Src P w k ys d vy cells rows)
    {at0 : Array TypeId} {t0 t1 ty el : TypeId} {d1 : TypeDesc} (h0 : at0[0]? = some t0) (h1 : at0[1]? = some t1) (hu : P.underlying t0 = some (.slice el)) (hu1 : P.underlying t1 = some d1) (hd1 : (∃ e1, d1 = .slice e1) ∨ d1 = .string)
    {i : TypeInfo} (hi : P.info? el = some i) (hik : i.size = k.size) {z : Value} (hz : i.zero = some z) (hzk : z.cells.size = k.size) (hmost : l.length + ys.length ≤ rowMost) (hby : (2 * (l.length + ys.length) + 512) * i.bytes ≤ byteMost)
    {dd : Nat} (hd : t.d = some dd) (hdn : dd < n) :
    ∃ v' w', (Builtin.append_ at0 ty #[v, vy]).run P w = .ok v' w' ∧ ∃ G', Post n (e0.puts (t.lay (some dd) (.one, [.own 0 0 (deep && d) k (l ++ ys)])).ws) a w G0 (a.put (some dd) v') w' G' := by
  obtain ⟨base, cap, olds, rfl, ho1, ho2, ho3, ho4, ho5, ho6⟩ := row_cells (P := P) hB.repl
  by_cases hroom : l.length + ys.length ≤ cap
  · rcases hB.repl with ⟨q1, q2, a0, cap0, q3, q4⟩ | ⟨b, off, cap0, rs, q1, q2, q3, q4, q5, q6, q7⟩
    · -- nothing, and nothing put behind it
      simp only [Value.slice.injEq] at q3
      obtain ⟨rfl, q3, rfl⟩ := q3
      have q4 := q4 rfl
      subst q4
      have hys : ys = [] := List.eq_nil_of_length_eq_zero (by omega)
      subst q1; subst q2; subst hys
      have hcn : cells = [] := List.eq_nil_of_length_eq_zero (by have := hS.len; simpa using this)
      have hr := run_append_in (P := P) (ty := ty) (base := base) (sLen := 0) (sCap := 0) (m := 0) (vy := vy) (cells := []) h0 h1 hu hu1 hd1 hi (hS.lenOf w) (by rw [hik]; have := hS.first w rfl; rw [hcn] at this; exact this) (by omega) (w' := w) (fun a _ => by simp [storeCells, Sem.run_pure]) (fun _ => rfl)
      refine ⟨_, _, hr, ?_⟩
      refine lay_new (sh := .one) (H := []) (bk := 0) (vs := [.slice base 0 0]) (Ls := fun _ => .nil) h ht hst (Nat.le_refl _) (fun b' _ _ => rfl) (by simp) (by simp) rfl ?_ (by cases (deep && d) <;> simp [boxB, fpCells, ownB, fp, hdOf]) (by cases (deep && d) <;> simp [boxB, fpCells, ownB, fp, hdOf]) (by simp) (by simp) rfl hd hdn
      intro j c u hc hu
      match j, hc, hu with
      | 0, hc, hu =>
        simp only [List.getElem?_cons_zero, Option.some.injEq] at hc hu
        subst hc; subst hu
        exact ⟨.inl ⟨rfl, rfl, base, 0, rfl, fun _ => rfl⟩, by simp [inner]⟩
    · -- in place
      simp only [Value.slice.injEq] at q2
      obtain ⟨rfl, _, rfl⟩ := q2
      subst q1
      obtain ⟨cur, tt, fr, g1, g2, g3⟩ := q6 rfl
      have hcl : cells.length = ys.length * k.size := hS.len
      have hmul : l.length * k.size + ys.length * k.size ≤ cap * k.size := by rw [← Nat.add_mul]; exact Nat.mul_le_mul_right _ hroom
      have hfit : off + l.length * k.size + cells.length ≤ cur.size := by omega
      have hbown : b ∈ Hx := by
        rw [hB.hx]
        cases deep with
        | true => simp [ownB, fp]
        | false => simp [ownB, hdOf]
      obtain ⟨m1, m2, m3⟩ := hB.mem b (List.mem_append_left _ hbown)
      have hnd := hB.nodup
      rw [List.nodup_append] at hnd
      have hbr : b ∉ (rowsOf (.node b off cap rs) ++ rows).flatMap (fp k) := by
        rw [List.flatMap_append, List.mem_append]
        rintro (q | q)
        · rcases hB.rowsx b q with g | g
          · have := hnd.1
            rw [hB.hx, g.1] at this
            simp only [ownB, fp, List.nodup_cons] at this
            exact this.1 q
          · exact m2 g
        · rcases hB.free b q with g | g
          · exact hnd.2.2 b hbown b g rfl
          · exact m2 g
      have hw' : ∀ b', b' ≠ b → (w.setRow b (setFrom cur.toList (off + l.length * k.size) cells).toArray).heap[b']? = w.heap[b']? := fun b' hb' => setRow_other w b b' _ hb'
      have hg' := setRow_heap w b cur (setFrom cur.toList (off + l.length * k.size) cells).toArray tt fr g1
      have hrun := run_store_row P b (off + l.length * k.size) tt fr cells 0 cur w g1 (by simpa using hfit) (fun q h1 h2 => by rcases g3 with g3 | g3 <;> omega) hS.one
      simp only [Nat.add_zero] at hrun
      have hr := run_append_in (P := P) (ty := ty) (base := some ⟨b, off, none⟩) (sLen := l.length) (sCap := cap) (m := ys.length) (vy := vy) (cells := cells) h0 h1 hu hu1 hd1 hi (hS.lenOf w) (by rw [hik]; exact hS.first w rfl) hroom
        (w' := w.setRow b (setFrom cur.toList (off + l.length * k.size) cells).toArray) (fun a ha => by
          simp only [Option.some.injEq] at ha
          subst ha
          rw [add_none, hik]
          exact hrun) (by simp)
      refine ⟨_, _, hr, ?_⟩
      refine append_fin h ht hst hB (off := off) (cap := cap) (v' := .slice (some ⟨b, off, none⟩) (l.length + ys.length) cap) ?_ (by simp) (fun b' hb' _ => hw' b' hb') ⟨m1, .inl m2, by simpa using m3⟩ (hB.owner b (List.mem_append_left _ hbown)) hbr hd hdn
      have hcell : ∀ q, (w.setRow b (setFrom cur.toList (off + l.length * k.size) cells).toArray).cell? ⟨b, q, none⟩ = if off + l.length * k.size ≤ q ∧ q < off + l.length * k.size + cells.length then cells[q - (off + l.length * k.size)]? else w.cell? ⟨b, q, none⟩ := by
        intro q
        simp only [World.cell?, hg', g1, Option.isSome_none, Bool.false_eq_true, if_false, List.getElem?_toArray]
        rw [setFrom_get _ _ _ _ (by simpa using hfit)]
        simp
      refine repl_append (P := P) hB.repl hS ho1 ho5 (by simp; intro q _; exact q) (by simp) (fun q u hu => ?_) (by rw [hg']; simp) ⟨_, _, _, hg', by simpa [setFrom_length] using g2, by simpa [setFrom_length] using g3⟩ hroom (fun b' hb' => hw' b' ?_) (fun b' hb' => hw' b' ?_)
      · rw [hcell]
        have hql : q < olds.length + cells.length := by have := (List.getElem?_eq_some_iff.1 hu).1; simpa using this
        by_cases hq : q < olds.length
        · rw [if_neg (by omega)]
          rw [List.getElem?_append_left hq] at hu
          exact ho6 _ _ _ _ rfl q u hu
        · rw [if_pos (by omega)]
          rw [List.getElem?_append_right (by omega)] at hu
          rw [← hu]
          congr 1
          omega
      · rintro rfl; exact hbr (by rw [List.flatMap_append]; exact List.mem_append_left _ hb')
      · rintro rfl; exact hbr (by rw [List.flatMap_append]; exact List.mem_append_right _ hb')
  · -- a new row
    have hge := grownCap_ge w (l.length + ys.length) cap el
    have h63 : ((l.length + ys.length : Nat) : Int) ≤ 9223372036854775807 := by simp only [rowMost] at hmost; omega
    have hb2 : (l.length + ys.length) * i.bytes ≤ 140737488355328 := by
      have : (l.length + ys.length) * i.bytes ≤ (2 * (l.length + ys.length) + 512) * i.bytes := Nat.mul_le_mul_right _ (by omega)
      simp only [byteMost] at hby
      omega
    have hr := run_append_out (P := P) (ty := ty) (base := base) (sLen := l.length) (sCap := cap) (m := ys.length) (vy := vy) (olds := olds) (cells := cells) h0 h1 hu hu1 hd1 hi hz (hS.lenOf w) (by rw [hik]; exact ho2 w.drew rfl) (by rw [hik]; exact hS.first w.drew rfl) hroom h63
      (growslice_fits (by omega) hb2)
    refine ⟨_, _, hr, ?_⟩
    have hnew := heap_alloc_new w.drew (.cells (olds.toArray ++ cells.toArray ++ Builtin.zeroCells z.cells (grownCap w (l.length + ys.length) cap el - (l.length + ys.length))) el)
    have hdr : w.drew.heap = w.heap := rfl
    rw [hdr] at hnew
    have hnone : w.heap[w.heap.size]? = none := by simp
    have hthere : ∀ b ∈ (rowsOf L ++ rows).flatMap (fp k), w.heap[b]? ≠ none := by
      intro b hb
      rw [List.flatMap_append, List.mem_append] at hb
      rcases hb with hb | hb
      · refine hB.repl.there b ?_
        rw [fp_list, inner_rows]
        exact List.mem_append_right _ hb
      · exact hB.there b hb
    have hloose : Loose e G w.heap.size := by
      intro s hs
      have := h.lt _ s ((h.slot s).own _ hs)
      omega
    refine append_fin h ht hst hB (b := w.heap.size) (off := 0) (cap := grownCap w (l.length + ys.length) cap el) ?_ (by simp) (fun b' _ hb' => alloc_same w.drew _ b' hb') ⟨hloose, .inr hnone, by simp⟩ (fun t ht' => (h.fresh ht').elim) (fun q => hthere _ q hnone) hd hdn
    refine repl_append (P := P) hB.repl hS ho1 ho5 (by simp; intro q _; exact q) (by simp) (fun q u hu => ?_) (by rw [hnew]; simp) ⟨_, _, _, hnew, ?_, .inr (by simp)⟩ hge (fun b' hb' => alloc_same w.drew _ b' (hthere b' (by rw [List.flatMap_append]; exact List.mem_append_left _ hb'))) (fun b' hb' => alloc_same w.drew _ b' (hthere b' (by rw [List.flatMap_append]; exact List.mem_append_right _ hb')))
    · simp only [World.cell?, hnew, Option.isSome_none, Bool.false_eq_true, if_false, Nat.zero_add]
      have hql : q < olds.length + cells.length := by have := (List.getElem?_eq_some_iff.1 hu).1; simpa using this
      rw [Array.getElem?_append_left (by simpa using hql)]
      simpa using hu
    · simp only [Array.size_append, List.size_toArray, size_zeroCells, hzk, ho1, hS.len, ← Nat.add_mul, Nat.zero_add]
      exact Nat.mul_le_mul_right _ (by omega)

end ops

end Go.Mach
