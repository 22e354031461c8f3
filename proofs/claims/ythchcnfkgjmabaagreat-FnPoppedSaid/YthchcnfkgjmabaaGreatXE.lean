/- The machine, parts Mx My Mya Mz Na Nb Nc. No condition: definitions and lemmas. -/
import Derived.Test.YthchcnfkgjmabaaGreatXD
/- The machine, part x: append, done. No condition: lemmas. -/
namespace Go.Mach
set_option linter.unusedVariables false
set_option linter.unusedSimpArgs false

theorem inner_rows (k : K) (L : LT) : inner k L = (rowsOf L).flatMap (fp k) := by cases L <;> rfl

section ops
variable {P : Program} {n : Nat} {e : Env} {a : Act} {w : World} {G : Gh} {get : Nat → Slot} {o : Oper} {x : Ctx} {ws : Writes}

/-- What an append has at its hand. -/
structure Both (w : World) (e : Env) (G : Gh) (k : K) (l : List k.T) (L : LT) (deep : Bool) (v : Value) (Hx : List Nat) (rows : List LT) (d : Bool) (Hy : List Nat) : Prop where
  repl : RepL true w k.size (Rep deep w k) l L v
  hx : Hx = ownB (.own 0 0 deep k l) L
  inn : deep = false → ∀ b ∈ inner k L, G.ow b = none
  nodup : (Hx ++ Hy).Nodup
  mem : ∀ b ∈ Hx ++ Hy, Loose e G b ∧ G.ow b ≠ none ∧ b < w.heap.size
  owner : ∀ b ∈ Hx ++ Hy, ∀ t, G.ow b = some t → t < e.length
  fpy : d = true → Hy = rows.flatMap (fp k)
  there : ∀ b ∈ rows.flatMap (fp k), w.heap[b]? ≠ none
  free : ∀ b ∈ rows.flatMap (fp k), b ∈ Hy ∨ G.ow b = none

theorem Both.rowsx {k : K} {l : List k.T} {L : LT} {deep : Bool} {v : Value} {Hx : List Nat} {rows : List LT} {d : Bool} {Hy : List Nat} (h : Both w e G k l L deep v Hx rows d Hy) :
    ∀ b ∈ (rowsOf L).flatMap (fp k), (deep = true ∧ b ∈ Hx) ∨ G.ow b = none := by
  intro b hb
  cases hd : deep with
  | true =>
    left
    refine ⟨rfl, ?_⟩
    rw [h.hx, hd]
    simp only [ownB, fp_list]
    exact List.mem_append_right _ (by rw [inner_rows]; exact hb)
  | false => exact .inr (h.inn hd b (by rw [inner_rows]; exact hb))

theorem append_fin {e0 : Env} {G0 : Gh} {t : Tr} {w' : World} (h : Inv n e a.tmps w G) (ht : TrOk e0 t e) (hst : Held n e0.length w w G0 G) {k : K} {l ys : List k.T} {L : LT} {deep : Bool} {v : Value} {Hx : List Nat} {rows : List LT} {d : Bool} {Hy : List Nat}
    (hB : Both w e G k l L deep v Hx rows d Hy) {b off cap : Nat} {v' : Value}
    (hrep : RepL true w' k.size (Rep (deep && d) w' k) (l ++ ys) (.node b off cap (rowsOf L ++ rows)) v') (hsz : w.heap.size ≤ w'.heap.size) (hsame : ∀ b', b' ≠ b → w.heap[b']? ≠ none → w'.heap[b']? = w.heap[b']?)
    (hb : Loose e G b ∧ (G.ow b ≠ none ∨ w.heap[b]? = none) ∧ b < w'.heap.size) (hbo : ∀ t, G.ow b = some t → t < e.length) (hbr : b ∉ (rowsOf L ++ rows).flatMap (fp k)) {dd : Nat} (hd : t.d = some dd) (hdn : dd < n) (henv : SameEnv w w' := by exact ⟨rfl, rfl, rfl⟩) :
    ∃ G', Post n (e0.puts (t.lay (some dd) (.one, [.own 0 0 (deep && d) k (l ++ ys)])).ws) a w G0 (a.put (some dd) v') w' G' := by
  cases hq : (deep && d) with
  | true =>
    simp only [Bool.and_eq_true] at hq
    obtain ⟨q1, q2⟩ := hq
    subst q1; subst q2
    have hy := hB.fpy rfl
    have hx : Hx = fp (.list k) L := hB.hx
    have hsubx : ∀ b' ∈ (rowsOf L).flatMap (fp k), b' ∈ Hx := fun b' hb' => by rw [hx, fp_list, inner_rows]; exact List.mem_append_right _ hb'
    have hnd := hB.nodup
    rw [List.nodup_append] at hnd
    obtain ⟨n1, n2, n3⟩ := hnd
    refine lay_new (sh := .one) (u := v') (H := b :: (rowsOf L ++ rows).flatMap (fp k)) (bk := 0) (vs := [v']) (Ls := fun _ => .node b off cap (rowsOf L ++ rows)) h ht hst hsz (fun b' hb' q => hsame b' (fun e => hb' (by simp [e])) q) ?_ ?own rfl ?_ ?_ ?_ (by simp) (by simp) rfl hd hdn
    case own =>
      intro b' hb' t ht'
      simp only [List.mem_cons, List.flatMap_append, List.mem_append] at hb'
      rcases hb' with rfl | hb' | hb'
      · exact hbo t ht'
      · exact hB.owner b' (List.mem_append_left _ (hsubx b' hb')) t ht'
      · exact hB.owner b' (List.mem_append_right _ (by rw [hy]; exact hb')) t ht'
    · intro b' hb'
      simp only [List.mem_cons, List.flatMap_append, List.mem_append] at hb'
      rcases hb' with rfl | hb' | hb'
      · exact hb
      · obtain ⟨m1, m2, m3⟩ := hB.mem b' (List.mem_append_left _ (hsubx b' hb'))
        exact ⟨m1, .inl m2, by omega⟩
      · obtain ⟨m1, m2, m3⟩ := hB.mem b' (List.mem_append_right _ (by rw [hy]; exact hb'))
        exact ⟨m1, .inl m2, by omega⟩
    · intro j c u hc hu
      match j, hc, hu with
      | 0, hc, hu =>
        simp only [List.getElem?_cons_zero, Option.some.injEq] at hc hu
        subst hc; subst hu
        exact ⟨hrep, by simp⟩
    · simp only [boxB, fpCells, ownB, fp, List.nil_append, List.append_nil, List.nodup_cons]
      refine ⟨hbr, ?_⟩
      rw [List.flatMap_append, List.nodup_append]
      refine ⟨?_, by rw [← hy]; exact n2, fun b1 h1 b2 h2 heq => ?_⟩
      · rw [hx, fp_list, inner_rows] at n1
        exact (List.nodup_append.1 n1).2.1
      · exact n3 b1 (hsubx b1 h1) b2 (by rw [hy]; exact h2) heq
    · simp only [boxB, fpCells, ownB, fp, List.nil_append, List.append_nil]
      exact fun b' hb' => hb'
  | false =>
    rw [hq] at hrep
    have hF : ∀ b' ∈ ((rowsOf L ++ rows).flatMap (fp k)).filter (fun b' => (G.ow b').isSome), Loose e G b' := by
      intro b' hb'
      rw [List.mem_filter, List.flatMap_append, List.mem_append] at hb'
      obtain ⟨q1, q2⟩ := hb'
      have hne : G.ow b' ≠ none := by intro q; rw [q] at q2; simp at q2
      rcases q1 with q1 | q1
      · rcases hB.rowsx b' q1 with g | g
        · exact (hB.mem b' (List.mem_append_left _ g.2)).1
        · exact absurd g hne
      · rcases hB.free b' q1 with g | g
        · exact (hB.mem b' (List.mem_append_right _ g)).1
        · exact absurd g hne
    have h' := h.disown hF
    refine lay_new (sh := .one) (u := v') (G := G.disown (((rowsOf L ++ rows).flatMap (fp k)).filter (fun b' => (G.ow b').isSome))) (H := [b]) (bk := 0) (vs := [v']) (Ls := fun _ => .node b off cap (rowsOf L ++ rows)) h' ht (hst.disown ?own) hsz
      (fun b' hb' q => hsame b' (fun e => hb' (by simp [e])) q) ?_ (disown_owner (fun b' hb' t ht' => by simp only [List.mem_singleton] at hb'; subst hb'; exact hbo t ht')) rfl ?_ (by simp [boxB, fpCells, ownB, hdOf]) (by simp [boxB, fpCells, ownB, hdOf]) (by simp) (by simp) rfl hd hdn
    case own =>
      intro b' hb' t ht'
      rw [← ht.length]
      rw [List.mem_filter, List.flatMap_append, List.mem_append] at hb'
      have hne : G.ow b' ≠ none := by rw [ht']; simp
      rcases hb'.1 with q1 | q1
      · rcases hB.rowsx b' q1 with g | g
        · exact hB.owner b' (List.mem_append_left _ g.2) t ht'
        · exact absurd g hne
      · rcases hB.free b' q1 with g | g
        · exact hB.owner b' (List.mem_append_right _ g) t ht'
        · exact absurd g hne
    · intro b' hb'
      simp only [List.mem_singleton] at hb'
      subst hb'
      refine ⟨hb.1, ?_, hb.2.2⟩
      rcases hb.2.1 with q | q
      · left
        simp only [Gh.disown]
        rw [if_neg (fun g => hbr (List.mem_filter.1 g).1)]
        exact q
      · exact .inr q
    · intro j c u hc hu
      match j, hc, hu with
      | 0, hc, hu =>
        simp only [List.getElem?_cons_zero, Option.some.injEq] at hc hu
        subst hc; subst hu
        refine ⟨hrep, fun _ b' hb' => ⟨?_, ?_⟩⟩
        · simp only [inner] at hb'
          simp only [Gh.disown]
          cases q : G.ow b' with
          | none => simp
          | some s => rw [if_pos (List.mem_filter.2 ⟨hb', by rw [q]; rfl⟩)]
        · simp only [inner] at hb'
          simp only [List.mem_singleton]
          rintro rfl
          exact hbr hb'

theorem append_core {e0 : Env} {G0 : Gh} {t : Tr} (h : Inv n e a.tmps w G) (ht : TrOk e0 t e) (hst : Held n e0.length w w G0 G) {k : K} {l ys : List k.T} {L : LT} {deep : Bool} {v vy : Value} {Hx : List Nat} {rows : List LT} {d : Bool} {Hy : List Nat} {cells : List Value}
    (hB : Both w e G k l L deep v Hx rows d Hy) (hS : Src P w k ys d vy cells rows)
    {at0 : Array TypeId} {t0 t1 ty el : TypeId} {d1 : TypeDesc} (h0 : at0[0]? = some t0) (h1 : at0[1]? = some t1) (hu : P.underlying t0 = some (.slice el)) (hu1 : P.underlying t1 = some d1) (hd1 : (∃ e1, d1 = .slice e1) ∨ d1 = .string)
    {i : TypeInfo} (hi : P.info? el = some i) (hik : i.size = k.size) {z : Value} (hz : i.zero = some z) (hzk : z.cells.size = k.size) (hmost : l.length + ys.length ≤ rowMost) (hby : (2 * (l.length + ys.length) + 512) * i.bytes ≤ byteMost)
    {dd : Nat} (hd : t.d = some dd) (hdn : dd < n) :
    ∃ v' w', (Builtin.append_ at0 ty #[v, vy]).run P w = .ok v' w' ∧ ∃ G', Post n (e0.puts (t.lay (some dd) (.one, [.own 0 0 (deep && d) k (l ++ ys)])).ws) a w G0 (a.put (some dd) v') w' G' := by
  obtain ⟨base, cap, olds, rfl, ho1, ho2, ho3, ho4, ho5, ho6⟩ := row_cells (P := P) hB.repl
  by_cases hroom : l.length + ys.length ≤ cap
  · rcases hB.repl with ⟨q1, q2, a0, cap0, q3, q4⟩ | ⟨b, off, cap0, rs, q1, q2, q3, q4, q5, q6, q7⟩
    · -- nothing, and nothing put behind it
      simp only [Value.slice.injEq] at q3
      obtain ⟨rfl, q3, rfl⟩ := q3
      have q4 := q4 rfl
      subst q4
      have hys : ys = [] := List.eq_nil_of_length_eq_zero (by omega)
      subst q1; subst q2; subst hys
      have hcn : cells = [] := List.eq_nil_of_length_eq_zero (by have := hS.len; simpa using this)
      have hr := run_append_in (P := P) (ty := ty) (base := base) (sLen := 0) (sCap := 0) (m := 0) (vy := vy) (cells := []) h0 h1 hu hu1 hd1 hi (hS.lenOf w) (by rw [hik]; have := hS.first w rfl; rw [hcn] at this; exact this) (by omega) (w' := w) (fun a _ => by simp [storeCells, Sem.run_pure]) (fun _ => rfl)
      refine ⟨_, _, hr, ?_⟩
      refine lay_new (sh := .one) (H := []) (bk := 0) (vs := [.slice base 0 0]) (Ls := fun _ => .nil) h ht hst (Nat.le_refl _) (fun b' _ _ => rfl) (by simp) (by simp) rfl ?_ (by cases (deep && d) <;> simp [boxB, fpCells, ownB, fp, hdOf]) (by cases (deep && d) <;> simp [boxB, fpCells, ownB, fp, hdOf]) (by simp) (by simp) rfl hd hdn
      intro j c u hc hu
      match j, hc, hu with
      | 0, hc, hu =>
        simp only [List.getElem?_cons_zero, Option.some.injEq] at hc hu
        subst hc; subst hu
        exact ⟨.inl ⟨rfl, rfl, base, 0, rfl, fun _ => rfl⟩, by simp [inner]⟩
    · -- in place
      simp only [Value.slice.injEq] at q2
      obtain ⟨rfl, _, rfl⟩ := q2
      subst q1
      obtain ⟨cur, tt, fr, g1, g2, g3⟩ := q6 rfl
      have hcl : cells.length = ys.length * k.size := hS.len
      have hmul : l.length * k.size + ys.length * k.size ≤ cap * k.size := by rw [← Nat.add_mul]; exact Nat.mul_le_mul_right _ hroom
      have hfit : off + l.length * k.size + cells.length ≤ cur.size := by omega
      have hbown : b ∈ Hx := by
        rw [hB.hx]
        cases deep with
        | true => simp [ownB, fp]
        | false => simp [ownB, hdOf]
      obtain ⟨m1, m2, m3⟩ := hB.mem b (List.mem_append_left _ hbown)
      have hnd := hB.nodup
      rw [List.nodup_append] at hnd
      have hbr : b ∉ (rowsOf (.node b off cap rs) ++ rows).flatMap (fp k) := by
        rw [List.flatMap_append, List.mem_append]
        rintro (q | q)
        · rcases hB.rowsx b q with g | g
          · have := hnd.1
            rw [hB.hx, g.1] at this
            simp only [ownB, fp, List.nodup_cons] at this
            exact this.1 q
          · exact m2 g
        · rcases hB.free b q with g | g
          · exact hnd.2.2 b hbown b g rfl
          · exact m2 g
      have hw' : ∀ b', b' ≠ b → (w.setRow b (setFrom cur.toList (off + l.length * k.size) cells).toArray).heap[b']? = w.heap[b']? := fun b' hb' => setRow_other w b b' _ hb'
      have hg' := setRow_heap w b cur (setFrom cur.toList (off + l.length * k.size) cells).toArray tt fr g1
      have hrun := run_store_row P b (off + l.length * k.size) tt fr cells 0 cur w g1 (by simpa using hfit) (fun q h1 h2 => by rcases g3 with g3 | g3 <;> omega) hS.one
      simp only [Nat.add_zero] at hrun
      have hr := run_append_in (P := P) (ty := ty) (base := some ⟨b, off, none⟩) (sLen := l.length) (sCap := cap) (m := ys.length) (vy := vy) (cells := cells) h0 h1 hu hu1 hd1 hi (hS.lenOf w) (by rw [hik]; exact hS.first w rfl) hroom
        (w' := w.setRow b (setFrom cur.toList (off + l.length * k.size) cells).toArray) (fun a ha => by
          simp only [Option.some.injEq] at ha
          subst ha
          rw [add_none, hik]
          exact hrun) (by simp)
      refine ⟨_, _, hr, ?_⟩
      refine append_fin h ht hst hB (off := off) (cap := cap) (v' := .slice (some ⟨b, off, none⟩) (l.length + ys.length) cap) ?_ (by simp) (fun b' hb' _ => hw' b' hb') ⟨m1, .inl m2, by simpa using m3⟩ (hB.owner b (List.mem_append_left _ hbown)) hbr hd hdn
      have hcell : ∀ q, (w.setRow b (setFrom cur.toList (off + l.length * k.size) cells).toArray).cell? ⟨b, q, none⟩ = if off + l.length * k.size ≤ q ∧ q < off + l.length * k.size + cells.length then cells[q - (off + l.length * k.size)]? else w.cell? ⟨b, q, none⟩ := by
        intro q
        simp only [World.cell?, hg', g1, Option.isSome_none, Bool.false_eq_true, if_false, List.getElem?_toArray]
        rw [setFrom_get _ _ _ _ (by simpa using hfit)]
        simp
      refine repl_append (P := P) hB.repl hS ho1 ho5 (by simp; intro q _; exact q) (by simp) (fun q u hu => ?_) (by rw [hg']; simp) ⟨_, _, _, hg', by simpa [setFrom_length] using g2, by simpa [setFrom_length] using g3⟩ hroom (fun b' hb' => hw' b' ?_) (fun b' hb' => hw' b' ?_)
      · rw [hcell]
        have hql : q < olds.length + cells.length := by have := (List.getElem?_eq_some_iff.1 hu).1; simpa using this
        by_cases hq : q < olds.length
        · rw [if_neg (by omega)]
          rw [List.getElem?_append_left hq] at hu
          exact ho6 _ _ _ _ rfl q u hu
        · rw [if_pos (by omega)]
          rw [List.getElem?_append_right (by omega)] at hu
          rw [← hu]
          congr 1
          omega
      · rintro rfl; exact hbr (by rw [List.flatMap_append]; exact List.mem_append_left _ hb')
      · rintro rfl; exact hbr (by rw [List.flatMap_append]; exact List.mem_append_right _ hb')
  · -- a new row
    have hge := grownCap_ge w (l.length + ys.length) cap el
    have h63 : ((l.length + ys.length : Nat) : Int) ≤ 9223372036854775807 := by simp only [rowMost] at hmost; omega
    have hb2 : (l.length + ys.length) * i.bytes ≤ 140737488355328 := by
      have : (l.length + ys.length) * i.bytes ≤ (2 * (l.length + ys.length) + 512) * i.bytes := Nat.mul_le_mul_right _ (by omega)
      simp only [byteMost] at hby
      omega
    have hr := run_append_out (P := P) (ty := ty) (base := base) (sLen := l.length) (sCap := cap) (m := ys.length) (vy := vy) (olds := olds) (cells := cells) h0 h1 hu hu1 hd1 hi hz (hS.lenOf w) (by rw [hik]; exact ho2 w.drew rfl) (by rw [hik]; exact hS.first w.drew rfl) hroom h63
      (growslice_fits (by omega) hb2)
    refine ⟨_, _, hr, ?_⟩
    have hnew := heap_alloc_new w.drew (.cells (olds.toArray ++ cells.toArray ++ Builtin.zeroCells z.cells (grownCap w (l.length + ys.length) cap el - (l.length + ys.length))) el)
    have hdr : w.drew.heap = w.heap := rfl
    rw [hdr] at hnew
    have hnone : w.heap[w.heap.size]? = none := by simp
    have hthere : ∀ b ∈ (rowsOf L ++ rows).flatMap (fp k), w.heap[b]? ≠ none := by
      intro b hb
      rw [List.flatMap_append, List.mem_append] at hb
      rcases hb with hb | hb
      · refine hB.repl.there b ?_
        rw [fp_list, inner_rows]
        exact List.mem_append_right _ hb
      · exact hB.there b hb
    have hloose : Loose e G w.heap.size := by
      intro s hs
      have := h.lt _ s ((h.slot s).own _ hs)
      omega
    refine append_fin h ht hst hB (b := w.heap.size) (off := 0) (cap := grownCap w (l.length + ys.length) cap el) ?_ (by simp) (fun b' _ hb' => alloc_same w.drew _ b' hb') ⟨hloose, .inr hnone, by simp⟩ (fun t ht' => (h.fresh ht').elim) (fun q => hthere _ q hnone) hd hdn
    refine repl_append (P := P) hB.repl hS ho1 ho5 (by simp; intro q _; exact q) (by simp) (fun q u hu => ?_) (by rw [hnew]; simp) ⟨_, _, _, hnew, ?_, .inr (by simp)⟩ hge (fun b' hb' => alloc_same w.drew _ b' (hthere b' (by rw [List.flatMap_append]; exact List.mem_append_left _ hb'))) (fun b' hb' => alloc_same w.drew _ b' (hthere b' (by rw [List.flatMap_append]; exact List.mem_append_right _ hb')))
    · simp only [World.cell?, hnew, Option.isSome_none, Bool.false_eq_true, if_false, Nat.zero_add]
      have hql : q < olds.length + cells.length := by have := (List.getElem?_eq_some_iff.1 hu).1; simpa using this
      rw [Array.getElem?_append_left (by simpa using hql)]
      simpa using hu
    · simp only [Array.size_append, List.size_toArray, size_zeroCells, hzk, ho1, hS.len, ← Nat.add_mul, Nat.zero_add]
      exact Nat.mul_le_mul_right _ (by omega)

end ops

end Go.Mach
/- The machine, part y: append as an operation. No condition: lemmas. -/
namespace Go.Mach
set_option linter.unusedVariables false
set_option linter.unusedSimpArgs false

theorem src_of_repl {P : Program} {w : World} {k : K} {ys : List k.T} {L : LT} {vy : Value} {dr d : Bool} (h : RepL dr w k.size (Rep d w k) ys L vy) : ∃ cells, Src P w k ys d vy cells (rowsOf L) := by
  obtain ⟨base, cap, cells, rfl, h1, h2, h3, h4, h5, h6⟩ := row_cells (P := P) h
  refine ⟨cells, fun w2 => rfl, h2, h1, h3, ?_, ?_⟩
  · cases L with
    | node b off cap' rows => exact (h5 _ _ _ _ rfl).1
    | _ =>
      rcases h with ⟨_, rfl, _⟩ | ⟨_, _, _, _, q, _⟩
      · rfl
      · simp at q
  · cases L with
    | node b off cap' rows => exact (h5 _ _ _ _ rfl).2
    | _ => intro i y r _ hr; simp [rowsOf] at hr

theorem rowsOf_there {w : World} {k : K} {ys : List k.T} {L : LT} {vy : Value} {dr d : Bool} (h : RepL dr w k.size (Rep d w k) ys L vy) : ∀ b ∈ (rowsOf L).flatMap (fp k), w.heap[b]? ≠ none := by
  intro b hb
  refine h.there b ?_
  rw [fp_list, inner_rows]
  exact List.mem_append_right _ hb

theorem rowsOf_cutL (k : K) (sz : Nat) (lo hi : Option Nat) (m : Nat) (L : LT) : ∀ b ∈ (rowsOf (cutL sz lo hi m L)).flatMap (fp k), b ∈ (rowsOf L).flatMap (fp k) := by
  intro b hb
  cases L with
  | node b' off cap rows =>
    simp only [cutL] at hb
    split at hb
    · simp [rowsOf] at hb
    · simp only [rowsOf] at hb ⊢
      exact (sub_flatMap (cut_sublist _ _ _)).subset hb
  | _ => simp [cutL, rowsOf] at hb

section ops
variable {P : Program} {n : Nat} {e : Env} {a : Act} {w : World} {G : Gh} {get : Nat → Slot} {o : Oper} {x : Ctx} {ws : Writes}

/-- What is appended, at hand. -/
structure SrcAt (P : Program) (n : Nat) (e0 e : Env) (tm : Array Value) (w : World) (G : Gh) (t' : Tr) (k : K) (ys : List k.T) (d : Bool) (vy : Value) (e' : Env) (G' : Gh) (H : List Nat) (rows : List LT) (cells : List Value) : Prop where
  inv : Inv n e' tm w G'
  tr : TrOk e0 t' e'
  ext : Ext w e G e' G'
  hand : Hand w e G e' G' H
  src : Src P w k ys d vy cells rows
  fpy : d = true → H = rows.flatMap (fp k)
  there : ∀ b ∈ rows.flatMap (fp k), w.heap[b]? ≠ none
  free : ∀ b ∈ rows.flatMap (fp k), b ∈ H ∨ G'.ow b = none

theorem rep_list {d : Bool} {w : World} {k : K} {l : List k.T} {L : LT} {v : Value} (h : Rep d w (.list k) l L [v]) : RepL d w k.size (Rep d w k) l L v := by
  simp only [Rep] at h
  obtain ⟨u, hu, h⟩ := h
  simp only [List.cons.injEq, and_true] at hu
  subst hu
  exact h

theorem src_ok {vars : List Nat} {e0 : Env} {tm : Array Value} {t t' : Tr} {k : K} {y : C} {vy : Value} {Ly : LT} {ys : List k.T} {d : Bool} (h : Inv n e tm w G) (ht : TrOk e0 t e) (hc : CellOk e w G y vy Ly) (hs : srcC vars t k y = some (t', ys, d)) :
    ∃ e' G' H rows cells, SrcAt P n e0 e tm w G t' k ys d vy e' G' H rows cells := by
  -- flat data, read where they lie
  have flatOk : ∀ {t1 : Tr} {d1 : Bool}, k.flat = true → t.grab y (.list k) = some (t1, ys, d1) → ∃ e' G' H rows cells, SrcAt P n e0 e tm w G t k ys true vy e' G' H rows cells := by
    intro t1 d1 hf hg
    obtain ⟨e', G', H, L, g⟩ := grab_ok h ht hc hg
    obtain ⟨cells, hsrc⟩ := src_of_repl (P := P) (rep_list g.rep)
    refine ⟨e, G, [], rowsOf L, cells, h, ht, Ext.refl, Hand.nil, ⟨hsrc.lenOf, hsrc.first, hsrc.len, hsrc.one, hsrc.rlen, fun i y r hy hr => ?_⟩, fun _ => (flat_none hf _).symm, by rw [flat_none hf]; simp, by rw [flat_none hf]; simp⟩
    obtain ⟨vs, q1, q2⟩ := hsrc.rep i y r hy hr
    exact ⟨vs, q1, q2.flat hf⟩
  have grabOk : ∀ {t1 : Tr} {d1 : Bool}, t.grab y (.list k) = some (t1, ys, d1) → ∃ e' G' H rows cells, SrcAt P n e0 e tm w G t1 k ys d1 vy e' G' H rows cells := by
    intro t1 d1 hg
    obtain ⟨e', G', H, L, g⟩ := grab_ok h ht hc hg
    have hrl := rep_list g.rep
    obtain ⟨cells, hsrc⟩ := src_of_repl (P := P) hrl
    have hsub : ∀ b ∈ (rowsOf L).flatMap (fp k), b ∈ fp (.list k) L := fun b hb => by rw [fp_list, inner_rows]; exact List.mem_append_right _ hb
    cases d1 with
    | false => exact ⟨e', G', H, rowsOf L, cells, g.inv, g.tr, g.ext, g.hand, hsrc, by simp, rowsOf_there hrl, fun b hb => g.none b (hsub b hb)⟩
    | true =>
      have hH := g.fp rfl
      have hnd := g.hand.nodup
      rw [hH, fp_list, inner_rows] at hnd
      refine ⟨e', G', (rowsOf L).flatMap (fp k), rowsOf L, cells, g.inv, g.tr, g.ext, ⟨(List.nodup_append.1 hnd).2.1, fun b hb => g.hand.mem b ?_⟩, hsrc, fun _ => rfl, rowsOf_there hrl, fun b hb => .inl hb⟩
      rw [hH]
      exact hsub b hb
  have strOk : ∀ s : List UInt8, y = .dat .str s → srcC vars t k (.dat .str s) = some (t', ys, d) → ∃ e' G' H rows cells, SrcAt P n e0 e tm w G t' k ys d vy e' G' H rows cells := by
    intro s hy hq
    clear flatOk grabOk hs
    subst hy
    simp only [srcC] at hq
    split at hq
    · simp only [Option.some.injEq, Prod.mk.injEq] at hq
      obtain ⟨rfl, rfl, rfl⟩ := hq
      have hv := dat_str hc
      subst hv
      refine ⟨e, G, [], List.replicate s.length .leaf, s.map fun b => Value.int .u8 (b.toNat : Nat), h, ht, Ext.refl, Hand.nil, ⟨fun w2 => ?_, fun w2 _ => ?_, ?_, ?_, by simp, fun i y r hy hr => ?_⟩, fun _ => (flat_none rfl _).symm, by rw [flat_none rfl]; simp, by rw [flat_none rfl]; simp⟩
      · simp [Builtin.lenOf, Sem.run_pure, bytes_size]
      · simp only [Builtin.firstCells, Sem.run_pure, K.size, List.length_map]
        congr 1
        show Array.map _ ((⟨⟨s⟩⟩ : ByteArray).extract 0 s.length).data = _
        have : (⟨⟨s⟩⟩ : ByteArray).extract 0 s.length = ⟨⟨s⟩⟩ := by
          have := ByteArray.extract_mk s 0 s.length
          rw [this]
          simp
        rw [this]
        apply Array.ext'
        simp
      · simp [K.size]
      · intro u hu
        obtain ⟨b, _, rfl⟩ := List.mem_map.1 hu
        rfl
      · rw [List.getElem?_map] at hy
        cases hb : s[i]? with
        | none => rw [hb] at hy; simp at hy
        | some b =>
          rw [hb] at hy
          simp only [Option.map_some, Option.some.injEq] at hy
          subst hy
          refine ⟨[.int .u8 (b.toNat : Nat)], fun c u hu => ?_, by simp [Rep]⟩
          match c, hu with
          | 0, hu =>
            simp only [List.getElem?_cons_zero, Option.some.injEq] at hu
            subst hu
            simp [K.size, hb]
    · simp at hq
  cases y with
  | ref s j rv sv p lo hi k1 =>
    simp only [srcC] at hs
    split at hs
    · simp at hs
    · rename_i t1 l1 d1 hg
      split at hs
      · rename_i hf
        simp only [Option.some.injEq, Prod.mk.injEq] at hs
        obtain ⟨rfl, rfl, rfl⟩ := hs
        exact flatOk hf hg
      · split at hs
        · rename_i rv' sv' k0 l0 hcell
          simp only [Option.some.injEq, Prod.mk.injEq] at hs
          obtain ⟨rfl, rfl, rfl⟩ := hs
          obtain ⟨s1, s2⟩ := ht.cell hcell (by simp)
          -- what the grab read
          simp only [Tr.grab, hcell] at hg
          split at hg
          · rename_i hq
            obtain ⟨q1, q2, q3⟩ := hq
            subst q1
            simp only [K.list.injEq] at q3
            subst q3
            have hread : ∃ l2, getP k0 l0 p = ⟨k1, l2⟩ ∧ l1 = cut lo hi l2 := by
              split at hg
              · simp at hg
              · rename_i l2 hl2
                refine ⟨l2, castL_some hl2, ?_⟩
                split at hg <;> (simp only [Option.some.injEq, Prod.mk.injEq, castT_same] at hg; exact hg.2.1.symm)
            obtain ⟨l2, r1, rfl⟩ := hread
            obtain ⟨r2, r3, r4, r5⟩ := ref_reads h hc s2 q2 r1
            have hin := (h.ownBlocks s2).2.1 rfl
            obtain ⟨cells, hsrc⟩ := src_of_repl (P := P) r4.weaken
            refine ⟨e, G, [], _, cells, h, ht, Ext.refl, Hand.nil, hsrc, by simp, rowsOf_there r4, fun b hb => .inr (hin b ?_)⟩
            have hb := rowsOf_cutL _ _ _ _ _ _ b hb
            by_cases hp : p = []
            · subst hp
              rw [getP_nil] at r1
              simp only [Sigma.mk.injEq] at r1
              obtain ⟨rfl, _⟩ := r1
              rw [inner_rows]
              exact hb
            · refine subL_inner p hp k0 l0 _ r3 b ?_
              rw [r1, fp_list, inner_rows]
              exact List.mem_append_right _ hb
          · simp at hg
        · rename_i rv' sv' k0 l0 hcell
          split at hs
          · simp only [Option.some.injEq, Prod.mk.injEq] at hs
            obtain ⟨rfl, rfl, rfl⟩ := hs
            obtain ⟨s1, s2⟩ := ht.cell hcell (by simp)
            -- what the grab read
            simp only [Tr.grab, hcell] at hg
            split at hg
            · rename_i hq
              obtain ⟨q1, q2, q3⟩ := hq
              subst q1
              simp only [K.list.injEq] at q3
              subst q3
              have hread : ∃ l2, getP k0 l0 p = ⟨k1, l2⟩ ∧ l1 = cut lo hi l2 := by
                split at hg
                · simp at hg
                · rename_i l2 hl2
                  refine ⟨l2, castL_some hl2, ?_⟩
                  split at hg <;> (simp only [Option.some.injEq, Prod.mk.injEq, castT_same] at hg; exact hg.2.1.symm)
              obtain ⟨l2, r1, rfl⟩ := hread
              obtain ⟨r2, r3, r4, r5⟩ := ref_reads h hc s2 (q2.imp id fun g => ⟨g.1, rfl⟩) r1
              obtain ⟨G', f1, f2, f3, f4, f5⟩ := h.freeze s2
              obtain ⟨cells, hsrc⟩ := src_of_repl (P := P) r4.weaken
              refine ⟨_, G', [], _, cells, f1, ?_, f2, Hand.nil, hsrc, by simp, rowsOf_there r4, fun b hb => .inr (f3 b ?_)⟩
              · have := ht.put { e.get s with cs := (e.get s).cs.set j (.own rv sv' false k0 l0) } (slot_alive s2)
                rw [s1]
                exact this
              · have hb := rowsOf_cutL _ _ _ _ _ _ b hb
                by_cases hp : p = []
                · subst hp
                  rw [getP_nil] at r1
                  simp only [Sigma.mk.injEq] at r1
                  obtain ⟨rfl, _⟩ := r1
                  rw [inner_rows]
                  exact hb
                · refine subL_inner p hp k0 l0 _ r3 b ?_
                  rw [r1, fp_list, inner_rows]
                  exact List.mem_append_right _ hb
            · simp at hg
          · simp only [Option.some.injEq, Prod.mk.injEq] at hs
            obtain ⟨rfl, rfl, rfl⟩ := hs
            exact grabOk hg
        · simp at hs
  | dat k' z =>
    cases k' with
    | str => exact strOk z rfl hs
    | _ =>
      simp only [srcC] at hs
      split at hs
      · simp at hs
      · rename_i t1 l1 d1 hg
        simp only [Option.some.injEq, Prod.mk.injEq] at hs
        obtain ⟨rfl, rfl, rfl⟩ := hs
        have ht1 : t1 = t := by
          simp only [Tr.grab] at hg
          split at hg
          · simp only [Option.some.injEq, Prod.mk.injEq] at hg; exact hg.1.symm
          · simp at hg
        subst ht1
        cases hf : k.flat with
        | true => simpa [hf] using flatOk hf hg
        | false => simpa [hf] using grabOk hg
  | nil =>
    simp only [srcC] at hs
    split at hs
    · simp at hs
    · rename_i t1 l1 d1 hg
      simp only [Option.some.injEq, Prod.mk.injEq] at hs
      obtain ⟨rfl, rfl, rfl⟩ := hs
      have ht1 : t1 = t := by
        simp only [Tr.grab] at hg
        simp only [Option.some.injEq, Prod.mk.injEq] at hg; exact hg.1.symm
      subst ht1
      cases hf : k.flat with
      | true => simpa [hf] using flatOk hf hg
      | false => simpa [hf] using grabOk hg
  | _ => simp [srcC, Tr.grab] at hs

/-- The list that is appended to, at hand. -/
theorem dst_ok {e0 : Env} {tm : Array Value} {t : Tr} {s j rv sv rv' sv' : Nat} {lo hi : Option Nat} {k1 k0 : K} {deep : Bool} {l0 : List k0.T} {v : Value} {L : LT} (h : Inv n e tm w G) (ht : TrOk e0 t e) (hc : CellOk e w G (.ref s j rv sv [] lo hi k1) v L)
    (hcell : (t.at s).cs.getD j .dead = .own rv' sv' deep k0 l0) (hrv : rv = rv') (hk : k1 = k0) :
    ∃ e' H L', Inv n e' tm w G ∧ TrOk e0 (t.put s ((t.at s).kill j)) e' ∧ Ext w e G e' G ∧ Hand w e G e' G H ∧ RepL true w k0.size (Rep deep w k0) (cut lo hi l0) L' v ∧ H = ownB (.own 0 0 deep k0 (cut lo hi l0)) L' ∧
      (deep = false → ∀ b ∈ inner k0 L', G.ow b = none) := by
  have hco : CellsOk e w G [.ref s j rv sv [] lo hi k1] [v] (fun _ => L) := (one_ok hc rfl).cells
  obtain ⟨e', H, Ls, ht'⟩ := take_ok [] [.ref s j rv sv [] lo hi k1] h ht hco (by simp [C.isOwn])
  have htk : t.take [] [.ref s j rv sv [] lo hi k1] = (t.put s ((t.at s).kill j), [.own 0 0 deep k0 (cut lo hi l0)]) := by
    simp only [Tr.take, hcell, hrv]
    simp
  rw [htk] at ht'
  obtain ⟨n1, n2⟩ := ht'.new 0 (.own 0 0 deep k0 (cut lo hi l0)) v rfl rfl
  have hf := ht'.fp
  simp only [fpCells, List.append_nil] at hf
  exact ⟨e', H, Ls 0, ht'.inv, ht'.tr, ht'.ext, ht'.hand, n1, hf.symm, fun hd b hb => (n2 hd b hb).1⟩

end ops

end Go.Mach
/- The machine, part ya: append to a list that lies in an owned one. No condition: lemmas. -/
namespace Go.Mach
set_option linter.unusedVariables false
set_option linter.unusedSimpArgs false

theorem setLeaf_back : ∀ (k : K) (x : k.T) (c : Nat), setLeaf k x c (leafV k x c) = x
  | .int i, x, _ => by simp [setLeaf, leafV, castT]
  | .bool, x, _ => by simp [setLeaf, leafV, castT]
  | .str, x, _ => by simp [setLeaf, leafV, castT]
  | .list k, x, _ => by simp [setLeaf, leafV, castT]
  | .pair a b, x, c => by
    simp only [setLeaf, leafV]
    split
    · rw [setLeaf_back a]
    · rw [setLeaf_back b]

theorem modP_same : ∀ (p : Path) (k : K) (l : List k.T), modP (fun _ l => l) k l p = l
  | [], _, _ => rfl
  | (i, c) :: p, k, l => by
    simp only [modP]
    split
    · rename_i k' y hq
      rw [modP_same p, ← hq, setLeaf_back]
      apply List.ext_getElem?
      intro j
      by_cases e : i = j
      · subst e
        rw [List.getElem?_set]
        by_cases hi : i < l.length
        · simp [hi, List.getElem?_eq_getElem hi]
        · simp [hi]
      · rw [List.getElem?_set_ne e]
    · rfl

section ops
variable {P : Program} {n : Nat} {e : Env} {a : Act} {w : World} {G : Gh} {get : Nat → Slot} {o : Oper} {x : Ctx} {ws : Writes}

/-- The list that lies in an owned one is frozen, and what was made of it is laid as data. -/
theorem nest_fin {e0 : Env} {G0 : Gh} {t : Tr} (h : Inv n e a.tmps w G) (ht : TrOk e0 t e) (hst : Held n e0.length w w G0 G) {s j rv sv' : Nat} {p : Path} {k0 k : K} {l0 : List k0.T} {l : List k.T}
    (hc : (e.get s).cs[j]? = some (.own rv sv' true k0 l0)) (hat : t.at s = e.get s) (hp0 : p ≠ []) (hp : PathOk k0 l0 p) (hl : getP k0 l0 p = ⟨k, l⟩) {u : Value} {rest : List Nat}
    (f2 : (fp (.list k0) (G.lt s j)).Perm (fp (.list k) (subL k0 (G.lt s j) p) ++ rest))
    (f3 : ∀ w' M dd, Same w w' rest → RepL true w' k.size (Rep dd w' k) l M u →
        ∀ v, (G.vs s)[j]? = some v → RepL true w' k0.size (Rep dd w' k0) l0 (setSub k0 (G.lt s j) M p) v)
    {w' : World} {v' : Value} {z : List k.T} {M : LT} (hsz : w.heap.size ≤ w'.heap.size) (hsame : ∀ b, b ∉ fp (.list k) (subL k0 (G.lt s j) p) → w.heap[b]? ≠ none → w'.heap[b]? = w.heap[b]?)
    (hrep : RepL true w' k.size (Rep false w' k) l (subL k0 (G.lt s j) p) u) (hM : Rep false w' (.list k) z M [v']) (hMb : ∀ b ∈ fp (.list k) M, b ∈ fp (.list k) (subL k0 (G.lt s j) p) ∨ w.heap[b]? = none) (henv : SameEnv w w')
    {dd : Nat} (hd : t.d = some dd) (hdn : dd < n) :
    ∃ G', Post n (e0.puts ((t.put s { t.at s with cs := (t.at s).cs.set j (.own rv sv' false k0 l0) }).lay (some dd) (.one, [.dat (.list k) z])).ws) a w G0 (a.put (some dd) v') w' G' := by
  obtain ⟨v, hv, hcell⟩ := h.val hc
  obtain ⟨hrep0, hin0⟩ := hcell
  obtain ⟨ow1, ow2, ow3⟩ := h.ownBlocks hc
  have halive := slot_alive hc
  have hnd : (fp (.list k0) (G.lt s j)).Nodup := ow3
  have hnd2 := f2.nodup_iff.1 hnd
  rw [List.nodup_append] at hnd2
  have howned : ∀ b ∈ fp (.list k0) (G.lt s j), G.ow b = some s := fun b hb => ow1 b hb
  have hsub : ∀ b ∈ fp (.list k) (subL k0 (G.lt s j) p), b ∈ inner k0 (G.lt s j) := by
    intro b hb
    have := subL_inner p hp0 k0 l0 (G.lt s j) hp b
    rw [hl] at this
    exact this hb
  have hrest : Same w w' rest := fun b hb => hsame b (fun q => hnd2.2.2 b q b hb rfl) (hrep0.there b (f2.mem_iff.2 (List.mem_append_right _ hb)))
  have g2 := f3 w' (subL k0 (G.lt s j) p) false hrest hrep v hv
  rw [setSub_self p hrep0 hp] at g2
  rw [fp_list] at hnd
  have hnd3 := List.nodup_append.1 hnd
  have hI := h.own (w' := w') hc hv sv' (e.get s).cnt false l0 (G.lt s j) [] (inner k0 (G.lt s j)) hsz
    (fun b h1 _ h3 => hsame b (fun q => h1 (by simp only [ownB]; rw [fp_list]; exact List.mem_append_right _ (hsub b q))) h3) (by simp) g2
    (fun b hb => .inl (by simp only [ownB] at hb ⊢; rw [fp_list]; exact List.mem_append_left _ hb))
    (by simp only [ownB]; exact hnd3.1)
    (fun b hb => ⟨.inl (by simp only [ownB]; rw [fp_list]; exact List.mem_append_right _ hb), fun q => by simp only [ownB] at q; exact hnd3.2.2 b q b hb rfl⟩)
    (fun _ b hb => .inr hb) rfl rfl (.inl ⟨rfl, rfl, by simp⟩)
  have held1 : Held n e.length w w' G (G.turn s j (G.lt s j) [] (inner k0 (G.lt s j))) := by
    have hno : ∀ b, G.ow b = none → b ∉ fp (.list k) (subL k0 (G.lt s j) p) := by
      intro b hb q
      have := howned b (by rw [fp_list]; exact List.mem_append_right _ (hsub b q))
      rw [hb] at this; simp at this
    refine ⟨fun b q1 q2 => ⟨hsame b (hno b q1) q2, ?_⟩, fun s' _ => ⟨fun _ => ⟨rfl, fun j' => ?_⟩, rfl⟩, fun b t' q1 q2 q3 => ?_⟩
    · simp only [Gh.turn]
      split
      · rfl
      · simp [q1]
    · simp only [Gh.turn, upd]
      by_cases q1 : s' = s
      · subst q1
        by_cases q2 : j' = j
        · subst q2; simp [upd]
        · simp [upd, q2]
      · simp [q1]
    · have hni : b ∉ inner k0 (G.lt s j) := by
        intro q
        have := howned b (by rw [fp_list]; exact List.mem_append_right _ q)
        rw [q1] at this
        simp only [Option.some.injEq] at this
        omega
      refine ⟨hsame b (fun q => hni (hsub b q)) q3, ?_⟩
      simp only [Gh.turn, if_neg hni]
      simp [q1]
  have htr := ht.put { t.at s with cs := (t.at s).cs.set j (.own rv sv' false k0 l0) } halive
  rw [hat] at htr ⊢
  have hcok : CellOk (e.set s { e.get s with cs := (e.get s).cs.set j (.own rv sv' false k0 l0) }) w' (G.turn s j (G.lt s j) [] (inner k0 (G.lt s j))) (.dat (.list k) z) v' M := by
    refine ⟨hM, fun b hb => ?_⟩
    simp only [Gh.turn]
    split
    · rfl
    · rename_i hq
      rcases hMb b hb with q | q
      · exact absurd (hsub b q) hq
      · simp only [List.not_mem_nil, if_false]
        cases ho : G.ow b with
        | none => rfl
        | some t' =>
          have := h.lt b t' ho
          have : w.heap[b]? ≠ none := by simp [this]
          exact absurd q this
  obtain ⟨G', hp⟩ := lay_quiet (G0 := G.turn s j (G.lt s j) [] (inner k0 (G.lt s j))) hI htr Held.refl (one_ok hcok rfl) (fun d hd' => by
    have hd' : t.d = some d := hd'
    rw [hd] at hd'
    simp only [Option.some.injEq] at hd'
    omega)
  have htd : (t.put s { e.get s with cs := (e.get s).cs.set j (.own rv sv' false k0 l0) }).d = some dd := hd
  rw [htd] at hp
  have hlen : ∀ ws : Writes, (e0.puts ws).length = e0.length := fun ws => puts_length _ _
  refine ⟨G', hp.inv, ?_, Nat.le_trans hsz hp.grows, hp.defers, henv.trans hp.env⟩
  have q1 := hp.held
  rw [hlen] at q1 ⊢
  rw [ht.length] at held1
  exact (hst.trans held1).trans q1

theorem RepL.flat2 {dr d d' : Bool} {k : K} {l : List k.T} {L : LT} {v : Value} (hf : k.flat = true) (h : RepL dr w k.size (Rep d w k) l L v) : RepL dr w k.size (Rep d' w k) l L v := by
  rcases h with h | ⟨b, off, cap, rows, h0, h1, h2, h3, h4, h5, h6⟩
  · exact .inl h
  · refine .inr ⟨b, off, cap, rows, h0, h1, h2, h3, h4, h5, fun i x r hx hr => ?_⟩
    obtain ⟨vs, g1, g2⟩ := h6 i x r hx hr
    exact ⟨vs, g1, g2.flat hf⟩

theorem RepL.loose2 {d : Bool} {k : K} {l : List k.T} {L : LT} {v : Value} (h : RepL true w k.size (Rep d w k) l L v) : RepL false w k.size (Rep d w k) l L v := by
  rcases h with ⟨h1, h2, a0, c0, h3, _⟩ | ⟨b, off, cap, rows, h0, h1, h2, h3, h4, h5, h6⟩
  · exact .inl ⟨h1, h2, a0, c0, h3, by simp⟩
  · exact .inr ⟨b, off, cap, rows, h0, h1, h2, h3, h4, by simp, h6⟩

theorem nest_core {e0 : Env} {G0 : Gh} {t : Tr} (h : Inv n e a.tmps w G) (ht : TrOk e0 t e) (hst : Held n e0.length w w G0 G) {s j rv sv sv' : Nat} {p : Path} {k0 k : K} {l0 : List k0.T} {l ys : List k.T} {v vy : Value} {L : LT} {rows : List LT} {d : Bool} {cells : List Value}
    (hc : (e.get s).cs[j]? = some (.own rv sv' true k0 l0)) (hat : t.at s = e.get s) (hx : CellOk e w G (.ref s j rv sv p none none k) v L) (hp0 : p ≠ []) (hsv : svOk p sv sv' = true) (hl : getP k0 l0 p = ⟨k, l⟩) (hf : k.flat = true) (hS : Src P w k ys d vy cells rows)
    {at0 : Array TypeId} {t0 t1 ty el : TypeId} {d1 : TypeDesc} (h0 : at0[0]? = some t0) (h1 : at0[1]? = some t1) (hu : P.underlying t0 = some (.slice el)) (hu1 : P.underlying t1 = some d1) (hd1 : (∃ e1, d1 = .slice e1) ∨ d1 = .string)
    {i : TypeInfo} (hi : P.info? el = some i) (hik : i.size = k.size) {z : Value} (hz : i.zero = some z) (hzk : z.cells.size = k.size) (hmost : l.length + ys.length ≤ rowMost) (hby : (2 * (l.length + ys.length) + 512) * i.bytes ≤ byteMost)
    {dd : Nat} (hd : t.d = some dd) (hdn : dd < n) :
    ∃ v' w', (Builtin.append_ at0 ty #[v, vy]).run P w = .ok v' w' ∧
      ∃ G', Post n (e0.puts ((t.put s { t.at s with cs := (t.at s).cs.set j (.own rv sv' false k0 l0) }).lay (some dd) (.one, [.dat (.list k) (l ++ ys)])).ws) a w G0 (a.put (some dd) v') w' G' := by
  obtain ⟨r2, r3, r4, r5⟩ := ref_reads h hx hc (.inr ⟨hsv, rfl⟩) hl
  have r4 : RepL true w k.size (Rep true w k) l (cutL k.size none none l.length (subL k0 (G.lt s j) p)) v := r4
  clear r5
  obtain ⟨v0, hv0, hcell⟩ := h.val hc
  obtain ⟨hrep0, _⟩ := hcell
  obtain ⟨u, rest, f1, f2, f3⟩ := focus (fun _ l => l) p k0 l0 (G.lt s j) v0 hrep0 r3
  rw [hl] at f1 f2 f3
  simp only [modP_same] at f1 f2 f3
  have fin := fun {w' : World} {v' : Value} {z : List k.T} {M : LT} => nest_fin h ht hst hc hat hp0 r3 hl f2 (fun w' M dd h1 h2 v hv => by
    rw [hv0] at hv
    simp only [Option.some.injEq] at hv
    subst hv
    exact (f3 w' M dd h1 h2).1) (w' := w') (v' := v') (z := z) (M := M) (dd := dd)
  clear f3
  have hrf : ∀ rs : List LT, rs.flatMap (fp k) = [] := fun rs => List.flatMap_eq_nil_iff.2 fun r _ => fp_flat hf
  obtain ⟨base, cap, olds, rfl, ho1, ho2, ho3, ho4, ho5, ho6⟩ := row_cells (P := P) r4
  by_cases hroom : l.length + ys.length ≤ cap
  · rcases id r4 with ⟨q1, q2, a0, cap0, q3, q4⟩ | ⟨b, off, cap0, rs, q1, q2, q3, q4, q5, q6, q7⟩
    · simp only [Value.slice.injEq] at q3
      obtain ⟨rfl, q3, rfl⟩ := q3
      have q4 := q4 rfl
      subst q4
      have hys : ys = [] := List.eq_nil_of_length_eq_zero (by omega)
      subst q2; subst hys
      have hcn : cells = [] := List.eq_nil_of_length_eq_zero (by have := hS.len; simpa using this)
      have hr := run_append_in (P := P) (ty := ty) (base := base) (sLen := 0) (sCap := 0) (m := 0) (vy := vy) (cells := []) h0 h1 hu hu1 hd1 hi (hS.lenOf w) (by rw [hik]; have := hS.first w rfl; rw [hcn] at this; exact this) (by omega) (w' := w) (fun a _ => by simp [storeCells, Sem.run_pure]) (fun _ => rfl)
      refine ⟨_, _, hr, ?_⟩
      exact fin (M := .nil) (Nat.le_refl _) (fun b _ _ => rfl) (f1.flat2 hf) (by simp only [Rep]; exact ⟨_, rfl, .inl ⟨rfl, rfl, base, 0, rfl, by simp⟩⟩) (by simp [fp]) SameEnv.refl hd hdn
    · -- in place
      simp only [Value.slice.injEq] at q2
      obtain ⟨rfl, _, rfl⟩ := q2
      obtain ⟨cur, tt, fr, g1, g2, g3⟩ := q6 rfl
      have hcl : cells.length = ys.length * k.size := hS.len
      have hmul : l.length * k.size + ys.length * k.size ≤ cap * k.size := by rw [← Nat.add_mul]; exact Nat.mul_le_mul_right _ hroom
      have hfit : off + l.length * k.size + cells.length ≤ cur.size := by omega
      have hw' : ∀ b', b' ≠ b → (w.setRow b (setFrom cur.toList (off + l.length * k.size) cells).toArray).heap[b']? = w.heap[b']? := fun b' hb' => setRow_other w b b' _ hb'
      have hg' := setRow_heap w b cur (setFrom cur.toList (off + l.length * k.size) cells).toArray tt fr g1
      have hrun := run_store_row P b (off + l.length * k.size) tt fr cells 0 cur w g1 (by simpa using hfit) (fun q h1 h2 => by rcases g3 with g3 | g3 <;> omega) hS.one
      simp only [Nat.add_zero] at hrun
      have hr := run_append_in (P := P) (ty := ty) (base := some ⟨b, off, none⟩) (sLen := l.length) (sCap := cap) (m := ys.length) (vy := vy) (cells := cells) h0 h1 hu hu1 hd1 hi (hS.lenOf w) (by rw [hik]; exact hS.first w rfl) hroom
        (w' := w.setRow b (setFrom cur.toList (off + l.length * k.size) cells).toArray) (fun a ha => by
          simp only [Option.some.injEq] at ha
          subst ha
          rw [add_none, hik]
          exact hrun) (by simp)
      refine ⟨_, _, hr, ?_⟩
      have hcell : ∀ q, (w.setRow b (setFrom cur.toList (off + l.length * k.size) cells).toArray).cell? ⟨b, q, none⟩ = if off + l.length * k.size ≤ q ∧ q < off + l.length * k.size + cells.length then cells[q - (off + l.length * k.size)]? else w.cell? ⟨b, q, none⟩ := by
        intro q
        simp only [World.cell?, hg', g1, Option.isSome_none, Bool.false_eq_true, if_false, List.getElem?_toArray]
        rw [setFrom_get _ _ _ _ (by simpa using hfit)]
        simp
      have hS4 : ∃ rs', subL k0 (G.lt s j) p = .node b off cap rs' := by
        cases hq : subL k0 (G.lt s j) p with
        | node b1 off1 cap1 rs1 =>
          rw [hq] at q1
          simp only [cutL, Option.getD_none, Nat.zero_mul, Nat.add_zero, Nat.sub_zero] at q1
          split at q1
          · simp at q1
          · simp only [LT.node.injEq] at q1
            obtain ⟨rfl, rfl, rfl, _⟩ := q1
            exact ⟨_, rfl⟩
        | _ => rw [hq] at q1; simp [cutL] at q1
      obtain ⟨rs', hS4⟩ := hS4
      have hrepS : RepL true (w.setRow b (setFrom cur.toList (off + l.length * k.size) cells).toArray) k.size (Rep false (w.setRow b (setFrom cur.toList (off + l.length * k.size) cells).toArray) k) l (subL k0 (G.lt s j) p) u := by
        rw [hS4] at f1 ⊢
        rcases f1 with ⟨h, _⟩ | ⟨b', off', cap', rows', e1, e2, e3, e4, hn, h5, h6⟩
        · simp at h
        · simp only [LT.node.injEq] at e1
          obtain ⟨rfl, rfl, rfl, rfl⟩ := e1
          refine .inr ⟨_, _, _, _, rfl, e2, e3, e4, by rw [hg']; simp, fun _ => ⟨_, _, _, hg', by simpa [setFrom_length] using g2, by simpa [setFrom_length] using g3⟩, fun i x r hx hr => ?_⟩
          obtain ⟨vs, y1, y2⟩ := h6 i x r hx hr
          refine ⟨vs, fun c u hu => ?_, y2.flat hf⟩
          rw [hcell, if_neg]
          · exact y1 c u hu
          · have hi' := (List.getElem?_eq_some_iff.1 hx).1
            have hcs : c < k.size := by rw [← y2.size]; exact (List.getElem?_eq_some_iff.1 hu).1
            have : (i + 1) * k.size ≤ l.length * k.size := Nat.mul_le_mul_right _ hi'
            rw [Nat.add_mul] at this
            omega
      refine fin (M := .node b off cap (rowsOf (cutL k.size none none l.length (subL k0 (G.lt s j) p)) ++ rows)) (v' := .slice (some ⟨b, off, none⟩) (l.length + ys.length) cap) (by simp) (fun b' hb' _ => hw' b' (by rintro rfl; exact hb' (by rw [hS4]; simp [fp]))) hrepS ?_ (fun b' hb' => .inl ?_) ⟨rfl, rfl, rfl⟩ hd hdn
      · simp only [Rep]
        refine ⟨_, rfl, RepL.loose2 (repl_append (P := P) (dd := false) r4 hS ho1 ho5 (by simp) (by simp) (fun q u hu => ?_) (by rw [hg']; simp) ⟨_, _, _, hg', by simpa [setFrom_length] using g2, by simpa [setFrom_length] using g3⟩ hroom (by rw [hrf]; simp [Same]) (by rw [hrf]; simp [Same]))⟩
        rw [hcell]
        have hql : q < olds.length + cells.length := by have := (List.getElem?_eq_some_iff.1 hu).1; simpa using this
        by_cases hq : q < olds.length
        · rw [if_neg (by omega)]
          rw [List.getElem?_append_left hq] at hu
          exact ho6 _ _ _ _ q1 q u hu
        · rw [if_pos (by omega)]
          rw [List.getElem?_append_right (by omega)] at hu
          rw [← hu]
          congr 1
          omega
      · simp only [fp, hrf, List.mem_cons, List.not_mem_nil, or_false] at hb'
        subst hb'
        rw [hS4]
        simp [fp]
  · -- a new row
    have hge := grownCap_ge w (l.length + ys.length) cap el
    have h63 : ((l.length + ys.length : Nat) : Int) ≤ 9223372036854775807 := by simp only [rowMost] at hmost; omega
    have hb2 : (l.length + ys.length) * i.bytes ≤ 140737488355328 := by
      have : (l.length + ys.length) * i.bytes ≤ (2 * (l.length + ys.length) + 512) * i.bytes := Nat.mul_le_mul_right _ (by omega)
      simp only [byteMost] at hby
      omega
    have hr := run_append_out (P := P) (ty := ty) (base := base) (sLen := l.length) (sCap := cap) (m := ys.length) (vy := vy) (olds := olds) (cells := cells) h0 h1 hu hu1 hd1 hi hz (hS.lenOf w) (by rw [hik]; exact ho2 w.drew rfl) (by rw [hik]; exact hS.first w.drew rfl) hroom h63
      (growslice_fits (by omega) hb2)
    refine ⟨_, _, hr, ?_⟩
    have hnew := heap_alloc_new w.drew (.cells (olds.toArray ++ cells.toArray ++ Builtin.zeroCells z.cells (grownCap w (l.length + ys.length) cap el - (l.length + ys.length))) el)
    have hdr : w.drew.heap = w.heap := rfl
    rw [hdr] at hnew
    have hnone : w.heap[w.heap.size]? = none := by simp
    have hsm : ∀ b', w.heap[b']? ≠ none → (w.drew.alloc (.cells (olds.toArray ++ cells.toArray ++ Builtin.zeroCells z.cells (grownCap w (l.length + ys.length) cap el - (l.length + ys.length))) el)).heap[b']? = w.heap[b']? := fun b' hb' => alloc_same w.drew _ b' hb'
    refine fin (M := .node w.heap.size 0 (grownCap w (l.length + ys.length) cap el) (rowsOf (cutL k.size none none l.length (subL k0 (G.lt s j) p)) ++ rows)) (v' := .slice (some ⟨w.heap.size, 0, none⟩) (l.length + ys.length) (grownCap w (l.length + ys.length) cap el)) (by simp) (fun b' _ hb' => hsm b' hb') ?_ ?_ (fun b' hb' => .inr ?_) ⟨rfl, rfl, rfl⟩ hd hdn
    · have : Rep true (w.drew.alloc (.cells (olds.toArray ++ cells.toArray ++ Builtin.zeroCells z.cells (grownCap w (l.length + ys.length) cap el - (l.length + ys.length))) el)) (.list k) l (subL k0 (G.lt s j) p) [u] :=
        Rep.same (w := w) (by simp only [Rep]; exact ⟨_, rfl, f1⟩) (fun b' hb' => hsm b' (f1.there b' hb'))
      exact (rep_list this).flat2 hf
    · simp only [Rep]
      refine ⟨_, rfl, RepL.loose2 (repl_append (P := P) (dd := false) r4 hS ho1 ho5 (by simp) (by simp) (fun q u hu => ?_) (by rw [hnew]; simp) ⟨_, _, _, hnew, ?_, .inr (by simp)⟩ hge (by rw [hrf]; simp [Same]) (by rw [hrf]; simp [Same]))⟩
      · simp only [World.cell?, hnew, Option.isSome_none, Bool.false_eq_true, if_false, Nat.zero_add]
        have hql : q < olds.length + cells.length := by have := (List.getElem?_eq_some_iff.1 hu).1; simpa using this
        rw [Array.getElem?_append_left (by simpa using hql)]
        simpa using hu
      · simp only [Array.size_append, List.size_toArray, size_zeroCells, hzk, ho1, hS.len, ← Nat.add_mul, Nat.zero_add]
        exact Nat.mul_le_mul_right _ (by omega)
    · simp only [fp, hrf, List.mem_cons, List.not_mem_nil, or_false] at hb'
      subst hb'
      exact hnone

end ops
end Go.Mach
/- The machine, part z: append as an operation, done. No condition: lemmas. -/
namespace Go.Mach
set_option linter.unusedVariables false
set_option linter.unusedSimpArgs false

theorem srcC_d {vars : List Nat} {t t' : Tr} {k : K} {y : C} {ys : List k.T} {d : Bool} (h : srcC vars t k y = some (t', ys, d)) : t'.d = t.d := by
  cases y with
  | ref s j rv sv p lo hi k1 =>
    simp only [srcC] at h
    split at h
    · simp at h
    · rename_i hg
      split at h
      · simp only [Option.some.injEq, Prod.mk.injEq] at h; rw [← h.1]
      · split at h
        · simp only [Option.some.injEq, Prod.mk.injEq] at h; rw [← h.1]
        · split at h
          · simp only [Option.some.injEq, Prod.mk.injEq] at h; rw [← h.1]; rfl
          · simp only [Option.some.injEq, Prod.mk.injEq] at h; rw [← h.1]; exact grab_d hg
        · simp at h
  | dat k' z =>
    cases k' with
    | str =>
      simp only [srcC] at h
      split at h
      · simp only [Option.some.injEq, Prod.mk.injEq] at h; rw [← h.1]
      · simp at h
    | _ =>
      simp only [srcC] at h
      split at h
      · simp at h
      · rename_i hg
        simp only [Option.some.injEq, Prod.mk.injEq] at h; rw [← h.1]; exact grab_d hg
  | nil =>
    simp only [srcC] at h
    split at h
    · simp at h
    · rename_i hg
      simp only [Option.some.injEq, Prod.mk.injEq] at h; rw [← h.1]; exact grab_d hg
  | _ => simp [srcC, Tr.grab] at h

section ops
variable {P : Program} {n : Nat} {e : Env} {a : Act} {w : World} {G : Gh} {get : Nat → Slot} {o : Oper} {x : Ctx} {ws : Writes}

theorem sound_append {c0 : Call} (hty : ∀ t, x.ty t = tyOf P t) (hb : Begin n e a w G get o) (ho : o.op = .call c0) (hcb : c0.callee = .builtin .append) (hat0 : (c0.argTypes[0]?).isSome = true) (hat1 : (c0.argTypes[1]?).isSome = true) {cx cy : C}
    (hc : opds get c0.args.toList = some [(.one, [cx]), (.one, [cy])]) (hfit : fitsTy (x.ty (c0.argTypes.getD 1 0)) cy = true) {t2 : Tr} {c : C} (hap : appendC x.ty x.vars { get, d := o.dst } (c0.argTypes.getD 0 0) cx cy = some (t2, c))
    (h : t2.own o.dst (.one, [c]) = some ws) : Sound P n e a w G o ws := by
  obtain ⟨y, z, hargs, hy, hz⟩ := opds_two hc
  obtain ⟨L, h1, _⟩ := hb.one (by simp [ho, Op.operands, Call.operands, hcb, hargs]) hy
  obtain ⟨M, h2, _⟩ := hb.one (by simp [ho, Op.operands, Call.operands, hcb, hargs]) hz
  obtain ⟨t0, ht0⟩ := Option.isSome_iff_exists.1 hat0
  obtain ⟨t1, ht1⟩ := Option.isSome_iff_exists.1 hat1
  have hg0 : c0.argTypes.getD 0 0 = t0 := by simp only [Array.getD_eq_getD_getElem?, ht0, Option.getD_some]
  have hg1 : c0.argTypes.getD 1 0 = t1 := by simp only [Array.getD_eq_getD_getElem?, ht1, Option.getD_some]
  rw [hg0] at hap
  rw [hg1, hty] at hfit
  have hu1 : ∃ d1, P.underlying t1 = some d1 ∧ ((∃ e1, d1 = .slice e1) ∨ d1 = .string) := by
    by_cases hq : ∃ l, cy = .dat .str l
    · obtain ⟨l, rfl⟩ := hq
      exact ⟨_, fits_str hfit, .inr rfl⟩
    · obtain ⟨el, hel⟩ := fits_slice hfit (fun l q => hq ⟨l, q⟩)
      exact ⟨_, hel, .inl ⟨el, rfl⟩⟩
  obtain ⟨d1, hu1, hd1⟩ := hu1
  have hty' : x.ty = tyOf P := funext hty
  rw [hty'] at hap
  simp only [appendC] at hap
  split at hap
  · rename_i el hd
    have hu := ty_slice hd
    split at hap
    · simp at hap
    · rename_i k hk
      obtain ⟨i, hi, hik⟩ := ty_k hk
      split at hap
      · simp at hap
      · rename_i t3 ys d hsrc
        obtain ⟨e1, G1, Hy, rows, cells, hS⟩ := src_ok (P := P) hb.inv hb.tr h2 hsrc
        have hcx := hS.ext.cell _ _ _ (by
          cases cx with
          | own => simp at hap
          | _ => rfl) h1
        have htd : t3.d = o.dst := srcC_d hsrc
        -- the end
        have fin : ∀ (t4 : Tr) (e2 : Env) (l : List k.T) (L' : LT) (deep : Bool) (Hx : List Nat), t4.d = o.dst → Inv n e2 a.tmps w G1 → TrOk e t4 e2 → Ext w e1 G1 e2 G1 → Hand w e1 G1 e2 G1 Hx → RepL true w k.size (Rep deep w k) l L' (a.eval y) → Hx = ownB (.own 0 0 deep k l) L' →
            (deep = false → ∀ b ∈ inner k L', G1.ow b = none) → l.length + ys.length ≤ rowMost → (2 * (l.length + ys.length) + 512) * (tyOf P el).bytes ≤ byteMost → (tyOf P el).zero.isSome = true → (tyOf P el).zeros.length = k.size →
            t4.own o.dst (.one, [.own 0 0 (deep && d) k (l ++ ys)]) = some ws → Sound P n e a w G o ws := by
          intro t4 e2 l L' deep Hx g1 g2 g3 g4 g5 g6 g7 g8 g9 g10 g11 g12 g13
          obtain ⟨i', zv, hi', hz'⟩ := zero_info g11
          rw [hi] at hi'
          simp only [Option.some.injEq] at hi'
          subst hi'
          rw [zeros_eq hi hz'] at g12
          rw [(ty_size hi).2.2.1] at g10
          obtain ⟨dd, hdd, hws⟩ := own_dst g13
          have hand2 := hS.hand.append hS.ext g4 g5 (fun b q1 q2 => (hS.ext.loose b q1 q2).1) (fun b q => hS.ext.some_before (g4.some_before (g5.mem b q).2.1))
          have hB : Both w e2 G1 k l L' deep (a.eval y) Hx rows d Hy := by
            refine ⟨g6, g7, g8, ?_, fun b hb' => ?_, fun b hb' => ?_, hS.fpy, hS.there, hS.free⟩
            · exact List.perm_append_comm.nodup_iff.1 hand2.nodup
            · obtain ⟨m1, m2, m3, _⟩ := hand2.mem b (by rw [List.mem_append] at hb' ⊢; exact hb'.symm)
              exact ⟨m1, m2, m3⟩
            · exact hand2.owner hb.inv (hS.ext.trans g4) b (by rw [List.mem_append] at hb' ⊢; exact hb'.symm)
          obtain ⟨v', w', hr, hp⟩ := append_core (P := P) (ty := o.type) (a := a) (G0 := G) g2 g3 ((hS.ext.trans g4).held hb.inv) hB hS.src ht0 ht1 hu hu1 hd1 hi hik hz' (by simpa using g12) g9 g10 (g1.trans hdd) (hb.inb.dst dd hdd)
          refine Sound.new (u := v') (w' := w') ?_ hdd hp hws
          simp only [execOp, ho, resolve, hcb, hargs, Sem.run_bind, Sem.run_pure, Result.andThen_ok, invoke, builtin]
          have : (#[y, z].map a.eval) = #[a.eval y, a.eval z] := by simp
          rw [this, hr]
          rfl
        split at hap
        · split at hap
          · rename_i hcond
            obtain ⟨b1, b2, b3, b4⟩ := hcond
            simp only [Option.some.injEq, Prod.mk.injEq] at hap
            obtain ⟨rfl, rfl⟩ := hap
            have hv : a.eval y = .slice none 0 0 := hcx
            refine fin t3 e1 [] .nil true [] htd hS.inv hS.tr Ext.refl Hand.nil (.inl ⟨rfl, rfl, none, 0, hv, fun _ => rfl⟩) (by simp [ownB, fp]) (by simp) (by simpa using b1) (by simpa using b2) b3 b4 (by simpa using h)
          · simp at hap
        · rename_i s j rv sv lo hi' k1
          split at hap
          · rename_i rv' sv' deep k0 l0 hcell
            split at hap
            · rename_i hq
              obtain ⟨q1, q2⟩ := hq
              split at hap
              · simp at hap
              · rename_i l hl
                have hl := castL_some hl
                simp only [Sigma.mk.injEq] at hl
                obtain ⟨rfl, hl⟩ := hl
                have hl := eq_of_heq hl
                subst hl
                split at hap
                · rename_i hcond
                  obtain ⟨b1, b2, b3, b4⟩ := hcond
                  simp only [Option.some.injEq, Prod.mk.injEq] at hap
                  obtain ⟨rfl, rfl⟩ := hap
                  obtain ⟨e2, Hx, L', m1, m2, m3, m4, m5, m6, m7⟩ := dst_ok hS.inv hS.tr hcx hcell q1 q2
                  exact fin _ e2 _ L' deep Hx (by exact htd) m1 m2 m3 m4 m5 m6 m7 b1 b2 b3 b4 h
                · simp at hap
            · simp at hap
          · simp at hap
        · rename_i s j rv sv q0 p k1
          split at hap
          · rename_i rv' sv' deep k0 l0 hcell
            split at hap
            · rename_i hq
              obtain ⟨rfl, rfl, q3, rfl, q5⟩ := hq
              split at hap
              · simp at hap
              · rename_i l hl
                have hl := castL_some hl
                split at hap
                · rename_i hcond
                  obtain ⟨b1, b2, b3, b4⟩ := hcond
                  simp only [Option.some.injEq, Prod.mk.injEq] at hap
                  obtain ⟨rfl, rfl⟩ := hap
                  obtain ⟨s1, s2⟩ := hS.tr.cell hcell (by simp)
                  obtain ⟨i', zv, hi', hz'⟩ := zero_info b3
                  rw [hi] at hi'
                  simp only [Option.some.injEq] at hi'
                  subst hi'
                  rw [zeros_eq hi hz'] at b4
                  rw [(ty_size hi).2.2.1] at b2
                  obtain ⟨dd, hdd, hws⟩ := own_dst h
                  obtain ⟨v', w', hr, hp⟩ := nest_core (P := P) (ty := o.type) (a := a) (G0 := G) hS.inv hS.tr (hS.ext.held hb.inv) s2 s1 hcx (by simp) q3 hl q5 hS.src ht0 ht1 hu hu1 hd1 hi hik hz' (by simpa using b4) b1 b2 (htd.trans hdd) (hb.inb.dst dd hdd)
                  refine Sound.new (u := v') (w' := w') ?_ hdd hp hws
                  simp only [execOp, ho, resolve, hcb, hargs, Sem.run_bind, Sem.run_pure, Result.andThen_ok, invoke, builtin]
                  have : (#[y, z].map a.eval) = #[a.eval y, a.eval z] := by simp
                  rw [this, hr]
                  rfl
                · simp at hap
            · simp at hap
          · simp at hap
        · simp at hap
  · simp at hap

end ops

end Go.Mach
/- The machine, part na: many slots at once; worlds that differ where nobody looks. No condition: lemmas. -/
namespace Go.Mach
set_option linter.unusedVariables false
set_option linter.unusedSimpArgs false

/-- Many slots are turned at once. -/
theorem Inv.turns {n : Nat} {e e' : Env} {tm tm' : Array Value} {w w' : World} {G G' : Gh} (h : Inv n e tm w G) (S : Nat → Prop) (hlen : n ≤ e'.length) (hsz : tm'.size = n)
    (hx : ∀ t, ¬ S t → e'.get t = e.get t)
    (hG : ∀ t, ¬ S t → G'.vs t = G.vs t ∧ (∀ j, G'.lt t j = G.lt t j) ∧ G'.bk t = G.bk t) (htm : ∀ t, ¬ S t → t < n → tm'[t]? = tm[t]?)
    (hTM : ∀ t, S t → TM e e' G G' t) (hst : Still w w' G.ow G'.ow)
    (hown : ∀ t, ¬ S t → ∀ b ∈ fpS G t (e.get t), w'.heap[b]? = w.heap[b]? ∧ G'.ow b = some t)
    (hself : ∀ t, S t → SlotOk n e' tm' w' G' t) (hlt : ∀ b t, G'.ow b = some t → b < w'.heap.size) : Inv n e' tm' w' G' := by
  have ht : ∀ t, TM e e' G G' t := fun t => by
    by_cases g : S t
    · exact hTM t g
    · exact TM.refl (hx t g) (hG t g).2.1 (hG t g).2.2
  refine ⟨hsz, hlen, fun t => ?_, hlt⟩
  by_cases g : S t
  · exact hself t g
  · obtain ⟨g1, g2, g3⟩ := hG t g
    exact (h.slot t).frame (hx t g) (htm t g) g1 g2 g3 ht hst (hown t g)

/-- The callee's slots: how a list of arguments becomes slots. -/
theorem inSlots_length (n : Nat) (md : List Bool) : ∀ (i : Nat) (args : List Val), (inSlots n md i args).1.length = args.length ∧ (inSlots n md i args).2.length = 2 * args.length
  | i, [] => ⟨rfl, rfl⟩
  | i, (sh, cs) :: r => by
    obtain ⟨h1, h2⟩ := inSlots_length n md (i + 1) r
    simp only [inSlots]
    split
    · split <;> (simp [h1, h2]; omega)
    · simp [h1, h2]; omega

end Go.Mach
/- The machine, part nb: every operation is sound (calls by their contract); one step of a region. No condition: lemmas. -/
namespace Go.Mach
set_option linter.unusedVariables false
set_option linter.unusedSimpArgs false

/-- What is asked of a machine's book: its types are the program's; its calls are sound. -/
structure CtxOk (P : Program) [Tabs P] (x : Ctx) : Prop where
  ty : ∀ t, x.ty t = tyOf P t
  call : ∀ {e : Env} {a : Act} {w : World} {G : Gh} {get : Nat → Slot} {o : Oper} {c0 : Call} {f : Operand} {g : Nat} {caps : List C} {vs : List Val} {t2 : Tr},
    Begin x.n e a w G get o → Laid P w G → o.op = .call c0 → c0.callee = .value f → opd get f = some (.one, [.fn g caps]) → opds get c0.args.toList = some vs →
    callC x { get, d := o.dst } o.dst g (vs ++ caps.map fun c => (.one, [c])) = some t2 → Sound P x.n e a w G o t2.ws
  agg : ∀ {e : Env} {a : Act} {w : World} {G : Gh} {get : Nat → Slot} {o : Oper} {op : BinOp} {ty yt : TypeId} {y z : Operand} {cs ds : List C} {ws : Writes},
    Begin x.n e a w G get o → o.op = .binOp op ty y z yt → opd get y = some (.agg, cs) → opd get z = some (.agg, ds) → act x get o = some ws → Sound P x.n e a w G o ws

theorem act_sound {P : Program} [Tabs P] {x : Ctx} (hx : CtxOk P x) {e : Env} {a : Act} {w : World} {G : Gh} {get : Nat → Slot} {o : Oper} {ws : Writes} (hb : Begin x.n e a w G get o) (hlaid : Laid P w G) (h : act x get o = some ws) : Sound P x.n e a w G o ws := by
  have hty := hx.ty
  cases ho : o.op with
  | move y => exact sound_move hb ho h
  | assign y => exact sound_assign hb ho h
  | pick y z t => exact sound_pick hb ho h
  | alloc t => exact sound_alloc hty hb ho h
  | box t y => exact sound_box hty hb ho h
  | build t ps => exact sound_build hty hb ho h
  | buildSlice t m ps => exact sound_buildSlice hty hb ho h
  | load t y => exact sound_load hty hb ho h
  | store t y z => exact sound_store hty rfl hb ho h
  | nilCheck y => exact sound_nilCheck hb ho h
  | binOp op t y z yt => exact sound_binOp hty hb ho (fun cs ds h1 h2 => hx.agg hb ho h1 h2 h) h
  | unOp op t y => exact sound_unOp hb ho h
  | convert s d y => exact sound_convert hty hb ho h
  | makeFunc f fi caps => exact sound_makeFunc hb ho h
  | makeSlice t y z => exact sound_makeSlice hty hb ho h
  | slice t y lo hi mx =>
    cases mx with
    | none => exact sound_slice hty hb ho h
    | some m => simp [act, ho] at h
  | fieldAddr t y f => exact sound_fieldAddr hty hb ho h
  | field t y f => exact sound_field hty hb ho h
  | indexAddr t y z => exact sound_indexAddr hty hb ho h
  | index t y z => exact sound_index hty hb ho h
  | extract y i => exact sound_extract hb ho h
  | call c0 =>
    simp only [act, ho] at h
    split at h
    · rename_i b hcb
      split at h
      · rename_i c hc
        split at h
        · simp at h
        · rename_i hq
          split at h
          · rename_i m hm
            exact sound_len hty hb ho hcb (eq_true_of_ne_false fun q => hq (.inl q)) hc (eq_true_of_ne_false fun q => hq (.inr q)) hm h
          · simp at h
      · rename_i ca cb hc
        split at h
        · simp at h
        · rename_i hq
          split at h
          · rename_i t2 c hap
            exact sound_append hty hb ho hcb (eq_true_of_ne_false fun q => hq (.inl q)) (eq_true_of_ne_false fun q => hq (.inr (.inl q))) hc (eq_true_of_ne_false fun q => hq (.inr (.inr q))) hap h
          · simp at h
      · rename_i k p k' q hc
        split at h
        · rename_i hk
          subst hk
          exact sound_max hb ho hcb hc h
        · simp at h
      · rename_i k p k' q hc
        split at h
        · rename_i hk
          subst hk
          exact sound_min hb ho hcb hc h
        · simp at h
      · simp at h
    · rename_i f hcf
      split at h
      · rename_i g caps vs hf hvs
        cases hc : callC x { get, d := o.dst } o.dst g (vs ++ caps.map fun c => (.one, [c])) with
        | none => rw [hc] at h; simp at h
        | some t2 =>
          rw [hc] at h
          simp only [Option.map_some, Option.some.injEq] at h
          subst h
          exact hx.call hb hlaid ho hcf hf hvs hc
      · simp at h
    · simp at h
  | _ => simp [act, ho] at h

/-! ### One step -/
theorem wantedOk {n : Nat} {e : Env} {a : Act} {w : World} {G : Gh} (h : Inv n e a.tmps w G) {ops : Array Oper} {o : Oper} (hin : ∀ s ∈ guardSlots ops o, s < n) {b : Bool} (hw : wanted e (guardOf ops o) = some b) (hlen : n ≤ 1000000) :
    Region.wanted o (yielded ops a.tmps) = b := by
  unfold Region.wanted
  cases hg : o.guard with
  | none => simp only [guardOf, hg, wanted, Option.some.injEq] at hw; exact hw
  | some p =>
    obtain ⟨j, want⟩ := p
    simp only [guardOf, hg, guardSlots, wanted] at hw hin
    cases hd : (ops[j]?).bind (·.dst) with
    | none =>
      rw [hd] at hin
      simp at hin
      omega
    | some d =>
      rw [hd] at hw hin
      simp only [Option.getD_some, List.mem_singleton, forall_eq] at hw hin
      have hs := h.slot d
      have hf := hs.form hin
      simp only [yielded, hd, Option.bind_some]
      split at hw
      · rename_i b' hsh hcs
        simp only [Option.some.injEq] at hw
        subst hw
        have hl := hs.len (by rw [hsh]; simp)
        rw [hcs] at hl
        match hvs : G.vs d, hl with
        | [v], _ =>
          have hc := hs.cells (by rw [hsh]; simp) 0 _ v (by rw [hcs]; rfl) (by rw [hvs]; rfl)
          have hv := dat_bool hc
          subst hv
          rw [hsh] at hf
          simp only [FormIs, hvs] at hf
          rw [hf]
          simp only [form, List.headD_cons]
          cases b' <;> cases want <;> rfl
      · rename_i hsh
        simp only [Option.some.injEq] at hw
        subst hw
        rw [hsh] at hf
        simp only [FormIs, form, cutVals] at hf
        rw [hf]
        cases want <;> rfl
      · simp at hw

theorem skip_ok {n : Nat} {e : Env} {a : Act} {w : World} {G : Gh} (h : Inv n e a.tmps w G) {o : Oper} (hd : ∀ d, o.dst = some d → d < n) : ∃ G', Post n (e.puts (skipWs e o)) a w G (a.put o.dst undef) w G' := by
  have ht : TrOk e { get := e.get, d := o.dst } e := TrOk.start (fun s => .inl rfl) (fun _ _ => rfl)
  have hv : ValOk e w G (.tup [], []) undef [] (fun _ => .leaf) := ⟨⟨rfl, fun j c v hc _ => by simp at hc⟩, by simp [form, cutVals, undef], by simp, by simp, by simp⟩
  obtain ⟨G', hp⟩ := lay_quiet h ht Held.refl hv hd
  refine ⟨G', ?_⟩
  cases hdd : o.dst with
  | none => rw [hdd] at hp; simpa [skipWs, hdd, Tr.lay] using hp
  | some d => rw [hdd] at hp; simpa [skipWs, hdd, Tr.lay, Tr.put, Tr.at, Env.puts] using hp

theorem stepA_begin {x : Ctx} {ops : Array Oper} {e : Env} {o : Oper} {s : Step} (h : stepA x ops e o = some s) : (∀ t ∈ opSlots o, t < x.n) ∧ (∀ t ∈ guardSlots ops o, t < x.n) ∧
    ((wanted e (guardOf ops o) = some false ∧ s = { ws := skipWs e o, reads := guardSlots ops o ++ o.dst.toList }) ∨
     (wanted e (guardOf ops o) = some true ∧ ∃ ws, act x (fun s => if (looks e o).contains s then e.get s else {}) o = some ws ∧ s = { ws, reads := guardSlots ops o ++ readsOf x e o, soft := softOf x e o, idx := idxOf e o })) := by
  unfold stepA at h
  split at h
  · simp at h
  · rename_i hin
    have hin : (opSlots o).all (· < x.n) = true ∧ (guardSlots ops o).all (· < x.n) = true := by
      cases h1 : (opSlots o).all (· < x.n) <;> cases h2 : (guardSlots ops o).all (· < x.n) <;> simp_all
    refine ⟨by simpa using hin.1, by simpa using hin.2, ?_⟩
    split at h
    · simp at h
    · rename_i hw
      simp only [Option.some.injEq] at h
      exact .inl ⟨hw, h.symm⟩
    · rename_i hw
      split at h
      · simp at h
      · rename_i ws hws
        simp only [Option.some.injEq] at h
        exact .inr ⟨hw, ws, hws, h.symm⟩

theorem begin_looks {n : Nat} {e : Env} {a : Act} {w : World} {G : Gh} {o : Oper} (h : Inv n e a.tmps w G) (hin : ∀ t ∈ opSlots o, t < n) : Begin n e a w G (fun s => if (looks e o).contains s then e.get s else {}) o := by
  refine ⟨h, fun s => ?_, fun d hd => ?_, hin⟩
  · by_cases q : (looks e o).contains s = true
    · left; rw [if_pos q]
    · right; rw [if_neg q]
  · have : (looks e o).contains d = true := by
      have h1 : d ∈ opSlots o := by simp [opSlots, hd]
      simp only [looks]
      split <;> simp [h1]
    rw [if_pos this]

/-- A step stands for the model's. -/
theorem stepA_sound {P : Program} [Tabs P] {x : Ctx} (hx : CtxOk P x) (hlen : x.n ≤ 1000000) {ops : Array Oper} {e : Env} {a : Act} {w : World} {G : Gh} {i : Nat} {o : Oper} (ho : ops[i]? = some o) {s : Step} (hi : Inv x.n e a.tmps w G) (hlaid : Laid P w G)
    (h : stepA x ops e o = some s) (K : Act → World → Prop) (Q : Exit → Act → World → Prop) (hk : ∀ a' w' G', Post x.n (e.puts s.ws) a w G a' w' G' → K a' w') : wpOp P ops Q i K a w := by
  obtain ⟨h1, h2, h3⟩ := stepA_begin h
  unfold wpOp
  simp only [ho]
  rcases h3 with ⟨hw, rfl⟩ | ⟨hw, ws, hws, rfl⟩
  · rw [wantedOk hi h2 hw hlen]
    obtain ⟨G', hp⟩ := skip_ok (o := o) hi (fun d hd => h1 d (by simp [opSlots, hd]))
    simp only [Bool.false_eq_true, if_false]
    exact hk _ _ _ hp
  · rw [wantedOk hi h2 hw hlen]
    simp only [if_true]
    exact .inl (act_sound hx (begin_looks hi h1) hlaid hws K Q hk)

end Go.Mach
/- The machine, part nc: regions, in the order of the text and in any order. No condition: lemmas. -/
namespace Go.Mach
set_option linter.unusedVariables false
set_option linter.unusedSimpArgs false

theorem Post.trans {n : Nat} {e1 e2 : Env} {a a1 a2 : Act} {w w1 w2 : World} {G G1 G2 : Gh} (h : Post n e1 a w G a1 w1 G1) (h' : Post n e2 a1 w1 G1 a2 w2 G2) (hl : e1.length = e2.length) : Post n e2 a w G a2 w2 G2 :=
  ⟨h'.inv, (hl ▸ h.held).trans h'.held, Nat.le_trans h.grows h'.grows, h'.defers.trans h.defers, h.env.trans h'.env⟩

theorem Post.refl {n : Nat} {e : Env} {a : Act} {w : World} {G : Gh} (h : Inv n e a.tmps w G) : Post n e a w G a w G := ⟨h, Held.refl, Nat.le_refl _, rfl, SameEnv.refl⟩

theorem runA_length {x : Ctx} {ops : Array Oper} : ∀ {l : List Nat} {e e' : Env} {tr : Trace}, runA x ops e l = some (e', tr) → e'.length = e.length
  | [], e, e', tr, h => by simp only [runA, Option.some.injEq, Prod.mk.injEq] at h; rw [h.1]
  | i :: r, e, e', tr, h => by
    simp only [runA] at h
    split at h
    · simp at h
    · split at h
      · simp at h
      · split at h
        · simp at h
        · rename_i hr
          simp only [Option.some.injEq, Prod.mk.injEq] at h
          have := runA_length hr
          rw [puts_length] at this
          rw [← h.1, this]

theorem runA_cons {x : Ctx} {ops : Array Oper} {i : Nat} {r : List Nat} {e e' : Env} {tr : Trace} (h : runA x ops e (i :: r) = some (e', tr)) :
    ∃ o s tr', ops[i]? = some o ∧ stepA x ops e o = some s ∧ runA x ops (e.puts s.ws) r = some (e', tr') ∧ tr = entry i e s :: tr' := by
  simp only [runA] at h
  split at h
  · simp at h
  · rename_i o ho
    split at h
    · simp at h
    · rename_i s hs
      split at h
      · simp at h
      · rename_i e1 tr1 hr
        simp only [Option.some.injEq, Prod.mk.injEq] at h
        obtain ⟨rfl, rfl⟩ := h
        exact ⟨o, s, tr1, ho, hs, hr, rfl⟩

theorem runA_sound {P : Program} [Tabs P] {x : Ctx} (hx : CtxOk P x) (hlen : x.n ≤ 1000000) {ops : Array Oper} : ∀ {l : List Nat} {e e' : Env} {tr : Trace} {a : Act} {w : World} {G : Gh}, Inv x.n e a.tmps w G → Laid P w G → runA x ops e l = some (e', tr) →
    ∀ (Q : Exit → Act → World → Prop), (∀ a' w' G', Post x.n e' a w G a' w' G' → Q .normal a' w') → wpOps P ops Q l a w
  | [], e, e', tr, a, w, G, hi, hlaid, h, Q, hq => by
    simp only [runA, Option.some.injEq, Prod.mk.injEq] at h
    obtain ⟨rfl, _⟩ := h
    exact hq _ _ _ (Post.refl hi)
  | i :: r, e, e', tr, a, w, G, hi, hlaid, h, Q, hq => by
    obtain ⟨o, s, tr', ho, hs, hr, _⟩ := runA_cons h
    rw [wpOps_cons]
    refine stepA_sound hx hlen ho hi hlaid hs _ _ fun a1 w1 G1 hp => ?_
    refine runA_sound hx hlen hp.inv (hlaid.post hp) hr Q fun a2 w2 G2 hp2 => hq _ _ _ (hp.trans hp2 (runA_length hr).symm)

/-! ### Any order -/
theorem puts_get_ne {ws : Writes} : ∀ {e : Env} {t : Nat}, t ∉ ws.map (·.1) → (e.puts ws).get t = e.get t := by
  induction ws with
  | nil => intro e t _; rfl
  | cons a ws ih =>
    obtain ⟨s, x⟩ := a
    intro e t h
    simp only [List.map_cons, List.mem_cons, not_or] at h
    simp only [Env.puts]
    rw [ih h.2, get_set_ne h.1]

theorem set_puts {ws : Writes} : ∀ {e : Env} {s : Nat} {x : Slot}, s ∉ ws.map (·.1) → Env.puts (e.set s x) ws = (Env.puts e ws).set s x := by
  induction ws with
  | nil => intro e s x _; rfl
  | cons a ws ih =>
    obtain ⟨s', y⟩ := a
    intro e s x h
    simp only [List.map_cons, List.mem_cons, not_or] at h
    simp only [Env.puts]
    rw [List.set_comm _ _ h.1, ih h.2]

theorem puts_comm {w1 : Writes} : ∀ {w2 : Writes} {e : Env}, (∀ t ∈ w1.map (·.1), t ∉ w2.map (·.1)) → (e.puts w1).puts w2 = (e.puts w2).puts w1 := by
  induction w1 with
  | nil => intro w2 e _; rfl
  | cons a w1 ih =>
    obtain ⟨s, x⟩ := a
    intro w2 e h
    simp only [Env.puts]
    rw [ih (fun t ht => h t (by simp only [List.map_cons, List.mem_cons]; exact .inr ht)), set_puts (h s (by simp))]

theorem disjoint_not {a b : List Nat} (h : disjoint a b = true) : ∀ t ∈ a, t ∉ b := by
  intro t ht hb
  simp only [disjoint, List.all_eq_true] at h
  have := h t ht
  simp [hb] at this

theorem looks_congr {e e' : Env} {o : Oper} (h : ∀ t ∈ looks e o, e'.get t = e.get t) : looks e' o = looks e o := by
  simp only [looks] at h ⊢
  split
  · rfl
  · rename_i hq
    congr 1
    rw [List.flatMap_def, List.flatMap_def]
    congr 1
    refine List.map_congr_left fun t ht => ?_
    rw [h t (by rw [if_neg hq]; simp only [List.mem_append]; exact .inl ht)]

theorem cellSame_symm {a b : C} (h : cellSame a b = true) : cellSame b a = true := by
  cases a <;> cases b <;> simp [cellSame] at h ⊢
  obtain ⟨rfl, rfl, rfl⟩ := h
  simp
theorem cellsSame_symm : ∀ {n : Nat} {a b : List C}, cellsSame a b n = true → cellsSame b a n = true
  | 0, _, _, _ => by simp [cellsSame]
  | n + 1, [], _, h => by simp [cellsSame] at h
  | n + 1, _ :: _, [], h => by simp [cellsSame] at h
  | n + 1, x :: a, y :: b, h => by
    simp only [cellsSame, Bool.and_eq_true] at h ⊢
    exact ⟨cellSame_symm h.1, cellsSame_symm h.2⟩
theorem softSame_box {z z' : Slot} {j n : Nat} (h : softSame z z' j n = true) : ∃ b, z.sh = .box b ∧ z'.sh = .box b ∧ z.cs.length = z'.cs.length ∧ cellsSame (z.cs.drop j) (z'.cs.drop j) n = true := by
  unfold softSame at h
  simp only [Bool.and_eq_true, Nat.beq_eq] at h
  obtain ⟨h1, h2, h3⟩ := h
  split at h1
  · rename_i b b' g1 g2
    rw [Nat.beq_eq] at h1
    subst h1
    exact ⟨b, g1, g2, h2, h3⟩
  · simp at h1
theorem softSame_symm {z z' : Slot} {j n : Nat} (h : softSame z z' j n = true) : softSame z' z j n = true := by
  obtain ⟨b, h1, h2, h3, h4⟩ := softSame_box h
  unfold softSame
  rw [h1, h2]
  simp [h3, cellsSame_symm h4]
theorem copyFrom_same {t : Nat} : ∀ {n j : Nat} {a b : List C}, cellsSame a b n = true → copyFrom t j (a.take n) = copyFrom t j (b.take n)
  | 0, j, a, b, _ => by simp
  | n + 1, j, [], _, h => by simp [cellsSame] at h
  | n + 1, j, _ :: _, [], h => by simp [cellsSame] at h
  | n + 1, j, x :: a, y :: b, h => by
    simp only [cellsSame, Bool.and_eq_true] at h
    simp only [List.take_succ_cons, copyFrom]
    rw [copyFrom_same h.2]
    congr 1
    have := h.1
    cases x <;> cases y <;> simp [cellSame] at this
    obtain ⟨rfl, rfl, rfl⟩ := this
    simp [C.copy]
theorem loadC_same {get get' : Nat → Slot} {s bv j n : Nat} (h : softSame (get s) (get' s) j n = true ∨ get' s = get s) : loadC get' n (.bptr s bv j) = loadC get n (.bptr s bv j) := by
  rcases h with h | h
  · obtain ⟨b, h1, h2, h3, h4⟩ := softSame_box h
    simp only [loadC]
    rw [h1, h2, h3, copyFrom_same h4]
  · simp only [loadC, h]

theorem lay_ws {get get' : Nat → Slot} {d : Option Nat} {v : Val} (h : ∀ t, d = some t → get' t = get t) : (Tr.lay { get := get', d } d v).ws = (Tr.lay { get, d } d v).ws := by
  cases d with
  | none => rfl
  | some t => simp [Tr.lay, Tr.put, Tr.at, h t rfl]

theorem opd_tmp {get get' : Nat → Slot} {t : Nat} (h : get' t = get t) : opd get' (.tmp t) = opd get (.tmp t) := by simp only [opd, h]

theorem softAt_some {e : Env} {o : Oper} {t n s j m : Nat} (h : softAt e o t n = some (s, j, m)) : m = n ∧ ∃ bv, opd e.get (.tmp t) = some (.one, [.bptr s bv j]) ∧ ∀ d, o.dst = some d → d ≠ s := by
  unfold softAt at h
  split at h
  · rename_i s' bv j' hop
    split at h
    · rename_i d hd
      split at h
      · simp at h
      · rename_i hne
        simp only [Option.some.injEq, Prod.mk.injEq] at h
        obtain ⟨rfl, rfl, rfl⟩ := h
        refine ⟨rfl, bv, hop, fun d' hd' q => ?_⟩
        rw [hd] at hd'
        simp only [Option.some.injEq] at hd'
        subst hd' q
        simp at hne
    · simp at h
  · simp at h

theorem chill_bptr {x : Ctx} {t : Tr} {s b j : Nat} (h : hitD t.d x.gv = false) : chill x t (.bptr s b j) = t := by simp only [chill, h]
theorem at_start (get : Nat → Slot) (d : Option Nat) : Tr.at { get, d } = get := rfl

/-- A look at a box depends on what it takes alone. -/
theorem act_soft {x : Ctx} {e e' : Env} {o : Oper} {s j n : Nat} (hs : softOf x e o = some (s, j, n)) (he : ∀ t ∈ opSlots o, t ≠ s → e'.get t = e.get t) (ha : softSame (e.get s) (e'.get s) j n = true ∨ e'.get s = e.get s) :
    softOf x e' o = some (s, j, n) ∧ act x (fun t => if (looks e' o).contains t then e'.get t else {}) o = act x (fun t => if (looks e o).contains t then e.get t else {}) o := by
  have key : ∀ (t m : Nat), softAt e o t m = some (s, j, n) → t ∈ opSlots o → ∃ bv, m = n ∧ opd e.get (.tmp t) = some (.one, [.bptr s bv j]) ∧ opd e'.get (.tmp t) = some (.one, [.bptr s bv j]) ∧ softAt e' o t m = some (s, j, n) ∧ ∀ d, o.dst = some d → d ≠ s := by
    intro t m h hm
    obtain ⟨rfl, bv, h1, h2⟩ := softAt_some h
    have h3 : opd e'.get (.tmp t) = some (.one, [.bptr s bv j]) := by
      by_cases q : t = s
      · subst q
        rcases ha with ha | ha
        · obtain ⟨b, g1, g2, _⟩ := softSame_box ha
          simp only [opd, g1] at h1
          simp only [opd, g2]
          exact h1
        · rw [opd_tmp ha]; exact h1
      · rw [opd_tmp (he t hm q)]; exact h1
    refine ⟨bv, rfl, h1, h3, ?_, h2⟩
    unfold softAt at h ⊢
    rw [h1] at h
    rw [h3]
    exact h
  have hin : ∀ (f : Env) t, t ∈ opSlots o → (looks f o).contains t = true := by
    intro f t ht
    simp only [looks]
    split <;> simp [ht]
  have hdst : ∀ d, o.dst = some d → d ∈ opSlots o := fun d hd => by simp [opSlots, hd]
  have hopd : ∀ (f : Env) t, t ∈ opSlots o → opd (fun t => if (looks f o).contains t then f.get t else ({} : Slot)) (.tmp t) = opd f.get (.tmp t) := fun f t ht => opd_tmp (if_pos (hin f t ht))
  have hlay : ∀ v, (∀ d, o.dst = some d → d ≠ s) → (Tr.lay { get := fun t => if (looks e' o).contains t then e'.get t else ({} : Slot), d := o.dst } o.dst v).ws = (Tr.lay { get := fun t => if (looks e o).contains t then e.get t else ({} : Slot), d := o.dst } o.dst v).ws := by
    intro v hd
    refine lay_ws fun t ht => ?_
    rw [if_pos (hin e' t (hdst t ht)), if_pos (hin e t (hdst t ht)), he t (hdst t ht) (hd t ht)]
  unfold softOf at hs
  split at hs
  · rename_i ty t hop
    split at hs
    · simp at hs
    rename_i hgv
    have hm : t ∈ opSlots o := by simp [opSlots, hop, Op.operands]
    obtain ⟨bv, h1, h2, h3, h4, h5⟩ := key t _ hs hm
    refine ⟨by unfold softOf; rw [hop]; simp only [hgv]; exact h4, ?_⟩
    have hsl : ∀ f : Env, opd f.get (.tmp t) = some (.one, [.bptr s bv j]) → (looks f o).contains s = true := by
      intro f hf
      by_cases q : t = s
      · subst q; exact hin f t hm
      · simp only [looks, hop, quietOp]
        simp only [Bool.false_eq_true, if_false, List.contains_iff_mem, List.mem_append, List.mem_flatMap]
        right
        refine ⟨t, by simpa [opSlots, hop] using hm, .bptr s bv j, ?_, by simp [C.targets]⟩
        simp only [opd] at hf
        split at hf
        · simp at hf
        · simp only [Option.some.injEq, Prod.mk.injEq, List.cons.injEq, C.bptr.injEq] at hf
          exact absurd hf.2.1.1 q
        · simp only [Option.some.injEq, Prod.mk.injEq] at hf
          have hc := hf.2
          cases hcs : (f.get t).cs with
          | nil => rw [hcs] at hc; simp [copyFrom] at hc
          | cons c r =>
            rw [hcs] at hc
            simp only [copyFrom, List.cons.injEq] at hc
            have : c = .bptr s bv j := by
              have := hc.1
              cases c <;> simp [C.copy] at this ⊢ <;> exact this
            simp [this]
    have hl : loadC (fun t => if (looks e' o).contains t then e'.get t else ({} : Slot)) (x.ty ty).size (.bptr s bv j) = loadC (fun t => if (looks e o).contains t then e.get t else ({} : Slot)) (x.ty ty).size (.bptr s bv j) := by
      refine loadC_same ?_
      rw [if_pos (hsl e h2), if_pos (hsl e' h3), h1]
      exact ha
    unfold act
    simp only [hop, hopd e t hm, hopd e' t hm, h2, h3, chill_bptr (t := { get := fun t => if (looks e o).contains t then e.get t else ({} : Slot), d := o.dst }) hgv, chill_bptr (t := { get := fun t => if (looks e' o).contains t then e'.get t else ({} : Slot), d := o.dst }) hgv, at_start]
    rw [hl]
    split
    · cases loadC (fun t => if (looks e o).contains t then e.get t else ({} : Slot)) (x.ty ty).size (.bptr s bv j) with
      | none => rfl
      | some cs => simp only [hlay _ h5]
    · rfl
  · rename_i ty t f hop
    have hm : t ∈ opSlots o := by simp [opSlots, hop, Op.operands]
    obtain ⟨bv, h1, h2, h3, h4, h5⟩ := key t _ hs hm
    refine ⟨by unfold softOf; rw [hop]; exact h4, ?_⟩
    unfold act
    simp only [hop, hopd e t hm, hopd e' t hm, h2, h3, addC, hlay _ h5]
  · simp at hs

/-- A list's root, but for what lies in it. -/
def IdxAlike (idx : Option Nat) (e e' : Env) : Prop := ∀ t, idx = some t → e'.get t = e.get t ∨ ∃ rv sv d d' k l l', (e.get t).sh = .one ∧ (e.get t).cs = [.own rv sv d k l] ∧ (e'.get t).sh = .one ∧ (e'.get t).cs = [.own rv sv d' k l']

theorem IdxAlike.symm {idx : Option Nat} {e e' : Env} (h : IdxAlike idx e e') : IdxAlike idx e' e := by
  intro t ht
  rcases h t ht with h | ⟨rv, sv, d, d', k, l, l', h1, h2, h3, h4⟩
  · exact .inl h.symm
  · exact .inr ⟨rv, sv, d', d, k, l', l, h3, h4, h1, h2⟩

theorem idxOf_some {e : Env} {o : Oper} {t : Nat} (h : idxOf e o = some t) : ∃ rv sv d k l, o.op = .move (.tmp t) ∧ (e.get t).sh = .one ∧ (e.get t).cs = [.own rv sv d k l] ∧ dstIs o t = false := by
  unfold idxOf at h
  split at h
  · rename_i t0 hop
    split at h
    · rename_i rv sv d k l h1 h2
      split at h
      · simp at h
      · rename_i hb
        simp only [Option.some.injEq] at h
        subst h
        exact ⟨rv, sv, d, k, l, hop, h1, h2, hb⟩
    · simp at h
  · simp at h

/-- A look at a list's root depends on that alone. -/
theorem act_idx {x : Ctx} {e e' : Env} {o : Oper} {t : Nat} (hs : idxOf e o = some t) (he : ∀ u ∈ opSlots o, u ≠ t → e'.get u = e.get u) (ha : IdxAlike (some t) e e') :
    idxOf e' o = some t ∧ act x (fun u => if (looks e' o).contains u then e'.get u else {}) o = act x (fun u => if (looks e o).contains u then e.get u else {}) o := by
  obtain ⟨rv, sv, d, k, l, hop, h1, h2, hb⟩ := idxOf_some hs
  have h3 : ∀ d, o.dst = some d → d ≠ t := by
    rintro d hd rfl
    simp [dstIs, hd] at hb
  obtain ⟨d', l', g1, g2⟩ : ∃ d' l', (e'.get t).sh = .one ∧ (e'.get t).cs = [.own rv sv d' k l'] := by
    rcases ha t rfl with h | ⟨rv', sv', d0, d', k', l0, l', q1, q2, q3, q4⟩
    · rw [h]; exact ⟨d, l, h1, h2⟩
    · rw [h2] at q2
      simp only [List.cons.injEq, and_true] at q2
      cases q2
      exact ⟨d', l', q3, q4⟩
  refine ⟨by unfold idxOf; rw [hop]; simp only [g1, g2, hb], ?_⟩
  have hin : ∀ (f : Env) u, u ∈ opSlots o → (looks f o).contains u = true := by
    intro f u hu
    simp only [looks]
    split <;> simp [hu]
  have hm : t ∈ opSlots o := by simp [opSlots, hop, Op.operands]
  have hdst : ∀ d, o.dst = some d → d ∈ opSlots o := fun d hd => by simp [opSlots, hd]
  have hlay : ∀ v, (Tr.lay { get := fun u => if (looks e' o).contains u then e'.get u else ({} : Slot), d := o.dst } o.dst v).ws = (Tr.lay { get := fun u => if (looks e o).contains u then e.get u else ({} : Slot), d := o.dst } o.dst v).ws := by
    intro v
    refine lay_ws fun u hu => ?_
    rw [if_pos (hin e' u (hdst u hu)), if_pos (hin e u (hdst u hu)), he u (hdst u hu) (h3 u hu)]
  have hx : ∀ (f : Env) dd ll, (f.get t).sh = .one → (f.get t).cs = [.own rv sv dd k ll] → opd (fun u => if (looks f o).contains u then f.get u else ({} : Slot)) (.tmp t) = some (.one, [.ref t 0 rv sv [] none none k]) := by
    intro f dd ll q1 q2
    simp only [opd, if_pos (hin f t hm), q1, q2, copyFrom, C.copy]
  unfold act
  simp only [hop, hx e d l h1 h2, hx e' d' l' g1 g2, hlay]

/-- Two slots are alike to a step. -/
def Alike (s : Soft) (e e' : Env) : Prop := ∀ t j n, s = some (t, j, n) → softSame (e.get t) (e'.get t) j n = true ∨ e'.get t = e.get t

theorem idxOf_congr {e e' : Env} {o : Oper} (h : ∀ t ∈ opSlots o, e'.get t = e.get t) : idxOf e' o = idxOf e o := by
  unfold idxOf
  split
  · rename_i t hop
    rw [h t (by simp [opSlots, hop, Op.operands])]
  · rfl

theorem idx_soft {x : Ctx} {e e' : Env} {o : Oper} {t : Nat} (h : idxOf e o = some t) : softOf x e' o = none := by
  obtain ⟨_, _, _, _, _, hop, _⟩ := idxOf_some h
  unfold softOf
  rw [hop]

theorem soft_idx {x : Ctx} {e : Env} {o : Oper} {p : Nat × Nat × Nat} (h : softOf x e o = some p) (f : Env) : idxOf f o = none := by
  unfold softOf at h
  split at h
  · rename_i hop; unfold idxOf; rw [hop]
  · rename_i hop; unfold idxOf; rw [hop]
  · simp at h

theorem cellSame_own {c c' : C} (h : cellSame c c' = true) : ∃ rv sv d d' k l l', c = .own rv sv d k l ∧ c' = .own rv sv d' k l' := by
  cases c <;> cases c' <;> simp [cellSame] at h
  obtain ⟨rfl, rfl, rfl⟩ := h
  exact ⟨_, _, _, _, _, _, _, rfl, rfl⟩

theorem rootSame_own {z z' : Slot} (h : rootSame z z' = true) : ∃ rv sv d d' k l l', z.sh = .one ∧ z.cs = [.own rv sv d k l] ∧ z'.sh = .one ∧ z'.cs = [.own rv sv d' k l'] := by
  unfold rootSame at h
  split at h
  · rename_i c c' h1 h2 h3 h4
    obtain ⟨rv, sv, d, d', k, l, l', rfl, rfl⟩ := cellSame_own h
    exact ⟨rv, sv, d, d', k, l, l', h1, h2, h3, h4⟩
  · simp at h

theorem puts_get_or {ws : Writes} : ∀ {e : Env} {t : Nat}, (e.puts ws).get t = e.get t ∨ ∃ q ∈ ws, q.1 = t ∧ (e.puts ws).get t = q.2 := by
  induction ws with
  | nil => intro e t; exact .inl rfl
  | cons a ws ih =>
    obtain ⟨s, x⟩ := a
    intro e t
    simp only [Env.puts]
    rcases ih (e := e.set s x) (t := t) with h | ⟨q, h1, h2, h3⟩
    · by_cases g : t = s
      · subst g
        rcases Nat.lt_or_ge t e.length with hl | hl
        · right
          refine ⟨(t, x), by simp, rfl, ?_⟩
          rw [h]
          simp [Env.get, List.getD_eq_getElem?_getD, hl]
        · left
          rw [h]
          simp [Env.get, List.getD_eq_getElem?_getD, hl]
      · left
        rw [h, get_set_ne g]
    · exact .inr ⟨q, by simp [h1], h2, h3⟩

/-- Writes that leave a list's root alone. -/
theorem idxAlike_of {e : Env} {ws : Writes} {idx : Option Nat} (h : idxOk (ws.map fun q => (q.1, e.get q.1, q.2)) idx = true) : IdxAlike idx e (e.puts ws) := by
  rintro t rfl
  rcases puts_get_or (ws := ws) (e := e) (t := t) with h1 | ⟨q, h1, rfl, h3⟩
  · exact .inl h1
  · right
    simp only [idxOk, List.all_eq_true, List.mem_map] at h
    have := h _ ⟨q, h1, rfl⟩
    simp only [Bool.or_eq_true, Bool.not_eq_true'] at this
    rcases this with g | g
    · simp at g
    · obtain ⟨rv, sv, d, d', k, l, l', r1, r2, r3, r4⟩ := rootSame_own g
      rw [h3]
      exact ⟨rv, sv, d, d', k, l, l', r1, r2, r3, r4⟩

theorem stepA_local {x : Ctx} {ops : Array Oper} {e e' : Env} {o : Oper} {s : Step} (h : stepA x ops e o = some s) (he : ∀ t ∈ s.reads, e'.get t = e.get t) (hal : Alike s.soft e e') (hix : IdxAlike s.idx e e') : stepA x ops e' o = some s := by
  have hcond : (!((opSlots o).all (· < x.n) && (guardSlots ops o).all (· < x.n))) = false := by
    unfold stepA at h
    split at h
    · simp at h
    · rename_i q; exact Bool.not_eq_true _ ▸ q
  obtain ⟨_, _, h3⟩ := stepA_begin h
  have hguard : (∀ t ∈ guardSlots ops o, e'.get t = e.get t) → wanted e' (guardOf ops o) = wanted e (guardOf ops o) := by
    intro q
    cases hg : guardOf ops o with
    | none => rfl
    | some p =>
      obtain ⟨t, want⟩ := p
      simp only [guardSlots, hg] at q
      simp only [wanted, q t (by simp)]
  unfold stepA
  rw [hcond]
  simp only [Bool.false_eq_true, if_false]
  rcases h3 with ⟨hw, rfl⟩ | ⟨hw, ws, hws, rfl⟩
  · rw [hguard fun t ht => he t (by simp [ht]), hw]
    simp only [Option.some.injEq, Step.mk.injEq, and_true]
    simp only [skipWs]
    split
    · rename_i d hd
      rw [he d (by simp [hd])]
    · rfl
  · rw [hguard fun t ht => he t (by simp [ht]), hw]
    simp only
    cases hsoft : softOf x e o with
    | none =>
      cases hidx : idxOf e o with
      | none =>
        have hro : readsOf x e o = looks e o := by simp only [readsOf, hsoft, hidx]
        rw [hro] at he ⊢
        have hmem : ∀ t ∈ opSlots o, t ∈ guardSlots ops o ++ looks e o := fun t ht => by
          simp only [looks, List.mem_append]
          right
          split <;> simp [ht]
        have hl : looks e' o = looks e o := looks_congr fun t ht => he t (by simp [ht])
        have hs' : softOf x e' o = none := by
          rw [← hsoft]
          have hop : ∀ t, t ∈ opSlots o → opd e'.get (.tmp t) = opd e.get (.tmp t) := fun t ht => opd_tmp (he t (hmem t ht))
          unfold softOf
          split
          · rename_i ty t hop'
            cases hitD o.dst x.gv <;> simp only [softAt, hop t (by simp [opSlots, hop', Op.operands])]
          · rename_i ty t f hop'
            simp only [softAt, hop t (by simp [opSlots, hop', Op.operands])]
          · rfl
        have hi' : idxOf e' o = none := by
          rw [← hidx]
          exact idxOf_congr fun t ht => he t (hmem t ht)
        have hro' : readsOf x e' o = looks e o := by simp only [readsOf, hs', hi', hl]
        have : (fun s => if (looks e' o).contains s = true then e'.get s else ({} : Slot)) = fun s => if (looks e o).contains s = true then e.get s else {} := by
          funext t
          rw [hl]
          by_cases q : (looks e o).contains t = true
          · rw [if_pos q, if_pos q]
            exact he t (by simp only [List.mem_append]; right; simpa using q)
          · rw [if_neg q, if_neg q]
        rw [this, hws, hro', hs', hi']
      | some t =>
        have hro : readsOf x e o = (opSlots o).filter fun u => !Nat.beq u t := by simp only [readsOf, hsoft, hidx]
        rw [hro] at he ⊢
        obtain ⟨q1, q2⟩ := act_idx (x := x) (e' := e') hidx (fun u hu hne => he u (by
          simp only [List.mem_append, List.mem_filter]
          right
          refine ⟨hu, ?_⟩
          cases hb : Nat.beq u t with
          | false => rfl
          | true => exact absurd (Nat.eq_of_beq_eq_true hb) hne)) (fun u hu => by
            simp only [Option.some.injEq] at hu
            subst hu
            exact hix t hidx)
        rw [q2, hws]
        have hs' : softOf x e' o = none := idx_soft hidx
        have hro' : readsOf x e' o = (opSlots o).filter fun u => !Nat.beq u t := by simp only [readsOf, hs', q1]
        rw [hro', hs', q1]
    | some p =>
      obtain ⟨s0, j, n⟩ := p
      have hno : ∀ f, idxOf f o = none := soft_idx hsoft
      have hro : readsOf x e o = (opSlots o).filter fun t => !Nat.beq t s0 := by simp only [readsOf, hsoft]
      rw [hro] at he ⊢
      obtain ⟨q1, q2⟩ := act_soft (e' := e') hsoft (fun t ht hne => he t (by
        simp only [List.mem_append, List.mem_filter]
        right
        refine ⟨ht, ?_⟩
        cases hb : Nat.beq t s0 with
        | false => rfl
        | true => exact absurd (Nat.eq_of_beq_eq_true hb) hne)) (hal s0 j n hsoft)
      rw [q2, hws]
      have hro' : readsOf x e' o = (opSlots o).filter fun t => !Nat.beq t s0 := by simp only [readsOf, q1]
      rw [hro', q1, hno e', hno e]

theorem alike_of {soft : Soft} {e : Env} {ws : Writes} (h : softOk (ws.map fun q => (q.1, e.get q.1, q.2)) soft = true) : Alike soft e (e.puts ws) := by
  rintro t j n rfl
  rcases puts_get_or (ws := ws) (e := e) (t := t) with h1 | ⟨q, h1, h2, h3⟩
  · exact .inr h1
  · left
    simp only [softOk, List.all_eq_true, List.mem_map] at h
    have := h _ ⟨q, h1, rfl⟩
    simp only [Bool.or_eq_true, Bool.not_eq_true'] at this
    rcases this with g | g
    · rw [h2] at g; simp at g
    · rw [h3]; rw [h2] at g; exact g

theorem Alike.symm {soft : Soft} {e e' : Env} (h : Alike soft e e') : Alike soft e' e := fun t j n hs => (h t j n hs).imp softSame_symm Eq.symm

theorem entry_congr {i : Nat} {e e' : Env} {s : Step} (h : ∀ t ∈ s.ws.map (·.1), e'.get t = e.get t) : entry i e' s = entry i e s := by
  simp only [entry]
  have : s.ws.map (fun q => (q.1, e'.get q.1, q.2)) = s.ws.map fun q => (q.1, e.get q.1, q.2) := List.map_congr_left fun q hq => by rw [h q.1 (List.mem_map.2 ⟨q, hq, rfl⟩)]
  rw [this]

theorem swap {x : Ctx} {ops : Array Oper} {e : Env} {i j : Nat} {oi oj : Oper} {si sj : Step} (hi : stepA x ops e oi = some si) (hj : stepA x ops (e.puts si.ws) oj = some sj)
    (hd : indep (entry i e si) (entry j (e.puts si.ws) sj) = true) :
    stepA x ops e oj = some sj ∧ stepA x ops (e.puts sj.ws) oi = some si ∧ (e.puts sj.ws).puts si.ws = (e.puts si.ws).puts sj.ws ∧ entry j (e.puts si.ws) sj = entry j e sj ∧ entry i (e.puts sj.ws) si = entry i e si := by
  simp only [indep, Bool.and_eq_true] at hd
  obtain ⟨⟨⟨⟨d1, d2⟩, d3⟩, d4, d5⟩, d6, d7⟩ := hd
  have d1 := disjoint_not d1
  have d2 := disjoint_not d2
  have d3 := disjoint_not d3
  have e1 : entry j (e.puts si.ws) sj = entry j e sj := entry_congr fun t ht => puts_get_ne fun q => d2 t q ht
  have e2 : entry i (e.puts sj.ws) si = entry i e si := entry_congr fun t ht => puts_get_ne fun q => d2 t ht q
  rw [e1] at d5 d7
  have q1 := stepA_local hj (fun t ht => (puts_get_ne fun q => d1 t q ht).symm) (alike_of (e := e) d4).symm (idxAlike_of (e := e) d6).symm
  exact ⟨q1, stepA_local hi (fun t ht => puts_get_ne fun q => d3 t q ht) (alike_of d5) (idxAlike_of d7), (puts_comm d2).symm, e1, e2⟩

theorem runA_ids {x : Ctx} {ops : Array Oper} : ∀ {l : List Nat} {e e' : Env} {tr : Trace}, runA x ops e l = some (e', tr) → tr.map (·.1) = l
  | [], e, e', tr, h => by simp only [runA, Option.some.injEq, Prod.mk.injEq] at h; rw [← h.2]; rfl
  | i :: r, e, e', tr, h => by
    obtain ⟨o, s, tr', _, _, hr, rfl⟩ := runA_cons h
    simp [runA_ids hr, entry]

theorem bubble {x : Ctx} {ops : Array Oper} {j : Nat} {R2 : List Nat} : ∀ {R1 : List Nat} {e ef : Env} {tr : Trace}, runA x ops e (R1 ++ j :: R2) = some (ef, tr) →
    ∃ tr1 tj tr2, tr = tr1 ++ tj :: tr2 ∧ tr1.map (·.1) = R1 ∧ tj.1 = j ∧ ((∀ c ∈ tr1, indep c tj = true) → ∃ o s, ops[j]? = some o ∧ stepA x ops e o = some s ∧ tj = entry j e s ∧ runA x ops (e.puts s.ws) (R1 ++ R2) = some (ef, tr1 ++ tr2))
  | [], e, ef, tr, h => by
    obtain ⟨o, s, tr', ho, hs, hr, rfl⟩ := runA_cons h
    exact ⟨[], _, tr', rfl, rfl, rfl, fun _ => ⟨o, s, ho, hs, rfl, hr⟩⟩
  | i :: R1, e, ef, tr, h => by
    obtain ⟨oi, si, tr', hoi, hsi, hr, rfl⟩ := runA_cons h
    obtain ⟨tr1, tj, tr2, rfl, h1, h2, h3⟩ := bubble hr
    refine ⟨_ :: tr1, tj, tr2, rfl, by simp [h1, entry], h2, fun hc => ?_⟩
    obtain ⟨o, s, ho, hs, hsj, hr'⟩ := h3 fun c hc' => hc c (by simp [hc'])
    have hin := hc _ (List.mem_cons_self ..)
    rw [hsj] at hin
    obtain ⟨q1, q2, q3, q4, q5⟩ := swap hsi hs hin
    refine ⟨o, s, ho, q1, hsj.trans q4, ?_⟩
    simp only [List.cons_append, runA, hoi, q2]
    rw [q3, hr']
    simp only [q5]

theorem ordered_split {b : List Nat} : ∀ {tr1 : Trace} {tj : Entry} {tr2 : Trace}, ordered b (tr1 ++ tj :: tr2) = true → ordered b (tr1 ++ tr2) = true ∧ ∀ c ∈ tr1, comesBefore b c.1 tj.1 = true ∨ indep c tj = true
  | [], tj, tr2, h => by
    simp only [List.nil_append, ordered, Bool.and_eq_true] at h
    exact ⟨h.2, by simp⟩
  | c :: tr1, tj, tr2, h => by
    simp only [List.cons_append, ordered, Bool.and_eq_true, List.all_eq_true, Bool.or_eq_true] at h ⊢
    obtain ⟨h1, h2⟩ := h
    obtain ⟨g1, g2⟩ := ordered_split h2
    refine ⟨⟨fun d hd => h1 d ?_, g1⟩, fun d hd => ?_⟩
    · simp only [List.mem_append, List.mem_cons] at hd ⊢
      rcases hd with hd | hd
      · exact .inl hd
      · exact .inr (.inr hd)
    · simp only [List.mem_cons] at hd
      rcases hd with rfl | hd
      · exact h1 tj (by simp)
      · exact g2 d hd

theorem befOne_bit {acc : List Nat} : ∀ {l : List Edge} {i : Nat}, (befOne acc l).testBit i = true → ∃ d ∈ l, Region.binds .any d = true ∧ (i = d.on ∨ (acc.getD d.on 0).testBit i = true)
  | [], i, h => by simp [befOne] at h
  | d :: r, i, h => by
    simp only [befOne] at h
    split at h
    · rename_i hb
      rw [Nat.testBit_or, Nat.testBit_or, Nat.testBit_two_pow] at h
      simp only [Bool.or_eq_true, decide_eq_true_eq] at h
      rcases h with (h | h) | h
      · exact ⟨d, by simp, hb, .inl h.symm⟩
      · exact ⟨d, by simp, hb, .inr h⟩
      · obtain ⟨d', h1, h2⟩ := befOne_bit h
        exact ⟨d', by simp [h1], h2⟩
    · obtain ⟨d', h1, h2⟩ := befOne_bit h
      exact ⟨d', by simp [h1], h2⟩

theorem befs_prefix : ∀ {l : List Oper} {acc : List Nat}, ∃ r, befs acc l = acc ++ r
  | [], acc => ⟨[], by simp [befs]⟩
  | o :: l, acc => by
    obtain ⟨r, h⟩ := befs_prefix (l := l) (acc := acc ++ [befOne acc o.after.toList])
    exact ⟨befOne acc o.after.toList :: r, by simp [befs, h]⟩

theorem befs_get : ∀ {l : List Oper} {acc : List Nat} {j : Nat} {o : Oper}, l[j]? = some o → (befs acc l).getD (acc.length + j) 0 = befOne ((befs acc l).take (acc.length + j)) o.after.toList
  | [], acc, j, o, h => by simp at h
  | o' :: l, acc, 0, o, h => by
    simp only [List.getElem?_cons_zero, Option.some.injEq] at h
    subst h
    obtain ⟨r, hr⟩ := befs_prefix (l := l) (acc := acc ++ [befOne acc o'.after.toList])
    simp only [befs, hr]
    simp [List.getD_eq_getElem?_getD]
  | o' :: l, acc, j + 1, o, h => by
    simp only [List.getElem?_cons_succ] at h
    have := befs_get (acc := acc ++ [befOne acc o'.after.toList]) h
    simp only [List.length_append, List.length_cons, List.length_nil] at this
    simp only [befs]
    rw [show acc.length + (j + 1) = acc.length + (0 + 1) + j by omega]
    exact this

theorem edgesBack_get : ∀ {l : List Oper} {m j : Nat} {o : Oper}, edgesBack m l = true → l[j]? = some o → ∀ d ∈ o.after.toList, Region.binds .any d = true → d.on < m + j
  | [], m, j, o, _, h => by simp at h
  | o' :: l, m, 0, o, hb, h => by
    simp only [List.getElem?_cons_zero, Option.some.injEq] at h
    subst h
    simp only [edgesBack, Bool.and_eq_true, List.all_eq_true, Bool.or_eq_true, Bool.not_eq_true', decide_eq_true_eq] at hb
    intro d hd hbd
    rcases hb.1 d hd with q | q
    · rw [hbd] at q; simp at q
    · omega
  | o' :: l, m, j + 1, o, hb, h => by
    simp only [List.getElem?_cons_succ] at h
    simp only [edgesBack, Bool.and_eq_true] at hb
    intro d hd hbd
    have := edgesBack_get hb.2 h d hd hbd
    omega

theorem any_sound {P : Program} [Tabs P] {x : Ctx} (hx : CtxOk P x) (hlen : x.n ≤ 1000000) {ops : Array Oper} (hback : edgesBack 0 ops.toList = true) (Q : Exit → Act → World → Prop) :
    ∀ (fuel : Nat) {listed : Array Bool} {R : List Nat} {e ef : Env} {tr : Trace} {a : Act} {w : World} {G : Gh}, listed.size = ops.size →
    (∀ i, i ∈ R ↔ i < ops.size ∧ listed.getD i true = false) → R.Pairwise (· < ·) → R.length ≤ fuel →
    (∀ i j, comesBefore (befs [] ops.toList) i j = true → j < ops.size → listed.getD j true = true → listed.getD i false = true) →
    runA x ops e R = some (ef, tr) → ordered (befs [] ops.toList) tr = true → Inv x.n e a.tmps w G → Laid P w G → (∀ a' w' G', Post x.n ef a w G a' w' G' → Q .normal a' w') → wpAny P .any ops Q fuel listed a w := by
  intro fuel
  have mem_ready : ∀ (listed : Array Bool) j, j ∈ Region.ready .any ops listed ↔ j < ops.size ∧ listed.getD j true = false ∧ ∃ o, ops[j]? = some o ∧ ∀ d ∈ o.after.toList, Region.binds .any d = true → listed.getD d.on false = true := by
    intro listed j
    simp only [Region.ready, List.mem_filter, List.mem_range, Bool.and_eq_true, Bool.not_eq_true']
    constructor
    · rintro ⟨h1, h2, h3⟩
      refine ⟨h1, h2, ?_⟩
      cases ho : ops[j]? with
      | none => rw [ho] at h3; simp at h3
      | some o =>
        rw [ho] at h3
        simp only [Option.map_some, Option.getD_some, Array.all_eq_true_iff_forall_mem, Bool.or_eq_true, Bool.not_eq_true'] at h3
        refine ⟨o, rfl, fun d hd hb => ?_⟩
        have := h3 d (by simpa using hd)
        rcases this with q | q
        · rw [hb] at q; simp at q
        · exact q
    · rintro ⟨h1, h2, o, ho, h3⟩
      refine ⟨h1, h2, ?_⟩
      rw [ho]
      simp only [Option.map_some, Option.getD_some, Array.all_eq_true_iff_forall_mem, Bool.or_eq_true, Bool.not_eq_true']
      intro d hd
      cases hb : Region.binds .any d with
      | false => exact .inl rfl
      | true => exact .inr (h3 d (by simpa using hd) hb)
  induction fuel with
  | zero =>
    intro listed R e ef tr a w G hs hR hp hf hcl hr ho hi hlaid hq
    have : R = [] := List.eq_nil_of_length_eq_zero (by omega)
    subst this
    simp only [runA, Option.some.injEq, Prod.mk.injEq] at hr
    obtain ⟨rfl, _⟩ := hr
    refine ⟨?_, hq _ _ _ (Post.refl hi)⟩
    refine List.eq_nil_iff_forall_not_mem.2 fun j hj => ?_
    obtain ⟨h1, h2, _⟩ := (mem_ready listed j).1 hj
    have := (hR j).2 ⟨h1, h2⟩
    simp at this
  | succ fuel ih =>
    intro listed R e ef tr a w G hs hR hp hf hcl hr ho hi hlaid hq
    refine ⟨fun hnil => ?_, fun j hj => ?_⟩
    · cases R with
      | nil =>
        simp only [runA, Option.some.injEq, Prod.mk.injEq] at hr
        obtain ⟨rfl, _⟩ := hr
        exact hq _ _ _ (Post.refl hi)
      | cons j R =>
        exfalso
        obtain ⟨h1, h2⟩ := (hR j).1 (by simp)
        obtain ⟨o, hoj⟩ : ∃ o, ops[j]? = some o := ⟨ops[j], by simp [h1]⟩
        have hmem : j ∈ Region.ready .any ops listed := by
          refine (mem_ready listed j).2 ⟨h1, h2, o, hoj, fun d hd hb => ?_⟩
          have hlt := edgesBack_get (o := o) (j := j) hback (by simpa using hoj) d hd hb
          have hon : d.on < ops.size := by omega
          cases hl : listed.getD d.on true with
          | false =>
            have := (hR d.on).2 ⟨hon, hl⟩
            simp only [List.mem_cons] at this
            rcases this with q | q
            · omega
            · have := (List.pairwise_cons.1 hp).1 d.on q
              omega
          | true =>
            have hsz : d.on < listed.size := by omega
            simp only [Array.getD, hsz, dite_true] at hl ⊢
            exact hl
        rw [hnil] at hmem
        simp at hmem
    · obtain ⟨h1, h2, oj, hoj, h3⟩ := (mem_ready listed j).1 hj
      have hjR : j ∈ R := (hR j).2 ⟨h1, h2⟩
      obtain ⟨R1, R2, rfl⟩ := List.append_of_mem hjR
      have hbef : ∀ i, comesBefore (befs [] ops.toList) i j = true → listed.getD i false = true := by
        intro i hc
        simp only [comesBefore] at hc
        have hg := befs_get (acc := []) (l := ops.toList) (j := j) (o := oj) (by simpa using hoj)
        simp only [List.length_nil, Nat.zero_add] at hg
        rw [hg] at hc
        obtain ⟨d, hd, hb, hc⟩ := befOne_bit hc
        have hld := h3 d hd hb
        rcases hc with rfl | hc
        · exact hld
        · have hlt := edgesBack_get (o := oj) (j := j) hback (by simpa using hoj) d hd hb
          have hon : d.on < ops.size := by omega
          refine hcl i d.on ?_ hon ?_
          · simp only [comesBefore]
            rw [List.getD_eq_getElem?_getD, List.getElem?_take] at hc
            split at hc
            · rw [List.getD_eq_getElem?_getD]; exact hc
            · simp at hc
          · have hsz : d.on < listed.size := by omega
            simp only [Array.getD, hsz, dite_true] at hld ⊢
            exact hld
      obtain ⟨tr1, tj, tr2, rfl, g1, g2, g3⟩ := bubble hr
      obtain ⟨q1, q2⟩ := ordered_split ho
      obtain ⟨o, s, ho', hs', _, hr'⟩ := g3 fun c hc => by
        rcases q2 c hc with q | q
        · exfalso
          rw [g2] at q
          have hl := hbef _ q
          have hcR : c.1 ∈ R1 := by rw [← g1]; exact List.mem_map.2 ⟨c, hc, rfl⟩
          obtain ⟨k1, k2⟩ := (hR c.1).1 (by simp [hcR])
          have hsz : c.1 < listed.size := by omega
          simp only [Array.getD, hsz, dite_true] at hl k2
          rw [hl] at k2
          simp at k2
        · exact q
      refine stepA_sound hx hlen ho' hi hlaid hs' _ _ fun a1 w1 G1 hp1 => ?_
      have hnd : ∀ i, i ∈ R1 ++ R2 ↔ i ∈ R1 ++ j :: R2 ∧ i ≠ j := by
        intro i
        have hpw := List.pairwise_append.1 hp
        constructor
        · intro hi'
          refine ⟨by simp only [List.mem_append, List.mem_cons] at hi' ⊢; rcases hi' with q | q; exact .inl q; exact .inr (.inr q), ?_⟩
          rintro rfl
          simp only [List.mem_append] at hi'
          rcases hi' with q | q
          · have := hpw.2.2 i q i (by simp); omega
          · have := (List.pairwise_cons.1 hpw.2.1).1 i q; omega
        · rintro ⟨hi', hne⟩
          simp only [List.mem_append, List.mem_cons] at hi' ⊢
          rcases hi' with q | q | q
          · exact .inl q
          · exact absurd q hne
          · exact .inr q
      have hset : ∀ i d, (listed.setIfInBounds j true).getD i d = if i = j then true else listed.getD i d := by
        intro i d
        have hjs : j < listed.size := by omega
        by_cases q : i = j
        · subst q; simp [Array.getD, hjs]
        · rw [if_neg q]
          by_cases hsz : i < listed.size
          · simp [Array.getD, hsz, Array.getElem_setIfInBounds, Ne.symm q]
          · simp [Array.getD, hsz]
      refine ih (by simpa using hs) (fun i => ?_) ?_ ?_ ?_ hr' q1 hp1.inv (hlaid.post hp1) fun a2 w2 G2 hp2 => hq _ _ _ (hp1.trans hp2 (runA_length hr').symm)
      · rw [hnd, hR, hset]
        by_cases q : i = j
        · simp [q]
        · simp [q]
      · refine hp.sublist ?_
        exact List.Sublist.append (List.Sublist.refl _) (List.sublist_cons_self _ _)
      · simp only [List.length_append, List.length_cons] at hf ⊢
        omega
      · intro i k hc hk hl
        rw [hset] at hl ⊢
        by_cases q : i = j
        · rw [if_pos q]
        · rw [if_neg q]
          by_cases q' : k = j
          · subst q'
            exact hbef i hc
          · rw [if_neg q'] at hl
            exact hcl i k hc hk hl

/-- Only the memory counts. -/
theorem Inv.heap {n : Nat} {e : Env} {tm : Array Value} {w w' : World} {G : Gh} (h : Inv n e tm w G) (hh : w'.heap = w.heap) : Inv n e tm w' G :=
  ⟨h.size, h.elen, fun s => (h.slot s).frame rfl (fun _ => rfl) rfl (fun _ => rfl) rfl (fun t => TM.refl rfl (fun _ => rfl) rfl) (fun b q1 q2 => ⟨by rw [hh], q1⟩) (fun b hb => ⟨by rw [hh], (h.slot s).own b hb⟩),
    fun b s q => by rw [hh]; exact h.lt b s q⟩

/-- A region stands for the model's. -/
theorem region_sound {P : Program} [Tabs P] {x : Ctx} (hx : CtxOk P x) (hlen : x.n ≤ 1000000) (hm : P.follows .mixedOrders = true) {id : Nat} {ops : Array Oper} {draw : Bool} {e e' : Env} {a : Act} {w : World} {G : Gh} (hi : Inv x.n e a.tmps w G) (hlaid : Laid P w G)
    (h : region x ops draw e = some e') (Q : Exit → Act → World → Prop) (hq : ∀ a' w' G', Post x.n e' a w G a' w' G' → Q .normal a' w') : (Code.region id ops draw).wp P Q a w := by
  simp only [region] at h
  split at h
  · simp at h
  · rename_i e1 tr hr
    split at h
    · rename_i hc
      simp only [Option.some.injEq] at h
      subst h
      cases draw with
      | false => exact wp_region (runA_sound hx hlen hi hlaid hr Q hq)
      | true =>
        simp only [Bool.not_true, Bool.false_or, Bool.and_eq_true] at hc
        refine wp_region_any hm ?_
        have hi' : Inv x.n e a.tmps { w with drawn := w.drawn + 1 } G := hi.heap rfl
        refine any_sound hx hlen hc.1 Q ops.size (R := List.range ops.size) (by simp) (fun i => ?_) List.pairwise_lt_range (by simp) ?_ hr hc.2 hi' hlaid fun a' w' G' hp => hq _ _ _ ⟨hp.inv, ⟨hp.held.still, hp.held.vs, hp.held.out⟩, hp.grows, hp.defers, ⟨hp.env.os, hp.env.tape, hp.env.output⟩⟩
        · simp only [List.mem_range]
          constructor
          · intro h; exact ⟨h, by simp [Array.getD, h]⟩
          · exact fun h => h.1
        · intro i j hb hj hl
          simp [Array.getD, hj] at hl
    · simp at h

end Go.Mach
