/- Parts of a proof, packed: see the last text for what is proved. No condition: definitions and lemmas. -/
import Derived.Test.YtppjdpcmaipoaaaGreatZb
import Derived.LoopN
namespace Go.Mach
set_option linter.unusedVariables false
set_option linter.unusedSimpArgs false
theorem inner_rows (k : K) (L : LT) : inner k L = (rowsOf L).flatMap (fp k) := by cases L <;> rfl
section ops
variable {P : Program} {n : Nat} {e : Env} {a : Act} {w : World} {G : Gh} {get : Nat → Slot} {o : Oper} {x : Ctx} {ws : Writes}
structure Both (w : World) (e : Env) (G : Gh) (k : K) (l : List k.T) (L : LT) (deep : Bool) (v : Value) (Hx : List Nat) (rows : List LT) (d : Bool) (Hy : List Nat) : Prop where
 repl : RepL true w k.size (Rep deep w k) l L v
 hx : Hx = ownB (.own 0 0 deep k l) L
 inn : deep = false → ∀ b ∈ inner k L, G.ow b = none
 nodup : (Hx ++ Hy).Nodup
 mem : ∀ b ∈ Hx ++ Hy, Loose e G b ∧ G.ow b ≠ none ∧ b < w.heap.size
 owner : ∀ b ∈ Hx ++ Hy, ∀ t, G.ow b = some t → t < e.length
 fpy : d = true → Hy = rows.flatMap (fp k)
 there : ∀ b ∈ rows.flatMap (fp k), w.heap[b]? ≠ none
 free : ∀ b ∈ rows.flatMap (fp k), b ∈ Hy ∨ G.ow b = none
theorem Both.rowsx {k : K} {l : List k.T} {L : LT} {deep : Bool} {v : Value} {Hx : List Nat} {rows : List LT} {d : Bool} {Hy : List Nat} (h : Both w e G k l L deep v Hx rows d Hy) :
  ∀ b ∈ (rowsOf L).flatMap (fp k), (deep = true ∧ b ∈ Hx) ∨ G.ow b = none := by
 intro b hb
 cases hd : deep with
 | true =>
  left
  refine ⟨rfl, ?_⟩
  rw [h.hx, hd]
  simp only [ownB, fp_list]
  exact List.mem_append_right _ (by rw [inner_rows]; exact hb)
 | false => exact .inr (h.inn hd b (by rw [inner_rows]; exact hb))
theorem append_fin {e0 : Env} {G0 : Gh} {t : Tr} {w' : World} (h : Inv n e a.tmps w G) (ht : TrOk e0 t e) (hst : Held n e0.length w w G0 G) {k : K} {l ys : List k.T} {L : LT} {deep : Bool} {v : Value} {Hx : List Nat} {rows : List LT} {d : Bool} {Hy : List Nat}
  (hB : Both w e G k l L deep v Hx rows d Hy) {b off cap : Nat} {v' : Value}
  (hrep : RepL true w' k.size (Rep (deep && d) w' k) (l ++ ys) (.node b off cap (rowsOf L ++ rows)) v') (hsz : w.heap.size ≤ w'.heap.size) (hsame : ∀ b', b' ≠ b → w.heap[b']? ≠ none → w'.heap[b']? = w.heap[b']?)
  (hb : Loose e G b ∧ (G.ow b ≠ none ∨ w.heap[b]? = none) ∧ b < w'.heap.size) (hbo : ∀ t, G.ow b = some t → t < e.length) (hbr : b ∉ (rowsOf L ++ rows).flatMap (fp k)) {dd : Nat} (hd : t.d = some dd) (hdn : dd < n) (henv : SameEnv w w' := by exact ⟨rfl, rfl, rfl⟩) :
  ∃ G', Post n (e0.puts (t.lay (some dd) (.one, [.own 0 0 (deep && d) k (l ++ ys)])).ws) a w G0 (a.put (some dd) v') w' G' := by
 cases hq : (deep && d) with
 | true =>
  simp only [Bool.and_eq_true] at hq
  obtain ⟨q1, q2⟩ := hq
  subst q1; subst q2
  have hy := hB.fpy rfl
  have hx : Hx = fp (.list k) L := hB.hx
  have hsubx : ∀ b' ∈ (rowsOf L).flatMap (fp k), b' ∈ Hx := fun b' hb' => by rw [hx, fp_list, inner_rows]; exact List.mem_append_right _ hb'
  have hnd := hB.nodup
  rw [List.nodup_append] at hnd
  obtain ⟨n1, n2, n3⟩ := hnd
  refine lay_new (sh := .one) (u := v') (H := b :: (rowsOf L ++ rows).flatMap (fp k)) (bk := 0) (vs := [v']) (Ls := fun _ => .node b off cap (rowsOf L ++ rows)) h ht hst hsz (fun b' hb' q => hsame b' (fun e => hb' (by simp [e])) q) ?_ ?own rfl ?_ ?_ ?_ (by simp) (by simp) rfl hd hdn
  case own =>
   intro b' hb' t ht'
   simp only [List.mem_cons, List.flatMap_append, List.mem_append] at hb'
   rcases hb' with rfl | hb' | hb'
   ·exact hbo t ht'
   ·exact hB.owner b' (List.mem_append_left _ (hsubx b' hb')) t ht'
   ·exact hB.owner b' (List.mem_append_right _ (by rw [hy]; exact hb')) t ht'
  ·intro b' hb'
   simp only [List.mem_cons, List.flatMap_append, List.mem_append] at hb'
   rcases hb' with rfl | hb' | hb'
   ·exact hb
   ·obtain ⟨m1, m2, m3⟩ := hB.mem b' (List.mem_append_left _ (hsubx b' hb'))
    exact ⟨m1, .inl m2, by omega⟩
   ·obtain ⟨m1, m2, m3⟩ := hB.mem b' (List.mem_append_right _ (by rw [hy]; exact hb'))
    exact ⟨m1, .inl m2, by omega⟩
  ·intro j c u hc hu
   match j, hc, hu with
   | 0, hc, hu =>
    simp only [List.getElem?_cons_zero, Option.some.injEq] at hc hu
    subst hc; subst hu
    exact ⟨hrep, by simp⟩
  ·simp only [boxB, fpCells, ownB, fp, List.nil_append, List.append_nil, List.nodup_cons]
   refine ⟨hbr, ?_⟩
   rw [List.flatMap_append, List.nodup_append]
   refine ⟨?_, by rw [← hy]; exact n2, fun b1 h1 b2 h2 heq => ?_⟩
   ·rw [hx, fp_list, inner_rows] at n1
    exact (List.nodup_append.1 n1).2.1
   ·exact n3 b1 (hsubx b1 h1) b2 (by rw [hy]; exact h2) heq
  ·simp only [boxB, fpCells, ownB, fp, List.nil_append, List.append_nil]
   exact fun b' hb' => hb'
 | false =>
  rw [hq] at hrep
  have hF : ∀ b' ∈ ((rowsOf L ++ rows).flatMap (fp k)).filter (fun b' => (G.ow b').isSome), Loose e G b' := by
   intro b' hb'
   rw [List.mem_filter, List.flatMap_append, List.mem_append] at hb'
   obtain ⟨q1, q2⟩ := hb'
   have hne : G.ow b' ≠ none := by intro q; rw [q] at q2; simp at q2
   rcases q1 with q1 | q1
   ·rcases hB.rowsx b' q1 with g | g
    ·exact (hB.mem b' (List.mem_append_left _ g.2)).1
    ·exact absurd g hne
   ·rcases hB.free b' q1 with g | g
    ·exact (hB.mem b' (List.mem_append_right _ g)).1
    ·exact absurd g hne
  have h' := h.disown hF
  refine lay_new (sh := .one) (u := v') (G := G.disown (((rowsOf L ++ rows).flatMap (fp k)).filter (fun b' => (G.ow b').isSome))) (H := [b]) (bk := 0) (vs := [v']) (Ls := fun _ => .node b off cap (rowsOf L ++ rows)) h' ht (hst.disown ?own) hsz
   (fun b' hb' q => hsame b' (fun e => hb' (by simp [e])) q) ?_ (disown_owner (fun b' hb' t ht' => by simp only [List.mem_singleton] at hb'; subst hb'; exact hbo t ht')) rfl ?_ (by simp [boxB, fpCells, ownB, hdOf]) (by simp [boxB, fpCells, ownB, hdOf]) (by simp) (by simp) rfl hd hdn
  case own =>
   intro b' hb' t ht'
   rw [← ht.length]
   rw [List.mem_filter, List.flatMap_append, List.mem_append] at hb'
   have hne : G.ow b' ≠ none := by rw [ht']; simp
   rcases hb'.1 with q1 | q1
   ·rcases hB.rowsx b' q1 with g | g
    ·exact hB.owner b' (List.mem_append_left _ g.2) t ht'
    ·exact absurd g hne
   ·rcases hB.free b' q1 with g | g
    ·exact hB.owner b' (List.mem_append_right _ g) t ht'
    ·exact absurd g hne
  ·intro b' hb'
   simp only [List.mem_singleton] at hb'
   subst hb'
   refine ⟨hb.1, ?_, hb.2.2⟩
   rcases hb.2.1 with q | q
   ·left
    simp only [Gh.disown]
    rw [if_neg (fun g => hbr (List.mem_filter.1 g).1)]
    exact q
   ·exact .inr q
  ·intro j c u hc hu
   match j, hc, hu with
   | 0, hc, hu =>
    simp only [List.getElem?_cons_zero, Option.some.injEq] at hc hu
    subst hc; subst hu
    refine ⟨hrep, fun _ b' hb' => ⟨?_, ?_⟩⟩
    ·simp only [inner] at hb'
     simp only [Gh.disown]
     cases q : G.ow b' with
     | none => simp
     | some s => rw [if_pos (List.mem_filter.2 ⟨hb', by rw [q]; rfl⟩)]
    ·simp only [inner] at hb'
     simp only [List.mem_singleton]
     rintro rfl
     exact hbr hb'
theorem append_core {e0 : Env} {G0 : Gh} {t : Tr} (h : Inv n e a.tmps w G) (ht : TrOk e0 t e) (hst : Held n e0.length w w G0 G) {k : K} {l ys : List k.T} {L : LT} {deep : Bool} {v vy : Value} {Hx : List Nat} {rows : List LT} {d : Bool} {Hy : List Nat} {cells : List Value}
  (hB : Both w e G k l L deep v Hx rows d Hy) (hS : Src P w k ys d vy cells rows)
  {at0 : Array TypeId} {t0 t1 ty el : TypeId} {d1 : TypeDesc} (h0 : at0[0]? = some t0) (h1 : at0[1]? = some t1) (hu : P.underlying t0 = some (.slice el)) (hu1 : P.underlying t1 = some d1) (hd1 : (∃ e1, d1 = .slice e1) ∨ d1 = .string)
  {i : TypeInfo} (hi : P.info? el = some i) (hik : i.size = k.size) {z : Value} (hz : i.zero = some z) (hzk : z.cells.size = k.size) (hmost : l.length + ys.length ≤ rowMost) (hby : (2 * (l.length + ys.length) + 512) * i.bytes ≤ byteMost)
  {dd : Nat} (hd : t.d = some dd) (hdn : dd < n) :
  ∃ v' w', (Builtin.append_ at0 ty #[v, vy]).run P w = .ok v' w' ∧ ∃ G', Post n (e0.puts (t.lay (some dd) (.one, [.own 0 0 (deep && d) k (l ++ ys)])).ws) a w G0 (a.put (some dd) v') w' G' := by
 obtain ⟨base, cap, olds, rfl, ho1, ho2, ho3, ho4, ho5, ho6⟩ := row_cells (P := P) hB.repl
 by_cases hroom : l.length + ys.length ≤ cap
 ·rcases hB.repl with ⟨q1, q2, a0, cap0, q3, q4⟩ | ⟨b, off, cap0, rs, q1, q2, q3, q4, q5, q6, q7⟩
  ·
   simp only [Value.slice.injEq] at q3
   obtain ⟨rfl, q3, rfl⟩ := q3
   have q4 := q4 rfl
   subst q4
   have hys : ys = [] := List.eq_nil_of_length_eq_zero (by omega)
   subst q1; subst q2; subst hys
   have hcn : cells = [] := List.eq_nil_of_length_eq_zero (by have := hS.len; simpa using this)
   have hr := run_append_in (P := P) (ty := ty) (base := base) (sLen := 0) (sCap := 0) (m := 0) (vy := vy) (cells := []) h0 h1 hu hu1 hd1 hi (hS.lenOf w) (by rw [hik]; have := hS.first w rfl; rw [hcn] at this; exact this) (by omega) (w' := w) (fun a _ => by simp [storeCells, Sem.run_pure]) (fun _ => rfl)
   refine ⟨_, _, hr, ?_⟩
   refine lay_new (sh := .one) (H := []) (bk := 0) (vs := [.slice base 0 0]) (Ls := fun _ => .nil) h ht hst (Nat.le_refl _) (fun b' _ _ => rfl) (by simp) (by simp) rfl ?_ (by cases (deep && d) <;> simp [boxB, fpCells, ownB, fp, hdOf]) (by cases (deep && d) <;> simp [boxB, fpCells, ownB, fp, hdOf]) (by simp) (by simp) rfl hd hdn
   intro j c u hc hu
   match j, hc, hu with
   | 0, hc, hu =>
    simp only [List.getElem?_cons_zero, Option.some.injEq] at hc hu
    subst hc; subst hu
    exact ⟨.inl ⟨rfl, rfl, base, 0, rfl, fun _ => rfl⟩, by simp [inner]⟩
  ·
   simp only [Value.slice.injEq] at q2
   obtain ⟨rfl, _, rfl⟩ := q2
   subst q1
   obtain ⟨cur, tt, fr, g1, g2, g3⟩ := q6 rfl
   have hcl : cells.length = ys.length * k.size := hS.len
   have hmul : l.length * k.size + ys.length * k.size ≤ cap * k.size := by rw [← Nat.add_mul]; exact Nat.mul_le_mul_right _ hroom
   have hfit : off + l.length * k.size + cells.length ≤ cur.size := by omega
   have hbown : b ∈ Hx := by
    rw [hB.hx]
    cases deep with
    | true => simp [ownB, fp]
    | false => simp [ownB, hdOf]
   obtain ⟨m1, m2, m3⟩ := hB.mem b (List.mem_append_left _ hbown)
   have hnd := hB.nodup
   rw [List.nodup_append] at hnd
   have hbr : b ∉ (rowsOf (.node b off cap rs) ++ rows).flatMap (fp k) := by
    rw [List.flatMap_append, List.mem_append]
    rintro (q | q)
    ·rcases hB.rowsx b q with g | g
     ·have := hnd.1
      rw [hB.hx, g.1] at this
      simp only [ownB, fp, List.nodup_cons] at this
      exact this.1 q
     ·exact m2 g
    ·rcases hB.free b q with g | g
     ·exact hnd.2.2 b hbown b g rfl
     ·exact m2 g
   have hw' : ∀ b', b' ≠ b → (w.setRow b (setFrom cur.toList (off + l.length * k.size) cells).toArray).heap[b']? = w.heap[b']? := fun b' hb' => setRow_other w b b' _ hb'
   have hg' := setRow_heap w b cur (setFrom cur.toList (off + l.length * k.size) cells).toArray tt fr g1
   have hrun := run_store_row P b (off + l.length * k.size) tt fr cells 0 cur w g1 (by simpa using hfit) (fun q h1 h2 => by rcases g3 with g3 | g3 <;> omega) hS.one
   simp only [Nat.add_zero] at hrun
   have hr := run_append_in (P := P) (ty := ty) (base := some ⟨b, off, none⟩) (sLen := l.length) (sCap := cap) (m := ys.length) (vy := vy) (cells := cells) h0 h1 hu hu1 hd1 hi (hS.lenOf w) (by rw [hik]; exact hS.first w rfl) hroom
    (w' := w.setRow b (setFrom cur.toList (off + l.length * k.size) cells).toArray) (fun a ha => by
     simp only [Option.some.injEq] at ha
     subst ha
     rw [add_none, hik]
     exact hrun) (by simp)
   refine ⟨_, _, hr, ?_⟩
   refine append_fin h ht hst hB (off := off) (cap := cap) (v' := .slice (some ⟨b, off, none⟩) (l.length + ys.length) cap) ?_ (by simp) (fun b' hb' _ => hw' b' hb') ⟨m1, .inl m2, by simpa using m3⟩ (hB.owner b (List.mem_append_left _ hbown)) hbr hd hdn
   have hcell : ∀ q, (w.setRow b (setFrom cur.toList (off + l.length * k.size) cells).toArray).cell? ⟨b, q, none⟩ = if off + l.length * k.size ≤ q ∧ q < off + l.length * k.size + cells.length then cells[q - (off + l.length * k.size)]? else w.cell? ⟨b, q, none⟩ := by
    intro q
    simp only [World.cell?, hg', g1, Option.isSome_none, Bool.false_eq_true, if_false, List.getElem?_toArray]
    rw [setFrom_get _ _ _ _ (by simpa using hfit)]
    simp
   refine repl_append (P := P) hB.repl hS ho1 ho5 (by simp; intro q _; exact q) (by simp) (fun q u hu => ?_) (by rw [hg']; simp) ⟨_, _, _, hg', by simpa [setFrom_length] using g2, by simpa [setFrom_length] using g3⟩ hroom (fun b' hb' => hw' b' ?_) (fun b' hb' => hw' b' ?_)
   ·rw [hcell]
    have hql : q < olds.length + cells.length := by have := (List.getElem?_eq_some_iff.1 hu).1; simpa using this
    by_cases hq : q < olds.length
    ·rw [if_neg (by omega)]
     rw [List.getElem?_append_left hq] at hu
     exact ho6 _ _ _ _ rfl q u hu
    ·rw [if_pos (by omega)]
     rw [List.getElem?_append_right (by omega)] at hu
     rw [← hu]
     congr 1
     omega
   ·rintro rfl; exact hbr (by rw [List.flatMap_append]; exact List.mem_append_left _ hb')
   ·rintro rfl; exact hbr (by rw [List.flatMap_append]; exact List.mem_append_right _ hb')
 ·
  have hge := grownCap_ge w (l.length + ys.length) cap el
  have h63 : ((l.length + ys.length : Nat) : Int) ≤ 9223372036854775807 := by simp only [rowMost] at hmost; omega
  have hb2 : (l.length + ys.length) * i.bytes ≤ 140737488355328 := by
   have : (l.length + ys.length) * i.bytes ≤ (2 * (l.length + ys.length) + 512) * i.bytes := Nat.mul_le_mul_right _ (by omega)
   simp only [byteMost] at hby
   omega
  have hr := run_append_out (P := P) (ty := ty) (base := base) (sLen := l.length) (sCap := cap) (m := ys.length) (vy := vy) (olds := olds) (cells := cells) h0 h1 hu hu1 hd1 hi hz (hS.lenOf w) (by rw [hik]; exact ho2 w.drew rfl) (by rw [hik]; exact hS.first w.drew rfl) hroom h63
   (growslice_fits (by omega) hb2)
  refine ⟨_, _, hr, ?_⟩
  have hnew := heap_alloc_new w.drew (.cells (olds.toArray ++ cells.toArray ++ Builtin.zeroCells z.cells (grownCap w (l.length + ys.length) cap el - (l.length + ys.length))) el)
  have hdr : w.drew.heap = w.heap := rfl
  rw [hdr] at hnew
  have hnone : w.heap[w.heap.size]? = none := by simp
  have hthere : ∀ b ∈ (rowsOf L ++ rows).flatMap (fp k), w.heap[b]? ≠ none := by
   intro b hb
   rw [List.flatMap_append, List.mem_append] at hb
   rcases hb with hb | hb
   ·refine hB.repl.there b ?_
    rw [fp_list, inner_rows]
    exact List.mem_append_right _ hb
   ·exact hB.there b hb
  have hloose : Loose e G w.heap.size := by
   intro s hs
   have := h.lt _ s ((h.slot s).own _ hs)
   omega
  refine append_fin h ht hst hB (b := w.heap.size) (off := 0) (cap := grownCap w (l.length + ys.length) cap el) ?_ (by simp) (fun b' _ hb' => alloc_same w.drew _ b' hb') ⟨hloose, .inr hnone, by simp⟩ (fun t ht' => (h.fresh ht').elim) (fun q => hthere _ q hnone) hd hdn
  refine repl_append (P := P) hB.repl hS ho1 ho5 (by simp; intro q _; exact q) (by simp) (fun q u hu => ?_) (by rw [hnew]; simp) ⟨_, _, _, hnew, ?_, .inr (by simp)⟩ hge (fun b' hb' => alloc_same w.drew _ b' (hthere b' (by rw [List.flatMap_append]; exact List.mem_append_left _ hb'))) (fun b' hb' => alloc_same w.drew _ b' (hthere b' (by rw [List.flatMap_append]; exact List.mem_append_right _ hb')))
  ·simp only [World.cell?, hnew, Option.isSome_none, Bool.false_eq_true, if_false, Nat.zero_add]
   have hql : q < olds.length + cells.length := by have := (List.getElem?_eq_some_iff.1 hu).1; simpa using this
   rw [Array.getElem?_append_left (by simpa using hql)]
   simpa using hu
  ·simp only [Array.size_append, List.size_toArray, size_zeroCells, hzk, ho1, hS.len, ← Nat.add_mul, Nat.zero_add]
   exact Nat.mul_le_mul_right _ (by omega)
end ops
end Go.Mach
namespace Go.Mach
set_option linter.unusedVariables false
set_option linter.unusedSimpArgs false
theorem src_of_repl {P : Program} {w : World} {k : K} {ys : List k.T} {L : LT} {vy : Value} {dr d : Bool} (h : RepL dr w k.size (Rep d w k) ys L vy) : ∃ cells, Src P w k ys d vy cells (rowsOf L) := by
 obtain ⟨base, cap, cells, rfl, h1, h2, h3, h4, h5, h6⟩ := row_cells (P := P) h
 refine ⟨cells, fun w2 => rfl, h2, h1, h3, ?_, ?_⟩
 ·cases L with
  | node b off cap' rows => exact (h5 _ _ _ _ rfl).1
  | _ =>
   rcases h with ⟨_, rfl, _⟩ | ⟨_, _, _, _, q, _⟩
   ·rfl
   ·simp at q
 ·cases L with
  | node b off cap' rows => exact (h5 _ _ _ _ rfl).2
  | _ => intro i y r _ hr; simp [rowsOf] at hr
theorem rowsOf_there {w : World} {k : K} {ys : List k.T} {L : LT} {vy : Value} {dr d : Bool} (h : RepL dr w k.size (Rep d w k) ys L vy) : ∀ b ∈ (rowsOf L).flatMap (fp k), w.heap[b]? ≠ none := by
 intro b hb
 refine h.there b ?_
 rw [fp_list, inner_rows]
 exact List.mem_append_right _ hb
theorem rowsOf_cutL (k : K) (sz : Nat) (lo hi : Option Nat) (m : Nat) (L : LT) : ∀ b ∈ (rowsOf (cutL sz lo hi m L)).flatMap (fp k), b ∈ (rowsOf L).flatMap (fp k) := by
 intro b hb
 cases L with
 | node b' off cap rows =>
  simp only [cutL] at hb
  split at hb
  ·simp [rowsOf] at hb
  ·simp only [rowsOf] at hb ⊢
   exact (sub_flatMap (cut_sublist _ _ _)).subset hb
 | _ => simp [cutL, rowsOf] at hb
section ops
variable {P : Program} {n : Nat} {e : Env} {a : Act} {w : World} {G : Gh} {get : Nat → Slot} {o : Oper} {x : Ctx} {ws : Writes}
structure SrcAt (P : Program) (n : Nat) (e0 e : Env) (tm : Array Value) (w : World) (G : Gh) (t' : Tr) (k : K) (ys : List k.T) (d : Bool) (vy : Value) (e' : Env) (G' : Gh) (H : List Nat) (rows : List LT) (cells : List Value) : Prop where
 inv : Inv n e' tm w G'
 tr : TrOk e0 t' e'
 ext : Ext w e G e' G'
 hand : Hand w e G e' G' H
 src : Src P w k ys d vy cells rows
 fpy : d = true → H = rows.flatMap (fp k)
 there : ∀ b ∈ rows.flatMap (fp k), w.heap[b]? ≠ none
 free : ∀ b ∈ rows.flatMap (fp k), b ∈ H ∨ G'.ow b = none
theorem rep_list {d : Bool} {w : World} {k : K} {l : List k.T} {L : LT} {v : Value} (h : Rep d w (.list k) l L [v]) : RepL d w k.size (Rep d w k) l L v := by
 simp only [Rep] at h
 obtain ⟨u, hu, h⟩ := h
 simp only [List.cons.injEq, and_true] at hu
 subst hu
 exact h
theorem src_ok {vars : List Nat} {e0 : Env} {tm : Array Value} {t t' : Tr} {k : K} {y : C} {vy : Value} {Ly : LT} {ys : List k.T} {d : Bool} (h : Inv n e tm w G) (ht : TrOk e0 t e) (hc : CellOk e w G y vy Ly) (hs : srcC vars t k y = some (t', ys, d)) :
  ∃ e' G' H rows cells, SrcAt P n e0 e tm w G t' k ys d vy e' G' H rows cells := by
 have flatOk : ∀ {t1 : Tr} {d1 : Bool}, k.flat = true → t.grab y (.list k) = some (t1, ys, d1) → ∃ e' G' H rows cells, SrcAt P n e0 e tm w G t k ys true vy e' G' H rows cells := by
  intro t1 d1 hf hg
  obtain ⟨e', G', H, L, g⟩ := grab_ok h ht hc hg
  obtain ⟨cells, hsrc⟩ := src_of_repl (P := P) (rep_list g.rep)
  refine ⟨e, G, [], rowsOf L, cells, h, ht, Ext.refl, Hand.nil, ⟨hsrc.lenOf, hsrc.first, hsrc.len, hsrc.one, hsrc.rlen, fun i y r hy hr => ?_⟩, fun _ => (flat_none hf _).symm, by rw [flat_none hf]; simp, by rw [flat_none hf]; simp⟩
  obtain ⟨vs, q1, q2⟩ := hsrc.rep i y r hy hr
  exact ⟨vs, q1, q2.flat hf⟩
 have grabOk : ∀ {t1 : Tr} {d1 : Bool}, t.grab y (.list k) = some (t1, ys, d1) → ∃ e' G' H rows cells, SrcAt P n e0 e tm w G t1 k ys d1 vy e' G' H rows cells := by
  intro t1 d1 hg
  obtain ⟨e', G', H, L, g⟩ := grab_ok h ht hc hg
  have hrl := rep_list g.rep
  obtain ⟨cells, hsrc⟩ := src_of_repl (P := P) hrl
  have hsub : ∀ b ∈ (rowsOf L).flatMap (fp k), b ∈ fp (.list k) L := fun b hb => by rw [fp_list, inner_rows]; exact List.mem_append_right _ hb
  cases d1 with
  | false => exact ⟨e', G', H, rowsOf L, cells, g.inv, g.tr, g.ext, g.hand, hsrc, by simp, rowsOf_there hrl, fun b hb => g.none b (hsub b hb)⟩
  | true =>
   have hH := g.fp rfl
   have hnd := g.hand.nodup
   rw [hH, fp_list, inner_rows] at hnd
   refine ⟨e', G', (rowsOf L).flatMap (fp k), rowsOf L, cells, g.inv, g.tr, g.ext, ⟨(List.nodup_append.1 hnd).2.1, fun b hb => g.hand.mem b ?_⟩, hsrc, fun _ => rfl, rowsOf_there hrl, fun b hb => .inl hb⟩
   rw [hH]
   exact hsub b hb
 have strOk : ∀ s : List UInt8, y = .dat .str s → srcC vars t k (.dat .str s) = some (t', ys, d) → ∃ e' G' H rows cells, SrcAt P n e0 e tm w G t' k ys d vy e' G' H rows cells := by
  intro s hy hq
  clear flatOk grabOk hs
  subst hy
  simp only [srcC] at hq
  split at hq
  ·simp only [Option.some.injEq, Prod.mk.injEq] at hq
   obtain ⟨rfl, rfl, rfl⟩ := hq
   have hv := dat_str hc
   subst hv
   refine ⟨e, G, [], List.replicate s.length .leaf, s.map fun b => Value.int .u8 (b.toNat : Nat), h, ht, Ext.refl, Hand.nil, ⟨fun w2 => ?_, fun w2 _ => ?_, ?_, ?_, by simp, fun i y r hy hr => ?_⟩, fun _ => (flat_none rfl _).symm, by rw [flat_none rfl]; simp, by rw [flat_none rfl]; simp⟩
   ·simp [Builtin.lenOf, Sem.run_pure, bytes_size]
   ·simp only [Builtin.firstCells, Sem.run_pure, K.size, List.length_map]
    congr 1
    show Array.map _ ((⟨⟨s⟩⟩ : ByteArray).extract 0 s.length).data = _
    have : (⟨⟨s⟩⟩ : ByteArray).extract 0 s.length = ⟨⟨s⟩⟩ := by
     have := ByteArray.extract_mk s 0 s.length
     rw [this]
     simp
    rw [this]
    apply Array.ext'
    simp
   ·simp [K.size]
   ·intro u hu
    obtain ⟨b, _, rfl⟩ := List.mem_map.1 hu
    rfl
   ·rw [List.getElem?_map] at hy
    cases hb : s[i]? with
    | none => rw [hb] at hy; simp at hy
    | some b =>
     rw [hb] at hy
     simp only [Option.map_some, Option.some.injEq] at hy
     subst hy
     refine ⟨[.int .u8 (b.toNat : Nat)], fun c u hu => ?_, by simp [Rep]⟩
     match c, hu with
     | 0, hu =>
      simp only [List.getElem?_cons_zero, Option.some.injEq] at hu
      subst hu
      simp [K.size, hb]
  ·simp at hq
 cases y with
 | ref s j rv sv p lo hi k1 =>
  simp only [srcC] at hs
  split at hs
  ·simp at hs
  ·rename_i t1 l1 d1 hg
   split at hs
   ·rename_i hf
    simp only [Option.some.injEq, Prod.mk.injEq] at hs
    obtain ⟨rfl, rfl, rfl⟩ := hs
    exact flatOk hf hg
   ·split at hs
    ·rename_i rv' sv' k0 l0 hcell
     simp only [Option.some.injEq, Prod.mk.injEq] at hs
     obtain ⟨rfl, rfl, rfl⟩ := hs
     obtain ⟨s1, s2⟩ := ht.cell hcell (by simp)
     simp only [Tr.grab, hcell] at hg
     split at hg
     ·rename_i hq
      obtain ⟨q1, q2, q3⟩ := hq
      subst q1
      simp only [K.list.injEq] at q3
      subst q3
      have hread : ∃ l2, getP k0 l0 p = ⟨k1, l2⟩ ∧ l1 = cut lo hi l2 := by
       split at hg
       ·simp at hg
       ·rename_i l2 hl2
        refine ⟨l2, castL_some hl2, ?_⟩
        split at hg <;> (simp only [Option.some.injEq, Prod.mk.injEq, castT_same] at hg; exact hg.2.1.symm)
      obtain ⟨l2, r1, rfl⟩ := hread
      obtain ⟨r2, r3, r4, r5⟩ := ref_reads h hc s2 q2 r1
      have hin := (h.ownBlocks s2).2.1 rfl
      obtain ⟨cells, hsrc⟩ := src_of_repl (P := P) r4.weaken
      refine ⟨e, G, [], _, cells, h, ht, Ext.refl, Hand.nil, hsrc, by simp, rowsOf_there r4, fun b hb => .inr (hin b ?_)⟩
      have hb := rowsOf_cutL _ _ _ _ _ _ b hb
      by_cases hp : p = []
      ·subst hp
       rw [getP_nil] at r1
       simp only [Sigma.mk.injEq] at r1
       obtain ⟨rfl, _⟩ := r1
       rw [inner_rows]
       exact hb
      ·refine subL_inner p hp k0 l0 _ r3 b ?_
       rw [r1, fp_list, inner_rows]
       exact List.mem_append_right _ hb
     ·simp at hg
    ·rename_i rv' sv' k0 l0 hcell
     split at hs
     ·simp only [Option.some.injEq, Prod.mk.injEq] at hs
      obtain ⟨rfl, rfl, rfl⟩ := hs
      obtain ⟨s1, s2⟩ := ht.cell hcell (by simp)
      simp only [Tr.grab, hcell] at hg
      split at hg
      ·rename_i hq
       obtain ⟨q1, q2, q3⟩ := hq
       subst q1
       simp only [K.list.injEq] at q3
       subst q3
       have hread : ∃ l2, getP k0 l0 p = ⟨k1, l2⟩ ∧ l1 = cut lo hi l2 := by
        split at hg
        ·simp at hg
        ·rename_i l2 hl2
         refine ⟨l2, castL_some hl2, ?_⟩
         split at hg <;> (simp only [Option.some.injEq, Prod.mk.injEq, castT_same] at hg; exact hg.2.1.symm)
       obtain ⟨l2, r1, rfl⟩ := hread
       obtain ⟨r2, r3, r4, r5⟩ := ref_reads h hc s2 (q2.imp id fun g => ⟨g.1, rfl⟩) r1
       obtain ⟨G', f1, f2, f3, f4, f5⟩ := h.freeze s2
       obtain ⟨cells, hsrc⟩ := src_of_repl (P := P) r4.weaken
       refine ⟨_, G', [], _, cells, f1, ?_, f2, Hand.nil, hsrc, by simp, rowsOf_there r4, fun b hb => .inr (f3 b ?_)⟩
       ·have := ht.put { e.get s with cs := (e.get s).cs.set j (.own rv sv' false k0 l0) } (slot_alive s2)
        rw [s1]
        exact this
       ·have hb := rowsOf_cutL _ _ _ _ _ _ b hb
        by_cases hp : p = []
        ·subst hp
         rw [getP_nil] at r1
         simp only [Sigma.mk.injEq] at r1
         obtain ⟨rfl, _⟩ := r1
         rw [inner_rows]
         exact hb
        ·refine subL_inner p hp k0 l0 _ r3 b ?_
         rw [r1, fp_list, inner_rows]
         exact List.mem_append_right _ hb
      ·simp at hg
     ·simp only [Option.some.injEq, Prod.mk.injEq] at hs
      obtain ⟨rfl, rfl, rfl⟩ := hs
      exact grabOk hg
    ·simp at hs
 | dat k' z =>
  cases k' with
  | str => exact strOk z rfl hs
  | _ =>
   simp only [srcC] at hs
   split at hs
   ·simp at hs
   ·rename_i t1 l1 d1 hg
    simp only [Option.some.injEq, Prod.mk.injEq] at hs
    obtain ⟨rfl, rfl, rfl⟩ := hs
    have ht1 : t1 = t := by
     simp only [Tr.grab] at hg
     split at hg
     ·simp only [Option.some.injEq, Prod.mk.injEq] at hg; exact hg.1.symm
     ·simp at hg
    subst ht1
    cases hf : k.flat with
    | true => simpa [hf] using flatOk hf hg
    | false => simpa [hf] using grabOk hg
 | nil =>
  simp only [srcC] at hs
  split at hs
  ·simp at hs
  ·rename_i t1 l1 d1 hg
   simp only [Option.some.injEq, Prod.mk.injEq] at hs
   obtain ⟨rfl, rfl, rfl⟩ := hs
   have ht1 : t1 = t := by
    simp only [Tr.grab] at hg
    simp only [Option.some.injEq, Prod.mk.injEq] at hg; exact hg.1.symm
   subst ht1
   cases hf : k.flat with
   | true => simpa [hf] using flatOk hf hg
   | false => simpa [hf] using grabOk hg
 | _ => simp [srcC, Tr.grab] at hs
theorem dst_ok {e0 : Env} {tm : Array Value} {t : Tr} {s j rv sv rv' sv' : Nat} {lo hi : Option Nat} {k1 k0 : K} {deep : Bool} {l0 : List k0.T} {v : Value} {L : LT} (h : Inv n e tm w G) (ht : TrOk e0 t e) (hc : CellOk e w G (.ref s j rv sv [] lo hi k1) v L)
  (hcell : (t.at s).cs.getD j .dead = .own rv' sv' deep k0 l0) (hrv : rv = rv') (hk : k1 = k0) :
  ∃ e' H L', Inv n e' tm w G ∧ TrOk e0 (t.put s ((t.at s).kill j)) e' ∧ Ext w e G e' G ∧ Hand w e G e' G H ∧ RepL true w k0.size (Rep deep w k0) (cut lo hi l0) L' v ∧ H = ownB (.own 0 0 deep k0 (cut lo hi l0)) L' ∧
   (deep = false → ∀ b ∈ inner k0 L', G.ow b = none) := by
 have hco : CellsOk e w G [.ref s j rv sv [] lo hi k1] [v] (fun _ => L) := (one_ok hc rfl).cells
 obtain ⟨e', H, Ls, ht'⟩ := take_ok [] [.ref s j rv sv [] lo hi k1] h ht hco (by simp [C.isOwn])
 have htk : t.take [] [.ref s j rv sv [] lo hi k1] = (t.put s ((t.at s).kill j), [.own 0 0 deep k0 (cut lo hi l0)]) := by
  simp only [Tr.take, hcell, hrv]
  simp
 rw [htk] at ht'
 obtain ⟨n1, n2⟩ := ht'.new 0 (.own 0 0 deep k0 (cut lo hi l0)) v rfl rfl
 have hf := ht'.fp
 simp only [fpCells, List.append_nil] at hf
 exact ⟨e', H, Ls 0, ht'.inv, ht'.tr, ht'.ext, ht'.hand, n1, hf.symm, fun hd b hb => (n2 hd b hb).1⟩
end ops
end Go.Mach
namespace Go.Mach
set_option linter.unusedVariables false
set_option linter.unusedSimpArgs false
theorem setLeaf_back : ∀ (k : K) (x : k.T) (c : Nat), setLeaf k x c (leafV k x c) = x
 | .int i, x, _ => by simp [setLeaf, leafV, castT]
 | .bool, x, _ => by simp [setLeaf, leafV, castT]
 | .str, x, _ => by simp [setLeaf, leafV, castT]
 | .list k, x, _ => by simp [setLeaf, leafV, castT]
 | .pair a b, x, c => by
  simp only [setLeaf, leafV]
  split
  ·rw [setLeaf_back a]
  ·rw [setLeaf_back b]
theorem modP_same : ∀ (p : Path) (k : K) (l : List k.T), modP (fun _ l => l) k l p = l
 | [], _, _ => rfl
 | (i, c) :: p, k, l => by
  simp only [modP]
  split
  ·rename_i k' y hq
   rw [modP_same p, ← hq, setLeaf_back]
   apply List.ext_getElem?
   intro j
   by_cases e : i = j
   ·subst e
    rw [List.getElem?_set]
    by_cases hi : i < l.length
    ·simp [hi, List.getElem?_eq_getElem hi]
    ·simp [hi]
   ·rw [List.getElem?_set_ne e]
  ·rfl
section ops
variable {P : Program} {n : Nat} {e : Env} {a : Act} {w : World} {G : Gh} {get : Nat → Slot} {o : Oper} {x : Ctx} {ws : Writes}
theorem nest_fin {e0 : Env} {G0 : Gh} {t : Tr} (h : Inv n e a.tmps w G) (ht : TrOk e0 t e) (hst : Held n e0.length w w G0 G) {s j rv sv' : Nat} {p : Path} {k0 k : K} {l0 : List k0.T} {l : List k.T}
  (hc : (e.get s).cs[j]? = some (.own rv sv' true k0 l0)) (hat : t.at s = e.get s) (hp0 : p ≠ []) (hp : PathOk k0 l0 p) (hl : getP k0 l0 p = ⟨k, l⟩) {u : Value} {rest : List Nat}
  (f2 : (fp (.list k0) (G.lt s j)).Perm (fp (.list k) (subL k0 (G.lt s j) p) ++ rest))
  (f3 : ∀ w' M dd, Same w w' rest → RepL true w' k.size (Rep dd w' k) l M u →
    ∀ v, (G.vs s)[j]? = some v → RepL true w' k0.size (Rep dd w' k0) l0 (setSub k0 (G.lt s j) M p) v)
  {w' : World} {v' : Value} {z : List k.T} {M : LT} (hsz : w.heap.size ≤ w'.heap.size) (hsame : ∀ b, b ∉ fp (.list k) (subL k0 (G.lt s j) p) → w.heap[b]? ≠ none → w'.heap[b]? = w.heap[b]?)
  (hrep : RepL true w' k.size (Rep false w' k) l (subL k0 (G.lt s j) p) u) (hM : Rep false w' (.list k) z M [v']) (hMb : ∀ b ∈ fp (.list k) M, b ∈ fp (.list k) (subL k0 (G.lt s j) p) ∨ w.heap[b]? = none) (henv : SameEnv w w')
  {dd : Nat} (hd : t.d = some dd) (hdn : dd < n) :
  ∃ G', Post n (e0.puts ((t.put s { t.at s with cs := (t.at s).cs.set j (.own rv sv' false k0 l0) }).lay (some dd) (.one, [.dat (.list k) z])).ws) a w G0 (a.put (some dd) v') w' G' := by
 obtain ⟨v, hv, hcell⟩ := h.val hc
 obtain ⟨hrep0, hin0⟩ := hcell
 obtain ⟨ow1, ow2, ow3⟩ := h.ownBlocks hc
 have halive := slot_alive hc
 have hnd : (fp (.list k0) (G.lt s j)).Nodup := ow3
 have hnd2 := f2.nodup_iff.1 hnd
 rw [List.nodup_append] at hnd2
 have howned : ∀ b ∈ fp (.list k0) (G.lt s j), G.ow b = some s := fun b hb => ow1 b hb
 have hsub : ∀ b ∈ fp (.list k) (subL k0 (G.lt s j) p), b ∈ inner k0 (G.lt s j) := by
  intro b hb
  have := subL_inner p hp0 k0 l0 (G.lt s j) hp b
  rw [hl] at this
  exact this hb
 have hrest : Same w w' rest := fun b hb => hsame b (fun q => hnd2.2.2 b q b hb rfl) (hrep0.there b (f2.mem_iff.2 (List.mem_append_right _ hb)))
 have g2 := f3 w' (subL k0 (G.lt s j) p) false hrest hrep v hv
 rw [setSub_self p hrep0 hp] at g2
 rw [fp_list] at hnd
 have hnd3 := List.nodup_append.1 hnd
 have hI := h.own (w' := w') hc hv sv' (e.get s).cnt false l0 (G.lt s j) [] (inner k0 (G.lt s j)) hsz
  (fun b h1 _ h3 => hsame b (fun q => h1 (by simp only [ownB]; rw [fp_list]; exact List.mem_append_right _ (hsub b q))) h3) (by simp) g2
  (fun b hb => .inl (by simp only [ownB] at hb ⊢; rw [fp_list]; exact List.mem_append_left _ hb))
  (by simp only [ownB]; exact hnd3.1)
  (fun b hb => ⟨.inl (by simp only [ownB]; rw [fp_list]; exact List.mem_append_right _ hb), fun q => by simp only [ownB] at q; exact hnd3.2.2 b q b hb rfl⟩)
  (fun _ b hb => .inr hb) rfl rfl (.inl ⟨rfl, rfl, by simp⟩)
 have held1 : Held n e.length w w' G (G.turn s j (G.lt s j) [] (inner k0 (G.lt s j))) := by
  have hno : ∀ b, G.ow b = none → b ∉ fp (.list k) (subL k0 (G.lt s j) p) := by
   intro b hb q
   have := howned b (by rw [fp_list]; exact List.mem_append_right _ (hsub b q))
   rw [hb] at this; simp at this
  refine ⟨fun b q1 q2 => ⟨hsame b (hno b q1) q2, ?_⟩, fun s' _ => ⟨fun _ => ⟨rfl, fun j' => ?_⟩, rfl⟩, fun b t' q1 q2 q3 => ?_⟩
  ·simp only [Gh.turn]
   split
   ·rfl
   ·simp [q1]
  ·simp only [Gh.turn, upd]
   by_cases q1 : s' = s
   ·subst q1
    by_cases q2 : j' = j
    ·subst q2; simp [upd]
    ·simp [upd, q2]
   ·simp [q1]
  ·have hni : b ∉ inner k0 (G.lt s j) := by
    intro q
    have := howned b (by rw [fp_list]; exact List.mem_append_right _ q)
    rw [q1] at this
    simp only [Option.some.injEq] at this
    omega
   refine ⟨hsame b (fun q => hni (hsub b q)) q3, ?_⟩
   simp only [Gh.turn, if_neg hni]
   simp [q1]
 have htr := ht.put { t.at s with cs := (t.at s).cs.set j (.own rv sv' false k0 l0) } halive
 rw [hat] at htr ⊢
 have hcok : CellOk (e.set s { e.get s with cs := (e.get s).cs.set j (.own rv sv' false k0 l0) }) w' (G.turn s j (G.lt s j) [] (inner k0 (G.lt s j))) (.dat (.list k) z) v' M := by
  refine ⟨hM, fun b hb => ?_⟩
  simp only [Gh.turn]
  split
  ·rfl
  ·rename_i hq
   rcases hMb b hb with q | q
   ·exact absurd (hsub b q) hq
   ·simp only [List.not_mem_nil, if_false]
    cases ho : G.ow b with
    | none => rfl
    | some t' =>
     have := h.lt b t' ho
     have : w.heap[b]? ≠ none := by simp [this]
     exact absurd q this
 obtain ⟨G', hp⟩ := lay_quiet (G0 := G.turn s j (G.lt s j) [] (inner k0 (G.lt s j))) hI htr Held.refl (one_ok hcok rfl) (fun d hd' => by
  have hd' : t.d = some d := hd'
  rw [hd] at hd'
  simp only [Option.some.injEq] at hd'
  omega)
 have htd : (t.put s { e.get s with cs := (e.get s).cs.set j (.own rv sv' false k0 l0) }).d = some dd := hd
 rw [htd] at hp
 have hlen : ∀ ws : Writes, (e0.puts ws).length = e0.length := fun ws => puts_length _ _
 refine ⟨G', hp.inv, ?_, Nat.le_trans hsz hp.grows, hp.defers, henv.trans hp.env⟩
 have q1 := hp.held
 rw [hlen] at q1 ⊢
 rw [ht.length] at held1
 exact (hst.trans held1).trans q1
theorem RepL.flat2 {dr d d' : Bool} {k : K} {l : List k.T} {L : LT} {v : Value} (hf : k.flat = true) (h : RepL dr w k.size (Rep d w k) l L v) : RepL dr w k.size (Rep d' w k) l L v := by
 rcases h with h | ⟨b, off, cap, rows, h0, h1, h2, h3, h4, h5, h6⟩
 ·exact .inl h
 ·refine .inr ⟨b, off, cap, rows, h0, h1, h2, h3, h4, h5, fun i x r hx hr => ?_⟩
  obtain ⟨vs, g1, g2⟩ := h6 i x r hx hr
  exact ⟨vs, g1, g2.flat hf⟩
theorem RepL.loose2 {d : Bool} {k : K} {l : List k.T} {L : LT} {v : Value} (h : RepL true w k.size (Rep d w k) l L v) : RepL false w k.size (Rep d w k) l L v := by
 rcases h with ⟨h1, h2, a0, c0, h3, _⟩ | ⟨b, off, cap, rows, h0, h1, h2, h3, h4, h5, h6⟩
 ·exact .inl ⟨h1, h2, a0, c0, h3, by simp⟩
 ·exact .inr ⟨b, off, cap, rows, h0, h1, h2, h3, h4, by simp, h6⟩
theorem nest_core {e0 : Env} {G0 : Gh} {t : Tr} (h : Inv n e a.tmps w G) (ht : TrOk e0 t e) (hst : Held n e0.length w w G0 G) {s j rv sv sv' : Nat} {p : Path} {k0 k : K} {l0 : List k0.T} {l ys : List k.T} {v vy : Value} {L : LT} {rows : List LT} {d : Bool} {cells : List Value}
  (hc : (e.get s).cs[j]? = some (.own rv sv' true k0 l0)) (hat : t.at s = e.get s) (hx : CellOk e w G (.ref s j rv sv p none none k) v L) (hp0 : p ≠ []) (hsv : svOk p sv sv' = true) (hl : getP k0 l0 p = ⟨k, l⟩) (hf : k.flat = true) (hS : Src P w k ys d vy cells rows)
  {at0 : Array TypeId} {t0 t1 ty el : TypeId} {d1 : TypeDesc} (h0 : at0[0]? = some t0) (h1 : at0[1]? = some t1) (hu : P.underlying t0 = some (.slice el)) (hu1 : P.underlying t1 = some d1) (hd1 : (∃ e1, d1 = .slice e1) ∨ d1 = .string)
  {i : TypeInfo} (hi : P.info? el = some i) (hik : i.size = k.size) {z : Value} (hz : i.zero = some z) (hzk : z.cells.size = k.size) (hmost : l.length + ys.length ≤ rowMost) (hby : (2 * (l.length + ys.length) + 512) * i.bytes ≤ byteMost)
  {dd : Nat} (hd : t.d = some dd) (hdn : dd < n) :
  ∃ v' w', (Builtin.append_ at0 ty #[v, vy]).run P w = .ok v' w' ∧
   ∃ G', Post n (e0.puts ((t.put s { t.at s with cs := (t.at s).cs.set j (.own rv sv' false k0 l0) }).lay (some dd) (.one, [.dat (.list k) (l ++ ys)])).ws) a w G0 (a.put (some dd) v') w' G' := by
 obtain ⟨r2, r3, r4, r5⟩ := ref_reads h hx hc (.inr ⟨hsv, rfl⟩) hl
 have r4 : RepL true w k.size (Rep true w k) l (cutL k.size none none l.length (subL k0 (G.lt s j) p)) v := r4
 clear r5
 obtain ⟨v0, hv0, hcell⟩ := h.val hc
 obtain ⟨hrep0, _⟩ := hcell
 obtain ⟨u, rest, f1, f2, f3⟩ := focus (fun _ l => l) p k0 l0 (G.lt s j) v0 hrep0 r3
 rw [hl] at f1 f2 f3
 simp only [modP_same] at f1 f2 f3
 have fin := fun {w' : World} {v' : Value} {z : List k.T} {M : LT} => nest_fin h ht hst hc hat hp0 r3 hl f2 (fun w' M dd h1 h2 v hv => by
  rw [hv0] at hv
  simp only [Option.some.injEq] at hv
  subst hv
  exact (f3 w' M dd h1 h2).1) (w' := w') (v' := v') (z := z) (M := M) (dd := dd)
 clear f3
 have hrf : ∀ rs : List LT, rs.flatMap (fp k) = [] := fun rs => List.flatMap_eq_nil_iff.2 fun r _ => fp_flat hf
 obtain ⟨base, cap, olds, rfl, ho1, ho2, ho3, ho4, ho5, ho6⟩ := row_cells (P := P) r4
 by_cases hroom : l.length + ys.length ≤ cap
 ·rcases id r4 with ⟨q1, q2, a0, cap0, q3, q4⟩ | ⟨b, off, cap0, rs, q1, q2, q3, q4, q5, q6, q7⟩
  ·simp only [Value.slice.injEq] at q3
   obtain ⟨rfl, q3, rfl⟩ := q3
   have q4 := q4 rfl
   subst q4
   have hys : ys = [] := List.eq_nil_of_length_eq_zero (by omega)
   subst q2; subst hys
   have hcn : cells = [] := List.eq_nil_of_length_eq_zero (by have := hS.len; simpa using this)
   have hr := run_append_in (P := P) (ty := ty) (base := base) (sLen := 0) (sCap := 0) (m := 0) (vy := vy) (cells := []) h0 h1 hu hu1 hd1 hi (hS.lenOf w) (by rw [hik]; have := hS.first w rfl; rw [hcn] at this; exact this) (by omega) (w' := w) (fun a _ => by simp [storeCells, Sem.run_pure]) (fun _ => rfl)
   refine ⟨_, _, hr, ?_⟩
   exact fin (M := .nil) (Nat.le_refl _) (fun b _ _ => rfl) (f1.flat2 hf) (by simp only [Rep]; exact ⟨_, rfl, .inl ⟨rfl, rfl, base, 0, rfl, by simp⟩⟩) (by simp [fp]) SameEnv.refl hd hdn
  ·
   simp only [Value.slice.injEq] at q2
   obtain ⟨rfl, _, rfl⟩ := q2
   obtain ⟨cur, tt, fr, g1, g2, g3⟩ := q6 rfl
   have hcl : cells.length = ys.length * k.size := hS.len
   have hmul : l.length * k.size + ys.length * k.size ≤ cap * k.size := by rw [← Nat.add_mul]; exact Nat.mul_le_mul_right _ hroom
   have hfit : off + l.length * k.size + cells.length ≤ cur.size := by omega
   have hw' : ∀ b', b' ≠ b → (w.setRow b (setFrom cur.toList (off + l.length * k.size) cells).toArray).heap[b']? = w.heap[b']? := fun b' hb' => setRow_other w b b' _ hb'
   have hg' := setRow_heap w b cur (setFrom cur.toList (off + l.length * k.size) cells).toArray tt fr g1
   have hrun := run_store_row P b (off + l.length * k.size) tt fr cells 0 cur w g1 (by simpa using hfit) (fun q h1 h2 => by rcases g3 with g3 | g3 <;> omega) hS.one
   simp only [Nat.add_zero] at hrun
   have hr := run_append_in (P := P) (ty := ty) (base := some ⟨b, off, none⟩) (sLen := l.length) (sCap := cap) (m := ys.length) (vy := vy) (cells := cells) h0 h1 hu hu1 hd1 hi (hS.lenOf w) (by rw [hik]; exact hS.first w rfl) hroom
    (w' := w.setRow b (setFrom cur.toList (off + l.length * k.size) cells).toArray) (fun a ha => by
     simp only [Option.some.injEq] at ha
     subst ha
     rw [add_none, hik]
     exact hrun) (by simp)
   refine ⟨_, _, hr, ?_⟩
   have hcell : ∀ q, (w.setRow b (setFrom cur.toList (off + l.length * k.size) cells).toArray).cell? ⟨b, q, none⟩ = if off + l.length * k.size ≤ q ∧ q < off + l.length * k.size + cells.length then cells[q - (off + l.length * k.size)]? else w.cell? ⟨b, q, none⟩ := by
    intro q
    simp only [World.cell?, hg', g1, Option.isSome_none, Bool.false_eq_true, if_false, List.getElem?_toArray]
    rw [setFrom_get _ _ _ _ (by simpa using hfit)]
    simp
   have hS4 : ∃ rs', subL k0 (G.lt s j) p = .node b off cap rs' := by
    cases hq : subL k0 (G.lt s j) p with
    | node b1 off1 cap1 rs1 =>
     rw [hq] at q1
     simp only [cutL, Option.getD_none, Nat.zero_mul, Nat.add_zero, Nat.sub_zero] at q1
     split at q1
     ·simp at q1
     ·simp only [LT.node.injEq] at q1
      obtain ⟨rfl, rfl, rfl, _⟩ := q1
      exact ⟨_, rfl⟩
    | _ => rw [hq] at q1; simp [cutL] at q1
   obtain ⟨rs', hS4⟩ := hS4
   have hrepS : RepL true (w.setRow b (setFrom cur.toList (off + l.length * k.size) cells).toArray) k.size (Rep false (w.setRow b (setFrom cur.toList (off + l.length * k.size) cells).toArray) k) l (subL k0 (G.lt s j) p) u := by
    rw [hS4] at f1 ⊢
    rcases f1 with ⟨h, _⟩ | ⟨b', off', cap', rows', e1, e2, e3, e4, hn, h5, h6⟩
    ·simp at h
    ·simp only [LT.node.injEq] at e1
     obtain ⟨rfl, rfl, rfl, rfl⟩ := e1
     refine .inr ⟨_, _, _, _, rfl, e2, e3, e4, by rw [hg']; simp, fun _ => ⟨_, _, _, hg', by simpa [setFrom_length] using g2, by simpa [setFrom_length] using g3⟩, fun i x r hx hr => ?_⟩
     obtain ⟨vs, y1, y2⟩ := h6 i x r hx hr
     refine ⟨vs, fun c u hu => ?_, y2.flat hf⟩
     rw [hcell, if_neg]
     ·exact y1 c u hu
     ·have hi' := (List.getElem?_eq_some_iff.1 hx).1
      have hcs : c < k.size := by rw [← y2.size]; exact (List.getElem?_eq_some_iff.1 hu).1
      have : (i + 1) * k.size ≤ l.length * k.size := Nat.mul_le_mul_right _ hi'
      rw [Nat.add_mul] at this
      omega
   refine fin (M := .node b off cap (rowsOf (cutL k.size none none l.length (subL k0 (G.lt s j) p)) ++ rows)) (v' := .slice (some ⟨b, off, none⟩) (l.length + ys.length) cap) (by simp) (fun b' hb' _ => hw' b' (by rintro rfl; exact hb' (by rw [hS4]; simp [fp]))) hrepS ?_ (fun b' hb' => .inl ?_) ⟨rfl, rfl, rfl⟩ hd hdn
   ·simp only [Rep]
    refine ⟨_, rfl, RepL.loose2 (repl_append (P := P) (dd := false) r4 hS ho1 ho5 (by simp) (by simp) (fun q u hu => ?_) (by rw [hg']; simp) ⟨_, _, _, hg', by simpa [setFrom_length] using g2, by simpa [setFrom_length] using g3⟩ hroom (by rw [hrf]; simp [Same]) (by rw [hrf]; simp [Same]))⟩
    rw [hcell]
    have hql : q < olds.length + cells.length := by have := (List.getElem?_eq_some_iff.1 hu).1; simpa using this
    by_cases hq : q < olds.length
    ·rw [if_neg (by omega)]
     rw [List.getElem?_append_left hq] at hu
     exact ho6 _ _ _ _ q1 q u hu
    ·rw [if_pos (by omega)]
     rw [List.getElem?_append_right (by omega)] at hu
     rw [← hu]
     congr 1
     omega
   ·simp only [fp, hrf, List.mem_cons, List.not_mem_nil, or_false] at hb'
    subst hb'
    rw [hS4]
    simp [fp]
 ·
  have hge := grownCap_ge w (l.length + ys.length) cap el
  have h63 : ((l.length + ys.length : Nat) : Int) ≤ 9223372036854775807 := by simp only [rowMost] at hmost; omega
  have hb2 : (l.length + ys.length) * i.bytes ≤ 140737488355328 := by
   have : (l.length + ys.length) * i.bytes ≤ (2 * (l.length + ys.length) + 512) * i.bytes := Nat.mul_le_mul_right _ (by omega)
   simp only [byteMost] at hby
   omega
  have hr := run_append_out (P := P) (ty := ty) (base := base) (sLen := l.length) (sCap := cap) (m := ys.length) (vy := vy) (olds := olds) (cells := cells) h0 h1 hu hu1 hd1 hi hz (hS.lenOf w) (by rw [hik]; exact ho2 w.drew rfl) (by rw [hik]; exact hS.first w.drew rfl) hroom h63
   (growslice_fits (by omega) hb2)
  refine ⟨_, _, hr, ?_⟩
  have hnew := heap_alloc_new w.drew (.cells (olds.toArray ++ cells.toArray ++ Builtin.zeroCells z.cells (grownCap w (l.length + ys.length) cap el - (l.length + ys.length))) el)
  have hdr : w.drew.heap = w.heap := rfl
  rw [hdr] at hnew
  have hnone : w.heap[w.heap.size]? = none := by simp
  have hsm : ∀ b', w.heap[b']? ≠ none → (w.drew.alloc (.cells (olds.toArray ++ cells.toArray ++ Builtin.zeroCells z.cells (grownCap w (l.length + ys.length) cap el - (l.length + ys.length))) el)).heap[b']? = w.heap[b']? := fun b' hb' => alloc_same w.drew _ b' hb'
  refine fin (M := .node w.heap.size 0 (grownCap w (l.length + ys.length) cap el) (rowsOf (cutL k.size none none l.length (subL k0 (G.lt s j) p)) ++ rows)) (v' := .slice (some ⟨w.heap.size, 0, none⟩) (l.length + ys.length) (grownCap w (l.length + ys.length) cap el)) (by simp) (fun b' _ hb' => hsm b' hb') ?_ ?_ (fun b' hb' => .inr ?_) ⟨rfl, rfl, rfl⟩ hd hdn
  ·have : Rep true (w.drew.alloc (.cells (olds.toArray ++ cells.toArray ++ Builtin.zeroCells z.cells (grownCap w (l.length + ys.length) cap el - (l.length + ys.length))) el)) (.list k) l (subL k0 (G.lt s j) p) [u] :=
    Rep.same (w := w) (by simp only [Rep]; exact ⟨_, rfl, f1⟩) (fun b' hb' => hsm b' (f1.there b' hb'))
   exact (rep_list this).flat2 hf
  ·simp only [Rep]
   refine ⟨_, rfl, RepL.loose2 (repl_append (P := P) (dd := false) r4 hS ho1 ho5 (by simp) (by simp) (fun q u hu => ?_) (by rw [hnew]; simp) ⟨_, _, _, hnew, ?_, .inr (by simp)⟩ hge (by rw [hrf]; simp [Same]) (by rw [hrf]; simp [Same]))⟩
   ·simp only [World.cell?, hnew, Option.isSome_none, Bool.false_eq_true, if_false, Nat.zero_add]
    have hql : q < olds.length + cells.length := by have := (List.getElem?_eq_some_iff.1 hu).1; simpa using this
    rw [Array.getElem?_append_left (by simpa using hql)]
    simpa using hu
   ·simp only [Array.size_append, List.size_toArray, size_zeroCells, hzk, ho1, hS.len, ← Nat.add_mul, Nat.zero_add]
    exact Nat.mul_le_mul_right _ (by omega)
  ·simp only [fp, hrf, List.mem_cons, List.not_mem_nil, or_false] at hb'
   subst hb'
   exact hnone
end ops
end Go.Mach
namespace Go.Mach
set_option linter.unusedVariables false
set_option linter.unusedSimpArgs false
theorem srcC_d {vars : List Nat} {t t' : Tr} {k : K} {y : C} {ys : List k.T} {d : Bool} (h : srcC vars t k y = some (t', ys, d)) : t'.d = t.d := by
 cases y with
 | ref s j rv sv p lo hi k1 =>
  simp only [srcC] at h
  split at h
  ·simp at h
  ·rename_i hg
   split at h
   ·simp only [Option.some.injEq, Prod.mk.injEq] at h; rw [← h.1]
   ·split at h
    ·simp only [Option.some.injEq, Prod.mk.injEq] at h; rw [← h.1]
    ·split at h
     ·simp only [Option.some.injEq, Prod.mk.injEq] at h; rw [← h.1]; rfl
     ·simp only [Option.some.injEq, Prod.mk.injEq] at h; rw [← h.1]; exact grab_d hg
    ·simp at h
 | dat k' z =>
  cases k' with
  | str =>
   simp only [srcC] at h
   split at h
   ·simp only [Option.some.injEq, Prod.mk.injEq] at h; rw [← h.1]
   ·simp at h
  | _ =>
   simp only [srcC] at h
   split at h
   ·simp at h
   ·rename_i hg
    simp only [Option.some.injEq, Prod.mk.injEq] at h; rw [← h.1]; exact grab_d hg
 | nil =>
  simp only [srcC] at h
  split at h
  ·simp at h
  ·rename_i hg
   simp only [Option.some.injEq, Prod.mk.injEq] at h; rw [← h.1]; exact grab_d hg
 | _ => simp [srcC, Tr.grab] at h
section ops
variable {P : Program} {n : Nat} {e : Env} {a : Act} {w : World} {G : Gh} {get : Nat → Slot} {o : Oper} {x : Ctx} {ws : Writes}
theorem sound_append {c0 : Call} (hty : ∀ t, x.ty t = tyOf P t) (hb : Begin n e a w G get o) (ho : o.op = .call c0) (hcb : c0.callee = .builtin .append) (hat0 : (c0.argTypes[0]?).isSome = true) (hat1 : (c0.argTypes[1]?).isSome = true) {cx cy : C}
  (hc : opds get c0.args.toList = some [(.one, [cx]), (.one, [cy])]) (hfit : fitsTy (x.ty (c0.argTypes.getD 1 0)) cy = true) {t2 : Tr} {c : C} (hap : appendC x.ty x.vars { get, d := o.dst } (c0.argTypes.getD 0 0) cx cy = some (t2, c))
  (h : t2.own o.dst (.one, [c]) = some ws) : Sound P n e a w G o ws := by
 obtain ⟨y, z, hargs, hy, hz⟩ := opds_two hc
 obtain ⟨L, h1, _⟩ := hb.one (by simp [ho, Op.operands, Call.operands, hcb, hargs]) hy
 obtain ⟨M, h2, _⟩ := hb.one (by simp [ho, Op.operands, Call.operands, hcb, hargs]) hz
 obtain ⟨t0, ht0⟩ := Option.isSome_iff_exists.1 hat0
 obtain ⟨t1, ht1⟩ := Option.isSome_iff_exists.1 hat1
 have hg0 : c0.argTypes.getD 0 0 = t0 := by simp only [Array.getD_eq_getD_getElem?, ht0, Option.getD_some]
 have hg1 : c0.argTypes.getD 1 0 = t1 := by simp only [Array.getD_eq_getD_getElem?, ht1, Option.getD_some]
 rw [hg0] at hap
 rw [hg1, hty] at hfit
 have hu1 : ∃ d1, P.underlying t1 = some d1 ∧ ((∃ e1, d1 = .slice e1) ∨ d1 = .string) := by
  by_cases hq : ∃ l, cy = .dat .str l
  ·obtain ⟨l, rfl⟩ := hq
   exact ⟨_, fits_str hfit, .inr rfl⟩
  ·obtain ⟨el, hel⟩ := fits_slice hfit (fun l q => hq ⟨l, q⟩)
   exact ⟨_, hel, .inl ⟨el, rfl⟩⟩
 obtain ⟨d1, hu1, hd1⟩ := hu1
 have hty' : x.ty = tyOf P := funext hty
 rw [hty'] at hap
 simp only [appendC] at hap
 split at hap
 ·rename_i el hd
  have hu := ty_slice hd
  split at hap
  ·simp at hap
  ·rename_i k hk
   obtain ⟨i, hi, hik⟩ := ty_k hk
   split at hap
   ·simp at hap
   ·rename_i t3 ys d hsrc
    obtain ⟨e1, G1, Hy, rows, cells, hS⟩ := src_ok (P := P) hb.inv hb.tr h2 hsrc
    have hcx := hS.ext.cell _ _ _ (by
     cases cx with
     | own => simp at hap
     | _ => rfl) h1
    have htd : t3.d = o.dst := srcC_d hsrc
    have fin : ∀ (t4 : Tr) (e2 : Env) (l : List k.T) (L' : LT) (deep : Bool) (Hx : List Nat), t4.d = o.dst → Inv n e2 a.tmps w G1 → TrOk e t4 e2 → Ext w e1 G1 e2 G1 → Hand w e1 G1 e2 G1 Hx → RepL true w k.size (Rep deep w k) l L' (a.eval y) → Hx = ownB (.own 0 0 deep k l) L' →
      (deep = false → ∀ b ∈ inner k L', G1.ow b = none) → l.length + ys.length ≤ rowMost → (2 * (l.length + ys.length) + 512) * (tyOf P el).bytes ≤ byteMost → (tyOf P el).zero.isSome = true → (tyOf P el).zeros.length = k.size →
      t4.own o.dst (.one, [.own 0 0 (deep && d) k (l ++ ys)]) = some ws → Sound P n e a w G o ws := by
     intro t4 e2 l L' deep Hx g1 g2 g3 g4 g5 g6 g7 g8 g9 g10 g11 g12 g13
     obtain ⟨i', zv, hi', hz'⟩ := zero_info g11
     rw [hi] at hi'
     simp only [Option.some.injEq] at hi'
     subst hi'
     rw [zeros_eq hi hz'] at g12
     rw [(ty_size hi).2.2.1] at g10
     obtain ⟨dd, hdd, hws⟩ := own_dst g13
     have hand2 := hS.hand.append hS.ext g4 g5 (fun b q1 q2 => (hS.ext.loose b q1 q2).1) (fun b q => hS.ext.some_before (g4.some_before (g5.mem b q).2.1))
     have hB : Both w e2 G1 k l L' deep (a.eval y) Hx rows d Hy := by
      refine ⟨g6, g7, g8, ?_, fun b hb' => ?_, fun b hb' => ?_, hS.fpy, hS.there, hS.free⟩
      ·exact List.perm_append_comm.nodup_iff.1 hand2.nodup
      ·obtain ⟨m1, m2, m3, _⟩ := hand2.mem b (by rw [List.mem_append] at hb' ⊢; exact hb'.symm)
       exact ⟨m1, m2, m3⟩
      ·exact hand2.owner hb.inv (hS.ext.trans g4) b (by rw [List.mem_append] at hb' ⊢; exact hb'.symm)
     obtain ⟨v', w', hr, hp⟩ := append_core (P := P) (ty := o.type) (a := a) (G0 := G) g2 g3 ((hS.ext.trans g4).held hb.inv) hB hS.src ht0 ht1 hu hu1 hd1 hi hik hz' (by simpa using g12) g9 g10 (g1.trans hdd) (hb.inb.dst dd hdd)
     refine Sound.new (u := v') (w' := w') ?_ hdd hp hws
     simp only [execOp, ho, resolve, hcb, hargs, Sem.run_bind, Sem.run_pure, Result.andThen_ok, invoke, builtin]
     have : (#[y, z].map a.eval) = #[a.eval y, a.eval z] := by simp
     rw [this, hr]
     rfl
    split at hap
    ·split at hap
     ·rename_i hcond
      obtain ⟨b1, b2, b3, b4⟩ := hcond
      simp only [Option.some.injEq, Prod.mk.injEq] at hap
      obtain ⟨rfl, rfl⟩ := hap
      have hv : a.eval y = .slice none 0 0 := hcx
      refine fin t3 e1 [] .nil true [] htd hS.inv hS.tr Ext.refl Hand.nil (.inl ⟨rfl, rfl, none, 0, hv, fun _ => rfl⟩) (by simp [ownB, fp]) (by simp) (by simpa using b1) (by simpa using b2) b3 b4 (by simpa using h)
     ·simp at hap
    ·rename_i s j rv sv lo hi' k1
     split at hap
     ·rename_i rv' sv' deep k0 l0 hcell
      split at hap
      ·rename_i hq
       obtain ⟨q1, q2⟩ := hq
       split at hap
       ·simp at hap
       ·rename_i l hl
        have hl := castL_some hl
        simp only [Sigma.mk.injEq] at hl
        obtain ⟨rfl, hl⟩ := hl
        have hl := eq_of_heq hl
        subst hl
        split at hap
        ·rename_i hcond
         obtain ⟨b1, b2, b3, b4⟩ := hcond
         simp only [Option.some.injEq, Prod.mk.injEq] at hap
         obtain ⟨rfl, rfl⟩ := hap
         obtain ⟨e2, Hx, L', m1, m2, m3, m4, m5, m6, m7⟩ := dst_ok hS.inv hS.tr hcx hcell q1 q2
         exact fin _ e2 _ L' deep Hx (by exact htd) m1 m2 m3 m4 m5 m6 m7 b1 b2 b3 b4 h
        ·simp at hap
      ·simp at hap
     ·simp at hap
    ·rename_i s j rv sv q0 p k1
     split at hap
     ·rename_i rv' sv' deep k0 l0 hcell
      split at hap
      ·rename_i hq
       obtain ⟨rfl, rfl, q3, rfl, q5⟩ := hq
       split at hap
       ·simp at hap
       ·rename_i l hl
        have hl := castL_some hl
        split at hap
        ·rename_i hcond
         obtain ⟨b1, b2, b3, b4⟩ := hcond
         simp only [Option.some.injEq, Prod.mk.injEq] at hap
         obtain ⟨rfl, rfl⟩ := hap
         obtain ⟨s1, s2⟩ := hS.tr.cell hcell (by simp)
         obtain ⟨i', zv, hi', hz'⟩ := zero_info b3
         rw [hi] at hi'
         simp only [Option.some.injEq] at hi'
         subst hi'
         rw [zeros_eq hi hz'] at b4
         rw [(ty_size hi).2.2.1] at b2
         obtain ⟨dd, hdd, hws⟩ := own_dst h
         obtain ⟨v', w', hr, hp⟩ := nest_core (P := P) (ty := o.type) (a := a) (G0 := G) hS.inv hS.tr (hS.ext.held hb.inv) s2 s1 hcx (by simp) q3 hl q5 hS.src ht0 ht1 hu hu1 hd1 hi hik hz' (by simpa using b4) b1 b2 (htd.trans hdd) (hb.inb.dst dd hdd)
         refine Sound.new (u := v') (w' := w') ?_ hdd hp hws
         simp only [execOp, ho, resolve, hcb, hargs, Sem.run_bind, Sem.run_pure, Result.andThen_ok, invoke, builtin]
         have : (#[y, z].map a.eval) = #[a.eval y, a.eval z] := by simp
         rw [this, hr]
         rfl
        ·simp at hap
      ·simp at hap
     ·simp at hap
    ·simp at hap
 ·simp at hap
end ops
end Go.Mach
namespace Go.Mach
set_option linter.unusedVariables false
set_option linter.unusedSimpArgs false
theorem Inv.turns {n : Nat} {e e' : Env} {tm tm' : Array Value} {w w' : World} {G G' : Gh} (h : Inv n e tm w G) (S : Nat → Prop) (hlen : n ≤ e'.length) (hsz : tm'.size = n)
  (hx : ∀ t, ¬ S t → e'.get t = e.get t)
  (hG : ∀ t, ¬ S t → G'.vs t = G.vs t ∧ (∀ j, G'.lt t j = G.lt t j) ∧ G'.bk t = G.bk t) (htm : ∀ t, ¬ S t → t < n → tm'[t]? = tm[t]?)
  (hTM : ∀ t, S t → TM e e' G G' t) (hst : Still w w' G.ow G'.ow)
  (hown : ∀ t, ¬ S t → ∀ b ∈ fpS G t (e.get t), w'.heap[b]? = w.heap[b]? ∧ G'.ow b = some t)
  (hself : ∀ t, S t → SlotOk n e' tm' w' G' t) (hlt : ∀ b t, G'.ow b = some t → b < w'.heap.size) : Inv n e' tm' w' G' := by
 have ht : ∀ t, TM e e' G G' t := fun t => by
  by_cases g : S t
  ·exact hTM t g
  ·exact TM.refl (hx t g) (hG t g).2.1 (hG t g).2.2
 refine ⟨hsz, hlen, fun t => ?_, hlt⟩
 by_cases g : S t
 ·exact hself t g
 ·obtain ⟨g1, g2, g3⟩ := hG t g
  exact (h.slot t).frame (hx t g) (htm t g) g1 g2 g3 ht hst (hown t g)
theorem inSlots_length (n : Nat) (md : List Bool) : ∀ (i : Nat) (args : List Val), (inSlots n md i args).1.length = args.length ∧ (inSlots n md i args).2.length = 2 * args.length
 | i, [] => ⟨rfl, rfl⟩
 | i, (sh, cs) :: r => by
  obtain ⟨h1, h2⟩ := inSlots_length n md (i + 1) r
  simp only [inSlots]
  split
  ·split <;> (simp [h1, h2]; omega)
  ·simp [h1, h2]; omega
end Go.Mach
namespace Go.Mach
set_option linter.unusedVariables false
set_option linter.unusedSimpArgs false
structure CtxOk (P : Program) [Tabs P] (x : Ctx) : Prop where
 ty : ∀ t, x.ty t = tyOf P t
 call : ∀ {e : Env} {a : Act} {w : World} {G : Gh} {get : Nat → Slot} {o : Oper} {c0 : Call} {f : Operand} {g : Nat} {caps : List C} {vs : List Val} {t2 : Tr},
  Begin x.n e a w G get o → Laid P w G → o.op = .call c0 → c0.callee = .value f → opd get f = some (.one, [.fn g caps]) → opds get c0.args.toList = some vs →
  callC x { get, d := o.dst } o.dst g (vs ++ caps.map fun c => (.one, [c])) = some t2 → Sound P x.n e a w G o t2.ws
 agg : ∀ {e : Env} {a : Act} {w : World} {G : Gh} {get : Nat → Slot} {o : Oper} {op : BinOp} {ty yt : TypeId} {y z : Operand} {cs ds : List C} {ws : Writes},
  Begin x.n e a w G get o → o.op = .binOp op ty y z yt → opd get y = some (.agg, cs) → opd get z = some (.agg, ds) → act x get o = some ws → Sound P x.n e a w G o ws
theorem act_sound {P : Program} [Tabs P] {x : Ctx} (hx : CtxOk P x) {e : Env} {a : Act} {w : World} {G : Gh} {get : Nat → Slot} {o : Oper} {ws : Writes} (hb : Begin x.n e a w G get o) (hlaid : Laid P w G) (h : act x get o = some ws) : Sound P x.n e a w G o ws := by
 have hty := hx.ty
 cases ho : o.op with
 | move y => exact sound_move hb ho h
 | assign y => exact sound_assign hb ho h
 | pick y z t => exact sound_pick hb ho h
 | alloc t => exact sound_alloc hty hb ho h
 | box t y => exact sound_box hty hb ho h
 | build t ps => exact sound_build hty hb ho h
 | buildSlice t m ps => exact sound_buildSlice hty hb ho h
 | load t y => exact sound_load hty hb ho h
 | store t y z => exact sound_store hty rfl hb ho h
 | nilCheck y => exact sound_nilCheck hb ho h
 | binOp op t y z yt => exact sound_binOp hty hb ho (fun cs ds h1 h2 => hx.agg hb ho h1 h2 h) h
 | unOp op t y => exact sound_unOp hb ho h
 | convert s d y => exact sound_convert hty hb ho h
 | makeFunc f fi caps => exact sound_makeFunc hb ho h
 | makeSlice t y z => exact sound_makeSlice hty hb ho h
 | slice t y lo hi mx =>
  cases mx with
  | none => exact sound_slice hty hb ho h
  | some m => simp [act, ho] at h
 | fieldAddr t y f => exact sound_fieldAddr hty hb ho h
 | field t y f => exact sound_field hty hb ho h
 | indexAddr t y z => exact sound_indexAddr hty hb ho h
 | index t y z => exact sound_index hty hb ho h
 | extract y i => exact sound_extract hb ho h
 | call c0 =>
  simp only [act, ho] at h
  split at h
  ·rename_i b hcb
   split at h
   ·rename_i c hc
    split at h
    ·simp at h
    ·rename_i hq
     split at h
     ·rename_i m hm
      exact sound_len hty hb ho hcb (eq_true_of_ne_false fun q => hq (.inl q)) hc (eq_true_of_ne_false fun q => hq (.inr q)) hm h
     ·simp at h
   ·rename_i ca cb hc
    split at h
    ·simp at h
    ·rename_i hq
     split at h
     ·rename_i t2 c hap
      exact sound_append hty hb ho hcb (eq_true_of_ne_false fun q => hq (.inl q)) (eq_true_of_ne_false fun q => hq (.inr (.inl q))) hc (eq_true_of_ne_false fun q => hq (.inr (.inr q))) hap h
     ·simp at h
   ·rename_i k p k' q hc
    split at h
    ·rename_i hk
     subst hk
     exact sound_max hb ho hcb hc h
    ·simp at h
   ·rename_i k p k' q hc
    split at h
    ·rename_i hk
     subst hk
     exact sound_min hb ho hcb hc h
    ·simp at h
   ·simp at h
  ·rename_i f hcf
   split at h
   ·rename_i g caps vs hf hvs
    cases hc : callC x { get, d := o.dst } o.dst g (vs ++ caps.map fun c => (.one, [c])) with
    | none => rw [hc] at h; simp at h
    | some t2 =>
     rw [hc] at h
     simp only [Option.map_some, Option.some.injEq] at h
     subst h
     exact hx.call hb hlaid ho hcf hf hvs hc
   ·simp at h
  ·simp at h
 | _ => simp [act, ho] at h
theorem wantedOk {n : Nat} {e : Env} {a : Act} {w : World} {G : Gh} (h : Inv n e a.tmps w G) {ops : Array Oper} {o : Oper} (hin : ∀ s ∈ guardSlots ops o, s < n) {b : Bool} (hw : wanted e (guardOf ops o) = some b) (hlen : n ≤ 1000000) :
  Region.wanted o (yielded ops a.tmps) = b := by
 unfold Region.wanted
 cases hg : o.guard with
 | none => simp only [guardOf, hg, wanted, Option.some.injEq] at hw; exact hw
 | some p =>
  obtain ⟨j, want⟩ := p
  simp only [guardOf, hg, guardSlots, wanted] at hw hin
  cases hd : (ops[j]?).bind (·.dst) with
  | none =>
   rw [hd] at hin
   simp at hin
   omega
  | some d =>
   rw [hd] at hw hin
   simp only [Option.getD_some, List.mem_singleton, forall_eq] at hw hin
   have hs := h.slot d
   have hf := hs.form hin
   simp only [yielded, hd, Option.bind_some]
   split at hw
   ·rename_i b' hsh hcs
    simp only [Option.some.injEq] at hw
    subst hw
    have hl := hs.len (by rw [hsh]; simp)
    rw [hcs] at hl
    match hvs : G.vs d, hl with
    | [v], _ =>
     have hc := hs.cells (by rw [hsh]; simp) 0 _ v (by rw [hcs]; rfl) (by rw [hvs]; rfl)
     have hv := dat_bool hc
     subst hv
     rw [hsh] at hf
     simp only [FormIs, hvs] at hf
     rw [hf]
     simp only [form, List.headD_cons]
     cases b' <;> cases want <;> rfl
   ·rename_i hsh
    simp only [Option.some.injEq] at hw
    subst hw
    rw [hsh] at hf
    simp only [FormIs, form, cutVals] at hf
    rw [hf]
    cases want <;> rfl
   ·simp at hw
theorem skip_ok {n : Nat} {e : Env} {a : Act} {w : World} {G : Gh} (h : Inv n e a.tmps w G) {o : Oper} (hd : ∀ d, o.dst = some d → d < n) : ∃ G', Post n (e.puts (skipWs e o)) a w G (a.put o.dst undef) w G' := by
 have ht : TrOk e { get := e.get, d := o.dst } e := TrOk.start (fun s => .inl rfl) (fun _ _ => rfl)
 have hv : ValOk e w G (.tup [], []) undef [] (fun _ => .leaf) := ⟨⟨rfl, fun j c v hc _ => by simp at hc⟩, by simp [form, cutVals, undef], by simp, by simp, by simp⟩
 obtain ⟨G', hp⟩ := lay_quiet h ht Held.refl hv hd
 refine ⟨G', ?_⟩
 cases hdd : o.dst with
 | none => rw [hdd] at hp; simpa [skipWs, hdd, Tr.lay] using hp
 | some d => rw [hdd] at hp; simpa [skipWs, hdd, Tr.lay, Tr.put, Tr.at, Env.puts] using hp
theorem stepA_begin {x : Ctx} {ops : Array Oper} {e : Env} {o : Oper} {s : Step} (h : stepA x ops e o = some s) : (∀ t ∈ opSlots o, t < x.n) ∧ (∀ t ∈ guardSlots ops o, t < x.n) ∧
    ((wanted e (guardOf ops o) = some false ∧ s = { ws := skipWs e o, reads := guardSlots ops o ++ o.dst.toList }) ∨
     (wanted e (guardOf ops o) = some true ∧ ∃ ws, act x (fun s => if (looks e o).contains s then e.get s else {}) o = some ws ∧ s = { ws, reads := guardSlots ops o ++ readsOf x e o, soft := softOf x e o, idx := idxOf e o })) := by
  unfold stepA at h
  split at h
  · simp at h
  · rename_i hin
    have hin : (opSlots o).all (· < x.n) = true ∧ (guardSlots ops o).all (· < x.n) = true := by
      cases h1 : (opSlots o).all (· < x.n) <;> cases h2 : (guardSlots ops o).all (· < x.n) <;> simp_all
    refine ⟨by simpa using hin.1, by simpa using hin.2, ?_⟩
    split at h
    · simp at h
    · rename_i hw
      simp only [Option.some.injEq] at h
      exact .inl ⟨hw, h.symm⟩
    · rename_i hw
      split at h
      · simp at h
      · rename_i ws hws
        simp only [Option.some.injEq] at h
        exact .inr ⟨hw, ws, hws, h.symm⟩
theorem begin_looks {n : Nat} {e : Env} {a : Act} {w : World} {G : Gh} {o : Oper} (h : Inv n e a.tmps w G) (hin : ∀ t ∈ opSlots o, t < n) : Begin n e a w G (fun s => if (looks e o).contains s then e.get s else {}) o := by
 refine ⟨h, fun s => ?_, fun d hd => ?_, hin⟩
 ·by_cases q : (looks e o).contains s = true
  ·left; rw [if_pos q]
  ·right; rw [if_neg q]
 ·have : (looks e o).contains d = true := by
   have h1 : d ∈ opSlots o := by simp [opSlots, hd]
   simp only [looks]
   split <;> simp [h1]
  rw [if_pos this]
theorem stepA_sound {P : Program} [Tabs P] {x : Ctx} (hx : CtxOk P x) (hlen : x.n ≤ 1000000) {ops : Array Oper} {e : Env} {a : Act} {w : World} {G : Gh} {i : Nat} {o : Oper} (ho : ops[i]? = some o) {s : Step} (hi : Inv x.n e a.tmps w G) (hlaid : Laid P w G)
  (h : stepA x ops e o = some s) (K : Act → World → Prop) (Q : Exit → Act → World → Prop) (hk : ∀ a' w' G', Post x.n (e.puts s.ws) a w G a' w' G' → K a' w') : wpOp P ops Q i K a w := by
 obtain ⟨h1, h2, h3⟩ := stepA_begin h
 unfold wpOp
 simp only [ho]
 rcases h3 with ⟨hw, rfl⟩ | ⟨hw, ws, hws, rfl⟩
 ·rw [wantedOk hi h2 hw hlen]
  obtain ⟨G', hp⟩ := skip_ok (o := o) hi (fun d hd => h1 d (by simp [opSlots, hd]))
  simp only [Bool.false_eq_true, if_false]
  exact hk _ _ _ hp
 ·rw [wantedOk hi h2 hw hlen]
  simp only [if_true]
  exact .inl (act_sound hx (begin_looks hi h1) hlaid hws K Q hk)
end Go.Mach
namespace Go.Mach
set_option linter.unusedVariables false
set_option linter.unusedSimpArgs false
theorem Post.trans {n : Nat} {e1 e2 : Env} {a a1 a2 : Act} {w w1 w2 : World} {G G1 G2 : Gh} (h : Post n e1 a w G a1 w1 G1) (h' : Post n e2 a1 w1 G1 a2 w2 G2) (hl : e1.length = e2.length) : Post n e2 a w G a2 w2 G2 :=
 ⟨h'.inv, (hl ▸ h.held).trans h'.held, Nat.le_trans h.grows h'.grows, h'.defers.trans h.defers, h.env.trans h'.env⟩
theorem Post.refl {n : Nat} {e : Env} {a : Act} {w : World} {G : Gh} (h : Inv n e a.tmps w G) : Post n e a w G a w G := ⟨h, Held.refl, Nat.le_refl _, rfl, SameEnv.refl⟩
theorem runA_length {x : Ctx} {ops : Array Oper} : ∀ {l : List Nat} {e e' : Env} {tr : Trace}, runA x ops e l = some (e', tr) → e'.length = e.length
 | [], e, e', tr, h => by simp only [runA, Option.some.injEq, Prod.mk.injEq] at h; rw [h.1]
 | i :: r, e, e', tr, h => by
  simp only [runA] at h
  split at h
  ·simp at h
  ·split at h
   ·simp at h
   ·split at h
    ·simp at h
    ·rename_i hr
     simp only [Option.some.injEq, Prod.mk.injEq] at h
     have := runA_length hr
     rw [puts_length] at this
     rw [← h.1, this]
theorem runA_cons {x : Ctx} {ops : Array Oper} {i : Nat} {r : List Nat} {e e' : Env} {tr : Trace} (h : runA x ops e (i :: r) = some (e', tr)) :
  ∃ o s tr', ops[i]? = some o ∧ stepA x ops e o = some s ∧ runA x ops (e.puts s.ws) r = some (e', tr') ∧ tr = entry i e s :: tr' := by
 simp only [runA] at h
 split at h
 ·simp at h
 ·rename_i o ho
  split at h
  ·simp at h
  ·rename_i s hs
   split at h
   ·simp at h
   ·rename_i e1 tr1 hr
    simp only [Option.some.injEq, Prod.mk.injEq] at h
    obtain ⟨rfl, rfl⟩ := h
    exact ⟨o, s, tr1, ho, hs, hr, rfl⟩
theorem runA_sound {P : Program} [Tabs P] {x : Ctx} (hx : CtxOk P x) (hlen : x.n ≤ 1000000) {ops : Array Oper} : ∀ {l : List Nat} {e e' : Env} {tr : Trace} {a : Act} {w : World} {G : Gh}, Inv x.n e a.tmps w G → Laid P w G → runA x ops e l = some (e', tr) →
  ∀ (Q : Exit → Act → World → Prop), (∀ a' w' G', Post x.n e' a w G a' w' G' → Q .normal a' w') → wpOps P ops Q l a w
 | [], e, e', tr, a, w, G, hi, hlaid, h, Q, hq => by
  simp only [runA, Option.some.injEq, Prod.mk.injEq] at h
  obtain ⟨rfl, _⟩ := h
  exact hq _ _ _ (Post.refl hi)
 | i :: r, e, e', tr, a, w, G, hi, hlaid, h, Q, hq => by
  obtain ⟨o, s, tr', ho, hs, hr, _⟩ := runA_cons h
  rw [wpOps_cons]
  refine stepA_sound hx hlen ho hi hlaid hs _ _ fun a1 w1 G1 hp => ?_
  refine runA_sound hx hlen hp.inv (hlaid.post hp) hr Q fun a2 w2 G2 hp2 => hq _ _ _ (hp.trans hp2 (runA_length hr).symm)
theorem puts_get_ne {ws : Writes} : ∀ {e : Env} {t : Nat}, t ∉ ws.map (·.1) → (e.puts ws).get t = e.get t := by
 induction ws with
 | nil => intro e t _; rfl
 | cons a ws ih =>
  obtain ⟨s, x⟩ := a
  intro e t h
  simp only [List.map_cons, List.mem_cons, not_or] at h
  simp only [Env.puts]
  rw [ih h.2, get_set_ne h.1]
theorem set_puts {ws : Writes} : ∀ {e : Env} {s : Nat} {x : Slot}, s ∉ ws.map (·.1) → Env.puts (e.set s x) ws = (Env.puts e ws).set s x := by
 induction ws with
 | nil => intro e s x _; rfl
 | cons a ws ih =>
  obtain ⟨s', y⟩ := a
  intro e s x h
  simp only [List.map_cons, List.mem_cons, not_or] at h
  simp only [Env.puts]
  rw [List.set_comm _ _ h.1, ih h.2]
theorem puts_comm {w1 : Writes} : ∀ {w2 : Writes} {e : Env}, (∀ t ∈ w1.map (·.1), t ∉ w2.map (·.1)) → (e.puts w1).puts w2 = (e.puts w2).puts w1 := by
 induction w1 with
 | nil => intro w2 e _; rfl
 | cons a w1 ih =>
  obtain ⟨s, x⟩ := a
  intro w2 e h
  simp only [Env.puts]
  rw [ih (fun t ht => h t (by simp only [List.map_cons, List.mem_cons]; exact .inr ht)), set_puts (h s (by simp))]
theorem disjoint_not {a b : List Nat} (h : disjoint a b = true) : ∀ t ∈ a, t ∉ b := by
 intro t ht hb
 simp only [disjoint, List.all_eq_true] at h
 have := h t ht
 simp [hb] at this
theorem looks_congr {e e' : Env} {o : Oper} (h : ∀ t ∈ looks e o, e'.get t = e.get t) : looks e' o = looks e o := by
 simp only [looks] at h ⊢
 split
 ·rfl
 ·rename_i hq
  congr 1
  rw [List.flatMap_def, List.flatMap_def]
  congr 1
  refine List.map_congr_left fun t ht => ?_
  rw [h t (by rw [if_neg hq]; simp only [List.mem_append]; exact .inl ht)]
theorem cellSame_symm {a b : C} (h : cellSame a b = true) : cellSame b a = true := by
 cases a <;> cases b <;> simp [cellSame] at h ⊢
 obtain ⟨rfl, rfl, rfl⟩ := h
 simp
theorem cellsSame_symm : ∀ {n : Nat} {a b : List C}, cellsSame a b n = true → cellsSame b a n = true
 | 0, _, _, _ => by simp [cellsSame]
 | n + 1, [], _, h => by simp [cellsSame] at h
 | n + 1, _ :: _, [], h => by simp [cellsSame] at h
 | n + 1, x :: a, y :: b, h => by
  simp only [cellsSame, Bool.and_eq_true] at h ⊢
  exact ⟨cellSame_symm h.1, cellsSame_symm h.2⟩
theorem softSame_box {z z' : Slot} {j n : Nat} (h : softSame z z' j n = true) : ∃ b, z.sh = .box b ∧ z'.sh = .box b ∧ z.cs.length = z'.cs.length ∧ cellsSame (z.cs.drop j) (z'.cs.drop j) n = true := by
 unfold softSame at h
 simp only [Bool.and_eq_true, Nat.beq_eq] at h
 obtain ⟨h1, h2, h3⟩ := h
 split at h1
 ·rename_i b b' g1 g2
  rw [Nat.beq_eq] at h1
  subst h1
  exact ⟨b, g1, g2, h2, h3⟩
 ·simp at h1
theorem softSame_symm {z z' : Slot} {j n : Nat} (h : softSame z z' j n = true) : softSame z' z j n = true := by
 obtain ⟨b, h1, h2, h3, h4⟩ := softSame_box h
 unfold softSame
 rw [h1, h2]
 simp [h3, cellsSame_symm h4]
theorem copyFrom_same {t : Nat} : ∀ {n j : Nat} {a b : List C}, cellsSame a b n = true → copyFrom t j (a.take n) = copyFrom t j (b.take n)
 | 0, j, a, b, _ => by simp
 | n + 1, j, [], _, h => by simp [cellsSame] at h
 | n + 1, j, _ :: _, [], h => by simp [cellsSame] at h
 | n + 1, j, x :: a, y :: b, h => by
  simp only [cellsSame, Bool.and_eq_true] at h
  simp only [List.take_succ_cons, copyFrom]
  rw [copyFrom_same h.2]
  congr 1
  have := h.1
  cases x <;> cases y <;> simp [cellSame] at this
  obtain ⟨rfl, rfl, rfl⟩ := this
  simp [C.copy]
theorem loadC_same {get get' : Nat → Slot} {s bv j n : Nat} (h : softSame (get s) (get' s) j n = true ∨ get' s = get s) : loadC get' n (.bptr s bv j) = loadC get n (.bptr s bv j) := by
 rcases h with h | h
 ·obtain ⟨b, h1, h2, h3, h4⟩ := softSame_box h
  simp only [loadC]
  rw [h1, h2, h3, copyFrom_same h4]
 ·simp only [loadC, h]
theorem lay_ws {get get' : Nat → Slot} {d : Option Nat} {v : Val} (h : ∀ t, d = some t → get' t = get t) : (Tr.lay { get := get', d } d v).ws = (Tr.lay { get, d } d v).ws := by
 cases d with
 | none => rfl
 | some t => simp [Tr.lay, Tr.put, Tr.at, h t rfl]
theorem opd_tmp {get get' : Nat → Slot} {t : Nat} (h : get' t = get t) : opd get' (.tmp t) = opd get (.tmp t) := by simp only [opd, h]
theorem softAt_some {e : Env} {o : Oper} {t n s j m : Nat} (h : softAt e o t n = some (s, j, m)) : m = n ∧ ∃ bv, opd e.get (.tmp t) = some (.one, [.bptr s bv j]) ∧ ∀ d, o.dst = some d → d ≠ s := by
 unfold softAt at h
 split at h
 ·rename_i s' bv j' hop
  split at h
  ·rename_i d hd
   split at h
   ·simp at h
   ·rename_i hne
    simp only [Option.some.injEq, Prod.mk.injEq] at h
    obtain ⟨rfl, rfl, rfl⟩ := h
    refine ⟨rfl, bv, hop, fun d' hd' q => ?_⟩
    rw [hd] at hd'
    simp only [Option.some.injEq] at hd'
    subst hd' q
    simp at hne
  ·simp at h
 ·simp at h
theorem chill_bptr {x : Ctx} {t : Tr} {s b j m : Nat} (h : hitD t.d x.gv = false) : chill x t m (.bptr s b j) = t := by simp only [chill, h]
theorem at_start (get : Nat → Slot) (d : Option Nat) : Tr.at { get, d } = get := rfl
theorem act_soft {x : Ctx} {e e' : Env} {o : Oper} {s j n : Nat} (hs : softOf x e o = some (s, j, n)) (he : ∀ t ∈ opSlots o, t ≠ s → e'.get t = e.get t) (ha : softSame (e.get s) (e'.get s) j n = true ∨ e'.get s = e.get s) :
  softOf x e' o = some (s, j, n) ∧ act x (fun t => if (looks e' o).contains t then e'.get t else {}) o = act x (fun t => if (looks e o).contains t then e.get t else {}) o := by
 have key : ∀ (t m : Nat), softAt e o t m = some (s, j, n) → t ∈ opSlots o → ∃ bv, m = n ∧ opd e.get (.tmp t) = some (.one, [.bptr s bv j]) ∧ opd e'.get (.tmp t) = some (.one, [.bptr s bv j]) ∧ softAt e' o t m = some (s, j, n) ∧ ∀ d, o.dst = some d → d ≠ s := by
  intro t m h hm
  obtain ⟨rfl, bv, h1, h2⟩ := softAt_some h
  have h3 : opd e'.get (.tmp t) = some (.one, [.bptr s bv j]) := by
   by_cases q : t = s
   ·subst q
    rcases ha with ha | ha
    ·obtain ⟨b, g1, g2, _⟩ := softSame_box ha
     simp only [opd, g1] at h1
     simp only [opd, g2]
     exact h1
    ·rw [opd_tmp ha]; exact h1
   ·rw [opd_tmp (he t hm q)]; exact h1
  refine ⟨bv, rfl, h1, h3, ?_, h2⟩
  unfold softAt at h ⊢
  rw [h1] at h
  rw [h3]
  exact h
 have hin : ∀ (f : Env) t, t ∈ opSlots o → (looks f o).contains t = true := by
  intro f t ht
  simp only [looks]
  split <;> simp [ht]
 have hdst : ∀ d, o.dst = some d → d ∈ opSlots o := fun d hd => by simp [opSlots, hd]
 have hopd : ∀ (f : Env) t, t ∈ opSlots o → opd (fun t => if (looks f o).contains t then f.get t else ({} : Slot)) (.tmp t) = opd f.get (.tmp t) := fun f t ht => opd_tmp (if_pos (hin f t ht))
 have hlay : ∀ v, (∀ d, o.dst = some d → d ≠ s) → (Tr.lay { get := fun t => if (looks e' o).contains t then e'.get t else ({} : Slot), d := o.dst } o.dst v).ws = (Tr.lay { get := fun t => if (looks e o).contains t then e.get t else ({} : Slot), d := o.dst } o.dst v).ws := by
  intro v hd
  refine lay_ws fun t ht => ?_
  rw [if_pos (hin e' t (hdst t ht)), if_pos (hin e t (hdst t ht)), he t (hdst t ht) (hd t ht)]
 unfold softOf at hs
 split at hs
 ·rename_i ty t hop
  split at hs
  ·simp at hs
  rename_i hgv
  have hm : t ∈ opSlots o := by simp [opSlots, hop, Op.operands]
  obtain ⟨bv, h1, h2, h3, h4, h5⟩ := key t _ hs hm
  refine ⟨by unfold softOf; rw [hop]; simp only [hgv]; exact h4, ?_⟩
  have hsl : ∀ f : Env, opd f.get (.tmp t) = some (.one, [.bptr s bv j]) → (looks f o).contains s = true := by
   intro f hf
   by_cases q : t = s
   ·subst q; exact hin f t hm
   ·simp only [looks, hop, quietOp]
    simp only [Bool.false_eq_true, if_false, List.contains_iff_mem, List.mem_append, List.mem_flatMap]
    right
    refine ⟨t, by simpa [opSlots, hop] using hm, .bptr s bv j, ?_, by simp [C.targets]⟩
    simp only [opd] at hf
    split at hf
    ·simp at hf
    ·simp only [Option.some.injEq, Prod.mk.injEq, List.cons.injEq, C.bptr.injEq] at hf
     exact absurd hf.2.1.1 q
    ·simp only [Option.some.injEq, Prod.mk.injEq] at hf
     have hc := hf.2
     cases hcs : (f.get t).cs with
     | nil => rw [hcs] at hc; simp [copyFrom] at hc
     | cons c r =>
      rw [hcs] at hc
      simp only [copyFrom, List.cons.injEq] at hc
      have : c = .bptr s bv j := by
       have := hc.1
       cases c <;> simp [C.copy] at this ⊢ <;> exact this
      simp [this]
  have hl : loadC (fun t => if (looks e' o).contains t then e'.get t else ({} : Slot)) (x.ty ty).size (.bptr s bv j) = loadC (fun t => if (looks e o).contains t then e.get t else ({} : Slot)) (x.ty ty).size (.bptr s bv j) := by
   refine loadC_same ?_
   rw [if_pos (hsl e h2), if_pos (hsl e' h3), h1]
   exact ha
  unfold act
  simp only [hop, hopd e t hm, hopd e' t hm, h2, h3, chill_bptr (t := { get := fun t => if (looks e o).contains t then e.get t else ({} : Slot), d := o.dst }) hgv, chill_bptr (t := { get := fun t => if (looks e' o).contains t then e'.get t else ({} : Slot), d := o.dst }) hgv, at_start]
  rw [hl]
  split
  ·cases loadC (fun t => if (looks e o).contains t then e.get t else ({} : Slot)) (x.ty ty).size (.bptr s bv j) with
   | none => rfl
   | some cs => simp only [hlay _ h5]
  ·rfl
 ·rename_i ty t f hop
  have hm : t ∈ opSlots o := by simp [opSlots, hop, Op.operands]
  obtain ⟨bv, h1, h2, h3, h4, h5⟩ := key t _ hs hm
  refine ⟨by unfold softOf; rw [hop]; exact h4, ?_⟩
  unfold act
  simp only [hop, hopd e t hm, hopd e' t hm, h2, h3, addC, hlay _ h5]
 ·simp at hs
def IdxAlike (idx : Option Nat) (e e' : Env) : Prop := ∀ t, idx = some t → e'.get t = e.get t ∨ ∃ rv sv d d' k l l', (e.get t).sh = .one ∧ (e.get t).cs = [.own rv sv d k l] ∧ (e'.get t).sh = .one ∧ (e'.get t).cs = [.own rv sv d' k l']
theorem IdxAlike.symm {idx : Option Nat} {e e' : Env} (h : IdxAlike idx e e') : IdxAlike idx e' e := by
 intro t ht
 rcases h t ht with h | ⟨rv, sv, d, d', k, l, l', h1, h2, h3, h4⟩
 ·exact .inl h.symm
 ·exact .inr ⟨rv, sv, d', d, k, l', l, h3, h4, h1, h2⟩
theorem idxOf_some {e : Env} {o : Oper} {t : Nat} (h : idxOf e o = some t) : ∃ rv sv d k l, o.op = .move (.tmp t) ∧ (e.get t).sh = .one ∧ (e.get t).cs = [.own rv sv d k l] ∧ dstIs o t = false := by
 unfold idxOf at h
 split at h
 ·rename_i t0 hop
  split at h
  ·rename_i rv sv d k l h1 h2
   split at h
   ·simp at h
   ·rename_i hb
    simp only [Option.some.injEq] at h
    subst h
    exact ⟨rv, sv, d, k, l, hop, h1, h2, hb⟩
  ·simp at h
 ·simp at h
theorem act_idx {x : Ctx} {e e' : Env} {o : Oper} {t : Nat} (hs : idxOf e o = some t) (he : ∀ u ∈ opSlots o, u ≠ t → e'.get u = e.get u) (ha : IdxAlike (some t) e e') :
  idxOf e' o = some t ∧ act x (fun u => if (looks e' o).contains u then e'.get u else {}) o = act x (fun u => if (looks e o).contains u then e.get u else {}) o := by
 obtain ⟨rv, sv, d, k, l, hop, h1, h2, hb⟩ := idxOf_some hs
 have h3 : ∀ d, o.dst = some d → d ≠ t := by
  rintro d hd rfl
  simp [dstIs, hd] at hb
 obtain ⟨d', l', g1, g2⟩ : ∃ d' l', (e'.get t).sh = .one ∧ (e'.get t).cs = [.own rv sv d' k l'] := by
  rcases ha t rfl with h | ⟨rv', sv', d0, d', k', l0, l', q1, q2, q3, q4⟩
  ·rw [h]; exact ⟨d, l, h1, h2⟩
  ·rw [h2] at q2
   simp only [List.cons.injEq, and_true] at q2
   cases q2
   exact ⟨d', l', q3, q4⟩
 refine ⟨by unfold idxOf; rw [hop]; simp only [g1, g2, hb], ?_⟩
 have hin : ∀ (f : Env) u, u ∈ opSlots o → (looks f o).contains u = true := by
  intro f u hu
  simp only [looks]
  split <;> simp [hu]
 have hm : t ∈ opSlots o := by simp [opSlots, hop, Op.operands]
 have hdst : ∀ d, o.dst = some d → d ∈ opSlots o := fun d hd => by simp [opSlots, hd]
 have hlay : ∀ v, (Tr.lay { get := fun u => if (looks e' o).contains u then e'.get u else ({} : Slot), d := o.dst } o.dst v).ws = (Tr.lay { get := fun u => if (looks e o).contains u then e.get u else ({} : Slot), d := o.dst } o.dst v).ws := by
  intro v
  refine lay_ws fun u hu => ?_
  rw [if_pos (hin e' u (hdst u hu)), if_pos (hin e u (hdst u hu)), he u (hdst u hu) (h3 u hu)]
 have hx : ∀ (f : Env) dd ll, (f.get t).sh = .one → (f.get t).cs = [.own rv sv dd k ll] → opd (fun u => if (looks f o).contains u then f.get u else ({} : Slot)) (.tmp t) = some (.one, [.ref t 0 rv sv [] none none k]) := by
  intro f dd ll q1 q2
  simp only [opd, if_pos (hin f t hm), q1, q2, copyFrom, C.copy]
 unfold act
 simp only [hop, hx e d l h1 h2, hx e' d' l' g1 g2, hlay]
def Alike (s : Soft) (e e' : Env) : Prop := ∀ t j n, s = some (t, j, n) → softSame (e.get t) (e'.get t) j n = true ∨ e'.get t = e.get t
theorem idxOf_congr {e e' : Env} {o : Oper} (h : ∀ t ∈ opSlots o, e'.get t = e.get t) : idxOf e' o = idxOf e o := by
 unfold idxOf
 split
 ·rename_i t hop
  rw [h t (by simp [opSlots, hop, Op.operands])]
 ·rfl
theorem idx_soft {x : Ctx} {e e' : Env} {o : Oper} {t : Nat} (h : idxOf e o = some t) : softOf x e' o = none := by
 obtain ⟨_, _, _, _, _, hop, _⟩ := idxOf_some h
 unfold softOf
 rw [hop]
theorem soft_idx {x : Ctx} {e : Env} {o : Oper} {p : Nat × Nat × Nat} (h : softOf x e o = some p) (f : Env) : idxOf f o = none := by
 unfold softOf at h
 split at h
 ·rename_i hop; unfold idxOf; rw [hop]
 ·rename_i hop; unfold idxOf; rw [hop]
 ·simp at h
theorem cellSame_own {c c' : C} (h : cellSame c c' = true) : ∃ rv sv d d' k l l', c = .own rv sv d k l ∧ c' = .own rv sv d' k l' := by
 cases c <;> cases c' <;> simp [cellSame] at h
 obtain ⟨rfl, rfl, rfl⟩ := h
 exact ⟨_, _, _, _, _, _, _, rfl, rfl⟩
theorem rootSame_own {z z' : Slot} (h : rootSame z z' = true) : ∃ rv sv d d' k l l', z.sh = .one ∧ z.cs = [.own rv sv d k l] ∧ z'.sh = .one ∧ z'.cs = [.own rv sv d' k l'] := by
 unfold rootSame at h
 split at h
 ·rename_i c c' h1 h2 h3 h4
  obtain ⟨rv, sv, d, d', k, l, l', rfl, rfl⟩ := cellSame_own h
  exact ⟨rv, sv, d, d', k, l, l', h1, h2, h3, h4⟩
 ·simp at h
theorem puts_get_or {ws : Writes} : ∀ {e : Env} {t : Nat}, (e.puts ws).get t = e.get t ∨ ∃ q ∈ ws, q.1 = t ∧ (e.puts ws).get t = q.2 := by
 induction ws with
 | nil => intro e t; exact .inl rfl
 | cons a ws ih =>
  obtain ⟨s, x⟩ := a
  intro e t
  simp only [Env.puts]
  rcases ih (e := e.set s x) (t := t) with h | ⟨q, h1, h2, h3⟩
  ·by_cases g : t = s
   ·subst g
    rcases Nat.lt_or_ge t e.length with hl | hl
    ·right
     refine ⟨(t, x), by simp, rfl, ?_⟩
     rw [h]
     simp [Env.get, List.getD_eq_getElem?_getD, hl]
    ·left
     rw [h]
     simp [Env.get, List.getD_eq_getElem?_getD, hl]
   ·left
    rw [h, get_set_ne g]
  ·exact .inr ⟨q, by simp [h1], h2, h3⟩
theorem idxAlike_of {e : Env} {ws : Writes} {idx : Option Nat} (h : idxOk (ws.map fun q => (q.1, e.get q.1, q.2)) idx = true) : IdxAlike idx e (e.puts ws) := by
 rintro t rfl
 rcases puts_get_or (ws := ws) (e := e) (t := t) with h1 | ⟨q, h1, rfl, h3⟩
 ·exact .inl h1
 ·right
  simp only [idxOk, List.all_eq_true, List.mem_map] at h
  have := h _ ⟨q, h1, rfl⟩
  simp only [Bool.or_eq_true, Bool.not_eq_true'] at this
  rcases this with g | g
  ·simp at g
  ·obtain ⟨rv, sv, d, d', k, l, l', r1, r2, r3, r4⟩ := rootSame_own g
   rw [h3]
   exact ⟨rv, sv, d, d', k, l, l', r1, r2, r3, r4⟩
theorem stepA_local {x : Ctx} {ops : Array Oper} {e e' : Env} {o : Oper} {s : Step} (h : stepA x ops e o = some s) (he : ∀ t ∈ s.reads, e'.get t = e.get t) (hal : Alike s.soft e e') (hix : IdxAlike s.idx e e') : stepA x ops e' o = some s := by
 have hcond : (!((opSlots o).all (· < x.n) && (guardSlots ops o).all (· < x.n))) = false := by
  unfold stepA at h
  split at h
  ·simp at h
  ·rename_i q; exact Bool.not_eq_true _ ▸ q
 obtain ⟨_, _, h3⟩ := stepA_begin h
 have hguard : (∀ t ∈ guardSlots ops o, e'.get t = e.get t) → wanted e' (guardOf ops o) = wanted e (guardOf ops o) := by
  intro q
  cases hg : guardOf ops o with
  | none => rfl
  | some p =>
   obtain ⟨t, want⟩ := p
   simp only [guardSlots, hg] at q
   simp only [wanted, q t (by simp)]
 unfold stepA
 rw [hcond]
 simp only [Bool.false_eq_true, if_false]
 rcases h3 with ⟨hw, rfl⟩ | ⟨hw, ws, hws, rfl⟩
 ·rw [hguard fun t ht => he t (by simp [ht]), hw]
  simp only [Option.some.injEq, Step.mk.injEq, and_true]
  simp only [skipWs]
  split
  ·rename_i d hd
   rw [he d (by simp [hd])]
  ·rfl
 ·rw [hguard fun t ht => he t (by simp [ht]), hw]
  simp only
  cases hsoft : softOf x e o with
  | none =>
   cases hidx : idxOf e o with
   | none =>
    have hro : readsOf x e o = looks e o := by simp only [readsOf, hsoft, hidx]
    rw [hro] at he ⊢
    have hmem : ∀ t ∈ opSlots o, t ∈ guardSlots ops o ++ looks e o := fun t ht => by
     simp only [looks, List.mem_append]
     right
     split <;> simp [ht]
    have hl : looks e' o = looks e o := looks_congr fun t ht => he t (by simp [ht])
    have hs' : softOf x e' o = none := by
     rw [← hsoft]
     have hop : ∀ t, t ∈ opSlots o → opd e'.get (.tmp t) = opd e.get (.tmp t) := fun t ht => opd_tmp (he t (hmem t ht))
     unfold softOf
     split
     ·rename_i ty t hop'
      cases hitD o.dst x.gv <;> simp only [softAt, hop t (by simp [opSlots, hop', Op.operands])]
     ·rename_i ty t f hop'
      simp only [softAt, hop t (by simp [opSlots, hop', Op.operands])]
     ·rfl
    have hi' : idxOf e' o = none := by
     rw [← hidx]
     exact idxOf_congr fun t ht => he t (hmem t ht)
    have hro' : readsOf x e' o = looks e o := by simp only [readsOf, hs', hi', hl]
    have : (fun s => if (looks e' o).contains s = true then e'.get s else ({} : Slot)) = fun s => if (looks e o).contains s = true then e.get s else {} := by
     funext t
     rw [hl]
     by_cases q : (looks e o).contains t = true
     ·rw [if_pos q, if_pos q]
      exact he t (by simp only [List.mem_append]; right; simpa using q)
     ·rw [if_neg q, if_neg q]
    rw [this, hws, hro', hs', hi']
   | some t =>
    have hro : readsOf x e o = (opSlots o).filter fun u => !Nat.beq u t := by simp only [readsOf, hsoft, hidx]
    rw [hro] at he ⊢
    obtain ⟨q1, q2⟩ := act_idx (x := x) (e' := e') hidx (fun u hu hne => he u (by
     simp only [List.mem_append, List.mem_filter]
     right
     refine ⟨hu, ?_⟩
     cases hb : Nat.beq u t with
     | false => rfl
     | true => exact absurd (Nat.eq_of_beq_eq_true hb) hne)) (fun u hu => by
      simp only [Option.some.injEq] at hu
      subst hu
      exact hix t hidx)
    rw [q2, hws]
    have hs' : softOf x e' o = none := idx_soft hidx
    have hro' : readsOf x e' o = (opSlots o).filter fun u => !Nat.beq u t := by simp only [readsOf, hs', q1]
    rw [hro', hs', q1]
  | some p =>
   obtain ⟨s0, j, n⟩ := p
   have hno : ∀ f, idxOf f o = none := soft_idx hsoft
   have hro : readsOf x e o = (opSlots o).filter fun t => !Nat.beq t s0 := by simp only [readsOf, hsoft]
   rw [hro] at he ⊢
   obtain ⟨q1, q2⟩ := act_soft (e' := e') hsoft (fun t ht hne => he t (by
    simp only [List.mem_append, List.mem_filter]
    right
    refine ⟨ht, ?_⟩
    cases hb : Nat.beq t s0 with
    | false => rfl
    | true => exact absurd (Nat.eq_of_beq_eq_true hb) hne)) (hal s0 j n hsoft)
   rw [q2, hws]
   have hro' : readsOf x e' o = (opSlots o).filter fun t => !Nat.beq t s0 := by simp only [readsOf, q1]
   rw [hro', q1, hno e', hno e]
theorem alike_of {soft : Soft} {e : Env} {ws : Writes} (h : softOk (ws.map fun q => (q.1, e.get q.1, q.2)) soft = true) : Alike soft e (e.puts ws) := by
 rintro t j n rfl
 rcases puts_get_or (ws := ws) (e := e) (t := t) with h1 | ⟨q, h1, h2, h3⟩
 ·exact .inr h1
 ·left
  simp only [softOk, List.all_eq_true, List.mem_map] at h
  have := h _ ⟨q, h1, rfl⟩
  simp only [Bool.or_eq_true, Bool.not_eq_true'] at this
  rcases this with g | g
  ·rw [h2] at g; simp at g
  ·rw [h3]; rw [h2] at g; exact g
theorem Alike.symm {soft : Soft} {e e' : Env} (h : Alike soft e e') : Alike soft e' e := fun t j n hs => (h t j n hs).imp softSame_symm Eq.symm
theorem entry_congr {i : Nat} {e e' : Env} {s : Step} (h : ∀ t ∈ s.ws.map (·.1), e'.get t = e.get t) : entry i e' s = entry i e s := by
 simp only [entry]
 have : s.ws.map (fun q => (q.1, e'.get q.1, q.2)) = s.ws.map fun q => (q.1, e.get q.1, q.2) := List.map_congr_left fun q hq => by rw [h q.1 (List.mem_map.2 ⟨q, hq, rfl⟩)]
 rw [this]
theorem swap {x : Ctx} {ops : Array Oper} {e : Env} {i j : Nat} {oi oj : Oper} {si sj : Step} (hi : stepA x ops e oi = some si) (hj : stepA x ops (e.puts si.ws) oj = some sj)
  (hd : indep (entry i e si) (entry j (e.puts si.ws) sj) = true) :
  stepA x ops e oj = some sj ∧ stepA x ops (e.puts sj.ws) oi = some si ∧ (e.puts sj.ws).puts si.ws = (e.puts si.ws).puts sj.ws ∧ entry j (e.puts si.ws) sj = entry j e sj ∧ entry i (e.puts sj.ws) si = entry i e si := by
 simp only [indep, Bool.and_eq_true] at hd
 obtain ⟨⟨⟨⟨d1, d2⟩, d3⟩, d4, d5⟩, d6, d7⟩ := hd
 have d1 := disjoint_not d1
 have d2 := disjoint_not d2
 have d3 := disjoint_not d3
 have e1 : entry j (e.puts si.ws) sj = entry j e sj := entry_congr fun t ht => puts_get_ne fun q => d2 t q ht
 have e2 : entry i (e.puts sj.ws) si = entry i e si := entry_congr fun t ht => puts_get_ne fun q => d2 t ht q
 rw [e1] at d5 d7
 have q1 := stepA_local hj (fun t ht => (puts_get_ne fun q => d1 t q ht).symm) (alike_of (e := e) d4).symm (idxAlike_of (e := e) d6).symm
 exact ⟨q1, stepA_local hi (fun t ht => puts_get_ne fun q => d3 t q ht) (alike_of d5) (idxAlike_of d7), (puts_comm d2).symm, e1, e2⟩
theorem bubble {x : Ctx} {ops : Array Oper} {j : Nat} {R2 : List Nat} : ∀ {R1 : List Nat} {e ef : Env} {tr : Trace}, runA x ops e (R1 ++ j :: R2) = some (ef, tr) →
  ∃ tr1 tj tr2, tr = tr1 ++ tj :: tr2 ∧ tr1.map (·.1) = R1 ∧ tj.1 = j ∧ ((∀ c ∈ tr1, indep c tj = true) → ∃ o s, ops[j]? = some o ∧ stepA x ops e o = some s ∧ tj = entry j e s ∧ runA x ops (e.puts s.ws) (R1 ++ R2) = some (ef, tr1 ++ tr2))
 | [], e, ef, tr, h => by
  obtain ⟨o, s, tr', ho, hs, hr, rfl⟩ := runA_cons h
  exact ⟨[], _, tr', rfl, rfl, rfl, fun _ => ⟨o, s, ho, hs, rfl, hr⟩⟩
 | i :: R1, e, ef, tr, h => by
  obtain ⟨oi, si, tr', hoi, hsi, hr, rfl⟩ := runA_cons h
  obtain ⟨tr1, tj, tr2, rfl, h1, h2, h3⟩ := bubble hr
  refine ⟨_ :: tr1, tj, tr2, rfl, by simp [h1, entry], h2, fun hc => ?_⟩
  obtain ⟨o, s, ho, hs, hsj, hr'⟩ := h3 fun c hc' => hc c (by simp [hc'])
  have hin := hc _ (List.mem_cons_self ..)
  rw [hsj] at hin
  obtain ⟨q1, q2, q3, q4, q5⟩ := swap hsi hs hin
  refine ⟨o, s, ho, q1, hsj.trans q4, ?_⟩
  simp only [List.cons_append, runA, hoi, q2]
  rw [q3, hr']
  simp only [q5]
theorem ordered_split {b : List Nat} : ∀ {tr1 : Trace} {tj : Entry} {tr2 : Trace}, ordered b (tr1 ++ tj :: tr2) = true → ordered b (tr1 ++ tr2) = true ∧ ∀ c ∈ tr1, comesBefore b c.1 tj.1 = true ∨ indep c tj = true
 | [], tj, tr2, h => by
  simp only [List.nil_append, ordered, Bool.and_eq_true] at h
  exact ⟨h.2, by simp⟩
 | c :: tr1, tj, tr2, h => by
  simp only [List.cons_append, ordered, Bool.and_eq_true, List.all_eq_true, Bool.or_eq_true] at h ⊢
  obtain ⟨h1, h2⟩ := h
  obtain ⟨g1, g2⟩ := ordered_split h2
  refine ⟨⟨fun d hd => h1 d ?_, g1⟩, fun d hd => ?_⟩
  ·simp only [List.mem_append, List.mem_cons] at hd ⊢
   rcases hd with hd | hd
   ·exact .inl hd
   ·exact .inr (.inr hd)
  ·simp only [List.mem_cons] at hd
   rcases hd with rfl | hd
   ·exact h1 tj (by simp)
   ·exact g2 d hd
theorem befOne_bit {acc : List Nat} : ∀ {l : List Edge} {i : Nat}, (befOne acc l).testBit i = true → ∃ d ∈ l, Region.binds .any d = true ∧ (i = d.on ∨ (acc.getD d.on 0).testBit i = true)
 | [], i, h => by simp [befOne] at h
 | d :: r, i, h => by
  simp only [befOne] at h
  split at h
  ·rename_i hb
   rw [Nat.testBit_or, Nat.testBit_or, Nat.testBit_two_pow] at h
   simp only [Bool.or_eq_true, decide_eq_true_eq] at h
   rcases h with (h | h) | h
   ·exact ⟨d, by simp, hb, .inl h.symm⟩
   ·exact ⟨d, by simp, hb, .inr h⟩
   ·obtain ⟨d', h1, h2⟩ := befOne_bit h
    exact ⟨d', by simp [h1], h2⟩
  ·obtain ⟨d', h1, h2⟩ := befOne_bit h
   exact ⟨d', by simp [h1], h2⟩
theorem befs_prefix : ∀ {l : List Oper} {acc : List Nat}, ∃ r, befs acc l = acc ++ r
 | [], acc => ⟨[], by simp [befs]⟩
 | o :: l, acc => by
  obtain ⟨r, h⟩ := befs_prefix (l := l) (acc := acc ++ [befOne acc o.after.toList])
  exact ⟨befOne acc o.after.toList :: r, by simp [befs, h]⟩
theorem befs_get : ∀ {l : List Oper} {acc : List Nat} {j : Nat} {o : Oper}, l[j]? = some o → (befs acc l).getD (acc.length + j) 0 = befOne ((befs acc l).take (acc.length + j)) o.after.toList
 | [], acc, j, o, h => by simp at h
 | o' :: l, acc, 0, o, h => by
  simp only [List.getElem?_cons_zero, Option.some.injEq] at h
  subst h
  obtain ⟨r, hr⟩ := befs_prefix (l := l) (acc := acc ++ [befOne acc o'.after.toList])
  simp only [befs, hr]
  simp [List.getD_eq_getElem?_getD]
 | o' :: l, acc, j + 1, o, h => by
  simp only [List.getElem?_cons_succ] at h
  have := befs_get (acc := acc ++ [befOne acc o'.after.toList]) h
  simp only [List.length_append, List.length_cons, List.length_nil] at this
  simp only [befs]
  rw [show acc.length + (j + 1) = acc.length + (0 + 1) + j by omega]
  exact this
theorem edgesBack_get : ∀ {l : List Oper} {m j : Nat} {o : Oper}, edgesBack m l = true → l[j]? = some o → ∀ d ∈ o.after.toList, Region.binds .any d = true → d.on < m + j
 | [], m, j, o, _, h => by simp at h
 | o' :: l, m, 0, o, hb, h => by
  simp only [List.getElem?_cons_zero, Option.some.injEq] at h
  subst h
  simp only [edgesBack, Bool.and_eq_true, List.all_eq_true, Bool.or_eq_true, Bool.not_eq_true', decide_eq_true_eq] at hb
  intro d hd hbd
  rcases hb.1 d hd with q | q
  ·rw [hbd] at q; simp at q
  ·omega
 | o' :: l, m, j + 1, o, hb, h => by
  simp only [List.getElem?_cons_succ] at h
  simp only [edgesBack, Bool.and_eq_true] at hb
  intro d hd hbd
  have := edgesBack_get hb.2 h d hd hbd
  omega
theorem any_sound {P : Program} [Tabs P] {x : Ctx} (hx : CtxOk P x) (hlen : x.n ≤ 1000000) {ops : Array Oper} (hback : edgesBack 0 ops.toList = true) (Q : Exit → Act → World → Prop) :
  ∀ (fuel : Nat) {listed : Array Bool} {R : List Nat} {e ef : Env} {tr : Trace} {a : Act} {w : World} {G : Gh}, listed.size = ops.size →
  (∀ i, i ∈ R ↔ i < ops.size ∧ listed.getD i true = false) → R.Pairwise (· < ·) → R.length ≤ fuel →
  (∀ i j, comesBefore (befs [] ops.toList) i j = true → j < ops.size → listed.getD j true = true → listed.getD i false = true) →
  runA x ops e R = some (ef, tr) → ordered (befs [] ops.toList) tr = true → Inv x.n e a.tmps w G → Laid P w G → (∀ a' w' G', Post x.n ef a w G a' w' G' → Q .normal a' w') → wpAny P .any ops Q fuel listed a w := by
 intro fuel
 have mem_ready : ∀ (listed : Array Bool) j, j ∈ Region.ready .any ops listed ↔ j < ops.size ∧ listed.getD j true = false ∧ ∃ o, ops[j]? = some o ∧ ∀ d ∈ o.after.toList, Region.binds .any d = true → listed.getD d.on false = true := by
  intro listed j
  simp only [Region.ready, List.mem_filter, List.mem_range, Bool.and_eq_true, Bool.not_eq_true']
  constructor
  ·rintro ⟨h1, h2, h3⟩
   refine ⟨h1, h2, ?_⟩
   cases ho : ops[j]? with
   | none => rw [ho] at h3; simp at h3
   | some o =>
    rw [ho] at h3
    simp only [Option.map_some, Option.getD_some, Array.all_eq_true_iff_forall_mem, Bool.or_eq_true, Bool.not_eq_true'] at h3
    refine ⟨o, rfl, fun d hd hb => ?_⟩
    have := h3 d (by simpa using hd)
    rcases this with q | q
    ·rw [hb] at q; simp at q
    ·exact q
  ·rintro ⟨h1, h2, o, ho, h3⟩
   refine ⟨h1, h2, ?_⟩
   rw [ho]
   simp only [Option.map_some, Option.getD_some, Array.all_eq_true_iff_forall_mem, Bool.or_eq_true, Bool.not_eq_true']
   intro d hd
   cases hb : Region.binds .any d with
   | false => exact .inl rfl
   | true => exact .inr (h3 d (by simpa using hd) hb)
 induction fuel with
 | zero =>
  intro listed R e ef tr a w G hs hR hp hf hcl hr ho hi hlaid hq
  have : R = [] := List.eq_nil_of_length_eq_zero (by omega)
  subst this
  simp only [runA, Option.some.injEq, Prod.mk.injEq] at hr
  obtain ⟨rfl, _⟩ := hr
  refine ⟨?_, hq _ _ _ (Post.refl hi)⟩
  refine List.eq_nil_iff_forall_not_mem.2 fun j hj => ?_
  obtain ⟨h1, h2, _⟩ := (mem_ready listed j).1 hj
  have := (hR j).2 ⟨h1, h2⟩
  simp at this
 | succ fuel ih =>
  intro listed R e ef tr a w G hs hR hp hf hcl hr ho hi hlaid hq
  refine ⟨fun hnil => ?_, fun j hj => ?_⟩
  ·cases R with
   | nil =>
    simp only [runA, Option.some.injEq, Prod.mk.injEq] at hr
    obtain ⟨rfl, _⟩ := hr
    exact hq _ _ _ (Post.refl hi)
   | cons j R =>
    exfalso
    obtain ⟨h1, h2⟩ := (hR j).1 (by simp)
    obtain ⟨o, hoj⟩ : ∃ o, ops[j]? = some o := ⟨ops[j], by simp [h1]⟩
    have hmem : j ∈ Region.ready .any ops listed := by
     refine (mem_ready listed j).2 ⟨h1, h2, o, hoj, fun d hd hb => ?_⟩
     have hlt := edgesBack_get (o := o) (j := j) hback (by simpa using hoj) d hd hb
     have hon : d.on < ops.size := by omega
     cases hl : listed.getD d.on true with
     | false =>
      have := (hR d.on).2 ⟨hon, hl⟩
      simp only [List.mem_cons] at this
      rcases this with q | q
      ·omega
      ·have := (List.pairwise_cons.1 hp).1 d.on q
       omega
     | true =>
      have hsz : d.on < listed.size := by omega
      simp only [Array.getD, hsz, dite_true] at hl ⊢
      exact hl
    rw [hnil] at hmem
    simp at hmem
  ·obtain ⟨h1, h2, oj, hoj, h3⟩ := (mem_ready listed j).1 hj
   have hjR : j ∈ R := (hR j).2 ⟨h1, h2⟩
   obtain ⟨R1, R2, rfl⟩ := List.append_of_mem hjR
   have hbef : ∀ i, comesBefore (befs [] ops.toList) i j = true → listed.getD i false = true := by
    intro i hc
    simp only [comesBefore] at hc
    have hg := befs_get (acc := []) (l := ops.toList) (j := j) (o := oj) (by simpa using hoj)
    simp only [List.length_nil, Nat.zero_add] at hg
    rw [hg] at hc
    obtain ⟨d, hd, hb, hc⟩ := befOne_bit hc
    have hld := h3 d hd hb
    rcases hc with rfl | hc
    ·exact hld
    ·have hlt := edgesBack_get (o := oj) (j := j) hback (by simpa using hoj) d hd hb
     have hon : d.on < ops.size := by omega
     refine hcl i d.on ?_ hon ?_
     ·simp only [comesBefore]
      rw [List.getD_eq_getElem?_getD, List.getElem?_take] at hc
      split at hc
      ·rw [List.getD_eq_getElem?_getD]; exact hc
      ·simp at hc
     ·have hsz : d.on < listed.size := by omega
      simp only [Array.getD, hsz, dite_true] at hld ⊢
      exact hld
   obtain ⟨tr1, tj, tr2, rfl, g1, g2, g3⟩ := bubble hr
   obtain ⟨q1, q2⟩ := ordered_split ho
   obtain ⟨o, s, ho', hs', _, hr'⟩ := g3 fun c hc => by
    rcases q2 c hc with q | q
    ·exfalso
     rw [g2] at q
     have hl := hbef _ q
     have hcR : c.1 ∈ R1 := by rw [← g1]; exact List.mem_map.2 ⟨c, hc, rfl⟩
     obtain ⟨k1, k2⟩ := (hR c.1).1 (by simp [hcR])
     have hsz : c.1 < listed.size := by omega
     simp only [Array.getD, hsz, dite_true] at hl k2
     rw [hl] at k2
     simp at k2
    ·exact q
   refine stepA_sound hx hlen ho' hi hlaid hs' _ _ fun a1 w1 G1 hp1 => ?_
   have hnd : ∀ i, i ∈ R1 ++ R2 ↔ i ∈ R1 ++ j :: R2 ∧ i ≠ j := by
    intro i
    have hpw := List.pairwise_append.1 hp
    constructor
    ·intro hi'
     refine ⟨by simp only [List.mem_append, List.mem_cons] at hi' ⊢; rcases hi' with q | q; exact .inl q; exact .inr (.inr q), ?_⟩
     rintro rfl
     simp only [List.mem_append] at hi'
     rcases hi' with q | q
     ·have := hpw.2.2 i q i (by simp); omega
     ·have := (List.pairwise_cons.1 hpw.2.1).1 i q; omega
    ·rintro ⟨hi', hne⟩
     simp only [List.mem_append, List.mem_cons] at hi' ⊢
     rcases hi' with q | q | q
     ·exact .inl q
     ·exact absurd q hne
     ·exact .inr q
   have hset : ∀ i d, (listed.setIfInBounds j true).getD i d = if i = j then true else listed.getD i d := by
    intro i d
    have hjs : j < listed.size := by omega
    by_cases q : i = j
    ·subst q; simp [Array.getD, hjs]
    ·rw [if_neg q]
     by_cases hsz : i < listed.size
     ·simp [Array.getD, hsz, Array.getElem_setIfInBounds, Ne.symm q]
     ·simp [Array.getD, hsz]
   refine ih (by simpa using hs) (fun i => ?_) ?_ ?_ ?_ hr' q1 hp1.inv (hlaid.post hp1) fun a2 w2 G2 hp2 => hq _ _ _ (hp1.trans hp2 (runA_length hr').symm)
   ·rw [hnd, hR, hset]
    by_cases q : i = j
    ·simp [q]
    ·simp [q]
   ·refine hp.sublist ?_
    exact List.Sublist.append (List.Sublist.refl _) (List.sublist_cons_self _ _)
   ·simp only [List.length_append, List.length_cons] at hf ⊢
    omega
   ·intro i k hc hk hl
    rw [hset] at hl ⊢
    by_cases q : i = j
    ·rw [if_pos q]
    ·rw [if_neg q]
     by_cases q' : k = j
     ·subst q'
      exact hbef i hc
     ·rw [if_neg q'] at hl
      exact hcl i k hc hk hl
theorem Inv.heap {n : Nat} {e : Env} {tm : Array Value} {w w' : World} {G : Gh} (h : Inv n e tm w G) (hh : w'.heap = w.heap) : Inv n e tm w' G :=
 ⟨h.size, h.elen, fun s => (h.slot s).frame rfl (fun _ => rfl) rfl (fun _ => rfl) rfl (fun t => TM.refl rfl (fun _ => rfl) rfl) (fun b q1 q2 => ⟨by rw [hh], q1⟩) (fun b hb => ⟨by rw [hh], (h.slot s).own b hb⟩),
  fun b s q => by rw [hh]; exact h.lt b s q⟩
theorem region_sound {P : Program} [Tabs P] {x : Ctx} (hx : CtxOk P x) (hlen : x.n ≤ 1000000) (hm : P.follows .mixedOrders = true) {id : Nat} {ops : Array Oper} {draw : Bool} {e e' : Env} {a : Act} {w : World} {G : Gh} (hi : Inv x.n e a.tmps w G) (hlaid : Laid P w G)
  (h : region x ops draw e = some e') (Q : Exit → Act → World → Prop) (hq : ∀ a' w' G', Post x.n e' a w G a' w' G' → Q .normal a' w') : (Code.region id ops draw).wp P Q a w := by
 simp only [region] at h
 split at h
 ·simp at h
 ·rename_i e1 tr hr
  split at h
  ·rename_i hc
   simp only [Option.some.injEq] at h
   subst h
   cases draw with
   | false => exact wp_region (runA_sound hx hlen hi hlaid hr Q hq)
   | true =>
    simp only [Bool.not_true, Bool.false_or, Bool.and_eq_true] at hc
    refine wp_region_any hm ?_
    have hi' : Inv x.n e a.tmps { w with drawn := w.drawn + 1 } G := hi.heap rfl
    refine any_sound hx hlen hc.1 Q ops.size (R := List.range ops.size) (by simp) (fun i => ?_) List.pairwise_lt_range (by simp) ?_ hr hc.2 hi' hlaid fun a' w' G' hp => hq _ _ _ ⟨hp.inv, ⟨hp.held.still, hp.held.vs, hp.held.out⟩, hp.grows, hp.defers, ⟨hp.env.os, hp.env.tape, hp.env.output⟩⟩
    ·simp only [List.mem_range]
     constructor
     ·intro h; exact ⟨h, by simp [Array.getD, h]⟩
     ·exact fun h => h.1
    ·intro i j hb hj hl
     simp [Array.getD, hj] at hl
  ·simp at h
end Go.Mach
namespace Go.Mach
set_option linter.unusedVariables false
set_option linter.unusedSimpArgs false
theorem normFrom_get (e0 : Env) (ks : List Nat) : ∀ (e : Env) (s t : Nat), (normFrom e0 ks s e).getD t {} = if t < e.length then normS e0 ks (s + t) (e.getD t {}) else {}
 | [], s, t => by simp [normFrom]
 | x :: r, s, 0 => by simp [normFrom]
 | x :: r, s, t + 1 => by
  have := normFrom_get e0 ks r (s + 1) t
  simp only [normFrom, List.getD_cons_succ, List.length_cons, Nat.add_lt_add_iff_right]
  rw [this, show s + 1 + t = s + (t + 1) by omega]
theorem normFrom_length (e0 : Env) (ks : List Nat) : ∀ (e : Env) (s : Nat), (normFrom e0 ks s e).length = e.length
 | [], s => rfl
 | x :: r, s => by simp [normFrom, normFrom_length e0 ks r (s + 1)]
theorem norm_length (live : List Nat) (e : Env) : (norm live e).length = e.length := normFrom_length _ _ _ _
theorem norm_get (live : List Nat) (e : Env) (s : Nat) : (norm live e).get s = if s < e.length then normS e (keeps e live) s (e.get s) else {} := by
 have := normFrom_get e (keeps e live) e 0 s
 simp only [Nat.zero_add] at this
 exact this
theorem norm_own {live : List Nat} {e : Env} {s j rv sv : Nat} {d : Bool} {k : K} {l : List k.T} (h : ((norm live e).get s).cs.getD j .dead = .own rv sv d k l) :
  rv = 0 ∧ sv = 0 ∧ ∃ rv' sv', (e.get s).cs.getD j .dead = .own rv' sv' d k l := by
 rw [norm_get] at h
 split at h
 ·simp only [normS] at h
  split at h
  ·have h1 := some_of_getD h (by simp)
   simp only [List.getElem?_map] at h1
   cases hc : (e.get s).cs[j]? with
   | none => rw [hc] at h1; simp at h1
   | some c =>
    rw [hc] at h1
    simp only [Option.map_some, Option.some.injEq] at h1
    cases c with
    | own rv' sv' d' k' l' =>
     simp only [normC, C.own.injEq] at h1
     obtain ⟨rfl, rfl, rfl, rfl, hl⟩ := h1
     have hl := eq_of_heq hl
     subst hl
     exact ⟨rfl, rfl, rv', sv', getD_some hc _⟩
    | ref s' j' rv' sv' p lo hi k' => simp only [normC] at h1; split at h1 <;> (try split at h1) <;> simp at h1
    | aptr s' j' rv' sv' p i c k' => simp only [normC] at h1; split at h1 <;> (try split at h1) <;> simp at h1
    | bptr s' bv j' => simp only [normC] at h1; split at h1 <;> simp at h1
    | _ => simp [normC] at h1
  ·simp at h
 ·simp at h
theorem norm_box {live : List Nat} {e : Env} {s bv : Nat} (h : ((norm live e).get s).sh = .box bv) : bv = 0 ∧ ((norm live e).get s).cnt = 1 ∧ ∃ bv', (e.get s).sh = .box bv' := by
 rw [norm_get] at h ⊢
 split at h
 ·rename_i hl
  rw [if_pos hl]
  simp only [normS] at h ⊢
  split at h
  ·rename_i hk
   rw [if_pos hk]
   cases hs : (e.get s).sh <;> rw [hs] at h <;> simp at h
   exact ⟨h.symm, rfl, _, rfl⟩
  ·simp at h
 ·simp at h
theorem norm_cnt {live : List Nat} {e : Env} {s : Nat} (h : (keeps e live).contains s = true) (hc : 0 < (e.get s).cnt) : ((norm live e).get s).cnt = 1 := by
 rw [norm_get]
 have : s < e.length := by
  rcases Nat.lt_or_ge s e.length with q | q
  ·exact q
  ·rw [get_out (by omega)] at hc; simp at hc
 rw [if_pos this]
 simp only [normS]
 rw [if_pos h]
theorem normC0 {live : List Nat} {e : Env} {w : World} {G : Gh} {c : C} {v : Value} {L : LT} (hf : c.isFn = false) (h : CellOk0 e w G c v L) : CellOk0 (norm live e) w G (normC e (keeps e live) c) v L := by
 cases c with
 | dead => trivial
 | nil => exact h
 | dat k x => exact h
 | own rv sv d k l => exact h
 | ref s j rv sv p lo hi k =>
  simp only [normC]
  split
  ·rename_i rv' sv' d k0 l0 hk hc
   split
   ·rename_i hq
    obtain ⟨rfl, hq⟩ := hq
    obtain ⟨h1, h2, h3⟩ := h
    have hcnt := norm_cnt hk (Nat.lt_of_le_of_lt (Nat.zero_le _) h1)
    refine ⟨by rw [hcnt]; omega, fun _ => by rw [hcnt]; omega, fun sv1 d1 k1 l1 g1 g2 => ?_⟩
    obtain ⟨_, _, rv2, sv2, g3⟩ := norm_own g1
    rw [hc] at g3
    simp only [C.own.injEq] at g3
    obtain ⟨rfl, rfl, rfl, rfl, hl⟩ := g3
    have hl := eq_of_heq hl
    subst hl
    refine h3 _ _ _ _ hc ?_
    rcases hq with q | q
    ·exact .inl q
    ·rcases g2 with g2 | g2
     ·exact .inl g2
     ·exact .inr ⟨q, g2.2⟩
   ·trivial
  ·trivial
 | aptr s j rv sv p i c k =>
  simp only [normC]
  split
  ·rename_i rv' sv' d k0 l0 hk hc
   split
   ·rename_i hq
    obtain ⟨rfl, hq⟩ := hq
    obtain ⟨h0, h1, h2, h3⟩ := h
    have hcnt := norm_cnt hk (Nat.lt_of_le_of_lt (Nat.zero_le _) h1)
    refine ⟨h0, by rw [hcnt]; omega, fun _ => by rw [hcnt]; omega, fun sv1 d1 k1 l1 g1 g2 => ?_⟩
    obtain ⟨_, _, rv2, sv2, g3⟩ := norm_own g1
    rw [hc] at g3
    simp only [C.own.injEq] at g3
    obtain ⟨rfl, rfl, rfl, rfl, hl⟩ := g3
    have hl := eq_of_heq hl
    subst hl
    refine h3 _ _ _ _ hc ?_
    rcases hq with q | q
    ·exact .inl q
    ·rcases g2 with g2 | g2
     ·exact .inl g2
     ·exact .inr ⟨q, g2.2⟩
   ·trivial
  ·trivial
 | bptr s bv j =>
  simp only [normC]
  split
  ·rename_i hq
   obtain ⟨h1, h2, h3⟩ := h
   have hcnt := norm_cnt hq.1 (Nat.lt_of_le_of_lt (Nat.zero_le _) h1)
   exact ⟨by rw [hcnt]; omega, fun _ => h2 hq.2, h3⟩
  ·trivial
 | pim cs j => exact h
 | fn f caps => simp [C.isFn] at hf
theorem normC_ok {live : List Nat} {e : Env} {w : World} {G : Gh} {c : C} {v : Value} {L : LT} (h : CellOk e w G c v L) : CellOk (norm live e) w G (normC e (keeps e live) c) v L := by
 cases hf : c.isFn with
 | true =>
  cases c with
  | fn f caps =>
   obtain ⟨us, Ls, h1, h2, h3⟩ := h
   refine ⟨us, Ls, h1, by simp [h2], fun i c u hc hu => ?_⟩
   simp only [List.getElem?_map] at hc
   cases hci : caps[i]? with
   | none => rw [hci] at hc; simp at hc
   | some c0 =>
    rw [hci] at hc
    simp only [Option.map_some, Option.some.injEq] at hc
    obtain ⟨g1, g2, g3⟩ := h3 i c0 u hci hu
    subst hc
    have key := normC0 (live := live) g1 g3
    cases c0 with
    | bptr s bv j =>
     refine ⟨?_, ?_, key⟩
     ·simp only []; split <;> rfl
     ·simp only []; split <;> rfl
    | pim cs j => exact ⟨rfl, rfl, key⟩
    | _ => exact ⟨rfl, rfl, trivial⟩
  | _ => simp [C.isFn] at hf
 | false =>
  have h0 : CellOk0 e w G c v L := by cases c <;> first | exact h | simp [C.isFn] at hf
  have key := normC0 (live := live) hf h0
  have hnf : (normC e (keeps e live) c).isFn = false := by
   cases c <;> simp only [normC] <;> (try split) <;> (try split) <;> first | rfl | simp [C.isFn] at hf
  cases hc' : normC e (keeps e live) c <;> rw [hc'] at key hnf <;> first | exact key | simp [C.isFn] at hnf
theorem normC_ownB {e : Env} {ks : List Nat} {c : C} {L : LT} : ownB (normC e ks c) L = ownB c L := by
 cases c with
 | own rv sv d k l => cases d <;> rfl
 | ref s j rv sv p lo hi k => simp only [normC]; split <;> (try split) <;> rfl
 | aptr s j rv sv p i c k => simp only [normC]; split <;> (try split) <;> rfl
 | bptr s bv j => simp only [normC]; split <;> rfl
 | _ => rfl
theorem norm_inv {n : Nat} {e : Env} {tm : Array Value} {w : World} {G : Gh} (live : List Nat) (h : Inv n e tm w G) : Inv n (norm live e) tm w G := by
 refine ⟨h.size, by rw [norm_length]; exact h.elen, fun s => ?_, h.lt⟩
 have hs := h.slot s
 by_cases hl : s < e.length
 ·have hg : (norm live e).get s = normS e (keeps e live) s (e.get s) := by rw [norm_get, if_pos hl]
  by_cases hk : (keeps e live).contains s = true
  ·have hg' : (norm live e).get s = { sh := (match (e.get s).sh with | .box _ => .box 0 | h => h), cs := (e.get s).cs.map (normC e (keeps e live)), cnt := 1 } := by
    rw [hg]; simp only [normS]; rw [if_pos hk]; cases (e.get s).sh <;> rfl
   have hsh : ((norm live e).get s).sh ≠ .dead → (e.get s).sh ≠ .dead := by
    intro q r
    rw [hg', r] at q
    exact q rfl
   have hfp : fpS G s ((norm live e).get s) = fpS G s (e.get s) := by
    have key : ∀ (cs : List C) (i : Nat), fpCells (G.lt s) i (cs.map (normC e (keeps e live))) = fpCells (G.lt s) i cs := by
     intro cs
     induction cs with
     | nil => intro i; rfl
     | cons c cs ih => intro i; simp only [List.map_cons, fpCells, normC_ownB, ih]
    rw [hg']
    simp only [fpS, key]
    cases (e.get s).sh <;> rfl
   refine ⟨fun hn => ?_, fun bv hbv => ?_, fun q => ?_, fun q j c v hc hv => ?_, fun q j rv sv d k l hc => ?_, ?_, ?_, fun q => ?_⟩
   ·have := hs.form hn
    rw [hg']
    simp only
    revert this
    cases (e.get s).sh <;> exact id
   ·obtain ⟨rfl, h1, bv', h2⟩ := norm_box hbv
    obtain ⟨_, ty, h4⟩ := hs.box bv' h2
    exact ⟨by omega, ty, h4⟩
   ·rw [hg']; simp only [List.length_map]; exact hs.len (hsh q)
   ·rw [hg'] at hc
    simp only [List.getElem?_map] at hc
    cases hcj : (e.get s).cs[j]? with
    | none => rw [hcj] at hc; simp at hc
    | some c0 =>
     rw [hcj] at hc
     simp only [Option.map_some, Option.some.injEq] at hc
     subst hc
     exact normC_ok (hs.cells (hsh q) j c0 v hcj hv)
   ·obtain ⟨rfl, rfl, _⟩ := norm_own (getD_some hc .dead)
    rw [hg']; simp
   ·rw [hfp]; exact hs.nodup
   ·rw [hfp]; exact hs.own
   ·rw [hg'] at q ⊢
    simp only at q ⊢
    have : (e.get s).sh = .dead := by
     revert q
     cases (e.get s).sh <;> simp
    rw [hs.dead this]; rfl
  ·refine SlotOk.nothing ?_
   rw [hg]
   simp only [normS]
   rw [if_neg hk]
 ·refine SlotOk.nothing ?_
  rw [norm_get, if_neg hl]
def dd : Slot := { sh := .dead, cs := [], cnt := 1 }
def C.base : C → Bool
 | .own rv sv _ _ _ => rv == 0 && sv == 0
 | .ref _ _ rv sv _ _ _ _ => rv == 0 && sv == 0
 | .aptr _ _ rv sv _ _ _ _ => rv == 0 && sv == 0
 | .bptr _ bv _ => bv == 0
 | .fn _ caps => caps.all fun | .bptr _ bv _ => bv == 0 | .pim _ _ => true | .dead => true | _ => false
 | _ => true
def C.refAt : C → List (Nat × Nat)
 | .ref s j _ _ _ _ _ _ => [(s, j)]
 | .aptr s j _ _ _ _ _ _ => [(s, j)]
 | _ => []
def GenC (n s : Nat) (c c' : C) : Prop := (c' = c ∧ c.base = true) ∨ c' = .dead ∨ (s < n ∧ c = .nil ∧ ∃ d k, c' = .own 0 0 d k [] ∨ c' = .dat (.list k) [])
structure GenS (n s : Nat) (x x' : Slot) : Prop where
 sh : x'.sh = x.sh
 cnt : x'.cnt = 1
 box : ∀ bv, x'.sh = .box bv → bv = 0
 len : x'.cs.length = x.cs.length
 cell : ∀ (j : Nat) c c', x.cs[j]? = some c → x'.cs[j]? = some c' → GenC n s c c'
structure Gen (n : Nat) (e e' : Env) : Prop where
 len : e'.length = e.length
 slot : ∀ s, s < e.length → e'.get s = dd ∨ GenS n s (e.get s) (e'.get s) ∨ (e.get s = {} ∧ e'.get s = {})
 refs : ∀ (s j : Nat) (c : C), (e'.get s).cs[j]? = some c → ∀ t i, (t, i) ∈ c.refAt → ∀ rv sv d k l, (e'.get t).cs.getD i .dead = .own rv sv d k l → (e.get t).cs.getD i .dead = .own rv sv d k l
open Classical in
theorem gen_inv {n : Nat} {e e' : Env} {tm : Array Value} {w : World} {G : Gh} (h : Inv n e tm w G) (g : Gen n e e') (m : Nat) : ∃ G', Inv n e' tm w G' ∧ Held n m w w G G' := by
 let G' : Gh := { G with lt := fun s j => if s < n ∧ (e.get s).cs.getD j .dead = .nil then .nil else G.lt s j }
 have hlt : ∀ s j, (e.get s).cs.getD j .dead ≠ .nil → G'.lt s j = G.lt s j := fun s j q => if_neg fun r => q r.2
 have hcnt : ∀ t, 0 < (e.get t).cnt → (e'.get t).cnt = 1 := by
  intro t ht
  have hl : t < e.length := by
   rcases Nat.lt_or_ge t e.length with q | q
   ·exact q
   ·rw [get_out (by omega)] at ht; simp at ht
  rcases g.slot t hl with q | q | q
  ·rw [q]; rfl
  ·exact q.cnt
  ·rw [q.1] at ht; simp at ht
 have hbox : ∀ t bv, (e'.get t).sh = .box bv → (e.get t).sh = .box bv ∧ bv = 0 := by
  intro t bv q
  by_cases hl : t < e.length
  ·rcases g.slot t hl with r | r | r
   ·rw [r] at q; simp [dd] at q
   ·exact ⟨by rw [← r.sh]; exact q, r.box bv q⟩
   ·rw [r.2] at q; simp at q
  ·rw [get_out (by rw [g.len]; exact hl)] at q; simp at q
 have stay0 : ∀ (c : C) v L, (∀ t i, (t, i) ∈ c.refAt → ∀ rv sv d k l, (e'.get t).cs.getD i .dead = .own rv sv d k l → (e.get t).cs.getD i .dead = .own rv sv d k l) → c.base = true → c.isFn = false →
   CellOk0 e w G c v L → CellOk0 e' w G' c v L := by
  intro c v L hr hb hf hc
  cases c with
  | ref s j rv sv p lo hi k =>
   simp only [C.base, Bool.and_eq_true, beq_iff_eq] at hb
   obtain ⟨rfl, rfl⟩ := hb
   obtain ⟨h1, h2, h3⟩ := hc
   have hc1 := hcnt s h1
   refine ⟨by rw [hc1]; omega, fun _ => by rw [hc1]; omega, fun sv1 d1 k1 l1 g1 g2 => ?_⟩
   have g1' := hr s j (by simp [C.refAt]) _ _ _ _ _ g1
   have := h3 sv1 d1 k1 l1 g1' g2
   rw [hlt s j (by rw [g1']; simp)]
   exact this
  | aptr s j rv sv p i c k =>
   simp only [C.base, Bool.and_eq_true, beq_iff_eq] at hb
   obtain ⟨rfl, rfl⟩ := hb
   obtain ⟨h0, h1, h2, h3⟩ := hc
   have hc1 := hcnt s h1
   refine ⟨h0, by rw [hc1]; omega, fun _ => by rw [hc1]; omega, fun sv1 d1 k1 l1 g1 g2 => ?_⟩
   have g1' := hr s j (by simp [C.refAt]) _ _ _ _ _ g1
   have := h3 sv1 d1 k1 l1 g1' g2
   rw [hlt s j (by rw [g1']; simp)]
   exact this
  | bptr s bv j =>
   simp only [C.base, beq_iff_eq] at hb
   subst hb
   obtain ⟨h1, h2, h3⟩ := hc
   exact ⟨by rw [hcnt s h1]; omega, fun q => h2 (hbox s 0 q).1, h3⟩
  | fn f caps => simp [C.isFn] at hf
  | _ => exact hc
 have stay : ∀ (c : C) v L, (∀ t i, (t, i) ∈ c.refAt → ∀ rv sv d k l, (e'.get t).cs.getD i .dead = .own rv sv d k l → (e.get t).cs.getD i .dead = .own rv sv d k l) → c.base = true →
   CellOk e w G c v L → CellOk e' w G' c v L := by
  intro c v L hr hb hc
  cases c with
  | fn f caps =>
   obtain ⟨us, Ls, h1, h2, h3⟩ := hc
   refine ⟨us, Ls, h1, h2, fun i c u hci hu => ?_⟩
   obtain ⟨q1, q2, q3⟩ := h3 i c u hci hu
   simp only [C.base, List.all_eq_true] at hb
   have hb' := hb c (List.mem_of_getElem? hci)
   refine ⟨q1, q2, ?_⟩
   cases c with
   | bptr s bv j => exact stay0 _ _ _ (by simp [C.refAt]) (by simpa [C.base] using hb') rfl q3
   | pim cs j => exact stay0 _ _ _ (by simp [C.refAt]) rfl rfl q3
   | dead => trivial
   | _ => simp at hb'
  | ref s j rv sv p lo hi k => exact stay0 (.ref s j rv sv p lo hi k) v L hr hb rfl hc
  | aptr s j rv sv p i c k => exact stay0 (.aptr s j rv sv p i c k) v L hr hb rfl hc
  | bptr s bv j => exact stay0 (.bptr s bv j) v L hr hb rfl hc
  | dead => trivial
  | nil => exact hc
  | dat k x => exact hc
  | own rv sv d k l => exact hc
  | pim cs j => exact hc
 have hlt' : ∀ b s, G'.ow b = some s → b < w.heap.size := h.lt
 refine ⟨G', ⟨h.size, by rw [g.len]; exact h.elen, fun s => ?_, hlt'⟩, ⟨still_refl, fun s hs => ⟨fun _ => ⟨rfl, fun j => by rw [show G'.lt s j = G.lt s j from if_neg fun q => by omega]⟩, rfl⟩, fun b t q1 _ _ => ⟨rfl, q1⟩⟩⟩
 have hs := h.slot s
 by_cases hl : s < e.length
 ·rcases g.slot s hl with q | q | q
  rotate_left
  rotate_left
  ·exact SlotOk.nothing q.2
  ·refine ⟨fun _ => ?_, fun bv hb => ?_, fun hd => ?_, fun hd => ?_, fun hd => ?_, ?_, ?_, fun _ => ?_⟩
   ·rw [q]; trivial
   ·rw [q] at hb; simp [dd] at hb
   ·rw [q] at hd; simp [dd] at hd
   ·rw [q] at hd; simp [dd] at hd
   ·rw [q] at hd; simp [dd] at hd
   ·rw [q]; simp [fpS, dd]
   ·rw [q]; simp [fpS, dd]
   ·rw [q]; rfl
  ·have hsub : ∀ (cs cs' : List C) (i : Nat), cs'.length = cs.length → (∀ (j : Nat) c c', cs[j]? = some c → cs'[j]? = some c' → (ownB c' (G'.lt s (i + j))).Sublist (ownB c (G.lt s (i + j)))) →
     (fpCells (G'.lt s) i cs').Sublist (fpCells (G.lt s) i cs) := by
    intro cs
    induction cs with
    | nil => intro cs' i hl _; obtain rfl := List.eq_nil_of_length_eq_zero hl; simp [fpCells]
    | cons c cs ih =>
     intro cs' i hl hc
     cases cs' with
     | nil => simp at hl
     | cons c' cs' =>
      simp only [fpCells]
      refine List.Sublist.append ?_ (ih cs' (i + 1) (by simpa using hl) fun j d d' h1 h2 => ?_)
      ·simpa using hc 0 c c' rfl rfl
      ·have := hc (j + 1) d d' h1 h2
       rw [show i + 1 + j = i + (j + 1) by omega]; exact this
   have hcellsub : ∀ (j : Nat) c c', (e.get s).cs[j]? = some c → (e'.get s).cs[j]? = some c' → (ownB c' (G'.lt s (0 + j))).Sublist (ownB c (G.lt s (0 + j))) := by
    intro j c c' h1 h2
    rw [Nat.zero_add]
    rcases q.cell j c c' h1 h2 with ⟨rfl, _⟩ | rfl | ⟨hn, rfl, d0, k, rfl | rfl⟩
    ·by_cases hc : c' = .nil
     ·subst hc; simp [ownB]
     ·rw [hlt s j (by rw [getD_some h1]; exact hc)]
      exact List.Sublist.refl _
    ·simp [ownB]
    ·have : G'.lt s j = .nil := if_pos ⟨hn, getD_some h1 _⟩
     rw [this]; cases d0 <;> simp [ownB, fp, hdOf]
    ·simp [ownB]
   have hfp : (fpS G' s (e'.get s)).Sublist (fpS G s (e.get s)) := by
    simp only [fpS, q.sh]
    refine List.Sublist.append ?_ ?_
    ·cases (e.get s).sh <;> exact List.Sublist.refl _
    ·cases hsh : (e.get s).sh <;> first | exact List.Sublist.refl _ | exact hsub _ _ 0 q.len hcellsub
   refine ⟨fun hn => ?_, fun bv hb => ?_, fun hd => ?_, fun hd j c' v hc' hv => ?_, fun hd j rv sv d k l hc' => ?_, ?_, fun b hb => ?_, fun hd => ?_⟩
   ·rw [q.sh]; exact hs.form hn
   ·obtain ⟨h1, rfl⟩ := hbox s bv hb
    obtain ⟨_, ty, h3⟩ := hs.box 0 h1
    exact ⟨by rw [q.cnt]; omega, ty, h3⟩
   ·rw [q.len]; exact hs.len (by rw [← q.sh]; exact hd)
   ·have hjl : j < (e.get s).cs.length := by
     rw [← q.len]
     exact (List.getElem?_eq_some_iff.1 hc').1
    obtain ⟨c, hc⟩ : ∃ c, (e.get s).cs[j]? = some c := ⟨_, List.getElem?_eq_getElem hjl⟩
    have hcell := hs.cells (by rw [← q.sh]; exact hd) j c v hc hv
    rcases q.cell j c c' hc hc' with ⟨rfl, hb⟩ | rfl | ⟨hn, rfl, d0, k, rfl | rfl⟩
    ·have := stay c' v (G.lt s j) (fun t i ht => g.refs s j c' hc' t i ht) hb hcell
     by_cases hnil : c' = .nil
     ·subst hnil; exact this
     ·rw [hlt s j (by rw [getD_some hc]; exact hnil)]; exact this
    ·trivial
    ·have hL : G'.lt s j = .nil := if_pos ⟨hn, getD_some hc _⟩
     rw [hL]
     have hv' : v = .slice none 0 0 := hcell
     exact ⟨.inl ⟨rfl, rfl, none, 0, hv', fun _ => rfl⟩, fun _ => by simp [inner]⟩
    ·have hL : G'.lt s j = .nil := if_pos ⟨hn, getD_some hc _⟩
     rw [hL]
     have hv' : v = .slice none 0 0 := hcell
     refine ⟨?_, by simp [fp]⟩
     simp only [Rep]
     exact ⟨v, rfl, .inl ⟨rfl, rfl, none, 0, hv', fun h => by cases h⟩⟩
   ·have hjl : j < (e.get s).cs.length := by
     rw [← q.len]
     exact (List.getElem?_eq_some_iff.1 hc').1
    obtain ⟨c, hc⟩ : ∃ c, (e.get s).cs[j]? = some c := ⟨_, List.getElem?_eq_getElem hjl⟩
    rw [q.cnt]
    rcases q.cell j c _ hc hc' with ⟨rfl, hb⟩ | hb | ⟨hn, rfl, d0, k', hb | hb⟩
    ·simp only [C.base, Bool.and_eq_true, beq_iff_eq] at hb
     omega
    ·cases hb
    ·simp only [C.own.injEq] at hb; omega
    ·cases hb
   ·exact hfp.nodup hs.nodup
   ·exact hs.own b (hfp.subset hb)
   ·rw [q.sh] at hd
    have := hs.dead hd
    have h2 := q.len
    rw [this] at h2
    exact List.eq_nil_of_length_eq_zero h2
 ·refine SlotOk.nothing (get_out (by rw [g.len]; exact hl))
end Go.Mach
namespace Go.Mach
set_option linter.unusedVariables false
set_option linter.unusedSimpArgs false
inductive PF where
 | dead
 | bptr (s j : Nat)
 | pim (ks : List K) (j : Nat)
inductive PC where
 | dead
 | nil
 | dat (k : K)
 | own (deep : Bool) (k : K)
 | ref (s j : Nat) (p : List Nat) (lo hi : Bool) (k : K)
 | bptr (s j : Nat)
 | aptr (s j : Nat) (p : List Nat) (c : Nat) (k : K)
 | pim (ks : List K) (j : Nat)
 | fn (f : Nat) (caps : List PF)
@[reducible] def PathT : List Nat → Type
 | [] => Unit
 | _ :: r => Nat × PathT r
@[reducible] def OptT : Bool → Type
 | true => Nat
 | false => Unit
@[reducible] def KsT : List K → Type
 | [] => Unit
 | k :: r => k.T × KsT r
@[reducible] def PF.T : PF → Type
 | .pim ks _ => KsT ks
 | _ => Unit
@[reducible] def PFsT : List PF → Type
 | [] => Unit
 | f :: r => f.T × PFsT r
@[reducible] def PC.T : PC → Type
 | .dat k => k.T
 | .own _ k => List k.T
 | .ref _ _ p lo hi _ => PathT p × OptT lo × OptT hi
 | .aptr _ _ p _ _ => PathT p × Nat
 | .pim ks _ => KsT ks
 | .fn _ caps => PFsT caps
 | _ => Unit
@[reducible] def CsT : List PC → Type
 | [] => Unit
 | [c] => c.T
 | c :: c' :: r => c.T × CsT (c' :: r)
def encPath : (p : List Nat) → PathT p → Path
 | [], _ => []
 | c :: r, d => (d.1, c) :: encPath r d.2
def encOpt : (b : Bool) → OptT b → Option Nat
 | true, n => some n
 | false, _ => none
def encKs : (ks : List K) → KsT ks → List C
 | [], _ => []
 | k :: r, d => .dat k d.1 :: encKs r d.2
def encPF : (f : PF) → f.T → C
 | .dead, _ => .dead
 | .bptr s j, _ => .bptr s 0 j
 | .pim ks j, d => .pim (encKs ks d) j
def encPFs : (fs : List PF) → PFsT fs → List C
 | [], _ => []
 | f :: r, d => encPF f d.1 :: encPFs r d.2
def encC : (p : PC) → p.T → C
 | .dead, _ => .dead
 | .nil, _ => .nil
 | .dat k, x => .dat k x
 | .own deep k, l => .own 0 0 deep k l
 | .ref s j p lo hi k, d => .ref s j 0 0 (encPath p d.1) (encOpt lo d.2.1) (encOpt hi d.2.2) k
 | .bptr s j, _ => .bptr s 0 j
 | .aptr s j p c k, d => .aptr s j 0 0 (encPath p d.1) d.2 c k
 | .pim ks j, d => .pim (encKs ks d) j
 | .fn f caps, d => .fn f (encPFs caps d)
def encCs : (ps : List PC) → CsT ps → List C
 | [], _ => []
 | [p], d => [encC p d]
 | p :: q :: r, d => encC p d.1 :: encCs (q :: r) d.2
def castK (k : K) (x : k.T) (k' : K) : Option k'.T := if h : k = k' then some (h ▸ x) else none
def decPath : (p : List Nat) → Path → Option (PathT p)
 | [], [] => some ()
 | c :: r, (i, c') :: q => match Nat.beq c c', decPath r q with
  | true, some d => some (i, d)
  | _, _ => none
 | _, _ => none
def decOpt : (b : Bool) → Option Nat → Option (OptT b)
 | true, some n => some n
 | false, none => some ()
 | _, _ => none
def decKs : (ks : List K) → List C → Option (KsT ks)
 | [], [] => some ()
 | k :: r, .dat k' x :: cs => match castK k' x k, decKs r cs with
  | some x, some d => some (x, d)
  | _, _ => none
 | _, _ => none
def decPF : (f : PF) → C → Option f.T
 | .dead, .dead => some ()
 | .bptr s j, .bptr s' bv j' => if Nat.beq s s' && Nat.beq bv 0 && Nat.beq j j' then some () else none
 | .pim ks j, .pim cs j' => if Nat.beq j j' then decKs ks cs else none
 | _, _ => none
def decPFs : (fs : List PF) → List C → Option (PFsT fs)
 | [], [] => some ()
 | f :: r, c :: cs => match decPF f c, decPFs r cs with
  | some x, some d => some (x, d)
  | _, _ => none
 | _, _ => none
def mayNil (n s j : Nat) (refs : List (Nat × Nat)) : Bool := Nat.blt s n && refs.all fun r => !(Nat.beq r.1 s && Nat.beq r.2 j)
def decC (n s j : Nat) (refs : List (Nat × Nat)) : (p : PC) → C → Option p.T
 | .dead, _ => some ()
 | .nil, .nil => some ()
 | .dat k, .dat k' x => castK k' x k
 | .dat k, .nil => if mayNil n s j refs then match k with
   | .list _ => some []
   | _ => none
  else none
 | .own deep k, .own rv sv d k' l => if Nat.beq rv 0 && Nat.beq sv 0 && (deep == d) then castL k' l k else none
 | .own deep k, .nil => if mayNil n s j refs then some [] else none
 | .ref s0 j0 p lo hi k, .ref s1 j1 rv sv p' lo' hi' k' => if Nat.beq s0 s1 && Nat.beq j0 j1 && Nat.beq rv 0 && Nat.beq sv 0 && decide (k = k') then
   match decPath p p', decOpt lo lo', decOpt hi hi' with
   | some a, some b, some c => some (a, b, c)
   | _, _, _ => none
  else none
 | .bptr s0 j0, .bptr s1 bv j1 => if Nat.beq s0 s1 && Nat.beq bv 0 && Nat.beq j0 j1 then some () else none
 | .aptr s0 j0 p c k, .aptr s1 j1 rv sv p' i c' k' => if Nat.beq s0 s1 && Nat.beq j0 j1 && Nat.beq rv 0 && Nat.beq sv 0 && Nat.beq c c' && decide (k = k') then
   match decPath p p' with
   | some a => some (a, i)
   | none => none
  else none
 | .pim ks j0, .pim cs j1 => if Nat.beq j0 j1 then decKs ks cs else none
 | .fn f caps, .fn f' cs => if Nat.beq f f' then decPFs caps cs else none
 | _, _ => none
def decCs (n s : Nat) (refs : List (Nat × Nat)) : (j : Nat) → (ps : List PC) → List C → Option (CsT ps)
 | _, [], [] => some ()
 | j, [p], [c] => decC n s j refs p c
 | j, p :: q :: r, c :: cs => match decC n s j refs p c, decCs n s refs (j + 1) (q :: r) cs with
  | some x, some d => some (x, d)
  | _, _ => none
 | _, _, _ => none
inductive PSh where
 | one | agg | box
def PSh.sh : PSh → Sh
 | .one => .one
 | .agg => .agg
 | .box => .box 0
def PSh.fits : PSh → Sh → Bool
 | .one, .one => true
 | .agg, .agg => true
 | .box, .box bv => Nat.beq bv 0
 | _, _ => false
structure SP where
 s : Nat
 sh : PSh
 cs : List PC
@[reducible] def EsT : List SP → Type
 | [] => Unit
 | [p] => CsT p.cs
 | p :: q :: r => CsT p.cs × EsT (q :: r)
def PC.refAt : PC → List (Nat × Nat)
 | .ref s j _ _ _ _ => [(s, j)]
 | .aptr s j _ _ _ => [(s, j)]
 | _ => []
def spRefs (ps : List SP) : List (Nat × Nat) := ps.flatMap fun p => p.cs.flatMap PC.refAt
def encS (p : SP) (d : CsT p.cs) : Slot := { sh := p.sh.sh, cs := encCs p.cs d, cnt := 1 }
def decS (n s : Nat) (refs : List (Nat × Nat)) (p : SP) (x : Slot) : Option (CsT p.cs) :=
 if p.sh.fits x.sh && Nat.beq x.cnt 1 then decCs n s refs 0 p.cs x.cs else none
def encE (i : Nat) : (m : Nat) → (ps : List SP) → EsT ps → Env
 | 0, _, _ => []
 | m + 1, [], _ => dd :: encE (i + 1) m [] ()
 | m + 1, [p], d => match Nat.beq p.s i with
  | true => encS p d :: encE (i + 1) m [] ()
  | false => dd :: encE (i + 1) m [p] d
 | m + 1, p :: q :: r, d => match Nat.beq p.s i with
  | true => encS p d.1 :: encE (i + 1) m (q :: r) d.2
  | false => dd :: encE (i + 1) m (p :: q :: r) d
def decE (n : Nat) (refs : List (Nat × Nat)) (i : Nat) : Env → (ps : List SP) → Option (EsT ps)
 | _, [] => some ()
 | [], _ :: _ => none
 | x :: e, [p] => match Nat.beq p.s i with
  | true => decS n i refs p x
  | false => decE n refs (i + 1) e [p]
 | x :: e, p :: q :: r => match Nat.beq p.s i with
  | true => match decS n i refs p x, decE n refs (i + 1) e (q :: r) with
   | some a, some b => some (a, b)
   | _, _ => none
  | false => decE n refs (i + 1) e (p :: q :: r)
theorem decPath_ok : ∀ {p : List Nat} {q : Path} {d : PathT p}, decPath p q = some d → encPath p d = q
 | [], [], d, _ => rfl
 | [], _ :: _, d, h => by simp [decPath] at h
 | _ :: _, [], d, h => by simp [decPath] at h
 | c :: r, (i, c') :: q, d, h => by
  simp only [decPath] at h
  split at h
  ·rename_i d' hc hd
   simp only [Option.some.injEq] at h
   subst h
   have := Nat.eq_of_beq_eq_true hc
   subst this
   simp [encPath, decPath_ok hd]
  ·simp at h
theorem decOpt_ok {b : Bool} {o : Option Nat} {d : OptT b} (h : decOpt b o = some d) : encOpt b d = o := by
 cases b <;> cases o <;> simp [decOpt] at h
 ·rfl
 ·subst h; rfl
theorem castK_ok {k k' : K} {x : k.T} {y : k'.T} (h : castK k x k' = some y) : (C.dat k' y) = C.dat k x := by
 unfold castK at h
 split at h
 ·rename_i hk
  subst hk
  simp only [Option.some.injEq] at h
  rw [h]
 ·simp at h
theorem castL_ok' {k k' : K} {x : List k.T} {y : List k'.T} (h : castL k x k' = some y) (d : Bool) : (C.own 0 0 d k' y) = C.own 0 0 d k x := by
 unfold castL at h
 split at h
 ·rename_i hk
  subst hk
  simp only [Option.some.injEq] at h
  rw [h]
 ·simp at h
theorem decKs_ok : ∀ {ks : List K} {cs : List C} {d : KsT ks}, decKs ks cs = some d → encKs ks d = cs
 | [], [], d, _ => rfl
 | [], _ :: _, d, h => by simp [decKs] at h
 | k :: r, [], d, h => by simp [decKs] at h
 | k :: r, c :: cs, d, h => by
  cases c with
  | dat k' x =>
   simp only [decKs] at h
   split at h
   ·rename_i x' d' h1 h2
    simp only [Option.some.injEq] at h
    subst h
    simp only [encKs, castK_ok h1, decKs_ok h2]
   ·simp at h
  | _ => simp [decKs] at h
theorem decPFs_ok : ∀ {fs : List PF} {cs : List C} {d : PFsT fs}, decPFs fs cs = some d → encPFs fs d = cs ∧ (C.fn 0 cs).base = true
 | [], [], d, _ => ⟨rfl, rfl⟩
 | [], _ :: _, d, h => by simp [decPFs] at h
 | f :: r, [], d, h => by simp [decPFs] at h
 | f :: r, c :: cs, d, h => by
  simp only [decPFs] at h
  split at h
  ·rename_i x d' h1 h2
   simp only [Option.some.injEq] at h
   subst h
   obtain ⟨g1, g2⟩ := decPFs_ok h2
   simp only [C.base] at g2
   have key : encPF f x = c ∧ (C.fn 0 [c]).base = true := by
    cases f with
    | dead => cases c <;> simp [decPF] at h1; exact ⟨rfl, rfl⟩
    | bptr s j =>
     cases c with
     | bptr s' bv j' =>
      simp only [decPF] at h1
      split at h1
      ·rename_i hq
       simp only [Bool.and_eq_true] at hq
       obtain ⟨⟨q1, q2⟩, q3⟩ := hq
       have q1 := Nat.eq_of_beq_eq_true q1
       have q2 := Nat.eq_of_beq_eq_true q2
       have q3 := Nat.eq_of_beq_eq_true q3
       subst q1 q2 q3
       exact ⟨rfl, rfl⟩
      ·simp at h1
     | _ => simp [decPF] at h1
    | pim ks j =>
     cases c with
     | pim cs' j' =>
      simp only [decPF] at h1
      split at h1
      ·rename_i q1
       have q1 := Nat.eq_of_beq_eq_true q1
       subst q1
       exact ⟨by simp only [encPF, decKs_ok h1], rfl⟩
      ·simp at h1
     | _ => simp [decPF] at h1
   simp only [encPFs, key.1, g1, true_and]
   have k2 := key.2
   simp only [C.base, List.all_cons, List.all_nil, Bool.and_true, Bool.and_eq_true] at k2 ⊢
   exact ⟨k2, g2⟩
  ·simp at h
theorem mayNil_ok {n s j : Nat} {refs : List (Nat × Nat)} (h : mayNil n s j refs = true) : s < n ∧ (s, j) ∉ refs := by
 simp only [mayNil, Bool.and_eq_true, List.all_eq_true] at h
 refine ⟨Nat.le_of_ble_eq_true h.1, fun hm => ?_⟩
 have := h.2 _ hm
 simp at this
theorem decC_ok {n s j : Nat} {refs : List (Nat × Nat)} {p : PC} {c : C} {d : p.T} (h : decC n s j refs p c = some d) :
  (encC p d = c ∧ c.base = true) ∨ encC p d = .dead ∨ ((s < n ∧ c = .nil ∧ ∃ d' k, encC p d = .own 0 0 d' k [] ∨ encC p d = .dat (.list k) []) ∧ (s, j) ∉ refs) := by
 cases p with
 | dead => exact .inr (.inl rfl)
 | nil => cases c <;> simp [decC] at h; exact .inl ⟨rfl, rfl⟩
 | dat k =>
  cases c with
  | dat k' x =>
   left
   simp only [decC] at h
   exact ⟨castK_ok h, rfl⟩
  | nil =>
   right; right
   simp only [decC] at h
   split at h
   ·rename_i hm
    cases k with
    | list k' =>
     simp only [Option.some.injEq] at h
     subst h
     exact ⟨⟨(mayNil_ok hm).1, rfl, true, k', .inr rfl⟩, (mayNil_ok hm).2⟩
    | _ => simp at h
   ·simp at h
  | _ => simp [decC] at h
 | own deep k =>
  cases c with
  | own rv sv d' k' l =>
   left
   simp only [decC] at h
   split at h
   ·rename_i hq
    simp only [Bool.and_eq_true, beq_iff_eq] at hq
    obtain ⟨⟨q1, q2⟩, q3⟩ := hq
    have q1 := Nat.eq_of_beq_eq_true q1
    have q2 := Nat.eq_of_beq_eq_true q2
    subst q1 q2 q3
    exact ⟨castL_ok' h deep, rfl⟩
   ·simp at h
  | nil =>
   right; right
   simp only [decC] at h
   split at h
   ·rename_i hm
    simp only [Option.some.injEq] at h
    subst h
    exact ⟨⟨(mayNil_ok hm).1, rfl, deep, k, .inl rfl⟩, (mayNil_ok hm).2⟩
   ·simp at h
  | _ => simp [decC] at h
 | ref s0 j0 pp lo hi k =>
  left
  cases c with
  | ref s1 j1 rv sv p' lo' hi' k' =>
   simp only [decC] at h
   split at h
   ·rename_i hq
    simp only [Bool.and_eq_true, decide_eq_true_eq] at hq
    obtain ⟨⟨⟨⟨q1, q2⟩, q3⟩, q4⟩, q5⟩ := hq
    have q1 := Nat.eq_of_beq_eq_true q1
    have q2 := Nat.eq_of_beq_eq_true q2
    have q3 := Nat.eq_of_beq_eq_true q3
    have q4 := Nat.eq_of_beq_eq_true q4
    subst q1 q2 q3 q4 q5
    split at h
    ·rename_i a b c' h1 h2 h3
     simp only [Option.some.injEq] at h
     subst h
     exact ⟨by simp only [encC, decPath_ok h1, decOpt_ok h2, decOpt_ok h3], rfl⟩
    ·simp at h
   ·simp at h
  | _ => simp [decC] at h
 | bptr s0 j0 =>
  left
  cases c with
  | bptr s1 bv j1 =>
   simp only [decC] at h
   split at h
   ·rename_i hq
    simp only [Bool.and_eq_true] at hq
    obtain ⟨⟨q1, q2⟩, q3⟩ := hq
    have q1 := Nat.eq_of_beq_eq_true q1
    have q2 := Nat.eq_of_beq_eq_true q2
    have q3 := Nat.eq_of_beq_eq_true q3
    subst q1 q2 q3
    exact ⟨rfl, rfl⟩
   ·simp at h
  | _ => simp [decC] at h
 | aptr s0 j0 pp c0 k =>
  left
  cases c with
  | aptr s1 j1 rv sv p' i c' k' =>
   simp only [decC] at h
   split at h
   ·rename_i hq
    simp only [Bool.and_eq_true, decide_eq_true_eq] at hq
    obtain ⟨⟨⟨⟨⟨q1, q2⟩, q3⟩, q4⟩, q5⟩, q6⟩ := hq
    have q1 := Nat.eq_of_beq_eq_true q1
    have q2 := Nat.eq_of_beq_eq_true q2
    have q3 := Nat.eq_of_beq_eq_true q3
    have q4 := Nat.eq_of_beq_eq_true q4
    have q5 := Nat.eq_of_beq_eq_true q5
    subst q1 q2 q3 q4 q5 q6
    split at h
    ·rename_i a h1
     simp only [Option.some.injEq] at h
     subst h
     exact ⟨by simp only [encC, decPath_ok h1], rfl⟩
    ·simp at h
   ·simp at h
  | _ => simp [decC] at h
 | pim ks j0 =>
  left
  cases c with
  | pim cs j1 =>
   simp only [decC] at h
   split at h
   ·rename_i q1
    have q1 := Nat.eq_of_beq_eq_true q1
    subst q1
    exact ⟨by simp only [encC, decKs_ok h], rfl⟩
   ·simp at h
  | _ => simp [decC] at h
 | fn f caps =>
  left
  cases c with
  | fn f' cs =>
   simp only [decC] at h
   split at h
   ·rename_i q1
    have q1 := Nat.eq_of_beq_eq_true q1
    subst q1
    obtain ⟨g1, g2⟩ := decPFs_ok h
    exact ⟨by simp only [encC, g1], g2⟩
   ·simp at h
  | _ => simp [decC] at h
theorem encC_refAt {p : PC} {d : p.T} : (encC p d).refAt = p.refAt := by cases p <;> rfl
theorem encCs_refAt : ∀ {ps : List PC} {d : CsT ps} {j : Nat} {c : C}, (encCs ps d)[j]? = some c → ∀ q ∈ c.refAt, q ∈ ps.flatMap PC.refAt
 | [], _, j, c, h => by simp [encCs] at h
 | [p], d, j, c, h => by
  cases j with
  | succ j => simp [encCs] at h
  | zero =>
   simp only [encCs, List.getElem?_cons_zero, Option.some.injEq] at h
   subst h
   intro q hq
   rw [encC_refAt] at hq
   simp [hq]
 | p :: q :: r, d, 0, c, h => by
  simp only [encCs, List.getElem?_cons_zero, Option.some.injEq] at h
  subst h
  intro q hq
  rw [encC_refAt] at hq
  simp [hq]
 | p :: q :: r, d, j + 1, c, h => by
  intro q' hq
  have := encCs_refAt (ps := q :: r) (by simpa [encCs] using h) q' hq
  rw [List.flatMap_cons, List.mem_append]
  exact .inr this
theorem decCs_ok {n s : Nat} {refs : List (Nat × Nat)} : ∀ {ps : List PC} {j : Nat} {cs : List C} {d : CsT ps}, decCs n s refs j ps cs = some d → (encCs ps d).length = cs.length ∧
  ∀ (i : Nat) c c', cs[i]? = some c → (encCs ps d)[i]? = some c' → (c' = c ∧ c.base = true) ∨ c' = .dead ∨ ((s < n ∧ c = .nil ∧ ∃ d' k, c' = .own 0 0 d' k [] ∨ c' = .dat (.list k) []) ∧ (s, j + i) ∉ refs)
 | [], j, [], d, _ => ⟨rfl, fun i c c' h => by simp at h⟩
 | [], j, _ :: _, d, h => by simp [decCs] at h
 | [p], j, [], d, h => by simp [decCs] at h
 | [p], j, [c], d, h => by
  simp only [decCs] at h
  refine ⟨rfl, fun i c0 c1 hc hc' => ?_⟩
  cases i with
  | zero =>
   simp only [List.getElem?_cons_zero, Option.some.injEq, encCs] at hc hc'
   subst hc hc'
   exact decC_ok h
  | succ i => simp at hc
 | [p], j, _ :: _ :: _, d, h => by simp [decCs] at h
 | p :: q :: r, j, [], d, h => by simp [decCs] at h
 | p :: q :: r, j, c :: cs, d, h => by
  simp only [decCs] at h
  split at h
  ·rename_i x d' h1 h2
   simp only [Option.some.injEq] at h
   subst h
   obtain ⟨g1, g2⟩ := decCs_ok h2
   refine ⟨by simp [encCs, g1], fun i c0 c1 hc hc' => ?_⟩
   cases i with
   | zero =>
    simp only [List.getElem?_cons_zero, Option.some.injEq, encCs] at hc hc'
    subst hc hc'
    exact decC_ok h1
   | succ i =>
    have := g2 i c0 c1 (by simpa using hc) (by simpa [encCs] using hc')
    rw [show j + 1 + i = j + (i + 1) by omega] at this
    exact this
  ·simp at h
theorem encE_length : ∀ {m i : Nat} {ps : List SP} {d : EsT ps}, (encE i m ps d).length = m
 | 0, i, ps, d => by simp [encE]
 | m + 1, i, [], d => by simp [encE, encE_length]
 | m + 1, i, [p], d => by
  simp only [encE]
  split <;> simp [encE_length]
 | m + 1, i, p :: q :: r, d => by
  simp only [encE]
  split <;> simp [encE_length]
theorem encE_nil : ∀ (m i t : Nat), t < m → Env.get (encE i m [] ()) t = dd := by
 intro m
 induction m with
 | zero => intro i t h; omega
 | succ m ih =>
  intro i t h
  cases t with
  | zero => simp [encE, Env.get]
  | succ t =>
   have := ih (i + 1) t (by omega)
   simpa [encE, Env.get] using this
theorem decE_ok {n : Nat} {refs : List (Nat × Nat)} : ∀ {e : Env} {i : Nat} {ps : List SP} {d : EsT ps}, decE n refs i e ps = some d → ∀ t, t < e.length →
  (Env.get (encE i e.length ps d) t = dd ∨ ∃ p ∈ ps, ∃ dp, Env.get (encE i e.length ps d) t = encS p dp ∧ decS n (i + t) refs p (e.get t) = some dp)
 | e, i, [], d, h, t, ht => .inl (encE_nil _ _ _ ht)
 | [], i, p :: r, d, h, t, ht => by simp [decE] at h
 | x :: e, i, [p], d, h, t, ht => by
  simp only [decE] at h
  split at h
  ·rename_i hi
   simp only [List.length_cons, encE, hi]
   cases t with
   | zero =>
    right
    refine ⟨p, by simp, d, by simp [Env.get], ?_⟩
    simpa [Env.get] using h
   | succ t =>
    left
    have := encE_nil e.length (i + 1) t (by simpa using ht)
    simpa [Env.get] using this
  ·rename_i hi
   simp only [List.length_cons, encE, hi]
   cases t with
   | zero => left; simp [Env.get]
   | succ t =>
    have := decE_ok h t (by simpa using ht)
    rcases this with q | ⟨p', hp', dp, q1, q2⟩
    ·left; simpa [Env.get] using q
    ·right
     refine ⟨p', hp', dp, by simpa [Env.get] using q1, ?_⟩
     rw [show i + (t + 1) = i + 1 + t by omega]
     simpa [Env.get] using q2
 | x :: e, i, p :: q :: r, d, h, t, ht => by
  simp only [decE] at h
  split at h
  ·rename_i hi
   split at h
   ·rename_i a b h1 h2
    simp only [Option.some.injEq] at h
    subst h
    simp only [List.length_cons, encE, hi]
    cases t with
    | zero =>
     right
     refine ⟨p, by simp, a, by simp [Env.get], ?_⟩
     simpa [Env.get] using h1
    | succ t =>
     have := decE_ok h2 t (by simpa using ht)
     rcases this with q' | ⟨p', hp', dp, q1, q2⟩
     ·left; simpa [Env.get] using q'
     ·right
      refine ⟨p', by simp only [List.mem_cons] at hp' ⊢; exact .inr hp', dp, by simpa [Env.get] using q1, ?_⟩
      rw [show i + (t + 1) = i + 1 + t by omega]
      simpa [Env.get] using q2
   ·simp at h
  ·rename_i hi
   simp only [List.length_cons, encE, hi]
   cases t with
   | zero => left; simp [Env.get]
   | succ t =>
    have := decE_ok h t (by simpa using ht)
    rcases this with q' | ⟨p', hp', dp, q1, q2⟩
    ·left; simpa [Env.get] using q'
    ·right
     refine ⟨p', hp', dp, by simpa [Env.get] using q1, ?_⟩
     rw [show i + (t + 1) = i + 1 + t by omega]
     simpa [Env.get] using q2
theorem PSh.fits_ok {p : PSh} {s : Sh} (h : p.fits s = true) : p.sh = s := by
 cases p <;> cases s <;> simp_all [PSh.fits, PSh.sh]
theorem dec_gen {n : Nat} {e : Env} {ps : List SP} {d : EsT ps} (h : decE n (spRefs ps) 0 e ps = some d) : Gen n e (encE 0 e.length ps d) := by
 have hok := decE_ok h
 refine ⟨encE_length, fun s hs => ?_, fun s j c hc t i ht rv sv dp k l hown => ?_⟩
 ·rcases hok s hs with q | ⟨p, hp, dp, q1, q2⟩
  ·exact .inl q
  ·right; left
   rw [q1]
   simp only [decS] at q2
   split at q2
   ·rename_i hq
    simp only [Bool.and_eq_true] at hq
    obtain ⟨g1, g2⟩ := decCs_ok q2
    refine ⟨(PSh.fits_ok hq.1), rfl, fun bv hb => ?_, g1, fun j c c' hc hc' => ?_⟩
    ·simp only [encS] at hb
     cases hp' : p.sh <;> rw [hp'] at hb <;> simp [PSh.sh] at hb
     exact hb.symm
    ·rcases g2 j c c' hc hc' with r | r | r
     ·exact .inl r
     ·exact .inr (.inl r)
     ·have := r.1
      rw [Nat.zero_add] at this
      exact .inr (.inr this)
   ·simp at q2
 ·have hs : s < e.length := by
   rcases Nat.lt_or_ge s e.length with q | q
   ·exact q
   ·rw [get_out (by rw [encE_length]; omega)] at hc; simp at hc
  have htl : t < e.length := by
   rcases Nat.lt_or_ge t e.length with q | q
   ·exact q
   ·rw [get_out (by rw [encE_length]; omega)] at hown; simp at hown
  have hrefs : (t, i) ∈ spRefs ps := by
   rcases hok s hs with q | ⟨p, hp, dp', q1, q2⟩
   ·rw [q] at hc; simp [dd] at hc
   ·rw [q1] at hc
    simp only [spRefs, List.mem_flatMap]
    exact ⟨p, hp, by simpa [List.mem_flatMap] using encCs_refAt hc (t, i) ht⟩
  rcases hok t htl with q | ⟨p, hp, dp', q1, q2⟩
  ·rw [q] at hown; simp [dd] at hown
  ·rw [q1] at hown
   simp only [decS] at q2
   split at q2
   ·obtain ⟨g1, g2⟩ := decCs_ok q2
    have h1 := some_of_getD hown (by simp)
    have hil : i < (e.get t).cs.length := by rw [← g1]; exact (List.getElem?_eq_some_iff.1 h1).1
    obtain ⟨c0, hc0⟩ : ∃ c0, (e.get t).cs[i]? = some c0 := ⟨_, List.getElem?_eq_getElem hil⟩
    rcases g2 i c0 _ hc0 h1 with r | r | r
    ·rw [getD_some hc0]; exact r.1.symm
    ·cases r
    ·exfalso
     have := r.2
     rw [Nat.zero_add, Nat.zero_add] at this
     exact this hrefs
   ·simp at q2
structure EP where
 len : Nat
 ps : List SP
@[reducible] def EP.T (P : EP) : Type := EsT P.ps
def EP.enc (P : EP) (d : P.T) : Env := encE 0 P.len P.ps d
def frozenAt (s : Nat) : Nat → List PC → List (Nat × Nat)
 | _, [] => []
 | j, .own false _ :: r => (s, j) :: frozenAt s (j + 1) r
 | j, _ :: r => frozenAt s (j + 1) r
def frozenOf : List SP → List (Nat × Nat)
 | [] => []
 | p :: r => frozenAt p.s 0 p.cs ++ frozenOf r
def freezeAt (e : Env) : List (Nat × Nat) → Env
 | [] => e
 | (s, j) :: r => match (e.get s).cs.getD j .dead with
  | .own rv sv true k l => freezeAt (e.set s { e.get s with cs := (e.get s).cs.set j (.own rv sv false k l) }) r
  | _ => freezeAt e r
theorem freezeAt_ok {n : Nat} {tm : Array Value} {w : World} (m : Nat) : ∀ {ps : List (Nat × Nat)} {e : Env} {G : Gh}, Inv n e tm w G → e.length ≤ m →
  (freezeAt e ps).length = e.length ∧ ∃ G', Inv n (freezeAt e ps) tm w G' ∧ Held n m w w G G'
 | [], e, G, h, _ => ⟨rfl, G, h, Held.refl⟩
 | (s, j) :: r, e, G, h, hm => by
  simp only [freezeAt]
  split
  ·rename_i rv sv k l hc
   obtain ⟨G1, h1, x, _⟩ := h.freeze (some_of_getD hc (by simp))
   obtain ⟨g1, G2, g2, g3⟩ := freezeAt_ok m (ps := r) h1 (by simpa using hm)
   have hh : Held n m w w G G1 := ⟨(x.held h).still, (x.held h).vs, fun b t q1 q2 q3 => (x.held h).out b t q1 (by omega) q3⟩
   exact ⟨by simpa using g1, G2, g2, hh.trans g3⟩
  ·exact freezeAt_ok m h hm
def datAt (s : Nat) : Nat → List PC → List (Nat × Nat)
 | _, [] => []
 | j, .dat (.list _) :: r => (s, j) :: datAt s (j + 1) r
 | j, _ :: r => datAt s (j + 1) r
def datOf : List SP → List (Nat × Nat)
 | [] => []
 | p :: r => datAt p.s 0 p.cs ++ datOf r
def giveAt (e : Env) : List (Nat × Nat) → Env
 | [] => e
 | (s, j) :: r => match (e.get s).cs.getD j .dead with
  | .own _ _ _ k l => giveAt (e.set s { e.get s with cs := (e.get s).cs.set j (.dat (.list k) l) }) r
  | _ => giveAt e r
theorem giveAt_ok {n : Nat} {tm : Array Value} {w : World} (m : Nat) : ∀ {ps : List (Nat × Nat)} {e : Env} {G : Gh}, Inv n e tm w G → e.length ≤ m →
  (giveAt e ps).length = e.length ∧ ∃ G', Inv n (giveAt e ps) tm w G' ∧ Held n m w w G G'
 | [], e, G, h, _ => ⟨rfl, G, h, Held.refl⟩
 | (s, j) :: r, e, G, h, hm => by
  simp only [giveAt]
  split
  ·rename_i hc
   obtain ⟨G1, h1, x⟩ := h.giveCell (some_of_getD hc (by simp))
   obtain ⟨g1, G2, g2, g3⟩ := giveAt_ok m (ps := r) h1 (by simpa using hm)
   have hh : Held n m w w G G1 := ⟨(x.held h).still, (x.held h).vs, fun b t q1 q2 q3 => (x.held h).out b t q1 (by omega) q3⟩
   exact ⟨by simpa using g1, G2, g2, hh.trans g3⟩
  ·exact giveAt_ok m h hm
def EP.dec (n : Nat) (P : EP) (e : Env) : Option P.T :=
 if Nat.beq e.length P.len then decE n (spRefs P.ps) 0 (giveAt (freezeAt (norm (P.ps.map (·.s)) e) (frozenOf P.ps)) (datOf P.ps)) P.ps else none
theorem EP.dec_ok {n : Nat} {P : EP} {e : Env} {d : P.T} (h : P.dec n e = some d) {tm : Array Value} {w : World} {G : Gh} (hi : Inv n e tm w G) (m : Nat) (hm : e.length ≤ m) :
  (P.enc d).length = e.length ∧ ∃ G', Inv n (P.enc d) tm w G' ∧ Held n m w w G G' := by
 simp only [EP.dec] at h
 split at h
 ·rename_i hl
  have hl := Nat.eq_of_beq_eq_true hl
  obtain ⟨g1, G1, g2, g3⟩ := freezeAt_ok m (ps := frozenOf P.ps) (norm_inv (P.ps.map (·.s)) hi) (by rw [norm_length]; exact hm)
  obtain ⟨k1, G1', k2, k3⟩ := giveAt_ok m (ps := datOf P.ps) g2 (by rw [g1, norm_length]; exact hm)
  have hg := dec_gen h
  rw [k1, g1, norm_length, hl] at hg
  refine ⟨by simp [EP.enc, encE_length, hl], ?_⟩
  obtain ⟨G2, g4, g5⟩ := gen_inv k2 hg m
  exact ⟨G2, g4, (g3.trans k3).trans g5⟩
 ·simp at h
end Go.Mach
namespace Go.Mach
set_option linter.unusedVariables false
set_option linter.unusedSimpArgs false
def chk {R : Type} (b : Bool) (k : Option R) : Option R := cond b k none
@[reducible] def AsT : List (PSh × List PC) → Type
 | [] => Unit
 | [p] => CsT p.2
 | p :: q :: r => CsT p.2 × AsT (q :: r)
def encA : (ps : List (PSh × List PC)) → AsT ps → List Val
 | [], _ => []
 | [p], d => [(p.1.sh, encCs p.2 d)]
 | p :: q :: r, d => (p.1.sh, encCs p.2 d.1) :: encA (q :: r) d.2
def decA (n : Nat) (md : List Bool) : (i : Nat) → (ps : List (PSh × List PC)) → List Val → Option (AsT ps)
 | _, [], [] => some ()
 | i, [p], [v] => match p.1.fits v.1, decCs (if md.getD i false then 0 else n) i [] 0 p.2 v.2 with
  | true, some a => some a
  | _, _ => none
 | i, p :: q :: r, v :: vs => match p.1.fits v.1, decCs (if md.getD i false then 0 else n) i [] 0 p.2 v.2, decA n md (i + 1) (q :: r) vs with
  | true, some a, some b => some (a, b)
  | _, _, _ => none
 | _, _, _ => none
inductive RV where
 | tmp (t : Nat)
 | cell (t : Nat) (agg : Bool) (n : Nat)
structure FEnt where
 n : Nat
 results : List RV
 md : List Bool
 args : List (PSh × List PC)
 out : EP
 T : AsT args → Option out.T
def startE (n : Nat) (md : List Bool) (args : List Val) : Env :=
 (inSlots n md 0 args).1 ++ List.replicate (n - args.length) (default : Slot) ++ (inSlots n md 0 args).2
def resVals (n : Nat) (get : Nat → Slot) : List RV → Option (List Val)
 | [] => some []
 | .tmp t :: r => match Nat.blt t n, opd get (.tmp t), resVals n get r with
  | true, some v, some vs => some (v :: vs)
  | _, _, _ => none
 | .cell t g m :: r => match Nat.blt t n, opd get (.tmp t), resVals n get r with
  | true, some (.one, [c]), some vs => match loadC get m c with
   | some cs => some (((match g with | true => .agg | false => .one), cs) :: vs)
   | none => none
  | _, _, _ => none
def oneOk (v : Val) : Bool := match v.1 with
 | .one => Nat.beq v.2.length 1
 | .agg => true
 | _ => false
def tupSh (vs : List Val) : Option Sh := match vs with
 | [v] => if oneOk v then some v.1 else none
 | vs => if vs.all oneOk then some (.tup (vs.map fun v => match v.1 with | .one => none | _ => some v.2.length)) else none
def resC (get : Nat → Slot) : C → Option C
 | .dat k x => some (.dat k x)
 | .nil => some .nil
 | .own rv sv d k l => some (.own rv sv d k l)
 | .fn f [] => some (.fn f [])
 | .ref s j rv sv (q :: p) lo hi k => (content get s j rv sv (q :: p) k).map fun x => .dat (.list k) (cut lo hi x.2)
 | _ => none
def resCs (get : Nat → Slot) : List C → Option (List C)
 | [] => some []
 | c :: r => match resC get c, resCs get r with
  | some c, some r => some (c :: r)
  | _, _ => none
def deepAt : List C → List (Nat × Nat)
 | [] => []
 | .ref s j _ _ (_ :: _) _ _ _ :: r => (s, j) :: deepAt r
 | _ :: r => deepAt r
def outsOf (n : Nat) (get : Nat → Slot) (md : List Bool) : Nat → List Val → Option (List (List C))
 | _, [] => some []
 | i, (sh, _) :: r => match outsOf n get md (i + 1) r with
  | none => none
  | some os =>
   if md.getD i false then
    match sh with
    | .box _ => match (get (n + 2 * i + 1)).sh with
     | .box _ => (ownBox (get (n + 2 * i + 1)).cs).map (· :: os)
     | _ => none
    | _ => some ((get (n + 2 * i)).cs.map (fun | .own 0 _ d k l => .own 0 0 d k l | .dat k x => .dat k x | _ => .dead) :: os)
   else some ([] :: os)
def retBox (n : Nat) (results : List RV) (md : List Bool) (e : Env) : Option (Nat × List C) := match results with
 | [.tmp t] => match Nat.blt t n, md, opd e.get (.tmp t) with
  | true, [], some (.one, [.bptr s bv j]) => match (e.get s).sh with
   | .box bv' => match Nat.beq bv bv', Nat.beq j 0 with
    | true, true => (resCs (fun _ => {}) (e.get s).cs).map fun cs => (s, cs)
    | _, _ => none
   | _ => none
  | _, _, _ => none
 | _ => none
def retOf (n : Nat) (results : List RV) (md : List Bool) (args : List Val) (e : Env) : Option (Val × List (List C)) :=
 match retBox n results md e with
 | some (_, cs) => (outsOf n e.get md 0 args).map fun os => ((.box 0, cs), os)
 | none =>
 match resVals n e.get results with
 | none => none
 | some vs => match tupSh vs, resCs (Tr.take [] { get := e.get } (vs.flatMap (·.2))).1.at (Tr.take [] { get := e.get } (vs.flatMap (·.2))).2,
   outsOf n (freezeAt (Env.puts e (Tr.take [] { get := e.get } (vs.flatMap (·.2))).1.ws) (deepAt (Tr.take [] { get := e.get } (vs.flatMap (·.2))).2)).get md 0 args with
  | some sh, some cs, some os => some ((sh, cs), os)
  | _, _, _ => none
def semD {R : Type} (f : Nat) (md : List Bool) (vals : List Val) (K : Val × List (List C) → Option R) : List (Nat × FEnt) → Option R
 | [] => none
 | (g, t) :: r => match Nat.beq g f, t.md == md, decA t.n t.md 0 t.args vals with
  | true, true, some d => (t.T d).bind fun b => (retOf t.n t.results t.md (encA t.args d) (t.out.enc b)).bind K
  | _, _, _ => semD f md vals K r
theorem semD_eq {R : Type} (f : Nat) (md : List Bool) (vals : List Val) (K : Val × List (List C) → Option R) : ∀ l : List (Nat × FEnt), semD f md vals K l = (semD f md vals some l).bind K
 | [] => rfl
 | (g, t) :: r => by
  simp only [semD]
  split
  ·rw [Option.bind_assoc]
   congr 1
   funext b
   rw [Option.bind_assoc]
   rfl
  ·exact semD_eq f md vals K r
abbrev Book := List (Nat × FEnt)
def Book.md (b : Book) (f : Nat) : List Bool := match b with
 | [] => []
 | (g, t) :: r => match Nat.beq g f with
  | true => t.md
  | false => Book.md r f
def Book.sem (b : Book) (f : Nat) (vals : List Val) : Option (Val × List (List C)) := semD f (b.md f) vals some b
section D
variable {R : Type}
def natD (c : C) (K : Nat → Option R) : Option R := match c with
 | .dat (.int _) n => chk (decide (0 ≤ n)) (K n.toNat)
 | _ => none
theorem natD_eq (c : C) (K : Nat → Option R) : natD c K = (natOf c).bind K := by
 unfold natD natOf
 split
 ·rename_i n
  by_cases h : 0 ≤ n <;> simp [h, chk]
 ·rename_i h
  cases c with
  | dat k x =>
   cases k with
   | int k => exact absurd rfl (h k x)
   | _ => rfl
  | _ => rfl
def binD (tk : Bool) (op : BinOp) (c d : C) (K : C → Option R) : Option R :=
 match c, d with
 | .dat (.int k) a, .dat (.int k') b => match op with
  | .quo => if k = k' then chk (!decide (b = 0)) (K (.dat (.int k) (k.wrap (a.tdiv b)))) else none
  | .rem => if k = k' then chk (!decide (b = 0)) (K (.dat (.int k) (a.tmod b))) else none
  | .shl => chk (!decide (b < 0)) (K (.dat (.int k) (k.wrap (a * 2 ^ (min b.toNat k.bits)))))
  | .shr => chk (!decide (b < 0)) (K (.dat (.int k) (a.fdiv (2 ^ (min b.toNat k.bits)))))
  | op => (bin tk op (.dat (.int k) a) (.dat (.int k') b)).bind K
 | .dat .str a, .dat .str b => match op with
  | .add => chk (decide (a.length + b.length ≤ strMost)) (K (.dat .str (a ++ b)))
  | op => (bin tk op (.dat .str a) (.dat .str b)).bind K
 | c, d => (bin tk op c d).bind K
theorem binD_eq (tk : Bool) (op : BinOp) (c d : C) (K : C → Option R) : binD tk op c d K = (bin tk op c d).bind K := by
 unfold binD
 split
 ·rename_i k a k' b
  split
  ·by_cases hk : k = k'
   ·by_cases h : b = 0 <;> simp [bin, binI, hk, h, chk]
   ·simp [bin, hk]
  ·by_cases hk : k = k'
   ·by_cases h : b = 0 <;> simp [bin, binI, hk, h, chk]
   ·simp [bin, hk]
  ·by_cases h : b < 0 <;> simp [bin, shiftI, h, chk]
  ·by_cases h : b < 0 <;> simp [bin, shiftI, h, chk]
  ·rfl
 ·rename_i a b
  split
  ·by_cases h : a.length + b.length ≤ strMost <;> simp [bin, binS, h, chk]
  ·rfl
 ·rfl
def loadD (get : Nat → Slot) (n : Nat) (a : C) (K : List C → Option R) : Option R := match a with
 | .aptr s j rv sv p i c k =>
  match (get s).cs.getD j .dead with
  | .own rv' sv' deep k0 l0 =>
   if rv = rv' ∧ (p = [] ∨ (svOk p sv sv' = true ∧ deep = true)) ∧ c + n ≤ k.size then
    match castL (getP k0 l0 p).1 (getP k0 l0 p).2 k with
    | some l => chk (decide (i < l.length)) (K (readLeaves k (l.getD i k.dflt) s j rv' sv' p i deep c n))
    | none => none
   else none
  | _ => none
 | a => (loadC get n a).bind K
theorem loadD_eq (get : Nat → Slot) (n : Nat) (a : C) (K : List C → Option R) : loadD get n a K = (loadC get n a).bind K := by
 unfold loadD
 split
 ·rename_i s j rv sv p i c k
  simp only [loadC]
  generalize (get s).cs.getD j .dead = z
  cases z with
  | own rv' sv' deep k0 l0 =>
   simp only
   by_cases h : rv = rv' ∧ (p = [] ∨ (svOk p sv sv' = true ∧ deep = true)) ∧ c + n ≤ k.size
   ·rw [if_pos h, if_pos h]
    cases castL (getP k0 l0 p).1 (getP k0 l0 p).2 k with
    | none => rfl
    | some l => by_cases hi : i < l.length <;> simp [hi, chk]
   ·rw [if_neg h, if_neg h]; rfl
  | _ => rfl
 ·rfl
def storeD (x : Ctx) (t : Tr) (a : C) (cs : List C) (K : Tr → Option R) : Option R := match a with
 | .aptr s j rv sv p i c k =>
  match t.grabs k c cs with
  | none => none
  | some (t, gs, d) =>
   match (t.at s).cs.getD j .dead with
   | .own rv' sv' deep k0 l0 =>
    if rv = rv' ∧ (p = [] ∨ (svOk p sv sv' = true ∧ deep = true)) ∧ c + cs.length ≤ k.size then
     match castL (getP k0 l0 p).1 (getP k0 l0 p).2 k with
     | none => none
     | some l => chk (decide (i < l.length))
       (if hasList k c cs.length then K (t.put s { t.at s with cs := (t.at s).cs.set j (.own rv' (nextV p sv' (t.at s).cnt) (deep && d) k0 (modP (fun k' l' => (castL k (l.set i (setLeaves k (l.getD i k.dflt) c gs)) k').getD l') k0 l0 p)), cnt := nextV p sv' (t.at s).cnt + 1 })
       else K (t.put s { t.at s with cs := (t.at s).cs.set j (.own rv' sv' deep k0 (modP (fun k' l' => (castL k (l.set i (setLeaves k (l.getD i k.dflt) c gs)) k').getD l') k0 l0 p)) }))
    else none
   | _ => none
 | a => (storeC x t a cs).bind K
theorem storeD_eq (x : Ctx) (t : Tr) (a : C) (cs : List C) (K : Tr → Option R) : storeD x t a cs K = (storeC x t a cs).bind K := by
 unfold storeD
 split
 ·rename_i s j rv sv p i c k
  simp only [storeC]
  cases hg : t.grabs k c cs with
  | none => rfl
  | some r =>
   obtain ⟨t', gs, d⟩ := r
   simp only
   generalize hz : (t'.at s).cs.getD j .dead = z
   cases z with
   | own rv' sv' deep k0 l0 =>
    simp only
    by_cases h : rv = rv' ∧ (p = [] ∨ (svOk p sv sv' = true ∧ deep = true)) ∧ c + cs.length ≤ k.size
    ·rw [if_pos h, if_pos h]
     cases castL (getP k0 l0 p).1 (getP k0 l0 p).2 k with
     | none => rfl
     | some l =>
      by_cases hi : i < l.length
      ·simp only [hi, chk, decide_true, cond_true, if_true]
       split <;> rfl
      ·simp [hi, chk]
    ·rw [if_neg h, if_neg h]; rfl
   | _ => rfl
 ·rfl
def boundD (get : Nat → Slot) (o : Option Operand) (K : Option Nat → Option R) : Option R := match o with
 | none => K none
 | some z => match opd get z with
  | some (.one, [c]) => natD c fun n => K (some n)
  | _ => none
theorem boundD_eq (get : Nat → Slot) (o : Option Operand) (K : Option Nat → Option R) : boundD get o K = (boundOf get o).bind K := by
 unfold boundD boundOf
 cases o with
 | none => rfl
 | some z =>
  simp only
  generalize opd get z = v
  match v with
  | none => rfl
  | some (sh, cs) =>
   cases sh <;> try rfl
   match cs with
   | [] => rfl
   | [c] =>
    simp only
    rw [natD_eq]
    cases natOf c <;> rfl
   | _ :: _ :: _ => rfl
def sliceD (get : Nat → Slot) (c : C) (lo hi : Option Nat) (K : C → Option R) : Option R := match c with
 | .nil => chk (decide (lo.getD 0 = 0 ∧ hi.getD 0 = 0)) (K .nil)
 | .dat (.list k) l => chk (decide (lo.getD 0 ≤ hi.getD l.length ∧ hi.getD l.length ≤ l.length)) (K (.dat (.list k) (cut lo hi l)))
 | .dat .str l => chk (decide (lo.getD 0 ≤ hi.getD l.length ∧ hi.getD l.length ≤ l.length)) (K (.dat .str (cut lo hi l)))
 | .ref s j rv sv p a b k =>
  match lenC get (.ref s j rv sv p a b k) with
  | none => none
  | some n => chk (decide (lo.getD 0 ≤ hi.getD n ∧ hi.getD n ≤ n)) (K (.ref s j rv sv p (subOf a lo a) (subOf a hi b) k))
 | _ => none
theorem sliceD_eq (get : Nat → Slot) (c : C) (lo hi : Option Nat) (K : C → Option R) : sliceD get c lo hi K = (sliceC get c lo hi).bind K := by
 unfold sliceD
 split
 ·by_cases h : lo.getD 0 = 0 ∧ hi.getD 0 = 0 <;> simp [sliceC, h, chk]
 ·rename_i k l
  by_cases h : lo.getD 0 ≤ hi.getD l.length ∧ hi.getD l.length ≤ l.length <;> simp [sliceC, h, chk]
 ·rename_i l
  by_cases h : lo.getD 0 ≤ hi.getD l.length ∧ hi.getD l.length ≤ l.length <;> simp [sliceC, h, chk]
 ·rename_i s j rv sv p a b k
  simp only [sliceC]
  cases lenC get (.ref s j rv sv p a b k) with
  | none => rfl
  | some n => by_cases h : lo.getD 0 ≤ hi.getD n ∧ hi.getD n ≤ n <;> simp [h, chk]
 ·rename_i h1 h2 h3 h4
  cases c with
  | nil => exact absurd rfl h1
  | ref s j rv sv p a b k => exact absurd rfl (h4 s j rv sv p a b k)
  | dat k x =>
   cases k with
   | list k => exact absurd rfl (h2 k x)
   | str => exact absurd rfl (h3 x)
   | _ => rfl
  | _ => rfl
def indexD (ty : Nat → Ti) (get : Nat → Slot) (t : Nat) (c : C) (i : Nat) (K : C → Option R) : Option R :=
 match (ty t).d with
 | .slice et => match c with
  | .dat (.list k) l => if (ty et).size = k.size then chk (decide (i < l.length)) (K (.pim ((leaves k (l.getD i k.dflt)).map fun g => .dat g.1 g.2) 0)) else none
  | .ref s j rv sv p a b k => match lenC get (.ref s j rv sv p a b k) with
   | some n => if (ty et).size = k.size then chk (decide (i < n)) (K (.aptr s j rv sv p (offOf a i) 0 k)) else none
   | none => none
  | _ => none
 | .arr n e => match c with
  | .bptr s bv j => if (ty e).size ≠ 0 then chk (decide (i < n)) (K (.bptr s bv (j + i * (ty e).size))) else none
  | _ => none
 | _ => none
theorem indexD_eq (ty : Nat → Ti) (get : Nat → Slot) (t : Nat) (c : C) (i : Nat) (K : C → Option R) : indexD ty get t c i K = (indexC ty get t c i).bind K := by
 unfold indexD indexC
 generalize (ty t).d = z
 cases z with
 | slice et =>
  simp only
  cases c with
  | dat k l =>
   cases k with
   | list k =>
    simp only
    by_cases h1 : (ty et).size = k.size
    ·by_cases h2 : i < List.length l
     ·rw [if_pos h1, if_pos ⟨h2, h1⟩]; simp [chk, h2]
     ·rw [if_pos h1, if_neg (fun q => h2 q.1)]; simp [chk, h2]
    ·rw [if_neg h1, if_neg (fun q => h1 q.2)]; rfl
   | _ => rfl
  | ref s j rv sv p a b k =>
   simp only
   cases lenC get (.ref s j rv sv p a b k) with
   | none => rfl
   | some n =>
    simp only
    by_cases h1 : (ty et).size = k.size
    ·by_cases h2 : i < n
     ·rw [if_pos h1, if_pos ⟨h2, h1⟩]; simp [chk, h2]
     ·rw [if_pos h1, if_neg (fun q => h2 q.1)]; simp [chk, h2]
    ·rw [if_neg h1, if_neg (fun q => h1 q.2)]; rfl
  | _ => rfl
 | arr n e =>
  simp only
  cases c with
  | bptr s bv j =>
   simp only
   by_cases h1 : (ty e).size ≠ 0
   ·by_cases h2 : i < n
    ·rw [if_pos h1, if_pos ⟨h2, h1⟩]; simp [chk, h2]
    ·rw [if_pos h1, if_neg (fun q => h2 q.1)]; simp [chk, h2]
   ·rw [if_neg h1, if_neg (fun q => h1 q.2)]; rfl
  | _ => rfl
 | _ => rfl
def fits (n b : Nat) : Bool := decide (n ≤ rowMost ∧ (2 * n + 512) * b ≤ byteMost)
def appendD (ty : Nat → Ti) (vars : List Nat) (t : Tr) (st : Nat) (x y : C) (K : Tr × C → Option R) : Option R :=
 match (ty st).d with
 | .slice e => match (ty e).k with
  | none => none
  | some k =>
   match srcC vars t k y with
   | none => none
   | some (t, ys, d) =>
    match x with
    | .nil => if (ty e).zero.isSome = true ∧ (ty e).zeros.length = k.size then chk (fits ys.length (ty e).bytes) (K (t, .own 0 0 d k ys)) else none
    | .ref s j rv _ [] lo hi k' =>
     match (t.at s).cs.getD j .dead with
     | .own rv' _ deep k0 l0 =>
      if rv = rv' ∧ k' = k0 then
       match castL k0 (cut lo hi l0) k with
       | none => none
       | some l => if (ty e).zero.isSome = true ∧ (ty e).zeros.length = k.size then chk (fits (l.length + ys.length) (ty e).bytes) (K (t.put s ((t.at s).kill j), .own 0 0 (deep && d) k (l ++ ys))) else none
      else none
     | _ => none
    | .ref s j rv sv (q :: p) none none k' =>
     match (t.at s).cs.getD j .dead with
     | .own rv' sv' deep k0 l0 =>
      if rv = rv' ∧ k' = k ∧ svOk (q :: p) sv sv' = true ∧ deep = true ∧ k.flat = true then
       match castL (getP k0 l0 (q :: p)).1 (getP k0 l0 (q :: p)).2 k with
       | none => none
       | some l => if (ty e).zero.isSome = true ∧ (ty e).zeros.length = k.size then chk (fits (l.length + ys.length) (ty e).bytes) (K (t.put s { t.at s with cs := (t.at s).cs.set j (.own rv' sv' false k0 l0) }, .dat (.list k) (l ++ ys))) else none
      else none
     | _ => none
    | _ => none
 | _ => none
theorem appendD_eq (ty : Nat → Ti) (vars : List Nat) (t : Tr) (st : Nat) (x y : C) (K : Tr × C → Option R) : appendD ty vars t st x y K = (appendC ty vars t st x y).bind K := by
 unfold appendD appendC
 generalize (ty st).d = z
 cases z with
 | slice e =>
  simp only
  generalize (ty e).k = kk
  cases kk with
  | none => rfl
  | some k =>
   simp only
   generalize srcC vars t k y = r
   cases r with
   | none => rfl
   | some r =>
    obtain ⟨t', ys, d⟩ := r
    simp only
    cases x with
    | nil =>
     simp only
     by_cases h1 : (ty e).zero.isSome = true <;> by_cases h2 : (ty e).zeros.length = k.size <;> by_cases h3 : ys.length ≤ rowMost <;> by_cases h4 : (2 * ys.length + 512) * (ty e).bytes ≤ byteMost <;> simp [h1, h2, h3, h4, chk, fits]
    | ref s j rv sv p lo hi k' =>
     cases p with
     | cons q0 p0 =>
      cases lo with
      | some _ => rfl
      | none =>
       cases hi with
       | some _ => rfl
       | none =>
        simp only
        generalize (t'.at s).cs.getD j .dead = z
        cases z with
        | own rv' sv' deep k0 l0 =>
         simp only
         by_cases h : rv = rv' ∧ k' = k ∧ svOk (q0 :: p0) sv sv' = true ∧ deep = true ∧ k.flat = true
         ·rw [if_pos h, if_pos h]
          generalize castL (getP k0 l0 (q0 :: p0)).1 (getP k0 l0 (q0 :: p0)).2 k = ll
          cases ll with
          | none => rfl
          | some l =>
           simp only
           by_cases h1 : (ty e).zero.isSome = true <;> by_cases h2 : (ty e).zeros.length = k.size <;> by_cases h3 : l.length + ys.length ≤ rowMost <;> by_cases h4 : (2 * (l.length + ys.length) + 512) * (ty e).bytes ≤ byteMost <;> simp [h1, h2, h3, h4, chk, fits]
         ·rw [if_neg h, if_neg h]; rfl
        | _ => rfl
     | nil =>
      simp only
      generalize (t'.at s).cs.getD j .dead = z
      cases z with
      | own rv' sv' deep k0 l0 =>
       simp only
       by_cases h : rv = rv' ∧ k' = k0
       ·rw [if_pos h, if_pos h]
        generalize castL k0 (cut lo hi l0) k = ll
        cases ll with
        | none => rfl
        | some l =>
         simp only
         by_cases h1 : (ty e).zero.isSome = true <;> by_cases h2 : (ty e).zeros.length = k.size <;> by_cases h3 : l.length + ys.length ≤ rowMost <;> by_cases h4 : (2 * (l.length + ys.length) + 512) * (ty e).bytes ≤ byteMost <;> simp [h1, h2, h3, h4, chk, fits]
       ·rw [if_neg h, if_neg h]; rfl
      | _ => rfl
    | _ => rfl
 | _ => rfl
def pickV (b : Bool) (u v : Val) : Option Val := match u, v with
 | (.one, [.dat k x]), (.one, [.dat k' y]) => (castK k' y k).map fun y => (.one, [.dat k (cond b x y)])
 | _, _ => none
theorem pickV_ok {b : Bool} {u v r : Val} (h : pickV b u v = some r) : r = cond b u v := by
 unfold pickV at h
 split at h
 ·rename_i k x k' y
  cases hc : castK k' y k with
  | none => rw [hc] at h; simp at h
  | some z =>
   rw [hc] at h
   simp only [Option.map_some, Option.some.injEq] at h
   have := castK_ok hc
   subst h
   cases b
   ·simp only [cond_false]; rw [this]
   ·rfl
 ·simp at h
def callD (x : Ctx) (bk : Book) (t : Tr) (dst : Option Nat) (f : Nat) (args : List Val) (K : Tr → Option R) : Option R :=
 match send t (x.md f) [] 0 args with
 | none => none
 | some q =>
  if apartF (lendAt 0 q.lends) && oneSrc (lendAt 0 q.lends) && oddB x.n (lendAt 0 q.lends) && disjoint ((lendAt 0 q.lends).map (·.2.2.slot)) (readTargets (x.md f) [] 0 args) then
   semD f (x.md f) q.vals (fun r => match backAll r.2 t (lendAt 0 q.lends) with
    | none => none
    | some t => K ((if r.1.2.any C.aliases || r.2.any (·.any C.aliases) then t.give (readTargets (x.md f) [] 0 args) else t).lay dst r.1)) bk
  else none
structure Over (x : Ctx) (bk : Book) : Prop where
 sem : x.sem = bk.sem
 md : x.md = bk.md
theorem callD_eq {x : Ctx} {bk : Book} (hx : Over x bk) (t : Tr) (dst : Option Nat) (f : Nat) (args : List Val) (K : Tr → Option R) : callD x bk t dst f args K = (callC x t dst f args).bind K := by
 unfold callD callC
 cases hs : send t (x.md f) [] 0 args with
 | none => rfl
 | some q =>
  simp only
  split
  ·rw [semD_eq, hx.sem]
   simp only [Book.sem, hx.md]
   cases semD f (bk.md f) q.vals some bk with
   | none => rfl
   | some r =>
    obtain ⟨v, os⟩ := r
    simp only [Option.bind_some]
    split
    ·rename_i hb; simp only [hb]; rfl
    ·rename_i hb; simp only [hb]; rfl
  ·rfl
def actD (x : Ctx) (bk : Book) (get : Nat → Slot) (o : Oper) (K : Writes → Option R) : Option R :=
 match o.op with
 | .pick c a b => match opd get c, opd get a, opd get b with
  | some (.one, [.dat .bool t]), some u, some v => match pickV t u v with
   | some r => K (Tr.lay { get, d := o.dst } o.dst r).ws
   | none => cond t (K (Tr.lay { get, d := o.dst } o.dst u).ws) (K (Tr.lay { get, d := o.dst } o.dst v).ws)
  | _, _, _ => (act x get o).bind K
 | .binOp op ty a b _ => match opd get a, opd get b with
  | some (.one, [c]), some (.one, [d]) => binD (x.ty ty).isB op c d fun c => K (Tr.lay { get, d := o.dst } o.dst (.one, [c])).ws
  | _, _ => (act x get o).bind K
 | .load ty a => match opd get a with
  | some (.one, [c]) => if (x.ty ty).ok = true then loadD (chill x { get, d := o.dst } (x.ty ty).size c).at (x.ty ty).size c fun cs => K ((chill x { get, d := o.dst } (x.ty ty).size c).lay o.dst (partShape (x.ty ty), cs)).ws else none
  | _ => (act x get o).bind K
 | .store ty a b => match opd get a, opd get b with
  | some (.one, [c]), some v => if (x.ty ty).ok = true ∧ v.2.length = (x.ty ty).size ∧ whole get v = true then storeD x { get, d := o.dst } c v.2 fun t => K (t.lay o.dst (.dead, [])).ws else none
  | _, _ => (act x get o).bind K
 | .slice ty a lo hi none => match opd get a with
  | some (.one, [c]) => boundD get lo fun l => boundD get hi fun h => if slFits x.ty ty c = false then none else sliceD get c l h fun c => K (Tr.lay { get, d := o.dst } o.dst (.one, [c])).ws
  | _ => (act x get o).bind K
 | .indexAddr ty a b => match opd get a, opd get b with
  | some (.one, [c]), some (.one, [i]) => natD i fun i => indexD x.ty get ty c i fun c => K (Tr.lay { get, d := o.dst } o.dst (.one, [c])).ws
  | _, _ => (act x get o).bind K
 | .index ty a b => match opd get a, opd get b with
  | some (.one, [.dat .str s]), some (.one, [i]) => if (x.ty ty).isS = false then none else natD i fun i => chk (decide (i < s.length)) (K (Tr.lay { get, d := o.dst } o.dst (.one, [.dat (.int .u8) (((s.getD i 0).toNat : Nat) : Int)])).ws)
  | _, _ => (act x get o).bind K
 | .convert src dst a => match opd get a with
  | some (.one, [.dat .str s]) => if (x.ty src).ok = false then none else
   match (x.ty dst).isS, u8Row x.ty dst with
   | false, true => if (x.ty src).isS = true then chk (decide (s.length ≤ rowMost)) ((Tr.own { get, d := o.dst } o.dst (.one, [.own 0 0 true (.int .u8) (s.map fun b => ((b.toNat : Nat) : Int))])).bind K) else none
   | _, _ => (act x get o).bind K
  | _ => (act x get o).bind K
 | .makeSlice ty n m => match (x.ty ty).d, opd get n, opd get m with
  | .slice e, some (.one, [n]), some (.one, [m]) => match (x.ty e).k with
   | some k => if isZero k (x.ty e).zeros = true then natD n fun n => natD m fun m => chk (decide (n ≤ m ∧ m ≤ rowMost ∧ m * (x.ty e).bytes ≤ byteMost)) ((Tr.own { get, d := o.dst } o.dst (.one, [.own 0 0 true k (List.replicate n k.dflt)])).bind K) else none
   | none => none
  | _, _, _ => (act x get o).bind K
 | .call c0 => match c0.callee with
  | .builtin .append => match opds get c0.args.toList with
   | some [(.one, [a]), (.one, [b])] => if (c0.argTypes[0]?).isSome = false ∨ (c0.argTypes[1]?).isSome = false ∨ fitsTy (x.ty (c0.argTypes.getD 1 0)) b = false then none else
     appendD x.ty x.vars { get, d := o.dst } (c0.argTypes.getD 0 0) a b fun r => (r.1.own o.dst (.one, [r.2])).bind K
   | _ => (act x get o).bind K
  | .value f => match opd get f, opds get c0.args.toList with
   | some (.one, [.fn g caps]), some vs => callD x bk { get, d := o.dst } o.dst g (vs ++ caps.map fun c => (.one, [c])) fun t => K t.ws
   | _, _ => (act x get o).bind K
  | _ => (act x get o).bind K
 | _ => (act x get o).bind K
theorem actD_eq {x : Ctx} {bk : Book} (hx : Over x bk) (get : Nat → Slot) (o : Oper) (K : Writes → Option R) : actD x bk get o K = (act x get o).bind K := by
 unfold actD
 split
 ·rename_i c a b ho
  split
  ·rename_i t u v hc ha hb
   split
   ·rename_i r hr
    have := pickV_ok hr
    subst this
    cases t <;> simp [act, ho, hc, ha, hb]
   ·cases t <;> simp [act, ho, hc, ha, hb]
  ·rfl
 ·rename_i op ty a b yt ho
  split
  ·rename_i c d hc hd
   rw [binD_eq]
   simp only [act, ho, hc, hd]
   cases bin (x.ty ty).isB op c d <;> rfl
  ·rfl
 ·rename_i ty a ho
  split
  ·rename_i c hc
   rw [loadD_eq]
   simp only [act, ho, hc]
   by_cases hok : (x.ty ty).ok = true
   ·rw [if_pos hok, if_pos hok]
    cases loadC (chill x { get, d := o.dst } (x.ty ty).size c).at (x.ty ty).size c <;> rfl
   ·rw [if_neg hok, if_neg hok]; rfl
  ·rfl
 ·rename_i ty a b ho
  split
  ·rename_i c v hc hv
   rw [storeD_eq]
   simp only [act, ho, hc, hv]
   by_cases hok : (x.ty ty).ok = true ∧ v.2.length = (x.ty ty).size ∧ whole get v = true
   ·rw [if_pos hok, if_pos hok]
    cases storeC x { get, d := o.dst } c v.2 <;> rfl
   ·rw [if_neg hok, if_neg hok]; rfl
  ·rfl
 ·rename_i ty a lo hi ho
  split
  ·rename_i c hc
   rw [boundD_eq]
   simp only [act, ho, hc]
   cases boundOf get lo with
   | none => rfl
   | some l =>
    simp only [Option.bind_some]
    rw [boundD_eq]
    cases boundOf get hi with
    | none => rfl
    | some h =>
     simp only [Option.bind_some]
     rw [sliceD_eq]
     by_cases hf : slFits x.ty ty c = false
     ·rw [if_pos hf, if_pos hf]; rfl
     ·rw [if_neg hf, if_neg hf]
      cases sliceC get c l h <;> rfl
  ·rfl
 ·rename_i ty a b ho
  split
  ·rename_i c i hc hi
   rw [natD_eq]
   simp only [act, ho, hc, hi]
   cases natOf i with
   | none => rfl
   | some m =>
    simp only [Option.bind_some]
    rw [indexD_eq]
    cases indexC x.ty get ty c m <;> rfl
  ·rfl
 ·rename_i ty a b ho
  split
  ·rename_i s i hs hi
   rw [natD_eq]
   simp only [act, ho, hs, hi]
   by_cases hf : (x.ty ty).isS = false
   ·rw [if_pos hf, if_pos hf]; rfl
   ·rw [if_neg hf, if_neg hf]
    cases natOf i with
    | none => rfl
    | some m =>
     simp only [Option.bind_some]
     by_cases hm : m < s.length <;> simp [hm, chk]
  ·rfl
 ·rename_i src dst a ho
  split
  ·rename_i s hs
   split
   ·rename_i hok; simp [act, ho, hs, hok]
   ·rename_i hok
    split
    ·rename_i h1 h2
     simp only [act, ho, hs, hok, h1, h2]
     by_cases g1 : (x.ty src).isS = true <;> by_cases g2 : s.length ≤ rowMost <;> cases hk : intTi (x.ty dst) <;> simp [g1, g2, chk]
    ·rfl
  ·rfl
 ·rename_i ty n m ho
  split
  ·rename_i e c1 c2 hd hn hm
   simp only [act, ho, hd, hn, hm]
   cases hk : (x.ty e).k with
   | none => rfl
   | some k =>
    simp only
    rw [natD_eq]
    cases natOf c1 with
    | none => simp
    | some n =>
     simp only [Option.bind_some]
     rw [natD_eq]
     cases natOf c2 with
     | none => simp
     | some m =>
      simp only [Option.bind_some]
      by_cases h1 : isZero k (x.ty e).zeros = true <;> by_cases h2 : n ≤ m <;> by_cases h3 : m ≤ rowMost <;> by_cases h4 : m * (x.ty e).bytes ≤ byteMost <;> simp [h1, h2, h3, h4, chk]
  ·rfl
 ·rename_i c0 ho
  split
  ·rename_i hcb
   split
   ·rename_i a b hvs
    simp only [act, ho, hcb, hvs]
    by_cases hf : (c0.argTypes[0]?).isSome = false ∨ (c0.argTypes[1]?).isSome = false ∨ fitsTy (x.ty (c0.argTypes.getD 1 0)) b = false
    ·rw [if_pos hf, if_pos hf]; rfl
    ·rw [if_neg hf, if_neg hf, appendD_eq]
     cases appendC x.ty x.vars { get, d := o.dst } (c0.argTypes.getD 0 0) a b <;> rfl
   ·rfl
  ·rename_i f hcf
   split
   ·rename_i g caps vs hf hvs
    rw [callD_eq hx]
    simp only [act, ho, hcf, hf, hvs]
    cases callC x { get, d := o.dst } o.dst g (vs ++ caps.map fun c => (.one, [c])) <;> rfl
   ·rfl
  ·rfl
 ·rfl
end D
end Go.Mach
namespace Go.Mach
set_option linter.unusedVariables false
set_option linter.unusedSimpArgs false
section R
variable {R : Type}
def known (e : Env) (s : Nat) (b : Bool) : Env := e.set s { sh := .one, cs := [.dat .bool b], cnt := (e.get s).cnt }
theorem set_get (e : Env) (s : Nat) (x : Slot) (h : e.get s = x) : e.set s x = e := by
 apply List.ext_getElem?
 intro i
 rw [List.getElem?_set]
 by_cases g : s = i
 ·subst g
  by_cases hl : s < e.length
  ·rw [if_pos rfl, if_pos hl]
   simp only [Env.get, List.getD_eq_getElem?_getD, List.getElem?_eq_getElem hl, Option.getD_some] at h
   rw [List.getElem?_eq_getElem hl, h]
  ·rw [if_pos rfl, if_neg hl, List.getElem?_eq_none (by omega)]
 ·rw [if_neg g]
theorem known_eq {e : Env} {s : Nat} {b : Bool} (h1 : (e.get s).sh = .one) (h2 : (e.get s).cs = [.dat .bool b]) : known e s b = e := by
 refine set_get e s _ ?_
 cases hx : e.get s with
 | mk sh cs cnt =>
  rw [hx] at h1 h2
  simp only at h1 h2
  rw [h1, h2]
def doneD (x : Ctx) (bk : Book) (ops : Array Oper) (e : Env) (o : Oper) (K : Env → Step → Option R) : Option R :=
 actD x bk (fun s => if (looks e o).contains s then e.get s else {}) o fun ws => K e { ws, reads := guardSlots ops o ++ readsOf x e o, soft := softOf x e o, idx := idxOf e o }
def skipD (ops : Array Oper) (e : Env) (o : Oper) (K : Env → Step → Option R) : Option R :=
 K e { ws := skipWs e o, reads := guardSlots ops o ++ o.dst.toList }
def stepD (x : Ctx) (bk : Book) (ops : Array Oper) (e : Env) (o : Oper) (K : Env → Step → Option R) : Option R :=
 match (opSlots o).all (· < x.n) && (guardSlots ops o).all (· < x.n) with
 | false => none
 | true => match guardOf ops o with
  | none => doneD x bk ops e o K
  | some (s, want) => match (e.get s).sh, (e.get s).cs with
   | .one, [.dat .bool b] => match want with
    | true => cond b (doneD x bk ops (known e s true) o K) (skipD ops (known e s false) o K)
    | false => cond b (skipD ops (known e s true) o K) (doneD x bk ops (known e s false) o K)
   | .tup [], _ => skipD ops e o K
   | _, _ => none
theorem stepD_eq {x : Ctx} {bk : Book} (hx : Over x bk) (ops : Array Oper) (e : Env) (o : Oper) (K : Env → Step → Option R) : stepD x bk ops e o K = (stepA x ops e o).bind (K e) := by
 unfold stepD stepA
 generalize hb : ((opSlots o).all (· < x.n) && (guardSlots ops o).all (· < x.n)) = b
 cases b with
 | false => rfl
 | true =>
  simp only [Bool.not_true, Bool.false_eq_true, if_false]
  cases hg : guardOf ops o with
  | none =>
   simp only [wanted, doneD]
   rw [actD_eq hx]
   cases act x (fun s => if (looks e o).contains s = true then e.get s else {}) o <;> rfl
  | some p =>
   obtain ⟨s, want⟩ := p
   simp only [wanted]
   cases hsh : (e.get s).sh with
   | one =>
    cases hcs : (e.get s).cs with
    | nil => rfl
    | cons c r =>
     cases r with
     | cons c2 r =>
      cases c with
      | dat k b => cases k <;> rfl
      | _ => rfl
     | nil =>
      cases c with
      | dat k b =>
       cases k with
       | bool =>
        cases b <;> cases want <;> simp only [cond_true, cond_false, known_eq hsh hcs, doneD, skipD] <;> first
         | rfl
         | (rw [actD_eq hx]; cases act x (fun s => if (looks e o).contains s = true then e.get s else {}) o <;> rfl)
       | _ => rfl
      | _ => rfl
   | tup ps => cases ps <;> rfl
   | _ => rfl
def runAD (x : Ctx) (bk : Book) (ops : Array Oper) : List Nat → Env → (Env → Trace → Option R) → Option R
 | [], e, K => K e []
 | i :: r, e, K => match ops[i]? with
  | none => none
  | some o => stepD x bk ops e o fun e s => runAD x bk ops r (e.puts s.ws) fun e' tr => K e' (entry i e s :: tr)
theorem runAD_eq {x : Ctx} {bk : Book} (hx : Over x bk) (ops : Array Oper) : ∀ (l : List Nat) (e : Env) (K : Env → Trace → Option R), runAD x bk ops l e K = (runA x ops e l).bind fun r => K r.1 r.2
 | [], e, K => rfl
 | i :: r, e, K => by
  simp only [runAD, runA]
  cases ops[i]? with
  | none => rfl
  | some o =>
   simp only
   rw [stepD_eq hx]
   cases stepA x ops e o with
   | none => rfl
   | some s =>
    simp only [Option.bind_some]
    rw [runAD_eq hx ops r]
    cases runA x ops (e.puts s.ws) r <;> rfl
def regionD (x : Ctx) (bk : Book) (ops : Array Oper) (draw : Bool) (e : Env) (K : Env → Option R) : Option R :=
 runAD x bk ops (List.range ops.size) e fun e tr => match !draw || (edgesBack 0 ops.toList && ordered (befs [] ops.toList) tr) with
  | true => K e
  | false => none
theorem regionD_eq {x : Ctx} {bk : Book} (hx : Over x bk) (ops : Array Oper) (draw : Bool) (e : Env) (K : Env → Option R) : regionD x bk ops draw e K = (region x ops draw e).bind K := by
 unfold regionD region
 rw [runAD_eq hx]
 cases runA x ops e (List.range ops.size) with
 | none => rfl
 | some r =>
  obtain ⟨e', tr⟩ := r
  simp only [Option.bind_some]
  cases h : (!draw || (edgesBack 0 ops.toList && ordered (befs [] ops.toList) tr)) <;> simp
end R
def frzCells (s : Nat) : Nat → List C → List (Nat × Nat)
 | _, [] => []
 | j, .own _ _ true k _ :: r => match k.flat with
  | true => frzCells s (j + 1) r
  | false => (s, j) :: frzCells s (j + 1) r
 | j, _ :: r => frzCells s (j + 1) r
def laidCells (s : Nat) : Nat → List C → List (Nat × Nat)
 | _, [] => []
 | j, .own _ _ true k _ :: r => match Nat.ble 2 k.slices with
  | false => laidCells s (j + 1) r
  | true => (s, j) :: laidCells s (j + 1) r
 | j, _ :: r => laidCells s (j + 1) r
def preR (ops : List Oper) (e : Env) : Env :=
 freezeAt e (((fzSlots ops).flatMap fun s => frzCells s 0 (e.get s).cs) ++ (ldSlots ops).flatMap fun s => laidCells s 0 (e.get s).cs)
@[reducible] def OutT : List (Ex × EP) → Type
 | [] => Empty
 | [p] => p.2.T
 | p :: q :: r => p.2.T ⊕ OutT (q :: r)
structure NEnt where
 P : EP
 outs : List (Ex × EP)
 T : P.T → Option (OutT outs)
abbrev Tab := List (Nat × NEnt)
def Tab.at (l : Tab) (pos : Nat) : Option NEnt := match l with
 | [] => none
 | (q, t) :: r => match Nat.beq q pos with
  | true => some t
  | false => Tab.at r pos
def outK {R : Type} : (l : List (Ex × EP)) → OutT l → (Ex → Env → Option R) → Option R
 | [], _, _ => none
 | [p], d, K => K p.1 (p.2.enc d)
 | p :: q :: r, b, K => Sum.elim (fun d => K p.1 (p.2.enc d)) (fun b => outK (q :: r) b K) b
def decOut (n : Nat) : (l : List (Ex × EP)) → Ex → Env → Option (OutT l)
 | [], _, _ => none
 | [p], ex, e => if p.1 = ex then p.2.dec n e else none
 | p :: q :: r, ex, e => match (if p.1 = ex then p.2.dec n e else none) with
  | some d => some (.inl d)
  | none => (decOut n (q :: r) ex e).map .inr
def iter {α β : Type} (S : α → Option (α ⊕ β)) : Nat → α → Option β
 | 0, _ => none
 | n + 1, d => match S d with
  | none => none
  | some (.inl d) => iter S n d
  | some (.inr b) => some b
section C
variable {R : Type}
def entD (n : Nat) (t : NEnt) (e : Env) (K : Ex → Env → Option R) : Option R := match t.P.dec n e with
 | some d => (t.T d).bind fun b => outK t.outs b K
 | none => none
def runD (x : Ctx) (bk : Book) (tb : Tab) : (pos : Nat) → Code → Env → (Ex → Env → Option R) → Option R
 | pos, .skip, e, K => K .normal e
 | pos, .region _ ops d, e, K => regionD x bk ops d (preR ops.toList e) fun e => K .normal e
 | pos, .seq a b, e, K => runD x bk tb (2 * pos) a e fun ex e => match ex with
  | .normal => match tb.at (2 * pos + 1) with
   | some t => entD x.n t e K
   | none => runD x bk tb (2 * pos + 1) b e K
  | ex => K ex e
 | pos, .cond c a b, e, K => match (opdUses c).all (· < x.n), opd e.get c with
  | true, some (.one, [.dat .bool t]) => cond t (runD x bk tb (2 * pos) a e K) (runD x bk tb (2 * pos + 1) b e K)
  | _, _ => none
 | pos, .block id a, e, K => runD x bk tb (2 * pos) a e fun ex e => match ex with
  | .exit i => match Nat.beq i id with
   | true => K .normal e
   | false => K (.exit i) e
  | ex => K ex e
 | pos, .loop a, e, K => match tb.at pos with
  | some t => entD x.n t e K
  | none => none
 | pos, .exit id, e, K => K (.exit id) e
 | pos, .ret, e, K => K .ret e
 | _, _, _, _ => none
end C
def childC (b : Nat) : Code → Code
 | .seq x y => match b with
  | 0 => x
  | _ => y
 | .cond _ x y => match b with
  | 0 => x
  | _ => y
 | .block _ x => x
 | .loop x => x
 | c => c
def subF (root : Code) : Nat → Nat → Code
 | 0, _ => root
 | f + 1, n => match Nat.ble n 1 with
  | true => root
  | false => childC (n % 2) (subF root f (n / 2))
def sub (root : Code) (n : Nat) : Code := subF root n n
theorem subF_enough (root : Code) : ∀ (f n : Nat), n ≤ f → ∀ g, n ≤ g → subF root f n = subF root g n
 | 0, n, h, g, hg => by
  obtain rfl : n = 0 := by omega
  cases g <;> simp [subF]
 | f + 1, n, h, g, hg => by
  cases g with
  | zero =>
   obtain rfl : n = 0 := by omega
   simp [subF]
  | succ g =>
   simp only [subF]
   cases hb : Nat.ble n 1 with
   | true => rfl
   | false =>
    have : ¬ n ≤ 1 := fun q => by rw [Nat.ble_eq_true_of_le q] at hb; cases hb
    simp only
    rw [subF_enough root f (n / 2) (by omega) g (by omega)]
theorem sub_child (root : Code) {pos : Nat} (h : 1 ≤ pos) (b : Nat) (hb : b < 2) : sub root (2 * pos + b) = childC b (sub root pos) := by
 unfold sub
 obtain ⟨m, hm⟩ : ∃ m, 2 * pos + b = m + 1 := ⟨2 * pos + b - 1, by omega⟩
 rw [hm]
 simp only [subF]
 have hn : Nat.ble (m + 1) 1 = false := by
  cases hq : Nat.ble (m + 1) 1 with
  | false => rfl
  | true => have := Nat.le_of_ble_eq_true hq; omega
 rw [hn]
 simp only
 rw [show (m + 1) % 2 = b by omega, show (m + 1) / 2 = pos by omega, subF_enough root m pos (by omega) pos (Nat.le_refl _)]
def NodeOk (x : Ctx) (bk : Book) (tb : Tab) (root : Code) (pos : Nat) (t : NEnt) : Prop :=
 (∃ a, sub root pos = .loop a ∧ ∃ S : t.P.T → Option (t.P.T ⊕ OutT t.outs), t.T = (fun d => iter S bigN d) ∧
  ∀ d, runD x bk tb (2 * pos) a (t.P.enc d) (fun ex e => match ex with
   | .normal => (t.P.dec x.n e).map .inl
   | ex => (decOut x.n t.outs ex e).map .inr) = S d) ∨
 (∀ d, runD x bk tb pos (sub root pos) (t.P.enc d) (fun ex e => decOut x.n t.outs ex e) = t.T d) ∧ ∀ a, sub root pos ≠ .loop a
def Nodes (x : Ctx) (bk : Book) (tb : Tab) (root : Code) : Tab → Prop
 | [] => True
 | (pos, t) :: r => NodeOk x bk tb root pos t ∧ Nodes x bk tb root r
theorem Nodes.at {x : Ctx} {bk : Book} {tb : Tab} {root : Code} : ∀ {l : Tab}, Nodes x bk tb root l → ∀ {pos : Nat} {t : NEnt}, l.at pos = some t → NodeOk x bk tb root pos t
 | [], _, pos, t, h => by simp [Tab.at] at h
 | (q, s) :: r, hn, pos, t, h => by
  simp only [Tab.at] at h
  split at h
  ·rename_i hq
   have := Nat.eq_of_beq_eq_true hq
   subst this
   simp only [Option.some.injEq] at h
   subst h
   exact hn.1
  ·exact Nodes.at hn.2 h
def Ex.exit' : Ex → Exit
 | .normal => .normal
 | .exit id => .exit id
 | .ret => .ret
theorem decOut_ok {n : Nat} : ∀ {l : List (Ex × EP)} {ex : Ex} {e : Env} {b : OutT l}, decOut n l ex e = some b → ∀ {tm : Array Value} {w : World} {G : Gh}, Inv n e tm w G → ∀ m, e.length ≤ m →
  ∃ e', e'.length = e.length ∧ (∀ (R : Type) (K : Ex → Env → Option R), outK l b K = K ex e') ∧ ∃ G', Inv n e' tm w G' ∧ Held n m w w G G'
 | [], ex, e, b, h, tm, w, G, hi, m, hm => by simp [decOut] at h
 | [p], ex, e, b, h, tm, w, G, hi, m, hm => by
  simp only [decOut] at h
  split at h
  ·rename_i hp
   obtain ⟨h1, h2⟩ := EP.dec_ok h hi m hm
   exact ⟨_, h1, fun R K => by simp only [outK, hp], h2⟩
  ·simp at h
 | p :: q :: r, ex, e, b, h, tm, w, G, hi, m, hm => by
  simp only [decOut] at h
  split at h
  ·rename_i d hd
   split at hd
   ·rename_i hp
    simp only [Option.some.injEq] at h
    subst h
    obtain ⟨h1, h2⟩ := EP.dec_ok hd hi m hm
    exact ⟨_, h1, fun R K => by simp only [outK, hp, Sum.elim_inl], h2⟩
   ·simp at hd
  ·cases hr : decOut n (q :: r) ex e with
   | none => rw [hr] at h; simp at h
   | some b' =>
    rw [hr] at h
    simp only [Option.map_some, Option.some.injEq] at h
    subst h
    obtain ⟨e', h1, h2, h3⟩ := decOut_ok hr hi m hm
    exact ⟨e', h1, fun R K => by simp only [outK, Sum.elim_inr]; exact h2 R K, h3⟩
theorem Post.weaken {n : Nat} {e1 e2 : Env} {a a1 : Act} {w w1 : World} {G G1 G2 : Gh} (h : Post n e1 a w G a1 w1 G1) (hl : e2.length = e1.length) (hi : Inv n e2 a1.tmps w1 G2) (hh : Held n e1.length w1 w1 G1 G2) : Post n e2 a w G a1 w1 G2 :=
 ⟨hi, by rw [hl]; exact h.held.trans hh, h.grows, h.defers, h.env⟩
section sound
variable {P : Program} [Tabs P] {x : Ctx} {bk : Book} {tb : Tab} {root : Code}
def Runs (P : Program) [Tabs P] (x : Ctx) (c : Code) {R : Type} (e : Env) (K : Ex → Env → Option R) (r : R) : Prop :=
 ∀ (a : Act) (w : World) (G : Gh), Inv x.n e a.tmps w G → Laid P w G → ∀ Q : Exit → Act → World → Prop,
  (∀ ex e' a' w' G', K ex e' = some r → e'.length = e.length → Post x.n e' a w G a' w' G' → Q ex.exit' a' w') → c.wp P Q a w
theorem ent_ok {c : Code} {pos : Nat} (hpos : 1 ≤ pos) (hsub : sub root pos = c) {t : NEnt} (hn : NodeOk x bk tb root pos t)
  (hbody : ∀ a, c = .loop a → ∀ (R : Type) (e : Env) (K : Ex → Env → Option R) (r : R), runD x bk tb (2 * pos) a e K = some r → Runs P x a e K r)
  (hself : (∀ a, c ≠ .loop a) → ∀ (R : Type) (e : Env) (K : Ex → Env → Option R) (r : R), runD x bk tb pos c e K = some r → Runs P x c e K r)
  {R : Type} {e : Env} {K : Ex → Env → Option R} {r : R} (h : entD x.n t e K = some r) : Runs P x c e K r := by
 intro a w G hi hlaid Q hq
 simp only [entD] at h
 split at h
 ·rename_i d hd
  cases hT : t.T d with
  | none => rw [hT] at h; simp at h
  | some b =>
   rw [hT] at h
   simp only [Option.bind_some] at h
   obtain ⟨l0, G0, hi0, hh0⟩ := EP.dec_ok hd hi e.length (Nat.le_refl _)
   have hp0 : Post x.n (t.P.enc d) a w G a w G0 := (Post.refl hi).weaken l0 hi0 hh0
   rcases hn with ⟨body, hb, S, hS, hrun⟩ | ⟨hrun, hnl⟩
   ·have hc : c = .loop body := by rw [← hsub, hb]
    subst hc
    refine wp_loop_rounds bigN ?_
    rw [hS] at hT
    have key : ∀ (k : Nat) (d : t.P.T) (a1 : Act) (w1 : World) (G1 : Gh), (t.P.enc d).length = e.length → Post x.n (t.P.enc d) a w G a1 w1 G1 → iter S k d = some b → Code.rounds P body Q k a1 w1 := by
     intro k
     induction k with
     | zero => intro d a1 w1 G1 _ _ hk; simp [iter] at hk
     | succ k ih =>
      intro d a1 w1 G1 hl hp hk
      simp only [iter] at hk
      cases hs : S d with
      | none => rw [hs] at hk; simp at hk
      | some s =>
       rw [hs] at hk
       rw [rounds_succ]
       refine hbody body rfl _ (t.P.enc d) _ s ((hrun d).trans hs) a1 w1 G1 hp.inv (hlaid.post hp) _ fun ex e' a2 w2 G2 hK hl2 hp2 => ?_
       have hp3 : Post x.n e' a w G a2 w2 G2 := hp.trans hp2 hl2.symm
       cases ex with
       | normal =>
        simp only at hK
        cases hd' : t.P.dec x.n e' with
        | none => rw [hd'] at hK; simp at hK
        | some d' =>
         rw [hd'] at hK
         simp only [Option.map_some, Option.some.injEq] at hK
         subst hK
         obtain ⟨l3, G3, hi3, hh3⟩ := EP.dec_ok hd' hp2.inv e'.length (Nat.le_refl _)
         exact ih d' a2 w2 G3 (by rw [l3, hl2, hl]) (hp3.weaken l3 hi3 hh3) hk
       | exit id =>
        simp only at hK
        cases hd' : decOut x.n t.outs (.exit id) e' with
        | none => rw [hd'] at hK; simp at hK
        | some b' =>
         rw [hd'] at hK
         simp only [Option.map_some, Option.some.injEq] at hK
         subst hK
         simp only [Option.some.injEq] at hk
         subst hk
         obtain ⟨e3, l3, hK3, G3, hi3, hh3⟩ := decOut_ok hd' hp2.inv e'.length (Nat.le_refl _)
         rw [hK3] at h
         exact hq (.exit id) e3 a2 w2 G3 h (by rw [l3, hl2, hl]) (hp3.weaken l3 hi3 hh3)
       | ret =>
        simp only at hK
        cases hd' : decOut x.n t.outs .ret e' with
        | none => rw [hd'] at hK; simp at hK
        | some b' =>
         rw [hd'] at hK
         simp only [Option.map_some, Option.some.injEq] at hK
         subst hK
         simp only [Option.some.injEq] at hk
         subst hk
         obtain ⟨e3, l3, hK3, G3, hi3, hh3⟩ := decOut_ok hd' hp2.inv e'.length (Nat.le_refl _)
         rw [hK3] at h
         exact hq .ret e3 a2 w2 G3 h (by rw [l3, hl2, hl]) (hp3.weaken l3 hi3 hh3)
    exact key bigN d a w G0 l0 hp0 hT
   ·rw [hsub] at hrun hnl
    refine hself hnl _ (t.P.enc d) _ b ((hrun d).trans hT) a w G0 hi0 (hlaid.post hp0) Q fun ex e' a' w' G' hK hl hp => ?_
    obtain ⟨e3, l3, hK3, G3, hi3, hh3⟩ := decOut_ok hK hp.inv e'.length (Nat.le_refl _)
    rw [hK3] at h
    exact hq ex e3 a' w' G3 h (by rw [l3, hl, l0]) ((hp0.trans hp hl.symm).weaken l3 hi3 hh3)
 ·simp at h
theorem runD_both (hx : CtxOk P x) (ho : Over x bk) (hlen : x.n ≤ 1000000) (hm : P.follows .mixedOrders = true) (hn : Nodes x bk tb root tb) :
  ∀ (c : Code) (pos : Nat), 1 ≤ pos → sub root pos = c → (∀ (R : Type) (e : Env) (K : Ex → Env → Option R) (r : R), runD x bk tb pos c e K = some r → Runs P x c e K r) ∧
   (∀ t, tb.at pos = some t → ∀ (R : Type) (e : Env) (K : Ex → Env → Option R) (r : R), entD x.n t e K = some r → Runs P x c e K r) := by
 intro c
 have both : ∀ (c : Code) (pos : Nat), 1 ≤ pos → sub root pos = c → (∀ a, c ≠ .loop a) → (∀ (R : Type) (e : Env) (K : Ex → Env → Option R) (r : R), runD x bk tb pos c e K = some r → Runs P x c e K r) →
   (∀ (R : Type) (e : Env) (K : Ex → Env → Option R) (r : R), runD x bk tb pos c e K = some r → Runs P x c e K r) ∧
   (∀ t, tb.at pos = some t → ∀ (R : Type) (e : Env) (K : Ex → Env → Option R) (r : R), entD x.n t e K = some r → Runs P x c e K r) :=
  fun c pos hpos hsub hnl hA => ⟨hA, fun t ht R e K r h => ent_ok (x := x) (bk := bk) (tb := tb) (root := root) hpos hsub (hn.at ht) (fun a ha => absurd ha (hnl a)) (fun _ => hA) h⟩
 induction c with
 | skip =>
  intro pos hpos hsub
  refine both _ pos hpos hsub (by simp) ?_
  intro R e K r h a w G hi hlaid Q hq
  simp only [runD] at h
  exact wp_skip (hq .normal e a w G h rfl (Post.refl hi))
 | region id ops d =>
  intro pos hpos hsub
  refine both _ pos hpos hsub (by simp) ?_
  intro R e K r h a w G hi hlaid Q hq
  simp only [runD] at h
  rw [regionD_eq ho] at h
  obtain ⟨pl, G1, hi1, hh1⟩ := freezeAt_ok e.length (ps := ((fzSlots ops.toList).flatMap fun s => frzCells s 0 (e.get s).cs) ++ (ldSlots ops.toList).flatMap fun s => laidCells s 0 (e.get s).cs) hi (Nat.le_refl _)
  have hlaid1 : Laid P w G1 := hlaid.still hh1.still
  change Inv x.n (preR ops.toList e) a.tmps w G1 at hi1
  change (preR ops.toList e).length = e.length at pl
  cases hr : region x ops d (preR ops.toList e) with
  | none => rw [hr] at h; simp at h
  | some e' =>
   rw [hr] at h
   have hl : e'.length = e.length := by
    simp only [region] at hr
    split at hr
    ·simp at hr
    ·rename_i hrun
     split at hr
     ·simp only [Option.some.injEq] at hr
      subst hr
      exact (runA_length hrun).trans pl
     ·simp at hr
   exact region_sound hx hlen hm hi1 hlaid1 hr Q fun a' w' G' hp => hq .normal e' a' w' G' h hl ⟨hp.inv, (show Held x.n e'.length w w G G1 by rw [hl]; exact hh1).trans hp.held, hp.grows, hp.defers, hp.env⟩
 | seq p q ihp ihq =>
  intro pos hpos hsub
  have h0 : sub root (2 * pos) = p := by have := sub_child root hpos 0 (by omega); rw [hsub] at this; exact this
  have h1 : sub root (2 * pos + 1) = q := by have := sub_child root hpos 1 (by omega); rw [hsub] at this; exact this
  refine both _ pos hpos hsub (by simp) ?_
  intro R e K r h a w G hi hlaid Q hq
  simp only [runD] at h
  refine wp_seq ((ihp (2 * pos) (by omega) h0).1 R e _ r h a w G hi hlaid _ fun ex e' a' w' G' hK hl hp => ?_)
  cases ex with
  | normal =>
   simp only at hK
   have hgo : Runs P x q e' K r := by
    cases ht : tb.at (2 * pos + 1) with
    | none =>
     rw [ht] at hK
     exact (ihq (2 * pos + 1) (by omega) h1).1 R e' K r hK
    | some t =>
     rw [ht] at hK
     exact (ihq (2 * pos + 1) (by omega) h1).2 t ht R e' K r hK
   exact hgo a' w' G' hp.inv (hlaid.post hp) Q fun ex' e'' a'' w'' G'' hK' hl' hp' => hq ex' e'' a'' w'' G'' hK' (hl'.trans hl) (hp.trans hp' hl'.symm)
  | exit id => exact hq (.exit id) e' a' w' G' hK hl hp
  | ret => exact hq .ret e' a' w' G' hK hl hp
 | cond c p q ihp ihq =>
  intro pos hpos hsub
  have h0 : sub root (2 * pos) = p := by have := sub_child root hpos 0 (by omega); rw [hsub] at this; exact this
  have h1 : sub root (2 * pos + 1) = q := by have := sub_child root hpos 1 (by omega); rw [hsub] at this; exact this
  refine both _ pos hpos hsub (by simp) ?_
  intro R e K r h a w G hi hlaid Q hq
  simp only [runD] at h
  split at h
  ·rename_i t hin hc
   have hval : ∃ vs Ls, ValOk e w G (.one, [.dat .bool t]) (a.eval c) vs Ls := by
    refine opd_ok hi (fun s => .inl rfl) (fun s hs => ?_) hc
    subst hs
    simpa [opdUses] using hin
   obtain ⟨vs, Ls, hv⟩ := hval
   have hb : a.eval c = .bool t := by
    have hl := hv.cells.len
    match vs, hl with
    | [u], _ =>
     have := dat_bool (hv.cells.cell 0 _ u rfl rfl)
     rw [hv.form, this]
     rfl
   cases t with
   | true => exact wp_cond_true hb ((ihp (2 * pos) (by omega) h0).1 R e K r (by simpa using h) a w G hi hlaid Q hq)
   | false => exact wp_cond_false hb ((ihq (2 * pos + 1) (by omega) h1).1 R e K r (by simpa using h) a w G hi hlaid Q hq)
  ·simp at h
 | block id p ihp =>
  intro pos hpos hsub
  have h0 : sub root (2 * pos) = p := by have := sub_child root hpos 0 (by omega); rw [hsub] at this; exact this
  refine both _ pos hpos hsub (by simp) ?_
  intro R e K r h a w G hi hlaid Q hq
  simp only [runD] at h
  refine wp_block ((ihp (2 * pos) (by omega) h0).1 R e _ r h a w G hi hlaid _ fun ex e' a' w' G' hK hl hp => ?_)
  cases ex with
  | normal => exact hq .normal e' a' w' G' hK hl hp
  | ret => exact hq .ret e' a' w' G' hK hl hp
  | exit i =>
   simp only at hK
   simp only [Ex.exit', Exit.inBlock]
   split at hK
   ·rename_i hb
    rw [if_pos (Nat.eq_of_beq_eq_true hb)]
    exact hq .normal e' a' w' G' hK hl hp
   ·rename_i hb
    rw [if_neg fun q => by subst q; simp at hb]
    exact hq (.exit i) e' a' w' G' hK hl hp
 | loop p ihp =>
  intro pos hpos hsub
  have h0 : sub root (2 * pos) = p := by have := sub_child root hpos 0 (by omega); rw [hsub] at this; exact this
  have hB : ∀ t, tb.at pos = some t → ∀ (R : Type) (e : Env) (K : Ex → Env → Option R) (r : R), entD x.n t e K = some r → Runs P x (.loop p) e K r := by
   intro t ht R e K r h
   refine ent_ok (x := x) (bk := bk) (tb := tb) (root := root) hpos hsub (hn.at ht) (fun a ha => ?_) (fun hnl => absurd rfl (hnl p)) h
   cases ha
   exact (ihp (2 * pos) (by omega) h0).1
  refine ⟨fun R e K r h => ?_, hB⟩
  simp only [runD] at h
  split at h
  ·rename_i t ht
   exact hB t ht R e K r h
  ·simp at h
 | exit id =>
  intro pos hpos hsub
  refine both _ pos hpos hsub (by simp) ?_
  intro R e K r h a w G hi hlaid Q hq
  simp only [runD] at h
  exact wp_exit (hq (.exit id) e a w G h rfl (Post.refl hi))
 | ret =>
  intro pos hpos hsub
  refine both _ pos hpos hsub (by simp) ?_
  intro R e K r h a w G hi hlaid Q hq
  simp only [runD] at h
  exact wp_ret (hq .ret e a w G h rfl (Post.refl hi))
 | _ =>
  intro pos hpos hsub
  refine both _ pos hpos hsub (by simp) ?_
  intro R e K r h
  simp [runD] at h
end sound
end Go.Mach
