/- The machine, part u: stores into elements, done. No condition: lemmas. -/
import Derived.Test.YtcdkpfcfcjnooaaMt
namespace Go.Mach
set_option linter.unusedVariables false
set_option linter.unusedSimpArgs false

/-- What lies at a path, and how it is put back: deep data, or a root. -/
theorem focus2 {w : World} (g : (k : K) → List k.T → List k.T) {d0 : Bool} (p : Path) (k : K) (l : List k.T) (L : LT) (v : Value) (h : RepL true w k.size (Rep d0 w k) l L v) (hp : PathOk k l p) (hpd : p = [] ∨ d0 = true) :
    ∃ v' rest, RepL true w (getP k l p).1.size (Rep d0 w (getP k l p).1) (getP k l p).2 (subL k L p) v' ∧
      (fp (.list k) L).Perm (fp (.list (getP k l p).1) (subL k L p) ++ rest) ∧
      ∀ w' M dd, Same w w' rest → RepL true w' (getP k l p).1.size (Rep dd w' (getP k l p).1) (g (getP k l p).1 (getP k l p).2) M v' →
        RepL true w' k.size (Rep dd w' k) (modP g k l p) (setSub k L M p) v ∧ (fp (.list k) (setSub k L M p)).Perm (fp (.list (getP k l p).1) M ++ rest) := by
  rcases hpd with rfl | rfl
  · exact ⟨v, [], by simpa [getP, subL] using h, by simp [getP, subL], fun w' M dd _ hM => ⟨by simpa [getP, modP, setSub] using hM, by simp [getP, setSub]⟩⟩
  · exact focus g p k l L v h hp

/-- One element's cells are written: the list with the element turned. -/
theorem repl_store {d0 d dd : Bool} {w : World} {k : K} {l : List k.T} {b off cap i c : Nat} {rows : List LT} {v : Value} (h : RepL true w k.size (Rep d0 w k) l (.node b off cap rows) v) (hi : i < l.length) {us : List Value} (hc : c + us.length ≤ k.size)
    {gs : List Sg} {Ms : List LT} {cur : Array Value} {ty : TypeId} {fr : Nat × Nat} (hg : w.heap[b]? = some (.cells cur ty fr))
    (hb : b ∉ rows.flatMap (fp k)) (hbl : b ∉ fpLeaves gs Ms) (hlv : LeavesAt d w k c gs Ms us) (h0 : dd = true → d0 = true) (hd : dd = true → d = true) {r : LT} (hr : rows[i]? = some r) :
    RepL true (w.setRow b (setFrom cur.toList (off + i * k.size + c) us).toArray) k.size (Rep dd (w.setRow b (setFrom cur.toList (off + i * k.size + c) us).toArray) k) (l.set i (setLeaves k (l.getD i k.dflt) c gs))
      (.node b off cap (rows.set i (setLeavesL k r c Ms))) v ∧ off + i * k.size + c + us.length ≤ cur.size ∧ (∀ q, off + i * k.size + c ≤ q → q < off + i * k.size + c + us.length → ¬ (fr.1 ≤ q ∧ q < fr.2)) := by
  have hw' : ∀ b', b' ≠ b → (w.setRow b (setFrom cur.toList (off + i * k.size + c) us).toArray).heap[b']? = w.heap[b']? := fun b' hb' => setRow_other w b b' _ hb'
  have hg' := setRow_heap w b cur (setFrom cur.toList (off + i * k.size + c) us).toArray ty fr hg
  rcases h with ⟨h, _⟩ | ⟨b', off', cap', rows', e1, e2, h3, h4, hn, h5, h6⟩
  · simp at h
  simp only [LT.node.injEq] at e1
  obtain ⟨rfl, rfl, rfl, rfl⟩ := e1
  obtain ⟨cc, tt, ff, q1, q2, q3⟩ := h5 rfl
  rw [hg] at q1
  simp only [Option.some.injEq, Obj.cells.injEq] at q1
  obtain ⟨rfl, rfl, rfl⟩ := q1
  have hmul : (i + 1) * k.size ≤ cap * k.size := Nat.mul_le_mul_right _ (by omega)
  rw [Nat.add_mul, Nat.one_mul] at hmul
  have hfit : off + i * k.size + c + us.length ≤ cur.size := by omega
  refine ⟨.inr ⟨b, off, cap, _, rfl, by rw [e2]; simp, by simpa using h3, by simpa using h4, by rw [hg']; simp, fun _ => ⟨_, _, _, hg', by simpa [setFrom_length] using q2, ?_⟩, fun j y r' hy hr' => ?_⟩, hfit, fun q g1 g2 => ?_⟩
  · simpa [setFrom_length] using q3
  · have hjl : j < l.length := by have := (List.getElem?_eq_some_iff.1 hy).1; simpa using this
    have hcell : ∀ q, (w.setRow b (setFrom cur.toList (off + i * k.size + c) us).toArray).cell? ⟨b, q, none⟩ = if off + i * k.size + c ≤ q ∧ q < off + i * k.size + c + us.length then us[q - (off + i * k.size + c)]? else w.cell? ⟨b, q, none⟩ := by
      intro q
      simp only [World.cell?, hg', hg, Option.isSome_none, Bool.false_eq_true, if_false, List.getElem?_toArray]
      rw [setFrom_get _ _ _ _ (by simpa using hfit)]
      simp
    by_cases e : i = j
    · subst e
      rw [List.getElem?_set_self (by omega)] at hy
      rw [List.getElem?_set_self (by omega)] at hr'
      simp only [Option.some.injEq] at hy hr'
      subst hy; subst hr'
      have hx : l[i]? = some (l.getD i k.dflt) := by simp [List.getElem?_eq_getElem hi]
      obtain ⟨vs, a1, a2⟩ := h6 i _ r hx hr
      have hrm : ∀ b' ∈ fp k r, b' ≠ b := by
        rintro b' hb' rfl
        exact hb (List.mem_flatMap.2 ⟨r, List.mem_of_getElem? hr, hb'⟩)
      have a3 : Rep dd (w.setRow b (setFrom cur.toList (off + i * k.size + c) us).toArray) k (l.getD i k.dflt) r vs := by
        have := a2.same (w' := w.setRow b (setFrom cur.toList (off + i * k.size + c) us).toArray) fun b' hb' => hw' b' (hrm b' hb')
        cases d0 with
        | true => exact this.any dd
        | false => cases dd with
          | true => simp at h0
          | false => exact this
      refine ⟨setFrom vs c us, fun q u hq => ?_, a3.setLeaves hc (hlv.mono hd fun b' hb' => hw' b' (by rintro rfl; exact hbl hb'))⟩
      rw [hcell]
      rw [setFrom_get _ _ _ _ (by rw [a2.size]; exact hc)] at hq
      by_cases g : c ≤ q ∧ q < c + us.length
      · rw [if_pos g] at hq
        rw [if_pos (by omega), ← hq]
        congr 1
        omega
      · rw [if_neg g] at hq
        rw [if_neg (by omega)]
        exact a1 q u hq
    · rw [List.getElem?_set_ne e] at hy hr'
      obtain ⟨vs, a1, a2⟩ := h6 j y r' hy hr'
      refine ⟨vs, fun q u hq => ?_, ?_⟩
      · rw [hcell, if_neg]
        · exact a1 q u hq
        · have hqs : q < k.size := by rw [← a2.size]; exact (List.getElem?_eq_some_iff.1 hq).1
          rcases Nat.lt_or_gt_of_ne e with g | g
          · have : (i + 1) * k.size ≤ j * k.size := Nat.mul_le_mul_right _ g
            rw [Nat.add_mul] at this
            omega
          · have : (j + 1) * k.size ≤ i * k.size := Nat.mul_le_mul_right _ g
            rw [Nat.add_mul] at this
            omega
      · have := a2.same (w' := w.setRow b (setFrom cur.toList (off + i * k.size + c) us).toArray) fun b' hb' => hw' b' (by
          rintro rfl
          exact hb (List.mem_flatMap.2 ⟨r', List.mem_of_getElem? hr', hb'⟩))
        cases d0 with
        | true => exact this.any dd
        | false => cases dd with
          | true => simp at h0
          | false => exact this
  · rcases q3 with q3 | q3 <;> omega

/-- The blocks of a list whose element is turned. -/
theorem fp_store {d0 d : Bool} {w : World} {k : K} {l : List k.T} {b off cap i c : Nat} {rows : List LT} {v : Value} (h : RepL true w k.size (Rep d0 w k) l (.node b off cap rows) v) (hi : i < l.length) {us : List Value} (hc : c + us.length ≤ k.size)
    {gs : List Sg} {Ms : List LT} (hlv : LeavesAt d w k c gs Ms us) {r : LT} (hr : rows[i]? = some r) :
    ∃ junk, (fpLeaves gs Ms ++ rows.flatMap (fp k)).Perm ((rows.set i (setLeavesL k r c Ms)).flatMap (fp k) ++ junk) := by
  have hx : l[i]? = some (l.getD i k.dflt) := by simp [List.getElem?_eq_getElem hi]
  rcases h with ⟨h, _⟩ | ⟨b', off', cap', rows', e1, e2, h3, h4, hn, h5, h6⟩
  · simp at h
  simp only [LT.node.injEq] at e1
  obtain ⟨rfl, rfl, rfl, rfl⟩ := e1
  obtain ⟨vs, a1, a2⟩ := h6 i _ r hx hr
  obtain ⟨junk, hj⟩ := leaves_perm a2.weaken hc (hlv.mono (d' := false) (by simp) fun b _ => rfl)
  obtain ⟨q1, q2⟩ := flat_perm (fp k) rows i r hr
  refine ⟨junk, (List.Perm.append_left _ q1).trans ?_⟩
  rw [← List.append_assoc]
  refine (hj.append_right _).trans ?_
  refine List.Perm.trans ?_ ((q2 _).symm.append_right _)
  simp only [List.append_assoc]
  exact List.Perm.append_left _ List.perm_append_comm

theorem Shp.trans : ∀ {k : K} {x y z : k.T}, Shp k x y → Shp k y z → Shp k x z
  | .int _, _, _, _, _, _ => trivial
  | .bool, _, _, _, _, _ => trivial
  | .str, _, _, _, _, _ => trivial
  | .list k, x, y, z, h, h' => ⟨h'.1.trans h.1, fun i hi => Shp.trans (h.2 i hi) (h'.2 i (by rw [h.1]; exact hi))⟩
  | .pair a b, x, y, z, h, h' => ⟨Shp.trans h.1 h'.1, Shp.trans h.2 h'.2⟩

theorem Shp.setLeaves {d : Bool} {w : World} {k : K} : ∀ {us : List Value} {gs : List Sg} {Ms : List LT} {c : Nat} (x : k.T), c + us.length ≤ k.size → hasList k c us.length = false → LeavesAt d w k c gs Ms us → Shp k x (setLeaves k x c gs)
  | [], [], [], c, x, _, _, _ => Shp.refl k x
  | u :: us, s :: gs, M :: Ms, c, x, hc, hh, h => by
    simp only [List.length_cons, hasList, Bool.or_eq_false_iff, Bool.not_eq_false'] at hh
    simp only [List.length_cons] at hc
    obtain ⟨h1, h2, h3⟩ := h
    have a1 : Shp k x (Mach.setLeaf k x c s) := Shp.setLeaf x c s (by omega) h1 fun {k' z} hz => by
      have := leafV_list hz
      rw [this] at hh
      simp [K.flat] at hh
    exact a1.trans (Shp.setLeaves (gs := gs) (us := us) _ (by omega) hh.2 h3)
  | _ :: _, [], _, _, _, _, _, h => by cases ‹List LT› <;> simp [LeavesAt] at h
  | _ :: _, _ :: _, [], _, _, _, _, h => by simp [LeavesAt] at h
  | [], _ :: _, [], _, _, _, _, h => by simp [LeavesAt] at h
  | [], _ :: _, _ :: _, _, _, _, _, h => by simp [LeavesAt] at h
  | [], [], _ :: _, _, _, _, _, h => by simp [LeavesAt] at h

theorem set_back {α : Type} {l : List α} {i : Nat} {r : α} (h : l[i]? = some r) : l.set i r = l := by
  apply List.ext_getElem?
  intro j
  by_cases e : i = j
  · subst e
    rw [List.getElem?_set_self (List.getElem?_eq_some_iff.1 h).1, h]
  · rw [List.getElem?_set_ne e]

section ops
variable {P : Program} {n : Nat} {e : Env} {a : Act} {w : World} {G : Gh} {get : Nat → Slot} {o : Oper} {x : Ctx} {ws : Writes}

/-- The function that turns the list at a path. -/
def setF (k : K) (new : List k.T) : (k' : K) → List k'.T → List k'.T := fun k' l' => (castL k new k').getD l'

theorem setF_at {k : K} {new : List k.T} {l : List k.T} : setF k new k l = new := by simp [setF, castL_self]

theorem store_elem {tm : Array Value} (h : Inv n e tm w G) {s j rv sv c i : Nat} {p : Path} {k0 k : K} {l0 : List k0.T} {l : List k.T} {deep d : Bool} (hc : (e.get s).cs[j]? = some (.own rv sv deep k0 l0)) (hpd : p = [] ∨ deep = true)
    (hl : getP k0 l0 p = ⟨k, l⟩) (hp : PathOk k0 l0 p) {b off cap : Nat} {rows : List LT} (hL : subL k0 (G.lt s j) p = .node b off cap rows) (hi : i < l.length) {us : List Value} (hcs : c + us.length ≤ k.size) (hone : ∀ u ∈ us, u.oneCell' = true)
    {gs : List Sg} {Ms : List LT} {H : List Nat} (hlv : LeavesAt d w k c gs Ms us) (hH : ∀ b ∈ H, Loose e G b ∧ G.ow b ≠ none) (hHo : ∀ b ∈ H, ∀ t, G.ow b = some t → t < e.length) (hnd : H.Nodup) (hfp : d = true → H = fpLeaves gs Ms) (hnone : ∀ b ∈ fpLeaves gs Ms, b ∈ H ∨ G.ow b = none) :
    ∃ w', (storeCells ⟨b, off + i * k.size + c, none⟩ us 0).run P w = .ok () w' ∧ w'.heap.size = w.heap.size ∧ SameEnv w w' ∧
      (hasList k c us.length = false → ∃ G', Inv n (e.set s { e.get s with cs := (e.get s).cs.set j (.own rv sv deep k0 (modP (setF k (l.set i (setLeaves k (l.getD i k.dflt) c gs))) k0 l0 p)) }) tm w' G' ∧ Held n e.length w w' G G') ∧
      ∃ G', Inv n (e.set s { e.get s with cs := (e.get s).cs.set j (.own rv (e.get s).cnt (deep && d) k0 (modP (setF k (l.set i (setLeaves k (l.getD i k.dflt) c gs))) k0 l0 p)), cnt := (e.get s).cnt + 1 }) tm w' G' ∧ Held n e.length w w' G G' := by
  obtain ⟨v, hv, hcell⟩ := h.val hc
  obtain ⟨hrep0, hin0⟩ := hcell
  obtain ⟨ow1, ow2, ow3⟩ := h.ownBlocks hc
  obtain ⟨v', rest, f1, f2, f3⟩ := focus2 (setF k (l.set i (setLeaves k (l.getD i k.dflt) c gs))) p k0 l0 (G.lt s j) v hrep0 hp hpd
  rw [hl] at f1 f2 f3
  simp only [hL, setF_at] at f1 f2 f3
  obtain ⟨b', off', cap', rows', r, vs, hLn, hvn, _, hrl, hr, hrow, hrepi⟩ := f1.elem hi
  simp only [LT.node.injEq] at hLn
  obtain ⟨rfl, rfl, rfl, rfl⟩ := hLn
  -- the block
  have hblk : ∃ cur ty fr, w.heap[b]? = some (.cells cur ty fr) := by
    rcases f1 with ⟨q, _⟩ | ⟨b', off', cap', rows', e1, _, _, _, _, h5, _⟩
    · simp at q
    · simp only [LT.node.injEq] at e1
      obtain ⟨rfl, rfl, rfl, rfl⟩ := e1
      obtain ⟨cc, tt, ff, q1, _⟩ := h5 rfl
      exact ⟨_, _, _, q1⟩
  obtain ⟨cur, ty, fr, hg⟩ := hblk
  -- what is owned
  have hbown : b ∈ ownB (.own rv sv deep k0 l0) (G.lt s j) := by
    cases deep with
    | true =>
      simp only [ownB]
      exact f2.mem_iff.2 (by simp [fp])
    | false =>
      rcases hpd with rfl | q
      · simp only [subL] at hL
        rw [hL]
        simp [ownB, hdOf]
      · simp at q
  have hbow : G.ow b = some s := ow1 b hbown
  have hndall : deep = true → (fp (.list k0) (G.lt s j)).Nodup := fun hd => by rw [hd] at ow3; exact ow3
  have hrest : deep = false → rest = [] := by
    intro hd
    rcases hpd with rfl | q
    · simp only [subL] at hL
      have := f2.length_eq
      rw [getP_nil] at hl
      simp only [Sigma.mk.injEq] at hl
      obtain ⟨rfl, _⟩ := hl
      rw [hL, List.length_append] at this
      exact List.eq_nil_of_length_eq_zero (by omega)
    · rw [hd] at q; simp at q
  have hinn : deep = false → ∀ b' ∈ rows.flatMap (fp k), G.ow b' = none := by
    intro hd b' hb'
    rcases hpd with rfl | q
    · simp only [subL] at hL
      rw [getP_nil] at hl
      simp only [Sigma.mk.injEq] at hl
      obtain ⟨rfl, _⟩ := hl
      refine ow2 hd b' ?_
      rw [hL]
      exact hb'
    · rw [hd] at q; simp at q
  have hbrows : b ∉ rows.flatMap (fp k) := by
    intro hb'
    cases hd : deep with
    | false => rw [hinn hd b hb'] at hbow; simp at hbow
    | true =>
      have := f2.nodup_iff.1 (hndall hd)
      simp only [fp, List.cons_append, List.nodup_cons, List.mem_append] at this
      exact this.1 (.inl hb')
  have hbrest : b ∉ rest := by
    intro hb'
    cases hd : deep with
    | false => rw [hrest hd] at hb'; simp at hb'
    | true =>
      have := f2.nodup_iff.1 (hndall hd)
      simp only [fp, List.cons_append, List.nodup_cons, List.mem_append] at this
      exact this.1 (.inr hb')
  have hfps : ∀ b' ∈ ownB (.own rv sv deep k0 l0) (G.lt s j), b' ∉ H := by
    intro b' hb' q
    have hne : (e.get s).sh ≠ .dead := fun q => by have := (h.slot s).dead q; rw [this] at hc; simp at hc
    refine (hH b' q).1 s ?_
    simp only [fpS, List.mem_append]
    right
    have := fpCells_mem (lt := G.lt s) (i := 0) hc (by simpa using hb')
    cases hq : (e.get s).sh <;> simp_all
  have hbl : b ∉ fpLeaves gs Ms := by
    intro hb'
    rcases hnone b hb' with q | q
    · exact hfps b hbown q
    · rw [q] at hbow; simp at hbow
  have hw' : ∀ b', b' ≠ b → (w.setRow b (setFrom cur.toList (off + i * k.size + c) us).toArray).heap[b']? = w.heap[b']? := fun b' hb' => setRow_other w b b' _ hb'
  have hsrest : Same w (w.setRow b (setFrom cur.toList (off + i * k.size + c) us).toArray) rest := fun b' hb' => hw' b' (by rintro rfl; exact hbrest hb')
  obtain ⟨_, hfit, hfro⟩ := repl_store (dd := false) f1 hi hcs hg hbrows hbl hlv (by simp) (by simp) hr
  have hrun := run_store_row P b (off + i * k.size + c) ty fr us 0 cur w hg (by simpa using hfit) (fun q g1 g2 => hfro q (by omega) (by omega)) hone
  simp only [Nat.add_zero] at hrun
  have hsame : ∀ b', b' ∉ ownB (.own rv sv deep k0 l0) (G.lt s j) → (w.setRow b (setFrom cur.toList (off + i * k.size + c) us).toArray).heap[b']? = w.heap[b']? := fun b' hb' => hw' b' (by rintro rfl; exact hb' hbown)
  refine ⟨_, hrun, by simp, ⟨rfl, rfl, rfl⟩, fun hfl => ?_, ?_⟩
  · -- flat leaves
    obtain ⟨Ms', m1, m2, m3, _⟩ := flat_leaves (w' := w) r hfl hlv
    obtain ⟨g1, _⟩ := repl_store (dd := deep) f1 hi hcs hg hbrows (by rw [m3]; simp) m1 (by simp) (by simp) hr
    obtain ⟨g2, g3⟩ := f3 _ _ deep hsrest g1
    rw [m2, set_back hr, ← hL, setSub_self p hrep0 hp] at g2
    have hshp : Shp (.list k0) l0 (modP (setF k (l.set i (setLeaves k (l.getD i k.dflt) c gs))) k0 l0 p) := by
      refine Shp.mod _ p hp ?_
      rw [hl]
      simp only [setF_at]
      exact Shp.set hi (Shp.setLeaves _ hcs hfl hlv)
    have hI := h.own (w' := w.setRow b (setFrom cur.toList (off + i * k.size + c) us).toArray) hc hv sv (e.get s).cnt deep _ (G.lt s j) [] [] (by simp) (fun b' h1 _ _ => hsame b' h1) (by simp) g2 (fun b' hb' => .inl (by cases deep <;> exact hb')) (by cases deep <;> exact ow3) (by simp)
      (fun hd b' hb' => .inl ⟨ow2 hd b' hb', by simp⟩) (by simp only [Shp] at hshp; exact hshp.1) rfl
      (.inl ⟨rfl, rfl, fun hd => ⟨hd, fun p1 k1 n1 hd1 hloc => by
        obtain ⟨y1, y2, y3, y4⟩ := hloc
        obtain ⟨z1, z2, z3⟩ := Shp.path p1 hshp y1
        exact ⟨z1, z2.trans y2, z3.trans y3, y4⟩⟩⟩)
    refine ⟨_, hI, ⟨fun b' q1 q2 => ⟨hsame b' fun q => by rw [ow1 b' q] at q1; simp at q1, ?_⟩, fun s' _ => ⟨rfl, fun j' => by
      simp only [Gh.turn, upd]
      by_cases q1 : s' = s
      · subst q1
        by_cases q2 : j' = j
        · subst q2; simp [upd]
        · simp [upd, q2]
      · simp [q1]⟩, fun b' t q1 q2 q3 => ⟨hsame b' fun q => by rw [ow1 b' q] at q1; simp only [Option.some.injEq] at q1; have := slot_alive hc; omega, by simp [Gh.turn, q1]⟩⟩⟩
    simp [Gh.turn, q1]
  · -- leaves that are lists
    have hg1 := (repl_store (dd := deep && d) f1 hi hcs hg hbrows hbl hlv (by simp; intro q _; exact q) (by simp) hr).1
    obtain ⟨g2, g3⟩ := f3 _ _ (deep && d) hsrest hg1
    obtain ⟨junk, hj⟩ := fp_store f1 hi hcs hlv hr
    have hT : (fpLeaves gs Ms ++ fp (.list k0) (G.lt s j)).Perm (fp (.list k0) (setSub k0 (G.lt s j) (.node b off cap (rows.set i (setLeavesL k r c Ms))) p) ++ junk) := by
      refine (List.Perm.append_left _ f2).trans ?_
      refine List.Perm.trans ?_ (g3.symm.append_right _)
      simp only [fp, List.cons_append]
      refine List.perm_middle.trans (List.Perm.cons b ?_)
      rw [← List.append_assoc]
      refine (hj.append_right _).trans ?_
      simp only [List.append_assoc]
      exact List.Perm.append_left _ List.perm_append_comm
    have hhd : hdOf (setSub k0 (G.lt s j) (.node b off cap (rows.set i (setLeavesL k r c Ms))) p) = hdOf (G.lt s j) := hdOf_setSub p hrep0 hp (by rw [hL]; rfl)
    generalize hL' : setSub k0 (G.lt s j) (.node b off cap (rows.set i (setLeavesL k r c Ms))) p = L' at g2 g3 hT hhd
    have hroot : ∀ b' ∈ (hdOf (G.lt s j)).toList.map (·.1), b' ∈ ownB (.own rv sv deep k0 l0) (G.lt s j) := by
      intro b' hb'
      cases deep with
      | true => simp only [ownB, fp_list]; exact List.mem_append_left _ hb'
      | false => exact hb'
    have hinner : ∀ b' ∈ inner k0 (G.lt s j), G.ow b' ≠ none → b' ∈ ownB (.own rv sv deep k0 l0) (G.lt s j) := by
      intro b' hb' hne
      cases hd : deep with
      | true => simp only [ownB, fp_list]; exact List.mem_append_right _ hb'
      | false => exact absurd (ow2 hd b' hb') hne
    have hfrom : ∀ b' ∈ fp (.list k0) L', G.ow b' ≠ none → b' ∈ ownB (.own rv sv deep k0 l0) (G.lt s j) ∨ b' ∈ H := by
      intro b' hb' hne
      have := hT.mem_iff.2 (List.mem_append_left _ hb')
      rw [List.mem_append] at this
      rcases this with q | q
      · rcases hnone b' q with q | q
        · exact .inr q
        · exact absurd q hne
      · rw [fp_list, List.mem_append] at q
        rcases q with q | q
        · exact .inl (hroot b' q)
        · exact .inl (hinner b' q hne)
    have hrin : ∀ b' ∈ (hdOf (G.lt s j)).toList.map (·.1), b' ∉ inner k0 L' := by
      intro b' hb' hin'
      have hown := hroot b' hb'
      have c1 : b' ∉ fpLeaves gs Ms := by
        intro q
        rcases hnone b' q with q | q
        · exact hfps b' hown q
        · rw [ow1 b' hown] at q; simp at q
      have c2 : b' ∉ inner k0 (G.lt s j) := by
        intro q
        cases hd : deep with
        | false => have := ow1 b' hown; rw [ow2 hd b' q] at this; simp at this
        | true =>
          have := hndall hd
          rw [fp_list, List.nodup_append] at this
          exact this.2.2 b' hb' b' q rfl
      have c3 : List.count b' ((hdOf (G.lt s j)).toList.map (·.1)) ≤ 1 := by
        cases hdOf (G.lt s j) with
        | none => simp
        | some q => simp [List.count_cons]; split <;> omega
      have e1 := hT.count_eq b'
      rw [List.count_append, List.count_append, fp_list, fp_list, hhd, List.count_append, List.count_append, List.count_eq_zero_of_not_mem c1, List.count_eq_zero_of_not_mem c2] at e1
      have := List.count_pos_iff.2 hin'
      omega
    have hdd : (deep && d) = true → deep = true ∧ d = true := by simp
    have hI := h.own (w' := w.setRow b (setFrom cur.toList (off + i * k.size + c) us).toArray) hc hv (e.get s).cnt ((e.get s).cnt + 1) (deep && d) _ L' H (if (deep && d) = true then [] else (inner k0 L').filter fun b' => (G.ow b').isSome) (by simp) (fun b' h1 _ _ => hsame b' h1)
      (fun b' hb' => ⟨(hH b' hb').1, .inl (hH b' hb').2, by
        cases q : G.ow b' with
        | none => exact absurd q (hH b' hb').2
        | some s' => have := h.lt b' s' q; simpa using this⟩) g2
      (fun b' hb' => by
        cases hq : (deep && d) with
        | true =>
          rw [hq] at hb'
          obtain ⟨q1, q2⟩ := hdd hq
          simp only [ownB] at hb'
          have := hT.mem_iff.2 (List.mem_append_left _ hb')
          rw [List.mem_append] at this
          rcases this with q | q
          · exact .inr (by rw [hfp q2]; exact q)
          · left; rw [q1]; exact q
        | false =>
          rw [hq] at hb'
          simp only [ownB, hhd] at hb'
          exact .inl (hroot b' hb'))
      (by
        cases hq : (deep && d) with
        | true =>
          obtain ⟨q1, q2⟩ := hdd hq
          simp only [ownB]
          have : (fpLeaves gs Ms ++ fp (.list k0) (G.lt s j)).Nodup := by
            rw [← hfp q2, List.nodup_append]
            refine ⟨hnd, hndall q1, fun b1 h1 b2 h2 heq => ?_⟩
            subst heq
            exact hfps b1 (by rw [q1]; exact h2) h1
          exact (List.nodup_append.1 (hT.nodup_iff.1 this)).1
        | false =>
          simp only [ownB]
          cases hdOf L' <;> simp)
      (fun b' hb' => by
        split at hb'
        · simp at hb'
        · rename_i hq
          rw [List.mem_filter] at hb'
          obtain ⟨q1, q2⟩ := hb'
          have hne : G.ow b' ≠ none := by intro q; rw [q] at q2; simp at q2
          refine ⟨hfrom b' (by rw [fp_list]; exact List.mem_append_right _ q1) hne, fun q => ?_⟩
          have hq' : (deep && d) = false := by simpa using hq
          rw [hq'] at q
          simp only [ownB, hhd] at q
          exact hrin b' q q1)
      (fun hq b' hb' => by
        rw [if_neg (by rw [hq]; simp)]
        cases q : G.ow b' with
        | none => exact .inl ⟨rfl, fun q' => (hH b' q').2 q⟩
        | some s' => exact .inr (List.mem_filter.2 ⟨hb', by rw [q]; rfl⟩))
      (modP_length _ p (by rw [hl]; simp only [setF_at]; simp)) hhd (.inr ⟨rfl, rfl⟩)
    refine ⟨_, hI, ⟨fun b' q1 q2 => ⟨hsame b' fun q => by rw [ow1 b' q] at q1; simp at q1, ?_⟩, fun s' _ => ⟨rfl, fun j' => by
      simp only [Gh.turn, upd]
      by_cases q1 : s' = s
      · subst q1
        by_cases q2 : j' = j
        · subst q2; simp [upd, hhd]
        · simp [upd, q2]
      · simp [q1]⟩, fun b' t q1 q2 q3 => ?out⟩⟩
    case out =>
      have hno : b' ∉ ownB (.own rv sv deep k0 l0) (G.lt s j) := fun q => by rw [ow1 b' q] at q1; simp only [Option.some.injEq] at q1; have := slot_alive hc; omega
      have hnH : b' ∉ H := fun q => by have := hHo b' q t q1; omega
      refine ⟨hsame b' hno, ?_⟩
      simp only [Gh.turn, if_neg hnH]
      rw [if_neg]
      · exact q1
      · intro q
        split at q
        · simp at q
        · rw [List.mem_filter] at q
          rcases hfrom b' (by rw [fp_list]; exact List.mem_append_right _ q.1) (by rw [q1]; simp) with g | g
          · exact hno g
          · exact hnH g
    have : b' ∉ H := fun q => (hH b' q).2 q1
    simp only [Gh.turn, if_neg this, q1, ite_self]

end ops

end Go.Mach
