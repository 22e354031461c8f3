/- The machine, part o: conversions, variables, new blocks. No condition: lemmas. -/
import Derived.Test.YtcdkpfcfcjnooaaMn
import Derived.Laws.BytesArg
import Derived.Laws.IdiomStrings
import Derived.Laws.AppendOwn
namespace Go.Mach
set_option linter.unusedVariables false
set_option linter.unusedSimpArgs false

theorem tyK_int {P : Program} {t : Nat} {k : IntKind} : ∀ (m : Nat), tyK P m t = some (.int k) → (∀ fs, P.underlying t ≠ some (.struct fs)) → P.underlying t = some (.int k)
  | 0, h, _ => by simp [tyK] at h
  | m + 1, h, hn => by
    simp only [tyK] at h
    split at h
    · rename_i k' hu
      simp only [Option.some.injEq, K.int.injEq] at h
      rw [hu, h]
    · simp at h
    · simp at h
    · rename_i e _
      cases hq : tyK P m e <;> simp [hq] at h
    · rename_i fs hu
      exact absurd hu (hn fs)
    · simp at h

theorem intTi_ok {P : Program} {t : Nat} {k : IntKind} (h : intTi (tyOf P t) = some k) : P.underlying t = some (.int k) := by
  simp only [intTi] at h
  split at h
  · simp at h
  · rename_i hagg
    split at h
    · rename_i k' hk
      simp only [Option.some.injEq] at h
      subst h
      cases hi : P.info? t with
      | none => simp [tyOf, hi] at hk
      | some i =>
        have hkk := hk
        simp only [tyOf, hi] at hk
        split at hk
        · rename_i q hq
          split at hk
          · simp only [Option.some.injEq] at hk
            subst hk
            refine tyK_int 12 hq fun fs hu => ?_
            apply hagg
            simp [Ti.agg, tyOf, hi, tyD, hu]
          · simp at hk
        · simp at hk
    · simp at h

theorem u8Row_ok {P : Program} {t : Nat} (h : u8Row (tyOf P) t = true) : ∃ e, P.underlying t = some (.slice e) ∧ P.underlying e = some (.int .u8) := by
  simp only [u8Row] at h
  split at h
  · rename_i e hd
    exact ⟨e, ty_slice hd, intTi_ok (by simpa using h)⟩
  · simp at h

/-! ### Handing over -/
def Gh.disown (G : Gh) (F : List Nat) : Gh := { G with ow := fun b => if b ∈ F then none else G.ow b }

theorem CellOk.disown {e : Env} {w : World} {G : Gh} {c : C} {v : Value} {L : LT} (h : CellOk e w G c v L) (F : List Nat) (ho : c.isOwn = false) : CellOk e w (G.disown F) c v L :=
  h.frame (fun t => TM.refl rfl (fun _ => rfl) rfl) (fun b h1 h2 => ⟨rfl, by simp only [Gh.disown]; split <;> first | rfl | exact h1⟩) (by rw [noOwn_ownB ho]; intro b hb; simp at hb)

theorem Inv.disown {n : Nat} {e : Env} {tm : Array Value} {w : World} {G : Gh} (h : Inv n e tm w G) {F : List Nat} (hF : ∀ b ∈ F, Loose e G b) : Inv n e tm w (G.disown F) where
  size := h.size
  elen := h.elen
  slot := fun s => (h.slot s).frame rfl (fun _ => rfl) rfl (fun _ => rfl) rfl (fun t => TM.refl rfl (fun _ => rfl) rfl)
    (fun b h1 h2 => ⟨rfl, by simp only [Gh.disown]; split <;> first | rfl | exact h1⟩)
    (fun b hb => ⟨rfl, by
      have : b ∉ F := fun q => hF b q s hb
      simp only [Gh.disown, if_neg this]
      exact (h.slot s).own b hb⟩)
  lt := fun b s hb => by
    simp only [Gh.disown] at hb
    split at hb
    · simp at hb
    · exact h.lt b s hb

theorem Loose.disown {e : Env} {G : Gh} {F : List Nat} {b : Nat} (h : Loose e G b) : Loose e (G.disown F) b := h

/-! ### Zero values -/
def zLT : K → LT
  | .list _ => .nil
  | .pair a b => .pair (zLT a) (zLT b)
  | _ => .leaf

theorem fp_zLT : ∀ k : K, fp k (zLT k) = []
  | .int _ => rfl
  | .bool => rfl
  | .str => rfl
  | .list _ => rfl
  | .pair a b => by simp [fp, zLT, fp_zLT a, fp_zLT b]

theorem litC_int {v : Value} {k : IntKind} {m : Int} (h : litC v = .dat (.int k) m) : v = .int k m := by
  unfold litC at h
  split at h <;> simp_all

theorem litC_bool {v : Value} {b : Bool} (h : litC v = .dat .bool b) : v = .bool b := by
  unfold litC at h
  split at h <;> simp_all

theorem litC_str {v : Value} {s : List UInt8} (h : litC v = .dat .str s) : v = .string ⟨⟨s⟩⟩ := by
  unfold litC at h
  split at h <;> simp_all
  rw [← h]

theorem litC_nil {v : Value} (h : litC v = .nil) : v = .slice none 0 0 := by
  unfold litC at h
  split at h <;> simp_all

theorem one_of_map {zs : List Value} {c : C} (h : zs.map litC = [c]) : ∃ v, zs = [v] ∧ litC v = c := by
  match zs, h with
  | [v], h => exact ⟨v, rfl, by simpa using h⟩

theorem isZero_ok {d : Bool} {w : World} : ∀ (k : K) (zs : List Value), isZero k (zs.map litC) = true → Rep d w k k.dflt (zLT k) zs
  | .int i, zs, h => by
    simp only [isZero] at h
    split at h
    · rename_i heq
      obtain ⟨v, rfl, hv⟩ := one_of_map heq
      simp only [decide_eq_true_eq] at h
      obtain ⟨rfl, rfl⟩ := h
      simp [Rep, K.dflt, litC_int hv]
    · simp at h
  | .bool, zs, h => by
    simp only [isZero] at h
    split at h
    · rename_i b heq
      obtain ⟨v, rfl, hv⟩ := one_of_map heq
      cases b <;> simp at h
      simp [Rep, K.dflt, litC_bool hv]
    · simp at h
  | .str, zs, h => by
    simp only [isZero] at h
    split at h
    · rename_i s heq
      obtain ⟨v, rfl, hv⟩ := one_of_map heq
      cases s <;> simp at h
      simp [Rep, K.dflt, litC_str hv]
    · simp at h
  | .list k, zs, h => by
    simp only [isZero] at h
    split at h
    · rename_i heq
      obtain ⟨v, rfl, hv⟩ := one_of_map heq
      simp only [Rep, K.dflt, zLT]
      exact ⟨v, rfl, .inl ⟨rfl, rfl, none, 0, litC_nil hv, fun _ => rfl⟩⟩
    · simp at h
  | .pair a b, zs, h => by
    simp only [isZero, Bool.and_eq_true, ← List.map_take, ← List.map_drop] at h
    simp only [Rep, K.dflt, zLT]
    exact ⟨_, _, _, _, rfl, (List.take_append_drop a.size zs).symm, isZero_ok a _ h.1, isZero_ok b _ h.2⟩

theorem isZero_nil : ∀ k : K, isZero k [] = false
  | .int _ => rfl
  | .bool => rfl
  | .str => rfl
  | .list _ => rfl
  | .pair a b => by simp [isZero, isZero_nil a]

section ops
variable {P : Program} {n : Nat} {e : Env} {a : Act} {w : World} {G : Gh} {get : Nat → Slot} {o : Oper} {x : Ctx} {ws : Writes}

theorem Sound.new {u : Value} {w' : World} (h : (execOp a.eval o).run P w = .ok (.value u) w') {d : Nat} (hd : o.dst = some d) {t : Tr} {v : Val} (hp : ∃ G', Post n (e.puts (t.lay (some d) v).ws) a w G (a.put (some d) u) w' G')
    (hws : (t.lay (some d) v).ws = ws) : Sound P n e a w G o ws := by
  obtain ⟨G', hp⟩ := hp
  rw [hws] at hp
  exact Sound.value h (by rw [hd]; exact hp)

/-! ### A new row -/
theorem alloc_same (w : World) (ob : Obj) (b : Nat) (h : w.heap[b]? ≠ none) : (w.alloc ob).heap[b]? = w.heap[b]? := by
  have : b < w.heap.size := by
    rcases Nat.lt_or_ge b w.heap.size with q | q
    · exact q
    · exact absurd (Array.getElem?_eq_none q) h
  exact heap_alloc_old w ob b this

theorem Inv.fresh {tm : Array Value} (h : Inv n e tm w G) {t : Nat} (ht : G.ow w.heap.size = some t) : False := by
  have := h.lt _ t ht
  omega

theorem Inv.fresh_cons {tm : Array Value} (h : Inv n e tm w G) {H : List Nat} (hH : ∀ b ∈ H, ∀ t, G.ow b = some t → t < e.length) : ∀ b ∈ w.heap.size :: H, ∀ t, G.ow b = some t → t < e.length := by
  intro b hb t ht
  simp only [List.mem_cons] at hb
  rcases hb with rfl | hb
  · exact (h.fresh ht).elim
  · exact hH b hb t ht

theorem disown_owner {H F : List Nat} (h : ∀ b ∈ H, ∀ t, G.ow b = some t → t < e.length) : ∀ b ∈ H, ∀ t, (G.disown F).ow b = some t → t < e.length := by
  intro b hb t ht
  simp only [Gh.disown] at ht
  split at ht
  · simp at ht
  · exact h b hb t ht

theorem Held.disown {m : Nat} {w' : World} {G0 : Gh} {F : List Nat} (h : Held n m w w' G0 G) (hF : ∀ b ∈ F, ∀ t, G.ow b = some t → t < m) : Held n m w w' G0 (G.disown F) where
  still := fun b h1 h2 => ⟨(h.still b h1 h2).1, by simp only [Gh.disown]; split <;> first | rfl | exact (h.still b h1 h2).2⟩
  vs := h.vs
  out := fun b t h1 h2 h3 => by
    obtain ⟨r1, r2⟩ := h.out b t h1 h2 h3
    refine ⟨r1, ?_⟩
    simp only [Gh.disown]
    rw [if_neg (fun q => by have := hF b q t r2; omega)]
    exact r2

/-- A new row of owned data, laid. -/
theorem new_row {e0 : Env} {G0 : Gh} {t : Tr} {w' : World} (h : Inv n e a.tmps w G) (ht : TrOk e0 t e) (hst : Held n e0.length w w G0 G) {k : K} {l : List k.T} {rows : List LT} {cap : Nat} {d : Bool} {H : List Nat}
    (hsz : w'.heap.size = w.heap.size + 1) (hsame : ∀ b : Nat, w.heap[b]? ≠ none → w'.heap[b]? = w.heap[b]?)
    (hrep : RepL true w' k.size (Rep d w' k) l (.node w.heap.size 0 cap rows) (.slice (some ⟨w.heap.size, 0, none⟩) l.length cap))
    (hH : ∀ b ∈ H, Loose e G b ∧ G.ow b ≠ none) (hHo : ∀ b ∈ H, ∀ t, G.ow b = some t → t < e.length) (hnd : H.Nodup)
    (hfp : d = true → H = rows.flatMap (fp k)) (hnone : ∀ b ∈ rows.flatMap (fp k), b ∈ H ∨ G.ow b = none) (hold : ∀ b ∈ rows.flatMap (fp k), b < w.heap.size) {dd : Nat} (hd : t.d = some dd) (hdn : dd < n) (henv : SameEnv w w' := by exact ⟨rfl, rfl, rfl⟩) :
    ∃ G', Post n (e0.puts (t.lay (some dd) (.one, [.own 0 0 d k l])).ws) a w G0 (a.put (some dd) (.slice (some ⟨w.heap.size, 0, none⟩) l.length cap)) w' G' := by
  have hnew : w.heap[w.heap.size]? = none := by simp
  have hloose : ∀ G1 : Gh, Inv n e a.tmps w G1 → Loose e G1 w.heap.size := by
    intro G1 h1 s hs
    have := h1.lt _ s ((h1.slot s).own _ hs)
    omega
  have hltH : ∀ b ∈ H, b < w.heap.size := by
    intro b hb
    cases hq : G.ow b with
    | none => exact absurd hq (hH b hb).2
    | some s => exact h.lt b s hq
  cases d with
  | true =>
    have hfp := hfp rfl
    refine lay_new (sh := .one) (u := .slice (some ⟨w.heap.size, 0, none⟩) l.length cap) (H := w.heap.size :: H) (bk := 0) (vs := [.slice (some ⟨w.heap.size, 0, none⟩) l.length cap]) (Ls := fun _ => .node w.heap.size 0 cap rows) h ht hst (by omega) (fun b _ hb => hsame b hb) ?_ (h.fresh_cons hHo) rfl ?_ ?_ ?_ (by simp) (by simp) rfl hd hdn
    · intro b hb
      simp only [List.mem_cons] at hb
      rcases hb with rfl | hb
      · exact ⟨hloose G h, .inr hnew, by omega⟩
      · exact ⟨(hH b hb).1, .inl (hH b hb).2, by have := hltH b hb; omega⟩
    · intro j c v hc hv
      match j, hc, hv with
      | 0, hc, hv =>
        simp only [List.getElem?_cons_zero, Option.some.injEq] at hc hv
        subst hc; subst hv
        exact ⟨hrep, by simp⟩
    · simp only [boxB, fpCells, ownB, fp, List.nil_append, List.append_nil, ← hfp, List.nodup_cons]
      exact ⟨fun hb => by have := hltH _ hb; omega, hnd⟩
    · simp only [boxB, fpCells, ownB, fp, List.nil_append, List.append_nil, ← hfp]
      exact fun b hb => hb
  | false =>
    have h' := h.disown (F := H) fun b hb => (hH b hb).1
    refine lay_new (sh := .one) (u := .slice (some ⟨w.heap.size, 0, none⟩) l.length cap) (G := G.disown H) (H := [w.heap.size]) (bk := 0) (vs := [.slice (some ⟨w.heap.size, 0, none⟩) l.length cap]) (Ls := fun _ => .node w.heap.size 0 cap rows) h' ht (hst.disown (by rw [← ht.length]; exact hHo)) (by omega) (fun b _ hb => hsame b hb) ?_ (h'.fresh_cons (by simp)) rfl ?_ ?_ ?_ (by simp) (by simp) rfl hd hdn
    · intro b hb
      simp only [List.mem_singleton] at hb
      subst hb
      exact ⟨hloose _ h', .inr hnew, by omega⟩
    · intro j c v hc hv
      match j, hc, hv with
      | 0, hc, hv =>
        simp only [List.getElem?_cons_zero, Option.some.injEq] at hc hv
        subst hc; subst hv
        refine ⟨hrep, fun _ b hb => ⟨?_, ?_⟩⟩
        · simp only [inner] at hb
          simp only [Gh.disown]
          rcases hnone b hb with g | g
          · rw [if_pos g]
          · split <;> first | rfl | exact g
        · simp only [inner] at hb
          simp only [List.mem_singleton]
          rintro rfl
          have := hold _ hb
          omega
    · simp [boxB, fpCells, ownB, hdOf]
    · simp [boxB, fpCells, ownB, hdOf]

theorem fpCells_noOwn (Ls : Nat → LT) : ∀ (cs : List C) (i : Nat), (∀ c ∈ cs, c.isOwn = false) → fpCells Ls i cs = []
  | [], i, _ => rfl
  | c :: cs, i, h => by simp only [fpCells]; rw [noOwn_ownB (h c (by simp)), fpCells_noOwn Ls cs (i + 1) fun c hc => h c (by simp [hc])]; rfl

/-! ### Variables -/
theorem sound_assign {y : Operand} (hb : Begin n e a w G get o) (ho : o.op = .assign y) (h : act x get o = some ws) : Sound P n e a w G o ws := by
  simp only [act, ho] at h
  cases hv : opd get y with
  | none => rw [hv] at h; simp at h
  | some v =>
    rw [hv] at h
    simp only at h
    obtain ⟨vs, Ls, hval⟩ := hb.opd (by simp [ho, Op.operands]) hv
    obtain ⟨e', H, Ls', ht⟩ := take_ok x.vars v.2 hb.inv hb.tr hval.cells hval.noOwn
    obtain ⟨d, hd, hws⟩ := own_dst h
    refine Sound.new (u := a.eval y) (w' := w) (by simp only [execOp, ho]; rfl) hd ?_ hws
    have hbox : boxB v.1 0 = [] := by have := hval.sh; cases hs : v.1 <;> simp_all [boxB]
    refine lay_new (e := e') (vs := vs) (Ls := Ls') (bk := 0) (H := H) ht.inv ht.tr (ht.ext.held hb.inv) (Nat.le_refl _) (fun b _ _ => rfl) ?_ (ht.hand.owner hb.inv ht.ext) ht.len ht.new ?_ ?_ (fun q => absurd q hval.alive) (fun bv q => absurd q (hval.sh bv)) ?_ (by rw [take_d]; exact hd) (hb.inb.dst d hd)
    · intro b hb'
      obtain ⟨h1, h2, h3, _⟩ := ht.hand.mem b hb'
      exact ⟨h1, .inl h2, h3⟩
    · rw [hbox, ht.fp]
      exact ht.hand.nodup
    · rw [hbox, ht.fp]
      exact fun b hb => hb
    · have h1 := hval.form
      have h2 := hval.alive
      have h3 := hval.sh
      revert h1 h2 h3
      cases v.1 <;> simp [FormOf]

/-! ### Variables of their own block -/
theorem run_alloc {el : Nat} {i : TypeInfo} {z : Value} (hi : P.info? el = some i) (hz : i.zero = some z) (w : World) :
    (Instr.alloc el true (.tuple #[])).run P w = .ok (.pointer (some ⟨w.heap.size, 0, none⟩)) (w.alloc (.cells z.cells el)) := by
  simp [Instr.alloc, zeroValue, typeInfo, hi, hz, newVar, newRow]

theorem zeros_eq {el : Nat} {i : TypeInfo} {z : Value} (hi : P.info? el = some i) (hz : i.zero = some z) : (tyOf P el).zeros = z.cells.toList.map litC := by
  simp only [Ti.zeros, (ty_size hi).2.2.2, hz]
  cases z <;> rfl

theorem zero_info {el : Nat} (h : (tyOf P el).zero.isSome = true) : ∃ i z, P.info? el = some i ∧ i.zero = some z := by
  cases hi : P.info? el with
  | none => simp [tyOf, hi] at h
  | some i =>
    rw [(ty_size hi).2.2.2] at h
    obtain ⟨z, hz⟩ := Option.isSome_iff_exists.1 h
    exact ⟨i, z, rfl, hz⟩

theorem sound_alloc {el : TypeId} (hty : ∀ t, x.ty t = tyOf P t) (hb : Begin n e a w G get o) (ho : o.op = .alloc el) (h : act x get o = some ws) : Sound P n e a w G o ws := by
  simp only [act, ho] at h
  split at h
  · rename_i hz
    rw [hty] at hz
    obtain ⟨i, z, hi, hz⟩ := zero_info hz
    obtain ⟨d, hd, hws⟩ := own_dst h
    rw [hty, zeros_eq hi hz] at hws
    refine Sound.new (by simp only [execOp, ho]; exact run_v (run_alloc hi hz w)) hd ?_ hws
    have hno : ∀ c ∈ z.cells.toList.map litC, c.isOwn = false := (lits_ok e w G z.cells.toList).2
    have hnew : w.heap[w.heap.size]? = none := by simp
    refine lay_new (sh := .box 0) (u := .pointer (some ⟨w.heap.size, 0, none⟩)) (vs := z.cells.toList) (Ls := fun _ => .leaf) (bk := w.heap.size) (H := [w.heap.size]) hb.inv hb.tr Held.refl (by simp) (fun b _ hb' => alloc_same w _ b hb') ?_ (hb.inv.fresh_cons (by simp)) (by simp) ?_ ?_ ?_ (by simp) ?_ rfl hd (hb.inb.dst d hd)
    · intro b hb'
      simp only [List.mem_singleton] at hb'
      subst hb'
      refine ⟨fun s hs => ?_, .inr hnew, by simp⟩
      have := hb.inv.lt _ s ((hb.inv.slot s).own _ hs)
      omega
    · intro j c v hc hv
      exact NewOk.ofCell ((lits_ok e w G z.cells.toList).1.cell j c v hc hv) (hno c (List.mem_of_getElem? hc))
    · rw [fpCells_noOwn _ _ _ hno]; simp [boxB]
    · rw [fpCells_noOwn _ _ _ hno]; simp [boxB]
    · intro bv _
      exact ⟨el, heap_alloc_new w _⟩
  · simp at h

theorem sound_box {el : TypeId} {y : Operand} (hty : ∀ t, x.ty t = tyOf P t) (hb : Begin n e a w G get o) (ho : o.op = .box el y) (h : act x get o = some ws) : Sound P n e a w G o ws := by
  simp only [act, ho] at h
  cases hv : opd get y with
  | none => rw [hv] at h; simp at h
  | some v =>
    rw [hv] at h
    simp only at h
    split at h
    · rename_i hw
      obtain ⟨_, hw⟩ := hw
      obtain ⟨vs, Ls, hval⟩ := hb.opd (by simp [ho, Op.operands]) hv
      obtain ⟨hcells, hone⟩ := form_cells (n := n) (tm := a.tmps) hb.sees hval hw
      obtain ⟨e', H, Ls', ht⟩ := take_ok x.vars v.2 hb.inv hb.tr hval.cells hval.noOwn
      obtain ⟨d, hd, hws⟩ := own_dst h
      refine Sound.new (u := .pointer (some ⟨w.heap.size, 0, none⟩)) (w' := w.alloc (.cells vs.toArray el)) ?_ hd ?_ hws
      · simp only [execOp, ho]
        refine run_v ?_
        simp [Instr.box, newVar, newRow, hcells]
      have hnew : w.heap[w.heap.size]? = none := by simp
      have hnH : w.heap.size ∉ H := fun hb' => by have := (ht.hand.mem _ hb').2.2.1; omega
      refine lay_new (sh := .box 0) (u := .pointer (some ⟨w.heap.size, 0, none⟩)) (e := e') (vs := vs) (Ls := Ls') (bk := w.heap.size) (H := w.heap.size :: H) ht.inv ht.tr (ht.ext.held hb.inv) (by simp) (fun b _ hb' => alloc_same w _ b hb') ?_ (ht.inv.fresh_cons (ht.hand.owner hb.inv ht.ext)) ht.len ?_ ?_ ?_ (by simp) (fun bv _ => ⟨el, heap_alloc_new w _⟩) rfl (by rw [take_d]; exact hd) (hb.inb.dst d hd)
      · intro b hb'
        simp only [List.mem_cons] at hb'
        rcases hb' with rfl | hb'
        · refine ⟨fun s hs => ?_, .inr hnew, by simp⟩
          have := ht.inv.lt _ s ((ht.inv.slot s).own _ hs)
          omega
        · obtain ⟨h1, h2, h3, _⟩ := ht.hand.mem b hb'
          exact ⟨h1, .inl h2, by simp; omega⟩
      · intro j c v hc hv
        have h1 := ht.new j c v hc hv
        cases c with
        | own rv sv dd k l =>
          obtain ⟨g1, g2⟩ := h1
          refine ⟨g1.same fun b hb' => alloc_same w _ b (g1.there b hb'), fun hdd b hb' => ?_⟩
          obtain ⟨q1, q2⟩ := g2 hdd b hb'
          refine ⟨q1, fun q => ?_⟩
          simp only [List.mem_cons] at q
          rcases q with rfl | q
          · have hbb : w.heap.size ∈ fp (.list k) (Ls' j) := by rw [fp_list]; exact List.mem_append_right _ hb'
            exact g1.there _ hbb hnew
          · exact q2 q
        | _ => exact h1
      · simp only [boxB, List.cons_append, List.nil_append, ht.fp, List.nodup_cons]
        exact ⟨hnH, ht.hand.nodup⟩
      · simp only [boxB, List.cons_append, List.nil_append, ht.fp]
        exact fun b hb => hb
    · simp at h

/-! ### Made rows -/
theorem madeCells_row {z : Array Value} {m sz i j : Nat} {v : Value} (hz : z.size = sz) (hi : i < m) (hj : z.toList[j]? = some v) : (madeCells z (m * sz))[i * sz + j]? = some v := by
  have hjs : j < sz := by have := (List.getElem?_eq_some_iff.1 hj).1; simpa [hz] using this
  have hlt : i * sz + j < m * sz := by
    have : (i + 1) * sz ≤ m * sz := Nat.mul_le_mul_right _ hi
    rw [Nat.add_mul] at this
    omega
  have hmod : (i * sz + j) % z.size = j := by rw [hz, Nat.mul_comm, Nat.mul_add_mod, Nat.mod_eq_of_lt hjs]
  have hjz : j < z.size := by omega
  simp only [madeCells, Array.getElem?_map, Array.getElem?_range, hlt, if_true, Option.map_some, hmod]
  simp only [Array.getElem?_toList] at hj
  simp [getElem!_def, hj]

theorem zero_rows {k : K} {z : Array Value} {w' : World} {b m cap : Nat} {el : TypeId} {ex : List Value} {d : Bool} (hzk : isZero k (z.toList.map litC) = true) (hb : w'.heap[b]? = some (.cells (madeCells z (cap * k.size)) el (0, 0))) (hm : m ≤ cap) :
    RepL true w' k.size (Rep d w' k) (List.replicate m k.dflt) (.node b 0 cap (List.replicate m (zLT k))) (.slice (some ⟨b, 0, none⟩) m cap) := by
  have hrep : Rep d w' k k.dflt (zLT k) z.toList := isZero_ok k _ hzk
  have hsz : z.size = k.size := by simpa using hrep.size
  refine .inr ⟨b, 0, cap, List.replicate m (zLT k), rfl, by simp, by simpa using hm, by simp, by rw [hb]; simp, fun _ => ⟨_, _, _, hb, by simp [size_madeCells], .inr (by simp)⟩, fun i y r hy hr => ?_⟩
  have hi : i < m := by have := (List.getElem?_eq_some_iff.1 hy).1; simpa using this
  rw [List.getElem?_replicate, if_pos hi] at hy hr
  simp only [Option.some.injEq] at hy hr
  subst hy; subst hr
  refine ⟨z.toList, fun j v hj => ?_, hrep⟩
  have := madeCells_row (m := cap) (sz := k.size) (i := i) hsz (by omega) hj
  simp only [World.cell?, hb, Option.isSome_none, Bool.false_eq_true, if_false, Nat.zero_add]
  exact this

theorem zero_flat {k : K} {m : Nat} : (List.replicate m (zLT k)).flatMap (fp k) = [] := by
  rw [List.flatMap_eq_nil_iff]
  intro L hL
  rw [List.mem_replicate] at hL
  rw [hL.2, fp_zLT]

theorem sound_makeSlice {ty : TypeId} {y z : Operand} (hty : ∀ t, x.ty t = tyOf P t) (hb : Begin n e a w G get o) (ho : o.op = .makeSlice ty y z) (h : act x get o = some ws) : Sound P n e a w G o ws := by
  simp only [act, ho] at h
  split at h
  · rename_i el c1 c2 hd hy hz
    split at h
    · rename_i k p q hk hp hq
      split at h
      · rename_i hc
        obtain ⟨g1, g2, g3, g4⟩ := hc
        rw [hty] at hd hk g3 g4
        obtain ⟨L, h1, _⟩ := hb.one (by simp [ho, Op.operands]) hy
        obtain ⟨M, h2, _⟩ := hb.one (by simp [ho, Op.operands]) hz
        obtain ⟨ik, h1⟩ := nat_of hp h1
        obtain ⟨jk, h2⟩ := nat_of hq h2
        obtain ⟨i, hi, hik⟩ := ty_k hk
        have hu := ty_slice hd
        have hzs : ∃ zv, i.zero = some zv := by
          cases hzz : i.zero with
          | some zv => exact ⟨zv, rfl⟩
          | none =>
            simp only [Ti.zeros, (ty_size hi).2.2.2, hzz] at g4
            rw [isZero_nil] at g4
            simp at g4
        obtain ⟨zv, hzv⟩ := hzs
        obtain ⟨d, hd', hws⟩ := own_dst h
        rw [zeros_eq hi hzv] at g4
        rw [(ty_size hi).2.2.1] at g3
        have hr := run_make (P := P) w ty el i zv hu hi hzv ik jk (p : Int) (q : Int) (by omega) (by omega) (by
          have : q * i.bytes ≤ 140737488355328 := g3
          have h3 : (i.bytes : Int) * (q : Int) = ((q * i.bytes : Nat) : Int) := by rw [Nat.mul_comm]; simp
          rw [h3]; omega) (by simp only [rowMost] at g2; omega)
        simp only [Int.toNat_natCast, hik] at hr
        refine Sound.new (u := .slice (some ⟨w.heap.size, 0, none⟩) (List.replicate p k.dflt).length q) (w' := w.alloc (.cells (madeCells zv.cells (q * k.size)) el)) ?_ hd' ?_ hws
        · simp only [execOp, ho, h1, h2]
          refine run_v ?_
          simpa using hr
        refine new_row (H := []) (rows := List.replicate p (zLT k)) hb.inv hb.tr Held.refl (by simp) (fun b hb' => alloc_same w _ b hb') ?_ (by simp) (by simp) (by simp) (fun _ => zero_flat.symm) (by rw [zero_flat]; simp) (by rw [zero_flat]; simp) hd' (hb.inb.dst d hd')
        have := zero_rows (d := true) (k := k) (z := zv.cells) (w' := w.alloc (.cells (madeCells zv.cells (q * k.size)) el)) (b := w.heap.size) (m := p) (cap := q) (el := el) (ex := []) g4 (heap_alloc_new w _) g1
        simpa using this
      · simp at h
    · simp at h
  · simp at h

end ops

end Go.Mach
