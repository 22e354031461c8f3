/- The machine, part nc: regions, in the order of the text and in any order. No condition: lemmas. -/
import Derived.Test.YtcdkpfcfcjnooaaNb
namespace Go.Mach
set_option linter.unusedVariables false
set_option linter.unusedSimpArgs false

theorem Post.trans {n : Nat} {e1 e2 : Env} {a a1 a2 : Act} {w w1 w2 : World} {G G1 G2 : Gh} (h : Post n e1 a w G a1 w1 G1) (h' : Post n e2 a1 w1 G1 a2 w2 G2) (hl : e1.length = e2.length) : Post n e2 a w G a2 w2 G2 :=
  ⟨h'.inv, (hl ▸ h.held).trans h'.held, Nat.le_trans h.grows h'.grows, h'.defers.trans h.defers, h.env.trans h'.env⟩

theorem Post.refl {n : Nat} {e : Env} {a : Act} {w : World} {G : Gh} (h : Inv n e a.tmps w G) : Post n e a w G a w G := ⟨h, Held.refl, Nat.le_refl _, rfl, SameEnv.refl⟩

theorem runA_length {x : Ctx} {ops : Array Oper} : ∀ {l : List Nat} {e e' : Env} {tr : Trace}, runA x ops e l = some (e', tr) → e'.length = e.length
  | [], e, e', tr, h => by simp only [runA, Option.some.injEq, Prod.mk.injEq] at h; rw [h.1]
  | i :: r, e, e', tr, h => by
    simp only [runA] at h
    split at h
    · simp at h
    · split at h
      · simp at h
      · split at h
        · simp at h
        · rename_i hr
          simp only [Option.some.injEq, Prod.mk.injEq] at h
          have := runA_length hr
          rw [puts_length] at this
          rw [← h.1, this]

theorem runA_cons {x : Ctx} {ops : Array Oper} {i : Nat} {r : List Nat} {e e' : Env} {tr : Trace} (h : runA x ops e (i :: r) = some (e', tr)) :
    ∃ o s tr', ops[i]? = some o ∧ stepA x ops e o = some s ∧ runA x ops (e.puts s.ws) r = some (e', tr') ∧ tr = (i, s.reads, s.ws.map (·.1)) :: tr' := by
  simp only [runA] at h
  split at h
  · simp at h
  · rename_i o ho
    split at h
    · simp at h
    · rename_i s hs
      split at h
      · simp at h
      · rename_i e1 tr1 hr
        simp only [Option.some.injEq, Prod.mk.injEq] at h
        obtain ⟨rfl, rfl⟩ := h
        exact ⟨o, s, tr1, ho, hs, hr, rfl⟩

theorem runA_sound {P : Program} {x : Ctx} (hx : CtxOk P x) (hlen : x.n ≤ 1000000) {ops : Array Oper} : ∀ {l : List Nat} {e e' : Env} {tr : Trace} {a : Act} {w : World} {G : Gh}, Inv x.n e a.tmps w G → runA x ops e l = some (e', tr) →
    ∀ (Q : Exit → Act → World → Prop), (∀ a' w' G', Post x.n e' a w G a' w' G' → Q .normal a' w') → wpOps P ops Q l a w
  | [], e, e', tr, a, w, G, hi, h, Q, hq => by
    simp only [runA, Option.some.injEq, Prod.mk.injEq] at h
    obtain ⟨rfl, _⟩ := h
    exact hq _ _ _ (Post.refl hi)
  | i :: r, e, e', tr, a, w, G, hi, h, Q, hq => by
    obtain ⟨o, s, tr', ho, hs, hr, _⟩ := runA_cons h
    rw [wpOps_cons]
    refine stepA_sound hx hlen ho hi hs _ _ fun a1 w1 G1 hp => ?_
    refine runA_sound hx hlen hp.inv hr Q fun a2 w2 G2 hp2 => hq _ _ _ (hp.trans hp2 (runA_length hr).symm)

/-! ### Any order -/
theorem puts_get_ne {ws : Writes} : ∀ {e : Env} {t : Nat}, t ∉ ws.map (·.1) → (e.puts ws).get t = e.get t := by
  induction ws with
  | nil => intro e t _; rfl
  | cons a ws ih =>
    obtain ⟨s, x⟩ := a
    intro e t h
    simp only [List.map_cons, List.mem_cons, not_or] at h
    simp only [Env.puts]
    rw [ih h.2, get_set_ne h.1]

theorem set_puts {ws : Writes} : ∀ {e : Env} {s : Nat} {x : Slot}, s ∉ ws.map (·.1) → Env.puts (e.set s x) ws = (Env.puts e ws).set s x := by
  induction ws with
  | nil => intro e s x _; rfl
  | cons a ws ih =>
    obtain ⟨s', y⟩ := a
    intro e s x h
    simp only [List.map_cons, List.mem_cons, not_or] at h
    simp only [Env.puts]
    rw [List.set_comm _ _ h.1, ih h.2]

theorem puts_comm {w1 : Writes} : ∀ {w2 : Writes} {e : Env}, (∀ t ∈ w1.map (·.1), t ∉ w2.map (·.1)) → (e.puts w1).puts w2 = (e.puts w2).puts w1 := by
  induction w1 with
  | nil => intro w2 e _; rfl
  | cons a w1 ih =>
    obtain ⟨s, x⟩ := a
    intro w2 e h
    simp only [Env.puts]
    rw [ih (fun t ht => h t (by simp only [List.map_cons, List.mem_cons]; exact .inr ht)), set_puts (h s (by simp))]

theorem disjoint_not {a b : List Nat} (h : disjoint a b = true) : ∀ t ∈ a, t ∉ b := by
  intro t ht hb
  simp only [disjoint, List.all_eq_true] at h
  have := h t ht
  simp [hb] at this

theorem looks_congr {e e' : Env} {o : Oper} (h : ∀ t ∈ looks e o, e'.get t = e.get t) : looks e' o = looks e o := by
  simp only [looks] at h ⊢
  split
  · rfl
  · rename_i hq
    congr 1
    rw [List.flatMap_def, List.flatMap_def]
    congr 1
    refine List.map_congr_left fun t ht => ?_
    rw [h t (by rw [if_neg hq]; simp only [List.mem_append]; exact .inl ht)]

theorem stepA_local {x : Ctx} {ops : Array Oper} {e e' : Env} {o : Oper} {s : Step} (h : stepA x ops e o = some s) (he : ∀ t ∈ s.reads, e'.get t = e.get t) : stepA x ops e' o = some s := by
  have hcond : (!((opSlots o).all (· < x.n) && (guardSlots ops o).all (· < x.n))) = false := by
    unfold stepA at h
    split at h
    · simp at h
    · rename_i q; exact Bool.not_eq_true _ ▸ q
  obtain ⟨_, _, h3⟩ := stepA_begin h
  have hguard : (∀ t ∈ guardSlots ops o, e'.get t = e.get t) → wanted e' (guardOf ops o) = wanted e (guardOf ops o) := by
    intro q
    cases hg : guardOf ops o with
    | none => rfl
    | some p =>
      obtain ⟨t, want⟩ := p
      simp only [guardSlots, hg] at q
      simp only [wanted, q t (by simp)]
  unfold stepA
  rw [hcond]
  simp only [Bool.false_eq_true, if_false]
  rcases h3 with ⟨hw, rfl⟩ | ⟨hw, ws, hws, rfl⟩
  · rw [hguard fun t ht => he t (by simp [ht]), hw]
    simp only [Option.some.injEq, Step.mk.injEq, and_true]
    simp only [skipWs]
    split
    · rename_i d hd
      rw [he d (by simp [hd])]
    · rfl
  · have hl : looks e' o = looks e o := looks_congr fun t ht => he t (by simp [ht])
    rw [hguard fun t ht => he t (by simp [ht]), hw]
    simp only [hl]
    have : (fun s => if (looks e o).contains s = true then e'.get s else ({} : Slot)) = fun s => if (looks e o).contains s = true then e.get s else {} := by
      funext t
      by_cases q : (looks e o).contains t = true
      · rw [if_pos q, if_pos q]
        exact he t (by simp only [List.mem_append]; right; simpa using q)
      · rw [if_neg q, if_neg q]
    rw [this, hws]

theorem swap {x : Ctx} {ops : Array Oper} {e : Env} {i j : Nat} {oi oj : Oper} {si sj : Step} (hi : stepA x ops e oi = some si) (hj : stepA x ops (e.puts si.ws) oj = some sj)
    (hd : indep (i, si.reads, si.ws.map (·.1)) (j, sj.reads, sj.ws.map (·.1)) = true) :
    stepA x ops e oj = some sj ∧ stepA x ops (e.puts sj.ws) oi = some si ∧ (e.puts sj.ws).puts si.ws = (e.puts si.ws).puts sj.ws := by
  simp only [indep, Bool.and_eq_true] at hd
  obtain ⟨⟨d1, d2⟩, d3⟩ := hd
  have d1 := disjoint_not d1
  have d2 := disjoint_not d2
  have d3 := disjoint_not d3
  refine ⟨stepA_local hj fun t ht => (puts_get_ne fun q => d1 t q ht).symm, stepA_local hi fun t ht => puts_get_ne fun q => d3 t q ht, (puts_comm d2).symm⟩

theorem runA_ids {x : Ctx} {ops : Array Oper} : ∀ {l : List Nat} {e e' : Env} {tr : Trace}, runA x ops e l = some (e', tr) → tr.map (·.1) = l
  | [], e, e', tr, h => by simp only [runA, Option.some.injEq, Prod.mk.injEq] at h; rw [← h.2]; rfl
  | i :: r, e, e', tr, h => by
    obtain ⟨o, s, tr', _, _, hr, rfl⟩ := runA_cons h
    simp [runA_ids hr]

theorem bubble {x : Ctx} {ops : Array Oper} {j : Nat} {R2 : List Nat} : ∀ {R1 : List Nat} {e ef : Env} {tr : Trace}, runA x ops e (R1 ++ j :: R2) = some (ef, tr) →
    ∃ tr1 tj tr2, tr = tr1 ++ tj :: tr2 ∧ tr1.map (·.1) = R1 ∧ tj.1 = j ∧ ((∀ c ∈ tr1, indep c tj = true) → ∃ o s, ops[j]? = some o ∧ stepA x ops e o = some s ∧ tj = (j, s.reads, s.ws.map (·.1)) ∧ runA x ops (e.puts s.ws) (R1 ++ R2) = some (ef, tr1 ++ tr2))
  | [], e, ef, tr, h => by
    obtain ⟨o, s, tr', ho, hs, hr, rfl⟩ := runA_cons h
    exact ⟨[], _, tr', rfl, rfl, rfl, fun _ => ⟨o, s, ho, hs, rfl, hr⟩⟩
  | i :: R1, e, ef, tr, h => by
    obtain ⟨oi, si, tr', hoi, hsi, hr, rfl⟩ := runA_cons h
    obtain ⟨tr1, tj, tr2, rfl, h1, h2, h3⟩ := bubble hr
    refine ⟨_ :: tr1, tj, tr2, rfl, by simp [h1], h2, fun hc => ?_⟩
    obtain ⟨o, s, ho, hs, hsj, hr'⟩ := h3 fun c hc' => hc c (by simp [hc'])
    have hin := hc _ (List.mem_cons_self ..)
    rw [hsj] at hin
    obtain ⟨q1, q2, q3⟩ := swap hsi hs hin
    refine ⟨o, s, ho, q1, hsj, ?_⟩
    simp only [List.cons_append, runA, hoi, q2]
    rw [q3, hr']

theorem ordered_split {b : List Nat} : ∀ {tr1 : Trace} {tj : Nat × List Nat × List Nat} {tr2 : Trace}, ordered b (tr1 ++ tj :: tr2) = true → ordered b (tr1 ++ tr2) = true ∧ ∀ c ∈ tr1, comesBefore b c.1 tj.1 = true ∨ indep c tj = true
  | [], tj, tr2, h => by
    simp only [List.nil_append, ordered, Bool.and_eq_true] at h
    exact ⟨h.2, by simp⟩
  | c :: tr1, tj, tr2, h => by
    simp only [List.cons_append, ordered, Bool.and_eq_true, List.all_eq_true, Bool.or_eq_true] at h ⊢
    obtain ⟨h1, h2⟩ := h
    obtain ⟨g1, g2⟩ := ordered_split h2
    refine ⟨⟨fun d hd => h1 d ?_, g1⟩, fun d hd => ?_⟩
    · simp only [List.mem_append, List.mem_cons] at hd ⊢
      rcases hd with hd | hd
      · exact .inl hd
      · exact .inr (.inr hd)
    · simp only [List.mem_cons] at hd
      rcases hd with rfl | hd
      · exact h1 tj (by simp)
      · exact g2 d hd

theorem befOne_bit {acc : List Nat} : ∀ {l : List Edge} {i : Nat}, (befOne acc l).testBit i = true → ∃ d ∈ l, Region.binds .any d = true ∧ (i = d.on ∨ (acc.getD d.on 0).testBit i = true)
  | [], i, h => by simp [befOne] at h
  | d :: r, i, h => by
    simp only [befOne] at h
    split at h
    · rename_i hb
      rw [Nat.testBit_or, Nat.testBit_or, Nat.testBit_two_pow] at h
      simp only [Bool.or_eq_true, decide_eq_true_eq] at h
      rcases h with (h | h) | h
      · exact ⟨d, by simp, hb, .inl h.symm⟩
      · exact ⟨d, by simp, hb, .inr h⟩
      · obtain ⟨d', h1, h2⟩ := befOne_bit h
        exact ⟨d', by simp [h1], h2⟩
    · obtain ⟨d', h1, h2⟩ := befOne_bit h
      exact ⟨d', by simp [h1], h2⟩

theorem befs_prefix : ∀ {l : List Oper} {acc : List Nat}, ∃ r, befs acc l = acc ++ r
  | [], acc => ⟨[], by simp [befs]⟩
  | o :: l, acc => by
    obtain ⟨r, h⟩ := befs_prefix (l := l) (acc := acc ++ [befOne acc o.after.toList])
    exact ⟨befOne acc o.after.toList :: r, by simp [befs, h]⟩

theorem befs_get : ∀ {l : List Oper} {acc : List Nat} {j : Nat} {o : Oper}, l[j]? = some o → (befs acc l).getD (acc.length + j) 0 = befOne ((befs acc l).take (acc.length + j)) o.after.toList
  | [], acc, j, o, h => by simp at h
  | o' :: l, acc, 0, o, h => by
    simp only [List.getElem?_cons_zero, Option.some.injEq] at h
    subst h
    obtain ⟨r, hr⟩ := befs_prefix (l := l) (acc := acc ++ [befOne acc o'.after.toList])
    simp only [befs, hr]
    simp [List.getD_eq_getElem?_getD]
  | o' :: l, acc, j + 1, o, h => by
    simp only [List.getElem?_cons_succ] at h
    have := befs_get (acc := acc ++ [befOne acc o'.after.toList]) h
    simp only [List.length_append, List.length_cons, List.length_nil] at this
    simp only [befs]
    rw [show acc.length + (j + 1) = acc.length + (0 + 1) + j by omega]
    exact this

theorem edgesBack_get : ∀ {l : List Oper} {m j : Nat} {o : Oper}, edgesBack m l = true → l[j]? = some o → ∀ d ∈ o.after.toList, d.on < m + j
  | [], m, j, o, _, h => by simp at h
  | o' :: l, m, 0, o, hb, h => by
    simp only [List.getElem?_cons_zero, Option.some.injEq] at h
    subst h
    simp only [edgesBack, Bool.and_eq_true, List.all_eq_true, decide_eq_true_eq] at hb
    exact fun d hd => by have := hb.1 d hd; omega
  | o' :: l, m, j + 1, o, hb, h => by
    simp only [List.getElem?_cons_succ] at h
    simp only [edgesBack, Bool.and_eq_true] at hb
    intro d hd
    have := edgesBack_get hb.2 h d hd
    omega

theorem any_sound {P : Program} {x : Ctx} (hx : CtxOk P x) (hlen : x.n ≤ 1000000) {ops : Array Oper} (hback : edgesBack 0 ops.toList = true) (Q : Exit → Act → World → Prop) :
    ∀ (fuel : Nat) {listed : Array Bool} {R : List Nat} {e ef : Env} {tr : Trace} {a : Act} {w : World} {G : Gh}, listed.size = ops.size →
    (∀ i, i ∈ R ↔ i < ops.size ∧ listed.getD i true = false) → R.Pairwise (· < ·) → R.length ≤ fuel →
    (∀ i j, comesBefore (befs [] ops.toList) i j = true → j < ops.size → listed.getD j true = true → listed.getD i false = true) →
    runA x ops e R = some (ef, tr) → ordered (befs [] ops.toList) tr = true → Inv x.n e a.tmps w G → (∀ a' w' G', Post x.n ef a w G a' w' G' → Q .normal a' w') → wpAny P .any ops Q fuel listed a w := by
  intro fuel
  have mem_ready : ∀ (listed : Array Bool) j, j ∈ Region.ready .any ops listed ↔ j < ops.size ∧ listed.getD j true = false ∧ ∃ o, ops[j]? = some o ∧ ∀ d ∈ o.after.toList, Region.binds .any d = true → listed.getD d.on false = true := by
    intro listed j
    simp only [Region.ready, List.mem_filter, List.mem_range, Bool.and_eq_true, Bool.not_eq_true']
    constructor
    · rintro ⟨h1, h2, h3⟩
      refine ⟨h1, h2, ?_⟩
      cases ho : ops[j]? with
      | none => rw [ho] at h3; simp at h3
      | some o =>
        rw [ho] at h3
        simp only [Option.map_some, Option.getD_some, Array.all_eq_true_iff_forall_mem, Bool.or_eq_true, Bool.not_eq_true'] at h3
        refine ⟨o, rfl, fun d hd hb => ?_⟩
        have := h3 d (by simpa using hd)
        rcases this with q | q
        · rw [hb] at q; simp at q
        · exact q
    · rintro ⟨h1, h2, o, ho, h3⟩
      refine ⟨h1, h2, ?_⟩
      rw [ho]
      simp only [Option.map_some, Option.getD_some, Array.all_eq_true_iff_forall_mem, Bool.or_eq_true, Bool.not_eq_true']
      intro d hd
      cases hb : Region.binds .any d with
      | false => exact .inl rfl
      | true => exact .inr (h3 d (by simpa using hd) hb)
  induction fuel with
  | zero =>
    intro listed R e ef tr a w G hs hR hp hf hcl hr ho hi hq
    have : R = [] := List.eq_nil_of_length_eq_zero (by omega)
    subst this
    simp only [runA, Option.some.injEq, Prod.mk.injEq] at hr
    obtain ⟨rfl, _⟩ := hr
    refine ⟨?_, hq _ _ _ (Post.refl hi)⟩
    refine List.eq_nil_iff_forall_not_mem.2 fun j hj => ?_
    obtain ⟨h1, h2, _⟩ := (mem_ready listed j).1 hj
    have := (hR j).2 ⟨h1, h2⟩
    simp at this
  | succ fuel ih =>
    intro listed R e ef tr a w G hs hR hp hf hcl hr ho hi hq
    refine ⟨fun hnil => ?_, fun j hj => ?_⟩
    · cases R with
      | nil =>
        simp only [runA, Option.some.injEq, Prod.mk.injEq] at hr
        obtain ⟨rfl, _⟩ := hr
        exact hq _ _ _ (Post.refl hi)
      | cons j R =>
        exfalso
        obtain ⟨h1, h2⟩ := (hR j).1 (by simp)
        obtain ⟨o, hoj⟩ : ∃ o, ops[j]? = some o := ⟨ops[j], by simp [h1]⟩
        have hmem : j ∈ Region.ready .any ops listed := by
          refine (mem_ready listed j).2 ⟨h1, h2, o, hoj, fun d hd hb => ?_⟩
          have hlt := edgesBack_get (o := o) (j := j) hback (by simpa using hoj) d hd
          have hon : d.on < ops.size := by omega
          cases hl : listed.getD d.on true with
          | false =>
            have := (hR d.on).2 ⟨hon, hl⟩
            simp only [List.mem_cons] at this
            rcases this with q | q
            · omega
            · have := (List.pairwise_cons.1 hp).1 d.on q
              omega
          | true =>
            have hsz : d.on < listed.size := by omega
            simp only [Array.getD, hsz, dite_true] at hl ⊢
            exact hl
        rw [hnil] at hmem
        simp at hmem
    · obtain ⟨h1, h2, oj, hoj, h3⟩ := (mem_ready listed j).1 hj
      have hjR : j ∈ R := (hR j).2 ⟨h1, h2⟩
      obtain ⟨R1, R2, rfl⟩ := List.append_of_mem hjR
      have hbef : ∀ i, comesBefore (befs [] ops.toList) i j = true → listed.getD i false = true := by
        intro i hc
        simp only [comesBefore] at hc
        have hg := befs_get (acc := []) (l := ops.toList) (j := j) (o := oj) (by simpa using hoj)
        simp only [List.length_nil, Nat.zero_add] at hg
        rw [hg] at hc
        obtain ⟨d, hd, hb, hc⟩ := befOne_bit hc
        have hld := h3 d hd hb
        rcases hc with rfl | hc
        · exact hld
        · have hlt := edgesBack_get (o := oj) (j := j) hback (by simpa using hoj) d hd
          have hon : d.on < ops.size := by omega
          refine hcl i d.on ?_ hon ?_
          · simp only [comesBefore]
            rw [List.getD_eq_getElem?_getD, List.getElem?_take] at hc
            split at hc
            · rw [List.getD_eq_getElem?_getD]; exact hc
            · simp at hc
          · have hsz : d.on < listed.size := by omega
            simp only [Array.getD, hsz, dite_true] at hld ⊢
            exact hld
      obtain ⟨tr1, tj, tr2, rfl, g1, g2, g3⟩ := bubble hr
      obtain ⟨q1, q2⟩ := ordered_split ho
      obtain ⟨o, s, ho', hs', _, hr'⟩ := g3 fun c hc => by
        rcases q2 c hc with q | q
        · exfalso
          rw [g2] at q
          have hl := hbef _ q
          have hcR : c.1 ∈ R1 := by rw [← g1]; exact List.mem_map.2 ⟨c, hc, rfl⟩
          obtain ⟨k1, k2⟩ := (hR c.1).1 (by simp [hcR])
          have hsz : c.1 < listed.size := by omega
          simp only [Array.getD, hsz, dite_true] at hl k2
          rw [hl] at k2
          simp at k2
        · exact q
      refine stepA_sound hx hlen ho' hi hs' _ _ fun a1 w1 G1 hp1 => ?_
      have hnd : ∀ i, i ∈ R1 ++ R2 ↔ i ∈ R1 ++ j :: R2 ∧ i ≠ j := by
        intro i
        have hpw := List.pairwise_append.1 hp
        constructor
        · intro hi'
          refine ⟨by simp only [List.mem_append, List.mem_cons] at hi' ⊢; rcases hi' with q | q; exact .inl q; exact .inr (.inr q), ?_⟩
          rintro rfl
          simp only [List.mem_append] at hi'
          rcases hi' with q | q
          · have := hpw.2.2 i q i (by simp); omega
          · have := (List.pairwise_cons.1 hpw.2.1).1 i q; omega
        · rintro ⟨hi', hne⟩
          simp only [List.mem_append, List.mem_cons] at hi' ⊢
          rcases hi' with q | q | q
          · exact .inl q
          · exact absurd q hne
          · exact .inr q
      have hset : ∀ i d, (listed.setIfInBounds j true).getD i d = if i = j then true else listed.getD i d := by
        intro i d
        have hjs : j < listed.size := by omega
        by_cases q : i = j
        · subst q; simp [Array.getD, hjs]
        · rw [if_neg q]
          by_cases hsz : i < listed.size
          · simp [Array.getD, hsz, Array.getElem_setIfInBounds, Ne.symm q]
          · simp [Array.getD, hsz]
      refine ih (by simpa using hs) (fun i => ?_) ?_ ?_ ?_ hr' q1 hp1.inv fun a2 w2 G2 hp2 => hq _ _ _ (hp1.trans hp2 (runA_length hr').symm)
      · rw [hnd, hR, hset]
        by_cases q : i = j
        · simp [q]
        · simp [q]
      · refine hp.sublist ?_
        exact List.Sublist.append (List.Sublist.refl _) (List.sublist_cons_self _ _)
      · simp only [List.length_append, List.length_cons] at hf ⊢
        omega
      · intro i k hc hk hl
        rw [hset] at hl ⊢
        by_cases q : i = j
        · rw [if_pos q]
        · rw [if_neg q]
          by_cases q' : k = j
          · subst q'
            exact hbef i hc
          · rw [if_neg q'] at hl
            exact hcl i k hc hk hl

/-- Only the memory counts. -/
theorem Inv.heap {n : Nat} {e : Env} {tm : Array Value} {w w' : World} {G : Gh} (h : Inv n e tm w G) (hh : w'.heap = w.heap) : Inv n e tm w' G :=
  ⟨h.size, h.elen, fun s => (h.slot s).frame rfl (fun _ => rfl) rfl (fun _ => rfl) rfl (fun t => TM.refl rfl (fun _ => rfl) rfl) (fun b q1 q2 => ⟨by rw [hh], q1⟩) (fun b hb => ⟨by rw [hh], (h.slot s).own b hb⟩),
    fun b s q => by rw [hh]; exact h.lt b s q⟩

/-- A region stands for the model's. -/
theorem region_sound {P : Program} {x : Ctx} (hx : CtxOk P x) (hlen : x.n ≤ 1000000) (hm : P.follows .mixedOrders = true) {id : Nat} {ops : Array Oper} {draw : Bool} {e e' : Env} {a : Act} {w : World} {G : Gh} (hi : Inv x.n e a.tmps w G)
    (h : region x ops draw e = some e') (Q : Exit → Act → World → Prop) (hq : ∀ a' w' G', Post x.n e' a w G a' w' G' → Q .normal a' w') : (Code.region id ops draw).wp P Q a w := by
  simp only [region] at h
  split at h
  · simp at h
  · rename_i e1 tr hr
    split at h
    · rename_i hc
      simp only [Option.some.injEq] at h
      subst h
      cases draw with
      | false => exact wp_region (runA_sound hx hlen hi hr Q hq)
      | true =>
        simp only [Bool.not_true, Bool.false_or, Bool.and_eq_true] at hc
        refine wp_region_any hm ?_
        have hi' : Inv x.n e a.tmps { w with drawn := w.drawn + 1 } G := hi.heap rfl
        refine any_sound hx hlen hc.1 Q ops.size (R := List.range ops.size) (by simp) (fun i => ?_) List.pairwise_lt_range (by simp) ?_ hr hc.2 hi' fun a' w' G' hp => hq _ _ _ ⟨hp.inv, ⟨hp.held.still, hp.held.vs, hp.held.out⟩, hp.grows, hp.defers, ⟨hp.env.os, hp.env.tape, hp.env.output⟩⟩
        · simp only [List.mem_range]
          constructor
          · intro h; exact ⟨h, by simp [Array.getD, h]⟩
          · exact fun h => h.1
        · intro i j hb hj hl
          simp [Array.getD, hj] at hl
    · simp at h

end Go.Mach
