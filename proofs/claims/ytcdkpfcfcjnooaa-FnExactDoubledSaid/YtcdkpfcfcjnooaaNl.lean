/- The machine, part nl: calls are sound where nothing is lent; functions by their runs. No condition: lemmas. -/
import Derived.Test.YtcdkpfcfcjnooaaNk
namespace Go.Mach
set_option linter.unusedVariables false
set_option linter.unusedSimpArgs false

theorem run_call {P : Program} {ρ : Operand → Value} {o : Oper} {c0 : Call} {f : Operand} (ho : o.op = .call c0) (hcf : c0.callee = .value f) {g : Nat} {caps : Array Value} (hf : ρ f = .func (.func g) #[] caps) {fn : Func}
    (hfn : P.funcs[g]? = some fn) (hb : fn.body.isNone = false) (hname : (fn.name == "runtime.NumGoroutine") = false) (w : World) : (execOp ρ o).run P w = .ok (.enter g (c0.args.map ρ ++ caps)) w := by
  have h1 : fn.name ≠ "runtime.NumGoroutine" := by simpa using hname
  have h2 : fn.body ≠ none := fun q => by rw [q] at hb; simp at hb
  simp only [execOp, ho, resolve, hcf, hf, Deferred.ofValue, invoke, callFunc, program]
  simp [Sem.run_bind, Sem.run, hfn, h1, h2]

theorem snap_sees {get : Nat → Slot} {e : Env} (hs : Sees get e) {c c' : C} (h : snap get c = some c') : ∀ s ∈ c.targets, get s = e.get s := by
  intro s hm
  rcases hs s with q | q
  · exact q
  · exfalso
    cases c with
    | ref s' j rv sv p lo hi k =>
      simp only [C.targets, List.mem_singleton] at hm
      subst hm
      simp [snap, content, q] at h
    | bptr s' bv j =>
      simp only [C.targets, List.mem_singleton] at hm
      subst hm
      simp [snap, q] at h
    | aptr s' j rv sv p i c k => simp [snap] at h
    | fn f caps => simp [snap] at h
    | _ => simp [C.targets] at hm

theorem sees_sent {t : Tr} {e : Env} (hs : Sees t.at e) : ∀ {cs cs' : List C}, sendCs t [] cs = some cs' → ∀ c ∈ cs, ∀ s ∈ readCell [] c, t.at s = e.get s
  | [], cs', h, c, hc => by simp at hc
  | a :: r, cs', h, c, hc => by
    simp only [sendCs] at h
    split at h
    · rename_i c1 r1 h1 h2
      simp only [List.mem_cons] at hc
      rcases hc with rfl | hc
      · intro s hm
        cases c with
        | fn f caps =>
          simp only [sendC] at h1
          cases hq : sendCaps t [] caps with
          | none => rw [hq] at h1; simp at h1
          | some caps' =>
            rw [readCell_nil] at hm
            simp only [List.mem_flatMap] at hm
            obtain ⟨c, k1, k2⟩ := hm
            obtain ⟨g1, g2⟩ := sendCaps_get hq
            obtain ⟨i, hi⟩ := List.getElem?_of_mem k1
            have hil : i < caps'.length := by rw [g1]; exact (List.getElem?_eq_some_iff.1 hi).1
            refine snap_sees hs (g2 i c _ hi (List.getElem?_eq_getElem hil)) s ?_
            cases c <;> first | exact k2 | simpa [C.targets] using k2
        | _ => exact snap_sees (get := t.at) hs (by simpa only [sendC] using h1) s (by simpa only [readCell] using hm)
      · exact sees_sent hs h2 c hc
    · simp at h

theorem opds_args {n : Nat} {e : Env} {a : Act} {w : World} {G : Gh} {get : Nat → Slot} (hinv : Inv n e a.tmps w G) (hs : Sees get e) : ∀ {ys : List Operand} {vs : List Val}, (∀ y ∈ ys, ∀ t, y = .tmp t → t < n) → opds get ys = some vs → ArgsOk e w G vs (ys.map a.eval)
  | [], vs, _, h => by
    rw [opds_nil h]
    exact ⟨rfl, fun i v u q => by simp at q⟩
  | y :: r, vs, hb, h => by
    obtain ⟨v, vs', rfl, h1, h2⟩ := opds_cons h
    obtain ⟨g1, g2⟩ := opds_args hinv hs (fun y hy => hb y (by simp [hy])) h2
    refine ⟨by simpa using g1, fun i v0 u0 q1 q2 => ?_⟩
    cases i with
    | zero =>
      simp only [List.map_cons, List.getElem?_cons_zero, Option.some.injEq] at q1 q2
      subst q1 q2
      exact opd_ok hinv hs (hb y (by simp)) h1
    | succ i => exact g2 i v0 u0 (by simpa using q1) (by simpa using q2)

theorem caps_args {e : Env} {w : World} {G : Gh} {caps : List C} {us : List Value} {Ls : Nat → LT} (hl : us.length = caps.length)
    (h : ∀ (i : Nat) c u, caps[i]? = some c → us[i]? = some u → c.isFn = false ∧ c.isOwn = false ∧ CellOk0 e w G c u (Ls i)) : ArgsOk e w G (caps.map fun c => (.one, [c])) us := by
  refine ⟨by simpa using hl, fun i v u hv hu => ?_⟩
  simp only [List.getElem?_map] at hv
  cases hc : caps[i]? with
  | none => rw [hc] at hv; simp at hv
  | some c =>
    rw [hc] at hv
    simp only [Option.map_some, Option.some.injEq] at hv
    subst hv
    obtain ⟨h1, h2, h3⟩ := h i c u hc hu
    refine ⟨[u], fun _ => Ls i, ⟨⟨rfl, fun j c' u' a b => ?_⟩, rfl, by simpa using h2, by simp, by simp⟩⟩
    cases j with
    | zero =>
      simp only [List.getElem?_cons_zero, Option.some.injEq] at a b
      subst a b
      cases c <;> first | exact h3 | simp [C.isFn] at h1
    | succ j => simp at a

theorem ArgsOk.append {e : Env} {w : World} {G : Gh} {a b : List Val} {us ws : List Value} (h : ArgsOk e w G a us) (h' : ArgsOk e w G b ws) : ArgsOk e w G (a ++ b) (us ++ ws) := by
  refine ⟨by simp [h.1, h'.1], fun i v u hv hu => ?_⟩
  by_cases hi : i < a.length
  · rw [List.getElem?_append_left hi] at hv
    rw [List.getElem?_append_left (by rw [h.1]; exact hi)] at hu
    exact h.2 i v u hv hu
  · rw [List.getElem?_append_right (by omega)] at hv
    rw [List.getElem?_append_right (by rw [h.1]; omega), h.1] at hu
    exact h'.2 _ v u hv hu

theorem call_sound {P : Program} {x : Ctx} {bk : Book} (hover : Over x bk) (hbk : BookOk P bk) (hmd : ∀ f, bk.md f = []) {e : Env} {a : Act} {w : World} {G : Gh} {get : Nat → Slot} {o : Oper} {c0 : Call} {f : Operand} {g : Nat} {caps : List C} {vs : List Val} {t2 : Tr}
    (hb : Begin x.n e a w G get o) (ho : o.op = .call c0) (hcf : c0.callee = .value f) (hf : opd get f = some (.one, [.fn g caps])) (hvs : opds get c0.args.toList = some vs)
    (hc : callC x { get, d := o.dst } o.dst g (vs ++ caps.map fun c => (.one, [c])) = some t2) : Sound P x.n e a w G o t2.ws := by
  obtain ⟨Lf, hfn, _⟩ := hb.one (by simp [ho, Op.operands, Call.operands, hcf]) hf
  obtain ⟨ucaps, Lcaps, hfv, hcl, hcc⟩ := hfn
  have hargs : ArgsOk e w G (vs ++ caps.map fun c => (.one, [c])) (c0.args.toList.map a.eval ++ ucaps) :=
    (opds_args hb.inv hb.sees (fun y hy => hb.inb.opd (by
      have : y ∈ c0.args := by simpa using hy
      simp [ho, Op.operands, Call.operands, hcf, this])) hvs).append (caps_args hcl hcc)
  generalize hA : (vs ++ caps.map fun c => ((.one, [c]) : Val)) = args at hargs hc
  generalize hU : c0.args.toList.map a.eval ++ ucaps = us at hargs
  -- what is sent
  have hmdx : x.md g = [] := by rw [hover.md]; exact hmd g
  simp only [callC, hmdx, lentBoxes_nil] at hc
  cases hsend : send { get, d := o.dst } [] [] 0 args with
  | none => rw [hsend] at hc; simp at hc
  | some q =>
    rw [hsend] at hc
    obtain ⟨s1, s2, s3⟩ := send_nil hsend
    simp only [s1, readTargets_nil] at hc
    split at hc
    · cases hsem : x.sem g q.vals with
      | none => rw [hsem] at hc; simp at hc
      | some r =>
        obtain ⟨⟨sh, cs⟩, os⟩ := r
        rw [hsem] at hc
        simp only at hc
        have hsem' := hsem
        rw [hover.sem, Book.sem, hmd g] at hsem'
        obtain ⟨t, ⟨hN, fn, hfn, hbody, hname, hrv, hcall⟩, htmd, d, bT, hdec, hT, hret⟩ := semD_ok hbk hsem'
        rw [htmd] at hdec hret hcall
        obtain ⟨dl, _⟩ := decA_ok hdec
        have hql : q.vals.length = t.args.length := dl
        have hlen : args.length = t.args.length := by rw [← s2, hql]
        let rt := args.flatMap fun v => v.2.flatMap (readCell [])
        let M := t.n + t.args.length
        -- the callee's start
        have hsees : Sees (Tr.at { get, d := o.dst }) e := fun s => hb.sees s
        obtain ⟨Gc, hi0, how0⟩ := start_inv hb.inv hsees hargs s2 s3 (N := t.n) (by omega) rt (fun v hv s hs => List.mem_flatMap.2 ⟨v, hv, hs⟩) M
        have hnr : ∀ v ∈ q.vals, ∀ c ∈ v.2, c.refAt = [] := by
          intro v hv
          obtain ⟨i, hi⟩ := List.getElem?_of_mem hv
          have hil : i < args.length := by rw [← s2]; exact (List.getElem?_eq_some_iff.1 hi).1
          obtain ⟨v0, hv0⟩ : ∃ v0, args[i]? = some v0 := ⟨_, List.getElem?_eq_getElem hil⟩
          exact sendCs_refAt (s3 i v0 v hv0 hi).2
        obtain ⟨Gc', hi1, hh1⟩ := gen_inv hi0 (decA_gen hdec (by omega) hnr) M
        have husl : us.length = t.args.length := by rw [hargs.1, hlen]
        -- what is read lies in range
        have hrt : ∀ s ∈ rt, s < e.length := by
          intro s hs
          simp only [rt, List.mem_flatMap] at hs
          obtain ⟨v, hv, c, hcv, hs⟩ := hs
          obtain ⟨i, hi⟩ := List.getElem?_of_mem hv
          have hil : i < us.length := by rw [hargs.1]; exact (List.getElem?_eq_some_iff.1 hi).1
          obtain ⟨vs', Ls', hval⟩ := hargs.2 i v _ hi (List.getElem?_eq_getElem hil)
          obtain ⟨j, hj⟩ := List.getElem?_of_mem hcv
          have hjl : j < vs'.length := by rw [hval.cells.len]; exact (List.getElem?_eq_some_iff.1 hj).1
          exact targets_lt (hval.cells.cell j c _ hj (List.getElem?_eq_getElem hjl)) s hs
        intro K Q hk
        unfold Oper.wp
        rw [run_call ho hcf hfv hfn hbody hname]
        rw [Oper.upon_enter]
        have hus : c0.args.map a.eval ++ ucaps.toArray = us.toArray := by
          rw [← hU]; simp
        rw [hus]
        refine (hcall d bT hT (by rw [hret]; rfl) us w Gc' husl hi1).mono ?_
        rintro en w1 ⟨tm1, G1, u1, rfl, hrun1, hi2, hh2, hsz, hle, henv⟩
        -- behind the call
        have hh := hh1.trans hh2
        obtain ⟨e2, G2, H, us', Ls, hr, _⟩ := ret_ok hrv hi2 hret
        have hM : (t.out.enc bT).length = M := hle
        have hheap : ∀ b : Nat, w.heap[b]? ≠ none → w1.heap[b]? = w.heap[b]? := by
          intro b hb'
          cases hg : Gc.ow b with
          | none => exact (hh.still b hg hb').1
          | some s' =>
            have : s' = M := by
              rw [how0] at hg
              simp only [owIn] at hg
              split at hg
              · simp at hg
              · split at hg <;> simp at hg
                exact hg.symm
            subst this
            exact (hh.out b M hg (Nat.le_refl _) hb').1
        have hHnew : ∀ b ∈ H, w.heap[b]? = none ∧ b < w1.heap.size := by
          intro b hbH
          obtain ⟨k1, k2, k3, k4⟩ := hr.hand.mem b hbH
          refine ⟨?_, k3⟩
          cases hw : w.heap[b]? with
          | none => rfl
          | some ob =>
            exfalso
            have hne : w.heap[b]? ≠ none := by rw [hw]; simp
            refine k4 fun s hs => ?_
            have hs1 := (hi2.slot s).own b hs
            have hsl : s < M := by
              rcases Nat.lt_or_ge s M with q | q
              · exact q
              · rw [get_out (by omega)] at hs; simp [fpS] at hs
            cases hg : Gc.ow b with
            | none =>
              have := (hh.still b hg hne).2
              rw [hs1] at this; simp at this
            | some s' =>
              have : s' = M := by
                rw [how0] at hg
                simp only [owIn] at hg
                split at hg
                · simp at hg
                · split at hg <;> simp at hg
                  exact hg.symm
              subst this
              have := (hh.out b M hg (Nat.le_refl _) hne).2
              rw [hs1] at this
              simp only [Option.some.injEq] at this
              omega
        let gv := cs.any C.aliases
        have hos : os = [] := by
          have := hret
          simp only [retOf] at this
          split at this
          · simp at this
          · split at this
            · rename_i h3
              rw [outsOf_nil] at h3
              simp only [Option.some.injEq, Prod.mk.injEq] at this h3
              rw [← this.2, ← h3]
            · simp at this
        subst hos
        simp only [List.any_nil, Bool.or_false] at hc
        -- the caller's slots
        obtain ⟨e3, t3, ht3, hl3, hd3, hget3, hback⟩ : ∃ e3 t3, TrOk e t3 e3 ∧ e3.length = e.length ∧ t3.d = o.dst ∧ (∀ s, e3.get s = if gv = true ∧ s ∈ rt then giveS (e.get s) else e.get s) ∧ t2 = t3.lay o.dst (sh, cs) := by
          have htr : TrOk e { get, d := o.dst } e := hb.tr
          cases hgv : gv with
          | false =>
            have hgv' : cs.any C.aliases = false := hgv
            rw [hgv'] at hc
            simp only [Bool.false_eq_true, if_false, back, Option.some.injEq] at hc
            exact ⟨e, _, htr, rfl, rfl, fun s => by simp, hc.symm⟩
          | true =>
            have hgv' : cs.any C.aliases = true := hgv
            rw [hgv'] at hc
            simp only [if_true, back, Option.some.injEq] at hc
            have hat : ∀ s ∈ rt, s < e.length ∧ Tr.at { get, d := o.dst } s = e.get s := by
              intro s hs
              refine ⟨hrt s hs, ?_⟩
              -- what is sent was seen
              simp only [rt, List.mem_flatMap] at hs
              obtain ⟨v, hv, c, hcv, hs⟩ := hs
              obtain ⟨i, hi⟩ := List.getElem?_of_mem hv
              have hil : i < q.vals.length := by rw [s2]; exact (List.getElem?_eq_some_iff.1 hi).1
              obtain ⟨_, hsv⟩ := s3 i v _ hi (List.getElem?_eq_getElem hil)
              exact sees_sent hsees hsv c hcv s hs
            obtain ⟨e', g1, g2, g3, g4⟩ := give_env (rt := rt) htr hat
            exact ⟨e', _, g1, g2, g3, fun s => by simpa using g4 s, hc.symm⟩
        obtain ⟨hi3, hh3⟩ := back_inv hb.inv (w1 := w1) (H := H) (rt := rt) (gv := gv) hl3 hget3 hsz hrt hheap hHnew
        have hG2 : ∀ b, G2.ow b = none → (gv = true ∨ ∀ s, G.ow b = some s → s ∉ rt) → owOut G H rt gv e.length b = none ∧ b ∉ H := by
          intro b h2 hgv
          have hbH : b ∉ H := fun hm => (hr.hand.mem b hm).2.1 h2
          refine ⟨?_, hbH⟩
          simp only [owOut, if_neg hbH]
          cases hg : G.ow b with
          | none => rfl
          | some s =>
            simp only
            by_cases hsr : s ∈ rt
            · rcases hgv with hgv | hgv
              · rw [if_pos]; simp [hgv, hsr]
              · exact absurd hsr (hgv s hg)
            · exfalso
              have hne : w.heap[b]? ≠ none := by
                have := hb.inv.lt b s hg
                simp [this]
              have hgc : Gc.ow b = some M := by rw [how0]; exact owIn_out hg hsr
              have h1 := (hh.out b M hgc (Nat.le_refl _) hne).2
              have hloose : Loose (t.out.enc bT) G1 b := hi2.beyond h1 (by omega)
              have := (hr.ext.loose b hloose (by rw [h1]; simp)).2
              rw [h2, h1] at this
              simp at this
        have hcell : ∀ (j : Nat) c u, cs[j]? = some c → us'[j]? = some u → NewOk e3 w1 { G with ow := owOut G H rt gv e.length } w1 H c u (Ls j) := by
          intro j c u hcj huj
          have hres := hr.cell j c u hcj huj
          have hal : c.aliases = true → gv = true := fun q => List.any_eq_true.2 ⟨c, List.mem_of_getElem? hcj, q⟩
          cases c with
          | dat k y =>
            obtain ⟨r1, r2⟩ := hres
            refine ⟨r1, fun b hb' => ?_⟩
            refine (hG2 b (r2 b hb') ?_).1
            left
            refine hal ?_
            simp only [C.aliases]
            cases hfl : k.flat with
            | false => rfl
            | true => rw [fp_flat hfl] at hb'; simp at hb'
          | nil => exact hres
          | own rv sv d k l =>
            obtain ⟨r1, r2⟩ := hres
            refine ⟨r1, fun hd b hb' => ?_⟩
            refine hG2 b (r2 hd b hb') ?_
            left
            refine hal ?_
            simp only [C.aliases, hd, Bool.not_false, Bool.true_and]
            cases hfl : k.flat with
            | false => rfl
            | true =>
              exfalso
              cases hL : Ls j with
              | node b0 off cap rows =>
                rw [hL] at hb'
                simp only [inner, List.mem_flatMap] at hb'
                obtain ⟨r', _, hb'⟩ := hb'
                rw [fp_flat hfl] at hb'
                simp at hb'
              | _ => rw [hL] at hb'; simp [inner] at hb'
          | fn f' caps' =>
            cases caps' with
            | nil =>
              have hu : u = .func (.func f') #[] #[] := hres
              exact ⟨[], fun _ => .leaf, by rw [hu], rfl, fun i c u q => by simp at q⟩
            | cons _ _ => exact hres.elim
          | _ => exact hres.elim
        have hloose : ∀ b ∈ H, Loose e3 { G with ow := owOut G H rt gv e.length } b ∧ owOut G H rt gv e.length b ≠ none ∧ b < w1.heap.size ∧ w.heap[b]? = none := by
          intro b hbH
          have hob : owOut G H rt gv e.length b = some e.length := by simp [owOut, hbH]
          exact ⟨hi3.beyond (G := { G with ow := owOut G H rt gv e.length }) hob (by omega), by rw [hob]; simp, (hHnew b hbH).2, (hHnew b hbH).1⟩
        obtain ⟨G', hp⟩ := lay_res (v := (sh, cs)) hi3 ht3 hh3 hloose hr.len hcell hr.fp hr.hand.nodup hr.alive hr.nobox hsz (fun b _ q hm => q (hHnew b hm).1) (fun d' hd' => hb.inb.dst d' (by rw [← hd3]; exact hd')) henv
        rw [hd3, ← hback] at hp
        have hres : u1 = form sh us' := by
          have := hrun1.symm.trans hr.res
          simpa using this
        simp only at hp
        rw [← hres] at hp
        exact hk _ _ _ hp
    · simp at hc

/-! ### Functions by their runs -/
/-- The machine's book for a function. -/
def ctxOf (P : Program) (fn : Func) (bk : Book) : Ctx :=
  { n := fn.ntmps, ty := tyOf P, vars := (match fn.body with | some c => List.range (fn.params.size + fn.nfree) ++ codeVars c ++ (List.range (fn.params.size + fn.nfree)).map (fn.ntmps + ·) | none => []), md := bk.md, sem := bk.sem }

/-- Nothing is lent to any of the book. -/
def Book.plain (bk : Book) : Bool := bk.all fun q => q.2.md.isEmpty

theorem Book.plain_md {bk : Book} (h : bk.plain = true) : ∀ f, bk.md f = [] := by
  intro f
  induction bk with
  | nil => rfl
  | cons q r ih =>
    obtain ⟨g, t⟩ := q
    simp only [Book.plain, List.all_cons, Bool.and_eq_true] at h
    simp only [Book.md]
    split
    · simpa using h.1
    · exact ih h.2

theorem ctxOf_ok {P : Program} {fn : Func} {bk : Book} (hbk : BookOk P bk) (hp : bk.plain = true)
    (hagg : ∀ {e : Env} {a : Act} {w : World} {G : Gh} {get : Nat → Slot} {o : Oper} {op : BinOp} {ty yt : TypeId} {y z : Operand} {cs ds : List C} {ws : Writes},
      Begin fn.ntmps e a w G get o → o.op = .binOp op ty y z yt → opd get y = some (.agg, cs) → opd get z = some (.agg, ds) → act (ctxOf P fn bk) get o = some ws → Sound P fn.ntmps e a w G o ws) : CtxOk P (ctxOf P fn bk) :=
  ⟨fun _ => rfl, fun hb ho hcf hf hvs hc => call_sound ⟨rfl, rfl⟩ hbk (Book.plain_md hp) hb ho hcf hf hvs hc, fun hb ho h1 h2 h => hagg hb ho h1 h2 h⟩

def finK {n : Nat} (out : EP) : Ex → Env → Option out.T
  | .exit _, _ => none
  | _, e => out.dec n e

theorem fnOk_of_run {P : Program} {f : Nat} {fn : Func} {c : Code} {bk : Book} {tb : Tab} {t : FEnt} (hx : CtxOk P (ctxOf P fn bk)) (hf : P.funcs[f]? = some fn) (hb : fn.body = some c) (hn : fn.ntmps = t.n)
    (hres : rvsB P fn.results.toList t.results = true) (hargs : t.args.length ≤ t.n) (hmd : t.md = []) (hsz : t.n ≤ 1000000) (hname : (fn.name == "runtime.NumGoroutine") = false)
    (hm : P.follows .mixedOrders = true) (hnodes : Nodes (ctxOf P fn bk) bk tb c tb)
    (hrun : ∀ d, runD (ctxOf P fn bk) bk tb 1 c (startE t.n t.md (encA t.args d)) (finK (n := t.n) t.out) = t.T d) : FnOk P f t := by
  refine ⟨hargs, fn, hf, by rw [hb]; rfl, hname, hres, fun d b hT hret us w G hus hi => ?_⟩
  have hctxn : (ctxOf P fn bk).n = t.n := hn
  refine calls_of_wp hf hb ?_
  rw [hn, hmd] at *
  have hsl := (startE_get (n := t.n) (vals := encA t.args d) 0 (by rw [encA_length]; exact hargs)).1
  rw [encA_length] at hsl
  have hr := (runD_both hx ⟨rfl, rfl⟩ (by rw [hctxn]; exact hsz) hm hnodes c 1 (Nat.le_refl _) rfl).1 _ _ _ b ((hrun d).trans hT)
    { tmps := us.toArray ++ Array.replicate (t.n - us.length) undef, defers := [] } w G (by rw [hctxn]; exact hi)
  have hsub : sub c 1 = c := rfl
  refine hr _ fun ex e' a' w' G' hK hl hp => ?_
  have hend : ∀ ex', t.out.dec t.n e' = some b → (ex' = Exit.normal ∨ ex' = Exit.ret) → bodyPost P fn (fun en w' => ∃ tm1 G1 u, en = .returned u ∧ (results fn tm1).run P w' = .ok u w' ∧ Inv t.n (t.out.enc b) tm1 w' G1 ∧ Held t.n (t.n + t.args.length) w w' G G1 ∧ w.heap.size ≤ w'.heap.size ∧ (t.out.enc b).length = t.n + t.args.length ∧ SameEnv w w') ex' a' w' := by
    intro ex' hd hex
    have hinv := hp.inv
    rw [hctxn] at hinv
    obtain ⟨l1, G2, hi2, hh2⟩ := EP.dec_ok hd hinv e'.length (Nat.le_refl _)
    have hheld := hp.held
    rw [hctxn] at hheld
    have hl' : e'.length = t.n + t.args.length := by rw [hl, hsl]
    have hq : a'.defers = [] ∧ ∃ v, (results fn a'.tmps).run P w' = .ok v w' ∧ (fun en w' => ∃ tm1 G1 u, en = Ending.returned u ∧ (results fn tm1).run P w' = .ok u w' ∧ Inv t.n (t.out.enc b) tm1 w' G1 ∧ Held t.n (t.n + t.args.length) w w' G G1 ∧ w.heap.size ≤ w'.heap.size ∧ (t.out.enc b).length = t.n + t.args.length ∧ SameEnv w w') (.returned v) w' := by
      obtain ⟨⟨⟨sh0, cs0⟩, os0⟩, hr0⟩ := Option.isSome_iff_exists.1 hret
      obtain ⟨_, _, _, us0, _, hr1, _⟩ := ret_ok hres hi2 hr0
      refine ⟨hp.defers, _, hr1.res, a'.tmps, G2, _, rfl, hr1.res, hi2, ?_, hp.grows, by rw [l1, hl'], hp.env⟩
      have := hheld.trans hh2
      rw [hl'] at this
      exact this
    rcases hex with rfl | rfl
    · exact hq
    · exact hq
  cases ex with
  | normal => exact hend .normal hK (.inl rfl)
  | ret => exact hend .ret hK (.inr rfl)
  | exit id => simp [finK] at hK

end Go.Mach
