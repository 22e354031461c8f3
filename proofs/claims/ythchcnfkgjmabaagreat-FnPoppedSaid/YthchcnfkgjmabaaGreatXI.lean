/- The machine, parts Nl Nm Nn No Np Nz. No condition: definitions and lemmas. -/
import Derived.Test.YthchcnfkgjmabaaGreatXH
import Derived.Laws.StructEq
import Derived.WalkKit
import Derived.ProofKit
import Derived.ChangeOld
import Derived.Below
import Derived.SizedLaws
/- The machine, part nl: calls are sound; functions by their runs. No condition: lemmas. -/
namespace Go.Mach
set_option linter.unusedVariables false
set_option linter.unusedSimpArgs false

theorem run_call {P : Program} {ρ : Operand → Value} {o : Oper} {c0 : Call} {f : Operand} (ho : o.op = .call c0) (hcf : c0.callee = .value f) {g : Nat} {caps : Array Value} (hf : ρ f = .func (.func g) #[] caps) {fn : Func}
    (hfn : P.funcs[g]? = some fn) (hb : fn.body.isNone = false) (hname : (fn.name == "runtime.NumGoroutine") = false) (w : World) : (execOp ρ o).run P w = .ok (.enter g (c0.args.map ρ ++ caps)) w := by
  have h1 : fn.name ≠ "runtime.NumGoroutine" := by simpa using hname
  have h2 : fn.body ≠ none := fun q => by rw [q] at hb; simp at hb
  simp only [execOp, ho, resolve, hcf, hf, Deferred.ofValue, invoke, callFunc, program]
  simp [Sem.run_bind, Sem.run, hfn, h1, h2]

theorem snap_sees {get : Nat → Slot} {e : Env} (hs : Sees get e) {c c' : C} (h : snap get c = some c') : ∀ s ∈ c.targets, get s = e.get s := by
  intro s hm
  rcases hs s with q | q
  · exact q
  · exfalso
    cases c with
    | ref s' j rv sv p lo hi k =>
      simp only [C.targets, List.mem_singleton] at hm
      subst hm
      simp [snap, content, q] at h
    | bptr s' bv j =>
      simp only [C.targets, List.mem_singleton] at hm
      subst hm
      simp [snap, q] at h
    | aptr s' j rv sv p i c k => simp [snap] at h
    | fn f caps => simp [snap] at h
    | _ => simp [C.targets] at hm

theorem sees_sent {t : Tr} {e : Env} (hs : Sees t.at e) : ∀ {cs cs' : List C}, sendCs t [] cs = some cs' → ∀ c ∈ cs, ∀ s ∈ readCell [] c, t.at s = e.get s
  | [], cs', h, c, hc => by simp at hc
  | a :: r, cs', h, c, hc => by
    simp only [sendCs] at h
    split at h
    · rename_i c1 r1 h1 h2
      simp only [List.mem_cons] at hc
      rcases hc with rfl | hc
      · intro s hm
        cases c with
        | fn f caps =>
          simp only [sendC] at h1
          cases hq : sendCaps t [] caps with
          | none => rw [hq] at h1; simp at h1
          | some caps' =>
            rw [readCell_nil] at hm
            simp only [List.mem_flatMap] at hm
            obtain ⟨c, k1, k2⟩ := hm
            obtain ⟨g1, g2⟩ := sendCaps_get hq
            obtain ⟨i, hi⟩ := List.getElem?_of_mem k1
            have hil : i < caps'.length := by rw [g1]; exact (List.getElem?_eq_some_iff.1 hi).1
            refine snap_sees hs (g2 i c _ hi (List.getElem?_eq_getElem hil)) s ?_
            cases c <;> first | exact k2 | simpa [C.targets] using k2
        | _ => exact snap_sees (get := t.at) hs (by simpa only [sendC] using h1) s (by simpa only [readCell] using hm)
      · exact sees_sent hs h2 c hc
    · simp at h

theorem opds_args {n : Nat} {e : Env} {a : Act} {w : World} {G : Gh} {get : Nat → Slot} (hinv : Inv n e a.tmps w G) (hs : Sees get e) : ∀ {ys : List Operand} {vs : List Val}, (∀ y ∈ ys, ∀ t, y = .tmp t → t < n) → opds get ys = some vs → ArgsOk e w G vs (ys.map a.eval)
  | [], vs, _, h => by
    rw [opds_nil h]
    exact ⟨rfl, fun i v u q => by simp at q⟩
  | y :: r, vs, hb, h => by
    obtain ⟨v, vs', rfl, h1, h2⟩ := opds_cons h
    obtain ⟨g1, g2⟩ := opds_args hinv hs (fun y hy => hb y (by simp [hy])) h2
    refine ⟨by simpa using g1, fun i v0 u0 q1 q2 => ?_⟩
    cases i with
    | zero =>
      simp only [List.map_cons, List.getElem?_cons_zero, Option.some.injEq] at q1 q2
      subst q1 q2
      exact opd_ok hinv hs (hb y (by simp)) h1
    | succ i => exact g2 i v0 u0 (by simpa using q1) (by simpa using q2)

theorem caps_args {e : Env} {w : World} {G : Gh} {caps : List C} {us : List Value} {Ls : Nat → LT} (hl : us.length = caps.length)
    (h : ∀ (i : Nat) c u, caps[i]? = some c → us[i]? = some u → c.isFn = false ∧ c.isOwn = false ∧ CellOk0 e w G c u (Ls i)) : ArgsOk e w G (caps.map fun c => (.one, [c])) us := by
  refine ⟨by simpa using hl, fun i v u hv hu => ?_⟩
  simp only [List.getElem?_map] at hv
  cases hc : caps[i]? with
  | none => rw [hc] at hv; simp at hv
  | some c =>
    rw [hc] at hv
    simp only [Option.map_some, Option.some.injEq] at hv
    subst hv
    obtain ⟨h1, h2, h3⟩ := h i c u hc hu
    refine ⟨[u], fun _ => Ls i, ⟨⟨rfl, fun j c' u' a b => ?_⟩, rfl, by simpa using h2, by simp, by simp⟩⟩
    cases j with
    | zero =>
      simp only [List.getElem?_cons_zero, Option.some.injEq] at a b
      subst a b
      cases c <;> first | exact h3 | simp [C.isFn] at h1
    | succ j => simp at a

theorem ArgsOk.append {e : Env} {w : World} {G : Gh} {a b : List Val} {us ws : List Value} (h : ArgsOk e w G a us) (h' : ArgsOk e w G b ws) : ArgsOk e w G (a ++ b) (us ++ ws) := by
  refine ⟨by simp [h.1, h'.1], fun i v u hv hu => ?_⟩
  by_cases hi : i < a.length
  · rw [List.getElem?_append_left hi] at hv
    rw [List.getElem?_append_left (by rw [h.1]; exact hi)] at hu
    exact h.2 i v u hv hu
  · rw [List.getElem?_append_right (by omega)] at hv
    rw [List.getElem?_append_right (by rw [h.1]; omega), h.1] at hu
    exact h'.2 _ v u hv hu

theorem lends_seen {e : Env} {t : Tr} (hs : Sees t.at e) {md : List Bool} {args : List Val} {q : Sent} (hsend : send t md [] 0 args = some q) : ∀ x ∈ lendAt 0 q.lends, t.at x.2.2.slot = e.get x.2.2.slot := by
  rintro ⟨i, c, l⟩ hx
  obtain ⟨g1, g2, g3⟩ := send_get hsend
  obtain ⟨ls, _, h2, h3⟩ := mem_lendAt.1 hx
  dsimp only at h2 h3 ⊢
  rw [Nat.sub_zero] at h2
  have hil : i < args.length := by rw [← g2]; exact (List.getElem?_eq_some_iff.1 h2).1
  obtain ⟨v, hv⟩ : ∃ v, args[i]? = some v := ⟨_, List.getElem?_eq_getElem hil⟩
  obtain ⟨v', hv'⟩ : ∃ v', q.vals[i]? = some v' := ⟨_, List.getElem?_eq_getElem (by rw [g1]; exact hil)⟩
  rcases g3 i v v' ls hv hv' h2 with ⟨_, _, _, rfl⟩ | ⟨hm, s', bv, cs, rfl, hsh, hob, rfl, rfl⟩ | ⟨hm, hsh, hlc⟩
  · simp at h3
  · cases c with
    | zero =>
      simp only [List.getElem?_cons_zero, Option.some.injEq] at h3
      subst h3
      exact sees_box hs hsh
    | succ c => simp at h3
  · obtain ⟨l1, l2, l3⟩ := lendCells_get hlc
    have hcl : c < v.2.length := by rw [← l2]; exact (List.getElem?_eq_some_iff.1 h3).1
    obtain ⟨a, ha⟩ : ∃ a, v.2[c]? = some a := ⟨_, List.getElem?_eq_getElem hcl⟩
    obtain ⟨a', ha'⟩ : ∃ a', v'.2[c]? = some a' := ⟨_, List.getElem?_eq_getElem (by rw [l1]; exact hcl)⟩
    rcases l3 c a a' _ ha ha' h3 with ⟨_, _, _, _, hn, _⟩ | ⟨s', j', rv, sv, p', k', rv', sv', d, k0, l0, x, rfl, hat, rfl, hp, hcast, rfl, hl⟩
    · simp at hn
    · simp only [Option.some.injEq] at hl
      subst hl
      simp only [Lend.slot]
      rcases hs s' with g | g
      · exact g
      · rw [g] at hat; simp at hat

theorem map_getD_dead (l : List C) (c : Nat) : (l.map outC).getD c .dead = outC (l.getD c .dead) := by
  simp only [List.getD_eq_getElem?_getD, List.getElem?_map]
  cases l[c]? <;> rfl

theorem call_sound {P : Program} [Tabs P] {x : Ctx} {bk : Book} (hover : Over x bk) (hbk : BookOk P bk) {e : Env} {a : Act} {w : World} {G : Gh} {get : Nat → Slot} {o : Oper} {c0 : Call} {f : Operand} {g : Nat} {caps : List C} {vs : List Val} {t2 : Tr}
    (hb : Begin x.n e a w G get o) (hlaid : Laid P w G) (ho : o.op = .call c0) (hcf : c0.callee = .value f) (hf : opd get f = some (.one, [.fn g caps])) (hvs : opds get c0.args.toList = some vs)
    (hc : callC x { get, d := o.dst } o.dst g (vs ++ caps.map fun c => (.one, [c])) = some t2) : Sound P x.n e a w G o t2.ws := by
  obtain ⟨Lf, hfn, _⟩ := hb.one (by simp [ho, Op.operands, Call.operands, hcf]) hf
  obtain ⟨ucaps, Lcaps, hfv, hcl, hcc⟩ := hfn
  have hargs : ArgsOk e w G (vs ++ caps.map fun c => (.one, [c])) (c0.args.toList.map a.eval ++ ucaps) :=
    (opds_args hb.inv hb.sees (fun y hy => hb.inb.opd (by
      have : y ∈ c0.args := by simpa using hy
      simp [ho, Op.operands, Call.operands, hcf, this])) hvs).append (caps_args hcl hcc)
  generalize hA : (vs ++ caps.map fun c => ((.one, [c]) : Val)) = args at hargs hc
  generalize hU : c0.args.toList.map a.eval ++ ucaps = us at hargs
  -- what is sent
  simp only [callC, hover.md] at hc
  cases hsend : send { get, d := o.dst } (bk.md g) [] 0 args with
  | none => rw [hsend] at hc; simp at hc
  | some q =>
    rw [hsend] at hc
    simp only at hc
    obtain ⟨s1, s2, s3⟩ := send_get hsend
    split at hc
    · rename_i hchk
      simp only [Bool.and_eq_true] at hchk
      obtain ⟨⟨⟨hap, hsrc⟩, hodd⟩, hdisj⟩ := hchk
      cases hsem : x.sem g q.vals with
      | none => rw [hsem] at hc; simp at hc
      | some r =>
        obtain ⟨⟨sh, cs⟩, os⟩ := r
        rw [hsem] at hc
        simp only at hc
        have hsem' := hsem
        rw [hover.sem, Book.sem] at hsem'
        obtain ⟨t, ⟨hN, fn, hfn, hbody, hname, hrv, hcall⟩, htmd, d, bT, hdec, hT, hret⟩ := semD_ok hbk hsem'
        rw [← htmd] at hsend hc hdisj s3
        have hdl := decA_okM hdec
        have hql : q.vals.length = t.args.length := hdl.1
        have hlen : args.length = t.args.length := by rw [← s1, hql]
        generalize hrtd : readTargets t.md [] 0 args = rt at hc hdisj
        have hsees : Sees (Tr.at { get, d := o.dst }) e := fun s => hb.sees s
        have hdis : ∀ z ∈ lendAt 0 q.lends, z.2.2.slot ∉ rt := by
          intro z hz hm
          simp only [disjoint, List.all_eq_true, Bool.not_eq_true'] at hdisj
          have := hdisj z.2.2.slot (List.mem_map.2 ⟨z, hz, rfl⟩)
          simp [hm] at this
        have hlin := lends_in hb.inv hsees hargs hsend
        have hsrc' : ∀ x ∈ lendAt 0 q.lends, ∀ y ∈ lendAt 0 q.lends, x.1 = y.1 → x.2.2.slot = y.2.2.slot := by
          intro z hz y hy hzy
          simp only [oneSrc, List.all_eq_true, Bool.or_eq_true, Bool.not_eq_true'] at hsrc
          rcases hsrc z hz y hy with g | g
          · have : Nat.beq z.1 y.1 = true := by rw [Nat.beq_eq]; exact hzy
            rw [this] at g; simp at g
          · rwa [Nat.beq_eq] at g
        have hlends : LendsOk e (lendAt 0 q.lends) rt t.args.length := ⟨fun z hz => (hlin z hz).1, hap, hsrc', hdis, fun z hz => by rw [← hlen]; exact (hlin z hz).2⟩
        -- the callee's start
        obtain ⟨Gc, hi0, how0, hstart⟩ := start_lend hb.inv hsees hargs hsend (N := t.n) (by omega) (rt := rt) (fun s hs => by rw [← hrtd]; exact hs) (by rw [hlen]; exact hlends) (t.n + 2 * t.args.length)
        have hnr := send_refAt hsend
        obtain ⟨Gc', hi1, hh1⟩ := gen_inv hi0 (decA_genM hdec (by omega) hnr) (t.n + 2 * t.args.length)
        have husl : us.length = t.args.length := by rw [hargs.1, hlen]
        -- what is read lies in range, and was seen
        have hread : ∀ s ∈ rt, s < e.length ∧ Tr.at { get, d := o.dst } s = e.get s := by
          intro s hs
          rw [← hrtd] at hs
          obtain ⟨i, v, hi, hm, hsv⟩ := readTargets_of hs
          rw [Nat.zero_add] at hm
          simp only [List.mem_flatMap] at hsv
          obtain ⟨c, hcv, hs⟩ := hsv
          have hil : i < us.length := by rw [hargs.1]; exact (List.getElem?_eq_some_iff.1 hi).1
          obtain ⟨vs', Ls', hval⟩ := hargs.2 i v _ hi (List.getElem?_eq_getElem hil)
          obtain ⟨j, hj⟩ := List.getElem?_of_mem hcv
          have hjl : j < vs'.length := by rw [hval.cells.len]; exact (List.getElem?_eq_some_iff.1 hj).1
          refine ⟨targets_lt (hval.cells.cell j c _ hj (List.getElem?_eq_getElem hjl)) s hs, ?_⟩
          have hia : i < args.length := (List.getElem?_eq_some_iff.1 hi).1
          rcases s3 i v _ _ hi (List.getElem?_eq_getElem (by omega)) (List.getElem?_eq_getElem (by omega)) with ⟨_, _, g, _⟩ | ⟨g, _⟩ | ⟨g, _⟩
          · exact sees_sent hsees g c hcv s hs
          · rw [Nat.zero_add, hm] at g; simp at g
          · rw [Nat.zero_add, hm] at g; simp at g
        intro K Q hk
        unfold Oper.wp
        rw [run_call ho hcf hfv hfn hbody hname]
        rw [Oper.upon_enter]
        have hus : c0.args.map a.eval ++ ucaps.toArray = us.toArray := by
          rw [← hU]; simp
        rw [hus]
        have hlaid1 : Laid P w Gc' := by
          refine Laid.still (G := Gc) (fun z hz => ?_) hh1.still
          obtain ⟨z1, z2⟩ := hlaid z hz
          exact ⟨z1, by rw [how0]; exact owL_none hb.inv hlends z2⟩
        refine (hcall d bT hT (by rw [hret]; rfl) us w Gc' husl hi1 hlaid1).mono ?_
        rintro en w1 ⟨tm1, G1, u1, rfl, hrun1, hi2, hh2, hsz, hle, henv⟩
        -- behind the call
        have hh := hh1.trans hh2
        obtain ⟨e2, G2, H, us', Ls, bk, hr, houts⟩ := ret_ok hrv hi2 hret
        have hext := hr.held
        rw [hle] at hext
        obtain ⟨u1', u2'⟩ := outs_get houts
        rw [encA_length] at u1'
        generalize hgvd : ((cs.any C.aliases || os.any fun x => x.any C.aliases) : Bool) = gv at hc
        have hargE : ∀ i, i < args.length → ∃ v v' w', args[i]? = some v ∧ q.vals[i]? = some v' ∧ (encA t.args d)[i]? = some w' ∧ w'.1 = v'.1 := by
          intro i hi
          have h1 : i < q.vals.length := by omega
          have h2 : i < (encA t.args d).length := by rw [encA_length]; omega
          refine ⟨_, _, _, List.getElem?_eq_getElem hi, List.getElem?_eq_getElem h1, List.getElem?_eq_getElem h2, ?_⟩
          exact (hdl.2 i _ _ (List.getElem?_eq_getElem h1) (List.getElem?_eq_getElem h2)).1
        have hC : Called x.n t.n t.args.length e a.tmps w G q rt Gc e2 tm1 w1 G2 H os gv := by
          refine ⟨hb.inv, hlends, fun s hs => (hread s hs).1, hstart, how0, hr.inv, hh.trans hext, hsz, fun b hbH => ?_, fun i c s j p k hx => ?_, fun i c s hx => ?_, fun i c hcm hal => ?_, fun z hz s hzs => ?_⟩
          · obtain ⟨k1, k2, k3, k4⟩ := hr.hand.mem b hbH
            refine ⟨k1, k2, k3, fun u hu => ?_⟩
            have := hr.owner b hbH u hu
            rw [hr.len2, hle] at this
            exact this
          · obtain ⟨v, v', rv, sv, sv', d', k0, l0, y, hcs⟩ := lent_cell hsees hsend hx
            have hil := (List.getElem?_eq_some_iff.1 hcs.arg).1
            obtain ⟨va, va', wa, e1, e2', e3', e4⟩ := hargE i hil
            rw [hcs.arg] at e1
            rw [hcs.val] at e2'
            simp only [Option.some.injEq] at e1 e2'
            subst e1 e2'
            obtain ⟨vs', Ls', hval⟩ := hargs.2 i v _ hcs.arg (List.getElem?_eq_getElem (by rw [hargs.1]; exact hil))
            have hol : i < os.length := by omega
            have := (u2' i wa _ e3' (List.getElem?_eq_getElem hol) (by rw [Nat.zero_add]; exact hcs.md)).2 (fun bv => by rw [e4, hcs.sh]; exact hval.sh bv)
            rw [Nat.zero_add] at this
            rw [show os.getD i [] = os[i] by simp [List.getD_eq_getElem?_getD, List.getElem?_eq_getElem hol], this, map_getD_dead]
          · obtain ⟨_, bv, cs', hbs⟩ := lent_box hsees hsend hx
            have hil := (List.getElem?_eq_some_iff.1 hbs.arg).1
            obtain ⟨va, va', wa, e1, e2', e3', e4⟩ := hargE i hil
            rw [hbs.val] at e2'
            simp only [Option.some.injEq] at e2'
            subst e2'
            have hol : i < os.length := by omega
            have := (u2' i wa _ e3' (List.getElem?_eq_getElem hol) (by rw [Nat.zero_add]; exact hbs.md)).1 0 e4
            rw [Nat.zero_add] at this
            rw [show os.getD i [] = os[i] by simp [List.getD_eq_getElem?_getD, List.getElem?_eq_getElem hol]]
            exact this
          · rw [← hgvd, Bool.or_eq_true]
            right
            rw [List.any_eq_true]
            refine ⟨os.getD i [], ?_, List.any_eq_true.2 ⟨c, hcm, hal⟩⟩
            rcases Nat.lt_or_ge i os.length with g | g
            · rw [show os.getD i [] = os[i] by simp [List.getD_eq_getElem?_getD, List.getElem?_eq_getElem g]]
              exact List.getElem_mem g
            · rw [show os.getD i [] = [] by simp [List.getD_eq_getElem?_getD, List.getElem?_eq_none g]] at hcm
              simp at hcm
          · simp only [oddB, List.all_eq_true] at hodd
            have := hodd z hz
            rw [hzs] at this
            simp only [Bool.or_eq_true, Nat.blt_eq, Nat.beq_eq] at this
            exact this
        -- the caller's slots
        cases hback : backAll os { get, d := o.dst } (lendAt 0 q.lends) with
        | none => rw [hback] at hc; simp at hc
        | some t1 =>
          rw [hback] at hc
          simp only [Option.some.injEq] at hc
          have htr : TrOk e { get, d := o.dst } e := hb.tr
          obtain ⟨eb, b1, b2, b3, b4⟩ := back_env os htr hap (fun z hz => ⟨hC.slotlt z hz, lends_seen hsees hsend z hz⟩) hback
          have hrd : ∀ s ∈ rt, eb.get s = e.get s := fun s hs => b3.rest s fun z hz q => hdis z hz (by rw [q]; exact hs)
          obtain ⟨e3, t3, ht3, hl3, hd3, hget3, hback3⟩ : ∃ e3 t3, TrOk e t3 e3 ∧ e3.length = e.length ∧ t3.d = o.dst ∧ (∀ s, e3.get s = if gv = true ∧ s ∈ rt then giveS (e.get s) else eb.get s) ∧ t2 = t3.lay o.dst (sh, cs) := by
            cases gv with
            | false =>
              simp only [Bool.false_eq_true, if_false] at hc
              exact ⟨eb, _, b1, b3.len, b2, fun s => by simp, hc.symm⟩
            | true =>
              simp only [if_true] at hc
              have hat : ∀ s ∈ rt, s < eb.length ∧ t1.at s = eb.get s := by
                intro s hs
                obtain ⟨r1, r2⟩ := hread s hs
                refine ⟨by rw [b3.len]; exact r1, ?_⟩
                rw [b4 s fun z hz q => hdis z hz (by rw [q]; exact hs), hrd s hs]
                exact r2
              obtain ⟨e', g1, g2, g3, g4⟩ := give_env (rt := rt) b1 hat
              refine ⟨e', _, g1, by rw [g2, b3.len], by rw [g3, b2], fun s => ?_, hc.symm⟩
              rw [g4 s]
              by_cases hs : s ∈ rt
              · simp [hs, hrd s hs]
              · simp [hs]
          obtain ⟨hi3, hh3⟩ := hC.back b3 hl3 hget3
          have hal : ∀ c ∈ cs, c.aliases = true → gv = true := fun c hcm q => by
            rw [← hgvd, Bool.or_eq_true]
            exact .inl (List.any_eq_true.2 ⟨c, hcm, q⟩)
          have hcell : ∀ (j : Nat) c u, cs[j]? = some c → us'[j]? = some u → NewOk e3 w1 (ghOut w e eb G (lendAt 0 q.lends) G2 t.n H rt gv) w1 H c u (Ls j) := by
            intro j c u hcj huj
            have hres := hr.cell j c u hcj huj
            have hmem := List.mem_of_getElem? hcj
            cases c with
            | dat k y =>
              obtain ⟨r1, r2⟩ := hres
              exact ⟨r1, fun b hb' => hC.nobody (r2 b hb') (.inl (hal _ hmem (alias_dat hb')))⟩
            | nil => exact hres
            | own rv sv d' k l =>
              obtain ⟨r1, r2⟩ := hres
              exact ⟨r1, fun hd b hb' => ⟨hC.nobody (r2 hd b hb') (.inl (hal _ hmem (alias_inner hd hb'))), fun hm => (hC.hand b hm).2.1 (r2 hd b hb')⟩⟩
            | fn f' caps' =>
              cases caps' with
              | nil =>
                have hu : u = .func (.func f') #[] #[] := hres
                exact ⟨[], fun _ => .leaf, by rw [hu], rfl, fun i c u q => by simp at q⟩
              | cons _ _ => exact hres.elim
            | _ => exact hres.elim
          have hout : ∀ b ∈ H, ∀ u, G.ow b = some u → u < e.length := by
            intro b hbH u hu
            rcases Nat.lt_or_ge u e.length with g | g
            · exact g
            · exfalso
              have hold : w.heap[b]? ≠ none := by
                have := hb.inv.lt b u hu
                simp [this]
              exact (hC.unlent hold (hC.notLent hu fun z hz q => by have := hC.slotlt z hz; omega)).2.1 hbH
          have hloose : ∀ b ∈ H, Loose e3 (ghOut w e eb G (lendAt 0 q.lends) G2 t.n H rt gv) b ∧ (ghOut w e eb G (lendAt 0 q.lends) G2 t.n H rt gv).ow b ≠ none ∧ b < w1.heap.size ∧ ∀ u, G.ow b = some u → u < e.length := by
            intro b hbH
            have hob : (ghOut w e eb G (lendAt 0 q.lends) G2 t.n H rt gv).ow b = some e.length := by simp [ghOut, owOut2, hbH]
            exact ⟨hi3.beyond hob (by omega), by rw [hob]; simp, (hC.hand b hbH).2.2.1, hout b hbH⟩
          obtain ⟨G', hp⟩ := lay_res (v := (sh, cs)) hi3 ht3 hh3 hloose hr.len hcell hr.fp hr.hand.nodup hr.alive hr.box hsz
            (fun b hb0 hold hm => (hC.unlent hold (fun z hz hmz => by rw [blkL_ow hb.inv (hlends.inn z hz) hmz] at hb0; simp at hb0)).2.1 hm) (fun d' hd' => hb.inb.dst d' (by rw [← hd3]; exact hd')) henv
          rw [hd3, ← hback3] at hp
          have hres : u1 = resForm sh us' bk := by
            have := hrun1.symm.trans hr.res
            simpa using this
          simp only at hp
          rw [← hres] at hp
          exact hk _ _ _ hp
    · simp at hc

/-! ### Functions by their runs -/
def PC.al : PC → Bool
  | .dat k => !k.flat
  | .own false k => !k.flat
  | _ => false
def FEnt.al (t : FEnt) : Bool := t.md.isEmpty && t.out.ps.any fun p => p.cs.any PC.al
def alOf (bk : Book) (f : Nat) : Bool := bk.any fun q => Nat.beq q.1 f && q.2.al
def gvOf (bk : Book) (c : Code) : List Nat := match bk.any fun q => q.2.al with
  | true => gvCode (alOf bk) c
  | false => []

/-- The machine's book for a function. -/
def ctxOf (P : Program) (fn : Func) (bk : Book) : Ctx :=
  { n := fn.ntmps, ty := tyOf P, vars := (match fn.body with | some c => List.range (fn.params.size + fn.nfree) ++ codeVars c ++ (List.range (2 * (fn.params.size + fn.nfree))).map (fn.ntmps + ·) | none => []), rs := fn.results.toList.map (fun | .tmp t => t | .cell a _ => a), vr := [], md := bk.md, gv := (match fn.body with | some c => gvOf bk c | none => []), sem := bk.sem }

theorem ctxOf_ok {P : Program} [Tabs P] {fn : Func} {bk : Book} (hbk : BookOk P bk)
    (hagg : ∀ {e : Env} {a : Act} {w : World} {G : Gh} {get : Nat → Slot} {o : Oper} {op : BinOp} {ty yt : TypeId} {y z : Operand} {cs ds : List C} {ws : Writes},
      Begin fn.ntmps e a w G get o → o.op = .binOp op ty y z yt → opd get y = some (.agg, cs) → opd get z = some (.agg, ds) → act (ctxOf P fn bk) get o = some ws → Sound P fn.ntmps e a w G o ws) : CtxOk P (ctxOf P fn bk) :=
  ⟨fun _ => rfl, fun hb hlaid ho hcf hf hvs hc => call_sound ⟨rfl, rfl⟩ hbk hb hlaid ho hcf hf hvs hc, fun hb ho h1 h2 h => hagg hb ho h1 h2 h⟩

def finK {n : Nat} (out : EP) : Ex → Env → Option out.T
  | .exit _, _ => none
  | _, e => out.dec n e

theorem fnOk_of_run {P : Program} [Tabs P] {f : Nat} {fn : Func} {c : Code} {bk : Book} {tb : Tab} {t : FEnt} (hx : CtxOk P (ctxOf P fn bk)) (hf : P.funcs[f]? = some fn) (hb : fn.body = some c) (hn : fn.ntmps = t.n)
    (hres : rvsB P fn.results.toList t.results = true) (hargs : t.args.length ≤ t.n) (hsz : t.n ≤ 1000000) (hname : (fn.name == "runtime.NumGoroutine") = false)
    (hm : P.follows .mixedOrders = true) (hnodes : Nodes (ctxOf P fn bk) bk tb c tb)
    (hrun : ∀ d, runD (ctxOf P fn bk) bk tb 1 c (startE t.n t.md (encA t.args d)) (finK (n := t.n) t.out) = t.T d) : FnOk P f t := by
  refine ⟨hargs, fn, hf, by rw [hb]; rfl, hname, hres, fun d b hT hret us w G hus hi hlaid => ?_⟩
  have hctxn : (ctxOf P fn bk).n = t.n := hn
  refine calls_of_wp hf hb ?_
  rw [hn] at *
  have hsl := (startE_slots (n := t.n) (md := t.md) (vals := encA t.args d) (by rw [encA_length]; exact hargs)).1
  rw [encA_length] at hsl
  have hr := (runD_both hx ⟨rfl, rfl⟩ (by rw [hctxn]; exact hsz) hm hnodes c 1 (Nat.le_refl _) rfl).1 _ _ _ b ((hrun d).trans hT)
    { tmps := us.toArray ++ Array.replicate (t.n - us.length) undef, defers := [] } w G (by rw [hctxn]; exact hi) hlaid
  have hsub : sub c 1 = c := rfl
  refine hr _ fun ex e' a' w' G' hK hl hp => ?_
  have hend : ∀ ex', t.out.dec t.n e' = some b → (ex' = Exit.normal ∨ ex' = Exit.ret) → bodyPost P fn (fun en w' => ∃ tm1 G1 u, en = .returned u ∧ (results fn tm1).run P w' = .ok u w' ∧ Inv t.n (t.out.enc b) tm1 w' G1 ∧ Held t.n (t.n + 2 * t.args.length) w w' G G1 ∧ w.heap.size ≤ w'.heap.size ∧ (t.out.enc b).length = t.n + 2 * t.args.length ∧ SameEnv w w') ex' a' w' := by
    intro ex' hd hex
    have hinv := hp.inv
    rw [hctxn] at hinv
    obtain ⟨l1, G2, hi2, hh2⟩ := EP.dec_ok hd hinv e'.length (Nat.le_refl _)
    have hheld := hp.held
    rw [hctxn] at hheld
    have hl' : e'.length = t.n + 2 * t.args.length := by rw [hl, hsl]
    have hq : a'.defers = [] ∧ ∃ v, (results fn a'.tmps).run P w' = .ok v w' ∧ (fun en w' => ∃ tm1 G1 u, en = Ending.returned u ∧ (results fn tm1).run P w' = .ok u w' ∧ Inv t.n (t.out.enc b) tm1 w' G1 ∧ Held t.n (t.n + 2 * t.args.length) w w' G G1 ∧ w.heap.size ≤ w'.heap.size ∧ (t.out.enc b).length = t.n + 2 * t.args.length ∧ SameEnv w w') (.returned v) w' := by
      obtain ⟨⟨⟨sh0, cs0⟩, os0⟩, hr0⟩ := Option.isSome_iff_exists.1 hret
      obtain ⟨_, _, _, us0, _, _, hr1, _⟩ := ret_ok hres hi2 hr0
      refine ⟨hp.defers, _, hr1.res, a'.tmps, G2, _, rfl, hr1.res, hi2, ?_, hp.grows, by rw [l1, hl'], hp.env⟩
      have := hheld.trans hh2
      rw [hl'] at this
      exact this
    rcases hex with rfl | rfl
    · exact hq
    · exact hq
  cases ex with
  | normal => exact hend .normal hK (.inl rfl)
  | ret => exact hend .ret hK (.inr rfl)
  | exit id => simp [finK] at hK

end Go.Mach
/- The machine, part nm: structs of whole numbers compared; the machine's book is sound. No condition: lemmas. -/
namespace Go.Mach
set_option linter.unusedVariables false
set_option linter.unusedSimpArgs false

theorem sameCs_cons {c : C} {cs es : List C} {b : Bool} (h : sameCs (c :: cs) es = some b) : ∃ k p q ds b', c = .dat (.int k) p ∧ es = .dat (.int k) q :: ds ∧ sameCs cs ds = some b' ∧ b = ((p == q) && b') := by
  cases es with
  | nil => cases c with
    | dat k x => cases k <;> simp [sameCs] at h
    | _ => simp [sameCs] at h
  | cons d ds =>
    cases c with
    | dat k x =>
      cases k with
      | int k =>
        cases d with
        | dat k' y =>
          cases k' with
          | int k' =>
            simp only [sameCs] at h
            split at h
            · rename_i hk
              subst hk
              cases hq : sameCs cs ds with
              | none => rw [hq] at h; simp at h
              | some r =>
                rw [hq] at h
                simp only [Option.map_some, Option.some.injEq] at h
                exact ⟨_, _, _, _, _, rfl, rfl, hq, h.symm⟩
            · simp at h
          | _ => simp [sameCs] at h
        | _ => simp [sameCs] at h
      | _ => simp [sameCs] at h
    | _ => simp [sameCs] at h

theorem sameCs_nil {es : List C} {b : Bool} (h : sameCs [] es = some b) : es = [] ∧ b = true := by
  cases es with
  | nil => simp only [sameCs, Option.some.injEq] at h; exact ⟨rfl, h.symm⟩
  | cons d ds => simp [sameCs] at h

theorem sameCs_len : ∀ {cs ds : List C} {b : Bool}, sameCs cs ds = some b → ds.length = cs.length
  | [], ds, b, h => by rw [(sameCs_nil h).1]
  | c :: cs, ds, b, h => by
    obtain ⟨k, p, q, ds', b', _, rfl, h1, _⟩ := sameCs_cons h
    simp [sameCs_len h1]

section
variable {P : Program} {e : Env} {w : World} {G : Gh}

theorem part_int {t : Nat} {k : IntKind} (hu : P.underlying t = some (.int k)) {inf : TypeInfo} (hi : P.info? t = some inf) (hs : inf.size = 1) (vs : List Value) (i : Nat) (v : Value) (hv : vs[i]? = some v) (w : World) :
    (part t vs.toArray i).run P w = .ok v w := by
  have hok : (tyOf P t).ok = true := by simp [tyOf, hi, hu, hs]
  have hsz : (tyOf P t).size = 1 := by simp [tyOf, hi, hs]
  have hag : (tyOf P t).agg = false := by simp [Ti.agg, tyOf, hi, tyD, hu]
  have hil : i < vs.length := (List.getElem?_eq_some_iff.1 hv).1
  rw [run_part hok vs i (by omega) w, hsz]
  simp only [partShape, hag, form]
  have : (vs.drop i).take 1 = [v] := by
    rw [List.getElem?_eq_getElem hil] at hv
    simp only [Option.some.injEq] at hv
    rw [← hv]
    rw [List.drop_eq_getElem_cons hil]
    rfl
  simp [this]

theorem eqFields_run : ∀ {fs : List Field} {i : Nat} {cs ds : List C} {us vs : List Value} {b : Bool}, intFields P i fs = true → fs.length = cs.length → sameCs cs ds = some b →
    (∀ (j : Nat) c v, cs[j]? = some c → us[i + j]? = some v → ∃ L, CellOk e w G c v L) → (∀ (j : Nat) c v, ds[j]? = some c → vs[i + j]? = some v → ∃ L, CellOk e w G c v L) →
    i + cs.length ≤ us.length → i + cs.length ≤ vs.length → (Op.eqFields 9999 us.toArray vs.toArray fs).run P w = .ok b w
  | [], i, cs, ds, us, vs, b, _, hl, hs, _, _, _, _ => by
    have : cs = [] := List.eq_nil_of_length_eq_zero (by simpa using hl.symm)
    subst this
    rw [(sameCs_nil hs).2]
    rfl
  | f :: fs, i, [], ds, us, vs, b, _, hl, _, _, _, _, _ => by simp at hl
  | f :: fs, i, c :: cs, es, us, vs, b, hf, hl, hs, hu, hv, hlu, hlv => by
    obtain ⟨k1, p, q, ds, b', rfl, rfl, hq, rfl⟩ := sameCs_cons hs
    simp only [intFields, Bool.and_eq_true] at hf
    obtain ⟨⟨⟨⟨f1, f2⟩, f3⟩, f4⟩, f5⟩ := hf
    have f1 : f.name ≠ "_" := by simpa using f1
    have f2 := Nat.eq_of_beq_eq_true f2
    cases hi : P.info? f.type with
    | none => rw [hi] at f4; simp at f4
    | some inf =>
      rw [hi] at f4
      have f4 := Nat.eq_of_beq_eq_true f4
      split at f3
      · rename_i k hk
        simp only [List.length_cons] at hlu hlv
        obtain ⟨u, hu0⟩ : ∃ u, us[i]? = some u := ⟨_, List.getElem?_eq_getElem (by omega)⟩
        obtain ⟨v, hv0⟩ : ∃ v, vs[i]? = some v := ⟨_, List.getElem?_eq_getElem (by omega)⟩
        obtain ⟨L1, c1⟩ := hu 0 _ u rfl (by simpa using hu0)
        obtain ⟨L2, c2⟩ := hv 0 _ v rfl (by simpa using hv0)
        have hpu := part_int (P := P) hk hi f4 us i u hu0 w
        have hpv := part_int (P := P) hk hi f4 vs i v hv0 w
        rw [dat_int c1] at hpu
        rw [dat_int c2] at hpv
        have ih := eqFields_run (fs := fs) (i := i + 1) (cs := cs) (ds := ds) (us := us) (vs := vs) f5 (by simpa using hl) hq
          (fun j c v a b => hu (j + 1) c v (by simpa using a) (by rw [show i + (j + 1) = i + 1 + j by omega]; exact b))
          (fun j c v a b => hv (j + 1) c v (by simpa using a) (by rw [show i + (j + 1) = i + 1 + j by omega]; exact b)) (by omega) (by omega)
        simp only [Op.eqFields, f1, ne_eq, not_false_eq_true, if_true, Sem.run_bind, f2, hpu, hpv, Result.andThen_ok]
        rw [run_equalIn_int w 9998 f.type k1 k p q hk]
        simp only [Result.andThen_ok]
        cases hpq : (p == q) with
        | true => simpa using ih
        | false => simp
      · simp at f3

theorem agg_sound {P : Program} {x : Ctx} (hty : ∀ t, x.ty t = tyOf P t) {e : Env} {a : Act} {w : World} {G : Gh} {get : Nat → Slot} {o : Oper} {op : BinOp} {ty yt : TypeId} {y z : Operand} {cs ds : List C} {ws : Writes}
    (hb : Begin x.n e a w G get o) (ho : o.op = .binOp op ty y z yt) (hy : opd get y = some (.agg, cs)) (hz : opd get z = some (.agg, ds)) (h : act x get o = some ws) : Sound P x.n e a w G o ws := by
  simp only [act, ho, hy, hz] at h
  split at h
  · rename_i heq
    rw [hty] at heq
    obtain ⟨us, Ls, hvu⟩ := hb.opd (by simp [ho, Op.operands]) hy
    obtain ⟨vs, Ms, hvv⟩ := hb.opd (by simp [ho, Op.operands]) hz
    -- the type
    have heqI : eqInts P ty = some cs.length := by
      unfold tyOf at heq
      split at heq
      · exact heq
      · simp at heq
    unfold eqInts at heqI
    split at heqI
    · rename_i fs hu
      split at heqI
      · rename_i hc
        simp only [Bool.and_eq_true, Bool.not_eq_true'] at hc
        obtain ⟨⟨hf, hst⟩, hgd⟩ := hc
        simp only [Option.some.injEq] at heqI
        have hfo : P.fieldsOf ty = fs := by simp [Program.fieldsOf, hu]
        have hun : P.underlying ty = some (.struct (P.fieldsOf ty)) := by rw [hfo, hu]
        have key : ∀ b, sameCs cs ds = some b → (Op.equalIn 10000 ty (a.eval y) (a.eval z)).run P w = .ok b w := by
          intro b hs
          have h1 : a.eval y = .agg us.toArray := hvu.form
          have h2 : a.eval z = .agg vs.toArray := hvv.form
          rw [h1, h2, run_equalIn_agg w 9999 ty _ _ hun hst, hfo]
          have hdl := sameCs_len hs
          exact eqFields_run (P := P) (i := 0) hf (by simpa using heqI) hs
            (fun j c v a b => ⟨_, hvu.cells.cell j c v a (by simpa using b)⟩) (fun j c v a b => ⟨_, hvv.cells.cell j c v a (by simpa using b)⟩)
            (by rw [Nat.zero_add]; exact Nat.le_of_eq hvu.cells.len.symm) (by rw [Nat.zero_add, ← hdl]; exact Nat.le_of_eq hvv.cells.len.symm)
        have hguard : ∀ op, (eqGuard op ty y z (a.eval y) (a.eval z)).run P w = .ok () w := by
          intro op
          have h1 : a.eval y = .agg us.toArray := hvu.form
          have h2 : a.eval z = .agg vs.toArray := hvv.form
          rw [h1, h2]
          exact run_eqGuard_agg w op ty y z _ _ hgd
        split at h
        · rename_i b hs
          obtain ⟨G', hp⟩ := hb.cell (bool_ok e w G b) rfl h
          refine Sound.value ?_ hp
          have h1 : a.eval y = .agg us.toArray := hvu.form
          have h2 : a.eval z = .agg vs.toArray := hvv.form
          have hk := key b hs
          have hg := hguard .eql
          simp only [execOp, ho]
          rw [h1, h2] at hk hg ⊢
          exact run_v (by simp only [Sem.run_bind, hg, Result.andThen_ok, run_eql_struct, hk])
        · rename_i b hs
          obtain ⟨G', hp⟩ := hb.cell (bool_ok e w G (!b)) rfl h
          refine Sound.value ?_ hp
          have h1 : a.eval y = .agg us.toArray := hvu.form
          have h2 : a.eval z = .agg vs.toArray := hvv.form
          have hk := key b hs
          have hg := hguard .neq
          simp only [execOp, ho]
          rw [h1, h2] at hk hg ⊢
          exact run_v (by simp only [Sem.run_bind, hg, Result.andThen_ok, run_neq_struct, hk])
        · simp at h
      · simp at heqI
    · simp at heqI
  · simp at h

end

/-- The machine's book for a function is sound where its callees are. -/
theorem ctxOf_sound {P : Program} [Tabs P] {fn : Func} {bk : Book} (hbk : BookOk P bk) : CtxOk P (ctxOf P fn bk) :=
  ctxOf_ok hbk fun hb ho h1 h2 h => agg_sound (x := ctxOf P fn bk) (fun _ => rfl) hb ho h1 h2 h

end Go.Mach
/- The machine, part nn: the arguments of a law, as they come in, are data of the machine; a law's call. No condition: lemmas. -/
namespace Go.Mach
open Go.RowKit
set_option linter.unusedVariables false
set_option linter.unusedSimpArgs false

/-- Fields one behind the other, as one kind. -/
def fieldsK (P : Program) (g : Nat → Option K) : Nat → List Field → Option K
  | _, [] => none
  | off, [f] => match g f.type with
    | some k => if Nat.beq f.offset off && Nat.beq (P.cellsOf f.type) k.size then some k else none
    | none => none
  | off, f :: f' :: r => match g f.type, fieldsK P g (off + P.cellsOf f.type) (f' :: r) with
    | some a, some b => if Nat.beq f.offset off && Nat.beq (P.cellsOf f.type) a.size then some (.pair a b) else none
    | _, _ => none

/-- The kind of a type, where it is laid out so. -/
def tyRep (P : Program) : Nat → Nat → Option K
  | 0, _ => none
  | n + 1, t => match P.underlying t with
    | some (.int k) => some (.int k)
    | some .bool => some .bool
    | some .string => some .str
    | some (.slice e) => match tyRep P n e with
      | some k => if Nat.beq (P.cellsOf e) k.size then some (.list k) else none
      | none => none
    | some (.struct fs) => match fieldsK P (tyRep P n) 0 fs.toList with
      | some k => if Nat.beq (P.cellsOf t) k.size then some k else none
      | none => none
    | _ => none

/-- Data in bounds. -/
def Wf : (k : K) → k.T → Prop
  | .int k, n => (Lit.int k n).wf = true
  | .bool, _ => True
  | .str, s => s.length ≤ maxLen
  | .list k, l => l.length ≤ maxLen ∧ ∀ x ∈ l, Wf k x
  | .pair a b, x => Wf a x.1 ∧ Wf b x.2

theorem trod_fields {H : Type} {enc : TypeId × Value → H} {P : Program} {w : World} {base : Nat} {spare : Nat → Bool} {held : Bool} {n : Nat} {g : Nat → Option K}
    (hg : ∀ t k cs (x : DataW H × List MemPlace), g t = some k → DataW.trod enc P w base spare held n t cs = some x → ∃ (y : k.T) (L : LT), Rep false w k y L cs ∧ Wf k y) (cs : List Value) :
    ∀ (fs : List Field) (off : Nat) (k : K), fieldsK P g off fs = some k → off + k.size ≤ cs.length → (∀ f ∈ fs, ∃ x, DataW.trod enc P w base spare held n f.type ((cs.drop f.offset).take (P.cellsOf f.type)) = some x) →
    ∃ (y : k.T) (L : LT), Rep false w k y L ((cs.drop off).take k.size) ∧ Wf k y
  | [], off, k, h, _, _ => by simp [fieldsK] at h
  | [f], off, k, h, hl, hf => by
    simp only [fieldsK] at h
    split at h
    · rename_i k' hk
      split at h
      · rename_i hq
        simp only [Bool.and_eq_true] at hq
        have h1 := Nat.eq_of_beq_eq_true hq.1
        have h2 := Nat.eq_of_beq_eq_true hq.2
        simp only [Option.some.injEq] at h
        subst h
        obtain ⟨x, hx⟩ := hf f (by simp)
        obtain ⟨y, L, r1, r2⟩ := hg _ _ _ _ hk hx
        rw [h1, h2] at r1
        exact ⟨y, L, r1, r2⟩
      · simp at h
    · simp at h
  | f :: f' :: r, off, k, h, hl, hf => by
    simp only [fieldsK] at h
    split at h
    · rename_i a b ha hb
      split at h
      · rename_i hq
        simp only [Bool.and_eq_true] at hq
        have h1 := Nat.eq_of_beq_eq_true hq.1
        have h2 := Nat.eq_of_beq_eq_true hq.2
        simp only [Option.some.injEq] at h
        subst h
        obtain ⟨x, hx⟩ := hf f (by simp)
        obtain ⟨y, L, r1, r2⟩ := hg _ _ _ _ ha hx
        simp only [K.size] at hl ⊢
        rw [h2] at hb
        obtain ⟨z, M, s1, s2⟩ := trod_fields hg cs (f' :: r) (off + a.size) b hb (by omega) (fun f0 hf0 => hf f0 (by simp only [List.mem_cons] at hf0 ⊢; exact .inr hf0))
        rw [h1, h2] at r1
        refine ⟨(y, z), .pair L M, ?_, r2, s2⟩
        simp only [Rep]
        refine ⟨L, M, _, _, rfl, ?_, r1, s1⟩
        rw [List.take_add, List.drop_drop]
      · simp at h
    · simp at h

theorem trod_rep {H : Type} {enc : TypeId × Value → H} {P : Program} {w : World} {base : Nat} {spare : Nat → Bool} {held : Bool} : ∀ (m : Nat) (n : Nat) (t : Nat) (k : K) (cs : List Value) (x : DataW H × List MemPlace),
    tyRep P m t = some k → DataW.trod enc P w base spare held n t cs = some x → ∃ (y : k.T) (L : LT), Rep false w k y L cs ∧ Wf k y
  | 0, n, t, k, cs, x, h, _ => by simp [tyRep] at h
  | m + 1, n, t, k, cs, x, h, hx => by
    simp only [tyRep] at h
    split at h
    · rename_i ik hu
      simp only [Option.some.injEq] at h
      subst h
      obtain ⟨q, rfl, rfl, hw⟩ := DataW.trod_int hu hx
      exact ⟨q, .leaf, by simp [Rep], hw⟩
    · rename_i hu
      simp only [Option.some.injEq] at h
      subst h
      obtain ⟨b, rfl, rfl⟩ := DataW.trod_bool hu hx
      exact ⟨b, .leaf, by simp [Rep], trivial⟩
    · rename_i hu
      simp only [Option.some.injEq] at h
      subst h
      obtain ⟨s, rfl, rfl, hs⟩ := DataW.trod_string hu hx
      exact ⟨s.data.toList, .leaf, by simp [Rep], by simpa [Wf] using hs⟩
    · rename_i e hu
      split at h
      · rename_i k' hk
        split at h
        · rename_i hsz
          have hsz := Nat.eq_of_beq_eq_true hsz
          simp only [Option.some.injEq] at h
          subst h
          rcases DataW.trod_slice hu hx with ⟨rfl, rfl⟩ | ⟨a, len, cap, elems, rest, n', rfl, rfl, rfl, hb, hl, hm, hlen, hel, _, _⟩
          · refine ⟨[], .nil, ?_, by simp [Wf]⟩
            simp only [Rep]
            exact ⟨_, rfl, .inl ⟨rfl, rfl, none, 0, rfl, fun h => by cases h⟩⟩
          · have hex : ∀ i : Nat, ∃ p : k'.T × LT, i < len → ∃ cs', w.cells? base (a.add (i * P.cellsOf e)) (P.cellsOf e) = some cs' ∧ Rep false w k' p.1 p.2 cs' ∧ Wf k' p.1 := by
              intro i
              by_cases hi : i < len
              · have hel' := hel i hi
                rw [List.getElem?_eq_getElem (by omega)] at hel'
                simp only [Option.bind_eq_some_iff] at hel'
                obtain ⟨cs', h1, h2⟩ := hel'
                obtain ⟨y, L, r1, r2⟩ := trod_rep m n' e k' cs' _ hk h2
                exact ⟨(y, L), fun _ => ⟨cs', h1, r1, r2⟩⟩
              · exact ⟨(k'.dflt, .leaf), fun q => absurd q hi⟩
            obtain ⟨f, hf⟩ := Classical.axiomOfChoice hex
            have hwf : Wf (.list k') ((List.range len).map fun i => (f i).1) := by
              refine ⟨by simp; omega, fun x hx => ?_⟩
              simp only [List.mem_map, List.mem_range] at hx
              obtain ⟨i, hi, rfl⟩ := hx
              obtain ⟨_, _, _, r⟩ := hf i hi
              exact r
            by_cases h0 : len = 0
            · refine ⟨[], .nil, ?_, by simp [Wf]⟩
              simp only [Rep]
              refine ⟨_, rfl, .inl ⟨rfl, rfl, some a, cap, by rw [h0], fun h => by cases h⟩⟩
            · have hspot : a.spot = none ∧ w.heap[a.block]? ≠ none := by
                obtain ⟨cs', h1, _, _⟩ := hf 0 (by omega)
                obtain ⟨_, _, h3⟩ := World.cells?_some h1
                have hpos : 0 < P.cellsOf e := by rw [hsz]; exact k'.size_pos
                have := h3 0 hpos
                have hcell : w.cell? a ≠ none := by
                  have h4 : (a.add (0 * P.cellsOf e)).add 0 = a := by simp [Addr.add]
                  rw [h4] at this
                  rw [this]
                  have hl' : 0 < cs'.length := by
                    have := (World.cells?_some h1).2.1
                    omega
                  simp [List.getElem?_eq_getElem hl']
                simp only [World.cell?] at hcell
                cases hh : w.heap[a.block]? with
                | none => rw [hh] at hcell; simp at hcell
                | some o =>
                  rw [hh] at hcell
                  refine ⟨?_, by simp⟩
                  cases o <;> simp at hcell
                  cases hs : a.spot with
                  | none => rfl
                  | some _ => rw [hs] at hcell; simp at hcell
              obtain ⟨b, off, sp⟩ := a
              simp only at hspot
              obtain ⟨rfl, hheap⟩ := hspot
              refine ⟨(List.range len).map fun i => (f i).1, .node b off cap ((List.range len).map fun i => (f i).2), ?_, hwf⟩
              simp only [Rep]
              refine ⟨_, rfl, .inr ⟨b, off, cap, _, rfl, by simp, by simpa using hl, by simp, hheap, (fun h => by cases h), fun i y r hy hr => ?_⟩⟩
              have hi : i < len := by
                have := (List.getElem?_eq_some_iff.1 hy).1
                simpa using this
              simp only [List.getElem?_map, List.getElem?_range hi, Option.map_some, Option.some.injEq] at hy hr
              subst hy hr
              obtain ⟨cs', h1, r1, _⟩ := hf i hi
              obtain ⟨_, h2, h3⟩ := World.cells?_some h1
              refine ⟨cs', fun j v hj => ?_, r1⟩
              have hjl : j < P.cellsOf e := by rw [← h2]; exact (List.getElem?_eq_some_iff.1 hj).1
              have h4 := h3 j hjl
              rw [hj] at h4
              rw [← h4, ← hsz]
              congr 1
              simp only [Addr.add]
              split <;> split <;> simp_all [Nat.add_assoc]
        · simp at h
      · simp at h
    · rename_i fs hu
      split at h
      · rename_i k' hk
        split at h
        · rename_i hsz
          have hsz := Nat.eq_of_beq_eq_true hsz
          simp only [Option.some.injEq] at h
          subst h
          obtain ⟨xs, n', rfl, rfl, hl, hxl, hf⟩ := DataW.trod_struct hu hx
          have := trod_fields (P := P) (w := w) (base := base) (spare := spare) (held := held) (n := n') (enc := enc) (g := tyRep P m) (fun t k cs x h1 h2 => trod_rep m n' t k cs x h1 h2) cs fs.toList 0 k' hk (by omega) (fun f hfm => by
            obtain ⟨i, hi⟩ := List.getElem?_of_mem hfm
            have h1 := hf i f (by simpa using hi)
            have hil : i < xs.length := by rw [hxl]; have := (List.getElem?_eq_some_iff.1 hi).1; simpa using this
            rw [List.getElem?_eq_getElem hil] at h1
            exact ⟨_, h1⟩)
          obtain ⟨y, L, r1, r2⟩ := this
          rw [List.drop_zero, List.take_of_length_le (by omega)] at r1
          exact ⟨y, L, r1, r2⟩
        · simp at h
      · simp at h
    · simp at h

end Go.Mach
/- The machine, part no: a law's call. No condition: lemmas. -/
namespace Go.Mach
open Go.RowKit
set_option linter.unusedVariables false
set_option linter.unusedSimpArgs false

/-- Data as a law's argument: a struct, or not. -/
def topV (g : Bool × Sg) : Val := (match g.1 with | true => .agg | false => .one, (leaves g.2.1 g.2.2).map fun g => .dat g.1 g.2)

/-- A value that is such data. -/
def TopK (W : World) (g : Bool × Sg) (u : Value) : Prop := ∃ L vs, Rep false W g.2.1 g.2.2 L vs ∧ u = form (topV g).1 vs

/-- A type of structs? -/
def isStruct (P : Program) (t : Nat) : Bool := match P.underlying t with
  | some (.struct _) => true
  | _ => false

theorem topK_of {H : Type} {enc : TypeId × Value → H} {P : Program} {w : World} {sp : Nat → Bool} {held : Bool} {m t : Nat} {k : K} (hk : tyRep P m t = some k) {r : Reach} {b0 base : Nat} {v : Value} {d : DataW H} {ps : List MemPlace}
    (hval : Value.okWide P w r b0 t v) (hd : DataW.Trod enc P w base sp held t v d ps) : ∃ y : k.T, Wf k y ∧ TopK w (isStruct P t, ⟨k, y⟩) v := by
  obtain ⟨n, hd⟩ := hd
  obtain ⟨y, L, h1, h2⟩ := trod_rep m n t k _ _ hk hd
  refine ⟨y, h2, L, _, h1, ?_⟩
  cases m with
  | zero => simp [tyRep] at hk
  | succ m =>
    simp only [tyRep] at hk
    split at hk
    · rename_i q hu
      obtain ⟨z, rfl⟩ := Go.WideShapes.okWide_int hu hval
      simp [topV, isStruct, hu, form, Value.cells]
    · rename_i hu
      obtain ⟨z, rfl⟩ := Go.WideShapes.okWide_bool hu hval
      simp [topV, isStruct, hu, form, Value.cells]
    · rename_i hu
      obtain ⟨z, rfl⟩ := Go.WideShapes.okWide_string hu hval
      simp [topV, isStruct, hu, form, Value.cells]
    · rename_i e hu
      obtain ⟨a, len, cap, rfl⟩ := Go.WideShapes.okWide_slice hu hval
      simp [topV, isStruct, hu, form, Value.cells]
    · rename_i fs hu
      obtain ⟨cs, rfl, _⟩ := Go.WideShapes.okWide_struct hu hval
      simp [topV, isStruct, hu, form, Value.cells]
    · simp at hk

theorem sendCs_dat {t : Tr} {lent : List (Nat × Nat)} : ∀ {cs : List C}, (∀ c ∈ cs, ∃ k x, c = .dat k x) → sendCs t lent cs = some cs
  | [], _ => rfl
  | c :: r, h => by
    obtain ⟨k, x, rfl⟩ := h c (by simp)
    have ih := sendCs_dat (t := t) (lent := lent) (cs := r) fun c hc => h c (by simp [hc])
    simp only [sendCs, sendC, snap, ih]

theorem law_calls {P : Program} [Tabs P] {f : Nat} {t : FEnt} (hok : FnOk P f t) (hmd : t.md = []) (d : AsT t.args) (b : t.out.T) (hT : t.T d = some b) {r : Bool} (hret0 : (retOf t.n t.results [] (encA t.args d) (t.out.enc b)).map (·.1) = some (.one, [.dat .bool r]))
    (gs : List (Bool × Sg)) (hgs : encA t.args d = gs.map topV) {W : World} {us : List Value} (hlen : us.length = gs.length) (hus : ∀ (i : Nat) g u, gs[i]? = some g → us[i]? = some u → TopK W g u)
    (hlaid : ∀ t ∈ Tabs.tab P, ∃ o, W.heap[t.1]? = some o ∧ t.2 o) :
    Calls P f us.toArray W fun e W' => e = .returned (.bool r) ∧ Below W.heap.size W W' := by
  obtain ⟨os, hret⟩ : ∃ os, retOf t.n t.results [] (encA t.args d) (t.out.enc b) = some ((.one, [.dat .bool r]), os) := by
    cases hq : retOf t.n t.results [] (encA t.args d) (t.out.enc b) with
    | none => rw [hq] at hret0; simp at hret0
    | some z =>
      rw [hq] at hret0
      simp only [Option.map_some, Option.some.injEq] at hret0
      exact ⟨z.2, by rw [← hret0]⟩
  obtain ⟨hN, fn, _, _, _, hrv, hcall⟩ := hok
  let G : Gh := { vs := fun _ => [], lt := fun _ _ => .leaf, bk := fun _ => 0, ow := fun _ => none }
  have hi : Inv 0 [] #[] W G := ⟨rfl, Nat.le_refl _, fun s => SlotOk.nothing (get_out (by simp)), fun b s h => by simp [G] at h⟩
  have hal : (encA t.args d).length = t.args.length := encA_length
  have hgl : gs.length = t.args.length := by rw [← hal, hgs]; simp
  have hdat : ∀ v ∈ encA t.args d, ∀ c ∈ v.2, ∃ k x, c = C.dat k x := by
    intro v hv c hc
    rw [hgs] at hv
    simp only [List.mem_map] at hv
    obtain ⟨g, _, rfl⟩ := hv
    simp only [topV, List.mem_map] at hc
    obtain ⟨g', _, rfl⟩ := hc
    exact ⟨_, _, rfl⟩
  have hargs : ArgsOk [] W G (encA t.args d) us := by
    refine ⟨by rw [hal, hlen, hgl], fun i v u hv hu => ?_⟩
    rw [hgs] at hv
    simp only [List.getElem?_map] at hv
    cases hg : gs[i]? with
    | none => rw [hg] at hv; simp at hv
    | some g =>
      rw [hg] at hv
      simp only [Option.map_some, Option.some.injEq] at hv
      subst hv
      obtain ⟨L, vs, h1, h2⟩ := hus i g u hg hu
      have hvl := h1.size
      refine ⟨vs, fun j => leafL g.2.1 L j, ⟨⟨by simp only [topV, List.length_map, leaves_length]; exact hvl, fun j c x hc hx => ?_⟩, h2, ?_, ?_, ?_⟩⟩
      · simp only [topV, List.getElem?_map] at hc
        have hjl : j < g.2.1.size := by rw [← hvl]; exact (List.getElem?_eq_some_iff.1 hx).1
        rw [leaves_get g.2.1 g.2.2 j hjl] at hc
        simp only [Option.map_some, Option.some.injEq] at hc
        subst hc
        obtain ⟨v, q1, q2, _⟩ := h1.leaf hjl
        rw [hx] at q1
        simp only [Option.some.injEq] at q1
        subst q1
        exact ⟨q2, fun b _ => rfl⟩
      · intro c hc
        simp only [topV, List.mem_map] at hc
        obtain ⟨g', _, rfl⟩ := hc
        rfl
      · intro bv; simp only [topV]; cases g.1 <;> simp
      · simp only [topV]; cases g.1 <;> simp
  have ht : Sees (Tr.at { get := Env.get [] }) [] := fun s => .inl rfl
  obtain ⟨Gc, hi0, how⟩ := start_inv hi ht hargs rfl (fun j v v' h1 h2 => by
    rw [h1] at h2
    simp only [Option.some.injEq] at h2
    subst h2
    exact ⟨rfl, sendCs_dat (hdat v (List.mem_of_getElem? h1))⟩) (N := t.n) (by rw [hal]; exact hN) [] (fun v hv s hs => by
      exfalso
      simp only [List.mem_flatMap] at hs
      obtain ⟨c, hc, hs⟩ := hs
      obtain ⟨k, x, rfl⟩ := hdat v hv c hc
      simp [readCell, C.targets] at hs) (t.n + 2 * t.args.length)
  refine (hcall d b hT (by rw [hmd, hret]; rfl) us W Gc (by rw [hlen, hgl]) (by rw [hmd]; exact hi0) (fun z hz => ⟨hlaid z hz, by rw [how]; simp [owIn, G]⟩)).mono ?_
  rintro en w1 ⟨tm1, G1, u1, rfl, hrun1, hi1, hh, hsz, hle, henv⟩
  obtain ⟨e2, G2, H, us', Ls, bk, hr, _⟩ := ret_ok hrv hi1 hret
  have hul := hr.len
  match us', hul with
  | [u], _ =>
    have hc := hr.cell 0 _ u rfl rfl
    simp only [ResOk, Rep] at hc
    have hu : u = .bool r := by simpa using hc.1
    have hres : u1 = resForm .one [u] bk := by
      have := hrun1.symm.trans hr.res
      simpa using this
    refine ⟨by rw [hres, hu]; rfl, henv.os, henv.tape, henv.output, hsz, fun k hk => ?_⟩
    refine (hh.still k ?_ (by simp [hk])).1
    rw [how]
    rfl

end Go.Mach
/- The machine, part np: how a function's book entry is proved. No condition: lemmas. -/
namespace Go.Mach
set_option linter.unusedVariables false
set_option linter.unusedSimpArgs false

def isLoop : Code → Bool
  | .loop _ => true
  | _ => false

/-- How a loop's body ends. -/
def bodyK (n : Nat) (t : NEnt) : Ex → Env → Option (t.P.T ⊕ OutT t.outs)
  | .normal, e => (t.P.dec n e).map .inl
  | ex, e => (decOut n t.outs ex e).map .inr

theorem nodeLoop {x : Ctx} {bk : Book} {tb : Tab} {root : Code} {pos : Nat} {t : NEnt} (hl : isLoop (sub root pos) = true) (S : t.P.T → Option (t.P.T ⊕ OutT t.outs)) (hT : t.T = fun d => iter S bigN d)
    (hrun : ∀ d, runD x bk tb (2 * pos) (childC 0 (sub root pos)) (t.P.enc d) (bodyK x.n t) = S d) : NodeOk x bk tb root pos t := by
  left
  cases hs : sub root pos <;> rw [hs] at hl <;> simp [isLoop] at hl
  rename_i a
  refine ⟨a, rfl, S, hT, fun d => ?_⟩
  have := hrun d
  rw [hs] at this
  have hk : (bodyK x.n t) = fun ex e => match ex with | .normal => (t.P.dec x.n e).map .inl | ex => (decOut x.n t.outs ex e).map .inr := by
    funext ex e
    cases ex <;> rfl
  rw [hk] at this
  exact this

theorem nodeJoin {x : Ctx} {bk : Book} {tb : Tab} {root : Code} {pos : Nat} {t : NEnt} (hl : isLoop (sub root pos) = false)
    (hrun : ∀ d, runD x bk tb pos (sub root pos) (t.P.enc d) (decOut x.n t.outs) = t.T d) : NodeOk x bk tb root pos t := by
  right
  refine ⟨hrun, fun a h => ?_⟩
  rw [h] at hl
  simp [isLoop] at hl

/-- What is looked at once. -/
def entOk (fn : Func) (bk : Book) (t : FEnt) : Bool :=
  Nat.beq fn.ntmps t.n && Nat.ble t.args.length t.n && Nat.ble t.n 1000000 && !(fn.name == "runtime.NumGoroutine")

theorem fnOk_mk {P : Program} [Tabs P] {f : Nat} {fn : Func} {c : Code} {bk : Book} {tb : Tab} {t : FEnt} (hm : P.follows .mixedOrders = true) (hf : P.funcs[f]? = some fn) (hbk : BookOk P bk) (hb : fn.body = some c) (hres : rvsB P fn.results.toList t.results = true)
    (hok : entOk fn bk t = true) (hnodes : Nodes (ctxOf P fn bk) bk tb c tb)
    (hrun : ∀ d, runD (ctxOf P fn bk) bk tb 1 c (startE t.n t.md (encA t.args d)) (finK (n := t.n) t.out) = t.T d) : FnOk P f t := by
  simp only [entOk, Bool.and_eq_true] at hok
  obtain ⟨⟨⟨h1, h2⟩, h4⟩, h7⟩ := hok
  exact fnOk_of_run (ctxOf_sound hbk) hf hb (Nat.eq_of_beq_eq_true h1) hres (Nat.le_of_ble_eq_true h2) (Nat.le_of_ble_eq_true h4) (by simpa using h7) hm hnodes hrun

end Go.Mach
/- The machine, part nz: functions of the library by their contracts. No condition: lemmas. -/
namespace Go.Mach
open Go.RowKit
set_option linter.unusedVariables false
set_option linter.unusedSimpArgs false

theorem SlotOk.deadOne {n : Nat} {e : Env} {tm : Array Value} {w : World} {G : Gh} {s : Nat} (h : e.get s = dd) : SlotOk n e tm w G s := by
  refine ⟨?_, ?_, ?_, ?_, ?_, ?_, ?_, ?_⟩ <;> rw [h]
  · intro _; trivial
  · intro bv hb; cases hb
  · intro hh; exact absurd rfl hh
  · intro hh; exact absurd rfl hh
  · intro hh; exact absurd rfl hh
  · simp [fpS, dd]
  · simp [fpS, dd]
  · intro _; rfl

theorem get_over {e : Env} {t : Nat} (h : e.length ≤ t) : e.get t = {} := get_out (by omega)

theorem encE_one : ∀ (m i t : Nat) (p : SP) (d : CsT p.cs), t < m → Env.get (encE i m [p] d) t = if p.s = i + t then encS p d else dd := by
  intro m
  induction m with
  | zero => intro i t p d h; omega
  | succ m ih =>
    intro i t p d h
    simp only [encE]
    cases hb : Nat.beq p.s i with
    | true =>
      have hb' := Nat.eq_of_beq_eq_true hb
      cases t with
      | zero => simp [Env.get, hb']
      | succ t =>
        have := encE_nil m (i + 1) t (by omega)
        rw [if_neg (by omega)]
        simpa [Env.get] using this
    | false =>
      have hb' : p.s ≠ i := fun q => by rw [q] at hb; simp at hb
      cases t with
      | zero => simp [Env.get, hb']
      | succ t =>
        have := ih (i + 1) t p d (by omega)
        rw [show i + (t + 1) = i + 1 + t by omega]
        simpa [Env.get] using this

/-- An argument that is plain data. -/
theorem arg_dat {n : Nat} {vals : List Val} {us : List Value} {w : World} {G : Gh} (hn : vals.length ≤ n) (hl : us.length = vals.length) (hi : Inv n (startE n [] vals) (us.toArray ++ Array.replicate (n - us.length) undef) w G)
    {i : Nat} {k : K} {x : k.T} (hv : vals[i]? = some (.one, [.dat k x])) : ∃ u L, us[i]? = some u ∧ Rep false w k x L [u] ∧ ∀ b ∈ fp k L, G.ow b = none := by
  have hil := (List.getElem?_eq_some_iff.1 hv).1
  have hg : (startE n [] vals).get i = { sh := .one, cs := [.dat k x], cnt := 1 } := by
    rw [((startE_slots (n := n) (md := []) hn).2.1 i _ hv).1]
    simp [slotA]
  have hs := hi.slot i
  have hform := hs.form (by omega)
  rw [hg] at hform
  have hlen := hs.len (by rw [hg]; simp)
  rw [hg] at hlen
  match hvs : G.vs i, hlen with
  | [u], _ =>
    have hc := hs.cells (by rw [hg]; simp) 0 (.dat k x) u (by rw [hg]; rfl) (by rw [hvs]; rfl)
    have h2 : (us.toArray ++ Array.replicate (n - us.length) undef)[i]? = some u := by
      have : FormIs (us.toArray ++ Array.replicate (n - us.length) undef) i .one [u] (G.bk i) := by rw [← hvs]; exact hform
      exact this
    rw [Array.getElem?_append_left (by simp; omega)] at h2
    simp only [List.getElem?_toArray] at h2
    exact ⟨u, _, h2, hc.1, hc.2⟩

/-- A function of the library that reads data and answers data; what lists it answers are new. -/
theorem fnOk_extL {P : Program} [Tabs P] {f : Nat} {fn : Func} {n r : Nat} {k : K} {args : List (PSh × List PC)} {T : AsT args → Option k.T}
    (hf : P.funcs[f]? = some fn) (hbody : fn.body.isNone = false) (hname : (fn.name == "runtime.NumGoroutine") = false) (hres : fn.results.toList = [.tmp r]) (hN : args.length ≤ n) (hr : r < n)
    (hcall : ∀ (d : AsT args) (b : k.T), T d = some b → ∀ (us : List Value) (w : World) (G : Gh), us.length = (encA args d).length → Inv n (startE n [] (encA args d)) (us.toArray ++ Array.replicate (n - us.length) undef) w G → Laid P w G →
      Calls P f us.toArray w fun en w' => ∃ u L, en = .returned u ∧ Rep false w' k b L [u] ∧ (∀ b' ∈ fp k L, w.heap.size ≤ b') ∧ Below w.heap.size w w') :
    FnOk P f ⟨n, [.tmp r], [], args, ⟨n + 2 * args.length, [⟨r, .one, [.dat k]⟩]⟩, T⟩ := by
  refine ⟨hN, fn, hf, hbody, hname, by rw [hres]; simp [rvsB, rvB], fun d b hT _ us w G hus hi hlaid => ?_⟩
  refine (hcall d b hT us w G (by rw [encA_length]; exact hus) hi hlaid).mono ?_
  rintro en w' ⟨u, L, rfl, hrep, hnew, hb⟩
  have hgetr : Env.get (EP.enc ⟨n + 2 * args.length, [⟨r, .one, [.dat k]⟩]⟩ b) r = { sh := .one, cs := [.dat k b], cnt := 1 } := by
    have := encE_one (n + 2 * args.length) 0 r ⟨r, .one, [.dat k]⟩ b (by omega)
    rw [if_pos (by simp)] at this
    exact this
  have hgeto : ∀ s, s ≠ r → Env.get (EP.enc ⟨n + 2 * args.length, [⟨r, .one, [.dat k]⟩]⟩ b) s = dd ∨ Env.get (EP.enc ⟨n + 2 * args.length, [⟨r, .one, [.dat k]⟩]⟩ b) s = {} := by
    intro s hs
    rcases Nat.lt_or_ge s (n + 2 * args.length) with h | h
    · left
      have := encE_one (n + 2 * args.length) 0 s ⟨r, .one, [.dat k]⟩ b h
      rw [if_neg (by simp; omega)] at this
      exact this
    · right
      exact get_over (by simp only [EP.enc, encE_length]; exact h)
  have hold : ∀ b, w.heap[b]? ≠ none → b < w.heap.size := fun b h => by
    rcases Nat.lt_or_ge b w.heap.size with g | g
    · exact g
    · exact absurd (by simp [g]) h
  let G1 : Gh := { vs := fun s => if s = r then [u] else G.vs s, lt := fun s j => if s = r then L else G.lt s j, bk := G.bk, ow := G.ow }
  have hsz : (EP.enc ⟨n + 2 * args.length, [⟨r, .one, [.dat k]⟩]⟩ b).length = n + 2 * args.length := by simp only [EP.enc, encE_length]
  refine ⟨(Array.replicate n undef).setIfInBounds r u, G1, u, rfl, ?_, ⟨by simp, by rw [hsz]; exact Nat.le_add_right _ _, fun s => ?_, fun b s h => Nat.lt_of_lt_of_le (hi.lt b s h) hb.size⟩, ⟨fun b h1 h2 => ⟨hb.block b (hold b h2), h1⟩, fun s hs => ⟨fun _ => ⟨?_, fun j => ?_⟩, rfl⟩, fun b t h1 _ h2 => ⟨hb.block b (hold b h2), h1⟩⟩, hb.size, hsz, ⟨hb.os, hb.tape, hb.output⟩⟩
  · have := results_ok (P := P) (fn := fn) (tm := (Array.replicate n undef).setIfInBounds r u) (w := w') (r := [u]) (by
      rw [hres]
      simp only [List.mapM_cons, List.mapM_nil, resM]
      have : ((Array.replicate n undef).setIfInBounds r u).getD r undef = u := by simp [Array.getD, hr]
      rw [this]
      rfl)
    exact this
  · by_cases hs : s = r
    · subst hs
      refine ⟨fun _ => ?_, fun bv hbv => ?_, fun _ => ?_, fun _ j c v hc hv => ?_, fun _ j rv sv d k l hc => ?_, ?_, ?_, fun h => ?_⟩
      · rw [hgetr]
        have hv : G1.vs s = [u] := by simp [G1]
        rw [hv]
        show ((Array.replicate n undef).setIfInBounds s u)[s]? = some u
        simp [hr]
      · rw [hgetr] at hbv; cases hbv
      · rw [hgetr]; simp [G1]
      · rw [hgetr] at hc
        have hvs : G1.vs s = [u] := by simp [G1]
        have hlt : G1.lt s j = L := by simp [G1]
        rw [hvs] at hv
        rw [hlt]
        match j with
        | 0 =>
          simp only [List.getElem?_cons_zero, Option.some.injEq] at hc hv
          subst hc hv
          refine ⟨hrep, fun b' hb' => ?_⟩
          show G.ow b' = none
          have h1 := hnew b' hb'
          cases hb2 : G.ow b' with
          | none => rfl
          | some t =>
            have := hi.lt b' t hb2
            omega
        | j + 1 => simp at hc
      · rw [hgetr] at hc
        match j with
        | 0 => simp at hc
        | j + 1 => simp at hc
      · rw [hgetr]; simp [fpS, fpCells, ownB]
      · rw [hgetr]; simp [fpS, fpCells, ownB]
      · rw [hgetr] at h; cases h
    · rcases hgeto s hs with h | h
      · exact SlotOk.deadOne h
      · exact SlotOk.nothing h
  · have hs' : n ≤ s := hs
    simp only [G1]; rw [if_neg (by omega)]
  · have hs' : n ≤ s := hs
    simp only [G1]; rw [if_neg (by omega)]

/-- A function of the library that reads data and answers data without slices. -/
theorem fnOk_ext {P : Program} [Tabs P] {f : Nat} {fn : Func} {n r : Nat} {k : K} {args : List (PSh × List PC)} {T : AsT args → Option k.T}
    (hf : P.funcs[f]? = some fn) (hbody : fn.body.isNone = false) (hname : (fn.name == "runtime.NumGoroutine") = false) (hres : fn.results.toList = [.tmp r]) (hN : args.length ≤ n) (hr : r < n) (hk : ∀ L, fp k L = [])
    (hcall : ∀ (d : AsT args) (b : k.T), T d = some b → ∀ (us : List Value) (w : World) (G : Gh), us.length = (encA args d).length → Inv n (startE n [] (encA args d)) (us.toArray ++ Array.replicate (n - us.length) undef) w G → Laid P w G →
      Calls P f us.toArray w fun en w' => ∃ u, en = .returned u ∧ (∀ w2, Rep false w2 k b .leaf [u]) ∧ Below w.heap.size w w') :
    FnOk P f ⟨n, [.tmp r], [], args, ⟨n + 2 * args.length, [⟨r, .one, [.dat k]⟩]⟩, T⟩ :=
  fnOk_extL hf hbody hname hres hN hr fun d b hT us w G hl hi hlaid => (hcall d b hT us w G hl hi hlaid).mono fun en w' ⟨u, e1, e2, e3⟩ => ⟨u, .leaf, e1, e2 w', fun b' hb' => by rw [hk] at hb'; simp at hb', e3⟩

end Go.Mach
