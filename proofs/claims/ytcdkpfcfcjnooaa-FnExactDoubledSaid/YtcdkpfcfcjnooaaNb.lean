/- The machine, part nb: every operation is sound (calls by their contract); one step of a region. No condition: lemmas. -/
import Derived.Test.YtcdkpfcfcjnooaaNa
namespace Go.Mach
set_option linter.unusedVariables false
set_option linter.unusedSimpArgs false

/-- What is asked of a machine's book: its types are the program's; its calls are sound. -/
structure CtxOk (P : Program) (x : Ctx) : Prop where
  ty : ∀ t, x.ty t = tyOf P t
  call : ∀ {e : Env} {a : Act} {w : World} {G : Gh} {get : Nat → Slot} {o : Oper} {c0 : Call} {f : Operand} {g : Nat} {caps : List C} {vs : List Val} {t2 : Tr},
    Begin x.n e a w G get o → o.op = .call c0 → c0.callee = .value f → opd get f = some (.one, [.fn g caps]) → opds get c0.args.toList = some vs →
    callC x { get, d := o.dst } o.dst g (vs ++ caps.map fun c => (.one, [c])) = some t2 → Sound P x.n e a w G o t2.ws
  agg : ∀ {e : Env} {a : Act} {w : World} {G : Gh} {get : Nat → Slot} {o : Oper} {op : BinOp} {ty yt : TypeId} {y z : Operand} {cs ds : List C} {ws : Writes},
    Begin x.n e a w G get o → o.op = .binOp op ty y z yt → opd get y = some (.agg, cs) → opd get z = some (.agg, ds) → act x get o = some ws → Sound P x.n e a w G o ws

theorem act_sound {P : Program} {x : Ctx} (hx : CtxOk P x) {e : Env} {a : Act} {w : World} {G : Gh} {get : Nat → Slot} {o : Oper} {ws : Writes} (hb : Begin x.n e a w G get o) (h : act x get o = some ws) : Sound P x.n e a w G o ws := by
  have hty := hx.ty
  cases ho : o.op with
  | move y => exact sound_move hb ho h
  | assign y => exact sound_assign hb ho h
  | pick y z t => exact sound_pick hb ho h
  | alloc t => exact sound_alloc hty hb ho h
  | box t y => exact sound_box hty hb ho h
  | build t ps => exact sound_build hty hb ho h
  | buildSlice t m ps => exact sound_buildSlice hty hb ho h
  | load t y => exact sound_load hty hb ho h
  | store t y z => exact sound_store hty rfl hb ho h
  | nilCheck y => exact sound_nilCheck hb ho h
  | binOp op t y z yt => exact sound_binOp hty hb ho (fun cs ds h1 h2 => hx.agg hb ho h1 h2 h) h
  | unOp op t y => exact sound_unOp hb ho h
  | convert s d y => exact sound_convert hty hb ho h
  | makeFunc f fi caps => exact sound_makeFunc hb ho h
  | makeSlice t y z => exact sound_makeSlice hty hb ho h
  | slice t y lo hi mx =>
    cases mx with
    | none => exact sound_slice hty hb ho h
    | some m => simp [act, ho] at h
  | fieldAddr t y f => exact sound_fieldAddr hty hb ho h
  | field t y f => exact sound_field hty hb ho h
  | indexAddr t y z => exact sound_indexAddr hty hb ho h
  | index t y z => exact sound_index hty hb ho h
  | extract y i => exact sound_extract hb ho h
  | call c0 =>
    simp only [act, ho] at h
    split at h
    · rename_i b hcb
      split at h
      · rename_i c hc
        split at h
        · simp at h
        · rename_i hq
          split at h
          · rename_i m hm
            exact sound_len hty hb ho hcb (eq_true_of_ne_false fun q => hq (.inl q)) hc (eq_true_of_ne_false fun q => hq (.inr q)) hm h
          · simp at h
      · rename_i ca cb hc
        split at h
        · simp at h
        · rename_i hq
          split at h
          · rename_i t2 c hap
            exact sound_append hty hb ho hcb (eq_true_of_ne_false fun q => hq (.inl q)) (eq_true_of_ne_false fun q => hq (.inr (.inl q))) hc (eq_true_of_ne_false fun q => hq (.inr (.inr q))) hap h
          · simp at h
      · rename_i k p k' q hc
        split at h
        · rename_i hk
          subst hk
          exact sound_max hb ho hcb hc h
        · simp at h
      · rename_i k p k' q hc
        split at h
        · rename_i hk
          subst hk
          exact sound_min hb ho hcb hc h
        · simp at h
      · simp at h
    · rename_i f hcf
      split at h
      · rename_i g caps vs hf hvs
        cases hc : callC x { get, d := o.dst } o.dst g (vs ++ caps.map fun c => (.one, [c])) with
        | none => rw [hc] at h; simp at h
        | some t2 =>
          rw [hc] at h
          simp only [Option.map_some, Option.some.injEq] at h
          subst h
          exact hx.call hb ho hcf hf hvs hc
      · simp at h
    · simp at h
  | _ => simp [act, ho] at h

/-! ### One step -/
theorem wantedOk {n : Nat} {e : Env} {a : Act} {w : World} {G : Gh} (h : Inv n e a.tmps w G) {ops : Array Oper} {o : Oper} (hin : ∀ s ∈ guardSlots ops o, s < n) {b : Bool} (hw : wanted e (guardOf ops o) = some b) (hlen : n ≤ 1000000) :
    Region.wanted o (yielded ops a.tmps) = b := by
  unfold Region.wanted
  cases hg : o.guard with
  | none => simp only [guardOf, hg, wanted, Option.some.injEq] at hw; exact hw
  | some p =>
    obtain ⟨j, want⟩ := p
    simp only [guardOf, hg, guardSlots, wanted] at hw hin
    cases hd : (ops[j]?).bind (·.dst) with
    | none =>
      rw [hd] at hin
      simp at hin
      omega
    | some d =>
      rw [hd] at hw hin
      simp only [Option.getD_some, List.mem_singleton, forall_eq] at hw hin
      have hs := h.slot d
      have hf := hs.form hin
      simp only [yielded, hd, Option.bind_some]
      split at hw
      · rename_i b' hsh hcs
        simp only [Option.some.injEq] at hw
        subst hw
        have hl := hs.len (by rw [hsh]; simp)
        rw [hcs] at hl
        match hvs : G.vs d, hl with
        | [v], _ =>
          have hc := hs.cells (by rw [hsh]; simp) 0 _ v (by rw [hcs]; rfl) (by rw [hvs]; rfl)
          have hv := dat_bool hc
          subst hv
          rw [hsh] at hf
          simp only [FormIs, hvs] at hf
          rw [hf]
          simp only [form, List.headD_cons]
          cases b' <;> cases want <;> rfl
      · rename_i hsh
        simp only [Option.some.injEq] at hw
        subst hw
        rw [hsh] at hf
        simp only [FormIs, form, cutVals] at hf
        rw [hf]
        cases want <;> rfl
      · simp at hw

theorem skip_ok {n : Nat} {e : Env} {a : Act} {w : World} {G : Gh} (h : Inv n e a.tmps w G) {o : Oper} (hd : ∀ d, o.dst = some d → d < n) : ∃ G', Post n (e.puts (skipWs e o)) a w G (a.put o.dst undef) w G' := by
  have ht : TrOk e { get := e.get, d := o.dst } e := TrOk.start (fun s => .inl rfl) (fun _ _ => rfl)
  have hv : ValOk e w G (.tup [], []) undef [] (fun _ => .leaf) := ⟨⟨rfl, fun j c v hc _ => by simp at hc⟩, by simp [form, cutVals, undef], by simp, by simp, by simp⟩
  obtain ⟨G', hp⟩ := lay_quiet h ht Held.refl hv hd
  refine ⟨G', ?_⟩
  cases hdd : o.dst with
  | none => rw [hdd] at hp; simpa [skipWs, hdd, Tr.lay] using hp
  | some d => rw [hdd] at hp; simpa [skipWs, hdd, Tr.lay, Tr.put, Tr.at, Env.puts] using hp

theorem stepA_begin {x : Ctx} {ops : Array Oper} {e : Env} {o : Oper} {s : Step} (h : stepA x ops e o = some s) : (∀ t ∈ opSlots o, t < x.n) ∧ (∀ t ∈ guardSlots ops o, t < x.n) ∧
    ((wanted e (guardOf ops o) = some false ∧ s = { ws := skipWs e o, reads := guardSlots ops o ++ o.dst.toList }) ∨
     (wanted e (guardOf ops o) = some true ∧ ∃ ws, act x (fun s => if (looks e o).contains s then e.get s else {}) o = some ws ∧ s = { ws, reads := guardSlots ops o ++ looks e o })) := by
  unfold stepA at h
  split at h
  · simp at h
  · rename_i hin
    have hin : (opSlots o).all (· < x.n) = true ∧ (guardSlots ops o).all (· < x.n) = true := by
      cases h1 : (opSlots o).all (· < x.n) <;> cases h2 : (guardSlots ops o).all (· < x.n) <;> simp_all
    refine ⟨by simpa using hin.1, by simpa using hin.2, ?_⟩
    split at h
    · simp at h
    · rename_i hw
      simp only [Option.some.injEq] at h
      exact .inl ⟨hw, h.symm⟩
    · rename_i hw
      split at h
      · simp at h
      · rename_i ws hws
        simp only [Option.some.injEq] at h
        exact .inr ⟨hw, ws, hws, h.symm⟩

theorem begin_looks {n : Nat} {e : Env} {a : Act} {w : World} {G : Gh} {o : Oper} (h : Inv n e a.tmps w G) (hin : ∀ t ∈ opSlots o, t < n) : Begin n e a w G (fun s => if (looks e o).contains s then e.get s else {}) o := by
  refine ⟨h, fun s => ?_, fun d hd => ?_, hin⟩
  · by_cases q : (looks e o).contains s = true
    · left; rw [if_pos q]
    · right; rw [if_neg q]
  · have : (looks e o).contains d = true := by
      have h1 : d ∈ opSlots o := by simp [opSlots, hd]
      simp only [looks]
      split <;> simp [h1]
    rw [if_pos this]

/-- A step stands for the model's. -/
theorem stepA_sound {P : Program} {x : Ctx} (hx : CtxOk P x) (hlen : x.n ≤ 1000000) {ops : Array Oper} {e : Env} {a : Act} {w : World} {G : Gh} {i : Nat} {o : Oper} (ho : ops[i]? = some o) {s : Step} (hi : Inv x.n e a.tmps w G)
    (h : stepA x ops e o = some s) (K : Act → World → Prop) (Q : Exit → Act → World → Prop) (hk : ∀ a' w' G', Post x.n (e.puts s.ws) a w G a' w' G' → K a' w') : wpOp P ops Q i K a w := by
  obtain ⟨h1, h2, h3⟩ := stepA_begin h
  unfold wpOp
  simp only [ho]
  rcases h3 with ⟨hw, rfl⟩ | ⟨hw, ws, hws, rfl⟩
  · rw [wantedOk hi h2 hw hlen]
    obtain ⟨G', hp⟩ := skip_ok (o := o) hi (fun d hd => h1 d (by simp [opSlots, hd]))
    simp only [Bool.false_eq_true, if_false]
    exact hk _ _ _ hp
  · rw [wantedOk hi h2 hw hlen]
    simp only [if_true]
    exact .inl (act_sound hx (begin_looks hi h1) hws K Q hk)

end Go.Mach
