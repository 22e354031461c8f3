/- The machine, part no: a law's call. No condition: lemmas. -/
import Derived.Test.YtcdkpfcfcjnooaaNn
namespace Go.Mach
open Go.RowKit
set_option linter.unusedVariables false
set_option linter.unusedSimpArgs false

/-- Data as a law's argument: a struct, or not. -/
def topV (g : Bool × Sg) : Val := (match g.1 with | true => .agg | false => .one, (leaves g.2.1 g.2.2).map fun g => .dat g.1 g.2)

/-- A value that is such data. -/
def TopK (W : World) (g : Bool × Sg) (u : Value) : Prop := ∃ L vs, Rep false W g.2.1 g.2.2 L vs ∧ u = form (topV g).1 vs

/-- A type of structs? -/
def isStruct (P : Program) (t : Nat) : Bool := match P.underlying t with
  | some (.struct _) => true
  | _ => false

theorem topK_of {H : Type} {enc : TypeId × Value → H} {P : Program} {w : World} {sp : Nat → Bool} {held : Bool} {m t : Nat} {k : K} (hk : tyRep P m t = some k) {r : Reach} {b0 base : Nat} {v : Value} {d : DataW H} {ps : List MemPlace}
    (hval : Value.okWide P w r b0 t v) (hd : DataW.Trod enc P w base sp held t v d ps) : ∃ y : k.T, Wf k y ∧ TopK w (isStruct P t, ⟨k, y⟩) v := by
  obtain ⟨n, hd⟩ := hd
  obtain ⟨y, L, h1, h2⟩ := trod_rep m n t k _ _ hk hd
  refine ⟨y, h2, L, _, h1, ?_⟩
  cases m with
  | zero => simp [tyRep] at hk
  | succ m =>
    simp only [tyRep] at hk
    split at hk
    · rename_i q hu
      obtain ⟨z, rfl⟩ := Go.WideShapes.okWide_int hu hval
      simp [topV, isStruct, hu, form, Value.cells]
    · rename_i hu
      obtain ⟨z, rfl⟩ := Go.WideShapes.okWide_bool hu hval
      simp [topV, isStruct, hu, form, Value.cells]
    · rename_i hu
      obtain ⟨z, rfl⟩ := Go.WideShapes.okWide_string hu hval
      simp [topV, isStruct, hu, form, Value.cells]
    · rename_i e hu
      obtain ⟨a, len, cap, rfl⟩ := Go.WideShapes.okWide_slice hu hval
      simp [topV, isStruct, hu, form, Value.cells]
    · rename_i fs hu
      obtain ⟨cs, rfl, _⟩ := Go.WideShapes.okWide_struct hu hval
      simp [topV, isStruct, hu, form, Value.cells]
    · simp at hk

theorem sendCs_dat {t : Tr} {lent : List (Nat × Nat)} : ∀ {cs : List C}, (∀ c ∈ cs, ∃ k x, c = .dat k x) → sendCs t lent cs = some cs
  | [], _ => rfl
  | c :: r, h => by
    obtain ⟨k, x, rfl⟩ := h c (by simp)
    have ih := sendCs_dat (t := t) (lent := lent) (cs := r) fun c hc => h c (by simp [hc])
    simp only [sendCs, sendC, snap, ih]

theorem law_calls {P : Program} {f : Nat} {t : FEnt} (hok : FnOk P f t) (hmd : t.md = []) (d : AsT t.args) (b : t.out.T) (hT : t.T d = some b) {r : Bool} (hret : retOf t.n t.results [] (encA t.args d) (t.out.enc b) = some ((.one, [.dat .bool r]), []))
    (gs : List (Bool × Sg)) (hgs : encA t.args d = gs.map topV) {W : World} {us : List Value} (hlen : us.length = gs.length) (hus : ∀ (i : Nat) g u, gs[i]? = some g → us[i]? = some u → TopK W g u) :
    Calls P f us.toArray W fun e W' => e = .returned (.bool r) ∧ Below W.heap.size W W' := by
  obtain ⟨hN, fn, _, _, _, hrv, hcall⟩ := hok
  let G : Gh := { vs := fun _ => [], lt := fun _ _ => .leaf, bk := fun _ => 0, ow := fun _ => none }
  have hi : Inv 0 [] #[] W G := ⟨rfl, Nat.le_refl _, fun s => SlotOk.nothing (get_out (by simp)), fun b s h => by simp [G] at h⟩
  have hal : (encA t.args d).length = t.args.length := encA_length
  have hgl : gs.length = t.args.length := by rw [← hal, hgs]; simp
  have hdat : ∀ v ∈ encA t.args d, ∀ c ∈ v.2, ∃ k x, c = C.dat k x := by
    intro v hv c hc
    rw [hgs] at hv
    simp only [List.mem_map] at hv
    obtain ⟨g, _, rfl⟩ := hv
    simp only [topV, List.mem_map] at hc
    obtain ⟨g', _, rfl⟩ := hc
    exact ⟨_, _, rfl⟩
  have hargs : ArgsOk [] W G (encA t.args d) us := by
    refine ⟨by rw [hal, hlen, hgl], fun i v u hv hu => ?_⟩
    rw [hgs] at hv
    simp only [List.getElem?_map] at hv
    cases hg : gs[i]? with
    | none => rw [hg] at hv; simp at hv
    | some g =>
      rw [hg] at hv
      simp only [Option.map_some, Option.some.injEq] at hv
      subst hv
      obtain ⟨L, vs, h1, h2⟩ := hus i g u hg hu
      have hvl := h1.size
      refine ⟨vs, fun j => leafL g.2.1 L j, ⟨⟨by simp only [topV, List.length_map, leaves_length]; exact hvl, fun j c x hc hx => ?_⟩, h2, ?_, ?_, ?_⟩⟩
      · simp only [topV, List.getElem?_map] at hc
        have hjl : j < g.2.1.size := by rw [← hvl]; exact (List.getElem?_eq_some_iff.1 hx).1
        rw [leaves_get g.2.1 g.2.2 j hjl] at hc
        simp only [Option.map_some, Option.some.injEq] at hc
        subst hc
        obtain ⟨v, q1, q2, _⟩ := h1.leaf hjl
        rw [hx] at q1
        simp only [Option.some.injEq] at q1
        subst q1
        exact ⟨q2, fun b _ => rfl⟩
      · intro c hc
        simp only [topV, List.mem_map] at hc
        obtain ⟨g', _, rfl⟩ := hc
        rfl
      · intro bv; simp only [topV]; cases g.1 <;> simp
      · simp only [topV]; cases g.1 <;> simp
  have ht : Sees (Tr.at { get := Env.get [] }) [] := fun s => .inl rfl
  obtain ⟨Gc, hi0, how⟩ := start_inv hi ht hargs rfl (fun j v v' h1 h2 => by
    rw [h1] at h2
    simp only [Option.some.injEq] at h2
    subst h2
    exact ⟨rfl, sendCs_dat (hdat v (List.mem_of_getElem? h1))⟩) (N := t.n) (by rw [hal]; exact hN) [] (fun v hv s hs => by
      exfalso
      simp only [List.mem_flatMap] at hs
      obtain ⟨c, hc, hs⟩ := hs
      obtain ⟨k, x, rfl⟩ := hdat v hv c hc
      simp [readCell, C.targets] at hs) (t.n + t.args.length)
  refine (hcall d b hT (by rw [hmd, hret]; rfl) us W Gc (by rw [hlen, hgl]) (by rw [hmd]; exact hi0)).mono ?_
  rintro en w1 ⟨tm1, G1, u1, rfl, hrun1, hi1, hh, hsz, hle, henv⟩
  obtain ⟨e2, G2, H, us', Ls, hr, _⟩ := ret_ok hrv hi1 hret
  have hul := hr.len
  match us', hul with
  | [u], _ =>
    have hc := hr.cell 0 _ u rfl rfl
    simp only [ResOk, Rep] at hc
    have hu : u = .bool r := by simpa using hc.1
    have hres : u1 = form .one [u] := by
      have := hrun1.symm.trans hr.res
      simpa using this
    refine ⟨by rw [hres, hu]; rfl, henv.os, henv.tape, henv.output, hsz, fun k hk => ?_⟩
    refine (hh.still k ?_ (by simp [hk])).1
    rw [how]
    rfl

end Go.Mach
