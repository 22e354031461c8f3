/- The machine, parts Nr Ns Nt Nu Nv Nw. No condition: definitions and lemmas. -/
import Derived.Test.YthchcnfkgjmabaaGreatXG
/- The machine, part nr: the callee's slots at a call's start. No condition: lemmas. -/
namespace Go.Mach
set_option linter.unusedVariables false
set_option linter.unusedSimpArgs false

/-- Where a cell that is sent lies. -/
def lendL (e : Env) (G : Gh) (o : Option Lend) (L : LT) : LT := match o with
  | some (.cell s j p _) => match (e.get s).cs.getD j .dead with
    | .own _ _ _ k0 _ => sentL (subL k0 (G.lt s j) p)
    | _ => .leaf
  | _ => L

def boxSrc (o : Option (List (Option Lend))) : Nat := match o with
  | some [some (.box s)] => s
  | _ => 0

section start3
variable {n : Nat} {e : Env} {tm : Array Value} {w : World} {G : Gh}

/-- A cell of an argument that is lent. -/
theorem sent_cell (h : Inv n e tm w G) {t : Tr} (hs : Sees t.at e) {v : Val} {u : Value} {vs : List Value} {Ls : Nat → LT} (hval : ValOk e w G v u vs Ls) {cs' : List C} {ls : List (Option Lend)} (hlc : lendCells t v.2 = some (cs', ls)) {j : Nat} {c : C} {x : Value}
    (hc : cs'[j]? = some c) (hx : vs[j]? = some x) :
    (∃ k y, c = .dat k y ∧ CellOk e w G c x (Ls j) ∧ ls[j]? = some none) ∨
    (∃ s jj p k rv' sv' d k0 l0 y, c = .own 0 0 d k y ∧ ls[j]? = some (some (.cell s jj p k)) ∧ (e.get s).cs[jj]? = some (.own rv' sv' d k0 l0) ∧ (p = [] ∨ d = true) ∧ PathOk k0 l0 p ∧ getP k0 l0 p = ⟨k, y⟩ ∧
      SliceIs k.size y.length (hdOf (subL k0 (G.lt s jj) p)) none none x ∧ RepL true w k.size (Rep d w k) y (sentL (subL k0 (G.lt s jj) p)) x ∧ (d = false → ∀ b ∈ inner k (sentL (subL k0 (G.lt s jj) p)), G.ow b = none)) := by
  obtain ⟨l1, l2, l3⟩ := lendCells_get hlc
  have hjl : j < v.2.length := by rw [← l1]; exact (List.getElem?_eq_some_iff.1 hc).1
  obtain ⟨a, ha⟩ : ∃ a, v.2[j]? = some a := ⟨_, List.getElem?_eq_getElem hjl⟩
  obtain ⟨l, hl⟩ : ∃ l, ls[j]? = some l := ⟨_, List.getElem?_eq_getElem (by rw [l2]; exact hjl)⟩
  have hcell := hval.cells.cell j a x ha hx
  rcases l3 j a c l ha hc hl with ⟨k, y, rfl, rfl, rfl, _⟩ | ⟨s, jj, rv, sv, p, k, rv', sv', d, k0, l0, y, rfl, hat, rfl, hp, hcast, rfl, rfl⟩
  · exact .inl ⟨k, y, rfl, hcell, hl⟩
  · have hown := sees_cell hs hat (by simp)
    have hget := castL_some hcast
    have hget' : getP k0 l0 p = ⟨k, y⟩ := hget
    obtain ⟨q1, q2, _, _⟩ := ref_reads h hcell hown hp hget'
    obtain ⟨u', r1, _⟩ := h.at_path hown q2 (hp.imp id And.right) hget'
    refine .inr ⟨s, jj, p, k, rv, sv', d, k0, l0, y, rfl, hl, hown, hp.imp id And.right, q2, hget', q1, sent_rep r1 q1, fun hd b hb => ?_⟩
    subst hd
    have hp0 : p = [] := by
      rcases hp with q | q
      · exact q
      · simp at q
    subst hp0
    rw [getP_nil] at hget'
    simp only [Sigma.mk.injEq] at hget'
    obtain ⟨rfl, _⟩ := hget'
    exact (h.ownBlocks hown).2.1 rfl b (by simpa [subL] using sentL_inner _ _ b hb)

/-- What stands at a call's start of what is lent. -/
structure StartOk (N : Nat) (e : Env) (w : World) (G : Gh) (q : Sent) (Gc : Gh) : Prop where
  cell : ∀ i c s j p k, (i, c, Lend.cell s j p k) ∈ lendAt 0 q.lends → ∃ rv sv d k0 l0 y x, (e.get s).cs[j]? = some (.own rv sv d k0 l0) ∧ (p = [] ∨ d = true) ∧ PathOk k0 l0 p ∧ getP k0 l0 p = ⟨k, y⟩ ∧ (Gc.vs (N + 2 * i))[c]? = some x ∧
    SliceIs k.size y.length (hdOf (subL k0 (G.lt s j) p)) none none x ∧ Gc.lt (N + 2 * i) c = sentL (subL k0 (G.lt s j) p)
  box : ∀ i c s, (i, c, Lend.box s) ∈ lendAt 0 q.lends → Gc.bk (N + 2 * i + 1) = G.bk s ∧ ∃ bv cs, (e.get s).sh = .box bv ∧ q.vals[i]? = some (.box 0, cs)

theorem start_lend (h : Inv n e tm w G) {t : Tr} (hs : Sees t.at e) {md : List Bool} {args : List Val} {us : List Value} (ha : ArgsOk e w G args us) {q : Sent} (hsend : send t md [] 0 args = some q) {N : Nat} (hN : args.length ≤ N)
    {rt : List Nat} (hrt : ∀ s ∈ readTargets md [] 0 args, s ∈ rt) (hl : LendsOk e (lendAt 0 q.lends) rt args.length) (M : Nat) :
    ∃ Gc, Inv N (startE N md q.vals) (us.toArray ++ Array.replicate (N - us.length) undef) w Gc ∧ Gc.ow = owL N e G (lendAt 0 q.lends) rt M ∧ StartOk N e w G q Gc := by
  obtain ⟨g1, g2, g3⟩ := send_get hsend
  have hex : ∀ i : Nat, ∃ p : (List Value × (Nat → LT)) × (Nat → LT), ∀ v v' u, args[i]? = some v → q.vals[i]? = some v' → us[i]? = some u → ValOk e w G v u p.1.1 p.1.2 ∧
      (md.getD i false = false → v'.1 = v.1 ∧ v'.2.length = v.2.length ∧ ∀ (j : Nat) c x, v'.2[j]? = some c → p.1.1[j]? = some x → c.isOwn = false ∧ ∀ e' G', G'.ow = owL N e G (lendAt 0 q.lends) rt M → CellOk e' w G' c x (p.2 j)) := by
    intro i
    cases hv : args[i]? with
    | none => exact ⟨(([], fun _ => .leaf), fun _ => .leaf), fun v v' u q => by simp at q⟩
    | some v =>
      have hil : i < args.length := (List.getElem?_eq_some_iff.1 hv).1
      obtain ⟨u, hu⟩ : ∃ u, us[i]? = some u := ⟨_, List.getElem?_eq_getElem (by rw [ha.1]; exact hil)⟩
      obtain ⟨v', hv'⟩ : ∃ v', q.vals[i]? = some v' := ⟨_, List.getElem?_eq_getElem (by rw [g1]; exact hil)⟩
      obtain ⟨ls, hls⟩ : ∃ ls, q.lends[i]? = some ls := ⟨_, List.getElem?_eq_getElem (by rw [g2]; exact hil)⟩
      obtain ⟨vs, Ls, hval⟩ := ha.2 i v u hv hu
      have hcase := g3 i v v' ls hv hv' hls
      rw [Nat.zero_add] at hcase
      by_cases hm : md.getD i false = false
      · rcases hcase with ⟨_, q1, q2, _⟩ | ⟨q0, _⟩ | ⟨q0, _⟩
        · obtain ⟨k1, Ls', k2⟩ := sendCs_ok h hs (owL N e G (lendAt 0 q.lends) rt M) (fun b => owL_none h hl) hval.cells q2 (fun b s hb hm' => owL_rt h hl hb (hrt s (readTargets_mem (i := 0) hv (by rw [Nat.zero_add]; exact hm) hm')))
          refine ⟨((vs, Ls), Ls'), fun w1 w2 w3 a b c => ?_⟩
          simp only [Option.some.injEq] at a
          subst a
          rw [hv'] at b
          rw [hu] at c
          simp only [Option.some.injEq] at b c
          subst b c
          exact ⟨hval, fun _ => ⟨q1, k1, k2⟩⟩
        · rw [hm] at q0; simp at q0
        · rw [hm] at q0; simp at q0
      · refine ⟨((vs, Ls), fun _ => .leaf), fun w1 w2 w3 a b c => ?_⟩
        simp only [Option.some.injEq] at a
        subst a
        rw [hu] at c
        simp only [Option.some.injEq] at c
        subst c
        exact ⟨hval, fun q => absurd q hm⟩
  obtain ⟨f, hf⟩ := Classical.axiomOfChoice hex
  let Gc : Gh := { vs := fun s => if s < N then (f s).1.1 else if (s - N) % 2 = 0 then (f ((s - N) / 2)).1.1 else G.vs (boxSrc q.lends[(s - N) / 2]?),
                   lt := fun s => if s < N then (if md.getD s false then (f s).1.2 else (f s).2) else if (s - N) % 2 = 0 then (fun j => lendL e G ((q.lends.getD ((s - N) / 2) []).getD j none) ((f ((s - N) / 2)).1.2 j)) else G.lt (boxSrc q.lends[(s - N) / 2]?),
                   bk := fun s => if s < N then 0 else G.bk (boxSrc q.lends[(s - N) / 2]?),
                   ow := owL N e G (lendAt 0 q.lends) rt M }
  have vsA : ∀ s, s < N → Gc.vs s = (f s).1.1 := fun s hs => if_pos hs
  have ltA0 : ∀ s, s < N → md.getD s false = false → Gc.lt s = (f s).2 := fun s hs hm => by simp only [Gc, if_pos hs, hm]; rfl
  have ltA1 : ∀ s, s < N → md.getD s false = true → Gc.lt s = (f s).1.2 := fun s hs hm => by simp only [Gc, if_pos hs, hm]; rfl
  have ar : ∀ i, ¬ N + 2 * i < N ∧ (N + 2 * i - N) % 2 = 0 ∧ (N + 2 * i - N) / 2 = i ∧ ¬ N + 2 * i + 1 < N ∧ (N + 2 * i + 1 - N) % 2 ≠ 0 ∧ (N + 2 * i + 1 - N) / 2 = i := by intro i; omega
  have vsB : ∀ i, Gc.vs (N + 2 * i) = (f i).1.1 := fun i => by
    obtain ⟨a1, a2, a3, _⟩ := ar i
    simp only [Gc, if_neg a1, if_pos a2, a3]
  have ltB : ∀ i j, Gc.lt (N + 2 * i) j = lendL e G ((q.lends.getD i []).getD j none) ((f i).1.2 j) := fun i j => by
    obtain ⟨a1, a2, a3, _⟩ := ar i
    simp only [Gc, if_neg a1, if_pos a2, a3]
  have vsC : ∀ i, Gc.vs (N + 2 * i + 1) = G.vs (boxSrc q.lends[i]?) := fun i => by
    obtain ⟨_, _, _, a1, a2, a3⟩ := ar i
    simp only [Gc, if_neg a1, if_neg a2, a3]
  have ltC : ∀ i, Gc.lt (N + 2 * i + 1) = G.lt (boxSrc q.lends[i]?) := fun i => by
    obtain ⟨_, _, _, a1, a2, a3⟩ := ar i
    simp only [Gc, if_neg a1, if_neg a2, a3]
  have bkC : ∀ i, Gc.bk (N + 2 * i + 1) = G.bk (boxSrc q.lends[i]?) := fun i => by
    obtain ⟨_, _, _, a1, a2, a3⟩ := ar i
    simp only [Gc, if_neg a1, a3]
  obtain ⟨s1, s2, s3⟩ := startE_slots (n := N) (md := md) (vals := q.vals) (by omega)
  rw [g1] at s1 s3
  -- an argument, by its number
  have arg : ∀ i, i < args.length → ∃ v v' u ls, args[i]? = some v ∧ q.vals[i]? = some v' ∧ us[i]? = some u ∧ q.lends[i]? = some ls := fun i hil =>
    ⟨_, _, _, _, List.getElem?_eq_getElem hil, List.getElem?_eq_getElem (by omega), List.getElem?_eq_getElem (by rw [ha.1]; exact hil), List.getElem?_eq_getElem (by omega)⟩
  have noFp : ∀ (L : Nat → LT) (cs : List C) (i : Nat), (∀ c ∈ cs, c.isOwn = false) → fpCells L i cs = [] := by
    intro L cs
    induction cs with
    | nil => intro i _; rfl
    | cons c cs ih => intro i ho; simp only [fpCells]; rw [noOwn_ownB (ho c (by simp)), ih (i + 1) fun c hc => ho c (by simp [hc])]; rfl
  have htm : ∀ (s : Nat) (u : Value), us[s]? = some u → (us.toArray ++ Array.replicate (N - us.length) undef)[s]? = some u := by
    intro s u hu
    have : s < us.length := (List.getElem?_eq_some_iff.1 hu).1
    rw [Array.getElem?_append_left (by simpa using this)]
    simpa using hu
  -- a slot of a parameter
  have param : ∀ s, s < args.length → SlotOk N (startE N md q.vals) (us.toArray ++ Array.replicate (N - us.length) undef) w Gc s := by
    intro s hsl
    obtain ⟨v, v', u, ls, hv, hv', hu, hls⟩ := arg s hsl
    obtain ⟨hval, hread⟩ := hf s v v' u hv hv' hu
    have hsN : s < N := by omega
    have hg := (s2 s v' hv').1
    have hgB := (s2 s v' hv').2.1
    have hgC := (s2 s v' hv').2.2
    have hcase := g3 s v v' ls hv hv' hls
    rw [Nat.zero_add] at hcase
    have hu' := htm s u hu
    rcases hcase with ⟨hm, q1, q2, _⟩ | ⟨hm, s', bv, cs, rfl, hsh, hob, rfl, rfl⟩ | ⟨hm, hsh, hlc⟩
    · obtain ⟨k1, k2, k3⟩ := hread hm
      have hsl : slotA N md s v' = { sh := v'.1, cs := v'.2, cnt := 1 } := by simp only [slotA, hm]; rfl
      rw [hsl] at hg
      have hno : ∀ c ∈ v'.2, c.isOwn = false := by
        intro c hc
        obtain ⟨j, hj⟩ := List.getElem?_of_mem hc
        have hjl : j < (f s).1.1.length := by rw [hval.cells.len, ← k2]; exact (List.getElem?_eq_some_iff.1 hj).1
        exact (k3 j c _ hj (List.getElem?_eq_getElem hjl)).1
      have hfp : fpS Gc s ((startE N md q.vals).get s) = [] := by
        rw [hg]
        simp only [fpS, noFp _ _ 0 hno]
        have := hval.sh
        rw [← k1] at this
        cases hsh : v'.1 <;> first | rfl | exact absurd hsh (this _)
      refine ⟨fun _ => ?_, fun bv hb => ?_, fun hd => ?_, fun hd j c x hc hx => ?_, fun hd j rv sv d k l hc => ?_, by rw [hfp]; simp, by rw [hfp]; simp, fun hd => ?_⟩
      · rw [hg, vsA s hsN]
        rw [hval.form, ← k1] at hu'
        have h2 := hval.sh
        have h3 := hval.alive
        rw [← k1] at h2 h3
        revert h2 h3 hu'
        simp only [FormIs]
        cases v'.1 <;> simp
      · rw [hg] at hb
        have := hval.sh bv
        rw [← k1] at this
        exact absurd hb this
      · rw [hg, vsA s hsN, k2]; exact hval.cells.len
      · rw [hg] at hc
        rw [vsA s hsN] at hx
        rw [ltA0 s hsN hm]
        exact (k3 j c x hc hx).2 _ _ rfl
      · rw [hg] at hc
        have := hno _ (List.mem_of_getElem? hc)
        simp [C.isOwn] at this
      · rw [hg] at hd
        have := hval.alive
        rw [← k1] at this
        exact absurd hd this
    · have hsl : slotA N md s (.box 0, cs) = { sh := .one, cs := [.bptr (N + 2 * s + 1) 0 0], cnt := 1 } := by simp only [slotA, hm]; rfl
      have hslC : slotC md s (.box 0, cs) = { sh := .box 0, cs := cs, cnt := 1 } := by simp only [slotC, hm]; rfl
      rw [hsl] at hg
      rw [hslC] at hgC
      have hfp : fpS Gc s ((startE N md q.vals).get s) = [] := by rw [hg]; rfl
      refine ⟨fun _ => ?_, fun bv hb => ?_, fun hd => ?_, fun hd j c x hc hx => ?_, fun hd j rv sv d k l hc => ?_, by rw [hfp]; simp, by rw [hfp]; simp, fun hd => ?_⟩
      · rw [hg, vsA s hsN]
        rw [hval.form] at hu'
        exact hu'
      · rw [hg] at hb; simp at hb
      · rw [hg, vsA s hsN]; exact hval.cells.len
      · rw [hg] at hc
        rw [vsA s hsN] at hx
        cases j with
        | succ j => simp at hc
        | zero =>
          simp only [List.getElem?_cons_zero, Option.some.injEq] at hc
          subst hc
          obtain ⟨_, r2, r3⟩ := hval.cells.cell 0 _ x rfl hx
          have hat := sees_box hs hsh
          refine ⟨by rw [hgC]; simp, fun _ => ?_, r3⟩
          rw [bkC, hls]
          exact r2 (by rw [← hat]; exact hsh)
      · rw [hg] at hc
        cases j with
        | zero => simp at hc
        | succ j => simp at hc
      · rw [hg] at hd; simp at hd
    · have hnb : ∀ bv, v'.1 ≠ .box bv := fun bv => by rw [hsh]; exact hval.sh bv
      have hsl : slotA N md s v' = { sh := v'.1, cs := copyFrom (N + 2 * s) 0 v'.2, cnt := 1 } := by
        simp only [slotA, hm]
        cases hq : v'.1 <;> first | rfl | exact absurd hq (hnb _)
      have hslB : slotB md s v' = { sh := .agg, cs := v'.2, cnt := 1 } := by
        simp only [slotB, hm]
        cases hq : v'.1 <;> first | rfl | exact absurd hq (hnb _)
      rw [hsl] at hg
      rw [hslB] at hgB
      obtain ⟨l1, l2, _⟩ := lendCells_get hlc
      have hfp : fpS Gc s ((startE N md q.vals).get s) = [] := by
        rw [hg]
        simp only [fpS, noFp _ _ 0 (copyFrom_noOwn (N + 2 * s) v'.2 0)]
        cases hq : v'.1 <;> first | rfl | exact absurd hq (hnb _)
      refine ⟨fun _ => ?_, fun bv hb => ?_, fun hd => ?_, fun hd j c x hc hx => ?_, fun hd j rv sv d k l hc => ?_, by rw [hfp]; simp, by rw [hfp]; simp, fun hd => ?_⟩
      · rw [hg, vsA s hsN]
        rw [hval.form, ← hsh] at hu'
        have h3 := hval.alive
        rw [← hsh] at h3
        revert hnb h3 hu'
        simp only [FormIs]
        cases v'.1 <;> simp
      · rw [hg] at hb; exact absurd hb (hnb bv)
      · rw [hg, vsA s hsN, copyFrom_length, l1]; exact hval.cells.len
      · rw [hg] at hc
        rw [vsA s hsN] at hx
        rw [ltA1 s hsN hm]
        rw [copyFrom_get] at hc
        cases hc0 : v'.2[j]? with
        | none => rw [hc0] at hc; simp at hc
        | some c0 =>
          rw [hc0] at hc
          simp only [Option.map_some, Option.some.injEq, Nat.zero_add] at hc
          subst hc
          rcases sent_cell h hs hval hlc hc0 hx with ⟨k, y, rfl, r1, _⟩ | ⟨s', jj, p, k, rv', sv', d, k0, l0, y, rfl, r1, r2, r3, r4, r5, r6, r7, r8⟩
          · exact ⟨r1.1, fun b hb => owL_none h hl (r1.2 b hb)⟩
          · refine ⟨by rw [hgB]; simp, fun hp => absurd rfl hp, ?_⟩
            intro sv1 d1 k1 l1' h1 _
            rw [hgB, getD_some hc0] at h1
            simp only [C.own.injEq] at h1
            obtain ⟨_, rfl, rfl, rfl, hle⟩ := h1
            have hle := eq_of_heq hle
            subst hle
            have hlt : Gc.lt (N + 2 * s) j = sentL (subL k0 (G.lt s' jj) p) := by
              rw [ltB]
              have : (q.lends.getD s []).getD j none = some (.cell s' jj p k) := by simp [List.getD_eq_getElem?_getD, hls, r1]
              rw [this]
              simp only [lendL, getD_some r2]
            exact ⟨y.length, hdOf (Gc.lt (N + 2 * s) j), ⟨trivial, by rw [getP_nil], by rw [getP_nil], by simp [subL]⟩, by rw [hlt]; exact hd_of_repl r7 rfl⟩
      · rw [hg] at hc
        have := copyFrom_noOwn (N + 2 * s) v'.2 0 _ (List.mem_of_getElem? hc)
        simp [C.isOwn] at this
      · rw [hg] at hd
        have h3 := hval.alive
        rw [← hsh] at h3
        exact absurd hd h3
  -- a slot of lent cells
  have cells : ∀ i, i < args.length → SlotOk N (startE N md q.vals) (us.toArray ++ Array.replicate (N - us.length) undef) w Gc (N + 2 * i) := by
    intro i hil
    obtain ⟨v, v', u, ls, hv, hv', hu, hls⟩ := arg i hil
    obtain ⟨hval, hread⟩ := hf i v v' u hv hv' hu
    have hgB := (s2 i v' hv').2.1
    have hcase := g3 i v v' ls hv hv' hls
    rw [Nat.zero_add] at hcase
    rcases hcase with ⟨hm, q1, q2, _⟩ | ⟨hm, s', bv, cs, rfl, hsh, hob, rfl, rfl⟩ | ⟨hm, hsh, hlc⟩
    · exact SlotOk.nothing (by rw [hgB]; simp only [slotB, hm]; rfl)
    · exact SlotOk.nothing (by rw [hgB]; simp only [slotB, hm]; rfl)
    · have hnb : ∀ bv, v'.1 ≠ .box bv := fun bv => by rw [hsh]; exact hval.sh bv
      have hslB : slotB md i v' = { sh := .agg, cs := v'.2, cnt := 1 } := by
        simp only [slotB, hm]
        cases hq : v'.1 <;> first | rfl | exact absurd hq (hnb _)
      rw [hslB] at hgB
      obtain ⟨l1, l2, _⟩ := lendCells_get hlc
      have hlen : (f i).1.1.length = v'.2.length := by rw [l1]; exact hval.cells.len
      -- each owned cell
      have own : ∀ (j : Nat) c, v'.2[j]? = some c → (∃ k y, c = .dat k y) ∨ ∃ s' jj p k, (i, j, Lend.cell s' jj p k) ∈ lendAt 0 q.lends ∧ ownB c (Gc.lt (N + 2 * i) j) = blkL e G (.cell s' jj p k) := by
        intro j c hc
        obtain ⟨x, hx⟩ : ∃ x, (f i).1.1[j]? = some x := ⟨_, List.getElem?_eq_getElem (by rw [hlen]; exact (List.getElem?_eq_some_iff.1 hc).1)⟩
        rcases sent_cell h hs hval hlc hc hx with ⟨k, y, rfl, _, _⟩ | ⟨s', jj, p, k, rv', sv', d, k0, l0, y, rfl, r1, r2, r3, r4, r5, r6, r7, r8⟩
        · exact .inl ⟨k, y, rfl⟩
        · refine .inr ⟨s', jj, p, k, mem_lendAt.2 ⟨ls, Nat.zero_le _, hls, r1⟩, ?_⟩
          rw [ltB]
          have : (q.lends.getD i []).getD j none = some (.cell s' jj p k) := by simp [List.getD_eq_getElem?_getD, hls, r1]
          rw [this, ownB_ownD]
          simp only [lendL, blkL, getD_some r2]
      refine ⟨fun hlt => by omega, fun bv hb => ?_, fun hd => ?_, fun hd j c x hc hx => ?_, fun hd j rv sv d k l hc => ?_, ?_, ?_, fun hd => ?_⟩
      · rw [hgB] at hb; simp at hb
      · rw [hgB, vsB]; exact hlen
      · rw [hgB] at hc
        rw [vsB] at hx
        rw [ltB]
        rcases sent_cell h hs hval hlc hc hx with ⟨k, y, rfl, r1, r2⟩ | ⟨s', jj, p, k, rv', sv', d, k0, l0, y, rfl, r1, r2, r3, r4, r5, r6, r7, r8⟩
        · have : (q.lends.getD i []).getD j none = none := by simp [List.getD_eq_getElem?_getD, hls, r2]
          rw [this]
          exact ⟨r1.1, fun b hb => owL_none h hl (r1.2 b hb)⟩
        · have : (q.lends.getD i []).getD j none = some (.cell s' jj p k) := by simp [List.getD_eq_getElem?_getD, hls, r1]
          rw [this]
          simp only [lendL, getD_some r2]
          exact ⟨r7, fun hd b hb => owL_none h hl (r8 hd b hb)⟩
      · rw [hgB] at hc ⊢
        obtain ⟨x, hx⟩ : ∃ x, (f i).1.1[j]? = some x := ⟨_, List.getElem?_eq_getElem (by rw [hlen]; exact (List.getElem?_eq_some_iff.1 hc).1)⟩
        rcases sent_cell h hs hval hlc hc hx with ⟨k, y, hc', _, _⟩ | ⟨s', jj, p, k, rv', sv', d, k0, l0, y, hc', _⟩
        · simp at hc'
        · simp only [C.own.injEq] at hc'
          obtain ⟨rfl, rfl, _⟩ := hc'
          simp
      · rw [hgB]
        simp only [fpS, List.nil_append]
        refine fpCells_nodup (fun j c hc => ?_) (fun j j' c c' b hne hc hc' hb => ?_)
        · rw [Nat.zero_add]
          rcases own j c hc with ⟨k, y, rfl⟩ | ⟨s', jj, p, k, r1, r2⟩
          · simp [ownB]
          · rw [r2]; exact blkL_nodup h (hl.inn _ r1)
        · rw [Nat.zero_add] at hb ⊢
          rcases own j c hc with ⟨k, y, rfl⟩ | ⟨s', jj, p, k, r1, r2⟩
          · simp [ownB] at hb
          · rcases own j' c' hc' with ⟨k', y', rfl⟩ | ⟨s'', jj', p', k', r3, r4⟩
            · simp [ownB]
            · rw [r2] at hb
              rw [r4]
              rcases apartF_mem hl.apart _ r1 _ r3 with q | q
              · simp only [Prod.mk.injEq] at q; exact absurd q.2.1 hne
              · exact blkL_disj h (hl.inn _ r1) (hl.inn _ r3) q hb
      · rw [hgB]
        simp only [fpS, List.nil_append]
        intro b hb
        obtain ⟨j, c, hc, hb⟩ := fpCells_of hb
        rw [Nat.zero_add] at hb
        rcases own j c hc with ⟨k, y, rfl⟩ | ⟨s', jj, p, k, r1, r2⟩
        · simp [ownB] at hb
        · rw [r2] at hb
          exact owL_in h hl r1 hb
      · rw [hgB] at hd; simp at hd
  -- a slot of a lent box
  have boxes : ∀ i, i < args.length → SlotOk N (startE N md q.vals) (us.toArray ++ Array.replicate (N - us.length) undef) w Gc (N + 2 * i + 1) := by
    intro i hil
    obtain ⟨v, v', u, ls, hv, hv', hu, hls⟩ := arg i hil
    obtain ⟨hval, hread⟩ := hf i v v' u hv hv' hu
    have hgC := (s2 i v' hv').2.2
    have hcase := g3 i v v' ls hv hv' hls
    rw [Nat.zero_add] at hcase
    rcases hcase with ⟨hm, q1, q2, _⟩ | ⟨hm, s', bv, cs, rfl, hsh, hob, rfl, rfl⟩ | ⟨hm, hsh, hlc⟩
    · exact SlotOk.nothing (by rw [hgC]; simp only [slotC, hm]; rfl)
    · have hslC : slotC md i (.box 0, cs) = { sh := .box 0, cs := cs, cnt := 1 } := by simp only [slotC, hm]; rfl
      rw [hslC] at hgC
      have hat := sees_box hs hsh
      rw [hat] at hsh hob
      have hsrc : boxSrc q.lends[i]? = s' := by rw [hls]; rfl
      obtain ⟨o1, o2⟩ := ownBox_get hob
      have hS := h.slot s'
      have hne : (e.get s').sh ≠ .dead := by rw [hsh]; simp
      have hmem : (i, 0, Lend.box s') ∈ lendAt 0 q.lends := mem_lendAt.2 ⟨_, Nat.zero_le _, hls, rfl⟩
      have hcs : fpCells (G.lt s') 0 cs = fpCells (G.lt s') 0 (e.get s').cs := by
        refine fpCells_congr o1 fun j c c' hc hc' => ?_
        rcases o2 j c c' hc hc' with ⟨rv, sv, d, k, l, rfl, rfl⟩ | ⟨rfl, _⟩
        · rw [ownB_ownD, ownB_ownD]
        · rfl
      have hfp : fpS Gc (N + 2 * i + 1) ((startE N md q.vals).get (N + 2 * i + 1)) = blkL e G (.box s') := by
        rw [hgC]
        simp only [fpS, bkC, ltC, hsrc, blkL, hsh, hcs]
      refine ⟨fun hlt => by omega, fun bv hb => ?_, fun hd => ?_, fun hd j c x hc hx => ?_, fun hd j rv sv d k l hc => ?_, ?_, ?_, fun hd => ?_⟩
      · rw [hgC] at hb ⊢
        simp only [Sh.box.injEq] at hb
        subst hb
        rw [bkC, vsC, hsrc]
        exact ⟨by simp, (hS.box _ hsh).2⟩
      · rw [hgC, vsC, hsrc, o1]
        exact hS.len hne
      · rw [hgC] at hc
        rw [vsC, hsrc] at hx
        rw [ltC, hsrc]
        obtain ⟨c0, hc0⟩ : ∃ c0, (e.get s').cs[j]? = some c0 := ⟨_, List.getElem?_eq_getElem (by rw [← o1]; exact (List.getElem?_eq_some_iff.1 hc).1)⟩
        have hcell := hS.cells hne j c0 x hc0 hx
        rcases o2 j c0 c hc0 hc with ⟨rv, sv, d, k, l, rfl, rfl⟩ | ⟨rfl, _, ⟨k, y, rfl⟩ | rfl | ⟨a, m, rfl⟩ | ⟨g, rfl⟩⟩
        · exact ⟨hcell.1, fun hd b hb => owL_none h hl (hcell.2 hd b hb)⟩
        · exact ⟨hcell.1, fun b hb => owL_none h hl (hcell.2 b hb)⟩
        · exact hcell
        · obtain ⟨b, o, vs, Ls, k1, k2, k3, k4, k5, k6⟩ := hcell
          refine ⟨b, o, vs, Ls, k1, owL_none h hl k2, k3, k4, k5, fun i' c' u' hc' hu' => ?_⟩
          have := k6 i' c' u' hc' hu'
          cases c' with
          | nil => exact this
          | dat k y => exact ⟨this.1, fun b hb => owL_none h hl (this.2 b hb)⟩
          | _ => exact this
        · obtain ⟨us', Ls', k1, k2, k3⟩ := hcell
          exact ⟨us', Ls', k1, k2, fun i' c' u' hc' => by simp at hc'⟩
      · rw [hgC] at hc ⊢
        obtain ⟨c0, hc0⟩ : ∃ c0, (e.get s').cs[j]? = some c0 := ⟨_, List.getElem?_eq_getElem (by rw [← o1]; exact (List.getElem?_eq_some_iff.1 hc).1)⟩
        rcases o2 j c0 _ hc0 hc with ⟨rv', sv', d', k', l', rfl, hq⟩ | ⟨rfl, hq, _⟩
        · simp only [C.own.injEq] at hq
          obtain ⟨rfl, rfl, _⟩ := hq
          simp
        · simp [C.isOwn] at hq
      · rw [hfp]; exact blkL_nodup h (hl.inn _ hmem)
      · rw [hfp]; exact fun b hb => owL_in h hl hmem hb
      · rw [hgC] at hd; simp at hd
    · have hnb : ∀ bv, v'.1 ≠ .box bv := fun bv => by rw [hsh]; exact hval.sh bv
      refine SlotOk.nothing ?_
      rw [hgC]
      simp only [slotC, hm]
      cases hq : v'.1 <;> first | rfl | exact absurd hq (hnb _)
  refine ⟨Gc, ⟨by simp [ha.1]; omega, by rw [s1]; omega, fun s => ?_, fun b s hb => ?_⟩, rfl, ⟨fun i c s j p k hx => ?_, fun i c s hx => ?_⟩⟩
  · by_cases q1 : s < args.length
    · exact param s q1
    · by_cases q2 : (args.length ≤ s ∧ s < N) ∨ N + 2 * args.length ≤ s
      · exact SlotOk.nothing (s3 s q2)
      · by_cases q3 : (s - N) % 2 = 0
        · have : s = N + 2 * ((s - N) / 2) := by omega
          rw [this]
          exact cells _ (by omega)
        · have : s = N + 2 * ((s - N) / 2) + 1 := by omega
          rw [this]
          exact boxes _ (by omega)
  · rcases owL_cases hb with ⟨x, hx, hbx, _⟩ | ⟨_, s', hs', _⟩
    · exact h.lt b _ (blkL_ow h (hl.inn x hx) hbx)
    · exact h.lt b _ hs'
  · obtain ⟨ls, _, h2, h3⟩ := mem_lendAt.1 hx
    dsimp only at h2 h3
    rw [Nat.sub_zero] at h2
    have hil : i < args.length := by rw [← g2]; exact (List.getElem?_eq_some_iff.1 h2).1
    obtain ⟨v, v', u, ls', hv, hv', hu, hls⟩ := arg i hil
    rw [h2] at hls
    simp only [Option.some.injEq] at hls
    subst hls
    obtain ⟨hval, hread⟩ := hf i v v' u hv hv' hu
    obtain ⟨v1, v1', rv, sv, sv', d, k0, l0, y, hc⟩ := lent_cell hs hsend hx
    have e1 := hc.arg
    have e2 := hc.val
    rw [hv] at e1
    rw [hv'] at e2
    simp only [Option.some.injEq] at e1 e2
    subst e1 e2
    have hcl : c < (f i).1.1.length := by rw [hval.cells.len]; exact (List.getElem?_eq_some_iff.1 hc.ref).1
    have hxv := List.getElem?_eq_getElem hcl
    obtain ⟨q1, q2, _, _⟩ := ref_reads h (hval.cells.cell c _ _ hc.ref hxv) hc.own hc.path hc.get
    refine ⟨rv, sv', d, k0, l0, y, _, hc.own, hc.path.imp id And.right, q2, hc.get, by rw [vsB]; exact hxv, q1, ?_⟩
    rw [ltB]
    have : (q.lends.getD i []).getD c none = some (.cell s j p k) := by simp [List.getD_eq_getElem?_getD, h2, h3]
    rw [this]
    simp only [lendL, getD_some hc.own]
  · obtain ⟨rfl, bv, cs, hb⟩ := lent_box hs hsend hx
    refine ⟨?_, bv, cs, hb.box, hb.val⟩
    rw [bkC, hb.lends]
    rfl

end start3

end Go.Mach
/- The machine, part ns: the book's pattern of arguments of which some are lent. No condition: lemmas. -/
namespace Go.Mach
set_option linter.unusedVariables false
set_option linter.unusedSimpArgs false

def DecC (N : Nat) (md : List Bool) (i : Nat) (c c' : C) : Prop :=
  (c' = c ∧ c.base = true) ∨ c' = .dead ∨ (md.getD i false = false ∧ i < N ∧ c = .nil ∧ ∃ d' k, c' = .own 0 0 d' k [] ∨ c' = .dat (.list k) [])

theorem decCs_okM {N : Nat} {md : List Bool} {i : Nat} {ps : List PC} {cs : List C} {d : CsT ps} (h : decCs (if md.getD i false then 0 else N) i [] 0 ps cs = some d) : (encCs ps d).length = cs.length ∧
    ∀ (q : Nat) c c', cs[q]? = some c → (encCs ps d)[q]? = some c' → DecC N md i c c' := by
  obtain ⟨k1, k2⟩ := decCs_ok h
  refine ⟨k1, fun q c c' hc hc' => ?_⟩
  rcases k2 q c c' hc hc' with r | r | r
  · exact .inl r
  · exact .inr (.inl r)
  · right; right
    obtain ⟨⟨r1, r2, r3⟩, _⟩ := r
    cases hm : md.getD i false with
    | true => rw [hm] at r1; simp at r1
    | false =>
      rw [hm] at r1
      exact ⟨rfl, by simpa using r1, r2, r3⟩

theorem decA_okM {N : Nat} {md : List Bool} : ∀ {ps : List (PSh × List PC)} {i : Nat} {vals : List Val} {d : AsT ps}, decA N md i ps vals = some d → vals.length = ps.length ∧
    ∀ (j : Nat) v v', vals[j]? = some v → (encA ps d)[j]? = some v' → v'.1 = v.1 ∧ (∀ bv, v'.1 = .box bv → bv = 0) ∧ v'.2.length = v.2.length ∧
      ∀ (q : Nat) c c', v.2[q]? = some c → v'.2[q]? = some c' → DecC N md (i + j) c c'
  | [], i, [], d, _ => ⟨rfl, fun j v v' a => by simp at a⟩
  | [], i, _ :: _, d, h => by simp [decA] at h
  | [p], i, [], d, h => by simp [decA] at h
  | [p], i, _ :: _ :: _, d, h => by simp [decA] at h
  | [p], i, [v], d, h => by
    simp only [decA] at h
    split at h
    · rename_i a h1 h2
      simp only [Option.some.injEq] at h
      subst h
      refine ⟨rfl, fun j v0 v1 ha hb => ?_⟩
      cases j with
      | zero =>
        simp only [List.getElem?_cons_zero, Option.some.injEq, encA] at ha hb
        subst ha hb
        obtain ⟨k1, k2⟩ := decCs_okM h2
        refine ⟨PSh.fits_ok h1, fun bv hbv => ?_, k1, fun q c c' hc hc' => k2 q c c' hc hc'⟩
        simp only at hbv
        cases hp : p.1 <;> rw [hp] at hbv <;> simp [PSh.sh] at hbv
        exact hbv.symm
      | succ j => simp at ha
    · simp at h
  | p :: p' :: r, i, [], d, h => by simp [decA] at h
  | p :: p' :: r, i, v :: vs, d, h => by
    simp only [decA] at h
    split at h
    · rename_i a b h1 h2 h3
      simp only [Option.some.injEq] at h
      subst h
      obtain ⟨g1, g2⟩ := decA_okM h3
      refine ⟨by simp [g1], fun j v0 v1 ha hb => ?_⟩
      cases j with
      | zero =>
        simp only [List.getElem?_cons_zero, Option.some.injEq, encA] at ha hb
        subst ha hb
        obtain ⟨k1, k2⟩ := decCs_okM h2
        refine ⟨PSh.fits_ok h1, fun bv hbv => ?_, k1, fun q c c' hc hc' => k2 q c c' hc hc'⟩
        simp only at hbv
        cases hp : p.1 <;> rw [hp] at hbv <;> simp [PSh.sh] at hbv
        exact hbv.symm
      | succ j =>
        have := g2 j v0 v1 (by simpa using ha) (by simpa [encA] using hb)
        rw [show i + 1 + j = i + (j + 1) by omega] at this
        exact this
    · simp at h

theorem copy_base (t j : Nat) {c : C} (h : c.base = true) : (c.copy t j).base = true := by
  cases c <;> first | exact h | rfl

theorem copy_refAt {t j : Nat} {c : C} (h : c.refAt = []) : (c.copy t j).refAt = [] ∨ (∃ rv sv d k l, c = .own rv sv d k l ∧ (c.copy t j).refAt = [(t, j)]) := by
  cases c with
  | own rv sv d k l => exact .inr ⟨rv, sv, d, k, l, rfl, rfl⟩
  | _ => exact .inl h

theorem decA_genM {N : Nat} {md : List Bool} {ps : List (PSh × List PC)} {vals : List Val} {d : AsT ps} (h : decA N md 0 ps vals = some d) (hN : vals.length ≤ N) (hnr : ∀ v ∈ vals, ∀ c ∈ v.2, c.refAt = []) :
    Gen N (startE N md vals) (startE N md (encA ps d)) := by
  obtain ⟨h1, h2⟩ := decA_okM h
  have hl : (encA ps d).length = vals.length := by rw [encA_length, h1]
  obtain ⟨a1, a2, a3⟩ := startE_slots (n := N) (md := md) (vals := vals) hN
  obtain ⟨b1, b2, b3⟩ := startE_slots (n := N) (md := md) (vals := encA ps d) (by omega)
  rw [hl] at b1 b3
  have both : ∀ j, j < vals.length → ∃ v v', vals[j]? = some v ∧ (encA ps d)[j]? = some v' := fun j hj => ⟨_, _, List.getElem?_eq_getElem hj, List.getElem?_eq_getElem (by omega)⟩
  have hcell : ∀ (j : Nat) v v', vals[j]? = some v → (encA ps d)[j]? = some v' → v'.1 = v.1 ∧ (∀ bv, v'.1 = .box bv → bv = 0) ∧ v'.2.length = v.2.length ∧ ∀ (q : Nat) c c', v.2[q]? = some c → v'.2[q]? = some c' → DecC N md j c c' := fun j v v' hv hv' => by
    have := h2 j v v' hv hv'
    rw [Nat.zero_add] at this
    exact this
  -- which slot
  have place : ∀ s, (∃ j, j < vals.length ∧ (s = j ∨ s = N + 2 * j ∨ s = N + 2 * j + 1)) ∨ ((vals.length ≤ s ∧ s < N) ∨ N + 2 * vals.length ≤ s) := by
    intro s
    by_cases q1 : s < vals.length
    · exact .inl ⟨s, q1, .inl rfl⟩
    · by_cases q2 : (vals.length ≤ s ∧ s < N) ∨ N + 2 * vals.length ≤ s
      · exact .inr q2
      · refine .inl ⟨(s - N) / 2, by omega, ?_⟩
        right
        omega
  refine ⟨by rw [a1, b1], fun s _ => ?_, fun s j c hc t i ht rv sv d' k l ho => ?_⟩
  · rcases place s with ⟨j, hj, hs⟩ | hs
    · obtain ⟨v, v', hv, hv'⟩ := both j hj
      obtain ⟨k1, k2, k3, k4⟩ := hcell j v v' hv hv'
      obtain ⟨p1, p2, p3⟩ := a2 j v hv
      obtain ⟨r1, r2, r3⟩ := b2 j v' hv'
      cases hm : md.getD j false with
      | false =>
        rcases hs with rfl | rfl | rfl
        · right; left
          rw [p1, r1]
          simp only [slotA, hm, Bool.false_eq_true, if_false]
          refine ⟨k1, rfl, k2, k3, fun q c c' hc hc' => ?_⟩
          rcases k4 q c c' hc hc' with x | x | ⟨_, x1, x2, x3⟩
          · exact .inl x
          · exact .inr (.inl x)
          · exact .inr (.inr ⟨x1, x2, x3⟩)
        · right; right
          rw [p2, r2]
          exact ⟨by simp only [slotB, hm]; rfl, by simp only [slotB, hm]; rfl⟩
        · right; right
          rw [p3, r3]
          exact ⟨by simp only [slotC, hm]; rfl, by simp only [slotC, hm]; rfl⟩
      | true =>
        by_cases hbox : ∃ bv, v.1 = .box bv
        · obtain ⟨bv, hbox⟩ := hbox
          have hbox' : v'.1 = .box bv := by rw [k1]; exact hbox
          have hbv := k2 bv hbox'
          rcases hs with rfl | rfl | rfl
          · right; left
            rw [p1, r1]
            simp only [slotA, hm, if_true, hbox, hbox']
            refine ⟨rfl, rfl, fun bv hb => by simp at hb, rfl, fun q c c' hc hc' => ?_⟩
            rw [hc] at hc'
            simp only [Option.some.injEq] at hc'
            subst hc'
            refine .inl ⟨rfl, ?_⟩
            cases q with
            | zero => simp only [List.getElem?_cons_zero, Option.some.injEq] at hc; subst hc; rfl
            | succ q => simp at hc
          · right; right
            rw [p2, r2]
            exact ⟨by simp only [slotB, hm, hbox]; rfl, by simp only [slotB, hm, hbox']; rfl⟩
          · right; left
            rw [p3, r3]
            simp only [slotC, hm, if_true, hbox, hbox']
            refine ⟨rfl, rfl, fun bv hb => by simpa using hb.symm, k3, fun q c c' hc hc' => ?_⟩
            rcases k4 q c c' hc hc' with x | x | ⟨x, _⟩
            · exact .inl x
            · exact .inr (.inl x)
            · rw [hm] at x; simp at x
        · have hA : ∀ u : Val, u.1 = v.1 → slotA N md j u = { sh := u.1, cs := copyFrom (N + 2 * j) 0 u.2, cnt := 1 } ∧ slotB md j u = { sh := .agg, cs := u.2, cnt := 1 } ∧ slotC md j u = {} := by
            intro u hu
            have hn : ∀ bv, u.1 ≠ .box bv := fun bv q => hbox ⟨bv, by rw [← hu]; exact q⟩
            refine ⟨?_, ?_, ?_⟩
            · simp only [slotA, hm]
              cases hq : u.1 <;> first | rfl | exact absurd hq (hn _)
            · simp only [slotB, hm]
              cases hq : u.1 <;> first | rfl | exact absurd hq (hn _)
            · simp only [slotC, hm]
              cases hq : u.1 <;> first | rfl | exact absurd hq (hn _)
          obtain ⟨x1, x2, x3⟩ := hA v rfl
          obtain ⟨y1, y2, y3⟩ := hA v' k1
          rcases hs with rfl | rfl | rfl
          · right; left
            rw [p1, r1, x1, y1]
            refine ⟨k1, rfl, k2, by simp only [copyFrom_length]; exact k3, fun q c c' hc hc' => ?_⟩
            simp only [copyFrom_get, Nat.zero_add] at hc hc'
            cases hc0 : v.2[q]? with
            | none => rw [hc0] at hc; simp at hc
            | some c0 =>
              cases hc0' : v'.2[q]? with
              | none => rw [hc0'] at hc'; simp at hc'
              | some c0' =>
                rw [hc0] at hc
                rw [hc0'] at hc'
                simp only [Option.map_some, Option.some.injEq] at hc hc'
                subst hc hc'
                rcases k4 q c0 c0' hc0 hc0' with ⟨rfl, x⟩ | rfl | ⟨x, _⟩
                · exact .inl ⟨rfl, copy_base _ _ x⟩
                · exact .inr (.inl rfl)
                · rw [hm] at x; simp at x
          · right; left
            rw [p2, r2, x2, y2]
            refine ⟨rfl, rfl, fun bv hb => by simp at hb, k3, fun q c c' hc hc' => ?_⟩
            rcases k4 q c c' hc hc' with x | x | ⟨x, _⟩
            · exact .inl x
            · exact .inr (.inl x)
            · rw [hm] at x; simp at x
          · right; right
            rw [p3, r3, x3, y3]
            exact ⟨rfl, rfl⟩
    · right; right
      exact ⟨a3 s hs, b3 s hs⟩
  · -- references: only to cells that are lent
    have plainC : ∀ (j' : Nat) (v v' : Val) (q : Nat) (c0' : C), vals[j']? = some v → (encA ps d)[j']? = some v' → v'.2[q]? = some c0' → c0'.refAt = [] := by
      intro j' v v' q c0' hv hv' hc0'
      obtain ⟨k1, k2, k3, k4⟩ := hcell j' v v' hv hv'
      obtain ⟨c0, hc0⟩ : ∃ c0, v.2[q]? = some c0 := ⟨_, List.getElem?_eq_getElem (by rw [← k3]; exact (List.getElem?_eq_some_iff.1 hc0').1)⟩
      rcases k4 q c0 c0' hc0 hc0' with ⟨rfl, _⟩ | rfl | ⟨_, _, rfl, d', k, rfl | rfl⟩
      · exact hnr v (List.mem_of_getElem? hv) _ (List.mem_of_getElem? hc0)
      · rfl
      · rfl
      · rfl
    rcases place s with ⟨j', hj, hs⟩ | hs
    · obtain ⟨v, v', hv, hv'⟩ := both j' hj
      obtain ⟨k1, k2, k3, k4⟩ := hcell j' v v' hv hv'
      obtain ⟨p1, p2, p3⟩ := a2 j' v hv
      obtain ⟨r1, r2, r3⟩ := b2 j' v' hv'
      rcases hs with rfl | rfl | rfl
      · rw [r1] at hc
        unfold slotA at hc
        split at hc
        · rename_i hm
          split at hc
          · cases j with
            | zero =>
              simp only [List.getElem?_cons_zero, Option.some.injEq] at hc
              subst hc
              simp [C.refAt] at ht
            | succ j => simp at hc
          · rename_i hnb
            simp only [copyFrom_get, Nat.zero_add] at hc
            cases hc0' : v'.2[j]? with
            | none => rw [hc0'] at hc; simp at hc
            | some c0' =>
              rw [hc0'] at hc
              simp only [Option.map_some, Option.some.injEq] at hc
              subst hc
              rcases copy_refAt (t := N + 2 * s) (j := j) (plainC s v v' j c0' hv hv' hc0') with q | ⟨rv1, sv1, d1, k', l', rfl, q⟩
              · rw [q] at ht; simp at ht
              · rw [q] at ht
                simp only [List.mem_singleton, Prod.mk.injEq] at ht
                obtain ⟨rfl, rfl⟩ := ht
                have hB : ∀ u : Val, u.1 = v.1 → slotB md s u = { sh := .agg, cs := u.2, cnt := 1 } := by
                  intro u hu
                  have hn : ∀ bv, u.1 ≠ .box bv := fun bv q => by
                    rw [hu, ← k1] at q
                    exact hnb bv q
                  simp only [slotB, hm]
                  cases hq : u.1 <;> first | rfl | exact absurd hq (hn _)
                rw [r2, hB v' k1] at ho
                rw [p2, hB v rfl]
                rw [getD_some hc0'] at ho
                obtain ⟨c0, hc0⟩ : ∃ c0, v.2[i]? = some c0 := ⟨_, List.getElem?_eq_getElem (by rw [← k3]; exact (List.getElem?_eq_some_iff.1 hc0').1)⟩
                rcases k4 i c0 _ hc0 hc0' with ⟨q1, _⟩ | q1 | ⟨q1, _⟩
                · rw [getD_some hc0, ← q1]; exact ho
                · simp at q1
                · rw [hm] at q1; simp at q1
        · rw [plainC s v v' j c hv hv' hc] at ht; simp at ht
      · rw [r2] at hc
        unfold slotB at hc
        split at hc
        · split at hc
          · simp at hc
          · rw [plainC j' v v' j c hv hv' hc] at ht; simp at ht
        · simp at hc
      · rw [r3] at hc
        unfold slotC at hc
        split at hc
        · split at hc
          · rw [plainC j' v v' j c hv hv' hc] at ht; simp at ht
          · simp at hc
        · simp at hc
    · rw [b3 s hs] at hc; simp at hc

/-- What is sent refers to nothing. -/
theorem send_refAt {t : Tr} {md : List Bool} {args : List Val} {q : Sent} (hsend : send t md [] 0 args = some q) : ∀ v ∈ q.vals, ∀ c ∈ v.2, c.refAt = [] := by
  obtain ⟨g1, g2, g3⟩ := send_get hsend
  intro v' hv' c hc
  obtain ⟨i, hi⟩ := List.getElem?_of_mem hv'
  have hil : i < args.length := by rw [← g1]; exact (List.getElem?_eq_some_iff.1 hi).1
  rcases g3 i _ v' _ (List.getElem?_eq_getElem hil) hi (List.getElem?_eq_getElem (by omega)) with ⟨_, _, h, _⟩ | ⟨_, s, bv, cs, _, _, hob, rfl, _⟩ | ⟨_, _, hlc⟩
  · exact sendCs_refAt h c hc
  · obtain ⟨o1, o2⟩ := ownBox_get hob
    obtain ⟨j, hj⟩ := List.getElem?_of_mem hc
    rcases o2 j _ c (List.getElem?_eq_getElem (by rw [← o1]; exact (List.getElem?_eq_some_iff.1 hj).1)) hj with ⟨_, _, _, _, _, _, rfl⟩ | ⟨h1, _, h2⟩
    · rfl
    · rw [h1]
      rcases h2 with ⟨_, _, h2⟩ | h2 | ⟨_, _, h2⟩ | ⟨_, h2⟩ <;> rw [h2] <;> rfl
  · obtain ⟨l1, l2, l3⟩ := lendCells_get hlc
    obtain ⟨j, hj⟩ := List.getElem?_of_mem hc
    have hjl : j < v'.2.length := (List.getElem?_eq_some_iff.1 hj).1
    rcases l3 j _ c _ (List.getElem?_eq_getElem (by omega)) hj (List.getElem?_eq_getElem (by omega)) with ⟨_, _, _, rfl, _, _⟩ | ⟨_, _, _, _, _, _, _, _, _, _, _, _, _, _, _, _, _, rfl, _⟩
    · rfl
    · rfl

end Go.Mach
/- The machine, part nt: what comes back into the caller's slots. No condition: lemmas. -/
namespace Go.Mach
set_option linter.unusedVariables false
set_option linter.unusedSimpArgs false

/-- The caller's slots, once all that was lent came back. -/
structure BackEnv (outs : List (List C)) (fl : List (Nat × Nat × Lend)) (e e3 : Env) : Prop where
  len : e3.length = e.length
  rest : ∀ s, (∀ x ∈ fl, x.2.2.slot ≠ s) → e3.get s = e.get s
  box : ∀ i c s, (i, c, Lend.box s) ∈ fl → e3.get s = Slot.mk (e.get s).sh ((outs.getD i []).map (layC (e.get s).cnt)) ((e.get s).cnt + 1)
  cells : ∀ s, (∀ x ∈ fl, x.2.2 ≠ .box s) → (e3.get s).sh = (e.get s).sh ∧ (e.get s).cnt ≤ (e3.get s).cnt ∧ (e3.get s).cs.length = (e.get s).cs.length
  cellR : ∀ s j, (∀ x ∈ fl, x.2.2 ≠ .box s) → (∀ x ∈ fl, ∀ p k, x.2.2 ≠ .cell s j p k) → (e3.get s).cs[j]? = (e.get s).cs[j]?
  cell : ∀ i c s j p k, (i, c, Lend.cell s j p k) ∈ fl → ∃ z c1, ((e.get s).cnt ≤ z ∧ (e.get s).cnt / verM < z / verM) ∧ z < (e3.get s).cnt ∧ backC z ((e.get s).cs.getD j .dead) p k ((outs.getD i []).getD c .dead) = some c1 ∧ (e3.get s).cs[j]? = some c1

theorem layC_fun (r : Nat) : reC r = layC r := by
  funext c
  cases c <;> rfl

theorem backC_own {z : Nat} {c0 : C} {p : Path} {k : K} {c c1 : C} (h : backC z c0 p k c = some c1) : ∃ rv sv d k0 l0, c0 = .own rv sv d k0 l0 := by
  cases c0 <;> first | exact ⟨_, _, _, _, _, rfl⟩ | simp [backC] at h

theorem clash_cell {s j : Nat} {p : Path} {k : K} {l : Lend} (h : Lend.clash (.cell s j p k) l = false) : (∀ p' k', l ≠ .cell s j p' k') ∧ l ≠ .box s := by
  refine ⟨fun p' k' q => ?_, fun q => ?_⟩
  · subst q; simp [Lend.clash] at h
  · subst q; simp [Lend.clash, Lend.slot] at h

theorem clash_box {s : Nat} {l : Lend} (h : Lend.clash (.box s) l = false) : l.slot ≠ s := by
  intro q
  cases l <;> simp only [Lend.clash, Lend.slot] at h q <;> subst q <;> simp at h

theorem back_env {e0 : Env} (outs : List (List C)) : ∀ {fl : List (Nat × Nat × Lend)} {t t' : Tr} {e : Env}, TrOk e0 t e → apartF fl = true → (∀ x ∈ fl, x.2.2.slot < e.length ∧ t.at x.2.2.slot = e.get x.2.2.slot) → backAll outs t fl = some t' →
    ∃ e3, TrOk e0 t' e3 ∧ t'.d = t.d ∧ BackEnv outs fl e e3 ∧ ∀ s, (∀ x ∈ fl, x.2.2.slot ≠ s) → t'.at s = t.at s
  | [], t, t', e, ht, _, _, h => by
    simp only [backAll, Option.some.injEq] at h
    subst h
    exact ⟨e, ht, rfl, ⟨rfl, fun _ _ => rfl, fun i c s hx => by simp at hx, fun s _ => ⟨rfl, Nat.le_refl _, rfl⟩, fun s j _ _ => rfl, fun i c s j p k hx => by simp at hx⟩, fun _ _ => rfl⟩
  | (i, c, l) :: r, t, t', e, ht, hap, hs, h => by
    simp only [apartF, Bool.and_eq_true, List.all_eq_true, Bool.not_eq_true'] at hap
    obtain ⟨hap1, hap2⟩ := hap
    simp only [backAll] at h
    obtain ⟨hl0, hat0⟩ := hs (i, c, l) (by simp)
    dsimp only at hl0 hat0
    cases l with
    | box s =>
      simp only [Lend.slot] at hl0 hat0
      have hno : ∀ x ∈ r, x.2.2.slot ≠ s := fun x hx => clash_box (hap1 x hx)
      simp only [backOne, hat0, layC_fun] at h
      generalize hX : (Slot.mk (e.get s).sh ((outs.getD i []).map (layC (e.get s).cnt)) ((e.get s).cnt + 1)) = X at h
      have hput := ht.put X hl0
      obtain ⟨e3, h1, h2, h3, h4⟩ := back_env outs (fl := r) hput hap2 (fun x hx => by
        obtain ⟨q1, q2⟩ := hs x (by simp [hx])
        exact ⟨by simpa using q1, by rw [at_put_ne t _ (hno x hx), get_set_ne (hno x hx)]; exact q2⟩) h
      have hes : e3.get s = X := by rw [h3.rest s hno, get_set_self hl0]
      refine ⟨e3, h1, h2, ⟨by rw [h3.len, List.length_set], fun s' hs' => ?_, fun i' c' s' hx => ?_, fun s' hs' => ?_, fun s' j hs' hc' => ?_, fun i' c' s' j p k hx => ?_⟩, fun s' hs' => ?_⟩
      · have q : s ≠ s' := hs' (i, c, .box s) (by simp)
        rw [h3.rest s' fun x hx => hs' x (by simp [hx]), get_set_ne (Ne.symm q)]
      · simp only [List.mem_cons] at hx
        rcases hx with hx | hx
        · simp only [Prod.mk.injEq, Lend.box.injEq] at hx
          obtain ⟨rfl, rfl, rfl⟩ := hx
          rw [hes, hX]
        · have q : s' ≠ s := hno _ hx
          have := h3.box i' c' s' hx
          rw [get_set_ne q] at this
          exact this
      · have q : s' ≠ s := fun q => hs' (i, c, .box s) (by simp) (by rw [q])
        have := h3.cells s' fun x hx => hs' x (by simp [hx])
        rw [get_set_ne q] at this
        exact this
      · have q : s' ≠ s := fun q => hs' (i, c, .box s) (by simp) (by rw [q])
        have := h3.cellR s' j (fun x hx => hs' x (by simp [hx])) (fun x hx => hc' x (by simp [hx]))
        rw [get_set_ne q] at this
        exact this
      · simp only [List.mem_cons, Prod.mk.injEq, reduceCtorEq, and_false, false_or] at hx
        have q : s' ≠ s := hno _ hx
        have := h3.cell i' c' s' j p k hx
        rw [get_set_ne q] at this
        exact this
      · have q : s ≠ s' := hs' (i, c, .box s) (by simp)
        rw [h4 s' fun x hx => hs' x (by simp [hx]), at_put_ne t _ (Ne.symm q)]
    | cell s j p k =>
      simp only [Lend.slot] at hl0 hat0
      simp only [backOne, hat0] at h
      cases hb : backC (jumpV (e.get s).cnt) ((e.get s).cs.getD j .dead) p k ((outs.getD i []).getD c .dead) with
      | none => rw [hb] at h; simp at h
      | some c1 =>
        rw [hb] at h
        simp only at h
        obtain ⟨rv, sv, d, k0, l0, hown⟩ := backC_own hb
        have hj : (e.get s).cs[j]? = some (.own rv sv d k0 l0) := some_of_getD hown (by simp)
        have hjl : j < (e.get s).cs.length := (List.getElem?_eq_some_iff.1 hj).1
        generalize hX : (Slot.mk (e.get s).sh ((e.get s).cs.set j c1) (jumpV (e.get s).cnt + 1)) = X at h
        have hput := ht.put X hl0
        have hno : ∀ x ∈ r, (∀ p' k', x.2.2 ≠ .cell s j p' k') ∧ x.2.2 ≠ .box s := fun x hx => clash_cell (hap1 x hx)
        obtain ⟨e3, h1, h2, h3, h4⟩ := back_env outs (fl := r) hput hap2 (fun x hx => by
          obtain ⟨q1, q2⟩ := hs x (by simp [hx])
          refine ⟨by simpa using q1, ?_⟩
          by_cases g : x.2.2.slot = s
          · rw [g, at_put_self, get_set_self hl0]
          · rw [at_put_ne t _ g, get_set_ne g]; exact q2) h
        have hXs : X.sh = (e.get s).sh ∧ X.cnt = jumpV (e.get s).cnt + 1 ∧ X.cs = (e.get s).cs.set j c1 := by rw [← hX]; exact ⟨rfl, rfl, rfl⟩
        have hnb : ∀ x ∈ r, x.2.2 ≠ .box s := fun x hx => (hno x hx).2
        have hcs := h3.cells s hnb
        rw [get_set_self hl0] at hcs
        refine ⟨e3, h1, h2, ⟨by rw [h3.len, List.length_set], fun s' hs' => ?_, fun i' c' s' hx => ?_, fun s' hs' => ?_, fun s' j' hs' hc' => ?_, fun i' c' s' j' p' k' hx => ?_⟩, fun s' hs' => ?_⟩
        · have q : s ≠ s' := hs' (i, c, .cell s j p k) (by simp)
          rw [h3.rest s' fun x hx => hs' x (by simp [hx]), get_set_ne (Ne.symm q)]
        · simp only [List.mem_cons, Prod.mk.injEq, reduceCtorEq, and_false, false_or] at hx
          have q : s' ≠ s := fun q => hnb _ hx (by rw [q])
          have := h3.box i' c' s' hx
          rw [get_set_ne q] at this
          exact this
        · have := h3.cells s' fun x hx => hs' x (by simp [hx])
          by_cases g : s' = s
          · subst g
            obtain ⟨q1, q2, q3⟩ := hcs
            exact ⟨by rw [q1, hXs.1], by rw [hXs.2.1] at q2; have := jumpV_gt (e.get s').cnt; omega, by rw [q3, hXs.2.2, List.length_set]⟩
          · rw [get_set_ne g] at this
            exact this
        · have := h3.cellR s' j' (fun x hx => hs' x (by simp [hx])) (fun x hx => hc' x (by simp [hx]))
          by_cases g : s' = s
          · subst g
            have hne : j ≠ j' := fun q => hc' (i, c, .cell s' j p k) (by simp) p k (by rw [q])
            rw [get_set_self hl0, hXs.2.2, List.getElem?_set_ne hne] at this
            exact this
          · rw [get_set_ne g] at this
            exact this
        · simp only [List.mem_cons] at hx
          rcases hx with hx | hx
          · simp only [Prod.mk.injEq, Lend.cell.injEq] at hx
            obtain ⟨rfl, rfl, rfl, rfl, rfl, rfl⟩ := hx
            refine ⟨_, c1, jumpV_gt _, ?_, hb, ?_⟩
            · have := hcs.2.1; rw [hXs.2.1] at this; omega
            · rw [h3.cellR s' j' hnb (fun x hx => (hno x hx).1), get_set_self hl0, hXs.2.2, List.getElem?_set_self hjl]
          · have := h3.cell i' c' s' j' p' k' hx
            by_cases g : s' = s
            · subst g
              have hne : j ≠ j' := fun q => (hno _ hx).1 p' k' (by rw [q])
              obtain ⟨z, c2, q1, q2, q3, q4⟩ := this
              rw [get_set_self hl0] at q1 q3
              rw [hXs.2.1] at q1
              rw [hXs.2.2, getD_set_ne (Ne.symm hne)] at q3
              have j1 := jumpV_gt (e.get s').cnt
              have j2 : (e.get s').cnt / verM ≤ (jumpV (e.get s').cnt + 1) / verM := Nat.div_le_div_right (by omega)
              exact ⟨z, c2, ⟨by omega, by omega⟩, q2, q3, q4⟩
            · rw [get_set_ne g] at this
              exact this
        · have q : s ≠ s' := hs' (i, c, .cell s j p k) (by simp)
          rw [h4 s' fun x hx => hs' x (by simp [hx]), at_put_ne t _ (Ne.symm q)]

/-! ### What comes out of the callee -/
def outC : C → C
  | .own 0 _ d k l => .own 0 0 d k l
  | .dat k x => .dat k x
  | _ => .dead

theorem outC_fun : (fun c : C => match c with | .own 0 _ d k l => .own 0 0 d k l | .dat k x => .dat k x | _ => .dead) = outC := by
  funext c
  cases c with
  | own rv sv d k l => cases rv <;> rfl
  | _ => rfl

theorem outs_get {n : Nat} {get : Nat → Slot} {md : List Bool} : ∀ {args : List Val} {i : Nat} {os : List (List C)}, outsOf n get md i args = some os → os.length = args.length ∧
    ∀ (j : Nat) v o, args[j]? = some v → os[j]? = some o → md.getD (i + j) false = true →
      (∀ bv, v.1 = .box bv → (∃ bv', (get (n + 2 * (i + j) + 1)).sh = .box bv') ∧ ownBox (get (n + 2 * (i + j) + 1)).cs = some o) ∧ ((∀ bv, v.1 ≠ .box bv) → o = (get (n + 2 * (i + j))).cs.map outC)
  | [], i, os, h => by
    simp only [outsOf, Option.some.injEq] at h
    subst h
    exact ⟨rfl, fun j v o a => by simp at a⟩
  | (sh, cs) :: r, i, os, h => by
    simp only [outsOf] at h
    split at h
    · simp at h
    · rename_i os1 h1
      obtain ⟨g1, g2⟩ := outs_get h1
      have fin : ∀ o, os = o :: os1 → (md.getD i false = true → (∀ bv, sh = .box bv → (∃ bv', (get (n + 2 * i + 1)).sh = .box bv') ∧ ownBox (get (n + 2 * i + 1)).cs = some o) ∧ ((∀ bv, sh ≠ .box bv) → o = (get (n + 2 * i)).cs.map outC)) →
          os.length = ((sh, cs) :: r).length ∧ ∀ (j : Nat) v o, ((sh, cs) :: r)[j]? = some v → os[j]? = some o → md.getD (i + j) false = true →
            (∀ bv, v.1 = .box bv → (∃ bv', (get (n + 2 * (i + j) + 1)).sh = .box bv') ∧ ownBox (get (n + 2 * (i + j) + 1)).cs = some o) ∧ ((∀ bv, v.1 ≠ .box bv) → o = (get (n + 2 * (i + j))).cs.map outC) := by
        rintro o rfl hh
        refine ⟨by simp [g1], fun j v o' ha hb hm => ?_⟩
        cases j with
        | zero =>
          simp only [List.getElem?_cons_zero, Option.some.injEq] at ha hb
          subst ha hb
          exact hh hm
        | succ j =>
          have := g2 j v o' (by simpa using ha) (by simpa using hb) (by rw [show i + 1 + j = i + (j + 1) by omega]; exact hm)
          rw [show i + 1 + j = i + (j + 1) by omega] at this
          exact this
      split at h
      · rename_i hm
        split at h
        · rename_i bv
          split at h
          · rename_i bv' hsh
            cases hob : ownBox (get (n + 2 * i + 1)).cs with
            | none => rw [hob] at h; simp at h
            | some o =>
              rw [hob] at h
              simp only [Option.map_some, Option.some.injEq] at h
              exact fin o h.symm fun _ => ⟨fun bv _ => ⟨⟨bv', hsh⟩, hob⟩, fun q => absurd rfl (q bv)⟩
          · simp at h
        · rename_i hnb
          simp only [Option.some.injEq, outC_fun] at h
          exact fin _ h.symm fun _ => ⟨fun bv q => absurd q (hnb bv), fun _ => rfl⟩
      · rename_i hm
        simp only [Option.some.injEq] at h
        exact fin _ h.symm fun q => absurd q hm

end Go.Mach
/- The machine, part nu: one cell that was lent, and came back. No condition: lemmas. -/
namespace Go.Mach
set_option linter.unusedVariables false
set_option linter.unusedSimpArgs false

theorem repl_flat {dr d d' : Bool} {w : World} {k : K} {l : List k.T} {L : LT} {v : Value} (hf : k.flat = true) (h : RepL dr w k.size (Rep d w k) l L v) : RepL dr w k.size (Rep d' w k) l L v := by
  rcases h with h | ⟨b, off, cap, rows, rfl, h1, h2, h3, h0, h4, h5⟩
  · exact .inl h
  · refine .inr ⟨b, off, cap, rows, rfl, h1, h2, h3, h0, h4, fun i x r hx hr => ?_⟩
    obtain ⟨vs, g1, g2⟩ := h5 i x r hx hr
    exact ⟨vs, g1, g2.flat hf⟩

theorem flat_ownD {d : Bool} {k : K} {L : LT} (h : d = true ∨ k.flat = true) : ownD d k L = fp (.list k) L := by
  cases d with
  | true => rfl
  | false =>
    have hf : k.flat = true := by simpa using h
    rw [fp_list]
    have : inner k L = [] := by
      cases L with
      | node b off cap rows =>
        simp only [inner]
        rw [List.flatMap_eq_nil_iff]
        intro r _
        exact fp_flat hf
      | _ => rfl
    rw [this, List.append_nil]
    rfl

theorem empty_own {w : World} {d : Bool} {k : K} {l : List k.T} {L : LT} {v : Value} (h : RepL true w k.size (Rep d w k) l L v) (hn : hdOf (sentL L) = none) : inner k L = [] ∧ ∀ d', ownD d' k L = (hdOf L).toList.map (·.1) := by
  have hi : inner k L = [] := by
    rcases h with ⟨rfl, _⟩ | ⟨b, off, cap, rows, rfl, h1, h2, h3, h0, h4, h5⟩
    · rfl
    · cases cap with
      | zero =>
        have : rows = [] := List.eq_nil_of_length_eq_zero (by omega)
        subst this
        rfl
      | succ c => simp [sentL, hdOf] at hn
  refine ⟨hi, fun d' => ?_⟩
  cases d' with
  | true => simp only [ownD, if_true, fp_list, hi, List.append_nil]
  | false => rfl

theorem sent_none {d : Bool} {k : K} {L : LT} (hn : hdOf (sentL L) = none) : ownD d k (sentL L) = [] := by
  cases L with
  | node b off cap rows =>
    cases cap with
    | zero => cases d <;> rfl
    | succ c => simp [sentL, hdOf] at hn
  | _ => cases d <;> rfl

theorem hd_own {d : Bool} {k : K} {L : LT} : ∀ b ∈ (hdOf L).toList.map (·.1), b ∈ ownD d k L := by
  intro b hb
  cases d with
  | true => simp only [ownD, if_true, fp_list, List.mem_append]; exact .inl hb
  | false => exact hb

theorem hd_setSub {w : World} {d : Bool} {k : K} {l : List k.T} {L M : LT} {v : Value} (h : RepL true w k.size (Rep d w k) l L v) {p : Path} (hp0 : p ≠ []) (hp : PathOk k l p) : hdOf (setSub k L M p) = hdOf L := by
  match p, hp0 with
  | (i, c) :: p, _ =>
    simp only [PathOk] at hp
    obtain ⟨hi, hc, hp⟩ := hp
    obtain ⟨b, off, cap, rows, r, vs, rfl, _⟩ := h.elem hi
    cases hl : leafV k (l.getD i k.dflt) c with
    | mk k1 y =>
      have hk := leafV_kind k (l.getD i k.dflt) c
      rw [hl] at hk hp
      cases k1 with
      | list k' =>
        simp only at hk
        simp only [setSub, ← hk]
        rfl
      | _ => exact hp.elim

/-- One cell that was lent, and came back. -/
theorem back_cell {w w1 : World} {d d1 : Bool} {k0 k k1 : K} {l0 : List k0.T} {y : List k.T} {l1 : List k1.T} {L L1 : LT} {v0 x : Value} {p : Path} {rv sv z : Nat} {c1 : C}
    (hrep : RepL true w k0.size (Rep d w k0) l0 L v0) (hp : p = [] ∨ d = true) (hpath : PathOk k0 l0 p) (hget : getP k0 l0 p = ⟨k, y⟩) (hsl : SliceIs k.size y.length (hdOf (subL k0 L p)) none none x)
    (hout : RepL true w1 k1.size (Rep d1 w1 k1) l1 L1 x) (hhd : hdOf L1 = hdOf (sentL (subL k0 L p))) (hc1 : backC z (.own rv sv d k0 l0) p k (.own 0 0 d1 k1 l1) = some c1)
    (hsame : ∀ b, b ∈ ownD d k0 L → b ∉ ownD d k (sentL (subL k0 L p)) → w1.heap[b]? = w.heap[b]?) (hnd : (ownD d k0 L).Nodup) (hnd1 : (ownD d1 k1 L1).Nodup)
    (hdis : ∀ b, b ∈ ownD d1 k1 L1 → b ∈ ownD d k0 L → b ∈ ownD d k (sentL (subL k0 L p))) :
    ∃ d' l0', c1 = .own rv z d' k0 l0' ∧ RepL true w1 k0.size (Rep d' w1 k0) l0' (setSub k0 L (backL (subL k0 L p) L1) p) v0 ∧ l0'.length = l0.length ∧ hdOf (setSub k0 L (backL (subL k0 L p) L1) p) = hdOf L ∧
      (∀ b ∈ ownD d' k0 (setSub k0 L (backL (subL k0 L p) L1) p), (b ∈ ownD d k0 L ∧ b ∉ ownD d k (sentL (subL k0 L p))) ∨ b ∈ ownD d1 k1 L1) ∧ (ownD d' k0 (setSub k0 L (backL (subL k0 L p) L1) p)).Nodup ∧
      (d' = false → ∀ b ∈ inner k0 (setSub k0 L (backL (subL k0 L p) L1) p), d1 = false ∧ b ∈ inner k1 L1) := by
  by_cases hp0 : p = []
  · subst hp0
    rw [getP_nil] at hget
    simp only [Sigma.mk.injEq] at hget
    obtain ⟨rfl, hy⟩ := hget
    have hy := eq_of_heq hy
    subst hy
    simp only [subL] at hsl hhd hsame hdis ⊢
    simp only [setSub]
    simp only [backC] at hc1
    split at hc1
    · rename_i hk
      subst hk
      simp only [Option.some.injEq] at hc1
      subst hc1
      obtain ⟨r1, r2, r3⟩ := back_rep hrep hsl hout hhd (fun hn b hb => hsame b (hd_own b hb) (by rw [sent_none hn]; simp))
      refine ⟨d1, l1, rfl, r1, r2, r3, ?_⟩
      cases hh : hdOf (sentL L) with
      | none =>
        obtain ⟨i1, i2⟩ := empty_own hrep hh
        have hb : backL L L1 = L := by simp only [backL, hh]
        rw [hb, i2 d1, sent_none hh]
        refine ⟨fun b hb => .inl ⟨hd_own b hb, by simp⟩, ?_, fun _ b hb => by rw [i1] at hb; simp at hb⟩
        cases hdOf L <;> simp
      | some q =>
        have hb : backL L L1 = L1 := by simp only [backL, hh]
        rw [hb]
        exact ⟨fun b hb => .inr hb, hnd1, fun hd b hb => ⟨hd, hb⟩⟩
    · simp at hc1
  · obtain rfl := hp.resolve_left hp0
    match p, hp0 with
    | q :: p', hp0 =>
    simp only [backC] at hc1
    split at hc1
    · rename_i hk
      obtain ⟨rfl, hfl⟩ := hk
      simp only [Option.some.injEq] at hc1
      subst hc1
      obtain ⟨v', rest, f1, f2, f3⟩ := focus (fun k' l' => (castL k1 l1 k').getD l') (q :: p') k0 l0 L v0 hrep hpath
      have hg : (fun k' l' => (castL k1 l1 k').getD l') (getP k0 l0 (q :: p')).1 (getP k0 l0 (q :: p')).2 = (castL k1 l1 (getP k0 l0 (q :: p')).1).getD (getP k0 l0 (q :: p')).2 := rfl
      rw [hget] at f1 f2
      generalize hS : subL k0 L (q :: p') = S at f1 f2 hsl hhd hsame hdis ⊢
      have hndp : (fp (.list k1) S ++ rest).Nodup := f2.nodup_iff.1 (by simpa [ownD] using hnd)
      rw [List.nodup_append] at hndp
      have hrest : ∀ b ∈ rest, b ∈ ownD true k0 L ∧ b ∉ ownD true k1 (sentL S) := fun b hb => ⟨f2.mem_iff.2 (by simp [hb]), fun q => hndp.2.2 b (sentL_sub _ _ b q) b hb rfl⟩
      obtain ⟨r1, r2, r3⟩ := back_rep f1 hsl hout hhd (fun hn b hb => hsame b (f2.mem_iff.2 (List.mem_append.2 (.inl (by
        have := hd_own (d := true) (k := k1) b hb
        exact this)))) (by rw [sent_none hn]; simp))
      have r1' : RepL true w1 k1.size (Rep true w1 k1) l1 (backL S L1) v' := by
        cases d1 with
        | true => exact r1
        | false => exact repl_flat (by simpa using hfl) r1
      have hgl : (castL k1 l1 k1).getD y = l1 := by rw [castL_self]; rfl
      have hmod : RepL true w1 k0.size (Rep true w1 k0) (modP (fun k' l' => (castL k1 l1 k').getD l') k0 l0 (q :: p')) (setSub k0 L (backL S L1) (q :: p')) v0 ∧
          (fp (.list k0) (setSub k0 L (backL S L1) (q :: p'))).Perm (fp (.list k1) (backL S L1) ++ rest) := by
        have := f3 w1 (backL S L1) true (fun b hb => hsame b (hrest b hb).1 (hrest b hb).2)
        rw [hget] at this
        exact this (by simp only [hgl]; exact r1')
      refine ⟨true, _, rfl, hmod.1, modP_length _ _ (by rw [hget]; simp only [hgl]; exact r2), hd_setSub hrep hp0 hpath, ?_, ?_, fun h => by cases h⟩
      · intro b hb
        have := hmod.2.mem_iff.1 hb
        rw [List.mem_append] at this
        rcases this with hb | hb
        · cases hh : hdOf (sentL S) with
          | none =>
            have hbl : backL S L1 = S := by simp only [backL, hh]
            rw [hbl] at hb
            exact .inl ⟨f2.mem_iff.2 (List.mem_append.2 (.inl hb)), by rw [sent_none hh]; simp⟩
          | some q' =>
            have hbl : backL S L1 = L1 := by simp only [backL, hh]
            rw [hbl] at hb
            exact .inr (by rw [flat_ownD hfl]; exact hb)
        · exact .inl (hrest b hb)
      · have : (fp (.list k1) (backL S L1) ++ rest).Nodup := by
          rw [List.nodup_append]
          cases hh : hdOf (sentL S) with
          | none =>
            have hbl : backL S L1 = S := by simp only [backL, hh]
            rw [hbl]
            exact hndp
          | some q' =>
            have hbl : backL S L1 = L1 := by simp only [backL, hh]
            rw [hbl]
            refine ⟨by rw [← flat_ownD hfl]; exact hnd1, hndp.2.1, fun a ha b hb hab => ?_⟩
            subst hab
            exact (hrest a hb).2 (hdis a (by rw [flat_ownD hfl]; exact ha) (hrest a hb).1)
        exact hmod.2.nodup_iff.2 this
    · simp at hc1

end Go.Mach
/- The machine, part nv: the caller's slots behind a call to which something was lent. No condition: lemmas. -/
namespace Go.Mach
set_option linter.unusedVariables false
set_option linter.unusedSimpArgs false

/-- A slot of which all is given up. -/
theorem give_slot {n : Nat} {e e3 : Env} {tm : Array Value} {w w1 : World} {G G' : Gh} (h : Inv n e tm w G) {s : Nat} (hq : e3.get s = giveS (e.get s)) (hv : G'.vs s = G.vs s) (hl : ∀ j, G'.lt s j = G.lt s j) (hbk : G'.bk s = G.bk s)
    (hTM : ∀ t, TM e e3 G G' t) (hst : Still w w1 G.ow G'.ow) (hgive : ∀ b, G.ow b = some s → w1.heap[b]? = w.heap[b]? ∧ G'.ow b = none) : SlotOk n e3 tm w1 G' s := by
  have hs := h.slot s
  by_cases hbox : ∃ bv, (e.get s).sh = .box bv
  · obtain ⟨bv, hbox⟩ := hbox
    have hq' : e3.get s = { e.get s with sh := .dead, cs := [] } := by rw [hq]; unfold giveS; rw [hbox]
    refine ⟨fun _ => ?_, fun bv hb => ?_, fun hd => ?_, fun hd => ?_, fun hd => ?_, ?_, ?_, fun _ => ?_⟩
    · rw [hq']; trivial
    · rw [hq'] at hb; simp at hb
    · rw [hq'] at hd; simp at hd
    · rw [hq'] at hd; simp at hd
    · rw [hq'] at hd; simp at hd
    · rw [hq']; simp [fpS]
    · rw [hq']; simp [fpS]
    · rw [hq']
  · have hq' : e3.get s = { e.get s with cs := (e.get s).cs.map C.give } := by
      rw [hq]; unfold giveS
      split
      · rename_i bv hsh; exact absurd ⟨bv, hsh⟩ hbox
      · rfl
    have hfp : fpS G' s (e3.get s) = [] := by
      have key : ∀ (cs : List C) (i : Nat), fpCells (G'.lt s) i (cs.map C.give) = [] := by
        intro cs
        induction cs with
        | nil => intro i; rfl
        | cons c cs ih => intro i; simp only [List.map_cons, fpCells, noOwn_ownB (give_noOwn c), ih]; rfl
      rw [hq']
      simp only [fpS, key]
      cases hsh : (e.get s).sh <;> first | rfl | (rename_i bv; exact absurd ⟨bv, hsh⟩ hbox)
    have hsh : (e3.get s).sh = (e.get s).sh := by rw [hq']
    refine ⟨fun hn => ?_, fun bv hb => ?_, fun hd => ?_, fun hd j c v hc hvj => ?_, fun hd j rv sv d k l hc => ?_, by rw [hfp]; simp, by rw [hfp]; simp, fun hd => ?_⟩
    · rw [hsh, hv, hbk]; exact hs.form hn
    · rw [hsh] at hb; exact absurd ⟨bv, hb⟩ hbox
    · rw [hq', hv]; simp only [List.length_map]; exact hs.len (by rw [← hsh]; exact hd)
    · rw [hq'] at hc
      rw [hv] at hvj
      rw [hl]
      simp only [List.getElem?_map] at hc
      cases hc0 : (e.get s).cs[j]? with
      | none => rw [hc0] at hc; simp at hc
      | some c0 =>
        rw [hc0] at hc
        simp only [Option.map_some, Option.some.injEq] at hc
        subst hc
        have hok := hs.cells (by rw [← hsh]; exact hd) j c0 v hc0 hvj
        cases hown : c0.isOwn with
        | false =>
          have : c0.give = c0 := by cases c0 <;> first | rfl | simp [C.isOwn] at hown
          rw [this]
          exact hok.frame hTM hst (fun b hb => by simp [noOwn_ownB hown] at hb)
        | true =>
          cases c0 with
          | own rv sv d k l =>
            simp only [C.give]
            obtain ⟨k1, k2⟩ := hok
            obtain ⟨o1, o2, o3⟩ := h.ownBlocks hc0
            have hall : ∀ b ∈ fp (.list k) (G.lt s j), G.ow b = some s ∨ G.ow b = none := by
              intro b hb
              cases d with
              | true => exact .inl (o1 b hb)
              | false =>
                rw [fp_list, List.mem_append] at hb
                rcases hb with q | q
                · exact .inl (o1 b q)
                · exact .inr (o2 rfl b q)
            have hin : ∀ b ∈ fp (.list k) (G.lt s j), w1.heap[b]? = w.heap[b]? ∧ G'.ow b = none := fun b hb => by
              rcases hall b hb with q | q
              · exact hgive b q
              · exact hst b q (k1.there b hb)
            exact ⟨(k1.same fun b hb => (hin b hb).1).rep, fun b hb => (hin b hb).2⟩
          | _ => simp [C.isOwn] at hown
    · rw [hq'] at hc
      simp only [List.getElem?_map] at hc
      cases hc0 : (e.get s).cs[j]? with
      | none => rw [hc0] at hc; simp at hc
      | some c0 =>
        rw [hc0] at hc
        simp only [Option.map_some, Option.some.injEq] at hc
        have := give_noOwn c0
        rw [hc] at this
        simp [C.isOwn] at this
    · rw [hsh] at hd
      rw [hq', hs.dead hd]; rfl

theorem TM.give {e e3 : Env} {G G' : Gh} {t : Nat} (hq : e3.get t = giveS (e.get t)) : TM e e3 G G' t := by
  refine ⟨?_, fun j rv sv d k l hc => ?_, fun bv hb => ?_⟩
  · rw [hq]; unfold giveS; cases (e.get t).sh <;> exact Nat.le_refl _
  · exfalso
    rw [hq] at hc
    have h1 := some_of_getD hc (by simp)
    unfold giveS at h1
    have : ∃ c ∈ (e.get t).cs, c.give = .own rv sv d k l := by
      revert h1
      cases (e.get t).sh <;> intro h1 <;> first
        | (simp at h1; done)
        | (simp only [List.getElem?_map] at h1
           cases hc0 : (e.get t).cs[j]? with
           | none => rw [hc0] at h1; simp at h1
           | some c0 =>
             rw [hc0] at h1
             simp only [Option.map_some, Option.some.injEq] at h1
             exact ⟨c0, List.mem_of_getElem? hc0, h1⟩)
    obtain ⟨c, _, hc⟩ := this
    have := give_noOwn c
    rw [hc] at this
    simp [C.isOwn] at this
  · exfalso
    rw [hq] at hb
    unfold giveS at hb
    cases hs : (e.get t).sh <;> rw [hs] at hb <;> simp_all

/-! ### Who has a block behind the call -/
def lentB (e : Env) (G : Gh) (fl : List (Nat × Nat × Lend)) (b : Nat) : Bool := fl.any fun x => decide (b ∈ blkL e G x.2.2)
def srcOf (N : Nat) (fl : List (Nat × Nat × Lend)) (t : Nat) : Option Nat := (fl.find? fun x => Nat.beq (posL N x) t).map (·.2.2.slot)
def owOut2 (w : World) (e : Env) (G : Gh) (fl : List (Nat × Nat × Lend)) (G2 : Gh) (N : Nat) (H rt : List Nat) (gv : Bool) (len b : Nat) : Option Nat :=
  if b ∈ H then some len else if (w.heap[b]?).isSome && !lentB e G fl b then (match G.ow b with
    | none => none
    | some s => if gv && rt.contains s then none else some s) else (G2.ow b).bind (srcOf N fl)

def boxOf (fl : List (Nat × Nat × Lend)) (s : Nat) : Option Nat := (fl.find? fun x => match x.2.2 with | .box s' => Nat.beq s' s | _ => false).map (·.1)
def pathOf : Lend → Path
  | .cell _ _ p _ => p
  | _ => []
def cellOf (fl : List (Nat × Nat × Lend)) (s j : Nat) : Option (Nat × Nat × Path) :=
  (fl.find? fun x => match x.2.2 with | .cell s' j' _ _ => Nat.beq s' s && Nat.beq j' j | _ => false).map fun x => (x.1, x.2.1, pathOf x.2.2)

def ltOut (e eb : Env) (G G2 : Gh) (N : Nat) (fl : List (Nat × Nat × Lend)) (s j : Nat) : LT := match boxOf fl s with
  | some i => G2.lt (N + 2 * i + 1) j
  | none => match cellOf fl s j, (eb.get s).cs.getD j .dead, (e.get s).cs.getD j .dead with
    | some (i, c, p), .own _ _ _ _ _, .own _ _ _ k0 _ => setSub k0 (G.lt s j) (backL (subL k0 (G.lt s j) p) (G2.lt (N + 2 * i) c)) p
    | _, _, _ => G.lt s j

def ghOut (w : World) (e eb : Env) (G : Gh) (fl : List (Nat × Nat × Lend)) (G2 : Gh) (N : Nat) (H rt : List Nat) (gv : Bool) : Gh :=
  { vs := fun s => match boxOf fl s with
      | some i => G2.vs (N + 2 * i + 1)
      | none => G.vs s
    lt := ltOut e eb G G2 N fl, bk := G.bk, ow := owOut2 w e G fl G2 N H rt gv e.length }

section find
variable {fl : List (Nat × Nat × Lend)} (hap : apartF fl = true)
include hap

theorem boxOf_some {i c s : Nat} (hx : (i, c, Lend.box s) ∈ fl) : boxOf fl s = some i := by
  unfold boxOf
  cases hf : fl.find? (fun x => match x.2.2 with | .box s' => Nat.beq s' s | _ => false) with
  | none =>
    have := List.find?_eq_none.1 hf _ hx
    simp at this
  | some y =>
    have hy := List.mem_of_find?_eq_some hf
    have hp := List.find?_some hf
    obtain ⟨i', c', l'⟩ := y
    cases l' with
    | cell s' j' p' k' => simp at hp
    | box s' =>
      simp only [Nat.beq_eq] at hp
      subst hp
      rcases apartF_mem hap _ hx _ hy with q | q
      · simp only [Prod.mk.injEq] at q
        simp [q.1]
      · simp [Lend.clash, Lend.slot] at q

theorem cellOf_some {i c s j : Nat} {p : Path} {k : K} (hx : (i, c, Lend.cell s j p k) ∈ fl) : cellOf fl s j = some (i, c, p) := by
  unfold cellOf
  cases hf : fl.find? (fun x => match x.2.2 with | .cell s' j' _ _ => Nat.beq s' s && Nat.beq j' j | _ => false) with
  | none =>
    have := List.find?_eq_none.1 hf _ hx
    simp at this
  | some y =>
    have hy := List.mem_of_find?_eq_some hf
    have hp := List.find?_some hf
    obtain ⟨i', c', l'⟩ := y
    cases l' with
    | box s' => simp at hp
    | cell s' j' p' k' =>
      simp only [Bool.and_eq_true, Nat.beq_eq] at hp
      obtain ⟨rfl, rfl⟩ := hp
      rcases apartF_mem hap _ hx _ hy with q | q
      · simp only [Prod.mk.injEq, Lend.cell.injEq] at q
        obtain ⟨rfl, rfl, _, _, rfl, _⟩ := q
        rfl
      · simp [Lend.clash] at q
end find

theorem boxOf_none {fl : List (Nat × Nat × Lend)} {s : Nat} (h : ∀ x ∈ fl, x.2.2 ≠ .box s) : boxOf fl s = none := by
  unfold boxOf
  have : fl.find? (fun x => match x.2.2 with | .box s' => Nat.beq s' s | _ => false) = none := by
    rw [List.find?_eq_none]
    rintro ⟨i, c, l⟩ hx
    cases l with
    | cell s' j' p' k' => simp
    | box s' =>
      have := h _ hx
      simp only [ne_eq, Lend.box.injEq] at this
      simpa using this
  rw [this]; rfl

theorem cellOf_none {fl : List (Nat × Nat × Lend)} {s j : Nat} (h : ∀ x ∈ fl, ∀ p k, x.2.2 ≠ .cell s j p k) : cellOf fl s j = none := by
  unfold cellOf
  have : fl.find? (fun x => match x.2.2 with | .cell s' j' _ _ => Nat.beq s' s && Nat.beq j' j | _ => false) = none := by
    rw [List.find?_eq_none]
    rintro ⟨i, c, l⟩ hx
    cases l with
    | box s' => simp
    | cell s' j' p' k' =>
      have := h _ hx p' k'
      simp only [ne_eq, Lend.cell.injEq, and_true] at this
      simp only [Bool.and_eq_true, Nat.beq_eq]
      exact this
  rw [this]; rfl

/-- All that stands behind a call. -/
structure Called (n N m : Nat) (e : Env) (tm : Array Value) (w : World) (G : Gh) (q : Sent) (rt : List Nat) (Gc : Gh) (e2 : Env) (tm1 : Array Value) (w1 : World) (G2 : Gh) (H : List Nat) (outs : List (List C)) (gv : Bool) : Prop where
  inv : Inv n e tm w G
  lends : LendsOk e (lendAt 0 q.lends) rt m
  rtlt : ∀ s ∈ rt, s < e.length
  start : StartOk N e w G q Gc
  ow : Gc.ow = owL N e G (lendAt 0 q.lends) rt (N + 2 * m)
  inv2 : Inv N e2 tm1 w1 G2
  held : Held N (N + 2 * m) w w1 Gc G2
  size : w.heap.size ≤ w1.heap.size
  hand : ∀ b ∈ H, Loose e2 G2 b ∧ G2.ow b ≠ none ∧ b < w1.heap.size ∧ ∀ t, G2.ow b = some t → t < N + 2 * m
  outCell : ∀ i c s j p k, (i, c, Lend.cell s j p k) ∈ lendAt 0 q.lends → (outs.getD i []).getD c .dead = outC ((e2.get (N + 2 * i)).cs.getD c .dead)
  outBox : ∀ i c s, (i, c, Lend.box s) ∈ lendAt 0 q.lends → (∃ bv, (e2.get (N + 2 * i + 1)).sh = .box bv) ∧ ownBox (e2.get (N + 2 * i + 1)).cs = some (outs.getD i [])
  al : ∀ i c, c ∈ outs.getD i [] → C.aliases c = true → gv = true
  odd : ∀ x ∈ lendAt 0 q.lends, ∀ s, x.2.2 = .box s → s < n ∨ (s - n) % 2 = 1

section called
variable {n N m : Nat} {e : Env} {tm : Array Value} {w : World} {G : Gh} {q : Sent} {rt : List Nat} {Gc : Gh} {e2 : Env} {tm1 : Array Value} {w1 : World} {G2 : Gh} {H : List Nat} {outs : List (List C)} {gv : Bool}

theorem Called.slotlt (h : Called n N m e tm w G q rt Gc e2 tm1 w1 G2 H outs gv) : ∀ x ∈ lendAt 0 q.lends, x.2.2.slot < e.length := by
  rintro ⟨i, c, l⟩ hx
  have := h.lends.inn _ hx
  cases l with
  | cell s j p k =>
    obtain ⟨_, _, _, _, _, _, h1, _⟩ := this
    exact slot_alive h1
  | box s =>
    obtain ⟨bv, h1⟩ := this
    simp only [Lend.slot]
    rcases Nat.lt_or_ge s e.length with g | g
    · exact g
    · rw [get_out (by omega)] at h1; simp at h1

theorem Called.pos_lt (h : Called n N m e tm w G q rt Gc e2 tm1 w1 G2 H outs gv) {x : Nat × Nat × Lend} (hx : x ∈ lendAt 0 q.lends) : posL N x < N + 2 * m := by
  have := h.lends.idx x hx
  unfold posL
  split <;> omega

/-- What was not lent is as it was. -/
theorem Called.unlent (h : Called n N m e tm w G q rt Gc e2 tm1 w1 G2 H outs gv) {b : Nat} (hb : w.heap[b]? ≠ none) (hn : ∀ x ∈ lendAt 0 q.lends, b ∉ blkL e G x.2.2) :
    w1.heap[b]? = w.heap[b]? ∧ b ∉ H ∧ (∀ t, G2.ow b = some t → t = N + 2 * m) ∧ (∀ s, G.ow b = some s → s ∉ rt → G2.ow b = some (N + 2 * m)) ∧
      owOut2 w e G (lendAt 0 q.lends) G2 N H rt gv e.length b = (match G.ow b with | none => none | some s => if gv && rt.contains s then none else some s) := by
  have how : Gc.ow b = owIn G rt (N + 2 * m) b := by rw [h.ow]; exact owL_out hn
  have key : (w1.heap[b]? = w.heap[b]? ∧ G2.ow b = none ∧ ∀ s, G.ow b = some s → s ∈ rt) ∨ (w1.heap[b]? = w.heap[b]? ∧ G2.ow b = some (N + 2 * m)) := by
    cases hg : G.ow b with
    | none =>
      rw [owIn_none hg] at how
      obtain ⟨q1, q2⟩ := h.held.still b how hb
      exact .inl ⟨q1, q2, fun s q => by simp at q⟩
    | some s =>
      by_cases hs : s ∈ rt
      · rw [owIn_rt hg hs] at how
        obtain ⟨q1, q2⟩ := h.held.still b how hb
        exact .inl ⟨q1, q2, fun s' q => by simp only [Option.some.injEq] at q; rw [← q]; exact hs⟩
      · rw [owIn_out hg hs] at how
        obtain ⟨q1, q2⟩ := h.held.out b _ how (Nat.le_refl _) hb
        exact .inr ⟨q1, q2⟩
  have hH : b ∉ H := by
    intro hm
    obtain ⟨_, g1, _, g2⟩ := h.hand b hm
    rcases key with ⟨_, k, _⟩ | ⟨_, k⟩
    · exact g1 k
    · have := g2 _ k; omega
  have hl : lentB e G (lendAt 0 q.lends) b = false := by
    unfold lentB
    rw [List.any_eq_false]
    intro x hx
    simpa using hn x hx
  have hsome : (w.heap[b]?).isSome = true := by
    cases hq : w.heap[b]? with
    | none => exact absurd hq hb
    | some _ => rfl
  refine ⟨key.elim (·.1) (·.1), hH, fun t ht => ?_, fun s hs hr => ?_, ?_⟩
  · rcases key with ⟨_, k, _⟩ | ⟨_, k⟩
    · rw [k] at ht; simp at ht
    · rw [k] at ht; simpa using ht.symm
  · rcases key with ⟨_, _, k⟩ | ⟨_, k⟩
    · exact absurd (k s hs) hr
    · exact k
  · simp only [owOut2, if_neg hH, hl, hsome, Bool.not_false, Bool.and_self, if_true]

/-- What lies in the callee's places for what was lent. -/
theorem Called.pseudo (h : Called n N m e tm w G q rt Gc e2 tm1 w1 G2 H outs gv) {x : Nat × Nat × Lend} (hx : x ∈ lendAt 0 q.lends) {b : Nat} (hb : b ∈ fpS G2 (posL N x) (e2.get (posL N x))) :
    owOut2 w e G (lendAt 0 q.lends) G2 N H rt gv e.length b = some x.2.2.slot ∧ G2.ow b = some (posL N x) ∧ (w.heap[b]? ≠ none → ∃ y ∈ lendAt 0 q.lends, b ∈ blkL e G y.2.2) := by
  have how := (h.inv2.slot _).own b hb
  have hH : b ∉ H := fun hm => (h.hand b hm).1 _ hb
  have hlen : w.heap[b]? ≠ none → ∃ y ∈ lendAt 0 q.lends, b ∈ blkL e G y.2.2 := by
    intro hold
    refine Classical.byContradiction fun hno => ?_
    have := (h.unlent hold fun y hy hby => hno ⟨y, hy, hby⟩).2.2.1 _ how
    have := h.pos_lt hx
    omega
  refine ⟨?_, how, hlen⟩
  have hc : ((w.heap[b]?).isSome && !lentB e G (lendAt 0 q.lends) b) = false := by
    cases hq : w.heap[b]? with
    | none => rfl
    | some o =>
      obtain ⟨y, hy, hby⟩ := hlen (by rw [hq]; simp)
      have : lentB e G (lendAt 0 q.lends) b = true := by
        unfold lentB
        rw [List.any_eq_true]
        exact ⟨y, hy, by simpa using hby⟩
      rw [this]; rfl
  simp only [owOut2, if_neg hH, hc, Bool.false_eq_true, if_false, how, Option.bind_some]
  unfold srcOf
  cases hf : (lendAt 0 q.lends).find? (fun y => Nat.beq (posL N y) (posL N x)) with
  | none =>
    have := List.find?_eq_none.1 hf _ hx
    simp at this
  | some y =>
    have hy := List.mem_of_find?_eq_some hf
    have hp := List.find?_some hf
    rw [Nat.beq_eq] at hp
    have : y.1 = x.1 := by
      unfold posL at hp
      split at hp <;> split at hp <;> omega
    simp only [Option.map_some, Option.some.injEq]
    exact h.lends.src y hy x hx this

/-- What nobody has in the callee. -/
theorem Called.nobody (h : Called n N m e tm w G q rt Gc e2 tm1 w1 G2 H outs gv) {b : Nat} (hb : G2.ow b = none) (hg : gv = true ∨ ∀ s, G.ow b = some s → s ∉ rt) :
    owOut2 w e G (lendAt 0 q.lends) G2 N H rt gv e.length b = none := by
  have hH : b ∉ H := fun hm => (h.hand b hm).2.1 hb
  by_cases hc : ((w.heap[b]?).isSome && !lentB e G (lendAt 0 q.lends) b) = true
  · simp only [Bool.and_eq_true, Bool.not_eq_true'] at hc
    have hold : w.heap[b]? ≠ none := by
      intro q0
      rw [q0] at hc
      simp at hc
    have hn : ∀ x ∈ lendAt 0 q.lends, b ∉ blkL e G x.2.2 := by
      have := hc.2
      unfold lentB at this
      rw [List.any_eq_false] at this
      intro x hx
      simpa using this x hx
    obtain ⟨_, _, _, q4, q5⟩ := h.unlent hold hn
    rw [q5]
    cases hgo : G.ow b with
    | none => rfl
    | some s =>
      simp only
      by_cases hs : s ∈ rt
      · rcases hg with hg | hg
        · rw [if_pos]; simp [hg, hs]
        · exact absurd hs (hg s hgo)
      · have := q4 s hgo hs
        rw [hb] at this
        simp at this
  · simp only [owOut2, if_neg hH, if_neg hc, hb, Option.bind_none]

theorem Called.owner (h : Called n N m e tm w G q rt Gc e2 tm1 w1 G2 H outs gv) {b s : Nat} (hb : G.ow b = some s) (hn : ∀ x ∈ lendAt 0 q.lends, b ∉ blkL e G x.2.2) :
    w1.heap[b]? = w.heap[b]? ∧ owOut2 w e G (lendAt 0 q.lends) G2 N H rt gv e.length b = if gv = true ∧ s ∈ rt then none else some s := by
  have hold : w.heap[b]? ≠ none := by
    have := h.inv.lt b s hb
    simp [this]
  obtain ⟨q1, _, _, _, q5⟩ := h.unlent hold hn
  refine ⟨q1, ?_⟩
  rw [q5, hb]
  simp

theorem Called.notLent (h : Called n N m e tm w G q rt Gc e2 tm1 w1 G2 H outs gv) {b s : Nat} (hb : G.ow b = some s) (hs : ∀ x ∈ lendAt 0 q.lends, x.2.2.slot ≠ s) : ∀ x ∈ lendAt 0 q.lends, b ∉ blkL e G x.2.2 := by
  intro x hx hm
  have := blkL_ow h.inv (h.lends.inn x hx) hm
  rw [hb] at this
  simp only [Option.some.injEq] at this
  exact hs x hx this.symm

theorem Called.still (h : Called n N m e tm w G q rt Gc e2 tm1 w1 G2 H outs gv) : Still w w1 G.ow (owOut2 w e G (lendAt 0 q.lends) G2 N H rt gv e.length) := by
  intro b hb hold
  have hn : ∀ x ∈ lendAt 0 q.lends, b ∉ blkL e G x.2.2 := by
    intro x hx hm
    have := blkL_ow h.inv (h.lends.inn x hx) hm
    rw [hb] at this
    simp at this
  obtain ⟨q1, _, _, _, q5⟩ := h.unlent hold hn
  exact ⟨q1, by rw [q5, hb]⟩

/-- One lent cell, behind the call. -/
theorem Called.cellBack (h : Called n N m e tm w G q rt Gc e2 tm1 w1 G2 H outs gv) {i c s j : Nat} {p : Path} {k : K} (hx : (i, c, Lend.cell s j p k) ∈ lendAt 0 q.lends) {z : Nat} {c1 : C}
    (hc1 : backC z ((e.get s).cs.getD j .dead) p k ((outs.getD i []).getD c .dead) = some c1) :
    ∃ rv sv d k0 l0 v0, (e.get s).cs[j]? = some (.own rv sv d k0 l0) ∧ (G.vs s)[j]? = some v0 ∧ (c1 = .dead ∨
      ∃ (sv1 : Nat) (d1 : Bool) (k1 : K) (l1 : List k1.T) (d' : Bool) (l0' : List k0.T), (e2.get (N + 2 * i)).cs[c]? = some (.own 0 sv1 d1 k1 l1) ∧ c1 = .own rv z d' k0 l0' ∧ RepL true w1 k0.size (Rep d' w1 k0) l0' (setSub k0 (G.lt s j) (backL (subL k0 (G.lt s j) p) (G2.lt (N + 2 * i) c)) p) v0 ∧ l0'.length = l0.length ∧
        hdOf (setSub k0 (G.lt s j) (backL (subL k0 (G.lt s j) p) (G2.lt (N + 2 * i) c)) p) = hdOf (G.lt s j) ∧
        (∀ b ∈ ownB (.own rv z d' k0 l0') (setSub k0 (G.lt s j) (backL (subL k0 (G.lt s j) p) (G2.lt (N + 2 * i) c)) p), (b ∈ ownB (.own rv sv d k0 l0) (G.lt s j) ∧ b ∉ blkL e G (.cell s j p k)) ∨ b ∈ ownB (.own 0 sv1 d1 k1 l1) (G2.lt (N + 2 * i) c)) ∧
        (ownB (.own rv z d' k0 l0') (setSub k0 (G.lt s j) (backL (subL k0 (G.lt s j) p) (G2.lt (N + 2 * i) c)) p)).Nodup ∧
        (d' = false → ∀ b ∈ inner k0 (setSub k0 (G.lt s j) (backL (subL k0 (G.lt s j) p) (G2.lt (N + 2 * i) c)) p), owOut2 w e G (lendAt 0 q.lends) G2 N H rt gv e.length b = none)) := by
  obtain ⟨rv, sv, d, k0, l0, y, x, q1, q2, q3, q4, q5, q6, q7⟩ := h.start.cell i c s j p k hx
  obtain ⟨v0, hv0, hcell⟩ := h.inv.val q1
  refine ⟨rv, sv, d, k0, l0, v0, q1, hv0, ?_⟩
  rw [getD_some q1, h.outCell i c s j p k hx] at hc1
  have hheld := h.held.vs (N + 2 * i) (by omega)
  have hvs := (hheld.1 (by omega)).1
  have hhd := (hheld.1 (by omega)).2 c
  have hdead : backC z (.own rv sv d k0 l0) p k .dead = some c1 → c1 = .dead := by
    intro hb
    cases p with
    | nil => simp only [backC, Option.some.injEq] at hb; exact hb.symm
    | cons a b => simp [backC] at hb
  have hflat : ∀ k' y', backC z (.own rv sv d k0 l0) p k (.dat k' y') = some c1 → c1 = .dead := by
    intro k' y' hb
    cases p with
    | nil => simp only [backC, Option.some.injEq] at hb; exact hb.symm
    | cons a b => simp [backC] at hb
  cases ho : (e2.get (N + 2 * i)).cs.getD c .dead with
  | own rv1 sv1 d1 k1 l1 =>
    cases rv1 with
    | succ r =>
      rw [ho] at hc1
      exact .inl (hdead hc1)
    | zero =>
      rw [ho] at hc1
      simp only [outC] at hc1
      have hoc : (e2.get (N + 2 * i)).cs[c]? = some (.own 0 sv1 d1 k1 l1) := some_of_getD ho (by simp)
      obtain ⟨v1, hv1, hcell1⟩ := h.inv2.val hoc
      rw [hvs] at hv1
      rw [q5] at hv1
      simp only [Option.some.injEq] at hv1
      subst hv1
      obtain ⟨o1, o2, o3⟩ := h.inv.ownBlocks q1
      obtain ⟨n1, n2, n3⟩ := h.inv2.ownBlocks hoc
      rw [ownB_ownD] at o1 o3 n1 n3
      have hP : posL N (i, c, Lend.cell s j p k) = N + 2 * i := rfl
      have hblk : blkL e G (.cell s j p k) = ownD d k (sentL (subL k0 (G.lt s j) p)) := by simp only [blkL, getD_some q1]
      have hotherL : ∀ b, b ∈ ownD d k0 (G.lt s j) → b ∉ ownD d k (sentL (subL k0 (G.lt s j) p)) → ∀ y ∈ lendAt 0 q.lends, b ∉ blkL e G y.2.2 := by
        intro b hb hnb y hy hm
        rcases apartF_mem h.lends.apart _ hx _ hy with g | g
        · subst g
          dsimp only at hm
          rw [hblk] at hm
          exact hnb hm
        · have hs1 := blkL_ow h.inv (h.lends.inn y hy) hm
          rw [o1 b hb] at hs1
          simp only [Option.some.injEq] at hs1
          obtain ⟨i', c', l'⟩ := y
          cases l' with
          | box s' => simp only [Lend.slot] at hs1; subst hs1; simp [Lend.clash, Lend.slot] at g
          | cell s' j' p' k' =>
            simp only [Lend.slot] at hs1
            subst hs1
            have hne : j ≠ j' := by
              rintro rfl
              simp [Lend.clash] at g
            obtain ⟨c0, r1, r2⟩ := blkL_cell (h.lends.inn _ hy) hm
            exact fpCells_disj (cells_nodup h.inv s) q1 r1 hne (by rw [ownB_ownD]; exact hb) r2
      obtain ⟨d', l0', r1, r2, r3, r4, r5, r6, r7⟩ := back_cell (sv := sv) hcell.1 q2 q3 q4 q6 hcell1.1 (by rw [hhd, q7]) hc1
        (fun b hb hnb => (h.owner (o1 b hb) (hotherL b hb hnb)).1) o3 n3
        (fun b hb1 hb => by
          refine Classical.byContradiction fun hnb => ?_
          have hb1' : b ∈ fpS G2 (posL N (i, c, Lend.cell s j p k)) (e2.get (posL N (i, c, Lend.cell s j p k))) := by
            rw [hP]
            simp only [fpS, List.mem_append]
            right
            have := fpCells_mem (lt := G2.lt (N + 2 * i)) (i := 0) hoc (by rw [ownB_ownD]; simpa using hb1)
            have hsh : (e2.get (N + 2 * i)).sh ≠ .dead := fun q => by rw [(h.inv2.slot (N + 2 * i)).dead q] at hoc; simp at hoc
            cases hh : (e2.get (N + 2 * i)).sh <;> simp_all
          obtain ⟨_, _, g⟩ := h.pseudo hx hb1'
          have hold : w.heap[b]? ≠ none := by
            have := h.inv.lt b s (o1 b hb)
            simp [this]
          obtain ⟨y, hy, hm⟩ := g hold
          exact hotherL b hb hnb y hy hm)
      refine .inr ⟨sv1, d1, k1, l1, d', l0', hoc, r1, r2, r3, r4, fun b hb => ?_, by rw [ownB_ownD]; exact r6, fun hd b hb => ?_⟩
      · rw [ownB_ownD] at hb ⊢
        rw [ownB_ownD, hblk]
        exact r5 b hb
      · obtain ⟨g1, g2⟩ := r7 hd b hb
        have hno := n2 g1 b g2
        refine h.nobody hno (.inl ?_)
        have hmem : (outs.getD i []).getD c .dead ∈ outs.getD i [] := by
          have heq := h.outCell i c s j p k hx
          rw [ho] at heq
          simp only [outC] at heq
          have := some_of_getD heq (by simp)
          rw [heq]
          exact List.mem_of_getElem? this
        refine h.al i _ hmem ?_
        rw [h.outCell i c s j p k hx, ho]
        simp only [outC, C.aliases, g1, Bool.not_false, Bool.true_and]
        cases hf : k1.flat with
        | false => rfl
        | true =>
          exfalso
          cases hL : G2.lt (N + 2 * i) c with
          | node b0 off cap rows =>
            rw [hL] at g2
            simp only [inner, List.mem_flatMap] at g2
            obtain ⟨r', _, g2⟩ := g2
            rw [fp_flat hf] at g2
            simp at g2
          | _ => rw [hL] at g2; simp [inner] at g2
  | dat k' y' =>
    rw [ho] at hc1
    exact .inl (hflat k' y' hc1)
  | _ =>
    rw [ho] at hc1
    exact .inl (hdead hc1)

end called

end Go.Mach
/- The machine, part nw: the caller's slots stand for frame and memory behind a call. No condition: lemmas. -/
namespace Go.Mach
set_option linter.unusedVariables false
set_option linter.unusedSimpArgs false

theorem alias_inner {a b : Nat} {d : Bool} {k : K} {l : List k.T} {L : LT} (hd : d = false) {x : Nat} (hx : x ∈ inner k L) : C.aliases (.own a b d k l) = true := by
  simp only [C.aliases, hd, Bool.not_false, Bool.true_and]
  cases hf : k.flat with
  | false => rfl
  | true =>
    exfalso
    cases hL : L with
    | node b0 off cap rows =>
      rw [hL] at hx
      simp only [inner, List.mem_flatMap] at hx
      obtain ⟨r', _, hx⟩ := hx
      rw [fp_flat hf] at hx
      simp at hx
    | _ => rw [hL] at hx; simp [inner] at hx

theorem alias_dat {k : K} {x : k.T} {L : LT} {b : Nat} (hb : b ∈ fp k L) : C.aliases (.dat k x) = true := by
  simp only [C.aliases]
  cases hf : k.flat with
  | false => rfl
  | true => rw [fp_flat hf] at hb; simp at hb

theorem Inv.mem_fpS {n : Nat} {e : Env} {tm : Array Value} {w : World} {G : Gh} (h : Inv n e tm w G) {s j : Nat} {c : C} (hc : (e.get s).cs[j]? = some c) {b : Nat} (hb : b ∈ ownB c (G.lt s j)) : b ∈ fpS G s (e.get s) := by
  have := fpCells_mem (lt := G.lt s) (i := 0) hc (by simpa using hb)
  have hsh : (e.get s).sh ≠ .dead := fun q => by rw [(h.slot s).dead q] at hc; simp at hc
  simp only [fpS, List.mem_append]
  right
  cases hh : (e.get s).sh with
  | dead => exact absurd hh hsh
  | _ => exact this

section called
variable {n N m : Nat} {e : Env} {tm : Array Value} {w : World} {G : Gh} {q : Sent} {rt : List Nat} {Gc : Gh} {e2 : Env} {tm1 : Array Value} {w1 : World} {G2 : Gh} {H : List Nat} {outs : List (List C)} {gv : Bool}

theorem ltOut_box {eb : Env} (h : Called n N m e tm w G q rt Gc e2 tm1 w1 G2 H outs gv) {i c s : Nat} (hx : (i, c, Lend.box s) ∈ lendAt 0 q.lends) : ltOut e eb G G2 N (lendAt 0 q.lends) s = G2.lt (N + 2 * i + 1) := by
  funext j
  unfold ltOut
  rw [boxOf_some h.lends.apart hx]

theorem ltOut_rest {eb : Env} {fl : List (Nat × Nat × Lend)} {s j : Nat} (h1 : ∀ x ∈ fl, x.2.2 ≠ .box s) (h2 : ∀ x ∈ fl, ∀ p k, x.2.2 ≠ .cell s j p k) : ltOut e eb G G2 N fl s j = G.lt s j := by
  unfold ltOut
  rw [boxOf_none h1, cellOf_none h2]

theorem ltOut_dead {eb : Env} {fl : List (Nat × Nat × Lend)} {s j : Nat} (h1 : ∀ x ∈ fl, x.2.2 ≠ .box s) (h2 : (eb.get s).cs.getD j .dead = .dead) : ltOut e eb G G2 N fl s j = G.lt s j := by
  unfold ltOut
  rw [boxOf_none h1, h2]
  cases cellOf fl s j <;> rfl

theorem ltOut_cell {eb : Env} (h : Called n N m e tm w G q rt Gc e2 tm1 w1 G2 H outs gv) {i c s j : Nat} {p : Path} {k : K} (hx : (i, c, Lend.cell s j p k) ∈ lendAt 0 q.lends) (h1 : ∀ x ∈ lendAt 0 q.lends, x.2.2 ≠ .box s)
    {a1 a2 : Nat} {a3 : Bool} {a4 : K} {a5 : List a4.T} (h2 : (eb.get s).cs[j]? = some (.own a1 a2 a3 a4 a5)) {b1 b2 : Nat} {b3 : Bool} {k0 : K} {b5 : List k0.T} (h3 : (e.get s).cs[j]? = some (.own b1 b2 b3 k0 b5)) :
    ltOut e eb G G2 N (lendAt 0 q.lends) s j = setSub k0 (G.lt s j) (backL (subL k0 (G.lt s j) p) (G2.lt (N + 2 * i) c)) p := by
  unfold ltOut
  rw [boxOf_none h1, cellOf_some h.lends.apart hx, getD_some h2, getD_some h3]

theorem Called.back (h : Called n N m e tm w G q rt Gc e2 tm1 w1 G2 H outs gv) {eb e3 : Env} (hbe : BackEnv outs (lendAt 0 q.lends) e eb) (he : e3.length = e.length)
    (hget : ∀ s, e3.get s = if gv = true ∧ s ∈ rt then giveS (e.get s) else eb.get s) :
    Inv n e3 tm w1 (ghOut w e eb G (lendAt 0 q.lends) G2 N H rt gv) ∧ Held n e.length w w1 G (ghOut w e eb G (lendAt 0 q.lends) G2 N H rt gv) := by
  generalize hfl : lendAt 0 q.lends = fl at hbe ⊢
  have hF := hfl
  let G' := ghOut w e eb G fl G2 N H rt gv
  have hG'ow : G'.ow = owOut2 w e G fl G2 N H rt gv e.length := rfl
  have vsN : ∀ s, (∀ x ∈ fl, x.2.2 ≠ .box s) → G'.vs s = G.vs s := fun s hs => by simp only [G', ghOut, boxOf_none hs]
  have vsB : ∀ i c s, (i, c, Lend.box s) ∈ fl → G'.vs s = G2.vs (N + 2 * i + 1) := fun i c s hx => by
    subst hfl
    simp only [G', ghOut, boxOf_some h.lends.apart hx]
  have hst : Still w w1 G.ow G'.ow := by subst hfl; exact h.still
  have notRd : ∀ x ∈ fl, x.2.2.slot ∉ rt := by subst hfl; exact h.lends.notRead
  have lentGet : ∀ s, (∃ x ∈ fl, x.2.2.slot = s) → e3.get s = eb.get s := by
    rintro s ⟨x, hx, rfl⟩
    rw [hget, if_neg fun g => notRd x hx g.2]
  have nlBox : ∀ s, (∀ x ∈ fl, x.2.2.slot ≠ s) → ∀ x ∈ fl, x.2.2 ≠ .box s := fun s hs x hx q => hs x hx (by rw [q]; rfl)
  have nlCell : ∀ s j, (∀ x ∈ fl, x.2.2.slot ≠ s) → ∀ x ∈ fl, ∀ p k, x.2.2 ≠ .cell s j p k := fun s j hs x hx p k q => hs x hx (by rw [q]; rfl)
  -- a lent cell, as it is now
  have lentCell : ∀ i c s j p k, (i, c, Lend.cell s j p k) ∈ fl → (∀ x ∈ fl, x.2.2 ≠ .box s) → ∃ z c1, ((e.get s).cnt ≤ z ∧ (e.get s).cnt / verM < z / verM) ∧ z < (eb.get s).cnt ∧ (eb.get s).cs[j]? = some c1 ∧ ∃ rv sv d k0 l0 v0, (e.get s).cs[j]? = some (.own rv sv d k0 l0) ∧ (G.vs s)[j]? = some v0 ∧
      ((c1 = .dead ∧ G'.lt s j = G.lt s j) ∨ ∃ (sv1 : Nat) (d1 : Bool) (k1 : K) (l1 : List k1.T) (d' : Bool) (l0' : List k0.T), (e2.get (N + 2 * i)).cs[c]? = some (.own 0 sv1 d1 k1 l1) ∧ c1 = .own rv z d' k0 l0' ∧ RepL true w1 k0.size (Rep d' w1 k0) l0' (G'.lt s j) v0 ∧ l0'.length = l0.length ∧
        hdOf (G'.lt s j) = hdOf (G.lt s j) ∧ (∀ b ∈ ownB (.own rv z d' k0 l0') (G'.lt s j), (b ∈ ownB (.own rv sv d k0 l0) (G.lt s j) ∧ b ∉ blkL e G (.cell s j p k)) ∨ b ∈ ownB (.own 0 sv1 d1 k1 l1) (G2.lt (N + 2 * i) c)) ∧
        (ownB (.own rv z d' k0 l0') (G'.lt s j)).Nodup ∧ (d' = false → ∀ b ∈ inner k0 (G'.lt s j), G'.ow b = none)) := by
    intro i c s j p k hx hnb
    obtain ⟨z, c1, q1, q2, q3, q4⟩ := hbe.cell i c s j p k hx
    subst hfl
    obtain ⟨rv, sv, d, k0, l0, v0, r1, r2, r3⟩ := h.cellBack hx q3
    refine ⟨z, c1, q1, q2, q4, rv, sv, d, k0, l0, v0, r1, r2, ?_⟩
    rcases r3 with rfl | ⟨sv1, d1, k1, l1, d', l0', t1, rfl, t3, t4, t5, t6, t7, t8⟩
    · exact .inl ⟨rfl, ltOut_dead hnb (getD_some q4 _)⟩
    · have hlt : G'.lt s j = setSub k0 (G.lt s j) (backL (subL k0 (G.lt s j) p) (G2.lt (N + 2 * i) c)) p := ltOut_cell h hx hnb q4 r1
      rw [hlt]
      exact .inr ⟨sv1, d1, k1, l1, d', l0', t1, rfl, t3, t4, t5, t6, t7, t8⟩
  -- how each slot turns
  have hTM : ∀ t, TM e e3 G G' t := by
    intro t
    by_cases hb : ∃ i c, (i, c, Lend.box t) ∈ fl
    · obtain ⟨i, c, hx⟩ := hb
      have hg : e3.get t = Slot.mk (e.get t).sh ((outs.getD i []).map (layC (e.get t).cnt)) ((e.get t).cnt + 1) := by
        rw [lentGet t ⟨_, hx, rfl⟩, hbe.box i c t hx]
      refine ⟨by rw [hg]; exact Nat.le_succ _, fun j rv sv' d' k0 l0' h1 h2 => ?_, fun bv h1 _ => ⟨by rw [hg] at h1; exact h1, rfl⟩⟩
      exfalso
      rw [hg] at h1
      have h3 := some_of_getD h1 (by simp)
      simp only [List.getElem?_map] at h3
      cases hc0 : (outs.getD i [])[j]? with
      | none => rw [hc0] at h3; simp at h3
      | some c0 =>
        rw [hc0] at h3
        simp only [Option.map_some, Option.some.injEq] at h3
        cases c0 <;> simp [layC] at h3
        omega
    · have hnb : ∀ x ∈ fl, x.2.2 ≠ .box t := by
        rintro ⟨i, c, l⟩ hx hl
        dsimp only at hl
        subst hl
        exact hb ⟨i, c, hx⟩
      by_cases hc : ∃ x ∈ fl, x.2.2.slot = t
      · have hg := lentGet t hc
        obtain ⟨c1, c2, c3⟩ := hbe.cells t hnb
        refine ⟨by rw [hg]; exact c2, fun j rv sv' d' k0 l0' h1 h2 => ?_, fun bv h1 _ => ⟨by rw [hg, c1] at h1; exact h1, rfl⟩⟩
        rw [hg] at h1
        by_cases hlc : ∃ i c p k, (i, c, Lend.cell t j p k) ∈ fl
        · obtain ⟨i, c, p, k, hx⟩ := hlc
          obtain ⟨z, c1', z1, z2, z3, rv0, sv, d, k00, l0, v0, r1, r2, r3⟩ := lentCell i c t j p k hx hnb
          rw [getD_some z3] at h1
          rcases r3 with ⟨rfl, _⟩ | ⟨sv1, d1, k1, l1, d'', l0'', t1, rfl, t3, t4, t5, t6, t7, t8⟩
          · simp at h1
          · simp only [C.own.injEq] at h1
            obtain ⟨rfl, rfl, rfl, rfl, hle⟩ := h1
            have hle := eq_of_heq hle
            subst hle
            refine ⟨sv, d, l0, getD_some r1 _, fun k' n' hd hh => ?_, fun _ p1 a hp1 ha hok => absurd hok (notOk hp1 ha z1.1 z1.2)⟩
            obtain ⟨p1, p2, p3, p4⟩ := hh
            rw [getP_nil] at p2 p3
            exact ⟨trivial, by rw [getP_nil]; exact p2, by rw [getP_nil]; exact t4.trans p3, by simp only [subL] at p4 ⊢; rw [t5]; exact p4⟩
        · have hno : ∀ x ∈ fl, ∀ p k, x.2.2 ≠ .cell t j p k := by
            rintro ⟨i, c, l⟩ hx p k hl
            dsimp only at hl
            subst hl
            exact hlc ⟨i, c, p, k, hx⟩
          have hlt : G'.lt t j = G.lt t j := ltOut_rest hnb hno
          have hsame := hbe.cellR t j hnb hno
          have h1' : (e.get t).cs.getD j .dead = .own rv sv' d' k0 l0' := by
            rw [List.getD_eq_getElem?_getD] at h1 ⊢
            rw [← hsame]; exact h1
          exact ⟨sv', d', l0', h1', fun k n hd hh => by rw [hlt]; exact hh, fun hd p a _ _ ha => ⟨ha, hd, fun k n hd hh => by rw [hlt]; exact hh⟩⟩
      · have hnl : ∀ x ∈ fl, x.2.2.slot ≠ t := fun x hx q => hc ⟨x, hx, q⟩
        by_cases hg : gv = true ∧ t ∈ rt
        · exact TM.give (by rw [hget, if_pos hg])
        · exact TM.refl (by rw [hget, if_neg hg, hbe.rest t hnl]) (fun j => ltOut_rest (nlBox t hnl) (nlCell t j hnl)) rfl
  -- blocks of slots of which nothing is lent
  have owner : ∀ b s, G.ow b = some s → (∀ x ∈ fl, b ∉ blkL e G x.2.2) → w1.heap[b]? = w.heap[b]? ∧ G'.ow b = if gv = true ∧ s ∈ rt then none else some s := by
    subst hfl; exact fun b s hb hn => h.owner hb hn
  have notLent : ∀ b s, G.ow b = some s → (∀ x ∈ fl, x.2.2.slot ≠ s) → ∀ x ∈ fl, b ∉ blkL e G x.2.2 := by
    subst hfl; exact fun b s hb hn => h.notLent hb hn
  refine ⟨h.inv.turns (fun t => (∃ x ∈ fl, x.2.2.slot = t) ∨ (gv = true ∧ t ∈ rt)) (by rw [he]; exact h.inv.elen) h.inv.size (fun t ht => ?_) (fun t ht => ?_) (fun t _ _ => rfl) (fun t _ => hTM t) hst (fun t ht b hb => ?_) (fun t ht => ?_) (fun b t hb => ?_), hst, fun s hs => ?_, fun b t h1 h2 h3 => ?_⟩
  · simp only [not_or, not_exists, not_and] at ht
    rw [hget, if_neg fun g => ht.2 g.1 g.2, hbe.rest t fun x hx => ht.1 x hx]
  · simp only [not_or, not_exists, not_and] at ht
    have hnl : ∀ x ∈ fl, x.2.2.slot ≠ t := fun x hx => ht.1 x hx
    exact ⟨vsN t (nlBox t hnl), fun j => ltOut_rest (nlBox t hnl) (nlCell t j hnl), rfl⟩
  · simp only [not_or, not_exists, not_and] at ht
    have hnl : ∀ x ∈ fl, x.2.2.slot ≠ t := fun x hx => ht.1 x hx
    have how := (h.inv.slot t).own b hb
    obtain ⟨q1, q2⟩ := owner b t how (notLent b t how hnl)
    exact ⟨q1, by rw [q2, if_neg fun g => ht.2 g.1 g.2]⟩
  · by_cases hb : ∃ i c, (i, c, Lend.box t) ∈ fl
    · -- a box
      obtain ⟨i, c, hx⟩ := hb
      have hg : e3.get t = Slot.mk (e.get t).sh ((outs.getD i []).map (layC (e.get t).cnt)) ((e.get t).cnt + 1) := by
        rw [lentGet t ⟨_, hx, rfl⟩, hbe.box i c t hx]
      subst hfl
      have hvs : G'.vs t = G2.vs (N + 2 * i + 1) := vsB i c t hx
      have hlt : G'.lt t = G2.lt (N + 2 * i + 1) := ltOut_box h hx
      obtain ⟨⟨bv2, hsh2⟩, hob⟩ := h.outBox i c t hx
      obtain ⟨hbk, bv, cs0, hsh, _⟩ := h.start.box i c t hx
      have hbk2 : G2.bk (N + 2 * i + 1) = G.bk t := by rw [(h.held.vs _ (by omega)).2, hbk]
      have hP : posL N (i, c, Lend.box t) = N + 2 * i + 1 := rfl
      have hS2 := h.inv2.slot (N + 2 * i + 1)
      have hne2 : (e2.get (N + 2 * i + 1)).sh ≠ .dead := by rw [hsh2]; simp
      obtain ⟨o1, o2⟩ := ownBox_get hob
      have hget' : ∀ (j : Nat) c', (e3.get t).cs[j]? = some c' → ∃ c0 c2, (e2.get (N + 2 * i + 1)).cs[j]? = some c2 ∧ (outs.getD i [])[j]? = some c0 ∧ c' = layC (e.get t).cnt c0 ∧
          ((∃ rv sv d k l, c2 = .own rv sv d k l ∧ c0 = .own 0 0 d k l) ∨ (c0 = c2 ∧ c2.isOwn = false ∧ ((∃ k x, c2 = .dat k x) ∨ c2 = .nil ∨ (∃ a j, c2 = .pim a j) ∨ ∃ f, c2 = .fn f []))) := by
        intro j c' hc'
        rw [hg] at hc'
        simp only [List.getElem?_map] at hc'
        cases hc0 : (outs.getD i [])[j]? with
        | none => rw [hc0] at hc'; simp at hc'
        | some c0 =>
          rw [hc0] at hc'
          simp only [Option.map_some, Option.some.injEq] at hc'
          obtain ⟨c2, hc2⟩ : ∃ c2, (e2.get (N + 2 * i + 1)).cs[j]? = some c2 := ⟨_, List.getElem?_eq_getElem (by rw [← o1]; exact (List.getElem?_eq_some_iff.1 hc0).1)⟩
          exact ⟨c0, c2, hc2, rfl, hc'.symm, o2 j c2 c0 hc2 hc0⟩
      have hfp : fpS G' t (e3.get t) = fpS G2 (N + 2 * i + 1) (e2.get (N + 2 * i + 1)) := by
        have hlen : (e3.get t).cs.length = (e2.get (N + 2 * i + 1)).cs.length := by rw [hg, ← o1]; exact List.length_map _
        have : fpCells (G2.lt (N + 2 * i + 1)) 0 (e3.get t).cs = fpCells (G2.lt (N + 2 * i + 1)) 0 (e2.get (N + 2 * i + 1)).cs := by
          refine fpCells_congr hlen fun j c2 c' hc2 hc' => ?_
          obtain ⟨c0, c2', r1, r2, rfl, r4⟩ := hget' j c' hc'
          rw [hc2] at r1
          simp only [Option.some.injEq] at r1
          subst r1
          rw [ownB_lay]
          rcases r4 with ⟨rv, sv, d, k, l, rfl, rfl⟩ | ⟨rfl, _⟩
          · rw [ownB_ownD, ownB_ownD]
          · rfl
        simp only [fpS, hlt, this, hsh2]
        rw [hg]
        simp only [hsh]
        rw [hbk2]
        rfl
      refine ⟨fun hn => ?_, fun bv' hbv => ?_, fun hd => ?_, fun hd j c' v hc' hv => ?_, fun hd j rv sv d k l hc' => ?_, ?_, ?_, fun hd => ?_⟩
      · have := (h.inv.slot t).form hn
        rw [hg]
        simp only [hsh] at this ⊢
        exact this
      · rw [hg] at hbv ⊢
        simp only at hbv ⊢
        obtain ⟨r1, _⟩ := (h.inv.slot t).box bv' hbv
        refine ⟨by omega, ?_⟩
        rw [hvs]
        have := (hS2.box bv2 hsh2).2
        rw [hbk2] at this
        exact this
      · rw [hvs, hg]
        simp only [List.length_map, o1]
        exact hS2.len hne2
      · rw [hvs] at hv
        rw [hlt]
        obtain ⟨c0, c2, r1, r2, rfl, r4⟩ := hget' j c' hc'
        have hcell := hS2.cells hne2 j c2 v r1 hv
        have hmem := List.mem_of_getElem? r2
        have hno : ∀ b, G2.ow b = none → gv = true → G'.ow b = none := fun b hb hgv => h.nobody hb (.inl hgv)
        rcases r4 with ⟨rv, sv, d, k, l, rfl, rfl⟩ | ⟨rfl, _, ⟨k, x, rfl⟩ | rfl | ⟨a, jj, rfl⟩ | ⟨f, rfl⟩⟩
        · exact ⟨hcell.1, fun hd b hb => hno b (hcell.2 hd b hb) (h.al i _ hmem (alias_inner hd hb))⟩
        · exact ⟨hcell.1, fun b hb => hno b (hcell.2 b hb) (h.al i _ hmem (alias_dat hb))⟩
        · exact hcell
        · obtain ⟨b, o, vs, Ls, k1, k2, k3, k4, k5, k6⟩ := hcell
          have hgv := h.al i _ hmem rfl
          refine ⟨b, o, vs, Ls, k1, hno b k2 hgv, k3, k4, k5, fun i' c' u' hc' hu' => ?_⟩
          have := k6 i' c' u' hc' hu'
          cases c' with
          | nil => exact this
          | dat k y => exact ⟨this.1, fun b hb => hno b (this.2 b hb) hgv⟩
          | _ => exact this
        · obtain ⟨us', Ls', k1, k2, k3⟩ := hcell
          exact ⟨us', Ls', k1, k2, fun i' c' u' hc' => by simp at hc'⟩
      · obtain ⟨c0, c2, r1, r2, r3, r4⟩ := hget' j _ hc'
        rw [hg]
        simp only
        rcases r4 with ⟨rv', sv', d', k', l', rfl, rfl⟩ | ⟨rfl, r5, r6⟩
        · simp only [layC, C.own.injEq] at r3
          obtain ⟨rfl, rfl, _⟩ := r3
          exact ⟨Nat.lt_succ_self _, Nat.succ_pos _⟩
        · rcases r6 with ⟨k, x, rfl⟩ | rfl | ⟨a, jj, rfl⟩ | ⟨f, rfl⟩ <;> simp [layC] at r3
      · rw [hfp]; exact hS2.nodup
      · rw [hfp]
        intro b hb
        exact (h.pseudo hx (by rw [hP]; exact hb)).1
      · rw [hg] at hd
        simp only [hsh] at hd
        simp at hd
    · have hnb : ∀ x ∈ fl, x.2.2 ≠ .box t := by
        rintro ⟨i, c, l⟩ hx hl
        dsimp only at hl
        subst hl
        exact hb ⟨i, c, hx⟩
      by_cases hc : ∃ x ∈ fl, x.2.2.slot = t
      · -- cells
        have hg := lentGet t hc
        obtain ⟨c1, c2, c3⟩ := hbe.cells t hnb
        have hS := h.inv.slot t
        have hvs := vsN t hnb
        have hnr : t ∉ rt := by obtain ⟨x, hx, rfl⟩ := hc; exact notRd x hx
        -- what kind of cell
        have kind : ∀ (j : Nat) c', (eb.get t).cs[j]? = some c' → (((∀ x ∈ fl, ∀ p k, x.2.2 ≠ .cell t j p k) ∧ (e.get t).cs[j]? = some c' ∧ G'.lt t j = G.lt t j) ∨ ∃ i c p k, (i, c, Lend.cell t j p k) ∈ fl) := by
          intro j c' hc'
          by_cases hlc : ∃ i c p k, (i, c, Lend.cell t j p k) ∈ fl
          · exact .inr hlc
          · have hno : ∀ x ∈ fl, ∀ p k, x.2.2 ≠ .cell t j p k := by
              rintro ⟨i, c, l⟩ hx p k hl
              dsimp only at hl
              subst hl
              exact hlc ⟨i, c, p, k, hx⟩
            exact .inl ⟨hno, by rw [← hbe.cellR t j hnb hno]; exact hc', ltOut_rest hnb hno⟩
        -- blocks of a cell that is not lent are not lent
        have freeU : ∀ (j : Nat) c0 b, (e.get t).cs[j]? = some c0 → b ∈ ownB c0 (G.lt t j) → (∀ p k, b ∉ blkL e G (.cell t j p k) ∨ ∀ x ∈ fl, x.2.2 ≠ .cell t j p k) → ∀ x ∈ fl, b ∉ blkL e G x.2.2 := by
          intro j c0 b hc0 hb hn x hx hm
          have hin : LendIn e x.2.2 := by subst hfl; exact h.lends.inn x hx
          have hs1 := blkL_ow h.inv hin hm
          have hown : G.ow b = some t := hS.own b (h.inv.mem_fpS hc0 hb)
          rw [hown] at hs1
          simp only [Option.some.injEq] at hs1
          obtain ⟨i', c', l'⟩ := x
          cases l' with
          | box s' =>
            simp only [Lend.slot] at hs1
            subst hs1
            exact hnb _ hx rfl
          | cell s' j' p' k' =>
            simp only [Lend.slot] at hs1
            subst hs1
            by_cases hj : j = j'
            · subst hj
              rcases hn p' k' with g | g
              · exact g hm
              · exact g _ hx rfl
            · obtain ⟨cc, r1, r2⟩ := blkL_cell hin hm
              exact fpCells_disj (cells_nodup h.inv t) hc0 r1 hj hb r2
        have ownT : ∀ (j : Nat) c0 b, (e.get t).cs[j]? = some c0 → b ∈ ownB c0 (G.lt t j) → G.ow b = some t := by
          intro j c0 b hc0 hb
          exact hS.own b (h.inv.mem_fpS hc0 hb)
        -- where the blocks come from
        have src : ∀ (j : Nat) c' b, (eb.get t).cs[j]? = some c' → b ∈ ownB c' (G'.lt t j) →
            (∃ c0, (e.get t).cs[j]? = some c0 ∧ b ∈ ownB c0 (G.lt t j) ∧ ∀ x ∈ fl, b ∉ blkL e G x.2.2) ∨ ∃ i c p k c2, (i, c, Lend.cell t j p k) ∈ fl ∧ (e2.get (N + 2 * i)).cs[c]? = some c2 ∧ b ∈ ownB c2 (G2.lt (N + 2 * i) c) := by
          intro j c' b hc' hb
          rcases kind j c' hc' with ⟨r1, r2, r3⟩ | ⟨i, c, p, k, hx⟩
          · rw [r3] at hb
            exact .inl ⟨c', r2, hb, freeU j c' b r2 hb fun p k => .inr fun x hx => r1 x hx p k⟩
          · obtain ⟨z, c1', z1, z2, z3, rv0, sv, d, k00, l0, v0, r1, r2, r3⟩ := lentCell i c t j p k hx hnb
            rw [hc'] at z3
            simp only [Option.some.injEq] at z3
            subst z3
            rcases r3 with ⟨rfl, _⟩ | ⟨sv1, d1, k1, l1, d'', l0'', t1, rfl, t3, t4, t5, t6, t7, t8⟩
            · simp [ownB] at hb
            · rcases t6 b hb with ⟨g1, g2⟩ | g
              · refine .inl ⟨_, r1, g1, freeU j _ b r1 g1 fun p' k' => ?_⟩
                by_cases hpk : ∃ x ∈ fl, x.2.2 = .cell t j p' k'
                · obtain ⟨⟨i', c', l'⟩, hx', hl'⟩ := hpk
                  dsimp only at hl'
                  subst hl'
                  have hap : apartF fl = true := by subst hfl; exact h.lends.apart
                  rcases apartF_mem hap _ hx _ hx' with g | g
                  · simp only [Prod.mk.injEq, Lend.cell.injEq, true_and] at g
                    obtain ⟨_, _, rfl, rfl⟩ := g
                    exact .inl g2
                  · simp [Lend.clash] at g
                · exact .inr fun x hx' q => hpk ⟨x, hx', q⟩
              · exact .inr ⟨i, c, p, k, _, hx, t1, g⟩
        have inP : ∀ i c (s j : Nat) p k c2 b, (i, c, Lend.cell s j p k) ∈ fl → (e2.get (N + 2 * i)).cs[c]? = some c2 → b ∈ ownB c2 (G2.lt (N + 2 * i) c) → b ∈ fpS G2 (posL N (i, c, Lend.cell s j p k)) (e2.get (posL N (i, c, Lend.cell s j p k))) := by
          intro i c s j p k c2 b hx hc2 hb
          exact h.inv2.mem_fpS hc2 hb
        have psd : ∀ i c (s j : Nat) p k c2 b, (i, c, Lend.cell s j p k) ∈ fl → (e2.get (N + 2 * i)).cs[c]? = some c2 → b ∈ ownB c2 (G2.lt (N + 2 * i) c) → G'.ow b = some s ∧ G2.ow b = some (N + 2 * i) ∧ N + 2 * i < N + 2 * m := by
          intro i c s j p k c2 b hx hc2 hb
          have := inP i c s j p k c2 b hx hc2 hb
          subst hfl
          obtain ⟨g1, g2, _⟩ := h.pseudo hx this
          exact ⟨g1, g2, h.pos_lt hx⟩
        have old : ∀ b, G.ow b = some t → (∀ x ∈ fl, b ∉ blkL e G x.2.2) → ∀ u, G2.ow b = some u → u = N + 2 * m := by
          intro b hb hn
          have hold : w.heap[b]? ≠ none := by
            have := h.inv.lt b t hb
            simp [this]
          subst hfl
          exact (h.unlent hold hn).2.2.1
        have ndCells : (fpCells (G'.lt t) 0 (eb.get t).cs).Nodup := by
          refine fpCells_nodup (fun j c' hc' => ?_) (fun j j' c' c'' b hne hc' hc'' hb hb' => ?_)
          · rw [Nat.zero_add]
            rcases kind j c' hc' with ⟨r1, r2, r3⟩ | ⟨i, c, p, k, hx⟩
            · rw [r3]
              cases hown : c'.isOwn with
              | false => rw [noOwn_ownB hown]; exact List.nodup_nil
              | true =>
                cases c' with
                | own rv sv d k l => exact (h.inv.ownBlocks r2).2.2
                | _ => simp [C.isOwn] at hown
            · obtain ⟨z, c1', z1, z2, z3, rv0, sv, d, k00, l0, v0, r1, r2, r3⟩ := lentCell i c t j p k hx hnb
              rw [hc'] at z3
              simp only [Option.some.injEq] at z3
              subst z3
              rcases r3 with ⟨rfl, _⟩ | ⟨sv1, d1, k1, l1, d'', l0'', t1, rfl, t3, t4, t5, t6, t7, t8⟩
              · exact List.nodup_nil
              · exact t7
          · rw [Nat.zero_add] at hb hb'
            rcases src j c' b hc' hb with ⟨x0, g1, g2, g3⟩ | ⟨i, c, p, k, x2, g1, g2, g3⟩
            · rcases src j' c'' b hc'' hb' with ⟨y0, k1, k2, k3⟩ | ⟨i', c3, p', k', y2, k1, k2, k3⟩
              · exact fpCells_disj (cells_nodup h.inv t) g1 k1 hne g2 k2
              · obtain ⟨_, q2, q3⟩ := psd _ _ _ _ _ _ _ _ k1 k2 k3
                have := old b (ownT j x0 b g1 g2) g3 _ q2
                omega
            · obtain ⟨_, q2, q3⟩ := psd _ _ _ _ _ _ _ _ g1 g2 g3
              rcases src j' c'' b hc'' hb' with ⟨y0, k1, k2, k3⟩ | ⟨i', c3, p', k', y2, k1, k2, k3⟩
              · have := old b (ownT j' y0 b k1 k2) k3 _ q2
                omega
              · obtain ⟨_, q4, q5⟩ := psd _ _ _ _ _ _ _ _ k1 k2 k3
                rw [q2] at q4
                simp only [Option.some.injEq] at q4
                have hii : i = i' := by omega
                subst hii
                by_cases hcc : c = c3
                · subst hcc
                  rw [← hF] at g1 k1
                  obtain ⟨ls, _, m2, m3⟩ := mem_lendAt.1 g1
                  obtain ⟨ls', _, m5, m6⟩ := mem_lendAt.1 k1
                  dsimp only at m2 m3 m5 m6
                  rw [m2] at m5
                  simp only [Option.some.injEq] at m5
                  subst m5
                  rw [m3] at m6
                  simp only [Option.some.injEq, Lend.cell.injEq] at m6
                  exact hne m6.2.1
                · exact fpCells_disj (cells_nodup h.inv2 (N + 2 * i)) g2 k2 hcc g3 k3
        have ownCells : ∀ b ∈ fpCells (G'.lt t) 0 (eb.get t).cs, G'.ow b = some t := by
          intro b hb
          obtain ⟨j, c', hc', hb⟩ := fpCells_of hb
          rw [Nat.zero_add] at hb
          rcases src j c' b hc' hb with ⟨x0, g1, g2, g3⟩ | ⟨i, c, p, k, x2, g1, g2, g3⟩
          · rw [(owner b t (ownT j x0 b g1 g2) g3).2, if_neg fun g => hnr g.2]
          · exact (psd _ _ _ _ _ _ _ _ g1 g2 g3).1
        have boxFree : ∀ bv, (e.get t).sh = .box bv → G.ow (G.bk t) = some t ∧ (∀ x ∈ fl, G.bk t ∉ blkL e G x.2.2) ∧ G.bk t ∉ fpCells (G'.lt t) 0 (eb.get t).cs := by
          intro bv hbv
          have hbf : G.bk t ∈ fpS G t (e.get t) := by simp only [fpS, hbv]; simp
          have hob := hS.own _ hbf
          have hnd := hS.nodup
          simp only [fpS, hbv, List.singleton_append, List.nodup_cons] at hnd
          have hfree : ∀ x ∈ fl, G.bk t ∉ blkL e G x.2.2 := by
            rintro ⟨i', c', l'⟩ hx hm
            have hin : LendIn e l' := by subst hfl; exact h.lends.inn _ hx
            have hs1 := blkL_ow h.inv hin hm
            rw [hob] at hs1
            simp only [Option.some.injEq] at hs1
            cases l' with
            | box s' =>
              simp only [Lend.slot] at hs1
              subst hs1
              exact hnb _ hx rfl
            | cell s' j' p' k' =>
              simp only [Lend.slot] at hs1
              subst hs1
              obtain ⟨cc, r1, r2⟩ := blkL_cell hin hm
              exact hnd.1 (fpCells_mem (i := 0) r1 (by simpa using r2))
          refine ⟨hob, hfree, fun hm => ?_⟩
          obtain ⟨j, c', hc', hb⟩ := fpCells_of hm
          rw [Nat.zero_add] at hb
          rcases src j c' _ hc' hb with ⟨x0, g1, g2, g3⟩ | ⟨i, c, p, k, x2, g1, g2, g3⟩
          · exact hnd.1 (fpCells_mem (i := 0) g1 (by simpa using g2))
          · obtain ⟨_, q2, q3⟩ := psd _ _ _ _ _ _ _ _ g1 g2 g3
            have := old _ hob hfree _ q2
            omega
        have hne : (e.get t).sh ≠ .dead → (eb.get t).sh ≠ .dead := fun q => by rw [c1]; exact q
        refine ⟨fun hn => ?_, fun bv' hbv => ?_, fun hd => ?_, fun hd j c' v hc' hv => ?_, fun hd j rv sv d k l hc' => ?_, ?_, ?_, fun hd => ?_⟩
        · rw [hg, c1, hvs]; exact hS.form hn
        · rw [hg, c1] at hbv
          obtain ⟨r1, ty, r2⟩ := hS.box bv' hbv
          obtain ⟨q1, q2, _⟩ := boxFree bv' hbv
          refine ⟨by rw [hg]; omega, ty, ?_⟩
          rw [hvs]
          show w1.heap[G.bk t]? = _
          rw [(owner _ t q1 q2).1]
          exact r2
        · rw [hg, hvs, c3]; exact hS.len (by rw [hg, c1] at hd; exact hd)
        · rw [hg] at hc'
          rw [hvs] at hv
          have hd' : (e.get t).sh ≠ .dead := by rw [hg, c1] at hd; exact hd
          rcases kind j c' hc' with ⟨r1, r2, r3⟩ | ⟨i, c, p, k, hx⟩
          · rw [r3]
            exact (hS.cells hd' j c' v r2 hv).frame hTM hst fun b hb => (owner b t (ownT j c' b r2 hb) (freeU j c' b r2 hb fun p k => .inr fun x hx => r1 x hx p k)).1
          · obtain ⟨z, c1', z1, z2, z3, rv0, sv, d, k00, l0, v0, r1, r2, r3⟩ := lentCell i c t j p k hx hnb
            rw [hc'] at z3
            simp only [Option.some.injEq] at z3
            subst z3
            rw [hv] at r2
            simp only [Option.some.injEq] at r2
            subst r2
            rcases r3 with ⟨rfl, _⟩ | ⟨sv1, d1, k1, l1, d'', l0'', t1, rfl, t3, t4, t5, t6, t7, t8⟩
            · trivial
            · exact ⟨t3, t8⟩
        · rw [hg] at hc' ⊢
          have hd' : (e.get t).sh ≠ .dead := by rw [hg, c1] at hd; exact hd
          rcases kind j _ hc' with ⟨r1, r2, r3⟩ | ⟨i, c, p, k', hx⟩
          · have := hS.vers hd' j rv sv d k l r2
            omega
          · obtain ⟨z, c1', z1, z2, z3, rv0, sv', d', k00, l0, v0, r1, r2, r3⟩ := lentCell i c t j p k' hx hnb
            rw [hc'] at z3
            simp only [Option.some.injEq] at z3
            subst z3
            have hv0 := hS.vers hd' j rv0 sv' d' k00 l0 r1
            rcases r3 with ⟨hq, _⟩ | ⟨sv1, d1, k1, l1, d'', l0'', t1, hq, t3, t4, t5, t6, t7, t8⟩
            · simp at hq
            · simp only [C.own.injEq] at hq
              obtain ⟨rfl, rfl, _⟩ := hq
              omega
        · rw [hg]
          simp only [fpS, c1]
          cases hsh : (e.get t).sh with
          | box bv =>
            simp only [List.singleton_append, List.nodup_cons]
            exact ⟨(boxFree bv hsh).2.2, ndCells⟩
          | dead => exact List.nodup_nil
          | _ => simpa using ndCells
        · rw [hg]
          intro b hb
          simp only [fpS, c1, List.mem_append] at hb
          rcases hb with hb | hb
          · cases hsh : (e.get t).sh with
            | box bv =>
              rw [hsh] at hb
              simp only [List.mem_singleton] at hb
              obtain ⟨q1, q2, _⟩ := boxFree bv hsh
              have hbG : b = G.bk t := hb
              rw [hbG, (owner _ t q1 q2).2, if_neg fun g => hnr g.2]
            | _ => rw [hsh] at hb; simp at hb
          · refine ownCells b ?_
            cases hsh : (e.get t).sh with
            | dead => rw [hsh] at hb; simp at hb
            | _ => rw [hsh] at hb; exact hb
        · rw [hg] at hd ⊢
          rw [c1] at hd
          have := hS.dead hd
          rw [this] at c3
          exact List.eq_nil_of_length_eq_zero (by simpa using c3)
      · -- given up
        have hnl : ∀ x ∈ fl, x.2.2.slot ≠ t := fun x hx q => hc ⟨x, hx, q⟩
        have hgv : gv = true ∧ t ∈ rt := ht.resolve_left hc
        exact give_slot h.inv (by rw [hget, if_pos hgv]) (vsN t hnb) (fun j => ltOut_rest hnb (nlCell t j hnl)) rfl hTM hst (fun b hb => by
          obtain ⟨q1, q2⟩ := owner b t hb (notLent b t hb hnl)
          exact ⟨q1, by rw [q2, if_pos hgv]⟩)
  · have hb' : owOut2 w e G fl G2 N H rt gv e.length b = some t := hb
    unfold owOut2 at hb'
    split at hb'
    · rename_i hm
      exact (h.hand b hm).2.2.1
    · split at hb'
      · split at hb'
        · simp at hb'
        · rename_i s' hs'
          exact Nat.lt_of_lt_of_le (h.inv.lt b s' hs') h.size
      · cases hg2 : G2.ow b with
        | none => rw [hg2] at hb'; simp at hb'
        | some u => exact h.inv2.lt b u hg2
  · -- what is held
    refine ⟨fun hpar => ?_, rfl⟩
    have hnb : ∀ x ∈ fl, x.2.2 ≠ .box s := by
      intro x hx hl
      subst hfl
      rcases h.odd x hx s hl with g | g <;> omega
    refine ⟨vsN s hnb, fun j => ?_⟩
    by_cases hlc : ∃ i c p k, (i, c, Lend.cell s j p k) ∈ fl
    · obtain ⟨i, c, p, k, hx⟩ := hlc
      obtain ⟨z, c1', z1, z2, z3, rv0, sv, d, k00, l0, v0, r1, r2, r3⟩ := lentCell i c s j p k hx hnb
      rcases r3 with ⟨_, q0⟩ | ⟨sv1, d1, k1, l1, d'', l0'', t1, rfl, t3, t4, t5, t6, t7, t8⟩
      · show hdOf (G'.lt s j) = _
        rw [q0]
      · exact t5
    · have hno : ∀ x ∈ fl, ∀ p k, x.2.2 ≠ .cell s j p k := by
        rintro ⟨i, c, l⟩ hx p k hl
        dsimp only at hl
        subst hl
        exact hlc ⟨i, c, p, k, hx⟩
      have : G'.lt s j = G.lt s j := ltOut_rest hnb hno
      show hdOf (G'.lt s j) = _
      rw [this]
  · have hnl : ∀ x ∈ fl, x.2.2.slot ≠ t := by
      intro x hx q
      subst hfl
      have := h.slotlt x hx
      omega
    obtain ⟨q1, q2⟩ := owner b t h1 (notLent b t h1 hnl)
    exact ⟨q1, by
      show G'.ow b = some t
      rw [q2, if_neg fun g => by have := h.rtlt t g.2; omega]⟩

end called

end Go.Mach
