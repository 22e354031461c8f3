/- slices.SortFunc on spans, by their first numbers, by the shelf's contract; what it does to a row. No condition: lemmas. -/
import Derived.Test.YthchcnfkgjmabaaGreatV
import Derived.Test.YthchcnfkgjmabaaGreatSp
import Derived.Shelf.SlSortCmp.WholeK
import Derived.Shelf.SlSortCmp.NoneTotal
import Derived.Shelf.SlicesG.Cmp
import Derived.Shelf.Lay
import Derived.Ground.SlsfProg
import Derived.Ground.SlgcProg
import Derived.Test.YthchcnfkgjmabaaGreatProg
import Derived.KernelRfl
namespace Go.Mach
open Go.Proofs Go.Shelf Go.RowKit Go.Lib Go.Sort
set_option linter.unusedVariables false

abbrev kSp : K := .pair (.int .i64) (.int .i64)
def encSp (x : Sp2) : List Value := [.int .i64 x.1, .int .i64 x.2]
def cfSp (x y : Sp2) : Int := Lib.compareInt x.1 y.1

theorem ltSp (x y : Sp2) : ltOf cfSp x y = decide (x.1 < y.1) := by
  unfold ltOf cfSp Lib.compareInt
  by_cases h1 : x.1 < y.1
  · simp [h1]
  · by_cases h2 : y.1 < x.1 <;> simp [h1, h2]

theorem swoSp : SWO (ltOf cfSp) where
  irrefl x := by rw [ltSp]; simp
  trans x y z h1 h2 := by rw [ltSp] at *; simp at *; omega
  ntrans x y z h1 h2 := by rw [ltSp] at *; simp at *; omega

/-- Go's own order. -/
def sortLo (l : List Sp2) : List Sp2 := (pdq (ltOf cfSp) l.toArray 0 l.toArray.size (Lib.bitLen l.toArray.size) true true).toList

theorem sortLo_raw (l : List Sp2) : PermIn 0 l.toArray.size l.toArray (sortLo l).toArray ∧ SortedIn (ltOf cfSp) 0 l.toArray.size (sortLo l).toArray := by
  have := pdq_sorts (ltOf cfSp) swoSp l.toArray 0 l.toArray.size (Lib.bitLen l.toArray.size) true true (Nat.zero_le _) (Nat.le_refl _) (Or.inl rfl)
  simpa [sortLo] using this

theorem sortLo_length (l : List Sp2) : (sortLo l).length = l.length := by
  have := (sortLo_raw l).1.1
  simpa using this

theorem sortLo_sorted (l : List Sp2) : (sortLo l).Pairwise (fun x y => x.1 ≤ y.1) := by
  have h := (sortLo_raw l).2
  have hl := sortLo_length l
  rw [List.pairwise_iff_getElem]
  intro i j hi hj hij
  have := h i j (Nat.zero_le _) hij (by simp; omega)
  rw [ltSp] at this
  simp only [decide_eq_false_iff_not] at this
  have e1 : (sortLo l).toArray[i]! = (sortLo l)[i] := by rw [getElem!_pos _ i (by simpa using hi)]; simp
  have e2 : (sortLo l).toArray[j]! = (sortLo l)[j] := by rw [getElem!_pos _ j (by simpa using hj)]; simp
  rw [e1, e2] at this
  omega

theorem sortLo_perm (l : List Sp2) : (sortLo l).Perm l := by
  have h := (sortLo_raw l).1.2.2
  have hl := sortLo_length l
  have e1 : (l.toArray.extract 0 l.toArray.size).toList = l := by simp
  have e2 : ((sortLo l).toArray.extract 0 l.toArray.size).toList = sortLo l := by
    simp only [List.size_toArray, Array.toList_extract]
    rw [← hl]
    simp
  rw [e1, e2] at h
  exact h

theorem frozen_room {w : World} {b o : Nat} {c : Array Value} {e : TypeId} {fr : Nat × Nat} (h : w.heap[b]? = some (.cells c e fr)) (ho : o < c.size) (hf : c.size ≤ fr.1 ∨ fr.2 ≤ fr.1) : w.frozen? ⟨b, o, none⟩ = false := by
  simp only [World.frozen?, h]
  simp only [Bool.and_eq_false_imp, decide_eq_true_eq, decide_eq_false_iff_not]
  omega

/-- slices.SortFunc at spans. -/
theorem fnOk_sort {P : Program} [Tabs P] {f g n : Nat} {fn : Func} (hf : P.funcs[f]? = some fn) (hbody : fn.body.isNone = false) (hname : (fn.name == "runtime.NumGoroutine") = false) (hres : fn.results = #[]) (hN : 2 ≤ n)
    (hcall : ∀ (b off cap : Nat) (l : List Sp2) (w : World), HoldsK encSp 2 w b off l.toArray → b < w.heap.size → l.length < 4611686018427387904 →
      Calls P f #[.slice (some ⟨b, off, none⟩) l.length cap, .func (.func g) #[] #[]] w fun e w' => e = .returned (.tuple #[]) ∧ ∃ m os, w' = sortWorldK encSp 2 w b off m (sortLo l).toArray os)
    (hnone : ∀ (p : Option Addr) (cap : Nat) (w : World), Calls P f #[.slice p 0 cap, .func (.func g) #[] #[]] w fun e w' => e = .returned (.tuple #[]) ∧ w' = w) :
    FnOk P f ⟨n, [], [true, false], [(.one, [.own true kSp]), (.one, [.fn g []])], ⟨n + 4, [⟨n, .agg, [.own true kSp]⟩]⟩, fun d => if d.1.length ≤ 4294967296 then some (sortLo d.1) else none⟩ := by
  refine ⟨hN, fn, hf, hbody, hname, by rw [hres]; rfl, fun d b hT _ us w G hus hi hlaid => ?_⟩
  obtain ⟨l, dd0⟩ := d
  dsimp only at hT
  split at hT
  case isFalse => simp at hT
  rename_i hlen
  simp only [Option.some.injEq] at hT
  subst hT
  -- the slots at the start
  have hst := startE_slots (n := n) (md := [true, false]) (vals := encA [(PSh.one, [PC.own true kSp]), (PSh.one, [PC.fn g []])] (l, dd0)) (by simp [encA]; omega)
  obtain ⟨_, hsl, _⟩ := hst
  have g0 := (hsl 0 _ rfl).1
  have gn := (hsl 0 _ rfl).2.1
  have g1 := (hsl 1 _ rfl).1
  simp only [Nat.mul_zero, Nat.add_zero] at gn
  generalize hE : startE n [true, false] (encA [(PSh.one, [PC.own true kSp]), (PSh.one, [PC.fn g []])] (l, dd0)) = E at *
  have g0' : E.get 0 = { sh := .one, cs := [.ref n 0 0 0 [] none none kSp], cnt := 1 } := g0
  have gn' : E.get n = { sh := .agg, cs := [.own 0 0 true kSp l], cnt := 1 } := gn
  have g1' : E.get 1 = { sh := .one, cs := [.fn g []], cnt := 1 } := g1
  clear g0 gn g1
  obtain ⟨u0, u1, rfl⟩ : ∃ a b, us = [a, b] := by
    match us, hus with
    | [a, b], _ => exact ⟨a, b, rfl⟩
  -- the values
  have s0 := hi.slot 0
  have s1 := hi.slot 1
  have sn := hi.slot n
  have l0 := s0.len (by rw [g0']; simp)
  have l1 := s1.len (by rw [g1']; simp)
  have ln' := sn.len (by rw [gn']; simp)
  rw [g0'] at l0
  rw [g1'] at l1
  rw [gn'] at ln'
  obtain ⟨v0, e0⟩ : ∃ v, G.vs 0 = [v] := by
    match hv : G.vs 0, l0 with
    | [v], _ => exact ⟨v, rfl⟩
  obtain ⟨v1, e1⟩ : ∃ v, G.vs 1 = [v] := by
    match hv : G.vs 1, l1 with
    | [v], _ => exact ⟨v, rfl⟩
  obtain ⟨vn, en⟩ : ∃ v, G.vs n = [v] := by
    match hv : G.vs n, ln' with
    | [v], _ => exact ⟨v, rfl⟩
  have f0 := s0.form (Nat.lt_of_lt_of_le Nat.zero_lt_two hN)
  have f1 := s1.form (Nat.lt_of_lt_of_le Nat.one_lt_two hN)
  rw [g0', e0] at f0
  rw [g1', e1] at f1
  have f0' : ([u0, u1].toArray ++ Array.replicate (n - 2) undef)[0]? = some v0 := f0
  have f1' : ([u0, u1].toArray ++ Array.replicate (n - 2) undef)[1]? = some v1 := f1
  obtain rfl : u0 = v0 := by simpa [Array.getElem?_append] using f0'
  obtain rfl : u1 = v1 := by simpa [Array.getElem?_append] using f1'
  have c0 := s0.cells (by rw [g0']; simp) 0 _ u0 (by rw [g0']; rfl) (by rw [e0]; rfl)
  have c1 := s1.cells (by rw [g1']; simp) 0 _ u1 (by rw [g1']; rfl) (by rw [e1]; rfl)
  have cn := sn.cells (by rw [gn']; simp) 0 _ vn (by rw [gn']; rfl) (by rw [en]; rfl)
  obtain ⟨uc, _, hu1, huc, _⟩ := c1
  obtain rfl : uc = [] := List.eq_nil_of_length_eq_zero (by simpa using huc)
  subst hu1
  obtain ⟨_, _, hfit⟩ := c0
  obtain ⟨m, hd, hloc, hsl1, hsl2, hsl3⟩ := hfit 0 true kSp l (by rw [gn']; rfl) (.inl rfl)
  obtain ⟨_, _, hm, hhd⟩ := hloc
  have hm' : l.length = m := hm
  subst hm'
  have hhd' : hdOf (G.lt n 0) = hd := hhd
  have hrep := cn.1
  generalize hL : G.lt n 0 = L at hrep hhd'
  -- what is shown of the end
  have hold : ∀ b, w.heap[b]? ≠ none → b < w.heap.size := fun b h => by
    rcases Nat.lt_or_ge b w.heap.size with q | q
    · exact q
    · exact absurd (by simp [q]) h
  have fin : ∀ w' : World, RepL true w' kSp.size (Rep true w' kSp) (sortLo l) L vn → w.heap.size ≤ w'.heap.size → SameEnv w w' → (∀ b', b' < w.heap.size → G.ow b' ≠ some n → w'.heap[b']? = w.heap[b']?) →
      ∃ tm1 G1, (results fn tm1).run P w' = .ok (.tuple #[]) w' ∧ Inv n (EP.enc ⟨n + 4, [⟨n, .agg, [.own true kSp]⟩]⟩ (sortLo l)) tm1 w' G1 ∧ Held n (n + 4) w w' G G1 ∧
        (EP.enc ⟨n + 4, [⟨n, .agg, [.own true kSp]⟩]⟩ (sortLo l)).length = n + 4 := by
    intro w' hr hsz henv hsame
    have hlen4 : (EP.enc ⟨n + 4, [⟨n, .agg, [.own true kSp]⟩]⟩ (sortLo l)).length = n + 4 := by simp only [EP.enc, encE_length]
    have hgn : Env.get (EP.enc ⟨n + 4, [⟨n, .agg, [.own true kSp]⟩]⟩ (sortLo l)) n = { sh := .agg, cs := [.own 0 0 true kSp (sortLo l)], cnt := 1 } := by
      have := encE_one (n + 4) 0 n ⟨n, .agg, [.own true kSp]⟩ (sortLo l) (by omega)
      rw [if_pos (by simp)] at this
      exact this
    have hgo : ∀ s, s ≠ n → Env.get (EP.enc ⟨n + 4, [⟨n, .agg, [.own true kSp]⟩]⟩ (sortLo l)) s = dd ∨ Env.get (EP.enc ⟨n + 4, [⟨n, .agg, [.own true kSp]⟩]⟩ (sortLo l)) s = {} := by
      intro s hs
      rcases Nat.lt_or_ge s (n + 4) with h | h
      · left
        have := encE_one (n + 4) 0 s ⟨n, .agg, [.own true kSp]⟩ (sortLo l) h
        rw [if_neg (by simp; omega)] at this
        exact this
      · right
        exact get_over (by rw [hlen4]; exact h)
    have hfp : fpS G n { sh := .agg, cs := [.own 0 0 true kSp (sortLo l)], cnt := 1 } = fpS G n (E.get n) := by rw [gn']; rfl
    refine ⟨Array.replicate n undef, G, results_none hres _ _ _, ⟨by simp, by rw [hlen4]; omega, fun s => ?_, fun b s h => Nat.lt_of_lt_of_le (hi.lt b s h) hsz⟩,
      ⟨fun b h1 h2 => ⟨hsame b (hold b h2) (by rw [h1]; simp), h1⟩, fun s hs => ⟨fun _ => ⟨rfl, fun j => rfl⟩, rfl⟩, fun b t h1 h2 h3 => ⟨hsame b (hold b h3) (by rw [h1]; simp; omega), h1⟩⟩, hlen4⟩
    by_cases hs : s = n
    · subst hs
      refine ⟨fun h => absurd h (Nat.lt_irrefl _), fun bv hb => ?_, fun _ => ?_, fun _ j c v hc hv => ?_, fun _ j rv sv d k l' hc => ?_, ?_, ?_, fun h => ?_⟩
      · rw [hgn] at hb; cases hb
      · rw [hgn, en]; rfl
      · rw [hgn] at hc
        rw [en] at hv
        match j with
        | 0 =>
          simp only [List.getElem?_cons_zero, Option.some.injEq] at hc hv
          subst hc hv
          rw [hL]
          exact ⟨hr, fun h => by simp at h⟩
        | j + 1 => simp at hc
      · rw [hgn] at hc ⊢
        match j with
        | 0 =>
          simp only [List.getElem?_cons_zero, Option.some.injEq, C.own.injEq] at hc
          obtain ⟨rfl, rfl, _⟩ := hc
          exact ⟨Nat.one_pos, Nat.one_pos⟩
        | j + 1 => simp at hc
      · rw [hgn, hfp]; exact sn.nodup
      · rw [hgn, hfp]; exact sn.own
      · rw [hgn] at h; cases h
    · rcases hgo s hs with h | h
      · exact SlotOk.deadOne h
      · exact SlotOk.nothing h
  have hsame0 : (sortLo l = l) → ∀ (p : Option Addr) (cap : Nat), u0 = .slice p 0 cap → Calls P f #[u0, .func (.func g) #[] #[]] w fun en w' => ∃ tm1 G1 u, en = .returned u ∧ (results fn tm1).run P w' = .ok u w' ∧
      Inv n (EP.enc ⟨n + 4, [⟨n, .agg, [.own true kSp]⟩]⟩ (sortLo l)) tm1 w' G1 ∧ Held n (n + 4) w w' G G1 ∧ w.heap.size ≤ w'.heap.size ∧ (EP.enc ⟨n + 4, [⟨n, .agg, [.own true kSp]⟩]⟩ (sortLo l)).length = n + 4 ∧ SameEnv w w' := by
    rintro hs p cap rfl
    refine (hnone p cap w).mono ?_
    rintro en w' ⟨rfl, rfl⟩
    obtain ⟨tm1, G1, q1, q2, q3, q4⟩ := fin w' (by rw [hs]; exact hrep) (Nat.le_refl _) SameEnv.refl (fun _ _ _ => rfl)
    exact ⟨tm1, G1, _, rfl, q1, q2, q3, Nat.le_refl _, q4, SameEnv.refl⟩
  have hnil : l = [] → sortLo l = l := by
    rintro rfl
    exact List.eq_nil_of_length_eq_zero (by rw [sortLo_length]; rfl)
  unfold RepL at hrep
  rcases hrep with ⟨rfl, hl0, a, cap, rfl, hcap⟩ | ⟨b, off, cap, rows, rfl, hvn, hcap, hrl, hb, hroom, hrows⟩
  · subst hhd'
    obtain ⟨a', hu, _⟩ := hsl3
    exact hsame0 (hnil hl0) _ _ hu
  · subst hhd'
    obtain ⟨hc1, o, hu, ho⟩ := hsl3
    by_cases hl0 : l = []
    · subst hl0
      exact hsame0 (hnil rfl) _ _ hu
    · have hpos : 0 < l.length := by
        cases l with
        | nil => exact absurd rfl hl0
        | cons _ _ => simp
      have ho' : o = off := by
        have := ho (by simp only [Option.getD_none]; omega)
        simpa using this
      subst ho'
      have hu' : u0 = .slice (some ⟨b, o, none⟩) l.length cap := by simpa using hu
      obtain ⟨cs, ce, fr, hblk, hsz, hfr⟩ := hroom rfl
      have hk2 : kSp.size = 2 := rfl
      rw [hk2] at hsz
      have hblt : b < w.heap.size := hold b hb
      have hcellv : ∀ (i : Nat) (x : Sp2), l[i]? = some x → w.cell? ⟨b, o + i * 2, none⟩ = some (.int .i64 x.1) ∧ w.cell? ⟨b, o + i * 2 + 1, none⟩ = some (.int .i64 x.2) := by
        intro i x hx
        have hil := (List.getElem?_eq_some_iff.1 hx).1
        obtain ⟨vs, h1, h2⟩ := hrows i x _ hx (List.getElem?_eq_getElem (by rw [hrl]; exact hil))
        simp only [Rep] at h2
        obtain ⟨La, Lb, c1, c2, _, rfl, rfl, rfl⟩ := h2
        exact ⟨h1 0 _ rfl, h1 1 _ rfl⟩
      have hH : HoldsK encSp 2 w b o l.toArray := by
        intro j hj
        rw [size_flatK] at hj
        simp only [List.size_toArray] at hj
        rw [get_flatK _ _ _ _ (by simpa using hj)]
        have hjl : j / 2 < l.length := by omega
        have hge : l.toArray[j / 2]! = l[j / 2] := by rw [getElem!_pos _ (j / 2) (by simpa using hjl)]; simp
        rw [hge]
        obtain ⟨q1, q2⟩ := hcellv (j / 2) l[j / 2] (List.getElem?_eq_getElem hjl)
        refine ⟨?_, frozen_room hblk (by omega) hfr⟩
        rcases Nat.mod_two_eq_zero_or_one j with hm | hm
        · rw [hm, show o + j = o + j / 2 * 2 by omega, q1]; rfl
        · rw [hm, show o + j = o + j / 2 * 2 + 1 by omega, q2]; rfl
      rw [hu']
      refine (hcall b o cap l w hH hblt (by omega)).mono ?_
      rintro en w' ⟨rfl, m, os, rfl⟩
      have hsz' : (sortLo l).toArray.size = l.toArray.size := by simp [sortLo_length]
      have hH' := holdsK_sortWorldK_c encSp 2 w b o l.toArray (sortLo l).toArray m os hH hblt hsz'
      have hsize := size_sortWorldK_c encSp 2 w b o m (sortLo l).toArray os
      have hheap : ∀ b', b' < w.heap.size → (sortWorldK encSp 2 w b o m (sortLo l).toArray os).heap[b']? = if b' = b then some (.cells (putCells id o (flatK encSp 2 (sortLo l).toArray) cs) ce fr) else w.heap[b']? := by
        intro b' hb'
        unfold sortWorldK putRowK putRow mapBlock grow Sort.ahead
        simp only
        rw [Array.getElem?_append_left (by simpa using hb'), Array.getElem?_modify]
        by_cases q : b = b'
        · subst q
          rw [if_pos rfl, if_pos rfl, hblk]; rfl
        · rw [if_neg q, if_neg (fun z => q z.symm)]
      have hown : G.ow b = some n := by
        refine sn.own b ?_
        rw [gn']
        simp only [fpS, fpCells, ownB, fp, hL]
        simp
      have hrep' : RepL true (sortWorldK encSp 2 w b o m (sortLo l).toArray os) kSp.size (Rep true (sortWorldK encSp 2 w b o m (sortLo l).toArray os) kSp) (sortLo l) (.node b o cap rows) vn := by
        refine .inr ⟨b, o, cap, rows, rfl, by rw [hvn, sortLo_length], by rw [sortLo_length]; exact hcap, by rw [sortLo_length]; exact hrl, by rw [hheap b hblt, if_pos rfl]; simp, fun _ => ?_, fun i x r hx hr => ?_⟩
        · exact ⟨_, ce, fr, by rw [hheap b hblt, if_pos rfl], by simp [putCells]; exact hsz, by simp [putCells]; exact hfr⟩
        · have hil : i < (sortLo l).length := (List.getElem?_eq_some_iff.1 hx).1
          have hil' : i < l.length := by rw [sortLo_length] at hil; exact hil
          obtain ⟨vs0, _, h2⟩ := hrows i _ r (List.getElem?_eq_getElem hil') hr
          simp only [Rep] at h2
          obtain ⟨La, Lb, _, _, hrr, _⟩ := h2
          have hge : (sortLo l).toArray[i]! = x := by
            rw [getElem!_pos _ i (by simpa using hil)]
            have := (List.getElem?_eq_some_iff.1 hx).2
            simpa using this
          refine ⟨[.int .i64 x.1, .int .i64 x.2], fun j v hj => ?_, ?_⟩
          · match j with
            | 0 =>
              simp only [List.getElem?_cons_zero, Option.some.injEq] at hj
              subst hj
              have := (hH'.cell (i := i) (c := 0) (by simpa using hil) (by omega)).1
              rw [hge] at this
              exact this
            | 1 =>
              simp only [List.getElem?_cons_succ, List.getElem?_cons_zero, Option.some.injEq] at hj
              subst hj
              have := (hH'.cell (i := i) (c := 1) (by simpa using hil) (by omega)).1
              rw [hge] at this
              exact this
            | j + 2 => simp at hj
          · simp only [Rep]
            exact ⟨La, Lb, [_], [_], hrr, rfl, rfl, rfl⟩
      have henv : SameEnv w (sortWorldK encSp 2 w b o m (sortLo l).toArray os) := ⟨rfl, rfl, rfl⟩
      obtain ⟨tm1, G1, q1, q2, q3, q4⟩ := fin _ hrep' hsize henv (fun b' hb' hne => by
        rw [hheap b' hb', if_neg]
        rintro rfl
        exact hne hown)
      exact ⟨tm1, G1, _, rfl, q1, q2, q3, hsize, q4, henv⟩

end Go.Mach
