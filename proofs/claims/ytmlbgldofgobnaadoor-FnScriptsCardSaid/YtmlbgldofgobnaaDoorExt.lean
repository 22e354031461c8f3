/- Functions of the library that the laws meet, by the shelf's contracts: strconv.Itoa, strings.Join. No condition: lemmas. -/
import Derived.Test.YtmlbgldofgobnaaDoorXI
import Derived.Test.YtmlbgldofgobnaaDoorShelf
import Derived.Lib.ItoaNum
import Derived.Lib.Join
import Derived.Lib.SplitLaws
import Derived.Below
import Derived.KernelRfl
namespace Go.Proofs.YtmlbgldofgobnaaDoor.Tw
open Go.Mach Go.RowKit
set_option linter.unusedVariables false
set_option maxRecDepth 100000

/-- The table of powers of ten, where it lies. -/
abbrev powB : Nat × (Obj → Prop) := (3, fun o => ∃ t x, o = .cells (Lib.pow10Tab.map fun z => Value.int .u64 z).toArray t x)
abbrev maxB : Nat × (Obj → Prop) := (0, fun o => ∃ m, ∀ w : World, w.heap[0]? = some o → w.cell? ⟨0, 0, none⟩ = some (.int .i64 m))
instance tabs : Tabs Tryd.prog := ⟨[powB, maxB]⟩

theorem named_pow10 : Tryd.prog.globalNamed "internal/strconv.uint64pow10" = some 3 := by kernel_rfl

theorem tabIs {w : World} {G : Gh} (h : Laid Tryd.prog w G) : Lib.TabIs Tryd.prog w "internal/strconv.uint64pow10" .u64 Lib.pow10Tab := by
  obtain ⟨⟨o, h1, h2⟩, _⟩ := h powB (by simp [Tabs.tab])
  obtain ⟨t, x, rfl⟩ := h2
  unfold Lib.TabIs World.var?
  rw [named_pow10]
  simp only [Option.bind_some]
  rw [h1]

theorem maxLen {w : World} {G : Gh} (h : Laid Tryd.prog w G) : ∃ m, w.cell? ⟨0, 0, none⟩ = some (.int .i64 m) := by
  obtain ⟨⟨o, h1, m, h2⟩, _⟩ := h maxB (by simp [Tabs.tab])
  exact ⟨m, h2 w h1⟩

/-- strconv.Itoa. -/
def strconv_Itoa (n : Int) : Option (List UInt8) := if -9223372036854775808 ≤ n ∧ n ≤ 9223372036854775807 then some (Lib.itoa n) else none

def strconv_Itoa_e : FEnt := ⟨5, [.tmp 2], [], [(.one, [.dat (.int .i64)])], ⟨7, [⟨2, .one, [.dat .str]⟩]⟩, fun d => strconv_Itoa d⟩

theorem strconv_Itoa_ok : FnOk Tryd.prog 50 strconv_Itoa_e := by
  refine fnOk_ext (args := [(.one, [.dat (.int .i64)])]) Tryd.func50 (by kernel_rfl) (by kernel_rfl) (by kernel_rfl) (by simp) (by omega) (fun _ => rfl) fun d b hT us w G hl hi hlaid => ?_
  obtain ⟨u, L, h1, h2, _⟩ := arg_dat (i := 0) (k := .int .i64) (x := d) (by simp [encA]) hl hi rfl
  have hu : u = .int .i64 d := by simpa [Rep] using h2
  subst hu
  have hus : us = [.int .i64 d] := by
    have : us.length = 1 := by rw [hl]; rfl
    match us, this with
    | [v], _ => simpa using h1
  subst hus
  simp only [strconv_Itoa] at hT
  split at hT
  · rename_i hr
    simp only [Option.some.injEq] at hT
    subst hT
    refine (Tryd.strconv_Itoa d hr.1 hr.2 w (tabIs hlaid)).mono ?_
    rintro e w' ⟨rfl, k, os, rfl⟩
    refine ⟨_, rfl, fun w2 => rfl, rfl, rfl, rfl, ?_, fun k hk => ?_⟩
    · simp [Go.Sort.grow, World.drewN]
    · simp only [Go.Sort.grow, World.drewN]
      rw [Array.getElem?_append_left hk]
  · simp at hT

/-- strings.Join. -/
def strings_Join : List (List UInt8) × List UInt8 → Option (List UInt8)
  | (l, sep) => if l.length ≤ 140737488355328 ∧ (Lib.join l sep).length ≤ 140737488355328 then some (Lib.join l sep) else none

def strings_Join_e : FEnt := ⟨75, [.tmp 4], [], [(.one, [.dat (.list .str)]), (.one, [.dat .str])], ⟨79, [⟨4, .one, [.dat .str]⟩]⟩, strings_Join⟩

theorem strings_Join_ok : FnOk Tryd.prog 47 strings_Join_e := by
  refine fnOk_ext (args := [(.one, [.dat (.list .str)]), (.one, [.dat .str])]) Tryd.func47 (by kernel_rfl) (by kernel_rfl) (by kernel_rfl) (by simp) (by omega) (fun _ => rfl) fun d b hT us w G hl hi hlaid => ?_
  obtain ⟨l, sep⟩ := d
  obtain ⟨u, L, h1, h2, _⟩ := arg_dat (i := 0) (k := .list .str) (x := l) (by simp [encA]) hl hi rfl
  obtain ⟨v, M, g1, g2, _⟩ := arg_dat (i := 1) (k := .str) (x := sep) (by simp [encA]) hl hi rfl
  have hv : v = .string ⟨⟨sep⟩⟩ := by simpa [Rep] using g2
  subst hv
  have hus : us = [u, .string ⟨⟨sep⟩⟩] := by
    have : us.length = 2 := by rw [hl]; rfl
    clear hi hl hT h2 g2
    match us, this with
    | [a, b], _ =>
      have e1 : a = u := by simpa using h1
      have e2 : b = .string ⟨⟨sep⟩⟩ := by simpa using g1
      rw [e1, e2]
  subst hus
  simp only [strings_Join] at hT
  split at hT
  · rename_i hr
    simp only [Option.some.injEq] at hT
    subst hT
    simp only [Rep] at h2
    obtain ⟨v, hv, hrep⟩ := h2
    obtain rfl : u = v := by simpa using hv
    unfold RepL at hrep
    rcases hrep with ⟨_, rfl, a, cap, rfl, _⟩ | ⟨b, off, cap, rows, _, rfl, hcap, hrl, hb, _, hrow⟩
    · refine (Tryd.strings_Join_none a cap ⟨⟨sep⟩⟩ w).mono ?_
      rintro e w' ⟨rfl, rfl⟩
      exact ⟨_, rfl, fun w2 => rfl, rfl, rfl, rfl, Nat.le_refl _, fun k hk => rfl⟩
    · have hmap : (l.map fun x => (⟨⟨x⟩⟩ : ByteArray)).map (·.data.toList) = l := by
        rw [List.map_map]
        exact List.map_id'' (fun x => rfl) l
      have hcells : ∀ (j : Nat) x, (l.map fun x => (⟨⟨x⟩⟩ : ByteArray))[j]? = some x → w.cell? ⟨b, off + j, none⟩ = some (.string x) := by
        intro j x hx
        simp only [List.getElem?_map] at hx
        cases hlj : l[j]? with
        | none => rw [hlj] at hx; simp at hx
        | some y =>
          rw [hlj] at hx
          simp only [Option.map_some, Option.some.injEq] at hx
          subst hx
          have hj : j < rows.length := by rw [hrl]; exact (List.getElem?_eq_some_iff.1 hlj).1
          obtain ⟨vs, hrw, hrp⟩ := hrow j y _ hlj (List.getElem?_eq_getElem hj)
          have hvs : vs = [.string ⟨⟨y⟩⟩] := by simpa [Rep] using hrp
          have := hrw 0 (.string ⟨⟨y⟩⟩) (by rw [hvs]; rfl)
          simpa [K.size] using this
      have hbk : b < w.heap.size := by
        rcases Nat.lt_or_ge b w.heap.size with g | g
        · exact g
        · exact absurd (by simp [g]) hb
      have hN : (l.map fun x => (⟨⟨x⟩⟩ : ByteArray)).length = l.length := List.length_map ..
      have key := Tryd.strings_Join b off cap (l.map fun x => (⟨⟨x⟩⟩ : ByteArray)) ⟨⟨sep⟩⟩ w hcells hbk (by rw [hN]; exact hr.1) (by rw [hN]; exact hcap) (by rw [hmap]; exact hr.2)
      rw [hmap, hN] at key
      refine key.mono ?_
      rintro e w' ⟨rfl, hbel⟩
      exact ⟨_, rfl, fun w2 => rfl, hbel⟩
  · simp at hT

/-- Texts in a new row. -/
theorem rep_strs (w : World) (q : List ByteArray) (ty : Nat) : Rep false (w.alloc (.cells (q.map Value.string).toArray ty)) (.list .str) (q.map (·.data.toList)) (.node w.heap.size 0 q.length (List.replicate q.length .leaf)) [.slice (some ⟨w.heap.size, 0, none⟩) q.length q.length] := by
  have hnew := heap_alloc_new w (.cells (q.map Value.string).toArray ty)
  refine ⟨_, rfl, .inr ⟨w.heap.size, 0, q.length, List.replicate q.length .leaf, rfl, by rw [List.length_map], by rw [List.length_map]; exact Nat.le_refl _, by rw [List.length_replicate, List.length_map], by rw [hnew]; exact Option.some_ne_none _, (fun h => by cases h), ?_⟩⟩
  intro i x r hx hrow
  rw [List.getElem?_map] at hx
  cases hqi : q[i]? with
  | none => rw [hqi] at hx; simp at hx
  | some y =>
    rw [hqi] at hx
    simp only [Option.map_some, Option.some.injEq] at hx
    subst hx
    refine ⟨[.string y], ?_, rfl⟩
    intro j v hj
    cases j with
    | zero =>
      simp only [List.getElem?_cons_zero, Option.some.injEq] at hj
      subst hj
      have e : (⟨w.heap.size, 0 + i * K.str.size + 0, none⟩ : Addr) = ⟨w.heap.size, i, none⟩ := by simp [K.size]
      rw [e]
      unfold World.cell?
      simp only [hnew]
      simp [hqi]
    | succ j => simp at hj

/-- strings.Split. -/
def strings_Split : List UInt8 × List UInt8 → Option (List (List UInt8))
  | (s, sep) => if 1 ≤ sep.length ∧ s.length < 4294967281 then some (Lib.splitK sep 0 (Lib.count s sep) s) else none

def strings_Split_e : FEnt := ⟨8, [.tmp 4], [], [(.one, [.dat .str]), (.one, [.dat .str])], ⟨12, [⟨4, .one, [.dat (.list .str)]⟩]⟩, strings_Split⟩

theorem strings_Split_ok : FnOk Tryd.prog 45 strings_Split_e := by
  refine fnOk_extL (args := [(.one, [.dat .str]), (.one, [.dat .str])]) Tryd.func45 (by kernel_rfl) (by kernel_rfl) (by kernel_rfl) (by simp) (by omega) fun d b hT us w G hl hi hlaid => ?_
  obtain ⟨s, sep⟩ := d
  obtain ⟨u, L, h1, h2, _⟩ := arg_dat (i := 0) (k := .str) (x := s) (by simp [encA]) hl hi rfl
  obtain ⟨v, M, g1, g2, _⟩ := arg_dat (i := 1) (k := .str) (x := sep) (by simp [encA]) hl hi rfl
  have hu : u = .string ⟨⟨s⟩⟩ := by simpa [Rep] using h2
  have hv : v = .string ⟨⟨sep⟩⟩ := by simpa [Rep] using g2
  subst hu hv
  have hus : us = [.string ⟨⟨s⟩⟩, .string ⟨⟨sep⟩⟩] := by
    have : us.length = 2 := by rw [hl]; rfl
    clear hi hl hT h2 g2
    match us, this with
    | [a, b], _ =>
      have e1 : a = .string ⟨⟨s⟩⟩ := by simpa using h1
      have e2 : b = .string ⟨⟨sep⟩⟩ := by simpa using g1
      rw [e1, e2]
  subst hus
  simp only [strings_Split] at hT
  split at hT
  · rename_i hr
    simp only [Option.some.injEq] at hT
    subst hT
    obtain ⟨m, hm⟩ := maxLen hlaid
    have hdata := Lib.splitB_data ⟨⟨sep⟩⟩ 0 (Lib.countB ⟨⟨s⟩⟩ ⟨⟨sep⟩⟩) ⟨⟨s⟩⟩
    have hcnt : Lib.countB ⟨⟨s⟩⟩ ⟨⟨sep⟩⟩ = Lib.count s sep := rfl
    have hlen : (Lib.splitB ⟨⟨sep⟩⟩ 0 (Lib.countB ⟨⟨s⟩⟩ ⟨⟨sep⟩⟩) ⟨⟨s⟩⟩).length = Lib.countB ⟨⟨s⟩⟩ ⟨⟨sep⟩⟩ + 1 := Lib.splitB_all ⟨⟨sep⟩⟩ hr.1 0 _ ⟨⟨s⟩⟩ rfl
    generalize hq : Lib.splitB ⟨⟨sep⟩⟩ 0 (Lib.countB ⟨⟨s⟩⟩ ⟨⟨sep⟩⟩) ⟨⟨s⟩⟩ = q at hdata hlen
    have hdata' : q.map (·.data.toList) = Lib.splitK sep 0 (Lib.count s sep) s := by rw [hdata, hcnt]
    rw [← hdata']
    refine (Tryd.strings_Split ⟨⟨s⟩⟩ ⟨⟨sep⟩⟩ m w hr.2 hm hr.1).mono ?_
    rintro e w' ⟨rfl, rfl⟩
    rw [hq, ← hlen]
    refine ⟨_, _, rfl, rep_strs w q 9, ?_, Below.alloc (Below.refl _ _) (Nat.le_refl _) _⟩
    intro b' hb'
    have hb2 : b' ∈ w.heap.size :: (List.replicate q.length (LT.leaf)).flatMap (fp .str) := hb'
    simp only [List.mem_cons, List.mem_flatMap] at hb2
    rcases hb2 with rfl | ⟨x, _, hx⟩
    · exact Nat.le_refl _
    · simp [fp] at hx
  · simp at hT

end Go.Proofs.YtmlbgldofgobnaaDoor.Tw
