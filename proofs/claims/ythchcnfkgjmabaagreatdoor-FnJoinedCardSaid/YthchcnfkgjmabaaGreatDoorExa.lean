/- Functions of the library that the laws meet, by the shelf's contracts: strconv.Itoa, strings.Join. No condition: lemmas. -/
import Derived.Test.YthchcnfkgjmabaaGreatDoorXI
import Derived.Test.YthchcnfkgjmabaaGreatDoorShelf
import Derived.Lib.ItoaNum
import Derived.Lib.Join
import Derived.Lib.SplitLaws
import Derived.Below
import Derived.KernelRfl
namespace Go.Proofs.YthchcnfkgjmabaaGreatDoor.Tw
open Go.Mach Go.RowKit
set_option linter.unusedVariables false
set_option maxRecDepth 100000

/-- The table of powers of ten, where it lies. -/
abbrev powB : Nat × (Obj → Prop) := (1, fun o => ∃ t x, o = .cells (Lib.pow10Tab.map fun z => Value.int .u64 z).toArray t x)
instance tabs : Tabs Tryz.prog := ⟨[powB]⟩

theorem named_pow10 : Tryz.prog.globalNamed "internal/strconv.uint64pow10" = some 1 := by kernel_rfl

theorem tabIs {w : World} {G : Gh} (h : Laid Tryz.prog w G) : Lib.TabIs Tryz.prog w "internal/strconv.uint64pow10" .u64 Lib.pow10Tab := by
  obtain ⟨⟨o, h1, h2⟩, _⟩ := h powB (by simp [Tabs.tab])
  obtain ⟨t, x, rfl⟩ := h2
  unfold Lib.TabIs World.var?
  rw [named_pow10]
  simp only [Option.bind_some]
  rw [h1]

/-- strconv.Itoa. -/
def strconv_Itoa (n : Int) : Option (List UInt8) := if -9223372036854775808 ≤ n ∧ n ≤ 9223372036854775807 then some (Lib.itoa n) else none

def strconv_Itoa_e : FEnt := ⟨5, [.tmp 2], [], [(.one, [.dat (.int .i64)])], ⟨7, [⟨2, .one, [.dat .str]⟩]⟩, fun d => strconv_Itoa d⟩

theorem strconv_Itoa_ok : FnOk Tryz.prog 54 strconv_Itoa_e := by
  refine fnOk_ext (args := [(.one, [.dat (.int .i64)])]) Tryz.func54 (by kernel_rfl) (by kernel_rfl) (by kernel_rfl) (by simp) (by omega) (fun _ => rfl) fun d b hT us w G hl hi hlaid => ?_
  obtain ⟨u, L, h1, h2, _⟩ := arg_dat (i := 0) (k := .int .i64) (x := d) (by simp [encA]) hl hi rfl
  have hu : u = .int .i64 d := by simpa [Rep] using h2
  subst hu
  have hus : us = [.int .i64 d] := by
    have : us.length = 1 := by rw [hl]; rfl
    match us, this with
    | [v], _ => simpa using h1
  subst hus
  simp only [strconv_Itoa] at hT
  split at hT
  · rename_i hr
    simp only [Option.some.injEq] at hT
    subst hT
    refine (Tryz.strconv_Itoa d hr.1 hr.2 w (tabIs hlaid)).mono ?_
    rintro e w' ⟨rfl, k, os, rfl⟩
    refine ⟨_, rfl, fun w2 => rfl, rfl, rfl, rfl, ?_, fun k hk => ?_⟩
    · simp [Go.Sort.grow, World.drewN]
    · simp only [Go.Sort.grow, World.drewN]
      rw [Array.getElem?_append_left hk]
  · simp at hT

/-- strings.Join. -/
def strings_Join : List (List UInt8) × List UInt8 → Option (List UInt8)
  | (l, sep) => if l.length ≤ 140737488355328 ∧ (Lib.join l sep).length ≤ 140737488355328 then some (Lib.join l sep) else none

def strings_Join_e : FEnt := ⟨75, [.tmp 4], [], [(.one, [.dat (.list .str)]), (.one, [.dat .str])], ⟨79, [⟨4, .one, [.dat .str]⟩]⟩, strings_Join⟩

theorem strings_Join_ok : FnOk Tryz.prog 31 strings_Join_e := by
  refine fnOk_ext (args := [(.one, [.dat (.list .str)]), (.one, [.dat .str])]) Tryz.func31 (by kernel_rfl) (by kernel_rfl) (by kernel_rfl) (by simp) (by omega) (fun _ => rfl) fun d b hT us w G hl hi hlaid => ?_
  obtain ⟨l, sep⟩ := d
  obtain ⟨u, L, h1, h2, _⟩ := arg_dat (i := 0) (k := .list .str) (x := l) (by simp [encA]) hl hi rfl
  obtain ⟨v, M, g1, g2, _⟩ := arg_dat (i := 1) (k := .str) (x := sep) (by simp [encA]) hl hi rfl
  have hv : v = .string ⟨⟨sep⟩⟩ := by simpa [Rep] using g2
  subst hv
  have hus : us = [u, .string ⟨⟨sep⟩⟩] := by
    have : us.length = 2 := by rw [hl]; rfl
    clear hi hl hT h2 g2
    match us, this with
    | [a, b], _ =>
      have e1 : a = u := by simpa using h1
      have e2 : b = .string ⟨⟨sep⟩⟩ := by simpa using g1
      rw [e1, e2]
  subst hus
  simp only [strings_Join] at hT
  split at hT
  · rename_i hr
    simp only [Option.some.injEq] at hT
    subst hT
    simp only [Rep] at h2
    obtain ⟨v, hv, hrep⟩ := h2
    obtain rfl : u = v := by simpa using hv
    unfold RepL at hrep
    rcases hrep with ⟨_, rfl, a, cap, rfl, _⟩ | ⟨b, off, cap, rows, _, rfl, hcap, hrl, hb, _, hrow⟩
    · refine (Tryz.strings_Join_none a cap ⟨⟨sep⟩⟩ w).mono ?_
      rintro e w' ⟨rfl, rfl⟩
      exact ⟨_, rfl, fun w2 => rfl, rfl, rfl, rfl, Nat.le_refl _, fun k hk => rfl⟩
    · have hmap : (l.map fun x => (⟨⟨x⟩⟩ : ByteArray)).map (·.data.toList) = l := by
        rw [List.map_map]
        exact List.map_id'' (fun x => rfl) l
      have hcells : ∀ (j : Nat) x, (l.map fun x => (⟨⟨x⟩⟩ : ByteArray))[j]? = some x → w.cell? ⟨b, off + j, none⟩ = some (.string x) := by
        intro j x hx
        simp only [List.getElem?_map] at hx
        cases hlj : l[j]? with
        | none => rw [hlj] at hx; simp at hx
        | some y =>
          rw [hlj] at hx
          simp only [Option.map_some, Option.some.injEq] at hx
          subst hx
          have hj : j < rows.length := by rw [hrl]; exact (List.getElem?_eq_some_iff.1 hlj).1
          obtain ⟨vs, hrw, hrp⟩ := hrow j y _ hlj (List.getElem?_eq_getElem hj)
          have hvs : vs = [.string ⟨⟨y⟩⟩] := by simpa [Rep] using hrp
          have := hrw 0 (.string ⟨⟨y⟩⟩) (by rw [hvs]; rfl)
          simpa [K.size] using this
      have hbk : b < w.heap.size := by
        rcases Nat.lt_or_ge b w.heap.size with g | g
        · exact g
        · exact absurd (by simp [g]) hb
      have hN : (l.map fun x => (⟨⟨x⟩⟩ : ByteArray)).length = l.length := List.length_map ..
      have key := Tryz.strings_Join b off cap (l.map fun x => (⟨⟨x⟩⟩ : ByteArray)) ⟨⟨sep⟩⟩ w hcells hbk (by rw [hN]; exact hr.1) (by rw [hN]; exact hcap) (by rw [hmap]; exact hr.2)
      rw [hmap, hN] at key
      refine key.mono ?_
      rintro e w' ⟨rfl, hbel⟩
      exact ⟨_, rfl, fun w2 => rfl, hbel⟩
  · simp at hT

end Go.Proofs.YthchcnfkgjmabaaGreatDoor.Tw
