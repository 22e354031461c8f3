/-
  No cell of these rows narrows 'for every input' (looked for: loops, veiled, ifaces, maps, wideKeys, modest, calm, conditions, laid).
  DERIVED. THE GIVEN ROWS OF THIS SEAT. 4 by the template 'for every input the law returns true; each argument reads behind the call as it read before'; 0 by the template 'total and deterministic' (their statements: YtppjdpcmaipoaaaGreatTotals.lean).
  GIVEN WITH THE SEED: the statements are not yours to turn. If you find one false, say at which input.
  Laid BY PROGRAM, IN A SANDBOX (cutbox-rows.mjs): the forced cells as the released guide's own fill.sh prints them over the translation 532a5400b2a36b10… (all of the seat's roots in one cut). By AI agents, Wed Nov 11 2026. No macro, syntax, notation, axiom, sorry.
-/
import Derived.Test.YtppjdpcmaipoaaaGreatChecked
import GoSem.Claim
import GoSem.ClaimJoined
import GoSem.ClaimMapViews
import Derived.JoinedTies
import Derived.KernelRfl
namespace Go.Proofs.YtppjdpcmaipoaaaGreat
/- THE CELL 'sum', in the pinned program and in every row, IS THE sha256 OF THE DUMP (.gsa) THAT YtppjdpcmaipoaaaGreatProg.lean LOADS. Nothing in Lean hashes anything: it is a label: what it is worth is what the hold of that sum in a sandbox is worth. -/
noncomputable def Tryz.pinned : Pinned := { name := "ytppjdpcmaipoaaagreat", sum := "532a5400b2a36b1035a7c7bb9631820951ee84fb1d99417f0119ede246be0b20", checked := Tryz.checked }
namespace Rows
def none {H : Type} : Left H := { results := [], args := [] }

/-- 'laws.FnKept': WHATEVER THE INPUT: true; the input reads as it did. -/
def fnKeptSpec : ChangeSpec := { name := "fnKept", fn := fun _ => fun
  | [d] => { results := [.lit (.bool true)], args := [d] }
  | _ => none }
def fnKeptRow : OpenClaim := { program := "ytppjdpcmaipoaaagreat", sum := "532a5400b2a36b1035a7c7bb9631820951ee84fb1d99417f0119ede246be0b20", func := "loop.example/g00491/laws.FnKept", spec := "fnKept", apart := false }
def FnKeptSaid : Prop := fnKeptRow.holds Tryz.pinned (OpenSpec.ofChange fnKeptSpec)

/-- ITS FALSE NEIGHBOUR: 'it returns false'. Refute it at one input. -/
def fnKeptWrong : ChangeSpec := { name := "fnKept", fn := fun _ => fun
  | [d] => { results := [.lit (.bool false)], args := [d] }
  | _ => none }
def FnKeptWrongFalsely : Prop := fnKeptRow.holds Tryz.pinned (OpenSpec.ofChange fnKeptWrong)

/-- 'laws.FnTotals': WHATEVER THE INPUT: true; the input reads as it did. -/
def fnTotalsSpec : ChangeSpec := { name := "fnTotals", fn := fun _ => fun
  | [d] => { results := [.lit (.bool true)], args := [d] }
  | _ => none }
def fnTotalsRow : OpenClaim := { program := "ytppjdpcmaipoaaagreat", sum := "532a5400b2a36b1035a7c7bb9631820951ee84fb1d99417f0119ede246be0b20", func := "loop.example/g00491/laws.FnTotals", spec := "fnTotals", unfollowed := true, recurses := true, apart := false }
def FnTotalsSaid : Prop := fnTotalsRow.holds Tryz.pinned (OpenSpec.ofChange fnTotalsSpec)

/-- ITS FALSE NEIGHBOUR: 'it returns false'. Refute it at one input. -/
def fnTotalsWrong : ChangeSpec := { name := "fnTotals", fn := fun _ => fun
  | [d] => { results := [.lit (.bool false)], args := [d] }
  | _ => none }
def FnTotalsWrongFalsely : Prop := fnTotalsRow.holds Tryz.pinned (OpenSpec.ofChange fnTotalsWrong)

/-- 'laws.FnBusiest': WHATEVER THE INPUT: true; the input reads as it did. -/
def fnBusiestSpec : ChangeSpec := { name := "fnBusiest", fn := fun _ => fun
  | [d] => { results := [.lit (.bool true)], args := [d] }
  | _ => none }
def fnBusiestRow : OpenClaim := { program := "ytppjdpcmaipoaaagreat", sum := "532a5400b2a36b1035a7c7bb9631820951ee84fb1d99417f0119ede246be0b20", func := "loop.example/g00491/laws.FnBusiest", spec := "fnBusiest", unfollowed := true, recurses := true, apart := false }
def FnBusiestSaid : Prop := fnBusiestRow.holds Tryz.pinned (OpenSpec.ofChange fnBusiestSpec)

/-- ITS FALSE NEIGHBOUR: 'it returns false'. Refute it at one input. -/
def fnBusiestWrong : ChangeSpec := { name := "fnBusiest", fn := fun _ => fun
  | [d] => { results := [.lit (.bool false)], args := [d] }
  | _ => none }
def FnBusiestWrongFalsely : Prop := fnBusiestRow.holds Tryz.pinned (OpenSpec.ofChange fnBusiestWrong)

/-- 'laws.FnAskedParts': WHATEVER THE INPUT: true; the input reads as it did. -/
def fnAskedPartsSpec : ChangeSpec := { name := "fnAskedParts", fn := fun _ => fun
  | [d] => { results := [.lit (.bool true)], args := [d] }
  | _ => none }
def fnAskedPartsRow : OpenClaim := { program := "ytppjdpcmaipoaaagreat", sum := "532a5400b2a36b1035a7c7bb9631820951ee84fb1d99417f0119ede246be0b20", func := "loop.example/g00491/laws.FnAskedParts", spec := "fnAskedParts", unfollowed := true, recurses := true, apart := false }
def FnAskedPartsSaid : Prop := fnAskedPartsRow.holds Tryz.pinned (OpenSpec.ofChange fnAskedPartsSpec)

/-- ITS FALSE NEIGHBOUR: 'it returns false'. Refute it at one input. -/
def fnAskedPartsWrong : ChangeSpec := { name := "fnAskedParts", fn := fun _ => fun
  | [d] => { results := [.lit (.bool false)], args := [d] }
  | _ => none }
def FnAskedPartsWrongFalsely : Prop := fnAskedPartsRow.holds Tryz.pinned (OpenSpec.ofChange fnAskedPartsWrong)

/- THE SECOND FORM. 'bulk': how many values and letters a reading holds, each counted each time it is reached (what is shared counts as often as it is met; a slice's spare places count too). A statement '..UptoSaid' is the law's where the arguments, and the package variables that the reading takes, are together of bulk at most 1048576: NARROWER than '..Said'. Prove '..Said' where nothing that the law and all that it calls make is longer than what came in: it says more and counts as full. Else prove '..UptoSaid'. A law counts once. -/
mutual
def uptoBulk {H : Type} : DataW H → Nat
  | .lit (.string bytes) => bytes.length + 1
  | .lit _ => 1
  | .nil => 1
  | .ptr d => uptoBulk d + 1
  | .slice elems spare => uptoBulkAll elems + uptoBulkAll spare + 1
  | .agg parts => uptoBulkAll parts + 1
  | .iface _ d => uptoBulk d + 1
  | .map entries => uptoBulkEntries entries + 1
  | .held _ => 1
def uptoBulkAll {H : Type} : List (DataW H) → Nat
  | [] => 0
  | d :: r => uptoBulk d + uptoBulkAll r
def uptoBulkEntries {H : Type} : List (Lit × DataW H) → Nat
  | [] => 0
  | x :: r => uptoBulkEntry x + uptoBulkEntries r
def uptoBulkEntry {H : Type} : Lit × DataW H → Nat
  | (.string bytes, d) => bytes.length + uptoBulk d + 1
  | (_, d) => uptoBulk d + 1
 end
def uptoSmall : (H : Type) → List (DataW H) → Bool := fun _ ds => decide (uptoBulkAll ds ≤ 1048576)
def OpenSpec.upto (s : _root_.Go.ChangeSpec) : _root_.Go.OpenSpec := { _root_.Go.OpenSpec.ofChange s with cond := some uptoSmall }

/-- 'laws.FnKept', WHERE WHAT IT READS IS OF BULK AT MOST 1048576: true; the input reads as it did. -/
def fnKeptUptoRow : OpenClaim := { program := "ytppjdpcmaipoaaagreat", sum := "532a5400b2a36b1035a7c7bb9631820951ee84fb1d99417f0119ede246be0b20", func := "loop.example/g00491/laws.FnKept", spec := "fnKept", apart := false, narrowed := true }
def FnKeptUptoSaid : Prop := fnKeptUptoRow.holds Tryz.pinned (OpenSpec.upto fnKeptSpec)

/-- 'laws.FnTotals', WHERE WHAT IT READS IS OF BULK AT MOST 1048576: true; the input reads as it did. -/
def fnTotalsUptoRow : OpenClaim := { program := "ytppjdpcmaipoaaagreat", sum := "532a5400b2a36b1035a7c7bb9631820951ee84fb1d99417f0119ede246be0b20", func := "loop.example/g00491/laws.FnTotals", spec := "fnTotals", unfollowed := true, recurses := true, apart := false, narrowed := true }
def FnTotalsUptoSaid : Prop := fnTotalsUptoRow.holds Tryz.pinned (OpenSpec.upto fnTotalsSpec)

/-- 'laws.FnBusiest', WHERE WHAT IT READS IS OF BULK AT MOST 1048576: true; the input reads as it did. -/
def fnBusiestUptoRow : OpenClaim := { program := "ytppjdpcmaipoaaagreat", sum := "532a5400b2a36b1035a7c7bb9631820951ee84fb1d99417f0119ede246be0b20", func := "loop.example/g00491/laws.FnBusiest", spec := "fnBusiest", unfollowed := true, recurses := true, apart := false, narrowed := true }
def FnBusiestUptoSaid : Prop := fnBusiestUptoRow.holds Tryz.pinned (OpenSpec.upto fnBusiestSpec)

/-- 'laws.FnAskedParts', WHERE WHAT IT READS IS OF BULK AT MOST 1048576: true; the input reads as it did. -/
def fnAskedPartsUptoRow : OpenClaim := { program := "ytppjdpcmaipoaaagreat", sum := "532a5400b2a36b1035a7c7bb9631820951ee84fb1d99417f0119ede246be0b20", func := "loop.example/g00491/laws.FnAskedParts", spec := "fnAskedParts", unfollowed := true, recurses := true, apart := false, narrowed := true }
def FnAskedPartsUptoSaid : Prop := fnAskedPartsUptoRow.holds Tryz.pinned (OpenSpec.upto fnAskedPartsSpec)

end Rows
end Go.Proofs.YtppjdpcmaipoaaaGreat
