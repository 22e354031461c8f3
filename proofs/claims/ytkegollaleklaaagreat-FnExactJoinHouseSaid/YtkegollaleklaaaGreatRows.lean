/-
  No cell of these rows narrows 'for every input' (looked for: loops, veiled, ifaces, maps, wideKeys, modest, calm, conditions, laid).
  DERIVED. THE GIVEN ROWS OF THIS SEAT. 8 by the template 'for every input the law returns true; each argument reads behind the call as it read before'; 0 by the template 'total and deterministic' (their statements: YtkegollaleklaaaGreatTotals.lean).
  GIVEN WITH THE SEED: the statements are not yours to turn. If you find one false, say at which input.
  Laid BY PROGRAM, IN A SANDBOX (cutbox-rows.mjs): the forced cells as the released guide's own fill.sh prints them over the translation f2c2b2f5aeba6746… (all of the seat's roots in one cut). By AI agents, Wed Nov 11 2026. No macro, syntax, notation, axiom, sorry.
-/
import Derived.Test.YtkegollaleklaaaGreatChecked
import GoSem.Claim
import GoSem.ClaimJoined
import GoSem.ClaimMapViews
import Derived.JoinedTies
import Derived.KernelRfl
namespace Go.Proofs.YtkegollaleklaaaGreat
/- THE CELL 'sum', in the pinned program and in every row, IS THE sha256 OF THE DUMP (.gsa) THAT YtkegollaleklaaaGreatProg.lean LOADS. Nothing in Lean hashes anything: it is a label: what it is worth is what the hold of that sum in a sandbox is worth. -/
noncomputable def Tryz.pinned : Pinned := { name := "ytkegollaleklaaagreat", sum := "f2c2b2f5aeba6746bdd637ed1d404522a89426cc67cdfa3a805e110093183cc7", checked := Tryz.checked }
namespace Rows
def none {H : Type} : Left H := { results := [], args := [] }

/-- 'laws.FnExactJoinRow': WHATEVER THE INPUT: true; the input reads as it did. -/
def fnExactJoinRowSpec : ChangeSpec := { name := "fnExactJoinRow", fn := fun _ => fun
  | [d] => { results := [.lit (.bool true)], args := [d] }
  | _ => none }
def fnExactJoinRowRow : OpenClaim := { program := "ytkegollaleklaaagreat", sum := "f2c2b2f5aeba6746bdd637ed1d404522a89426cc67cdfa3a805e110093183cc7", func := "loop.example/g00491/laws.FnExactJoinRow", spec := "fnExactJoinRow", unfollowed := true, recurses := true, apart := false }
def FnExactJoinRowSaid : Prop := fnExactJoinRowRow.holds Tryz.pinned (OpenSpec.ofChange fnExactJoinRowSpec)

/-- ITS FALSE NEIGHBOUR: 'it returns false'. Refute it at one input. -/
def fnExactJoinRowWrong : ChangeSpec := { name := "fnExactJoinRow", fn := fun _ => fun
  | [d] => { results := [.lit (.bool false)], args := [d] }
  | _ => none }
def FnExactJoinRowWrongFalsely : Prop := fnExactJoinRowRow.holds Tryz.pinned (OpenSpec.ofChange fnExactJoinRowWrong)

/-- 'laws.FnExactLate': WHATEVER THE INPUT: true; the input reads as it did. -/
def fnExactLateSpec : ChangeSpec := { name := "fnExactLate", fn := fun _ => fun
  | [d] => { results := [.lit (.bool true)], args := [d] }
  | _ => none }
def fnExactLateRow : OpenClaim := { program := "ytkegollaleklaaagreat", sum := "f2c2b2f5aeba6746bdd637ed1d404522a89426cc67cdfa3a805e110093183cc7", func := "loop.example/g00491/laws.FnExactLate", spec := "fnExactLate", unfollowed := true, recurses := true, apart := false }
def FnExactLateSaid : Prop := fnExactLateRow.holds Tryz.pinned (OpenSpec.ofChange fnExactLateSpec)

/-- ITS FALSE NEIGHBOUR: 'it returns false'. Refute it at one input. -/
def fnExactLateWrong : ChangeSpec := { name := "fnExactLate", fn := fun _ => fun
  | [d] => { results := [.lit (.bool false)], args := [d] }
  | _ => none }
def FnExactLateWrongFalsely : Prop := fnExactLateRow.holds Tryz.pinned (OpenSpec.ofChange fnExactLateWrong)

/-- 'laws.FnExactBusiest': WHATEVER THE INPUT: true; the input reads as it did. -/
def fnExactBusiestSpec : ChangeSpec := { name := "fnExactBusiest", fn := fun _ => fun
  | [d] => { results := [.lit (.bool true)], args := [d] }
  | _ => none }
def fnExactBusiestRow : OpenClaim := { program := "ytkegollaleklaaagreat", sum := "f2c2b2f5aeba6746bdd637ed1d404522a89426cc67cdfa3a805e110093183cc7", func := "loop.example/g00491/laws.FnExactBusiest", spec := "fnExactBusiest", unfollowed := true, recurses := true, apart := false }
def FnExactBusiestSaid : Prop := fnExactBusiestRow.holds Tryz.pinned (OpenSpec.ofChange fnExactBusiestSpec)

/-- ITS FALSE NEIGHBOUR: 'it returns false'. Refute it at one input. -/
def fnExactBusiestWrong : ChangeSpec := { name := "fnExactBusiest", fn := fun _ => fun
  | [d] => { results := [.lit (.bool false)], args := [d] }
  | _ => none }
def FnExactBusiestWrongFalsely : Prop := fnExactBusiestRow.holds Tryz.pinned (OpenSpec.ofChange fnExactBusiestWrong)

/-- 'laws.FnExactWindows': WHATEVER THE INPUT: true; the input reads as it did. -/
def fnExactWindowsSpec : ChangeSpec := { name := "fnExactWindows", fn := fun _ => fun
  | [d1, d2] => { results := [.lit (.bool true)], args := [d1, d2] }
  | _ => none }
def fnExactWindowsRow : OpenClaim := { program := "ytkegollaleklaaagreat", sum := "f2c2b2f5aeba6746bdd637ed1d404522a89426cc67cdfa3a805e110093183cc7", func := "loop.example/g00491/laws.FnExactWindows", spec := "fnExactWindows", unfollowed := true, recurses := true, apart := false }
def FnExactWindowsSaid : Prop := fnExactWindowsRow.holds Tryz.pinned (OpenSpec.ofChange fnExactWindowsSpec)

/-- ITS FALSE NEIGHBOUR: 'it returns false'. Refute it at one input. -/
def fnExactWindowsWrong : ChangeSpec := { name := "fnExactWindows", fn := fun _ => fun
  | [d1, d2] => { results := [.lit (.bool false)], args := [d1, d2] }
  | _ => none }
def FnExactWindowsWrongFalsely : Prop := fnExactWindowsRow.holds Tryz.pinned (OpenSpec.ofChange fnExactWindowsWrong)

/-- 'laws.FnExactStats': WHATEVER THE INPUT: true; the input reads as it did. -/
def fnExactStatsSpec : ChangeSpec := { name := "fnExactStats", fn := fun _ => fun
  | [d] => { results := [.lit (.bool true)], args := [d] }
  | _ => none }
def fnExactStatsRow : OpenClaim := { program := "ytkegollaleklaaagreat", sum := "f2c2b2f5aeba6746bdd637ed1d404522a89426cc67cdfa3a805e110093183cc7", func := "loop.example/g00491/laws.FnExactStats", spec := "fnExactStats", unfollowed := true, recurses := true, apart := false }
def FnExactStatsSaid : Prop := fnExactStatsRow.holds Tryz.pinned (OpenSpec.ofChange fnExactStatsSpec)

/-- ITS FALSE NEIGHBOUR: 'it returns false'. Refute it at one input. -/
def fnExactStatsWrong : ChangeSpec := { name := "fnExactStats", fn := fun _ => fun
  | [d] => { results := [.lit (.bool false)], args := [d] }
  | _ => none }
def FnExactStatsWrongFalsely : Prop := fnExactStatsRow.holds Tryz.pinned (OpenSpec.ofChange fnExactStatsWrong)

/-- 'laws.FnExactKeyTotal': WHATEVER THE INPUT: true; the input reads as it did. -/
def fnExactKeyTotalSpec : ChangeSpec := { name := "fnExactKeyTotal", fn := fun _ => fun
  | [d1, d2, d3, d4] => { results := [.lit (.bool true)], args := [d1, d2, d3, d4] }
  | _ => none }
def fnExactKeyTotalRow : OpenClaim := { program := "ytkegollaleklaaagreat", sum := "f2c2b2f5aeba6746bdd637ed1d404522a89426cc67cdfa3a805e110093183cc7", func := "loop.example/g00491/laws.FnExactKeyTotal", spec := "fnExactKeyTotal", unfollowed := true, recurses := true, apart := false }
def FnExactKeyTotalSaid : Prop := fnExactKeyTotalRow.holds Tryz.pinned (OpenSpec.ofChange fnExactKeyTotalSpec)

/-- ITS FALSE NEIGHBOUR: 'it returns false'. Refute it at one input. -/
def fnExactKeyTotalWrong : ChangeSpec := { name := "fnExactKeyTotal", fn := fun _ => fun
  | [d1, d2, d3, d4] => { results := [.lit (.bool false)], args := [d1, d2, d3, d4] }
  | _ => none }
def FnExactKeyTotalWrongFalsely : Prop := fnExactKeyTotalRow.holds Tryz.pinned (OpenSpec.ofChange fnExactKeyTotalWrong)

/-- 'laws.FnExactSaved': WHATEVER THE INPUT: true; the input reads as it did. -/
def fnExactSavedSpec : ChangeSpec := { name := "fnExactSaved", fn := fun _ => fun
  | [d] => { results := [.lit (.bool true)], args := [d] }
  | _ => none }
def fnExactSavedRow : OpenClaim := { program := "ytkegollaleklaaagreat", sum := "f2c2b2f5aeba6746bdd637ed1d404522a89426cc67cdfa3a805e110093183cc7", func := "loop.example/g00491/laws.FnExactSaved", spec := "fnExactSaved", unfollowed := true, recurses := true, apart := false }
def FnExactSavedSaid : Prop := fnExactSavedRow.holds Tryz.pinned (OpenSpec.ofChange fnExactSavedSpec)

/-- ITS FALSE NEIGHBOUR: 'it returns false'. Refute it at one input. -/
def fnExactSavedWrong : ChangeSpec := { name := "fnExactSaved", fn := fun _ => fun
  | [d] => { results := [.lit (.bool false)], args := [d] }
  | _ => none }
def FnExactSavedWrongFalsely : Prop := fnExactSavedRow.holds Tryz.pinned (OpenSpec.ofChange fnExactSavedWrong)

/-- 'laws.FnExactJoinHouse': WHATEVER THE INPUT: true; the input reads as it did. -/
def fnExactJoinHouseSpec : ChangeSpec := { name := "fnExactJoinHouse", fn := fun _ => fun
  | [d] => { results := [.lit (.bool true)], args := [d] }
  | _ => none }
def fnExactJoinHouseRow : OpenClaim := { program := "ytkegollaleklaaagreat", sum := "f2c2b2f5aeba6746bdd637ed1d404522a89426cc67cdfa3a805e110093183cc7", func := "loop.example/g00491/laws.FnExactJoinHouse", spec := "fnExactJoinHouse", unfollowed := true, recurses := true, apart := false }
def FnExactJoinHouseSaid : Prop := fnExactJoinHouseRow.holds Tryz.pinned (OpenSpec.ofChange fnExactJoinHouseSpec)

/-- ITS FALSE NEIGHBOUR: 'it returns false'. Refute it at one input. -/
def fnExactJoinHouseWrong : ChangeSpec := { name := "fnExactJoinHouse", fn := fun _ => fun
  | [d] => { results := [.lit (.bool false)], args := [d] }
  | _ => none }
def FnExactJoinHouseWrongFalsely : Prop := fnExactJoinHouseRow.holds Tryz.pinned (OpenSpec.ofChange fnExactJoinHouseWrong)

/- THE SECOND FORM. 'bulk': how many values and letters a reading holds, each counted each time it is reached (what is shared counts as often as it is met; a slice's spare places count too). A statement '..UptoSaid' is the law's where the arguments, and the package variables that the reading takes, are together of bulk at most 1048576: NARROWER than '..Said'. Prove '..Said' where nothing that the law and all that it calls make is longer than what came in: it says more and counts as full. Else prove '..UptoSaid'. A law counts once. -/
mutual
def uptoBulk {H : Type} : DataW H → Nat
  | .lit (.string bytes) => bytes.length + 1
  | .lit _ => 1
  | .nil => 1
  | .ptr d => uptoBulk d + 1
  | .slice elems spare => uptoBulkAll elems + uptoBulkAll spare + 1
  | .agg parts => uptoBulkAll parts + 1
  | .iface _ d => uptoBulk d + 1
  | .map entries => uptoBulkEntries entries + 1
  | .held _ => 1
def uptoBulkAll {H : Type} : List (DataW H) → Nat
  | [] => 0
  | d :: r => uptoBulk d + uptoBulkAll r
def uptoBulkEntries {H : Type} : List (Lit × DataW H) → Nat
  | [] => 0
  | x :: r => uptoBulkEntry x + uptoBulkEntries r
def uptoBulkEntry {H : Type} : Lit × DataW H → Nat
  | (.string bytes, d) => bytes.length + uptoBulk d + 1
  | (_, d) => uptoBulk d + 1
 end
def uptoSmall : (H : Type) → List (DataW H) → Bool := fun _ ds => decide (uptoBulkAll ds ≤ 1048576)
def OpenSpec.upto (s : _root_.Go.ChangeSpec) : _root_.Go.OpenSpec := { _root_.Go.OpenSpec.ofChange s with cond := some uptoSmall }

/-- 'laws.FnExactJoinRow', WHERE WHAT IT READS IS OF BULK AT MOST 1048576: true; the input reads as it did. -/
def fnExactJoinRowUptoRow : OpenClaim := { program := "ytkegollaleklaaagreat", sum := "f2c2b2f5aeba6746bdd637ed1d404522a89426cc67cdfa3a805e110093183cc7", func := "loop.example/g00491/laws.FnExactJoinRow", spec := "fnExactJoinRow", unfollowed := true, recurses := true, apart := false, narrowed := true }
def FnExactJoinRowUptoSaid : Prop := fnExactJoinRowUptoRow.holds Tryz.pinned (OpenSpec.upto fnExactJoinRowSpec)

/-- 'laws.FnExactLate', WHERE WHAT IT READS IS OF BULK AT MOST 1048576: true; the input reads as it did. -/
def fnExactLateUptoRow : OpenClaim := { program := "ytkegollaleklaaagreat", sum := "f2c2b2f5aeba6746bdd637ed1d404522a89426cc67cdfa3a805e110093183cc7", func := "loop.example/g00491/laws.FnExactLate", spec := "fnExactLate", unfollowed := true, recurses := true, apart := false, narrowed := true }
def FnExactLateUptoSaid : Prop := fnExactLateUptoRow.holds Tryz.pinned (OpenSpec.upto fnExactLateSpec)

/-- 'laws.FnExactBusiest', WHERE WHAT IT READS IS OF BULK AT MOST 1048576: true; the input reads as it did. -/
def fnExactBusiestUptoRow : OpenClaim := { program := "ytkegollaleklaaagreat", sum := "f2c2b2f5aeba6746bdd637ed1d404522a89426cc67cdfa3a805e110093183cc7", func := "loop.example/g00491/laws.FnExactBusiest", spec := "fnExactBusiest", unfollowed := true, recurses := true, apart := false, narrowed := true }
def FnExactBusiestUptoSaid : Prop := fnExactBusiestUptoRow.holds Tryz.pinned (OpenSpec.upto fnExactBusiestSpec)

/-- 'laws.FnExactWindows', WHERE WHAT IT READS IS OF BULK AT MOST 1048576: true; the input reads as it did. -/
def fnExactWindowsUptoRow : OpenClaim := { program := "ytkegollaleklaaagreat", sum := "f2c2b2f5aeba6746bdd637ed1d404522a89426cc67cdfa3a805e110093183cc7", func := "loop.example/g00491/laws.FnExactWindows", spec := "fnExactWindows", unfollowed := true, recurses := true, apart := false, narrowed := true }
def FnExactWindowsUptoSaid : Prop := fnExactWindowsUptoRow.holds Tryz.pinned (OpenSpec.upto fnExactWindowsSpec)

/-- 'laws.FnExactStats', WHERE WHAT IT READS IS OF BULK AT MOST 1048576: true; the input reads as it did. -/
def fnExactStatsUptoRow : OpenClaim := { program := "ytkegollaleklaaagreat", sum := "f2c2b2f5aeba6746bdd637ed1d404522a89426cc67cdfa3a805e110093183cc7", func := "loop.example/g00491/laws.FnExactStats", spec := "fnExactStats", unfollowed := true, recurses := true, apart := false, narrowed := true }
def FnExactStatsUptoSaid : Prop := fnExactStatsUptoRow.holds Tryz.pinned (OpenSpec.upto fnExactStatsSpec)

/-- 'laws.FnExactKeyTotal', WHERE WHAT IT READS IS OF BULK AT MOST 1048576: true; the input reads as it did. -/
def fnExactKeyTotalUptoRow : OpenClaim := { program := "ytkegollaleklaaagreat", sum := "f2c2b2f5aeba6746bdd637ed1d404522a89426cc67cdfa3a805e110093183cc7", func := "loop.example/g00491/laws.FnExactKeyTotal", spec := "fnExactKeyTotal", unfollowed := true, recurses := true, apart := false, narrowed := true }
def FnExactKeyTotalUptoSaid : Prop := fnExactKeyTotalUptoRow.holds Tryz.pinned (OpenSpec.upto fnExactKeyTotalSpec)

/-- 'laws.FnExactSaved', WHERE WHAT IT READS IS OF BULK AT MOST 1048576: true; the input reads as it did. -/
def fnExactSavedUptoRow : OpenClaim := { program := "ytkegollaleklaaagreat", sum := "f2c2b2f5aeba6746bdd637ed1d404522a89426cc67cdfa3a805e110093183cc7", func := "loop.example/g00491/laws.FnExactSaved", spec := "fnExactSaved", unfollowed := true, recurses := true, apart := false, narrowed := true }
def FnExactSavedUptoSaid : Prop := fnExactSavedUptoRow.holds Tryz.pinned (OpenSpec.upto fnExactSavedSpec)

/-- 'laws.FnExactJoinHouse', WHERE WHAT IT READS IS OF BULK AT MOST 1048576: true; the input reads as it did. -/
def fnExactJoinHouseUptoRow : OpenClaim := { program := "ytkegollaleklaaagreat", sum := "f2c2b2f5aeba6746bdd637ed1d404522a89426cc67cdfa3a805e110093183cc7", func := "loop.example/g00491/laws.FnExactJoinHouse", spec := "fnExactJoinHouse", unfollowed := true, recurses := true, apart := false, narrowed := true }
def FnExactJoinHouseUptoSaid : Prop := fnExactJoinHouseUptoRow.holds Tryz.pinned (OpenSpec.upto fnExactJoinHouseSpec)

end Rows
end Go.Proofs.YtkegollaleklaaaGreat
