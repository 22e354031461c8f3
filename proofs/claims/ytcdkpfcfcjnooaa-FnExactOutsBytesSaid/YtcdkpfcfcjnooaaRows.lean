/-
  No cell of these rows narrows 'for every input' (looked for: loops, veiled, ifaces, maps, wideKeys, modest, calm, conditions, laid).
  DERIVED. THE GIVEN ROWS OF THIS SEAT. 7 by the template 'for every input the law returns true; each argument reads behind the call as it read before'; 0 by the template 'total and deterministic' (their statements: YtcdkpfcfcjnooaaTotals.lean).
  GIVEN WITH THE SEED: the statements are not yours to turn. If you find one false, say at which input.
  Laid BY PROGRAM, IN A SANDBOX (cutbox-rows.mjs): the forced cells as the released guide's own fill.sh prints them over the translation 5be44d8291098e08… (all of the seat's roots in one cut). By AI agents, Wed Nov 11 2026. No macro, syntax, notation, axiom, sorry.
-/
import Derived.Test.YtcdkpfcfcjnooaaChecked
import GoSem.Claim
import GoSem.ClaimJoined
import GoSem.ClaimMapViews
import Derived.JoinedTies
import Derived.KernelRfl
namespace Go.Proofs.Ytcdkpfcfcjnooaa
/- THE CELL 'sum', in the pinned program and in every row, IS THE sha256 OF THE DUMP (.gsa) THAT YtcdkpfcfcjnooaaProg.lean LOADS. Nothing in Lean hashes anything: it is a label: what it is worth is what the hold of that sum in a sandbox is worth. -/
noncomputable def Try.pinned : Pinned := { name := "ytcdkpfcfcjnooaa", sum := "5be44d8291098e08c450e4609933562d47a77f4a396dc96dc1c7a4c60d9f7f41", checked := Try.checked }
namespace Rows
def none {H : Type} : Left H := { results := [], args := [] }

/-- 'laws.FnExactTotalSame': WHATEVER THE INPUT: true; the input reads as it did. -/
def fnExactTotalSameSpec : ChangeSpec := { name := "fnExactTotalSame", fn := fun _ => fun
  | [d1, d2] => { results := [.lit (.bool true)], args := [d1, d2] }
  | _ => none }
def fnExactTotalSameRow : OpenClaim := { program := "ytcdkpfcfcjnooaa", sum := "5be44d8291098e08c450e4609933562d47a77f4a396dc96dc1c7a4c60d9f7f41", func := "loop.example/g00491/laws.FnExactTotalSame", spec := "fnExactTotalSame", unfollowed := true, recurses := true, apart := false }
def FnExactTotalSameSaid : Prop := fnExactTotalSameRow.holds Try.pinned (OpenSpec.ofChange fnExactTotalSameSpec)

/-- ITS FALSE NEIGHBOUR: 'it returns false'. Refute it at one input. -/
def fnExactTotalSameWrong : ChangeSpec := { name := "fnExactTotalSame", fn := fun _ => fun
  | [d1, d2] => { results := [.lit (.bool false)], args := [d1, d2] }
  | _ => none }
def FnExactTotalSameWrongFalsely : Prop := fnExactTotalSameRow.holds Try.pinned (OpenSpec.ofChange fnExactTotalSameWrong)

/-- 'laws.FnExactOutsSame': WHATEVER THE INPUT: true; the input reads as it did. -/
def fnExactOutsSameSpec : ChangeSpec := { name := "fnExactOutsSame", fn := fun _ => fun
  | [d1, d2] => { results := [.lit (.bool true)], args := [d1, d2] }
  | _ => none }
def fnExactOutsSameRow : OpenClaim := { program := "ytcdkpfcfcjnooaa", sum := "5be44d8291098e08c450e4609933562d47a77f4a396dc96dc1c7a4c60d9f7f41", func := "loop.example/g00491/laws.FnExactOutsSame", spec := "fnExactOutsSame", unfollowed := true, recurses := true, apart := false }
def FnExactOutsSameSaid : Prop := fnExactOutsSameRow.holds Try.pinned (OpenSpec.ofChange fnExactOutsSameSpec)

/-- ITS FALSE NEIGHBOUR: 'it returns false'. Refute it at one input. -/
def fnExactOutsSameWrong : ChangeSpec := { name := "fnExactOutsSame", fn := fun _ => fun
  | [d1, d2] => { results := [.lit (.bool false)], args := [d1, d2] }
  | _ => none }
def FnExactOutsSameWrongFalsely : Prop := fnExactOutsSameRow.holds Try.pinned (OpenSpec.ofChange fnExactOutsSameWrong)

/-- 'laws.FnExactOutsOk': WHATEVER THE INPUT: true; the input reads as it did. -/
def fnExactOutsOkSpec : ChangeSpec := { name := "fnExactOutsOk", fn := fun _ => fun
  | [d] => { results := [.lit (.bool true)], args := [d] }
  | _ => none }
def fnExactOutsOkRow : OpenClaim := { program := "ytcdkpfcfcjnooaa", sum := "5be44d8291098e08c450e4609933562d47a77f4a396dc96dc1c7a4c60d9f7f41", func := "loop.example/g00491/laws.FnExactOutsOk", spec := "fnExactOutsOk", apart := false }
def FnExactOutsOkSaid : Prop := fnExactOutsOkRow.holds Try.pinned (OpenSpec.ofChange fnExactOutsOkSpec)

/-- ITS FALSE NEIGHBOUR: 'it returns false'. Refute it at one input. -/
def fnExactOutsOkWrong : ChangeSpec := { name := "fnExactOutsOk", fn := fun _ => fun
  | [d] => { results := [.lit (.bool false)], args := [d] }
  | _ => none }
def FnExactOutsOkWrongFalsely : Prop := fnExactOutsOkRow.holds Try.pinned (OpenSpec.ofChange fnExactOutsOkWrong)

/-- 'laws.FnExactDoubled': WHATEVER THE INPUT: true; the input reads as it did. -/
def fnExactDoubledSpec : ChangeSpec := { name := "fnExactDoubled", fn := fun _ => fun
  | [d] => { results := [.lit (.bool true)], args := [d] }
  | _ => none }
def fnExactDoubledRow : OpenClaim := { program := "ytcdkpfcfcjnooaa", sum := "5be44d8291098e08c450e4609933562d47a77f4a396dc96dc1c7a4c60d9f7f41", func := "loop.example/g00491/laws.FnExactDoubled", spec := "fnExactDoubled", apart := false }
def FnExactDoubledSaid : Prop := fnExactDoubledRow.holds Try.pinned (OpenSpec.ofChange fnExactDoubledSpec)

/-- ITS FALSE NEIGHBOUR: 'it returns false'. Refute it at one input. -/
def fnExactDoubledWrong : ChangeSpec := { name := "fnExactDoubled", fn := fun _ => fun
  | [d] => { results := [.lit (.bool false)], args := [d] }
  | _ => none }
def FnExactDoubledWrongFalsely : Prop := fnExactDoubledRow.holds Try.pinned (OpenSpec.ofChange fnExactDoubledWrong)

/-- 'laws.FnExactRowSize': WHATEVER THE INPUT: true; the input reads as it did. -/
def fnExactRowSizeSpec : ChangeSpec := { name := "fnExactRowSize", fn := fun _ => fun
  | [d] => { results := [.lit (.bool true)], args := [d] }
  | _ => none }
def fnExactRowSizeRow : OpenClaim := { program := "ytcdkpfcfcjnooaa", sum := "5be44d8291098e08c450e4609933562d47a77f4a396dc96dc1c7a4c60d9f7f41", func := "loop.example/g00491/laws.FnExactRowSize", spec := "fnExactRowSize", apart := false }
def FnExactRowSizeSaid : Prop := fnExactRowSizeRow.holds Try.pinned (OpenSpec.ofChange fnExactRowSizeSpec)

/-- ITS FALSE NEIGHBOUR: 'it returns false'. Refute it at one input. -/
def fnExactRowSizeWrong : ChangeSpec := { name := "fnExactRowSize", fn := fun _ => fun
  | [d] => { results := [.lit (.bool false)], args := [d] }
  | _ => none }
def FnExactRowSizeWrongFalsely : Prop := fnExactRowSizeRow.holds Try.pinned (OpenSpec.ofChange fnExactRowSizeWrong)

/-- 'laws.FnExactOutBytes': WHATEVER THE INPUT: true; the input reads as it did. -/
def fnExactOutBytesSpec : ChangeSpec := { name := "fnExactOutBytes", fn := fun _ => fun
  | [d] => { results := [.lit (.bool true)], args := [d] }
  | _ => none }
def fnExactOutBytesRow : OpenClaim := { program := "ytcdkpfcfcjnooaa", sum := "5be44d8291098e08c450e4609933562d47a77f4a396dc96dc1c7a4c60d9f7f41", func := "loop.example/g00491/laws.FnExactOutBytes", spec := "fnExactOutBytes", apart := false }
def FnExactOutBytesSaid : Prop := fnExactOutBytesRow.holds Try.pinned (OpenSpec.ofChange fnExactOutBytesSpec)

/-- ITS FALSE NEIGHBOUR: 'it returns false'. Refute it at one input. -/
def fnExactOutBytesWrong : ChangeSpec := { name := "fnExactOutBytes", fn := fun _ => fun
  | [d] => { results := [.lit (.bool false)], args := [d] }
  | _ => none }
def FnExactOutBytesWrongFalsely : Prop := fnExactOutBytesRow.holds Try.pinned (OpenSpec.ofChange fnExactOutBytesWrong)

/-- 'laws.FnExactOutsBytes': WHATEVER THE INPUT: true; the input reads as it did. -/
def fnExactOutsBytesSpec : ChangeSpec := { name := "fnExactOutsBytes", fn := fun _ => fun
  | [d] => { results := [.lit (.bool true)], args := [d] }
  | _ => none }
def fnExactOutsBytesRow : OpenClaim := { program := "ytcdkpfcfcjnooaa", sum := "5be44d8291098e08c450e4609933562d47a77f4a396dc96dc1c7a4c60d9f7f41", func := "loop.example/g00491/laws.FnExactOutsBytes", spec := "fnExactOutsBytes", apart := false }
def FnExactOutsBytesSaid : Prop := fnExactOutsBytesRow.holds Try.pinned (OpenSpec.ofChange fnExactOutsBytesSpec)

/-- ITS FALSE NEIGHBOUR: 'it returns false'. Refute it at one input. -/
def fnExactOutsBytesWrong : ChangeSpec := { name := "fnExactOutsBytes", fn := fun _ => fun
  | [d] => { results := [.lit (.bool false)], args := [d] }
  | _ => none }
def FnExactOutsBytesWrongFalsely : Prop := fnExactOutsBytesRow.holds Try.pinned (OpenSpec.ofChange fnExactOutsBytesWrong)

/- THE SECOND FORM. 'bulk': how many values and letters a reading holds, each counted each time it is reached (what is shared counts as often as it is met; a slice's spare places count too). A statement '..UptoSaid' is the law's where the arguments, and the package variables that the reading takes, are together of bulk at most 1048576: NARROWER than '..Said'. Prove '..Said' where nothing that the law and all that it calls make is longer than what came in: it says more and counts as full. Else prove '..UptoSaid'. A law counts once. -/
mutual
def uptoBulk {H : Type} : DataW H → Nat
  | .lit (.string bytes) => bytes.length + 1
  | .lit _ => 1
  | .nil => 1
  | .ptr d => uptoBulk d + 1
  | .slice elems spare => uptoBulkAll elems + uptoBulkAll spare + 1
  | .agg parts => uptoBulkAll parts + 1
  | .iface _ d => uptoBulk d + 1
  | .map entries => uptoBulkEntries entries + 1
  | .held _ => 1
def uptoBulkAll {H : Type} : List (DataW H) → Nat
  | [] => 0
  | d :: r => uptoBulk d + uptoBulkAll r
def uptoBulkEntries {H : Type} : List (Lit × DataW H) → Nat
  | [] => 0
  | x :: r => uptoBulkEntry x + uptoBulkEntries r
def uptoBulkEntry {H : Type} : Lit × DataW H → Nat
  | (.string bytes, d) => bytes.length + uptoBulk d + 1
  | (_, d) => uptoBulk d + 1
 end
def uptoSmall : (H : Type) → List (DataW H) → Bool := fun _ ds => decide (uptoBulkAll ds ≤ 1048576)
def OpenSpec.upto (s : _root_.Go.ChangeSpec) : _root_.Go.OpenSpec := { _root_.Go.OpenSpec.ofChange s with cond := some uptoSmall }

/-- 'laws.FnExactTotalSame', WHERE WHAT IT READS IS OF BULK AT MOST 1048576: true; the input reads as it did. -/
def fnExactTotalSameUptoRow : OpenClaim := { program := "ytcdkpfcfcjnooaa", sum := "5be44d8291098e08c450e4609933562d47a77f4a396dc96dc1c7a4c60d9f7f41", func := "loop.example/g00491/laws.FnExactTotalSame", spec := "fnExactTotalSame", unfollowed := true, recurses := true, apart := false, narrowed := true }
def FnExactTotalSameUptoSaid : Prop := fnExactTotalSameUptoRow.holds Try.pinned (OpenSpec.upto fnExactTotalSameSpec)

/-- 'laws.FnExactOutsSame', WHERE WHAT IT READS IS OF BULK AT MOST 1048576: true; the input reads as it did. -/
def fnExactOutsSameUptoRow : OpenClaim := { program := "ytcdkpfcfcjnooaa", sum := "5be44d8291098e08c450e4609933562d47a77f4a396dc96dc1c7a4c60d9f7f41", func := "loop.example/g00491/laws.FnExactOutsSame", spec := "fnExactOutsSame", unfollowed := true, recurses := true, apart := false, narrowed := true }
def FnExactOutsSameUptoSaid : Prop := fnExactOutsSameUptoRow.holds Try.pinned (OpenSpec.upto fnExactOutsSameSpec)

/-- 'laws.FnExactOutsOk', WHERE WHAT IT READS IS OF BULK AT MOST 1048576: true; the input reads as it did. -/
def fnExactOutsOkUptoRow : OpenClaim := { program := "ytcdkpfcfcjnooaa", sum := "5be44d8291098e08c450e4609933562d47a77f4a396dc96dc1c7a4c60d9f7f41", func := "loop.example/g00491/laws.FnExactOutsOk", spec := "fnExactOutsOk", apart := false, narrowed := true }
def FnExactOutsOkUptoSaid : Prop := fnExactOutsOkUptoRow.holds Try.pinned (OpenSpec.upto fnExactOutsOkSpec)

/-- 'laws.FnExactDoubled', WHERE WHAT IT READS IS OF BULK AT MOST 1048576: true; the input reads as it did. -/
def fnExactDoubledUptoRow : OpenClaim := { program := "ytcdkpfcfcjnooaa", sum := "5be44d8291098e08c450e4609933562d47a77f4a396dc96dc1c7a4c60d9f7f41", func := "loop.example/g00491/laws.FnExactDoubled", spec := "fnExactDoubled", apart := false, narrowed := true }
def FnExactDoubledUptoSaid : Prop := fnExactDoubledUptoRow.holds Try.pinned (OpenSpec.upto fnExactDoubledSpec)

/-- 'laws.FnExactRowSize', WHERE WHAT IT READS IS OF BULK AT MOST 1048576: true; the input reads as it did. -/
def fnExactRowSizeUptoRow : OpenClaim := { program := "ytcdkpfcfcjnooaa", sum := "5be44d8291098e08c450e4609933562d47a77f4a396dc96dc1c7a4c60d9f7f41", func := "loop.example/g00491/laws.FnExactRowSize", spec := "fnExactRowSize", apart := false, narrowed := true }
def FnExactRowSizeUptoSaid : Prop := fnExactRowSizeUptoRow.holds Try.pinned (OpenSpec.upto fnExactRowSizeSpec)

/-- 'laws.FnExactOutBytes', WHERE WHAT IT READS IS OF BULK AT MOST 1048576: true; the input reads as it did. -/
def fnExactOutBytesUptoRow : OpenClaim := { program := "ytcdkpfcfcjnooaa", sum := "5be44d8291098e08c450e4609933562d47a77f4a396dc96dc1c7a4c60d9f7f41", func := "loop.example/g00491/laws.FnExactOutBytes", spec := "fnExactOutBytes", apart := false, narrowed := true }
def FnExactOutBytesUptoSaid : Prop := fnExactOutBytesUptoRow.holds Try.pinned (OpenSpec.upto fnExactOutBytesSpec)

/-- 'laws.FnExactOutsBytes', WHERE WHAT IT READS IS OF BULK AT MOST 1048576: true; the input reads as it did. -/
def fnExactOutsBytesUptoRow : OpenClaim := { program := "ytcdkpfcfcjnooaa", sum := "5be44d8291098e08c450e4609933562d47a77f4a396dc96dc1c7a4c60d9f7f41", func := "loop.example/g00491/laws.FnExactOutsBytes", spec := "fnExactOutsBytes", apart := false, narrowed := true }
def FnExactOutsBytesUptoSaid : Prop := fnExactOutsBytesUptoRow.holds Try.pinned (OpenSpec.upto fnExactOutsBytesSpec)

end Rows
end Go.Proofs.Ytcdkpfcfcjnooaa
