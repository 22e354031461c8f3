/-
  No cell of these rows narrows 'for every input' (looked for: loops, veiled, ifaces, maps, wideKeys, modest, calm, conditions, laid).
  DERIVED. THE GIVEN ROWS OF THIS SEAT. 7 by the template 'for every input the law returns true; each argument reads behind the call as it read before'; 0 by the template 'total and deterministic' (their statements: YtkdmpinokekdaaaTotals.lean).
  GIVEN WITH THE SEED: the statements are not yours to turn. If you find one false, say at which input.
  Laid BY PROGRAM, IN A SANDBOX (cutbox-rows.mjs): the forced cells as the released guide's own fill.sh prints them over the translation 0158f7e4569ac1a8… (all of the seat's roots in one cut). By AI agents, Wed Nov 11 2026. No macro, syntax, notation, axiom, sorry.
-/
import Derived.Test.YtkdmpinokekdaaaChecked
import GoSem.Claim
import GoSem.ClaimJoined
import GoSem.ClaimMapViews
import Derived.JoinedTies
import Derived.KernelRfl
namespace Go.Proofs.Ytkdmpinokekdaaa
/- THE CELL 'sum', in the pinned program and in every row, IS THE sha256 OF THE DUMP (.gsa) THAT YtkdmpinokekdaaaProg.lean LOADS. Nothing in Lean hashes anything: it is a label: what it is worth is what the hold of that sum in a sandbox is worth. -/
noncomputable def Try.pinned : Pinned := { name := "ytkdmpinokekdaaa", sum := "0158f7e4569ac1a8324eb8a40689c0732a1ca4718d513345f603d61a1bc05f82", checked := Try.checked }
namespace Rows
def none {H : Type} : Left H := { results := [], args := [] }

/-- 'laws.FnExactCodeText': WHATEVER THE INPUT: true; the input reads as it did. -/
def fnExactCodeTextSpec : ChangeSpec := { name := "fnExactCodeText", fn := fun _ => fun
  | [d] => { results := [.lit (.bool true)], args := [d] }
  | _ => none }
def fnExactCodeTextRow : OpenClaim := { program := "ytkdmpinokekdaaa", sum := "0158f7e4569ac1a8324eb8a40689c0732a1ca4718d513345f603d61a1bc05f82", func := "loop.example/g00491/laws.FnExactCodeText", spec := "fnExactCodeText", apart := false }
def FnExactCodeTextSaid : Prop := fnExactCodeTextRow.holds Try.pinned (OpenSpec.ofChange fnExactCodeTextSpec)

/-- ITS FALSE NEIGHBOUR: 'it returns false'. Refute it at one input. -/
def fnExactCodeTextWrong : ChangeSpec := { name := "fnExactCodeText", fn := fun _ => fun
  | [d] => { results := [.lit (.bool false)], args := [d] }
  | _ => none }
def FnExactCodeTextWrongFalsely : Prop := fnExactCodeTextRow.holds Try.pinned (OpenSpec.ofChange fnExactCodeTextWrong)

/-- 'laws.FnExactShareBound': WHATEVER THE INPUT: true; the input reads as it did. -/
def fnExactShareBoundSpec : ChangeSpec := { name := "fnExactShareBound", fn := fun _ => fun
  | [d1, d2, d3, d4] => { results := [.lit (.bool true)], args := [d1, d2, d3, d4] }
  | _ => none }
def fnExactShareBoundRow : OpenClaim := { program := "ytkdmpinokekdaaa", sum := "0158f7e4569ac1a8324eb8a40689c0732a1ca4718d513345f603d61a1bc05f82", func := "loop.example/g00491/laws.FnExactShareBound", spec := "fnExactShareBound", apart := false }
def FnExactShareBoundSaid : Prop := fnExactShareBoundRow.holds Try.pinned (OpenSpec.ofChange fnExactShareBoundSpec)

/-- ITS FALSE NEIGHBOUR: 'it returns false'. Refute it at one input. -/
def fnExactShareBoundWrong : ChangeSpec := { name := "fnExactShareBound", fn := fun _ => fun
  | [d1, d2, d3, d4] => { results := [.lit (.bool false)], args := [d1, d2, d3, d4] }
  | _ => none }
def FnExactShareBoundWrongFalsely : Prop := fnExactShareBoundRow.holds Try.pinned (OpenSpec.ofChange fnExactShareBoundWrong)

/-- 'laws.FnExactHandLeft': WHATEVER THE INPUT: true; the input reads as it did. -/
def fnExactHandLeftSpec : ChangeSpec := { name := "fnExactHandLeft", fn := fun _ => fun
  | [d1, d2, d3] => { results := [.lit (.bool true)], args := [d1, d2, d3] }
  | _ => none }
def fnExactHandLeftRow : OpenClaim := { program := "ytkdmpinokekdaaa", sum := "0158f7e4569ac1a8324eb8a40689c0732a1ca4718d513345f603d61a1bc05f82", func := "loop.example/g00491/laws.FnExactHandLeft", spec := "fnExactHandLeft", apart := false }
def FnExactHandLeftSaid : Prop := fnExactHandLeftRow.holds Try.pinned (OpenSpec.ofChange fnExactHandLeftSpec)

/-- ITS FALSE NEIGHBOUR: 'it returns false'. Refute it at one input. -/
def fnExactHandLeftWrong : ChangeSpec := { name := "fnExactHandLeft", fn := fun _ => fun
  | [d1, d2, d3] => { results := [.lit (.bool false)], args := [d1, d2, d3] }
  | _ => none }
def FnExactHandLeftWrongFalsely : Prop := fnExactHandLeftRow.holds Try.pinned (OpenSpec.ofChange fnExactHandLeftWrong)

/-- 'laws.FnExactHandSum': WHATEVER THE INPUT: true; the input reads as it did. -/
def fnExactHandSumSpec : ChangeSpec := { name := "fnExactHandSum", fn := fun _ => fun
  | [d1, d2] => { results := [.lit (.bool true)], args := [d1, d2] }
  | _ => none }
def fnExactHandSumRow : OpenClaim := { program := "ytkdmpinokekdaaa", sum := "0158f7e4569ac1a8324eb8a40689c0732a1ca4718d513345f603d61a1bc05f82", func := "loop.example/g00491/laws.FnExactHandSum", spec := "fnExactHandSum", apart := false }
def FnExactHandSumSaid : Prop := fnExactHandSumRow.holds Try.pinned (OpenSpec.ofChange fnExactHandSumSpec)

/-- ITS FALSE NEIGHBOUR: 'it returns false'. Refute it at one input. -/
def fnExactHandSumWrong : ChangeSpec := { name := "fnExactHandSum", fn := fun _ => fun
  | [d1, d2] => { results := [.lit (.bool false)], args := [d1, d2] }
  | _ => none }
def FnExactHandSumWrongFalsely : Prop := fnExactHandSumRow.holds Try.pinned (OpenSpec.ofChange fnExactHandSumWrong)

/-- 'laws.FnExactHand': WHATEVER THE INPUT: true; the input reads as it did. -/
def fnExactHandSpec : ChangeSpec := { name := "fnExactHand", fn := fun _ => fun
  | [d1, d2, d3, d4] => { results := [.lit (.bool true)], args := [d1, d2, d3, d4] }
  | _ => none }
def fnExactHandRow : OpenClaim := { program := "ytkdmpinokekdaaa", sum := "0158f7e4569ac1a8324eb8a40689c0732a1ca4718d513345f603d61a1bc05f82", func := "loop.example/g00491/laws.FnExactHand", spec := "fnExactHand", apart := false }
def FnExactHandSaid : Prop := fnExactHandRow.holds Try.pinned (OpenSpec.ofChange fnExactHandSpec)

/-- ITS FALSE NEIGHBOUR: 'it returns false'. Refute it at one input. -/
def fnExactHandWrong : ChangeSpec := { name := "fnExactHand", fn := fun _ => fun
  | [d1, d2, d3, d4] => { results := [.lit (.bool false)], args := [d1, d2, d3, d4] }
  | _ => none }
def FnExactHandWrongFalsely : Prop := fnExactHandRow.holds Try.pinned (OpenSpec.ofChange fnExactHandWrong)

/-- 'laws.FnFair': WHATEVER THE INPUT: true; the input reads as it did. -/
def fnFairSpec : ChangeSpec := { name := "fnFair", fn := fun _ => fun
  | [d] => { results := [.lit (.bool true)], args := [d] }
  | _ => none }
def fnFairRow : OpenClaim := { program := "ytkdmpinokekdaaa", sum := "0158f7e4569ac1a8324eb8a40689c0732a1ca4718d513345f603d61a1bc05f82", func := "loop.example/g00491/laws.FnFair", spec := "fnFair", apart := false }
def FnFairSaid : Prop := fnFairRow.holds Try.pinned (OpenSpec.ofChange fnFairSpec)

/-- ITS FALSE NEIGHBOUR: 'it returns false'. Refute it at one input. -/
def fnFairWrong : ChangeSpec := { name := "fnFair", fn := fun _ => fun
  | [d] => { results := [.lit (.bool false)], args := [d] }
  | _ => none }
def FnFairWrongFalsely : Prop := fnFairRow.holds Try.pinned (OpenSpec.ofChange fnFairWrong)

/-- 'laws.FnHanded': WHATEVER THE INPUT: true; the input reads as it did. -/
def fnHandedSpec : ChangeSpec := { name := "fnHanded", fn := fun _ => fun
  | [d] => { results := [.lit (.bool true)], args := [d] }
  | _ => none }
def fnHandedRow : OpenClaim := { program := "ytkdmpinokekdaaa", sum := "0158f7e4569ac1a8324eb8a40689c0732a1ca4718d513345f603d61a1bc05f82", func := "loop.example/g00491/laws.FnHanded", spec := "fnHanded", apart := false }
def FnHandedSaid : Prop := fnHandedRow.holds Try.pinned (OpenSpec.ofChange fnHandedSpec)

/-- ITS FALSE NEIGHBOUR: 'it returns false'. Refute it at one input. -/
def fnHandedWrong : ChangeSpec := { name := "fnHanded", fn := fun _ => fun
  | [d] => { results := [.lit (.bool false)], args := [d] }
  | _ => none }
def FnHandedWrongFalsely : Prop := fnHandedRow.holds Try.pinned (OpenSpec.ofChange fnHandedWrong)

/- THE SECOND FORM. 'bulk': how many values and letters a reading holds, each counted each time it is reached (what is shared counts as often as it is met; a slice's spare places count too). A statement '..UptoSaid' is the law's where the arguments, and the package variables that the reading takes, are together of bulk at most 1048576: NARROWER than '..Said'. Prove '..Said' where nothing that the law and all that it calls make is longer than what came in: it says more and counts as full. Else prove '..UptoSaid'. A law counts once. -/
mutual
def uptoBulk {H : Type} : DataW H → Nat
  | .lit (.string bytes) => bytes.length + 1
  | .lit _ => 1
  | .nil => 1
  | .ptr d => uptoBulk d + 1
  | .slice elems spare => uptoBulkAll elems + uptoBulkAll spare + 1
  | .agg parts => uptoBulkAll parts + 1
  | .iface _ d => uptoBulk d + 1
  | .map entries => uptoBulkEntries entries + 1
  | .held _ => 1
def uptoBulkAll {H : Type} : List (DataW H) → Nat
  | [] => 0
  | d :: r => uptoBulk d + uptoBulkAll r
def uptoBulkEntries {H : Type} : List (Lit × DataW H) → Nat
  | [] => 0
  | x :: r => uptoBulkEntry x + uptoBulkEntries r
def uptoBulkEntry {H : Type} : Lit × DataW H → Nat
  | (.string bytes, d) => bytes.length + uptoBulk d + 1
  | (_, d) => uptoBulk d + 1
 end
def uptoSmall : (H : Type) → List (DataW H) → Bool := fun _ ds => decide (uptoBulkAll ds ≤ 1048576)
def OpenSpec.upto (s : _root_.Go.ChangeSpec) : _root_.Go.OpenSpec := { _root_.Go.OpenSpec.ofChange s with cond := some uptoSmall }

/-- 'laws.FnExactCodeText', WHERE WHAT IT READS IS OF BULK AT MOST 1048576: true; the input reads as it did. -/
def fnExactCodeTextUptoRow : OpenClaim := { program := "ytkdmpinokekdaaa", sum := "0158f7e4569ac1a8324eb8a40689c0732a1ca4718d513345f603d61a1bc05f82", func := "loop.example/g00491/laws.FnExactCodeText", spec := "fnExactCodeText", apart := false, narrowed := true }
def FnExactCodeTextUptoSaid : Prop := fnExactCodeTextUptoRow.holds Try.pinned (OpenSpec.upto fnExactCodeTextSpec)

/-- 'laws.FnExactShareBound', WHERE WHAT IT READS IS OF BULK AT MOST 1048576: true; the input reads as it did. -/
def fnExactShareBoundUptoRow : OpenClaim := { program := "ytkdmpinokekdaaa", sum := "0158f7e4569ac1a8324eb8a40689c0732a1ca4718d513345f603d61a1bc05f82", func := "loop.example/g00491/laws.FnExactShareBound", spec := "fnExactShareBound", apart := false, narrowed := true }
def FnExactShareBoundUptoSaid : Prop := fnExactShareBoundUptoRow.holds Try.pinned (OpenSpec.upto fnExactShareBoundSpec)

/-- 'laws.FnExactHandLeft', WHERE WHAT IT READS IS OF BULK AT MOST 1048576: true; the input reads as it did. -/
def fnExactHandLeftUptoRow : OpenClaim := { program := "ytkdmpinokekdaaa", sum := "0158f7e4569ac1a8324eb8a40689c0732a1ca4718d513345f603d61a1bc05f82", func := "loop.example/g00491/laws.FnExactHandLeft", spec := "fnExactHandLeft", apart := false, narrowed := true }
def FnExactHandLeftUptoSaid : Prop := fnExactHandLeftUptoRow.holds Try.pinned (OpenSpec.upto fnExactHandLeftSpec)

/-- 'laws.FnExactHandSum', WHERE WHAT IT READS IS OF BULK AT MOST 1048576: true; the input reads as it did. -/
def fnExactHandSumUptoRow : OpenClaim := { program := "ytkdmpinokekdaaa", sum := "0158f7e4569ac1a8324eb8a40689c0732a1ca4718d513345f603d61a1bc05f82", func := "loop.example/g00491/laws.FnExactHandSum", spec := "fnExactHandSum", apart := false, narrowed := true }
def FnExactHandSumUptoSaid : Prop := fnExactHandSumUptoRow.holds Try.pinned (OpenSpec.upto fnExactHandSumSpec)

/-- 'laws.FnExactHand', WHERE WHAT IT READS IS OF BULK AT MOST 1048576: true; the input reads as it did. -/
def fnExactHandUptoRow : OpenClaim := { program := "ytkdmpinokekdaaa", sum := "0158f7e4569ac1a8324eb8a40689c0732a1ca4718d513345f603d61a1bc05f82", func := "loop.example/g00491/laws.FnExactHand", spec := "fnExactHand", apart := false, narrowed := true }
def FnExactHandUptoSaid : Prop := fnExactHandUptoRow.holds Try.pinned (OpenSpec.upto fnExactHandSpec)

/-- 'laws.FnFair', WHERE WHAT IT READS IS OF BULK AT MOST 1048576: true; the input reads as it did. -/
def fnFairUptoRow : OpenClaim := { program := "ytkdmpinokekdaaa", sum := "0158f7e4569ac1a8324eb8a40689c0732a1ca4718d513345f603d61a1bc05f82", func := "loop.example/g00491/laws.FnFair", spec := "fnFair", apart := false, narrowed := true }
def FnFairUptoSaid : Prop := fnFairUptoRow.holds Try.pinned (OpenSpec.upto fnFairSpec)

/-- 'laws.FnHanded', WHERE WHAT IT READS IS OF BULK AT MOST 1048576: true; the input reads as it did. -/
def fnHandedUptoRow : OpenClaim := { program := "ytkdmpinokekdaaa", sum := "0158f7e4569ac1a8324eb8a40689c0732a1ca4718d513345f603d61a1bc05f82", func := "loop.example/g00491/laws.FnHanded", spec := "fnHanded", apart := false, narrowed := true }
def FnHandedUptoSaid : Prop := fnHandedUptoRow.holds Try.pinned (OpenSpec.upto fnHandedSpec)

end Rows
end Go.Proofs.Ytkdmpinokekdaaa
