/-
  No cell of these rows narrows 'for every input' (looked for: loops, veiled, ifaces, maps, wideKeys, modest, calm, conditions, laid).
  DERIVED. THE GIVEN ROWS OF THIS SEAT. 3 by the template 'for every input the law returns true; each argument reads behind the call as it read before'; 0 by the template 'total and deterministic' (their statements: YtkegollaleklaaaTotals.lean).
  GIVEN WITH THE SEED: the statements are not yours to turn. If you find one false, say at which input.
  Laid BY PROGRAM, IN A SANDBOX (cutbox-rows.mjs): the forced cells as the released guide's own fill.sh prints them over the translation 219754eabcc3672e… (all of the seat's roots in one cut). By AI agents, Wed Nov 11 2026. No macro, syntax, notation, axiom, sorry.
-/
import Derived.Test.YtkegollaleklaaaChecked
import GoSem.Claim
import GoSem.ClaimJoined
import GoSem.ClaimMapViews
import Derived.JoinedTies
import Derived.KernelRfl
namespace Go.Proofs.Ytkegollaleklaaa
/- THE CELL 'sum', in the pinned program and in every row, IS THE sha256 OF THE DUMP (.gsa) THAT YtkegollaleklaaaProg.lean LOADS. Nothing in Lean hashes anything: it is a label: what it is worth is what the hold of that sum in a sandbox is worth. -/
noncomputable def Try.pinned : Pinned := { name := "ytkegollaleklaaa", sum := "219754eabcc3672e9a9a0cf28b6a30735ef17076ef1ffe39e342be7344b5a078", checked := Try.checked }
namespace Rows
def none {H : Type} : Left H := { results := [], args := [] }

/-- 'laws.FnExactOutsOf': WHATEVER THE INPUT: true; the input reads as it did. -/
def fnExactOutsOfSpec : ChangeSpec := { name := "fnExactOutsOf", fn := fun _ => fun
  | [d] => { results := [.lit (.bool true)], args := [d] }
  | _ => none }
def fnExactOutsOfRow : OpenClaim := { program := "ytkegollaleklaaa", sum := "219754eabcc3672e9a9a0cf28b6a30735ef17076ef1ffe39e342be7344b5a078", func := "loop.example/g00491/laws.FnExactOutsOf", spec := "fnExactOutsOf", apart := false }
def FnExactOutsOfSaid : Prop := fnExactOutsOfRow.holds Try.pinned (OpenSpec.ofChange fnExactOutsOfSpec)

/-- ITS FALSE NEIGHBOUR: 'it returns false'. Refute it at one input. -/
def fnExactOutsOfWrong : ChangeSpec := { name := "fnExactOutsOf", fn := fun _ => fun
  | [d] => { results := [.lit (.bool false)], args := [d] }
  | _ => none }
def FnExactOutsOfWrongFalsely : Prop := fnExactOutsOfRow.holds Try.pinned (OpenSpec.ofChange fnExactOutsOfWrong)

/-- 'laws.FnExactCombine': WHATEVER THE INPUT: true; the input reads as it did. -/
def fnExactCombineSpec : ChangeSpec := { name := "fnExactCombine", fn := fun _ => fun
  | [d1, d2] => { results := [.lit (.bool true)], args := [d1, d2] }
  | _ => none }
def fnExactCombineRow : OpenClaim := { program := "ytkegollaleklaaa", sum := "219754eabcc3672e9a9a0cf28b6a30735ef17076ef1ffe39e342be7344b5a078", func := "loop.example/g00491/laws.FnExactCombine", spec := "fnExactCombine", unfollowed := true, recurses := true, apart := false }
def FnExactCombineSaid : Prop := fnExactCombineRow.holds Try.pinned (OpenSpec.ofChange fnExactCombineSpec)

/-- ITS FALSE NEIGHBOUR: 'it returns false'. Refute it at one input. -/
def fnExactCombineWrong : ChangeSpec := { name := "fnExactCombine", fn := fun _ => fun
  | [d1, d2] => { results := [.lit (.bool false)], args := [d1, d2] }
  | _ => none }
def FnExactCombineWrongFalsely : Prop := fnExactCombineRow.holds Try.pinned (OpenSpec.ofChange fnExactCombineWrong)

/-- 'laws.FnExactTotals': WHATEVER THE INPUT: true; the input reads as it did. -/
def fnExactTotalsSpec : ChangeSpec := { name := "fnExactTotals", fn := fun _ => fun
  | [d] => { results := [.lit (.bool true)], args := [d] }
  | _ => none }
def fnExactTotalsRow : OpenClaim := { program := "ytkegollaleklaaa", sum := "219754eabcc3672e9a9a0cf28b6a30735ef17076ef1ffe39e342be7344b5a078", func := "loop.example/g00491/laws.FnExactTotals", spec := "fnExactTotals", unfollowed := true, recurses := true, apart := false }
def FnExactTotalsSaid : Prop := fnExactTotalsRow.holds Try.pinned (OpenSpec.ofChange fnExactTotalsSpec)

/-- ITS FALSE NEIGHBOUR: 'it returns false'. Refute it at one input. -/
def fnExactTotalsWrong : ChangeSpec := { name := "fnExactTotals", fn := fun _ => fun
  | [d] => { results := [.lit (.bool false)], args := [d] }
  | _ => none }
def FnExactTotalsWrongFalsely : Prop := fnExactTotalsRow.holds Try.pinned (OpenSpec.ofChange fnExactTotalsWrong)

/- THE SECOND FORM. 'bulk': how many values and letters a reading holds, each counted each time it is reached (what is shared counts as often as it is met; a slice's spare places count too). A statement '..UptoSaid' is the law's where the arguments, and the package variables that the reading takes, are together of bulk at most 1048576: NARROWER than '..Said'. Prove '..Said' where nothing that the law and all that it calls make is longer than what came in: it says more and counts as full. Else prove '..UptoSaid'. A law counts once. -/
mutual
def uptoBulk {H : Type} : DataW H → Nat
  | .lit (.string bytes) => bytes.length + 1
  | .lit _ => 1
  | .nil => 1
  | .ptr d => uptoBulk d + 1
  | .slice elems spare => uptoBulkAll elems + uptoBulkAll spare + 1
  | .agg parts => uptoBulkAll parts + 1
  | .iface _ d => uptoBulk d + 1
  | .map entries => uptoBulkEntries entries + 1
  | .held _ => 1
def uptoBulkAll {H : Type} : List (DataW H) → Nat
  | [] => 0
  | d :: r => uptoBulk d + uptoBulkAll r
def uptoBulkEntries {H : Type} : List (Lit × DataW H) → Nat
  | [] => 0
  | x :: r => uptoBulkEntry x + uptoBulkEntries r
def uptoBulkEntry {H : Type} : Lit × DataW H → Nat
  | (.string bytes, d) => bytes.length + uptoBulk d + 1
  | (_, d) => uptoBulk d + 1
 end
def uptoSmall : (H : Type) → List (DataW H) → Bool := fun _ ds => decide (uptoBulkAll ds ≤ 1048576)
def OpenSpec.upto (s : _root_.Go.ChangeSpec) : _root_.Go.OpenSpec := { _root_.Go.OpenSpec.ofChange s with cond := some uptoSmall }

/-- 'laws.FnExactOutsOf', WHERE WHAT IT READS IS OF BULK AT MOST 1048576: true; the input reads as it did. -/
def fnExactOutsOfUptoRow : OpenClaim := { program := "ytkegollaleklaaa", sum := "219754eabcc3672e9a9a0cf28b6a30735ef17076ef1ffe39e342be7344b5a078", func := "loop.example/g00491/laws.FnExactOutsOf", spec := "fnExactOutsOf", apart := false, narrowed := true }
def FnExactOutsOfUptoSaid : Prop := fnExactOutsOfUptoRow.holds Try.pinned (OpenSpec.upto fnExactOutsOfSpec)

/-- 'laws.FnExactCombine', WHERE WHAT IT READS IS OF BULK AT MOST 1048576: true; the input reads as it did. -/
def fnExactCombineUptoRow : OpenClaim := { program := "ytkegollaleklaaa", sum := "219754eabcc3672e9a9a0cf28b6a30735ef17076ef1ffe39e342be7344b5a078", func := "loop.example/g00491/laws.FnExactCombine", spec := "fnExactCombine", unfollowed := true, recurses := true, apart := false, narrowed := true }
def FnExactCombineUptoSaid : Prop := fnExactCombineUptoRow.holds Try.pinned (OpenSpec.upto fnExactCombineSpec)

/-- 'laws.FnExactTotals', WHERE WHAT IT READS IS OF BULK AT MOST 1048576: true; the input reads as it did. -/
def fnExactTotalsUptoRow : OpenClaim := { program := "ytkegollaleklaaa", sum := "219754eabcc3672e9a9a0cf28b6a30735ef17076ef1ffe39e342be7344b5a078", func := "loop.example/g00491/laws.FnExactTotals", spec := "fnExactTotals", unfollowed := true, recurses := true, apart := false, narrowed := true }
def FnExactTotalsUptoSaid : Prop := fnExactTotalsUptoRow.holds Try.pinned (OpenSpec.upto fnExactTotalsSpec)

end Rows
end Go.Proofs.Ytkegollaleklaaa
