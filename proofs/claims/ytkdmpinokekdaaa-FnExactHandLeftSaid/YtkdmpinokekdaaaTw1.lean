/- Printed by print.lean: typed twins of functions and their proofs. No condition. -/
import Derived.Test.YtkdmpinokekdaaaNp
import Derived.Test.YtkdmpinokekdaaaProg
import Derived.KernelRfl
namespace Go.Proofs.Ytkdmpinokekdaaa.Tw
open Go.Mach
set_option linter.unusedVariables false
set_option maxRecDepth 100000
abbrev kI : K := .int .i64
abbrev kB : K := .int .u8
theorem mixed : Try.prog.follows .mixedOrders = true := by kernel_rfl

/-! laws.szIntS -/
def laws_szIntS (x4 : List (Int)) (x5 : Int) : Option (Int) :=
  bif decide (IntKind.wrap IntKind.i64 (x5 - (↑(List.length x4) : Int)) < (0 : Int)) then some (-1 : Int) else some (IntKind.wrap IntKind.i64 (x5 - (↑(List.length x4) : Int)))
def laws_szIntS_e : FEnt := ⟨12, [.tmp 4], [], [(.one, [.dat (.list kI)]), (.one, [.dat kI])], ⟨14, [⟨4, .one, [.dat kI]⟩]⟩, fun d => laws_szIntS d.1 d.2⟩
theorem laws_szIntS_ok : FnOk Try.prog 37 laws_szIntS_e := fnOk_mk (bk := []) (tb := []) (c := (Try.f37.body).getD .skip) mixed Try.func37 trivial (by kernel_rfl) (by kernel_rfl) (by kernel_rfl) trivial (by intro d; kernel_rfl)


/-! laws.szIntSS -/
def laws_szIntSS_s122 (x18 : List (List (Int))) (x19 : Int) (x20 : Int) : Option (((List (List (Int))) × ((Int) × (Int))) ⊕ ((Int) ⊕ (Int))) :=
  bif decide (x20 < (↑(List.length x18) : Int)) then chk (decide ((0 : Int) ≤ x20)) (chk (decide (Int.toNat x20 < List.length x18)) (Option.bind (laws_szIntS (List.getD x18 (Int.toNat x20) []) x19) fun (r21 : Int) => bif decide (r21 < (0 : Int)) then some (Sum.inr (Sum.inl (-1 : Int))) else some (Sum.inl (x18, r21, IntKind.wrap IntKind.i64 (x20 + (1 : Int)))))) else some (Sum.inr (Sum.inr x19))
def laws_szIntSS_l122 (x0 : List (List (Int))) (x1 : Int) (x2 : Int) : Option ((Int) ⊕ (Int)) := iter (fun d => laws_szIntSS_s122 d.1 d.2.1 d.2.2) bigN (x0, (x1, x2))
def laws_szIntSS_n122 : NEnt := ⟨⟨29, [⟨0, .one, [.dat (.list (.list kI))]⟩, ⟨1, .one, [.dat kI]⟩, ⟨5, .one, [.dat kI]⟩]⟩, [(.ret, ⟨29, [⟨4, .one, [.dat kI]⟩]⟩), (.exit 0, ⟨29, [⟨1, .one, [.dat kI]⟩]⟩)], fun d => laws_szIntSS_l122 d.1 d.2.1 d.2.2⟩
def laws_szIntSS (x16 : List (List (Int))) (x17 : Int) : Option (Int) :=
  bif decide (IntKind.wrap IntKind.i64 (x17 - (↑(List.length x16) : Int)) < (0 : Int)) then some (-1 : Int) else Option.bind (laws_szIntSS_l122 x16 (IntKind.wrap IntKind.i64 (x17 - (↑(List.length x16) : Int))) (0 : Int)) fun (b22 : Int ⊕ Int) => Sum.elim (fun (d23 : Int) => some d23) (fun (b24 : Int) => some b24) b22
def laws_szIntSS_e : FEnt := ⟨27, [.tmp 4], [], [(.one, [.dat (.list (.list kI))]), (.one, [.dat kI])], ⟨29, [⟨4, .one, [.dat kI]⟩]⟩, fun d => laws_szIntSS d.1 d.2⟩
theorem laws_szIntSS_ok : FnOk Try.prog 16 laws_szIntSS_e := fnOk_mk (bk := [(37, laws_szIntS_e)]) (tb := [(122, laws_szIntSS_n122)]) (c := (Try.f16.body).getD .skip) mixed Try.func16 ⟨laws_szIntS_ok, trivial⟩ (by kernel_rfl) (by kernel_rfl) (by kernel_rfl) ⟨nodeLoop (by kernel_rfl) (fun d => laws_szIntSS_s122 d.1 d.2.1 d.2.2) (by kernel_rfl) (by intro d; kernel_rfl), trivial⟩ (by intro d; kernel_rfl)


/-! laws.toIntS -/
def laws_toIntS_s58 (x11 : List (Int)) (x12 : List (Int)) (x13 : Int) : Option (((List (Int)) × ((List (Int)) × (Int))) ⊕ (List (Int))) :=
  bif decide (x13 < (↑(List.length x11) : Int)) then chk (decide ((0 : Int) ≤ x13)) (chk (decide (Int.toNat x13 < List.length x11)) (chk (decide ((0 : Int) ≤ x13)) (chk (decide (Int.toNat x13 < List.length x12)) (chk (decide (Int.toNat x13 < List.length x12)) (some (Sum.inl (x11, List.set x12 (Int.toNat x13) (List.getD x11 (Int.toNat x13) (0 : Int)), IntKind.wrap IntKind.i64 (x13 + (1 : Int))))))))) else some (Sum.inr x12)
def laws_toIntS_l58 (x0 : List (Int)) (x1 : List (Int)) (x2 : Int) : Option (List (Int)) := iter (fun d => laws_toIntS_s58 d.1 d.2.1 d.2.2) bigN (x0, (x1, x2))
def laws_toIntS_n58 : NEnt := ⟨⟨23, [⟨0, .one, [.dat (.list kI)]⟩, ⟨3, .one, [.own true kI]⟩, ⟨4, .one, [.dat kI]⟩]⟩, [(.exit 0, ⟨23, [⟨3, .one, [.own true kI]⟩]⟩)], fun d => laws_toIntS_l58 d.1 d.2.1 d.2.2⟩
def laws_toIntS (x10 : List (Int)) : Option (((Unit) × ((Unit) × (Unit))) × (List (Int))) :=
  chk (decide (Int.toNat (↑(List.length x10) : Int) ≤ Int.toNat (↑(List.length x10) : Int) ∧ Int.toNat (↑(List.length x10) : Int) ≤ (4294967296 : Nat) ∧ Int.toNat (↑(List.length x10) : Int) * (8 : Nat) ≤ (140737488355328 : Nat))) (Option.bind (laws_toIntS_l58 x10 (List.replicate (Int.toNat (↑(List.length x10) : Int)) (0 : Int)) (0 : Int)) fun (b14 : List Int) => some (((), (), ()), b14))
def laws_toIntS_e : FEnt := ⟨22, [.tmp 2], [], [(.one, [.dat (.list kI)])], ⟨23, [⟨2, .one, [.ref 3 0 [] false false kI]⟩, ⟨3, .one, [.own true kI]⟩]⟩, fun d => laws_toIntS d⟩
theorem laws_toIntS_ok : FnOk Try.prog 13 laws_toIntS_e := fnOk_mk (bk := []) (tb := [(58, laws_toIntS_n58)]) (c := (Try.f13.body).getD .skip) mixed Try.func13 trivial (by kernel_rfl) (by kernel_rfl) (by kernel_rfl) ⟨nodeLoop (by kernel_rfl) (fun d => laws_toIntS_s58 d.1 d.2.1 d.2.2) (by kernel_rfl) (by intro d; kernel_rfl), trivial⟩ (by intro d; kernel_rfl)


/-! laws.toIntSS -/
def laws_toIntSS_s58 (x13 : List (List (Int))) (x14 : List (List (Int))) (x15 : Int) : Option (((List (List (Int))) × ((List (List (Int))) × (Int))) ⊕ (List (List (Int)))) :=
  bif decide (x15 < (↑(List.length x13) : Int)) then chk (decide ((0 : Int) ≤ x15)) (chk (decide (Int.toNat x15 < List.length x13)) (Option.bind (laws_toIntS (List.getD x13 (Int.toNat x15) [])) fun (r16 : (Unit × Unit × Unit) × List Int) => chk (decide ((0 : Int) ≤ x15)) (chk (decide (Int.toNat x15 < List.length x14)) (chk (decide (Int.toNat x15 < List.length x14)) (some (Sum.inl (x13, List.set x14 (Int.toNat x15) (Prod.snd r16), IntKind.wrap IntKind.i64 (x15 + (1 : Int))))))))) else some (Sum.inr x14)
def laws_toIntSS_l58 (x0 : List (List (Int))) (x1 : List (List (Int))) (x2 : Int) : Option (List (List (Int))) := iter (fun d => laws_toIntSS_s58 d.1 d.2.1 d.2.2) bigN (x0, (x1, x2))
def laws_toIntSS_n58 : NEnt := ⟨⟨24, [⟨0, .one, [.dat (.list (.list kI))]⟩, ⟨3, .one, [.own true (.list kI)]⟩, ⟨4, .one, [.dat kI]⟩]⟩, [(.exit 0, ⟨24, [⟨3, .one, [.own true (.list kI)]⟩]⟩)], fun d => laws_toIntSS_l58 d.1 d.2.1 d.2.2⟩
def laws_toIntSS (x12 : List (List (Int))) : Option (((Unit) × ((Unit) × (Unit))) × (List (List (Int)))) :=
  chk (decide (Int.toNat (↑(List.length x12) : Int) ≤ Int.toNat (↑(List.length x12) : Int) ∧ Int.toNat (↑(List.length x12) : Int) ≤ (4294967296 : Nat) ∧ Int.toNat (↑(List.length x12) : Int) * (24 : Nat) ≤ (140737488355328 : Nat))) (Option.bind (laws_toIntSS_l58 x12 (List.replicate (Int.toNat (↑(List.length x12) : Int)) []) (0 : Int)) fun (b17 : List (List Int)) => some (((), (), ()), b17))
def laws_toIntSS_e : FEnt := ⟨23, [.tmp 2], [], [(.one, [.dat (.list (.list kI))])], ⟨24, [⟨2, .one, [.ref 3 0 [] false false (.list kI)]⟩, ⟨3, .one, [.own true (.list kI)]⟩]⟩, fun d => laws_toIntSS d⟩
theorem laws_toIntSS_ok : FnOk Try.prog 18 laws_toIntSS_e := fnOk_mk (bk := [(13, laws_toIntS_e)]) (tb := [(58, laws_toIntSS_n58)]) (c := (Try.f18.body).getD .skip) mixed Try.func18 ⟨laws_toIntS_ok, trivial⟩ (by kernel_rfl) (by kernel_rfl) (by kernel_rfl) ⟨nodeLoop (by kernel_rfl) (fun d => laws_toIntSS_s58 d.1 d.2.1 d.2.2) (by kernel_rfl) (by intro d; kernel_rfl), trivial⟩ (by intro d; kernel_rfl)


/-! spec.l1In -/
def spec_l1In (x6 : Int) (x7 : Int) (x8 : Int) : Option (Bool) :=
  bif decide (x6 ≥ x7) then some (decide (x6 ≤ x8)) else some false
def spec_l1In_e : FEnt := ⟨15, [.tmp 6], [], [(.one, [.dat kI]), (.one, [.dat kI]), (.one, [.dat kI])], ⟨18, [⟨6, .one, [.dat .bool]⟩]⟩, fun d => spec_l1In d.1 d.2.1 d.2.2⟩
theorem spec_l1In_ok : FnOk Try.prog 32 spec_l1In_e := fnOk_mk (bk := []) (tb := []) (c := (Try.f32.body).getD .skip) mixed Try.func32 trivial (by kernel_rfl) (by kernel_rfl) (by kernel_rfl) trivial (by intro d; kernel_rfl)


/-! spec.l21Ok -/
def spec_l21Ok_s7462 (x25 : List (List (Int))) (x26 : Int) (x27 : Int) : Option (((List (List (Int))) × ((Int) × (Int))) ⊕ ((Bool) ⊕ ((List (List (Int))) × (Int)))) :=
  chk (decide ((0 : Int) ≤ x26)) (chk (decide (Int.toNat x26 < List.length x25)) (bif decide (x27 < (↑(List.length (List.getD x25 (Int.toNat x26) [])) : Int)) then chk (decide ((0 : Int) ≤ x26)) (chk (decide (Int.toNat x26 < List.length x25)) (chk (decide ((0 : Int) ≤ x27)) (chk (decide (Int.toNat x27 < List.length (List.getD x25 (Int.toNat x26) []))) (Option.bind (spec_l1In (List.getD (List.getD x25 (Int.toNat x26) []) (Int.toNat x27) (0 : Int)) (1 : Int) (200 : Int)) fun (r28 : Bool) => bif !r28 then some (Sum.inr (Sum.inl false)) else some (Sum.inl (x25, x26, IntKind.wrap IntKind.i64 (x27 + (1 : Int)))))))) else some (Sum.inr (Sum.inr (x25, x26)))))
def spec_l21Ok_l7462 (x0 : List (List (Int))) (x1 : Int) (x2 : Int) : Option ((Bool) ⊕ ((List (List (Int))) × (Int))) := iter (fun d => spec_l21Ok_s7462 d.1 d.2.1 d.2.2) bigN (x0, (x1, x2))
def spec_l21Ok_n7462 : NEnt := ⟨⟨39, [⟨0, .one, [.dat (.list (.list kI))]⟩, ⟨3, .one, [.dat kI]⟩, ⟨4, .one, [.dat kI]⟩]⟩, [(.ret, ⟨39, [⟨2, .one, [.dat .bool]⟩]⟩), (.exit 2, ⟨39, [⟨0, .one, [.dat (.list (.list kI))]⟩, ⟨3, .one, [.dat kI]⟩]⟩)], fun d => spec_l21Ok_l7462 d.1 d.2.1 d.2.2⟩
def spec_l21Ok_s58 (x23 : List (List (Int))) (x24 : Int) : Option (((List (List (Int))) × (Int)) ⊕ ((Bool) ⊕ (Unit))) :=
  bif decide (x24 < (↑(List.length x23) : Int)) then chk (decide ((0 : Int) ≤ x24)) (chk (decide (Int.toNat x24 < List.length x23)) (bif decide ((↑(List.length (List.getD x23 (Int.toNat x24) [])) : Int) > (40 : Int)) then some (Sum.inr (Sum.inl false)) else Option.bind (spec_l21Ok_l7462 x23 x24 (0 : Int)) fun (b29 : Bool ⊕ List (List Int) × Int) => Sum.elim (fun (d30 : Bool) => some (Sum.inr (Sum.inl d30))) (fun (b31 : List (List Int) × Int) => some (Sum.inl (Prod.fst b31, IntKind.wrap IntKind.i64 (Prod.snd b31 + (1 : Int))))) b29)) else some (Sum.inr (Sum.inr ()))
def spec_l21Ok_l58 (x0 : List (List (Int))) (x1 : Int) : Option ((Bool) ⊕ (Unit)) := iter (fun d => spec_l21Ok_s58 d.1 d.2) bigN (x0, x1)
def spec_l21Ok_n58 : NEnt := ⟨⟨39, [⟨0, .one, [.dat (.list (.list kI))]⟩, ⟨3, .one, [.dat kI]⟩]⟩, [(.ret, ⟨39, [⟨2, .one, [.dat .bool]⟩]⟩), (.exit 0, ⟨39, []⟩)], fun d => spec_l21Ok_l58 d.1 d.2⟩
def spec_l21Ok (x22 : List (List (Int))) : Option (Bool) :=
  bif (↑(List.length x22) : Int) != (3 : Int) then some false else Option.bind (spec_l21Ok_l58 x22 (0 : Int)) fun (b32 : Bool ⊕ Unit) => Sum.elim (fun (d33 : Bool) => some d33) (fun (b34 : Unit) => some true) b32
def spec_l21Ok_e : FEnt := ⟨38, [.tmp 2], [], [(.one, [.dat (.list (.list kI))])], ⟨39, [⟨2, .one, [.dat .bool]⟩]⟩, fun d => spec_l21Ok d⟩
theorem spec_l21Ok_ok : FnOk Try.prog 38 spec_l21Ok_e := fnOk_mk (bk := [(32, spec_l1In_e)]) (tb := [(7462, spec_l21Ok_n7462), (58, spec_l21Ok_n58)]) (c := (Try.f38.body).getD .skip) mixed Try.func38 ⟨spec_l1In_ok, trivial⟩ (by kernel_rfl) (by kernel_rfl) (by kernel_rfl) ⟨nodeLoop (by kernel_rfl) (fun d => spec_l21Ok_s7462 d.1 d.2.1 d.2.2) (by kernel_rfl) (by intro d; kernel_rfl), nodeLoop (by kernel_rfl) (fun d => spec_l21Ok_s58 d.1 d.2) (by kernel_rfl) (by intro d; kernel_rfl), trivial⟩ (by intro d; kernel_rfl)


/-! spec.l6Agent -/
def spec_l6Agent (x4 : Int) : Option (Bool) :=
  Option.bind (spec_l1In x4 (0 : Int) (2 : Int)) fun (r5 : Bool) => some r5
def spec_l6Agent_e : FEnt := ⟨5, [.tmp 2], [], [(.one, [.dat kI])], ⟨6, [⟨2, .one, [.dat .bool]⟩]⟩, fun d => spec_l6Agent d⟩
theorem spec_l6Agent_ok : FnOk Try.prog 35 spec_l6Agent_e := fnOk_mk (bk := [(32, spec_l1In_e)]) (tb := []) (c := (Try.f35.body).getD .skip) mixed Try.func35 ⟨spec_l1In_ok, trivial⟩ (by kernel_rfl) (by kernel_rfl) (by kernel_rfl) trivial (by intro d; kernel_rfl)


/-! spec.l1Bit -/
def spec_l1Bit (x2 : Bool) : Option (Int) :=
  bif x2 then some (1 : Int) else some (0 : Int)
def spec_l1Bit_e : FEnt := ⟨4, [.tmp 2], [], [(.one, [.dat .bool])], ⟨5, [⟨2, .one, [.dat kI]⟩]⟩, fun d => spec_l1Bit d⟩
theorem spec_l1Bit_ok : FnOk Try.prog 49 spec_l1Bit_e := fnOk_mk (bk := []) (tb := []) (c := (Try.f49.body).getD .skip) mixed Try.func49 trivial (by kernel_rfl) (by kernel_rfl) (by kernel_rfl) trivial (by intro d; kernel_rfl)


/-! spec.l21Times -/
def spec_l21Times_s58 (x18 : List (Int)) (x19 : Int) (x20 : Int) (x21 : Int) : Option (((List (Int)) × ((Int) × ((Int) × (Int)))) ⊕ (Int)) :=
  bif decide (x21 < (↑(List.length x18) : Int)) then chk (decide ((0 : Int) ≤ x21)) (chk (decide (Int.toNat x21 < List.length x18)) (Option.bind (spec_l1Bit (List.getD x18 (Int.toNat x21) (0 : Int) == x19)) fun (r22 : Int) => some (Sum.inl (x18, x19, IntKind.wrap IntKind.i64 (x20 + r22), IntKind.wrap IntKind.i64 (x21 + (1 : Int)))))) else some (Sum.inr x20)
def spec_l21Times_l58 (x0 : List (Int)) (x1 : Int) (x2 : Int) (x3 : Int) : Option (Int) := iter (fun d => spec_l21Times_s58 d.1 d.2.1 d.2.2.1 d.2.2.2) bigN (x0, (x1, (x2, x3)))
def spec_l21Times_n58 : NEnt := ⟨⟨25, [⟨0, .one, [.dat (.list kI)]⟩, ⟨1, .one, [.dat kI]⟩, ⟨5, .one, [.dat kI]⟩, ⟨6, .one, [.dat kI]⟩]⟩, [(.exit 0, ⟨25, [⟨5, .one, [.dat kI]⟩]⟩)], fun d => spec_l21Times_l58 d.1 d.2.1 d.2.2.1 d.2.2.2⟩
def spec_l21Times (x16 : List (Int)) (x17 : Int) : Option (Int) :=
  Option.bind (spec_l21Times_l58 x16 x17 (0 : Int) (0 : Int)) fun (b23 : Int) => some b23
def spec_l21Times_e : FEnt := ⟨23, [.tmp 4], [], [(.one, [.dat (.list kI)]), (.one, [.dat kI])], ⟨25, [⟨4, .one, [.dat kI]⟩]⟩, fun d => spec_l21Times d.1 d.2⟩
theorem spec_l21Times_ok : FnOk Try.prog 39 spec_l21Times_e := fnOk_mk (bk := [(49, spec_l1Bit_e)]) (tb := [(58, spec_l21Times_n58)]) (c := (Try.f39.body).getD .skip) mixed Try.func39 ⟨spec_l1Bit_ok, trivial⟩ (by kernel_rfl) (by kernel_rfl) (by kernel_rfl) ⟨nodeLoop (by kernel_rfl) (fun d => spec_l21Times_s58 d.1 d.2.1 d.2.2.1 d.2.2.2) (by kernel_rfl) (by intro d; kernel_rfl), trivial⟩ (by intro d; kernel_rfl)


/-! spec.HandLeft -/
def spec_HandLeft (x12 : List (List (Int))) (x13 : List (Int)) (x14 : Int) : Option (Bool) :=
  Option.bind (spec_l21Ok x12) fun (r15 : Bool) => bif r15 then Option.bind (spec_l6Agent x14) fun (r16 : Bool) => bif r16 then chk (decide ((0 : Int) ≤ x14)) (chk (decide (Int.toNat x14 < List.length x12)) (Option.bind (spec_l21Times x13 x14) fun (r17 : Int) => some (decide ((↑(List.length (List.getD x12 (Int.toNat x14) [])) : Int) > r17)))) else some false else some false
def spec_HandLeft_e : FEnt := ⟨24, [.tmp 6], [], [(.one, [.dat (.list (.list kI))]), (.one, [.dat (.list kI)]), (.one, [.dat kI])], ⟨27, [⟨6, .one, [.dat .bool]⟩]⟩, fun d => spec_HandLeft d.1 d.2.1 d.2.2⟩
theorem spec_HandLeft_ok : FnOk Try.prog 17 spec_HandLeft_e := fnOk_mk (bk := [(38, spec_l21Ok_e), (35, spec_l6Agent_e), (39, spec_l21Times_e)]) (tb := []) (c := (Try.f17.body).getD .skip) mixed Try.func17 ⟨spec_l21Ok_ok, spec_l6Agent_ok, spec_l21Times_ok, trivial⟩ (by kernel_rfl) (by kernel_rfl) (by kernel_rfl) trivial (by intro d; kernel_rfl)


/-! impl.within -/
def impl_within (x6 : Int) (x7 : Int) (x8 : Int) : Option (Bool) :=
  bif decide (x6 ≥ x7) then some (decide (x6 ≤ x8)) else some false
def impl_within_e : FEnt := ⟨15, [.tmp 6], [], [(.one, [.dat kI]), (.one, [.dat kI]), (.one, [.dat kI])], ⟨18, [⟨6, .one, [.dat .bool]⟩]⟩, fun d => impl_within d.1 d.2.1 d.2.2⟩
theorem impl_within_ok : FnOk Try.prog 33 impl_within_e := fnOk_mk (bk := []) (tb := []) (c := (Try.f33.body).getD .skip) mixed Try.func33 trivial (by kernel_rfl) (by kernel_rfl) (by kernel_rfl) trivial (by intro d; kernel_rfl)


/-! impl.allWithin -/
def impl_allWithin_s26 (x34 : List (Int)) (x35 : Int) (x36 : Int) (x37 : Int) (x38 : List (Int)) (x39 : Int) (x40 : Int) : Option (((List (Int)) × ((Int) × ((Int) × ((Int) × ((List (Int)) × ((Int) × (Int))))))) ⊕ ((Bool) ⊕ ((List (Int)) × (Int)))) :=
  bif decide (x40 < x39) then chk (decide ((0 : Int) ≤ x40)) (chk (decide (Int.toNat x40 < List.length x38)) (Option.bind (impl_within (List.getD x38 (Int.toNat x40) (0 : Int)) x36 x37) fun (r41 : Bool) => bif !r41 then some (Sum.inr (Sum.inl false)) else some (Sum.inl (x34, x35, x36, x37, x38, x39, IntKind.wrap IntKind.i64 (x40 + (1 : Int)))))) else some (Sum.inr (Sum.inr (x34, x35)))
def impl_allWithin_l26 (x0 : List (Int)) (x1 : Int) (x2 : Int) (x3 : Int) (x4 : List (Int)) (x5 : Int) (x6 : Int) : Option ((Bool) ⊕ ((List (Int)) × (Int))) := iter (fun d => impl_allWithin_s26 d.1 d.2.1 d.2.2.1 d.2.2.2.1 d.2.2.2.2.1 d.2.2.2.2.2.1 d.2.2.2.2.2.2) bigN (x0, (x1, (x2, (x3, (x4, (x5, x6))))))
def impl_allWithin_n26 : NEnt := ⟨⟨31, [⟨0, .one, [.dat (.list kI)]⟩, ⟨1, .one, [.dat kI]⟩, ⟨2, .one, [.dat kI]⟩, ⟨3, .one, [.dat kI]⟩, ⟨11, .one, [.dat (.list kI)]⟩, ⟨12, .one, [.dat kI]⟩, ⟨13, .one, [.dat kI]⟩]⟩, [(.ret, ⟨31, [⟨8, .one, [.dat .bool]⟩]⟩), (.exit 0, ⟨31, [⟨0, .one, [.dat (.list kI)]⟩, ⟨1, .one, [.dat kI]⟩]⟩)], fun d => impl_allWithin_l26 d.1 d.2.1 d.2.2.1 d.2.2.2.1 d.2.2.2.2.1 d.2.2.2.2.2.1 d.2.2.2.2.2.2⟩
def impl_allWithin (x30 : List (Int)) (x31 : Int) (x32 : Int) (x33 : Int) : Option (Bool) :=
  Option.bind (impl_allWithin_l26 x30 x31 x32 x33 x30 (↑(List.length x30) : Int) (0 : Int)) fun (b42 : Bool ⊕ List Int × Int) => Sum.elim (fun (d43 : Bool) => some d43) (fun (b44 : List Int × Int) => some ((↑(List.length (Prod.fst b44)) : Int) == Prod.snd b44)) b42
def impl_allWithin_e : FEnt := ⟨27, [.tmp 8], [], [(.one, [.dat (.list kI)]), (.one, [.dat kI]), (.one, [.dat kI]), (.one, [.dat kI])], ⟨31, [⟨8, .one, [.dat .bool]⟩]⟩, fun d => impl_allWithin d.1 d.2.1 d.2.2.1 d.2.2.2⟩
theorem impl_allWithin_ok : FnOk Try.prog 36 impl_allWithin_e := fnOk_mk (bk := [(33, impl_within_e)]) (tb := [(26, impl_allWithin_n26)]) (c := (Try.f36.body).getD .skip) mixed Try.func36 ⟨impl_within_ok, trivial⟩ (by kernel_rfl) (by kernel_rfl) (by kernel_rfl) ⟨nodeLoop (by kernel_rfl) (fun d => impl_allWithin_s26 d.1 d.2.1 d.2.2.1 d.2.2.2.1 d.2.2.2.2.1 d.2.2.2.2.2.1 d.2.2.2.2.2.2) (by kernel_rfl) (by intro d; kernel_rfl), trivial⟩ (by intro d; kernel_rfl)


/-! impl.loadsOk -/
def impl_loadsOk_s26 (x17 : List (List (Int))) (x18 : List (List (Int))) (x19 : Int) (x20 : Int) : Option (((List (List (Int))) × ((List (List (Int))) × ((Int) × (Int)))) ⊕ ((Bool) ⊕ (List (List (Int))))) :=
  bif decide (x20 < x19) then chk (decide ((0 : Int) ≤ x20)) (chk (decide (Int.toNat x20 < List.length x18)) (bif decide ((↑(List.length (List.getD x18 (Int.toNat x20) [])) : Int) > (40 : Int)) then some (Sum.inr (Sum.inl false)) else Option.bind (impl_allWithin (List.getD x18 (Int.toNat x20) []) (↑(List.length (List.getD x18 (Int.toNat x20) [])) : Int) (1 : Int) (200 : Int)) fun (r21 : Bool) => bif !r21 then some (Sum.inr (Sum.inl false)) else some (Sum.inl (x17, x18, x19, IntKind.wrap IntKind.i64 (x20 + (1 : Int)))))) else some (Sum.inr (Sum.inr x17))
def impl_loadsOk_l26 (x0 : List (List (Int))) (x1 : List (List (Int))) (x2 : Int) (x3 : Int) : Option ((Bool) ⊕ (List (List (Int)))) := iter (fun d => impl_loadsOk_s26 d.1 d.2.1 d.2.2.1 d.2.2.2) bigN (x0, (x1, (x2, x3)))
def impl_loadsOk_n26 : NEnt := ⟨⟨26, [⟨0, .one, [.dat (.list (.list kI))]⟩, ⟨5, .one, [.dat (.list (.list kI))]⟩, ⟨6, .one, [.dat kI]⟩, ⟨7, .one, [.dat kI]⟩]⟩, [(.ret, ⟨26, [⟨2, .one, [.dat .bool]⟩]⟩), (.exit 0, ⟨26, [⟨0, .one, [.dat (.list (.list kI))]⟩]⟩)], fun d => impl_loadsOk_l26 d.1 d.2.1 d.2.2.1 d.2.2.2⟩
def impl_loadsOk (x16 : List (List (Int))) : Option (Bool) :=
  Option.bind (impl_loadsOk_l26 x16 x16 (↑(List.length x16) : Int) (0 : Int)) fun (b22 : Bool ⊕ List (List Int)) => Sum.elim (fun (d23 : Bool) => some d23) (fun (b24 : List (List Int)) => some ((↑(List.length b24) : Int) == (3 : Int))) b22
def impl_loadsOk_e : FEnt := ⟨25, [.tmp 2], [], [(.one, [.dat (.list (.list kI))])], ⟨26, [⟨2, .one, [.dat .bool]⟩]⟩, fun d => impl_loadsOk d⟩
theorem impl_loadsOk_ok : FnOk Try.prog 40 impl_loadsOk_e := fnOk_mk (bk := [(36, impl_allWithin_e)]) (tb := [(26, impl_loadsOk_n26)]) (c := (Try.f40.body).getD .skip) mixed Try.func40 ⟨impl_allWithin_ok, trivial⟩ (by kernel_rfl) (by kernel_rfl) (by kernel_rfl) ⟨nodeLoop (by kernel_rfl) (fun d => impl_loadsOk_s26 d.1 d.2.1 d.2.2.1 d.2.2.2) (by kernel_rfl) (by intro d; kernel_rfl), trivial⟩ (by intro d; kernel_rfl)


/-! impl.often -/
def impl_often_s58 (x18 : Int) (x19 : Int) (x20 : List (Int)) (x21 : Int) (x22 : Int) : Option (((Int) × ((Int) × ((List (Int)) × ((Int) × (Int))))) ⊕ (Int)) :=
  bif decide (x22 < x21) then chk (decide ((0 : Int) ≤ x22)) (chk (decide (Int.toNat x22 < List.length x20)) (bif List.getD x20 (Int.toNat x22) (0 : Int) == x18 then some (Sum.inl (x18, IntKind.wrap IntKind.i64 (x19 + (1 : Int)), x20, x21, IntKind.wrap IntKind.i64 (x22 + (1 : Int)))) else some (Sum.inl (x18, x19, x20, x21, IntKind.wrap IntKind.i64 (x22 + (1 : Int)))))) else some (Sum.inr x19)
def impl_often_l58 (x0 : Int) (x1 : Int) (x2 : List (Int)) (x3 : Int) (x4 : Int) : Option (Int) := iter (fun d => impl_often_s58 d.1 d.2.1 d.2.2.1 d.2.2.2.1 d.2.2.2.2) bigN (x0, (x1, (x2, (x3, x4))))
def impl_often_n58 : NEnt := ⟨⟨23, [⟨1, .one, [.dat kI]⟩, ⟨5, .one, [.dat kI]⟩, ⟨8, .one, [.dat (.list kI)]⟩, ⟨9, .one, [.dat kI]⟩, ⟨10, .one, [.dat kI]⟩]⟩, [(.exit 0, ⟨23, [⟨5, .one, [.dat kI]⟩]⟩)], fun d => impl_often_l58 d.1 d.2.1 d.2.2.1 d.2.2.2.1 d.2.2.2.2⟩
def impl_often (x16 : List (Int)) (x17 : Int) : Option (Int) :=
  Option.bind (impl_often_l58 x17 (0 : Int) x16 (↑(List.length x16) : Int) (0 : Int)) fun (b23 : Int) => some b23
def impl_often_e : FEnt := ⟨21, [.tmp 4], [], [(.one, [.dat (.list kI)]), (.one, [.dat kI])], ⟨23, [⟨4, .one, [.dat kI]⟩]⟩, fun d => impl_often d.1 d.2⟩
theorem impl_often_ok : FnOk Try.prog 41 impl_often_e := fnOk_mk (bk := []) (tb := [(58, impl_often_n58)]) (c := (Try.f41.body).getD .skip) mixed Try.func41 trivial (by kernel_rfl) (by kernel_rfl) (by kernel_rfl) ⟨nodeLoop (by kernel_rfl) (fun d => impl_often_s58 d.1 d.2.1 d.2.2.1 d.2.2.2.1 d.2.2.2.2) (by kernel_rfl) (by intro d; kernel_rfl), trivial⟩ (by intro d; kernel_rfl)


/-! impl.HandLeft -/
def impl_HandLeft (x12 : List (List (Int))) (x13 : List (Int)) (x14 : Int) : Option (Bool) :=
  Option.bind (impl_within x14 (0 : Int) (2 : Int)) fun (r15 : Bool) => bif r15 then Option.bind (impl_loadsOk x12) fun (r16 : Bool) => bif r16 then chk (decide ((0 : Int) ≤ x14)) (chk (decide (Int.toNat x14 < List.length x12)) (Option.bind (impl_often x13 x14) fun (r17 : Int) => some (decide ((↑(List.length (List.getD x12 (Int.toNat x14) [])) : Int) > r17)))) else some false else some false
def impl_HandLeft_e : FEnt := ⟨24, [.tmp 6], [], [(.one, [.dat (.list (.list kI))]), (.one, [.dat (.list kI)]), (.one, [.dat kI])], ⟨27, [⟨6, .one, [.dat .bool]⟩]⟩, fun d => impl_HandLeft d.1 d.2.1 d.2.2⟩
theorem impl_HandLeft_ok : FnOk Try.prog 19 impl_HandLeft_e := fnOk_mk (bk := [(33, impl_within_e), (40, impl_loadsOk_e), (41, impl_often_e)]) (tb := []) (c := (Try.f19.body).getD .skip) mixed Try.func19 ⟨impl_within_ok, impl_loadsOk_ok, impl_often_ok, trivial⟩ (by kernel_rfl) (by kernel_rfl) (by kernel_rfl) trivial (by intro d; kernel_rfl)


/-! laws.eqIntS -/
def laws_eqIntS_s58 (x14 : List (Int)) (x15 : List (Int)) (x16 : Int) : Option (((List (Int)) × ((List (Int)) × (Int))) ⊕ ((Bool) ⊕ (Unit))) :=
  bif decide (x16 < (↑(List.length x14) : Int)) then chk (decide ((0 : Int) ≤ x16)) (chk (decide (Int.toNat x16 < List.length x14)) (chk (decide ((0 : Int) ≤ x16)) (chk (decide (Int.toNat x16 < List.length x15)) (bif List.getD x14 (Int.toNat x16) (0 : Int) != List.getD x15 (Int.toNat x16) (0 : Int) then some (Sum.inr (Sum.inl false)) else some (Sum.inl (x14, x15, IntKind.wrap IntKind.i64 (x16 + (1 : Int)))))))) else some (Sum.inr (Sum.inr ()))
def laws_eqIntS_l58 (x0 : List (Int)) (x1 : List (Int)) (x2 : Int) : Option ((Bool) ⊕ (Unit)) := iter (fun d => laws_eqIntS_s58 d.1 d.2.1 d.2.2) bigN (x0, (x1, x2))
def laws_eqIntS_n58 : NEnt := ⟨⟨28, [⟨0, .one, [.dat (.list kI)]⟩, ⟨1, .one, [.dat (.list kI)]⟩, ⟨5, .one, [.dat kI]⟩]⟩, [(.ret, ⟨28, [⟨4, .one, [.dat .bool]⟩]⟩), (.exit 0, ⟨28, []⟩)], fun d => laws_eqIntS_l58 d.1 d.2.1 d.2.2⟩
def laws_eqIntS (x12 : List (Int)) (x13 : List (Int)) : Option (Bool) :=
  bif (↑(List.length x12) : Int) != (↑(List.length x13) : Int) then some false else Option.bind (laws_eqIntS_l58 x12 x13 (0 : Int)) fun (b17 : Bool ⊕ Unit) => Sum.elim (fun (d18 : Bool) => some d18) (fun (b19 : Unit) => some true) b17
def laws_eqIntS_e : FEnt := ⟨26, [.tmp 4], [], [(.one, [.dat (.list kI)]), (.one, [.dat (.list kI)])], ⟨28, [⟨4, .one, [.dat .bool]⟩]⟩, fun d => laws_eqIntS d.1 d.2⟩
theorem laws_eqIntS_ok : FnOk Try.prog 15 laws_eqIntS_e := fnOk_mk (bk := []) (tb := [(58, laws_eqIntS_n58)]) (c := (Try.f15.body).getD .skip) mixed Try.func15 trivial (by kernel_rfl) (by kernel_rfl) (by kernel_rfl) ⟨nodeLoop (by kernel_rfl) (fun d => laws_eqIntS_s58 d.1 d.2.1 d.2.2) (by kernel_rfl) (by intro d; kernel_rfl), trivial⟩ (by intro d; kernel_rfl)


/-! laws.eqIntSS -/
def laws_eqIntSS_s58 (x16 : List (List (Int))) (x17 : List (List (Int))) (x18 : Int) : Option (((List (List (Int))) × ((List (List (Int))) × (Int))) ⊕ ((Bool) ⊕ (Unit))) :=
  bif decide (x18 < (↑(List.length x16) : Int)) then chk (decide ((0 : Int) ≤ x18)) (chk (decide (Int.toNat x18 < List.length x16)) (chk (decide ((0 : Int) ≤ x18)) (chk (decide (Int.toNat x18 < List.length x17)) (Option.bind (laws_eqIntS (List.getD x16 (Int.toNat x18) []) (List.getD x17 (Int.toNat x18) [])) fun (r19 : Bool) => bif !r19 then some (Sum.inr (Sum.inl false)) else some (Sum.inl (x16, x17, IntKind.wrap IntKind.i64 (x18 + (1 : Int)))))))) else some (Sum.inr (Sum.inr ()))
def laws_eqIntSS_l58 (x0 : List (List (Int))) (x1 : List (List (Int))) (x2 : Int) : Option ((Bool) ⊕ (Unit)) := iter (fun d => laws_eqIntSS_s58 d.1 d.2.1 d.2.2) bigN (x0, (x1, x2))
def laws_eqIntSS_n58 : NEnt := ⟨⟨29, [⟨0, .one, [.dat (.list (.list kI))]⟩, ⟨1, .one, [.dat (.list (.list kI))]⟩, ⟨5, .one, [.dat kI]⟩]⟩, [(.ret, ⟨29, [⟨4, .one, [.dat .bool]⟩]⟩), (.exit 0, ⟨29, []⟩)], fun d => laws_eqIntSS_l58 d.1 d.2.1 d.2.2⟩
def laws_eqIntSS (x14 : List (List (Int))) (x15 : List (List (Int))) : Option (Bool) :=
  bif (↑(List.length x14) : Int) != (↑(List.length x15) : Int) then some false else Option.bind (laws_eqIntSS_l58 x14 x15 (0 : Int)) fun (b20 : Bool ⊕ Unit) => Sum.elim (fun (d21 : Bool) => some d21) (fun (b22 : Unit) => some true) b20
def laws_eqIntSS_e : FEnt := ⟨27, [.tmp 4], [], [(.one, [.dat (.list (.list kI))]), (.one, [.dat (.list (.list kI))])], ⟨29, [⟨4, .one, [.dat .bool]⟩]⟩, fun d => laws_eqIntSS d.1 d.2⟩
theorem laws_eqIntSS_ok : FnOk Try.prog 20 laws_eqIntSS_e := fnOk_mk (bk := [(15, laws_eqIntS_e)]) (tb := [(58, laws_eqIntSS_n58)]) (c := (Try.f20.body).getD .skip) mixed Try.func20 ⟨laws_eqIntS_ok, trivial⟩ (by kernel_rfl) (by kernel_rfl) (by kernel_rfl) ⟨nodeLoop (by kernel_rfl) (fun d => laws_eqIntSS_s58 d.1 d.2.1 d.2.2) (by kernel_rfl) (by intro d; kernel_rfl), trivial⟩ (by intro d; kernel_rfl)


/-! laws.FnExactHandLeft -/
def laws_FnExactHandLeft (x28 : List (List (Int))) (x29 : List (Int)) (x30 : Int) : Option (Bool) :=
  bif decide ((↑(List.length x29) : Int) > (1048576 : Int)) then some true else Option.bind (laws_szIntSS x28 (1048576 : Int)) fun (r31 : Int) => bif decide (r31 < (0 : Int)) then some true else Option.bind (laws_toIntSS x28) fun (r32 : (Unit × Unit × Unit) × List (List Int)) => Option.bind (laws_toIntS x29) fun (r33 : (Unit × Unit × Unit) × List Int) => Option.bind (spec_HandLeft (Prod.snd r32) (Prod.snd r33) x30) fun (r34 : Bool) => Option.bind (laws_toIntSS x28) fun (r35 : (Unit × Unit × Unit) × List (List Int)) => Option.bind (laws_toIntS x29) fun (r36 : (Unit × Unit × Unit) × List Int) => Option.bind (impl_HandLeft (Prod.snd r35) (Prod.snd r36) x30) fun (r37 : Bool) => bif !r37 == r34 then some false else Option.bind (laws_toIntSS x28) fun (r38 : (Unit × Unit × Unit) × List (List Int)) => Option.bind (laws_eqIntSS (Prod.snd r35) (Prod.snd r38)) fun (r39 : Bool) => bif !r39 then some false else Option.bind (laws_toIntS x29) fun (r40 : (Unit × Unit × Unit) × List Int) => Option.bind (laws_eqIntS (Prod.snd r36) (Prod.snd r40)) fun (r41 : Bool) => bif !r41 then some false else some true
def laws_FnExactHandLeft_e : FEnt := ⟨47, [.tmp 6], [], [(.one, [.dat (.list (.list kI))]), (.one, [.dat (.list kI)]), (.one, [.dat kI])], ⟨50, [⟨6, .one, [.dat .bool]⟩]⟩, fun d => laws_FnExactHandLeft d.1 d.2.1 d.2.2⟩
theorem laws_FnExactHandLeft_ok : FnOk Try.prog 5 laws_FnExactHandLeft_e := fnOk_mk (bk := [(16, laws_szIntSS_e), (18, laws_toIntSS_e), (13, laws_toIntS_e), (17, spec_HandLeft_e), (19, impl_HandLeft_e), (20, laws_eqIntSS_e), (15, laws_eqIntS_e)]) (tb := []) (c := (Try.f5.body).getD .skip) mixed Try.func5 ⟨laws_szIntSS_ok, laws_toIntSS_ok, laws_toIntS_ok, spec_HandLeft_ok, impl_HandLeft_ok, laws_eqIntSS_ok, laws_eqIntS_ok, trivial⟩ (by kernel_rfl) (by kernel_rfl) (by kernel_rfl) trivial (by intro d; kernel_rfl)

end Go.Proofs.Ytkdmpinokekdaaa.Tw
