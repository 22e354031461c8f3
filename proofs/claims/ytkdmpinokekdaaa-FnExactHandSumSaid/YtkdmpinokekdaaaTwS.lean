/- Printed by print.lean: typed twins of functions and their proofs. No condition. -/
import Derived.Test.YtkdmpinokekdaaaXI
import Derived.Test.YtkdmpinokekdaaaProg
import Derived.KernelRfl
namespace Go.Proofs.Ytkdmpinokekdaaa.Tw
open Go.Mach
set_option linter.unusedVariables false
set_option maxRecDepth 100000
abbrev kI : K := .int .i64
abbrev kB : K := .int .u8
theorem mixed : Try.prog.follows .mixedOrders = true := by kernel_rfl

/-! laws.szIntS -/
def laws_szIntS (x4 : List (Int)) (x5 : Int) : Option (Int) :=
  bif decide (IntKind.wrap IntKind.i64 (x5 - (↑(List.length x4) : Int)) < (0 : Int)) then some (-1 : Int) else some (IntKind.wrap IntKind.i64 (x5 - (↑(List.length x4) : Int)))
def laws_szIntS_e : FEnt := ⟨12, [.tmp 4], [], [(.one, [.dat (.list kI)]), (.one, [.dat kI])], ⟨16, [⟨4, .one, [.dat kI]⟩]⟩, fun d => laws_szIntS d.1 d.2⟩
theorem laws_szIntS_ok : FnOk Try.prog 37 laws_szIntS_e := fnOk_mk (bk := []) (tb := []) (c := (Try.f37.body).getD .skip) mixed Try.func37 trivial (by kernel_rfl) (by kernel_rfl) (by kernel_rfl) trivial (by intro d; kernel_rfl)


/-! laws.szIntSS -/
def laws_szIntSS_s122 (x18 : List (List (Int))) (x19 : Int) (x20 : Int) : Option (((List (List (Int))) × ((Int) × (Int))) ⊕ ((Int) ⊕ (Int))) :=
  bif decide (x20 < (↑(List.length x18) : Int)) then chk (decide ((0 : Int) ≤ x20)) (chk (decide (Int.toNat x20 < List.length x18)) (Option.bind (laws_szIntS (List.getD x18 (Int.toNat x20) []) x19) fun (r21 : Int) => bif decide (r21 < (0 : Int)) then some (Sum.inr (Sum.inl (-1 : Int))) else some (Sum.inl (x18, r21, IntKind.wrap IntKind.i64 (x20 + (1 : Int)))))) else some (Sum.inr (Sum.inr x19))
def laws_szIntSS_l122 (x0 : List (List (Int))) (x1 : Int) (x2 : Int) : Option ((Int) ⊕ (Int)) := iter (fun d => laws_szIntSS_s122 d.1 d.2.1 d.2.2) bigN (x0, (x1, x2))
def laws_szIntSS_n122 : NEnt := ⟨⟨31, [⟨0, .one, [.dat (.list (.list kI))]⟩, ⟨1, .one, [.dat kI]⟩, ⟨5, .one, [.dat kI]⟩]⟩, [(.ret, ⟨31, [⟨4, .one, [.dat kI]⟩]⟩), (.exit 0, ⟨31, [⟨1, .one, [.dat kI]⟩]⟩)], fun d => laws_szIntSS_l122 d.1 d.2.1 d.2.2⟩
def laws_szIntSS (x16 : List (List (Int))) (x17 : Int) : Option (Int) :=
  bif decide (IntKind.wrap IntKind.i64 (x17 - (↑(List.length x16) : Int)) < (0 : Int)) then some (-1 : Int) else Option.bind (laws_szIntSS_l122 x16 (IntKind.wrap IntKind.i64 (x17 - (↑(List.length x16) : Int))) (0 : Int)) fun (b22 : Int ⊕ Int) => Sum.elim (fun (d23 : Int) => some d23) (fun (b24 : Int) => some b24) b22
def laws_szIntSS_e : FEnt := ⟨27, [.tmp 4], [], [(.one, [.dat (.list (.list kI))]), (.one, [.dat kI])], ⟨31, [⟨4, .one, [.dat kI]⟩]⟩, fun d => laws_szIntSS d.1 d.2⟩
theorem laws_szIntSS_ok : FnOk Try.prog 16 laws_szIntSS_e := fnOk_mk (bk := [(37, laws_szIntS_e)]) (tb := [(122, laws_szIntSS_n122)]) (c := (Try.f16.body).getD .skip) mixed Try.func16 ⟨laws_szIntS_ok, trivial⟩ (by kernel_rfl) (by kernel_rfl) (by kernel_rfl) ⟨nodeLoop (by kernel_rfl) (fun d => laws_szIntSS_s122 d.1 d.2.1 d.2.2) (by kernel_rfl) (by intro d; kernel_rfl), trivial⟩ (by intro d; kernel_rfl)


/-! laws.toIntS -/
def laws_toIntS_s58 (x11 : List (Int)) (x12 : List (Int)) (x13 : Int) : Option (((List (Int)) × ((List (Int)) × (Int))) ⊕ (List (Int))) :=
  bif decide (x13 < (↑(List.length x11) : Int)) then chk (decide ((0 : Int) ≤ x13)) (chk (decide (Int.toNat x13 < List.length x11)) (chk (decide ((0 : Int) ≤ x13)) (chk (decide (Int.toNat x13 < List.length x12)) (chk (decide (Int.toNat x13 < List.length x12)) (some (Sum.inl (x11, List.set x12 (Int.toNat x13) (List.getD x11 (Int.toNat x13) (0 : Int)), IntKind.wrap IntKind.i64 (x13 + (1 : Int))))))))) else some (Sum.inr x12)
def laws_toIntS_l58 (x0 : List (Int)) (x1 : List (Int)) (x2 : Int) : Option (List (Int)) := iter (fun d => laws_toIntS_s58 d.1 d.2.1 d.2.2) bigN (x0, (x1, x2))
def laws_toIntS_n58 : NEnt := ⟨⟨24, [⟨0, .one, [.dat (.list kI)]⟩, ⟨3, .one, [.own true kI]⟩, ⟨4, .one, [.dat kI]⟩]⟩, [(.exit 0, ⟨24, [⟨3, .one, [.own true kI]⟩]⟩)], fun d => laws_toIntS_l58 d.1 d.2.1 d.2.2⟩
def laws_toIntS (x10 : List (Int)) : Option (List (Int)) :=
  chk (decide (Int.toNat (↑(List.length x10) : Int) ≤ Int.toNat (↑(List.length x10) : Int) ∧ Int.toNat (↑(List.length x10) : Int) ≤ (4294967296 : Nat) ∧ Int.toNat (↑(List.length x10) : Int) * (8 : Nat) ≤ (140737488355328 : Nat))) (Option.bind (laws_toIntS_l58 x10 (List.replicate (Int.toNat (↑(List.length x10) : Int)) (0 : Int)) (0 : Int)) fun (b14 : List Int) => some b14)
def laws_toIntS_e : FEnt := ⟨22, [.tmp 2], [], [(.one, [.dat (.list kI)])], ⟨24, [⟨2, .one, [.own true kI]⟩]⟩, fun d => laws_toIntS d⟩
theorem laws_toIntS_ok : FnOk Try.prog 13 laws_toIntS_e := fnOk_mk (bk := []) (tb := [(58, laws_toIntS_n58)]) (c := (Try.f13.body).getD .skip) mixed Try.func13 trivial (by kernel_rfl) (by kernel_rfl) (by kernel_rfl) ⟨nodeLoop (by kernel_rfl) (fun d => laws_toIntS_s58 d.1 d.2.1 d.2.2) (by kernel_rfl) (by intro d; kernel_rfl), trivial⟩ (by intro d; kernel_rfl)


/-! laws.toIntSS -/
def laws_toIntSS_s58 (x13 : List (List (Int))) (x14 : List (List (Int))) (x15 : Int) : Option (((List (List (Int))) × ((List (List (Int))) × (Int))) ⊕ (List (List (Int)))) :=
  bif decide (x15 < (↑(List.length x13) : Int)) then chk (decide ((0 : Int) ≤ x15)) (chk (decide (Int.toNat x15 < List.length x13)) (Option.bind (laws_toIntS (List.getD x13 (Int.toNat x15) [])) fun (r16 : List Int) => chk (decide ((0 : Int) ≤ x15)) (chk (decide (Int.toNat x15 < List.length x14)) (chk (decide (Int.toNat x15 < List.length x14)) (some (Sum.inl (x13, List.set x14 (Int.toNat x15) r16, IntKind.wrap IntKind.i64 (x15 + (1 : Int))))))))) else some (Sum.inr x14)
def laws_toIntSS_l58 (x0 : List (List (Int))) (x1 : List (List (Int))) (x2 : Int) : Option (List (List (Int))) := iter (fun d => laws_toIntSS_s58 d.1 d.2.1 d.2.2) bigN (x0, (x1, x2))
def laws_toIntSS_n58 : NEnt := ⟨⟨25, [⟨0, .one, [.dat (.list (.list kI))]⟩, ⟨3, .one, [.own true (.list kI)]⟩, ⟨4, .one, [.dat kI]⟩]⟩, [(.exit 0, ⟨25, [⟨3, .one, [.own true (.list kI)]⟩]⟩)], fun d => laws_toIntSS_l58 d.1 d.2.1 d.2.2⟩
def laws_toIntSS (x12 : List (List (Int))) : Option (List (List (Int))) :=
  chk (decide (Int.toNat (↑(List.length x12) : Int) ≤ Int.toNat (↑(List.length x12) : Int) ∧ Int.toNat (↑(List.length x12) : Int) ≤ (4294967296 : Nat) ∧ Int.toNat (↑(List.length x12) : Int) * (24 : Nat) ≤ (140737488355328 : Nat))) (Option.bind (laws_toIntSS_l58 x12 (List.replicate (Int.toNat (↑(List.length x12) : Int)) []) (0 : Int)) fun (b17 : List (List Int)) => some b17)
def laws_toIntSS_e : FEnt := ⟨23, [.tmp 2], [], [(.one, [.dat (.list (.list kI))])], ⟨25, [⟨2, .one, [.own true (.list kI)]⟩]⟩, fun d => laws_toIntSS d⟩
theorem laws_toIntSS_ok : FnOk Try.prog 18 laws_toIntSS_e := fnOk_mk (bk := [(13, laws_toIntS_e)]) (tb := [(58, laws_toIntSS_n58)]) (c := (Try.f18.body).getD .skip) mixed Try.func18 ⟨laws_toIntS_ok, trivial⟩ (by kernel_rfl) (by kernel_rfl) (by kernel_rfl) ⟨nodeLoop (by kernel_rfl) (fun d => laws_toIntSS_s58 d.1 d.2.1 d.2.2) (by kernel_rfl) (by intro d; kernel_rfl), trivial⟩ (by intro d; kernel_rfl)


/-! spec.l1In -/
def spec_l1In (x6 : Int) (x7 : Int) (x8 : Int) : Option (Bool) :=
  bif decide (x6 ≥ x7) then some (decide (x6 ≤ x8)) else some false
def spec_l1In_e : FEnt := ⟨15, [.tmp 6], [], [(.one, [.dat kI]), (.one, [.dat kI]), (.one, [.dat kI])], ⟨21, [⟨6, .one, [.dat .bool]⟩]⟩, fun d => spec_l1In d.1 d.2.1 d.2.2⟩
theorem spec_l1In_ok : FnOk Try.prog 32 spec_l1In_e := fnOk_mk (bk := []) (tb := []) (c := (Try.f32.body).getD .skip) mixed Try.func32 trivial (by kernel_rfl) (by kernel_rfl) (by kernel_rfl) trivial (by intro d; kernel_rfl)


/-! spec.l21Ok -/
def spec_l21Ok_s7462 (x25 : List (List (Int))) (x26 : Int) (x27 : Int) : Option (((List (List (Int))) × ((Int) × (Int))) ⊕ ((Bool) ⊕ ((List (List (Int))) × (Int)))) :=
  chk (decide ((0 : Int) ≤ x26)) (chk (decide (Int.toNat x26 < List.length x25)) (bif decide (x27 < (↑(List.length (List.getD x25 (Int.toNat x26) [])) : Int)) then chk (decide ((0 : Int) ≤ x26)) (chk (decide (Int.toNat x26 < List.length x25)) (chk (decide ((0 : Int) ≤ x27)) (chk (decide (Int.toNat x27 < List.length (List.getD x25 (Int.toNat x26) []))) (Option.bind (spec_l1In (List.getD (List.getD x25 (Int.toNat x26) []) (Int.toNat x27) (0 : Int)) (1 : Int) (200 : Int)) fun (r28 : Bool) => bif !r28 then some (Sum.inr (Sum.inl false)) else some (Sum.inl (x25, x26, IntKind.wrap IntKind.i64 (x27 + (1 : Int)))))))) else some (Sum.inr (Sum.inr (x25, x26)))))
def spec_l21Ok_l7462 (x0 : List (List (Int))) (x1 : Int) (x2 : Int) : Option ((Bool) ⊕ ((List (List (Int))) × (Int))) := iter (fun d => spec_l21Ok_s7462 d.1 d.2.1 d.2.2) bigN (x0, (x1, x2))
def spec_l21Ok_n7462 : NEnt := ⟨⟨40, [⟨0, .one, [.dat (.list (.list kI))]⟩, ⟨3, .one, [.dat kI]⟩, ⟨4, .one, [.dat kI]⟩]⟩, [(.ret, ⟨40, [⟨2, .one, [.dat .bool]⟩]⟩), (.exit 2, ⟨40, [⟨0, .one, [.dat (.list (.list kI))]⟩, ⟨3, .one, [.dat kI]⟩]⟩)], fun d => spec_l21Ok_l7462 d.1 d.2.1 d.2.2⟩
def spec_l21Ok_s58 (x23 : List (List (Int))) (x24 : Int) : Option (((List (List (Int))) × (Int)) ⊕ ((Bool) ⊕ (Unit))) :=
  bif decide (x24 < (↑(List.length x23) : Int)) then chk (decide ((0 : Int) ≤ x24)) (chk (decide (Int.toNat x24 < List.length x23)) (bif decide ((↑(List.length (List.getD x23 (Int.toNat x24) [])) : Int) > (40 : Int)) then some (Sum.inr (Sum.inl false)) else Option.bind (spec_l21Ok_l7462 x23 x24 (0 : Int)) fun (b29 : Bool ⊕ List (List Int) × Int) => Sum.elim (fun (d30 : Bool) => some (Sum.inr (Sum.inl d30))) (fun (b31 : List (List Int) × Int) => some (Sum.inl (Prod.fst b31, IntKind.wrap IntKind.i64 (Prod.snd b31 + (1 : Int))))) b29)) else some (Sum.inr (Sum.inr ()))
def spec_l21Ok_l58 (x0 : List (List (Int))) (x1 : Int) : Option ((Bool) ⊕ (Unit)) := iter (fun d => spec_l21Ok_s58 d.1 d.2) bigN (x0, x1)
def spec_l21Ok_n58 : NEnt := ⟨⟨40, [⟨0, .one, [.dat (.list (.list kI))]⟩, ⟨3, .one, [.dat kI]⟩]⟩, [(.ret, ⟨40, [⟨2, .one, [.dat .bool]⟩]⟩), (.exit 0, ⟨40, []⟩)], fun d => spec_l21Ok_l58 d.1 d.2⟩
def spec_l21Ok (x22 : List (List (Int))) : Option (Bool) :=
  bif (↑(List.length x22) : Int) != (3 : Int) then some false else Option.bind (spec_l21Ok_l58 x22 (0 : Int)) fun (b32 : Bool ⊕ Unit) => Sum.elim (fun (d33 : Bool) => some d33) (fun (b34 : Unit) => some true) b32
def spec_l21Ok_e : FEnt := ⟨38, [.tmp 2], [], [(.one, [.dat (.list (.list kI))])], ⟨40, [⟨2, .one, [.dat .bool]⟩]⟩, fun d => spec_l21Ok d⟩
theorem spec_l21Ok_ok : FnOk Try.prog 38 spec_l21Ok_e := fnOk_mk (bk := [(32, spec_l1In_e)]) (tb := [(7462, spec_l21Ok_n7462), (58, spec_l21Ok_n58)]) (c := (Try.f38.body).getD .skip) mixed Try.func38 ⟨spec_l1In_ok, trivial⟩ (by kernel_rfl) (by kernel_rfl) (by kernel_rfl) ⟨nodeLoop (by kernel_rfl) (fun d => spec_l21Ok_s7462 d.1 d.2.1 d.2.2) (by kernel_rfl) (by intro d; kernel_rfl), nodeLoop (by kernel_rfl) (fun d => spec_l21Ok_s58 d.1 d.2) (by kernel_rfl) (by intro d; kernel_rfl), trivial⟩ (by intro d; kernel_rfl)


/-! spec.l1Bit -/
def spec_l1Bit (x2 : Bool) : Option (Int) :=
  bif x2 then some (1 : Int) else some (0 : Int)
def spec_l1Bit_e : FEnt := ⟨4, [.tmp 2], [], [(.one, [.dat .bool])], ⟨6, [⟨2, .one, [.dat kI]⟩]⟩, fun d => spec_l1Bit d⟩
theorem spec_l1Bit_ok : FnOk Try.prog 49 spec_l1Bit_e := fnOk_mk (bk := []) (tb := []) (c := (Try.f49.body).getD .skip) mixed Try.func49 trivial (by kernel_rfl) (by kernel_rfl) (by kernel_rfl) trivial (by intro d; kernel_rfl)


/-! spec.l21Times -/
def spec_l21Times_s58 (x18 : List (Int)) (x19 : Int) (x20 : Int) (x21 : Int) : Option (((List (Int)) × ((Int) × ((Int) × (Int)))) ⊕ (Int)) :=
  bif decide (x21 < (↑(List.length x18) : Int)) then chk (decide ((0 : Int) ≤ x21)) (chk (decide (Int.toNat x21 < List.length x18)) (Option.bind (spec_l1Bit (List.getD x18 (Int.toNat x21) (0 : Int) == x19)) fun (r22 : Int) => some (Sum.inl (x18, x19, IntKind.wrap IntKind.i64 (x20 + r22), IntKind.wrap IntKind.i64 (x21 + (1 : Int)))))) else some (Sum.inr x20)
def spec_l21Times_l58 (x0 : List (Int)) (x1 : Int) (x2 : Int) (x3 : Int) : Option (Int) := iter (fun d => spec_l21Times_s58 d.1 d.2.1 d.2.2.1 d.2.2.2) bigN (x0, (x1, (x2, x3)))
def spec_l21Times_n58 : NEnt := ⟨⟨27, [⟨0, .one, [.dat (.list kI)]⟩, ⟨1, .one, [.dat kI]⟩, ⟨5, .one, [.dat kI]⟩, ⟨6, .one, [.dat kI]⟩]⟩, [(.exit 0, ⟨27, [⟨5, .one, [.dat kI]⟩]⟩)], fun d => spec_l21Times_l58 d.1 d.2.1 d.2.2.1 d.2.2.2⟩
def spec_l21Times (x16 : List (Int)) (x17 : Int) : Option (Int) :=
  Option.bind (spec_l21Times_l58 x16 x17 (0 : Int) (0 : Int)) fun (b23 : Int) => some b23
def spec_l21Times_e : FEnt := ⟨23, [.tmp 4], [], [(.one, [.dat (.list kI)]), (.one, [.dat kI])], ⟨27, [⟨4, .one, [.dat kI]⟩]⟩, fun d => spec_l21Times d.1 d.2⟩
theorem spec_l21Times_ok : FnOk Try.prog 39 spec_l21Times_e := fnOk_mk (bk := [(49, spec_l1Bit_e)]) (tb := [(58, spec_l21Times_n58)]) (c := (Try.f39.body).getD .skip) mixed Try.func39 ⟨spec_l1Bit_ok, trivial⟩ (by kernel_rfl) (by kernel_rfl) (by kernel_rfl) ⟨nodeLoop (by kernel_rfl) (fun d => spec_l21Times_s58 d.1 d.2.1 d.2.2.1 d.2.2.2) (by kernel_rfl) (by intro d; kernel_rfl), trivial⟩ (by intro d; kernel_rfl)


/-! spec.HandSum -/
def spec_HandSum_s31306 (x47 : List (List (Int))) (x48 : List (Int)) (x49 : List (Int)) (x50 : Int) (x51 : Int) (x52 : Int) : Option (((List (List (Int))) × ((List (Int)) × ((List (Int)) × ((Int) × ((Int) × (Int)))))) ⊕ ((List (List (Int))) × ((List (Int)) × ((List (Int)) × ((Int) × (Int)))))) :=
  chk (decide ((0 : Int) ≤ x50)) (chk (decide (Int.toNat x50 < List.length x47)) (bif decide (x52 < (↑(List.length (List.getD x47 (Int.toNat x50) [])) : Int)) then Option.bind (spec_l21Times x48 x50) fun (r53 : Int) => bif decide (x52 < r53) then chk (decide ((0 : Int) ≤ x50)) (chk (decide (Int.toNat x50 < List.length x47)) (chk (decide ((0 : Int) ≤ x52)) (chk (decide (Int.toNat x52 < List.length (List.getD x47 (Int.toNat x50) []))) (some (Sum.inl (x47, x48, x49, x50, IntKind.wrap IntKind.i64 (x51 + List.getD (List.getD x47 (Int.toNat x50) []) (Int.toNat x52) (0 : Int)), IntKind.wrap IntKind.i64 (x52 + (1 : Int)))))))) else some (Sum.inr (x47, x48, x49, x50, x51)) else some (Sum.inr (x47, x48, x49, x50, x51))))
def spec_HandSum_l31306 (x0 : List (List (Int))) (x1 : List (Int)) (x2 : List (Int)) (x3 : Int) (x4 : Int) (x5 : Int) : Option ((List (List (Int))) × ((List (Int)) × ((List (Int)) × ((Int) × (Int))))) := iter (fun d => spec_HandSum_s31306 d.1 d.2.1 d.2.2.1 d.2.2.2.1 d.2.2.2.2.1 d.2.2.2.2.2) bigN (x0, (x1, (x2, (x3, (x4, x5)))))
def spec_HandSum_n31306 : NEnt := ⟨⟨52, [⟨0, .one, [.dat (.list (.list kI))]⟩, ⟨1, .one, [.dat (.list kI)]⟩, ⟨5, .one, [.own true kI]⟩, ⟨6, .one, [.dat kI]⟩, ⟨7, .one, [.dat kI]⟩, ⟨8, .one, [.dat kI]⟩]⟩, [(.exit 2, ⟨52, [⟨0, .one, [.dat (.list (.list kI))]⟩, ⟨1, .one, [.dat (.list kI)]⟩, ⟨5, .one, [.own true kI]⟩, ⟨6, .one, [.dat kI]⟩, ⟨7, .one, [.dat kI]⟩]⟩)], fun d => spec_HandSum_l31306 d.1 d.2.1 d.2.2.1 d.2.2.2.1 d.2.2.2.2.1 d.2.2.2.2.2⟩
def spec_HandSum_s122 (x43 : List (List (Int))) (x44 : List (Int)) (x45 : List (Int)) (x46 : Int) : Option (((List (List (Int))) × ((List (Int)) × ((List (Int)) × (Int)))) ⊕ (List (Int))) :=
  bif decide (x46 < (3 : Int)) then Option.bind (spec_HandSum_l31306 x43 x44 x45 x46 (0 : Int) (0 : Int)) fun (b54 : List (List Int) × List Int × List Int × Int × Int) => chk (fits (List.length (Prod.fst (Prod.snd (Prod.snd b54))) + List.length [Prod.snd (Prod.snd (Prod.snd (Prod.snd b54)))]) (8 : Nat)) (some (Sum.inl (Prod.fst b54, Prod.fst (Prod.snd b54), Prod.fst (Prod.snd (Prod.snd b54)) ++ [Prod.snd (Prod.snd (Prod.snd (Prod.snd b54)))], IntKind.wrap IntKind.i64 (Prod.fst (Prod.snd (Prod.snd (Prod.snd b54))) + (1 : Int))))) else some (Sum.inr x45)
def spec_HandSum_l122 (x0 : List (List (Int))) (x1 : List (Int)) (x2 : List (Int)) (x3 : Int) : Option (List (Int)) := iter (fun d => spec_HandSum_s122 d.1 d.2.1 d.2.2.1 d.2.2.2) bigN (x0, (x1, (x2, x3)))
def spec_HandSum_n122 : NEnt := ⟨⟨52, [⟨0, .one, [.dat (.list (.list kI))]⟩, ⟨1, .one, [.dat (.list kI)]⟩, ⟨5, .one, [.own true kI]⟩, ⟨6, .one, [.dat kI]⟩]⟩, [(.exit 0, ⟨52, [⟨5, .one, [.own true kI]⟩]⟩)], fun d => spec_HandSum_l122 d.1 d.2.1 d.2.2.1 d.2.2.2⟩
def spec_HandSum (x40 : List (List (Int))) (x41 : List (Int)) : Option (List (Int)) :=
  Option.bind (spec_l21Ok x40) fun (r42 : Bool) => bif !r42 then some [] else Option.bind (spec_HandSum_l122 x40 x41 [] (0 : Int)) fun (b55 : List Int) => some b55
def spec_HandSum_e : FEnt := ⟨48, [.tmp 4], [], [(.one, [.dat (.list (.list kI))]), (.one, [.dat (.list kI)])], ⟨52, [⟨4, .one, [.own true kI]⟩]⟩, fun d => spec_HandSum d.1 d.2⟩
theorem spec_HandSum_ok : FnOk Try.prog 21 spec_HandSum_e := fnOk_mk (bk := [(38, spec_l21Ok_e), (39, spec_l21Times_e)]) (tb := [(31306, spec_HandSum_n31306), (122, spec_HandSum_n122)]) (c := (Try.f21.body).getD .skip) mixed Try.func21 ⟨spec_l21Ok_ok, spec_l21Times_ok, trivial⟩ (by kernel_rfl) (by kernel_rfl) (by kernel_rfl) ⟨nodeLoop (by kernel_rfl) (fun d => spec_HandSum_s31306 d.1 d.2.1 d.2.2.1 d.2.2.2.1 d.2.2.2.2.1 d.2.2.2.2.2) (by kernel_rfl) (by intro d; kernel_rfl), nodeLoop (by kernel_rfl) (fun d => spec_HandSum_s122 d.1 d.2.1 d.2.2.1 d.2.2.2) (by kernel_rfl) (by intro d; kernel_rfl), trivial⟩ (by intro d; kernel_rfl)


/-! impl.within -/
def impl_within (x6 : Int) (x7 : Int) (x8 : Int) : Option (Bool) :=
  bif decide (x6 ≥ x7) then some (decide (x6 ≤ x8)) else some false
def impl_within_e : FEnt := ⟨15, [.tmp 6], [], [(.one, [.dat kI]), (.one, [.dat kI]), (.one, [.dat kI])], ⟨21, [⟨6, .one, [.dat .bool]⟩]⟩, fun d => impl_within d.1 d.2.1 d.2.2⟩
theorem impl_within_ok : FnOk Try.prog 33 impl_within_e := fnOk_mk (bk := []) (tb := []) (c := (Try.f33.body).getD .skip) mixed Try.func33 trivial (by kernel_rfl) (by kernel_rfl) (by kernel_rfl) trivial (by intro d; kernel_rfl)


/-! impl.allWithin -/
def impl_allWithin_s26 (x34 : List (Int)) (x35 : Int) (x36 : Int) (x37 : Int) (x38 : List (Int)) (x39 : Int) (x40 : Int) : Option (((List (Int)) × ((Int) × ((Int) × ((Int) × ((List (Int)) × ((Int) × (Int))))))) ⊕ ((Bool) ⊕ ((List (Int)) × (Int)))) :=
  bif decide (x40 < x39) then chk (decide ((0 : Int) ≤ x40)) (chk (decide (Int.toNat x40 < List.length x38)) (Option.bind (impl_within (List.getD x38 (Int.toNat x40) (0 : Int)) x36 x37) fun (r41 : Bool) => bif !r41 then some (Sum.inr (Sum.inl false)) else some (Sum.inl (x34, x35, x36, x37, x38, x39, IntKind.wrap IntKind.i64 (x40 + (1 : Int)))))) else some (Sum.inr (Sum.inr (x34, x35)))
def impl_allWithin_l26 (x0 : List (Int)) (x1 : Int) (x2 : Int) (x3 : Int) (x4 : List (Int)) (x5 : Int) (x6 : Int) : Option ((Bool) ⊕ ((List (Int)) × (Int))) := iter (fun d => impl_allWithin_s26 d.1 d.2.1 d.2.2.1 d.2.2.2.1 d.2.2.2.2.1 d.2.2.2.2.2.1 d.2.2.2.2.2.2) bigN (x0, (x1, (x2, (x3, (x4, (x5, x6))))))
def impl_allWithin_n26 : NEnt := ⟨⟨35, [⟨0, .one, [.dat (.list kI)]⟩, ⟨1, .one, [.dat kI]⟩, ⟨2, .one, [.dat kI]⟩, ⟨3, .one, [.dat kI]⟩, ⟨11, .one, [.dat (.list kI)]⟩, ⟨12, .one, [.dat kI]⟩, ⟨13, .one, [.dat kI]⟩]⟩, [(.ret, ⟨35, [⟨8, .one, [.dat .bool]⟩]⟩), (.exit 0, ⟨35, [⟨0, .one, [.dat (.list kI)]⟩, ⟨1, .one, [.dat kI]⟩]⟩)], fun d => impl_allWithin_l26 d.1 d.2.1 d.2.2.1 d.2.2.2.1 d.2.2.2.2.1 d.2.2.2.2.2.1 d.2.2.2.2.2.2⟩
def impl_allWithin (x30 : List (Int)) (x31 : Int) (x32 : Int) (x33 : Int) : Option (Bool) :=
  Option.bind (impl_allWithin_l26 x30 x31 x32 x33 x30 (↑(List.length x30) : Int) (0 : Int)) fun (b42 : Bool ⊕ List Int × Int) => Sum.elim (fun (d43 : Bool) => some d43) (fun (b44 : List Int × Int) => some ((↑(List.length (Prod.fst b44)) : Int) == Prod.snd b44)) b42
def impl_allWithin_e : FEnt := ⟨27, [.tmp 8], [], [(.one, [.dat (.list kI)]), (.one, [.dat kI]), (.one, [.dat kI]), (.one, [.dat kI])], ⟨35, [⟨8, .one, [.dat .bool]⟩]⟩, fun d => impl_allWithin d.1 d.2.1 d.2.2.1 d.2.2.2⟩
theorem impl_allWithin_ok : FnOk Try.prog 36 impl_allWithin_e := fnOk_mk (bk := [(33, impl_within_e)]) (tb := [(26, impl_allWithin_n26)]) (c := (Try.f36.body).getD .skip) mixed Try.func36 ⟨impl_within_ok, trivial⟩ (by kernel_rfl) (by kernel_rfl) (by kernel_rfl) ⟨nodeLoop (by kernel_rfl) (fun d => impl_allWithin_s26 d.1 d.2.1 d.2.2.1 d.2.2.2.1 d.2.2.2.2.1 d.2.2.2.2.2.1 d.2.2.2.2.2.2) (by kernel_rfl) (by intro d; kernel_rfl), trivial⟩ (by intro d; kernel_rfl)


/-! impl.loadsOk -/
def impl_loadsOk_s26 (x17 : List (List (Int))) (x18 : List (List (Int))) (x19 : Int) (x20 : Int) : Option (((List (List (Int))) × ((List (List (Int))) × ((Int) × (Int)))) ⊕ ((Bool) ⊕ (List (List (Int))))) :=
  bif decide (x20 < x19) then chk (decide ((0 : Int) ≤ x20)) (chk (decide (Int.toNat x20 < List.length x18)) (bif decide ((↑(List.length (List.getD x18 (Int.toNat x20) [])) : Int) > (40 : Int)) then some (Sum.inr (Sum.inl false)) else Option.bind (impl_allWithin (List.getD x18 (Int.toNat x20) []) (↑(List.length (List.getD x18 (Int.toNat x20) [])) : Int) (1 : Int) (200 : Int)) fun (r21 : Bool) => bif !r21 then some (Sum.inr (Sum.inl false)) else some (Sum.inl (x17, x18, x19, IntKind.wrap IntKind.i64 (x20 + (1 : Int)))))) else some (Sum.inr (Sum.inr x17))
def impl_loadsOk_l26 (x0 : List (List (Int))) (x1 : List (List (Int))) (x2 : Int) (x3 : Int) : Option ((Bool) ⊕ (List (List (Int)))) := iter (fun d => impl_loadsOk_s26 d.1 d.2.1 d.2.2.1 d.2.2.2) bigN (x0, (x1, (x2, x3)))
def impl_loadsOk_n26 : NEnt := ⟨⟨27, [⟨0, .one, [.dat (.list (.list kI))]⟩, ⟨5, .one, [.dat (.list (.list kI))]⟩, ⟨6, .one, [.dat kI]⟩, ⟨7, .one, [.dat kI]⟩]⟩, [(.ret, ⟨27, [⟨2, .one, [.dat .bool]⟩]⟩), (.exit 0, ⟨27, [⟨0, .one, [.dat (.list (.list kI))]⟩]⟩)], fun d => impl_loadsOk_l26 d.1 d.2.1 d.2.2.1 d.2.2.2⟩
def impl_loadsOk (x16 : List (List (Int))) : Option (Bool) :=
  Option.bind (impl_loadsOk_l26 x16 x16 (↑(List.length x16) : Int) (0 : Int)) fun (b22 : Bool ⊕ List (List Int)) => Sum.elim (fun (d23 : Bool) => some d23) (fun (b24 : List (List Int)) => some ((↑(List.length b24) : Int) == (3 : Int))) b22
def impl_loadsOk_e : FEnt := ⟨25, [.tmp 2], [], [(.one, [.dat (.list (.list kI))])], ⟨27, [⟨2, .one, [.dat .bool]⟩]⟩, fun d => impl_loadsOk d⟩
theorem impl_loadsOk_ok : FnOk Try.prog 40 impl_loadsOk_e := fnOk_mk (bk := [(36, impl_allWithin_e)]) (tb := [(26, impl_loadsOk_n26)]) (c := (Try.f40.body).getD .skip) mixed Try.func40 ⟨impl_allWithin_ok, trivial⟩ (by kernel_rfl) (by kernel_rfl) (by kernel_rfl) ⟨nodeLoop (by kernel_rfl) (fun d => impl_loadsOk_s26 d.1 d.2.1 d.2.2.1 d.2.2.2) (by kernel_rfl) (by intro d; kernel_rfl), trivial⟩ (by intro d; kernel_rfl)


/-! impl.often -/
def impl_often_s58 (x18 : Int) (x19 : Int) (x20 : List (Int)) (x21 : Int) (x22 : Int) : Option (((Int) × ((Int) × ((List (Int)) × ((Int) × (Int))))) ⊕ (Int)) :=
  bif decide (x22 < x21) then chk (decide ((0 : Int) ≤ x22)) (chk (decide (Int.toNat x22 < List.length x20)) (bif List.getD x20 (Int.toNat x22) (0 : Int) == x18 then some (Sum.inl (x18, IntKind.wrap IntKind.i64 (x19 + (1 : Int)), x20, x21, IntKind.wrap IntKind.i64 (x22 + (1 : Int)))) else some (Sum.inl (x18, x19, x20, x21, IntKind.wrap IntKind.i64 (x22 + (1 : Int)))))) else some (Sum.inr x19)
def impl_often_l58 (x0 : Int) (x1 : Int) (x2 : List (Int)) (x3 : Int) (x4 : Int) : Option (Int) := iter (fun d => impl_often_s58 d.1 d.2.1 d.2.2.1 d.2.2.2.1 d.2.2.2.2) bigN (x0, (x1, (x2, (x3, x4))))
def impl_often_n58 : NEnt := ⟨⟨25, [⟨1, .one, [.dat kI]⟩, ⟨5, .one, [.dat kI]⟩, ⟨8, .one, [.dat (.list kI)]⟩, ⟨9, .one, [.dat kI]⟩, ⟨10, .one, [.dat kI]⟩]⟩, [(.exit 0, ⟨25, [⟨5, .one, [.dat kI]⟩]⟩)], fun d => impl_often_l58 d.1 d.2.1 d.2.2.1 d.2.2.2.1 d.2.2.2.2⟩
def impl_often (x16 : List (Int)) (x17 : Int) : Option (Int) :=
  Option.bind (impl_often_l58 x17 (0 : Int) x16 (↑(List.length x16) : Int) (0 : Int)) fun (b23 : Int) => some b23
def impl_often_e : FEnt := ⟨21, [.tmp 4], [], [(.one, [.dat (.list kI)]), (.one, [.dat kI])], ⟨25, [⟨4, .one, [.dat kI]⟩]⟩, fun d => impl_often d.1 d.2⟩
theorem impl_often_ok : FnOk Try.prog 41 impl_often_e := fnOk_mk (bk := []) (tb := [(58, impl_often_n58)]) (c := (Try.f41.body).getD .skip) mixed Try.func41 trivial (by kernel_rfl) (by kernel_rfl) (by kernel_rfl) ⟨nodeLoop (by kernel_rfl) (fun d => impl_often_s58 d.1 d.2.1 d.2.2.1 d.2.2.2.1 d.2.2.2.2) (by kernel_rfl) (by intro d; kernel_rfl), trivial⟩ (by intro d; kernel_rfl)


/-! impl.HandSum -/
def impl_HandSum_s125338 (x80 : List (Int)) (x81 : List (Int)) (x82 : Int) (x83 : List (List (Int))) (x84 : Int) (x85 : Int) (x86 : List (Int)) (x87 : Int) (x88 : Int) : Option (((List (Int)) × ((List (Int)) × ((Int) × ((List (List (Int))) × ((Int) × ((Int) × ((List (Int)) × ((Int) × (Int))))))))) ⊕ ((List (Int)) × ((List (Int)) × ((Int) × ((List (List (Int))) × ((Int) × (Int))))))) :=
  bif decide (x88 < x87) then chk (decide ((0 : Int) ≤ x88)) (chk (decide (Int.toNat x88 < List.length x86)) (some (Sum.inl (x80, x81, IntKind.wrap IntKind.i64 (x82 + List.getD x86 (Int.toNat x88) (0 : Int)), x83, x84, x85, x86, x87, IntKind.wrap IntKind.i64 (x88 + (1 : Int)))))) else some (Sum.inr (x80, x81, x82, x83, x84, x85))
def impl_HandSum_l125338 (x0 : List (Int)) (x1 : List (Int)) (x2 : Int) (x3 : List (List (Int))) (x4 : Int) (x5 : Int) (x6 : List (Int)) (x7 : Int) (x8 : Int) : Option ((List (Int)) × ((List (Int)) × ((Int) × ((List (List (Int))) × ((Int) × (Int)))))) := iter (fun d => impl_HandSum_s125338 d.1 d.2.1 d.2.2.1 d.2.2.2.1 d.2.2.2.2.1 d.2.2.2.2.2.1 d.2.2.2.2.2.2.1 d.2.2.2.2.2.2.2.1 d.2.2.2.2.2.2.2.2) bigN (x0, (x1, (x2, (x3, (x4, (x5, (x6, (x7, x8))))))))
def impl_HandSum_n125338 : NEnt := ⟨⟨48, [⟨1, .one, [.dat (.list kI)]⟩, ⟨5, .one, [.own true kI]⟩, ⟨8, .one, [.dat kI]⟩, ⟨14, .one, [.dat (.list (.list kI))]⟩, ⟨15, .one, [.dat kI]⟩, ⟨16, .one, [.dat kI]⟩, ⟨28, .one, [.dat (.list kI)]⟩, ⟨29, .one, [.dat kI]⟩, ⟨30, .one, [.dat kI]⟩]⟩, [(.exit 2, ⟨48, [⟨1, .one, [.dat (.list kI)]⟩, ⟨5, .one, [.own true kI]⟩, ⟨8, .one, [.dat kI]⟩, ⟨14, .one, [.dat (.list (.list kI))]⟩, ⟨15, .one, [.dat kI]⟩, ⟨16, .one, [.dat kI]⟩]⟩)], fun d => impl_HandSum_l125338 d.1 d.2.1 d.2.2.1 d.2.2.2.1 d.2.2.2.2.1 d.2.2.2.2.2.1 d.2.2.2.2.2.2.1 d.2.2.2.2.2.2.2.1 d.2.2.2.2.2.2.2.2⟩
def impl_HandSum_s122 (x74 : List (Int)) (x75 : List (Int)) (x76 : List (List (Int))) (x77 : Int) (x78 : Int) : Option (((List (Int)) × ((List (Int)) × ((List (List (Int))) × ((Int) × (Int))))) ⊕ (List (Int))) :=
  bif decide (x78 < x77) then chk (decide ((0 : Int) ≤ x78)) (chk (decide (Int.toNat x78 < List.length x76)) (Option.bind (impl_often x74 x78) fun (r79 : Int) => chk (decide ((0 : Int) ≤ if r79 < (↑(List.length (List.getD x76 (Int.toNat x78) [])) : Int) then r79 else (↑(List.length (List.getD x76 (Int.toNat x78) [])) : Int))) (chk (decide ((0 : Nat) ≤ Int.toNat (if r79 < (↑(List.length (List.getD x76 (Int.toNat x78) [])) : Int) then r79 else (↑(List.length (List.getD x76 (Int.toNat x78) [])) : Int)) ∧ Int.toNat (if r79 < (↑(List.length (List.getD x76 (Int.toNat x78) [])) : Int) then r79 else (↑(List.length (List.getD x76 (Int.toNat x78) [])) : Int)) ≤ List.length (List.getD x76 (Int.toNat x78) []))) (Option.bind (impl_HandSum_l125338 x74 x75 (0 : Int) x76 x77 x78 (List.take (Int.toNat (if r79 < (↑(List.length (List.getD x76 (Int.toNat x78) [])) : Int) then r79 else (↑(List.length (List.getD x76 (Int.toNat x78) [])) : Int))) (List.getD x76 (Int.toNat x78) [])) (↑(List.length (List.take (Int.toNat (if r79 < (↑(List.length (List.getD x76 (Int.toNat x78) [])) : Int) then r79 else (↑(List.length (List.getD x76 (Int.toNat x78) [])) : Int))) (List.getD x76 (Int.toNat x78) []))) : Int) (0 : Int)) fun (b89 : List Int × List Int × Int × List (List Int) × Int × Int) => chk (fits (List.length (Prod.fst (Prod.snd b89)) + List.length [Prod.fst (Prod.snd (Prod.snd b89))]) (8 : Nat)) (some (Sum.inl (Prod.fst b89, Prod.fst (Prod.snd b89) ++ [Prod.fst (Prod.snd (Prod.snd b89))], Prod.fst (Prod.snd (Prod.snd (Prod.snd b89))), Prod.fst (Prod.snd (Prod.snd (Prod.snd (Prod.snd b89)))), IntKind.wrap IntKind.i64 (Prod.snd (Prod.snd (Prod.snd (Prod.snd (Prod.snd b89)))) + (1 : Int))))))))) else some (Sum.inr x75)
def impl_HandSum_l122 (x0 : List (Int)) (x1 : List (Int)) (x2 : List (List (Int))) (x3 : Int) (x4 : Int) : Option (List (Int)) := iter (fun d => impl_HandSum_s122 d.1 d.2.1 d.2.2.1 d.2.2.2.1 d.2.2.2.2) bigN (x0, (x1, (x2, (x3, x4))))
def impl_HandSum_n122 : NEnt := ⟨⟨48, [⟨1, .one, [.dat (.list kI)]⟩, ⟨5, .one, [.own true kI]⟩, ⟨14, .one, [.dat (.list (.list kI))]⟩, ⟨15, .one, [.dat kI]⟩, ⟨16, .one, [.dat kI]⟩]⟩, [(.exit 0, ⟨48, [⟨5, .one, [.own true kI]⟩]⟩)], fun d => impl_HandSum_l122 d.1 d.2.1 d.2.2.1 d.2.2.2.1 d.2.2.2.2⟩
def impl_HandSum (x71 : List (List (Int))) (x72 : List (Int)) : Option (List (Int)) :=
  Option.bind (impl_loadsOk x71) fun (r73 : Bool) => bif !r73 then some [] else Option.bind (impl_HandSum_l122 x72 [] x71 (↑(List.length x71) : Int) (0 : Int)) fun (b90 : List Int) => some b90
def impl_HandSum_e : FEnt := ⟨44, [.tmp 4], [], [(.one, [.dat (.list (.list kI))]), (.one, [.dat (.list kI)])], ⟨48, [⟨4, .one, [.own true kI]⟩]⟩, fun d => impl_HandSum d.1 d.2⟩
theorem impl_HandSum_ok : FnOk Try.prog 22 impl_HandSum_e := fnOk_mk (bk := [(40, impl_loadsOk_e), (41, impl_often_e)]) (tb := [(125338, impl_HandSum_n125338), (122, impl_HandSum_n122)]) (c := (Try.f22.body).getD .skip) mixed Try.func22 ⟨impl_loadsOk_ok, impl_often_ok, trivial⟩ (by kernel_rfl) (by kernel_rfl) (by kernel_rfl) ⟨nodeLoop (by kernel_rfl) (fun d => impl_HandSum_s125338 d.1 d.2.1 d.2.2.1 d.2.2.2.1 d.2.2.2.2.1 d.2.2.2.2.2.1 d.2.2.2.2.2.2.1 d.2.2.2.2.2.2.2.1 d.2.2.2.2.2.2.2.2) (by kernel_rfl) (by intro d; kernel_rfl), nodeLoop (by kernel_rfl) (fun d => impl_HandSum_s122 d.1 d.2.1 d.2.2.1 d.2.2.2.1 d.2.2.2.2) (by kernel_rfl) (by intro d; kernel_rfl), trivial⟩ (by intro d; kernel_rfl)


/-! laws.eqIntS -/
def laws_eqIntS_s58 (x14 : List (Int)) (x15 : List (Int)) (x16 : Int) : Option (((List (Int)) × ((List (Int)) × (Int))) ⊕ ((Bool) ⊕ (Unit))) :=
  bif decide (x16 < (↑(List.length x14) : Int)) then chk (decide ((0 : Int) ≤ x16)) (chk (decide (Int.toNat x16 < List.length x14)) (chk (decide ((0 : Int) ≤ x16)) (chk (decide (Int.toNat x16 < List.length x15)) (bif List.getD x14 (Int.toNat x16) (0 : Int) != List.getD x15 (Int.toNat x16) (0 : Int) then some (Sum.inr (Sum.inl false)) else some (Sum.inl (x14, x15, IntKind.wrap IntKind.i64 (x16 + (1 : Int)))))))) else some (Sum.inr (Sum.inr ()))
def laws_eqIntS_l58 (x0 : List (Int)) (x1 : List (Int)) (x2 : Int) : Option ((Bool) ⊕ (Unit)) := iter (fun d => laws_eqIntS_s58 d.1 d.2.1 d.2.2) bigN (x0, (x1, x2))
def laws_eqIntS_n58 : NEnt := ⟨⟨30, [⟨0, .one, [.dat (.list kI)]⟩, ⟨1, .one, [.dat (.list kI)]⟩, ⟨5, .one, [.dat kI]⟩]⟩, [(.ret, ⟨30, [⟨4, .one, [.dat .bool]⟩]⟩), (.exit 0, ⟨30, []⟩)], fun d => laws_eqIntS_l58 d.1 d.2.1 d.2.2⟩
def laws_eqIntS (x12 : List (Int)) (x13 : List (Int)) : Option (Bool) :=
  bif (↑(List.length x12) : Int) != (↑(List.length x13) : Int) then some false else Option.bind (laws_eqIntS_l58 x12 x13 (0 : Int)) fun (b17 : Bool ⊕ Unit) => Sum.elim (fun (d18 : Bool) => some d18) (fun (b19 : Unit) => some true) b17
def laws_eqIntS_e : FEnt := ⟨26, [.tmp 4], [], [(.one, [.dat (.list kI)]), (.one, [.dat (.list kI)])], ⟨30, [⟨4, .one, [.dat .bool]⟩]⟩, fun d => laws_eqIntS d.1 d.2⟩
theorem laws_eqIntS_ok : FnOk Try.prog 15 laws_eqIntS_e := fnOk_mk (bk := []) (tb := [(58, laws_eqIntS_n58)]) (c := (Try.f15.body).getD .skip) mixed Try.func15 trivial (by kernel_rfl) (by kernel_rfl) (by kernel_rfl) ⟨nodeLoop (by kernel_rfl) (fun d => laws_eqIntS_s58 d.1 d.2.1 d.2.2) (by kernel_rfl) (by intro d; kernel_rfl), trivial⟩ (by intro d; kernel_rfl)


/-! laws.eqIntSS -/
def laws_eqIntSS_s58 (x16 : List (List (Int))) (x17 : List (List (Int))) (x18 : Int) : Option (((List (List (Int))) × ((List (List (Int))) × (Int))) ⊕ ((Bool) ⊕ (Unit))) :=
  bif decide (x18 < (↑(List.length x16) : Int)) then chk (decide ((0 : Int) ≤ x18)) (chk (decide (Int.toNat x18 < List.length x16)) (chk (decide ((0 : Int) ≤ x18)) (chk (decide (Int.toNat x18 < List.length x17)) (Option.bind (laws_eqIntS (List.getD x16 (Int.toNat x18) []) (List.getD x17 (Int.toNat x18) [])) fun (r19 : Bool) => bif !r19 then some (Sum.inr (Sum.inl false)) else some (Sum.inl (x16, x17, IntKind.wrap IntKind.i64 (x18 + (1 : Int)))))))) else some (Sum.inr (Sum.inr ()))
def laws_eqIntSS_l58 (x0 : List (List (Int))) (x1 : List (List (Int))) (x2 : Int) : Option ((Bool) ⊕ (Unit)) := iter (fun d => laws_eqIntSS_s58 d.1 d.2.1 d.2.2) bigN (x0, (x1, x2))
def laws_eqIntSS_n58 : NEnt := ⟨⟨31, [⟨0, .one, [.dat (.list (.list kI))]⟩, ⟨1, .one, [.dat (.list (.list kI))]⟩, ⟨5, .one, [.dat kI]⟩]⟩, [(.ret, ⟨31, [⟨4, .one, [.dat .bool]⟩]⟩), (.exit 0, ⟨31, []⟩)], fun d => laws_eqIntSS_l58 d.1 d.2.1 d.2.2⟩
def laws_eqIntSS (x14 : List (List (Int))) (x15 : List (List (Int))) : Option (Bool) :=
  bif (↑(List.length x14) : Int) != (↑(List.length x15) : Int) then some false else Option.bind (laws_eqIntSS_l58 x14 x15 (0 : Int)) fun (b20 : Bool ⊕ Unit) => Sum.elim (fun (d21 : Bool) => some d21) (fun (b22 : Unit) => some true) b20
def laws_eqIntSS_e : FEnt := ⟨27, [.tmp 4], [], [(.one, [.dat (.list (.list kI))]), (.one, [.dat (.list (.list kI))])], ⟨31, [⟨4, .one, [.dat .bool]⟩]⟩, fun d => laws_eqIntSS d.1 d.2⟩
theorem laws_eqIntSS_ok : FnOk Try.prog 20 laws_eqIntSS_e := fnOk_mk (bk := [(15, laws_eqIntS_e)]) (tb := [(58, laws_eqIntSS_n58)]) (c := (Try.f20.body).getD .skip) mixed Try.func20 ⟨laws_eqIntS_ok, trivial⟩ (by kernel_rfl) (by kernel_rfl) (by kernel_rfl) ⟨nodeLoop (by kernel_rfl) (fun d => laws_eqIntSS_s58 d.1 d.2.1 d.2.2) (by kernel_rfl) (by intro d; kernel_rfl), trivial⟩ (by intro d; kernel_rfl)


/-! laws.markIntS -/
def laws_markIntS_s26 (x16 : Int) (x17 : Int) (x18 : List (Int)) : Option ((((Unit) × ((Unit) × (Unit))) × ((Int) × ((Int) × (List (Int))))) ⊕ ((Int) × (List (Int)))) :=
  bif decide (x17 < (↑(List.length x18) : Int)) then chk (decide ((0 : Int) ≤ x17)) (chk (decide (Int.toNat x17 < List.length x18)) (chk (decide (Int.toNat x17 < List.length x18)) (some (Sum.inl (((), (), ()), IntKind.wrap IntKind.i64 (x16 + (1 : Int)), IntKind.wrap IntKind.i64 (x17 + (1 : Int)), List.set x18 (Int.toNat x17) x16))))) else some (Sum.inr (x16, x18))
def laws_markIntS_l26 (x0 : Int) (x1 : Int) (x2 : List (Int)) : Option ((Int) × (List (Int))) := iter (fun d => laws_markIntS_s26 d.2.1 d.2.2.1 d.2.2.2) bigN (((), ((), ())), (x0, (x1, x2)))
def laws_markIntS_n26 : NEnt := ⟨⟨23, [⟨0, .one, [.ref 19 0 [] false false kI]⟩, ⟨1, .one, [.dat kI]⟩, ⟨5, .one, [.dat kI]⟩, ⟨19, .agg, [.own true kI]⟩]⟩, [(.exit 0, ⟨23, [⟨1, .one, [.dat kI]⟩, ⟨19, .agg, [.own true kI]⟩]⟩)], fun d => laws_markIntS_l26 d.2.1 d.2.2.1 d.2.2.2⟩
def laws_markIntS (x14 : List (Int)) (x15 : Int) : Option ((Int) × (List (Int))) :=
  Option.bind (laws_markIntS_l26 x15 (0 : Int) x14) fun (b19 : Int × List Int) => some (Prod.fst b19, Prod.snd b19)
def laws_markIntS_e : FEnt := ⟨19, [.tmp 4], [true, false], [(.one, [.own true kI]), (.one, [.dat kI])], ⟨23, [⟨4, .one, [.dat kI]⟩, ⟨19, .agg, [.own true kI]⟩]⟩, fun d => laws_markIntS d.1 d.2⟩
theorem laws_markIntS_ok : FnOk Try.prog 24 laws_markIntS_e := fnOk_mk (bk := []) (tb := [(26, laws_markIntS_n26)]) (c := (Try.f24.body).getD .skip) mixed Try.func24 trivial (by kernel_rfl) (by kernel_rfl) (by kernel_rfl) ⟨nodeLoop (by kernel_rfl) (fun d => laws_markIntS_s26 d.2.1 d.2.2.1 d.2.2.2) (by kernel_rfl) (by intro d; kernel_rfl), trivial⟩ (by intro d; kernel_rfl)


/-! laws.markIntSS -/
def laws_markIntSS_s26 (x18 : Int) (x19 : Int) (x20 : List (List (Int))) : Option ((((Unit) × ((Unit) × (Unit))) × ((Int) × ((Int) × (List (List (Int)))))) ⊕ ((Int) × (List (List (Int))))) :=
  bif decide (x19 < (↑(List.length x20) : Int)) then chk (decide ((0 : Int) ≤ x19)) (chk (decide (Int.toNat x19 < List.length x20)) (chk (decide (Int.toNat x19 < List.length x20)) (Option.bind (laws_markIntS (List.getD x20 (Int.toNat x19) []) x18) fun (r21 : Int × List Int) => some (Sum.inl (((), (), ()), Prod.fst r21, IntKind.wrap IntKind.i64 (x19 + (1 : Int)), List.set x20 (Int.toNat x19) (Prod.snd r21)))))) else some (Sum.inr (x18, x20))
def laws_markIntSS_l26 (x0 : Int) (x1 : Int) (x2 : List (List (Int))) : Option ((Int) × (List (List (Int)))) := iter (fun d => laws_markIntSS_s26 d.2.1 d.2.2.1 d.2.2.2) bigN (((), ((), ())), (x0, (x1, x2)))
def laws_markIntSS_n26 : NEnt := ⟨⟨23, [⟨0, .one, [.ref 19 0 [] false false (.list kI)]⟩, ⟨1, .one, [.dat kI]⟩, ⟨5, .one, [.dat kI]⟩, ⟨19, .agg, [.own true (.list kI)]⟩]⟩, [(.exit 0, ⟨23, [⟨1, .one, [.dat kI]⟩, ⟨19, .agg, [.own true (.list kI)]⟩]⟩)], fun d => laws_markIntSS_l26 d.2.1 d.2.2.1 d.2.2.2⟩
def laws_markIntSS (x16 : List (List (Int))) (x17 : Int) : Option ((Int) × (List (List (Int)))) :=
  Option.bind (laws_markIntSS_l26 x17 (0 : Int) x16) fun (b22 : Int × List (List Int)) => some (Prod.fst b22, Prod.snd b22)
def laws_markIntSS_e : FEnt := ⟨19, [.tmp 4], [true, false], [(.one, [.own true (.list kI)]), (.one, [.dat kI])], ⟨23, [⟨4, .one, [.dat kI]⟩, ⟨19, .agg, [.own true (.list kI)]⟩]⟩, fun d => laws_markIntSS d.1 d.2⟩
theorem laws_markIntSS_ok : FnOk Try.prog 23 laws_markIntSS_e := fnOk_mk (bk := [(24, laws_markIntS_e)]) (tb := [(26, laws_markIntSS_n26)]) (c := (Try.f23.body).getD .skip) mixed Try.func23 ⟨laws_markIntS_ok, trivial⟩ (by kernel_rfl) (by kernel_rfl) (by kernel_rfl) ⟨nodeLoop (by kernel_rfl) (fun d => laws_markIntSS_s26 d.2.1 d.2.2.1 d.2.2.2) (by kernel_rfl) (by intro d; kernel_rfl), trivial⟩ (by intro d; kernel_rfl)


/-! laws.heldIntS -/
def laws_heldIntS_s26 (x16 : List (Int)) (x17 : Int) (x18 : Int) : Option (((List (Int)) × ((Int) × (Int))) ⊕ ((Int) ⊕ (Int))) :=
  bif decide (x18 < (↑(List.length x16) : Int)) then chk (decide ((0 : Int) ≤ x18)) (chk (decide (Int.toNat x18 < List.length x16)) (bif List.getD x16 (Int.toNat x18) (0 : Int) != x17 then some (Sum.inr (Sum.inl (-1 : Int))) else some (Sum.inl (x16, IntKind.wrap IntKind.i64 (x17 + (1 : Int)), IntKind.wrap IntKind.i64 (x18 + (1 : Int)))))) else some (Sum.inr (Sum.inr x17))
def laws_heldIntS_l26 (x0 : List (Int)) (x1 : Int) (x2 : Int) : Option ((Int) ⊕ (Int)) := iter (fun d => laws_heldIntS_s26 d.1 d.2.1 d.2.2) bigN (x0, (x1, x2))
def laws_heldIntS_n26 : NEnt := ⟨⟨25, [⟨0, .one, [.dat (.list kI)]⟩, ⟨1, .one, [.dat kI]⟩, ⟨5, .one, [.dat kI]⟩]⟩, [(.ret, ⟨25, [⟨4, .one, [.dat kI]⟩]⟩), (.exit 0, ⟨25, [⟨1, .one, [.dat kI]⟩]⟩)], fun d => laws_heldIntS_l26 d.1 d.2.1 d.2.2⟩
def laws_heldIntS (x14 : List (Int)) (x15 : Int) : Option (Int) :=
  Option.bind (laws_heldIntS_l26 x14 x15 (0 : Int)) fun (b19 : Int ⊕ Int) => Sum.elim (fun (d20 : Int) => some d20) (fun (b21 : Int) => some b21) b19
def laws_heldIntS_e : FEnt := ⟨21, [.tmp 4], [], [(.one, [.dat (.list kI)]), (.one, [.dat kI])], ⟨25, [⟨4, .one, [.dat kI]⟩]⟩, fun d => laws_heldIntS d.1 d.2⟩
theorem laws_heldIntS_ok : FnOk Try.prog 25 laws_heldIntS_e := fnOk_mk (bk := []) (tb := [(26, laws_heldIntS_n26)]) (c := (Try.f25.body).getD .skip) mixed Try.func25 trivial (by kernel_rfl) (by kernel_rfl) (by kernel_rfl) ⟨nodeLoop (by kernel_rfl) (fun d => laws_heldIntS_s26 d.1 d.2.1 d.2.2) (by kernel_rfl) (by intro d; kernel_rfl), trivial⟩ (by intro d; kernel_rfl)


/-! laws.FnExactHandSum -/
def laws_FnExactHandSum (x48 : List (List (Int))) (x49 : List (Int)) : Option (Bool) :=
  bif decide ((↑(List.length x49) : Int) > (1048576 : Int)) then some true else Option.bind (laws_szIntSS x48 (1048576 : Int)) fun (r50 : Int) => bif decide (r50 < (0 : Int)) then some true else Option.bind (laws_toIntSS x48) fun (r51 : List (List Int)) => Option.bind (laws_toIntS x49) fun (r52 : List Int) => Option.bind (spec_HandSum r51 r52) fun (r53 : List Int) => Option.bind (laws_toIntSS x48) fun (r54 : List (List Int)) => Option.bind (laws_toIntS x49) fun (r55 : List Int) => Option.bind (impl_HandSum r54 r55) fun (r56 : List Int) => Option.bind (laws_eqIntS r56 r53) fun (r57 : Bool) => bif !r57 then some false else Option.bind (laws_toIntSS x48) fun (r58 : List (List Int)) => Option.bind (laws_eqIntSS r54 r58) fun (r59 : Bool) => bif !r59 then some false else Option.bind (laws_toIntS x49) fun (r60 : List Int) => Option.bind (laws_eqIntS r55 r60) fun (r61 : Bool) => bif !r61 then some false else Option.bind (laws_markIntSS r54 (1 : Int)) fun (r62 : Int × List (List Int)) => Option.bind (laws_markIntS r55 (Prod.fst r62)) fun (r63 : Int × List Int) => bif decide (Prod.fst r63 < (0 : Int)) then some false else Option.bind (laws_eqIntS r56 r53) fun (r64 : Bool) => bif !r64 then some false else Option.bind (laws_markIntS r56 (1 : Int)) fun (r65 : Int × List Int) => Option.bind (laws_heldIntS (Prod.snd r65) (1 : Int)) fun (r66 : Int) => bif decide (r66 < (0 : Int)) then some false else bif r66 != Prod.fst r65 then some false else Option.bind (laws_toIntSS x48) fun (r67 : List (List Int)) => Option.bind (laws_toIntS x49) fun (r68 : List Int) => Option.bind (impl_HandSum r67 r68) fun (r69 : List Int) => Option.bind (laws_eqIntS r69 r53) fun (r70 : Bool) => bif !r70 then some false else Option.bind (laws_heldIntS (Prod.snd r65) (1 : Int)) fun (r71 : Int) => bif decide (r71 < (0 : Int)) then some false else bif r71 != Prod.fst r65 then some false else some true
def laws_FnExactHandSum_e : FEnt := ⟨90, [.tmp 4], [], [(.one, [.dat (.list (.list kI))]), (.one, [.dat (.list kI)])], ⟨94, [⟨4, .one, [.dat .bool]⟩]⟩, fun d => laws_FnExactHandSum d.1 d.2⟩
theorem laws_FnExactHandSum_ok : FnOk Try.prog 6 laws_FnExactHandSum_e := fnOk_mk (bk := [(16, laws_szIntSS_e), (18, laws_toIntSS_e), (13, laws_toIntS_e), (21, spec_HandSum_e), (22, impl_HandSum_e), (15, laws_eqIntS_e), (20, laws_eqIntSS_e), (23, laws_markIntSS_e), (24, laws_markIntS_e), (25, laws_heldIntS_e)]) (tb := []) (c := (Try.f6.body).getD .skip) mixed Try.func6 ⟨laws_szIntSS_ok, laws_toIntSS_ok, laws_toIntS_ok, spec_HandSum_ok, impl_HandSum_ok, laws_eqIntS_ok, laws_eqIntSS_ok, laws_markIntSS_ok, laws_markIntS_ok, laws_heldIntS_ok, trivial⟩ (by kernel_rfl) (by kernel_rfl) (by kernel_rfl) trivial (by intro d; kernel_rfl)


end Go.Proofs.Ytkdmpinokekdaaa.Tw
