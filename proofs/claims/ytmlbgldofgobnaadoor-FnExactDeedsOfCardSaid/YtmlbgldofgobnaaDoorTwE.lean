/- Printed by print.lean: typed twins of functions and their proofs. No condition. -/
import Derived.Test.YtmlbgldofgobnaaDoorV
import Derived.Test.YtmlbgldofgobnaaDoorExt
import Derived.Test.YtmlbgldofgobnaaDoorProg
import Derived.KernelRfl
namespace Go.Proofs.YtmlbgldofgobnaaDoor.Tw
open Go.Mach
set_option linter.unusedVariables false
set_option maxRecDepth 100000
abbrev kI : K := .int .i64
abbrev kB : K := .int .u8
abbrev t0 : Type := List UInt8 × Int × Int
abbrev t1 : Type := Int × Int × Int × Unit
abbrev t2 : Type := Int × Int × Int × List Int
abbrev t3 : Type := List (List UInt8) × Int × Int
abbrev t4 : Type := Int × t2
abbrev t5 : Type := Int × Int × t1
abbrev t6 : Type := Int × t4
abbrev kk1 : K := (.pair kI (.pair kI (.pair kI (.pair kI (.pair kI (.list kI))))))
abbrev kk0 : K := (.list kk1)
abbrev cc0 : List PC := [.dat kI, .dat kI, .dat kI, .dat kI, .dat kI, .dat (.list kI)]
abbrev cc1 : List PC := [.dat kI, .dat kI, .dat kI, .dat kI, .dat kI, .own true kI]
abbrev cc2 : List PC := [.dat kI, .dat kI, .dat kI, .dat kI, .dat kI, .nil]
theorem mixed : Tryd.prog.follows .mixedOrders = true := by kernel_rfl

/-! spec.Parts -/
def spec_Parts_s122 : List UInt8 × Int × t3 → Option (List UInt8 × Int × t3 ⊕ List (List UInt8))
  | (a, b, c, d, e) => bif decide (e ≤ (ln a)) then bif e == (ln a) then g0 d (g0 e (chk (decide ((d.toNat ≤ e.toNat) ∧ (e.toNat ≤ a.length))) (chk (fits (c.length + [List.drop d.toNat (List.take e.toNat a)].length) 16) (some (.inl (a, b, c ++ [List.drop d.toNat (List.take e.toNat a)], w64 (e + 1), w64 (e + 1))))))) else ix e a.length (bif (Int.ofNat (UInt8.toNat (List.getD a (Int.toNat e) (0 : UInt8)))) == b then g0 d (g0 e (chk (decide ((d.toNat ≤ e.toNat) ∧ (e.toNat ≤ a.length))) (chk (fits (c.length + [List.drop d.toNat (List.take e.toNat a)].length) 16) (some (.inl (a, b, c ++ [List.drop d.toNat (List.take e.toNat a)], w64 (e + 1), w64 (e + 1))))))) else some (.inl (a, b, c, d, w64 (e + 1)))) else some (.inr c)
def spec_Parts_n122 : NEnt := ⟨⟨40, [⟨0, .one, [.dat .str]⟩, ⟨1, .one, [.dat kB]⟩, ⟨5, .one, [.own true .str]⟩, ⟨6, .one, [.dat kI]⟩, ⟨7, .one, [.dat kI]⟩]⟩, [(.exit 0, ⟨40, [⟨5, .one, [.own true .str]⟩]⟩)], lp spec_Parts_s122⟩
def spec_Parts : List UInt8 × Int → Option (List (List UInt8))
  | (a, b) => (lp spec_Parts_s122 (a, b, [], 0, 0)).bind fun c => some c
def spec_Parts_e : FEnt := ⟨36, [.tmp 4], [], [(.one, [.dat .str]), (.one, [.dat kB])], ⟨40, [⟨4, .one, [.own true .str]⟩]⟩, spec_Parts⟩
theorem spec_Parts_ok : FnOk Tryd.prog 25 spec_Parts_e := fnOk_mk (tb := [(122, spec_Parts_n122)]) (c := (Tryd.f25.body).getD .skip) mixed Tryd.func25 bN (by kernel_rfl) (by kernel_rfl) (by kernel_rfl) ⟨nodeLoop (by kernel_rfl) spec_Parts_s122 (by kernel_rfl) (by intro d; kernel_rfl), trivial⟩ (by intro d; kernel_rfl)


/-! spec.Digits -/
def spec_Digits_s124 : Int × Bool × List UInt8 → Option (Int × Bool × List UInt8 ⊕ Bool × List UInt8)
  | (a, b, c) => bif a != 0 then bif decide ((Int.tmod a 10) < 0) then (some (List.map (fun (n : Int) => UInt8.ofNat (Int.toNat n)) [IntKind.wrap IntKind.u8 (IntKind.wrap IntKind.i64 ((48 : Int) + IntKind.wrap IntKind.i64 ((0 : Int) - Int.tmod a (10 : Int))))])).bind fun d => chk (decide ((d.length + c.length) ≤ 1099511627776)) (some (.inl (w64 (Int.tdiv a 10), b, d ++ c))) else chk (decide (((List.map (fun (n : Int) => UInt8.ofNat (Int.toNat n)) [IntKind.wrap IntKind.u8 (IntKind.wrap IntKind.i64 ((48 : Int) + Int.tmod a (10 : Int)))]).length + c.length) ≤ 1099511627776)) ((some ((List.map (fun (n : Int) => UInt8.ofNat (Int.toNat n)) [IntKind.wrap IntKind.u8 (IntKind.wrap IntKind.i64 ((48 : Int) + Int.tmod a (10 : Int)))]) ++ c)).bind fun d => some (.inl (w64 (Int.tdiv a 10), b, d))) else some (.inr (b, c))
def spec_Digits_n124 : NEnt := ⟨⟨33, [⟨0, .one, [.dat kI]⟩, ⟨3, .one, [.dat .bool]⟩, ⟨4, .one, [.dat .str]⟩]⟩, [(.exit 0, ⟨33, [⟨3, .one, [.dat .bool]⟩, ⟨4, .one, [.dat .str]⟩]⟩)], lp spec_Digits_s124⟩
def spec_Digits : Int → Option (List UInt8)
  | a => bif a == 0 then some (Array.toList (ByteArray.data { data := #[(48 : UInt8)] })) else (lp spec_Digits_s124 (a, decide (a < 0), Array.toList (ByteArray.data { data := #[] }))).bind fun (b, c) => bif b then chk (decide ((1 + c.length) ≤ 1099511627776)) (some ((Array.toList (ByteArray.data { data := #[(45 : UInt8)] })) ++ c)) else some c
def spec_Digits_e : FEnt := ⟨31, [.tmp 2], [], [(.one, [.dat kI])], ⟨33, [⟨2, .one, [.dat .str]⟩]⟩, spec_Digits⟩
theorem spec_Digits_ok : FnOk Tryd.prog 40 spec_Digits_e := fnOk_mk (tb := [(124, spec_Digits_n124)]) (c := (Tryd.f40.body).getD .skip) mixed Tryd.func40 bN (by kernel_rfl) (by kernel_rfl) (by kernel_rfl) ⟨nodeLoop (by kernel_rfl) spec_Digits_s124 (by kernel_rfl) (by intro d; kernel_rfl), trivial⟩ (by intro d; kernel_rfl)


/-! spec.Number -/
def spec_Number_s122 : t0 → Option (t0 ⊕ Int × Bool ⊕ List UInt8 × Int)
  | (a, b, c) => bif decide (c < (ln a)) then ix c a.length (bif decide ((Int.ofNat (UInt8.toNat (List.getD a (Int.toNat c) (0 : UInt8)))) < 48) then some (.inr (.inl (0, false))) else ix c a.length (bif decide ((Int.ofNat (UInt8.toNat (List.getD a (Int.toNat c) (0 : UInt8)))) > 57) then some (.inr (.inl (0, false))) else ix c a.length ((some (w64 ((w64 ((w64 (10 * b)) + (w64 (Int.ofNat (UInt8.toNat (List.getD a (Int.toNat c) (0 : UInt8))))))) - 48))).bind fun d => some (.inl (a, d, w64 (c + 1)))))) else some (.inr (.inr (a, b)))
def spec_Number_n122 : NEnt := ⟨⟨45, [⟨0, .one, [.dat .str]⟩, ⟨4, .one, [.dat kI]⟩, ⟨5, .one, [.dat kI]⟩]⟩, [(.ret, ⟨45, [⟨2, .one, [.dat kI]⟩, ⟨3, .one, [.dat .bool]⟩]⟩), (.exit 0, ⟨45, [⟨0, .one, [.dat .str]⟩, ⟨4, .one, [.dat kI]⟩]⟩)], lp spec_Number_s122⟩
def spec_Number : List UInt8 → Option (Int × Bool)
  | a => bif decide ((ln a) < 1) then some (0, false) else bif decide ((ln a) > 6) then some (0, false) else bx (lp spec_Number_s122 (a, 0, 0)) (fun (b, c) => some (b, c)) fun (b, c) => (spec_Digits c).bind fun d => bif !(d == b) then some (0, false) else some (c, true)
def spec_Number_e : FEnt := ⟨43, [.tmp 2, .tmp 3], [], [(.one, [.dat .str])], ⟨45, [⟨2, .one, [.dat kI]⟩, ⟨3, .one, [.dat .bool]⟩]⟩, spec_Number⟩
theorem spec_Number_ok : FnOk Tryd.prog 26 spec_Number_e := fnOk_mk (tb := [(122, spec_Number_n122)]) (c := (Tryd.f26.body).getD .skip) mixed Tryd.func26 (bC spec_Digits_ok bN) (by kernel_rfl) (by kernel_rfl) (by kernel_rfl) ⟨nodeLoop (by kernel_rfl) spec_Number_s122 (by kernel_rfl) (by intro d; kernel_rfl), trivial⟩ (by intro d; kernel_rfl)


/-! spec.l1In -/
def spec_l1In : Int × Int × Int → Option Bool
  | (a, b, c) => bif decide (a ≥ b) then some (decide (a ≤ c)) else some false
def spec_l1In_e : FEnt := ⟨15, [.tmp 6], [], [(.one, [.dat kI]), (.one, [.dat kI]), (.one, [.dat kI])], ⟨21, [⟨6, .one, [.dat .bool]⟩]⟩, spec_l1In⟩
theorem spec_l1In_ok : FnOk Tryd.prog 38 spec_l1In_e := fnOk_mk (tb := []) (c := (Tryd.f38.body).getD .skip) mixed Tryd.func38 bN (by kernel_rfl) (by kernel_rfl) (by kernel_rfl) trivial (by intro d; kernel_rfl)


/-! spec.l26Nums -/
def spec_l26Nums : t6 → Option (List Int)
  | (a, b, c, d, e, f) => chk (fits ([a, b, c, d, e].length + f.length) 8) (some ([a, b, c, d, e] ++ f))
def spec_l26Nums_e : FEnt := ⟨17, [.tmp 2], [], [(.agg, cc0)], ⟨19, [⟨2, .one, [.own true kI]⟩]⟩, spec_l26Nums⟩
theorem spec_l26Nums_ok : FnOk Tryd.prog 39 spec_l26Nums_e := fnOk_mk (tb := []) (c := (Tryd.f39.body).getD .skip) mixed Tryd.func39 bN (by kernel_rfl) (by kernel_rfl) (by kernel_rfl) trivial (by intro d; kernel_rfl)


/-! spec.DeedText -/
def spec_DeedText_s250 : List UInt8 × List Int × Int → Option (List UInt8 × List Int × Int ⊕ List UInt8 ⊕ List UInt8)
  | (a, b, c) => bif decide (c < (ln b)) then ix c b.length (lx c b.length ((spec_l1In (gx b c 0, 0, 999999)).bind fun d => bif !d then some (.inr (.inl (Array.toList (ByteArray.data { data := #[] })))) else bif decide (c > 0) then chk (decide ((a.length + 1) ≤ 1099511627776)) (ix c b.length (lx c b.length ((spec_Digits (gx b c 0)).bind fun e => chk (decide (((a ++ (Array.toList (ByteArray.data { data := #[(32 : UInt8)] }))).length + e.length) ≤ 1099511627776)) (some (.inl ((a ++ (Array.toList (ByteArray.data { data := #[(32 : UInt8)] }))) ++ e, b, w64 (c + 1))))))) else ix c b.length (lx c b.length ((spec_Digits (gx b c 0)).bind fun e => chk (decide ((a.length + e.length) ≤ 1099511627776)) (some (.inl (a ++ e, b, w64 (c + 1)))))))) else some (.inr (.inr a))
def spec_DeedText_n250 : NEnt := ⟨⟨44, [⟨3, .one, [.dat .str]⟩, ⟨4, .one, [.own true kI]⟩, ⟨5, .one, [.dat kI]⟩]⟩, [(.ret, ⟨44, [⟨2, .one, [.dat .str]⟩]⟩), (.exit 0, ⟨44, [⟨3, .one, [.dat .str]⟩]⟩)], lp spec_DeedText_s250⟩
def spec_DeedText : t6 → Option (List UInt8)
  | (a, b, c, d, e, f) => (spec_l1In (a, 0, 8)).bind fun g => bif !g then some (Array.toList (ByteArray.data { data := #[] })) else bif decide ((ln f) > 20) then some (Array.toList (ByteArray.data { data := #[] })) else (spec_l26Nums (a, b, c, d, e, f)).bind fun h => bx (lp spec_DeedText_s250 (Array.toList (ByteArray.data { data := #[] }), h, 0)) (fun i => some i) fun i => some i
def spec_DeedText_e : FEnt := ⟨42, [.tmp 2], [], [(.agg, cc0)], ⟨44, [⟨2, .one, [.dat .str]⟩]⟩, spec_DeedText⟩
theorem spec_DeedText_ok : FnOk Tryd.prog 19 spec_DeedText_e := fnOk_mk (tb := [(250, spec_DeedText_n250)]) (c := (Tryd.f19.body).getD .skip) mixed Tryd.func19 (bC spec_l1In_ok (bC spec_l26Nums_ok (bC spec_Digits_ok bN))) (by kernel_rfl) (by kernel_rfl) (by kernel_rfl) ⟨nodeLoop (by kernel_rfl) spec_DeedText_s250 (by kernel_rfl) (by intro d; kernel_rfl), trivial⟩ (by intro d; kernel_rfl)


/-! spec.DeedOf -/
def spec_DeedOf_s122 : List UInt8 × t5 × List (List UInt8) × List Int × Int → Option (List UInt8 × t5 × List (List UInt8) × List Int × Int ⊕ t5 × Bool ⊕ List UInt8 × t5 × List Int)
  | (a, (b, c, d, e, f, _), g, h, i) => bif decide (i < (ln g)) then ix i g.length (lx i g.length ((spec_Number (gx g i [])).bind fun (j, k) => bif !k then some (.inr (.inl ((0, 0, 0, 0, 0, ()), false))) else chk (fits (h.length + [j].length) 8) (some (.inl (a, (b, c, d, e, f, ()), g, h ++ [j], w64 (i + 1)))))) else some (.inr (.inr (a, (b, c, d, e, f, ()), h)))
def spec_DeedOf_n122 : NEnt := ⟨⟨66, [⟨0, .one, [.dat .str]⟩, ⟨2, .box, cc2⟩, ⟨4, .one, [.own true .str]⟩, ⟨5, .one, [.own true kI]⟩, ⟨6, .one, [.dat kI]⟩]⟩, [(.ret, ⟨66, [⟨2, .box, cc2⟩, ⟨3, .one, [.dat .bool]⟩]⟩), (.exit 0, ⟨66, [⟨0, .one, [.dat .str]⟩, ⟨2, .box, cc2⟩, ⟨5, .one, [.own true kI]⟩]⟩)], lp spec_DeedOf_s122⟩
def spec_DeedOf : List UInt8 → Option (t6 × Bool)
  | a => (spec_Parts (a, 32)).bind fun b => bx (lp spec_DeedOf_s122 (a, (0, 0, 0, 0, 0, ()), b, [], 0)) (fun ((c, d, e, f, g, _), h) => some ((c, d, e, f, g, []), h)) fun (c, (d, e, f, g, h, _), i) => bif decide ((ln i) < 5) then some ((0, 0, 0, 0, 0, []), false) else chk (decide (0 < i.length)) (chk (decide (0 < i.length)) (chk (decide (1 < i.length)) (chk (decide (1 < i.length)) (chk (decide (2 < i.length)) (chk (decide (2 < i.length)) (chk (decide (3 < i.length)) (chk (decide (3 < i.length)) (chk (decide (4 < i.length)) (chk (decide (4 < i.length)) (chk (decide ((5 ≤ i.length) ∧ (i.length ≤ i.length))) (chk (fits (0 + (List.drop 5 i).length) 8) ((spec_DeedText (List.getD i 0 0, List.getD i 1 0, List.getD i 2 0, List.getD i 3 0, List.getD i 4 0, [] ++ (List.drop 5 i))).bind fun j => bif !(j == c) then some ((0, 0, 0, 0, 0, []), false) else some ((List.getD i 0 0, List.getD i 1 0, List.getD i 2 0, List.getD i 3 0, List.getD i 4 0, [] ++ (List.drop 5 i)), true)))))))))))))
def spec_DeedOf_e : FEnt := ⟨64, [.cell 2 true 6, .tmp 3], [], [(.one, [.dat .str])], ⟨66, [⟨2, .box, cc1⟩, ⟨3, .one, [.dat .bool]⟩]⟩, spec_DeedOf⟩
theorem spec_DeedOf_ok : FnOk Tryd.prog 6 spec_DeedOf_e := fnOk_mk (tb := [(122, spec_DeedOf_n122)]) (c := (Tryd.f6.body).getD .skip) mixed Tryd.func6 (bC spec_Parts_ok (bC spec_Number_ok (bC spec_DeedText_ok bN))) (by kernel_rfl) (by kernel_rfl) (by kernel_rfl) ⟨nodeLoop (by kernel_rfl) spec_DeedOf_s122 (by kernel_rfl) (by intro d; kernel_rfl), trivial⟩ (by intro d; kernel_rfl)


/-! impl.Parts -/
def impl_Parts : List UInt8 × Int → Option (List (List UInt8))
  | (a, b) => (strings_Split (a, List.map (fun (n : Int) => UInt8.ofNat (Int.toNat n)) [b])).bind fun c => some c
def impl_Parts_e : FEnt := ⟨10, [.tmp 4], [], [(.one, [.dat .str]), (.one, [.dat kB])], ⟨14, [⟨4, .one, [.dat (.list .str)]⟩]⟩, impl_Parts⟩
theorem impl_Parts_ok : FnOk Tryd.prog 27 impl_Parts_e := fnOk_mk (tb := []) (c := (Tryd.f27.body).getD .skip) mixed Tryd.func27 (bC strings_Split_ok bN) (by kernel_rfl) (by kernel_rfl) (by kernel_rfl) trivial (by intro d; kernel_rfl)


/-! impl.Digits -/
def impl_Digits : Int → Option (List UInt8)
  | a => (strconv_Itoa a).bind fun b => some b
def impl_Digits_e : FEnt := ⟨5, [.tmp 2], [], [(.one, [.dat kI])], ⟨7, [⟨2, .one, [.dat .str]⟩]⟩, impl_Digits⟩
theorem impl_Digits_ok : FnOk Tryd.prog 46 impl_Digits_e := fnOk_mk (tb := []) (c := (Tryd.f46.body).getD .skip) mixed Tryd.func46 (bC strconv_Itoa_ok bN) (by kernel_rfl) (by kernel_rfl) (by kernel_rfl) trivial (by intro d; kernel_rfl)


/-! impl.Number -/
def impl_Number_s122 : t0 → Option (t0 ⊕ Int × Bool ⊕ List UInt8 × Int)
  | (a, b, c) => bif decide (c < (ln a)) then ix c a.length (bif decide ((Int.ofNat (UInt8.toNat (List.getD a (Int.toNat c) (0 : UInt8)))) < 48) then some (.inr (.inl (0, false))) else ix c a.length (bif decide ((Int.ofNat (UInt8.toNat (List.getD a (Int.toNat c) (0 : UInt8)))) > 57) then some (.inr (.inl (0, false))) else ix c a.length ((some (w64 ((w64 (10 * b)) + (w64 (IntKind.wrap IntKind.u8 ((↑(UInt8.toNat (List.getD a (Int.toNat c) (0 : UInt8))) : Int) - (48 : Int))))))).bind fun d => some (.inl (a, d, w64 (c + 1)))))) else some (.inr (.inr (a, b)))
def impl_Number_n122 : NEnt := ⟨⟨45, [⟨0, .one, [.dat .str]⟩, ⟨4, .one, [.dat kI]⟩, ⟨5, .one, [.dat kI]⟩]⟩, [(.ret, ⟨45, [⟨2, .one, [.dat kI]⟩, ⟨3, .one, [.dat .bool]⟩]⟩), (.exit 0, ⟨45, [⟨0, .one, [.dat .str]⟩, ⟨4, .one, [.dat kI]⟩]⟩)], lp impl_Number_s122⟩
def impl_Number : List UInt8 → Option (Int × Bool)
  | a => bif decide ((ln a) < 1) then some (0, false) else bif decide ((ln a) > 6) then some (0, false) else bx (lp impl_Number_s122 (a, 0, 0)) (fun (b, c) => some (b, c)) fun (b, c) => (impl_Digits c).bind fun d => bif !(d == b) then some (0, false) else some (c, true)
def impl_Number_e : FEnt := ⟨43, [.tmp 2, .tmp 3], [], [(.one, [.dat .str])], ⟨45, [⟨2, .one, [.dat kI]⟩, ⟨3, .one, [.dat .bool]⟩]⟩, impl_Number⟩
theorem impl_Number_ok : FnOk Tryd.prog 28 impl_Number_e := fnOk_mk (tb := [(122, impl_Number_n122)]) (c := (Tryd.f28.body).getD .skip) mixed Tryd.func28 (bC impl_Digits_ok bN) (by kernel_rfl) (by kernel_rfl) (by kernel_rfl) ⟨nodeLoop (by kernel_rfl) impl_Number_s122 (by kernel_rfl) (by intro d; kernel_rfl), trivial⟩ (by intro d; kernel_rfl)


/-! impl.copyInts -/
def impl_copyInts : List Int → Option (List Int)
  | a => chk (fits a.length 8) (some a)
def impl_copyInts_e : FEnt := ⟨5, [.tmp 2], [], [(.one, [.dat (.list kI)])], ⟨7, [⟨2, .one, [.own true kI]⟩]⟩, impl_copyInts⟩
theorem impl_copyInts_ok : FnOk Tryd.prog 29 impl_copyInts_e := fnOk_mk (tb := []) (c := (Tryd.f29.body).getD .skip) mixed Tryd.func29 bN (by kernel_rfl) (by kernel_rfl) (by kernel_rfl) trivial (by intro d; kernel_rfl)


/-! impl.within -/
def impl_within : Int × Int × Int → Option Bool
  | (a, b, c) => bif decide (a ≥ b) then some (decide (a ≤ c)) else some false
def impl_within_e : FEnt := ⟨15, [.tmp 6], [], [(.one, [.dat kI]), (.one, [.dat kI]), (.one, [.dat kI])], ⟨21, [⟨6, .one, [.dat .bool]⟩]⟩, impl_within⟩
theorem impl_within_ok : FnOk Tryd.prog 35 impl_within_e := fnOk_mk (tb := []) (c := (Tryd.f35.body).getD .skip) mixed Tryd.func35 bN (by kernel_rfl) (by kernel_rfl) (by kernel_rfl) trivial (by intro d; kernel_rfl)


/-! impl.allWithin -/
def impl_allWithin_s26 : List Int × Int × Int × Int × List Int × Int × Int → Option (List Int × Int × Int × Int × List Int × Int × Int ⊕ Bool ⊕ List Int × Int)
  | (a, b, c, d, e, f, g) => bif decide (g < f) then ix g e.length ((impl_within (gx e g 0, c, d)).bind fun h => bif !h then some (.inr (.inl false)) else some (.inl (a, b, c, d, e, f, w64 (g + 1)))) else some (.inr (.inr (a, b)))
def impl_allWithin_n26 : NEnt := ⟨⟨35, [⟨0, .one, [.dat (.list kI)]⟩, ⟨1, .one, [.dat kI]⟩, ⟨2, .one, [.dat kI]⟩, ⟨3, .one, [.dat kI]⟩, ⟨11, .one, [.dat (.list kI)]⟩, ⟨12, .one, [.dat kI]⟩, ⟨13, .one, [.dat kI]⟩]⟩, [(.ret, ⟨35, [⟨8, .one, [.dat .bool]⟩]⟩), (.exit 0, ⟨35, [⟨0, .one, [.dat (.list kI)]⟩, ⟨1, .one, [.dat kI]⟩]⟩)], lp impl_allWithin_s26⟩
def impl_allWithin : List Int × Int × Int × Int → Option Bool
  | (a, b, c, d) => bx (lp impl_allWithin_s26 (a, b, c, d, a, ln a, 0)) (fun e => some e) fun (e, f) => some ((ln e) == f)
def impl_allWithin_e : FEnt := ⟨27, [.tmp 8], [], [(.one, [.dat (.list kI)]), (.one, [.dat kI]), (.one, [.dat kI]), (.one, [.dat kI])], ⟨35, [⟨8, .one, [.dat .bool]⟩]⟩, impl_allWithin⟩
theorem impl_allWithin_ok : FnOk Tryd.prog 36 impl_allWithin_e := fnOk_mk (tb := [(26, impl_allWithin_n26)]) (c := (Tryd.f36.body).getD .skip) mixed Tryd.func36 (bC impl_within_ok bN) (by kernel_rfl) (by kernel_rfl) (by kernel_rfl) ⟨nodeLoop (by kernel_rfl) impl_allWithin_s26 (by kernel_rfl) (by intro d; kernel_rfl), trivial⟩ (by intro d; kernel_rfl)


/-! impl.joined -/
def impl_joined_s58 : List (List UInt8) × List Int × Int × Int → Option (List (List UInt8) × List Int × Int × Int ⊕ List (List UInt8))
  | (a, b, c, d) => bif decide (d < c) then ix d b.length ((impl_Digits (gx b d 0)).bind fun e => chk (fits (a.length + [e].length) 16) (some (.inl (a ++ [e], b, c, w64 (d + 1))))) else some (.inr a)
def impl_joined_n58 : NEnt := ⟨⟨22, [⟨3, .one, [.own true .str]⟩, ⟨6, .one, [.dat (.list kI)]⟩, ⟨7, .one, [.dat kI]⟩, ⟨8, .one, [.dat kI]⟩]⟩, [(.exit 0, ⟨22, [⟨3, .one, [.own true .str]⟩]⟩)], lp impl_joined_s58⟩
def impl_joined : List Int → Option (List UInt8)
  | a => (lp impl_joined_s58 ([], a, ln a, 0)).bind fun b => (strings_Join (b, Array.toList (ByteArray.data { data := #[(32 : UInt8)] }))).bind fun c => some c
def impl_joined_e : FEnt := ⟨20, [.tmp 2], [], [(.one, [.dat (.list kI)])], ⟨22, [⟨2, .one, [.dat .str]⟩]⟩, impl_joined⟩
theorem impl_joined_ok : FnOk Tryd.prog 37 impl_joined_e := fnOk_mk (tb := [(58, impl_joined_n58)]) (c := (Tryd.f37.body).getD .skip) mixed Tryd.func37 (bC impl_Digits_ok (bC strings_Join_ok bN)) (by kernel_rfl) (by kernel_rfl) (by kernel_rfl) ⟨nodeLoop (by kernel_rfl) impl_joined_s58 (by kernel_rfl) (by intro d; kernel_rfl), trivial⟩ (by intro d; kernel_rfl)


/-! impl.DeedText -/
def impl_DeedText : t6 → Option (List UInt8)
  | (a, b, c, d, e, f) => chk (fits ([a, b, c, d, e].length + f.length) 8) ((impl_within (a, 0, 8)).bind fun g => bif !g then some (Array.toList (ByteArray.data { data := #[] })) else (impl_allWithin ([a, b, c, d, e] ++ f, ln ([a, b, c, d, e] ++ f), 0, 999999)).bind fun h => bif !h then some (Array.toList (ByteArray.data { data := #[] })) else bif decide ((ln f) > 20) then some (Array.toList (ByteArray.data { data := #[] })) else (impl_joined ([a, b, c, d, e] ++ f)).bind fun i => some i)
def impl_DeedText_e : FEnt := ⟨37, [.tmp 2], [], [(.agg, cc0)], ⟨39, [⟨2, .one, [.dat .str]⟩]⟩, impl_DeedText⟩
theorem impl_DeedText_ok : FnOk Tryd.prog 18 impl_DeedText_e := fnOk_mk (tb := []) (c := (Tryd.f18.body).getD .skip) mixed Tryd.func18 (bC impl_within_ok (bC impl_allWithin_ok (bC impl_joined_ok bN))) (by kernel_rfl) (by kernel_rfl) (by kernel_rfl) trivial (by intro d; kernel_rfl)


/-! impl.DeedOf -/
def impl_DeedOf_s58 : List UInt8 × t5 × List Int × t3 → Option (List UInt8 × t5 × List Int × t3 ⊕ t5 × Bool ⊕ List UInt8 × t5 × List Int)
  | (a, (b, c, d, e, f, _), g, h, i, j) => bif decide (j < i) then ix j h.length ((impl_Number (gx h j [])).bind fun (k, l) => bif !l then some (.inr (.inl ((0, 0, 0, 0, 0, ()), false))) else chk (fits (g.length + [k].length) 8) (some (.inl (a, (b, c, d, e, f, ()), g ++ [k], h, i, w64 (j + 1))))) else some (.inr (.inr (a, (b, c, d, e, f, ()), g)))
def impl_DeedOf_n58 : NEnt := ⟨⟨67, [⟨0, .one, [.dat .str]⟩, ⟨2, .box, cc2⟩, ⟨4, .one, [.own true kI]⟩, ⟨12, .one, [.dat (.list .str)]⟩, ⟨13, .one, [.dat kI]⟩, ⟨14, .one, [.dat kI]⟩]⟩, [(.ret, ⟨67, [⟨2, .box, cc2⟩, ⟨3, .one, [.dat .bool]⟩]⟩), (.exit 0, ⟨67, [⟨0, .one, [.dat .str]⟩, ⟨2, .box, cc2⟩, ⟨4, .one, [.own true kI]⟩]⟩)], lp impl_DeedOf_s58⟩
def impl_DeedOf : List UInt8 → Option (t6 × Bool)
  | a => (impl_Parts (a, 32)).bind fun b => bx (lp impl_DeedOf_s58 (a, (0, 0, 0, 0, 0, ()), [], b, ln b, 0)) (fun ((c, d, e, f, g, _), h) => some ((c, d, e, f, g, []), h)) fun (c, (d, e, f, g, h, _), i) => bif decide ((ln i) < 5) then some ((0, 0, 0, 0, 0, []), false) else chk (decide (0 < i.length)) (chk (decide (0 < i.length)) (chk (decide (1 < i.length)) (chk (decide (1 < i.length)) (chk (decide (2 < i.length)) (chk (decide (2 < i.length)) (chk (decide (3 < i.length)) (chk (decide (3 < i.length)) (chk (decide (4 < i.length)) (chk (decide (4 < i.length)) (chk (decide ((5 ≤ i.length) ∧ (i.length ≤ i.length))) ((impl_copyInts (List.drop 5 i)).bind fun j => (impl_DeedText (List.getD i 0 0, List.getD i 1 0, List.getD i 2 0, List.getD i 3 0, List.getD i 4 0, j)).bind fun k => bif k == (Array.toList (ByteArray.data { data := #[] })) then some ((0, 0, 0, 0, 0, []), false) else bif !(k == c) then some ((0, 0, 0, 0, 0, []), false) else some ((List.getD i 0 0, List.getD i 1 0, List.getD i 2 0, List.getD i 3 0, List.getD i 4 0, j), true))))))))))))
def impl_DeedOf_e : FEnt := ⟨65, [.cell 2 true 6, .tmp 3], [], [(.one, [.dat .str])], ⟨67, [⟨2, .box, cc1⟩, ⟨3, .one, [.dat .bool]⟩]⟩, impl_DeedOf⟩
theorem impl_DeedOf_ok : FnOk Tryd.prog 7 impl_DeedOf_e := fnOk_mk (tb := [(58, impl_DeedOf_n58)]) (c := (Tryd.f7.body).getD .skip) mixed Tryd.func7 (bC impl_Parts_ok (bC impl_Number_ok (bC impl_copyInts_ok (bC impl_DeedText_ok bN)))) (by kernel_rfl) (by kernel_rfl) (by kernel_rfl) ⟨nodeLoop (by kernel_rfl) impl_DeedOf_s58 (by kernel_rfl) (by intro d; kernel_rfl), trivial⟩ (by intro d; kernel_rfl)


/-! laws.eqIntS -/
def laws_eqIntS_s58 : List Int × List Int × Int → Option (List Int × List Int × Int ⊕ Bool ⊕ Unit)
  | (a, b, c) => bif decide (c < (ln a)) then ix c a.length (ix c b.length (bif (gx a c 0) != (gx b c 0) then some (.inr (.inl false)) else some (.inl (a, b, w64 (c + 1))))) else some (.inr (.inr ()))
def laws_eqIntS_n58 : NEnt := ⟨⟨30, [⟨0, .one, [.dat (.list kI)]⟩, ⟨1, .one, [.dat (.list kI)]⟩, ⟨5, .one, [.dat kI]⟩]⟩, [(.ret, ⟨30, [⟨4, .one, [.dat .bool]⟩]⟩), (.exit 0, ⟨30, []⟩)], lp laws_eqIntS_s58⟩
def laws_eqIntS : List Int × List Int → Option Bool
  | (a, b) => bif (ln a) != (ln b) then some false else bx (lp laws_eqIntS_s58 (a, b, 0)) (fun c => some c) fun _ => some true
def laws_eqIntS_e : FEnt := ⟨26, [.tmp 4], [], [(.one, [.dat (.list kI)]), (.one, [.dat (.list kI)])], ⟨30, [⟨4, .one, [.dat .bool]⟩]⟩, laws_eqIntS⟩
theorem laws_eqIntS_ok : FnOk Tryd.prog 30 laws_eqIntS_e := fnOk_mk (tb := [(58, laws_eqIntS_n58)]) (c := (Tryd.f30.body).getD .skip) mixed Tryd.func30 bN (by kernel_rfl) (by kernel_rfl) (by kernel_rfl) ⟨nodeLoop (by kernel_rfl) laws_eqIntS_s58 (by kernel_rfl) (by intro d; kernel_rfl), trivial⟩ (by intro d; kernel_rfl)


/-! laws.eqDeed -/
def laws_eqDeed : t6 × t6 → Option Bool
  | ((a, b, c, d, e, f), g, h, i, j, k, l) => bif a != g then some false else bif b != h then some false else bif c != i then some false else bif d != j then some false else bif e != k then some false else (laws_eqIntS (f, l)).bind fun m => bif !m then some false else some true
def laws_eqDeed_e : FEnt := ⟨36, [.tmp 4], [], [(.agg, cc0), (.agg, cc0)], ⟨40, [⟨4, .one, [.dat .bool]⟩]⟩, laws_eqDeed⟩
theorem laws_eqDeed_ok : FnOk Tryd.prog 8 laws_eqDeed_e := fnOk_mk (tb := []) (c := (Tryd.f8.body).getD .skip) mixed Tryd.func8 (bC laws_eqIntS_ok bN) (by kernel_rfl) (by kernel_rfl) (by kernel_rfl) trivial (by intro d; kernel_rfl)


/-! laws.markIntS -/
def laws_markIntS_s26 : (Unit × Unit × Unit) × Int × Int × List Int → Option ((Unit × Unit × Unit) × Int × Int × List Int ⊕ Int × List Int)
  | ((_, _, _), a, b, c) => bif decide (b < (ln c)) then ix b c.length (lx b c.length (some (.inl (((), (), ()), w64 (a + 1), w64 (b + 1), sx c b a)))) else some (.inr (a, c))
def laws_markIntS_n26 : NEnt := ⟨⟨23, [⟨0, .one, [.ref 19 0 [] false false kI]⟩, ⟨1, .one, [.dat kI]⟩, ⟨5, .one, [.dat kI]⟩, ⟨19, .agg, [.own true kI]⟩]⟩, [(.exit 0, ⟨23, [⟨1, .one, [.dat kI]⟩, ⟨19, .agg, [.own true kI]⟩]⟩)], lp laws_markIntS_s26⟩
def laws_markIntS : List Int × Int → Option (Int × List Int)
  | (a, b) => (lp laws_markIntS_s26 (((), (), ()), b, 0, a)).bind fun (c, d) => some (c, d)
def laws_markIntS_e : FEnt := ⟨19, [.tmp 4], [true, false], [(.one, [.own true kI]), (.one, [.dat kI])], ⟨23, [⟨4, .one, [.dat kI]⟩, ⟨19, .agg, [.own true kI]⟩]⟩, laws_markIntS⟩
theorem laws_markIntS_ok : FnOk Tryd.prog 31 laws_markIntS_e := fnOk_mk (tb := [(26, laws_markIntS_n26)]) (c := (Tryd.f31.body).getD .skip) mixed Tryd.func31 bN (by kernel_rfl) (by kernel_rfl) (by kernel_rfl) ⟨nodeLoop (by kernel_rfl) laws_markIntS_s26 (by kernel_rfl) (by intro d; kernel_rfl), trivial⟩ (by intro d; kernel_rfl)


/-! laws.markDeed -/
def laws_markDeed : t6 × Int → Option (Int × t6)
  | ((a, b, c, d, e, f), g) => (laws_markIntS (f, g)).bind fun (h, i) => some (h, a, b, c, d, e, i)
def laws_markDeed_e : FEnt := ⟨10, [.tmp 4], [true, false], [(.agg, cc1), (.one, [.dat kI])], ⟨14, [⟨4, .one, [.dat kI]⟩, ⟨10, .agg, cc1⟩]⟩, laws_markDeed⟩
theorem laws_markDeed_ok : FnOk Tryd.prog 9 laws_markDeed_e := fnOk_mk (tb := []) (c := (Tryd.f9.body).getD .skip) mixed Tryd.func9 (bC laws_markIntS_ok bN) (by kernel_rfl) (by kernel_rfl) (by kernel_rfl) trivial (by intro d; kernel_rfl)


/-! laws.heldIntS -/
def laws_heldIntS_s26 : List Int × Int × Int → Option (List Int × Int × Int ⊕ Int ⊕ Int)
  | (a, b, c) => bif decide (c < (ln a)) then ix c a.length (bif (gx a c 0) != b then some (.inr (.inl (-1))) else some (.inl (a, w64 (b + 1), w64 (c + 1)))) else some (.inr (.inr b))
def laws_heldIntS_n26 : NEnt := ⟨⟨25, [⟨0, .one, [.dat (.list kI)]⟩, ⟨1, .one, [.dat kI]⟩, ⟨5, .one, [.dat kI]⟩]⟩, [(.ret, ⟨25, [⟨4, .one, [.dat kI]⟩]⟩), (.exit 0, ⟨25, [⟨1, .one, [.dat kI]⟩]⟩)], lp laws_heldIntS_s26⟩
def laws_heldIntS : List Int × Int → Option Int
  | (a, b) => bx (lp laws_heldIntS_s26 (a, b, 0)) (fun c => some c) fun c => some c
def laws_heldIntS_e : FEnt := ⟨21, [.tmp 4], [], [(.one, [.dat (.list kI)]), (.one, [.dat kI])], ⟨25, [⟨4, .one, [.dat kI]⟩]⟩, laws_heldIntS⟩
theorem laws_heldIntS_ok : FnOk Tryd.prog 32 laws_heldIntS_e := fnOk_mk (tb := [(26, laws_heldIntS_n26)]) (c := (Tryd.f32.body).getD .skip) mixed Tryd.func32 bN (by kernel_rfl) (by kernel_rfl) (by kernel_rfl) ⟨nodeLoop (by kernel_rfl) laws_heldIntS_s26 (by kernel_rfl) (by intro d; kernel_rfl), trivial⟩ (by intro d; kernel_rfl)


/-! laws.heldDeed -/
def laws_heldDeed : t6 × Int → Option Int
  | ((a, b, c, d, e, f), g) => (laws_heldIntS (f, g)).bind fun h => bif decide (h < 0) then some (-1) else some h
def laws_heldDeed_e : FEnt := ⟨12, [.tmp 4], [], [(.agg, cc0), (.one, [.dat kI])], ⟨16, [⟨4, .one, [.dat kI]⟩]⟩, laws_heldDeed⟩
theorem laws_heldDeed_ok : FnOk Tryd.prog 10 laws_heldDeed_e := fnOk_mk (tb := []) (c := (Tryd.f10.body).getD .skip) mixed Tryd.func10 (bC laws_heldIntS_ok bN) (by kernel_rfl) (by kernel_rfl) (by kernel_rfl) trivial (by intro d; kernel_rfl)


/-! laws.FnExactDeedOf -/
def laws_FnExactDeedOf : List UInt8 → Option Bool
  | a => bif decide ((ln a) > 1048576) then some true else (spec_DeedOf a).bind fun ((b, c, d, e, f, g), h) => (impl_DeedOf a).bind fun ((i, j, k, l, m, n), o) => (laws_eqDeed ((i, j, k, l, m, n), b, c, d, e, f, g)).bind fun p => bif !p then some false else bif !(o == h) then some false else (laws_markDeed ((i, j, k, l, m, n), 1)).bind fun (q, r, s, t, u, v, w) => (laws_heldDeed ((i, j, k, l, m, w), 1)).bind fun x => bif decide (x < 0) then some false else bif x != q then some false else (impl_DeedOf a).bind fun ((y, z, a1, b1, c1, d1), e1) => (laws_eqDeed ((y, z, a1, b1, c1, d1), b, c, d, e, f, g)).bind fun f1 => bif !f1 then some false else bif !(e1 == h) then some false else (laws_heldDeed ((i, j, k, l, m, w), 1)).bind fun g1 => bif decide (g1 < 0) then some false else bif g1 != q then some false else some true
def laws_FnExactDeedOf_e : FEnt := ⟨66, [.tmp 2], [], [(.one, [.dat .str])], ⟨68, [⟨2, .one, [.dat .bool]⟩]⟩, laws_FnExactDeedOf⟩
theorem laws_FnExactDeedOf_ok : FnOk Tryd.prog 3 laws_FnExactDeedOf_e := fnOk_mk (tb := []) (c := (Tryd.f3.body).getD .skip) mixed Tryd.func3 (bC spec_DeedOf_ok (bC impl_DeedOf_ok (bC laws_eqDeed_ok (bC laws_markDeed_ok (bC laws_heldDeed_ok bN))))) (by kernel_rfl) (by kernel_rfl) (by kernel_rfl) trivial (by intro d; kernel_rfl)


/-! spec.DeedsOf -/
def spec_DeedsOf_s250 : List t6 × List (List UInt8) × Int → Option (List t6 × List (List UInt8) × Int ⊕ List t6 × Bool ⊕ List t6)
  | (a, b, c) => (some (decide (c < (w64 ((ln b) - 1))))).bind fun d => bif d then ix c b.length (lx c b.length ((spec_DeedOf (gx b c [])).bind fun ((e, f, g, h, i, j), k) => bif !k then some (.inr (.inl ([], false))) else (some [(e, f, g, h, i, j)]).bind fun l => chk (fits (a.length + l.length) 64) ((some (a ++ l)).bind fun m => some (.inl (m, b, w64 (c + 1)))))) else some (.inr (.inr a))
def spec_DeedsOf_n250 : NEnt := ⟨⟨45, [⟨4, .one, [.own true kk1]⟩, ⟨5, .one, [.own true .str]⟩, ⟨6, .one, [.dat kI]⟩]⟩, [(.ret, ⟨45, [⟨2, .one, [.own true kk1]⟩, ⟨3, .one, [.dat .bool]⟩]⟩), (.exit 0, ⟨45, [⟨4, .one, [.own true kk1]⟩]⟩)], lp spec_DeedsOf_s250⟩
def spec_DeedsOf : List UInt8 → Option (List t6 × Bool)
  | a => (spec_Parts (a, 10)).bind fun b => ix (w64 ((ln b) - 1)) b.length (lx (w64 ((ln b) - 1)) b.length (bif !((gx b (w64 ((ln b) - 1)) []) == (Array.toList (ByteArray.data { data := #[] }))) then some ([], false) else bx (lp spec_DeedsOf_s250 ([], b, 0)) (fun (c, d) => some (c, d)) fun c => some (c, true)))
def spec_DeedsOf_e : FEnt := ⟨43, [.tmp 2, .tmp 3], [], [(.one, [.dat .str])], ⟨45, [⟨2, .one, [.own true kk1]⟩, ⟨3, .one, [.dat .bool]⟩]⟩, spec_DeedsOf⟩
theorem spec_DeedsOf_ok : FnOk Tryd.prog 11 spec_DeedsOf_e := fnOk_mk (tb := [(250, spec_DeedsOf_n250)]) (c := (Tryd.f11.body).getD .skip) mixed Tryd.func11 (bC spec_Parts_ok (bC spec_DeedOf_ok bN)) (by kernel_rfl) (by kernel_rfl) (by kernel_rfl) ⟨nodeLoop (by kernel_rfl) spec_DeedsOf_s250 (by kernel_rfl) (by intro d; kernel_rfl), trivial⟩ (by intro d; kernel_rfl)


/-! impl.DeedsOf -/
def impl_DeedsOf_s250 : List t6 × t3 → Option (List t6 × t3 ⊕ Unit × Bool ⊕ List t6)
  | (a, b, c, d) => bif decide (d < c) then ix d b.length ((impl_DeedOf (gx b d [])).bind fun ((e, f, g, h, i, j), k) => bif !k then some (.inr (.inl ((), false))) else (some [(e, f, g, h, i, j)]).bind fun l => chk (fits (a.length + l.length) 64) ((some (a ++ l)).bind fun m => some (.inl (m, b, c, w64 (d + 1))))) else some (.inr (.inr a))
def impl_DeedsOf_n250 : NEnt := ⟨⟨44, [⟨5, .one, [.own true kk1]⟩, ⟨23, .one, [.dat (.list .str)]⟩, ⟨24, .one, [.dat kI]⟩, ⟨25, .one, [.dat kI]⟩]⟩, [(.ret, ⟨44, [⟨2, .one, [.nil]⟩, ⟨3, .one, [.dat .bool]⟩]⟩), (.exit 0, ⟨44, [⟨5, .one, [.own true kk1]⟩]⟩)], lp impl_DeedsOf_s250⟩
def impl_DeedsOf : List UInt8 → Option (List t6 × Bool)
  | a => (impl_Parts (a, 10)).bind fun b => ix (w64 ((ln b) - 1)) b.length (bif !((gx b (w64 ((ln b) - 1)) []) == (Array.toList (ByteArray.data { data := #[] }))) then some ([], false) else g0 (w64 ((ln b) - 1)) (chk (decide ((0 ≤ (w64 ((ln b) - 1)).toNat) ∧ ((w64 ((ln b) - 1)).toNat ≤ b.length))) (bx (lp impl_DeedsOf_s250 ([], List.take (w64 ((ln b) - 1)).toNat b, ln (List.take (w64 ((ln b) - 1)).toNat b), 0)) (fun (_, c) => some ([], c)) fun c => some (c, true))))
def impl_DeedsOf_e : FEnt := ⟨42, [.tmp 2, .tmp 3], [], [(.one, [.dat .str])], ⟨44, [⟨2, .one, [.own true kk1]⟩, ⟨3, .one, [.dat .bool]⟩]⟩, impl_DeedsOf⟩
theorem impl_DeedsOf_ok : FnOk Tryd.prog 12 impl_DeedsOf_e := fnOk_mk (tb := [(250, impl_DeedsOf_n250)]) (c := (Tryd.f12.body).getD .skip) mixed Tryd.func12 (bC impl_Parts_ok (bC impl_DeedOf_ok bN)) (by kernel_rfl) (by kernel_rfl) (by kernel_rfl) ⟨nodeLoop (by kernel_rfl) impl_DeedsOf_s250 (by kernel_rfl) (by intro d; kernel_rfl), trivial⟩ (by intro d; kernel_rfl)


/-! laws.eqDeedS -/
def laws_eqDeedS_s58 : List t6 × List t6 × Int → Option (List t6 × List t6 × Int ⊕ Bool ⊕ Unit)
  | (a, b, c) => bif decide (c < (ln a)) then ix c a.length ((some (gx a c (0, 0, 0, 0, 0, []))).bind fun (d, e, f, g, h, i) => ix c b.length ((some (gx b c (0, 0, 0, 0, 0, []))).bind fun (j, k, l, m, n, o) => (laws_eqDeed ((d, e, f, g, h, i), j, k, l, m, n, o)).bind fun p => bif !p then some (.inr (.inl false)) else some (.inl (a, b, w64 (c + 1))))) else some (.inr (.inr ()))
def laws_eqDeedS_n58 : NEnt := ⟨⟨31, [⟨0, .one, [.dat kk0]⟩, ⟨1, .one, [.dat kk0]⟩, ⟨5, .one, [.dat kI]⟩]⟩, [(.ret, ⟨31, [⟨4, .one, [.dat .bool]⟩]⟩), (.exit 0, ⟨31, []⟩)], lp laws_eqDeedS_s58⟩
def laws_eqDeedS : List t6 × List t6 → Option Bool
  | (a, b) => bif (ln a) != (ln b) then some false else bx (lp laws_eqDeedS_s58 (a, b, 0)) (fun c => some c) fun _ => some true
def laws_eqDeedS_e : FEnt := ⟨27, [.tmp 4], [], [(.one, [.dat kk0]), (.one, [.dat kk0])], ⟨31, [⟨4, .one, [.dat .bool]⟩]⟩, laws_eqDeedS⟩
theorem laws_eqDeedS_ok : FnOk Tryd.prog 13 laws_eqDeedS_e := fnOk_mk (tb := [(58, laws_eqDeedS_n58)]) (c := (Tryd.f13.body).getD .skip) mixed Tryd.func13 (bC laws_eqDeed_ok bN) (by kernel_rfl) (by kernel_rfl) (by kernel_rfl) ⟨nodeLoop (by kernel_rfl) laws_eqDeedS_s58 (by kernel_rfl) (by intro d; kernel_rfl), trivial⟩ (by intro d; kernel_rfl)


/-! laws.markDeedS -/
def laws_markDeedS_s26 : (Unit × Unit × Unit) × Int × Int × List t6 → Option ((Unit × Unit × Unit) × Int × Int × List t6 ⊕ Int × List t6)
  | ((_, _, _), a, b, c) => bif decide (b < (ln c)) then ix b c.length (lx b c.length ((some (sx c b (a, (gx c b (0, 0, 0, 0, 0, [])).2))).bind fun d => ix b d.length (lx b d.length ((some (sx d b ((gx d b (0, 0, 0, 0, 0, [])).1, w64 (a + 1), (gx d b (0, 0, 0, 0, 0, [])).2.2))).bind fun e => ix b e.length (lx b e.length ((some (sx e b ((gx e b (0, 0, 0, 0, 0, [])).1, (gx e b (0, 0, 0, 0, 0, [])).2.1, w64 ((w64 (a + 1)) + 1), (gx e b (0, 0, 0, 0, 0, [])).2.2.2))).bind fun f => ix b f.length (lx b f.length ((some (sx f b ((gx f b (0, 0, 0, 0, 0, [])).1, (gx f b (0, 0, 0, 0, 0, [])).2.1, (gx f b (0, 0, 0, 0, 0, [])).2.2.1, w64 ((w64 ((w64 (a + 1)) + 1)) + 1), (gx f b (0, 0, 0, 0, 0, [])).2.2.2.2))).bind fun g => (some (w64 ((w64 ((w64 ((w64 (a + 1)) + 1)) + 1)) + 1))).bind fun h => ix b g.length (lx b g.length ((some (sx g b ((gx g b (0, 0, 0, 0, 0, [])).1, (gx g b (0, 0, 0, 0, 0, [])).2.1, (gx g b (0, 0, 0, 0, 0, [])).2.2.1, (gx g b (0, 0, 0, 0, 0, [])).2.2.2.1, h, (gx g b (0, 0, 0, 0, 0, [])).2.2.2.2.2))).bind fun i => ix b i.length (lx b i.length ((laws_markIntS ((gx i b (0, 0, 0, 0, 0, [])).2.2.2.2.2, w64 (h + 1))).bind fun (j, k) => (some (sx i b ((gx i b (0, 0, 0, 0, 0, [])).1, (gx i b (0, 0, 0, 0, 0, [])).2.1, (gx i b (0, 0, 0, 0, 0, [])).2.2.1, (gx i b (0, 0, 0, 0, 0, [])).2.2.2.1, (gx i b (0, 0, 0, 0, 0, [])).2.2.2.2.1, k))).bind fun l => some (.inl (((), (), ()), j, w64 (b + 1), l)))))))))))))) else some (.inr (a, c))
def laws_markDeedS_n26 : NEnt := ⟨⟨59, [⟨0, .one, [.ref 55 0 [] false false kk1]⟩, ⟨1, .one, [.dat kI]⟩, ⟨5, .one, [.dat kI]⟩, ⟨55, .agg, [.own true kk1]⟩]⟩, [(.exit 0, ⟨59, [⟨1, .one, [.dat kI]⟩, ⟨55, .agg, [.own true kk1]⟩]⟩)], lp laws_markDeedS_s26⟩
def laws_markDeedS : List t6 × Int → Option (Int × List t6)
  | (a, b) => (lp laws_markDeedS_s26 (((), (), ()), b, 0, a)).bind fun (c, d) => some (c, d)
def laws_markDeedS_e : FEnt := ⟨55, [.tmp 4], [true, false], [(.one, [.own true kk1]), (.one, [.dat kI])], ⟨59, [⟨4, .one, [.dat kI]⟩, ⟨55, .agg, [.own true kk1]⟩]⟩, laws_markDeedS⟩
theorem laws_markDeedS_ok : FnOk Tryd.prog 14 laws_markDeedS_e := fnOk_mk (tb := [(26, laws_markDeedS_n26)]) (c := (Tryd.f14.body).getD .skip) mixed Tryd.func14 (bC laws_markIntS_ok bN) (by kernel_rfl) (by kernel_rfl) (by kernel_rfl) ⟨nodeLoop (by kernel_rfl) laws_markDeedS_s26 (by kernel_rfl) (by intro d; kernel_rfl), trivial⟩ (by intro d; kernel_rfl)


/-! laws.heldDeedS -/
def laws_heldDeedS_s26 : List t6 × Int × Int → Option (List t6 × Int × Int ⊕ Int ⊕ Int)
  | (a, b, c) => bif decide (c < (ln a)) then ix c a.length ((some (gx a c (0, 0, 0, 0, 0, []))).bind fun (d, e, f, g, h, i) => bif d != b then some (.inr (.inl (-1))) else ix c a.length ((some (gx a c (0, 0, 0, 0, 0, []))).bind fun (j, k, l, m, n, o) => bif k != (w64 (b + 1)) then some (.inr (.inl (-1))) else ix c a.length ((some (gx a c (0, 0, 0, 0, 0, []))).bind fun (p, q, r, s, t, u) => bif r != (w64 ((w64 (b + 1)) + 1)) then some (.inr (.inl (-1))) else ix c a.length ((some (gx a c (0, 0, 0, 0, 0, []))).bind fun (v, w, x, y, z, a1) => (some (y != (w64 ((w64 ((w64 (b + 1)) + 1)) + 1)))).bind fun b1 => bif b1 then some (.inr (.inl (-1))) else (some (w64 ((w64 ((w64 ((w64 (b + 1)) + 1)) + 1)) + 1))).bind fun c1 => ix c a.length ((some (gx a c (0, 0, 0, 0, 0, []))).bind fun (d1, e1, f1, g1, h1, i1) => bif h1 != c1 then some (.inr (.inl (-1))) else ix c a.length ((some (gx a c (0, 0, 0, 0, 0, []))).bind fun (j1, k1, l1, m1, n1, o1) => (laws_heldIntS (o1, w64 (c1 + 1))).bind fun p1 => bif decide (p1 < 0) then some (.inr (.inl (-1))) else some (.inl (a, p1, w64 (c + 1))))))))) else some (.inr (.inr b))
def laws_heldDeedS_n26 : NEnt := ⟨⟨71, [⟨0, .one, [.dat kk0]⟩, ⟨1, .one, [.dat kI]⟩, ⟨5, .one, [.dat kI]⟩]⟩, [(.ret, ⟨71, [⟨4, .one, [.dat kI]⟩]⟩), (.exit 0, ⟨71, [⟨1, .one, [.dat kI]⟩]⟩)], lp laws_heldDeedS_s26⟩
def laws_heldDeedS : List t6 × Int → Option Int
  | (a, b) => bx (lp laws_heldDeedS_s26 (a, b, 0)) (fun c => some c) fun c => some c
def laws_heldDeedS_e : FEnt := ⟨67, [.tmp 4], [], [(.one, [.dat kk0]), (.one, [.dat kI])], ⟨71, [⟨4, .one, [.dat kI]⟩]⟩, laws_heldDeedS⟩
theorem laws_heldDeedS_ok : FnOk Tryd.prog 15 laws_heldDeedS_e := fnOk_mk (tb := [(26, laws_heldDeedS_n26)]) (c := (Tryd.f15.body).getD .skip) mixed Tryd.func15 (bC laws_heldIntS_ok bN) (by kernel_rfl) (by kernel_rfl) (by kernel_rfl) ⟨nodeLoop (by kernel_rfl) laws_heldDeedS_s26 (by kernel_rfl) (by intro d; kernel_rfl), trivial⟩ (by intro d; kernel_rfl)


/-! laws.FnExactDeedsOf -/
def laws_FnExactDeedsOf : List UInt8 → Option Bool
  | a => bif decide ((ln a) > 1048576) then some true else (spec_DeedsOf a).bind fun (b, c) => (impl_DeedsOf a).bind fun (d, e) => (laws_eqDeedS (d, b)).bind fun f => bif !f then some false else bif !(e == c) then some false else (laws_markDeedS (d, 1)).bind fun (g, h) => (laws_heldDeedS (h, 1)).bind fun i => bif decide (i < 0) then some false else bif i != g then some false else (impl_DeedsOf a).bind fun (j, k) => (laws_eqDeedS (j, b)).bind fun l => bif !l then some false else bif !(k == c) then some false else (laws_heldDeedS (h, 1)).bind fun m => bif decide (m < 0) then some false else bif m != g then some false else some true
def laws_FnExactDeedsOf_e : FEnt := ⟨66, [.tmp 2], [], [(.one, [.dat .str])], ⟨68, [⟨2, .one, [.dat .bool]⟩]⟩, laws_FnExactDeedsOf⟩
theorem laws_FnExactDeedsOf_ok : FnOk Tryd.prog 4 laws_FnExactDeedsOf_e := fnOk_mk (tb := []) (c := (Tryd.f4.body).getD .skip) mixed Tryd.func4 (bC spec_DeedsOf_ok (bC impl_DeedsOf_ok (bC laws_eqDeedS_ok (bC laws_markDeedS_ok (bC laws_heldDeedS_ok bN))))) (by kernel_rfl) (by kernel_rfl) (by kernel_rfl) trivial (by intro d; kernel_rfl)

end Go.Proofs.YtmlbgldofgobnaaDoor.Tw
