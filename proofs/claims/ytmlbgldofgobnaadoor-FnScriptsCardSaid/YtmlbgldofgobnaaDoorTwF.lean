/- Printed by print.lean: typed twins of functions and their proofs. No condition. -/
import Derived.Test.YtmlbgldofgobnaaDoorV
import Derived.Test.YtmlbgldofgobnaaDoorExt
import Derived.Test.YtmlbgldofgobnaaDoorProg
import Derived.KernelRfl
namespace Go.Proofs.YtmlbgldofgobnaaDoor.Tw
open Go.Mach
set_option linter.unusedVariables false
set_option maxRecDepth 100000
abbrev kI : K := .int .i64
abbrev kB : K := .int .u8
abbrev t0 : Type := Int × Int × Int × Unit
abbrev t1 : Type := List UInt8 × Int × Int
abbrev t2 : Type := Int × List Int × Int × Int
abbrev t3 : Type := Int × Int × Int × List Int
abbrev t4 : Type := Int × t0
abbrev t5 : Type := List (List UInt8) × Int × Int
abbrev t6 : Type := Int × t3
abbrev t7 : Type := Int × t4
abbrev t8 : Type := Int × t6
abbrev kk1 : K := (.pair kI (.pair kI (.pair kI (.pair kI (.pair kI (.list kI))))))
abbrev kk0 : K := (.list kk1)
abbrev cc0 : List PC := [.dat kI, .dat kI, .dat kI, .dat kI, .dat kI, .dat (.list kI)]
abbrev cc1 : List PC := [.dat kI, .dat kI, .dat kI, .dat kI, .dat kI, .own true kI]
abbrev cc2 : List PC := [.dat kI, .dat kI, .dat kI, .dat kI, .dat kI, .nil]
abbrev cc3 : List PC := [.dat (.list kB), .dat kI, .dat kI]
theorem mixed : Tryd.prog.follows .mixedOrders = true := by kernel_rfl

/-! laws.big -/
def laws_big : List Int → Option Bool
  | a => some (decide ((ln a) > 1048576))
def laws_big_e : FEnt := ⟨6, [.tmp 2], [], [(.one, [.dat (.list kB)])], ⟨8, [⟨2, .one, [.dat .bool]⟩]⟩, laws_big⟩
theorem laws_big_ok : FnOk Tryd.prog 16 laws_big_e := fnOk_mk (tb := []) (c := (Tryd.f16.body).getD .skip) mixed Tryd.func16 bN (by kernel_rfl) (by kernel_rfl) (by kernel_rfl) trivial (by intro d; kernel_rfl)


/-! spec.l1New -/
def spec_l1New_s58 : List Int × Int × Int → Option (List Int × Int × Int ⊕ List Int × Int)
  | (a, b, c) => bif decide (c < (ln a)) then bif decide (c < 4000) then ix c a.length ((some (w64 ((w64 ((w64 (b * 131)) + (w64 (gx a c 0)))) + 7))).bind fun d => (some (w64 (Int.ofNat (BitVec.toNat (BitVec.ofInt (64 : Nat) d &&& BitVec.ofInt (64 : Nat) (1073741823 : Int)))))).bind fun e => some (.inl (a, e, w64 (c + 1)))) else some (.inr (a, b)) else some (.inr (a, b))
def spec_l1New_n58 : NEnt := ⟨⟨34, [⟨0, .one, [.dat (.list kB)]⟩, ⟨3, .one, [.dat kI]⟩, ⟨4, .one, [.dat kI]⟩]⟩, [(.exit 0, ⟨34, [⟨0, .one, [.dat (.list kB)]⟩, ⟨3, .one, [.dat kI]⟩]⟩)], lp spec_l1New_s58⟩
def spec_l1New : List Int → Option (Unit × List Int × Int × Int)
  | a => (lp spec_l1New_s58 (a, w64 (26583 + (ln a)), 0)).bind fun (b, c) => some ((), b, 0, c)
def spec_l1New_e : FEnt := ⟨32, [.tmp 2], [], [(.one, [.dat (.list kB)])], ⟨34, [⟨2, .one, [.bptr 31 0]⟩, ⟨31, .box, cc3⟩]⟩, spec_l1New⟩
theorem spec_l1New_ok : FnOk Tryd.prog 34 spec_l1New_e := fnOk_mk (tb := [(58, spec_l1New_n58)]) (c := (Tryd.f34.body).getD .skip) mixed Tryd.func34 bN (by kernel_rfl) (by kernel_rfl) (by kernel_rfl) ⟨nodeLoop (by kernel_rfl) spec_l1New_s58 (by kernel_rfl) (by intro d; kernel_rfl), trivial⟩ (by intro d; kernel_rfl)


/-! spec.l1Byte -/
def spec_l1Byte : List Int × Int × Int → Option t2
  | (a, b, c) => (some (Int.fdiv (w64 ((w64 (c * 6364136223846793005)) + 1442695040888963407)) ((2 : Int) ^ (33 : Nat)))).bind fun d => (some (Int.fdiv (w64 ((w64 (c * 6364136223846793005)) + 1442695040888963407)) ((2 : Int) ^ (45 : Nat)))).bind fun e => (some (w64 (Int.ofNat (BitVec.toNat (BitVec.ofInt (64 : Nat) (IntKind.wrap IntKind.i64 (↑(BitVec.toNat (BitVec.ofInt (64 : Nat) d ^^^ BitVec.ofInt (64 : Nat) e)) : Int)) &&& BitVec.ofInt (64 : Nat) (255 : Int)))))).bind fun f => bif decide (b < (ln a)) then ix b a.length ((some (w64 (Int.ofNat (BitVec.toNat (BitVec.ofInt (64 : Nat) (IntKind.wrap IntKind.i64 (f + IntKind.wrap IntKind.i64 (List.getD a (Int.toNat b) (0 : Int)))) &&& BitVec.ofInt (64 : Nat) (255 : Int)))))).bind fun g => some (g, a, w64 (b + 1), w64 ((w64 (c * 6364136223846793005)) + 1442695040888963407))) else some (f, a, b, w64 ((w64 (c * 6364136223846793005)) + 1442695040888963407))
def spec_l1Byte_e : FEnt := ⟨58, [.tmp 2], [true], [(.box, cc3)], ⟨60, [⟨2, .one, [.dat kI]⟩, ⟨59, .box, cc3⟩]⟩, spec_l1Byte⟩
theorem spec_l1Byte_ok : FnOk Tryd.prog 48 spec_l1Byte_e := fnOk_mk (tb := []) (c := (Tryd.f48.body).getD .skip) mixed Tryd.func48 bN (by kernel_rfl) (by kernel_rfl) (by kernel_rfl) trivial (by intro d; kernel_rfl)


/-! spec.l1Below -/
def spec_l1Below : (List Int × Int × Int) × Int → Option t2
  | ((a, b, c), d) => bif decide (d ≤ 0) then some (0, a, b, c) else bif decide (d ≤ 256) then (spec_l1Byte (a, b, c)).bind fun (e, f, g, h) => chk (!(decide (d = 0))) (some (Int.tmod e d, f, g, h)) else (spec_l1Byte (a, b, c)).bind fun (e, f, g, h) => (spec_l1Byte (f, g, h)).bind fun (i, j, k, l) => (spec_l1Byte (j, k, l)).bind fun (m, n, o, p) => (spec_l1Byte (n, o, p)).bind fun (q, r, s, t) => (some (w64 ((w64 ((w64 (e * 16777216)) + (w64 (i * 65536)))) + (w64 (m * 256))))).bind fun u => chk (!(decide (d = 0))) (some (Int.tmod (w64 (u + q)) d, r, s, t))
def spec_l1Below_e : FEnt := ⟨37, [.tmp 4], [true, false], [(.box, cc3), (.one, [.dat kI])], ⟨41, [⟨4, .one, [.dat kI]⟩, ⟨38, .box, cc3⟩]⟩, spec_l1Below⟩
theorem spec_l1Below_ok : FnOk Tryd.prog 41 spec_l1Below_e := fnOk_mk (tb := []) (c := (Tryd.f41.body).getD .skip) mixed Tryd.func41 (bC spec_l1Byte_ok bN) (by kernel_rfl) (by kernel_rfl) (by kernel_rfl) trivial (by intro d; kernel_rfl)


/-! spec.l1PickInt -/
def spec_l1PickInt : (List Int × Int × Int) × List Int → Option t2
  | ((a, b, c), d) => (spec_l1Below ((a, b, c), ln d)).bind fun (e, f, g, h) => ix e d.length (some (gx d e 0, f, g, h))
def spec_l1PickInt_e : FEnt := ⟨12, [.tmp 4], [true, false], [(.box, cc3), (.one, [.dat (.list kI)])], ⟨16, [⟨4, .one, [.dat kI]⟩, ⟨13, .box, cc3⟩]⟩, spec_l1PickInt⟩
theorem spec_l1PickInt_ok : FnOk Tryd.prog 42 spec_l1PickInt_e := fnOk_mk (tb := []) (c := (Tryd.f42.body).getD .skip) mixed Tryd.func42 (bC spec_l1Below_ok bN) (by kernel_rfl) (by kernel_rfl) (by kernel_rfl) trivial (by intro d; kernel_rfl)


/-! spec.l26Deed -/
def spec_l26Deed_s122 : Unit × t7 × t8 × Int × t2 → Option (Unit × t7 × t8 × Int × t2 ⊕ t7 × t8 × List Int × Int × Int)
  | (_, (a, b, c, d, e, _), (f, g, h, i, j, k), l, m, n, o, p) => bif decide (m < l) then (spec_l1PickInt ((n, o, p), [0, 5, 999999])).bind fun (q, r, s, t) => chk (fits (k.length + [q].length) 8) (some (.inl ((), (a, b, c, d, e, ()), (f, g, h, i, j, k ++ [q]), l, w64 (m + 1), r, s, t))) else some (.inr ((a, b, c, d, e, ()), (f, g, h, i, j, k), n, o, p))
def spec_l26Deed_n122 : NEnt := ⟨⟨35, [⟨0, .one, [.bptr 34 0]⟩, ⟨2, .box, cc2⟩, ⟨3, .box, cc1⟩, ⟨4, .one, [.dat kI]⟩, ⟨5, .one, [.dat kI]⟩, ⟨34, .box, cc3⟩]⟩, [(.exit 0, ⟨35, [⟨2, .box, cc2⟩, ⟨3, .box, cc1⟩, ⟨34, .box, cc3⟩]⟩)], lp spec_l26Deed_s122⟩
def spec_l26Deed : List Int × Int × Int → Option (t8 × List Int × Int × Int)
  | (a, b, c) => (spec_l1Below ((a, b, c), 9)).bind fun (d, e, f, g) => (spec_l1Below ((e, f, g), 9)).bind fun (h, i, j, k) => (spec_l1Below ((i, j, k), 300)).bind fun (l, m, n, o) => (spec_l1Below ((m, n, o), 300)).bind fun (p, q, r, s) => (spec_l1Below ((q, r, s), 20)).bind fun (t, u, v, w) => (spec_l1Below ((u, v, w), 4)).bind fun (x, y, z, a1) => (lp spec_l26Deed_s122 ((), (0, 0, 0, 0, 0, ()), (d, h, l, p, t, []), x, 0, y, z, a1)).bind fun ((b1, c1, d1, e1, f1, _), (g1, h1, i1, j1, k1, l1), m1, n1, o1) => some ((g1, h1, i1, j1, k1, l1), m1, n1, o1)
def spec_l26Deed_e : FEnt := ⟨33, [.cell 2 true 6], [true], [(.box, cc3)], ⟨35, [⟨2, .box, cc1⟩, ⟨34, .box, cc3⟩]⟩, spec_l26Deed⟩
theorem spec_l26Deed_ok : FnOk Tryd.prog 43 spec_l26Deed_e := fnOk_mk (tb := [(122, spec_l26Deed_n122)]) (c := (Tryd.f43.body).getD .skip) mixed Tryd.func43 (bC spec_l1Below_ok (bC spec_l1PickInt_ok bN)) (by kernel_rfl) (by kernel_rfl) (by kernel_rfl) ⟨nodeLoop (by kernel_rfl) spec_l26Deed_s122 (by kernel_rfl) (by intro d; kernel_rfl), trivial⟩ (by intro d; kernel_rfl)


/-! spec.l26Bent -/
def spec_l26Bent : List Int × Int × Int → Option (t8 × List Int × Int × Int)
  | (a, b, c) => (spec_l26Deed (a, b, c)).bind fun ((d, e, f, g, h, i), j, k, l) => (spec_l1Below ((j, k, l), 12)).bind fun (m, n, o, p) => bif m == 0 then (spec_l1PickInt ((n, o, p), [(-1), 9])).bind fun (q, r, s, t) => some ((q, e, f, g, h, i), r, s, t) else bif m == 1 then (spec_l1PickInt ((n, o, p), [(-1), 999999, 1000000])).bind fun (q, r, s, t) => some ((d, e, q, g, h, i), r, s, t) else bif m == 2 then (spec_l1PickInt ((n, o, p), [20, 21])).bind fun (q, r, s, t) => g0 q (g0 q (chk (decide ((q.toNat ≤ q.toNat) ∧ ((q.toNat ≤ 4294967296) ∧ ((q.toNat * 8) ≤ 140737488355328)))) (some ((d, e, f, g, h, List.replicate q.toNat 0), r, s, t)))) else some ((d, e, f, g, h, i), n, o, p)
def spec_l26Bent_e : FEnt := ⟨28, [.cell 2 true 6], [true], [(.box, cc3)], ⟨30, [⟨2, .box, cc1⟩, ⟨29, .box, cc3⟩]⟩, spec_l26Bent⟩
theorem spec_l26Bent_ok : FnOk Tryd.prog 33 spec_l26Bent_e := fnOk_mk (tb := []) (c := (Tryd.f33.body).getD .skip) mixed Tryd.func33 (bC spec_l26Deed_ok (bC spec_l1Below_ok (bC spec_l1PickInt_ok bN))) (by kernel_rfl) (by kernel_rfl) (by kernel_rfl) trivial (by intro d; kernel_rfl)


/-! spec.DrawDeedText -/
def spec_DrawDeedText : List Int → Option t8
  | a => (spec_l1New a).bind fun (_, b, c, d) => (spec_l26Bent (b, c, d)).bind fun ((e, f, g, h, i, j), k, l, m) => some (e, f, g, h, i, j)
def spec_DrawDeedText_e : FEnt := ⟨6, [.cell 2 true 6], [], [(.one, [.dat (.list kB)])], ⟨8, [⟨2, .box, cc1⟩]⟩, spec_DrawDeedText⟩
theorem spec_DrawDeedText_ok : FnOk Tryd.prog 17 spec_DrawDeedText_e := fnOk_mk (tb := []) (c := (Tryd.f17.body).getD .skip) mixed Tryd.func17 (bC spec_l1New_ok (bC spec_l26Bent_ok bN)) (by kernel_rfl) (by kernel_rfl) (by kernel_rfl) trivial (by intro d; kernel_rfl)


/-! impl.within -/
def impl_within : Int × Int × Int → Option Bool
  | (a, b, c) => bif decide (a ≥ b) then some (decide (a ≤ c)) else some false
def impl_within_e : FEnt := ⟨15, [.tmp 6], [], [(.one, [.dat kI]), (.one, [.dat kI]), (.one, [.dat kI])], ⟨21, [⟨6, .one, [.dat .bool]⟩]⟩, impl_within⟩
theorem impl_within_ok : FnOk Tryd.prog 35 impl_within_e := fnOk_mk (tb := []) (c := (Tryd.f35.body).getD .skip) mixed Tryd.func35 bN (by kernel_rfl) (by kernel_rfl) (by kernel_rfl) trivial (by intro d; kernel_rfl)


/-! impl.allWithin -/
def impl_allWithin_s26 : List Int × Int × Int × t2 → Option (List Int × Int × Int × t2 ⊕ Bool ⊕ List Int × Int)
  | (a, b, c, d, e, f, g) => bif decide (g < f) then ix g e.length ((impl_within (gx e g 0, c, d)).bind fun h => bif !h then some (.inr (.inl false)) else some (.inl (a, b, c, d, e, f, w64 (g + 1)))) else some (.inr (.inr (a, b)))
def impl_allWithin_n26 : NEnt := ⟨⟨35, [⟨0, .one, [.dat (.list kI)]⟩, ⟨1, .one, [.dat kI]⟩, ⟨2, .one, [.dat kI]⟩, ⟨3, .one, [.dat kI]⟩, ⟨11, .one, [.dat (.list kI)]⟩, ⟨12, .one, [.dat kI]⟩, ⟨13, .one, [.dat kI]⟩]⟩, [(.ret, ⟨35, [⟨8, .one, [.dat .bool]⟩]⟩), (.exit 0, ⟨35, [⟨0, .one, [.dat (.list kI)]⟩, ⟨1, .one, [.dat kI]⟩]⟩)], lp impl_allWithin_s26⟩
def impl_allWithin : List Int × Int × Int × Int → Option Bool
  | (a, b, c, d) => bx (lp impl_allWithin_s26 (a, b, c, d, a, ln a, 0)) (fun e => some e) fun (e, f) => some ((ln e) == f)
def impl_allWithin_e : FEnt := ⟨27, [.tmp 8], [], [(.one, [.dat (.list kI)]), (.one, [.dat kI]), (.one, [.dat kI]), (.one, [.dat kI])], ⟨35, [⟨8, .one, [.dat .bool]⟩]⟩, impl_allWithin⟩
theorem impl_allWithin_ok : FnOk Tryd.prog 36 impl_allWithin_e := fnOk_mk (tb := [(26, impl_allWithin_n26)]) (c := (Tryd.f36.body).getD .skip) mixed Tryd.func36 (bC impl_within_ok bN) (by kernel_rfl) (by kernel_rfl) (by kernel_rfl) ⟨nodeLoop (by kernel_rfl) impl_allWithin_s26 (by kernel_rfl) (by intro d; kernel_rfl), trivial⟩ (by intro d; kernel_rfl)


/-! impl.Digits -/
def impl_Digits : Int → Option (List UInt8)
  | a => (strconv_Itoa a).bind fun b => some b
def impl_Digits_e : FEnt := ⟨5, [.tmp 2], [], [(.one, [.dat kI])], ⟨7, [⟨2, .one, [.dat .str]⟩]⟩, impl_Digits⟩
theorem impl_Digits_ok : FnOk Tryd.prog 46 impl_Digits_e := fnOk_mk (tb := []) (c := (Tryd.f46.body).getD .skip) mixed Tryd.func46 (bC strconv_Itoa_ok bN) (by kernel_rfl) (by kernel_rfl) (by kernel_rfl) trivial (by intro d; kernel_rfl)


/-! impl.joined -/
def impl_joined_s58 : List (List UInt8) × List Int × Int × Int → Option (List (List UInt8) × List Int × Int × Int ⊕ List (List UInt8))
  | (a, b, c, d) => bif decide (d < c) then ix d b.length ((impl_Digits (gx b d 0)).bind fun e => chk (fits (a.length + [e].length) 16) (some (.inl (a ++ [e], b, c, w64 (d + 1))))) else some (.inr a)
def impl_joined_n58 : NEnt := ⟨⟨22, [⟨3, .one, [.own true .str]⟩, ⟨6, .one, [.dat (.list kI)]⟩, ⟨7, .one, [.dat kI]⟩, ⟨8, .one, [.dat kI]⟩]⟩, [(.exit 0, ⟨22, [⟨3, .one, [.own true .str]⟩]⟩)], lp impl_joined_s58⟩
def impl_joined : List Int → Option (List UInt8)
  | a => (lp impl_joined_s58 ([], a, ln a, 0)).bind fun b => (strings_Join (b, Array.toList (ByteArray.data { data := #[(32 : UInt8)] }))).bind fun c => some c
def impl_joined_e : FEnt := ⟨20, [.tmp 2], [], [(.one, [.dat (.list kI)])], ⟨22, [⟨2, .one, [.dat .str]⟩]⟩, impl_joined⟩
theorem impl_joined_ok : FnOk Tryd.prog 37 impl_joined_e := fnOk_mk (tb := [(58, impl_joined_n58)]) (c := (Tryd.f37.body).getD .skip) mixed Tryd.func37 (bC impl_Digits_ok (bC strings_Join_ok bN)) (by kernel_rfl) (by kernel_rfl) (by kernel_rfl) ⟨nodeLoop (by kernel_rfl) impl_joined_s58 (by kernel_rfl) (by intro d; kernel_rfl), trivial⟩ (by intro d; kernel_rfl)


/-! impl.DeedText -/
def impl_DeedText : t8 → Option (List UInt8)
  | (a, b, c, d, e, f) => chk (fits ([a, b, c, d, e].length + f.length) 8) ((impl_within (a, 0, 8)).bind fun g => bif !g then some (Array.toList (ByteArray.data { data := #[] })) else (impl_allWithin ([a, b, c, d, e] ++ f, ln ([a, b, c, d, e] ++ f), 0, 999999)).bind fun h => bif !h then some (Array.toList (ByteArray.data { data := #[] })) else bif decide ((ln f) > 20) then some (Array.toList (ByteArray.data { data := #[] })) else (impl_joined ([a, b, c, d, e] ++ f)).bind fun i => some i)
def impl_DeedText_e : FEnt := ⟨37, [.tmp 2], [], [(.agg, cc0)], ⟨39, [⟨2, .one, [.dat .str]⟩]⟩, impl_DeedText⟩
theorem impl_DeedText_ok : FnOk Tryd.prog 18 impl_DeedText_e := fnOk_mk (tb := []) (c := (Tryd.f18.body).getD .skip) mixed Tryd.func18 (bC impl_within_ok (bC impl_allWithin_ok (bC impl_joined_ok bN))) (by kernel_rfl) (by kernel_rfl) (by kernel_rfl) trivial (by intro d; kernel_rfl)


/-! impl.Parts -/
def impl_Parts : List UInt8 × Int → Option (List (List UInt8))
  | (a, b) => (strings_Split (a, List.map (fun (n : Int) => UInt8.ofNat (Int.toNat n)) [b])).bind fun c => some c
def impl_Parts_e : FEnt := ⟨10, [.tmp 4], [], [(.one, [.dat .str]), (.one, [.dat kB])], ⟨14, [⟨4, .one, [.dat (.list .str)]⟩]⟩, impl_Parts⟩
theorem impl_Parts_ok : FnOk Tryd.prog 27 impl_Parts_e := fnOk_mk (tb := []) (c := (Tryd.f27.body).getD .skip) mixed Tryd.func27 (bC strings_Split_ok bN) (by kernel_rfl) (by kernel_rfl) (by kernel_rfl) trivial (by intro d; kernel_rfl)


/-! impl.Number -/
def impl_Number_s122 : t1 → Option (t1 ⊕ Int × Bool ⊕ List UInt8 × Int)
  | (a, b, c) => bif decide (c < (ln a)) then ix c a.length (bif decide ((Int.ofNat (UInt8.toNat (List.getD a (Int.toNat c) (0 : UInt8)))) < 48) then some (.inr (.inl (0, false))) else ix c a.length (bif decide ((Int.ofNat (UInt8.toNat (List.getD a (Int.toNat c) (0 : UInt8)))) > 57) then some (.inr (.inl (0, false))) else ix c a.length ((some (w64 ((w64 (10 * b)) + (w64 (IntKind.wrap IntKind.u8 ((↑(UInt8.toNat (List.getD a (Int.toNat c) (0 : UInt8))) : Int) - (48 : Int))))))).bind fun d => some (.inl (a, d, w64 (c + 1)))))) else some (.inr (.inr (a, b)))
def impl_Number_n122 : NEnt := ⟨⟨45, [⟨0, .one, [.dat .str]⟩, ⟨4, .one, [.dat kI]⟩, ⟨5, .one, [.dat kI]⟩]⟩, [(.ret, ⟨45, [⟨2, .one, [.dat kI]⟩, ⟨3, .one, [.dat .bool]⟩]⟩), (.exit 0, ⟨45, [⟨0, .one, [.dat .str]⟩, ⟨4, .one, [.dat kI]⟩]⟩)], lp impl_Number_s122⟩
def impl_Number : List UInt8 → Option (Int × Bool)
  | a => bif decide ((ln a) < 1) then some (0, false) else bif decide ((ln a) > 6) then some (0, false) else bx (lp impl_Number_s122 (a, 0, 0)) (fun (b, c) => some (b, c)) fun (b, c) => (impl_Digits c).bind fun d => bif !(d == b) then some (0, false) else some (c, true)
def impl_Number_e : FEnt := ⟨43, [.tmp 2, .tmp 3], [], [(.one, [.dat .str])], ⟨45, [⟨2, .one, [.dat kI]⟩, ⟨3, .one, [.dat .bool]⟩]⟩, impl_Number⟩
theorem impl_Number_ok : FnOk Tryd.prog 28 impl_Number_e := fnOk_mk (tb := [(122, impl_Number_n122)]) (c := (Tryd.f28.body).getD .skip) mixed Tryd.func28 (bC impl_Digits_ok bN) (by kernel_rfl) (by kernel_rfl) (by kernel_rfl) ⟨nodeLoop (by kernel_rfl) impl_Number_s122 (by kernel_rfl) (by intro d; kernel_rfl), trivial⟩ (by intro d; kernel_rfl)


/-! impl.copyInts -/
def impl_copyInts : List Int → Option (List Int)
  | a => chk (fits a.length 8) (some a)
def impl_copyInts_e : FEnt := ⟨5, [.tmp 2], [], [(.one, [.dat (.list kI)])], ⟨7, [⟨2, .one, [.own true kI]⟩]⟩, impl_copyInts⟩
theorem impl_copyInts_ok : FnOk Tryd.prog 29 impl_copyInts_e := fnOk_mk (tb := []) (c := (Tryd.f29.body).getD .skip) mixed Tryd.func29 bN (by kernel_rfl) (by kernel_rfl) (by kernel_rfl) trivial (by intro d; kernel_rfl)


/-! impl.DeedOf -/
def impl_DeedOf_s58 : List UInt8 × t7 × List Int × t5 → Option (List UInt8 × t7 × List Int × t5 ⊕ t7 × Bool ⊕ List UInt8 × t7 × List Int)
  | (a, (b, c, d, e, f, _), g, h, i, j) => bif decide (j < i) then ix j h.length ((impl_Number (gx h j [])).bind fun (k, l) => bif !l then some (.inr (.inl ((0, 0, 0, 0, 0, ()), false))) else chk (fits (g.length + [k].length) 8) (some (.inl (a, (b, c, d, e, f, ()), g ++ [k], h, i, w64 (j + 1))))) else some (.inr (.inr (a, (b, c, d, e, f, ()), g)))
def impl_DeedOf_n58 : NEnt := ⟨⟨67, [⟨0, .one, [.dat .str]⟩, ⟨2, .box, cc2⟩, ⟨4, .one, [.own true kI]⟩, ⟨12, .one, [.dat (.list .str)]⟩, ⟨13, .one, [.dat kI]⟩, ⟨14, .one, [.dat kI]⟩]⟩, [(.ret, ⟨67, [⟨2, .box, cc2⟩, ⟨3, .one, [.dat .bool]⟩]⟩), (.exit 0, ⟨67, [⟨0, .one, [.dat .str]⟩, ⟨2, .box, cc2⟩, ⟨4, .one, [.own true kI]⟩]⟩)], lp impl_DeedOf_s58⟩
def impl_DeedOf : List UInt8 → Option (t8 × Bool)
  | a => (impl_Parts (a, 32)).bind fun b => bx (lp impl_DeedOf_s58 (a, (0, 0, 0, 0, 0, ()), [], b, ln b, 0)) (fun ((c, d, e, f, g, _), h) => some ((c, d, e, f, g, []), h)) fun (c, (d, e, f, g, h, _), i) => bif decide ((ln i) < 5) then some ((0, 0, 0, 0, 0, []), false) else chk (decide (0 < i.length)) (chk (decide (0 < i.length)) (chk (decide (1 < i.length)) (chk (decide (1 < i.length)) (chk (decide (2 < i.length)) (chk (decide (2 < i.length)) (chk (decide (3 < i.length)) (chk (decide (3 < i.length)) (chk (decide (4 < i.length)) (chk (decide (4 < i.length)) (chk (decide ((5 ≤ i.length) ∧ (i.length ≤ i.length))) ((impl_copyInts (List.drop 5 i)).bind fun j => (impl_DeedText (List.getD i 0 0, List.getD i 1 0, List.getD i 2 0, List.getD i 3 0, List.getD i 4 0, j)).bind fun k => bif k == (Array.toList (ByteArray.data { data := #[] })) then some ((0, 0, 0, 0, 0, []), false) else bif !(k == c) then some ((0, 0, 0, 0, 0, []), false) else some ((List.getD i 0 0, List.getD i 1 0, List.getD i 2 0, List.getD i 3 0, List.getD i 4 0, j), true))))))))))))
def impl_DeedOf_e : FEnt := ⟨65, [.cell 2 true 6, .tmp 3], [], [(.one, [.dat .str])], ⟨67, [⟨2, .box, cc1⟩, ⟨3, .one, [.dat .bool]⟩]⟩, impl_DeedOf⟩
theorem impl_DeedOf_ok : FnOk Tryd.prog 7 impl_DeedOf_e := fnOk_mk (tb := [(58, impl_DeedOf_n58)]) (c := (Tryd.f7.body).getD .skip) mixed Tryd.func7 (bC impl_Parts_ok (bC impl_Number_ok (bC impl_copyInts_ok (bC impl_DeedText_ok bN)))) (by kernel_rfl) (by kernel_rfl) (by kernel_rfl) ⟨nodeLoop (by kernel_rfl) impl_DeedOf_s58 (by kernel_rfl) (by intro d; kernel_rfl), trivial⟩ (by intro d; kernel_rfl)


/-! spec.l1In -/
def spec_l1In : Int × Int × Int → Option Bool
  | (a, b, c) => bif decide (a ≥ b) then some (decide (a ≤ c)) else some false
def spec_l1In_e : FEnt := ⟨15, [.tmp 6], [], [(.one, [.dat kI]), (.one, [.dat kI]), (.one, [.dat kI])], ⟨21, [⟨6, .one, [.dat .bool]⟩]⟩, spec_l1In⟩
theorem spec_l1In_ok : FnOk Tryd.prog 38 spec_l1In_e := fnOk_mk (tb := []) (c := (Tryd.f38.body).getD .skip) mixed Tryd.func38 bN (by kernel_rfl) (by kernel_rfl) (by kernel_rfl) trivial (by intro d; kernel_rfl)


/-! spec.l26Nums -/
def spec_l26Nums : t8 → Option (List Int)
  | (a, b, c, d, e, f) => chk (fits ([a, b, c, d, e].length + f.length) 8) (some ([a, b, c, d, e] ++ f))
def spec_l26Nums_e : FEnt := ⟨17, [.tmp 2], [], [(.agg, cc0)], ⟨19, [⟨2, .one, [.own true kI]⟩]⟩, spec_l26Nums⟩
theorem spec_l26Nums_ok : FnOk Tryd.prog 39 spec_l26Nums_e := fnOk_mk (tb := []) (c := (Tryd.f39.body).getD .skip) mixed Tryd.func39 bN (by kernel_rfl) (by kernel_rfl) (by kernel_rfl) trivial (by intro d; kernel_rfl)


/-! spec.Digits -/
def spec_Digits_s124 : Int × Bool × List UInt8 → Option (Int × Bool × List UInt8 ⊕ Bool × List UInt8)
  | (a, b, c) => bif a != 0 then bif decide ((Int.tmod a 10) < 0) then (some (List.map (fun (n : Int) => UInt8.ofNat (Int.toNat n)) [IntKind.wrap IntKind.u8 (IntKind.wrap IntKind.i64 ((48 : Int) + IntKind.wrap IntKind.i64 ((0 : Int) - Int.tmod a (10 : Int))))])).bind fun d => chk (decide ((d.length + c.length) ≤ 1099511627776)) (some (.inl (w64 (Int.tdiv a 10), b, d ++ c))) else chk (decide (((List.map (fun (n : Int) => UInt8.ofNat (Int.toNat n)) [IntKind.wrap IntKind.u8 (IntKind.wrap IntKind.i64 ((48 : Int) + Int.tmod a (10 : Int)))]).length + c.length) ≤ 1099511627776)) ((some ((List.map (fun (n : Int) => UInt8.ofNat (Int.toNat n)) [IntKind.wrap IntKind.u8 (IntKind.wrap IntKind.i64 ((48 : Int) + Int.tmod a (10 : Int)))]) ++ c)).bind fun d => some (.inl (w64 (Int.tdiv a 10), b, d))) else some (.inr (b, c))
def spec_Digits_n124 : NEnt := ⟨⟨33, [⟨0, .one, [.dat kI]⟩, ⟨3, .one, [.dat .bool]⟩, ⟨4, .one, [.dat .str]⟩]⟩, [(.exit 0, ⟨33, [⟨3, .one, [.dat .bool]⟩, ⟨4, .one, [.dat .str]⟩]⟩)], lp spec_Digits_s124⟩
def spec_Digits : Int → Option (List UInt8)
  | a => bif a == 0 then some (Array.toList (ByteArray.data { data := #[(48 : UInt8)] })) else (lp spec_Digits_s124 (a, decide (a < 0), Array.toList (ByteArray.data { data := #[] }))).bind fun (b, c) => bif b then chk (decide ((1 + c.length) ≤ 1099511627776)) (some ((Array.toList (ByteArray.data { data := #[(45 : UInt8)] })) ++ c)) else some c
def spec_Digits_e : FEnt := ⟨31, [.tmp 2], [], [(.one, [.dat kI])], ⟨33, [⟨2, .one, [.dat .str]⟩]⟩, spec_Digits⟩
theorem spec_Digits_ok : FnOk Tryd.prog 40 spec_Digits_e := fnOk_mk (tb := [(124, spec_Digits_n124)]) (c := (Tryd.f40.body).getD .skip) mixed Tryd.func40 bN (by kernel_rfl) (by kernel_rfl) (by kernel_rfl) ⟨nodeLoop (by kernel_rfl) spec_Digits_s124 (by kernel_rfl) (by intro d; kernel_rfl), trivial⟩ (by intro d; kernel_rfl)


/-! spec.DeedText -/
def spec_DeedText_s250 : List UInt8 × List Int × Int → Option (List UInt8 × List Int × Int ⊕ List UInt8 ⊕ List UInt8)
  | (a, b, c) => bif decide (c < (ln b)) then ix c b.length (lx c b.length ((spec_l1In (gx b c 0, 0, 999999)).bind fun d => bif !d then some (.inr (.inl (Array.toList (ByteArray.data { data := #[] })))) else bif decide (c > 0) then chk (decide ((a.length + 1) ≤ 1099511627776)) (ix c b.length (lx c b.length ((spec_Digits (gx b c 0)).bind fun e => chk (decide (((a ++ (Array.toList (ByteArray.data { data := #[(32 : UInt8)] }))).length + e.length) ≤ 1099511627776)) (some (.inl ((a ++ (Array.toList (ByteArray.data { data := #[(32 : UInt8)] }))) ++ e, b, w64 (c + 1))))))) else ix c b.length (lx c b.length ((spec_Digits (gx b c 0)).bind fun e => chk (decide ((a.length + e.length) ≤ 1099511627776)) (some (.inl (a ++ e, b, w64 (c + 1)))))))) else some (.inr (.inr a))
def spec_DeedText_n250 : NEnt := ⟨⟨44, [⟨3, .one, [.dat .str]⟩, ⟨4, .one, [.own true kI]⟩, ⟨5, .one, [.dat kI]⟩]⟩, [(.ret, ⟨44, [⟨2, .one, [.dat .str]⟩]⟩), (.exit 0, ⟨44, [⟨3, .one, [.dat .str]⟩]⟩)], lp spec_DeedText_s250⟩
def spec_DeedText : t8 → Option (List UInt8)
  | (a, b, c, d, e, f) => (spec_l1In (a, 0, 8)).bind fun g => bif !g then some (Array.toList (ByteArray.data { data := #[] })) else bif decide ((ln f) > 20) then some (Array.toList (ByteArray.data { data := #[] })) else (spec_l26Nums (a, b, c, d, e, f)).bind fun h => bx (lp spec_DeedText_s250 (Array.toList (ByteArray.data { data := #[] }), h, 0)) (fun i => some i) fun i => some i
def spec_DeedText_e : FEnt := ⟨42, [.tmp 2], [], [(.agg, cc0)], ⟨44, [⟨2, .one, [.dat .str]⟩]⟩, spec_DeedText⟩
theorem spec_DeedText_ok : FnOk Tryd.prog 19 spec_DeedText_e := fnOk_mk (tb := [(250, spec_DeedText_n250)]) (c := (Tryd.f19.body).getD .skip) mixed Tryd.func19 (bC spec_l1In_ok (bC spec_l26Nums_ok (bC spec_Digits_ok bN))) (by kernel_rfl) (by kernel_rfl) (by kernel_rfl) ⟨nodeLoop (by kernel_rfl) spec_DeedText_s250 (by kernel_rfl) (by intro d; kernel_rfl), trivial⟩ (by intro d; kernel_rfl)


/-! laws.sameInts -/
def laws_sameInts_s58 : List Int × List Int × Int → Option (List Int × List Int × Int ⊕ Bool ⊕ Unit)
  | (a, b, c) => bif decide (c < (ln a)) then ix c a.length (ix c b.length (bif (gx a c 0) != (gx b c 0) then some (.inr (.inl false)) else some (.inl (a, b, w64 (c + 1))))) else some (.inr (.inr ()))
def laws_sameInts_n58 : NEnt := ⟨⟨30, [⟨0, .one, [.dat (.list kI)]⟩, ⟨1, .one, [.dat (.list kI)]⟩, ⟨5, .one, [.dat kI]⟩]⟩, [(.ret, ⟨30, [⟨4, .one, [.dat .bool]⟩]⟩), (.exit 0, ⟨30, []⟩)], lp laws_sameInts_s58⟩
def laws_sameInts : List Int × List Int → Option Bool
  | (a, b) => bif (ln a) != (ln b) then some false else bx (lp laws_sameInts_s58 (a, b, 0)) (fun c => some c) fun _ => some true
def laws_sameInts_e : FEnt := ⟨26, [.tmp 4], [], [(.one, [.dat (.list kI)]), (.one, [.dat (.list kI)])], ⟨30, [⟨4, .one, [.dat .bool]⟩]⟩, laws_sameInts⟩
theorem laws_sameInts_ok : FnOk Tryd.prog 20 laws_sameInts_e := fnOk_mk (tb := [(58, laws_sameInts_n58)]) (c := (Tryd.f20.body).getD .skip) mixed Tryd.func20 bN (by kernel_rfl) (by kernel_rfl) (by kernel_rfl) ⟨nodeLoop (by kernel_rfl) laws_sameInts_s58 (by kernel_rfl) (by intro d; kernel_rfl), trivial⟩ (by intro d; kernel_rfl)


/-! spec.DrawDeedOf -/
def spec_DrawDeedOf : List Int → Option (List UInt8)
  | a => (spec_l1New a).bind fun (_, b, c, d) => (spec_l26Bent (b, c, d)).bind fun ((e, f, g, h, i, j), k, l, m) => (spec_DeedText (e, f, g, h, i, j)).bind fun n => chk (decide (n.length ≤ 4294967296)) ((spec_l1Below ((k, l, m), 6)).bind fun (o, p, q, r) => bif o == 0 then (spec_l1Below ((p, q, r), w64 ((ln (List.map (fun (b : UInt8) => (↑(UInt8.toNat b) : Int)) n)) + 1))).bind fun (s, t, u, v) => g0 s (chk (decide ((0 ≤ s.toNat) ∧ (s.toNat ≤ (List.map (fun (b : UInt8) => (↑(UInt8.toNat b) : Int)) n).length))) (some (List.map (fun (n : Int) => UInt8.ofNat (Int.toNat n)) (List.take (Int.toNat s) (List.map (fun (b : UInt8) => (↑(UInt8.toNat b) : Int)) n))))) else bif o == 1 then chk (fits ((List.map (fun (b : UInt8) => (↑(UInt8.toNat b) : Int)) n).length + 1) 1) (some (List.map (fun (n : Int) => UInt8.ofNat (Int.toNat n)) (List.map (fun (b : UInt8) => (↑(UInt8.toNat b) : Int)) n ++ [(120 : Int)]))) else bif o == 2 then bif decide ((ln (List.map (fun (b : UInt8) => (↑(UInt8.toNat b) : Int)) n)) > 0) then (spec_l1Below ((p, q, r), ln (List.map (fun (b : UInt8) => (↑(UInt8.toNat b) : Int)) n))).bind fun (s, t, u, v) => (spec_l1PickInt ((t, u, v), [48, 32, 65, 10])).bind fun (w, x, y, z) => ix s (List.map (fun (b : UInt8) => (↑(UInt8.toNat b) : Int)) n).length (lx s (List.map (fun (b : UInt8) => (↑(UInt8.toNat b) : Int)) n).length (some (List.map (fun (n : Int) => UInt8.ofNat (Int.toNat n)) (List.set (List.map (fun (b : UInt8) => (↑(UInt8.toNat b) : Int)) n) (Int.toNat s) (IntKind.wrap IntKind.u8 w))))) else some (List.map (fun (n : Int) => UInt8.ofNat (Int.toNat n)) (List.map (fun (b : UInt8) => (↑(UInt8.toNat b) : Int)) n)) else some (List.map (fun (n : Int) => UInt8.ofNat (Int.toNat n)) (List.map (fun (b : UInt8) => (↑(UInt8.toNat b) : Int)) n)))
def spec_DrawDeedOf_e : FEnt := ⟨44, [.tmp 2], [], [(.one, [.dat (.list kB)])], ⟨46, [⟨2, .one, [.dat .str]⟩]⟩, spec_DrawDeedOf⟩
theorem spec_DrawDeedOf_ok : FnOk Tryd.prog 21 spec_DrawDeedOf_e := fnOk_mk (tb := []) (c := (Tryd.f21.body).getD .skip) mixed Tryd.func21 (bC spec_l1New_ok (bC spec_l26Bent_ok (bC spec_DeedText_ok (bC spec_l1Below_ok (bC spec_l1PickInt_ok bN))))) (by kernel_rfl) (by kernel_rfl) (by kernel_rfl) trivial (by intro d; kernel_rfl)


/-! spec.Parts -/
def spec_Parts_s122 : List UInt8 × Int × t5 → Option (List UInt8 × Int × t5 ⊕ List (List UInt8))
  | (a, b, c, d, e) => bif decide (e ≤ (ln a)) then bif e == (ln a) then g0 d (g0 e (chk (decide ((d.toNat ≤ e.toNat) ∧ (e.toNat ≤ a.length))) (chk (fits (c.length + [List.drop d.toNat (List.take e.toNat a)].length) 16) (some (.inl (a, b, c ++ [List.drop d.toNat (List.take e.toNat a)], w64 (e + 1), w64 (e + 1))))))) else ix e a.length (bif (Int.ofNat (UInt8.toNat (List.getD a (Int.toNat e) (0 : UInt8)))) == b then g0 d (g0 e (chk (decide ((d.toNat ≤ e.toNat) ∧ (e.toNat ≤ a.length))) (chk (fits (c.length + [List.drop d.toNat (List.take e.toNat a)].length) 16) (some (.inl (a, b, c ++ [List.drop d.toNat (List.take e.toNat a)], w64 (e + 1), w64 (e + 1))))))) else some (.inl (a, b, c, d, w64 (e + 1)))) else some (.inr c)
def spec_Parts_n122 : NEnt := ⟨⟨40, [⟨0, .one, [.dat .str]⟩, ⟨1, .one, [.dat kB]⟩, ⟨5, .one, [.own true .str]⟩, ⟨6, .one, [.dat kI]⟩, ⟨7, .one, [.dat kI]⟩]⟩, [(.exit 0, ⟨40, [⟨5, .one, [.own true .str]⟩]⟩)], lp spec_Parts_s122⟩
def spec_Parts : List UInt8 × Int → Option (List (List UInt8))
  | (a, b) => (lp spec_Parts_s122 (a, b, [], 0, 0)).bind fun c => some c
def spec_Parts_e : FEnt := ⟨36, [.tmp 4], [], [(.one, [.dat .str]), (.one, [.dat kB])], ⟨40, [⟨4, .one, [.own true .str]⟩]⟩, spec_Parts⟩
theorem spec_Parts_ok : FnOk Tryd.prog 25 spec_Parts_e := fnOk_mk (tb := [(122, spec_Parts_n122)]) (c := (Tryd.f25.body).getD .skip) mixed Tryd.func25 bN (by kernel_rfl) (by kernel_rfl) (by kernel_rfl) ⟨nodeLoop (by kernel_rfl) spec_Parts_s122 (by kernel_rfl) (by intro d; kernel_rfl), trivial⟩ (by intro d; kernel_rfl)


/-! spec.Number -/
def spec_Number_s122 : t1 → Option (t1 ⊕ Int × Bool ⊕ List UInt8 × Int)
  | (a, b, c) => bif decide (c < (ln a)) then ix c a.length (bif decide ((Int.ofNat (UInt8.toNat (List.getD a (Int.toNat c) (0 : UInt8)))) < 48) then some (.inr (.inl (0, false))) else ix c a.length (bif decide ((Int.ofNat (UInt8.toNat (List.getD a (Int.toNat c) (0 : UInt8)))) > 57) then some (.inr (.inl (0, false))) else ix c a.length ((some (w64 ((w64 ((w64 (10 * b)) + (w64 (Int.ofNat (UInt8.toNat (List.getD a (Int.toNat c) (0 : UInt8))))))) - 48))).bind fun d => some (.inl (a, d, w64 (c + 1)))))) else some (.inr (.inr (a, b)))
def spec_Number_n122 : NEnt := ⟨⟨45, [⟨0, .one, [.dat .str]⟩, ⟨4, .one, [.dat kI]⟩, ⟨5, .one, [.dat kI]⟩]⟩, [(.ret, ⟨45, [⟨2, .one, [.dat kI]⟩, ⟨3, .one, [.dat .bool]⟩]⟩), (.exit 0, ⟨45, [⟨0, .one, [.dat .str]⟩, ⟨4, .one, [.dat kI]⟩]⟩)], lp spec_Number_s122⟩
def spec_Number : List UInt8 → Option (Int × Bool)
  | a => bif decide ((ln a) < 1) then some (0, false) else bif decide ((ln a) > 6) then some (0, false) else bx (lp spec_Number_s122 (a, 0, 0)) (fun (b, c) => some (b, c)) fun (b, c) => (spec_Digits c).bind fun d => bif !(d == b) then some (0, false) else some (c, true)
def spec_Number_e : FEnt := ⟨43, [.tmp 2, .tmp 3], [], [(.one, [.dat .str])], ⟨45, [⟨2, .one, [.dat kI]⟩, ⟨3, .one, [.dat .bool]⟩]⟩, spec_Number⟩
theorem spec_Number_ok : FnOk Tryd.prog 26 spec_Number_e := fnOk_mk (tb := [(122, spec_Number_n122)]) (c := (Tryd.f26.body).getD .skip) mixed Tryd.func26 (bC spec_Digits_ok bN) (by kernel_rfl) (by kernel_rfl) (by kernel_rfl) ⟨nodeLoop (by kernel_rfl) spec_Number_s122 (by kernel_rfl) (by intro d; kernel_rfl), trivial⟩ (by intro d; kernel_rfl)


/-! spec.DeedOf -/
def spec_DeedOf_s122 : List UInt8 × t7 × List (List UInt8) × List Int × Int → Option (List UInt8 × t7 × List (List UInt8) × List Int × Int ⊕ t7 × Bool ⊕ List UInt8 × t7 × List Int)
  | (a, (b, c, d, e, f, _), g, h, i) => bif decide (i < (ln g)) then ix i g.length (lx i g.length ((spec_Number (gx g i [])).bind fun (j, k) => bif !k then some (.inr (.inl ((0, 0, 0, 0, 0, ()), false))) else chk (fits (h.length + [j].length) 8) (some (.inl (a, (b, c, d, e, f, ()), g, h ++ [j], w64 (i + 1)))))) else some (.inr (.inr (a, (b, c, d, e, f, ()), h)))
def spec_DeedOf_n122 : NEnt := ⟨⟨66, [⟨0, .one, [.dat .str]⟩, ⟨2, .box, cc2⟩, ⟨4, .one, [.own true .str]⟩, ⟨5, .one, [.own true kI]⟩, ⟨6, .one, [.dat kI]⟩]⟩, [(.ret, ⟨66, [⟨2, .box, cc2⟩, ⟨3, .one, [.dat .bool]⟩]⟩), (.exit 0, ⟨66, [⟨0, .one, [.dat .str]⟩, ⟨2, .box, cc2⟩, ⟨5, .one, [.own true kI]⟩]⟩)], lp spec_DeedOf_s122⟩
def spec_DeedOf : List UInt8 → Option (t8 × Bool)
  | a => (spec_Parts (a, 32)).bind fun b => bx (lp spec_DeedOf_s122 (a, (0, 0, 0, 0, 0, ()), b, [], 0)) (fun ((c, d, e, f, g, _), h) => some ((c, d, e, f, g, []), h)) fun (c, (d, e, f, g, h, _), i) => bif decide ((ln i) < 5) then some ((0, 0, 0, 0, 0, []), false) else chk (decide (0 < i.length)) (chk (decide (0 < i.length)) (chk (decide (1 < i.length)) (chk (decide (1 < i.length)) (chk (decide (2 < i.length)) (chk (decide (2 < i.length)) (chk (decide (3 < i.length)) (chk (decide (3 < i.length)) (chk (decide (4 < i.length)) (chk (decide (4 < i.length)) (chk (decide ((5 ≤ i.length) ∧ (i.length ≤ i.length))) (chk (fits (0 + (List.drop 5 i).length) 8) ((spec_DeedText (List.getD i 0 0, List.getD i 1 0, List.getD i 2 0, List.getD i 3 0, List.getD i 4 0, [] ++ (List.drop 5 i))).bind fun j => bif !(j == c) then some ((0, 0, 0, 0, 0, []), false) else some ((List.getD i 0 0, List.getD i 1 0, List.getD i 2 0, List.getD i 3 0, List.getD i 4 0, [] ++ (List.drop 5 i)), true)))))))))))))
def spec_DeedOf_e : FEnt := ⟨64, [.cell 2 true 6, .tmp 3], [], [(.one, [.dat .str])], ⟨66, [⟨2, .box, cc1⟩, ⟨3, .one, [.dat .bool]⟩]⟩, spec_DeedOf⟩
theorem spec_DeedOf_ok : FnOk Tryd.prog 6 spec_DeedOf_e := fnOk_mk (tb := [(122, spec_DeedOf_n122)]) (c := (Tryd.f6.body).getD .skip) mixed Tryd.func6 (bC spec_Parts_ok (bC spec_Number_ok (bC spec_DeedText_ok bN))) (by kernel_rfl) (by kernel_rfl) (by kernel_rfl) ⟨nodeLoop (by kernel_rfl) spec_DeedOf_s122 (by kernel_rfl) (by intro d; kernel_rfl), trivial⟩ (by intro d; kernel_rfl)


/-! spec.l1Once -/
def spec_l1Once : (List Int × Int × Int) × Int → Option (Bool × List Int × Int × Int)
  | ((a, b, c), d) => (spec_l1Below ((a, b, c), d)).bind fun (e, f, g, h) => some (e == 0, f, g, h)
def spec_l1Once_e : FEnt := ⟨9, [.tmp 4], [true, false], [(.box, cc3), (.one, [.dat kI])], ⟨13, [⟨4, .one, [.dat .bool]⟩, ⟨10, .box, cc3⟩]⟩, spec_l1Once⟩
theorem spec_l1Once_ok : FnOk Tryd.prog 44 spec_l1Once_e := fnOk_mk (tb := []) (c := (Tryd.f44.body).getD .skip) mixed Tryd.func44 (bC spec_l1Below_ok bN) (by kernel_rfl) (by kernel_rfl) (by kernel_rfl) trivial (by intro d; kernel_rfl)


/-! spec.DrawDeedsText -/
def spec_DrawDeedsText_s250 : Unit × List t8 × Int × t2 → Option (Unit × List t8 × Int × t2 ⊕ Unit × List t8 × List Int × Int × Int)
  | (_, a, b, c, d, e, f) => bif decide (c < b) then (spec_l26Deed (d, e, f)).bind fun ((g, h, i, j, k, l), m, n, o) => (some [(g, h, i, j, k, l)]).bind fun p => chk (fits (a.length + p.length) 64) ((some (a ++ p)).bind fun q => some (.inl ((), q, b, w64 (c + 1), m, n, o))) else some (.inr ((), a, d, e, f))
def spec_DrawDeedsText_n250 : NEnt := ⟨⟨32, [⟨3, .one, [.bptr 8 0]⟩, ⟨4, .one, [.own true kk1]⟩, ⟨5, .one, [.dat kI]⟩, ⟨6, .one, [.dat kI]⟩, ⟨8, .box, cc3⟩]⟩, [(.exit 0, ⟨32, [⟨3, .one, [.bptr 8 0]⟩, ⟨4, .one, [.own true kk1]⟩, ⟨8, .box, cc3⟩]⟩)], lp spec_DrawDeedsText_s250⟩
def spec_DrawDeedsText : List Int → Option (List t8)
  | a => (spec_l1New a).bind fun (_, b, c, d) => (spec_l1Below ((b, c, d), 5)).bind fun (e, f, g, h) => (lp spec_DrawDeedsText_s250 ((), [], e, 0, f, g, h)).bind fun (_, i, j, k, l) => (spec_l1Once ((j, k, l), 5)).bind fun (m, n, o, p) => bif m then (spec_l26Bent (n, o, p)).bind fun ((q, r, s, t, u, v), w, x, y) => (some [(q, r, s, t, u, v)]).bind fun z => chk (fits (i.length + z.length) 64) ((some (i ++ z)).bind fun a1 => some a1) else some i
def spec_DrawDeedsText_e : FEnt := ⟨30, [.tmp 2], [], [(.one, [.dat (.list kB)])], ⟨32, [⟨2, .one, [.own true kk1]⟩]⟩, spec_DrawDeedsText⟩
theorem spec_DrawDeedsText_ok : FnOk Tryd.prog 22 spec_DrawDeedsText_e := fnOk_mk (tb := [(250, spec_DrawDeedsText_n250)]) (c := (Tryd.f22.body).getD .skip) mixed Tryd.func22 (bC spec_l1New_ok (bC spec_l1Below_ok (bC spec_l26Deed_ok (bC spec_l1Once_ok (bC spec_l26Bent_ok bN))))) (by kernel_rfl) (by kernel_rfl) (by kernel_rfl) ⟨nodeLoop (by kernel_rfl) spec_DrawDeedsText_s250 (by kernel_rfl) (by intro d; kernel_rfl), trivial⟩ (by intro d; kernel_rfl)


/-! impl.DeedsText -/
def impl_DeedsText_s58 : List UInt8 × List t8 × Int × Int → Option (List UInt8 × List t8 × Int × Int ⊕ List UInt8 ⊕ List UInt8)
  | (a, b, c, d) => bif decide (d < c) then ix d b.length ((some (gx b d (0, 0, 0, 0, 0, []))).bind fun (e, f, g, h, i, j) => (impl_DeedText (e, f, g, h, i, j)).bind fun k => bif k == (Array.toList (ByteArray.data { data := #[] })) then some (.inr (.inl (Array.toList (ByteArray.data { data := #[] })))) else chk (decide ((k.length + 1) ≤ 1099511627776)) (chk (decide ((a.length + (k ++ (Array.toList (ByteArray.data { data := #[(10 : UInt8)] }))).length) ≤ 1099511627776)) (some (.inl (a ++ (k ++ (Array.toList (ByteArray.data { data := #[(10 : UInt8)] }))), b, c, w64 (d + 1)))))) else some (.inr (.inr a))
def impl_DeedsText_n58 : NEnt := ⟨⟨25, [⟨3, .one, [.dat .str]⟩, ⟨7, .one, [.dat kk0]⟩, ⟨8, .one, [.dat kI]⟩, ⟨9, .one, [.dat kI]⟩]⟩, [(.ret, ⟨25, [⟨2, .one, [.dat .str]⟩]⟩), (.exit 0, ⟨25, [⟨3, .one, [.dat .str]⟩]⟩)], lp impl_DeedsText_s58⟩
def impl_DeedsText : List t8 → Option (List UInt8)
  | a => bx (lp impl_DeedsText_s58 (Array.toList (ByteArray.data { data := #[] }), a, ln a, 0)) (fun b => some b) fun b => some b
def impl_DeedsText_e : FEnt := ⟨23, [.tmp 2], [], [(.one, [.dat kk0])], ⟨25, [⟨2, .one, [.dat .str]⟩]⟩, impl_DeedsText⟩
theorem impl_DeedsText_ok : FnOk Tryd.prog 23 impl_DeedsText_e := fnOk_mk (tb := [(58, impl_DeedsText_n58)]) (c := (Tryd.f23.body).getD .skip) mixed Tryd.func23 (bC impl_DeedText_ok bN) (by kernel_rfl) (by kernel_rfl) (by kernel_rfl) ⟨nodeLoop (by kernel_rfl) impl_DeedsText_s58 (by kernel_rfl) (by intro d; kernel_rfl), trivial⟩ (by intro d; kernel_rfl)


/-! impl.DeedsOf -/
def impl_DeedsOf_s250 : List t8 × t5 → Option (List t8 × t5 ⊕ Unit × Bool ⊕ List t8)
  | (a, b, c, d) => bif decide (d < c) then ix d b.length ((impl_DeedOf (gx b d [])).bind fun ((e, f, g, h, i, j), k) => bif !k then some (.inr (.inl ((), false))) else (some [(e, f, g, h, i, j)]).bind fun l => chk (fits (a.length + l.length) 64) ((some (a ++ l)).bind fun m => some (.inl (m, b, c, w64 (d + 1))))) else some (.inr (.inr a))
def impl_DeedsOf_n250 : NEnt := ⟨⟨44, [⟨5, .one, [.own true kk1]⟩, ⟨23, .one, [.dat (.list .str)]⟩, ⟨24, .one, [.dat kI]⟩, ⟨25, .one, [.dat kI]⟩]⟩, [(.ret, ⟨44, [⟨2, .one, [.nil]⟩, ⟨3, .one, [.dat .bool]⟩]⟩), (.exit 0, ⟨44, [⟨5, .one, [.own true kk1]⟩]⟩)], lp impl_DeedsOf_s250⟩
def impl_DeedsOf : List UInt8 → Option (List t8 × Bool)
  | a => (impl_Parts (a, 10)).bind fun b => ix (w64 ((ln b) - 1)) b.length (bif !((gx b (w64 ((ln b) - 1)) []) == (Array.toList (ByteArray.data { data := #[] }))) then some ([], false) else g0 (w64 ((ln b) - 1)) (chk (decide ((0 ≤ (w64 ((ln b) - 1)).toNat) ∧ ((w64 ((ln b) - 1)).toNat ≤ b.length))) (bx (lp impl_DeedsOf_s250 ([], List.take (w64 ((ln b) - 1)).toNat b, ln (List.take (w64 ((ln b) - 1)).toNat b), 0)) (fun (_, c) => some ([], c)) fun c => some (c, true))))
def impl_DeedsOf_e : FEnt := ⟨42, [.tmp 2, .tmp 3], [], [(.one, [.dat .str])], ⟨44, [⟨2, .one, [.own true kk1]⟩, ⟨3, .one, [.dat .bool]⟩]⟩, impl_DeedsOf⟩
theorem impl_DeedsOf_ok : FnOk Tryd.prog 12 impl_DeedsOf_e := fnOk_mk (tb := [(250, impl_DeedsOf_n250)]) (c := (Tryd.f12.body).getD .skip) mixed Tryd.func12 (bC impl_Parts_ok (bC impl_DeedOf_ok bN)) (by kernel_rfl) (by kernel_rfl) (by kernel_rfl) ⟨nodeLoop (by kernel_rfl) impl_DeedsOf_s250 (by kernel_rfl) (by intro d; kernel_rfl), trivial⟩ (by intro d; kernel_rfl)


/-! spec.DeedsText -/
def spec_DeedsText_s58 : List t8 × List UInt8 × Int → Option (List t8 × List UInt8 × Int ⊕ List UInt8 ⊕ List UInt8)
  | (a, b, c) => bif decide (c < (ln a)) then ix c a.length ((some (gx a c (0, 0, 0, 0, 0, []))).bind fun (d, e, f, g, h, i) => (spec_DeedText (d, e, f, g, h, i)).bind fun j => bif j == (Array.toList (ByteArray.data { data := #[] })) then some (.inr (.inl (Array.toList (ByteArray.data { data := #[] })))) else chk (decide ((b.length + j.length) ≤ 1099511627776)) (chk (decide (((b ++ j).length + 1) ≤ 1099511627776)) (some (.inl (a, (b ++ j) ++ (Array.toList (ByteArray.data { data := #[(10 : UInt8)] })), w64 (c + 1)))))) else some (.inr (.inr b))
def spec_DeedsText_n58 : NEnt := ⟨⟨26, [⟨0, .one, [.dat kk0]⟩, ⟨3, .one, [.dat .str]⟩, ⟨4, .one, [.dat kI]⟩]⟩, [(.ret, ⟨26, [⟨2, .one, [.dat .str]⟩]⟩), (.exit 0, ⟨26, [⟨3, .one, [.dat .str]⟩]⟩)], lp spec_DeedsText_s58⟩
def spec_DeedsText : List t8 → Option (List UInt8)
  | a => bx (lp spec_DeedsText_s58 (a, Array.toList (ByteArray.data { data := #[] }), 0)) (fun b => some b) fun b => some b
def spec_DeedsText_e : FEnt := ⟨24, [.tmp 2], [], [(.one, [.dat kk0])], ⟨26, [⟨2, .one, [.dat .str]⟩]⟩, spec_DeedsText⟩
theorem spec_DeedsText_ok : FnOk Tryd.prog 24 spec_DeedsText_e := fnOk_mk (tb := [(58, spec_DeedsText_n58)]) (c := (Tryd.f24.body).getD .skip) mixed Tryd.func24 (bC spec_DeedText_ok bN) (by kernel_rfl) (by kernel_rfl) (by kernel_rfl) ⟨nodeLoop (by kernel_rfl) spec_DeedsText_s58 (by kernel_rfl) (by intro d; kernel_rfl), trivial⟩ (by intro d; kernel_rfl)


/-! laws.FnScripts -/
def laws_FnScripts_l127 : List Int → Option Bool
  | a => (spec_DrawDeedOf a).bind fun b => (impl_DeedOf b).bind fun ((c, d, e, f, g, h), i) => (spec_DeedOf b).bind fun ((j, k, l, m, n, o), p) => (spec_DrawDeedsText a).bind fun q => (impl_DeedsText q).bind fun r => (impl_DeedsOf r).bind fun (s, t) => bif !(i == p) then some false else bif i then (impl_DeedText (c, d, e, f, g, h)).bind fun u => bif !(u == b) then some false else bif !t then some false else (spec_DeedsText q).bind fun v => bif !(r == v) then some false else bif r == (Array.toList (ByteArray.data { data := #[] })) then some ((ln s) == 0) else bif (ln s) == (ln q) then (impl_DeedsText s).bind fun w => some (w == r) else some false else bif !t then some false else (spec_DeedsText q).bind fun u => bif !(r == u) then some false else bif r == (Array.toList (ByteArray.data { data := #[] })) then some ((ln s) == 0) else bif (ln s) == (ln q) then (impl_DeedsText s).bind fun v => some (v == r) else some false
def laws_FnScripts_n127 : NEnt := ⟨⟨144, [⟨0, .one, [.dat (.list kB)]⟩]⟩, [(.ret, ⟨144, [⟨2, .one, [.dat .bool]⟩]⟩)], laws_FnScripts_l127⟩
def laws_FnScripts : List Int → Option Bool
  | a => (laws_big a).bind fun b => bif b then some true else (spec_DrawDeedText a).bind fun (c, d, e, f, g, h) => (impl_DeedText (c, d, e, f, g, h)).bind fun i => (impl_DeedOf i).bind fun ((j, k, l, m, n, o), p) => (spec_DeedText (c, d, e, f, g, h)).bind fun q => bif !(i == q) then some false else bif !(p == (!(i == (Array.toList (ByteArray.data { data := #[] }))))) then some false else bif p then bif j != c then some false else bif k != d then some false else bif l != e then some false else bif m != f then some false else bif n != g then some false else (laws_sameInts (o, h)).bind fun r => bif !r then some false else (laws_FnScripts_l127 a).bind fun s => some s else (laws_FnScripts_l127 a).bind fun r => some r
def laws_FnScripts_e : FEnt := ⟨142, [.tmp 2], [], [(.one, [.dat (.list kB)])], ⟨144, [⟨2, .one, [.dat .bool]⟩]⟩, laws_FnScripts⟩
theorem laws_FnScripts_ok : FnOk Tryd.prog 5 laws_FnScripts_e := fnOk_mk (tb := [(127, laws_FnScripts_n127)]) (c := (Tryd.f5.body).getD .skip) mixed Tryd.func5 (bC laws_big_ok (bC spec_DrawDeedText_ok (bC impl_DeedText_ok (bC impl_DeedOf_ok (bC spec_DeedText_ok (bC laws_sameInts_ok (bC spec_DrawDeedOf_ok (bC spec_DeedOf_ok (bC spec_DrawDeedsText_ok (bC impl_DeedsText_ok (bC impl_DeedsOf_ok (bC spec_DeedsText_ok bN)))))))))))) (by kernel_rfl) (by kernel_rfl) (by kernel_rfl) ⟨nodeJoin (by kernel_rfl) (by intro d; kernel_rfl), trivial⟩ (by intro d; kernel_rfl)

end Go.Proofs.YtmlbgldofgobnaaDoor.Tw
