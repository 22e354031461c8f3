/- Printed by print.lean: typed twins of functions and their proofs. No condition. -/
import Derived.Test.YthchcnfkgjmabaaGreatV
import Derived.Test.YthchcnfkgjmabaaGreatExt
import Derived.Test.YthchcnfkgjmabaaGreatProg
import Derived.KernelRfl
namespace Go.Proofs.YthchcnfkgjmabaaGreat.Tw
open Go.Mach
set_option linter.unusedVariables false
set_option maxRecDepth 100000
abbrev kI : K := .int .i64
abbrev kB : K := .int .u8
abbrev t0 : Type := List (Int × Int) × Int
abbrev t1 : Type := Int × Unit × Unit × Unit
abbrev t2 : Type := List Int × List Int × Int
abbrev t3 : Type := Int × List Int × Int × Int
abbrev t4 : Type := List Int × List (List Int)
abbrev t5 : Type := List (List Int) × Int × Int
abbrev t6 : Type := List (Int × Int) × Int × Int
abbrev t7 : Type := Int × t1
abbrev t8 : Type := List Int × List Int × Int × Int
abbrev t9 : Type := List (Int × Int) × List (Int × Int)
abbrev t10 : Type := Int × t7
abbrev t11 : Type := List Int × t4
abbrev t12 : Type := List (Int × Int) × List Int × Int × Int
abbrev t13 : Type := List (Int × Int) × t0
abbrev t14 : Type := Int × t10
abbrev t15 : Type := Int × t11
abbrev t16 : Type := List (Int × Int) × t6
abbrev t17 : Type := Int × t15
abbrev t18 : Type := Int × t17
abbrev t19 : Type := Int × t18
abbrev t20 : Type := t19 × Int
abbrev t21 : Type := List (Int × Int) × t19
abbrev t22 : Type := Int × t21
abbrev t23 : Type := t19 × List Int × Int × Int
abbrev t24 : Type := Int × t22
abbrev t25 : Type := List t24 × Int
abbrev t26 : Type := t14 × t19
abbrev t27 : Type := List t24 × Int × Int
abbrev t28 : Type := t14 × t20
abbrev t29 : Type := List t24 × List Int × Int × Int
abbrev t30 : Type := t14 × t19 × t5
abbrev t31 : Type := List t24 × List t24
abbrev t32 : Type := List t24 × t25
abbrev t33 : Type := List t24 × t27
abbrev kk3 : K := (.list (.list kI))
abbrev kk2 : K := (.list (.pair kI kI))
abbrev kk1 : K := (.pair kI (.pair kI (.pair kk2 (.pair kI (.pair kI (.pair kI (.pair kI (.pair (.list kI) (.pair (.list kI) kk3)))))))))
abbrev kk0 : K := (.list kk1)
abbrev cc0 : List PC := [.dat kI, .dat kI, .own true (.pair kI kI), .dat kI, .dat kI, .dat kI, .dat kI, .own true kI, .own true kI, .own true (.list kI)]
abbrev cc1 : List PC := [.dat kI, .dat kI, .dat kI, .dat kI, .dat kI, .dat kI, .dat kI, .dat kI, .dat (.list kI), .dat (.list kI), .dat kk3]
abbrev cc2 : List PC := [.dat kI, .dat kI, .dat kk2, .dat kI, .dat kI, .dat kI, .dat kI, .dat (.list kI), .dat (.list kI), .dat kk3]
abbrev cc3 : List PC := [.dat kI, .dat kI, .dat kI, .dat kI, .own true kI, .own true kI, .own true (.list kI)]
abbrev cc4 : List PC := [.dat kI, .dat kI, .dat kI, .dat kI, .dat (.list kI), .dat (.list kI), .dat kk3]
abbrev cc5 : List PC := [.dat kI, .dat kI, .dat kI, .dat kI, .own true kI, .nil, .own true (.list kI)]
abbrev cc6 : List PC := [.dat kI, .dat kI, .nil, .dat kI, .dat kI, .dat kI, .dat kI, .nil, .nil, .nil]
abbrev cc7 : List PC := [.dat kI, .dat kI, .dat kI, .dat kI, .nil, .nil, .nil]
abbrev cc8 : List PC := [.dat (.list kB), .dat kI, .dat kI]
abbrev cc9 : List PC := [.own true (.pair kI kI)]
abbrev cc10 : List PC := [.dat kI, .dat kI]
theorem mixed : Tryz.prog.follows .mixedOrders = true := by kernel_rfl

/-! laws.big -/
def laws_big : List Int → Option Bool
  | a => some (decide ((ln a) > 1048576))
def laws_big_e : FEnt := ⟨6, [.tmp 2], [], [(.one, [.dat (.list kB)])], ⟨8, [⟨2, .one, [.dat .bool]⟩]⟩, laws_big⟩
theorem laws_big_ok : FnOk Tryz.prog 4 laws_big_e := fnOk_mk (tb := []) (c := (Tryz.f4.body).getD .skip) mixed Tryz.func4 bN (by kernel_rfl) (by kernel_rfl) (by kernel_rfl) trivial (by intro d; kernel_rfl)


/-! spec.l1New -/
def spec_l1New_s58 : List Int × Int × Int → Option (List Int × Int × Int ⊕ List Int × Int)
  | (a, b, c) => bif decide (c < (ln a)) then bif decide (c < 4000) then ix c a.length ((some (w64 ((w64 ((w64 (b * 131)) + (w64 (gx a c 0)))) + 7))).bind fun d => (some (w64 (Int.ofNat (BitVec.toNat (BitVec.ofInt (64 : Nat) d &&& BitVec.ofInt (64 : Nat) (1073741823 : Int)))))).bind fun e => some (.inl (a, e, w64 (c + 1)))) else some (.inr (a, b)) else some (.inr (a, b))
def spec_l1New_n58 : NEnt := ⟨⟨34, [⟨0, .one, [.dat (.list kB)]⟩, ⟨3, .one, [.dat kI]⟩, ⟨4, .one, [.dat kI]⟩]⟩, [(.exit 0, ⟨34, [⟨0, .one, [.dat (.list kB)]⟩, ⟨3, .one, [.dat kI]⟩]⟩)], lp spec_l1New_s58⟩
def spec_l1New : List Int → Option (Unit × List Int × Int × Int)
  | a => (lp spec_l1New_s58 (a, w64 (26583 + (ln a)), 0)).bind fun (b, c) => some ((), b, 0, c)
def spec_l1New_e : FEnt := ⟨32, [.tmp 2], [], [(.one, [.dat (.list kB)])], ⟨34, [⟨2, .one, [.bptr 31 0]⟩, ⟨31, .box, cc8⟩]⟩, spec_l1New⟩
theorem spec_l1New_ok : FnOk Tryz.prog 13 spec_l1New_e := fnOk_mk (tb := [(58, spec_l1New_n58)]) (c := (Tryz.f13.body).getD .skip) mixed Tryz.func13 bN (by kernel_rfl) (by kernel_rfl) (by kernel_rfl) ⟨nodeLoop (by kernel_rfl) spec_l1New_s58 (by kernel_rfl) (by intro d; kernel_rfl), trivial⟩ (by intro d; kernel_rfl)


/-! spec.l1Byte -/
def spec_l1Byte : List Int × Int × Int → Option t3
  | (a, b, c) => (some (Int.fdiv (w64 ((w64 (c * 6364136223846793005)) + 1442695040888963407)) ((2 : Int) ^ (33 : Nat)))).bind fun d => (some (Int.fdiv (w64 ((w64 (c * 6364136223846793005)) + 1442695040888963407)) ((2 : Int) ^ (45 : Nat)))).bind fun e => (some (w64 (Int.ofNat (BitVec.toNat (BitVec.ofInt (64 : Nat) (IntKind.wrap IntKind.i64 (↑(BitVec.toNat (BitVec.ofInt (64 : Nat) d ^^^ BitVec.ofInt (64 : Nat) e)) : Int)) &&& BitVec.ofInt (64 : Nat) (255 : Int)))))).bind fun f => bif decide (b < (ln a)) then ix b a.length ((some (w64 (Int.ofNat (BitVec.toNat (BitVec.ofInt (64 : Nat) (IntKind.wrap IntKind.i64 (f + IntKind.wrap IntKind.i64 (List.getD a (Int.toNat b) (0 : Int)))) &&& BitVec.ofInt (64 : Nat) (255 : Int)))))).bind fun g => some (g, a, w64 (b + 1), w64 ((w64 (c * 6364136223846793005)) + 1442695040888963407))) else some (f, a, b, w64 ((w64 (c * 6364136223846793005)) + 1442695040888963407))
def spec_l1Byte_e : FEnt := ⟨58, [.tmp 2], [true], [(.box, cc8)], ⟨60, [⟨2, .one, [.dat kI]⟩, ⟨59, .box, cc8⟩]⟩, spec_l1Byte⟩
theorem spec_l1Byte_ok : FnOk Tryz.prog 40 spec_l1Byte_e := fnOk_mk (tb := []) (c := (Tryz.f40.body).getD .skip) mixed Tryz.func40 bN (by kernel_rfl) (by kernel_rfl) (by kernel_rfl) trivial (by intro d; kernel_rfl)


/-! spec.l1Below -/
def spec_l1Below : (List Int × Int × Int) × Int → Option t3
  | ((a, b, c), d) => bif decide (d ≤ 0) then some (0, a, b, c) else bif decide (d ≤ 256) then (spec_l1Byte (a, b, c)).bind fun (e, f, g, h) => chk (!(decide (d = 0))) (some (Int.tmod e d, f, g, h)) else (spec_l1Byte (a, b, c)).bind fun (e, f, g, h) => (spec_l1Byte (f, g, h)).bind fun (i, j, k, l) => (spec_l1Byte (j, k, l)).bind fun (m, n, o, p) => (spec_l1Byte (n, o, p)).bind fun (q, r, s, t) => (some (w64 ((w64 ((w64 (e * 16777216)) + (w64 (i * 65536)))) + (w64 (m * 256))))).bind fun u => chk (!(decide (d = 0))) (some (Int.tmod (w64 (u + q)) d, r, s, t))
def spec_l1Below_e : FEnt := ⟨37, [.tmp 4], [true, false], [(.box, cc8), (.one, [.dat kI])], ⟨41, [⟨4, .one, [.dat kI]⟩, ⟨38, .box, cc8⟩]⟩, spec_l1Below⟩
theorem spec_l1Below_ok : FnOk Tryz.prog 24 spec_l1Below_e := fnOk_mk (tb := []) (c := (Tryz.f24.body).getD .skip) mixed Tryz.func24 (bC spec_l1Byte_ok bN) (by kernel_rfl) (by kernel_rfl) (by kernel_rfl) trivial (by intro d; kernel_rfl)


/-! spec.l1PickInt -/
def spec_l1PickInt : (List Int × Int × Int) × List Int → Option t3
  | ((a, b, c), d) => (spec_l1Below ((a, b, c), ln d)).bind fun (e, f, g, h) => ix e d.length (some (gx d e 0, f, g, h))
def spec_l1PickInt_e : FEnt := ⟨12, [.tmp 4], [true, false], [(.box, cc8), (.one, [.dat (.list kI)])], ⟨16, [⟨4, .one, [.dat kI]⟩, ⟨13, .box, cc8⟩]⟩, spec_l1PickInt⟩
theorem spec_l1PickInt_ok : FnOk Tryz.prog 43 spec_l1PickInt_e := fnOk_mk (tb := []) (c := (Tryz.f43.body).getD .skip) mixed Tryz.func43 (bC spec_l1Below_ok bN) (by kernel_rfl) (by kernel_rfl) (by kernel_rfl) trivial (by intro d; kernel_rfl)


/-! spec.l3Values -/
def spec_l3Values_s122 : Unit × List Int × Int × t3 → Option (Unit × List Int × Int × t3 ⊕ t8)
  | (_, a, b, c, d, e, f) => bif decide (c < b) then (spec_l1Byte (d, e, f)).bind fun (g, h, i, j) => (some [0, 1, 7, 8, 100, 5000, 1000000, g, 1000001, (-1)]).bind fun k => (spec_l1PickInt ((h, i, j), k)).bind fun (l, m, n, o) => chk (fits (a.length + [l].length) 8) (some (.inl ((), a ++ [l], b, w64 (c + 1), m, n, o))) else some (.inr (a, d, e, f))
def spec_l3Values_n122 : NEnt := ⟨⟨25, [⟨0, .one, [.bptr 24 0]⟩, ⟨3, .one, [.own true kI]⟩, ⟨4, .one, [.dat kI]⟩, ⟨5, .one, [.dat kI]⟩, ⟨24, .box, cc8⟩]⟩, [(.exit 0, ⟨25, [⟨3, .one, [.own true kI]⟩, ⟨24, .box, cc8⟩]⟩)], lp spec_l3Values_s122⟩
def spec_l3Values : List Int × Int × Int → Option t8
  | (a, b, c) => (spec_l1Below ((a, b, c), 6)).bind fun (d, e, f, g) => (lp spec_l3Values_s122 ((), [], d, 0, e, f, g)).bind fun (h, i, j, k) => some (h, i, j, k)
def spec_l3Values_e : FEnt := ⟨23, [.tmp 2], [true], [(.box, cc8)], ⟨25, [⟨2, .one, [.own true kI]⟩, ⟨24, .box, cc8⟩]⟩, spec_l3Values⟩
theorem spec_l3Values_ok : FnOk Tryz.prog 57 spec_l3Values_e := fnOk_mk (tb := [(122, spec_l3Values_n122)]) (c := (Tryz.f57.body).getD .skip) mixed Tryz.func57 (bC spec_l1Below_ok (bC spec_l1Byte_ok (bC spec_l1PickInt_ok bN))) (by kernel_rfl) (by kernel_rfl) (by kernel_rfl) ⟨nodeLoop (by kernel_rfl) spec_l3Values_s122 (by kernel_rfl) (by intro d; kernel_rfl), trivial⟩ (by intro d; kernel_rfl)


/-! spec.SketchNew -/
def spec_SketchNew : Unit → Option t19
  | _ => some (0, 0, 0, 0, List.replicate 8 0, List.replicate 8 0, [List.replicate 4 0, List.replicate 4 0])
def spec_SketchNew_e : FEnt := ⟨7, [.cell 0 true 7], [], [], ⟨7, [⟨0, .box, cc3⟩]⟩, spec_SketchNew⟩
theorem spec_SketchNew_ok : FnOk Tryz.prog 74 spec_SketchNew_e := fnOk_mk (tb := []) (c := (Tryz.f74.body).getD .skip) mixed Tryz.func74 bN (by kernel_rfl) (by kernel_rfl) (by kernel_rfl) trivial (by intro d; kernel_rfl)


/-! spec.l3Copy -/
def spec_l3Copy_s506 : t19 × t28 → Option (t19 × t28 ⊕ t26)
  | ((a, b, c, d, e, f, g), (h, i, j, k, _, _, _), (l, m, n, o, p, q, r), s) => bif decide (s < (ln g)) then ix s g.length (chk (fits (0 + (gx g s []).length) 8) (chk (fits (r.length + [[] ++ (gx g s [])].length) 24) ((some (r ++ [[] ++ (gx g s [])])).bind fun t => some (.inl ((a, b, c, d, e, f, g), (h, i, j, k, (), (), ()), (l, m, n, o, p, q, t), w64 (s + 1)))))) else some (.inr ((h, i, j, k, (), (), ()), l, m, n, o, p, q, r))
def spec_l3Copy_n506 : NEnt := ⟨⟨39, [⟨1, .box, cc4⟩, ⟨2, .box, cc7⟩, ⟨3, .box, cc3⟩, ⟨4, .one, [.dat kI]⟩]⟩, [(.exit 0, ⟨39, [⟨2, .box, cc7⟩, ⟨3, .box, cc3⟩]⟩)], lp spec_l3Copy_s506⟩
def spec_l3Copy : t19 → Option t19
  | (a, b, c, d, e, f, g) => chk (fits (0 + e.length) 8) (chk (fits (0 + f.length) 8) ((lp spec_l3Copy_s506 ((a, b, c, d, e, f, g), (0, 0, 0, 0, (), (), ()), (a, b, c, d, [] ++ e, [] ++ f, []), 0)).bind fun ((h, i, j, k, _, _, _), l, m, n, o, p, q, r) => some (l, m, n, o, p, q, r)))
def spec_l3Copy_e : FEnt := ⟨37, [.cell 2 true 7], [], [(.agg, cc4)], ⟨39, [⟨2, .box, cc3⟩]⟩, spec_l3Copy⟩
theorem spec_l3Copy_ok : FnOk Tryz.prog 45 spec_l3Copy_e := fnOk_mk (tb := [(506, spec_l3Copy_n506)]) (c := (Tryz.f45.body).getD .skip) mixed Tryz.func45 bN (by kernel_rfl) (by kernel_rfl) (by kernel_rfl) ⟨nodeLoop (by kernel_rfl) spec_l3Copy_s506 (by kernel_rfl) (by intro d; kernel_rfl), trivial⟩ (by intro d; kernel_rfl)


/-! spec.l1In -/
def spec_l1In : Int × Int × Int → Option Bool
  | (a, b, c) => bif decide (a ≥ b) then some (decide (a ≤ c)) else some false
def spec_l1In_e : FEnt := ⟨15, [.tmp 6], [], [(.one, [.dat kI]), (.one, [.dat kI]), (.one, [.dat kI])], ⟨21, [⟨6, .one, [.dat .bool]⟩]⟩, spec_l1In⟩
theorem spec_l1In_ok : FnOk Tryz.prog 69 spec_l1In_e := fnOk_mk (tb := []) (c := (Tryz.f69.body).getD .skip) mixed Tryz.func69 bN (by kernel_rfl) (by kernel_rfl) (by kernel_rfl) trivial (by intro d; kernel_rfl)


/-! spec.l3List -/
def spec_l3List_s58 : List Int × Int × Int × Bool × Int → Option (List Int × Int × Int × Bool × Int ⊕ Bool ⊕ Unit)
  | (a, b, c, d, e) => bif decide (e < b) then ix e a.length ((spec_l1In (gx a e 0, 0, c)).bind fun f => bif !f then some (.inr (.inl false)) else bif d then ix e a.length (bif (gx a e 0) != 0 then some (.inr (.inl false)) else some (.inl (a, b, c, d, w64 (e + 1)))) else some (.inl (a, b, c, d, w64 (e + 1)))) else some (.inr (.inr ()))
def spec_l3List_n58 : NEnt := ⟨⟨44, [⟨0, .one, [.dat (.list kI)]⟩, ⟨1, .one, [.dat kI]⟩, ⟨2, .one, [.dat kI]⟩, ⟨3, .one, [.dat .bool]⟩, ⟨9, .one, [.dat kI]⟩]⟩, [(.ret, ⟨44, [⟨8, .one, [.dat .bool]⟩]⟩), (.exit 0, ⟨44, []⟩)], lp spec_l3List_s58⟩
def spec_l3List : List Int × Int × Int × Bool → Option Bool
  | (a, b, c, d) => bif (ln a) != b then some false else bx (lp spec_l3List_s58 (a, b, c, d, 0)) (fun e => some e) fun _ => some true
def spec_l3List_e : FEnt := ⟨36, [.tmp 8], [], [(.one, [.dat (.list kI)]), (.one, [.dat kI]), (.one, [.dat kI]), (.one, [.dat .bool])], ⟨44, [⟨8, .one, [.dat .bool]⟩]⟩, spec_l3List⟩
theorem spec_l3List_ok : FnOk Tryz.prog 70 spec_l3List_e := fnOk_mk (tb := [(58, spec_l3List_n58)]) (c := (Tryz.f70.body).getD .skip) mixed Tryz.func70 (bC spec_l1In_ok bN) (by kernel_rfl) (by kernel_rfl) (by kernel_rfl) ⟨nodeLoop (by kernel_rfl) spec_l3List_s58 (by kernel_rfl) (by intro d; kernel_rfl), trivial⟩ (by intro d; kernel_rfl)


/-! spec.SketchOk -/
def spec_SketchOk_l31 : t19 × Bool → Option Bool
  | ((a, b, c, d, e, f, g), h) => (spec_l3List (e, 8, 1000000000, h)).bind fun i => bif i then (spec_l3List (f, 8, 17, h)).bind fun j => bif j then chk (decide (0 < g.length)) ((spec_l3List (List.getD g 0 [], 4, 1000000000, h)).bind fun k => bif k then chk (decide (1 < g.length)) ((spec_l3List (List.getD g 1 [], 4, 1000000000, h)).bind fun l => some l) else some false) else some false else some false
def spec_SketchOk_n31 : NEnt := ⟨⟨81, [⟨1, .box, cc4⟩, ⟨3, .one, [.dat .bool]⟩]⟩, [(.ret, ⟨81, [⟨2, .one, [.dat .bool]⟩]⟩)], spec_SketchOk_l31⟩
def spec_SketchOk : t19 → Option Bool
  | (a, b, c, d, e, f, g) => (spec_l1In (a, 0, 1000000000)).bind fun h => bif !h then some false else (spec_l1In (b, 0, 1000000000)).bind fun i => bif !i then some false else (spec_l1In (c, 0, 1000000)).bind fun j => bif !j then some false else (spec_l1In (d, 0, 1000000)).bind fun k => bif !k then some false else bif decide (c > d) then some false else bif (ln g) != 2 then some false else bif a == 0 then bif b != 0 then some false else bif d != 0 then some false else (spec_SketchOk_l31 ((a, b, c, d, e, f, g), a == 0)).bind fun l => some l else (spec_SketchOk_l31 ((a, b, c, d, e, f, g), a == 0)).bind fun l => some l
def spec_SketchOk_e : FEnt := ⟨79, [.tmp 2], [], [(.agg, cc4)], ⟨81, [⟨2, .one, [.dat .bool]⟩]⟩, spec_SketchOk⟩
theorem spec_SketchOk_ok : FnOk Tryz.prog 51 spec_SketchOk_e := fnOk_mk (tb := [(31, spec_SketchOk_n31)]) (c := (Tryz.f51.body).getD .skip) mixed Tryz.func51 (bC spec_l1In_ok (bC spec_l3List_ok bN)) (by kernel_rfl) (by kernel_rfl) (by kernel_rfl) ⟨nodeJoin (by kernel_rfl) (by intro d; kernel_rfl), trivial⟩ (by intro d; kernel_rfl)


/-! spec.l1Min -/
def spec_l1Min : Int × Int → Option Int
  | (a, b) => bif decide (a < b) then some a else some b
def spec_l1Min_e : FEnt := ⟨10, [.tmp 4], [], [(.one, [.dat kI]), (.one, [.dat kI])], ⟨14, [⟨4, .one, [.dat kI]⟩]⟩, spec_l1Min⟩
theorem spec_l1Min_ok : FnOk Tryz.prog 80 spec_l1Min_e := fnOk_mk (tb := []) (c := (Tryz.f80.body).getD .skip) mixed Tryz.func80 bN (by kernel_rfl) (by kernel_rfl) (by kernel_rfl) trivial (by intro d; kernel_rfl)


/-! spec.l1Max -/
def spec_l1Max : Int × Int → Option Int
  | (a, b) => bif decide (a > b) then some a else some b
def spec_l1Max_e : FEnt := ⟨10, [.tmp 4], [], [(.one, [.dat kI]), (.one, [.dat kI])], ⟨14, [⟨4, .one, [.dat kI]⟩]⟩, spec_l1Max⟩
theorem spec_l1Max_ok : FnOk Tryz.prog 88 spec_l1Max_e := fnOk_mk (tb := []) (c := (Tryz.f88.body).getD .skip) mixed Tryz.func88 bN (by kernel_rfl) (by kernel_rfl) (by kernel_rfl) trivial (by intro d; kernel_rfl)


/-! spec.l2Clip -/
def spec_l2Clip : Int × Int → Option Int
  | (a, b) => (spec_l1Min (a, b)).bind fun c => (spec_l1Max (0, c)).bind fun d => some d
def spec_l2Clip_e : FEnt := ⟨9, [.tmp 4], [], [(.one, [.dat kI]), (.one, [.dat kI])], ⟨13, [⟨4, .one, [.dat kI]⟩]⟩, spec_l2Clip⟩
theorem spec_l2Clip_ok : FnOk Tryz.prog 96 spec_l2Clip_e := fnOk_mk (tb := []) (c := (Tryz.f96.body).getD .skip) mixed Tryz.func96 (bC spec_l1Min_ok (bC spec_l1Max_ok bN)) (by kernel_rfl) (by kernel_rfl) (by kernel_rfl) trivial (by intro d; kernel_rfl)


/-! spec.Add -/
def spec_Add : Int × Int → Option Int
  | (a, b) => (spec_l2Clip (a, 1000000000)).bind fun c => (spec_l2Clip (b, 1000000000)).bind fun d => (spec_l1Min (w64 (c + d), 1000000000)).bind fun e => some e
def spec_Add_e : FEnt := ⟨11, [.tmp 4], [], [(.one, [.dat kI]), (.one, [.dat kI])], ⟨15, [⟨4, .one, [.dat kI]⟩]⟩, spec_Add⟩
theorem spec_Add_ok : FnOk Tryz.prog 87 spec_Add_e := fnOk_mk (tb := []) (c := (Tryz.f87.body).getD .skip) mixed Tryz.func87 (bC spec_l2Clip_ok (bC spec_l1Min_ok bN)) (by kernel_rfl) (by kernel_rfl) (by kernel_rfl) trivial (by intro d; kernel_rfl)


/-! spec.BucketOf -/
def spec_BucketOf_s60 : Int × Int → Option (Int × Int ⊕ Int)
  | (a, b) => bif decide (a > 0) then some (.inl (w64 (Int.tdiv a 2), w64 (b + 1))) else some (.inr b)
def spec_BucketOf_n60 : NEnt := ⟨⟨18, [⟨3, .one, [.dat kI]⟩, ⟨4, .one, [.dat kI]⟩]⟩, [(.exit 0, ⟨18, [⟨4, .one, [.dat kI]⟩]⟩)], lp spec_BucketOf_s60⟩
def spec_BucketOf : Int → Option Int
  | a => (spec_l2Clip (a, 1000000)).bind fun b => (lp spec_BucketOf_s60 (b, 0)).bind fun c => some (w64 (Int.tdiv (w64 (c + 2)) 3))
def spec_BucketOf_e : FEnt := ⟨16, [.tmp 2], [], [(.one, [.dat kI])], ⟨18, [⟨2, .one, [.dat kI]⟩]⟩, spec_BucketOf⟩
theorem spec_BucketOf_ok : FnOk Tryz.prog 89 spec_BucketOf_e := fnOk_mk (tb := [(60, spec_BucketOf_n60)]) (c := (Tryz.f89.body).getD .skip) mixed Tryz.func89 (bC spec_l2Clip_ok bN) (by kernel_rfl) (by kernel_rfl) (by kernel_rfl) ⟨nodeLoop (by kernel_rfl) spec_BucketOf_s60 (by kernel_rfl) (by intro d; kernel_rfl), trivial⟩ (by intro d; kernel_rfl)


/-! spec.Mix -/
def spec_Mix : Int → Option Int
  | a => (spec_l2Clip (a, 1000000)).bind fun b => (some (w64 (Int.ofNat (BitVec.toNat (BitVec.ofInt (64 : Nat) (Int.tmod (IntKind.wrap IntKind.i64 (IntKind.wrap IntKind.i64 (b * (40503 : Int)) + (12345 : Int))) (65536 : Int)) ^^^ BitVec.ofInt (64 : Nat) (IntKind.wrap IntKind.i64 (Int.tdiv (Int.tmod (IntKind.wrap IntKind.i64 (IntKind.wrap IntKind.i64 (b * (40503 : Int)) + (12345 : Int))) (65536 : Int)) (256 : Int)))))))).bind fun c => some c
def spec_Mix_e : FEnt := ⟨13, [.tmp 2], [], [(.one, [.dat kI])], ⟨15, [⟨2, .one, [.dat kI]⟩]⟩, spec_Mix⟩
theorem spec_Mix_ok : FnOk Tryz.prog 90 spec_Mix_e := fnOk_mk (tb := []) (c := (Tryz.f90.body).getD .skip) mixed Tryz.func90 (bC spec_l2Clip_ok bN) (by kernel_rfl) (by kernel_rfl) (by kernel_rfl) trivial (by intro d; kernel_rfl)


/-! spec.RankOf -/
def spec_RankOf_s124 : Int × Int → Option (Int × Int ⊕ Int)
  | (a, b) => bif (Int.tmod a 2) == 0 then some (.inl (w64 (Int.tdiv a 2), w64 (b + 1))) else some (.inr b)
def spec_RankOf_n124 : NEnt := ⟨⟨19, [⟨3, .one, [.dat kI]⟩, ⟨4, .one, [.dat kI]⟩]⟩, [(.exit 0, ⟨19, [⟨4, .one, [.dat kI]⟩]⟩)], lp spec_RankOf_s124⟩
def spec_RankOf : Int → Option Int
  | a => (spec_Mix a).bind fun b => bif b == 0 then some 17 else (lp spec_RankOf_s124 (b, 1)).bind fun c => some c
def spec_RankOf_e : FEnt := ⟨17, [.tmp 2], [], [(.one, [.dat kI])], ⟨19, [⟨2, .one, [.dat kI]⟩]⟩, spec_RankOf⟩
theorem spec_RankOf_ok : FnOk Tryz.prog 91 spec_RankOf_e := fnOk_mk (tb := [(124, spec_RankOf_n124)]) (c := (Tryz.f91.body).getD .skip) mixed Tryz.func91 (bC spec_Mix_ok bN) (by kernel_rfl) (by kernel_rfl) (by kernel_rfl) ⟨nodeLoop (by kernel_rfl) spec_RankOf_s124 (by kernel_rfl) (by intro d; kernel_rfl), trivial⟩ (by intro d; kernel_rfl)


/-! spec.Insert -/
def spec_Insert_s32762 : Int × t28 → Option (Int × t28 ⊕ t26)
  | (a, (b, c, d, e, _, _, _), (f, g, h, i, j, k, l), m) => bif decide (m < 2) then (spec_Mix a).bind fun n => ix m l.length (lx m l.length (ix m l.length (lx m l.length (ix (Int.tmod (w64 (n + m)) 4) (gx l m []).length (lx (Int.tmod (w64 (n + m)) 4) (gx l m []).length ((spec_Add (gx (gx l m []) (Int.tmod (w64 (n + m)) 4) 0, 1)).bind fun o => ix (Int.tmod (w64 (n + m)) 4) (gx l m []).length (lx (Int.tmod (w64 (n + m)) 4) (gx l m []).length (some (.inl (a, (b, c, d, e, (), (), ()), (f, g, h, i, j, k, sx l m (sx (gx l m []) (Int.tmod (w64 (n + m)) 4) o)), w64 (m + 1))))))))))) else some (.inr ((b, c, d, e, (), (), ()), f, g, h, i, j, k, l))
def spec_Insert_n32762 : NEnt := ⟨⟨102, [⟨1, .one, [.dat kI]⟩, ⟨4, .box, cc7⟩, ⟨6, .box, cc3⟩, ⟨8, .one, [.dat kI]⟩]⟩, [(.exit 0, ⟨102, [⟨4, .box, cc7⟩, ⟨6, .box, cc3⟩]⟩)], lp spec_Insert_s32762⟩
def spec_Insert_l255 : Int × t19 × t26 → Option (t19 × Bool)
  | (a, (b, c, d, e, f, g, h), (i, j, k, l, _, _, _), m, n, o, p, q, r, s) => (spec_l1Max (e, a)).bind fun t => (spec_BucketOf a).bind fun u => (spec_BucketOf a).bind fun v => ix v q.length (lx v q.length ((spec_Add (gx q v 0, 1)).bind fun w => ix u q.length (lx u q.length ((spec_Mix a).bind fun x => ix (Int.tmod x 8) r.length (lx (Int.tmod x 8) r.length ((spec_RankOf a).bind fun y => (spec_l1Max (gx r (Int.tmod x 8) 0, y)).bind fun z => ix (Int.tmod x 8) r.length (lx (Int.tmod x 8) r.length ((lp spec_Insert_s32762 (a, (i, j, k, l, (), (), ()), (m, n, o, t, sx q u w, sx r (Int.tmod x 8) z, s), 0)).bind fun ((a1, b1, c1, d1, _, _, _), e1, f1, g1, h1, i1, j1, k1) => some ((e1, f1, g1, h1, i1, j1, k1), true)))))))))
def spec_Insert_n255 : NEnt := ⟨⟨102, [⟨1, .one, [.dat kI]⟩, ⟨2, .box, cc4⟩, ⟨4, .box, cc7⟩, ⟨6, .box, cc3⟩]⟩, [(.ret, ⟨102, [⟨4, .box, cc3⟩, ⟨5, .one, [.dat .bool]⟩]⟩)], spec_Insert_l255⟩
def spec_Insert : t20 → Option (t19 × Bool)
  | ((a, b, c, d, e, f, g), h) => (spec_l3Copy (a, b, c, d, e, f, g)).bind fun (i, j, k, l, m, n, o) => (spec_SketchOk (a, b, c, d, e, f, g)).bind fun p => bif !p then some ((i, j, k, l, m, n, o), false) else (spec_l1In (h, 0, 1000000)).bind fun q => bif !q then some ((i, j, k, l, m, n, o), false) else (spec_Add (a, 1)).bind fun r => (spec_Add (b, h)).bind fun s => (spec_l1Min (c, h)).bind fun t => bif a == 0 then (spec_Insert_l255 (h, (a, b, c, d, e, f, g), (0, 0, 0, 0, (), (), ()), r, s, h, l, m, n, o)).bind fun ((u, v, w, x, y, z, a1), b1) => some ((u, v, w, x, y, z, a1), b1) else (spec_Insert_l255 (h, (a, b, c, d, e, f, g), (0, 0, 0, 0, (), (), ()), r, s, t, l, m, n, o)).bind fun ((u, v, w, x, y, z, a1), b1) => some ((u, v, w, x, y, z, a1), b1)
def spec_Insert_e : FEnt := ⟨98, [.cell 4 true 7, .tmp 5], [], [(.agg, cc4), (.one, [.dat kI])], ⟨102, [⟨4, .box, cc3⟩, ⟨5, .one, [.dat .bool]⟩]⟩, spec_Insert⟩
theorem spec_Insert_ok : FnOk Tryz.prog 75 spec_Insert_e := fnOk_mk (tb := [(32762, spec_Insert_n32762), (255, spec_Insert_n255)]) (c := (Tryz.f75.body).getD .skip) mixed Tryz.func75 (bC spec_l3Copy_ok (bC spec_SketchOk_ok (bC spec_l1In_ok (bC spec_Add_ok (bC spec_l1Min_ok (bC spec_l1Max_ok (bC spec_BucketOf_ok (bC spec_Mix_ok (bC spec_RankOf_ok bN))))))))) (by kernel_rfl) (by kernel_rfl) (by kernel_rfl) ⟨nodeLoop (by kernel_rfl) spec_Insert_s32762 (by kernel_rfl) (by intro d; kernel_rfl), nodeJoin (by kernel_rfl) (by intro d; kernel_rfl), trivial⟩ (by intro d; kernel_rfl)


/-! spec.Sketched -/
def spec_Sketched_s58 : List Int × t28 → Option (List Int × t28 ⊕ t26)
  | (a, (b, c, d, e, _, _, _), (f, g, h, i, j, k, l), m) => bif decide (m < (ln a)) then ix m a.length ((spec_Insert ((f, g, h, i, j, k, l), gx a m 0)).bind fun ((n, o, p, q, r, s, t), u) => some (.inl (a, (b, c, d, e, (), (), ()), (n, o, p, q, r, s, t), w64 (m + 1)))) else some (.inr ((b, c, d, e, (), (), ()), f, g, h, i, j, k, l))
def spec_Sketched_n58 : NEnt := ⟨⟨24, [⟨0, .one, [.dat (.list kI)]⟩, ⟨2, .box, cc7⟩, ⟨3, .box, cc3⟩, ⟨4, .one, [.dat kI]⟩]⟩, [(.exit 0, ⟨24, [⟨2, .box, cc7⟩, ⟨3, .box, cc3⟩]⟩)], lp spec_Sketched_s58⟩
def spec_Sketched : List Int → Option t19
  | a => (spec_SketchNew ()).bind fun (b, c, d, e, f, g, h) => (lp spec_Sketched_s58 (a, (0, 0, 0, 0, (), (), ()), (b, c, d, e, f, g, h), 0)).bind fun ((i, j, k, l, _, _, _), m, n, o, p, q, r, s) => some (m, n, o, p, q, r, s)
def spec_Sketched_e : FEnt := ⟨22, [.cell 2 true 7], [], [(.one, [.dat (.list kI)])], ⟨24, [⟨2, .box, cc3⟩]⟩, spec_Sketched⟩
theorem spec_Sketched_ok : FnOk Tryz.prog 56 spec_Sketched_e := fnOk_mk (tb := [(58, spec_Sketched_n58)]) (c := (Tryz.f56.body).getD .skip) mixed Tryz.func56 (bC spec_SketchNew_ok (bC spec_Insert_ok bN)) (by kernel_rfl) (by kernel_rfl) (by kernel_rfl) ⟨nodeLoop (by kernel_rfl) spec_Sketched_s58 (by kernel_rfl) (by intro d; kernel_rfl), trivial⟩ (by intro d; kernel_rfl)


/-! spec.l6Right -/
def spec_l6Right : List Int × Int × Int → Option ((Int × Int × Int × Int × t19) × List Int × Int × Int)
  | (a, b, c) => (spec_l1Below ((a, b, c), 8)).bind fun (d, e, f, g) => (spec_l1Below ((e, f, g), 2)).bind fun (h, i, j, k) => (spec_l1Below ((i, j, k), 2)).bind fun (l, m, n, o) => (spec_l1Below ((m, n, o), 3)).bind fun (p, q, r, s) => (spec_l3Values (q, r, s)).bind fun (t, u, v, w) => (spec_Sketched t).bind fun (x, y, z, a1, b1, c1, d1) => some ((w64 (1 + d), h, l, p, x, y, z, a1, b1, c1, d1), u, v, w)
def spec_l6Right_e : FEnt := ⟨16, [.cell 2 true 11], [true], [(.box, cc8)], ⟨18, [⟨2, .box, [.dat kI, .dat kI, .dat kI, .dat kI, .dat kI, .dat kI, .dat kI, .dat kI, .own true kI, .own true kI, .own true (.list kI)]⟩, ⟨17, .box, cc8⟩]⟩, spec_l6Right⟩
theorem spec_l6Right_ok : FnOk Tryz.prog 36 spec_l6Right_e := fnOk_mk (tb := []) (c := (Tryz.f36.body).getD .skip) mixed Tryz.func36 (bC spec_l1Below_ok (bC spec_l3Values_ok (bC spec_Sketched_ok bN))) (by kernel_rfl) (by kernel_rfl) (by kernel_rfl) trivial (by intro d; kernel_rfl)


/-! spec.l6Agent -/
def spec_l6Agent : Int → Option Bool
  | a => (spec_l1In (a, 0, 2)).bind fun b => some b
def spec_l6Agent_e : FEnt := ⟨5, [.tmp 2], [], [(.one, [.dat kI])], ⟨7, [⟨2, .one, [.dat .bool]⟩]⟩, spec_l6Agent⟩
theorem spec_l6Agent_ok : FnOk Tryz.prog 76 spec_l6Agent_e := fnOk_mk (tb := []) (c := (Tryz.f76.body).getD .skip) mixed Tryz.func76 (bC spec_l1In_ok bN) (by kernel_rfl) (by kernel_rfl) (by kernel_rfl) trivial (by intro d; kernel_rfl)


/-! spec.IdOf -/
def spec_IdOf : Int × Int → Option Int
  | (a, b) => (spec_l6Agent a).bind fun c => bif !c then some (-1) else (spec_l1In (b, 1, 60)).bind fun d => bif !d then some (-1) else some (w64 ((w64 (100 * a)) + b))
def spec_IdOf_e : FEnt := ⟨17, [.tmp 4], [], [(.one, [.dat kI]), (.one, [.dat kI])], ⟨21, [⟨4, .one, [.dat kI]⟩]⟩, spec_IdOf⟩
theorem spec_IdOf_ok : FnOk Tryz.prog 58 spec_IdOf_e := fnOk_mk (tb := []) (c := (Tryz.f58.body).getD .skip) mixed Tryz.func58 (bC spec_l6Agent_ok (bC spec_l1In_ok bN)) (by kernel_rfl) (by kernel_rfl) (by kernel_rfl) trivial (by intro d; kernel_rfl)


/-! spec.l6Place -/
def spec_l6Place : Int × Int → Option Bool
  | (a, b) => (spec_l1In (a, 0, 4)).bind fun c => bif c then (spec_l1In (b, 0, 20)).bind fun d => some d else some false
def spec_l6Place_e : FEnt := ⟨11, [.tmp 4], [], [(.one, [.dat kI]), (.one, [.dat kI])], ⟨15, [⟨4, .one, [.dat .bool]⟩]⟩, spec_l6Place⟩
theorem spec_l6Place_ok : FnOk Tryz.prog 49 spec_l6Place_e := fnOk_mk (tb := []) (c := (Tryz.f49.body).getD .skip) mixed Tryz.func49 (bC spec_l1In_ok bN) (by kernel_rfl) (by kernel_rfl) (by kernel_rfl) trivial (by intro d; kernel_rfl)


/-! spec.ItemOk -/
def spec_ItemOk : Int × Int × Int × Int × t19 → Option Bool
  | (a, b, c, d, e, f, g, h, i, j, k) => (spec_l1In (a, 1, 60)).bind fun l => bif l then (spec_l1In (b, 0, 1)).bind fun m => bif m then (spec_l6Place (c, d)).bind fun n => bif n then (spec_SketchOk (e, f, g, h, i, j, k)).bind fun o => some o else some false else some false else some false
def spec_ItemOk_e : FEnt := ⟨23, [.tmp 2], [], [(.agg, cc1)], ⟨25, [⟨2, .one, [.dat .bool]⟩]⟩, spec_ItemOk⟩
theorem spec_ItemOk_ok : FnOk Tryz.prog 59 spec_ItemOk_e := fnOk_mk (tb := []) (c := (Tryz.f59.body).getD .skip) mixed Tryz.func59 (bC spec_l1In_ok (bC spec_l6Place_ok (bC spec_SketchOk_ok bN))) (by kernel_rfl) (by kernel_rfl) (by kernel_rfl) trivial (by intro d; kernel_rfl)


/-! spec.EntryOf -/
def spec_EntryOf : Int × Int × Int × Int × Int × t19 → Option (t24 × Bool)
  | (a, b, c, d, e, f, g, h, i, j, k, l) => (spec_IdOf (a, b)).bind fun m => (spec_ItemOk (b, c, d, e, f, g, h, i, j, k, l)).bind fun n => bif !n then some ((0, 0, [], 0, 0, 0, 0, [], [], []), false) else bif decide (m < 0) then some ((0, 0, [], 0, 0, 0, 0, [], [], []), false) else (spec_l3Copy (f, g, h, i, j, k, l)).bind fun (o, p, q, r, s, t, u) => some ((d, e, [(m, m)], o, p, q, r, s, t, u), true)
def spec_EntryOf_e : FEnt := ⟨31, [.cell 4 true 10, .tmp 5], [], [(.one, [.dat kI]), (.agg, cc1)], ⟨35, [⟨4, .box, cc0⟩, ⟨5, .one, [.dat .bool]⟩]⟩, spec_EntryOf⟩
theorem spec_EntryOf_ok : FnOk Tryz.prog 37 spec_EntryOf_e := fnOk_mk (tb := []) (c := (Tryz.f37.body).getD .skip) mixed Tryz.func37 (bC spec_IdOf_ok (bC spec_ItemOk_ok (bC spec_l3Copy_ok bN))) (by kernel_rfl) (by kernel_rfl) (by kernel_rfl) trivial (by intro d; kernel_rfl)


/-! spec.l1Once -/
def spec_l1Once : (List Int × Int × Int) × Int → Option (Bool × List Int × Int × Int)
  | ((a, b, c), d) => (spec_l1Below ((a, b, c), d)).bind fun (e, f, g, h) => some (e == 0, f, g, h)
def spec_l1Once_e : FEnt := ⟨9, [.tmp 4], [true, false], [(.box, cc8), (.one, [.dat kI])], ⟨13, [⟨4, .one, [.dat .bool]⟩, ⟨10, .box, cc8⟩]⟩, spec_l1Once⟩
theorem spec_l1Once_ok : FnOk Tryz.prog 39 spec_l1Once_e := fnOk_mk (tb := []) (c := (Tryz.f39.body).getD .skip) mixed Tryz.func39 (bC spec_l1Below_ok bN) (by kernel_rfl) (by kernel_rfl) (by kernel_rfl) trivial (by intro d; kernel_rfl)


/-! spec.l5Copy -/
def spec_l5Copy : List (Int × Int) → Option (List (Int × Int))
  | a => chk (fits (0 + a.length) 16) (some ([] ++ a))
def spec_l5Copy_e : FEnt := ⟨6, [.tmp 2], [], [(.one, [.dat kk2])], ⟨8, [⟨2, .one, cc9⟩]⟩, spec_l5Copy⟩
theorem spec_l5Copy_ok : FnOk Tryz.prog 44 spec_l5Copy_e := fnOk_mk (tb := []) (c := (Tryz.f44.body).getD .skip) mixed Tryz.func44 bN (by kernel_rfl) (by kernel_rfl) (by kernel_rfl) trivial (by intro d; kernel_rfl)


/-! spec.l6Copy -/
def spec_l6Copy : t24 → Option t24
  | (a, b, c, d, e, f, g, h, i, j) => (spec_l5Copy c).bind fun k => (spec_l3Copy (d, e, f, g, h, i, j)).bind fun (l, m, n, o, p, q, r) => some (a, b, k, l, m, n, o, p, q, r)
def spec_l6Copy_e : FEnt := ⟨14, [.cell 2 true 10], [], [(.agg, cc2)], ⟨16, [⟨2, .box, cc0⟩]⟩, spec_l6Copy⟩
theorem spec_l6Copy_ok : FnOk Tryz.prog 26 spec_l6Copy_e := fnOk_mk (tb := []) (c := (Tryz.f26.body).getD .skip) mixed Tryz.func26 (bC spec_l5Copy_ok (bC spec_l3Copy_ok bN)) (by kernel_rfl) (by kernel_rfl) (by kernel_rfl) trivial (by intro d; kernel_rfl)


/-! spec.l10Copy -/
def spec_l10Copy_s58 : List t24 × Unit × t25 → Option (List t24 × Unit × t25 ⊕ Unit × List t24)
  | (a, _, b, c) => (some (decide (c < (ln a)))).bind fun d => bif d then ix c a.length ((some (gx a c (0, 0, [], 0, 0, 0, 0, [], [], []))).bind fun (e, f, g, h, i, j, k, l, m, n) => (spec_l6Copy (e, f, g, h, i, j, k, l, m, n)).bind fun (o, p, q, r, s, t, u, v, w, x) => (some [(o, p, q, r, s, t, u, v, w, x)]).bind fun y => chk (fits (b.length + y.length) 144) ((some (b ++ y)).bind fun z => some (.inl (a, (), z, w64 (c + 1))))) else some (.inr ((), b))
def spec_l10Copy_n58 : NEnt := ⟨⟨27, [⟨1, .box, [.dat kk0]⟩, ⟨2, .box, [.nil]⟩, ⟨3, .box, [.own true kk1]⟩, ⟨4, .one, [.dat kI]⟩]⟩, [(.exit 0, ⟨27, [⟨2, .box, [.nil]⟩, ⟨3, .box, [.own true kk1]⟩]⟩)], lp spec_l10Copy_s58⟩
def spec_l10Copy : List t24 → Option (List t24)
  | a => (lp spec_l10Copy_s58 (a, (), [], 0)).bind fun (_, b) => some b
def spec_l10Copy_e : FEnt := ⟨25, [.cell 2 true 1], [], [(.agg, [.dat kk0])], ⟨27, [⟨2, .box, [.own true kk1]⟩]⟩, spec_l10Copy⟩
theorem spec_l10Copy_ok : FnOk Tryz.prog 16 spec_l10Copy_e := fnOk_mk (tb := [(58, spec_l10Copy_n58)]) (c := (Tryz.f16.body).getD .skip) mixed Tryz.func16 (bC spec_l6Copy_ok bN) (by kernel_rfl) (by kernel_rfl) (by kernel_rfl) ⟨nodeLoop (by kernel_rfl) spec_l10Copy_s58 (by kernel_rfl) (by intro d; kernel_rfl), trivial⟩ (by intro d; kernel_rfl)


/-! spec.SetOk -/
def spec_SetOk_s26 : t0 → Option (t0 ⊕ Bool ⊕ Unit)
  | (a, b) => bif decide (b < (ln a)) then ix b a.length ((some (gx a b (0, 0))).bind fun (c, d) => (spec_l1In (c, 0, 9999)).bind fun e => bif !e then some (.inr (.inl false)) else ix b a.length ((some (gx a b (0, 0))).bind fun (f, g) => ix b a.length ((some (gx a b (0, 0))).bind fun (h, i) => (spec_l1In (g, h, 9999)).bind fun j => bif !j then some (.inr (.inl false)) else bif decide (b > 0) then ix b a.length ((some (gx a b (0, 0))).bind fun (k, l) => ix (w64 (b - 1)) a.length ((some (gx a (w64 (b - 1)) (0, 0))).bind fun (m, n) => bif decide (k ≤ (w64 (n + 1))) then some (.inr (.inl false)) else some (.inl (a, w64 (b + 1))))) else some (.inl (a, w64 (b + 1)))))) else some (.inr (.inr ()))
def spec_SetOk_n26 : NEnt := ⟨⟨52, [⟨0, .one, [.dat kk2]⟩, ⟨3, .one, [.dat kI]⟩]⟩, [(.ret, ⟨52, [⟨2, .one, [.dat .bool]⟩]⟩), (.exit 0, ⟨52, []⟩)], lp spec_SetOk_s26⟩
def spec_SetOk : List (Int × Int) → Option Bool
  | a => bx (lp spec_SetOk_s26 (a, 0)) (fun b => some b) fun _ => some true
def spec_SetOk_e : FEnt := ⟨50, [.tmp 2], [], [(.one, [.dat kk2])], ⟨52, [⟨2, .one, [.dat .bool]⟩]⟩, spec_SetOk⟩
theorem spec_SetOk_ok : FnOk Tryz.prog 50 spec_SetOk_e := fnOk_mk (tb := [(26, spec_SetOk_n26)]) (c := (Tryz.f50.body).getD .skip) mixed Tryz.func50 (bC spec_l1In_ok bN) (by kernel_rfl) (by kernel_rfl) (by kernel_rfl) ⟨nodeLoop (by kernel_rfl) spec_SetOk_s26 (by kernel_rfl) (by intro d; kernel_rfl), trivial⟩ (by intro d; kernel_rfl)


/-! spec.EntryOk -/
def spec_EntryOk : t24 → Option Bool
  | (a, b, c, d, e, f, g, h, i, j) => (spec_l6Place (a, b)).bind fun k => bif k then bif decide ((ln c) > 0) then (spec_SetOk c).bind fun l => bif l then (spec_SketchOk (d, e, f, g, h, i, j)).bind fun m => some m else some false else some false else some false
def spec_EntryOk_e : FEnt := ⟨24, [.tmp 2], [], [(.agg, cc2)], ⟨26, [⟨2, .one, [.dat .bool]⟩]⟩, spec_EntryOk⟩
theorem spec_EntryOk_ok : FnOk Tryz.prog 29 spec_EntryOk_e := fnOk_mk (tb := []) (c := (Tryz.f29.body).getD .skip) mixed Tryz.func29 (bC spec_l6Place_ok (bC spec_SetOk_ok (bC spec_SketchOk_ok bN))) (by kernel_rfl) (by kernel_rfl) (by kernel_rfl) trivial (by intro d; kernel_rfl)


/-! spec.SetApart -/
def spec_SetApart_s3730 : t16 → Option (t16 ⊕ Bool ⊕ t13)
  | (a, b, c, d) => bif decide (d < (ln b)) then ix c a.length ((some (gx a c (0, 0))).bind fun (e, f) => ix d b.length ((some (gx b d (0, 0))).bind fun (g, h) => bif decide (e ≤ h) then ix d b.length ((some (gx b d (0, 0))).bind fun (i, j) => ix c a.length ((some (gx a c (0, 0))).bind fun (k, l) => bif decide (i ≤ l) then some (.inr (.inl false)) else some (.inl (a, b, c, w64 (d + 1))))) else some (.inl (a, b, c, w64 (d + 1))))) else some (.inr (.inr (a, b, c)))
def spec_SetApart_n3730 : NEnt := ⟨⟨55, [⟨0, .one, [.dat kk2]⟩, ⟨1, .one, [.dat kk2]⟩, ⟨5, .one, [.dat kI]⟩, ⟨6, .one, [.dat kI]⟩]⟩, [(.ret, ⟨55, [⟨4, .one, [.dat .bool]⟩]⟩), (.exit 2, ⟨55, [⟨0, .one, [.dat kk2]⟩, ⟨1, .one, [.dat kk2]⟩, ⟨5, .one, [.dat kI]⟩]⟩)], lp spec_SetApart_s3730⟩
def spec_SetApart_s58 : t13 → Option (t13 ⊕ Bool ⊕ Unit)
  | (a, b, c) => bif decide (c < (ln a)) then bx (lp spec_SetApart_s3730 (a, b, c, 0)) (fun d => some (.inr (.inl d))) fun (d, e, f) => some (.inl (d, e, w64 (f + 1))) else some (.inr (.inr ()))
def spec_SetApart_n58 : NEnt := ⟨⟨55, [⟨0, .one, [.dat kk2]⟩, ⟨1, .one, [.dat kk2]⟩, ⟨5, .one, [.dat kI]⟩]⟩, [(.ret, ⟨55, [⟨4, .one, [.dat .bool]⟩]⟩), (.exit 0, ⟨55, []⟩)], lp spec_SetApart_s58⟩
def spec_SetApart : t9 → Option Bool
  | (a, b) => (spec_SetOk a).bind fun c => bif !c then some false else (spec_SetOk b).bind fun d => bif !d then some false else bx (lp spec_SetApart_s58 (a, b, 0)) (fun e => some e) fun _ => some true
def spec_SetApart_e : FEnt := ⟨51, [.tmp 4], [], [(.one, [.dat kk2]), (.one, [.dat kk2])], ⟨55, [⟨4, .one, [.dat .bool]⟩]⟩, spec_SetApart⟩
theorem spec_SetApart_ok : FnOk Tryz.prog 30 spec_SetApart_e := fnOk_mk (tb := [(3730, spec_SetApart_n3730), (58, spec_SetApart_n58)]) (c := (Tryz.f30.body).getD .skip) mixed Tryz.func30 (bC spec_SetOk_ok bN) (by kernel_rfl) (by kernel_rfl) (by kernel_rfl) ⟨nodeLoop (by kernel_rfl) spec_SetApart_s3730 (by kernel_rfl) (by intro d; kernel_rfl), nodeLoop (by kernel_rfl) spec_SetApart_s58 (by kernel_rfl) (by intro d; kernel_rfl), trivial⟩ (by intro d; kernel_rfl)


/-! spec.RowOk -/
def spec_RowOk_s7462 : t27 → Option (t27 ⊕ Bool ⊕ t25)
  | (a, b, c) => bif decide (c < b) then ix b a.length ((some (gx a b (0, 0, [], 0, 0, 0, 0, [], [], []))).bind fun (d, e, f, g, h, i, j, k, l, m) => ix c a.length ((some (gx a c (0, 0, [], 0, 0, 0, 0, [], [], []))).bind fun (n, o, p, q, r, s, t, u, v, w) => (spec_SetApart (f, p)).bind fun x => bif !x then some (.inr (.inl false)) else some (.inl (a, b, w64 (c + 1))))) else some (.inr (.inr (a, b)))
def spec_RowOk_n7462 : NEnt := ⟨⟨44, [⟨1, .box, [.dat kk0]⟩, ⟨3, .one, [.dat kI]⟩, ⟨4, .one, [.dat kI]⟩]⟩, [(.ret, ⟨44, [⟨2, .one, [.dat .bool]⟩]⟩), (.exit 2, ⟨44, [⟨1, .box, [.dat kk0]⟩, ⟨3, .one, [.dat kI]⟩]⟩)], lp spec_RowOk_s7462⟩
def spec_RowOk_s58 : t25 → Option (t25 ⊕ Bool ⊕ Unit)
  | (a, b) => (some (decide (b < (ln a)))).bind fun c => bif c then ix b a.length ((some (gx a b (0, 0, [], 0, 0, 0, 0, [], [], []))).bind fun (d, e, f, g, h, i, j, k, l, m) => (spec_EntryOk (d, e, f, g, h, i, j, k, l, m)).bind fun n => bif !n then some (.inr (.inl false)) else bx (lp spec_RowOk_s7462 (a, b, 0)) (fun o => some (.inr (.inl o))) fun (o, p) => some (.inl (o, w64 (p + 1)))) else some (.inr (.inr ()))
def spec_RowOk_n58 : NEnt := ⟨⟨44, [⟨1, .box, [.dat kk0]⟩, ⟨3, .one, [.dat kI]⟩]⟩, [(.ret, ⟨44, [⟨2, .one, [.dat .bool]⟩]⟩), (.exit 0, ⟨44, []⟩)], lp spec_RowOk_s58⟩
def spec_RowOk : List t24 → Option Bool
  | a => (some (decide ((ln a) > 24))).bind fun b => bif b then some false else bx (lp spec_RowOk_s58 (a, 0)) (fun c => some c) fun _ => some true
def spec_RowOk_e : FEnt := ⟨42, [.tmp 2], [], [(.agg, [.dat kk0])], ⟨44, [⟨2, .one, [.dat .bool]⟩]⟩, spec_RowOk⟩
theorem spec_RowOk_ok : FnOk Tryz.prog 17 spec_RowOk_e := fnOk_mk (tb := [(7462, spec_RowOk_n7462), (58, spec_RowOk_n58)]) (c := (Tryz.f17.body).getD .skip) mixed Tryz.func17 (bC spec_EntryOk_ok (bC spec_SetApart_ok bN)) (by kernel_rfl) (by kernel_rfl) (by kernel_rfl) ⟨nodeLoop (by kernel_rfl) spec_RowOk_s7462 (by kernel_rfl) (by intro d; kernel_rfl), nodeLoop (by kernel_rfl) spec_RowOk_s58 (by kernel_rfl) (by intro d; kernel_rfl), trivial⟩ (by intro d; kernel_rfl)


/-! spec.l10Apart -/
def spec_l10Apart_s26 : List (Int × Int) × t25 → Option (List (Int × Int) × t25 ⊕ Bool ⊕ Unit)
  | (a, b, c) => (some (decide (c < (ln b)))).bind fun d => bif d then ix c b.length ((some (gx b c (0, 0, [], 0, 0, 0, 0, [], [], []))).bind fun (e, f, g, h, i, j, k, l, m, n) => (spec_SetApart (g, a)).bind fun o => bif !o then some (.inr (.inl false)) else some (.inl (a, b, w64 (c + 1)))) else some (.inr (.inr ()))
def spec_l10Apart_n26 : NEnt := ⟨⟨26, [⟨1, .one, [.dat kk2]⟩, ⟨2, .box, [.dat kk0]⟩, ⟨5, .one, [.dat kI]⟩]⟩, [(.ret, ⟨26, [⟨4, .one, [.dat .bool]⟩]⟩), (.exit 0, ⟨26, []⟩)], lp spec_l10Apart_s26⟩
def spec_l10Apart : List t24 × List (Int × Int) → Option Bool
  | (a, b) => bx (lp spec_l10Apart_s26 (b, a, 0)) (fun c => some c) fun _ => some true
def spec_l10Apart_e : FEnt := ⟨22, [.tmp 4], [], [(.agg, [.dat kk0]), (.one, [.dat kk2])], ⟨26, [⟨4, .one, [.dat .bool]⟩]⟩, spec_l10Apart⟩
theorem spec_l10Apart_ok : FnOk Tryz.prog 60 spec_l10Apart_e := fnOk_mk (tb := [(26, spec_l10Apart_n26)]) (c := (Tryz.f60.body).getD .skip) mixed Tryz.func60 (bC spec_SetApart_ok bN) (by kernel_rfl) (by kernel_rfl) (by kernel_rfl) ⟨nodeLoop (by kernel_rfl) spec_l10Apart_s26 (by kernel_rfl) (by intro d; kernel_rfl), trivial⟩ (by intro d; kernel_rfl)


/-! spec.l5Put -/
def spec_l5Put_s122 : List (Int × Int) × (Int × Int) × List (Int × Int) × Bool × Int → Option (List (Int × Int) × (Int × Int) × List (Int × Int) × Bool × Int ⊕ (Int × Int) × List (Int × Int) × Bool)
  | (a, (b, c), d, e, f) => bif decide (f < (ln a)) then ix f a.length ((some (gx a f (0, 0))).bind fun (g, h) => bif decide ((w64 (h + 1)) < b) then ix f a.length ((some (gx a f (0, 0))).bind fun (i, j) => chk (fits (d.length + [(i, j)].length) 16) (some (.inl (a, (b, c), d ++ [(i, j)], e, w64 (f + 1))))) else ix f a.length ((some (gx a f (0, 0))).bind fun (i, j) => bif decide (i > (w64 (c + 1))) then bif !e then chk (fits (d.length + [(b, c)].length) 16) (ix f a.length ((some (gx a f (0, 0))).bind fun (k, l) => chk (fits ((d ++ [(b, c)]).length + [(k, l)].length) 16) ((some ((d ++ [(b, c)]) ++ [(k, l)])).bind fun m => some (.inl (a, (b, c), m, true, w64 (f + 1)))))) else ix f a.length ((some (gx a f (0, 0))).bind fun (k, l) => chk (fits (d.length + [(k, l)].length) 16) (some (.inl (a, (b, c), d ++ [(k, l)], e, w64 (f + 1))))) else ix f a.length ((some (gx a f (0, 0))).bind fun (k, l) => (spec_l1Min (b, k)).bind fun m => ix f a.length ((some (gx a f (0, 0))).bind fun (n, o) => (spec_l1Max (c, o)).bind fun p => some (.inl (a, (m, p), d, e, w64 (f + 1))))))) else some (.inr ((b, c), d, e))
def spec_l5Put_n122 : NEnt := ⟨⟨83, [⟨0, .one, [.dat kk2]⟩, ⟨3, .box, cc10⟩, ⟨5, .one, cc9⟩, ⟨6, .one, [.dat .bool]⟩, ⟨7, .one, [.dat kI]⟩]⟩, [(.exit 0, ⟨83, [⟨3, .box, cc10⟩, ⟨5, .one, cc9⟩, ⟨6, .one, [.dat .bool]⟩]⟩)], lp spec_l5Put_s122⟩
def spec_l5Put : t6 → Option (List (Int × Int))
  | (a, b, c) => (lp spec_l5Put_s122 (a, (b, c), [], false, 0)).bind fun ((d, e), f, g) => bif !g then chk (fits (f.length + [(d, e)].length) 16) (some (f ++ [(d, e)])) else some f
def spec_l5Put_e : FEnt := ⟨79, [.tmp 4], [], [(.one, [.dat kk2]), (.agg, cc10)], ⟨83, [⟨4, .one, cc9⟩]⟩, spec_l5Put⟩
theorem spec_l5Put_ok : FnOk Tryz.prog 79 spec_l5Put_e := fnOk_mk (tb := [(122, spec_l5Put_n122)]) (c := (Tryz.f79.body).getD .skip) mixed Tryz.func79 (bC spec_l1Min_ok (bC spec_l1Max_ok bN)) (by kernel_rfl) (by kernel_rfl) (by kernel_rfl) ⟨nodeLoop (by kernel_rfl) spec_l5Put_s122 (by kernel_rfl) (by intro d; kernel_rfl), trivial⟩ (by intro d; kernel_rfl)


/-! spec.l5Join -/
def spec_l5Join_s58 : t13 → Option (t13 ⊕ List (Int × Int))
  | (a, b, c) => bif decide (c < (ln a)) then ix c a.length ((some (gx a c (0, 0))).bind fun (d, e) => (spec_l5Put (b, d, e)).bind fun f => some (.inl (a, f, w64 (c + 1)))) else some (.inr b)
def spec_l5Join_n58 : NEnt := ⟨⟨26, [⟨1, .one, [.dat kk2]⟩, ⟨5, .one, cc9⟩, ⟨6, .one, [.dat kI]⟩]⟩, [(.exit 0, ⟨26, [⟨5, .one, cc9⟩]⟩)], lp spec_l5Join_s58⟩
def spec_l5Join : t9 → Option (List (Int × Int))
  | (a, b) => (spec_l5Copy a).bind fun c => (lp spec_l5Join_s58 (b, c, 0)).bind fun d => some d
def spec_l5Join_e : FEnt := ⟨22, [.tmp 4], [], [(.one, [.dat kk2]), (.one, [.dat kk2])], ⟨26, [⟨4, .one, cc9⟩]⟩, spec_l5Join⟩
theorem spec_l5Join_ok : FnOk Tryz.prog 77 spec_l5Join_e := fnOk_mk (tb := [(58, spec_l5Join_n58)]) (c := (Tryz.f77.body).getD .skip) mixed Tryz.func77 (bC spec_l5Copy_ok (bC spec_l5Put_ok bN)) (by kernel_rfl) (by kernel_rfl) (by kernel_rfl) ⟨nodeLoop (by kernel_rfl) spec_l5Join_s58 (by kernel_rfl) (by intro d; kernel_rfl), trivial⟩ (by intro d; kernel_rfl)


/-! spec.l3Sum -/
def spec_l3Sum_s58 : List Int × t2 → Option (List Int × t2 ⊕ List Int)
  | (a, b, c, d) => bif decide (d < (ln a)) then ix d a.length (ix d b.length ((spec_Add (gx a d 0, gx b d 0)).bind fun e => chk (fits (c.length + [e].length) 8) (some (.inl (a, b, c ++ [e], w64 (d + 1)))))) else some (.inr c)
def spec_l3Sum_n58 : NEnt := ⟨⟨31, [⟨0, .one, [.dat (.list kI)]⟩, ⟨1, .one, [.dat (.list kI)]⟩, ⟨5, .one, [.own true kI]⟩, ⟨6, .one, [.dat kI]⟩]⟩, [(.exit 0, ⟨31, [⟨5, .one, [.own true kI]⟩]⟩)], lp spec_l3Sum_s58⟩
def spec_l3Sum : List Int × List Int → Option (List Int)
  | (a, b) => (lp spec_l3Sum_s58 (a, b, [], 0)).bind fun c => some c
def spec_l3Sum_e : FEnt := ⟨27, [.tmp 4], [], [(.one, [.dat (.list kI)]), (.one, [.dat (.list kI)])], ⟨31, [⟨4, .one, [.own true kI]⟩]⟩, spec_l3Sum⟩
theorem spec_l3Sum_ok : FnOk Tryz.prog 92 spec_l3Sum_e := fnOk_mk (tb := [(58, spec_l3Sum_n58)]) (c := (Tryz.f92.body).getD .skip) mixed Tryz.func92 (bC spec_Add_ok bN) (by kernel_rfl) (by kernel_rfl) (by kernel_rfl) ⟨nodeLoop (by kernel_rfl) spec_l3Sum_s58 (by kernel_rfl) (by intro d; kernel_rfl), trivial⟩ (by intro d; kernel_rfl)


/-! spec.l3Merge -/
def spec_l3Merge_s250 : t19 × t19 × t28 → Option (t19 × t19 × t28 ⊕ t26)
  | ((a, b, c, d, e, f, g), (h, i, j, k, l, m, n), (o, p, q, r, _, _, _), (s, t, u, v, w, x, y), z) => bif decide (z < 8) then ix z f.length (ix z m.length ((spec_l1Max (gx f z 0, gx m z 0)).bind fun a1 => chk (fits (x.length + [a1].length) 8) (some (.inl ((a, b, c, d, e, f, g), (h, i, j, k, l, m, n), (o, p, q, r, (), (), ()), (s, t, u, v, w, x ++ [a1], y), w64 (z + 1)))))) else some (.inr ((o, p, q, r, (), (), ()), s, t, u, v, w, x, y))
def spec_l3Merge_n250 : NEnt := ⟨⟨89, [⟨2, .box, cc4⟩, ⟨3, .box, cc4⟩, ⟨4, .box, cc7⟩, ⟨5, .box, cc3⟩, ⟨6, .one, [.dat kI]⟩]⟩, [(.exit 0, ⟨89, [⟨4, .box, cc7⟩, ⟨5, .box, cc3⟩]⟩)], lp spec_l3Merge_s250⟩
def spec_l3Merge_l31 : t19 × t19 × t14 × Int × Int × Int × Int × List Int × Unit × List (List Int) → Option t19
  | ((a, b, c, d, e, f, g), (h, i, j, k, l, m, n), (o, p, q, r, _, _, _), s, t, u, v, w, _, x) => (lp spec_l3Merge_s250 ((a, b, c, d, e, f, g), (h, i, j, k, l, m, n), (o, p, q, r, (), (), ()), (s, t, u, v, w, [], x), 0)).bind fun ((y, z, a1, b1, _, _, _), c1, d1, e1, f1, g1, h1, i1) => some (c1, d1, e1, f1, g1, h1, i1)
def spec_l3Merge_n31 : NEnt := ⟨⟨89, [⟨2, .box, cc4⟩, ⟨3, .box, cc4⟩, ⟨4, .box, cc7⟩, ⟨5, .box, cc5⟩]⟩, [(.ret, ⟨89, [⟨4, .box, cc3⟩]⟩)], spec_l3Merge_l31⟩
def spec_l3Merge_l15 : t19 × t19 × t14 × Int × Int × Int × Int × List Int × Unit × List (List Int) → Option t19
  | ((a, b, c, d, e, f, g), (h, i, j, k, l, m, n), (o, p, q, r, _, _, _), s, t, u, v, w, _, x) => bif h == 0 then (spec_l3Merge_l31 ((a, b, c, d, e, f, g), (h, i, j, k, l, m, n), (o, p, q, r, (), (), ()), s, t, c, v, w, (), x)).bind fun (y, z, a1, b1, c1, d1, e1) => some (y, z, a1, b1, c1, d1, e1) else (spec_l3Merge_l31 ((a, b, c, d, e, f, g), (h, i, j, k, l, m, n), (o, p, q, r, (), (), ()), s, t, u, v, w, (), x)).bind fun (y, z, a1, b1, c1, d1, e1) => some (y, z, a1, b1, c1, d1, e1)
def spec_l3Merge_n15 : NEnt := ⟨⟨89, [⟨2, .box, cc4⟩, ⟨3, .box, cc4⟩, ⟨4, .box, cc7⟩, ⟨5, .box, cc5⟩]⟩, [(.ret, ⟨89, [⟨4, .box, cc3⟩]⟩)], spec_l3Merge_l15⟩
def spec_l3Merge : t19 × t19 → Option t19
  | ((a, b, c, d, e, f, g), h, i, j, k, l, m, n) => (spec_Add (a, h)).bind fun o => (spec_Add (b, i)).bind fun p => (spec_l1Min (c, j)).bind fun q => (spec_l1Max (d, k)).bind fun r => (spec_l3Sum (e, l)).bind fun s => chk (decide (0 < g.length)) (chk (decide (0 < n.length)) ((spec_l3Sum (List.getD g 0 [], List.getD n 0 [])).bind fun t => chk (decide (1 < g.length)) (chk (decide (1 < n.length)) ((spec_l3Sum (List.getD g 1 [], List.getD n 1 [])).bind fun u => bif a == 0 then (spec_l3Merge_l15 ((a, b, c, d, e, f, g), (h, i, j, k, l, m, n), (0, 0, 0, 0, (), (), ()), o, p, j, r, s, (), [t, u])).bind fun (v, w, x, y, z, a1, b1) => some (v, w, x, y, z, a1, b1) else (spec_l3Merge_l15 ((a, b, c, d, e, f, g), (h, i, j, k, l, m, n), (0, 0, 0, 0, (), (), ()), o, p, q, r, s, (), [t, u])).bind fun (v, w, x, y, z, a1, b1) => some (v, w, x, y, z, a1, b1)))))
def spec_l3Merge_e : FEnt := ⟨85, [.cell 4 true 7], [], [(.agg, cc4), (.agg, cc4)], ⟨89, [⟨4, .box, cc3⟩]⟩, spec_l3Merge⟩
theorem spec_l3Merge_ok : FnOk Tryz.prog 78 spec_l3Merge_e := fnOk_mk (tb := [(250, spec_l3Merge_n250), (31, spec_l3Merge_n31), (15, spec_l3Merge_n15)]) (c := (Tryz.f78.body).getD .skip) mixed Tryz.func78 (bC spec_Add_ok (bC spec_l1Min_ok (bC spec_l1Max_ok (bC spec_l3Sum_ok bN)))) (by kernel_rfl) (by kernel_rfl) (by kernel_rfl) ⟨nodeLoop (by kernel_rfl) spec_l3Merge_s250 (by kernel_rfl) (by intro d; kernel_rfl), nodeJoin (by kernel_rfl) (by intro d; kernel_rfl), nodeJoin (by kernel_rfl) (by intro d; kernel_rfl), trivial⟩ (by intro d; kernel_rfl)


/-! spec.l6Add -/
def spec_l6Add : t24 × t24 → Option t24
  | ((a, b, c, d, e, f, g, h, i, j), k, l, m, n, o, p, q, r, s, t) => (spec_l5Join (c, m)).bind fun u => (spec_l3Merge ((d, e, f, g, h, i, j), n, o, p, q, r, s, t)).bind fun (v, w, x, y, z, a1, b1) => some (a, b, u, v, w, x, y, z, a1, b1)
def spec_l6Add_e : FEnt := ⟨20, [.cell 4 true 10], [], [(.agg, cc2), (.agg, cc2)], ⟨24, [⟨4, .box, cc0⟩]⟩, spec_l6Add⟩
theorem spec_l6Add_ok : FnOk Tryz.prog 61 spec_l6Add_e := fnOk_mk (tb := []) (c := (Tryz.f61.body).getD .skip) mixed Tryz.func61 (bC spec_l5Join_ok (bC spec_l3Merge_ok bN)) (by kernel_rfl) (by kernel_rfl) (by kernel_rfl) trivial (by intro d; kernel_rfl)


/-! spec.RowPush -/
def spec_RowPush_s122 : Bool × List t24 × t24 × Unit × t25 → Option (Bool × List t24 × t24 × Unit × t25 ⊕ List t24 × Bool ⊕ List t24 × t24 × Unit × List t24)
  | (a, b, (c, d, e, f, g, h, i, j, k, l), _, m, n) => (some (decide (n < (ln m)))).bind fun o => bif o then bif a then ix n m.length (lx n m.length ((some (gx m n (0, 0, [], 0, 0, 0, 0, [], [], []))).bind fun (p, q, r, s, t, u, v, w, x, y) => bif p == c then ix n m.length (lx n m.length ((some (gx m n (0, 0, [], 0, 0, 0, 0, [], [], []))).bind fun (z, a1, b1, c1, d1, e1, f1, g1, h1, i1) => bif a1 == d then ix n m.length (lx n m.length ((some (gx m n (0, 0, [], 0, 0, 0, 0, [], [], []))).bind fun (j1, k1, l1, m1, n1, o1, p1, q1, r1, s1) => (spec_l6Add ((j1, k1, (gx m n (0, 0, [], 0, 0, 0, 0, [], [], [])).2.2.1, m1, n1, o1, p1, (gx m n (0, 0, [], 0, 0, 0, 0, [], [], [])).2.2.2.2.2.2.2.1, (gx m n (0, 0, [], 0, 0, 0, 0, [], [], [])).2.2.2.2.2.2.2.2.1, (gx m n (0, 0, [], 0, 0, 0, 0, [], [], [])).2.2.2.2.2.2.2.2.2), c, d, e, f, g, h, i, j, k, l)).bind fun (t1, u1, v1, w1, x1, y1, z1, a2, b2, c2) => ix n m.length (lx n m.length ((some (sx m n (t1, u1, v1, w1, x1, y1, z1, a2, b2, c2))).bind fun d2 => some (.inr (.inl (d2, true))))))) else some (.inl (a, b, (c, d, e, f, g, h, i, j, k, l), (), m, w64 (n + 1))))) else some (.inl (a, b, (c, d, e, f, g, h, i, j, k, l), (), m, w64 (n + 1))))) else some (.inr (.inr (b, (c, d, e, f, g, h, i, j, k, l), (), m))) else some (.inr (.inr (b, (c, d, e, f, g, h, i, j, k, l), (), m)))
def spec_RowPush_n122 : NEnt := ⟨⟨89, [⟨2, .one, [.dat .bool]⟩, ⟨3, .box, [.dat kk0]⟩, ⟨4, .box, cc2⟩, ⟨6, .box, [.nil]⟩, ⟨8, .box, [.own true kk1]⟩, ⟨9, .one, [.dat kI]⟩]⟩, [(.ret, ⟨89, [⟨6, .box, [.own true kk1]⟩, ⟨7, .one, [.dat .bool]⟩]⟩), (.exit 0, ⟨89, [⟨3, .box, [.dat kk0]⟩, ⟨4, .box, cc2⟩, ⟨6, .box, [.nil]⟩, ⟨8, .box, [.own true kk1]⟩]⟩)], lp spec_RowPush_s122⟩
def spec_RowPush : List t24 × t24 × Bool → Option (List t24 × Bool)
  | (a, (b, c, d, e, f, g, h, i, j, k), l) => (spec_l10Copy a).bind fun m => (spec_RowOk a).bind fun n => bif !n then some (m, false) else (spec_EntryOk (b, c, d, e, f, g, h, i, j, k)).bind fun o => bif !o then some (m, false) else (spec_l10Apart (a, d)).bind fun p => bif !p then some (m, false) else bx (lp spec_RowPush_s122 (l, a, (b, c, d, e, f, g, h, i, j, k), (), m, 0)) (fun (q, r) => some (q, r)) fun (q, (r, s, t, u, v, w, x, y, z, a1), _, b1) => bif (ln q) == 24 then some (b1, false) else (spec_l6Copy (r, s, t, u, v, w, x, y, z, a1)).bind fun (c1, d1, e1, f1, g1, h1, i1, j1, k1, l1) => (some [(c1, d1, e1, f1, g1, h1, i1, j1, k1, l1)]).bind fun m1 => chk (fits (b1.length + m1.length) 144) ((some (b1 ++ m1)).bind fun n1 => some (n1, true))
def spec_RowPush_e : FEnt := ⟨83, [.cell 6 true 1, .tmp 7], [], [(.agg, [.dat kk0]), (.agg, cc2), (.one, [.dat .bool])], ⟨89, [⟨6, .box, [.own true kk1]⟩, ⟨7, .one, [.dat .bool]⟩]⟩, spec_RowPush⟩
theorem spec_RowPush_ok : FnOk Tryz.prog 38 spec_RowPush_e := fnOk_mk (tb := [(122, spec_RowPush_n122)]) (c := (Tryz.f38.body).getD .skip) mixed Tryz.func38 (bC spec_l10Copy_ok (bC spec_RowOk_ok (bC spec_EntryOk_ok (bC spec_l10Apart_ok (bC spec_l6Add_ok (bC spec_l6Copy_ok bN)))))) (by kernel_rfl) (by kernel_rfl) (by kernel_rfl) ⟨nodeLoop (by kernel_rfl) spec_RowPush_s122 (by kernel_rfl) (by intro d; kernel_rfl), trivial⟩ (by intro d; kernel_rfl)


/-! spec.l10Right -/
def spec_l10Right_s250 : Unit × Unit × List t24 × Int × Int × t3 → Option (Unit × Unit × List t24 × Int × Int × t3 ⊕ Unit × t29)
  | (_, _, a, b, c, d, e, f, g) => bif decide (d < b) then (spec_l6Right (e, f, g)).bind fun ((h, i, j, k, l, m, n, o, p, q, r), s, t, u) => (spec_l1Below ((s, t, u), 30)).bind fun (v, w, x, y) => (spec_EntryOf (c, w64 (1 + v), i, j, k, l, m, n, o, p, q, r)).bind fun ((z, a1, b1, c1, d1, e1, f1, g1, h1, i1), j1) => (spec_l1Once ((w, x, y), 3)).bind fun (k1, l1, m1, n1) => (spec_RowPush (a, (z, a1, b1, c1, d1, e1, f1, g1, h1, i1), k1)).bind fun (o1, p1) => some (.inl ((), (), o1, b, c, w64 (d + 1), l1, m1, n1)) else some (.inr ((), a, e, f, g))
def spec_l10Right_n250 : NEnt := ⟨⟨43, [⟨0, .one, [.bptr 42 0]⟩, ⟨2, .box, [.nil]⟩, ⟨3, .box, [.own true kk1]⟩, ⟨4, .one, [.dat kI]⟩, ⟨5, .one, [.dat kI]⟩, ⟨6, .one, [.dat kI]⟩, ⟨42, .box, cc8⟩]⟩, [(.exit 0, ⟨43, [⟨2, .box, [.nil]⟩, ⟨3, .box, [.own true kk1]⟩, ⟨42, .box, cc8⟩]⟩)], lp spec_l10Right_s250⟩
def spec_l10Right : List Int × Int × Int → Option t29
  | (a, b, c) => (spec_l1Below ((a, b, c), 6)).bind fun (d, e, f, g) => (spec_l1Below ((e, f, g), 3)).bind fun (h, i, j, k) => (lp spec_l10Right_s250 ((), (), [], d, h, 0, i, j, k)).bind fun (_, l, m, n, o) => some (l, m, n, o)
def spec_l10Right_e : FEnt := ⟨41, [.cell 2 true 1], [true], [(.box, cc8)], ⟨43, [⟨2, .box, [.own true kk1]⟩, ⟨42, .box, cc8⟩]⟩, spec_l10Right⟩
theorem spec_l10Right_ok : FnOk Tryz.prog 23 spec_l10Right_e := fnOk_mk (tb := [(250, spec_l10Right_n250)]) (c := (Tryz.f23.body).getD .skip) mixed Tryz.func23 (bC spec_l1Below_ok (bC spec_l6Right_ok (bC spec_EntryOf_ok (bC spec_l1Once_ok (bC spec_RowPush_ok bN))))) (by kernel_rfl) (by kernel_rfl) (by kernel_rfl) ⟨nodeLoop (by kernel_rfl) spec_l10Right_s250 (by kernel_rfl) (by intro d; kernel_rfl), trivial⟩ (by intro d; kernel_rfl)


/-! spec.l5Right -/
def spec_l5Right_s122 : Unit × List (Int × Int) × Int × t3 → Option (Unit × List (Int × Int) × Int × t3 ⊕ t12)
  | (_, a, b, c, d, e, f) => bif decide (c < b) then (spec_l1Below ((d, e, f), 20)).bind fun (g, h, i, j) => (spec_l1Below ((h, i, j), 20)).bind fun (k, l, m, n) => (spec_l1Below ((l, m, n), 10)).bind fun (o, p, q, r) => (spec_l1PickInt ((p, q, r), [g, k, w64 (9990 + o)])).bind fun (s, t, u, v) => (spec_l1Below ((t, u, v), 3)).bind fun (w, x, y, z) => (spec_l1Min (w64 (s + w), 9999)).bind fun a1 => (spec_l5Put (a, s, a1)).bind fun b1 => some (.inl ((), b1, b, w64 (c + 1), x, y, z)) else some (.inr (a, d, e, f))
def spec_l5Right_n122 : NEnt := ⟨⟨37, [⟨0, .one, [.bptr 36 0]⟩, ⟨3, .one, cc9⟩, ⟨4, .one, [.dat kI]⟩, ⟨5, .one, [.dat kI]⟩, ⟨36, .box, cc8⟩]⟩, [(.exit 0, ⟨37, [⟨3, .one, cc9⟩, ⟨36, .box, cc8⟩]⟩)], lp spec_l5Right_s122⟩
def spec_l5Right : List Int × Int × Int → Option t12
  | (a, b, c) => (spec_l1Below ((a, b, c), 7)).bind fun (d, e, f, g) => (lp spec_l5Right_s122 ((), [], d, 0, e, f, g)).bind fun (h, i, j, k) => some (h, i, j, k)
def spec_l5Right_e : FEnt := ⟨35, [.tmp 2], [true], [(.box, cc8)], ⟨37, [⟨2, .one, cc9⟩, ⟨36, .box, cc8⟩]⟩, spec_l5Right⟩
theorem spec_l5Right_ok : FnOk Tryz.prog 62 spec_l5Right_e := fnOk_mk (tb := [(122, spec_l5Right_n122)]) (c := (Tryz.f62.body).getD .skip) mixed Tryz.func62 (bC spec_l1Below_ok (bC spec_l1PickInt_ok (bC spec_l1Min_ok (bC spec_l5Put_ok bN)))) (by kernel_rfl) (by kernel_rfl) (by kernel_rfl) ⟨nodeLoop (by kernel_rfl) spec_l5Right_s122 (by kernel_rfl) (by intro d; kernel_rfl), trivial⟩ (by intro d; kernel_rfl)


/-! spec.l5Draw -/
def spec_l5Draw : List Int × Int × Int → Option t12
  | (a, b, c) => (spec_l5Right (a, b, c)).bind fun (d, e, f, g) => (spec_l1Once ((e, f, g), 8)).bind fun (h, i, j, k) => bif h then (spec_l1PickInt ((i, j, k), [(-1), 3, 10000])).bind fun (l, m, n, o) => (spec_l1PickInt ((m, n, o), [5, 10000, 9223372036854775807])).bind fun (p, q, r, s) => chk (fits (d.length + [(l, p)].length) 16) (some (d ++ [(l, p)], q, r, s)) else some (d, i, j, k)
def spec_l5Draw_e : FEnt := ⟨19, [.tmp 2], [true], [(.box, cc8)], ⟨21, [⟨2, .one, cc9⟩, ⟨20, .box, cc8⟩]⟩, spec_l5Draw⟩
theorem spec_l5Draw_ok : FnOk Tryz.prog 41 spec_l5Draw_e := fnOk_mk (tb := []) (c := (Tryz.f41.body).getD .skip) mixed Tryz.func41 (bC spec_l5Right_ok (bC spec_l1Once_ok (bC spec_l1PickInt_ok bN))) (by kernel_rfl) (by kernel_rfl) (by kernel_rfl) trivial (by intro d; kernel_rfl)


/-! spec.l3Right -/
def spec_l3Right : List Int × Int × Int → Option t23
  | (a, b, c) => (spec_l3Values (a, b, c)).bind fun (d, e, f, g) => (spec_Sketched d).bind fun (h, i, j, k, l, m, n) => (spec_l1Once ((e, f, g), 16)).bind fun (o, p, q, r) => bif o then bif decide (h > 0) then (spec_l1Below ((p, q, r), 2)).bind fun (s, t, u, v) => chk (decide (3 < l.length)) (chk (decide (3 < l.length)) (some ((w64 (1000000000 - s), 999999997, j, k, List.set l 3 1000000000, m, n), t, u, v))) else some ((h, i, j, k, l, m, n), p, q, r) else some ((h, i, j, k, l, m, n), p, q, r)
def spec_l3Right_e : FEnt := ⟨23, [.cell 2 true 7], [true], [(.box, cc8)], ⟨25, [⟨2, .box, cc3⟩, ⟨24, .box, cc8⟩]⟩, spec_l3Right⟩
theorem spec_l3Right_ok : FnOk Tryz.prog 63 spec_l3Right_e := fnOk_mk (tb := []) (c := (Tryz.f63.body).getD .skip) mixed Tryz.func63 (bC spec_l3Values_ok (bC spec_Sketched_ok (bC spec_l1Once_ok (bC spec_l1Below_ok bN)))) (by kernel_rfl) (by kernel_rfl) (by kernel_rfl) trivial (by intro d; kernel_rfl)


/-! spec.l3Draw -/
def spec_l3Draw : List Int × Int × Int → Option t23
  | (a, b, c) => (spec_l3Right (a, b, c)).bind fun ((d, e, f, g, h, i, j), k, l, m) => (spec_l1Below ((k, l, m), 16)).bind fun (n, o, p, q) => bif n == 0 then (spec_l1PickInt ((o, p, q), [(-1), 1000001, 500])).bind fun (r, s, t, u) => some ((d, e, r, g, h, i, j), s, t, u) else bif n == 1 then (spec_l1Below ((o, p, q), 8)).bind fun (r, s, t, u) => (spec_l1PickInt ((s, t, u), [(-1), 17, 18])).bind fun (v, w, x, y) => ix r i.length (lx r i.length (some ((d, e, f, g, h, sx i r v, j), w, x, y))) else bif n == 2 then chk (fits (h.length + 1) 8) (some ((d, e, f, g, h ++ [0], i, j), o, p, q)) else bif n == 3 then chk (decide (((0 : Nat) ≤ 1) ∧ (1 ≤ j.length))) (some ((d, e, f, g, h, i, List.take 1 j), o, p, q)) else bif n == 4 then (spec_l1PickInt ((o, p, q), [0, (-1), 1000000001])).bind fun (r, s, t, u) => some ((r, e, f, g, h, i, j), s, t, u) else bif n == 5 then chk (decide (1 < j.length)) (chk (decide (1 < j.length)) ((spec_l1PickInt ((o, p, q), [(-1), 3, 1000000001])).bind fun (r, s, t, u) => chk (decide (2 < (List.getD j 1 []).length)) (chk (decide (2 < (List.getD j 1 []).length)) (some ((d, e, f, g, h, i, List.set j 1 (List.set (List.getD j 1 []) 2 r)), s, t, u))))) else some ((d, e, f, g, h, i, j), o, p, q)
def spec_l3Draw_e : FEnt := ⟨54, [.cell 2 true 7], [true], [(.box, cc8)], ⟨56, [⟨2, .box, cc3⟩, ⟨55, .box, cc8⟩]⟩, spec_l3Draw⟩
theorem spec_l3Draw_ok : FnOk Tryz.prog 42 spec_l3Draw_e := fnOk_mk (tb := []) (c := (Tryz.f42.body).getD .skip) mixed Tryz.func42 (bC spec_l3Right_ok (bC spec_l1Below_ok (bC spec_l1PickInt_ok bN))) (by kernel_rfl) (by kernel_rfl) (by kernel_rfl) trivial (by intro d; kernel_rfl)


/-! spec.l6Entry -/
def spec_l6Entry : List Int × Int × Int → Option (t24 × List Int × Int × Int)
  | (a, b, c) => (spec_l1Below ((a, b, c), 3)).bind fun (d, e, f, g) => (spec_l6Right (e, f, g)).bind fun ((h, i, j, k, l, m, n, o, p, q, r), s, t, u) => (spec_EntryOf (d, h, i, j, k, l, m, n, o, p, q, r)).bind fun ((v, w, x, y, z, a1, b1, c1, d1, e1), f1) => (spec_l1Once ((s, t, u), 4)).bind fun (g1, h1, i1, j1) => bif g1 then (spec_l5Draw (h1, i1, j1)).bind fun (k1, l1, m1, n1) => (spec_l1Once ((l1, m1, n1), 14)).bind fun (o1, p1, q1, r1) => bif o1 then (spec_l3Draw (p1, q1, r1)).bind fun ((s1, t1, u1, v1, w1, x1, y1), z1, a2, b2) => (spec_l1Once ((z1, a2, b2), 20)).bind fun (c2, d2, e2, f2) => bif c2 then (spec_l1PickInt ((d2, e2, f2), [(-1), 5])).bind fun (g2, h2, i2, j2) => some ((g2, w, k1, s1, t1, u1, v1, w1, x1, y1), h2, i2, j2) else some ((v, w, k1, s1, t1, u1, v1, w1, x1, y1), d2, e2, f2) else (spec_l1Once ((p1, q1, r1), 20)).bind fun (s1, t1, u1, v1) => bif s1 then (spec_l1PickInt ((t1, u1, v1), [(-1), 5])).bind fun (w1, x1, y1, z1) => some ((w1, w, k1, y, z, a1, b1, c1, d1, e1), x1, y1, z1) else some ((v, w, k1, y, z, a1, b1, c1, d1, e1), t1, u1, v1) else (spec_l1Once ((h1, i1, j1), 14)).bind fun (k1, l1, m1, n1) => bif k1 then (spec_l3Draw (l1, m1, n1)).bind fun ((o1, p1, q1, r1, s1, t1, u1), v1, w1, x1) => (spec_l1Once ((v1, w1, x1), 20)).bind fun (y1, z1, a2, b2) => bif y1 then (spec_l1PickInt ((z1, a2, b2), [(-1), 5])).bind fun (c2, d2, e2, f2) => some ((c2, w, x, o1, p1, q1, r1, s1, t1, u1), d2, e2, f2) else some ((v, w, x, o1, p1, q1, r1, s1, t1, u1), z1, a2, b2) else (spec_l1Once ((l1, m1, n1), 20)).bind fun (o1, p1, q1, r1) => bif o1 then (spec_l1PickInt ((p1, q1, r1), [(-1), 5])).bind fun (s1, t1, u1, v1) => some ((s1, w, x, y, z, a1, b1, c1, d1, e1), t1, u1, v1) else some ((v, w, x, y, z, a1, b1, c1, d1, e1), p1, q1, r1)
def spec_l6Entry_e : FEnt := ⟨30, [.cell 2 true 10], [true], [(.box, cc8)], ⟨32, [⟨2, .box, cc0⟩, ⟨31, .box, cc8⟩]⟩, spec_l6Entry⟩
theorem spec_l6Entry_ok : FnOk Tryz.prog 25 spec_l6Entry_e := fnOk_mk (tb := []) (c := (Tryz.f25.body).getD .skip) mixed Tryz.func25 (bC spec_l1Below_ok (bC spec_l6Right_ok (bC spec_EntryOf_ok (bC spec_l1Once_ok (bC spec_l5Draw_ok (bC spec_l3Draw_ok (bC spec_l1PickInt_ok bN))))))) (by kernel_rfl) (by kernel_rfl) (by kernel_rfl) trivial (by intro d; kernel_rfl)


/-! spec.l10Draw -/
def spec_l10Draw : List Int × Int × Int → Option t29
  | (a, b, c) => (spec_l10Right (a, b, c)).bind fun (d, e, f, g) => (spec_l1Below ((e, f, g), 10)).bind fun (h, i, j, k) => bif h == 0 then (spec_l6Entry (i, j, k)).bind fun ((l, m, n, o, p, q, r, s, t, u), v, w, x) => (some [(l, m, n, o, p, q, r, s, t, u)]).bind fun y => chk (fits (d.length + y.length) 144) ((some (d ++ y)).bind fun z => some (z, v, w, x)) else bif h == 1 then (some (decide ((ln d) > 0))).bind fun l => bif l then chk (decide (0 < d.length)) (chk (decide (0 < d.length)) ((some (List.getD d 0 (0, 0, [], 0, 0, 0, 0, [], [], []))).bind fun (m, n, o, p, q, r, s, t, u, v) => (spec_l6Copy (m, n, (List.getD d 0 (0, 0, [], 0, 0, 0, 0, [], [], [])).2.2.1, p, q, r, s, (List.getD d 0 (0, 0, [], 0, 0, 0, 0, [], [], [])).2.2.2.2.2.2.2.1, (List.getD d 0 (0, 0, [], 0, 0, 0, 0, [], [], [])).2.2.2.2.2.2.2.2.1, (List.getD d 0 (0, 0, [], 0, 0, 0, 0, [], [], [])).2.2.2.2.2.2.2.2.2)).bind fun (w, x, y, z, a1, b1, c1, d1, e1, f1) => (some [(w, x, y, z, a1, b1, c1, d1, e1, f1)]).bind fun g1 => chk (fits (d.length + g1.length) 144) ((some (d ++ g1)).bind fun h1 => some (h1, i, j, k)))) else some (d, i, j, k) else some (d, i, j, k)
def spec_l10Draw_e : FEnt := ⟨34, [.cell 2 true 1], [true], [(.box, cc8)], ⟨36, [⟨2, .box, [.own true kk1]⟩, ⟨35, .box, cc8⟩]⟩, spec_l10Draw⟩
theorem spec_l10Draw_ok : FnOk Tryz.prog 12 spec_l10Draw_e := fnOk_mk (tb := []) (c := (Tryz.f12.body).getD .skip) mixed Tryz.func12 (bC spec_l10Right_ok (bC spec_l1Below_ok (bC spec_l6Entry_ok (bC spec_l6Copy_ok bN)))) (by kernel_rfl) (by kernel_rfl) (by kernel_rfl) trivial (by intro d; kernel_rfl)


/-! spec.DrawRowPop -/
def spec_DrawRowPop : List Int → Option (List t24)
  | a => (spec_l1New a).bind fun (_, b, c, d) => (spec_l10Draw (b, c, d)).bind fun (e, f, g, h) => some e
def spec_DrawRowPop_e : FEnt := ⟨6, [.cell 2 true 1], [], [(.one, [.dat (.list kB)])], ⟨8, [⟨2, .box, [.own true kk1]⟩]⟩, spec_DrawRowPop⟩
theorem spec_DrawRowPop_ok : FnOk Tryz.prog 5 spec_DrawRowPop_e := fnOk_mk (tb := []) (c := (Tryz.f5.body).getD .skip) mixed Tryz.func5 (bC spec_l1New_ok (bC spec_l10Draw_ok bN)) (by kernel_rfl) (by kernel_rfl) (by kernel_rfl) trivial (by intro d; kernel_rfl)


/-! impl.copySet -/
def impl_copySet : List (Int × Int) → Option (List (Int × Int))
  | a => chk (fits a.length 16) (some a)
def impl_copySet_e : FEnt := ⟨5, [.tmp 2], [], [(.one, [.dat kk2])], ⟨7, [⟨2, .one, cc9⟩]⟩, impl_copySet⟩
theorem impl_copySet_ok : FnOk Tryz.prog 64 impl_copySet_e := fnOk_mk (tb := []) (c := (Tryz.f64.body).getD .skip) mixed Tryz.func64 bN (by kernel_rfl) (by kernel_rfl) (by kernel_rfl) trivial (by intro d; kernel_rfl)


/-! impl.copyInts -/
def impl_copyInts : List Int → Option (List Int)
  | a => chk (fits a.length 8) (some a)
def impl_copyInts_e : FEnt := ⟨5, [.tmp 2], [], [(.one, [.dat (.list kI)])], ⟨7, [⟨2, .one, [.own true kI]⟩]⟩, impl_copyInts⟩
theorem impl_copyInts_ok : FnOk Tryz.prog 81 impl_copyInts_e := fnOk_mk (tb := []) (c := (Tryz.f81.body).getD .skip) mixed Tryz.func81 bN (by kernel_rfl) (by kernel_rfl) (by kernel_rfl) trivial (by intro d; kernel_rfl)


/-! impl.copySketch -/
def impl_copySketch_s506 : t30 → Option (t30 ⊕ t26)
  | ((a, b, c, d, _, _, _), (e, f, g, h, i, j, k), l, m, n) => bif decide (n < m) then ix n l.length ((impl_copyInts (gx l n [])).bind fun o => chk (fits (k.length + [o].length) 24) (some (.inl ((a, b, c, d, (), (), ()), (e, f, g, h, i, j, k ++ [o]), l, m, w64 (n + 1))))) else some (.inr ((a, b, c, d, (), (), ()), e, f, g, h, i, j, k))
def impl_copySketch_n506 : NEnt := ⟨⟨34, [⟨2, .box, cc7⟩, ⟨3, .box, cc3⟩, ⟨17, .one, [.dat kk3]⟩, ⟨18, .one, [.dat kI]⟩, ⟨19, .one, [.dat kI]⟩]⟩, [(.exit 0, ⟨34, [⟨2, .box, cc7⟩, ⟨3, .box, cc3⟩]⟩)], lp impl_copySketch_s506⟩
def impl_copySketch : t19 → Option t19
  | (a, b, c, d, e, f, g) => (impl_copyInts e).bind fun h => (impl_copyInts f).bind fun i => (lp impl_copySketch_s506 ((0, 0, 0, 0, (), (), ()), (a, b, c, d, h, i, []), g, ln g, 0)).bind fun ((j, k, l, m, _, _, _), n, o, p, q, r, s, t) => some (n, o, p, q, r, s, t)
def impl_copySketch_e : FEnt := ⟨32, [.cell 2 true 7], [], [(.agg, cc4)], ⟨34, [⟨2, .box, cc3⟩]⟩, impl_copySketch⟩
theorem impl_copySketch_ok : FnOk Tryz.prog 65 impl_copySketch_e := fnOk_mk (tb := [(506, impl_copySketch_n506)]) (c := (Tryz.f65.body).getD .skip) mixed Tryz.func65 (bC impl_copyInts_ok bN) (by kernel_rfl) (by kernel_rfl) (by kernel_rfl) ⟨nodeLoop (by kernel_rfl) impl_copySketch_s506 (by kernel_rfl) (by intro d; kernel_rfl), trivial⟩ (by intro d; kernel_rfl)


/-! impl.copyEntry -/
def impl_copyEntry : t24 → Option t24
  | (a, b, c, d, e, f, g, h, i, j) => (impl_copySet c).bind fun k => (impl_copySketch (d, e, f, g, h, i, j)).bind fun (l, m, n, o, p, q, r) => some (a, b, k, l, m, n, o, p, q, r)
def impl_copyEntry_e : FEnt := ⟨12, [.cell 2 true 10], [], [(.agg, cc2)], ⟨14, [⟨2, .box, cc0⟩]⟩, impl_copyEntry⟩
theorem impl_copyEntry_ok : FnOk Tryz.prog 46 impl_copyEntry_e := fnOk_mk (tb := []) (c := (Tryz.f46.body).getD .skip) mixed Tryz.func46 (bC impl_copySet_ok (bC impl_copySketch_ok bN)) (by kernel_rfl) (by kernel_rfl) (by kernel_rfl) trivial (by intro d; kernel_rfl)


/-! impl.copyEntries -/
def impl_copyEntries_s58 : t33 → Option (t33 ⊕ List t24)
  | (a, b, c, d) => bif decide (d < c) then ix d b.length ((some (gx b d (0, 0, [], 0, 0, 0, 0, [], [], []))).bind fun (e, f, g, h, i, j, k, l, m, n) => (impl_copyEntry (e, f, g, h, i, j, k, l, m, n)).bind fun (o, p, q, r, s, t, u, v, w, x) => (some [(o, p, q, r, s, t, u, v, w, x)]).bind fun y => chk (fits (a.length + y.length) 144) ((some (a ++ y)).bind fun z => some (.inl (z, b, c, w64 (d + 1))))) else some (.inr a)
def impl_copyEntries_n58 : NEnt := ⟨⟨21, [⟨3, .one, [.own true kk1]⟩, ⟨6, .one, [.dat kk0]⟩, ⟨7, .one, [.dat kI]⟩, ⟨8, .one, [.dat kI]⟩]⟩, [(.exit 0, ⟨21, [⟨3, .one, [.own true kk1]⟩]⟩)], lp impl_copyEntries_s58⟩
def impl_copyEntries : List t24 → Option (List t24)
  | a => (lp impl_copyEntries_s58 ([], a, ln a, 0)).bind fun b => some b
def impl_copyEntries_e : FEnt := ⟨19, [.tmp 2], [], [(.one, [.dat kk0])], ⟨21, [⟨2, .one, [.own true kk1]⟩]⟩, impl_copyEntries⟩
theorem impl_copyEntries_ok : FnOk Tryz.prog 27 impl_copyEntries_e := fnOk_mk (tb := [(58, impl_copyEntries_n58)]) (c := (Tryz.f27.body).getD .skip) mixed Tryz.func27 (bC impl_copyEntry_ok bN) (by kernel_rfl) (by kernel_rfl) (by kernel_rfl) ⟨nodeLoop (by kernel_rfl) impl_copyEntries_s58 (by kernel_rfl) (by intro d; kernel_rfl), trivial⟩ (by intro d; kernel_rfl)


/-! impl.copyRow -/
def impl_copyRow : List t24 → Option (List t24)
  | a => (impl_copyEntries a).bind fun b => some b
def impl_copyRow_e : FEnt := ⟨7, [.cell 2 true 1], [], [(.agg, [.dat kk0])], ⟨9, [⟨2, .box, [.own true kk1]⟩]⟩, impl_copyRow⟩
theorem impl_copyRow_ok : FnOk Tryz.prog 14 impl_copyRow_e := fnOk_mk (tb := []) (c := (Tryz.f14.body).getD .skip) mixed Tryz.func14 (bC impl_copyEntries_ok bN) (by kernel_rfl) (by kernel_rfl) (by kernel_rfl) trivial (by intro d; kernel_rfl)


/-! impl.within -/
def impl_within : Int × Int × Int → Option Bool
  | (a, b, c) => bif decide (a ≥ b) then some (decide (a ≤ c)) else some false
def impl_within_e : FEnt := ⟨15, [.tmp 6], [], [(.one, [.dat kI]), (.one, [.dat kI]), (.one, [.dat kI])], ⟨21, [⟨6, .one, [.dat .bool]⟩]⟩, impl_within⟩
theorem impl_within_ok : FnOk Tryz.prog 66 impl_within_e := fnOk_mk (tb := []) (c := (Tryz.f66.body).getD .skip) mixed Tryz.func66 bN (by kernel_rfl) (by kernel_rfl) (by kernel_rfl) trivial (by intro d; kernel_rfl)


/-! impl.SetOk -/
def impl_SetOk_s26 : t16 → Option (t16 ⊕ Bool ⊕ Unit)
  | (a, b, c, d) => bif decide (d < c) then ix d b.length ((some (gx b d (0, 0))).bind fun (e, f) => (impl_within (e, 0, 9999)).bind fun g => bif !g then some (.inr (.inl false)) else (impl_within (f, e, 9999)).bind fun h => bif !h then some (.inr (.inl false)) else bif decide (d > 0) then ix (w64 (d - 1)) a.length ((some (gx a (w64 (d - 1)) (0, 0))).bind fun (i, j) => bif decide (e ≤ (w64 (j + 1))) then some (.inr (.inl false)) else some (.inl (a, b, c, w64 (d + 1)))) else some (.inl (a, b, c, w64 (d + 1)))) else some (.inr (.inr ()))
def impl_SetOk_n26 : NEnt := ⟨⟨43, [⟨0, .one, [.dat kk2]⟩, ⟨5, .one, [.dat kk2]⟩, ⟨6, .one, [.dat kI]⟩, ⟨7, .one, [.dat kI]⟩]⟩, [(.ret, ⟨43, [⟨2, .one, [.dat .bool]⟩]⟩), (.exit 0, ⟨43, []⟩)], lp impl_SetOk_s26⟩
def impl_SetOk : List (Int × Int) → Option Bool
  | a => bx (lp impl_SetOk_s26 (a, a, ln a, 0)) (fun b => some b) fun _ => some true
def impl_SetOk_e : FEnt := ⟨41, [.tmp 2], [], [(.one, [.dat kk2])], ⟨43, [⟨2, .one, [.dat .bool]⟩]⟩, impl_SetOk⟩
theorem impl_SetOk_ok : FnOk Tryz.prog 67 impl_SetOk_e := fnOk_mk (tb := [(26, impl_SetOk_n26)]) (c := (Tryz.f67.body).getD .skip) mixed Tryz.func67 (bC impl_within_ok bN) (by kernel_rfl) (by kernel_rfl) (by kernel_rfl) ⟨nodeLoop (by kernel_rfl) impl_SetOk_s26 (by kernel_rfl) (by intro d; kernel_rfl), trivial⟩ (by intro d; kernel_rfl)


/-! impl.counts -/
def impl_counts_s58 : List Int × t5 → Option (List Int × t5 ⊕ List Int)
  | (a, b, c, d) => bif decide (d < c) then ix d b.length (chk (fits (a.length + (gx b d []).length) 8) (some (.inl (a ++ (gx b d []), b, c, w64 (d + 1))))) else some (.inr a)
def impl_counts_n58 : NEnt := ⟨⟨26, [⟨3, .one, [.own true kI]⟩, ⟨13, .one, [.dat kk3]⟩, ⟨14, .one, [.dat kI]⟩, ⟨15, .one, [.dat kI]⟩]⟩, [(.exit 0, ⟨26, [⟨3, .one, [.own true kI]⟩]⟩)], lp impl_counts_s58⟩
def impl_counts : t19 → Option (List Int)
  | (a, b, c, d, e, f, g) => (impl_copyInts e).bind fun h => chk (fits (h.length + f.length) 8) ((lp impl_counts_s58 (h ++ f, g, ln g, 0)).bind fun i => some i)
def impl_counts_e : FEnt := ⟨24, [.tmp 2], [], [(.agg, cc4)], ⟨26, [⟨2, .one, [.own true kI]⟩]⟩, impl_counts⟩
theorem impl_counts_ok : FnOk Tryz.prog 82 impl_counts_e := fnOk_mk (tb := [(58, impl_counts_n58)]) (c := (Tryz.f82.body).getD .skip) mixed Tryz.func82 (bC impl_copyInts_ok bN) (by kernel_rfl) (by kernel_rfl) (by kernel_rfl) ⟨nodeLoop (by kernel_rfl) impl_counts_s58 (by kernel_rfl) (by intro d; kernel_rfl), trivial⟩ (by intro d; kernel_rfl)


/-! impl.SketchOk -/
def impl_SketchOk_s122 : t19 × t3 → Option (t19 × t3 ⊕ Bool ⊕ t20)
  | ((a, b, c, d, e, f, g), h, i, j, k) => bif decide (k < j) then ix k i.length (lx k i.length ((impl_within (gx i k 0, 0, 1000000000)).bind fun l => bif !l then some (.inr (.inl false)) else some (.inl ((a, b, c, d, e, f, g), w64 (h + (gx i k 0)), i, j, w64 (k + 1))))) else some (.inr (.inr ((a, b, c, d, e, f, g), h)))
def impl_SketchOk_n122 : NEnt := ⟨⟨91, [⟨1, .box, cc4⟩, ⟨3, .one, [.dat kI]⟩, ⟨51, .one, [.own true kI]⟩, ⟨52, .one, [.dat kI]⟩, ⟨53, .one, [.dat kI]⟩]⟩, [(.ret, ⟨91, [⟨2, .one, [.dat .bool]⟩]⟩), (.exit 0, ⟨91, [⟨1, .box, cc4⟩, ⟨3, .one, [.dat kI]⟩]⟩)], lp impl_SketchOk_s122⟩
def impl_SketchOk_s250 : t19 × t3 → Option (t19 × t3 ⊕ Bool ⊕ t20)
  | ((a, b, c, d, e, f, g), h, i, j, k) => bif decide (k < j) then ix k i.length (bif decide ((gx i k 0) > 17) then some (.inr (.inl false)) else some (.inl ((a, b, c, d, e, f, g), h, i, j, w64 (k + 1)))) else some (.inr (.inr ((a, b, c, d, e, f, g), h)))
def impl_SketchOk_n250 : NEnt := ⟨⟨91, [⟨1, .box, cc4⟩, ⟨3, .one, [.dat kI]⟩, ⟨65, .one, [.dat (.list kI)]⟩, ⟨66, .one, [.dat kI]⟩, ⟨67, .one, [.dat kI]⟩]⟩, [(.ret, ⟨91, [⟨2, .one, [.dat .bool]⟩]⟩), (.exit 2, ⟨91, [⟨1, .box, cc4⟩, ⟨3, .one, [.dat kI]⟩]⟩)], lp impl_SketchOk_s250⟩
def impl_SketchOk : t19 → Option Bool
  | (a, b, c, d, e, f, g) => bif (ln e) != 8 then some false else bif (ln f) != 8 then some false else bif (ln g) != 2 then some false else chk (decide (0 < g.length)) (bif (ln (List.getD g 0 [])) != 4 then some false else chk (decide (1 < g.length)) (bif (ln (List.getD g 1 [])) != 4 then some false else (impl_counts (a, b, c, d, e, f, g)).bind fun h => chk (fits (h.length + [a, b, c, d].length) 8) (bx (lp impl_SketchOk_s122 ((a, b, c, d, e, f, g), 0, h ++ [a, b, c, d], ln (h ++ [a, b, c, d]), 0)) (fun i => some i) fun ((i, j, k, l, m, n, o), p) => bx (lp impl_SketchOk_s250 ((i, j, k, l, m, n, o), p, n, ln n, 0)) (fun q => some q) fun ((q, r, s, t, u, v, w), x) => bif q == 0 then some (x == 0) else bif decide (s ≤ t) then some (decide (t ≤ 1000000)) else some false)))
def impl_SketchOk_e : FEnt := ⟨89, [.tmp 2], [], [(.agg, cc4)], ⟨91, [⟨2, .one, [.dat .bool]⟩]⟩, impl_SketchOk⟩
theorem impl_SketchOk_ok : FnOk Tryz.prog 68 impl_SketchOk_e := fnOk_mk (tb := [(250, impl_SketchOk_n250), (122, impl_SketchOk_n122)]) (c := (Tryz.f68.body).getD .skip) mixed Tryz.func68 (bC impl_counts_ok (bC impl_within_ok bN)) (by kernel_rfl) (by kernel_rfl) (by kernel_rfl) ⟨nodeLoop (by kernel_rfl) impl_SketchOk_s250 (by kernel_rfl) (by intro d; kernel_rfl), nodeLoop (by kernel_rfl) impl_SketchOk_s122 (by kernel_rfl) (by intro d; kernel_rfl), trivial⟩ (by intro d; kernel_rfl)


/-! impl.EntryOk -/
def impl_EntryOk : t24 → Option Bool
  | (a, b, c, d, e, f, g, h, i, j) => (impl_within (a, 0, 4)).bind fun k => bif k then (impl_within (b, 0, 20)).bind fun l => bif l then (impl_SetOk c).bind fun m => bif m then bif decide ((ln c) > 0) then (impl_SketchOk (d, e, f, g, h, i, j)).bind fun n => some n else some false else some false else some false else some false
def impl_EntryOk_e : FEnt := ⟨27, [.tmp 2], [], [(.agg, cc2)], ⟨29, [⟨2, .one, [.dat .bool]⟩]⟩, impl_EntryOk⟩
theorem impl_EntryOk_ok : FnOk Tryz.prog 47 impl_EntryOk_e := fnOk_mk (tb := []) (c := (Tryz.f47.body).getD .skip) mixed Tryz.func47 (bC impl_within_ok (bC impl_SetOk_ok (bC impl_SketchOk_ok bN))) (by kernel_rfl) (by kernel_rfl) (by kernel_rfl) trivial (by intro d; kernel_rfl)


/-! impl.SetApart -/
def impl_SetApart_s14950 : List (Int × Int) × (Int × Int) × List (Int × Int) × Int × Int × t6 → Option (List (Int × Int) × (Int × Int) × List (Int × Int) × Int × Int × t6 ⊕ Bool ⊕ t16)
  | (a, (b, c), d, e, f, g, h, i) => bif decide (i < h) then ix i g.length ((some (gx g i (0, 0))).bind fun (j, k) => bif decide (b ≤ k) then bif decide (j ≤ c) then some (.inr (.inl false)) else some (.inl (a, (b, c), d, e, f, g, h, w64 (i + 1))) else some (.inl (a, (b, c), d, e, f, g, h, w64 (i + 1)))) else some (.inr (.inr (a, d, e, f)))
def impl_SetApart_n14950 : NEnt := ⟨⟨47, [⟨1, .one, [.dat kk2]⟩, ⟨6, .box, cc10⟩, ⟨17, .one, [.dat kk2]⟩, ⟨18, .one, [.dat kI]⟩, ⟨19, .one, [.dat kI]⟩, ⟨23, .one, [.dat kk2]⟩, ⟨24, .one, [.dat kI]⟩, ⟨25, .one, [.dat kI]⟩]⟩, [(.ret, ⟨47, [⟨4, .one, [.dat .bool]⟩]⟩), (.exit 2, ⟨47, [⟨1, .one, [.dat kk2]⟩, ⟨17, .one, [.dat kk2]⟩, ⟨18, .one, [.dat kI]⟩, ⟨19, .one, [.dat kI]⟩]⟩)], lp impl_SetApart_s14950⟩
def impl_SetApart_s58 : t16 → Option (t16 ⊕ Bool ⊕ Unit)
  | (a, b, c, d) => bif decide (d < c) then ix d b.length ((some (gx b d (0, 0))).bind fun (e, f) => bx (lp impl_SetApart_s14950 (a, (e, f), b, c, d, a, ln a, 0)) (fun g => some (.inr (.inl g))) fun (g, h, i, j) => some (.inl (g, h, i, w64 (j + 1)))) else some (.inr (.inr ()))
def impl_SetApart_n58 : NEnt := ⟨⟨47, [⟨1, .one, [.dat kk2]⟩, ⟨17, .one, [.dat kk2]⟩, ⟨18, .one, [.dat kI]⟩, ⟨19, .one, [.dat kI]⟩]⟩, [(.ret, ⟨47, [⟨4, .one, [.dat .bool]⟩]⟩), (.exit 0, ⟨47, []⟩)], lp impl_SetApart_s58⟩
def impl_SetApart : t9 → Option Bool
  | (a, b) => (impl_SetOk a).bind fun c => bif !c then some false else (impl_SetOk b).bind fun d => bif !d then some false else bx (lp impl_SetApart_s58 (b, a, ln a, 0)) (fun e => some e) fun _ => some true
def impl_SetApart_e : FEnt := ⟨43, [.tmp 4], [], [(.one, [.dat kk2]), (.one, [.dat kk2])], ⟨47, [⟨4, .one, [.dat .bool]⟩]⟩, impl_SetApart⟩
theorem impl_SetApart_ok : FnOk Tryz.prog 48 impl_SetApart_e := fnOk_mk (tb := [(14950, impl_SetApart_n14950), (58, impl_SetApart_n58)]) (c := (Tryz.f48.body).getD .skip) mixed Tryz.func48 (bC impl_SetOk_ok bN) (by kernel_rfl) (by kernel_rfl) (by kernel_rfl) ⟨nodeLoop (by kernel_rfl) impl_SetApart_s14950 (by kernel_rfl) (by intro d; kernel_rfl), nodeLoop (by kernel_rfl) impl_SetApart_s58 (by kernel_rfl) (by intro d; kernel_rfl), trivial⟩ (by intro d; kernel_rfl)


/-! impl.apart -/
def impl_apart_s13518 : List t24 × t24 × List t24 × Int × Int × t27 → Option (List t24 × t24 × List t24 × Int × Int × t27 ⊕ Bool ⊕ t33)
  | (a, (b, c, d, e, f, g, h, i, j, k), l, m, n, o, p, q) => bif decide (q < p) then ix q o.length ((some (gx o q (0, 0, [], 0, 0, 0, 0, [], [], []))).bind fun (r, s, t, u, v, w, x, y, z, a1) => (impl_SetApart (d, t)).bind fun b1 => bif !b1 then some (.inr (.inl false)) else some (.inl (a, (b, c, d, e, f, g, h, i, j, k), l, m, n, o, p, w64 (q + 1)))) else some (.inr (.inr (a, l, m, n)))
def impl_apart_n13518 : NEnt := ⟨⟨35, [⟨0, .one, [.dat kk0]⟩, ⟨4, .box, cc2⟩, ⟨7, .one, [.dat kk0]⟩, ⟨8, .one, [.dat kI]⟩, ⟨9, .one, [.dat kI]⟩, ⟨19, .one, [.dat kk0]⟩, ⟨20, .one, [.dat kI]⟩, ⟨21, .one, [.dat kI]⟩]⟩, [(.ret, ⟨35, [⟨2, .one, [.dat .bool]⟩]⟩), (.exit 2, ⟨35, [⟨0, .one, [.dat kk0]⟩, ⟨7, .one, [.dat kk0]⟩, ⟨8, .one, [.dat kI]⟩, ⟨9, .one, [.dat kI]⟩]⟩)], lp impl_apart_s13518⟩
def impl_apart_s26 : t33 → Option (t33 ⊕ Bool ⊕ Unit)
  | (a, b, c, d) => bif decide (d < c) then ix d b.length ((some (gx b d (0, 0, [], 0, 0, 0, 0, [], [], []))).bind fun (e, f, g, h, i, j, k, l, m, n) => (impl_EntryOk (e, f, g, h, i, j, k, l, m, n)).bind fun o => bif !o then some (.inr (.inl false)) else g0 d (chk (decide ((0 ≤ d.toNat) ∧ (d.toNat ≤ a.length))) ((some (ln (List.take d.toNat a))).bind fun p => bx (lp impl_apart_s13518 (a, (e, f, g, h, i, j, k, l, m, n), b, c, d, List.take d.toNat a, p, 0)) (fun q => some (.inr (.inl q))) fun (q, r, s, t) => some (.inl (q, r, s, w64 (t + 1)))))) else some (.inr (.inr ()))
def impl_apart_n26 : NEnt := ⟨⟨35, [⟨0, .one, [.dat kk0]⟩, ⟨7, .one, [.dat kk0]⟩, ⟨8, .one, [.dat kI]⟩, ⟨9, .one, [.dat kI]⟩]⟩, [(.ret, ⟨35, [⟨2, .one, [.dat .bool]⟩]⟩), (.exit 0, ⟨35, []⟩)], lp impl_apart_s26⟩
def impl_apart : List t24 → Option Bool
  | a => bx (lp impl_apart_s26 (a, a, ln a, 0)) (fun b => some b) fun _ => some true
def impl_apart_e : FEnt := ⟨33, [.tmp 2], [], [(.one, [.dat kk0])], ⟨35, [⟨2, .one, [.dat .bool]⟩]⟩, impl_apart⟩
theorem impl_apart_ok : FnOk Tryz.prog 28 impl_apart_e := fnOk_mk (tb := [(13518, impl_apart_n13518), (26, impl_apart_n26)]) (c := (Tryz.f28.body).getD .skip) mixed Tryz.func28 (bC impl_EntryOk_ok (bC impl_SetApart_ok bN)) (by kernel_rfl) (by kernel_rfl) (by kernel_rfl) ⟨nodeLoop (by kernel_rfl) impl_apart_s13518 (by kernel_rfl) (by intro d; kernel_rfl), nodeLoop (by kernel_rfl) impl_apart_s26 (by kernel_rfl) (by intro d; kernel_rfl), trivial⟩ (by intro d; kernel_rfl)


/-! impl.RowOk -/
def impl_RowOk : List t24 → Option Bool
  | a => (some (decide ((ln a) ≤ 24))).bind fun b => bif b then (impl_apart a).bind fun c => some c else some false
def impl_RowOk_e : FEnt := ⟨12, [.tmp 2], [], [(.agg, [.dat kk0])], ⟨14, [⟨2, .one, [.dat .bool]⟩]⟩, impl_RowOk⟩
theorem impl_RowOk_ok : FnOk Tryz.prog 15 impl_RowOk_e := fnOk_mk (tb := []) (c := (Tryz.f15.body).getD .skip) mixed Tryz.func15 (bC impl_apart_ok bN) (by kernel_rfl) (by kernel_rfl) (by kernel_rfl) trivial (by intro d; kernel_rfl)


/-! impl.RowPop -/
def impl_RowPop : List t24 → Option (t24 × List t24 × Bool)
  | a => (impl_copyRow a).bind fun b => (impl_RowOk a).bind fun c => bif !c then some ((0, 0, [], 0, 0, 0, 0, [], [], []), b, false) else bif (ln a) == 0 then some ((0, 0, [], 0, 0, 0, 0, [], [], []), b, false) else chk (decide (0 < b.length)) (chk (decide (0 < b.length)) ((some (List.getD b 0 (0, 0, [], 0, 0, 0, 0, [], [], []))).bind fun (d, e, f, g, h, i, j, k, l, m) => chk (decide ((1 ≤ b.length) ∧ (b.length ≤ b.length))) (some ((d, e, f, g, h, i, j, k, l, m), List.drop 1 b, true))))
def impl_RowPop_e : FEnt := ⟨27, [.cell 2 true 10, .cell 3 true 1, .tmp 4], [], [(.agg, [.dat kk0])], ⟨29, [⟨2, .box, cc2⟩, ⟨3, .box, [.own false kk1]⟩, ⟨4, .one, [.dat .bool]⟩]⟩, impl_RowPop⟩
theorem impl_RowPop_ok : FnOk Tryz.prog 6 impl_RowPop_e := fnOk_mk (tb := []) (c := (Tryz.f6.body).getD .skip) mixed Tryz.func6 (bC impl_copyRow_ok (bC impl_RowOk_ok bN)) (by kernel_rfl) (by kernel_rfl) (by kernel_rfl) trivial (by intro d; kernel_rfl)


/-! spec.RowPop -/
def spec_RowPop : List t24 → Option (t24 × List t24 × Bool)
  | a => (spec_l10Copy a).bind fun b => (spec_RowOk a).bind fun c => bif !c then some ((0, 0, [], 0, 0, 0, 0, [], [], []), b, false) else bif (ln a) == 0 then some ((0, 0, [], 0, 0, 0, 0, [], [], []), b, false) else chk (decide (0 < b.length)) (chk (decide (0 < b.length)) ((some (List.getD b 0 (0, 0, [], 0, 0, 0, 0, [], [], []))).bind fun (d, e, f, g, h, i, j, k, l, m) => chk (decide ((1 ≤ b.length) ∧ (b.length ≤ b.length))) (chk (fits (0 + (List.drop 1 b).length) 144) ((some ([] ++ (List.drop 1 b))).bind fun n => some ((d, e, f, g, h, i, j, k, l, m), n, true)))))
def spec_RowPop_e : FEnt := ⟨29, [.cell 2 true 10, .cell 3 true 1, .tmp 4], [], [(.agg, [.dat kk0])], ⟨31, [⟨2, .box, cc2⟩, ⟨3, .box, [.own false kk1]⟩, ⟨4, .one, [.dat .bool]⟩]⟩, spec_RowPop⟩
theorem spec_RowPop_ok : FnOk Tryz.prog 7 spec_RowPop_e := fnOk_mk (tb := []) (c := (Tryz.f7.body).getD .skip) mixed Tryz.func7 (bC spec_l10Copy_ok (bC spec_RowOk_ok bN)) (by kernel_rfl) (by kernel_rfl) (by kernel_rfl) trivial (by intro d; kernel_rfl)


/-! spec.l5Same -/
def spec_l5Same_s58 : t13 → Option (t13 ⊕ Bool ⊕ Unit)
  | (a, b, c) => bif decide (c < (ln a)) then ix c a.length ((some (gx a c (0, 0))).bind fun (d, e) => ix c b.length ((some (gx b c (0, 0))).bind fun (f, g) => bif !((d == f) && ((e == g) && true)) then some (.inr (.inl false)) else some (.inl (a, b, w64 (c + 1))))) else some (.inr (.inr ()))
def spec_l5Same_n58 : NEnt := ⟨⟨30, [⟨0, .one, [.dat kk2]⟩, ⟨1, .one, [.dat kk2]⟩, ⟨5, .one, [.dat kI]⟩]⟩, [(.ret, ⟨30, [⟨4, .one, [.dat .bool]⟩]⟩), (.exit 0, ⟨30, []⟩)], lp spec_l5Same_s58⟩
def spec_l5Same : t9 → Option Bool
  | (a, b) => bif (ln a) != (ln b) then some false else bx (lp spec_l5Same_s58 (a, b, 0)) (fun c => some c) fun _ => some true
def spec_l5Same_e : FEnt := ⟨26, [.tmp 4], [], [(.one, [.dat kk2]), (.one, [.dat kk2])], ⟨30, [⟨4, .one, [.dat .bool]⟩]⟩, spec_l5Same⟩
theorem spec_l5Same_ok : FnOk Tryz.prog 52 spec_l5Same_e := fnOk_mk (tb := [(58, spec_l5Same_n58)]) (c := (Tryz.f52.body).getD .skip) mixed Tryz.func52 bN (by kernel_rfl) (by kernel_rfl) (by kernel_rfl) ⟨nodeLoop (by kernel_rfl) spec_l5Same_s58 (by kernel_rfl) (by intro d; kernel_rfl), trivial⟩ (by intro d; kernel_rfl)


/-! spec.l1Same -/
def spec_l1Same_s58 : t2 → Option (t2 ⊕ Bool ⊕ Unit)
  | (a, b, c) => bif decide (c < (ln a)) then ix c a.length (ix c b.length (bif (gx a c 0) != (gx b c 0) then some (.inr (.inl false)) else some (.inl (a, b, w64 (c + 1))))) else some (.inr (.inr ()))
def spec_l1Same_n58 : NEnt := ⟨⟨30, [⟨0, .one, [.dat (.list kI)]⟩, ⟨1, .one, [.dat (.list kI)]⟩, ⟨5, .one, [.dat kI]⟩]⟩, [(.ret, ⟨30, [⟨4, .one, [.dat .bool]⟩]⟩), (.exit 0, ⟨30, []⟩)], lp spec_l1Same_s58⟩
def spec_l1Same : List Int × List Int → Option Bool
  | (a, b) => bif (ln a) != (ln b) then some false else bx (lp spec_l1Same_s58 (a, b, 0)) (fun c => some c) fun _ => some true
def spec_l1Same_e : FEnt := ⟨26, [.tmp 4], [], [(.one, [.dat (.list kI)]), (.one, [.dat (.list kI)])], ⟨30, [⟨4, .one, [.dat .bool]⟩]⟩, spec_l1Same⟩
theorem spec_l1Same_ok : FnOk Tryz.prog 71 spec_l1Same_e := fnOk_mk (tb := [(58, spec_l1Same_n58)]) (c := (Tryz.f71.body).getD .skip) mixed Tryz.func71 bN (by kernel_rfl) (by kernel_rfl) (by kernel_rfl) ⟨nodeLoop (by kernel_rfl) spec_l1Same_s58 (by kernel_rfl) (by intro d; kernel_rfl), trivial⟩ (by intro d; kernel_rfl)


/-! spec.SketchSame -/
def spec_SketchSame_s58 : t19 × t20 → Option (t19 × t20 ⊕ Bool ⊕ Unit)
  | ((a, b, c, d, e, f, g), (h, i, j, k, l, m, n), o) => bif decide (o < (ln g)) then ix o g.length (ix o n.length ((spec_l1Same (gx g o [], gx n o [])).bind fun p => bif !p then some (.inr (.inl false)) else some (.inl ((a, b, c, d, e, f, g), (h, i, j, k, l, m, n), w64 (o + 1))))) else some (.inr (.inr ()))
def spec_SketchSame_n58 : NEnt := ⟨⟨80, [⟨2, .box, cc4⟩, ⟨3, .box, cc4⟩, ⟨5, .one, [.dat kI]⟩]⟩, [(.ret, ⟨80, [⟨4, .one, [.dat .bool]⟩]⟩), (.exit 0, ⟨80, []⟩)], lp spec_SketchSame_s58⟩
def spec_SketchSame : t19 × t19 → Option Bool
  | ((a, b, c, d, e, f, g), h, i, j, k, l, m, n) => bif a != h then some false else bif b != i then some false else bif c != j then some false else bif d != k then some false else (spec_l1Same (e, l)).bind fun o => bif !o then some false else (spec_l1Same (f, m)).bind fun p => bif !p then some false else bif (ln g) != (ln n) then some false else bx (lp spec_SketchSame_s58 ((a, b, c, d, e, f, g), (h, i, j, k, l, m, n), 0)) (fun q => some q) fun _ => some true
def spec_SketchSame_e : FEnt := ⟨76, [.tmp 4], [], [(.agg, cc4), (.agg, cc4)], ⟨80, [⟨4, .one, [.dat .bool]⟩]⟩, spec_SketchSame⟩
theorem spec_SketchSame_ok : FnOk Tryz.prog 53 spec_SketchSame_e := fnOk_mk (tb := [(58, spec_SketchSame_n58)]) (c := (Tryz.f53.body).getD .skip) mixed Tryz.func53 (bC spec_l1Same_ok bN) (by kernel_rfl) (by kernel_rfl) (by kernel_rfl) ⟨nodeLoop (by kernel_rfl) spec_SketchSame_s58 (by kernel_rfl) (by intro d; kernel_rfl), trivial⟩ (by intro d; kernel_rfl)


/-! spec.EntrySame -/
def spec_EntrySame : t24 × t24 → Option Bool
  | ((a, b, c, d, e, f, g, h, i, j), k, l, m, n, o, p, q, r, s, t) => bif a == k then bif b == l then (spec_l5Same (c, m)).bind fun u => bif u then (spec_SketchSame ((d, e, f, g, h, i, j), n, o, p, q, r, s, t)).bind fun v => some v else some false else some false else some false
def spec_EntrySame_e : FEnt := ⟨31, [.tmp 4], [], [(.agg, cc2), (.agg, cc2)], ⟨35, [⟨4, .one, [.dat .bool]⟩]⟩, spec_EntrySame⟩
theorem spec_EntrySame_ok : FnOk Tryz.prog 31 spec_EntrySame_e := fnOk_mk (tb := []) (c := (Tryz.f31.body).getD .skip) mixed Tryz.func31 (bC spec_l5Same_ok (bC spec_SketchSame_ok bN)) (by kernel_rfl) (by kernel_rfl) (by kernel_rfl) trivial (by intro d; kernel_rfl)


/-! spec.l10Entries -/
def spec_l10Entries_s58 : t32 → Option (t32 ⊕ Bool ⊕ Unit)
  | (a, b, c) => (some (decide (c < (ln a)))).bind fun d => bif d then ix c a.length ((some (gx a c (0, 0, [], 0, 0, 0, 0, [], [], []))).bind fun (e, f, g, h, i, j, k, l, m, n) => ix c b.length ((some (gx b c (0, 0, [], 0, 0, 0, 0, [], [], []))).bind fun (o, p, q, r, s, t, u, v, w, x) => (spec_EntrySame ((e, f, g, h, i, j, k, l, m, n), o, p, q, r, s, t, u, v, w, x)).bind fun y => bif !y then some (.inr (.inl false)) else some (.inl (a, b, w64 (c + 1))))) else some (.inr (.inr ()))
def spec_l10Entries_n58 : NEnt := ⟨⟨31, [⟨0, .one, [.dat kk0]⟩, ⟨1, .one, [.dat kk0]⟩, ⟨5, .one, [.dat kI]⟩]⟩, [(.ret, ⟨31, [⟨4, .one, [.dat .bool]⟩]⟩), (.exit 0, ⟨31, []⟩)], lp spec_l10Entries_s58⟩
def spec_l10Entries : t31 → Option Bool
  | (a, b) => (some ((ln a) != (ln b))).bind fun c => bif c then some false else bx (lp spec_l10Entries_s58 (a, b, 0)) (fun d => some d) fun _ => some true
def spec_l10Entries_e : FEnt := ⟨27, [.tmp 4], [], [(.one, [.dat kk0]), (.one, [.dat kk0])], ⟨31, [⟨4, .one, [.dat .bool]⟩]⟩, spec_l10Entries⟩
theorem spec_l10Entries_ok : FnOk Tryz.prog 18 spec_l10Entries_e := fnOk_mk (tb := [(58, spec_l10Entries_n58)]) (c := (Tryz.f18.body).getD .skip) mixed Tryz.func18 (bC spec_EntrySame_ok bN) (by kernel_rfl) (by kernel_rfl) (by kernel_rfl) ⟨nodeLoop (by kernel_rfl) spec_l10Entries_s58 (by kernel_rfl) (by intro d; kernel_rfl), trivial⟩ (by intro d; kernel_rfl)


/-! spec.RowSame -/
def spec_RowSame : t31 → Option Bool
  | (a, b) => (spec_l10Entries (a, b)).bind fun c => some c
def spec_RowSame_e : FEnt := ⟨10, [.tmp 4], [], [(.agg, [.dat kk0]), (.agg, [.dat kk0])], ⟨14, [⟨4, .one, [.dat .bool]⟩]⟩, spec_RowSame⟩
theorem spec_RowSame_ok : FnOk Tryz.prog 8 spec_RowSame_e := fnOk_mk (tb := []) (c := (Tryz.f8.body).getD .skip) mixed Tryz.func8 (bC spec_l10Entries_ok bN) (by kernel_rfl) (by kernel_rfl) (by kernel_rfl) trivial (by intro d; kernel_rfl)


/-! impl.of -/
def impl_of_s58 : Int × Int × t33 → Option (Int × Int × t33 ⊕ List t24)
  | (a, b, c, d, e, f) => bif decide (f < e) then ix f d.length ((some (gx d f (0, 0, [], 0, 0, 0, 0, [], [], []))).bind fun (g, h, i, j, k, l, m, n, o, p) => bif g == a then bif h == b then (some [(g, h, i, j, k, l, m, n, o, p)]).bind fun q => chk (fits (c.length + q.length) 144) ((some (c ++ q)).bind fun r => some (.inl (a, b, r, d, e, w64 (f + 1)))) else some (.inl (a, b, c, d, e, w64 (f + 1))) else some (.inl (a, b, c, d, e, w64 (f + 1)))) else some (.inr c)
def impl_of_n58 : NEnt := ⟨⟨38, [⟨1, .one, [.dat kI]⟩, ⟨2, .one, [.dat kI]⟩, ⟨7, .one, [.own false kk1]⟩, ⟨10, .one, [.dat kk0]⟩, ⟨11, .one, [.dat kI]⟩, ⟨12, .one, [.dat kI]⟩]⟩, [(.exit 0, ⟨38, [⟨7, .one, [.own false kk1]⟩]⟩)], lp impl_of_s58⟩
def impl_of : t27 → Option (List t24)
  | (a, b, c) => (lp impl_of_s58 (b, c, [], a, ln a, 0)).bind fun d => some d
def impl_of_e : FEnt := ⟨32, [.tmp 6], [], [(.one, [.dat kk0]), (.one, [.dat kI]), (.one, [.dat kI])], ⟨38, [⟨6, .one, [.own false kk1]⟩]⟩, impl_of⟩
theorem impl_of_ok : FnOk Tryz.prog 32 impl_of_e := fnOk_mk (tb := [(58, impl_of_n58)]) (c := (Tryz.f32.body).getD .skip) mixed Tryz.func32 bN (by kernel_rfl) (by kernel_rfl) (by kernel_rfl) ⟨nodeLoop (by kernel_rfl) impl_of_s58 (by kernel_rfl) (by intro d; kernel_rfl), trivial⟩ (by intro d; kernel_rfl)


/-! impl.limited -/
def impl_limited : Int × Int × Int → Option Int
  | (a, b, c) => some (if c < if b > a then b else a then c else if b > a then b else a)
def impl_limited_e : FEnt := ⟨12, [.tmp 6], [], [(.one, [.dat kI]), (.one, [.dat kI]), (.one, [.dat kI])], ⟨18, [⟨6, .one, [.dat kI]⟩]⟩, impl_limited⟩
theorem impl_limited_ok : FnOk Tryz.prog 83 impl_limited_e := fnOk_mk (tb := []) (c := (Tryz.f83.body).getD .skip) mixed Tryz.func83 bN (by kernel_rfl) (by kernel_rfl) (by kernel_rfl) trivial (by intro d; kernel_rfl)


/-! impl.Add -/
def impl_Add : Int × Int → Option Int
  | (a, b) => (impl_limited (a, 0, 1000000000)).bind fun c => (impl_limited (b, 0, 1000000000)).bind fun d => (some (if (1000000000 : Int) < IntKind.wrap IntKind.i64 (c + d) then (1000000000 : Int) else IntKind.wrap IntKind.i64 (c + d))).bind fun e => some e
def impl_Add_e : FEnt := ⟨11, [.tmp 4], [], [(.one, [.dat kI]), (.one, [.dat kI])], ⟨15, [⟨4, .one, [.dat kI]⟩]⟩, impl_Add⟩
theorem impl_Add_ok : FnOk Tryz.prog 72 impl_Add_e := fnOk_mk (tb := []) (c := (Tryz.f72.body).getD .skip) mixed Tryz.func72 (bC impl_limited_ok bN) (by kernel_rfl) (by kernel_rfl) (by kernel_rfl) trivial (by intro d; kernel_rfl)


/-! impl.Merge -/
def impl_Merge_s2042 : t19 × t14 × t23 → Option (t19 × t14 × t23 ⊕ t19 × t26)
  | ((a, b, c, d, e, f, g), (h, i, j, k, _, _, _), (l, m, n, o, p, q, r), s, t, u) => bif decide (u < t) then ix u s.length (ix u p.length (lx u p.length ((impl_Add (gx p u 0, gx s u 0)).bind fun v => ix u p.length (lx u p.length (some (.inl ((a, b, c, d, e, f, g), (h, i, j, k, (), (), ()), (l, m, n, o, sx p u v, q, r), s, t, w64 (u + 1)))))))) else some (.inr ((a, b, c, d, e, f, g), (h, i, j, k, (), (), ()), l, m, n, o, p, q, r))
def impl_Merge_n2042 : NEnt := ⟨⟨141, [⟨3, .box, cc4⟩, ⟨4, .box, cc7⟩, ⟨6, .box, cc3⟩, ⟨63, .one, [.dat (.list kI)]⟩, ⟨64, .one, [.dat kI]⟩, ⟨65, .one, [.dat kI]⟩]⟩, [(.exit 0, ⟨141, [⟨3, .box, cc4⟩, ⟨4, .box, cc7⟩, ⟨6, .box, cc3⟩]⟩)], lp impl_Merge_s2042⟩
def impl_Merge_s4090 : t19 × t14 × t23 → Option (t19 × t14 × t23 ⊕ t19 × t26)
  | ((a, b, c, d, e, f, g), (h, i, j, k, _, _, _), (l, m, n, o, p, q, r), s, t, u) => bif decide (u < t) then ix u s.length (ix u q.length (lx u q.length ((some (if List.getD s (Int.toNat u) (0 : Int) > List.getD q (Int.toNat u) (0 : Int) then List.getD s (Int.toNat u) (0 : Int) else List.getD q (Int.toNat u) (0 : Int))).bind fun v => ix u q.length (lx u q.length (some (.inl ((a, b, c, d, e, f, g), (h, i, j, k, (), (), ()), (l, m, n, o, p, sx q u v, r), s, t, w64 (u + 1)))))))) else some (.inr ((a, b, c, d, e, f, g), (h, i, j, k, (), (), ()), l, m, n, o, p, q, r))
def impl_Merge_n4090 : NEnt := ⟨⟨141, [⟨3, .box, cc4⟩, ⟨4, .box, cc7⟩, ⟨6, .box, cc3⟩, ⟨83, .one, [.dat (.list kI)]⟩, ⟨84, .one, [.dat kI]⟩, ⟨85, .one, [.dat kI]⟩]⟩, [(.exit 2, ⟨141, [⟨3, .box, cc4⟩, ⟨4, .box, cc7⟩, ⟨6, .box, cc3⟩]⟩)], lp impl_Merge_s4090⟩
def impl_Merge_s2095718 : t14 × t19 × Int × List (List Int) × Int × t3 → Option (t14 × t19 × Int × List (List Int) × Int × t3 ⊕ t30)
  | ((a, b, c, d, _, _, _), (e, f, g, h, i, j, k), l, m, n, o, p, q, r) => bif decide (r < q) then ix r p.length (ix l k.length (lx l k.length (ix l k.length (lx l k.length (ix r (gx k l []).length (lx r (gx k l []).length ((impl_Add (gx (gx k l []) r 0, gx p r 0)).bind fun s => ix r (gx k l []).length (lx r (gx k l []).length (some (.inl ((a, b, c, d, (), (), ()), (e, f, g, h, i, j, sx k l (sx (gx k l []) r s)), l, m, n, o, p, q, w64 (r + 1)))))))))))) else some (.inr ((a, b, c, d, (), (), ()), (e, f, g, h, i, j, k), m, n, o))
def impl_Merge_n2095718 : NEnt := ⟨⟨141, [⟨4, .box, cc7⟩, ⟨6, .box, cc3⟩, ⟨11, .one, [.dat kI]⟩, ⟨103, .one, [.dat kk3]⟩, ⟨104, .one, [.dat kI]⟩, ⟨105, .one, [.dat kI]⟩, ⟨110, .one, [.dat (.list kI)]⟩, ⟨111, .one, [.dat kI]⟩, ⟨112, .one, [.dat kI]⟩]⟩, [(.exit 6, ⟨141, [⟨4, .box, cc7⟩, ⟨6, .box, cc3⟩, ⟨103, .one, [.dat kk3]⟩, ⟨104, .one, [.dat kI]⟩, ⟨105, .one, [.dat kI]⟩]⟩)], lp impl_Merge_s2095718⟩
def impl_Merge_s8186 : t30 → Option (t30 ⊕ t26)
  | ((a, b, c, d, _, _, _), (e, f, g, h, i, j, k), l, m, n) => bif decide (n < m) then ix n l.length ((lp impl_Merge_s2095718 ((a, b, c, d, (), (), ()), (e, f, g, h, i, j, k), n, l, m, n, gx l n [], ln (gx l n []), 0)).bind fun ((o, p, q, r, _, _, _), (s, t, u, v, w, x, y), z, a1, b1) => some (.inl ((o, p, q, r, (), (), ()), (s, t, u, v, w, x, y), z, a1, w64 (b1 + 1)))) else some (.inr ((a, b, c, d, (), (), ()), e, f, g, h, i, j, k))
def impl_Merge_n8186 : NEnt := ⟨⟨141, [⟨4, .box, cc7⟩, ⟨6, .box, cc3⟩, ⟨103, .one, [.dat kk3]⟩, ⟨104, .one, [.dat kI]⟩, ⟨105, .one, [.dat kI]⟩]⟩, [(.exit 4, ⟨141, [⟨4, .box, cc7⟩, ⟨6, .box, cc3⟩]⟩)], lp impl_Merge_s8186⟩
def impl_Merge_l31 : t19 × t19 × t26 → Option (t19 × Bool)
  | ((a, b, c, d, e, f, g), (h, i, j, k, l, m, n), (o, p, q, r, _, _, _), s, t, u, v, w, x, y) => (impl_Add (a, h)).bind fun z => (impl_Add (b, i)).bind fun a1 => (lp impl_Merge_s2042 ((h, i, j, k, l, m, n), (o, p, q, r, (), (), ()), (z, a1, u, if k > d then k else d, w, x, y), l, ln l, 0)).bind fun ((b1, c1, d1, e1, f1, g1, h1), (i1, j1, k1, l1, _, _, _), m1, n1, o1, p1, q1, r1, s1) => (lp impl_Merge_s4090 ((b1, c1, d1, e1, f1, g1, h1), (i1, j1, k1, l1, (), (), ()), (m1, n1, o1, p1, q1, r1, s1), g1, ln g1, 0)).bind fun ((t1, u1, v1, w1, x1, y1, z1), (a2, b2, c2, d2, _, _, _), e2, f2, g2, h2, i2, j2, k2) => (lp impl_Merge_s8186 ((a2, b2, c2, d2, (), (), ()), (e2, f2, g2, h2, i2, j2, k2), z1, ln z1, 0)).bind fun ((l2, m2, n2, o2, _, _, _), p2, q2, r2, s2, t2, u2, v2) => some ((p2, q2, r2, s2, t2, u2, v2), true)
def impl_Merge_n31 : NEnt := ⟨⟨141, [⟨2, .box, cc4⟩, ⟨3, .box, cc4⟩, ⟨4, .box, cc7⟩, ⟨6, .box, cc3⟩]⟩, [(.ret, ⟨141, [⟨4, .box, cc3⟩, ⟨5, .one, [.dat .bool]⟩]⟩)], impl_Merge_l31⟩
def impl_Merge : t19 × t19 → Option (t19 × Bool)
  | ((a, b, c, d, e, f, g), h, i, j, k, l, m, n) => (impl_SketchOk (a, b, c, d, e, f, g)).bind fun o => bif !o then some ((0, 0, 0, 0, [], [], []), false) else (impl_SketchOk (h, i, j, k, l, m, n)).bind fun p => bif !p then some ((0, 0, 0, 0, [], [], []), false) else (impl_copySketch (a, b, c, d, e, f, g)).bind fun (q, r, s, t, u, v, w) => bif a == 0 then (impl_Merge_l31 ((a, b, c, d, e, f, g), (h, i, j, k, l, m, n), (0, 0, 0, 0, (), (), ()), q, r, j, t, u, v, w)).bind fun ((x, y, z, a1, b1, c1, d1), e1) => some ((x, y, z, a1, b1, c1, d1), e1) else bif decide (h > 0) then bif decide (j < c) then (impl_Merge_l31 ((a, b, c, d, e, f, g), (h, i, j, k, l, m, n), (0, 0, 0, 0, (), (), ()), q, r, j, t, u, v, w)).bind fun ((x, y, z, a1, b1, c1, d1), e1) => some ((x, y, z, a1, b1, c1, d1), e1) else (impl_Merge_l31 ((a, b, c, d, e, f, g), (h, i, j, k, l, m, n), (0, 0, 0, 0, (), (), ()), q, r, s, t, u, v, w)).bind fun ((x, y, z, a1, b1, c1, d1), e1) => some ((x, y, z, a1, b1, c1, d1), e1) else (impl_Merge_l31 ((a, b, c, d, e, f, g), (h, i, j, k, l, m, n), (0, 0, 0, 0, (), (), ()), q, r, s, t, u, v, w)).bind fun ((x, y, z, a1, b1, c1, d1), e1) => some ((x, y, z, a1, b1, c1, d1), e1)
def impl_Merge_e : FEnt := ⟨137, [.cell 4 true 7, .tmp 5], [], [(.agg, cc4), (.agg, cc4)], ⟨141, [⟨4, .box, cc3⟩, ⟨5, .one, [.dat .bool]⟩]⟩, impl_Merge⟩
theorem impl_Merge_ok : FnOk Tryz.prog 54 impl_Merge_e := fnOk_mk (tb := [(2095718, impl_Merge_n2095718), (8186, impl_Merge_n8186), (4090, impl_Merge_n4090), (2042, impl_Merge_n2042), (31, impl_Merge_n31)]) (c := (Tryz.f54.body).getD .skip) mixed Tryz.func54 (bC impl_SketchOk_ok (bC impl_copySketch_ok (bC impl_Add_ok bN))) (by kernel_rfl) (by kernel_rfl) (by kernel_rfl) ⟨nodeLoop (by kernel_rfl) impl_Merge_s2095718 (by kernel_rfl) (by intro d; kernel_rfl), nodeLoop (by kernel_rfl) impl_Merge_s8186 (by kernel_rfl) (by intro d; kernel_rfl), nodeLoop (by kernel_rfl) impl_Merge_s4090 (by kernel_rfl) (by intro d; kernel_rfl), nodeLoop (by kernel_rfl) impl_Merge_s2042 (by kernel_rfl) (by intro d; kernel_rfl), nodeJoin (by kernel_rfl) (by intro d; kernel_rfl), trivial⟩ (by intro d; kernel_rfl)


/-! impl.union -/
def impl_union_s250 : List (Int × Int) × List (Int × Int) × (Unit × Unit × Unit) × Int × Int → Option (List (Int × Int) × List (Int × Int) × (Unit × Unit × Unit) × Int × Int ⊕ List (Int × Int))
  | (a, b, (_, _, _), c, d) => bif decide (d < c) then ix d a.length (lx d a.length ((some (gx a d (0, 0))).bind fun (e, f) => bif decide ((ln b) > 0) then ix (w64 ((ln b) - 1)) b.length (lx (w64 ((ln b) - 1)) b.length ((some (gx b (w64 ((ln b) - 1)) (0, 0))).bind fun (g, h) => bif decide (e ≤ (w64 (h + 1))) then ix (w64 ((ln b) - 1)) b.length (lx (w64 ((ln b) - 1)) b.length ((some (gx b (w64 ((ln b) - 1)) (0, 0))).bind fun (i, j) => ix (w64 ((ln b) - 1)) b.length (lx (w64 ((ln b) - 1)) b.length ((some (sx b (w64 ((ln b) - 1)) ((gx b (w64 ((ln b) - 1)) (0, 0)).1, if f > j then f else j))).bind fun k => some (.inl (a, k, ((), (), ()), c, w64 (d + 1))))))) else chk (fits (b.length + [(e, f)].length) 16) (some (.inl (a, b ++ [(e, f)], ((), (), ()), c, w64 (d + 1)))))) else chk (fits (b.length + [(e, f)].length) 16) (some (.inl (a, b ++ [(e, f)], ((), (), ()), c, w64 (d + 1)))))) else some (.inr b)
def impl_union_n250 : NEnt := ⟨⟨56, [⟨3, .one, cc9⟩, ⟨4, .one, cc9⟩, ⟨12, .one, [.ref 3 0 [] false false (.pair kI kI)]⟩, ⟨13, .one, [.dat kI]⟩, ⟨14, .one, [.dat kI]⟩]⟩, [(.exit 0, ⟨56, [⟨4, .one, cc9⟩]⟩)], lp impl_union_s250⟩
def impl_union : List (Int × Int) → Option (List (Int × Int))
  | a => (impl_copySet a).bind fun b => (slices_SortFunc (b, ())).bind fun c => (lp impl_union_s250 (c, [], ((), (), ()), ln c, 0)).bind fun d => some d
def impl_union_e : FEnt := ⟨54, [.tmp 2], [], [(.one, [.dat kk2])], ⟨56, [⟨2, .one, cc9⟩]⟩, impl_union⟩
theorem impl_union_ok : FnOk Tryz.prog 73 impl_union_e := fnOk_mk (tb := [(250, impl_union_n250)]) (c := (Tryz.f73.body).getD .skip) mixed Tryz.func73 (bC impl_copySet_ok (bC slices_SortFunc_ok bN)) (by kernel_rfl) (by kernel_rfl) (by kernel_rfl) ⟨nodeLoop (by kernel_rfl) impl_union_s250 (by kernel_rfl) (by intro d; kernel_rfl), trivial⟩ (by intro d; kernel_rfl)


/-! impl.idsOf -/
def impl_idsOf_s58 : List (Int × Int) × t27 → Option (List (Int × Int) × t27 ⊕ List (Int × Int))
  | (a, b, c, d) => bif decide (d < c) then ix d b.length ((some (gx b d (0, 0, [], 0, 0, 0, 0, [], [], []))).bind fun (e, f, g, h, i, j, k, l, m, n) => chk (fits (a.length + g.length) 16) (some (.inl (a ++ g, b, c, w64 (d + 1))))) else some (.inr a)
def impl_idsOf_n58 : NEnt := ⟨⟨21, [⟨3, .one, cc9⟩, ⟨6, .one, [.dat kk0]⟩, ⟨7, .one, [.dat kI]⟩, ⟨8, .one, [.dat kI]⟩]⟩, [(.exit 0, ⟨21, [⟨3, .one, cc9⟩]⟩)], lp impl_idsOf_s58⟩
def impl_idsOf : List t24 → Option (List (Int × Int))
  | a => (lp impl_idsOf_s58 ([], a, ln a, 0)).bind fun b => (impl_union b).bind fun c => some c
def impl_idsOf_e : FEnt := ⟨19, [.tmp 2], [], [(.one, [.dat kk0])], ⟨21, [⟨2, .one, cc9⟩]⟩, impl_idsOf⟩
theorem impl_idsOf_ok : FnOk Tryz.prog 55 impl_idsOf_e := fnOk_mk (tb := [(58, impl_idsOf_n58)]) (c := (Tryz.f55.body).getD .skip) mixed Tryz.func55 (bC impl_union_ok bN) (by kernel_rfl) (by kernel_rfl) (by kernel_rfl) ⟨nodeLoop (by kernel_rfl) impl_idsOf_s58 (by kernel_rfl) (by intro d; kernel_rfl), trivial⟩ (by intro d; kernel_rfl)


/-! impl.total -/
def impl_total_s58 : List t24 × (Int × Int × Unit × t14) × t24 × t27 → Option (List t24 × (Int × Int × Unit × t14) × t24 × t27 ⊕ List t24 × (Int × Int × Unit × t14) × t24)
  | (a, (b, c, _, d, e, f, g, _, _, _), (h, i, j, k, l, m, n, o, p, q), r, s, t) => bif decide (t < s) then ix t r.length ((some (gx r t (0, 0, [], 0, 0, 0, 0, [], [], []))).bind fun (u, v, w, x, y, z, a1, b1, c1, d1) => (impl_Merge ((k, l, m, n, o, p, q), x, y, z, a1, b1, c1, d1)).bind fun ((e1, f1, g1, h1, i1, j1, k1), l1) => some (.inl (a, (b, c, (), d, e, f, g, (), (), ()), (h, i, j, e1, f1, g1, h1, i1, j1, k1), r, s, w64 (t + 1)))) else some (.inr (a, (b, c, (), d, e, f, g, (), (), ()), h, i, j, k, l, m, n, o, p, q))
def impl_total_n58 : NEnt := ⟨⟨33, [⟨0, .one, [.dat kk0]⟩, ⟨2, .box, cc6⟩, ⟨3, .box, cc0⟩, ⟨11, .one, [.dat kk0]⟩, ⟨12, .one, [.dat kI]⟩, ⟨13, .one, [.dat kI]⟩]⟩, [(.exit 0, ⟨33, [⟨0, .one, [.dat kk0]⟩, ⟨2, .box, cc6⟩, ⟨3, .box, cc0⟩]⟩)], lp impl_total_s58⟩
def impl_total : List t24 → Option t24
  | a => chk (decide (0 < a.length)) ((some (List.getD a 0 (0, 0, [], 0, 0, 0, 0, [], [], []))).bind fun (b, c, d, e, f, g, h, i, j, k) => (impl_copyEntry (b, c, d, e, f, g, h, i, j, k)).bind fun (l, m, n, o, p, q, r, s, t, u) => chk (decide ((1 ≤ a.length) ∧ (a.length ≤ a.length))) ((some (ln (List.drop 1 a))).bind fun v => (lp impl_total_s58 (a, (0, 0, (), 0, 0, 0, 0, (), (), ()), (l, m, n, o, p, q, r, s, t, u), List.drop 1 a, v, 0)).bind fun (w, (x, y, _, z, a1, b1, c1, _, _, _), d1, e1, f1, g1, h1, i1, j1, k1, l1, m1) => (impl_idsOf w).bind fun n1 => some (d1, e1, n1, g1, h1, i1, j1, k1, l1, m1)))
def impl_total_e : FEnt := ⟨31, [.cell 2 true 10], [], [(.one, [.dat kk0])], ⟨33, [⟨2, .box, cc0⟩]⟩, impl_total⟩
theorem impl_total_ok : FnOk Tryz.prog 33 impl_total_e := fnOk_mk (tb := [(58, impl_total_n58)]) (c := (Tryz.f33.body).getD .skip) mixed Tryz.func33 (bC impl_copyEntry_ok (bC impl_Merge_ok (bC impl_idsOf_ok bN))) (by kernel_rfl) (by kernel_rfl) (by kernel_rfl) ⟨nodeLoop (by kernel_rfl) impl_total_s58 (by kernel_rfl) (by intro d; kernel_rfl), trivial⟩ (by intro d; kernel_rfl)


/-! impl.sums -/
def impl_sums_s3730 : t33 → Option (t33 ⊕ t32)
  | (a, b, c, d) => bif decide (d ≤ 20) then (impl_of (a, c, d)).bind fun e => (some (decide ((ln e) > 0))).bind fun f => bif f then (impl_total e).bind fun (g, h, i, j, k, l, m, n, o, p) => (some [(g, h, i, j, k, l, m, n, o, p)]).bind fun q => chk (fits (b.length + q.length) 144) ((some (b ++ q)).bind fun r => some (.inl (a, r, c, w64 (d + 1)))) else some (.inl (a, b, c, w64 (d + 1))) else some (.inr (a, b, c))
def impl_sums_n3730 : NEnt := ⟨⟨30, [⟨0, .one, [.dat kk0]⟩, ⟨3, .one, [.own true kk1]⟩, ⟨4, .one, [.dat kI]⟩, ⟨5, .one, [.dat kI]⟩]⟩, [(.exit 2, ⟨30, [⟨0, .one, [.dat kk0]⟩, ⟨3, .one, [.own true kk1]⟩, ⟨4, .one, [.dat kI]⟩]⟩)], lp impl_sums_s3730⟩
def impl_sums_s58 : t32 → Option (t32 ⊕ List t24)
  | (a, b, c) => bif decide (c ≤ 4) then (lp impl_sums_s3730 (a, b, c, 0)).bind fun (d, e, f) => some (.inl (d, e, w64 (f + 1))) else some (.inr b)
def impl_sums_n58 : NEnt := ⟨⟨30, [⟨0, .one, [.dat kk0]⟩, ⟨3, .one, [.own true kk1]⟩, ⟨4, .one, [.dat kI]⟩]⟩, [(.exit 0, ⟨30, [⟨3, .one, [.own true kk1]⟩]⟩)], lp impl_sums_s58⟩
def impl_sums : List t24 → Option (List t24)
  | a => (lp impl_sums_s58 (a, [], 0)).bind fun b => some b
def impl_sums_e : FEnt := ⟨28, [.tmp 2], [], [(.one, [.dat kk0])], ⟨30, [⟨2, .one, [.own true kk1]⟩]⟩, impl_sums⟩
theorem impl_sums_ok : FnOk Tryz.prog 19 impl_sums_e := fnOk_mk (tb := [(3730, impl_sums_n3730), (58, impl_sums_n58)]) (c := (Tryz.f19.body).getD .skip) mixed Tryz.func19 (bC impl_of_ok (bC impl_total_ok bN)) (by kernel_rfl) (by kernel_rfl) (by kernel_rfl) ⟨nodeLoop (by kernel_rfl) impl_sums_s3730 (by kernel_rfl) (by intro d; kernel_rfl), nodeLoop (by kernel_rfl) impl_sums_s58 (by kernel_rfl) (by intro d; kernel_rfl), trivial⟩ (by intro d; kernel_rfl)


/-! impl.RowSum -/
def impl_RowSum : List t24 → Option (List t24)
  | a => (impl_RowOk a).bind fun b => bif !b then some [] else (impl_sums a).bind fun c => some c
def impl_RowSum_e : FEnt := ⟨9, [.tmp 2], [], [(.agg, [.dat kk0])], ⟨11, [⟨2, .one, [.own true kk1]⟩]⟩, impl_RowSum⟩
theorem impl_RowSum_ok : FnOk Tryz.prog 9 impl_RowSum_e := fnOk_mk (tb := []) (c := (Tryz.f9.body).getD .skip) mixed Tryz.func9 (bC impl_RowOk_ok (bC impl_sums_ok bN)) (by kernel_rfl) (by kernel_rfl) (by kernel_rfl) trivial (by intro d; kernel_rfl)


/-! impl.Span] -/
def impl_SpEq__s58 : t16 → Option (t16 ⊕ Bool ⊕ Unit)
  | (a, b, c, d) => bif decide (d < c) then ix d a.length ((some (gx a d (0, 0))).bind fun (e, f) => ix d b.length ((some (gx b d (0, 0))).bind fun (g, h) => bif !((e == g) && ((f == h) && true)) then some (.inr (.inl false)) else some (.inl (a, b, c, w64 (d + 1))))) else some (.inr (.inr ()))
def impl_SpEq__n58 : NEnt := ⟨⟨30, [⟨0, .one, [.dat kk2]⟩, ⟨1, .one, [.dat kk2]⟩, ⟨12, .one, [.dat kI]⟩, ⟨13, .one, [.dat kI]⟩]⟩, [(.ret, ⟨30, [⟨4, .one, [.dat .bool]⟩]⟩), (.exit 0, ⟨30, []⟩)], lp impl_SpEq__s58⟩
def impl_SpEq_ : t9 → Option Bool
  | (a, b) => bif (ln a) != (ln b) then some false else bx (lp impl_SpEq__s58 (a, b, ln a, 0)) (fun c => some c) fun _ => some true
def impl_SpEq__e : FEnt := ⟨26, [.tmp 4], [], [(.one, [.dat kk2]), (.one, [.dat kk2])], ⟨30, [⟨4, .one, [.dat .bool]⟩]⟩, impl_SpEq_⟩
theorem impl_SpEq__ok : FnOk Tryz.prog 21 impl_SpEq__e := fnOk_mk (tb := [(58, impl_SpEq__n58)]) (c := (Tryz.f21.body).getD .skip) mixed Tryz.func21 bN (by kernel_rfl) (by kernel_rfl) (by kernel_rfl) ⟨nodeLoop (by kernel_rfl) impl_SpEq__s58 (by kernel_rfl) (by intro d; kernel_rfl), trivial⟩ (by intro d; kernel_rfl)


/-! slices.Equal[[]int,int] -/
def slices_Equal___int_int__s58 : t8 → Option (t8 ⊕ Bool ⊕ Unit)
  | (a, b, c, d) => bif decide (d < c) then ix d a.length (ix d b.length (bif (gx a d 0) != (gx b d 0) then some (.inr (.inl false)) else some (.inl (a, b, c, w64 (d + 1))))) else some (.inr (.inr ()))
def slices_Equal___int_int__n58 : NEnt := ⟨⟨30, [⟨0, .one, [.dat (.list kI)]⟩, ⟨1, .one, [.dat (.list kI)]⟩, ⟨12, .one, [.dat kI]⟩, ⟨13, .one, [.dat kI]⟩]⟩, [(.ret, ⟨30, [⟨4, .one, [.dat .bool]⟩]⟩), (.exit 0, ⟨30, []⟩)], lp slices_Equal___int_int__s58⟩
def slices_Equal___int_int_ : List Int × List Int → Option Bool
  | (a, b) => bif (ln a) != (ln b) then some false else bx (lp slices_Equal___int_int__s58 (a, b, ln a, 0)) (fun c => some c) fun _ => some true
def slices_Equal___int_int__e : FEnt := ⟨26, [.tmp 4], [], [(.one, [.dat (.list kI)]), (.one, [.dat (.list kI)])], ⟨30, [⟨4, .one, [.dat .bool]⟩]⟩, slices_Equal___int_int_⟩
theorem slices_Equal___int_int__ok : FnOk Tryz.prog 34 slices_Equal___int_int__e := fnOk_mk (tb := [(58, slices_Equal___int_int__n58)]) (c := (Tryz.f34.body).getD .skip) mixed Tryz.func34 bN (by kernel_rfl) (by kernel_rfl) (by kernel_rfl) ⟨nodeLoop (by kernel_rfl) slices_Equal___int_int__s58 (by kernel_rfl) (by intro d; kernel_rfl), trivial⟩ (by intro d; kernel_rfl)


/-! slices.EqualFunc[[][]int,[][]int,[]int,[]int] -/
def slices_EqualFunc_____int_____int___int___int__s58 : List (List Int) × Unit × t5 → Option (List (List Int) × Unit × t5 ⊕ Bool ⊕ Unit)
  | (a, _, b, c, d) => bif decide (d < c) then ix d b.length (ix d a.length ((slices_Equal___int_int_ (gx b d [], gx a d [])).bind fun e => bif !e then some (.inr (.inl false)) else some (.inl (a, (), b, c, w64 (d + 1))))) else some (.inr (.inr ()))
def slices_EqualFunc_____int_____int___int___int__n58 : NEnt := ⟨⟨38, [⟨1, .one, [.dat kk3]⟩, ⟨2, .one, [.fn 34 []]⟩, ⟨15, .one, [.dat kk3]⟩, ⟨16, .one, [.dat kI]⟩, ⟨17, .one, [.dat kI]⟩]⟩, [(.ret, ⟨38, [⟨6, .one, [.dat .bool]⟩]⟩), (.exit 0, ⟨38, []⟩)], lp slices_EqualFunc_____int_____int___int___int__s58⟩
def slices_EqualFunc_____int_____int___int___int_ : List (List Int) × List (List Int) × Unit → Option Bool
  | (a, b, _) => bif (ln a) != (ln b) then some false else bx (lp slices_EqualFunc_____int_____int___int___int__s58 (b, (), a, ln a, 0)) (fun c => some c) fun _ => some true
def slices_EqualFunc_____int_____int___int___int__e : FEnt := ⟨32, [.tmp 6], [], [(.one, [.dat kk3]), (.one, [.dat kk3]), (.one, [.fn 34 []])], ⟨38, [⟨6, .one, [.dat .bool]⟩]⟩, slices_EqualFunc_____int_____int___int___int_⟩
theorem slices_EqualFunc_____int_____int___int___int__ok : FnOk Tryz.prog 35 slices_EqualFunc_____int_____int___int___int__e := fnOk_mk (tb := [(58, slices_EqualFunc_____int_____int___int___int__n58)]) (c := (Tryz.f35.body).getD .skip) mixed Tryz.func35 (bC slices_Equal___int_int__ok bN) (by kernel_rfl) (by kernel_rfl) (by kernel_rfl) ⟨nodeLoop (by kernel_rfl) slices_EqualFunc_____int_____int___int___int__s58 (by kernel_rfl) (by intro d; kernel_rfl), trivial⟩ (by intro d; kernel_rfl)


/-! impl.SketchSame -/
def impl_SketchSame : t19 × t19 → Option Bool
  | ((a, b, c, d, e, f, g), h, i, j, k, l, m, n) => bif a == h then bif b == i then bif c == j then bif d == k then (slices_Equal___int_int_ (e, l)).bind fun o => bif o then (slices_Equal___int_int_ (f, m)).bind fun p => bif p then (slices_EqualFunc_____int_____int___int___int_ (g, n, ())).bind fun q => some q else some false else some false else some false else some false else some false else some false
def impl_SketchSame_e : FEnt := ⟨52, [.tmp 4], [], [(.agg, cc4), (.agg, cc4)], ⟨56, [⟨4, .one, [.dat .bool]⟩]⟩, impl_SketchSame⟩
theorem impl_SketchSame_ok : FnOk Tryz.prog 22 impl_SketchSame_e := fnOk_mk (tb := []) (c := (Tryz.f22.body).getD .skip) mixed Tryz.func22 (bC slices_Equal___int_int__ok (bC slices_EqualFunc_____int_____int___int___int__ok bN)) (by kernel_rfl) (by kernel_rfl) (by kernel_rfl) trivial (by intro d; kernel_rfl)


/-! impl.EntrySame -/
def impl_EntrySame : t24 × t24 → Option Bool
  | ((a, b, c, d, e, f, g, h, i, j), k, l, m, n, o, p, q, r, s, t) => bif a == k then bif b == l then (impl_SpEq_ (c, m)).bind fun u => bif u then (impl_SketchSame ((d, e, f, g, h, i, j), n, o, p, q, r, s, t)).bind fun v => some v else some false else some false else some false
def impl_EntrySame_e : FEnt := ⟨31, [.tmp 4], [], [(.agg, cc2), (.agg, cc2)], ⟨35, [⟨4, .one, [.dat .bool]⟩]⟩, impl_EntrySame⟩
theorem impl_EntrySame_ok : FnOk Tryz.prog 11 impl_EntrySame_e := fnOk_mk (tb := []) (c := (Tryz.f11.body).getD .skip) mixed Tryz.func11 (bC impl_SpEq__ok (bC impl_SketchSame_ok bN)) (by kernel_rfl) (by kernel_rfl) (by kernel_rfl) trivial (by intro d; kernel_rfl)


/-! impl.Entry] -/
def impl_EnEq__s58 : List t24 × Unit × t27 → Option (List t24 × Unit × t27 ⊕ Bool ⊕ Unit)
  | (a, _, b, c, d) => bif decide (d < c) then ix d b.length ((some (gx b d (0, 0, [], 0, 0, 0, 0, [], [], []))).bind fun (e, f, g, h, i, j, k, l, m, n) => ix d a.length ((some (gx a d (0, 0, [], 0, 0, 0, 0, [], [], []))).bind fun (o, p, q, r, s, t, u, v, w, x) => (impl_EntrySame ((e, f, g, h, i, j, k, l, m, n), o, p, q, r, s, t, u, v, w, x)).bind fun y => bif !y then some (.inr (.inl false)) else some (.inl (a, (), b, c, w64 (d + 1))))) else some (.inr (.inr ()))
def impl_EnEq__n58 : NEnt := ⟨⟨38, [⟨1, .one, [.dat kk0]⟩, ⟨2, .one, [.fn 11 []]⟩, ⟨15, .one, [.dat kk0]⟩, ⟨16, .one, [.dat kI]⟩, ⟨17, .one, [.dat kI]⟩]⟩, [(.ret, ⟨38, [⟨6, .one, [.dat .bool]⟩]⟩), (.exit 0, ⟨38, []⟩)], lp impl_EnEq__s58⟩
def impl_EnEq_ : List t24 × List t24 × Unit → Option Bool
  | (a, b, _) => (some ((ln a) != (ln b))).bind fun c => bif c then some false else bx (lp impl_EnEq__s58 (b, (), a, ln a, 0)) (fun d => some d) fun _ => some true
def impl_EnEq__e : FEnt := ⟨32, [.tmp 6], [], [(.one, [.dat kk0]), (.one, [.dat kk0]), (.one, [.fn 11 []])], ⟨38, [⟨6, .one, [.dat .bool]⟩]⟩, impl_EnEq_⟩
theorem impl_EnEq__ok : FnOk Tryz.prog 20 impl_EnEq__e := fnOk_mk (tb := [(58, impl_EnEq__n58)]) (c := (Tryz.f20.body).getD .skip) mixed Tryz.func20 (bC impl_EntrySame_ok bN) (by kernel_rfl) (by kernel_rfl) (by kernel_rfl) ⟨nodeLoop (by kernel_rfl) impl_EnEq__s58 (by kernel_rfl) (by intro d; kernel_rfl), trivial⟩ (by intro d; kernel_rfl)


/-! impl.TotalSame -/
def impl_TotalSame : t31 → Option Bool
  | (a, b) => (impl_EnEq_ (a, b, ())).bind fun c => some c
def impl_TotalSame_e : FEnt := ⟨8, [.tmp 4], [], [(.one, [.dat kk0]), (.one, [.dat kk0])], ⟨12, [⟨4, .one, [.dat .bool]⟩]⟩, impl_TotalSame⟩
theorem impl_TotalSame_ok : FnOk Tryz.prog 10 impl_TotalSame_e := fnOk_mk (tb := []) (c := (Tryz.f10.body).getD .skip) mixed Tryz.func10 (bC impl_EnEq__ok bN) (by kernel_rfl) (by kernel_rfl) (by kernel_rfl) trivial (by intro d; kernel_rfl)


/-! laws.FnPopped -/
def laws_FnPopped_s8186 : List t24 × t24 × t32 → Option (List t24 × t24 × t32 ⊕ Bool ⊕ List t24 × t24 × t31)
  | (a, (b, c, d, e, f, g, h, i, j, k), l, m, n) => (some (decide (n < (ln a)))).bind fun o => bif o then (impl_RowPop m).bind fun ((p, q, r, s, t, u, v, w, x, y), z, a1) => bif !a1 then some (.inr (.inl false)) else (some [(p, q, r, s, t, u, v, w, x, y)]).bind fun b1 => chk (fits (l.length + b1.length) 144) ((some (l ++ b1)).bind fun c1 => some (.inl (a, (b, c, d, e, f, g, h, i, j, k), c1, z, w64 (n + 1)))) else some (.inr (.inr (a, (b, c, d, e, f, g, h, i, j, k), l, m)))
def laws_FnPopped_n8186 : NEnt := ⟨⟨111, [⟨3, .box, [.dat kk0]⟩, ⟨4, .box, cc2⟩, ⟨10, .one, [.own false kk1]⟩, ⟨11, .box, [.dat kk0]⟩, ⟨12, .one, [.dat kI]⟩]⟩, [(.ret, ⟨111, [⟨2, .one, [.dat .bool]⟩]⟩), (.exit 0, ⟨111, [⟨3, .box, [.dat kk0]⟩, ⟨4, .box, cc2⟩, ⟨10, .one, [.own false kk1]⟩, ⟨11, .box, [.dat kk0]⟩]⟩)], lp laws_FnPopped_s8186⟩
def laws_FnPopped : List Int → Option Bool
  | a => (laws_big a).bind fun b => bif b then some true else (spec_DrawRowPop a).bind fun c => (impl_RowPop c).bind fun ((d, e, f, g, h, i, j, k, l, m), n, o) => (spec_RowPop c).bind fun ((p, q, r, s, t, u, v, w, x, y), z, a1) => bif !(o == a1) then some false else bif !o then bif (ln f) == 0 then (spec_RowSame (n, c)).bind fun b1 => some b1 else some false else bx (lp laws_FnPopped_s8186 (c, (d, e, f, g, h, i, j, k, l, m), [], c, 0)) (fun b1 => some b1) fun (b1, (c1, d1, e1, f1, g1, h1, i1, j1, k1, l1), m1, n1) => (impl_RowPop n1).bind fun ((o1, p1, q1, r1, s1, t1, u1, v1, w1, x1), y1, z1) => (impl_RowSum m1).bind fun a2 => bif !z1 then bif (ln n1) == 0 then (spec_RowSame (m1, b1)).bind fun b2 => bif b2 then (impl_RowSum b1).bind fun c2 => (impl_TotalSame (a2, c2)).bind fun d2 => bif d2 then chk (decide (0 < b1.length)) ((some (List.getD b1 0 (0, 0, [], 0, 0, 0, 0, [], [], []))).bind fun (e2, f2, g2, h2, i2, j2, k2, l2, m2, n2) => (impl_EntrySame ((c1, d1, e1, f1, g1, h1, i1, j1, k1, l1), e2, f2, g2, h2, i2, j2, k2, l2, m2, n2)).bind fun o2 => some o2) else some false else some false else some false else some false
def laws_FnPopped_e : FEnt := ⟨109, [.tmp 2], [], [(.one, [.dat (.list kB)])], ⟨111, [⟨2, .one, [.dat .bool]⟩]⟩, laws_FnPopped⟩
theorem laws_FnPopped_ok : FnOk Tryz.prog 3 laws_FnPopped_e := fnOk_mk (tb := [(8186, laws_FnPopped_n8186)]) (c := (Tryz.f3.body).getD .skip) mixed Tryz.func3 (bC laws_big_ok (bC spec_DrawRowPop_ok (bC impl_RowPop_ok (bC spec_RowPop_ok (bC spec_RowSame_ok (bC impl_RowSum_ok (bC impl_TotalSame_ok (bC impl_EntrySame_ok bN)))))))) (by kernel_rfl) (by kernel_rfl) (by kernel_rfl) ⟨nodeLoop (by kernel_rfl) laws_FnPopped_s8186 (by kernel_rfl) (by intro d; kernel_rfl), trivial⟩ (by intro d; kernel_rfl)

end Go.Proofs.YthchcnfkgjmabaaGreat.Tw
