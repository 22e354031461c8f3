/- Printed by print.lean: typed twins of functions and their proofs. No condition. -/
import Derived.Test.YtllbngjomgabjaaV
import Derived.Test.YtllbngjomgabjaaProg
import Derived.KernelRfl
namespace Go.Proofs.Ytllbngjomgabjaa.Tw
open Go.Mach
set_option linter.unusedVariables false
set_option maxRecDepth 100000
abbrev kI : K := .int .i64
abbrev kB : K := .int .u8
instance tabs : Tabs Try.prog := ⟨[]⟩
abbrev t0 : Type := Int × List Int × Int × Int
abbrev t1 : Type := List Int × Int × Int × Int
abbrev t2 : Type := List (List Int) × Int × Int
abbrev t3 : Type := Int × Int × Bool × List Int
abbrev t4 : Type := (Int × Bool × List Int) × Int
abbrev t5 : Type := List Int × List Int × Int × Int
abbrev t6 : Type := List Int × Int × List Int × Int
abbrev t7 : Type := (Unit × Unit × Nat) × List Int × Int
abbrev t8 : Type := List (List Int) × List Int × Int × Int
abbrev t9 : Type := (Int × Bool × Unit) × Int × Bool × List Int
abbrev t10 : Type := List (List Int) × t6
abbrev t11 : Type := List (List Int) × t5
abbrev t12 : Type := List Int × Int × t9
abbrev t13 : Type := List Int × Int × List Int × Int × t7
abbrev t14 : Type := List Int × t12
abbrev kk0 : K := (.list (.list kI))
abbrev cc0 : List PC := [.dat kI, .dat .bool, .dat (.list kI)]
abbrev cc1 : List PC := [.dat (.list kB), .dat kI, .dat kI]
abbrev cc2 : List PC := [.dat kI, .dat .bool, .own true kI]
abbrev cc3 : List PC := [.dat kI, .dat .bool, .nil]
abbrev cc4 : List PC := [.ref 7 0 [] false true kI]
abbrev cc5 : List PC := [.own false (.list kI)]
abbrev cc6 : List PC := [.own true (.list kI)]
theorem mixed : Try.prog.follows .mixedOrders = true := by kernel_rfl

/-! laws.big -/
def laws_big : List Int → Option Bool
  | a => some (decide ((ln a) > 1048576))
def laws_big_e : FEnt := ⟨6, [.tmp 2], [], [(.one, [.dat (.list kB)])], ⟨8, [⟨2, .one, [.dat .bool]⟩]⟩, laws_big⟩
theorem laws_big_ok : FnOk Try.prog 5 laws_big_e := fnOk_mk (tb := []) (c := (Try.f5.body).getD .skip) mixed Try.func5 bN (by kernel_rfl) (by kernel_rfl) (by kernel_rfl) trivial (by intro d; kernel_rfl)


/-! spec.l1New -/
def spec_l1New_s58 : List Int × Int × Int → Option (List Int × Int × Int ⊕ List Int × Int)
  | (a, b, c) => bif decide (c < (ln a)) then bif decide (c < 4000) then ix c a.length ((some (w64 ((w64 ((w64 (b * 131)) + (w64 (gx a c 0)))) + 7))).bind fun d => (some (w64 (Int.ofNat (BitVec.toNat (BitVec.ofInt (64 : Nat) d &&& BitVec.ofInt (64 : Nat) (1073741823 : Int)))))).bind fun e => some (.inl (a, e, w64 (c + 1)))) else some (.inr (a, b)) else some (.inr (a, b))
def spec_l1New_n58 : NEnt := ⟨⟨34, [⟨0, .one, [.dat (.list kB)]⟩, ⟨3, .one, [.dat kI]⟩, ⟨4, .one, [.dat kI]⟩]⟩, [(.exit 0, ⟨34, [⟨0, .one, [.dat (.list kB)]⟩, ⟨3, .one, [.dat kI]⟩]⟩)], lp spec_l1New_s58⟩
def spec_l1New : List Int → Option (Unit × List Int × Int × Int)
  | a => (lp spec_l1New_s58 (a, w64 (26583 + (ln a)), 0)).bind fun (b, c) => some ((), b, 0, c)
def spec_l1New_e : FEnt := ⟨32, [.tmp 2], [], [(.one, [.dat (.list kB)])], ⟨34, [⟨2, .one, [.bptr 31 0]⟩, ⟨31, .box, cc1⟩]⟩, spec_l1New⟩
theorem spec_l1New_ok : FnOk Try.prog 26 spec_l1New_e := fnOk_mk (tb := [(58, spec_l1New_n58)]) (c := (Try.f26.body).getD .skip) mixed Try.func26 bN (by kernel_rfl) (by kernel_rfl) (by kernel_rfl) ⟨nodeLoop (by kernel_rfl) spec_l1New_s58 (by kernel_rfl) (by intro d; kernel_rfl), trivial⟩ (by intro d; kernel_rfl)


/-! spec.l1Byte -/
def spec_l1Byte : List Int × Int × Int → Option t0
  | (a, b, c) => (some (Int.fdiv (w64 ((w64 (c * 6364136223846793005)) + 1442695040888963407)) ((2 : Int) ^ (33 : Nat)))).bind fun d => (some (Int.fdiv (w64 ((w64 (c * 6364136223846793005)) + 1442695040888963407)) ((2 : Int) ^ (45 : Nat)))).bind fun e => (some (w64 (Int.ofNat (BitVec.toNat (BitVec.ofInt (64 : Nat) (IntKind.wrap IntKind.i64 (↑(BitVec.toNat (BitVec.ofInt (64 : Nat) d ^^^ BitVec.ofInt (64 : Nat) e)) : Int)) &&& BitVec.ofInt (64 : Nat) (255 : Int)))))).bind fun f => bif decide (b < (ln a)) then ix b a.length ((some (w64 (Int.ofNat (BitVec.toNat (BitVec.ofInt (64 : Nat) (IntKind.wrap IntKind.i64 (f + IntKind.wrap IntKind.i64 (List.getD a (Int.toNat b) (0 : Int)))) &&& BitVec.ofInt (64 : Nat) (255 : Int)))))).bind fun g => some (g, a, w64 (b + 1), w64 ((w64 (c * 6364136223846793005)) + 1442695040888963407))) else some (f, a, b, w64 ((w64 (c * 6364136223846793005)) + 1442695040888963407))
def spec_l1Byte_e : FEnt := ⟨58, [.tmp 2], [true], [(.box, cc1)], ⟨60, [⟨2, .one, [.dat kI]⟩, ⟨59, .box, cc1⟩]⟩, spec_l1Byte⟩
theorem spec_l1Byte_ok : FnOk Try.prog 40 spec_l1Byte_e := fnOk_mk (tb := []) (c := (Try.f40.body).getD .skip) mixed Try.func40 bN (by kernel_rfl) (by kernel_rfl) (by kernel_rfl) trivial (by intro d; kernel_rfl)


/-! spec.l1Below -/
def spec_l1Below : (List Int × Int × Int) × Int → Option t0
  | ((a, b, c), d) => bif decide (d ≤ 0) then some (0, a, b, c) else bif decide (d ≤ 256) then (spec_l1Byte (a, b, c)).bind fun (e, f, g, h) => chk (!(decide (d = 0))) (some (Int.tmod e d, f, g, h)) else (spec_l1Byte (a, b, c)).bind fun (e, f, g, h) => (spec_l1Byte (f, g, h)).bind fun (i, j, k, l) => (spec_l1Byte (j, k, l)).bind fun (m, n, o, p) => (spec_l1Byte (n, o, p)).bind fun (q, r, s, t) => (some (w64 ((w64 ((w64 (e * 16777216)) + (w64 (i * 65536)))) + (w64 (m * 256))))).bind fun u => chk (!(decide (d = 0))) (some (Int.tmod (w64 (u + q)) d, r, s, t))
def spec_l1Below_e : FEnt := ⟨37, [.tmp 4], [true, false], [(.box, cc1), (.one, [.dat kI])], ⟨41, [⟨4, .one, [.dat kI]⟩, ⟨38, .box, cc1⟩]⟩, spec_l1Below⟩
theorem spec_l1Below_ok : FnOk Try.prog 28 spec_l1Below_e := fnOk_mk (tb := []) (c := (Try.f28.body).getD .skip) mixed Try.func28 (bC spec_l1Byte_ok bN) (by kernel_rfl) (by kernel_rfl) (by kernel_rfl) trivial (by intro d; kernel_rfl)


/-! spec.l1PickInt -/
def spec_l1PickInt : (List Int × Int × Int) × List Int → Option t0
  | ((a, b, c), d) => (spec_l1Below ((a, b, c), ln d)).bind fun (e, f, g, h) => ix e d.length (some (gx d e 0, f, g, h))
def spec_l1PickInt_e : FEnt := ⟨12, [.tmp 4], [true, false], [(.box, cc1), (.one, [.dat (.list kI)])], ⟨16, [⟨4, .one, [.dat kI]⟩, ⟨13, .box, cc1⟩]⟩, spec_l1PickInt⟩
theorem spec_l1PickInt_ok : FnOk Try.prog 30 spec_l1PickInt_e := fnOk_mk (tb := []) (c := (Try.f30.body).getD .skip) mixed Try.func30 (bC spec_l1Below_ok bN) (by kernel_rfl) (by kernel_rfl) (by kernel_rfl) trivial (by intro d; kernel_rfl)


/-! spec.l21Loads -/
def spec_l21Loads_s29850 : Unit × List (List Int) × Int × List Int × Int × t0 → Option (Unit × List (List Int) × Int × List Int × Int × t0 ⊕ Unit × List (List Int) × Int × t5)
  | (_, a, b, c, d, e, f, g, h) => bif decide (e < d) then (some [1, 10, 30, 60, 120, 200, 8]).bind fun i => (spec_l1PickInt ((f, g, h), i)).bind fun (j, k, l, m) => chk (fits (c.length + [j].length) 8) (some (.inl ((), a, b, c ++ [j], d, w64 (e + 1), k, l, m))) else some (.inr ((), a, b, c, f, g, h))
def spec_l21Loads_n29850 : NEnt := ⟨⟨52, [⟨0, .one, [.bptr 51 0]⟩, ⟨3, .one, cc6⟩, ⟨4, .one, [.dat kI]⟩, ⟨5, .one, [.own true kI]⟩, ⟨6, .one, [.dat kI]⟩, ⟨7, .one, [.dat kI]⟩, ⟨51, .box, cc1⟩]⟩, [(.exit 2, ⟨52, [⟨0, .one, [.bptr 51 0]⟩, ⟨3, .one, cc6⟩, ⟨4, .one, [.dat kI]⟩, ⟨5, .one, [.own true kI]⟩, ⟨51, .box, cc1⟩]⟩)], lp spec_l21Loads_s29850⟩
def spec_l21Loads_s58 : Unit × List (List Int) × t0 → Option (Unit × List (List Int) × t0 ⊕ Unit × t8)
  | (_, a, b, c, d, e) => bif decide (b < 3) then (spec_l1Below ((c, d, e), 14)).bind fun (f, g, h, i) => (lp spec_l21Loads_s29850 ((), a, b, [], f, 0, g, h, i)).bind fun (_, j, k, l, m, n, o) => chk (fits (j.length + [l].length) 24) (some (.inl ((), j ++ [l], w64 (k + 1), m, n, o))) else some (.inr ((), a, c, d, e))
def spec_l21Loads_n58 : NEnt := ⟨⟨52, [⟨0, .one, [.bptr 51 0]⟩, ⟨3, .one, cc6⟩, ⟨4, .one, [.dat kI]⟩, ⟨51, .box, cc1⟩]⟩, [(.exit 0, ⟨52, [⟨0, .one, [.bptr 51 0]⟩, ⟨3, .one, cc6⟩, ⟨51, .box, cc1⟩]⟩)], lp spec_l21Loads_s58⟩
def spec_l21Loads : List Int × Int × Int → Option t8
  | (a, b, c) => (lp spec_l21Loads_s58 ((), [], 0, a, b, c)).bind fun (_, d, e, f, g) => (spec_l1Below ((e, f, g), 16)).bind fun (h, i, j, k) => bif h == 0 then chk (decide (0 < d.length)) (chk (decide (0 < d.length)) ((spec_l1PickInt ((i, j, k), [0, 201, (-1)])).bind fun (l, m, n, o) => chk (fits ((List.getD d 0 []).length + [l].length) 8) (chk (decide (0 < d.length)) (chk (decide (0 < d.length)) (some (List.set d 0 ((List.getD d 0 []) ++ [l]), m, n, o)))))) else bif h == 1 then chk (decide ((1 ≤ d.length) ∧ (d.length ≤ d.length))) (some (List.drop 1 d, i, j, k)) else some (d, i, j, k)
def spec_l21Loads_e : FEnt := ⟨50, [.tmp 2], [true], [(.box, cc1)], ⟨52, [⟨2, .one, cc5⟩, ⟨51, .box, cc1⟩]⟩, spec_l21Loads⟩
theorem spec_l21Loads_ok : FnOk Try.prog 27 spec_l21Loads_e := fnOk_mk (tb := [(29850, spec_l21Loads_n29850), (58, spec_l21Loads_n58)]) (c := (Try.f27.body).getD .skip) mixed Try.func27 (bC spec_l1Below_ok (bC spec_l1PickInt_ok bN)) (by kernel_rfl) (by kernel_rfl) (by kernel_rfl) ⟨nodeLoop (by kernel_rfl) spec_l21Loads_s29850 (by kernel_rfl) (by intro d; kernel_rfl), nodeLoop (by kernel_rfl) spec_l21Loads_s58 (by kernel_rfl) (by intro d; kernel_rfl), trivial⟩ (by intro d; kernel_rfl)


/-! spec.l1Once -/
def spec_l1Once : (List Int × Int × Int) × Int → Option (Bool × List Int × Int × Int)
  | ((a, b, c), d) => (spec_l1Below ((a, b, c), d)).bind fun (e, f, g, h) => some (e == 0, f, g, h)
def spec_l1Once_e : FEnt := ⟨9, [.tmp 4], [true, false], [(.box, cc1), (.one, [.dat kI])], ⟨13, [⟨4, .one, [.dat .bool]⟩, ⟨10, .box, cc1⟩]⟩, spec_l1Once⟩
theorem spec_l1Once_ok : FnOk Try.prog 29 spec_l1Once_e := fnOk_mk (tb := []) (c := (Try.f29.body).getD .skip) mixed Try.func29 (bC spec_l1Below_ok bN) (by kernel_rfl) (by kernel_rfl) (by kernel_rfl) trivial (by intro d; kernel_rfl)


/-! spec.l21Four -/
def spec_l21Four : List Int → Option t8
  | a => (spec_l1New a).bind fun (_, b, c, d) => (spec_l21Loads (b, c, d)).bind fun (e, f, g, h) => (spec_l1Below ((f, g, h), 4)).bind fun (i, j, k, l) => (spec_l1Below ((j, k, l), 4)).bind fun (m, n, o, p) => (spec_l1Below ((n, o, p), 4)).bind fun (q, r, s, t) => (some [w64 (1 + i), w64 (1 + m), w64 (1 + q)]).bind fun u => (spec_l1Once ((r, s, t), 16)).bind fun (v, w, x, y) => bif v then (spec_l1PickInt ((w, x, y), [0, 5])).bind fun (z, a1, b1, c1) => chk (decide (0 < u.length)) (chk (decide (0 < u.length)) ((some [1, 7, 20, 60, 60, 0, 61]).bind fun d1 => (spec_l1PickInt ((a1, b1, c1), d1)).bind fun (e1, f1, g1, h1) => (some [0, 1, 5, 20, 40, 200, 201, (-1)]).bind fun i1 => (spec_l1PickInt ((f1, g1, h1), i1)).bind fun (j1, k1, l1, m1) => some (e, List.set u 0 z, e1, j1))) else (some [1, 7, 20, 60, 60, 0, 61]).bind fun z => (spec_l1PickInt ((w, x, y), z)).bind fun (a1, b1, c1, d1) => (some [0, 1, 5, 20, 40, 200, 201, (-1)]).bind fun e1 => (spec_l1PickInt ((b1, c1, d1), e1)).bind fun (f1, g1, h1, i1) => some (e, u, a1, f1)
def spec_l21Four_e : FEnt := ⟨38, [.tmp 2, .tmp 3, .tmp 4, .tmp 5], [], [(.one, [.dat (.list kB)])], ⟨40, [⟨2, .one, cc5⟩, ⟨3, .one, [.own true kI]⟩, ⟨4, .one, [.dat kI]⟩, ⟨5, .one, [.dat kI]⟩]⟩, spec_l21Four⟩
theorem spec_l21Four_ok : FnOk Try.prog 14 spec_l21Four_e := fnOk_mk (tb := []) (c := (Try.f14.body).getD .skip) mixed Try.func14 (bC spec_l1New_ok (bC spec_l21Loads_ok (bC spec_l1Below_ok (bC spec_l1Once_ok (bC spec_l1PickInt_ok bN))))) (by kernel_rfl) (by kernel_rfl) (by kernel_rfl) trivial (by intro d; kernel_rfl)


/-! spec.DrawHand -/
def spec_DrawHand : List Int → Option t8
  | a => (spec_l21Four a).bind fun (b, c, d, e) => some (b, c, d, e)
def spec_DrawHand_e : FEnt := ⟨12, [.tmp 2, .tmp 3, .tmp 4, .tmp 5], [], [(.one, [.dat (.list kB)])], ⟨14, [⟨2, .one, cc5⟩, ⟨3, .one, [.own true kI]⟩, ⟨4, .one, [.dat kI]⟩, ⟨5, .one, [.dat kI]⟩]⟩, spec_DrawHand⟩
theorem spec_DrawHand_ok : FnOk Try.prog 6 spec_DrawHand_e := fnOk_mk (tb := []) (c := (Try.f6.body).getD .skip) mixed Try.func6 (bC spec_l21Four_ok bN) (by kernel_rfl) (by kernel_rfl) (by kernel_rfl) trivial (by intro d; kernel_rfl)


/-! impl.within -/
def impl_within : Int × Int × Int → Option Bool
  | (a, b, c) => bif decide (a ≥ b) then some (decide (a ≤ c)) else some false
def impl_within_e : FEnt := ⟨15, [.tmp 6], [], [(.one, [.dat kI]), (.one, [.dat kI]), (.one, [.dat kI])], ⟨21, [⟨6, .one, [.dat .bool]⟩]⟩, impl_within⟩
theorem impl_within_ok : FnOk Try.prog 17 impl_within_e := fnOk_mk (tb := []) (c := (Try.f17.body).getD .skip) mixed Try.func17 bN (by kernel_rfl) (by kernel_rfl) (by kernel_rfl) trivial (by intro d; kernel_rfl)


/-! impl.allWithin -/
def impl_allWithin_s26 : List Int × Int × Int × t0 → Option (List Int × Int × Int × t0 ⊕ Bool ⊕ List Int × Int)
  | (a, b, c, d, e, f, g) => bif decide (g < f) then ix g e.length ((impl_within (gx e g 0, c, d)).bind fun h => bif !h then some (.inr (.inl false)) else some (.inl (a, b, c, d, e, f, w64 (g + 1)))) else some (.inr (.inr (a, b)))
def impl_allWithin_n26 : NEnt := ⟨⟨35, [⟨0, .one, [.dat (.list kI)]⟩, ⟨1, .one, [.dat kI]⟩, ⟨2, .one, [.dat kI]⟩, ⟨3, .one, [.dat kI]⟩, ⟨11, .one, [.dat (.list kI)]⟩, ⟨12, .one, [.dat kI]⟩, ⟨13, .one, [.dat kI]⟩]⟩, [(.ret, ⟨35, [⟨8, .one, [.dat .bool]⟩]⟩), (.exit 0, ⟨35, [⟨0, .one, [.dat (.list kI)]⟩, ⟨1, .one, [.dat kI]⟩]⟩)], lp impl_allWithin_s26⟩
def impl_allWithin : t1 → Option Bool
  | (a, b, c, d) => bx (lp impl_allWithin_s26 (a, b, c, d, a, ln a, 0)) (fun e => some e) fun (e, f) => some ((ln e) == f)
def impl_allWithin_e : FEnt := ⟨27, [.tmp 8], [], [(.one, [.dat (.list kI)]), (.one, [.dat kI]), (.one, [.dat kI]), (.one, [.dat kI])], ⟨35, [⟨8, .one, [.dat .bool]⟩]⟩, impl_allWithin⟩
theorem impl_allWithin_ok : FnOk Try.prog 16 impl_allWithin_e := fnOk_mk (tb := [(26, impl_allWithin_n26)]) (c := (Try.f16.body).getD .skip) mixed Try.func16 (bC impl_within_ok bN) (by kernel_rfl) (by kernel_rfl) (by kernel_rfl) ⟨nodeLoop (by kernel_rfl) impl_allWithin_s26 (by kernel_rfl) (by intro d; kernel_rfl), trivial⟩ (by intro d; kernel_rfl)


/-! impl.loadsOk -/
def impl_loadsOk_s26 : List (List Int) × t2 → Option (List (List Int) × t2 ⊕ Bool ⊕ List (List Int))
  | (a, b, c, d) => bif decide (d < c) then ix d b.length (bif decide ((ln (gx b d [])) > 40) then some (.inr (.inl false)) else (impl_allWithin (gx b d [], ln (gx b d []), 1, 200)).bind fun e => bif !e then some (.inr (.inl false)) else some (.inl (a, b, c, w64 (d + 1)))) else some (.inr (.inr a))
def impl_loadsOk_n26 : NEnt := ⟨⟨27, [⟨0, .one, [.dat kk0]⟩, ⟨5, .one, [.dat kk0]⟩, ⟨6, .one, [.dat kI]⟩, ⟨7, .one, [.dat kI]⟩]⟩, [(.ret, ⟨27, [⟨2, .one, [.dat .bool]⟩]⟩), (.exit 0, ⟨27, [⟨0, .one, [.dat kk0]⟩]⟩)], lp impl_loadsOk_s26⟩
def impl_loadsOk : List (List Int) → Option Bool
  | a => bx (lp impl_loadsOk_s26 (a, a, ln a, 0)) (fun b => some b) fun b => some ((ln b) == 3)
def impl_loadsOk_e : FEnt := ⟨25, [.tmp 2], [], [(.one, [.dat kk0])], ⟨27, [⟨2, .one, [.dat .bool]⟩]⟩, impl_loadsOk⟩
theorem impl_loadsOk_ok : FnOk Try.prog 15 impl_loadsOk_e := fnOk_mk (tb := [(26, impl_loadsOk_n26)]) (c := (Try.f15.body).getD .skip) mixed Try.func15 (bC impl_allWithin_ok bN) (by kernel_rfl) (by kernel_rfl) (by kernel_rfl) ⟨nodeLoop (by kernel_rfl) impl_loadsOk_s26 (by kernel_rfl) (by intro d; kernel_rfl), trivial⟩ (by intro d; kernel_rfl)


/-! impl.TurnNew -/
def impl_TurnNew : Unit → Option (Int × Bool × List Int)
  | _ => some (0, true, List.replicate 3 0)
def impl_TurnNew_e : FEnt := ⟨3, [.cell 0 true 3], [], [], ⟨3, [⟨0, .box, cc2⟩]⟩, impl_TurnNew⟩
theorem impl_TurnNew_ok : FnOk Try.prog 18 impl_TurnNew_e := fnOk_mk (tb := []) (c := (Try.f18.body).getD .skip) mixed Try.func18 bN (by kernel_rfl) (by kernel_rfl) (by kernel_rfl) trivial (by intro d; kernel_rfl)


/-! impl.limited -/
def impl_limited : Int × Int × Int → Option Int
  | (a, b, c) => some (if c < if b > a then b else a then c else if b > a then b else a)
def impl_limited_e : FEnt := ⟨12, [.tmp 6], [], [(.one, [.dat kI]), (.one, [.dat kI]), (.one, [.dat kI])], ⟨18, [⟨6, .one, [.dat kI]⟩]⟩, impl_limited⟩
theorem impl_limited_ok : FnOk Try.prog 19 impl_limited_e := fnOk_mk (tb := []) (c := (Try.f19.body).getD .skip) mixed Try.func19 bN (by kernel_rfl) (by kernel_rfl) (by kernel_rfl) trivial (by intro d; kernel_rfl)


/-! impl.copyInts -/
def impl_copyInts : List Int → Option (List Int)
  | a => chk (fits a.length 8) (some a)
def impl_copyInts_e : FEnt := ⟨5, [.tmp 2], [], [(.one, [.dat (.list kI)])], ⟨7, [⟨2, .one, [.own true kI]⟩]⟩, impl_copyInts⟩
theorem impl_copyInts_ok : FnOk Try.prog 41 impl_copyInts_e := fnOk_mk (tb := []) (c := (Try.f41.body).getD .skip) mixed Try.func41 bN (by kernel_rfl) (by kernel_rfl) (by kernel_rfl) trivial (by intro d; kernel_rfl)


/-! impl.copyTurn -/
def impl_copyTurn : Int × Bool × List Int → Option (Int × Bool × List Int)
  | (a, b, c) => (impl_copyInts c).bind fun d => some (a, b, d)
def impl_copyTurn_e : FEnt := ⟨8, [.cell 2 true 3], [], [(.agg, cc0)], ⟨10, [⟨2, .box, cc2⟩]⟩, impl_copyTurn⟩
theorem impl_copyTurn_ok : FnOk Try.prog 31 impl_copyTurn_e := fnOk_mk (tb := []) (c := (Try.f31.body).getD .skip) mixed Try.func31 (bC impl_copyInts_ok bN) (by kernel_rfl) (by kernel_rfl) (by kernel_rfl) trivial (by intro d; kernel_rfl)


/-! impl.TurnOk -/
def impl_TurnOk : Int × Bool × List Int → Option Bool
  | (a, b, c) => (impl_within (a, 0, 2)).bind fun d => bif d then (impl_allWithin (c, 3, 0, 1000)).bind fun e => some e else some false
def impl_TurnOk_e : FEnt := ⟨11, [.tmp 2], [], [(.agg, cc0)], ⟨13, [⟨2, .one, [.dat .bool]⟩]⟩, impl_TurnOk⟩
theorem impl_TurnOk_ok : FnOk Try.prog 32 impl_TurnOk_e := fnOk_mk (tb := []) (c := (Try.f32.body).getD .skip) mixed Try.func32 (bC impl_within_ok (bC impl_allWithin_ok bN)) (by kernel_rfl) (by kernel_rfl) (by kernel_rfl) trivial (by intro d; kernel_rfl)


/-! slices.Max[[]int,int] -/
def slices_Max___int_int__s122 : List Int × Int × Int → Option (List Int × Int × Int ⊕ Int)
  | (a, b, c) => bif decide (c < (ln a)) then ix c a.length (some (.inl (a, if List.getD a (Int.toNat c) (0 : Int) > b then List.getD a (Int.toNat c) (0 : Int) else b, w64 (c + 1)))) else some (.inr b)
def slices_Max___int_int__n122 : NEnt := ⟨⟨27, [⟨0, .one, [.dat (.list kI)]⟩, ⟨3, .one, [.dat kI]⟩, ⟨4, .one, [.dat kI]⟩]⟩, [(.exit 0, ⟨27, [⟨3, .one, [.dat kI]⟩]⟩)], lp slices_Max___int_int__s122⟩
def slices_Max___int_int_ : List Int → Option Int
  | a => bif decide ((ln a) < 1) then none else chk (decide (0 < a.length)) ((lp slices_Max___int_int__s122 (a, List.getD a 0 0, 1)).bind fun b => some b)
def slices_Max___int_int__e : FEnt := ⟨25, [.tmp 2], [], [(.one, [.dat (.list kI)])], ⟨27, [⟨2, .one, [.dat kI]⟩]⟩, slices_Max___int_int_⟩
theorem slices_Max___int_int__ok : FnOk Try.prog 33 slices_Max___int_int__e := fnOk_mk (tb := [(122, slices_Max___int_int__n122)]) (c := (Try.f33.body).getD .skip) mixed Try.func33 bN (by kernel_rfl) (by kernel_rfl) (by kernel_rfl) ⟨nodeLoop (by kernel_rfl) slices_Max___int_int__s122 (by kernel_rfl) (by intro d; kernel_rfl), trivial⟩ (by intro d; kernel_rfl)


/-! impl.Pick -/
def impl_Pick_l7959 : List Int × List Int × Int × (Int × Bool × Unit) × t4 → Option (t3 ⊕ List Int × List Int × Int × (Int × Bool × Unit) × t4)
  | (a, b, c, (d, e, _), (f, g, h), i) => ix i a.length (ix i h.length (lx i h.length (bif decide ((gx a i 0) ≤ (gx h i 0)) then ix i h.length (lx i h.length (ix i a.length (ix i h.length (lx i h.length (some (.inl (i, f, g, sx h i (w64 ((gx h i 0) - (gx a i 0)))))))))) else some (.inr (a, b, c, (d, e, ()), (f, g, h), i)))))
def impl_Pick_n7959 : NEnt := ⟨⟨104, [⟨0, .one, [.dat (.list kI)]⟩, ⟨1, .one, [.dat (.list kI)]⟩, ⟨2, .one, [.dat kI]⟩, ⟨9, .box, cc3⟩, ⟨10, .box, cc2⟩, ⟨11, .one, [.dat kI]⟩]⟩, [(.ret, ⟨104, [⟨8, .one, [.dat kI]⟩, ⟨9, .box, cc2⟩]⟩), (.normal, ⟨104, [⟨0, .one, [.dat (.list kI)]⟩, ⟨1, .one, [.dat (.list kI)]⟩, ⟨2, .one, [.dat kI]⟩, ⟨9, .box, cc3⟩, ⟨10, .box, cc2⟩, ⟨11, .one, [.dat kI]⟩]⟩)], impl_Pick_l7959⟩
def impl_Pick_s62 : t14 → Option (t14 ⊕ t3)
  | (a, b, c, (d, e, _), f, g, h) => ix f a.length (bif (gx a f 0) == 0 then ix f h.length (lx f h.length (some (.inl (a, b, c, (d, e, ()), Int.tmod (w64 (f + 1)) 3, true, sx h f 0)))) else bif g then ix f h.length (lx f h.length (ix f b.length ((some (if IntKind.wrap IntKind.i64 (List.getD h (Int.toNat f) (0 : Int) + IntKind.wrap IntKind.i64 (c * List.getD b (Int.toNat f) (0 : Int))) < (1000 : Int) then IntKind.wrap IntKind.i64 (List.getD h (Int.toNat f) (0 : Int) + IntKind.wrap IntKind.i64 (c * List.getD b (Int.toNat f) (0 : Int))) else (1000 : Int))).bind fun i => ix f h.length (lx f h.length (bx (impl_Pick_l7959 (a, b, c, (d, e, ()), (f, false, sx h f i), f)) (fun (j, k, l, m) => some (.inr (j, k, l, m))) fun (j, k, l, (m, n, _), (o, p, q), r) => some (.inl (j, k, l, (m, n, ()), Int.tmod (w64 (r + 1)) 3, true, q))))))) else bx (impl_Pick_l7959 (a, b, c, (d, e, ()), (f, g, h), f)) (fun (i, j, k, l) => some (.inr (i, j, k, l))) fun (i, j, k, (l, m, _), (n, o, p), q) => some (.inl (i, j, k, (l, m, ()), Int.tmod (w64 (q + 1)) 3, true, p)))
def impl_Pick_n62 : NEnt := ⟨⟨104, [⟨0, .one, [.dat (.list kI)]⟩, ⟨1, .one, [.dat (.list kI)]⟩, ⟨2, .one, [.dat kI]⟩, ⟨9, .box, cc3⟩, ⟨10, .box, cc2⟩]⟩, [(.ret, ⟨104, [⟨8, .one, [.dat kI]⟩, ⟨9, .box, cc2⟩]⟩)], lp impl_Pick_s62⟩
def impl_Pick : List Int × List Int × t3 → Option t3
  | (a, b, c, d, e, f) => (impl_copyTurn (d, e, f)).bind fun (g, h, i) => (impl_allWithin (a, 3, 0, 200)).bind fun j => bif !j then some ((-1), g, h, i) else (impl_allWithin (b, 3, 1, 4)).bind fun k => bif !k then some ((-1), g, h, i) else (impl_within (c, 1, 60)).bind fun l => bif !l then some ((-1), g, h, i) else (impl_TurnOk (d, e, f)).bind fun m => bif !m then some ((-1), g, h, i) else (slices_Max___int_int_ a).bind fun n => bif n == 0 then (impl_TurnNew ()).bind fun (o, p, q) => some ((-1), o, p, q) else (lp impl_Pick_s62 (a, b, c, (0, false, ()), g, h, i)).bind fun (o, p, q, r) => some (o, p, q, r)
def impl_Pick_e : FEnt := ⟨96, [.tmp 8, .cell 9 true 3], [], [(.one, [.dat (.list kI)]), (.one, [.dat (.list kI)]), (.one, [.dat kI]), (.agg, cc0)], ⟨104, [⟨8, .one, [.dat kI]⟩, ⟨9, .box, cc2⟩]⟩, impl_Pick⟩
theorem impl_Pick_ok : FnOk Try.prog 20 impl_Pick_e := fnOk_mk (tb := [(7959, impl_Pick_n7959), (62, impl_Pick_n62)]) (c := (Try.f20.body).getD .skip) mixed Try.func20 (bC impl_copyTurn_ok (bC impl_allWithin_ok (bC impl_within_ok (bC impl_TurnOk_ok (bC slices_Max___int_int__ok (bC impl_TurnNew_ok bN)))))) (by kernel_rfl) (by kernel_rfl) (by kernel_rfl) ⟨nodeJoin (by kernel_rfl) (by intro d; kernel_rfl), nodeLoop (by kernel_rfl) impl_Pick_s62 (by kernel_rfl) (by intro d; kernel_rfl), trivial⟩ (by intro d; kernel_rfl)


/-! impl.Hand -/
def impl_Hand_s129610 : List (List Int) × List Int × Int × Int × List Int × (Int × Bool × List Int) × List Int × Int × List Int × t2 → Option (List (List Int) × List Int × Int × Int × List Int × (Int × Bool × List Int) × List Int × Int × List Int × t2 ⊕ List (List Int) × List Int × Int × Int × List Int × (Int × Bool × List Int) × List Int × Int × List Int)
  | (a, b, c, d, e, (f, g, h), i, j, k, l, m, n) => bif decide (n < m) then ix n l.length (ix n e.length (lx n e.length ((some (decide ((gx e n 0) < (ln (gx l n []))))).bind fun o => bif o then ix n e.length (lx n e.length (ix (gx e n 0) (gx l n []).length (ix n k.length (lx n k.length (some (.inl (a, b, c, d, e, (f, g, h), i, j, sx k n (gx (gx l n []) (gx e n 0) 0), l, m, w64 (n + 1)))))))) else some (.inl (a, b, c, d, e, (f, g, h), i, j, k, l, m, w64 (n + 1)))))) else some (.inr (a, b, c, d, e, (f, g, h), i, j, k))
def impl_Hand_n129610 : NEnt := ⟨⟨95, [⟨0, .one, [.dat kk0]⟩, ⟨1, .one, [.dat (.list kI)]⟩, ⟨2, .one, [.dat kI]⟩, ⟨3, .one, [.dat kI]⟩, ⟨9, .one, [.own true kI]⟩, ⟨10, .box, cc2⟩, ⟨11, .one, [.own true kI]⟩, ⟨12, .one, [.dat kI]⟩, ⟨13, .one, [.own true kI]⟩, ⟨40, .one, [.dat kk0]⟩, ⟨41, .one, [.dat kI]⟩, ⟨42, .one, [.dat kI]⟩]⟩, [(.exit 2, ⟨95, [⟨0, .one, [.dat kk0]⟩, ⟨1, .one, [.dat (.list kI)]⟩, ⟨2, .one, [.dat kI]⟩, ⟨3, .one, [.dat kI]⟩, ⟨9, .one, [.own true kI]⟩, ⟨10, .box, cc2⟩, ⟨11, .one, [.own true kI]⟩, ⟨12, .one, [.dat kI]⟩, ⟨13, .one, [.own true kI]⟩]⟩)], lp impl_Hand_s129610⟩
def impl_Hand_s506 : List (List Int) × List Int × Int × Int × List Int × (Int × Bool × List Int) × List Int × Int → Option (List (List Int) × List Int × Int × Int × List Int × (Int × Bool × List Int) × List Int × Int ⊕ List Int)
  | (a, b, c, d, e, (f, g, h), i, j) => (impl_limited (d, 0, 200)).bind fun k => bif decide (j < k) then (lp impl_Hand_s129610 (a, b, c, d, e, (f, g, h), i, j, List.replicate 3 0, a, ln a, 0)).bind fun (l, m, n, o, p, (q, r, s), t, u, v) => (impl_Pick (v, m, n, q, r, s)).bind fun (w, x, y, z) => bif decide (w < 0) then some (.inr t) else ix w p.length (lx w p.length (ix w p.length (lx w p.length (chk (fits (t.length + [w].length) 8) (some (.inl (l, m, n, o, sx p w (w64 ((gx p w 0) + 1)), (x, y, z), t ++ [w], w64 (u + 1)))))))) else some (.inr i)
def impl_Hand_n506 : NEnt := ⟨⟨95, [⟨0, .one, [.dat kk0]⟩, ⟨1, .one, [.dat (.list kI)]⟩, ⟨2, .one, [.dat kI]⟩, ⟨3, .one, [.dat kI]⟩, ⟨9, .one, [.own true kI]⟩, ⟨10, .box, cc2⟩, ⟨11, .one, [.own true kI]⟩, ⟨12, .one, [.dat kI]⟩]⟩, [(.exit 0, ⟨95, [⟨11, .one, [.own true kI]⟩]⟩)], lp impl_Hand_s506⟩
def impl_Hand : t8 → Option (List Int)
  | (a, b, c, d) => (impl_loadsOk a).bind fun e => bif !e then some [] else (impl_allWithin (b, 3, 1, 4)).bind fun f => bif !f then some [] else (impl_within (c, 1, 60)).bind fun g => bif !g then some [] else (impl_TurnNew ()).bind fun (h, i, j) => (lp impl_Hand_s506 (a, b, c, d, List.replicate 3 0, (h, i, j), [], 0)).bind fun k => some k
def impl_Hand_e : FEnt := ⟨87, [.tmp 8], [], [(.one, [.dat kk0]), (.one, [.dat (.list kI)]), (.one, [.dat kI]), (.one, [.dat kI])], ⟨95, [⟨8, .one, [.own true kI]⟩]⟩, impl_Hand⟩
theorem impl_Hand_ok : FnOk Try.prog 7 impl_Hand_e := fnOk_mk (tb := [(129610, impl_Hand_n129610), (506, impl_Hand_n506)]) (c := (Try.f7.body).getD .skip) mixed Try.func7 (bC impl_loadsOk_ok (bC impl_allWithin_ok (bC impl_within_ok (bC impl_TurnNew_ok (bC impl_limited_ok (bC impl_Pick_ok bN)))))) (by kernel_rfl) (by kernel_rfl) (by kernel_rfl) ⟨nodeLoop (by kernel_rfl) impl_Hand_s129610 (by kernel_rfl) (by intro d; kernel_rfl), nodeLoop (by kernel_rfl) impl_Hand_s506 (by kernel_rfl) (by intro d; kernel_rfl), trivial⟩ (by intro d; kernel_rfl)


/-! spec.l1In -/
def spec_l1In : Int × Int × Int → Option Bool
  | (a, b, c) => bif decide (a ≥ b) then some (decide (a ≤ c)) else some false
def spec_l1In_e : FEnt := ⟨15, [.tmp 6], [], [(.one, [.dat kI]), (.one, [.dat kI]), (.one, [.dat kI])], ⟨21, [⟨6, .one, [.dat .bool]⟩]⟩, spec_l1In⟩
theorem spec_l1In_ok : FnOk Try.prog 34 spec_l1In_e := fnOk_mk (tb := []) (c := (Try.f34.body).getD .skip) mixed Try.func34 bN (by kernel_rfl) (by kernel_rfl) (by kernel_rfl) trivial (by intro d; kernel_rfl)


/-! spec.l21Ok -/
def spec_l21Ok_s7462 : t2 → Option (t2 ⊕ Bool ⊕ List (List Int) × Int)
  | (a, b, c) => ix b a.length (bif decide (c < (ln (gx a b []))) then ix b a.length (ix c (gx a b []).length ((spec_l1In (gx (gx a b []) c 0, 1, 200)).bind fun d => bif !d then some (.inr (.inl false)) else some (.inl (a, b, w64 (c + 1))))) else some (.inr (.inr (a, b))))
def spec_l21Ok_n7462 : NEnt := ⟨⟨40, [⟨0, .one, [.dat kk0]⟩, ⟨3, .one, [.dat kI]⟩, ⟨4, .one, [.dat kI]⟩]⟩, [(.ret, ⟨40, [⟨2, .one, [.dat .bool]⟩]⟩), (.exit 2, ⟨40, [⟨0, .one, [.dat kk0]⟩, ⟨3, .one, [.dat kI]⟩]⟩)], lp spec_l21Ok_s7462⟩
def spec_l21Ok_s58 : List (List Int) × Int → Option (List (List Int) × Int ⊕ Bool ⊕ Unit)
  | (a, b) => bif decide (b < (ln a)) then ix b a.length (bif decide ((ln (gx a b [])) > 40) then some (.inr (.inl false)) else bx (lp spec_l21Ok_s7462 (a, b, 0)) (fun c => some (.inr (.inl c))) fun (c, d) => some (.inl (c, w64 (d + 1)))) else some (.inr (.inr ()))
def spec_l21Ok_n58 : NEnt := ⟨⟨40, [⟨0, .one, [.dat kk0]⟩, ⟨3, .one, [.dat kI]⟩]⟩, [(.ret, ⟨40, [⟨2, .one, [.dat .bool]⟩]⟩), (.exit 0, ⟨40, []⟩)], lp spec_l21Ok_s58⟩
def spec_l21Ok : List (List Int) → Option Bool
  | a => bif (ln a) != 3 then some false else bx (lp spec_l21Ok_s58 (a, 0)) (fun b => some b) fun _ => some true
def spec_l21Ok_e : FEnt := ⟨38, [.tmp 2], [], [(.one, [.dat kk0])], ⟨40, [⟨2, .one, [.dat .bool]⟩]⟩, spec_l21Ok⟩
theorem spec_l21Ok_ok : FnOk Try.prog 21 spec_l21Ok_e := fnOk_mk (tb := [(7462, spec_l21Ok_n7462), (58, spec_l21Ok_n58)]) (c := (Try.f21.body).getD .skip) mixed Try.func21 (bC spec_l1In_ok bN) (by kernel_rfl) (by kernel_rfl) (by kernel_rfl) ⟨nodeLoop (by kernel_rfl) spec_l21Ok_s7462 (by kernel_rfl) (by intro d; kernel_rfl), nodeLoop (by kernel_rfl) spec_l21Ok_s58 (by kernel_rfl) (by intro d; kernel_rfl), trivial⟩ (by intro d; kernel_rfl)


/-! spec.l11Nums -/
def spec_l11Nums_s58 : t1 → Option (t1 ⊕ Bool ⊕ Unit)
  | (a, b, c, d) => bif decide (d < (ln a)) then ix d a.length ((spec_l1In (gx a d 0, b, c)).bind fun e => bif !e then some (.inr (.inl false)) else some (.inl (a, b, c, w64 (d + 1)))) else some (.inr (.inr ()))
def spec_l11Nums_n58 : NEnt := ⟨⟨31, [⟨0, .one, [.dat (.list kI)]⟩, ⟨1, .one, [.dat kI]⟩, ⟨2, .one, [.dat kI]⟩, ⟨7, .one, [.dat kI]⟩]⟩, [(.ret, ⟨31, [⟨6, .one, [.dat .bool]⟩]⟩), (.exit 0, ⟨31, []⟩)], lp spec_l11Nums_s58⟩
def spec_l11Nums : List Int × Int × Int → Option Bool
  | (a, b, c) => bif (ln a) != 3 then some false else bx (lp spec_l11Nums_s58 (a, b, c, 0)) (fun d => some d) fun _ => some true
def spec_l11Nums_e : FEnt := ⟨25, [.tmp 6], [], [(.one, [.dat (.list kI)]), (.one, [.dat kI]), (.one, [.dat kI])], ⟨31, [⟨6, .one, [.dat .bool]⟩]⟩, spec_l11Nums⟩
theorem spec_l11Nums_ok : FnOk Try.prog 35 spec_l11Nums_e := fnOk_mk (tb := [(58, spec_l11Nums_n58)]) (c := (Try.f35.body).getD .skip) mixed Try.func35 (bC spec_l1In_ok bN) (by kernel_rfl) (by kernel_rfl) (by kernel_rfl) ⟨nodeLoop (by kernel_rfl) spec_l11Nums_s58 (by kernel_rfl) (by intro d; kernel_rfl), trivial⟩ (by intro d; kernel_rfl)


/-! spec.l21Weights -/
def spec_l21Weights : List Int × Int → Option Bool
  | (a, b) => (spec_l11Nums (a, 1, 4)).bind fun c => bif c then (spec_l1In (b, 1, 60)).bind fun d => some d else some false
def spec_l21Weights_e : FEnt := ⟨11, [.tmp 4], [], [(.one, [.dat (.list kI)]), (.one, [.dat kI])], ⟨15, [⟨4, .one, [.dat .bool]⟩]⟩, spec_l21Weights⟩
theorem spec_l21Weights_ok : FnOk Try.prog 22 spec_l21Weights_e := fnOk_mk (tb := []) (c := (Try.f22.body).getD .skip) mixed Try.func22 (bC spec_l11Nums_ok (bC spec_l1In_ok bN)) (by kernel_rfl) (by kernel_rfl) (by kernel_rfl) trivial (by intro d; kernel_rfl)


/-! spec.TurnNew -/
def spec_TurnNew : Unit → Option (Int × Bool × List Int)
  | _ => some (0, true, List.replicate 3 0)
def spec_TurnNew_e : FEnt := ⟨3, [.cell 0 true 3], [], [], ⟨3, [⟨0, .box, cc2⟩]⟩, spec_TurnNew⟩
theorem spec_TurnNew_ok : FnOk Try.prog 23 spec_TurnNew_e := fnOk_mk (tb := []) (c := (Try.f23.body).getD .skip) mixed Try.func23 bN (by kernel_rfl) (by kernel_rfl) (by kernel_rfl) trivial (by intro d; kernel_rfl)


/-! spec.l11Copy -/
def spec_l11Copy : Int × Bool × List Int → Option (Int × Bool × List Int)
  | (a, b, c) => chk (fits (0 + c.length) 8) (some (a, b, [] ++ c))
def spec_l11Copy_e : FEnt := ⟨12, [.cell 2 true 3], [], [(.agg, cc0)], ⟨14, [⟨2, .box, cc2⟩]⟩, spec_l11Copy⟩
theorem spec_l11Copy_ok : FnOk Try.prog 36 spec_l11Copy_e := fnOk_mk (tb := []) (c := (Try.f36.body).getD .skip) mixed Try.func36 bN (by kernel_rfl) (by kernel_rfl) (by kernel_rfl) trivial (by intro d; kernel_rfl)


/-! spec.l6Agent -/
def spec_l6Agent : Int → Option Bool
  | a => (spec_l1In (a, 0, 2)).bind fun b => some b
def spec_l6Agent_e : FEnt := ⟨5, [.tmp 2], [], [(.one, [.dat kI])], ⟨7, [⟨2, .one, [.dat .bool]⟩]⟩, spec_l6Agent⟩
theorem spec_l6Agent_ok : FnOk Try.prog 42 spec_l6Agent_e := fnOk_mk (tb := []) (c := (Try.f42.body).getD .skip) mixed Try.func42 (bC spec_l1In_ok bN) (by kernel_rfl) (by kernel_rfl) (by kernel_rfl) trivial (by intro d; kernel_rfl)


/-! spec.TurnOk -/
def spec_TurnOk : Int × Bool × List Int → Option Bool
  | (a, b, c) => (spec_l6Agent a).bind fun d => bif d then (spec_l11Nums (c, 0, 1000)).bind fun e => some e else some false
def spec_TurnOk_e : FEnt := ⟨11, [.tmp 2], [], [(.agg, cc0)], ⟨13, [⟨2, .one, [.dat .bool]⟩]⟩, spec_TurnOk⟩
theorem spec_TurnOk_ok : FnOk Try.prog 37 spec_TurnOk_e := fnOk_mk (tb := []) (c := (Try.f37.body).getD .skip) mixed Try.func37 (bC spec_l6Agent_ok (bC spec_l11Nums_ok bN)) (by kernel_rfl) (by kernel_rfl) (by kernel_rfl) trivial (by intro d; kernel_rfl)


/-! spec.l11Next -/
def spec_l11Next : Int × Bool × List Int → Option ((Int × Bool × List Int) × Int × Bool × Unit)
  | (a, b, c) => some ((Int.tmod (w64 (a + 1)) 3, true, c), a, b, ())
def spec_l11Next_e : FEnt := ⟨10, [.cell 2 true 3], [true], [(.agg, cc2)], ⟨12, [⟨2, .box, cc2⟩, ⟨10, .agg, [.dat kI, .dat .bool, .dead]⟩]⟩, spec_l11Next⟩
theorem spec_l11Next_ok : FnOk Try.prog 38 spec_l11Next_e := fnOk_mk (tb := []) (c := (Try.f38.body).getD .skip) mixed Try.func38 bN (by kernel_rfl) (by kernel_rfl) (by kernel_rfl) trivial (by intro d; kernel_rfl)


/-! spec.l1Min -/
def spec_l1Min : Int × Int → Option Int
  | (a, b) => bif decide (a < b) then some a else some b
def spec_l1Min_e : FEnt := ⟨10, [.tmp 4], [], [(.one, [.dat kI]), (.one, [.dat kI])], ⟨14, [⟨4, .one, [.dat kI]⟩]⟩, spec_l1Min⟩
theorem spec_l1Min_ok : FnOk Try.prog 39 spec_l1Min_e := fnOk_mk (tb := []) (c := (Try.f39.body).getD .skip) mixed Try.func39 bN (by kernel_rfl) (by kernel_rfl) (by kernel_rfl) trivial (by intro d; kernel_rfl)


/-! spec.Pick -/
def spec_Pick_l995 : t14 → Option (t3 ⊕ t14)
  | (a, b, c, (d, e, _), f, g, h) => ix f a.length (ix f h.length (lx f h.length (bif decide ((gx a f 0) ≤ (gx h f 0)) then ix f h.length (lx f h.length (ix f a.length (ix f h.length (lx f h.length (some (.inl (f, f, g, sx h f (w64 ((gx h f 0) - (gx a f 0)))))))))) else (spec_l11Next (f, g, h)).bind fun ((i, j, k), l, m, _) => some (.inr (a, b, c, (d, e, ()), i, j, k)))))
def spec_Pick_n995 : NEnt := ⟨⟨113, [⟨0, .one, [.dat (.list kI)]⟩, ⟨1, .one, [.dat (.list kI)]⟩, ⟨2, .one, [.dat kI]⟩, ⟨9, .box, cc3⟩, ⟨10, .box, cc2⟩]⟩, [(.ret, ⟨113, [⟨8, .one, [.dat kI]⟩, ⟨9, .box, cc2⟩]⟩), (.normal, ⟨113, [⟨0, .one, [.dat (.list kI)]⟩, ⟨1, .one, [.dat (.list kI)]⟩, ⟨2, .one, [.dat kI]⟩, ⟨9, .box, cc3⟩, ⟨10, .box, cc2⟩]⟩)], spec_Pick_l995⟩
def spec_Pick_s62 : t14 → Option (t14 ⊕ t3)
  | (a, b, c, (d, e, _), f, g, h) => ix f a.length (bif (gx a f 0) == 0 then ix f h.length (lx f h.length ((spec_l11Next (f, g, sx h f 0)).bind fun ((i, j, k), l, m, _) => some (.inl (a, b, c, (d, e, ()), i, j, k)))) else bif g then ix f h.length (lx f h.length (ix f b.length ((spec_l1Min (w64 ((gx h f 0) + (w64 (c * (gx b f 0)))), 1000)).bind fun i => ix f h.length (lx f h.length (bx (spec_Pick_l995 (a, b, c, (d, e, ()), f, false, sx h f i)) (fun (j, k, l, m) => some (.inr (j, k, l, m))) fun (j, k, l, (m, n, _), o, p, q) => some (.inl (j, k, l, (m, n, ()), o, p, q))))))) else bx (spec_Pick_l995 (a, b, c, (d, e, ()), f, g, h)) (fun (i, j, k, l) => some (.inr (i, j, k, l))) fun (i, j, k, (l, m, _), n, o, p) => some (.inl (i, j, k, (l, m, ()), n, o, p)))
def spec_Pick_n62 : NEnt := ⟨⟨113, [⟨0, .one, [.dat (.list kI)]⟩, ⟨1, .one, [.dat (.list kI)]⟩, ⟨2, .one, [.dat kI]⟩, ⟨9, .box, cc3⟩, ⟨10, .box, cc2⟩]⟩, [(.ret, ⟨113, [⟨8, .one, [.dat kI]⟩, ⟨9, .box, cc2⟩]⟩)], lp spec_Pick_s62⟩
def spec_Pick : List Int × List Int × t3 → Option t3
  | (a, b, c, d, e, f) => (spec_l11Copy (d, e, f)).bind fun (g, h, i) => (spec_l11Nums (a, 0, 200)).bind fun j => bif !j then some ((-1), g, h, i) else (spec_l11Nums (b, 1, 4)).bind fun k => bif !k then some ((-1), g, h, i) else (spec_l1In (c, 1, 60)).bind fun l => bif !l then some ((-1), g, h, i) else (spec_TurnOk (d, e, f)).bind fun m => bif !m then some ((-1), g, h, i) else (spec_l11Nums (a, 0, 0)).bind fun n => bif n then (spec_TurnNew ()).bind fun (o, p, q) => some ((-1), o, p, q) else (lp spec_Pick_s62 (a, b, c, (0, false, ()), g, h, i)).bind fun (o, p, q, r) => some (o, p, q, r)
def spec_Pick_e : FEnt := ⟨105, [.tmp 8, .cell 9 true 3], [], [(.one, [.dat (.list kI)]), (.one, [.dat (.list kI)]), (.one, [.dat kI]), (.agg, cc0)], ⟨113, [⟨8, .one, [.dat kI]⟩, ⟨9, .box, cc2⟩]⟩, spec_Pick⟩
theorem spec_Pick_ok : FnOk Try.prog 24 spec_Pick_e := fnOk_mk (tb := [(995, spec_Pick_n995), (62, spec_Pick_n62)]) (c := (Try.f24.body).getD .skip) mixed Try.func24 (bC spec_l11Copy_ok (bC spec_l11Nums_ok (bC spec_l1In_ok (bC spec_TurnOk_ok (bC spec_TurnNew_ok (bC spec_l11Next_ok (bC spec_l1Min_ok bN))))))) (by kernel_rfl) (by kernel_rfl) (by kernel_rfl) ⟨nodeJoin (by kernel_rfl) (by intro d; kernel_rfl), nodeLoop (by kernel_rfl) spec_Pick_s62 (by kernel_rfl) (by intro d; kernel_rfl), trivial⟩ (by intro d; kernel_rfl)


/-! spec.Hand -/
def spec_Hand_s129610 : List (List Int) × List Int × Int × Int × List Int × List Int × (Int × Bool × List Int) × Int × List Int × Int × Int × Bool → Option (List (List Int) × List Int × Int × Int × List Int × List Int × (Int × Bool × List Int) × Int × List Int × Int × Int × Bool ⊕ List (List Int) × List Int × Int × Int × List Int × List Int × (Int × Bool × List Int) × Int × List Int × Int × Bool)
  | (a, b, c, d, e, f, (g, h, i), j, k, l, m, n) => bif decide (l < 3) then ix l f.length (lx l f.length (ix l a.length ((some (decide ((gx f l 0) < (ln (gx a l []))))).bind fun o => bif o then ix l a.length (ix l f.length (lx l f.length (ix (gx f l 0) (gx a l []).length (ix l k.length (lx l k.length (some (.inl (a, b, c, d, e, f, (g, h, i), j, sx k l (gx (gx a l []) (gx f l 0) 0), w64 (l + 1), m, n)))))))) else some (.inl (a, b, c, d, e, f, (g, h, i), j, k, w64 (l + 1), m, n))))) else some (.inr (a, b, c, d, e, f, (g, h, i), j, k, m, n))
def spec_Hand_n129610 : NEnt := ⟨⟨100, [⟨0, .one, [.dat kk0]⟩, ⟨1, .one, [.dat (.list kI)]⟩, ⟨2, .one, [.dat kI]⟩, ⟨3, .one, [.dat kI]⟩, ⟨9, .one, [.own true kI]⟩, ⟨10, .one, [.own true kI]⟩, ⟨11, .box, cc2⟩, ⟨12, .one, [.dat kI]⟩, ⟨13, .one, [.own true kI]⟩, ⟨14, .one, [.dat kI]⟩, ⟨34, .one, [.dat kI]⟩, ⟨35, .one, [.dat .bool]⟩]⟩, [(.exit 2, ⟨100, [⟨0, .one, [.dat kk0]⟩, ⟨1, .one, [.dat (.list kI)]⟩, ⟨2, .one, [.dat kI]⟩, ⟨3, .one, [.dat kI]⟩, ⟨9, .one, [.own true kI]⟩, ⟨10, .one, [.own true kI]⟩, ⟨11, .box, cc2⟩, ⟨12, .one, [.dat kI]⟩, ⟨13, .one, [.own true kI]⟩, ⟨34, .one, [.dat kI]⟩, ⟨35, .one, [.dat .bool]⟩]⟩)], lp spec_Hand_s129610⟩
def spec_Hand_s506 : List (List Int) × List Int × Int × Int × List Int × List Int × t4 → Option (List (List Int) × List Int × Int × Int × List Int × List Int × t4 ⊕ List Int ⊕ List Int)
  | (a, b, c, d, e, f, (g, h, i), j) => bif decide (j < d) then bif decide (j < 200) then (lp spec_Hand_s129610 (a, b, c, d, e, f, (g, h, i), j, List.replicate 3 0, 0, j, decide (j < 200))).bind fun (k, l, m, n, o, p, (q, r, s), t, u, v, w) => (spec_Pick (u, l, m, q, r, s)).bind fun (x, y, z, a1) => bif decide (x < 0) then some (.inr (.inl o)) else ix x p.length (lx x p.length (ix x p.length (lx x p.length (chk (fits (o.length + [x].length) 8) (some (.inl (k, l, m, n, o ++ [x], sx p x (w64 ((gx p x 0) + 1)), (y, z, a1), w64 (t + 1)))))))) else some (.inr (.inr e)) else some (.inr (.inr e))
def spec_Hand_n506 : NEnt := ⟨⟨100, [⟨0, .one, [.dat kk0]⟩, ⟨1, .one, [.dat (.list kI)]⟩, ⟨2, .one, [.dat kI]⟩, ⟨3, .one, [.dat kI]⟩, ⟨9, .one, [.own true kI]⟩, ⟨10, .one, [.own true kI]⟩, ⟨11, .box, cc2⟩, ⟨12, .one, [.dat kI]⟩]⟩, [(.ret, ⟨100, [⟨8, .one, [.own true kI]⟩]⟩), (.exit 0, ⟨100, [⟨9, .one, [.own true kI]⟩]⟩)], lp spec_Hand_s506⟩
def spec_Hand : t8 → Option (List Int)
  | (a, b, c, d) => (spec_l21Ok a).bind fun e => bif !e then some [] else (spec_l21Weights (b, c)).bind fun f => bif !f then some [] else (spec_TurnNew ()).bind fun (g, h, i) => bx (lp spec_Hand_s506 (a, b, c, d, [], List.replicate 3 0, (g, h, i), 0)) (fun j => some j) fun j => some j
def spec_Hand_e : FEnt := ⟨92, [.tmp 8], [], [(.one, [.dat kk0]), (.one, [.dat (.list kI)]), (.one, [.dat kI]), (.one, [.dat kI])], ⟨100, [⟨8, .one, [.own true kI]⟩]⟩, spec_Hand⟩
theorem spec_Hand_ok : FnOk Try.prog 9 spec_Hand_e := fnOk_mk (tb := [(129610, spec_Hand_n129610), (506, spec_Hand_n506)]) (c := (Try.f9.body).getD .skip) mixed Try.func9 (bC spec_l21Ok_ok (bC spec_l21Weights_ok (bC spec_TurnNew_ok (bC spec_Pick_ok bN)))) (by kernel_rfl) (by kernel_rfl) (by kernel_rfl) ⟨nodeLoop (by kernel_rfl) spec_Hand_s129610 (by kernel_rfl) (by intro d; kernel_rfl), nodeLoop (by kernel_rfl) spec_Hand_s506 (by kernel_rfl) (by intro d; kernel_rfl), trivial⟩ (by intro d; kernel_rfl)


/-! laws.sameInts -/
def laws_sameInts_s58 : List Int × List Int × Int → Option (List Int × List Int × Int ⊕ Bool ⊕ Unit)
  | (a, b, c) => bif decide (c < (ln a)) then ix c a.length (ix c b.length (bif (gx a c 0) != (gx b c 0) then some (.inr (.inl false)) else some (.inl (a, b, w64 (c + 1))))) else some (.inr (.inr ()))
def laws_sameInts_n58 : NEnt := ⟨⟨30, [⟨0, .one, [.dat (.list kI)]⟩, ⟨1, .one, [.dat (.list kI)]⟩, ⟨5, .one, [.dat kI]⟩]⟩, [(.ret, ⟨30, [⟨4, .one, [.dat .bool]⟩]⟩), (.exit 0, ⟨30, []⟩)], lp laws_sameInts_s58⟩
def laws_sameInts : List Int × List Int → Option Bool
  | (a, b) => bif (ln a) != (ln b) then some false else bx (lp laws_sameInts_s58 (a, b, 0)) (fun c => some c) fun _ => some true
def laws_sameInts_e : FEnt := ⟨26, [.tmp 4], [], [(.one, [.dat (.list kI)]), (.one, [.dat (.list kI)])], ⟨30, [⟨4, .one, [.dat .bool]⟩]⟩, laws_sameInts⟩
theorem laws_sameInts_ok : FnOk Try.prog 8 laws_sameInts_e := fnOk_mk (tb := [(58, laws_sameInts_n58)]) (c := (Try.f8.body).getD .skip) mixed Try.func8 bN (by kernel_rfl) (by kernel_rfl) (by kernel_rfl) ⟨nodeLoop (by kernel_rfl) laws_sameInts_s58 (by kernel_rfl) (by intro d; kernel_rfl), trivial⟩ (by intro d; kernel_rfl)


/-! impl.often -/
def impl_often_s58 : Int × t0 → Option (Int × t0 ⊕ Int)
  | (a, b, c, d, e) => bif decide (e < d) then ix e c.length (bif (gx c e 0) == a then some (.inl (a, w64 (b + 1), c, d, w64 (e + 1))) else some (.inl (a, b, c, d, w64 (e + 1)))) else some (.inr b)
def impl_often_n58 : NEnt := ⟨⟨25, [⟨1, .one, [.dat kI]⟩, ⟨5, .one, [.dat kI]⟩, ⟨8, .one, [.dat (.list kI)]⟩, ⟨9, .one, [.dat kI]⟩, ⟨10, .one, [.dat kI]⟩]⟩, [(.exit 0, ⟨25, [⟨5, .one, [.dat kI]⟩]⟩)], lp impl_often_s58⟩
def impl_often : List Int × Int → Option Int
  | (a, b) => (lp impl_often_s58 (b, 0, a, ln a, 0)).bind fun c => some c
def impl_often_e : FEnt := ⟨21, [.tmp 4], [], [(.one, [.dat (.list kI)]), (.one, [.dat kI])], ⟨25, [⟨4, .one, [.dat kI]⟩]⟩, impl_often⟩
theorem impl_often_ok : FnOk Try.prog 25 impl_often_e := fnOk_mk (tb := [(58, impl_often_n58)]) (c := (Try.f25.body).getD .skip) mixed Try.func25 bN (by kernel_rfl) (by kernel_rfl) (by kernel_rfl) ⟨nodeLoop (by kernel_rfl) impl_often_s58 (by kernel_rfl) (by intro d; kernel_rfl), trivial⟩ (by intro d; kernel_rfl)


/-! impl.HandSum -/
def impl_HandSum_s125338 : List Int × List Int × Int × List (List Int) × Int × t0 → Option (List Int × List Int × Int × List (List Int) × Int × t0 ⊕ List Int × List Int × Int × t2)
  | (a, b, c, d, e, f, g, h, i) => bif decide (i < h) then ix i g.length (some (.inl (a, b, w64 (c + (gx g i 0)), d, e, f, g, h, w64 (i + 1)))) else some (.inr (a, b, c, d, e, f))
def impl_HandSum_n125338 : NEnt := ⟨⟨48, [⟨1, .one, [.dat (.list kI)]⟩, ⟨5, .one, [.own true kI]⟩, ⟨8, .one, [.dat kI]⟩, ⟨14, .one, [.dat kk0]⟩, ⟨15, .one, [.dat kI]⟩, ⟨16, .one, [.dat kI]⟩, ⟨28, .one, [.dat (.list kI)]⟩, ⟨29, .one, [.dat kI]⟩, ⟨30, .one, [.dat kI]⟩]⟩, [(.exit 2, ⟨48, [⟨1, .one, [.dat (.list kI)]⟩, ⟨5, .one, [.own true kI]⟩, ⟨8, .one, [.dat kI]⟩, ⟨14, .one, [.dat kk0]⟩, ⟨15, .one, [.dat kI]⟩, ⟨16, .one, [.dat kI]⟩]⟩)], lp impl_HandSum_s125338⟩
def impl_HandSum_s122 : List Int × List Int × t2 → Option (List Int × List Int × t2 ⊕ List Int)
  | (a, b, c, d, e) => bif decide (e < d) then ix e c.length ((impl_often (a, e)).bind fun f => (some (if f < (↑(List.length (List.getD c (Int.toNat e) [])) : Int) then f else (↑(List.length (List.getD c (Int.toNat e) [])) : Int))).bind fun g => g0 g (chk (decide ((0 ≤ g.toNat) ∧ (g.toNat ≤ (gx c e []).length))) ((lp impl_HandSum_s125338 (a, b, 0, c, d, e, List.take g.toNat (gx c e []), ln (List.take g.toNat (gx c e [])), 0)).bind fun (h, i, j, k, l, m) => chk (fits (i.length + [j].length) 8) (some (.inl (h, i ++ [j], k, l, w64 (m + 1))))))) else some (.inr b)
def impl_HandSum_n122 : NEnt := ⟨⟨48, [⟨1, .one, [.dat (.list kI)]⟩, ⟨5, .one, [.own true kI]⟩, ⟨14, .one, [.dat kk0]⟩, ⟨15, .one, [.dat kI]⟩, ⟨16, .one, [.dat kI]⟩]⟩, [(.exit 0, ⟨48, [⟨5, .one, [.own true kI]⟩]⟩)], lp impl_HandSum_s122⟩
def impl_HandSum : List (List Int) × List Int → Option (List Int)
  | (a, b) => (impl_loadsOk a).bind fun c => bif !c then some [] else (lp impl_HandSum_s122 (b, [], a, ln a, 0)).bind fun d => some d
def impl_HandSum_e : FEnt := ⟨44, [.tmp 4], [], [(.one, [.dat kk0]), (.one, [.dat (.list kI)])], ⟨48, [⟨4, .one, [.own true kI]⟩]⟩, impl_HandSum⟩
theorem impl_HandSum_ok : FnOk Try.prog 10 impl_HandSum_e := fnOk_mk (tb := [(125338, impl_HandSum_n125338), (122, impl_HandSum_n122)]) (c := (Try.f10.body).getD .skip) mixed Try.func10 (bC impl_loadsOk_ok (bC impl_often_ok bN)) (by kernel_rfl) (by kernel_rfl) (by kernel_rfl) ⟨nodeLoop (by kernel_rfl) impl_HandSum_s125338 (by kernel_rfl) (by intro d; kernel_rfl), nodeLoop (by kernel_rfl) impl_HandSum_s122 (by kernel_rfl) (by intro d; kernel_rfl), trivial⟩ (by intro d; kernel_rfl)


/-! impl.HandLeft -/
def impl_HandLeft : List (List Int) × List Int × Int → Option Bool
  | (a, b, c) => (impl_within (c, 0, 2)).bind fun d => bif d then (impl_loadsOk a).bind fun e => bif e then ix c a.length ((impl_often (b, c)).bind fun f => some (decide ((ln (gx a c [])) > f))) else some false else some false
def impl_HandLeft_e : FEnt := ⟨24, [.tmp 6], [], [(.one, [.dat kk0]), (.one, [.dat (.list kI)]), (.one, [.dat kI])], ⟨30, [⟨6, .one, [.dat .bool]⟩]⟩, impl_HandLeft⟩
theorem impl_HandLeft_ok : FnOk Try.prog 11 impl_HandLeft_e := fnOk_mk (tb := []) (c := (Try.f11.body).getD .skip) mixed Try.func11 (bC impl_within_ok (bC impl_loadsOk_ok (bC impl_often_ok bN))) (by kernel_rfl) (by kernel_rfl) (by kernel_rfl) trivial (by intro d; kernel_rfl)


/-! impl.ShareBound -/
def impl_ShareBound : t1 → Option Int
  | (a, b, c, d) => (impl_allWithin (a, 3, 1, 4)).bind fun e => bif !e then some 0 else (impl_within (b, 1, 60)).bind fun f => bif !f then some 0 else (impl_within (c, 0, 2)).bind fun g => bif !g then some 0 else (impl_within (d, 0, 2)).bind fun h => bif !h then some 0 else ix c a.length ((some (w64 ((w64 ((w64 (3 * b)) + 400)) * (gx a c 0)))).bind fun i => ix d a.length (some (w64 (i * (gx a d 0)))))
def impl_ShareBound_e : FEnt := ⟨40, [.tmp 8], [], [(.one, [.dat (.list kI)]), (.one, [.dat kI]), (.one, [.dat kI]), (.one, [.dat kI])], ⟨48, [⟨8, .one, [.dat kI]⟩]⟩, impl_ShareBound⟩
theorem impl_ShareBound_ok : FnOk Try.prog 12 impl_ShareBound_e := fnOk_mk (tb := []) (c := (Try.f12.body).getD .skip) mixed Try.func12 (bC impl_allWithin_ok (bC impl_within_ok bN)) (by kernel_rfl) (by kernel_rfl) (by kernel_rfl) trivial (by intro d; kernel_rfl)


/-! laws.FnFair -/
def laws_FnFair_s33367954 : List (List Int) × List Int × Int × List Int × Int × (Unit × Unit × Nat) × List Int × Int × Int → Option (List (List Int) × List Int × Int × List Int × Int × (Unit × Unit × Nat) × List Int × Int × Int ⊕ Bool ⊕ List (List Int) × t13)
  | (a, b, c, d, e, (_, _, f), g, h, i) => bif decide (i < h) then (impl_HandLeft (a, List.take f d, h)).bind fun j => bif !j then some (.inl (a, b, c, d, e, ((), (), f), g, h, w64 (i + 1))) else (impl_HandLeft (a, List.take f d, i)).bind fun k => bif !k then some (.inl (a, b, c, d, e, ((), (), f), g, h, w64 (i + 1))) else ix h g.length (lx h g.length (ix i b.length (lx i b.length (ix i g.length (lx i g.length (ix h b.length (lx h b.length ((some (w64 ((w64 ((gx g h 0) * (gx b i 0))) - (w64 ((gx g i 0) * (gx b h 0)))))).bind fun l => (impl_ShareBound (b, c, h, i)).bind fun m => bif decide (l > m) then some (.inr (.inl false)) else bif decide (l < (w64 (0 - m))) then some (.inr (.inl false)) else some (.inl (a, b, c, d, e, ((), (), f), g, h, w64 (i + 1))))))))))) else some (.inr (.inr (a, b, c, d, e, ((), (), f), g, h)))
def laws_FnFair_n33367954 : NEnt := ⟨⟨111, [⟨3, .one, cc5⟩, ⟨4, .one, [.own true kI]⟩, ⟨5, .one, [.dat kI]⟩, ⟨7, .one, [.own true kI]⟩, ⟨8, .one, [.dat kI]⟩, ⟨9, .one, cc4⟩, ⟨10, .one, [.own true kI]⟩, ⟨11, .one, [.dat kI]⟩, ⟨12, .one, [.dat kI]⟩]⟩, [(.ret, ⟨111, [⟨2, .one, [.dat .bool]⟩]⟩), (.exit 4, ⟨111, [⟨3, .one, cc5⟩, ⟨4, .one, [.own true kI]⟩, ⟨5, .one, [.dat kI]⟩, ⟨7, .one, [.own true kI]⟩, ⟨8, .one, [.dat kI]⟩, ⟨9, .one, cc4⟩, ⟨10, .one, [.own true kI]⟩, ⟨11, .one, [.dat kI]⟩]⟩)], lp laws_FnFair_s33367954⟩
def laws_FnFair_s521374 : List (List Int) × t13 → Option (List (List Int) × t13 ⊕ Bool ⊕ t10)
  | (a, b, c, d, e, (_, _, f), g, h) => bif decide (h < 3) then bx (lp laws_FnFair_s33367954 (a, b, c, d, e, ((), (), f), g, h, 0)) (fun i => some (.inr (.inl i))) fun (i, j, k, l, m, (_, _, n), o, p) => some (.inl (i, j, k, l, m, ((), (), n), o, w64 (p + 1))) else some (.inr (.inr (a, b, c, d, e)))
def laws_FnFair_n521374 : NEnt := ⟨⟨111, [⟨3, .one, cc5⟩, ⟨4, .one, [.own true kI]⟩, ⟨5, .one, [.dat kI]⟩, ⟨7, .one, [.own true kI]⟩, ⟨8, .one, [.dat kI]⟩, ⟨9, .one, cc4⟩, ⟨10, .one, [.own true kI]⟩, ⟨11, .one, [.dat kI]⟩]⟩, [(.ret, ⟨111, [⟨2, .one, [.dat .bool]⟩]⟩), (.exit 2, ⟨111, [⟨3, .one, cc5⟩, ⟨4, .one, [.own true kI]⟩, ⟨5, .one, [.dat kI]⟩, ⟨7, .one, [.own true kI]⟩, ⟨8, .one, [.dat kI]⟩]⟩)], lp laws_FnFair_s521374⟩
def laws_FnFair_s1018 : t10 → Option (t10 ⊕ Bool ⊕ Unit)
  | (a, b, c, d, e) => bif decide (e ≤ (ln d)) then g0 e (chk (decide ((0 ≤ e.toNat) ∧ (e.toNat ≤ d.length))) ((impl_HandSum (a, List.take e.toNat d)).bind fun f => bif (ln f) != 3 then some (.inr (.inl false)) else bx (lp laws_FnFair_s521374 (a, b, c, d, e, ((), (), e.toNat), f, 0)) (fun g => some (.inr (.inl g))) fun (g, h, i, j, k) => some (.inl (g, h, i, j, w64 (k + 1))))) else some (.inr (.inr ()))
def laws_FnFair_n1018 : NEnt := ⟨⟨111, [⟨3, .one, cc5⟩, ⟨4, .one, [.own true kI]⟩, ⟨5, .one, [.dat kI]⟩, ⟨7, .one, [.own true kI]⟩, ⟨8, .one, [.dat kI]⟩]⟩, [(.ret, ⟨111, [⟨2, .one, [.dat .bool]⟩]⟩), (.exit 0, ⟨111, []⟩)], lp laws_FnFair_s1018⟩
def laws_FnFair : List Int → Option Bool
  | a => (laws_big a).bind fun b => bif b then some true else (spec_DrawHand a).bind fun (c, d, e, f) => (impl_Hand (c, d, e, f)).bind fun g => (spec_Hand (c, d, e, f)).bind fun h => (laws_sameInts (g, h)).bind fun i => bif !i then some false else bif (ln g) == 0 then some true else bx (lp laws_FnFair_s1018 (c, d, e, g, 1)) (fun j => some j) fun _ => some true
def laws_FnFair_e : FEnt := ⟨109, [.tmp 2], [], [(.one, [.dat (.list kB)])], ⟨111, [⟨2, .one, [.dat .bool]⟩]⟩, laws_FnFair⟩
theorem laws_FnFair_ok : FnOk Try.prog 3 laws_FnFair_e := fnOk_mk (tb := [(33367954, laws_FnFair_n33367954), (521374, laws_FnFair_n521374), (1018, laws_FnFair_n1018)]) (c := (Try.f3.body).getD .skip) mixed Try.func3 (bC laws_big_ok (bC spec_DrawHand_ok (bC impl_Hand_ok (bC spec_Hand_ok (bC laws_sameInts_ok (bC impl_HandSum_ok (bC impl_HandLeft_ok (bC impl_ShareBound_ok bN)))))))) (by kernel_rfl) (by kernel_rfl) (by kernel_rfl) ⟨nodeLoop (by kernel_rfl) laws_FnFair_s33367954 (by kernel_rfl) (by intro d; kernel_rfl), nodeLoop (by kernel_rfl) laws_FnFair_s521374 (by kernel_rfl) (by intro d; kernel_rfl), nodeLoop (by kernel_rfl) laws_FnFair_s1018 (by kernel_rfl) (by intro d; kernel_rfl), trivial⟩ (by intro d; kernel_rfl)


/-! laws.times -/
def laws_times_s58 : t1 → Option (t1 ⊕ Int)
  | (a, b, c, d) => bif decide (d < (ln a)) then ix d a.length (bif (gx a d 0) == b then some (.inl (a, b, w64 (c + 1), w64 (d + 1))) else some (.inl (a, b, c, w64 (d + 1)))) else some (.inr c)
def laws_times_n58 : NEnt := ⟨⟨26, [⟨0, .one, [.dat (.list kI)]⟩, ⟨1, .one, [.dat kI]⟩, ⟨5, .one, [.dat kI]⟩, ⟨6, .one, [.dat kI]⟩]⟩, [(.exit 0, ⟨26, [⟨5, .one, [.dat kI]⟩]⟩)], lp laws_times_s58⟩
def laws_times : List Int × Int → Option Int
  | (a, b) => (lp laws_times_s58 (a, b, 0, 0)).bind fun c => some c
def laws_times_e : FEnt := ⟨22, [.tmp 4], [], [(.one, [.dat (.list kI)]), (.one, [.dat kI])], ⟨26, [⟨4, .one, [.dat kI]⟩]⟩, laws_times⟩
theorem laws_times_ok : FnOk Try.prog 13 laws_times_e := fnOk_mk (tb := [(58, laws_times_n58)]) (c := (Try.f13.body).getD .skip) mixed Try.func13 bN (by kernel_rfl) (by kernel_rfl) (by kernel_rfl) ⟨nodeLoop (by kernel_rfl) laws_times_s58 (by kernel_rfl) (by intro d; kernel_rfl), trivial⟩ (by intro d; kernel_rfl)


/-! laws.FnHanded -/
def laws_FnHanded_s2042 : t11 → Option (t11 ⊕ Bool ⊕ List (List Int) × List Int × List Int × Int)
  | (a, b, c, d, e) => bif decide (e < (ln a)) then ix e a.length (lx e a.length ((laws_times (c, e)).bind fun f => ix e a.length (lx e a.length (bif decide (f > (ln (gx a e []))) then some (.inr (.inl false)) else some (.inl (a, b, c, w64 (d + (ln (gx a e []))), w64 (e + 1))))))) else some (.inr (.inr (a, b, c, d)))
def laws_FnHanded_n2042 : NEnt := ⟨⟨130, [⟨3, .one, cc5⟩, ⟨7, .one, [.own true kI]⟩, ⟨8, .one, [.own true kI]⟩, ⟨9, .one, [.dat kI]⟩, ⟨10, .one, [.dat kI]⟩]⟩, [(.ret, ⟨130, [⟨2, .one, [.dat .bool]⟩]⟩), (.exit 0, ⟨130, [⟨3, .one, cc5⟩, ⟨7, .one, [.own true kI]⟩, ⟨8, .one, [.own true kI]⟩, ⟨9, .one, [.dat kI]⟩]⟩)], lp laws_FnHanded_s2042⟩
def laws_FnHanded_s8186 : t11 → Option (t11 ⊕ Bool ⊕ List (List Int) × List Int × Int)
  | (a, b, c, d, e) => bif decide (e < (ln b)) then ix e b.length (lx e b.length (ix e c.length (lx e c.length (bif (gx b e 0) != (gx c e 0) then some (.inr (.inl false)) else some (.inl (a, b, c, d, w64 (e + 1))))))) else some (.inr (.inr (a, c, d)))
def laws_FnHanded_n8186 : NEnt := ⟨⟨130, [⟨3, .one, cc5⟩, ⟨7, .one, [.own true kI]⟩, ⟨8, .one, [.own true kI]⟩, ⟨9, .one, [.dat kI]⟩, ⟨11, .one, [.dat kI]⟩]⟩, [(.ret, ⟨130, [⟨2, .one, [.dat .bool]⟩]⟩), (.exit 2, ⟨130, [⟨3, .one, cc5⟩, ⟨8, .one, [.own true kI]⟩, ⟨9, .one, [.dat kI]⟩]⟩)], lp laws_FnHanded_s8186⟩
def laws_FnHanded_s8387146 : List (List Int) × List Int × Int × t1 → Option (List (List Int) × List Int × Int × t1 ⊕ List (List Int) × List Int × t0)
  | (a, b, c, d, e, f, g) => ix e a.length (lx e a.length (bif decide (g < (ln (gx a e []))) then ix e a.length (lx e a.length (ix g (gx a e []).length (some (.inl (a, b, c, d, e, w64 (f + (gx (gx a e []) g 0)), w64 (g + 1)))))) else some (.inr (a, b, c, d, e, f))))
def laws_FnHanded_n8387146 : NEnt := ⟨⟨130, [⟨3, .one, cc5⟩, ⟨8, .one, [.own true kI]⟩, ⟨9, .one, [.dat kI]⟩, ⟨12, .one, [.own true kI]⟩, ⟨13, .one, [.dat kI]⟩, ⟨14, .one, [.dat kI]⟩, ⟨15, .one, [.dat kI]⟩]⟩, [(.exit 6, ⟨130, [⟨3, .one, cc5⟩, ⟨8, .one, [.own true kI]⟩, ⟨9, .one, [.dat kI]⟩, ⟨12, .one, [.own true kI]⟩, ⟨13, .one, [.dat kI]⟩, ⟨14, .one, [.dat kI]⟩]⟩)], lp laws_FnHanded_s8387146⟩
def laws_FnHanded_s32762 : t10 → Option (t10 ⊕ Bool ⊕ List Int × Int)
  | (a, b, c, d, e) => bif decide (e < (ln a)) then (lp laws_FnHanded_s8387146 (a, b, c, d, e, 0, 0)).bind fun (f, g, h, i, j, k) => ix j i.length (lx j i.length (bif (gx i j 0) != k then some (.inr (.inl false)) else (impl_HandLeft (f, g, j)).bind fun l => bif l then some (.inr (.inl false)) else some (.inl (f, g, h, i, w64 (j + 1))))) else some (.inr (.inr (b, c)))
def laws_FnHanded_n32762 : NEnt := ⟨⟨130, [⟨3, .one, cc5⟩, ⟨8, .one, [.own true kI]⟩, ⟨9, .one, [.dat kI]⟩, ⟨12, .one, [.own true kI]⟩, ⟨13, .one, [.dat kI]⟩]⟩, [(.ret, ⟨130, [⟨2, .one, [.dat .bool]⟩]⟩), (.exit 4, ⟨130, [⟨8, .one, [.own true kI]⟩, ⟨9, .one, [.dat kI]⟩]⟩)], lp laws_FnHanded_s32762⟩
def laws_FnHanded : List Int → Option Bool
  | a => (laws_big a).bind fun b => bif b then some true else (spec_DrawHand a).bind fun (c, d, e, f) => (impl_Hand (c, d, e, f)).bind fun g => (spec_Hand (c, d, e, f)).bind fun h => (laws_sameInts (g, h)).bind fun i => bif !i then some false else (impl_Hand (c, d, e, 200)).bind fun j => bx (lp laws_FnHanded_s2042 (c, g, j, 0, 0)) (fun k => some k) fun (k, l, m, n) => bif (ln m) == 0 then some ((ln l) == 0) else bx (lp laws_FnHanded_s8186 (k, l, m, n, 0)) (fun o => some o) fun (o, p, q) => (impl_HandSum (o, p)).bind fun r => bx (lp laws_FnHanded_s32762 (o, p, q, r, 0)) (fun s => some s) fun (s, t) => some ((ln s) == t)
def laws_FnHanded_e : FEnt := ⟨128, [.tmp 2], [], [(.one, [.dat (.list kB)])], ⟨130, [⟨2, .one, [.dat .bool]⟩]⟩, laws_FnHanded⟩
theorem laws_FnHanded_ok : FnOk Try.prog 4 laws_FnHanded_e := fnOk_mk (tb := [(8387146, laws_FnHanded_n8387146), (32762, laws_FnHanded_n32762), (8186, laws_FnHanded_n8186), (2042, laws_FnHanded_n2042)]) (c := (Try.f4.body).getD .skip) mixed Try.func4 (bC laws_big_ok (bC spec_DrawHand_ok (bC impl_Hand_ok (bC spec_Hand_ok (bC laws_sameInts_ok (bC laws_times_ok (bC impl_HandSum_ok (bC impl_HandLeft_ok bN)))))))) (by kernel_rfl) (by kernel_rfl) (by kernel_rfl) ⟨nodeLoop (by kernel_rfl) laws_FnHanded_s8387146 (by kernel_rfl) (by intro d; kernel_rfl), nodeLoop (by kernel_rfl) laws_FnHanded_s32762 (by kernel_rfl) (by intro d; kernel_rfl), nodeLoop (by kernel_rfl) laws_FnHanded_s8186 (by kernel_rfl) (by intro d; kernel_rfl), nodeLoop (by kernel_rfl) laws_FnHanded_s2042 (by kernel_rfl) (by intro d; kernel_rfl), trivial⟩ (by intro d; kernel_rfl)

end Go.Proofs.Ytllbngjomgabjaa.Tw
