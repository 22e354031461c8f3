/- Printed by print.lean: typed twins of functions and their proofs. No condition. -/
import Derived.Test.YtkegollaleklaaaV
import Derived.Test.YtkegollaleklaaaProg
import Derived.KernelRfl
namespace Go.Proofs.Ytkegollaleklaaa.Tw
open Go.Mach
set_option linter.unusedVariables false
set_option maxRecDepth 100000
abbrev kI : K := .int .i64
abbrev kB : K := .int .u8
instance tabs : Tabs Try.prog := ⟨[]⟩
abbrev t0 : Type := List (Int × Int) × Int
abbrev t1 : Type := Int × List (Int × Int)
abbrev t2 : Type := Int × Unit × Unit × Unit
abbrev t3 : Type := List Int × List Int × Int
abbrev t4 : Type := List Int × Int × Int × Int
abbrev t5 : Type := List Int × List (List Int)
abbrev t6 : Type := Int × List Int × Int × Int
abbrev t7 : Type := Int × List Int × Int × Bool
abbrev t8 : Type := List (List Int) × Int × Int
abbrev t9 : Type := List (Int × Int) × Int × Int
abbrev t10 : Type := Int × Int × t2
abbrev t11 : Type := List Int × t5
abbrev t12 : Type := Int × t11
abbrev t13 : Type := (Unit × Unit × Unit) × Int × Int × List Int
abbrev t14 : Type := Int × t12
abbrev t15 : Type := Int × t14
abbrev t16 : Type := Int × t15
abbrev t17 : Type := Int × Int × Int × Unit × Int × t10
abbrev t18 : Type := Int × List (Int × Int) × Int × t10
abbrev t19 : Type := List (Int × Int) × t16
abbrev t20 : Type := Int × t19
abbrev t21 : Type := Int × t20
abbrev t22 : Type := Int × t21
abbrev t23 : Type := List t22 × Int
abbrev t24 : Type := List t22 × Int × Int
abbrev kk3 : K := (.list (.list kI))
abbrev kk2 : K := (.list (.pair kI kI))
abbrev kk1 : K := (.pair kI (.pair kI (.pair kI (.pair kk2 (.pair kI (.pair kI (.pair kI (.pair kI (.pair (.list kI) (.pair (.list kI) kk3))))))))))
abbrev kk0 : K := (.list kk1)
abbrev cc0 : List PC := [.dat kI, .dat kI, .dat kI, .dat kk2, .dat kI, .dat kI, .dat kI, .dat kI, .dat (.list kI), .dat (.list kI), .dat kk3]
abbrev cc1 : List PC := [.dat kI, .dat kI, .dat kk2, .dat kI, .dat kI, .dat kI, .dat kI, .dat (.list kI), .dat (.list kI), .dat kk3]
abbrev cc2 : List PC := [.dat kI, .dat kI, .dat kI, .own true (.pair kI kI), .dat kI, .dat kI, .dat kI, .dat kI, .nil, .nil, .nil]
abbrev cc3 : List PC := [.dat kI, .dat kI, .dat kI, .nil, .dat kI, .dat kI, .dat kI, .dat kI, .nil, .nil, .nil]
abbrev cc4 : List PC := [.dat kI, .dat kI, .dat kI, .dat kI, .own true kI, .own true kI, .own true (.list kI)]
abbrev cc5 : List PC := [.dat kI, .dat kI, .dat kI, .dat kI, .dat (.list kI), .dat (.list kI), .dat kk3]
abbrev cc6 : List PC := [.dat (.list kB), .dat kI, .dat .bool]
abbrev cc7 : List PC := [.own true (.pair kI kI)]
abbrev cc8 : List PC := [.own true (.list kI)]
theorem mixed : Try.prog.follows .mixedOrders = true := by kernel_rfl

/-! laws.toByteS -/
def laws_toByteS_s58 : t3 → Option (t3 ⊕ List Int)
  | (a, b, c) => bif decide (c < (ln a)) then ix c a.length (ix c b.length (lx c b.length (some (.inl (a, sx b c (gx a c 0), w64 (c + 1)))))) else some (.inr b)
def laws_toByteS_n58 : NEnt := ⟨⟨24, [⟨0, .one, [.dat (.list kB)]⟩, ⟨3, .one, [.own true kB]⟩, ⟨4, .one, [.dat kI]⟩]⟩, [(.exit 0, ⟨24, [⟨3, .one, [.own true kB]⟩]⟩)], lp laws_toByteS_s58⟩
def laws_toByteS : List Int → Option (List Int)
  | a => chk (decide (((ln a).toNat ≤ (ln a).toNat) ∧ (((ln a).toNat ≤ 4294967296) ∧ (((ln a).toNat * 1) ≤ 140737488355328)))) ((lp laws_toByteS_s58 (a, List.replicate (ln a).toNat 0, 0)).bind fun b => some b)
def laws_toByteS_e : FEnt := ⟨22, [.tmp 2], [], [(.one, [.dat (.list kB)])], ⟨24, [⟨2, .one, [.own true kB]⟩]⟩, laws_toByteS⟩
theorem laws_toByteS_ok : FnOk Try.prog 7 laws_toByteS_e := fnOk_mk (tb := [(58, laws_toByteS_n58)]) (c := (Try.f7.body).getD .skip) mixed Try.func7 bN (by kernel_rfl) (by kernel_rfl) (by kernel_rfl) ⟨nodeLoop (by kernel_rfl) laws_toByteS_s58 (by kernel_rfl) (by intro d; kernel_rfl), trivial⟩ (by intro d; kernel_rfl)


/-! spec.GetNum -/
def spec_GetNum_s58 : t4 → Option (t4 ⊕ Int × Int × Bool ⊕ Unit)
  | (a, b, c, d) => bif decide (d < 5) then bif decide (b < 0) then some (.inr (.inl (0, 0, false))) else bif decide (b ≥ (w64 ((ln a) - d))) then some (.inr (.inl (0, 0, false))) else ix (w64 (b + d)) a.length (chk (!(decide ((w64 (7 * d)) < 0))) ((some (w64 ((Int.tmod (w64 (gx a (w64 (b + d)) 0)) 128) * ((2 : Int) ^ min (Int.toNat (IntKind.wrap IntKind.i64 ((7 : Int) * d))) (64 : Nat))))).bind fun e => (some (decide ((w64 (gx a (w64 (b + d)) 0)) < 128))).bind fun f => bif f then bif decide (d > 0) then bif (w64 (gx a (w64 (b + d)) 0)) == 0 then some (.inr (.inl (0, 0, false))) else (some (decide ((w64 (Int.ofNat (BitVec.toNat (BitVec.ofInt (64 : Nat) c ||| BitVec.ofInt (64 : Nat) e)))) > 2147483647))).bind fun g => bif g then some (.inr (.inl (0, 0, false))) else some (.inr (.inl (w64 (Int.ofNat (BitVec.toNat (BitVec.ofInt (64 : Nat) c ||| BitVec.ofInt (64 : Nat) e))), w64 ((w64 (b + d)) + 1), true))) else (some (decide ((w64 (Int.ofNat (BitVec.toNat (BitVec.ofInt (64 : Nat) c ||| BitVec.ofInt (64 : Nat) e)))) > 2147483647))).bind fun g => bif g then some (.inr (.inl (0, 0, false))) else some (.inr (.inl (w64 (Int.ofNat (BitVec.toNat (BitVec.ofInt (64 : Nat) c ||| BitVec.ofInt (64 : Nat) e))), w64 ((w64 (b + d)) + 1), true))) else some (.inl (a, b, w64 (Int.ofNat (BitVec.toNat (BitVec.ofInt (64 : Nat) c ||| BitVec.ofInt (64 : Nat) e))), w64 (d + 1))))) else some (.inr (.inr ()))
def spec_GetNum_n58 : NEnt := ⟨⟨59, [⟨0, .one, [.dat (.list kB)]⟩, ⟨1, .one, [.dat kI]⟩, ⟨7, .one, [.dat kI]⟩, ⟨8, .one, [.dat kI]⟩]⟩, [(.ret, ⟨59, [⟨4, .one, [.dat kI]⟩, ⟨5, .one, [.dat kI]⟩, ⟨6, .one, [.dat .bool]⟩]⟩), (.exit 0, ⟨59, []⟩)], lp spec_GetNum_s58⟩
def spec_GetNum : List Int × Int → Option (Int × Int × Bool)
  | (a, b) => bx (lp spec_GetNum_s58 (a, b, 0, 0)) (fun (c, d, e) => some (c, d, e)) fun _ => some (0, 0, false)
def spec_GetNum_e : FEnt := ⟨55, [.tmp 4, .tmp 5, .tmp 6], [], [(.one, [.dat (.list kB)]), (.one, [.dat kI])], ⟨59, [⟨4, .one, [.dat kI]⟩, ⟨5, .one, [.dat kI]⟩, ⟨6, .one, [.dat .bool]⟩]⟩, spec_GetNum⟩
theorem spec_GetNum_ok : FnOk Try.prog 25 spec_GetNum_e := fnOk_mk (tb := [(58, spec_GetNum_n58)]) (c := (Try.f25.body).getD .skip) mixed Try.func25 bN (by kernel_rfl) (by kernel_rfl) (by kernel_rfl) ⟨nodeLoop (by kernel_rfl) spec_GetNum_s58 (by kernel_rfl) (by intro d; kernel_rfl), trivial⟩ (by intro d; kernel_rfl)


/-! spec.l7Get -/
def spec_l7Get_s58 : List Int × Int × Int × List Int × Int → Option (List Int × Int × Int × List Int × Int ⊕ List Int × Int × Bool ⊕ Int × List Int)
  | (a, b, c, d, e) => bif decide (e < c) then (spec_GetNum (a, b)).bind fun (f, g, h) => bif !h then some (.inr (.inl ([], 0, false))) else chk (fits (d.length + [f].length) 8) (some (.inl (a, g, c, d ++ [f], w64 (e + 1)))) else some (.inr (.inr (b, d)))
def spec_l7Get_n58 : NEnt := ⟨⟨43, [⟨0, .one, [.dat (.list kB)]⟩, ⟨1, .one, [.dat kI]⟩, ⟨2, .one, [.dat kI]⟩, ⟨9, .one, [.own true kI]⟩, ⟨10, .one, [.dat kI]⟩]⟩, [(.ret, ⟨43, [⟨6, .one, [.own true kI]⟩, ⟨7, .one, [.dat kI]⟩, ⟨8, .one, [.dat .bool]⟩]⟩), (.exit 0, ⟨43, [⟨1, .one, [.dat kI]⟩, ⟨9, .one, [.own true kI]⟩]⟩)], lp spec_l7Get_s58⟩
def spec_l7Get : List Int × Int × Int → Option (List Int × Int × Bool)
  | (a, b, c) => bx (lp spec_l7Get_s58 (a, b, c, [], 0)) (fun (d, e, f) => some (d, e, f)) fun (d, e) => some (e, d, true)
def spec_l7Get_e : FEnt := ⟨37, [.tmp 6, .tmp 7, .tmp 8], [], [(.one, [.dat (.list kB)]), (.one, [.dat kI]), (.one, [.dat kI])], ⟨43, [⟨6, .one, [.own true kI]⟩, ⟨7, .one, [.dat kI]⟩, ⟨8, .one, [.dat .bool]⟩]⟩, spec_l7Get⟩
theorem spec_l7Get_ok : FnOk Try.prog 52 spec_l7Get_e := fnOk_mk (tb := [(58, spec_l7Get_n58)]) (c := (Try.f52.body).getD .skip) mixed Try.func52 (bC spec_GetNum_ok bN) (by kernel_rfl) (by kernel_rfl) (by kernel_rfl) ⟨nodeLoop (by kernel_rfl) spec_l7Get_s58 (by kernel_rfl) (by intro d; kernel_rfl), trivial⟩ (by intro d; kernel_rfl)


/-! spec.l1In -/
def spec_l1In : Int × Int × Int → Option Bool
  | (a, b, c) => bif decide (a ≥ b) then some (decide (a ≤ c)) else some false
def spec_l1In_e : FEnt := ⟨15, [.tmp 6], [], [(.one, [.dat kI]), (.one, [.dat kI]), (.one, [.dat kI])], ⟨21, [⟨6, .one, [.dat .bool]⟩]⟩, spec_l1In⟩
theorem spec_l1In_ok : FnOk Try.prog 54 spec_l1In_e := fnOk_mk (tb := []) (c := (Try.f54.body).getD .skip) mixed Try.func54 bN (by kernel_rfl) (by kernel_rfl) (by kernel_rfl) trivial (by intro d; kernel_rfl)


/-! spec.l3List -/
def spec_l3List_s58 : List Int × Int × Int × Bool × Int → Option (List Int × Int × Int × Bool × Int ⊕ Bool ⊕ Unit)
  | (a, b, c, d, e) => bif decide (e < b) then ix e a.length ((spec_l1In (gx a e 0, 0, c)).bind fun f => bif !f then some (.inr (.inl false)) else bif d then ix e a.length (bif (gx a e 0) != 0 then some (.inr (.inl false)) else some (.inl (a, b, c, d, w64 (e + 1)))) else some (.inl (a, b, c, d, w64 (e + 1)))) else some (.inr (.inr ()))
def spec_l3List_n58 : NEnt := ⟨⟨44, [⟨0, .one, [.dat (.list kI)]⟩, ⟨1, .one, [.dat kI]⟩, ⟨2, .one, [.dat kI]⟩, ⟨3, .one, [.dat .bool]⟩, ⟨9, .one, [.dat kI]⟩]⟩, [(.ret, ⟨44, [⟨8, .one, [.dat .bool]⟩]⟩), (.exit 0, ⟨44, []⟩)], lp spec_l3List_s58⟩
def spec_l3List : List Int × Int × Int × Bool → Option Bool
  | (a, b, c, d) => bif (ln a) != b then some false else bx (lp spec_l3List_s58 (a, b, c, d, 0)) (fun e => some e) fun _ => some true
def spec_l3List_e : FEnt := ⟨36, [.tmp 8], [], [(.one, [.dat (.list kI)]), (.one, [.dat kI]), (.one, [.dat kI]), (.one, [.dat .bool])], ⟨44, [⟨8, .one, [.dat .bool]⟩]⟩, spec_l3List⟩
theorem spec_l3List_ok : FnOk Try.prog 96 spec_l3List_e := fnOk_mk (tb := [(58, spec_l3List_n58)]) (c := (Try.f96.body).getD .skip) mixed Try.func96 (bC spec_l1In_ok bN) (by kernel_rfl) (by kernel_rfl) (by kernel_rfl) ⟨nodeLoop (by kernel_rfl) spec_l3List_s58 (by kernel_rfl) (by intro d; kernel_rfl), trivial⟩ (by intro d; kernel_rfl)


/-! spec.SketchOk -/
def spec_SketchOk_l31 : t16 × Bool → Option Bool
  | ((a, b, c, d, e, f, g), h) => (spec_l3List (e, 8, 1000000000, h)).bind fun i => bif i then (spec_l3List (f, 8, 17, h)).bind fun j => bif j then chk (decide (0 < g.length)) ((spec_l3List (List.getD g 0 [], 4, 1000000000, h)).bind fun k => bif k then chk (decide (1 < g.length)) ((spec_l3List (List.getD g 1 [], 4, 1000000000, h)).bind fun l => some l) else some false) else some false else some false
def spec_SketchOk_n31 : NEnt := ⟨⟨81, [⟨1, .box, cc5⟩, ⟨3, .one, [.dat .bool]⟩]⟩, [(.ret, ⟨81, [⟨2, .one, [.dat .bool]⟩]⟩)], spec_SketchOk_l31⟩
def spec_SketchOk : t16 → Option Bool
  | (a, b, c, d, e, f, g) => (spec_l1In (a, 0, 1000000000)).bind fun h => bif !h then some false else (spec_l1In (b, 0, 1000000000)).bind fun i => bif !i then some false else (spec_l1In (c, 0, 1000000)).bind fun j => bif !j then some false else (spec_l1In (d, 0, 1000000)).bind fun k => bif !k then some false else bif decide (c > d) then some false else bif (ln g) != 2 then some false else bif a == 0 then bif b != 0 then some false else bif d != 0 then some false else (spec_SketchOk_l31 ((a, b, c, d, e, f, g), a == 0)).bind fun l => some l else (spec_SketchOk_l31 ((a, b, c, d, e, f, g), a == 0)).bind fun l => some l
def spec_SketchOk_e : FEnt := ⟨79, [.tmp 2], [], [(.agg, cc5)], ⟨81, [⟨2, .one, [.dat .bool]⟩]⟩, spec_SketchOk⟩
theorem spec_SketchOk_ok : FnOk Try.prog 74 spec_SketchOk_e := fnOk_mk (tb := [(31, spec_SketchOk_n31)]) (c := (Try.f74.body).getD .skip) mixed Try.func74 (bC spec_l1In_ok (bC spec_l3List_ok bN)) (by kernel_rfl) (by kernel_rfl) (by kernel_rfl) ⟨nodeJoin (by kernel_rfl) (by intro d; kernel_rfl), trivial⟩ (by intro d; kernel_rfl)


/-! spec.SketchOf -/
def spec_SketchOf : List Int → Option (t16 × Bool)
  | a => (spec_l7Get (a, 0, 28)).bind fun (b, c, d) => bif !d then some ((0, 0, 0, 0, [], [], []), false) else bif c != (ln a) then some ((0, 0, 0, 0, [], [], []), false) else chk (decide (0 < b.length)) (chk (decide (0 < b.length)) (chk (decide (1 < b.length)) (chk (decide (1 < b.length)) (chk (decide (2 < b.length)) (chk (decide (2 < b.length)) (chk (decide (3 < b.length)) (chk (decide (3 < b.length)) (chk (decide (((4 : Nat) ≤ 12) ∧ (12 ≤ b.length))) (chk (fits (0 + (List.drop 4 (List.take 12 b)).length) 8) (chk (decide (((12 : Nat) ≤ 20) ∧ (20 ≤ b.length))) (chk (fits (0 + (List.drop 12 (List.take 20 b)).length) 8) ((some (w64 ((w64 ((w64 (4 + 8)) + 8)) + 4))).bind fun e => g0 e (chk (decide ((20 ≤ e.toNat) ∧ (e.toNat ≤ b.length))) (chk (fits (0 + (List.drop 20 (List.take e.toNat b)).length) 8) ((some (w64 ((w64 ((w64 (4 + 8)) + 8)) + 4))).bind fun f => g0 f (chk (decide ((f.toNat ≤ b.length) ∧ (b.length ≤ b.length))) (chk (fits (0 + (List.drop f.toNat b).length) 8) ((some [[] ++ (List.drop 20 (List.take e.toNat b)), [] ++ (List.drop f.toNat b)]).bind fun g => (spec_SketchOk (List.getD b 0 0, List.getD b 1 0, List.getD b 2 0, List.getD b 3 0, [] ++ (List.drop 4 (List.take 12 b)), [] ++ (List.drop 12 (List.take 20 b)), g)).bind fun h => bif !h then some ((0, 0, 0, 0, [], [], []), false) else some ((List.getD b 0 0, List.getD b 1 0, List.getD b 2 0, List.getD b 3 0, [] ++ (List.drop 4 (List.take 12 b)), [] ++ (List.drop 12 (List.take 20 b)), g), true)))))))))))))))))))
def spec_SketchOf_e : FEnt := ⟨79, [.cell 2 true 7, .tmp 3], [], [(.one, [.dat (.list kB)])], ⟨81, [⟨2, .box, cc4⟩, ⟨3, .one, [.dat .bool]⟩]⟩, spec_SketchOf⟩
theorem spec_SketchOf_ok : FnOk Try.prog 53 spec_SketchOf_e := fnOk_mk (tb := []) (c := (Try.f53.body).getD .skip) mixed Try.func53 (bC spec_l7Get_ok (bC spec_SketchOk_ok bN)) (by kernel_rfl) (by kernel_rfl) (by kernel_rfl) trivial (by intro d; kernel_rfl)


/-! spec.l25One -/
def spec_l25One_s1018 : List Int × t17 × List Int × Int × (Int × Int × t18) × Int → Option (List Int × t17 × List Int × Int × (Int × Int × t18) × Int ⊕ List Int × t17 × Int × Int × Int × t18)
  | (a, (b, c, d, _, e, f, g, h, _, _, _), i, j, (k, l, m, n, o, p, q, r, _, _, _), s) => (some (decide ((w64 (s + 1)) < (ln i)))).bind fun t => bif t then ix s i.length (lx s i.length (ix (w64 (s + 1)) i.length (lx (w64 (s + 1)) i.length (chk (fits (n.length + [(gx i s 0, gx i (w64 (s + 1)) 0)].length) 16) ((some (n ++ [(gx i s 0, gx i (w64 (s + 1)) 0)])).bind fun u => some (.inl (a, (b, c, d, (), e, f, g, h, (), (), ()), i, j, (k, l, m, u, o, p, q, r, (), (), ()), w64 (s + 2)))))))) else some (.inr (a, (b, c, d, (), e, f, g, h, (), (), ()), j, k, l, m, n, o, p, q, r, (), (), ()))
def spec_l25One_n1018 : NEnt := ⟨⟨93, [⟨0, .one, [.dat (.list kB)]⟩, ⟨2, .box, cc3⟩, ⟨7, .one, [.own true kI]⟩, ⟨8, .one, [.dat kI]⟩, ⟨9, .box, cc2⟩, ⟨10, .one, [.dat kI]⟩]⟩, [(.exit 0, ⟨93, [⟨0, .one, [.dat (.list kB)]⟩, ⟨2, .box, cc3⟩, ⟨8, .one, [.dat kI]⟩, ⟨9, .box, cc2⟩]⟩)], lp spec_l25One_s1018⟩
def spec_l25One : List Int → Option (t22 × Bool)
  | a => (spec_l7Get (a, 0, 4)).bind fun (b, c, d) => bif !d then some ((0, 0, 0, [], 0, 0, 0, 0, [], [], []), false) else chk (decide (3 < b.length)) (chk (decide (3 < b.length)) (bif decide ((List.getD b 3 0) > (ln a)) then some ((0, 0, 0, [], 0, 0, 0, 0, [], [], []), false) else chk (decide (3 < b.length)) (chk (decide (3 < b.length)) ((spec_l7Get (a, c, w64 (2 * (List.getD b 3 0)))).bind fun (e, f, g) => bif !g then some ((0, 0, 0, [], 0, 0, 0, 0, [], [], []), false) else chk (decide (0 < b.length)) (chk (decide (0 < b.length)) (chk (decide (1 < b.length)) (chk (decide (1 < b.length)) (chk (decide (2 < b.length)) (chk (decide (2 < b.length)) ((lp spec_l25One_s1018 (a, (0, 0, 0, (), 0, 0, 0, 0, (), (), ()), e, f, (List.getD b 0 0, List.getD b 1 0, List.getD b 2 0, [], 0, 0, 0, 0, (), (), ()), 0)).bind fun (h, (i, j, k, _, l, m, n, o, _, _, _), p, q, r, s, t, u, v, w, x, _, _, _) => g0 p (chk (decide ((p.toNat ≤ h.length) ∧ (h.length ≤ h.length))) ((spec_SketchOf (List.drop p.toNat h)).bind fun ((y, z, a1, b1, c1, d1, e1), f1) => some ((q, r, s, t, y, z, a1, b1, c1, d1, e1), f1)))))))))))))
def spec_l25One_e : FEnt := ⟨91, [.cell 2 true 11, .tmp 3], [], [(.one, [.dat (.list kB)])], ⟨93, [⟨2, .box, [.dat kI, .dat kI, .dat kI, .own true (.pair kI kI), .dat kI, .dat kI, .dat kI, .dat kI, .own true kI, .own true kI, .own true (.list kI)]⟩, ⟨3, .one, [.dat .bool]⟩]⟩, spec_l25One⟩
theorem spec_l25One_ok : FnOk Try.prog 26 spec_l25One_e := fnOk_mk (tb := [(1018, spec_l25One_n1018)]) (c := (Try.f26.body).getD .skip) mixed Try.func26 (bC spec_l7Get_ok (bC spec_SketchOf_ok bN)) (by kernel_rfl) (by kernel_rfl) (by kernel_rfl) ⟨nodeLoop (by kernel_rfl) spec_l25One_s1018 (by kernel_rfl) (by intro d; kernel_rfl), trivial⟩ (by intro d; kernel_rfl)


/-! spec.l6Place -/
def spec_l6Place : Int × Int → Option Bool
  | (a, b) => (spec_l1In (a, 0, 4)).bind fun c => bif c then (spec_l1In (b, 0, 20)).bind fun d => some d else some false
def spec_l6Place_e : FEnt := ⟨11, [.tmp 4], [], [(.one, [.dat kI]), (.one, [.dat kI])], ⟨15, [⟨4, .one, [.dat .bool]⟩]⟩, spec_l6Place⟩
theorem spec_l6Place_ok : FnOk Try.prog 75 spec_l6Place_e := fnOk_mk (tb := []) (c := (Try.f75.body).getD .skip) mixed Try.func75 (bC spec_l1In_ok bN) (by kernel_rfl) (by kernel_rfl) (by kernel_rfl) trivial (by intro d; kernel_rfl)


/-! spec.SetOk -/
def spec_SetOk_s26 : t0 → Option (t0 ⊕ Bool ⊕ Unit)
  | (a, b) => bif decide (b < (ln a)) then ix b a.length ((some (gx a b (0, 0))).bind fun (c, d) => (spec_l1In (c, 0, 9999)).bind fun e => bif !e then some (.inr (.inl false)) else ix b a.length ((some (gx a b (0, 0))).bind fun (f, g) => ix b a.length ((some (gx a b (0, 0))).bind fun (h, i) => (spec_l1In (g, h, 9999)).bind fun j => bif !j then some (.inr (.inl false)) else bif decide (b > 0) then ix b a.length ((some (gx a b (0, 0))).bind fun (k, l) => ix (w64 (b - 1)) a.length ((some (gx a (w64 (b - 1)) (0, 0))).bind fun (m, n) => bif decide (k ≤ (w64 (n + 1))) then some (.inr (.inl false)) else some (.inl (a, w64 (b + 1))))) else some (.inl (a, w64 (b + 1)))))) else some (.inr (.inr ()))
def spec_SetOk_n26 : NEnt := ⟨⟨52, [⟨0, .one, [.dat kk2]⟩, ⟨3, .one, [.dat kI]⟩]⟩, [(.ret, ⟨52, [⟨2, .one, [.dat .bool]⟩]⟩), (.exit 0, ⟨52, []⟩)], lp spec_SetOk_s26⟩
def spec_SetOk : List (Int × Int) → Option Bool
  | a => bx (lp spec_SetOk_s26 (a, 0)) (fun b => some b) fun _ => some true
def spec_SetOk_e : FEnt := ⟨50, [.tmp 2], [], [(.one, [.dat kk2])], ⟨52, [⟨2, .one, [.dat .bool]⟩]⟩, spec_SetOk⟩
theorem spec_SetOk_ok : FnOk Try.prog 76 spec_SetOk_e := fnOk_mk (tb := [(26, spec_SetOk_n26)]) (c := (Try.f76.body).getD .skip) mixed Try.func76 (bC spec_l1In_ok bN) (by kernel_rfl) (by kernel_rfl) (by kernel_rfl) ⟨nodeLoop (by kernel_rfl) spec_SetOk_s26 (by kernel_rfl) (by intro d; kernel_rfl), trivial⟩ (by intro d; kernel_rfl)


/-! spec.EntryOk -/
def spec_EntryOk : t21 → Option Bool
  | (a, b, c, d, e, f, g, h, i, j) => (spec_l6Place (a, b)).bind fun k => bif k then bif decide ((ln c) > 0) then (spec_SetOk c).bind fun l => bif l then (spec_SketchOk (d, e, f, g, h, i, j)).bind fun m => some m else some false else some false else some false
def spec_EntryOk_e : FEnt := ⟨24, [.tmp 2], [], [(.agg, cc1)], ⟨26, [⟨2, .one, [.dat .bool]⟩]⟩, spec_EntryOk⟩
theorem spec_EntryOk_ok : FnOk Try.prog 55 spec_EntryOk_e := fnOk_mk (tb := []) (c := (Try.f55.body).getD .skip) mixed Try.func55 (bC spec_l6Place_ok (bC spec_SetOk_ok (bC spec_SketchOk_ok bN))) (by kernel_rfl) (by kernel_rfl) (by kernel_rfl) trivial (by intro d; kernel_rfl)


/-! spec.OutsOk -/
def spec_OutsOk_s26 : t23 → Option (t23 ⊕ Bool ⊕ Unit)
  | (a, b) => (some (decide (b < (ln a)))).bind fun c => bif c then ix b a.length ((some (gx a b (0, 0, 0, [], 0, 0, 0, 0, [], [], []))).bind fun (d, e, f, g, h, i, j, k, l, m, n) => (spec_l1In (d, 0, 1000)).bind fun o => bif !o then some (.inr (.inl false)) else ix b a.length ((some (gx a b (0, 0, 0, [], 0, 0, 0, 0, [], [], []))).bind fun (p, q, r, s, t, u, v, w, x, y, z) => (spec_EntryOk (q, r, s, t, u, v, w, x, y, z)).bind fun a1 => bif !a1 then some (.inr (.inl false)) else some (.inl (a, w64 (b + 1))))) else some (.inr (.inr ()))
def spec_OutsOk_n26 : NEnt := ⟨⟨28, [⟨0, .one, [.dat kk0]⟩, ⟨3, .one, [.dat kI]⟩]⟩, [(.ret, ⟨28, [⟨2, .one, [.dat .bool]⟩]⟩), (.exit 0, ⟨28, []⟩)], lp spec_OutsOk_s26⟩
def spec_OutsOk : List t22 → Option Bool
  | a => bx (lp spec_OutsOk_s26 (a, 0)) (fun b => some b) fun _ => some true
def spec_OutsOk_e : FEnt := ⟨26, [.tmp 2], [], [(.one, [.dat kk0])], ⟨28, [⟨2, .one, [.dat .bool]⟩]⟩, spec_OutsOk⟩
theorem spec_OutsOk_ok : FnOk Try.prog 27 spec_OutsOk_e := fnOk_mk (tb := [(26, spec_OutsOk_n26)]) (c := (Try.f27.body).getD .skip) mixed Try.func27 (bC spec_l1In_ok (bC spec_EntryOk_ok bN)) (by kernel_rfl) (by kernel_rfl) (by kernel_rfl) ⟨nodeLoop (by kernel_rfl) spec_OutsOk_s26 (by kernel_rfl) (by intro d; kernel_rfl), trivial⟩ (by intro d; kernel_rfl)


/-! spec.PutNum -/
def spec_PutNum_s60 : Int × List Int → Option (Int × List Int ⊕ Int × List Int)
  | (a, b) => bif decide (a > 127) then chk (fits (b.length + [IntKind.wrap IntKind.u8 (IntKind.wrap IntKind.i64 (Int.tmod a (128 : Int) + (128 : Int)))].length) 1) (some (.inl (w64 (Int.tdiv a 128), b ++ [IntKind.wrap IntKind.u8 (IntKind.wrap IntKind.i64 (Int.tmod a (128 : Int) + (128 : Int)))]))) else some (.inr (a, b))
def spec_PutNum_n60 : NEnt := ⟨⟨27, [⟨0, .one, [.dat kI]⟩, ⟨3, .one, [.own true kB]⟩]⟩, [(.exit 0, ⟨27, [⟨0, .one, [.dat kI]⟩, ⟨3, .one, [.own true kB]⟩]⟩)], lp spec_PutNum_s60⟩
def spec_PutNum : Int → Option (List Int)
  | a => (spec_l1In (a, 0, 2147483647)).bind fun b => bif !b then some [] else (lp spec_PutNum_s60 (a, [])).bind fun (c, d) => chk (fits (d.length + [IntKind.wrap IntKind.u8 c].length) 1) (some (d ++ [IntKind.wrap IntKind.u8 c]))
def spec_PutNum_e : FEnt := ⟨25, [.tmp 2], [], [(.one, [.dat kI])], ⟨27, [⟨2, .one, [.own true kB]⟩]⟩, spec_PutNum⟩
theorem spec_PutNum_ok : FnOk Try.prog 56 spec_PutNum_e := fnOk_mk (tb := [(60, spec_PutNum_n60)]) (c := (Try.f56.body).getD .skip) mixed Try.func56 (bC spec_l1In_ok bN) (by kernel_rfl) (by kernel_rfl) (by kernel_rfl) ⟨nodeLoop (by kernel_rfl) spec_PutNum_s60 (by kernel_rfl) (by intro d; kernel_rfl), trivial⟩ (by intro d; kernel_rfl)


/-! spec.l7Put -/
def spec_l7Put_s58 : t3 → Option (t3 ⊕ List Int)
  | (a, b, c) => bif decide (c < (ln a)) then ix c a.length ((spec_PutNum (gx a c 0)).bind fun d => chk (fits (b.length + d.length) 1) (some (.inl (a, b ++ d, w64 (c + 1))))) else some (.inr b)
def spec_l7Put_n58 : NEnt := ⟨⟨22, [⟨0, .one, [.dat (.list kI)]⟩, ⟨3, .one, [.own true kB]⟩, ⟨4, .one, [.dat kI]⟩]⟩, [(.exit 0, ⟨22, [⟨3, .one, [.own true kB]⟩]⟩)], lp spec_l7Put_s58⟩
def spec_l7Put : List Int → Option (List Int)
  | a => (lp spec_l7Put_s58 (a, [], 0)).bind fun b => some b
def spec_l7Put_e : FEnt := ⟨20, [.tmp 2], [], [(.one, [.dat (.list kI)])], ⟨22, [⟨2, .one, [.own true kB]⟩]⟩, spec_l7Put⟩
theorem spec_l7Put_ok : FnOk Try.prog 77 spec_l7Put_e := fnOk_mk (tb := [(58, spec_l7Put_n58)]) (c := (Try.f77.body).getD .skip) mixed Try.func77 (bC spec_PutNum_ok bN) (by kernel_rfl) (by kernel_rfl) (by kernel_rfl) ⟨nodeLoop (by kernel_rfl) spec_l7Put_s58 (by kernel_rfl) (by intro d; kernel_rfl), trivial⟩ (by intro d; kernel_rfl)


/-! spec.l7Nums -/
def spec_l7Nums_s250 : t16 × List Int × Int → Option (t16 × List Int × Int ⊕ List Int)
  | ((a, b, c, d, e, f, g), h, i) => bif decide (i < (ln g)) then ix i g.length (chk (fits (h.length + (gx g i []).length) 8) (some (.inl ((a, b, c, d, e, f, g), h ++ (gx g i []), w64 (i + 1))))) else some (.inr h)
def spec_l7Nums_n250 : NEnt := ⟨⟨39, [⟨1, .box, cc5⟩, ⟨3, .one, [.own true kI]⟩, ⟨4, .one, [.dat kI]⟩]⟩, [(.exit 0, ⟨39, [⟨3, .one, [.own true kI]⟩]⟩)], lp spec_l7Nums_s250⟩
def spec_l7Nums : t16 → Option (List Int)
  | (a, b, c, d, e, f, g) => chk (fits ([a, b, c, d].length + e.length) 8) (chk (fits (([a, b, c, d] ++ e).length + f.length) 8) ((lp spec_l7Nums_s250 ((a, b, c, d, e, f, g), ([a, b, c, d] ++ e) ++ f, 0)).bind fun h => some h))
def spec_l7Nums_e : FEnt := ⟨37, [.tmp 2], [], [(.agg, cc5)], ⟨39, [⟨2, .one, [.own true kI]⟩]⟩, spec_l7Nums⟩
theorem spec_l7Nums_ok : FnOk Try.prog 97 spec_l7Nums_e := fnOk_mk (tb := [(250, spec_l7Nums_n250)]) (c := (Try.f97.body).getD .skip) mixed Try.func97 bN (by kernel_rfl) (by kernel_rfl) (by kernel_rfl) ⟨nodeLoop (by kernel_rfl) spec_l7Nums_s250 (by kernel_rfl) (by intro d; kernel_rfl), trivial⟩ (by intro d; kernel_rfl)


/-! spec.SketchBytes -/
def spec_SketchBytes : t16 → Option (List Int)
  | (a, b, c, d, e, f, g) => (spec_SketchOk (a, b, c, d, e, f, g)).bind fun h => bif !h then some [] else (spec_l7Nums (a, b, c, d, e, f, g)).bind fun i => (spec_l7Put i).bind fun j => some j
def spec_SketchBytes_e : FEnt := ⟨10, [.tmp 2], [], [(.agg, cc5)], ⟨12, [⟨2, .one, [.own true kB]⟩]⟩, spec_SketchBytes⟩
theorem spec_SketchBytes_ok : FnOk Try.prog 78 spec_SketchBytes_e := fnOk_mk (tb := []) (c := (Try.f78.body).getD .skip) mixed Try.func78 (bC spec_SketchOk_ok (bC spec_l7Nums_ok (bC spec_l7Put_ok bN))) (by kernel_rfl) (by kernel_rfl) (by kernel_rfl) trivial (by intro d; kernel_rfl)


/-! spec.OutBytes -/
def spec_OutBytes_s122 : t22 × List Int × Int → Option (t22 × List Int × Int ⊕ t22 × List Int)
  | ((a, b, c, d, e, f, g, h, i, j, k), l, m) => bif decide (m < (ln d)) then ix m d.length ((some (gx d m (0, 0))).bind fun (n, o) => ix m d.length ((some (gx d m (0, 0))).bind fun (p, q) => (spec_l7Put [n, q]).bind fun r => chk (fits (l.length + r.length) 1) (some (.inl ((a, b, c, d, e, f, g, h, i, j, k), l ++ r, w64 (m + 1)))))) else some (.inr ((a, b, c, d, e, f, g, h, i, j, k), l))
def spec_OutBytes_n122 : NEnt := ⟨⟨58, [⟨1, .box, cc0⟩, ⟨3, .one, [.own true kB]⟩, ⟨4, .one, [.dat kI]⟩]⟩, [(.exit 0, ⟨58, [⟨1, .box, cc0⟩, ⟨3, .one, [.own true kB]⟩]⟩)], lp spec_OutBytes_s122⟩
def spec_OutBytes : t22 → Option (List Int)
  | (a, b, c, d, e, f, g, h, i, j, k) => (some [(a, b, c, d, e, f, g, h, i, j, k)]).bind fun l => (spec_OutsOk l).bind fun m => bif !m then some [] else (spec_l7Put [a, b, c, ln d]).bind fun n => (lp spec_OutBytes_s122 ((a, b, c, d, e, f, g, h, i, j, k), n, 0)).bind fun ((o, p, q, r, s, t, u, v, w, x, y), z) => (spec_SketchBytes (s, t, u, v, w, x, y)).bind fun a1 => chk (fits (z.length + a1.length) 1) (some (z ++ a1))
def spec_OutBytes_e : FEnt := ⟨56, [.tmp 2], [], [(.agg, cc0)], ⟨58, [⟨2, .one, [.own true kB]⟩]⟩, spec_OutBytes⟩
theorem spec_OutBytes_ok : FnOk Try.prog 57 spec_OutBytes_e := fnOk_mk (tb := [(122, spec_OutBytes_n122)]) (c := (Try.f57.body).getD .skip) mixed Try.func57 (bC spec_OutsOk_ok (bC spec_l7Put_ok (bC spec_SketchBytes_ok bN))) (by kernel_rfl) (by kernel_rfl) (by kernel_rfl) ⟨nodeLoop (by kernel_rfl) spec_OutBytes_s122 (by kernel_rfl) (by intro d; kernel_rfl), trivial⟩ (by intro d; kernel_rfl)


/-! spec.OutsBytes -/
def spec_OutsBytes_s122 : List t22 × List Int × Int → Option (List t22 × List Int × Int ⊕ List Int)
  | (a, b, c) => (some (decide (c < (ln a)))).bind fun d => bif d then ix c a.length ((some (gx a c (0, 0, 0, [], 0, 0, 0, 0, [], [], []))).bind fun (e, f, g, h, i, j, k, l, m, n, o) => (spec_OutBytes (e, f, g, h, i, j, k, l, m, n, o)).bind fun p => (spec_PutNum (ln p)).bind fun q => chk (fits (b.length + q.length) 1) (chk (fits ((b ++ q).length + p.length) 1) (some (.inl (a, (b ++ q) ++ p, w64 (c + 1)))))) else some (.inr b)
def spec_OutsBytes_n122 : NEnt := ⟨⟨40, [⟨0, .one, [.dat kk0]⟩, ⟨3, .one, [.own true kB]⟩, ⟨4, .one, [.dat kI]⟩]⟩, [(.exit 0, ⟨40, [⟨3, .one, [.own true kB]⟩]⟩)], lp spec_OutsBytes_s122⟩
def spec_OutsBytes : List t22 → Option (List Int)
  | a => (spec_OutsOk a).bind fun b => bif !b then some [] else (some (decide ((ln a) > 200))).bind fun c => bif c then some [] else (spec_PutNum (ln a)).bind fun d => (lp spec_OutsBytes_s122 (a, d, 0)).bind fun e => some e
def spec_OutsBytes_e : FEnt := ⟨38, [.tmp 2], [], [(.one, [.dat kk0])], ⟨40, [⟨2, .one, [.own true kB]⟩]⟩, spec_OutsBytes⟩
theorem spec_OutsBytes_ok : FnOk Try.prog 28 spec_OutsBytes_e := fnOk_mk (tb := [(122, spec_OutsBytes_n122)]) (c := (Try.f28.body).getD .skip) mixed Try.func28 (bC spec_OutsOk_ok (bC spec_PutNum_ok (bC spec_OutBytes_ok bN))) (by kernel_rfl) (by kernel_rfl) (by kernel_rfl) ⟨nodeLoop (by kernel_rfl) spec_OutsBytes_s122 (by kernel_rfl) (by intro d; kernel_rfl), trivial⟩ (by intro d; kernel_rfl)


/-! spec.OutsOf -/
def spec_OutsOf_s250 : List Int × List t22 × Int × Int × Int → Option (List Int × List t22 × Int × Int × Int ⊕ List t22 × Bool ⊕ List Int × List t22)
  | (a, b, c, d, e) => bif decide (e < c) then (spec_GetNum (a, d)).bind fun (f, g, h) => bif !h then some (.inr (.inl ([], false))) else bif decide (f > (w64 ((ln a) - g))) then some (.inr (.inl ([], false))) else g0 g (g0 (w64 (g + f)) (chk (decide ((g.toNat ≤ (w64 (g + f)).toNat) ∧ ((w64 (g + f)).toNat ≤ a.length))) ((spec_l25One (List.drop g.toNat (List.take (w64 (g + f)).toNat a))).bind fun ((i, j, k, l, m, n, o, p, q, r, s), t) => bif !t then some (.inr (.inl ([], false))) else (some [(i, j, k, l, m, n, o, p, q, r, s)]).bind fun u => chk (fits (b.length + u.length) 152) ((some (b ++ u)).bind fun v => some (.inl (a, v, c, w64 (g + f), w64 (e + 1))))))) else some (.inr (.inr (a, b)))
def spec_OutsOf_n250 : NEnt := ⟨⟨86, [⟨0, .one, [.dat (.list kB)]⟩, ⟨4, .one, [.own true kk1]⟩, ⟨5, .one, [.dat kI]⟩, ⟨6, .one, [.dat kI]⟩, ⟨8, .one, [.dat kI]⟩]⟩, [(.ret, ⟨86, [⟨2, .one, [.own true kk1]⟩, ⟨3, .one, [.dat .bool]⟩]⟩), (.exit 0, ⟨86, [⟨0, .one, [.dat (.list kB)]⟩, ⟨4, .one, [.own true kk1]⟩]⟩)], lp spec_OutsOf_s250⟩
def spec_OutsOf : List Int → Option (List t22 × Bool)
  | a => (spec_GetNum (a, 0)).bind fun (b, c, d) => bif !d then some ([], false) else bif decide (b > 200) then some ([], false) else bx (lp spec_OutsOf_s250 (a, [], b, c, 0)) (fun (e, f) => some (e, f)) fun (e, f) => (spec_OutsOk f).bind fun g => bif !g then some ([], false) else (spec_OutsBytes f).bind fun h => bif !((List.map (fun (n : Int) => UInt8.ofNat (Int.toNat n)) h) == (List.map (fun (n : Int) => UInt8.ofNat (Int.toNat n)) e)) then some ([], false) else some (f, true)
def spec_OutsOf_e : FEnt := ⟨84, [.tmp 2, .tmp 3], [], [(.one, [.dat (.list kB)])], ⟨86, [⟨2, .one, [.own true kk1]⟩, ⟨3, .one, [.dat .bool]⟩]⟩, spec_OutsOf⟩
theorem spec_OutsOf_ok : FnOk Try.prog 6 spec_OutsOf_e := fnOk_mk (tb := [(250, spec_OutsOf_n250)]) (c := (Try.f6.body).getD .skip) mixed Try.func6 (bC spec_GetNum_ok (bC spec_l25One_ok (bC spec_OutsOk_ok (bC spec_OutsBytes_ok bN)))) (by kernel_rfl) (by kernel_rfl) (by kernel_rfl) ⟨nodeLoop (by kernel_rfl) spec_OutsOf_s250 (by kernel_rfl) (by intro d; kernel_rfl), trivial⟩ (by intro d; kernel_rfl)


/-! impl.within -/
def impl_within : Int × Int × Int → Option Bool
  | (a, b, c) => bif decide (a ≥ b) then some (decide (a ≤ c)) else some false
def impl_within_e : FEnt := ⟨15, [.tmp 6], [], [(.one, [.dat kI]), (.one, [.dat kI]), (.one, [.dat kI])], ⟨21, [⟨6, .one, [.dat .bool]⟩]⟩, impl_within⟩
theorem impl_within_ok : FnOk Try.prog 60 impl_within_e := fnOk_mk (tb := []) (c := (Try.f60.body).getD .skip) mixed Try.func60 bN (by kernel_rfl) (by kernel_rfl) (by kernel_rfl) trivial (by intro d; kernel_rfl)


/-! impl.PutNum -/
def impl_PutNum_s60 : Int × List Int → Option (Int × List Int ⊕ Int × List Int)
  | (a, b) => bif decide (a ≥ 128) then chk (fits (b.length + [IntKind.wrap IntKind.u8 (IntKind.wrap IntKind.i64 (Int.tmod a (128 : Int) + (128 : Int)))].length) 1) (some (.inl (w64 (Int.tdiv a 128), b ++ [IntKind.wrap IntKind.u8 (IntKind.wrap IntKind.i64 (Int.tmod a (128 : Int) + (128 : Int)))]))) else some (.inr (a, b))
def impl_PutNum_n60 : NEnt := ⟨⟨25, [⟨0, .one, [.dat kI]⟩, ⟨3, .one, [.own true kB]⟩]⟩, [(.exit 0, ⟨25, [⟨0, .one, [.dat kI]⟩, ⟨3, .one, [.own true kB]⟩]⟩)], lp impl_PutNum_s60⟩
def impl_PutNum : Int → Option (List Int)
  | a => (impl_within (a, 0, 2147483647)).bind fun b => bif !b then some [] else (lp impl_PutNum_s60 (a, [])).bind fun (c, d) => chk (fits (d.length + [IntKind.wrap IntKind.u8 c].length) 1) (some (d ++ [IntKind.wrap IntKind.u8 c]))
def impl_PutNum_e : FEnt := ⟨23, [.tmp 2], [], [(.one, [.dat kI])], ⟨25, [⟨2, .one, [.own true kB]⟩]⟩, impl_PutNum⟩
theorem impl_PutNum_ok : FnOk Try.prog 61 impl_PutNum_e := fnOk_mk (tb := [(60, impl_PutNum_n60)]) (c := (Try.f61.body).getD .skip) mixed Try.func61 (bC impl_within_ok bN) (by kernel_rfl) (by kernel_rfl) (by kernel_rfl) ⟨nodeLoop (by kernel_rfl) impl_PutNum_s60 (by kernel_rfl) (by intro d; kernel_rfl), trivial⟩ (by intro d; kernel_rfl)


/-! impl.GetNum -/
def impl_GetNum_s122 : t4 → Option (t4 ⊕ Int × Int × Bool ⊕ Unit)
  | (a, b, c, d) => bif decide (d < 5) then bif decide ((w64 (b + d)) < (ln a)) then ix (w64 (b + d)) a.length (chk (!(decide ((w64 (7 * d)) < 0))) ((some (w64 ((Int.tmod (w64 (gx a (w64 (b + d)) 0)) 128) * ((2 : Int) ^ min (Int.toNat (IntKind.wrap IntKind.i64 ((7 : Int) * d))) (64 : Nat))))).bind fun e => (some (decide ((w64 (gx a (w64 (b + d)) 0)) < 128))).bind fun f => bif f then (impl_PutNum (w64 (c + e))).bind fun g => bif (ln g) != (w64 (d + 1)) then some (.inr (.inl (0, 0, false))) else some (.inr (.inl (w64 (c + e), w64 ((w64 (b + d)) + 1), true))) else some (.inl (a, b, w64 (c + e), w64 (d + 1))))) else some (.inr (.inr ())) else some (.inr (.inr ()))
def impl_GetNum_n122 : NEnt := ⟨⟨59, [⟨0, .one, [.dat (.list kB)]⟩, ⟨1, .one, [.dat kI]⟩, ⟨7, .one, [.dat kI]⟩, ⟨8, .one, [.dat kI]⟩]⟩, [(.ret, ⟨59, [⟨4, .one, [.dat kI]⟩, ⟨5, .one, [.dat kI]⟩, ⟨6, .one, [.dat .bool]⟩]⟩), (.exit 0, ⟨59, []⟩)], lp impl_GetNum_s122⟩
def impl_GetNum : List Int × Int → Option (Int × Int × Bool)
  | (a, b) => (impl_within (b, 0, w64 ((ln a) - 1))).bind fun c => bif !c then some (0, 0, false) else bx (lp impl_GetNum_s122 (a, b, 0, 0)) (fun (d, e, f) => some (d, e, f)) fun _ => some (0, 0, false)
def impl_GetNum_e : FEnt := ⟨55, [.tmp 4, .tmp 5, .tmp 6], [], [(.one, [.dat (.list kB)]), (.one, [.dat kI])], ⟨59, [⟨4, .one, [.dat kI]⟩, ⟨5, .one, [.dat kI]⟩, ⟨6, .one, [.dat .bool]⟩]⟩, impl_GetNum⟩
theorem impl_GetNum_ok : FnOk Try.prog 58 impl_GetNum_e := fnOk_mk (tb := [(122, impl_GetNum_n122)]) (c := (Try.f58.body).getD .skip) mixed Try.func58 (bC impl_within_ok (bC impl_PutNum_ok bN)) (by kernel_rfl) (by kernel_rfl) (by kernel_rfl) ⟨nodeLoop (by kernel_rfl) impl_GetNum_s122 (by kernel_rfl) (by intro d; kernel_rfl), trivial⟩ (by intro d; kernel_rfl)


/-! impl.reader).num -/
def impl_reader__num : List Int × Int × Bool → Option t7
  | (a, b, c) => (impl_GetNum (a, b)).bind fun (d, e, f) => bif c then some (0, a, b, true) else bif !f then some (0, a, b, true) else some (d, a, e, c)
def impl_reader__num_e : FEnt := ⟨35, [.tmp 2], [true], [(.box, cc6)], ⟨37, [⟨2, .one, [.dat kI]⟩, ⟨36, .box, cc6⟩]⟩, impl_reader__num⟩
theorem impl_reader__num_ok : FnOk Try.prog 29 impl_reader__num_e := fnOk_mk (tb := []) (c := (Try.f29.body).getD .skip) mixed Try.func29 (bC impl_GetNum_ok bN) (by kernel_rfl) (by kernel_rfl) (by kernel_rfl) trivial (by intro d; kernel_rfl)


/-! impl.reader).spans -/
def impl_reader__spans_s122 : Unit × List (Int × Int) × Int × t7 → Option (Unit × List (Int × Int) × Int × t7 ⊕ List (Int × Int) × List Int × Int × Bool)
  | (_, a, b, c, d, e, f) => bif decide (c < b) then bif !f then (impl_reader__num (d, e, f)).bind fun (g, h, i, j) => (impl_reader__num (h, i, j)).bind fun (k, l, m, n) => chk (fits (a.length + [(g, k)].length) 16) (some (.inl ((), a ++ [(g, k)], b, w64 (c + 1), l, m, n))) else some (.inr (a, d, e, f)) else some (.inr (a, d, e, f))
def impl_reader__spans_n122 : NEnt := ⟨⟨31, [⟨0, .one, [.bptr 30 0]⟩, ⟨3, .one, cc7⟩, ⟨4, .one, [.dat kI]⟩, ⟨5, .one, [.dat kI]⟩, ⟨30, .box, cc6⟩]⟩, [(.exit 0, ⟨31, [⟨3, .one, cc7⟩, ⟨30, .box, cc6⟩]⟩)], lp impl_reader__spans_s122⟩
def impl_reader__spans : List Int × Int × Bool → Option (List (Int × Int) × List Int × Int × Bool)
  | (a, b, c) => (impl_reader__num (a, b, c)).bind fun (d, e, f, g) => (lp impl_reader__spans_s122 ((), [], d, 0, e, f, g)).bind fun (h, i, j, k) => some (h, i, j, k)
def impl_reader__spans_e : FEnt := ⟨29, [.tmp 2], [true], [(.box, cc6)], ⟨31, [⟨2, .one, cc7⟩, ⟨30, .box, cc6⟩]⟩, impl_reader__spans⟩
theorem impl_reader__spans_ok : FnOk Try.prog 30 impl_reader__spans_e := fnOk_mk (tb := [(122, impl_reader__spans_n122)]) (c := (Try.f30.body).getD .skip) mixed Try.func30 (bC impl_reader__num_ok bN) (by kernel_rfl) (by kernel_rfl) (by kernel_rfl) ⟨nodeLoop (by kernel_rfl) impl_reader__spans_s122 (by kernel_rfl) (by intro d; kernel_rfl), trivial⟩ (by intro d; kernel_rfl)


/-! impl.reader).nums -/
def impl_reader__nums_s58 : Unit × Int × List Int × t7 → Option (Unit × Int × List Int × t7 ⊕ List Int × List Int × Int × Bool)
  | (_, a, b, c, d, e, f) => bif decide (c < a) then bif !f then (impl_reader__num (d, e, f)).bind fun (g, h, i, j) => chk (fits (b.length + [g].length) 8) (some (.inl ((), a, b ++ [g], w64 (c + 1), h, i, j))) else some (.inr (b, d, e, f)) else some (.inr (b, d, e, f))
def impl_reader__nums_n58 : NEnt := ⟨⟨29, [⟨0, .one, [.bptr 26 0]⟩, ⟨1, .one, [.dat kI]⟩, ⟨5, .one, [.own true kI]⟩, ⟨6, .one, [.dat kI]⟩, ⟨26, .box, cc6⟩]⟩, [(.exit 0, ⟨29, [⟨5, .one, [.own true kI]⟩, ⟨26, .box, cc6⟩]⟩)], lp impl_reader__nums_s58⟩
def impl_reader__nums : (List Int × Int × Bool) × Int → Option (List Int × List Int × Int × Bool)
  | ((a, b, c), d) => (lp impl_reader__nums_s58 ((), d, [], 0, a, b, c)).bind fun (e, f, g, h) => some (e, f, g, h)
def impl_reader__nums_e : FEnt := ⟨25, [.tmp 4], [true, false], [(.box, cc6), (.one, [.dat kI])], ⟨29, [⟨4, .one, [.own true kI]⟩, ⟨26, .box, cc6⟩]⟩, impl_reader__nums⟩
theorem impl_reader__nums_ok : FnOk Try.prog 59 impl_reader__nums_e := fnOk_mk (tb := [(58, impl_reader__nums_n58)]) (c := (Try.f59.body).getD .skip) mixed Try.func59 (bC impl_reader__num_ok bN) (by kernel_rfl) (by kernel_rfl) (by kernel_rfl) ⟨nodeLoop (by kernel_rfl) impl_reader__nums_s58 (by kernel_rfl) (by intro d; kernel_rfl), trivial⟩ (by intro d; kernel_rfl)


/-! impl.reader).sketch -/
def impl_reader__sketch : List Int × Int × Bool → Option (t16 × List Int × Int × Bool)
  | (a, b, c) => (impl_reader__num (a, b, c)).bind fun (d, e, f, g) => (impl_reader__num (e, f, g)).bind fun (h, i, j, k) => (impl_reader__num (i, j, k)).bind fun (l, m, n, o) => (impl_reader__num (m, n, o)).bind fun (p, q, r, s) => (impl_reader__nums ((q, r, s), 8)).bind fun (t, u, v, w) => (impl_reader__nums ((u, v, w), 8)).bind fun (x, y, z, a1) => (impl_reader__nums ((y, z, a1), 4)).bind fun (b1, c1, d1, e1) => (impl_reader__nums ((c1, d1, e1), 4)).bind fun (f1, g1, h1, i1) => some ((d, h, l, p, t, x, [b1, f1]), g1, h1, i1)
def impl_reader__sketch_e : FEnt := ⟨26, [.cell 2 true 7], [true], [(.box, cc6)], ⟨28, [⟨2, .box, cc4⟩, ⟨27, .box, cc6⟩]⟩, impl_reader__sketch⟩
theorem impl_reader__sketch_ok : FnOk Try.prog 31 impl_reader__sketch_e := fnOk_mk (tb := []) (c := (Try.f31.body).getD .skip) mixed Try.func31 (bC impl_reader__num_ok (bC impl_reader__nums_ok bN)) (by kernel_rfl) (by kernel_rfl) (by kernel_rfl) trivial (by intro d; kernel_rfl)


/-! impl.SetOk -/
def impl_SetOk_s26 : List (Int × Int) × t9 → Option (List (Int × Int) × t9 ⊕ Bool ⊕ Unit)
  | (a, b, c, d) => bif decide (d < c) then ix d b.length ((some (gx b d (0, 0))).bind fun (e, f) => (impl_within (e, 0, 9999)).bind fun g => bif !g then some (.inr (.inl false)) else (impl_within (f, e, 9999)).bind fun h => bif !h then some (.inr (.inl false)) else bif decide (d > 0) then ix (w64 (d - 1)) a.length ((some (gx a (w64 (d - 1)) (0, 0))).bind fun (i, j) => bif decide (e ≤ (w64 (j + 1))) then some (.inr (.inl false)) else some (.inl (a, b, c, w64 (d + 1)))) else some (.inl (a, b, c, w64 (d + 1)))) else some (.inr (.inr ()))
def impl_SetOk_n26 : NEnt := ⟨⟨43, [⟨0, .one, [.dat kk2]⟩, ⟨5, .one, [.dat kk2]⟩, ⟨6, .one, [.dat kI]⟩, ⟨7, .one, [.dat kI]⟩]⟩, [(.ret, ⟨43, [⟨2, .one, [.dat .bool]⟩]⟩), (.exit 0, ⟨43, []⟩)], lp impl_SetOk_s26⟩
def impl_SetOk : List (Int × Int) → Option Bool
  | a => bx (lp impl_SetOk_s26 (a, a, ln a, 0)) (fun b => some b) fun _ => some true
def impl_SetOk_e : FEnt := ⟨41, [.tmp 2], [], [(.one, [.dat kk2])], ⟨43, [⟨2, .one, [.dat .bool]⟩]⟩, impl_SetOk⟩
theorem impl_SetOk_ok : FnOk Try.prog 68 impl_SetOk_e := fnOk_mk (tb := [(26, impl_SetOk_n26)]) (c := (Try.f68.body).getD .skip) mixed Try.func68 (bC impl_within_ok bN) (by kernel_rfl) (by kernel_rfl) (by kernel_rfl) ⟨nodeLoop (by kernel_rfl) impl_SetOk_s26 (by kernel_rfl) (by intro d; kernel_rfl), trivial⟩ (by intro d; kernel_rfl)


/-! impl.copyInts -/
def impl_copyInts : List Int → Option (List Int)
  | a => chk (fits a.length 8) (some a)
def impl_copyInts_e : FEnt := ⟨5, [.tmp 2], [], [(.one, [.dat (.list kI)])], ⟨7, [⟨2, .one, [.own true kI]⟩]⟩, impl_copyInts⟩
theorem impl_copyInts_ok : FnOk Try.prog 102 impl_copyInts_e := fnOk_mk (tb := []) (c := (Try.f102.body).getD .skip) mixed Try.func102 bN (by kernel_rfl) (by kernel_rfl) (by kernel_rfl) trivial (by intro d; kernel_rfl)


/-! impl.counts -/
def impl_counts_s58 : List Int × t8 → Option (List Int × t8 ⊕ List Int)
  | (a, b, c, d) => bif decide (d < c) then ix d b.length (chk (fits (a.length + (gx b d []).length) 8) (some (.inl (a ++ (gx b d []), b, c, w64 (d + 1))))) else some (.inr a)
def impl_counts_n58 : NEnt := ⟨⟨26, [⟨3, .one, [.own true kI]⟩, ⟨13, .one, [.dat kk3]⟩, ⟨14, .one, [.dat kI]⟩, ⟨15, .one, [.dat kI]⟩]⟩, [(.exit 0, ⟨26, [⟨3, .one, [.own true kI]⟩]⟩)], lp impl_counts_s58⟩
def impl_counts : t16 → Option (List Int)
  | (a, b, c, d, e, f, g) => (impl_copyInts e).bind fun h => chk (fits (h.length + f.length) 8) ((lp impl_counts_s58 (h ++ f, g, ln g, 0)).bind fun i => some i)
def impl_counts_e : FEnt := ⟨24, [.tmp 2], [], [(.agg, cc5)], ⟨26, [⟨2, .one, [.own true kI]⟩]⟩, impl_counts⟩
theorem impl_counts_ok : FnOk Try.prog 89 impl_counts_e := fnOk_mk (tb := [(58, impl_counts_n58)]) (c := (Try.f89.body).getD .skip) mixed Try.func89 (bC impl_copyInts_ok bN) (by kernel_rfl) (by kernel_rfl) (by kernel_rfl) ⟨nodeLoop (by kernel_rfl) impl_counts_s58 (by kernel_rfl) (by intro d; kernel_rfl), trivial⟩ (by intro d; kernel_rfl)


/-! impl.SketchOk -/
def impl_SketchOk_s122 : t16 × t6 → Option (t16 × t6 ⊕ Bool ⊕ t16 × Int)
  | ((a, b, c, d, e, f, g), h, i, j, k) => bif decide (k < j) then ix k i.length (lx k i.length ((impl_within (gx i k 0, 0, 1000000000)).bind fun l => bif !l then some (.inr (.inl false)) else some (.inl ((a, b, c, d, e, f, g), w64 (h + (gx i k 0)), i, j, w64 (k + 1))))) else some (.inr (.inr ((a, b, c, d, e, f, g), h)))
def impl_SketchOk_n122 : NEnt := ⟨⟨91, [⟨1, .box, cc5⟩, ⟨3, .one, [.dat kI]⟩, ⟨51, .one, [.own true kI]⟩, ⟨52, .one, [.dat kI]⟩, ⟨53, .one, [.dat kI]⟩]⟩, [(.ret, ⟨91, [⟨2, .one, [.dat .bool]⟩]⟩), (.exit 0, ⟨91, [⟨1, .box, cc5⟩, ⟨3, .one, [.dat kI]⟩]⟩)], lp impl_SketchOk_s122⟩
def impl_SketchOk_s250 : t16 × t6 → Option (t16 × t6 ⊕ Bool ⊕ t16 × Int)
  | ((a, b, c, d, e, f, g), h, i, j, k) => bif decide (k < j) then ix k i.length (bif decide ((gx i k 0) > 17) then some (.inr (.inl false)) else some (.inl ((a, b, c, d, e, f, g), h, i, j, w64 (k + 1)))) else some (.inr (.inr ((a, b, c, d, e, f, g), h)))
def impl_SketchOk_n250 : NEnt := ⟨⟨91, [⟨1, .box, cc5⟩, ⟨3, .one, [.dat kI]⟩, ⟨65, .one, [.dat (.list kI)]⟩, ⟨66, .one, [.dat kI]⟩, ⟨67, .one, [.dat kI]⟩]⟩, [(.ret, ⟨91, [⟨2, .one, [.dat .bool]⟩]⟩), (.exit 2, ⟨91, [⟨1, .box, cc5⟩, ⟨3, .one, [.dat kI]⟩]⟩)], lp impl_SketchOk_s250⟩
def impl_SketchOk : t16 → Option Bool
  | (a, b, c, d, e, f, g) => bif (ln e) != 8 then some false else bif (ln f) != 8 then some false else bif (ln g) != 2 then some false else chk (decide (0 < g.length)) (bif (ln (List.getD g 0 [])) != 4 then some false else chk (decide (1 < g.length)) (bif (ln (List.getD g 1 [])) != 4 then some false else (impl_counts (a, b, c, d, e, f, g)).bind fun h => chk (fits (h.length + [a, b, c, d].length) 8) (bx (lp impl_SketchOk_s122 ((a, b, c, d, e, f, g), 0, h ++ [a, b, c, d], ln (h ++ [a, b, c, d]), 0)) (fun i => some i) fun ((i, j, k, l, m, n, o), p) => bx (lp impl_SketchOk_s250 ((i, j, k, l, m, n, o), p, n, ln n, 0)) (fun q => some q) fun ((q, r, s, t, u, v, w), x) => bif q == 0 then some (x == 0) else bif decide (s ≤ t) then some (decide (t ≤ 1000000)) else some false)))
def impl_SketchOk_e : FEnt := ⟨89, [.tmp 2], [], [(.agg, cc5)], ⟨91, [⟨2, .one, [.dat .bool]⟩]⟩, impl_SketchOk⟩
theorem impl_SketchOk_ok : FnOk Try.prog 69 impl_SketchOk_e := fnOk_mk (tb := [(250, impl_SketchOk_n250), (122, impl_SketchOk_n122)]) (c := (Try.f69.body).getD .skip) mixed Try.func69 (bC impl_counts_ok (bC impl_within_ok bN)) (by kernel_rfl) (by kernel_rfl) (by kernel_rfl) ⟨nodeLoop (by kernel_rfl) impl_SketchOk_s250 (by kernel_rfl) (by intro d; kernel_rfl), nodeLoop (by kernel_rfl) impl_SketchOk_s122 (by kernel_rfl) (by intro d; kernel_rfl), trivial⟩ (by intro d; kernel_rfl)


/-! impl.EntryOk -/
def impl_EntryOk : t21 → Option Bool
  | (a, b, c, d, e, f, g, h, i, j) => (impl_within (a, 0, 4)).bind fun k => bif k then (impl_within (b, 0, 20)).bind fun l => bif l then (impl_SetOk c).bind fun m => bif m then bif decide ((ln c) > 0) then (impl_SketchOk (d, e, f, g, h, i, j)).bind fun n => some n else some false else some false else some false else some false
def impl_EntryOk_e : FEnt := ⟨27, [.tmp 2], [], [(.agg, cc1)], ⟨29, [⟨2, .one, [.dat .bool]⟩]⟩, impl_EntryOk⟩
theorem impl_EntryOk_ok : FnOk Try.prog 46 impl_EntryOk_e := fnOk_mk (tb := []) (c := (Try.f46.body).getD .skip) mixed Try.func46 (bC impl_within_ok (bC impl_SetOk_ok (bC impl_SketchOk_ok bN))) (by kernel_rfl) (by kernel_rfl) (by kernel_rfl) trivial (by intro d; kernel_rfl)


/-! impl.OutsOk -/
def impl_OutsOk_s26 : t24 → Option (t24 ⊕ Bool ⊕ Unit)
  | (a, b, c) => bif decide (c < b) then ix c a.length ((some (gx a c (0, 0, 0, [], 0, 0, 0, 0, [], [], []))).bind fun (d, e, f, g, h, i, j, k, l, m, n) => (impl_within (d, 0, 1000)).bind fun o => bif !o then some (.inr (.inl false)) else (impl_EntryOk (e, f, g, h, i, j, k, l, m, n)).bind fun p => bif !p then some (.inr (.inl false)) else some (.inl (a, b, w64 (c + 1)))) else some (.inr (.inr ()))
def impl_OutsOk_n26 : NEnt := ⟨⟨24, [⟨5, .one, [.dat kk0]⟩, ⟨6, .one, [.dat kI]⟩, ⟨7, .one, [.dat kI]⟩]⟩, [(.ret, ⟨24, [⟨2, .one, [.dat .bool]⟩]⟩), (.exit 0, ⟨24, []⟩)], lp impl_OutsOk_s26⟩
def impl_OutsOk : List t22 → Option Bool
  | a => bx (lp impl_OutsOk_s26 (a, ln a, 0)) (fun b => some b) fun _ => some true
def impl_OutsOk_e : FEnt := ⟨22, [.tmp 2], [], [(.one, [.dat kk0])], ⟨24, [⟨2, .one, [.dat .bool]⟩]⟩, impl_OutsOk⟩
theorem impl_OutsOk_ok : FnOk Try.prog 32 impl_OutsOk_e := fnOk_mk (tb := [(26, impl_OutsOk_n26)]) (c := (Try.f32.body).getD .skip) mixed Try.func32 (bC impl_within_ok (bC impl_EntryOk_ok bN)) (by kernel_rfl) (by kernel_rfl) (by kernel_rfl) ⟨nodeLoop (by kernel_rfl) impl_OutsOk_s26 (by kernel_rfl) (by intro d; kernel_rfl), trivial⟩ (by intro d; kernel_rfl)


/-! impl.putNums -/
def impl_putNums_s58 : List Int × List Int × Int × Int → Option (List Int × List Int × Int × Int ⊕ List Int)
  | (a, b, c, d) => bif decide (d < c) then ix d b.length ((impl_PutNum (gx b d 0)).bind fun e => chk (fits (a.length + e.length) 1) (some (.inl (a ++ e, b, c, w64 (d + 1))))) else some (.inr a)
def impl_putNums_n58 : NEnt := ⟨⟨20, [⟨3, .one, [.own true kB]⟩, ⟨6, .one, [.dat (.list kI)]⟩, ⟨7, .one, [.dat kI]⟩, ⟨8, .one, [.dat kI]⟩]⟩, [(.exit 0, ⟨20, [⟨3, .one, [.own true kB]⟩]⟩)], lp impl_putNums_s58⟩
def impl_putNums : List Int → Option (List Int)
  | a => (lp impl_putNums_s58 ([], a, ln a, 0)).bind fun b => some b
def impl_putNums_e : FEnt := ⟨18, [.tmp 2], [], [(.one, [.dat (.list kI)])], ⟨20, [⟨2, .one, [.own true kB]⟩]⟩, impl_putNums⟩
theorem impl_putNums_ok : FnOk Try.prog 79 impl_putNums_e := fnOk_mk (tb := [(58, impl_putNums_n58)]) (c := (Try.f79.body).getD .skip) mixed Try.func79 (bC impl_PutNum_ok bN) (by kernel_rfl) (by kernel_rfl) (by kernel_rfl) ⟨nodeLoop (by kernel_rfl) impl_putNums_s58 (by kernel_rfl) (by intro d; kernel_rfl), trivial⟩ (by intro d; kernel_rfl)


/-! impl.putSpans -/
def impl_putSpans_s58 : List Int × t9 → Option (List Int × t9 ⊕ List Int)
  | (a, b, c, d) => bif decide (d < c) then ix d b.length ((some (gx b d (0, 0))).bind fun (e, f) => (impl_putNums [e, f]).bind fun g => chk (fits (a.length + g.length) 1) (some (.inl (a ++ g, b, c, w64 (d + 1))))) else some (.inr a)
def impl_putSpans_n58 : NEnt := ⟨⟨27, [⟨3, .one, [.own true kB]⟩, ⟨9, .one, [.dat kk2]⟩, ⟨10, .one, [.dat kI]⟩, ⟨11, .one, [.dat kI]⟩]⟩, [(.exit 0, ⟨27, [⟨3, .one, [.own true kB]⟩]⟩)], lp impl_putSpans_s58⟩
def impl_putSpans : List (Int × Int) → Option (List Int)
  | a => (impl_PutNum (ln a)).bind fun b => (lp impl_putSpans_s58 (b, a, ln a, 0)).bind fun c => some c
def impl_putSpans_e : FEnt := ⟨25, [.tmp 2], [], [(.one, [.dat kk2])], ⟨27, [⟨2, .one, [.own true kB]⟩]⟩, impl_putSpans⟩
theorem impl_putSpans_ok : FnOk Try.prog 80 impl_putSpans_e := fnOk_mk (tb := [(58, impl_putSpans_n58)]) (c := (Try.f80.body).getD .skip) mixed Try.func80 (bC impl_PutNum_ok (bC impl_putNums_ok bN)) (by kernel_rfl) (by kernel_rfl) (by kernel_rfl) ⟨nodeLoop (by kernel_rfl) impl_putSpans_s58 (by kernel_rfl) (by intro d; kernel_rfl), trivial⟩ (by intro d; kernel_rfl)


/-! impl.SketchBytes -/
def impl_SketchBytes : t16 → Option (List Int)
  | (a, b, c, d, e, f, g) => (impl_SketchOk (a, b, c, d, e, f, g)).bind fun h => bif !h then some [] else (impl_counts (a, b, c, d, e, f, g)).bind fun i => chk (fits ([a, b, c, d].length + i.length) 8) ((impl_putNums ([a, b, c, d] ++ i)).bind fun j => some j)
def impl_SketchBytes_e : FEnt := ⟨19, [.tmp 2], [], [(.agg, cc5)], ⟨21, [⟨2, .one, [.own true kB]⟩]⟩, impl_SketchBytes⟩
theorem impl_SketchBytes_ok : FnOk Try.prog 81 impl_SketchBytes_e := fnOk_mk (tb := []) (c := (Try.f81.body).getD .skip) mixed Try.func81 (bC impl_SketchOk_ok (bC impl_counts_ok (bC impl_putNums_ok bN))) (by kernel_rfl) (by kernel_rfl) (by kernel_rfl) trivial (by intro d; kernel_rfl)


/-! impl.OutBytes -/
def impl_OutBytes : t22 → Option (List Int)
  | (a, b, c, d, e, f, g, h, i, j, k) => (some [(a, b, c, d, e, f, g, h, i, j, k)]).bind fun l => (impl_OutsOk l).bind fun m => bif !m then some [] else (impl_putNums [a, b, c]).bind fun n => (impl_putSpans d).bind fun o => chk (fits (n.length + o.length) 1) ((impl_SketchBytes (e, f, g, h, i, j, k)).bind fun p => chk (fits ((n ++ o).length + p.length) 1) (some ((n ++ o) ++ p)))
def impl_OutBytes_e : FEnt := ⟨30, [.tmp 2], [], [(.agg, cc0)], ⟨32, [⟨2, .one, [.own true kB]⟩]⟩, impl_OutBytes⟩
theorem impl_OutBytes_ok : FnOk Try.prog 62 impl_OutBytes_e := fnOk_mk (tb := []) (c := (Try.f62.body).getD .skip) mixed Try.func62 (bC impl_OutsOk_ok (bC impl_putNums_ok (bC impl_putSpans_ok (bC impl_SketchBytes_ok bN)))) (by kernel_rfl) (by kernel_rfl) (by kernel_rfl) trivial (by intro d; kernel_rfl)


/-! impl.OutsBytes -/
def impl_OutsBytes_s122 : List Int × t24 → Option (List Int × t24 ⊕ List Int)
  | (a, b, c, d) => bif decide (d < c) then ix d b.length ((some (gx b d (0, 0, 0, [], 0, 0, 0, 0, [], [], []))).bind fun (e, f, g, h, i, j, k, l, m, n, o) => (impl_OutBytes (e, f, g, h, i, j, k, l, m, n, o)).bind fun p => (impl_PutNum (ln p)).bind fun q => chk (fits (a.length + q.length) 1) (chk (fits ((a ++ q).length + p.length) 1) (some (.inl ((a ++ q) ++ p, b, c, w64 (d + 1)))))) else some (.inr a)
def impl_OutsBytes_n122 : NEnt := ⟨⟨38, [⟨3, .one, [.own true kB]⟩, ⟨18, .one, [.dat kk0]⟩, ⟨19, .one, [.dat kI]⟩, ⟨20, .one, [.dat kI]⟩]⟩, [(.exit 0, ⟨38, [⟨3, .one, [.own true kB]⟩]⟩)], lp impl_OutsBytes_s122⟩
def impl_OutsBytes : List t22 → Option (List Int)
  | a => (impl_OutsOk a).bind fun b => bif !b then some [] else (some (decide ((ln a) > 200))).bind fun c => bif c then some [] else (impl_PutNum (ln a)).bind fun d => (lp impl_OutsBytes_s122 (d, a, ln a, 0)).bind fun e => some e
def impl_OutsBytes_e : FEnt := ⟨36, [.tmp 2], [], [(.one, [.dat kk0])], ⟨38, [⟨2, .one, [.own true kB]⟩]⟩, impl_OutsBytes⟩
theorem impl_OutsBytes_ok : FnOk Try.prog 34 impl_OutsBytes_e := fnOk_mk (tb := [(122, impl_OutsBytes_n122)]) (c := (Try.f34.body).getD .skip) mixed Try.func34 (bC impl_OutsOk_ok (bC impl_PutNum_ok (bC impl_OutBytes_ok bN))) (by kernel_rfl) (by kernel_rfl) (by kernel_rfl) ⟨nodeLoop (by kernel_rfl) impl_OutsBytes_s122 (by kernel_rfl) (by intro d; kernel_rfl), trivial⟩ (by intro d; kernel_rfl)


/-! bytes.Equal -/
def bytes_Equal : List Int × List Int → Option Bool
  | (a, b) => some ((List.map (fun (n : Int) => UInt8.ofNat (Int.toNat n)) a) == (List.map (fun (n : Int) => UInt8.ofNat (Int.toNat n)) b))
def bytes_Equal_e : FEnt := ⟨10, [.tmp 4], [], [(.one, [.dat (.list kB)]), (.one, [.dat (.list kB)])], ⟨14, [⟨4, .one, [.dat .bool]⟩]⟩, bytes_Equal⟩
theorem bytes_Equal_ok : FnOk Try.prog 33 bytes_Equal_e := fnOk_mk (tb := []) (c := (Try.f33.body).getD .skip) mixed Try.func33 bN (by kernel_rfl) (by kernel_rfl) (by kernel_rfl) trivial (by intro d; kernel_rfl)


/-! impl.OutsOf -/
def impl_OutsOf_s250 : List Int × Unit × Int × List t22 × t7 → Option (List Int × Unit × Int × List t22 × t7 ⊕ List Int × Unit × List t22 × List Int × Int × Bool)
  | (a, _, b, c, d, e, f, g) => bif decide (d < b) then bif !g then (impl_reader__num (e, f, g)).bind fun (h, i, j, k) => (impl_reader__num (i, j, k)).bind fun (l, m, n, o) => (impl_reader__num (m, n, o)).bind fun (p, q, r, s) => (impl_reader__num (q, r, s)).bind fun (t, u, v, w) => (impl_reader__spans (u, v, w)).bind fun (x, y, z, a1) => (impl_reader__sketch (y, z, a1)).bind fun ((b1, c1, d1, e1, f1, g1, h1), i1, j1, k1) => (some [(l, p, t, x, b1, c1, d1, e1, f1, g1, h1)]).bind fun l1 => chk (fits (c.length + l1.length) 152) ((some (c ++ l1)).bind fun m1 => some (.inl (a, (), b, m1, w64 (d + 1), i1, j1, k1))) else some (.inr (a, (), c, e, f, g)) else some (.inr (a, (), c, e, f, g))
def impl_OutsOf_n250 : NEnt := ⟨⟨72, [⟨0, .one, [.dat (.list kB)]⟩, ⟨4, .one, [.bptr 11 0]⟩, ⟨5, .one, [.dat kI]⟩, ⟨6, .one, [.own true kk1]⟩, ⟨7, .one, [.dat kI]⟩, ⟨11, .box, cc6⟩]⟩, [(.exit 0, ⟨72, [⟨0, .one, [.dat (.list kB)]⟩, ⟨4, .one, [.bptr 11 0]⟩, ⟨6, .one, [.own true kk1]⟩, ⟨11, .box, cc6⟩]⟩)], lp impl_OutsOf_s250⟩
def impl_OutsOf : List Int → Option (List t22 × Bool)
  | a => (impl_reader__num (a, 0, false)).bind fun (b, c, d, e) => (lp impl_OutsOf_s250 (a, (), b, [], 0, c, d, e)).bind fun (f, _, g, h, i, j) => bif j then some ([], false) else (impl_OutsOk g).bind fun k => bif !k then some ([], false) else (some (decide ((ln g) > 200))).bind fun l => bif l then some ([], false) else (impl_OutsBytes g).bind fun m => (bytes_Equal (m, f)).bind fun n => bif !n then some ([], false) else some (g, true)
def impl_OutsOf_e : FEnt := ⟨70, [.tmp 2, .tmp 3], [], [(.one, [.dat (.list kB)])], ⟨72, [⟨2, .one, [.own true kk1]⟩, ⟨3, .one, [.dat .bool]⟩]⟩, impl_OutsOf⟩
theorem impl_OutsOf_ok : FnOk Try.prog 8 impl_OutsOf_e := fnOk_mk (tb := [(250, impl_OutsOf_n250)]) (c := (Try.f8.body).getD .skip) mixed Try.func8 (bC impl_reader__num_ok (bC impl_reader__spans_ok (bC impl_reader__sketch_ok (bC impl_OutsOk_ok (bC impl_OutsBytes_ok (bC bytes_Equal_ok bN)))))) (by kernel_rfl) (by kernel_rfl) (by kernel_rfl) ⟨nodeLoop (by kernel_rfl) impl_OutsOf_s250 (by kernel_rfl) (by intro d; kernel_rfl), trivial⟩ (by intro d; kernel_rfl)


/-! laws.eqSpan -/
def laws_eqSpan : (Int × Int) × Int × Int → Option Bool
  | ((a, b), c, d) => bif a != c then some false else bif b != d then some false else some true
def laws_eqSpan_e : FEnt := ⟨15, [.tmp 4], [], [(.agg, [.dat kI, .dat kI]), (.agg, [.dat kI, .dat kI])], ⟨19, [⟨4, .one, [.dat .bool]⟩]⟩, laws_eqSpan⟩
theorem laws_eqSpan_ok : FnOk Try.prog 93 laws_eqSpan_e := fnOk_mk (tb := []) (c := (Try.f93.body).getD .skip) mixed Try.func93 bN (by kernel_rfl) (by kernel_rfl) (by kernel_rfl) trivial (by intro d; kernel_rfl)


/-! laws.eqSpanS -/
def laws_eqSpanS_s58 : List (Int × Int) × t0 → Option (List (Int × Int) × t0 ⊕ Bool ⊕ Unit)
  | (a, b, c) => bif decide (c < (ln a)) then ix c a.length ((some (gx a c (0, 0))).bind fun (d, e) => ix c b.length ((some (gx b c (0, 0))).bind fun (f, g) => (laws_eqSpan ((d, e), f, g)).bind fun h => bif !h then some (.inr (.inl false)) else some (.inl (a, b, w64 (c + 1))))) else some (.inr (.inr ()))
def laws_eqSpanS_n58 : NEnt := ⟨⟨31, [⟨0, .one, [.dat kk2]⟩, ⟨1, .one, [.dat kk2]⟩, ⟨5, .one, [.dat kI]⟩]⟩, [(.ret, ⟨31, [⟨4, .one, [.dat .bool]⟩]⟩), (.exit 0, ⟨31, []⟩)], lp laws_eqSpanS_s58⟩
def laws_eqSpanS : List (Int × Int) × List (Int × Int) → Option Bool
  | (a, b) => bif (ln a) != (ln b) then some false else bx (lp laws_eqSpanS_s58 (a, b, 0)) (fun c => some c) fun _ => some true
def laws_eqSpanS_e : FEnt := ⟨27, [.tmp 4], [], [(.one, [.dat kk2]), (.one, [.dat kk2])], ⟨31, [⟨4, .one, [.dat .bool]⟩]⟩, laws_eqSpanS⟩
theorem laws_eqSpanS_ok : FnOk Try.prog 72 laws_eqSpanS_e := fnOk_mk (tb := [(58, laws_eqSpanS_n58)]) (c := (Try.f72.body).getD .skip) mixed Try.func72 (bC laws_eqSpan_ok bN) (by kernel_rfl) (by kernel_rfl) (by kernel_rfl) ⟨nodeLoop (by kernel_rfl) laws_eqSpanS_s58 (by kernel_rfl) (by intro d; kernel_rfl), trivial⟩ (by intro d; kernel_rfl)


/-! laws.eqIntS -/
def laws_eqIntS_s58 : t3 → Option (t3 ⊕ Bool ⊕ Unit)
  | (a, b, c) => bif decide (c < (ln a)) then ix c a.length (ix c b.length (bif (gx a c 0) != (gx b c 0) then some (.inr (.inl false)) else some (.inl (a, b, w64 (c + 1))))) else some (.inr (.inr ()))
def laws_eqIntS_n58 : NEnt := ⟨⟨30, [⟨0, .one, [.dat (.list kI)]⟩, ⟨1, .one, [.dat (.list kI)]⟩, ⟨5, .one, [.dat kI]⟩]⟩, [(.ret, ⟨30, [⟨4, .one, [.dat .bool]⟩]⟩), (.exit 0, ⟨30, []⟩)], lp laws_eqIntS_s58⟩
def laws_eqIntS : List Int × List Int → Option Bool
  | (a, b) => bif (ln a) != (ln b) then some false else bx (lp laws_eqIntS_s58 (a, b, 0)) (fun c => some c) fun _ => some true
def laws_eqIntS_e : FEnt := ⟨26, [.tmp 4], [], [(.one, [.dat (.list kI)]), (.one, [.dat (.list kI)])], ⟨30, [⟨4, .one, [.dat .bool]⟩]⟩, laws_eqIntS⟩
theorem laws_eqIntS_ok : FnOk Try.prog 94 laws_eqIntS_e := fnOk_mk (tb := [(58, laws_eqIntS_n58)]) (c := (Try.f94.body).getD .skip) mixed Try.func94 bN (by kernel_rfl) (by kernel_rfl) (by kernel_rfl) ⟨nodeLoop (by kernel_rfl) laws_eqIntS_s58 (by kernel_rfl) (by intro d; kernel_rfl), trivial⟩ (by intro d; kernel_rfl)


/-! laws.eqIntSS -/
def laws_eqIntSS_s58 : List (List Int) × List (List Int) × Int → Option (List (List Int) × List (List Int) × Int ⊕ Bool ⊕ Unit)
  | (a, b, c) => bif decide (c < (ln a)) then ix c a.length (ix c b.length ((laws_eqIntS (gx a c [], gx b c [])).bind fun d => bif !d then some (.inr (.inl false)) else some (.inl (a, b, w64 (c + 1))))) else some (.inr (.inr ()))
def laws_eqIntSS_n58 : NEnt := ⟨⟨31, [⟨0, .one, [.dat kk3]⟩, ⟨1, .one, [.dat kk3]⟩, ⟨5, .one, [.dat kI]⟩]⟩, [(.ret, ⟨31, [⟨4, .one, [.dat .bool]⟩]⟩), (.exit 0, ⟨31, []⟩)], lp laws_eqIntSS_s58⟩
def laws_eqIntSS : List (List Int) × List (List Int) → Option Bool
  | (a, b) => bif (ln a) != (ln b) then some false else bx (lp laws_eqIntSS_s58 (a, b, 0)) (fun c => some c) fun _ => some true
def laws_eqIntSS_e : FEnt := ⟨27, [.tmp 4], [], [(.one, [.dat kk3]), (.one, [.dat kk3])], ⟨31, [⟨4, .one, [.dat .bool]⟩]⟩, laws_eqIntSS⟩
theorem laws_eqIntSS_ok : FnOk Try.prog 95 laws_eqIntSS_e := fnOk_mk (tb := [(58, laws_eqIntSS_n58)]) (c := (Try.f95.body).getD .skip) mixed Try.func95 (bC laws_eqIntS_ok bN) (by kernel_rfl) (by kernel_rfl) (by kernel_rfl) ⟨nodeLoop (by kernel_rfl) laws_eqIntSS_s58 (by kernel_rfl) (by intro d; kernel_rfl), trivial⟩ (by intro d; kernel_rfl)


/-! laws.eqSketch -/
def laws_eqSketch : t16 × t16 → Option Bool
  | ((a, b, c, d, e, f, g), h, i, j, k, l, m, n) => bif a != h then some false else bif b != i then some false else bif c != j then some false else bif d != k then some false else (laws_eqIntS (e, l)).bind fun o => bif !o then some false else (laws_eqIntS (f, m)).bind fun p => bif !p then some false else (laws_eqIntSS (g, n)).bind fun q => bif !q then some false else some true
def laws_eqSketch_e : FEnt := ⟨43, [.tmp 4], [], [(.agg, cc5), (.agg, cc5)], ⟨47, [⟨4, .one, [.dat .bool]⟩]⟩, laws_eqSketch⟩
theorem laws_eqSketch_ok : FnOk Try.prog 73 laws_eqSketch_e := fnOk_mk (tb := []) (c := (Try.f73.body).getD .skip) mixed Try.func73 (bC laws_eqIntS_ok (bC laws_eqIntSS_ok bN)) (by kernel_rfl) (by kernel_rfl) (by kernel_rfl) trivial (by intro d; kernel_rfl)


/-! laws.eqEntry -/
def laws_eqEntry : t21 × t21 → Option Bool
  | ((a, b, c, d, e, f, g, h, i, j), k, l, m, n, o, p, q, r, s, t) => bif a != k then some false else bif b != l then some false else (laws_eqSpanS (c, m)).bind fun u => bif !u then some false else (laws_eqSketch ((d, e, f, g, h, i, j), n, o, p, q, r, s, t)).bind fun v => bif !v then some false else some true
def laws_eqEntry_e : FEnt := ⟨27, [.tmp 4], [], [(.agg, cc1), (.agg, cc1)], ⟨31, [⟨4, .one, [.dat .bool]⟩]⟩, laws_eqEntry⟩
theorem laws_eqEntry_ok : FnOk Try.prog 48 laws_eqEntry_e := fnOk_mk (tb := []) (c := (Try.f48.body).getD .skip) mixed Try.func48 (bC laws_eqSpanS_ok (bC laws_eqSketch_ok bN)) (by kernel_rfl) (by kernel_rfl) (by kernel_rfl) trivial (by intro d; kernel_rfl)


/-! laws.eqOut -/
def laws_eqOut : t22 × t22 → Option Bool
  | ((a, b, c, d, e, f, g, h, i, j, k), l, m, n, o, p, q, r, s, t, u, v) => bif a != l then some false else (laws_eqEntry ((b, c, d, e, f, g, h, i, j, k), m, n, o, p, q, r, s, t, u, v)).bind fun w => bif !w then some false else some true
def laws_eqOut_e : FEnt := ⟨16, [.tmp 4], [], [(.agg, cc0), (.agg, cc0)], ⟨20, [⟨4, .one, [.dat .bool]⟩]⟩, laws_eqOut⟩
theorem laws_eqOut_ok : FnOk Try.prog 35 laws_eqOut_e := fnOk_mk (tb := []) (c := (Try.f35.body).getD .skip) mixed Try.func35 (bC laws_eqEntry_ok bN) (by kernel_rfl) (by kernel_rfl) (by kernel_rfl) trivial (by intro d; kernel_rfl)


/-! laws.eqOutS -/
def laws_eqOutS_s58 : List t22 × t23 → Option (List t22 × t23 ⊕ Bool ⊕ Unit)
  | (a, b, c) => (some (decide (c < (ln a)))).bind fun d => bif d then ix c a.length ((some (gx a c (0, 0, 0, [], 0, 0, 0, 0, [], [], []))).bind fun (e, f, g, h, i, j, k, l, m, n, o) => ix c b.length ((some (gx b c (0, 0, 0, [], 0, 0, 0, 0, [], [], []))).bind fun (p, q, r, s, t, u, v, w, x, y, z) => (laws_eqOut ((e, f, g, h, i, j, k, l, m, n, o), p, q, r, s, t, u, v, w, x, y, z)).bind fun a1 => bif !a1 then some (.inr (.inl false)) else some (.inl (a, b, w64 (c + 1))))) else some (.inr (.inr ()))
def laws_eqOutS_n58 : NEnt := ⟨⟨31, [⟨0, .one, [.dat kk0]⟩, ⟨1, .one, [.dat kk0]⟩, ⟨5, .one, [.dat kI]⟩]⟩, [(.ret, ⟨31, [⟨4, .one, [.dat .bool]⟩]⟩), (.exit 0, ⟨31, []⟩)], lp laws_eqOutS_s58⟩
def laws_eqOutS : List t22 × List t22 → Option Bool
  | (a, b) => (some ((ln a) != (ln b))).bind fun c => bif c then some false else bx (lp laws_eqOutS_s58 (a, b, 0)) (fun d => some d) fun _ => some true
def laws_eqOutS_e : FEnt := ⟨27, [.tmp 4], [], [(.one, [.dat kk0]), (.one, [.dat kk0])], ⟨31, [⟨4, .one, [.dat .bool]⟩]⟩, laws_eqOutS⟩
theorem laws_eqOutS_ok : FnOk Try.prog 9 laws_eqOutS_e := fnOk_mk (tb := [(58, laws_eqOutS_n58)]) (c := (Try.f9.body).getD .skip) mixed Try.func9 (bC laws_eqOut_ok bN) (by kernel_rfl) (by kernel_rfl) (by kernel_rfl) ⟨nodeLoop (by kernel_rfl) laws_eqOutS_s58 (by kernel_rfl) (by intro d; kernel_rfl), trivial⟩ (by intro d; kernel_rfl)


/-! laws.eqByteS -/
def laws_eqByteS_s58 : t3 → Option (t3 ⊕ Bool ⊕ Unit)
  | (a, b, c) => bif decide (c < (ln a)) then ix c a.length (ix c b.length (bif (gx a c 0) != (gx b c 0) then some (.inr (.inl false)) else some (.inl (a, b, w64 (c + 1))))) else some (.inr (.inr ()))
def laws_eqByteS_n58 : NEnt := ⟨⟨30, [⟨0, .one, [.dat (.list kB)]⟩, ⟨1, .one, [.dat (.list kB)]⟩, ⟨5, .one, [.dat kI]⟩]⟩, [(.ret, ⟨30, [⟨4, .one, [.dat .bool]⟩]⟩), (.exit 0, ⟨30, []⟩)], lp laws_eqByteS_s58⟩
def laws_eqByteS : List Int × List Int → Option Bool
  | (a, b) => bif (ln a) != (ln b) then some false else bx (lp laws_eqByteS_s58 (a, b, 0)) (fun c => some c) fun _ => some true
def laws_eqByteS_e : FEnt := ⟨26, [.tmp 4], [], [(.one, [.dat (.list kB)]), (.one, [.dat (.list kB)])], ⟨30, [⟨4, .one, [.dat .bool]⟩]⟩, laws_eqByteS⟩
theorem laws_eqByteS_ok : FnOk Try.prog 10 laws_eqByteS_e := fnOk_mk (tb := [(58, laws_eqByteS_n58)]) (c := (Try.f10.body).getD .skip) mixed Try.func10 bN (by kernel_rfl) (by kernel_rfl) (by kernel_rfl) ⟨nodeLoop (by kernel_rfl) laws_eqByteS_s58 (by kernel_rfl) (by intro d; kernel_rfl), trivial⟩ (by intro d; kernel_rfl)


/-! laws.markByteS -/
def laws_markByteS_s26 : t13 → Option (t13 ⊕ Int × List Int)
  | ((_, _, _), a, b, c) => bif decide (b < (ln c)) then ix b c.length (lx b c.length (some (.inl (((), (), ()), w64 (a + 1), w64 (b + 1), sx c b (IntKind.wrap IntKind.u8 a))))) else some (.inr (a, c))
def laws_markByteS_n26 : NEnt := ⟨⟨24, [⟨0, .one, [.ref 20 0 [] false false kB]⟩, ⟨1, .one, [.dat kI]⟩, ⟨5, .one, [.dat kI]⟩, ⟨20, .agg, [.own true kB]⟩]⟩, [(.exit 0, ⟨24, [⟨1, .one, [.dat kI]⟩, ⟨20, .agg, [.own true kB]⟩]⟩)], lp laws_markByteS_s26⟩
def laws_markByteS : List Int × Int → Option (Int × List Int)
  | (a, b) => (lp laws_markByteS_s26 (((), (), ()), b, 0, a)).bind fun (c, d) => some (c, d)
def laws_markByteS_e : FEnt := ⟨20, [.tmp 4], [true, false], [(.one, [.own true kB]), (.one, [.dat kI])], ⟨24, [⟨4, .one, [.dat kI]⟩, ⟨20, .agg, [.own true kB]⟩]⟩, laws_markByteS⟩
theorem laws_markByteS_ok : FnOk Try.prog 11 laws_markByteS_e := fnOk_mk (tb := [(26, laws_markByteS_n26)]) (c := (Try.f11.body).getD .skip) mixed Try.func11 bN (by kernel_rfl) (by kernel_rfl) (by kernel_rfl) ⟨nodeLoop (by kernel_rfl) laws_markByteS_s26 (by kernel_rfl) (by intro d; kernel_rfl), trivial⟩ (by intro d; kernel_rfl)


/-! laws.markSpanS -/
def laws_markSpanS_s26 : (Unit × Unit × Unit) × Int × t1 → Option ((Unit × Unit × Unit) × Int × t1 ⊕ t1)
  | ((_, _, _), a, b, c) => bif decide (b < (ln c)) then ix b c.length (lx b c.length (ix b (sx c b (a, (gx c b (0, 0)).2)).length (lx b (sx c b (a, (gx c b (0, 0)).2)).length ((some (sx (sx c b (a, (gx c b (0, 0)).2)) b ((gx (sx c b (a, (gx c b (0, 0)).2)) b (0, 0)).1, w64 (a + 1)))).bind fun d => some (.inl (((), (), ()), w64 ((w64 (a + 1)) + 1), w64 (b + 1), d)))))) else some (.inr (a, c))
def laws_markSpanS_n26 : NEnt := ⟨⟨31, [⟨0, .one, [.ref 27 0 [] false false (.pair kI kI)]⟩, ⟨1, .one, [.dat kI]⟩, ⟨5, .one, [.dat kI]⟩, ⟨27, .agg, cc7⟩]⟩, [(.exit 0, ⟨31, [⟨1, .one, [.dat kI]⟩, ⟨27, .agg, cc7⟩]⟩)], lp laws_markSpanS_s26⟩
def laws_markSpanS : t0 → Option t1
  | (a, b) => (lp laws_markSpanS_s26 (((), (), ()), b, 0, a)).bind fun (c, d) => some (c, d)
def laws_markSpanS_e : FEnt := ⟨27, [.tmp 4], [true, false], [(.one, cc7), (.one, [.dat kI])], ⟨31, [⟨4, .one, [.dat kI]⟩, ⟨27, .agg, cc7⟩]⟩, laws_markSpanS⟩
theorem laws_markSpanS_ok : FnOk Try.prog 36 laws_markSpanS_e := fnOk_mk (tb := [(26, laws_markSpanS_n26)]) (c := (Try.f36.body).getD .skip) mixed Try.func36 bN (by kernel_rfl) (by kernel_rfl) (by kernel_rfl) ⟨nodeLoop (by kernel_rfl) laws_markSpanS_s26 (by kernel_rfl) (by intro d; kernel_rfl), trivial⟩ (by intro d; kernel_rfl)


/-! laws.markIntS -/
def laws_markIntS_s26 : t13 → Option (t13 ⊕ Int × List Int)
  | ((_, _, _), a, b, c) => bif decide (b < (ln c)) then ix b c.length (lx b c.length (some (.inl (((), (), ()), w64 (a + 1), w64 (b + 1), sx c b a)))) else some (.inr (a, c))
def laws_markIntS_n26 : NEnt := ⟨⟨23, [⟨0, .one, [.ref 19 0 [] false false kI]⟩, ⟨1, .one, [.dat kI]⟩, ⟨5, .one, [.dat kI]⟩, ⟨19, .agg, [.own true kI]⟩]⟩, [(.exit 0, ⟨23, [⟨1, .one, [.dat kI]⟩, ⟨19, .agg, [.own true kI]⟩]⟩)], lp laws_markIntS_s26⟩
def laws_markIntS : List Int × Int → Option (Int × List Int)
  | (a, b) => (lp laws_markIntS_s26 (((), (), ()), b, 0, a)).bind fun (c, d) => some (c, d)
def laws_markIntS_e : FEnt := ⟨19, [.tmp 4], [true, false], [(.one, [.own true kI]), (.one, [.dat kI])], ⟨23, [⟨4, .one, [.dat kI]⟩, ⟨19, .agg, [.own true kI]⟩]⟩, laws_markIntS⟩
theorem laws_markIntS_ok : FnOk Try.prog 37 laws_markIntS_e := fnOk_mk (tb := [(26, laws_markIntS_n26)]) (c := (Try.f37.body).getD .skip) mixed Try.func37 bN (by kernel_rfl) (by kernel_rfl) (by kernel_rfl) ⟨nodeLoop (by kernel_rfl) laws_markIntS_s26 (by kernel_rfl) (by intro d; kernel_rfl), trivial⟩ (by intro d; kernel_rfl)


/-! laws.markIntSS -/
def laws_markIntSS_s26 : (Unit × Unit × Unit) × Int × Int × List (List Int) → Option ((Unit × Unit × Unit) × Int × Int × List (List Int) ⊕ Int × List (List Int))
  | ((_, _, _), a, b, c) => bif decide (b < (ln c)) then ix b c.length (lx b c.length ((laws_markIntS (gx c b [], a)).bind fun (d, e) => some (.inl (((), (), ()), d, w64 (b + 1), sx c b e)))) else some (.inr (a, c))
def laws_markIntSS_n26 : NEnt := ⟨⟨23, [⟨0, .one, [.ref 19 0 [] false false (.list kI)]⟩, ⟨1, .one, [.dat kI]⟩, ⟨5, .one, [.dat kI]⟩, ⟨19, .agg, cc8⟩]⟩, [(.exit 0, ⟨23, [⟨1, .one, [.dat kI]⟩, ⟨19, .agg, cc8⟩]⟩)], lp laws_markIntSS_s26⟩
def laws_markIntSS : List (List Int) × Int → Option (Int × List (List Int))
  | (a, b) => (lp laws_markIntSS_s26 (((), (), ()), b, 0, a)).bind fun (c, d) => some (c, d)
def laws_markIntSS_e : FEnt := ⟨19, [.tmp 4], [true, false], [(.one, cc8), (.one, [.dat kI])], ⟨23, [⟨4, .one, [.dat kI]⟩, ⟨19, .agg, cc8⟩]⟩, laws_markIntSS⟩
theorem laws_markIntSS_ok : FnOk Try.prog 38 laws_markIntSS_e := fnOk_mk (tb := [(26, laws_markIntSS_n26)]) (c := (Try.f38.body).getD .skip) mixed Try.func38 (bC laws_markIntS_ok bN) (by kernel_rfl) (by kernel_rfl) (by kernel_rfl) ⟨nodeLoop (by kernel_rfl) laws_markIntSS_s26 (by kernel_rfl) (by intro d; kernel_rfl), trivial⟩ (by intro d; kernel_rfl)


/-! laws.markOutS -/
def laws_markOutS_s26 : (Unit × Unit × Unit) × Int × Int × List t22 → Option ((Unit × Unit × Unit) × Int × Int × List t22 ⊕ Int × List t22)
  | ((_, _, _), a, b, c) => (some (decide (b < (ln c)))).bind fun d => bif d then ix b c.length (lx b c.length ((some (sx c b (a, (gx c b (0, 0, 0, [], 0, 0, 0, 0, [], [], [])).2))).bind fun e => ix b e.length (lx b e.length ((some (sx e b ((gx e b (0, 0, 0, [], 0, 0, 0, 0, [], [], [])).1, w64 (a + 1), (gx e b (0, 0, 0, [], 0, 0, 0, 0, [], [], [])).2.2))).bind fun f => ix b f.length (lx b f.length ((some (sx f b ((gx f b (0, 0, 0, [], 0, 0, 0, 0, [], [], [])).1, (gx f b (0, 0, 0, [], 0, 0, 0, 0, [], [], [])).2.1, w64 ((w64 (a + 1)) + 1), (gx f b (0, 0, 0, [], 0, 0, 0, 0, [], [], [])).2.2.2))).bind fun g => ix b g.length (lx b g.length ((laws_markSpanS ((gx g b (0, 0, 0, [], 0, 0, 0, 0, [], [], [])).2.2.2.1, w64 ((w64 ((w64 (a + 1)) + 1)) + 1))).bind fun (h, i) => (some (sx g b ((gx g b (0, 0, 0, [], 0, 0, 0, 0, [], [], [])).1, (gx g b (0, 0, 0, [], 0, 0, 0, 0, [], [], [])).2.1, (gx g b (0, 0, 0, [], 0, 0, 0, 0, [], [], [])).2.2.1, i, (gx g b (0, 0, 0, [], 0, 0, 0, 0, [], [], [])).2.2.2.2))).bind fun j => ix b j.length (lx b j.length ((some (sx j b ((gx j b (0, 0, 0, [], 0, 0, 0, 0, [], [], [])).1, (gx j b (0, 0, 0, [], 0, 0, 0, 0, [], [], [])).2.1, (gx j b (0, 0, 0, [], 0, 0, 0, 0, [], [], [])).2.2.1, (gx j b (0, 0, 0, [], 0, 0, 0, 0, [], [], [])).2.2.2.1, h, (gx j b (0, 0, 0, [], 0, 0, 0, 0, [], [], [])).2.2.2.2.2))).bind fun k => ix b k.length (lx b k.length ((some (sx k b ((gx k b (0, 0, 0, [], 0, 0, 0, 0, [], [], [])).1, (gx k b (0, 0, 0, [], 0, 0, 0, 0, [], [], [])).2.1, (gx k b (0, 0, 0, [], 0, 0, 0, 0, [], [], [])).2.2.1, (gx k b (0, 0, 0, [], 0, 0, 0, 0, [], [], [])).2.2.2.1, (gx k b (0, 0, 0, [], 0, 0, 0, 0, [], [], [])).2.2.2.2.1, w64 (h + 1), (gx k b (0, 0, 0, [], 0, 0, 0, 0, [], [], [])).2.2.2.2.2.2))).bind fun l => ix b l.length (lx b l.length ((some (sx l b ((gx l b (0, 0, 0, [], 0, 0, 0, 0, [], [], [])).1, (gx l b (0, 0, 0, [], 0, 0, 0, 0, [], [], [])).2.1, (gx l b (0, 0, 0, [], 0, 0, 0, 0, [], [], [])).2.2.1, (gx l b (0, 0, 0, [], 0, 0, 0, 0, [], [], [])).2.2.2.1, (gx l b (0, 0, 0, [], 0, 0, 0, 0, [], [], [])).2.2.2.2.1, (gx l b (0, 0, 0, [], 0, 0, 0, 0, [], [], [])).2.2.2.2.2.1, w64 ((w64 (h + 1)) + 1), (gx l b (0, 0, 0, [], 0, 0, 0, 0, [], [], [])).2.2.2.2.2.2.2))).bind fun m => ix b m.length (lx b m.length ((some (sx m b ((gx m b (0, 0, 0, [], 0, 0, 0, 0, [], [], [])).1, (gx m b (0, 0, 0, [], 0, 0, 0, 0, [], [], [])).2.1, (gx m b (0, 0, 0, [], 0, 0, 0, 0, [], [], [])).2.2.1, (gx m b (0, 0, 0, [], 0, 0, 0, 0, [], [], [])).2.2.2.1, (gx m b (0, 0, 0, [], 0, 0, 0, 0, [], [], [])).2.2.2.2.1, (gx m b (0, 0, 0, [], 0, 0, 0, 0, [], [], [])).2.2.2.2.2.1, (gx m b (0, 0, 0, [], 0, 0, 0, 0, [], [], [])).2.2.2.2.2.2.1, w64 ((w64 ((w64 (h + 1)) + 1)) + 1), (gx m b (0, 0, 0, [], 0, 0, 0, 0, [], [], [])).2.2.2.2.2.2.2.2))).bind fun n => (some (w64 ((w64 ((w64 ((w64 (h + 1)) + 1)) + 1)) + 1))).bind fun o => ix b n.length (lx b n.length ((laws_markIntS ((gx n b (0, 0, 0, [], 0, 0, 0, 0, [], [], [])).2.2.2.2.2.2.2.2.1, o)).bind fun (p, q) => (some (sx n b ((gx n b (0, 0, 0, [], 0, 0, 0, 0, [], [], [])).1, (gx n b (0, 0, 0, [], 0, 0, 0, 0, [], [], [])).2.1, (gx n b (0, 0, 0, [], 0, 0, 0, 0, [], [], [])).2.2.1, (gx n b (0, 0, 0, [], 0, 0, 0, 0, [], [], [])).2.2.2.1, (gx n b (0, 0, 0, [], 0, 0, 0, 0, [], [], [])).2.2.2.2.1, (gx n b (0, 0, 0, [], 0, 0, 0, 0, [], [], [])).2.2.2.2.2.1, (gx n b (0, 0, 0, [], 0, 0, 0, 0, [], [], [])).2.2.2.2.2.2.1, (gx n b (0, 0, 0, [], 0, 0, 0, 0, [], [], [])).2.2.2.2.2.2.2.1, q, (gx n b (0, 0, 0, [], 0, 0, 0, 0, [], [], [])).2.2.2.2.2.2.2.2.2))).bind fun r => ix b r.length (lx b r.length ((laws_markIntS ((gx r b (0, 0, 0, [], 0, 0, 0, 0, [], [], [])).2.2.2.2.2.2.2.2.2.1, p)).bind fun (s, t) => (some (sx r b ((gx r b (0, 0, 0, [], 0, 0, 0, 0, [], [], [])).1, (gx r b (0, 0, 0, [], 0, 0, 0, 0, [], [], [])).2.1, (gx r b (0, 0, 0, [], 0, 0, 0, 0, [], [], [])).2.2.1, (gx r b (0, 0, 0, [], 0, 0, 0, 0, [], [], [])).2.2.2.1, (gx r b (0, 0, 0, [], 0, 0, 0, 0, [], [], [])).2.2.2.2.1, (gx r b (0, 0, 0, [], 0, 0, 0, 0, [], [], [])).2.2.2.2.2.1, (gx r b (0, 0, 0, [], 0, 0, 0, 0, [], [], [])).2.2.2.2.2.2.1, (gx r b (0, 0, 0, [], 0, 0, 0, 0, [], [], [])).2.2.2.2.2.2.2.1, (gx r b (0, 0, 0, [], 0, 0, 0, 0, [], [], [])).2.2.2.2.2.2.2.2.1, t, (gx r b (0, 0, 0, [], 0, 0, 0, 0, [], [], [])).2.2.2.2.2.2.2.2.2.2))).bind fun u => ix b u.length (lx b u.length ((laws_markIntSS ((gx u b (0, 0, 0, [], 0, 0, 0, 0, [], [], [])).2.2.2.2.2.2.2.2.2.2, s)).bind fun (v, w) => (some (sx u b ((gx u b (0, 0, 0, [], 0, 0, 0, 0, [], [], [])).1, (gx u b (0, 0, 0, [], 0, 0, 0, 0, [], [], [])).2.1, (gx u b (0, 0, 0, [], 0, 0, 0, 0, [], [], [])).2.2.1, (gx u b (0, 0, 0, [], 0, 0, 0, 0, [], [], [])).2.2.2.1, (gx u b (0, 0, 0, [], 0, 0, 0, 0, [], [], [])).2.2.2.2.1, (gx u b (0, 0, 0, [], 0, 0, 0, 0, [], [], [])).2.2.2.2.2.1, (gx u b (0, 0, 0, [], 0, 0, 0, 0, [], [], [])).2.2.2.2.2.2.1, (gx u b (0, 0, 0, [], 0, 0, 0, 0, [], [], [])).2.2.2.2.2.2.2.1, (gx u b (0, 0, 0, [], 0, 0, 0, 0, [], [], [])).2.2.2.2.2.2.2.2.1, (gx u b (0, 0, 0, [], 0, 0, 0, 0, [], [], [])).2.2.2.2.2.2.2.2.2.1, w))).bind fun x => some (.inl (((), (), ()), v, w64 (b + 1), x)))))))))))))))))))))))) else some (.inr (a, c))
def laws_markOutS_n26 : NEnt := ⟨⟨111, [⟨0, .one, [.ref 107 0 [] false false kk1]⟩, ⟨1, .one, [.dat kI]⟩, ⟨5, .one, [.dat kI]⟩, ⟨107, .agg, [.own true kk1]⟩]⟩, [(.exit 0, ⟨111, [⟨1, .one, [.dat kI]⟩, ⟨107, .agg, [.own true kk1]⟩]⟩)], lp laws_markOutS_s26⟩
def laws_markOutS : t23 → Option (Int × List t22)
  | (a, b) => (lp laws_markOutS_s26 (((), (), ()), b, 0, a)).bind fun (c, d) => some (c, d)
def laws_markOutS_e : FEnt := ⟨107, [.tmp 4], [true, false], [(.one, [.own true kk1]), (.one, [.dat kI])], ⟨111, [⟨4, .one, [.dat kI]⟩, ⟨107, .agg, [.own true kk1]⟩]⟩, laws_markOutS⟩
theorem laws_markOutS_ok : FnOk Try.prog 12 laws_markOutS_e := fnOk_mk (tb := [(26, laws_markOutS_n26)]) (c := (Try.f12.body).getD .skip) mixed Try.func12 (bC laws_markSpanS_ok (bC laws_markIntS_ok (bC laws_markIntSS_ok bN))) (by kernel_rfl) (by kernel_rfl) (by kernel_rfl) ⟨nodeLoop (by kernel_rfl) laws_markOutS_s26 (by kernel_rfl) (by intro d; kernel_rfl), trivial⟩ (by intro d; kernel_rfl)


/-! laws.heldSpanS -/
def laws_heldSpanS_s26 : t9 → Option (t9 ⊕ Int ⊕ Int)
  | (a, b, c) => bif decide (c < (ln a)) then ix c a.length ((some (gx a c (0, 0))).bind fun (d, e) => bif d != b then some (.inr (.inl (-1))) else ix c a.length ((some (gx a c (0, 0))).bind fun (f, g) => bif g != (w64 (b + 1)) then some (.inr (.inl (-1))) else some (.inl (a, w64 ((w64 (b + 1)) + 1), w64 (c + 1))))) else some (.inr (.inr b))
def laws_heldSpanS_n26 : NEnt := ⟨⟨35, [⟨0, .one, [.dat kk2]⟩, ⟨1, .one, [.dat kI]⟩, ⟨5, .one, [.dat kI]⟩]⟩, [(.ret, ⟨35, [⟨4, .one, [.dat kI]⟩]⟩), (.exit 0, ⟨35, [⟨1, .one, [.dat kI]⟩]⟩)], lp laws_heldSpanS_s26⟩
def laws_heldSpanS : t0 → Option Int
  | (a, b) => bx (lp laws_heldSpanS_s26 (a, b, 0)) (fun c => some c) fun c => some c
def laws_heldSpanS_e : FEnt := ⟨31, [.tmp 4], [], [(.one, [.dat kk2]), (.one, [.dat kI])], ⟨35, [⟨4, .one, [.dat kI]⟩]⟩, laws_heldSpanS⟩
theorem laws_heldSpanS_ok : FnOk Try.prog 39 laws_heldSpanS_e := fnOk_mk (tb := [(26, laws_heldSpanS_n26)]) (c := (Try.f39.body).getD .skip) mixed Try.func39 bN (by kernel_rfl) (by kernel_rfl) (by kernel_rfl) ⟨nodeLoop (by kernel_rfl) laws_heldSpanS_s26 (by kernel_rfl) (by intro d; kernel_rfl), trivial⟩ (by intro d; kernel_rfl)


/-! laws.heldIntS -/
def laws_heldIntS_s26 : List Int × Int × Int → Option (List Int × Int × Int ⊕ Int ⊕ Int)
  | (a, b, c) => bif decide (c < (ln a)) then ix c a.length (bif (gx a c 0) != b then some (.inr (.inl (-1))) else some (.inl (a, w64 (b + 1), w64 (c + 1)))) else some (.inr (.inr b))
def laws_heldIntS_n26 : NEnt := ⟨⟨25, [⟨0, .one, [.dat (.list kI)]⟩, ⟨1, .one, [.dat kI]⟩, ⟨5, .one, [.dat kI]⟩]⟩, [(.ret, ⟨25, [⟨4, .one, [.dat kI]⟩]⟩), (.exit 0, ⟨25, [⟨1, .one, [.dat kI]⟩]⟩)], lp laws_heldIntS_s26⟩
def laws_heldIntS : List Int × Int → Option Int
  | (a, b) => bx (lp laws_heldIntS_s26 (a, b, 0)) (fun c => some c) fun c => some c
def laws_heldIntS_e : FEnt := ⟨21, [.tmp 4], [], [(.one, [.dat (.list kI)]), (.one, [.dat kI])], ⟨25, [⟨4, .one, [.dat kI]⟩]⟩, laws_heldIntS⟩
theorem laws_heldIntS_ok : FnOk Try.prog 40 laws_heldIntS_e := fnOk_mk (tb := [(26, laws_heldIntS_n26)]) (c := (Try.f40.body).getD .skip) mixed Try.func40 bN (by kernel_rfl) (by kernel_rfl) (by kernel_rfl) ⟨nodeLoop (by kernel_rfl) laws_heldIntS_s26 (by kernel_rfl) (by intro d; kernel_rfl), trivial⟩ (by intro d; kernel_rfl)


/-! laws.heldIntSS -/
def laws_heldIntSS_s26 : t8 → Option (t8 ⊕ Int ⊕ Int)
  | (a, b, c) => bif decide (c < (ln a)) then ix c a.length ((laws_heldIntS (gx a c [], b)).bind fun d => bif decide (d < 0) then some (.inr (.inl (-1))) else some (.inl (a, d, w64 (c + 1)))) else some (.inr (.inr b))
def laws_heldIntSS_n26 : NEnt := ⟨⟨25, [⟨0, .one, [.dat kk3]⟩, ⟨1, .one, [.dat kI]⟩, ⟨5, .one, [.dat kI]⟩]⟩, [(.ret, ⟨25, [⟨4, .one, [.dat kI]⟩]⟩), (.exit 0, ⟨25, [⟨1, .one, [.dat kI]⟩]⟩)], lp laws_heldIntSS_s26⟩
def laws_heldIntSS : List (List Int) × Int → Option Int
  | (a, b) => bx (lp laws_heldIntSS_s26 (a, b, 0)) (fun c => some c) fun c => some c
def laws_heldIntSS_e : FEnt := ⟨21, [.tmp 4], [], [(.one, [.dat kk3]), (.one, [.dat kI])], ⟨25, [⟨4, .one, [.dat kI]⟩]⟩, laws_heldIntSS⟩
theorem laws_heldIntSS_ok : FnOk Try.prog 41 laws_heldIntSS_e := fnOk_mk (tb := [(26, laws_heldIntSS_n26)]) (c := (Try.f41.body).getD .skip) mixed Try.func41 (bC laws_heldIntS_ok bN) (by kernel_rfl) (by kernel_rfl) (by kernel_rfl) ⟨nodeLoop (by kernel_rfl) laws_heldIntSS_s26 (by kernel_rfl) (by intro d; kernel_rfl), trivial⟩ (by intro d; kernel_rfl)


/-! laws.heldOutS -/
def laws_heldOutS_s26 : t24 → Option (t24 ⊕ Int ⊕ Int)
  | (a, b, c) => (some (decide (c < (ln a)))).bind fun d => bif d then ix c a.length ((some (gx a c (0, 0, 0, [], 0, 0, 0, 0, [], [], []))).bind fun (e, f, g, h, i, j, k, l, m, n, o) => bif e != b then some (.inr (.inl (-1))) else ix c a.length ((some (gx a c (0, 0, 0, [], 0, 0, 0, 0, [], [], []))).bind fun (p, q, r, s, t, u, v, w, x, y, z) => bif q != (w64 (b + 1)) then some (.inr (.inl (-1))) else ix c a.length ((some (gx a c (0, 0, 0, [], 0, 0, 0, 0, [], [], []))).bind fun (a1, b1, c1, d1, e1, f1, g1, h1, i1, j1, k1) => bif c1 != (w64 ((w64 (b + 1)) + 1)) then some (.inr (.inl (-1))) else ix c a.length ((some (gx a c (0, 0, 0, [], 0, 0, 0, 0, [], [], []))).bind fun (l1, m1, n1, o1, p1, q1, r1, s1, t1, u1, v1) => (laws_heldSpanS (o1, w64 ((w64 ((w64 (b + 1)) + 1)) + 1))).bind fun w1 => bif decide (w1 < 0) then some (.inr (.inl (-1))) else ix c a.length ((some (gx a c (0, 0, 0, [], 0, 0, 0, 0, [], [], []))).bind fun (x1, y1, z1, a2, b2, c2, d2, e2, f2, g2, h2) => bif b2 != w1 then some (.inr (.inl (-1))) else ix c a.length ((some (gx a c (0, 0, 0, [], 0, 0, 0, 0, [], [], []))).bind fun (i2, j2, k2, l2, m2, n2, o2, p2, q2, r2, s2) => bif n2 != (w64 (w1 + 1)) then some (.inr (.inl (-1))) else ix c a.length ((some (gx a c (0, 0, 0, [], 0, 0, 0, 0, [], [], []))).bind fun (t2, u2, v2, w2, x2, y2, z2, a3, b3, c3, d3) => bif z2 != (w64 ((w64 (w1 + 1)) + 1)) then some (.inr (.inl (-1))) else ix c a.length ((some (gx a c (0, 0, 0, [], 0, 0, 0, 0, [], [], []))).bind fun (e3, f3, g3, h3, i3, j3, k3, l3, m3, n3, o3) => (some (l3 != (w64 ((w64 ((w64 (w1 + 1)) + 1)) + 1)))).bind fun p3 => bif p3 then some (.inr (.inl (-1))) else (some (w64 ((w64 ((w64 ((w64 (w1 + 1)) + 1)) + 1)) + 1))).bind fun q3 => ix c a.length ((some (gx a c (0, 0, 0, [], 0, 0, 0, 0, [], [], []))).bind fun (r3, s3, t3, u3, v3, w3, x3, y3, z3, a4, b4) => (laws_heldIntS (z3, q3)).bind fun c4 => bif decide (c4 < 0) then some (.inr (.inl (-1))) else ix c a.length ((some (gx a c (0, 0, 0, [], 0, 0, 0, 0, [], [], []))).bind fun (d4, e4, f4, g4, h4, i4, j4, k4, l4, m4, n4) => (laws_heldIntS (m4, c4)).bind fun o4 => bif decide (o4 < 0) then some (.inr (.inl (-1))) else ix c a.length ((some (gx a c (0, 0, 0, [], 0, 0, 0, 0, [], [], []))).bind fun (p4, q4, r4, s4, t4, u4, v4, w4, x4, y4, z4) => (laws_heldIntSS (z4, o4)).bind fun a5 => bif decide (a5 < 0) then some (.inr (.inl (-1))) else some (.inl (a, a5, w64 (c + 1)))))))))))))) else some (.inr (.inr b))
def laws_heldOutS_n26 : NEnt := ⟨⟨133, [⟨0, .one, [.dat kk0]⟩, ⟨1, .one, [.dat kI]⟩, ⟨5, .one, [.dat kI]⟩]⟩, [(.ret, ⟨133, [⟨4, .one, [.dat kI]⟩]⟩), (.exit 0, ⟨133, [⟨1, .one, [.dat kI]⟩]⟩)], lp laws_heldOutS_s26⟩
def laws_heldOutS : t23 → Option Int
  | (a, b) => bx (lp laws_heldOutS_s26 (a, b, 0)) (fun c => some c) fun c => some c
def laws_heldOutS_e : FEnt := ⟨129, [.tmp 4], [], [(.one, [.dat kk0]), (.one, [.dat kI])], ⟨133, [⟨4, .one, [.dat kI]⟩]⟩, laws_heldOutS⟩
theorem laws_heldOutS_ok : FnOk Try.prog 13 laws_heldOutS_e := fnOk_mk (tb := [(26, laws_heldOutS_n26)]) (c := (Try.f13.body).getD .skip) mixed Try.func13 (bC laws_heldSpanS_ok (bC laws_heldIntS_ok (bC laws_heldIntSS_ok bN))) (by kernel_rfl) (by kernel_rfl) (by kernel_rfl) ⟨nodeLoop (by kernel_rfl) laws_heldOutS_s26 (by kernel_rfl) (by intro d; kernel_rfl), trivial⟩ (by intro d; kernel_rfl)


/-! laws.FnExactOutsOf -/
def laws_FnExactOutsOf : List Int → Option Bool
  | a => bif decide ((ln a) > 1048576) then some true else (laws_toByteS a).bind fun b => (spec_OutsOf b).bind fun (c, d) => (laws_toByteS a).bind fun e => (impl_OutsOf e).bind fun (f, g) => (laws_eqOutS (f, c)).bind fun h => bif !h then some false else bif !(g == d) then some false else (laws_toByteS a).bind fun i => (laws_eqByteS (e, i)).bind fun j => bif !j then some false else (laws_markByteS (e, 1)).bind fun (k, l) => bif decide (k < 0) then some false else (laws_eqOutS (f, c)).bind fun m => bif !m then some false else bif !(g == d) then some false else (laws_markOutS (f, 1)).bind fun (n, o) => (laws_heldOutS (o, 1)).bind fun p => bif decide (p < 0) then some false else bif p != n then some false else (laws_toByteS a).bind fun q => (impl_OutsOf q).bind fun (r, s) => (laws_eqOutS (r, c)).bind fun t => bif !t then some false else bif !(s == d) then some false else (laws_heldOutS (o, 1)).bind fun u => bif decide (u < 0) then some false else bif u != n then some false else some true
def laws_FnExactOutsOf_e : FEnt := ⟨93, [.tmp 2], [], [(.one, [.dat (.list kB)])], ⟨95, [⟨2, .one, [.dat .bool]⟩]⟩, laws_FnExactOutsOf⟩
theorem laws_FnExactOutsOf_ok : FnOk Try.prog 3 laws_FnExactOutsOf_e := fnOk_mk (tb := []) (c := (Try.f3.body).getD .skip) mixed Try.func3 (bC laws_toByteS_ok (bC spec_OutsOf_ok (bC impl_OutsOf_ok (bC laws_eqOutS_ok (bC laws_eqByteS_ok (bC laws_markByteS_ok (bC laws_markOutS_ok (bC laws_heldOutS_ok bN)))))))) (by kernel_rfl) (by kernel_rfl) (by kernel_rfl) trivial (by intro d; kernel_rfl)

end Go.Proofs.Ytkegollaleklaaa.Tw
