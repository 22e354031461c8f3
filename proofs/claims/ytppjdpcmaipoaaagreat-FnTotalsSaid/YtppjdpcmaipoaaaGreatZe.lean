/- Parts of a proof, packed: see the last text for what is proved. No condition: definitions and lemmas. -/
import Derived.Test.YtppjdpcmaipoaaaGreatZd
import Derived.Shelf.Small.Bits
import Derived.IntWalk
namespace Go.Proofs.YtppjdpcmaipoaaaGreat.Tw
open Go.Mach Go.Proofs Go.Shelf Go.RowKit Go.Lib Go.Sort
set_option linter.unusedVariables false
set_option maxRecDepth 100000
instance tabs : Tabs Tryz.prog := ⟨[]⟩
set_option maxHeartbeats 1000000 in
theorem closureSp (x y : Sp2) (W : World) : Calls Tryz.prog 179 #[.agg #[.int .i64 x.1, .int .i64 x.2], .agg #[.int .i64 y.1, .int .i64 y.2]] W fun e w' => e = .returned (.int .i64 (Lib.compareInt x.1 y.1)) ∧ ∃ q os', w' = grow (W.drewN q) os' := by
 have hcon := fun W' => AnyG.cmp_Compare_int Tryz.cmpSp x.1 y.1 W'
 change ∀ W', Calls Tryz.prog 180 _ _ _ at hcon
 generalize Lib.compareInt x.1 y.1 = r at hcon ⊢
 go_enter Tryz.func179, Tryz.ntmps179
 go_wp2_with (go_at_call 180; refine (hcon _).mono ?_; rintro e w' ⟨rfl, rfl⟩)
 go_ret
 exact ⟨rfl, 0, _, by rw [alloc_eq_grow, alloc_eq_grow, grow_grow]; rfl⟩
theorem cmpLaysSp (blk off size : Nat) (w : World) : CmpLays Tryz.prog 179 #[] encSp 2 cfSp blk off size w :=
 fun _ _ _ _ x y => closureSp x y _
def slices_SortFunc : List Sp2 × Unit → Option (List Sp2) := fun d => if d.1.length ≤ 4294967296 then some (sortLo d.1) else none
def slices_SortFunc_e : FEnt := ⟨14, [], [true, false], [(.one, [.own true kSp]), (.one, [.fn 179 []])], ⟨14 + 4, [⟨14, .agg, [.own true kSp]⟩]⟩, slices_SortFunc⟩
theorem slices_SortFunc_ok : FnOk Tryz.prog 178 slices_SortFunc_e := by
 refine fnOk_sort Tryz.func178 (by kernel_rfl) (by kernel_rfl) (by kernel_rfl) (by omega) (fun b off cap l w hH hb hsz => ?_) (fun p cap w => ?_)
 ·have eg : ∀ args w, (callFunc 179 args).run Tryz.prog w = .ok (.enter 179 args) w := enters_of Tryz.func179 (by kernel_rfl) rfl
  have h := AnyQ.slices_SortFunc_eq Tryz.sortSp 2 Tryz.isAgg94 Tryz.sizeOf94 encSp (fun _ => rfl) (fun x v hv => by simp [encSp] at hv; rcases hv with rfl | rfl <;> rfl) cfSp swoSp 179 #[] b off cap l.toArray w eg (cmpLaysSp b off l.toArray.size w) hH hb (by simpa using hsz)
  have e : l.toArray.size = l.length := by simp
  rw [e] at h
  refine h.mono ?_
  rintro e w' ⟨rfl, m, os, rfl⟩
  refine ⟨rfl, m, os, ?_⟩
  have : (sortLo l).toArray = pdq (ltOf cfSp) l.toArray 0 l.length (Lib.bitLen l.length) true true := by simp [sortLo]
  rw [this]
 ·exact AnyF.slices_SortFunc_none (P := Tryz.prog) (ρ := Tryz.sortSp_ren) { Tryz.sortSp with } p cap (.func (.func 179) #[] #[]) w
end Go.Proofs.YtppjdpcmaipoaaaGreat.Tw
namespace Go.Proofs.YtppjdpcmaipoaaaGreat.Tw
open Go.Mach
set_option linter.unusedVariables false
set_option maxRecDepth 100000
abbrev kI : K := .int .i64
abbrev kB : K := .int .u8
abbrev t0 : Type := List (Int × Int) × Int
abbrev t1 : Type := Unit × Int × Unit × Unit
abbrev t2 : Type := Int × Unit × Unit × Unit
abbrev t3 : Type := List Int × List Int × Int
abbrev t4 : Type := Int × List Int × Int × Int
abbrev t5 : Type := List Int × List (List Int)
abbrev t6 : Type := Int × Int × Bool × List Int
abbrev t7 : Type := List (List Int) × Int × Int
abbrev t8 : Type := List (Int × Int) × Int × Int
abbrev t9 : Type := Int × t2
abbrev t10 : Type := Unit × t1
abbrev t11 : Type := List Int × List Int × Int × Int
abbrev t12 : Type := List Int × Int × Int × Int × Int
abbrev t13 : Type := Int × t4
abbrev t14 : Type := (Unit × Unit × Unit) × Int × Int
abbrev t15 : Type := Int × t8
abbrev t16 : Type := List (Int × Int) × List (Int × Int)
abbrev t17 : Type := Int × t9
abbrev t18 : Type := List Int × t5
abbrev t19 : Type := Int × t12
abbrev t20 : Type := Unit × t10
abbrev t21 : Type := List (Int × Int) × List Int × Int × Int
abbrev t22 : Type := Int × t15
abbrev t23 : Type := List (Int × Int) × t0
abbrev t24 : Type := Int × t17
abbrev t25 : Type := Int × t18
abbrev t26 : Type := (Int × Bool × Unit) × Int × Bool × List Int
abbrev t27 : Type := Int × t19
abbrev t28 : Type := Bool × t20
abbrev t29 : Type := List (Int × Int) × t8
abbrev t30 : Type := List (Int × Bool × List Int) × Int × Unit × Unit
abbrev t31 : Type := Int × t25
abbrev t32 : Type := Int × t27
abbrev t33 : Type := Int × t28
abbrev t34 : Type := Int × Int × t24
abbrev t35 : Type := Int × t31
abbrev t36 : Type := Int × t33
abbrev t37 : Type := List Int × Int × t26
abbrev t38 : Type := Int × t35
abbrev t39 : Type := Int × t36
abbrev t40 : Type := Int × Int × t34
abbrev t41 : Type := Int × t38
abbrev t42 : Type := Int × t39
abbrev t43 : Type := t38 × Int
abbrev t44 : Type := Int × t41
abbrev t45 : Type := Int × t42
abbrev t46 : Type := Int × t44
abbrev t47 : Type := List (Int × Int) × t38
abbrev t48 : Type := Unit × t45
abbrev t49 : Type := Int × t46
abbrev t50 : Type := List (Int × Int) × t40
abbrev t51 : Type := Int × t47
abbrev t52 : Type := t38 × List Int × Int × Int
abbrev t53 : Type := Int × t48
abbrev t54 : Type := Int × t51
abbrev t55 : Type := Int × t53
abbrev t56 : Type := Int × t54
abbrev t57 : Type := Int × t55
abbrev t58 : Type := Int × Int × Bool × List t22 × t10
abbrev t59 : Type := Int × Int × Int × t50
abbrev t60 : Type := List (Int × Int) × t49
abbrev t61 : Type := List t54 × Int
abbrev t62 : Type := Int × List t54
abbrev t63 : Type := List t54 × Unit
abbrev t64 : Type := t24 × t38
abbrev t65 : Type := Int × t60
abbrev t66 : Type := List t54 × Int × Int
abbrev t67 : Type := Int × t62
abbrev t68 : Type := t24 × t43
abbrev t69 : Type := Int × t65
abbrev t70 : Type := List t56 × Int × Int
abbrev t71 : Type := Int × t69
abbrev t72 : Type := List (Int × Int) × t61
abbrev t73 : Type := Int × t71
abbrev t74 : Type := List t56 × List Int × Int × Int
abbrev t75 : Type := List t56 × Int × Int × Int × Int
abbrev t76 : Type := List Int × Int × Int × Int × t58
abbrev t77 : Type := List (List (List t54)) × t1
abbrev t78 : Type := t24 × t38 × t7
abbrev t79 : Type := List (Int × Bool × List Int) × Int × t63
abbrev t80 : Type := List (List (List t54)) × t30
abbrev t81 : Type := List t22 × t77
abbrev t82 : Type := Bool × t81
abbrev t83 : Type := List t54 × List t54
abbrev t84 : Type := Int × t82
abbrev t85 : Type := List t54 × List t56
abbrev t86 : Type := List t54 × t61
abbrev t87 : Type := t54 × t67
abbrev t88 : Type := Int × t84
abbrev t89 : Type := Int × t85
abbrev t90 : Type := List t22 × t80
abbrev t91 : Type := Int × t88
abbrev t92 : Type := Int × t91
abbrev t93 : Type := Bool × t90
abbrev t94 : Type := Int × t92
abbrev t95 : Type := Int × t93
abbrev t96 : Type := (Unit × Unit × Unit) × t87
abbrev t97 : Type := Int × t95
abbrev t98 : Type := (List (List t54) × Unit) × List (List t54) × Int × Bool
abbrev t99 : Type := List Int × t94
abbrev t100 : Type := Int × t97
abbrev t101 : Type := Int × t99
abbrev t102 : Type := List (Int × Bool × List Int) × t89
abbrev t103 : Type := Int × t100
abbrev t104 : Type := Int × t101
abbrev t105 : Type := Int × t103
abbrev t106 : Type := Int × t104
abbrev t107 : Type := List Int × t105
abbrev t108 : Type := Int × t107
abbrev t109 : Type := Int × t108
abbrev t110 : Type := Int × t109
abbrev t111 : Type := List t22 × List (List (List t54)) × t79
abbrev t112 : Type := Int × Int × Int × Bool × t111
abbrev t113 : Type := List (List (List t54)) × Int × t98
abbrev t114 : Type := List (List (List t54)) × t102
abbrev t115 : Type := Int × List Int × Int × Int × t112
abbrev t116 : Type := List t22 × t114
abbrev t117 : Type := Bool × t116
abbrev t118 : Type := Int × t117
abbrev t119 : Type := Int × t118
abbrev t120 : Type := Int × t119
abbrev t121 : Type := Int × t120
abbrev t122 : Type := Int × t121
abbrev t123 : Type := List Int × t122
abbrev t124 : Type := Int × t123
abbrev t125 : Type := Int × t124
abbrev t126 : Type := Int × t125
abbrev t127 : Type := t126 × Int
abbrev t128 : Type := t126 × Int × Int
abbrev t129 : Type := t126 × Int × Int × Int
abbrev t130 : Type := t126 × t61
abbrev kk11 : K := (.list (.list kI))
abbrev kk10 : K := (.list (.pair kI kI))
abbrev kk9 : K := (.pair kI (.pair .bool (.list kI)))
abbrev kk8 : K := (.list kk9)
abbrev kk7 : K := (.pair kI (.pair kI (.pair kk10 (.pair kI kI))))
abbrev kk6 : K := (.list kk7)
abbrev kk5 : K := (.pair kI (.pair kI (.pair kk10 (.pair kI (.pair kI (.pair kI (.pair kI (.pair (.list kI) (.pair (.list kI) kk11)))))))))
abbrev kk4 : K := (.list kk5)
abbrev kk3 : K := (.pair kI kk5)
abbrev kk2 : K := (.list kk4)
abbrev kk1 : K := (.list kk3)
abbrev kk0 : K := (.list kk2)
abbrev cc0 : List PC := [.dat kI, .dat kI, .dat kI, .own true kI, .dat kI, .dat kI, .dat kI, .dat kI, .dat kI, .dat .bool, .own true kk7, .own false kk2, .own true kk9, .dat kI, .own false kk5, .own false kk3]
abbrev cc1 : List PC := [.dat kI, .dat kI, .dat kI, .own true kI, .dat kI, .dat kI, .dat kI, .dat kI, .dat kI, .dat .bool, .own true kk7, .own false kk2, .own true kk9, .dat kI, .own false kk5, .own true kk3]
abbrev cc2 : List PC := [.dat kI, .dat kI, .dat kI, .own true kI, .dat kI, .dat kI, .dat kI, .dat kI, .dat kI, .dat .bool, .own true kk7, .own true kk2, .own true kk9, .dat kI, .own false kk5, .own false kk3]
abbrev cc3 : List PC := [.dat kI, .dat kI, .dat kI, .own true kI, .dat kI, .dat kI, .dat kI, .dat kI, .dat kI, .dat .bool, .own true kk7, .own true kk2, .own true kk9, .dat kI, .own true kk5, .own true kk3]
abbrev cc4 : List PC := [.dat kI, .dat kI, .dat kI, .own true kI, .dat kI, .dat kI, .dat kI, .dat kI, .dat kI, .dat .bool, .own true kk7, .own true kk2, .own true kk9, .dat kI, .own true kk5, .nil]
abbrev cc5 : List PC := [.dat kI, .dat kI, .dat kI, .own true kI, .dat kI, .dat kI, .dat kI, .dat kI, .dat kI, .dat .bool, .own true kk7, .own true kk2, .own true kk9, .dat kI, .nil, .nil]
abbrev cc6 : List PC := [.dat kI, .dat kI, .dat kI, .dat kI, .dat kk10, .dat kI, .dat kI, .dat kI, .dat kI, .dat kI, .dat kI, .dat kI, .dat kI, .dat (.list kI), .dat (.list kI), .dat kk11]
abbrev cc7 : List PC := [.dat kI, .dat kI, .dat kI, .dat (.list kI), .dat kI, .dat kI, .dat kI, .dat kI, .dat kI, .dat .bool, .dat kk6, .dat kk0, .dat kk8, .dat kI, .dat kk4, .dat kk1]
abbrev cc8 : List PC := [.dat kI, .dat kI, .dat kI, .own true kI, .dat kI, .dat kI, .dat kI, .dat kI, .dat kI, .dat .bool, .own true kk7, .own true kk2, .nil, .dat kI, .nil, .nil]
abbrev cc9 : List PC := [.dat kI, .dat kI, .dat kI, .dat kI, .own true (.pair kI kI), .dat kI, .dat kI, .dat kI, .dat kI, .dat kI, .dat kI, .dat kI, .dat kI, .nil, .nil, .nil]
abbrev cc10 : List PC := [.dat kI, .dat kI, .dat kI, .own true kI, .dat kI, .dat kI, .dat kI, .dat kI, .dat kI, .dat .bool, .own true kk7, .nil, .nil, .dat kI, .nil, .nil]
abbrev cc11 : List PC := [.dat kI, .dat kI, .dat kI, .dat kI, .nil, .dat kI, .dat kI, .dat kI, .dat kI, .dat kI, .dat kI, .dat kI, .dat kI, .nil, .nil, .nil]
abbrev cc12 : List PC := [.dat kI, .dat kI, .dat kI, .nil, .dat kI, .dat kI, .dat kI, .dat kI, .dat kI, .dat .bool, .nil, .nil, .nil, .dat kI, .nil, .nil]
abbrev cc13 : List PC := [.dat kI, .dat kI, .own true (.pair kI kI), .dat kI, .dat kI, .dat kI, .dat kI, .own true kI, .own true kI, .own true (.list kI)]
abbrev cc14 : List PC := [.dat kI, .dat kI, .dat kI, .dat kI, .dat kI, .dat kI, .dat kI, .dat kI, .dat (.list kI), .dat (.list kI), .dat kk11]
abbrev cc15 : List PC := [.dat kI, .dat kI, .dat kk10, .dat kI, .dat kI, .dat kI, .dat kI, .dat (.list kI), .dat (.list kI), .dat kk11]
abbrev cc16 : List PC := [.dat kI, .dat kI, .dat kI, .dat kI, .own true kI, .own true kI, .own true (.list kI)]
abbrev cc17 : List PC := [.dat kI, .dat kI, .dat kI, .dat kI, .dat (.list kI), .dat (.list kI), .dat kk11]
abbrev cc18 : List PC := [.dat kI, .dat kI, .dat kI, .dat (.list kI), .dat kI, .dat kI, .dat kI, .dat kI]
abbrev cc19 : List PC := [.dat kI, .dat kI, .dat kI, .dat kI, .own true kI, .nil, .own true (.list kI)]
abbrev cc20 : List PC := [.dat kI, .dat kI, .nil, .dat kI, .dat kI, .dat kI, .dat kI, .nil, .nil, .nil]
abbrev cc21 : List PC := [.dat kI, .dat kI, .dat kI, .own true kI, .dat kI, .dat kI, .dat kI, .dat kI]
abbrev cc22 : List PC := [.dat kI, .dat kI, .own true (.pair kI kI), .dat kI, .dat kI]
abbrev cc23 : List PC := [.dat kI, .dat kI, .dat kI, .dat kI, .nil, .nil, .nil]
abbrev cc24 : List PC := [.dat kI, .dat kI, .dat kk10, .dat kI, .dat kI]
abbrev cc25 : List PC := [.dat kI, .dat kI, .nil, .dat kI, .dat kI]
abbrev cc26 : List PC := [.dat kI, .dat .bool, .dat (.list kI)]
abbrev cc27 : List PC := [.dat (.list kB), .dat kI, .dat kI]
abbrev cc28 : List PC := [.dat kI, .dat .bool, .own true kI]
abbrev cc29 : List PC := [.ref 89 0 [] false false kk5]
abbrev cc30 : List PC := [.dat kI, .dat .bool, .nil]
abbrev cc31 : List PC := [.own true (.pair kI kI)]
abbrev cc32 : List PC := [.dat kI, .dat kI]
theorem mixed : Tryz.prog.follows .mixedOrders = true := by kernel_rfl
def Keh : List Int → Option Bool
 | a => some (decide ((ln a) > 1048576))
def Keh_e : FEnt := ⟨6, [.tmp 2], [], [(.one, [.dat (.list kB)])], ⟨8, [⟨2, .one, [.dat .bool]⟩]⟩, Keh⟩
theorem Keh_ok : FnOk Tryz.prog 7 Keh_e := fnOk_mk (tb := []) (c := (Tryz.f7.body).getD .skip) mixed Tryz.func7 bN (by kernel_rfl) (by kernel_rfl) (by kernel_rfl) trivial (by intro d; kernel_rfl)
def Kcc_s58 : List Int × Int × Int → Option (List Int × Int × Int ⊕ List Int × Int)
 | (a, b, c) => bif decide (c < (ln a)) then bif decide (c < 4000) then ix c a.length ((some (w64 ((w64 ((w64 (b * 131)) + (w64 (gx a c 0)))) + 7))).bind fun d => (some (w64 (Int.ofNat (BitVec.toNat (BitVec.ofInt (64 : Nat) d &&& BitVec.ofInt (64 : Nat) (1073741823 : Int)))))).bind fun e => some (.inl (a, e, w64 (c + 1)))) else some (.inr (a, b)) else some (.inr (a, b))
def Kcc_n58 : NEnt := ⟨⟨34, [⟨0, .one, [.dat (.list kB)]⟩, ⟨3, .one, [.dat kI]⟩, ⟨4, .one, [.dat kI]⟩]⟩, [(.exit 0, ⟨34, [⟨0, .one, [.dat (.list kB)]⟩, ⟨3, .one, [.dat kI]⟩]⟩)], lp Kcc_s58⟩
def Kcc : List Int → Option (Unit × List Int × Int × Int)
 | a => (lp Kcc_s58 (a, w64 (26583 + (ln a)), 0)).bind fun (b, c) => some ((), b, 0, c)
def Kcc_e : FEnt := ⟨32, [.tmp 2], [], [(.one, [.dat (.list kB)])], ⟨34, [⟨2, .one, [.bptr 31 0]⟩, ⟨31, .box, cc27⟩]⟩, Kcc⟩
theorem Kcc_ok : FnOk Tryz.prog 47 Kcc_e := fnOk_mk (tb := [(58, Kcc_n58)]) (c := (Tryz.f47.body).getD .skip) mixed Tryz.func47 bN (by kernel_rfl) (by kernel_rfl) (by kernel_rfl) ⟨nodeLoop (by kernel_rfl) Kcc_s58 (by kernel_rfl) (by intro d; kernel_rfl), trivial⟩ (by intro d; kernel_rfl)
def Kcl : List Int × Int × Int → Option t4
 | (a, b, c) => (some (Int.fdiv (w64 ((w64 (c * 6364136223846793005)) + 1442695040888963407)) ((2 : Int) ^ (33 : Nat)))).bind fun d => (some (Int.fdiv (w64 ((w64 (c * 6364136223846793005)) + 1442695040888963407)) ((2 : Int) ^ (45 : Nat)))).bind fun e => (some (w64 (Int.ofNat (BitVec.toNat (BitVec.ofInt (64 : Nat) (IntKind.wrap IntKind.i64 (↑(BitVec.toNat (BitVec.ofInt (64 : Nat) d ^^^ BitVec.ofInt (64 : Nat) e)) : Int)) &&& BitVec.ofInt (64 : Nat) (255 : Int)))))).bind fun f => bif decide (b < (ln a)) then ix b a.length ((some (w64 (Int.ofNat (BitVec.toNat (BitVec.ofInt (64 : Nat) (IntKind.wrap IntKind.i64 (f + IntKind.wrap IntKind.i64 (List.getD a (Int.toNat b) (0 : Int)))) &&& BitVec.ofInt (64 : Nat) (255 : Int)))))).bind fun g => some (g, a, w64 (b + 1), w64 ((w64 (c * 6364136223846793005)) + 1442695040888963407))) else some (f, a, b, w64 ((w64 (c * 6364136223846793005)) + 1442695040888963407))
def Kcl_e : FEnt := ⟨58, [.tmp 2], [true], [(.box, cc27)], ⟨60, [⟨2, .one, [.dat kI]⟩, ⟨59, .box, cc27⟩]⟩, Kcl⟩
theorem Kcl_ok : FnOk Tryz.prog 58 Kcl_e := fnOk_mk (tb := []) (c := (Tryz.f58.body).getD .skip) mixed Tryz.func58 bN (by kernel_rfl) (by kernel_rfl) (by kernel_rfl) trivial (by intro d; kernel_rfl)
def Kg : (List Int × Int × Int) × Int → Option t4
 | ((a, b, c), d) => bif decide (d ≤ 0) then some (0, a, b, c) else bif decide (d ≤ 256) then (Kcl (a, b, c)).bind fun (e, f, g, h) => chk (!(decide (d = 0))) (some (Int.tmod e d, f, g, h)) else (Kcl (a, b, c)).bind fun (e, f, g, h) => (Kcl (f, g, h)).bind fun (i, j, k, l) => (Kcl (j, k, l)).bind fun (m, n, o, p) => (Kcl (n, o, p)).bind fun (q, r, s, t) => (some (w64 ((w64 ((w64 (e * 16777216)) + (w64 (i * 65536)))) + (w64 (m * 256))))).bind fun u => chk (!(decide (d = 0))) (some (Int.tmod (w64 (u + q)) d, r, s, t))
def Kg_e : FEnt := ⟨37, [.tmp 4], [true, false], [(.box, cc27), (.one, [.dat kI])], ⟨41, [⟨4, .one, [.dat kI]⟩, ⟨38, .box, cc27⟩]⟩, Kg⟩
theorem Kg_ok : FnOk Tryz.prog 57 Kg_e := fnOk_mk (tb := []) (c := (Tryz.f57.body).getD .skip) mixed Tryz.func57 (bC Kcl_ok bN) (by kernel_rfl) (by kernel_rfl) (by kernel_rfl) trivial (by intro d; kernel_rfl)
def Ku : (List Int × Int × Int) × List Int → Option t4
 | ((a, b, c), d) => (Kg ((a, b, c), ln d)).bind fun (e, f, g, h) => ix e d.length (some (gx d e 0, f, g, h))
def Ku_e : FEnt := ⟨12, [.tmp 4], [true, false], [(.box, cc27), (.one, [.dat (.list kI)])], ⟨16, [⟨4, .one, [.dat kI]⟩, ⟨13, .box, cc27⟩]⟩, Ku⟩
theorem Ku_ok : FnOk Tryz.prog 94 Ku_e := fnOk_mk (tb := []) (c := (Tryz.f94.body).getD .skip) mixed Tryz.func94 (bC Kg_ok bN) (by kernel_rfl) (by kernel_rfl) (by kernel_rfl) trivial (by intro d; kernel_rfl)
def Kdt : List Int × Int × Int → Option (t32 × List Int × Int × Int)
 | (a, b, c) => (Kg ((a, b, c), 5)).bind fun (d, e, f, g) => (Ku ((e, f, g), [5, 20, 60])).bind fun (h, i, j, k) => (Kg ((i, j, k), 4)).bind fun (l, m, n, o) => (Kg ((m, n, o), 3)).bind fun (p, q, r, s) => (Kg ((q, r, s), 3)).bind fun (t, u, v, w) => (Ku ((u, v, w), [1, 3, 100])).bind fun (x, y, z, a1) => (Kg ((y, z, a1), 3)).bind fun (b1, c1, d1, e1) => (Kg ((c1, d1, e1), 3)).bind fun (f1, g1, h1, i1) => (Ku ((g1, h1, i1), [2, 5, 50])).bind fun (j1, k1, l1, m1) => some ((w64 (1 + d), h, w64 (1 + l), [w64 (1 + p), w64 (1 + t), 1], x, w64 (1 + b1), f1, j1), k1, l1, m1)
def Kdt_e : FEnt := ⟨31, [.cell 2 true 8], [true], [(.box, cc27)], ⟨33, [⟨2, .box, cc21⟩, ⟨32, .box, cc27⟩]⟩, Kdt⟩
theorem Kdt_ok : FnOk Tryz.prog 151 Kdt_e := fnOk_mk (tb := []) (c := (Tryz.f151.body).getD .skip) mixed Tryz.func151 (bC Kg_ok (bC Ku_ok bN)) (by kernel_rfl) (by kernel_rfl) (by kernel_rfl) trivial (by intro d; kernel_rfl)
def Kb : Int × Int × Int → Option Bool
 | (a, b, c) => bif decide (a ≥ b) then some (decide (a ≤ c)) else some false
def Kb_e : FEnt := ⟨15, [.tmp 6], [], [(.one, [.dat kI]), (.one, [.dat kI]), (.one, [.dat kI])], ⟨21, [⟨6, .one, [.dat .bool]⟩]⟩, Kb⟩
theorem Kb_ok : FnOk Tryz.prog 53 Kb_e := fnOk_mk (tb := []) (c := (Tryz.f53.body).getD .skip) mixed Tryz.func53 bN (by kernel_rfl) (by kernel_rfl) (by kernel_rfl) trivial (by intro d; kernel_rfl)
def Kad_s58 : List Int × Int × Int × Int → Option (List Int × Int × Int × Int ⊕ Bool ⊕ Unit)
 | (a, b, c, d) => bif decide (d < (ln a)) then ix d a.length ((Kb (gx a d 0, b, c)).bind fun e => bif !e then some (.inr (.inl false)) else some (.inl (a, b, c, w64 (d + 1)))) else some (.inr (.inr ()))
def Kad_n58 : NEnt := ⟨⟨31, [⟨0, .one, [.dat (.list kI)]⟩, ⟨1, .one, [.dat kI]⟩, ⟨2, .one, [.dat kI]⟩, ⟨7, .one, [.dat kI]⟩]⟩, [(.ret, ⟨31, [⟨6, .one, [.dat .bool]⟩]⟩), (.exit 0, ⟨31, []⟩)], lp Kad_s58⟩
def Kad : List Int × Int × Int → Option Bool
 | (a, b, c) => bif (ln a) != 3 then some false else bx (lp Kad_s58 (a, b, c, 0)) (fun d => some d) fun _ => some true
def Kad_e : FEnt := ⟨25, [.tmp 6], [], [(.one, [.dat (.list kI)]), (.one, [.dat kI]), (.one, [.dat kI])], ⟨31, [⟨6, .one, [.dat .bool]⟩]⟩, Kad⟩
theorem Kad_ok : FnOk Tryz.prog 133 Kad_e := fnOk_mk (tb := [(58, Kad_n58)]) (c := (Tryz.f133.body).getD .skip) mixed Tryz.func133 (bC Kb_ok bN) (by kernel_rfl) (by kernel_rfl) (by kernel_rfl) ⟨nodeLoop (by kernel_rfl) Kad_s58 (by kernel_rfl) (by intro d; kernel_rfl), trivial⟩ (by intro d; kernel_rfl)
def Kco : t32 → Option Bool
 | (a, b, c, d, e, f, g, h) => (Kb (a, 1, 8)).bind fun i => bif i then (Kb (b, 1, 60)).bind fun j => bif j then (Kb (c, 1, 10)).bind fun k => bif k then (Kad (d, 1, 4)).bind fun l => bif l then (Kb (e, 1, 100)).bind fun m => bif m then (Kb (f, 1, 20)).bind fun n => bif n then (Kb (g, 0, 20)).bind fun o => bif o then (Kb (h, 1, 50)).bind fun p => some p else some false else some false else some false else some false else some false else some false else some false
def Kco_e : FEnt := ⟨41, [.tmp 2], [], [(.agg, cc18)], ⟨43, [⟨2, .one, [.dat .bool]⟩]⟩, Kco⟩
theorem Kco_ok : FnOk Tryz.prog 82 Kco_e := fnOk_mk (tb := []) (c := (Tryz.f82.body).getD .skip) mixed Tryz.func82 (bC Kb_ok (bC Kad_ok bN)) (by kernel_rfl) (by kernel_rfl) (by kernel_rfl) trivial (by intro d; kernel_rfl)
def Kcx : t32 → Option t32
 | (a, b, c, d, e, f, g, h) => chk (fits (0 + d.length) 8) (some (a, b, c, [] ++ d, e, f, g, h))
def Kcx_e : FEnt := ⟨11, [.cell 2 true 8], [], [(.agg, cc18)], ⟨13, [⟨2, .box, cc21⟩]⟩, Kcx⟩
theorem Kcx_ok : FnOk Tryz.prog 184 Kcx_e := fnOk_mk (tb := []) (c := (Tryz.f184.body).getD .skip) mixed Tryz.func184 bN (by kernel_rfl) (by kernel_rfl) (by kernel_rfl) trivial (by intro d; kernel_rfl)
def Kcj : List (Int × Int) → Option (List (Int × Int))
 | a => chk (fits (0 + a.length) 16) (some ([] ++ a))
def Kcj_e : FEnt := ⟨6, [.tmp 2], [], [(.one, [.dat kk10])], ⟨8, [⟨2, .one, cc31⟩]⟩, Kcj⟩
theorem Kcj_ok : FnOk Tryz.prog 139 Kcj_e := fnOk_mk (tb := []) (c := (Tryz.f139.body).getD .skip) mixed Tryz.func139 bN (by kernel_rfl) (by kernel_rfl) (by kernel_rfl) trivial (by intro d; kernel_rfl)
def Kbu : t22 → Option t22
 | (a, b, c, d, e) => (Kcj c).bind fun f => some (a, b, f, d, e)
def Kbu_e : FEnt := ⟨10, [.cell 2 true 5], [], [(.agg, cc24)], ⟨12, [⟨2, .box, cc22⟩]⟩, Kbu⟩
theorem Kbu_ok : FnOk Tryz.prog 195 Kbu_e := fnOk_mk (tb := []) (c := (Tryz.f195.body).getD .skip) mixed Tryz.func195 (bC Kcj_ok bN) (by kernel_rfl) (by kernel_rfl) (by kernel_rfl) trivial (by intro d; kernel_rfl)
def Ky_s26 : t0 → Option (t0 ⊕ Bool ⊕ Unit)
 | (a, b) => bif decide (b < (ln a)) then ix b a.length ((some (gx a b (0, 0))).bind fun (c, d) => (Kb (c, 0, 9999)).bind fun e => bif !e then some (.inr (.inl false)) else ix b a.length ((some (gx a b (0, 0))).bind fun (f, g) => ix b a.length ((some (gx a b (0, 0))).bind fun (h, i) => (Kb (g, h, 9999)).bind fun j => bif !j then some (.inr (.inl false)) else bif decide (b > 0) then ix b a.length ((some (gx a b (0, 0))).bind fun (k, l) => ix (w64 (b - 1)) a.length ((some (gx a (w64 (b - 1)) (0, 0))).bind fun (m, n) => bif decide (k ≤ (w64 (n + 1))) then some (.inr (.inl false)) else some (.inl (a, w64 (b + 1))))) else some (.inl (a, w64 (b + 1)))))) else some (.inr (.inr ()))
def Ky_n26 : NEnt := ⟨⟨52, [⟨0, .one, [.dat kk10]⟩, ⟨3, .one, [.dat kI]⟩]⟩, [(.ret, ⟨52, [⟨2, .one, [.dat .bool]⟩]⟩), (.exit 0, ⟨52, []⟩)], lp Ky_s26⟩
def Ky : List (Int × Int) → Option Bool
 | a => bx (lp Ky_s26 (a, 0)) (fun b => some b) fun _ => some true
def Ky_e : FEnt := ⟨50, [.tmp 2], [], [(.one, [.dat kk10])], ⟨52, [⟨2, .one, [.dat .bool]⟩]⟩, Ky⟩
theorem Ky_ok : FnOk Tryz.prog 113 Ky_e := fnOk_mk (tb := [(26, Ky_n26)]) (c := (Tryz.f113.body).getD .skip) mixed Tryz.func113 (bC Kb_ok bN) (by kernel_rfl) (by kernel_rfl) (by kernel_rfl) ⟨nodeLoop (by kernel_rfl) Ky_s26 (by kernel_rfl) (by intro d; kernel_rfl), trivial⟩ (by intro d; kernel_rfl)
def Kbp_s58 : t8 → Option (t8 ⊕ Bool ⊕ Unit)
 | (a, b, c) => bif decide (c < (ln a)) then ix c a.length ((some (gx a c (0, 0))).bind fun (d, e) => bif decide (d < 1) then some (.inr (.inl false)) else ix c a.length ((some (gx a c (0, 0))).bind fun (f, g) => bif decide (g > b) then some (.inr (.inl false)) else some (.inl (a, b, w64 (c + 1))))) else some (.inr (.inr ()))
def Kbp_n58 : NEnt := ⟨⟨34, [⟨0, .one, [.dat kk10]⟩, ⟨1, .one, [.dat kI]⟩, ⟨5, .one, [.dat kI]⟩]⟩, [(.ret, ⟨34, [⟨4, .one, [.dat .bool]⟩]⟩), (.exit 0, ⟨34, []⟩)], lp Kbp_s58⟩
def Kbp : t0 → Option Bool
 | (a, b) => (Ky a).bind fun c => bif !c then some false else bx (lp Kbp_s58 (a, b, 0)) (fun d => some d) fun _ => some true
def Kbp_e : FEnt := ⟨30, [.tmp 4], [], [(.one, [.dat kk10]), (.one, [.dat kI])], ⟨34, [⟨4, .one, [.dat .bool]⟩]⟩, Kbp⟩
theorem Kbp_ok : FnOk Tryz.prog 181 Kbp_e := fnOk_mk (tb := [(58, Kbp_n58)]) (c := (Tryz.f181.body).getD .skip) mixed Tryz.func181 (bC Ky_ok bN) (by kernel_rfl) (by kernel_rfl) (by kernel_rfl) ⟨nodeLoop (by kernel_rfl) Kbp_s58 (by kernel_rfl) (by intro d; kernel_rfl), trivial⟩ (by intro d; kernel_rfl)
def Kan_s122 : t8 → Option (t8 ⊕ Int)
 | (a, b, c) => bif decide (c < (ln a)) then ix c a.length ((some (gx a c (0, 0))).bind fun (d, e) => ix c a.length ((some (gx a c (0, 0))).bind fun (f, g) => some (.inl (a, w64 ((w64 ((w64 (b + e)) - f)) + 1), w64 (c + 1))))) else some (.inr b)
def Kan_n122 : NEnt := ⟨⟨32, [⟨0, .one, [.dat kk10]⟩, ⟨3, .one, [.dat kI]⟩, ⟨4, .one, [.dat kI]⟩]⟩, [(.exit 0, ⟨32, [⟨3, .one, [.dat kI]⟩]⟩)], lp Kan_s122⟩
def Kan : List (Int × Int) → Option Int
 | a => (Ky a).bind fun b => bif !b then some 0 else (lp Kan_s122 (a, 0, 0)).bind fun c => some c
def Kan_e : FEnt := ⟨30, [.tmp 2], [], [(.one, [.dat kk10])], ⟨32, [⟨2, .one, [.dat kI]⟩]⟩, Kan⟩
theorem Kan_ok : FnOk Tryz.prog 81 Kan_e := fnOk_mk (tb := [(122, Kan_n122)]) (c := (Tryz.f81.body).getD .skip) mixed Tryz.func81 (bC Ky_ok bN) (by kernel_rfl) (by kernel_rfl) (by kernel_rfl) ⟨nodeLoop (by kernel_rfl) Kan_s122 (by kernel_rfl) (by intro d; kernel_rfl), trivial⟩ (by intro d; kernel_rfl)
def Kbl : t22 × Int → Option Bool
 | ((a, b, c, d, e), f) => (Kb (f, 1, 8)).bind fun g => bif g then (Kb (a, 0, 1000)).bind fun h => bif h then (Kb (b, 0, 60)).bind fun i => bif i then (Kbp (c, b)).bind fun j => bif j then (Kan c).bind fun k => (Kb (d, 0, k)).bind fun l => bif l then bif decide (b ≤ (w64 (d + f))) then (Kb (e, 0, 1000000)).bind fun m => some m else some false else some false else some false else some false else some false else some false
def Kbl_e : FEnt := ⟨46, [.tmp 4], [], [(.agg, cc24), (.one, [.dat kI])], ⟨50, [⟨4, .one, [.dat .bool]⟩]⟩, Kbl⟩
theorem Kbl_ok : FnOk Tryz.prog 134 Kbl_e := fnOk_mk (tb := []) (c := (Tryz.f134.body).getD .skip) mixed Tryz.func134 (bC Kb_ok (bC Kbp_ok (bC Kan_ok bN))) (by kernel_rfl) (by kernel_rfl) (by kernel_rfl) trivial (by intro d; kernel_rfl)
def Kk : Int × Int → Option Int
 | (a, b) => bif decide (a < b) then some a else some b
def Kk_e : FEnt := ⟨10, [.tmp 4], [], [(.one, [.dat kI]), (.one, [.dat kI])], ⟨14, [⟨4, .one, [.dat kI]⟩]⟩, Kk⟩
theorem Kk_ok : FnOk Tryz.prog 142 Kk_e := fnOk_mk (tb := []) (c := (Tryz.f142.body).getD .skip) mixed Tryz.func142 bN (by kernel_rfl) (by kernel_rfl) (by kernel_rfl) trivial (by intro d; kernel_rfl)
def Kcp : t22 × Int → Option t22
 | ((a, b, c, d, e), f) => (Kbu (a, b, c, d, e)).bind fun (g, h, i, j, k) => (Kbl ((a, b, c, d, e), f)).bind fun l => bif l then (Kk (60, w64 (d + f))).bind fun m => some (g, m, i, j, k) else some (g, h, i, j, k)
def Kcp_e : FEnt := ⟨18, [.cell 4 true 5], [], [(.agg, cc24), (.one, [.dat kI])], ⟨22, [⟨4, .box, cc22⟩]⟩, Kcp⟩
theorem Kcp_ok : FnOk Tryz.prog 185 Kcp_e := fnOk_mk (tb := []) (c := (Tryz.f185.body).getD .skip) mixed Tryz.func185 (bC Kbu_ok (bC Kbl_ok (bC Kk_ok bN))) (by kernel_rfl) (by kernel_rfl) (by kernel_rfl) trivial (by intro d; kernel_rfl)
def Kdc : Unit → Option (Int × Bool × List Int)
 | _ => some (0, true, List.replicate 3 0)
def Kdc_e : FEnt := ⟨3, [.cell 0 true 3], [], [], ⟨3, [⟨0, .box, cc28⟩]⟩, Kdc⟩
theorem Kdc_ok : FnOk Tryz.prog 186 Kdc_e := fnOk_mk (tb := []) (c := (Tryz.f186.body).getD .skip) mixed Tryz.func186 bN (by kernel_rfl) (by kernel_rfl) (by kernel_rfl) trivial (by intro d; kernel_rfl)
def Kaa_s122 : t32 × t57 × t106 × Int → Option (t32 × t57 × t106 × Int ⊕ t57 × t106)
 | ((a, b, c, d, e, f, g, h), (i, j, k, _, l, m, n, o, p, q, _, _, _, r, _, _), (s, t, u, v, w, x, y, z, a1, b1, c1, d1, _, e1, _, _), f1) => bif decide (f1 < 3) then (Kcp ((0, 0, [], 0, 0), a)).bind fun (g1, h1, i1, j1, k1) => (some [(g1, h1, i1, j1, k1)]).bind fun l1 => chk (fits (c1.length + l1.length) 56) ((some (c1 ++ l1)).bind fun m1 => (some (List.replicate 2 [])).bind fun n1 => (some [n1]).bind fun o1 => chk (fits (d1.length + o1.length) 24) ((some (d1 ++ o1)).bind fun p1 => some (.inl ((a, b, c, d, e, f, g, h), (i, j, k, (), l, m, n, o, p, q, (), (), (), r, (), ()), (s, t, u, v, w, x, y, z, a1, b1, m1, p1, (), e1, (), ()), w64 (f1 + 1))))) else some (.inr ((i, j, k, (), l, m, n, o, p, q, (), (), (), r, (), ()), s, t, u, v, w, x, y, z, a1, b1, c1, d1, (), e1, (), ()))
def Kaa_n122 : NEnt := ⟨⟨46, [⟨1, .box, cc18⟩, ⟨2, .box, cc12⟩, ⟨4, .box, cc8⟩, ⟨5, .one, [.dat kI]⟩]⟩, [(.exit 0, ⟨46, [⟨2, .box, cc12⟩, ⟨4, .box, cc8⟩]⟩)], lp Kaa_s122⟩
def Kaa_s250 : t57 × t110 × Int → Option (t57 × t110 × Int ⊕ t57 × t110)
 | ((a, b, c, _, d, e, f, g, h, i, _, _, _, j, _, _), (k, l, m, n, o, p, q, r, s, t, u, v, w, x, _, _), y) => bif decide (y < 2) then (Kdc ()).bind fun (z, a1, b1) => chk (fits (w.length + [(z, a1, b1)].length) 40) ((some (w ++ [(z, a1, b1)])).bind fun c1 => some (.inl ((a, b, c, (), d, e, f, g, h, i, (), (), (), j, (), ()), (k, l, m, n, o, p, q, r, s, t, u, v, c1, x, (), ()), w64 (y + 1)))) else some (.inr ((a, b, c, (), d, e, f, g, h, i, (), (), (), j, (), ()), k, l, m, n, o, p, q, r, s, t, u, v, w, x, (), ()))
def Kaa_n250 : NEnt := ⟨⟨46, [⟨2, .box, cc12⟩, ⟨4, .box, cc5⟩, ⟨6, .one, [.dat kI]⟩]⟩, [(.exit 2, ⟨46, [⟨2, .box, cc12⟩, ⟨4, .box, cc5⟩]⟩)], lp Kaa_s250⟩
def Kaa : t32 → Option (t110 × Bool)
 | (a, b, c, d, e, f, g, h) => (Kco (a, b, c, d, e, f, g, h)).bind fun i => bif !i then some ((0, 0, 0, [], 0, 0, 0, 0, 0, false, [], [], [], 0, (), ()), false) else (Kcx (a, b, c, d, e, f, g, h)).bind fun (j, k, l, m, n, o, p, q) => (lp Kaa_s122 ((a, b, c, d, e, f, g, h), (0, 0, 0, (), 0, 0, 0, 0, 0, false, (), (), (), 0, (), ()), (j, k, l, m, n, o, p, q, 0, false, [], [], (), 0, (), ()), 0)).bind fun ((r, s, t, _, u, v, w, x, y, z, _, _, _, a1, _, _), b1, c1, d1, e1, f1, g1, h1, i1, j1, k1, l1, m1, _, n1, _, _) => (lp Kaa_s250 ((r, s, t, (), u, v, w, x, y, z, (), (), (), a1, (), ()), (b1, c1, d1, e1, f1, g1, h1, i1, j1, k1, l1, m1, [], n1, (), ()), 0)).bind fun ((o1, p1, q1, _, r1, s1, t1, u1, v1, w1, _, _, _, x1, _, _), y1, z1, a2, b2, c2, d2, e2, f2, g2, h2, i2, j2, k2, l2, _, _) => some ((y1, z1, a2, b2, c2, d2, e2, f2, g2, h2, i2, j2, k2, l2, (), ()), true)
def Kaa_e : FEnt := ⟨44, [.cell 2 true 16, .tmp 3], [], [(.agg, cc18)], ⟨46, [⟨2, .box, cc5⟩, ⟨3, .one, [.dat .bool]⟩]⟩, Kaa⟩
theorem Kaa_ok : FnOk Tryz.prog 150 Kaa_e := fnOk_mk (tb := [(250, Kaa_n250), (122, Kaa_n122)]) (c := (Tryz.f150.body).getD .skip) mixed Tryz.func150 (bC Kco_ok (bC Kcx_ok (bC Kcp_ok (bC Kdc_ok bN)))) (by kernel_rfl) (by kernel_rfl) (by kernel_rfl) ⟨nodeLoop (by kernel_rfl) Kaa_s250 (by kernel_rfl) (by intro d; kernel_rfl), nodeLoop (by kernel_rfl) Kaa_s122 (by kernel_rfl) (by intro d; kernel_rfl), trivial⟩ (by intro d; kernel_rfl)
def Kcw : Int × Int → Option Bool
 | (a, b) => (Kb (a, 0, 4)).bind fun c => bif c then (Kb (b, 0, 20)).bind fun d => some d else some false
def Kcw_e : FEnt := ⟨11, [.tmp 4], [], [(.one, [.dat kI]), (.one, [.dat kI])], ⟨15, [⟨4, .one, [.dat .bool]⟩]⟩, Kcw⟩
theorem Kcw_ok : FnOk Tryz.prog 112 Kcw_e := fnOk_mk (tb := []) (c := (Tryz.f112.body).getD .skip) mixed Tryz.func112 (bC Kb_ok bN) (by kernel_rfl) (by kernel_rfl) (by kernel_rfl) trivial (by intro d; kernel_rfl)
def Kap_s58 : List Int × Int × Int × Bool × Int → Option (List Int × Int × Int × Bool × Int ⊕ Bool ⊕ Unit)
 | (a, b, c, d, e) => bif decide (e < b) then ix e a.length ((Kb (gx a e 0, 0, c)).bind fun f => bif !f then some (.inr (.inl false)) else bif d then ix e a.length (bif (gx a e 0) != 0 then some (.inr (.inl false)) else some (.inl (a, b, c, d, w64 (e + 1)))) else some (.inl (a, b, c, d, w64 (e + 1)))) else some (.inr (.inr ()))
def Kap_n58 : NEnt := ⟨⟨44, [⟨0, .one, [.dat (.list kI)]⟩, ⟨1, .one, [.dat kI]⟩, ⟨2, .one, [.dat kI]⟩, ⟨3, .one, [.dat .bool]⟩, ⟨9, .one, [.dat kI]⟩]⟩, [(.ret, ⟨44, [⟨8, .one, [.dat .bool]⟩]⟩), (.exit 0, ⟨44, []⟩)], lp Kap_s58⟩
def Kap : List Int × Int × Int × Bool → Option Bool
 | (a, b, c, d) => bif (ln a) != b then some false else bx (lp Kap_s58 (a, b, c, d, 0)) (fun e => some e) fun _ => some true
def Kap_e : FEnt := ⟨36, [.tmp 8], [], [(.one, [.dat (.list kI)]), (.one, [.dat kI]), (.one, [.dat kI]), (.one, [.dat .bool])], ⟨44, [⟨8, .one, [.dat .bool]⟩]⟩, Kap⟩
theorem Kap_ok : FnOk Tryz.prog 163 Kap_e := fnOk_mk (tb := [(58, Kap_n58)]) (c := (Tryz.f163.body).getD .skip) mixed Tryz.func163 (bC Kb_ok bN) (by kernel_rfl) (by kernel_rfl) (by kernel_rfl) ⟨nodeLoop (by kernel_rfl) Kap_s58 (by kernel_rfl) (by intro d; kernel_rfl), trivial⟩ (by intro d; kernel_rfl)
def Kas_l31 : t38 × Bool → Option Bool
 | ((a, b, c, d, e, f, g), h) => (Kap (e, 8, 1000000000, h)).bind fun i => bif i then (Kap (f, 8, 17, h)).bind fun j => bif j then chk (decide (0 < g.length)) ((Kap (List.getD g 0 [], 4, 1000000000, h)).bind fun k => bif k then chk (decide (1 < g.length)) ((Kap (List.getD g 1 [], 4, 1000000000, h)).bind fun l => some l) else some false) else some false else some false
def Kas_n31 : NEnt := ⟨⟨81, [⟨1, .box, cc17⟩, ⟨3, .one, [.dat .bool]⟩]⟩, [(.ret, ⟨81, [⟨2, .one, [.dat .bool]⟩]⟩)], Kas_l31⟩
def Kas : t38 → Option Bool
 | (a, b, c, d, e, f, g) => (Kb (a, 0, 1000000000)).bind fun h => bif !h then some false else (Kb (b, 0, 1000000000)).bind fun i => bif !i then some false else (Kb (c, 0, 1000000)).bind fun j => bif !j then some false else (Kb (d, 0, 1000000)).bind fun k => bif !k then some false else bif decide (c > d) then some false else bif (ln g) != 2 then some false else bif a == 0 then bif b != 0 then some false else bif d != 0 then some false else (Kas_l31 ((a, b, c, d, e, f, g), a == 0)).bind fun l => some l else (Kas_l31 ((a, b, c, d, e, f, g), a == 0)).bind fun l => some l
def Kas_e : FEnt := ⟨79, [.tmp 2], [], [(.agg, cc17)], ⟨81, [⟨2, .one, [.dat .bool]⟩]⟩, Kas⟩
theorem Kas_ok : FnOk Tryz.prog 114 Kas_e := fnOk_mk (tb := [(31, Kas_n31)]) (c := (Tryz.f114.body).getD .skip) mixed Tryz.func114 (bC Kb_ok (bC Kap_ok bN)) (by kernel_rfl) (by kernel_rfl) (by kernel_rfl) ⟨nodeJoin (by kernel_rfl) (by intro d; kernel_rfl), trivial⟩ (by intro d; kernel_rfl)
def Kbk : t54 → Option Bool
 | (a, b, c, d, e, f, g, h, i, j) => (Kcw (a, b)).bind fun k => bif k then bif decide ((ln c) > 0) then (Ky c).bind fun l => bif l then (Kas (d, e, f, g, h, i, j)).bind fun m => some m else some false else some false else some false
def Kbk_e : FEnt := ⟨24, [.tmp 2], [], [(.agg, cc15)], ⟨26, [⟨2, .one, [.dat .bool]⟩]⟩, Kbk⟩
theorem Kbk_ok : FnOk Tryz.prog 54 Kbk_e := fnOk_mk (tb := []) (c := (Tryz.f54.body).getD .skip) mixed Tryz.func54 (bC Kcw_ok (bC Ky_ok (bC Kas_ok bN))) (by kernel_rfl) (by kernel_rfl) (by kernel_rfl) trivial (by intro d; kernel_rfl)
def Kq_s3730 : t29 → Option (t29 ⊕ Bool ⊕ t23)
 | (a, b, c, d) => bif decide (d < (ln b)) then ix c a.length ((some (gx a c (0, 0))).bind fun (e, f) => ix d b.length ((some (gx b d (0, 0))).bind fun (g, h) => bif decide (e ≤ h) then ix d b.length ((some (gx b d (0, 0))).bind fun (i, j) => ix c a.length ((some (gx a c (0, 0))).bind fun (k, l) => bif decide (i ≤ l) then some (.inr (.inl false)) else some (.inl (a, b, c, w64 (d + 1))))) else some (.inl (a, b, c, w64 (d + 1))))) else some (.inr (.inr (a, b, c)))
def Kq_n3730 : NEnt := ⟨⟨55, [⟨0, .one, [.dat kk10]⟩, ⟨1, .one, [.dat kk10]⟩, ⟨5, .one, [.dat kI]⟩, ⟨6, .one, [.dat kI]⟩]⟩, [(.ret, ⟨55, [⟨4, .one, [.dat .bool]⟩]⟩), (.exit 2, ⟨55, [⟨0, .one, [.dat kk10]⟩, ⟨1, .one, [.dat kk10]⟩, ⟨5, .one, [.dat kI]⟩]⟩)], lp Kq_s3730⟩
def Kq_s58 : t23 → Option (t23 ⊕ Bool ⊕ Unit)
 | (a, b, c) => bif decide (c < (ln a)) then bx (lp Kq_s3730 (a, b, c, 0)) (fun d => some (.inr (.inl d))) fun (d, e, f) => some (.inl (d, e, w64 (f + 1))) else some (.inr (.inr ()))
def Kq_n58 : NEnt := ⟨⟨55, [⟨0, .one, [.dat kk10]⟩, ⟨1, .one, [.dat kk10]⟩, ⟨5, .one, [.dat kI]⟩]⟩, [(.ret, ⟨55, [⟨4, .one, [.dat .bool]⟩]⟩), (.exit 0, ⟨55, []⟩)], lp Kq_s58⟩
def Kq : t16 → Option Bool
 | (a, b) => (Ky a).bind fun c => bif !c then some false else (Ky b).bind fun d => bif !d then some false else bx (lp Kq_s58 (a, b, 0)) (fun e => some e) fun _ => some true
def Kq_e : FEnt := ⟨51, [.tmp 4], [], [(.one, [.dat kk10]), (.one, [.dat kk10])], ⟨55, [⟨4, .one, [.dat .bool]⟩]⟩, Kq⟩
theorem Kq_ok : FnOk Tryz.prog 86 Kq_e := fnOk_mk (tb := [(3730, Kq_n3730), (58, Kq_n58)]) (c := (Tryz.f86.body).getD .skip) mixed Tryz.func86 (bC Ky_ok bN) (by kernel_rfl) (by kernel_rfl) (by kernel_rfl) ⟨nodeLoop (by kernel_rfl) Kq_s3730 (by kernel_rfl) (by intro d; kernel_rfl), nodeLoop (by kernel_rfl) Kq_s58 (by kernel_rfl) (by intro d; kernel_rfl), trivial⟩ (by intro d; kernel_rfl)
def Kn_s7462 : t66 → Option (t66 ⊕ Bool ⊕ t61)
 | (a, b, c) => bif decide (c < b) then ix b a.length ((some (gx a b (0, 0, [], 0, 0, 0, 0, [], [], []))).bind fun (d, e, f, g, h, i, j, k, l, m) => ix c a.length ((some (gx a c (0, 0, [], 0, 0, 0, 0, [], [], []))).bind fun (n, o, p, q, r, s, t, u, v, w) => (Kq (f, p)).bind fun x => bif !x then some (.inr (.inl false)) else some (.inl (a, b, w64 (c + 1))))) else some (.inr (.inr (a, b)))
def Kn_n7462 : NEnt := ⟨⟨44, [⟨1, .box, [.dat kk4]⟩, ⟨3, .one, [.dat kI]⟩, ⟨4, .one, [.dat kI]⟩]⟩, [(.ret, ⟨44, [⟨2, .one, [.dat .bool]⟩]⟩), (.exit 2, ⟨44, [⟨1, .box, [.dat kk4]⟩, ⟨3, .one, [.dat kI]⟩]⟩)], lp Kn_s7462⟩
def Kn_s58 : t61 → Option (t61 ⊕ Bool ⊕ Unit)
 | (a, b) => (some (decide (b < (ln a)))).bind fun c => bif c then ix b a.length ((some (gx a b (0, 0, [], 0, 0, 0, 0, [], [], []))).bind fun (d, e, f, g, h, i, j, k, l, m) => (Kbk (d, e, f, g, h, i, j, k, l, m)).bind fun n => bif !n then some (.inr (.inl false)) else bx (lp Kn_s7462 (a, b, 0)) (fun o => some (.inr (.inl o))) fun (o, p) => some (.inl (o, w64 (p + 1)))) else some (.inr (.inr ()))
def Kn_n58 : NEnt := ⟨⟨44, [⟨1, .box, [.dat kk4]⟩, ⟨3, .one, [.dat kI]⟩]⟩, [(.ret, ⟨44, [⟨2, .one, [.dat .bool]⟩]⟩), (.exit 0, ⟨44, []⟩)], lp Kn_s58⟩
def Kn : List t54 → Option Bool
 | a => (some (decide ((ln a) > 24))).bind fun b => bif b then some false else bx (lp Kn_s58 (a, 0)) (fun c => some c) fun _ => some true
def Kn_e : FEnt := ⟨42, [.tmp 2], [], [(.agg, [.dat kk4])], ⟨44, [⟨2, .one, [.dat .bool]⟩]⟩, Kn⟩
theorem Kn_ok : FnOk Tryz.prog 136 Kn_e := fnOk_mk (tb := [(7462, Kn_n7462), (58, Kn_n58)]) (c := (Tryz.f136.body).getD .skip) mixed Tryz.func136 (bC Kbk_ok (bC Kq_ok bN)) (by kernel_rfl) (by kernel_rfl) (by kernel_rfl) ⟨nodeLoop (by kernel_rfl) Kn_s7462 (by kernel_rfl) (by intro d; kernel_rfl), nodeLoop (by kernel_rfl) Kn_s58 (by kernel_rfl) (by intro d; kernel_rfl), trivial⟩ (by intro d; kernel_rfl)
def Kba : Int × Int → Option Int
 | (a, b) => bif decide (a > b) then some a else some b
def Kba_e : FEnt := ⟨10, [.tmp 4], [], [(.one, [.dat kI]), (.one, [.dat kI])], ⟨14, [⟨4, .one, [.dat kI]⟩]⟩, Kba⟩
theorem Kba_ok : FnOk Tryz.prog 141 Kba_e := fnOk_mk (tb := []) (c := (Tryz.f141.body).getD .skip) mixed Tryz.func141 bN (by kernel_rfl) (by kernel_rfl) (by kernel_rfl) trivial (by intro d; kernel_rfl)
def Ko_s122 : List (Int × Int) × (Int × Int) × List (Int × Int) × Bool × Int → Option (List (Int × Int) × (Int × Int) × List (Int × Int) × Bool × Int ⊕ (Int × Int) × List (Int × Int) × Bool)
 | (a, (b, c), d, e, f) => bif decide (f < (ln a)) then ix f a.length ((some (gx a f (0, 0))).bind fun (g, h) => bif decide ((w64 (h + 1)) < b) then ix f a.length ((some (gx a f (0, 0))).bind fun (i, j) => chk (fits (d.length + [(i, j)].length) 16) (some (.inl (a, (b, c), d ++ [(i, j)], e, w64 (f + 1))))) else ix f a.length ((some (gx a f (0, 0))).bind fun (i, j) => bif decide (i > (w64 (c + 1))) then bif !e then chk (fits (d.length + [(b, c)].length) 16) (ix f a.length ((some (gx a f (0, 0))).bind fun (k, l) => chk (fits ((d ++ [(b, c)]).length + [(k, l)].length) 16) ((some ((d ++ [(b, c)]) ++ [(k, l)])).bind fun m => some (.inl (a, (b, c), m, true, w64 (f + 1)))))) else ix f a.length ((some (gx a f (0, 0))).bind fun (k, l) => chk (fits (d.length + [(k, l)].length) 16) (some (.inl (a, (b, c), d ++ [(k, l)], e, w64 (f + 1))))) else ix f a.length ((some (gx a f (0, 0))).bind fun (k, l) => (Kk (b, k)).bind fun m => ix f a.length ((some (gx a f (0, 0))).bind fun (n, o) => (Kba (c, o)).bind fun p => some (.inl (a, (m, p), d, e, w64 (f + 1))))))) else some (.inr ((b, c), d, e))
def Ko_n122 : NEnt := ⟨⟨83, [⟨0, .one, [.dat kk10]⟩, ⟨3, .box, cc32⟩, ⟨5, .one, cc31⟩, ⟨6, .one, [.dat .bool]⟩, ⟨7, .one, [.dat kI]⟩]⟩, [(.exit 0, ⟨83, [⟨3, .box, cc32⟩, ⟨5, .one, cc31⟩, ⟨6, .one, [.dat .bool]⟩]⟩)], lp Ko_s122⟩
def Ko : t8 → Option (List (Int × Int))
 | (a, b, c) => (lp Ko_s122 (a, (b, c), [], false, 0)).bind fun ((d, e), f, g) => bif !g then chk (fits (f.length + [(d, e)].length) 16) (some (f ++ [(d, e)])) else some f
def Ko_e : FEnt := ⟨79, [.tmp 4], [], [(.one, [.dat kk10]), (.agg, cc32)], ⟨83, [⟨4, .one, cc31⟩]⟩, Ko⟩
theorem Ko_ok : FnOk Tryz.prog 140 Ko_e := fnOk_mk (tb := [(122, Ko_n122)]) (c := (Tryz.f140.body).getD .skip) mixed Tryz.func140 (bC Kk_ok (bC Kba_ok bN)) (by kernel_rfl) (by kernel_rfl) (by kernel_rfl) ⟨nodeLoop (by kernel_rfl) Ko_s122 (by kernel_rfl) (by intro d; kernel_rfl), trivial⟩ (by intro d; kernel_rfl)
def Kah_s58 : t23 → Option (t23 ⊕ List (Int × Int))
 | (a, b, c) => bif decide (c < (ln a)) then ix c a.length ((some (gx a c (0, 0))).bind fun (d, e) => (Ko (b, d, e)).bind fun f => some (.inl (a, f, w64 (c + 1)))) else some (.inr b)
def Kah_n58 : NEnt := ⟨⟨26, [⟨1, .one, [.dat kk10]⟩, ⟨5, .one, cc31⟩, ⟨6, .one, [.dat kI]⟩]⟩, [(.exit 0, ⟨26, [⟨5, .one, cc31⟩]⟩)], lp Kah_s58⟩
def Kah : t16 → Option (List (Int × Int))
 | (a, b) => (Kcj a).bind fun c => (lp Kah_s58 (b, c, 0)).bind fun d => some d
def Kah_e : FEnt := ⟨22, [.tmp 4], [], [(.one, [.dat kk10]), (.one, [.dat kk10])], ⟨26, [⟨4, .one, cc31⟩]⟩, Kah⟩
theorem Kah_ok : FnOk Tryz.prog 87 Kah_e := fnOk_mk (tb := [(58, Kah_n58)]) (c := (Tryz.f87.body).getD .skip) mixed Tryz.func87 (bC Kcj_ok (bC Ko_ok bN)) (by kernel_rfl) (by kernel_rfl) (by kernel_rfl) ⟨nodeLoop (by kernel_rfl) Kah_s58 (by kernel_rfl) (by intro d; kernel_rfl), trivial⟩ (by intro d; kernel_rfl)
def Kbo_s122 : List t54 × t0 → Option (List t54 × t0 ⊕ List (Int × Int))
 | (a, b, c) => (some (decide (c < (ln a)))).bind fun d => bif d then ix c a.length ((some (gx a c (0, 0, [], 0, 0, 0, 0, [], [], []))).bind fun (e, f, g, h, i, j, k, l, m, n) => (Kah (b, g)).bind fun o => some (.inl (a, o, w64 (c + 1)))) else some (.inr b)
def Kbo_n122 : NEnt := ⟨⟨28, [⟨1, .box, [.dat kk4]⟩, ⟨3, .one, cc31⟩, ⟨4, .one, [.dat kI]⟩]⟩, [(.exit 0, ⟨28, [⟨3, .one, cc31⟩]⟩)], lp Kbo_s122⟩
def Kbo : List t54 → Option (List (Int × Int))
 | a => (Kn a).bind fun b => bif !b then some [] else (lp Kbo_s122 (a, [], 0)).bind fun c => some c
def Kbo_e : FEnt := ⟨26, [.tmp 2], [], [(.agg, [.dat kk4])], ⟨28, [⟨2, .one, cc31⟩]⟩, Kbo⟩
theorem Kbo_ok : FnOk Tryz.prog 135 Kbo_e := fnOk_mk (tb := [(122, Kbo_n122)]) (c := (Tryz.f135.body).getD .skip) mixed Tryz.func135 (bC Kn_ok (bC Kah_ok bN)) (by kernel_rfl) (by kernel_rfl) (by kernel_rfl) ⟨nodeLoop (by kernel_rfl) Kbo_s122 (by kernel_rfl) (by intro d; kernel_rfl), trivial⟩ (by intro d; kernel_rfl)
def Kau_s58 : List (Int × Int) × Int × Int × Int → Option (List (Int × Int) × Int × Int × Int ⊕ Int)
 | (a, b, c, d) => bif decide (d < (ln a)) then ix d a.length ((some (gx a d (0, 0))).bind fun (e, f) => (Kba (e, w64 ((w64 (100 * b)) + 1))).bind fun g => ix d a.length ((some (gx a d (0, 0))).bind fun (h, i) => (Kk (i, w64 ((w64 (100 * b)) + 60))).bind fun j => (Kba (w64 ((w64 (j - g)) + 1), 0)).bind fun k => some (.inl (a, b, w64 (c + k), w64 (d + 1))))) else some (.inr c)
def Kau_n58 : NEnt := ⟨⟨45, [⟨0, .one, [.dat kk10]⟩, ⟨1, .one, [.dat kI]⟩, ⟨5, .one, [.dat kI]⟩, ⟨6, .one, [.dat kI]⟩]⟩, [(.exit 0, ⟨45, [⟨5, .one, [.dat kI]⟩]⟩)], lp Kau_s58⟩
def Kau : t0 → Option Int
 | (a, b) => (lp Kau_s58 (a, b, 0, 0)).bind fun c => some c
def Kau_e : FEnt := ⟨41, [.tmp 4], [], [(.one, [.dat kk10]), (.one, [.dat kI])], ⟨45, [⟨4, .one, [.dat kI]⟩]⟩, Kau⟩
theorem Kau_ok : FnOk Tryz.prog 90 Kau_e := fnOk_mk (tb := [(58, Kau_n58)]) (c := (Tryz.f90.body).getD .skip) mixed Tryz.func90 (bC Kba_ok (bC Kk_ok bN)) (by kernel_rfl) (by kernel_rfl) (by kernel_rfl) ⟨nodeLoop (by kernel_rfl) Kau_s58 (by kernel_rfl) (by intro d; kernel_rfl), trivial⟩ (by intro d; kernel_rfl)
def Kcm : Int → Option Bool
 | a => (Kb (a, 0, 2)).bind fun b => some b
def Kcm_e : FEnt := ⟨5, [.tmp 2], [], [(.one, [.dat kI])], ⟨7, [⟨2, .one, [.dat .bool]⟩]⟩, Kcm⟩
theorem Kcm_ok : FnOk Tryz.prog 182 Kcm_e := fnOk_mk (tb := []) (c := (Tryz.f182.body).getD .skip) mixed Tryz.func182 (bC Kb_ok bN) (by kernel_rfl) (by kernel_rfl) (by kernel_rfl) trivial (by intro d; kernel_rfl)
def Kde : Int × Bool × List Int → Option Bool
 | (a, b, c) => (Kcm a).bind fun d => bif d then (Kad (c, 0, 1000)).bind fun e => some e else some false
def Kde_e : FEnt := ⟨11, [.tmp 2], [], [(.agg, cc26)], ⟨13, [⟨2, .one, [.dat .bool]⟩]⟩, Kde⟩
theorem Kde_ok : FnOk Tryz.prog 137 Kde_e := fnOk_mk (tb := []) (c := (Tryz.f137.body).getD .skip) mixed Tryz.func137 (bC Kcm_ok (bC Kad_ok bN)) (by kernel_rfl) (by kernel_rfl) (by kernel_rfl) trivial (by intro d; kernel_rfl)
def Kh_s7462 : t126 × Int × Int × Unit × t113 → Option (t126 × Int × Int × Unit × t113 ⊕ Bool ⊕ t126 × Int × Unit × t113)
 | ((a, b, c, d, e, f, g, h, i, j, k, l, m, n, o, p), q, r, _, s, t, (u, _), v, w, x) => bif decide (r < 2) then ix q l.length ((some (gx l q [])).bind fun y => ix r y.length ((some (gx y r [])).bind fun z => (Kbo z).bind fun a1 => ix q l.length ((some (gx l q [])).bind fun b1 => ix r b1.length ((some (gx b1 r [])).bind fun c1 => (Kn c1).bind fun d1 => bif !d1 then some (.inr (.inl false)) else (Kau (a1, q)).bind fun e1 => (Kan a1).bind fun f1 => bif e1 != f1 then some (.inr (.inl false)) else some (.inl ((a, b, c, d, e, f, g, h, i, j, k, l, m, n, o, p), q, w64 (r + 1), (), s, t, (u, ()), v, w, x)))))) else some (.inr (.inr ((a, b, c, d, e, f, g, h, i, j, k, l, m, n, o, p), q, (), s, t, (u, ()), v, w, x)))
def Kh_n7462 : NEnt := ⟨⟨102, [⟨1, .box, cc7⟩, ⟨3, .one, [.dat kI]⟩, ⟨4, .one, [.dat kI]⟩, ⟨50, .one, [.bptr 1 11]⟩, ⟨51, .one, [.dat kk0]⟩, ⟨52, .one, [.dat kI]⟩, ⟨53, .one, [.pim [kk2] 0]⟩, ⟨54, .one, [.dat kk2]⟩, ⟨55, .one, [.dat kI]⟩, ⟨56, .one, [.dat .bool]⟩]⟩, [(.ret, ⟨102, [⟨2, .one, [.dat .bool]⟩]⟩), (.exit 2, ⟨102, [⟨1, .box, cc7⟩, ⟨3, .one, [.dat kI]⟩, ⟨50, .one, [.bptr 1 11]⟩, ⟨51, .one, [.dat kk0]⟩, ⟨52, .one, [.dat kI]⟩, ⟨53, .one, [.pim [kk2] 0]⟩, ⟨54, .one, [.dat kk2]⟩, ⟨55, .one, [.dat kI]⟩, ⟨56, .one, [.dat .bool]⟩]⟩)], lp Kh_s7462⟩
def Kh_s58 : t127 → Option (t127 ⊕ Bool ⊕ t126)
 | ((a, b, c, d, e, f, g, h, i, j, k, l, m, n, o, p), q) => bif decide (q < 3) then ix q k.length ((some (gx k q (0, 0, [], 0, 0))).bind fun (r, s, t, u, v) => (Kbl ((r, s, t, u, v), a)).bind fun w => bif !w then some (.inr (.inl false)) else ix q l.length ((some (gx l q [])).bind fun x => bif (ln x) != 2 then some (.inr (.inl false)) else bx (lp Kh_s7462 ((a, b, c, d, e, f, g, h, i, j, k, l, m, n, o, p), q, 0, (), l, q, (gx l q [], ()), x, ln x, (ln x) != 2)) (fun y => some (.inr (.inl y))) fun ((y, z, a1, b1, c1, d1, e1, f1, g1, h1, i1, j1, k1, l1, m1, n1), o1, _, p1, q1, (r1, _), s1, t1, u1) => some (.inl ((y, z, a1, b1, c1, d1, e1, f1, g1, h1, i1, j1, k1, l1, m1, n1), w64 (o1 + 1))))) else some (.inr (.inr (a, b, c, d, e, f, g, h, i, j, k, l, m, n, o, p)))
def Kh_n58 : NEnt := ⟨⟨102, [⟨1, .box, cc7⟩, ⟨3, .one, [.dat kI]⟩]⟩, [(.ret, ⟨102, [⟨2, .one, [.dat .bool]⟩]⟩), (.exit 0, ⟨102, [⟨1, .box, cc7⟩]⟩)], lp Kh_s58⟩
def Kh_s122 : t127 → Option (t127 ⊕ Bool ⊕ Unit)
 | ((a, b, c, d, e, f, g, h, i, j, k, l, m, n, o, p), q) => bif decide (q < 2) then ix q m.length ((some (gx m q (0, false, []))).bind fun (r, s, t) => (Kde (r, s, t)).bind fun u => bif !u then some (.inr (.inl false)) else some (.inl ((a, b, c, d, e, f, g, h, i, j, k, l, m, n, o, p), w64 (q + 1)))) else some (.inr (.inr ()))
def Kh_n122 : NEnt := ⟨⟨102, [⟨1, .box, cc7⟩, ⟨6, .one, [.dat kI]⟩]⟩, [(.ret, ⟨102, [⟨2, .one, [.dat .bool]⟩]⟩), (.exit 4, ⟨102, []⟩)], lp Kh_s122⟩
def Kh : t126 → Option Bool
 | (a, b, c, d, e, f, g, h, i, j, k, l, m, n, o, p) => bif (ln k) != 3 then some false else bif (ln l) != 3 then some false else bif (ln m) != 2 then some false else (Kb (n, 0, 1000)).bind fun q => bif !q then some false else (Kb (i, 0, 100000)).bind fun r => bif !r then some false else bx (lp Kh_s58 ((a, b, c, d, e, f, g, h, i, j, k, l, m, n, o, p), 0)) (fun s => some s) fun (s, t, u, v, w, x, y, z, a1, b1, c1, d1, e1, f1, g1, h1) => bx (lp Kh_s122 ((s, t, u, v, w, x, y, z, a1, b1, c1, d1, e1, f1, g1, h1), 0)) (fun i1 => some i1) fun _ => some true
def Kh_e : FEnt := ⟨100, [.tmp 2], [], [(.agg, cc7)], ⟨102, [⟨2, .one, [.dat .bool]⟩]⟩, Kh⟩
theorem Kh_ok : FnOk Tryz.prog 83 Kh_e := fnOk_mk (tb := [(122, Kh_n122), (7462, Kh_n7462), (58, Kh_n58)]) (c := (Tryz.f83.body).getD .skip) mixed Tryz.func83 (bC Kb_ok (bC Kbl_ok (bC Kbo_ok (bC Kn_ok (bC Kau_ok (bC Kan_ok (bC Kde_ok bN))))))) (by kernel_rfl) (by kernel_rfl) (by kernel_rfl) ⟨nodeLoop (by kernel_rfl) Kh_s122 (by kernel_rfl) (by intro d; kernel_rfl), nodeLoop (by kernel_rfl) Kh_s7462 (by kernel_rfl) (by intro d; kernel_rfl), nodeLoop (by kernel_rfl) Kh_s58 (by kernel_rfl) (by intro d; kernel_rfl), trivial⟩ (by intro d; kernel_rfl)
def Kcg : Bool → Option Int
 | a => bif a then some 1 else some 0
def Kcg_e : FEnt := ⟨4, [.tmp 2], [], [(.one, [.dat .bool])], ⟨6, [⟨2, .one, [.dat kI]⟩]⟩, Kcg⟩
theorem Kcg_ok : FnOk Tryz.prog 75 Kcg_e := fnOk_mk (tb := []) (c := (Tryz.f75.body).getD .skip) mixed Tryz.func75 bN (by kernel_rfl) (by kernel_rfl) (by kernel_rfl) trivial (by intro d; kernel_rfl)
def Kaq_s58 : t75 → Option (t75 ⊕ Int)
 | (a, b, c, d, e) => (some (decide (e < (ln a)))).bind fun f => bif f then ix e a.length ((some (gx a e (0, 0, 0, [], 0, 0, 0, 0, [], [], []))).bind fun (g, h, i, j, k, l, m, n, o, p, q) => bif h == b then ix e a.length ((some (gx a e (0, 0, 0, [], 0, 0, 0, 0, [], [], []))).bind fun (r, s, t, u, v, w, x, y, z, a1, b1) => (Kcg (t == c)).bind fun c1 => some (.inl (a, b, c, w64 (d + c1), w64 (e + 1)))) else (Kcg false).bind fun r => some (.inl (a, b, c, w64 (d + r), w64 (e + 1)))) else some (.inr d)
def Kaq_n58 : NEnt := ⟨⟨43, [⟨0, .one, [.dat kk1]⟩, ⟨1, .one, [.dat kI]⟩, ⟨2, .one, [.dat kI]⟩, ⟨7, .one, [.dat kI]⟩, ⟨8, .one, [.dat kI]⟩]⟩, [(.exit 0, ⟨43, [⟨7, .one, [.dat kI]⟩]⟩)], lp Kaq_s58⟩
def Kaq : t70 → Option Int
 | (a, b, c) => (lp Kaq_s58 (a, b, c, 0, 0)).bind fun d => some d
def Kaq_e : FEnt := ⟨37, [.tmp 6], [], [(.one, [.dat kk1]), (.one, [.dat kI]), (.one, [.dat kI])], ⟨43, [⟨6, .one, [.dat kI]⟩]⟩, Kaq⟩
theorem Kaq_ok : FnOk Tryz.prog 138 Kaq_e := fnOk_mk (tb := [(58, Kaq_n58)]) (c := (Tryz.f138.body).getD .skip) mixed Tryz.func138 (bC Kcg_ok bN) (by kernel_rfl) (by kernel_rfl) (by kernel_rfl) ⟨nodeLoop (by kernel_rfl) Kaq_s58 (by kernel_rfl) (by intro d; kernel_rfl), trivial⟩ (by intro d; kernel_rfl)
def Kz_s26 : t127 → Option (t127 ⊕ Bool ⊕ t126)
 | ((a, b, c, d, e, f, g, h, i, j, k, l, m, n, o, p), q) => (some (decide (q < (ln o)))).bind fun r => bif r then ix q o.length ((some (gx o q (0, 0, [], 0, 0, 0, 0, [], [], []))).bind fun (s, t, u, v, w, x, y, z, a1, b1) => (Kbk (s, t, u, v, w, x, y, z, a1, b1)).bind fun c1 => bif !c1 then some (.inr (.inl false)) else bif decide (q > 0) then ix (w64 (q - 1)) o.length ((some (gx o (w64 (q - 1)) (0, 0, [], 0, 0, 0, 0, [], [], []))).bind fun (d1, e1, f1, g1, h1, i1, j1, k1, l1, m1) => bif decide (s < d1) then some (.inr (.inl false)) else ix (w64 (q - 1)) o.length ((some (gx o (w64 (q - 1)) (0, 0, [], 0, 0, 0, 0, [], [], []))).bind fun (n1, o1, p1, q1, r1, s1, t1, u1, v1, w1) => bif s == n1 then ix (w64 (q - 1)) o.length ((some (gx o (w64 (q - 1)) (0, 0, [], 0, 0, 0, 0, [], [], []))).bind fun (x1, y1, z1, a2, b2, c2, d2, e2, f2, g2) => bif decide (t ≤ y1) then some (.inr (.inl false)) else some (.inl ((a, b, c, d, e, f, g, h, i, j, k, l, m, n, o, p), w64 (q + 1)))) else some (.inl ((a, b, c, d, e, f, g, h, i, j, k, l, m, n, o, p), w64 (q + 1))))) else some (.inl ((a, b, c, d, e, f, g, h, i, j, k, l, m, n, o, p), w64 (q + 1)))) else some (.inr (.inr (a, b, c, d, e, f, g, h, i, j, k, l, m, n, o, p)))
def Kz_n26 : NEnt := ⟨⟨104, [⟨1, .box, cc7⟩, ⟨3, .one, [.dat kI]⟩]⟩, [(.ret, ⟨104, [⟨2, .one, [.dat .bool]⟩]⟩), (.exit 0, ⟨104, [⟨1, .box, cc7⟩]⟩)], lp Kz_s26⟩
def Kz_s58 : t127 → Option (t127 ⊕ Bool ⊕ Unit)
 | ((a, b, c, d, e, f, g, h, i, j, k, l, m, n, o, p), q) => (some (decide (q < (ln p)))).bind fun r => bif r then ix q p.length ((some (gx p q (0, 0, 0, [], 0, 0, 0, 0, [], [], []))).bind fun (s, t, u, v, w, x, y, z, a1, b1, c1) => (Kbk (t, u, v, w, x, y, z, a1, b1, c1)).bind fun d1 => bif !d1 then some (.inr (.inl false)) else ix q p.length ((some (gx p q (0, 0, 0, [], 0, 0, 0, 0, [], [], []))).bind fun (e1, f1, g1, h1, i1, j1, k1, l1, m1, n1, o1) => g0 q (chk (decide ((0 ≤ q.toNat) ∧ (q.toNat ≤ p.length))) (ix q p.length ((some (gx p q (0, 0, 0, [], 0, 0, 0, 0, [], [], []))).bind fun (p1, q1, r1, s1, t1, u1, v1, w1, x1, y1, z1) => ix q p.length ((some (gx p q (0, 0, 0, [], 0, 0, 0, 0, [], [], []))).bind fun (a2, b2, c2, d2, e2, f2, g2, h2, i2, j2, k2) => (Kaq (List.take q.toNat p, q1, c2)).bind fun l2 => bif e1 != l2 then some (.inr (.inl false)) else some (.inl ((a, b, c, d, e, f, g, h, i, j, k, l, m, n, o, p), w64 (q + 1))))))))) else some (.inr (.inr ()))
def Kz_n58 : NEnt := ⟨⟨104, [⟨1, .box, cc7⟩, ⟨5, .one, [.dat kI]⟩]⟩, [(.ret, ⟨104, [⟨2, .one, [.dat .bool]⟩]⟩), (.exit 2, ⟨104, []⟩)], lp Kz_s58⟩
def Kz : t126 → Option Bool
 | (a, b, c, d, e, f, g, h, i, j, k, l, m, n, o, p) => bx (lp Kz_s26 ((a, b, c, d, e, f, g, h, i, j, k, l, m, n, o, p), 0)) (fun q => some q) fun (q, r, s, t, u, v, w, x, y, z, a1, b1, c1, d1, e1, f1) => bx (lp Kz_s58 ((q, r, s, t, u, v, w, x, y, z, a1, b1, c1, d1, e1, f1), 0)) (fun g1 => some g1) fun _ => some true
def Kz_e : FEnt := ⟨102, [.tmp 2], [], [(.agg, cc7)], ⟨104, [⟨2, .one, [.dat .bool]⟩]⟩, Kz⟩
theorem Kz_ok : FnOk Tryz.prog 84 Kz_e := fnOk_mk (tb := [(58, Kz_n58), (26, Kz_n26)]) (c := (Tryz.f84.body).getD .skip) mixed Tryz.func84 (bC Kbk_ok (bC Kaq_ok bN)) (by kernel_rfl) (by kernel_rfl) (by kernel_rfl) ⟨nodeLoop (by kernel_rfl) Kz_s58 (by kernel_rfl) (by intro d; kernel_rfl), nodeLoop (by kernel_rfl) Kz_s26 (by kernel_rfl) (by intro d; kernel_rfl), trivial⟩ (by intro d; kernel_rfl)
def Kj_s3730 : t126 × t66 → Option (t126 × t66 ⊕ t130)
 | ((a, b, c, d, e, f, g, h, i, j, k, l, m, n, o, p), q, r, s) => ix r l.length ((some (gx l r [])).bind fun t => (some (decide (s < (ln t)))).bind fun u => bif u then ix r l.length ((some (gx l r [])).bind fun v => ix s v.length ((some (gx v s [])).bind fun w => chk (fits (q.length + w.length) 144) ((some (q ++ w)).bind fun x => some (.inl ((a, b, c, d, e, f, g, h, i, j, k, l, m, n, o, p), x, r, w64 (s + 1)))))) else some (.inr ((a, b, c, d, e, f, g, h, i, j, k, l, m, n, o, p), q, r)))
def Kj_n3730 : NEnt := ⟨⟨59, [⟨1, .box, cc7⟩, ⟨3, .one, [.own false kk5]⟩, ⟨4, .one, [.dat kI]⟩, ⟨5, .one, [.dat kI]⟩]⟩, [(.exit 2, ⟨59, [⟨1, .box, cc7⟩, ⟨3, .one, [.own false kk5]⟩, ⟨4, .one, [.dat kI]⟩]⟩)], lp Kj_s3730⟩
def Kj_s58 : t130 → Option (t130 ⊕ t126 × List t54)
 | ((a, b, c, d, e, f, g, h, i, j, k, l, m, n, o, p), q, r) => (some (decide (r < (ln l)))).bind fun s => bif s then (lp Kj_s3730 ((a, b, c, d, e, f, g, h, i, j, k, l, m, n, o, p), q, r, 0)).bind fun ((t, u, v, w, x, y, z, a1, b1, c1, d1, e1, f1, g1, h1, i1), j1, k1) => some (.inl ((t, u, v, w, x, y, z, a1, b1, c1, d1, e1, f1, g1, h1, i1), j1, w64 (k1 + 1))) else some (.inr ((a, b, c, d, e, f, g, h, i, j, k, l, m, n, o, p), q))
def Kj_n58 : NEnt := ⟨⟨59, [⟨1, .box, cc7⟩, ⟨3, .one, [.own false kk5]⟩, ⟨4, .one, [.dat kI]⟩]⟩, [(.exit 0, ⟨59, [⟨1, .box, cc7⟩, ⟨3, .one, [.own false kk5]⟩]⟩)], lp Kj_s58⟩
def Kj_s250 : t130 → Option (t130 ⊕ List t54)
 | ((a, b, c, d, e, f, g, h, i, j, k, l, m, n, o, p), q, r) => (some (decide (r < (ln p)))).bind fun s => bif s then ix r p.length ((some (gx p r (0, 0, 0, [], 0, 0, 0, 0, [], [], []))).bind fun (t, u, v, w, x, y, z, a1, b1, c1, d1) => (some [(u, v, w, x, y, z, a1, b1, c1, d1)]).bind fun e1 => chk (fits (q.length + e1.length) 144) ((some (q ++ e1)).bind fun f1 => some (.inl ((a, b, c, d, e, f, g, h, i, j, k, l, m, n, o, p), f1, w64 (r + 1))))) else some (.inr q)
def Kj_n250 : NEnt := ⟨⟨59, [⟨1, .box, cc7⟩, ⟨3, .one, [.own false kk5]⟩, ⟨6, .one, [.dat kI]⟩]⟩, [(.exit 4, ⟨59, [⟨3, .one, [.own false kk5]⟩]⟩)], lp Kj_s250⟩
def Kj : t126 → Option (List t54)
 | (a, b, c, d, e, f, g, h, i, j, k, l, m, n, o, p) => (lp Kj_s58 ((a, b, c, d, e, f, g, h, i, j, k, l, m, n, o, p), [], 0)).bind fun ((q, r, s, t, u, v, w, x, y, z, a1, b1, c1, d1, e1, f1), g1) => chk (fits (g1.length + e1.length) 144) ((some (g1 ++ e1)).bind fun h1 => (lp Kj_s250 ((q, r, s, t, u, v, w, x, y, z, a1, b1, c1, d1, e1, f1), h1, 0)).bind fun i1 => some i1)
def Kj_e : FEnt := ⟨57, [.tmp 2], [], [(.agg, cc7)], ⟨59, [⟨2, .one, [.own false kk5]⟩]⟩, Kj⟩
theorem Kj_ok : FnOk Tryz.prog 85 Kj_e := fnOk_mk (tb := [(250, Kj_n250), (3730, Kj_n3730), (58, Kj_n58)]) (c := (Tryz.f85.body).getD .skip) mixed Tryz.func85 bN (by kernel_rfl) (by kernel_rfl) (by kernel_rfl) ⟨nodeLoop (by kernel_rfl) Kj_s250 (by kernel_rfl) (by intro d; kernel_rfl), nodeLoop (by kernel_rfl) Kj_s3730 (by kernel_rfl) (by intro d; kernel_rfl), nodeLoop (by kernel_rfl) Kj_s58 (by kernel_rfl) (by intro d; kernel_rfl), trivial⟩ (by intro d; kernel_rfl)
def Kw_s3730 : t126 × t8 → Option (t126 × t8 ⊕ t126 × t0)
 | ((a, b, c, d, e, f, g, h, i, j, k, l, m, n, o, p), q, r, s) => ix r k.length ((some (gx k r (0, 0, [], 0, 0))).bind fun (t, u, v, w, x) => bif decide (s < (ln v)) then ix r k.length ((some (gx k r (0, 0, [], 0, 0))).bind fun (y, z, a1, b1, c1) => ix s a1.length ((some (gx a1 s (0, 0))).bind fun (d1, e1) => (Ko (q, w64 ((w64 (100 * r)) + d1), w64 ((w64 (100 * r)) + e1))).bind fun f1 => some (.inl ((a, b, c, d, e, f, g, h, i, j, k, l, m, n, o, p), f1, r, w64 (s + 1))))) else some (.inr ((a, b, c, d, e, f, g, h, i, j, k, l, m, n, o, p), q, r)))
def Kw_n3730 : NEnt := ⟨⟨51, [⟨1, .box, cc7⟩, ⟨3, .one, cc31⟩, ⟨4, .one, [.dat kI]⟩, ⟨5, .one, [.dat kI]⟩]⟩, [(.exit 2, ⟨51, [⟨1, .box, cc7⟩, ⟨3, .one, cc31⟩, ⟨4, .one, [.dat kI]⟩]⟩)], lp Kw_s3730⟩
def Kw_s58 : t126 × t0 → Option (t126 × t0 ⊕ List (Int × Int))
 | ((a, b, c, d, e, f, g, h, i, j, k, l, m, n, o, p), q, r) => bif decide (r < (ln k)) then (lp Kw_s3730 ((a, b, c, d, e, f, g, h, i, j, k, l, m, n, o, p), q, r, 0)).bind fun ((s, t, u, v, w, x, y, z, a1, b1, c1, d1, e1, f1, g1, h1), i1, j1) => some (.inl ((s, t, u, v, w, x, y, z, a1, b1, c1, d1, e1, f1, g1, h1), i1, w64 (j1 + 1))) else some (.inr q)
def Kw_n58 : NEnt := ⟨⟨51, [⟨1, .box, cc7⟩, ⟨3, .one, cc31⟩, ⟨4, .one, [.dat kI]⟩]⟩, [(.exit 0, ⟨51, [⟨3, .one, cc31⟩]⟩)], lp Kw_s58⟩
def Kw : t126 → Option (List (Int × Int))
 | (a, b, c, d, e, f, g, h, i, j, k, l, m, n, o, p) => (lp Kw_s58 ((a, b, c, d, e, f, g, h, i, j, k, l, m, n, o, p), [], 0)).bind fun q => some q
def Kw_e : FEnt := ⟨49, [.tmp 2], [], [(.agg, cc7)], ⟨51, [⟨2, .one, cc31⟩]⟩, Kw⟩
theorem Kw_ok : FnOk Tryz.prog 89 Kw_e := fnOk_mk (tb := [(3730, Kw_n3730), (58, Kw_n58)]) (c := (Tryz.f89.body).getD .skip) mixed Tryz.func89 (bC Ko_ok bN) (by kernel_rfl) (by kernel_rfl) (by kernel_rfl) ⟨nodeLoop (by kernel_rfl) Kw_s3730 (by kernel_rfl) (by intro d; kernel_rfl), nodeLoop (by kernel_rfl) Kw_s58 (by kernel_rfl) (by intro d; kernel_rfl), trivial⟩ (by intro d; kernel_rfl)
def Kae_s58 : t23 → Option (t23 ⊕ Bool ⊕ Unit)
 | (a, b, c) => bif decide (c < (ln a)) then ix c a.length ((some (gx a c (0, 0))).bind fun (d, e) => ix c b.length ((some (gx b c (0, 0))).bind fun (f, g) => bif !((d == f) && ((e == g) && true)) then some (.inr (.inl false)) else some (.inl (a, b, w64 (c + 1))))) else some (.inr (.inr ()))
def Kae_n58 : NEnt := ⟨⟨30, [⟨0, .one, [.dat kk10]⟩, ⟨1, .one, [.dat kk10]⟩, ⟨5, .one, [.dat kI]⟩]⟩, [(.ret, ⟨30, [⟨4, .one, [.dat .bool]⟩]⟩), (.exit 0, ⟨30, []⟩)], lp Kae_s58⟩
def Kae : t16 → Option Bool
 | (a, b) => bif (ln a) != (ln b) then some false else bx (lp Kae_s58 (a, b, 0)) (fun c => some c) fun _ => some true
def Kae_e : FEnt := ⟨26, [.tmp 4], [], [(.one, [.dat kk10]), (.one, [.dat kk10])], ⟨30, [⟨4, .one, [.dat .bool]⟩]⟩, Kae⟩
theorem Kae_ok : FnOk Tryz.prog 88 Kae_e := fnOk_mk (tb := [(58, Kae_n58)]) (c := (Tryz.f88.body).getD .skip) mixed Tryz.func88 bN (by kernel_rfl) (by kernel_rfl) (by kernel_rfl) ⟨nodeLoop (by kernel_rfl) Kae_s58 (by kernel_rfl) (by intro d; kernel_rfl), trivial⟩ (by intro d; kernel_rfl)
def Ke_s250 : t126 × t72 → Option (t126 × t72 ⊕ Bool ⊕ t126 × List (Int × Int))
 | ((a, b, c, d, e, f, g, h, i, j, k, l, m, n, o, p), q, r, s) => (some (decide (s < (ln r)))).bind fun t => bif t then ix s r.length (lx s r.length ((some (gx r s (0, 0, [], 0, 0, 0, 0, [], [], []))).bind fun (u, v, w, x, y, z, a1, b1, c1, d1) => (Kq (q, w)).bind fun e1 => bif !e1 then some (.inr (.inl false)) else ix s r.length (lx s r.length ((some (gx r s (0, 0, [], 0, 0, 0, 0, [], [], []))).bind fun (f1, g1, h1, i1, j1, k1, l1, m1, n1, o1) => (Kah (q, h1)).bind fun p1 => some (.inl ((a, b, c, d, e, f, g, h, i, j, k, l, m, n, o, p), p1, r, w64 (s + 1))))))) else some (.inr (.inr ((a, b, c, d, e, f, g, h, i, j, k, l, m, n, o, p), q)))
def Ke_n250 : NEnt := ⟨⟨102, [⟨1, .box, cc7⟩, ⟨3, .one, cc31⟩, ⟨4, .one, [.own false kk5]⟩, ⟨5, .one, [.dat kI]⟩]⟩, [(.ret, ⟨102, [⟨2, .one, [.dat .bool]⟩]⟩), (.exit 0, ⟨102, [⟨1, .box, cc7⟩, ⟨3, .one, cc31⟩]⟩)], lp Ke_s250⟩
def Ke_s260682 : t129 → Option (t129 ⊕ t128)
 | ((a, b, c, d, e, f, g, h, i, j, k, l, m, n, o, p), q, r, s) => (some (decide (s < (ln o)))).bind fun t => bif t then ix s o.length ((some (gx o s (0, 0, [], 0, 0, 0, 0, [], [], []))).bind fun (u, v, w, x, y, z, a1, b1, c1, d1) => (Kau (w, q)).bind fun e1 => some (.inl ((a, b, c, d, e, f, g, h, i, j, k, l, m, n, o, p), q, w64 (r + e1), w64 (s + 1)))) else some (.inr ((a, b, c, d, e, f, g, h, i, j, k, l, m, n, o, p), q, r))
def Ke_n260682 : NEnt := ⟨⟨102, [⟨1, .box, cc7⟩, ⟨6, .one, [.dat kI]⟩, ⟨7, .one, [.dat kI]⟩, ⟨8, .one, [.dat kI]⟩]⟩, [(.exit 4, ⟨102, [⟨1, .box, cc7⟩, ⟨6, .one, [.dat kI]⟩, ⟨7, .one, [.dat kI]⟩]⟩)], lp Ke_s260682⟩
def Ke_s521370 : t129 → Option (t129 ⊕ t128)
 | ((a, b, c, d, e, f, g, h, i, j, k, l, m, n, o, p), q, r, s) => (some (decide (s < (ln p)))).bind fun t => bif t then ix s p.length ((some (gx p s (0, 0, 0, [], 0, 0, 0, 0, [], [], []))).bind fun (u, v, w, x, y, z, a1, b1, c1, d1, e1) => (Kau (x, q)).bind fun f1 => some (.inl ((a, b, c, d, e, f, g, h, i, j, k, l, m, n, o, p), q, w64 (r + f1), w64 (s + 1)))) else some (.inr ((a, b, c, d, e, f, g, h, i, j, k, l, m, n, o, p), q, r))
def Ke_n521370 : NEnt := ⟨⟨102, [⟨1, .box, cc7⟩, ⟨6, .one, [.dat kI]⟩, ⟨7, .one, [.dat kI]⟩, ⟨9, .one, [.dat kI]⟩]⟩, [(.exit 6, ⟨102, [⟨1, .box, cc7⟩, ⟨6, .one, [.dat kI]⟩, ⟨7, .one, [.dat kI]⟩]⟩)], lp Ke_s521370⟩
def Ke_s1018 : t127 → Option (t127 ⊕ Bool ⊕ Unit)
 | ((a, b, c, d, e, f, g, h, i, j, k, l, m, n, o, p), q) => bif decide (q < 3) then (lp Ke_s260682 ((a, b, c, d, e, f, g, h, i, j, k, l, m, n, o, p), q, 0, 0)).bind fun ((r, s, t, u, v, w, x, y, z, a1, b1, c1, d1, e1, f1, g1), h1, i1) => (lp Ke_s521370 ((r, s, t, u, v, w, x, y, z, a1, b1, c1, d1, e1, f1, g1), h1, i1, 0)).bind fun ((j1, k1, l1, m1, n1, o1, p1, q1, r1, s1, t1, u1, v1, w1, x1, y1), z1, a2) => ix z1 t1.length ((some (gx t1 z1 (0, 0, [], 0, 0))).bind fun (b2, c2, d2, e2, f2) => bif a2 != e2 then some (.inr (.inl false)) else some (.inl ((j1, k1, l1, m1, n1, o1, p1, q1, r1, s1, t1, u1, v1, w1, x1, y1), w64 (z1 + 1)))) else some (.inr (.inr ()))
def Ke_n1018 : NEnt := ⟨⟨102, [⟨1, .box, cc7⟩, ⟨6, .one, [.dat kI]⟩]⟩, [(.ret, ⟨102, [⟨2, .one, [.dat .bool]⟩]⟩), (.exit 2, ⟨102, []⟩)], lp Ke_s1018⟩
def Ke : t126 → Option Bool
 | (a, b, c, d, e, f, g, h, i, j, k, l, m, n, o, p) => (Kco (a, b, c, d, e, f, g, h)).bind fun q => bif !q then some false else (Kh (a, b, c, d, e, f, g, h, i, j, k, l, m, n, o, p)).bind fun r => bif !r then some false else (Kz (a, b, c, d, e, f, g, h, i, j, k, l, m, n, o, p)).bind fun s => bif !s then some false else (Kj (a, b, c, d, e, f, g, h, i, j, k, l, m, n, o, p)).bind fun t => bx (lp Ke_s250 ((a, b, c, d, e, f, g, h, i, j, k, l, m, n, o, p), [], t, 0)) (fun u => some u) fun ((u, v, w, x, y, z, a1, b1, c1, d1, e1, f1, g1, h1, i1, j1), k1) => (Kw (u, v, w, x, y, z, a1, b1, c1, d1, e1, f1, g1, h1, i1, j1)).bind fun l1 => (Kae (k1, l1)).bind fun m1 => bif !m1 then some false else bx (lp Ke_s1018 ((u, v, w, x, y, z, a1, b1, c1, d1, e1, f1, g1, h1, i1, j1), 0)) (fun n1 => some n1) fun _ => some true
def Ke_e : FEnt := ⟨100, [.tmp 2], [], [(.agg, cc7)], ⟨102, [⟨2, .one, [.dat .bool]⟩]⟩, Ke⟩
theorem Ke_ok : FnOk Tryz.prog 36 Ke_e := fnOk_mk (tb := [(521370, Ke_n521370), (260682, Ke_n260682), (1018, Ke_n1018), (250, Ke_n250)]) (c := (Tryz.f36.body).getD .skip) mixed Tryz.func36 (bC Kco_ok (bC Kh_ok (bC Kz_ok (bC Kj_ok (bC Kq_ok (bC Kah_ok (bC Kw_ok (bC Kae_ok (bC Kau_ok bN))))))))) (by kernel_rfl) (by kernel_rfl) (by kernel_rfl) ⟨nodeLoop (by kernel_rfl) Ke_s521370 (by kernel_rfl) (by intro d; kernel_rfl), nodeLoop (by kernel_rfl) Ke_s260682 (by kernel_rfl) (by intro d; kernel_rfl), nodeLoop (by kernel_rfl) Ke_s1018 (by kernel_rfl) (by intro d; kernel_rfl), nodeLoop (by kernel_rfl) Ke_s250 (by kernel_rfl) (by intro d; kernel_rfl), trivial⟩ (by intro d; kernel_rfl)
def Kal_s506 : t38 × t68 → Option (t38 × t68 ⊕ t64)
 | ((a, b, c, d, e, f, g), (h, i, j, k, _, _, _), (l, m, n, o, p, q, r), s) => bif decide (s < (ln g)) then ix s g.length (chk (fits (0 + (gx g s []).length) 8) (chk (fits (r.length + [[] ++ (gx g s [])].length) 24) ((some (r ++ [[] ++ (gx g s [])])).bind fun t => some (.inl ((a, b, c, d, e, f, g), (h, i, j, k, (), (), ()), (l, m, n, o, p, q, t), w64 (s + 1)))))) else some (.inr ((h, i, j, k, (), (), ()), l, m, n, o, p, q, r))
def Kal_n506 : NEnt := ⟨⟨39, [⟨1, .box, cc17⟩, ⟨2, .box, cc23⟩, ⟨3, .box, cc16⟩, ⟨4, .one, [.dat kI]⟩]⟩, [(.exit 0, ⟨39, [⟨2, .box, cc23⟩, ⟨3, .box, cc16⟩]⟩)], lp Kal_s506⟩
def Kal : t38 → Option t38
 | (a, b, c, d, e, f, g) => chk (fits (0 + e.length) 8) (chk (fits (0 + f.length) 8) ((lp Kal_s506 ((a, b, c, d, e, f, g), (0, 0, 0, 0, (), (), ()), (a, b, c, d, [] ++ e, [] ++ f, []), 0)).bind fun ((h, i, j, k, _, _, _), l, m, n, o, p, q, r) => some (l, m, n, o, p, q, r)))
def Kal_e : FEnt := ⟨37, [.cell 2 true 7], [], [(.agg, cc17)], ⟨39, [⟨2, .box, cc16⟩]⟩, Kal⟩
theorem Kal_ok : FnOk Tryz.prog 159 Kal_e := fnOk_mk (tb := [(506, Kal_n506)]) (c := (Tryz.f159.body).getD .skip) mixed Tryz.func159 bN (by kernel_rfl) (by kernel_rfl) (by kernel_rfl) ⟨nodeLoop (by kernel_rfl) Kal_s506 (by kernel_rfl) (by intro d; kernel_rfl), trivial⟩ (by intro d; kernel_rfl)
def Kaj : t54 → Option t54
 | (a, b, c, d, e, f, g, h, i, j) => (Kcj c).bind fun k => (Kal (d, e, f, g, h, i, j)).bind fun (l, m, n, o, p, q, r) => some (a, b, k, l, m, n, o, p, q, r)
def Kaj_e : FEnt := ⟨14, [.cell 2 true 10], [], [(.agg, cc15)], ⟨16, [⟨2, .box, cc13⟩]⟩, Kaj⟩
theorem Kaj_ok : FnOk Tryz.prog 108 Kaj_e := fnOk_mk (tb := []) (c := (Tryz.f108.body).getD .skip) mixed Tryz.func108 (bC Kcj_ok (bC Kal_ok bN)) (by kernel_rfl) (by kernel_rfl) (by kernel_rfl) trivial (by intro d; kernel_rfl)
def Kao_s58 : List t54 × Unit × t61 → Option (List t54 × Unit × t61 ⊕ Unit × List t54)
 | (a, _, b, c) => (some (decide (c < (ln a)))).bind fun d => bif d then ix c a.length ((some (gx a c (0, 0, [], 0, 0, 0, 0, [], [], []))).bind fun (e, f, g, h, i, j, k, l, m, n) => (Kaj (e, f, g, h, i, j, k, l, m, n)).bind fun (o, p, q, r, s, t, u, v, w, x) => (some [(o, p, q, r, s, t, u, v, w, x)]).bind fun y => chk (fits (b.length + y.length) 144) ((some (b ++ y)).bind fun z => some (.inl (a, (), z, w64 (c + 1))))) else some (.inr ((), b))
def Kao_n58 : NEnt := ⟨⟨27, [⟨1, .box, [.dat kk4]⟩, ⟨2, .box, [.nil]⟩, ⟨3, .box, [.own true kk5]⟩, ⟨4, .one, [.dat kI]⟩]⟩, [(.exit 0, ⟨27, [⟨2, .box, [.nil]⟩, ⟨3, .box, [.own true kk5]⟩]⟩)], lp Kao_s58⟩
def Kao : List t54 → Option (List t54)
 | a => (lp Kao_s58 (a, (), [], 0)).bind fun (_, b) => some b
def Kao_e : FEnt := ⟨25, [.cell 2 true 1], [], [(.agg, [.dat kk4])], ⟨27, [⟨2, .box, [.own true kk5]⟩]⟩, Kao⟩
theorem Kao_ok : FnOk Tryz.prog 196 Kao_e := fnOk_mk (tb := [(58, Kao_n58)]) (c := (Tryz.f196.body).getD .skip) mixed Tryz.func196 (bC Kaj_ok bN) (by kernel_rfl) (by kernel_rfl) (by kernel_rfl) ⟨nodeLoop (by kernel_rfl) Kao_s58 (by kernel_rfl) (by intro d; kernel_rfl), trivial⟩ (by intro d; kernel_rfl)
def Kcs : Int × Bool × List Int → Option (Int × Bool × List Int)
 | (a, b, c) => chk (fits (0 + c.length) 8) (some (a, b, [] ++ c))
def Kcs_e : FEnt := ⟨12, [.cell 2 true 3], [], [(.agg, cc26)], ⟨14, [⟨2, .box, cc28⟩]⟩, Kcs⟩
theorem Kcs_ok : FnOk Tryz.prog 197 Kcs_e := fnOk_mk (tb := []) (c := (Tryz.f197.body).getD .skip) mixed Tryz.func197 bN (by kernel_rfl) (by kernel_rfl) (by kernel_rfl) trivial (by intro d; kernel_rfl)
def Ka_s58 : t126 × t57 × (Int × Int × Int × t76) × Int → Option (t126 × t57 × (Int × Int × Int × t76) × Int ⊕ t126 × t57 × Int × Int × Int × t76)
 | ((a, b, c, d, e, f, g, h, i, j, k, l, m, n, o, p), (q, r, s, _, t, u, v, w, x, y, _, _, _, z, _, _), (a1, b1, c1, d1, e1, f1, g1, h1, i1, j1, k1, _, _, l1, _, _), m1) => bif decide (m1 < (ln k)) then ix m1 k.length ((some (gx k m1 (0, 0, [], 0, 0))).bind fun (n1, o1, p1, q1, r1) => (Kbu (n1, o1, p1, q1, r1)).bind fun (s1, t1, u1, v1, w1) => (some [(s1, t1, u1, v1, w1)]).bind fun x1 => chk (fits (k1.length + x1.length) 56) ((some (k1 ++ x1)).bind fun y1 => some (.inl ((a, b, c, d, e, f, g, h, i, j, k, l, m, n, o, p), (q, r, s, (), t, u, v, w, x, y, (), (), (), z, (), ()), (a1, b1, c1, d1, e1, f1, g1, h1, i1, j1, y1, (), (), l1, (), ()), w64 (m1 + 1))))) else some (.inr ((a, b, c, d, e, f, g, h, i, j, k, l, m, n, o, p), (q, r, s, (), t, u, v, w, x, y, (), (), (), z, (), ()), a1, b1, c1, d1, e1, f1, g1, h1, i1, j1, k1, (), (), l1, (), ()))
def Ka_n58 : NEnt := ⟨⟨140, [⟨1, .box, cc7⟩, ⟨2, .box, cc12⟩, ⟨3, .box, cc10⟩, ⟨4, .one, [.dat kI]⟩]⟩, [(.exit 0, ⟨140, [⟨1, .box, cc7⟩, ⟨2, .box, cc12⟩, ⟨3, .box, cc10⟩]⟩)], lp Ka_s58⟩
def Ka_s31306 : t126 × t57 × t106 × Int × List (List t54) × Int → Option (t126 × t57 × t106 × Int × List (List t54) × Int ⊕ t126 × t57 × t106 × Int × List (List t54))
 | ((a, b, c, d, e, f, g, h, i, j, k, l, m, n, o, p), (q, r, s, _, t, u, v, w, x, y, _, _, _, z, _, _), (a1, b1, c1, d1, e1, f1, g1, h1, i1, j1, k1, l1, _, m1, _, _), n1, o1, p1) => ix n1 l.length ((some (gx l n1 [])).bind fun q1 => (some (decide (p1 < (ln q1)))).bind fun r1 => bif r1 then ix n1 l.length ((some (gx l n1 [])).bind fun s1 => ix p1 s1.length ((some (gx s1 p1 [])).bind fun t1 => (Kao t1).bind fun u1 => (some [u1]).bind fun v1 => chk (fits (o1.length + v1.length) 24) ((some (o1 ++ v1)).bind fun w1 => some (.inl ((a, b, c, d, e, f, g, h, i, j, k, l, m, n, o, p), (q, r, s, (), t, u, v, w, x, y, (), (), (), z, (), ()), (a1, b1, c1, d1, e1, f1, g1, h1, i1, j1, k1, l1, (), m1, (), ()), n1, w1, w64 (p1 + 1)))))) else some (.inr ((a, b, c, d, e, f, g, h, i, j, k, l, m, n, o, p), (q, r, s, (), t, u, v, w, x, y, (), (), (), z, (), ()), (a1, b1, c1, d1, e1, f1, g1, h1, i1, j1, k1, l1, (), m1, (), ()), n1, o1)))
def Ka_n31306 : NEnt := ⟨⟨140, [⟨1, .box, cc7⟩, ⟨2, .box, cc12⟩, ⟨3, .box, cc8⟩, ⟨5, .one, [.dat kI]⟩, ⟨6, .one, [.own true kk4]⟩, ⟨7, .one, [.dat kI]⟩]⟩, [(.exit 4, ⟨140, [⟨1, .box, cc7⟩, ⟨2, .box, cc12⟩, ⟨3, .box, cc8⟩, ⟨5, .one, [.dat kI]⟩, ⟨6, .one, [.own true kk4]⟩]⟩)], lp Ka_s31306⟩
def Ka_s122 : t126 × t57 × t106 × Int → Option (t126 × t57 × t106 × Int ⊕ t126 × t57 × t106)
 | ((a, b, c, d, e, f, g, h, i, j, k, l, m, n, o, p), (q, r, s, _, t, u, v, w, x, y, _, _, _, z, _, _), (a1, b1, c1, d1, e1, f1, g1, h1, i1, j1, k1, l1, _, m1, _, _), n1) => (some (decide (n1 < (ln l)))).bind fun o1 => bif o1 then (lp Ka_s31306 ((a, b, c, d, e, f, g, h, i, j, k, l, m, n, o, p), (q, r, s, (), t, u, v, w, x, y, (), (), (), z, (), ()), (a1, b1, c1, d1, e1, f1, g1, h1, i1, j1, k1, l1, (), m1, (), ()), n1, [], 0)).bind fun ((p1, q1, r1, s1, t1, u1, v1, w1, x1, y1, z1, a2, b2, c2, d2, e2), (f2, g2, h2, _, i2, j2, k2, l2, m2, n2, _, _, _, o2, _, _), (p2, q2, r2, s2, t2, u2, v2, w2, x2, y2, z2, a3, _, b3, _, _), c3, d3) => (some [d3]).bind fun e3 => chk (fits (a3.length + e3.length) 24) ((some (a3 ++ e3)).bind fun f3 => some (.inl ((p1, q1, r1, s1, t1, u1, v1, w1, x1, y1, z1, a2, b2, c2, d2, e2), (f2, g2, h2, (), i2, j2, k2, l2, m2, n2, (), (), (), o2, (), ()), (p2, q2, r2, s2, t2, u2, v2, w2, x2, y2, z2, f3, (), b3, (), ()), w64 (c3 + 1)))) else some (.inr ((a, b, c, d, e, f, g, h, i, j, k, l, m, n, o, p), (q, r, s, (), t, u, v, w, x, y, (), (), (), z, (), ()), a1, b1, c1, d1, e1, f1, g1, h1, i1, j1, k1, l1, (), m1, (), ()))
def Ka_n122 : NEnt := ⟨⟨140, [⟨1, .box, cc7⟩, ⟨2, .box, cc12⟩, ⟨3, .box, cc8⟩, ⟨5, .one, [.dat kI]⟩]⟩, [(.exit 2, ⟨140, [⟨1, .box, cc7⟩, ⟨2, .box, cc12⟩, ⟨3, .box, cc8⟩]⟩)], lp Ka_s122⟩
def Ka_s250 : t126 × t57 × t110 × Int → Option (t126 × t57 × t110 × Int ⊕ t126 × t57 × t110)
 | ((a, b, c, d, e, f, g, h, i, j, k, l, m, n, o, p), (q, r, s, _, t, u, v, w, x, y, _, _, _, z, _, _), (a1, b1, c1, d1, e1, f1, g1, h1, i1, j1, k1, l1, m1, n1, _, _), o1) => bif decide (o1 < (ln m)) then ix o1 m.length ((some (gx m o1 (0, false, []))).bind fun (p1, q1, r1) => (Kcs (p1, q1, r1)).bind fun (s1, t1, u1) => chk (fits (m1.length + [(s1, t1, u1)].length) 40) ((some (m1 ++ [(s1, t1, u1)])).bind fun v1 => some (.inl ((a, b, c, d, e, f, g, h, i, j, k, l, m, n, o, p), (q, r, s, (), t, u, v, w, x, y, (), (), (), z, (), ()), (a1, b1, c1, d1, e1, f1, g1, h1, i1, j1, k1, l1, v1, n1, (), ()), w64 (o1 + 1))))) else some (.inr ((a, b, c, d, e, f, g, h, i, j, k, l, m, n, o, p), (q, r, s, (), t, u, v, w, x, y, (), (), (), z, (), ()), a1, b1, c1, d1, e1, f1, g1, h1, i1, j1, k1, l1, m1, n1, (), ()))
def Ka_n250 : NEnt := ⟨⟨140, [⟨1, .box, cc7⟩, ⟨2, .box, cc12⟩, ⟨3, .box, cc5⟩, ⟨8, .one, [.dat kI]⟩]⟩, [(.exit 6, ⟨140, [⟨1, .box, cc7⟩, ⟨2, .box, cc12⟩, ⟨3, .box, cc5⟩]⟩)], lp Ka_s250⟩
def Ka_s506 : t126 × t57 × (Int × Int × t115) × Int → Option (t126 × t57 × (Int × Int × t115) × Int ⊕ t126 × t57 × Int × Int × t115)
 | ((a, b, c, d, e, f, g, h, i, j, k, l, m, n, o, p), (q, r, s, _, t, u, v, w, x, y, _, _, _, z, _, _), (a1, b1, c1, d1, e1, f1, g1, h1, i1, j1, k1, l1, m1, n1, o1, _), p1) => (some (decide (p1 < (ln o)))).bind fun q1 => bif q1 then ix p1 o.length ((some (gx o p1 (0, 0, [], 0, 0, 0, 0, [], [], []))).bind fun (r1, s1, t1, u1, v1, w1, x1, y1, z1, a2) => (Kaj (r1, s1, t1, u1, v1, w1, x1, y1, z1, a2)).bind fun (b2, c2, d2, e2, f2, g2, h2, i2, j2, k2) => (some [(b2, c2, d2, e2, f2, g2, h2, i2, j2, k2)]).bind fun l2 => chk (fits (o1.length + l2.length) 144) ((some (o1 ++ l2)).bind fun m2 => some (.inl ((a, b, c, d, e, f, g, h, i, j, k, l, m, n, o, p), (q, r, s, (), t, u, v, w, x, y, (), (), (), z, (), ()), (a1, b1, c1, d1, e1, f1, g1, h1, i1, j1, k1, l1, m1, n1, m2, ()), w64 (p1 + 1))))) else some (.inr ((a, b, c, d, e, f, g, h, i, j, k, l, m, n, o, p), (q, r, s, (), t, u, v, w, x, y, (), (), (), z, (), ()), a1, b1, c1, d1, e1, f1, g1, h1, i1, j1, k1, l1, m1, n1, o1, ()))
def Ka_n506 : NEnt := ⟨⟨140, [⟨1, .box, cc7⟩, ⟨2, .box, cc12⟩, ⟨3, .box, cc4⟩, ⟨9, .one, [.dat kI]⟩]⟩, [(.exit 8, ⟨140, [⟨1, .box, cc7⟩, ⟨2, .box, cc12⟩, ⟨3, .box, cc4⟩]⟩)], lp Ka_s506⟩
def Ka_s1018 : t126 × t57 × t127 → Option (t126 × t57 × t127 ⊕ t57 × t126)
 | ((a, b, c, d, e, f, g, h, i, j, k, l, m, n, o, p), (q, r, s, _, t, u, v, w, x, y, _, _, _, z, _, _), (a1, b1, c1, d1, e1, f1, g1, h1, i1, j1, k1, l1, m1, n1, o1, p1), q1) => (some (decide (q1 < (ln p)))).bind fun r1 => bif r1 then ix q1 p.length ((some (gx p q1 (0, 0, 0, [], 0, 0, 0, 0, [], [], []))).bind fun (s1, t1, u1, v1, w1, x1, y1, z1, a2, b2, c2) => ix q1 p.length ((some (gx p q1 (0, 0, 0, [], 0, 0, 0, 0, [], [], []))).bind fun (d2, e2, f2, g2, h2, i2, j2, k2, l2, m2, n2) => (Kaj (e2, f2, g2, h2, i2, j2, k2, l2, m2, n2)).bind fun (o2, p2, q2, r2, s2, t2, u2, v2, w2, x2) => (some [(s1, o2, p2, q2, r2, s2, t2, u2, v2, w2, x2)]).bind fun y2 => chk (fits (p1.length + y2.length) 152) ((some (p1 ++ y2)).bind fun z2 => some (.inl ((a, b, c, d, e, f, g, h, i, j, k, l, m, n, o, p), (q, r, s, (), t, u, v, w, x, y, (), (), (), z, (), ()), (a1, b1, c1, d1, e1, f1, g1, h1, i1, j1, k1, l1, m1, n1, o1, z2), w64 (q1 + 1)))))) else some (.inr ((q, r, s, (), t, u, v, w, x, y, (), (), (), z, (), ()), a1, b1, c1, d1, e1, f1, g1, h1, i1, j1, k1, l1, m1, n1, o1, p1))
def Ka_n1018 : NEnt := ⟨⟨140, [⟨1, .box, cc7⟩, ⟨2, .box, cc12⟩, ⟨3, .box, cc3⟩, ⟨10, .one, [.dat kI]⟩]⟩, [(.exit 10, ⟨140, [⟨2, .box, cc12⟩, ⟨3, .box, cc3⟩]⟩)], lp Ka_s1018⟩
def Ka : t126 → Option t126
 | (a, b, c, d, e, f, g, h, i, j, k, l, m, n, o, p) => (Kcx (a, b, c, d, e, f, g, h)).bind fun (q, r, s, t, u, v, w, x) => (lp Ka_s58 ((a, b, c, d, e, f, g, h, i, j, k, l, m, n, o, p), (0, 0, 0, (), 0, 0, 0, 0, 0, false, (), (), (), 0, (), ()), (q, r, s, t, u, v, w, x, i, j, [], (), (), n, (), ()), 0)).bind fun ((y, z, a1, b1, c1, d1, e1, f1, g1, h1, i1, j1, k1, l1, m1, n1), (o1, p1, q1, _, r1, s1, t1, u1, v1, w1, _, _, _, x1, _, _), y1, z1, a2, b2, c2, d2, e2, f2, g2, h2, i2, _, _, j2, _, _) => (lp Ka_s122 ((y, z, a1, b1, c1, d1, e1, f1, g1, h1, i1, j1, k1, l1, m1, n1), (o1, p1, q1, (), r1, s1, t1, u1, v1, w1, (), (), (), x1, (), ()), (y1, z1, a2, b2, c2, d2, e2, f2, g2, h2, i2, [], (), j2, (), ()), 0)).bind fun ((k2, l2, m2, n2, o2, p2, q2, r2, s2, t2, u2, v2, w2, x2, y2, z2), (a3, b3, c3, _, d3, e3, f3, g3, h3, i3, _, _, _, j3, _, _), k3, l3, m3, n3, o3, p3, q3, r3, s3, t3, u3, v3, _, w3, _, _) => (lp Ka_s250 ((k2, l2, m2, n2, o2, p2, q2, r2, s2, t2, u2, v2, w2, x2, y2, z2), (a3, b3, c3, (), d3, e3, f3, g3, h3, i3, (), (), (), j3, (), ()), (k3, l3, m3, n3, o3, p3, q3, r3, s3, t3, u3, v3, [], w3, (), ()), 0)).bind fun ((x3, y3, z3, a4, b4, c4, d4, e4, f4, g4, h4, i4, j4, k4, l4, m4), (n4, o4, p4, _, q4, r4, s4, t4, u4, v4, _, _, _, w4, _, _), x4, y4, z4, a5, b5, c5, d5, e5, f5, g5, h5, i5, j5, k5, _, _) => (lp Ka_s506 ((x3, y3, z3, a4, b4, c4, d4, e4, f4, g4, h4, i4, j4, k4, l4, m4), (n4, o4, p4, (), q4, r4, s4, t4, u4, v4, (), (), (), w4, (), ()), (x4, y4, z4, a5, b5, c5, d5, e5, f5, g5, h5, i5, j5, k5, [], ()), 0)).bind fun ((l5, m5, n5, o5, p5, q5, r5, s5, t5, u5, v5, w5, x5, y5, z5, a6), (b6, c6, d6, _, e6, f6, g6, h6, i6, j6, _, _, _, k6, _, _), l6, m6, n6, o6, p6, q6, r6, s6, t6, u6, v6, w6, x6, y6, z6, _) => (lp Ka_s1018 ((l5, m5, n5, o5, p5, q5, r5, s5, t5, u5, v5, w5, x5, y5, z5, a6), (b6, c6, d6, (), e6, f6, g6, h6, i6, j6, (), (), (), k6, (), ()), (l6, m6, n6, o6, p6, q6, r6, s6, t6, u6, v6, w6, x6, y6, z6, []), 0)).bind fun ((a7, b7, c7, _, d7, e7, f7, g7, h7, i7, _, _, _, j7, _, _), k7, l7, m7, n7, o7, p7, q7, r7, s7, t7, u7, v7, w7, x7, y7, z7) => some (k7, l7, m7, n7, o7, p7, q7, r7, s7, t7, u7, v7, w7, x7, y7, z7)
def Ka_e : FEnt := ⟨138, [.cell 2 true 16], [], [(.agg, cc7)], ⟨140, [⟨2, .box, cc3⟩]⟩, Ka⟩
theorem Ka_ok : FnOk Tryz.prog 156 Ka_e := fnOk_mk (tb := [(1018, Ka_n1018), (506, Ka_n506), (250, Ka_n250), (31306, Ka_n31306), (122, Ka_n122), (58, Ka_n58)]) (c := (Tryz.f156.body).getD .skip) mixed Tryz.func156 (bC Kcx_ok (bC Kbu_ok (bC Kao_ok (bC Kcs_ok (bC Kaj_ok bN))))) (by kernel_rfl) (by kernel_rfl) (by kernel_rfl) ⟨nodeLoop (by kernel_rfl) Ka_s1018 (by kernel_rfl) (by intro d; kernel_rfl), nodeLoop (by kernel_rfl) Ka_s506 (by kernel_rfl) (by intro d; kernel_rfl), nodeLoop (by kernel_rfl) Ka_s250 (by kernel_rfl) (by intro d; kernel_rfl), nodeLoop (by kernel_rfl) Ka_s31306 (by kernel_rfl) (by intro d; kernel_rfl), nodeLoop (by kernel_rfl) Ka_s122 (by kernel_rfl) (by intro d; kernel_rfl), nodeLoop (by kernel_rfl) Ka_s58 (by kernel_rfl) (by intro d; kernel_rfl), trivial⟩ (by intro d; kernel_rfl)
def Kat_s58 : List Int × Int × Int → Option (List Int × Int × Int ⊕ Int)
 | (a, b, c) => bif decide (c < (ln a)) then ix c a.length ((Kcg (decide ((gx a c 0) > 0))).bind fun d => some (.inl (a, w64 (b + d), w64 (c + 1)))) else some (.inr b)
def Kat_n58 : NEnt := ⟨⟨22, [⟨0, .one, [.dat (.list kI)]⟩, ⟨3, .one, [.dat kI]⟩, ⟨4, .one, [.dat kI]⟩]⟩, [(.exit 0, ⟨22, [⟨3, .one, [.dat kI]⟩]⟩)], lp Kat_s58⟩
def Kat : List Int → Option Int
 | a => (lp Kat_s58 (a, 0, 0)).bind fun b => some b
def Kat_e : FEnt := ⟨20, [.tmp 2], [], [(.one, [.dat (.list kI)])], ⟨22, [⟨2, .one, [.dat kI]⟩]⟩, Kat⟩
theorem Kat_ok : FnOk Tryz.prog 239 Kat_e := fnOk_mk (tb := [(58, Kat_n58)]) (c := (Tryz.f239.body).getD .skip) mixed Tryz.func239 (bC Kcg_ok bN) (by kernel_rfl) (by kernel_rfl) (by kernel_rfl) ⟨nodeLoop (by kernel_rfl) Kat_s58 (by kernel_rfl) (by intro d; kernel_rfl), trivial⟩ (by intro d; kernel_rfl)
def Kdi : t54 → Option Int
 | (a, b, c, d, e, f, g, h, i, j) => (Kbk (a, b, c, d, e, f, g, h, i, j)).bind fun k => bif !k then some 0 else (Kat h).bind fun l => (Kat i).bind fun m => chk (decide (0 < j.length)) ((Kat (List.getD j 0 [])).bind fun n => chk (decide (1 < j.length)) ((Kat (List.getD j 1 [])).bind fun o => (some (w64 ((w64 ((w64 ((w64 ((w64 (4 + l)) + m)) + n)) + o)) + (w64 (2 * (ln c)))))).bind fun p => some p))
def Kdi_e : FEnt := ⟨35, [.tmp 2], [], [(.agg, cc15)], ⟨37, [⟨2, .one, [.dat kI]⟩]⟩, Kdi⟩
theorem Kdi_ok : FnOk Tryz.prog 232 Kdi_e := fnOk_mk (tb := []) (c := (Tryz.f232.body).getD .skip) mixed Tryz.func232 (bC Kbk_ok (bC Kat_ok bN)) (by kernel_rfl) (by kernel_rfl) (by kernel_rfl) trivial (by intro d; kernel_rfl)
def Kar_s58 : Int × t126 × List Int × Int → Option (Int × t126 × List Int × Int ⊕ List Int)
 | (a, (b, c, d, e, f, g, h, i, j, k, l, m, n, o, p, q), r, s) => bif decide (s < 3) then ix s m.length ((some (gx m s [])).bind fun t => ix a t.length ((some (gx t a [])).bind fun u => (some (decide ((ln u) > 0))).bind fun v => bif v then ix s m.length ((some (gx m s [])).bind fun w => ix a w.length ((some (gx w a [])).bind fun x => chk (decide (0 < x.length)) ((some (List.getD x 0 (0, 0, [], 0, 0, 0, 0, [], [], []))).bind fun (y, z, a1, b1, c1, d1, e1, f1, g1, h1) => (Kdi (y, z, a1, b1, c1, d1, e1, f1, g1, h1)).bind fun i1 => (Kk (i1, 200)).bind fun j1 => chk (fits (r.length + [j1].length) 8) (some (.inl (a, (b, c, d, e, f, g, h, i, j, k, l, m, n, o, p, q), r ++ [j1], w64 (s + 1))))))) else chk (fits (r.length + 1) 8) (some (.inl (a, (b, c, d, e, f, g, h, i, j, k, l, m, n, o, p, q), r ++ [0], w64 (s + 1)))))) else some (.inr r)
def Kar_n58 : NEnt := ⟨⟨46, [⟨1, .one, [.dat kI]⟩, ⟨2, .box, cc7⟩, ⟨5, .one, [.own true kI]⟩, ⟨6, .one, [.dat kI]⟩]⟩, [(.exit 0, ⟨46, [⟨5, .one, [.own true kI]⟩]⟩)], lp Kar_s58⟩
def Kar : t127 → Option (List Int)
 | ((a, b, c, d, e, f, g, h, i, j, k, l, m, n, o, p), q) => (lp Kar_s58 (q, (a, b, c, d, e, f, g, h, i, j, k, l, m, n, o, p), [], 0)).bind fun r => some r
def Kar_e : FEnt := ⟨42, [.tmp 4], [], [(.agg, cc7), (.one, [.dat kI])], ⟨46, [⟨4, .one, [.own true kI]⟩]⟩, Kar⟩
theorem Kar_ok : FnOk Tryz.prog 216 Kar_e := fnOk_mk (tb := [(58, Kar_n58)]) (c := (Tryz.f216.body).getD .skip) mixed Tryz.func216 (bC Kdi_ok (bC Kk_ok bN)) (by kernel_rfl) (by kernel_rfl) (by kernel_rfl) ⟨nodeLoop (by kernel_rfl) Kar_s58 (by kernel_rfl) (by intro d; kernel_rfl), trivial⟩ (by intro d; kernel_rfl)
def Kaz_l25 : Bool × Bool × Int × Int × Bool → Option (Int × Int ⊕ Int)
 | (a, b, c, d, e) => bif e then some (.inl ((-1), 0)) else bif !b then some (.inl (0, 0)) else bif !a then some (.inl (1, 0)) else bif decide ((w64 (c + 1)) ≥ d) then some (.inl (1, 0)) else some (.inr c)
def Kaz_n25 : NEnt := ⟨⟨48, [⟨0, .one, [.dat .bool]⟩, ⟨1, .one, [.dat .bool]⟩, ⟨2, .one, [.dat kI]⟩, ⟨3, .one, [.dat kI]⟩, ⟨10, .one, [.dat .bool]⟩]⟩, [(.ret, ⟨48, [⟨8, .one, [.dat kI]⟩, ⟨9, .one, [.dat kI]⟩]⟩), (.normal, ⟨48, [⟨2, .one, [.dat kI]⟩]⟩)], Kaz_l25⟩
def Kaz : Bool × Bool × Int × Int → Option (Int × Int)
 | (a, b, c, d) => (Kb (c, 0, 1000)).bind fun e => bif !e then bx (Kaz_l25 (a, b, c, d, true)) (fun (f, g) => some (f, g)) fun f => some (0, w64 (f + 1)) else (Kb (d, 1, 10)).bind fun f => bif !f then bx (Kaz_l25 (a, b, c, d, true)) (fun (g, h) => some (g, h)) fun g => some (0, w64 (g + 1)) else bif !a then bx (Kaz_l25 (a, b, c, d, !b)) (fun (g, h) => some (g, h)) fun g => some (0, w64 (g + 1)) else bx (Kaz_l25 (a, b, c, d, false)) (fun (g, h) => some (g, h)) fun g => some (0, w64 (g + 1))
def Kaz_e : FEnt := ⟨40, [.tmp 8, .tmp 9], [], [(.one, [.dat .bool]), (.one, [.dat .bool]), (.one, [.dat kI]), (.one, [.dat kI])], ⟨48, [⟨8, .one, [.dat kI]⟩, ⟨9, .one, [.dat kI]⟩]⟩, Kaz⟩
theorem Kaz_ok : FnOk Tryz.prog 217 Kaz_e := fnOk_mk (tb := [(25, Kaz_n25)]) (c := (Tryz.f217.body).getD .skip) mixed Tryz.func217 (bC Kb_ok bN) (by kernel_rfl) (by kernel_rfl) (by kernel_rfl) ⟨nodeJoin (by kernel_rfl) (by intro d; kernel_rfl), trivial⟩ (by intro d; kernel_rfl)
def Kch : Int × Bool × List Int → Option ((Int × Bool × List Int) × Int × Bool × Unit)
 | (a, b, c) => some ((Int.tmod (w64 (a + 1)) 3, true, c), a, b, ())
def Kch_e : FEnt := ⟨10, [.cell 2 true 3], [true], [(.agg, cc28)], ⟨12, [⟨2, .box, cc28⟩, ⟨10, .agg, [.dat kI, .dat .bool, .dead]⟩]⟩, Kch⟩
theorem Kch_ok : FnOk Tryz.prog 233 Kch_e := fnOk_mk (tb := []) (c := (Tryz.f233.body).getD .skip) mixed Tryz.func233 bN (by kernel_rfl) (by kernel_rfl) (by kernel_rfl) trivial (by intro d; kernel_rfl)
def Kc_l995 : List Int × t37 → Option (t6 ⊕ List Int × t37)
 | (a, b, c, (d, e, _), f, g, h) => ix f a.length (ix f h.length (lx f h.length (bif decide ((gx a f 0) ≤ (gx h f 0)) then ix f h.length (lx f h.length (ix f a.length (ix f h.length (lx f h.length (some (.inl (f, f, g, sx h f (w64 ((gx h f 0) - (gx a f 0)))))))))) else (Kch (f, g, h)).bind fun ((i, j, k), l, m, _) => some (.inr (a, b, c, (d, e, ()), i, j, k)))))
def Kc_n995 : NEnt := ⟨⟨113, [⟨0, .one, [.dat (.list kI)]⟩, ⟨1, .one, [.dat (.list kI)]⟩, ⟨2, .one, [.dat kI]⟩, ⟨9, .box, cc30⟩, ⟨10, .box, cc28⟩]⟩, [(.ret, ⟨113, [⟨8, .one, [.dat kI]⟩, ⟨9, .box, cc28⟩]⟩), (.normal, ⟨113, [⟨0, .one, [.dat (.list kI)]⟩, ⟨1, .one, [.dat (.list kI)]⟩, ⟨2, .one, [.dat kI]⟩, ⟨9, .box, cc30⟩, ⟨10, .box, cc28⟩]⟩)], Kc_l995⟩
def Kc_s62 : List Int × t37 → Option (List Int × t37 ⊕ t6)
 | (a, b, c, (d, e, _), f, g, h) => ix f a.length (bif (gx a f 0) == 0 then ix f h.length (lx f h.length ((Kch (f, g, sx h f 0)).bind fun ((i, j, k), l, m, _) => some (.inl (a, b, c, (d, e, ()), i, j, k)))) else bif g then ix f h.length (lx f h.length (ix f b.length ((Kk (w64 ((gx h f 0) + (w64 (c * (gx b f 0)))), 1000)).bind fun i => ix f h.length (lx f h.length (bx (Kc_l995 (a, b, c, (d, e, ()), f, false, sx h f i)) (fun (j, k, l, m) => some (.inr (j, k, l, m))) fun (j, k, l, (m, n, _), o, p, q) => some (.inl (j, k, l, (m, n, ()), o, p, q))))))) else bx (Kc_l995 (a, b, c, (d, e, ()), f, g, h)) (fun (i, j, k, l) => some (.inr (i, j, k, l))) fun (i, j, k, (l, m, _), n, o, p) => some (.inl (i, j, k, (l, m, ()), n, o, p)))
def Kc_n62 : NEnt := ⟨⟨113, [⟨0, .one, [.dat (.list kI)]⟩, ⟨1, .one, [.dat (.list kI)]⟩, ⟨2, .one, [.dat kI]⟩, ⟨9, .box, cc30⟩, ⟨10, .box, cc28⟩]⟩, [(.ret, ⟨113, [⟨8, .one, [.dat kI]⟩, ⟨9, .box, cc28⟩]⟩)], lp Kc_s62⟩
def Kc : List Int × List Int × t6 → Option t6
 | (a, b, c, d, e, f) => (Kcs (d, e, f)).bind fun (g, h, i) => (Kad (a, 0, 200)).bind fun j => bif !j then some ((-1), g, h, i) else (Kad (b, 1, 4)).bind fun k => bif !k then some ((-1), g, h, i) else (Kb (c, 1, 60)).bind fun l => bif !l then some ((-1), g, h, i) else (Kde (d, e, f)).bind fun m => bif !m then some ((-1), g, h, i) else (Kad (a, 0, 0)).bind fun n => bif n then (Kdc ()).bind fun (o, p, q) => some ((-1), o, p, q) else (lp Kc_s62 (a, b, c, (0, false, ()), g, h, i)).bind fun (o, p, q, r) => some (o, p, q, r)
def Kc_e : FEnt := ⟨105, [.tmp 8, .cell 9 true 3], [], [(.one, [.dat (.list kI)]), (.one, [.dat (.list kI)]), (.one, [.dat kI]), (.agg, cc26)], ⟨113, [⟨8, .one, [.dat kI]⟩, ⟨9, .box, cc28⟩]⟩, Kc⟩
theorem Kc_ok : FnOk Tryz.prog 218 Kc_e := fnOk_mk (tb := [(995, Kc_n995), (62, Kc_n62)]) (c := (Tryz.f218.body).getD .skip) mixed Tryz.func218 (bC Kcs_ok (bC Kad_ok (bC Kb_ok (bC Kde_ok (bC Kdc_ok (bC Kch_ok (bC Kk_ok bN))))))) (by kernel_rfl) (by kernel_rfl) (by kernel_rfl) ⟨nodeJoin (by kernel_rfl) (by intro d; kernel_rfl), nodeLoop (by kernel_rfl) Kc_s62 (by kernel_rfl) (by intro d; kernel_rfl), trivial⟩ (by intro d; kernel_rfl)
def Keb : t126 → Option (Int × Int × t126)
 | (a, b, c, d, e, f, g, h, i, j, k, l, m, n, o, p) => (Ka (a, b, c, d, e, f, g, h, i, j, k, l, m, n, o, p)).bind fun (q, r, s, t, u, v, w, x, y, z, a1, b1, c1, d1, e1, f1) => (Kar ((a, b, c, d, e, f, g, h, i, j, k, l, m, n, o, p), 0)).bind fun g1 => (Kad (g1, 0, 0)).bind fun h1 => (Kar ((a, b, c, d, e, f, g, h, i, j, k, l, m, n, o, p), 1)).bind fun i1 => (Kad (i1, 0, 0)).bind fun j1 => (Kaz (!h1, !j1, n, c)).bind fun (k1, l1) => bif decide (k1 < 0) then some ((-1), (-1), q, r, s, t, u, v, w, x, y, z, a1, b1, c1, d1, e1, f1) else (Kar ((a, b, c, d, e, f, g, h, i, j, k, l, m, n, o, p), k1)).bind fun m1 => ix k1 m.length ((some (gx m k1 (0, false, []))).bind fun (n1, o1, p1) => (Kc (m1, d, b, n1, o1, p1)).bind fun (q1, r1, s1, t1) => ix k1 c1.length (lx k1 c1.length (some (q1, k1, q, r, s, t, u, v, w, x, y, z, a1, b1, sx c1 k1 (r1, s1, t1), l1, e1, f1))))
def Keb_e : FEnt := ⟨64, [.tmp 2, .tmp 3, .cell 4 true 16], [], [(.agg, cc7)], ⟨66, [⟨2, .one, [.dat kI]⟩, ⟨3, .one, [.dat kI]⟩, ⟨4, .box, cc3⟩]⟩, Keb⟩
theorem Keb_ok : FnOk Tryz.prog 199 Keb_e := fnOk_mk (tb := []) (c := (Tryz.f199.body).getD .skip) mixed Tryz.func199 (bC Ka_ok (bC Kar_ok (bC Kad_ok (bC Kaz_ok (bC Kc_ok bN))))) (by kernel_rfl) (by kernel_rfl) (by kernel_rfl) trivial (by intro d; kernel_rfl)
def Kef : List t54 → Option (t54 × List t54 × Bool × List t54)
 | a => (Kao a).bind fun b => (Kn a).bind fun c => bif !c then some ((0, 0, [], 0, 0, 0, 0, [], [], []), b, false, a) else bif (ln a) == 0 then some ((0, 0, [], 0, 0, 0, 0, [], [], []), b, false, a) else chk (decide (0 < b.length)) (chk (decide (0 < b.length)) ((some (List.getD b 0 (0, 0, [], 0, 0, 0, 0, [], [], []))).bind fun (d, e, f, g, h, i, j, k, l, m) => chk (decide ((1 ≤ b.length) ∧ (b.length ≤ b.length))) (chk (fits (0 + (List.drop 1 b).length) 144) ((some ([] ++ (List.drop 1 b))).bind fun n => some ((d, e, f, g, h, i, j, k, l, m), n, true, a)))))
def Kef_e : FEnt := ⟨29, [.cell 2 true 10, .cell 3 true 1, .tmp 4], [true], [(.agg, [.own true kk5])], ⟨31, [⟨2, .box, cc15⟩, ⟨3, .box, [.own false kk5]⟩, ⟨4, .one, [.dat .bool]⟩, ⟨29, .agg, [.own true kk5]⟩]⟩, Kef⟩
theorem Kef_ok : FnOk Tryz.prog 200 Kef_e := fnOk_mk (tb := []) (c := (Tryz.f200.body).getD .skip) mixed Tryz.func200 (bC Kao_ok (bC Kn_ok bN)) (by kernel_rfl) (by kernel_rfl) (by kernel_rfl) trivial (by intro d; kernel_rfl)
def Kck : Int × Int → Option Int
 | (a, b) => (Kk (a, b)).bind fun c => (Kba (0, c)).bind fun d => some d
def Kck_e : FEnt := ⟨9, [.tmp 4], [], [(.one, [.dat kI]), (.one, [.dat kI])], ⟨13, [⟨4, .one, [.dat kI]⟩]⟩, Kck⟩
theorem Kck_ok : FnOk Tryz.prog 183 Kck_e := fnOk_mk (tb := []) (c := (Tryz.f183.body).getD .skip) mixed Tryz.func183 (bC Kk_ok (bC Kba_ok bN)) (by kernel_rfl) (by kernel_rfl) (by kernel_rfl) trivial (by intro d; kernel_rfl)
def Kci : Int × Int → Option Int
 | (a, b) => (Kck (a, 1000000000)).bind fun c => (Kck (b, 1000000000)).bind fun d => (Kk (w64 (c + d), 1000000000)).bind fun e => some e
def Kci_e : FEnt := ⟨11, [.tmp 4], [], [(.one, [.dat kI]), (.one, [.dat kI])], ⟨15, [⟨4, .one, [.dat kI]⟩]⟩, Kci⟩
theorem Kci_ok : FnOk Tryz.prog 144 Kci_e := fnOk_mk (tb := []) (c := (Tryz.f144.body).getD .skip) mixed Tryz.func144 (bC Kck_ok (bC Kk_ok bN)) (by kernel_rfl) (by kernel_rfl) (by kernel_rfl) trivial (by intro d; kernel_rfl)
def Kbd_s58 : List Int × t3 → Option (List Int × t3 ⊕ List Int)
 | (a, b, c, d) => bif decide (d < (ln a)) then ix d a.length (ix d b.length ((Kci (gx a d 0, gx b d 0)).bind fun e => chk (fits (c.length + [e].length) 8) (some (.inl (a, b, c ++ [e], w64 (d + 1)))))) else some (.inr c)
def Kbd_n58 : NEnt := ⟨⟨31, [⟨0, .one, [.dat (.list kI)]⟩, ⟨1, .one, [.dat (.list kI)]⟩, ⟨5, .one, [.own true kI]⟩, ⟨6, .one, [.dat kI]⟩]⟩, [(.exit 0, ⟨31, [⟨5, .one, [.own true kI]⟩]⟩)], lp Kbd_s58⟩
def Kbd : List Int × List Int → Option (List Int)
 | (a, b) => (lp Kbd_s58 (a, b, [], 0)).bind fun c => some c
def Kbd_e : FEnt := ⟨27, [.tmp 4], [], [(.one, [.dat (.list kI)]), (.one, [.dat (.list kI)])], ⟨31, [⟨4, .one, [.own true kI]⟩]⟩, Kbd⟩
theorem Kbd_ok : FnOk Tryz.prog 145 Kbd_e := fnOk_mk (tb := [(58, Kbd_n58)]) (c := (Tryz.f145.body).getD .skip) mixed Tryz.func145 (bC Kci_ok bN) (by kernel_rfl) (by kernel_rfl) (by kernel_rfl) ⟨nodeLoop (by kernel_rfl) Kbd_s58 (by kernel_rfl) (by intro d; kernel_rfl), trivial⟩ (by intro d; kernel_rfl)
def Km_s250 : t38 × t38 × t68 → Option (t38 × t38 × t68 ⊕ t64)
 | ((a, b, c, d, e, f, g), (h, i, j, k, l, m, n), (o, p, q, r, _, _, _), (s, t, u, v, w, x, y), z) => bif decide (z < 8) then ix z f.length (ix z m.length ((Kba (gx f z 0, gx m z 0)).bind fun a1 => chk (fits (x.length + [a1].length) 8) (some (.inl ((a, b, c, d, e, f, g), (h, i, j, k, l, m, n), (o, p, q, r, (), (), ()), (s, t, u, v, w, x ++ [a1], y), w64 (z + 1)))))) else some (.inr ((o, p, q, r, (), (), ()), s, t, u, v, w, x, y))
def Km_n250 : NEnt := ⟨⟨89, [⟨2, .box, cc17⟩, ⟨3, .box, cc17⟩, ⟨4, .box, cc23⟩, ⟨5, .box, cc16⟩, ⟨6, .one, [.dat kI]⟩]⟩, [(.exit 0, ⟨89, [⟨4, .box, cc23⟩, ⟨5, .box, cc16⟩]⟩)], lp Km_s250⟩
def Km_l31 : t38 × t38 × t24 × Int × Int × Int × Int × List Int × Unit × List (List Int) → Option t38
 | ((a, b, c, d, e, f, g), (h, i, j, k, l, m, n), (o, p, q, r, _, _, _), s, t, u, v, w, _, x) => (lp Km_s250 ((a, b, c, d, e, f, g), (h, i, j, k, l, m, n), (o, p, q, r, (), (), ()), (s, t, u, v, w, [], x), 0)).bind fun ((y, z, a1, b1, _, _, _), c1, d1, e1, f1, g1, h1, i1) => some (c1, d1, e1, f1, g1, h1, i1)
def Km_n31 : NEnt := ⟨⟨89, [⟨2, .box, cc17⟩, ⟨3, .box, cc17⟩, ⟨4, .box, cc23⟩, ⟨5, .box, cc19⟩]⟩, [(.ret, ⟨89, [⟨4, .box, cc16⟩]⟩)], Km_l31⟩
def Km_l15 : t38 × t38 × t24 × Int × Int × Int × Int × List Int × Unit × List (List Int) → Option t38
 | ((a, b, c, d, e, f, g), (h, i, j, k, l, m, n), (o, p, q, r, _, _, _), s, t, u, v, w, _, x) => bif h == 0 then (Km_l31 ((a, b, c, d, e, f, g), (h, i, j, k, l, m, n), (o, p, q, r, (), (), ()), s, t, c, v, w, (), x)).bind fun (y, z, a1, b1, c1, d1, e1) => some (y, z, a1, b1, c1, d1, e1) else (Km_l31 ((a, b, c, d, e, f, g), (h, i, j, k, l, m, n), (o, p, q, r, (), (), ()), s, t, u, v, w, (), x)).bind fun (y, z, a1, b1, c1, d1, e1) => some (y, z, a1, b1, c1, d1, e1)
def Km_n15 : NEnt := ⟨⟨89, [⟨2, .box, cc17⟩, ⟨3, .box, cc17⟩, ⟨4, .box, cc23⟩, ⟨5, .box, cc19⟩]⟩, [(.ret, ⟨89, [⟨4, .box, cc16⟩]⟩)], Km_l15⟩
def Km : t38 × t38 → Option t38
 | ((a, b, c, d, e, f, g), h, i, j, k, l, m, n) => (Kci (a, h)).bind fun o => (Kci (b, i)).bind fun p => (Kk (c, j)).bind fun q => (Kba (d, k)).bind fun r => (Kbd (e, l)).bind fun s => chk (decide (0 < g.length)) (chk (decide (0 < n.length)) ((Kbd (List.getD g 0 [], List.getD n 0 [])).bind fun t => chk (decide (1 < g.length)) (chk (decide (1 < n.length)) ((Kbd (List.getD g 1 [], List.getD n 1 [])).bind fun u => bif a == 0 then (Km_l15 ((a, b, c, d, e, f, g), (h, i, j, k, l, m, n), (0, 0, 0, 0, (), (), ()), o, p, j, r, s, (), [t, u])).bind fun (v, w, x, y, z, a1, b1) => some (v, w, x, y, z, a1, b1) else (Km_l15 ((a, b, c, d, e, f, g), (h, i, j, k, l, m, n), (0, 0, 0, 0, (), (), ()), o, p, q, r, s, (), [t, u])).bind fun (v, w, x, y, z, a1, b1) => some (v, w, x, y, z, a1, b1)))))
def Km_e : FEnt := ⟨85, [.cell 4 true 7], [], [(.agg, cc17), (.agg, cc17)], ⟨89, [⟨4, .box, cc16⟩]⟩, Km⟩
theorem Km_ok : FnOk Tryz.prog 96 Km_e := fnOk_mk (tb := [(250, Km_n250), (31, Km_n31), (15, Km_n15)]) (c := (Tryz.f96.body).getD .skip) mixed Tryz.func96 (bC Kci_ok (bC Kk_ok (bC Kba_ok (bC Kbd_ok bN)))) (by kernel_rfl) (by kernel_rfl) (by kernel_rfl) ⟨nodeLoop (by kernel_rfl) Km_s250 (by kernel_rfl) (by intro d; kernel_rfl), nodeJoin (by kernel_rfl) (by intro d; kernel_rfl), nodeJoin (by kernel_rfl) (by intro d; kernel_rfl), trivial⟩ (by intro d; kernel_rfl)
def Kcn : t54 × t54 → Option t54
 | ((a, b, c, d, e, f, g, h, i, j), k, l, m, n, o, p, q, r, s, t) => (Kah (c, m)).bind fun u => (Km ((d, e, f, g, h, i, j), n, o, p, q, r, s, t)).bind fun (v, w, x, y, z, a1, b1) => some (a, b, u, v, w, x, y, z, a1, b1)
def Kcn_e : FEnt := ⟨20, [.cell 4 true 10], [], [(.agg, cc15), (.agg, cc15)], ⟨24, [⟨4, .box, cc13⟩]⟩, Kcn⟩
theorem Kcn_ok : FnOk Tryz.prog 166 Kcn_e := fnOk_mk (tb := []) (c := (Tryz.f166.body).getD .skip) mixed Tryz.func166 (bC Kah_ok (bC Km_ok bN)) (by kernel_rfl) (by kernel_rfl) (by kernel_rfl) trivial (by intro d; kernel_rfl)
def Kf_l1865 : t96 → Option t96
 | ((_, _, _), (a, b, c, d, e, f, g, h, i, j), k, l, m) => ix l m.length (lx l m.length ((some (gx m l (0, 0, [], 0, 0, 0, 0, [], [], []))).bind fun (n, o, p, q, r, s, t, u, v, w) => bif decide (n > a) then some (((), (), ()), (a, b, c, d, e, f, g, h, i, j), l, l, m) else ix l m.length (lx l m.length ((some (gx m l (0, 0, [], 0, 0, 0, 0, [], [], []))).bind fun (x, y, z, a1, b1, c1, d1, e1, f1, g1) => bif x == a then ix l m.length (lx l m.length ((some (gx m l (0, 0, [], 0, 0, 0, 0, [], [], []))).bind fun (h1, i1, j1, k1, l1, m1, n1, o1, p1, q1) => bif decide (i1 > b) then some (((), (), ()), (a, b, c, d, e, f, g, h, i, j), l, l, m) else some (((), (), ()), (a, b, c, d, e, f, g, h, i, j), k, l, m))) else some (((), (), ()), (a, b, c, d, e, f, g, h, i, j), k, l, m)))))
def Kf_n1865 : NEnt := ⟨⟨93, [⟨0, .one, cc29⟩, ⟨3, .box, cc15⟩, ⟨5, .one, [.dat kI]⟩, ⟨6, .one, [.dat kI]⟩, ⟨89, .agg, [.own true kk5]⟩]⟩, [(.normal, ⟨93, [⟨0, .one, cc29⟩, ⟨3, .box, cc15⟩, ⟨5, .one, [.dat kI]⟩, ⟨6, .one, [.dat kI]⟩, ⟨89, .agg, [.own true kk5]⟩]⟩)], Kf_l1865⟩
def Kf_s58 : t96 → Option (t96 ⊕ t63 ⊕ (Unit × Unit × Unit) × t54 × t62)
 | ((_, _, _), (a, b, c, d, e, f, g, h, i, j), k, l, m) => bif decide (l ≥ 0) then ix l m.length (lx l m.length ((some (gx m l (0, 0, [], 0, 0, 0, 0, [], [], []))).bind fun (n, o, p, q, r, s, t, u, v, w) => bif n == a then ix l m.length (lx l m.length ((some (gx m l (0, 0, [], 0, 0, 0, 0, [], [], []))).bind fun (x, y, z, a1, b1, c1, d1, e1, f1, g1) => bif y == b then ix l m.length (lx l m.length ((some (gx m l (0, 0, [], 0, 0, 0, 0, [], [], []))).bind fun (h1, i1, j1, k1, l1, m1, n1, o1, p1, q1) => (Kcn ((h1, i1, (gx m l (0, 0, [], 0, 0, 0, 0, [], [], [])).2.2.1, k1, l1, m1, n1, (gx m l (0, 0, [], 0, 0, 0, 0, [], [], [])).2.2.2.2.2.2.2.1, (gx m l (0, 0, [], 0, 0, 0, 0, [], [], [])).2.2.2.2.2.2.2.2.1, (gx m l (0, 0, [], 0, 0, 0, 0, [], [], [])).2.2.2.2.2.2.2.2.2), a, b, c, d, e, f, g, h, i, j)).bind fun (r1, s1, t1, u1, v1, w1, x1, y1, z1, a2) => ix l m.length (lx l m.length ((some (sx m l (r1, s1, t1, u1, v1, w1, x1, y1, z1, a2))).bind fun b2 => some (.inr (.inl (b2, ()))))))) else (Kf_l1865 (((), (), ()), (a, b, c, d, e, f, g, h, i, j), k, l, m)).bind fun ((_, _, _), (h1, i1, j1, k1, l1, m1, n1, o1, p1, q1), r1, s1, t1) => some (.inl (((), (), ()), (h1, i1, j1, k1, l1, m1, n1, o1, p1, q1), r1, w64 (s1 - 1), t1)))) else (Kf_l1865 (((), (), ()), (a, b, c, d, e, f, g, h, i, j), k, l, m)).bind fun ((_, _, _), (x, y, z, a1, b1, c1, d1, e1, f1, g1), h1, i1, j1) => some (.inl (((), (), ()), (x, y, z, a1, b1, c1, d1, e1, f1, g1), h1, w64 (i1 - 1), j1)))) else some (.inr (.inr (((), (), ()), (a, b, c, d, e, f, g, h, i, j), k, m)))
def Kf_n58 : NEnt := ⟨⟨93, [⟨0, .one, cc29⟩, ⟨3, .box, cc15⟩, ⟨5, .one, [.dat kI]⟩, ⟨6, .one, [.dat kI]⟩, ⟨89, .agg, [.own true kk5]⟩]⟩, [(.ret, ⟨93, [⟨4, .one, [.own true kk5]⟩, ⟨89, .agg, [.dead]⟩]⟩), (.exit 0, ⟨93, [⟨0, .one, cc29⟩, ⟨3, .box, cc15⟩, ⟨5, .one, [.dat kI]⟩, ⟨89, .agg, [.own true kk5]⟩]⟩)], lp Kf_s58⟩
def Kf : List t54 × t54 → Option t63
 | (a, b, c, d, e, f, g, h, i, j, k) => bx (lp Kf_s58 (((), (), ()), (b, c, d, e, f, g, h, i, j, k), ln a, w64 ((ln a) - 1), a)) (fun (l, _) => some (l, ())) fun ((_, _, _), (l, m, n, o, p, q, r, s, t, u), v, w) => g0 v (chk (decide ((0 ≤ v.toNat) ∧ (v.toNat ≤ w.length))) (chk (fits (0 + (List.take v.toNat w).length) 144) ((some ([] ++ (List.take v.toNat w))).bind fun x => (Kaj (l, m, n, o, p, q, r, s, t, u)).bind fun (y, z, a1, b1, c1, d1, e1, f1, g1, h1) => (some [(y, z, a1, b1, c1, d1, e1, f1, g1, h1)]).bind fun i1 => chk (fits (x.length + i1.length) 144) ((some (x ++ i1)).bind fun j1 => g0 v (chk (decide ((v.toNat ≤ w.length) ∧ (w.length ≤ w.length))) (chk (fits (j1.length + (List.drop v.toNat w).length) 144) ((some (j1 ++ (List.drop v.toNat w))).bind fun k1 => some (k1, ()))))))))
def Kf_e : FEnt := ⟨89, [.tmp 4], [true, false], [(.one, [.own true kk5]), (.agg, cc15)], ⟨93, [⟨4, .one, [.own false kk5]⟩, ⟨89, .agg, [.dead]⟩]⟩, Kf⟩
theorem Kf_ok : FnOk Tryz.prog 123 Kf_e := fnOk_mk (tb := [(1865, Kf_n1865), (58, Kf_n58)]) (c := (Tryz.f123.body).getD .skip) mixed Tryz.func123 (bC Kcn_ok (bC Kaj_ok bN)) (by kernel_rfl) (by kernel_rfl) (by kernel_rfl) ⟨nodeJoin (by kernel_rfl) (by intro d; kernel_rfl), nodeLoop (by kernel_rfl) Kf_s58 (by kernel_rfl) (by intro d; kernel_rfl), trivial⟩ (by intro d; kernel_rfl)
def Kdx : List t54 × t54 → Option t63
 | (a, b, c, d, e, f, g, h, i, j, k) => (Kf (a, b, c, d, e, f, g, h, i, j, k)).bind fun (l, _) => some (l, ())
def Kdx_e : FEnt := ⟨8, [.tmp 4], [true, false], [(.one, [.own true kk5]), (.agg, cc15)], ⟨12, [⟨4, .one, [.own false kk5]⟩, ⟨8, .agg, [.dead]⟩]⟩, Kdx⟩
theorem Kdx_ok : FnOk Tryz.prog 201 Kdx_e := fnOk_mk (tb := []) (c := (Tryz.f201.body).getD .skip) mixed Tryz.func201 (bC Kf_ok bN) (by kernel_rfl) (by kernel_rfl) (by kernel_rfl) trivial (by intro d; kernel_rfl)
def Kdy : t22 × Int × Int → Option (t22 × Bool)
 | ((a, b, c, d, e), f, g) => (Kbu (a, b, c, d, e)).bind fun (h, i, j, k, l) => (Kbl ((a, b, c, d, e), f)).bind fun m => bif !m then some ((h, i, j, k, l), false) else (Kb (g, 0, 60)).bind fun n => bif !n then some ((h, i, j, k, l), false) else (Kbl ((h, i, j, w64 (d + g), l), f)).bind fun o => bif !o then (Kbu (a, b, c, d, e)).bind fun (p, q, r, s, t) => some ((p, q, r, s, t), false) else some ((h, i, j, w64 (d + g), l), true)
def Kdy_e : FEnt := ⟨33, [.cell 6 true 5, .tmp 7], [], [(.agg, cc24), (.one, [.dat kI]), (.one, [.dat kI])], ⟨39, [⟨6, .box, cc22⟩, ⟨7, .one, [.dat .bool]⟩]⟩, Kdy⟩
theorem Kdy_ok : FnOk Tryz.prog 202 Kdy_e := fnOk_mk (tb := []) (c := (Tryz.f202.body).getD .skip) mixed Tryz.func202 (bC Kbu_ok (bC Kbl_ok (bC Kb_ok bN))) (by kernel_rfl) (by kernel_rfl) (by kernel_rfl) trivial (by intro d; kernel_rfl)
def Kdb : t126 → Option (t126 × Bool)
 | (a, b, c, d, e, f, g, h, i, j, k, l, m, n, o, p) => (Keb (a, b, c, d, e, f, g, h, i, j, k, l, m, n, o, p)).bind fun (q, r, s, t, u, v, w, x, y, z, a1, b1, c1, d1, e1, f1, g1, h1) => bif decide (q < 0) then (Ka (a, b, c, d, e, f, g, h, i, j, k, l, m, n, o, p)).bind fun (i1, j1, k1, l1, m1, n1, o1, p1, q1, r1, s1, t1, u1, v1, w1, x1) => some ((i1, j1, k1, l1, m1, n1, o1, p1, q1, r1, s1, t1, u1, v1, w1, x1), false) else ix q d1.length (lx q d1.length (ix r (gx d1 q []).length (lx r (gx d1 q []).length ((Kef (gx (gx d1 q []) r [])).bind fun ((i1, j1, k1, l1, m1, n1, o1, p1, q1, r1), s1, t1, u1) => (some (sx d1 q (sx (gx d1 q []) r u1))).bind fun v1 => ix q v1.length (lx q v1.length (ix r (gx v1 q []).length (lx r (gx v1 q []).length ((some (sx v1 q (sx (gx v1 q []) r s1))).bind fun w1 => (Kdx (g1, i1, j1, k1, l1, m1, n1, o1, p1, q1, r1)).bind fun (x1, _) => ix q c1.length (lx q c1.length ((some (gx c1 q (0, 0, [], 0, 0))).bind fun (y1, z1, a2, b2, c2) => (Kan k1).bind fun d2 => (Kdy ((y1, z1, (gx c1 q (0, 0, [], 0, 0)).2.2.1, b2, c2), s, d2)).bind fun ((e2, f2, g2, h2, i2), j2) => bif !b1 then (Kcp ((e2, f2, g2, h2, i2), s)).bind fun (k2, l2, m2, n2, o2) => ix q c1.length (lx q c1.length ((some (sx c1 q (k2, l2, m2, n2, o2))).bind fun p2 => some ((s, t, u, v, w, x, y, z, a1, b1, p2, w1, e1, f1, x1, h1), true))) else ix q c1.length (lx q c1.length ((some (sx c1 q (e2, f2, g2, h2, i2))).bind fun k2 => some ((s, t, u, v, w, x, y, z, a1, b1, k2, w1, e1, f1, x1, h1), true)))))))))))))
def Kdb_e : FEnt := ⟨77, [.cell 2 true 16, .tmp 3], [], [(.agg, cc7)], ⟨79, [⟨2, .box, cc1⟩, ⟨3, .one, [.dat .bool]⟩]⟩, Kdb⟩
theorem Kdb_ok : FnOk Tryz.prog 158 Kdb_e := fnOk_mk (tb := []) (c := (Tryz.f158.body).getD .skip) mixed Tryz.func158 (bC Keb_ok (bC Ka_ok (bC Kef_ok (bC Kdx_ok (bC Kan_ok (bC Kdy_ok (bC Kcp_ok bN))))))) (by kernel_rfl) (by kernel_rfl) (by kernel_rfl) trivial (by intro d; kernel_rfl)
def Kdz : t126 → Option (t126 × Bool)
 | (a, b, c, d, e, f, g, h, i, j, k, l, m, n, o, p) => (Ke (a, b, c, d, e, f, g, h, i, j, k, l, m, n, o, p)).bind fun q => bif !q then (Ka (a, b, c, d, e, f, g, h, i, j, k, l, m, n, o, p)).bind fun (r, s, t, u, v, w, x, y, z, a1, b1, c1, d1, e1, f1, g1) => some ((r, s, t, u, v, w, x, y, z, a1, b1, c1, d1, e1, f1, g1), false) else (Kdb (a, b, c, d, e, f, g, h, i, j, k, l, m, n, o, p)).bind fun ((r, s, t, u, v, w, x, y, z, a1, b1, c1, d1, e1, f1, g1), h1) => some ((r, s, t, u, v, w, x, y, z, a1, b1, c1, d1, e1, f1, g1), h1)
def Kdz_e : FEnt := ⟨13, [.cell 2 true 16, .tmp 3], [], [(.agg, cc7)], ⟨15, [⟨2, .box, cc1⟩, ⟨3, .one, [.dat .bool]⟩]⟩, Kdz⟩
theorem Kdz_ok : FnOk Tryz.prog 152 Kdz_e := fnOk_mk (tb := []) (c := (Tryz.f152.body).getD .skip) mixed Tryz.func152 (bC Ke_ok (bC Ka_ok (bC Kdb_ok bN))) (by kernel_rfl) (by kernel_rfl) (by kernel_rfl) trivial (by intro d; kernel_rfl)
def Kdr : t32 × Int → Option Int
 | ((a, b, c, d, e, f, g, h), i) => (Kco (a, b, c, d, e, f, g, h)).bind fun j => bif !j then some (-1) else (Kb (i, 0, 20)).bind fun k => bif !k then some (-1) else some (w64 ((w64 (f * (w64 (i + 1)))) + g))
def Kdr_e : FEnt := ⟨21, [.tmp 4], [], [(.agg, cc18), (.one, [.dat kI])], ⟨25, [⟨4, .one, [.dat kI]⟩]⟩, Kdr⟩
theorem Kdr_ok : FnOk Tryz.prog 198 Kdr_e := fnOk_mk (tb := []) (c := (Tryz.f198.body).getD .skip) mixed Tryz.func198 (bC Kco_ok (bC Kb_ok bN)) (by kernel_rfl) (by kernel_rfl) (by kernel_rfl) trivial (by intro d; kernel_rfl)
def Kbc_s122 : Bool × t126 × t57 × t130 → Option (Bool × t126 × t57 × t130 ⊕ t57 × t126 × List t54)
 | (a, (b, c, d, e, f, g, h, i, j, k, l, m, n, o, p, q), (r, s, t, _, u, v, w, x, y, z, _, _, _, a1, _, _), (b1, c1, d1, e1, f1, g1, h1, i1, j1, k1, l1, m1, n1, o1, p1, q1), r1, s1) => (some (decide (s1 < (ln p1)))).bind fun t1 => bif t1 then ix s1 p1.length (lx s1 p1.length ((some (gx p1 s1 (0, 0, [], 0, 0, 0, 0, [], [], []))).bind fun (u1, v1, w1, x1, y1, z1, a2, b2, c2, d2) => bif a then (Kaq (q1, u1, v1)).bind fun e2 => (some [(e2, u1, v1, w1, x1, y1, z1, a2, b2, c2, d2)]).bind fun f2 => chk (fits (q1.length + f2.length) 152) ((some (q1 ++ f2)).bind fun g2 => some (.inl (a, (b, c, d, e, f, g, h, i, j, k, l, m, n, o, p, q), (r, s, t, (), u, v, w, x, y, z, (), (), (), a1, (), ()), (b1, c1, d1, e1, f1, g1, h1, i1, j1, k1, l1, m1, n1, o1, p1, g2), r1, w64 (s1 + 1)))) else (Kdr ((b, c, d, e, f, g, h, i), v1)).bind fun e2 => bif decide (e2 ≤ j) then (Kaq (q1, u1, v1)).bind fun f2 => (some [(f2, u1, v1, w1, x1, y1, z1, a2, b2, c2, d2)]).bind fun g2 => chk (fits (q1.length + g2.length) 152) ((some (q1 ++ g2)).bind fun h2 => some (.inl (a, (b, c, d, e, f, g, h, i, j, k, l, m, n, o, p, q), (r, s, t, (), u, v, w, x, y, z, (), (), (), a1, (), ()), (b1, c1, d1, e1, f1, g1, h1, i1, j1, k1, l1, m1, n1, o1, p1, h2), r1, w64 (s1 + 1)))) else (some [(u1, v1, w1, x1, y1, z1, a2, b2, c2, d2)]).bind fun f2 => chk (fits (r1.length + f2.length) 144) ((some (r1 ++ f2)).bind fun g2 => some (.inl (a, (b, c, d, e, f, g, h, i, j, k, l, m, n, o, p, q), (r, s, t, (), u, v, w, x, y, z, (), (), (), a1, (), ()), (b1, c1, d1, e1, f1, g1, h1, i1, j1, k1, l1, m1, n1, o1, p1, q1), g2, w64 (s1 + 1)))))) else some (.inr ((r, s, t, (), u, v, w, x, y, z, (), (), (), a1, (), ()), (b1, c1, d1, e1, f1, g1, h1, i1, j1, k1, l1, m1, n1, o1, p1, q1), r1))
def Kbc_n122 : NEnt := ⟨⟨60, [⟨1, .one, [.dat .bool]⟩, ⟨2, .box, cc7⟩, ⟨4, .box, cc12⟩, ⟨5, .box, cc2⟩, ⟨6, .one, [.own false kk5]⟩, ⟨7, .one, [.dat kI]⟩]⟩, [(.exit 0, ⟨60, [⟨4, .box, cc12⟩, ⟨5, .box, cc2⟩, ⟨6, .one, [.own false kk5]⟩]⟩)], lp Kbc_s122⟩
def Kbc : t126 × Bool → Option t126
 | ((a, b, c, d, e, f, g, h, i, j, k, l, m, n, o, p), q) => (Ka (a, b, c, d, e, f, g, h, i, j, k, l, m, n, o, p)).bind fun (r, s, t, u, v, w, x, y, z, a1, b1, c1, d1, e1, f1, g1) => (lp Kbc_s122 (q, (a, b, c, d, e, f, g, h, i, j, k, l, m, n, o, p), (0, 0, 0, (), 0, 0, 0, 0, 0, false, (), (), (), 0, (), ()), (r, s, t, u, v, w, x, y, z, a1, b1, c1, d1, e1, f1, g1), [], 0)).bind fun ((h1, i1, j1, _, k1, l1, m1, n1, o1, p1, _, _, _, q1, _, _), (r1, s1, t1, u1, v1, w1, x1, y1, z1, a2, b2, c2, d2, e2, f2, g2), h2) => some (r1, s1, t1, u1, v1, w1, x1, y1, z1, a2, b2, c2, d2, e2, h2, g2)
def Kbc_e : FEnt := ⟨56, [.cell 4 true 16], [], [(.agg, cc7), (.one, [.dat .bool])], ⟨60, [⟨4, .box, cc2⟩]⟩, Kbc⟩
theorem Kbc_ok : FnOk Tryz.prog 157 Kbc_e := fnOk_mk (tb := [(122, Kbc_n122)]) (c := (Tryz.f157.body).getD .skip) mixed Tryz.func157 (bC Ka_ok (bC Kdr_ok (bC Kaq_ok bN))) (by kernel_rfl) (by kernel_rfl) (by kernel_rfl) ⟨nodeLoop (by kernel_rfl) Kbc_s122 (by kernel_rfl) (by intro d; kernel_rfl), trivial⟩ (by intro d; kernel_rfl)
def Kdp : List (Int × Int) → Option Int
 | a => bif (ln a) == 0 then some 0 else ix (w64 ((ln a) - 1)) a.length ((some (gx a (w64 ((ln a) - 1)) (0, 0))).bind fun (b, c) => some c)
def Kdp_e : FEnt := ⟨13, [.tmp 2], [], [(.one, [.dat kk10])], ⟨15, [⟨2, .one, [.dat kI]⟩]⟩, Kdp⟩
theorem Kdp_ok : FnOk Tryz.prog 187 Kdp_e := fnOk_mk (tb := []) (c := (Tryz.f187.body).getD .skip) mixed Tryz.func187 bN (by kernel_rfl) (by kernel_rfl) (by kernel_rfl) trivial (by intro d; kernel_rfl)
def Kdm : t22 × Int → Option t22
 | ((a, b, c, d, e), f) => (Kbu (a, b, c, d, e)).bind fun (g, h, i, j, k) => (Kbl ((a, b, c, d, e), f)).bind fun l => bif !l then some (g, h, i, j, k) else bif a == 1000 then some (g, h, i, j, k) else bif decide ((ln c) > 0) then ix (w64 ((ln c) - 1)) c.length ((some (gx c (w64 ((ln c) - 1)) (0, 0))).bind fun (m, n) => some (w64 (a + 1), n, i, j, k)) else some (w64 (a + 1), 0, i, j, k)
def Kdm_e : FEnt := ⟨38, [.cell 4 true 5], [], [(.agg, cc24), (.one, [.dat kI])], ⟨42, [⟨4, .box, cc22⟩]⟩, Kdm⟩
theorem Kdm_ok : FnOk Tryz.prog 188 Kdm_e := fnOk_mk (tb := []) (c := (Tryz.f188.body).getD .skip) mixed Tryz.func188 (bC Kbu_ok (bC Kbl_ok bN)) (by kernel_rfl) (by kernel_rfl) (by kernel_rfl) trivial (by intro d; kernel_rfl)
def Kbi_s506 : t57 × t127 → Option (t57 × t127 ⊕ t57 × t126)
 | ((a, b, c, _, d, e, f, g, h, i, _, _, _, j, _, _), (k, l, m, n, o, p, q, r, s, t, u, v, w, x, y, z), a1) => bif decide (a1 < 3) then bif !t then ix a1 u.length (lx a1 u.length ((some (gx u a1 (0, 0, [], 0, 0))).bind fun (b1, c1, d1, e1, f1) => bif decide ((w64 (s - f1)) > r) then (Kdp (gx u a1 (0, 0, [], 0, 0)).2.2.1).bind fun g1 => bif decide (c1 > g1) then (Kdm ((b1, c1, (gx u a1 (0, 0, [], 0, 0)).2.2.1, e1, f1), k)).bind fun (h1, i1, j1, k1, l1) => ix a1 u.length (lx a1 u.length ((some (sx u a1 (h1, i1, j1, k1, s))).bind fun m1 => some (.inl ((a, b, c, (), d, e, f, g, h, i, (), (), (), j, (), ()), (k, l, m, n, o, p, q, r, s, t, m1, v, w, x, y, z), w64 (a1 + 1))))) else some (.inl ((a, b, c, (), d, e, f, g, h, i, (), (), (), j, (), ()), (k, l, m, n, o, p, q, r, s, t, u, v, w, x, y, z), w64 (a1 + 1))) else some (.inl ((a, b, c, (), d, e, f, g, h, i, (), (), (), j, (), ()), (k, l, m, n, o, p, q, r, s, t, u, v, w, x, y, z), w64 (a1 + 1))))) else some (.inr ((a, b, c, (), d, e, f, g, h, i, (), (), (), j, (), ()), k, l, m, n, o, p, q, r, s, t, u, v, w, x, y, z)) else some (.inr ((a, b, c, (), d, e, f, g, h, i, (), (), (), j, (), ()), k, l, m, n, o, p, q, r, s, t, u, v, w, x, y, z))
def Kbi_n506 : NEnt := ⟨⟨70, [⟨2, .box, cc12⟩, ⟨3, .box, cc2⟩, ⟨4, .one, [.dat kI]⟩]⟩, [(.exit 0, ⟨70, [⟨2, .box, cc12⟩, ⟨3, .box, cc2⟩]⟩)], lp Kbi_s506⟩
def Kbi : t126 → Option t126
 | (a, b, c, d, e, f, g, h, i, j, k, l, m, n, o, p) => (Ka (a, b, c, d, e, f, g, h, i, j, k, l, m, n, o, p)).bind fun (q, r, s, t, u, v, w, x, y, z, a1, b1, c1, d1, e1, f1) => (Ke (a, b, c, d, e, f, g, h, i, j, k, l, m, n, o, p)).bind fun g1 => bif !g1 then some (q, r, s, t, u, v, w, x, y, z, a1, b1, c1, d1, e1, f1) else bif i == 100000 then some (q, r, s, t, u, v, w, x, y, z, a1, b1, c1, d1, e1, f1) else (Kbc ((q, r, s, t, u, v, w, x, w64 (y + 1), z, a1, b1, c1, d1, e1, f1), false)).bind fun (h1, i1, j1, k1, l1, m1, n1, o1, p1, q1, r1, s1, t1, u1, v1, w1) => (lp Kbi_s506 ((0, 0, 0, (), 0, 0, 0, 0, 0, false, (), (), (), 0, (), ()), (h1, i1, j1, k1, l1, m1, n1, o1, p1, q1, r1, s1, t1, u1, v1, w1), 0)).bind fun ((x1, y1, z1, _, a2, b2, c2, d2, e2, f2, _, _, _, g2, _, _), h2, i2, j2, k2, l2, m2, n2, o2, p2, q2, r2, s2, t2, u2, v2, w2) => some (h2, i2, j2, k2, l2, m2, n2, o2, p2, q2, r2, s2, t2, u2, v2, w2)
def Kbi_e : FEnt := ⟨68, [.cell 2 true 16], [], [(.agg, cc7)], ⟨70, [⟨2, .box, cc2⟩]⟩, Kbi⟩
theorem Kbi_ok : FnOk Tryz.prog 153 Kbi_e := fnOk_mk (tb := [(506, Kbi_n506)]) (c := (Tryz.f153.body).getD .skip) mixed Tryz.func153 (bC Ka_ok (bC Ke_ok (bC Kbc_ok (bC Kdp_ok (bC Kdm_ok bN))))) (by kernel_rfl) (by kernel_rfl) (by kernel_rfl) ⟨nodeLoop (by kernel_rfl) Kbi_s506 (by kernel_rfl) (by intro d; kernel_rfl), trivial⟩ (by intro d; kernel_rfl)
def Kbb_s122 : Unit × List Int × t13 → Option (Unit × List Int × t13 ⊕ t11)
 | (_, a, b, c, d, e, f) => bif decide (c < b) then (Kcl (d, e, f)).bind fun (g, h, i, j) => (some [0, 1, 7, 8, 100, 5000, 1000000, g, 1000001, (-1)]).bind fun k => (Ku ((h, i, j), k)).bind fun (l, m, n, o) => chk (fits (a.length + [l].length) 8) (some (.inl ((), a ++ [l], b, w64 (c + 1), m, n, o))) else some (.inr (a, d, e, f))
def Kbb_n122 : NEnt := ⟨⟨25, [⟨0, .one, [.bptr 24 0]⟩, ⟨3, .one, [.own true kI]⟩, ⟨4, .one, [.dat kI]⟩, ⟨5, .one, [.dat kI]⟩, ⟨24, .box, cc27⟩]⟩, [(.exit 0, ⟨25, [⟨3, .one, [.own true kI]⟩, ⟨24, .box, cc27⟩]⟩)], lp Kbb_s122⟩
def Kbb : List Int × Int × Int → Option t11
 | (a, b, c) => (Kg ((a, b, c), 6)).bind fun (d, e, f, g) => (lp Kbb_s122 ((), [], d, 0, e, f, g)).bind fun (h, i, j, k) => some (h, i, j, k)
def Kbb_e : FEnt := ⟨23, [.tmp 2], [true], [(.box, cc27)], ⟨25, [⟨2, .one, [.own true kI]⟩, ⟨24, .box, cc27⟩]⟩, Kbb⟩
theorem Kbb_ok : FnOk Tryz.prog 190 Kbb_e := fnOk_mk (tb := [(122, Kbb_n122)]) (c := (Tryz.f190.body).getD .skip) mixed Tryz.func190 (bC Kg_ok (bC Kcl_ok (bC Ku_ok bN))) (by kernel_rfl) (by kernel_rfl) (by kernel_rfl) ⟨nodeLoop (by kernel_rfl) Kbb_s122 (by kernel_rfl) (by intro d; kernel_rfl), trivial⟩ (by intro d; kernel_rfl)
def Kei : Unit → Option t38
 | _ => some (0, 0, 0, 0, List.replicate 8 0, List.replicate 8 0, [List.replicate 4 0, List.replicate 4 0])
def Kei_e : FEnt := ⟨7, [.cell 0 true 7], [], [], ⟨7, [⟨0, .box, cc16⟩]⟩, Kei⟩
theorem Kei_ok : FnOk Tryz.prog 95 Kei_e := fnOk_mk (tb := []) (c := (Tryz.f95.body).getD .skip) mixed Tryz.func95 bN (by kernel_rfl) (by kernel_rfl) (by kernel_rfl) trivial (by intro d; kernel_rfl)
def Kbj_s60 : Int × Int → Option (Int × Int ⊕ Int)
 | (a, b) => bif decide (a > 0) then some (.inl (w64 (Int.tdiv a 2), w64 (b + 1))) else some (.inr b)
def Kbj_n60 : NEnt := ⟨⟨18, [⟨3, .one, [.dat kI]⟩, ⟨4, .one, [.dat kI]⟩]⟩, [(.exit 0, ⟨18, [⟨4, .one, [.dat kI]⟩]⟩)], lp Kbj_s60⟩
def Kbj : Int → Option Int
 | a => (Kck (a, 1000000)).bind fun b => (lp Kbj_s60 (b, 0)).bind fun c => some (w64 (Int.tdiv (w64 (c + 2)) 3))
def Kbj_e : FEnt := ⟨16, [.tmp 2], [], [(.one, [.dat kI])], ⟨18, [⟨2, .one, [.dat kI]⟩]⟩, Kbj⟩
theorem Kbj_ok : FnOk Tryz.prog 229 Kbj_e := fnOk_mk (tb := [(60, Kbj_n60)]) (c := (Tryz.f229.body).getD .skip) mixed Tryz.func229 (bC Kck_ok bN) (by kernel_rfl) (by kernel_rfl) (by kernel_rfl) ⟨nodeLoop (by kernel_rfl) Kbj_s60 (by kernel_rfl) (by intro d; kernel_rfl), trivial⟩ (by intro d; kernel_rfl)
def Kcu : Int → Option Int
 | a => (Kck (a, 1000000)).bind fun b => (some (w64 (Int.ofNat (BitVec.toNat (BitVec.ofInt (64 : Nat) (Int.tmod (IntKind.wrap IntKind.i64 (IntKind.wrap IntKind.i64 (b * (40503 : Int)) + (12345 : Int))) (65536 : Int)) ^^^ BitVec.ofInt (64 : Nat) (IntKind.wrap IntKind.i64 (Int.tdiv (Int.tmod (IntKind.wrap IntKind.i64 (IntKind.wrap IntKind.i64 (b * (40503 : Int)) + (12345 : Int))) (65536 : Int)) (256 : Int)))))))).bind fun c => some c
def Kcu_e : FEnt := ⟨13, [.tmp 2], [], [(.one, [.dat kI])], ⟨15, [⟨2, .one, [.dat kI]⟩]⟩, Kcu⟩
theorem Kcu_ok : FnOk Tryz.prog 230 Kcu_e := fnOk_mk (tb := []) (c := (Tryz.f230.body).getD .skip) mixed Tryz.func230 (bC Kck_ok bN) (by kernel_rfl) (by kernel_rfl) (by kernel_rfl) trivial (by intro d; kernel_rfl)
def Kcf_s124 : Int × Int → Option (Int × Int ⊕ Int)
 | (a, b) => bif (Int.tmod a 2) == 0 then some (.inl (w64 (Int.tdiv a 2), w64 (b + 1))) else some (.inr b)
def Kcf_n124 : NEnt := ⟨⟨19, [⟨3, .one, [.dat kI]⟩, ⟨4, .one, [.dat kI]⟩]⟩, [(.exit 0, ⟨19, [⟨4, .one, [.dat kI]⟩]⟩)], lp Kcf_s124⟩
def Kcf : Int → Option Int
 | a => (Kcu a).bind fun b => bif b == 0 then some 17 else (lp Kcf_s124 (b, 1)).bind fun c => some c
def Kcf_e : FEnt := ⟨17, [.tmp 2], [], [(.one, [.dat kI])], ⟨19, [⟨2, .one, [.dat kI]⟩]⟩, Kcf⟩
theorem Kcf_ok : FnOk Tryz.prog 231 Kcf_e := fnOk_mk (tb := [(124, Kcf_n124)]) (c := (Tryz.f231.body).getD .skip) mixed Tryz.func231 (bC Kcu_ok bN) (by kernel_rfl) (by kernel_rfl) (by kernel_rfl) ⟨nodeLoop (by kernel_rfl) Kcf_s124 (by kernel_rfl) (by intro d; kernel_rfl), trivial⟩ (by intro d; kernel_rfl)
def Kab_s32762 : Int × t68 → Option (Int × t68 ⊕ t64)
 | (a, (b, c, d, e, _, _, _), (f, g, h, i, j, k, l), m) => bif decide (m < 2) then (Kcu a).bind fun n => ix m l.length (lx m l.length (ix m l.length (lx m l.length (ix (Int.tmod (w64 (n + m)) 4) (gx l m []).length (lx (Int.tmod (w64 (n + m)) 4) (gx l m []).length ((Kci (gx (gx l m []) (Int.tmod (w64 (n + m)) 4) 0, 1)).bind fun o => ix (Int.tmod (w64 (n + m)) 4) (gx l m []).length (lx (Int.tmod (w64 (n + m)) 4) (gx l m []).length (some (.inl (a, (b, c, d, e, (), (), ()), (f, g, h, i, j, k, sx l m (sx (gx l m []) (Int.tmod (w64 (n + m)) 4) o)), w64 (m + 1))))))))))) else some (.inr ((b, c, d, e, (), (), ()), f, g, h, i, j, k, l))
def Kab_n32762 : NEnt := ⟨⟨102, [⟨1, .one, [.dat kI]⟩, ⟨4, .box, cc23⟩, ⟨6, .box, cc16⟩, ⟨8, .one, [.dat kI]⟩]⟩, [(.exit 0, ⟨102, [⟨4, .box, cc23⟩, ⟨6, .box, cc16⟩]⟩)], lp Kab_s32762⟩
def Kab_l255 : Int × t38 × t64 → Option (t38 × Bool)
 | (a, (b, c, d, e, f, g, h), (i, j, k, l, _, _, _), m, n, o, p, q, r, s) => (Kba (e, a)).bind fun t => (Kbj a).bind fun u => (Kbj a).bind fun v => ix v q.length (lx v q.length ((Kci (gx q v 0, 1)).bind fun w => ix u q.length (lx u q.length ((Kcu a).bind fun x => ix (Int.tmod x 8) r.length (lx (Int.tmod x 8) r.length ((Kcf a).bind fun y => (Kba (gx r (Int.tmod x 8) 0, y)).bind fun z => ix (Int.tmod x 8) r.length (lx (Int.tmod x 8) r.length ((lp Kab_s32762 (a, (i, j, k, l, (), (), ()), (m, n, o, t, sx q u w, sx r (Int.tmod x 8) z, s), 0)).bind fun ((a1, b1, c1, d1, _, _, _), e1, f1, g1, h1, i1, j1, k1) => some ((e1, f1, g1, h1, i1, j1, k1), true)))))))))
def Kab_n255 : NEnt := ⟨⟨102, [⟨1, .one, [.dat kI]⟩, ⟨2, .box, cc17⟩, ⟨4, .box, cc23⟩, ⟨6, .box, cc16⟩]⟩, [(.ret, ⟨102, [⟨4, .box, cc16⟩, ⟨5, .one, [.dat .bool]⟩]⟩)], Kab_l255⟩
def Kab : t43 → Option (t38 × Bool)
 | ((a, b, c, d, e, f, g), h) => (Kal (a, b, c, d, e, f, g)).bind fun (i, j, k, l, m, n, o) => (Kas (a, b, c, d, e, f, g)).bind fun p => bif !p then some ((i, j, k, l, m, n, o), false) else (Kb (h, 0, 1000000)).bind fun q => bif !q then some ((i, j, k, l, m, n, o), false) else (Kci (a, 1)).bind fun r => (Kci (b, h)).bind fun s => (Kk (c, h)).bind fun t => bif a == 0 then (Kab_l255 (h, (a, b, c, d, e, f, g), (0, 0, 0, 0, (), (), ()), r, s, h, l, m, n, o)).bind fun ((u, v, w, x, y, z, a1), b1) => some ((u, v, w, x, y, z, a1), b1) else (Kab_l255 (h, (a, b, c, d, e, f, g), (0, 0, 0, 0, (), (), ()), r, s, t, l, m, n, o)).bind fun ((u, v, w, x, y, z, a1), b1) => some ((u, v, w, x, y, z, a1), b1)
def Kab_e : FEnt := ⟨98, [.cell 4 true 7, .tmp 5], [], [(.agg, cc17), (.one, [.dat kI])], ⟨102, [⟨4, .box, cc16⟩, ⟨5, .one, [.dat .bool]⟩]⟩, Kab⟩
theorem Kab_ok : FnOk Tryz.prog 212 Kab_e := fnOk_mk (tb := [(32762, Kab_n32762), (255, Kab_n255)]) (c := (Tryz.f212.body).getD .skip) mixed Tryz.func212 (bC Kal_ok (bC Kas_ok (bC Kb_ok (bC Kci_ok (bC Kk_ok (bC Kba_ok (bC Kbj_ok (bC Kcu_ok (bC Kcf_ok bN))))))))) (by kernel_rfl) (by kernel_rfl) (by kernel_rfl) ⟨nodeLoop (by kernel_rfl) Kab_s32762 (by kernel_rfl) (by intro d; kernel_rfl), nodeJoin (by kernel_rfl) (by intro d; kernel_rfl), trivial⟩ (by intro d; kernel_rfl)
def Kaw_s58 : List Int × t68 → Option (List Int × t68 ⊕ t64)
 | (a, (b, c, d, e, _, _, _), (f, g, h, i, j, k, l), m) => bif decide (m < (ln a)) then ix m a.length ((Kab ((f, g, h, i, j, k, l), gx a m 0)).bind fun ((n, o, p, q, r, s, t), u) => some (.inl (a, (b, c, d, e, (), (), ()), (n, o, p, q, r, s, t), w64 (m + 1)))) else some (.inr ((b, c, d, e, (), (), ()), f, g, h, i, j, k, l))
def Kaw_n58 : NEnt := ⟨⟨24, [⟨0, .one, [.dat (.list kI)]⟩, ⟨2, .box, cc23⟩, ⟨3, .box, cc16⟩, ⟨4, .one, [.dat kI]⟩]⟩, [(.exit 0, ⟨24, [⟨2, .box, cc23⟩, ⟨3, .box, cc16⟩]⟩)], lp Kaw_s58⟩
def Kaw : List Int → Option t38
 | a => (Kei ()).bind fun (b, c, d, e, f, g, h) => (lp Kaw_s58 (a, (0, 0, 0, 0, (), (), ()), (b, c, d, e, f, g, h), 0)).bind fun ((i, j, k, l, _, _, _), m, n, o, p, q, r, s) => some (m, n, o, p, q, r, s)
def Kaw_e : FEnt := ⟨22, [.cell 2 true 7], [], [(.one, [.dat (.list kI)])], ⟨24, [⟨2, .box, cc16⟩]⟩, Kaw⟩
theorem Kaw_ok : FnOk Tryz.prog 189 Kaw_e := fnOk_mk (tb := [(58, Kaw_n58)]) (c := (Tryz.f189.body).getD .skip) mixed Tryz.func189 (bC Kei_ok (bC Kab_ok bN)) (by kernel_rfl) (by kernel_rfl) (by kernel_rfl) ⟨nodeLoop (by kernel_rfl) Kaw_s58 (by kernel_rfl) (by intro d; kernel_rfl), trivial⟩ (by intro d; kernel_rfl)
def Kct : List Int × Int × Int → Option (t49 × List Int × Int × Int)
 | (a, b, c) => (Kg ((a, b, c), 8)).bind fun (d, e, f, g) => (Kg ((e, f, g), 2)).bind fun (h, i, j, k) => (Kg ((i, j, k), 2)).bind fun (l, m, n, o) => (Kg ((m, n, o), 3)).bind fun (p, q, r, s) => (Kbb (q, r, s)).bind fun (t, u, v, w) => (Kaw t).bind fun (x, y, z, a1, b1, c1, d1) => some ((w64 (1 + d), h, l, p, x, y, z, a1, b1, c1, d1), u, v, w)
def Kct_e : FEnt := ⟨16, [.cell 2 true 11], [true], [(.box, cc27)], ⟨18, [⟨2, .box, [.dat kI, .dat kI, .dat kI, .dat kI, .dat kI, .dat kI, .dat kI, .dat kI, .own true kI, .own true kI, .own true (.list kI)]⟩, ⟨17, .box, cc27⟩]⟩, Kct⟩
theorem Kct_ok : FnOk Tryz.prog 154 Kct_e := fnOk_mk (tb := []) (c := (Tryz.f154.body).getD .skip) mixed Tryz.func154 (bC Kg_ok (bC Kbb_ok (bC Kaw_ok bN))) (by kernel_rfl) (by kernel_rfl) (by kernel_rfl) trivial (by intro d; kernel_rfl)
def Kcq : t49 → Option Bool
 | (a, b, c, d, e, f, g, h, i, j, k) => (Kb (a, 1, 60)).bind fun l => bif l then (Kb (b, 0, 1)).bind fun m => bif m then (Kcw (c, d)).bind fun n => bif n then (Kas (e, f, g, h, i, j, k)).bind fun o => some o else some false else some false else some false
def Kcq_e : FEnt := ⟨23, [.tmp 2], [], [(.agg, cc14)], ⟨25, [⟨2, .one, [.dat .bool]⟩]⟩, Kcq⟩
theorem Kcq_ok : FnOk Tryz.prog 204 Kcq_e := fnOk_mk (tb := []) (c := (Tryz.f204.body).getD .skip) mixed Tryz.func204 (bC Kb_ok (bC Kcw_ok (bC Kas_ok bN))) (by kernel_rfl) (by kernel_rfl) (by kernel_rfl) trivial (by intro d; kernel_rfl)
def Kej : t49 → Option Bool
 | (a, b, c, d, e, f, g, h, i, j, k) => bif a == 0 then bif b == 0 then bif c == 0 then bif d == 0 then bif e == 0 then bif f == 0 then bif g == 0 then bif h == 0 then bif (ln i) == 0 then bif (ln j) == 0 then some ((ln k) == 0) else some false else some false else some false else some false else some false else some false else some false else some false else some false else some false
def Kej_e : FEnt := ⟨62, [.tmp 2], [], [(.agg, cc14)], ⟨64, [⟨2, .one, [.dat .bool]⟩]⟩, Kej⟩
theorem Kej_ok : FnOk Tryz.prog 213 Kej_e := fnOk_mk (tb := []) (c := (Tryz.f213.body).getD .skip) mixed Tryz.func213 bN (by kernel_rfl) (by kernel_rfl) (by kernel_rfl) trivial (by intro d; kernel_rfl)
def Kcb_s58 : t73 × Int → Option (t73 × Int ⊕ Bool ⊕ t73)
 | ((a, b, c, d, e, f, g, h, i, j, k, l, m, n, o, p), q) => bif decide (q < (ln e)) then ix q e.length ((some (gx e q (0, 0))).bind fun (r, s) => bif decide (r < 1) then some (.inr (.inl false)) else ix q e.length ((some (gx e q (0, 0))).bind fun (t, u) => bif decide (u > 60) then some (.inr (.inl false)) else some (.inl ((a, b, c, d, e, f, g, h, i, j, k, l, m, n, o, p), w64 (q + 1))))) else some (.inr (.inr (a, b, c, d, e, f, g, h, i, j, k, l, m, n, o, p)))
def Kcb_n58 : NEnt := ⟨⟨66, [⟨1, .box, cc6⟩, ⟨3, .one, [.dat kI]⟩]⟩, [(.ret, ⟨66, [⟨2, .one, [.dat .bool]⟩]⟩), (.exit 0, ⟨66, [⟨1, .box, cc6⟩]⟩)], lp Kcb_s58⟩
def Kcb : t73 → Option Bool
 | (a, b, c, d, e, f, g, h, i, j, k, l, m, n, o, p) => (Kb (a, 0, 3)).bind fun q => bif !q then some false else (Kcm b).bind fun r => bif !r then some false else (Kb (c, 0, 1000)).bind fun s => bif !s then some false else (Kb (d, 0, 60)).bind fun t => bif !t then some false else (Ky e).bind fun u => bif !u then some false else bx (lp Kcb_s58 ((a, b, c, d, e, f, g, h, i, j, k, l, m, n, o, p), 0)) (fun v => some v) fun (v, w, x, y, z, a1, b1, c1, d1, e1, f1, g1, h1, i1, j1, k1) => bif v == 1 then (Kcq (a1, b1, c1, d1, e1, f1, g1, h1, i1, j1, k1)).bind fun l1 => some l1 else (Kej (a1, b1, c1, d1, e1, f1, g1, h1, i1, j1, k1)).bind fun l1 => some l1
def Kcb_e : FEnt := ⟨64, [.tmp 2], [], [(.agg, cc6)], ⟨66, [⟨2, .one, [.dat .bool]⟩]⟩, Kcb⟩
theorem Kcb_ok : FnOk Tryz.prog 191 Kcb_e := fnOk_mk (tb := [(58, Kcb_n58)]) (c := (Tryz.f191.body).getD .skip) mixed Tryz.func191 (bC Kb_ok (bC Kcm_ok (bC Ky_ok (bC Kcq_ok (bC Kej_ok bN))))) (by kernel_rfl) (by kernel_rfl) (by kernel_rfl) ⟨nodeLoop (by kernel_rfl) Kcb_s58 (by kernel_rfl) (by intro d; kernel_rfl), trivial⟩ (by intro d; kernel_rfl)
def Kcy : t127 → Option (Int × t59)
 | ((a, b, c, d, e, f, g, h, i, j, k, l, m, n, o, p), q) => ix q k.length ((some (gx k q (0, 0, [], 0, 0))).bind fun (r, s, t, u, v) => (Kcj t).bind fun w => some (2, q, r, s, w, 0, 0, 0, 0, 0, 0, 0, 0, (), (), ()))
def Kcy_e : FEnt := ⟨20, [.cell 4 true 16], [], [(.agg, cc7), (.one, [.dat kI])], ⟨24, [⟨4, .box, cc9⟩]⟩, Kcy⟩
theorem Kcy_ok : FnOk Tryz.prog 192 Kcy_e := fnOk_mk (tb := []) (c := (Tryz.f192.body).getD .skip) mixed Tryz.func192 (bC Kcj_ok bN) (by kernel_rfl) (by kernel_rfl) (by kernel_rfl) trivial (by intro d; kernel_rfl)
def Kaf_s26 : t8 → Option (t8 ⊕ Bool ⊕ Unit)
 | (a, b, c) => bif decide (c < (ln a)) then ix c a.length ((some (gx a c (0, 0))).bind fun (d, e) => ix c a.length ((some (gx a c (0, 0))).bind fun (f, g) => (Kb (b, d, g)).bind fun h => bif h then some (.inr (.inl true)) else some (.inl (a, b, w64 (c + 1))))) else some (.inr (.inr ()))
def Kaf_n26 : NEnt := ⟨⟨28, [⟨0, .one, [.dat kk10]⟩, ⟨1, .one, [.dat kI]⟩, ⟨5, .one, [.dat kI]⟩]⟩, [(.ret, ⟨28, [⟨4, .one, [.dat .bool]⟩]⟩), (.exit 0, ⟨28, []⟩)], lp Kaf_s26⟩
def Kaf : t0 → Option Bool
 | (a, b) => bx (lp Kaf_s26 (a, b, 0)) (fun c => some c) fun _ => some false
def Kaf_e : FEnt := ⟨24, [.tmp 4], [], [(.one, [.dat kk10]), (.one, [.dat kI])], ⟨28, [⟨4, .one, [.dat .bool]⟩]⟩, Kaf⟩
theorem Kaf_ok : FnOk Tryz.prog 76 Kaf_e := fnOk_mk (tb := [(26, Kaf_n26)]) (c := (Tryz.f76.body).getD .skip) mixed Tryz.func76 (bC Kb_ok bN) (by kernel_rfl) (by kernel_rfl) (by kernel_rfl) ⟨nodeLoop (by kernel_rfl) Kaf_s26 (by kernel_rfl) (by intro d; kernel_rfl), trivial⟩ (by intro d; kernel_rfl)
def Ked : Int → Option (Int × Int)
 | a => some (a, a)
def Ked_e : FEnt := ⟨6, [.cell 2 true 2], [], [(.one, [.dat kI])], ⟨8, [⟨2, .box, cc32⟩]⟩, Ked⟩
theorem Ked_ok : FnOk Tryz.prog 214 Ked_e := fnOk_mk (tb := []) (c := (Tryz.f214.body).getD .skip) mixed Tryz.func214 bN (by kernel_rfl) (by kernel_rfl) (by kernel_rfl) trivial (by intro d; kernel_rfl)
def Kbx_l57 : Int × Int × t22 × (Int × Int × Unit × Int × Int) × t22 × Bool → Option (t22 × Int ⊕ Int × t22 × (Int × Int × Unit × Int × Int) × t22)
 | (a, b, (c, d, e, f, g), (h, i, _, j, k), (l, m, n, o, p), q) => bif q then some (.inl ((l, m, n, o, p), 4)) else bif a != c then some (.inl ((l, m, n, o, p), 2)) else (Kaf (e, b)).bind fun r => bif r then some (.inl ((l, m, n, o, p), 1)) else bif decide (b > d) then some (.inl ((l, m, n, o, p), 3)) else some (.inr (b, (c, d, e, f, g), (h, i, (), j, k), l, m, n, o, p))
def Kbx_n57 : NEnt := ⟨⟨57, [⟨2, .one, [.dat kI]⟩, ⟨3, .one, [.dat kI]⟩, ⟨4, .box, cc24⟩, ⟨8, .box, cc25⟩, ⟨10, .box, cc22⟩, ⟨13, .one, [.dat .bool]⟩]⟩, [(.ret, ⟨57, [⟨8, .box, cc22⟩, ⟨9, .one, [.dat kI]⟩]⟩), (.normal, ⟨57, [⟨3, .one, [.dat kI]⟩, ⟨4, .box, cc24⟩, ⟨8, .box, cc25⟩, ⟨10, .box, cc22⟩]⟩)], Kbx_l57⟩
def Kbx : t22 × Int × Int × Int → Option (t22 × Int)
 | ((a, b, c, d, e), f, g, h) => (Kbu (a, b, c, d, e)).bind fun (i, j, k, l, m) => (Kbl ((a, b, c, d, e), f)).bind fun n => bif !n then bx (Kbx_l57 (g, h, (a, b, c, d, e), (0, 0, (), 0, 0), (i, j, k, l, m), true)) (fun ((o, p, q, r, s), t) => some ((o, p, q, r, s), t)) fun (o, (p, q, r, s, t), (u, v, _, w, x), y, z, a1, b1, c1) => (Ked o).bind fun (d1, e1) => (Ko (r, d1, e1)).bind fun f1 => some ((y, z, f1, b1, c1), 0) else (Kb (h, 1, 60)).bind fun o => bx (Kbx_l57 (g, h, (a, b, c, d, e), (0, 0, (), 0, 0), (i, j, k, l, m), !o)) (fun ((p, q, r, s, t), u) => some ((p, q, r, s, t), u)) fun (p, (q, r, s, t, u), (v, w, _, x, y), z, a1, b1, c1, d1) => (Ked p).bind fun (e1, f1) => (Ko (s, e1, f1)).bind fun g1 => some ((z, a1, g1, c1, d1), 0)
def Kbx_e : FEnt := ⟨49, [.cell 8 true 5, .tmp 9], [], [(.agg, cc24), (.one, [.dat kI]), (.one, [.dat kI]), (.one, [.dat kI])], ⟨57, [⟨8, .box, cc22⟩, ⟨9, .one, [.dat kI]⟩]⟩, Kbx⟩
theorem Kbx_ok : FnOk Tryz.prog 193 Kbx_e := fnOk_mk (tb := [(57, Kbx_n57)]) (c := (Tryz.f193.body).getD .skip) mixed Tryz.func193 (bC Kbu_ok (bC Kbl_ok (bC Kb_ok (bC Kaf_ok (bC Ked_ok (bC Ko_ok bN)))))) (by kernel_rfl) (by kernel_rfl) (by kernel_rfl) ⟨nodeJoin (by kernel_rfl) (by intro d; kernel_rfl), trivial⟩ (by intro d; kernel_rfl)
def Kdw : Int × Int → Option Int
 | (a, b) => (Kcm a).bind fun c => bif !c then some (-1) else (Kb (b, 1, 60)).bind fun d => bif !d then some (-1) else some (w64 ((w64 (100 * a)) + b))
def Kdw_e : FEnt := ⟨17, [.tmp 4], [], [(.one, [.dat kI]), (.one, [.dat kI])], ⟨21, [⟨4, .one, [.dat kI]⟩]⟩, Kdw⟩
theorem Kdw_ok : FnOk Tryz.prog 203 Kdw_e := fnOk_mk (tb := []) (c := (Tryz.f203.body).getD .skip) mixed Tryz.func203 (bC Kcm_ok (bC Kb_ok bN)) (by kernel_rfl) (by kernel_rfl) (by kernel_rfl) trivial (by intro d; kernel_rfl)
def Kcz : Int × t49 → Option (t54 × Bool)
 | (a, b, c, d, e, f, g, h, i, j, k, l) => (Kdw (a, b)).bind fun m => (Kcq (b, c, d, e, f, g, h, i, j, k, l)).bind fun n => bif !n then some ((0, 0, [], 0, 0, 0, 0, [], [], []), false) else bif decide (m < 0) then some ((0, 0, [], 0, 0, 0, 0, [], [], []), false) else (Kal (f, g, h, i, j, k, l)).bind fun (o, p, q, r, s, t, u) => some ((d, e, [(m, m)], o, p, q, r, s, t, u), true)
def Kcz_e : FEnt := ⟨31, [.cell 4 true 10, .tmp 5], [], [(.one, [.dat kI]), (.agg, cc14)], ⟨35, [⟨4, .box, cc13⟩, ⟨5, .one, [.dat .bool]⟩]⟩, Kcz⟩
theorem Kcz_ok : FnOk Tryz.prog 160 Kcz_e := fnOk_mk (tb := []) (c := (Tryz.f160.body).getD .skip) mixed Tryz.func160 (bC Kdw_ok (bC Kcq_ok (bC Kal_ok bN))) (by kernel_rfl) (by kernel_rfl) (by kernel_rfl) trivial (by intro d; kernel_rfl)
def Kr_s3730 : t129 → Option (t129 ⊕ t128)
 | ((a, b, c, d, e, f, g, h, i, j, k, l, m, n, o, p), q, r, s) => ix r l.length ((some (gx l r [])).bind fun t => (some (decide (s < (ln t)))).bind fun u => bif u then ix r l.length ((some (gx l r [])).bind fun v => ix s v.length ((some (gx v s [])).bind fun w => some (.inl ((a, b, c, d, e, f, g, h, i, j, k, l, m, n, o, p), w64 (q + (ln w)), r, w64 (s + 1))))) else some (.inr ((a, b, c, d, e, f, g, h, i, j, k, l, m, n, o, p), q, r)))
def Kr_n3730 : NEnt := ⟨⟨38, [⟨1, .box, cc7⟩, ⟨3, .one, [.dat kI]⟩, ⟨4, .one, [.dat kI]⟩, ⟨5, .one, [.dat kI]⟩]⟩, [(.exit 2, ⟨38, [⟨1, .box, cc7⟩, ⟨3, .one, [.dat kI]⟩, ⟨4, .one, [.dat kI]⟩]⟩)], lp Kr_s3730⟩
def Kr_s58 : t128 → Option (t128 ⊕ Int)
 | ((a, b, c, d, e, f, g, h, i, j, k, l, m, n, o, p), q, r) => (some (decide (r < (ln l)))).bind fun s => bif s then (lp Kr_s3730 ((a, b, c, d, e, f, g, h, i, j, k, l, m, n, o, p), q, r, 0)).bind fun ((t, u, v, w, x, y, z, a1, b1, c1, d1, e1, f1, g1, h1, i1), j1, k1) => some (.inl ((t, u, v, w, x, y, z, a1, b1, c1, d1, e1, f1, g1, h1, i1), j1, w64 (k1 + 1))) else some (.inr q)
def Kr_n58 : NEnt := ⟨⟨38, [⟨1, .box, cc7⟩, ⟨3, .one, [.dat kI]⟩, ⟨4, .one, [.dat kI]⟩]⟩, [(.exit 0, ⟨38, [⟨3, .one, [.dat kI]⟩]⟩)], lp Kr_s58⟩
def Kr : t126 → Option Int
 | (a, b, c, d, e, f, g, h, i, j, k, l, m, n, o, p) => (lp Kr_s58 ((a, b, c, d, e, f, g, h, i, j, k, l, m, n, o, p), 0, 0)).bind fun q => some q
def Kr_e : FEnt := ⟨36, [.tmp 2], [], [(.agg, cc7)], ⟨38, [⟨2, .one, [.dat kI]⟩]⟩, Kr⟩
theorem Kr_ok : FnOk Tryz.prog 80 Kr_e := fnOk_mk (tb := [(3730, Kr_n3730), (58, Kr_n58)]) (c := (Tryz.f80.body).getD .skip) mixed Tryz.func80 bN (by kernel_rfl) (by kernel_rfl) (by kernel_rfl) ⟨nodeLoop (by kernel_rfl) Kr_s3730 (by kernel_rfl) (by intro d; kernel_rfl), nodeLoop (by kernel_rfl) Kr_s58 (by kernel_rfl) (by intro d; kernel_rfl), trivial⟩ (by intro d; kernel_rfl)
def Kby_s26 : t72 → Option (t72 ⊕ Bool ⊕ Unit)
 | (a, b, c) => (some (decide (c < (ln b)))).bind fun d => bif d then ix c b.length ((some (gx b c (0, 0, [], 0, 0, 0, 0, [], [], []))).bind fun (e, f, g, h, i, j, k, l, m, n) => (Kq (g, a)).bind fun o => bif !o then some (.inr (.inl false)) else some (.inl (a, b, w64 (c + 1)))) else some (.inr (.inr ()))
def Kby_n26 : NEnt := ⟨⟨26, [⟨1, .one, [.dat kk10]⟩, ⟨2, .box, [.dat kk4]⟩, ⟨5, .one, [.dat kI]⟩]⟩, [(.ret, ⟨26, [⟨4, .one, [.dat .bool]⟩]⟩), (.exit 0, ⟨26, []⟩)], lp Kby_s26⟩
def Kby : List t54 × List (Int × Int) → Option Bool
 | (a, b) => bx (lp Kby_s26 (b, a, 0)) (fun c => some c) fun _ => some true
def Kby_e : FEnt := ⟨22, [.tmp 4], [], [(.agg, [.dat kk4]), (.one, [.dat kk10])], ⟨26, [⟨4, .one, [.dat .bool]⟩]⟩, Kby⟩
theorem Kby_ok : FnOk Tryz.prog 215 Kby_e := fnOk_mk (tb := [(26, Kby_n26)]) (c := (Tryz.f215.body).getD .skip) mixed Tryz.func215 (bC Kq_ok bN) (by kernel_rfl) (by kernel_rfl) (by kernel_rfl) ⟨nodeLoop (by kernel_rfl) Kby_s26 (by kernel_rfl) (by intro d; kernel_rfl), trivial⟩ (by intro d; kernel_rfl)
def Kag_s122 : Bool × List t54 × t54 × Unit × t61 → Option (Bool × List t54 × t54 × Unit × t61 ⊕ List t54 × Bool ⊕ List t54 × t54 × Unit × List t54)
 | (a, b, (c, d, e, f, g, h, i, j, k, l), _, m, n) => (some (decide (n < (ln m)))).bind fun o => bif o then bif a then ix n m.length (lx n m.length ((some (gx m n (0, 0, [], 0, 0, 0, 0, [], [], []))).bind fun (p, q, r, s, t, u, v, w, x, y) => bif p == c then ix n m.length (lx n m.length ((some (gx m n (0, 0, [], 0, 0, 0, 0, [], [], []))).bind fun (z, a1, b1, c1, d1, e1, f1, g1, h1, i1) => bif a1 == d then ix n m.length (lx n m.length ((some (gx m n (0, 0, [], 0, 0, 0, 0, [], [], []))).bind fun (j1, k1, l1, m1, n1, o1, p1, q1, r1, s1) => (Kcn ((j1, k1, (gx m n (0, 0, [], 0, 0, 0, 0, [], [], [])).2.2.1, m1, n1, o1, p1, (gx m n (0, 0, [], 0, 0, 0, 0, [], [], [])).2.2.2.2.2.2.2.1, (gx m n (0, 0, [], 0, 0, 0, 0, [], [], [])).2.2.2.2.2.2.2.2.1, (gx m n (0, 0, [], 0, 0, 0, 0, [], [], [])).2.2.2.2.2.2.2.2.2), c, d, e, f, g, h, i, j, k, l)).bind fun (t1, u1, v1, w1, x1, y1, z1, a2, b2, c2) => ix n m.length (lx n m.length ((some (sx m n (t1, u1, v1, w1, x1, y1, z1, a2, b2, c2))).bind fun d2 => some (.inr (.inl (d2, true))))))) else some (.inl (a, b, (c, d, e, f, g, h, i, j, k, l), (), m, w64 (n + 1))))) else some (.inl (a, b, (c, d, e, f, g, h, i, j, k, l), (), m, w64 (n + 1))))) else some (.inr (.inr (b, (c, d, e, f, g, h, i, j, k, l), (), m))) else some (.inr (.inr (b, (c, d, e, f, g, h, i, j, k, l), (), m)))
def Kag_n122 : NEnt := ⟨⟨89, [⟨2, .one, [.dat .bool]⟩, ⟨3, .box, [.dat kk4]⟩, ⟨4, .box, cc15⟩, ⟨6, .box, [.nil]⟩, ⟨8, .box, [.own true kk5]⟩, ⟨9, .one, [.dat kI]⟩]⟩, [(.ret, ⟨89, [⟨6, .box, [.own true kk5]⟩, ⟨7, .one, [.dat .bool]⟩]⟩), (.exit 0, ⟨89, [⟨3, .box, [.dat kk4]⟩, ⟨4, .box, cc15⟩, ⟨6, .box, [.nil]⟩, ⟨8, .box, [.own true kk5]⟩]⟩)], lp Kag_s122⟩
def Kag : List t54 × t54 × Bool → Option (List t54 × Bool)
 | (a, (b, c, d, e, f, g, h, i, j, k), l) => (Kao a).bind fun m => (Kn a).bind fun n => bif !n then some (m, false) else (Kbk (b, c, d, e, f, g, h, i, j, k)).bind fun o => bif !o then some (m, false) else (Kby (a, d)).bind fun p => bif !p then some (m, false) else bx (lp Kag_s122 (l, a, (b, c, d, e, f, g, h, i, j, k), (), m, 0)) (fun (q, r) => some (q, r)) fun (q, (r, s, t, u, v, w, x, y, z, a1), _, b1) => bif (ln q) == 24 then some (b1, false) else (Kaj (r, s, t, u, v, w, x, y, z, a1)).bind fun (c1, d1, e1, f1, g1, h1, i1, j1, k1, l1) => (some [(c1, d1, e1, f1, g1, h1, i1, j1, k1, l1)]).bind fun m1 => chk (fits (b1.length + m1.length) 144) ((some (b1 ++ m1)).bind fun n1 => some (n1, true))
def Kag_e : FEnt := ⟨83, [.cell 6 true 1, .tmp 7], [], [(.agg, [.dat kk4]), (.agg, cc15), (.one, [.dat .bool])], ⟨89, [⟨6, .box, [.own true kk5]⟩, ⟨7, .one, [.dat .bool]⟩]⟩, Kag⟩
theorem Kag_ok : FnOk Tryz.prog 194 Kag_e := fnOk_mk (tb := [(122, Kag_n122)]) (c := (Tryz.f194.body).getD .skip) mixed Tryz.func194 (bC Kao_ok (bC Kn_ok (bC Kbk_ok (bC Kby_ok (bC Kcn_ok (bC Kaj_ok bN)))))) (by kernel_rfl) (by kernel_rfl) (by kernel_rfl) ⟨nodeLoop (by kernel_rfl) Kag_s122 (by kernel_rfl) (by intro d; kernel_rfl), trivial⟩ (by intro d; kernel_rfl)
def Kt_l511 : t73 × t57 × (Int × Int × Int × Int × Unit × t40) × t127 → Option (t126 × (Int × t59) × Int)
 | ((a, b, c, d, e, f, g, h, i, j, k, l, m, n, o, p), (q, r, s, _, t, u, v, w, x, y, _, _, _, z, _, _), (a1, b1, c1, d1, _, e1, f1, g1, h1, i1, j1, k1, l1, _, _, _), (m1, n1, o1, p1, q1, r1, s1, t1, u1, v1, w1, x1, y1, z1, a2, b2), c2) => (Kcy ((m1, n1, o1, p1, q1, r1, s1, t1, u1, v1, w1, x1, y1, z1, a2, b2), b)).bind fun (d2, e2, f2, g2, h2, i2, j2, k2, l2, m2, n2, o2, p2, _, _, _) => some ((m1, n1, o1, p1, q1, r1, s1, t1, u1, v1, w1, x1, y1, z1, a2, b2), (d2, e2, f2, g2, h2, i2, j2, k2, l2, m2, n2, o2, p2, (), (), ()), c2)
def Kt_n511 : NEnt := ⟨⟨157, [⟨3, .box, cc6⟩, ⟨4, .box, cc12⟩, ⟨5, .box, cc11⟩, ⟨7, .box, cc3⟩, ⟨10, .one, [.dat kI]⟩]⟩, [(.ret, ⟨157, [⟨4, .box, cc3⟩, ⟨5, .box, cc9⟩, ⟨6, .one, [.dat kI]⟩]⟩)], Kt_l511⟩
def Kt_l15 : t73 × t57 × (Int × Int × Int × Int × Unit × t40) × t126 → Option (t126 × (Int × t59) × Int)
 | ((a, b, c, d, e, f, g, h, i, j, k, l, m, n, o, p), (q, r, s, _, t, u, v, w, x, y, _, _, _, z, _, _), (a1, b1, c1, d1, _, e1, f1, g1, h1, i1, j1, k1, l1, _, _, _), m1, n1, o1, p1, q1, r1, s1, t1, u1, v1, w1, x1, y1, z1, a2, b2) => ix b w1.length (lx b w1.length ((some (sx w1 b ((gx w1 b (0, 0, [], 0, 0)).1, (gx w1 b (0, 0, [], 0, 0)).2.1, (gx w1 b (0, 0, [], 0, 0)).2.2.1, (gx w1 b (0, 0, [], 0, 0)).2.2.2.1, u1))).bind fun c2 => bif a == 0 then bif !v1 then ix b c2.length (lx b c2.length ((some (gx c2 b (0, 0, [], 0, 0))).bind fun (d2, e2, f2, g2, h2) => (Kcp ((d2, e2, (gx c2 b (0, 0, [], 0, 0)).2.2.1, g2, h2), m1)).bind fun (i2, j2, k2, l2, m2) => ix b c2.length (lx b c2.length ((some (sx c2 b (i2, j2, k2, l2, m2))).bind fun n2 => (Kcy ((m1, n1, o1, p1, q1, r1, s1, t1, u1, v1, n2, x1, y1, z1, a2, b2), b)).bind fun (o2, p2, q2, r2, s2, t2, u2, v2, w2, x2, y2, z2, a3, _, _, _) => some ((m1, n1, o1, p1, q1, r1, s1, t1, u1, v1, n2, x1, y1, z1, a2, b2), (o2, p2, q2, r2, s2, t2, u2, v2, w2, x2, y2, z2, a3, (), (), ()), 2))))) else (Kcy ((m1, n1, o1, p1, q1, r1, s1, t1, u1, v1, c2, x1, y1, z1, a2, b2), b)).bind fun (d2, e2, f2, g2, h2, i2, j2, k2, l2, m2, n2, o2, p2, _, _, _) => some ((m1, n1, o1, p1, q1, r1, s1, t1, u1, v1, c2, x1, y1, z1, a2, b2), (d2, e2, f2, g2, h2, i2, j2, k2, l2, m2, n2, o2, p2, (), (), ()), 2) else ix b c2.length (lx b c2.length ((some (gx c2 b (0, 0, [], 0, 0))).bind fun (d2, e2, f2, g2, h2) => (Kbx ((d2, e2, (gx c2 b (0, 0, [], 0, 0)).2.2.1, g2, h2), m1, c, f)).bind fun ((i2, j2, k2, l2, m2), n2) => bif n2 == 2 then (Kt_l511 ((a, b, c, d, e, f, g, h, i, j, k, l, m, n, o, p), (q, r, s, (), t, u, v, w, x, y, (), (), (), z, (), ()), (a1, b1, c1, d1, (), e1, f1, g1, h1, i1, j1, k1, l1, (), (), ()), (m1, n1, o1, p1, q1, r1, s1, t1, u1, v1, c2, x1, y1, z1, a2, b2), 3)).bind fun ((o2, p2, q2, r2, s2, t2, u2, v2, w2, x2, y2, z2, a3, b3, c3, d3), (e3, f3, g3, h3, i3, j3, k3, l3, m3, n3, o3, p3, q3, _, _, _), r3) => some ((o2, p2, q2, r2, s2, t2, u2, v2, w2, x2, y2, z2, a3, b3, c3, d3), (e3, f3, g3, h3, i3, j3, k3, l3, m3, n3, o3, p3, q3, (), (), ()), r3) else bif n2 == 1 then (Kt_l511 ((a, b, c, d, e, f, g, h, i, j, k, l, m, n, o, p), (q, r, s, (), t, u, v, w, x, y, (), (), (), z, (), ()), (a1, b1, c1, d1, (), e1, f1, g1, h1, i1, j1, k1, l1, (), (), ()), (m1, n1, o1, p1, q1, r1, s1, t1, u1, v1, c2, x1, y1, z1, a2, b2), 1)).bind fun ((o2, p2, q2, r2, s2, t2, u2, v2, w2, x2, y2, z2, a3, b3, c3, d3), (e3, f3, g3, h3, i3, j3, k3, l3, m3, n3, o3, p3, q3, _, _, _), r3) => some ((o2, p2, q2, r2, s2, t2, u2, v2, w2, x2, y2, z2, a3, b3, c3, d3), (e3, f3, g3, h3, i3, j3, k3, l3, m3, n3, o3, p3, q3, (), (), ()), r3) else bif n2 == 3 then (Kt_l511 ((a, b, c, d, e, f, g, h, i, j, k, l, m, n, o, p), (q, r, s, (), t, u, v, w, x, y, (), (), (), z, (), ()), (a1, b1, c1, d1, (), e1, f1, g1, h1, i1, j1, k1, l1, (), (), ()), (m1, n1, o1, p1, q1, r1, s1, t1, u1, v1, c2, x1, y1, z1, a2, b2), 4)).bind fun ((o2, p2, q2, r2, s2, t2, u2, v2, w2, x2, y2, z2, a3, b3, c3, d3), (e3, f3, g3, h3, i3, j3, k3, l3, m3, n3, o3, p3, q3, _, _, _), r3) => some ((o2, p2, q2, r2, s2, t2, u2, v2, w2, x2, y2, z2, a3, b3, c3, d3), (e3, f3, g3, h3, i3, j3, k3, l3, m3, n3, o3, p3, q3, (), (), ()), r3) else bif n2 == 0 then bif v1 then (Kt_l511 ((a, b, c, d, e, f, g, h, i, j, k, l, m, n, o, p), (q, r, s, (), t, u, v, w, x, y, (), (), (), z, (), ()), (a1, b1, c1, d1, (), e1, f1, g1, h1, i1, j1, k1, l1, (), (), ()), (m1, n1, o1, p1, q1, r1, s1, t1, u1, v1, c2, x1, y1, z1, a2, b2), 5)).bind fun ((o2, p2, q2, r2, s2, t2, u2, v2, w2, x2, y2, z2, a3, b3, c3, d3), (e3, f3, g3, h3, i3, j3, k3, l3, m3, n3, o3, p3, q3, _, _, _), r3) => some ((o2, p2, q2, r2, s2, t2, u2, v2, w2, x2, y2, z2, a3, b3, c3, d3), (e3, f3, g3, h3, i3, j3, k3, l3, m3, n3, o3, p3, q3, (), (), ()), r3) else (Kcz (b, f, g, h, i, j, k, l, m, n, o, p)).bind fun ((o2, p2, q2, r2, s2, t2, u2, v2, w2, x2), y2) => ix b x1.length (lx b x1.length (ix g (gx x1 b []).length (lx g (gx x1 b []).length ((Kr (m1, n1, o1, p1, q1, r1, s1, t1, u1, v1, c2, x1, y1, z1, a2, b2)).bind fun z2 => (Kag (gx (gx x1 b []) g [], (o2, p2, q2, r2, s2, t2, u2, v2, w2, x2), decide (z2 ≥ q1))).bind fun (a3, b3) => ix b x1.length (lx b x1.length (ix g (gx x1 b []).length (lx g (gx x1 b []).length ((some (sx x1 b (sx (gx x1 b []) g a3))).bind fun c3 => ix b c2.length (lx b c2.length ((some (sx c2 b (i2, j2, k2, l2, m2))).bind fun d3 => (Kt_l511 ((a, b, c, d, e, f, g, h, i, j, k, l, m, n, o, p), (q, r, s, (), t, u, v, w, x, y, (), (), (), z, (), ()), (a1, b1, c1, d1, (), e1, f1, g1, h1, i1, j1, k1, l1, (), (), ()), (m1, n1, o1, p1, q1, r1, s1, t1, u1, v1, d3, c3, y1, z1, a2, b2), 0)).bind fun ((e3, f3, g3, h3, i3, j3, k3, l3, m3, n3, o3, p3, q3, r3, s3, t3), (u3, v3, w3, x3, y3, z3, a4, b4, c4, d4, e4, f4, g4, _, _, _), h4) => some ((e3, f3, g3, h3, i3, j3, k3, l3, m3, n3, o3, p3, q3, r3, s3, t3), (u3, v3, w3, x3, y3, z3, a4, b4, c4, d4, e4, f4, g4, (), (), ()), h4))))))))))) else (Kt_l511 ((a, b, c, d, e, f, g, h, i, j, k, l, m, n, o, p), (q, r, s, (), t, u, v, w, x, y, (), (), (), z, (), ()), (a1, b1, c1, d1, (), e1, f1, g1, h1, i1, j1, k1, l1, (), (), ()), (m1, n1, o1, p1, q1, r1, s1, t1, u1, v1, c2, x1, y1, z1, a2, b2), 0)).bind fun ((o2, p2, q2, r2, s2, t2, u2, v2, w2, x2, y2, z2, a3, b3, c3, d3), (e3, f3, g3, h3, i3, j3, k3, l3, m3, n3, o3, p3, q3, _, _, _), r3) => some ((o2, p2, q2, r2, s2, t2, u2, v2, w2, x2, y2, z2, a3, b3, c3, d3), (e3, f3, g3, h3, i3, j3, k3, l3, m3, n3, o3, p3, q3, (), (), ()), r3)))))
def Kt_n15 : NEnt := ⟨⟨157, [⟨3, .box, cc6⟩, ⟨4, .box, cc12⟩, ⟨5, .box, cc11⟩, ⟨7, .box, cc3⟩]⟩, [(.ret, ⟨157, [⟨4, .box, cc3⟩, ⟨5, .box, cc9⟩, ⟨6, .one, [.dat kI]⟩]⟩)], Kt_l15⟩
def Kt : t126 × t73 → Option (t126 × (Int × t59) × Int)
 | ((a, b, c, d, e, f, g, h, i, j, k, l, m, n, o, p), q, r, s, t, u, v, w, x, y, z, a1, b1, c1, d1, e1, f1) => (Ka (a, b, c, d, e, f, g, h, i, j, k, l, m, n, o, p)).bind fun (g1, h1, i1, j1, k1, l1, m1, n1, o1, p1, q1, r1, s1, t1, u1, v1) => (Ke (a, b, c, d, e, f, g, h, i, j, k, l, m, n, o, p)).bind fun w1 => bif !w1 then some ((g1, h1, i1, j1, k1, l1, m1, n1, o1, p1, q1, r1, s1, t1, u1, v1), (0, 0, 0, 0, [], 0, 0, 0, 0, 0, 0, 0, 0, (), (), ()), 6) else (Kcb (q, r, s, t, u, v, w, x, y, z, a1, b1, c1, d1, e1, f1)).bind fun x1 => bif !x1 then some ((g1, h1, i1, j1, k1, l1, m1, n1, o1, p1, q1, r1, s1, t1, u1, v1), (0, 0, 0, 0, [], 0, 0, 0, 0, 0, 0, 0, 0, (), (), ()), 6) else bif q != 0 then bif q != 1 then some ((g1, h1, i1, j1, k1, l1, m1, n1, o1, p1, q1, r1, s1, t1, u1, v1), (0, 0, 0, 0, [], 0, 0, 0, 0, 0, 0, 0, 0, (), (), ()), 6) else (Kt_l15 ((q, r, s, t, u, v, w, x, y, z, a1, b1, c1, d1, e1, f1), (0, 0, 0, (), 0, 0, 0, 0, 0, false, (), (), (), 0, (), ()), (0, 0, 0, 0, (), 0, 0, 0, 0, 0, 0, 0, 0, (), (), ()), g1, h1, i1, j1, k1, l1, m1, n1, o1, p1, q1, r1, s1, t1, u1, v1)).bind fun ((y1, z1, a2, b2, c2, d2, e2, f2, g2, h2, i2, j2, k2, l2, m2, n2), (o2, p2, q2, r2, s2, t2, u2, v2, w2, x2, y2, z2, a3, _, _, _), b3) => some ((y1, z1, a2, b2, c2, d2, e2, f2, g2, h2, i2, j2, k2, l2, m2, n2), (o2, p2, q2, r2, s2, t2, u2, v2, w2, x2, y2, z2, a3, (), (), ()), b3) else (Kt_l15 ((q, r, s, t, u, v, w, x, y, z, a1, b1, c1, d1, e1, f1), (0, 0, 0, (), 0, 0, 0, 0, 0, false, (), (), (), 0, (), ()), (0, 0, 0, 0, (), 0, 0, 0, 0, 0, 0, 0, 0, (), (), ()), g1, h1, i1, j1, k1, l1, m1, n1, o1, p1, q1, r1, s1, t1, u1, v1)).bind fun ((y1, z1, a2, b2, c2, d2, e2, f2, g2, h2, i2, j2, k2, l2, m2, n2), (o2, p2, q2, r2, s2, t2, u2, v2, w2, x2, y2, z2, a3, _, _, _), b3) => some ((y1, z1, a2, b2, c2, d2, e2, f2, g2, h2, i2, j2, k2, l2, m2, n2), (o2, p2, q2, r2, s2, t2, u2, v2, w2, x2, y2, z2, a3, (), (), ()), b3)
def Kt_e : FEnt := ⟨153, [.cell 4 true 16, .cell 5 true 16, .tmp 6], [], [(.agg, cc7), (.agg, cc6)], ⟨157, [⟨4, .box, cc3⟩, ⟨5, .box, cc9⟩, ⟨6, .one, [.dat kI]⟩]⟩, Kt⟩
theorem Kt_ok : FnOk Tryz.prog 155 Kt_e := fnOk_mk (tb := [(511, Kt_n511), (15, Kt_n15)]) (c := (Tryz.f155.body).getD .skip) mixed Tryz.func155 (bC Ka_ok (bC Ke_ok (bC Kcb_ok (bC Kcp_ok (bC Kcy_ok (bC Kbx_ok (bC Kcz_ok (bC Kr_ok (bC Kag_ok bN))))))))) (by kernel_rfl) (by kernel_rfl) (by kernel_rfl) ⟨nodeJoin (by kernel_rfl) (by intro d; kernel_rfl), nodeJoin (by kernel_rfl) (by intro d; kernel_rfl), trivial⟩ (by intro d; kernel_rfl)
def Kbv_s122 : Unit × t57 × t126 × t13 → Option (Unit × t57 × t126 × t13 ⊕ t57 × t126 × List Int × Int × Int)
 | (_, (a, b, c, _, d, e, f, g, h, i, _, _, _, j, _, _), (k, l, m, n, o, p, q, r, s, t, u, v, w, x, y, z), a1, b1, c1, d1, e1) => bif decide (b1 < a1) then (Kg ((c1, d1, e1), 3)).bind fun (f1, g1, h1, i1) => (Kg ((g1, h1, i1), 6)).bind fun (j1, k1, l1, m1) => bif j1 == 0 then (Kdz (k, l, m, n, o, p, q, r, s, t, u, v, w, x, y, z)).bind fun ((n1, o1, p1, q1, r1, s1, t1, u1, v1, w1, x1, y1, z1, a2, b2, c2), d2) => some (.inl ((), (a, b, c, (), d, e, f, g, h, i, (), (), (), j, (), ()), (n1, o1, p1, q1, r1, s1, t1, u1, v1, w1, x1, y1, z1, a2, b2, c2), a1, w64 (b1 + 1), k1, l1, m1)) else bif j1 == 1 then (Kbi (k, l, m, n, o, p, q, r, s, t, u, v, w, x, y, z)).bind fun (n1, o1, p1, q1, r1, s1, t1, u1, v1, w1, x1, y1, z1, a2, b2, c2) => some (.inl ((), (a, b, c, (), d, e, f, g, h, i, (), (), (), j, (), ()), (n1, o1, p1, q1, r1, s1, t1, u1, v1, w1, x1, y1, z1, a2, b2, c2), a1, w64 (b1 + 1), k1, l1, m1)) else (Kct (k1, l1, m1)).bind fun ((n1, o1, p1, q1, r1, s1, t1, u1, v1, w1, x1), y1, z1, a2) => ix f1 u.length (lx f1 u.length ((some (gx u f1 (0, 0, [], 0, 0))).bind fun (b2, c2, d2, e2, f2) => (Kt ((k, l, m, n, o, p, q, r, s, t, u, v, w, x, y, z), 1, f1, b2, 0, [], n1, o1, p1, q1, r1, s1, t1, u1, v1, w1, x1)).bind fun ((g2, h2, i2, j2, k2, l2, m2, n2, o2, p2, q2, r2, s2, t2, u2, v2), (w2, x2, y2, z2, a3, b3, c3, d3, e3, f3, g3, h3, i3, _, _, _), j3) => some (.inl ((), (a, b, c, (), d, e, f, g, h, i, (), (), (), j, (), ()), (g2, h2, i2, j2, k2, l2, m2, n2, o2, p2, q2, r2, s2, t2, u2, v2), a1, w64 (b1 + 1), y1, z1, a2)))) else some (.inr ((a, b, c, (), d, e, f, g, h, i, (), (), (), j, (), ()), (k, l, m, n, o, p, q, r, s, t, u, v, w, x, y, z), c1, d1, e1))
def Kbv_n122 : NEnt := ⟨⟨59, [⟨0, .one, [.bptr 58 0]⟩, ⟨2, .box, cc12⟩, ⟨3, .box, cc0⟩, ⟨5, .one, [.dat kI]⟩, ⟨6, .one, [.dat kI]⟩, ⟨58, .box, cc27⟩]⟩, [(.exit 0, ⟨59, [⟨2, .box, cc12⟩, ⟨3, .box, cc0⟩, ⟨58, .box, cc27⟩]⟩)], lp Kbv_s122⟩
def Kbv : List Int × Int × Int → Option (t126 × List Int × Int × Int)
 | (a, b, c) => (Kdt (a, b, c)).bind fun ((d, e, f, g, h, i, j, k), l, m, n) => (Kaa (d, e, f, g, h, i, j, k)).bind fun ((o, p, q, r, s, t, u, v, w, x, y, z, a1, b1, _, _), c1) => (Kg ((l, m, n), 14)).bind fun (d1, e1, f1, g1) => (lp Kbv_s122 ((), (0, 0, 0, (), 0, 0, 0, 0, 0, false, (), (), (), 0, (), ()), (o, p, q, r, s, t, u, v, w, x, y, z, a1, b1, [], []), d1, 0, e1, f1, g1)).bind fun ((h1, i1, j1, _, k1, l1, m1, n1, o1, p1, _, _, _, q1, _, _), (r1, s1, t1, u1, v1, w1, x1, y1, z1, a2, b2, c2, d2, e2, f2, g2), h2, i2, j2) => some ((r1, s1, t1, u1, v1, w1, x1, y1, z1, a2, b2, c2, d2, e2, f2, g2), h2, i2, j2)
def Kbv_e : FEnt := ⟨57, [.cell 2 true 16], [true], [(.box, cc27)], ⟨59, [⟨2, .box, cc0⟩, ⟨58, .box, cc27⟩]⟩, Kbv⟩
theorem Kbv_ok : FnOk Tryz.prog 104 Kbv_e := fnOk_mk (tb := [(122, Kbv_n122)]) (c := (Tryz.f104.body).getD .skip) mixed Tryz.func104 (bC Kdt_ok (bC Kaa_ok (bC Kg_ok (bC Kdz_ok (bC Kbi_ok (bC Kct_ok (bC Kt_ok bN))))))) (by kernel_rfl) (by kernel_rfl) (by kernel_rfl) ⟨nodeLoop (by kernel_rfl) Kbv_s122 (by kernel_rfl) (by intro d; kernel_rfl), trivial⟩ (by intro d; kernel_rfl)
def Kam : (List Int × Int × Int) × Int → Option (Bool × List Int × Int × Int)
 | ((a, b, c), d) => (Kg ((a, b, c), d)).bind fun (e, f, g, h) => some (e == 0, f, g, h)
def Kam_e : FEnt := ⟨9, [.tmp 4], [true, false], [(.box, cc27), (.one, [.dat kI])], ⟨13, [⟨4, .one, [.dat .bool]⟩, ⟨10, .box, cc27⟩]⟩, Kam⟩
theorem Kam_ok : FnOk Tryz.prog 105 Kam_e := fnOk_mk (tb := []) (c := (Tryz.f105.body).getD .skip) mixed Tryz.func105 (bC Kg_ok bN) (by kernel_rfl) (by kernel_rfl) (by kernel_rfl) trivial (by intro d; kernel_rfl)
def Kcd_s60 : t57 × t126 → Option (t57 × t126 ⊕ t126 ⊕ t57 × t126)
 | ((a, b, c, _, d, e, f, g, h, i, _, _, _, j, _, _), k, l, m, n, o, p, q, r, s, t, u, v, w, x, y, z) => (Kr (k, l, m, n, o, p, q, r, s, t, u, v, w, x, y, z)).bind fun a1 => bif decide (a1 > 0) then (Kdb (k, l, m, n, o, p, q, r, s, t, u, v, w, x, y, z)).bind fun ((b1, c1, d1, e1, f1, g1, h1, i1, j1, k1, l1, m1, n1, o1, p1, q1), r1) => bif !r1 then some (.inr (.inl (k, l, m, n, o, p, q, r, s, t, u, v, w, x, y, z))) else some (.inl ((a, b, c, (), d, e, f, g, h, i, (), (), (), j, (), ()), b1, c1, d1, e1, f1, g1, h1, i1, j1, k1, l1, m1, n1, o1, p1, q1)) else some (.inr (.inr ((a, b, c, (), d, e, f, g, h, i, (), (), (), j, (), ()), k, l, m, n, o, p, q, r, s, t, u, v, w, x, y, z)))
def Kcd_n60 : NEnt := ⟨⟨27, [⟨2, .box, cc12⟩, ⟨3, .box, cc1⟩]⟩, [(.ret, ⟨27, [⟨2, .box, cc7⟩]⟩), (.exit 0, ⟨27, [⟨2, .box, cc12⟩, ⟨3, .box, cc1⟩]⟩)], lp Kcd_s60⟩
def Kcd : t126 → Option t126
 | (a, b, c, d, e, f, g, h, i, j, k, l, m, n, o, p) => (Ka (a, b, c, d, e, f, g, h, i, j, k, l, m, n, o, p)).bind fun (q, r, s, t, u, v, w, x, y, z, a1, b1, c1, d1, e1, f1) => (Ke (a, b, c, d, e, f, g, h, i, j, k, l, m, n, o, p)).bind fun g1 => bif !g1 then some (q, r, s, t, u, v, w, x, y, z, a1, b1, c1, d1, e1, f1) else bx (lp Kcd_s60 ((0, 0, 0, (), 0, 0, 0, 0, 0, false, (), (), (), 0, (), ()), q, r, s, t, u, v, w, x, y, z, a1, b1, c1, d1, e1, f1)) (fun (h1, i1, j1, k1, l1, m1, n1, o1, p1, q1, r1, s1, t1, u1, v1, w1) => some (h1, i1, j1, k1, l1, m1, n1, o1, p1, q1, r1, s1, t1, u1, v1, w1)) fun ((h1, i1, j1, _, k1, l1, m1, n1, o1, p1, _, _, _, q1, _, _), r1, s1, t1, u1, v1, w1, x1, y1, z1, a2, b2, c2, d2, e2, f2, g2) => some (r1, s1, t1, u1, v1, w1, x1, y1, z1, a2, b2, c2, d2, e2, f2, g2)
def Kcd_e : FEnt := ⟨25, [.cell 2 true 16], [], [(.agg, cc7)], ⟨27, [⟨2, .box, cc7⟩]⟩, Kcd⟩
theorem Kcd_ok : FnOk Tryz.prog 107 Kcd_e := fnOk_mk (tb := [(60, Kcd_n60)]) (c := (Tryz.f107.body).getD .skip) mixed Tryz.func107 (bC Ka_ok (bC Ke_ok (bC Kr_ok (bC Kdb_ok bN)))) (by kernel_rfl) (by kernel_rfl) (by kernel_rfl) ⟨nodeLoop (by kernel_rfl) Kcd_s60 (by kernel_rfl) (by intro d; kernel_rfl), trivial⟩ (by intro d; kernel_rfl)
def Kea : t126 → Option t126
 | (a, b, c, d, e, f, g, h, i, j, k, l, m, n, o, p) => (Ke (a, b, c, d, e, f, g, h, i, j, k, l, m, n, o, p)).bind fun q => bif !q then (Ka (a, b, c, d, e, f, g, h, i, j, k, l, m, n, o, p)).bind fun (r, s, t, u, v, w, x, y, z, a1, b1, c1, d1, e1, f1, g1) => some (r, s, t, u, v, w, x, y, z, a1, b1, c1, d1, e1, f1, g1) else (Kbc ((a, b, c, d, e, f, g, h, i, j, k, l, m, n, o, p), true)).bind fun (r, s, t, u, v, w, x, y, z, a1, b1, c1, d1, e1, f1, g1) => some (r, s, t, u, v, w, x, y, z, a1, b1, c1, d1, e1, f1, g1)
def Kea_e : FEnt := ⟨10, [.cell 2 true 16], [], [(.agg, cc7)], ⟨12, [⟨2, .box, cc2⟩]⟩, Kea⟩
theorem Kea_ok : FnOk Tryz.prog 106 Kea_e := fnOk_mk (tb := []) (c := (Tryz.f106.body).getD .skip) mixed Tryz.func106 (bC Ke_ok (bC Ka_ok (bC Kbc_ok bN))) (by kernel_rfl) (by kernel_rfl) (by kernel_rfl) trivial (by intro d; kernel_rfl)
def Kbm_s122 : Unit × List (Int × Int) × t13 → Option (Unit × List (Int × Int) × t13 ⊕ t21)
 | (_, a, b, c, d, e, f) => bif decide (c < b) then (Kg ((d, e, f), 20)).bind fun (g, h, i, j) => (Kg ((h, i, j), 20)).bind fun (k, l, m, n) => (Kg ((l, m, n), 10)).bind fun (o, p, q, r) => (Ku ((p, q, r), [g, k, w64 (9990 + o)])).bind fun (s, t, u, v) => (Kg ((t, u, v), 3)).bind fun (w, x, y, z) => (Kk (w64 (s + w), 9999)).bind fun a1 => (Ko (a, s, a1)).bind fun b1 => some (.inl ((), b1, b, w64 (c + 1), x, y, z)) else some (.inr (a, d, e, f))
def Kbm_n122 : NEnt := ⟨⟨37, [⟨0, .one, [.bptr 36 0]⟩, ⟨3, .one, cc31⟩, ⟨4, .one, [.dat kI]⟩, ⟨5, .one, [.dat kI]⟩, ⟨36, .box, cc27⟩]⟩, [(.exit 0, ⟨37, [⟨3, .one, cc31⟩, ⟨36, .box, cc27⟩]⟩)], lp Kbm_s122⟩
def Kbm : List Int × Int × Int → Option t21
 | (a, b, c) => (Kg ((a, b, c), 7)).bind fun (d, e, f, g) => (lp Kbm_s122 ((), [], d, 0, e, f, g)).bind fun (h, i, j, k) => some (h, i, j, k)
def Kbm_e : FEnt := ⟨35, [.tmp 2], [true], [(.box, cc27)], ⟨37, [⟨2, .one, cc31⟩, ⟨36, .box, cc27⟩]⟩, Kbm⟩
theorem Kbm_ok : FnOk Tryz.prog 205 Kbm_e := fnOk_mk (tb := [(122, Kbm_n122)]) (c := (Tryz.f205.body).getD .skip) mixed Tryz.func205 (bC Kg_ok (bC Ku_ok (bC Kk_ok (bC Ko_ok bN)))) (by kernel_rfl) (by kernel_rfl) (by kernel_rfl) ⟨nodeLoop (by kernel_rfl) Kbm_s122 (by kernel_rfl) (by intro d; kernel_rfl), trivial⟩ (by intro d; kernel_rfl)
def Kdk : List Int × Int × Int → Option t21
 | (a, b, c) => (Kbm (a, b, c)).bind fun (d, e, f, g) => (Kam ((e, f, g), 8)).bind fun (h, i, j, k) => bif h then (Ku ((i, j, k), [(-1), 3, 10000])).bind fun (l, m, n, o) => (Ku ((m, n, o), [5, 10000, 9223372036854775807])).bind fun (p, q, r, s) => chk (fits (d.length + [(l, p)].length) 16) (some (d ++ [(l, p)], q, r, s)) else some (d, i, j, k)
def Kdk_e : FEnt := ⟨19, [.tmp 2], [true], [(.box, cc27)], ⟨21, [⟨2, .one, cc31⟩, ⟨20, .box, cc27⟩]⟩, Kdk⟩
theorem Kdk_ok : FnOk Tryz.prog 161 Kdk_e := fnOk_mk (tb := []) (c := (Tryz.f161.body).getD .skip) mixed Tryz.func161 (bC Kbm_ok (bC Kam_ok (bC Ku_ok bN))) (by kernel_rfl) (by kernel_rfl) (by kernel_rfl) trivial (by intro d; kernel_rfl)
def Kdo : List Int × Int × Int → Option t52
 | (a, b, c) => (Kbb (a, b, c)).bind fun (d, e, f, g) => (Kaw d).bind fun (h, i, j, k, l, m, n) => (Kam ((e, f, g), 16)).bind fun (o, p, q, r) => bif o then bif decide (h > 0) then (Kg ((p, q, r), 2)).bind fun (s, t, u, v) => chk (decide (3 < l.length)) (chk (decide (3 < l.length)) (some ((w64 (1000000000 - s), 999999997, j, k, List.set l 3 1000000000, m, n), t, u, v))) else some ((h, i, j, k, l, m, n), p, q, r) else some ((h, i, j, k, l, m, n), p, q, r)
def Kdo_e : FEnt := ⟨23, [.cell 2 true 7], [true], [(.box, cc27)], ⟨25, [⟨2, .box, cc16⟩, ⟨24, .box, cc27⟩]⟩, Kdo⟩
theorem Kdo_ok : FnOk Tryz.prog 206 Kdo_e := fnOk_mk (tb := []) (c := (Tryz.f206.body).getD .skip) mixed Tryz.func206 (bC Kbb_ok (bC Kaw_ok (bC Kam_ok (bC Kg_ok bN)))) (by kernel_rfl) (by kernel_rfl) (by kernel_rfl) trivial (by intro d; kernel_rfl)
def Kdf : List Int × Int × Int → Option t52
 | (a, b, c) => (Kdo (a, b, c)).bind fun ((d, e, f, g, h, i, j), k, l, m) => (Kg ((k, l, m), 16)).bind fun (n, o, p, q) => bif n == 0 then (Ku ((o, p, q), [(-1), 1000001, 500])).bind fun (r, s, t, u) => some ((d, e, r, g, h, i, j), s, t, u) else bif n == 1 then (Kg ((o, p, q), 8)).bind fun (r, s, t, u) => (Ku ((s, t, u), [(-1), 17, 18])).bind fun (v, w, x, y) => ix r i.length (lx r i.length (some ((d, e, f, g, h, sx i r v, j), w, x, y))) else bif n == 2 then chk (fits (h.length + 1) 8) (some ((d, e, f, g, h ++ [0], i, j), o, p, q)) else bif n == 3 then chk (decide (((0 : Nat) ≤ 1) ∧ (1 ≤ j.length))) (some ((d, e, f, g, h, i, List.take 1 j), o, p, q)) else bif n == 4 then (Ku ((o, p, q), [0, (-1), 1000000001])).bind fun (r, s, t, u) => some ((r, e, f, g, h, i, j), s, t, u) else bif n == 5 then chk (decide (1 < j.length)) (chk (decide (1 < j.length)) ((Ku ((o, p, q), [(-1), 3, 1000000001])).bind fun (r, s, t, u) => chk (decide (2 < (List.getD j 1 []).length)) (chk (decide (2 < (List.getD j 1 []).length)) (some ((d, e, f, g, h, i, List.set j 1 (List.set (List.getD j 1 []) 2 r)), s, t, u))))) else some ((d, e, f, g, h, i, j), o, p, q)
def Kdf_e : FEnt := ⟨54, [.cell 2 true 7], [true], [(.box, cc27)], ⟨56, [⟨2, .box, cc16⟩, ⟨55, .box, cc27⟩]⟩, Kdf⟩
theorem Kdf_ok : FnOk Tryz.prog 162 Kdf_e := fnOk_mk (tb := []) (c := (Tryz.f162.body).getD .skip) mixed Tryz.func162 (bC Kdo_ok (bC Kg_ok (bC Ku_ok bN))) (by kernel_rfl) (by kernel_rfl) (by kernel_rfl) trivial (by intro d; kernel_rfl)
def Kdl : List Int × Int × Int → Option (t54 × List Int × Int × Int)
 | (a, b, c) => (Kg ((a, b, c), 3)).bind fun (d, e, f, g) => (Kct (e, f, g)).bind fun ((h, i, j, k, l, m, n, o, p, q, r), s, t, u) => (Kcz (d, h, i, j, k, l, m, n, o, p, q, r)).bind fun ((v, w, x, y, z, a1, b1, c1, d1, e1), f1) => (Kam ((s, t, u), 4)).bind fun (g1, h1, i1, j1) => bif g1 then (Kdk (h1, i1, j1)).bind fun (k1, l1, m1, n1) => (Kam ((l1, m1, n1), 14)).bind fun (o1, p1, q1, r1) => bif o1 then (Kdf (p1, q1, r1)).bind fun ((s1, t1, u1, v1, w1, x1, y1), z1, a2, b2) => (Kam ((z1, a2, b2), 20)).bind fun (c2, d2, e2, f2) => bif c2 then (Ku ((d2, e2, f2), [(-1), 5])).bind fun (g2, h2, i2, j2) => some ((g2, w, k1, s1, t1, u1, v1, w1, x1, y1), h2, i2, j2) else some ((v, w, k1, s1, t1, u1, v1, w1, x1, y1), d2, e2, f2) else (Kam ((p1, q1, r1), 20)).bind fun (s1, t1, u1, v1) => bif s1 then (Ku ((t1, u1, v1), [(-1), 5])).bind fun (w1, x1, y1, z1) => some ((w1, w, k1, y, z, a1, b1, c1, d1, e1), x1, y1, z1) else some ((v, w, k1, y, z, a1, b1, c1, d1, e1), t1, u1, v1) else (Kam ((h1, i1, j1), 14)).bind fun (k1, l1, m1, n1) => bif k1 then (Kdf (l1, m1, n1)).bind fun ((o1, p1, q1, r1, s1, t1, u1), v1, w1, x1) => (Kam ((v1, w1, x1), 20)).bind fun (y1, z1, a2, b2) => bif y1 then (Ku ((z1, a2, b2), [(-1), 5])).bind fun (c2, d2, e2, f2) => some ((c2, w, x, o1, p1, q1, r1, s1, t1, u1), d2, e2, f2) else some ((v, w, x, o1, p1, q1, r1, s1, t1, u1), z1, a2, b2) else (Kam ((l1, m1, n1), 20)).bind fun (o1, p1, q1, r1) => bif o1 then (Ku ((p1, q1, r1), [(-1), 5])).bind fun (s1, t1, u1, v1) => some ((s1, w, x, y, z, a1, b1, c1, d1, e1), t1, u1, v1) else some ((v, w, x, y, z, a1, b1, c1, d1, e1), p1, q1, r1)
def Kdl_e : FEnt := ⟨30, [.cell 2 true 10], [true], [(.box, cc27)], ⟨32, [⟨2, .box, cc13⟩, ⟨31, .box, cc27⟩]⟩, Kdl⟩
theorem Kdl_ok : FnOk Tryz.prog 109 Kdl_e := fnOk_mk (tb := []) (c := (Tryz.f109.body).getD .skip) mixed Tryz.func109 (bC Kg_ok (bC Kct_ok (bC Kcz_ok (bC Kam_ok (bC Kdk_ok (bC Kdf_ok (bC Ku_ok bN))))))) (by kernel_rfl) (by kernel_rfl) (by kernel_rfl) trivial (by intro d; kernel_rfl)
def Kl_s250 : Unit × t126 × List t56 × t4 → Option (Unit × t126 × List t56 × t4 ⊕ Unit × t74)
 | (_, (a, b, c, d, e, f, g, h, i, j, k, l, m, n, o, p), q, r, s, t, u) => (some (decide (r < (ln p)))).bind fun v => bif v then ix r p.length (lx r p.length ((some (gx p r (0, 0, 0, [], 0, 0, 0, 0, [], [], []))).bind fun (w, x, y, z, a1, b1, c1, d1, e1, f1, g1) => ix r p.length (lx r p.length ((some (gx p r (0, 0, 0, [], 0, 0, 0, 0, [], [], []))).bind fun (h1, i1, j1, k1, l1, m1, n1, o1, p1, q1, r1) => (Kaj (i1, j1, k1, l1, m1, n1, o1, p1, q1, r1)).bind fun (s1, t1, u1, v1, w1, x1, y1, z1, a2, b2) => (some [(w, s1, t1, u1, v1, w1, x1, y1, z1, a2, b2)]).bind fun c2 => chk (fits (q.length + c2.length) 152) ((some (q ++ c2)).bind fun d2 => some (.inl ((), (a, b, c, d, e, f, g, h, i, j, k, l, m, n, o, p), d2, w64 (r + 1), s, t, u))))))) else some (.inr ((), q, s, t, u))
def Kl_n250 : NEnt := ⟨⟨58, [⟨0, .one, [.bptr 57 0]⟩, ⟨3, .box, cc0⟩, ⟨4, .one, [.own true kk3]⟩, ⟨5, .one, [.dat kI]⟩, ⟨57, .box, cc27⟩]⟩, [(.exit 0, ⟨58, [⟨0, .one, [.bptr 57 0]⟩, ⟨4, .one, [.own true kk3]⟩, ⟨57, .box, cc27⟩]⟩)], lp Kl_s250⟩
def Kl_s1018 : Unit × List t56 × t13 → Option (Unit × List t56 × t13 ⊕ t74)
 | (_, a, b, c, d, e, f) => bif decide (c < b) then (Kg ((d, e, f), 2)).bind fun (g, h, i, j) => (Kdl (h, i, j)).bind fun ((k, l, m, n, o, p, q, r, s, t), u, v, w) => (some [(g, k, l, m, n, o, p, q, r, s, t)]).bind fun x => chk (fits (a.length + x.length) 152) ((some (a ++ x)).bind fun y => some (.inl ((), y, b, w64 (c + 1), u, v, w))) else some (.inr (a, d, e, f))
def Kl_n1018 : NEnt := ⟨⟨58, [⟨0, .one, [.bptr 57 0]⟩, ⟨4, .one, [.own true kk3]⟩, ⟨6, .one, [.dat kI]⟩, ⟨7, .one, [.dat kI]⟩, ⟨57, .box, cc27⟩]⟩, [(.exit 2, ⟨58, [⟨4, .one, [.own true kk3]⟩, ⟨57, .box, cc27⟩]⟩)], lp Kl_s1018⟩
def Kl_l15 : Unit × t126 × List Int × Int × Int → Option t74
 | (_, (a, b, c, d, e, f, g, h, i, j, k, l, m, n, o, p), q, r, s) => (lp Kl_s250 ((), (a, b, c, d, e, f, g, h, i, j, k, l, m, n, o, p), [], 0, q, r, s)).bind fun (_, t, u, v, w) => (Kg ((u, v, w), 3)).bind fun (x, y, z, a1) => (lp Kl_s1018 ((), t, x, 0, y, z, a1)).bind fun (b1, c1, d1, e1) => some (b1, c1, d1, e1)
def Kl_n15 : NEnt := ⟨⟨58, [⟨0, .one, [.bptr 57 0]⟩, ⟨3, .box, cc0⟩, ⟨57, .box, cc27⟩]⟩, [(.ret, ⟨58, [⟨2, .one, [.own true kk3]⟩, ⟨57, .box, cc27⟩]⟩)], Kl_l15⟩
def Kl : List Int × Int × Int → Option t74
 | (a, b, c) => (Kbv (a, b, c)).bind fun ((d, e, f, g, h, i, j, k, l, m, n, o, p, q, r, s), t, u, v) => (Kam ((t, u, v), 2)).bind fun (w, x, y, z) => bif w then (Kcd (d, e, f, g, h, i, j, k, l, m, n, o, p, q, r, s)).bind fun (a1, b1, c1, d1, e1, f1, g1, h1, i1, j1, k1, l1, m1, n1, o1, p1) => (Kea (a1, b1, c1, d1, e1, f1, g1, h1, i1, j1, k1, l1, m1, n1, o1, p1)).bind fun (q1, r1, s1, t1, u1, v1, w1, x1, y1, z1, a2, b2, c2, d2, e2, f2) => (Kl_l15 ((), (q1, r1, s1, t1, u1, v1, w1, x1, y1, z1, a2, b2, c2, d2, e2, f2), x, y, z)).bind fun (g2, h2, i2, j2) => some (g2, h2, i2, j2) else (Kl_l15 ((), (d, e, f, g, h, i, j, k, l, m, n, o, p, q, r, s), x, y, z)).bind fun (a1, b1, c1, d1) => some (a1, b1, c1, d1)
def Kl_e : FEnt := ⟨56, [.tmp 2], [true], [(.box, cc27)], ⟨58, [⟨2, .one, [.own true kk3]⟩, ⟨57, .box, cc27⟩]⟩, Kl⟩
theorem Kl_ok : FnOk Tryz.prog 46 Kl_e := fnOk_mk (tb := [(1018, Kl_n1018), (250, Kl_n250), (15, Kl_n15)]) (c := (Tryz.f46.body).getD .skip) mixed Tryz.func46 (bC Kbv_ok (bC Kam_ok (bC Kcd_ok (bC Kea_ok (bC Kaj_ok (bC Kg_ok (bC Kdl_ok bN))))))) (by kernel_rfl) (by kernel_rfl) (by kernel_rfl) ⟨nodeLoop (by kernel_rfl) Kl_s1018 (by kernel_rfl) (by intro d; kernel_rfl), nodeLoop (by kernel_rfl) Kl_s250 (by kernel_rfl) (by intro d; kernel_rfl), nodeJoin (by kernel_rfl) (by intro d; kernel_rfl), trivial⟩ (by intro d; kernel_rfl)
def Kdu : List Int → Option (List t56)
 | a => (Kcc a).bind fun (_, b, c, d) => (Kl (b, c, d)).bind fun (e, f, g, h) => some e
def Kdu_e : FEnt := ⟨6, [.tmp 2], [], [(.one, [.dat (.list kB)])], ⟨8, [⟨2, .one, [.own true kk3]⟩]⟩, Kdu⟩
theorem Kdu_ok : FnOk Tryz.prog 18 Kdu_e := fnOk_mk (tb := []) (c := (Tryz.f18.body).getD .skip) mixed Tryz.func18 (bC Kcc_ok (bC Kl_ok bN)) (by kernel_rfl) (by kernel_rfl) (by kernel_rfl) trivial (by intro d; kernel_rfl)
def Kca : Int × Int × Int → Option Bool
 | (a, b, c) => bif decide (a ≥ b) then some (decide (a ≤ c)) else some false
def Kca_e : FEnt := ⟨15, [.tmp 6], [], [(.one, [.dat kI]), (.one, [.dat kI]), (.one, [.dat kI])], ⟨21, [⟨6, .one, [.dat .bool]⟩]⟩, Kca⟩
theorem Kca_ok : FnOk Tryz.prog 70 Kca_e := fnOk_mk (tb := []) (c := (Tryz.f70.body).getD .skip) mixed Tryz.func70 bN (by kernel_rfl) (by kernel_rfl) (by kernel_rfl) trivial (by intro d; kernel_rfl)
def Kbn_s26 : t29 → Option (t29 ⊕ Bool ⊕ Unit)
 | (a, b, c, d) => bif decide (d < c) then ix d b.length ((some (gx b d (0, 0))).bind fun (e, f) => (Kca (e, 0, 9999)).bind fun g => bif !g then some (.inr (.inl false)) else (Kca (f, e, 9999)).bind fun h => bif !h then some (.inr (.inl false)) else bif decide (d > 0) then ix (w64 (d - 1)) a.length ((some (gx a (w64 (d - 1)) (0, 0))).bind fun (i, j) => bif decide (e ≤ (w64 (j + 1))) then some (.inr (.inl false)) else some (.inl (a, b, c, w64 (d + 1)))) else some (.inl (a, b, c, w64 (d + 1)))) else some (.inr (.inr ()))
def Kbn_n26 : NEnt := ⟨⟨43, [⟨0, .one, [.dat kk10]⟩, ⟨5, .one, [.dat kk10]⟩, ⟨6, .one, [.dat kI]⟩, ⟨7, .one, [.dat kI]⟩]⟩, [(.ret, ⟨43, [⟨2, .one, [.dat .bool]⟩]⟩), (.exit 0, ⟨43, []⟩)], lp Kbn_s26⟩
def Kbn : List (Int × Int) → Option Bool
 | a => bx (lp Kbn_s26 (a, a, ln a, 0)) (fun b => some b) fun _ => some true
def Kbn_e : FEnt := ⟨41, [.tmp 2], [], [(.one, [.dat kk10])], ⟨43, [⟨2, .one, [.dat .bool]⟩]⟩, Kbn⟩
theorem Kbn_ok : FnOk Tryz.prog 124 Kbn_e := fnOk_mk (tb := [(26, Kbn_n26)]) (c := (Tryz.f124.body).getD .skip) mixed Tryz.func124 (bC Kca_ok bN) (by kernel_rfl) (by kernel_rfl) (by kernel_rfl) ⟨nodeLoop (by kernel_rfl) Kbn_s26 (by kernel_rfl) (by intro d; kernel_rfl), trivial⟩ (by intro d; kernel_rfl)
def Kcr : List Int → Option (List Int)
 | a => chk (fits a.length 8) (some a)
def Kcr_e : FEnt := ⟨5, [.tmp 2], [], [(.one, [.dat (.list kI)])], ⟨7, [⟨2, .one, [.own true kI]⟩]⟩, Kcr⟩
theorem Kcr_ok : FnOk Tryz.prog 146 Kcr_e := fnOk_mk (tb := []) (c := (Tryz.f146.body).getD .skip) mixed Tryz.func146 bN (by kernel_rfl) (by kernel_rfl) (by kernel_rfl) trivial (by intro d; kernel_rfl)
def Kbg_s58 : List Int × t7 → Option (List Int × t7 ⊕ List Int)
 | (a, b, c, d) => bif decide (d < c) then ix d b.length (chk (fits (a.length + (gx b d []).length) 8) (some (.inl (a ++ (gx b d []), b, c, w64 (d + 1))))) else some (.inr a)
def Kbg_n58 : NEnt := ⟨⟨26, [⟨3, .one, [.own true kI]⟩, ⟨13, .one, [.dat kk11]⟩, ⟨14, .one, [.dat kI]⟩, ⟨15, .one, [.dat kI]⟩]⟩, [(.exit 0, ⟨26, [⟨3, .one, [.own true kI]⟩]⟩)], lp Kbg_s58⟩
def Kbg : t38 → Option (List Int)
 | (a, b, c, d, e, f, g) => (Kcr e).bind fun h => chk (fits (h.length + f.length) 8) ((lp Kbg_s58 (h ++ f, g, ln g, 0)).bind fun i => some i)
def Kbg_e : FEnt := ⟨24, [.tmp 2], [], [(.agg, cc17)], ⟨26, [⟨2, .one, [.own true kI]⟩]⟩, Kbg⟩
theorem Kbg_ok : FnOk Tryz.prog 119 Kbg_e := fnOk_mk (tb := [(58, Kbg_n58)]) (c := (Tryz.f119.body).getD .skip) mixed Tryz.func119 (bC Kcr_ok bN) (by kernel_rfl) (by kernel_rfl) (by kernel_rfl) ⟨nodeLoop (by kernel_rfl) Kbg_s58 (by kernel_rfl) (by intro d; kernel_rfl), trivial⟩ (by intro d; kernel_rfl)
def Kp_s122 : t38 × t4 → Option (t38 × t4 ⊕ Bool ⊕ t43)
 | ((a, b, c, d, e, f, g), h, i, j, k) => bif decide (k < j) then ix k i.length (lx k i.length ((Kca (gx i k 0, 0, 1000000000)).bind fun l => bif !l then some (.inr (.inl false)) else some (.inl ((a, b, c, d, e, f, g), w64 (h + (gx i k 0)), i, j, w64 (k + 1))))) else some (.inr (.inr ((a, b, c, d, e, f, g), h)))
def Kp_n122 : NEnt := ⟨⟨91, [⟨1, .box, cc17⟩, ⟨3, .one, [.dat kI]⟩, ⟨51, .one, [.own true kI]⟩, ⟨52, .one, [.dat kI]⟩, ⟨53, .one, [.dat kI]⟩]⟩, [(.ret, ⟨91, [⟨2, .one, [.dat .bool]⟩]⟩), (.exit 0, ⟨91, [⟨1, .box, cc17⟩, ⟨3, .one, [.dat kI]⟩]⟩)], lp Kp_s122⟩
def Kp_s250 : t38 × t4 → Option (t38 × t4 ⊕ Bool ⊕ t43)
 | ((a, b, c, d, e, f, g), h, i, j, k) => bif decide (k < j) then ix k i.length (bif decide ((gx i k 0) > 17) then some (.inr (.inl false)) else some (.inl ((a, b, c, d, e, f, g), h, i, j, w64 (k + 1)))) else some (.inr (.inr ((a, b, c, d, e, f, g), h)))
def Kp_n250 : NEnt := ⟨⟨91, [⟨1, .box, cc17⟩, ⟨3, .one, [.dat kI]⟩, ⟨65, .one, [.dat (.list kI)]⟩, ⟨66, .one, [.dat kI]⟩, ⟨67, .one, [.dat kI]⟩]⟩, [(.ret, ⟨91, [⟨2, .one, [.dat .bool]⟩]⟩), (.exit 2, ⟨91, [⟨1, .box, cc17⟩, ⟨3, .one, [.dat kI]⟩]⟩)], lp Kp_s250⟩
def Kp : t38 → Option Bool
 | (a, b, c, d, e, f, g) => bif (ln e) != 8 then some false else bif (ln f) != 8 then some false else bif (ln g) != 2 then some false else chk (decide (0 < g.length)) (bif (ln (List.getD g 0 [])) != 4 then some false else chk (decide (1 < g.length)) (bif (ln (List.getD g 1 [])) != 4 then some false else (Kbg (a, b, c, d, e, f, g)).bind fun h => chk (fits (h.length + [a, b, c, d].length) 8) (bx (lp Kp_s122 ((a, b, c, d, e, f, g), 0, h ++ [a, b, c, d], ln (h ++ [a, b, c, d]), 0)) (fun i => some i) fun ((i, j, k, l, m, n, o), p) => bx (lp Kp_s250 ((i, j, k, l, m, n, o), p, n, ln n, 0)) (fun q => some q) fun ((q, r, s, t, u, v, w), x) => bif q == 0 then some (x == 0) else bif decide (s ≤ t) then some (decide (t ≤ 1000000)) else some false)))
def Kp_e : FEnt := ⟨89, [.tmp 2], [], [(.agg, cc17)], ⟨91, [⟨2, .one, [.dat .bool]⟩]⟩, Kp⟩
theorem Kp_ok : FnOk Tryz.prog 99 Kp_e := fnOk_mk (tb := [(250, Kp_n250), (122, Kp_n122)]) (c := (Tryz.f99.body).getD .skip) mixed Tryz.func99 (bC Kbg_ok (bC Kca_ok bN)) (by kernel_rfl) (by kernel_rfl) (by kernel_rfl) ⟨nodeLoop (by kernel_rfl) Kp_s250 (by kernel_rfl) (by intro d; kernel_rfl), nodeLoop (by kernel_rfl) Kp_s122 (by kernel_rfl) (by intro d; kernel_rfl), trivial⟩ (by intro d; kernel_rfl)
def Kdd : t54 → Option Bool
 | (a, b, c, d, e, f, g, h, i, j) => (Kca (a, 0, 4)).bind fun k => bif k then (Kca (b, 0, 20)).bind fun l => bif l then (Kbn c).bind fun m => bif m then bif decide ((ln c) > 0) then (Kp (d, e, f, g, h, i, j)).bind fun n => some n else some false else some false else some false else some false
def Kdd_e : FEnt := ⟨27, [.tmp 2], [], [(.agg, cc15)], ⟨29, [⟨2, .one, [.dat .bool]⟩]⟩, Kdd⟩
theorem Kdd_ok : FnOk Tryz.prog 71 Kdd_e := fnOk_mk (tb := []) (c := (Tryz.f71.body).getD .skip) mixed Tryz.func71 (bC Kca_ok (bC Kbn_ok (bC Kp_ok bN))) (by kernel_rfl) (by kernel_rfl) (by kernel_rfl) trivial (by intro d; kernel_rfl)
def Kak_s26 : t70 → Option (t70 ⊕ Bool ⊕ Unit)
 | (a, b, c) => bif decide (c < b) then ix c a.length ((some (gx a c (0, 0, 0, [], 0, 0, 0, 0, [], [], []))).bind fun (d, e, f, g, h, i, j, k, l, m, n) => (Kca (d, 0, 1000)).bind fun o => bif !o then some (.inr (.inl false)) else (Kdd (e, f, g, h, i, j, k, l, m, n)).bind fun p => bif !p then some (.inr (.inl false)) else some (.inl (a, b, w64 (c + 1)))) else some (.inr (.inr ()))
def Kak_n26 : NEnt := ⟨⟨24, [⟨5, .one, [.dat kk1]⟩, ⟨6, .one, [.dat kI]⟩, ⟨7, .one, [.dat kI]⟩]⟩, [(.ret, ⟨24, [⟨2, .one, [.dat .bool]⟩]⟩), (.exit 0, ⟨24, []⟩)], lp Kak_s26⟩
def Kak : List t56 → Option Bool
 | a => bx (lp Kak_s26 (a, ln a, 0)) (fun b => some b) fun _ => some true
def Kak_e : FEnt := ⟨22, [.tmp 2], [], [(.one, [.dat kk1])], ⟨24, [⟨2, .one, [.dat .bool]⟩]⟩, Kak⟩
theorem Kak_ok : FnOk Tryz.prog 22 Kak_e := fnOk_mk (tb := [(26, Kak_n26)]) (c := (Tryz.f22.body).getD .skip) mixed Tryz.func22 (bC Kca_ok (bC Kdd_ok bN)) (by kernel_rfl) (by kernel_rfl) (by kernel_rfl) ⟨nodeLoop (by kernel_rfl) Kak_s26 (by kernel_rfl) (by intro d; kernel_rfl), trivial⟩ (by intro d; kernel_rfl)
def Kbr_s58 : List t54 × t70 → Option (List t54 × t70 ⊕ List t54)
 | (a, b, c, d) => bif decide (d < c) then ix d b.length ((some (gx b d (0, 0, 0, [], 0, 0, 0, 0, [], [], []))).bind fun (e, f, g, h, i, j, k, l, m, n, o) => (some [(f, g, h, i, j, k, l, m, n, o)]).bind fun p => chk (fits (a.length + p.length) 144) ((some (a ++ p)).bind fun q => some (.inl (q, b, c, w64 (d + 1))))) else some (.inr a)
def Kbr_n58 : NEnt := ⟨⟨21, [⟨3, .one, [.own false kk5]⟩, ⟨6, .one, [.dat kk1]⟩, ⟨7, .one, [.dat kI]⟩, ⟨8, .one, [.dat kI]⟩]⟩, [(.exit 0, ⟨21, [⟨3, .one, [.own false kk5]⟩]⟩)], lp Kbr_s58⟩
def Kbr : List t56 → Option (List t54)
 | a => (lp Kbr_s58 ([], a, ln a, 0)).bind fun b => some b
def Kbr_e : FEnt := ⟨19, [.tmp 2], [], [(.one, [.dat kk1])], ⟨21, [⟨2, .one, [.own false kk5]⟩]⟩, Kbr⟩
theorem Kbr_ok : FnOk Tryz.prog 67 Kbr_e := fnOk_mk (tb := [(58, Kbr_n58)]) (c := (Tryz.f67.body).getD .skip) mixed Tryz.func67 bN (by kernel_rfl) (by kernel_rfl) (by kernel_rfl) ⟨nodeLoop (by kernel_rfl) Kbr_s58 (by kernel_rfl) (by intro d; kernel_rfl), trivial⟩ (by intro d; kernel_rfl)
def Kbf_s58 : Int × Int × List t54 × t66 → Option (Int × Int × List t54 × t66 ⊕ List t54)
 | (a, b, c, d, e, f) => bif decide (f < e) then ix f d.length ((some (gx d f (0, 0, [], 0, 0, 0, 0, [], [], []))).bind fun (g, h, i, j, k, l, m, n, o, p) => bif g == a then bif h == b then (some [(g, h, i, j, k, l, m, n, o, p)]).bind fun q => chk (fits (c.length + q.length) 144) ((some (c ++ q)).bind fun r => some (.inl (a, b, r, d, e, w64 (f + 1)))) else some (.inl (a, b, c, d, e, w64 (f + 1))) else some (.inl (a, b, c, d, e, w64 (f + 1)))) else some (.inr c)
def Kbf_n58 : NEnt := ⟨⟨38, [⟨1, .one, [.dat kI]⟩, ⟨2, .one, [.dat kI]⟩, ⟨7, .one, [.own false kk5]⟩, ⟨10, .one, [.dat kk4]⟩, ⟨11, .one, [.dat kI]⟩, ⟨12, .one, [.dat kI]⟩]⟩, [(.exit 0, ⟨38, [⟨7, .one, [.own false kk5]⟩]⟩)], lp Kbf_s58⟩
def Kbf : t66 → Option (List t54)
 | (a, b, c) => (lp Kbf_s58 (b, c, [], a, ln a, 0)).bind fun d => some d
def Kbf_e : FEnt := ⟨32, [.tmp 6], [], [(.one, [.dat kk4]), (.one, [.dat kI]), (.one, [.dat kI])], ⟨38, [⟨6, .one, [.own false kk5]⟩]⟩, Kbf⟩
theorem Kbf_ok : FnOk Tryz.prog 121 Kbf_e := fnOk_mk (tb := [(58, Kbf_n58)]) (c := (Tryz.f121.body).getD .skip) mixed Tryz.func121 bN (by kernel_rfl) (by kernel_rfl) (by kernel_rfl) ⟨nodeLoop (by kernel_rfl) Kbf_s58 (by kernel_rfl) (by intro d; kernel_rfl), trivial⟩ (by intro d; kernel_rfl)
def Kda : List (Int × Int) → Option (List (Int × Int))
 | a => chk (fits a.length 16) (some a)
def Kda_e : FEnt := ⟨5, [.tmp 2], [], [(.one, [.dat kk10])], ⟨7, [⟨2, .one, cc31⟩]⟩, Kda⟩
theorem Kda_ok : FnOk Tryz.prog 177 Kda_e := fnOk_mk (tb := []) (c := (Tryz.f177.body).getD .skip) mixed Tryz.func177 bN (by kernel_rfl) (by kernel_rfl) (by kernel_rfl) trivial (by intro d; kernel_rfl)
def Kav_s506 : t78 → Option (t78 ⊕ t64)
 | ((a, b, c, d, _, _, _), (e, f, g, h, i, j, k), l, m, n) => bif decide (n < m) then ix n l.length ((Kcr (gx l n [])).bind fun o => chk (fits (k.length + [o].length) 24) (some (.inl ((a, b, c, d, (), (), ()), (e, f, g, h, i, j, k ++ [o]), l, m, w64 (n + 1))))) else some (.inr ((a, b, c, d, (), (), ()), e, f, g, h, i, j, k))
def Kav_n506 : NEnt := ⟨⟨34, [⟨2, .box, cc23⟩, ⟨3, .box, cc16⟩, ⟨17, .one, [.dat kk11]⟩, ⟨18, .one, [.dat kI]⟩, ⟨19, .one, [.dat kI]⟩]⟩, [(.exit 0, ⟨34, [⟨2, .box, cc23⟩, ⟨3, .box, cc16⟩]⟩)], lp Kav_s506⟩
def Kav : t38 → Option t38
 | (a, b, c, d, e, f, g) => (Kcr e).bind fun h => (Kcr f).bind fun i => (lp Kav_s506 ((0, 0, 0, 0, (), (), ()), (a, b, c, d, h, i, []), g, ln g, 0)).bind fun ((j, k, l, m, _, _, _), n, o, p, q, r, s, t) => some (n, o, p, q, r, s, t)
def Kav_e : FEnt := ⟨32, [.cell 2 true 7], [], [(.agg, cc17)], ⟨34, [⟨2, .box, cc16⟩]⟩, Kav⟩
theorem Kav_ok : FnOk Tryz.prog 100 Kav_e := fnOk_mk (tb := [(506, Kav_n506)]) (c := (Tryz.f100.body).getD .skip) mixed Tryz.func100 (bC Kcr_ok bN) (by kernel_rfl) (by kernel_rfl) (by kernel_rfl) ⟨nodeLoop (by kernel_rfl) Kav_s506 (by kernel_rfl) (by intro d; kernel_rfl), trivial⟩ (by intro d; kernel_rfl)
def Kdq : t54 → Option t54
 | (a, b, c, d, e, f, g, h, i, j) => (Kda c).bind fun k => (Kav (d, e, f, g, h, i, j)).bind fun (l, m, n, o, p, q, r) => some (a, b, k, l, m, n, o, p, q, r)
def Kdq_e : FEnt := ⟨12, [.cell 2 true 10], [], [(.agg, cc15)], ⟨14, [⟨2, .box, cc13⟩]⟩, Kdq⟩
theorem Kdq_ok : FnOk Tryz.prog 165 Kdq_e := fnOk_mk (tb := []) (c := (Tryz.f165.body).getD .skip) mixed Tryz.func165 (bC Kda_ok (bC Kav_ok bN)) (by kernel_rfl) (by kernel_rfl) (by kernel_rfl) trivial (by intro d; kernel_rfl)
def Kdh : Int × Int × Int → Option Int
 | (a, b, c) => some (if c < if b > a then b else a then c else if b > a then b else a)
def Kdh_e : FEnt := ⟨12, [.tmp 6], [], [(.one, [.dat kI]), (.one, [.dat kI]), (.one, [.dat kI])], ⟨18, [⟨6, .one, [.dat kI]⟩]⟩, Kdh⟩
theorem Kdh_ok : FnOk Tryz.prog 147 Kdh_e := fnOk_mk (tb := []) (c := (Tryz.f147.body).getD .skip) mixed Tryz.func147 bN (by kernel_rfl) (by kernel_rfl) (by kernel_rfl) trivial (by intro d; kernel_rfl)
def Kcv : Int × Int → Option Int
 | (a, b) => (Kdh (a, 0, 1000000000)).bind fun c => (Kdh (b, 0, 1000000000)).bind fun d => (some (if (1000000000 : Int) < IntKind.wrap IntKind.i64 (c + d) then (1000000000 : Int) else IntKind.wrap IntKind.i64 (c + d))).bind fun e => some e
def Kcv_e : FEnt := ⟨11, [.tmp 4], [], [(.one, [.dat kI]), (.one, [.dat kI])], ⟨15, [⟨4, .one, [.dat kI]⟩]⟩, Kcv⟩
theorem Kcv_ok : FnOk Tryz.prog 101 Kcv_e := fnOk_mk (tb := []) (c := (Tryz.f101.body).getD .skip) mixed Tryz.func101 (bC Kdh_ok bN) (by kernel_rfl) (by kernel_rfl) (by kernel_rfl) trivial (by intro d; kernel_rfl)
def Kd_s2042 : t38 × t24 × t52 → Option (t38 × t24 × t52 ⊕ t38 × t64)
 | ((a, b, c, d, e, f, g), (h, i, j, k, _, _, _), (l, m, n, o, p, q, r), s, t, u) => bif decide (u < t) then ix u s.length (ix u p.length (lx u p.length ((Kcv (gx p u 0, gx s u 0)).bind fun v => ix u p.length (lx u p.length (some (.inl ((a, b, c, d, e, f, g), (h, i, j, k, (), (), ()), (l, m, n, o, sx p u v, q, r), s, t, w64 (u + 1)))))))) else some (.inr ((a, b, c, d, e, f, g), (h, i, j, k, (), (), ()), l, m, n, o, p, q, r))
def Kd_n2042 : NEnt := ⟨⟨141, [⟨3, .box, cc17⟩, ⟨4, .box, cc23⟩, ⟨6, .box, cc16⟩, ⟨63, .one, [.dat (.list kI)]⟩, ⟨64, .one, [.dat kI]⟩, ⟨65, .one, [.dat kI]⟩]⟩, [(.exit 0, ⟨141, [⟨3, .box, cc17⟩, ⟨4, .box, cc23⟩, ⟨6, .box, cc16⟩]⟩)], lp Kd_s2042⟩
def Kd_s4090 : t38 × t24 × t52 → Option (t38 × t24 × t52 ⊕ t38 × t64)
 | ((a, b, c, d, e, f, g), (h, i, j, k, _, _, _), (l, m, n, o, p, q, r), s, t, u) => bif decide (u < t) then ix u s.length (ix u q.length (lx u q.length ((some (if List.getD s (Int.toNat u) (0 : Int) > List.getD q (Int.toNat u) (0 : Int) then List.getD s (Int.toNat u) (0 : Int) else List.getD q (Int.toNat u) (0 : Int))).bind fun v => ix u q.length (lx u q.length (some (.inl ((a, b, c, d, e, f, g), (h, i, j, k, (), (), ()), (l, m, n, o, p, sx q u v, r), s, t, w64 (u + 1)))))))) else some (.inr ((a, b, c, d, e, f, g), (h, i, j, k, (), (), ()), l, m, n, o, p, q, r))
def Kd_n4090 : NEnt := ⟨⟨141, [⟨3, .box, cc17⟩, ⟨4, .box, cc23⟩, ⟨6, .box, cc16⟩, ⟨83, .one, [.dat (.list kI)]⟩, ⟨84, .one, [.dat kI]⟩, ⟨85, .one, [.dat kI]⟩]⟩, [(.exit 2, ⟨141, [⟨3, .box, cc17⟩, ⟨4, .box, cc23⟩, ⟨6, .box, cc16⟩]⟩)], lp Kd_s4090⟩
def Kd_s2095718 : t24 × t38 × Int × List (List Int) × t13 → Option (t24 × t38 × Int × List (List Int) × t13 ⊕ t78)
 | ((a, b, c, d, _, _, _), (e, f, g, h, i, j, k), l, m, n, o, p, q, r) => bif decide (r < q) then ix r p.length (ix l k.length (lx l k.length (ix l k.length (lx l k.length (ix r (gx k l []).length (lx r (gx k l []).length ((Kcv (gx (gx k l []) r 0, gx p r 0)).bind fun s => ix r (gx k l []).length (lx r (gx k l []).length (some (.inl ((a, b, c, d, (), (), ()), (e, f, g, h, i, j, sx k l (sx (gx k l []) r s)), l, m, n, o, p, q, w64 (r + 1)))))))))))) else some (.inr ((a, b, c, d, (), (), ()), (e, f, g, h, i, j, k), m, n, o))
def Kd_n2095718 : NEnt := ⟨⟨141, [⟨4, .box, cc23⟩, ⟨6, .box, cc16⟩, ⟨11, .one, [.dat kI]⟩, ⟨103, .one, [.dat kk11]⟩, ⟨104, .one, [.dat kI]⟩, ⟨105, .one, [.dat kI]⟩, ⟨110, .one, [.dat (.list kI)]⟩, ⟨111, .one, [.dat kI]⟩, ⟨112, .one, [.dat kI]⟩]⟩, [(.exit 6, ⟨141, [⟨4, .box, cc23⟩, ⟨6, .box, cc16⟩, ⟨103, .one, [.dat kk11]⟩, ⟨104, .one, [.dat kI]⟩, ⟨105, .one, [.dat kI]⟩]⟩)], lp Kd_s2095718⟩
def Kd_s8186 : t78 → Option (t78 ⊕ t64)
 | ((a, b, c, d, _, _, _), (e, f, g, h, i, j, k), l, m, n) => bif decide (n < m) then ix n l.length ((lp Kd_s2095718 ((a, b, c, d, (), (), ()), (e, f, g, h, i, j, k), n, l, m, n, gx l n [], ln (gx l n []), 0)).bind fun ((o, p, q, r, _, _, _), (s, t, u, v, w, x, y), z, a1, b1) => some (.inl ((o, p, q, r, (), (), ()), (s, t, u, v, w, x, y), z, a1, w64 (b1 + 1)))) else some (.inr ((a, b, c, d, (), (), ()), e, f, g, h, i, j, k))
def Kd_n8186 : NEnt := ⟨⟨141, [⟨4, .box, cc23⟩, ⟨6, .box, cc16⟩, ⟨103, .one, [.dat kk11]⟩, ⟨104, .one, [.dat kI]⟩, ⟨105, .one, [.dat kI]⟩]⟩, [(.exit 4, ⟨141, [⟨4, .box, cc23⟩, ⟨6, .box, cc16⟩]⟩)], lp Kd_s8186⟩
def Kd_l31 : t38 × t38 × t64 → Option (t38 × Bool)
 | ((a, b, c, d, e, f, g), (h, i, j, k, l, m, n), (o, p, q, r, _, _, _), s, t, u, v, w, x, y) => (Kcv (a, h)).bind fun z => (Kcv (b, i)).bind fun a1 => (lp Kd_s2042 ((h, i, j, k, l, m, n), (o, p, q, r, (), (), ()), (z, a1, u, if k > d then k else d, w, x, y), l, ln l, 0)).bind fun ((b1, c1, d1, e1, f1, g1, h1), (i1, j1, k1, l1, _, _, _), m1, n1, o1, p1, q1, r1, s1) => (lp Kd_s4090 ((b1, c1, d1, e1, f1, g1, h1), (i1, j1, k1, l1, (), (), ()), (m1, n1, o1, p1, q1, r1, s1), g1, ln g1, 0)).bind fun ((t1, u1, v1, w1, x1, y1, z1), (a2, b2, c2, d2, _, _, _), e2, f2, g2, h2, i2, j2, k2) => (lp Kd_s8186 ((a2, b2, c2, d2, (), (), ()), (e2, f2, g2, h2, i2, j2, k2), z1, ln z1, 0)).bind fun ((l2, m2, n2, o2, _, _, _), p2, q2, r2, s2, t2, u2, v2) => some ((p2, q2, r2, s2, t2, u2, v2), true)
def Kd_n31 : NEnt := ⟨⟨141, [⟨2, .box, cc17⟩, ⟨3, .box, cc17⟩, ⟨4, .box, cc23⟩, ⟨6, .box, cc16⟩]⟩, [(.ret, ⟨141, [⟨4, .box, cc16⟩, ⟨5, .one, [.dat .bool]⟩]⟩)], Kd_l31⟩
def Kd : t38 × t38 → Option (t38 × Bool)
 | ((a, b, c, d, e, f, g), h, i, j, k, l, m, n) => (Kp (a, b, c, d, e, f, g)).bind fun o => bif !o then some ((0, 0, 0, 0, [], [], []), false) else (Kp (h, i, j, k, l, m, n)).bind fun p => bif !p then some ((0, 0, 0, 0, [], [], []), false) else (Kav (a, b, c, d, e, f, g)).bind fun (q, r, s, t, u, v, w) => bif a == 0 then (Kd_l31 ((a, b, c, d, e, f, g), (h, i, j, k, l, m, n), (0, 0, 0, 0, (), (), ()), q, r, j, t, u, v, w)).bind fun ((x, y, z, a1, b1, c1, d1), e1) => some ((x, y, z, a1, b1, c1, d1), e1) else bif decide (h > 0) then bif decide (j < c) then (Kd_l31 ((a, b, c, d, e, f, g), (h, i, j, k, l, m, n), (0, 0, 0, 0, (), (), ()), q, r, j, t, u, v, w)).bind fun ((x, y, z, a1, b1, c1, d1), e1) => some ((x, y, z, a1, b1, c1, d1), e1) else (Kd_l31 ((a, b, c, d, e, f, g), (h, i, j, k, l, m, n), (0, 0, 0, 0, (), (), ()), q, r, s, t, u, v, w)).bind fun ((x, y, z, a1, b1, c1, d1), e1) => some ((x, y, z, a1, b1, c1, d1), e1) else (Kd_l31 ((a, b, c, d, e, f, g), (h, i, j, k, l, m, n), (0, 0, 0, 0, (), (), ()), q, r, s, t, u, v, w)).bind fun ((x, y, z, a1, b1, c1, d1), e1) => some ((x, y, z, a1, b1, c1, d1), e1)
def Kd_e : FEnt := ⟨137, [.cell 4 true 7, .tmp 5], [], [(.agg, cc17), (.agg, cc17)], ⟨141, [⟨4, .box, cc16⟩, ⟨5, .one, [.dat .bool]⟩]⟩, Kd⟩
theorem Kd_ok : FnOk Tryz.prog 42 Kd_e := fnOk_mk (tb := [(2095718, Kd_n2095718), (8186, Kd_n8186), (4090, Kd_n4090), (2042, Kd_n2042), (31, Kd_n31)]) (c := (Tryz.f42.body).getD .skip) mixed Tryz.func42 (bC Kp_ok (bC Kav_ok (bC Kcv_ok bN))) (by kernel_rfl) (by kernel_rfl) (by kernel_rfl) ⟨nodeLoop (by kernel_rfl) Kd_s2095718 (by kernel_rfl) (by intro d; kernel_rfl), nodeLoop (by kernel_rfl) Kd_s8186 (by kernel_rfl) (by intro d; kernel_rfl), nodeLoop (by kernel_rfl) Kd_s4090 (by kernel_rfl) (by intro d; kernel_rfl), nodeLoop (by kernel_rfl) Kd_s2042 (by kernel_rfl) (by intro d; kernel_rfl), nodeJoin (by kernel_rfl) (by intro d; kernel_rfl), trivial⟩ (by intro d; kernel_rfl)
def Kay_s250 : List (Int × Int) × List (Int × Int) × t14 → Option (List (Int × Int) × List (Int × Int) × t14 ⊕ List (Int × Int))
 | (a, b, (_, _, _), c, d) => bif decide (d < c) then ix d a.length (lx d a.length ((some (gx a d (0, 0))).bind fun (e, f) => bif decide ((ln b) > 0) then ix (w64 ((ln b) - 1)) b.length (lx (w64 ((ln b) - 1)) b.length ((some (gx b (w64 ((ln b) - 1)) (0, 0))).bind fun (g, h) => bif decide (e ≤ (w64 (h + 1))) then ix (w64 ((ln b) - 1)) b.length (lx (w64 ((ln b) - 1)) b.length ((some (gx b (w64 ((ln b) - 1)) (0, 0))).bind fun (i, j) => ix (w64 ((ln b) - 1)) b.length (lx (w64 ((ln b) - 1)) b.length ((some (sx b (w64 ((ln b) - 1)) ((gx b (w64 ((ln b) - 1)) (0, 0)).1, if f > j then f else j))).bind fun k => some (.inl (a, k, ((), (), ()), c, w64 (d + 1))))))) else chk (fits (b.length + [(e, f)].length) 16) (some (.inl (a, b ++ [(e, f)], ((), (), ()), c, w64 (d + 1)))))) else chk (fits (b.length + [(e, f)].length) 16) (some (.inl (a, b ++ [(e, f)], ((), (), ()), c, w64 (d + 1)))))) else some (.inr b)
def Kay_n250 : NEnt := ⟨⟨56, [⟨3, .one, cc31⟩, ⟨4, .one, cc31⟩, ⟨12, .one, [.ref 3 0 [] false false (.pair kI kI)]⟩, ⟨13, .one, [.dat kI]⟩, ⟨14, .one, [.dat kI]⟩]⟩, [(.exit 0, ⟨56, [⟨4, .one, cc31⟩]⟩)], lp Kay_s250⟩
def Kay : List (Int × Int) → Option (List (Int × Int))
 | a => (Kda a).bind fun b => (slices_SortFunc (b, ())).bind fun c => (lp Kay_s250 (c, [], ((), (), ()), ln c, 0)).bind fun d => some d
def Kay_e : FEnt := ⟨54, [.tmp 2], [], [(.one, [.dat kk10])], ⟨56, [⟨2, .one, cc31⟩]⟩, Kay⟩
theorem Kay_ok : FnOk Tryz.prog 131 Kay_e := fnOk_mk (tb := [(250, Kay_n250)]) (c := (Tryz.f131.body).getD .skip) mixed Tryz.func131 (bC Kda_ok (bC slices_SortFunc_ok bN)) (by kernel_rfl) (by kernel_rfl) (by kernel_rfl) ⟨nodeLoop (by kernel_rfl) Kay_s250 (by kernel_rfl) (by intro d; kernel_rfl), trivial⟩ (by intro d; kernel_rfl)
def Kbw_s58 : List (Int × Int) × t66 → Option (List (Int × Int) × t66 ⊕ List (Int × Int))
 | (a, b, c, d) => bif decide (d < c) then ix d b.length ((some (gx b d (0, 0, [], 0, 0, 0, 0, [], [], []))).bind fun (e, f, g, h, i, j, k, l, m, n) => chk (fits (a.length + g.length) 16) (some (.inl (a ++ g, b, c, w64 (d + 1))))) else some (.inr a)
def Kbw_n58 : NEnt := ⟨⟨21, [⟨3, .one, cc31⟩, ⟨6, .one, [.dat kk4]⟩, ⟨7, .one, [.dat kI]⟩, ⟨8, .one, [.dat kI]⟩]⟩, [(.exit 0, ⟨21, [⟨3, .one, cc31⟩]⟩)], lp Kbw_s58⟩
def Kbw : List t54 → Option (List (Int × Int))
 | a => (lp Kbw_s58 ([], a, ln a, 0)).bind fun b => (Kay b).bind fun c => some c
def Kbw_e : FEnt := ⟨19, [.tmp 2], [], [(.one, [.dat kk4])], ⟨21, [⟨2, .one, cc31⟩]⟩, Kbw⟩
theorem Kbw_ok : FnOk Tryz.prog 128 Kbw_e := fnOk_mk (tb := [(58, Kbw_n58)]) (c := (Tryz.f128.body).getD .skip) mixed Tryz.func128 (bC Kay_ok bN) (by kernel_rfl) (by kernel_rfl) (by kernel_rfl) ⟨nodeLoop (by kernel_rfl) Kbw_s58 (by kernel_rfl) (by intro d; kernel_rfl), trivial⟩ (by intro d; kernel_rfl)
def Kbe_s58 : List t54 × (Int × Int × Unit × t24) × t54 × t66 → Option (List t54 × (Int × Int × Unit × t24) × t54 × t66 ⊕ List t54 × (Int × Int × Unit × t24) × t54)
 | (a, (b, c, _, d, e, f, g, _, _, _), (h, i, j, k, l, m, n, o, p, q), r, s, t) => bif decide (t < s) then ix t r.length ((some (gx r t (0, 0, [], 0, 0, 0, 0, [], [], []))).bind fun (u, v, w, x, y, z, a1, b1, c1, d1) => (Kd ((k, l, m, n, o, p, q), x, y, z, a1, b1, c1, d1)).bind fun ((e1, f1, g1, h1, i1, j1, k1), l1) => some (.inl (a, (b, c, (), d, e, f, g, (), (), ()), (h, i, j, e1, f1, g1, h1, i1, j1, k1), r, s, w64 (t + 1)))) else some (.inr (a, (b, c, (), d, e, f, g, (), (), ()), h, i, j, k, l, m, n, o, p, q))
def Kbe_n58 : NEnt := ⟨⟨33, [⟨0, .one, [.dat kk4]⟩, ⟨2, .box, cc20⟩, ⟨3, .box, cc13⟩, ⟨11, .one, [.dat kk4]⟩, ⟨12, .one, [.dat kI]⟩, ⟨13, .one, [.dat kI]⟩]⟩, [(.exit 0, ⟨33, [⟨0, .one, [.dat kk4]⟩, ⟨2, .box, cc20⟩, ⟨3, .box, cc13⟩]⟩)], lp Kbe_s58⟩
def Kbe : List t54 → Option t54
 | a => chk (decide (0 < a.length)) ((some (List.getD a 0 (0, 0, [], 0, 0, 0, 0, [], [], []))).bind fun (b, c, d, e, f, g, h, i, j, k) => (Kdq (b, c, d, e, f, g, h, i, j, k)).bind fun (l, m, n, o, p, q, r, s, t, u) => chk (decide ((1 ≤ a.length) ∧ (a.length ≤ a.length))) ((some (ln (List.drop 1 a))).bind fun v => (lp Kbe_s58 (a, (0, 0, (), 0, 0, 0, 0, (), (), ()), (l, m, n, o, p, q, r, s, t, u), List.drop 1 a, v, 0)).bind fun (w, (x, y, _, z, a1, b1, c1, _, _, _), d1, e1, f1, g1, h1, i1, j1, k1, l1, m1) => (Kbw w).bind fun n1 => some (d1, e1, n1, g1, h1, i1, j1, k1, l1, m1)))
def Kbe_e : FEnt := ⟨31, [.cell 2 true 10], [], [(.one, [.dat kk4])], ⟨33, [⟨2, .box, cc13⟩]⟩, Kbe⟩
theorem Kbe_ok : FnOk Tryz.prog 122 Kbe_e := fnOk_mk (tb := [(58, Kbe_n58)]) (c := (Tryz.f122.body).getD .skip) mixed Tryz.func122 (bC Kdq_ok (bC Kd_ok (bC Kbw_ok bN))) (by kernel_rfl) (by kernel_rfl) (by kernel_rfl) ⟨nodeLoop (by kernel_rfl) Kbe_s58 (by kernel_rfl) (by intro d; kernel_rfl), trivial⟩ (by intro d; kernel_rfl)
def Ks_s3730 : List t54 × t66 → Option (List t54 × t66 ⊕ t86)
 | (a, b, c, d) => bif decide (d ≤ 20) then (Kbf (a, c, d)).bind fun e => (some (decide ((ln e) > 0))).bind fun f => bif f then (Kbe e).bind fun (g, h, i, j, k, l, m, n, o, p) => (some [(g, h, i, j, k, l, m, n, o, p)]).bind fun q => chk (fits (b.length + q.length) 144) ((some (b ++ q)).bind fun r => some (.inl (a, r, c, w64 (d + 1)))) else some (.inl (a, b, c, w64 (d + 1))) else some (.inr (a, b, c))
def Ks_n3730 : NEnt := ⟨⟨30, [⟨0, .one, [.dat kk4]⟩, ⟨3, .one, [.own true kk5]⟩, ⟨4, .one, [.dat kI]⟩, ⟨5, .one, [.dat kI]⟩]⟩, [(.exit 2, ⟨30, [⟨0, .one, [.dat kk4]⟩, ⟨3, .one, [.own true kk5]⟩, ⟨4, .one, [.dat kI]⟩]⟩)], lp Ks_s3730⟩
def Ks_s58 : t86 → Option (t86 ⊕ List t54)
 | (a, b, c) => bif decide (c ≤ 4) then (lp Ks_s3730 (a, b, c, 0)).bind fun (d, e, f) => some (.inl (d, e, w64 (f + 1))) else some (.inr b)
def Ks_n58 : NEnt := ⟨⟨30, [⟨0, .one, [.dat kk4]⟩, ⟨3, .one, [.own true kk5]⟩, ⟨4, .one, [.dat kI]⟩]⟩, [(.exit 0, ⟨30, [⟨3, .one, [.own true kk5]⟩]⟩)], lp Ks_s58⟩
def Ks : List t54 → Option (List t54)
 | a => (lp Ks_s58 (a, [], 0)).bind fun b => some b
def Ks_e : FEnt := ⟨28, [.tmp 2], [], [(.one, [.dat kk4])], ⟨30, [⟨2, .one, [.own true kk5]⟩]⟩, Ks⟩
theorem Ks_ok : FnOk Tryz.prog 66 Ks_e := fnOk_mk (tb := [(3730, Ks_n3730), (58, Ks_n58)]) (c := (Tryz.f66.body).getD .skip) mixed Tryz.func66 (bC Kbf_ok (bC Kbe_ok bN)) (by kernel_rfl) (by kernel_rfl) (by kernel_rfl) ⟨nodeLoop (by kernel_rfl) Ks_s3730 (by kernel_rfl) (by intro d; kernel_rfl), nodeLoop (by kernel_rfl) Ks_s58 (by kernel_rfl) (by intro d; kernel_rfl), trivial⟩ (by intro d; kernel_rfl)
def Kdg : List t56 → Option (List t54)
 | a => (Kak a).bind fun b => bif !b then some [] else (Kbr a).bind fun c => (Ks c).bind fun d => some d
def Kdg_e : FEnt := ⟨9, [.tmp 2], [], [(.one, [.dat kk1])], ⟨11, [⟨2, .one, [.own true kk5]⟩]⟩, Kdg⟩
theorem Kdg_ok : FnOk Tryz.prog 19 Kdg_e := fnOk_mk (tb := []) (c := (Tryz.f19.body).getD .skip) mixed Tryz.func19 (bC Kak_ok (bC Kbr_ok (bC Ks_ok bN))) (by kernel_rfl) (by kernel_rfl) (by kernel_rfl) trivial (by intro d; kernel_rfl)
def Kai_s26 : List t56 × Int → Option (List t56 × Int ⊕ Bool ⊕ Unit)
 | (a, b) => (some (decide (b < (ln a)))).bind fun c => bif c then ix b a.length ((some (gx a b (0, 0, 0, [], 0, 0, 0, 0, [], [], []))).bind fun (d, e, f, g, h, i, j, k, l, m, n) => (Kb (d, 0, 1000)).bind fun o => bif !o then some (.inr (.inl false)) else ix b a.length ((some (gx a b (0, 0, 0, [], 0, 0, 0, 0, [], [], []))).bind fun (p, q, r, s, t, u, v, w, x, y, z) => (Kbk (q, r, s, t, u, v, w, x, y, z)).bind fun a1 => bif !a1 then some (.inr (.inl false)) else some (.inl (a, w64 (b + 1))))) else some (.inr (.inr ()))
def Kai_n26 : NEnt := ⟨⟨28, [⟨0, .one, [.dat kk1]⟩, ⟨3, .one, [.dat kI]⟩]⟩, [(.ret, ⟨28, [⟨2, .one, [.dat .bool]⟩]⟩), (.exit 0, ⟨28, []⟩)], lp Kai_s26⟩
def Kai : List t56 → Option Bool
 | a => bx (lp Kai_s26 (a, 0)) (fun b => some b) fun _ => some true
def Kai_e : FEnt := ⟨26, [.tmp 2], [], [(.one, [.dat kk1])], ⟨28, [⟨2, .one, [.dat .bool]⟩]⟩, Kai⟩
theorem Kai_ok : FnOk Tryz.prog 11 Kai_e := fnOk_mk (tb := [(26, Kai_n26)]) (c := (Tryz.f11.body).getD .skip) mixed Tryz.func11 (bC Kb_ok (bC Kbk_ok bN)) (by kernel_rfl) (by kernel_rfl) (by kernel_rfl) ⟨nodeLoop (by kernel_rfl) Kai_s26 (by kernel_rfl) (by intro d; kernel_rfl), trivial⟩ (by intro d; kernel_rfl)
def Kx_l1865 : t96 → Option t96
 | ((_, _, _), (a, b, c, d, e, f, g, h, i, j), k, l, m) => ix l m.length (lx l m.length ((some (gx m l (0, 0, [], 0, 0, 0, 0, [], [], []))).bind fun (n, o, p, q, r, s, t, u, v, w) => bif decide (n > a) then some (((), (), ()), (a, b, c, d, e, f, g, h, i, j), l, l, m) else ix l m.length (lx l m.length ((some (gx m l (0, 0, [], 0, 0, 0, 0, [], [], []))).bind fun (x, y, z, a1, b1, c1, d1, e1, f1, g1) => bif x == a then ix l m.length (lx l m.length ((some (gx m l (0, 0, [], 0, 0, 0, 0, [], [], []))).bind fun (h1, i1, j1, k1, l1, m1, n1, o1, p1, q1) => bif decide (i1 > b) then some (((), (), ()), (a, b, c, d, e, f, g, h, i, j), l, l, m) else some (((), (), ()), (a, b, c, d, e, f, g, h, i, j), k, l, m))) else some (((), (), ()), (a, b, c, d, e, f, g, h, i, j), k, l, m)))))
def Kx_n1865 : NEnt := ⟨⟨93, [⟨0, .one, cc29⟩, ⟨3, .box, cc15⟩, ⟨5, .one, [.dat kI]⟩, ⟨6, .one, [.dat kI]⟩, ⟨89, .agg, [.own false kk5]⟩]⟩, [(.normal, ⟨93, [⟨0, .one, cc29⟩, ⟨3, .box, cc15⟩, ⟨5, .one, [.dat kI]⟩, ⟨6, .one, [.dat kI]⟩, ⟨89, .agg, [.own false kk5]⟩]⟩)], Kx_l1865⟩
def Kx_s58 : t96 → Option (t96 ⊕ t63 ⊕ (Unit × Unit × Unit) × t54 × t62)
 | ((_, _, _), (a, b, c, d, e, f, g, h, i, j), k, l, m) => bif decide (l ≥ 0) then ix l m.length (lx l m.length ((some (gx m l (0, 0, [], 0, 0, 0, 0, [], [], []))).bind fun (n, o, p, q, r, s, t, u, v, w) => bif n == a then ix l m.length (lx l m.length ((some (gx m l (0, 0, [], 0, 0, 0, 0, [], [], []))).bind fun (x, y, z, a1, b1, c1, d1, e1, f1, g1) => bif y == b then ix l m.length (lx l m.length ((some (gx m l (0, 0, [], 0, 0, 0, 0, [], [], []))).bind fun (h1, i1, j1, k1, l1, m1, n1, o1, p1, q1) => (Kcn ((h1, i1, j1, k1, l1, m1, n1, o1, p1, q1), a, b, c, d, e, f, g, h, i, j)).bind fun (r1, s1, t1, u1, v1, w1, x1, y1, z1, a2) => ix l m.length (lx l m.length ((some (sx m l (r1, s1, t1, u1, v1, w1, x1, y1, z1, a2))).bind fun b2 => some (.inr (.inl (b2, ()))))))) else (Kx_l1865 (((), (), ()), (a, b, c, d, e, f, g, h, i, j), k, l, m)).bind fun ((_, _, _), (h1, i1, j1, k1, l1, m1, n1, o1, p1, q1), r1, s1, t1) => some (.inl (((), (), ()), (h1, i1, j1, k1, l1, m1, n1, o1, p1, q1), r1, w64 (s1 - 1), t1)))) else (Kx_l1865 (((), (), ()), (a, b, c, d, e, f, g, h, i, j), k, l, m)).bind fun ((_, _, _), (x, y, z, a1, b1, c1, d1, e1, f1, g1), h1, i1, j1) => some (.inl (((), (), ()), (x, y, z, a1, b1, c1, d1, e1, f1, g1), h1, w64 (i1 - 1), j1)))) else some (.inr (.inr (((), (), ()), (a, b, c, d, e, f, g, h, i, j), k, m)))
def Kx_n58 : NEnt := ⟨⟨93, [⟨0, .one, cc29⟩, ⟨3, .box, cc15⟩, ⟨5, .one, [.dat kI]⟩, ⟨6, .one, [.dat kI]⟩, ⟨89, .agg, [.own false kk5]⟩]⟩, [(.ret, ⟨93, [⟨4, .one, [.own false kk5]⟩, ⟨89, .agg, [.dead]⟩]⟩), (.exit 0, ⟨93, [⟨0, .one, cc29⟩, ⟨3, .box, cc15⟩, ⟨5, .one, [.dat kI]⟩, ⟨89, .agg, [.own false kk5]⟩]⟩)], lp Kx_s58⟩
def Kx : List t54 × t54 → Option t63
 | (a, b, c, d, e, f, g, h, i, j, k) => bx (lp Kx_s58 (((), (), ()), (b, c, d, e, f, g, h, i, j, k), ln a, w64 ((ln a) - 1), a)) (fun (l, _) => some (l, ())) fun ((_, _, _), (l, m, n, o, p, q, r, s, t, u), v, w) => g0 v (chk (decide ((0 ≤ v.toNat) ∧ (v.toNat ≤ w.length))) (chk (fits (0 + (List.take v.toNat w).length) 144) ((some ([] ++ (List.take v.toNat w))).bind fun x => (Kaj (l, m, n, o, p, q, r, s, t, u)).bind fun (y, z, a1, b1, c1, d1, e1, f1, g1, h1) => (some [(y, z, a1, b1, c1, d1, e1, f1, g1, h1)]).bind fun i1 => chk (fits (x.length + i1.length) 144) ((some (x ++ i1)).bind fun j1 => g0 v (chk (decide ((v.toNat ≤ w.length) ∧ (w.length ≤ w.length))) (chk (fits (j1.length + (List.drop v.toNat w).length) 144) ((some (j1 ++ (List.drop v.toNat w))).bind fun k1 => some (k1, ()))))))))
def Kx_e : FEnt := ⟨89, [.tmp 4], [true, false], [(.one, [.own false kk5]), (.agg, cc15)], ⟨93, [⟨4, .one, [.own false kk5]⟩, ⟨89, .agg, [.dead]⟩]⟩, Kx⟩
theorem Kx_ok : FnOk Tryz.prog 123 Kx_e := fnOk_mk (tb := [(1865, Kx_n1865), (58, Kx_n58)]) (c := (Tryz.f123.body).getD .skip) mixed Tryz.func123 (bC Kcn_ok (bC Kaj_ok bN)) (by kernel_rfl) (by kernel_rfl) (by kernel_rfl) ⟨nodeJoin (by kernel_rfl) (by intro d; kernel_rfl), nodeLoop (by kernel_rfl) Kx_s58 (by kernel_rfl) (by intro d; kernel_rfl), trivial⟩ (by intro d; kernel_rfl)
def Kbz_s58 : t86 → Option (t86 ⊕ List t54)
 | (a, b, c) => (some (decide (c < (ln a)))).bind fun d => bif d then ix c a.length ((some (gx a c (0, 0, [], 0, 0, 0, 0, [], [], []))).bind fun (e, f, g, h, i, j, k, l, m, n) => (Kx (b, e, f, g, h, i, j, k, l, m, n)).bind fun (o, _) => some (.inl (a, o, w64 (c + 1)))) else some (.inr b)
def Kbz_n58 : NEnt := ⟨⟨21, [⟨0, .one, [.dat kk4]⟩, ⟨3, .one, [.own false kk5]⟩, ⟨4, .one, [.dat kI]⟩]⟩, [(.exit 0, ⟨21, [⟨3, .one, [.own false kk5]⟩]⟩)], lp Kbz_s58⟩
def Kbz : List t54 → Option (List t54)
 | a => (lp Kbz_s58 (a, [], 0)).bind fun b => some b
def Kbz_e : FEnt := ⟨19, [.tmp 2], [], [(.one, [.dat kk4])], ⟨21, [⟨2, .one, [.own false kk5]⟩]⟩, Kbz⟩
theorem Kbz_ok : FnOk Tryz.prog 69 Kbz_e := fnOk_mk (tb := [(58, Kbz_n58)]) (c := (Tryz.f69.body).getD .skip) mixed Tryz.func69 (bC Kx_ok bN) (by kernel_rfl) (by kernel_rfl) (by kernel_rfl) ⟨nodeLoop (by kernel_rfl) Kbz_s58 (by kernel_rfl) (by intro d; kernel_rfl), trivial⟩ (by intro d; kernel_rfl)
def Kbs_s122 : List t56 × t61 → Option (List t56 × t61 ⊕ List t54)
 | (a, b, c) => (some (decide (c < (ln a)))).bind fun d => bif d then ix c a.length ((some (gx a c (0, 0, 0, [], 0, 0, 0, 0, [], [], []))).bind fun (e, f, g, h, i, j, k, l, m, n, o) => (some [(f, g, h, i, j, k, l, m, n, o)]).bind fun p => chk (fits (b.length + p.length) 144) ((some (b ++ p)).bind fun q => some (.inl (a, q, w64 (c + 1))))) else some (.inr b)
def Kbs_n122 : NEnt := ⟨⟨28, [⟨0, .one, [.dat kk1]⟩, ⟨3, .one, [.own false kk5]⟩, ⟨4, .one, [.dat kI]⟩]⟩, [(.exit 0, ⟨28, [⟨3, .one, [.own false kk5]⟩]⟩)], lp Kbs_s122⟩
def Kbs : List t56 → Option (List t54)
 | a => (Kai a).bind fun b => bif !b then some [] else (lp Kbs_s122 (a, [], 0)).bind fun c => (Kbz c).bind fun d => some d
def Kbs_e : FEnt := ⟨26, [.tmp 2], [], [(.one, [.dat kk1])], ⟨28, [⟨2, .one, [.own false kk5]⟩]⟩, Kbs⟩
theorem Kbs_ok : FnOk Tryz.prog 21 Kbs_e := fnOk_mk (tb := [(122, Kbs_n122)]) (c := (Tryz.f21.body).getD .skip) mixed Tryz.func21 (bC Kai_ok (bC Kbz_ok bN)) (by kernel_rfl) (by kernel_rfl) (by kernel_rfl) ⟨nodeLoop (by kernel_rfl) Kbs_s122 (by kernel_rfl) (by intro d; kernel_rfl), trivial⟩ (by intro d; kernel_rfl)
def Kax_s58 : t3 → Option (t3 ⊕ Bool ⊕ Unit)
 | (a, b, c) => bif decide (c < (ln a)) then ix c a.length (ix c b.length (bif (gx a c 0) != (gx b c 0) then some (.inr (.inl false)) else some (.inl (a, b, w64 (c + 1))))) else some (.inr (.inr ()))
def Kax_n58 : NEnt := ⟨⟨30, [⟨0, .one, [.dat (.list kI)]⟩, ⟨1, .one, [.dat (.list kI)]⟩, ⟨5, .one, [.dat kI]⟩]⟩, [(.ret, ⟨30, [⟨4, .one, [.dat .bool]⟩]⟩), (.exit 0, ⟨30, []⟩)], lp Kax_s58⟩
def Kax : List Int × List Int → Option Bool
 | (a, b) => bif (ln a) != (ln b) then some false else bx (lp Kax_s58 (a, b, 0)) (fun c => some c) fun _ => some true
def Kax_e : FEnt := ⟨26, [.tmp 4], [], [(.one, [.dat (.list kI)]), (.one, [.dat (.list kI)])], ⟨30, [⟨4, .one, [.dat .bool]⟩]⟩, Kax⟩
theorem Kax_ok : FnOk Tryz.prog 164 Kax_e := fnOk_mk (tb := [(58, Kax_n58)]) (c := (Tryz.f164.body).getD .skip) mixed Tryz.func164 bN (by kernel_rfl) (by kernel_rfl) (by kernel_rfl) ⟨nodeLoop (by kernel_rfl) Kax_s58 (by kernel_rfl) (by intro d; kernel_rfl), trivial⟩ (by intro d; kernel_rfl)
def Kbq_s58 : t38 × t43 → Option (t38 × t43 ⊕ Bool ⊕ Unit)
 | ((a, b, c, d, e, f, g), (h, i, j, k, l, m, n), o) => bif decide (o < (ln g)) then ix o g.length (ix o n.length ((Kax (gx g o [], gx n o [])).bind fun p => bif !p then some (.inr (.inl false)) else some (.inl ((a, b, c, d, e, f, g), (h, i, j, k, l, m, n), w64 (o + 1))))) else some (.inr (.inr ()))
def Kbq_n58 : NEnt := ⟨⟨80, [⟨2, .box, cc17⟩, ⟨3, .box, cc17⟩, ⟨5, .one, [.dat kI]⟩]⟩, [(.ret, ⟨80, [⟨4, .one, [.dat .bool]⟩]⟩), (.exit 0, ⟨80, []⟩)], lp Kbq_s58⟩
def Kbq : t38 × t38 → Option Bool
 | ((a, b, c, d, e, f, g), h, i, j, k, l, m, n) => bif a != h then some false else bif b != i then some false else bif c != j then some false else bif d != k then some false else (Kax (e, l)).bind fun o => bif !o then some false else (Kax (f, m)).bind fun p => bif !p then some false else bif (ln g) != (ln n) then some false else bx (lp Kbq_s58 ((a, b, c, d, e, f, g), (h, i, j, k, l, m, n), 0)) (fun q => some q) fun _ => some true
def Kbq_e : FEnt := ⟨76, [.tmp 4], [], [(.agg, cc17), (.agg, cc17)], ⟨80, [⟨4, .one, [.dat .bool]⟩]⟩, Kbq⟩
theorem Kbq_ok : FnOk Tryz.prog 115 Kbq_e := fnOk_mk (tb := [(58, Kbq_n58)]) (c := (Tryz.f115.body).getD .skip) mixed Tryz.func115 (bC Kax_ok bN) (by kernel_rfl) (by kernel_rfl) (by kernel_rfl) ⟨nodeLoop (by kernel_rfl) Kbq_s58 (by kernel_rfl) (by intro d; kernel_rfl), trivial⟩ (by intro d; kernel_rfl)
def Kds : t54 × t54 → Option Bool
 | ((a, b, c, d, e, f, g, h, i, j), k, l, m, n, o, p, q, r, s, t) => bif a == k then bif b == l then (Kae (c, m)).bind fun u => bif u then (Kbq ((d, e, f, g, h, i, j), n, o, p, q, r, s, t)).bind fun v => some v else some false else some false else some false
def Kds_e : FEnt := ⟨31, [.tmp 4], [], [(.agg, cc15), (.agg, cc15)], ⟨35, [⟨4, .one, [.dat .bool]⟩]⟩, Kds⟩
theorem Kds_ok : FnOk Tryz.prog 55 Kds_e := fnOk_mk (tb := []) (c := (Tryz.f55.body).getD .skip) mixed Tryz.func55 (bC Kae_ok (bC Kbq_ok bN)) (by kernel_rfl) (by kernel_rfl) (by kernel_rfl) trivial (by intro d; kernel_rfl)
def Kbt_s58 : t86 → Option (t86 ⊕ Bool ⊕ Unit)
 | (a, b, c) => (some (decide (c < (ln a)))).bind fun d => bif d then ix c a.length ((some (gx a c (0, 0, [], 0, 0, 0, 0, [], [], []))).bind fun (e, f, g, h, i, j, k, l, m, n) => ix c b.length ((some (gx b c (0, 0, [], 0, 0, 0, 0, [], [], []))).bind fun (o, p, q, r, s, t, u, v, w, x) => (Kds ((e, f, g, h, i, j, k, l, m, n), o, p, q, r, s, t, u, v, w, x)).bind fun y => bif !y then some (.inr (.inl false)) else some (.inl (a, b, w64 (c + 1))))) else some (.inr (.inr ()))
def Kbt_n58 : NEnt := ⟨⟨31, [⟨0, .one, [.dat kk4]⟩, ⟨1, .one, [.dat kk4]⟩, ⟨5, .one, [.dat kI]⟩]⟩, [(.ret, ⟨31, [⟨4, .one, [.dat .bool]⟩]⟩), (.exit 0, ⟨31, []⟩)], lp Kbt_s58⟩
def Kbt : t83 → Option Bool
 | (a, b) => (some ((ln a) != (ln b))).bind fun c => bif c then some false else bx (lp Kbt_s58 (a, b, 0)) (fun d => some d) fun _ => some true
def Kbt_e : FEnt := ⟨27, [.tmp 4], [], [(.one, [.dat kk4]), (.one, [.dat kk4])], ⟨31, [⟨4, .one, [.dat .bool]⟩]⟩, Kbt⟩
theorem Kbt_ok : FnOk Tryz.prog 68 Kbt_e := fnOk_mk (tb := [(58, Kbt_n58)]) (c := (Tryz.f68.body).getD .skip) mixed Tryz.func68 (bC Kds_ok bN) (by kernel_rfl) (by kernel_rfl) (by kernel_rfl) ⟨nodeLoop (by kernel_rfl) Kbt_s58 (by kernel_rfl) (by intro d; kernel_rfl), trivial⟩ (by intro d; kernel_rfl)
def Kee : t83 → Option Bool
 | (a, b) => (Kbt (a, b)).bind fun c => some c
def Kee_e : FEnt := ⟨8, [.tmp 4], [], [(.one, [.dat kk4]), (.one, [.dat kk4])], ⟨12, [⟨4, .one, [.dat .bool]⟩]⟩, Kee⟩
theorem Kee_ok : FnOk Tryz.prog 20 Kee_e := fnOk_mk (tb := []) (c := (Tryz.f20.body).getD .skip) mixed Tryz.func20 (bC Kbt_ok bN) (by kernel_rfl) (by kernel_rfl) (by kernel_rfl) trivial (by intro d; kernel_rfl)
def Kac_s14950 : List Int × (Int × Int) × t15 → Option (List Int × (Int × Int) × t15 ⊕ List Int × t8)
 | (a, (b, c), d, e, f, g) => bif decide (d ≤ c) then chk (fits (a.length + [d].length) 8) (some (.inl (a ++ [d], (b, c), w64 (d + 1), e, f, g))) else some (.inr (a, e, f, g))
def Kac_n14950 : NEnt := ⟨⟨29, [⟨3, .one, [.own true kI]⟩, ⟨5, .box, cc32⟩, ⟨6, .one, [.dat kI]⟩, ⟨7, .one, [.dat kk10]⟩, ⟨8, .one, [.dat kI]⟩, ⟨9, .one, [.dat kI]⟩]⟩, [(.exit 2, ⟨29, [⟨3, .one, [.own true kI]⟩, ⟨7, .one, [.dat kk10]⟩, ⟨8, .one, [.dat kI]⟩, ⟨9, .one, [.dat kI]⟩]⟩)], lp Kac_s14950⟩
def Kac_s58 : List Int × t8 → Option (List Int × t8 ⊕ List Int)
 | (a, b, c, d) => bif decide (d < c) then ix d b.length ((some (gx b d (0, 0))).bind fun (e, f) => (lp Kac_s14950 (a, (e, f), e, b, c, d)).bind fun (g, h, i, j) => some (.inl (g, h, i, w64 (j + 1)))) else some (.inr a)
def Kac_n58 : NEnt := ⟨⟨29, [⟨3, .one, [.own true kI]⟩, ⟨7, .one, [.dat kk10]⟩, ⟨8, .one, [.dat kI]⟩, ⟨9, .one, [.dat kI]⟩]⟩, [(.exit 0, ⟨29, [⟨3, .one, [.own true kI]⟩]⟩)], lp Kac_s58⟩
def Kac : List (Int × Int) → Option (List Int)
 | a => (lp Kac_s58 ([], a, ln a, 0)).bind fun b => some b
def Kac_e : FEnt := ⟨27, [.tmp 2], [], [(.one, [.dat kk10])], ⟨29, [⟨2, .one, [.own true kI]⟩]⟩, Kac⟩
theorem Kac_ok : FnOk Tryz.prog 72 Kac_e := fnOk_mk (tb := [(14950, Kac_n14950), (58, Kac_n58)]) (c := (Tryz.f72.body).getD .skip) mixed Tryz.func72 bN (by kernel_rfl) (by kernel_rfl) (by kernel_rfl) ⟨nodeLoop (by kernel_rfl) Kac_s14950 (by kernel_rfl) (by intro d; kernel_rfl), nodeLoop (by kernel_rfl) Kac_s58 (by kernel_rfl) (by intro d; kernel_rfl), trivial⟩ (by intro d; kernel_rfl)
def Ki_s31334 : List Int × List t56 × t13 → Option (List Int × List t56 × t13 ⊕ List Int × t70)
 | (a, b, c, d, e, f, g) => bif decide (g < f) then ix g e.length (lx g e.length (ix (gx e g 0) a.length (lx (gx e g 0) a.length (ix (gx e g 0) a.length (lx (gx e g 0) a.length ((some (sx a (gx e g 0) (w64 ((gx a (gx e g 0) 0) + 1)))).bind fun h => some (.inl (h, b, c, d, e, f, w64 (g + 1))))))))) else some (.inr (a, b, c, d))
def Ki_n31334 : NEnt := ⟨⟨52, [⟨3, .one, [.own true kI]⟩, ⟨15, .one, [.dat kk1]⟩, ⟨16, .one, [.dat kI]⟩, ⟨17, .one, [.dat kI]⟩, ⟨24, .one, [.own true kI]⟩, ⟨25, .one, [.dat kI]⟩, ⟨26, .one, [.dat kI]⟩]⟩, [(.exit 2, ⟨52, [⟨3, .one, [.own true kI]⟩, ⟨15, .one, [.dat kk1]⟩, ⟨16, .one, [.dat kI]⟩, ⟨17, .one, [.dat kI]⟩]⟩)], lp Ki_s31334⟩
def Ki_s122 : List Int × t70 → Option (List Int × t70 ⊕ List Int)
 | (a, b, c, d) => bif decide (d < c) then ix d b.length ((some (gx b d (0, 0, 0, [], 0, 0, 0, 0, [], [], []))).bind fun (e, f, g, h, i, j, k, l, m, n, o) => (Kac h).bind fun p => (lp Ki_s31334 (a, b, c, d, p, ln p, 0)).bind fun (q, r, s, t) => some (.inl (q, r, s, w64 (t + 1)))) else some (.inr a)
def Ki_n122 : NEnt := ⟨⟨52, [⟨3, .one, [.own true kI]⟩, ⟨15, .one, [.dat kk1]⟩, ⟨16, .one, [.dat kI]⟩, ⟨17, .one, [.dat kI]⟩]⟩, [(.exit 0, ⟨52, [⟨3, .one, [.own true kI]⟩]⟩)], lp Ki_s122⟩
def Ki_s506 : List Int × Int × t14 → Option (List Int × Int × t14 ⊕ Int)
 | (a, b, (_, _, _), c, d) => bif decide (d < c) then ix d a.length (lx d a.length (bif decide ((gx a d 0) > 1) then some (.inl (a, w64 (b + 1), ((), (), ()), c, w64 (d + 1))) else some (.inl (a, b, ((), (), ()), c, w64 (d + 1))))) else some (.inr b)
def Ki_n506 : NEnt := ⟨⟨52, [⟨3, .one, [.own true kI]⟩, ⟨8, .one, [.dat kI]⟩, ⟨38, .one, [.ref 3 0 [] false false kI]⟩, ⟨39, .one, [.dat kI]⟩, ⟨40, .one, [.dat kI]⟩]⟩, [(.exit 4, ⟨52, [⟨8, .one, [.dat kI]⟩]⟩)], lp Ki_s506⟩
def Ki : List t56 → Option Int
 | a => (Kak a).bind fun b => bif !b then some 0 else (lp Ki_s122 (List.replicate 10000 0, a, ln a, 0)).bind fun c => (lp Ki_s506 (c, 0, ((), (), ()), ln c, 0)).bind fun d => some d
def Ki_e : FEnt := ⟨50, [.tmp 2], [], [(.one, [.dat kk1])], ⟨52, [⟨2, .one, [.dat kI]⟩]⟩, Ki⟩
theorem Ki_ok : FnOk Tryz.prog 23 Ki_e := fnOk_mk (tb := [(506, Ki_n506), (31334, Ki_n31334), (122, Ki_n122)]) (c := (Tryz.f23.body).getD .skip) mixed Tryz.func23 (bC Kak_ok (bC Kac_ok bN)) (by kernel_rfl) (by kernel_rfl) (by kernel_rfl) ⟨nodeLoop (by kernel_rfl) Ki_s506 (by kernel_rfl) (by intro d; kernel_rfl), nodeLoop (by kernel_rfl) Ki_s31334 (by kernel_rfl) (by intro d; kernel_rfl), nodeLoop (by kernel_rfl) Ki_s122 (by kernel_rfl) (by intro d; kernel_rfl), trivial⟩ (by intro d; kernel_rfl)
def Kdn : List Int × Int → Option Int
 | (a, b) => bif decide (b < (ln a)) then ix b a.length (some (w64 (gx a b 0))) else some (Int.tmod (w64 ((w64 (b * 7)) + (ln a))) 256)
def Kdn_e : FEnt := ⟨20, [.tmp 4], [], [(.one, [.dat (.list kB)]), (.one, [.dat kI])], ⟨24, [⟨4, .one, [.dat kI]⟩]⟩, Kdn⟩
theorem Kdn_ok : FnOk Tryz.prog 24 Kdn_e := fnOk_mk (tb := []) (c := (Tryz.f24.body).getD .skip) mixed Tryz.func24 bN (by kernel_rfl) (by kernel_rfl) (by kernel_rfl) trivial (by intro d; kernel_rfl)
def Kbh_s58 : List t54 × t14 → Option (List t54 × t14 ⊕ Unit ⊕ List t54)
 | (a, (_, _, _), b, c) => bif decide (c < b) then ix c a.length (lx c a.length ((some (gx a c (0, 0, [], 0, 0, 0, 0, [], [], []))).bind fun (d, e, f, g, h, i, j, k, l, m) => (Kdd (d, e, f, g, h, i, j, k, l, m)).bind fun n => bif !n then some (.inr (.inl ())) else some (.inl (a, ((), (), ()), b, w64 (c + 1))))) else some (.inr (.inr a))
def Kbh_n58 : NEnt := ⟨⟨28, [⟨5, .one, [.own false kk5]⟩, ⟨12, .one, [.ref 5 0 [] false false kk5]⟩, ⟨13, .one, [.dat kI]⟩, ⟨14, .one, [.dat kI]⟩]⟩, [(.ret, ⟨28, [⟨4, .one, [.nil]⟩]⟩), (.exit 0, ⟨28, [⟨5, .one, [.own false kk5]⟩]⟩)], lp Kbh_s58⟩
def Kbh : t83 → Option (List t54)
 | (a, b) => chk (fits a.length 144) (chk (fits (a.length + b.length) 144) ((some (a ++ b)).bind fun c => bx (lp Kbh_s58 (c, ((), (), ()), ln c, 0)) (fun _ => some []) fun d => (Ks d).bind fun e => some e))
def Kbh_e : FEnt := ⟨24, [.tmp 4], [], [(.one, [.dat kk4]), (.one, [.dat kk4])], ⟨28, [⟨4, .one, [.own true kk5]⟩]⟩, Kbh⟩
theorem Kbh_ok : FnOk Tryz.prog 25 Kbh_e := fnOk_mk (tb := [(58, Kbh_n58)]) (c := (Tryz.f25.body).getD .skip) mixed Tryz.func25 (bC Kdd_ok (bC Ks_ok bN)) (by kernel_rfl) (by kernel_rfl) (by kernel_rfl) ⟨nodeLoop (by kernel_rfl) Kbh_s58 (by kernel_rfl) (by intro d; kernel_rfl), trivial⟩ (by intro d; kernel_rfl)
def impl_SpEq__s58 : t29 → Option (t29 ⊕ Bool ⊕ Unit)
 | (a, b, c, d) => bif decide (d < c) then ix d a.length ((some (gx a d (0, 0))).bind fun (e, f) => ix d b.length ((some (gx b d (0, 0))).bind fun (g, h) => bif !((e == g) && ((f == h) && true)) then some (.inr (.inl false)) else some (.inl (a, b, c, w64 (d + 1))))) else some (.inr (.inr ()))
def impl_Span__n58 : NEnt := ⟨⟨30, [⟨0, .one, [.dat kk10]⟩, ⟨1, .one, [.dat kk10]⟩, ⟨12, .one, [.dat kI]⟩, ⟨13, .one, [.dat kI]⟩]⟩, [(.ret, ⟨30, [⟨4, .one, [.dat .bool]⟩]⟩), (.exit 0, ⟨30, []⟩)], lp impl_SpEq__s58⟩
def impl_SpEq_ : t16 → Option Bool
 | (a, b) => bif (ln a) != (ln b) then some false else bx (lp impl_SpEq__s58 (a, b, ln a, 0)) (fun c => some c) fun _ => some true
def impl_Span__e : FEnt := ⟨26, [.tmp 4], [], [(.one, [.dat kk10]), (.one, [.dat kk10])], ⟨30, [⟨4, .one, [.dat .bool]⟩]⟩, impl_SpEq_⟩
theorem impl_Span__ok : FnOk Tryz.prog 125 impl_Span__e := fnOk_mk (tb := [(58, impl_Span__n58)]) (c := (Tryz.f125.body).getD .skip) mixed Tryz.func125 bN (by kernel_rfl) (by kernel_rfl) (by kernel_rfl) ⟨nodeLoop (by kernel_rfl) impl_SpEq__s58 (by kernel_rfl) (by intro d; kernel_rfl), trivial⟩ (by intro d; kernel_rfl)
def slices_Equal___int_int__s58 : t11 → Option (t11 ⊕ Bool ⊕ Unit)
 | (a, b, c, d) => bif decide (d < c) then ix d a.length (ix d b.length (bif (gx a d 0) != (gx b d 0) then some (.inr (.inl false)) else some (.inl (a, b, c, w64 (d + 1))))) else some (.inr (.inr ()))
def slices_Equal___int_int__n58 : NEnt := ⟨⟨30, [⟨0, .one, [.dat (.list kI)]⟩, ⟨1, .one, [.dat (.list kI)]⟩, ⟨12, .one, [.dat kI]⟩, ⟨13, .one, [.dat kI]⟩]⟩, [(.ret, ⟨30, [⟨4, .one, [.dat .bool]⟩]⟩), (.exit 0, ⟨30, []⟩)], lp slices_Equal___int_int__s58⟩
def slices_Equal___int_int_ : List Int × List Int → Option Bool
 | (a, b) => bif (ln a) != (ln b) then some false else bx (lp slices_Equal___int_int__s58 (a, b, ln a, 0)) (fun c => some c) fun _ => some true
def slices_Equal___int_int__e : FEnt := ⟨26, [.tmp 4], [], [(.one, [.dat (.list kI)]), (.one, [.dat (.list kI)])], ⟨30, [⟨4, .one, [.dat .bool]⟩]⟩, slices_Equal___int_int_⟩
theorem slices_Equal___int_int__ok : FnOk Tryz.prog 97 slices_Equal___int_int__e := fnOk_mk (tb := [(58, slices_Equal___int_int__n58)]) (c := (Tryz.f97.body).getD .skip) mixed Tryz.func97 bN (by kernel_rfl) (by kernel_rfl) (by kernel_rfl) ⟨nodeLoop (by kernel_rfl) slices_Equal___int_int__s58 (by kernel_rfl) (by intro d; kernel_rfl), trivial⟩ (by intro d; kernel_rfl)
def slices_EqualFunc_____int_____int___int___int__s58 : List (List Int) × Unit × t7 → Option (List (List Int) × Unit × t7 ⊕ Bool ⊕ Unit)
 | (a, _, b, c, d) => bif decide (d < c) then ix d b.length (ix d a.length ((slices_Equal___int_int_ (gx b d [], gx a d [])).bind fun e => bif !e then some (.inr (.inl false)) else some (.inl (a, (), b, c, w64 (d + 1))))) else some (.inr (.inr ()))
def slices_EqualFunc_____int_____int___int___int__n58 : NEnt := ⟨⟨38, [⟨1, .one, [.dat kk11]⟩, ⟨2, .one, [.fn 97 []]⟩, ⟨15, .one, [.dat kk11]⟩, ⟨16, .one, [.dat kI]⟩, ⟨17, .one, [.dat kI]⟩]⟩, [(.ret, ⟨38, [⟨6, .one, [.dat .bool]⟩]⟩), (.exit 0, ⟨38, []⟩)], lp slices_EqualFunc_____int_____int___int___int__s58⟩
def slices_EqualFunc_____int_____int___int___int_ : List (List Int) × List (List Int) × Unit → Option Bool
 | (a, b, _) => bif (ln a) != (ln b) then some false else bx (lp slices_EqualFunc_____int_____int___int___int__s58 (b, (), a, ln a, 0)) (fun c => some c) fun _ => some true
def slices_EqualFunc_____int_____int___int___int__e : FEnt := ⟨32, [.tmp 6], [], [(.one, [.dat kk11]), (.one, [.dat kk11]), (.one, [.fn 97 []])], ⟨38, [⟨6, .one, [.dat .bool]⟩]⟩, slices_EqualFunc_____int_____int___int___int_⟩
theorem slices_EqualFunc_____int_____int___int___int__ok : FnOk Tryz.prog 98 slices_EqualFunc_____int_____int___int___int__e := fnOk_mk (tb := [(58, slices_EqualFunc_____int_____int___int___int__n58)]) (c := (Tryz.f98.body).getD .skip) mixed Tryz.func98 (bC slices_Equal___int_int__ok bN) (by kernel_rfl) (by kernel_rfl) (by kernel_rfl) ⟨nodeLoop (by kernel_rfl) slices_EqualFunc_____int_____int___int___int__s58 (by kernel_rfl) (by intro d; kernel_rfl), trivial⟩ (by intro d; kernel_rfl)
def Kdv : t38 × t38 → Option Bool
 | ((a, b, c, d, e, f, g), h, i, j, k, l, m, n) => bif a == h then bif b == i then bif c == j then bif d == k then (slices_Equal___int_int_ (e, l)).bind fun o => bif o then (slices_Equal___int_int_ (f, m)).bind fun p => bif p then (slices_EqualFunc_____int_____int___int___int_ (g, n, ())).bind fun q => some q else some false else some false else some false else some false else some false else some false
def Kdv_e : FEnt := ⟨52, [.tmp 4], [], [(.agg, cc17), (.agg, cc17)], ⟨56, [⟨4, .one, [.dat .bool]⟩]⟩, Kdv⟩
theorem Kdv_ok : FnOk Tryz.prog 41 Kdv_e := fnOk_mk (tb := []) (c := (Tryz.f41.body).getD .skip) mixed Tryz.func41 (bC slices_Equal___int_int__ok (bC slices_EqualFunc_____int_____int___int___int__ok bN)) (by kernel_rfl) (by kernel_rfl) (by kernel_rfl) trivial (by intro d; kernel_rfl)
def Kec : t54 × t54 → Option Bool
 | ((a, b, c, d, e, f, g, h, i, j), k, l, m, n, o, p, q, r, s, t) => bif a == k then bif b == l then (impl_SpEq_ (c, m)).bind fun u => bif u then (Kdv ((d, e, f, g, h, i, j), n, o, p, q, r, s, t)).bind fun v => some v else some false else some false else some false
def Kec_e : FEnt := ⟨31, [.tmp 4], [], [(.agg, cc15), (.agg, cc15)], ⟨35, [⟨4, .one, [.dat .bool]⟩]⟩, Kec⟩
theorem Kec_ok : FnOk Tryz.prog 74 Kec_e := fnOk_mk (tb := []) (c := (Tryz.f74.body).getD .skip) mixed Tryz.func74 (bC impl_Span__ok (bC Kdv_ok bN)) (by kernel_rfl) (by kernel_rfl) (by kernel_rfl) trivial (by intro d; kernel_rfl)
def Kce_s58 : List t54 × Unit × t66 → Option (List t54 × Unit × t66 ⊕ Bool ⊕ Unit)
 | (a, _, b, c, d) => bif decide (d < c) then ix d b.length ((some (gx b d (0, 0, [], 0, 0, 0, 0, [], [], []))).bind fun (e, f, g, h, i, j, k, l, m, n) => ix d a.length ((some (gx a d (0, 0, [], 0, 0, 0, 0, [], [], []))).bind fun (o, p, q, r, s, t, u, v, w, x) => (Kec ((e, f, g, h, i, j, k, l, m, n), o, p, q, r, s, t, u, v, w, x)).bind fun y => bif !y then some (.inr (.inl false)) else some (.inl (a, (), b, c, w64 (d + 1))))) else some (.inr (.inr ()))
def Kce_n58 : NEnt := ⟨⟨38, [⟨1, .one, [.dat kk4]⟩, ⟨2, .one, [.fn 74 []]⟩, ⟨15, .one, [.dat kk4]⟩, ⟨16, .one, [.dat kI]⟩, ⟨17, .one, [.dat kI]⟩]⟩, [(.ret, ⟨38, [⟨6, .one, [.dat .bool]⟩]⟩), (.exit 0, ⟨38, []⟩)], lp Kce_s58⟩
def Kce : List t54 × t63 → Option Bool
 | (a, b, _) => (some ((ln a) != (ln b))).bind fun c => bif c then some false else bx (lp Kce_s58 (b, (), a, ln a, 0)) (fun d => some d) fun _ => some true
def Kce_e : FEnt := ⟨32, [.tmp 6], [], [(.one, [.dat kk4]), (.one, [.dat kk4]), (.one, [.fn 74 []])], ⟨38, [⟨6, .one, [.dat .bool]⟩]⟩, Kce⟩
theorem Kce_ok : FnOk Tryz.prog 73 Kce_e := fnOk_mk (tb := [(58, Kce_n58)]) (c := (Tryz.f73.body).getD .skip) mixed Tryz.func73 (bC Kec_ok bN) (by kernel_rfl) (by kernel_rfl) (by kernel_rfl) ⟨nodeLoop (by kernel_rfl) Kce_s58 (by kernel_rfl) (by intro d; kernel_rfl), trivial⟩ (by intro d; kernel_rfl)
def Kdj : t83 → Option Bool
 | (a, b) => (Kce (a, b, ())).bind fun c => some c
def Kdj_e : FEnt := ⟨8, [.tmp 4], [], [(.one, [.dat kk4]), (.one, [.dat kk4])], ⟨12, [⟨4, .one, [.dat .bool]⟩]⟩, Kdj⟩
theorem Kdj_ok : FnOk Tryz.prog 26 Kdj_e := fnOk_mk (tb := []) (c := (Tryz.f26.body).getD .skip) mixed Tryz.func26 (bC Kce_ok bN) (by kernel_rfl) (by kernel_rfl) (by kernel_rfl) trivial (by intro d; kernel_rfl)
def Kv_s31306 : t75 → Option (t75 ⊕ List t56 × Int × Int × Int)
 | (a, b, c, d, e) => (some (decide (e < (ln a)))).bind fun f => bif f then ix e a.length ((some (gx a e (0, 0, 0, [], 0, 0, 0, 0, [], [], []))).bind fun (g, h, i, j, k, l, m, n, o, p, q) => (Kaf (j, c)).bind fun r => (Kcg r).bind fun s => some (.inl (a, b, c, w64 (d + s), w64 (e + 1)))) else some (.inr (a, b, c, d))
def Kv_n31306 : NEnt := ⟨⟨40, [⟨0, .one, [.dat kk1]⟩, ⟨3, .one, [.dat kI]⟩, ⟨4, .one, [.dat kI]⟩, ⟨5, .one, [.dat kI]⟩, ⟨6, .one, [.dat kI]⟩]⟩, [(.exit 2, ⟨40, [⟨0, .one, [.dat kk1]⟩, ⟨3, .one, [.dat kI]⟩, ⟨4, .one, [.dat kI]⟩, ⟨5, .one, [.dat kI]⟩]⟩)], lp Kv_s31306⟩
def Kv_s122 : t70 → Option (t70 ⊕ Int)
 | (a, b, c) => bif decide (c ≤ 9999) then (lp Kv_s31306 (a, b, c, 0, 0)).bind fun (d, e, f, g) => (Kcg (decide (g > 1))).bind fun h => some (.inl (d, w64 (e + h), w64 (f + 1))) else some (.inr b)
def Kv_n122 : NEnt := ⟨⟨40, [⟨0, .one, [.dat kk1]⟩, ⟨3, .one, [.dat kI]⟩, ⟨4, .one, [.dat kI]⟩]⟩, [(.exit 0, ⟨40, [⟨3, .one, [.dat kI]⟩]⟩)], lp Kv_s122⟩
def Kv : List t56 → Option Int
 | a => (Kai a).bind fun b => bif !b then some 0 else (lp Kv_s122 (a, 0, 0)).bind fun c => some c
def Kv_e : FEnt := ⟨38, [.tmp 2], [], [(.one, [.dat kk1])], ⟨40, [⟨2, .one, [.dat kI]⟩]⟩, Kv⟩
theorem Kv_ok : FnOk Tryz.prog 27 Kv_e := fnOk_mk (tb := [(31306, Kv_n31306), (122, Kv_n122)]) (c := (Tryz.f27.body).getD .skip) mixed Tryz.func27 (bC Kai_ok (bC Kaf_ok (bC Kcg_ok bN))) (by kernel_rfl) (by kernel_rfl) (by kernel_rfl) ⟨nodeLoop (by kernel_rfl) Kv_s31306 (by kernel_rfl) (by intro d; kernel_rfl), nodeLoop (by kernel_rfl) Kv_s122 (by kernel_rfl) (by intro d; kernel_rfl), trivial⟩ (by intro d; kernel_rfl)
def Keg : List Int → Option Bool
 | a => (Keh a).bind fun b => bif b then some true else (Kdu a).bind fun c => (Kdg c).bind fun d => (Kbs c).bind fun e => (Kee (d, e)).bind fun f => bif !f then some false else (Kak c).bind fun g => (Kai c).bind fun h => bif !(g == h) then some false else (Kai c).bind fun i => bif !i then bif (ln d) == 0 then (Ki c).bind fun j => some (j == 0) else some false else (Kdn (a, 2)).bind fun j => (some (w64 ((ln c) + 1))).bind fun k => chk (!(decide (k = 0))) (g0 (Int.tmod j k) (chk (decide ((0 ≤ (Int.tmod j k).toNat) ∧ ((Int.tmod j k).toNat ≤ c.length))) ((Kdg (List.take (Int.tmod j k).toNat c)).bind fun l => g0 (Int.tmod j k) (chk (decide (((Int.tmod j k).toNat ≤ c.length) ∧ (c.length ≤ c.length))) ((Kdg (List.drop (Int.tmod j k).toNat c)).bind fun m => (Kbh (l, m)).bind fun n => (Kdj (n, d)).bind fun o => bif o then (Ki c).bind fun p => (Kv c).bind fun q => bif p == q then (some (decide ((ln d) ≤ (ln c)))).bind fun r => bif r then (Kbh (d, [])).bind fun s => (Kdj (s, d)).bind fun t => some t else some false else some false else some false)))))
def Keg_e : FEnt := ⟨74, [.tmp 2], [], [(.one, [.dat (.list kB)])], ⟨76, [⟨2, .one, [.dat .bool]⟩]⟩, Keg⟩
theorem Keg_ok : FnOk Tryz.prog 4 Keg_e := fnOk_mk (tb := []) (c := (Tryz.f4.body).getD .skip) mixed Tryz.func4 (bC Keh_ok (bC Kdu_ok (bC Kdg_ok (bC Kbs_ok (bC Kee_ok (bC Kak_ok (bC Kai_ok (bC Ki_ok (bC Kdn_ok (bC Kbh_ok (bC Kdj_ok (bC Kv_ok bN)))))))))))) (by kernel_rfl) (by kernel_rfl) (by kernel_rfl) trivial (by intro d; kernel_rfl)
end Go.Proofs.YtppjdpcmaipoaaaGreat.Tw
namespace Go.Mach
set_option linter.unusedVariables false
theorem dT {p : Prop} [Decidable p] (h : p) : decide p = true := decide_eq_true h
theorem dF {p : Prop} [Decidable p] (h : ¬p) : decide p = false := decide_eq_false h
theorem chk_ok {R : Type} {b : Bool} (h : b = true) (k : Option R) : chk b k = k := by rw [h]; rfl
theorem chk_tt {R : Type} (k : Option R) : chk true k = k := rfl
theorem chkD {R : Type} {p : Prop} [Decidable p] (h : p) (k : Option R) : chk (decide p) k = k := chk_ok (decide_eq_true h) k
theorem wr {n : Int} (h1 : -9223372036854775808 ≤ n) (h2 : n ≤ 9223372036854775807) : IntKind.wrap .i64 n = n := Go.IntWalk.i64_in n ⟨h1, h2⟩
theorem w64_ok {n : Int} (h1 : -9223372036854775808 ≤ n) (h2 : n ≤ 9223372036854775807) : w64 n = n := wr h1 h2
theorem wsucc {i : Nat} (h : i ≤ 1048576) : w64 ((i : Int) + 1) = ((i + 1 : Nat) : Int) := by rw [w64_ok (by omega) (by omega)]; rfl
theorem ixn {R : Type} {i n : Nat} (h : i < n) (k : Option R) : ix (i : Int) n k = k := ix_ok (by omega) (by omega) k
theorem lxn {R : Type} {i n : Nat} (h : i < n) (k : Option R) : lx (i : Int) n k = k := lx_ok (by omega) k
theorem gxn {α : Type} (l : List α) (i : Nat) (d : α) : gx l (i : Int) d = l.getD i d := rfl
theorem sxn {α : Type} (l : List α) (i : Nat) (v : α) : sx l (i : Int) v = l.set i v := rfl
theorem lnn {α : Type} (l : List α) : ln l = (l.length : Int) := rfl
theorem cast0 : ((0 : Nat) : Int) = 0 := rfl
theorem ltn {i n : Nat} (h : i < n) : decide ((i : Int) < (n : Int)) = true := decide_eq_true (by omega)
theorem ltF (n : Nat) : decide ((n : Int) < (n : Int)) = false := decide_eq_false (by omega)
theorem fits_ok {n b : Nat} (h : n ≤ 4294967296) (h2 : (2 * n + 512) * b ≤ 140737488355328) : fits n b = true := by
 unfold fits
 rw [decide_eq_true_eq]
 exact ⟨h, h2⟩
theorem fitsB {n b : Nat} (h : n ≤ 4194304) (hb : b ≤ 1000) : fits n b = true := by
 refine fits_ok (by omega) ?_
 calc (2 * n + 512) * b ≤ (2 * 4194304 + 512) * 1000 := Nat.mul_le_mul (by omega) hb
  _ ≤ _ := by omega
theorem fitsC {R : Type} {n b : Nat} (h : n ≤ 4194304) (hb : b ≤ 1000) (k : Option R) : chk (fits n b) k = k := by
 refine chk_ok (fits_ok (by omega) ?_) k
 calc (2 * n + 512) * b ≤ (2 * 4194304 + 512) * 1000 := Nat.mul_le_mul (by omega) hb
  _ ≤ _ := by omega
theorem getD_mem {α : Type} {l : List α} {i : Nat} {d : α} (h : i < l.length) : l.getD i d ∈ l := by
 simp [List.getD_eq_getElem?_getD, List.getElem?_eq_getElem h]
theorem getD_get {α : Type} {l : List α} {i : Nat} {d : α} (h : i < l.length) : l.getD i d = l[i] := by
 simp [List.getD_eq_getElem?_getD, List.getElem?_eq_getElem h]
theorem take_snoc {α : Type} {l : List α} {i : Nat} (d : α) (h : i < l.length) : l.take (i + 1) = l.take i ++ [l.getD i d] := by
 rw [List.take_succ_eq_append_getElem h, getD_get h]
theorem drop_cons {α : Type} {l : List α} {i : Nat} (d : α) (h : i < l.length) : l.drop i = l.getD i d :: l.drop (i + 1) := by
 rw [List.drop_eq_getElem_cons h, getD_get h]
theorem bnot_cond {β : Type} (b : Bool) (x y : β) : (bif !b then x else y) = bif b then y else x := by cases b <;> rfl
theorem bif_dec {β : Type} (p : Prop) [Decidable p] (x y : β) : (bif decide p then x else y) = if p then x else y := by by_cases h : p <;> simp [h]
theorem lp_from {σ β : Type} {S : σ → Option (σ ⊕ β)} (st : Nat → σ) {n : Nat} {b : β} (h1 : ∀ i, i < n → S (st i) = some (.inl (st (i + 1)))) (h2 : S (st n) = some (.inr b)) : ∀ f k, k ≤ n → n - k < f → iter S f (st k) = some b
 | 0, k, _, h => by omega
 | f + 1, k, hk, h => by
  simp only [iter]
  by_cases hn : k < n
  ·rw [h1 k hn]; exact lp_from st h1 h2 f (k + 1) (by omega) (by omega)
  ·obtain rfl : k = n := by omega
   rw [h2]
theorem lp_det {σ β : Type} {S : σ → Option (σ ⊕ β)} (st : Nat → σ) {n : Nat} (hn : n ≤ 1048576) {b : β} (h1 : ∀ i, i < n → S (st i) = some (.inl (st (i + 1)))) (h2 : S (st n) = some (.inr b)) : lp S (st 0) = some b :=
 lp_from st h1 h2 bigN 0 (Nat.zero_le _) (by simp only [bigN]; omega)
theorem lp_exit_from {σ β : Type} {S : σ → Option (σ ⊕ β)} (st : Nat → σ) {n : Nat} (p : Nat → Bool) {t e : β}
  (h1 : ∀ i, i < n → S (st i) = some (bif p i then .inl (st (i + 1)) else .inr e)) (h2 : S (st n) = some (.inr t)) : ∀ (f k : Nat), k ≤ n → n - k < f → iter S f (st k) = some (bif (List.range' k (n - k)).all p then t else e)
 | 0, k, _, h => by omega
 | f + 1, k, hk, h => by
  simp only [iter]
  by_cases hn : k < n
  ·rw [h1 k hn, show n - k = (n - (k + 1)) + 1 by omega, List.range'_succ, List.all_cons]
   cases hp : p k with
   | true =>
    simp only [cond_true, Bool.true_and]
    exact lp_exit_from st p h1 h2 f (k + 1) (by omega) (by omega)
   | false => simp
  ·obtain rfl : k = n := by omega
   rw [h2]
   simp
theorem all_range {α : Type} (d : α) (p : α → Bool) (a : List α) : (List.range a.length).all (fun i => p (a.getD i d)) = a.all p := by
 rw [Bool.eq_iff_iff]
 simp only [List.all_eq_true, List.mem_range]
 constructor
 ·intro q x hx
  obtain ⟨i, hi⟩ := List.getElem?_of_mem hx
  have hil := (List.getElem?_eq_some_iff.1 hi).1
  have := q i hil
  simpa [List.getD_eq_getElem?_getD, hi] using this
 ·intro q i hi
  exact q _ (getD_mem hi)
theorem lp_all {α σ β : Type} {S : σ → Option (σ ⊕ β)} (l : List α) (d : α) (st : Nat → σ) (hl : l.length ≤ 1048576) (p : α → Bool) {t e : β}
  (h1 : ∀ i, i < l.length → l.getD i d ∈ l → S (st i) = some (bif p (l.getD i d) then .inl (st (i + 1)) else .inr e)) (h2 : S (st l.length) = some (.inr t)) : lp S (st 0) = some (bif l.all p then t else e) := by
 have := lp_exit_from st (n := l.length) (fun i => p (l.getD i d)) (fun i hi => h1 i hi (getD_mem hi)) h2 bigN 0 (Nat.zero_le _) (by simp only [bigN]; omega)
 rw [Nat.sub_zero, ← List.range_eq_range', all_range d p l] at this
 exact this
def goL {α γ β : Type} (g : γ → α → γ ⊕ β) (out : γ → β) : List α → γ → β
 | [], a => out a
 | x :: r, a => match g a x with
  | .inl a' => goL g out r a'
  | .inr b => b
theorem lp_go_from {α γ σ β : Type} {S : σ → Option (σ ⊕ β)} (l : List α) (d : α) (mk : γ → Nat → σ) (g : γ → α → γ ⊕ β) (out : γ → β) (I : γ → Nat → Prop)
  (h1 : ∀ a i, i < l.length → I a i → l.getD i d ∈ l → S (mk a i) = some (match g a (l.getD i d) with | .inl a' => .inl (mk a' (i + 1)) | .inr b => .inr b) ∧ ∀ a', g a (l.getD i d) = .inl a' → I a' (i + 1))
  (h2 : ∀ a, I a l.length → S (mk a l.length) = some (.inr (out a))) : ∀ f k a, I a k → k ≤ l.length → l.length - k < f → iter S f (mk a k) = some (goL g out (l.drop k) a)
 | 0, k, a, _, _, h => by omega
 | f + 1, k, a, hi, hk, h => by
  simp only [iter]
  by_cases hn : k < l.length
  ·obtain ⟨e1, e2⟩ := h1 a k hn hi (getD_mem hn)
   rw [e1, drop_cons d hn]
   simp only [goL]
   cases hg : g a (l.getD k d) with
   | inl a' => exact lp_go_from l d mk g out I h1 h2 f (k + 1) a' (e2 a' hg) (by omega) (by omega)
   | inr b => rfl
  ·obtain rfl : k = l.length := by omega
   rw [h2 a hi, List.drop_length]
   rfl
theorem lp_go {α γ σ β : Type} {S : σ → Option (σ ⊕ β)} (l : List α) (d : α) (mk : γ → Nat → σ) (g : γ → α → γ ⊕ β) (out : γ → β) (I : γ → Nat → Prop) (hl : l.length ≤ 1048576)
  (h1 : ∀ a i, i < l.length → I a i → l.getD i d ∈ l → S (mk a i) = some (match g a (l.getD i d) with | .inl a' => .inl (mk a' (i + 1)) | .inr b => .inr b) ∧ ∀ a', g a (l.getD i d) = .inl a' → I a' (i + 1))
  (h2 : ∀ a, I a l.length → S (mk a l.length) = some (.inr (out a))) {a0 : γ} (h0 : I a0 0) : lp S (mk a0 0) = some (goL g out l a0) := by
 have := lp_go_from l d mk g out I h1 h2 bigN 0 a0 h0 (Nat.zero_le _) (by simp only [bigN]; omega)
 rw [List.drop_zero] at this
 exact this
theorem lp_fold {α γ σ β : Type} {S : σ → Option (σ ⊕ β)} (l : List α) (d : α) (mk : γ → Nat → σ) (g : γ → α → γ) (out : γ → β) (I : γ → Nat → Prop) (hl : l.length ≤ 1048576)
  (h1 : ∀ a i, i < l.length → I a i → l.getD i d ∈ l → S (mk a i) = some (.inl (mk (g a (l.getD i d)) (i + 1))) ∧ I (g a (l.getD i d)) (i + 1))
  (h2 : ∀ a, I a l.length → S (mk a l.length) = some (.inr (out a))) {a0 : γ} (h0 : I a0 0) : lp S (mk a0 0) = some (out (l.foldl g a0)) := by
 rw [lp_go l d mk (fun a x => (.inl (g a x) : γ ⊕ β)) out I hl (fun a i hi hI hm => ⟨(h1 a i hi hI hm).1, fun a' h => by simp only [Sum.inl.injEq] at h; rw [← h]; exact (h1 a i hi hI hm).2⟩) h2 h0]
 congr 1
 clear h1 h2 hl
 induction l generalizing a0 with
 | nil => rfl
 | cons x r ih =>
  have : ∀ (q : List α) (a : γ), goL (fun a x => (.inl (g a x) : γ ⊕ β)) out q a = out (q.foldl g a) := by
   intro q
   induction q with
   | nil => intro a; rfl
   | cons y q ih => intro a; simp only [goL, List.foldl_cons]; exact ih _
  exact this _ _
theorem lp_pair_from {σ τ β γ δ : Type} {S : σ → Option (σ ⊕ β)} {T : τ → Option (τ ⊕ γ)} (R : σ → τ → Prop) (μ : σ → Nat) (E : β → γ → Prop)
  (h : ∀ s t, R s t → (∃ s' t', S s = some (.inl s') ∧ T t = some (.inl t') ∧ R s' t' ∧ μ s' < μ s) ∨ ∃ b c, S s = some (.inr b) ∧ T t = some (.inr c) ∧ E b c) : ∀ f s t, R s t → μ s < f → ∃ b c, iter S f s = some b ∧ iter T f t = some c ∧ E b c
 | 0, s, t, _, hm => by omega
 | f + 1, s, t, hr, hm => by
  simp only [iter]
  rcases h s t hr with ⟨s', t', e1, e2, e3, e4⟩ | ⟨b, c, e1, e2, e3⟩
  ·rw [e1, e2]; exact lp_pair_from (δ := δ) R μ E h f s' t' e3 (by omega)
  ·rw [e1, e2]; exact ⟨b, c, rfl, rfl, e3⟩
theorem lp_pair {σ τ β γ : Type} {S : σ → Option (σ ⊕ β)} {T : τ → Option (τ ⊕ γ)} (R : σ → τ → Prop) (μ : σ → Nat) (E : β → γ → Prop)
  (h : ∀ s t, R s t → (∃ s' t', S s = some (.inl s') ∧ T t = some (.inl t') ∧ R s' t' ∧ μ s' < μ s) ∨ ∃ b c, S s = some (.inr b) ∧ T t = some (.inr c) ∧ E b c) {s : σ} {t : τ} (hr : R s t) (hm : μ s ≤ 1048576) :
  ∃ b c, lp S s = some b ∧ lp T t = some c ∧ E b c :=
 lp_pair_from (δ := Unit) R μ E h bigN s t hr (by simp only [bigN]; omega)
end Go.Mach
namespace Go.Mach
set_option linter.unusedVariables false
end Go.Mach
namespace Go.Proofs.YtppjdpcmaipoaaaGreat.Tw
open Go.Mach
set_option linter.unusedVariables false
set_option linter.unusedSimpArgs false
set_option maxRecDepth 20000
abbrev SpT := Int × Int
abbrev SkT := Int × Int × Int × Int × List Int × List Int × List (List Int)
abbrev EnT := Int × Int × List SpT × SkT
def SkLe (b : Nat) (s : SkT) : Prop := s.2.2.2.2.1.length ≤ b ∧ s.2.2.2.2.2.1.length ≤ b ∧ s.2.2.2.2.2.2.length ≤ b ∧ ∀ r ∈ s.2.2.2.2.2.2, r.length ≤ b
def EnLe (b : Nat) (e : EnT) : Prop := e.2.2.1.length ≤ b ∧ SkLe b e.2.2.2
abbrev en0 : EnT := (0, 0, [], 0, 0, 0, 0, [], [], [])
def EnsLe (b : Nat) (l : List EnT) : Prop := l.length ≤ b ∧ ∀ e ∈ l, EnLe b e
end Go.Proofs.YtppjdpcmaipoaaaGreat.Tw
namespace Go.Mach
theorem can_iff : ∀ {l : List Sp2}, Canon l ↔ (∀ i, i < l.length → (l.getD i (0, 0)).1 ≤ (l.getD i (0, 0)).2) ∧ ∀ i, i + 1 < l.length → (l.getD i (0, 0)).2 + 1 < (l.getD (i + 1) (0, 0)).1
 | [] => by simp [Canon]
 | x :: r => by
  have ih := can_iff (l := r)
  constructor
  ·rintro ⟨h1, h2, h3⟩
   obtain ⟨g1, g2⟩ := ih.1 h3
   refine ⟨fun i hi => ?_, fun i hi => ?_⟩
   ·cases i with
    | zero => exact h1
    | succ i => exact g1 i (by simpa using hi)
   ·cases i with
    | zero => exact h2 _ (getD_mem (by simpa using hi))
    | succ i => exact g2 i (by simpa using hi)
  ·rintro ⟨h1, h2⟩
   have h3 : Canon r := ih.2 ⟨fun i hi => h1 (i + 1) (by simpa using hi), fun i hi => h2 (i + 1) (by simpa using hi)⟩
   refine ⟨h1 0 (by simp), fun y hy => ?_, h3⟩
   cases r with
   | nil => simp at hy
   | cons z r =>
    have q := h2 0 (by simp)
    have q' : x.2 + 1 < z.1 := q
    have := h3.head_le (n := y.1) ⟨y, hy, Int.le_refl _, h3.mem y hy⟩
    omega
end Go.Mach
namespace Go.Proofs.YtppjdpcmaipoaaaGreat.Tw
open Go.Mach
set_option linter.unusedVariables false
set_option linter.unusedSimpArgs false
set_option maxRecDepth 20000
def inR (x a b : Int) : Bool := decide (x ≥ a) && decide (x ≤ b)
theorem l1In_eq (x a b : Int) : Kb (x, a, b) = some (inR x a b) := by unfold inR; simp only [Kb]; cases decide (x ≥ a) <;> rfl
theorem within_eq (x a b : Int) : Kca (x, a, b) = some (inR x a b) := by unfold inR; simp only [Kca]; cases decide (x ≥ a) <;> rfl
theorem inR_iff {x a b : Int} : inR x a b = true ↔ a ≤ x ∧ x ≤ b := by unfold inR; simp
theorem bne_cond {α β : Type} [DecidableEq α] (u v : α) (x y : β) : (bif u != v then x else y) = if u = v then y else x := by
 by_cases h : u = v
 ·rw [if_pos h, h, bne_self_eq_false, cond_false]
 ·rw [if_neg h, bne_iff_ne.2 h, cond_true]
theorem beq_cond {α β : Type} [DecidableEq α] (u v : α) (x y : β) : (bif u == v then x else y) = if u = v then x else y := by
 by_cases h : u = v
 ·rw [if_pos h, h, beq_self_eq_true, cond_true]
 ·rw [if_neg h, beq_eq_false_iff_ne.2 h, cond_false]
theorem wpred {i : Nat} (h : 0 < i) (h' : i ≤ 1048576) : w64 ((i : Int) - 1) = ((i - 1 : Nat) : Int) := by
 rw [w64_ok (by omega) (by omega)]
 omega
def spanOk (l : List SpT) (i : Nat) : Bool :=
 inR (l.getD i (0, 0)).1 0 9999 && (inR (l.getD i (0, 0)).2 (l.getD i (0, 0)).1 9999 && !(decide (0 < i) && decide ((l.getD i (0, 0)).1 ≤ w64 ((l.getD (i - 1) (0, 0)).2 + 1))))
def setOk (l : List SpT) : Bool := (List.range l.length).all (spanOk l)
theorem setOk_iff {l : List SpT} : setOk l = true ↔ Canon l ∧ ∀ x ∈ l, 0 ≤ x.1 ∧ x.2 ≤ 9999 := by
 unfold setOk
 simp only [List.all_eq_true, List.mem_range, spanOk, Bool.and_eq_true, inR_iff, Bool.not_eq_true', Bool.and_eq_false_imp, decide_eq_true_eq, decide_eq_false_iff_not]
 rw [can_iff]
 constructor
 ·intro h
  have hb : ∀ x ∈ l, 0 ≤ x.1 ∧ x.2 ≤ 9999 := by
   intro x hx
   obtain ⟨i, hi⟩ := List.getElem?_of_mem hx
   have hil := (List.getElem?_eq_some_iff.1 hi).1
   have := h i hil
   have e : l.getD i (0, 0) = x := by simp [List.getD_eq_getElem?_getD, hi]
   rw [e] at this
   exact ⟨this.1.1, this.2.1.2⟩
  refine ⟨⟨fun i hi => (h i hi).2.1.1, fun i hi => ?_⟩, hb⟩
  have h1 := (h (i + 1) hi).2.2 (by omega)
  have h2 := hb _ (getD_mem (d := (0, 0)) (show i < l.length by omega))
  have h3 := (h i (by omega)).2.1
  rw [Nat.add_sub_cancel, w64_ok (by omega) (by omega)] at h1
  omega
 ·rintro ⟨⟨h1, h2⟩, h3⟩ i hi
  have q := h3 _ (getD_mem (d := (0, 0)) hi)
  have q1 := h1 i hi
  refine ⟨⟨q.1, by omega⟩, ⟨q1, q.2⟩, fun hp => ?_⟩
  have q2 := h3 _ (getD_mem (d := (0, 0)) (show i - 1 < l.length by omega))
  have q3 := h1 (i - 1) (by omega)
  have q4 := h2 (i - 1) (by omega)
  rw [show i - 1 + 1 = i by omega] at q4
  rw [w64_ok (by omega) (by omega)]
  omega
theorem lp_idx {σ β : Type} {S : σ → Option (σ ⊕ β)} (st : Nat → σ) {n : Nat} (hn : n ≤ 1048576) (p : Nat → Bool) {t e : β}
  (h1 : ∀ i, i < n → S (st i) = some (bif p i then .inl (st (i + 1)) else .inr e)) (h2 : S (st n) = some (.inr t)) : lp S (st 0) = some (bif (List.range n).all p then t else e) := by
 have := lp_exit_from st p h1 h2 bigN 0 (Nat.zero_le _) (by simp only [bigN]; omega)
 rw [Nat.sub_zero, ← List.range_eq_range'] at this
 exact this
theorem specSetOk_eq {l : List SpT} (hl : l.length ≤ 1048576) : Ky l = some (setOk l) := by
 have h := lp_idx (S := Ky_s26) (t := .inr ()) (e := .inl false) (fun i => (l, (i : Int))) hl (spanOk l) (fun i hi => by
  unfold spanOk
  simp only [Ky_s26, lnn, ltn hi, cond_true, ixn hi, gxn, l1In_eq, Option.bind_some, bnot_cond, wsucc (show i ≤ 1048576 by omega)]
  generalize hb1 : inR (l.getD i (0, 0)).1 0 9999 = b1
  generalize hb2 : inR (l.getD i (0, 0)).2 (l.getD i (0, 0)).1 9999 = b2
  cases b1 <;> cases b2 <;> try rfl
  by_cases hz : 0 < i
  ·simp only [cond_true, dT (show (i : Int) > 0 by omega), wpred hz (show i ≤ 1048576 by omega), ixn (show i - 1 < l.length by omega), gxn, dT hz, Bool.true_and]
   cases decide ((l.getD i (0, 0)).1 ≤ w64 ((l.getD (i - 1) (0, 0)).2 + 1)) <;> rfl
  ·simp only [cond_true, dF (show ¬ (i : Int) > 0 by omega), cond_false, dF hz]
   rfl) (by simp only [Ky_s26, lnn, ltF, cond_false])
 rw [cast0] at h
 simp only [Ky, h, setOk]
 cases (List.range l.length).all (spanOk l) <;> rfl
theorem implSetOk_eq {l : List SpT} (hl : l.length ≤ 1048576) : Kbn l = some (setOk l) := by
 have h := lp_idx (S := Kbn_s26) (t := .inr ()) (e := .inl false) (fun i => (l, l, (l.length : Int), (i : Int))) hl (spanOk l) (fun i hi => by
  unfold spanOk
  simp only [Kbn_s26, lnn, ltn hi, cond_true, ixn hi, gxn, within_eq, Option.bind_some, bnot_cond, wsucc (show i ≤ 1048576 by omega)]
  generalize hb1 : inR (l.getD i (0, 0)).1 0 9999 = b1
  generalize hb2 : inR (l.getD i (0, 0)).2 (l.getD i (0, 0)).1 9999 = b2
  cases b1 <;> cases b2 <;> try rfl
  by_cases hz : 0 < i
  ·simp only [cond_true, dT (show (i : Int) > 0 by omega), wpred hz (show i ≤ 1048576 by omega), ixn (show i - 1 < l.length by omega), gxn, dT hz, Bool.true_and]
   cases decide ((l.getD i (0, 0)).1 ≤ w64 ((l.getD (i - 1) (0, 0)).2 + 1)) <;> rfl
  ·simp only [cond_true, dF (show ¬ (i : Int) > 0 by omega), cond_false, dF hz]
   rfl) (by simp only [Kbn_s26, ltF, cond_false])
 rw [cast0] at h
 simp only [Kbn, lnn, h, setOk]
 cases (List.range l.length).all (spanOk l) <;> rfl
def l3L (l : List Int) (n most : Int) (z : Bool) : Bool := decide ((l.length : Int) = n) && l.all (fun x => inR x 0 most && !(z && (x != 0)))
theorem l3List_eq {l : List Int} {n most : Int} {z : Bool} (hl : l.length ≤ 1048576) : Kap (l, n, most, z) = some (l3L l n most z) := by
 unfold l3L
 simp only [Kap, lnn]
 rw [bne_cond]
 by_cases hn : (l.length : Int) = n
 ·subst hn
  rw [if_pos rfl]
  have h := lp_all (S := Kap_s58) (t := .inr ()) (e := .inl false) l 0 (fun i => (l, (l.length : Int), most, z, (i : Int))) hl (fun x => inR x 0 most && !(z && (x != 0))) (fun i hi _ => by
   simp only [Kap_s58, ltn hi, cond_true, ixn hi, gxn, l1In_eq, Option.bind_some, bnot_cond, wsucc (show i ≤ 1048576 by omega)]
   generalize inR (l.getD i 0) 0 most = b1
   generalize (l.getD i 0 != 0) = b2
   cases b1 <;> cases b2 <;> cases z <;> rfl) (by simp only [Kap_s58, ltF, cond_false])
  rw [cast0] at h
  rw [h]
  cases l.all (fun x => inR x 0 most && !(z && (x != 0))) <;> simp
 ·rw [if_neg hn]
  simp [hn]
theorem l3L_iff {l : List Int} {n most : Int} {z : Bool} : l3L l n most z = true ↔ (l.length : Int) = n ∧ ∀ x ∈ l, (0 ≤ x ∧ x ≤ most) ∧ (z = true → x = 0) := by
 simp only [l3L, Bool.and_eq_true, decide_eq_true_eq, List.all_eq_true, inR_iff, Bool.not_eq_true']
 refine and_congr Iff.rfl (forall_congr' fun x => forall_congr' fun _ => and_congr Iff.rfl ?_)
 cases z <;> simp
structure SkOk (s : SkT) : Prop where
 cnt : 0 ≤ s.1 ∧ s.1 ≤ 1000000000
 sum : 0 ≤ s.2.1 ∧ s.2.1 ≤ 1000000000
 min : 0 ≤ s.2.2.1 ∧ s.2.2.1 ≤ 1000000
 max : 0 ≤ s.2.2.2.1 ∧ s.2.2.2.1 ≤ 1000000
 le : s.2.2.1 ≤ s.2.2.2.1
 rows : ∃ r0 r1, s.2.2.2.2.2.2 = [r0, r1] ∧ ((r0.length = 4) ∧ ∀ x ∈ r0, (0 ≤ x ∧ x ≤ 1000000000) ∧ (s.1 = 0 → x = 0)) ∧ ((r1.length = 4) ∧ ∀ x ∈ r1, (0 ≤ x ∧ x ≤ 1000000000) ∧ (s.1 = 0 → x = 0))
 zero : s.1 = 0 → s.2.1 = 0 ∧ s.2.2.2.1 = 0
 hist : s.2.2.2.2.1.length = 8 ∧ ∀ x ∈ s.2.2.2.2.1, (0 ≤ x ∧ x ≤ 1000000000) ∧ (s.1 = 0 → x = 0)
 regs : s.2.2.2.2.2.1.length = 8 ∧ ∀ x ∈ s.2.2.2.2.2.1, (0 ≤ x ∧ x ≤ 17) ∧ (s.1 = 0 → x = 0)
def skOk (s : SkT) : Bool := inR s.1 0 1000000000 && (inR s.2.1 0 1000000000 && (inR s.2.2.1 0 1000000 && (inR s.2.2.2.1 0 1000000 && (!decide (s.2.2.1 > s.2.2.2.1) && ((s.2.2.2.2.2.2.length : Int) == 2 &&
 (!((s.1 == 0) && ((s.2.1 != 0) || (s.2.2.2.1 != 0))) && (l3L s.2.2.2.2.1 8 1000000000 (s.1 == 0) && (l3L s.2.2.2.2.2.1 8 17 (s.1 == 0) && (l3L (s.2.2.2.2.2.2.getD 0 []) 4 1000000000 (s.1 == 0) && l3L (s.2.2.2.2.2.2.getD 1 []) 4 1000000000 (s.1 == 0))))))))))
theorem skOk_iff {s : SkT} : skOk s = true ↔ SkOk s := by
 obtain ⟨a1, a2, a3, a4, a5, a6, a7⟩ := s
 simp only [skOk, Bool.and_eq_true, inR_iff, Bool.not_eq_true', decide_eq_false_iff_not, beq_iff_eq, l3L_iff]
 constructor
 ·rintro ⟨h1, h2, h3, h4, h5, h6, h7, h8, h9, h10, h11⟩
  match a7, h6 with
  | [r0, r1], _ =>
   refine ⟨h1, h2, h3, h4, by dsimp only at h5 ⊢; omega, ⟨r0, r1, rfl, ⟨by have : (r0.length : Int) = 4 := h10.1; omega, fun x hx => ⟨(h10.2 x hx).1, fun hz => (h10.2 x hx).2 (by simpa using hz)⟩⟩, ⟨by have : (r1.length : Int) = 4 := h11.1; omega, fun x hx => ⟨(h11.2 x hx).1, fun hz => (h11.2 x hx).2 (by simpa using hz)⟩⟩⟩, fun hz => ?_,
    ⟨by have := h8.1; dsimp only; omega, fun x hx => ⟨(h8.2 x hx).1, fun hz => (h8.2 x hx).2 (by simpa using hz)⟩⟩, ⟨by have := h9.1; dsimp only; omega, fun x hx => ⟨(h9.2 x hx).1, fun hz => (h9.2 x hx).2 (by simpa using hz)⟩⟩⟩
   dsimp only at hz h7 ⊢
   subst hz
   simpa using h7
  | [], h => simp at h
  | [_], h => simp at h
  | _ :: _ :: _ :: _, h => simp at h; omega
 ·rintro ⟨h1, h2, h3, h4, h5, ⟨r0, r1, h6, h10, h11⟩, h7, h8, h9⟩
  dsimp only at h6 h7 h8 h9 h10 h11
  subst h6
  have e0 : (r0.length : Int) = 4 := by omega
  have e1 : (r1.length : Int) = 4 := by omega
  refine ⟨h1, h2, h3, h4, by dsimp only at h5; omega, by simp, ?_, ⟨by omega, fun x hx => ⟨(h8.2 x hx).1, fun hz => (h8.2 x hx).2 (by simpa using hz)⟩⟩, ⟨by omega, fun x hx => ⟨(h9.2 x hx).1, fun hz => (h9.2 x hx).2 (by simpa using hz)⟩⟩,
   ⟨e0, fun x hx => ⟨(h10.2 x hx).1, fun hz => (h10.2 x hx).2 (by simpa using hz)⟩⟩, ⟨e1, fun x hx => ⟨(h11.2 x hx).1, fun hz => (h11.2 x hx).2 (by simpa using hz)⟩⟩⟩
  by_cases hz : a1 = 0
  ·have := h7 hz
   simp [this.1, this.2]
  ·simp [hz]
theorem getD_len {l : List (List Int)} {b : Nat} (h : ∀ r ∈ l, r.length ≤ b) (i : Nat) : (l.getD i []).length ≤ b := by
 rw [List.getD_eq_getElem?_getD]
 cases hq : l[i]? with
 | none => simp
 | some r => exact h r (List.mem_of_getElem? hq)
theorem specSketchOk_eq {s : SkT} (h : SkLe 1048576 s) : Kas s = some (skOk s) := by
 obtain ⟨a1, a2, a3, a4, a5, a6, a7⟩ := s
 obtain ⟨w1, w2, w3, w4⟩ := h
 simp only at w1 w2 w3 w4
 unfold skOk
 simp only [Kas, l1In_eq, Option.bind_some]
 have hj : (a7.length : Int) = 2 → ∀ z, Kas_l31 ((a1, a2, a3, a4, a5, a6, a7), z) =
   some (l3L a5 8 1000000000 z && (l3L a6 8 17 z && (l3L (a7.getD 0 []) 4 1000000000 z && l3L (a7.getD 1 []) 4 1000000000 z))) := by
  intro hr z
  simp only [Kas_l31, l3List_eq w1, l3List_eq w2, l3List_eq (getD_len w4 0), l3List_eq (getD_len w4 1), Option.bind_some]
  rw [chkD (by omega), chkD (by omega)]
  generalize l3L a5 8 1000000000 z = b1
  generalize l3L a6 8 17 z = b2
  cases b1 <;> cases b2 <;> try rfl
  cases l3L (a7.getD 0 []) 4 1000000000 z <;> rfl
 generalize inR a1 0 1000000000 = b1
 generalize inR a2 0 1000000000 = b2
 generalize inR a3 0 1000000 = b3
 generalize inR a4 0 1000000 = b4
 generalize decide (a3 > a4) = b5
 cases b1 <;> try rfl
 cases b2 <;> try rfl
 cases b3 <;> try rfl
 cases b4 <;> try rfl
 cases b5 <;> try rfl
 simp only [Bool.not_true, cond_false, Bool.true_and, Bool.not_false, lnn]
 by_cases hr : (a7.length : Int) = 2
 ·rw [hj hr]
  have e1 : ((a7.length : Int) != 2) = false := by simpa using hr
  have e2 : ((a7.length : Int) == 2) = true := by simpa using hr
  rw [e1, e2]
  generalize (a1 == 0) = b6
  generalize (a2 != 0) = b7
  generalize (a4 != 0) = b8
  cases b6 <;> cases b7 <;> cases b8 <;> simp
 ·have e1 : ((a7.length : Int) != 2) = true := by simpa using hr
  have e2 : ((a7.length : Int) == 2) = false := by simpa using hr
  rw [e1, e2]
  rfl
theorem copyInts_eq {l : List Int} (h : l.length ≤ 1048576) : Kcr l = some l := by
 simp only [Kcr]; rw [fitsC (by omega) (by omega)]
theorem counts_eq {c s mi ma : Int} {h r r0 r1 : List Int} (hh : h.length ≤ 1000) (hr : r.length ≤ 1000) (h0 : r0.length ≤ 1000) (h1 : r1.length ≤ 1000) :
  Kbg (c, s, mi, ma, h, r, [r0, r1]) = some (h ++ r ++ r0 ++ r1) := by
 simp only [Kbg]
 rw [copyInts_eq (by omega), Option.bind_some, fitsC (by omega) (by omega)]
 have : lp Kbg_s58 (h ++ r, [r0, r1], 2, ((0 : Nat) : Int)) = some (h ++ r ++ r0 ++ r1) := by
  have e1 : w64 (((0 : Nat) : Int) + 1) = ((1 : Nat) : Int) := wsucc (by omega)
  have e2 : w64 (((1 : Nat) : Int) + 1) = ((2 : Nat) : Int) := wsucc (by omega)
  exact lp_det (S := Kbg_s58) (n := 2) (b := h ++ r ++ r0 ++ r1) (fun i => ((if i = 0 then h ++ r else if i = 1 then h ++ r ++ r0 else h ++ r ++ r0 ++ r1), [r0, r1], 2, (i : Int))) (by omega) (fun i hi => by
   match i, hi with
   | 0, _ =>
    have g : gx [r0, r1] ((0 : Nat) : Int) [] = r0 := rfl
    have d : decide (((0 : Nat) : Int) < 2) = true := rfl
    simp only [Kbg_s58, d, cond_true, if_pos, g, e1]
    rw [ixn (by simp), fitsC (by simp; omega) (by omega)]
    rfl
   | 1, _ =>
    have g : gx [r0, r1] ((1 : Nat) : Int) [] = r1 := rfl
    have d : decide (((1 : Nat) : Int) < 2) = true := rfl
    simp only [Kbg_s58, d, cond_true, g, e2]
    rw [ixn (by simp), if_neg (by omega), if_true, fitsC (by simp; omega) (by omega)]
    rfl) rfl
 have e : ln [r0, r1] = 2 := rfl
 rw [e]
 rw [cast0] at this
 rw [this]
 rfl
def accW (l : List Int) : Nat → Int
 | 0 => 0
 | i + 1 => w64 (accW l i + l.getD i 0)
theorem accW_zero {l : List Int} (hl : l.length ≤ 100) (h : ∀ x ∈ l, 0 ≤ x ∧ x ≤ 1000000000) : ∀ i, i ≤ l.length → (0 ≤ accW l i ∧ accW l i ≤ i * 1000000000) ∧ (accW l i = 0 ↔ ∀ j, j < i → l.getD j 0 = 0)
 | 0, _ => ⟨⟨by simp [accW], by simp [accW]⟩, by simp [accW]⟩
 | i + 1, hi => by
  obtain ⟨⟨h1, h2⟩, h3⟩ := accW_zero hl h i (by omega)
  obtain ⟨q1, q2⟩ := h _ (getD_mem (d := 0) (show i < l.length by omega))
  have hw : accW l (i + 1) = accW l i + l.getD i 0 := by
   simp only [accW]
   exact w64_ok (by omega) (by omega)
  rw [hw]
  refine ⟨⟨by omega, by omega⟩, ?_⟩
  constructor
  ·intro hz j hj
   by_cases hji : j = i
   ·subst hji; omega
   ·exact h3.1 (by omega) j (by omega)
  ·intro hz
   rw [h3.2 fun j hj => hz j (by omega), hz i (by omega)]
   rfl
theorem implSketchOk_eq {s : SkT} (h : SkLe 1048576 s) : Kp s = some (skOk s) := by
 obtain ⟨a1, a2, a3, a4, a5, a6, a7⟩ := s
 obtain ⟨w1, w2, w3, w4⟩ := h
 simp only at w1 w2 w3 w4
 have no : ¬ SkOk (a1, a2, a3, a4, a5, a6, a7) → (some false : Option Bool) = some (skOk (a1, a2, a3, a4, a5, a6, a7)) := by
  intro hn
  cases hq : skOk (a1, a2, a3, a4, a5, a6, a7) with
  | false => rfl
  | true => exact absurd (skOk_iff.1 hq) hn
 simp only [Kp, lnn, bne_cond]
 by_cases h5 : (a5.length : Int) = 8
 ·rw [if_pos h5]
  by_cases h6 : (a6.length : Int) = 8
  ·rw [if_pos h6]
   by_cases h7 : (a7.length : Int) = 2
   ·rw [if_pos h7]
    match a7, h7 with
    | [r0, r1], _ =>
     have g0 : List.getD [r0, r1] 0 [] = r0 := rfl
     have g1 : List.getD [r0, r1] 1 [] = r1 := rfl
     rw [g0, g1, chkD (by simp)]
     by_cases h8 : (r0.length : Int) = 4
     ·rw [if_pos h8, chkD (by simp)]
      by_cases h9 : (r1.length : Int) = 4
      ·rw [if_pos h9, counts_eq (by omega) (by omega) (by omega) (by omega), Option.bind_some]
       rw [fitsC (by simp; omega) (by omega)]
       generalize hL : a5 ++ a6 ++ r0 ++ r1 ++ [a1, a2, a3, a4] = L
       have hLlen : L.length = 28 := by rw [← hL]; simp; omega
       have hmem : ∀ x, x ∈ L ↔ (x ∈ a5 ∨ x ∈ a6 ∨ x ∈ r0 ∨ x ∈ r1 ∨ x = a1 ∨ x = a2 ∨ x = a3 ∨ x = a4) := by
        intro x
        rw [← hL]
        simp only [List.mem_append, List.mem_cons, List.not_mem_nil, or_false]
        simp only [or_assoc]
       have e1 := lp_all (S := Kp_s122) (t := .inr ((a1, a2, a3, a4, a5, a6, [r0, r1]), accW L L.length)) (e := .inl false) L 0 (fun i => ((a1, a2, a3, a4, a5, a6, [r0, r1]), accW L i, L, (L.length : Int), (i : Int))) (by omega) (fun x => inR x 0 1000000000) (fun i hi _ => by
        simp only [Kp_s122, ltn hi, cond_true, ixn hi, lxn hi, gxn, within_eq, Option.bind_some, bnot_cond, accW, wsucc (show i ≤ 1048576 by omega)]
        cases inR (L.getD i 0) 0 1000000000 <;> rfl) (by simp only [Kp_s122, ltF, cond_false])
       have e2 : ∀ t : Int, lp Kp_s250 ((a1, a2, a3, a4, a5, a6, [r0, r1]), t, a6, a6.length, 0) = some (bif a6.all (fun x => !decide (x > 17)) then .inr ((a1, a2, a3, a4, a5, a6, [r0, r1]), t) else .inl false) := by
        intro t
        exact lp_all (S := Kp_s250) (t := .inr ((a1, a2, a3, a4, a5, a6, [r0, r1]), t)) (e := .inl false) a6 0 (fun i => ((a1, a2, a3, a4, a5, a6, [r0, r1]), t, a6, (a6.length : Int), (i : Int))) (by omega) (fun x => !decide (x > 17)) (fun i hi _ => by
         simp only [Kp_s250, ltn hi, cond_true, ixn hi, gxn, wsucc (show i ≤ 1048576 by omega)]
         cases decide (a6.getD i 0 > 17) <;> rfl) (by simp only [Kp_s250, ltF, cond_false])
       have e1 : lp Kp_s122 ((a1, a2, a3, a4, a5, a6, [r0, r1]), 0, L, L.length, 0) = some (bif L.all (fun x => inR x 0 1000000000) then .inr ((a1, a2, a3, a4, a5, a6, [r0, r1]), accW L L.length) else .inl false) := e1
       rw [e1]
       by_cases hall : L.all (fun x => inR x 0 1000000000) = true
       ·rw [hall]
        simp only [cond_true, bx_inr]
        rw [e2]
        have hin : ∀ x ∈ L, 0 ≤ x ∧ x ≤ 1000000000 := by simpa [inR_iff] using hall
        obtain ⟨_, hz⟩ := accW_zero (by omega) hin L.length (Nat.le_refl _)
        have hz' : accW L L.length = 0 ↔ ∀ x ∈ L, x = 0 := by
         rw [hz]
         constructor
         ·intro q x hx
          obtain ⟨j, hj⟩ := List.getElem?_of_mem hx
          have := q j (List.getElem?_eq_some_iff.1 hj).1
          simpa [List.getD_eq_getElem?_getD, hj] using this
         ·intro q j hj
          exact q _ (getD_mem hj)
        have h17 : a6.all (fun x => !decide (x > 17)) = true ↔ ∀ x ∈ a6, x ≤ 17 := by simp
        have i5 : ∀ x ∈ a5, 0 ≤ x ∧ x ≤ 1000000000 := fun x hx => hin x ((hmem x).2 (.inl hx))
        have i6 : ∀ x ∈ a6, 0 ≤ x ∧ x ≤ 1000000000 := fun x hx => hin x ((hmem x).2 (.inr (.inl hx)))
        have j0 : ∀ x ∈ r0, 0 ≤ x ∧ x ≤ 1000000000 := fun x hx => hin x ((hmem x).2 (.inr (.inr (.inl hx))))
        have j1 : ∀ x ∈ r1, 0 ≤ x ∧ x ≤ 1000000000 := fun x hx => hin x ((hmem x).2 (.inr (.inr (.inr (.inl hx)))))
        have k1 := hin a1 ((hmem a1).2 (by simp))
        have k2 := hin a2 ((hmem a2).2 (by simp))
        have k3 := hin a3 ((hmem a3).2 (by simp))
        have k4 := hin a4 ((hmem a4).2 (by simp))
        by_cases h17' : a6.all (fun x => !decide (x > 17)) = true
        ·rw [h17']
         simp only [cond_true, bx_inr]
         have l17 := h17.1 h17'
         rw [beq_cond]
         by_cases hc : a1 = 0
         ·rw [if_pos hc]
          congr 1
          rw [Bool.eq_iff_iff, beq_iff_eq, hz', skOk_iff]
          constructor
          ·intro hall0
           have m2 := hall0 a2 ((hmem a2).2 (by simp))
           have m3 := hall0 a3 ((hmem a3).2 (by simp))
           have m4 := hall0 a4 ((hmem a4).2 (by simp))
           exact ⟨k1, k2, by dsimp only; omega, by dsimp only; omega, by dsimp only; omega, ⟨r0, r1, rfl, ⟨by omega, fun x hx => ⟨j0 x hx, fun _ => hall0 x ((hmem x).2 (.inr (.inr (.inl hx))))⟩⟩,
            ⟨by omega, fun x hx => ⟨j1 x hx, fun _ => hall0 x ((hmem x).2 (.inr (.inr (.inr (.inl hx)))))⟩⟩⟩, fun _ => ⟨m2, m4⟩,
            ⟨by dsimp only; omega, fun x hx => ⟨i5 x hx, fun _ => hall0 x ((hmem x).2 (.inl hx))⟩⟩, ⟨by dsimp only; omega, fun x hx => ⟨⟨(i6 x hx).1, l17 x hx⟩, fun _ => hall0 x ((hmem x).2 (.inr (.inl hx)))⟩⟩⟩
          ·intro hs x hx
           obtain ⟨s1, s2, s3, s4, s5, ⟨q0, q1, s6, s7, s8⟩, s9, s10, s11⟩ := hs
           simp only [List.cons.injEq, and_true] at s6
           obtain ⟨rfl, rfl⟩ := s6
           obtain ⟨z2, z4⟩ := s9 hc
           dsimp only at s3 s5 z2 z4
           rcases (hmem x).1 hx with q | q | q | q | rfl | rfl | rfl | rfl
           ·exact (s10.2 x q).2 hc
           ·exact (s11.2 x q).2 hc
           ·exact (s7.2 x q).2 hc
           ·exact (s8.2 x q).2 hc
           ·exact hc
           ·exact z2
           ·omega
           ·exact z4
         ·rw [if_neg hc]
          by_cases hle : a3 ≤ a4
          ·rw [decide_eq_true hle, cond_true]
           congr 1
           rw [Bool.eq_iff_iff, decide_eq_true_eq, skOk_iff]
           constructor
           ·intro hm
            exact ⟨k1, k2, by dsimp only; omega, by dsimp only; omega, hle, ⟨r0, r1, rfl, ⟨by omega, fun x hx => ⟨j0 x hx, fun q => absurd q hc⟩⟩, ⟨by omega, fun x hx => ⟨j1 x hx, fun q => absurd q hc⟩⟩⟩, fun q => absurd q hc,
             ⟨by dsimp only; omega, fun x hx => ⟨i5 x hx, fun q => absurd q hc⟩⟩, ⟨by dsimp only; omega, fun x hx => ⟨⟨(i6 x hx).1, l17 x hx⟩, fun q => absurd q hc⟩⟩⟩
           ·intro hs
            exact hs.max.2
          ·rw [decide_eq_false hle, cond_false]
           exact no fun hs => hle hs.le
        ·rw [Bool.not_eq_true] at h17'
         rw [h17']
         simp only [cond_false, bx_inl]
         exact no fun hs => by rw [h17.2 fun x hx => (hs.regs.2 x hx).1.2] at h17'; simp at h17'
       ·rw [Bool.not_eq_true] at hall
        rw [hall]
        simp only [cond_false, bx_inl]
        refine no fun hs => (by simp [hall] : ¬ L.all (fun x => inR x 0 1000000000) = true) ?_
        obtain ⟨s1, s2, s3, s4, s5, ⟨q0, q1, s6, s7, s8⟩, s9, s10, s11⟩ := hs
        simp only [List.cons.injEq, and_true] at s6
        obtain ⟨rfl, rfl⟩ := s6
        dsimp only at s1 s2 s3 s4 s5
        rw [List.all_eq_true]
        intro x hx
        rw [inR_iff]
        rcases (hmem x).1 hx with q | q | q | q | rfl | rfl | rfl | rfl
        ·exact (s10.2 x q).1
        ·have := (s11.2 x q).1; omega
        ·exact (s7.2 x q).1
        ·exact (s8.2 x q).1
        ·exact s1
        ·exact s2
        ·omega
        ·omega
      ·rw [if_neg h9]
       exact no fun hs => h9 (by
        obtain ⟨q0, q1, s6, s7, s8⟩ := hs.rows
        simp only [List.cons.injEq, and_true] at s6
        obtain ⟨rfl, rfl⟩ := s6
        have := s8.1; omega)
     ·rw [if_neg h8]
      exact no fun hs => h8 (by
       obtain ⟨q0, q1, s6, s7, s8⟩ := hs.rows
       simp only [List.cons.injEq, and_true] at s6
       obtain ⟨rfl, rfl⟩ := s6
       have := s7.1; omega)
    | [], h => simp at h
    | [_], h => simp at h
    | _ :: _ :: _ :: _, h => simp at h; omega
   ·rw [if_neg h7]
    exact no fun hs => h7 (by
     obtain ⟨q0, q1, s6, _⟩ := hs.rows
     dsimp only at s6
     rw [s6]; rfl)
  ·rw [if_neg h6]
   exact no fun hs => h6 (by have := hs.regs.1; dsimp only at this; omega)
 ·rw [if_neg h5]
  exact no fun hs => h5 (by have := hs.hist.1; dsimp only at this; omega)
def enOk (e : EnT) : Bool := inR e.1 0 4 && inR e.2.1 0 20 && decide (e.2.2.1.length > 0) && setOk e.2.2.1 && skOk e.2.2.2
theorem specEntryOk_eq {e : EnT} (h : EnLe 1048576 e) : Kbk e = some (enOk e) := by
 obtain ⟨a1, a2, a3, s⟩ := e
 obtain ⟨a4, a5, a6, a7, a8, a9, a10⟩ := s
 obtain ⟨w1, w2⟩ := h
 have hs := specSketchOk_eq w2
 simp only at w1 hs
 unfold enOk
 simp only [Kbk, Kcw, l1In_eq, Option.bind_some, specSetOk_eq w1, hs, lnn]
 have hd : decide ((a3.length : Int) > 0) = decide (a3.length > 0) := by rw [decide_eq_decide]; omega
 rw [hd]
 cases inR a1 0 4 <;> cases inR a2 0 20 <;> try rfl
 cases decide (a3.length > 0) <;> try rfl
 cases setOk a3 <;> rfl
theorem implEntryOk_eq {e : EnT} (h : EnLe 1048576 e) : Kdd e = some (enOk e) := by
 obtain ⟨a1, a2, a3, s⟩ := e
 obtain ⟨a4, a5, a6, a7, a8, a9, a10⟩ := s
 obtain ⟨w1, w2⟩ := h
 have hs := implSketchOk_eq w2
 simp only at w1 hs
 unfold enOk
 simp only [Kdd, within_eq, Option.bind_some, implSetOk_eq w1, hs, lnn]
 have hd : decide ((a3.length : Int) > 0) = decide (a3.length > 0) := by rw [decide_eq_decide]; omega
 rw [hd]
 cases inR a1 0 4 <;> cases inR a2 0 20 <;> try rfl
 cases decide (a3.length > 0) <;> cases setOk a3 <;> rfl
structure EnOk (e : EnT) : Prop where
 key : 0 ≤ e.1 ∧ e.1 ≤ 4
 win : 0 ≤ e.2.1 ∧ e.2.1 ≤ 20
 ids : Canon e.2.2.1
 bnd : ∀ x ∈ e.2.2.1, 0 ≤ x.1 ∧ x.2 ≤ 9999
 some_ : e.2.2.1 ≠ []
 sk : SkOk e.2.2.2
theorem enOk_iff {e : EnT} : enOk e = true ↔ EnOk e := by
 unfold enOk
 simp only [Bool.and_eq_true, inR_iff, decide_eq_true_eq, setOk_iff, skOk_iff]
 constructor
 ·rintro ⟨⟨⟨⟨h1, h2⟩, h3⟩, h4, h5⟩, h6⟩
  exact ⟨h1, h2, h4, h5, fun q => by rw [q] at h3; simp at h3, h6⟩
 ·rintro ⟨h1, h2, h4, h5, h3, h6⟩
  exact ⟨⟨⟨⟨h1, h2⟩, List.length_pos_iff.2 h3⟩, h4, h5⟩, h6⟩
end Go.Proofs.YtppjdpcmaipoaaaGreat.Tw
namespace Go.Mach
theorem zip_len {f : Int → Int → Int} {a b : List Int} (h : b.length = a.length) : (List.zipWith f a b).length = a.length := by simp [h]
theorem zip_get {f : Int → Int → Int} {a b : List Int} (h : b.length = a.length) {i : Nat} (hi : i < a.length) : (List.zipWith f a b).getD i 0 = f (a.getD i 0) (b.getD i 0) := by
 simp [List.getD_eq_getElem?_getD, List.getElem?_zipWith, List.getElem?_eq_getElem hi, List.getElem?_eq_getElem (show i < b.length by omega)]
theorem zip_take {f : Int → Int → Int} {a b : List Int} (h : b.length = a.length) {i : Nat} (hi : i < a.length) : (List.zipWith f a b).take (i + 1) = (List.zipWith f a b).take i ++ [f (a.getD i 0) (b.getD i 0)] := by
 rw [take_snoc 0 (by rw [zip_len h]; exact hi), zip_get h hi]
def zset (f : Int → Int → Int) (a b : List Int) (i : Nat) : List Int := (List.zipWith f a b).take i ++ a.drop i
theorem zset_len {f : Int → Int → Int} {a b : List Int} (h : b.length = a.length) {i : Nat} (hi : i ≤ a.length) : (zset f a b i).length = a.length := by simp [zset, h]; omega
theorem getD_mid' {α : Type} (p r : List α) (x d : α) {i : Nat} (h : p.length = i) : (p ++ x :: r).getD i d = x := by subst h; simp [List.getD_eq_getElem?_getD]
theorem zset_get {f : Int → Int → Int} {a b : List Int} (h : b.length = a.length) {i : Nat} (hi : i < a.length) : (zset f a b i).getD i 0 = a.getD i 0 := by
 have : ((List.zipWith f a b).take i).length = i := by simp [h]; omega
 unfold zset
 rw [drop_cons 0 hi, getD_mid' _ _ _ _ this]
theorem zset_set {f : Int → Int → Int} {a b : List Int} (h : b.length = a.length) {i : Nat} (hi : i < a.length) : (zset f a b i).set i (f (a.getD i 0) (b.getD i 0)) = zset f a b (i + 1) := by
 have : ((List.zipWith f a b).take i).length = i := by simp [h]; omega
 unfold zset
 rw [zip_take h hi, drop_cons 0 hi, List.set_append_right _ _ (by omega), this, Nat.sub_self]
 simp
theorem getD_set_same' {α : Type} {l : List α} {i : Nat} (v d : α) (h : i < l.length) : (l.set i v).getD i d = v := by simp [List.getD_eq_getElem?_getD, h]
theorem zset_all {f : Int → Int → Int} {a b : List Int} (h : b.length = a.length) : zset f a b a.length = List.zipWith f a b := by
 unfold zset
 rw [List.drop_length, List.append_nil, List.take_of_length_le (by rw [zip_len h]; exact Nat.le_refl _)]
end Go.Mach
namespace Go.Proofs.YtppjdpcmaipoaaaGreat.Tw
open Go.Mach
set_option linter.unusedVariables false
set_option linter.unusedSimpArgs false
set_option maxRecDepth 20000
def ad (a b : Int) : Int := min (max 0 (min a 1000000000) + max 0 (min b 1000000000)) 1000000000
theorem specMin_eq (a b : Int) : Kk (a, b) = some (min a b) := by simp only [Kk, bif_dec]; split <;> simp <;> omega
theorem specMax_eq (a b : Int) : Kba (a, b) = some (max a b) := by simp only [Kba, bif_dec]; split <;> simp <;> omega
theorem limited_eq (a b c : Int) : Kdh (a, b, c) = some (min (max a b) c) := by
 simp only [Kdh, Option.some.injEq]
 split <;> split <;> omega
theorem specAdd_eq (a b : Int) : Kci (a, b) = some (ad a b) := by
 simp only [Kci, Kck, specMin_eq, specMax_eq, Option.bind_some]
 rw [w64_ok (by omega) (by omega)]
 rfl
theorem implAdd_eq (a b : Int) : Kcv (a, b) = some (ad a b) := by
 simp only [Kcv, limited_eq, Option.bind_some]
 rw [wr (by omega) (by omega)]
 unfold ad
 congr 1
 split <;> omega
theorem l3Sum_eq {a b : List Int} (h : b.length = a.length) (hl : a.length ≤ 1048576) : Kbd (a, b) = some (List.zipWith ad a b) := by
 have := lp_det (S := Kbd_s58) (fun i => (a, b, (List.zipWith ad a b).take i, (i : Int))) hl (b := List.zipWith ad a b) (fun i hi => by
  simp only [Kbd_s58, lnn, ltn hi, cond_true, ixn hi, ixn (show i < b.length by omega), gxn, specAdd_eq, Option.bind_some, wsucc (show i ≤ 1048576 by omega)]
  rw [fitsC (by simp [h]; omega) (by omega), zip_take h hi]) (by
  simp only [Kbd_s58, lnn, ltF, cond_false]
  rw [List.take_of_length_le (by rw [zip_len h]; exact Nat.le_refl _)])
 rw [cast0, List.take_zero] at this
 simp only [Kbd, this, Option.bind_some]
def mrg (a b : SkT) : SkT := (ad a.1 b.1, ad a.2.1 b.2.1, (if b.1 = 0 then a.2.2.1 else if a.1 = 0 then b.2.2.1 else min a.2.2.1 b.2.2.1), max a.2.2.2.1 b.2.2.2.1,
 List.zipWith ad a.2.2.2.2.1 b.2.2.2.2.1, List.zipWith max a.2.2.2.2.2.1 b.2.2.2.2.2.1, [List.zipWith ad (a.2.2.2.2.2.2.getD 0 []) (b.2.2.2.2.2.2.getD 0 []), List.zipWith ad (a.2.2.2.2.2.2.getD 1 []) (b.2.2.2.2.2.2.getD 1 [])])
theorem l3Merge_eq {a b : SkT} (ha : SkOk a) (hb : SkOk b) : Km (a, b) = some (mrg a b) := by
 obtain ⟨a1, a2, a3, a4, a5, a6, a7⟩ := a
 obtain ⟨b1, b2, b3, b4, b5, b6, b7⟩ := b
 obtain ⟨r0, r1, ra, ⟨la0, _⟩, ⟨la1, _⟩⟩ := ha.rows
 obtain ⟨s0, s1, rb, ⟨lb0, _⟩, ⟨lb1, _⟩⟩ := hb.rows
 have la5 := ha.hist.1
 have lb5 := hb.hist.1
 have la6 := ha.regs.1
 have lb6 := hb.regs.1
 simp only at ra rb la5 lb5 la6 lb6
 subst ra rb
 have key : ∀ c1 c2 c3 c4 (c5 : List Int) (c7 : List (List Int)), Km_l31 ((a1, a2, a3, a4, a5, a6, [r0, r1]), (b1, b2, b3, b4, b5, b6, [s0, s1]), (0, 0, 0, 0, (), (), ()), c1, c2, c3, c4, c5, (), c7) = some (c1, c2, c3, c4, c5, List.zipWith max a6 b6, c7) := by
  intro c1 c2 c3 c4 c5 c7
  have := lp_det (S := Km_s250) (n := 8) (fun i => ((a1, a2, a3, a4, a5, a6, [r0, r1]), (b1, b2, b3, b4, b5, b6, [s0, s1]), (0, 0, 0, 0, (), (), ()), (c1, c2, c3, c4, c5, (List.zipWith max a6 b6).take i, c7), (i : Int))) (by omega)
   (b := ((0, 0, 0, 0, (), (), ()), c1, c2, c3, c4, c5, List.zipWith max a6 b6, c7)) (fun i hi => by
    simp only [Km_s250, dT (show (i : Int) < 8 by omega), cond_true, ixn (show i < a6.length by omega), ixn (show i < b6.length by omega), gxn, specMax_eq, Option.bind_some, wsucc (show i ≤ 1048576 by omega)]
    rw [fitsC (by simp; omega) (by omega), zip_take (show b6.length = a6.length by omega) (by omega)]) (by
    simp only [Km_s250, dF (show ¬ (((8 : Nat) : Int) < 8) by omega), cond_false]
    rw [List.take_of_length_le (by rw [zip_len (by omega)]; omega)])
  rw [cast0, List.take_zero] at this
  simp only [Km_l31, this, Option.bind_some]
 have key2 : ∀ c1 c2 c3 c4 (c5 : List Int) (c7 : List (List Int)), Km_l15 ((a1, a2, a3, a4, a5, a6, [r0, r1]), (b1, b2, b3, b4, b5, b6, [s0, s1]), (0, 0, 0, 0, (), (), ()), c1, c2, c3, c4, c5, (), c7) =
   some (c1, c2, (if b1 = 0 then a3 else c3), c4, c5, List.zipWith max a6 b6, c7) := by
  intro c1 c2 c3 c4 c5 c7
  simp only [Km_l15, beq_cond, key, Option.bind_some]
  split <;> rfl
 have g0 : List.getD [r0, r1] 0 [] = r0 := rfl
 have g1 : List.getD [r0, r1] 1 [] = r1 := rfl
 have h0 : List.getD [s0, s1] 0 [] = s0 := rfl
 have h1 : List.getD [s0, s1] 1 [] = s1 := rfl
 simp only [Km, specAdd_eq, specMin_eq, specMax_eq, Option.bind_some, l3Sum_eq (show b5.length = a5.length by omega) (by omega), g0, g1, h0, h1, l3Sum_eq (show s0.length = r0.length by omega) (by omega), l3Sum_eq (show s1.length = r1.length by omega) (by omega), key2, beq_cond]
 simp only [chk, List.length_cons, List.length_nil]
 simp only [mrg, g0, g1, h0, h1]
 by_cases hb0 : b1 = 0 <;> by_cases ha0 : a1 = 0 <;> simp [hb0, ha0]
theorem copySketch_eq {s : SkT} (h : SkLe 1048576 s) : Kav s = some s := by
 obtain ⟨a, b, c, d, e, f, g⟩ := s
 obtain ⟨h1, h2, h3, h4⟩ := h
 simp only at h1 h2 h3 h4
 have := lp_det (S := Kav_s506) (fun i => ((0, 0, 0, 0, (), (), ()), (a, b, c, d, e, f, g.take i), g, (g.length : Int), (i : Int))) h3 (b := ((0, 0, 0, 0, (), (), ()), a, b, c, d, e, f, g)) (fun i hi => by
  simp only [Kav_s506, ltn hi, cond_true, ixn hi, gxn, copyInts_eq (h4 _ (getD_mem hi)), Option.bind_some, wsucc (show i ≤ 1048576 by omega)]
  rw [fitsC (by simp; omega) (by omega), take_snoc [] hi]) (by simp only [Kav_s506, ltF, cond_false, List.take_length])
 rw [cast0, List.take_zero] at this
 simp only [Kav, copyInts_eq h1, copyInts_eq h2, Option.bind_some, lnn, this]
theorem SkOk.toLe {s : SkT} (h : SkOk s) : SkLe 8 s := by
 obtain ⟨r0, r1, e, ⟨q0, _⟩, ⟨q1, _⟩⟩ := h.rows
 refine ⟨by rw [h.hist.1]; omega, by rw [h.regs.1]; omega, by rw [e]; simp, fun r hr => ?_⟩
 rw [e] at hr
 simp only [List.mem_cons, List.not_mem_nil, or_false] at hr
 rcases hr with rfl | rfl <;> omega
theorem SkLe.mono {a b : Nat} {s : SkT} (h : SkLe a s) (hab : a ≤ b) : SkLe b s := ⟨Nat.le_trans h.1 hab, Nat.le_trans h.2.1 hab, Nat.le_trans h.2.2.1 hab, fun r hr => Nat.le_trans (h.2.2.2 r hr) hab⟩
theorem set_get_row {g : List (List Int)} {i : Nat} (r : List Int) (hi : i < g.length) : (g.set i r).getD i [] = r := getD_set_same' r [] hi
theorem implMerge_eq {a b : SkT} (ha : SkOk a) (hb : SkOk b) : Kd (a, b) = some (mrg a b, true) := by
 obtain ⟨a1, a2, a3, a4, a5, a6, a7⟩ := a
 obtain ⟨b1, b2, b3, b4, b5, b6, b7⟩ := b
 have oka := implSketchOk_eq (ha.toLe.mono (by omega : 8 ≤ 1048576))
 have okb := implSketchOk_eq (hb.toLe.mono (by omega : 8 ≤ 1048576))
 rw [skOk_iff.2 ha] at oka
 rw [skOk_iff.2 hb] at okb
 have hcp := copySketch_eq (ha.toLe.mono (by omega : 8 ≤ 1048576))
 obtain ⟨r0, r1, ra, ⟨la0, _⟩, ⟨la1, _⟩⟩ := ha.rows
 obtain ⟨s0, s1, rb, ⟨lb0, _⟩, ⟨lb1, _⟩⟩ := hb.rows
 have la5 := ha.hist.1
 have lb5 := hb.hist.1
 have la6 := ha.regs.1
 have lb6 := hb.regs.1
 simp only at ra rb la5 lb5 la6 lb6
 subst ra rb
 have w0 : w64 (((0 : Nat) : Int) + 1) = ((1 : Nat) : Int) := wsucc (by omega)
 have w1 : w64 (((1 : Nat) : Int) + 1) = ((2 : Nat) : Int) := wsucc (by omega)
 have row : ∀ (c1 c2 c3 c4 : Int) (c5 c6 : List Int) (g : List (List Int)) (k : Nat) (x y : List Int) (rows : List (List Int)) (n o : Int), k < g.length → g.getD k [] = x → y.length = x.length → x.length ≤ 100 →
   lp Kd_s2095718 ((0, 0, 0, 0, (), (), ()), (c1, c2, c3, c4, c5, c6, g), (k : Int), rows, n, o, y, (y.length : Int), 0) = some ((0, 0, 0, 0, (), (), ()), (c1, c2, c3, c4, c5, c6, g.set k (List.zipWith ad x y)), rows, n, o) := by
  intro c1 c2 c3 c4 c5 c6 g k x y rows n o hk hx hy hl
  have := lp_det (S := Kd_s2095718) (n := y.length) (fun i => ((0, 0, 0, 0, (), (), ()), (c1, c2, c3, c4, c5, c6, g.set k (zset ad x y i)), (k : Int), rows, n, o, y, (y.length : Int), (i : Int))) (by omega)
   (b := ((0, 0, 0, 0, (), (), ()), (c1, c2, c3, c4, c5, c6, g.set k (List.zipWith ad x y)), rows, n, o)) (fun i hi => by
    have hlen := zset_len (f := ad) hy (show i ≤ x.length by omega)
    simp only [Kd_s2095718, ltn hi, cond_true, ixn hi, List.length_set, ixn hk, lxn hk, gxn, sxn, set_get_row _ hk, hlen, ixn (show i < x.length by omega), lxn (show i < x.length by omega), zset_get hy (show i < x.length by omega), implAdd_eq, Option.bind_some, zset_set hy (show i < x.length by omega), List.set_set, wsucc (show i ≤ 1048576 by omega)]) (by
    simp only [Kd_s2095718, ltF, cond_false]
    rw [hy, zset_all hy])
  have e : g.set k (zset ad x y 0) = g := by
   have : zset ad x y 0 = x := by simp [zset]
   rw [this, ← hx]
   apply List.ext_getElem?
   intro j
   rw [List.getElem?_set]
   split
   ·rename_i q
    subst q
    first | rw [if_pos hk, getD_get hk, List.getElem?_eq_getElem hk] | rw [getD_get hk, List.getElem?_eq_getElem hk]
   ·rfl
  rw [cast0, e] at this
  exact this
 have key : ∀ c1 c2 c3 c4, Kd_l31 ((a1, a2, a3, a4, a5, a6, [r0, r1]), (b1, b2, b3, b4, b5, b6, [s0, s1]), (0, 0, 0, 0, (), (), ()), c1, c2, c3, c4, a5, a6, [r0, r1]) =
   some ((ad a1 b1, ad a2 b2, c3, max a4 b4, List.zipWith ad a5 b5, List.zipWith max a6 b6, [List.zipWith ad r0 s0, List.zipWith ad r1 s1]), true) := by
  intro c1 c2 c3 c4
  have hmx : (if b4 > a4 then b4 else a4) = max a4 b4 := by split <;> omega
  have l1 := lp_det (S := Kd_s2042) (n := b5.length) (fun i => ((b1, b2, b3, b4, b5, b6, [s0, s1]), (0, 0, 0, 0, (), (), ()), (ad a1 b1, ad a2 b2, c3, max a4 b4, zset ad a5 b5 i, a6, [r0, r1]), b5, (b5.length : Int), (i : Int))) (by omega)
   (b := ((b1, b2, b3, b4, b5, b6, [s0, s1]), (0, 0, 0, 0, (), (), ()), ad a1 b1, ad a2 b2, c3, max a4 b4, List.zipWith ad a5 b5, a6, [r0, r1])) (fun i hi => by
    have hlen := zset_len (f := ad) (show b5.length = a5.length by omega) (show i ≤ a5.length by omega)
    simp only [Kd_s2042, ltn hi, cond_true, ixn hi, hlen, ixn (show i < a5.length by omega), lxn (show i < a5.length by omega), gxn, sxn, zset_get (show b5.length = a5.length by omega) (show i < a5.length by omega), implAdd_eq, Option.bind_some, zset_set (show b5.length = a5.length by omega) (show i < a5.length by omega), wsucc (show i ≤ 1048576 by omega)]) (by
    simp only [Kd_s2042, ltF, cond_false]
    rw [show b5.length = a5.length by omega, zset_all (by omega)])
  have z1 : zset ad a5 b5 0 = a5 := by simp [zset]
  rw [cast0, z1] at l1
  have l2 := lp_det (S := Kd_s4090) (n := b6.length) (fun i => ((b1, b2, b3, b4, b5, b6, [s0, s1]), (0, 0, 0, 0, (), (), ()), (ad a1 b1, ad a2 b2, c3, max a4 b4, List.zipWith ad a5 b5, zset max a6 b6 i, [r0, r1]), b6, (b6.length : Int), (i : Int))) (by omega)
   (b := ((b1, b2, b3, b4, b5, b6, [s0, s1]), (0, 0, 0, 0, (), (), ()), ad a1 b1, ad a2 b2, c3, max a4 b4, List.zipWith ad a5 b5, List.zipWith max a6 b6, [r0, r1])) (fun i hi => by
    have hlen := zset_len (f := max) (show b6.length = a6.length by omega) (show i ≤ a6.length by omega)
    have hg := zset_get (f := max) (show b6.length = a6.length by omega) (show i < a6.length by omega)
    have hm : (if b6.getD i 0 > a6.getD i 0 then b6.getD i 0 else a6.getD i 0) = max (a6.getD i 0) (b6.getD i 0) := by split <;> omega
    simp only [Kd_s4090, ltn hi, cond_true, ixn hi, hlen, ixn (show i < a6.length by omega), lxn (show i < a6.length by omega), gxn, sxn, Int.toNat_natCast, hg, hm, Option.bind_some, zset_set (show b6.length = a6.length by omega) (show i < a6.length by omega), wsucc (show i ≤ 1048576 by omega)]) (by
    simp only [Kd_s4090, ltF, cond_false]
    rw [show b6.length = a6.length by omega, zset_all (by omega)])
  have z2 : zset max a6 b6 0 = a6 := by simp [zset]
  rw [cast0, z2] at l2
  have l3 : lp Kd_s8186 ((0, 0, 0, 0, (), (), ()), (ad a1 b1, ad a2 b2, c3, max a4 b4, List.zipWith ad a5 b5, List.zipWith max a6 b6, [r0, r1]), [s0, s1], 2, ((0 : Nat) : Int)) =
    some ((0, 0, 0, 0, (), (), ()), ad a1 b1, ad a2 b2, c3, max a4 b4, List.zipWith ad a5 b5, List.zipWith max a6 b6, [List.zipWith ad r0 s0, List.zipWith ad r1 s1]) := by
   exact lp_det (S := Kd_s8186) (n := 2) (fun i => ((0, 0, 0, 0, (), (), ()), (ad a1 b1, ad a2 b2, c3, max a4 b4, List.zipWith ad a5 b5, List.zipWith max a6 b6, (if i = 0 then [r0, r1] else if i = 1 then [List.zipWith ad r0 s0, r1] else [List.zipWith ad r0 s0, List.zipWith ad r1 s1])), [s0, s1], 2, (i : Int))) (by omega)
    (b := ((0, 0, 0, 0, (), (), ()), ad a1 b1, ad a2 b2, c3, max a4 b4, List.zipWith ad a5 b5, List.zipWith max a6 b6, [List.zipWith ad r0 s0, List.zipWith ad r1 s1])) (fun i hi => by
     match i, hi with
     | 0, _ =>
      have g : gx [s0, s1] ((0 : Nat) : Int) [] = s0 := rfl
      have d : decide (((0 : Nat) : Int) < 2) = true := rfl
      have q := row (ad a1 b1) (ad a2 b2) c3 (max a4 b4) (List.zipWith ad a5 b5) (List.zipWith max a6 b6) [r0, r1] 0 r0 s0 [s0, s1] 2 ((0 : Nat) : Int) (by simp) rfl (by omega) (by omega)
      simp only [Kd_s8186, d, cond_true, if_true, g, lnn]
      rw [ixn (by simp), q]
      simp only [Option.bind_some, w0]
      rfl
     | 1, _ =>
      have g : gx [s0, s1] ((1 : Nat) : Int) [] = s1 := rfl
      have d : decide (((1 : Nat) : Int) < 2) = true := rfl
      have q := row (ad a1 b1) (ad a2 b2) c3 (max a4 b4) (List.zipWith ad a5 b5) (List.zipWith max a6 b6) [List.zipWith ad r0 s0, r1] 1 r1 s1 [s0, s1] 2 ((1 : Nat) : Int) (by simp) rfl (by omega) (by omega)
      simp only [Kd_s8186, d, cond_true, g, lnn]
      rw [ixn (by simp), if_neg (by omega), if_true, q]
      simp only [Option.bind_some, w1]
      rfl) rfl
  rw [cast0] at l3
  have hln : ln [s0, s1] = 2 := rfl
  simp only [Kd_l31, implAdd_eq, Option.bind_some, hmx, lnn, l1, l2]
  rw [show (([s0, s1] : List (List Int)).length : Int) = 2 from rfl, l3]
  rfl
 have g0 : List.getD [r0, r1] 0 [] = r0 := rfl
 have g1 : List.getD [r0, r1] 1 [] = r1 := rfl
 have h0 : List.getD [s0, s1] 0 [] = s0 := rfl
 have h1 : List.getD [s0, s1] 1 [] = s1 := rfl
 simp only [Kd, oka, okb, Option.bind_some, Bool.not_true, cond_false, hcp, key, beq_cond, bif_dec]
 simp only [mrg, g0, g1, h0, h1]
 have zb := hb.zero
 have za := ha.zero
 have mb := hb.min
 have xb := hb.le
 have ma := ha.min
 have xa := ha.le
 have cb := hb.cnt
 simp only at zb za mb xb ma xa cb
 have e3 : (if a1 = 0 then b3 else if b1 > 0 then if b3 < a3 then b3 else a3 else a3) = (if b1 = 0 then a3 else if a1 = 0 then b3 else min a3 b3) := by
  by_cases ha0 : a1 = 0
  ·rw [if_pos ha0]
   by_cases hb0 : b1 = 0
   ·rw [if_pos hb0]
    have := zb hb0
    have := za ha0
    omega
   ·rw [if_neg hb0, if_pos ha0]
  ·rw [if_neg ha0]
   by_cases hb0 : b1 = 0
   ·rw [if_pos hb0, if_neg (by omega)]
   ·rw [if_neg hb0, if_neg ha0, if_pos (by omega)]
    split <;> omega
 rw [← e3]
 by_cases ha0 : a1 = 0
 ·simp only [if_pos ha0]
 ·simp only [if_neg ha0]
  by_cases hb0 : b1 > 0
  ·simp only [if_pos hb0]
   split <;> rfl
  ·simp only [if_neg hb0]
theorem ad_rng (a b : Int) : 0 ≤ ad a b ∧ ad a b ≤ 1000000000 := by unfold ad; omega
theorem ad_zero {a b : Int} (ha : 0 ≤ a) (hb : 0 ≤ b) : ad a b = 0 ↔ a = 0 ∧ b = 0 := by unfold ad; omega
theorem zip_all {f : Int → Int → Int} {P : Int → Prop} : ∀ {a b : List Int}, (∀ x ∈ a, ∀ y ∈ b, P (f x y)) → ∀ z ∈ List.zipWith f a b, P z
 | [], _, _, z, hz => by simp at hz
 | _ :: _, [], _, z, hz => by simp at hz
 | x :: a, y :: b, h, z, hz => by
  simp only [List.zipWith_cons_cons, List.mem_cons] at hz
  rcases hz with rfl | hz
  ·exact h x List.mem_cons_self y List.mem_cons_self
  ·exact zip_all (fun u hu v hv => h u (List.mem_cons_of_mem _ hu) v (List.mem_cons_of_mem _ hv)) z hz
theorem mrg_ok {a b : SkT} (ha : SkOk a) (hb : SkOk b) : SkOk (mrg a b) := by
 obtain ⟨a1, a2, a3, a4, a5, a6, a7⟩ := a
 obtain ⟨b1, b2, b3, b4, b5, b6, b7⟩ := b
 obtain ⟨r0, r1, ra, ⟨la0, pa0⟩, ⟨la1, pa1⟩⟩ := ha.rows
 obtain ⟨s0, s1, rb, ⟨lb0, pb0⟩, ⟨lb1, pb1⟩⟩ := hb.rows
 have h5 := ha.hist
 have k5 := hb.hist
 have h6 := ha.regs
 have k6 := hb.regs
 have c1 := ha.cnt
 have d1 := hb.cnt
 have c2 := ha.sum
 have d2 := hb.sum
 have c3 := ha.min
 have d3 := hb.min
 have c4 := ha.max
 have d4 := hb.max
 have cl := ha.le
 have dl := hb.le
 have cz := ha.zero
 have dz := hb.zero
 simp only at ra rb h5 k5 h6 k6 c1 d1 c2 d2 c3 d3 c4 d4 cl dl cz dz pa0 pa1 pb0 pb1
 subst ra rb
 have z0 := ad_zero c1.1 d1.1
 have g0 : List.getD [r0, r1] 0 [] = r0 := rfl
 have g1 : List.getD [r0, r1] 1 [] = r1 := rfl
 have e0 : List.getD [s0, s1] 0 [] = s0 := rfl
 have e1 : List.getD [s0, s1] 1 [] = s1 := rfl
 simp only [mrg, g0, g1, e0, e1]
 have cells : ∀ {u v : List Int}, (∀ x ∈ u, (0 ≤ x ∧ x ≤ 1000000000) ∧ (a1 = 0 → x = 0)) → (∀ x ∈ v, (0 ≤ x ∧ x ≤ 1000000000) ∧ (b1 = 0 → x = 0)) → ∀ x ∈ List.zipWith ad u v, (0 ≤ x ∧ x ≤ 1000000000) ∧ (ad a1 b1 = 0 → x = 0) := by
  intro u v hu hv
  refine zip_all fun x hx y hy => ⟨ad_rng x y, fun q => ?_⟩
  have := z0.1 q
  have e1 := (hu x hx).2 this.1
  have e2 := (hv y hy).2 this.2
  rw [e1, e2]; rfl
 refine ⟨ad_rng _ _, ad_rng _ _, ?_, ?_, ?_, ⟨_, _, rfl, ⟨by simp [la0, lb0], cells pa0 pb0⟩, ⟨by simp [la1, lb1], cells pa1 pb1⟩⟩, fun q => ?_, ⟨by simp [h5.1, k5.1], cells h5.2 k5.2⟩, ⟨by simp [h6.1, k6.1], zip_all fun x hx y hy => ⟨?_, fun q => ?_⟩⟩⟩
 ·simp only; split <;> (try split) <;> omega
 ·simp only; omega
 ·simp only; split <;> (try split) <;> omega
 ·have := z0.1 q
  have q1 := cz this.1
  have q2 := dz this.2
  simp only
  refine ⟨?_, by omega⟩
  rw [q1.1, q2.1]; rfl
 ·have := (h6.2 x hx).1
  have := (k6.2 y hy).1
  omega
 ·have := z0.1 q
  have e1 := (h6.2 x hx).2 this.1
  have e2 := (k6.2 y hy).2 this.2
  omega
end Go.Proofs.YtppjdpcmaipoaaaGreat.Tw
