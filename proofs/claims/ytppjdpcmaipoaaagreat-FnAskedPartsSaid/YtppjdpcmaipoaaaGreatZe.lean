/- Parts of a proof, packed: see the last text for what is proved. No condition: definitions and lemmas. -/
import Derived.Test.YtppjdpcmaipoaaaGreatZd
import Derived.Shelf.Small.Bits
import Derived.IntWalk
namespace Go.Proofs.YtppjdpcmaipoaaaGreat.Tw
open Go.Mach Go.Proofs Go.Shelf Go.RowKit Go.Lib Go.Sort
set_option linter.unusedVariables false
set_option maxRecDepth 100000
instance tabs : Tabs Tryz.prog := ⟨[]⟩
set_option maxHeartbeats 1000000 in
theorem closureSp (x y : Sp2) (W : World) : Calls Tryz.prog 179 #[.agg #[.int .i64 x.1, .int .i64 x.2], .agg #[.int .i64 y.1, .int .i64 y.2]] W fun e w' => e = .returned (.int .i64 (Lib.compareInt x.1 y.1)) ∧ ∃ q os', w' = grow (W.drewN q) os' := by
 have hcon := fun W' => AnyG.cmp_Compare_int Tryz.cmpSp x.1 y.1 W'
 change ∀ W', Calls Tryz.prog 180 _ _ _ at hcon
 generalize Lib.compareInt x.1 y.1 = r at hcon ⊢
 go_enter Tryz.func179, Tryz.ntmps179
 go_wp2_with (go_at_call 180; refine (hcon _).mono ?_; rintro e w' ⟨rfl, rfl⟩)
 go_ret
 exact ⟨rfl, 0, _, by rw [alloc_eq_grow, alloc_eq_grow, grow_grow]; rfl⟩
theorem cmpLaysSp (blk off size : Nat) (w : World) : CmpLays Tryz.prog 179 #[] encSp 2 cfSp blk off size w :=
 fun _ _ _ _ x y => closureSp x y _
def slices_SortFunc : List Sp2 × Unit → Option (List Sp2) := fun d => if d.1.length ≤ 4294967296 then some (sortLo d.1) else none
def slices_SortFunc_e : FEnt := ⟨14, [], [true, false], [(.one, [.own true kSp]), (.one, [.fn 179 []])], ⟨14 + 4, [⟨14, .agg, [.own true kSp]⟩]⟩, slices_SortFunc⟩
theorem slices_SortFunc_ok : FnOk Tryz.prog 178 slices_SortFunc_e := by
 refine fnOk_sort Tryz.func178 (by kernel_rfl) (by kernel_rfl) (by kernel_rfl) (by omega) (fun b off cap l w hH hb hsz => ?_) (fun p cap w => ?_)
 ·have eg : ∀ args w, (callFunc 179 args).run Tryz.prog w = .ok (.enter 179 args) w := enters_of Tryz.func179 (by kernel_rfl) rfl
  have h := AnyQ.slices_SortFunc_eq Tryz.sortSp 2 Tryz.isAgg94 Tryz.sizeOf94 encSp (fun _ => rfl) (fun x v hv => by simp [encSp] at hv; rcases hv with rfl | rfl <;> rfl) cfSp swoSp 179 #[] b off cap l.toArray w eg (cmpLaysSp b off l.toArray.size w) hH hb (by simpa using hsz)
  have e : l.toArray.size = l.length := by simp
  rw [e] at h
  refine h.mono ?_
  rintro e w' ⟨rfl, m, os, rfl⟩
  refine ⟨rfl, m, os, ?_⟩
  have : (sortLo l).toArray = pdq (ltOf cfSp) l.toArray 0 l.length (Lib.bitLen l.length) true true := by simp [sortLo]
  rw [this]
 ·exact AnyF.slices_SortFunc_none (P := Tryz.prog) (ρ := Tryz.sortSp_ren) { Tryz.sortSp with } p cap (.func (.func 179) #[] #[]) w
end Go.Proofs.YtppjdpcmaipoaaaGreat.Tw
namespace Go.Proofs.YtppjdpcmaipoaaaGreat.Tw
open Go.Mach
set_option linter.unusedVariables false
set_option maxRecDepth 100000
abbrev kI : K := .int .i64
abbrev kB : K := .int .u8
abbrev t0 : Type := List (Int × Int) × Int
abbrev t1 : Type := Unit × Int × Unit × Unit
abbrev t2 : Type := Int × Unit × Unit × Unit
abbrev t3 : Type := List Int × List Int × Int
abbrev t4 : Type := Int × List Int × Int × Int
abbrev t5 : Type := List Int × List (List Int)
abbrev t6 : Type := Int × Int × Bool × List Int
abbrev t7 : Type := List (List Int) × Int × Int
abbrev t8 : Type := List (Int × Int) × Int × Int
abbrev t9 : Type := Int × t2
abbrev t10 : Type := Unit × t1
abbrev t11 : Type := List Int × List Int × Int × Int
abbrev t12 : Type := List Int × Int × Int × Int × Int
abbrev t13 : Type := Int × t4
abbrev t14 : Type := Int × t8
abbrev t15 : Type := (Int × Unit) × (Int × Unit) × Unit
abbrev t16 : Type := List (Int × Int) × List (Int × Int)
abbrev t17 : Type := Int × t9
abbrev t18 : Type := List Int × t5
abbrev t19 : Type := Int × t12
abbrev t20 : Type := Unit × t10
abbrev t21 : Type := List (Int × Int) × List Int × Int × Int
abbrev t22 : Type := Int × t14
abbrev t23 : Type := List (Int × Int) × t0
abbrev t24 : Type := Int × t17
abbrev t25 : Type := Int × t18
abbrev t26 : Type := (Int × Bool × Unit) × Int × Bool × List Int
abbrev t27 : Type := Int × t19
abbrev t28 : Type := Bool × t20
abbrev t29 : Type := List (Int × Int) × t8
abbrev t30 : Type := List (Int × Bool × List Int) × Int × Unit × Unit
abbrev t31 : Type := Int × t25
abbrev t32 : Type := Int × t27
abbrev t33 : Type := Int × t28
abbrev t34 : Type := Int × Int × t24
abbrev t35 : Type := Int × t31
abbrev t36 : Type := Int × t33
abbrev t37 : Type := List t22 × Int × Int
abbrev t38 : Type := List Int × Int × t26
abbrev t39 : Type := Int × t35
abbrev t40 : Type := Int × t36
abbrev t41 : Type := Int × Int × t34
abbrev t42 : Type := Int × t39
abbrev t43 : Type := Int × t40
abbrev t44 : Type := t39 × Int
abbrev t45 : Type := Int × t42
abbrev t46 : Type := Int × t43
abbrev t47 : Type := Int × t45
abbrev t48 : Type := List (Int × Int) × t39
abbrev t49 : Type := Unit × t46
abbrev t50 : Type := Int × t47
abbrev t51 : Type := List (Int × Int) × t41
abbrev t52 : Type := Int × t48
abbrev t53 : Type := t39 × List Int × Int × Int
abbrev t54 : Type := Int × t49
abbrev t55 : Type := Int × t52
abbrev t56 : Type := Int × t54
abbrev t57 : Type := List (Int × Int) × List (Int × Int) × t37
abbrev t58 : Type := Int × t55
abbrev t59 : Type := Int × t56
abbrev t60 : Type := Int × Int × Bool × List t22 × t10
abbrev t61 : Type := Int × Int × Int × t51
abbrev t62 : Type := List (Int × Int) × t50
abbrev t63 : Type := List t55 × Int
abbrev t64 : Type := Int × List t55
abbrev t65 : Type := List t55 × Unit
abbrev t66 : Type := t24 × t39
abbrev t67 : Type := Int × t62
abbrev t68 : Type := List t55 × Int × Int
abbrev t69 : Type := List (List t55) × Unit
abbrev t70 : Type := t24 × t44
abbrev t71 : Type := Int × t67
abbrev t72 : Type := List t58 × Int × Int
abbrev t73 : Type := List (List t55) × Int × Int
abbrev t74 : Type := List (List t55) × Int × Bool
abbrev t75 : Type := Int × t71
abbrev t76 : Type := Int × List Int × t63
abbrev t77 : Type := List (Int × Int) × t63
abbrev t78 : Type := List (List (List t55)) × Int × Int
abbrev t79 : Type := Int × t75
abbrev t80 : Type := List Int × Int × Int × Int × t60
abbrev t81 : Type := List (List (List t55)) × t1
abbrev t82 : Type := t24 × t39 × t7
abbrev t83 : Type := List (Int × Bool × List Int) × Int × t65
abbrev t84 : Type := List (List (List t55)) × t30
abbrev t85 : Type := List t22 × t81
abbrev t86 : Type := Bool × t85
abbrev t87 : Type := Int × t86
abbrev t88 : Type := List t55 × List t58
abbrev t89 : Type := Int × t87
abbrev t90 : Type := Int × t88
abbrev t91 : Type := List t55 × t68
abbrev t92 : Type := List t22 × t84
abbrev t93 : Type := Int × t89
abbrev t94 : Type := Int × t93
abbrev t95 : Type := Bool × t92
abbrev t96 : Type := t24 × t39 × Int × t63
abbrev t97 : Type := Int × t94
abbrev t98 : Type := Int × t95
abbrev t99 : Type := (Unit × Unit × Unit) × t55 × Int × t64
abbrev t100 : Type := Int × t98
abbrev t101 : Type := List Int × t97
abbrev t102 : Type := Int × t100
abbrev t103 : Type := Int × t101
abbrev t104 : Type := List (Int × Bool × List Int) × t90
abbrev t105 : Type := Int × t102
abbrev t106 : Type := Int × t103
abbrev t107 : Type := Int × t105
abbrev t108 : Type := Int × t106
abbrev t109 : Type := List Int × t107
abbrev t110 : Type := Int × t109
abbrev t111 : Type := Int × t110
abbrev t112 : Type := Int × t111
abbrev t113 : Type := List t22 × List (List (List t55)) × t83
abbrev t114 : Type := Int × Int × Int × Bool × t113
abbrev t115 : Type := List (List (List t55)) × Int × t69 × t74
abbrev t116 : Type := List (List (List t55)) × t104
abbrev t117 : Type := Int × List Int × Int × Int × t114
abbrev t118 : Type := Int × Unit × t115
abbrev t119 : Type := List t22 × t116
abbrev t120 : Type := Bool × t119
abbrev t121 : Type := Int × t120
abbrev t122 : Type := Int × t121
abbrev t123 : Type := Int × t122
abbrev t124 : Type := Int × t123
abbrev t125 : Type := Int × t124
abbrev t126 : Type := List Int × t125
abbrev t127 : Type := Int × t126
abbrev t128 : Type := Int × t127
abbrev t129 : Type := Int × t128
abbrev t130 : Type := t129 × Int
abbrev t131 : Type := t129 × Int × Int
abbrev t132 : Type := t129 × Int × Int × Int
abbrev t133 : Type := t129 × t63
abbrev kk11 : K := (.list (.list kI))
abbrev kk10 : K := (.list (.pair kI kI))
abbrev kk9 : K := (.pair kI (.pair .bool (.list kI)))
abbrev kk8 : K := (.list kk9)
abbrev kk7 : K := (.pair kI (.pair kI (.pair kk10 (.pair kI kI))))
abbrev kk6 : K := (.list kk7)
abbrev kk5 : K := (.pair kI (.pair kI (.pair kk10 (.pair kI (.pair kI (.pair kI (.pair kI (.pair (.list kI) (.pair (.list kI) kk11)))))))))
abbrev kk4 : K := (.list kk5)
abbrev kk3 : K := (.pair kI kk5)
abbrev kk2 : K := (.list kk4)
abbrev kk1 : K := (.list kk3)
abbrev kk0 : K := (.list kk2)
abbrev cc0 : List PC := [.dat kI, .dat kI, .dat kI, .own true kI, .dat kI, .dat kI, .dat kI, .dat kI, .dat kI, .dat .bool, .own true kk7, .own false kk2, .own true kk9, .dat kI, .own false kk5, .own false kk3]
abbrev cc1 : List PC := [.dat kI, .dat kI, .dat kI, .own true kI, .dat kI, .dat kI, .dat kI, .dat kI, .dat kI, .dat .bool, .own true kk7, .own false kk2, .own true kk9, .dat kI, .own false kk5, .own true kk3]
abbrev cc2 : List PC := [.dat kI, .dat kI, .dat kI, .own true kI, .dat kI, .dat kI, .dat kI, .dat kI, .dat kI, .dat .bool, .own true kk7, .own true kk2, .own true kk9, .dat kI, .own false kk5, .own false kk3]
abbrev cc3 : List PC := [.dat kI, .dat kI, .dat kI, .own true kI, .dat kI, .dat kI, .dat kI, .dat kI, .dat kI, .dat .bool, .own true kk7, .own true kk2, .own true kk9, .dat kI, .own true kk5, .own true kk3]
abbrev cc4 : List PC := [.dat kI, .dat kI, .dat kI, .own true kI, .dat kI, .dat kI, .dat kI, .dat kI, .dat kI, .dat .bool, .own true kk7, .own true kk2, .own true kk9, .dat kI, .own true kk5, .nil]
abbrev cc5 : List PC := [.dat kI, .dat kI, .dat kI, .own true kI, .dat kI, .dat kI, .dat kI, .dat kI, .dat kI, .dat .bool, .own true kk7, .own true kk2, .own true kk9, .dat kI, .nil, .nil]
abbrev cc6 : List PC := [.dat kI, .dat kI, .dat kI, .dat kI, .dat kk10, .dat kI, .dat kI, .dat kI, .dat kI, .dat kI, .dat kI, .dat kI, .dat kI, .dat (.list kI), .dat (.list kI), .dat kk11]
abbrev cc7 : List PC := [.dat kI, .dat kI, .dat kI, .dat (.list kI), .dat kI, .dat kI, .dat kI, .dat kI, .dat kI, .dat .bool, .dat kk6, .dat kk0, .dat kk8, .dat kI, .dat kk4, .dat kk1]
abbrev cc8 : List PC := [.dat kI, .dat kI, .dat kI, .own true kI, .dat kI, .dat kI, .dat kI, .dat kI, .dat kI, .dat .bool, .own true kk7, .own true kk2, .nil, .dat kI, .nil, .nil]
abbrev cc9 : List PC := [.dat kI, .dat kI, .dat kI, .dat kI, .own true (.pair kI kI), .dat kI, .dat kI, .dat kI, .dat kI, .dat kI, .dat kI, .dat kI, .dat kI, .nil, .nil, .nil]
abbrev cc10 : List PC := [.dat kI, .dat kI, .dat kI, .own true kI, .dat kI, .dat kI, .dat kI, .dat kI, .dat kI, .dat .bool, .own true kk7, .nil, .nil, .dat kI, .nil, .nil]
abbrev cc11 : List PC := [.dat kI, .dat kI, .dat kI, .dat kI, .nil, .dat kI, .dat kI, .dat kI, .dat kI, .dat kI, .dat kI, .dat kI, .dat kI, .nil, .nil, .nil]
abbrev cc12 : List PC := [.dat kI, .dat kI, .dat kI, .nil, .dat kI, .dat kI, .dat kI, .dat kI, .dat kI, .dat .bool, .nil, .nil, .nil, .dat kI, .nil, .nil]
abbrev cc13 : List PC := [.dat kI, .dat kI, .own true (.pair kI kI), .dat kI, .dat kI, .dat kI, .dat kI, .own true kI, .own true kI, .own true (.list kI)]
abbrev cc14 : List PC := [.dat kI, .dat kI, .dat kI, .dat kI, .dat kI, .dat kI, .dat kI, .dat kI, .dat (.list kI), .dat (.list kI), .dat kk11]
abbrev cc15 : List PC := [.dat kI, .dat kI, .dat kk10, .dat kI, .dat kI, .dat kI, .dat kI, .dat (.list kI), .dat (.list kI), .dat kk11]
abbrev cc16 : List PC := [.dat kI, .dat kI, .dat kI, .dat kI, .own true kI, .own true kI, .own true (.list kI)]
abbrev cc17 : List PC := [.dat kI, .dat kI, .dat kI, .dat kI, .dat (.list kI), .dat (.list kI), .dat kk11]
abbrev cc18 : List PC := [.dat kI, .dat kI, .dat kI, .dat (.list kI), .dat kI, .dat kI, .dat kI, .dat kI]
abbrev cc19 : List PC := [.dat kI, .dat kI, .dat kI, .dat kI, .own true kI, .nil, .own true (.list kI)]
abbrev cc20 : List PC := [.dat kI, .dat kI, .nil, .dat kI, .dat kI, .dat kI, .dat kI, .nil, .nil, .nil]
abbrev cc21 : List PC := [.dat kI, .dat kI, .dat kI, .own true kI, .dat kI, .dat kI, .dat kI, .dat kI]
abbrev cc22 : List PC := [.dat kI, .dat kI, .own true (.pair kI kI), .dat kI, .dat kI]
abbrev cc23 : List PC := [.dat kI, .dat kI, .dat kI, .dat kI, .nil, .nil, .nil]
abbrev cc24 : List PC := [.dat kI, .dat kI, .dat kk10, .dat kI, .dat kI]
abbrev cc25 : List PC := [.dat kI, .dat kI, .nil, .dat kI, .dat kI]
abbrev cc26 : List PC := [.dat kI, .dat .bool, .dat (.list kI)]
abbrev cc27 : List PC := [.fn 149 [.pim [kI] 0, .pim [kI] 0]]
abbrev cc28 : List PC := [.dat (.list kB), .dat kI, .dat kI]
abbrev cc29 : List PC := [.dat kI, .dat .bool, .own true kI]
abbrev cc30 : List PC := [.ref 89 0 [] false false kk5]
abbrev cc31 : List PC := [.dat kI, .dat .bool, .nil]
abbrev cc32 : List PC := [.own true (.pair kI kI)]
abbrev cc33 : List PC := [.fn 176 [.pim [kI] 0]]
abbrev cc34 : List PC := [.dat kI, .dat kI]
theorem mixed : Tryz.prog.follows .mixedOrders = true := by kernel_rfl
def Keu : List Int → Option Bool
 | a => some (decide ((ln a) > 1048576))
def Keu_e : FEnt := ⟨6, [.tmp 2], [], [(.one, [.dat (.list kB)])], ⟨8, [⟨2, .one, [.dat .bool]⟩]⟩, Keu⟩
theorem Keu_ok : FnOk Tryz.prog 7 Keu_e := fnOk_mk (tb := []) (c := (Tryz.f7.body).getD .skip) mixed Tryz.func7 bN (by kernel_rfl) (by kernel_rfl) (by kernel_rfl) trivial (by intro d; kernel_rfl)
def Kci_s58 : List Int × Int × Int → Option (List Int × Int × Int ⊕ List Int × Int)
 | (a, b, c) => bif decide (c < (ln a)) then bif decide (c < 4000) then ix c a.length ((some (w64 ((w64 ((w64 (b * 131)) + (w64 (gx a c 0)))) + 7))).bind fun d => (some (w64 (Int.ofNat (BitVec.toNat (BitVec.ofInt (64 : Nat) d &&& BitVec.ofInt (64 : Nat) (1073741823 : Int)))))).bind fun e => some (.inl (a, e, w64 (c + 1)))) else some (.inr (a, b)) else some (.inr (a, b))
def Kci_n58 : NEnt := ⟨⟨34, [⟨0, .one, [.dat (.list kB)]⟩, ⟨3, .one, [.dat kI]⟩, ⟨4, .one, [.dat kI]⟩]⟩, [(.exit 0, ⟨34, [⟨0, .one, [.dat (.list kB)]⟩, ⟨3, .one, [.dat kI]⟩]⟩)], lp Kci_s58⟩
def Kci : List Int → Option (Unit × List Int × Int × Int)
 | a => (lp Kci_s58 (a, w64 (26583 + (ln a)), 0)).bind fun (b, c) => some ((), b, 0, c)
def Kci_e : FEnt := ⟨32, [.tmp 2], [], [(.one, [.dat (.list kB)])], ⟨34, [⟨2, .one, [.bptr 31 0]⟩, ⟨31, .box, cc28⟩]⟩, Kci⟩
theorem Kci_ok : FnOk Tryz.prog 47 Kci_e := fnOk_mk (tb := [(58, Kci_n58)]) (c := (Tryz.f47.body).getD .skip) mixed Tryz.func47 bN (by kernel_rfl) (by kernel_rfl) (by kernel_rfl) ⟨nodeLoop (by kernel_rfl) Kci_s58 (by kernel_rfl) (by intro d; kernel_rfl), trivial⟩ (by intro d; kernel_rfl)
def Kcl : List Int × Int × Int → Option t4
 | (a, b, c) => (some (Int.fdiv (w64 ((w64 (c * 6364136223846793005)) + 1442695040888963407)) ((2 : Int) ^ (33 : Nat)))).bind fun d => (some (Int.fdiv (w64 ((w64 (c * 6364136223846793005)) + 1442695040888963407)) ((2 : Int) ^ (45 : Nat)))).bind fun e => (some (w64 (Int.ofNat (BitVec.toNat (BitVec.ofInt (64 : Nat) (IntKind.wrap IntKind.i64 (↑(BitVec.toNat (BitVec.ofInt (64 : Nat) d ^^^ BitVec.ofInt (64 : Nat) e)) : Int)) &&& BitVec.ofInt (64 : Nat) (255 : Int)))))).bind fun f => bif decide (b < (ln a)) then ix b a.length ((some (w64 (Int.ofNat (BitVec.toNat (BitVec.ofInt (64 : Nat) (IntKind.wrap IntKind.i64 (f + IntKind.wrap IntKind.i64 (List.getD a (Int.toNat b) (0 : Int)))) &&& BitVec.ofInt (64 : Nat) (255 : Int)))))).bind fun g => some (g, a, w64 (b + 1), w64 ((w64 (c * 6364136223846793005)) + 1442695040888963407))) else some (f, a, b, w64 ((w64 (c * 6364136223846793005)) + 1442695040888963407))
def Kcl_e : FEnt := ⟨58, [.tmp 2], [true], [(.box, cc28)], ⟨60, [⟨2, .one, [.dat kI]⟩, ⟨59, .box, cc28⟩]⟩, Kcl⟩
theorem Kcl_ok : FnOk Tryz.prog 58 Kcl_e := fnOk_mk (tb := []) (c := (Tryz.f58.body).getD .skip) mixed Tryz.func58 bN (by kernel_rfl) (by kernel_rfl) (by kernel_rfl) trivial (by intro d; kernel_rfl)
def Kg : (List Int × Int × Int) × Int → Option t4
 | ((a, b, c), d) => bif decide (d ≤ 0) then some (0, a, b, c) else bif decide (d ≤ 256) then (Kcl (a, b, c)).bind fun (e, f, g, h) => chk (!(decide (d = 0))) (some (Int.tmod e d, f, g, h)) else (Kcl (a, b, c)).bind fun (e, f, g, h) => (Kcl (f, g, h)).bind fun (i, j, k, l) => (Kcl (j, k, l)).bind fun (m, n, o, p) => (Kcl (n, o, p)).bind fun (q, r, s, t) => (some (w64 ((w64 ((w64 (e * 16777216)) + (w64 (i * 65536)))) + (w64 (m * 256))))).bind fun u => chk (!(decide (d = 0))) (some (Int.tmod (w64 (u + q)) d, r, s, t))
def Kg_e : FEnt := ⟨37, [.tmp 4], [true, false], [(.box, cc28), (.one, [.dat kI])], ⟨41, [⟨4, .one, [.dat kI]⟩, ⟨38, .box, cc28⟩]⟩, Kg⟩
theorem Kg_ok : FnOk Tryz.prog 57 Kg_e := fnOk_mk (tb := []) (c := (Tryz.f57.body).getD .skip) mixed Tryz.func57 (bC Kcl_ok bN) (by kernel_rfl) (by kernel_rfl) (by kernel_rfl) trivial (by intro d; kernel_rfl)
def Kn : (List Int × Int × Int) × List Int → Option t4
 | ((a, b, c), d) => (Kg ((a, b, c), ln d)).bind fun (e, f, g, h) => ix e d.length (some (gx d e 0, f, g, h))
def Kn_e : FEnt := ⟨12, [.tmp 4], [true, false], [(.box, cc28), (.one, [.dat (.list kI)])], ⟨16, [⟨4, .one, [.dat kI]⟩, ⟨13, .box, cc28⟩]⟩, Kn⟩
theorem Kn_ok : FnOk Tryz.prog 94 Kn_e := fnOk_mk (tb := []) (c := (Tryz.f94.body).getD .skip) mixed Tryz.func94 (bC Kg_ok bN) (by kernel_rfl) (by kernel_rfl) (by kernel_rfl) trivial (by intro d; kernel_rfl)
def Kei : List Int × Int × Int → Option (t32 × List Int × Int × Int)
 | (a, b, c) => (Kg ((a, b, c), 5)).bind fun (d, e, f, g) => (Kn ((e, f, g), [5, 20, 60])).bind fun (h, i, j, k) => (Kg ((i, j, k), 4)).bind fun (l, m, n, o) => (Kg ((m, n, o), 3)).bind fun (p, q, r, s) => (Kg ((q, r, s), 3)).bind fun (t, u, v, w) => (Kn ((u, v, w), [1, 3, 100])).bind fun (x, y, z, a1) => (Kg ((y, z, a1), 3)).bind fun (b1, c1, d1, e1) => (Kg ((c1, d1, e1), 3)).bind fun (f1, g1, h1, i1) => (Kn ((g1, h1, i1), [2, 5, 50])).bind fun (j1, k1, l1, m1) => some ((w64 (1 + d), h, w64 (1 + l), [w64 (1 + p), w64 (1 + t), 1], x, w64 (1 + b1), f1, j1), k1, l1, m1)
def Kei_e : FEnt := ⟨31, [.cell 2 true 8], [true], [(.box, cc28)], ⟨33, [⟨2, .box, cc21⟩, ⟨32, .box, cc28⟩]⟩, Kei⟩
theorem Kei_ok : FnOk Tryz.prog 151 Kei_e := fnOk_mk (tb := []) (c := (Tryz.f151.body).getD .skip) mixed Tryz.func151 (bC Kg_ok (bC Kn_ok bN)) (by kernel_rfl) (by kernel_rfl) (by kernel_rfl) trivial (by intro d; kernel_rfl)
def Kb : Int × Int × Int → Option Bool
 | (a, b, c) => bif decide (a ≥ b) then some (decide (a ≤ c)) else some false
def Kb_e : FEnt := ⟨15, [.tmp 6], [], [(.one, [.dat kI]), (.one, [.dat kI]), (.one, [.dat kI])], ⟨21, [⟨6, .one, [.dat .bool]⟩]⟩, Kb⟩
theorem Kb_ok : FnOk Tryz.prog 53 Kb_e := fnOk_mk (tb := []) (c := (Tryz.f53.body).getD .skip) mixed Tryz.func53 bN (by kernel_rfl) (by kernel_rfl) (by kernel_rfl) trivial (by intro d; kernel_rfl)
def Kaf_s58 : List Int × Int × Int × Int → Option (List Int × Int × Int × Int ⊕ Bool ⊕ Unit)
 | (a, b, c, d) => bif decide (d < (ln a)) then ix d a.length ((Kb (gx a d 0, b, c)).bind fun e => bif !e then some (.inr (.inl false)) else some (.inl (a, b, c, w64 (d + 1)))) else some (.inr (.inr ()))
def Kaf_n58 : NEnt := ⟨⟨31, [⟨0, .one, [.dat (.list kI)]⟩, ⟨1, .one, [.dat kI]⟩, ⟨2, .one, [.dat kI]⟩, ⟨7, .one, [.dat kI]⟩]⟩, [(.ret, ⟨31, [⟨6, .one, [.dat .bool]⟩]⟩), (.exit 0, ⟨31, []⟩)], lp Kaf_s58⟩
def Kaf : List Int × Int × Int → Option Bool
 | (a, b, c) => bif (ln a) != 3 then some false else bx (lp Kaf_s58 (a, b, c, 0)) (fun d => some d) fun _ => some true
def Kaf_e : FEnt := ⟨25, [.tmp 6], [], [(.one, [.dat (.list kI)]), (.one, [.dat kI]), (.one, [.dat kI])], ⟨31, [⟨6, .one, [.dat .bool]⟩]⟩, Kaf⟩
theorem Kaf_ok : FnOk Tryz.prog 133 Kaf_e := fnOk_mk (tb := [(58, Kaf_n58)]) (c := (Tryz.f133.body).getD .skip) mixed Tryz.func133 (bC Kb_ok bN) (by kernel_rfl) (by kernel_rfl) (by kernel_rfl) ⟨nodeLoop (by kernel_rfl) Kaf_s58 (by kernel_rfl) (by intro d; kernel_rfl), trivial⟩ (by intro d; kernel_rfl)
def Kcr : t32 → Option Bool
 | (a, b, c, d, e, f, g, h) => (Kb (a, 1, 8)).bind fun i => bif i then (Kb (b, 1, 60)).bind fun j => bif j then (Kb (c, 1, 10)).bind fun k => bif k then (Kaf (d, 1, 4)).bind fun l => bif l then (Kb (e, 1, 100)).bind fun m => bif m then (Kb (f, 1, 20)).bind fun n => bif n then (Kb (g, 0, 20)).bind fun o => bif o then (Kb (h, 1, 50)).bind fun p => some p else some false else some false else some false else some false else some false else some false else some false
def Kcr_e : FEnt := ⟨41, [.tmp 2], [], [(.agg, cc18)], ⟨43, [⟨2, .one, [.dat .bool]⟩]⟩, Kcr⟩
theorem Kcr_ok : FnOk Tryz.prog 82 Kcr_e := fnOk_mk (tb := []) (c := (Tryz.f82.body).getD .skip) mixed Tryz.func82 (bC Kb_ok (bC Kaf_ok bN)) (by kernel_rfl) (by kernel_rfl) (by kernel_rfl) trivial (by intro d; kernel_rfl)
def Kcz : t32 → Option t32
 | (a, b, c, d, e, f, g, h) => chk (fits (0 + d.length) 8) (some (a, b, c, [] ++ d, e, f, g, h))
def Kcz_e : FEnt := ⟨11, [.cell 2 true 8], [], [(.agg, cc18)], ⟨13, [⟨2, .box, cc21⟩]⟩, Kcz⟩
theorem Kcz_ok : FnOk Tryz.prog 184 Kcz_e := fnOk_mk (tb := []) (c := (Tryz.f184.body).getD .skip) mixed Tryz.func184 bN (by kernel_rfl) (by kernel_rfl) (by kernel_rfl) trivial (by intro d; kernel_rfl)
def Kcn : List (Int × Int) → Option (List (Int × Int))
 | a => chk (fits (0 + a.length) 16) (some ([] ++ a))
def Kcn_e : FEnt := ⟨6, [.tmp 2], [], [(.one, [.dat kk10])], ⟨8, [⟨2, .one, cc32⟩]⟩, Kcn⟩
theorem Kcn_ok : FnOk Tryz.prog 139 Kcn_e := fnOk_mk (tb := []) (c := (Tryz.f139.body).getD .skip) mixed Tryz.func139 bN (by kernel_rfl) (by kernel_rfl) (by kernel_rfl) trivial (by intro d; kernel_rfl)
def Kca : t22 → Option t22
 | (a, b, c, d, e) => (Kcn c).bind fun f => some (a, b, f, d, e)
def Kca_e : FEnt := ⟨10, [.cell 2 true 5], [], [(.agg, cc24)], ⟨12, [⟨2, .box, cc22⟩]⟩, Kca⟩
theorem Kca_ok : FnOk Tryz.prog 195 Kca_e := fnOk_mk (tb := []) (c := (Tryz.f195.body).getD .skip) mixed Tryz.func195 (bC Kcn_ok bN) (by kernel_rfl) (by kernel_rfl) (by kernel_rfl) trivial (by intro d; kernel_rfl)
def Kae_s26 : t0 → Option (t0 ⊕ Bool ⊕ Unit)
 | (a, b) => bif decide (b < (ln a)) then ix b a.length ((some (gx a b (0, 0))).bind fun (c, d) => (Kb (c, 0, 9999)).bind fun e => bif !e then some (.inr (.inl false)) else ix b a.length ((some (gx a b (0, 0))).bind fun (f, g) => ix b a.length ((some (gx a b (0, 0))).bind fun (h, i) => (Kb (g, h, 9999)).bind fun j => bif !j then some (.inr (.inl false)) else bif decide (b > 0) then ix b a.length ((some (gx a b (0, 0))).bind fun (k, l) => ix (w64 (b - 1)) a.length ((some (gx a (w64 (b - 1)) (0, 0))).bind fun (m, n) => bif decide (k ≤ (w64 (n + 1))) then some (.inr (.inl false)) else some (.inl (a, w64 (b + 1))))) else some (.inl (a, w64 (b + 1)))))) else some (.inr (.inr ()))
def Kae_n26 : NEnt := ⟨⟨52, [⟨0, .one, [.dat kk10]⟩, ⟨3, .one, [.dat kI]⟩]⟩, [(.ret, ⟨52, [⟨2, .one, [.dat .bool]⟩]⟩), (.exit 0, ⟨52, []⟩)], lp Kae_s26⟩
def Kae : List (Int × Int) → Option Bool
 | a => bx (lp Kae_s26 (a, 0)) (fun b => some b) fun _ => some true
def Kae_e : FEnt := ⟨50, [.tmp 2], [], [(.one, [.dat kk10])], ⟨52, [⟨2, .one, [.dat .bool]⟩]⟩, Kae⟩
theorem Kae_ok : FnOk Tryz.prog 113 Kae_e := fnOk_mk (tb := [(26, Kae_n26)]) (c := (Tryz.f113.body).getD .skip) mixed Tryz.func113 (bC Kb_ok bN) (by kernel_rfl) (by kernel_rfl) (by kernel_rfl) ⟨nodeLoop (by kernel_rfl) Kae_s26 (by kernel_rfl) (by intro d; kernel_rfl), trivial⟩ (by intro d; kernel_rfl)
def Kbz_s58 : t8 → Option (t8 ⊕ Bool ⊕ Unit)
 | (a, b, c) => bif decide (c < (ln a)) then ix c a.length ((some (gx a c (0, 0))).bind fun (d, e) => bif decide (d < 1) then some (.inr (.inl false)) else ix c a.length ((some (gx a c (0, 0))).bind fun (f, g) => bif decide (g > b) then some (.inr (.inl false)) else some (.inl (a, b, w64 (c + 1))))) else some (.inr (.inr ()))
def Kbz_n58 : NEnt := ⟨⟨34, [⟨0, .one, [.dat kk10]⟩, ⟨1, .one, [.dat kI]⟩, ⟨5, .one, [.dat kI]⟩]⟩, [(.ret, ⟨34, [⟨4, .one, [.dat .bool]⟩]⟩), (.exit 0, ⟨34, []⟩)], lp Kbz_s58⟩
def Kbz : t0 → Option Bool
 | (a, b) => (Kae a).bind fun c => bif !c then some false else bx (lp Kbz_s58 (a, b, 0)) (fun d => some d) fun _ => some true
def Kbz_e : FEnt := ⟨30, [.tmp 4], [], [(.one, [.dat kk10]), (.one, [.dat kI])], ⟨34, [⟨4, .one, [.dat .bool]⟩]⟩, Kbz⟩
theorem Kbz_ok : FnOk Tryz.prog 181 Kbz_e := fnOk_mk (tb := [(58, Kbz_n58)]) (c := (Tryz.f181.body).getD .skip) mixed Tryz.func181 (bC Kae_ok bN) (by kernel_rfl) (by kernel_rfl) (by kernel_rfl) ⟨nodeLoop (by kernel_rfl) Kbz_s58 (by kernel_rfl) (by intro d; kernel_rfl), trivial⟩ (by intro d; kernel_rfl)
def Kak_s122 : t8 → Option (t8 ⊕ Int)
 | (a, b, c) => bif decide (c < (ln a)) then ix c a.length ((some (gx a c (0, 0))).bind fun (d, e) => ix c a.length ((some (gx a c (0, 0))).bind fun (f, g) => some (.inl (a, w64 ((w64 ((w64 (b + e)) - f)) + 1), w64 (c + 1))))) else some (.inr b)
def Kak_n122 : NEnt := ⟨⟨32, [⟨0, .one, [.dat kk10]⟩, ⟨3, .one, [.dat kI]⟩, ⟨4, .one, [.dat kI]⟩]⟩, [(.exit 0, ⟨32, [⟨3, .one, [.dat kI]⟩]⟩)], lp Kak_s122⟩
def Kak : List (Int × Int) → Option Int
 | a => (Kae a).bind fun b => bif !b then some 0 else (lp Kak_s122 (a, 0, 0)).bind fun c => some c
def Kak_e : FEnt := ⟨30, [.tmp 2], [], [(.one, [.dat kk10])], ⟨32, [⟨2, .one, [.dat kI]⟩]⟩, Kak⟩
theorem Kak_ok : FnOk Tryz.prog 81 Kak_e := fnOk_mk (tb := [(122, Kak_n122)]) (c := (Tryz.f81.body).getD .skip) mixed Tryz.func81 (bC Kae_ok bN) (by kernel_rfl) (by kernel_rfl) (by kernel_rfl) ⟨nodeLoop (by kernel_rfl) Kak_s122 (by kernel_rfl) (by intro d; kernel_rfl), trivial⟩ (by intro d; kernel_rfl)
def Kbs : t22 × Int → Option Bool
 | ((a, b, c, d, e), f) => (Kb (f, 1, 8)).bind fun g => bif g then (Kb (a, 0, 1000)).bind fun h => bif h then (Kb (b, 0, 60)).bind fun i => bif i then (Kbz (c, b)).bind fun j => bif j then (Kak c).bind fun k => (Kb (d, 0, k)).bind fun l => bif l then bif decide (b ≤ (w64 (d + f))) then (Kb (e, 0, 1000000)).bind fun m => some m else some false else some false else some false else some false else some false else some false
def Kbs_e : FEnt := ⟨46, [.tmp 4], [], [(.agg, cc24), (.one, [.dat kI])], ⟨50, [⟨4, .one, [.dat .bool]⟩]⟩, Kbs⟩
theorem Kbs_ok : FnOk Tryz.prog 134 Kbs_e := fnOk_mk (tb := []) (c := (Tryz.f134.body).getD .skip) mixed Tryz.func134 (bC Kb_ok (bC Kbz_ok (bC Kak_ok bN))) (by kernel_rfl) (by kernel_rfl) (by kernel_rfl) trivial (by intro d; kernel_rfl)
def Km : Int × Int → Option Int
 | (a, b) => bif decide (a < b) then some a else some b
def Km_e : FEnt := ⟨10, [.tmp 4], [], [(.one, [.dat kI]), (.one, [.dat kI])], ⟨14, [⟨4, .one, [.dat kI]⟩]⟩, Km⟩
theorem Km_ok : FnOk Tryz.prog 142 Km_e := fnOk_mk (tb := []) (c := (Tryz.f142.body).getD .skip) mixed Tryz.func142 bN (by kernel_rfl) (by kernel_rfl) (by kernel_rfl) trivial (by intro d; kernel_rfl)
def Kct : t22 × Int → Option t22
 | ((a, b, c, d, e), f) => (Kca (a, b, c, d, e)).bind fun (g, h, i, j, k) => (Kbs ((a, b, c, d, e), f)).bind fun l => bif l then (Km (60, w64 (d + f))).bind fun m => some (g, m, i, j, k) else some (g, h, i, j, k)
def Kct_e : FEnt := ⟨18, [.cell 4 true 5], [], [(.agg, cc24), (.one, [.dat kI])], ⟨22, [⟨4, .box, cc22⟩]⟩, Kct⟩
theorem Kct_ok : FnOk Tryz.prog 185 Kct_e := fnOk_mk (tb := []) (c := (Tryz.f185.body).getD .skip) mixed Tryz.func185 (bC Kca_ok (bC Kbs_ok (bC Km_ok bN))) (by kernel_rfl) (by kernel_rfl) (by kernel_rfl) trivial (by intro d; kernel_rfl)
def Kdh : Unit → Option (Int × Bool × List Int)
 | _ => some (0, true, List.replicate 3 0)
def Kdh_e : FEnt := ⟨3, [.cell 0 true 3], [], [], ⟨3, [⟨0, .box, cc29⟩]⟩, Kdh⟩
theorem Kdh_ok : FnOk Tryz.prog 186 Kdh_e := fnOk_mk (tb := []) (c := (Tryz.f186.body).getD .skip) mixed Tryz.func186 bN (by kernel_rfl) (by kernel_rfl) (by kernel_rfl) trivial (by intro d; kernel_rfl)
def Kab_s122 : t32 × t59 × t108 × Int → Option (t32 × t59 × t108 × Int ⊕ t59 × t108)
 | ((a, b, c, d, e, f, g, h), (i, j, k, _, l, m, n, o, p, q, _, _, _, r, _, _), (s, t, u, v, w, x, y, z, a1, b1, c1, d1, _, e1, _, _), f1) => bif decide (f1 < 3) then (Kct ((0, 0, [], 0, 0), a)).bind fun (g1, h1, i1, j1, k1) => (some [(g1, h1, i1, j1, k1)]).bind fun l1 => chk (fits (c1.length + l1.length) 56) ((some (c1 ++ l1)).bind fun m1 => (some (List.replicate 2 [])).bind fun n1 => (some [n1]).bind fun o1 => chk (fits (d1.length + o1.length) 24) ((some (d1 ++ o1)).bind fun p1 => some (.inl ((a, b, c, d, e, f, g, h), (i, j, k, (), l, m, n, o, p, q, (), (), (), r, (), ()), (s, t, u, v, w, x, y, z, a1, b1, m1, p1, (), e1, (), ()), w64 (f1 + 1))))) else some (.inr ((i, j, k, (), l, m, n, o, p, q, (), (), (), r, (), ()), s, t, u, v, w, x, y, z, a1, b1, c1, d1, (), e1, (), ()))
def Kab_n122 : NEnt := ⟨⟨46, [⟨1, .box, cc18⟩, ⟨2, .box, cc12⟩, ⟨4, .box, cc8⟩, ⟨5, .one, [.dat kI]⟩]⟩, [(.exit 0, ⟨46, [⟨2, .box, cc12⟩, ⟨4, .box, cc8⟩]⟩)], lp Kab_s122⟩
def Kab_s250 : t59 × t112 × Int → Option (t59 × t112 × Int ⊕ t59 × t112)
 | ((a, b, c, _, d, e, f, g, h, i, _, _, _, j, _, _), (k, l, m, n, o, p, q, r, s, t, u, v, w, x, _, _), y) => bif decide (y < 2) then (Kdh ()).bind fun (z, a1, b1) => chk (fits (w.length + [(z, a1, b1)].length) 40) ((some (w ++ [(z, a1, b1)])).bind fun c1 => some (.inl ((a, b, c, (), d, e, f, g, h, i, (), (), (), j, (), ()), (k, l, m, n, o, p, q, r, s, t, u, v, c1, x, (), ()), w64 (y + 1)))) else some (.inr ((a, b, c, (), d, e, f, g, h, i, (), (), (), j, (), ()), k, l, m, n, o, p, q, r, s, t, u, v, w, x, (), ()))
def Kab_n250 : NEnt := ⟨⟨46, [⟨2, .box, cc12⟩, ⟨4, .box, cc5⟩, ⟨6, .one, [.dat kI]⟩]⟩, [(.exit 2, ⟨46, [⟨2, .box, cc12⟩, ⟨4, .box, cc5⟩]⟩)], lp Kab_s250⟩
def Kab : t32 → Option (t112 × Bool)
 | (a, b, c, d, e, f, g, h) => (Kcr (a, b, c, d, e, f, g, h)).bind fun i => bif !i then some ((0, 0, 0, [], 0, 0, 0, 0, 0, false, [], [], [], 0, (), ()), false) else (Kcz (a, b, c, d, e, f, g, h)).bind fun (j, k, l, m, n, o, p, q) => (lp Kab_s122 ((a, b, c, d, e, f, g, h), (0, 0, 0, (), 0, 0, 0, 0, 0, false, (), (), (), 0, (), ()), (j, k, l, m, n, o, p, q, 0, false, [], [], (), 0, (), ()), 0)).bind fun ((r, s, t, _, u, v, w, x, y, z, _, _, _, a1, _, _), b1, c1, d1, e1, f1, g1, h1, i1, j1, k1, l1, m1, _, n1, _, _) => (lp Kab_s250 ((r, s, t, (), u, v, w, x, y, z, (), (), (), a1, (), ()), (b1, c1, d1, e1, f1, g1, h1, i1, j1, k1, l1, m1, [], n1, (), ()), 0)).bind fun ((o1, p1, q1, _, r1, s1, t1, u1, v1, w1, _, _, _, x1, _, _), y1, z1, a2, b2, c2, d2, e2, f2, g2, h2, i2, j2, k2, l2, _, _) => some ((y1, z1, a2, b2, c2, d2, e2, f2, g2, h2, i2, j2, k2, l2, (), ()), true)
def Kab_e : FEnt := ⟨44, [.cell 2 true 16, .tmp 3], [], [(.agg, cc18)], ⟨46, [⟨2, .box, cc5⟩, ⟨3, .one, [.dat .bool]⟩]⟩, Kab⟩
theorem Kab_ok : FnOk Tryz.prog 150 Kab_e := fnOk_mk (tb := [(250, Kab_n250), (122, Kab_n122)]) (c := (Tryz.f150.body).getD .skip) mixed Tryz.func150 (bC Kcr_ok (bC Kcz_ok (bC Kct_ok (bC Kdh_ok bN)))) (by kernel_rfl) (by kernel_rfl) (by kernel_rfl) ⟨nodeLoop (by kernel_rfl) Kab_s250 (by kernel_rfl) (by intro d; kernel_rfl), nodeLoop (by kernel_rfl) Kab_s122 (by kernel_rfl) (by intro d; kernel_rfl), trivial⟩ (by intro d; kernel_rfl)
def Kdb : Int × Int → Option Bool
 | (a, b) => (Kb (a, 0, 4)).bind fun c => bif c then (Kb (b, 0, 20)).bind fun d => some d else some false
def Kdb_e : FEnt := ⟨11, [.tmp 4], [], [(.one, [.dat kI]), (.one, [.dat kI])], ⟨15, [⟨4, .one, [.dat .bool]⟩]⟩, Kdb⟩
theorem Kdb_ok : FnOk Tryz.prog 112 Kdb_e := fnOk_mk (tb := []) (c := (Tryz.f112.body).getD .skip) mixed Tryz.func112 (bC Kb_ok bN) (by kernel_rfl) (by kernel_rfl) (by kernel_rfl) trivial (by intro d; kernel_rfl)
def Kaw_s58 : List Int × Int × Int × Bool × Int → Option (List Int × Int × Int × Bool × Int ⊕ Bool ⊕ Unit)
 | (a, b, c, d, e) => bif decide (e < b) then ix e a.length ((Kb (gx a e 0, 0, c)).bind fun f => bif !f then some (.inr (.inl false)) else bif d then ix e a.length (bif (gx a e 0) != 0 then some (.inr (.inl false)) else some (.inl (a, b, c, d, w64 (e + 1)))) else some (.inl (a, b, c, d, w64 (e + 1)))) else some (.inr (.inr ()))
def Kaw_n58 : NEnt := ⟨⟨44, [⟨0, .one, [.dat (.list kI)]⟩, ⟨1, .one, [.dat kI]⟩, ⟨2, .one, [.dat kI]⟩, ⟨3, .one, [.dat .bool]⟩, ⟨9, .one, [.dat kI]⟩]⟩, [(.ret, ⟨44, [⟨8, .one, [.dat .bool]⟩]⟩), (.exit 0, ⟨44, []⟩)], lp Kaw_s58⟩
def Kaw : List Int × Int × Int × Bool → Option Bool
 | (a, b, c, d) => bif (ln a) != b then some false else bx (lp Kaw_s58 (a, b, c, d, 0)) (fun e => some e) fun _ => some true
def Kaw_e : FEnt := ⟨36, [.tmp 8], [], [(.one, [.dat (.list kI)]), (.one, [.dat kI]), (.one, [.dat kI]), (.one, [.dat .bool])], ⟨44, [⟨8, .one, [.dat .bool]⟩]⟩, Kaw⟩
theorem Kaw_ok : FnOk Tryz.prog 163 Kaw_e := fnOk_mk (tb := [(58, Kaw_n58)]) (c := (Tryz.f163.body).getD .skip) mixed Tryz.func163 (bC Kb_ok bN) (by kernel_rfl) (by kernel_rfl) (by kernel_rfl) ⟨nodeLoop (by kernel_rfl) Kaw_s58 (by kernel_rfl) (by intro d; kernel_rfl), trivial⟩ (by intro d; kernel_rfl)
def Kas_l31 : t39 × Bool → Option Bool
 | ((a, b, c, d, e, f, g), h) => (Kaw (e, 8, 1000000000, h)).bind fun i => bif i then (Kaw (f, 8, 17, h)).bind fun j => bif j then chk (decide (0 < g.length)) ((Kaw (List.getD g 0 [], 4, 1000000000, h)).bind fun k => bif k then chk (decide (1 < g.length)) ((Kaw (List.getD g 1 [], 4, 1000000000, h)).bind fun l => some l) else some false) else some false else some false
def Kas_n31 : NEnt := ⟨⟨81, [⟨1, .box, cc17⟩, ⟨3, .one, [.dat .bool]⟩]⟩, [(.ret, ⟨81, [⟨2, .one, [.dat .bool]⟩]⟩)], Kas_l31⟩
def Kas : t39 → Option Bool
 | (a, b, c, d, e, f, g) => (Kb (a, 0, 1000000000)).bind fun h => bif !h then some false else (Kb (b, 0, 1000000000)).bind fun i => bif !i then some false else (Kb (c, 0, 1000000)).bind fun j => bif !j then some false else (Kb (d, 0, 1000000)).bind fun k => bif !k then some false else bif decide (c > d) then some false else bif (ln g) != 2 then some false else bif a == 0 then bif b != 0 then some false else bif d != 0 then some false else (Kas_l31 ((a, b, c, d, e, f, g), a == 0)).bind fun l => some l else (Kas_l31 ((a, b, c, d, e, f, g), a == 0)).bind fun l => some l
def Kas_e : FEnt := ⟨79, [.tmp 2], [], [(.agg, cc17)], ⟨81, [⟨2, .one, [.dat .bool]⟩]⟩, Kas⟩
theorem Kas_ok : FnOk Tryz.prog 114 Kas_e := fnOk_mk (tb := [(31, Kas_n31)]) (c := (Tryz.f114.body).getD .skip) mixed Tryz.func114 (bC Kb_ok (bC Kaw_ok bN)) (by kernel_rfl) (by kernel_rfl) (by kernel_rfl) ⟨nodeJoin (by kernel_rfl) (by intro d; kernel_rfl), trivial⟩ (by intro d; kernel_rfl)
def Kck : t55 → Option Bool
 | (a, b, c, d, e, f, g, h, i, j) => (Kdb (a, b)).bind fun k => bif k then bif decide ((ln c) > 0) then (Kae c).bind fun l => bif l then (Kas (d, e, f, g, h, i, j)).bind fun m => some m else some false else some false else some false
def Kck_e : FEnt := ⟨24, [.tmp 2], [], [(.agg, cc15)], ⟨26, [⟨2, .one, [.dat .bool]⟩]⟩, Kck⟩
theorem Kck_ok : FnOk Tryz.prog 54 Kck_e := fnOk_mk (tb := []) (c := (Tryz.f54.body).getD .skip) mixed Tryz.func54 (bC Kdb_ok (bC Kae_ok (bC Kas_ok bN))) (by kernel_rfl) (by kernel_rfl) (by kernel_rfl) trivial (by intro d; kernel_rfl)
def Ks_s3730 : t29 → Option (t29 ⊕ Bool ⊕ t23)
 | (a, b, c, d) => bif decide (d < (ln b)) then ix c a.length ((some (gx a c (0, 0))).bind fun (e, f) => ix d b.length ((some (gx b d (0, 0))).bind fun (g, h) => bif decide (e ≤ h) then ix d b.length ((some (gx b d (0, 0))).bind fun (i, j) => ix c a.length ((some (gx a c (0, 0))).bind fun (k, l) => bif decide (i ≤ l) then some (.inr (.inl false)) else some (.inl (a, b, c, w64 (d + 1))))) else some (.inl (a, b, c, w64 (d + 1))))) else some (.inr (.inr (a, b, c)))
def Ks_n3730 : NEnt := ⟨⟨55, [⟨0, .one, [.dat kk10]⟩, ⟨1, .one, [.dat kk10]⟩, ⟨5, .one, [.dat kI]⟩, ⟨6, .one, [.dat kI]⟩]⟩, [(.ret, ⟨55, [⟨4, .one, [.dat .bool]⟩]⟩), (.exit 2, ⟨55, [⟨0, .one, [.dat kk10]⟩, ⟨1, .one, [.dat kk10]⟩, ⟨5, .one, [.dat kI]⟩]⟩)], lp Ks_s3730⟩
def Ks_s58 : t23 → Option (t23 ⊕ Bool ⊕ Unit)
 | (a, b, c) => bif decide (c < (ln a)) then bx (lp Ks_s3730 (a, b, c, 0)) (fun d => some (.inr (.inl d))) fun (d, e, f) => some (.inl (d, e, w64 (f + 1))) else some (.inr (.inr ()))
def Ks_n58 : NEnt := ⟨⟨55, [⟨0, .one, [.dat kk10]⟩, ⟨1, .one, [.dat kk10]⟩, ⟨5, .one, [.dat kI]⟩]⟩, [(.ret, ⟨55, [⟨4, .one, [.dat .bool]⟩]⟩), (.exit 0, ⟨55, []⟩)], lp Ks_s58⟩
def Ks : t16 → Option Bool
 | (a, b) => (Kae a).bind fun c => bif !c then some false else (Kae b).bind fun d => bif !d then some false else bx (lp Ks_s58 (a, b, 0)) (fun e => some e) fun _ => some true
def Ks_e : FEnt := ⟨51, [.tmp 4], [], [(.one, [.dat kk10]), (.one, [.dat kk10])], ⟨55, [⟨4, .one, [.dat .bool]⟩]⟩, Ks⟩
theorem Ks_ok : FnOk Tryz.prog 86 Ks_e := fnOk_mk (tb := [(3730, Ks_n3730), (58, Ks_n58)]) (c := (Tryz.f86.body).getD .skip) mixed Tryz.func86 (bC Kae_ok bN) (by kernel_rfl) (by kernel_rfl) (by kernel_rfl) ⟨nodeLoop (by kernel_rfl) Ks_s3730 (by kernel_rfl) (by intro d; kernel_rfl), nodeLoop (by kernel_rfl) Ks_s58 (by kernel_rfl) (by intro d; kernel_rfl), trivial⟩ (by intro d; kernel_rfl)
def Kp_s7462 : t68 → Option (t68 ⊕ Bool ⊕ t63)
 | (a, b, c) => bif decide (c < b) then ix b a.length ((some (gx a b (0, 0, [], 0, 0, 0, 0, [], [], []))).bind fun (d, e, f, g, h, i, j, k, l, m) => ix c a.length ((some (gx a c (0, 0, [], 0, 0, 0, 0, [], [], []))).bind fun (n, o, p, q, r, s, t, u, v, w) => (Ks (f, p)).bind fun x => bif !x then some (.inr (.inl false)) else some (.inl (a, b, w64 (c + 1))))) else some (.inr (.inr (a, b)))
def Kp_n7462 : NEnt := ⟨⟨44, [⟨1, .box, [.dat kk4]⟩, ⟨3, .one, [.dat kI]⟩, ⟨4, .one, [.dat kI]⟩]⟩, [(.ret, ⟨44, [⟨2, .one, [.dat .bool]⟩]⟩), (.exit 2, ⟨44, [⟨1, .box, [.dat kk4]⟩, ⟨3, .one, [.dat kI]⟩]⟩)], lp Kp_s7462⟩
def Kp_s58 : t63 → Option (t63 ⊕ Bool ⊕ Unit)
 | (a, b) => (some (decide (b < (ln a)))).bind fun c => bif c then ix b a.length ((some (gx a b (0, 0, [], 0, 0, 0, 0, [], [], []))).bind fun (d, e, f, g, h, i, j, k, l, m) => (Kck (d, e, f, g, h, i, j, k, l, m)).bind fun n => bif !n then some (.inr (.inl false)) else bx (lp Kp_s7462 (a, b, 0)) (fun o => some (.inr (.inl o))) fun (o, p) => some (.inl (o, w64 (p + 1)))) else some (.inr (.inr ()))
def Kp_n58 : NEnt := ⟨⟨44, [⟨1, .box, [.dat kk4]⟩, ⟨3, .one, [.dat kI]⟩]⟩, [(.ret, ⟨44, [⟨2, .one, [.dat .bool]⟩]⟩), (.exit 0, ⟨44, []⟩)], lp Kp_s58⟩
def Kp : List t55 → Option Bool
 | a => (some (decide ((ln a) > 24))).bind fun b => bif b then some false else bx (lp Kp_s58 (a, 0)) (fun c => some c) fun _ => some true
def Kp_e : FEnt := ⟨42, [.tmp 2], [], [(.agg, [.dat kk4])], ⟨44, [⟨2, .one, [.dat .bool]⟩]⟩, Kp⟩
theorem Kp_ok : FnOk Tryz.prog 136 Kp_e := fnOk_mk (tb := [(7462, Kp_n7462), (58, Kp_n58)]) (c := (Tryz.f136.body).getD .skip) mixed Tryz.func136 (bC Kck_ok (bC Ks_ok bN)) (by kernel_rfl) (by kernel_rfl) (by kernel_rfl) ⟨nodeLoop (by kernel_rfl) Kp_s7462 (by kernel_rfl) (by intro d; kernel_rfl), nodeLoop (by kernel_rfl) Kp_s58 (by kernel_rfl) (by intro d; kernel_rfl), trivial⟩ (by intro d; kernel_rfl)
def Kbd : Int × Int → Option Int
 | (a, b) => bif decide (a > b) then some a else some b
def Kbd_e : FEnt := ⟨10, [.tmp 4], [], [(.one, [.dat kI]), (.one, [.dat kI])], ⟨14, [⟨4, .one, [.dat kI]⟩]⟩, Kbd⟩
theorem Kbd_ok : FnOk Tryz.prog 141 Kbd_e := fnOk_mk (tb := []) (c := (Tryz.f141.body).getD .skip) mixed Tryz.func141 bN (by kernel_rfl) (by kernel_rfl) (by kernel_rfl) trivial (by intro d; kernel_rfl)
def Kt_s122 : List (Int × Int) × (Int × Int) × List (Int × Int) × Bool × Int → Option (List (Int × Int) × (Int × Int) × List (Int × Int) × Bool × Int ⊕ (Int × Int) × List (Int × Int) × Bool)
 | (a, (b, c), d, e, f) => bif decide (f < (ln a)) then ix f a.length ((some (gx a f (0, 0))).bind fun (g, h) => bif decide ((w64 (h + 1)) < b) then ix f a.length ((some (gx a f (0, 0))).bind fun (i, j) => chk (fits (d.length + [(i, j)].length) 16) (some (.inl (a, (b, c), d ++ [(i, j)], e, w64 (f + 1))))) else ix f a.length ((some (gx a f (0, 0))).bind fun (i, j) => bif decide (i > (w64 (c + 1))) then bif !e then chk (fits (d.length + [(b, c)].length) 16) (ix f a.length ((some (gx a f (0, 0))).bind fun (k, l) => chk (fits ((d ++ [(b, c)]).length + [(k, l)].length) 16) ((some ((d ++ [(b, c)]) ++ [(k, l)])).bind fun m => some (.inl (a, (b, c), m, true, w64 (f + 1)))))) else ix f a.length ((some (gx a f (0, 0))).bind fun (k, l) => chk (fits (d.length + [(k, l)].length) 16) (some (.inl (a, (b, c), d ++ [(k, l)], e, w64 (f + 1))))) else ix f a.length ((some (gx a f (0, 0))).bind fun (k, l) => (Km (b, k)).bind fun m => ix f a.length ((some (gx a f (0, 0))).bind fun (n, o) => (Kbd (c, o)).bind fun p => some (.inl (a, (m, p), d, e, w64 (f + 1))))))) else some (.inr ((b, c), d, e))
def Kt_n122 : NEnt := ⟨⟨83, [⟨0, .one, [.dat kk10]⟩, ⟨3, .box, cc34⟩, ⟨5, .one, cc32⟩, ⟨6, .one, [.dat .bool]⟩, ⟨7, .one, [.dat kI]⟩]⟩, [(.exit 0, ⟨83, [⟨3, .box, cc34⟩, ⟨5, .one, cc32⟩, ⟨6, .one, [.dat .bool]⟩]⟩)], lp Kt_s122⟩
def Kt : t8 → Option (List (Int × Int))
 | (a, b, c) => (lp Kt_s122 (a, (b, c), [], false, 0)).bind fun ((d, e), f, g) => bif !g then chk (fits (f.length + [(d, e)].length) 16) (some (f ++ [(d, e)])) else some f
def Kt_e : FEnt := ⟨79, [.tmp 4], [], [(.one, [.dat kk10]), (.agg, cc34)], ⟨83, [⟨4, .one, cc32⟩]⟩, Kt⟩
theorem Kt_ok : FnOk Tryz.prog 140 Kt_e := fnOk_mk (tb := [(122, Kt_n122)]) (c := (Tryz.f140.body).getD .skip) mixed Tryz.func140 (bC Km_ok (bC Kbd_ok bN)) (by kernel_rfl) (by kernel_rfl) (by kernel_rfl) ⟨nodeLoop (by kernel_rfl) Kt_s122 (by kernel_rfl) (by intro d; kernel_rfl), trivial⟩ (by intro d; kernel_rfl)
def Kan_s58 : t23 → Option (t23 ⊕ List (Int × Int))
 | (a, b, c) => bif decide (c < (ln a)) then ix c a.length ((some (gx a c (0, 0))).bind fun (d, e) => (Kt (b, d, e)).bind fun f => some (.inl (a, f, w64 (c + 1)))) else some (.inr b)
def Kan_n58 : NEnt := ⟨⟨26, [⟨1, .one, [.dat kk10]⟩, ⟨5, .one, cc32⟩, ⟨6, .one, [.dat kI]⟩]⟩, [(.exit 0, ⟨26, [⟨5, .one, cc32⟩]⟩)], lp Kan_s58⟩
def Kan : t16 → Option (List (Int × Int))
 | (a, b) => (Kcn a).bind fun c => (lp Kan_s58 (b, c, 0)).bind fun d => some d
def Kan_e : FEnt := ⟨22, [.tmp 4], [], [(.one, [.dat kk10]), (.one, [.dat kk10])], ⟨26, [⟨4, .one, cc32⟩]⟩, Kan⟩
theorem Kan_ok : FnOk Tryz.prog 87 Kan_e := fnOk_mk (tb := [(58, Kan_n58)]) (c := (Tryz.f87.body).getD .skip) mixed Tryz.func87 (bC Kcn_ok (bC Kt_ok bN)) (by kernel_rfl) (by kernel_rfl) (by kernel_rfl) ⟨nodeLoop (by kernel_rfl) Kan_s58 (by kernel_rfl) (by intro d; kernel_rfl), trivial⟩ (by intro d; kernel_rfl)
def Kbq_s122 : List t55 × t0 → Option (List t55 × t0 ⊕ List (Int × Int))
 | (a, b, c) => (some (decide (c < (ln a)))).bind fun d => bif d then ix c a.length ((some (gx a c (0, 0, [], 0, 0, 0, 0, [], [], []))).bind fun (e, f, g, h, i, j, k, l, m, n) => (Kan (b, g)).bind fun o => some (.inl (a, o, w64 (c + 1)))) else some (.inr b)
def Kbq_n122 : NEnt := ⟨⟨28, [⟨1, .box, [.dat kk4]⟩, ⟨3, .one, cc32⟩, ⟨4, .one, [.dat kI]⟩]⟩, [(.exit 0, ⟨28, [⟨3, .one, cc32⟩]⟩)], lp Kbq_s122⟩
def Kbq : List t55 → Option (List (Int × Int))
 | a => (Kp a).bind fun b => bif !b then some [] else (lp Kbq_s122 (a, [], 0)).bind fun c => some c
def Kbq_e : FEnt := ⟨26, [.tmp 2], [], [(.agg, [.dat kk4])], ⟨28, [⟨2, .one, cc32⟩]⟩, Kbq⟩
theorem Kbq_ok : FnOk Tryz.prog 135 Kbq_e := fnOk_mk (tb := [(122, Kbq_n122)]) (c := (Tryz.f135.body).getD .skip) mixed Tryz.func135 (bC Kp_ok (bC Kan_ok bN)) (by kernel_rfl) (by kernel_rfl) (by kernel_rfl) ⟨nodeLoop (by kernel_rfl) Kbq_s122 (by kernel_rfl) (by intro d; kernel_rfl), trivial⟩ (by intro d; kernel_rfl)
def Kau_s58 : List (Int × Int) × Int × Int × Int → Option (List (Int × Int) × Int × Int × Int ⊕ Int)
 | (a, b, c, d) => bif decide (d < (ln a)) then ix d a.length ((some (gx a d (0, 0))).bind fun (e, f) => (Kbd (e, w64 ((w64 (100 * b)) + 1))).bind fun g => ix d a.length ((some (gx a d (0, 0))).bind fun (h, i) => (Km (i, w64 ((w64 (100 * b)) + 60))).bind fun j => (Kbd (w64 ((w64 (j - g)) + 1), 0)).bind fun k => some (.inl (a, b, w64 (c + k), w64 (d + 1))))) else some (.inr c)
def Kau_n58 : NEnt := ⟨⟨45, [⟨0, .one, [.dat kk10]⟩, ⟨1, .one, [.dat kI]⟩, ⟨5, .one, [.dat kI]⟩, ⟨6, .one, [.dat kI]⟩]⟩, [(.exit 0, ⟨45, [⟨5, .one, [.dat kI]⟩]⟩)], lp Kau_s58⟩
def Kau : t0 → Option Int
 | (a, b) => (lp Kau_s58 (a, b, 0, 0)).bind fun c => some c
def Kau_e : FEnt := ⟨41, [.tmp 4], [], [(.one, [.dat kk10]), (.one, [.dat kI])], ⟨45, [⟨4, .one, [.dat kI]⟩]⟩, Kau⟩
theorem Kau_ok : FnOk Tryz.prog 90 Kau_e := fnOk_mk (tb := [(58, Kau_n58)]) (c := (Tryz.f90.body).getD .skip) mixed Tryz.func90 (bC Kbd_ok (bC Km_ok bN)) (by kernel_rfl) (by kernel_rfl) (by kernel_rfl) ⟨nodeLoop (by kernel_rfl) Kau_s58 (by kernel_rfl) (by intro d; kernel_rfl), trivial⟩ (by intro d; kernel_rfl)
def Kcp : Int → Option Bool
 | a => (Kb (a, 0, 2)).bind fun b => some b
def Kcp_e : FEnt := ⟨5, [.tmp 2], [], [(.one, [.dat kI])], ⟨7, [⟨2, .one, [.dat .bool]⟩]⟩, Kcp⟩
theorem Kcp_ok : FnOk Tryz.prog 182 Kcp_e := fnOk_mk (tb := []) (c := (Tryz.f182.body).getD .skip) mixed Tryz.func182 (bC Kb_ok bN) (by kernel_rfl) (by kernel_rfl) (by kernel_rfl) trivial (by intro d; kernel_rfl)
def Kdi : Int × Bool × List Int → Option Bool
 | (a, b, c) => (Kcp a).bind fun d => bif d then (Kaf (c, 0, 1000)).bind fun e => some e else some false
def Kdi_e : FEnt := ⟨11, [.tmp 2], [], [(.agg, cc26)], ⟨13, [⟨2, .one, [.dat .bool]⟩]⟩, Kdi⟩
theorem Kdi_ok : FnOk Tryz.prog 137 Kdi_e := fnOk_mk (tb := []) (c := (Tryz.f137.body).getD .skip) mixed Tryz.func137 (bC Kcp_ok (bC Kaf_ok bN)) (by kernel_rfl) (by kernel_rfl) (by kernel_rfl) trivial (by intro d; kernel_rfl)
def Kl_s7462 : t129 × Int × t118 → Option (t129 × Int × t118 ⊕ Bool ⊕ t129 × t118)
 | ((a, b, c, d, e, f, g, h, i, j, k, l, m, n, o, p), q, r, _, s, t, (u, _), v, w, x) => bif decide (r < 2) then ix q l.length ((some (gx l q [])).bind fun y => ix r y.length ((some (gx y r [])).bind fun z => (Kbq z).bind fun a1 => ix q l.length ((some (gx l q [])).bind fun b1 => ix r b1.length ((some (gx b1 r [])).bind fun c1 => (Kp c1).bind fun d1 => bif !d1 then some (.inr (.inl false)) else (Kau (a1, q)).bind fun e1 => (Kak a1).bind fun f1 => bif e1 != f1 then some (.inr (.inl false)) else some (.inl ((a, b, c, d, e, f, g, h, i, j, k, l, m, n, o, p), q, w64 (r + 1), (), s, t, (u, ()), v, w, x)))))) else some (.inr (.inr ((a, b, c, d, e, f, g, h, i, j, k, l, m, n, o, p), q, (), s, t, (u, ()), v, w, x)))
def Kl_n7462 : NEnt := ⟨⟨102, [⟨1, .box, cc7⟩, ⟨3, .one, [.dat kI]⟩, ⟨4, .one, [.dat kI]⟩, ⟨50, .one, [.bptr 1 11]⟩, ⟨51, .one, [.dat kk0]⟩, ⟨52, .one, [.dat kI]⟩, ⟨53, .one, [.pim [kk2] 0]⟩, ⟨54, .one, [.dat kk2]⟩, ⟨55, .one, [.dat kI]⟩, ⟨56, .one, [.dat .bool]⟩]⟩, [(.ret, ⟨102, [⟨2, .one, [.dat .bool]⟩]⟩), (.exit 2, ⟨102, [⟨1, .box, cc7⟩, ⟨3, .one, [.dat kI]⟩, ⟨50, .one, [.bptr 1 11]⟩, ⟨51, .one, [.dat kk0]⟩, ⟨52, .one, [.dat kI]⟩, ⟨53, .one, [.pim [kk2] 0]⟩, ⟨54, .one, [.dat kk2]⟩, ⟨55, .one, [.dat kI]⟩, ⟨56, .one, [.dat .bool]⟩]⟩)], lp Kl_s7462⟩
def Kl_s58 : t130 → Option (t130 ⊕ Bool ⊕ t129)
 | ((a, b, c, d, e, f, g, h, i, j, k, l, m, n, o, p), q) => bif decide (q < 3) then ix q k.length ((some (gx k q (0, 0, [], 0, 0))).bind fun (r, s, t, u, v) => (Kbs ((r, s, t, u, v), a)).bind fun w => bif !w then some (.inr (.inl false)) else ix q l.length ((some (gx l q [])).bind fun x => bif (ln x) != 2 then some (.inr (.inl false)) else bx (lp Kl_s7462 ((a, b, c, d, e, f, g, h, i, j, k, l, m, n, o, p), q, 0, (), l, q, (gx l q [], ()), x, ln x, (ln x) != 2)) (fun y => some (.inr (.inl y))) fun ((y, z, a1, b1, c1, d1, e1, f1, g1, h1, i1, j1, k1, l1, m1, n1), o1, _, p1, q1, (r1, _), s1, t1, u1) => some (.inl ((y, z, a1, b1, c1, d1, e1, f1, g1, h1, i1, j1, k1, l1, m1, n1), w64 (o1 + 1))))) else some (.inr (.inr (a, b, c, d, e, f, g, h, i, j, k, l, m, n, o, p)))
def Kl_n58 : NEnt := ⟨⟨102, [⟨1, .box, cc7⟩, ⟨3, .one, [.dat kI]⟩]⟩, [(.ret, ⟨102, [⟨2, .one, [.dat .bool]⟩]⟩), (.exit 0, ⟨102, [⟨1, .box, cc7⟩]⟩)], lp Kl_s58⟩
def Kl_s122 : t130 → Option (t130 ⊕ Bool ⊕ Unit)
 | ((a, b, c, d, e, f, g, h, i, j, k, l, m, n, o, p), q) => bif decide (q < 2) then ix q m.length ((some (gx m q (0, false, []))).bind fun (r, s, t) => (Kdi (r, s, t)).bind fun u => bif !u then some (.inr (.inl false)) else some (.inl ((a, b, c, d, e, f, g, h, i, j, k, l, m, n, o, p), w64 (q + 1)))) else some (.inr (.inr ()))
def Kl_n122 : NEnt := ⟨⟨102, [⟨1, .box, cc7⟩, ⟨6, .one, [.dat kI]⟩]⟩, [(.ret, ⟨102, [⟨2, .one, [.dat .bool]⟩]⟩), (.exit 4, ⟨102, []⟩)], lp Kl_s122⟩
def Kl : t129 → Option Bool
 | (a, b, c, d, e, f, g, h, i, j, k, l, m, n, o, p) => bif (ln k) != 3 then some false else bif (ln l) != 3 then some false else bif (ln m) != 2 then some false else (Kb (n, 0, 1000)).bind fun q => bif !q then some false else (Kb (i, 0, 100000)).bind fun r => bif !r then some false else bx (lp Kl_s58 ((a, b, c, d, e, f, g, h, i, j, k, l, m, n, o, p), 0)) (fun s => some s) fun (s, t, u, v, w, x, y, z, a1, b1, c1, d1, e1, f1, g1, h1) => bx (lp Kl_s122 ((s, t, u, v, w, x, y, z, a1, b1, c1, d1, e1, f1, g1, h1), 0)) (fun i1 => some i1) fun _ => some true
def Kl_e : FEnt := ⟨100, [.tmp 2], [], [(.agg, cc7)], ⟨102, [⟨2, .one, [.dat .bool]⟩]⟩, Kl⟩
theorem Kl_ok : FnOk Tryz.prog 83 Kl_e := fnOk_mk (tb := [(122, Kl_n122), (7462, Kl_n7462), (58, Kl_n58)]) (c := (Tryz.f83.body).getD .skip) mixed Tryz.func83 (bC Kb_ok (bC Kbs_ok (bC Kbq_ok (bC Kp_ok (bC Kau_ok (bC Kak_ok (bC Kdi_ok bN))))))) (by kernel_rfl) (by kernel_rfl) (by kernel_rfl) ⟨nodeLoop (by kernel_rfl) Kl_s122 (by kernel_rfl) (by intro d; kernel_rfl), nodeLoop (by kernel_rfl) Kl_s7462 (by kernel_rfl) (by intro d; kernel_rfl), nodeLoop (by kernel_rfl) Kl_s58 (by kernel_rfl) (by intro d; kernel_rfl), trivial⟩ (by intro d; kernel_rfl)
def Kda : Bool → Option Int
 | a => bif a then some 1 else some 0
def Kda_e : FEnt := ⟨4, [.tmp 2], [], [(.one, [.dat .bool])], ⟨6, [⟨2, .one, [.dat kI]⟩]⟩, Kda⟩
theorem Kda_ok : FnOk Tryz.prog 75 Kda_e := fnOk_mk (tb := []) (c := (Tryz.f75.body).getD .skip) mixed Tryz.func75 bN (by kernel_rfl) (by kernel_rfl) (by kernel_rfl) trivial (by intro d; kernel_rfl)
def Kat_s58 : List t58 × Int × Int × Int × Int → Option (List t58 × Int × Int × Int × Int ⊕ Int)
 | (a, b, c, d, e) => (some (decide (e < (ln a)))).bind fun f => bif f then ix e a.length ((some (gx a e (0, 0, 0, [], 0, 0, 0, 0, [], [], []))).bind fun (g, h, i, j, k, l, m, n, o, p, q) => bif h == b then ix e a.length ((some (gx a e (0, 0, 0, [], 0, 0, 0, 0, [], [], []))).bind fun (r, s, t, u, v, w, x, y, z, a1, b1) => (Kda (t == c)).bind fun c1 => some (.inl (a, b, c, w64 (d + c1), w64 (e + 1)))) else (Kda false).bind fun r => some (.inl (a, b, c, w64 (d + r), w64 (e + 1)))) else some (.inr d)
def Kat_n58 : NEnt := ⟨⟨43, [⟨0, .one, [.dat kk1]⟩, ⟨1, .one, [.dat kI]⟩, ⟨2, .one, [.dat kI]⟩, ⟨7, .one, [.dat kI]⟩, ⟨8, .one, [.dat kI]⟩]⟩, [(.exit 0, ⟨43, [⟨7, .one, [.dat kI]⟩]⟩)], lp Kat_s58⟩
def Kat : t72 → Option Int
 | (a, b, c) => (lp Kat_s58 (a, b, c, 0, 0)).bind fun d => some d
def Kat_e : FEnt := ⟨37, [.tmp 6], [], [(.one, [.dat kk1]), (.one, [.dat kI]), (.one, [.dat kI])], ⟨43, [⟨6, .one, [.dat kI]⟩]⟩, Kat⟩
theorem Kat_ok : FnOk Tryz.prog 138 Kat_e := fnOk_mk (tb := [(58, Kat_n58)]) (c := (Tryz.f138.body).getD .skip) mixed Tryz.func138 (bC Kda_ok bN) (by kernel_rfl) (by kernel_rfl) (by kernel_rfl) ⟨nodeLoop (by kernel_rfl) Kat_s58 (by kernel_rfl) (by intro d; kernel_rfl), trivial⟩ (by intro d; kernel_rfl)
def Kag_s26 : t130 → Option (t130 ⊕ Bool ⊕ t129)
 | ((a, b, c, d, e, f, g, h, i, j, k, l, m, n, o, p), q) => (some (decide (q < (ln o)))).bind fun r => bif r then ix q o.length ((some (gx o q (0, 0, [], 0, 0, 0, 0, [], [], []))).bind fun (s, t, u, v, w, x, y, z, a1, b1) => (Kck (s, t, u, v, w, x, y, z, a1, b1)).bind fun c1 => bif !c1 then some (.inr (.inl false)) else bif decide (q > 0) then ix (w64 (q - 1)) o.length ((some (gx o (w64 (q - 1)) (0, 0, [], 0, 0, 0, 0, [], [], []))).bind fun (d1, e1, f1, g1, h1, i1, j1, k1, l1, m1) => bif decide (s < d1) then some (.inr (.inl false)) else ix (w64 (q - 1)) o.length ((some (gx o (w64 (q - 1)) (0, 0, [], 0, 0, 0, 0, [], [], []))).bind fun (n1, o1, p1, q1, r1, s1, t1, u1, v1, w1) => bif s == n1 then ix (w64 (q - 1)) o.length ((some (gx o (w64 (q - 1)) (0, 0, [], 0, 0, 0, 0, [], [], []))).bind fun (x1, y1, z1, a2, b2, c2, d2, e2, f2, g2) => bif decide (t ≤ y1) then some (.inr (.inl false)) else some (.inl ((a, b, c, d, e, f, g, h, i, j, k, l, m, n, o, p), w64 (q + 1)))) else some (.inl ((a, b, c, d, e, f, g, h, i, j, k, l, m, n, o, p), w64 (q + 1))))) else some (.inl ((a, b, c, d, e, f, g, h, i, j, k, l, m, n, o, p), w64 (q + 1)))) else some (.inr (.inr (a, b, c, d, e, f, g, h, i, j, k, l, m, n, o, p)))
def Kag_n26 : NEnt := ⟨⟨104, [⟨1, .box, cc7⟩, ⟨3, .one, [.dat kI]⟩]⟩, [(.ret, ⟨104, [⟨2, .one, [.dat .bool]⟩]⟩), (.exit 0, ⟨104, [⟨1, .box, cc7⟩]⟩)], lp Kag_s26⟩
def Kag_s58 : t130 → Option (t130 ⊕ Bool ⊕ Unit)
 | ((a, b, c, d, e, f, g, h, i, j, k, l, m, n, o, p), q) => (some (decide (q < (ln p)))).bind fun r => bif r then ix q p.length ((some (gx p q (0, 0, 0, [], 0, 0, 0, 0, [], [], []))).bind fun (s, t, u, v, w, x, y, z, a1, b1, c1) => (Kck (t, u, v, w, x, y, z, a1, b1, c1)).bind fun d1 => bif !d1 then some (.inr (.inl false)) else ix q p.length ((some (gx p q (0, 0, 0, [], 0, 0, 0, 0, [], [], []))).bind fun (e1, f1, g1, h1, i1, j1, k1, l1, m1, n1, o1) => g0 q (chk (decide ((0 ≤ q.toNat) ∧ (q.toNat ≤ p.length))) (ix q p.length ((some (gx p q (0, 0, 0, [], 0, 0, 0, 0, [], [], []))).bind fun (p1, q1, r1, s1, t1, u1, v1, w1, x1, y1, z1) => ix q p.length ((some (gx p q (0, 0, 0, [], 0, 0, 0, 0, [], [], []))).bind fun (a2, b2, c2, d2, e2, f2, g2, h2, i2, j2, k2) => (Kat (List.take q.toNat p, q1, c2)).bind fun l2 => bif e1 != l2 then some (.inr (.inl false)) else some (.inl ((a, b, c, d, e, f, g, h, i, j, k, l, m, n, o, p), w64 (q + 1))))))))) else some (.inr (.inr ()))
def Kag_n58 : NEnt := ⟨⟨104, [⟨1, .box, cc7⟩, ⟨5, .one, [.dat kI]⟩]⟩, [(.ret, ⟨104, [⟨2, .one, [.dat .bool]⟩]⟩), (.exit 2, ⟨104, []⟩)], lp Kag_s58⟩
def Kag : t129 → Option Bool
 | (a, b, c, d, e, f, g, h, i, j, k, l, m, n, o, p) => bx (lp Kag_s26 ((a, b, c, d, e, f, g, h, i, j, k, l, m, n, o, p), 0)) (fun q => some q) fun (q, r, s, t, u, v, w, x, y, z, a1, b1, c1, d1, e1, f1) => bx (lp Kag_s58 ((q, r, s, t, u, v, w, x, y, z, a1, b1, c1, d1, e1, f1), 0)) (fun g1 => some g1) fun _ => some true
def Kag_e : FEnt := ⟨102, [.tmp 2], [], [(.agg, cc7)], ⟨104, [⟨2, .one, [.dat .bool]⟩]⟩, Kag⟩
theorem Kag_ok : FnOk Tryz.prog 84 Kag_e := fnOk_mk (tb := [(58, Kag_n58), (26, Kag_n26)]) (c := (Tryz.f84.body).getD .skip) mixed Tryz.func84 (bC Kck_ok (bC Kat_ok bN)) (by kernel_rfl) (by kernel_rfl) (by kernel_rfl) ⟨nodeLoop (by kernel_rfl) Kag_s58 (by kernel_rfl) (by intro d; kernel_rfl), nodeLoop (by kernel_rfl) Kag_s26 (by kernel_rfl) (by intro d; kernel_rfl), trivial⟩ (by intro d; kernel_rfl)
def Kk_s3730 : t129 × t68 → Option (t129 × t68 ⊕ t133)
 | ((a, b, c, d, e, f, g, h, i, j, k, l, m, n, o, p), q, r, s) => ix r l.length ((some (gx l r [])).bind fun t => (some (decide (s < (ln t)))).bind fun u => bif u then ix r l.length ((some (gx l r [])).bind fun v => ix s v.length ((some (gx v s [])).bind fun w => chk (fits (q.length + w.length) 144) ((some (q ++ w)).bind fun x => some (.inl ((a, b, c, d, e, f, g, h, i, j, k, l, m, n, o, p), x, r, w64 (s + 1)))))) else some (.inr ((a, b, c, d, e, f, g, h, i, j, k, l, m, n, o, p), q, r)))
def Kk_n3730 : NEnt := ⟨⟨59, [⟨1, .box, cc7⟩, ⟨3, .one, [.own false kk5]⟩, ⟨4, .one, [.dat kI]⟩, ⟨5, .one, [.dat kI]⟩]⟩, [(.exit 2, ⟨59, [⟨1, .box, cc7⟩, ⟨3, .one, [.own false kk5]⟩, ⟨4, .one, [.dat kI]⟩]⟩)], lp Kk_s3730⟩
def Kk_s58 : t133 → Option (t133 ⊕ t129 × List t55)
 | ((a, b, c, d, e, f, g, h, i, j, k, l, m, n, o, p), q, r) => (some (decide (r < (ln l)))).bind fun s => bif s then (lp Kk_s3730 ((a, b, c, d, e, f, g, h, i, j, k, l, m, n, o, p), q, r, 0)).bind fun ((t, u, v, w, x, y, z, a1, b1, c1, d1, e1, f1, g1, h1, i1), j1, k1) => some (.inl ((t, u, v, w, x, y, z, a1, b1, c1, d1, e1, f1, g1, h1, i1), j1, w64 (k1 + 1))) else some (.inr ((a, b, c, d, e, f, g, h, i, j, k, l, m, n, o, p), q))
def Kk_n58 : NEnt := ⟨⟨59, [⟨1, .box, cc7⟩, ⟨3, .one, [.own false kk5]⟩, ⟨4, .one, [.dat kI]⟩]⟩, [(.exit 0, ⟨59, [⟨1, .box, cc7⟩, ⟨3, .one, [.own false kk5]⟩]⟩)], lp Kk_s58⟩
def Kk_s250 : t133 → Option (t133 ⊕ List t55)
 | ((a, b, c, d, e, f, g, h, i, j, k, l, m, n, o, p), q, r) => (some (decide (r < (ln p)))).bind fun s => bif s then ix r p.length ((some (gx p r (0, 0, 0, [], 0, 0, 0, 0, [], [], []))).bind fun (t, u, v, w, x, y, z, a1, b1, c1, d1) => (some [(u, v, w, x, y, z, a1, b1, c1, d1)]).bind fun e1 => chk (fits (q.length + e1.length) 144) ((some (q ++ e1)).bind fun f1 => some (.inl ((a, b, c, d, e, f, g, h, i, j, k, l, m, n, o, p), f1, w64 (r + 1))))) else some (.inr q)
def Kk_n250 : NEnt := ⟨⟨59, [⟨1, .box, cc7⟩, ⟨3, .one, [.own false kk5]⟩, ⟨6, .one, [.dat kI]⟩]⟩, [(.exit 4, ⟨59, [⟨3, .one, [.own false kk5]⟩]⟩)], lp Kk_s250⟩
def Kk : t129 → Option (List t55)
 | (a, b, c, d, e, f, g, h, i, j, k, l, m, n, o, p) => (lp Kk_s58 ((a, b, c, d, e, f, g, h, i, j, k, l, m, n, o, p), [], 0)).bind fun ((q, r, s, t, u, v, w, x, y, z, a1, b1, c1, d1, e1, f1), g1) => chk (fits (g1.length + e1.length) 144) ((some (g1 ++ e1)).bind fun h1 => (lp Kk_s250 ((q, r, s, t, u, v, w, x, y, z, a1, b1, c1, d1, e1, f1), h1, 0)).bind fun i1 => some i1)
def Kk_e : FEnt := ⟨57, [.tmp 2], [], [(.agg, cc7)], ⟨59, [⟨2, .one, [.own false kk5]⟩]⟩, Kk⟩
theorem Kk_ok : FnOk Tryz.prog 85 Kk_e := fnOk_mk (tb := [(250, Kk_n250), (3730, Kk_n3730), (58, Kk_n58)]) (c := (Tryz.f85.body).getD .skip) mixed Tryz.func85 bN (by kernel_rfl) (by kernel_rfl) (by kernel_rfl) ⟨nodeLoop (by kernel_rfl) Kk_s250 (by kernel_rfl) (by intro d; kernel_rfl), nodeLoop (by kernel_rfl) Kk_s3730 (by kernel_rfl) (by intro d; kernel_rfl), nodeLoop (by kernel_rfl) Kk_s58 (by kernel_rfl) (by intro d; kernel_rfl), trivial⟩ (by intro d; kernel_rfl)
def Kaa_s3730 : t129 × t8 → Option (t129 × t8 ⊕ t129 × t0)
 | ((a, b, c, d, e, f, g, h, i, j, k, l, m, n, o, p), q, r, s) => ix r k.length ((some (gx k r (0, 0, [], 0, 0))).bind fun (t, u, v, w, x) => bif decide (s < (ln v)) then ix r k.length ((some (gx k r (0, 0, [], 0, 0))).bind fun (y, z, a1, b1, c1) => ix s a1.length ((some (gx a1 s (0, 0))).bind fun (d1, e1) => (Kt (q, w64 ((w64 (100 * r)) + d1), w64 ((w64 (100 * r)) + e1))).bind fun f1 => some (.inl ((a, b, c, d, e, f, g, h, i, j, k, l, m, n, o, p), f1, r, w64 (s + 1))))) else some (.inr ((a, b, c, d, e, f, g, h, i, j, k, l, m, n, o, p), q, r)))
def Kaa_n3730 : NEnt := ⟨⟨51, [⟨1, .box, cc7⟩, ⟨3, .one, cc32⟩, ⟨4, .one, [.dat kI]⟩, ⟨5, .one, [.dat kI]⟩]⟩, [(.exit 2, ⟨51, [⟨1, .box, cc7⟩, ⟨3, .one, cc32⟩, ⟨4, .one, [.dat kI]⟩]⟩)], lp Kaa_s3730⟩
def Kaa_s58 : t129 × t0 → Option (t129 × t0 ⊕ List (Int × Int))
 | ((a, b, c, d, e, f, g, h, i, j, k, l, m, n, o, p), q, r) => bif decide (r < (ln k)) then (lp Kaa_s3730 ((a, b, c, d, e, f, g, h, i, j, k, l, m, n, o, p), q, r, 0)).bind fun ((s, t, u, v, w, x, y, z, a1, b1, c1, d1, e1, f1, g1, h1), i1, j1) => some (.inl ((s, t, u, v, w, x, y, z, a1, b1, c1, d1, e1, f1, g1, h1), i1, w64 (j1 + 1))) else some (.inr q)
def Kaa_n58 : NEnt := ⟨⟨51, [⟨1, .box, cc7⟩, ⟨3, .one, cc32⟩, ⟨4, .one, [.dat kI]⟩]⟩, [(.exit 0, ⟨51, [⟨3, .one, cc32⟩]⟩)], lp Kaa_s58⟩
def Kaa : t129 → Option (List (Int × Int))
 | (a, b, c, d, e, f, g, h, i, j, k, l, m, n, o, p) => (lp Kaa_s58 ((a, b, c, d, e, f, g, h, i, j, k, l, m, n, o, p), [], 0)).bind fun q => some q
def Kaa_e : FEnt := ⟨49, [.tmp 2], [], [(.agg, cc7)], ⟨51, [⟨2, .one, cc32⟩]⟩, Kaa⟩
theorem Kaa_ok : FnOk Tryz.prog 89 Kaa_e := fnOk_mk (tb := [(3730, Kaa_n3730), (58, Kaa_n58)]) (c := (Tryz.f89.body).getD .skip) mixed Tryz.func89 (bC Kt_ok bN) (by kernel_rfl) (by kernel_rfl) (by kernel_rfl) ⟨nodeLoop (by kernel_rfl) Kaa_s3730 (by kernel_rfl) (by intro d; kernel_rfl), nodeLoop (by kernel_rfl) Kaa_s58 (by kernel_rfl) (by intro d; kernel_rfl), trivial⟩ (by intro d; kernel_rfl)
def Kby_s58 : t23 → Option (t23 ⊕ Bool ⊕ Unit)
 | (a, b, c) => bif decide (c < (ln a)) then ix c a.length ((some (gx a c (0, 0))).bind fun (d, e) => ix c b.length ((some (gx b c (0, 0))).bind fun (f, g) => bif !((d == f) && ((e == g) && true)) then some (.inr (.inl false)) else some (.inl (a, b, w64 (c + 1))))) else some (.inr (.inr ()))
def Kby_n58 : NEnt := ⟨⟨30, [⟨0, .one, [.dat kk10]⟩, ⟨1, .one, [.dat kk10]⟩, ⟨5, .one, [.dat kI]⟩]⟩, [(.ret, ⟨30, [⟨4, .one, [.dat .bool]⟩]⟩), (.exit 0, ⟨30, []⟩)], lp Kby_s58⟩
def Kby : t16 → Option Bool
 | (a, b) => bif (ln a) != (ln b) then some false else bx (lp Kby_s58 (a, b, 0)) (fun c => some c) fun _ => some true
def Kby_e : FEnt := ⟨26, [.tmp 4], [], [(.one, [.dat kk10]), (.one, [.dat kk10])], ⟨30, [⟨4, .one, [.dat .bool]⟩]⟩, Kby⟩
theorem Kby_ok : FnOk Tryz.prog 88 Kby_e := fnOk_mk (tb := [(58, Kby_n58)]) (c := (Tryz.f88.body).getD .skip) mixed Tryz.func88 bN (by kernel_rfl) (by kernel_rfl) (by kernel_rfl) ⟨nodeLoop (by kernel_rfl) Kby_s58 (by kernel_rfl) (by intro d; kernel_rfl), trivial⟩ (by intro d; kernel_rfl)
def Ke_s250 : t129 × t77 → Option (t129 × t77 ⊕ Bool ⊕ t129 × List (Int × Int))
 | ((a, b, c, d, e, f, g, h, i, j, k, l, m, n, o, p), q, r, s) => (some (decide (s < (ln r)))).bind fun t => bif t then ix s r.length (lx s r.length ((some (gx r s (0, 0, [], 0, 0, 0, 0, [], [], []))).bind fun (u, v, w, x, y, z, a1, b1, c1, d1) => (Ks (q, w)).bind fun e1 => bif !e1 then some (.inr (.inl false)) else ix s r.length (lx s r.length ((some (gx r s (0, 0, [], 0, 0, 0, 0, [], [], []))).bind fun (f1, g1, h1, i1, j1, k1, l1, m1, n1, o1) => (Kan (q, h1)).bind fun p1 => some (.inl ((a, b, c, d, e, f, g, h, i, j, k, l, m, n, o, p), p1, r, w64 (s + 1))))))) else some (.inr (.inr ((a, b, c, d, e, f, g, h, i, j, k, l, m, n, o, p), q)))
def Ke_n250 : NEnt := ⟨⟨102, [⟨1, .box, cc7⟩, ⟨3, .one, cc32⟩, ⟨4, .one, [.own false kk5]⟩, ⟨5, .one, [.dat kI]⟩]⟩, [(.ret, ⟨102, [⟨2, .one, [.dat .bool]⟩]⟩), (.exit 0, ⟨102, [⟨1, .box, cc7⟩, ⟨3, .one, cc32⟩]⟩)], lp Ke_s250⟩
def Ke_s260682 : t132 → Option (t132 ⊕ t131)
 | ((a, b, c, d, e, f, g, h, i, j, k, l, m, n, o, p), q, r, s) => (some (decide (s < (ln o)))).bind fun t => bif t then ix s o.length ((some (gx o s (0, 0, [], 0, 0, 0, 0, [], [], []))).bind fun (u, v, w, x, y, z, a1, b1, c1, d1) => (Kau (w, q)).bind fun e1 => some (.inl ((a, b, c, d, e, f, g, h, i, j, k, l, m, n, o, p), q, w64 (r + e1), w64 (s + 1)))) else some (.inr ((a, b, c, d, e, f, g, h, i, j, k, l, m, n, o, p), q, r))
def Ke_n260682 : NEnt := ⟨⟨102, [⟨1, .box, cc7⟩, ⟨6, .one, [.dat kI]⟩, ⟨7, .one, [.dat kI]⟩, ⟨8, .one, [.dat kI]⟩]⟩, [(.exit 4, ⟨102, [⟨1, .box, cc7⟩, ⟨6, .one, [.dat kI]⟩, ⟨7, .one, [.dat kI]⟩]⟩)], lp Ke_s260682⟩
def Ke_s521370 : t132 → Option (t132 ⊕ t131)
 | ((a, b, c, d, e, f, g, h, i, j, k, l, m, n, o, p), q, r, s) => (some (decide (s < (ln p)))).bind fun t => bif t then ix s p.length ((some (gx p s (0, 0, 0, [], 0, 0, 0, 0, [], [], []))).bind fun (u, v, w, x, y, z, a1, b1, c1, d1, e1) => (Kau (x, q)).bind fun f1 => some (.inl ((a, b, c, d, e, f, g, h, i, j, k, l, m, n, o, p), q, w64 (r + f1), w64 (s + 1)))) else some (.inr ((a, b, c, d, e, f, g, h, i, j, k, l, m, n, o, p), q, r))
def Ke_n521370 : NEnt := ⟨⟨102, [⟨1, .box, cc7⟩, ⟨6, .one, [.dat kI]⟩, ⟨7, .one, [.dat kI]⟩, ⟨9, .one, [.dat kI]⟩]⟩, [(.exit 6, ⟨102, [⟨1, .box, cc7⟩, ⟨6, .one, [.dat kI]⟩, ⟨7, .one, [.dat kI]⟩]⟩)], lp Ke_s521370⟩
def Ke_s1018 : t130 → Option (t130 ⊕ Bool ⊕ Unit)
 | ((a, b, c, d, e, f, g, h, i, j, k, l, m, n, o, p), q) => bif decide (q < 3) then (lp Ke_s260682 ((a, b, c, d, e, f, g, h, i, j, k, l, m, n, o, p), q, 0, 0)).bind fun ((r, s, t, u, v, w, x, y, z, a1, b1, c1, d1, e1, f1, g1), h1, i1) => (lp Ke_s521370 ((r, s, t, u, v, w, x, y, z, a1, b1, c1, d1, e1, f1, g1), h1, i1, 0)).bind fun ((j1, k1, l1, m1, n1, o1, p1, q1, r1, s1, t1, u1, v1, w1, x1, y1), z1, a2) => ix z1 t1.length ((some (gx t1 z1 (0, 0, [], 0, 0))).bind fun (b2, c2, d2, e2, f2) => bif a2 != e2 then some (.inr (.inl false)) else some (.inl ((j1, k1, l1, m1, n1, o1, p1, q1, r1, s1, t1, u1, v1, w1, x1, y1), w64 (z1 + 1)))) else some (.inr (.inr ()))
def Ke_n1018 : NEnt := ⟨⟨102, [⟨1, .box, cc7⟩, ⟨6, .one, [.dat kI]⟩]⟩, [(.ret, ⟨102, [⟨2, .one, [.dat .bool]⟩]⟩), (.exit 2, ⟨102, []⟩)], lp Ke_s1018⟩
def Ke : t129 → Option Bool
 | (a, b, c, d, e, f, g, h, i, j, k, l, m, n, o, p) => (Kcr (a, b, c, d, e, f, g, h)).bind fun q => bif !q then some false else (Kl (a, b, c, d, e, f, g, h, i, j, k, l, m, n, o, p)).bind fun r => bif !r then some false else (Kag (a, b, c, d, e, f, g, h, i, j, k, l, m, n, o, p)).bind fun s => bif !s then some false else (Kk (a, b, c, d, e, f, g, h, i, j, k, l, m, n, o, p)).bind fun t => bx (lp Ke_s250 ((a, b, c, d, e, f, g, h, i, j, k, l, m, n, o, p), [], t, 0)) (fun u => some u) fun ((u, v, w, x, y, z, a1, b1, c1, d1, e1, f1, g1, h1, i1, j1), k1) => (Kaa (u, v, w, x, y, z, a1, b1, c1, d1, e1, f1, g1, h1, i1, j1)).bind fun l1 => (Kby (k1, l1)).bind fun m1 => bif !m1 then some false else bx (lp Ke_s1018 ((u, v, w, x, y, z, a1, b1, c1, d1, e1, f1, g1, h1, i1, j1), 0)) (fun n1 => some n1) fun _ => some true
def Ke_e : FEnt := ⟨100, [.tmp 2], [], [(.agg, cc7)], ⟨102, [⟨2, .one, [.dat .bool]⟩]⟩, Ke⟩
theorem Ke_ok : FnOk Tryz.prog 36 Ke_e := fnOk_mk (tb := [(521370, Ke_n521370), (260682, Ke_n260682), (1018, Ke_n1018), (250, Ke_n250)]) (c := (Tryz.f36.body).getD .skip) mixed Tryz.func36 (bC Kcr_ok (bC Kl_ok (bC Kag_ok (bC Kk_ok (bC Ks_ok (bC Kan_ok (bC Kaa_ok (bC Kby_ok (bC Kau_ok bN))))))))) (by kernel_rfl) (by kernel_rfl) (by kernel_rfl) ⟨nodeLoop (by kernel_rfl) Ke_s521370 (by kernel_rfl) (by intro d; kernel_rfl), nodeLoop (by kernel_rfl) Ke_s260682 (by kernel_rfl) (by intro d; kernel_rfl), nodeLoop (by kernel_rfl) Ke_s1018 (by kernel_rfl) (by intro d; kernel_rfl), nodeLoop (by kernel_rfl) Ke_s250 (by kernel_rfl) (by intro d; kernel_rfl), trivial⟩ (by intro d; kernel_rfl)
def Kaq_s506 : t39 × t70 → Option (t39 × t70 ⊕ t66)
 | ((a, b, c, d, e, f, g), (h, i, j, k, _, _, _), (l, m, n, o, p, q, r), s) => bif decide (s < (ln g)) then ix s g.length (chk (fits (0 + (gx g s []).length) 8) (chk (fits (r.length + [[] ++ (gx g s [])].length) 24) ((some (r ++ [[] ++ (gx g s [])])).bind fun t => some (.inl ((a, b, c, d, e, f, g), (h, i, j, k, (), (), ()), (l, m, n, o, p, q, t), w64 (s + 1)))))) else some (.inr ((h, i, j, k, (), (), ()), l, m, n, o, p, q, r))
def Kaq_n506 : NEnt := ⟨⟨39, [⟨1, .box, cc17⟩, ⟨2, .box, cc23⟩, ⟨3, .box, cc16⟩, ⟨4, .one, [.dat kI]⟩]⟩, [(.exit 0, ⟨39, [⟨2, .box, cc23⟩, ⟨3, .box, cc16⟩]⟩)], lp Kaq_s506⟩
def Kaq : t39 → Option t39
 | (a, b, c, d, e, f, g) => chk (fits (0 + e.length) 8) (chk (fits (0 + f.length) 8) ((lp Kaq_s506 ((a, b, c, d, e, f, g), (0, 0, 0, 0, (), (), ()), (a, b, c, d, [] ++ e, [] ++ f, []), 0)).bind fun ((h, i, j, k, _, _, _), l, m, n, o, p, q, r) => some (l, m, n, o, p, q, r)))
def Kaq_e : FEnt := ⟨37, [.cell 2 true 7], [], [(.agg, cc17)], ⟨39, [⟨2, .box, cc16⟩]⟩, Kaq⟩
theorem Kaq_ok : FnOk Tryz.prog 159 Kaq_e := fnOk_mk (tb := [(506, Kaq_n506)]) (c := (Tryz.f159.body).getD .skip) mixed Tryz.func159 bN (by kernel_rfl) (by kernel_rfl) (by kernel_rfl) ⟨nodeLoop (by kernel_rfl) Kaq_s506 (by kernel_rfl) (by intro d; kernel_rfl), trivial⟩ (by intro d; kernel_rfl)
def Kcj : t55 → Option t55
 | (a, b, c, d, e, f, g, h, i, j) => (Kcn c).bind fun k => (Kaq (d, e, f, g, h, i, j)).bind fun (l, m, n, o, p, q, r) => some (a, b, k, l, m, n, o, p, q, r)
def Kcj_e : FEnt := ⟨14, [.cell 2 true 10], [], [(.agg, cc15)], ⟨16, [⟨2, .box, cc13⟩]⟩, Kcj⟩
theorem Kcj_ok : FnOk Tryz.prog 108 Kcj_e := fnOk_mk (tb := []) (c := (Tryz.f108.body).getD .skip) mixed Tryz.func108 (bC Kcn_ok (bC Kaq_ok bN)) (by kernel_rfl) (by kernel_rfl) (by kernel_rfl) trivial (by intro d; kernel_rfl)
def Kap_s58 : List t55 × Unit × t63 → Option (List t55 × Unit × t63 ⊕ Unit × List t55)
 | (a, _, b, c) => (some (decide (c < (ln a)))).bind fun d => bif d then ix c a.length ((some (gx a c (0, 0, [], 0, 0, 0, 0, [], [], []))).bind fun (e, f, g, h, i, j, k, l, m, n) => (Kcj (e, f, g, h, i, j, k, l, m, n)).bind fun (o, p, q, r, s, t, u, v, w, x) => (some [(o, p, q, r, s, t, u, v, w, x)]).bind fun y => chk (fits (b.length + y.length) 144) ((some (b ++ y)).bind fun z => some (.inl (a, (), z, w64 (c + 1))))) else some (.inr ((), b))
def Kap_n58 : NEnt := ⟨⟨27, [⟨1, .box, [.dat kk4]⟩, ⟨2, .box, [.nil]⟩, ⟨3, .box, [.own true kk5]⟩, ⟨4, .one, [.dat kI]⟩]⟩, [(.exit 0, ⟨27, [⟨2, .box, [.nil]⟩, ⟨3, .box, [.own true kk5]⟩]⟩)], lp Kap_s58⟩
def Kap : List t55 → Option (List t55)
 | a => (lp Kap_s58 (a, (), [], 0)).bind fun (_, b) => some b
def Kap_e : FEnt := ⟨25, [.cell 2 true 1], [], [(.agg, [.dat kk4])], ⟨27, [⟨2, .box, [.own true kk5]⟩]⟩, Kap⟩
theorem Kap_ok : FnOk Tryz.prog 196 Kap_e := fnOk_mk (tb := [(58, Kap_n58)]) (c := (Tryz.f196.body).getD .skip) mixed Tryz.func196 (bC Kcj_ok bN) (by kernel_rfl) (by kernel_rfl) (by kernel_rfl) ⟨nodeLoop (by kernel_rfl) Kap_s58 (by kernel_rfl) (by intro d; kernel_rfl), trivial⟩ (by intro d; kernel_rfl)
def Kcu : Int × Bool × List Int → Option (Int × Bool × List Int)
 | (a, b, c) => chk (fits (0 + c.length) 8) (some (a, b, [] ++ c))
def Kcu_e : FEnt := ⟨12, [.cell 2 true 3], [], [(.agg, cc26)], ⟨14, [⟨2, .box, cc29⟩]⟩, Kcu⟩
theorem Kcu_ok : FnOk Tryz.prog 197 Kcu_e := fnOk_mk (tb := []) (c := (Tryz.f197.body).getD .skip) mixed Tryz.func197 bN (by kernel_rfl) (by kernel_rfl) (by kernel_rfl) trivial (by intro d; kernel_rfl)
def Ka_s58 : t129 × t59 × (Int × Int × Int × t80) × Int → Option (t129 × t59 × (Int × Int × Int × t80) × Int ⊕ t129 × t59 × Int × Int × Int × t80)
 | ((a, b, c, d, e, f, g, h, i, j, k, l, m, n, o, p), (q, r, s, _, t, u, v, w, x, y, _, _, _, z, _, _), (a1, b1, c1, d1, e1, f1, g1, h1, i1, j1, k1, _, _, l1, _, _), m1) => bif decide (m1 < (ln k)) then ix m1 k.length ((some (gx k m1 (0, 0, [], 0, 0))).bind fun (n1, o1, p1, q1, r1) => (Kca (n1, o1, p1, q1, r1)).bind fun (s1, t1, u1, v1, w1) => (some [(s1, t1, u1, v1, w1)]).bind fun x1 => chk (fits (k1.length + x1.length) 56) ((some (k1 ++ x1)).bind fun y1 => some (.inl ((a, b, c, d, e, f, g, h, i, j, k, l, m, n, o, p), (q, r, s, (), t, u, v, w, x, y, (), (), (), z, (), ()), (a1, b1, c1, d1, e1, f1, g1, h1, i1, j1, y1, (), (), l1, (), ()), w64 (m1 + 1))))) else some (.inr ((a, b, c, d, e, f, g, h, i, j, k, l, m, n, o, p), (q, r, s, (), t, u, v, w, x, y, (), (), (), z, (), ()), a1, b1, c1, d1, e1, f1, g1, h1, i1, j1, k1, (), (), l1, (), ()))
def Ka_n58 : NEnt := ⟨⟨140, [⟨1, .box, cc7⟩, ⟨2, .box, cc12⟩, ⟨3, .box, cc10⟩, ⟨4, .one, [.dat kI]⟩]⟩, [(.exit 0, ⟨140, [⟨1, .box, cc7⟩, ⟨2, .box, cc12⟩, ⟨3, .box, cc10⟩]⟩)], lp Ka_s58⟩
def Ka_s31306 : t129 × t59 × t108 × Int × List (List t55) × Int → Option (t129 × t59 × t108 × Int × List (List t55) × Int ⊕ t129 × t59 × t108 × Int × List (List t55))
 | ((a, b, c, d, e, f, g, h, i, j, k, l, m, n, o, p), (q, r, s, _, t, u, v, w, x, y, _, _, _, z, _, _), (a1, b1, c1, d1, e1, f1, g1, h1, i1, j1, k1, l1, _, m1, _, _), n1, o1, p1) => ix n1 l.length ((some (gx l n1 [])).bind fun q1 => (some (decide (p1 < (ln q1)))).bind fun r1 => bif r1 then ix n1 l.length ((some (gx l n1 [])).bind fun s1 => ix p1 s1.length ((some (gx s1 p1 [])).bind fun t1 => (Kap t1).bind fun u1 => (some [u1]).bind fun v1 => chk (fits (o1.length + v1.length) 24) ((some (o1 ++ v1)).bind fun w1 => some (.inl ((a, b, c, d, e, f, g, h, i, j, k, l, m, n, o, p), (q, r, s, (), t, u, v, w, x, y, (), (), (), z, (), ()), (a1, b1, c1, d1, e1, f1, g1, h1, i1, j1, k1, l1, (), m1, (), ()), n1, w1, w64 (p1 + 1)))))) else some (.inr ((a, b, c, d, e, f, g, h, i, j, k, l, m, n, o, p), (q, r, s, (), t, u, v, w, x, y, (), (), (), z, (), ()), (a1, b1, c1, d1, e1, f1, g1, h1, i1, j1, k1, l1, (), m1, (), ()), n1, o1)))
def Ka_n31306 : NEnt := ⟨⟨140, [⟨1, .box, cc7⟩, ⟨2, .box, cc12⟩, ⟨3, .box, cc8⟩, ⟨5, .one, [.dat kI]⟩, ⟨6, .one, [.own true kk4]⟩, ⟨7, .one, [.dat kI]⟩]⟩, [(.exit 4, ⟨140, [⟨1, .box, cc7⟩, ⟨2, .box, cc12⟩, ⟨3, .box, cc8⟩, ⟨5, .one, [.dat kI]⟩, ⟨6, .one, [.own true kk4]⟩]⟩)], lp Ka_s31306⟩
def Ka_s122 : t129 × t59 × t108 × Int → Option (t129 × t59 × t108 × Int ⊕ t129 × t59 × t108)
 | ((a, b, c, d, e, f, g, h, i, j, k, l, m, n, o, p), (q, r, s, _, t, u, v, w, x, y, _, _, _, z, _, _), (a1, b1, c1, d1, e1, f1, g1, h1, i1, j1, k1, l1, _, m1, _, _), n1) => (some (decide (n1 < (ln l)))).bind fun o1 => bif o1 then (lp Ka_s31306 ((a, b, c, d, e, f, g, h, i, j, k, l, m, n, o, p), (q, r, s, (), t, u, v, w, x, y, (), (), (), z, (), ()), (a1, b1, c1, d1, e1, f1, g1, h1, i1, j1, k1, l1, (), m1, (), ()), n1, [], 0)).bind fun ((p1, q1, r1, s1, t1, u1, v1, w1, x1, y1, z1, a2, b2, c2, d2, e2), (f2, g2, h2, _, i2, j2, k2, l2, m2, n2, _, _, _, o2, _, _), (p2, q2, r2, s2, t2, u2, v2, w2, x2, y2, z2, a3, _, b3, _, _), c3, d3) => (some [d3]).bind fun e3 => chk (fits (a3.length + e3.length) 24) ((some (a3 ++ e3)).bind fun f3 => some (.inl ((p1, q1, r1, s1, t1, u1, v1, w1, x1, y1, z1, a2, b2, c2, d2, e2), (f2, g2, h2, (), i2, j2, k2, l2, m2, n2, (), (), (), o2, (), ()), (p2, q2, r2, s2, t2, u2, v2, w2, x2, y2, z2, f3, (), b3, (), ()), w64 (c3 + 1)))) else some (.inr ((a, b, c, d, e, f, g, h, i, j, k, l, m, n, o, p), (q, r, s, (), t, u, v, w, x, y, (), (), (), z, (), ()), a1, b1, c1, d1, e1, f1, g1, h1, i1, j1, k1, l1, (), m1, (), ()))
def Ka_n122 : NEnt := ⟨⟨140, [⟨1, .box, cc7⟩, ⟨2, .box, cc12⟩, ⟨3, .box, cc8⟩, ⟨5, .one, [.dat kI]⟩]⟩, [(.exit 2, ⟨140, [⟨1, .box, cc7⟩, ⟨2, .box, cc12⟩, ⟨3, .box, cc8⟩]⟩)], lp Ka_s122⟩
def Ka_s250 : t129 × t59 × t112 × Int → Option (t129 × t59 × t112 × Int ⊕ t129 × t59 × t112)
 | ((a, b, c, d, e, f, g, h, i, j, k, l, m, n, o, p), (q, r, s, _, t, u, v, w, x, y, _, _, _, z, _, _), (a1, b1, c1, d1, e1, f1, g1, h1, i1, j1, k1, l1, m1, n1, _, _), o1) => bif decide (o1 < (ln m)) then ix o1 m.length ((some (gx m o1 (0, false, []))).bind fun (p1, q1, r1) => (Kcu (p1, q1, r1)).bind fun (s1, t1, u1) => chk (fits (m1.length + [(s1, t1, u1)].length) 40) ((some (m1 ++ [(s1, t1, u1)])).bind fun v1 => some (.inl ((a, b, c, d, e, f, g, h, i, j, k, l, m, n, o, p), (q, r, s, (), t, u, v, w, x, y, (), (), (), z, (), ()), (a1, b1, c1, d1, e1, f1, g1, h1, i1, j1, k1, l1, v1, n1, (), ()), w64 (o1 + 1))))) else some (.inr ((a, b, c, d, e, f, g, h, i, j, k, l, m, n, o, p), (q, r, s, (), t, u, v, w, x, y, (), (), (), z, (), ()), a1, b1, c1, d1, e1, f1, g1, h1, i1, j1, k1, l1, m1, n1, (), ()))
def Ka_n250 : NEnt := ⟨⟨140, [⟨1, .box, cc7⟩, ⟨2, .box, cc12⟩, ⟨3, .box, cc5⟩, ⟨8, .one, [.dat kI]⟩]⟩, [(.exit 6, ⟨140, [⟨1, .box, cc7⟩, ⟨2, .box, cc12⟩, ⟨3, .box, cc5⟩]⟩)], lp Ka_s250⟩
def Ka_s506 : t129 × t59 × (Int × Int × t117) × Int → Option (t129 × t59 × (Int × Int × t117) × Int ⊕ t129 × t59 × Int × Int × t117)
 | ((a, b, c, d, e, f, g, h, i, j, k, l, m, n, o, p), (q, r, s, _, t, u, v, w, x, y, _, _, _, z, _, _), (a1, b1, c1, d1, e1, f1, g1, h1, i1, j1, k1, l1, m1, n1, o1, _), p1) => (some (decide (p1 < (ln o)))).bind fun q1 => bif q1 then ix p1 o.length ((some (gx o p1 (0, 0, [], 0, 0, 0, 0, [], [], []))).bind fun (r1, s1, t1, u1, v1, w1, x1, y1, z1, a2) => (Kcj (r1, s1, t1, u1, v1, w1, x1, y1, z1, a2)).bind fun (b2, c2, d2, e2, f2, g2, h2, i2, j2, k2) => (some [(b2, c2, d2, e2, f2, g2, h2, i2, j2, k2)]).bind fun l2 => chk (fits (o1.length + l2.length) 144) ((some (o1 ++ l2)).bind fun m2 => some (.inl ((a, b, c, d, e, f, g, h, i, j, k, l, m, n, o, p), (q, r, s, (), t, u, v, w, x, y, (), (), (), z, (), ()), (a1, b1, c1, d1, e1, f1, g1, h1, i1, j1, k1, l1, m1, n1, m2, ()), w64 (p1 + 1))))) else some (.inr ((a, b, c, d, e, f, g, h, i, j, k, l, m, n, o, p), (q, r, s, (), t, u, v, w, x, y, (), (), (), z, (), ()), a1, b1, c1, d1, e1, f1, g1, h1, i1, j1, k1, l1, m1, n1, o1, ()))
def Ka_n506 : NEnt := ⟨⟨140, [⟨1, .box, cc7⟩, ⟨2, .box, cc12⟩, ⟨3, .box, cc4⟩, ⟨9, .one, [.dat kI]⟩]⟩, [(.exit 8, ⟨140, [⟨1, .box, cc7⟩, ⟨2, .box, cc12⟩, ⟨3, .box, cc4⟩]⟩)], lp Ka_s506⟩
def Ka_s1018 : t129 × t59 × t130 → Option (t129 × t59 × t130 ⊕ t59 × t129)
 | ((a, b, c, d, e, f, g, h, i, j, k, l, m, n, o, p), (q, r, s, _, t, u, v, w, x, y, _, _, _, z, _, _), (a1, b1, c1, d1, e1, f1, g1, h1, i1, j1, k1, l1, m1, n1, o1, p1), q1) => (some (decide (q1 < (ln p)))).bind fun r1 => bif r1 then ix q1 p.length ((some (gx p q1 (0, 0, 0, [], 0, 0, 0, 0, [], [], []))).bind fun (s1, t1, u1, v1, w1, x1, y1, z1, a2, b2, c2) => ix q1 p.length ((some (gx p q1 (0, 0, 0, [], 0, 0, 0, 0, [], [], []))).bind fun (d2, e2, f2, g2, h2, i2, j2, k2, l2, m2, n2) => (Kcj (e2, f2, g2, h2, i2, j2, k2, l2, m2, n2)).bind fun (o2, p2, q2, r2, s2, t2, u2, v2, w2, x2) => (some [(s1, o2, p2, q2, r2, s2, t2, u2, v2, w2, x2)]).bind fun y2 => chk (fits (p1.length + y2.length) 152) ((some (p1 ++ y2)).bind fun z2 => some (.inl ((a, b, c, d, e, f, g, h, i, j, k, l, m, n, o, p), (q, r, s, (), t, u, v, w, x, y, (), (), (), z, (), ()), (a1, b1, c1, d1, e1, f1, g1, h1, i1, j1, k1, l1, m1, n1, o1, z2), w64 (q1 + 1)))))) else some (.inr ((q, r, s, (), t, u, v, w, x, y, (), (), (), z, (), ()), a1, b1, c1, d1, e1, f1, g1, h1, i1, j1, k1, l1, m1, n1, o1, p1))
def Ka_n1018 : NEnt := ⟨⟨140, [⟨1, .box, cc7⟩, ⟨2, .box, cc12⟩, ⟨3, .box, cc3⟩, ⟨10, .one, [.dat kI]⟩]⟩, [(.exit 10, ⟨140, [⟨2, .box, cc12⟩, ⟨3, .box, cc3⟩]⟩)], lp Ka_s1018⟩
def Ka : t129 → Option t129
 | (a, b, c, d, e, f, g, h, i, j, k, l, m, n, o, p) => (Kcz (a, b, c, d, e, f, g, h)).bind fun (q, r, s, t, u, v, w, x) => (lp Ka_s58 ((a, b, c, d, e, f, g, h, i, j, k, l, m, n, o, p), (0, 0, 0, (), 0, 0, 0, 0, 0, false, (), (), (), 0, (), ()), (q, r, s, t, u, v, w, x, i, j, [], (), (), n, (), ()), 0)).bind fun ((y, z, a1, b1, c1, d1, e1, f1, g1, h1, i1, j1, k1, l1, m1, n1), (o1, p1, q1, _, r1, s1, t1, u1, v1, w1, _, _, _, x1, _, _), y1, z1, a2, b2, c2, d2, e2, f2, g2, h2, i2, _, _, j2, _, _) => (lp Ka_s122 ((y, z, a1, b1, c1, d1, e1, f1, g1, h1, i1, j1, k1, l1, m1, n1), (o1, p1, q1, (), r1, s1, t1, u1, v1, w1, (), (), (), x1, (), ()), (y1, z1, a2, b2, c2, d2, e2, f2, g2, h2, i2, [], (), j2, (), ()), 0)).bind fun ((k2, l2, m2, n2, o2, p2, q2, r2, s2, t2, u2, v2, w2, x2, y2, z2), (a3, b3, c3, _, d3, e3, f3, g3, h3, i3, _, _, _, j3, _, _), k3, l3, m3, n3, o3, p3, q3, r3, s3, t3, u3, v3, _, w3, _, _) => (lp Ka_s250 ((k2, l2, m2, n2, o2, p2, q2, r2, s2, t2, u2, v2, w2, x2, y2, z2), (a3, b3, c3, (), d3, e3, f3, g3, h3, i3, (), (), (), j3, (), ()), (k3, l3, m3, n3, o3, p3, q3, r3, s3, t3, u3, v3, [], w3, (), ()), 0)).bind fun ((x3, y3, z3, a4, b4, c4, d4, e4, f4, g4, h4, i4, j4, k4, l4, m4), (n4, o4, p4, _, q4, r4, s4, t4, u4, v4, _, _, _, w4, _, _), x4, y4, z4, a5, b5, c5, d5, e5, f5, g5, h5, i5, j5, k5, _, _) => (lp Ka_s506 ((x3, y3, z3, a4, b4, c4, d4, e4, f4, g4, h4, i4, j4, k4, l4, m4), (n4, o4, p4, (), q4, r4, s4, t4, u4, v4, (), (), (), w4, (), ()), (x4, y4, z4, a5, b5, c5, d5, e5, f5, g5, h5, i5, j5, k5, [], ()), 0)).bind fun ((l5, m5, n5, o5, p5, q5, r5, s5, t5, u5, v5, w5, x5, y5, z5, a6), (b6, c6, d6, _, e6, f6, g6, h6, i6, j6, _, _, _, k6, _, _), l6, m6, n6, o6, p6, q6, r6, s6, t6, u6, v6, w6, x6, y6, z6, _) => (lp Ka_s1018 ((l5, m5, n5, o5, p5, q5, r5, s5, t5, u5, v5, w5, x5, y5, z5, a6), (b6, c6, d6, (), e6, f6, g6, h6, i6, j6, (), (), (), k6, (), ()), (l6, m6, n6, o6, p6, q6, r6, s6, t6, u6, v6, w6, x6, y6, z6, []), 0)).bind fun ((a7, b7, c7, _, d7, e7, f7, g7, h7, i7, _, _, _, j7, _, _), k7, l7, m7, n7, o7, p7, q7, r7, s7, t7, u7, v7, w7, x7, y7, z7) => some (k7, l7, m7, n7, o7, p7, q7, r7, s7, t7, u7, v7, w7, x7, y7, z7)
def Ka_e : FEnt := ⟨138, [.cell 2 true 16], [], [(.agg, cc7)], ⟨140, [⟨2, .box, cc3⟩]⟩, Ka⟩
theorem Ka_ok : FnOk Tryz.prog 156 Ka_e := fnOk_mk (tb := [(1018, Ka_n1018), (506, Ka_n506), (250, Ka_n250), (31306, Ka_n31306), (122, Ka_n122), (58, Ka_n58)]) (c := (Tryz.f156.body).getD .skip) mixed Tryz.func156 (bC Kcz_ok (bC Kca_ok (bC Kap_ok (bC Kcu_ok (bC Kcj_ok bN))))) (by kernel_rfl) (by kernel_rfl) (by kernel_rfl) ⟨nodeLoop (by kernel_rfl) Ka_s1018 (by kernel_rfl) (by intro d; kernel_rfl), nodeLoop (by kernel_rfl) Ka_s506 (by kernel_rfl) (by intro d; kernel_rfl), nodeLoop (by kernel_rfl) Ka_s250 (by kernel_rfl) (by intro d; kernel_rfl), nodeLoop (by kernel_rfl) Ka_s31306 (by kernel_rfl) (by intro d; kernel_rfl), nodeLoop (by kernel_rfl) Ka_s122 (by kernel_rfl) (by intro d; kernel_rfl), nodeLoop (by kernel_rfl) Ka_s58 (by kernel_rfl) (by intro d; kernel_rfl), trivial⟩ (by intro d; kernel_rfl)
def Kax_s58 : List Int × Int × Int → Option (List Int × Int × Int ⊕ Int)
 | (a, b, c) => bif decide (c < (ln a)) then ix c a.length ((Kda (decide ((gx a c 0) > 0))).bind fun d => some (.inl (a, w64 (b + d), w64 (c + 1)))) else some (.inr b)
def Kax_n58 : NEnt := ⟨⟨22, [⟨0, .one, [.dat (.list kI)]⟩, ⟨3, .one, [.dat kI]⟩, ⟨4, .one, [.dat kI]⟩]⟩, [(.exit 0, ⟨22, [⟨3, .one, [.dat kI]⟩]⟩)], lp Kax_s58⟩
def Kax : List Int → Option Int
 | a => (lp Kax_s58 (a, 0, 0)).bind fun b => some b
def Kax_e : FEnt := ⟨20, [.tmp 2], [], [(.one, [.dat (.list kI)])], ⟨22, [⟨2, .one, [.dat kI]⟩]⟩, Kax⟩
theorem Kax_ok : FnOk Tryz.prog 239 Kax_e := fnOk_mk (tb := [(58, Kax_n58)]) (c := (Tryz.f239.body).getD .skip) mixed Tryz.func239 (bC Kda_ok bN) (by kernel_rfl) (by kernel_rfl) (by kernel_rfl) ⟨nodeLoop (by kernel_rfl) Kax_s58 (by kernel_rfl) (by intro d; kernel_rfl), trivial⟩ (by intro d; kernel_rfl)
def Kdo : t55 → Option Int
 | (a, b, c, d, e, f, g, h, i, j) => (Kck (a, b, c, d, e, f, g, h, i, j)).bind fun k => bif !k then some 0 else (Kax h).bind fun l => (Kax i).bind fun m => chk (decide (0 < j.length)) ((Kax (List.getD j 0 [])).bind fun n => chk (decide (1 < j.length)) ((Kax (List.getD j 1 [])).bind fun o => (some (w64 ((w64 ((w64 ((w64 ((w64 (4 + l)) + m)) + n)) + o)) + (w64 (2 * (ln c)))))).bind fun p => some p))
def Kdo_e : FEnt := ⟨35, [.tmp 2], [], [(.agg, cc15)], ⟨37, [⟨2, .one, [.dat kI]⟩]⟩, Kdo⟩
theorem Kdo_ok : FnOk Tryz.prog 232 Kdo_e := fnOk_mk (tb := []) (c := (Tryz.f232.body).getD .skip) mixed Tryz.func232 (bC Kck_ok (bC Kax_ok bN)) (by kernel_rfl) (by kernel_rfl) (by kernel_rfl) trivial (by intro d; kernel_rfl)
def Kav_s58 : Int × t129 × List Int × Int → Option (Int × t129 × List Int × Int ⊕ List Int)
 | (a, (b, c, d, e, f, g, h, i, j, k, l, m, n, o, p, q), r, s) => bif decide (s < 3) then ix s m.length ((some (gx m s [])).bind fun t => ix a t.length ((some (gx t a [])).bind fun u => (some (decide ((ln u) > 0))).bind fun v => bif v then ix s m.length ((some (gx m s [])).bind fun w => ix a w.length ((some (gx w a [])).bind fun x => chk (decide (0 < x.length)) ((some (List.getD x 0 (0, 0, [], 0, 0, 0, 0, [], [], []))).bind fun (y, z, a1, b1, c1, d1, e1, f1, g1, h1) => (Kdo (y, z, a1, b1, c1, d1, e1, f1, g1, h1)).bind fun i1 => (Km (i1, 200)).bind fun j1 => chk (fits (r.length + [j1].length) 8) (some (.inl (a, (b, c, d, e, f, g, h, i, j, k, l, m, n, o, p, q), r ++ [j1], w64 (s + 1))))))) else chk (fits (r.length + 1) 8) (some (.inl (a, (b, c, d, e, f, g, h, i, j, k, l, m, n, o, p, q), r ++ [0], w64 (s + 1)))))) else some (.inr r)
def Kav_n58 : NEnt := ⟨⟨46, [⟨1, .one, [.dat kI]⟩, ⟨2, .box, cc7⟩, ⟨5, .one, [.own true kI]⟩, ⟨6, .one, [.dat kI]⟩]⟩, [(.exit 0, ⟨46, [⟨5, .one, [.own true kI]⟩]⟩)], lp Kav_s58⟩
def Kav : t130 → Option (List Int)
 | ((a, b, c, d, e, f, g, h, i, j, k, l, m, n, o, p), q) => (lp Kav_s58 (q, (a, b, c, d, e, f, g, h, i, j, k, l, m, n, o, p), [], 0)).bind fun r => some r
def Kav_e : FEnt := ⟨42, [.tmp 4], [], [(.agg, cc7), (.one, [.dat kI])], ⟨46, [⟨4, .one, [.own true kI]⟩]⟩, Kav⟩
theorem Kav_ok : FnOk Tryz.prog 216 Kav_e := fnOk_mk (tb := [(58, Kav_n58)]) (c := (Tryz.f216.body).getD .skip) mixed Tryz.func216 (bC Kdo_ok (bC Km_ok bN)) (by kernel_rfl) (by kernel_rfl) (by kernel_rfl) ⟨nodeLoop (by kernel_rfl) Kav_s58 (by kernel_rfl) (by intro d; kernel_rfl), trivial⟩ (by intro d; kernel_rfl)
def Kbb_l25 : Bool × Bool × Int × Int × Bool → Option (Int × Int ⊕ Int)
 | (a, b, c, d, e) => bif e then some (.inl ((-1), 0)) else bif !b then some (.inl (0, 0)) else bif !a then some (.inl (1, 0)) else bif decide ((w64 (c + 1)) ≥ d) then some (.inl (1, 0)) else some (.inr c)
def Kbb_n25 : NEnt := ⟨⟨48, [⟨0, .one, [.dat .bool]⟩, ⟨1, .one, [.dat .bool]⟩, ⟨2, .one, [.dat kI]⟩, ⟨3, .one, [.dat kI]⟩, ⟨10, .one, [.dat .bool]⟩]⟩, [(.ret, ⟨48, [⟨8, .one, [.dat kI]⟩, ⟨9, .one, [.dat kI]⟩]⟩), (.normal, ⟨48, [⟨2, .one, [.dat kI]⟩]⟩)], Kbb_l25⟩
def Kbb : Bool × Bool × Int × Int → Option (Int × Int)
 | (a, b, c, d) => (Kb (c, 0, 1000)).bind fun e => bif !e then bx (Kbb_l25 (a, b, c, d, true)) (fun (f, g) => some (f, g)) fun f => some (0, w64 (f + 1)) else (Kb (d, 1, 10)).bind fun f => bif !f then bx (Kbb_l25 (a, b, c, d, true)) (fun (g, h) => some (g, h)) fun g => some (0, w64 (g + 1)) else bif !a then bx (Kbb_l25 (a, b, c, d, !b)) (fun (g, h) => some (g, h)) fun g => some (0, w64 (g + 1)) else bx (Kbb_l25 (a, b, c, d, false)) (fun (g, h) => some (g, h)) fun g => some (0, w64 (g + 1))
def Kbb_e : FEnt := ⟨40, [.tmp 8, .tmp 9], [], [(.one, [.dat .bool]), (.one, [.dat .bool]), (.one, [.dat kI]), (.one, [.dat kI])], ⟨48, [⟨8, .one, [.dat kI]⟩, ⟨9, .one, [.dat kI]⟩]⟩, Kbb⟩
theorem Kbb_ok : FnOk Tryz.prog 217 Kbb_e := fnOk_mk (tb := [(25, Kbb_n25)]) (c := (Tryz.f217.body).getD .skip) mixed Tryz.func217 (bC Kb_ok bN) (by kernel_rfl) (by kernel_rfl) (by kernel_rfl) ⟨nodeJoin (by kernel_rfl) (by intro d; kernel_rfl), trivial⟩ (by intro d; kernel_rfl)
def Kch : Int × Bool × List Int → Option ((Int × Bool × List Int) × Int × Bool × Unit)
 | (a, b, c) => some ((Int.tmod (w64 (a + 1)) 3, true, c), a, b, ())
def Kch_e : FEnt := ⟨10, [.cell 2 true 3], [true], [(.agg, cc29)], ⟨12, [⟨2, .box, cc29⟩, ⟨10, .agg, [.dat kI, .dat .bool, .dead]⟩]⟩, Kch⟩
theorem Kch_ok : FnOk Tryz.prog 233 Kch_e := fnOk_mk (tb := []) (c := (Tryz.f233.body).getD .skip) mixed Tryz.func233 bN (by kernel_rfl) (by kernel_rfl) (by kernel_rfl) trivial (by intro d; kernel_rfl)
def Kd_l995 : List Int × t38 → Option (t6 ⊕ List Int × t38)
 | (a, b, c, (d, e, _), f, g, h) => ix f a.length (ix f h.length (lx f h.length (bif decide ((gx a f 0) ≤ (gx h f 0)) then ix f h.length (lx f h.length (ix f a.length (ix f h.length (lx f h.length (some (.inl (f, f, g, sx h f (w64 ((gx h f 0) - (gx a f 0)))))))))) else (Kch (f, g, h)).bind fun ((i, j, k), l, m, _) => some (.inr (a, b, c, (d, e, ()), i, j, k)))))
def Kd_n995 : NEnt := ⟨⟨113, [⟨0, .one, [.dat (.list kI)]⟩, ⟨1, .one, [.dat (.list kI)]⟩, ⟨2, .one, [.dat kI]⟩, ⟨9, .box, cc31⟩, ⟨10, .box, cc29⟩]⟩, [(.ret, ⟨113, [⟨8, .one, [.dat kI]⟩, ⟨9, .box, cc29⟩]⟩), (.normal, ⟨113, [⟨0, .one, [.dat (.list kI)]⟩, ⟨1, .one, [.dat (.list kI)]⟩, ⟨2, .one, [.dat kI]⟩, ⟨9, .box, cc31⟩, ⟨10, .box, cc29⟩]⟩)], Kd_l995⟩
def Kd_s62 : List Int × t38 → Option (List Int × t38 ⊕ t6)
 | (a, b, c, (d, e, _), f, g, h) => ix f a.length (bif (gx a f 0) == 0 then ix f h.length (lx f h.length ((Kch (f, g, sx h f 0)).bind fun ((i, j, k), l, m, _) => some (.inl (a, b, c, (d, e, ()), i, j, k)))) else bif g then ix f h.length (lx f h.length (ix f b.length ((Km (w64 ((gx h f 0) + (w64 (c * (gx b f 0)))), 1000)).bind fun i => ix f h.length (lx f h.length (bx (Kd_l995 (a, b, c, (d, e, ()), f, false, sx h f i)) (fun (j, k, l, m) => some (.inr (j, k, l, m))) fun (j, k, l, (m, n, _), o, p, q) => some (.inl (j, k, l, (m, n, ()), o, p, q))))))) else bx (Kd_l995 (a, b, c, (d, e, ()), f, g, h)) (fun (i, j, k, l) => some (.inr (i, j, k, l))) fun (i, j, k, (l, m, _), n, o, p) => some (.inl (i, j, k, (l, m, ()), n, o, p)))
def Kd_n62 : NEnt := ⟨⟨113, [⟨0, .one, [.dat (.list kI)]⟩, ⟨1, .one, [.dat (.list kI)]⟩, ⟨2, .one, [.dat kI]⟩, ⟨9, .box, cc31⟩, ⟨10, .box, cc29⟩]⟩, [(.ret, ⟨113, [⟨8, .one, [.dat kI]⟩, ⟨9, .box, cc29⟩]⟩)], lp Kd_s62⟩
def Kd : List Int × List Int × t6 → Option t6
 | (a, b, c, d, e, f) => (Kcu (d, e, f)).bind fun (g, h, i) => (Kaf (a, 0, 200)).bind fun j => bif !j then some ((-1), g, h, i) else (Kaf (b, 1, 4)).bind fun k => bif !k then some ((-1), g, h, i) else (Kb (c, 1, 60)).bind fun l => bif !l then some ((-1), g, h, i) else (Kdi (d, e, f)).bind fun m => bif !m then some ((-1), g, h, i) else (Kaf (a, 0, 0)).bind fun n => bif n then (Kdh ()).bind fun (o, p, q) => some ((-1), o, p, q) else (lp Kd_s62 (a, b, c, (0, false, ()), g, h, i)).bind fun (o, p, q, r) => some (o, p, q, r)
def Kd_e : FEnt := ⟨105, [.tmp 8, .cell 9 true 3], [], [(.one, [.dat (.list kI)]), (.one, [.dat (.list kI)]), (.one, [.dat kI]), (.agg, cc26)], ⟨113, [⟨8, .one, [.dat kI]⟩, ⟨9, .box, cc29⟩]⟩, Kd⟩
theorem Kd_ok : FnOk Tryz.prog 218 Kd_e := fnOk_mk (tb := [(995, Kd_n995), (62, Kd_n62)]) (c := (Tryz.f218.body).getD .skip) mixed Tryz.func218 (bC Kcu_ok (bC Kaf_ok (bC Kb_ok (bC Kdi_ok (bC Kdh_ok (bC Kch_ok (bC Km_ok bN))))))) (by kernel_rfl) (by kernel_rfl) (by kernel_rfl) ⟨nodeJoin (by kernel_rfl) (by intro d; kernel_rfl), nodeLoop (by kernel_rfl) Kd_s62 (by kernel_rfl) (by intro d; kernel_rfl), trivial⟩ (by intro d; kernel_rfl)
def Kej : t129 → Option (Int × Int × t129)
 | (a, b, c, d, e, f, g, h, i, j, k, l, m, n, o, p) => (Ka (a, b, c, d, e, f, g, h, i, j, k, l, m, n, o, p)).bind fun (q, r, s, t, u, v, w, x, y, z, a1, b1, c1, d1, e1, f1) => (Kav ((a, b, c, d, e, f, g, h, i, j, k, l, m, n, o, p), 0)).bind fun g1 => (Kaf (g1, 0, 0)).bind fun h1 => (Kav ((a, b, c, d, e, f, g, h, i, j, k, l, m, n, o, p), 1)).bind fun i1 => (Kaf (i1, 0, 0)).bind fun j1 => (Kbb (!h1, !j1, n, c)).bind fun (k1, l1) => bif decide (k1 < 0) then some ((-1), (-1), q, r, s, t, u, v, w, x, y, z, a1, b1, c1, d1, e1, f1) else (Kav ((a, b, c, d, e, f, g, h, i, j, k, l, m, n, o, p), k1)).bind fun m1 => ix k1 m.length ((some (gx m k1 (0, false, []))).bind fun (n1, o1, p1) => (Kd (m1, d, b, n1, o1, p1)).bind fun (q1, r1, s1, t1) => ix k1 c1.length (lx k1 c1.length (some (q1, k1, q, r, s, t, u, v, w, x, y, z, a1, b1, sx c1 k1 (r1, s1, t1), l1, e1, f1))))
def Kej_e : FEnt := ⟨64, [.tmp 2, .tmp 3, .cell 4 true 16], [], [(.agg, cc7)], ⟨66, [⟨2, .one, [.dat kI]⟩, ⟨3, .one, [.dat kI]⟩, ⟨4, .box, cc3⟩]⟩, Kej⟩
theorem Kej_ok : FnOk Tryz.prog 199 Kej_e := fnOk_mk (tb := []) (c := (Tryz.f199.body).getD .skip) mixed Tryz.func199 (bC Ka_ok (bC Kav_ok (bC Kaf_ok (bC Kbb_ok (bC Kd_ok bN))))) (by kernel_rfl) (by kernel_rfl) (by kernel_rfl) trivial (by intro d; kernel_rfl)
def Kee : List t55 → Option (t55 × List t55 × Bool × List t55)
 | a => (Kap a).bind fun b => (Kp a).bind fun c => bif !c then some ((0, 0, [], 0, 0, 0, 0, [], [], []), b, false, a) else bif (ln a) == 0 then some ((0, 0, [], 0, 0, 0, 0, [], [], []), b, false, a) else chk (decide (0 < b.length)) (chk (decide (0 < b.length)) ((some (List.getD b 0 (0, 0, [], 0, 0, 0, 0, [], [], []))).bind fun (d, e, f, g, h, i, j, k, l, m) => chk (decide ((1 ≤ b.length) ∧ (b.length ≤ b.length))) (chk (fits (0 + (List.drop 1 b).length) 144) ((some ([] ++ (List.drop 1 b))).bind fun n => some ((d, e, f, g, h, i, j, k, l, m), n, true, a)))))
def Kee_e : FEnt := ⟨29, [.cell 2 true 10, .cell 3 true 1, .tmp 4], [true], [(.agg, [.own true kk5])], ⟨31, [⟨2, .box, cc15⟩, ⟨3, .box, [.own false kk5]⟩, ⟨4, .one, [.dat .bool]⟩, ⟨29, .agg, [.own true kk5]⟩]⟩, Kee⟩
theorem Kee_ok : FnOk Tryz.prog 200 Kee_e := fnOk_mk (tb := []) (c := (Tryz.f200.body).getD .skip) mixed Tryz.func200 (bC Kap_ok (bC Kp_ok bN)) (by kernel_rfl) (by kernel_rfl) (by kernel_rfl) trivial (by intro d; kernel_rfl)
def Kcm : Int × Int → Option Int
 | (a, b) => (Km (a, b)).bind fun c => (Kbd (0, c)).bind fun d => some d
def Kcm_e : FEnt := ⟨9, [.tmp 4], [], [(.one, [.dat kI]), (.one, [.dat kI])], ⟨13, [⟨4, .one, [.dat kI]⟩]⟩, Kcm⟩
theorem Kcm_ok : FnOk Tryz.prog 183 Kcm_e := fnOk_mk (tb := []) (c := (Tryz.f183.body).getD .skip) mixed Tryz.func183 (bC Km_ok (bC Kbd_ok bN)) (by kernel_rfl) (by kernel_rfl) (by kernel_rfl) trivial (by intro d; kernel_rfl)
def Kce : Int × Int → Option Int
 | (a, b) => (Kcm (a, 1000000000)).bind fun c => (Kcm (b, 1000000000)).bind fun d => (Km (w64 (c + d), 1000000000)).bind fun e => some e
def Kce_e : FEnt := ⟨11, [.tmp 4], [], [(.one, [.dat kI]), (.one, [.dat kI])], ⟨15, [⟨4, .one, [.dat kI]⟩]⟩, Kce⟩
theorem Kce_ok : FnOk Tryz.prog 144 Kce_e := fnOk_mk (tb := []) (c := (Tryz.f144.body).getD .skip) mixed Tryz.func144 (bC Kcm_ok (bC Km_ok bN)) (by kernel_rfl) (by kernel_rfl) (by kernel_rfl) trivial (by intro d; kernel_rfl)
def Kbf_s58 : List Int × t3 → Option (List Int × t3 ⊕ List Int)
 | (a, b, c, d) => bif decide (d < (ln a)) then ix d a.length (ix d b.length ((Kce (gx a d 0, gx b d 0)).bind fun e => chk (fits (c.length + [e].length) 8) (some (.inl (a, b, c ++ [e], w64 (d + 1)))))) else some (.inr c)
def Kbf_n58 : NEnt := ⟨⟨31, [⟨0, .one, [.dat (.list kI)]⟩, ⟨1, .one, [.dat (.list kI)]⟩, ⟨5, .one, [.own true kI]⟩, ⟨6, .one, [.dat kI]⟩]⟩, [(.exit 0, ⟨31, [⟨5, .one, [.own true kI]⟩]⟩)], lp Kbf_s58⟩
def Kbf : List Int × List Int → Option (List Int)
 | (a, b) => (lp Kbf_s58 (a, b, [], 0)).bind fun c => some c
def Kbf_e : FEnt := ⟨27, [.tmp 4], [], [(.one, [.dat (.list kI)]), (.one, [.dat (.list kI)])], ⟨31, [⟨4, .one, [.own true kI]⟩]⟩, Kbf⟩
theorem Kbf_ok : FnOk Tryz.prog 145 Kbf_e := fnOk_mk (tb := [(58, Kbf_n58)]) (c := (Tryz.f145.body).getD .skip) mixed Tryz.func145 (bC Kce_ok bN) (by kernel_rfl) (by kernel_rfl) (by kernel_rfl) ⟨nodeLoop (by kernel_rfl) Kbf_s58 (by kernel_rfl) (by intro d; kernel_rfl), trivial⟩ (by intro d; kernel_rfl)
def Ko_s250 : t39 × t39 × t70 → Option (t39 × t39 × t70 ⊕ t66)
 | ((a, b, c, d, e, f, g), (h, i, j, k, l, m, n), (o, p, q, r, _, _, _), (s, t, u, v, w, x, y), z) => bif decide (z < 8) then ix z f.length (ix z m.length ((Kbd (gx f z 0, gx m z 0)).bind fun a1 => chk (fits (x.length + [a1].length) 8) (some (.inl ((a, b, c, d, e, f, g), (h, i, j, k, l, m, n), (o, p, q, r, (), (), ()), (s, t, u, v, w, x ++ [a1], y), w64 (z + 1)))))) else some (.inr ((o, p, q, r, (), (), ()), s, t, u, v, w, x, y))
def Ko_n250 : NEnt := ⟨⟨89, [⟨2, .box, cc17⟩, ⟨3, .box, cc17⟩, ⟨4, .box, cc23⟩, ⟨5, .box, cc16⟩, ⟨6, .one, [.dat kI]⟩]⟩, [(.exit 0, ⟨89, [⟨4, .box, cc23⟩, ⟨5, .box, cc16⟩]⟩)], lp Ko_s250⟩
def Ko_l31 : t39 × t39 × t24 × Int × Int × Int × Int × List Int × Unit × List (List Int) → Option t39
 | ((a, b, c, d, e, f, g), (h, i, j, k, l, m, n), (o, p, q, r, _, _, _), s, t, u, v, w, _, x) => (lp Ko_s250 ((a, b, c, d, e, f, g), (h, i, j, k, l, m, n), (o, p, q, r, (), (), ()), (s, t, u, v, w, [], x), 0)).bind fun ((y, z, a1, b1, _, _, _), c1, d1, e1, f1, g1, h1, i1) => some (c1, d1, e1, f1, g1, h1, i1)
def Ko_n31 : NEnt := ⟨⟨89, [⟨2, .box, cc17⟩, ⟨3, .box, cc17⟩, ⟨4, .box, cc23⟩, ⟨5, .box, cc19⟩]⟩, [(.ret, ⟨89, [⟨4, .box, cc16⟩]⟩)], Ko_l31⟩
def Ko_l15 : t39 × t39 × t24 × Int × Int × Int × Int × List Int × Unit × List (List Int) → Option t39
 | ((a, b, c, d, e, f, g), (h, i, j, k, l, m, n), (o, p, q, r, _, _, _), s, t, u, v, w, _, x) => bif h == 0 then (Ko_l31 ((a, b, c, d, e, f, g), (h, i, j, k, l, m, n), (o, p, q, r, (), (), ()), s, t, c, v, w, (), x)).bind fun (y, z, a1, b1, c1, d1, e1) => some (y, z, a1, b1, c1, d1, e1) else (Ko_l31 ((a, b, c, d, e, f, g), (h, i, j, k, l, m, n), (o, p, q, r, (), (), ()), s, t, u, v, w, (), x)).bind fun (y, z, a1, b1, c1, d1, e1) => some (y, z, a1, b1, c1, d1, e1)
def Ko_n15 : NEnt := ⟨⟨89, [⟨2, .box, cc17⟩, ⟨3, .box, cc17⟩, ⟨4, .box, cc23⟩, ⟨5, .box, cc19⟩]⟩, [(.ret, ⟨89, [⟨4, .box, cc16⟩]⟩)], Ko_l15⟩
def Ko : t39 × t39 → Option t39
 | ((a, b, c, d, e, f, g), h, i, j, k, l, m, n) => (Kce (a, h)).bind fun o => (Kce (b, i)).bind fun p => (Km (c, j)).bind fun q => (Kbd (d, k)).bind fun r => (Kbf (e, l)).bind fun s => chk (decide (0 < g.length)) (chk (decide (0 < n.length)) ((Kbf (List.getD g 0 [], List.getD n 0 [])).bind fun t => chk (decide (1 < g.length)) (chk (decide (1 < n.length)) ((Kbf (List.getD g 1 [], List.getD n 1 [])).bind fun u => bif a == 0 then (Ko_l15 ((a, b, c, d, e, f, g), (h, i, j, k, l, m, n), (0, 0, 0, 0, (), (), ()), o, p, j, r, s, (), [t, u])).bind fun (v, w, x, y, z, a1, b1) => some (v, w, x, y, z, a1, b1) else (Ko_l15 ((a, b, c, d, e, f, g), (h, i, j, k, l, m, n), (0, 0, 0, 0, (), (), ()), o, p, q, r, s, (), [t, u])).bind fun (v, w, x, y, z, a1, b1) => some (v, w, x, y, z, a1, b1)))))
def Ko_e : FEnt := ⟨85, [.cell 4 true 7], [], [(.agg, cc17), (.agg, cc17)], ⟨89, [⟨4, .box, cc16⟩]⟩, Ko⟩
theorem Ko_ok : FnOk Tryz.prog 96 Ko_e := fnOk_mk (tb := [(250, Ko_n250), (31, Ko_n31), (15, Ko_n15)]) (c := (Tryz.f96.body).getD .skip) mixed Tryz.func96 (bC Kce_ok (bC Km_ok (bC Kbd_ok (bC Kbf_ok bN)))) (by kernel_rfl) (by kernel_rfl) (by kernel_rfl) ⟨nodeLoop (by kernel_rfl) Ko_s250 (by kernel_rfl) (by intro d; kernel_rfl), nodeJoin (by kernel_rfl) (by intro d; kernel_rfl), nodeJoin (by kernel_rfl) (by intro d; kernel_rfl), trivial⟩ (by intro d; kernel_rfl)
def Kdl : t55 × t55 → Option t55
 | ((a, b, c, d, e, f, g, h, i, j), k, l, m, n, o, p, q, r, s, t) => (Kan (c, m)).bind fun u => (Ko ((d, e, f, g, h, i, j), n, o, p, q, r, s, t)).bind fun (v, w, x, y, z, a1, b1) => some (a, b, u, v, w, x, y, z, a1, b1)
def Kdl_e : FEnt := ⟨20, [.cell 4 true 10], [], [(.agg, cc15), (.agg, cc15)], ⟨24, [⟨4, .box, cc13⟩]⟩, Kdl⟩
theorem Kdl_ok : FnOk Tryz.prog 166 Kdl_e := fnOk_mk (tb := []) (c := (Tryz.f166.body).getD .skip) mixed Tryz.func166 (bC Kan_ok (bC Ko_ok bN)) (by kernel_rfl) (by kernel_rfl) (by kernel_rfl) trivial (by intro d; kernel_rfl)
def Kz_l1865 : t99 → Option t99
 | ((_, _, _), (a, b, c, d, e, f, g, h, i, j), k, l, m) => ix l m.length (lx l m.length ((some (gx m l (0, 0, [], 0, 0, 0, 0, [], [], []))).bind fun (n, o, p, q, r, s, t, u, v, w) => bif decide (n > a) then some (((), (), ()), (a, b, c, d, e, f, g, h, i, j), l, l, m) else ix l m.length (lx l m.length ((some (gx m l (0, 0, [], 0, 0, 0, 0, [], [], []))).bind fun (x, y, z, a1, b1, c1, d1, e1, f1, g1) => bif x == a then ix l m.length (lx l m.length ((some (gx m l (0, 0, [], 0, 0, 0, 0, [], [], []))).bind fun (h1, i1, j1, k1, l1, m1, n1, o1, p1, q1) => bif decide (i1 > b) then some (((), (), ()), (a, b, c, d, e, f, g, h, i, j), l, l, m) else some (((), (), ()), (a, b, c, d, e, f, g, h, i, j), k, l, m))) else some (((), (), ()), (a, b, c, d, e, f, g, h, i, j), k, l, m)))))
def Kz_n1865 : NEnt := ⟨⟨93, [⟨0, .one, cc30⟩, ⟨3, .box, cc15⟩, ⟨5, .one, [.dat kI]⟩, ⟨6, .one, [.dat kI]⟩, ⟨89, .agg, [.own true kk5]⟩]⟩, [(.normal, ⟨93, [⟨0, .one, cc30⟩, ⟨3, .box, cc15⟩, ⟨5, .one, [.dat kI]⟩, ⟨6, .one, [.dat kI]⟩, ⟨89, .agg, [.own true kk5]⟩]⟩)], Kz_l1865⟩
def Kz_s58 : t99 → Option (t99 ⊕ t65 ⊕ (Unit × Unit × Unit) × t55 × t64)
 | ((_, _, _), (a, b, c, d, e, f, g, h, i, j), k, l, m) => bif decide (l ≥ 0) then ix l m.length (lx l m.length ((some (gx m l (0, 0, [], 0, 0, 0, 0, [], [], []))).bind fun (n, o, p, q, r, s, t, u, v, w) => bif n == a then ix l m.length (lx l m.length ((some (gx m l (0, 0, [], 0, 0, 0, 0, [], [], []))).bind fun (x, y, z, a1, b1, c1, d1, e1, f1, g1) => bif y == b then ix l m.length (lx l m.length ((some (gx m l (0, 0, [], 0, 0, 0, 0, [], [], []))).bind fun (h1, i1, j1, k1, l1, m1, n1, o1, p1, q1) => (Kdl ((h1, i1, (gx m l (0, 0, [], 0, 0, 0, 0, [], [], [])).2.2.1, k1, l1, m1, n1, (gx m l (0, 0, [], 0, 0, 0, 0, [], [], [])).2.2.2.2.2.2.2.1, (gx m l (0, 0, [], 0, 0, 0, 0, [], [], [])).2.2.2.2.2.2.2.2.1, (gx m l (0, 0, [], 0, 0, 0, 0, [], [], [])).2.2.2.2.2.2.2.2.2), a, b, c, d, e, f, g, h, i, j)).bind fun (r1, s1, t1, u1, v1, w1, x1, y1, z1, a2) => ix l m.length (lx l m.length ((some (sx m l (r1, s1, t1, u1, v1, w1, x1, y1, z1, a2))).bind fun b2 => some (.inr (.inl (b2, ()))))))) else (Kz_l1865 (((), (), ()), (a, b, c, d, e, f, g, h, i, j), k, l, m)).bind fun ((_, _, _), (h1, i1, j1, k1, l1, m1, n1, o1, p1, q1), r1, s1, t1) => some (.inl (((), (), ()), (h1, i1, j1, k1, l1, m1, n1, o1, p1, q1), r1, w64 (s1 - 1), t1)))) else (Kz_l1865 (((), (), ()), (a, b, c, d, e, f, g, h, i, j), k, l, m)).bind fun ((_, _, _), (x, y, z, a1, b1, c1, d1, e1, f1, g1), h1, i1, j1) => some (.inl (((), (), ()), (x, y, z, a1, b1, c1, d1, e1, f1, g1), h1, w64 (i1 - 1), j1)))) else some (.inr (.inr (((), (), ()), (a, b, c, d, e, f, g, h, i, j), k, m)))
def Kz_n58 : NEnt := ⟨⟨93, [⟨0, .one, cc30⟩, ⟨3, .box, cc15⟩, ⟨5, .one, [.dat kI]⟩, ⟨6, .one, [.dat kI]⟩, ⟨89, .agg, [.own true kk5]⟩]⟩, [(.ret, ⟨93, [⟨4, .one, [.own true kk5]⟩, ⟨89, .agg, [.dead]⟩]⟩), (.exit 0, ⟨93, [⟨0, .one, cc30⟩, ⟨3, .box, cc15⟩, ⟨5, .one, [.dat kI]⟩, ⟨89, .agg, [.own true kk5]⟩]⟩)], lp Kz_s58⟩
def Kz : List t55 × t55 → Option t65
 | (a, b, c, d, e, f, g, h, i, j, k) => bx (lp Kz_s58 (((), (), ()), (b, c, d, e, f, g, h, i, j, k), ln a, w64 ((ln a) - 1), a)) (fun (l, _) => some (l, ())) fun ((_, _, _), (l, m, n, o, p, q, r, s, t, u), v, w) => g0 v (chk (decide ((0 ≤ v.toNat) ∧ (v.toNat ≤ w.length))) (chk (fits (0 + (List.take v.toNat w).length) 144) ((some ([] ++ (List.take v.toNat w))).bind fun x => (Kcj (l, m, n, o, p, q, r, s, t, u)).bind fun (y, z, a1, b1, c1, d1, e1, f1, g1, h1) => (some [(y, z, a1, b1, c1, d1, e1, f1, g1, h1)]).bind fun i1 => chk (fits (x.length + i1.length) 144) ((some (x ++ i1)).bind fun j1 => g0 v (chk (decide ((v.toNat ≤ w.length) ∧ (w.length ≤ w.length))) (chk (fits (j1.length + (List.drop v.toNat w).length) 144) ((some (j1 ++ (List.drop v.toNat w))).bind fun k1 => some (k1, ()))))))))
def Kz_e : FEnt := ⟨89, [.tmp 4], [true, false], [(.one, [.own true kk5]), (.agg, cc15)], ⟨93, [⟨4, .one, [.own false kk5]⟩, ⟨89, .agg, [.dead]⟩]⟩, Kz⟩
theorem Kz_ok : FnOk Tryz.prog 123 Kz_e := fnOk_mk (tb := [(1865, Kz_n1865), (58, Kz_n58)]) (c := (Tryz.f123.body).getD .skip) mixed Tryz.func123 (bC Kdl_ok (bC Kcj_ok bN)) (by kernel_rfl) (by kernel_rfl) (by kernel_rfl) ⟨nodeJoin (by kernel_rfl) (by intro d; kernel_rfl), nodeLoop (by kernel_rfl) Kz_s58 (by kernel_rfl) (by intro d; kernel_rfl), trivial⟩ (by intro d; kernel_rfl)
def Kek : List t55 × t55 → Option t65
 | (a, b, c, d, e, f, g, h, i, j, k) => (Kz (a, b, c, d, e, f, g, h, i, j, k)).bind fun (l, _) => some (l, ())
def Kek_e : FEnt := ⟨8, [.tmp 4], [true, false], [(.one, [.own true kk5]), (.agg, cc15)], ⟨12, [⟨4, .one, [.own false kk5]⟩, ⟨8, .agg, [.dead]⟩]⟩, Kek⟩
theorem Kek_ok : FnOk Tryz.prog 201 Kek_e := fnOk_mk (tb := []) (c := (Tryz.f201.body).getD .skip) mixed Tryz.func201 (bC Kz_ok bN) (by kernel_rfl) (by kernel_rfl) (by kernel_rfl) trivial (by intro d; kernel_rfl)
def Kef : t22 × Int × Int → Option (t22 × Bool)
 | ((a, b, c, d, e), f, g) => (Kca (a, b, c, d, e)).bind fun (h, i, j, k, l) => (Kbs ((a, b, c, d, e), f)).bind fun m => bif !m then some ((h, i, j, k, l), false) else (Kb (g, 0, 60)).bind fun n => bif !n then some ((h, i, j, k, l), false) else (Kbs ((h, i, j, w64 (d + g), l), f)).bind fun o => bif !o then (Kca (a, b, c, d, e)).bind fun (p, q, r, s, t) => some ((p, q, r, s, t), false) else some ((h, i, j, w64 (d + g), l), true)
def Kef_e : FEnt := ⟨33, [.cell 6 true 5, .tmp 7], [], [(.agg, cc24), (.one, [.dat kI]), (.one, [.dat kI])], ⟨39, [⟨6, .box, cc22⟩, ⟨7, .one, [.dat .bool]⟩]⟩, Kef⟩
theorem Kef_ok : FnOk Tryz.prog 202 Kef_e := fnOk_mk (tb := []) (c := (Tryz.f202.body).getD .skip) mixed Tryz.func202 (bC Kca_ok (bC Kbs_ok (bC Kb_ok bN))) (by kernel_rfl) (by kernel_rfl) (by kernel_rfl) trivial (by intro d; kernel_rfl)
def Kel : t129 → Option (t129 × Bool)
 | (a, b, c, d, e, f, g, h, i, j, k, l, m, n, o, p) => (Kej (a, b, c, d, e, f, g, h, i, j, k, l, m, n, o, p)).bind fun (q, r, s, t, u, v, w, x, y, z, a1, b1, c1, d1, e1, f1, g1, h1) => bif decide (q < 0) then (Ka (a, b, c, d, e, f, g, h, i, j, k, l, m, n, o, p)).bind fun (i1, j1, k1, l1, m1, n1, o1, p1, q1, r1, s1, t1, u1, v1, w1, x1) => some ((i1, j1, k1, l1, m1, n1, o1, p1, q1, r1, s1, t1, u1, v1, w1, x1), false) else ix q d1.length (lx q d1.length (ix r (gx d1 q []).length (lx r (gx d1 q []).length ((Kee (gx (gx d1 q []) r [])).bind fun ((i1, j1, k1, l1, m1, n1, o1, p1, q1, r1), s1, t1, u1) => (some (sx d1 q (sx (gx d1 q []) r u1))).bind fun v1 => ix q v1.length (lx q v1.length (ix r (gx v1 q []).length (lx r (gx v1 q []).length ((some (sx v1 q (sx (gx v1 q []) r s1))).bind fun w1 => (Kek (g1, i1, j1, k1, l1, m1, n1, o1, p1, q1, r1)).bind fun (x1, _) => ix q c1.length (lx q c1.length ((some (gx c1 q (0, 0, [], 0, 0))).bind fun (y1, z1, a2, b2, c2) => (Kak k1).bind fun d2 => (Kef ((y1, z1, (gx c1 q (0, 0, [], 0, 0)).2.2.1, b2, c2), s, d2)).bind fun ((e2, f2, g2, h2, i2), j2) => bif !b1 then (Kct ((e2, f2, g2, h2, i2), s)).bind fun (k2, l2, m2, n2, o2) => ix q c1.length (lx q c1.length ((some (sx c1 q (k2, l2, m2, n2, o2))).bind fun p2 => some ((s, t, u, v, w, x, y, z, a1, b1, p2, w1, e1, f1, x1, h1), true))) else ix q c1.length (lx q c1.length ((some (sx c1 q (e2, f2, g2, h2, i2))).bind fun k2 => some ((s, t, u, v, w, x, y, z, a1, b1, k2, w1, e1, f1, x1, h1), true)))))))))))))
def Kel_e : FEnt := ⟨77, [.cell 2 true 16, .tmp 3], [], [(.agg, cc7)], ⟨79, [⟨2, .box, cc1⟩, ⟨3, .one, [.dat .bool]⟩]⟩, Kel⟩
theorem Kel_ok : FnOk Tryz.prog 158 Kel_e := fnOk_mk (tb := []) (c := (Tryz.f158.body).getD .skip) mixed Tryz.func158 (bC Kej_ok (bC Ka_ok (bC Kee_ok (bC Kek_ok (bC Kak_ok (bC Kef_ok (bC Kct_ok bN))))))) (by kernel_rfl) (by kernel_rfl) (by kernel_rfl) trivial (by intro d; kernel_rfl)
def Ked : t129 → Option (t129 × Bool)
 | (a, b, c, d, e, f, g, h, i, j, k, l, m, n, o, p) => (Ke (a, b, c, d, e, f, g, h, i, j, k, l, m, n, o, p)).bind fun q => bif !q then (Ka (a, b, c, d, e, f, g, h, i, j, k, l, m, n, o, p)).bind fun (r, s, t, u, v, w, x, y, z, a1, b1, c1, d1, e1, f1, g1) => some ((r, s, t, u, v, w, x, y, z, a1, b1, c1, d1, e1, f1, g1), false) else (Kel (a, b, c, d, e, f, g, h, i, j, k, l, m, n, o, p)).bind fun ((r, s, t, u, v, w, x, y, z, a1, b1, c1, d1, e1, f1, g1), h1) => some ((r, s, t, u, v, w, x, y, z, a1, b1, c1, d1, e1, f1, g1), h1)
def Ked_e : FEnt := ⟨13, [.cell 2 true 16, .tmp 3], [], [(.agg, cc7)], ⟨15, [⟨2, .box, cc1⟩, ⟨3, .one, [.dat .bool]⟩]⟩, Ked⟩
theorem Ked_ok : FnOk Tryz.prog 152 Ked_e := fnOk_mk (tb := []) (c := (Tryz.f152.body).getD .skip) mixed Tryz.func152 (bC Ke_ok (bC Ka_ok (bC Kel_ok bN))) (by kernel_rfl) (by kernel_rfl) (by kernel_rfl) trivial (by intro d; kernel_rfl)
def Keb : t32 × Int → Option Int
 | ((a, b, c, d, e, f, g, h), i) => (Kcr (a, b, c, d, e, f, g, h)).bind fun j => bif !j then some (-1) else (Kb (i, 0, 20)).bind fun k => bif !k then some (-1) else some (w64 ((w64 (f * (w64 (i + 1)))) + g))
def Keb_e : FEnt := ⟨21, [.tmp 4], [], [(.agg, cc18), (.one, [.dat kI])], ⟨25, [⟨4, .one, [.dat kI]⟩]⟩, Keb⟩
theorem Keb_ok : FnOk Tryz.prog 198 Keb_e := fnOk_mk (tb := []) (c := (Tryz.f198.body).getD .skip) mixed Tryz.func198 (bC Kcr_ok (bC Kb_ok bN)) (by kernel_rfl) (by kernel_rfl) (by kernel_rfl) trivial (by intro d; kernel_rfl)
def Kbw_s122 : Bool × t129 × t59 × t133 → Option (Bool × t129 × t59 × t133 ⊕ t59 × t129 × List t55)
 | (a, (b, c, d, e, f, g, h, i, j, k, l, m, n, o, p, q), (r, s, t, _, u, v, w, x, y, z, _, _, _, a1, _, _), (b1, c1, d1, e1, f1, g1, h1, i1, j1, k1, l1, m1, n1, o1, p1, q1), r1, s1) => (some (decide (s1 < (ln p1)))).bind fun t1 => bif t1 then ix s1 p1.length (lx s1 p1.length ((some (gx p1 s1 (0, 0, [], 0, 0, 0, 0, [], [], []))).bind fun (u1, v1, w1, x1, y1, z1, a2, b2, c2, d2) => bif a then (Kat (q1, u1, v1)).bind fun e2 => (some [(e2, u1, v1, w1, x1, y1, z1, a2, b2, c2, d2)]).bind fun f2 => chk (fits (q1.length + f2.length) 152) ((some (q1 ++ f2)).bind fun g2 => some (.inl (a, (b, c, d, e, f, g, h, i, j, k, l, m, n, o, p, q), (r, s, t, (), u, v, w, x, y, z, (), (), (), a1, (), ()), (b1, c1, d1, e1, f1, g1, h1, i1, j1, k1, l1, m1, n1, o1, p1, g2), r1, w64 (s1 + 1)))) else (Keb ((b, c, d, e, f, g, h, i), v1)).bind fun e2 => bif decide (e2 ≤ j) then (Kat (q1, u1, v1)).bind fun f2 => (some [(f2, u1, v1, w1, x1, y1, z1, a2, b2, c2, d2)]).bind fun g2 => chk (fits (q1.length + g2.length) 152) ((some (q1 ++ g2)).bind fun h2 => some (.inl (a, (b, c, d, e, f, g, h, i, j, k, l, m, n, o, p, q), (r, s, t, (), u, v, w, x, y, z, (), (), (), a1, (), ()), (b1, c1, d1, e1, f1, g1, h1, i1, j1, k1, l1, m1, n1, o1, p1, h2), r1, w64 (s1 + 1)))) else (some [(u1, v1, w1, x1, y1, z1, a2, b2, c2, d2)]).bind fun f2 => chk (fits (r1.length + f2.length) 144) ((some (r1 ++ f2)).bind fun g2 => some (.inl (a, (b, c, d, e, f, g, h, i, j, k, l, m, n, o, p, q), (r, s, t, (), u, v, w, x, y, z, (), (), (), a1, (), ()), (b1, c1, d1, e1, f1, g1, h1, i1, j1, k1, l1, m1, n1, o1, p1, q1), g2, w64 (s1 + 1)))))) else some (.inr ((r, s, t, (), u, v, w, x, y, z, (), (), (), a1, (), ()), (b1, c1, d1, e1, f1, g1, h1, i1, j1, k1, l1, m1, n1, o1, p1, q1), r1))
def Kbw_n122 : NEnt := ⟨⟨60, [⟨1, .one, [.dat .bool]⟩, ⟨2, .box, cc7⟩, ⟨4, .box, cc12⟩, ⟨5, .box, cc2⟩, ⟨6, .one, [.own false kk5]⟩, ⟨7, .one, [.dat kI]⟩]⟩, [(.exit 0, ⟨60, [⟨4, .box, cc12⟩, ⟨5, .box, cc2⟩, ⟨6, .one, [.own false kk5]⟩]⟩)], lp Kbw_s122⟩
def Kbw : t129 × Bool → Option t129
 | ((a, b, c, d, e, f, g, h, i, j, k, l, m, n, o, p), q) => (Ka (a, b, c, d, e, f, g, h, i, j, k, l, m, n, o, p)).bind fun (r, s, t, u, v, w, x, y, z, a1, b1, c1, d1, e1, f1, g1) => (lp Kbw_s122 (q, (a, b, c, d, e, f, g, h, i, j, k, l, m, n, o, p), (0, 0, 0, (), 0, 0, 0, 0, 0, false, (), (), (), 0, (), ()), (r, s, t, u, v, w, x, y, z, a1, b1, c1, d1, e1, f1, g1), [], 0)).bind fun ((h1, i1, j1, _, k1, l1, m1, n1, o1, p1, _, _, _, q1, _, _), (r1, s1, t1, u1, v1, w1, x1, y1, z1, a2, b2, c2, d2, e2, f2, g2), h2) => some (r1, s1, t1, u1, v1, w1, x1, y1, z1, a2, b2, c2, d2, e2, h2, g2)
def Kbw_e : FEnt := ⟨56, [.cell 4 true 16], [], [(.agg, cc7), (.one, [.dat .bool])], ⟨60, [⟨4, .box, cc2⟩]⟩, Kbw⟩
theorem Kbw_ok : FnOk Tryz.prog 157 Kbw_e := fnOk_mk (tb := [(122, Kbw_n122)]) (c := (Tryz.f157.body).getD .skip) mixed Tryz.func157 (bC Ka_ok (bC Keb_ok (bC Kat_ok bN))) (by kernel_rfl) (by kernel_rfl) (by kernel_rfl) ⟨nodeLoop (by kernel_rfl) Kbw_s122 (by kernel_rfl) (by intro d; kernel_rfl), trivial⟩ (by intro d; kernel_rfl)
def Kem : List (Int × Int) → Option Int
 | a => bif (ln a) == 0 then some 0 else ix (w64 ((ln a) - 1)) a.length ((some (gx a (w64 ((ln a) - 1)) (0, 0))).bind fun (b, c) => some c)
def Kem_e : FEnt := ⟨13, [.tmp 2], [], [(.one, [.dat kk10])], ⟨15, [⟨2, .one, [.dat kI]⟩]⟩, Kem⟩
theorem Kem_ok : FnOk Tryz.prog 187 Kem_e := fnOk_mk (tb := []) (c := (Tryz.f187.body).getD .skip) mixed Tryz.func187 bN (by kernel_rfl) (by kernel_rfl) (by kernel_rfl) trivial (by intro d; kernel_rfl)
def Keg : t22 × Int → Option t22
 | ((a, b, c, d, e), f) => (Kca (a, b, c, d, e)).bind fun (g, h, i, j, k) => (Kbs ((a, b, c, d, e), f)).bind fun l => bif !l then some (g, h, i, j, k) else bif a == 1000 then some (g, h, i, j, k) else bif decide ((ln c) > 0) then ix (w64 ((ln c) - 1)) c.length ((some (gx c (w64 ((ln c) - 1)) (0, 0))).bind fun (m, n) => some (w64 (a + 1), n, i, j, k)) else some (w64 (a + 1), 0, i, j, k)
def Keg_e : FEnt := ⟨38, [.cell 4 true 5], [], [(.agg, cc24), (.one, [.dat kI])], ⟨42, [⟨4, .box, cc22⟩]⟩, Keg⟩
theorem Keg_ok : FnOk Tryz.prog 188 Keg_e := fnOk_mk (tb := []) (c := (Tryz.f188.body).getD .skip) mixed Tryz.func188 (bC Kca_ok (bC Kbs_ok bN)) (by kernel_rfl) (by kernel_rfl) (by kernel_rfl) trivial (by intro d; kernel_rfl)
def Kbk_s506 : t59 × t130 → Option (t59 × t130 ⊕ t59 × t129)
 | ((a, b, c, _, d, e, f, g, h, i, _, _, _, j, _, _), (k, l, m, n, o, p, q, r, s, t, u, v, w, x, y, z), a1) => bif decide (a1 < 3) then bif !t then ix a1 u.length (lx a1 u.length ((some (gx u a1 (0, 0, [], 0, 0))).bind fun (b1, c1, d1, e1, f1) => bif decide ((w64 (s - f1)) > r) then (Kem (gx u a1 (0, 0, [], 0, 0)).2.2.1).bind fun g1 => bif decide (c1 > g1) then (Keg ((b1, c1, (gx u a1 (0, 0, [], 0, 0)).2.2.1, e1, f1), k)).bind fun (h1, i1, j1, k1, l1) => ix a1 u.length (lx a1 u.length ((some (sx u a1 (h1, i1, j1, k1, s))).bind fun m1 => some (.inl ((a, b, c, (), d, e, f, g, h, i, (), (), (), j, (), ()), (k, l, m, n, o, p, q, r, s, t, m1, v, w, x, y, z), w64 (a1 + 1))))) else some (.inl ((a, b, c, (), d, e, f, g, h, i, (), (), (), j, (), ()), (k, l, m, n, o, p, q, r, s, t, u, v, w, x, y, z), w64 (a1 + 1))) else some (.inl ((a, b, c, (), d, e, f, g, h, i, (), (), (), j, (), ()), (k, l, m, n, o, p, q, r, s, t, u, v, w, x, y, z), w64 (a1 + 1))))) else some (.inr ((a, b, c, (), d, e, f, g, h, i, (), (), (), j, (), ()), k, l, m, n, o, p, q, r, s, t, u, v, w, x, y, z)) else some (.inr ((a, b, c, (), d, e, f, g, h, i, (), (), (), j, (), ()), k, l, m, n, o, p, q, r, s, t, u, v, w, x, y, z))
def Kbk_n506 : NEnt := ⟨⟨70, [⟨2, .box, cc12⟩, ⟨3, .box, cc2⟩, ⟨4, .one, [.dat kI]⟩]⟩, [(.exit 0, ⟨70, [⟨2, .box, cc12⟩, ⟨3, .box, cc2⟩]⟩)], lp Kbk_s506⟩
def Kbk : t129 → Option t129
 | (a, b, c, d, e, f, g, h, i, j, k, l, m, n, o, p) => (Ka (a, b, c, d, e, f, g, h, i, j, k, l, m, n, o, p)).bind fun (q, r, s, t, u, v, w, x, y, z, a1, b1, c1, d1, e1, f1) => (Ke (a, b, c, d, e, f, g, h, i, j, k, l, m, n, o, p)).bind fun g1 => bif !g1 then some (q, r, s, t, u, v, w, x, y, z, a1, b1, c1, d1, e1, f1) else bif i == 100000 then some (q, r, s, t, u, v, w, x, y, z, a1, b1, c1, d1, e1, f1) else (Kbw ((q, r, s, t, u, v, w, x, w64 (y + 1), z, a1, b1, c1, d1, e1, f1), false)).bind fun (h1, i1, j1, k1, l1, m1, n1, o1, p1, q1, r1, s1, t1, u1, v1, w1) => (lp Kbk_s506 ((0, 0, 0, (), 0, 0, 0, 0, 0, false, (), (), (), 0, (), ()), (h1, i1, j1, k1, l1, m1, n1, o1, p1, q1, r1, s1, t1, u1, v1, w1), 0)).bind fun ((x1, y1, z1, _, a2, b2, c2, d2, e2, f2, _, _, _, g2, _, _), h2, i2, j2, k2, l2, m2, n2, o2, p2, q2, r2, s2, t2, u2, v2, w2) => some (h2, i2, j2, k2, l2, m2, n2, o2, p2, q2, r2, s2, t2, u2, v2, w2)
def Kbk_e : FEnt := ⟨68, [.cell 2 true 16], [], [(.agg, cc7)], ⟨70, [⟨2, .box, cc2⟩]⟩, Kbk⟩
theorem Kbk_ok : FnOk Tryz.prog 153 Kbk_e := fnOk_mk (tb := [(506, Kbk_n506)]) (c := (Tryz.f153.body).getD .skip) mixed Tryz.func153 (bC Ka_ok (bC Ke_ok (bC Kbw_ok (bC Kem_ok (bC Keg_ok bN))))) (by kernel_rfl) (by kernel_rfl) (by kernel_rfl) ⟨nodeLoop (by kernel_rfl) Kbk_s506 (by kernel_rfl) (by intro d; kernel_rfl), trivial⟩ (by intro d; kernel_rfl)
def Kbg_s122 : Unit × List Int × t13 → Option (Unit × List Int × t13 ⊕ t11)
 | (_, a, b, c, d, e, f) => bif decide (c < b) then (Kcl (d, e, f)).bind fun (g, h, i, j) => (some [0, 1, 7, 8, 100, 5000, 1000000, g, 1000001, (-1)]).bind fun k => (Kn ((h, i, j), k)).bind fun (l, m, n, o) => chk (fits (a.length + [l].length) 8) (some (.inl ((), a ++ [l], b, w64 (c + 1), m, n, o))) else some (.inr (a, d, e, f))
def Kbg_n122 : NEnt := ⟨⟨25, [⟨0, .one, [.bptr 24 0]⟩, ⟨3, .one, [.own true kI]⟩, ⟨4, .one, [.dat kI]⟩, ⟨5, .one, [.dat kI]⟩, ⟨24, .box, cc28⟩]⟩, [(.exit 0, ⟨25, [⟨3, .one, [.own true kI]⟩, ⟨24, .box, cc28⟩]⟩)], lp Kbg_s122⟩
def Kbg : List Int × Int × Int → Option t11
 | (a, b, c) => (Kg ((a, b, c), 6)).bind fun (d, e, f, g) => (lp Kbg_s122 ((), [], d, 0, e, f, g)).bind fun (h, i, j, k) => some (h, i, j, k)
def Kbg_e : FEnt := ⟨23, [.tmp 2], [true], [(.box, cc28)], ⟨25, [⟨2, .one, [.own true kI]⟩, ⟨24, .box, cc28⟩]⟩, Kbg⟩
theorem Kbg_ok : FnOk Tryz.prog 190 Kbg_e := fnOk_mk (tb := [(122, Kbg_n122)]) (c := (Tryz.f190.body).getD .skip) mixed Tryz.func190 (bC Kg_ok (bC Kcl_ok (bC Kn_ok bN))) (by kernel_rfl) (by kernel_rfl) (by kernel_rfl) ⟨nodeLoop (by kernel_rfl) Kbg_s122 (by kernel_rfl) (by intro d; kernel_rfl), trivial⟩ (by intro d; kernel_rfl)
def Kdg : Unit → Option t39
 | _ => some (0, 0, 0, 0, List.replicate 8 0, List.replicate 8 0, [List.replicate 4 0, List.replicate 4 0])
def Kdg_e : FEnt := ⟨7, [.cell 0 true 7], [], [], ⟨7, [⟨0, .box, cc16⟩]⟩, Kdg⟩
theorem Kdg_ok : FnOk Tryz.prog 95 Kdg_e := fnOk_mk (tb := []) (c := (Tryz.f95.body).getD .skip) mixed Tryz.func95 bN (by kernel_rfl) (by kernel_rfl) (by kernel_rfl) trivial (by intro d; kernel_rfl)
def Kbj_s60 : Int × Int → Option (Int × Int ⊕ Int)
 | (a, b) => bif decide (a > 0) then some (.inl (w64 (Int.tdiv a 2), w64 (b + 1))) else some (.inr b)
def Kbj_n60 : NEnt := ⟨⟨18, [⟨3, .one, [.dat kI]⟩, ⟨4, .one, [.dat kI]⟩]⟩, [(.exit 0, ⟨18, [⟨4, .one, [.dat kI]⟩]⟩)], lp Kbj_s60⟩
def Kbj : Int → Option Int
 | a => (Kcm (a, 1000000)).bind fun b => (lp Kbj_s60 (b, 0)).bind fun c => some (w64 (Int.tdiv (w64 (c + 2)) 3))
def Kbj_e : FEnt := ⟨16, [.tmp 2], [], [(.one, [.dat kI])], ⟨18, [⟨2, .one, [.dat kI]⟩]⟩, Kbj⟩
theorem Kbj_ok : FnOk Tryz.prog 229 Kbj_e := fnOk_mk (tb := [(60, Kbj_n60)]) (c := (Tryz.f229.body).getD .skip) mixed Tryz.func229 (bC Kcm_ok bN) (by kernel_rfl) (by kernel_rfl) (by kernel_rfl) ⟨nodeLoop (by kernel_rfl) Kbj_s60 (by kernel_rfl) (by intro d; kernel_rfl), trivial⟩ (by intro d; kernel_rfl)
def Kcy : Int → Option Int
 | a => (Kcm (a, 1000000)).bind fun b => (some (w64 (Int.ofNat (BitVec.toNat (BitVec.ofInt (64 : Nat) (Int.tmod (IntKind.wrap IntKind.i64 (IntKind.wrap IntKind.i64 (b * (40503 : Int)) + (12345 : Int))) (65536 : Int)) ^^^ BitVec.ofInt (64 : Nat) (IntKind.wrap IntKind.i64 (Int.tdiv (Int.tmod (IntKind.wrap IntKind.i64 (IntKind.wrap IntKind.i64 (b * (40503 : Int)) + (12345 : Int))) (65536 : Int)) (256 : Int)))))))).bind fun c => some c
def Kcy_e : FEnt := ⟨13, [.tmp 2], [], [(.one, [.dat kI])], ⟨15, [⟨2, .one, [.dat kI]⟩]⟩, Kcy⟩
theorem Kcy_ok : FnOk Tryz.prog 230 Kcy_e := fnOk_mk (tb := []) (c := (Tryz.f230.body).getD .skip) mixed Tryz.func230 (bC Kcm_ok bN) (by kernel_rfl) (by kernel_rfl) (by kernel_rfl) trivial (by intro d; kernel_rfl)
def Kcg_s124 : Int × Int → Option (Int × Int ⊕ Int)
 | (a, b) => bif (Int.tmod a 2) == 0 then some (.inl (w64 (Int.tdiv a 2), w64 (b + 1))) else some (.inr b)
def Kcg_n124 : NEnt := ⟨⟨19, [⟨3, .one, [.dat kI]⟩, ⟨4, .one, [.dat kI]⟩]⟩, [(.exit 0, ⟨19, [⟨4, .one, [.dat kI]⟩]⟩)], lp Kcg_s124⟩
def Kcg : Int → Option Int
 | a => (Kcy a).bind fun b => bif b == 0 then some 17 else (lp Kcg_s124 (b, 1)).bind fun c => some c
def Kcg_e : FEnt := ⟨17, [.tmp 2], [], [(.one, [.dat kI])], ⟨19, [⟨2, .one, [.dat kI]⟩]⟩, Kcg⟩
theorem Kcg_ok : FnOk Tryz.prog 231 Kcg_e := fnOk_mk (tb := [(124, Kcg_n124)]) (c := (Tryz.f231.body).getD .skip) mixed Tryz.func231 (bC Kcy_ok bN) (by kernel_rfl) (by kernel_rfl) (by kernel_rfl) ⟨nodeLoop (by kernel_rfl) Kcg_s124 (by kernel_rfl) (by intro d; kernel_rfl), trivial⟩ (by intro d; kernel_rfl)
def Kac_s32762 : Int × t70 → Option (Int × t70 ⊕ t66)
 | (a, (b, c, d, e, _, _, _), (f, g, h, i, j, k, l), m) => bif decide (m < 2) then (Kcy a).bind fun n => ix m l.length (lx m l.length (ix m l.length (lx m l.length (ix (Int.tmod (w64 (n + m)) 4) (gx l m []).length (lx (Int.tmod (w64 (n + m)) 4) (gx l m []).length ((Kce (gx (gx l m []) (Int.tmod (w64 (n + m)) 4) 0, 1)).bind fun o => ix (Int.tmod (w64 (n + m)) 4) (gx l m []).length (lx (Int.tmod (w64 (n + m)) 4) (gx l m []).length (some (.inl (a, (b, c, d, e, (), (), ()), (f, g, h, i, j, k, sx l m (sx (gx l m []) (Int.tmod (w64 (n + m)) 4) o)), w64 (m + 1))))))))))) else some (.inr ((b, c, d, e, (), (), ()), f, g, h, i, j, k, l))
def Kac_n32762 : NEnt := ⟨⟨102, [⟨1, .one, [.dat kI]⟩, ⟨4, .box, cc23⟩, ⟨6, .box, cc16⟩, ⟨8, .one, [.dat kI]⟩]⟩, [(.exit 0, ⟨102, [⟨4, .box, cc23⟩, ⟨6, .box, cc16⟩]⟩)], lp Kac_s32762⟩
def Kac_l255 : Int × t39 × t66 → Option (t39 × Bool)
 | (a, (b, c, d, e, f, g, h), (i, j, k, l, _, _, _), m, n, o, p, q, r, s) => (Kbd (e, a)).bind fun t => (Kbj a).bind fun u => (Kbj a).bind fun v => ix v q.length (lx v q.length ((Kce (gx q v 0, 1)).bind fun w => ix u q.length (lx u q.length ((Kcy a).bind fun x => ix (Int.tmod x 8) r.length (lx (Int.tmod x 8) r.length ((Kcg a).bind fun y => (Kbd (gx r (Int.tmod x 8) 0, y)).bind fun z => ix (Int.tmod x 8) r.length (lx (Int.tmod x 8) r.length ((lp Kac_s32762 (a, (i, j, k, l, (), (), ()), (m, n, o, t, sx q u w, sx r (Int.tmod x 8) z, s), 0)).bind fun ((a1, b1, c1, d1, _, _, _), e1, f1, g1, h1, i1, j1, k1) => some ((e1, f1, g1, h1, i1, j1, k1), true)))))))))
def Kac_n255 : NEnt := ⟨⟨102, [⟨1, .one, [.dat kI]⟩, ⟨2, .box, cc17⟩, ⟨4, .box, cc23⟩, ⟨6, .box, cc16⟩]⟩, [(.ret, ⟨102, [⟨4, .box, cc16⟩, ⟨5, .one, [.dat .bool]⟩]⟩)], Kac_l255⟩
def Kac : t44 → Option (t39 × Bool)
 | ((a, b, c, d, e, f, g), h) => (Kaq (a, b, c, d, e, f, g)).bind fun (i, j, k, l, m, n, o) => (Kas (a, b, c, d, e, f, g)).bind fun p => bif !p then some ((i, j, k, l, m, n, o), false) else (Kb (h, 0, 1000000)).bind fun q => bif !q then some ((i, j, k, l, m, n, o), false) else (Kce (a, 1)).bind fun r => (Kce (b, h)).bind fun s => (Km (c, h)).bind fun t => bif a == 0 then (Kac_l255 (h, (a, b, c, d, e, f, g), (0, 0, 0, 0, (), (), ()), r, s, h, l, m, n, o)).bind fun ((u, v, w, x, y, z, a1), b1) => some ((u, v, w, x, y, z, a1), b1) else (Kac_l255 (h, (a, b, c, d, e, f, g), (0, 0, 0, 0, (), (), ()), r, s, t, l, m, n, o)).bind fun ((u, v, w, x, y, z, a1), b1) => some ((u, v, w, x, y, z, a1), b1)
def Kac_e : FEnt := ⟨98, [.cell 4 true 7, .tmp 5], [], [(.agg, cc17), (.one, [.dat kI])], ⟨102, [⟨4, .box, cc16⟩, ⟨5, .one, [.dat .bool]⟩]⟩, Kac⟩
theorem Kac_ok : FnOk Tryz.prog 212 Kac_e := fnOk_mk (tb := [(32762, Kac_n32762), (255, Kac_n255)]) (c := (Tryz.f212.body).getD .skip) mixed Tryz.func212 (bC Kaq_ok (bC Kas_ok (bC Kb_ok (bC Kce_ok (bC Km_ok (bC Kbd_ok (bC Kbj_ok (bC Kcy_ok (bC Kcg_ok bN))))))))) (by kernel_rfl) (by kernel_rfl) (by kernel_rfl) ⟨nodeLoop (by kernel_rfl) Kac_s32762 (by kernel_rfl) (by intro d; kernel_rfl), nodeJoin (by kernel_rfl) (by intro d; kernel_rfl), trivial⟩ (by intro d; kernel_rfl)
def Kbc_s58 : List Int × t70 → Option (List Int × t70 ⊕ t66)
 | (a, (b, c, d, e, _, _, _), (f, g, h, i, j, k, l), m) => bif decide (m < (ln a)) then ix m a.length ((Kac ((f, g, h, i, j, k, l), gx a m 0)).bind fun ((n, o, p, q, r, s, t), u) => some (.inl (a, (b, c, d, e, (), (), ()), (n, o, p, q, r, s, t), w64 (m + 1)))) else some (.inr ((b, c, d, e, (), (), ()), f, g, h, i, j, k, l))
def Kbc_n58 : NEnt := ⟨⟨24, [⟨0, .one, [.dat (.list kI)]⟩, ⟨2, .box, cc23⟩, ⟨3, .box, cc16⟩, ⟨4, .one, [.dat kI]⟩]⟩, [(.exit 0, ⟨24, [⟨2, .box, cc23⟩, ⟨3, .box, cc16⟩]⟩)], lp Kbc_s58⟩
def Kbc : List Int → Option t39
 | a => (Kdg ()).bind fun (b, c, d, e, f, g, h) => (lp Kbc_s58 (a, (0, 0, 0, 0, (), (), ()), (b, c, d, e, f, g, h), 0)).bind fun ((i, j, k, l, _, _, _), m, n, o, p, q, r, s) => some (m, n, o, p, q, r, s)
def Kbc_e : FEnt := ⟨22, [.cell 2 true 7], [], [(.one, [.dat (.list kI)])], ⟨24, [⟨2, .box, cc16⟩]⟩, Kbc⟩
theorem Kbc_ok : FnOk Tryz.prog 189 Kbc_e := fnOk_mk (tb := [(58, Kbc_n58)]) (c := (Tryz.f189.body).getD .skip) mixed Tryz.func189 (bC Kdg_ok (bC Kac_ok bN)) (by kernel_rfl) (by kernel_rfl) (by kernel_rfl) ⟨nodeLoop (by kernel_rfl) Kbc_s58 (by kernel_rfl) (by intro d; kernel_rfl), trivial⟩ (by intro d; kernel_rfl)
def Kcv : List Int × Int × Int → Option (t50 × List Int × Int × Int)
 | (a, b, c) => (Kg ((a, b, c), 8)).bind fun (d, e, f, g) => (Kg ((e, f, g), 2)).bind fun (h, i, j, k) => (Kg ((i, j, k), 2)).bind fun (l, m, n, o) => (Kg ((m, n, o), 3)).bind fun (p, q, r, s) => (Kbg (q, r, s)).bind fun (t, u, v, w) => (Kbc t).bind fun (x, y, z, a1, b1, c1, d1) => some ((w64 (1 + d), h, l, p, x, y, z, a1, b1, c1, d1), u, v, w)
def Kcv_e : FEnt := ⟨16, [.cell 2 true 11], [true], [(.box, cc28)], ⟨18, [⟨2, .box, [.dat kI, .dat kI, .dat kI, .dat kI, .dat kI, .dat kI, .dat kI, .dat kI, .own true kI, .own true kI, .own true (.list kI)]⟩, ⟨17, .box, cc28⟩]⟩, Kcv⟩
theorem Kcv_ok : FnOk Tryz.prog 154 Kcv_e := fnOk_mk (tb := []) (c := (Tryz.f154.body).getD .skip) mixed Tryz.func154 (bC Kg_ok (bC Kbg_ok (bC Kbc_ok bN))) (by kernel_rfl) (by kernel_rfl) (by kernel_rfl) trivial (by intro d; kernel_rfl)
def Kcs : t50 → Option Bool
 | (a, b, c, d, e, f, g, h, i, j, k) => (Kb (a, 1, 60)).bind fun l => bif l then (Kb (b, 0, 1)).bind fun m => bif m then (Kdb (c, d)).bind fun n => bif n then (Kas (e, f, g, h, i, j, k)).bind fun o => some o else some false else some false else some false
def Kcs_e : FEnt := ⟨23, [.tmp 2], [], [(.agg, cc14)], ⟨25, [⟨2, .one, [.dat .bool]⟩]⟩, Kcs⟩
theorem Kcs_ok : FnOk Tryz.prog 204 Kcs_e := fnOk_mk (tb := []) (c := (Tryz.f204.body).getD .skip) mixed Tryz.func204 (bC Kb_ok (bC Kdb_ok (bC Kas_ok bN))) (by kernel_rfl) (by kernel_rfl) (by kernel_rfl) trivial (by intro d; kernel_rfl)
def Kev : t50 → Option Bool
 | (a, b, c, d, e, f, g, h, i, j, k) => bif a == 0 then bif b == 0 then bif c == 0 then bif d == 0 then bif e == 0 then bif f == 0 then bif g == 0 then bif h == 0 then bif (ln i) == 0 then bif (ln j) == 0 then some ((ln k) == 0) else some false else some false else some false else some false else some false else some false else some false else some false else some false else some false
def Kev_e : FEnt := ⟨62, [.tmp 2], [], [(.agg, cc14)], ⟨64, [⟨2, .one, [.dat .bool]⟩]⟩, Kev⟩
theorem Kev_ok : FnOk Tryz.prog 213 Kev_e := fnOk_mk (tb := []) (c := (Tryz.f213.body).getD .skip) mixed Tryz.func213 bN (by kernel_rfl) (by kernel_rfl) (by kernel_rfl) trivial (by intro d; kernel_rfl)
def Kcf_s58 : t79 × Int → Option (t79 × Int ⊕ Bool ⊕ t79)
 | ((a, b, c, d, e, f, g, h, i, j, k, l, m, n, o, p), q) => bif decide (q < (ln e)) then ix q e.length ((some (gx e q (0, 0))).bind fun (r, s) => bif decide (r < 1) then some (.inr (.inl false)) else ix q e.length ((some (gx e q (0, 0))).bind fun (t, u) => bif decide (u > 60) then some (.inr (.inl false)) else some (.inl ((a, b, c, d, e, f, g, h, i, j, k, l, m, n, o, p), w64 (q + 1))))) else some (.inr (.inr (a, b, c, d, e, f, g, h, i, j, k, l, m, n, o, p)))
def Kcf_n58 : NEnt := ⟨⟨66, [⟨1, .box, cc6⟩, ⟨3, .one, [.dat kI]⟩]⟩, [(.ret, ⟨66, [⟨2, .one, [.dat .bool]⟩]⟩), (.exit 0, ⟨66, [⟨1, .box, cc6⟩]⟩)], lp Kcf_s58⟩
def Kcf : t79 → Option Bool
 | (a, b, c, d, e, f, g, h, i, j, k, l, m, n, o, p) => (Kb (a, 0, 3)).bind fun q => bif !q then some false else (Kcp b).bind fun r => bif !r then some false else (Kb (c, 0, 1000)).bind fun s => bif !s then some false else (Kb (d, 0, 60)).bind fun t => bif !t then some false else (Kae e).bind fun u => bif !u then some false else bx (lp Kcf_s58 ((a, b, c, d, e, f, g, h, i, j, k, l, m, n, o, p), 0)) (fun v => some v) fun (v, w, x, y, z, a1, b1, c1, d1, e1, f1, g1, h1, i1, j1, k1) => bif v == 1 then (Kcs (a1, b1, c1, d1, e1, f1, g1, h1, i1, j1, k1)).bind fun l1 => some l1 else (Kev (a1, b1, c1, d1, e1, f1, g1, h1, i1, j1, k1)).bind fun l1 => some l1
def Kcf_e : FEnt := ⟨64, [.tmp 2], [], [(.agg, cc6)], ⟨66, [⟨2, .one, [.dat .bool]⟩]⟩, Kcf⟩
theorem Kcf_ok : FnOk Tryz.prog 191 Kcf_e := fnOk_mk (tb := [(58, Kcf_n58)]) (c := (Tryz.f191.body).getD .skip) mixed Tryz.func191 (bC Kb_ok (bC Kcp_ok (bC Kae_ok (bC Kcs_ok (bC Kev_ok bN))))) (by kernel_rfl) (by kernel_rfl) (by kernel_rfl) ⟨nodeLoop (by kernel_rfl) Kcf_s58 (by kernel_rfl) (by intro d; kernel_rfl), trivial⟩ (by intro d; kernel_rfl)
def Kdj : t130 → Option (Int × t61)
 | ((a, b, c, d, e, f, g, h, i, j, k, l, m, n, o, p), q) => ix q k.length ((some (gx k q (0, 0, [], 0, 0))).bind fun (r, s, t, u, v) => (Kcn t).bind fun w => some (2, q, r, s, w, 0, 0, 0, 0, 0, 0, 0, 0, (), (), ()))
def Kdj_e : FEnt := ⟨20, [.cell 4 true 16], [], [(.agg, cc7), (.one, [.dat kI])], ⟨24, [⟨4, .box, cc9⟩]⟩, Kdj⟩
theorem Kdj_ok : FnOk Tryz.prog 192 Kdj_e := fnOk_mk (tb := []) (c := (Tryz.f192.body).getD .skip) mixed Tryz.func192 (bC Kcn_ok bN) (by kernel_rfl) (by kernel_rfl) (by kernel_rfl) trivial (by intro d; kernel_rfl)
def Kbt_s26 : t8 → Option (t8 ⊕ Bool ⊕ Unit)
 | (a, b, c) => bif decide (c < (ln a)) then ix c a.length ((some (gx a c (0, 0))).bind fun (d, e) => ix c a.length ((some (gx a c (0, 0))).bind fun (f, g) => (Kb (b, d, g)).bind fun h => bif h then some (.inr (.inl true)) else some (.inl (a, b, w64 (c + 1))))) else some (.inr (.inr ()))
def Kbt_n26 : NEnt := ⟨⟨28, [⟨0, .one, [.dat kk10]⟩, ⟨1, .one, [.dat kI]⟩, ⟨5, .one, [.dat kI]⟩]⟩, [(.ret, ⟨28, [⟨4, .one, [.dat .bool]⟩]⟩), (.exit 0, ⟨28, []⟩)], lp Kbt_s26⟩
def Kbt : t0 → Option Bool
 | (a, b) => bx (lp Kbt_s26 (a, b, 0)) (fun c => some c) fun _ => some false
def Kbt_e : FEnt := ⟨24, [.tmp 4], [], [(.one, [.dat kk10]), (.one, [.dat kI])], ⟨28, [⟨4, .one, [.dat .bool]⟩]⟩, Kbt⟩
theorem Kbt_ok : FnOk Tryz.prog 76 Kbt_e := fnOk_mk (tb := [(26, Kbt_n26)]) (c := (Tryz.f76.body).getD .skip) mixed Tryz.func76 (bC Kb_ok bN) (by kernel_rfl) (by kernel_rfl) (by kernel_rfl) ⟨nodeLoop (by kernel_rfl) Kbt_s26 (by kernel_rfl) (by intro d; kernel_rfl), trivial⟩ (by intro d; kernel_rfl)
def Kep : Int → Option (Int × Int)
 | a => some (a, a)
def Kep_e : FEnt := ⟨6, [.cell 2 true 2], [], [(.one, [.dat kI])], ⟨8, [⟨2, .box, cc34⟩]⟩, Kep⟩
theorem Kep_ok : FnOk Tryz.prog 214 Kep_e := fnOk_mk (tb := []) (c := (Tryz.f214.body).getD .skip) mixed Tryz.func214 bN (by kernel_rfl) (by kernel_rfl) (by kernel_rfl) trivial (by intro d; kernel_rfl)
def Kbr_l57 : Int × Int × t22 × (Int × Int × Unit × Int × Int) × t22 × Bool → Option (t22 × Int ⊕ Int × t22 × (Int × Int × Unit × Int × Int) × t22)
 | (a, b, (c, d, e, f, g), (h, i, _, j, k), (l, m, n, o, p), q) => bif q then some (.inl ((l, m, n, o, p), 4)) else bif a != c then some (.inl ((l, m, n, o, p), 2)) else (Kbt (e, b)).bind fun r => bif r then some (.inl ((l, m, n, o, p), 1)) else bif decide (b > d) then some (.inl ((l, m, n, o, p), 3)) else some (.inr (b, (c, d, e, f, g), (h, i, (), j, k), l, m, n, o, p))
def Kbr_n57 : NEnt := ⟨⟨57, [⟨2, .one, [.dat kI]⟩, ⟨3, .one, [.dat kI]⟩, ⟨4, .box, cc24⟩, ⟨8, .box, cc25⟩, ⟨10, .box, cc22⟩, ⟨13, .one, [.dat .bool]⟩]⟩, [(.ret, ⟨57, [⟨8, .box, cc22⟩, ⟨9, .one, [.dat kI]⟩]⟩), (.normal, ⟨57, [⟨3, .one, [.dat kI]⟩, ⟨4, .box, cc24⟩, ⟨8, .box, cc25⟩, ⟨10, .box, cc22⟩]⟩)], Kbr_l57⟩
def Kbr : t22 × Int × Int × Int → Option (t22 × Int)
 | ((a, b, c, d, e), f, g, h) => (Kca (a, b, c, d, e)).bind fun (i, j, k, l, m) => (Kbs ((a, b, c, d, e), f)).bind fun n => bif !n then bx (Kbr_l57 (g, h, (a, b, c, d, e), (0, 0, (), 0, 0), (i, j, k, l, m), true)) (fun ((o, p, q, r, s), t) => some ((o, p, q, r, s), t)) fun (o, (p, q, r, s, t), (u, v, _, w, x), y, z, a1, b1, c1) => (Kep o).bind fun (d1, e1) => (Kt (r, d1, e1)).bind fun f1 => some ((y, z, f1, b1, c1), 0) else (Kb (h, 1, 60)).bind fun o => bx (Kbr_l57 (g, h, (a, b, c, d, e), (0, 0, (), 0, 0), (i, j, k, l, m), !o)) (fun ((p, q, r, s, t), u) => some ((p, q, r, s, t), u)) fun (p, (q, r, s, t, u), (v, w, _, x, y), z, a1, b1, c1, d1) => (Kep p).bind fun (e1, f1) => (Kt (s, e1, f1)).bind fun g1 => some ((z, a1, g1, c1, d1), 0)
def Kbr_e : FEnt := ⟨49, [.cell 8 true 5, .tmp 9], [], [(.agg, cc24), (.one, [.dat kI]), (.one, [.dat kI]), (.one, [.dat kI])], ⟨57, [⟨8, .box, cc22⟩, ⟨9, .one, [.dat kI]⟩]⟩, Kbr⟩
theorem Kbr_ok : FnOk Tryz.prog 193 Kbr_e := fnOk_mk (tb := [(57, Kbr_n57)]) (c := (Tryz.f193.body).getD .skip) mixed Tryz.func193 (bC Kca_ok (bC Kbs_ok (bC Kb_ok (bC Kbt_ok (bC Kep_ok (bC Kt_ok bN)))))) (by kernel_rfl) (by kernel_rfl) (by kernel_rfl) ⟨nodeJoin (by kernel_rfl) (by intro d; kernel_rfl), trivial⟩ (by intro d; kernel_rfl)
def Kec : Int × Int → Option Int
 | (a, b) => (Kcp a).bind fun c => bif !c then some (-1) else (Kb (b, 1, 60)).bind fun d => bif !d then some (-1) else some (w64 ((w64 (100 * a)) + b))
def Kec_e : FEnt := ⟨17, [.tmp 4], [], [(.one, [.dat kI]), (.one, [.dat kI])], ⟨21, [⟨4, .one, [.dat kI]⟩]⟩, Kec⟩
theorem Kec_ok : FnOk Tryz.prog 203 Kec_e := fnOk_mk (tb := []) (c := (Tryz.f203.body).getD .skip) mixed Tryz.func203 (bC Kcp_ok (bC Kb_ok bN)) (by kernel_rfl) (by kernel_rfl) (by kernel_rfl) trivial (by intro d; kernel_rfl)
def Kdf : Int × t50 → Option (t55 × Bool)
 | (a, b, c, d, e, f, g, h, i, j, k, l) => (Kec (a, b)).bind fun m => (Kcs (b, c, d, e, f, g, h, i, j, k, l)).bind fun n => bif !n then some ((0, 0, [], 0, 0, 0, 0, [], [], []), false) else bif decide (m < 0) then some ((0, 0, [], 0, 0, 0, 0, [], [], []), false) else (Kaq (f, g, h, i, j, k, l)).bind fun (o, p, q, r, s, t, u) => some ((d, e, [(m, m)], o, p, q, r, s, t, u), true)
def Kdf_e : FEnt := ⟨31, [.cell 4 true 10, .tmp 5], [], [(.one, [.dat kI]), (.agg, cc14)], ⟨35, [⟨4, .box, cc13⟩, ⟨5, .one, [.dat .bool]⟩]⟩, Kdf⟩
theorem Kdf_ok : FnOk Tryz.prog 160 Kdf_e := fnOk_mk (tb := []) (c := (Tryz.f160.body).getD .skip) mixed Tryz.func160 (bC Kec_ok (bC Kcs_ok (bC Kaq_ok bN))) (by kernel_rfl) (by kernel_rfl) (by kernel_rfl) trivial (by intro d; kernel_rfl)
def Ky_s3730 : t132 → Option (t132 ⊕ t131)
 | ((a, b, c, d, e, f, g, h, i, j, k, l, m, n, o, p), q, r, s) => ix r l.length ((some (gx l r [])).bind fun t => (some (decide (s < (ln t)))).bind fun u => bif u then ix r l.length ((some (gx l r [])).bind fun v => ix s v.length ((some (gx v s [])).bind fun w => some (.inl ((a, b, c, d, e, f, g, h, i, j, k, l, m, n, o, p), w64 (q + (ln w)), r, w64 (s + 1))))) else some (.inr ((a, b, c, d, e, f, g, h, i, j, k, l, m, n, o, p), q, r)))
def Ky_n3730 : NEnt := ⟨⟨38, [⟨1, .box, cc7⟩, ⟨3, .one, [.dat kI]⟩, ⟨4, .one, [.dat kI]⟩, ⟨5, .one, [.dat kI]⟩]⟩, [(.exit 2, ⟨38, [⟨1, .box, cc7⟩, ⟨3, .one, [.dat kI]⟩, ⟨4, .one, [.dat kI]⟩]⟩)], lp Ky_s3730⟩
def Ky_s58 : t131 → Option (t131 ⊕ Int)
 | ((a, b, c, d, e, f, g, h, i, j, k, l, m, n, o, p), q, r) => (some (decide (r < (ln l)))).bind fun s => bif s then (lp Ky_s3730 ((a, b, c, d, e, f, g, h, i, j, k, l, m, n, o, p), q, r, 0)).bind fun ((t, u, v, w, x, y, z, a1, b1, c1, d1, e1, f1, g1, h1, i1), j1, k1) => some (.inl ((t, u, v, w, x, y, z, a1, b1, c1, d1, e1, f1, g1, h1, i1), j1, w64 (k1 + 1))) else some (.inr q)
def Ky_n58 : NEnt := ⟨⟨38, [⟨1, .box, cc7⟩, ⟨3, .one, [.dat kI]⟩, ⟨4, .one, [.dat kI]⟩]⟩, [(.exit 0, ⟨38, [⟨3, .one, [.dat kI]⟩]⟩)], lp Ky_s58⟩
def Ky : t129 → Option Int
 | (a, b, c, d, e, f, g, h, i, j, k, l, m, n, o, p) => (lp Ky_s58 ((a, b, c, d, e, f, g, h, i, j, k, l, m, n, o, p), 0, 0)).bind fun q => some q
def Ky_e : FEnt := ⟨36, [.tmp 2], [], [(.agg, cc7)], ⟨38, [⟨2, .one, [.dat kI]⟩]⟩, Ky⟩
theorem Ky_ok : FnOk Tryz.prog 80 Ky_e := fnOk_mk (tb := [(3730, Ky_n3730), (58, Ky_n58)]) (c := (Tryz.f80.body).getD .skip) mixed Tryz.func80 bN (by kernel_rfl) (by kernel_rfl) (by kernel_rfl) ⟨nodeLoop (by kernel_rfl) Ky_s3730 (by kernel_rfl) (by intro d; kernel_rfl), nodeLoop (by kernel_rfl) Ky_s58 (by kernel_rfl) (by intro d; kernel_rfl), trivial⟩ (by intro d; kernel_rfl)
def Kbu_s26 : t77 → Option (t77 ⊕ Bool ⊕ Unit)
 | (a, b, c) => (some (decide (c < (ln b)))).bind fun d => bif d then ix c b.length ((some (gx b c (0, 0, [], 0, 0, 0, 0, [], [], []))).bind fun (e, f, g, h, i, j, k, l, m, n) => (Ks (g, a)).bind fun o => bif !o then some (.inr (.inl false)) else some (.inl (a, b, w64 (c + 1)))) else some (.inr (.inr ()))
def Kbu_n26 : NEnt := ⟨⟨26, [⟨1, .one, [.dat kk10]⟩, ⟨2, .box, [.dat kk4]⟩, ⟨5, .one, [.dat kI]⟩]⟩, [(.ret, ⟨26, [⟨4, .one, [.dat .bool]⟩]⟩), (.exit 0, ⟨26, []⟩)], lp Kbu_s26⟩
def Kbu : List t55 × List (Int × Int) → Option Bool
 | (a, b) => bx (lp Kbu_s26 (b, a, 0)) (fun c => some c) fun _ => some true
def Kbu_e : FEnt := ⟨22, [.tmp 4], [], [(.agg, [.dat kk4]), (.one, [.dat kk10])], ⟨26, [⟨4, .one, [.dat .bool]⟩]⟩, Kbu⟩
theorem Kbu_ok : FnOk Tryz.prog 215 Kbu_e := fnOk_mk (tb := [(26, Kbu_n26)]) (c := (Tryz.f215.body).getD .skip) mixed Tryz.func215 (bC Ks_ok bN) (by kernel_rfl) (by kernel_rfl) (by kernel_rfl) ⟨nodeLoop (by kernel_rfl) Kbu_s26 (by kernel_rfl) (by intro d; kernel_rfl), trivial⟩ (by intro d; kernel_rfl)
def Kaj_s122 : Bool × List t55 × t55 × Unit × t63 → Option (Bool × List t55 × t55 × Unit × t63 ⊕ List t55 × Bool ⊕ List t55 × t55 × Unit × List t55)
 | (a, b, (c, d, e, f, g, h, i, j, k, l), _, m, n) => (some (decide (n < (ln m)))).bind fun o => bif o then bif a then ix n m.length (lx n m.length ((some (gx m n (0, 0, [], 0, 0, 0, 0, [], [], []))).bind fun (p, q, r, s, t, u, v, w, x, y) => bif p == c then ix n m.length (lx n m.length ((some (gx m n (0, 0, [], 0, 0, 0, 0, [], [], []))).bind fun (z, a1, b1, c1, d1, e1, f1, g1, h1, i1) => bif a1 == d then ix n m.length (lx n m.length ((some (gx m n (0, 0, [], 0, 0, 0, 0, [], [], []))).bind fun (j1, k1, l1, m1, n1, o1, p1, q1, r1, s1) => (Kdl ((j1, k1, (gx m n (0, 0, [], 0, 0, 0, 0, [], [], [])).2.2.1, m1, n1, o1, p1, (gx m n (0, 0, [], 0, 0, 0, 0, [], [], [])).2.2.2.2.2.2.2.1, (gx m n (0, 0, [], 0, 0, 0, 0, [], [], [])).2.2.2.2.2.2.2.2.1, (gx m n (0, 0, [], 0, 0, 0, 0, [], [], [])).2.2.2.2.2.2.2.2.2), c, d, e, f, g, h, i, j, k, l)).bind fun (t1, u1, v1, w1, x1, y1, z1, a2, b2, c2) => ix n m.length (lx n m.length ((some (sx m n (t1, u1, v1, w1, x1, y1, z1, a2, b2, c2))).bind fun d2 => some (.inr (.inl (d2, true))))))) else some (.inl (a, b, (c, d, e, f, g, h, i, j, k, l), (), m, w64 (n + 1))))) else some (.inl (a, b, (c, d, e, f, g, h, i, j, k, l), (), m, w64 (n + 1))))) else some (.inr (.inr (b, (c, d, e, f, g, h, i, j, k, l), (), m))) else some (.inr (.inr (b, (c, d, e, f, g, h, i, j, k, l), (), m)))
def Kaj_n122 : NEnt := ⟨⟨89, [⟨2, .one, [.dat .bool]⟩, ⟨3, .box, [.dat kk4]⟩, ⟨4, .box, cc15⟩, ⟨6, .box, [.nil]⟩, ⟨8, .box, [.own true kk5]⟩, ⟨9, .one, [.dat kI]⟩]⟩, [(.ret, ⟨89, [⟨6, .box, [.own true kk5]⟩, ⟨7, .one, [.dat .bool]⟩]⟩), (.exit 0, ⟨89, [⟨3, .box, [.dat kk4]⟩, ⟨4, .box, cc15⟩, ⟨6, .box, [.nil]⟩, ⟨8, .box, [.own true kk5]⟩]⟩)], lp Kaj_s122⟩
def Kaj : List t55 × t55 × Bool → Option (List t55 × Bool)
 | (a, (b, c, d, e, f, g, h, i, j, k), l) => (Kap a).bind fun m => (Kp a).bind fun n => bif !n then some (m, false) else (Kck (b, c, d, e, f, g, h, i, j, k)).bind fun o => bif !o then some (m, false) else (Kbu (a, d)).bind fun p => bif !p then some (m, false) else bx (lp Kaj_s122 (l, a, (b, c, d, e, f, g, h, i, j, k), (), m, 0)) (fun (q, r) => some (q, r)) fun (q, (r, s, t, u, v, w, x, y, z, a1), _, b1) => bif (ln q) == 24 then some (b1, false) else (Kcj (r, s, t, u, v, w, x, y, z, a1)).bind fun (c1, d1, e1, f1, g1, h1, i1, j1, k1, l1) => (some [(c1, d1, e1, f1, g1, h1, i1, j1, k1, l1)]).bind fun m1 => chk (fits (b1.length + m1.length) 144) ((some (b1 ++ m1)).bind fun n1 => some (n1, true))
def Kaj_e : FEnt := ⟨83, [.cell 6 true 1, .tmp 7], [], [(.agg, [.dat kk4]), (.agg, cc15), (.one, [.dat .bool])], ⟨89, [⟨6, .box, [.own true kk5]⟩, ⟨7, .one, [.dat .bool]⟩]⟩, Kaj⟩
theorem Kaj_ok : FnOk Tryz.prog 194 Kaj_e := fnOk_mk (tb := [(122, Kaj_n122)]) (c := (Tryz.f194.body).getD .skip) mixed Tryz.func194 (bC Kap_ok (bC Kp_ok (bC Kck_ok (bC Kbu_ok (bC Kdl_ok (bC Kcj_ok bN)))))) (by kernel_rfl) (by kernel_rfl) (by kernel_rfl) ⟨nodeLoop (by kernel_rfl) Kaj_s122 (by kernel_rfl) (by intro d; kernel_rfl), trivial⟩ (by intro d; kernel_rfl)
def Kv_l511 : t79 × t59 × (Int × Int × Int × Int × Unit × t41) × t130 → Option (t129 × (Int × t61) × Int)
 | ((a, b, c, d, e, f, g, h, i, j, k, l, m, n, o, p), (q, r, s, _, t, u, v, w, x, y, _, _, _, z, _, _), (a1, b1, c1, d1, _, e1, f1, g1, h1, i1, j1, k1, l1, _, _, _), (m1, n1, o1, p1, q1, r1, s1, t1, u1, v1, w1, x1, y1, z1, a2, b2), c2) => (Kdj ((m1, n1, o1, p1, q1, r1, s1, t1, u1, v1, w1, x1, y1, z1, a2, b2), b)).bind fun (d2, e2, f2, g2, h2, i2, j2, k2, l2, m2, n2, o2, p2, _, _, _) => some ((m1, n1, o1, p1, q1, r1, s1, t1, u1, v1, w1, x1, y1, z1, a2, b2), (d2, e2, f2, g2, h2, i2, j2, k2, l2, m2, n2, o2, p2, (), (), ()), c2)
def Kv_n511 : NEnt := ⟨⟨157, [⟨3, .box, cc6⟩, ⟨4, .box, cc12⟩, ⟨5, .box, cc11⟩, ⟨7, .box, cc3⟩, ⟨10, .one, [.dat kI]⟩]⟩, [(.ret, ⟨157, [⟨4, .box, cc3⟩, ⟨5, .box, cc9⟩, ⟨6, .one, [.dat kI]⟩]⟩)], Kv_l511⟩
def Kv_l15 : t79 × t59 × (Int × Int × Int × Int × Unit × t41) × t129 → Option (t129 × (Int × t61) × Int)
 | ((a, b, c, d, e, f, g, h, i, j, k, l, m, n, o, p), (q, r, s, _, t, u, v, w, x, y, _, _, _, z, _, _), (a1, b1, c1, d1, _, e1, f1, g1, h1, i1, j1, k1, l1, _, _, _), m1, n1, o1, p1, q1, r1, s1, t1, u1, v1, w1, x1, y1, z1, a2, b2) => ix b w1.length (lx b w1.length ((some (sx w1 b ((gx w1 b (0, 0, [], 0, 0)).1, (gx w1 b (0, 0, [], 0, 0)).2.1, (gx w1 b (0, 0, [], 0, 0)).2.2.1, (gx w1 b (0, 0, [], 0, 0)).2.2.2.1, u1))).bind fun c2 => bif a == 0 then bif !v1 then ix b c2.length (lx b c2.length ((some (gx c2 b (0, 0, [], 0, 0))).bind fun (d2, e2, f2, g2, h2) => (Kct ((d2, e2, (gx c2 b (0, 0, [], 0, 0)).2.2.1, g2, h2), m1)).bind fun (i2, j2, k2, l2, m2) => ix b c2.length (lx b c2.length ((some (sx c2 b (i2, j2, k2, l2, m2))).bind fun n2 => (Kdj ((m1, n1, o1, p1, q1, r1, s1, t1, u1, v1, n2, x1, y1, z1, a2, b2), b)).bind fun (o2, p2, q2, r2, s2, t2, u2, v2, w2, x2, y2, z2, a3, _, _, _) => some ((m1, n1, o1, p1, q1, r1, s1, t1, u1, v1, n2, x1, y1, z1, a2, b2), (o2, p2, q2, r2, s2, t2, u2, v2, w2, x2, y2, z2, a3, (), (), ()), 2))))) else (Kdj ((m1, n1, o1, p1, q1, r1, s1, t1, u1, v1, c2, x1, y1, z1, a2, b2), b)).bind fun (d2, e2, f2, g2, h2, i2, j2, k2, l2, m2, n2, o2, p2, _, _, _) => some ((m1, n1, o1, p1, q1, r1, s1, t1, u1, v1, c2, x1, y1, z1, a2, b2), (d2, e2, f2, g2, h2, i2, j2, k2, l2, m2, n2, o2, p2, (), (), ()), 2) else ix b c2.length (lx b c2.length ((some (gx c2 b (0, 0, [], 0, 0))).bind fun (d2, e2, f2, g2, h2) => (Kbr ((d2, e2, (gx c2 b (0, 0, [], 0, 0)).2.2.1, g2, h2), m1, c, f)).bind fun ((i2, j2, k2, l2, m2), n2) => bif n2 == 2 then (Kv_l511 ((a, b, c, d, e, f, g, h, i, j, k, l, m, n, o, p), (q, r, s, (), t, u, v, w, x, y, (), (), (), z, (), ()), (a1, b1, c1, d1, (), e1, f1, g1, h1, i1, j1, k1, l1, (), (), ()), (m1, n1, o1, p1, q1, r1, s1, t1, u1, v1, c2, x1, y1, z1, a2, b2), 3)).bind fun ((o2, p2, q2, r2, s2, t2, u2, v2, w2, x2, y2, z2, a3, b3, c3, d3), (e3, f3, g3, h3, i3, j3, k3, l3, m3, n3, o3, p3, q3, _, _, _), r3) => some ((o2, p2, q2, r2, s2, t2, u2, v2, w2, x2, y2, z2, a3, b3, c3, d3), (e3, f3, g3, h3, i3, j3, k3, l3, m3, n3, o3, p3, q3, (), (), ()), r3) else bif n2 == 1 then (Kv_l511 ((a, b, c, d, e, f, g, h, i, j, k, l, m, n, o, p), (q, r, s, (), t, u, v, w, x, y, (), (), (), z, (), ()), (a1, b1, c1, d1, (), e1, f1, g1, h1, i1, j1, k1, l1, (), (), ()), (m1, n1, o1, p1, q1, r1, s1, t1, u1, v1, c2, x1, y1, z1, a2, b2), 1)).bind fun ((o2, p2, q2, r2, s2, t2, u2, v2, w2, x2, y2, z2, a3, b3, c3, d3), (e3, f3, g3, h3, i3, j3, k3, l3, m3, n3, o3, p3, q3, _, _, _), r3) => some ((o2, p2, q2, r2, s2, t2, u2, v2, w2, x2, y2, z2, a3, b3, c3, d3), (e3, f3, g3, h3, i3, j3, k3, l3, m3, n3, o3, p3, q3, (), (), ()), r3) else bif n2 == 3 then (Kv_l511 ((a, b, c, d, e, f, g, h, i, j, k, l, m, n, o, p), (q, r, s, (), t, u, v, w, x, y, (), (), (), z, (), ()), (a1, b1, c1, d1, (), e1, f1, g1, h1, i1, j1, k1, l1, (), (), ()), (m1, n1, o1, p1, q1, r1, s1, t1, u1, v1, c2, x1, y1, z1, a2, b2), 4)).bind fun ((o2, p2, q2, r2, s2, t2, u2, v2, w2, x2, y2, z2, a3, b3, c3, d3), (e3, f3, g3, h3, i3, j3, k3, l3, m3, n3, o3, p3, q3, _, _, _), r3) => some ((o2, p2, q2, r2, s2, t2, u2, v2, w2, x2, y2, z2, a3, b3, c3, d3), (e3, f3, g3, h3, i3, j3, k3, l3, m3, n3, o3, p3, q3, (), (), ()), r3) else bif n2 == 0 then bif v1 then (Kv_l511 ((a, b, c, d, e, f, g, h, i, j, k, l, m, n, o, p), (q, r, s, (), t, u, v, w, x, y, (), (), (), z, (), ()), (a1, b1, c1, d1, (), e1, f1, g1, h1, i1, j1, k1, l1, (), (), ()), (m1, n1, o1, p1, q1, r1, s1, t1, u1, v1, c2, x1, y1, z1, a2, b2), 5)).bind fun ((o2, p2, q2, r2, s2, t2, u2, v2, w2, x2, y2, z2, a3, b3, c3, d3), (e3, f3, g3, h3, i3, j3, k3, l3, m3, n3, o3, p3, q3, _, _, _), r3) => some ((o2, p2, q2, r2, s2, t2, u2, v2, w2, x2, y2, z2, a3, b3, c3, d3), (e3, f3, g3, h3, i3, j3, k3, l3, m3, n3, o3, p3, q3, (), (), ()), r3) else (Kdf (b, f, g, h, i, j, k, l, m, n, o, p)).bind fun ((o2, p2, q2, r2, s2, t2, u2, v2, w2, x2), y2) => ix b x1.length (lx b x1.length (ix g (gx x1 b []).length (lx g (gx x1 b []).length ((Ky (m1, n1, o1, p1, q1, r1, s1, t1, u1, v1, c2, x1, y1, z1, a2, b2)).bind fun z2 => (Kaj (gx (gx x1 b []) g [], (o2, p2, q2, r2, s2, t2, u2, v2, w2, x2), decide (z2 ≥ q1))).bind fun (a3, b3) => ix b x1.length (lx b x1.length (ix g (gx x1 b []).length (lx g (gx x1 b []).length ((some (sx x1 b (sx (gx x1 b []) g a3))).bind fun c3 => ix b c2.length (lx b c2.length ((some (sx c2 b (i2, j2, k2, l2, m2))).bind fun d3 => (Kv_l511 ((a, b, c, d, e, f, g, h, i, j, k, l, m, n, o, p), (q, r, s, (), t, u, v, w, x, y, (), (), (), z, (), ()), (a1, b1, c1, d1, (), e1, f1, g1, h1, i1, j1, k1, l1, (), (), ()), (m1, n1, o1, p1, q1, r1, s1, t1, u1, v1, d3, c3, y1, z1, a2, b2), 0)).bind fun ((e3, f3, g3, h3, i3, j3, k3, l3, m3, n3, o3, p3, q3, r3, s3, t3), (u3, v3, w3, x3, y3, z3, a4, b4, c4, d4, e4, f4, g4, _, _, _), h4) => some ((e3, f3, g3, h3, i3, j3, k3, l3, m3, n3, o3, p3, q3, r3, s3, t3), (u3, v3, w3, x3, y3, z3, a4, b4, c4, d4, e4, f4, g4, (), (), ()), h4))))))))))) else (Kv_l511 ((a, b, c, d, e, f, g, h, i, j, k, l, m, n, o, p), (q, r, s, (), t, u, v, w, x, y, (), (), (), z, (), ()), (a1, b1, c1, d1, (), e1, f1, g1, h1, i1, j1, k1, l1, (), (), ()), (m1, n1, o1, p1, q1, r1, s1, t1, u1, v1, c2, x1, y1, z1, a2, b2), 0)).bind fun ((o2, p2, q2, r2, s2, t2, u2, v2, w2, x2, y2, z2, a3, b3, c3, d3), (e3, f3, g3, h3, i3, j3, k3, l3, m3, n3, o3, p3, q3, _, _, _), r3) => some ((o2, p2, q2, r2, s2, t2, u2, v2, w2, x2, y2, z2, a3, b3, c3, d3), (e3, f3, g3, h3, i3, j3, k3, l3, m3, n3, o3, p3, q3, (), (), ()), r3)))))
def Kv_n15 : NEnt := ⟨⟨157, [⟨3, .box, cc6⟩, ⟨4, .box, cc12⟩, ⟨5, .box, cc11⟩, ⟨7, .box, cc3⟩]⟩, [(.ret, ⟨157, [⟨4, .box, cc3⟩, ⟨5, .box, cc9⟩, ⟨6, .one, [.dat kI]⟩]⟩)], Kv_l15⟩
def Kv : t129 × t79 → Option (t129 × (Int × t61) × Int)
 | ((a, b, c, d, e, f, g, h, i, j, k, l, m, n, o, p), q, r, s, t, u, v, w, x, y, z, a1, b1, c1, d1, e1, f1) => (Ka (a, b, c, d, e, f, g, h, i, j, k, l, m, n, o, p)).bind fun (g1, h1, i1, j1, k1, l1, m1, n1, o1, p1, q1, r1, s1, t1, u1, v1) => (Ke (a, b, c, d, e, f, g, h, i, j, k, l, m, n, o, p)).bind fun w1 => bif !w1 then some ((g1, h1, i1, j1, k1, l1, m1, n1, o1, p1, q1, r1, s1, t1, u1, v1), (0, 0, 0, 0, [], 0, 0, 0, 0, 0, 0, 0, 0, (), (), ()), 6) else (Kcf (q, r, s, t, u, v, w, x, y, z, a1, b1, c1, d1, e1, f1)).bind fun x1 => bif !x1 then some ((g1, h1, i1, j1, k1, l1, m1, n1, o1, p1, q1, r1, s1, t1, u1, v1), (0, 0, 0, 0, [], 0, 0, 0, 0, 0, 0, 0, 0, (), (), ()), 6) else bif q != 0 then bif q != 1 then some ((g1, h1, i1, j1, k1, l1, m1, n1, o1, p1, q1, r1, s1, t1, u1, v1), (0, 0, 0, 0, [], 0, 0, 0, 0, 0, 0, 0, 0, (), (), ()), 6) else (Kv_l15 ((q, r, s, t, u, v, w, x, y, z, a1, b1, c1, d1, e1, f1), (0, 0, 0, (), 0, 0, 0, 0, 0, false, (), (), (), 0, (), ()), (0, 0, 0, 0, (), 0, 0, 0, 0, 0, 0, 0, 0, (), (), ()), g1, h1, i1, j1, k1, l1, m1, n1, o1, p1, q1, r1, s1, t1, u1, v1)).bind fun ((y1, z1, a2, b2, c2, d2, e2, f2, g2, h2, i2, j2, k2, l2, m2, n2), (o2, p2, q2, r2, s2, t2, u2, v2, w2, x2, y2, z2, a3, _, _, _), b3) => some ((y1, z1, a2, b2, c2, d2, e2, f2, g2, h2, i2, j2, k2, l2, m2, n2), (o2, p2, q2, r2, s2, t2, u2, v2, w2, x2, y2, z2, a3, (), (), ()), b3) else (Kv_l15 ((q, r, s, t, u, v, w, x, y, z, a1, b1, c1, d1, e1, f1), (0, 0, 0, (), 0, 0, 0, 0, 0, false, (), (), (), 0, (), ()), (0, 0, 0, 0, (), 0, 0, 0, 0, 0, 0, 0, 0, (), (), ()), g1, h1, i1, j1, k1, l1, m1, n1, o1, p1, q1, r1, s1, t1, u1, v1)).bind fun ((y1, z1, a2, b2, c2, d2, e2, f2, g2, h2, i2, j2, k2, l2, m2, n2), (o2, p2, q2, r2, s2, t2, u2, v2, w2, x2, y2, z2, a3, _, _, _), b3) => some ((y1, z1, a2, b2, c2, d2, e2, f2, g2, h2, i2, j2, k2, l2, m2, n2), (o2, p2, q2, r2, s2, t2, u2, v2, w2, x2, y2, z2, a3, (), (), ()), b3)
def Kv_e : FEnt := ⟨153, [.cell 4 true 16, .cell 5 true 16, .tmp 6], [], [(.agg, cc7), (.agg, cc6)], ⟨157, [⟨4, .box, cc3⟩, ⟨5, .box, cc9⟩, ⟨6, .one, [.dat kI]⟩]⟩, Kv⟩
theorem Kv_ok : FnOk Tryz.prog 155 Kv_e := fnOk_mk (tb := [(511, Kv_n511), (15, Kv_n15)]) (c := (Tryz.f155.body).getD .skip) mixed Tryz.func155 (bC Ka_ok (bC Ke_ok (bC Kcf_ok (bC Kct_ok (bC Kdj_ok (bC Kbr_ok (bC Kdf_ok (bC Ky_ok (bC Kaj_ok bN))))))))) (by kernel_rfl) (by kernel_rfl) (by kernel_rfl) ⟨nodeJoin (by kernel_rfl) (by intro d; kernel_rfl), nodeJoin (by kernel_rfl) (by intro d; kernel_rfl), trivial⟩ (by intro d; kernel_rfl)
def Kbv_s122 : Unit × t59 × t129 × t13 → Option (Unit × t59 × t129 × t13 ⊕ t59 × t129 × List Int × Int × Int)
 | (_, (a, b, c, _, d, e, f, g, h, i, _, _, _, j, _, _), (k, l, m, n, o, p, q, r, s, t, u, v, w, x, y, z), a1, b1, c1, d1, e1) => bif decide (b1 < a1) then (Kg ((c1, d1, e1), 3)).bind fun (f1, g1, h1, i1) => (Kg ((g1, h1, i1), 6)).bind fun (j1, k1, l1, m1) => bif j1 == 0 then (Ked (k, l, m, n, o, p, q, r, s, t, u, v, w, x, y, z)).bind fun ((n1, o1, p1, q1, r1, s1, t1, u1, v1, w1, x1, y1, z1, a2, b2, c2), d2) => some (.inl ((), (a, b, c, (), d, e, f, g, h, i, (), (), (), j, (), ()), (n1, o1, p1, q1, r1, s1, t1, u1, v1, w1, x1, y1, z1, a2, b2, c2), a1, w64 (b1 + 1), k1, l1, m1)) else bif j1 == 1 then (Kbk (k, l, m, n, o, p, q, r, s, t, u, v, w, x, y, z)).bind fun (n1, o1, p1, q1, r1, s1, t1, u1, v1, w1, x1, y1, z1, a2, b2, c2) => some (.inl ((), (a, b, c, (), d, e, f, g, h, i, (), (), (), j, (), ()), (n1, o1, p1, q1, r1, s1, t1, u1, v1, w1, x1, y1, z1, a2, b2, c2), a1, w64 (b1 + 1), k1, l1, m1)) else (Kcv (k1, l1, m1)).bind fun ((n1, o1, p1, q1, r1, s1, t1, u1, v1, w1, x1), y1, z1, a2) => ix f1 u.length (lx f1 u.length ((some (gx u f1 (0, 0, [], 0, 0))).bind fun (b2, c2, d2, e2, f2) => (Kv ((k, l, m, n, o, p, q, r, s, t, u, v, w, x, y, z), 1, f1, b2, 0, [], n1, o1, p1, q1, r1, s1, t1, u1, v1, w1, x1)).bind fun ((g2, h2, i2, j2, k2, l2, m2, n2, o2, p2, q2, r2, s2, t2, u2, v2), (w2, x2, y2, z2, a3, b3, c3, d3, e3, f3, g3, h3, i3, _, _, _), j3) => some (.inl ((), (a, b, c, (), d, e, f, g, h, i, (), (), (), j, (), ()), (g2, h2, i2, j2, k2, l2, m2, n2, o2, p2, q2, r2, s2, t2, u2, v2), a1, w64 (b1 + 1), y1, z1, a2)))) else some (.inr ((a, b, c, (), d, e, f, g, h, i, (), (), (), j, (), ()), (k, l, m, n, o, p, q, r, s, t, u, v, w, x, y, z), c1, d1, e1))
def Kbv_n122 : NEnt := ⟨⟨59, [⟨0, .one, [.bptr 58 0]⟩, ⟨2, .box, cc12⟩, ⟨3, .box, cc0⟩, ⟨5, .one, [.dat kI]⟩, ⟨6, .one, [.dat kI]⟩, ⟨58, .box, cc28⟩]⟩, [(.exit 0, ⟨59, [⟨2, .box, cc12⟩, ⟨3, .box, cc0⟩, ⟨58, .box, cc28⟩]⟩)], lp Kbv_s122⟩
def Kbv : List Int × Int × Int → Option (t129 × List Int × Int × Int)
 | (a, b, c) => (Kei (a, b, c)).bind fun ((d, e, f, g, h, i, j, k), l, m, n) => (Kab (d, e, f, g, h, i, j, k)).bind fun ((o, p, q, r, s, t, u, v, w, x, y, z, a1, b1, _, _), c1) => (Kg ((l, m, n), 14)).bind fun (d1, e1, f1, g1) => (lp Kbv_s122 ((), (0, 0, 0, (), 0, 0, 0, 0, 0, false, (), (), (), 0, (), ()), (o, p, q, r, s, t, u, v, w, x, y, z, a1, b1, [], []), d1, 0, e1, f1, g1)).bind fun ((h1, i1, j1, _, k1, l1, m1, n1, o1, p1, _, _, _, q1, _, _), (r1, s1, t1, u1, v1, w1, x1, y1, z1, a2, b2, c2, d2, e2, f2, g2), h2, i2, j2) => some ((r1, s1, t1, u1, v1, w1, x1, y1, z1, a2, b2, c2, d2, e2, f2, g2), h2, i2, j2)
def Kbv_e : FEnt := ⟨57, [.cell 2 true 16], [true], [(.box, cc28)], ⟨59, [⟨2, .box, cc0⟩, ⟨58, .box, cc28⟩]⟩, Kbv⟩
theorem Kbv_ok : FnOk Tryz.prog 104 Kbv_e := fnOk_mk (tb := [(122, Kbv_n122)]) (c := (Tryz.f104.body).getD .skip) mixed Tryz.func104 (bC Kei_ok (bC Kab_ok (bC Kg_ok (bC Ked_ok (bC Kbk_ok (bC Kcv_ok (bC Kv_ok bN))))))) (by kernel_rfl) (by kernel_rfl) (by kernel_rfl) ⟨nodeLoop (by kernel_rfl) Kbv_s122 (by kernel_rfl) (by intro d; kernel_rfl), trivial⟩ (by intro d; kernel_rfl)
def Kbe : (List Int × Int × Int) × Int → Option (Bool × List Int × Int × Int)
 | ((a, b, c), d) => (Kg ((a, b, c), d)).bind fun (e, f, g, h) => some (e == 0, f, g, h)
def Kbe_e : FEnt := ⟨9, [.tmp 4], [true, false], [(.box, cc28), (.one, [.dat kI])], ⟨13, [⟨4, .one, [.dat .bool]⟩, ⟨10, .box, cc28⟩]⟩, Kbe⟩
theorem Kbe_ok : FnOk Tryz.prog 105 Kbe_e := fnOk_mk (tb := []) (c := (Tryz.f105.body).getD .skip) mixed Tryz.func105 (bC Kg_ok bN) (by kernel_rfl) (by kernel_rfl) (by kernel_rfl) trivial (by intro d; kernel_rfl)
def Kbx_s122 : Unit × List (Int × Int) × t13 → Option (Unit × List (Int × Int) × t13 ⊕ t21)
 | (_, a, b, c, d, e, f) => bif decide (c < b) then (Kg ((d, e, f), 20)).bind fun (g, h, i, j) => (Kg ((h, i, j), 20)).bind fun (k, l, m, n) => (Kg ((l, m, n), 10)).bind fun (o, p, q, r) => (Kn ((p, q, r), [g, k, w64 (9990 + o)])).bind fun (s, t, u, v) => (Kg ((t, u, v), 3)).bind fun (w, x, y, z) => (Km (w64 (s + w), 9999)).bind fun a1 => (Kt (a, s, a1)).bind fun b1 => some (.inl ((), b1, b, w64 (c + 1), x, y, z)) else some (.inr (a, d, e, f))
def Kbx_n122 : NEnt := ⟨⟨37, [⟨0, .one, [.bptr 36 0]⟩, ⟨3, .one, cc32⟩, ⟨4, .one, [.dat kI]⟩, ⟨5, .one, [.dat kI]⟩, ⟨36, .box, cc28⟩]⟩, [(.exit 0, ⟨37, [⟨3, .one, cc32⟩, ⟨36, .box, cc28⟩]⟩)], lp Kbx_s122⟩
def Kbx : List Int × Int × Int → Option t21
 | (a, b, c) => (Kg ((a, b, c), 7)).bind fun (d, e, f, g) => (lp Kbx_s122 ((), [], d, 0, e, f, g)).bind fun (h, i, j, k) => some (h, i, j, k)
def Kbx_e : FEnt := ⟨35, [.tmp 2], [true], [(.box, cc28)], ⟨37, [⟨2, .one, cc32⟩, ⟨36, .box, cc28⟩]⟩, Kbx⟩
theorem Kbx_ok : FnOk Tryz.prog 205 Kbx_e := fnOk_mk (tb := [(122, Kbx_n122)]) (c := (Tryz.f205.body).getD .skip) mixed Tryz.func205 (bC Kg_ok (bC Kn_ok (bC Km_ok (bC Kt_ok bN)))) (by kernel_rfl) (by kernel_rfl) (by kernel_rfl) ⟨nodeLoop (by kernel_rfl) Kbx_s122 (by kernel_rfl) (by intro d; kernel_rfl), trivial⟩ (by intro d; kernel_rfl)
def Kdp : List Int × Int × Int → Option t21
 | (a, b, c) => (Kbx (a, b, c)).bind fun (d, e, f, g) => (Kbe ((e, f, g), 8)).bind fun (h, i, j, k) => bif h then (Kn ((i, j, k), [(-1), 3, 10000])).bind fun (l, m, n, o) => (Kn ((m, n, o), [5, 10000, 9223372036854775807])).bind fun (p, q, r, s) => chk (fits (d.length + [(l, p)].length) 16) (some (d ++ [(l, p)], q, r, s)) else some (d, i, j, k)
def Kdp_e : FEnt := ⟨19, [.tmp 2], [true], [(.box, cc28)], ⟨21, [⟨2, .one, cc32⟩, ⟨20, .box, cc28⟩]⟩, Kdp⟩
theorem Kdp_ok : FnOk Tryz.prog 161 Kdp_e := fnOk_mk (tb := []) (c := (Tryz.f161.body).getD .skip) mixed Tryz.func161 (bC Kbx_ok (bC Kbe_ok (bC Kn_ok bN))) (by kernel_rfl) (by kernel_rfl) (by kernel_rfl) trivial (by intro d; kernel_rfl)
def Ken : List Int × Int × Int → Option t53
 | (a, b, c) => (Kbg (a, b, c)).bind fun (d, e, f, g) => (Kbc d).bind fun (h, i, j, k, l, m, n) => (Kbe ((e, f, g), 16)).bind fun (o, p, q, r) => bif o then bif decide (h > 0) then (Kg ((p, q, r), 2)).bind fun (s, t, u, v) => chk (decide (3 < l.length)) (chk (decide (3 < l.length)) (some ((w64 (1000000000 - s), 999999997, j, k, List.set l 3 1000000000, m, n), t, u, v))) else some ((h, i, j, k, l, m, n), p, q, r) else some ((h, i, j, k, l, m, n), p, q, r)
def Ken_e : FEnt := ⟨23, [.cell 2 true 7], [true], [(.box, cc28)], ⟨25, [⟨2, .box, cc16⟩, ⟨24, .box, cc28⟩]⟩, Ken⟩
theorem Ken_ok : FnOk Tryz.prog 206 Ken_e := fnOk_mk (tb := []) (c := (Tryz.f206.body).getD .skip) mixed Tryz.func206 (bC Kbg_ok (bC Kbc_ok (bC Kbe_ok (bC Kg_ok bN)))) (by kernel_rfl) (by kernel_rfl) (by kernel_rfl) trivial (by intro d; kernel_rfl)
def Kdk : List Int × Int × Int → Option t53
 | (a, b, c) => (Ken (a, b, c)).bind fun ((d, e, f, g, h, i, j), k, l, m) => (Kg ((k, l, m), 16)).bind fun (n, o, p, q) => bif n == 0 then (Kn ((o, p, q), [(-1), 1000001, 500])).bind fun (r, s, t, u) => some ((d, e, r, g, h, i, j), s, t, u) else bif n == 1 then (Kg ((o, p, q), 8)).bind fun (r, s, t, u) => (Kn ((s, t, u), [(-1), 17, 18])).bind fun (v, w, x, y) => ix r i.length (lx r i.length (some ((d, e, f, g, h, sx i r v, j), w, x, y))) else bif n == 2 then chk (fits (h.length + 1) 8) (some ((d, e, f, g, h ++ [0], i, j), o, p, q)) else bif n == 3 then chk (decide (((0 : Nat) ≤ 1) ∧ (1 ≤ j.length))) (some ((d, e, f, g, h, i, List.take 1 j), o, p, q)) else bif n == 4 then (Kn ((o, p, q), [0, (-1), 1000000001])).bind fun (r, s, t, u) => some ((r, e, f, g, h, i, j), s, t, u) else bif n == 5 then chk (decide (1 < j.length)) (chk (decide (1 < j.length)) ((Kn ((o, p, q), [(-1), 3, 1000000001])).bind fun (r, s, t, u) => chk (decide (2 < (List.getD j 1 []).length)) (chk (decide (2 < (List.getD j 1 []).length)) (some ((d, e, f, g, h, i, List.set j 1 (List.set (List.getD j 1 []) 2 r)), s, t, u))))) else some ((d, e, f, g, h, i, j), o, p, q)
def Kdk_e : FEnt := ⟨54, [.cell 2 true 7], [true], [(.box, cc28)], ⟨56, [⟨2, .box, cc16⟩, ⟨55, .box, cc28⟩]⟩, Kdk⟩
theorem Kdk_ok : FnOk Tryz.prog 162 Kdk_e := fnOk_mk (tb := []) (c := (Tryz.f162.body).getD .skip) mixed Tryz.func162 (bC Ken_ok (bC Kg_ok (bC Kn_ok bN))) (by kernel_rfl) (by kernel_rfl) (by kernel_rfl) trivial (by intro d; kernel_rfl)
def Keo : List Int × Int × Int → Option (t55 × List Int × Int × Int)
 | (a, b, c) => (Kg ((a, b, c), 3)).bind fun (d, e, f, g) => (Kcv (e, f, g)).bind fun ((h, i, j, k, l, m, n, o, p, q, r), s, t, u) => (Kdf (d, h, i, j, k, l, m, n, o, p, q, r)).bind fun ((v, w, x, y, z, a1, b1, c1, d1, e1), f1) => (Kbe ((s, t, u), 4)).bind fun (g1, h1, i1, j1) => bif g1 then (Kdp (h1, i1, j1)).bind fun (k1, l1, m1, n1) => (Kbe ((l1, m1, n1), 14)).bind fun (o1, p1, q1, r1) => bif o1 then (Kdk (p1, q1, r1)).bind fun ((s1, t1, u1, v1, w1, x1, y1), z1, a2, b2) => (Kbe ((z1, a2, b2), 20)).bind fun (c2, d2, e2, f2) => bif c2 then (Kn ((d2, e2, f2), [(-1), 5])).bind fun (g2, h2, i2, j2) => some ((g2, w, k1, s1, t1, u1, v1, w1, x1, y1), h2, i2, j2) else some ((v, w, k1, s1, t1, u1, v1, w1, x1, y1), d2, e2, f2) else (Kbe ((p1, q1, r1), 20)).bind fun (s1, t1, u1, v1) => bif s1 then (Kn ((t1, u1, v1), [(-1), 5])).bind fun (w1, x1, y1, z1) => some ((w1, w, k1, y, z, a1, b1, c1, d1, e1), x1, y1, z1) else some ((v, w, k1, y, z, a1, b1, c1, d1, e1), t1, u1, v1) else (Kbe ((h1, i1, j1), 14)).bind fun (k1, l1, m1, n1) => bif k1 then (Kdk (l1, m1, n1)).bind fun ((o1, p1, q1, r1, s1, t1, u1), v1, w1, x1) => (Kbe ((v1, w1, x1), 20)).bind fun (y1, z1, a2, b2) => bif y1 then (Kn ((z1, a2, b2), [(-1), 5])).bind fun (c2, d2, e2, f2) => some ((c2, w, x, o1, p1, q1, r1, s1, t1, u1), d2, e2, f2) else some ((v, w, x, o1, p1, q1, r1, s1, t1, u1), z1, a2, b2) else (Kbe ((l1, m1, n1), 20)).bind fun (o1, p1, q1, r1) => bif o1 then (Kn ((p1, q1, r1), [(-1), 5])).bind fun (s1, t1, u1, v1) => some ((s1, w, x, y, z, a1, b1, c1, d1, e1), t1, u1, v1) else some ((v, w, x, y, z, a1, b1, c1, d1, e1), p1, q1, r1)
def Keo_e : FEnt := ⟨30, [.cell 2 true 10], [true], [(.box, cc28)], ⟨32, [⟨2, .box, cc13⟩, ⟨31, .box, cc28⟩]⟩, Keo⟩
theorem Keo_ok : FnOk Tryz.prog 109 Keo_e := fnOk_mk (tb := []) (c := (Tryz.f109.body).getD .skip) mixed Tryz.func109 (bC Kg_ok (bC Kcv_ok (bC Kdf_ok (bC Kbe_ok (bC Kdp_ok (bC Kdk_ok (bC Kn_ok bN))))))) (by kernel_rfl) (by kernel_rfl) (by kernel_rfl) trivial (by intro d; kernel_rfl)
def Keh : List Int × Int × Int → Option (t129 × List Int × Int × Int)
 | (a, b, c) => (Kbv (a, b, c)).bind fun ((d, e, f, g, h, i, j, k, l, m, n, o, p, q, r, s), t, u, v) => (Kg ((t, u, v), 16)).bind fun (w, x, y, z) => bif w == 0 then (Kn ((x, y, z), [(-1), 100000, 100001])).bind fun (a1, b1, c1, d1) => some ((d, e, f, g, h, i, j, k, a1, m, n, o, p, q, r, s), b1, c1, d1) else bif w == 1 then chk (decide (0 < n.length)) (chk (decide (0 < n.length)) ((some (List.getD n 0 (0, 0, [], 0, 0))).bind fun (a1, b1, c1, d1, e1) => chk (decide (0 < n.length)) (chk (decide (0 < n.length)) ((some (List.set n 0 ((List.getD n 0 (0, 0, [], 0, 0)).1, (List.getD n 0 (0, 0, [], 0, 0)).2.1, (List.getD n 0 (0, 0, [], 0, 0)).2.2.1, w64 (d1 + 1), (List.getD n 0 (0, 0, [], 0, 0)).2.2.2.2))).bind fun f1 => some ((d, e, f, g, h, i, j, k, l, m, f1, o, p, q, r, s), x, y, z))))) else bif w == 2 then chk (decide ((1 ≤ o.length) ∧ (o.length ≤ o.length))) (some ((d, e, f, g, h, i, j, k, l, m, n, List.drop 1 o, p, q, r, s), x, y, z)) else bif w == 3 then (Kn ((x, y, z), [0, 9, 1])).bind fun (a1, b1, c1, d1) => some ((a1, e, f, g, h, i, j, k, l, m, n, o, p, q, r, s), b1, c1, d1) else bif w == 4 then (Keo (x, y, z)).bind fun ((a1, b1, c1, d1, e1, f1, g1, h1, i1, j1), k1, l1, m1) => (some [(a1, b1, c1, d1, e1, f1, g1, h1, i1, j1)]).bind fun n1 => chk (fits (r.length + n1.length) 144) ((some (r ++ n1)).bind fun o1 => some ((d, e, f, g, h, i, j, k, l, m, n, o, p, q, o1, s), k1, l1, m1)) else bif w == 5 then (Kn ((x, y, z), [(-1), 1001])).bind fun (a1, b1, c1, d1) => some ((d, e, f, g, h, i, j, k, l, m, n, o, p, a1, r, s), b1, c1, d1) else bif w == 6 then (some (decide ((ln s) > 0))).bind fun a1 => bif a1 then chk (decide (0 < s.length)) (chk (decide (0 < s.length)) ((some (List.getD s 0 (0, 0, 0, [], 0, 0, 0, 0, [], [], []))).bind fun (b1, c1, d1, e1, f1, g1, h1, i1, j1, k1, l1) => chk (decide (0 < s.length)) (chk (decide (0 < s.length)) ((some (List.set s 0 (w64 (b1 + 1), (List.getD s 0 (0, 0, 0, [], 0, 0, 0, 0, [], [], [])).2))).bind fun m1 => some ((d, e, f, g, h, i, j, k, l, m, n, o, p, q, r, m1), x, y, z))))) else some ((d, e, f, g, h, i, j, k, l, m, n, o, p, q, r, s), x, y, z) else bif w == 7 then some ((d, e, f, g, h, i, j, k, l, true, n, o, p, q, r, s), x, y, z) else some ((d, e, f, g, h, i, j, k, l, m, n, o, p, q, r, s), x, y, z)
def Keh_e : FEnt := ⟨74, [.cell 2 true 16], [true], [(.box, cc28)], ⟨76, [⟨2, .box, cc0⟩, ⟨75, .box, cc28⟩]⟩, Keh⟩
theorem Keh_ok : FnOk Tryz.prog 77 Keh_e := fnOk_mk (tb := []) (c := (Tryz.f77.body).getD .skip) mixed Tryz.func77 (bC Kbv_ok (bC Kg_ok (bC Kn_ok (bC Keo_ok bN)))) (by kernel_rfl) (by kernel_rfl) (by kernel_rfl) trivial (by intro d; kernel_rfl)
def Kea : List Int → Option t132
 | a => (Kci a).bind fun (_, b, c, d) => (Keh (b, c, d)).bind fun ((e, f, g, h, i, j, k, l, m, n, o, p, q, r, s, t), u, v, w) => (Kg ((u, v, w), 3)).bind fun (x, y, z, a1) => (Kn ((y, z, a1), [0, 1, (-1), 5])).bind fun (b1, c1, d1, e1) => (Kn ((c1, d1, e1), [0, 1, 20, 9223372036854775807])).bind fun (f1, g1, h1, i1) => some ((e, f, g, h, i, j, k, l, m, n, o, p, q, r, s, t), x, b1, f1)
def Kea_e : FEnt := ⟨21, [.cell 2 true 16, .tmp 3, .tmp 4, .tmp 5], [], [(.one, [.dat (.list kB)])], ⟨23, [⟨2, .box, cc0⟩, ⟨3, .one, [.dat kI]⟩, ⟨4, .one, [.dat kI]⟩, ⟨5, .one, [.dat kI]⟩]⟩, Kea⟩
theorem Kea_ok : FnOk Tryz.prog 39 Kea_e := fnOk_mk (tb := []) (c := (Tryz.f39.body).getD .skip) mixed Tryz.func39 (bC Kci_ok (bC Keh_ok (bC Kg_ok (bC Kn_ok bN)))) (by kernel_rfl) (by kernel_rfl) (by kernel_rfl) trivial (by intro d; kernel_rfl)
def Kj : Int × Int × Int → Option Bool
 | (a, b, c) => bif decide (a ≥ b) then some (decide (a ≤ c)) else some false
def Kj_e : FEnt := ⟨15, [.tmp 6], [], [(.one, [.dat kI]), (.one, [.dat kI]), (.one, [.dat kI])], ⟨21, [⟨6, .one, [.dat .bool]⟩]⟩, Kj⟩
theorem Kj_ok : FnOk Tryz.prog 70 Kj_e := fnOk_mk (tb := []) (c := (Tryz.f70.body).getD .skip) mixed Tryz.func70 bN (by kernel_rfl) (by kernel_rfl) (by kernel_rfl) trivial (by intro d; kernel_rfl)
def Kay_s26 : List Int × Int × t13 → Option (List Int × Int × t13 ⊕ Bool ⊕ List Int × Int)
 | (a, b, c, d, e, f, g) => bif decide (g < f) then ix g e.length ((Kj (gx e g 0, c, d)).bind fun h => bif !h then some (.inr (.inl false)) else some (.inl (a, b, c, d, e, f, w64 (g + 1)))) else some (.inr (.inr (a, b)))
def Kay_n26 : NEnt := ⟨⟨35, [⟨0, .one, [.dat (.list kI)]⟩, ⟨1, .one, [.dat kI]⟩, ⟨2, .one, [.dat kI]⟩, ⟨3, .one, [.dat kI]⟩, ⟨11, .one, [.dat (.list kI)]⟩, ⟨12, .one, [.dat kI]⟩, ⟨13, .one, [.dat kI]⟩]⟩, [(.ret, ⟨35, [⟨8, .one, [.dat .bool]⟩]⟩), (.exit 0, ⟨35, [⟨0, .one, [.dat (.list kI)]⟩, ⟨1, .one, [.dat kI]⟩]⟩)], lp Kay_s26⟩
def Kay : List Int × Int × Int × Int → Option Bool
 | (a, b, c, d) => bx (lp Kay_s26 (a, b, c, d, a, ln a, 0)) (fun e => some e) fun (e, f) => some ((ln e) == f)
def Kay_e : FEnt := ⟨27, [.tmp 8], [], [(.one, [.dat (.list kI)]), (.one, [.dat kI]), (.one, [.dat kI]), (.one, [.dat kI])], ⟨35, [⟨8, .one, [.dat .bool]⟩]⟩, Kay⟩
theorem Kay_ok : FnOk Tryz.prog 207 Kay_e := fnOk_mk (tb := [(26, Kay_n26)]) (c := (Tryz.f207.body).getD .skip) mixed Tryz.func207 (bC Kj_ok bN) (by kernel_rfl) (by kernel_rfl) (by kernel_rfl) ⟨nodeLoop (by kernel_rfl) Kay_s26 (by kernel_rfl) (by intro d; kernel_rfl), trivial⟩ (by intro d; kernel_rfl)
def Kdq : t32 → Option Bool
 | (a, b, c, d, e, f, g, h) => (Kj (a, 1, 8)).bind fun i => bif i then (Kj (b, 1, 60)).bind fun j => bif j then (Kj (c, 1, 10)).bind fun k => bif k then (Kay (d, 3, 1, 4)).bind fun l => bif l then (Kj (e, 1, 100)).bind fun m => bif m then (Kj (f, 1, 20)).bind fun n => bif n then (Kj (g, 0, 20)).bind fun o => bif o then (Kj (h, 1, 50)).bind fun p => some p else some false else some false else some false else some false else some false else some false else some false
def Kdq_e : FEnt := ⟨41, [.tmp 2], [], [(.agg, cc18)], ⟨43, [⟨2, .one, [.dat .bool]⟩]⟩, Kdq⟩
theorem Kdq_ok : FnOk Tryz.prog 167 Kdq_e := fnOk_mk (tb := []) (c := (Tryz.f167.body).getD .skip) mixed Tryz.func167 (bC Kj_ok (bC Kay_ok bN)) (by kernel_rfl) (by kernel_rfl) (by kernel_rfl) trivial (by intro d; kernel_rfl)
def Kai_s26 : t29 → Option (t29 ⊕ Bool ⊕ Unit)
 | (a, b, c, d) => bif decide (d < c) then ix d b.length ((some (gx b d (0, 0))).bind fun (e, f) => (Kj (e, 0, 9999)).bind fun g => bif !g then some (.inr (.inl false)) else (Kj (f, e, 9999)).bind fun h => bif !h then some (.inr (.inl false)) else bif decide (d > 0) then ix (w64 (d - 1)) a.length ((some (gx a (w64 (d - 1)) (0, 0))).bind fun (i, j) => bif decide (e ≤ (w64 (j + 1))) then some (.inr (.inl false)) else some (.inl (a, b, c, w64 (d + 1)))) else some (.inl (a, b, c, w64 (d + 1)))) else some (.inr (.inr ()))
def Kai_n26 : NEnt := ⟨⟨43, [⟨0, .one, [.dat kk10]⟩, ⟨5, .one, [.dat kk10]⟩, ⟨6, .one, [.dat kI]⟩, ⟨7, .one, [.dat kI]⟩]⟩, [(.ret, ⟨43, [⟨2, .one, [.dat .bool]⟩]⟩), (.exit 0, ⟨43, []⟩)], lp Kai_s26⟩
def Kai : List (Int × Int) → Option Bool
 | a => bx (lp Kai_s26 (a, a, ln a, 0)) (fun b => some b) fun _ => some true
def Kai_e : FEnt := ⟨41, [.tmp 2], [], [(.one, [.dat kk10])], ⟨43, [⟨2, .one, [.dat .bool]⟩]⟩, Kai⟩
theorem Kai_ok : FnOk Tryz.prog 124 Kai_e := fnOk_mk (tb := [(26, Kai_n26)]) (c := (Tryz.f124.body).getD .skip) mixed Tryz.func124 (bC Kj_ok bN) (by kernel_rfl) (by kernel_rfl) (by kernel_rfl) ⟨nodeLoop (by kernel_rfl) Kai_s26 (by kernel_rfl) (by intro d; kernel_rfl), trivial⟩ (by intro d; kernel_rfl)
def Kdd : t8 → Option Bool
 | (a, b, c) => (Kai a).bind fun d => bif d then bif (ln a) == 0 then some true else chk (decide (0 < a.length)) ((some (List.getD a 0 (0, 0))).bind fun (e, f) => bif decide (e ≥ b) then ix (w64 ((ln a) - 1)) a.length ((some (gx a (w64 ((ln a) - 1)) (0, 0))).bind fun (g, h) => some (decide (h ≤ c))) else some false) else some false
def Kdd_e : FEnt := ⟨33, [.tmp 6], [], [(.one, [.dat kk10]), (.one, [.dat kI]), (.one, [.dat kI])], ⟨39, [⟨6, .one, [.dat .bool]⟩]⟩, Kdd⟩
theorem Kdd_ok : FnOk Tryz.prog 170 Kdd_e := fnOk_mk (tb := []) (c := (Tryz.f170.body).getD .skip) mixed Tryz.func170 (bC Kai_ok bN) (by kernel_rfl) (by kernel_rfl) (by kernel_rfl) trivial (by intro d; kernel_rfl)
def Kal_s122 : t14 → Option (t14 ⊕ Int)
 | (a, b, c, d) => bif decide (d < c) then ix d b.length ((some (gx b d (0, 0))).bind fun (e, f) => some (.inl (w64 (a + (w64 ((w64 (f - e)) + 1))), b, c, w64 (d + 1)))) else some (.inr a)
def Kal_n122 : NEnt := ⟨⟨27, [⟨3, .one, [.dat kI]⟩, ⟨9, .one, [.dat kk10]⟩, ⟨10, .one, [.dat kI]⟩, ⟨11, .one, [.dat kI]⟩]⟩, [(.exit 0, ⟨27, [⟨3, .one, [.dat kI]⟩]⟩)], lp Kal_s122⟩
def Kal : List (Int × Int) → Option Int
 | a => (Kai a).bind fun b => bif !b then some 0 else (lp Kal_s122 (0, a, ln a, 0)).bind fun c => some c
def Kal_e : FEnt := ⟨25, [.tmp 2], [], [(.one, [.dat kk10])], ⟨27, [⟨2, .one, [.dat kI]⟩]⟩, Kal⟩
theorem Kal_ok : FnOk Tryz.prog 79 Kal_e := fnOk_mk (tb := [(122, Kal_n122)]) (c := (Tryz.f79.body).getD .skip) mixed Tryz.func79 (bC Kai_ok bN) (by kernel_rfl) (by kernel_rfl) (by kernel_rfl) ⟨nodeLoop (by kernel_rfl) Kal_s122 (by kernel_rfl) (by intro d; kernel_rfl), trivial⟩ (by intro d; kernel_rfl)
def Kdt : t22 × Int → Option Bool
 | ((a, b, c, d, e), f) => (Kj (f, 1, 8)).bind fun g => bif g then (Kj (a, 0, 1000)).bind fun h => bif h then (Kj (b, 0, 60)).bind fun i => bif i then (Kdd (c, 1, b)).bind fun j => bif j then (Kal c).bind fun k => (Kj (d, 0, k)).bind fun l => bif l then bif decide (b ≤ (w64 (d + f))) then (Kj (e, 0, 1000000)).bind fun m => some m else some false else some false else some false else some false else some false else some false
def Kdt_e : FEnt := ⟨46, [.tmp 4], [], [(.agg, cc24), (.one, [.dat kI])], ⟨50, [⟨4, .one, [.dat .bool]⟩]⟩, Kdt⟩
theorem Kdt_ok : FnOk Tryz.prog 168 Kdt_e := fnOk_mk (tb := []) (c := (Tryz.f168.body).getD .skip) mixed Tryz.func168 (bC Kj_ok (bC Kdd_ok (bC Kal_ok bN))) (by kernel_rfl) (by kernel_rfl) (by kernel_rfl) trivial (by intro d; kernel_rfl)
def Kcq : List Int → Option (List Int)
 | a => chk (fits a.length 8) (some a)
def Kcq_e : FEnt := ⟨5, [.tmp 2], [], [(.one, [.dat (.list kI)])], ⟨7, [⟨2, .one, [.own true kI]⟩]⟩, Kcq⟩
theorem Kcq_ok : FnOk Tryz.prog 146 Kcq_e := fnOk_mk (tb := []) (c := (Tryz.f146.body).getD .skip) mixed Tryz.func146 bN (by kernel_rfl) (by kernel_rfl) (by kernel_rfl) trivial (by intro d; kernel_rfl)
def Kbi_s58 : List Int × t7 → Option (List Int × t7 ⊕ List Int)
 | (a, b, c, d) => bif decide (d < c) then ix d b.length (chk (fits (a.length + (gx b d []).length) 8) (some (.inl (a ++ (gx b d []), b, c, w64 (d + 1))))) else some (.inr a)
def Kbi_n58 : NEnt := ⟨⟨26, [⟨3, .one, [.own true kI]⟩, ⟨13, .one, [.dat kk11]⟩, ⟨14, .one, [.dat kI]⟩, ⟨15, .one, [.dat kI]⟩]⟩, [(.exit 0, ⟨26, [⟨3, .one, [.own true kI]⟩]⟩)], lp Kbi_s58⟩
def Kbi : t39 → Option (List Int)
 | (a, b, c, d, e, f, g) => (Kcq e).bind fun h => chk (fits (h.length + f.length) 8) ((lp Kbi_s58 (h ++ f, g, ln g, 0)).bind fun i => some i)
def Kbi_e : FEnt := ⟨24, [.tmp 2], [], [(.agg, cc17)], ⟨26, [⟨2, .one, [.own true kI]⟩]⟩, Kbi⟩
theorem Kbi_ok : FnOk Tryz.prog 119 Kbi_e := fnOk_mk (tb := [(58, Kbi_n58)]) (c := (Tryz.f119.body).getD .skip) mixed Tryz.func119 (bC Kcq_ok bN) (by kernel_rfl) (by kernel_rfl) (by kernel_rfl) ⟨nodeLoop (by kernel_rfl) Kbi_s58 (by kernel_rfl) (by intro d; kernel_rfl), trivial⟩ (by intro d; kernel_rfl)
def Kr_s122 : t39 × t4 → Option (t39 × t4 ⊕ Bool ⊕ t44)
 | ((a, b, c, d, e, f, g), h, i, j, k) => bif decide (k < j) then ix k i.length (lx k i.length ((Kj (gx i k 0, 0, 1000000000)).bind fun l => bif !l then some (.inr (.inl false)) else some (.inl ((a, b, c, d, e, f, g), w64 (h + (gx i k 0)), i, j, w64 (k + 1))))) else some (.inr (.inr ((a, b, c, d, e, f, g), h)))
def Kr_n122 : NEnt := ⟨⟨91, [⟨1, .box, cc17⟩, ⟨3, .one, [.dat kI]⟩, ⟨51, .one, [.own true kI]⟩, ⟨52, .one, [.dat kI]⟩, ⟨53, .one, [.dat kI]⟩]⟩, [(.ret, ⟨91, [⟨2, .one, [.dat .bool]⟩]⟩), (.exit 0, ⟨91, [⟨1, .box, cc17⟩, ⟨3, .one, [.dat kI]⟩]⟩)], lp Kr_s122⟩
def Kr_s250 : t39 × t4 → Option (t39 × t4 ⊕ Bool ⊕ t44)
 | ((a, b, c, d, e, f, g), h, i, j, k) => bif decide (k < j) then ix k i.length (bif decide ((gx i k 0) > 17) then some (.inr (.inl false)) else some (.inl ((a, b, c, d, e, f, g), h, i, j, w64 (k + 1)))) else some (.inr (.inr ((a, b, c, d, e, f, g), h)))
def Kr_n250 : NEnt := ⟨⟨91, [⟨1, .box, cc17⟩, ⟨3, .one, [.dat kI]⟩, ⟨65, .one, [.dat (.list kI)]⟩, ⟨66, .one, [.dat kI]⟩, ⟨67, .one, [.dat kI]⟩]⟩, [(.ret, ⟨91, [⟨2, .one, [.dat .bool]⟩]⟩), (.exit 2, ⟨91, [⟨1, .box, cc17⟩, ⟨3, .one, [.dat kI]⟩]⟩)], lp Kr_s250⟩
def Kr : t39 → Option Bool
 | (a, b, c, d, e, f, g) => bif (ln e) != 8 then some false else bif (ln f) != 8 then some false else bif (ln g) != 2 then some false else chk (decide (0 < g.length)) (bif (ln (List.getD g 0 [])) != 4 then some false else chk (decide (1 < g.length)) (bif (ln (List.getD g 1 [])) != 4 then some false else (Kbi (a, b, c, d, e, f, g)).bind fun h => chk (fits (h.length + [a, b, c, d].length) 8) (bx (lp Kr_s122 ((a, b, c, d, e, f, g), 0, h ++ [a, b, c, d], ln (h ++ [a, b, c, d]), 0)) (fun i => some i) fun ((i, j, k, l, m, n, o), p) => bx (lp Kr_s250 ((i, j, k, l, m, n, o), p, n, ln n, 0)) (fun q => some q) fun ((q, r, s, t, u, v, w), x) => bif q == 0 then some (x == 0) else bif decide (s ≤ t) then some (decide (t ≤ 1000000)) else some false)))
def Kr_e : FEnt := ⟨89, [.tmp 2], [], [(.agg, cc17)], ⟨91, [⟨2, .one, [.dat .bool]⟩]⟩, Kr⟩
theorem Kr_ok : FnOk Tryz.prog 99 Kr_e := fnOk_mk (tb := [(250, Kr_n250), (122, Kr_n122)]) (c := (Tryz.f99.body).getD .skip) mixed Tryz.func99 (bC Kbi_ok (bC Kj_ok bN)) (by kernel_rfl) (by kernel_rfl) (by kernel_rfl) ⟨nodeLoop (by kernel_rfl) Kr_s250 (by kernel_rfl) (by intro d; kernel_rfl), nodeLoop (by kernel_rfl) Kr_s122 (by kernel_rfl) (by intro d; kernel_rfl), trivial⟩ (by intro d; kernel_rfl)
def Kdr : t55 → Option Bool
 | (a, b, c, d, e, f, g, h, i, j) => (Kj (a, 0, 4)).bind fun k => bif k then (Kj (b, 0, 20)).bind fun l => bif l then (Kai c).bind fun m => bif m then bif decide ((ln c) > 0) then (Kr (d, e, f, g, h, i, j)).bind fun n => some n else some false else some false else some false else some false
def Kdr_e : FEnt := ⟨27, [.tmp 2], [], [(.agg, cc15)], ⟨29, [⟨2, .one, [.dat .bool]⟩]⟩, Kdr⟩
theorem Kdr_ok : FnOk Tryz.prog 71 Kdr_e := fnOk_mk (tb := []) (c := (Tryz.f71.body).getD .skip) mixed Tryz.func71 (bC Kj_ok (bC Kai_ok (bC Kr_ok bN))) (by kernel_rfl) (by kernel_rfl) (by kernel_rfl) trivial (by intro d; kernel_rfl)
def Kx_s14950 : List (Int × Int) × (Int × Int) × List (Int × Int) × t22 → Option (List (Int × Int) × (Int × Int) × List (Int × Int) × t22 ⊕ Bool ⊕ t29)
 | (a, (b, c), d, e, f, g, h, i) => bif decide (i < h) then ix i g.length ((some (gx g i (0, 0))).bind fun (j, k) => bif decide (b ≤ k) then bif decide (j ≤ c) then some (.inr (.inl false)) else some (.inl (a, (b, c), d, e, f, g, h, w64 (i + 1))) else some (.inl (a, (b, c), d, e, f, g, h, w64 (i + 1)))) else some (.inr (.inr (a, d, e, f)))
def Kx_n14950 : NEnt := ⟨⟨47, [⟨1, .one, [.dat kk10]⟩, ⟨6, .box, cc34⟩, ⟨17, .one, [.dat kk10]⟩, ⟨18, .one, [.dat kI]⟩, ⟨19, .one, [.dat kI]⟩, ⟨23, .one, [.dat kk10]⟩, ⟨24, .one, [.dat kI]⟩, ⟨25, .one, [.dat kI]⟩]⟩, [(.ret, ⟨47, [⟨4, .one, [.dat .bool]⟩]⟩), (.exit 2, ⟨47, [⟨1, .one, [.dat kk10]⟩, ⟨17, .one, [.dat kk10]⟩, ⟨18, .one, [.dat kI]⟩, ⟨19, .one, [.dat kI]⟩]⟩)], lp Kx_s14950⟩
def Kx_s58 : t29 → Option (t29 ⊕ Bool ⊕ Unit)
 | (a, b, c, d) => bif decide (d < c) then ix d b.length ((some (gx b d (0, 0))).bind fun (e, f) => bx (lp Kx_s14950 (a, (e, f), b, c, d, a, ln a, 0)) (fun g => some (.inr (.inl g))) fun (g, h, i, j) => some (.inl (g, h, i, w64 (j + 1)))) else some (.inr (.inr ()))
def Kx_n58 : NEnt := ⟨⟨47, [⟨1, .one, [.dat kk10]⟩, ⟨17, .one, [.dat kk10]⟩, ⟨18, .one, [.dat kI]⟩, ⟨19, .one, [.dat kI]⟩]⟩, [(.ret, ⟨47, [⟨4, .one, [.dat .bool]⟩]⟩), (.exit 0, ⟨47, []⟩)], lp Kx_s58⟩
def Kx : t16 → Option Bool
 | (a, b) => (Kai a).bind fun c => bif !c then some false else (Kai b).bind fun d => bif !d then some false else bx (lp Kx_s58 (b, a, ln a, 0)) (fun e => some e) fun _ => some true
def Kx_e : FEnt := ⟨43, [.tmp 4], [], [(.one, [.dat kk10]), (.one, [.dat kk10])], ⟨47, [⟨4, .one, [.dat .bool]⟩]⟩, Kx⟩
theorem Kx_ok : FnOk Tryz.prog 174 Kx_e := fnOk_mk (tb := [(14950, Kx_n14950), (58, Kx_n58)]) (c := (Tryz.f174.body).getD .skip) mixed Tryz.func174 (bC Kai_ok bN) (by kernel_rfl) (by kernel_rfl) (by kernel_rfl) ⟨nodeLoop (by kernel_rfl) Kx_s14950 (by kernel_rfl) (by intro d; kernel_rfl), nodeLoop (by kernel_rfl) Kx_s58 (by kernel_rfl) (by intro d; kernel_rfl), trivial⟩ (by intro d; kernel_rfl)
def Ku_s13518 : List t55 × t55 × List t55 × Int × Int × t68 → Option (List t55 × t55 × List t55 × Int × Int × t68 ⊕ Bool ⊕ t91)
 | (a, (b, c, d, e, f, g, h, i, j, k), l, m, n, o, p, q) => bif decide (q < p) then ix q o.length ((some (gx o q (0, 0, [], 0, 0, 0, 0, [], [], []))).bind fun (r, s, t, u, v, w, x, y, z, a1) => (Kx (d, t)).bind fun b1 => bif !b1 then some (.inr (.inl false)) else some (.inl (a, (b, c, d, e, f, g, h, i, j, k), l, m, n, o, p, w64 (q + 1)))) else some (.inr (.inr (a, l, m, n)))
def Ku_n13518 : NEnt := ⟨⟨35, [⟨0, .one, [.dat kk4]⟩, ⟨4, .box, cc15⟩, ⟨7, .one, [.dat kk4]⟩, ⟨8, .one, [.dat kI]⟩, ⟨9, .one, [.dat kI]⟩, ⟨19, .one, [.dat kk4]⟩, ⟨20, .one, [.dat kI]⟩, ⟨21, .one, [.dat kI]⟩]⟩, [(.ret, ⟨35, [⟨2, .one, [.dat .bool]⟩]⟩), (.exit 2, ⟨35, [⟨0, .one, [.dat kk4]⟩, ⟨7, .one, [.dat kk4]⟩, ⟨8, .one, [.dat kI]⟩, ⟨9, .one, [.dat kI]⟩]⟩)], lp Ku_s13518⟩
def Ku_s26 : t91 → Option (t91 ⊕ Bool ⊕ Unit)
 | (a, b, c, d) => bif decide (d < c) then ix d b.length ((some (gx b d (0, 0, [], 0, 0, 0, 0, [], [], []))).bind fun (e, f, g, h, i, j, k, l, m, n) => (Kdr (e, f, g, h, i, j, k, l, m, n)).bind fun o => bif !o then some (.inr (.inl false)) else g0 d (chk (decide ((0 ≤ d.toNat) ∧ (d.toNat ≤ a.length))) ((some (ln (List.take d.toNat a))).bind fun p => bx (lp Ku_s13518 (a, (e, f, g, h, i, j, k, l, m, n), b, c, d, List.take d.toNat a, p, 0)) (fun q => some (.inr (.inl q))) fun (q, r, s, t) => some (.inl (q, r, s, w64 (t + 1)))))) else some (.inr (.inr ()))
def Ku_n26 : NEnt := ⟨⟨35, [⟨0, .one, [.dat kk4]⟩, ⟨7, .one, [.dat kk4]⟩, ⟨8, .one, [.dat kI]⟩, ⟨9, .one, [.dat kI]⟩]⟩, [(.ret, ⟨35, [⟨2, .one, [.dat .bool]⟩]⟩), (.exit 0, ⟨35, []⟩)], lp Ku_s26⟩
def Ku : List t55 → Option Bool
 | a => bx (lp Ku_s26 (a, a, ln a, 0)) (fun b => some b) fun _ => some true
def Ku_e : FEnt := ⟨33, [.tmp 2], [], [(.one, [.dat kk4])], ⟨35, [⟨2, .one, [.dat .bool]⟩]⟩, Ku⟩
theorem Ku_ok : FnOk Tryz.prog 127 Ku_e := fnOk_mk (tb := [(13518, Ku_n13518), (26, Ku_n26)]) (c := (Tryz.f127.body).getD .skip) mixed Tryz.func127 (bC Kdr_ok (bC Kx_ok bN)) (by kernel_rfl) (by kernel_rfl) (by kernel_rfl) ⟨nodeLoop (by kernel_rfl) Ku_s13518 (by kernel_rfl) (by intro d; kernel_rfl), nodeLoop (by kernel_rfl) Ku_s26 (by kernel_rfl) (by intro d; kernel_rfl), trivial⟩ (by intro d; kernel_rfl)
def Kdc : List t55 → Option Bool
 | a => (some (decide ((ln a) ≤ 24))).bind fun b => bif b then (Ku a).bind fun c => some c else some false
def Kdc_e : FEnt := ⟨12, [.tmp 2], [], [(.agg, [.dat kk4])], ⟨14, [⟨2, .one, [.dat .bool]⟩]⟩, Kdc⟩
theorem Kdc_ok : FnOk Tryz.prog 169 Kdc_e := fnOk_mk (tb := []) (c := (Tryz.f169.body).getD .skip) mixed Tryz.func169 (bC Ku_ok bN) (by kernel_rfl) (by kernel_rfl) (by kernel_rfl) trivial (by intro d; kernel_rfl)
def Kde : List (Int × Int) → Option (List (Int × Int))
 | a => chk (fits a.length 16) (some a)
def Kde_e : FEnt := ⟨5, [.tmp 2], [], [(.one, [.dat kk10])], ⟨7, [⟨2, .one, cc32⟩]⟩, Kde⟩
theorem Kde_ok : FnOk Tryz.prog 177 Kde_e := fnOk_mk (tb := []) (c := (Tryz.f177.body).getD .skip) mixed Tryz.func177 bN (by kernel_rfl) (by kernel_rfl) (by kernel_rfl) trivial (by intro d; kernel_rfl)
def Kao_s250 : List (Int × Int) × List (Int × Int) × (Unit × Unit × Unit) × Int × Int → Option (List (Int × Int) × List (Int × Int) × (Unit × Unit × Unit) × Int × Int ⊕ List (Int × Int))
 | (a, b, (_, _, _), c, d) => bif decide (d < c) then ix d a.length (lx d a.length ((some (gx a d (0, 0))).bind fun (e, f) => bif decide ((ln b) > 0) then ix (w64 ((ln b) - 1)) b.length (lx (w64 ((ln b) - 1)) b.length ((some (gx b (w64 ((ln b) - 1)) (0, 0))).bind fun (g, h) => bif decide (e ≤ (w64 (h + 1))) then ix (w64 ((ln b) - 1)) b.length (lx (w64 ((ln b) - 1)) b.length ((some (gx b (w64 ((ln b) - 1)) (0, 0))).bind fun (i, j) => ix (w64 ((ln b) - 1)) b.length (lx (w64 ((ln b) - 1)) b.length ((some (sx b (w64 ((ln b) - 1)) ((gx b (w64 ((ln b) - 1)) (0, 0)).1, if f > j then f else j))).bind fun k => some (.inl (a, k, ((), (), ()), c, w64 (d + 1))))))) else chk (fits (b.length + [(e, f)].length) 16) (some (.inl (a, b ++ [(e, f)], ((), (), ()), c, w64 (d + 1)))))) else chk (fits (b.length + [(e, f)].length) 16) (some (.inl (a, b ++ [(e, f)], ((), (), ()), c, w64 (d + 1)))))) else some (.inr b)
def Kao_n250 : NEnt := ⟨⟨56, [⟨3, .one, cc32⟩, ⟨4, .one, cc32⟩, ⟨12, .one, [.ref 3 0 [] false false (.pair kI kI)]⟩, ⟨13, .one, [.dat kI]⟩, ⟨14, .one, [.dat kI]⟩]⟩, [(.exit 0, ⟨56, [⟨4, .one, cc32⟩]⟩)], lp Kao_s250⟩
def Kao : List (Int × Int) → Option (List (Int × Int))
 | a => (Kde a).bind fun b => (slices_SortFunc (b, ())).bind fun c => (lp Kao_s250 (c, [], ((), (), ()), ln c, 0)).bind fun d => some d
def Kao_e : FEnt := ⟨54, [.tmp 2], [], [(.one, [.dat kk10])], ⟨56, [⟨2, .one, cc32⟩]⟩, Kao⟩
theorem Kao_ok : FnOk Tryz.prog 131 Kao_e := fnOk_mk (tb := [(250, Kao_n250)]) (c := (Tryz.f131.body).getD .skip) mixed Tryz.func131 (bC Kde_ok (bC slices_SortFunc_ok bN)) (by kernel_rfl) (by kernel_rfl) (by kernel_rfl) ⟨nodeLoop (by kernel_rfl) Kao_s250 (by kernel_rfl) (by intro d; kernel_rfl), trivial⟩ (by intro d; kernel_rfl)
def Kam_s58 : List (Int × Int) × t68 → Option (List (Int × Int) × t68 ⊕ List (Int × Int))
 | (a, b, c, d) => bif decide (d < c) then ix d b.length ((some (gx b d (0, 0, [], 0, 0, 0, 0, [], [], []))).bind fun (e, f, g, h, i, j, k, l, m, n) => chk (fits (a.length + g.length) 16) (some (.inl (a ++ g, b, c, w64 (d + 1))))) else some (.inr a)
def Kam_n58 : NEnt := ⟨⟨21, [⟨3, .one, cc32⟩, ⟨6, .one, [.dat kk4]⟩, ⟨7, .one, [.dat kI]⟩, ⟨8, .one, [.dat kI]⟩]⟩, [(.exit 0, ⟨21, [⟨3, .one, cc32⟩]⟩)], lp Kam_s58⟩
def Kam : List t55 → Option (List (Int × Int))
 | a => (lp Kam_s58 ([], a, ln a, 0)).bind fun b => (Kao b).bind fun c => some c
def Kam_e : FEnt := ⟨19, [.tmp 2], [], [(.one, [.dat kk4])], ⟨21, [⟨2, .one, cc32⟩]⟩, Kam⟩
theorem Kam_ok : FnOk Tryz.prog 128 Kam_e := fnOk_mk (tb := [(58, Kam_n58)]) (c := (Tryz.f128.body).getD .skip) mixed Tryz.func128 (bC Kao_ok bN) (by kernel_rfl) (by kernel_rfl) (by kernel_rfl) ⟨nodeLoop (by kernel_rfl) Kam_s58 (by kernel_rfl) (by intro d; kernel_rfl), trivial⟩ (by intro d; kernel_rfl)
def Kds : List t55 → Option (List (Int × Int))
 | a => (Kdc a).bind fun b => bif !b then some [] else (Kam a).bind fun c => some c
def Kds_e : FEnt := ⟨9, [.tmp 2], [], [(.agg, [.dat kk4])], ⟨11, [⟨2, .one, cc32⟩]⟩, Kds⟩
theorem Kds_ok : FnOk Tryz.prog 171 Kds_e := fnOk_mk (tb := []) (c := (Tryz.f171.body).getD .skip) mixed Tryz.func171 (bC Kdc_ok (bC Kam_ok bN)) (by kernel_rfl) (by kernel_rfl) (by kernel_rfl) trivial (by intro d; kernel_rfl)
def Kco : Int × Int → Option Int
 | (a, b) => (Kj (a, 0, 2)).bind fun c => bif !c then some (-1) else (Kj (b, 1, 60)).bind fun d => bif !d then some (-1) else some (w64 ((w64 (100 * a)) + b))
def Kco_e : FEnt := ⟨17, [.tmp 4], [], [(.one, [.dat kI]), (.one, [.dat kI])], ⟨21, [⟨4, .one, [.dat kI]⟩]⟩, Kco⟩
theorem Kco_ok : FnOk Tryz.prog 130 Kco_e := fnOk_mk (tb := []) (c := (Tryz.f130.body).getD .skip) mixed Tryz.func130 (bC Kj_ok bN) (by kernel_rfl) (by kernel_rfl) (by kernel_rfl) trivial (by intro d; kernel_rfl)
def Kdw : Int × Bool × List Int → Option Bool
 | (a, b, c) => (Kj (a, 0, 2)).bind fun d => bif d then (Kay (c, 3, 0, 1000)).bind fun e => some e else some false
def Kdw_e : FEnt := ⟨11, [.tmp 2], [], [(.agg, cc26)], ⟨13, [⟨2, .one, [.dat .bool]⟩]⟩, Kdw⟩
theorem Kdw_ok : FnOk Tryz.prog 172 Kdw_e := fnOk_mk (tb := []) (c := (Tryz.f172.body).getD .skip) mixed Tryz.func172 (bC Kj_ok (bC Kay_ok bN)) (by kernel_rfl) (by kernel_rfl) (by kernel_rfl) trivial (by intro d; kernel_rfl)
def Kdx : t55 × t55 → Option Bool
 | ((a, b, c, d, e, f, g, h, i, j), k, l, m, n, o, p, q, r, s, t) => bif decide (a < k) then some true else bif a == k then some (decide (b < l)) else some false
def Kdx_e : FEnt := ⟨24, [.tmp 4], [], [(.agg, cc15), (.agg, cc15)], ⟨28, [⟨4, .one, [.dat .bool]⟩]⟩, Kdx⟩
theorem Kdx_ok : FnOk Tryz.prog 173 Kdx_e := fnOk_mk (tb := []) (c := (Tryz.f173.body).getD .skip) mixed Tryz.func173 bN (by kernel_rfl) (by kernel_rfl) (by kernel_rfl) trivial (by intro d; kernel_rfl)
def Kh_s29902 : t129 × Int × List t22 × Int × Int × Unit × List (List (List t55)) × Int × t69 × List (List t55) × Int × Bool × t73 → Option (t129 × Int × List t22 × Int × Int × Unit × List (List (List t55)) × Int × t69 × List (List t55) × Int × Bool × t73 ⊕ Bool ⊕ t129 × List t22 × Int × t118)
 | ((a, b, c, d, e, f, g, h, i, j, k, l, m, n, o, p), q, r, s, t, _, u, v, (w, _), x, y, z, a1, b1, c1) => bif decide (c1 < b1) then ix c1 a1.length ((some (gx a1 c1 [])).bind fun d1 => (Kdc d1).bind fun e1 => bif !e1 then some (.inr (.inl false)) else (Kds d1).bind fun f1 => (Kco (q, 1)).bind fun g1 => (Kco (q, 60)).bind fun h1 => (Kdd (f1, g1, h1)).bind fun i1 => bif !i1 then some (.inr (.inl false)) else some (.inl ((a, b, c, d, e, f, g, h, i, j, k, l, m, n, o, p), q, r, s, t, (), u, v, (w, ()), x, y, z, a1, b1, w64 (c1 + 1)))) else some (.inr (.inr ((a, b, c, d, e, f, g, h, i, j, k, l, m, n, o, p), r, s, t, (), u, v, (w, ()), x, y, z)))
def Kh_n29902 : NEnt := ⟨⟨128, [⟨1, .box, cc7⟩, ⟨3, .one, [.dat kI]⟩, ⟨46, .one, [.dat kk6]⟩, ⟨47, .one, [.dat kI]⟩, ⟨48, .one, [.dat kI]⟩, ⟨60, .one, [.bptr 1 11]⟩, ⟨61, .one, [.dat kk0]⟩, ⟨62, .one, [.dat kI]⟩, ⟨63, .one, [.pim [kk2] 0]⟩, ⟨64, .one, [.dat kk2]⟩, ⟨65, .one, [.dat kI]⟩, ⟨66, .one, [.dat .bool]⟩, ⟨72, .one, [.dat kk2]⟩, ⟨73, .one, [.dat kI]⟩, ⟨74, .one, [.dat kI]⟩]⟩, [(.ret, ⟨128, [⟨2, .one, [.dat .bool]⟩]⟩), (.exit 2, ⟨128, [⟨1, .box, cc7⟩, ⟨46, .one, [.dat kk6]⟩, ⟨47, .one, [.dat kI]⟩, ⟨48, .one, [.dat kI]⟩, ⟨60, .one, [.bptr 1 11]⟩, ⟨61, .one, [.dat kk0]⟩, ⟨62, .one, [.dat kI]⟩, ⟨63, .one, [.pim [kk2] 0]⟩, ⟨64, .one, [.dat kk2]⟩, ⟨65, .one, [.dat kI]⟩, ⟨66, .one, [.dat .bool]⟩]⟩)], lp Kh_s29902⟩
def Kh_s58 : t129 × t37 → Option (t129 × t37 ⊕ Bool ⊕ t129)
 | ((a, b, c, d, e, f, g, h, i, j, k, l, m, n, o, p), q, r, s) => bif decide (s < r) then ix s q.length ((some (gx q s (0, 0, [], 0, 0))).bind fun (t, u, v, w, x) => (Kdt ((t, u, v, w, x), a)).bind fun y => bif !y then some (.inr (.inl false)) else ix s l.length ((some (gx l s [])).bind fun z => bif (ln z) != 2 then some (.inr (.inl false)) else ix s l.length ((some (gx l s [])).bind fun a1 => bx (lp Kh_s29902 ((a, b, c, d, e, f, g, h, i, j, k, l, m, n, o, p), s, q, r, s, (), l, s, (gx l s [], ()), z, ln z, (ln z) != 2, a1, ln a1, 0)) (fun b1 => some (.inr (.inl b1))) fun ((b1, c1, d1, e1, f1, g1, h1, i1, j1, k1, l1, m1, n1, o1, p1, q1), r1, s1, t1, _, u1, v1, (w1, _), x1, y1, z1) => some (.inl ((b1, c1, d1, e1, f1, g1, h1, i1, j1, k1, l1, m1, n1, o1, p1, q1), r1, s1, w64 (t1 + 1)))))) else some (.inr (.inr (a, b, c, d, e, f, g, h, i, j, k, l, m, n, o, p)))
def Kh_n58 : NEnt := ⟨⟨128, [⟨1, .box, cc7⟩, ⟨46, .one, [.dat kk6]⟩, ⟨47, .one, [.dat kI]⟩, ⟨48, .one, [.dat kI]⟩]⟩, [(.ret, ⟨128, [⟨2, .one, [.dat .bool]⟩]⟩), (.exit 0, ⟨128, [⟨1, .box, cc7⟩]⟩)], lp Kh_s58⟩
def Kh_s122 : t129 × List (Int × Bool × List Int) × Int × Int → Option (t129 × List (Int × Bool × List Int) × Int × Int ⊕ Bool ⊕ t129)
 | ((a, b, c, d, e, f, g, h, i, j, k, l, m, n, o, p), q, r, s) => bif decide (s < r) then ix s q.length ((some (gx q s (0, false, []))).bind fun (t, u, v) => (Kdw (t, u, v)).bind fun w => bif !w then some (.inr (.inl false)) else some (.inl ((a, b, c, d, e, f, g, h, i, j, k, l, m, n, o, p), q, r, w64 (s + 1)))) else some (.inr (.inr (a, b, c, d, e, f, g, h, i, j, k, l, m, n, o, p)))
def Kh_n122 : NEnt := ⟨⟨128, [⟨1, .box, cc7⟩, ⟨94, .one, [.dat kk8]⟩, ⟨95, .one, [.dat kI]⟩, ⟨96, .one, [.dat kI]⟩]⟩, [(.ret, ⟨128, [⟨2, .one, [.dat .bool]⟩]⟩), (.exit 4, ⟨128, [⟨1, .box, cc7⟩]⟩)], lp Kh_s122⟩
def Kh_s250 : t129 × t68 → Option (t129 × t68 ⊕ Bool ⊕ Unit)
 | ((a, b, c, d, e, f, g, h, i, j, k, l, m, n, o, p), q, r, s) => bif decide (s < r) then ix s q.length ((some (gx q s (0, 0, [], 0, 0, 0, 0, [], [], []))).bind fun (t, u, v, w, x, y, z, a1, b1, c1) => bif decide (s > 0) then ix (w64 (s - 1)) o.length ((some (gx o (w64 (s - 1)) (0, 0, [], 0, 0, 0, 0, [], [], []))).bind fun (d1, e1, f1, g1, h1, i1, j1, k1, l1, m1) => (Kdx ((d1, e1, f1, g1, h1, i1, j1, k1, l1, m1), t, u, v, w, x, y, z, a1, b1, c1)).bind fun n1 => bif !n1 then some (.inr (.inl false)) else some (.inl ((a, b, c, d, e, f, g, h, i, j, k, l, m, n, o, p), q, r, w64 (s + 1)))) else some (.inl ((a, b, c, d, e, f, g, h, i, j, k, l, m, n, o, p), q, r, w64 (s + 1)))) else some (.inr (.inr ()))
def Kh_n250 : NEnt := ⟨⟨128, [⟨1, .box, cc7⟩, ⟨105, .one, [.dat kk4]⟩, ⟨106, .one, [.dat kI]⟩, ⟨107, .one, [.dat kI]⟩]⟩, [(.ret, ⟨128, [⟨2, .one, [.dat .bool]⟩]⟩), (.exit 6, ⟨128, []⟩)], lp Kh_s250⟩
def Kh : t129 → Option Bool
 | (a, b, c, d, e, f, g, h, i, j, k, l, m, n, o, p) => (Kdq (a, b, c, d, e, f, g, h)).bind fun q => bif !q then some false else (Kj (i, 0, 100000)).bind fun r => bif !r then some false else bif (ln k) != 3 then some false else bif (ln l) != 3 then some false else bif (ln m) != 2 then some false else (Kj (n, 0, 1000)).bind fun s => bif !s then some false else bx (lp Kh_s58 ((a, b, c, d, e, f, g, h, i, j, k, l, m, n, o, p), k, ln k, 0)) (fun t => some t) fun (t, u, v, w, x, y, z, a1, b1, c1, d1, e1, f1, g1, h1, i1) => bx (lp Kh_s122 ((t, u, v, w, x, y, z, a1, b1, c1, d1, e1, f1, g1, h1, i1), f1, ln f1, 0)) (fun j1 => some j1) fun (j1, k1, l1, m1, n1, o1, p1, q1, r1, s1, t1, u1, v1, w1, x1, y1) => bx (lp Kh_s250 ((j1, k1, l1, m1, n1, o1, p1, q1, r1, s1, t1, u1, v1, w1, x1, y1), x1, ln x1, 0)) (fun z1 => some z1) fun _ => some true
def Kh_e : FEnt := ⟨126, [.tmp 2], [], [(.agg, cc7)], ⟨128, [⟨2, .one, [.dat .bool]⟩]⟩, Kh⟩
theorem Kh_ok : FnOk Tryz.prog 126 Kh_e := fnOk_mk (tb := [(250, Kh_n250), (122, Kh_n122), (29902, Kh_n29902), (58, Kh_n58)]) (c := (Tryz.f126.body).getD .skip) mixed Tryz.func126 (bC Kdq_ok (bC Kj_ok (bC Kdt_ok (bC Kdc_ok (bC Kds_ok (bC Kco_ok (bC Kdd_ok (bC Kdw_ok (bC Kdx_ok bN))))))))) (by kernel_rfl) (by kernel_rfl) (by kernel_rfl) ⟨nodeLoop (by kernel_rfl) Kh_s250 (by kernel_rfl) (by intro d; kernel_rfl), nodeLoop (by kernel_rfl) Kh_s122 (by kernel_rfl) (by intro d; kernel_rfl), nodeLoop (by kernel_rfl) Kh_s29902 (by kernel_rfl) (by intro d; kernel_rfl), nodeLoop (by kernel_rfl) Kh_s58 (by kernel_rfl) (by intro d; kernel_rfl), trivial⟩ (by intro d; kernel_rfl)
def Kq_s14950 : List t55 × List (List (List t55)) × Int × Int × t73 → Option (List t55 × List (List (List t55)) × Int × Int × t73 ⊕ List t55 × t78)
 | (a, b, c, d, e, f, g) => bif decide (g < f) then ix g e.length ((some (gx e g [])).bind fun h => chk (fits (a.length + h.length) 144) ((some (a ++ h)).bind fun i => some (.inl (i, b, c, d, e, f, w64 (g + 1))))) else some (.inr (a, b, c, d))
def Kq_n14950 : NEnt := ⟨⟨30, [⟨3, .one, [.own false kk5]⟩, ⟨9, .one, [.dat kk0]⟩, ⟨10, .one, [.dat kI]⟩, ⟨11, .one, [.dat kI]⟩, ⟨15, .one, [.dat kk2]⟩, ⟨16, .one, [.dat kI]⟩, ⟨17, .one, [.dat kI]⟩]⟩, [(.exit 2, ⟨30, [⟨3, .one, [.own false kk5]⟩, ⟨9, .one, [.dat kk0]⟩, ⟨10, .one, [.dat kI]⟩, ⟨11, .one, [.dat kI]⟩]⟩)], lp Kq_s14950⟩
def Kq_s58 : List t55 × t78 → Option (List t55 × t78 ⊕ List t55)
 | (a, b, c, d) => bif decide (d < c) then ix d b.length ((some (gx b d [])).bind fun e => (lp Kq_s14950 (a, b, c, d, e, ln e, 0)).bind fun (f, g, h, i) => some (.inl (f, g, h, w64 (i + 1)))) else some (.inr a)
def Kq_n58 : NEnt := ⟨⟨30, [⟨3, .one, [.own false kk5]⟩, ⟨9, .one, [.dat kk0]⟩, ⟨10, .one, [.dat kI]⟩, ⟨11, .one, [.dat kI]⟩]⟩, [(.exit 0, ⟨30, [⟨3, .one, [.own false kk5]⟩]⟩)], lp Kq_s58⟩
def Kq : t129 → Option (List t55)
 | (a, b, c, d, e, f, g, h, i, j, k, l, m, n, o, p) => (lp Kq_s58 ([], l, ln l, 0)).bind fun q => some q
def Kq_e : FEnt := ⟨28, [.tmp 2], [], [(.agg, cc7)], ⟨30, [⟨2, .one, [.own false kk5]⟩]⟩, Kq⟩
theorem Kq_ok : FnOk Tryz.prog 93 Kq_e := fnOk_mk (tb := [(14950, Kq_n14950), (58, Kq_n58)]) (c := (Tryz.f93.body).getD .skip) mixed Tryz.func93 bN (by kernel_rfl) (by kernel_rfl) (by kernel_rfl) ⟨nodeLoop (by kernel_rfl) Kq_s14950 (by kernel_rfl) (by intro d; kernel_rfl), nodeLoop (by kernel_rfl) Kq_s58 (by kernel_rfl) (by intro d; kernel_rfl), trivial⟩ (by intro d; kernel_rfl)
def Kah_s58 : List t55 × t72 → Option (List t55 × t72 ⊕ List t55)
 | (a, b, c, d) => bif decide (d < c) then ix d b.length ((some (gx b d (0, 0, 0, [], 0, 0, 0, 0, [], [], []))).bind fun (e, f, g, h, i, j, k, l, m, n, o) => (some [(f, g, h, i, j, k, l, m, n, o)]).bind fun p => chk (fits (a.length + p.length) 144) ((some (a ++ p)).bind fun q => some (.inl (q, b, c, w64 (d + 1))))) else some (.inr a)
def Kah_n58 : NEnt := ⟨⟨25, [⟨3, .one, [.own false kk5]⟩, ⟨10, .one, [.dat kk1]⟩, ⟨11, .one, [.dat kI]⟩, ⟨12, .one, [.dat kI]⟩]⟩, [(.exit 0, ⟨25, [⟨3, .one, [.own false kk5]⟩]⟩)], lp Kah_s58⟩
def Kah : t129 → Option (List t55)
 | (a, b, c, d, e, f, g, h, i, j, k, l, m, n, o, p) => chk (fits o.length 144) ((lp Kah_s58 (o, p, ln p, 0)).bind fun q => some q)
def Kah_e : FEnt := ⟨23, [.tmp 2], [], [(.agg, cc7)], ⟨25, [⟨2, .one, [.own false kk5]⟩]⟩, Kah⟩
theorem Kah_ok : FnOk Tryz.prog 91 Kah_e := fnOk_mk (tb := [(58, Kah_n58)]) (c := (Tryz.f91.body).getD .skip) mixed Tryz.func91 bN (by kernel_rfl) (by kernel_rfl) (by kernel_rfl) ⟨nodeLoop (by kernel_rfl) Kah_s58 (by kernel_rfl) (by intro d; kernel_rfl), trivial⟩ (by intro d; kernel_rfl)
def Ker : (Int × Int) × Int × Unit → Option Bool
 | ((a, b), c, _) => (Kj (c, a, b)).bind fun d => some d
def Ker_e : FEnt := ⟨10, [.tmp 3], [], [(.agg, cc34), (.one, [.pim [kI] 0])], ⟨14, [⟨3, .one, [.dat .bool]⟩]⟩, Ker⟩
theorem Ker_ok : FnOk Tryz.prog 176 Ker_e := fnOk_mk (tb := []) (c := (Tryz.f176.body).getD .skip) mixed Tryz.func176 (bC Kj_ok bN) (by kernel_rfl) (by kernel_rfl) (by kernel_rfl) trivial (by intro d; kernel_rfl)
def Ki_s26 : List (Int × Int) × ((Int × Unit) × Unit) × Int × Int → Option (List (Int × Int) × ((Int × Unit) × Unit) × Int × Int ⊕ Int ⊕ Unit)
 | (a, ((b, _), _), c, d) => bif decide (d < c) then ix d a.length ((some (gx a d (0, 0))).bind fun (e, f) => (Ker ((e, f), b, ())).bind fun g => bif g then some (.inr (.inl d)) else some (.inl (a, ((b, ()), ()), c, w64 (d + 1)))) else some (.inr (.inr ()))
def Ki_n26 : NEnt := ⟨⟨23, [⟨0, .one, [.dat kk10]⟩, ⟨1, .one, cc33⟩, ⟨7, .one, [.dat kI]⟩, ⟨8, .one, [.dat kI]⟩]⟩, [(.ret, ⟨23, [⟨4, .one, [.dat kI]⟩]⟩), (.exit 0, ⟨23, []⟩)], lp Ki_s26⟩
def Ki : List (Int × Int) × (Int × Unit) × Unit → Option Int
 | (a, (b, _), _) => bx (lp Ki_s26 (a, ((b, ()), ()), ln a, 0)) (fun c => some c) fun _ => some (-1)
def Ki_e : FEnt := ⟨19, [.tmp 4], [], [(.one, [.dat kk10]), (.one, cc33)], ⟨23, [⟨4, .one, [.dat kI]⟩]⟩, Ki⟩
theorem Ki_ok : FnOk Tryz.prog 208 Ki_e := fnOk_mk (tb := [(26, Ki_n26)]) (c := (Tryz.f208.body).getD .skip) mixed Tryz.func208 (bC Ker_ok bN) (by kernel_rfl) (by kernel_rfl) (by kernel_rfl) ⟨nodeLoop (by kernel_rfl) Ki_s26 (by kernel_rfl) (by intro d; kernel_rfl), trivial⟩ (by intro d; kernel_rfl)
def Kes : List (Int × Int) × (Int × Unit) × Unit → Option Bool
 | (a, (b, _), _) => (Ki (a, (b, ()), ())).bind fun c => some (decide (c ≥ 0))
def Kes_e : FEnt := ⟨9, [.tmp 4], [], [(.one, [.dat kk10]), (.one, cc33)], ⟨13, [⟨4, .one, [.dat .bool]⟩]⟩, Kes⟩
theorem Kes_ok : FnOk Tryz.prog 175 Kes_e := fnOk_mk (tb := []) (c := (Tryz.f175.body).getD .skip) mixed Tryz.func175 (bC Ki_ok bN) (by kernel_rfl) (by kernel_rfl) (by kernel_rfl) trivial (by intro d; kernel_rfl)
def Kcc : t0 → Option Bool
 | (a, b) => (Kes (a, (b, ()), ())).bind fun c => some c
def Kcc_e : FEnt := ⟨8, [.tmp 4], [], [(.one, [.dat kk10]), (.one, [.dat kI])], ⟨12, [⟨4, .one, [.dat .bool]⟩]⟩, Kcc⟩
theorem Kcc_ok : FnOk Tryz.prog 129 Kcc_e := fnOk_mk (tb := []) (c := (Tryz.f129.body).getD .skip) mixed Tryz.func129 (bC Kes_ok bN) (by kernel_rfl) (by kernel_rfl) (by kernel_rfl) trivial (by intro d; kernel_rfl)
def Kbl_s58 : t29 → Option (t29 ⊕ Bool ⊕ Unit)
 | (a, b, c, d) => bif decide (d < c) then ix d a.length ((some (gx a d (0, 0))).bind fun (e, f) => ix d b.length ((some (gx b d (0, 0))).bind fun (g, h) => bif !((e == g) && ((f == h) && true)) then some (.inr (.inl false)) else some (.inl (a, b, c, w64 (d + 1))))) else some (.inr (.inr ()))
def Kbl_n58 : NEnt := ⟨⟨30, [⟨0, .one, [.dat kk10]⟩, ⟨1, .one, [.dat kk10]⟩, ⟨12, .one, [.dat kI]⟩, ⟨13, .one, [.dat kI]⟩]⟩, [(.ret, ⟨30, [⟨4, .one, [.dat .bool]⟩]⟩), (.exit 0, ⟨30, []⟩)], lp Kbl_s58⟩
def Kbl : t16 → Option Bool
 | (a, b) => bif (ln a) != (ln b) then some false else bx (lp Kbl_s58 (a, b, ln a, 0)) (fun c => some c) fun _ => some true
def Kbl_e : FEnt := ⟨26, [.tmp 4], [], [(.one, [.dat kk10]), (.one, [.dat kk10])], ⟨30, [⟨4, .one, [.dat .bool]⟩]⟩, Kbl⟩
theorem Kbl_ok : FnOk Tryz.prog 125 Kbl_e := fnOk_mk (tb := [(58, Kbl_n58)]) (c := (Tryz.f125.body).getD .skip) mixed Tryz.func125 bN (by kernel_rfl) (by kernel_rfl) (by kernel_rfl) ⟨nodeLoop (by kernel_rfl) Kbl_s58 (by kernel_rfl) (by intro d; kernel_rfl), trivial⟩ (by intro d; kernel_rfl)
def Kbn_s58 : Int × Int × Int × t72 → Option (Int × Int × Int × t72 ⊕ Int)
 | (a, b, c, d, e, f) => bif decide (f < e) then ix f d.length ((some (gx d f (0, 0, 0, [], 0, 0, 0, 0, [], [], []))).bind fun (g, h, i, j, k, l, m, n, o, p, q) => bif h == a then bif i == b then some (.inl (a, b, w64 (c + 1), d, e, w64 (f + 1))) else some (.inl (a, b, c, d, e, w64 (f + 1))) else some (.inl (a, b, c, d, e, w64 (f + 1)))) else some (.inr c)
def Kbn_n58 : NEnt := ⟨⟨38, [⟨1, .one, [.dat kI]⟩, ⟨2, .one, [.dat kI]⟩, ⟨7, .one, [.dat kI]⟩, ⟨10, .one, [.dat kk1]⟩, ⟨11, .one, [.dat kI]⟩, ⟨12, .one, [.dat kI]⟩]⟩, [(.exit 0, ⟨38, [⟨7, .one, [.dat kI]⟩]⟩)], lp Kbn_s58⟩
def Kbn : t72 → Option Int
 | (a, b, c) => (lp Kbn_s58 (b, c, 0, a, ln a, 0)).bind fun d => some d
def Kbn_e : FEnt := ⟨32, [.tmp 6], [], [(.one, [.dat kk1]), (.one, [.dat kI]), (.one, [.dat kI])], ⟨38, [⟨6, .one, [.dat kI]⟩]⟩, Kbn⟩
theorem Kbn_ok : FnOk Tryz.prog 132 Kbn_e := fnOk_mk (tb := [(58, Kbn_n58)]) (c := (Tryz.f132.body).getD .skip) mixed Tryz.func132 bN (by kernel_rfl) (by kernel_rfl) (by kernel_rfl) ⟨nodeLoop (by kernel_rfl) Kbn_s58 (by kernel_rfl) (by intro d; kernel_rfl), trivial⟩ (by intro d; kernel_rfl)
def Kf_s256410 : t129 × List (Int × Int) × List (Int × Int) × Int × t22 × Int × Int × t37 → Option (t129 × List (Int × Int) × List (Int × Int) × Int × t22 × Int × Int × t37 ⊕ t129 × List (Int × Int) × List (Int × Int) × Int × t22 × Int × t37)
 | ((a, b, c, d, e, f, g, h, i, j, k, l, m, n, o, p), q, r, s, (t, u, v, w, x), y, z, a1, b1, c1) => bif decide (z ≤ 60) then (Kco (s, z)).bind fun d1 => (Kcc (r, d1)).bind fun e1 => bif e1 then some (.inl ((a, b, c, d, e, f, g, h, i, j, k, l, m, n, o, p), q, r, s, (t, u, v, w, x), w64 (y + 1), w64 (z + 1), a1, b1, c1)) else some (.inl ((a, b, c, d, e, f, g, h, i, j, k, l, m, n, o, p), q, r, s, (t, u, v, w, x), y, w64 (z + 1), a1, b1, c1)) else some (.inr ((a, b, c, d, e, f, g, h, i, j, k, l, m, n, o, p), q, r, s, (t, u, v, w, x), y, a1, b1, c1))
def Kf_n256410 : NEnt := ⟨⟨107, [⟨1, .box, cc7⟩, ⟨3, .one, cc32⟩, ⟨4, .one, cc32⟩, ⟨5, .one, [.dat kI]⟩, ⟨6, .box, cc24⟩, ⟨7, .one, [.dat kI]⟩, ⟨8, .one, [.dat kI]⟩, ⟨29, .one, [.dat kk6]⟩, ⟨30, .one, [.dat kI]⟩, ⟨31, .one, [.dat kI]⟩]⟩, [(.exit 2, ⟨107, [⟨1, .box, cc7⟩, ⟨3, .one, cc32⟩, ⟨4, .one, cc32⟩, ⟨5, .one, [.dat kI]⟩, ⟨6, .box, cc24⟩, ⟨7, .one, [.dat kI]⟩, ⟨29, .one, [.dat kk6]⟩, ⟨30, .one, [.dat kI]⟩, ⟨31, .one, [.dat kI]⟩]⟩)], lp Kf_s256410⟩
def Kf_s512830 : t129 × List (Int × Int) × List (Int × Int) × Int × List t22 × t22 → Option (t129 × List (Int × Int) × List (Int × Int) × Int × List t22 × t22 ⊕ t129 × t57)
 | ((a, b, c, d, e, f, g, h, i, j, k, l, m, n, o, p), q, r, s, t, u, v, w, x, y) => bif decide (y < x) then ix y w.length ((some (gx w y (0, 0))).bind fun (z, a1) => (Kco (s, z)).bind fun b1 => (Kco (s, a1)).bind fun c1 => chk (fits (q.length + [(b1, c1)].length) 16) (some (.inl ((a, b, c, d, e, f, g, h, i, j, k, l, m, n, o, p), q ++ [(b1, c1)], r, s, t, u, v, w, x, w64 (y + 1))))) else some (.inr ((a, b, c, d, e, f, g, h, i, j, k, l, m, n, o, p), q, r, t, u, v))
def Kf_n512830 : NEnt := ⟨⟨107, [⟨1, .box, cc7⟩, ⟨3, .one, cc32⟩, ⟨4, .one, cc32⟩, ⟨5, .one, [.dat kI]⟩, ⟨29, .one, [.dat kk6]⟩, ⟨30, .one, [.dat kI]⟩, ⟨31, .one, [.dat kI]⟩, ⟨52, .one, [.dat kk10]⟩, ⟨53, .one, [.dat kI]⟩, ⟨54, .one, [.dat kI]⟩]⟩, [(.exit 4, ⟨107, [⟨1, .box, cc7⟩, ⟨3, .one, cc32⟩, ⟨4, .one, cc32⟩, ⟨29, .one, [.dat kk6]⟩, ⟨30, .one, [.dat kI]⟩, ⟨31, .one, [.dat kI]⟩]⟩)], lp Kf_s512830⟩
def Kf_s250 : t129 × t57 → Option (t129 × t57 ⊕ Bool ⊕ t129 × List (Int × Int))
 | ((a, b, c, d, e, f, g, h, i, j, k, l, m, n, o, p), q, r, s, t, u) => bif decide (u < t) then ix u s.length ((some (gx s u (0, 0, [], 0, 0))).bind fun (v, w, x, y, z) => (lp Kf_s256410 ((a, b, c, d, e, f, g, h, i, j, k, l, m, n, o, p), q, r, u, (v, w, x, y, z), 0, 1, s, t, u)).bind fun ((a1, b1, c1, d1, e1, f1, g1, h1, i1, j1, k1, l1, m1, n1, o1, p1), q1, r1, s1, (t1, u1, v1, w1, x1), y1, z1, a2, b2) => bif y1 != w1 then some (.inr (.inl false)) else (lp Kf_s512830 ((a1, b1, c1, d1, e1, f1, g1, h1, i1, j1, k1, l1, m1, n1, o1, p1), q1, r1, s1, z1, a2, b2, v1, ln v1, 0)).bind fun ((c2, d2, e2, f2, g2, h2, i2, j2, k2, l2, m2, n2, o2, p2, q2, r2), s2, t2, u2, v2, w2) => some (.inl ((c2, d2, e2, f2, g2, h2, i2, j2, k2, l2, m2, n2, o2, p2, q2, r2), s2, t2, u2, v2, w64 (w2 + 1)))) else some (.inr (.inr ((a, b, c, d, e, f, g, h, i, j, k, l, m, n, o, p), q)))
def Kf_n250 : NEnt := ⟨⟨107, [⟨1, .box, cc7⟩, ⟨3, .one, cc32⟩, ⟨4, .one, cc32⟩, ⟨29, .one, [.dat kk6]⟩, ⟨30, .one, [.dat kI]⟩, ⟨31, .one, [.dat kI]⟩]⟩, [(.ret, ⟨107, [⟨2, .one, [.dat .bool]⟩]⟩), (.exit 0, ⟨107, [⟨1, .box, cc7⟩, ⟨3, .one, cc32⟩]⟩)], lp Kf_s250⟩
def Kf_s1018 : t129 × t72 → Option (t129 × t72 ⊕ Bool ⊕ Unit)
 | ((a, b, c, d, e, f, g, h, i, j, k, l, m, n, o, p), q, r, s) => bif decide (s < r) then ix s q.length ((some (gx q s (0, 0, 0, [], 0, 0, 0, 0, [], [], []))).bind fun (t, u, v, w, x, y, z, a1, b1, c1, d1) => g0 s (chk (decide ((0 ≤ s.toNat) ∧ (s.toNat ≤ p.length))) ((Kbn (List.take s.toNat p, u, v)).bind fun e1 => bif t != e1 then some (.inr (.inl false)) else some (.inl ((a, b, c, d, e, f, g, h, i, j, k, l, m, n, o, p), q, r, w64 (s + 1)))))) else some (.inr (.inr ()))
def Kf_n1018 : NEnt := ⟨⟨107, [⟨1, .box, cc7⟩, ⟨83, .one, [.dat kk1]⟩, ⟨84, .one, [.dat kI]⟩, ⟨85, .one, [.dat kI]⟩]⟩, [(.ret, ⟨107, [⟨2, .one, [.dat .bool]⟩]⟩), (.exit 6, ⟨107, []⟩)], lp Kf_s1018⟩
def Kf : t129 → Option Bool
 | (a, b, c, d, e, f, g, h, i, j, k, l, m, n, o, p) => (Kh (a, b, c, d, e, f, g, h, i, j, k, l, m, n, o, p)).bind fun q => bif !q then some false else (Kq (a, b, c, d, e, f, g, h, i, j, k, l, m, n, o, p)).bind fun r => (Kah (a, b, c, d, e, f, g, h, i, j, k, l, m, n, o, p)).bind fun s => chk (fits (r.length + s.length) 144) ((some (r ++ s)).bind fun t => (Ku t).bind fun u => bif !u then some false else (Kah (a, b, c, d, e, f, g, h, i, j, k, l, m, n, o, p)).bind fun v => (Kam v).bind fun w => bx (lp Kf_s250 ((a, b, c, d, e, f, g, h, i, j, k, l, m, n, o, p), [], w, k, ln k, 0)) (fun x => some x) fun ((x, y, z, a1, b1, c1, d1, e1, f1, g1, h1, i1, j1, k1, l1, m1), n1) => (Kao n1).bind fun o1 => (Kq (x, y, z, a1, b1, c1, d1, e1, f1, g1, h1, i1, j1, k1, l1, m1)).bind fun p1 => (Kah (x, y, z, a1, b1, c1, d1, e1, f1, g1, h1, i1, j1, k1, l1, m1)).bind fun q1 => chk (fits (p1.length + q1.length) 144) ((some (p1 ++ q1)).bind fun r1 => (Kam r1).bind fun s1 => (Kbl (o1, s1)).bind fun t1 => bif !t1 then some false else bx (lp Kf_s1018 ((x, y, z, a1, b1, c1, d1, e1, f1, g1, h1, i1, j1, k1, l1, m1), m1, ln m1, 0)) (fun u1 => some u1) fun _ => some true))
def Kf_e : FEnt := ⟨105, [.tmp 2], [], [(.agg, cc7)], ⟨107, [⟨2, .one, [.dat .bool]⟩]⟩, Kf⟩
theorem Kf_ok : FnOk Tryz.prog 78 Kf_e := fnOk_mk (tb := [(1018, Kf_n1018), (512830, Kf_n512830), (256410, Kf_n256410), (250, Kf_n250)]) (c := (Tryz.f78.body).getD .skip) mixed Tryz.func78 (bC Kh_ok (bC Kq_ok (bC Kah_ok (bC Ku_ok (bC Kam_ok (bC Kco_ok (bC Kcc_ok (bC Kao_ok (bC Kbl_ok (bC Kbn_ok bN)))))))))) (by kernel_rfl) (by kernel_rfl) (by kernel_rfl) ⟨nodeLoop (by kernel_rfl) Kf_s1018 (by kernel_rfl) (by intro d; kernel_rfl), nodeLoop (by kernel_rfl) Kf_s512830 (by kernel_rfl) (by intro d; kernel_rfl), nodeLoop (by kernel_rfl) Kf_s256410 (by kernel_rfl) (by intro d; kernel_rfl), nodeLoop (by kernel_rfl) Kf_s250 (by kernel_rfl) (by intro d; kernel_rfl), trivial⟩ (by intro d; kernel_rfl)
def Kdu : Unit → Option t39
 | _ => some (0, 0, 0, 0, List.replicate 8 0, List.replicate 8 0, [List.replicate 4 0, List.replicate 4 0])
def Kdu_e : FEnt := ⟨7, [.cell 0 true 7], [], [], ⟨7, [⟨0, .box, cc16⟩]⟩, Kdu⟩
theorem Kdu_ok : FnOk Tryz.prog 143 Kdu_e := fnOk_mk (tb := []) (c := (Tryz.f143.body).getD .skip) mixed Tryz.func143 bN (by kernel_rfl) (by kernel_rfl) (by kernel_rfl) trivial (by intro d; kernel_rfl)
def Kaz_s506 : t82 → Option (t82 ⊕ t66)
 | ((a, b, c, d, _, _, _), (e, f, g, h, i, j, k), l, m, n) => bif decide (n < m) then ix n l.length ((Kcq (gx l n [])).bind fun o => chk (fits (k.length + [o].length) 24) (some (.inl ((a, b, c, d, (), (), ()), (e, f, g, h, i, j, k ++ [o]), l, m, w64 (n + 1))))) else some (.inr ((a, b, c, d, (), (), ()), e, f, g, h, i, j, k))
def Kaz_n506 : NEnt := ⟨⟨34, [⟨2, .box, cc23⟩, ⟨3, .box, cc16⟩, ⟨17, .one, [.dat kk11]⟩, ⟨18, .one, [.dat kI]⟩, ⟨19, .one, [.dat kI]⟩]⟩, [(.exit 0, ⟨34, [⟨2, .box, cc23⟩, ⟨3, .box, cc16⟩]⟩)], lp Kaz_s506⟩
def Kaz : t39 → Option t39
 | (a, b, c, d, e, f, g) => (Kcq e).bind fun h => (Kcq f).bind fun i => (lp Kaz_s506 ((0, 0, 0, 0, (), (), ()), (a, b, c, d, h, i, []), g, ln g, 0)).bind fun ((j, k, l, m, _, _, _), n, o, p, q, r, s, t) => some (n, o, p, q, r, s, t)
def Kaz_e : FEnt := ⟨32, [.cell 2 true 7], [], [(.agg, cc17)], ⟨34, [⟨2, .box, cc16⟩]⟩, Kaz⟩
theorem Kaz_ok : FnOk Tryz.prog 100 Kaz_e := fnOk_mk (tb := [(506, Kaz_n506)]) (c := (Tryz.f100.body).getD .skip) mixed Tryz.func100 (bC Kcq_ok bN) (by kernel_rfl) (by kernel_rfl) (by kernel_rfl) ⟨nodeLoop (by kernel_rfl) Kaz_s506 (by kernel_rfl) (by intro d; kernel_rfl), trivial⟩ (by intro d; kernel_rfl)
def Kdy : t55 → Option t55
 | (a, b, c, d, e, f, g, h, i, j) => (Kde c).bind fun k => (Kaz (d, e, f, g, h, i, j)).bind fun (l, m, n, o, p, q, r) => some (a, b, k, l, m, n, o, p, q, r)
def Kdy_e : FEnt := ⟨12, [.cell 2 true 10], [], [(.agg, cc15)], ⟨14, [⟨2, .box, cc13⟩]⟩, Kdy⟩
theorem Kdy_ok : FnOk Tryz.prog 165 Kdy_e := fnOk_mk (tb := []) (c := (Tryz.f165.body).getD .skip) mixed Tryz.func165 (bC Kde_ok (bC Kaz_ok bN)) (by kernel_rfl) (by kernel_rfl) (by kernel_rfl) trivial (by intro d; kernel_rfl)
def Kdn : Int × Int × Int → Option Int
 | (a, b, c) => some (if c < if b > a then b else a then c else if b > a then b else a)
def Kdn_e : FEnt := ⟨12, [.tmp 6], [], [(.one, [.dat kI]), (.one, [.dat kI]), (.one, [.dat kI])], ⟨18, [⟨6, .one, [.dat kI]⟩]⟩, Kdn⟩
theorem Kdn_ok : FnOk Tryz.prog 147 Kdn_e := fnOk_mk (tb := []) (c := (Tryz.f147.body).getD .skip) mixed Tryz.func147 bN (by kernel_rfl) (by kernel_rfl) (by kernel_rfl) trivial (by intro d; kernel_rfl)
def Kcw : Int × Int → Option Int
 | (a, b) => (Kdn (a, 0, 1000000000)).bind fun c => (Kdn (b, 0, 1000000000)).bind fun d => (some (if (1000000000 : Int) < IntKind.wrap IntKind.i64 (c + d) then (1000000000 : Int) else IntKind.wrap IntKind.i64 (c + d))).bind fun e => some e
def Kcw_e : FEnt := ⟨11, [.tmp 4], [], [(.one, [.dat kI]), (.one, [.dat kI])], ⟨15, [⟨4, .one, [.dat kI]⟩]⟩, Kcw⟩
theorem Kcw_ok : FnOk Tryz.prog 101 Kcw_e := fnOk_mk (tb := []) (c := (Tryz.f101.body).getD .skip) mixed Tryz.func101 (bC Kdn_ok bN) (by kernel_rfl) (by kernel_rfl) (by kernel_rfl) trivial (by intro d; kernel_rfl)
def Kc_s2042 : t39 × t24 × t53 → Option (t39 × t24 × t53 ⊕ t39 × t66)
 | ((a, b, c, d, e, f, g), (h, i, j, k, _, _, _), (l, m, n, o, p, q, r), s, t, u) => bif decide (u < t) then ix u s.length (ix u p.length (lx u p.length ((Kcw (gx p u 0, gx s u 0)).bind fun v => ix u p.length (lx u p.length (some (.inl ((a, b, c, d, e, f, g), (h, i, j, k, (), (), ()), (l, m, n, o, sx p u v, q, r), s, t, w64 (u + 1)))))))) else some (.inr ((a, b, c, d, e, f, g), (h, i, j, k, (), (), ()), l, m, n, o, p, q, r))
def Kc_n2042 : NEnt := ⟨⟨141, [⟨3, .box, cc17⟩, ⟨4, .box, cc23⟩, ⟨6, .box, cc16⟩, ⟨63, .one, [.dat (.list kI)]⟩, ⟨64, .one, [.dat kI]⟩, ⟨65, .one, [.dat kI]⟩]⟩, [(.exit 0, ⟨141, [⟨3, .box, cc17⟩, ⟨4, .box, cc23⟩, ⟨6, .box, cc16⟩]⟩)], lp Kc_s2042⟩
def Kc_s4090 : t39 × t24 × t53 → Option (t39 × t24 × t53 ⊕ t39 × t66)
 | ((a, b, c, d, e, f, g), (h, i, j, k, _, _, _), (l, m, n, o, p, q, r), s, t, u) => bif decide (u < t) then ix u s.length (ix u q.length (lx u q.length ((some (if List.getD s (Int.toNat u) (0 : Int) > List.getD q (Int.toNat u) (0 : Int) then List.getD s (Int.toNat u) (0 : Int) else List.getD q (Int.toNat u) (0 : Int))).bind fun v => ix u q.length (lx u q.length (some (.inl ((a, b, c, d, e, f, g), (h, i, j, k, (), (), ()), (l, m, n, o, p, sx q u v, r), s, t, w64 (u + 1)))))))) else some (.inr ((a, b, c, d, e, f, g), (h, i, j, k, (), (), ()), l, m, n, o, p, q, r))
def Kc_n4090 : NEnt := ⟨⟨141, [⟨3, .box, cc17⟩, ⟨4, .box, cc23⟩, ⟨6, .box, cc16⟩, ⟨83, .one, [.dat (.list kI)]⟩, ⟨84, .one, [.dat kI]⟩, ⟨85, .one, [.dat kI]⟩]⟩, [(.exit 2, ⟨141, [⟨3, .box, cc17⟩, ⟨4, .box, cc23⟩, ⟨6, .box, cc16⟩]⟩)], lp Kc_s4090⟩
def Kc_s2095718 : t24 × t39 × Int × List (List Int) × t13 → Option (t24 × t39 × Int × List (List Int) × t13 ⊕ t82)
 | ((a, b, c, d, _, _, _), (e, f, g, h, i, j, k), l, m, n, o, p, q, r) => bif decide (r < q) then ix r p.length (ix l k.length (lx l k.length (ix l k.length (lx l k.length (ix r (gx k l []).length (lx r (gx k l []).length ((Kcw (gx (gx k l []) r 0, gx p r 0)).bind fun s => ix r (gx k l []).length (lx r (gx k l []).length (some (.inl ((a, b, c, d, (), (), ()), (e, f, g, h, i, j, sx k l (sx (gx k l []) r s)), l, m, n, o, p, q, w64 (r + 1)))))))))))) else some (.inr ((a, b, c, d, (), (), ()), (e, f, g, h, i, j, k), m, n, o))
def Kc_n2095718 : NEnt := ⟨⟨141, [⟨4, .box, cc23⟩, ⟨6, .box, cc16⟩, ⟨11, .one, [.dat kI]⟩, ⟨103, .one, [.dat kk11]⟩, ⟨104, .one, [.dat kI]⟩, ⟨105, .one, [.dat kI]⟩, ⟨110, .one, [.dat (.list kI)]⟩, ⟨111, .one, [.dat kI]⟩, ⟨112, .one, [.dat kI]⟩]⟩, [(.exit 6, ⟨141, [⟨4, .box, cc23⟩, ⟨6, .box, cc16⟩, ⟨103, .one, [.dat kk11]⟩, ⟨104, .one, [.dat kI]⟩, ⟨105, .one, [.dat kI]⟩]⟩)], lp Kc_s2095718⟩
def Kc_s8186 : t82 → Option (t82 ⊕ t66)
 | ((a, b, c, d, _, _, _), (e, f, g, h, i, j, k), l, m, n) => bif decide (n < m) then ix n l.length ((lp Kc_s2095718 ((a, b, c, d, (), (), ()), (e, f, g, h, i, j, k), n, l, m, n, gx l n [], ln (gx l n []), 0)).bind fun ((o, p, q, r, _, _, _), (s, t, u, v, w, x, y), z, a1, b1) => some (.inl ((o, p, q, r, (), (), ()), (s, t, u, v, w, x, y), z, a1, w64 (b1 + 1)))) else some (.inr ((a, b, c, d, (), (), ()), e, f, g, h, i, j, k))
def Kc_n8186 : NEnt := ⟨⟨141, [⟨4, .box, cc23⟩, ⟨6, .box, cc16⟩, ⟨103, .one, [.dat kk11]⟩, ⟨104, .one, [.dat kI]⟩, ⟨105, .one, [.dat kI]⟩]⟩, [(.exit 4, ⟨141, [⟨4, .box, cc23⟩, ⟨6, .box, cc16⟩]⟩)], lp Kc_s8186⟩
def Kc_l31 : t39 × t39 × t66 → Option (t39 × Bool)
 | ((a, b, c, d, e, f, g), (h, i, j, k, l, m, n), (o, p, q, r, _, _, _), s, t, u, v, w, x, y) => (Kcw (a, h)).bind fun z => (Kcw (b, i)).bind fun a1 => (lp Kc_s2042 ((h, i, j, k, l, m, n), (o, p, q, r, (), (), ()), (z, a1, u, if k > d then k else d, w, x, y), l, ln l, 0)).bind fun ((b1, c1, d1, e1, f1, g1, h1), (i1, j1, k1, l1, _, _, _), m1, n1, o1, p1, q1, r1, s1) => (lp Kc_s4090 ((b1, c1, d1, e1, f1, g1, h1), (i1, j1, k1, l1, (), (), ()), (m1, n1, o1, p1, q1, r1, s1), g1, ln g1, 0)).bind fun ((t1, u1, v1, w1, x1, y1, z1), (a2, b2, c2, d2, _, _, _), e2, f2, g2, h2, i2, j2, k2) => (lp Kc_s8186 ((a2, b2, c2, d2, (), (), ()), (e2, f2, g2, h2, i2, j2, k2), z1, ln z1, 0)).bind fun ((l2, m2, n2, o2, _, _, _), p2, q2, r2, s2, t2, u2, v2) => some ((p2, q2, r2, s2, t2, u2, v2), true)
def Kc_n31 : NEnt := ⟨⟨141, [⟨2, .box, cc17⟩, ⟨3, .box, cc17⟩, ⟨4, .box, cc23⟩, ⟨6, .box, cc16⟩]⟩, [(.ret, ⟨141, [⟨4, .box, cc16⟩, ⟨5, .one, [.dat .bool]⟩]⟩)], Kc_l31⟩
def Kc : t39 × t39 → Option (t39 × Bool)
 | ((a, b, c, d, e, f, g), h, i, j, k, l, m, n) => (Kr (a, b, c, d, e, f, g)).bind fun o => bif !o then some ((0, 0, 0, 0, [], [], []), false) else (Kr (h, i, j, k, l, m, n)).bind fun p => bif !p then some ((0, 0, 0, 0, [], [], []), false) else (Kaz (a, b, c, d, e, f, g)).bind fun (q, r, s, t, u, v, w) => bif a == 0 then (Kc_l31 ((a, b, c, d, e, f, g), (h, i, j, k, l, m, n), (0, 0, 0, 0, (), (), ()), q, r, j, t, u, v, w)).bind fun ((x, y, z, a1, b1, c1, d1), e1) => some ((x, y, z, a1, b1, c1, d1), e1) else bif decide (h > 0) then bif decide (j < c) then (Kc_l31 ((a, b, c, d, e, f, g), (h, i, j, k, l, m, n), (0, 0, 0, 0, (), (), ()), q, r, j, t, u, v, w)).bind fun ((x, y, z, a1, b1, c1, d1), e1) => some ((x, y, z, a1, b1, c1, d1), e1) else (Kc_l31 ((a, b, c, d, e, f, g), (h, i, j, k, l, m, n), (0, 0, 0, 0, (), (), ()), q, r, s, t, u, v, w)).bind fun ((x, y, z, a1, b1, c1, d1), e1) => some ((x, y, z, a1, b1, c1, d1), e1) else (Kc_l31 ((a, b, c, d, e, f, g), (h, i, j, k, l, m, n), (0, 0, 0, 0, (), (), ()), q, r, s, t, u, v, w)).bind fun ((x, y, z, a1, b1, c1, d1), e1) => some ((x, y, z, a1, b1, c1, d1), e1)
def Kc_e : FEnt := ⟨137, [.cell 4 true 7, .tmp 5], [], [(.agg, cc17), (.agg, cc17)], ⟨141, [⟨4, .box, cc16⟩, ⟨5, .one, [.dat .bool]⟩]⟩, Kc⟩
theorem Kc_ok : FnOk Tryz.prog 42 Kc_e := fnOk_mk (tb := [(2095718, Kc_n2095718), (8186, Kc_n8186), (4090, Kc_n4090), (2042, Kc_n2042), (31, Kc_n31)]) (c := (Tryz.f42.body).getD .skip) mixed Tryz.func42 (bC Kr_ok (bC Kaz_ok (bC Kcw_ok bN))) (by kernel_rfl) (by kernel_rfl) (by kernel_rfl) ⟨nodeLoop (by kernel_rfl) Kc_s2095718 (by kernel_rfl) (by intro d; kernel_rfl), nodeLoop (by kernel_rfl) Kc_s8186 (by kernel_rfl) (by intro d; kernel_rfl), nodeLoop (by kernel_rfl) Kc_s4090 (by kernel_rfl) (by intro d; kernel_rfl), nodeLoop (by kernel_rfl) Kc_s2042 (by kernel_rfl) (by intro d; kernel_rfl), nodeJoin (by kernel_rfl) (by intro d; kernel_rfl), trivial⟩ (by intro d; kernel_rfl)
def Kbo_s58 : List t55 × (Int × Int × Unit × t24) × t55 × t68 → Option (List t55 × (Int × Int × Unit × t24) × t55 × t68 ⊕ List t55 × (Int × Int × Unit × t24) × t55)
 | (a, (b, c, _, d, e, f, g, _, _, _), (h, i, j, k, l, m, n, o, p, q), r, s, t) => bif decide (t < s) then ix t r.length ((some (gx r t (0, 0, [], 0, 0, 0, 0, [], [], []))).bind fun (u, v, w, x, y, z, a1, b1, c1, d1) => (Kc ((k, l, m, n, o, p, q), x, y, z, a1, b1, c1, d1)).bind fun ((e1, f1, g1, h1, i1, j1, k1), l1) => some (.inl (a, (b, c, (), d, e, f, g, (), (), ()), (h, i, j, e1, f1, g1, h1, i1, j1, k1), r, s, w64 (t + 1)))) else some (.inr (a, (b, c, (), d, e, f, g, (), (), ()), h, i, j, k, l, m, n, o, p, q))
def Kbo_n58 : NEnt := ⟨⟨33, [⟨0, .one, [.dat kk4]⟩, ⟨2, .box, cc20⟩, ⟨3, .box, cc13⟩, ⟨11, .one, [.dat kk4]⟩, ⟨12, .one, [.dat kI]⟩, ⟨13, .one, [.dat kI]⟩]⟩, [(.exit 0, ⟨33, [⟨0, .one, [.dat kk4]⟩, ⟨2, .box, cc20⟩, ⟨3, .box, cc13⟩]⟩)], lp Kbo_s58⟩
def Kbo : List t55 → Option t55
 | a => chk (decide (0 < a.length)) ((some (List.getD a 0 (0, 0, [], 0, 0, 0, 0, [], [], []))).bind fun (b, c, d, e, f, g, h, i, j, k) => (Kdy (b, c, d, e, f, g, h, i, j, k)).bind fun (l, m, n, o, p, q, r, s, t, u) => chk (decide ((1 ≤ a.length) ∧ (a.length ≤ a.length))) ((some (ln (List.drop 1 a))).bind fun v => (lp Kbo_s58 (a, (0, 0, (), 0, 0, 0, 0, (), (), ()), (l, m, n, o, p, q, r, s, t, u), List.drop 1 a, v, 0)).bind fun (w, (x, y, _, z, a1, b1, c1, _, _, _), d1, e1, f1, g1, h1, i1, j1, k1, l1, m1) => (Kam w).bind fun n1 => some (d1, e1, n1, g1, h1, i1, j1, k1, l1, m1)))
def Kbo_e : FEnt := ⟨31, [.cell 2 true 10], [], [(.one, [.dat kk4])], ⟨33, [⟨2, .box, cc13⟩]⟩, Kbo⟩
theorem Kbo_ok : FnOk Tryz.prog 122 Kbo_e := fnOk_mk (tb := [(58, Kbo_n58)]) (c := (Tryz.f122.body).getD .skip) mixed Tryz.func122 (bC Kdy_ok (bC Kc_ok (bC Kam_ok bN))) (by kernel_rfl) (by kernel_rfl) (by kernel_rfl) ⟨nodeLoop (by kernel_rfl) Kbo_s58 (by kernel_rfl) (by intro d; kernel_rfl), trivial⟩ (by intro d; kernel_rfl)
def Kcx : List t55 → Option (t39 × List (Int × Int))
 | a => bif (ln a) == 0 then (Kdu ()).bind fun (b, c, d, e, f, g, h) => some ((b, c, d, e, f, g, h), []) else (Kbo a).bind fun (b, c, d, e, f, g, h, i, j, k) => some ((e, f, g, h, i, j, k), d)
def Kcx_e : FEnt := ⟨15, [.cell 2 true 7, .tmp 3], [], [(.one, [.dat kk4])], ⟨17, [⟨2, .box, cc16⟩, ⟨3, .one, cc32⟩]⟩, Kcx⟩
theorem Kcx_ok : FnOk Tryz.prog 92 Kcx_e := fnOk_mk (tb := []) (c := (Tryz.f92.body).getD .skip) mixed Tryz.func92 (bC Kdu_ok (bC Kbo_ok bN)) (by kernel_rfl) (by kernel_rfl) (by kernel_rfl) trivial (by intro d; kernel_rfl)
def Kar_s234 : Int × Int × Int × t24 × t91 → Option (Int × Int × Int × t24 × t91 ⊕ t24 × List t55)
 | (a, b, c, (d, e, f, g, _, _, _), h, i, j, k) => bif decide (k < j) then ix k i.length (lx k i.length ((some (gx i k (0, 0, [], 0, 0, 0, 0, [], [], []))).bind fun (l, m, n, o, p, q, r, s, t, u) => bif l == a then (Kj (m, b, c)).bind fun v => bif v then (some [(l, m, n, o, p, q, r, s, t, u)]).bind fun w => chk (fits (h.length + w.length) 144) ((some (h ++ w)).bind fun x => some (.inl (a, b, c, (d, e, f, g, (), (), ()), x, i, j, w64 (k + 1)))) else some (.inl (a, b, c, (d, e, f, g, (), (), ()), h, i, j, w64 (k + 1))) else some (.inl (a, b, c, (d, e, f, g, (), (), ()), h, i, j, w64 (k + 1))))) else some (.inr ((d, e, f, g, (), (), ()), h))
def Kar_n234 : NEnt := ⟨⟨56, [⟨1, .one, [.dat kI]⟩, ⟨2, .one, [.dat kI]⟩, ⟨3, .one, [.dat kI]⟩, ⟨8, .box, cc23⟩, ⟨10, .one, [.own false kk5]⟩, ⟨18, .one, [.own false kk5]⟩, ⟨19, .one, [.dat kI]⟩, ⟨20, .one, [.dat kI]⟩]⟩, [(.exit 0, ⟨56, [⟨8, .box, cc23⟩, ⟨10, .one, [.own false kk5]⟩]⟩)], lp Kar_s234⟩
def Kar : t132 → Option t44
 | ((a, b, c, d, e, f, g, h, i, j, k, l, m, n, o, p), q, r, s) => (Kf (a, b, c, d, e, f, g, h, i, j, k, l, m, n, o, p)).bind fun t => bif t then (Kah (a, b, c, d, e, f, g, h, i, j, k, l, m, n, o, p)).bind fun u => (lp Kar_s234 (q, r, s, (0, 0, 0, 0, (), (), ()), [], u, ln u, 0)).bind fun ((v, w, x, y, _, _, _), z) => (Kcx z).bind fun ((a1, b1, c1, d1, e1, f1, g1), h1) => (Kal h1).bind fun i1 => some ((a1, b1, c1, d1, e1, f1, g1), i1) else (Kcx []).bind fun ((u, v, w, x, y, z, a1), b1) => (Kal b1).bind fun c1 => some ((u, v, w, x, y, z, a1), c1)
def Kar_e : FEnt := ⟨48, [.cell 8 true 7, .tmp 9], [], [(.agg, cc7), (.one, [.dat kI]), (.one, [.dat kI]), (.one, [.dat kI])], ⟨56, [⟨8, .box, cc16⟩, ⟨9, .one, [.dat kI]⟩]⟩, Kar⟩
theorem Kar_ok : FnOk Tryz.prog 37 Kar_e := fnOk_mk (tb := [(234, Kar_n234)]) (c := (Tryz.f37.body).getD .skip) mixed Tryz.func37 (bC Kf_ok (bC Kah_ok (bC Kj_ok (bC Kcx_ok (bC Kal_ok bN))))) (by kernel_rfl) (by kernel_rfl) (by kernel_rfl) ⟨nodeLoop (by kernel_rfl) Kar_s234 (by kernel_rfl) (by intro d; kernel_rfl), trivial⟩ (by intro d; kernel_rfl)
def Kad_s506 : Int × Int × Int × t129 × t96 → Option (Int × Int × Int × t129 × t96 ⊕ Int × Int × Int × t24 × t39 × t64)
 | (a, b, c, (d, e, f, g, h, i, j, k, l, m, n, o, p, q, r, s), (t, u, v, w, _, _, _), (x, y, z, a1, b1, c1, d1), e1, f1, g1) => (some (decide (g1 < (ln s)))).bind fun h1 => bif h1 then ix g1 s.length ((some (gx s g1 (0, 0, 0, [], 0, 0, 0, 0, [], [], []))).bind fun (i1, j1, k1, l1, m1, n1, o1, p1, q1, r1, s1) => (some [(j1, k1, l1, m1, n1, o1, p1, q1, r1, s1)]).bind fun t1 => chk (fits (f1.length + t1.length) 144) ((some (f1 ++ t1)).bind fun u1 => some (.inl (a, b, c, (d, e, f, g, h, i, j, k, l, m, n, o, p, q, r, s), (t, u, v, w, (), (), ()), (x, y, z, a1, b1, c1, d1), e1, u1, w64 (g1 + 1))))) else some (.inr (a, b, c, (t, u, v, w, (), (), ()), (x, y, z, a1, b1, c1, d1), e1, f1))
def Kad_n506 : NEnt := ⟨⟨89, [⟨1, .one, [.dat kI]⟩, ⟨2, .one, [.dat kI]⟩, ⟨3, .one, [.dat kI]⟩, ⟨4, .box, cc7⟩, ⟨8, .box, cc23⟩, ⟨10, .box, cc16⟩, ⟨11, .one, [.dat kI]⟩, ⟨12, .one, [.own false kk5]⟩, ⟨13, .one, [.dat kI]⟩]⟩, [(.exit 0, ⟨89, [⟨1, .one, [.dat kI]⟩, ⟨2, .one, [.dat kI]⟩, ⟨3, .one, [.dat kI]⟩, ⟨8, .box, cc23⟩, ⟨10, .box, cc16⟩, ⟨11, .one, [.dat kI]⟩, ⟨12, .one, [.own false kk5]⟩]⟩)], lp Kad_s506⟩
def Kad_s1018 : Int × Int × Int × t96 → Option (Int × Int × Int × t96 ⊕ t70)
 | (a, b, c, (d, e, f, g, _, _, _), (h, i, j, k, l, m, n), o, p, q) => (some (decide (q < (ln p)))).bind fun r => bif r then ix q p.length (lx q p.length ((some (gx p q (0, 0, [], 0, 0, 0, 0, [], [], []))).bind fun (s, t, u, v, w, x, y, z, a1, b1) => bif s == a then ix q p.length (lx q p.length ((some (gx p q (0, 0, [], 0, 0, 0, 0, [], [], []))).bind fun (c1, d1, e1, f1, g1, h1, i1, j1, k1, l1) => (Kb (d1, b, c)).bind fun m1 => bif m1 then ix q p.length (lx q p.length ((some (gx p q (0, 0, [], 0, 0, 0, 0, [], [], []))).bind fun (n1, o1, p1, q1, r1, s1, t1, u1, v1, w1) => (Ko ((h, i, j, k, l, m, n), q1, r1, s1, t1, u1, v1, w1)).bind fun (x1, y1, z1, a2, b2, c2, d2) => ix q p.length (lx q p.length ((some (gx p q (0, 0, [], 0, 0, 0, 0, [], [], []))).bind fun (e2, f2, g2, h2, i2, j2, k2, l2, m2, n2) => (Kak g2).bind fun o2 => some (.inl (a, b, c, (d, e, f, g, (), (), ()), (x1, y1, z1, a2, b2, c2, d2), w64 (o + o2), p, w64 (q + 1))))))) else some (.inl (a, b, c, (d, e, f, g, (), (), ()), (h, i, j, k, l, m, n), o, p, w64 (q + 1))))) else some (.inl (a, b, c, (d, e, f, g, (), (), ()), (h, i, j, k, l, m, n), o, p, w64 (q + 1))))) else some (.inr ((d, e, f, g, (), (), ()), (h, i, j, k, l, m, n), o))
def Kad_n1018 : NEnt := ⟨⟨89, [⟨1, .one, [.dat kI]⟩, ⟨2, .one, [.dat kI]⟩, ⟨3, .one, [.dat kI]⟩, ⟨8, .box, cc23⟩, ⟨10, .box, cc16⟩, ⟨11, .one, [.dat kI]⟩, ⟨12, .one, [.own false kk5]⟩, ⟨14, .one, [.dat kI]⟩]⟩, [(.exit 2, ⟨89, [⟨8, .box, cc23⟩, ⟨10, .box, cc16⟩, ⟨11, .one, [.dat kI]⟩]⟩)], lp Kad_s1018⟩
def Kad : t132 → Option t44
 | ((a, b, c, d, e, f, g, h, i, j, k, l, m, n, o, p), q, r, s) => (Kdg ()).bind fun (t, u, v, w, x, y, z) => (Ke (a, b, c, d, e, f, g, h, i, j, k, l, m, n, o, p)).bind fun a1 => bif !a1 then some ((t, u, v, w, x, y, z), 0) else chk (fits (0 + o.length) 144) ((some ([] ++ o)).bind fun b1 => (lp Kad_s506 (q, r, s, (a, b, c, d, e, f, g, h, i, j, k, l, m, n, o, p), (0, 0, 0, 0, (), (), ()), (t, u, v, w, x, y, z), 0, b1, 0)).bind fun (c1, d1, e1, (f1, g1, h1, i1, _, _, _), (j1, k1, l1, m1, n1, o1, p1), q1, r1) => (lp Kad_s1018 (c1, d1, e1, (f1, g1, h1, i1, (), (), ()), (j1, k1, l1, m1, n1, o1, p1), q1, r1, 0)).bind fun ((s1, t1, u1, v1, _, _, _), (w1, x1, y1, z1, a2, b2, c2), d2) => some ((w1, x1, y1, z1, a2, b2, c2), d2))
def Kad_e : FEnt := ⟨81, [.cell 8 true 7, .tmp 9], [], [(.agg, cc7), (.one, [.dat kI]), (.one, [.dat kI]), (.one, [.dat kI])], ⟨89, [⟨8, .box, cc16⟩, ⟨9, .one, [.dat kI]⟩]⟩, Kad⟩
theorem Kad_ok : FnOk Tryz.prog 40 Kad_e := fnOk_mk (tb := [(1018, Kad_n1018), (506, Kad_n506)]) (c := (Tryz.f40.body).getD .skip) mixed Tryz.func40 (bC Kdg_ok (bC Ke_ok (bC Kb_ok (bC Ko_ok (bC Kak_ok bN))))) (by kernel_rfl) (by kernel_rfl) (by kernel_rfl) ⟨nodeLoop (by kernel_rfl) Kad_s1018 (by kernel_rfl) (by intro d; kernel_rfl), nodeLoop (by kernel_rfl) Kad_s506 (by kernel_rfl) (by intro d; kernel_rfl), trivial⟩ (by intro d; kernel_rfl)
def Kfc : t11 → Option (t11 ⊕ Bool ⊕ Unit)
 | (a, b, c, d) => bif decide (d < c) then ix d a.length (ix d b.length (bif (gx a d 0) != (gx b d 0) then some (.inr (.inl false)) else some (.inl (a, b, c, w64 (d + 1))))) else some (.inr (.inr ()))
def Kgx : NEnt := ⟨⟨30, [⟨0, .one, [.dat (.list kI)]⟩, ⟨1, .one, [.dat (.list kI)]⟩, ⟨12, .one, [.dat kI]⟩, ⟨13, .one, [.dat kI]⟩]⟩, [(.ret, ⟨30, [⟨4, .one, [.dat .bool]⟩]⟩), (.exit 0, ⟨30, []⟩)], lp Kfc⟩
def Kff : List Int × List Int → Option Bool
 | (a, b) => bif (ln a) != (ln b) then some false else bx (lp Kfc (a, b, ln a, 0)) (fun c => some c) fun _ => some true
def Kgz : FEnt := ⟨26, [.tmp 4], [], [(.one, [.dat (.list kI)]), (.one, [.dat (.list kI)])], ⟨30, [⟨4, .one, [.dat .bool]⟩]⟩, Kff⟩
theorem Kfy : FnOk Tryz.prog 97 Kgz := fnOk_mk (tb := [(58, Kgx)]) (c := (Tryz.f97.body).getD .skip) mixed Tryz.func97 bN (by kernel_rfl) (by kernel_rfl) (by kernel_rfl) ⟨nodeLoop (by kernel_rfl) Kfc (by kernel_rfl) (by intro d; kernel_rfl), trivial⟩ (by intro d; kernel_rfl)
def Kex : List (List Int) × Unit × t7 → Option (List (List Int) × Unit × t7 ⊕ Bool ⊕ Unit)
 | (a, _, b, c, d) => bif decide (d < c) then ix d b.length (ix d a.length ((Kff (gx b d [], gx a d [])).bind fun e => bif !e then some (.inr (.inl false)) else some (.inl (a, (), b, c, w64 (d + 1))))) else some (.inr (.inr ()))
def Kfk : NEnt := ⟨⟨38, [⟨1, .one, [.dat kk11]⟩, ⟨2, .one, [.fn 97 []]⟩, ⟨15, .one, [.dat kk11]⟩, ⟨16, .one, [.dat kI]⟩, ⟨17, .one, [.dat kI]⟩]⟩, [(.ret, ⟨38, [⟨6, .one, [.dat .bool]⟩]⟩), (.exit 0, ⟨38, []⟩)], lp Kex⟩
def Kfa : List (List Int) × List (List Int) × Unit → Option Bool
 | (a, b, _) => bif (ln a) != (ln b) then some false else bx (lp Kex (b, (), a, ln a, 0)) (fun c => some c) fun _ => some true
def Kfo : FEnt := ⟨32, [.tmp 6], [], [(.one, [.dat kk11]), (.one, [.dat kk11]), (.one, [.fn 97 []])], ⟨38, [⟨6, .one, [.dat .bool]⟩]⟩, Kfa⟩
theorem Kfm : FnOk Tryz.prog 98 Kfo := fnOk_mk (tb := [(58, Kfk)]) (c := (Tryz.f98.body).getD .skip) mixed Tryz.func98 (bC Kfy bN) (by kernel_rfl) (by kernel_rfl) (by kernel_rfl) ⟨nodeLoop (by kernel_rfl) Kex (by kernel_rfl) (by intro d; kernel_rfl), trivial⟩ (by intro d; kernel_rfl)
def Kdm : t39 × t39 → Option Bool
 | ((a, b, c, d, e, f, g), h, i, j, k, l, m, n) => bif a == h then bif b == i then bif c == j then bif d == k then (Kff (e, l)).bind fun o => bif o then (Kff (f, m)).bind fun p => bif p then (Kfa (g, n, ())).bind fun q => some q else some false else some false else some false else some false else some false else some false
def Kdm_e : FEnt := ⟨52, [.tmp 4], [], [(.agg, cc17), (.agg, cc17)], ⟨56, [⟨4, .one, [.dat .bool]⟩]⟩, Kdm⟩
theorem Kdm_ok : FnOk Tryz.prog 41 Kdm_e := fnOk_mk (tb := []) (c := (Tryz.f41.body).getD .skip) mixed Tryz.func41 (bC Kfy (bC Kfm bN)) (by kernel_rfl) (by kernel_rfl) (by kernel_rfl) trivial (by intro d; kernel_rfl)
def Kdz : List Int × Int → Option Int
 | (a, b) => bif decide (b < (ln a)) then ix b a.length (some (w64 (gx a b 0))) else some (Int.tmod (w64 ((w64 (b * 7)) + (ln a))) 256)
def Kdz_e : FEnt := ⟨20, [.tmp 4], [], [(.one, [.dat (.list kB)]), (.one, [.dat kI])], ⟨24, [⟨4, .one, [.dat kI]⟩]⟩, Kdz⟩
theorem Kdz_ok : FnOk Tryz.prog 24 Kdz_e := fnOk_mk (tb := []) (c := (Tryz.f24.body).getD .skip) mixed Tryz.func24 bN (by kernel_rfl) (by kernel_rfl) (by kernel_rfl) trivial (by intro d; kernel_rfl)
def Ket : t55 × (Int × Unit) × Int × Unit → Option Bool
 | ((a, b, c, d, e, f, g, h, i, j), (k, _), l, _) => bif a == k then some (b == l) else some false
def Ket_e : FEnt := ⟨15, [.tmp 4], [], [(.agg, cc15), (.one, [.pim [kI] 0]), (.one, [.pim [kI] 0])], ⟨21, [⟨4, .one, [.dat .bool]⟩]⟩, Ket⟩
theorem Ket_ok : FnOk Tryz.prog 149 Ket_e := fnOk_mk (tb := []) (c := (Tryz.f149.body).getD .skip) mixed Tryz.func149 bN (by kernel_rfl) (by kernel_rfl) (by kernel_rfl) trivial (by intro d; kernel_rfl)
def Kcb_s26 : List t55 × t15 × Int × Int → Option (List t55 × t15 × Int × Int ⊕ Int ⊕ Unit)
 | (a, ((b, _), (c, _), _), d, e) => bif decide (e < d) then ix e a.length ((some (gx a e (0, 0, [], 0, 0, 0, 0, [], [], []))).bind fun (f, g, h, i, j, k, l, m, n, o) => (Ket ((f, g, h, i, j, k, l, m, n, o), (b, ()), c, ())).bind fun p => bif p then some (.inr (.inl e)) else some (.inl (a, ((b, ()), (c, ()), ()), d, w64 (e + 1)))) else some (.inr (.inr ()))
def Kcb_n26 : NEnt := ⟨⟨23, [⟨0, .one, [.dat kk4]⟩, ⟨1, .one, cc27⟩, ⟨7, .one, [.dat kI]⟩, ⟨8, .one, [.dat kI]⟩]⟩, [(.ret, ⟨23, [⟨4, .one, [.dat kI]⟩]⟩), (.exit 0, ⟨23, []⟩)], lp Kcb_s26⟩
def Kcb : List t55 × t15 → Option Int
 | (a, (b, _), (c, _), _) => bx (lp Kcb_s26 (a, ((b, ()), (c, ()), ()), ln a, 0)) (fun d => some d) fun _ => some (-1)
def Kcb_e : FEnt := ⟨19, [.tmp 4], [], [(.one, [.dat kk4]), (.one, cc27)], ⟨23, [⟨4, .one, [.dat kI]⟩]⟩, Kcb⟩
theorem Kcb_ok : FnOk Tryz.prog 148 Kcb_e := fnOk_mk (tb := [(26, Kcb_n26)]) (c := (Tryz.f148.body).getD .skip) mixed Tryz.func148 (bC Ket_ok bN) (by kernel_rfl) (by kernel_rfl) (by kernel_rfl) ⟨nodeLoop (by kernel_rfl) Kcb_s26 (by kernel_rfl) (by intro d; kernel_rfl), trivial⟩ (by intro d; kernel_rfl)
def Kcd : t68 → Option Int
 | (a, b, c) => (Kcb (a, (b, ()), (c, ()), ())).bind fun d => some d
def Kcd_e : FEnt := ⟨10, [.tmp 6], [], [(.one, [.dat kk4]), (.one, [.dat kI]), (.one, [.dat kI])], ⟨16, [⟨6, .one, [.dat kI]⟩]⟩, Kcd⟩
theorem Kcd_ok : FnOk Tryz.prog 102 Kcd_e := fnOk_mk (tb := []) (c := (Tryz.f102.body).getD .skip) mixed Tryz.func102 (bC Kcb_ok bN) (by kernel_rfl) (by kernel_rfl) (by kernel_rfl) trivial (by intro d; kernel_rfl)
def Kbh_s250 : t76 → Option (t76 ⊕ List Int)
 | (a, b, c, d) => bif decide (d ≤ 20) then (Kcd (c, a, d)).bind fun e => bif decide (e ≥ 0) then chk (fits (b.length + [d].length) 8) (some (.inl (a, b ++ [d], c, w64 (d + 1)))) else some (.inl (a, b, c, w64 (d + 1))) else some (.inr b)
def Kbh_n250 : NEnt := ⟨⟨34, [⟨1, .one, [.dat kI]⟩, ⟨5, .one, [.own true kI]⟩, ⟨6, .one, [.own false kk5]⟩, ⟨7, .one, [.dat kI]⟩]⟩, [(.exit 0, ⟨34, [⟨5, .one, [.own true kI]⟩]⟩)], lp Kbh_s250⟩
def Kbh : t130 → Option (List Int)
 | ((a, b, c, d, e, f, g, h, i, j, k, l, m, n, o, p), q) => (Kf (a, b, c, d, e, f, g, h, i, j, k, l, m, n, o, p)).bind fun r => bif !r then some [] else (Kq (a, b, c, d, e, f, g, h, i, j, k, l, m, n, o, p)).bind fun s => (Kah (a, b, c, d, e, f, g, h, i, j, k, l, m, n, o, p)).bind fun t => chk (fits (s.length + t.length) 144) ((some (s ++ t)).bind fun u => (lp Kbh_s250 (q, [], u, 0)).bind fun v => some v)
def Kbh_e : FEnt := ⟨30, [.tmp 4], [], [(.agg, cc7), (.one, [.dat kI])], ⟨34, [⟨4, .one, [.own true kI]⟩]⟩, Kbh⟩
theorem Kbh_ok : FnOk Tryz.prog 43 Kbh_e := fnOk_mk (tb := [(250, Kbh_n250)]) (c := (Tryz.f43.body).getD .skip) mixed Tryz.func43 (bC Kf_ok (bC Kq_ok (bC Kah_ok (bC Kcd_ok bN)))) (by kernel_rfl) (by kernel_rfl) (by kernel_rfl) ⟨nodeLoop (by kernel_rfl) Kbh_s250 (by kernel_rfl) (by intro d; kernel_rfl), trivial⟩ (by intro d; kernel_rfl)
def Kbm_s58 : Int × Int × t91 → Option (Int × Int × t91 ⊕ List t55)
 | (a, b, c, d, e, f) => bif decide (f < e) then ix f d.length ((some (gx d f (0, 0, [], 0, 0, 0, 0, [], [], []))).bind fun (g, h, i, j, k, l, m, n, o, p) => bif g == a then bif h == b then (some [(g, h, i, j, k, l, m, n, o, p)]).bind fun q => chk (fits (c.length + q.length) 144) ((some (c ++ q)).bind fun r => some (.inl (a, b, r, d, e, w64 (f + 1)))) else some (.inl (a, b, c, d, e, w64 (f + 1))) else some (.inl (a, b, c, d, e, w64 (f + 1)))) else some (.inr c)
def Kbm_n58 : NEnt := ⟨⟨38, [⟨1, .one, [.dat kI]⟩, ⟨2, .one, [.dat kI]⟩, ⟨7, .one, [.own false kk5]⟩, ⟨10, .one, [.dat kk4]⟩, ⟨11, .one, [.dat kI]⟩, ⟨12, .one, [.dat kI]⟩]⟩, [(.exit 0, ⟨38, [⟨7, .one, [.own false kk5]⟩]⟩)], lp Kbm_s58⟩
def Kbm : t68 → Option (List t55)
 | (a, b, c) => (lp Kbm_s58 (b, c, [], a, ln a, 0)).bind fun d => some d
def Kbm_e : FEnt := ⟨32, [.tmp 6], [], [(.one, [.dat kk4]), (.one, [.dat kI]), (.one, [.dat kI])], ⟨38, [⟨6, .one, [.own false kk5]⟩]⟩, Kbm⟩
theorem Kbm_ok : FnOk Tryz.prog 121 Kbm_e := fnOk_mk (tb := [(58, Kbm_n58)]) (c := (Tryz.f121.body).getD .skip) mixed Tryz.func121 bN (by kernel_rfl) (by kernel_rfl) (by kernel_rfl) ⟨nodeLoop (by kernel_rfl) Kbm_s58 (by kernel_rfl) (by intro d; kernel_rfl), trivial⟩ (by intro d; kernel_rfl)
def Keq : t131 → Option (t39 × List (Int × Int))
 | ((a, b, c, d, e, f, g, h, i, j, k, l, m, n, o, p), q, r) => (Kf (a, b, c, d, e, f, g, h, i, j, k, l, m, n, o, p)).bind fun s => bif !s then (Kdu ()).bind fun (t, u, v, w, x, y, z) => some ((t, u, v, w, x, y, z), []) else (Kq (a, b, c, d, e, f, g, h, i, j, k, l, m, n, o, p)).bind fun t => (Kah (a, b, c, d, e, f, g, h, i, j, k, l, m, n, o, p)).bind fun u => chk (fits (t.length + u.length) 144) ((some (t ++ u)).bind fun v => (Kbm (v, q, r)).bind fun w => (Kcx w).bind fun ((x, y, z, a1, b1, c1, d1), e1) => some ((x, y, z, a1, b1, c1, d1), e1))
def Keq_e : FEnt := ⟨23, [.cell 6 true 7, .tmp 7], [], [(.agg, cc7), (.one, [.dat kI]), (.one, [.dat kI])], ⟨29, [⟨6, .box, cc16⟩, ⟨7, .one, cc32⟩]⟩, Keq⟩
theorem Keq_ok : FnOk Tryz.prog 103 Keq_e := fnOk_mk (tb := []) (c := (Tryz.f103.body).getD .skip) mixed Tryz.func103 (bC Kf_ok (bC Kdu_ok (bC Kq_ok (bC Kah_ok (bC Kbm_ok (bC Kcx_ok bN)))))) (by kernel_rfl) (by kernel_rfl) (by kernel_rfl) trivial (by intro d; kernel_rfl)
def Kdv : t131 → Option t44
 | ((a, b, c, d, e, f, g, h, i, j, k, l, m, n, o, p), q, r) => (Keq ((a, b, c, d, e, f, g, h, i, j, k, l, m, n, o, p), q, r)).bind fun ((s, t, u, v, w, x, y), z) => (Kal z).bind fun a1 => some ((s, t, u, v, w, x, y), a1)
def Kdv_e : FEnt := ⟨20, [.cell 6 true 7, .tmp 7], [], [(.agg, cc7), (.one, [.dat kI]), (.one, [.dat kI])], ⟨26, [⟨6, .box, cc16⟩, ⟨7, .one, [.dat kI]⟩]⟩, Kdv⟩
theorem Kdv_ok : FnOk Tryz.prog 44 Kdv_e := fnOk_mk (tb := []) (c := (Tryz.f44.body).getD .skip) mixed Tryz.func44 (bC Keq_ok (bC Kal_ok bN)) (by kernel_rfl) (by kernel_rfl) (by kernel_rfl) trivial (by intro d; kernel_rfl)
def Kw_s64074 : Int × List Int × List t55 × Int × Bool × Int → Option (Int × List Int × List t55 × Int × Bool × Int ⊕ Int × List Int × List t55 × Int × Bool)
 | (a, b, c, d, e, f) => (some (decide (f < (ln c)))).bind fun g => bif g then bif e then some (.inl (a, b, c, d, true, w64 (f + 1))) else ix f c.length (lx f c.length ((some (gx c f (0, 0, [], 0, 0, 0, 0, [], [], []))).bind fun (h, i, j, k, l, m, n, o, p, q) => bif h == a then ix f c.length (lx f c.length ((some (gx c f (0, 0, [], 0, 0, 0, 0, [], [], []))).bind fun (r, s, t, u, v, w, x, y, z, a1) => some (.inl (a, b, c, d, s == d, w64 (f + 1))))) else some (.inl (a, b, c, d, false, w64 (f + 1))))) else some (.inr (a, b, c, d, e))
def Kw_n64074 : NEnt := ⟨⟨56, [⟨1, .one, [.dat kI]⟩, ⟨5, .one, [.own true kI]⟩, ⟨6, .one, [.own false kk5]⟩, ⟨7, .one, [.dat kI]⟩, ⟨8, .one, [.dat .bool]⟩, ⟨9, .one, [.dat kI]⟩]⟩, [(.exit 2, ⟨56, [⟨1, .one, [.dat kI]⟩, ⟨5, .one, [.own true kI]⟩, ⟨6, .one, [.own false kk5]⟩, ⟨7, .one, [.dat kI]⟩, ⟨8, .one, [.dat .bool]⟩]⟩)], lp Kw_s64074⟩
def Kw_s250 : t76 → Option (t76 ⊕ List Int)
 | (a, b, c, d) => bif decide (d ≤ 20) then (lp Kw_s64074 (a, b, c, d, false, 0)).bind fun (e, f, g, h, i) => bif i then chk (fits (f.length + [h].length) 8) (some (.inl (e, f ++ [h], g, w64 (h + 1)))) else some (.inl (e, f, g, w64 (h + 1))) else some (.inr b)
def Kw_n250 : NEnt := ⟨⟨56, [⟨1, .one, [.dat kI]⟩, ⟨5, .one, [.own true kI]⟩, ⟨6, .one, [.own false kk5]⟩, ⟨7, .one, [.dat kI]⟩]⟩, [(.exit 0, ⟨56, [⟨5, .one, [.own true kI]⟩]⟩)], lp Kw_s250⟩
def Kw : t130 → Option (List Int)
 | ((a, b, c, d, e, f, g, h, i, j, k, l, m, n, o, p), q) => (Ke (a, b, c, d, e, f, g, h, i, j, k, l, m, n, o, p)).bind fun r => bif !r then some [] else (Kk (a, b, c, d, e, f, g, h, i, j, k, l, m, n, o, p)).bind fun s => (lp Kw_s250 (q, [], s, 0)).bind fun t => some t
def Kw_e : FEnt := ⟨52, [.tmp 4], [], [(.agg, cc7), (.one, [.dat kI])], ⟨56, [⟨4, .one, [.own true kI]⟩]⟩, Kw⟩
theorem Kw_ok : FnOk Tryz.prog 45 Kw_e := fnOk_mk (tb := [(64074, Kw_n64074), (250, Kw_n250)]) (c := (Tryz.f45.body).getD .skip) mixed Tryz.func45 (bC Ke_ok (bC Kk_ok bN)) (by kernel_rfl) (by kernel_rfl) (by kernel_rfl) ⟨nodeLoop (by kernel_rfl) Kw_s64074 (by kernel_rfl) (by intro d; kernel_rfl), nodeLoop (by kernel_rfl) Kw_s250 (by kernel_rfl) (by intro d; kernel_rfl), trivial⟩ (by intro d; kernel_rfl)
def Kbp_s58 : t3 → Option (t3 ⊕ Bool ⊕ Unit)
 | (a, b, c) => bif decide (c < (ln a)) then ix c a.length (ix c b.length (bif (gx a c 0) != (gx b c 0) then some (.inr (.inl false)) else some (.inl (a, b, w64 (c + 1))))) else some (.inr (.inr ()))
def Kbp_n58 : NEnt := ⟨⟨30, [⟨0, .one, [.dat (.list kI)]⟩, ⟨1, .one, [.dat (.list kI)]⟩, ⟨5, .one, [.dat kI]⟩]⟩, [(.ret, ⟨30, [⟨4, .one, [.dat .bool]⟩]⟩), (.exit 0, ⟨30, []⟩)], lp Kbp_s58⟩
def Kbp : List Int × List Int → Option Bool
 | (a, b) => bif (ln a) != (ln b) then some false else bx (lp Kbp_s58 (a, b, 0)) (fun c => some c) fun _ => some true
def Kbp_e : FEnt := ⟨26, [.tmp 4], [], [(.one, [.dat (.list kI)]), (.one, [.dat (.list kI)])], ⟨30, [⟨4, .one, [.dat .bool]⟩]⟩, Kbp⟩
theorem Kbp_ok : FnOk Tryz.prog 32 Kbp_e := fnOk_mk (tb := [(58, Kbp_n58)]) (c := (Tryz.f32.body).getD .skip) mixed Tryz.func32 bN (by kernel_rfl) (by kernel_rfl) (by kernel_rfl) ⟨nodeLoop (by kernel_rfl) Kbp_s58 (by kernel_rfl) (by intro d; kernel_rfl), trivial⟩ (by intro d; kernel_rfl)
def Kba_s131066 : t129 × Int × List Int × Int → Option (t129 × Int × List Int × Int ⊕ Bool ⊕ t129 × Int × List Int)
 | ((a, b, c, d, e, f, g, h, i, j, k, l, m, n, o, p), q, r, s) => bif decide (s < (ln r)) then ix s r.length (lx s r.length ((Kdv ((a, b, c, d, e, f, g, h, i, j, k, l, m, n, o, p), q, gx r s 0)).bind fun ((t, u, v, w, x, y, z), a1) => bif decide (a1 < 1) then some (.inr (.inl false)) else bif decide (s > 0) then ix s r.length (lx s r.length (ix (w64 (s - 1)) r.length (lx (w64 (s - 1)) r.length ((some (decide ((gx r s 0) ≤ (gx r (w64 (s - 1)) 0)))).bind fun b1 => bif b1 then some (.inr (.inl false)) else some (.inl ((a, b, c, d, e, f, g, h, i, j, k, l, m, n, o, p), q, r, w64 (s + 1))))))) else some (.inl ((a, b, c, d, e, f, g, h, i, j, k, l, m, n, o, p), q, r, w64 (s + 1))))) else some (.inr (.inr ((a, b, c, d, e, f, g, h, i, j, k, l, m, n, o, p), q, r)))
def Kba_n131066 : NEnt := ⟨⟨152, [⟨3, .box, cc0⟩, ⟨4, .one, [.dat kI]⟩, ⟨20, .one, [.own true kI]⟩, ⟨21, .one, [.dat kI]⟩]⟩, [(.ret, ⟨152, [⟨2, .one, [.dat .bool]⟩]⟩), (.exit 0, ⟨152, [⟨3, .box, cc0⟩, ⟨4, .one, [.dat kI]⟩, ⟨20, .one, [.own true kI]⟩]⟩)], lp Kba_s131066⟩
def Kba : List Int → Option Bool
 | a => (Keu a).bind fun b => bif b then some true else (Kea a).bind fun ((c, d, e, f, g, h, i, j, k, l, m, n, o, p, q, r), s, t, u) => (Kar ((c, d, e, f, g, h, i, j, k, l, m, n, o, p, q, r), s, t, u)).bind fun ((v, w, x, y, z, a1, b1), c1) => (Kad ((c, d, e, f, g, h, i, j, k, l, m, n, o, p, q, r), s, t, u)).bind fun ((d1, e1, f1, g1, h1, i1, j1), k1) => bif c1 != k1 then some false else (Kdm ((v, w, x, y, z, a1, b1), d1, e1, f1, g1, h1, i1, j1)).bind fun l1 => bif !l1 then some false else (Kdz (a, 2)).bind fun m1 => (Kar ((c, d, e, f, g, h, i, j, k, l, m, n, o, p, q, r), s, 0, Int.tmod m1 20)).bind fun ((n1, o1, p1, q1, r1, s1, t1), u1) => (Kar ((c, d, e, f, g, h, i, j, k, l, m, n, o, p, q, r), s, w64 ((Int.tmod m1 20) + 1), 20)).bind fun ((v1, w1, x1, y1, z1, a2, b2), c2) => (Kar ((c, d, e, f, g, h, i, j, k, l, m, n, o, p, q, r), s, 0, 20)).bind fun ((d2, e2, f2, g2, h2, i2, j2), k2) => (Kc ((n1, o1, p1, q1, r1, s1, t1), v1, w1, x1, y1, z1, a2, b2)).bind fun ((l2, m2, n2, o2, p2, q2, r2), s2) => bif !s2 then some false else bif (w64 (u1 + c2)) != k2 then some false else (Kdm ((l2, m2, n2, o2, p2, q2, r2), d2, e2, f2, g2, h2, i2, j2)).bind fun t2 => bif !t2 then some false else bif decide (c1 > k2) then some false else (Kbh ((c, d, e, f, g, h, i, j, k, l, m, n, o, p, q, r), s)).bind fun u2 => bx (lp Kba_s131066 ((c, d, e, f, g, h, i, j, k, l, m, n, o, p, q, r), s, u2, 0)) (fun v2 => some v2) fun ((v2, w2, x2, y2, z2, a3, b3, c3, d3, e3, f3, g3, h3, i3, j3, k3), l3, m3) => (Kw ((v2, w2, x2, y2, z2, a3, b3, c3, d3, e3, f3, g3, h3, i3, j3, k3), l3)).bind fun n3 => (Kbp (m3, n3)).bind fun o3 => some o3
def Kba_e : FEnt := ⟨150, [.tmp 2], [], [(.one, [.dat (.list kB)])], ⟨152, [⟨2, .one, [.dat .bool]⟩]⟩, Kba⟩
theorem Kba_ok : FnOk Tryz.prog 6 Kba_e := fnOk_mk (tb := [(131066, Kba_n131066)]) (c := (Tryz.f6.body).getD .skip) mixed Tryz.func6 (bC Keu_ok (bC Kea_ok (bC Kar_ok (bC Kad_ok (bC Kdm_ok (bC Kdz_ok (bC Kc_ok (bC Kbh_ok (bC Kdv_ok (bC Kw_ok (bC Kbp_ok bN))))))))))) (by kernel_rfl) (by kernel_rfl) (by kernel_rfl) ⟨nodeLoop (by kernel_rfl) Kba_s131066 (by kernel_rfl) (by intro d; kernel_rfl), trivial⟩ (by intro d; kernel_rfl)
end Go.Proofs.YtppjdpcmaipoaaaGreat.Tw
namespace Go.Mach
set_option linter.unusedVariables false
theorem dT {p : Prop} [Decidable p] (h : p) : decide p = true := decide_eq_true h
theorem dF {p : Prop} [Decidable p] (h : ¬p) : decide p = false := decide_eq_false h
theorem Kol {R : Type} {b : Bool} (h : b = true) (k : Option R) : chk b k = k := by rw [h]; rfl
theorem Khi {R : Type} (k : Option R) : chk true k = k := rfl
theorem chkD {R : Type} {p : Prop} [Decidable p] (h : p) (k : Option R) : chk (decide p) k = k := Kol (decide_eq_true h) k
theorem wr {n : Int} (h1 : -9223372036854775808 ≤ n) (h2 : n ≤ 9223372036854775807) : IntKind.wrap .i64 n = n := Go.IntWalk.i64_in n ⟨h1, h2⟩
theorem Key {n : Int} (h1 : -9223372036854775808 ≤ n) (h2 : n ≤ 9223372036854775807) : w64 n = n := wr h1 h2
theorem wsucc {i : Nat} (h : i ≤ 1048576) : w64 ((i : Int) + 1) = ((i + 1 : Nat) : Int) := by rw [Key (by omega) (by omega)]; rfl
theorem ixn {R : Type} {i n : Nat} (h : i < n) (k : Option R) : ix (i : Int) n k = k := ix_ok (by omega) (by omega) k
theorem lxn {R : Type} {i n : Nat} (h : i < n) (k : Option R) : lx (i : Int) n k = k := lx_ok (by omega) k
theorem gxn {α : Type} (l : List α) (i : Nat) (d : α) : gx l (i : Int) d = l.getD i d := rfl
theorem sxn {α : Type} (l : List α) (i : Nat) (v : α) : sx l (i : Int) v = l.set i v := rfl
theorem lnn {α : Type} (l : List α) : ln l = (l.length : Int) := rfl
theorem cast0 : ((0 : Nat) : Int) = 0 := rfl
theorem ltn {i n : Nat} (h : i < n) : decide ((i : Int) < (n : Int)) = true := decide_eq_true (by omega)
theorem ltF (n : Nat) : decide ((n : Int) < (n : Int)) = false := decide_eq_false (by omega)
theorem fits_ok {n b : Nat} (h : n ≤ 4294967296) (h2 : (2 * n + 512) * b ≤ 140737488355328) : fits n b = true := by
 unfold fits
 rw [decide_eq_true_eq]
 exact ⟨h, h2⟩
theorem fitsB {n b : Nat} (h : n ≤ 4194304) (hb : b ≤ 1000) : fits n b = true := by
 refine fits_ok (by omega) ?_
 calc (2 * n + 512) * b ≤ (2 * 4194304 + 512) * 1000 := Nat.mul_le_mul (by omega) hb
  _ ≤ _ := by omega
theorem fitsC {R : Type} {n b : Nat} (h : n ≤ 4194304) (hb : b ≤ 1000) (k : Option R) : chk (fits n b) k = k := by
 refine Kol (fits_ok (by omega) ?_) k
 calc (2 * n + 512) * b ≤ (2 * 4194304 + 512) * 1000 := Nat.mul_le_mul (by omega) hb
  _ ≤ _ := by omega
theorem Kew {α : Type} {l : List α} {i : Nat} {d : α} (h : i < l.length) : l.getD i d ∈ l := by
 simp [List.getD_eq_getElem?_getD, List.getElem?_eq_getElem h]
theorem Kfh {α : Type} {l : List α} {i : Nat} {d : α} (h : i < l.length) : l.getD i d = l[i] := by
 simp [List.getD_eq_getElem?_getD, List.getElem?_eq_getElem h]
theorem Kez {α : Type} {l : List α} {i : Nat} (d : α) (h : i < l.length) : l.take (i + 1) = l.take i ++ [l.getD i d] := by
 rw [List.take_succ_eq_append_getElem h, Kfh h]
theorem Kjf {α : Type} {l : List α} {i : Nat} (d : α) (h : i < l.length) : l.drop i = l.getD i d :: l.drop (i + 1) := by
 rw [List.drop_eq_getElem_cons h, Kfh h]
theorem Kft {β : Type} (b : Bool) (x y : β) : (bif !b then x else y) = bif b then y else x := by cases b <;> rfl
theorem Kik {β : Type} (p : Prop) [Decidable p] (x y : β) : (bif decide p then x else y) = if p then x else y := by by_cases h : p <;> simp [h]
theorem Kpk {σ β : Type} {S : σ → Option (σ ⊕ β)} (st : Nat → σ) {n : Nat} {b : β} (h1 : ∀ i, i < n → S (st i) = some (.inl (st (i + 1)))) (h2 : S (st n) = some (.inr b)) : ∀ f k, k ≤ n → n - k < f → iter S f (st k) = some b
 | 0, k, _, h => by omega
 | f + 1, k, hk, h => by
  simp only [iter]
  by_cases hn : k < n
  ·rw [h1 k hn]; exact Kpk st h1 h2 f (k + 1) (by omega) (by omega)
  ·obtain rfl : k = n := by omega
   rw [h2]
theorem Kfb {σ β : Type} {S : σ → Option (σ ⊕ β)} (st : Nat → σ) {n : Nat} (hn : n ≤ 1048576) {b : β} (h1 : ∀ i, i < n → S (st i) = some (.inl (st (i + 1)))) (h2 : S (st n) = some (.inr b)) : lp S (st 0) = some b :=
 Kpk st h1 h2 bigN 0 (Nat.zero_le _) (by simp only [bigN]; omega)
theorem Khp {σ β : Type} {S : σ → Option (σ ⊕ β)} (st : Nat → σ) {n : Nat} (p : Nat → Bool) {t e : β}
  (h1 : ∀ i, i < n → S (st i) = some (bif p i then .inl (st (i + 1)) else .inr e)) (h2 : S (st n) = some (.inr t)) : ∀ (f k : Nat), k ≤ n → n - k < f → iter S f (st k) = some (bif (List.range' k (n - k)).all p then t else e)
 | 0, k, _, h => by omega
 | f + 1, k, hk, h => by
  simp only [iter]
  by_cases hn : k < n
  ·rw [h1 k hn, show n - k = (n - (k + 1)) + 1 by omega, List.range'_succ, List.all_cons]
   cases hp : p k with
   | true =>
    simp only [cond_true, Bool.true_and]
    exact Khp st p h1 h2 f (k + 1) (by omega) (by omega)
   | false => simp
  ·obtain rfl : k = n := by omega
   rw [h2]
   simp
theorem Kjd {α : Type} (d : α) (p : α → Bool) (a : List α) : (List.range a.length).all (fun i => p (a.getD i d)) = a.all p := by
 rw [Bool.eq_iff_iff]
 simp only [List.all_eq_true, List.mem_range]
 constructor
 ·intro q x hx
  obtain ⟨i, hi⟩ := List.getElem?_of_mem hx
  have hil := (List.getElem?_eq_some_iff.1 hi).1
  have := q i hil
  simpa [List.getD_eq_getElem?_getD, hi] using this
 ·intro q i hi
  exact q _ (Kew hi)
theorem Kho {α σ β : Type} {S : σ → Option (σ ⊕ β)} (l : List α) (d : α) (st : Nat → σ) (hl : l.length ≤ 1048576) (p : α → Bool) {t e : β}
  (h1 : ∀ i, i < l.length → l.getD i d ∈ l → S (st i) = some (bif p (l.getD i d) then .inl (st (i + 1)) else .inr e)) (h2 : S (st l.length) = some (.inr t)) : lp S (st 0) = some (bif l.all p then t else e) := by
 have := Khp st (n := l.length) (fun i => p (l.getD i d)) (fun i hi => h1 i hi (Kew hi)) h2 bigN 0 (Nat.zero_le _) (by simp only [bigN]; omega)
 rw [Nat.sub_zero, ← List.range_eq_range', Kjd d p l] at this
 exact this
def goL {α γ β : Type} (g : γ → α → γ ⊕ β) (out : γ → β) : List α → γ → β
 | [], a => out a
 | x :: r, a => match g a x with
  | .inl a' => goL g out r a'
  | .inr b => b
theorem Kkg {α γ σ β : Type} {S : σ → Option (σ ⊕ β)} (l : List α) (d : α) (mk : γ → Nat → σ) (g : γ → α → γ ⊕ β) (out : γ → β) (I : γ → Nat → Prop)
  (h1 : ∀ a i, i < l.length → I a i → l.getD i d ∈ l → S (mk a i) = some (match g a (l.getD i d) with | .inl a' => .inl (mk a' (i + 1)) | .inr b => .inr b) ∧ ∀ a', g a (l.getD i d) = .inl a' → I a' (i + 1))
  (h2 : ∀ a, I a l.length → S (mk a l.length) = some (.inr (out a))) : ∀ f k a, I a k → k ≤ l.length → l.length - k < f → iter S f (mk a k) = some (goL g out (l.drop k) a)
 | 0, k, a, _, _, h => by omega
 | f + 1, k, a, hi, hk, h => by
  simp only [iter]
  by_cases hn : k < l.length
  ·obtain ⟨e1, e2⟩ := h1 a k hn hi (Kew hn)
   rw [e1, Kjf d hn]
   simp only [goL]
   cases hg : g a (l.getD k d) with
   | inl a' => exact Kkg l d mk g out I h1 h2 f (k + 1) a' (e2 a' hg) (by omega) (by omega)
   | inr b => rfl
  ·obtain rfl : k = l.length := by omega
   rw [h2 a hi, List.drop_length]
   rfl
theorem lp_go {α γ σ β : Type} {S : σ → Option (σ ⊕ β)} (l : List α) (d : α) (mk : γ → Nat → σ) (g : γ → α → γ ⊕ β) (out : γ → β) (I : γ → Nat → Prop) (hl : l.length ≤ 1048576)
  (h1 : ∀ a i, i < l.length → I a i → l.getD i d ∈ l → S (mk a i) = some (match g a (l.getD i d) with | .inl a' => .inl (mk a' (i + 1)) | .inr b => .inr b) ∧ ∀ a', g a (l.getD i d) = .inl a' → I a' (i + 1))
  (h2 : ∀ a, I a l.length → S (mk a l.length) = some (.inr (out a))) {a0 : γ} (h0 : I a0 0) : lp S (mk a0 0) = some (goL g out l a0) := by
 have := Kkg l d mk g out I h1 h2 bigN 0 a0 h0 (Nat.zero_le _) (by simp only [bigN]; omega)
 rw [List.drop_zero] at this
 exact this
theorem Kpj {α γ σ β : Type} {S : σ → Option (σ ⊕ β)} (l : List α) (d : α) (mk : γ → Nat → σ) (g : γ → α → γ) (out : γ → β) (I : γ → Nat → Prop) (hl : l.length ≤ 1048576)
  (h1 : ∀ a i, i < l.length → I a i → l.getD i d ∈ l → S (mk a i) = some (.inl (mk (g a (l.getD i d)) (i + 1))) ∧ I (g a (l.getD i d)) (i + 1))
  (h2 : ∀ a, I a l.length → S (mk a l.length) = some (.inr (out a))) {a0 : γ} (h0 : I a0 0) : lp S (mk a0 0) = some (out (l.foldl g a0)) := by
 rw [lp_go l d mk (fun a x => (.inl (g a x) : γ ⊕ β)) out I hl (fun a i hi hI hm => ⟨(h1 a i hi hI hm).1, fun a' h => by simp only [Sum.inl.injEq] at h; rw [← h]; exact (h1 a i hi hI hm).2⟩) h2 h0]
 congr 1
 clear h1 h2 hl
 induction l generalizing a0 with
 | nil => rfl
 | cons x r ih =>
  have : ∀ (q : List α) (a : γ), goL (fun a x => (.inl (g a x) : γ ⊕ β)) out q a = out (q.foldl g a) := by
   intro q
   induction q with
   | nil => intro a; rfl
   | cons y q ih => intro a; simp only [goL, List.foldl_cons]; exact ih _
  exact this _ _
theorem Kis {σ τ β γ δ : Type} {S : σ → Option (σ ⊕ β)} {T : τ → Option (τ ⊕ γ)} (R : σ → τ → Prop) (μ : σ → Nat) (E : β → γ → Prop)
  (h : ∀ s t, R s t → (∃ s' t', S s = some (.inl s') ∧ T t = some (.inl t') ∧ R s' t' ∧ μ s' < μ s) ∨ ∃ b c, S s = some (.inr b) ∧ T t = some (.inr c) ∧ E b c) : ∀ f s t, R s t → μ s < f → ∃ b c, iter S f s = some b ∧ iter T f t = some c ∧ E b c
 | 0, s, t, _, hm => by omega
 | f + 1, s, t, hr, hm => by
  simp only [iter]
  rcases h s t hr with ⟨s', t', e1, e2, e3, e4⟩ | ⟨b, c, e1, e2, e3⟩
  ·rw [e1, e2]; exact Kis (δ := δ) R μ E h f s' t' e3 (by omega)
  ·rw [e1, e2]; exact ⟨b, c, rfl, rfl, e3⟩
theorem Krq {σ τ β γ : Type} {S : σ → Option (σ ⊕ β)} {T : τ → Option (τ ⊕ γ)} (R : σ → τ → Prop) (μ : σ → Nat) (E : β → γ → Prop)
  (h : ∀ s t, R s t → (∃ s' t', S s = some (.inl s') ∧ T t = some (.inl t') ∧ R s' t' ∧ μ s' < μ s) ∨ ∃ b c, S s = some (.inr b) ∧ T t = some (.inr c) ∧ E b c) {s : σ} {t : τ} (hr : R s t) (hm : μ s ≤ 1048576) :
  ∃ b c, lp S s = some b ∧ lp T t = some c ∧ E b c :=
 Kis (δ := Unit) R μ E h bigN s t hr (by simp only [bigN]; omega)
end Go.Mach
namespace Go.Mach
set_option linter.unusedVariables false
end Go.Mach
namespace Go.Proofs.YtppjdpcmaipoaaaGreat.Tw
open Go.Mach
set_option linter.unusedVariables false
set_option linter.unusedSimpArgs false
set_option maxRecDepth 20000
abbrev SpT := Int × Int
abbrev SkT := Int × Int × Int × Int × List Int × List Int × List (List Int)
abbrev EnT := Int × Int × List SpT × SkT
def SkLe (b : Nat) (s : SkT) : Prop := s.2.2.2.2.1.length ≤ b ∧ s.2.2.2.2.2.1.length ≤ b ∧ s.2.2.2.2.2.2.length ≤ b ∧ ∀ r ∈ s.2.2.2.2.2.2, r.length ≤ b
def EnLe (b : Nat) (e : EnT) : Prop := e.2.2.1.length ≤ b ∧ SkLe b e.2.2.2
abbrev en0 : EnT := (0, 0, [], 0, 0, 0, 0, [], [], [])
def EnsLe (b : Nat) (l : List EnT) : Prop := l.length ≤ b ∧ ∀ e ∈ l, EnLe b e
end Go.Proofs.YtppjdpcmaipoaaaGreat.Tw
namespace Go.Mach
theorem Kok : ∀ {l : List Sp2}, Canon l ↔ (∀ i, i < l.length → (l.getD i (0, 0)).1 ≤ (l.getD i (0, 0)).2) ∧ ∀ i, i + 1 < l.length → (l.getD i (0, 0)).2 + 1 < (l.getD (i + 1) (0, 0)).1
 | [] => by simp [Canon]
 | x :: r => by
  have ih := Kok (l := r)
  constructor
  ·rintro ⟨h1, h2, h3⟩
   obtain ⟨g1, g2⟩ := ih.1 h3
   refine ⟨fun i hi => ?_, fun i hi => ?_⟩
   ·cases i with
    | zero => exact h1
    | succ i => exact g1 i (by simpa using hi)
   ·cases i with
    | zero => exact h2 _ (Kew (by simpa using hi))
    | succ i => exact g2 i (by simpa using hi)
  ·rintro ⟨h1, h2⟩
   have h3 : Canon r := ih.2 ⟨fun i hi => h1 (i + 1) (by simpa using hi), fun i hi => h2 (i + 1) (by simpa using hi)⟩
   refine ⟨h1 0 (by simp), fun y hy => ?_, h3⟩
   cases r with
   | nil => simp at hy
   | cons z r =>
    have q := h2 0 (by simp)
    have q' : x.2 + 1 < z.1 := q
    have := h3.head_le (n := y.1) ⟨y, hy, Int.le_refl _, h3.mem y hy⟩
    omega
end Go.Mach
namespace Go.Proofs.YtppjdpcmaipoaaaGreat.Tw
open Go.Mach
set_option linter.unusedVariables false
set_option linter.unusedSimpArgs false
set_option maxRecDepth 20000
def inR (x a b : Int) : Bool := decide (x ≥ a) && decide (x ≤ b)
theorem Kfn (x a b : Int) : Kb (x, a, b) = some (inR x a b) := by unfold inR; simp only [Kb]; cases decide (x ≥ a) <;> rfl
theorem Kfu (x a b : Int) : Kj (x, a, b) = some (inR x a b) := by unfold inR; simp only [Kj]; cases decide (x ≥ a) <;> rfl
theorem Kfr {x a b : Int} : inR x a b = true ↔ a ≤ x ∧ x ≤ b := by unfold inR; simp
theorem Kfs {α β : Type} [DecidableEq α] (u v : α) (x y : β) : (bif u != v then x else y) = if u = v then y else x := by
 by_cases h : u = v
 ·rw [if_pos h, h, bne_self_eq_false, cond_false]
 ·rw [if_neg h, bne_iff_ne.2 h, cond_true]
theorem Kfv {α β : Type} [DecidableEq α] (u v : α) (x y : β) : (bif u == v then x else y) = if u = v then x else y := by
 by_cases h : u = v
 ·rw [if_pos h, h, beq_self_eq_true, cond_true]
 ·rw [if_neg h, beq_eq_false_iff_ne.2 h, cond_false]
theorem wpred {i : Nat} (h : 0 < i) (h' : i ≤ 1048576) : w64 ((i : Int) - 1) = ((i - 1 : Nat) : Int) := by
 rw [Key (by omega) (by omega)]
 omega
def Kiu (l : List SpT) (i : Nat) : Bool :=
 inR (l.getD i (0, 0)).1 0 9999 && (inR (l.getD i (0, 0)).2 (l.getD i (0, 0)).1 9999 && !(decide (0 < i) && decide ((l.getD i (0, 0)).1 ≤ w64 ((l.getD (i - 1) (0, 0)).2 + 1))))
def setOk (l : List SpT) : Bool := (List.range l.length).all (Kiu l)
theorem Kfi {l : List SpT} : setOk l = true ↔ Canon l ∧ ∀ x ∈ l, 0 ≤ x.1 ∧ x.2 ≤ 9999 := by
 unfold setOk
 simp only [List.all_eq_true, List.mem_range, Kiu, Bool.and_eq_true, Kfr, Bool.not_eq_true', Bool.and_eq_false_imp, decide_eq_true_eq, decide_eq_false_iff_not]
 rw [Kok]
 constructor
 ·intro h
  have hb : ∀ x ∈ l, 0 ≤ x.1 ∧ x.2 ≤ 9999 := by
   intro x hx
   obtain ⟨i, hi⟩ := List.getElem?_of_mem hx
   have hil := (List.getElem?_eq_some_iff.1 hi).1
   have := h i hil
   have e : l.getD i (0, 0) = x := by simp [List.getD_eq_getElem?_getD, hi]
   rw [e] at this
   exact ⟨this.1.1, this.2.1.2⟩
  refine ⟨⟨fun i hi => (h i hi).2.1.1, fun i hi => ?_⟩, hb⟩
  have h1 := (h (i + 1) hi).2.2 (by omega)
  have h2 := hb _ (Kew (d := (0, 0)) (show i < l.length by omega))
  have h3 := (h i (by omega)).2.1
  rw [Nat.add_sub_cancel, Key (by omega) (by omega)] at h1
  omega
 ·rintro ⟨⟨h1, h2⟩, h3⟩ i hi
  have q := h3 _ (Kew (d := (0, 0)) hi)
  have q1 := h1 i hi
  refine ⟨⟨q.1, by omega⟩, ⟨q1, q.2⟩, fun hp => ?_⟩
  have q2 := h3 _ (Kew (d := (0, 0)) (show i - 1 < l.length by omega))
  have q3 := h1 (i - 1) (by omega)
  have q4 := h2 (i - 1) (by omega)
  rw [show i - 1 + 1 = i by omega] at q4
  rw [Key (by omega) (by omega)]
  omega
theorem Kfz {σ β : Type} {S : σ → Option (σ ⊕ β)} (st : Nat → σ) {n : Nat} (hn : n ≤ 1048576) (p : Nat → Bool) {t e : β}
  (h1 : ∀ i, i < n → S (st i) = some (bif p i then .inl (st (i + 1)) else .inr e)) (h2 : S (st n) = some (.inr t)) : lp S (st 0) = some (bif (List.range n).all p then t else e) := by
 have := Khp st p h1 h2 bigN 0 (Nat.zero_le _) (by simp only [bigN]; omega)
 rw [Nat.sub_zero, ← List.range_eq_range'] at this
 exact this
theorem Kgd {l : List SpT} (hl : l.length ≤ 1048576) : Kae l = some (setOk l) := by
 have h := Kfz (S := Kae_s26) (t := .inr ()) (e := .inl false) (fun i => (l, (i : Int))) hl (Kiu l) (fun i hi => by
  unfold Kiu
  simp only [Kae_s26, lnn, ltn hi, cond_true, ixn hi, gxn, Kfn, Option.bind_some, Kft, wsucc (show i ≤ 1048576 by omega)]
  generalize hb1 : inR (l.getD i (0, 0)).1 0 9999 = b1
  generalize hb2 : inR (l.getD i (0, 0)).2 (l.getD i (0, 0)).1 9999 = b2
  cases b1 <;> cases b2 <;> try rfl
  by_cases hz : 0 < i
  ·simp only [cond_true, dT (show (i : Int) > 0 by omega), wpred hz (show i ≤ 1048576 by omega), ixn (show i - 1 < l.length by omega), gxn, dT hz, Bool.true_and]
   cases decide ((l.getD i (0, 0)).1 ≤ w64 ((l.getD (i - 1) (0, 0)).2 + 1)) <;> rfl
  ·simp only [cond_true, dF (show ¬ (i : Int) > 0 by omega), cond_false, dF hz]
   rfl) (by simp only [Kae_s26, lnn, ltF, cond_false])
 rw [cast0] at h
 simp only [Kae, h, setOk]
 cases (List.range l.length).all (Kiu l) <;> rfl
theorem Kgp {l : List SpT} (hl : l.length ≤ 1048576) : Kai l = some (setOk l) := by
 have h := Kfz (S := Kai_s26) (t := .inr ()) (e := .inl false) (fun i => (l, l, (l.length : Int), (i : Int))) hl (Kiu l) (fun i hi => by
  unfold Kiu
  simp only [Kai_s26, lnn, ltn hi, cond_true, ixn hi, gxn, Kfu, Option.bind_some, Kft, wsucc (show i ≤ 1048576 by omega)]
  generalize hb1 : inR (l.getD i (0, 0)).1 0 9999 = b1
  generalize hb2 : inR (l.getD i (0, 0)).2 (l.getD i (0, 0)).1 9999 = b2
  cases b1 <;> cases b2 <;> try rfl
  by_cases hz : 0 < i
  ·simp only [cond_true, dT (show (i : Int) > 0 by omega), wpred hz (show i ≤ 1048576 by omega), ixn (show i - 1 < l.length by omega), gxn, dT hz, Bool.true_and]
   cases decide ((l.getD i (0, 0)).1 ≤ w64 ((l.getD (i - 1) (0, 0)).2 + 1)) <;> rfl
  ·simp only [cond_true, dF (show ¬ (i : Int) > 0 by omega), cond_false, dF hz]
   rfl) (by simp only [Kai_s26, ltF, cond_false])
 rw [cast0] at h
 simp only [Kai, lnn, h, setOk]
 cases (List.range l.length).all (Kiu l) <;> rfl
def l3L (l : List Int) (n most : Int) (z : Bool) : Bool := decide ((l.length : Int) = n) && l.all (fun x => inR x 0 most && !(z && (x != 0)))
theorem Kid {l : List Int} {n most : Int} {z : Bool} (hl : l.length ≤ 1048576) : Kaw (l, n, most, z) = some (l3L l n most z) := by
 unfold l3L
 simp only [Kaw, lnn]
 rw [Kfs]
 by_cases hn : (l.length : Int) = n
 ·subst hn
  rw [if_pos rfl]
  have h := Kho (S := Kaw_s58) (t := .inr ()) (e := .inl false) l 0 (fun i => (l, (l.length : Int), most, z, (i : Int))) hl (fun x => inR x 0 most && !(z && (x != 0))) (fun i hi _ => by
   simp only [Kaw_s58, ltn hi, cond_true, ixn hi, gxn, Kfn, Option.bind_some, Kft, wsucc (show i ≤ 1048576 by omega)]
   generalize inR (l.getD i 0) 0 most = b1
   generalize (l.getD i 0 != 0) = b2
   cases b1 <;> cases b2 <;> cases z <;> rfl) (by simp only [Kaw_s58, ltF, cond_false])
  rw [cast0] at h
  rw [h]
  cases l.all (fun x => inR x 0 most && !(z && (x != 0))) <;> simp
 ·rw [if_neg hn]
  simp [hn]
theorem Kro {l : List Int} {n most : Int} {z : Bool} : l3L l n most z = true ↔ (l.length : Int) = n ∧ ∀ x ∈ l, (0 ≤ x ∧ x ≤ most) ∧ (z = true → x = 0) := by
 simp only [l3L, Bool.and_eq_true, decide_eq_true_eq, List.all_eq_true, Kfr, Bool.not_eq_true']
 refine and_congr Iff.rfl (forall_congr' fun x => forall_congr' fun _ => and_congr Iff.rfl ?_)
 cases z <;> simp
structure SkOk (s : SkT) : Prop where
 cnt : 0 ≤ s.1 ∧ s.1 ≤ 1000000000
 sum : 0 ≤ s.2.1 ∧ s.2.1 ≤ 1000000000
 min : 0 ≤ s.2.2.1 ∧ s.2.2.1 ≤ 1000000
 max : 0 ≤ s.2.2.2.1 ∧ s.2.2.2.1 ≤ 1000000
 le : s.2.2.1 ≤ s.2.2.2.1
 rows : ∃ r0 r1, s.2.2.2.2.2.2 = [r0, r1] ∧ ((r0.length = 4) ∧ ∀ x ∈ r0, (0 ≤ x ∧ x ≤ 1000000000) ∧ (s.1 = 0 → x = 0)) ∧ ((r1.length = 4) ∧ ∀ x ∈ r1, (0 ≤ x ∧ x ≤ 1000000000) ∧ (s.1 = 0 → x = 0))
 zero : s.1 = 0 → s.2.1 = 0 ∧ s.2.2.2.1 = 0
 hist : s.2.2.2.2.1.length = 8 ∧ ∀ x ∈ s.2.2.2.2.1, (0 ≤ x ∧ x ≤ 1000000000) ∧ (s.1 = 0 → x = 0)
 regs : s.2.2.2.2.2.1.length = 8 ∧ ∀ x ∈ s.2.2.2.2.2.1, (0 ≤ x ∧ x ≤ 17) ∧ (s.1 = 0 → x = 0)
def skOk (s : SkT) : Bool := inR s.1 0 1000000000 && (inR s.2.1 0 1000000000 && (inR s.2.2.1 0 1000000 && (inR s.2.2.2.1 0 1000000 && (!decide (s.2.2.1 > s.2.2.2.1) && ((s.2.2.2.2.2.2.length : Int) == 2 &&
 (!((s.1 == 0) && ((s.2.1 != 0) || (s.2.2.2.1 != 0))) && (l3L s.2.2.2.2.1 8 1000000000 (s.1 == 0) && (l3L s.2.2.2.2.2.1 8 17 (s.1 == 0) && (l3L (s.2.2.2.2.2.2.getD 0 []) 4 1000000000 (s.1 == 0) && l3L (s.2.2.2.2.2.2.getD 1 []) 4 1000000000 (s.1 == 0))))))))))
theorem Khg {s : SkT} : skOk s = true ↔ SkOk s := by
 obtain ⟨a1, a2, a3, a4, a5, a6, a7⟩ := s
 simp only [skOk, Bool.and_eq_true, Kfr, Bool.not_eq_true', decide_eq_false_iff_not, beq_iff_eq, Kro]
 constructor
 ·rintro ⟨h1, h2, h3, h4, h5, h6, h7, h8, h9, h10, h11⟩
  match a7, h6 with
  | [r0, r1], _ =>
   refine ⟨h1, h2, h3, h4, by dsimp only at h5 ⊢; omega, ⟨r0, r1, rfl, ⟨by have : (r0.length : Int) = 4 := h10.1; omega, fun x hx => ⟨(h10.2 x hx).1, fun hz => (h10.2 x hx).2 (by simpa using hz)⟩⟩, ⟨by have : (r1.length : Int) = 4 := h11.1; omega, fun x hx => ⟨(h11.2 x hx).1, fun hz => (h11.2 x hx).2 (by simpa using hz)⟩⟩⟩, fun hz => ?_,
    ⟨by have := h8.1; dsimp only; omega, fun x hx => ⟨(h8.2 x hx).1, fun hz => (h8.2 x hx).2 (by simpa using hz)⟩⟩, ⟨by have := h9.1; dsimp only; omega, fun x hx => ⟨(h9.2 x hx).1, fun hz => (h9.2 x hx).2 (by simpa using hz)⟩⟩⟩
   dsimp only at hz h7 ⊢
   subst hz
   simpa using h7
  | [], h => simp at h
  | [_], h => simp at h
  | _ :: _ :: _ :: _, h => simp at h; omega
 ·rintro ⟨h1, h2, h3, h4, h5, ⟨r0, r1, h6, h10, h11⟩, h7, h8, h9⟩
  dsimp only at h6 h7 h8 h9 h10 h11
  subst h6
  have e0 : (r0.length : Int) = 4 := by omega
  have e1 : (r1.length : Int) = 4 := by omega
  refine ⟨h1, h2, h3, h4, by dsimp only at h5; omega, by simp, ?_, ⟨by omega, fun x hx => ⟨(h8.2 x hx).1, fun hz => (h8.2 x hx).2 (by simpa using hz)⟩⟩, ⟨by omega, fun x hx => ⟨(h9.2 x hx).1, fun hz => (h9.2 x hx).2 (by simpa using hz)⟩⟩,
   ⟨e0, fun x hx => ⟨(h10.2 x hx).1, fun hz => (h10.2 x hx).2 (by simpa using hz)⟩⟩, ⟨e1, fun x hx => ⟨(h11.2 x hx).1, fun hz => (h11.2 x hx).2 (by simpa using hz)⟩⟩⟩
  by_cases hz : a1 = 0
  ·have := h7 hz
   simp [this.1, this.2]
  ·simp [hz]
theorem Knb {l : List (List Int)} {b : Nat} (h : ∀ r ∈ l, r.length ≤ b) (i : Nat) : (l.getD i []).length ≤ b := by
 rw [List.getD_eq_getElem?_getD]
 cases hq : l[i]? with
 | none => simp
 | some r => exact h r (List.mem_of_getElem? hq)
theorem Kgh {s : SkT} (h : SkLe 1048576 s) : Kas s = some (skOk s) := by
 obtain ⟨a1, a2, a3, a4, a5, a6, a7⟩ := s
 obtain ⟨w1, w2, w3, w4⟩ := h
 simp only at w1 w2 w3 w4
 unfold skOk
 simp only [Kas, Kfn, Option.bind_some]
 have hj : (a7.length : Int) = 2 → ∀ z, Kas_l31 ((a1, a2, a3, a4, a5, a6, a7), z) =
   some (l3L a5 8 1000000000 z && (l3L a6 8 17 z && (l3L (a7.getD 0 []) 4 1000000000 z && l3L (a7.getD 1 []) 4 1000000000 z))) := by
  intro hr z
  simp only [Kas_l31, Kid w1, Kid w2, Kid (Knb w4 0), Kid (Knb w4 1), Option.bind_some]
  rw [chkD (by omega), chkD (by omega)]
  generalize l3L a5 8 1000000000 z = b1
  generalize l3L a6 8 17 z = b2
  cases b1 <;> cases b2 <;> try rfl
  cases l3L (a7.getD 0 []) 4 1000000000 z <;> rfl
 generalize inR a1 0 1000000000 = b1
 generalize inR a2 0 1000000000 = b2
 generalize inR a3 0 1000000 = b3
 generalize inR a4 0 1000000 = b4
 generalize decide (a3 > a4) = b5
 cases b1 <;> try rfl
 cases b2 <;> try rfl
 cases b3 <;> try rfl
 cases b4 <;> try rfl
 cases b5 <;> try rfl
 simp only [Bool.not_true, cond_false, Bool.true_and, Bool.not_false, lnn]
 by_cases hr : (a7.length : Int) = 2
 ·rw [hj hr]
  have e1 : ((a7.length : Int) != 2) = false := by simpa using hr
  have e2 : ((a7.length : Int) == 2) = true := by simpa using hr
  rw [e1, e2]
  generalize (a1 == 0) = b6
  generalize (a2 != 0) = b7
  generalize (a4 != 0) = b8
  cases b6 <;> cases b7 <;> cases b8 <;> simp
 ·have e1 : ((a7.length : Int) != 2) = true := by simpa using hr
  have e2 : ((a7.length : Int) == 2) = false := by simpa using hr
  rw [e1, e2]
  rfl
theorem Khf {l : List Int} (h : l.length ≤ 1048576) : Kcq l = some l := by
 simp only [Kcq]; rw [fitsC (by omega) (by omega)]
theorem Koq {c s mi ma : Int} {h r r0 r1 : List Int} (hh : h.length ≤ 1000) (hr : r.length ≤ 1000) (h0 : r0.length ≤ 1000) (h1 : r1.length ≤ 1000) :
  Kbi (c, s, mi, ma, h, r, [r0, r1]) = some (h ++ r ++ r0 ++ r1) := by
 simp only [Kbi]
 rw [Khf (by omega), Option.bind_some, fitsC (by omega) (by omega)]
 have : lp Kbi_s58 (h ++ r, [r0, r1], 2, ((0 : Nat) : Int)) = some (h ++ r ++ r0 ++ r1) := by
  have e1 : w64 (((0 : Nat) : Int) + 1) = ((1 : Nat) : Int) := wsucc (by omega)
  have e2 : w64 (((1 : Nat) : Int) + 1) = ((2 : Nat) : Int) := wsucc (by omega)
  exact Kfb (S := Kbi_s58) (n := 2) (b := h ++ r ++ r0 ++ r1) (fun i => ((if i = 0 then h ++ r else if i = 1 then h ++ r ++ r0 else h ++ r ++ r0 ++ r1), [r0, r1], 2, (i : Int))) (by omega) (fun i hi => by
   match i, hi with
   | 0, _ =>
    have g : gx [r0, r1] ((0 : Nat) : Int) [] = r0 := rfl
    have d : decide (((0 : Nat) : Int) < 2) = true := rfl
    simp only [Kbi_s58, d, cond_true, if_pos, g, e1]
    rw [ixn (by simp), fitsC (by simp; omega) (by omega)]
    rfl
   | 1, _ =>
    have g : gx [r0, r1] ((1 : Nat) : Int) [] = r1 := rfl
    have d : decide (((1 : Nat) : Int) < 2) = true := rfl
    simp only [Kbi_s58, d, cond_true, g, e2]
    rw [ixn (by simp), if_neg (by omega), if_true, fitsC (by simp; omega) (by omega)]
    rfl) rfl
 have e : ln [r0, r1] = 2 := rfl
 rw [e]
 rw [cast0] at this
 rw [this]
 rfl
def accW (l : List Int) : Nat → Int
 | 0 => 0
 | i + 1 => w64 (accW l i + l.getD i 0)
theorem Klh {l : List Int} (hl : l.length ≤ 100) (h : ∀ x ∈ l, 0 ≤ x ∧ x ≤ 1000000000) : ∀ i, i ≤ l.length → (0 ≤ accW l i ∧ accW l i ≤ i * 1000000000) ∧ (accW l i = 0 ↔ ∀ j, j < i → l.getD j 0 = 0)
 | 0, _ => ⟨⟨by simp [accW], by simp [accW]⟩, by simp [accW]⟩
 | i + 1, hi => by
  obtain ⟨⟨h1, h2⟩, h3⟩ := Klh hl h i (by omega)
  obtain ⟨q1, q2⟩ := h _ (Kew (d := 0) (show i < l.length by omega))
  have hw : accW l (i + 1) = accW l i + l.getD i 0 := by
   simp only [accW]
   exact Key (by omega) (by omega)
  rw [hw]
  refine ⟨⟨by omega, by omega⟩, ?_⟩
  constructor
  ·intro hz j hj
   by_cases hji : j = i
   ·subst hji; omega
   ·exact h3.1 (by omega) j (by omega)
  ·intro hz
   rw [h3.2 fun j hj => hz j (by omega), hz i (by omega)]
   rfl
theorem Kgv {s : SkT} (h : SkLe 1048576 s) : Kr s = some (skOk s) := by
 obtain ⟨a1, a2, a3, a4, a5, a6, a7⟩ := s
 obtain ⟨w1, w2, w3, w4⟩ := h
 simp only at w1 w2 w3 w4
 have no : ¬ SkOk (a1, a2, a3, a4, a5, a6, a7) → (some false : Option Bool) = some (skOk (a1, a2, a3, a4, a5, a6, a7)) := by
  intro hn
  cases hq : skOk (a1, a2, a3, a4, a5, a6, a7) with
  | false => rfl
  | true => exact absurd (Khg.1 hq) hn
 simp only [Kr, lnn, Kfs]
 by_cases h5 : (a5.length : Int) = 8
 ·rw [if_pos h5]
  by_cases h6 : (a6.length : Int) = 8
  ·rw [if_pos h6]
   by_cases h7 : (a7.length : Int) = 2
   ·rw [if_pos h7]
    match a7, h7 with
    | [r0, r1], _ =>
     have g0 : List.getD [r0, r1] 0 [] = r0 := rfl
     have g1 : List.getD [r0, r1] 1 [] = r1 := rfl
     rw [g0, g1, chkD (by simp)]
     by_cases h8 : (r0.length : Int) = 4
     ·rw [if_pos h8, chkD (by simp)]
      by_cases h9 : (r1.length : Int) = 4
      ·rw [if_pos h9, Koq (by omega) (by omega) (by omega) (by omega), Option.bind_some]
       rw [fitsC (by simp; omega) (by omega)]
       generalize hL : a5 ++ a6 ++ r0 ++ r1 ++ [a1, a2, a3, a4] = L
       have hLlen : L.length = 28 := by rw [← hL]; simp; omega
       have hmem : ∀ x, x ∈ L ↔ (x ∈ a5 ∨ x ∈ a6 ∨ x ∈ r0 ∨ x ∈ r1 ∨ x = a1 ∨ x = a2 ∨ x = a3 ∨ x = a4) := by
        intro x
        rw [← hL]
        simp only [List.mem_append, List.mem_cons, List.not_mem_nil, or_false]
        simp only [or_assoc]
       have e1 := Kho (S := Kr_s122) (t := .inr ((a1, a2, a3, a4, a5, a6, [r0, r1]), accW L L.length)) (e := .inl false) L 0 (fun i => ((a1, a2, a3, a4, a5, a6, [r0, r1]), accW L i, L, (L.length : Int), (i : Int))) (by omega) (fun x => inR x 0 1000000000) (fun i hi _ => by
        simp only [Kr_s122, ltn hi, cond_true, ixn hi, lxn hi, gxn, Kfu, Option.bind_some, Kft, accW, wsucc (show i ≤ 1048576 by omega)]
        cases inR (L.getD i 0) 0 1000000000 <;> rfl) (by simp only [Kr_s122, ltF, cond_false])
       have e2 : ∀ t : Int, lp Kr_s250 ((a1, a2, a3, a4, a5, a6, [r0, r1]), t, a6, a6.length, 0) = some (bif a6.all (fun x => !decide (x > 17)) then .inr ((a1, a2, a3, a4, a5, a6, [r0, r1]), t) else .inl false) := by
        intro t
        exact Kho (S := Kr_s250) (t := .inr ((a1, a2, a3, a4, a5, a6, [r0, r1]), t)) (e := .inl false) a6 0 (fun i => ((a1, a2, a3, a4, a5, a6, [r0, r1]), t, a6, (a6.length : Int), (i : Int))) (by omega) (fun x => !decide (x > 17)) (fun i hi _ => by
         simp only [Kr_s250, ltn hi, cond_true, ixn hi, gxn, wsucc (show i ≤ 1048576 by omega)]
         cases decide (a6.getD i 0 > 17) <;> rfl) (by simp only [Kr_s250, ltF, cond_false])
       have e1 : lp Kr_s122 ((a1, a2, a3, a4, a5, a6, [r0, r1]), 0, L, L.length, 0) = some (bif L.all (fun x => inR x 0 1000000000) then .inr ((a1, a2, a3, a4, a5, a6, [r0, r1]), accW L L.length) else .inl false) := e1
       rw [e1]
       by_cases hall : L.all (fun x => inR x 0 1000000000) = true
       ·rw [hall]
        simp only [cond_true, bx_inr]
        rw [e2]
        have hin : ∀ x ∈ L, 0 ≤ x ∧ x ≤ 1000000000 := by simpa [Kfr] using hall
        obtain ⟨_, hz⟩ := Klh (by omega) hin L.length (Nat.le_refl _)
        have hz' : accW L L.length = 0 ↔ ∀ x ∈ L, x = 0 := by
         rw [hz]
         constructor
         ·intro q x hx
          obtain ⟨j, hj⟩ := List.getElem?_of_mem hx
          have := q j (List.getElem?_eq_some_iff.1 hj).1
          simpa [List.getD_eq_getElem?_getD, hj] using this
         ·intro q j hj
          exact q _ (Kew hj)
        have h17 : a6.all (fun x => !decide (x > 17)) = true ↔ ∀ x ∈ a6, x ≤ 17 := by simp
        have i5 : ∀ x ∈ a5, 0 ≤ x ∧ x ≤ 1000000000 := fun x hx => hin x ((hmem x).2 (.inl hx))
        have i6 : ∀ x ∈ a6, 0 ≤ x ∧ x ≤ 1000000000 := fun x hx => hin x ((hmem x).2 (.inr (.inl hx)))
        have j0 : ∀ x ∈ r0, 0 ≤ x ∧ x ≤ 1000000000 := fun x hx => hin x ((hmem x).2 (.inr (.inr (.inl hx))))
        have j1 : ∀ x ∈ r1, 0 ≤ x ∧ x ≤ 1000000000 := fun x hx => hin x ((hmem x).2 (.inr (.inr (.inr (.inl hx)))))
        have k1 := hin a1 ((hmem a1).2 (by simp))
        have k2 := hin a2 ((hmem a2).2 (by simp))
        have k3 := hin a3 ((hmem a3).2 (by simp))
        have k4 := hin a4 ((hmem a4).2 (by simp))
        by_cases h17' : a6.all (fun x => !decide (x > 17)) = true
        ·rw [h17']
         simp only [cond_true, bx_inr]
         have l17 := h17.1 h17'
         rw [Kfv]
         by_cases hc : a1 = 0
         ·rw [if_pos hc]
          congr 1
          rw [Bool.eq_iff_iff, beq_iff_eq, hz', Khg]
          constructor
          ·intro hall0
           have m2 := hall0 a2 ((hmem a2).2 (by simp))
           have m3 := hall0 a3 ((hmem a3).2 (by simp))
           have m4 := hall0 a4 ((hmem a4).2 (by simp))
           exact ⟨k1, k2, by dsimp only; omega, by dsimp only; omega, by dsimp only; omega, ⟨r0, r1, rfl, ⟨by omega, fun x hx => ⟨j0 x hx, fun _ => hall0 x ((hmem x).2 (.inr (.inr (.inl hx))))⟩⟩,
            ⟨by omega, fun x hx => ⟨j1 x hx, fun _ => hall0 x ((hmem x).2 (.inr (.inr (.inr (.inl hx)))))⟩⟩⟩, fun _ => ⟨m2, m4⟩,
            ⟨by dsimp only; omega, fun x hx => ⟨i5 x hx, fun _ => hall0 x ((hmem x).2 (.inl hx))⟩⟩, ⟨by dsimp only; omega, fun x hx => ⟨⟨(i6 x hx).1, l17 x hx⟩, fun _ => hall0 x ((hmem x).2 (.inr (.inl hx)))⟩⟩⟩
          ·intro hs x hx
           obtain ⟨s1, s2, s3, s4, s5, ⟨q0, q1, s6, s7, s8⟩, s9, s10, s11⟩ := hs
           simp only [List.cons.injEq, and_true] at s6
           obtain ⟨rfl, rfl⟩ := s6
           obtain ⟨z2, z4⟩ := s9 hc
           dsimp only at s3 s5 z2 z4
           rcases (hmem x).1 hx with q | q | q | q | rfl | rfl | rfl | rfl
           ·exact (s10.2 x q).2 hc
           ·exact (s11.2 x q).2 hc
           ·exact (s7.2 x q).2 hc
           ·exact (s8.2 x q).2 hc
           ·exact hc
           ·exact z2
           ·omega
           ·exact z4
         ·rw [if_neg hc]
          by_cases hle : a3 ≤ a4
          ·rw [decide_eq_true hle, cond_true]
           congr 1
           rw [Bool.eq_iff_iff, decide_eq_true_eq, Khg]
           constructor
           ·intro hm
            exact ⟨k1, k2, by dsimp only; omega, by dsimp only; omega, hle, ⟨r0, r1, rfl, ⟨by omega, fun x hx => ⟨j0 x hx, fun q => absurd q hc⟩⟩, ⟨by omega, fun x hx => ⟨j1 x hx, fun q => absurd q hc⟩⟩⟩, fun q => absurd q hc,
             ⟨by dsimp only; omega, fun x hx => ⟨i5 x hx, fun q => absurd q hc⟩⟩, ⟨by dsimp only; omega, fun x hx => ⟨⟨(i6 x hx).1, l17 x hx⟩, fun q => absurd q hc⟩⟩⟩
           ·intro hs
            exact hs.max.2
          ·rw [decide_eq_false hle, cond_false]
           exact no fun hs => hle hs.le
        ·rw [Bool.not_eq_true] at h17'
         rw [h17']
         simp only [cond_false, bx_inl]
         exact no fun hs => by rw [h17.2 fun x hx => (hs.regs.2 x hx).1.2] at h17'; simp at h17'
       ·rw [Bool.not_eq_true] at hall
        rw [hall]
        simp only [cond_false, bx_inl]
        refine no fun hs => (by simp [hall] : ¬ L.all (fun x => inR x 0 1000000000) = true) ?_
        obtain ⟨s1, s2, s3, s4, s5, ⟨q0, q1, s6, s7, s8⟩, s9, s10, s11⟩ := hs
        simp only [List.cons.injEq, and_true] at s6
        obtain ⟨rfl, rfl⟩ := s6
        dsimp only at s1 s2 s3 s4 s5
        rw [List.all_eq_true]
        intro x hx
        rw [Kfr]
        rcases (hmem x).1 hx with q | q | q | q | rfl | rfl | rfl | rfl
        ·exact (s10.2 x q).1
        ·have := (s11.2 x q).1; omega
        ·exact (s7.2 x q).1
        ·exact (s8.2 x q).1
        ·exact s1
        ·exact s2
        ·omega
        ·omega
      ·rw [if_neg h9]
       exact no fun hs => h9 (by
        obtain ⟨q0, q1, s6, s7, s8⟩ := hs.rows
        simp only [List.cons.injEq, and_true] at s6
        obtain ⟨rfl, rfl⟩ := s6
        have := s8.1; omega)
     ·rw [if_neg h8]
      exact no fun hs => h8 (by
       obtain ⟨q0, q1, s6, s7, s8⟩ := hs.rows
       simp only [List.cons.injEq, and_true] at s6
       obtain ⟨rfl, rfl⟩ := s6
       have := s7.1; omega)
    | [], h => simp at h
    | [_], h => simp at h
    | _ :: _ :: _ :: _, h => simp at h; omega
   ·rw [if_neg h7]
    exact no fun hs => h7 (by
     obtain ⟨q0, q1, s6, _⟩ := hs.rows
     dsimp only at s6
     rw [s6]; rfl)
  ·rw [if_neg h6]
   exact no fun hs => h6 (by have := hs.regs.1; dsimp only at this; omega)
 ·rw [if_neg h5]
  exact no fun hs => h5 (by have := hs.hist.1; dsimp only at this; omega)
def enOk (e : EnT) : Bool := inR e.1 0 4 && inR e.2.1 0 20 && decide (e.2.2.1.length > 0) && setOk e.2.2.1 && skOk e.2.2.2
theorem Kfq {e : EnT} (h : EnLe 1048576 e) : Kck e = some (enOk e) := by
 obtain ⟨a1, a2, a3, s⟩ := e
 obtain ⟨a4, a5, a6, a7, a8, a9, a10⟩ := s
 obtain ⟨w1, w2⟩ := h
 have hs := Kgh w2
 simp only at w1 hs
 unfold enOk
 simp only [Kck, Kdb, Kfn, Option.bind_some, Kgd w1, hs, lnn]
 have hd : decide ((a3.length : Int) > 0) = decide (a3.length > 0) := by rw [decide_eq_decide]; omega
 rw [hd]
 cases inR a1 0 4 <;> cases inR a2 0 20 <;> try rfl
 cases decide (a3.length > 0) <;> try rfl
 cases setOk a3 <;> rfl
theorem Kjw {e : EnT} (h : EnLe 1048576 e) : Kdr e = some (enOk e) := by
 obtain ⟨a1, a2, a3, s⟩ := e
 obtain ⟨a4, a5, a6, a7, a8, a9, a10⟩ := s
 obtain ⟨w1, w2⟩ := h
 have hs := Kgv w2
 simp only at w1 hs
 unfold enOk
 simp only [Kdr, Kfu, Option.bind_some, Kgp w1, hs, lnn]
 have hd : decide ((a3.length : Int) > 0) = decide (a3.length > 0) := by rw [decide_eq_decide]; omega
 rw [hd]
 cases inR a1 0 4 <;> cases inR a2 0 20 <;> try rfl
 cases decide (a3.length > 0) <;> cases setOk a3 <;> rfl
structure EnOk (e : EnT) : Prop where
 key : 0 ≤ e.1 ∧ e.1 ≤ 4
 win : 0 ≤ e.2.1 ∧ e.2.1 ≤ 20
 ids : Canon e.2.2.1
 bnd : ∀ x ∈ e.2.2.1, 0 ≤ x.1 ∧ x.2 ≤ 9999
 some_ : e.2.2.1 ≠ []
 sk : SkOk e.2.2.2
theorem Kgm {e : EnT} : enOk e = true ↔ EnOk e := by
 unfold enOk
 simp only [Bool.and_eq_true, Kfr, decide_eq_true_eq, Kfi, Khg]
 constructor
 ·rintro ⟨⟨⟨⟨h1, h2⟩, h3⟩, h4, h5⟩, h6⟩
  exact ⟨h1, h2, h4, h5, fun q => by rw [q] at h3; simp at h3, h6⟩
 ·rintro ⟨h1, h2, h4, h5, h3, h6⟩
  exact ⟨⟨⟨⟨h1, h2⟩, List.length_pos_iff.2 h3⟩, h4, h5⟩, h6⟩
end Go.Proofs.YtppjdpcmaipoaaaGreat.Tw
