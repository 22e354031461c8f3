/- Parts of a proof, packed: see the last text for what is proved. No condition: definitions and lemmas. -/
import Derived.Test.YtppjdpcmaipoaaaGreatZd
import Derived.Shelf.Small.Bits
import Derived.IntWalk
namespace Go.Proofs.YtppjdpcmaipoaaaGreat.Tw
open Go.Mach Go.Proofs Go.Shelf Go.RowKit Go.Lib Go.Sort
set_option linter.unusedVariables false
set_option maxRecDepth 100000
instance tabs : Tabs Tryz.prog := ⟨[]⟩
set_option maxHeartbeats 1000000 in
theorem closureSp (x y : Sp2) (W : World) : Calls Tryz.prog 179 #[.agg #[.int .i64 x.1, .int .i64 x.2], .agg #[.int .i64 y.1, .int .i64 y.2]] W fun e w' => e = .returned (.int .i64 (Lib.compareInt x.1 y.1)) ∧ ∃ q os', w' = grow (W.drewN q) os' := by
 have hcon := fun W' => AnyG.cmp_Compare_int Tryz.cmpSp x.1 y.1 W'
 change ∀ W', Calls Tryz.prog 180 _ _ _ at hcon
 generalize Lib.compareInt x.1 y.1 = r at hcon ⊢
 go_enter Tryz.func179, Tryz.ntmps179
 go_wp2_with (go_at_call 180; refine (hcon _).mono ?_; rintro e w' ⟨rfl, rfl⟩)
 go_ret
 exact ⟨rfl, 0, _, by rw [alloc_eq_grow, alloc_eq_grow, grow_grow]; rfl⟩
theorem cmpLaysSp (blk off size : Nat) (w : World) : CmpLays Tryz.prog 179 #[] encSp 2 cfSp blk off size w :=
 fun _ _ _ _ x y => closureSp x y _
def slices_SortFunc : List Sp2 × Unit → Option (List Sp2) := fun d => if d.1.length ≤ 4294967296 then some (sortLo d.1) else none
def slices_SortFunc_e : FEnt := ⟨14, [], [true, false], [(.one, [.own true kSp]), (.one, [.fn 179 []])], ⟨14 + 4, [⟨14, .agg, [.own true kSp]⟩]⟩, slices_SortFunc⟩
theorem slices_SortFunc_ok : FnOk Tryz.prog 178 slices_SortFunc_e := by
 refine fnOk_sort Tryz.func178 (by kernel_rfl) (by kernel_rfl) (by kernel_rfl) (by omega) (fun b off cap l w hH hb hsz => ?_) (fun p cap w => ?_)
 ·have eg : ∀ args w, (callFunc 179 args).run Tryz.prog w = .ok (.enter 179 args) w := enters_of Tryz.func179 (by kernel_rfl) rfl
  have h := AnyQ.slices_SortFunc_eq Tryz.sortSp 2 Tryz.isAgg94 Tryz.sizeOf94 encSp (fun _ => rfl) (fun x v hv => by simp [encSp] at hv; rcases hv with rfl | rfl <;> rfl) cfSp swoSp 179 #[] b off cap l.toArray w eg (cmpLaysSp b off l.toArray.size w) hH hb (by simpa using hsz)
  have e : l.toArray.size = l.length := by simp
  rw [e] at h
  refine h.mono ?_
  rintro e w' ⟨rfl, m, os, rfl⟩
  refine ⟨rfl, m, os, ?_⟩
  have : (sortLo l).toArray = pdq (ltOf cfSp) l.toArray 0 l.length (Lib.bitLen l.length) true true := by simp [sortLo]
  rw [this]
 ·exact AnyF.slices_SortFunc_none (P := Tryz.prog) (ρ := Tryz.sortSp_ren) { Tryz.sortSp with } p cap (.func (.func 179) #[] #[]) w
end Go.Proofs.YtppjdpcmaipoaaaGreat.Tw
namespace Go.Proofs.YtppjdpcmaipoaaaGreat.Tw
open Go.Mach
set_option linter.unusedVariables false
set_option maxRecDepth 100000
abbrev kI : K := .int .i64
abbrev kB : K := .int .u8
abbrev t0 : Type := List (Int × Int) × Int
abbrev t1 : Type := Unit × Int × Unit × Unit
abbrev t2 : Type := Int × Unit × Unit × Unit
abbrev t3 : Type := List Int × List Int × Int
abbrev t4 : Type := Int × List Int × Int × Int
abbrev t5 : Type := List Int × Int × Int × Int
abbrev t6 : Type := List Int × List (List Int)
abbrev t7 : Type := Int × Int × Bool × List Int
abbrev t8 : Type := Int × List Int × Int × Bool
abbrev t9 : Type := List (Int × Int) × Int × Int
abbrev t10 : Type := Int × t2
abbrev t11 : Type := Unit × t1
abbrev t12 : Type := List Int × List Int × Int × Int
abbrev t13 : Type := List Int × Int × Int × Int × Int
abbrev t14 : Type := Int × t9
abbrev t15 : Type := List (Int × Int) × List (Int × Int)
abbrev t16 : Type := Int × t10
abbrev t17 : Type := List Int × t6
abbrev t18 : Type := Int × t13
abbrev t19 : Type := Unit × t11
abbrev t20 : Type := List (Int × Int) × List Int × Int × Int
abbrev t21 : Type := Int × t14
abbrev t22 : Type := List (Int × Int) × t0
abbrev t23 : Type := Int × t16
abbrev t24 : Type := Int × t17
abbrev t25 : Type := (Int × Bool × Unit) × Int × Bool × List Int
abbrev t26 : Type := Int × t18
abbrev t27 : Type := Bool × t19
abbrev t28 : Type := List (Int × Int) × t9
abbrev t29 : Type := List (Int × Bool × List Int) × Int × Unit × Unit
abbrev t30 : Type := Int × t24
abbrev t31 : Type := Int × t26
abbrev t32 : Type := Int × t27
abbrev t33 : Type := Int × Int × t23
abbrev t34 : Type := Int × t30
abbrev t35 : Type := Int × t32
abbrev t36 : Type := List Int × Int × t25
abbrev t37 : Type := Int × t34
abbrev t38 : Type := Int × t35
abbrev t39 : Type := Int × Int × t33
abbrev t40 : Type := Int × t37
abbrev t41 : Type := Int × t38
abbrev t42 : Type := t37 × Int
abbrev t43 : Type := Int × t40
abbrev t44 : Type := Int × Int × List (Int × Int) × t23
abbrev t45 : Type := Int × t41
abbrev t46 : Type := Int × t43
abbrev t47 : Type := List (Int × Int) × t37
abbrev t48 : Type := Unit × t45
abbrev t49 : Type := Int × t46
abbrev t50 : Type := List (Int × Int) × t39
abbrev t51 : Type := Int × t47
abbrev t52 : Type := Int × t48
abbrev t53 : Type := Int × t51
abbrev t54 : Type := Int × t52
abbrev t55 : Type := Int × t53
abbrev t56 : Type := Int × t54
abbrev t57 : Type := Int × Int × Bool × List t21 × t11
abbrev t58 : Type := Int × Int × Int × t50
abbrev t59 : Type := List (Int × Int) × t49
abbrev t60 : Type := List t53 × Int
abbrev t61 : Type := Int × List t53
abbrev t62 : Type := List t53 × Unit
abbrev t63 : Type := Int × t59
abbrev t64 : Type := List t53 × Int × Int
abbrev t65 : Type := t23 × t42
abbrev t66 : Type := Int × t63
abbrev t67 : Type := List t55 × Int × Int
abbrev t68 : Type := Int × t66
abbrev t69 : Type := List (Int × Int) × t60
abbrev t70 : Type := Int × t68
abbrev t71 : Type := List t55 × List Int × Int × Int
abbrev t72 : Type := List Int × Int × Int × Int × t57
abbrev t73 : Type := List (List (List t53)) × t1
abbrev t74 : Type := List (Int × Bool × List Int) × Int × t62
abbrev t75 : Type := List (List (List t53)) × t29
abbrev t76 : Type := List t21 × t73
abbrev t77 : Type := Bool × t76
abbrev t78 : Type := Int × t77
abbrev t79 : Type := List t53 × List t55
abbrev t80 : Type := Int × t78
abbrev t81 : Type := Int × t79
abbrev t82 : Type := List t21 × t75
abbrev t83 : Type := Int × t80
abbrev t84 : Type := Int × t83
abbrev t85 : Type := Bool × t82
abbrev t86 : Type := Int × t84
abbrev t87 : Type := Int × t85
abbrev t88 : Type := (Unit × Unit × Unit) × t53 × Int × t61
abbrev t89 : Type := Int × t87
abbrev t90 : Type := (List (List t53) × Unit) × List (List t53) × Int × Bool
abbrev t91 : Type := List Int × t86
abbrev t92 : Type := Int × t89
abbrev t93 : Type := Int × t91
abbrev t94 : Type := List (Int × Bool × List Int) × t81
abbrev t95 : Type := Int × t92
abbrev t96 : Type := Int × t93
abbrev t97 : Type := Int × t95
abbrev t98 : Type := Int × t96
abbrev t99 : Type := List Int × t97
abbrev t100 : Type := Int × t99
abbrev t101 : Type := Int × t100
abbrev t102 : Type := Int × t101
abbrev t103 : Type := List t21 × List (List (List t53)) × t74
abbrev t104 : Type := Int × Int × Int × Bool × t103
abbrev t105 : Type := List (List (List t53)) × Int × t90
abbrev t106 : Type := List (List (List t53)) × t94
abbrev t107 : Type := Int × List Int × Int × Int × t104
abbrev t108 : Type := List t21 × t106
abbrev t109 : Type := Bool × t108
abbrev t110 : Type := Int × t109
abbrev t111 : Type := Int × t110
abbrev t112 : Type := Int × t111
abbrev t113 : Type := Int × t112
abbrev t114 : Type := Int × t113
abbrev t115 : Type := List Int × t114
abbrev t116 : Type := Int × t115
abbrev t117 : Type := Int × t116
abbrev t118 : Type := Int × t117
abbrev t119 : Type := t118 × Int
abbrev t120 : Type := t118 × Int × Int
abbrev t121 : Type := t118 × Int × Int × Int
abbrev t122 : Type := t118 × t60
abbrev kk11 : K := (.list (.list kI))
abbrev kk10 : K := (.list (.pair kI kI))
abbrev kk9 : K := (.pair kI (.pair .bool (.list kI)))
abbrev kk8 : K := (.list kk9)
abbrev kk7 : K := (.pair kI (.pair kI (.pair kk10 (.pair kI kI))))
abbrev kk6 : K := (.list kk7)
abbrev kk5 : K := (.pair kI (.pair kI (.pair kk10 (.pair kI (.pair kI (.pair kI (.pair kI (.pair (.list kI) (.pair (.list kI) kk11)))))))))
abbrev kk4 : K := (.list kk5)
abbrev kk3 : K := (.pair kI kk5)
abbrev kk2 : K := (.list kk4)
abbrev kk1 : K := (.list kk3)
abbrev kk0 : K := (.list kk2)
abbrev cc0 : List PC := [.dat kI, .dat kI, .dat kI, .own true kI, .dat kI, .dat kI, .dat kI, .dat kI, .dat kI, .dat .bool, .own true kk7, .own false kk2, .own true kk9, .dat kI, .own false kk5, .own false kk3]
abbrev cc1 : List PC := [.dat kI, .dat kI, .dat kI, .own true kI, .dat kI, .dat kI, .dat kI, .dat kI, .dat kI, .dat .bool, .own true kk7, .own false kk2, .own true kk9, .dat kI, .own false kk5, .own true kk3]
abbrev cc2 : List PC := [.dat kI, .dat kI, .dat kI, .own true kI, .dat kI, .dat kI, .dat kI, .dat kI, .dat kI, .dat .bool, .own true kk7, .own true kk2, .own true kk9, .dat kI, .own false kk5, .own false kk3]
abbrev cc3 : List PC := [.dat kI, .dat kI, .dat kI, .own true kI, .dat kI, .dat kI, .dat kI, .dat kI, .dat kI, .dat .bool, .own true kk7, .own true kk2, .own true kk9, .dat kI, .own true kk5, .own true kk3]
abbrev cc4 : List PC := [.dat kI, .dat kI, .dat kI, .own true kI, .dat kI, .dat kI, .dat kI, .dat kI, .dat kI, .dat .bool, .own true kk7, .own true kk2, .own true kk9, .dat kI, .own true kk5, .nil]
abbrev cc5 : List PC := [.dat kI, .dat kI, .dat kI, .own true kI, .dat kI, .dat kI, .dat kI, .dat kI, .dat kI, .dat .bool, .own true kk7, .own true kk2, .own true kk9, .dat kI, .nil, .nil]
abbrev cc6 : List PC := [.dat kI, .dat kI, .dat kI, .dat kI, .dat kk10, .dat kI, .dat kI, .dat kI, .dat kI, .dat kI, .dat kI, .dat kI, .dat kI, .dat (.list kI), .dat (.list kI), .dat kk11]
abbrev cc7 : List PC := [.dat kI, .dat kI, .dat kI, .dat (.list kI), .dat kI, .dat kI, .dat kI, .dat kI, .dat kI, .dat .bool, .dat kk6, .dat kk0, .dat kk8, .dat kI, .dat kk4, .dat kk1]
abbrev cc8 : List PC := [.dat kI, .dat kI, .dat kI, .own true kI, .dat kI, .dat kI, .dat kI, .dat kI, .dat kI, .dat .bool, .own true kk7, .own true kk2, .nil, .dat kI, .nil, .nil]
abbrev cc9 : List PC := [.dat kI, .dat kI, .dat kI, .dat kI, .own true (.pair kI kI), .dat kI, .dat kI, .dat kI, .dat kI, .dat kI, .dat kI, .dat kI, .dat kI, .nil, .nil, .nil]
abbrev cc10 : List PC := [.dat kI, .dat kI, .dat kI, .own true kI, .dat kI, .dat kI, .dat kI, .dat kI, .dat kI, .dat .bool, .own true kk7, .nil, .nil, .dat kI, .nil, .nil]
abbrev cc11 : List PC := [.dat kI, .dat kI, .dat kI, .dat kI, .nil, .dat kI, .dat kI, .dat kI, .dat kI, .dat kI, .dat kI, .dat kI, .dat kI, .nil, .nil, .nil]
abbrev cc12 : List PC := [.dat kI, .dat kI, .dat kI, .nil, .dat kI, .dat kI, .dat kI, .dat kI, .dat kI, .dat .bool, .nil, .nil, .nil, .dat kI, .nil, .nil]
abbrev cc13 : List PC := [.dat kI, .dat kI, .own true (.pair kI kI), .dat kI, .dat kI, .dat kI, .dat kI, .own true kI, .own true kI, .own true (.list kI)]
abbrev cc14 : List PC := [.dat kI, .dat kI, .dat kI, .dat kk10, .dat kI, .dat kI, .dat kI, .dat kI, .dat (.list kI), .dat (.list kI), .dat kk11]
abbrev cc15 : List PC := [.dat kI, .dat kI, .dat kI, .dat kI, .dat kI, .dat kI, .dat kI, .dat kI, .dat (.list kI), .dat (.list kI), .dat kk11]
abbrev cc16 : List PC := [.dat kI, .dat kI, .dat kk10, .dat kI, .dat kI, .dat kI, .dat kI, .dat (.list kI), .dat (.list kI), .dat kk11]
abbrev cc17 : List PC := [.dat kI, .dat kI, .dat kI, .own true (.pair kI kI), .dat kI, .dat kI, .dat kI, .dat kI, .nil, .nil, .nil]
abbrev cc18 : List PC := [.dat kI, .dat kI, .dat kI, .nil, .dat kI, .dat kI, .dat kI, .dat kI, .nil, .nil, .nil]
abbrev cc19 : List PC := [.dat kI, .dat kI, .dat kI, .dat kI, .own true kI, .own true kI, .own true (.list kI)]
abbrev cc20 : List PC := [.dat kI, .dat kI, .dat kI, .dat kI, .dat (.list kI), .dat (.list kI), .dat kk11]
abbrev cc21 : List PC := [.dat kI, .dat kI, .dat kI, .dat (.list kI), .dat kI, .dat kI, .dat kI, .dat kI]
abbrev cc22 : List PC := [.dat kI, .dat kI, .dat kI, .dat kI, .own true kI, .nil, .own true (.list kI)]
abbrev cc23 : List PC := [.dat kI, .dat kI, .dat kI, .own true kI, .dat kI, .dat kI, .dat kI, .dat kI]
abbrev cc24 : List PC := [.dat kI, .dat kI, .own true (.pair kI kI), .dat kI, .dat kI]
abbrev cc25 : List PC := [.dat kI, .dat kI, .dat kI, .dat kI, .nil, .nil, .nil]
abbrev cc26 : List PC := [.dat kI, .dat kI, .dat kk10, .dat kI, .dat kI]
abbrev cc27 : List PC := [.dat kI, .dat kI, .nil, .dat kI, .dat kI]
abbrev cc28 : List PC := [.dat kI, .dat .bool, .dat (.list kI)]
abbrev cc29 : List PC := [.dat (.list kB), .dat kI, .dat .bool]
abbrev cc30 : List PC := [.dat (.list kB), .dat kI, .dat kI]
abbrev cc31 : List PC := [.dat kI, .dat .bool, .own true kI]
abbrev cc32 : List PC := [.ref 89 0 [] false false kk5]
abbrev cc33 : List PC := [.dat kI, .dat .bool, .nil]
abbrev cc34 : List PC := [.own true (.pair kI kI)]
abbrev cc35 : List PC := [.dat kI, .dat kI]
theorem mixed : Tryz.prog.follows .mixedOrders = true := by kernel_rfl
def Keh : List Int → Option Bool
 | a => some (decide ((ln a) > 1048576))
def Keh_e : FEnt := ⟨6, [.tmp 2], [], [(.one, [.dat (.list kB)])], ⟨8, [⟨2, .one, [.dat .bool]⟩]⟩, Keh⟩
theorem Keh_ok : FnOk Tryz.prog 7 Keh_e := fnOk_mk (tb := []) (c := (Tryz.f7.body).getD .skip) mixed Tryz.func7 bN (by kernel_rfl) (by kernel_rfl) (by kernel_rfl) trivial (by intro d; kernel_rfl)
def Kbc_s58 : List Int × Int × Int → Option (List Int × Int × Int ⊕ List Int × Int)
 | (a, b, c) => bif decide (c < (ln a)) then bif decide (c < 4000) then ix c a.length ((some (w64 ((w64 ((w64 (b * 131)) + (w64 (gx a c 0)))) + 7))).bind fun d => (some (w64 (Int.ofNat (BitVec.toNat (BitVec.ofInt (64 : Nat) d &&& BitVec.ofInt (64 : Nat) (1073741823 : Int)))))).bind fun e => some (.inl (a, e, w64 (c + 1)))) else some (.inr (a, b)) else some (.inr (a, b))
def Kbc_n58 : NEnt := ⟨⟨34, [⟨0, .one, [.dat (.list kB)]⟩, ⟨3, .one, [.dat kI]⟩, ⟨4, .one, [.dat kI]⟩]⟩, [(.exit 0, ⟨34, [⟨0, .one, [.dat (.list kB)]⟩, ⟨3, .one, [.dat kI]⟩]⟩)], lp Kbc_s58⟩
def Kbc : List Int → Option (Unit × List Int × Int × Int)
 | a => (lp Kbc_s58 (a, w64 (26583 + (ln a)), 0)).bind fun (b, c) => some ((), b, 0, c)
def Kbc_e : FEnt := ⟨32, [.tmp 2], [], [(.one, [.dat (.list kB)])], ⟨34, [⟨2, .one, [.bptr 31 0]⟩, ⟨31, .box, cc30⟩]⟩, Kbc⟩
theorem Kbc_ok : FnOk Tryz.prog 47 Kbc_e := fnOk_mk (tb := [(58, Kbc_n58)]) (c := (Tryz.f47.body).getD .skip) mixed Tryz.func47 bN (by kernel_rfl) (by kernel_rfl) (by kernel_rfl) ⟨nodeLoop (by kernel_rfl) Kbc_s58 (by kernel_rfl) (by intro d; kernel_rfl), trivial⟩ (by intro d; kernel_rfl)
def Kcl : List Int × Int × Int → Option t4
 | (a, b, c) => (some (Int.fdiv (w64 ((w64 (c * 6364136223846793005)) + 1442695040888963407)) ((2 : Int) ^ (33 : Nat)))).bind fun d => (some (Int.fdiv (w64 ((w64 (c * 6364136223846793005)) + 1442695040888963407)) ((2 : Int) ^ (45 : Nat)))).bind fun e => (some (w64 (Int.ofNat (BitVec.toNat (BitVec.ofInt (64 : Nat) (IntKind.wrap IntKind.i64 (↑(BitVec.toNat (BitVec.ofInt (64 : Nat) d ^^^ BitVec.ofInt (64 : Nat) e)) : Int)) &&& BitVec.ofInt (64 : Nat) (255 : Int)))))).bind fun f => bif decide (b < (ln a)) then ix b a.length ((some (w64 (Int.ofNat (BitVec.toNat (BitVec.ofInt (64 : Nat) (IntKind.wrap IntKind.i64 (f + IntKind.wrap IntKind.i64 (List.getD a (Int.toNat b) (0 : Int)))) &&& BitVec.ofInt (64 : Nat) (255 : Int)))))).bind fun g => some (g, a, w64 (b + 1), w64 ((w64 (c * 6364136223846793005)) + 1442695040888963407))) else some (f, a, b, w64 ((w64 (c * 6364136223846793005)) + 1442695040888963407))
def Kcl_e : FEnt := ⟨58, [.tmp 2], [true], [(.box, cc30)], ⟨60, [⟨2, .one, [.dat kI]⟩, ⟨59, .box, cc30⟩]⟩, Kcl⟩
theorem Kcl_ok : FnOk Tryz.prog 58 Kcl_e := fnOk_mk (tb := []) (c := (Tryz.f58.body).getD .skip) mixed Tryz.func58 bN (by kernel_rfl) (by kernel_rfl) (by kernel_rfl) trivial (by intro d; kernel_rfl)
def Ke : (List Int × Int × Int) × Int → Option t4
 | ((a, b, c), d) => bif decide (d ≤ 0) then some (0, a, b, c) else bif decide (d ≤ 256) then (Kcl (a, b, c)).bind fun (e, f, g, h) => chk (!(decide (d = 0))) (some (Int.tmod e d, f, g, h)) else (Kcl (a, b, c)).bind fun (e, f, g, h) => (Kcl (f, g, h)).bind fun (i, j, k, l) => (Kcl (j, k, l)).bind fun (m, n, o, p) => (Kcl (n, o, p)).bind fun (q, r, s, t) => (some (w64 ((w64 ((w64 (e * 16777216)) + (w64 (i * 65536)))) + (w64 (m * 256))))).bind fun u => chk (!(decide (d = 0))) (some (Int.tmod (w64 (u + q)) d, r, s, t))
def Ke_e : FEnt := ⟨37, [.tmp 4], [true, false], [(.box, cc30), (.one, [.dat kI])], ⟨41, [⟨4, .one, [.dat kI]⟩, ⟨38, .box, cc30⟩]⟩, Ke⟩
theorem Ke_ok : FnOk Tryz.prog 57 Ke_e := fnOk_mk (tb := []) (c := (Tryz.f57.body).getD .skip) mixed Tryz.func57 (bC Kcl_ok bN) (by kernel_rfl) (by kernel_rfl) (by kernel_rfl) trivial (by intro d; kernel_rfl)
def Ks : (List Int × Int × Int) × List Int → Option t4
 | ((a, b, c), d) => (Ke ((a, b, c), ln d)).bind fun (e, f, g, h) => ix e d.length (some (gx d e 0, f, g, h))
def Ks_e : FEnt := ⟨12, [.tmp 4], [true, false], [(.box, cc30), (.one, [.dat (.list kI)])], ⟨16, [⟨4, .one, [.dat kI]⟩, ⟨13, .box, cc30⟩]⟩, Ks⟩
theorem Ks_ok : FnOk Tryz.prog 94 Ks_e := fnOk_mk (tb := []) (c := (Tryz.f94.body).getD .skip) mixed Tryz.func94 (bC Ke_ok bN) (by kernel_rfl) (by kernel_rfl) (by kernel_rfl) trivial (by intro d; kernel_rfl)
def Kea : List Int × Int × Int → Option (t31 × List Int × Int × Int)
 | (a, b, c) => (Ke ((a, b, c), 5)).bind fun (d, e, f, g) => (Ks ((e, f, g), [5, 20, 60])).bind fun (h, i, j, k) => (Ke ((i, j, k), 4)).bind fun (l, m, n, o) => (Ke ((m, n, o), 3)).bind fun (p, q, r, s) => (Ke ((q, r, s), 3)).bind fun (t, u, v, w) => (Ks ((u, v, w), [1, 3, 100])).bind fun (x, y, z, a1) => (Ke ((y, z, a1), 3)).bind fun (b1, c1, d1, e1) => (Ke ((c1, d1, e1), 3)).bind fun (f1, g1, h1, i1) => (Ks ((g1, h1, i1), [2, 5, 50])).bind fun (j1, k1, l1, m1) => some ((w64 (1 + d), h, w64 (1 + l), [w64 (1 + p), w64 (1 + t), 1], x, w64 (1 + b1), f1, j1), k1, l1, m1)
def Kea_e : FEnt := ⟨31, [.cell 2 true 8], [true], [(.box, cc30)], ⟨33, [⟨2, .box, cc23⟩, ⟨32, .box, cc30⟩]⟩, Kea⟩
theorem Kea_ok : FnOk Tryz.prog 151 Kea_e := fnOk_mk (tb := []) (c := (Tryz.f151.body).getD .skip) mixed Tryz.func151 (bC Ke_ok (bC Ks_ok bN)) (by kernel_rfl) (by kernel_rfl) (by kernel_rfl) trivial (by intro d; kernel_rfl)
def Kb : Int × Int × Int → Option Bool
 | (a, b, c) => bif decide (a ≥ b) then some (decide (a ≤ c)) else some false
def Kb_e : FEnt := ⟨15, [.tmp 6], [], [(.one, [.dat kI]), (.one, [.dat kI]), (.one, [.dat kI])], ⟨21, [⟨6, .one, [.dat .bool]⟩]⟩, Kb⟩
theorem Kb_ok : FnOk Tryz.prog 53 Kb_e := fnOk_mk (tb := []) (c := (Tryz.f53.body).getD .skip) mixed Tryz.func53 bN (by kernel_rfl) (by kernel_rfl) (by kernel_rfl) trivial (by intro d; kernel_rfl)
def Kab_s58 : t5 → Option (t5 ⊕ Bool ⊕ Unit)
 | (a, b, c, d) => bif decide (d < (ln a)) then ix d a.length ((Kb (gx a d 0, b, c)).bind fun e => bif !e then some (.inr (.inl false)) else some (.inl (a, b, c, w64 (d + 1)))) else some (.inr (.inr ()))
def Kab_n58 : NEnt := ⟨⟨31, [⟨0, .one, [.dat (.list kI)]⟩, ⟨1, .one, [.dat kI]⟩, ⟨2, .one, [.dat kI]⟩, ⟨7, .one, [.dat kI]⟩]⟩, [(.ret, ⟨31, [⟨6, .one, [.dat .bool]⟩]⟩), (.exit 0, ⟨31, []⟩)], lp Kab_s58⟩
def Kab : List Int × Int × Int → Option Bool
 | (a, b, c) => bif (ln a) != 3 then some false else bx (lp Kab_s58 (a, b, c, 0)) (fun d => some d) fun _ => some true
def Kab_e : FEnt := ⟨25, [.tmp 6], [], [(.one, [.dat (.list kI)]), (.one, [.dat kI]), (.one, [.dat kI])], ⟨31, [⟨6, .one, [.dat .bool]⟩]⟩, Kab⟩
theorem Kab_ok : FnOk Tryz.prog 133 Kab_e := fnOk_mk (tb := [(58, Kab_n58)]) (c := (Tryz.f133.body).getD .skip) mixed Tryz.func133 (bC Kb_ok bN) (by kernel_rfl) (by kernel_rfl) (by kernel_rfl) ⟨nodeLoop (by kernel_rfl) Kab_s58 (by kernel_rfl) (by intro d; kernel_rfl), trivial⟩ (by intro d; kernel_rfl)
def Kcq : t31 → Option Bool
 | (a, b, c, d, e, f, g, h) => (Kb (a, 1, 8)).bind fun i => bif i then (Kb (b, 1, 60)).bind fun j => bif j then (Kb (c, 1, 10)).bind fun k => bif k then (Kab (d, 1, 4)).bind fun l => bif l then (Kb (e, 1, 100)).bind fun m => bif m then (Kb (f, 1, 20)).bind fun n => bif n then (Kb (g, 0, 20)).bind fun o => bif o then (Kb (h, 1, 50)).bind fun p => some p else some false else some false else some false else some false else some false else some false else some false
def Kcq_e : FEnt := ⟨41, [.tmp 2], [], [(.agg, cc21)], ⟨43, [⟨2, .one, [.dat .bool]⟩]⟩, Kcq⟩
theorem Kcq_ok : FnOk Tryz.prog 82 Kcq_e := fnOk_mk (tb := []) (c := (Tryz.f82.body).getD .skip) mixed Tryz.func82 (bC Kb_ok (bC Kab_ok bN)) (by kernel_rfl) (by kernel_rfl) (by kernel_rfl) trivial (by intro d; kernel_rfl)
def Kcx : t31 → Option t31
 | (a, b, c, d, e, f, g, h) => chk (fits (0 + d.length) 8) (some (a, b, c, [] ++ d, e, f, g, h))
def Kcx_e : FEnt := ⟨11, [.cell 2 true 8], [], [(.agg, cc21)], ⟨13, [⟨2, .box, cc23⟩]⟩, Kcx⟩
theorem Kcx_ok : FnOk Tryz.prog 184 Kcx_e := fnOk_mk (tb := []) (c := (Tryz.f184.body).getD .skip) mixed Tryz.func184 bN (by kernel_rfl) (by kernel_rfl) (by kernel_rfl) trivial (by intro d; kernel_rfl)
def Kcn : List (Int × Int) → Option (List (Int × Int))
 | a => chk (fits (0 + a.length) 16) (some ([] ++ a))
def Kcn_e : FEnt := ⟨6, [.tmp 2], [], [(.one, [.dat kk10])], ⟨8, [⟨2, .one, cc34⟩]⟩, Kcn⟩
theorem Kcn_ok : FnOk Tryz.prog 139 Kcn_e := fnOk_mk (tb := []) (c := (Tryz.f139.body).getD .skip) mixed Tryz.func139 bN (by kernel_rfl) (by kernel_rfl) (by kernel_rfl) trivial (by intro d; kernel_rfl)
def Kce : t21 → Option t21
 | (a, b, c, d, e) => (Kcn c).bind fun f => some (a, b, f, d, e)
def Kce_e : FEnt := ⟨10, [.cell 2 true 5], [], [(.agg, cc26)], ⟨12, [⟨2, .box, cc24⟩]⟩, Kce⟩
theorem Kce_ok : FnOk Tryz.prog 195 Kce_e := fnOk_mk (tb := []) (c := (Tryz.f195.body).getD .skip) mixed Tryz.func195 (bC Kcn_ok bN) (by kernel_rfl) (by kernel_rfl) (by kernel_rfl) trivial (by intro d; kernel_rfl)
def Kaa_s26 : t0 → Option (t0 ⊕ Bool ⊕ Unit)
 | (a, b) => bif decide (b < (ln a)) then ix b a.length ((some (gx a b (0, 0))).bind fun (c, d) => (Kb (c, 0, 9999)).bind fun e => bif !e then some (.inr (.inl false)) else ix b a.length ((some (gx a b (0, 0))).bind fun (f, g) => ix b a.length ((some (gx a b (0, 0))).bind fun (h, i) => (Kb (g, h, 9999)).bind fun j => bif !j then some (.inr (.inl false)) else bif decide (b > 0) then ix b a.length ((some (gx a b (0, 0))).bind fun (k, l) => ix (w64 (b - 1)) a.length ((some (gx a (w64 (b - 1)) (0, 0))).bind fun (m, n) => bif decide (k ≤ (w64 (n + 1))) then some (.inr (.inl false)) else some (.inl (a, w64 (b + 1))))) else some (.inl (a, w64 (b + 1)))))) else some (.inr (.inr ()))
def Kaa_n26 : NEnt := ⟨⟨52, [⟨0, .one, [.dat kk10]⟩, ⟨3, .one, [.dat kI]⟩]⟩, [(.ret, ⟨52, [⟨2, .one, [.dat .bool]⟩]⟩), (.exit 0, ⟨52, []⟩)], lp Kaa_s26⟩
def Kaa : List (Int × Int) → Option Bool
 | a => bx (lp Kaa_s26 (a, 0)) (fun b => some b) fun _ => some true
def Kaa_e : FEnt := ⟨50, [.tmp 2], [], [(.one, [.dat kk10])], ⟨52, [⟨2, .one, [.dat .bool]⟩]⟩, Kaa⟩
theorem Kaa_ok : FnOk Tryz.prog 113 Kaa_e := fnOk_mk (tb := [(26, Kaa_n26)]) (c := (Tryz.f113.body).getD .skip) mixed Tryz.func113 (bC Kb_ok bN) (by kernel_rfl) (by kernel_rfl) (by kernel_rfl) ⟨nodeLoop (by kernel_rfl) Kaa_s26 (by kernel_rfl) (by intro d; kernel_rfl), trivial⟩ (by intro d; kernel_rfl)
def Kcd_s58 : t9 → Option (t9 ⊕ Bool ⊕ Unit)
 | (a, b, c) => bif decide (c < (ln a)) then ix c a.length ((some (gx a c (0, 0))).bind fun (d, e) => bif decide (d < 1) then some (.inr (.inl false)) else ix c a.length ((some (gx a c (0, 0))).bind fun (f, g) => bif decide (g > b) then some (.inr (.inl false)) else some (.inl (a, b, w64 (c + 1))))) else some (.inr (.inr ()))
def Kcd_n58 : NEnt := ⟨⟨34, [⟨0, .one, [.dat kk10]⟩, ⟨1, .one, [.dat kI]⟩, ⟨5, .one, [.dat kI]⟩]⟩, [(.ret, ⟨34, [⟨4, .one, [.dat .bool]⟩]⟩), (.exit 0, ⟨34, []⟩)], lp Kcd_s58⟩
def Kcd : t0 → Option Bool
 | (a, b) => (Kaa a).bind fun c => bif !c then some false else bx (lp Kcd_s58 (a, b, 0)) (fun d => some d) fun _ => some true
def Kcd_e : FEnt := ⟨30, [.tmp 4], [], [(.one, [.dat kk10]), (.one, [.dat kI])], ⟨34, [⟨4, .one, [.dat .bool]⟩]⟩, Kcd⟩
theorem Kcd_ok : FnOk Tryz.prog 181 Kcd_e := fnOk_mk (tb := [(58, Kcd_n58)]) (c := (Tryz.f181.body).getD .skip) mixed Tryz.func181 (bC Kaa_ok bN) (by kernel_rfl) (by kernel_rfl) (by kernel_rfl) ⟨nodeLoop (by kernel_rfl) Kcd_s58 (by kernel_rfl) (by intro d; kernel_rfl), trivial⟩ (by intro d; kernel_rfl)
def Kar_s122 : t9 → Option (t9 ⊕ Int)
 | (a, b, c) => bif decide (c < (ln a)) then ix c a.length ((some (gx a c (0, 0))).bind fun (d, e) => ix c a.length ((some (gx a c (0, 0))).bind fun (f, g) => some (.inl (a, w64 ((w64 ((w64 (b + e)) - f)) + 1), w64 (c + 1))))) else some (.inr b)
def Kar_n122 : NEnt := ⟨⟨32, [⟨0, .one, [.dat kk10]⟩, ⟨3, .one, [.dat kI]⟩, ⟨4, .one, [.dat kI]⟩]⟩, [(.exit 0, ⟨32, [⟨3, .one, [.dat kI]⟩]⟩)], lp Kar_s122⟩
def Kar : List (Int × Int) → Option Int
 | a => (Kaa a).bind fun b => bif !b then some 0 else (lp Kar_s122 (a, 0, 0)).bind fun c => some c
def Kar_e : FEnt := ⟨30, [.tmp 2], [], [(.one, [.dat kk10])], ⟨32, [⟨2, .one, [.dat kI]⟩]⟩, Kar⟩
theorem Kar_ok : FnOk Tryz.prog 81 Kar_e := fnOk_mk (tb := [(122, Kar_n122)]) (c := (Tryz.f81.body).getD .skip) mixed Tryz.func81 (bC Kaa_ok bN) (by kernel_rfl) (by kernel_rfl) (by kernel_rfl) ⟨nodeLoop (by kernel_rfl) Kar_s122 (by kernel_rfl) (by intro d; kernel_rfl), trivial⟩ (by intro d; kernel_rfl)
def Kbx : t21 × Int → Option Bool
 | ((a, b, c, d, e), f) => (Kb (f, 1, 8)).bind fun g => bif g then (Kb (a, 0, 1000)).bind fun h => bif h then (Kb (b, 0, 60)).bind fun i => bif i then (Kcd (c, b)).bind fun j => bif j then (Kar c).bind fun k => (Kb (d, 0, k)).bind fun l => bif l then bif decide (b ≤ (w64 (d + f))) then (Kb (e, 0, 1000000)).bind fun m => some m else some false else some false else some false else some false else some false else some false
def Kbx_e : FEnt := ⟨46, [.tmp 4], [], [(.agg, cc26), (.one, [.dat kI])], ⟨50, [⟨4, .one, [.dat .bool]⟩]⟩, Kbx⟩
theorem Kbx_ok : FnOk Tryz.prog 134 Kbx_e := fnOk_mk (tb := []) (c := (Tryz.f134.body).getD .skip) mixed Tryz.func134 (bC Kb_ok (bC Kcd_ok (bC Kar_ok bN))) (by kernel_rfl) (by kernel_rfl) (by kernel_rfl) trivial (by intro d; kernel_rfl)
def Ki : Int × Int → Option Int
 | (a, b) => bif decide (a < b) then some a else some b
def Ki_e : FEnt := ⟨10, [.tmp 4], [], [(.one, [.dat kI]), (.one, [.dat kI])], ⟨14, [⟨4, .one, [.dat kI]⟩]⟩, Ki⟩
theorem Ki_ok : FnOk Tryz.prog 142 Ki_e := fnOk_mk (tb := []) (c := (Tryz.f142.body).getD .skip) mixed Tryz.func142 bN (by kernel_rfl) (by kernel_rfl) (by kernel_rfl) trivial (by intro d; kernel_rfl)
def Kcs : t21 × Int → Option t21
 | ((a, b, c, d, e), f) => (Kce (a, b, c, d, e)).bind fun (g, h, i, j, k) => (Kbx ((a, b, c, d, e), f)).bind fun l => bif l then (Ki (60, w64 (d + f))).bind fun m => some (g, m, i, j, k) else some (g, h, i, j, k)
def Kcs_e : FEnt := ⟨18, [.cell 4 true 5], [], [(.agg, cc26), (.one, [.dat kI])], ⟨22, [⟨4, .box, cc24⟩]⟩, Kcs⟩
theorem Kcs_ok : FnOk Tryz.prog 185 Kcs_e := fnOk_mk (tb := []) (c := (Tryz.f185.body).getD .skip) mixed Tryz.func185 (bC Kce_ok (bC Kbx_ok (bC Ki_ok bN))) (by kernel_rfl) (by kernel_rfl) (by kernel_rfl) trivial (by intro d; kernel_rfl)
def Kdc : Unit → Option (Int × Bool × List Int)
 | _ => some (0, true, List.replicate 3 0)
def Kdc_e : FEnt := ⟨3, [.cell 0 true 3], [], [], ⟨3, [⟨0, .box, cc31⟩]⟩, Kdc⟩
theorem Kdc_ok : FnOk Tryz.prog 186 Kdc_e := fnOk_mk (tb := []) (c := (Tryz.f186.body).getD .skip) mixed Tryz.func186 bN (by kernel_rfl) (by kernel_rfl) (by kernel_rfl) trivial (by intro d; kernel_rfl)
def Ky_s122 : t31 × t56 × t98 × Int → Option (t31 × t56 × t98 × Int ⊕ t56 × t98)
 | ((a, b, c, d, e, f, g, h), (i, j, k, _, l, m, n, o, p, q, _, _, _, r, _, _), (s, t, u, v, w, x, y, z, a1, b1, c1, d1, _, e1, _, _), f1) => bif decide (f1 < 3) then (Kcs ((0, 0, [], 0, 0), a)).bind fun (g1, h1, i1, j1, k1) => (some [(g1, h1, i1, j1, k1)]).bind fun l1 => chk (fits (c1.length + l1.length) 56) ((some (c1 ++ l1)).bind fun m1 => (some (List.replicate 2 [])).bind fun n1 => (some [n1]).bind fun o1 => chk (fits (d1.length + o1.length) 24) ((some (d1 ++ o1)).bind fun p1 => some (.inl ((a, b, c, d, e, f, g, h), (i, j, k, (), l, m, n, o, p, q, (), (), (), r, (), ()), (s, t, u, v, w, x, y, z, a1, b1, m1, p1, (), e1, (), ()), w64 (f1 + 1))))) else some (.inr ((i, j, k, (), l, m, n, o, p, q, (), (), (), r, (), ()), s, t, u, v, w, x, y, z, a1, b1, c1, d1, (), e1, (), ()))
def Ky_n122 : NEnt := ⟨⟨46, [⟨1, .box, cc21⟩, ⟨2, .box, cc12⟩, ⟨4, .box, cc8⟩, ⟨5, .one, [.dat kI]⟩]⟩, [(.exit 0, ⟨46, [⟨2, .box, cc12⟩, ⟨4, .box, cc8⟩]⟩)], lp Ky_s122⟩
def Ky_s250 : t56 × t102 × Int → Option (t56 × t102 × Int ⊕ t56 × t102)
 | ((a, b, c, _, d, e, f, g, h, i, _, _, _, j, _, _), (k, l, m, n, o, p, q, r, s, t, u, v, w, x, _, _), y) => bif decide (y < 2) then (Kdc ()).bind fun (z, a1, b1) => chk (fits (w.length + [(z, a1, b1)].length) 40) ((some (w ++ [(z, a1, b1)])).bind fun c1 => some (.inl ((a, b, c, (), d, e, f, g, h, i, (), (), (), j, (), ()), (k, l, m, n, o, p, q, r, s, t, u, v, c1, x, (), ()), w64 (y + 1)))) else some (.inr ((a, b, c, (), d, e, f, g, h, i, (), (), (), j, (), ()), k, l, m, n, o, p, q, r, s, t, u, v, w, x, (), ()))
def Ky_n250 : NEnt := ⟨⟨46, [⟨2, .box, cc12⟩, ⟨4, .box, cc5⟩, ⟨6, .one, [.dat kI]⟩]⟩, [(.exit 2, ⟨46, [⟨2, .box, cc12⟩, ⟨4, .box, cc5⟩]⟩)], lp Ky_s250⟩
def Ky : t31 → Option (t102 × Bool)
 | (a, b, c, d, e, f, g, h) => (Kcq (a, b, c, d, e, f, g, h)).bind fun i => bif !i then some ((0, 0, 0, [], 0, 0, 0, 0, 0, false, [], [], [], 0, (), ()), false) else (Kcx (a, b, c, d, e, f, g, h)).bind fun (j, k, l, m, n, o, p, q) => (lp Ky_s122 ((a, b, c, d, e, f, g, h), (0, 0, 0, (), 0, 0, 0, 0, 0, false, (), (), (), 0, (), ()), (j, k, l, m, n, o, p, q, 0, false, [], [], (), 0, (), ()), 0)).bind fun ((r, s, t, _, u, v, w, x, y, z, _, _, _, a1, _, _), b1, c1, d1, e1, f1, g1, h1, i1, j1, k1, l1, m1, _, n1, _, _) => (lp Ky_s250 ((r, s, t, (), u, v, w, x, y, z, (), (), (), a1, (), ()), (b1, c1, d1, e1, f1, g1, h1, i1, j1, k1, l1, m1, [], n1, (), ()), 0)).bind fun ((o1, p1, q1, _, r1, s1, t1, u1, v1, w1, _, _, _, x1, _, _), y1, z1, a2, b2, c2, d2, e2, f2, g2, h2, i2, j2, k2, l2, _, _) => some ((y1, z1, a2, b2, c2, d2, e2, f2, g2, h2, i2, j2, k2, l2, (), ()), true)
def Ky_e : FEnt := ⟨44, [.cell 2 true 16, .tmp 3], [], [(.agg, cc21)], ⟨46, [⟨2, .box, cc5⟩, ⟨3, .one, [.dat .bool]⟩]⟩, Ky⟩
theorem Ky_ok : FnOk Tryz.prog 150 Ky_e := fnOk_mk (tb := [(250, Ky_n250), (122, Ky_n122)]) (c := (Tryz.f150.body).getD .skip) mixed Tryz.func150 (bC Kcq_ok (bC Kcx_ok (bC Kcs_ok (bC Kdc_ok bN)))) (by kernel_rfl) (by kernel_rfl) (by kernel_rfl) ⟨nodeLoop (by kernel_rfl) Ky_s250 (by kernel_rfl) (by intro d; kernel_rfl), nodeLoop (by kernel_rfl) Ky_s122 (by kernel_rfl) (by intro d; kernel_rfl), trivial⟩ (by intro d; kernel_rfl)
def Kcz : Int × Int → Option Bool
 | (a, b) => (Kb (a, 0, 4)).bind fun c => bif c then (Kb (b, 0, 20)).bind fun d => some d else some false
def Kcz_e : FEnt := ⟨11, [.tmp 4], [], [(.one, [.dat kI]), (.one, [.dat kI])], ⟨15, [⟨4, .one, [.dat .bool]⟩]⟩, Kcz⟩
theorem Kcz_ok : FnOk Tryz.prog 112 Kcz_e := fnOk_mk (tb := []) (c := (Tryz.f112.body).getD .skip) mixed Tryz.func112 (bC Kb_ok bN) (by kernel_rfl) (by kernel_rfl) (by kernel_rfl) trivial (by intro d; kernel_rfl)
def Kbd_s58 : List Int × Int × Int × Bool × Int → Option (List Int × Int × Int × Bool × Int ⊕ Bool ⊕ Unit)
 | (a, b, c, d, e) => bif decide (e < b) then ix e a.length ((Kb (gx a e 0, 0, c)).bind fun f => bif !f then some (.inr (.inl false)) else bif d then ix e a.length (bif (gx a e 0) != 0 then some (.inr (.inl false)) else some (.inl (a, b, c, d, w64 (e + 1)))) else some (.inl (a, b, c, d, w64 (e + 1)))) else some (.inr (.inr ()))
def Kbd_n58 : NEnt := ⟨⟨44, [⟨0, .one, [.dat (.list kI)]⟩, ⟨1, .one, [.dat kI]⟩, ⟨2, .one, [.dat kI]⟩, ⟨3, .one, [.dat .bool]⟩, ⟨9, .one, [.dat kI]⟩]⟩, [(.ret, ⟨44, [⟨8, .one, [.dat .bool]⟩]⟩), (.exit 0, ⟨44, []⟩)], lp Kbd_s58⟩
def Kbd : List Int × Int × Int × Bool → Option Bool
 | (a, b, c, d) => bif (ln a) != b then some false else bx (lp Kbd_s58 (a, b, c, d, 0)) (fun e => some e) fun _ => some true
def Kbd_e : FEnt := ⟨36, [.tmp 8], [], [(.one, [.dat (.list kI)]), (.one, [.dat kI]), (.one, [.dat kI]), (.one, [.dat .bool])], ⟨44, [⟨8, .one, [.dat .bool]⟩]⟩, Kbd⟩
theorem Kbd_ok : FnOk Tryz.prog 163 Kbd_e := fnOk_mk (tb := [(58, Kbd_n58)]) (c := (Tryz.f163.body).getD .skip) mixed Tryz.func163 (bC Kb_ok bN) (by kernel_rfl) (by kernel_rfl) (by kernel_rfl) ⟨nodeLoop (by kernel_rfl) Kbd_s58 (by kernel_rfl) (by intro d; kernel_rfl), trivial⟩ (by intro d; kernel_rfl)
def Kag_l31 : t37 × Bool → Option Bool
 | ((a, b, c, d, e, f, g), h) => (Kbd (e, 8, 1000000000, h)).bind fun i => bif i then (Kbd (f, 8, 17, h)).bind fun j => bif j then chk (decide (0 < g.length)) ((Kbd (List.getD g 0 [], 4, 1000000000, h)).bind fun k => bif k then chk (decide (1 < g.length)) ((Kbd (List.getD g 1 [], 4, 1000000000, h)).bind fun l => some l) else some false) else some false else some false
def Kag_n31 : NEnt := ⟨⟨81, [⟨1, .box, cc20⟩, ⟨3, .one, [.dat .bool]⟩]⟩, [(.ret, ⟨81, [⟨2, .one, [.dat .bool]⟩]⟩)], Kag_l31⟩
def Kag : t37 → Option Bool
 | (a, b, c, d, e, f, g) => (Kb (a, 0, 1000000000)).bind fun h => bif !h then some false else (Kb (b, 0, 1000000000)).bind fun i => bif !i then some false else (Kb (c, 0, 1000000)).bind fun j => bif !j then some false else (Kb (d, 0, 1000000)).bind fun k => bif !k then some false else bif decide (c > d) then some false else bif (ln g) != 2 then some false else bif a == 0 then bif b != 0 then some false else bif d != 0 then some false else (Kag_l31 ((a, b, c, d, e, f, g), a == 0)).bind fun l => some l else (Kag_l31 ((a, b, c, d, e, f, g), a == 0)).bind fun l => some l
def Kag_e : FEnt := ⟨79, [.tmp 2], [], [(.agg, cc20)], ⟨81, [⟨2, .one, [.dat .bool]⟩]⟩, Kag⟩
theorem Kag_ok : FnOk Tryz.prog 114 Kag_e := fnOk_mk (tb := [(31, Kag_n31)]) (c := (Tryz.f114.body).getD .skip) mixed Tryz.func114 (bC Kb_ok (bC Kbd_ok bN)) (by kernel_rfl) (by kernel_rfl) (by kernel_rfl) ⟨nodeJoin (by kernel_rfl) (by intro d; kernel_rfl), trivial⟩ (by intro d; kernel_rfl)
def Kbu : t53 → Option Bool
 | (a, b, c, d, e, f, g, h, i, j) => (Kcz (a, b)).bind fun k => bif k then bif decide ((ln c) > 0) then (Kaa c).bind fun l => bif l then (Kag (d, e, f, g, h, i, j)).bind fun m => some m else some false else some false else some false
def Kbu_e : FEnt := ⟨24, [.tmp 2], [], [(.agg, cc16)], ⟨26, [⟨2, .one, [.dat .bool]⟩]⟩, Kbu⟩
theorem Kbu_ok : FnOk Tryz.prog 54 Kbu_e := fnOk_mk (tb := []) (c := (Tryz.f54.body).getD .skip) mixed Tryz.func54 (bC Kcz_ok (bC Kaa_ok (bC Kag_ok bN))) (by kernel_rfl) (by kernel_rfl) (by kernel_rfl) trivial (by intro d; kernel_rfl)
def Kl_s3730 : t28 → Option (t28 ⊕ Bool ⊕ t22)
 | (a, b, c, d) => bif decide (d < (ln b)) then ix c a.length ((some (gx a c (0, 0))).bind fun (e, f) => ix d b.length ((some (gx b d (0, 0))).bind fun (g, h) => bif decide (e ≤ h) then ix d b.length ((some (gx b d (0, 0))).bind fun (i, j) => ix c a.length ((some (gx a c (0, 0))).bind fun (k, l) => bif decide (i ≤ l) then some (.inr (.inl false)) else some (.inl (a, b, c, w64 (d + 1))))) else some (.inl (a, b, c, w64 (d + 1))))) else some (.inr (.inr (a, b, c)))
def Kl_n3730 : NEnt := ⟨⟨55, [⟨0, .one, [.dat kk10]⟩, ⟨1, .one, [.dat kk10]⟩, ⟨5, .one, [.dat kI]⟩, ⟨6, .one, [.dat kI]⟩]⟩, [(.ret, ⟨55, [⟨4, .one, [.dat .bool]⟩]⟩), (.exit 2, ⟨55, [⟨0, .one, [.dat kk10]⟩, ⟨1, .one, [.dat kk10]⟩, ⟨5, .one, [.dat kI]⟩]⟩)], lp Kl_s3730⟩
def Kl_s58 : t22 → Option (t22 ⊕ Bool ⊕ Unit)
 | (a, b, c) => bif decide (c < (ln a)) then bx (lp Kl_s3730 (a, b, c, 0)) (fun d => some (.inr (.inl d))) fun (d, e, f) => some (.inl (d, e, w64 (f + 1))) else some (.inr (.inr ()))
def Kl_n58 : NEnt := ⟨⟨55, [⟨0, .one, [.dat kk10]⟩, ⟨1, .one, [.dat kk10]⟩, ⟨5, .one, [.dat kI]⟩]⟩, [(.ret, ⟨55, [⟨4, .one, [.dat .bool]⟩]⟩), (.exit 0, ⟨55, []⟩)], lp Kl_s58⟩
def Kl : t15 → Option Bool
 | (a, b) => (Kaa a).bind fun c => bif !c then some false else (Kaa b).bind fun d => bif !d then some false else bx (lp Kl_s58 (a, b, 0)) (fun e => some e) fun _ => some true
def Kl_e : FEnt := ⟨51, [.tmp 4], [], [(.one, [.dat kk10]), (.one, [.dat kk10])], ⟨55, [⟨4, .one, [.dat .bool]⟩]⟩, Kl⟩
theorem Kl_ok : FnOk Tryz.prog 86 Kl_e := fnOk_mk (tb := [(3730, Kl_n3730), (58, Kl_n58)]) (c := (Tryz.f86.body).getD .skip) mixed Tryz.func86 (bC Kaa_ok bN) (by kernel_rfl) (by kernel_rfl) (by kernel_rfl) ⟨nodeLoop (by kernel_rfl) Kl_s3730 (by kernel_rfl) (by intro d; kernel_rfl), nodeLoop (by kernel_rfl) Kl_s58 (by kernel_rfl) (by intro d; kernel_rfl), trivial⟩ (by intro d; kernel_rfl)
def Kj_s7462 : t64 → Option (t64 ⊕ Bool ⊕ t60)
 | (a, b, c) => bif decide (c < b) then ix b a.length ((some (gx a b (0, 0, [], 0, 0, 0, 0, [], [], []))).bind fun (d, e, f, g, h, i, j, k, l, m) => ix c a.length ((some (gx a c (0, 0, [], 0, 0, 0, 0, [], [], []))).bind fun (n, o, p, q, r, s, t, u, v, w) => (Kl (f, p)).bind fun x => bif !x then some (.inr (.inl false)) else some (.inl (a, b, w64 (c + 1))))) else some (.inr (.inr (a, b)))
def Kj_n7462 : NEnt := ⟨⟨44, [⟨1, .box, [.dat kk4]⟩, ⟨3, .one, [.dat kI]⟩, ⟨4, .one, [.dat kI]⟩]⟩, [(.ret, ⟨44, [⟨2, .one, [.dat .bool]⟩]⟩), (.exit 2, ⟨44, [⟨1, .box, [.dat kk4]⟩, ⟨3, .one, [.dat kI]⟩]⟩)], lp Kj_s7462⟩
def Kj_s58 : t60 → Option (t60 ⊕ Bool ⊕ Unit)
 | (a, b) => (some (decide (b < (ln a)))).bind fun c => bif c then ix b a.length ((some (gx a b (0, 0, [], 0, 0, 0, 0, [], [], []))).bind fun (d, e, f, g, h, i, j, k, l, m) => (Kbu (d, e, f, g, h, i, j, k, l, m)).bind fun n => bif !n then some (.inr (.inl false)) else bx (lp Kj_s7462 (a, b, 0)) (fun o => some (.inr (.inl o))) fun (o, p) => some (.inl (o, w64 (p + 1)))) else some (.inr (.inr ()))
def Kj_n58 : NEnt := ⟨⟨44, [⟨1, .box, [.dat kk4]⟩, ⟨3, .one, [.dat kI]⟩]⟩, [(.ret, ⟨44, [⟨2, .one, [.dat .bool]⟩]⟩), (.exit 0, ⟨44, []⟩)], lp Kj_s58⟩
def Kj : List t53 → Option Bool
 | a => (some (decide ((ln a) > 24))).bind fun b => bif b then some false else bx (lp Kj_s58 (a, 0)) (fun c => some c) fun _ => some true
def Kj_e : FEnt := ⟨42, [.tmp 2], [], [(.agg, [.dat kk4])], ⟨44, [⟨2, .one, [.dat .bool]⟩]⟩, Kj⟩
theorem Kj_ok : FnOk Tryz.prog 136 Kj_e := fnOk_mk (tb := [(7462, Kj_n7462), (58, Kj_n58)]) (c := (Tryz.f136.body).getD .skip) mixed Tryz.func136 (bC Kbu_ok (bC Kl_ok bN)) (by kernel_rfl) (by kernel_rfl) (by kernel_rfl) ⟨nodeLoop (by kernel_rfl) Kj_s7462 (by kernel_rfl) (by intro d; kernel_rfl), nodeLoop (by kernel_rfl) Kj_s58 (by kernel_rfl) (by intro d; kernel_rfl), trivial⟩ (by intro d; kernel_rfl)
def Kbj : Int × Int → Option Int
 | (a, b) => bif decide (a > b) then some a else some b
def Kbj_e : FEnt := ⟨10, [.tmp 4], [], [(.one, [.dat kI]), (.one, [.dat kI])], ⟨14, [⟨4, .one, [.dat kI]⟩]⟩, Kbj⟩
theorem Kbj_ok : FnOk Tryz.prog 141 Kbj_e := fnOk_mk (tb := []) (c := (Tryz.f141.body).getD .skip) mixed Tryz.func141 bN (by kernel_rfl) (by kernel_rfl) (by kernel_rfl) trivial (by intro d; kernel_rfl)
def Km_s122 : List (Int × Int) × (Int × Int) × List (Int × Int) × Bool × Int → Option (List (Int × Int) × (Int × Int) × List (Int × Int) × Bool × Int ⊕ (Int × Int) × List (Int × Int) × Bool)
 | (a, (b, c), d, e, f) => bif decide (f < (ln a)) then ix f a.length ((some (gx a f (0, 0))).bind fun (g, h) => bif decide ((w64 (h + 1)) < b) then ix f a.length ((some (gx a f (0, 0))).bind fun (i, j) => chk (fits (d.length + [(i, j)].length) 16) (some (.inl (a, (b, c), d ++ [(i, j)], e, w64 (f + 1))))) else ix f a.length ((some (gx a f (0, 0))).bind fun (i, j) => bif decide (i > (w64 (c + 1))) then bif !e then chk (fits (d.length + [(b, c)].length) 16) (ix f a.length ((some (gx a f (0, 0))).bind fun (k, l) => chk (fits ((d ++ [(b, c)]).length + [(k, l)].length) 16) ((some ((d ++ [(b, c)]) ++ [(k, l)])).bind fun m => some (.inl (a, (b, c), m, true, w64 (f + 1)))))) else ix f a.length ((some (gx a f (0, 0))).bind fun (k, l) => chk (fits (d.length + [(k, l)].length) 16) (some (.inl (a, (b, c), d ++ [(k, l)], e, w64 (f + 1))))) else ix f a.length ((some (gx a f (0, 0))).bind fun (k, l) => (Ki (b, k)).bind fun m => ix f a.length ((some (gx a f (0, 0))).bind fun (n, o) => (Kbj (c, o)).bind fun p => some (.inl (a, (m, p), d, e, w64 (f + 1))))))) else some (.inr ((b, c), d, e))
def Km_n122 : NEnt := ⟨⟨83, [⟨0, .one, [.dat kk10]⟩, ⟨3, .box, cc35⟩, ⟨5, .one, cc34⟩, ⟨6, .one, [.dat .bool]⟩, ⟨7, .one, [.dat kI]⟩]⟩, [(.exit 0, ⟨83, [⟨3, .box, cc35⟩, ⟨5, .one, cc34⟩, ⟨6, .one, [.dat .bool]⟩]⟩)], lp Km_s122⟩
def Km : t9 → Option (List (Int × Int))
 | (a, b, c) => (lp Km_s122 (a, (b, c), [], false, 0)).bind fun ((d, e), f, g) => bif !g then chk (fits (f.length + [(d, e)].length) 16) (some (f ++ [(d, e)])) else some f
def Km_e : FEnt := ⟨79, [.tmp 4], [], [(.one, [.dat kk10]), (.agg, cc35)], ⟨83, [⟨4, .one, cc34⟩]⟩, Km⟩
theorem Km_ok : FnOk Tryz.prog 140 Km_e := fnOk_mk (tb := [(122, Km_n122)]) (c := (Tryz.f140.body).getD .skip) mixed Tryz.func140 (bC Ki_ok (bC Kbj_ok bN)) (by kernel_rfl) (by kernel_rfl) (by kernel_rfl) ⟨nodeLoop (by kernel_rfl) Km_s122 (by kernel_rfl) (by intro d; kernel_rfl), trivial⟩ (by intro d; kernel_rfl)
def Kao_s58 : t22 → Option (t22 ⊕ List (Int × Int))
 | (a, b, c) => bif decide (c < (ln a)) then ix c a.length ((some (gx a c (0, 0))).bind fun (d, e) => (Km (b, d, e)).bind fun f => some (.inl (a, f, w64 (c + 1)))) else some (.inr b)
def Kao_n58 : NEnt := ⟨⟨26, [⟨1, .one, [.dat kk10]⟩, ⟨5, .one, cc34⟩, ⟨6, .one, [.dat kI]⟩]⟩, [(.exit 0, ⟨26, [⟨5, .one, cc34⟩]⟩)], lp Kao_s58⟩
def Kao : t15 → Option (List (Int × Int))
 | (a, b) => (Kcn a).bind fun c => (lp Kao_s58 (b, c, 0)).bind fun d => some d
def Kao_e : FEnt := ⟨22, [.tmp 4], [], [(.one, [.dat kk10]), (.one, [.dat kk10])], ⟨26, [⟨4, .one, cc34⟩]⟩, Kao⟩
theorem Kao_ok : FnOk Tryz.prog 87 Kao_e := fnOk_mk (tb := [(58, Kao_n58)]) (c := (Tryz.f87.body).getD .skip) mixed Tryz.func87 (bC Kcn_ok (bC Km_ok bN)) (by kernel_rfl) (by kernel_rfl) (by kernel_rfl) ⟨nodeLoop (by kernel_rfl) Kao_s58 (by kernel_rfl) (by intro d; kernel_rfl), trivial⟩ (by intro d; kernel_rfl)
def Kbv_s122 : List t53 × t0 → Option (List t53 × t0 ⊕ List (Int × Int))
 | (a, b, c) => (some (decide (c < (ln a)))).bind fun d => bif d then ix c a.length ((some (gx a c (0, 0, [], 0, 0, 0, 0, [], [], []))).bind fun (e, f, g, h, i, j, k, l, m, n) => (Kao (b, g)).bind fun o => some (.inl (a, o, w64 (c + 1)))) else some (.inr b)
def Kbv_n122 : NEnt := ⟨⟨28, [⟨1, .box, [.dat kk4]⟩, ⟨3, .one, cc34⟩, ⟨4, .one, [.dat kI]⟩]⟩, [(.exit 0, ⟨28, [⟨3, .one, cc34⟩]⟩)], lp Kbv_s122⟩
def Kbv : List t53 → Option (List (Int × Int))
 | a => (Kj a).bind fun b => bif !b then some [] else (lp Kbv_s122 (a, [], 0)).bind fun c => some c
def Kbv_e : FEnt := ⟨26, [.tmp 2], [], [(.agg, [.dat kk4])], ⟨28, [⟨2, .one, cc34⟩]⟩, Kbv⟩
theorem Kbv_ok : FnOk Tryz.prog 135 Kbv_e := fnOk_mk (tb := [(122, Kbv_n122)]) (c := (Tryz.f135.body).getD .skip) mixed Tryz.func135 (bC Kj_ok (bC Kao_ok bN)) (by kernel_rfl) (by kernel_rfl) (by kernel_rfl) ⟨nodeLoop (by kernel_rfl) Kbv_s122 (by kernel_rfl) (by intro d; kernel_rfl), trivial⟩ (by intro d; kernel_rfl)
def Kba_s58 : List (Int × Int) × Int × Int × Int → Option (List (Int × Int) × Int × Int × Int ⊕ Int)
 | (a, b, c, d) => bif decide (d < (ln a)) then ix d a.length ((some (gx a d (0, 0))).bind fun (e, f) => (Kbj (e, w64 ((w64 (100 * b)) + 1))).bind fun g => ix d a.length ((some (gx a d (0, 0))).bind fun (h, i) => (Ki (i, w64 ((w64 (100 * b)) + 60))).bind fun j => (Kbj (w64 ((w64 (j - g)) + 1), 0)).bind fun k => some (.inl (a, b, w64 (c + k), w64 (d + 1))))) else some (.inr c)
def Kba_n58 : NEnt := ⟨⟨45, [⟨0, .one, [.dat kk10]⟩, ⟨1, .one, [.dat kI]⟩, ⟨5, .one, [.dat kI]⟩, ⟨6, .one, [.dat kI]⟩]⟩, [(.exit 0, ⟨45, [⟨5, .one, [.dat kI]⟩]⟩)], lp Kba_s58⟩
def Kba : t0 → Option Int
 | (a, b) => (lp Kba_s58 (a, b, 0, 0)).bind fun c => some c
def Kba_e : FEnt := ⟨41, [.tmp 4], [], [(.one, [.dat kk10]), (.one, [.dat kI])], ⟨45, [⟨4, .one, [.dat kI]⟩]⟩, Kba⟩
theorem Kba_ok : FnOk Tryz.prog 90 Kba_e := fnOk_mk (tb := [(58, Kba_n58)]) (c := (Tryz.f90.body).getD .skip) mixed Tryz.func90 (bC Kbj_ok (bC Ki_ok bN)) (by kernel_rfl) (by kernel_rfl) (by kernel_rfl) ⟨nodeLoop (by kernel_rfl) Kba_s58 (by kernel_rfl) (by intro d; kernel_rfl), trivial⟩ (by intro d; kernel_rfl)
def Kcp : Int → Option Bool
 | a => (Kb (a, 0, 2)).bind fun b => some b
def Kcp_e : FEnt := ⟨5, [.tmp 2], [], [(.one, [.dat kI])], ⟨7, [⟨2, .one, [.dat .bool]⟩]⟩, Kcp⟩
theorem Kcp_ok : FnOk Tryz.prog 182 Kcp_e := fnOk_mk (tb := []) (c := (Tryz.f182.body).getD .skip) mixed Tryz.func182 (bC Kb_ok bN) (by kernel_rfl) (by kernel_rfl) (by kernel_rfl) trivial (by intro d; kernel_rfl)
def Kdd : Int × Bool × List Int → Option Bool
 | (a, b, c) => (Kcp a).bind fun d => bif d then (Kab (c, 0, 1000)).bind fun e => some e else some false
def Kdd_e : FEnt := ⟨11, [.tmp 2], [], [(.agg, cc28)], ⟨13, [⟨2, .one, [.dat .bool]⟩]⟩, Kdd⟩
theorem Kdd_ok : FnOk Tryz.prog 137 Kdd_e := fnOk_mk (tb := []) (c := (Tryz.f137.body).getD .skip) mixed Tryz.func137 (bC Kcp_ok (bC Kab_ok bN)) (by kernel_rfl) (by kernel_rfl) (by kernel_rfl) trivial (by intro d; kernel_rfl)
def Kh_s7462 : t118 × Int × Int × Unit × t105 → Option (t118 × Int × Int × Unit × t105 ⊕ Bool ⊕ t118 × Int × Unit × t105)
 | ((a, b, c, d, e, f, g, h, i, j, k, l, m, n, o, p), q, r, _, s, t, (u, _), v, w, x) => bif decide (r < 2) then ix q l.length ((some (gx l q [])).bind fun y => ix r y.length ((some (gx y r [])).bind fun z => (Kbv z).bind fun a1 => ix q l.length ((some (gx l q [])).bind fun b1 => ix r b1.length ((some (gx b1 r [])).bind fun c1 => (Kj c1).bind fun d1 => bif !d1 then some (.inr (.inl false)) else (Kba (a1, q)).bind fun e1 => (Kar a1).bind fun f1 => bif e1 != f1 then some (.inr (.inl false)) else some (.inl ((a, b, c, d, e, f, g, h, i, j, k, l, m, n, o, p), q, w64 (r + 1), (), s, t, (u, ()), v, w, x)))))) else some (.inr (.inr ((a, b, c, d, e, f, g, h, i, j, k, l, m, n, o, p), q, (), s, t, (u, ()), v, w, x)))
def Kh_n7462 : NEnt := ⟨⟨102, [⟨1, .box, cc7⟩, ⟨3, .one, [.dat kI]⟩, ⟨4, .one, [.dat kI]⟩, ⟨50, .one, [.bptr 1 11]⟩, ⟨51, .one, [.dat kk0]⟩, ⟨52, .one, [.dat kI]⟩, ⟨53, .one, [.pim [kk2] 0]⟩, ⟨54, .one, [.dat kk2]⟩, ⟨55, .one, [.dat kI]⟩, ⟨56, .one, [.dat .bool]⟩]⟩, [(.ret, ⟨102, [⟨2, .one, [.dat .bool]⟩]⟩), (.exit 2, ⟨102, [⟨1, .box, cc7⟩, ⟨3, .one, [.dat kI]⟩, ⟨50, .one, [.bptr 1 11]⟩, ⟨51, .one, [.dat kk0]⟩, ⟨52, .one, [.dat kI]⟩, ⟨53, .one, [.pim [kk2] 0]⟩, ⟨54, .one, [.dat kk2]⟩, ⟨55, .one, [.dat kI]⟩, ⟨56, .one, [.dat .bool]⟩]⟩)], lp Kh_s7462⟩
def Kh_s58 : t119 → Option (t119 ⊕ Bool ⊕ t118)
 | ((a, b, c, d, e, f, g, h, i, j, k, l, m, n, o, p), q) => bif decide (q < 3) then ix q k.length ((some (gx k q (0, 0, [], 0, 0))).bind fun (r, s, t, u, v) => (Kbx ((r, s, t, u, v), a)).bind fun w => bif !w then some (.inr (.inl false)) else ix q l.length ((some (gx l q [])).bind fun x => bif (ln x) != 2 then some (.inr (.inl false)) else bx (lp Kh_s7462 ((a, b, c, d, e, f, g, h, i, j, k, l, m, n, o, p), q, 0, (), l, q, (gx l q [], ()), x, ln x, (ln x) != 2)) (fun y => some (.inr (.inl y))) fun ((y, z, a1, b1, c1, d1, e1, f1, g1, h1, i1, j1, k1, l1, m1, n1), o1, _, p1, q1, (r1, _), s1, t1, u1) => some (.inl ((y, z, a1, b1, c1, d1, e1, f1, g1, h1, i1, j1, k1, l1, m1, n1), w64 (o1 + 1))))) else some (.inr (.inr (a, b, c, d, e, f, g, h, i, j, k, l, m, n, o, p)))
def Kh_n58 : NEnt := ⟨⟨102, [⟨1, .box, cc7⟩, ⟨3, .one, [.dat kI]⟩]⟩, [(.ret, ⟨102, [⟨2, .one, [.dat .bool]⟩]⟩), (.exit 0, ⟨102, [⟨1, .box, cc7⟩]⟩)], lp Kh_s58⟩
def Kh_s122 : t119 → Option (t119 ⊕ Bool ⊕ Unit)
 | ((a, b, c, d, e, f, g, h, i, j, k, l, m, n, o, p), q) => bif decide (q < 2) then ix q m.length ((some (gx m q (0, false, []))).bind fun (r, s, t) => (Kdd (r, s, t)).bind fun u => bif !u then some (.inr (.inl false)) else some (.inl ((a, b, c, d, e, f, g, h, i, j, k, l, m, n, o, p), w64 (q + 1)))) else some (.inr (.inr ()))
def Kh_n122 : NEnt := ⟨⟨102, [⟨1, .box, cc7⟩, ⟨6, .one, [.dat kI]⟩]⟩, [(.ret, ⟨102, [⟨2, .one, [.dat .bool]⟩]⟩), (.exit 4, ⟨102, []⟩)], lp Kh_s122⟩
def Kh : t118 → Option Bool
 | (a, b, c, d, e, f, g, h, i, j, k, l, m, n, o, p) => bif (ln k) != 3 then some false else bif (ln l) != 3 then some false else bif (ln m) != 2 then some false else (Kb (n, 0, 1000)).bind fun q => bif !q then some false else (Kb (i, 0, 100000)).bind fun r => bif !r then some false else bx (lp Kh_s58 ((a, b, c, d, e, f, g, h, i, j, k, l, m, n, o, p), 0)) (fun s => some s) fun (s, t, u, v, w, x, y, z, a1, b1, c1, d1, e1, f1, g1, h1) => bx (lp Kh_s122 ((s, t, u, v, w, x, y, z, a1, b1, c1, d1, e1, f1, g1, h1), 0)) (fun i1 => some i1) fun _ => some true
def Kh_e : FEnt := ⟨100, [.tmp 2], [], [(.agg, cc7)], ⟨102, [⟨2, .one, [.dat .bool]⟩]⟩, Kh⟩
theorem Kh_ok : FnOk Tryz.prog 83 Kh_e := fnOk_mk (tb := [(122, Kh_n122), (7462, Kh_n7462), (58, Kh_n58)]) (c := (Tryz.f83.body).getD .skip) mixed Tryz.func83 (bC Kb_ok (bC Kbx_ok (bC Kbv_ok (bC Kj_ok (bC Kba_ok (bC Kar_ok (bC Kdd_ok bN))))))) (by kernel_rfl) (by kernel_rfl) (by kernel_rfl) ⟨nodeLoop (by kernel_rfl) Kh_s122 (by kernel_rfl) (by intro d; kernel_rfl), nodeLoop (by kernel_rfl) Kh_s7462 (by kernel_rfl) (by intro d; kernel_rfl), nodeLoop (by kernel_rfl) Kh_s58 (by kernel_rfl) (by intro d; kernel_rfl), trivial⟩ (by intro d; kernel_rfl)
def Kcy : Bool → Option Int
 | a => bif a then some 1 else some 0
def Kcy_e : FEnt := ⟨4, [.tmp 2], [], [(.one, [.dat .bool])], ⟨6, [⟨2, .one, [.dat kI]⟩]⟩, Kcy⟩
theorem Kcy_ok : FnOk Tryz.prog 75 Kcy_e := fnOk_mk (tb := []) (c := (Tryz.f75.body).getD .skip) mixed Tryz.func75 bN (by kernel_rfl) (by kernel_rfl) (by kernel_rfl) trivial (by intro d; kernel_rfl)
def Kaz_s58 : List t55 × Int × Int × Int × Int → Option (List t55 × Int × Int × Int × Int ⊕ Int)
 | (a, b, c, d, e) => (some (decide (e < (ln a)))).bind fun f => bif f then ix e a.length ((some (gx a e (0, 0, 0, [], 0, 0, 0, 0, [], [], []))).bind fun (g, h, i, j, k, l, m, n, o, p, q) => bif h == b then ix e a.length ((some (gx a e (0, 0, 0, [], 0, 0, 0, 0, [], [], []))).bind fun (r, s, t, u, v, w, x, y, z, a1, b1) => (Kcy (t == c)).bind fun c1 => some (.inl (a, b, c, w64 (d + c1), w64 (e + 1)))) else (Kcy false).bind fun r => some (.inl (a, b, c, w64 (d + r), w64 (e + 1)))) else some (.inr d)
def Kaz_n58 : NEnt := ⟨⟨43, [⟨0, .one, [.dat kk1]⟩, ⟨1, .one, [.dat kI]⟩, ⟨2, .one, [.dat kI]⟩, ⟨7, .one, [.dat kI]⟩, ⟨8, .one, [.dat kI]⟩]⟩, [(.exit 0, ⟨43, [⟨7, .one, [.dat kI]⟩]⟩)], lp Kaz_s58⟩
def Kaz : t67 → Option Int
 | (a, b, c) => (lp Kaz_s58 (a, b, c, 0, 0)).bind fun d => some d
def Kaz_e : FEnt := ⟨37, [.tmp 6], [], [(.one, [.dat kk1]), (.one, [.dat kI]), (.one, [.dat kI])], ⟨43, [⟨6, .one, [.dat kI]⟩]⟩, Kaz⟩
theorem Kaz_ok : FnOk Tryz.prog 138 Kaz_e := fnOk_mk (tb := [(58, Kaz_n58)]) (c := (Tryz.f138.body).getD .skip) mixed Tryz.func138 (bC Kcy_ok bN) (by kernel_rfl) (by kernel_rfl) (by kernel_rfl) ⟨nodeLoop (by kernel_rfl) Kaz_s58 (by kernel_rfl) (by intro d; kernel_rfl), trivial⟩ (by intro d; kernel_rfl)
def Kac_s26 : t119 → Option (t119 ⊕ Bool ⊕ t118)
 | ((a, b, c, d, e, f, g, h, i, j, k, l, m, n, o, p), q) => (some (decide (q < (ln o)))).bind fun r => bif r then ix q o.length ((some (gx o q (0, 0, [], 0, 0, 0, 0, [], [], []))).bind fun (s, t, u, v, w, x, y, z, a1, b1) => (Kbu (s, t, u, v, w, x, y, z, a1, b1)).bind fun c1 => bif !c1 then some (.inr (.inl false)) else bif decide (q > 0) then ix (w64 (q - 1)) o.length ((some (gx o (w64 (q - 1)) (0, 0, [], 0, 0, 0, 0, [], [], []))).bind fun (d1, e1, f1, g1, h1, i1, j1, k1, l1, m1) => bif decide (s < d1) then some (.inr (.inl false)) else ix (w64 (q - 1)) o.length ((some (gx o (w64 (q - 1)) (0, 0, [], 0, 0, 0, 0, [], [], []))).bind fun (n1, o1, p1, q1, r1, s1, t1, u1, v1, w1) => bif s == n1 then ix (w64 (q - 1)) o.length ((some (gx o (w64 (q - 1)) (0, 0, [], 0, 0, 0, 0, [], [], []))).bind fun (x1, y1, z1, a2, b2, c2, d2, e2, f2, g2) => bif decide (t ≤ y1) then some (.inr (.inl false)) else some (.inl ((a, b, c, d, e, f, g, h, i, j, k, l, m, n, o, p), w64 (q + 1)))) else some (.inl ((a, b, c, d, e, f, g, h, i, j, k, l, m, n, o, p), w64 (q + 1))))) else some (.inl ((a, b, c, d, e, f, g, h, i, j, k, l, m, n, o, p), w64 (q + 1)))) else some (.inr (.inr (a, b, c, d, e, f, g, h, i, j, k, l, m, n, o, p)))
def Kac_n26 : NEnt := ⟨⟨104, [⟨1, .box, cc7⟩, ⟨3, .one, [.dat kI]⟩]⟩, [(.ret, ⟨104, [⟨2, .one, [.dat .bool]⟩]⟩), (.exit 0, ⟨104, [⟨1, .box, cc7⟩]⟩)], lp Kac_s26⟩
def Kac_s58 : t119 → Option (t119 ⊕ Bool ⊕ Unit)
 | ((a, b, c, d, e, f, g, h, i, j, k, l, m, n, o, p), q) => (some (decide (q < (ln p)))).bind fun r => bif r then ix q p.length ((some (gx p q (0, 0, 0, [], 0, 0, 0, 0, [], [], []))).bind fun (s, t, u, v, w, x, y, z, a1, b1, c1) => (Kbu (t, u, v, w, x, y, z, a1, b1, c1)).bind fun d1 => bif !d1 then some (.inr (.inl false)) else ix q p.length ((some (gx p q (0, 0, 0, [], 0, 0, 0, 0, [], [], []))).bind fun (e1, f1, g1, h1, i1, j1, k1, l1, m1, n1, o1) => g0 q (chk (decide ((0 ≤ q.toNat) ∧ (q.toNat ≤ p.length))) (ix q p.length ((some (gx p q (0, 0, 0, [], 0, 0, 0, 0, [], [], []))).bind fun (p1, q1, r1, s1, t1, u1, v1, w1, x1, y1, z1) => ix q p.length ((some (gx p q (0, 0, 0, [], 0, 0, 0, 0, [], [], []))).bind fun (a2, b2, c2, d2, e2, f2, g2, h2, i2, j2, k2) => (Kaz (List.take q.toNat p, q1, c2)).bind fun l2 => bif e1 != l2 then some (.inr (.inl false)) else some (.inl ((a, b, c, d, e, f, g, h, i, j, k, l, m, n, o, p), w64 (q + 1))))))))) else some (.inr (.inr ()))
def Kac_n58 : NEnt := ⟨⟨104, [⟨1, .box, cc7⟩, ⟨5, .one, [.dat kI]⟩]⟩, [(.ret, ⟨104, [⟨2, .one, [.dat .bool]⟩]⟩), (.exit 2, ⟨104, []⟩)], lp Kac_s58⟩
def Kac : t118 → Option Bool
 | (a, b, c, d, e, f, g, h, i, j, k, l, m, n, o, p) => bx (lp Kac_s26 ((a, b, c, d, e, f, g, h, i, j, k, l, m, n, o, p), 0)) (fun q => some q) fun (q, r, s, t, u, v, w, x, y, z, a1, b1, c1, d1, e1, f1) => bx (lp Kac_s58 ((q, r, s, t, u, v, w, x, y, z, a1, b1, c1, d1, e1, f1), 0)) (fun g1 => some g1) fun _ => some true
def Kac_e : FEnt := ⟨102, [.tmp 2], [], [(.agg, cc7)], ⟨104, [⟨2, .one, [.dat .bool]⟩]⟩, Kac⟩
theorem Kac_ok : FnOk Tryz.prog 84 Kac_e := fnOk_mk (tb := [(58, Kac_n58), (26, Kac_n26)]) (c := (Tryz.f84.body).getD .skip) mixed Tryz.func84 (bC Kbu_ok (bC Kaz_ok bN)) (by kernel_rfl) (by kernel_rfl) (by kernel_rfl) ⟨nodeLoop (by kernel_rfl) Kac_s58 (by kernel_rfl) (by intro d; kernel_rfl), nodeLoop (by kernel_rfl) Kac_s26 (by kernel_rfl) (by intro d; kernel_rfl), trivial⟩ (by intro d; kernel_rfl)
def Kg_s3730 : t118 × t64 → Option (t118 × t64 ⊕ t122)
 | ((a, b, c, d, e, f, g, h, i, j, k, l, m, n, o, p), q, r, s) => ix r l.length ((some (gx l r [])).bind fun t => (some (decide (s < (ln t)))).bind fun u => bif u then ix r l.length ((some (gx l r [])).bind fun v => ix s v.length ((some (gx v s [])).bind fun w => chk (fits (q.length + w.length) 144) ((some (q ++ w)).bind fun x => some (.inl ((a, b, c, d, e, f, g, h, i, j, k, l, m, n, o, p), x, r, w64 (s + 1)))))) else some (.inr ((a, b, c, d, e, f, g, h, i, j, k, l, m, n, o, p), q, r)))
def Kg_n3730 : NEnt := ⟨⟨59, [⟨1, .box, cc7⟩, ⟨3, .one, [.own false kk5]⟩, ⟨4, .one, [.dat kI]⟩, ⟨5, .one, [.dat kI]⟩]⟩, [(.exit 2, ⟨59, [⟨1, .box, cc7⟩, ⟨3, .one, [.own false kk5]⟩, ⟨4, .one, [.dat kI]⟩]⟩)], lp Kg_s3730⟩
def Kg_s58 : t122 → Option (t122 ⊕ t118 × List t53)
 | ((a, b, c, d, e, f, g, h, i, j, k, l, m, n, o, p), q, r) => (some (decide (r < (ln l)))).bind fun s => bif s then (lp Kg_s3730 ((a, b, c, d, e, f, g, h, i, j, k, l, m, n, o, p), q, r, 0)).bind fun ((t, u, v, w, x, y, z, a1, b1, c1, d1, e1, f1, g1, h1, i1), j1, k1) => some (.inl ((t, u, v, w, x, y, z, a1, b1, c1, d1, e1, f1, g1, h1, i1), j1, w64 (k1 + 1))) else some (.inr ((a, b, c, d, e, f, g, h, i, j, k, l, m, n, o, p), q))
def Kg_n58 : NEnt := ⟨⟨59, [⟨1, .box, cc7⟩, ⟨3, .one, [.own false kk5]⟩, ⟨4, .one, [.dat kI]⟩]⟩, [(.exit 0, ⟨59, [⟨1, .box, cc7⟩, ⟨3, .one, [.own false kk5]⟩]⟩)], lp Kg_s58⟩
def Kg_s250 : t122 → Option (t122 ⊕ List t53)
 | ((a, b, c, d, e, f, g, h, i, j, k, l, m, n, o, p), q, r) => (some (decide (r < (ln p)))).bind fun s => bif s then ix r p.length ((some (gx p r (0, 0, 0, [], 0, 0, 0, 0, [], [], []))).bind fun (t, u, v, w, x, y, z, a1, b1, c1, d1) => (some [(u, v, w, x, y, z, a1, b1, c1, d1)]).bind fun e1 => chk (fits (q.length + e1.length) 144) ((some (q ++ e1)).bind fun f1 => some (.inl ((a, b, c, d, e, f, g, h, i, j, k, l, m, n, o, p), f1, w64 (r + 1))))) else some (.inr q)
def Kg_n250 : NEnt := ⟨⟨59, [⟨1, .box, cc7⟩, ⟨3, .one, [.own false kk5]⟩, ⟨6, .one, [.dat kI]⟩]⟩, [(.exit 4, ⟨59, [⟨3, .one, [.own false kk5]⟩]⟩)], lp Kg_s250⟩
def Kg : t118 → Option (List t53)
 | (a, b, c, d, e, f, g, h, i, j, k, l, m, n, o, p) => (lp Kg_s58 ((a, b, c, d, e, f, g, h, i, j, k, l, m, n, o, p), [], 0)).bind fun ((q, r, s, t, u, v, w, x, y, z, a1, b1, c1, d1, e1, f1), g1) => chk (fits (g1.length + e1.length) 144) ((some (g1 ++ e1)).bind fun h1 => (lp Kg_s250 ((q, r, s, t, u, v, w, x, y, z, a1, b1, c1, d1, e1, f1), h1, 0)).bind fun i1 => some i1)
def Kg_e : FEnt := ⟨57, [.tmp 2], [], [(.agg, cc7)], ⟨59, [⟨2, .one, [.own false kk5]⟩]⟩, Kg⟩
theorem Kg_ok : FnOk Tryz.prog 85 Kg_e := fnOk_mk (tb := [(250, Kg_n250), (3730, Kg_n3730), (58, Kg_n58)]) (c := (Tryz.f85.body).getD .skip) mixed Tryz.func85 bN (by kernel_rfl) (by kernel_rfl) (by kernel_rfl) ⟨nodeLoop (by kernel_rfl) Kg_s250 (by kernel_rfl) (by intro d; kernel_rfl), nodeLoop (by kernel_rfl) Kg_s3730 (by kernel_rfl) (by intro d; kernel_rfl), nodeLoop (by kernel_rfl) Kg_s58 (by kernel_rfl) (by intro d; kernel_rfl), trivial⟩ (by intro d; kernel_rfl)
def Ku_s3730 : t118 × t9 → Option (t118 × t9 ⊕ t118 × t0)
 | ((a, b, c, d, e, f, g, h, i, j, k, l, m, n, o, p), q, r, s) => ix r k.length ((some (gx k r (0, 0, [], 0, 0))).bind fun (t, u, v, w, x) => bif decide (s < (ln v)) then ix r k.length ((some (gx k r (0, 0, [], 0, 0))).bind fun (y, z, a1, b1, c1) => ix s a1.length ((some (gx a1 s (0, 0))).bind fun (d1, e1) => (Km (q, w64 ((w64 (100 * r)) + d1), w64 ((w64 (100 * r)) + e1))).bind fun f1 => some (.inl ((a, b, c, d, e, f, g, h, i, j, k, l, m, n, o, p), f1, r, w64 (s + 1))))) else some (.inr ((a, b, c, d, e, f, g, h, i, j, k, l, m, n, o, p), q, r)))
def Ku_n3730 : NEnt := ⟨⟨51, [⟨1, .box, cc7⟩, ⟨3, .one, cc34⟩, ⟨4, .one, [.dat kI]⟩, ⟨5, .one, [.dat kI]⟩]⟩, [(.exit 2, ⟨51, [⟨1, .box, cc7⟩, ⟨3, .one, cc34⟩, ⟨4, .one, [.dat kI]⟩]⟩)], lp Ku_s3730⟩
def Ku_s58 : t118 × t0 → Option (t118 × t0 ⊕ List (Int × Int))
 | ((a, b, c, d, e, f, g, h, i, j, k, l, m, n, o, p), q, r) => bif decide (r < (ln k)) then (lp Ku_s3730 ((a, b, c, d, e, f, g, h, i, j, k, l, m, n, o, p), q, r, 0)).bind fun ((s, t, u, v, w, x, y, z, a1, b1, c1, d1, e1, f1, g1, h1), i1, j1) => some (.inl ((s, t, u, v, w, x, y, z, a1, b1, c1, d1, e1, f1, g1, h1), i1, w64 (j1 + 1))) else some (.inr q)
def Ku_n58 : NEnt := ⟨⟨51, [⟨1, .box, cc7⟩, ⟨3, .one, cc34⟩, ⟨4, .one, [.dat kI]⟩]⟩, [(.exit 0, ⟨51, [⟨3, .one, cc34⟩]⟩)], lp Ku_s58⟩
def Ku : t118 → Option (List (Int × Int))
 | (a, b, c, d, e, f, g, h, i, j, k, l, m, n, o, p) => (lp Ku_s58 ((a, b, c, d, e, f, g, h, i, j, k, l, m, n, o, p), [], 0)).bind fun q => some q
def Ku_e : FEnt := ⟨49, [.tmp 2], [], [(.agg, cc7)], ⟨51, [⟨2, .one, cc34⟩]⟩, Ku⟩
theorem Ku_ok : FnOk Tryz.prog 89 Ku_e := fnOk_mk (tb := [(3730, Ku_n3730), (58, Ku_n58)]) (c := (Tryz.f89.body).getD .skip) mixed Tryz.func89 (bC Km_ok bN) (by kernel_rfl) (by kernel_rfl) (by kernel_rfl) ⟨nodeLoop (by kernel_rfl) Ku_s3730 (by kernel_rfl) (by intro d; kernel_rfl), nodeLoop (by kernel_rfl) Ku_s58 (by kernel_rfl) (by intro d; kernel_rfl), trivial⟩ (by intro d; kernel_rfl)
def Kah_s58 : t22 → Option (t22 ⊕ Bool ⊕ Unit)
 | (a, b, c) => bif decide (c < (ln a)) then ix c a.length ((some (gx a c (0, 0))).bind fun (d, e) => ix c b.length ((some (gx b c (0, 0))).bind fun (f, g) => bif !((d == f) && ((e == g) && true)) then some (.inr (.inl false)) else some (.inl (a, b, w64 (c + 1))))) else some (.inr (.inr ()))
def Kah_n58 : NEnt := ⟨⟨30, [⟨0, .one, [.dat kk10]⟩, ⟨1, .one, [.dat kk10]⟩, ⟨5, .one, [.dat kI]⟩]⟩, [(.ret, ⟨30, [⟨4, .one, [.dat .bool]⟩]⟩), (.exit 0, ⟨30, []⟩)], lp Kah_s58⟩
def Kah : t15 → Option Bool
 | (a, b) => bif (ln a) != (ln b) then some false else bx (lp Kah_s58 (a, b, 0)) (fun c => some c) fun _ => some true
def Kah_e : FEnt := ⟨26, [.tmp 4], [], [(.one, [.dat kk10]), (.one, [.dat kk10])], ⟨30, [⟨4, .one, [.dat .bool]⟩]⟩, Kah⟩
theorem Kah_ok : FnOk Tryz.prog 88 Kah_e := fnOk_mk (tb := [(58, Kah_n58)]) (c := (Tryz.f88.body).getD .skip) mixed Tryz.func88 bN (by kernel_rfl) (by kernel_rfl) (by kernel_rfl) ⟨nodeLoop (by kernel_rfl) Kah_s58 (by kernel_rfl) (by intro d; kernel_rfl), trivial⟩ (by intro d; kernel_rfl)
def Kd_s250 : t118 × t69 → Option (t118 × t69 ⊕ Bool ⊕ t118 × List (Int × Int))
 | ((a, b, c, d, e, f, g, h, i, j, k, l, m, n, o, p), q, r, s) => (some (decide (s < (ln r)))).bind fun t => bif t then ix s r.length (lx s r.length ((some (gx r s (0, 0, [], 0, 0, 0, 0, [], [], []))).bind fun (u, v, w, x, y, z, a1, b1, c1, d1) => (Kl (q, w)).bind fun e1 => bif !e1 then some (.inr (.inl false)) else ix s r.length (lx s r.length ((some (gx r s (0, 0, [], 0, 0, 0, 0, [], [], []))).bind fun (f1, g1, h1, i1, j1, k1, l1, m1, n1, o1) => (Kao (q, h1)).bind fun p1 => some (.inl ((a, b, c, d, e, f, g, h, i, j, k, l, m, n, o, p), p1, r, w64 (s + 1))))))) else some (.inr (.inr ((a, b, c, d, e, f, g, h, i, j, k, l, m, n, o, p), q)))
def Kd_n250 : NEnt := ⟨⟨102, [⟨1, .box, cc7⟩, ⟨3, .one, cc34⟩, ⟨4, .one, [.own false kk5]⟩, ⟨5, .one, [.dat kI]⟩]⟩, [(.ret, ⟨102, [⟨2, .one, [.dat .bool]⟩]⟩), (.exit 0, ⟨102, [⟨1, .box, cc7⟩, ⟨3, .one, cc34⟩]⟩)], lp Kd_s250⟩
def Kd_s260682 : t121 → Option (t121 ⊕ t120)
 | ((a, b, c, d, e, f, g, h, i, j, k, l, m, n, o, p), q, r, s) => (some (decide (s < (ln o)))).bind fun t => bif t then ix s o.length ((some (gx o s (0, 0, [], 0, 0, 0, 0, [], [], []))).bind fun (u, v, w, x, y, z, a1, b1, c1, d1) => (Kba (w, q)).bind fun e1 => some (.inl ((a, b, c, d, e, f, g, h, i, j, k, l, m, n, o, p), q, w64 (r + e1), w64 (s + 1)))) else some (.inr ((a, b, c, d, e, f, g, h, i, j, k, l, m, n, o, p), q, r))
def Kd_n260682 : NEnt := ⟨⟨102, [⟨1, .box, cc7⟩, ⟨6, .one, [.dat kI]⟩, ⟨7, .one, [.dat kI]⟩, ⟨8, .one, [.dat kI]⟩]⟩, [(.exit 4, ⟨102, [⟨1, .box, cc7⟩, ⟨6, .one, [.dat kI]⟩, ⟨7, .one, [.dat kI]⟩]⟩)], lp Kd_s260682⟩
def Kd_s521370 : t121 → Option (t121 ⊕ t120)
 | ((a, b, c, d, e, f, g, h, i, j, k, l, m, n, o, p), q, r, s) => (some (decide (s < (ln p)))).bind fun t => bif t then ix s p.length ((some (gx p s (0, 0, 0, [], 0, 0, 0, 0, [], [], []))).bind fun (u, v, w, x, y, z, a1, b1, c1, d1, e1) => (Kba (x, q)).bind fun f1 => some (.inl ((a, b, c, d, e, f, g, h, i, j, k, l, m, n, o, p), q, w64 (r + f1), w64 (s + 1)))) else some (.inr ((a, b, c, d, e, f, g, h, i, j, k, l, m, n, o, p), q, r))
def Kd_n521370 : NEnt := ⟨⟨102, [⟨1, .box, cc7⟩, ⟨6, .one, [.dat kI]⟩, ⟨7, .one, [.dat kI]⟩, ⟨9, .one, [.dat kI]⟩]⟩, [(.exit 6, ⟨102, [⟨1, .box, cc7⟩, ⟨6, .one, [.dat kI]⟩, ⟨7, .one, [.dat kI]⟩]⟩)], lp Kd_s521370⟩
def Kd_s1018 : t119 → Option (t119 ⊕ Bool ⊕ Unit)
 | ((a, b, c, d, e, f, g, h, i, j, k, l, m, n, o, p), q) => bif decide (q < 3) then (lp Kd_s260682 ((a, b, c, d, e, f, g, h, i, j, k, l, m, n, o, p), q, 0, 0)).bind fun ((r, s, t, u, v, w, x, y, z, a1, b1, c1, d1, e1, f1, g1), h1, i1) => (lp Kd_s521370 ((r, s, t, u, v, w, x, y, z, a1, b1, c1, d1, e1, f1, g1), h1, i1, 0)).bind fun ((j1, k1, l1, m1, n1, o1, p1, q1, r1, s1, t1, u1, v1, w1, x1, y1), z1, a2) => ix z1 t1.length ((some (gx t1 z1 (0, 0, [], 0, 0))).bind fun (b2, c2, d2, e2, f2) => bif a2 != e2 then some (.inr (.inl false)) else some (.inl ((j1, k1, l1, m1, n1, o1, p1, q1, r1, s1, t1, u1, v1, w1, x1, y1), w64 (z1 + 1)))) else some (.inr (.inr ()))
def Kd_n1018 : NEnt := ⟨⟨102, [⟨1, .box, cc7⟩, ⟨6, .one, [.dat kI]⟩]⟩, [(.ret, ⟨102, [⟨2, .one, [.dat .bool]⟩]⟩), (.exit 2, ⟨102, []⟩)], lp Kd_s1018⟩
def Kd : t118 → Option Bool
 | (a, b, c, d, e, f, g, h, i, j, k, l, m, n, o, p) => (Kcq (a, b, c, d, e, f, g, h)).bind fun q => bif !q then some false else (Kh (a, b, c, d, e, f, g, h, i, j, k, l, m, n, o, p)).bind fun r => bif !r then some false else (Kac (a, b, c, d, e, f, g, h, i, j, k, l, m, n, o, p)).bind fun s => bif !s then some false else (Kg (a, b, c, d, e, f, g, h, i, j, k, l, m, n, o, p)).bind fun t => bx (lp Kd_s250 ((a, b, c, d, e, f, g, h, i, j, k, l, m, n, o, p), [], t, 0)) (fun u => some u) fun ((u, v, w, x, y, z, a1, b1, c1, d1, e1, f1, g1, h1, i1, j1), k1) => (Ku (u, v, w, x, y, z, a1, b1, c1, d1, e1, f1, g1, h1, i1, j1)).bind fun l1 => (Kah (k1, l1)).bind fun m1 => bif !m1 then some false else bx (lp Kd_s1018 ((u, v, w, x, y, z, a1, b1, c1, d1, e1, f1, g1, h1, i1, j1), 0)) (fun n1 => some n1) fun _ => some true
def Kd_e : FEnt := ⟨100, [.tmp 2], [], [(.agg, cc7)], ⟨102, [⟨2, .one, [.dat .bool]⟩]⟩, Kd⟩
theorem Kd_ok : FnOk Tryz.prog 36 Kd_e := fnOk_mk (tb := [(521370, Kd_n521370), (260682, Kd_n260682), (1018, Kd_n1018), (250, Kd_n250)]) (c := (Tryz.f36.body).getD .skip) mixed Tryz.func36 (bC Kcq_ok (bC Kh_ok (bC Kac_ok (bC Kg_ok (bC Kl_ok (bC Kao_ok (bC Ku_ok (bC Kah_ok (bC Kba_ok bN))))))))) (by kernel_rfl) (by kernel_rfl) (by kernel_rfl) ⟨nodeLoop (by kernel_rfl) Kd_s521370 (by kernel_rfl) (by intro d; kernel_rfl), nodeLoop (by kernel_rfl) Kd_s260682 (by kernel_rfl) (by intro d; kernel_rfl), nodeLoop (by kernel_rfl) Kd_s1018 (by kernel_rfl) (by intro d; kernel_rfl), nodeLoop (by kernel_rfl) Kd_s250 (by kernel_rfl) (by intro d; kernel_rfl), trivial⟩ (by intro d; kernel_rfl)
def Kau_s506 : t37 × t65 → Option (t37 × t65 ⊕ t23 × t37)
 | ((a, b, c, d, e, f, g), (h, i, j, k, _, _, _), (l, m, n, o, p, q, r), s) => bif decide (s < (ln g)) then ix s g.length (chk (fits (0 + (gx g s []).length) 8) (chk (fits (r.length + [[] ++ (gx g s [])].length) 24) ((some (r ++ [[] ++ (gx g s [])])).bind fun t => some (.inl ((a, b, c, d, e, f, g), (h, i, j, k, (), (), ()), (l, m, n, o, p, q, t), w64 (s + 1)))))) else some (.inr ((h, i, j, k, (), (), ()), l, m, n, o, p, q, r))
def Kau_n506 : NEnt := ⟨⟨39, [⟨1, .box, cc20⟩, ⟨2, .box, cc25⟩, ⟨3, .box, cc19⟩, ⟨4, .one, [.dat kI]⟩]⟩, [(.exit 0, ⟨39, [⟨2, .box, cc25⟩, ⟨3, .box, cc19⟩]⟩)], lp Kau_s506⟩
def Kau : t37 → Option t37
 | (a, b, c, d, e, f, g) => chk (fits (0 + e.length) 8) (chk (fits (0 + f.length) 8) ((lp Kau_s506 ((a, b, c, d, e, f, g), (0, 0, 0, 0, (), (), ()), (a, b, c, d, [] ++ e, [] ++ f, []), 0)).bind fun ((h, i, j, k, _, _, _), l, m, n, o, p, q, r) => some (l, m, n, o, p, q, r)))
def Kau_e : FEnt := ⟨37, [.cell 2 true 7], [], [(.agg, cc20)], ⟨39, [⟨2, .box, cc19⟩]⟩, Kau⟩
theorem Kau_ok : FnOk Tryz.prog 159 Kau_e := fnOk_mk (tb := [(506, Kau_n506)]) (c := (Tryz.f159.body).getD .skip) mixed Tryz.func159 bN (by kernel_rfl) (by kernel_rfl) (by kernel_rfl) ⟨nodeLoop (by kernel_rfl) Kau_s506 (by kernel_rfl) (by intro d; kernel_rfl), trivial⟩ (by intro d; kernel_rfl)
def Kbq : t53 → Option t53
 | (a, b, c, d, e, f, g, h, i, j) => (Kcn c).bind fun k => (Kau (d, e, f, g, h, i, j)).bind fun (l, m, n, o, p, q, r) => some (a, b, k, l, m, n, o, p, q, r)
def Kbq_e : FEnt := ⟨14, [.cell 2 true 10], [], [(.agg, cc16)], ⟨16, [⟨2, .box, cc13⟩]⟩, Kbq⟩
theorem Kbq_ok : FnOk Tryz.prog 108 Kbq_e := fnOk_mk (tb := []) (c := (Tryz.f108.body).getD .skip) mixed Tryz.func108 (bC Kcn_ok (bC Kau_ok bN)) (by kernel_rfl) (by kernel_rfl) (by kernel_rfl) trivial (by intro d; kernel_rfl)
def Kas_s58 : List t53 × Unit × t60 → Option (List t53 × Unit × t60 ⊕ Unit × List t53)
 | (a, _, b, c) => (some (decide (c < (ln a)))).bind fun d => bif d then ix c a.length ((some (gx a c (0, 0, [], 0, 0, 0, 0, [], [], []))).bind fun (e, f, g, h, i, j, k, l, m, n) => (Kbq (e, f, g, h, i, j, k, l, m, n)).bind fun (o, p, q, r, s, t, u, v, w, x) => (some [(o, p, q, r, s, t, u, v, w, x)]).bind fun y => chk (fits (b.length + y.length) 144) ((some (b ++ y)).bind fun z => some (.inl (a, (), z, w64 (c + 1))))) else some (.inr ((), b))
def Kas_n58 : NEnt := ⟨⟨27, [⟨1, .box, [.dat kk4]⟩, ⟨2, .box, [.nil]⟩, ⟨3, .box, [.own true kk5]⟩, ⟨4, .one, [.dat kI]⟩]⟩, [(.exit 0, ⟨27, [⟨2, .box, [.nil]⟩, ⟨3, .box, [.own true kk5]⟩]⟩)], lp Kas_s58⟩
def Kas : List t53 → Option (List t53)
 | a => (lp Kas_s58 (a, (), [], 0)).bind fun (_, b) => some b
def Kas_e : FEnt := ⟨25, [.cell 2 true 1], [], [(.agg, [.dat kk4])], ⟨27, [⟨2, .box, [.own true kk5]⟩]⟩, Kas⟩
theorem Kas_ok : FnOk Tryz.prog 196 Kas_e := fnOk_mk (tb := [(58, Kas_n58)]) (c := (Tryz.f196.body).getD .skip) mixed Tryz.func196 (bC Kbq_ok bN) (by kernel_rfl) (by kernel_rfl) (by kernel_rfl) ⟨nodeLoop (by kernel_rfl) Kas_s58 (by kernel_rfl) (by intro d; kernel_rfl), trivial⟩ (by intro d; kernel_rfl)
def Kct : Int × Bool × List Int → Option (Int × Bool × List Int)
 | (a, b, c) => chk (fits (0 + c.length) 8) (some (a, b, [] ++ c))
def Kct_e : FEnt := ⟨12, [.cell 2 true 3], [], [(.agg, cc28)], ⟨14, [⟨2, .box, cc31⟩]⟩, Kct⟩
theorem Kct_ok : FnOk Tryz.prog 197 Kct_e := fnOk_mk (tb := []) (c := (Tryz.f197.body).getD .skip) mixed Tryz.func197 bN (by kernel_rfl) (by kernel_rfl) (by kernel_rfl) trivial (by intro d; kernel_rfl)
def Ka_s58 : t118 × t56 × (Int × Int × Int × t72) × Int → Option (t118 × t56 × (Int × Int × Int × t72) × Int ⊕ t118 × t56 × Int × Int × Int × t72)
 | ((a, b, c, d, e, f, g, h, i, j, k, l, m, n, o, p), (q, r, s, _, t, u, v, w, x, y, _, _, _, z, _, _), (a1, b1, c1, d1, e1, f1, g1, h1, i1, j1, k1, _, _, l1, _, _), m1) => bif decide (m1 < (ln k)) then ix m1 k.length ((some (gx k m1 (0, 0, [], 0, 0))).bind fun (n1, o1, p1, q1, r1) => (Kce (n1, o1, p1, q1, r1)).bind fun (s1, t1, u1, v1, w1) => (some [(s1, t1, u1, v1, w1)]).bind fun x1 => chk (fits (k1.length + x1.length) 56) ((some (k1 ++ x1)).bind fun y1 => some (.inl ((a, b, c, d, e, f, g, h, i, j, k, l, m, n, o, p), (q, r, s, (), t, u, v, w, x, y, (), (), (), z, (), ()), (a1, b1, c1, d1, e1, f1, g1, h1, i1, j1, y1, (), (), l1, (), ()), w64 (m1 + 1))))) else some (.inr ((a, b, c, d, e, f, g, h, i, j, k, l, m, n, o, p), (q, r, s, (), t, u, v, w, x, y, (), (), (), z, (), ()), a1, b1, c1, d1, e1, f1, g1, h1, i1, j1, k1, (), (), l1, (), ()))
def Ka_n58 : NEnt := ⟨⟨140, [⟨1, .box, cc7⟩, ⟨2, .box, cc12⟩, ⟨3, .box, cc10⟩, ⟨4, .one, [.dat kI]⟩]⟩, [(.exit 0, ⟨140, [⟨1, .box, cc7⟩, ⟨2, .box, cc12⟩, ⟨3, .box, cc10⟩]⟩)], lp Ka_s58⟩
def Ka_s31306 : t118 × t56 × t98 × Int × List (List t53) × Int → Option (t118 × t56 × t98 × Int × List (List t53) × Int ⊕ t118 × t56 × t98 × Int × List (List t53))
 | ((a, b, c, d, e, f, g, h, i, j, k, l, m, n, o, p), (q, r, s, _, t, u, v, w, x, y, _, _, _, z, _, _), (a1, b1, c1, d1, e1, f1, g1, h1, i1, j1, k1, l1, _, m1, _, _), n1, o1, p1) => ix n1 l.length ((some (gx l n1 [])).bind fun q1 => (some (decide (p1 < (ln q1)))).bind fun r1 => bif r1 then ix n1 l.length ((some (gx l n1 [])).bind fun s1 => ix p1 s1.length ((some (gx s1 p1 [])).bind fun t1 => (Kas t1).bind fun u1 => (some [u1]).bind fun v1 => chk (fits (o1.length + v1.length) 24) ((some (o1 ++ v1)).bind fun w1 => some (.inl ((a, b, c, d, e, f, g, h, i, j, k, l, m, n, o, p), (q, r, s, (), t, u, v, w, x, y, (), (), (), z, (), ()), (a1, b1, c1, d1, e1, f1, g1, h1, i1, j1, k1, l1, (), m1, (), ()), n1, w1, w64 (p1 + 1)))))) else some (.inr ((a, b, c, d, e, f, g, h, i, j, k, l, m, n, o, p), (q, r, s, (), t, u, v, w, x, y, (), (), (), z, (), ()), (a1, b1, c1, d1, e1, f1, g1, h1, i1, j1, k1, l1, (), m1, (), ()), n1, o1)))
def Ka_n31306 : NEnt := ⟨⟨140, [⟨1, .box, cc7⟩, ⟨2, .box, cc12⟩, ⟨3, .box, cc8⟩, ⟨5, .one, [.dat kI]⟩, ⟨6, .one, [.own true kk4]⟩, ⟨7, .one, [.dat kI]⟩]⟩, [(.exit 4, ⟨140, [⟨1, .box, cc7⟩, ⟨2, .box, cc12⟩, ⟨3, .box, cc8⟩, ⟨5, .one, [.dat kI]⟩, ⟨6, .one, [.own true kk4]⟩]⟩)], lp Ka_s31306⟩
def Ka_s122 : t118 × t56 × t98 × Int → Option (t118 × t56 × t98 × Int ⊕ t118 × t56 × t98)
 | ((a, b, c, d, e, f, g, h, i, j, k, l, m, n, o, p), (q, r, s, _, t, u, v, w, x, y, _, _, _, z, _, _), (a1, b1, c1, d1, e1, f1, g1, h1, i1, j1, k1, l1, _, m1, _, _), n1) => (some (decide (n1 < (ln l)))).bind fun o1 => bif o1 then (lp Ka_s31306 ((a, b, c, d, e, f, g, h, i, j, k, l, m, n, o, p), (q, r, s, (), t, u, v, w, x, y, (), (), (), z, (), ()), (a1, b1, c1, d1, e1, f1, g1, h1, i1, j1, k1, l1, (), m1, (), ()), n1, [], 0)).bind fun ((p1, q1, r1, s1, t1, u1, v1, w1, x1, y1, z1, a2, b2, c2, d2, e2), (f2, g2, h2, _, i2, j2, k2, l2, m2, n2, _, _, _, o2, _, _), (p2, q2, r2, s2, t2, u2, v2, w2, x2, y2, z2, a3, _, b3, _, _), c3, d3) => (some [d3]).bind fun e3 => chk (fits (a3.length + e3.length) 24) ((some (a3 ++ e3)).bind fun f3 => some (.inl ((p1, q1, r1, s1, t1, u1, v1, w1, x1, y1, z1, a2, b2, c2, d2, e2), (f2, g2, h2, (), i2, j2, k2, l2, m2, n2, (), (), (), o2, (), ()), (p2, q2, r2, s2, t2, u2, v2, w2, x2, y2, z2, f3, (), b3, (), ()), w64 (c3 + 1)))) else some (.inr ((a, b, c, d, e, f, g, h, i, j, k, l, m, n, o, p), (q, r, s, (), t, u, v, w, x, y, (), (), (), z, (), ()), a1, b1, c1, d1, e1, f1, g1, h1, i1, j1, k1, l1, (), m1, (), ()))
def Ka_n122 : NEnt := ⟨⟨140, [⟨1, .box, cc7⟩, ⟨2, .box, cc12⟩, ⟨3, .box, cc8⟩, ⟨5, .one, [.dat kI]⟩]⟩, [(.exit 2, ⟨140, [⟨1, .box, cc7⟩, ⟨2, .box, cc12⟩, ⟨3, .box, cc8⟩]⟩)], lp Ka_s122⟩
def Ka_s250 : t118 × t56 × t102 × Int → Option (t118 × t56 × t102 × Int ⊕ t118 × t56 × t102)
 | ((a, b, c, d, e, f, g, h, i, j, k, l, m, n, o, p), (q, r, s, _, t, u, v, w, x, y, _, _, _, z, _, _), (a1, b1, c1, d1, e1, f1, g1, h1, i1, j1, k1, l1, m1, n1, _, _), o1) => bif decide (o1 < (ln m)) then ix o1 m.length ((some (gx m o1 (0, false, []))).bind fun (p1, q1, r1) => (Kct (p1, q1, r1)).bind fun (s1, t1, u1) => chk (fits (m1.length + [(s1, t1, u1)].length) 40) ((some (m1 ++ [(s1, t1, u1)])).bind fun v1 => some (.inl ((a, b, c, d, e, f, g, h, i, j, k, l, m, n, o, p), (q, r, s, (), t, u, v, w, x, y, (), (), (), z, (), ()), (a1, b1, c1, d1, e1, f1, g1, h1, i1, j1, k1, l1, v1, n1, (), ()), w64 (o1 + 1))))) else some (.inr ((a, b, c, d, e, f, g, h, i, j, k, l, m, n, o, p), (q, r, s, (), t, u, v, w, x, y, (), (), (), z, (), ()), a1, b1, c1, d1, e1, f1, g1, h1, i1, j1, k1, l1, m1, n1, (), ()))
def Ka_n250 : NEnt := ⟨⟨140, [⟨1, .box, cc7⟩, ⟨2, .box, cc12⟩, ⟨3, .box, cc5⟩, ⟨8, .one, [.dat kI]⟩]⟩, [(.exit 6, ⟨140, [⟨1, .box, cc7⟩, ⟨2, .box, cc12⟩, ⟨3, .box, cc5⟩]⟩)], lp Ka_s250⟩
def Ka_s506 : t118 × t56 × (Int × Int × t107) × Int → Option (t118 × t56 × (Int × Int × t107) × Int ⊕ t118 × t56 × Int × Int × t107)
 | ((a, b, c, d, e, f, g, h, i, j, k, l, m, n, o, p), (q, r, s, _, t, u, v, w, x, y, _, _, _, z, _, _), (a1, b1, c1, d1, e1, f1, g1, h1, i1, j1, k1, l1, m1, n1, o1, _), p1) => (some (decide (p1 < (ln o)))).bind fun q1 => bif q1 then ix p1 o.length ((some (gx o p1 (0, 0, [], 0, 0, 0, 0, [], [], []))).bind fun (r1, s1, t1, u1, v1, w1, x1, y1, z1, a2) => (Kbq (r1, s1, t1, u1, v1, w1, x1, y1, z1, a2)).bind fun (b2, c2, d2, e2, f2, g2, h2, i2, j2, k2) => (some [(b2, c2, d2, e2, f2, g2, h2, i2, j2, k2)]).bind fun l2 => chk (fits (o1.length + l2.length) 144) ((some (o1 ++ l2)).bind fun m2 => some (.inl ((a, b, c, d, e, f, g, h, i, j, k, l, m, n, o, p), (q, r, s, (), t, u, v, w, x, y, (), (), (), z, (), ()), (a1, b1, c1, d1, e1, f1, g1, h1, i1, j1, k1, l1, m1, n1, m2, ()), w64 (p1 + 1))))) else some (.inr ((a, b, c, d, e, f, g, h, i, j, k, l, m, n, o, p), (q, r, s, (), t, u, v, w, x, y, (), (), (), z, (), ()), a1, b1, c1, d1, e1, f1, g1, h1, i1, j1, k1, l1, m1, n1, o1, ()))
def Ka_n506 : NEnt := ⟨⟨140, [⟨1, .box, cc7⟩, ⟨2, .box, cc12⟩, ⟨3, .box, cc4⟩, ⟨9, .one, [.dat kI]⟩]⟩, [(.exit 8, ⟨140, [⟨1, .box, cc7⟩, ⟨2, .box, cc12⟩, ⟨3, .box, cc4⟩]⟩)], lp Ka_s506⟩
def Ka_s1018 : t118 × t56 × t119 → Option (t118 × t56 × t119 ⊕ t56 × t118)
 | ((a, b, c, d, e, f, g, h, i, j, k, l, m, n, o, p), (q, r, s, _, t, u, v, w, x, y, _, _, _, z, _, _), (a1, b1, c1, d1, e1, f1, g1, h1, i1, j1, k1, l1, m1, n1, o1, p1), q1) => (some (decide (q1 < (ln p)))).bind fun r1 => bif r1 then ix q1 p.length ((some (gx p q1 (0, 0, 0, [], 0, 0, 0, 0, [], [], []))).bind fun (s1, t1, u1, v1, w1, x1, y1, z1, a2, b2, c2) => ix q1 p.length ((some (gx p q1 (0, 0, 0, [], 0, 0, 0, 0, [], [], []))).bind fun (d2, e2, f2, g2, h2, i2, j2, k2, l2, m2, n2) => (Kbq (e2, f2, g2, h2, i2, j2, k2, l2, m2, n2)).bind fun (o2, p2, q2, r2, s2, t2, u2, v2, w2, x2) => (some [(s1, o2, p2, q2, r2, s2, t2, u2, v2, w2, x2)]).bind fun y2 => chk (fits (p1.length + y2.length) 152) ((some (p1 ++ y2)).bind fun z2 => some (.inl ((a, b, c, d, e, f, g, h, i, j, k, l, m, n, o, p), (q, r, s, (), t, u, v, w, x, y, (), (), (), z, (), ()), (a1, b1, c1, d1, e1, f1, g1, h1, i1, j1, k1, l1, m1, n1, o1, z2), w64 (q1 + 1)))))) else some (.inr ((q, r, s, (), t, u, v, w, x, y, (), (), (), z, (), ()), a1, b1, c1, d1, e1, f1, g1, h1, i1, j1, k1, l1, m1, n1, o1, p1))
def Ka_n1018 : NEnt := ⟨⟨140, [⟨1, .box, cc7⟩, ⟨2, .box, cc12⟩, ⟨3, .box, cc3⟩, ⟨10, .one, [.dat kI]⟩]⟩, [(.exit 10, ⟨140, [⟨2, .box, cc12⟩, ⟨3, .box, cc3⟩]⟩)], lp Ka_s1018⟩
def Ka : t118 → Option t118
 | (a, b, c, d, e, f, g, h, i, j, k, l, m, n, o, p) => (Kcx (a, b, c, d, e, f, g, h)).bind fun (q, r, s, t, u, v, w, x) => (lp Ka_s58 ((a, b, c, d, e, f, g, h, i, j, k, l, m, n, o, p), (0, 0, 0, (), 0, 0, 0, 0, 0, false, (), (), (), 0, (), ()), (q, r, s, t, u, v, w, x, i, j, [], (), (), n, (), ()), 0)).bind fun ((y, z, a1, b1, c1, d1, e1, f1, g1, h1, i1, j1, k1, l1, m1, n1), (o1, p1, q1, _, r1, s1, t1, u1, v1, w1, _, _, _, x1, _, _), y1, z1, a2, b2, c2, d2, e2, f2, g2, h2, i2, _, _, j2, _, _) => (lp Ka_s122 ((y, z, a1, b1, c1, d1, e1, f1, g1, h1, i1, j1, k1, l1, m1, n1), (o1, p1, q1, (), r1, s1, t1, u1, v1, w1, (), (), (), x1, (), ()), (y1, z1, a2, b2, c2, d2, e2, f2, g2, h2, i2, [], (), j2, (), ()), 0)).bind fun ((k2, l2, m2, n2, o2, p2, q2, r2, s2, t2, u2, v2, w2, x2, y2, z2), (a3, b3, c3, _, d3, e3, f3, g3, h3, i3, _, _, _, j3, _, _), k3, l3, m3, n3, o3, p3, q3, r3, s3, t3, u3, v3, _, w3, _, _) => (lp Ka_s250 ((k2, l2, m2, n2, o2, p2, q2, r2, s2, t2, u2, v2, w2, x2, y2, z2), (a3, b3, c3, (), d3, e3, f3, g3, h3, i3, (), (), (), j3, (), ()), (k3, l3, m3, n3, o3, p3, q3, r3, s3, t3, u3, v3, [], w3, (), ()), 0)).bind fun ((x3, y3, z3, a4, b4, c4, d4, e4, f4, g4, h4, i4, j4, k4, l4, m4), (n4, o4, p4, _, q4, r4, s4, t4, u4, v4, _, _, _, w4, _, _), x4, y4, z4, a5, b5, c5, d5, e5, f5, g5, h5, i5, j5, k5, _, _) => (lp Ka_s506 ((x3, y3, z3, a4, b4, c4, d4, e4, f4, g4, h4, i4, j4, k4, l4, m4), (n4, o4, p4, (), q4, r4, s4, t4, u4, v4, (), (), (), w4, (), ()), (x4, y4, z4, a5, b5, c5, d5, e5, f5, g5, h5, i5, j5, k5, [], ()), 0)).bind fun ((l5, m5, n5, o5, p5, q5, r5, s5, t5, u5, v5, w5, x5, y5, z5, a6), (b6, c6, d6, _, e6, f6, g6, h6, i6, j6, _, _, _, k6, _, _), l6, m6, n6, o6, p6, q6, r6, s6, t6, u6, v6, w6, x6, y6, z6, _) => (lp Ka_s1018 ((l5, m5, n5, o5, p5, q5, r5, s5, t5, u5, v5, w5, x5, y5, z5, a6), (b6, c6, d6, (), e6, f6, g6, h6, i6, j6, (), (), (), k6, (), ()), (l6, m6, n6, o6, p6, q6, r6, s6, t6, u6, v6, w6, x6, y6, z6, []), 0)).bind fun ((a7, b7, c7, _, d7, e7, f7, g7, h7, i7, _, _, _, j7, _, _), k7, l7, m7, n7, o7, p7, q7, r7, s7, t7, u7, v7, w7, x7, y7, z7) => some (k7, l7, m7, n7, o7, p7, q7, r7, s7, t7, u7, v7, w7, x7, y7, z7)
def Ka_e : FEnt := ⟨138, [.cell 2 true 16], [], [(.agg, cc7)], ⟨140, [⟨2, .box, cc3⟩]⟩, Ka⟩
theorem Ka_ok : FnOk Tryz.prog 156 Ka_e := fnOk_mk (tb := [(1018, Ka_n1018), (506, Ka_n506), (250, Ka_n250), (31306, Ka_n31306), (122, Ka_n122), (58, Ka_n58)]) (c := (Tryz.f156.body).getD .skip) mixed Tryz.func156 (bC Kcx_ok (bC Kce_ok (bC Kas_ok (bC Kct_ok (bC Kbq_ok bN))))) (by kernel_rfl) (by kernel_rfl) (by kernel_rfl) ⟨nodeLoop (by kernel_rfl) Ka_s1018 (by kernel_rfl) (by intro d; kernel_rfl), nodeLoop (by kernel_rfl) Ka_s506 (by kernel_rfl) (by intro d; kernel_rfl), nodeLoop (by kernel_rfl) Ka_s250 (by kernel_rfl) (by intro d; kernel_rfl), nodeLoop (by kernel_rfl) Ka_s31306 (by kernel_rfl) (by intro d; kernel_rfl), nodeLoop (by kernel_rfl) Ka_s122 (by kernel_rfl) (by intro d; kernel_rfl), nodeLoop (by kernel_rfl) Ka_s58 (by kernel_rfl) (by intro d; kernel_rfl), trivial⟩ (by intro d; kernel_rfl)
def Kbe_s58 : List Int × Int × Int → Option (List Int × Int × Int ⊕ Int)
 | (a, b, c) => bif decide (c < (ln a)) then ix c a.length ((Kcy (decide ((gx a c 0) > 0))).bind fun d => some (.inl (a, w64 (b + d), w64 (c + 1)))) else some (.inr b)
def Kbe_n58 : NEnt := ⟨⟨22, [⟨0, .one, [.dat (.list kI)]⟩, ⟨3, .one, [.dat kI]⟩, ⟨4, .one, [.dat kI]⟩]⟩, [(.exit 0, ⟨22, [⟨3, .one, [.dat kI]⟩]⟩)], lp Kbe_s58⟩
def Kbe : List Int → Option Int
 | a => (lp Kbe_s58 (a, 0, 0)).bind fun b => some b
def Kbe_e : FEnt := ⟨20, [.tmp 2], [], [(.one, [.dat (.list kI)])], ⟨22, [⟨2, .one, [.dat kI]⟩]⟩, Kbe⟩
theorem Kbe_ok : FnOk Tryz.prog 239 Kbe_e := fnOk_mk (tb := [(58, Kbe_n58)]) (c := (Tryz.f239.body).getD .skip) mixed Tryz.func239 (bC Kcy_ok bN) (by kernel_rfl) (by kernel_rfl) (by kernel_rfl) ⟨nodeLoop (by kernel_rfl) Kbe_s58 (by kernel_rfl) (by intro d; kernel_rfl), trivial⟩ (by intro d; kernel_rfl)
def Kdj : t53 → Option Int
 | (a, b, c, d, e, f, g, h, i, j) => (Kbu (a, b, c, d, e, f, g, h, i, j)).bind fun k => bif !k then some 0 else (Kbe h).bind fun l => (Kbe i).bind fun m => chk (decide (0 < j.length)) ((Kbe (List.getD j 0 [])).bind fun n => chk (decide (1 < j.length)) ((Kbe (List.getD j 1 [])).bind fun o => (some (w64 ((w64 ((w64 ((w64 ((w64 (4 + l)) + m)) + n)) + o)) + (w64 (2 * (ln c)))))).bind fun p => some p))
def Kdj_e : FEnt := ⟨35, [.tmp 2], [], [(.agg, cc16)], ⟨37, [⟨2, .one, [.dat kI]⟩]⟩, Kdj⟩
theorem Kdj_ok : FnOk Tryz.prog 232 Kdj_e := fnOk_mk (tb := []) (c := (Tryz.f232.body).getD .skip) mixed Tryz.func232 (bC Kbu_ok (bC Kbe_ok bN)) (by kernel_rfl) (by kernel_rfl) (by kernel_rfl) trivial (by intro d; kernel_rfl)
def Kbb_s58 : Int × t118 × List Int × Int → Option (Int × t118 × List Int × Int ⊕ List Int)
 | (a, (b, c, d, e, f, g, h, i, j, k, l, m, n, o, p, q), r, s) => bif decide (s < 3) then ix s m.length ((some (gx m s [])).bind fun t => ix a t.length ((some (gx t a [])).bind fun u => (some (decide ((ln u) > 0))).bind fun v => bif v then ix s m.length ((some (gx m s [])).bind fun w => ix a w.length ((some (gx w a [])).bind fun x => chk (decide (0 < x.length)) ((some (List.getD x 0 (0, 0, [], 0, 0, 0, 0, [], [], []))).bind fun (y, z, a1, b1, c1, d1, e1, f1, g1, h1) => (Kdj (y, z, a1, b1, c1, d1, e1, f1, g1, h1)).bind fun i1 => (Ki (i1, 200)).bind fun j1 => chk (fits (r.length + [j1].length) 8) (some (.inl (a, (b, c, d, e, f, g, h, i, j, k, l, m, n, o, p, q), r ++ [j1], w64 (s + 1))))))) else chk (fits (r.length + 1) 8) (some (.inl (a, (b, c, d, e, f, g, h, i, j, k, l, m, n, o, p, q), r ++ [0], w64 (s + 1)))))) else some (.inr r)
def Kbb_n58 : NEnt := ⟨⟨46, [⟨1, .one, [.dat kI]⟩, ⟨2, .box, cc7⟩, ⟨5, .one, [.own true kI]⟩, ⟨6, .one, [.dat kI]⟩]⟩, [(.exit 0, ⟨46, [⟨5, .one, [.own true kI]⟩]⟩)], lp Kbb_s58⟩
def Kbb : t119 → Option (List Int)
 | ((a, b, c, d, e, f, g, h, i, j, k, l, m, n, o, p), q) => (lp Kbb_s58 (q, (a, b, c, d, e, f, g, h, i, j, k, l, m, n, o, p), [], 0)).bind fun r => some r
def Kbb_e : FEnt := ⟨42, [.tmp 4], [], [(.agg, cc7), (.one, [.dat kI])], ⟨46, [⟨4, .one, [.own true kI]⟩]⟩, Kbb⟩
theorem Kbb_ok : FnOk Tryz.prog 216 Kbb_e := fnOk_mk (tb := [(58, Kbb_n58)]) (c := (Tryz.f216.body).getD .skip) mixed Tryz.func216 (bC Kdj_ok (bC Ki_ok bN)) (by kernel_rfl) (by kernel_rfl) (by kernel_rfl) ⟨nodeLoop (by kernel_rfl) Kbb_s58 (by kernel_rfl) (by intro d; kernel_rfl), trivial⟩ (by intro d; kernel_rfl)
def Kbg_l25 : Bool × Bool × Int × Int × Bool → Option (Int × Int ⊕ Int)
 | (a, b, c, d, e) => bif e then some (.inl ((-1), 0)) else bif !b then some (.inl (0, 0)) else bif !a then some (.inl (1, 0)) else bif decide ((w64 (c + 1)) ≥ d) then some (.inl (1, 0)) else some (.inr c)
def Kbg_n25 : NEnt := ⟨⟨48, [⟨0, .one, [.dat .bool]⟩, ⟨1, .one, [.dat .bool]⟩, ⟨2, .one, [.dat kI]⟩, ⟨3, .one, [.dat kI]⟩, ⟨10, .one, [.dat .bool]⟩]⟩, [(.ret, ⟨48, [⟨8, .one, [.dat kI]⟩, ⟨9, .one, [.dat kI]⟩]⟩), (.normal, ⟨48, [⟨2, .one, [.dat kI]⟩]⟩)], Kbg_l25⟩
def Kbg : Bool × Bool × Int × Int → Option (Int × Int)
 | (a, b, c, d) => (Kb (c, 0, 1000)).bind fun e => bif !e then bx (Kbg_l25 (a, b, c, d, true)) (fun (f, g) => some (f, g)) fun f => some (0, w64 (f + 1)) else (Kb (d, 1, 10)).bind fun f => bif !f then bx (Kbg_l25 (a, b, c, d, true)) (fun (g, h) => some (g, h)) fun g => some (0, w64 (g + 1)) else bif !a then bx (Kbg_l25 (a, b, c, d, !b)) (fun (g, h) => some (g, h)) fun g => some (0, w64 (g + 1)) else bx (Kbg_l25 (a, b, c, d, false)) (fun (g, h) => some (g, h)) fun g => some (0, w64 (g + 1))
def Kbg_e : FEnt := ⟨40, [.tmp 8, .tmp 9], [], [(.one, [.dat .bool]), (.one, [.dat .bool]), (.one, [.dat kI]), (.one, [.dat kI])], ⟨48, [⟨8, .one, [.dat kI]⟩, ⟨9, .one, [.dat kI]⟩]⟩, Kbg⟩
theorem Kbg_ok : FnOk Tryz.prog 217 Kbg_e := fnOk_mk (tb := [(25, Kbg_n25)]) (c := (Tryz.f217.body).getD .skip) mixed Tryz.func217 (bC Kb_ok bN) (by kernel_rfl) (by kernel_rfl) (by kernel_rfl) ⟨nodeJoin (by kernel_rfl) (by intro d; kernel_rfl), trivial⟩ (by intro d; kernel_rfl)
def Kck : Int × Bool × List Int → Option ((Int × Bool × List Int) × Int × Bool × Unit)
 | (a, b, c) => some ((Int.tmod (w64 (a + 1)) 3, true, c), a, b, ())
def Kck_e : FEnt := ⟨10, [.cell 2 true 3], [true], [(.agg, cc31)], ⟨12, [⟨2, .box, cc31⟩, ⟨10, .agg, [.dat kI, .dat .bool, .dead]⟩]⟩, Kck⟩
theorem Kck_ok : FnOk Tryz.prog 233 Kck_e := fnOk_mk (tb := []) (c := (Tryz.f233.body).getD .skip) mixed Tryz.func233 bN (by kernel_rfl) (by kernel_rfl) (by kernel_rfl) trivial (by intro d; kernel_rfl)
def Kc_l995 : List Int × t36 → Option (t7 ⊕ List Int × t36)
 | (a, b, c, (d, e, _), f, g, h) => ix f a.length (ix f h.length (lx f h.length (bif decide ((gx a f 0) ≤ (gx h f 0)) then ix f h.length (lx f h.length (ix f a.length (ix f h.length (lx f h.length (some (.inl (f, f, g, sx h f (w64 ((gx h f 0) - (gx a f 0)))))))))) else (Kck (f, g, h)).bind fun ((i, j, k), l, m, _) => some (.inr (a, b, c, (d, e, ()), i, j, k)))))
def Kc_n995 : NEnt := ⟨⟨113, [⟨0, .one, [.dat (.list kI)]⟩, ⟨1, .one, [.dat (.list kI)]⟩, ⟨2, .one, [.dat kI]⟩, ⟨9, .box, cc33⟩, ⟨10, .box, cc31⟩]⟩, [(.ret, ⟨113, [⟨8, .one, [.dat kI]⟩, ⟨9, .box, cc31⟩]⟩), (.normal, ⟨113, [⟨0, .one, [.dat (.list kI)]⟩, ⟨1, .one, [.dat (.list kI)]⟩, ⟨2, .one, [.dat kI]⟩, ⟨9, .box, cc33⟩, ⟨10, .box, cc31⟩]⟩)], Kc_l995⟩
def Kc_s62 : List Int × t36 → Option (List Int × t36 ⊕ t7)
 | (a, b, c, (d, e, _), f, g, h) => ix f a.length (bif (gx a f 0) == 0 then ix f h.length (lx f h.length ((Kck (f, g, sx h f 0)).bind fun ((i, j, k), l, m, _) => some (.inl (a, b, c, (d, e, ()), i, j, k)))) else bif g then ix f h.length (lx f h.length (ix f b.length ((Ki (w64 ((gx h f 0) + (w64 (c * (gx b f 0)))), 1000)).bind fun i => ix f h.length (lx f h.length (bx (Kc_l995 (a, b, c, (d, e, ()), f, false, sx h f i)) (fun (j, k, l, m) => some (.inr (j, k, l, m))) fun (j, k, l, (m, n, _), o, p, q) => some (.inl (j, k, l, (m, n, ()), o, p, q))))))) else bx (Kc_l995 (a, b, c, (d, e, ()), f, g, h)) (fun (i, j, k, l) => some (.inr (i, j, k, l))) fun (i, j, k, (l, m, _), n, o, p) => some (.inl (i, j, k, (l, m, ()), n, o, p)))
def Kc_n62 : NEnt := ⟨⟨113, [⟨0, .one, [.dat (.list kI)]⟩, ⟨1, .one, [.dat (.list kI)]⟩, ⟨2, .one, [.dat kI]⟩, ⟨9, .box, cc33⟩, ⟨10, .box, cc31⟩]⟩, [(.ret, ⟨113, [⟨8, .one, [.dat kI]⟩, ⟨9, .box, cc31⟩]⟩)], lp Kc_s62⟩
def Kc : List Int × List Int × t7 → Option t7
 | (a, b, c, d, e, f) => (Kct (d, e, f)).bind fun (g, h, i) => (Kab (a, 0, 200)).bind fun j => bif !j then some ((-1), g, h, i) else (Kab (b, 1, 4)).bind fun k => bif !k then some ((-1), g, h, i) else (Kb (c, 1, 60)).bind fun l => bif !l then some ((-1), g, h, i) else (Kdd (d, e, f)).bind fun m => bif !m then some ((-1), g, h, i) else (Kab (a, 0, 0)).bind fun n => bif n then (Kdc ()).bind fun (o, p, q) => some ((-1), o, p, q) else (lp Kc_s62 (a, b, c, (0, false, ()), g, h, i)).bind fun (o, p, q, r) => some (o, p, q, r)
def Kc_e : FEnt := ⟨105, [.tmp 8, .cell 9 true 3], [], [(.one, [.dat (.list kI)]), (.one, [.dat (.list kI)]), (.one, [.dat kI]), (.agg, cc28)], ⟨113, [⟨8, .one, [.dat kI]⟩, ⟨9, .box, cc31⟩]⟩, Kc⟩
theorem Kc_ok : FnOk Tryz.prog 218 Kc_e := fnOk_mk (tb := [(995, Kc_n995), (62, Kc_n62)]) (c := (Tryz.f218.body).getD .skip) mixed Tryz.func218 (bC Kct_ok (bC Kab_ok (bC Kb_ok (bC Kdd_ok (bC Kdc_ok (bC Kck_ok (bC Ki_ok bN))))))) (by kernel_rfl) (by kernel_rfl) (by kernel_rfl) ⟨nodeJoin (by kernel_rfl) (by intro d; kernel_rfl), nodeLoop (by kernel_rfl) Kc_s62 (by kernel_rfl) (by intro d; kernel_rfl), trivial⟩ (by intro d; kernel_rfl)
def Keb : t118 → Option (Int × Int × t118)
 | (a, b, c, d, e, f, g, h, i, j, k, l, m, n, o, p) => (Ka (a, b, c, d, e, f, g, h, i, j, k, l, m, n, o, p)).bind fun (q, r, s, t, u, v, w, x, y, z, a1, b1, c1, d1, e1, f1) => (Kbb ((a, b, c, d, e, f, g, h, i, j, k, l, m, n, o, p), 0)).bind fun g1 => (Kab (g1, 0, 0)).bind fun h1 => (Kbb ((a, b, c, d, e, f, g, h, i, j, k, l, m, n, o, p), 1)).bind fun i1 => (Kab (i1, 0, 0)).bind fun j1 => (Kbg (!h1, !j1, n, c)).bind fun (k1, l1) => bif decide (k1 < 0) then some ((-1), (-1), q, r, s, t, u, v, w, x, y, z, a1, b1, c1, d1, e1, f1) else (Kbb ((a, b, c, d, e, f, g, h, i, j, k, l, m, n, o, p), k1)).bind fun m1 => ix k1 m.length ((some (gx m k1 (0, false, []))).bind fun (n1, o1, p1) => (Kc (m1, d, b, n1, o1, p1)).bind fun (q1, r1, s1, t1) => ix k1 c1.length (lx k1 c1.length (some (q1, k1, q, r, s, t, u, v, w, x, y, z, a1, b1, sx c1 k1 (r1, s1, t1), l1, e1, f1))))
def Keb_e : FEnt := ⟨64, [.tmp 2, .tmp 3, .cell 4 true 16], [], [(.agg, cc7)], ⟨66, [⟨2, .one, [.dat kI]⟩, ⟨3, .one, [.dat kI]⟩, ⟨4, .box, cc3⟩]⟩, Keb⟩
theorem Keb_ok : FnOk Tryz.prog 199 Keb_e := fnOk_mk (tb := []) (c := (Tryz.f199.body).getD .skip) mixed Tryz.func199 (bC Ka_ok (bC Kbb_ok (bC Kab_ok (bC Kbg_ok (bC Kc_ok bN))))) (by kernel_rfl) (by kernel_rfl) (by kernel_rfl) trivial (by intro d; kernel_rfl)
def Kdw : List t53 → Option (t53 × List t53 × Bool × List t53)
 | a => (Kas a).bind fun b => (Kj a).bind fun c => bif !c then some ((0, 0, [], 0, 0, 0, 0, [], [], []), b, false, a) else bif (ln a) == 0 then some ((0, 0, [], 0, 0, 0, 0, [], [], []), b, false, a) else chk (decide (0 < b.length)) (chk (decide (0 < b.length)) ((some (List.getD b 0 (0, 0, [], 0, 0, 0, 0, [], [], []))).bind fun (d, e, f, g, h, i, j, k, l, m) => chk (decide ((1 ≤ b.length) ∧ (b.length ≤ b.length))) (chk (fits (0 + (List.drop 1 b).length) 144) ((some ([] ++ (List.drop 1 b))).bind fun n => some ((d, e, f, g, h, i, j, k, l, m), n, true, a)))))
def Kdw_e : FEnt := ⟨29, [.cell 2 true 10, .cell 3 true 1, .tmp 4], [true], [(.agg, [.own true kk5])], ⟨31, [⟨2, .box, cc16⟩, ⟨3, .box, [.own false kk5]⟩, ⟨4, .one, [.dat .bool]⟩, ⟨29, .agg, [.own true kk5]⟩]⟩, Kdw⟩
theorem Kdw_ok : FnOk Tryz.prog 200 Kdw_e := fnOk_mk (tb := []) (c := (Tryz.f200.body).getD .skip) mixed Tryz.func200 (bC Kas_ok (bC Kj_ok bN)) (by kernel_rfl) (by kernel_rfl) (by kernel_rfl) trivial (by intro d; kernel_rfl)
def Kcm : Int × Int → Option Int
 | (a, b) => (Ki (a, b)).bind fun c => (Kbj (0, c)).bind fun d => some d
def Kcm_e : FEnt := ⟨9, [.tmp 4], [], [(.one, [.dat kI]), (.one, [.dat kI])], ⟨13, [⟨4, .one, [.dat kI]⟩]⟩, Kcm⟩
theorem Kcm_ok : FnOk Tryz.prog 183 Kcm_e := fnOk_mk (tb := []) (c := (Tryz.f183.body).getD .skip) mixed Tryz.func183 (bC Ki_ok (bC Kbj_ok bN)) (by kernel_rfl) (by kernel_rfl) (by kernel_rfl) trivial (by intro d; kernel_rfl)
def Kcg : Int × Int → Option Int
 | (a, b) => (Kcm (a, 1000000000)).bind fun c => (Kcm (b, 1000000000)).bind fun d => (Ki (w64 (c + d), 1000000000)).bind fun e => some e
def Kcg_e : FEnt := ⟨11, [.tmp 4], [], [(.one, [.dat kI]), (.one, [.dat kI])], ⟨15, [⟨4, .one, [.dat kI]⟩]⟩, Kcg⟩
theorem Kcg_ok : FnOk Tryz.prog 144 Kcg_e := fnOk_mk (tb := []) (c := (Tryz.f144.body).getD .skip) mixed Tryz.func144 (bC Kcm_ok (bC Ki_ok bN)) (by kernel_rfl) (by kernel_rfl) (by kernel_rfl) trivial (by intro d; kernel_rfl)
def Kbl_s58 : List Int × t3 → Option (List Int × t3 ⊕ List Int)
 | (a, b, c, d) => bif decide (d < (ln a)) then ix d a.length (ix d b.length ((Kcg (gx a d 0, gx b d 0)).bind fun e => chk (fits (c.length + [e].length) 8) (some (.inl (a, b, c ++ [e], w64 (d + 1)))))) else some (.inr c)
def Kbl_n58 : NEnt := ⟨⟨31, [⟨0, .one, [.dat (.list kI)]⟩, ⟨1, .one, [.dat (.list kI)]⟩, ⟨5, .one, [.own true kI]⟩, ⟨6, .one, [.dat kI]⟩]⟩, [(.exit 0, ⟨31, [⟨5, .one, [.own true kI]⟩]⟩)], lp Kbl_s58⟩
def Kbl : List Int × List Int → Option (List Int)
 | (a, b) => (lp Kbl_s58 (a, b, [], 0)).bind fun c => some c
def Kbl_e : FEnt := ⟨27, [.tmp 4], [], [(.one, [.dat (.list kI)]), (.one, [.dat (.list kI)])], ⟨31, [⟨4, .one, [.own true kI]⟩]⟩, Kbl⟩
theorem Kbl_ok : FnOk Tryz.prog 145 Kbl_e := fnOk_mk (tb := [(58, Kbl_n58)]) (c := (Tryz.f145.body).getD .skip) mixed Tryz.func145 (bC Kcg_ok bN) (by kernel_rfl) (by kernel_rfl) (by kernel_rfl) ⟨nodeLoop (by kernel_rfl) Kbl_s58 (by kernel_rfl) (by intro d; kernel_rfl), trivial⟩ (by intro d; kernel_rfl)
def Kk_s250 : t37 × t37 × t65 → Option (t37 × t37 × t65 ⊕ t23 × t37)
 | ((a, b, c, d, e, f, g), (h, i, j, k, l, m, n), (o, p, q, r, _, _, _), (s, t, u, v, w, x, y), z) => bif decide (z < 8) then ix z f.length (ix z m.length ((Kbj (gx f z 0, gx m z 0)).bind fun a1 => chk (fits (x.length + [a1].length) 8) (some (.inl ((a, b, c, d, e, f, g), (h, i, j, k, l, m, n), (o, p, q, r, (), (), ()), (s, t, u, v, w, x ++ [a1], y), w64 (z + 1)))))) else some (.inr ((o, p, q, r, (), (), ()), s, t, u, v, w, x, y))
def Kk_n250 : NEnt := ⟨⟨89, [⟨2, .box, cc20⟩, ⟨3, .box, cc20⟩, ⟨4, .box, cc25⟩, ⟨5, .box, cc19⟩, ⟨6, .one, [.dat kI]⟩]⟩, [(.exit 0, ⟨89, [⟨4, .box, cc25⟩, ⟨5, .box, cc19⟩]⟩)], lp Kk_s250⟩
def Kk_l31 : t37 × t37 × t23 × Int × Int × Int × Int × List Int × Unit × List (List Int) → Option t37
 | ((a, b, c, d, e, f, g), (h, i, j, k, l, m, n), (o, p, q, r, _, _, _), s, t, u, v, w, _, x) => (lp Kk_s250 ((a, b, c, d, e, f, g), (h, i, j, k, l, m, n), (o, p, q, r, (), (), ()), (s, t, u, v, w, [], x), 0)).bind fun ((y, z, a1, b1, _, _, _), c1, d1, e1, f1, g1, h1, i1) => some (c1, d1, e1, f1, g1, h1, i1)
def Kk_n31 : NEnt := ⟨⟨89, [⟨2, .box, cc20⟩, ⟨3, .box, cc20⟩, ⟨4, .box, cc25⟩, ⟨5, .box, cc22⟩]⟩, [(.ret, ⟨89, [⟨4, .box, cc19⟩]⟩)], Kk_l31⟩
def Kk_l15 : t37 × t37 × t23 × Int × Int × Int × Int × List Int × Unit × List (List Int) → Option t37
 | ((a, b, c, d, e, f, g), (h, i, j, k, l, m, n), (o, p, q, r, _, _, _), s, t, u, v, w, _, x) => bif h == 0 then (Kk_l31 ((a, b, c, d, e, f, g), (h, i, j, k, l, m, n), (o, p, q, r, (), (), ()), s, t, c, v, w, (), x)).bind fun (y, z, a1, b1, c1, d1, e1) => some (y, z, a1, b1, c1, d1, e1) else (Kk_l31 ((a, b, c, d, e, f, g), (h, i, j, k, l, m, n), (o, p, q, r, (), (), ()), s, t, u, v, w, (), x)).bind fun (y, z, a1, b1, c1, d1, e1) => some (y, z, a1, b1, c1, d1, e1)
def Kk_n15 : NEnt := ⟨⟨89, [⟨2, .box, cc20⟩, ⟨3, .box, cc20⟩, ⟨4, .box, cc25⟩, ⟨5, .box, cc22⟩]⟩, [(.ret, ⟨89, [⟨4, .box, cc19⟩]⟩)], Kk_l15⟩
def Kk : t37 × t37 → Option t37
 | ((a, b, c, d, e, f, g), h, i, j, k, l, m, n) => (Kcg (a, h)).bind fun o => (Kcg (b, i)).bind fun p => (Ki (c, j)).bind fun q => (Kbj (d, k)).bind fun r => (Kbl (e, l)).bind fun s => chk (decide (0 < g.length)) (chk (decide (0 < n.length)) ((Kbl (List.getD g 0 [], List.getD n 0 [])).bind fun t => chk (decide (1 < g.length)) (chk (decide (1 < n.length)) ((Kbl (List.getD g 1 [], List.getD n 1 [])).bind fun u => bif a == 0 then (Kk_l15 ((a, b, c, d, e, f, g), (h, i, j, k, l, m, n), (0, 0, 0, 0, (), (), ()), o, p, j, r, s, (), [t, u])).bind fun (v, w, x, y, z, a1, b1) => some (v, w, x, y, z, a1, b1) else (Kk_l15 ((a, b, c, d, e, f, g), (h, i, j, k, l, m, n), (0, 0, 0, 0, (), (), ()), o, p, q, r, s, (), [t, u])).bind fun (v, w, x, y, z, a1, b1) => some (v, w, x, y, z, a1, b1)))))
def Kk_e : FEnt := ⟨85, [.cell 4 true 7], [], [(.agg, cc20), (.agg, cc20)], ⟨89, [⟨4, .box, cc19⟩]⟩, Kk⟩
theorem Kk_ok : FnOk Tryz.prog 96 Kk_e := fnOk_mk (tb := [(250, Kk_n250), (31, Kk_n31), (15, Kk_n15)]) (c := (Tryz.f96.body).getD .skip) mixed Tryz.func96 (bC Kcg_ok (bC Ki_ok (bC Kbj_ok (bC Kbl_ok bN)))) (by kernel_rfl) (by kernel_rfl) (by kernel_rfl) ⟨nodeLoop (by kernel_rfl) Kk_s250 (by kernel_rfl) (by intro d; kernel_rfl), nodeJoin (by kernel_rfl) (by intro d; kernel_rfl), nodeJoin (by kernel_rfl) (by intro d; kernel_rfl), trivial⟩ (by intro d; kernel_rfl)
def Kdh : t53 × t53 → Option t53
 | ((a, b, c, d, e, f, g, h, i, j), k, l, m, n, o, p, q, r, s, t) => (Kao (c, m)).bind fun u => (Kk ((d, e, f, g, h, i, j), n, o, p, q, r, s, t)).bind fun (v, w, x, y, z, a1, b1) => some (a, b, u, v, w, x, y, z, a1, b1)
def Kdh_e : FEnt := ⟨20, [.cell 4 true 10], [], [(.agg, cc16), (.agg, cc16)], ⟨24, [⟨4, .box, cc13⟩]⟩, Kdh⟩
theorem Kdh_ok : FnOk Tryz.prog 166 Kdh_e := fnOk_mk (tb := []) (c := (Tryz.f166.body).getD .skip) mixed Tryz.func166 (bC Kao_ok (bC Kk_ok bN)) (by kernel_rfl) (by kernel_rfl) (by kernel_rfl) trivial (by intro d; kernel_rfl)
def Kt_l1865 : t88 → Option t88
 | ((_, _, _), (a, b, c, d, e, f, g, h, i, j), k, l, m) => ix l m.length (lx l m.length ((some (gx m l (0, 0, [], 0, 0, 0, 0, [], [], []))).bind fun (n, o, p, q, r, s, t, u, v, w) => bif decide (n > a) then some (((), (), ()), (a, b, c, d, e, f, g, h, i, j), l, l, m) else ix l m.length (lx l m.length ((some (gx m l (0, 0, [], 0, 0, 0, 0, [], [], []))).bind fun (x, y, z, a1, b1, c1, d1, e1, f1, g1) => bif x == a then ix l m.length (lx l m.length ((some (gx m l (0, 0, [], 0, 0, 0, 0, [], [], []))).bind fun (h1, i1, j1, k1, l1, m1, n1, o1, p1, q1) => bif decide (i1 > b) then some (((), (), ()), (a, b, c, d, e, f, g, h, i, j), l, l, m) else some (((), (), ()), (a, b, c, d, e, f, g, h, i, j), k, l, m))) else some (((), (), ()), (a, b, c, d, e, f, g, h, i, j), k, l, m)))))
def Kt_n1865 : NEnt := ⟨⟨93, [⟨0, .one, cc32⟩, ⟨3, .box, cc16⟩, ⟨5, .one, [.dat kI]⟩, ⟨6, .one, [.dat kI]⟩, ⟨89, .agg, [.own true kk5]⟩]⟩, [(.normal, ⟨93, [⟨0, .one, cc32⟩, ⟨3, .box, cc16⟩, ⟨5, .one, [.dat kI]⟩, ⟨6, .one, [.dat kI]⟩, ⟨89, .agg, [.own true kk5]⟩]⟩)], Kt_l1865⟩
def Kt_s58 : t88 → Option (t88 ⊕ t62 ⊕ (Unit × Unit × Unit) × t53 × t61)
 | ((_, _, _), (a, b, c, d, e, f, g, h, i, j), k, l, m) => bif decide (l ≥ 0) then ix l m.length (lx l m.length ((some (gx m l (0, 0, [], 0, 0, 0, 0, [], [], []))).bind fun (n, o, p, q, r, s, t, u, v, w) => bif n == a then ix l m.length (lx l m.length ((some (gx m l (0, 0, [], 0, 0, 0, 0, [], [], []))).bind fun (x, y, z, a1, b1, c1, d1, e1, f1, g1) => bif y == b then ix l m.length (lx l m.length ((some (gx m l (0, 0, [], 0, 0, 0, 0, [], [], []))).bind fun (h1, i1, j1, k1, l1, m1, n1, o1, p1, q1) => (Kdh ((h1, i1, (gx m l (0, 0, [], 0, 0, 0, 0, [], [], [])).2.2.1, k1, l1, m1, n1, (gx m l (0, 0, [], 0, 0, 0, 0, [], [], [])).2.2.2.2.2.2.2.1, (gx m l (0, 0, [], 0, 0, 0, 0, [], [], [])).2.2.2.2.2.2.2.2.1, (gx m l (0, 0, [], 0, 0, 0, 0, [], [], [])).2.2.2.2.2.2.2.2.2), a, b, c, d, e, f, g, h, i, j)).bind fun (r1, s1, t1, u1, v1, w1, x1, y1, z1, a2) => ix l m.length (lx l m.length ((some (sx m l (r1, s1, t1, u1, v1, w1, x1, y1, z1, a2))).bind fun b2 => some (.inr (.inl (b2, ()))))))) else (Kt_l1865 (((), (), ()), (a, b, c, d, e, f, g, h, i, j), k, l, m)).bind fun ((_, _, _), (h1, i1, j1, k1, l1, m1, n1, o1, p1, q1), r1, s1, t1) => some (.inl (((), (), ()), (h1, i1, j1, k1, l1, m1, n1, o1, p1, q1), r1, w64 (s1 - 1), t1)))) else (Kt_l1865 (((), (), ()), (a, b, c, d, e, f, g, h, i, j), k, l, m)).bind fun ((_, _, _), (x, y, z, a1, b1, c1, d1, e1, f1, g1), h1, i1, j1) => some (.inl (((), (), ()), (x, y, z, a1, b1, c1, d1, e1, f1, g1), h1, w64 (i1 - 1), j1)))) else some (.inr (.inr (((), (), ()), (a, b, c, d, e, f, g, h, i, j), k, m)))
def Kt_n58 : NEnt := ⟨⟨93, [⟨0, .one, cc32⟩, ⟨3, .box, cc16⟩, ⟨5, .one, [.dat kI]⟩, ⟨6, .one, [.dat kI]⟩, ⟨89, .agg, [.own true kk5]⟩]⟩, [(.ret, ⟨93, [⟨4, .one, [.own true kk5]⟩, ⟨89, .agg, [.dead]⟩]⟩), (.exit 0, ⟨93, [⟨0, .one, cc32⟩, ⟨3, .box, cc16⟩, ⟨5, .one, [.dat kI]⟩, ⟨89, .agg, [.own true kk5]⟩]⟩)], lp Kt_s58⟩
def Kt : List t53 × t53 → Option t62
 | (a, b, c, d, e, f, g, h, i, j, k) => bx (lp Kt_s58 (((), (), ()), (b, c, d, e, f, g, h, i, j, k), ln a, w64 ((ln a) - 1), a)) (fun (l, _) => some (l, ())) fun ((_, _, _), (l, m, n, o, p, q, r, s, t, u), v, w) => g0 v (chk (decide ((0 ≤ v.toNat) ∧ (v.toNat ≤ w.length))) (chk (fits (0 + (List.take v.toNat w).length) 144) ((some ([] ++ (List.take v.toNat w))).bind fun x => (Kbq (l, m, n, o, p, q, r, s, t, u)).bind fun (y, z, a1, b1, c1, d1, e1, f1, g1, h1) => (some [(y, z, a1, b1, c1, d1, e1, f1, g1, h1)]).bind fun i1 => chk (fits (x.length + i1.length) 144) ((some (x ++ i1)).bind fun j1 => g0 v (chk (decide ((v.toNat ≤ w.length) ∧ (w.length ≤ w.length))) (chk (fits (j1.length + (List.drop v.toNat w).length) 144) ((some (j1 ++ (List.drop v.toNat w))).bind fun k1 => some (k1, ()))))))))
def Kt_e : FEnt := ⟨89, [.tmp 4], [true, false], [(.one, [.own true kk5]), (.agg, cc16)], ⟨93, [⟨4, .one, [.own false kk5]⟩, ⟨89, .agg, [.dead]⟩]⟩, Kt⟩
theorem Kt_ok : FnOk Tryz.prog 123 Kt_e := fnOk_mk (tb := [(1865, Kt_n1865), (58, Kt_n58)]) (c := (Tryz.f123.body).getD .skip) mixed Tryz.func123 (bC Kdh_ok (bC Kbq_ok bN)) (by kernel_rfl) (by kernel_rfl) (by kernel_rfl) ⟨nodeJoin (by kernel_rfl) (by intro d; kernel_rfl), nodeLoop (by kernel_rfl) Kt_s58 (by kernel_rfl) (by intro d; kernel_rfl), trivial⟩ (by intro d; kernel_rfl)
def Kec : List t53 × t53 → Option t62
 | (a, b, c, d, e, f, g, h, i, j, k) => (Kt (a, b, c, d, e, f, g, h, i, j, k)).bind fun (l, _) => some (l, ())
def Kec_e : FEnt := ⟨8, [.tmp 4], [true, false], [(.one, [.own true kk5]), (.agg, cc16)], ⟨12, [⟨4, .one, [.own false kk5]⟩, ⟨8, .agg, [.dead]⟩]⟩, Kec⟩
theorem Kec_ok : FnOk Tryz.prog 201 Kec_e := fnOk_mk (tb := []) (c := (Tryz.f201.body).getD .skip) mixed Tryz.func201 (bC Kt_ok bN) (by kernel_rfl) (by kernel_rfl) (by kernel_rfl) trivial (by intro d; kernel_rfl)
def Kdx : t21 × Int × Int → Option (t21 × Bool)
 | ((a, b, c, d, e), f, g) => (Kce (a, b, c, d, e)).bind fun (h, i, j, k, l) => (Kbx ((a, b, c, d, e), f)).bind fun m => bif !m then some ((h, i, j, k, l), false) else (Kb (g, 0, 60)).bind fun n => bif !n then some ((h, i, j, k, l), false) else (Kbx ((h, i, j, w64 (d + g), l), f)).bind fun o => bif !o then (Kce (a, b, c, d, e)).bind fun (p, q, r, s, t) => some ((p, q, r, s, t), false) else some ((h, i, j, w64 (d + g), l), true)
def Kdx_e : FEnt := ⟨33, [.cell 6 true 5, .tmp 7], [], [(.agg, cc26), (.one, [.dat kI]), (.one, [.dat kI])], ⟨39, [⟨6, .box, cc24⟩, ⟨7, .one, [.dat .bool]⟩]⟩, Kdx⟩
theorem Kdx_ok : FnOk Tryz.prog 202 Kdx_e := fnOk_mk (tb := []) (c := (Tryz.f202.body).getD .skip) mixed Tryz.func202 (bC Kce_ok (bC Kbx_ok (bC Kb_ok bN))) (by kernel_rfl) (by kernel_rfl) (by kernel_rfl) trivial (by intro d; kernel_rfl)
def Kdf : t118 → Option (t118 × Bool)
 | (a, b, c, d, e, f, g, h, i, j, k, l, m, n, o, p) => (Keb (a, b, c, d, e, f, g, h, i, j, k, l, m, n, o, p)).bind fun (q, r, s, t, u, v, w, x, y, z, a1, b1, c1, d1, e1, f1, g1, h1) => bif decide (q < 0) then (Ka (a, b, c, d, e, f, g, h, i, j, k, l, m, n, o, p)).bind fun (i1, j1, k1, l1, m1, n1, o1, p1, q1, r1, s1, t1, u1, v1, w1, x1) => some ((i1, j1, k1, l1, m1, n1, o1, p1, q1, r1, s1, t1, u1, v1, w1, x1), false) else ix q d1.length (lx q d1.length (ix r (gx d1 q []).length (lx r (gx d1 q []).length ((Kdw (gx (gx d1 q []) r [])).bind fun ((i1, j1, k1, l1, m1, n1, o1, p1, q1, r1), s1, t1, u1) => (some (sx d1 q (sx (gx d1 q []) r u1))).bind fun v1 => ix q v1.length (lx q v1.length (ix r (gx v1 q []).length (lx r (gx v1 q []).length ((some (sx v1 q (sx (gx v1 q []) r s1))).bind fun w1 => (Kec (g1, i1, j1, k1, l1, m1, n1, o1, p1, q1, r1)).bind fun (x1, _) => ix q c1.length (lx q c1.length ((some (gx c1 q (0, 0, [], 0, 0))).bind fun (y1, z1, a2, b2, c2) => (Kar k1).bind fun d2 => (Kdx ((y1, z1, (gx c1 q (0, 0, [], 0, 0)).2.2.1, b2, c2), s, d2)).bind fun ((e2, f2, g2, h2, i2), j2) => bif !b1 then (Kcs ((e2, f2, g2, h2, i2), s)).bind fun (k2, l2, m2, n2, o2) => ix q c1.length (lx q c1.length ((some (sx c1 q (k2, l2, m2, n2, o2))).bind fun p2 => some ((s, t, u, v, w, x, y, z, a1, b1, p2, w1, e1, f1, x1, h1), true))) else ix q c1.length (lx q c1.length ((some (sx c1 q (e2, f2, g2, h2, i2))).bind fun k2 => some ((s, t, u, v, w, x, y, z, a1, b1, k2, w1, e1, f1, x1, h1), true)))))))))))))
def Kdf_e : FEnt := ⟨77, [.cell 2 true 16, .tmp 3], [], [(.agg, cc7)], ⟨79, [⟨2, .box, cc1⟩, ⟨3, .one, [.dat .bool]⟩]⟩, Kdf⟩
theorem Kdf_ok : FnOk Tryz.prog 158 Kdf_e := fnOk_mk (tb := []) (c := (Tryz.f158.body).getD .skip) mixed Tryz.func158 (bC Keb_ok (bC Ka_ok (bC Kdw_ok (bC Kec_ok (bC Kar_ok (bC Kdx_ok (bC Kcs_ok bN))))))) (by kernel_rfl) (by kernel_rfl) (by kernel_rfl) trivial (by intro d; kernel_rfl)
def Kdv : t118 → Option (t118 × Bool)
 | (a, b, c, d, e, f, g, h, i, j, k, l, m, n, o, p) => (Kd (a, b, c, d, e, f, g, h, i, j, k, l, m, n, o, p)).bind fun q => bif !q then (Ka (a, b, c, d, e, f, g, h, i, j, k, l, m, n, o, p)).bind fun (r, s, t, u, v, w, x, y, z, a1, b1, c1, d1, e1, f1, g1) => some ((r, s, t, u, v, w, x, y, z, a1, b1, c1, d1, e1, f1, g1), false) else (Kdf (a, b, c, d, e, f, g, h, i, j, k, l, m, n, o, p)).bind fun ((r, s, t, u, v, w, x, y, z, a1, b1, c1, d1, e1, f1, g1), h1) => some ((r, s, t, u, v, w, x, y, z, a1, b1, c1, d1, e1, f1, g1), h1)
def Kdv_e : FEnt := ⟨13, [.cell 2 true 16, .tmp 3], [], [(.agg, cc7)], ⟨15, [⟨2, .box, cc1⟩, ⟨3, .one, [.dat .bool]⟩]⟩, Kdv⟩
theorem Kdv_ok : FnOk Tryz.prog 152 Kdv_e := fnOk_mk (tb := []) (c := (Tryz.f152.body).getD .skip) mixed Tryz.func152 (bC Kd_ok (bC Ka_ok (bC Kdf_ok bN))) (by kernel_rfl) (by kernel_rfl) (by kernel_rfl) trivial (by intro d; kernel_rfl)
def Kdr : t31 × Int → Option Int
 | ((a, b, c, d, e, f, g, h), i) => (Kcq (a, b, c, d, e, f, g, h)).bind fun j => bif !j then some (-1) else (Kb (i, 0, 20)).bind fun k => bif !k then some (-1) else some (w64 ((w64 (f * (w64 (i + 1)))) + g))
def Kdr_e : FEnt := ⟨21, [.tmp 4], [], [(.agg, cc21), (.one, [.dat kI])], ⟨25, [⟨4, .one, [.dat kI]⟩]⟩, Kdr⟩
theorem Kdr_ok : FnOk Tryz.prog 198 Kdr_e := fnOk_mk (tb := []) (c := (Tryz.f198.body).getD .skip) mixed Tryz.func198 (bC Kcq_ok (bC Kb_ok bN)) (by kernel_rfl) (by kernel_rfl) (by kernel_rfl) trivial (by intro d; kernel_rfl)
def Kbi_s122 : Bool × t118 × t56 × t122 → Option (Bool × t118 × t56 × t122 ⊕ t56 × t118 × List t53)
 | (a, (b, c, d, e, f, g, h, i, j, k, l, m, n, o, p, q), (r, s, t, _, u, v, w, x, y, z, _, _, _, a1, _, _), (b1, c1, d1, e1, f1, g1, h1, i1, j1, k1, l1, m1, n1, o1, p1, q1), r1, s1) => (some (decide (s1 < (ln p1)))).bind fun t1 => bif t1 then ix s1 p1.length (lx s1 p1.length ((some (gx p1 s1 (0, 0, [], 0, 0, 0, 0, [], [], []))).bind fun (u1, v1, w1, x1, y1, z1, a2, b2, c2, d2) => bif a then (Kaz (q1, u1, v1)).bind fun e2 => (some [(e2, u1, v1, w1, x1, y1, z1, a2, b2, c2, d2)]).bind fun f2 => chk (fits (q1.length + f2.length) 152) ((some (q1 ++ f2)).bind fun g2 => some (.inl (a, (b, c, d, e, f, g, h, i, j, k, l, m, n, o, p, q), (r, s, t, (), u, v, w, x, y, z, (), (), (), a1, (), ()), (b1, c1, d1, e1, f1, g1, h1, i1, j1, k1, l1, m1, n1, o1, p1, g2), r1, w64 (s1 + 1)))) else (Kdr ((b, c, d, e, f, g, h, i), v1)).bind fun e2 => bif decide (e2 ≤ j) then (Kaz (q1, u1, v1)).bind fun f2 => (some [(f2, u1, v1, w1, x1, y1, z1, a2, b2, c2, d2)]).bind fun g2 => chk (fits (q1.length + g2.length) 152) ((some (q1 ++ g2)).bind fun h2 => some (.inl (a, (b, c, d, e, f, g, h, i, j, k, l, m, n, o, p, q), (r, s, t, (), u, v, w, x, y, z, (), (), (), a1, (), ()), (b1, c1, d1, e1, f1, g1, h1, i1, j1, k1, l1, m1, n1, o1, p1, h2), r1, w64 (s1 + 1)))) else (some [(u1, v1, w1, x1, y1, z1, a2, b2, c2, d2)]).bind fun f2 => chk (fits (r1.length + f2.length) 144) ((some (r1 ++ f2)).bind fun g2 => some (.inl (a, (b, c, d, e, f, g, h, i, j, k, l, m, n, o, p, q), (r, s, t, (), u, v, w, x, y, z, (), (), (), a1, (), ()), (b1, c1, d1, e1, f1, g1, h1, i1, j1, k1, l1, m1, n1, o1, p1, q1), g2, w64 (s1 + 1)))))) else some (.inr ((r, s, t, (), u, v, w, x, y, z, (), (), (), a1, (), ()), (b1, c1, d1, e1, f1, g1, h1, i1, j1, k1, l1, m1, n1, o1, p1, q1), r1))
def Kbi_n122 : NEnt := ⟨⟨60, [⟨1, .one, [.dat .bool]⟩, ⟨2, .box, cc7⟩, ⟨4, .box, cc12⟩, ⟨5, .box, cc2⟩, ⟨6, .one, [.own false kk5]⟩, ⟨7, .one, [.dat kI]⟩]⟩, [(.exit 0, ⟨60, [⟨4, .box, cc12⟩, ⟨5, .box, cc2⟩, ⟨6, .one, [.own false kk5]⟩]⟩)], lp Kbi_s122⟩
def Kbi : t118 × Bool → Option t118
 | ((a, b, c, d, e, f, g, h, i, j, k, l, m, n, o, p), q) => (Ka (a, b, c, d, e, f, g, h, i, j, k, l, m, n, o, p)).bind fun (r, s, t, u, v, w, x, y, z, a1, b1, c1, d1, e1, f1, g1) => (lp Kbi_s122 (q, (a, b, c, d, e, f, g, h, i, j, k, l, m, n, o, p), (0, 0, 0, (), 0, 0, 0, 0, 0, false, (), (), (), 0, (), ()), (r, s, t, u, v, w, x, y, z, a1, b1, c1, d1, e1, f1, g1), [], 0)).bind fun ((h1, i1, j1, _, k1, l1, m1, n1, o1, p1, _, _, _, q1, _, _), (r1, s1, t1, u1, v1, w1, x1, y1, z1, a2, b2, c2, d2, e2, f2, g2), h2) => some (r1, s1, t1, u1, v1, w1, x1, y1, z1, a2, b2, c2, d2, e2, h2, g2)
def Kbi_e : FEnt := ⟨56, [.cell 4 true 16], [], [(.agg, cc7), (.one, [.dat .bool])], ⟨60, [⟨4, .box, cc2⟩]⟩, Kbi⟩
theorem Kbi_ok : FnOk Tryz.prog 157 Kbi_e := fnOk_mk (tb := [(122, Kbi_n122)]) (c := (Tryz.f157.body).getD .skip) mixed Tryz.func157 (bC Ka_ok (bC Kdr_ok (bC Kaz_ok bN))) (by kernel_rfl) (by kernel_rfl) (by kernel_rfl) ⟨nodeLoop (by kernel_rfl) Kbi_s122 (by kernel_rfl) (by intro d; kernel_rfl), trivial⟩ (by intro d; kernel_rfl)
def Ked : List (Int × Int) → Option Int
 | a => bif (ln a) == 0 then some 0 else ix (w64 ((ln a) - 1)) a.length ((some (gx a (w64 ((ln a) - 1)) (0, 0))).bind fun (b, c) => some c)
def Ked_e : FEnt := ⟨13, [.tmp 2], [], [(.one, [.dat kk10])], ⟨15, [⟨2, .one, [.dat kI]⟩]⟩, Ked⟩
theorem Ked_ok : FnOk Tryz.prog 187 Ked_e := fnOk_mk (tb := []) (c := (Tryz.f187.body).getD .skip) mixed Tryz.func187 bN (by kernel_rfl) (by kernel_rfl) (by kernel_rfl) trivial (by intro d; kernel_rfl)
def Kdy : t21 × Int → Option t21
 | ((a, b, c, d, e), f) => (Kce (a, b, c, d, e)).bind fun (g, h, i, j, k) => (Kbx ((a, b, c, d, e), f)).bind fun l => bif !l then some (g, h, i, j, k) else bif a == 1000 then some (g, h, i, j, k) else bif decide ((ln c) > 0) then ix (w64 ((ln c) - 1)) c.length ((some (gx c (w64 ((ln c) - 1)) (0, 0))).bind fun (m, n) => some (w64 (a + 1), n, i, j, k)) else some (w64 (a + 1), 0, i, j, k)
def Kdy_e : FEnt := ⟨38, [.cell 4 true 5], [], [(.agg, cc26), (.one, [.dat kI])], ⟨42, [⟨4, .box, cc24⟩]⟩, Kdy⟩
theorem Kdy_ok : FnOk Tryz.prog 188 Kdy_e := fnOk_mk (tb := []) (c := (Tryz.f188.body).getD .skip) mixed Tryz.func188 (bC Kce_ok (bC Kbx_ok bN)) (by kernel_rfl) (by kernel_rfl) (by kernel_rfl) trivial (by intro d; kernel_rfl)
def Kbp_s506 : t56 × t119 → Option (t56 × t119 ⊕ t56 × t118)
 | ((a, b, c, _, d, e, f, g, h, i, _, _, _, j, _, _), (k, l, m, n, o, p, q, r, s, t, u, v, w, x, y, z), a1) => bif decide (a1 < 3) then bif !t then ix a1 u.length (lx a1 u.length ((some (gx u a1 (0, 0, [], 0, 0))).bind fun (b1, c1, d1, e1, f1) => bif decide ((w64 (s - f1)) > r) then (Ked (gx u a1 (0, 0, [], 0, 0)).2.2.1).bind fun g1 => bif decide (c1 > g1) then (Kdy ((b1, c1, (gx u a1 (0, 0, [], 0, 0)).2.2.1, e1, f1), k)).bind fun (h1, i1, j1, k1, l1) => ix a1 u.length (lx a1 u.length ((some (sx u a1 (h1, i1, j1, k1, s))).bind fun m1 => some (.inl ((a, b, c, (), d, e, f, g, h, i, (), (), (), j, (), ()), (k, l, m, n, o, p, q, r, s, t, m1, v, w, x, y, z), w64 (a1 + 1))))) else some (.inl ((a, b, c, (), d, e, f, g, h, i, (), (), (), j, (), ()), (k, l, m, n, o, p, q, r, s, t, u, v, w, x, y, z), w64 (a1 + 1))) else some (.inl ((a, b, c, (), d, e, f, g, h, i, (), (), (), j, (), ()), (k, l, m, n, o, p, q, r, s, t, u, v, w, x, y, z), w64 (a1 + 1))))) else some (.inr ((a, b, c, (), d, e, f, g, h, i, (), (), (), j, (), ()), k, l, m, n, o, p, q, r, s, t, u, v, w, x, y, z)) else some (.inr ((a, b, c, (), d, e, f, g, h, i, (), (), (), j, (), ()), k, l, m, n, o, p, q, r, s, t, u, v, w, x, y, z))
def Kbp_n506 : NEnt := ⟨⟨70, [⟨2, .box, cc12⟩, ⟨3, .box, cc2⟩, ⟨4, .one, [.dat kI]⟩]⟩, [(.exit 0, ⟨70, [⟨2, .box, cc12⟩, ⟨3, .box, cc2⟩]⟩)], lp Kbp_s506⟩
def Kbp : t118 → Option t118
 | (a, b, c, d, e, f, g, h, i, j, k, l, m, n, o, p) => (Ka (a, b, c, d, e, f, g, h, i, j, k, l, m, n, o, p)).bind fun (q, r, s, t, u, v, w, x, y, z, a1, b1, c1, d1, e1, f1) => (Kd (a, b, c, d, e, f, g, h, i, j, k, l, m, n, o, p)).bind fun g1 => bif !g1 then some (q, r, s, t, u, v, w, x, y, z, a1, b1, c1, d1, e1, f1) else bif i == 100000 then some (q, r, s, t, u, v, w, x, y, z, a1, b1, c1, d1, e1, f1) else (Kbi ((q, r, s, t, u, v, w, x, w64 (y + 1), z, a1, b1, c1, d1, e1, f1), false)).bind fun (h1, i1, j1, k1, l1, m1, n1, o1, p1, q1, r1, s1, t1, u1, v1, w1) => (lp Kbp_s506 ((0, 0, 0, (), 0, 0, 0, 0, 0, false, (), (), (), 0, (), ()), (h1, i1, j1, k1, l1, m1, n1, o1, p1, q1, r1, s1, t1, u1, v1, w1), 0)).bind fun ((x1, y1, z1, _, a2, b2, c2, d2, e2, f2, _, _, _, g2, _, _), h2, i2, j2, k2, l2, m2, n2, o2, p2, q2, r2, s2, t2, u2, v2, w2) => some (h2, i2, j2, k2, l2, m2, n2, o2, p2, q2, r2, s2, t2, u2, v2, w2)
def Kbp_e : FEnt := ⟨68, [.cell 2 true 16], [], [(.agg, cc7)], ⟨70, [⟨2, .box, cc2⟩]⟩, Kbp⟩
theorem Kbp_ok : FnOk Tryz.prog 153 Kbp_e := fnOk_mk (tb := [(506, Kbp_n506)]) (c := (Tryz.f153.body).getD .skip) mixed Tryz.func153 (bC Ka_ok (bC Kd_ok (bC Kbi_ok (bC Ked_ok (bC Kdy_ok bN))))) (by kernel_rfl) (by kernel_rfl) (by kernel_rfl) ⟨nodeLoop (by kernel_rfl) Kbp_s506 (by kernel_rfl) (by intro d; kernel_rfl), trivial⟩ (by intro d; kernel_rfl)
def Kbm_s122 : Unit × List Int × Int × t4 → Option (Unit × List Int × Int × t4 ⊕ t12)
 | (_, a, b, c, d, e, f) => bif decide (c < b) then (Kcl (d, e, f)).bind fun (g, h, i, j) => (some [0, 1, 7, 8, 100, 5000, 1000000, g, 1000001, (-1)]).bind fun k => (Ks ((h, i, j), k)).bind fun (l, m, n, o) => chk (fits (a.length + [l].length) 8) (some (.inl ((), a ++ [l], b, w64 (c + 1), m, n, o))) else some (.inr (a, d, e, f))
def Kbm_n122 : NEnt := ⟨⟨25, [⟨0, .one, [.bptr 24 0]⟩, ⟨3, .one, [.own true kI]⟩, ⟨4, .one, [.dat kI]⟩, ⟨5, .one, [.dat kI]⟩, ⟨24, .box, cc30⟩]⟩, [(.exit 0, ⟨25, [⟨3, .one, [.own true kI]⟩, ⟨24, .box, cc30⟩]⟩)], lp Kbm_s122⟩
def Kbm : List Int × Int × Int → Option t12
 | (a, b, c) => (Ke ((a, b, c), 6)).bind fun (d, e, f, g) => (lp Kbm_s122 ((), [], d, 0, e, f, g)).bind fun (h, i, j, k) => some (h, i, j, k)
def Kbm_e : FEnt := ⟨23, [.tmp 2], [true], [(.box, cc30)], ⟨25, [⟨2, .one, [.own true kI]⟩, ⟨24, .box, cc30⟩]⟩, Kbm⟩
theorem Kbm_ok : FnOk Tryz.prog 190 Kbm_e := fnOk_mk (tb := [(122, Kbm_n122)]) (c := (Tryz.f190.body).getD .skip) mixed Tryz.func190 (bC Ke_ok (bC Kcl_ok (bC Ks_ok bN))) (by kernel_rfl) (by kernel_rfl) (by kernel_rfl) ⟨nodeLoop (by kernel_rfl) Kbm_s122 (by kernel_rfl) (by intro d; kernel_rfl), trivial⟩ (by intro d; kernel_rfl)
def Kei : Unit → Option t37
 | _ => some (0, 0, 0, 0, List.replicate 8 0, List.replicate 8 0, [List.replicate 4 0, List.replicate 4 0])
def Kei_e : FEnt := ⟨7, [.cell 0 true 7], [], [], ⟨7, [⟨0, .box, cc19⟩]⟩, Kei⟩
theorem Kei_ok : FnOk Tryz.prog 95 Kei_e := fnOk_mk (tb := []) (c := (Tryz.f95.body).getD .skip) mixed Tryz.func95 bN (by kernel_rfl) (by kernel_rfl) (by kernel_rfl) trivial (by intro d; kernel_rfl)
def Kbn_s60 : Int × Int → Option (Int × Int ⊕ Int)
 | (a, b) => bif decide (a > 0) then some (.inl (w64 (Int.tdiv a 2), w64 (b + 1))) else some (.inr b)
def Kbn_n60 : NEnt := ⟨⟨18, [⟨3, .one, [.dat kI]⟩, ⟨4, .one, [.dat kI]⟩]⟩, [(.exit 0, ⟨18, [⟨4, .one, [.dat kI]⟩]⟩)], lp Kbn_s60⟩
def Kbn : Int → Option Int
 | a => (Kcm (a, 1000000)).bind fun b => (lp Kbn_s60 (b, 0)).bind fun c => some (w64 (Int.tdiv (w64 (c + 2)) 3))
def Kbn_e : FEnt := ⟨16, [.tmp 2], [], [(.one, [.dat kI])], ⟨18, [⟨2, .one, [.dat kI]⟩]⟩, Kbn⟩
theorem Kbn_ok : FnOk Tryz.prog 229 Kbn_e := fnOk_mk (tb := [(60, Kbn_n60)]) (c := (Tryz.f229.body).getD .skip) mixed Tryz.func229 (bC Kcm_ok bN) (by kernel_rfl) (by kernel_rfl) (by kernel_rfl) ⟨nodeLoop (by kernel_rfl) Kbn_s60 (by kernel_rfl) (by intro d; kernel_rfl), trivial⟩ (by intro d; kernel_rfl)
def Kcw : Int → Option Int
 | a => (Kcm (a, 1000000)).bind fun b => (some (w64 (Int.ofNat (BitVec.toNat (BitVec.ofInt (64 : Nat) (Int.tmod (IntKind.wrap IntKind.i64 (IntKind.wrap IntKind.i64 (b * (40503 : Int)) + (12345 : Int))) (65536 : Int)) ^^^ BitVec.ofInt (64 : Nat) (IntKind.wrap IntKind.i64 (Int.tdiv (Int.tmod (IntKind.wrap IntKind.i64 (IntKind.wrap IntKind.i64 (b * (40503 : Int)) + (12345 : Int))) (65536 : Int)) (256 : Int)))))))).bind fun c => some c
def Kcw_e : FEnt := ⟨13, [.tmp 2], [], [(.one, [.dat kI])], ⟨15, [⟨2, .one, [.dat kI]⟩]⟩, Kcw⟩
theorem Kcw_ok : FnOk Tryz.prog 230 Kcw_e := fnOk_mk (tb := []) (c := (Tryz.f230.body).getD .skip) mixed Tryz.func230 (bC Kcm_ok bN) (by kernel_rfl) (by kernel_rfl) (by kernel_rfl) trivial (by intro d; kernel_rfl)
def Kcj_s124 : Int × Int → Option (Int × Int ⊕ Int)
 | (a, b) => bif (Int.tmod a 2) == 0 then some (.inl (w64 (Int.tdiv a 2), w64 (b + 1))) else some (.inr b)
def Kcj_n124 : NEnt := ⟨⟨19, [⟨3, .one, [.dat kI]⟩, ⟨4, .one, [.dat kI]⟩]⟩, [(.exit 0, ⟨19, [⟨4, .one, [.dat kI]⟩]⟩)], lp Kcj_s124⟩
def Kcj : Int → Option Int
 | a => (Kcw a).bind fun b => bif b == 0 then some 17 else (lp Kcj_s124 (b, 1)).bind fun c => some c
def Kcj_e : FEnt := ⟨17, [.tmp 2], [], [(.one, [.dat kI])], ⟨19, [⟨2, .one, [.dat kI]⟩]⟩, Kcj⟩
theorem Kcj_ok : FnOk Tryz.prog 231 Kcj_e := fnOk_mk (tb := [(124, Kcj_n124)]) (c := (Tryz.f231.body).getD .skip) mixed Tryz.func231 (bC Kcw_ok bN) (by kernel_rfl) (by kernel_rfl) (by kernel_rfl) ⟨nodeLoop (by kernel_rfl) Kcj_s124 (by kernel_rfl) (by intro d; kernel_rfl), trivial⟩ (by intro d; kernel_rfl)
def Kz_s32762 : Int × t65 → Option (Int × t65 ⊕ t23 × t37)
 | (a, (b, c, d, e, _, _, _), (f, g, h, i, j, k, l), m) => bif decide (m < 2) then (Kcw a).bind fun n => ix m l.length (lx m l.length (ix m l.length (lx m l.length (ix (Int.tmod (w64 (n + m)) 4) (gx l m []).length (lx (Int.tmod (w64 (n + m)) 4) (gx l m []).length ((Kcg (gx (gx l m []) (Int.tmod (w64 (n + m)) 4) 0, 1)).bind fun o => ix (Int.tmod (w64 (n + m)) 4) (gx l m []).length (lx (Int.tmod (w64 (n + m)) 4) (gx l m []).length (some (.inl (a, (b, c, d, e, (), (), ()), (f, g, h, i, j, k, sx l m (sx (gx l m []) (Int.tmod (w64 (n + m)) 4) o)), w64 (m + 1))))))))))) else some (.inr ((b, c, d, e, (), (), ()), f, g, h, i, j, k, l))
def Kz_n32762 : NEnt := ⟨⟨102, [⟨1, .one, [.dat kI]⟩, ⟨4, .box, cc25⟩, ⟨6, .box, cc19⟩, ⟨8, .one, [.dat kI]⟩]⟩, [(.exit 0, ⟨102, [⟨4, .box, cc25⟩, ⟨6, .box, cc19⟩]⟩)], lp Kz_s32762⟩
def Kz_l255 : Int × t37 × t23 × t37 → Option (t37 × Bool)
 | (a, (b, c, d, e, f, g, h), (i, j, k, l, _, _, _), m, n, o, p, q, r, s) => (Kbj (e, a)).bind fun t => (Kbn a).bind fun u => (Kbn a).bind fun v => ix v q.length (lx v q.length ((Kcg (gx q v 0, 1)).bind fun w => ix u q.length (lx u q.length ((Kcw a).bind fun x => ix (Int.tmod x 8) r.length (lx (Int.tmod x 8) r.length ((Kcj a).bind fun y => (Kbj (gx r (Int.tmod x 8) 0, y)).bind fun z => ix (Int.tmod x 8) r.length (lx (Int.tmod x 8) r.length ((lp Kz_s32762 (a, (i, j, k, l, (), (), ()), (m, n, o, t, sx q u w, sx r (Int.tmod x 8) z, s), 0)).bind fun ((a1, b1, c1, d1, _, _, _), e1, f1, g1, h1, i1, j1, k1) => some ((e1, f1, g1, h1, i1, j1, k1), true)))))))))
def Kz_n255 : NEnt := ⟨⟨102, [⟨1, .one, [.dat kI]⟩, ⟨2, .box, cc20⟩, ⟨4, .box, cc25⟩, ⟨6, .box, cc19⟩]⟩, [(.ret, ⟨102, [⟨4, .box, cc19⟩, ⟨5, .one, [.dat .bool]⟩]⟩)], Kz_l255⟩
def Kz : t42 → Option (t37 × Bool)
 | ((a, b, c, d, e, f, g), h) => (Kau (a, b, c, d, e, f, g)).bind fun (i, j, k, l, m, n, o) => (Kag (a, b, c, d, e, f, g)).bind fun p => bif !p then some ((i, j, k, l, m, n, o), false) else (Kb (h, 0, 1000000)).bind fun q => bif !q then some ((i, j, k, l, m, n, o), false) else (Kcg (a, 1)).bind fun r => (Kcg (b, h)).bind fun s => (Ki (c, h)).bind fun t => bif a == 0 then (Kz_l255 (h, (a, b, c, d, e, f, g), (0, 0, 0, 0, (), (), ()), r, s, h, l, m, n, o)).bind fun ((u, v, w, x, y, z, a1), b1) => some ((u, v, w, x, y, z, a1), b1) else (Kz_l255 (h, (a, b, c, d, e, f, g), (0, 0, 0, 0, (), (), ()), r, s, t, l, m, n, o)).bind fun ((u, v, w, x, y, z, a1), b1) => some ((u, v, w, x, y, z, a1), b1)
def Kz_e : FEnt := ⟨98, [.cell 4 true 7, .tmp 5], [], [(.agg, cc20), (.one, [.dat kI])], ⟨102, [⟨4, .box, cc19⟩, ⟨5, .one, [.dat .bool]⟩]⟩, Kz⟩
theorem Kz_ok : FnOk Tryz.prog 212 Kz_e := fnOk_mk (tb := [(32762, Kz_n32762), (255, Kz_n255)]) (c := (Tryz.f212.body).getD .skip) mixed Tryz.func212 (bC Kau_ok (bC Kag_ok (bC Kb_ok (bC Kcg_ok (bC Ki_ok (bC Kbj_ok (bC Kbn_ok (bC Kcw_ok (bC Kcj_ok bN))))))))) (by kernel_rfl) (by kernel_rfl) (by kernel_rfl) ⟨nodeLoop (by kernel_rfl) Kz_s32762 (by kernel_rfl) (by intro d; kernel_rfl), nodeJoin (by kernel_rfl) (by intro d; kernel_rfl), trivial⟩ (by intro d; kernel_rfl)
def Kbh_s58 : List Int × t65 → Option (List Int × t65 ⊕ t23 × t37)
 | (a, (b, c, d, e, _, _, _), (f, g, h, i, j, k, l), m) => bif decide (m < (ln a)) then ix m a.length ((Kz ((f, g, h, i, j, k, l), gx a m 0)).bind fun ((n, o, p, q, r, s, t), u) => some (.inl (a, (b, c, d, e, (), (), ()), (n, o, p, q, r, s, t), w64 (m + 1)))) else some (.inr ((b, c, d, e, (), (), ()), f, g, h, i, j, k, l))
def Kbh_n58 : NEnt := ⟨⟨24, [⟨0, .one, [.dat (.list kI)]⟩, ⟨2, .box, cc25⟩, ⟨3, .box, cc19⟩, ⟨4, .one, [.dat kI]⟩]⟩, [(.exit 0, ⟨24, [⟨2, .box, cc25⟩, ⟨3, .box, cc19⟩]⟩)], lp Kbh_s58⟩
def Kbh : List Int → Option t37
 | a => (Kei ()).bind fun (b, c, d, e, f, g, h) => (lp Kbh_s58 (a, (0, 0, 0, 0, (), (), ()), (b, c, d, e, f, g, h), 0)).bind fun ((i, j, k, l, _, _, _), m, n, o, p, q, r, s) => some (m, n, o, p, q, r, s)
def Kbh_e : FEnt := ⟨22, [.cell 2 true 7], [], [(.one, [.dat (.list kI)])], ⟨24, [⟨2, .box, cc19⟩]⟩, Kbh⟩
theorem Kbh_ok : FnOk Tryz.prog 189 Kbh_e := fnOk_mk (tb := [(58, Kbh_n58)]) (c := (Tryz.f189.body).getD .skip) mixed Tryz.func189 (bC Kei_ok (bC Kz_ok bN)) (by kernel_rfl) (by kernel_rfl) (by kernel_rfl) ⟨nodeLoop (by kernel_rfl) Kbh_s58 (by kernel_rfl) (by intro d; kernel_rfl), trivial⟩ (by intro d; kernel_rfl)
def Kcu : List Int × Int × Int → Option (t49 × List Int × Int × Int)
 | (a, b, c) => (Ke ((a, b, c), 8)).bind fun (d, e, f, g) => (Ke ((e, f, g), 2)).bind fun (h, i, j, k) => (Ke ((i, j, k), 2)).bind fun (l, m, n, o) => (Ke ((m, n, o), 3)).bind fun (p, q, r, s) => (Kbm (q, r, s)).bind fun (t, u, v, w) => (Kbh t).bind fun (x, y, z, a1, b1, c1, d1) => some ((w64 (1 + d), h, l, p, x, y, z, a1, b1, c1, d1), u, v, w)
def Kcu_e : FEnt := ⟨16, [.cell 2 true 11], [true], [(.box, cc30)], ⟨18, [⟨2, .box, [.dat kI, .dat kI, .dat kI, .dat kI, .dat kI, .dat kI, .dat kI, .dat kI, .own true kI, .own true kI, .own true (.list kI)]⟩, ⟨17, .box, cc30⟩]⟩, Kcu⟩
theorem Kcu_ok : FnOk Tryz.prog 154 Kcu_e := fnOk_mk (tb := []) (c := (Tryz.f154.body).getD .skip) mixed Tryz.func154 (bC Ke_ok (bC Kbm_ok (bC Kbh_ok bN))) (by kernel_rfl) (by kernel_rfl) (by kernel_rfl) trivial (by intro d; kernel_rfl)
def Kcr : t49 → Option Bool
 | (a, b, c, d, e, f, g, h, i, j, k) => (Kb (a, 1, 60)).bind fun l => bif l then (Kb (b, 0, 1)).bind fun m => bif m then (Kcz (c, d)).bind fun n => bif n then (Kag (e, f, g, h, i, j, k)).bind fun o => some o else some false else some false else some false
def Kcr_e : FEnt := ⟨23, [.tmp 2], [], [(.agg, cc15)], ⟨25, [⟨2, .one, [.dat .bool]⟩]⟩, Kcr⟩
theorem Kcr_ok : FnOk Tryz.prog 204 Kcr_e := fnOk_mk (tb := []) (c := (Tryz.f204.body).getD .skip) mixed Tryz.func204 (bC Kb_ok (bC Kcz_ok (bC Kag_ok bN))) (by kernel_rfl) (by kernel_rfl) (by kernel_rfl) trivial (by intro d; kernel_rfl)
def Kej : t49 → Option Bool
 | (a, b, c, d, e, f, g, h, i, j, k) => bif a == 0 then bif b == 0 then bif c == 0 then bif d == 0 then bif e == 0 then bif f == 0 then bif g == 0 then bif h == 0 then bif (ln i) == 0 then bif (ln j) == 0 then some ((ln k) == 0) else some false else some false else some false else some false else some false else some false else some false else some false else some false else some false
def Kej_e : FEnt := ⟨62, [.tmp 2], [], [(.agg, cc15)], ⟨64, [⟨2, .one, [.dat .bool]⟩]⟩, Kej⟩
theorem Kej_ok : FnOk Tryz.prog 213 Kej_e := fnOk_mk (tb := []) (c := (Tryz.f213.body).getD .skip) mixed Tryz.func213 bN (by kernel_rfl) (by kernel_rfl) (by kernel_rfl) trivial (by intro d; kernel_rfl)
def Kch_s58 : t70 × Int → Option (t70 × Int ⊕ Bool ⊕ t70)
 | ((a, b, c, d, e, f, g, h, i, j, k, l, m, n, o, p), q) => bif decide (q < (ln e)) then ix q e.length ((some (gx e q (0, 0))).bind fun (r, s) => bif decide (r < 1) then some (.inr (.inl false)) else ix q e.length ((some (gx e q (0, 0))).bind fun (t, u) => bif decide (u > 60) then some (.inr (.inl false)) else some (.inl ((a, b, c, d, e, f, g, h, i, j, k, l, m, n, o, p), w64 (q + 1))))) else some (.inr (.inr (a, b, c, d, e, f, g, h, i, j, k, l, m, n, o, p)))
def Kch_n58 : NEnt := ⟨⟨66, [⟨1, .box, cc6⟩, ⟨3, .one, [.dat kI]⟩]⟩, [(.ret, ⟨66, [⟨2, .one, [.dat .bool]⟩]⟩), (.exit 0, ⟨66, [⟨1, .box, cc6⟩]⟩)], lp Kch_s58⟩
def Kch : t70 → Option Bool
 | (a, b, c, d, e, f, g, h, i, j, k, l, m, n, o, p) => (Kb (a, 0, 3)).bind fun q => bif !q then some false else (Kcp b).bind fun r => bif !r then some false else (Kb (c, 0, 1000)).bind fun s => bif !s then some false else (Kb (d, 0, 60)).bind fun t => bif !t then some false else (Kaa e).bind fun u => bif !u then some false else bx (lp Kch_s58 ((a, b, c, d, e, f, g, h, i, j, k, l, m, n, o, p), 0)) (fun v => some v) fun (v, w, x, y, z, a1, b1, c1, d1, e1, f1, g1, h1, i1, j1, k1) => bif v == 1 then (Kcr (a1, b1, c1, d1, e1, f1, g1, h1, i1, j1, k1)).bind fun l1 => some l1 else (Kej (a1, b1, c1, d1, e1, f1, g1, h1, i1, j1, k1)).bind fun l1 => some l1
def Kch_e : FEnt := ⟨64, [.tmp 2], [], [(.agg, cc6)], ⟨66, [⟨2, .one, [.dat .bool]⟩]⟩, Kch⟩
theorem Kch_ok : FnOk Tryz.prog 191 Kch_e := fnOk_mk (tb := [(58, Kch_n58)]) (c := (Tryz.f191.body).getD .skip) mixed Tryz.func191 (bC Kb_ok (bC Kcp_ok (bC Kaa_ok (bC Kcr_ok (bC Kej_ok bN))))) (by kernel_rfl) (by kernel_rfl) (by kernel_rfl) ⟨nodeLoop (by kernel_rfl) Kch_s58 (by kernel_rfl) (by intro d; kernel_rfl), trivial⟩ (by intro d; kernel_rfl)
def Kde : t119 → Option (Int × t58)
 | ((a, b, c, d, e, f, g, h, i, j, k, l, m, n, o, p), q) => ix q k.length ((some (gx k q (0, 0, [], 0, 0))).bind fun (r, s, t, u, v) => (Kcn t).bind fun w => some (2, q, r, s, w, 0, 0, 0, 0, 0, 0, 0, 0, (), (), ()))
def Kde_e : FEnt := ⟨20, [.cell 4 true 16], [], [(.agg, cc7), (.one, [.dat kI])], ⟨24, [⟨4, .box, cc9⟩]⟩, Kde⟩
theorem Kde_ok : FnOk Tryz.prog 192 Kde_e := fnOk_mk (tb := []) (c := (Tryz.f192.body).getD .skip) mixed Tryz.func192 (bC Kcn_ok bN) (by kernel_rfl) (by kernel_rfl) (by kernel_rfl) trivial (by intro d; kernel_rfl)
def Kby_s26 : t9 → Option (t9 ⊕ Bool ⊕ Unit)
 | (a, b, c) => bif decide (c < (ln a)) then ix c a.length ((some (gx a c (0, 0))).bind fun (d, e) => ix c a.length ((some (gx a c (0, 0))).bind fun (f, g) => (Kb (b, d, g)).bind fun h => bif h then some (.inr (.inl true)) else some (.inl (a, b, w64 (c + 1))))) else some (.inr (.inr ()))
def Kby_n26 : NEnt := ⟨⟨28, [⟨0, .one, [.dat kk10]⟩, ⟨1, .one, [.dat kI]⟩, ⟨5, .one, [.dat kI]⟩]⟩, [(.ret, ⟨28, [⟨4, .one, [.dat .bool]⟩]⟩), (.exit 0, ⟨28, []⟩)], lp Kby_s26⟩
def Kby : t0 → Option Bool
 | (a, b) => bx (lp Kby_s26 (a, b, 0)) (fun c => some c) fun _ => some false
def Kby_e : FEnt := ⟨24, [.tmp 4], [], [(.one, [.dat kk10]), (.one, [.dat kI])], ⟨28, [⟨4, .one, [.dat .bool]⟩]⟩, Kby⟩
theorem Kby_ok : FnOk Tryz.prog 76 Kby_e := fnOk_mk (tb := [(26, Kby_n26)]) (c := (Tryz.f76.body).getD .skip) mixed Tryz.func76 (bC Kb_ok bN) (by kernel_rfl) (by kernel_rfl) (by kernel_rfl) ⟨nodeLoop (by kernel_rfl) Kby_s26 (by kernel_rfl) (by intro d; kernel_rfl), trivial⟩ (by intro d; kernel_rfl)
def Keg : Int → Option (Int × Int)
 | a => some (a, a)
def Keg_e : FEnt := ⟨6, [.cell 2 true 2], [], [(.one, [.dat kI])], ⟨8, [⟨2, .box, cc35⟩]⟩, Keg⟩
theorem Keg_ok : FnOk Tryz.prog 214 Keg_e := fnOk_mk (tb := []) (c := (Tryz.f214.body).getD .skip) mixed Tryz.func214 bN (by kernel_rfl) (by kernel_rfl) (by kernel_rfl) trivial (by intro d; kernel_rfl)
def Kbw_l57 : Int × Int × t21 × (Int × Int × Unit × Int × Int) × t21 × Bool → Option (t21 × Int ⊕ Int × t21 × (Int × Int × Unit × Int × Int) × t21)
 | (a, b, (c, d, e, f, g), (h, i, _, j, k), (l, m, n, o, p), q) => bif q then some (.inl ((l, m, n, o, p), 4)) else bif a != c then some (.inl ((l, m, n, o, p), 2)) else (Kby (e, b)).bind fun r => bif r then some (.inl ((l, m, n, o, p), 1)) else bif decide (b > d) then some (.inl ((l, m, n, o, p), 3)) else some (.inr (b, (c, d, e, f, g), (h, i, (), j, k), l, m, n, o, p))
def Kbw_n57 : NEnt := ⟨⟨57, [⟨2, .one, [.dat kI]⟩, ⟨3, .one, [.dat kI]⟩, ⟨4, .box, cc26⟩, ⟨8, .box, cc27⟩, ⟨10, .box, cc24⟩, ⟨13, .one, [.dat .bool]⟩]⟩, [(.ret, ⟨57, [⟨8, .box, cc24⟩, ⟨9, .one, [.dat kI]⟩]⟩), (.normal, ⟨57, [⟨3, .one, [.dat kI]⟩, ⟨4, .box, cc26⟩, ⟨8, .box, cc27⟩, ⟨10, .box, cc24⟩]⟩)], Kbw_l57⟩
def Kbw : t21 × Int × Int × Int → Option (t21 × Int)
 | ((a, b, c, d, e), f, g, h) => (Kce (a, b, c, d, e)).bind fun (i, j, k, l, m) => (Kbx ((a, b, c, d, e), f)).bind fun n => bif !n then bx (Kbw_l57 (g, h, (a, b, c, d, e), (0, 0, (), 0, 0), (i, j, k, l, m), true)) (fun ((o, p, q, r, s), t) => some ((o, p, q, r, s), t)) fun (o, (p, q, r, s, t), (u, v, _, w, x), y, z, a1, b1, c1) => (Keg o).bind fun (d1, e1) => (Km (r, d1, e1)).bind fun f1 => some ((y, z, f1, b1, c1), 0) else (Kb (h, 1, 60)).bind fun o => bx (Kbw_l57 (g, h, (a, b, c, d, e), (0, 0, (), 0, 0), (i, j, k, l, m), !o)) (fun ((p, q, r, s, t), u) => some ((p, q, r, s, t), u)) fun (p, (q, r, s, t, u), (v, w, _, x, y), z, a1, b1, c1, d1) => (Keg p).bind fun (e1, f1) => (Km (s, e1, f1)).bind fun g1 => some ((z, a1, g1, c1, d1), 0)
def Kbw_e : FEnt := ⟨49, [.cell 8 true 5, .tmp 9], [], [(.agg, cc26), (.one, [.dat kI]), (.one, [.dat kI]), (.one, [.dat kI])], ⟨57, [⟨8, .box, cc24⟩, ⟨9, .one, [.dat kI]⟩]⟩, Kbw⟩
theorem Kbw_ok : FnOk Tryz.prog 193 Kbw_e := fnOk_mk (tb := [(57, Kbw_n57)]) (c := (Tryz.f193.body).getD .skip) mixed Tryz.func193 (bC Kce_ok (bC Kbx_ok (bC Kb_ok (bC Kby_ok (bC Keg_ok (bC Km_ok bN)))))) (by kernel_rfl) (by kernel_rfl) (by kernel_rfl) ⟨nodeJoin (by kernel_rfl) (by intro d; kernel_rfl), trivial⟩ (by intro d; kernel_rfl)
def Kdu : Int × Int → Option Int
 | (a, b) => (Kcp a).bind fun c => bif !c then some (-1) else (Kb (b, 1, 60)).bind fun d => bif !d then some (-1) else some (w64 ((w64 (100 * a)) + b))
def Kdu_e : FEnt := ⟨17, [.tmp 4], [], [(.one, [.dat kI]), (.one, [.dat kI])], ⟨21, [⟨4, .one, [.dat kI]⟩]⟩, Kdu⟩
theorem Kdu_ok : FnOk Tryz.prog 203 Kdu_e := fnOk_mk (tb := []) (c := (Tryz.f203.body).getD .skip) mixed Tryz.func203 (bC Kcp_ok (bC Kb_ok bN)) (by kernel_rfl) (by kernel_rfl) (by kernel_rfl) trivial (by intro d; kernel_rfl)
def Kdb : Int × t49 → Option (t53 × Bool)
 | (a, b, c, d, e, f, g, h, i, j, k, l) => (Kdu (a, b)).bind fun m => (Kcr (b, c, d, e, f, g, h, i, j, k, l)).bind fun n => bif !n then some ((0, 0, [], 0, 0, 0, 0, [], [], []), false) else bif decide (m < 0) then some ((0, 0, [], 0, 0, 0, 0, [], [], []), false) else (Kau (f, g, h, i, j, k, l)).bind fun (o, p, q, r, s, t, u) => some ((d, e, [(m, m)], o, p, q, r, s, t, u), true)
def Kdb_e : FEnt := ⟨31, [.cell 4 true 10, .tmp 5], [], [(.one, [.dat kI]), (.agg, cc15)], ⟨35, [⟨4, .box, cc13⟩, ⟨5, .one, [.dat .bool]⟩]⟩, Kdb⟩
theorem Kdb_ok : FnOk Tryz.prog 160 Kdb_e := fnOk_mk (tb := []) (c := (Tryz.f160.body).getD .skip) mixed Tryz.func160 (bC Kdu_ok (bC Kcr_ok (bC Kau_ok bN))) (by kernel_rfl) (by kernel_rfl) (by kernel_rfl) trivial (by intro d; kernel_rfl)
def Ko_s3730 : t121 → Option (t121 ⊕ t120)
 | ((a, b, c, d, e, f, g, h, i, j, k, l, m, n, o, p), q, r, s) => ix r l.length ((some (gx l r [])).bind fun t => (some (decide (s < (ln t)))).bind fun u => bif u then ix r l.length ((some (gx l r [])).bind fun v => ix s v.length ((some (gx v s [])).bind fun w => some (.inl ((a, b, c, d, e, f, g, h, i, j, k, l, m, n, o, p), w64 (q + (ln w)), r, w64 (s + 1))))) else some (.inr ((a, b, c, d, e, f, g, h, i, j, k, l, m, n, o, p), q, r)))
def Ko_n3730 : NEnt := ⟨⟨38, [⟨1, .box, cc7⟩, ⟨3, .one, [.dat kI]⟩, ⟨4, .one, [.dat kI]⟩, ⟨5, .one, [.dat kI]⟩]⟩, [(.exit 2, ⟨38, [⟨1, .box, cc7⟩, ⟨3, .one, [.dat kI]⟩, ⟨4, .one, [.dat kI]⟩]⟩)], lp Ko_s3730⟩
def Ko_s58 : t120 → Option (t120 ⊕ Int)
 | ((a, b, c, d, e, f, g, h, i, j, k, l, m, n, o, p), q, r) => (some (decide (r < (ln l)))).bind fun s => bif s then (lp Ko_s3730 ((a, b, c, d, e, f, g, h, i, j, k, l, m, n, o, p), q, r, 0)).bind fun ((t, u, v, w, x, y, z, a1, b1, c1, d1, e1, f1, g1, h1, i1), j1, k1) => some (.inl ((t, u, v, w, x, y, z, a1, b1, c1, d1, e1, f1, g1, h1, i1), j1, w64 (k1 + 1))) else some (.inr q)
def Ko_n58 : NEnt := ⟨⟨38, [⟨1, .box, cc7⟩, ⟨3, .one, [.dat kI]⟩, ⟨4, .one, [.dat kI]⟩]⟩, [(.exit 0, ⟨38, [⟨3, .one, [.dat kI]⟩]⟩)], lp Ko_s58⟩
def Ko : t118 → Option Int
 | (a, b, c, d, e, f, g, h, i, j, k, l, m, n, o, p) => (lp Ko_s58 ((a, b, c, d, e, f, g, h, i, j, k, l, m, n, o, p), 0, 0)).bind fun q => some q
def Ko_e : FEnt := ⟨36, [.tmp 2], [], [(.agg, cc7)], ⟨38, [⟨2, .one, [.dat kI]⟩]⟩, Ko⟩
theorem Ko_ok : FnOk Tryz.prog 80 Ko_e := fnOk_mk (tb := [(3730, Ko_n3730), (58, Ko_n58)]) (c := (Tryz.f80.body).getD .skip) mixed Tryz.func80 bN (by kernel_rfl) (by kernel_rfl) (by kernel_rfl) ⟨nodeLoop (by kernel_rfl) Ko_s3730 (by kernel_rfl) (by intro d; kernel_rfl), nodeLoop (by kernel_rfl) Ko_s58 (by kernel_rfl) (by intro d; kernel_rfl), trivial⟩ (by intro d; kernel_rfl)
def Kca_s26 : t69 → Option (t69 ⊕ Bool ⊕ Unit)
 | (a, b, c) => (some (decide (c < (ln b)))).bind fun d => bif d then ix c b.length ((some (gx b c (0, 0, [], 0, 0, 0, 0, [], [], []))).bind fun (e, f, g, h, i, j, k, l, m, n) => (Kl (g, a)).bind fun o => bif !o then some (.inr (.inl false)) else some (.inl (a, b, w64 (c + 1)))) else some (.inr (.inr ()))
def Kca_n26 : NEnt := ⟨⟨26, [⟨1, .one, [.dat kk10]⟩, ⟨2, .box, [.dat kk4]⟩, ⟨5, .one, [.dat kI]⟩]⟩, [(.ret, ⟨26, [⟨4, .one, [.dat .bool]⟩]⟩), (.exit 0, ⟨26, []⟩)], lp Kca_s26⟩
def Kca : List t53 × List (Int × Int) → Option Bool
 | (a, b) => bx (lp Kca_s26 (b, a, 0)) (fun c => some c) fun _ => some true
def Kca_e : FEnt := ⟨22, [.tmp 4], [], [(.agg, [.dat kk4]), (.one, [.dat kk10])], ⟨26, [⟨4, .one, [.dat .bool]⟩]⟩, Kca⟩
theorem Kca_ok : FnOk Tryz.prog 215 Kca_e := fnOk_mk (tb := [(26, Kca_n26)]) (c := (Tryz.f215.body).getD .skip) mixed Tryz.func215 (bC Kl_ok bN) (by kernel_rfl) (by kernel_rfl) (by kernel_rfl) ⟨nodeLoop (by kernel_rfl) Kca_s26 (by kernel_rfl) (by intro d; kernel_rfl), trivial⟩ (by intro d; kernel_rfl)
def Kal_s122 : Bool × List t53 × t53 × Unit × t60 → Option (Bool × List t53 × t53 × Unit × t60 ⊕ List t53 × Bool ⊕ List t53 × t53 × Unit × List t53)
 | (a, b, (c, d, e, f, g, h, i, j, k, l), _, m, n) => (some (decide (n < (ln m)))).bind fun o => bif o then bif a then ix n m.length (lx n m.length ((some (gx m n (0, 0, [], 0, 0, 0, 0, [], [], []))).bind fun (p, q, r, s, t, u, v, w, x, y) => bif p == c then ix n m.length (lx n m.length ((some (gx m n (0, 0, [], 0, 0, 0, 0, [], [], []))).bind fun (z, a1, b1, c1, d1, e1, f1, g1, h1, i1) => bif a1 == d then ix n m.length (lx n m.length ((some (gx m n (0, 0, [], 0, 0, 0, 0, [], [], []))).bind fun (j1, k1, l1, m1, n1, o1, p1, q1, r1, s1) => (Kdh ((j1, k1, (gx m n (0, 0, [], 0, 0, 0, 0, [], [], [])).2.2.1, m1, n1, o1, p1, (gx m n (0, 0, [], 0, 0, 0, 0, [], [], [])).2.2.2.2.2.2.2.1, (gx m n (0, 0, [], 0, 0, 0, 0, [], [], [])).2.2.2.2.2.2.2.2.1, (gx m n (0, 0, [], 0, 0, 0, 0, [], [], [])).2.2.2.2.2.2.2.2.2), c, d, e, f, g, h, i, j, k, l)).bind fun (t1, u1, v1, w1, x1, y1, z1, a2, b2, c2) => ix n m.length (lx n m.length ((some (sx m n (t1, u1, v1, w1, x1, y1, z1, a2, b2, c2))).bind fun d2 => some (.inr (.inl (d2, true))))))) else some (.inl (a, b, (c, d, e, f, g, h, i, j, k, l), (), m, w64 (n + 1))))) else some (.inl (a, b, (c, d, e, f, g, h, i, j, k, l), (), m, w64 (n + 1))))) else some (.inr (.inr (b, (c, d, e, f, g, h, i, j, k, l), (), m))) else some (.inr (.inr (b, (c, d, e, f, g, h, i, j, k, l), (), m)))
def Kal_n122 : NEnt := ⟨⟨89, [⟨2, .one, [.dat .bool]⟩, ⟨3, .box, [.dat kk4]⟩, ⟨4, .box, cc16⟩, ⟨6, .box, [.nil]⟩, ⟨8, .box, [.own true kk5]⟩, ⟨9, .one, [.dat kI]⟩]⟩, [(.ret, ⟨89, [⟨6, .box, [.own true kk5]⟩, ⟨7, .one, [.dat .bool]⟩]⟩), (.exit 0, ⟨89, [⟨3, .box, [.dat kk4]⟩, ⟨4, .box, cc16⟩, ⟨6, .box, [.nil]⟩, ⟨8, .box, [.own true kk5]⟩]⟩)], lp Kal_s122⟩
def Kal : List t53 × t53 × Bool → Option (List t53 × Bool)
 | (a, (b, c, d, e, f, g, h, i, j, k), l) => (Kas a).bind fun m => (Kj a).bind fun n => bif !n then some (m, false) else (Kbu (b, c, d, e, f, g, h, i, j, k)).bind fun o => bif !o then some (m, false) else (Kca (a, d)).bind fun p => bif !p then some (m, false) else bx (lp Kal_s122 (l, a, (b, c, d, e, f, g, h, i, j, k), (), m, 0)) (fun (q, r) => some (q, r)) fun (q, (r, s, t, u, v, w, x, y, z, a1), _, b1) => bif (ln q) == 24 then some (b1, false) else (Kbq (r, s, t, u, v, w, x, y, z, a1)).bind fun (c1, d1, e1, f1, g1, h1, i1, j1, k1, l1) => (some [(c1, d1, e1, f1, g1, h1, i1, j1, k1, l1)]).bind fun m1 => chk (fits (b1.length + m1.length) 144) ((some (b1 ++ m1)).bind fun n1 => some (n1, true))
def Kal_e : FEnt := ⟨83, [.cell 6 true 1, .tmp 7], [], [(.agg, [.dat kk4]), (.agg, cc16), (.one, [.dat .bool])], ⟨89, [⟨6, .box, [.own true kk5]⟩, ⟨7, .one, [.dat .bool]⟩]⟩, Kal⟩
theorem Kal_ok : FnOk Tryz.prog 194 Kal_e := fnOk_mk (tb := [(122, Kal_n122)]) (c := (Tryz.f194.body).getD .skip) mixed Tryz.func194 (bC Kas_ok (bC Kj_ok (bC Kbu_ok (bC Kca_ok (bC Kdh_ok (bC Kbq_ok bN)))))) (by kernel_rfl) (by kernel_rfl) (by kernel_rfl) ⟨nodeLoop (by kernel_rfl) Kal_s122 (by kernel_rfl) (by intro d; kernel_rfl), trivial⟩ (by intro d; kernel_rfl)
def Kr_l511 : t70 × t56 × (Int × Int × Int × Int × Unit × t39) × t119 → Option (t118 × (Int × t58) × Int)
 | ((a, b, c, d, e, f, g, h, i, j, k, l, m, n, o, p), (q, r, s, _, t, u, v, w, x, y, _, _, _, z, _, _), (a1, b1, c1, d1, _, e1, f1, g1, h1, i1, j1, k1, l1, _, _, _), (m1, n1, o1, p1, q1, r1, s1, t1, u1, v1, w1, x1, y1, z1, a2, b2), c2) => (Kde ((m1, n1, o1, p1, q1, r1, s1, t1, u1, v1, w1, x1, y1, z1, a2, b2), b)).bind fun (d2, e2, f2, g2, h2, i2, j2, k2, l2, m2, n2, o2, p2, _, _, _) => some ((m1, n1, o1, p1, q1, r1, s1, t1, u1, v1, w1, x1, y1, z1, a2, b2), (d2, e2, f2, g2, h2, i2, j2, k2, l2, m2, n2, o2, p2, (), (), ()), c2)
def Kr_n511 : NEnt := ⟨⟨157, [⟨3, .box, cc6⟩, ⟨4, .box, cc12⟩, ⟨5, .box, cc11⟩, ⟨7, .box, cc3⟩, ⟨10, .one, [.dat kI]⟩]⟩, [(.ret, ⟨157, [⟨4, .box, cc3⟩, ⟨5, .box, cc9⟩, ⟨6, .one, [.dat kI]⟩]⟩)], Kr_l511⟩
def Kr_l15 : t70 × t56 × (Int × Int × Int × Int × Unit × t39) × t118 → Option (t118 × (Int × t58) × Int)
 | ((a, b, c, d, e, f, g, h, i, j, k, l, m, n, o, p), (q, r, s, _, t, u, v, w, x, y, _, _, _, z, _, _), (a1, b1, c1, d1, _, e1, f1, g1, h1, i1, j1, k1, l1, _, _, _), m1, n1, o1, p1, q1, r1, s1, t1, u1, v1, w1, x1, y1, z1, a2, b2) => ix b w1.length (lx b w1.length ((some (sx w1 b ((gx w1 b (0, 0, [], 0, 0)).1, (gx w1 b (0, 0, [], 0, 0)).2.1, (gx w1 b (0, 0, [], 0, 0)).2.2.1, (gx w1 b (0, 0, [], 0, 0)).2.2.2.1, u1))).bind fun c2 => bif a == 0 then bif !v1 then ix b c2.length (lx b c2.length ((some (gx c2 b (0, 0, [], 0, 0))).bind fun (d2, e2, f2, g2, h2) => (Kcs ((d2, e2, (gx c2 b (0, 0, [], 0, 0)).2.2.1, g2, h2), m1)).bind fun (i2, j2, k2, l2, m2) => ix b c2.length (lx b c2.length ((some (sx c2 b (i2, j2, k2, l2, m2))).bind fun n2 => (Kde ((m1, n1, o1, p1, q1, r1, s1, t1, u1, v1, n2, x1, y1, z1, a2, b2), b)).bind fun (o2, p2, q2, r2, s2, t2, u2, v2, w2, x2, y2, z2, a3, _, _, _) => some ((m1, n1, o1, p1, q1, r1, s1, t1, u1, v1, n2, x1, y1, z1, a2, b2), (o2, p2, q2, r2, s2, t2, u2, v2, w2, x2, y2, z2, a3, (), (), ()), 2))))) else (Kde ((m1, n1, o1, p1, q1, r1, s1, t1, u1, v1, c2, x1, y1, z1, a2, b2), b)).bind fun (d2, e2, f2, g2, h2, i2, j2, k2, l2, m2, n2, o2, p2, _, _, _) => some ((m1, n1, o1, p1, q1, r1, s1, t1, u1, v1, c2, x1, y1, z1, a2, b2), (d2, e2, f2, g2, h2, i2, j2, k2, l2, m2, n2, o2, p2, (), (), ()), 2) else ix b c2.length (lx b c2.length ((some (gx c2 b (0, 0, [], 0, 0))).bind fun (d2, e2, f2, g2, h2) => (Kbw ((d2, e2, (gx c2 b (0, 0, [], 0, 0)).2.2.1, g2, h2), m1, c, f)).bind fun ((i2, j2, k2, l2, m2), n2) => bif n2 == 2 then (Kr_l511 ((a, b, c, d, e, f, g, h, i, j, k, l, m, n, o, p), (q, r, s, (), t, u, v, w, x, y, (), (), (), z, (), ()), (a1, b1, c1, d1, (), e1, f1, g1, h1, i1, j1, k1, l1, (), (), ()), (m1, n1, o1, p1, q1, r1, s1, t1, u1, v1, c2, x1, y1, z1, a2, b2), 3)).bind fun ((o2, p2, q2, r2, s2, t2, u2, v2, w2, x2, y2, z2, a3, b3, c3, d3), (e3, f3, g3, h3, i3, j3, k3, l3, m3, n3, o3, p3, q3, _, _, _), r3) => some ((o2, p2, q2, r2, s2, t2, u2, v2, w2, x2, y2, z2, a3, b3, c3, d3), (e3, f3, g3, h3, i3, j3, k3, l3, m3, n3, o3, p3, q3, (), (), ()), r3) else bif n2 == 1 then (Kr_l511 ((a, b, c, d, e, f, g, h, i, j, k, l, m, n, o, p), (q, r, s, (), t, u, v, w, x, y, (), (), (), z, (), ()), (a1, b1, c1, d1, (), e1, f1, g1, h1, i1, j1, k1, l1, (), (), ()), (m1, n1, o1, p1, q1, r1, s1, t1, u1, v1, c2, x1, y1, z1, a2, b2), 1)).bind fun ((o2, p2, q2, r2, s2, t2, u2, v2, w2, x2, y2, z2, a3, b3, c3, d3), (e3, f3, g3, h3, i3, j3, k3, l3, m3, n3, o3, p3, q3, _, _, _), r3) => some ((o2, p2, q2, r2, s2, t2, u2, v2, w2, x2, y2, z2, a3, b3, c3, d3), (e3, f3, g3, h3, i3, j3, k3, l3, m3, n3, o3, p3, q3, (), (), ()), r3) else bif n2 == 3 then (Kr_l511 ((a, b, c, d, e, f, g, h, i, j, k, l, m, n, o, p), (q, r, s, (), t, u, v, w, x, y, (), (), (), z, (), ()), (a1, b1, c1, d1, (), e1, f1, g1, h1, i1, j1, k1, l1, (), (), ()), (m1, n1, o1, p1, q1, r1, s1, t1, u1, v1, c2, x1, y1, z1, a2, b2), 4)).bind fun ((o2, p2, q2, r2, s2, t2, u2, v2, w2, x2, y2, z2, a3, b3, c3, d3), (e3, f3, g3, h3, i3, j3, k3, l3, m3, n3, o3, p3, q3, _, _, _), r3) => some ((o2, p2, q2, r2, s2, t2, u2, v2, w2, x2, y2, z2, a3, b3, c3, d3), (e3, f3, g3, h3, i3, j3, k3, l3, m3, n3, o3, p3, q3, (), (), ()), r3) else bif n2 == 0 then bif v1 then (Kr_l511 ((a, b, c, d, e, f, g, h, i, j, k, l, m, n, o, p), (q, r, s, (), t, u, v, w, x, y, (), (), (), z, (), ()), (a1, b1, c1, d1, (), e1, f1, g1, h1, i1, j1, k1, l1, (), (), ()), (m1, n1, o1, p1, q1, r1, s1, t1, u1, v1, c2, x1, y1, z1, a2, b2), 5)).bind fun ((o2, p2, q2, r2, s2, t2, u2, v2, w2, x2, y2, z2, a3, b3, c3, d3), (e3, f3, g3, h3, i3, j3, k3, l3, m3, n3, o3, p3, q3, _, _, _), r3) => some ((o2, p2, q2, r2, s2, t2, u2, v2, w2, x2, y2, z2, a3, b3, c3, d3), (e3, f3, g3, h3, i3, j3, k3, l3, m3, n3, o3, p3, q3, (), (), ()), r3) else (Kdb (b, f, g, h, i, j, k, l, m, n, o, p)).bind fun ((o2, p2, q2, r2, s2, t2, u2, v2, w2, x2), y2) => ix b x1.length (lx b x1.length (ix g (gx x1 b []).length (lx g (gx x1 b []).length ((Ko (m1, n1, o1, p1, q1, r1, s1, t1, u1, v1, c2, x1, y1, z1, a2, b2)).bind fun z2 => (Kal (gx (gx x1 b []) g [], (o2, p2, q2, r2, s2, t2, u2, v2, w2, x2), decide (z2 ≥ q1))).bind fun (a3, b3) => ix b x1.length (lx b x1.length (ix g (gx x1 b []).length (lx g (gx x1 b []).length ((some (sx x1 b (sx (gx x1 b []) g a3))).bind fun c3 => ix b c2.length (lx b c2.length ((some (sx c2 b (i2, j2, k2, l2, m2))).bind fun d3 => (Kr_l511 ((a, b, c, d, e, f, g, h, i, j, k, l, m, n, o, p), (q, r, s, (), t, u, v, w, x, y, (), (), (), z, (), ()), (a1, b1, c1, d1, (), e1, f1, g1, h1, i1, j1, k1, l1, (), (), ()), (m1, n1, o1, p1, q1, r1, s1, t1, u1, v1, d3, c3, y1, z1, a2, b2), 0)).bind fun ((e3, f3, g3, h3, i3, j3, k3, l3, m3, n3, o3, p3, q3, r3, s3, t3), (u3, v3, w3, x3, y3, z3, a4, b4, c4, d4, e4, f4, g4, _, _, _), h4) => some ((e3, f3, g3, h3, i3, j3, k3, l3, m3, n3, o3, p3, q3, r3, s3, t3), (u3, v3, w3, x3, y3, z3, a4, b4, c4, d4, e4, f4, g4, (), (), ()), h4))))))))))) else (Kr_l511 ((a, b, c, d, e, f, g, h, i, j, k, l, m, n, o, p), (q, r, s, (), t, u, v, w, x, y, (), (), (), z, (), ()), (a1, b1, c1, d1, (), e1, f1, g1, h1, i1, j1, k1, l1, (), (), ()), (m1, n1, o1, p1, q1, r1, s1, t1, u1, v1, c2, x1, y1, z1, a2, b2), 0)).bind fun ((o2, p2, q2, r2, s2, t2, u2, v2, w2, x2, y2, z2, a3, b3, c3, d3), (e3, f3, g3, h3, i3, j3, k3, l3, m3, n3, o3, p3, q3, _, _, _), r3) => some ((o2, p2, q2, r2, s2, t2, u2, v2, w2, x2, y2, z2, a3, b3, c3, d3), (e3, f3, g3, h3, i3, j3, k3, l3, m3, n3, o3, p3, q3, (), (), ()), r3)))))
def Kr_n15 : NEnt := ⟨⟨157, [⟨3, .box, cc6⟩, ⟨4, .box, cc12⟩, ⟨5, .box, cc11⟩, ⟨7, .box, cc3⟩]⟩, [(.ret, ⟨157, [⟨4, .box, cc3⟩, ⟨5, .box, cc9⟩, ⟨6, .one, [.dat kI]⟩]⟩)], Kr_l15⟩
def Kr : t118 × t70 → Option (t118 × (Int × t58) × Int)
 | ((a, b, c, d, e, f, g, h, i, j, k, l, m, n, o, p), q, r, s, t, u, v, w, x, y, z, a1, b1, c1, d1, e1, f1) => (Ka (a, b, c, d, e, f, g, h, i, j, k, l, m, n, o, p)).bind fun (g1, h1, i1, j1, k1, l1, m1, n1, o1, p1, q1, r1, s1, t1, u1, v1) => (Kd (a, b, c, d, e, f, g, h, i, j, k, l, m, n, o, p)).bind fun w1 => bif !w1 then some ((g1, h1, i1, j1, k1, l1, m1, n1, o1, p1, q1, r1, s1, t1, u1, v1), (0, 0, 0, 0, [], 0, 0, 0, 0, 0, 0, 0, 0, (), (), ()), 6) else (Kch (q, r, s, t, u, v, w, x, y, z, a1, b1, c1, d1, e1, f1)).bind fun x1 => bif !x1 then some ((g1, h1, i1, j1, k1, l1, m1, n1, o1, p1, q1, r1, s1, t1, u1, v1), (0, 0, 0, 0, [], 0, 0, 0, 0, 0, 0, 0, 0, (), (), ()), 6) else bif q != 0 then bif q != 1 then some ((g1, h1, i1, j1, k1, l1, m1, n1, o1, p1, q1, r1, s1, t1, u1, v1), (0, 0, 0, 0, [], 0, 0, 0, 0, 0, 0, 0, 0, (), (), ()), 6) else (Kr_l15 ((q, r, s, t, u, v, w, x, y, z, a1, b1, c1, d1, e1, f1), (0, 0, 0, (), 0, 0, 0, 0, 0, false, (), (), (), 0, (), ()), (0, 0, 0, 0, (), 0, 0, 0, 0, 0, 0, 0, 0, (), (), ()), g1, h1, i1, j1, k1, l1, m1, n1, o1, p1, q1, r1, s1, t1, u1, v1)).bind fun ((y1, z1, a2, b2, c2, d2, e2, f2, g2, h2, i2, j2, k2, l2, m2, n2), (o2, p2, q2, r2, s2, t2, u2, v2, w2, x2, y2, z2, a3, _, _, _), b3) => some ((y1, z1, a2, b2, c2, d2, e2, f2, g2, h2, i2, j2, k2, l2, m2, n2), (o2, p2, q2, r2, s2, t2, u2, v2, w2, x2, y2, z2, a3, (), (), ()), b3) else (Kr_l15 ((q, r, s, t, u, v, w, x, y, z, a1, b1, c1, d1, e1, f1), (0, 0, 0, (), 0, 0, 0, 0, 0, false, (), (), (), 0, (), ()), (0, 0, 0, 0, (), 0, 0, 0, 0, 0, 0, 0, 0, (), (), ()), g1, h1, i1, j1, k1, l1, m1, n1, o1, p1, q1, r1, s1, t1, u1, v1)).bind fun ((y1, z1, a2, b2, c2, d2, e2, f2, g2, h2, i2, j2, k2, l2, m2, n2), (o2, p2, q2, r2, s2, t2, u2, v2, w2, x2, y2, z2, a3, _, _, _), b3) => some ((y1, z1, a2, b2, c2, d2, e2, f2, g2, h2, i2, j2, k2, l2, m2, n2), (o2, p2, q2, r2, s2, t2, u2, v2, w2, x2, y2, z2, a3, (), (), ()), b3)
def Kr_e : FEnt := ⟨153, [.cell 4 true 16, .cell 5 true 16, .tmp 6], [], [(.agg, cc7), (.agg, cc6)], ⟨157, [⟨4, .box, cc3⟩, ⟨5, .box, cc9⟩, ⟨6, .one, [.dat kI]⟩]⟩, Kr⟩
theorem Kr_ok : FnOk Tryz.prog 155 Kr_e := fnOk_mk (tb := [(511, Kr_n511), (15, Kr_n15)]) (c := (Tryz.f155.body).getD .skip) mixed Tryz.func155 (bC Ka_ok (bC Kd_ok (bC Kch_ok (bC Kcs_ok (bC Kde_ok (bC Kbw_ok (bC Kdb_ok (bC Ko_ok (bC Kal_ok bN))))))))) (by kernel_rfl) (by kernel_rfl) (by kernel_rfl) ⟨nodeJoin (by kernel_rfl) (by intro d; kernel_rfl), nodeJoin (by kernel_rfl) (by intro d; kernel_rfl), trivial⟩ (by intro d; kernel_rfl)
def Kcb_s122 : Unit × t56 × t118 × Int × t4 → Option (Unit × t56 × t118 × Int × t4 ⊕ t56 × t118 × List Int × Int × Int)
 | (_, (a, b, c, _, d, e, f, g, h, i, _, _, _, j, _, _), (k, l, m, n, o, p, q, r, s, t, u, v, w, x, y, z), a1, b1, c1, d1, e1) => bif decide (b1 < a1) then (Ke ((c1, d1, e1), 3)).bind fun (f1, g1, h1, i1) => (Ke ((g1, h1, i1), 6)).bind fun (j1, k1, l1, m1) => bif j1 == 0 then (Kdv (k, l, m, n, o, p, q, r, s, t, u, v, w, x, y, z)).bind fun ((n1, o1, p1, q1, r1, s1, t1, u1, v1, w1, x1, y1, z1, a2, b2, c2), d2) => some (.inl ((), (a, b, c, (), d, e, f, g, h, i, (), (), (), j, (), ()), (n1, o1, p1, q1, r1, s1, t1, u1, v1, w1, x1, y1, z1, a2, b2, c2), a1, w64 (b1 + 1), k1, l1, m1)) else bif j1 == 1 then (Kbp (k, l, m, n, o, p, q, r, s, t, u, v, w, x, y, z)).bind fun (n1, o1, p1, q1, r1, s1, t1, u1, v1, w1, x1, y1, z1, a2, b2, c2) => some (.inl ((), (a, b, c, (), d, e, f, g, h, i, (), (), (), j, (), ()), (n1, o1, p1, q1, r1, s1, t1, u1, v1, w1, x1, y1, z1, a2, b2, c2), a1, w64 (b1 + 1), k1, l1, m1)) else (Kcu (k1, l1, m1)).bind fun ((n1, o1, p1, q1, r1, s1, t1, u1, v1, w1, x1), y1, z1, a2) => ix f1 u.length (lx f1 u.length ((some (gx u f1 (0, 0, [], 0, 0))).bind fun (b2, c2, d2, e2, f2) => (Kr ((k, l, m, n, o, p, q, r, s, t, u, v, w, x, y, z), 1, f1, b2, 0, [], n1, o1, p1, q1, r1, s1, t1, u1, v1, w1, x1)).bind fun ((g2, h2, i2, j2, k2, l2, m2, n2, o2, p2, q2, r2, s2, t2, u2, v2), (w2, x2, y2, z2, a3, b3, c3, d3, e3, f3, g3, h3, i3, _, _, _), j3) => some (.inl ((), (a, b, c, (), d, e, f, g, h, i, (), (), (), j, (), ()), (g2, h2, i2, j2, k2, l2, m2, n2, o2, p2, q2, r2, s2, t2, u2, v2), a1, w64 (b1 + 1), y1, z1, a2)))) else some (.inr ((a, b, c, (), d, e, f, g, h, i, (), (), (), j, (), ()), (k, l, m, n, o, p, q, r, s, t, u, v, w, x, y, z), c1, d1, e1))
def Kcb_n122 : NEnt := ⟨⟨59, [⟨0, .one, [.bptr 58 0]⟩, ⟨2, .box, cc12⟩, ⟨3, .box, cc0⟩, ⟨5, .one, [.dat kI]⟩, ⟨6, .one, [.dat kI]⟩, ⟨58, .box, cc30⟩]⟩, [(.exit 0, ⟨59, [⟨2, .box, cc12⟩, ⟨3, .box, cc0⟩, ⟨58, .box, cc30⟩]⟩)], lp Kcb_s122⟩
def Kcb : List Int × Int × Int → Option (t118 × List Int × Int × Int)
 | (a, b, c) => (Kea (a, b, c)).bind fun ((d, e, f, g, h, i, j, k), l, m, n) => (Ky (d, e, f, g, h, i, j, k)).bind fun ((o, p, q, r, s, t, u, v, w, x, y, z, a1, b1, _, _), c1) => (Ke ((l, m, n), 14)).bind fun (d1, e1, f1, g1) => (lp Kcb_s122 ((), (0, 0, 0, (), 0, 0, 0, 0, 0, false, (), (), (), 0, (), ()), (o, p, q, r, s, t, u, v, w, x, y, z, a1, b1, [], []), d1, 0, e1, f1, g1)).bind fun ((h1, i1, j1, _, k1, l1, m1, n1, o1, p1, _, _, _, q1, _, _), (r1, s1, t1, u1, v1, w1, x1, y1, z1, a2, b2, c2, d2, e2, f2, g2), h2, i2, j2) => some ((r1, s1, t1, u1, v1, w1, x1, y1, z1, a2, b2, c2, d2, e2, f2, g2), h2, i2, j2)
def Kcb_e : FEnt := ⟨57, [.cell 2 true 16], [true], [(.box, cc30)], ⟨59, [⟨2, .box, cc0⟩, ⟨58, .box, cc30⟩]⟩, Kcb⟩
theorem Kcb_ok : FnOk Tryz.prog 104 Kcb_e := fnOk_mk (tb := [(122, Kcb_n122)]) (c := (Tryz.f104.body).getD .skip) mixed Tryz.func104 (bC Kea_ok (bC Ky_ok (bC Ke_ok (bC Kdv_ok (bC Kbp_ok (bC Kcu_ok (bC Kr_ok bN))))))) (by kernel_rfl) (by kernel_rfl) (by kernel_rfl) ⟨nodeLoop (by kernel_rfl) Kcb_s122 (by kernel_rfl) (by intro d; kernel_rfl), trivial⟩ (by intro d; kernel_rfl)
def Kat : (List Int × Int × Int) × Int → Option (Bool × List Int × Int × Int)
 | ((a, b, c), d) => (Ke ((a, b, c), d)).bind fun (e, f, g, h) => some (e == 0, f, g, h)
def Kat_e : FEnt := ⟨9, [.tmp 4], [true, false], [(.box, cc30), (.one, [.dat kI])], ⟨13, [⟨4, .one, [.dat .bool]⟩, ⟨10, .box, cc30⟩]⟩, Kat⟩
theorem Kat_ok : FnOk Tryz.prog 105 Kat_e := fnOk_mk (tb := []) (c := (Tryz.f105.body).getD .skip) mixed Tryz.func105 (bC Ke_ok bN) (by kernel_rfl) (by kernel_rfl) (by kernel_rfl) trivial (by intro d; kernel_rfl)
def Kci_s60 : t56 × t118 → Option (t56 × t118 ⊕ t118 ⊕ t56 × t118)
 | ((a, b, c, _, d, e, f, g, h, i, _, _, _, j, _, _), k, l, m, n, o, p, q, r, s, t, u, v, w, x, y, z) => (Ko (k, l, m, n, o, p, q, r, s, t, u, v, w, x, y, z)).bind fun a1 => bif decide (a1 > 0) then (Kdf (k, l, m, n, o, p, q, r, s, t, u, v, w, x, y, z)).bind fun ((b1, c1, d1, e1, f1, g1, h1, i1, j1, k1, l1, m1, n1, o1, p1, q1), r1) => bif !r1 then some (.inr (.inl (k, l, m, n, o, p, q, r, s, t, u, v, w, x, y, z))) else some (.inl ((a, b, c, (), d, e, f, g, h, i, (), (), (), j, (), ()), b1, c1, d1, e1, f1, g1, h1, i1, j1, k1, l1, m1, n1, o1, p1, q1)) else some (.inr (.inr ((a, b, c, (), d, e, f, g, h, i, (), (), (), j, (), ()), k, l, m, n, o, p, q, r, s, t, u, v, w, x, y, z)))
def Kci_n60 : NEnt := ⟨⟨27, [⟨2, .box, cc12⟩, ⟨3, .box, cc1⟩]⟩, [(.ret, ⟨27, [⟨2, .box, cc7⟩]⟩), (.exit 0, ⟨27, [⟨2, .box, cc12⟩, ⟨3, .box, cc1⟩]⟩)], lp Kci_s60⟩
def Kci : t118 → Option t118
 | (a, b, c, d, e, f, g, h, i, j, k, l, m, n, o, p) => (Ka (a, b, c, d, e, f, g, h, i, j, k, l, m, n, o, p)).bind fun (q, r, s, t, u, v, w, x, y, z, a1, b1, c1, d1, e1, f1) => (Kd (a, b, c, d, e, f, g, h, i, j, k, l, m, n, o, p)).bind fun g1 => bif !g1 then some (q, r, s, t, u, v, w, x, y, z, a1, b1, c1, d1, e1, f1) else bx (lp Kci_s60 ((0, 0, 0, (), 0, 0, 0, 0, 0, false, (), (), (), 0, (), ()), q, r, s, t, u, v, w, x, y, z, a1, b1, c1, d1, e1, f1)) (fun (h1, i1, j1, k1, l1, m1, n1, o1, p1, q1, r1, s1, t1, u1, v1, w1) => some (h1, i1, j1, k1, l1, m1, n1, o1, p1, q1, r1, s1, t1, u1, v1, w1)) fun ((h1, i1, j1, _, k1, l1, m1, n1, o1, p1, _, _, _, q1, _, _), r1, s1, t1, u1, v1, w1, x1, y1, z1, a2, b2, c2, d2, e2, f2, g2) => some (r1, s1, t1, u1, v1, w1, x1, y1, z1, a2, b2, c2, d2, e2, f2, g2)
def Kci_e : FEnt := ⟨25, [.cell 2 true 16], [], [(.agg, cc7)], ⟨27, [⟨2, .box, cc7⟩]⟩, Kci⟩
theorem Kci_ok : FnOk Tryz.prog 107 Kci_e := fnOk_mk (tb := [(60, Kci_n60)]) (c := (Tryz.f107.body).getD .skip) mixed Tryz.func107 (bC Ka_ok (bC Kd_ok (bC Ko_ok (bC Kdf_ok bN)))) (by kernel_rfl) (by kernel_rfl) (by kernel_rfl) ⟨nodeLoop (by kernel_rfl) Kci_s60 (by kernel_rfl) (by intro d; kernel_rfl), trivial⟩ (by intro d; kernel_rfl)
def Kdt : t118 → Option t118
 | (a, b, c, d, e, f, g, h, i, j, k, l, m, n, o, p) => (Kd (a, b, c, d, e, f, g, h, i, j, k, l, m, n, o, p)).bind fun q => bif !q then (Ka (a, b, c, d, e, f, g, h, i, j, k, l, m, n, o, p)).bind fun (r, s, t, u, v, w, x, y, z, a1, b1, c1, d1, e1, f1, g1) => some (r, s, t, u, v, w, x, y, z, a1, b1, c1, d1, e1, f1, g1) else (Kbi ((a, b, c, d, e, f, g, h, i, j, k, l, m, n, o, p), true)).bind fun (r, s, t, u, v, w, x, y, z, a1, b1, c1, d1, e1, f1, g1) => some (r, s, t, u, v, w, x, y, z, a1, b1, c1, d1, e1, f1, g1)
def Kdt_e : FEnt := ⟨10, [.cell 2 true 16], [], [(.agg, cc7)], ⟨12, [⟨2, .box, cc2⟩]⟩, Kdt⟩
theorem Kdt_ok : FnOk Tryz.prog 106 Kdt_e := fnOk_mk (tb := []) (c := (Tryz.f106.body).getD .skip) mixed Tryz.func106 (bC Kd_ok (bC Ka_ok (bC Kbi_ok bN))) (by kernel_rfl) (by kernel_rfl) (by kernel_rfl) trivial (by intro d; kernel_rfl)
def Kcc_s122 : Unit × List (Int × Int) × Int × t4 → Option (Unit × List (Int × Int) × Int × t4 ⊕ t20)
 | (_, a, b, c, d, e, f) => bif decide (c < b) then (Ke ((d, e, f), 20)).bind fun (g, h, i, j) => (Ke ((h, i, j), 20)).bind fun (k, l, m, n) => (Ke ((l, m, n), 10)).bind fun (o, p, q, r) => (Ks ((p, q, r), [g, k, w64 (9990 + o)])).bind fun (s, t, u, v) => (Ke ((t, u, v), 3)).bind fun (w, x, y, z) => (Ki (w64 (s + w), 9999)).bind fun a1 => (Km (a, s, a1)).bind fun b1 => some (.inl ((), b1, b, w64 (c + 1), x, y, z)) else some (.inr (a, d, e, f))
def Kcc_n122 : NEnt := ⟨⟨37, [⟨0, .one, [.bptr 36 0]⟩, ⟨3, .one, cc34⟩, ⟨4, .one, [.dat kI]⟩, ⟨5, .one, [.dat kI]⟩, ⟨36, .box, cc30⟩]⟩, [(.exit 0, ⟨37, [⟨3, .one, cc34⟩, ⟨36, .box, cc30⟩]⟩)], lp Kcc_s122⟩
def Kcc : List Int × Int × Int → Option t20
 | (a, b, c) => (Ke ((a, b, c), 7)).bind fun (d, e, f, g) => (lp Kcc_s122 ((), [], d, 0, e, f, g)).bind fun (h, i, j, k) => some (h, i, j, k)
def Kcc_e : FEnt := ⟨35, [.tmp 2], [true], [(.box, cc30)], ⟨37, [⟨2, .one, cc34⟩, ⟨36, .box, cc30⟩]⟩, Kcc⟩
theorem Kcc_ok : FnOk Tryz.prog 205 Kcc_e := fnOk_mk (tb := [(122, Kcc_n122)]) (c := (Tryz.f205.body).getD .skip) mixed Tryz.func205 (bC Ke_ok (bC Ks_ok (bC Ki_ok (bC Km_ok bN)))) (by kernel_rfl) (by kernel_rfl) (by kernel_rfl) ⟨nodeLoop (by kernel_rfl) Kcc_s122 (by kernel_rfl) (by intro d; kernel_rfl), trivial⟩ (by intro d; kernel_rfl)
def Kdk : List Int × Int × Int → Option t20
 | (a, b, c) => (Kcc (a, b, c)).bind fun (d, e, f, g) => (Kat ((e, f, g), 8)).bind fun (h, i, j, k) => bif h then (Ks ((i, j, k), [(-1), 3, 10000])).bind fun (l, m, n, o) => (Ks ((m, n, o), [5, 10000, 9223372036854775807])).bind fun (p, q, r, s) => chk (fits (d.length + [(l, p)].length) 16) (some (d ++ [(l, p)], q, r, s)) else some (d, i, j, k)
def Kdk_e : FEnt := ⟨19, [.tmp 2], [true], [(.box, cc30)], ⟨21, [⟨2, .one, cc34⟩, ⟨20, .box, cc30⟩]⟩, Kdk⟩
theorem Kdk_ok : FnOk Tryz.prog 161 Kdk_e := fnOk_mk (tb := []) (c := (Tryz.f161.body).getD .skip) mixed Tryz.func161 (bC Kcc_ok (bC Kat_ok (bC Ks_ok bN))) (by kernel_rfl) (by kernel_rfl) (by kernel_rfl) trivial (by intro d; kernel_rfl)
def Kee : List Int × Int × Int → Option (t37 × List Int × Int × Int)
 | (a, b, c) => (Kbm (a, b, c)).bind fun (d, e, f, g) => (Kbh d).bind fun (h, i, j, k, l, m, n) => (Kat ((e, f, g), 16)).bind fun (o, p, q, r) => bif o then bif decide (h > 0) then (Ke ((p, q, r), 2)).bind fun (s, t, u, v) => chk (decide (3 < l.length)) (chk (decide (3 < l.length)) (some ((w64 (1000000000 - s), 999999997, j, k, List.set l 3 1000000000, m, n), t, u, v))) else some ((h, i, j, k, l, m, n), p, q, r) else some ((h, i, j, k, l, m, n), p, q, r)
def Kee_e : FEnt := ⟨23, [.cell 2 true 7], [true], [(.box, cc30)], ⟨25, [⟨2, .box, cc19⟩, ⟨24, .box, cc30⟩]⟩, Kee⟩
theorem Kee_ok : FnOk Tryz.prog 206 Kee_e := fnOk_mk (tb := []) (c := (Tryz.f206.body).getD .skip) mixed Tryz.func206 (bC Kbm_ok (bC Kbh_ok (bC Kat_ok (bC Ke_ok bN)))) (by kernel_rfl) (by kernel_rfl) (by kernel_rfl) trivial (by intro d; kernel_rfl)
def Kdg : List Int × Int × Int → Option (t37 × List Int × Int × Int)
 | (a, b, c) => (Kee (a, b, c)).bind fun ((d, e, f, g, h, i, j), k, l, m) => (Ke ((k, l, m), 16)).bind fun (n, o, p, q) => bif n == 0 then (Ks ((o, p, q), [(-1), 1000001, 500])).bind fun (r, s, t, u) => some ((d, e, r, g, h, i, j), s, t, u) else bif n == 1 then (Ke ((o, p, q), 8)).bind fun (r, s, t, u) => (Ks ((s, t, u), [(-1), 17, 18])).bind fun (v, w, x, y) => ix r i.length (lx r i.length (some ((d, e, f, g, h, sx i r v, j), w, x, y))) else bif n == 2 then chk (fits (h.length + 1) 8) (some ((d, e, f, g, h ++ [0], i, j), o, p, q)) else bif n == 3 then chk (decide (((0 : Nat) ≤ 1) ∧ (1 ≤ j.length))) (some ((d, e, f, g, h, i, List.take 1 j), o, p, q)) else bif n == 4 then (Ks ((o, p, q), [0, (-1), 1000000001])).bind fun (r, s, t, u) => some ((r, e, f, g, h, i, j), s, t, u) else bif n == 5 then chk (decide (1 < j.length)) (chk (decide (1 < j.length)) ((Ks ((o, p, q), [(-1), 3, 1000000001])).bind fun (r, s, t, u) => chk (decide (2 < (List.getD j 1 []).length)) (chk (decide (2 < (List.getD j 1 []).length)) (some ((d, e, f, g, h, i, List.set j 1 (List.set (List.getD j 1 []) 2 r)), s, t, u))))) else some ((d, e, f, g, h, i, j), o, p, q)
def Kdg_e : FEnt := ⟨54, [.cell 2 true 7], [true], [(.box, cc30)], ⟨56, [⟨2, .box, cc19⟩, ⟨55, .box, cc30⟩]⟩, Kdg⟩
theorem Kdg_ok : FnOk Tryz.prog 162 Kdg_e := fnOk_mk (tb := []) (c := (Tryz.f162.body).getD .skip) mixed Tryz.func162 (bC Kee_ok (bC Ke_ok (bC Ks_ok bN))) (by kernel_rfl) (by kernel_rfl) (by kernel_rfl) trivial (by intro d; kernel_rfl)
def Kef : List Int × Int × Int → Option (t53 × List Int × Int × Int)
 | (a, b, c) => (Ke ((a, b, c), 3)).bind fun (d, e, f, g) => (Kcu (e, f, g)).bind fun ((h, i, j, k, l, m, n, o, p, q, r), s, t, u) => (Kdb (d, h, i, j, k, l, m, n, o, p, q, r)).bind fun ((v, w, x, y, z, a1, b1, c1, d1, e1), f1) => (Kat ((s, t, u), 4)).bind fun (g1, h1, i1, j1) => bif g1 then (Kdk (h1, i1, j1)).bind fun (k1, l1, m1, n1) => (Kat ((l1, m1, n1), 14)).bind fun (o1, p1, q1, r1) => bif o1 then (Kdg (p1, q1, r1)).bind fun ((s1, t1, u1, v1, w1, x1, y1), z1, a2, b2) => (Kat ((z1, a2, b2), 20)).bind fun (c2, d2, e2, f2) => bif c2 then (Ks ((d2, e2, f2), [(-1), 5])).bind fun (g2, h2, i2, j2) => some ((g2, w, k1, s1, t1, u1, v1, w1, x1, y1), h2, i2, j2) else some ((v, w, k1, s1, t1, u1, v1, w1, x1, y1), d2, e2, f2) else (Kat ((p1, q1, r1), 20)).bind fun (s1, t1, u1, v1) => bif s1 then (Ks ((t1, u1, v1), [(-1), 5])).bind fun (w1, x1, y1, z1) => some ((w1, w, k1, y, z, a1, b1, c1, d1, e1), x1, y1, z1) else some ((v, w, k1, y, z, a1, b1, c1, d1, e1), t1, u1, v1) else (Kat ((h1, i1, j1), 14)).bind fun (k1, l1, m1, n1) => bif k1 then (Kdg (l1, m1, n1)).bind fun ((o1, p1, q1, r1, s1, t1, u1), v1, w1, x1) => (Kat ((v1, w1, x1), 20)).bind fun (y1, z1, a2, b2) => bif y1 then (Ks ((z1, a2, b2), [(-1), 5])).bind fun (c2, d2, e2, f2) => some ((c2, w, x, o1, p1, q1, r1, s1, t1, u1), d2, e2, f2) else some ((v, w, x, o1, p1, q1, r1, s1, t1, u1), z1, a2, b2) else (Kat ((l1, m1, n1), 20)).bind fun (o1, p1, q1, r1) => bif o1 then (Ks ((p1, q1, r1), [(-1), 5])).bind fun (s1, t1, u1, v1) => some ((s1, w, x, y, z, a1, b1, c1, d1, e1), t1, u1, v1) else some ((v, w, x, y, z, a1, b1, c1, d1, e1), p1, q1, r1)
def Kef_e : FEnt := ⟨30, [.cell 2 true 10], [true], [(.box, cc30)], ⟨32, [⟨2, .box, cc13⟩, ⟨31, .box, cc30⟩]⟩, Kef⟩
theorem Kef_ok : FnOk Tryz.prog 109 Kef_e := fnOk_mk (tb := []) (c := (Tryz.f109.body).getD .skip) mixed Tryz.func109 (bC Ke_ok (bC Kcu_ok (bC Kdb_ok (bC Kat_ok (bC Kdk_ok (bC Kdg_ok (bC Ks_ok bN))))))) (by kernel_rfl) (by kernel_rfl) (by kernel_rfl) trivial (by intro d; kernel_rfl)
def Kf_s250 : Unit × t118 × List t55 × t4 → Option (Unit × t118 × List t55 × t4 ⊕ Unit × t71)
 | (_, (a, b, c, d, e, f, g, h, i, j, k, l, m, n, o, p), q, r, s, t, u) => (some (decide (r < (ln p)))).bind fun v => bif v then ix r p.length (lx r p.length ((some (gx p r (0, 0, 0, [], 0, 0, 0, 0, [], [], []))).bind fun (w, x, y, z, a1, b1, c1, d1, e1, f1, g1) => ix r p.length (lx r p.length ((some (gx p r (0, 0, 0, [], 0, 0, 0, 0, [], [], []))).bind fun (h1, i1, j1, k1, l1, m1, n1, o1, p1, q1, r1) => (Kbq (i1, j1, k1, l1, m1, n1, o1, p1, q1, r1)).bind fun (s1, t1, u1, v1, w1, x1, y1, z1, a2, b2) => (some [(w, s1, t1, u1, v1, w1, x1, y1, z1, a2, b2)]).bind fun c2 => chk (fits (q.length + c2.length) 152) ((some (q ++ c2)).bind fun d2 => some (.inl ((), (a, b, c, d, e, f, g, h, i, j, k, l, m, n, o, p), d2, w64 (r + 1), s, t, u))))))) else some (.inr ((), q, s, t, u))
def Kf_n250 : NEnt := ⟨⟨58, [⟨0, .one, [.bptr 57 0]⟩, ⟨3, .box, cc0⟩, ⟨4, .one, [.own true kk3]⟩, ⟨5, .one, [.dat kI]⟩, ⟨57, .box, cc30⟩]⟩, [(.exit 0, ⟨58, [⟨0, .one, [.bptr 57 0]⟩, ⟨4, .one, [.own true kk3]⟩, ⟨57, .box, cc30⟩]⟩)], lp Kf_s250⟩
def Kf_s1018 : Unit × List t55 × Int × t4 → Option (Unit × List t55 × Int × t4 ⊕ t71)
 | (_, a, b, c, d, e, f) => bif decide (c < b) then (Ke ((d, e, f), 2)).bind fun (g, h, i, j) => (Kef (h, i, j)).bind fun ((k, l, m, n, o, p, q, r, s, t), u, v, w) => (some [(g, k, l, m, n, o, p, q, r, s, t)]).bind fun x => chk (fits (a.length + x.length) 152) ((some (a ++ x)).bind fun y => some (.inl ((), y, b, w64 (c + 1), u, v, w))) else some (.inr (a, d, e, f))
def Kf_n1018 : NEnt := ⟨⟨58, [⟨0, .one, [.bptr 57 0]⟩, ⟨4, .one, [.own true kk3]⟩, ⟨6, .one, [.dat kI]⟩, ⟨7, .one, [.dat kI]⟩, ⟨57, .box, cc30⟩]⟩, [(.exit 2, ⟨58, [⟨4, .one, [.own true kk3]⟩, ⟨57, .box, cc30⟩]⟩)], lp Kf_s1018⟩
def Kf_l15 : Unit × t118 × List Int × Int × Int → Option t71
 | (_, (a, b, c, d, e, f, g, h, i, j, k, l, m, n, o, p), q, r, s) => (lp Kf_s250 ((), (a, b, c, d, e, f, g, h, i, j, k, l, m, n, o, p), [], 0, q, r, s)).bind fun (_, t, u, v, w) => (Ke ((u, v, w), 3)).bind fun (x, y, z, a1) => (lp Kf_s1018 ((), t, x, 0, y, z, a1)).bind fun (b1, c1, d1, e1) => some (b1, c1, d1, e1)
def Kf_n15 : NEnt := ⟨⟨58, [⟨0, .one, [.bptr 57 0]⟩, ⟨3, .box, cc0⟩, ⟨57, .box, cc30⟩]⟩, [(.ret, ⟨58, [⟨2, .one, [.own true kk3]⟩, ⟨57, .box, cc30⟩]⟩)], Kf_l15⟩
def Kf : List Int × Int × Int → Option t71
 | (a, b, c) => (Kcb (a, b, c)).bind fun ((d, e, f, g, h, i, j, k, l, m, n, o, p, q, r, s), t, u, v) => (Kat ((t, u, v), 2)).bind fun (w, x, y, z) => bif w then (Kci (d, e, f, g, h, i, j, k, l, m, n, o, p, q, r, s)).bind fun (a1, b1, c1, d1, e1, f1, g1, h1, i1, j1, k1, l1, m1, n1, o1, p1) => (Kdt (a1, b1, c1, d1, e1, f1, g1, h1, i1, j1, k1, l1, m1, n1, o1, p1)).bind fun (q1, r1, s1, t1, u1, v1, w1, x1, y1, z1, a2, b2, c2, d2, e2, f2) => (Kf_l15 ((), (q1, r1, s1, t1, u1, v1, w1, x1, y1, z1, a2, b2, c2, d2, e2, f2), x, y, z)).bind fun (g2, h2, i2, j2) => some (g2, h2, i2, j2) else (Kf_l15 ((), (d, e, f, g, h, i, j, k, l, m, n, o, p, q, r, s), x, y, z)).bind fun (a1, b1, c1, d1) => some (a1, b1, c1, d1)
def Kf_e : FEnt := ⟨56, [.tmp 2], [true], [(.box, cc30)], ⟨58, [⟨2, .one, [.own true kk3]⟩, ⟨57, .box, cc30⟩]⟩, Kf⟩
theorem Kf_ok : FnOk Tryz.prog 46 Kf_e := fnOk_mk (tb := [(1018, Kf_n1018), (250, Kf_n250), (15, Kf_n15)]) (c := (Tryz.f46.body).getD .skip) mixed Tryz.func46 (bC Kcb_ok (bC Kat_ok (bC Kci_ok (bC Kdt_ok (bC Kbq_ok (bC Ke_ok (bC Kef_ok bN))))))) (by kernel_rfl) (by kernel_rfl) (by kernel_rfl) ⟨nodeLoop (by kernel_rfl) Kf_s1018 (by kernel_rfl) (by intro d; kernel_rfl), nodeLoop (by kernel_rfl) Kf_s250 (by kernel_rfl) (by intro d; kernel_rfl), nodeJoin (by kernel_rfl) (by intro d; kernel_rfl), trivial⟩ (by intro d; kernel_rfl)
def Kdp : List Int → Option (List t55)
 | a => (Kbc a).bind fun (_, b, c, d) => (Kf (b, c, d)).bind fun (e, f, g, h) => some e
def Kdp_e : FEnt := ⟨6, [.tmp 2], [], [(.one, [.dat (.list kB)])], ⟨8, [⟨2, .one, [.own true kk3]⟩]⟩, Kdp⟩
theorem Kdp_ok : FnOk Tryz.prog 8 Kdp_e := fnOk_mk (tb := []) (c := (Tryz.f8.body).getD .skip) mixed Tryz.func8 (bC Kbc_ok (bC Kf_ok bN)) (by kernel_rfl) (by kernel_rfl) (by kernel_rfl) trivial (by intro d; kernel_rfl)
def Kav : Int × Int × Int → Option Bool
 | (a, b, c) => bif decide (a ≥ b) then some (decide (a ≤ c)) else some false
def Kav_e : FEnt := ⟨15, [.tmp 6], [], [(.one, [.dat kI]), (.one, [.dat kI]), (.one, [.dat kI])], ⟨21, [⟨6, .one, [.dat .bool]⟩]⟩, Kav⟩
theorem Kav_ok : FnOk Tryz.prog 70 Kav_e := fnOk_mk (tb := []) (c := (Tryz.f70.body).getD .skip) mixed Tryz.func70 bN (by kernel_rfl) (by kernel_rfl) (by kernel_rfl) trivial (by intro d; kernel_rfl)
def Kbs_s26 : t28 → Option (t28 ⊕ Bool ⊕ Unit)
 | (a, b, c, d) => bif decide (d < c) then ix d b.length ((some (gx b d (0, 0))).bind fun (e, f) => (Kav (e, 0, 9999)).bind fun g => bif !g then some (.inr (.inl false)) else (Kav (f, e, 9999)).bind fun h => bif !h then some (.inr (.inl false)) else bif decide (d > 0) then ix (w64 (d - 1)) a.length ((some (gx a (w64 (d - 1)) (0, 0))).bind fun (i, j) => bif decide (e ≤ (w64 (j + 1))) then some (.inr (.inl false)) else some (.inl (a, b, c, w64 (d + 1)))) else some (.inl (a, b, c, w64 (d + 1)))) else some (.inr (.inr ()))
def Kbs_n26 : NEnt := ⟨⟨43, [⟨0, .one, [.dat kk10]⟩, ⟨5, .one, [.dat kk10]⟩, ⟨6, .one, [.dat kI]⟩, ⟨7, .one, [.dat kI]⟩]⟩, [(.ret, ⟨43, [⟨2, .one, [.dat .bool]⟩]⟩), (.exit 0, ⟨43, []⟩)], lp Kbs_s26⟩
def Kbs : List (Int × Int) → Option Bool
 | a => bx (lp Kbs_s26 (a, a, ln a, 0)) (fun b => some b) fun _ => some true
def Kbs_e : FEnt := ⟨41, [.tmp 2], [], [(.one, [.dat kk10])], ⟨43, [⟨2, .one, [.dat .bool]⟩]⟩, Kbs⟩
theorem Kbs_ok : FnOk Tryz.prog 124 Kbs_e := fnOk_mk (tb := [(26, Kbs_n26)]) (c := (Tryz.f124.body).getD .skip) mixed Tryz.func124 (bC Kav_ok bN) (by kernel_rfl) (by kernel_rfl) (by kernel_rfl) ⟨nodeLoop (by kernel_rfl) Kbs_s26 (by kernel_rfl) (by intro d; kernel_rfl), trivial⟩ (by intro d; kernel_rfl)
def Kdi : List Int → Option (List Int)
 | a => chk (fits a.length 8) (some a)
def Kdi_e : FEnt := ⟨5, [.tmp 2], [], [(.one, [.dat (.list kI)])], ⟨7, [⟨2, .one, [.own true kI]⟩]⟩, Kdi⟩
theorem Kdi_ok : FnOk Tryz.prog 146 Kdi_e := fnOk_mk (tb := []) (c := (Tryz.f146.body).getD .skip) mixed Tryz.func146 bN (by kernel_rfl) (by kernel_rfl) (by kernel_rfl) trivial (by intro d; kernel_rfl)
def Kw_s58 : List Int × List (List Int) × Int × Int → Option (List Int × List (List Int) × Int × Int ⊕ List Int)
 | (a, b, c, d) => bif decide (d < c) then ix d b.length (chk (fits (a.length + (gx b d []).length) 8) (some (.inl (a ++ (gx b d []), b, c, w64 (d + 1))))) else some (.inr a)
def Kw_n58 : NEnt := ⟨⟨26, [⟨3, .one, [.own true kI]⟩, ⟨13, .one, [.dat kk11]⟩, ⟨14, .one, [.dat kI]⟩, ⟨15, .one, [.dat kI]⟩]⟩, [(.exit 0, ⟨26, [⟨3, .one, [.own true kI]⟩]⟩)], lp Kw_s58⟩
def Kw : t37 → Option (List Int)
 | (a, b, c, d, e, f, g) => (Kdi e).bind fun h => chk (fits (h.length + f.length) 8) ((lp Kw_s58 (h ++ f, g, ln g, 0)).bind fun i => some i)
def Kw_e : FEnt := ⟨24, [.tmp 2], [], [(.agg, cc20)], ⟨26, [⟨2, .one, [.own true kI]⟩]⟩, Kw⟩
theorem Kw_ok : FnOk Tryz.prog 119 Kw_e := fnOk_mk (tb := [(58, Kw_n58)]) (c := (Tryz.f119.body).getD .skip) mixed Tryz.func119 (bC Kdi_ok bN) (by kernel_rfl) (by kernel_rfl) (by kernel_rfl) ⟨nodeLoop (by kernel_rfl) Kw_s58 (by kernel_rfl) (by intro d; kernel_rfl), trivial⟩ (by intro d; kernel_rfl)
def Kn_s122 : t37 × t4 → Option (t37 × t4 ⊕ Bool ⊕ t42)
 | ((a, b, c, d, e, f, g), h, i, j, k) => bif decide (k < j) then ix k i.length (lx k i.length ((Kav (gx i k 0, 0, 1000000000)).bind fun l => bif !l then some (.inr (.inl false)) else some (.inl ((a, b, c, d, e, f, g), w64 (h + (gx i k 0)), i, j, w64 (k + 1))))) else some (.inr (.inr ((a, b, c, d, e, f, g), h)))
def Kn_n122 : NEnt := ⟨⟨91, [⟨1, .box, cc20⟩, ⟨3, .one, [.dat kI]⟩, ⟨51, .one, [.own true kI]⟩, ⟨52, .one, [.dat kI]⟩, ⟨53, .one, [.dat kI]⟩]⟩, [(.ret, ⟨91, [⟨2, .one, [.dat .bool]⟩]⟩), (.exit 0, ⟨91, [⟨1, .box, cc20⟩, ⟨3, .one, [.dat kI]⟩]⟩)], lp Kn_s122⟩
def Kn_s250 : t37 × t4 → Option (t37 × t4 ⊕ Bool ⊕ t42)
 | ((a, b, c, d, e, f, g), h, i, j, k) => bif decide (k < j) then ix k i.length (bif decide ((gx i k 0) > 17) then some (.inr (.inl false)) else some (.inl ((a, b, c, d, e, f, g), h, i, j, w64 (k + 1)))) else some (.inr (.inr ((a, b, c, d, e, f, g), h)))
def Kn_n250 : NEnt := ⟨⟨91, [⟨1, .box, cc20⟩, ⟨3, .one, [.dat kI]⟩, ⟨65, .one, [.dat (.list kI)]⟩, ⟨66, .one, [.dat kI]⟩, ⟨67, .one, [.dat kI]⟩]⟩, [(.ret, ⟨91, [⟨2, .one, [.dat .bool]⟩]⟩), (.exit 2, ⟨91, [⟨1, .box, cc20⟩, ⟨3, .one, [.dat kI]⟩]⟩)], lp Kn_s250⟩
def Kn : t37 → Option Bool
 | (a, b, c, d, e, f, g) => bif (ln e) != 8 then some false else bif (ln f) != 8 then some false else bif (ln g) != 2 then some false else chk (decide (0 < g.length)) (bif (ln (List.getD g 0 [])) != 4 then some false else chk (decide (1 < g.length)) (bif (ln (List.getD g 1 [])) != 4 then some false else (Kw (a, b, c, d, e, f, g)).bind fun h => chk (fits (h.length + [a, b, c, d].length) 8) (bx (lp Kn_s122 ((a, b, c, d, e, f, g), 0, h ++ [a, b, c, d], ln (h ++ [a, b, c, d]), 0)) (fun i => some i) fun ((i, j, k, l, m, n, o), p) => bx (lp Kn_s250 ((i, j, k, l, m, n, o), p, n, ln n, 0)) (fun q => some q) fun ((q, r, s, t, u, v, w), x) => bif q == 0 then some (x == 0) else bif decide (s ≤ t) then some (decide (t ≤ 1000000)) else some false)))
def Kn_e : FEnt := ⟨89, [.tmp 2], [], [(.agg, cc20)], ⟨91, [⟨2, .one, [.dat .bool]⟩]⟩, Kn⟩
theorem Kn_ok : FnOk Tryz.prog 99 Kn_e := fnOk_mk (tb := [(250, Kn_n250), (122, Kn_n122)]) (c := (Tryz.f99.body).getD .skip) mixed Tryz.func99 (bC Kw_ok (bC Kav_ok bN)) (by kernel_rfl) (by kernel_rfl) (by kernel_rfl) ⟨nodeLoop (by kernel_rfl) Kn_s250 (by kernel_rfl) (by intro d; kernel_rfl), nodeLoop (by kernel_rfl) Kn_s122 (by kernel_rfl) (by intro d; kernel_rfl), trivial⟩ (by intro d; kernel_rfl)
def Kdm : t53 → Option Bool
 | (a, b, c, d, e, f, g, h, i, j) => (Kav (a, 0, 4)).bind fun k => bif k then (Kav (b, 0, 20)).bind fun l => bif l then (Kbs c).bind fun m => bif m then bif decide ((ln c) > 0) then (Kn (d, e, f, g, h, i, j)).bind fun n => some n else some false else some false else some false else some false
def Kdm_e : FEnt := ⟨27, [.tmp 2], [], [(.agg, cc16)], ⟨29, [⟨2, .one, [.dat .bool]⟩]⟩, Kdm⟩
theorem Kdm_ok : FnOk Tryz.prog 71 Kdm_e := fnOk_mk (tb := []) (c := (Tryz.f71.body).getD .skip) mixed Tryz.func71 (bC Kav_ok (bC Kbs_ok (bC Kn_ok bN))) (by kernel_rfl) (by kernel_rfl) (by kernel_rfl) trivial (by intro d; kernel_rfl)
def Kap_s26 : t67 → Option (t67 ⊕ Bool ⊕ Unit)
 | (a, b, c) => bif decide (c < b) then ix c a.length ((some (gx a c (0, 0, 0, [], 0, 0, 0, 0, [], [], []))).bind fun (d, e, f, g, h, i, j, k, l, m, n) => (Kav (d, 0, 1000)).bind fun o => bif !o then some (.inr (.inl false)) else (Kdm (e, f, g, h, i, j, k, l, m, n)).bind fun p => bif !p then some (.inr (.inl false)) else some (.inl (a, b, w64 (c + 1)))) else some (.inr (.inr ()))
def Kap_n26 : NEnt := ⟨⟨24, [⟨5, .one, [.dat kk1]⟩, ⟨6, .one, [.dat kI]⟩, ⟨7, .one, [.dat kI]⟩]⟩, [(.ret, ⟨24, [⟨2, .one, [.dat .bool]⟩]⟩), (.exit 0, ⟨24, []⟩)], lp Kap_s26⟩
def Kap : List t55 → Option Bool
 | a => bx (lp Kap_s26 (a, ln a, 0)) (fun b => some b) fun _ => some true
def Kap_e : FEnt := ⟨22, [.tmp 2], [], [(.one, [.dat kk1])], ⟨24, [⟨2, .one, [.dat .bool]⟩]⟩, Kap⟩
theorem Kap_ok : FnOk Tryz.prog 22 Kap_e := fnOk_mk (tb := [(26, Kap_n26)]) (c := (Tryz.f22.body).getD .skip) mixed Tryz.func22 (bC Kav_ok (bC Kdm_ok bN)) (by kernel_rfl) (by kernel_rfl) (by kernel_rfl) ⟨nodeLoop (by kernel_rfl) Kap_s26 (by kernel_rfl) (by intro d; kernel_rfl), trivial⟩ (by intro d; kernel_rfl)
def Kaf_s60 : Int × List Int → Option (Int × List Int ⊕ Int × List Int)
 | (a, b) => bif decide (a ≥ 128) then chk (fits (b.length + [IntKind.wrap IntKind.u8 (IntKind.wrap IntKind.i64 (Int.tmod a (128 : Int) + (128 : Int)))].length) 1) (some (.inl (w64 (Int.tdiv a 128), b ++ [IntKind.wrap IntKind.u8 (IntKind.wrap IntKind.i64 (Int.tmod a (128 : Int) + (128 : Int)))]))) else some (.inr (a, b))
def Kaf_n60 : NEnt := ⟨⟨25, [⟨0, .one, [.dat kI]⟩, ⟨3, .one, [.own true kB]⟩]⟩, [(.exit 0, ⟨25, [⟨0, .one, [.dat kI]⟩, ⟨3, .one, [.own true kB]⟩]⟩)], lp Kaf_s60⟩
def Kaf : Int → Option (List Int)
 | a => (Kav (a, 0, 2147483647)).bind fun b => bif !b then some [] else (lp Kaf_s60 (a, [])).bind fun (c, d) => chk (fits (d.length + [IntKind.wrap IntKind.u8 c].length) 1) (some (d ++ [IntKind.wrap IntKind.u8 c]))
def Kaf_e : FEnt := ⟨23, [.tmp 2], [], [(.one, [.dat kI])], ⟨25, [⟨2, .one, [.own true kB]⟩]⟩, Kaf⟩
theorem Kaf_ok : FnOk Tryz.prog 48 Kaf_e := fnOk_mk (tb := [(60, Kaf_n60)]) (c := (Tryz.f48.body).getD .skip) mixed Tryz.func48 (bC Kav_ok bN) (by kernel_rfl) (by kernel_rfl) (by kernel_rfl) ⟨nodeLoop (by kernel_rfl) Kaf_s60 (by kernel_rfl) (by intro d; kernel_rfl), trivial⟩ (by intro d; kernel_rfl)
def Kaq_s58 : t12 → Option (t12 ⊕ List Int)
 | (a, b, c, d) => bif decide (d < c) then ix d b.length ((Kaf (gx b d 0)).bind fun e => chk (fits (a.length + e.length) 1) (some (.inl (a ++ e, b, c, w64 (d + 1))))) else some (.inr a)
def Kaq_n58 : NEnt := ⟨⟨20, [⟨3, .one, [.own true kB]⟩, ⟨6, .one, [.dat (.list kI)]⟩, ⟨7, .one, [.dat kI]⟩, ⟨8, .one, [.dat kI]⟩]⟩, [(.exit 0, ⟨20, [⟨3, .one, [.own true kB]⟩]⟩)], lp Kaq_s58⟩
def Kaq : List Int → Option (List Int)
 | a => (lp Kaq_s58 ([], a, ln a, 0)).bind fun b => some b
def Kaq_e : FEnt := ⟨18, [.tmp 2], [], [(.one, [.dat (.list kI)])], ⟨20, [⟨2, .one, [.own true kB]⟩]⟩, Kaq⟩
theorem Kaq_ok : FnOk Tryz.prog 61 Kaq_e := fnOk_mk (tb := [(58, Kaq_n58)]) (c := (Tryz.f61.body).getD .skip) mixed Tryz.func61 (bC Kaf_ok bN) (by kernel_rfl) (by kernel_rfl) (by kernel_rfl) ⟨nodeLoop (by kernel_rfl) Kaq_s58 (by kernel_rfl) (by intro d; kernel_rfl), trivial⟩ (by intro d; kernel_rfl)
def Kcf_s58 : List Int × t9 → Option (List Int × t9 ⊕ List Int)
 | (a, b, c, d) => bif decide (d < c) then ix d b.length ((some (gx b d (0, 0))).bind fun (e, f) => (Kaq [e, f]).bind fun g => chk (fits (a.length + g.length) 1) (some (.inl (a ++ g, b, c, w64 (d + 1))))) else some (.inr a)
def Kcf_n58 : NEnt := ⟨⟨27, [⟨3, .one, [.own true kB]⟩, ⟨9, .one, [.dat kk10]⟩, ⟨10, .one, [.dat kI]⟩, ⟨11, .one, [.dat kI]⟩]⟩, [(.exit 0, ⟨27, [⟨3, .one, [.own true kB]⟩]⟩)], lp Kcf_s58⟩
def Kcf : List (Int × Int) → Option (List Int)
 | a => (Kaf (ln a)).bind fun b => (lp Kcf_s58 (b, a, ln a, 0)).bind fun c => some c
def Kcf_e : FEnt := ⟨25, [.tmp 2], [], [(.one, [.dat kk10])], ⟨27, [⟨2, .one, [.own true kB]⟩]⟩, Kcf⟩
theorem Kcf_ok : FnOk Tryz.prog 62 Kcf_e := fnOk_mk (tb := [(58, Kcf_n58)]) (c := (Tryz.f62.body).getD .skip) mixed Tryz.func62 (bC Kaf_ok (bC Kaq_ok bN)) (by kernel_rfl) (by kernel_rfl) (by kernel_rfl) ⟨nodeLoop (by kernel_rfl) Kcf_s58 (by kernel_rfl) (by intro d; kernel_rfl), trivial⟩ (by intro d; kernel_rfl)
def Kdn : t37 → Option (List Int)
 | (a, b, c, d, e, f, g) => (Kn (a, b, c, d, e, f, g)).bind fun h => bif !h then some [] else (Kw (a, b, c, d, e, f, g)).bind fun i => chk (fits ([a, b, c, d].length + i.length) 8) ((Kaq ([a, b, c, d] ++ i)).bind fun j => some j)
def Kdn_e : FEnt := ⟨19, [.tmp 2], [], [(.agg, cc20)], ⟨21, [⟨2, .one, [.own true kB]⟩]⟩, Kdn⟩
theorem Kdn_ok : FnOk Tryz.prog 63 Kdn_e := fnOk_mk (tb := []) (c := (Tryz.f63.body).getD .skip) mixed Tryz.func63 (bC Kn_ok (bC Kw_ok (bC Kaq_ok bN))) (by kernel_rfl) (by kernel_rfl) (by kernel_rfl) trivial (by intro d; kernel_rfl)
def Kcv : t55 → Option (List Int)
 | (a, b, c, d, e, f, g, h, i, j, k) => (some [(a, b, c, d, e, f, g, h, i, j, k)]).bind fun l => (Kap l).bind fun m => bif !m then some [] else (Kaq [a, b, c]).bind fun n => (Kcf d).bind fun o => chk (fits (n.length + o.length) 1) ((Kdn (e, f, g, h, i, j, k)).bind fun p => chk (fits ((n ++ o).length + p.length) 1) (some ((n ++ o) ++ p)))
def Kcv_e : FEnt := ⟨30, [.tmp 2], [], [(.agg, cc14)], ⟨32, [⟨2, .one, [.own true kB]⟩]⟩, Kcv⟩
theorem Kcv_ok : FnOk Tryz.prog 16 Kcv_e := fnOk_mk (tb := []) (c := (Tryz.f16.body).getD .skip) mixed Tryz.func16 (bC Kap_ok (bC Kaq_ok (bC Kcf_ok (bC Kdn_ok bN)))) (by kernel_rfl) (by kernel_rfl) (by kernel_rfl) trivial (by intro d; kernel_rfl)
def Kam_s122 : List Int × t67 → Option (List Int × t67 ⊕ List Int)
 | (a, b, c, d) => bif decide (d < c) then ix d b.length ((some (gx b d (0, 0, 0, [], 0, 0, 0, 0, [], [], []))).bind fun (e, f, g, h, i, j, k, l, m, n, o) => (Kcv (e, f, g, h, i, j, k, l, m, n, o)).bind fun p => (Kaf (ln p)).bind fun q => chk (fits (a.length + q.length) 1) (chk (fits ((a ++ q).length + p.length) 1) (some (.inl ((a ++ q) ++ p, b, c, w64 (d + 1)))))) else some (.inr a)
def Kam_n122 : NEnt := ⟨⟨38, [⟨3, .one, [.own true kB]⟩, ⟨18, .one, [.dat kk1]⟩, ⟨19, .one, [.dat kI]⟩, ⟨20, .one, [.dat kI]⟩]⟩, [(.exit 0, ⟨38, [⟨3, .one, [.own true kB]⟩]⟩)], lp Kam_s122⟩
def Kam : List t55 → Option (List Int)
 | a => (Kap a).bind fun b => bif !b then some [] else (some (decide ((ln a) > 200))).bind fun c => bif c then some [] else (Kaf (ln a)).bind fun d => (lp Kam_s122 (d, a, ln a, 0)).bind fun e => some e
def Kam_e : FEnt := ⟨36, [.tmp 2], [], [(.one, [.dat kk1])], ⟨38, [⟨2, .one, [.own true kB]⟩]⟩, Kam⟩
theorem Kam_ok : FnOk Tryz.prog 9 Kam_e := fnOk_mk (tb := [(122, Kam_n122)]) (c := (Tryz.f9.body).getD .skip) mixed Tryz.func9 (bC Kap_ok (bC Kaf_ok (bC Kcv_ok bN))) (by kernel_rfl) (by kernel_rfl) (by kernel_rfl) ⟨nodeLoop (by kernel_rfl) Kam_s122 (by kernel_rfl) (by intro d; kernel_rfl), trivial⟩ (by intro d; kernel_rfl)
def Kad_s122 : t5 → Option (t5 ⊕ Int × Int × Bool ⊕ Unit)
 | (a, b, c, d) => bif decide (d < 5) then bif decide ((w64 (b + d)) < (ln a)) then ix (w64 (b + d)) a.length (chk (!(decide ((w64 (7 * d)) < 0))) ((some (w64 ((Int.tmod (w64 (gx a (w64 (b + d)) 0)) 128) * ((2 : Int) ^ min (Int.toNat (IntKind.wrap IntKind.i64 ((7 : Int) * d))) (64 : Nat))))).bind fun e => (some (decide ((w64 (gx a (w64 (b + d)) 0)) < 128))).bind fun f => bif f then (Kaf (w64 (c + e))).bind fun g => bif (ln g) != (w64 (d + 1)) then some (.inr (.inl (0, 0, false))) else some (.inr (.inl (w64 (c + e), w64 ((w64 (b + d)) + 1), true))) else some (.inl (a, b, w64 (c + e), w64 (d + 1))))) else some (.inr (.inr ())) else some (.inr (.inr ()))
def Kad_n122 : NEnt := ⟨⟨59, [⟨0, .one, [.dat (.list kB)]⟩, ⟨1, .one, [.dat kI]⟩, ⟨7, .one, [.dat kI]⟩, ⟨8, .one, [.dat kI]⟩]⟩, [(.ret, ⟨59, [⟨4, .one, [.dat kI]⟩, ⟨5, .one, [.dat kI]⟩, ⟨6, .one, [.dat .bool]⟩]⟩), (.exit 0, ⟨59, []⟩)], lp Kad_s122⟩
def Kad : List Int × Int → Option (Int × Int × Bool)
 | (a, b) => (Kav (b, 0, w64 ((ln a) - 1))).bind fun c => bif !c then some (0, 0, false) else bx (lp Kad_s122 (a, b, 0, 0)) (fun (d, e, f) => some (d, e, f)) fun _ => some (0, 0, false)
def Kad_e : FEnt := ⟨55, [.tmp 4, .tmp 5, .tmp 6], [], [(.one, [.dat (.list kB)]), (.one, [.dat kI])], ⟨59, [⟨4, .one, [.dat kI]⟩, ⟨5, .one, [.dat kI]⟩, ⟨6, .one, [.dat .bool]⟩]⟩, Kad⟩
theorem Kad_ok : FnOk Tryz.prog 110 Kad_e := fnOk_mk (tb := [(122, Kad_n122)]) (c := (Tryz.f110.body).getD .skip) mixed Tryz.func110 (bC Kav_ok (bC Kaf_ok bN)) (by kernel_rfl) (by kernel_rfl) (by kernel_rfl) ⟨nodeLoop (by kernel_rfl) Kad_s122 (by kernel_rfl) (by intro d; kernel_rfl), trivial⟩ (by intro d; kernel_rfl)
def Kae : List Int × Int × Bool → Option t8
 | (a, b, c) => (Kad (a, b)).bind fun (d, e, f) => bif c then some (0, a, b, true) else bif !f then some (0, a, b, true) else some (d, a, e, c)
def Kae_e : FEnt := ⟨35, [.tmp 2], [true], [(.box, cc29)], ⟨37, [⟨2, .one, [.dat kI]⟩, ⟨36, .box, cc29⟩]⟩, Kae⟩
theorem Kae_ok : FnOk Tryz.prog 49 Kae_e := fnOk_mk (tb := []) (c := (Tryz.f49.body).getD .skip) mixed Tryz.func49 (bC Kad_ok bN) (by kernel_rfl) (by kernel_rfl) (by kernel_rfl) trivial (by intro d; kernel_rfl)
def Kai_s122 : Unit × List (Int × Int) × Int × t8 → Option (Unit × List (Int × Int) × Int × t8 ⊕ List (Int × Int) × List Int × Int × Bool)
 | (_, a, b, c, d, e, f) => bif decide (c < b) then bif !f then (Kae (d, e, f)).bind fun (g, h, i, j) => (Kae (h, i, j)).bind fun (k, l, m, n) => chk (fits (a.length + [(g, k)].length) 16) (some (.inl ((), a ++ [(g, k)], b, w64 (c + 1), l, m, n))) else some (.inr (a, d, e, f)) else some (.inr (a, d, e, f))
def Kai_n122 : NEnt := ⟨⟨31, [⟨0, .one, [.bptr 30 0]⟩, ⟨3, .one, cc34⟩, ⟨4, .one, [.dat kI]⟩, ⟨5, .one, [.dat kI]⟩, ⟨30, .box, cc29⟩]⟩, [(.exit 0, ⟨31, [⟨3, .one, cc34⟩, ⟨30, .box, cc29⟩]⟩)], lp Kai_s122⟩
def Kai : List Int × Int × Bool → Option (List (Int × Int) × List Int × Int × Bool)
 | (a, b, c) => (Kae (a, b, c)).bind fun (d, e, f, g) => (lp Kai_s122 ((), [], d, 0, e, f, g)).bind fun (h, i, j, k) => some (h, i, j, k)
def Kai_e : FEnt := ⟨29, [.tmp 2], [true], [(.box, cc29)], ⟨31, [⟨2, .one, cc34⟩, ⟨30, .box, cc29⟩]⟩, Kai⟩
theorem Kai_ok : FnOk Tryz.prog 50 Kai_e := fnOk_mk (tb := [(122, Kai_n122)]) (c := (Tryz.f50.body).getD .skip) mixed Tryz.func50 (bC Kae_ok bN) (by kernel_rfl) (by kernel_rfl) (by kernel_rfl) ⟨nodeLoop (by kernel_rfl) Kai_s122 (by kernel_rfl) (by intro d; kernel_rfl), trivial⟩ (by intro d; kernel_rfl)
def Kx_s58 : Unit × Int × List Int × t8 → Option (Unit × Int × List Int × t8 ⊕ List Int × List Int × Int × Bool)
 | (_, a, b, c, d, e, f) => bif decide (c < a) then bif !f then (Kae (d, e, f)).bind fun (g, h, i, j) => chk (fits (b.length + [g].length) 8) (some (.inl ((), a, b ++ [g], w64 (c + 1), h, i, j))) else some (.inr (b, d, e, f)) else some (.inr (b, d, e, f))
def Kx_n58 : NEnt := ⟨⟨29, [⟨0, .one, [.bptr 26 0]⟩, ⟨1, .one, [.dat kI]⟩, ⟨5, .one, [.own true kI]⟩, ⟨6, .one, [.dat kI]⟩, ⟨26, .box, cc29⟩]⟩, [(.exit 0, ⟨29, [⟨5, .one, [.own true kI]⟩, ⟨26, .box, cc29⟩]⟩)], lp Kx_s58⟩
def Kx : (List Int × Int × Bool) × Int → Option (List Int × List Int × Int × Bool)
 | ((a, b, c), d) => (lp Kx_s58 ((), d, [], 0, a, b, c)).bind fun (e, f, g, h) => some (e, f, g, h)
def Kx_e : FEnt := ⟨25, [.tmp 4], [true, false], [(.box, cc29), (.one, [.dat kI])], ⟨29, [⟨4, .one, [.own true kI]⟩, ⟨26, .box, cc29⟩]⟩, Kx⟩
theorem Kx_ok : FnOk Tryz.prog 111 Kx_e := fnOk_mk (tb := [(58, Kx_n58)]) (c := (Tryz.f111.body).getD .skip) mixed Tryz.func111 (bC Kae_ok bN) (by kernel_rfl) (by kernel_rfl) (by kernel_rfl) ⟨nodeLoop (by kernel_rfl) Kx_s58 (by kernel_rfl) (by intro d; kernel_rfl), trivial⟩ (by intro d; kernel_rfl)
def Kda : List Int × Int × Bool → Option (t37 × List Int × Int × Bool)
 | (a, b, c) => (Kae (a, b, c)).bind fun (d, e, f, g) => (Kae (e, f, g)).bind fun (h, i, j, k) => (Kae (i, j, k)).bind fun (l, m, n, o) => (Kae (m, n, o)).bind fun (p, q, r, s) => (Kx ((q, r, s), 8)).bind fun (t, u, v, w) => (Kx ((u, v, w), 8)).bind fun (x, y, z, a1) => (Kx ((y, z, a1), 4)).bind fun (b1, c1, d1, e1) => (Kx ((c1, d1, e1), 4)).bind fun (f1, g1, h1, i1) => some ((d, h, l, p, t, x, [b1, f1]), g1, h1, i1)
def Kda_e : FEnt := ⟨26, [.cell 2 true 7], [true], [(.box, cc29)], ⟨28, [⟨2, .box, cc19⟩, ⟨27, .box, cc29⟩]⟩, Kda⟩
theorem Kda_ok : FnOk Tryz.prog 51 Kda_e := fnOk_mk (tb := []) (c := (Tryz.f51.body).getD .skip) mixed Tryz.func51 (bC Kae_ok (bC Kx_ok bN)) (by kernel_rfl) (by kernel_rfl) (by kernel_rfl) trivial (by intro d; kernel_rfl)
def Kdl : List Int × List Int → Option Bool
 | (a, b) => some ((List.map (fun (n : Int) => UInt8.ofNat (Int.toNat n)) a) == (List.map (fun (n : Int) => UInt8.ofNat (Int.toNat n)) b))
def Kdl_e : FEnt := ⟨10, [.tmp 4], [], [(.one, [.dat (.list kB)]), (.one, [.dat (.list kB)])], ⟨14, [⟨4, .one, [.dat .bool]⟩]⟩, Kdl⟩
theorem Kdl_ok : FnOk Tryz.prog 52 Kdl_e := fnOk_mk (tb := []) (c := (Tryz.f52.body).getD .skip) mixed Tryz.func52 bN (by kernel_rfl) (by kernel_rfl) (by kernel_rfl) trivial (by intro d; kernel_rfl)
def Kv_s250 : List Int × Unit × Int × List t55 × t8 → Option (List Int × Unit × Int × List t55 × t8 ⊕ List Int × Unit × List t55 × List Int × Int × Bool)
 | (a, _, b, c, d, e, f, g) => bif decide (d < b) then bif !g then (Kae (e, f, g)).bind fun (h, i, j, k) => (Kae (i, j, k)).bind fun (l, m, n, o) => (Kae (m, n, o)).bind fun (p, q, r, s) => (Kae (q, r, s)).bind fun (t, u, v, w) => (Kai (u, v, w)).bind fun (x, y, z, a1) => (Kda (y, z, a1)).bind fun ((b1, c1, d1, e1, f1, g1, h1), i1, j1, k1) => (some [(l, p, t, x, b1, c1, d1, e1, f1, g1, h1)]).bind fun l1 => chk (fits (c.length + l1.length) 152) ((some (c ++ l1)).bind fun m1 => some (.inl (a, (), b, m1, w64 (d + 1), i1, j1, k1))) else some (.inr (a, (), c, e, f, g)) else some (.inr (a, (), c, e, f, g))
def Kv_n250 : NEnt := ⟨⟨72, [⟨0, .one, [.dat (.list kB)]⟩, ⟨4, .one, [.bptr 11 0]⟩, ⟨5, .one, [.dat kI]⟩, ⟨6, .one, [.own true kk3]⟩, ⟨7, .one, [.dat kI]⟩, ⟨11, .box, cc29⟩]⟩, [(.exit 0, ⟨72, [⟨0, .one, [.dat (.list kB)]⟩, ⟨4, .one, [.bptr 11 0]⟩, ⟨6, .one, [.own true kk3]⟩, ⟨11, .box, cc29⟩]⟩)], lp Kv_s250⟩
def Kv : List Int → Option (List t55 × Bool)
 | a => (Kae (a, 0, false)).bind fun (b, c, d, e) => (lp Kv_s250 (a, (), b, [], 0, c, d, e)).bind fun (f, _, g, h, i, j) => bif j then some ([], false) else (Kap g).bind fun k => bif !k then some ([], false) else (some (decide ((ln g) > 200))).bind fun l => bif l then some ([], false) else (Kam g).bind fun m => (Kdl (m, f)).bind fun n => bif !n then some ([], false) else some (g, true)
def Kv_e : FEnt := ⟨70, [.tmp 2, .tmp 3], [], [(.one, [.dat (.list kB)])], ⟨72, [⟨2, .one, [.own true kk3]⟩, ⟨3, .one, [.dat .bool]⟩]⟩, Kv⟩
theorem Kv_ok : FnOk Tryz.prog 10 Kv_e := fnOk_mk (tb := [(250, Kv_n250)]) (c := (Tryz.f10.body).getD .skip) mixed Tryz.func10 (bC Kae_ok (bC Kai_ok (bC Kda_ok (bC Kap_ok (bC Kam_ok (bC Kdl_ok bN)))))) (by kernel_rfl) (by kernel_rfl) (by kernel_rfl) ⟨nodeLoop (by kernel_rfl) Kv_s250 (by kernel_rfl) (by intro d; kernel_rfl), trivial⟩ (by intro d; kernel_rfl)
def Kak_s26 : List t55 × Int → Option (List t55 × Int ⊕ Bool ⊕ Unit)
 | (a, b) => (some (decide (b < (ln a)))).bind fun c => bif c then ix b a.length ((some (gx a b (0, 0, 0, [], 0, 0, 0, 0, [], [], []))).bind fun (d, e, f, g, h, i, j, k, l, m, n) => (Kb (d, 0, 1000)).bind fun o => bif !o then some (.inr (.inl false)) else ix b a.length ((some (gx a b (0, 0, 0, [], 0, 0, 0, 0, [], [], []))).bind fun (p, q, r, s, t, u, v, w, x, y, z) => (Kbu (q, r, s, t, u, v, w, x, y, z)).bind fun a1 => bif !a1 then some (.inr (.inl false)) else some (.inl (a, w64 (b + 1))))) else some (.inr (.inr ()))
def Kak_n26 : NEnt := ⟨⟨28, [⟨0, .one, [.dat kk1]⟩, ⟨3, .one, [.dat kI]⟩]⟩, [(.ret, ⟨28, [⟨2, .one, [.dat .bool]⟩]⟩), (.exit 0, ⟨28, []⟩)], lp Kak_s26⟩
def Kak : List t55 → Option Bool
 | a => bx (lp Kak_s26 (a, 0)) (fun b => some b) fun _ => some true
def Kak_e : FEnt := ⟨26, [.tmp 2], [], [(.one, [.dat kk1])], ⟨28, [⟨2, .one, [.dat .bool]⟩]⟩, Kak⟩
theorem Kak_ok : FnOk Tryz.prog 11 Kak_e := fnOk_mk (tb := [(26, Kak_n26)]) (c := (Tryz.f11.body).getD .skip) mixed Tryz.func11 (bC Kb_ok (bC Kbu_ok bN)) (by kernel_rfl) (by kernel_rfl) (by kernel_rfl) ⟨nodeLoop (by kernel_rfl) Kak_s26 (by kernel_rfl) (by intro d; kernel_rfl), trivial⟩ (by intro d; kernel_rfl)
def Kbk_s58 : t3 → Option (t3 ⊕ Bool ⊕ Unit)
 | (a, b, c) => bif decide (c < (ln a)) then ix c a.length (ix c b.length (bif (gx a c 0) != (gx b c 0) then some (.inr (.inl false)) else some (.inl (a, b, w64 (c + 1))))) else some (.inr (.inr ()))
def Kbk_n58 : NEnt := ⟨⟨30, [⟨0, .one, [.dat (.list kI)]⟩, ⟨1, .one, [.dat (.list kI)]⟩, ⟨5, .one, [.dat kI]⟩]⟩, [(.ret, ⟨30, [⟨4, .one, [.dat .bool]⟩]⟩), (.exit 0, ⟨30, []⟩)], lp Kbk_s58⟩
def Kbk : List Int × List Int → Option Bool
 | (a, b) => bif (ln a) != (ln b) then some false else bx (lp Kbk_s58 (a, b, 0)) (fun c => some c) fun _ => some true
def Kbk_e : FEnt := ⟨26, [.tmp 4], [], [(.one, [.dat (.list kI)]), (.one, [.dat (.list kI)])], ⟨30, [⟨4, .one, [.dat .bool]⟩]⟩, Kbk⟩
theorem Kbk_ok : FnOk Tryz.prog 164 Kbk_e := fnOk_mk (tb := [(58, Kbk_n58)]) (c := (Tryz.f164.body).getD .skip) mixed Tryz.func164 bN (by kernel_rfl) (by kernel_rfl) (by kernel_rfl) ⟨nodeLoop (by kernel_rfl) Kbk_s58 (by kernel_rfl) (by intro d; kernel_rfl), trivial⟩ (by intro d; kernel_rfl)
def Kbz_s58 : t37 × t42 → Option (t37 × t42 ⊕ Bool ⊕ Unit)
 | ((a, b, c, d, e, f, g), (h, i, j, k, l, m, n), o) => bif decide (o < (ln g)) then ix o g.length (ix o n.length ((Kbk (gx g o [], gx n o [])).bind fun p => bif !p then some (.inr (.inl false)) else some (.inl ((a, b, c, d, e, f, g), (h, i, j, k, l, m, n), w64 (o + 1))))) else some (.inr (.inr ()))
def Kbz_n58 : NEnt := ⟨⟨80, [⟨2, .box, cc20⟩, ⟨3, .box, cc20⟩, ⟨5, .one, [.dat kI]⟩]⟩, [(.ret, ⟨80, [⟨4, .one, [.dat .bool]⟩]⟩), (.exit 0, ⟨80, []⟩)], lp Kbz_s58⟩
def Kbz : t37 × t37 → Option Bool
 | ((a, b, c, d, e, f, g), h, i, j, k, l, m, n) => bif a != h then some false else bif b != i then some false else bif c != j then some false else bif d != k then some false else (Kbk (e, l)).bind fun o => bif !o then some false else (Kbk (f, m)).bind fun p => bif !p then some false else bif (ln g) != (ln n) then some false else bx (lp Kbz_s58 ((a, b, c, d, e, f, g), (h, i, j, k, l, m, n), 0)) (fun q => some q) fun _ => some true
def Kbz_e : FEnt := ⟨76, [.tmp 4], [], [(.agg, cc20), (.agg, cc20)], ⟨80, [⟨4, .one, [.dat .bool]⟩]⟩, Kbz⟩
theorem Kbz_ok : FnOk Tryz.prog 115 Kbz_e := fnOk_mk (tb := [(58, Kbz_n58)]) (c := (Tryz.f115.body).getD .skip) mixed Tryz.func115 (bC Kbk_ok bN) (by kernel_rfl) (by kernel_rfl) (by kernel_rfl) ⟨nodeLoop (by kernel_rfl) Kbz_s58 (by kernel_rfl) (by intro d; kernel_rfl), trivial⟩ (by intro d; kernel_rfl)
def Kds : t53 × t53 → Option Bool
 | ((a, b, c, d, e, f, g, h, i, j), k, l, m, n, o, p, q, r, s, t) => bif a == k then bif b == l then (Kah (c, m)).bind fun u => bif u then (Kbz ((d, e, f, g, h, i, j), n, o, p, q, r, s, t)).bind fun v => some v else some false else some false else some false
def Kds_e : FEnt := ⟨31, [.tmp 4], [], [(.agg, cc16), (.agg, cc16)], ⟨35, [⟨4, .one, [.dat .bool]⟩]⟩, Kds⟩
theorem Kds_ok : FnOk Tryz.prog 55 Kds_e := fnOk_mk (tb := []) (c := (Tryz.f55.body).getD .skip) mixed Tryz.func55 (bC Kah_ok (bC Kbz_ok bN)) (by kernel_rfl) (by kernel_rfl) (by kernel_rfl) trivial (by intro d; kernel_rfl)
def Kbo_s58 : List t55 × List t55 × Int → Option (List t55 × List t55 × Int ⊕ Bool ⊕ Unit)
 | (a, b, c) => (some (decide (c < (ln a)))).bind fun d => bif d then ix c a.length ((some (gx a c (0, 0, 0, [], 0, 0, 0, 0, [], [], []))).bind fun (e, f, g, h, i, j, k, l, m, n, o) => ix c b.length ((some (gx b c (0, 0, 0, [], 0, 0, 0, 0, [], [], []))).bind fun (p, q, r, s, t, u, v, w, x, y, z) => bif e != p then some (.inr (.inl false)) else ix c a.length ((some (gx a c (0, 0, 0, [], 0, 0, 0, 0, [], [], []))).bind fun (a1, b1, c1, d1, e1, f1, g1, h1, i1, j1, k1) => ix c b.length ((some (gx b c (0, 0, 0, [], 0, 0, 0, 0, [], [], []))).bind fun (l1, m1, n1, o1, p1, q1, r1, s1, t1, u1, v1) => (Kds ((b1, c1, d1, e1, f1, g1, h1, i1, j1, k1), m1, n1, o1, p1, q1, r1, s1, t1, u1, v1)).bind fun w1 => bif !w1 then some (.inr (.inl false)) else some (.inl (a, b, w64 (c + 1))))))) else some (.inr (.inr ()))
def Kbo_n58 : NEnt := ⟨⟨46, [⟨0, .one, [.dat kk1]⟩, ⟨1, .one, [.dat kk1]⟩, ⟨5, .one, [.dat kI]⟩]⟩, [(.ret, ⟨46, [⟨4, .one, [.dat .bool]⟩]⟩), (.exit 0, ⟨46, []⟩)], lp Kbo_s58⟩
def Kbo : List t55 × List t55 → Option Bool
 | (a, b) => (some ((ln a) != (ln b))).bind fun c => bif c then some false else bx (lp Kbo_s58 (a, b, 0)) (fun d => some d) fun _ => some true
def Kbo_e : FEnt := ⟨42, [.tmp 4], [], [(.one, [.dat kk1]), (.one, [.dat kk1])], ⟨46, [⟨4, .one, [.dat .bool]⟩]⟩, Kbo⟩
theorem Kbo_ok : FnOk Tryz.prog 12 Kbo_e := fnOk_mk (tb := [(58, Kbo_n58)]) (c := (Tryz.f12.body).getD .skip) mixed Tryz.func12 (bC Kds_ok bN) (by kernel_rfl) (by kernel_rfl) (by kernel_rfl) ⟨nodeLoop (by kernel_rfl) Kbo_s58 (by kernel_rfl) (by intro d; kernel_rfl), trivial⟩ (by intro d; kernel_rfl)
def Kay_s60 : Int × List Int → Option (Int × List Int ⊕ Int × List Int)
 | (a, b) => bif decide (a > 127) then chk (fits (b.length + [IntKind.wrap IntKind.u8 (IntKind.wrap IntKind.i64 (Int.tmod a (128 : Int) + (128 : Int)))].length) 1) (some (.inl (w64 (Int.tdiv a 128), b ++ [IntKind.wrap IntKind.u8 (IntKind.wrap IntKind.i64 (Int.tmod a (128 : Int) + (128 : Int)))]))) else some (.inr (a, b))
def Kay_n60 : NEnt := ⟨⟨27, [⟨0, .one, [.dat kI]⟩, ⟨3, .one, [.own true kB]⟩]⟩, [(.exit 0, ⟨27, [⟨0, .one, [.dat kI]⟩, ⟨3, .one, [.own true kB]⟩]⟩)], lp Kay_s60⟩
def Kay : Int → Option (List Int)
 | a => (Kb (a, 0, 2147483647)).bind fun b => bif !b then some [] else (lp Kay_s60 (a, [])).bind fun (c, d) => chk (fits (d.length + [IntKind.wrap IntKind.u8 c].length) 1) (some (d ++ [IntKind.wrap IntKind.u8 c]))
def Kay_e : FEnt := ⟨25, [.tmp 2], [], [(.one, [.dat kI])], ⟨27, [⟨2, .one, [.own true kB]⟩]⟩, Kay⟩
theorem Kay_ok : FnOk Tryz.prog 116 Kay_e := fnOk_mk (tb := [(60, Kay_n60)]) (c := (Tryz.f116.body).getD .skip) mixed Tryz.func116 (bC Kb_ok bN) (by kernel_rfl) (by kernel_rfl) (by kernel_rfl) ⟨nodeLoop (by kernel_rfl) Kay_s60 (by kernel_rfl) (by intro d; kernel_rfl), trivial⟩ (by intro d; kernel_rfl)
def Kbf_s58 : t3 → Option (t3 ⊕ List Int)
 | (a, b, c) => bif decide (c < (ln a)) then ix c a.length ((Kay (gx a c 0)).bind fun d => chk (fits (b.length + d.length) 1) (some (.inl (a, b ++ d, w64 (c + 1))))) else some (.inr b)
def Kbf_n58 : NEnt := ⟨⟨22, [⟨0, .one, [.dat (.list kI)]⟩, ⟨3, .one, [.own true kB]⟩, ⟨4, .one, [.dat kI]⟩]⟩, [(.exit 0, ⟨22, [⟨3, .one, [.own true kB]⟩]⟩)], lp Kbf_s58⟩
def Kbf : List Int → Option (List Int)
 | a => (lp Kbf_s58 (a, [], 0)).bind fun b => some b
def Kbf_e : FEnt := ⟨20, [.tmp 2], [], [(.one, [.dat (.list kI)])], ⟨22, [⟨2, .one, [.own true kB]⟩]⟩, Kbf⟩
theorem Kbf_ok : FnOk Tryz.prog 64 Kbf_e := fnOk_mk (tb := [(58, Kbf_n58)]) (c := (Tryz.f64.body).getD .skip) mixed Tryz.func64 (bC Kay_ok bN) (by kernel_rfl) (by kernel_rfl) (by kernel_rfl) ⟨nodeLoop (by kernel_rfl) Kbf_s58 (by kernel_rfl) (by intro d; kernel_rfl), trivial⟩ (by intro d; kernel_rfl)
def Kbr_s250 : t37 × List Int × Int → Option (t37 × List Int × Int ⊕ List Int)
 | ((a, b, c, d, e, f, g), h, i) => bif decide (i < (ln g)) then ix i g.length (chk (fits (h.length + (gx g i []).length) 8) (some (.inl ((a, b, c, d, e, f, g), h ++ (gx g i []), w64 (i + 1))))) else some (.inr h)
def Kbr_n250 : NEnt := ⟨⟨39, [⟨1, .box, cc20⟩, ⟨3, .one, [.own true kI]⟩, ⟨4, .one, [.dat kI]⟩]⟩, [(.exit 0, ⟨39, [⟨3, .one, [.own true kI]⟩]⟩)], lp Kbr_s250⟩
def Kbr : t37 → Option (List Int)
 | (a, b, c, d, e, f, g) => chk (fits ([a, b, c, d].length + e.length) 8) (chk (fits (([a, b, c, d] ++ e).length + f.length) 8) ((lp Kbr_s250 ((a, b, c, d, e, f, g), ([a, b, c, d] ++ e) ++ f, 0)).bind fun h => some h))
def Kbr_e : FEnt := ⟨37, [.tmp 2], [], [(.agg, cc20)], ⟨39, [⟨2, .one, [.own true kI]⟩]⟩, Kbr⟩
theorem Kbr_ok : FnOk Tryz.prog 120 Kbr_e := fnOk_mk (tb := [(250, Kbr_n250)]) (c := (Tryz.f120.body).getD .skip) mixed Tryz.func120 bN (by kernel_rfl) (by kernel_rfl) (by kernel_rfl) ⟨nodeLoop (by kernel_rfl) Kbr_s250 (by kernel_rfl) (by intro d; kernel_rfl), trivial⟩ (by intro d; kernel_rfl)
def Kdz : t37 → Option (List Int)
 | (a, b, c, d, e, f, g) => (Kag (a, b, c, d, e, f, g)).bind fun h => bif !h then some [] else (Kbr (a, b, c, d, e, f, g)).bind fun i => (Kbf i).bind fun j => some j
def Kdz_e : FEnt := ⟨10, [.tmp 2], [], [(.agg, cc20)], ⟨12, [⟨2, .one, [.own true kB]⟩]⟩, Kdz⟩
theorem Kdz_ok : FnOk Tryz.prog 65 Kdz_e := fnOk_mk (tb := []) (c := (Tryz.f65.body).getD .skip) mixed Tryz.func65 (bC Kag_ok (bC Kbr_ok (bC Kbf_ok bN))) (by kernel_rfl) (by kernel_rfl) (by kernel_rfl) trivial (by intro d; kernel_rfl)
def Kaw_s122 : t55 × List Int × Int → Option (t55 × List Int × Int ⊕ t55 × List Int)
 | ((a, b, c, d, e, f, g, h, i, j, k), l, m) => bif decide (m < (ln d)) then ix m d.length ((some (gx d m (0, 0))).bind fun (n, o) => ix m d.length ((some (gx d m (0, 0))).bind fun (p, q) => (Kbf [n, q]).bind fun r => chk (fits (l.length + r.length) 1) (some (.inl ((a, b, c, d, e, f, g, h, i, j, k), l ++ r, w64 (m + 1)))))) else some (.inr ((a, b, c, d, e, f, g, h, i, j, k), l))
def Kaw_n122 : NEnt := ⟨⟨58, [⟨1, .box, cc14⟩, ⟨3, .one, [.own true kB]⟩, ⟨4, .one, [.dat kI]⟩]⟩, [(.exit 0, ⟨58, [⟨1, .box, cc14⟩, ⟨3, .one, [.own true kB]⟩]⟩)], lp Kaw_s122⟩
def Kaw : t55 → Option (List Int)
 | (a, b, c, d, e, f, g, h, i, j, k) => (some [(a, b, c, d, e, f, g, h, i, j, k)]).bind fun l => (Kak l).bind fun m => bif !m then some [] else (Kbf [a, b, c, ln d]).bind fun n => (lp Kaw_s122 ((a, b, c, d, e, f, g, h, i, j, k), n, 0)).bind fun ((o, p, q, r, s, t, u, v, w, x, y), z) => (Kdz (s, t, u, v, w, x, y)).bind fun a1 => chk (fits (z.length + a1.length) 1) (some (z ++ a1))
def Kaw_e : FEnt := ⟨56, [.tmp 2], [], [(.agg, cc14)], ⟨58, [⟨2, .one, [.own true kB]⟩]⟩, Kaw⟩
theorem Kaw_ok : FnOk Tryz.prog 17 Kaw_e := fnOk_mk (tb := [(122, Kaw_n122)]) (c := (Tryz.f17.body).getD .skip) mixed Tryz.func17 (bC Kak_ok (bC Kbf_ok (bC Kdz_ok bN))) (by kernel_rfl) (by kernel_rfl) (by kernel_rfl) ⟨nodeLoop (by kernel_rfl) Kaw_s122 (by kernel_rfl) (by intro d; kernel_rfl), trivial⟩ (by intro d; kernel_rfl)
def Kax_s122 : List t55 × List Int × Int → Option (List t55 × List Int × Int ⊕ List Int)
 | (a, b, c) => (some (decide (c < (ln a)))).bind fun d => bif d then ix c a.length ((some (gx a c (0, 0, 0, [], 0, 0, 0, 0, [], [], []))).bind fun (e, f, g, h, i, j, k, l, m, n, o) => (Kaw (e, f, g, h, i, j, k, l, m, n, o)).bind fun p => (Kay (ln p)).bind fun q => chk (fits (b.length + q.length) 1) (chk (fits ((b ++ q).length + p.length) 1) (some (.inl (a, (b ++ q) ++ p, w64 (c + 1)))))) else some (.inr b)
def Kax_n122 : NEnt := ⟨⟨40, [⟨0, .one, [.dat kk1]⟩, ⟨3, .one, [.own true kB]⟩, ⟨4, .one, [.dat kI]⟩]⟩, [(.exit 0, ⟨40, [⟨3, .one, [.own true kB]⟩]⟩)], lp Kax_s122⟩
def Kax : List t55 → Option (List Int)
 | a => (Kak a).bind fun b => bif !b then some [] else (some (decide ((ln a) > 200))).bind fun c => bif c then some [] else (Kay (ln a)).bind fun d => (lp Kax_s122 (a, d, 0)).bind fun e => some e
def Kax_e : FEnt := ⟨38, [.tmp 2], [], [(.one, [.dat kk1])], ⟨40, [⟨2, .one, [.own true kB]⟩]⟩, Kax⟩
theorem Kax_ok : FnOk Tryz.prog 56 Kax_e := fnOk_mk (tb := [(122, Kax_n122)]) (c := (Tryz.f56.body).getD .skip) mixed Tryz.func56 (bC Kak_ok (bC Kay_ok (bC Kaw_ok bN))) (by kernel_rfl) (by kernel_rfl) (by kernel_rfl) ⟨nodeLoop (by kernel_rfl) Kax_s122 (by kernel_rfl) (by intro d; kernel_rfl), trivial⟩ (by intro d; kernel_rfl)
def Kdq : List Int → Option (List Int)
 | a => (Kbc a).bind fun (_, b, c, d) => (Kf (b, c, d)).bind fun (e, f, g, h) => (Kax e).bind fun i => bif decide ((ln i) > 0) then (Ke ((f, g, h), 6)).bind fun (j, k, l, m) => bif j == 0 then chk (fits (i.length + 1) 1) (some (i ++ [0])) else bif j == 1 then (Ke ((k, l, m), ln i)).bind fun (n, o, p, q) => g0 n (chk (decide ((0 ≤ n.toNat) ∧ (n.toNat ≤ i.length))) (some (List.take n.toNat i))) else bif j == 2 then (Ke ((k, l, m), ln i)).bind fun (n, o, p, q) => (Kcl (o, p, q)).bind fun (r, s, t, u) => ix n i.length (lx n i.length (some (sx i n (IntKind.wrap IntKind.u8 r)))) else some i else some i
def Kdq_e : FEnt := ⟨40, [.tmp 2], [], [(.one, [.dat (.list kB)])], ⟨42, [⟨2, .one, [.own true kB]⟩]⟩, Kdq⟩
theorem Kdq_ok : FnOk Tryz.prog 13 Kdq_e := fnOk_mk (tb := []) (c := (Tryz.f13.body).getD .skip) mixed Tryz.func13 (bC Kbc_ok (bC Kf_ok (bC Kax_ok (bC Ke_ok (bC Kcl_ok bN))))) (by kernel_rfl) (by kernel_rfl) (by kernel_rfl) trivial (by intro d; kernel_rfl)
def Kq_s58 : t5 → Option (t5 ⊕ Int × Int × Bool ⊕ Unit)
 | (a, b, c, d) => bif decide (d < 5) then bif decide (b < 0) then some (.inr (.inl (0, 0, false))) else bif decide (b ≥ (w64 ((ln a) - d))) then some (.inr (.inl (0, 0, false))) else ix (w64 (b + d)) a.length (chk (!(decide ((w64 (7 * d)) < 0))) ((some (w64 ((Int.tmod (w64 (gx a (w64 (b + d)) 0)) 128) * ((2 : Int) ^ min (Int.toNat (IntKind.wrap IntKind.i64 ((7 : Int) * d))) (64 : Nat))))).bind fun e => (some (decide ((w64 (gx a (w64 (b + d)) 0)) < 128))).bind fun f => bif f then bif decide (d > 0) then bif (w64 (gx a (w64 (b + d)) 0)) == 0 then some (.inr (.inl (0, 0, false))) else (some (decide ((w64 (Int.ofNat (BitVec.toNat (BitVec.ofInt (64 : Nat) c ||| BitVec.ofInt (64 : Nat) e)))) > 2147483647))).bind fun g => bif g then some (.inr (.inl (0, 0, false))) else some (.inr (.inl (w64 (Int.ofNat (BitVec.toNat (BitVec.ofInt (64 : Nat) c ||| BitVec.ofInt (64 : Nat) e))), w64 ((w64 (b + d)) + 1), true))) else (some (decide ((w64 (Int.ofNat (BitVec.toNat (BitVec.ofInt (64 : Nat) c ||| BitVec.ofInt (64 : Nat) e)))) > 2147483647))).bind fun g => bif g then some (.inr (.inl (0, 0, false))) else some (.inr (.inl (w64 (Int.ofNat (BitVec.toNat (BitVec.ofInt (64 : Nat) c ||| BitVec.ofInt (64 : Nat) e))), w64 ((w64 (b + d)) + 1), true))) else some (.inl (a, b, w64 (Int.ofNat (BitVec.toNat (BitVec.ofInt (64 : Nat) c ||| BitVec.ofInt (64 : Nat) e))), w64 (d + 1))))) else some (.inr (.inr ()))
def Kq_n58 : NEnt := ⟨⟨59, [⟨0, .one, [.dat (.list kB)]⟩, ⟨1, .one, [.dat kI]⟩, ⟨7, .one, [.dat kI]⟩, ⟨8, .one, [.dat kI]⟩]⟩, [(.ret, ⟨59, [⟨4, .one, [.dat kI]⟩, ⟨5, .one, [.dat kI]⟩, ⟨6, .one, [.dat .bool]⟩]⟩), (.exit 0, ⟨59, []⟩)], lp Kq_s58⟩
def Kq : List Int × Int → Option (Int × Int × Bool)
 | (a, b) => bx (lp Kq_s58 (a, b, 0, 0)) (fun (c, d, e) => some (c, d, e)) fun _ => some (0, 0, false)
def Kq_e : FEnt := ⟨55, [.tmp 4, .tmp 5, .tmp 6], [], [(.one, [.dat (.list kB)]), (.one, [.dat kI])], ⟨59, [⟨4, .one, [.dat kI]⟩, ⟨5, .one, [.dat kI]⟩, ⟨6, .one, [.dat .bool]⟩]⟩, Kq⟩
theorem Kq_ok : FnOk Tryz.prog 59 Kq_e := fnOk_mk (tb := [(58, Kq_n58)]) (c := (Tryz.f59.body).getD .skip) mixed Tryz.func59 bN (by kernel_rfl) (by kernel_rfl) (by kernel_rfl) ⟨nodeLoop (by kernel_rfl) Kq_s58 (by kernel_rfl) (by intro d; kernel_rfl), trivial⟩ (by intro d; kernel_rfl)
def Kp_s58 : List Int × Int × Int × List Int × Int → Option (List Int × Int × Int × List Int × Int ⊕ List Int × Int × Bool ⊕ Int × List Int)
 | (a, b, c, d, e) => bif decide (e < c) then (Kq (a, b)).bind fun (f, g, h) => bif !h then some (.inr (.inl ([], 0, false))) else chk (fits (d.length + [f].length) 8) (some (.inl (a, g, c, d ++ [f], w64 (e + 1)))) else some (.inr (.inr (b, d)))
def Kp_n58 : NEnt := ⟨⟨43, [⟨0, .one, [.dat (.list kB)]⟩, ⟨1, .one, [.dat kI]⟩, ⟨2, .one, [.dat kI]⟩, ⟨9, .one, [.own true kI]⟩, ⟨10, .one, [.dat kI]⟩]⟩, [(.ret, ⟨43, [⟨6, .one, [.own true kI]⟩, ⟨7, .one, [.dat kI]⟩, ⟨8, .one, [.dat .bool]⟩]⟩), (.exit 0, ⟨43, [⟨1, .one, [.dat kI]⟩, ⟨9, .one, [.own true kI]⟩]⟩)], lp Kp_s58⟩
def Kp : List Int × Int × Int → Option (List Int × Int × Bool)
 | (a, b, c) => bx (lp Kp_s58 (a, b, c, [], 0)) (fun (d, e, f) => some (d, e, f)) fun (d, e) => some (e, d, true)
def Kp_e : FEnt := ⟨37, [.tmp 6, .tmp 7, .tmp 8], [], [(.one, [.dat (.list kB)]), (.one, [.dat kI]), (.one, [.dat kI])], ⟨43, [⟨6, .one, [.own true kI]⟩, ⟨7, .one, [.dat kI]⟩, ⟨8, .one, [.dat .bool]⟩]⟩, Kp⟩
theorem Kp_ok : FnOk Tryz.prog 117 Kp_e := fnOk_mk (tb := [(58, Kp_n58)]) (c := (Tryz.f117.body).getD .skip) mixed Tryz.func117 (bC Kq_ok bN) (by kernel_rfl) (by kernel_rfl) (by kernel_rfl) ⟨nodeLoop (by kernel_rfl) Kp_s58 (by kernel_rfl) (by intro d; kernel_rfl), trivial⟩ (by intro d; kernel_rfl)
def Kco : List Int → Option (t37 × Bool)
 | a => (Kp (a, 0, 28)).bind fun (b, c, d) => bif !d then some ((0, 0, 0, 0, [], [], []), false) else bif c != (ln a) then some ((0, 0, 0, 0, [], [], []), false) else chk (decide (0 < b.length)) (chk (decide (0 < b.length)) (chk (decide (1 < b.length)) (chk (decide (1 < b.length)) (chk (decide (2 < b.length)) (chk (decide (2 < b.length)) (chk (decide (3 < b.length)) (chk (decide (3 < b.length)) (chk (decide (((4 : Nat) ≤ 12) ∧ (12 ≤ b.length))) (chk (fits (0 + (List.drop 4 (List.take 12 b)).length) 8) (chk (decide (((12 : Nat) ≤ 20) ∧ (20 ≤ b.length))) (chk (fits (0 + (List.drop 12 (List.take 20 b)).length) 8) ((some (w64 ((w64 ((w64 (4 + 8)) + 8)) + 4))).bind fun e => g0 e (chk (decide ((20 ≤ e.toNat) ∧ (e.toNat ≤ b.length))) (chk (fits (0 + (List.drop 20 (List.take e.toNat b)).length) 8) ((some (w64 ((w64 ((w64 (4 + 8)) + 8)) + 4))).bind fun f => g0 f (chk (decide ((f.toNat ≤ b.length) ∧ (b.length ≤ b.length))) (chk (fits (0 + (List.drop f.toNat b).length) 8) ((some [[] ++ (List.drop 20 (List.take e.toNat b)), [] ++ (List.drop f.toNat b)]).bind fun g => (Kag (List.getD b 0 0, List.getD b 1 0, List.getD b 2 0, List.getD b 3 0, [] ++ (List.drop 4 (List.take 12 b)), [] ++ (List.drop 12 (List.take 20 b)), g)).bind fun h => bif !h then some ((0, 0, 0, 0, [], [], []), false) else some ((List.getD b 0 0, List.getD b 1 0, List.getD b 2 0, List.getD b 3 0, [] ++ (List.drop 4 (List.take 12 b)), [] ++ (List.drop 12 (List.take 20 b)), g), true)))))))))))))))))))
def Kco_e : FEnt := ⟨79, [.cell 2 true 7, .tmp 3], [], [(.one, [.dat (.list kB)])], ⟨81, [⟨2, .box, cc19⟩, ⟨3, .one, [.dat .bool]⟩]⟩, Kco⟩
theorem Kco_ok : FnOk Tryz.prog 118 Kco_e := fnOk_mk (tb := []) (c := (Tryz.f118.body).getD .skip) mixed Tryz.func118 (bC Kp_ok (bC Kag_ok bN)) (by kernel_rfl) (by kernel_rfl) (by kernel_rfl) trivial (by intro d; kernel_rfl)
def Kan_s1018 : List Int × (Int × Int × Int × Unit × t23) × List Int × Int × (Int × t44) × Int → Option (List Int × (Int × Int × Int × Unit × t23) × List Int × Int × (Int × t44) × Int ⊕ List Int × (Int × Int × Int × Unit × t23) × Int × Int × t44)
 | (a, (b, c, d, _, e, f, g, h, _, _, _), i, j, (k, l, m, n, o, p, q, r, _, _, _), s) => (some (decide ((w64 (s + 1)) < (ln i)))).bind fun t => bif t then ix s i.length (lx s i.length (ix (w64 (s + 1)) i.length (lx (w64 (s + 1)) i.length (chk (fits (n.length + [(gx i s 0, gx i (w64 (s + 1)) 0)].length) 16) ((some (n ++ [(gx i s 0, gx i (w64 (s + 1)) 0)])).bind fun u => some (.inl (a, (b, c, d, (), e, f, g, h, (), (), ()), i, j, (k, l, m, u, o, p, q, r, (), (), ()), w64 (s + 2)))))))) else some (.inr (a, (b, c, d, (), e, f, g, h, (), (), ()), j, k, l, m, n, o, p, q, r, (), (), ()))
def Kan_n1018 : NEnt := ⟨⟨93, [⟨0, .one, [.dat (.list kB)]⟩, ⟨2, .box, cc18⟩, ⟨7, .one, [.own true kI]⟩, ⟨8, .one, [.dat kI]⟩, ⟨9, .box, cc17⟩, ⟨10, .one, [.dat kI]⟩]⟩, [(.exit 0, ⟨93, [⟨0, .one, [.dat (.list kB)]⟩, ⟨2, .box, cc18⟩, ⟨8, .one, [.dat kI]⟩, ⟨9, .box, cc17⟩]⟩)], lp Kan_s1018⟩
def Kan : List Int → Option (t55 × Bool)
 | a => (Kp (a, 0, 4)).bind fun (b, c, d) => bif !d then some ((0, 0, 0, [], 0, 0, 0, 0, [], [], []), false) else chk (decide (3 < b.length)) (chk (decide (3 < b.length)) (bif decide ((List.getD b 3 0) > (ln a)) then some ((0, 0, 0, [], 0, 0, 0, 0, [], [], []), false) else chk (decide (3 < b.length)) (chk (decide (3 < b.length)) ((Kp (a, c, w64 (2 * (List.getD b 3 0)))).bind fun (e, f, g) => bif !g then some ((0, 0, 0, [], 0, 0, 0, 0, [], [], []), false) else chk (decide (0 < b.length)) (chk (decide (0 < b.length)) (chk (decide (1 < b.length)) (chk (decide (1 < b.length)) (chk (decide (2 < b.length)) (chk (decide (2 < b.length)) ((lp Kan_s1018 (a, (0, 0, 0, (), 0, 0, 0, 0, (), (), ()), e, f, (List.getD b 0 0, List.getD b 1 0, List.getD b 2 0, [], 0, 0, 0, 0, (), (), ()), 0)).bind fun (h, (i, j, k, _, l, m, n, o, _, _, _), p, q, r, s, t, u, v, w, x, _, _, _) => g0 p (chk (decide ((p.toNat ≤ h.length) ∧ (h.length ≤ h.length))) ((Kco (List.drop p.toNat h)).bind fun ((y, z, a1, b1, c1, d1, e1), f1) => some ((q, r, s, t, y, z, a1, b1, c1, d1, e1), f1)))))))))))))
def Kan_e : FEnt := ⟨91, [.cell 2 true 11, .tmp 3], [], [(.one, [.dat (.list kB)])], ⟨93, [⟨2, .box, [.dat kI, .dat kI, .dat kI, .own true (.pair kI kI), .dat kI, .dat kI, .dat kI, .dat kI, .own true kI, .own true kI, .own true (.list kI)]⟩, ⟨3, .one, [.dat .bool]⟩]⟩, Kan⟩
theorem Kan_ok : FnOk Tryz.prog 60 Kan_e := fnOk_mk (tb := [(1018, Kan_n1018)]) (c := (Tryz.f60.body).getD .skip) mixed Tryz.func60 (bC Kp_ok (bC Kco_ok bN)) (by kernel_rfl) (by kernel_rfl) (by kernel_rfl) ⟨nodeLoop (by kernel_rfl) Kan_s1018 (by kernel_rfl) (by intro d; kernel_rfl), trivial⟩ (by intro d; kernel_rfl)
def Kaj_s250 : List Int × List t55 × Int × Int × Int → Option (List Int × List t55 × Int × Int × Int ⊕ List t55 × Bool ⊕ List Int × List t55)
 | (a, b, c, d, e) => bif decide (e < c) then (Kq (a, d)).bind fun (f, g, h) => bif !h then some (.inr (.inl ([], false))) else bif decide (f > (w64 ((ln a) - g))) then some (.inr (.inl ([], false))) else g0 g (g0 (w64 (g + f)) (chk (decide ((g.toNat ≤ (w64 (g + f)).toNat) ∧ ((w64 (g + f)).toNat ≤ a.length))) ((Kan (List.drop g.toNat (List.take (w64 (g + f)).toNat a))).bind fun ((i, j, k, l, m, n, o, p, q, r, s), t) => bif !t then some (.inr (.inl ([], false))) else (some [(i, j, k, l, m, n, o, p, q, r, s)]).bind fun u => chk (fits (b.length + u.length) 152) ((some (b ++ u)).bind fun v => some (.inl (a, v, c, w64 (g + f), w64 (e + 1))))))) else some (.inr (.inr (a, b)))
def Kaj_n250 : NEnt := ⟨⟨86, [⟨0, .one, [.dat (.list kB)]⟩, ⟨4, .one, [.own true kk3]⟩, ⟨5, .one, [.dat kI]⟩, ⟨6, .one, [.dat kI]⟩, ⟨8, .one, [.dat kI]⟩]⟩, [(.ret, ⟨86, [⟨2, .one, [.own true kk3]⟩, ⟨3, .one, [.dat .bool]⟩]⟩), (.exit 0, ⟨86, [⟨0, .one, [.dat (.list kB)]⟩, ⟨4, .one, [.own true kk3]⟩]⟩)], lp Kaj_s250⟩
def Kaj : List Int → Option (List t55 × Bool)
 | a => (Kq (a, 0)).bind fun (b, c, d) => bif !d then some ([], false) else bif decide (b > 200) then some ([], false) else bx (lp Kaj_s250 (a, [], b, c, 0)) (fun (e, f) => some (e, f)) fun (e, f) => (Kak f).bind fun g => bif !g then some ([], false) else (Kax f).bind fun h => bif !((List.map (fun (n : Int) => UInt8.ofNat (Int.toNat n)) h) == (List.map (fun (n : Int) => UInt8.ofNat (Int.toNat n)) e)) then some ([], false) else some (f, true)
def Kaj_e : FEnt := ⟨84, [.tmp 2, .tmp 3], [], [(.one, [.dat (.list kB)])], ⟨86, [⟨2, .one, [.own true kk3]⟩, ⟨3, .one, [.dat .bool]⟩]⟩, Kaj⟩
theorem Kaj_ok : FnOk Tryz.prog 14 Kaj_e := fnOk_mk (tb := [(250, Kaj_n250)]) (c := (Tryz.f14.body).getD .skip) mixed Tryz.func14 (bC Kq_ok (bC Kan_ok (bC Kak_ok (bC Kax_ok bN)))) (by kernel_rfl) (by kernel_rfl) (by kernel_rfl) ⟨nodeLoop (by kernel_rfl) Kaj_s250 (by kernel_rfl) (by intro d; kernel_rfl), trivial⟩ (by intro d; kernel_rfl)
def Kdo : List Int → Option t55
 | a => (Kbc a).bind fun (_, b, c, d) => (Kf (b, c, d)).bind fun (e, f, g, h) => bif (ln e) == 0 then some (0, 0, 0, [], 0, 0, 0, 0, [], [], []) else (some (w64 ((ln e) - 1))).bind fun i => ix i e.length (lx i e.length ((some (gx e i (0, 0, 0, [], 0, 0, 0, 0, [], [], []))).bind fun (j, k, l, m, n, o, p, q, r, s, t) => some (j, k, l, m, n, o, p, q, r, s, t)))
def Kdo_e : FEnt := ⟨17, [.cell 2 true 11], [], [(.one, [.dat (.list kB)])], ⟨19, [⟨2, .box, cc14⟩]⟩, Kdo⟩
theorem Kdo_ok : FnOk Tryz.prog 15 Kdo_e := fnOk_mk (tb := []) (c := (Tryz.f15.body).getD .skip) mixed Tryz.func15 (bC Kbc_ok (bC Kf_ok bN)) (by kernel_rfl) (by kernel_rfl) (by kernel_rfl) trivial (by intro d; kernel_rfl)
def Kbt_l127 : List Int → Option Bool
 | a => (Kdq a).bind fun b => (Kv b).bind fun (c, d) => (Kaj b).bind fun (e, f) => (Kdo a).bind fun (g, h, i, j, k, l, m, n, o, p, q) => bif d == f then bif !d then (Kcv (g, h, i, j, k, l, m, n, o, p, q)).bind fun r => (Kaw (g, h, i, j, k, l, m, n, o, p, q)).bind fun s => some ((List.map (fun (n : Int) => UInt8.ofNat (Int.toNat n)) r) == (List.map (fun (n : Int) => UInt8.ofNat (Int.toNat n)) s)) else (Kam c).bind fun r => bif (List.map (fun (n : Int) => UInt8.ofNat (Int.toNat n)) r) == (List.map (fun (n : Int) => UInt8.ofNat (Int.toNat n)) b) then (Kcv (g, h, i, j, k, l, m, n, o, p, q)).bind fun s => (Kaw (g, h, i, j, k, l, m, n, o, p, q)).bind fun t => some ((List.map (fun (n : Int) => UInt8.ofNat (Int.toNat n)) s) == (List.map (fun (n : Int) => UInt8.ofNat (Int.toNat n)) t)) else some false else some false
def Kbt_n127 : NEnt := ⟨⟨82, [⟨0, .one, [.dat (.list kB)]⟩]⟩, [(.ret, ⟨82, [⟨2, .one, [.dat .bool]⟩]⟩)], Kbt_l127⟩
def Kbt : List Int → Option Bool
 | a => (Keh a).bind fun b => bif b then some true else (Kdp a).bind fun c => (Kam c).bind fun d => (Kv d).bind fun (e, f) => (Kak c).bind fun g => bif g then (some (decide ((ln c) ≤ 200))).bind fun h => bif !(f == h) then some false else bif f then (Kbo (e, c)).bind fun i => bif !i then some false else (Kbt_l127 a).bind fun j => some j else (Kbt_l127 a).bind fun i => some i else bif !(f == false) then some false else bif f then (Kbo (e, c)).bind fun h => bif !h then some false else (Kbt_l127 a).bind fun i => some i else (Kbt_l127 a).bind fun h => some h
def Kbt_e : FEnt := ⟨80, [.tmp 2], [], [(.one, [.dat (.list kB)])], ⟨82, [⟨2, .one, [.dat .bool]⟩]⟩, Kbt⟩
theorem Kbt_ok : FnOk Tryz.prog 3 Kbt_e := fnOk_mk (tb := [(127, Kbt_n127)]) (c := (Tryz.f3.body).getD .skip) mixed Tryz.func3 (bC Keh_ok (bC Kdp_ok (bC Kam_ok (bC Kv_ok (bC Kak_ok (bC Kbo_ok (bC Kdq_ok (bC Kaj_ok (bC Kdo_ok (bC Kcv_ok (bC Kaw_ok bN))))))))))) (by kernel_rfl) (by kernel_rfl) (by kernel_rfl) ⟨nodeJoin (by kernel_rfl) (by intro d; kernel_rfl), trivial⟩ (by intro d; kernel_rfl)
end Go.Proofs.YtppjdpcmaipoaaaGreat.Tw
namespace Go.Mach
set_option linter.unusedVariables false
theorem dT {p : Prop} [Decidable p] (h : p) : decide p = true := decide_eq_true h
theorem dF {p : Prop} [Decidable p] (h : ¬p) : decide p = false := decide_eq_false h
theorem chk_ok {R : Type} {b : Bool} (h : b = true) (k : Option R) : chk b k = k := by rw [h]; rfl
theorem chk_tt {R : Type} (k : Option R) : chk true k = k := rfl
theorem chkD {R : Type} {p : Prop} [Decidable p] (h : p) (k : Option R) : chk (decide p) k = k := chk_ok (decide_eq_true h) k
theorem wr {n : Int} (h1 : -9223372036854775808 ≤ n) (h2 : n ≤ 9223372036854775807) : IntKind.wrap .i64 n = n := Go.IntWalk.i64_in n ⟨h1, h2⟩
theorem w64_ok {n : Int} (h1 : -9223372036854775808 ≤ n) (h2 : n ≤ 9223372036854775807) : w64 n = n := wr h1 h2
theorem wsucc {i : Nat} (h : i ≤ 1048576) : w64 ((i : Int) + 1) = ((i + 1 : Nat) : Int) := by rw [w64_ok (by omega) (by omega)]; rfl
theorem ixn {R : Type} {i n : Nat} (h : i < n) (k : Option R) : ix (i : Int) n k = k := ix_ok (by omega) (by omega) k
theorem lxn {R : Type} {i n : Nat} (h : i < n) (k : Option R) : lx (i : Int) n k = k := lx_ok (by omega) k
theorem gxn {α : Type} (l : List α) (i : Nat) (d : α) : gx l (i : Int) d = l.getD i d := rfl
theorem sxn {α : Type} (l : List α) (i : Nat) (v : α) : sx l (i : Int) v = l.set i v := rfl
theorem lnn {α : Type} (l : List α) : ln l = (l.length : Int) := rfl
theorem cast0 : ((0 : Nat) : Int) = 0 := rfl
theorem ltn {i n : Nat} (h : i < n) : decide ((i : Int) < (n : Int)) = true := decide_eq_true (by omega)
theorem ltF (n : Nat) : decide ((n : Int) < (n : Int)) = false := decide_eq_false (by omega)
theorem fits_ok {n b : Nat} (h : n ≤ 4294967296) (h2 : (2 * n + 512) * b ≤ 140737488355328) : fits n b = true := by
 unfold fits
 rw [decide_eq_true_eq]
 exact ⟨h, h2⟩
theorem fitsB {n b : Nat} (h : n ≤ 4194304) (hb : b ≤ 1000) : fits n b = true := by
 refine fits_ok (by omega) ?_
 calc (2 * n + 512) * b ≤ (2 * 4194304 + 512) * 1000 := Nat.mul_le_mul (by omega) hb
  _ ≤ _ := by omega
theorem fitsC {R : Type} {n b : Nat} (h : n ≤ 4194304) (hb : b ≤ 1000) (k : Option R) : chk (fits n b) k = k := by
 refine chk_ok (fits_ok (by omega) ?_) k
 calc (2 * n + 512) * b ≤ (2 * 4194304 + 512) * 1000 := Nat.mul_le_mul (by omega) hb
  _ ≤ _ := by omega
theorem getD_mem {α : Type} {l : List α} {i : Nat} {d : α} (h : i < l.length) : l.getD i d ∈ l := by
 simp [List.getD_eq_getElem?_getD, List.getElem?_eq_getElem h]
theorem getD_get {α : Type} {l : List α} {i : Nat} {d : α} (h : i < l.length) : l.getD i d = l[i] := by
 simp [List.getD_eq_getElem?_getD, List.getElem?_eq_getElem h]
theorem take_snoc {α : Type} {l : List α} {i : Nat} (d : α) (h : i < l.length) : l.take (i + 1) = l.take i ++ [l.getD i d] := by
 rw [List.take_succ_eq_append_getElem h, getD_get h]
theorem drop_cons {α : Type} {l : List α} {i : Nat} (d : α) (h : i < l.length) : l.drop i = l.getD i d :: l.drop (i + 1) := by
 rw [List.drop_eq_getElem_cons h, getD_get h]
theorem bnot_cond {β : Type} (b : Bool) (x y : β) : (bif !b then x else y) = bif b then y else x := by cases b <;> rfl
theorem bif_dec {β : Type} (p : Prop) [Decidable p] (x y : β) : (bif decide p then x else y) = if p then x else y := by by_cases h : p <;> simp [h]
theorem lp_from {σ β : Type} {S : σ → Option (σ ⊕ β)} (st : Nat → σ) {n : Nat} {b : β} (h1 : ∀ i, i < n → S (st i) = some (.inl (st (i + 1)))) (h2 : S (st n) = some (.inr b)) : ∀ f k, k ≤ n → n - k < f → iter S f (st k) = some b
 | 0, k, _, h => by omega
 | f + 1, k, hk, h => by
  simp only [iter]
  by_cases hn : k < n
  ·rw [h1 k hn]; exact lp_from st h1 h2 f (k + 1) (by omega) (by omega)
  ·obtain rfl : k = n := by omega
   rw [h2]
theorem lp_det {σ β : Type} {S : σ → Option (σ ⊕ β)} (st : Nat → σ) {n : Nat} (hn : n ≤ 1048576) {b : β} (h1 : ∀ i, i < n → S (st i) = some (.inl (st (i + 1)))) (h2 : S (st n) = some (.inr b)) : lp S (st 0) = some b :=
 lp_from st h1 h2 bigN 0 (Nat.zero_le _) (by simp only [bigN]; omega)
theorem lp_exit_from {σ β : Type} {S : σ → Option (σ ⊕ β)} (st : Nat → σ) {n : Nat} (p : Nat → Bool) {t e : β}
  (h1 : ∀ i, i < n → S (st i) = some (bif p i then .inl (st (i + 1)) else .inr e)) (h2 : S (st n) = some (.inr t)) : ∀ (f k : Nat), k ≤ n → n - k < f → iter S f (st k) = some (bif (List.range' k (n - k)).all p then t else e)
 | 0, k, _, h => by omega
 | f + 1, k, hk, h => by
  simp only [iter]
  by_cases hn : k < n
  ·rw [h1 k hn, show n - k = (n - (k + 1)) + 1 by omega, List.range'_succ, List.all_cons]
   cases hp : p k with
   | true =>
    simp only [cond_true, Bool.true_and]
    exact lp_exit_from st p h1 h2 f (k + 1) (by omega) (by omega)
   | false => simp
  ·obtain rfl : k = n := by omega
   rw [h2]
   simp
theorem all_range {α : Type} (d : α) (p : α → Bool) (a : List α) : (List.range a.length).all (fun i => p (a.getD i d)) = a.all p := by
 rw [Bool.eq_iff_iff]
 simp only [List.all_eq_true, List.mem_range]
 constructor
 ·intro q x hx
  obtain ⟨i, hi⟩ := List.getElem?_of_mem hx
  have hil := (List.getElem?_eq_some_iff.1 hi).1
  have := q i hil
  simpa [List.getD_eq_getElem?_getD, hi] using this
 ·intro q i hi
  exact q _ (getD_mem hi)
theorem lp_all {α σ β : Type} {S : σ → Option (σ ⊕ β)} (l : List α) (d : α) (st : Nat → σ) (hl : l.length ≤ 1048576) (p : α → Bool) {t e : β}
  (h1 : ∀ i, i < l.length → l.getD i d ∈ l → S (st i) = some (bif p (l.getD i d) then .inl (st (i + 1)) else .inr e)) (h2 : S (st l.length) = some (.inr t)) : lp S (st 0) = some (bif l.all p then t else e) := by
 have := lp_exit_from st (n := l.length) (fun i => p (l.getD i d)) (fun i hi => h1 i hi (getD_mem hi)) h2 bigN 0 (Nat.zero_le _) (by simp only [bigN]; omega)
 rw [Nat.sub_zero, ← List.range_eq_range', all_range d p l] at this
 exact this
def goL {α γ β : Type} (g : γ → α → γ ⊕ β) (out : γ → β) : List α → γ → β
 | [], a => out a
 | x :: r, a => match g a x with
  | .inl a' => goL g out r a'
  | .inr b => b
theorem lp_go_from {α γ σ β : Type} {S : σ → Option (σ ⊕ β)} (l : List α) (d : α) (mk : γ → Nat → σ) (g : γ → α → γ ⊕ β) (out : γ → β) (I : γ → Nat → Prop)
  (h1 : ∀ a i, i < l.length → I a i → l.getD i d ∈ l → S (mk a i) = some (match g a (l.getD i d) with | .inl a' => .inl (mk a' (i + 1)) | .inr b => .inr b) ∧ ∀ a', g a (l.getD i d) = .inl a' → I a' (i + 1))
  (h2 : ∀ a, I a l.length → S (mk a l.length) = some (.inr (out a))) : ∀ f k a, I a k → k ≤ l.length → l.length - k < f → iter S f (mk a k) = some (goL g out (l.drop k) a)
 | 0, k, a, _, _, h => by omega
 | f + 1, k, a, hi, hk, h => by
  simp only [iter]
  by_cases hn : k < l.length
  ·obtain ⟨e1, e2⟩ := h1 a k hn hi (getD_mem hn)
   rw [e1, drop_cons d hn]
   simp only [goL]
   cases hg : g a (l.getD k d) with
   | inl a' => exact lp_go_from l d mk g out I h1 h2 f (k + 1) a' (e2 a' hg) (by omega) (by omega)
   | inr b => rfl
  ·obtain rfl : k = l.length := by omega
   rw [h2 a hi, List.drop_length]
   rfl
theorem lp_go {α γ σ β : Type} {S : σ → Option (σ ⊕ β)} (l : List α) (d : α) (mk : γ → Nat → σ) (g : γ → α → γ ⊕ β) (out : γ → β) (I : γ → Nat → Prop) (hl : l.length ≤ 1048576)
  (h1 : ∀ a i, i < l.length → I a i → l.getD i d ∈ l → S (mk a i) = some (match g a (l.getD i d) with | .inl a' => .inl (mk a' (i + 1)) | .inr b => .inr b) ∧ ∀ a', g a (l.getD i d) = .inl a' → I a' (i + 1))
  (h2 : ∀ a, I a l.length → S (mk a l.length) = some (.inr (out a))) {a0 : γ} (h0 : I a0 0) : lp S (mk a0 0) = some (goL g out l a0) := by
 have := lp_go_from l d mk g out I h1 h2 bigN 0 a0 h0 (Nat.zero_le _) (by simp only [bigN]; omega)
 rw [List.drop_zero] at this
 exact this
theorem lp_fold {α γ σ β : Type} {S : σ → Option (σ ⊕ β)} (l : List α) (d : α) (mk : γ → Nat → σ) (g : γ → α → γ) (out : γ → β) (I : γ → Nat → Prop) (hl : l.length ≤ 1048576)
  (h1 : ∀ a i, i < l.length → I a i → l.getD i d ∈ l → S (mk a i) = some (.inl (mk (g a (l.getD i d)) (i + 1))) ∧ I (g a (l.getD i d)) (i + 1))
  (h2 : ∀ a, I a l.length → S (mk a l.length) = some (.inr (out a))) {a0 : γ} (h0 : I a0 0) : lp S (mk a0 0) = some (out (l.foldl g a0)) := by
 rw [lp_go l d mk (fun a x => (.inl (g a x) : γ ⊕ β)) out I hl (fun a i hi hI hm => ⟨(h1 a i hi hI hm).1, fun a' h => by simp only [Sum.inl.injEq] at h; rw [← h]; exact (h1 a i hi hI hm).2⟩) h2 h0]
 congr 1
 clear h1 h2 hl
 induction l generalizing a0 with
 | nil => rfl
 | cons x r ih =>
  have : ∀ (q : List α) (a : γ), goL (fun a x => (.inl (g a x) : γ ⊕ β)) out q a = out (q.foldl g a) := by
   intro q
   induction q with
   | nil => intro a; rfl
   | cons y q ih => intro a; simp only [goL, List.foldl_cons]; exact ih _
  exact this _ _
theorem lp_pair_from {σ τ β γ δ : Type} {S : σ → Option (σ ⊕ β)} {T : τ → Option (τ ⊕ γ)} (R : σ → τ → Prop) (μ : σ → Nat) (E : β → γ → Prop)
  (h : ∀ s t, R s t → (∃ s' t', S s = some (.inl s') ∧ T t = some (.inl t') ∧ R s' t' ∧ μ s' < μ s) ∨ ∃ b c, S s = some (.inr b) ∧ T t = some (.inr c) ∧ E b c) : ∀ f s t, R s t → μ s < f → ∃ b c, iter S f s = some b ∧ iter T f t = some c ∧ E b c
 | 0, s, t, _, hm => by omega
 | f + 1, s, t, hr, hm => by
  simp only [iter]
  rcases h s t hr with ⟨s', t', e1, e2, e3, e4⟩ | ⟨b, c, e1, e2, e3⟩
  ·rw [e1, e2]; exact lp_pair_from (δ := δ) R μ E h f s' t' e3 (by omega)
  ·rw [e1, e2]; exact ⟨b, c, rfl, rfl, e3⟩
theorem lp_pair {σ τ β γ : Type} {S : σ → Option (σ ⊕ β)} {T : τ → Option (τ ⊕ γ)} (R : σ → τ → Prop) (μ : σ → Nat) (E : β → γ → Prop)
  (h : ∀ s t, R s t → (∃ s' t', S s = some (.inl s') ∧ T t = some (.inl t') ∧ R s' t' ∧ μ s' < μ s) ∨ ∃ b c, S s = some (.inr b) ∧ T t = some (.inr c) ∧ E b c) {s : σ} {t : τ} (hr : R s t) (hm : μ s ≤ 1048576) :
  ∃ b c, lp S s = some b ∧ lp T t = some c ∧ E b c :=
 lp_pair_from (δ := Unit) R μ E h bigN s t hr (by simp only [bigN]; omega)
end Go.Mach
namespace Go.Mach
set_option linter.unusedVariables false
end Go.Mach
namespace Go.Proofs.YtppjdpcmaipoaaaGreat.Tw
open Go.Mach
set_option linter.unusedVariables false
set_option linter.unusedSimpArgs false
set_option maxRecDepth 20000
abbrev SpT := Int × Int
abbrev SkT := Int × Int × Int × Int × List Int × List Int × List (List Int)
abbrev EnT := Int × Int × List SpT × SkT
def SkLe (b : Nat) (s : SkT) : Prop := s.2.2.2.2.1.length ≤ b ∧ s.2.2.2.2.2.1.length ≤ b ∧ s.2.2.2.2.2.2.length ≤ b ∧ ∀ r ∈ s.2.2.2.2.2.2, r.length ≤ b
def EnLe (b : Nat) (e : EnT) : Prop := e.2.2.1.length ≤ b ∧ SkLe b e.2.2.2
abbrev en0 : EnT := (0, 0, [], 0, 0, 0, 0, [], [], [])
def EnsLe (b : Nat) (l : List EnT) : Prop := l.length ≤ b ∧ ∀ e ∈ l, EnLe b e
end Go.Proofs.YtppjdpcmaipoaaaGreat.Tw
namespace Go.Mach
theorem can_iff : ∀ {l : List Sp2}, Canon l ↔ (∀ i, i < l.length → (l.getD i (0, 0)).1 ≤ (l.getD i (0, 0)).2) ∧ ∀ i, i + 1 < l.length → (l.getD i (0, 0)).2 + 1 < (l.getD (i + 1) (0, 0)).1
 | [] => by simp [Canon]
 | x :: r => by
  have ih := can_iff (l := r)
  constructor
  ·rintro ⟨h1, h2, h3⟩
   obtain ⟨g1, g2⟩ := ih.1 h3
   refine ⟨fun i hi => ?_, fun i hi => ?_⟩
   ·cases i with
    | zero => exact h1
    | succ i => exact g1 i (by simpa using hi)
   ·cases i with
    | zero => exact h2 _ (getD_mem (by simpa using hi))
    | succ i => exact g2 i (by simpa using hi)
  ·rintro ⟨h1, h2⟩
   have h3 : Canon r := ih.2 ⟨fun i hi => h1 (i + 1) (by simpa using hi), fun i hi => h2 (i + 1) (by simpa using hi)⟩
   refine ⟨h1 0 (by simp), fun y hy => ?_, h3⟩
   cases r with
   | nil => simp at hy
   | cons z r =>
    have q := h2 0 (by simp)
    have q' : x.2 + 1 < z.1 := q
    have := h3.head_le (n := y.1) ⟨y, hy, Int.le_refl _, h3.mem y hy⟩
    omega
end Go.Mach
namespace Go.Proofs.YtppjdpcmaipoaaaGreat.Tw
open Go.Mach
set_option linter.unusedVariables false
set_option linter.unusedSimpArgs false
set_option maxRecDepth 20000
def inR (x a b : Int) : Bool := decide (x ≥ a) && decide (x ≤ b)
theorem l1In_eq (x a b : Int) : Kb (x, a, b) = some (inR x a b) := by unfold inR; simp only [Kb]; cases decide (x ≥ a) <;> rfl
theorem within_eq (x a b : Int) : Kav (x, a, b) = some (inR x a b) := by unfold inR; simp only [Kav]; cases decide (x ≥ a) <;> rfl
theorem inR_iff {x a b : Int} : inR x a b = true ↔ a ≤ x ∧ x ≤ b := by unfold inR; simp
theorem bne_cond {α β : Type} [DecidableEq α] (u v : α) (x y : β) : (bif u != v then x else y) = if u = v then y else x := by
 by_cases h : u = v
 ·rw [if_pos h, h, bne_self_eq_false, cond_false]
 ·rw [if_neg h, bne_iff_ne.2 h, cond_true]
theorem beq_cond {α β : Type} [DecidableEq α] (u v : α) (x y : β) : (bif u == v then x else y) = if u = v then x else y := by
 by_cases h : u = v
 ·rw [if_pos h, h, beq_self_eq_true, cond_true]
 ·rw [if_neg h, beq_eq_false_iff_ne.2 h, cond_false]
theorem wpred {i : Nat} (h : 0 < i) (h' : i ≤ 1048576) : w64 ((i : Int) - 1) = ((i - 1 : Nat) : Int) := by
 rw [w64_ok (by omega) (by omega)]
 omega
def spanOk (l : List SpT) (i : Nat) : Bool :=
 inR (l.getD i (0, 0)).1 0 9999 && (inR (l.getD i (0, 0)).2 (l.getD i (0, 0)).1 9999 && !(decide (0 < i) && decide ((l.getD i (0, 0)).1 ≤ w64 ((l.getD (i - 1) (0, 0)).2 + 1))))
def setOk (l : List SpT) : Bool := (List.range l.length).all (spanOk l)
theorem setOk_iff {l : List SpT} : setOk l = true ↔ Canon l ∧ ∀ x ∈ l, 0 ≤ x.1 ∧ x.2 ≤ 9999 := by
 unfold setOk
 simp only [List.all_eq_true, List.mem_range, spanOk, Bool.and_eq_true, inR_iff, Bool.not_eq_true', Bool.and_eq_false_imp, decide_eq_true_eq, decide_eq_false_iff_not]
 rw [can_iff]
 constructor
 ·intro h
  have hb : ∀ x ∈ l, 0 ≤ x.1 ∧ x.2 ≤ 9999 := by
   intro x hx
   obtain ⟨i, hi⟩ := List.getElem?_of_mem hx
   have hil := (List.getElem?_eq_some_iff.1 hi).1
   have := h i hil
   have e : l.getD i (0, 0) = x := by simp [List.getD_eq_getElem?_getD, hi]
   rw [e] at this
   exact ⟨this.1.1, this.2.1.2⟩
  refine ⟨⟨fun i hi => (h i hi).2.1.1, fun i hi => ?_⟩, hb⟩
  have h1 := (h (i + 1) hi).2.2 (by omega)
  have h2 := hb _ (getD_mem (d := (0, 0)) (show i < l.length by omega))
  have h3 := (h i (by omega)).2.1
  rw [Nat.add_sub_cancel, w64_ok (by omega) (by omega)] at h1
  omega
 ·rintro ⟨⟨h1, h2⟩, h3⟩ i hi
  have q := h3 _ (getD_mem (d := (0, 0)) hi)
  have q1 := h1 i hi
  refine ⟨⟨q.1, by omega⟩, ⟨q1, q.2⟩, fun hp => ?_⟩
  have q2 := h3 _ (getD_mem (d := (0, 0)) (show i - 1 < l.length by omega))
  have q3 := h1 (i - 1) (by omega)
  have q4 := h2 (i - 1) (by omega)
  rw [show i - 1 + 1 = i by omega] at q4
  rw [w64_ok (by omega) (by omega)]
  omega
theorem lp_idx {σ β : Type} {S : σ → Option (σ ⊕ β)} (st : Nat → σ) {n : Nat} (hn : n ≤ 1048576) (p : Nat → Bool) {t e : β}
  (h1 : ∀ i, i < n → S (st i) = some (bif p i then .inl (st (i + 1)) else .inr e)) (h2 : S (st n) = some (.inr t)) : lp S (st 0) = some (bif (List.range n).all p then t else e) := by
 have := lp_exit_from st p h1 h2 bigN 0 (Nat.zero_le _) (by simp only [bigN]; omega)
 rw [Nat.sub_zero, ← List.range_eq_range'] at this
 exact this
theorem specSetOk_eq {l : List SpT} (hl : l.length ≤ 1048576) : Kaa l = some (setOk l) := by
 have h := lp_idx (S := Kaa_s26) (t := .inr ()) (e := .inl false) (fun i => (l, (i : Int))) hl (spanOk l) (fun i hi => by
  unfold spanOk
  simp only [Kaa_s26, lnn, ltn hi, cond_true, ixn hi, gxn, l1In_eq, Option.bind_some, bnot_cond, wsucc (show i ≤ 1048576 by omega)]
  generalize hb1 : inR (l.getD i (0, 0)).1 0 9999 = b1
  generalize hb2 : inR (l.getD i (0, 0)).2 (l.getD i (0, 0)).1 9999 = b2
  cases b1 <;> cases b2 <;> try rfl
  by_cases hz : 0 < i
  ·simp only [cond_true, dT (show (i : Int) > 0 by omega), wpred hz (show i ≤ 1048576 by omega), ixn (show i - 1 < l.length by omega), gxn, dT hz, Bool.true_and]
   cases decide ((l.getD i (0, 0)).1 ≤ w64 ((l.getD (i - 1) (0, 0)).2 + 1)) <;> rfl
  ·simp only [cond_true, dF (show ¬ (i : Int) > 0 by omega), cond_false, dF hz]
   rfl) (by simp only [Kaa_s26, lnn, ltF, cond_false])
 rw [cast0] at h
 simp only [Kaa, h, setOk]
 cases (List.range l.length).all (spanOk l) <;> rfl
theorem implSetOk_eq {l : List SpT} (hl : l.length ≤ 1048576) : Kbs l = some (setOk l) := by
 have h := lp_idx (S := Kbs_s26) (t := .inr ()) (e := .inl false) (fun i => (l, l, (l.length : Int), (i : Int))) hl (spanOk l) (fun i hi => by
  unfold spanOk
  simp only [Kbs_s26, lnn, ltn hi, cond_true, ixn hi, gxn, within_eq, Option.bind_some, bnot_cond, wsucc (show i ≤ 1048576 by omega)]
  generalize hb1 : inR (l.getD i (0, 0)).1 0 9999 = b1
  generalize hb2 : inR (l.getD i (0, 0)).2 (l.getD i (0, 0)).1 9999 = b2
  cases b1 <;> cases b2 <;> try rfl
  by_cases hz : 0 < i
  ·simp only [cond_true, dT (show (i : Int) > 0 by omega), wpred hz (show i ≤ 1048576 by omega), ixn (show i - 1 < l.length by omega), gxn, dT hz, Bool.true_and]
   cases decide ((l.getD i (0, 0)).1 ≤ w64 ((l.getD (i - 1) (0, 0)).2 + 1)) <;> rfl
  ·simp only [cond_true, dF (show ¬ (i : Int) > 0 by omega), cond_false, dF hz]
   rfl) (by simp only [Kbs_s26, ltF, cond_false])
 rw [cast0] at h
 simp only [Kbs, lnn, h, setOk]
 cases (List.range l.length).all (spanOk l) <;> rfl
def l3L (l : List Int) (n most : Int) (z : Bool) : Bool := decide ((l.length : Int) = n) && l.all (fun x => inR x 0 most && !(z && (x != 0)))
theorem l3List_eq {l : List Int} {n most : Int} {z : Bool} (hl : l.length ≤ 1048576) : Kbd (l, n, most, z) = some (l3L l n most z) := by
 unfold l3L
 simp only [Kbd, lnn]
 rw [bne_cond]
 by_cases hn : (l.length : Int) = n
 ·subst hn
  rw [if_pos rfl]
  have h := lp_all (S := Kbd_s58) (t := .inr ()) (e := .inl false) l 0 (fun i => (l, (l.length : Int), most, z, (i : Int))) hl (fun x => inR x 0 most && !(z && (x != 0))) (fun i hi _ => by
   simp only [Kbd_s58, ltn hi, cond_true, ixn hi, gxn, l1In_eq, Option.bind_some, bnot_cond, wsucc (show i ≤ 1048576 by omega)]
   generalize inR (l.getD i 0) 0 most = b1
   generalize (l.getD i 0 != 0) = b2
   cases b1 <;> cases b2 <;> cases z <;> rfl) (by simp only [Kbd_s58, ltF, cond_false])
  rw [cast0] at h
  rw [h]
  cases l.all (fun x => inR x 0 most && !(z && (x != 0))) <;> simp
 ·rw [if_neg hn]
  simp [hn]
theorem l3L_iff {l : List Int} {n most : Int} {z : Bool} : l3L l n most z = true ↔ (l.length : Int) = n ∧ ∀ x ∈ l, (0 ≤ x ∧ x ≤ most) ∧ (z = true → x = 0) := by
 simp only [l3L, Bool.and_eq_true, decide_eq_true_eq, List.all_eq_true, inR_iff, Bool.not_eq_true']
 refine and_congr Iff.rfl (forall_congr' fun x => forall_congr' fun _ => and_congr Iff.rfl ?_)
 cases z <;> simp
structure SkOk (s : SkT) : Prop where
 cnt : 0 ≤ s.1 ∧ s.1 ≤ 1000000000
 sum : 0 ≤ s.2.1 ∧ s.2.1 ≤ 1000000000
 min : 0 ≤ s.2.2.1 ∧ s.2.2.1 ≤ 1000000
 max : 0 ≤ s.2.2.2.1 ∧ s.2.2.2.1 ≤ 1000000
 le : s.2.2.1 ≤ s.2.2.2.1
 rows : ∃ r0 r1, s.2.2.2.2.2.2 = [r0, r1] ∧ ((r0.length = 4) ∧ ∀ x ∈ r0, (0 ≤ x ∧ x ≤ 1000000000) ∧ (s.1 = 0 → x = 0)) ∧ ((r1.length = 4) ∧ ∀ x ∈ r1, (0 ≤ x ∧ x ≤ 1000000000) ∧ (s.1 = 0 → x = 0))
 zero : s.1 = 0 → s.2.1 = 0 ∧ s.2.2.2.1 = 0
 hist : s.2.2.2.2.1.length = 8 ∧ ∀ x ∈ s.2.2.2.2.1, (0 ≤ x ∧ x ≤ 1000000000) ∧ (s.1 = 0 → x = 0)
 regs : s.2.2.2.2.2.1.length = 8 ∧ ∀ x ∈ s.2.2.2.2.2.1, (0 ≤ x ∧ x ≤ 17) ∧ (s.1 = 0 → x = 0)
def skOk (s : SkT) : Bool := inR s.1 0 1000000000 && (inR s.2.1 0 1000000000 && (inR s.2.2.1 0 1000000 && (inR s.2.2.2.1 0 1000000 && (!decide (s.2.2.1 > s.2.2.2.1) && ((s.2.2.2.2.2.2.length : Int) == 2 &&
 (!((s.1 == 0) && ((s.2.1 != 0) || (s.2.2.2.1 != 0))) && (l3L s.2.2.2.2.1 8 1000000000 (s.1 == 0) && (l3L s.2.2.2.2.2.1 8 17 (s.1 == 0) && (l3L (s.2.2.2.2.2.2.getD 0 []) 4 1000000000 (s.1 == 0) && l3L (s.2.2.2.2.2.2.getD 1 []) 4 1000000000 (s.1 == 0))))))))))
theorem skOk_iff {s : SkT} : skOk s = true ↔ SkOk s := by
 obtain ⟨a1, a2, a3, a4, a5, a6, a7⟩ := s
 simp only [skOk, Bool.and_eq_true, inR_iff, Bool.not_eq_true', decide_eq_false_iff_not, beq_iff_eq, l3L_iff]
 constructor
 ·rintro ⟨h1, h2, h3, h4, h5, h6, h7, h8, h9, h10, h11⟩
  match a7, h6 with
  | [r0, r1], _ =>
   refine ⟨h1, h2, h3, h4, by dsimp only at h5 ⊢; omega, ⟨r0, r1, rfl, ⟨by have : (r0.length : Int) = 4 := h10.1; omega, fun x hx => ⟨(h10.2 x hx).1, fun hz => (h10.2 x hx).2 (by simpa using hz)⟩⟩, ⟨by have : (r1.length : Int) = 4 := h11.1; omega, fun x hx => ⟨(h11.2 x hx).1, fun hz => (h11.2 x hx).2 (by simpa using hz)⟩⟩⟩, fun hz => ?_,
    ⟨by have := h8.1; dsimp only; omega, fun x hx => ⟨(h8.2 x hx).1, fun hz => (h8.2 x hx).2 (by simpa using hz)⟩⟩, ⟨by have := h9.1; dsimp only; omega, fun x hx => ⟨(h9.2 x hx).1, fun hz => (h9.2 x hx).2 (by simpa using hz)⟩⟩⟩
   dsimp only at hz h7 ⊢
   subst hz
   simpa using h7
  | [], h => simp at h
  | [_], h => simp at h
  | _ :: _ :: _ :: _, h => simp at h; omega
 ·rintro ⟨h1, h2, h3, h4, h5, ⟨r0, r1, h6, h10, h11⟩, h7, h8, h9⟩
  dsimp only at h6 h7 h8 h9 h10 h11
  subst h6
  have e0 : (r0.length : Int) = 4 := by omega
  have e1 : (r1.length : Int) = 4 := by omega
  refine ⟨h1, h2, h3, h4, by dsimp only at h5; omega, by simp, ?_, ⟨by omega, fun x hx => ⟨(h8.2 x hx).1, fun hz => (h8.2 x hx).2 (by simpa using hz)⟩⟩, ⟨by omega, fun x hx => ⟨(h9.2 x hx).1, fun hz => (h9.2 x hx).2 (by simpa using hz)⟩⟩,
   ⟨e0, fun x hx => ⟨(h10.2 x hx).1, fun hz => (h10.2 x hx).2 (by simpa using hz)⟩⟩, ⟨e1, fun x hx => ⟨(h11.2 x hx).1, fun hz => (h11.2 x hx).2 (by simpa using hz)⟩⟩⟩
  by_cases hz : a1 = 0
  ·have := h7 hz
   simp [this.1, this.2]
  ·simp [hz]
theorem getD_len {l : List (List Int)} {b : Nat} (h : ∀ r ∈ l, r.length ≤ b) (i : Nat) : (l.getD i []).length ≤ b := by
 rw [List.getD_eq_getElem?_getD]
 cases hq : l[i]? with
 | none => simp
 | some r => exact h r (List.mem_of_getElem? hq)
theorem specSketchOk_eq {s : SkT} (h : SkLe 1048576 s) : Kag s = some (skOk s) := by
 obtain ⟨a1, a2, a3, a4, a5, a6, a7⟩ := s
 obtain ⟨w1, w2, w3, w4⟩ := h
 simp only at w1 w2 w3 w4
 unfold skOk
 simp only [Kag, l1In_eq, Option.bind_some]
 have hj : (a7.length : Int) = 2 → ∀ z, Kag_l31 ((a1, a2, a3, a4, a5, a6, a7), z) =
   some (l3L a5 8 1000000000 z && (l3L a6 8 17 z && (l3L (a7.getD 0 []) 4 1000000000 z && l3L (a7.getD 1 []) 4 1000000000 z))) := by
  intro hr z
  simp only [Kag_l31, l3List_eq w1, l3List_eq w2, l3List_eq (getD_len w4 0), l3List_eq (getD_len w4 1), Option.bind_some]
  rw [chkD (by omega), chkD (by omega)]
  generalize l3L a5 8 1000000000 z = b1
  generalize l3L a6 8 17 z = b2
  cases b1 <;> cases b2 <;> try rfl
  cases l3L (a7.getD 0 []) 4 1000000000 z <;> rfl
 generalize inR a1 0 1000000000 = b1
 generalize inR a2 0 1000000000 = b2
 generalize inR a3 0 1000000 = b3
 generalize inR a4 0 1000000 = b4
 generalize decide (a3 > a4) = b5
 cases b1 <;> try rfl
 cases b2 <;> try rfl
 cases b3 <;> try rfl
 cases b4 <;> try rfl
 cases b5 <;> try rfl
 simp only [Bool.not_true, cond_false, Bool.true_and, Bool.not_false, lnn]
 by_cases hr : (a7.length : Int) = 2
 ·rw [hj hr]
  have e1 : ((a7.length : Int) != 2) = false := by simpa using hr
  have e2 : ((a7.length : Int) == 2) = true := by simpa using hr
  rw [e1, e2]
  generalize (a1 == 0) = b6
  generalize (a2 != 0) = b7
  generalize (a4 != 0) = b8
  cases b6 <;> cases b7 <;> cases b8 <;> simp
 ·have e1 : ((a7.length : Int) != 2) = true := by simpa using hr
  have e2 : ((a7.length : Int) == 2) = false := by simpa using hr
  rw [e1, e2]
  rfl
theorem copyInts_eq {l : List Int} (h : l.length ≤ 1048576) : Kdi l = some l := by
 simp only [Kdi]; rw [fitsC (by omega) (by omega)]
theorem counts_eq {c s mi ma : Int} {h r r0 r1 : List Int} (hh : h.length ≤ 1000) (hr : r.length ≤ 1000) (h0 : r0.length ≤ 1000) (h1 : r1.length ≤ 1000) :
  Kw (c, s, mi, ma, h, r, [r0, r1]) = some (h ++ r ++ r0 ++ r1) := by
 simp only [Kw]
 rw [copyInts_eq (by omega), Option.bind_some, fitsC (by omega) (by omega)]
 have : lp Kw_s58 (h ++ r, [r0, r1], 2, ((0 : Nat) : Int)) = some (h ++ r ++ r0 ++ r1) := by
  have e1 : w64 (((0 : Nat) : Int) + 1) = ((1 : Nat) : Int) := wsucc (by omega)
  have e2 : w64 (((1 : Nat) : Int) + 1) = ((2 : Nat) : Int) := wsucc (by omega)
  exact lp_det (S := Kw_s58) (n := 2) (b := h ++ r ++ r0 ++ r1) (fun i => ((if i = 0 then h ++ r else if i = 1 then h ++ r ++ r0 else h ++ r ++ r0 ++ r1), [r0, r1], 2, (i : Int))) (by omega) (fun i hi => by
   match i, hi with
   | 0, _ =>
    have g : gx [r0, r1] ((0 : Nat) : Int) [] = r0 := rfl
    have d : decide (((0 : Nat) : Int) < 2) = true := rfl
    simp only [Kw_s58, d, cond_true, if_pos, g, e1]
    rw [ixn (by simp), fitsC (by simp; omega) (by omega)]
    rfl
   | 1, _ =>
    have g : gx [r0, r1] ((1 : Nat) : Int) [] = r1 := rfl
    have d : decide (((1 : Nat) : Int) < 2) = true := rfl
    simp only [Kw_s58, d, cond_true, g, e2]
    rw [ixn (by simp), if_neg (by omega), if_true, fitsC (by simp; omega) (by omega)]
    rfl) rfl
 have e : ln [r0, r1] = 2 := rfl
 rw [e]
 rw [cast0] at this
 rw [this]
 rfl
def accW (l : List Int) : Nat → Int
 | 0 => 0
 | i + 1 => w64 (accW l i + l.getD i 0)
theorem accW_zero {l : List Int} (hl : l.length ≤ 100) (h : ∀ x ∈ l, 0 ≤ x ∧ x ≤ 1000000000) : ∀ i, i ≤ l.length → (0 ≤ accW l i ∧ accW l i ≤ i * 1000000000) ∧ (accW l i = 0 ↔ ∀ j, j < i → l.getD j 0 = 0)
 | 0, _ => ⟨⟨by simp [accW], by simp [accW]⟩, by simp [accW]⟩
 | i + 1, hi => by
  obtain ⟨⟨h1, h2⟩, h3⟩ := accW_zero hl h i (by omega)
  obtain ⟨q1, q2⟩ := h _ (getD_mem (d := 0) (show i < l.length by omega))
  have hw : accW l (i + 1) = accW l i + l.getD i 0 := by
   simp only [accW]
   exact w64_ok (by omega) (by omega)
  rw [hw]
  refine ⟨⟨by omega, by omega⟩, ?_⟩
  constructor
  ·intro hz j hj
   by_cases hji : j = i
   ·subst hji; omega
   ·exact h3.1 (by omega) j (by omega)
  ·intro hz
   rw [h3.2 fun j hj => hz j (by omega), hz i (by omega)]
   rfl
theorem implSketchOk_eq {s : SkT} (h : SkLe 1048576 s) : Kn s = some (skOk s) := by
 obtain ⟨a1, a2, a3, a4, a5, a6, a7⟩ := s
 obtain ⟨w1, w2, w3, w4⟩ := h
 simp only at w1 w2 w3 w4
 have no : ¬ SkOk (a1, a2, a3, a4, a5, a6, a7) → (some false : Option Bool) = some (skOk (a1, a2, a3, a4, a5, a6, a7)) := by
  intro hn
  cases hq : skOk (a1, a2, a3, a4, a5, a6, a7) with
  | false => rfl
  | true => exact absurd (skOk_iff.1 hq) hn
 simp only [Kn, lnn, bne_cond]
 by_cases h5 : (a5.length : Int) = 8
 ·rw [if_pos h5]
  by_cases h6 : (a6.length : Int) = 8
  ·rw [if_pos h6]
   by_cases h7 : (a7.length : Int) = 2
   ·rw [if_pos h7]
    match a7, h7 with
    | [r0, r1], _ =>
     have g0 : List.getD [r0, r1] 0 [] = r0 := rfl
     have g1 : List.getD [r0, r1] 1 [] = r1 := rfl
     rw [g0, g1, chkD (by simp)]
     by_cases h8 : (r0.length : Int) = 4
     ·rw [if_pos h8, chkD (by simp)]
      by_cases h9 : (r1.length : Int) = 4
      ·rw [if_pos h9, counts_eq (by omega) (by omega) (by omega) (by omega), Option.bind_some]
       rw [fitsC (by simp; omega) (by omega)]
       generalize hL : a5 ++ a6 ++ r0 ++ r1 ++ [a1, a2, a3, a4] = L
       have hLlen : L.length = 28 := by rw [← hL]; simp; omega
       have hmem : ∀ x, x ∈ L ↔ (x ∈ a5 ∨ x ∈ a6 ∨ x ∈ r0 ∨ x ∈ r1 ∨ x = a1 ∨ x = a2 ∨ x = a3 ∨ x = a4) := by
        intro x
        rw [← hL]
        simp only [List.mem_append, List.mem_cons, List.not_mem_nil, or_false]
        simp only [or_assoc]
       have e1 := lp_all (S := Kn_s122) (t := .inr ((a1, a2, a3, a4, a5, a6, [r0, r1]), accW L L.length)) (e := .inl false) L 0 (fun i => ((a1, a2, a3, a4, a5, a6, [r0, r1]), accW L i, L, (L.length : Int), (i : Int))) (by omega) (fun x => inR x 0 1000000000) (fun i hi _ => by
        simp only [Kn_s122, ltn hi, cond_true, ixn hi, lxn hi, gxn, within_eq, Option.bind_some, bnot_cond, accW, wsucc (show i ≤ 1048576 by omega)]
        cases inR (L.getD i 0) 0 1000000000 <;> rfl) (by simp only [Kn_s122, ltF, cond_false])
       have e2 : ∀ t : Int, lp Kn_s250 ((a1, a2, a3, a4, a5, a6, [r0, r1]), t, a6, a6.length, 0) = some (bif a6.all (fun x => !decide (x > 17)) then .inr ((a1, a2, a3, a4, a5, a6, [r0, r1]), t) else .inl false) := by
        intro t
        exact lp_all (S := Kn_s250) (t := .inr ((a1, a2, a3, a4, a5, a6, [r0, r1]), t)) (e := .inl false) a6 0 (fun i => ((a1, a2, a3, a4, a5, a6, [r0, r1]), t, a6, (a6.length : Int), (i : Int))) (by omega) (fun x => !decide (x > 17)) (fun i hi _ => by
         simp only [Kn_s250, ltn hi, cond_true, ixn hi, gxn, wsucc (show i ≤ 1048576 by omega)]
         cases decide (a6.getD i 0 > 17) <;> rfl) (by simp only [Kn_s250, ltF, cond_false])
       have e1 : lp Kn_s122 ((a1, a2, a3, a4, a5, a6, [r0, r1]), 0, L, L.length, 0) = some (bif L.all (fun x => inR x 0 1000000000) then .inr ((a1, a2, a3, a4, a5, a6, [r0, r1]), accW L L.length) else .inl false) := e1
       rw [e1]
       by_cases hall : L.all (fun x => inR x 0 1000000000) = true
       ·rw [hall]
        simp only [cond_true, bx_inr]
        rw [e2]
        have hin : ∀ x ∈ L, 0 ≤ x ∧ x ≤ 1000000000 := by simpa [inR_iff] using hall
        obtain ⟨_, hz⟩ := accW_zero (by omega) hin L.length (Nat.le_refl _)
        have hz' : accW L L.length = 0 ↔ ∀ x ∈ L, x = 0 := by
         rw [hz]
         constructor
         ·intro q x hx
          obtain ⟨j, hj⟩ := List.getElem?_of_mem hx
          have := q j (List.getElem?_eq_some_iff.1 hj).1
          simpa [List.getD_eq_getElem?_getD, hj] using this
         ·intro q j hj
          exact q _ (getD_mem hj)
        have h17 : a6.all (fun x => !decide (x > 17)) = true ↔ ∀ x ∈ a6, x ≤ 17 := by simp
        have i5 : ∀ x ∈ a5, 0 ≤ x ∧ x ≤ 1000000000 := fun x hx => hin x ((hmem x).2 (.inl hx))
        have i6 : ∀ x ∈ a6, 0 ≤ x ∧ x ≤ 1000000000 := fun x hx => hin x ((hmem x).2 (.inr (.inl hx)))
        have j0 : ∀ x ∈ r0, 0 ≤ x ∧ x ≤ 1000000000 := fun x hx => hin x ((hmem x).2 (.inr (.inr (.inl hx))))
        have j1 : ∀ x ∈ r1, 0 ≤ x ∧ x ≤ 1000000000 := fun x hx => hin x ((hmem x).2 (.inr (.inr (.inr (.inl hx)))))
        have k1 := hin a1 ((hmem a1).2 (by simp))
        have k2 := hin a2 ((hmem a2).2 (by simp))
        have k3 := hin a3 ((hmem a3).2 (by simp))
        have k4 := hin a4 ((hmem a4).2 (by simp))
        by_cases h17' : a6.all (fun x => !decide (x > 17)) = true
        ·rw [h17']
         simp only [cond_true, bx_inr]
         have l17 := h17.1 h17'
         rw [beq_cond]
         by_cases hc : a1 = 0
         ·rw [if_pos hc]
          congr 1
          rw [Bool.eq_iff_iff, beq_iff_eq, hz', skOk_iff]
          constructor
          ·intro hall0
           have m2 := hall0 a2 ((hmem a2).2 (by simp))
           have m3 := hall0 a3 ((hmem a3).2 (by simp))
           have m4 := hall0 a4 ((hmem a4).2 (by simp))
           exact ⟨k1, k2, by dsimp only; omega, by dsimp only; omega, by dsimp only; omega, ⟨r0, r1, rfl, ⟨by omega, fun x hx => ⟨j0 x hx, fun _ => hall0 x ((hmem x).2 (.inr (.inr (.inl hx))))⟩⟩,
            ⟨by omega, fun x hx => ⟨j1 x hx, fun _ => hall0 x ((hmem x).2 (.inr (.inr (.inr (.inl hx)))))⟩⟩⟩, fun _ => ⟨m2, m4⟩,
            ⟨by dsimp only; omega, fun x hx => ⟨i5 x hx, fun _ => hall0 x ((hmem x).2 (.inl hx))⟩⟩, ⟨by dsimp only; omega, fun x hx => ⟨⟨(i6 x hx).1, l17 x hx⟩, fun _ => hall0 x ((hmem x).2 (.inr (.inl hx)))⟩⟩⟩
          ·intro hs x hx
           obtain ⟨s1, s2, s3, s4, s5, ⟨q0, q1, s6, s7, s8⟩, s9, s10, s11⟩ := hs
           simp only [List.cons.injEq, and_true] at s6
           obtain ⟨rfl, rfl⟩ := s6
           obtain ⟨z2, z4⟩ := s9 hc
           dsimp only at s3 s5 z2 z4
           rcases (hmem x).1 hx with q | q | q | q | rfl | rfl | rfl | rfl
           ·exact (s10.2 x q).2 hc
           ·exact (s11.2 x q).2 hc
           ·exact (s7.2 x q).2 hc
           ·exact (s8.2 x q).2 hc
           ·exact hc
           ·exact z2
           ·omega
           ·exact z4
         ·rw [if_neg hc]
          by_cases hle : a3 ≤ a4
          ·rw [decide_eq_true hle, cond_true]
           congr 1
           rw [Bool.eq_iff_iff, decide_eq_true_eq, skOk_iff]
           constructor
           ·intro hm
            exact ⟨k1, k2, by dsimp only; omega, by dsimp only; omega, hle, ⟨r0, r1, rfl, ⟨by omega, fun x hx => ⟨j0 x hx, fun q => absurd q hc⟩⟩, ⟨by omega, fun x hx => ⟨j1 x hx, fun q => absurd q hc⟩⟩⟩, fun q => absurd q hc,
             ⟨by dsimp only; omega, fun x hx => ⟨i5 x hx, fun q => absurd q hc⟩⟩, ⟨by dsimp only; omega, fun x hx => ⟨⟨(i6 x hx).1, l17 x hx⟩, fun q => absurd q hc⟩⟩⟩
           ·intro hs
            exact hs.max.2
          ·rw [decide_eq_false hle, cond_false]
           exact no fun hs => hle hs.le
        ·rw [Bool.not_eq_true] at h17'
         rw [h17']
         simp only [cond_false, bx_inl]
         exact no fun hs => by rw [h17.2 fun x hx => (hs.regs.2 x hx).1.2] at h17'; simp at h17'
       ·rw [Bool.not_eq_true] at hall
        rw [hall]
        simp only [cond_false, bx_inl]
        refine no fun hs => (by simp [hall] : ¬ L.all (fun x => inR x 0 1000000000) = true) ?_
        obtain ⟨s1, s2, s3, s4, s5, ⟨q0, q1, s6, s7, s8⟩, s9, s10, s11⟩ := hs
        simp only [List.cons.injEq, and_true] at s6
        obtain ⟨rfl, rfl⟩ := s6
        dsimp only at s1 s2 s3 s4 s5
        rw [List.all_eq_true]
        intro x hx
        rw [inR_iff]
        rcases (hmem x).1 hx with q | q | q | q | rfl | rfl | rfl | rfl
        ·exact (s10.2 x q).1
        ·have := (s11.2 x q).1; omega
        ·exact (s7.2 x q).1
        ·exact (s8.2 x q).1
        ·exact s1
        ·exact s2
        ·omega
        ·omega
      ·rw [if_neg h9]
       exact no fun hs => h9 (by
        obtain ⟨q0, q1, s6, s7, s8⟩ := hs.rows
        simp only [List.cons.injEq, and_true] at s6
        obtain ⟨rfl, rfl⟩ := s6
        have := s8.1; omega)
     ·rw [if_neg h8]
      exact no fun hs => h8 (by
       obtain ⟨q0, q1, s6, s7, s8⟩ := hs.rows
       simp only [List.cons.injEq, and_true] at s6
       obtain ⟨rfl, rfl⟩ := s6
       have := s7.1; omega)
    | [], h => simp at h
    | [_], h => simp at h
    | _ :: _ :: _ :: _, h => simp at h; omega
   ·rw [if_neg h7]
    exact no fun hs => h7 (by
     obtain ⟨q0, q1, s6, _⟩ := hs.rows
     dsimp only at s6
     rw [s6]; rfl)
  ·rw [if_neg h6]
   exact no fun hs => h6 (by have := hs.regs.1; dsimp only at this; omega)
 ·rw [if_neg h5]
  exact no fun hs => h5 (by have := hs.hist.1; dsimp only at this; omega)
def enOk (e : EnT) : Bool := inR e.1 0 4 && inR e.2.1 0 20 && decide (e.2.2.1.length > 0) && setOk e.2.2.1 && skOk e.2.2.2
theorem specEntryOk_eq {e : EnT} (h : EnLe 1048576 e) : Kbu e = some (enOk e) := by
 obtain ⟨a1, a2, a3, s⟩ := e
 obtain ⟨a4, a5, a6, a7, a8, a9, a10⟩ := s
 obtain ⟨w1, w2⟩ := h
 have hs := specSketchOk_eq w2
 simp only at w1 hs
 unfold enOk
 simp only [Kbu, Kcz, l1In_eq, Option.bind_some, specSetOk_eq w1, hs, lnn]
 have hd : decide ((a3.length : Int) > 0) = decide (a3.length > 0) := by rw [decide_eq_decide]; omega
 rw [hd]
 cases inR a1 0 4 <;> cases inR a2 0 20 <;> try rfl
 cases decide (a3.length > 0) <;> try rfl
 cases setOk a3 <;> rfl
theorem implEntryOk_eq {e : EnT} (h : EnLe 1048576 e) : Kdm e = some (enOk e) := by
 obtain ⟨a1, a2, a3, s⟩ := e
 obtain ⟨a4, a5, a6, a7, a8, a9, a10⟩ := s
 obtain ⟨w1, w2⟩ := h
 have hs := implSketchOk_eq w2
 simp only at w1 hs
 unfold enOk
 simp only [Kdm, within_eq, Option.bind_some, implSetOk_eq w1, hs, lnn]
 have hd : decide ((a3.length : Int) > 0) = decide (a3.length > 0) := by rw [decide_eq_decide]; omega
 rw [hd]
 cases inR a1 0 4 <;> cases inR a2 0 20 <;> try rfl
 cases decide (a3.length > 0) <;> cases setOk a3 <;> rfl
structure EnOk (e : EnT) : Prop where
 key : 0 ≤ e.1 ∧ e.1 ≤ 4
 win : 0 ≤ e.2.1 ∧ e.2.1 ≤ 20
 ids : Canon e.2.2.1
 bnd : ∀ x ∈ e.2.2.1, 0 ≤ x.1 ∧ x.2 ≤ 9999
 some_ : e.2.2.1 ≠ []
 sk : SkOk e.2.2.2
theorem enOk_iff {e : EnT} : enOk e = true ↔ EnOk e := by
 unfold enOk
 simp only [Bool.and_eq_true, inR_iff, decide_eq_true_eq, setOk_iff, skOk_iff]
 constructor
 ·rintro ⟨⟨⟨⟨h1, h2⟩, h3⟩, h4, h5⟩, h6⟩
  exact ⟨h1, h2, h4, h5, fun q => by rw [q] at h3; simp at h3, h6⟩
 ·rintro ⟨h1, h2, h4, h5, h3, h6⟩
  exact ⟨⟨⟨⟨h1, h2⟩, List.length_pos_iff.2 h3⟩, h4, h5⟩, h6⟩
end Go.Proofs.YtppjdpcmaipoaaaGreat.Tw
namespace Go.Mach
theorem zip_len {f : Int → Int → Int} {a b : List Int} (h : b.length = a.length) : (List.zipWith f a b).length = a.length := by simp [h]
theorem zip_get {f : Int → Int → Int} {a b : List Int} (h : b.length = a.length) {i : Nat} (hi : i < a.length) : (List.zipWith f a b).getD i 0 = f (a.getD i 0) (b.getD i 0) := by
 simp [List.getD_eq_getElem?_getD, List.getElem?_zipWith, List.getElem?_eq_getElem hi, List.getElem?_eq_getElem (show i < b.length by omega)]
theorem zip_take {f : Int → Int → Int} {a b : List Int} (h : b.length = a.length) {i : Nat} (hi : i < a.length) : (List.zipWith f a b).take (i + 1) = (List.zipWith f a b).take i ++ [f (a.getD i 0) (b.getD i 0)] := by
 rw [take_snoc 0 (by rw [zip_len h]; exact hi), zip_get h hi]
theorem getD_set_same' {α : Type} {l : List α} {i : Nat} (v d : α) (h : i < l.length) : (l.set i v).getD i d = v := by simp [List.getD_eq_getElem?_getD, h]
end Go.Mach
namespace Go.Proofs.YtppjdpcmaipoaaaGreat.Tw
open Go.Mach
set_option linter.unusedVariables false
set_option linter.unusedSimpArgs false
set_option maxRecDepth 20000
def ad (a b : Int) : Int := min (max 0 (min a 1000000000) + max 0 (min b 1000000000)) 1000000000
theorem specMin_eq (a b : Int) : Ki (a, b) = some (min a b) := by simp only [Ki, bif_dec]; split <;> simp <;> omega
theorem specMax_eq (a b : Int) : Kbj (a, b) = some (max a b) := by simp only [Kbj, bif_dec]; split <;> simp <;> omega
theorem specAdd_eq (a b : Int) : Kcg (a, b) = some (ad a b) := by
 simp only [Kcg, Kcm, specMin_eq, specMax_eq, Option.bind_some]
 rw [w64_ok (by omega) (by omega)]
 rfl
theorem l3Sum_eq {a b : List Int} (h : b.length = a.length) (hl : a.length ≤ 1048576) : Kbl (a, b) = some (List.zipWith ad a b) := by
 have := lp_det (S := Kbl_s58) (fun i => (a, b, (List.zipWith ad a b).take i, (i : Int))) hl (b := List.zipWith ad a b) (fun i hi => by
  simp only [Kbl_s58, lnn, ltn hi, cond_true, ixn hi, ixn (show i < b.length by omega), gxn, specAdd_eq, Option.bind_some, wsucc (show i ≤ 1048576 by omega)]
  rw [fitsC (by simp [h]; omega) (by omega), zip_take h hi]) (by
  simp only [Kbl_s58, lnn, ltF, cond_false]
  rw [List.take_of_length_le (by rw [zip_len h]; exact Nat.le_refl _)])
 rw [cast0, List.take_zero] at this
 simp only [Kbl, this, Option.bind_some]
def mrg (a b : SkT) : SkT := (ad a.1 b.1, ad a.2.1 b.2.1, (if b.1 = 0 then a.2.2.1 else if a.1 = 0 then b.2.2.1 else min a.2.2.1 b.2.2.1), max a.2.2.2.1 b.2.2.2.1,
 List.zipWith ad a.2.2.2.2.1 b.2.2.2.2.1, List.zipWith max a.2.2.2.2.2.1 b.2.2.2.2.2.1, [List.zipWith ad (a.2.2.2.2.2.2.getD 0 []) (b.2.2.2.2.2.2.getD 0 []), List.zipWith ad (a.2.2.2.2.2.2.getD 1 []) (b.2.2.2.2.2.2.getD 1 [])])
theorem l3Merge_eq {a b : SkT} (ha : SkOk a) (hb : SkOk b) : Kk (a, b) = some (mrg a b) := by
 obtain ⟨a1, a2, a3, a4, a5, a6, a7⟩ := a
 obtain ⟨b1, b2, b3, b4, b5, b6, b7⟩ := b
 obtain ⟨r0, r1, ra, ⟨la0, _⟩, ⟨la1, _⟩⟩ := ha.rows
 obtain ⟨s0, s1, rb, ⟨lb0, _⟩, ⟨lb1, _⟩⟩ := hb.rows
 have la5 := ha.hist.1
 have lb5 := hb.hist.1
 have la6 := ha.regs.1
 have lb6 := hb.regs.1
 simp only at ra rb la5 lb5 la6 lb6
 subst ra rb
 have key : ∀ c1 c2 c3 c4 (c5 : List Int) (c7 : List (List Int)), Kk_l31 ((a1, a2, a3, a4, a5, a6, [r0, r1]), (b1, b2, b3, b4, b5, b6, [s0, s1]), (0, 0, 0, 0, (), (), ()), c1, c2, c3, c4, c5, (), c7) = some (c1, c2, c3, c4, c5, List.zipWith max a6 b6, c7) := by
  intro c1 c2 c3 c4 c5 c7
  have := lp_det (S := Kk_s250) (n := 8) (fun i => ((a1, a2, a3, a4, a5, a6, [r0, r1]), (b1, b2, b3, b4, b5, b6, [s0, s1]), (0, 0, 0, 0, (), (), ()), (c1, c2, c3, c4, c5, (List.zipWith max a6 b6).take i, c7), (i : Int))) (by omega)
   (b := ((0, 0, 0, 0, (), (), ()), c1, c2, c3, c4, c5, List.zipWith max a6 b6, c7)) (fun i hi => by
    simp only [Kk_s250, dT (show (i : Int) < 8 by omega), cond_true, ixn (show i < a6.length by omega), ixn (show i < b6.length by omega), gxn, specMax_eq, Option.bind_some, wsucc (show i ≤ 1048576 by omega)]
    rw [fitsC (by simp; omega) (by omega), zip_take (show b6.length = a6.length by omega) (by omega)]) (by
    simp only [Kk_s250, dF (show ¬ (((8 : Nat) : Int) < 8) by omega), cond_false]
    rw [List.take_of_length_le (by rw [zip_len (by omega)]; omega)])
  rw [cast0, List.take_zero] at this
  simp only [Kk_l31, this, Option.bind_some]
 have key2 : ∀ c1 c2 c3 c4 (c5 : List Int) (c7 : List (List Int)), Kk_l15 ((a1, a2, a3, a4, a5, a6, [r0, r1]), (b1, b2, b3, b4, b5, b6, [s0, s1]), (0, 0, 0, 0, (), (), ()), c1, c2, c3, c4, c5, (), c7) =
   some (c1, c2, (if b1 = 0 then a3 else c3), c4, c5, List.zipWith max a6 b6, c7) := by
  intro c1 c2 c3 c4 c5 c7
  simp only [Kk_l15, beq_cond, key, Option.bind_some]
  split <;> rfl
 have g0 : List.getD [r0, r1] 0 [] = r0 := rfl
 have g1 : List.getD [r0, r1] 1 [] = r1 := rfl
 have h0 : List.getD [s0, s1] 0 [] = s0 := rfl
 have h1 : List.getD [s0, s1] 1 [] = s1 := rfl
 simp only [Kk, specAdd_eq, specMin_eq, specMax_eq, Option.bind_some, l3Sum_eq (show b5.length = a5.length by omega) (by omega), g0, g1, h0, h1, l3Sum_eq (show s0.length = r0.length by omega) (by omega), l3Sum_eq (show s1.length = r1.length by omega) (by omega), key2, beq_cond]
 simp only [chk, List.length_cons, List.length_nil]
 simp only [mrg, g0, g1, h0, h1]
 by_cases hb0 : b1 = 0 <;> by_cases ha0 : a1 = 0 <;> simp [hb0, ha0]
theorem SkOk.toLe {s : SkT} (h : SkOk s) : SkLe 8 s := by
 obtain ⟨r0, r1, e, ⟨q0, _⟩, ⟨q1, _⟩⟩ := h.rows
 refine ⟨by rw [h.hist.1]; omega, by rw [h.regs.1]; omega, by rw [e]; simp, fun r hr => ?_⟩
 rw [e] at hr
 simp only [List.mem_cons, List.not_mem_nil, or_false] at hr
 rcases hr with rfl | rfl <;> omega
theorem SkLe.mono {a b : Nat} {s : SkT} (h : SkLe a s) (hab : a ≤ b) : SkLe b s := ⟨Nat.le_trans h.1 hab, Nat.le_trans h.2.1 hab, Nat.le_trans h.2.2.1 hab, fun r hr => Nat.le_trans (h.2.2.2 r hr) hab⟩
theorem ad_rng (a b : Int) : 0 ≤ ad a b ∧ ad a b ≤ 1000000000 := by unfold ad; omega
theorem ad_zero {a b : Int} (ha : 0 ≤ a) (hb : 0 ≤ b) : ad a b = 0 ↔ a = 0 ∧ b = 0 := by unfold ad; omega
theorem zip_all {f : Int → Int → Int} {P : Int → Prop} : ∀ {a b : List Int}, (∀ x ∈ a, ∀ y ∈ b, P (f x y)) → ∀ z ∈ List.zipWith f a b, P z
 | [], _, _, z, hz => by simp at hz
 | _ :: _, [], _, z, hz => by simp at hz
 | x :: a, y :: b, h, z, hz => by
  simp only [List.zipWith_cons_cons, List.mem_cons] at hz
  rcases hz with rfl | hz
  ·exact h x List.mem_cons_self y List.mem_cons_self
  ·exact zip_all (fun u hu v hv => h u (List.mem_cons_of_mem _ hu) v (List.mem_cons_of_mem _ hv)) z hz
theorem mrg_ok {a b : SkT} (ha : SkOk a) (hb : SkOk b) : SkOk (mrg a b) := by
 obtain ⟨a1, a2, a3, a4, a5, a6, a7⟩ := a
 obtain ⟨b1, b2, b3, b4, b5, b6, b7⟩ := b
 obtain ⟨r0, r1, ra, ⟨la0, pa0⟩, ⟨la1, pa1⟩⟩ := ha.rows
 obtain ⟨s0, s1, rb, ⟨lb0, pb0⟩, ⟨lb1, pb1⟩⟩ := hb.rows
 have h5 := ha.hist
 have k5 := hb.hist
 have h6 := ha.regs
 have k6 := hb.regs
 have c1 := ha.cnt
 have d1 := hb.cnt
 have c2 := ha.sum
 have d2 := hb.sum
 have c3 := ha.min
 have d3 := hb.min
 have c4 := ha.max
 have d4 := hb.max
 have cl := ha.le
 have dl := hb.le
 have cz := ha.zero
 have dz := hb.zero
 simp only at ra rb h5 k5 h6 k6 c1 d1 c2 d2 c3 d3 c4 d4 cl dl cz dz pa0 pa1 pb0 pb1
 subst ra rb
 have z0 := ad_zero c1.1 d1.1
 have g0 : List.getD [r0, r1] 0 [] = r0 := rfl
 have g1 : List.getD [r0, r1] 1 [] = r1 := rfl
 have e0 : List.getD [s0, s1] 0 [] = s0 := rfl
 have e1 : List.getD [s0, s1] 1 [] = s1 := rfl
 simp only [mrg, g0, g1, e0, e1]
 have cells : ∀ {u v : List Int}, (∀ x ∈ u, (0 ≤ x ∧ x ≤ 1000000000) ∧ (a1 = 0 → x = 0)) → (∀ x ∈ v, (0 ≤ x ∧ x ≤ 1000000000) ∧ (b1 = 0 → x = 0)) → ∀ x ∈ List.zipWith ad u v, (0 ≤ x ∧ x ≤ 1000000000) ∧ (ad a1 b1 = 0 → x = 0) := by
  intro u v hu hv
  refine zip_all fun x hx y hy => ⟨ad_rng x y, fun q => ?_⟩
  have := z0.1 q
  have e1 := (hu x hx).2 this.1
  have e2 := (hv y hy).2 this.2
  rw [e1, e2]; rfl
 refine ⟨ad_rng _ _, ad_rng _ _, ?_, ?_, ?_, ⟨_, _, rfl, ⟨by simp [la0, lb0], cells pa0 pb0⟩, ⟨by simp [la1, lb1], cells pa1 pb1⟩⟩, fun q => ?_, ⟨by simp [h5.1, k5.1], cells h5.2 k5.2⟩, ⟨by simp [h6.1, k6.1], zip_all fun x hx y hy => ⟨?_, fun q => ?_⟩⟩⟩
 ·simp only; split <;> (try split) <;> omega
 ·simp only; omega
 ·simp only; split <;> (try split) <;> omega
 ·have := z0.1 q
  have q1 := cz this.1
  have q2 := dz this.2
  simp only
  refine ⟨?_, by omega⟩
  rw [q1.1, q2.1]; rfl
 ·have := (h6.2 x hx).1
  have := (k6.2 y hy).1
  omega
 ·have := z0.1 q
  have e1 := (h6.2 x hx).2 this.1
  have e2 := (k6.2 y hy).2 this.2
  omega
end Go.Proofs.YtppjdpcmaipoaaaGreat.Tw
namespace Go.Mach
def Sml (l : List Sp2) : Prop := ∀ x ∈ l, x.1 ≤ x.2 ∧ 0 ≤ x.1 ∧ x.2 ≤ 1000000
end Go.Mach
namespace Go.Proofs.YtppjdpcmaipoaaaGreat.Tw
open Go.Mach
set_option linter.unusedVariables false
set_option linter.unusedSimpArgs false
set_option maxRecDepth 20000
theorem l5Copy_eq {l : List SpT} (h : l.length ≤ 1048576) : Kcn l = some l := by
 simp only [Kcn]; rw [fitsC (by omega) (by omega)]; rfl
theorem put_done {s : List SpT} {x : SpT} (hx : 0 ≤ x.1 ∧ x.1 ≤ x.2 ∧ x.2 ≤ 1000000) (hs : s.length ≤ 1048576) : ∀ (r p out : List SpT) (f : Nat), s = p ++ r → r.length < f → out.length ≤ p.length + 2 → (∀ y ∈ r, x.2 + 1 < y.1 ∧ y.1 ≤ y.2 ∧ y.2 ≤ 1000000) →
  iter Km_s122 f (s, x, out, true, (p.length : Int)) = some (x, out ++ r, true)
 | [], p, out, f, hp, hf, ho, _ => by
  obtain ⟨x1, x2⟩ := x
  cases f with
  | zero => simp at hf
  | succ f =>
   have e : s.length = p.length := by rw [hp]; simp
   simp only [iter, Km_s122, lnn, e, ltF, cond_false, List.append_nil]
 | y :: r, p, out, f, hp, hf, ho, hy => by
  obtain ⟨x1, x2⟩ := x
  obtain ⟨y1, y2⟩ := y
  cases f with
  | zero => simp at hf
  | succ f =>
   have e : s.length = p.length + (r.length + 1) := by rw [hp]; simp
   have hi : p.length < s.length := by omega
   have hg : s.getD p.length (0, 0) = (y1, y2) := by rw [hp]; simp [List.getD_eq_getElem?_getD]
   have q := hy (y1, y2) (by simp)
   simp only at q hx
   have c1 : decide (w64 (y2 + 1) < x1) = false := by rw [w64_ok (by omega) (by omega)]; exact dF (by omega)
   have c2 : decide (y1 > w64 (x2 + 1)) = true := by rw [w64_ok (by omega) (by omega)]; exact dT (by omega)
   have := put_done (x := (x1, x2)) hx hs r (p ++ [(y1, y2)]) (out ++ [(y1, y2)]) f (by rw [hp]; simp) (by simp at hf; omega) (by simp; omega) fun z hz => hy z (by simp [hz])
   have e2 : ((p ++ [(y1, y2)]).length : Int) = ((p.length + 1 : Nat) : Int) := by simp
   rw [e2] at this
   simp only [iter, Km_s122, lnn, ltn hi, cond_true, ixn hi, gxn, hg, Option.bind_some, c1, c2, cond_false, Bool.not_true, wsucc (show p.length ≤ 1048576 by omega)]
   rw [fitsC (by simp; omega) (by omega)]
   simp only
   rw [this]
   simp
theorem put_loop {s : List SpT} (hs : s.length ≤ 1048576) : ∀ (r p out : List SpT) (x : SpT) (f : Nat), 0 ≤ x.1 ∧ x.1 ≤ x.2 ∧ x.2 ≤ 1000000 → s = p ++ r → r.length < f → out.length ≤ p.length → Canon r → (∀ y ∈ r, 0 ≤ y.1 ∧ y.2 ≤ 1000000) →
  ∃ x' o g, iter Km_s122 f (s, x, out, false, (p.length : Int)) = some (x', o, g) ∧ (bif !g then o ++ [x'] else o) = out ++ putS r x ∧ o.length ≤ s.length + 2
 | [], p, out, x, f, hx, hp, hf, ho, _, _ => by
  obtain ⟨x1, x2⟩ := x
  cases f with
  | zero => simp at hf
  | succ f =>
   have e : s.length = p.length := by rw [hp]; simp
   refine ⟨(x1, x2), out, false, ?_, by simp [putS], by omega⟩
   simp only [iter, Km_s122, lnn, e, ltF, cond_false]
 | y :: r, p, out, x, f, hx, hp, hf, ho, hc, hy => by
  obtain ⟨x1, x2⟩ := x
  obtain ⟨y1, y2⟩ := y
  cases f with
  | zero => simp at hf
  | succ f =>
   have e : s.length = p.length + (r.length + 1) := by rw [hp]; simp
   have hi : p.length < s.length := by omega
   have hg : s.getD p.length (0, 0) = (y1, y2) := by rw [hp]; simp [List.getD_eq_getElem?_getD]
   have q := hy (y1, y2) (by simp)
   have q' := hc.1
   simp only at q q' hx
   have w1 : w64 (y2 + 1) = y2 + 1 := w64_ok (by omega) (by omega)
   have w2 : w64 (x2 + 1) = x2 + 1 := w64_ok (by omega) (by omega)
   have e2 : ((p ++ [(y1, y2)]).length : Int) = ((p.length + 1 : Nat) : Int) := by simp
   by_cases c1 : y2 + 1 < x1
   ·obtain ⟨x', o, g, g1, g2, g3⟩ := put_loop hs r (p ++ [(y1, y2)]) (out ++ [(y1, y2)]) (x1, x2) f hx (by rw [hp]; simp) (by simp at hf; omega) (by simp; omega) hc.2.2 fun z hz => hy z (by simp [hz])
    rw [e2] at g1
    refine ⟨x', o, g, ?_, by rw [g2]; simp [putS, c1], g3⟩
    simp only [iter, Km_s122, lnn, ltn hi, cond_true, ixn hi, gxn, hg, Option.bind_some, w1, dT c1, wsucc (show p.length ≤ 1048576 by omega)]
    rw [fitsC (by simp; omega) (by omega)]
    simp only
    exact g1
   ·by_cases c2 : y1 > x2 + 1
    ·have := put_done (x := (x1, x2)) hx hs r (p ++ [(y1, y2)]) (out ++ [(x1, x2)] ++ [(y1, y2)]) f (by rw [hp]; simp) (by simp at hf; omega) (by simp; omega) fun z hz => by
      have z1 := hc.2.1 z hz
      have z2 := hc.2.2.mem z hz
      have z3 := hy z (by simp [hz])
      simp only at z1
      exact ⟨by simp only; omega, z2, z3.2⟩
     rw [e2] at this
     refine ⟨(x1, x2), out ++ [(x1, x2)] ++ [(y1, y2)] ++ r, true, ?_, by simp [putS, c1, c2], by simp; omega⟩
     simp only [iter, Km_s122, lnn, ltn hi, cond_true, ixn hi, gxn, hg, Option.bind_some, w1, w2, dF c1, cond_false, dT c2, Bool.not_false, wsucc (show p.length ≤ 1048576 by omega)]
     rw [fitsC (by simp; omega) (by omega), fitsC (by simp; omega) (by omega)]
     simp only
     exact this
    ·obtain ⟨x', o, g, g1, g2, g3⟩ := put_loop hs r (p ++ [(y1, y2)]) out (min x1 y1, max x2 y2) f (by simp only; omega) (by rw [hp]; simp) (by simp at hf; omega) (by simp; omega) hc.2.2 fun z hz => hy z (by simp [hz])
     rw [e2] at g1
     refine ⟨x', o, g, ?_, by rw [g2]; simp [putS, c1, c2], g3⟩
     simp only [iter, Km_s122, lnn, ltn hi, cond_true, ixn hi, gxn, hg, Option.bind_some, w1, w2, dF c1, cond_false, dF c2, specMin_eq, specMax_eq, wsucc (show p.length ≤ 1048576 by omega)]
     exact g1
theorem put_eq {s : List SpT} {x : SpT} (hs : s.length ≤ 1048576) (hx : 0 ≤ x.1 ∧ x.1 ≤ x.2 ∧ x.2 ≤ 1000000) (hc : Canon s) (hy : ∀ y ∈ s, 0 ≤ y.1 ∧ y.2 ≤ 1000000) : Km (s, x) = some (putS s x) := by
 obtain ⟨x', o, g, g1, g2, g3⟩ := put_loop hs s [] [] x bigN hx rfl (by simp only [bigN]; omega) (by simp) hc hy
 obtain ⟨x1, x2⟩ := x
 obtain ⟨d, e⟩ := x'
 have g1' : lp Km_s122 (s, (x1, x2), [], false, 0) = some ((d, e), o, g) := g1
 simp only [Km, g1', Option.bind_some]
 simp only [List.nil_append] at g2
 rw [← g2]
 cases g
 ·simp only [Bool.not_false, cond_true]
  rw [fitsC (by simp; omega) (by omega)]
 ·simp only [Bool.not_true, cond_false]
theorem putS_small : ∀ {s : List SpT} {x : SpT}, (∀ y ∈ s, 0 ≤ y.1 ∧ y.2 ≤ 1000000) → 0 ≤ x.1 → x.2 ≤ 1000000 → ∀ y ∈ putS s x, 0 ≤ y.1 ∧ y.2 ≤ 1000000
 | [], x, _, h1, h2, y, hy => by
  simp only [putS, List.mem_singleton] at hy
  rw [hy]; exact ⟨h1, h2⟩
 | z :: r, x, hs, h1, h2, y, hy => by
  have hz := hs z (by simp)
  simp only [putS] at hy
  split at hy
  ·rcases List.mem_cons.1 hy with rfl | hy
   ·exact hz
   ·exact putS_small (fun w hw => hs w (by simp [hw])) h1 h2 y hy
  ·split at hy
   ·rcases List.mem_cons.1 hy with rfl | hy
    ·exact ⟨h1, h2⟩
    ·exact hs y hy
   ·exact putS_small (fun w hw => hs w (by simp [hw])) (by simp only; omega) (by simp only; omega) y hy
theorem putS_length : ∀ {s : List SpT} {x : SpT}, (putS s x).length ≤ s.length + 1
 | [], x => by simp [putS]
 | z :: r, x => by
  simp only [putS]
  split
  ·have := putS_length (s := r) (x := x); simp; omega
  ·split
   ·simp
   ·have := putS_length (s := r) (x := (min x.1 z.1, max x.2 z.2)); simp; omega
theorem join_eq {a b : List SpT} (hl : a.length + b.length ≤ 1048576) (hc : Canon a) (ha : ∀ y ∈ a, 0 ≤ y.1 ∧ y.2 ≤ 1000000) (hb : Sml b) : Kao (a, b) = some (b.foldl putS a) := by
 have h := lp_fold (S := Kao_s58) b (0, 0) (fun (out : List SpT) (i : Nat) => (b, out, (i : Int))) putS (fun out => out)
  (fun out i => Canon out ∧ (∀ y ∈ out, 0 ≤ y.1 ∧ y.2 ≤ 1000000) ∧ out.length ≤ a.length + i) (by omega) (fun out i hi hI hm => by
   obtain ⟨I1, I2, I3⟩ := hI
   obtain ⟨q1, q2, q3⟩ := hb _ hm
   refine ⟨?_, (putS_ok I1 q1).1, putS_small I2 q2 q3, by have := putS_length (s := out) (x := b.getD i (0, 0)); omega⟩
   have := put_eq (x := b.getD i (0, 0)) (by omega) ⟨q2, q1, q3⟩ I1 I2
   simp only [Kao_s58, lnn, ltn hi, cond_true, ixn hi, gxn, Option.bind_some, wsucc (show i ≤ 1048576 by omega)]
   have e : ((b.getD i (0, 0)).1, (b.getD i (0, 0)).2) = b.getD i (0, 0) := rfl
   rw [e, this]
   rfl) (fun out hI => by simp only [Kao_s58, lnn, ltF, cond_false]) (a0 := a) ⟨hc, ha, by omega⟩
 rw [cast0] at h
 simp only [Kao, l5Copy_eq (show a.length ≤ 1048576 by omega), Option.bind_some, h]
end Go.Proofs.YtppjdpcmaipoaaaGreat.Tw
namespace Go.Mach
theorem canon_len : ∀ {s : List Sp2} {a b : Int}, Canon s → (∀ x ∈ s, a ≤ x.1 ∧ x.2 ≤ b) → 2 * (s.length : Int) ≤ max 0 (b - a + 2)
 | [], a, b, _, _ => by simp; omega
 | x :: r, a, b, hc, h => by
  have h1 := h x List.mem_cons_self
  have h2 := hc.1
  have := canon_len (s := r) (a := a + 2) (b := b) hc.2.2 fun y hy => ⟨by have := hc.2.1 y hy; omega, (h y (List.mem_cons_of_mem _ hy)).2⟩
  simp only [List.length_cons]
  omega
theorem nrm_app {a b : List Sp2} (ha : ∀ x ∈ a, x.1 ≤ x.2) (hb : ∀ x ∈ b, x.1 ≤ x.2) : nrm (nrm a ++ b) = nrm (a ++ b) := by
 obtain ⟨g1, g2⟩ := nrm_ok ha
 have hab : ∀ x ∈ a ++ b, x.1 ≤ x.2 := fun x hx => (List.mem_append.1 hx).elim (ha x) (hb x)
 obtain ⟨q1, q2⟩ := nrm_ok hab
 refine nrm_uniq (fun x hx => (List.mem_append.1 hx).elim (g1.mem x) (hb x)) q1 fun n => ?_
 rw [q2, hasN_append, hasN_append, g2]
theorem nrm_rng {a : List Sp2} {lo hi : Int} (h : ∀ x ∈ a, x.1 ≤ x.2 ∧ lo ≤ x.1 ∧ x.2 ≤ hi) : ∀ x ∈ nrm a, lo ≤ x.1 ∧ x.2 ≤ hi := by
 obtain ⟨g1, g2⟩ := nrm_ok fun x hx => (h x hx).1
 intro x hx
 have hx' := g1.mem x hx
 obtain ⟨y, hy, y1, y2⟩ := (g2 x.1).1 ⟨x, hx, Int.le_refl _, hx'⟩
 obtain ⟨z, hz, z1, z2⟩ := (g2 x.2).1 ⟨x, hx, hx', Int.le_refl _⟩
 have := h y hy
 have := h z hz
 omega
end Go.Mach
namespace Go.Proofs.YtppjdpcmaipoaaaGreat.Tw
open Go.Mach
set_option linter.unusedVariables false
set_option linter.unusedSimpArgs false
set_option maxRecDepth 20000
def EnsOk (l : List EnT) : Prop := ∀ e ∈ l, EnOk e
def flat : List EnT → List SpT
 | [] => []
 | e :: r => e.2.2.1 ++ flat r
theorem flat_app : ∀ {a b : List EnT}, flat (a ++ b) = flat a ++ flat b
 | [], b => rfl
 | e :: r, b => by simp only [List.cons_append, flat, flat_app (a := r), List.append_assoc]
theorem flat_mem : ∀ {l : List EnT} {x : SpT}, x ∈ flat l → ∃ e ∈ l, x ∈ e.2.2.1
 | e :: r, x, h => by
  simp only [flat] at h
  rcases List.mem_append.1 h with h | h
  ·exact ⟨e, List.mem_cons_self, h⟩
  ·obtain ⟨e', h1, h2⟩ := flat_mem h
   exact ⟨e', List.mem_cons_of_mem _ h1, h2⟩
theorem flat_rng {l : List EnT} (h : EnsOk l) : ∀ x ∈ flat l, x.1 ≤ x.2 ∧ 0 ≤ x.1 ∧ x.2 ≤ 9999 := by
 intro x hx
 obtain ⟨e, h1, h2⟩ := flat_mem hx
 exact ⟨(h e h1).ids.mem x h2, (h e h1).bnd x h2⟩
def msk (s : SkT) (l : List EnT) : SkT := l.foldl (fun s e => mrg s e.2.2.2) s
theorem msk_ok : ∀ {l : List EnT} {s : SkT}, SkOk s → EnsOk l → SkOk (msk s l)
 | [], s, h, _ => h
 | e :: r, s, h, hl => msk_ok (l := r) (mrg_ok h (hl e List.mem_cons_self).sk) fun x hx => hl x (List.mem_cons_of_mem _ hx)
theorem msk_snoc {l : List EnT} {s : SkT} {e : EnT} : msk s (l ++ [e]) = mrg (msk s l) e.2.2.2 := by simp [msk]
def tot (e : EnT) (r : List EnT) : EnT := (e.1, e.2.1, nrm (flat (e :: r)), msk e.2.2.2 r)
def addE (a b : EnT) : EnT := (a.1, a.2.1, nrm (a.2.2.1 ++ b.2.2.1), mrg a.2.2.2 b.2.2.2)
theorem tot_one {e : EnT} (h : EnOk e) : tot e [] = e := by
 obtain ⟨a, b, c, d⟩ := e
 have : nrm (c ++ []) = c := by rw [List.append_nil]; exact nrm_can h.ids
 simp only [tot, flat, msk, List.foldl_nil, this]
theorem tot_snoc {e x : EnT} {r : List EnT} (h : EnsOk (e :: r)) (hx : EnOk x) : tot e (r ++ [x]) = addE (tot e r) x := by
 have h1 : ∀ y ∈ flat (e :: r), y.1 ≤ y.2 := fun y hy => (flat_rng h y hy).1
 have h2 : nrm (flat (e :: (r ++ [x]))) = nrm (nrm (flat (e :: r)) ++ x.2.2.1) := by
  rw [nrm_app h1 hx.ids.mem]
  congr 1
  simp only [flat, flat_app, List.append_nil, List.append_assoc]
 simp only [tot, addE, h2, msk_snoc]
theorem tot_ok {e : EnT} {r : List EnT} (h : EnsOk (e :: r)) : EnOk (tot e r) := by
 have he := h e List.mem_cons_self
 obtain ⟨g1, g2⟩ := nrm_ok fun y hy => (flat_rng h y hy).1
 refine ⟨he.key, he.win, g1, nrm_rng (flat_rng h), fun q => ?_, msk_ok he.sk fun x hx => h x (List.mem_cons_of_mem _ hx)⟩
 obtain ⟨x, hx⟩ := List.exists_mem_of_ne_nil _ he.some_
 have := (g2 x.1).2 ⟨x, by simp only [flat]; exact List.mem_append_left _ hx, Int.le_refl _, he.ids.mem x hx⟩
 have q' : nrm (flat (e :: r)) = [] := q
 rw [q'] at this
 exact hasN_nil _ this
theorem EnOk.len {e : EnT} (h : EnOk e) : e.2.2.1.length ≤ 5001 := by
 have := canon_len (a := 0) (b := 9999) h.ids h.bnd
 omega
theorem EnOk.toLe {e : EnT} (h : EnOk e) : EnLe 5001 e := ⟨h.len, h.sk.toLe.mono (by omega)⟩
theorem EnLe.mono {a b : Nat} {e : EnT} (h : EnLe a e) (hab : a ≤ b) : EnLe b e := ⟨Nat.le_trans h.1 hab, h.2.mono hab⟩
theorem EnOk.sml {e : EnT} (h : EnOk e) : Sml e.2.2.1 := fun x hx => ⟨h.ids.mem x hx, (h.bnd x hx).1, by have := (h.bnd x hx).2; omega⟩
def isAt (k w : Int) (e : EnT) : Bool := e.1 == k && e.2.1 == w
def before (p q : Int × Int) : Bool := decide (p.1 < q.1) || (p.1 == q.1 && decide (p.2 < q.2))
def same (z e : EnT) : Prop := z.1 = e.1 ∧ z.2.1 = e.2.1
def gtE (z e : EnT) : Prop := z.1 > e.1 ∨ (z.1 = e.1 ∧ z.2.1 > e.2.1)
instance (z e : EnT) : Decidable (same z e) := by unfold same; infer_instance
instance (z e : EnT) : Decidable (gtE z e) := by unfold gtE; infer_instance
def ins : List EnT → EnT → List EnT
 | [], e => [e]
 | s :: r, e => if same s e then addE s e :: r else if gtE s e then e :: s :: r else s :: ins r e
def more (f : Int × Int → Option EnT) (e : EnT) (p : Int × Int) : Option EnT := if p.1 = e.1 ∧ p.2 = e.2.1 then some (match f p with | none => e | some s => addE s e) else f p
def fg (e : EnT) : List EnT → Nat
 | [] => 0
 | y :: r => if gtE y e then 0 else fg e r + 1
theorem fg_le (e : EnT) : ∀ l, fg e l ≤ l.length
 | [] => Nat.le_refl _
 | y :: r => by
  have := fg_le e r
  simp only [fg, List.length_cons]
  split <;> omega
def back (e : EnT) : List EnT → List EnT → List EnT ⊕ List EnT
 | [], r => .inr r
 | z :: q, r => if same z e then .inl (q.reverse ++ addE z e :: r) else back e q (z :: r)
theorem back_inl {e : EnT} : ∀ {q r x : List EnT}, back e q r = .inl x → ∃ a z b, q.reverse ++ r = a ++ z :: b ∧ same z e ∧ x = a ++ addE z e :: b
 | [], r, x, h => by simp [back] at h
 | z :: q, r, x, h => by
  simp only [back] at h
  split at h
  ·rename_i hs
   simp only [Sum.inl.injEq] at h
   exact ⟨q.reverse, z, r, by simp, hs, h.symm⟩
  ·obtain ⟨a, z', b, h1, h2, h3⟩ := back_inl h
   exact ⟨a, z', b, by rw [← h1]; simp, h2, h3⟩
theorem back_inr {e : EnT} : ∀ {q r x : List EnT}, back e q r = .inr x → x = q.reverse ++ r ∧ ∀ z ∈ q, ¬ same z e
 | [], r, x, h => by simp only [back, Sum.inr.injEq] at h; exact ⟨by simp [h], by simp⟩
 | z :: q, r, x, h => by
  simp only [back] at h
  split at h
  ·simp at h
  ·rename_i hs
   obtain ⟨h1, h2⟩ := back_inr h
   refine ⟨by rw [h1]; simp, fun y hy => ?_⟩
   rcases List.mem_cons.1 hy with rfl | hy
   ·exact hs
   ·exact h2 y hy
theorem ins_none {e : EnT} : ∀ {l : List EnT}, (∀ z ∈ l, ¬ same z e) → ins l e = l.take (fg e l) ++ e :: l.drop (fg e l)
 | [], _ => rfl
 | y :: r, h => by
  have ih := ins_none (l := r) fun z hz => h z (List.mem_cons_of_mem _ hz)
  simp only [ins, fg]
  rw [if_neg (h y List.mem_cons_self)]
  split
  ·simp
  ·rw [ih]; simp
theorem ins_some {e z : EnT} : ∀ {a b : List EnT}, (a ++ z :: b).Pairwise (fun x y => gtE y x) → same z e → ins (a ++ z :: b) e = a ++ addE z e :: b
 | [], b, _, hs => by simp only [List.nil_append, ins, if_pos hs]
 | y :: a, b, hp, hs => by
  obtain ⟨p1, p2⟩ := List.pairwise_cons.1 hp
  have hz : gtE z y := p1 z (by simp)
  have n1 : ¬ same y e := by unfold same gtE at *; omega
  have n2 : ¬ gtE y e := by unfold same gtE at *; omega
  simp only [List.cons_append, ins]
  rw [if_neg n1, if_neg n2, ins_some p2 hs]
theorem back_ins {e : EnT} {l : List EnT} (hp : l.Pairwise (fun x y => gtE y x)) : (match back e l.reverse [] with | .inl x => x | .inr x => x.take (fg e x) ++ e :: x.drop (fg e x)) = ins l e := by
 cases h : back e l.reverse [] with
 | inl x =>
  obtain ⟨a, z, b, h1, h2, rfl⟩ := back_inl h
  simp only [List.reverse_reverse, List.append_nil] at h1
  subst h1
  exact (ins_some hp h2).symm
 | inr x =>
  obtain ⟨h1, h2⟩ := back_inr h
  simp only [List.reverse_reverse, List.append_nil] at h1
  subst h1
  exact (ins_none fun z hz => h2 z (by simpa using hz)).symm
end Go.Proofs.YtppjdpcmaipoaaaGreat.Tw
